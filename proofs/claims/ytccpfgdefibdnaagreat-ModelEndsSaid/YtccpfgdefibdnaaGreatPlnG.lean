import Derived.Test.YtccpfgdefibdnaaGreatPlnB
namespace Go.Proofs.YtccpfgdefibdnaaGreat
open Go Go.Fw
set_option linter.unusedVariables false
set_option linter.unusedSimpArgs false
theorem shr1 (i:Int):shr .u64 i 1=i / 2:=by
  unfold shr
  rw [Int.fdiv_eq_ediv_of_nonneg _ (by decide)]; rfl
theorem shr1' (i:Int):shr .i64 i 1=i / 2:=by
  unfold shr
  rw [Int.fdiv_eq_ediv_of_nonneg _ (by decide)]; rfl
theorem mid_eq {a b:Int} (h0:0≤a) (h1:0≤b) (h2:a≤1000000) (h3:b≤1000000):w64 (shr .u64 (IntKind.wrap .u64 (w64 (a+b))) 1)=(a+b) / 2:=by
  rw [w64_id (x:=a+b) (by omega) (by omega),wrap_u64_id (by omega) (by omega),shr1,w64_id (by omega) (by omega)]
theorem cmpc_neg (x y:Int):cmpc x y<0↔x<y:=by unfold cmpc; split <;> (try split) <;> omega
theorem cmpc_zero (x y:Int):cmpc x y=0↔x=y:=by unfold cmpc; split <;> (try split) <;> omega
theorem spvec_Get_ok {v:Vec} {i:Int} {Q:Int×Bool→Prop} (hl:v.Items.length≤1000000000) (hQ:Q (getO (lkI (sureV v).Items i))):spvec_Get v i Q:=by
  unfold spvec_Get
  refine spvec_sure_ok hl ?_
  have hP:=sureV_ok v
  generalize sureV v=w at hP hQ
  have hi:=hP.inc
  have hlen:=hP.len
  unfold spvec_find slices_BinarySearchFunc_api_Item_api_Item_int_8a3 spvec_order_7ac
  refine loop_intro (fun s:Int×Int=>0≤s.1∧s.1≤s.2∧s.2≤w.Items.length∧(∀ (k:Nat) (hk:k<w.Items.length),(k:Int)<s.1→(w.Items[k]).At<i)∧(∀ (k:Nat) (hk:k<w.Items.length),s.2≤(k:Int)→¬(w.Items[k]).At<i)) (fun s=>(s.2 - s.1).toNat) ⟨by simp,by simp,by simp,fun k hk h=>by simp at h; omega,fun k hk h=>by simp at h; omega⟩ ?_
  rintro ⟨a,b⟩ next ⟨h0,h1,h2,h3,h4⟩ hn
  simp only at h0 h1 h2 h3 h4
  refine ifP_dec (fun hab=>?_) (fun hab=>?_)
  · rw [mid_eq h0 (by omega) (by omega) (by omega)]
    obtain ⟨m,hm⟩:∃ m:Nat,(a+b) / 2=(m:Int):=⟨((a+b) / 2).toNat,by omega⟩
    rw [hm]
    have hml:m<w.Items.length:=by omega
    refine idxP_nat hml (cmp_int_ok (ifP_dec (fun hc=>?_) (fun hc=>?_)))
    · rw [cmpc_neg] at hc
      rw [w64_id (by omega) (by omega)]
      refine hn _ ⟨by simp only; omega,by simp only; omega,h2,fun k hk hkm=>?_,h4⟩ (by simp only; omega)
      simp only at hkm
      by_cases e:k=m
      · subst e; exact hc
      · have:=hi.at hml (by omega:k<m); omega
    · rw [cmpc_neg] at hc
      refine hn _ ⟨h0,by simp only; omega,by simp only; omega,h3,fun k hk hkm=>?_⟩ (by simp only; omega)
      simp only at hkm
      by_cases e:k=m
      · subst e; exact hc
      · have:=hi.at hk (by omega:m<k); omega
  · have hab':a=b:=by omega
    subst hab'
    obtain ⟨m,rfl⟩:∃ m:Nat,a=(m:Int):=⟨a.toNat,by omega⟩
    refine ifP_dec (fun hm=>?_) (fun hm=>?_)
    · have hml:m<w.Items.length:=by omega
      refine idxP_nat hml (cmp_int_ok ?_)
      by_cases e:(w.Items[m]).At=i
      · have hb:(cmpc (w.Items[m]).At i==0)=true:=by rw [beq_iff_eq,cmpc_zero]; exact e
        dsimp only
        rw [hb]
        refine ifP_neg rfl (idxP_nat hml ?_)
        have:=mem_lkI hi (List.getElem_mem hml)
        rw [e] at this
        rw [this] at hQ
        exact hQ
      · have hb:(cmpc (w.Items[m]).At i==0)=false:=by rw [beq_eq_false_iff_ne,Ne,cmpc_zero]; exact e
        dsimp only
        rw [hb]
        refine ifP_pos rfl ?_
        rw [lkI_none fun s hs=>?_] at hQ
        · exact hQ
        · obtain ⟨k,hk,rfl⟩:=List.getElem_of_mem hs
          by_cases hkm:k<m
          · have:=h3 k hk (by omega); omega
          · by_cases hkm':k=m
            · subst hkm'; exact e
            · have h5:=hi.at hk (by omega:m<k); have h6:=h4 m hml (by omega); omega
    · refine ifP_pos rfl ?_
      rw [lkI_none fun s hs=>?_] at hQ
      · exact hQ
      · obtain ⟨k,hk,rfl⟩:=List.getElem_of_mem hs
        have:=h3 k hk (by omega); omega
def zSt:State:=⟨0,0,[],[],[]⟩
def sizN (s:State):Nat:=(s.High - s.Low).toNat
def StP (p:Plan) (s:State):Prop:=rightPl p=0∧0≤s.Low∧s.Low≤s.High∧s.High≤p.N∧s.A.length=sizN s∧s.B.length=sizN s∧rightF s.On (s.High - s.Low)
instance (p:Plan) (s:State):Decidable (StP p s):=by unfold StP; infer_instance
def sureSt (p:Plan) (s:State):State:=if StP p s then s else zSt
def okSt (s:State):Prop:=okF s.On∧s.On.length≤1000000
theorem prog_sure_ok {p:Plan} {s:State} {Q:State→Prop} (ho:okSt s) (hQ:Q (sureSt p s)):prog_sure p s Q:=by
  unfold prog_sure prog_can
  have hb (h:¬StP p s):ifP false (Q s) (Q zSt):=ifP_neg rfl (by unfold sureSt at hQ; rwa [if_neg h] at hQ)
  refine prog_Right_ok (ifP_ne (fun h=>hb fun h'=>h h'.1) (fun h=>?_))
  have hr:=rightPl_zero h
  refine ifP_dec (fun h1=>hb fun h'=>by have:=h'.2.1; omega) (fun h1=>ifP_dec (fun h2=>hb fun h'=>by have:=h'.2.2.1; omega) (fun h2=>ifP_dec (fun h3=>hb fun h'=>by have:=h'.2.2.2.1; omega) (fun h3=>?_)))
  rw [w64_id (x:=s.High - s.Low) (by omega) (by omega)]
  refine ifP_eq (fun h4=>ifP_eq (fun h5=>?_) (fun h5=>hb fun h'=>by have:=h'.2.2.2.2.2.1; unfold sizN at this; omega)) (fun h4=>hb fun h'=>by have:=h'.2.2.2.2.1; unfold sizN at this; omega)
  refine flags_Right_ok ho.1 ho.2 (ifP_dec (fun h6=>?_) (fun h6=>?_))
  · unfold sureSt at hQ
    rwa [if_pos ⟨h,by omega,by omega,by omega,by unfold sizN; omega,by unfold sizN; omega,h6⟩] at hQ
  · have:¬StP p s:=fun h'=>h6 h'.2.2.2.2.2.2
    unfold sureSt at hQ
    rwa [if_neg this] at hQ
def mapN {β:Type} (n:Nat) (f:Nat→β):List β:=(List.range n).map f
def onsN (n:Nat) (f:Nat→Bool):List Int:=((List.range n).filter f).map fun i:Nat=>(i:Int)
theorem mapN_succ {β:Type} (n:Nat) (f:Nat→β):mapN (n+1) f=mapN n f++[f n]:=by simp [mapN,List.range_succ]
theorem mapN_len {β:Type} (n:Nat) (f:Nat→β):(mapN n f).length=n:=by simp [mapN]
theorem onsN_succ (n:Nat) (f:Nat→Bool):onsN (n+1) f=if f n then onsN n f++[(n:Int)] else onsN n f:=by
  unfold onsN
  rw [List.range_succ,List.filter_append,List.map_append]
  split <;> simp_all [List.filter_cons]
theorem onsN_len (n:Nat) (f:Nat→Bool):(onsN n f).length≤n:=by
  unfold onsN
  rw [List.length_map]
  exact Nat.le_trans (List.length_filter_le _ _) (by simp)
theorem onsN_in {n:Nat} {f:Nat→Bool} {x:Int} (h:x∈onsN n f):0≤x∧x<n:=by
  obtain ⟨i,hi,rfl⟩:=List.mem_map.1 h
  have:=List.mem_range.1 (List.mem_filter.1 hi).1
  omega
theorem mapN_at {n:Nat} {f:Nat→Int} {i:Nat} (h:i<n):at0 (mapN n f) i=f i:=by
  unfold at0 mapN
  simp [List.getD_eq_getElem?_getD,h]
theorem mapN_congr {β:Type} {n:Nat} {f g:Nat→β} (h:∀ i,i<n→f i=g i):mapN n f=mapN n g:=List.map_congr_left fun i hi=>h i (List.mem_range.1 hi)
theorem onsN_congr {n:Nat} {f g:Nat→Bool} (h:∀ i,i<n→f i=g i):onsN n f=onsN n g:=by
  unfold onsN; rw [List.filter_congr fun i hi=>h i (List.mem_range.1 hi)]
def chS (low high:Int) (n:Nat) (g:Nat→Int×Int×Bool):State:=⟨low,high,mapN n fun i=>(g i).1,mapN n fun i=>(g i).2.1,ofF n (onsN n fun i=>(g i).2.2)⟩
theorem changed_loop {n:Nat} (hn:n≤4096) {F:Int→((Int×Int×Bool)→Prop)→Prop} {g:Nat→Int×Int×Bool} (hF:∀ (i:Nat) K,i<n→K (g i)→F i K) {low high:Int} {Q:State→Prop} (hQ:Q (chS low high n g)) :
    loopP (fun (s:(List Int)×(List Int)×(List Int)×Int) (next161:((List Int)×(List Int)×(List Int)×Int)→Prop)=>match s with | (s145,s149,s153,s157)=>ifP (decide (s157<(n:Int))) (F s157 fun r181=>appP 8 s145 ([r181.1]) fun _=>appP 8 s149 ([r181.2.1]) fun _=>ifP r181.2.2 (appP 8 s153 ([s157]) fun _=>next161 ((s145++([r181.1])),(s149++([r181.2.1])),(s153++([s157])),w64 (s157+1))) (next161 ((s145++([r181.1])),(s149++([r181.2.1])),s153,w64 (s157+1)))) (flags_Of (n:Int) s153 fun r206=>Q ({ Low:=low,High:=high,A:=s145,B:=s149,On:=r206 }:State))) (([]:List Int),([]:List Int),([]:List Int),0):=by
  refine range_intro (fun (s:List Int×List Int×List Int) i=>(s.1,s.2.1,s.2.2,i)) 0 n (by omega) (fun i s=>s=(mapN i fun i=>(g i).1,mapN i fun i=>(g i).2.1,onsN i fun i=>(g i).2.2)) (by omega) rfl (fun i s next _ hi hm hnx=>?_) (fun s next hm=>?_) (s0:=([],[],[]))
  · subst hm
    have hol:=onsN_len i fun i=>(g i).2.2
    refine ifP_dec (fun _=>hF i _ hi (appP_intro (by simp [mapN]; omega) (appP_intro (by simp [mapN]; omega) ?_))) (fun h=>by omega)
    have hs:=onsN_succ i fun i=>(g i).2.2
    cases hb:(g i).2.2 with
    | true=>
      refine ifP_pos rfl (appP_intro (by simp; omega) (hnx (_,_,_) ?_))
      simp only [mapN_succ,hs,hb,if_true]
    | false=>
      refine ifP_neg rfl (hnx (_,_,_) ?_)
      simp only [mapN_succ,hs,hb,Bool.false_eq_true,if_false]
  · subst hm
    refine ifP_dec (fun h=>by omega) (fun _=>?_)
    have hol:=onsN_len n fun i=>(g i).2.2
    exact flags_Of_ok (by simp only; omega) (fun x hx=>by have:=onsN_in hx; unfold inI; omega) hQ
def infI:Int:=4611686018427387904
def firstS (p:Plan) (v:Int):Int×Bool:=
  if p.Kind=3 then (v,true) else if p.Kind=5 then (0,false) else if p.Kind=4∧v=p.Source then (1,true) else if v=p.Source then (0,true) else if p.Kind=4 then (0,false) else if p.Kind=1 then (-1,false) else (infI,false)
theorem prog_first_ok {p:Plan} {v:Int} {Q:Int×Bool→Prop} (hQ:Q (firstS p v)):prog_first p v Q:=by
  unfold prog_first joinP
  unfold firstS at hQ
  refine ifP_eq (fun h=>by rwa [if_pos h] at hQ) (fun h3=>ifP_eq (fun h=>by rwa [if_neg h3,if_pos h] at hQ) (fun h5=>?_))
  rw [if_neg h3,if_neg h5] at hQ
  have hk (h:¬(p.Kind=4∧v=p.Source)):ifP false (Q (1,true)) (ifP (v==p.Source) (ifP true (Q (0,true)) (ifP (p.Kind==1) (Q (-1,false)) (Q (4611686018427387904,false)))) (ifP (p.Kind==4) (Q (0,false)) (ifP (p.Kind==1) (Q (-1,false)) (Q (4611686018427387904,false))))):=by
    rw [if_neg h] at hQ
    refine ifP_neg rfl (ifP_eq (fun h1=>ifP_pos rfl (by rwa [if_pos h1] at hQ)) (fun h1=>?_))
    rw [if_neg h1] at hQ
    refine ifP_eq (fun h2=>by rwa [if_pos h2] at hQ) (fun h2=>?_)
    rw [if_neg h2] at hQ
    exact ifP_eq (fun h6=>by rwa [if_pos h6] at hQ) (fun h6=>by rwa [if_neg h6] at hQ)
  refine ifP_eq (fun h4=>?_) (fun h4=>hk fun h=>h4 h.1)
  by_cases hs:v=p.Source
  · rw [if_pos ⟨h4,hs⟩] at hQ
    exact ifP_pos (by simpa using hs) hQ
  · have hb:(v==p.Source)=false:=by simpa using hs
    have:=hk fun h=>hs h.2
    rw [hb] at this ⊢
    exact this
def beginS (p:Plan) (low high:Int):State:=
  if rightPl p=0∧0≤low∧low≤high∧high≤p.N then chS low high (high - low).toNat fun i=>((firstS p (low+i)).1,-1,(firstS p (low+i)).2) else zSt
theorem prog_Begin_ok {p:Plan} {low high:Int} {Q:State→Prop} (hQ:Q (beginS p low high)):prog_Begin p low high Q:=by
  unfold prog_Begin
  unfold beginS at hQ
  have hb (h:¬(rightPl p=0∧0≤low∧low≤high∧high≤p.N)):Q zSt:=by rwa [if_neg h] at hQ
  refine prog_Right_ok (ifP_ne (fun h=>hb fun h'=>h h'.1) (fun h=>ifP_dec (fun h1=>hb (by omega)) (fun h1=>ifP_dec (fun h2=>hb (by omega)) (fun h2=>ifP_dec (fun h3=>hb (by omega)) (fun h3=>?_)))))
  rw [if_pos ⟨h,by omega,by omega,by omega⟩] at hQ
  have hr:=rightPl_zero h
  have e:w64 (high - low)=((high - low).toNat:Int):=by rw [w64_id (by omega) (by omega)]; omega
  unfold prog_changed_b13 prog_Begin_1_d27
  rw [e]
  refine changed_loop (F:=fun a0 K=>prog_first p (w64 (low+a0)) fun r8=>K (r8.1,(-1),r8.2)) (by omega) (fun i K hi hK=>?_) hQ
  rw [w64_id (x:=low+(i:Int)) (by omega) (by omega)]
  exact prog_first_ok hK
theorem okSt_z:okSt zSt:=⟨(by intro x hx; cases hx),by decide⟩
theorem sure_cases (p:Plan) (s:State):(StP p s∧sureSt p s=s)∨sureSt p s=zSt:=by
  by_cases h:StP p s
  · exact .inl ⟨h,if_pos h⟩
  · exact .inr (if_neg h)
structure StR (p:Plan) (s:State):Prop where
  pl:sizN s≠0→rightPl p=0
  lo:0≤s.Low
  le:s.Low≤s.High
  hi:s.High≤4096
  hn:sizN s≠0→s.High≤p.N
  al:s.A.length=sizN s
  bl:s.B.length=sizN s
  ok:okF s.On
  ol:s.On.length≤1000000
theorem sureSt_Q {p:Plan} {s:State} (ho:okSt s):StR p (sureSt p s):=by
  rcases sure_cases p s with ⟨h,e⟩ | e
  · rw [e]
    obtain ⟨h1,h2,h3,h4,h5,h6,h7⟩:=h
    have:=(rightPl_zero h1).2.1
    exact ⟨fun _=>h1,h2,h3,by omega,fun _=>h4,h5,h6,ho.1,ho.2⟩
  · rw [e]; exact ⟨fun h=>absurd rfl h,by decide,by decide,by decide,fun h=>absurd rfl h,rfl,rfl,okSt_z.1,okSt_z.2⟩
theorem StR.siz {p:Plan} {s:State} (h:StR p s):(sizN s:Int)=s.High - s.Low∧sizN s≤4096:=by
  have:=h.lo; have:=h.le; have:=h.hi; unfold sizN; omega
theorem StR.w {p:Plan} {s:State} (h:StR p s):w64 (s.High - s.Low)=(sizN s:Int):=by
  have:=h.siz; rw [w64_id (by omega) (by omega)]; omega
def dnum (p:Plan) (round v:Int):Int:=numS p ((round - 1) / 2) v
def tellsS (p:Plan) (s:State) (round:Int) (i:Nat):Int×Bool:=
  if p.Kind=1 then (s.Low+i,hasF s.On i) else if p.Kind=5 then (if round % 2=0 then (1,hasF s.On i) else (dnum p round (s.Low+i),at0 s.A i==0)) else (at0 s.A i,hasF s.On i)
theorem prog_tells_ok {p:Plan} {s:State} {round:Int} {i:Nat} {Q:Int×Bool→Prop} (h:StR p s) (hi:i<sizN s) (hr:0≤round∧round≤1000000) (hQ:Q (tellsS p s round i)):prog_tells p s round i Q:=by
  unfold prog_tells
  unfold tellsS at hQ
  have hs:=h.siz
  have hl:=h.lo
  have hal:=h.al
  have e:w64 (s.Low+(i:Int))=s.Low+i:=w64_id (by omega) (by have:=h.hi; omega)
  refine flags_Has_ok h.ok (by unfold inI; omega) ?_
  rw [e,bnd_odd]
  refine ifP_eq (fun h1=>by rwa [if_pos h1] at hQ) (fun h1=>?_)
  rw [if_neg h1] at hQ
  refine ifP_eq (fun h5=>?_) (fun h5=>?_)
  · rw [if_pos h5] at hQ
    refine ifP_eq (fun h2=>by rwa [if_pos h2] at hQ) (fun h2=>?_)
    rw [if_neg h2] at hQ
    refine idxP_at0 (by omega) (by omega) ?_
    have hp:=rightPl_zero (h.pl (by omega))
    unfold prog_draw
    rw [w64_id (x:=round - 1) (by omega) (by omega),shr1']
    exact prog_number_ok hp.2.1 hp.2.2.2.2.2 hQ
  · rw [if_neg h5] at hQ
    exact idxP_at0 (by omega) (by omega) hQ
def outI (n:Nat) (f:Nat→Int×Bool):List Item:=(List.range n).filterMap fun i=>if (f i).2 then some ⟨i,(f i).1⟩ else none
theorem outI_succ (n:Nat) (f:Nat→Int×Bool):outI (n+1) f=if (f n).2 then outI n f++[⟨n,(f n).1⟩] else outI n f:=by
  unfold outI
  rw [List.range_succ,List.filterMap_append]
  cases h:(f n).2 <;> simp [h]
theorem outI_len (n:Nat) (f:Nat→Int×Bool):(outI n f).length≤n:=by
  unfold outI
  exact Nat.le_trans (List.length_filterMap_le _ _) (by simp)
def outVS (p:Plan) (s:State) (round:Int):Vec:=⟨(sureSt p s).High - (sureSt p s).Low,outI (sizN (sureSt p s)) (tellsS p (sureSt p s) round)⟩
theorem out_loop {n:Nat} (hn:n≤4096) {F:Int→((Int×Bool)→Prop)→Prop} {g:Nat→Int×Bool} (hF:∀ (i:Nat) K,i<n→K (g i)→F i K) {Q:Vec→Prop} (hQ:Q ⟨n,outI n g⟩) :
    loopP (fun (s:(List Item)×Int) (next122:((List Item)×Int)→Prop)=>match s with | (s116,s120)=>ifP (decide (s120<(n:Int))) (F s120 fun r133=>ifP r133.2 (appP 16 s116 ([({ At:=s120,Val:=r133.1 }:Item)]) fun _=>next122 ((s116++([({ At:=s120,Val:=r133.1 }:Item)])),w64 (s120+1))) (next122 (s116,w64 (s120+1)))) (Q ({ N:=(n:Int),Items:=s116 }:Vec))) (([]:List Item),0):=by
  refine range_intro (fun (s:List Item) i=>(s,i)) 0 n (by omega) (fun i s=>s=outI i g) (by omega) rfl (fun i s next _ hi hm hnx=>?_) (fun s next hm=>?_)
  · subst hm
    have hol:=outI_len i g
    have hs:=outI_succ i g
    refine ifP_dec (fun _=>hF i _ hi ?_) (fun h=>by omega)
    cases hb:(g i).2 with
    | true=>exact ifP_pos rfl (appP_intro (by simp; omega) (hnx _ (by rw [hs,hb]; rfl)))
    | false=>exact ifP_neg rfl (hnx _ (by rw [hs,hb]; rfl))
  · subst hm
    exact ifP_dec (fun h=>by omega) (fun _=>hQ)
theorem prog_Out_ok {p:Plan} {s:State} {round:Int} {Q:Vec→Prop} (ho:okSt s) (hr:0≤round∧round≤1000000) (hQ:Q (outVS p s round)):prog_Out p s round Q:=by
  unfold prog_Out
  refine prog_sure_ok ho ?_
  have h:=sureSt_Q (p:=p) ho
  unfold outVS at hQ
  rw [←h.siz.1] at hQ
  rw [h.w]
  exact out_loop (F:=fun i K=>prog_tells p (sureSt p s) round i K) h.siz.2 (fun i K hi hK=>prog_tells_ok h hi hr hK) hQ
def behS (p:Plan) (s:State) (round:Int) (i:Nat) (o:Option Int):Int×Int×Bool:=
  let a:=at0 s.A i; let b:=at0 s.B i; let v:=(getO o).1; let got:=(getO o).2
  if p.Kind=1 then (if got=true∧a = -1 then (round,v,true) else (a,b,false))
  else if p.Kind=2∨p.Kind=3 then (if got=true∧v<a then (v,b,true) else (a,b,false))
  else if p.Kind=4 then (v,b,v != 0)
  else if a≠0 then (a,b,false)
  else if round % 2=0 then (if got=true then (2,b,false) else (a,b,false))
  else if got=false∨dnum p round (s.Low+i)<v then (1,b,true) else (a,b,false)
theorem prog_behind_ok {p:Plan} {s:State} {round:Int} {i:Nat} {o:Option Int} {Q:Int×Int×Bool→Prop} (h:StR p s) (hi:i<sizN s) (hr:0≤round∧round≤1000000) (hQ:Q (behS p s round i o)) :
    prog_behind p s round i (getO o).1 (getO o).2 Q:=by
  unfold prog_behind joinP
  unfold behS at hQ
  have hs:=h.siz
  have hl:=h.lo
  have hal:=h.al
  have hbl:=h.bl
  have e:w64 (s.Low+(i:Int))=s.Low+i:=w64_id (by omega) (by have:=h.hi; omega)
  have hp:=rightPl_zero (h.pl (by omega))
  refine idxP_at0 (by omega) (by omega) (idxP_at0 (by omega) (by omega) ?_)
  have hd:∀ K:Int→Prop,K (dnum p round (s.Low+i))→prog_draw round fun r86=>prog_number p r86 (w64 (s.Low+(i:Int))) K:=fun K hK=>by
    unfold prog_draw
    rw [e,w64_id (x:=round - 1) (by omega) (by omega),shr1']
    exact prog_number_ok hp.2.1 hp.2.2.2.2.2 hK
  rw [bnd_odd]
  generalize at0 s.A i=a at hQ ⊢
  generalize at0 s.B i=b at hQ ⊢
  generalize (getO o).1=v at hQ ⊢
  generalize (getO o).2=got at hQ ⊢
  simp only at hQ
  refine ifP_eq (fun h1=>?_) (fun h1=>?_)
  · rw [if_pos h1] at hQ
    cases got with
    | true=>exact ifP_pos rfl (ifP_eq (fun ha=>by rwa [if_pos ⟨rfl,ha⟩] at hQ) (fun ha=>by rwa [if_neg fun h=>ha h.2] at hQ))
    | false=>exact ifP_neg rfl (by rwa [if_neg fun h=>by cases h.1] at hQ)
  rw [if_neg h1] at hQ
  have h23 (hk:p.Kind=2∨p.Kind=3):ifP got (ifP (decide (v<a)) (Q (v,b,true)) (Q (a,b,false))) (Q (a,b,false)):=by
    rw [if_pos hk] at hQ
    cases got with
    | true=>exact ifP_pos rfl (ifP_dec (fun ha=>by rwa [if_pos ⟨rfl,ha⟩] at hQ) (fun ha=>by rwa [if_neg fun h=>ha h.2] at hQ))
    | false=>exact ifP_neg rfl (by rwa [if_neg fun h=>by cases h.1] at hQ)
  have hrest (h2:¬(p.Kind=2∨p.Kind=3)):ifP (p.Kind==4) (Q (v,b,v != 0)) (ifP (p.Kind==5) (ifP (a != 0) (Q (a,b,false)) (ifP (round % 2==0) (ifP got (Q (2,b,false)) (ifP (round % 2==1) (ifP (!got) (Q (1,b,true)) (prog_draw round fun r86=>prog_number p r86 (w64 (s.Low+(i:Int))) fun r90=>ifP (decide (r90<v)) (Q (1,b,true)) (Q (a,b,false)))) (Q (a,b,false)))) (ifP false (Q (2,b,false)) (ifP (round % 2==1) (ifP (!got) (Q (1,b,true)) (prog_draw round fun r86=>prog_number p r86 (w64 (s.Low+(i:Int))) fun r90=>ifP (decide (r90<v)) (Q (1,b,true)) (Q (a,b,false)))) (Q (a,b,false)))))) (Q (a,b,false))):=by
    rw [if_neg h2] at hQ
    refine ifP_eq (fun h4=>by rwa [if_pos h4] at hQ) (fun h4=>?_)
    rw [if_neg h4] at hQ
    refine ifP_eq (fun h5=>?_) (fun h5=>absurd hp.1 (by omega))
    refine ifP_ne (fun ha=>by rwa [if_pos ha] at hQ) (fun ha=>?_)
    rw [if_neg (fun h'=>h' ha)] at hQ
    refine ifP_eq (fun h6=>?_) (fun h6=>?_)
    · rw [if_pos h6] at hQ
      cases got with
      | true=>exact ifP_pos rfl (by rwa [if_pos rfl] at hQ)
      | false=>exact ifP_neg rfl (ifP_eq (fun h7=>by omega) (fun h7=>by rwa [if_neg (by simp)] at hQ))
    · rw [if_neg h6] at hQ
      refine ifP_neg rfl (ifP_eq (fun h7=>?_) (fun h7=>by omega))
      cases got with
      | false=>exact ifP_pos rfl (by rwa [if_pos (.inl rfl)] at hQ)
      | true=>exact ifP_neg rfl (hd _ (ifP_dec (fun h8=>by rwa [if_pos (.inr h8)] at hQ) (fun h8=>by rwa [if_neg (by simp [h8])] at hQ)))
  refine ifP_eq (fun h2=>?_) (fun h2=>?_)
  · have hb:(p.Kind==2)=true:=by simpa using h2
    rw [hb]; exact ifP_pos rfl (h23 (.inl h2))
  · refine ifP_eq (fun h3=>?_) (fun h3=>?_)
    · exact h23 (.inr h3)
    · exact hrest (by omega)
def newS (p:Plan) (s:State) (round:Int) (y:Vec) (i:Nat):Int×Int×Bool:=behS p s round i (lkI y.Items i)
def updS (p:Plan) (s:State) (round:Int) (y:Vec):State:=
  if VecP y∧y.N=(sureSt p s).High - (sureSt p s).Low then chS (sureSt p s).Low (sureSt p s).High (sizN (sureSt p s)) (newS p (sureSt p s) round y) else sureSt p s
theorem pclone_ok {xs:List Int} {Q:List Int→Prop} (hl:xs.length≤1000000) (hQ:Q xs):slices_Clone_int64_int64 xs Q:=by
  unfold slices_Clone_int64_int64
  exact nilP_intro (fun h=>by rwa [h] at hQ) (appP_intro (by simp; omega) hQ)
theorem clone_u_ok {xs:List Int} {Q:List Int→Prop} (hl:xs.length≤1000000) (hQ:Q xs):slices_Clone_uint64_uint64 xs Q:=by
  unfold slices_Clone_uint64_uint64
  exact nilP_intro (fun h=>by rwa [h] at hQ) (appP_intro (by simp; omega) hQ)
theorem prog_Update_ok {p:Plan} {s:State} {round:Int} {y:Vec} {Q:State→Prop} (ho:okSt s) (hr:0≤round∧round≤1000000) (hy:y.Items.length≤1000000) (hQ:Q (updS p s round y)):prog_Update p s round y Q:=by
  unfold prog_Update
  refine prog_sure_ok ho ?_
  have h:=sureSt_Q (p:=p) ho
  unfold updS at hQ
  generalize sureSt p s=u at h hQ ⊢
  have hs:=h.siz
  have hal:=h.al
  have hbl:=h.bl
  rw [h.w]
  have hcl (hb:¬(VecP y∧y.N=u.High - u.Low)):slices_Clone_int64_int64 u.A fun r101=>slices_Clone_int64_int64 u.B fun r113=>slices_Clone_uint64_uint64 u.On fun r125=>Q ({ Low:=u.Low,High:=u.High,A:=r101,B:=r113,On:=r125 }:State):=by
    rw [if_neg hb] at hQ
    exact pclone_ok (by omega) (pclone_ok (by omega) (clone_u_ok h.ol hQ))
  have hch (hb:VecP y∧y.N=u.High - u.Low):prog_changed_59a y p u round u (sizN u:Int) fun r143=>Q r143:=by
    rw [if_pos hb] at hQ
    unfold prog_changed_59a prog_Update_1_24a
    refine changed_loop (F:=fun a0 K=>spvec_Get y a0 fun r28=>prog_behind p u round a0 r28.1 r28.2 fun r32=>K (r32.1,r32.2.1,r32.2.2)) hs.2 (fun i K hi hK=>?_) hQ
    refine spvec_Get_ok (by omega) ?_
    rw [sureV_id hb.1]
    exact prog_behind_ok h hi hr hK
  unfold joinP
  refine spvec_Right_ok (by omega) ?_
  by_cases hv:VecP y
  · rw [decide_eq_true hv]
    refine ifP_neg rfl (ifP_ne (fun hn=>hcl fun h'=>hn (by rw [h'.2]; omega)) (fun hn=>hch ⟨hv,by omega⟩))
  · rw [decide_eq_false hv]
    exact ifP_pos rfl (ifP_pos rfl (hcl fun h'=>hv h'.1))
theorem eqU_ok {xs ys:List Int} {Q:Bool→Prop} (hl:xs.length≤1000000000000) (hQ:Q (decide (xs=ys))):slices_Equal_uint64_uint64 xs ys Q:=by unfold slices_Equal_uint64_uint64; exact same_loop hl hQ
def lenSt (s:State):Prop:=s.A.length≤1000000∧s.B.length≤1000000∧s.On.length≤1000000
theorem st_eq (a b:State):a=b↔a.Low=b.Low∧a.High=b.High∧a.A=b.A∧a.B=b.B∧a.On=b.On:=by cases a; cases b; simp
theorem prog_Same_ok {a b:State} {Q:Bool→Prop} (hl:lenSt a) (hQ:Q (decide (a=b))):prog_Same a b Q:=by
  unfold prog_Same
  obtain ⟨h1,h2,h3⟩:=hl
  have hf (h:a≠b):Q false:=by rwa [decide_eq_false h] at hQ
  refine ifP_eq (fun e1=>ifP_eq (fun e2=>eqI64_ok (by omega) (ifP_dec (fun e3=>eqI64_ok (by omega) (ifP_dec (fun e4=>eqU_ok (by omega) ?_) (fun e=>hf ?_))) (fun e=>hf ?_))) (fun e=>hf ?_)) (fun e=>hf ?_)
  · by_cases e5:a.On=b.On
    · rw [decide_eq_true ((st_eq a b).2 ⟨e1,e2,e3,e4,e5⟩)] at hQ; rwa [decide_eq_true e5]
    · rw [decide_eq_false e5]; exact hf fun h=>e5 (by rw [h])
  all_goals exact fun h=>e (by rw [h])
def cntN (n:Nat) (f:Nat→Bool):Nat:=(List.range n).countP f
theorem cntN_succ (n:Nat) (f:Nat→Bool):cntN (n+1) f=cntN n f+if f n then 1 else 0:=by
  unfold cntN; rw [List.range_succ,List.countP_append]; simp [List.countP_cons]
theorem cntN_le (n:Nat) (f:Nat→Bool):cntN n f≤n:=by unfold cntN; exact Nat.le_trans List.countP_le_length (by simp)
theorem cntN_congr {n:Nat} {f g:Nat→Bool} (h:∀ i,i<n→f i=g i):cntN n f=cntN n g:=by
  induction n with
  | zero=>rfl
  | succ n ih=>rw [cntN_succ,cntN_succ,ih fun i hi=>h i (by omega),h n (by omega)]
theorem cntN_add (a b:Nat) (f:Nat→Bool):cntN (a+b) f=cntN a f+cntN b fun j=>f (a+j):=by
  induction b with
  | zero=>rfl
  | succ b ih=>rw [←Nat.add_assoc,cntN_succ,ih,cntN_succ]; omega
theorem cntN_zero {n:Nat} {f:Nat→Bool} (h:∀ i,i<n→f i=false):cntN n f=0:=by
  induction n with
  | zero=>rfl
  | succ n ih=>rw [cntN_succ,ih fun i hi=>h i (by omega),h n (by omega)]; rfl
def pcf:Nat→Nat→Nat
  | 0,_=>0
  | k+1,n=>n % 2+pcf k (n / 2)
theorem pcf_low {k:Nat}:∀ {n:Nat},0<n→n<2 ^ k→pcf k (n &&& (n - 1))+1=pcf k n:=by
  induction k with
  | zero=>intro n h0 h1; simp at h1; omega
  | succ k ih=>
    intro n h0 h1
    have hd:(n &&& (n - 1)) / 2=n / 2 &&& (n - 1) / 2:=Nat.and_div_two
    have hm:(n &&& (n - 1)) % 2=(n % 2) &&& ((n - 1) % 2):=by have:=Nat.and_mod_two_pow (a:=n) (b:=n - 1) (n:=1); simpa using this
    rw [Nat.pow_succ] at h1
    simp only [pcf,hd,hm]
    rcases Nat.mod_two_eq_zero_or_one n with e | e
    · have e1:(n - 1) / 2=n / 2 - 1:=by omega
      rw [e1,e]
      have:=ih (n:=n / 2) (by omega) (by omega)
      simp only [Nat.zero_and]
      omega
    · have e1:(n - 1) / 2=n / 2:=by omega
      have e2:(n - 1) % 2=0:=by omega
      rw [e1,e,e2,Nat.and_self]
      simp only [Nat.and_zero]
      omega
theorem pcf_zero (k:Nat):pcf k 0=0:=by induction k with
  | zero=>rfl
  | succ k ih=>simp [pcf,ih]
theorem pcf_cnt (k:Nat):∀ n:Nat,pcf k n=cntN k fun j=>n.testBit j:=by
  induction k with
  | zero=>intro n; rfl
  | succ k ih=>
    intro n
    rw [Nat.add_comm k 1,cntN_add,Nat.add_comm 1 k,pcf,ih]
    congr 1
    · rw [show cntN 1 (fun j=>n.testBit j)=cntN (0+1) (fun j=>n.testBit j) from rfl,cntN_succ]
      simp only [cntN,List.range_zero,List.countP_nil,Nat.zero_add,Nat.testBit_zero,decide_eq_true_eq]
      split <;> omega
    · exact cntN_congr fun j _=>by rw [Nat.add_comm 1 j,Nat.testBit_succ]
theorem bnd_nn {x y:Nat} (hx:x<18446744073709551616) (hy:y<18446744073709551616):bnd .u64 (x:Int) (y:Int)=((x &&& y:Nat):Int):=by
  have h:(BitVec.ofInt 64 (x:Int) &&& BitVec.ofInt 64 (y:Int)).toNat=x &&& y:=by
    rw [BitVec.toNat_and,BitVec.toNat_ofInt,BitVec.toNat_ofInt]
    have hp:((2 ^ 64:Nat):Int)=18446744073709551616:=by decide
    rw [hp,show ((x:Int) % 18446744073709551616).toNat=x by omega,show ((y:Int) % 18446744073709551616).toNat=y by omega]
  unfold bnd
  rw [show IntKind.u64.bits=64 from rfl,h]
  have:=Nat.and_le_left (n:=x) (m:=y)
  exact wrap_u64_id (by omega) (by omega)
theorem flags_ones_ok {w:Nat} {Q:Int→Prop} (hw:w<18446744073709551616) (hQ:Q (pcf 64 w:Nat)):flags_ones (w:Int) Q:=by
  unfold flags_ones
  refine loop_intro (fun s:Int×Int=>∃ m c:Nat,s=((m:Int),(c:Int))∧m≤w∧c+pcf 64 m=pcf 64 w) (fun s=>s.1.toNat) ⟨w,0,rfl,Nat.le_refl _,by omega⟩ ?_
  rintro _ next ⟨m,c,rfl,h1,h2⟩ hn
  have hb:pcf 64 w≤64:=by rw [pcf_cnt]; exact cntN_le _ _
  refine ifP_eq (fun h=>?_) (fun h=>?_)
  · have:m=0:=by omega
    subst this
    rw [pcf_zero] at h2
    rw [show c=pcf 64 w by omega]; exact hQ
  · have hm:0<m:=by omega
    have e:IntKind.wrap .u64 ((m:Int) - 1)=((m - 1:Nat):Int):=by rw [wrap_u64_id (by omega) (by omega)]; omega
    have hlow:=pcf_low (k:=64) hm (by omega)
    rw [e,bnd_nn (by omega) (by omega),w64_id (by omega) (by omega)]
    have hle:=Nat.and_le_right (n:=m) (m:=m - 1)
    exact hn _ ⟨m &&& (m - 1),c+1,by rw [show ((c+1:Nat):Int)=(c:Int)+1 by omega],by omega,by omega⟩ (by simp only [Int.toNat_natCast]; omega)
theorem word_has {f:List Int} {k j:Nat} (hj:j<64):hasF f ((64*k+j:Nat):Int)=(at0 f k).toNat.testBit j:=by
  unfold hasF
  have e1:(((64*k+j:Nat):Int) / 64)=(k:Int):=by omega
  have e2:(((64*k+j:Nat):Int) % 64).toNat=j:=by omega
  rw [e1,e2]
  simp
  intro _; omega
def allF (f:List Int):Nat:=cntN (64*f.length) fun i=>hasF f i
theorem flags_Count_ok {f:List Int} {Q:Int→Prop} (hf:okF f) (hl:f.length≤1000000) (hQ:Q (allF f:Nat)):flags_Count f Q:=by
  unfold flags_Count
  refine range_intro (fun (s:Int) i=>(s,i)) 0 f.length (by omega) (fun k s=>s=(cntN (64*k) fun i=>hasF f i:Nat)) (by omega) rfl (fun k s next _ hk hm hnx=>?_) (fun s next hm=>?_)
  · subst hm
    refine ifP_dec (fun _=>idxP_at0 (by omega) (by omega) ?_) (fun h=>by omega)
    have hb:=okF_at hf k
    obtain ⟨w,hw⟩:∃ w:Nat,at0 f k=(w:Int):=⟨(at0 f k).toNat,by omega⟩
    rw [hw]
    refine flags_ones_ok (by omega) (hnx _ ?_)
    have hc:=cntN_le (64*k) fun i=>hasF f i
    have hp:pcf 64 w=cntN 64 fun j=>hasF f ((64*k+j:Nat):Int):=by
      rw [pcf_cnt]
      exact cntN_congr fun j hj=>by rw [word_has hj,hw]; rfl
    have hp':pcf 64 w≤64:=by rw [pcf_cnt]; exact cntN_le _ _
    rw [w64_id (by omega) (by omega),Nat.mul_succ,cntN_add,←hp]; omega
  · subst hm
    exact ifP_dec (fun h=>by omega) (fun _=>hQ)
theorem cntN_more {n m:Nat} {f:Nat→Bool} (h:n≤m) (hf:∀ i,n≤i→i<m→f i=false):cntN m f=cntN n f:=by
  obtain ⟨k,rfl⟩:∃ k,m=n+k:=⟨m - n,by omega⟩
  rw [cntN_add,cntN_zero (fun i hi=>hf (n+i) (by omega) (by omega)),Nat.add_zero]
def onIn (s:State):Prop:=(∀ i,hasF s.On i=true→i<(sizN s:Int))∧sizN s≤64*s.On.length
theorem sureSt_on {p:Plan} {s:State}:onIn (sureSt p s):=by
  rcases sure_cases p s with ⟨h,e⟩ | e
  · rw [e]
    obtain ⟨h1,h2,h3,h4,h5,h6,h7,h8,h9⟩:=h
    have hn:=(rightPl_zero h1).2.1
    refine ⟨fun i hi=>?_,?_⟩
    · have:=h9 i (listF_mem.2 hi); unfold sizN; omega
    · rw [h8]; unfold sizN wordsS; split <;> split <;> omega
  · rw [e]; exact ⟨fun i hi=>by have:=hasF_in hi; simp [zSt] at this; omega,by decide⟩
theorem on_count {s:State} (h:onIn s):allF s.On=cntN (sizN s) fun i=>hasF s.On i:=
  cntN_more h.2 fun i h1 h2=>by
    cases hb:hasF s.On i with
    | false=>rfl
    | true=>have:=h.1 i hb; omega
def goesS (p:Plan) (s:State) (i:Nat):Bool:=if p.Kind=5 then at0 s.A i==0 else hasF s.On i
def liveN (p:Plan) (s:State):Nat:=cntN (sizN s) (goesS p s)
def liveS (p:Plan) (s:State) (round:Int):Int:=if p.Kind=4∧p.Length≤round then 0 else (liveN p (sureSt p s):Nat)
theorem prog_Live_ok {p:Plan} {s:State} {round:Int} {Q:Int→Prop} (ho:okSt s) (hQ:Q (liveS p s round)):prog_Live p s round Q:=by
  unfold prog_Live
  refine prog_sure_ok ho ?_
  have h:=sureSt_Q (p:=p) ho
  have hon:=sureSt_on (p:=p) (s:=s)
  unfold liveS at hQ
  generalize sureSt p s=u at h hon hQ ⊢
  have hs:=h.siz
  have hal:=h.al
  have hol:=h.ol
  have hc (h5:p.Kind≠5):liveN p u=allF u.On:=by
    rw [on_count hon]
    exact cntN_congr fun i hi=>if_neg h5
  refine ifP_eq (fun h4=>ifP_dec (fun hl=>by rwa [if_pos ⟨h4,hl⟩] at hQ) (fun hl=>?_)) (fun h4=>?_)
  · rw [if_neg (fun h=>hl h.2),hc (by omega)] at hQ
    exact flags_Count_ok h.ok hol hQ
  rw [if_neg (fun h=>h4 h.1)] at hQ
  refine ifP_eq (fun h5=>?_) (fun h5=>by rw [hc h5] at hQ; exact flags_Count_ok h.ok hol hQ)
  rw [hal]
  refine range_intro (fun (s:Int) i=>(s,i)) 0 (sizN u) (by omega) (fun i s=>s=(cntN i (goesS p u):Nat)) (by omega) rfl (fun i s next _ hi hm hnx=>?_) (fun s next hm=>?_)
  · subst hm
    have hcl:=cntN_le i (goesS p u)
    have hsc:=cntN_succ i (goesS p u)
    refine ifP_dec (fun _=>idxP_at0 (by omega) (by omega) ?_) (fun h=>by omega)
    refine ifP_eq (fun ha=>hnx _ ?_) (fun ha=>hnx _ ?_)
    · rw [w64_id (by omega) (by omega),hsc,if_pos (by unfold goesS; rw [if_pos h5]; simpa using ha)]; omega
    · rw [hsc,if_neg (by unfold goesS; rw [if_pos h5]; simpa using ha)]; rfl
  · subst hm
    exact ifP_dec (fun h=>by omega) (fun _=>hQ)
def askS (p:Plan) (s:State):List Int×Bool:=
  if p.Kind=1 then (ofF (sizN s) (onsN (sizN s) fun i=>at0 s.A i == -1),false) else if p.Kind=5 then (ofF (sizN s) (onsN (sizN s) fun i=>at0 s.A i==0),false) else ([],true)
theorem prog_Asked_ok {p:Plan} {s:State} {round:Int} {Q:List Int×Bool→Prop} (ho:okSt s) (hQ:Q (askS p (sureSt p s))):prog_Asked p s round Q:=by
  unfold prog_Asked
  refine prog_sure_ok ho ?_
  have h:=sureSt_Q (p:=p) ho
  unfold askS at hQ
  generalize sureSt p s=u at h hQ ⊢
  have hs:=h.siz
  have hal:=h.al
  have hk (want:Int) (hq:Q (ofF (sizN u) (onsN (sizN u) fun i=>at0 u.A i==want),false)):loopP (fun (s:(List Int)×Int) (next255:((List Int)×Int)→Prop)=>match s with | (s249,s253)=>ifP (decide (s253<(u.A.length:Int))) (idxP u.A s253 fun x273=>ifP (x273==want) (appP 8 s249 ([s253]) fun _=>next255 ((s249++([s253])),w64 (s253+1))) (next255 (s249,w64 (s253+1)))) (flags_Of (w64 (u.High - u.Low)) s249 fun r294=>Q (r294,false))) (([]:List Int),0):=by
    rw [h.w,hal]
    refine range_intro (fun (s:List Int) i=>(s,i)) 0 (sizN u) (by omega) (fun i s=>s=onsN i fun i=>at0 u.A i==want) (by omega) rfl (fun i s next _ hi hm hnx=>?_) (fun s next hm=>?_)
    · subst hm
      have hol:=onsN_len i fun i=>at0 u.A i==want
      have hons:=onsN_succ i fun i=>at0 u.A i==want
      refine ifP_dec (fun _=>idxP_at0 (by omega) (by omega) ?_) (fun h=>by omega)
      refine ifP_eq (fun ha=>appP_intro (by simp; omega) (hnx _ ?_)) (fun ha=>hnx _ ?_)
      · rw [hons,if_pos (by simpa using ha)]
      · rw [hons,if_neg (by simpa using ha)]
    · subst hm
      have hol:=onsN_len (sizN u) fun i=>at0 u.A i==want
      exact ifP_dec (fun h=>by omega) (fun _=>flags_Of_ok (by omega) (fun x hx=>by have:=onsN_in hx; unfold inI; omega) hq)
  unfold joinP
  refine ifP_eq (fun h1=>hk _ (by rwa [if_pos h1] at hQ)) (fun h1=>?_)
  rw [if_neg h1] at hQ
  exact ifP_eq (fun h5=>hk _ (by rwa [if_pos h5] at hQ)) (fun h5=>by rwa [if_neg h5] at hQ)
theorem chS_ok (low high:Int) (n:Nat) (g:Nat→Int×Int×Bool):okSt (chS low high n g):=by
  have h:=ofF_prop n (onsN n fun i=>(g i).2.2)
  exact ⟨h.1,by show (ofF _ _).length≤_; rw [h.2.1]; have:=words_le (n:Int); omega⟩
theorem chS_StP {p:Plan} {low high:Int} {g:Nat→Int×Int×Bool} (hp:rightPl p=0) (h0:0≤low) (h1:low≤high) (h2:high≤p.N):StP p (chS low high (high - low).toNat g):=by
  have hn:=(rightPl_zero hp).2.1
  refine ⟨hp,h0,h1,h2,by simp [chS,mapN_len,sizN],by simp [chS,mapN_len,sizN],?_⟩
  have:=ofF_right (n:=((high - low).toNat:Int)) ⟨by omega,by omega⟩ (onsN (high - low).toNat fun i=>(g i).2.2)
  rw [show (((high - low).toNat:Nat):Int)=high - low by omega] at this
  unfold chS
  simp only
  rw [show (((high - low).toNat:Nat):Int)=high - low by omega]
  exact this
theorem begin_St {p:Plan} {low high:Int} (hp:rightPl p=0) (h0:0≤low) (h1:low≤high) (h2:high≤p.N):StP p (beginS p low high)∧okSt (beginS p low high):=by
  unfold beginS
  rw [if_pos ⟨hp,h0,h1,h2⟩]
  exact ⟨chS_StP hp h0 h1 h2,chS_ok _ _ _ _⟩
theorem upd_St {p:Plan} {s:State} {round:Int} {y:Vec} (h:StP p s) (ho:okSt s):StP p (updS p s round y)∧okSt (updS p s round y)∧(updS p s round y).Low=s.Low∧(updS p s round y).High=s.High:=by
  have e:sureSt p s=s:=if_pos h
  unfold updS
  rw [e]
  split
  · exact ⟨chS_StP h.1 h.2.1 h.2.2.1 h.2.2.2.1,chS_ok _ _ _ _,rfl,rfl⟩
  · exact ⟨h,ho,rfl,rfl⟩
theorem lenSt_of {p:Plan} {s:State} (h:StP p s) (ho:okSt s):lenSt s:=by
  have hn:=(rightPl_zero h.1).2.1
  have:=h.2.2.2.2.1; have:=h.2.2.2.2.2.1; have:=h.2.1; have:=h.2.2.1; have:=h.2.2.2.1
  unfold sizN at *
  exact ⟨by omega,by omega,ho.2⟩
theorem bnd_le (x:Int) {m:Nat} (hm:m<9223372036854775808):0≤bnd .i64 x m∧bnd .i64 x m≤m:=by
  have h:(BitVec.ofInt 64 x &&& BitVec.ofInt 64 (m:Int)).toNat≤m:=by
    rw [BitVec.toNat_and,BitVec.toNat_ofInt (n:=64) (i:=(m:Int))]
    have hp:((2 ^ 64:Nat):Int)=18446744073709551616:=by decide
    rw [hp,show ((m:Int) % 18446744073709551616).toNat=m by omega]
    exact Nat.and_le_right
  unfold bnd
  rw [show IntKind.i64.bits=64 from rfl]
  generalize (BitVec.ofInt 64 x &&& BitVec.ofInt 64 (m:Int)).toNat=k at h
  have e:IntKind.i64.wrap (k:Int)=k:=w64_id (by omega) (by omega)
  rw [e]; omega
theorem Within_ok {k n:Int} {Q:Int→Prop} (h0:n<1→Q 0) (h1:1≤n→∀ r,0≤r→r<n→Q r):law21_Within k n Q:=by
  unfold law21_Within
  refine ifP_dec (fun h=>h0 h) (fun h=>ifP_dec (fun h2=>h1 (by omega) 0 (by omega) (by omega)) (fun h2=>⟨by omega,?_⟩))
  rw [Int.tmod_eq_emod_of_nonneg (by omega)]
  exact h1 (by omega) _ (Int.emod_nonneg _ (by omega)) (Int.emod_lt_of_pos _ (by omega))
theorem plan_ok {p:Plan} {n:Int} {Q:Plan→Prop} (hn:0≤n∧n≤59) (hQ:∀ r:Plan,rightPl r=0→r.N=n→Q r):law21_Plan p n Q:=by
  unfold law21_Plan
  have hk:∀ (k src len:Int) (ds:List Int),(1≤k∧k≤5)→((n<1→src=0)∧0≤src∧(1≤n→src<n))→(0≤len∧len<12)→(ds.length≤40∧∀ d∈ds,0≤d∧d≤2147483647) →
      ifP (n==0) (ifP (k != 5) (Q ({ Kind:=3,N:=n,Source:=src,Length:=len,Draws:=ds }:Plan)) (Q ({ Kind:=k,N:=n,Source:=src,Length:=len,Draws:=ds }:Plan))) (Q ({ Kind:=k,N:=n,Source:=src,Length:=len,Draws:=ds }:Plan)):=by
    intro k src len ds hk hs hl hd
    have hr:∀ k',(1≤k'∧k'≤5)→(n=0→k'=3∨k'=5)→rightPl ⟨k',n,src,len,ds⟩=0:=by
      intro k' h1 h2
      unfold rightPl
      simp only
      rw [if_neg (by omega),if_neg (by omega),if_neg (by omega),if_neg]
      rintro ⟨d,hdm,hb⟩
      have:=hd.2 d hdm
      omega
    refine ifP_eq (fun h=>ifP_ne (fun h5=>hQ _ (hr 3 (by omega) (fun _=>.inl rfl)) rfl) (fun h5=>hQ _ (hr k hk (fun _=>.inr h5)) rfl)) (fun h=>hQ _ (hr k hk (fun h'=>absurd h' h)) rfl)
  refine join_intro (fun k=>1≤k∧k≤5) (fun k hk1=>?_) (fun k' hk1=>ifP_dec (fun h=>hk1 _ (by omega)) (fun h=>ifP_dec (fun h=>hk1 _ (by omega)) (fun h=>hk1 _ (by omega))))
  have hrest:∀ src,((n<1→src=0)∧0≤src∧(1≤n→src<n))→law21_Within p.Length 12 fun r37=>joinP (fun (k207:(List Int)→Prop)=>loopP (fun (s:(List Int)×Int) (next266:((List Int)×Int)→Prop)=>match s with | (s260,s264)=>ifP (decide (s264<(p.Draws.length:Int))) (ifP (decide (s264<40)) (idxP p.Draws s264 fun x275=>appP 8 s260 ([bnd .i64 x275 2147483647]) fun _=>next266 ((s260++([bnd .i64 x275 2147483647])),w64 (s264+1))) (k207 s260)) (k207 s260)) (([]:List Int),0)) fun s203=>ifP (n==0) (ifP (k != 5) (Q ({ Kind:=3,N:=n,Source:=src,Length:=r37,Draws:=s203 }:Plan)) (Q ({ Kind:=k,N:=n,Source:=src,Length:=r37,Draws:=s203 }:Plan))) (Q ({ Kind:=k,N:=n,Source:=src,Length:=r37,Draws:=s203 }:Plan)):=by
    intro src hs
    refine Within_ok (fun h=>by omega) (fun _ len h0 h1=>?_)
    refine join_intro (fun ds:List Int=>ds.length≤40∧∀ d∈ds,0≤d∧d≤2147483647) (fun ds hd=>hk _ _ _ _ hk1 hs ⟨h0,h1⟩ hd) (fun k' hk'=>?_)
    refine range_intro (fun (s:List Int) i=>(s,i)) 0 (min p.Draws.length 40) (by omega) (fun i s=>s.length≤i∧∀ d∈s,0≤d∧d≤2147483647) (by omega) (by simp) (fun i s next _ hi hm hn=>?_) (fun s next hm=>?_)
    · refine ifP_dec (fun _=>ifP_dec (fun _=>idxP_nat (by omega) (appP_intro (by simp; omega) (hn _ ⟨by simp; omega,fun d hd=>?_⟩))) (fun h=>by omega)) (fun h=>by omega)
      rcases List.mem_append.1 hd with h | h
      · exact hm.2 d h
      · simp only [List.mem_singleton] at h
        subst h
        exact bnd_le _ (m:=2147483647) (by omega)
    · exact ifP_dec (fun _=>ifP_dec (fun _=>by omega) (fun _=>hk' _ ⟨by omega,hm.2⟩)) (fun h=>hk' _ ⟨by omega,hm.2⟩)
  exact Within_ok (fun h=>hrest 0 ⟨fun _=>rfl,by omega,fun h'=>by omega⟩) (fun h r h0 h1=>hrest r ⟨fun h'=>by omega,h0,fun _=>h1⟩)
end Go.Proofs.YtccpfgdefibdnaaGreat
