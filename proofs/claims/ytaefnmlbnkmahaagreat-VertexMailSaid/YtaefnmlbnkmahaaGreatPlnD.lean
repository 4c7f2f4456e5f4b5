import Derived.Test.YtaefnmlbnkmahaaGreatPlnB
namespace Go.Proofs.YtaefnmlbnkmahaaGreat
open Go Go.Fw
set_option linter.unusedVariables false
set_option linter.unusedSimpArgs false
theorem shr1 (i:Int):shr .u64 i 1=i / 2:=by
  unfold shr
  rw [Int.fdiv_eq_ediv_of_nonneg _ (by decide)]; rfl
theorem shr1' (i:Int):shr .i64 i 1=i / 2:=by
  unfold shr
  rw [Int.fdiv_eq_ediv_of_nonneg _ (by decide)]; rfl
theorem mid_eq {a b:Int} (h0:0≤a) (h1:0≤b) (h2:a≤1000000) (h3:b≤1000000):w64 (shr .u64 (IntKind.wrap .u64 (w64 (a+b))) 1)=(a+b) / 2:=by
  rw [w64_id (x:=a+b) (by omega) (by omega),wrap_u64_id (by omega) (by omega),shr1,w64_id (by omega) (by omega)]
theorem cmpc_neg (x y:Int):cmpc x y<0↔x<y:=by unfold cmpc; split <;> (try split) <;> omega
theorem cmpc_zero (x y:Int):cmpc x y=0↔x=y:=by unfold cmpc; split <;> (try split) <;> omega
theorem spvec_Get_ok {v:Vec} {i:Int} {Q:Int×Bool→Prop} (hl:v.Items.length≤1000000000) (hQ:Q (getO (lkI (sureV v).Items i))):spvec_Get v i Q:=by
  unfold spvec_Get
  refine spvec_sure_ok hl ?_
  have hP:=sureV_ok v
  generalize sureV v=w at hP hQ
  have hi:=hP.inc
  have hlen:=hP.len
  unfold spvec_find slices_BinarySearchFunc_api_Item_api_Item_int_8a3 spvec_order_7ac
  refine loop_intro (fun s:Int×Int=>0≤s.1∧s.1≤s.2∧s.2≤w.Items.length∧(∀ (k:Nat) (hk:k<w.Items.length),(k:Int)<s.1→(w.Items[k]).At<i)∧(∀ (k:Nat) (hk:k<w.Items.length),s.2≤(k:Int)→¬(w.Items[k]).At<i)) (fun s=>(s.2 - s.1).toNat) ⟨by simp,by simp,by simp,fun k hk h=>by simp at h; omega,fun k hk h=>by simp at h; omega⟩ ?_
  rintro ⟨a,b⟩ next ⟨h0,h1,h2,h3,h4⟩ hn
  simp only at h0 h1 h2 h3 h4
  refine ifP_dec (fun hab=>?_) (fun hab=>?_)
  · rw [mid_eq h0 (by omega) (by omega) (by omega)]
    obtain ⟨m,hm⟩:∃ m:Nat,(a+b) / 2=(m:Int):=⟨((a+b) / 2).toNat,by omega⟩
    rw [hm]
    have hml:m<w.Items.length:=by omega
    refine idxP_nat hml (cmp_int_ok (ifP_dec (fun hc=>?_) (fun hc=>?_)))
    · rw [cmpc_neg] at hc
      rw [w64_id (by omega) (by omega)]
      refine hn _ ⟨by simp only; omega,by simp only; omega,h2,fun k hk hkm=>?_,h4⟩ (by simp only; omega)
      simp only at hkm
      by_cases e:k=m
      · subst e; exact hc
      · have:=hi.at hml (by omega:k<m); omega
    · rw [cmpc_neg] at hc
      refine hn _ ⟨h0,by simp only; omega,by simp only; omega,h3,fun k hk hkm=>?_⟩ (by simp only; omega)
      simp only at hkm
      by_cases e:k=m
      · subst e; exact hc
      · have:=hi.at hk (by omega:m<k); omega
  · have hab':a=b:=by omega
    subst hab'
    obtain ⟨m,rfl⟩:∃ m:Nat,a=(m:Int):=⟨a.toNat,by omega⟩
    refine ifP_dec (fun hm=>?_) (fun hm=>?_)
    · have hml:m<w.Items.length:=by omega
      refine idxP_nat hml (cmp_int_ok ?_)
      by_cases e:(w.Items[m]).At=i
      · have hb:(cmpc (w.Items[m]).At i==0)=true:=by rw [beq_iff_eq,cmpc_zero]; exact e
        dsimp only
        rw [hb]
        refine ifP_neg rfl (idxP_nat hml ?_)
        have:=mem_lkI hi (List.getElem_mem hml)
        rw [e] at this
        rw [this] at hQ
        exact hQ
      · have hb:(cmpc (w.Items[m]).At i==0)=false:=by rw [beq_eq_false_iff_ne,Ne,cmpc_zero]; exact e
        dsimp only
        rw [hb]
        refine ifP_pos rfl ?_
        rw [lkI_none fun s hs=>?_] at hQ
        · exact hQ
        · obtain ⟨k,hk,rfl⟩:=List.getElem_of_mem hs
          by_cases hkm:k<m
          · have:=h3 k hk (by omega); omega
          · by_cases hkm':k=m
            · subst hkm'; exact e
            · have h5:=hi.at hk (by omega:m<k); have h6:=h4 m hml (by omega); omega
    · refine ifP_pos rfl ?_
      rw [lkI_none fun s hs=>?_] at hQ
      · exact hQ
      · obtain ⟨k,hk,rfl⟩:=List.getElem_of_mem hs
        have:=h3 k hk (by omega); omega
def zSt:State:=⟨0,0,[],[],[]⟩
def sizN (s:State):Nat:=(s.High - s.Low).toNat
def StP (p:Plan) (s:State):Prop:=rightPl p=0∧0≤s.Low∧s.Low≤s.High∧s.High≤p.N∧s.A.length=sizN s∧s.B.length=sizN s∧rightF s.On (s.High - s.Low)
instance (p:Plan) (s:State):Decidable (StP p s):=by unfold StP; infer_instance
def sureSt (p:Plan) (s:State):State:=if StP p s then s else zSt
def okSt (s:State):Prop:=okF s.On∧s.On.length≤1000000
theorem prog_sure_ok {p:Plan} {s:State} {Q:State→Prop} (ho:okSt s) (hQ:Q (sureSt p s)):prog_sure p s Q:=by
  unfold prog_sure prog_can
  have hb (h:¬StP p s):ifP false (Q s) (Q zSt):=ifP_neg rfl (by unfold sureSt at hQ; rwa [if_neg h] at hQ)
  refine prog_Right_ok (ifP_ne (fun h=>hb fun h'=>h h'.1) (fun h=>?_))
  have hr:=rightPl_zero h
  refine ifP_dec (fun h1=>hb fun h'=>by have:=h'.2.1; omega) (fun h1=>ifP_dec (fun h2=>hb fun h'=>by have:=h'.2.2.1; omega) (fun h2=>ifP_dec (fun h3=>hb fun h'=>by have:=h'.2.2.2.1; omega) (fun h3=>?_)))
  rw [w64_id (x:=s.High - s.Low) (by omega) (by omega)]
  refine ifP_eq (fun h4=>ifP_eq (fun h5=>?_) (fun h5=>hb fun h'=>by have:=h'.2.2.2.2.2.1; unfold sizN at this; omega)) (fun h4=>hb fun h'=>by have:=h'.2.2.2.2.1; unfold sizN at this; omega)
  refine flags_Right_ok ho.1 ho.2 (ifP_dec (fun h6=>?_) (fun h6=>?_))
  · unfold sureSt at hQ
    rwa [if_pos ⟨h,by omega,by omega,by omega,by unfold sizN; omega,by unfold sizN; omega,h6⟩] at hQ
  · have:¬StP p s:=fun h'=>h6 h'.2.2.2.2.2.2
    unfold sureSt at hQ
    rwa [if_neg this] at hQ
theorem ref_Sure_ok {p:Plan} {s:State} {Q:State→Prop} (ho:okSt s) (hQ:Q (sureSt p s)):ref21_Sure p s Q:=by
  unfold ref21_Sure ref21_none
  have hb (h:¬StP p s):Q zSt:=by unfold sureSt at hQ; rwa [if_neg h] at hQ
  refine ref_Right_ok (ifP_ne (fun h=>hb fun h'=>h h'.1) (fun h=>?_))
  have hr:=rightPl_zero h
  refine ifP_dec (fun h1=>hb fun h'=>by have:=h'.2.1; omega) (fun h1=>ifP_dec (fun h2=>hb fun h'=>by have:=h'.2.2.1; omega) (fun h2=>ifP_dec (fun h3=>hb fun h'=>by have:=h'.2.2.2.1; omega) (fun h3=>?_)))
  rw [w64_id (x:=s.High - s.Low) (by omega) (by omega)]
  refine ifP_ne (fun h4=>hb fun h'=>by have:=h'.2.2.2.2.1; unfold sizN at this; omega) (fun h4=>ifP_ne (fun h5=>hb fun h'=>by have:=h'.2.2.2.2.2.1; unfold sizN at this; omega) (fun h5=>?_))
  refine ref03_Right_ok ho.1 ho.2 ?_
  by_cases h6:rightF s.On (s.High - s.Low)
  · rw [decide_eq_true h6]
    unfold sureSt at hQ
    rw [if_pos ⟨h,by omega,by omega,by omega,by unfold sizN; omega,by unfold sizN; omega,h6⟩] at hQ
    exact ifP_neg rfl hQ
  · rw [decide_eq_false h6]
    exact ifP_pos rfl (hb fun h'=>h6 h'.2.2.2.2.2.2)
def mapN {β:Type} (n:Nat) (f:Nat→β):List β:=(List.range n).map f
def onsN (n:Nat) (f:Nat→Bool):List Int:=((List.range n).filter f).map fun i:Nat=>(i:Int)
theorem mapN_succ {β:Type} (n:Nat) (f:Nat→β):mapN (n+1) f=mapN n f++[f n]:=by simp [mapN,List.range_succ]
theorem mapN_len {β:Type} (n:Nat) (f:Nat→β):(mapN n f).length=n:=by simp [mapN]
theorem onsN_succ (n:Nat) (f:Nat→Bool):onsN (n+1) f=if f n then onsN n f++[(n:Int)] else onsN n f:=by
  unfold onsN
  rw [List.range_succ,List.filter_append,List.map_append]
  split <;> simp_all [List.filter_cons]
theorem onsN_len (n:Nat) (f:Nat→Bool):(onsN n f).length≤n:=by
  unfold onsN
  rw [List.length_map]
  exact Nat.le_trans (List.length_filter_le _ _) (by simp)
theorem onsN_in {n:Nat} {f:Nat→Bool} {x:Int} (h:x∈onsN n f):0≤x∧x<n:=by
  obtain ⟨i,hi,rfl⟩:=List.mem_map.1 h
  have:=List.mem_range.1 (List.mem_filter.1 hi).1
  omega
theorem mapN_at {n:Nat} {f:Nat→Int} {i:Nat} (h:i<n):at0 (mapN n f) i=f i:=by
  unfold at0 mapN
  simp [List.getD_eq_getElem?_getD,h]
theorem mapN_congr {β:Type} {n:Nat} {f g:Nat→β} (h:∀ i,i<n→f i=g i):mapN n f=mapN n g:=List.map_congr_left fun i hi=>h i (List.mem_range.1 hi)
theorem onsN_congr {n:Nat} {f g:Nat→Bool} (h:∀ i,i<n→f i=g i):onsN n f=onsN n g:=by
  unfold onsN; rw [List.filter_congr fun i hi=>h i (List.mem_range.1 hi)]
def chS (low high:Int) (n:Nat) (g:Nat→Int×Int×Bool):State:=⟨low,high,mapN n fun i=>(g i).1,mapN n fun i=>(g i).2.1,ofF n (onsN n fun i=>(g i).2.2)⟩
theorem changed_loop {n:Nat} (hn:n≤4096) {F:Int→((Int×Int×Bool)→Prop)→Prop} {g:Nat→Int×Int×Bool} (hF:∀ (i:Nat) K,i<n→K (g i)→F i K) {low high:Int} {Q:State→Prop} (hQ:Q (chS low high n g)) :
    loopP (fun (s:(List Int)×(List Int)×(List Int)×Int) (next161:((List Int)×(List Int)×(List Int)×Int)→Prop)=>match s with | (s145,s149,s153,s157)=>ifP (decide (s157<(n:Int))) (F s157 fun r181=>appP 8 s145 ([r181.1]) fun _=>appP 8 s149 ([r181.2.1]) fun _=>ifP r181.2.2 (appP 8 s153 ([s157]) fun _=>next161 ((s145++([r181.1])),(s149++([r181.2.1])),(s153++([s157])),w64 (s157+1))) (next161 ((s145++([r181.1])),(s149++([r181.2.1])),s153,w64 (s157+1)))) (flags_Of (n:Int) s153 fun r206=>Q ({ Low:=low,High:=high,A:=s145,B:=s149,On:=r206 }:State))) (([]:List Int),([]:List Int),([]:List Int),0):=by
  refine range_intro (fun (s:List Int×List Int×List Int) i=>(s.1,s.2.1,s.2.2,i)) 0 n (by omega) (fun i s=>s=(mapN i fun i=>(g i).1,mapN i fun i=>(g i).2.1,onsN i fun i=>(g i).2.2)) (by omega) rfl (fun i s next _ hi hm hnx=>?_) (fun s next hm=>?_) (s0:=([],[],[]))
  · subst hm
    have hol:=onsN_len i fun i=>(g i).2.2
    refine ifP_dec (fun _=>hF i _ hi (appP_intro (by simp [mapN]; omega) (appP_intro (by simp [mapN]; omega) ?_))) (fun h=>by omega)
    have hs:=onsN_succ i fun i=>(g i).2.2
    cases hb:(g i).2.2 with
    | true=>
      refine ifP_pos rfl (appP_intro (by simp; omega) (hnx (_,_,_) ?_))
      simp only [mapN_succ,hs,hb,if_true]
    | false=>
      refine ifP_neg rfl (hnx (_,_,_) ?_)
      simp only [mapN_succ,hs,hb,Bool.false_eq_true,if_false]
  · subst hm
    refine ifP_dec (fun h=>by omega) (fun _=>?_)
    have hol:=onsN_len n fun i=>(g i).2.2
    exact flags_Of_ok (by simp only; omega) (fun x hx=>by have:=onsN_in hx; unfold inI; omega) hQ
def infI:Int:=4611686018427387904
def firstS (p:Plan) (v:Int):Int×Bool:=
  if p.Kind=3 then (v,true) else if p.Kind=5 then (0,false) else if p.Kind=4∧v=p.Source then (1,true) else if v=p.Source then (0,true) else if p.Kind=4 then (0,false) else if p.Kind=1 then (-1,false) else (infI,false)
theorem prog_first_ok {p:Plan} {v:Int} {Q:Int×Bool→Prop} (hQ:Q (firstS p v)):prog_first p v Q:=by
  unfold prog_first joinP
  unfold firstS at hQ
  refine ifP_eq (fun h=>by rwa [if_pos h] at hQ) (fun h3=>ifP_eq (fun h=>by rwa [if_neg h3,if_pos h] at hQ) (fun h5=>?_))
  rw [if_neg h3,if_neg h5] at hQ
  have hk (h:¬(p.Kind=4∧v=p.Source)):ifP false (Q (1,true)) (ifP (v==p.Source) (ifP true (Q (0,true)) (ifP (p.Kind==1) (Q (-1,false)) (Q (4611686018427387904,false)))) (ifP (p.Kind==4) (Q (0,false)) (ifP (p.Kind==1) (Q (-1,false)) (Q (4611686018427387904,false))))):=by
    rw [if_neg h] at hQ
    refine ifP_neg rfl (ifP_eq (fun h1=>ifP_pos rfl (by rwa [if_pos h1] at hQ)) (fun h1=>?_))
    rw [if_neg h1] at hQ
    refine ifP_eq (fun h2=>by rwa [if_pos h2] at hQ) (fun h2=>?_)
    rw [if_neg h2] at hQ
    exact ifP_eq (fun h6=>by rwa [if_pos h6] at hQ) (fun h6=>by rwa [if_neg h6] at hQ)
  refine ifP_eq (fun h4=>?_) (fun h4=>hk fun h=>h4 h.1)
  by_cases hs:v=p.Source
  · rw [if_pos ⟨h4,hs⟩] at hQ
    exact ifP_pos (by simpa using hs) hQ
  · have hb:(v==p.Source)=false:=by simpa using hs
    have:=hk fun h=>hs h.2
    rw [hb] at this ⊢
    exact this
def beginS (p:Plan) (low high:Int):State:=
  if rightPl p=0∧0≤low∧low≤high∧high≤p.N then chS low high (high - low).toNat fun i=>((firstS p (low+i)).1,-1,(firstS p (low+i)).2) else zSt
theorem prog_Begin_ok {p:Plan} {low high:Int} {Q:State→Prop} (hQ:Q (beginS p low high)):prog_Begin p low high Q:=by
  unfold prog_Begin
  unfold beginS at hQ
  have hb (h:¬(rightPl p=0∧0≤low∧low≤high∧high≤p.N)):Q zSt:=by rwa [if_neg h] at hQ
  refine prog_Right_ok (ifP_ne (fun h=>hb fun h'=>h h'.1) (fun h=>ifP_dec (fun h1=>hb (by omega)) (fun h1=>ifP_dec (fun h2=>hb (by omega)) (fun h2=>ifP_dec (fun h3=>hb (by omega)) (fun h3=>?_)))))
  rw [if_pos ⟨h,by omega,by omega,by omega⟩] at hQ
  have hr:=rightPl_zero h
  have e:w64 (high - low)=((high - low).toNat:Int):=by rw [w64_id (by omega) (by omega)]; omega
  unfold prog_changed_b13 prog_Begin_1_d27
  rw [e]
  refine changed_loop (F:=fun a0 K=>prog_first p (w64 (low+a0)) fun r8=>K (r8.1,(-1),r8.2)) (by omega) (fun i K hi hK=>?_) hQ
  rw [w64_id (x:=low+(i:Int)) (by omega) (by omega)]
  exact prog_first_ok hK
theorem ref_Begin_ok {p:Plan} {low high:Int} {Q:State→Prop} (hQ:Q (beginS p low high)):ref21_Begin p low high Q:=by
  unfold ref21_Begin ref21_none
  unfold beginS at hQ
  have hb (h:¬(rightPl p=0∧0≤low∧low≤high∧high≤p.N)):Q zSt:=by rwa [if_neg h] at hQ
  refine ref_Right_ok (ifP_ne (fun h=>hb fun h'=>h h'.1) (fun h=>ifP_dec (fun h1=>hb (by omega)) (fun h1=>ifP_dec (fun h2=>hb (by omega)) (fun h2=>ifP_dec (fun h3=>hb (by omega)) (fun h3=>?_)))))
  rw [if_pos ⟨h,by omega,by omega,by omega⟩] at hQ
  have hr:=rightPl_zero h
  obtain ⟨l,rfl⟩:∃ l:Nat,low=(l:Int):=⟨low.toNat,by omega⟩
  obtain ⟨n,rfl⟩:∃ n:Nat,high=((l+n:Nat):Int):=⟨(high - l).toNat,by omega⟩
  rw [show (((l+n:Nat):Int) - (l:Int)).toNat=n by omega] at hQ
  have e:w64 (((l+n:Nat):Int) - (l:Int))=(n:Int):=by rw [w64_id (by omega) (by omega)]; omega
  rw [e]
  have hkd:=hr.1
  refine range_intro (fun (s:List Int×List Int×List Int) i=>(s.1,s.2.1,s.2.2,i)) l (l+n) (by omega) (fun i s=>s=(mapN (i - l) fun i=>(firstS p (l+i)).1,mapN (i - l) fun _=>-1,onsN (i - l) fun i=>(firstS p (l+i)).2)) (by omega) (by simp [mapN,onsN]) (fun i s next hli hi hm hnx=>?_) (fun s next hm=>?_) (s0:=([],[],[]))
  · subst hm
    obtain ⟨j,rfl⟩:∃ j:Nat,i=l+j:=⟨i - l,by omega⟩
    have hol:=onsN_len j fun i=>(firstS p (l+i)).2
    rw [show l+j - l=j by omega]
    dsimp only
    have e2:w64 (((l+j:Nat):Int) - (l:Int))=(j:Int):=by rw [w64_id (by omega) (by omega)]; omega
    rw [e2]
    rw [show ((l+j:Nat):Int)=(l:Int)+j by omega] at hnx ⊢
    rw [show l+j+1 - l=j+1 by omega] at hnx
    refine ifP_dec (fun _=>?_) (fun h=>by omega)
    have hs:=onsN_succ j fun i=>(firstS p (l+i)).2
    have hfin (a:Int) (o:Bool) (ho:firstS p ((l:Int)+j)=(a,o)):joinP (fun (k1272:(List Int)→Prop)=>ifP o (appP 8 (onsN j fun i=>(firstS p (l+i)).2) ([(j:Int)]) fun _=>k1272 ((onsN j fun i=>(firstS p (l+i)).2)++([(j:Int)]))) (k1272 (onsN j fun i=>(firstS p (l+i)).2))) fun s1268=>appP 8 (mapN j fun i=>(firstS p (l+i)).1) ([a]) fun _=>appP 8 (mapN j fun _=>(-1:Int)) ([(-1)]) fun _=>next (((mapN j fun i=>(firstS p (l+i)).1)++([a])),((mapN j fun _=>(-1:Int))++([(-1)])),s1268,w64 ((l:Int)+j+1)):=by
      unfold joinP
      cases o with
      | true=>
        refine ifP_pos rfl (appP_intro (by simp; omega) (appP_intro (by simp [mapN]; omega) (appP_intro (by simp [mapN]; omega) (hnx (_,_,_) ?_))))
        simp only [mapN_succ,hs,ho,if_true]
      | false=>
        refine ifP_neg rfl (appP_intro (by simp [mapN]; omega) (appP_intro (by simp [mapN]; omega) (hnx (_,_,_) ?_)))
        simp only [mapN_succ,hs,ho,Bool.false_eq_true,if_false]
        rfl
    unfold ref21_from
    generalize ((l:Int)+j)=v at hfin ⊢
    have hf:=hfin (firstS p v).1 (firstS p v).2 rfl
    clear hfin hnx
    rcases (by omega:p.Kind=1∨p.Kind=2∨p.Kind=3∨p.Kind=4∨p.Kind=5) with hk | hk | hk | hk | hk <;> by_cases hs:v=p.Source <;>
      simpa [joinP,ifP_iff,firstS,infI,hk,hs] using hf
  · subst hm
    refine ifP_dec (fun h=>by omega) (fun _=>?_)
    rw [show l+n - l=n by omega]
    have hol:=onsN_len n fun i=>(firstS p (l+i)).2
    exact ref03_Of_ok (by simp only; omega) (fun x hx=>by have:=onsN_in hx; unfold inI; omega) hQ
theorem okSt_z:okSt zSt:=⟨(by intro x hx; cases hx),by decide⟩
theorem sure_cases (p:Plan) (s:State):(StP p s∧sureSt p s=s)∨sureSt p s=zSt:=by
  by_cases h:StP p s
  · exact .inl ⟨h,if_pos h⟩
  · exact .inr (if_neg h)
structure StR (p:Plan) (s:State):Prop where
  pl:sizN s≠0→rightPl p=0
  lo:0≤s.Low
  le:s.Low≤s.High
  hi:s.High≤4096
  hn:sizN s≠0→s.High≤p.N
  al:s.A.length=sizN s
  bl:s.B.length=sizN s
  ok:okF s.On
  ol:s.On.length≤1000000
theorem sureSt_Q {p:Plan} {s:State} (ho:okSt s):StR p (sureSt p s):=by
  rcases sure_cases p s with ⟨h,e⟩ | e
  · rw [e]
    obtain ⟨h1,h2,h3,h4,h5,h6,h7⟩:=h
    have:=(rightPl_zero h1).2.1
    exact ⟨fun _=>h1,h2,h3,by omega,fun _=>h4,h5,h6,ho.1,ho.2⟩
  · rw [e]; exact ⟨fun h=>absurd rfl h,by decide,by decide,by decide,fun h=>absurd rfl h,rfl,rfl,okSt_z.1,okSt_z.2⟩
theorem StR.siz {p:Plan} {s:State} (h:StR p s):(sizN s:Int)=s.High - s.Low∧sizN s≤4096:=by
  have:=h.lo; have:=h.le; have:=h.hi; unfold sizN; omega
theorem StR.w {p:Plan} {s:State} (h:StR p s):w64 (s.High - s.Low)=(sizN s:Int):=by
  have:=h.siz; rw [w64_id (by omega) (by omega)]; omega
def dnum (p:Plan) (round v:Int):Int:=numS p ((round - 1) / 2) v
def tellsS (p:Plan) (s:State) (round:Int) (i:Nat):Int×Bool:=
  if p.Kind=1 then (s.Low+i,hasF s.On i) else if p.Kind=5 then (if round % 2=0 then (1,hasF s.On i) else (dnum p round (s.Low+i),at0 s.A i==0)) else (at0 s.A i,hasF s.On i)
theorem prog_tells_ok {p:Plan} {s:State} {round:Int} {i:Nat} {Q:Int×Bool→Prop} (h:StR p s) (hi:i<sizN s) (hr:0≤round∧round≤1000000) (hQ:Q (tellsS p s round i)):prog_tells p s round i Q:=by
  unfold prog_tells
  unfold tellsS at hQ
  have hs:=h.siz
  have hl:=h.lo
  have hal:=h.al
  have e:w64 (s.Low+(i:Int))=s.Low+i:=w64_id (by omega) (by have:=h.hi; omega)
  refine flags_Has_ok h.ok (by unfold inI; omega) ?_
  rw [e,bnd_odd]
  refine ifP_eq (fun h1=>by rwa [if_pos h1] at hQ) (fun h1=>?_)
  rw [if_neg h1] at hQ
  refine ifP_eq (fun h5=>?_) (fun h5=>?_)
  · rw [if_pos h5] at hQ
    refine ifP_eq (fun h2=>by rwa [if_pos h2] at hQ) (fun h2=>?_)
    rw [if_neg h2] at hQ
    refine idxP_at0 (by omega) (by omega) ?_
    have hp:=rightPl_zero (h.pl (by omega))
    unfold prog_draw
    rw [w64_id (x:=round - 1) (by omega) (by omega),shr1']
    exact prog_number_ok hp.2.1 hp.2.2.2.2.2 hQ
  · rw [if_neg h5] at hQ
    exact idxP_at0 (by omega) (by omega) hQ
theorem draw_num {p:Plan} {round v:Int} (hr:0≤round∧round≤1000000) (h:rightPl p=0) {Q:Int→Prop} (hQ:Q (dnum p round v)):ref21_draw round fun r=>ref21_Draw p r v Q:=by
  unfold ref21_draw
  unfold dnum at hQ
  refine ifP_dec (fun h1=>ref_Draw_ok ?_) (fun h1=>ref_Draw_ok ?_)
  · have e:numS p ((round - 1) / 2) v=0:=if_neg (by omega)
    rw [e] at hQ
    have e2:drawS p (-1) v=0:=by unfold drawS numS; rw [if_pos h,if_neg (by omega)]
    rwa [e2]
  · rw [w64_id (x:=round - 1) (by omega) (by omega),Int.tdiv_eq_ediv_of_nonneg (by omega),w64_id (by omega) (by omega)]
    unfold drawS
    rwa [if_pos h]
theorem ref_tells_ok {p:Plan} {s:State} {round:Int} {i:Nat} {Q:Int×Bool→Prop} (h:StR p s) (hi:i<sizN s) (hr:0≤round∧round≤1000000) (hQ:Q (tellsS p s round i)):ref21_tells p s round i Q:=by
  unfold ref21_tells joinP
  unfold tellsS at hQ
  have hs:=h.siz
  have hl:=h.lo
  have hal:=h.al
  have e:w64 (s.Low+(i:Int))=s.Low+i:=w64_id (by omega) (by have:=h.hi; omega)
  refine ref03_Has_ok h.ok (by unfold inI; omega) ?_
  rw [e]
  refine ifP_eq (fun h1=>by rwa [if_pos h1] at hQ) (fun h1=>?_)
  rw [if_neg h1] at hQ
  refine ifP_eq (fun h5=>?_) (fun h5=>?_)
  · rw [if_pos h5] at hQ
    refine ifP_ne (fun h2=>?_) (fun h2=>?_)
    · rw [if_neg (fun h'=>h2 ((tm2 round).2 h'))] at hQ
      exact idxP_at0 (by omega) (by omega) (draw_num hr (h.pl (by omega)) hQ)
    · rw [if_pos ((tm2 round).1 h2)] at hQ
      exact ifP_eq (fun _=>hQ) (fun h'=>absurd h5 h')
  · rw [if_neg h5] at hQ
    exact ifP_neg rfl (ifP_eq (fun h'=>absurd h' h5) (fun _=>idxP_at0 (by omega) (by omega) hQ))
def outI (n:Nat) (f:Nat→Int×Bool):List Item:=(List.range n).filterMap fun i=>if (f i).2 then some ⟨i,(f i).1⟩ else none
theorem outI_succ (n:Nat) (f:Nat→Int×Bool):outI (n+1) f=if (f n).2 then outI n f++[⟨n,(f n).1⟩] else outI n f:=by
  unfold outI
  rw [List.range_succ,List.filterMap_append]
  cases h:(f n).2 <;> simp [h]
theorem outI_len (n:Nat) (f:Nat→Int×Bool):(outI n f).length≤n:=by
  unfold outI
  exact Nat.le_trans (List.length_filterMap_le _ _) (by simp)
def outVS (p:Plan) (s:State) (round:Int):Vec:=⟨(sureSt p s).High - (sureSt p s).Low,outI (sizN (sureSt p s)) (tellsS p (sureSt p s) round)⟩
theorem out_loop {n:Nat} (hn:n≤4096) {F:Int→((Int×Bool)→Prop)→Prop} {g:Nat→Int×Bool} (hF:∀ (i:Nat) K,i<n→K (g i)→F i K) {Q:Vec→Prop} (hQ:Q ⟨n,outI n g⟩) :
    loopP (fun (s:(List Item)×Int) (next122:((List Item)×Int)→Prop)=>match s with | (s116,s120)=>ifP (decide (s120<(n:Int))) (F s120 fun r133=>ifP r133.2 (appP 16 s116 ([({ At:=s120,Val:=r133.1 }:Item)]) fun _=>next122 ((s116++([({ At:=s120,Val:=r133.1 }:Item)])),w64 (s120+1))) (next122 (s116,w64 (s120+1)))) (Q ({ N:=(n:Int),Items:=s116 }:Vec))) (([]:List Item),0):=by
  refine range_intro (fun (s:List Item) i=>(s,i)) 0 n (by omega) (fun i s=>s=outI i g) (by omega) rfl (fun i s next _ hi hm hnx=>?_) (fun s next hm=>?_)
  · subst hm
    have hol:=outI_len i g
    have hs:=outI_succ i g
    refine ifP_dec (fun _=>hF i _ hi ?_) (fun h=>by omega)
    cases hb:(g i).2 with
    | true=>exact ifP_pos rfl (appP_intro (by simp; omega) (hnx _ (by rw [hs,hb]; rfl)))
    | false=>exact ifP_neg rfl (hnx _ (by rw [hs,hb]; rfl))
  · subst hm
    exact ifP_dec (fun h=>by omega) (fun _=>hQ)
theorem prog_Out_ok {p:Plan} {s:State} {round:Int} {Q:Vec→Prop} (ho:okSt s) (hr:0≤round∧round≤1000000) (hQ:Q (outVS p s round)):prog_Out p s round Q:=by
  unfold prog_Out
  refine prog_sure_ok ho ?_
  have h:=sureSt_Q (p:=p) ho
  unfold outVS at hQ
  rw [←h.siz.1] at hQ
  rw [h.w]
  exact out_loop (F:=fun i K=>prog_tells p (sureSt p s) round i K) h.siz.2 (fun i K hi hK=>prog_tells_ok h hi hr hK) hQ
theorem ref_Out_ok {p:Plan} {s:State} {round:Int} {Q:Vec→Prop} (ho:okSt s) (hr:0≤round∧round≤1000000) (hQ:Q (outVS p s round)):ref21_Out p s round Q:=by
  unfold ref21_Out
  refine ref_Sure_ok ho ?_
  have h:=sureSt_Q (p:=p) ho
  unfold outVS at hQ
  rw [←h.siz.1] at hQ
  rw [h.w]
  exact out_loop (F:=fun i K=>ref21_tells p (sureSt p s) round i K) h.siz.2 (fun i K hi hK=>ref_tells_ok h hi hr hK) hQ
def behS (p:Plan) (s:State) (round:Int) (i:Nat) (o:Option Int):Int×Int×Bool:=
  let a:=at0 s.A i; let b:=at0 s.B i; let v:=(getO o).1; let got:=(getO o).2
  if p.Kind=1 then (if got=true∧a = -1 then (round,v,true) else (a,b,false))
  else if p.Kind=2∨p.Kind=3 then (if got=true∧v<a then (v,b,true) else (a,b,false))
  else if p.Kind=4 then (v,b,v != 0)
  else if a≠0 then (a,b,false)
  else if round % 2=0 then (if got=true then (2,b,false) else (a,b,false))
  else if got=false∨dnum p round (s.Low+i)<v then (1,b,true) else (a,b,false)
theorem prog_behind_ok {p:Plan} {s:State} {round:Int} {i:Nat} {o:Option Int} {Q:Int×Int×Bool→Prop} (h:StR p s) (hi:i<sizN s) (hr:0≤round∧round≤1000000) (hQ:Q (behS p s round i o)) :
    prog_behind p s round i (getO o).1 (getO o).2 Q:=by
  unfold prog_behind joinP
  unfold behS at hQ
  have hs:=h.siz
  have hl:=h.lo
  have hal:=h.al
  have hbl:=h.bl
  have e:w64 (s.Low+(i:Int))=s.Low+i:=w64_id (by omega) (by have:=h.hi; omega)
  have hp:=rightPl_zero (h.pl (by omega))
  refine idxP_at0 (by omega) (by omega) (idxP_at0 (by omega) (by omega) ?_)
  have hd:∀ K:Int→Prop,K (dnum p round (s.Low+i))→prog_draw round fun r86=>prog_number p r86 (w64 (s.Low+(i:Int))) K:=fun K hK=>by
    unfold prog_draw
    rw [e,w64_id (x:=round - 1) (by omega) (by omega),shr1']
    exact prog_number_ok hp.2.1 hp.2.2.2.2.2 hK
  rw [bnd_odd]
  generalize at0 s.A i=a at hQ ⊢
  generalize at0 s.B i=b at hQ ⊢
  generalize (getO o).1=v at hQ ⊢
  generalize (getO o).2=got at hQ ⊢
  simp only at hQ
  refine ifP_eq (fun h1=>?_) (fun h1=>?_)
  · rw [if_pos h1] at hQ
    cases got with
    | true=>exact ifP_pos rfl (ifP_eq (fun ha=>by rwa [if_pos ⟨rfl,ha⟩] at hQ) (fun ha=>by rwa [if_neg fun h=>ha h.2] at hQ))
    | false=>exact ifP_neg rfl (by rwa [if_neg fun h=>by cases h.1] at hQ)
  rw [if_neg h1] at hQ
  have h23 (hk:p.Kind=2∨p.Kind=3):ifP got (ifP (decide (v<a)) (Q (v,b,true)) (Q (a,b,false))) (Q (a,b,false)):=by
    rw [if_pos hk] at hQ
    cases got with
    | true=>exact ifP_pos rfl (ifP_dec (fun ha=>by rwa [if_pos ⟨rfl,ha⟩] at hQ) (fun ha=>by rwa [if_neg fun h=>ha h.2] at hQ))
    | false=>exact ifP_neg rfl (by rwa [if_neg fun h=>by cases h.1] at hQ)
  have hrest (h2:¬(p.Kind=2∨p.Kind=3)):ifP (p.Kind==4) (Q (v,b,v != 0)) (ifP (p.Kind==5) (ifP (a != 0) (Q (a,b,false)) (ifP (round % 2==0) (ifP got (Q (2,b,false)) (ifP (round % 2==1) (ifP (!got) (Q (1,b,true)) (prog_draw round fun r86=>prog_number p r86 (w64 (s.Low+(i:Int))) fun r90=>ifP (decide (r90<v)) (Q (1,b,true)) (Q (a,b,false)))) (Q (a,b,false)))) (ifP false (Q (2,b,false)) (ifP (round % 2==1) (ifP (!got) (Q (1,b,true)) (prog_draw round fun r86=>prog_number p r86 (w64 (s.Low+(i:Int))) fun r90=>ifP (decide (r90<v)) (Q (1,b,true)) (Q (a,b,false)))) (Q (a,b,false)))))) (Q (a,b,false))):=by
    rw [if_neg h2] at hQ
    refine ifP_eq (fun h4=>by rwa [if_pos h4] at hQ) (fun h4=>?_)
    rw [if_neg h4] at hQ
    refine ifP_eq (fun h5=>?_) (fun h5=>absurd hp.1 (by omega))
    refine ifP_ne (fun ha=>by rwa [if_pos ha] at hQ) (fun ha=>?_)
    rw [if_neg (fun h'=>h' ha)] at hQ
    refine ifP_eq (fun h6=>?_) (fun h6=>?_)
    · rw [if_pos h6] at hQ
      cases got with
      | true=>exact ifP_pos rfl (by rwa [if_pos rfl] at hQ)
      | false=>exact ifP_neg rfl (ifP_eq (fun h7=>by omega) (fun h7=>by rwa [if_neg (by simp)] at hQ))
    · rw [if_neg h6] at hQ
      refine ifP_neg rfl (ifP_eq (fun h7=>?_) (fun h7=>by omega))
      cases got with
      | false=>exact ifP_pos rfl (by rwa [if_pos (.inl rfl)] at hQ)
      | true=>exact ifP_neg rfl (hd _ (ifP_dec (fun h8=>by rwa [if_pos (.inr h8)] at hQ) (fun h8=>by rwa [if_neg (by simp [h8])] at hQ)))
  refine ifP_eq (fun h2=>?_) (fun h2=>?_)
  · have hb:(p.Kind==2)=true:=by simpa using h2
    rw [hb]; exact ifP_pos rfl (h23 (.inl h2))
  · refine ifP_eq (fun h3=>?_) (fun h3=>?_)
    · exact h23 (.inr h3)
    · exact hrest (by omega)
def newS (p:Plan) (s:State) (round:Int) (y:Vec) (i:Nat):Int×Int×Bool:=behS p s round i (lkI y.Items i)
def updS (p:Plan) (s:State) (round:Int) (y:Vec):State:=
  if VecP y∧y.N=(sureSt p s).High - (sureSt p s).Low then chS (sureSt p s).Low (sureSt p s).High (sizN (sureSt p s)) (newS p (sureSt p s) round y) else sureSt p s
theorem pclone_ok {xs:List Int} {Q:List Int→Prop} (hl:xs.length≤1000000) (hQ:Q xs):slices_Clone_int64_int64 xs Q:=by
  unfold slices_Clone_int64_int64
  exact nilP_intro (fun h=>by rwa [h] at hQ) (appP_intro (by simp; omega) hQ)
theorem clone_u_ok {xs:List Int} {Q:List Int→Prop} (hl:xs.length≤1000000) (hQ:Q xs):slices_Clone_uint64_uint64 xs Q:=by
  unfold slices_Clone_uint64_uint64
  exact nilP_intro (fun h=>by rwa [h] at hQ) (appP_intro (by simp; omega) hQ)
theorem prog_Update_ok {p:Plan} {s:State} {round:Int} {y:Vec} {Q:State→Prop} (ho:okSt s) (hr:0≤round∧round≤1000000) (hy:y.Items.length≤1000000) (hQ:Q (updS p s round y)):prog_Update p s round y Q:=by
  unfold prog_Update
  refine prog_sure_ok ho ?_
  have h:=sureSt_Q (p:=p) ho
  unfold updS at hQ
  generalize sureSt p s=u at h hQ ⊢
  have hs:=h.siz
  have hal:=h.al
  have hbl:=h.bl
  rw [h.w]
  have hcl (hb:¬(VecP y∧y.N=u.High - u.Low)):slices_Clone_int64_int64 u.A fun r101=>slices_Clone_int64_int64 u.B fun r113=>slices_Clone_uint64_uint64 u.On fun r125=>Q ({ Low:=u.Low,High:=u.High,A:=r101,B:=r113,On:=r125 }:State):=by
    rw [if_neg hb] at hQ
    exact pclone_ok (by omega) (pclone_ok (by omega) (clone_u_ok h.ol hQ))
  have hch (hb:VecP y∧y.N=u.High - u.Low):prog_changed_59a y p u round u (sizN u:Int) fun r143=>Q r143:=by
    rw [if_pos hb] at hQ
    unfold prog_changed_59a prog_Update_1_24a
    refine changed_loop (F:=fun a0 K=>spvec_Get y a0 fun r28=>prog_behind p u round a0 r28.1 r28.2 fun r32=>K (r32.1,r32.2.1,r32.2.2)) hs.2 (fun i K hi hK=>?_) hQ
    refine spvec_Get_ok (by omega) ?_
    rw [sureV_id hb.1]
    exact prog_behind_ok h hi hr hK
  unfold joinP
  refine spvec_Right_ok (by omega) ?_
  by_cases hv:VecP y
  · rw [decide_eq_true hv]
    refine ifP_neg rfl (ifP_ne (fun hn=>hcl fun h'=>hn (by rw [h'.2]; omega)) (fun hn=>hch ⟨hv,by omega⟩))
  · rw [decide_eq_false hv]
    exact ifP_pos rfl (ifP_pos rfl (hcl fun h'=>hv h'.1))
end Go.Proofs.YtaefnmlbnkmahaaGreat
