import Derived.Test.YtaefnmlbnkmahaaGreatPlnC
namespace Go.Proofs.YtaefnmlbnkmahaaGreat
open Go Go.Fw
set_option linter.unusedVariables false
set_option linter.unusedSimpArgs false
theorem okSt_z:okSt zSt:=⟨(by intro x hx; cases hx),by decide⟩
theorem sure_cases (p:Plan) (s:State):(StP p s∧sureSt p s=s)∨sureSt p s=zSt:=by
  by_cases h:StP p s
  · exact .inl ⟨h,if_pos h⟩
  · exact .inr (if_neg h)
structure StR (p:Plan) (s:State):Prop where
  pl:sizN s≠0→rightPl p=0
  lo:0≤s.Low
  le:s.Low≤s.High
  hi:s.High≤4096
  hn:sizN s≠0→s.High≤p.N
  al:s.A.length=sizN s
  bl:s.B.length=sizN s
  ok:okF s.On
  ol:s.On.length≤1000000
theorem sureSt_Q {p:Plan} {s:State} (ho:okSt s):StR p (sureSt p s):=by
  rcases sure_cases p s with ⟨h,e⟩ | e
  · rw [e]
    obtain ⟨h1,h2,h3,h4,h5,h6,h7⟩:=h
    have:=(rightPl_zero h1).2.1
    exact ⟨fun _=>h1,h2,h3,by omega,fun _=>h4,h5,h6,ho.1,ho.2⟩
  · rw [e]; exact ⟨fun h=>absurd rfl h,by decide,by decide,by decide,fun h=>absurd rfl h,rfl,rfl,okSt_z.1,okSt_z.2⟩
theorem StR.siz {p:Plan} {s:State} (h:StR p s):(sizN s:Int)=s.High - s.Low∧sizN s≤4096:=by
  have:=h.lo; have:=h.le; have:=h.hi; unfold sizN; omega
theorem StR.w {p:Plan} {s:State} (h:StR p s):w64 (s.High - s.Low)=(sizN s:Int):=by
  have:=h.siz; rw [w64_id (by omega) (by omega)]; omega
def dnum (p:Plan) (round v:Int):Int:=numS p ((round - 1) / 2) v
def tellsS (p:Plan) (s:State) (round:Int) (i:Nat):Int×Bool:=
  if p.Kind=1 then (s.Low+i,hasF s.On i) else if p.Kind=5 then (if round % 2=0 then (1,hasF s.On i) else (dnum p round (s.Low+i),at0 s.A i==0)) else (at0 s.A i,hasF s.On i)
theorem prog_tells_ok {p:Plan} {s:State} {round:Int} {i:Nat} {Q:Int×Bool→Prop} (h:StR p s) (hi:i<sizN s) (hr:0≤round∧round≤1000000) (hQ:Q (tellsS p s round i)):prog_tells p s round i Q:=by
  unfold prog_tells
  unfold tellsS at hQ
  have hs:=h.siz
  have hl:=h.lo
  have hal:=h.al
  have e:w64 (s.Low+(i:Int))=s.Low+i:=w64_id (by omega) (by have:=h.hi; omega)
  refine flags_Has_ok h.ok (by unfold inI; omega) ?_
  rw [e,bnd_odd]
  refine ifP_eq (fun h1=>by rwa [if_pos h1] at hQ) (fun h1=>?_)
  rw [if_neg h1] at hQ
  refine ifP_eq (fun h5=>?_) (fun h5=>?_)
  · rw [if_pos h5] at hQ
    refine ifP_eq (fun h2=>by rwa [if_pos h2] at hQ) (fun h2=>?_)
    rw [if_neg h2] at hQ
    refine idxP_at0 (by omega) (by omega) ?_
    have hp:=rightPl_zero (h.pl (by omega))
    unfold prog_draw
    rw [w64_id (x:=round - 1) (by omega) (by omega),shr1']
    exact prog_number_ok hp.2.1 hp.2.2.2.2.2 hQ
  · rw [if_neg h5] at hQ
    exact idxP_at0 (by omega) (by omega) hQ
def outI (n:Nat) (f:Nat→Int×Bool):List Item:=(List.range n).filterMap fun i=>if (f i).2 then some ⟨i,(f i).1⟩ else none
theorem outI_succ (n:Nat) (f:Nat→Int×Bool):outI (n+1) f=if (f n).2 then outI n f++[⟨n,(f n).1⟩] else outI n f:=by
  unfold outI
  rw [List.range_succ,List.filterMap_append]
  cases h:(f n).2 <;> simp [h]
theorem outI_len (n:Nat) (f:Nat→Int×Bool):(outI n f).length≤n:=by
  unfold outI
  exact Nat.le_trans (List.length_filterMap_le _ _) (by simp)
def outVS (p:Plan) (s:State) (round:Int):Vec:=⟨(sureSt p s).High - (sureSt p s).Low,outI (sizN (sureSt p s)) (tellsS p (sureSt p s) round)⟩
theorem out_loop {n:Nat} (hn:n≤4096) {F:Int→((Int×Bool)→Prop)→Prop} {g:Nat→Int×Bool} (hF:∀ (i:Nat) K,i<n→K (g i)→F i K) {Q:Vec→Prop} (hQ:Q ⟨n,outI n g⟩) :
    loopP (fun (s:(List Item)×Int) (next122:((List Item)×Int)→Prop)=>match s with | (s116,s120)=>ifP (decide (s120<(n:Int))) (F s120 fun r133=>ifP r133.2 (appP 16 s116 ([({ At:=s120,Val:=r133.1 }:Item)]) fun _=>next122 ((s116++([({ At:=s120,Val:=r133.1 }:Item)])),w64 (s120+1))) (next122 (s116,w64 (s120+1)))) (Q ({ N:=(n:Int),Items:=s116 }:Vec))) (([]:List Item),0):=by
  refine range_intro (fun (s:List Item) i=>(s,i)) 0 n (by omega) (fun i s=>s=outI i g) (by omega) rfl (fun i s next _ hi hm hnx=>?_) (fun s next hm=>?_)
  · subst hm
    have hol:=outI_len i g
    have hs:=outI_succ i g
    refine ifP_dec (fun _=>hF i _ hi ?_) (fun h=>by omega)
    cases hb:(g i).2 with
    | true=>exact ifP_pos rfl (appP_intro (by simp; omega) (hnx _ (by rw [hs,hb]; rfl)))
    | false=>exact ifP_neg rfl (hnx _ (by rw [hs,hb]; rfl))
  · subst hm
    exact ifP_dec (fun h=>by omega) (fun _=>hQ)
theorem prog_Out_ok {p:Plan} {s:State} {round:Int} {Q:Vec→Prop} (ho:okSt s) (hr:0≤round∧round≤1000000) (hQ:Q (outVS p s round)):prog_Out p s round Q:=by
  unfold prog_Out
  refine prog_sure_ok ho ?_
  have h:=sureSt_Q (p:=p) ho
  unfold outVS at hQ
  rw [←h.siz.1] at hQ
  rw [h.w]
  exact out_loop (F:=fun i K=>prog_tells p (sureSt p s) round i K) h.siz.2 (fun i K hi hK=>prog_tells_ok h hi hr hK) hQ
def behS (p:Plan) (s:State) (round:Int) (i:Nat) (o:Option Int):Int×Int×Bool:=
  let a:=at0 s.A i; let b:=at0 s.B i; let v:=(getO o).1; let got:=(getO o).2
  if p.Kind=1 then (if got=true∧a = -1 then (round,v,true) else (a,b,false))
  else if p.Kind=2∨p.Kind=3 then (if got=true∧v<a then (v,b,true) else (a,b,false))
  else if p.Kind=4 then (v,b,v != 0)
  else if a≠0 then (a,b,false)
  else if round % 2=0 then (if got=true then (2,b,false) else (a,b,false))
  else if got=false∨dnum p round (s.Low+i)<v then (1,b,true) else (a,b,false)
theorem prog_behind_ok {p:Plan} {s:State} {round:Int} {i:Nat} {o:Option Int} {Q:Int×Int×Bool→Prop} (h:StR p s) (hi:i<sizN s) (hr:0≤round∧round≤1000000) (hQ:Q (behS p s round i o)) :
    prog_behind p s round i (getO o).1 (getO o).2 Q:=by
  unfold prog_behind joinP
  unfold behS at hQ
  have hs:=h.siz
  have hl:=h.lo
  have hal:=h.al
  have hbl:=h.bl
  have e:w64 (s.Low+(i:Int))=s.Low+i:=w64_id (by omega) (by have:=h.hi; omega)
  have hp:=rightPl_zero (h.pl (by omega))
  refine idxP_at0 (by omega) (by omega) (idxP_at0 (by omega) (by omega) ?_)
  have hd:∀ K:Int→Prop,K (dnum p round (s.Low+i))→prog_draw round fun r86=>prog_number p r86 (w64 (s.Low+(i:Int))) K:=fun K hK=>by
    unfold prog_draw
    rw [e,w64_id (x:=round - 1) (by omega) (by omega),shr1']
    exact prog_number_ok hp.2.1 hp.2.2.2.2.2 hK
  rw [bnd_odd]
  generalize at0 s.A i=a at hQ ⊢
  generalize at0 s.B i=b at hQ ⊢
  generalize (getO o).1=v at hQ ⊢
  generalize (getO o).2=got at hQ ⊢
  simp only at hQ
  refine ifP_eq (fun h1=>?_) (fun h1=>?_)
  · rw [if_pos h1] at hQ
    cases got with
    | true=>exact ifP_pos rfl (ifP_eq (fun ha=>by rwa [if_pos ⟨rfl,ha⟩] at hQ) (fun ha=>by rwa [if_neg fun h=>ha h.2] at hQ))
    | false=>exact ifP_neg rfl (by rwa [if_neg fun h=>by cases h.1] at hQ)
  rw [if_neg h1] at hQ
  have h23 (hk:p.Kind=2∨p.Kind=3):ifP got (ifP (decide (v<a)) (Q (v,b,true)) (Q (a,b,false))) (Q (a,b,false)):=by
    rw [if_pos hk] at hQ
    cases got with
    | true=>exact ifP_pos rfl (ifP_dec (fun ha=>by rwa [if_pos ⟨rfl,ha⟩] at hQ) (fun ha=>by rwa [if_neg fun h=>ha h.2] at hQ))
    | false=>exact ifP_neg rfl (by rwa [if_neg fun h=>by cases h.1] at hQ)
  have hrest (h2:¬(p.Kind=2∨p.Kind=3)):ifP (p.Kind==4) (Q (v,b,v != 0)) (ifP (p.Kind==5) (ifP (a != 0) (Q (a,b,false)) (ifP (round % 2==0) (ifP got (Q (2,b,false)) (ifP (round % 2==1) (ifP (!got) (Q (1,b,true)) (prog_draw round fun r86=>prog_number p r86 (w64 (s.Low+(i:Int))) fun r90=>ifP (decide (r90<v)) (Q (1,b,true)) (Q (a,b,false)))) (Q (a,b,false)))) (ifP false (Q (2,b,false)) (ifP (round % 2==1) (ifP (!got) (Q (1,b,true)) (prog_draw round fun r86=>prog_number p r86 (w64 (s.Low+(i:Int))) fun r90=>ifP (decide (r90<v)) (Q (1,b,true)) (Q (a,b,false)))) (Q (a,b,false)))))) (Q (a,b,false))):=by
    rw [if_neg h2] at hQ
    refine ifP_eq (fun h4=>by rwa [if_pos h4] at hQ) (fun h4=>?_)
    rw [if_neg h4] at hQ
    refine ifP_eq (fun h5=>?_) (fun h5=>absurd hp.1 (by omega))
    refine ifP_ne (fun ha=>by rwa [if_pos ha] at hQ) (fun ha=>?_)
    rw [if_neg (fun h'=>h' ha)] at hQ
    refine ifP_eq (fun h6=>?_) (fun h6=>?_)
    · rw [if_pos h6] at hQ
      cases got with
      | true=>exact ifP_pos rfl (by rwa [if_pos rfl] at hQ)
      | false=>exact ifP_neg rfl (ifP_eq (fun h7=>by omega) (fun h7=>by rwa [if_neg (by simp)] at hQ))
    · rw [if_neg h6] at hQ
      refine ifP_neg rfl (ifP_eq (fun h7=>?_) (fun h7=>by omega))
      cases got with
      | false=>exact ifP_pos rfl (by rwa [if_pos (.inl rfl)] at hQ)
      | true=>exact ifP_neg rfl (hd _ (ifP_dec (fun h8=>by rwa [if_pos (.inr h8)] at hQ) (fun h8=>by rwa [if_neg (by simp [h8])] at hQ)))
  refine ifP_eq (fun h2=>?_) (fun h2=>?_)
  · have hb:(p.Kind==2)=true:=by simpa using h2
    rw [hb]; exact ifP_pos rfl (h23 (.inl h2))
  · refine ifP_eq (fun h3=>?_) (fun h3=>?_)
    · exact h23 (.inr h3)
    · exact hrest (by omega)
def newS (p:Plan) (s:State) (round:Int) (y:Vec) (i:Nat):Int×Int×Bool:=behS p s round i (lkI y.Items i)
def updS (p:Plan) (s:State) (round:Int) (y:Vec):State:=
  if VecP y∧y.N=(sureSt p s).High - (sureSt p s).Low then chS (sureSt p s).Low (sureSt p s).High (sizN (sureSt p s)) (newS p (sureSt p s) round y) else sureSt p s
theorem pclone_ok {xs:List Int} {Q:List Int→Prop} (hl:xs.length≤1000000) (hQ:Q xs):slices_Clone_int64_int64 xs Q:=by
  unfold slices_Clone_int64_int64
  exact nilP_intro (fun h=>by rwa [h] at hQ) (appP_intro (by simp; omega) hQ)
theorem clone_u_ok {xs:List Int} {Q:List Int→Prop} (hl:xs.length≤1000000) (hQ:Q xs):slices_Clone_uint64_uint64 xs Q:=by
  unfold slices_Clone_uint64_uint64
  exact nilP_intro (fun h=>by rwa [h] at hQ) (appP_intro (by simp; omega) hQ)
theorem prog_Update_ok {p:Plan} {s:State} {round:Int} {y:Vec} {Q:State→Prop} (ho:okSt s) (hr:0≤round∧round≤1000000) (hy:y.Items.length≤1000000) (hQ:Q (updS p s round y)):prog_Update p s round y Q:=by
  unfold prog_Update
  refine prog_sure_ok ho ?_
  have h:=sureSt_Q (p:=p) ho
  unfold updS at hQ
  generalize sureSt p s=u at h hQ ⊢
  have hs:=h.siz
  have hal:=h.al
  have hbl:=h.bl
  rw [h.w]
  have hcl (hb:¬(VecP y∧y.N=u.High - u.Low)):slices_Clone_int64_int64 u.A fun r101=>slices_Clone_int64_int64 u.B fun r113=>slices_Clone_uint64_uint64 u.On fun r125=>Q ({ Low:=u.Low,High:=u.High,A:=r101,B:=r113,On:=r125 }:State):=by
    rw [if_neg hb] at hQ
    exact pclone_ok (by omega) (pclone_ok (by omega) (clone_u_ok h.ol hQ))
  have hch (hb:VecP y∧y.N=u.High - u.Low):prog_changed_59a y p u round u (sizN u:Int) fun r143=>Q r143:=by
    rw [if_pos hb] at hQ
    unfold prog_changed_59a prog_Update_1_24a
    refine changed_loop (F:=fun a0 K=>spvec_Get y a0 fun r28=>prog_behind p u round a0 r28.1 r28.2 fun r32=>K (r32.1,r32.2.1,r32.2.2)) hs.2 (fun i K hi hK=>?_) hQ
    refine spvec_Get_ok (by omega) ?_
    rw [sureV_id hb.1]
    exact prog_behind_ok h hi hr hK
  unfold joinP
  refine spvec_Right_ok (by omega) ?_
  by_cases hv:VecP y
  · rw [decide_eq_true hv]
    refine ifP_neg rfl (ifP_ne (fun hn=>hcl fun h'=>hn (by rw [h'.2]; omega)) (fun hn=>hch ⟨hv,by omega⟩))
  · rw [decide_eq_false hv]
    exact ifP_pos rfl (ifP_pos rfl (hcl fun h'=>hv h'.1))
def lenSt (s:State):Prop:=s.A.length≤1000000∧s.B.length≤1000000∧s.On.length≤1000000
def cntN (n:Nat) (f:Nat→Bool):Nat:=(List.range n).countP f
theorem cntN_succ (n:Nat) (f:Nat→Bool):cntN (n+1) f=cntN n f+if f n then 1 else 0:=by
  unfold cntN; rw [List.range_succ,List.countP_append]; simp [List.countP_cons]
theorem cntN_le (n:Nat) (f:Nat→Bool):cntN n f≤n:=by unfold cntN; exact Nat.le_trans List.countP_le_length (by simp)
theorem cntN_congr {n:Nat} {f g:Nat→Bool} (h:∀ i,i<n→f i=g i):cntN n f=cntN n g:=by
  induction n with
  | zero=>rfl
  | succ n ih=>rw [cntN_succ,cntN_succ,ih fun i hi=>h i (by omega),h n (by omega)]
theorem cntN_add (a b:Nat) (f:Nat→Bool):cntN (a+b) f=cntN a f+cntN b fun j=>f (a+j):=by
  induction b with
  | zero=>rfl
  | succ b ih=>rw [←Nat.add_assoc,cntN_succ,ih,cntN_succ]; omega
theorem cntN_zero {n:Nat} {f:Nat→Bool} (h:∀ i,i<n→f i=false):cntN n f=0:=by
  induction n with
  | zero=>rfl
  | succ n ih=>rw [cntN_succ,ih fun i hi=>h i (by omega),h n (by omega)]; rfl
def pcf:Nat→Nat→Nat
  | 0,_=>0
  | k+1,n=>n % 2+pcf k (n / 2)
theorem pcf_low {k:Nat}:∀ {n:Nat},0<n→n<2 ^ k→pcf k (n &&& (n - 1))+1=pcf k n:=by
  induction k with
  | zero=>intro n h0 h1; simp at h1; omega
  | succ k ih=>
    intro n h0 h1
    have hd:(n &&& (n - 1)) / 2=n / 2 &&& (n - 1) / 2:=Nat.and_div_two
    have hm:(n &&& (n - 1)) % 2=(n % 2) &&& ((n - 1) % 2):=by have:=Nat.and_mod_two_pow (a:=n) (b:=n - 1) (n:=1); simpa using this
    rw [Nat.pow_succ] at h1
    simp only [pcf,hd,hm]
    rcases Nat.mod_two_eq_zero_or_one n with e | e
    · have e1:(n - 1) / 2=n / 2 - 1:=by omega
      rw [e1,e]
      have:=ih (n:=n / 2) (by omega) (by omega)
      simp only [Nat.zero_and]
      omega
    · have e1:(n - 1) / 2=n / 2:=by omega
      have e2:(n - 1) % 2=0:=by omega
      rw [e1,e,e2,Nat.and_self]
      simp only [Nat.and_zero]
      omega
theorem pcf_zero (k:Nat):pcf k 0=0:=by induction k with
  | zero=>rfl
  | succ k ih=>simp [pcf,ih]
theorem pcf_cnt (k:Nat):∀ n:Nat,pcf k n=cntN k fun j=>n.testBit j:=by
  induction k with
  | zero=>intro n; rfl
  | succ k ih=>
    intro n
    rw [Nat.add_comm k 1,cntN_add,Nat.add_comm 1 k,pcf,ih]
    congr 1
    · rw [show cntN 1 (fun j=>n.testBit j)=cntN (0+1) (fun j=>n.testBit j) from rfl,cntN_succ]
      simp only [cntN,List.range_zero,List.countP_nil,Nat.zero_add,Nat.testBit_zero,decide_eq_true_eq]
      split <;> omega
    · exact cntN_congr fun j _=>by rw [Nat.add_comm 1 j,Nat.testBit_succ]
theorem bnd_nn {x y:Nat} (hx:x<18446744073709551616) (hy:y<18446744073709551616):bnd .u64 (x:Int) (y:Int)=((x &&& y:Nat):Int):=by
  have h:(BitVec.ofInt 64 (x:Int) &&& BitVec.ofInt 64 (y:Int)).toNat=x &&& y:=by
    rw [BitVec.toNat_and,BitVec.toNat_ofInt,BitVec.toNat_ofInt]
    have hp:((2 ^ 64:Nat):Int)=18446744073709551616:=by decide
    rw [hp,show ((x:Int) % 18446744073709551616).toNat=x by omega,show ((y:Int) % 18446744073709551616).toNat=y by omega]
  unfold bnd
  rw [show IntKind.u64.bits=64 from rfl,h]
  have:=Nat.and_le_left (n:=x) (m:=y)
  exact wrap_u64_id (by omega) (by omega)
theorem flags_ones_ok {w:Nat} {Q:Int→Prop} (hw:w<18446744073709551616) (hQ:Q (pcf 64 w:Nat)):flags_ones (w:Int) Q:=by
  unfold flags_ones
  refine loop_intro (fun s:Int×Int=>∃ m c:Nat,s=((m:Int),(c:Int))∧m≤w∧c+pcf 64 m=pcf 64 w) (fun s=>s.1.toNat) ⟨w,0,rfl,Nat.le_refl _,by omega⟩ ?_
  rintro _ next ⟨m,c,rfl,h1,h2⟩ hn
  have hb:pcf 64 w≤64:=by rw [pcf_cnt]; exact cntN_le _ _
  refine ifP_eq (fun h=>?_) (fun h=>?_)
  · have:m=0:=by omega
    subst this
    rw [pcf_zero] at h2
    rw [show c=pcf 64 w by omega]; exact hQ
  · have hm:0<m:=by omega
    have e:IntKind.wrap .u64 ((m:Int) - 1)=((m - 1:Nat):Int):=by rw [wrap_u64_id (by omega) (by omega)]; omega
    have hlow:=pcf_low (k:=64) hm (by omega)
    rw [e,bnd_nn (by omega) (by omega),w64_id (by omega) (by omega)]
    have hle:=Nat.and_le_right (n:=m) (m:=m - 1)
    exact hn _ ⟨m &&& (m - 1),c+1,by rw [show ((c+1:Nat):Int)=(c:Int)+1 by omega],by omega,by omega⟩ (by simp only [Int.toNat_natCast]; omega)
theorem word_has {f:List Int} {k j:Nat} (hj:j<64):hasF f ((64*k+j:Nat):Int)=(at0 f k).toNat.testBit j:=by
  unfold hasF
  have e1:(((64*k+j:Nat):Int) / 64)=(k:Int):=by omega
  have e2:(((64*k+j:Nat):Int) % 64).toNat=j:=by omega
  rw [e1,e2]
  simp
  intro _; omega
def allF (f:List Int):Nat:=cntN (64*f.length) fun i=>hasF f i
theorem flags_Count_ok {f:List Int} {Q:Int→Prop} (hf:okF f) (hl:f.length≤1000000) (hQ:Q (allF f:Nat)):flags_Count f Q:=by
  unfold flags_Count
  refine range_intro (fun (s:Int) i=>(s,i)) 0 f.length (by omega) (fun k s=>s=(cntN (64*k) fun i=>hasF f i:Nat)) (by omega) rfl (fun k s next _ hk hm hnx=>?_) (fun s next hm=>?_)
  · subst hm
    refine ifP_dec (fun _=>idxP_at0 (by omega) (by omega) ?_) (fun h=>by omega)
    have hb:=okF_at hf k
    obtain ⟨w,hw⟩:∃ w:Nat,at0 f k=(w:Int):=⟨(at0 f k).toNat,by omega⟩
    rw [hw]
    refine flags_ones_ok (by omega) (hnx _ ?_)
    have hc:=cntN_le (64*k) fun i=>hasF f i
    have hp:pcf 64 w=cntN 64 fun j=>hasF f ((64*k+j:Nat):Int):=by
      rw [pcf_cnt]
      exact cntN_congr fun j hj=>by rw [word_has hj,hw]; rfl
    have hp':pcf 64 w≤64:=by rw [pcf_cnt]; exact cntN_le _ _
    rw [w64_id (by omega) (by omega),Nat.mul_succ,cntN_add,←hp]; omega
  · subst hm
    exact ifP_dec (fun h=>by omega) (fun _=>hQ)
theorem cntN_more {n m:Nat} {f:Nat→Bool} (h:n≤m) (hf:∀ i,n≤i→i<m→f i=false):cntN m f=cntN n f:=by
  obtain ⟨k,rfl⟩:∃ k,m=n+k:=⟨m - n,by omega⟩
  rw [cntN_add,cntN_zero (fun i hi=>hf (n+i) (by omega) (by omega)),Nat.add_zero]
def onIn (s:State):Prop:=(∀ i,hasF s.On i=true→i<(sizN s:Int))∧sizN s≤64*s.On.length
theorem sureSt_on {p:Plan} {s:State}:onIn (sureSt p s):=by
  rcases sure_cases p s with ⟨h,e⟩ | e
  · rw [e]
    obtain ⟨h1,h2,h3,h4,h5,h6,h7,h8,h9⟩:=h
    have hn:=(rightPl_zero h1).2.1
    refine ⟨fun i hi=>?_,?_⟩
    · have:=h9 i (listF_mem.2 hi); unfold sizN; omega
    · rw [h8]; unfold sizN wordsS; split <;> split <;> omega
  · rw [e]; exact ⟨fun i hi=>by have:=hasF_in hi; simp [zSt] at this; omega,by decide⟩
theorem on_count {s:State} (h:onIn s):allF s.On=cntN (sizN s) fun i=>hasF s.On i:=
  cntN_more h.2 fun i h1 h2=>by
    cases hb:hasF s.On i with
    | false=>rfl
    | true=>have:=h.1 i hb; omega
def goesS (p:Plan) (s:State) (i:Nat):Bool:=if p.Kind=5 then at0 s.A i==0 else hasF s.On i
def liveN (p:Plan) (s:State):Nat:=cntN (sizN s) (goesS p s)
def liveS (p:Plan) (s:State) (round:Int):Int:=if p.Kind=4∧p.Length≤round then 0 else (liveN p (sureSt p s):Nat)
theorem prog_Live_ok {p:Plan} {s:State} {round:Int} {Q:Int→Prop} (ho:okSt s) (hQ:Q (liveS p s round)):prog_Live p s round Q:=by
  unfold prog_Live
  refine prog_sure_ok ho ?_
  have h:=sureSt_Q (p:=p) ho
  have hon:=sureSt_on (p:=p) (s:=s)
  unfold liveS at hQ
  generalize sureSt p s=u at h hon hQ ⊢
  have hs:=h.siz
  have hal:=h.al
  have hol:=h.ol
  have hc (h5:p.Kind≠5):liveN p u=allF u.On:=by
    rw [on_count hon]
    exact cntN_congr fun i hi=>if_neg h5
  refine ifP_eq (fun h4=>ifP_dec (fun hl=>by rwa [if_pos ⟨h4,hl⟩] at hQ) (fun hl=>?_)) (fun h4=>?_)
  · rw [if_neg (fun h=>hl h.2),hc (by omega)] at hQ
    exact flags_Count_ok h.ok hol hQ
  rw [if_neg (fun h=>h4 h.1)] at hQ
  refine ifP_eq (fun h5=>?_) (fun h5=>by rw [hc h5] at hQ; exact flags_Count_ok h.ok hol hQ)
  rw [hal]
  refine range_intro (fun (s:Int) i=>(s,i)) 0 (sizN u) (by omega) (fun i s=>s=(cntN i (goesS p u):Nat)) (by omega) rfl (fun i s next _ hi hm hnx=>?_) (fun s next hm=>?_)
  · subst hm
    have hcl:=cntN_le i (goesS p u)
    have hsc:=cntN_succ i (goesS p u)
    refine ifP_dec (fun _=>idxP_at0 (by omega) (by omega) ?_) (fun h=>by omega)
    refine ifP_eq (fun ha=>hnx _ ?_) (fun ha=>hnx _ ?_)
    · rw [w64_id (by omega) (by omega),hsc,if_pos (by unfold goesS; rw [if_pos h5]; simpa using ha)]; omega
    · rw [hsc,if_neg (by unfold goesS; rw [if_pos h5]; simpa using ha)]; rfl
  · subst hm
    exact ifP_dec (fun h=>by omega) (fun _=>hQ)
def askS (p:Plan) (s:State):List Int×Bool:=
  if p.Kind=1 then (ofF (sizN s) (onsN (sizN s) fun i=>at0 s.A i == -1),false) else if p.Kind=5 then (ofF (sizN s) (onsN (sizN s) fun i=>at0 s.A i==0),false) else ([],true)
theorem prog_Asked_ok {p:Plan} {s:State} {round:Int} {Q:List Int×Bool→Prop} (ho:okSt s) (hQ:Q (askS p (sureSt p s))):prog_Asked p s round Q:=by
  unfold prog_Asked
  refine prog_sure_ok ho ?_
  have h:=sureSt_Q (p:=p) ho
  unfold askS at hQ
  generalize sureSt p s=u at h hQ ⊢
  have hs:=h.siz
  have hal:=h.al
  have hk (want:Int) (hq:Q (ofF (sizN u) (onsN (sizN u) fun i=>at0 u.A i==want),false)):loopP (fun (s:(List Int)×Int) (next255:((List Int)×Int)→Prop)=>match s with | (s249,s253)=>ifP (decide (s253<(u.A.length:Int))) (idxP u.A s253 fun x273=>ifP (x273==want) (appP 8 s249 ([s253]) fun _=>next255 ((s249++([s253])),w64 (s253+1))) (next255 (s249,w64 (s253+1)))) (flags_Of (w64 (u.High - u.Low)) s249 fun r294=>Q (r294,false))) (([]:List Int),0):=by
    rw [h.w,hal]
    refine range_intro (fun (s:List Int) i=>(s,i)) 0 (sizN u) (by omega) (fun i s=>s=onsN i fun i=>at0 u.A i==want) (by omega) rfl (fun i s next _ hi hm hnx=>?_) (fun s next hm=>?_)
    · subst hm
      have hol:=onsN_len i fun i=>at0 u.A i==want
      have hons:=onsN_succ i fun i=>at0 u.A i==want
      refine ifP_dec (fun _=>idxP_at0 (by omega) (by omega) ?_) (fun h=>by omega)
      refine ifP_eq (fun ha=>appP_intro (by simp; omega) (hnx _ ?_)) (fun ha=>hnx _ ?_)
      · rw [hons,if_pos (by simpa using ha)]
      · rw [hons,if_neg (by simpa using ha)]
    · subst hm
      have hol:=onsN_len (sizN u) fun i=>at0 u.A i==want
      exact ifP_dec (fun h=>by omega) (fun _=>flags_Of_ok (by omega) (fun x hx=>by have:=onsN_in hx; unfold inI; omega) hq)
  unfold joinP
  refine ifP_eq (fun h1=>hk _ (by rwa [if_pos h1] at hQ)) (fun h1=>?_)
  rw [if_neg h1] at hQ
  exact ifP_eq (fun h5=>hk _ (by rwa [if_pos h5] at hQ)) (fun h5=>by rwa [if_neg h5] at hQ)
theorem chS_ok (low high:Int) (n:Nat) (g:Nat→Int×Int×Bool):okSt (chS low high n g):=by
  have h:=ofF_prop n (onsN n fun i=>(g i).2.2)
  exact ⟨h.1,by show (ofF _ _).length≤_; rw [h.2.1]; have:=words_le (n:Int); omega⟩
theorem chS_StP {p:Plan} {low high:Int} {g:Nat→Int×Int×Bool} (hp:rightPl p=0) (h0:0≤low) (h1:low≤high) (h2:high≤p.N):StP p (chS low high (high - low).toNat g):=by
  have hn:=(rightPl_zero hp).2.1
  refine ⟨hp,h0,h1,h2,by simp [chS,mapN_len,sizN],by simp [chS,mapN_len,sizN],?_⟩
  have:=ofF_right (n:=((high - low).toNat:Int)) ⟨by omega,by omega⟩ (onsN (high - low).toNat fun i=>(g i).2.2)
  rw [show (((high - low).toNat:Nat):Int)=high - low by omega] at this
  unfold chS
  simp only
  rw [show (((high - low).toNat:Nat):Int)=high - low by omega]
  exact this
theorem begin_St {p:Plan} {low high:Int} (hp:rightPl p=0) (h0:0≤low) (h1:low≤high) (h2:high≤p.N):StP p (beginS p low high)∧okSt (beginS p low high):=by
  unfold beginS
  rw [if_pos ⟨hp,h0,h1,h2⟩]
  exact ⟨chS_StP hp h0 h1 h2,chS_ok _ _ _ _⟩
theorem upd_St {p:Plan} {s:State} {round:Int} {y:Vec} (h:StP p s) (ho:okSt s):StP p (updS p s round y)∧okSt (updS p s round y)∧(updS p s round y).Low=s.Low∧(updS p s round y).High=s.High:=by
  have e:sureSt p s=s:=if_pos h
  unfold updS
  rw [e]
  split
  · exact ⟨chS_StP h.1 h.2.1 h.2.2.1 h.2.2.2.1,chS_ok _ _ _ _,rfl,rfl⟩
  · exact ⟨h,ho,rfl,rfl⟩
theorem lenSt_of {p:Plan} {s:State} (h:StP p s) (ho:okSt s):lenSt s:=by
  have hn:=(rightPl_zero h.1).2.1
  have:=h.2.2.2.2.1; have:=h.2.2.2.2.2.1; have:=h.2.1; have:=h.2.2.1; have:=h.2.2.2.1
  unfold sizN at *
  exact ⟨by omega,by omega,ho.2⟩
abbrev GV:=Nat→Int×Int×Bool
def segV (l n:Nat) (G:GV):State:=chS (l:Int) ((l+n:Nat):Int) n fun i=>G (l+i)
theorem seg_StP {p:Plan} {l n:Nat} {G:GV} (hp:rightPl p=0) (h:((l+n:Nat):Int)≤p.N):StP p (segV l n G)∧okSt (segV l n G)∧lenSt (segV l n G):=by
  have h1:=chS_StP (p:=p) (low:=(l:Int)) (high:=((l+n:Nat):Int)) (g:=fun i=>G (l+i)) hp (by omega) (by omega) h
  rw [show (((l+n:Nat):Int) - (l:Int)).toNat=n by omega] at h1
  have h2:=chS_ok (l:Int) ((l+n:Nat):Int) n fun i=>G (l+i)
  exact ⟨h1,h2,lenSt_of h1 h2⟩
def gV0 (p:Plan):GV:=fun v=>((firstS p v).1,-1,(firstS p v).2)
theorem begin_seg {p:Plan} {l n:Nat} {a b:Int} (hp:rightPl p=0) (ha:a=l) (hb:b=((l+n:Nat):Int)) (h:b≤p.N):beginS p a b=segV l n (gV0 p):=by
  subst ha hb
  unfold beginS segV
  rw [if_pos ⟨hp,by omega,by omega,h⟩,show (((l+n:Nat):Int) - (l:Int)).toNat=n by omega]
  refine congrArg _ (funext fun i=>?_)
  unfold gV0
  rw [show ((l+i:Nat):Int)=(l:Int)+i by omega]
def behG (p:Plan) (round:Int) (v:Nat) (g:Int×Int×Bool) (o:Option Int):Int×Int×Bool:=
  if p.Kind=1 then (if (getO o).2=true∧g.1 = -1 then (round,(getO o).1,true) else (g.1,g.2.1,false))
  else if p.Kind=2∨p.Kind=3 then (if (getO o).2=true∧(getO o).1<g.1 then ((getO o).1,g.2.1,true) else (g.1,g.2.1,false))
  else if p.Kind=4 then ((getO o).1,g.2.1,(getO o).1 != 0)
  else if g.1≠0 then (g.1,g.2.1,false)
  else if round % 2=0 then (if (getO o).2=true then (2,g.2.1,false) else (g.1,g.2.1,false))
  else if (getO o).2=false∨dnum p round v<(getO o).1 then (1,g.2.1,true) else (g.1,g.2.1,false)
theorem beh_seg {p:Plan} {l n i:Nat} {G:GV} {round:Int} {o:Option Int} (hi:i<n):behS p (segV l n G) round i o=behG p round (l+i) (G (l+i)) o:=by
  have e1:at0 (segV l n G).A i=(G (l+i)).1:=mapN_at hi
  have e2:at0 (segV l n G).B i=(G (l+i)).2.1:=mapN_at hi
  have e3:(segV l n G).Low+(i:Int)=((l+i:Nat):Int):=by show (l:Int)+i=_; omega
  unfold behS behG
  simp only [e1,e2,e3]
def nextG (p:Plan) (round:Int) (G:GV) (Y:Nat→Option Int):GV:=fun v=>behG p round v (G v) (Y v)
theorem chS_congr {low high:Int} {n:Nat} {g g':Nat→Int×Int×Bool} (h:∀ i,i<n→g i=g' i):chS low high n g=chS low high n g':=by
  unfold chS
  rw [mapN_congr fun i hi=>congrArg (·.1) (h i hi),mapN_congr fun i hi=>congrArg (·.2.1) (h i hi),onsN_congr fun i hi=>congrArg (·.2.2) (h i hi)]
theorem upd_seg {p:Plan} {l n:Nat} {G:GV} {round:Int} {y:Vec} {Y:Nat→Option Int} (hp:rightPl p=0) (h:((l+n:Nat):Int)≤p.N) (hy:VecP y) (hn:y.N=n) (hY:∀ i,i<n→lkI y.Items i=Y (l+i)) :
    updS p (segV l n G) round y=segV l n (nextG p round G Y):=by
  have hs:sureSt p (segV l n G)=segV l n G:=if_pos (seg_StP hp h).1
  have e:(segV l n G).High - (segV l n G).Low=(n:Int):=by show ((l+n:Nat):Int) - (l:Int)=n; omega
  have e2:sizN (segV l n G)=n:=by unfold sizN; rw [e]; omega
  unfold updS
  rw [hs,if_pos ⟨hy,by rw [hn,e]⟩,e2]
  have hg:∀ i,i<n→newS p (segV l n G) round y i=nextG p round G Y (l+i):=fun i hi=>by
    unfold newS nextG
    rw [beh_seg hi,hY i hi]
  show chS (l:Int) ((l+n:Nat):Int) n _=chS (l:Int) ((l+n:Nat):Int) n _
  exact chS_congr hg
theorem onsN_mem {n i:Nat} {f:Nat→Bool}:(i:Int)∈onsN n f↔i<n∧f i=true:=by
  unfold onsN
  simp only [List.mem_map,List.mem_filter,List.mem_range]
  constructor
  · rintro ⟨j,⟨h1,h2⟩,h3⟩
    have:j=i:=by omega
    subst this; exact ⟨h1,h2⟩
  · rintro ⟨h1,h2⟩; exact ⟨i,⟨h1,h2⟩,rfl⟩
theorem of_ons {n i:Nat} {f:Nat→Bool} (hi:i<n) (hn:n≤4096):hasF (ofF n (onsN n f)) i=f i:=by
  rw [(ofF_prop _ _).2.2]
  cases hb:f i with
  | true=>exact decide_eq_true ⟨onsN_mem.2 ⟨hi,hb⟩,by omega,by omega,by omega⟩
  | false=>exact decide_eq_false fun h=>by have:=(onsN_mem.1 h.1).2; rw [hb] at this; cases this
def tellG (p:Plan) (round:Int) (v:Nat) (g:Int×Int×Bool):Int×Bool:=
  if p.Kind=1 then ((v:Int),g.2.2) else if p.Kind=5 then (if round % 2=0 then (1,g.2.2) else (dnum p round v,g.1==0)) else (g.1,g.2.2)
theorem outI_congr {n:Nat} {f g:Nat→Int×Bool} (h:∀ i,i<n→f i=g i):outI n f=outI n g:=by
  induction n with
  | zero=>rfl
  | succ n ih=>rw [outI_succ,outI_succ,ih fun i hi=>h i (by omega),h n (by omega)]
theorem out_seg {p:Plan} {l n:Nat} {G:GV} {round:Int} (hp:rightPl p=0) (h:((l+n:Nat):Int)≤p.N):outVS p (segV l n G) round=⟨n,outI n fun i=>tellG p round (l+i) (G (l+i))⟩:=by
  have hs:sureSt p (segV l n G)=segV l n G:=if_pos (seg_StP hp h).1
  have hn:=(rightPl_zero hp).2.1
  have e:(segV l n G).High - (segV l n G).Low=(n:Int):=by show ((l+n:Nat):Int) - (l:Int)=n; omega
  have e2:sizN (segV l n G)=n:=by unfold sizN; rw [e]; omega
  unfold outVS
  rw [hs,e,e2]
  congr 1
  refine outI_congr fun i hi=>?_
  have e1:at0 (segV l n G).A i=(G (l+i)).1:=mapN_at hi
  have e3:(segV l n G).Low+(i:Int)=((l+i:Nat):Int):=by show (l:Int)+i=_; omega
  have e4:hasF (segV l n G).On i=(G (l+i)).2.2:=of_ons hi (by omega)
  unfold tellsS tellG
  rw [e1,e3,e4]
theorem outI_in {n:Nat} {f:Nat→Int×Bool} {x:Item} (h:x∈outI n f):0≤x.At∧x.At<n:=by
  unfold outI at h
  obtain ⟨i,hi,he⟩:=List.mem_filterMap.1 h
  have:=List.mem_range.1 hi
  split at he
  · cases he; simp only; omega
  · cases he
theorem outI_inc (n:Nat) (f:Nat→Int×Bool):IncI (outI n f):=by
  induction n with
  | zero=>exact List.Pairwise.nil
  | succ n ih=>
    rw [outI_succ]
    split
    · unfold IncI
      rw [List.pairwise_append]
      refine ⟨ih,by simp,fun x hx y hy=>?_⟩
      simp only [List.mem_singleton] at hy
      subst hy
      exact (outI_in hx).2
    · exact ih
theorem out_vecP {n:Nat} (hn:n≤4096) (f:Nat→Int×Bool):VecP ⟨n,outI n f⟩:=⟨by simp only; omega,by simp only; omega,outI_inc n f,fun x hx=>outI_in hx⟩
end Go.Proofs.YtaefnmlbnkmahaaGreat
