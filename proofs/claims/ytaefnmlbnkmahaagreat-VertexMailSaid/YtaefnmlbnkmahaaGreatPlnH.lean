import Derived.Test.YtaefnmlbnkmahaaGreatPlnD
namespace Go.Proofs.YtaefnmlbnkmahaaGreat
open Go Go.Fw
set_option linter.unusedVariables false
set_option linter.unusedSimpArgs false
theorem mix_set {n i:Nat} {f:Nat→Int} {X:List Int} (hi:i<n) (hX:X.length=n):(mapN i f++X.drop i).set i (f i)=mapN (i+1) f++X.drop (i+1):=by
  rw [mapN_succ,List.set_append_right _ _ (by simp [mapN]),mapN_len,Nat.sub_self,List.drop_eq_getElem_cons (by omega),List.set_cons_zero,List.append_assoc]
  rfl
theorem mix_keep {n i:Nat} {f:Nat→Int} {X:List Int} (hi:i<n) (hX:X.length=n) (h:f i=at0 X i):mapN i f++X.drop i=mapN (i+1) f++X.drop (i+1):=by
  rw [mapN_succ,List.drop_eq_getElem_cons (by omega),List.append_assoc,h]
  simp [at0,List.getD_eq_getElem?_getD,List.getElem?_eq_getElem (show i<X.length by omega)]
theorem mix_len {n i:Nat} {f:Nat→Int} {X:List Int} (hi:i≤n) (hX:X.length=n):(mapN i f++X.drop i).length=n:=by
  simp [mapN_len]; omega
theorem ref_Update_ok {p:Plan} {s:State} {round:Int} {y:Vec} {Q:State→Prop} (ho:okSt s) (hr:0≤round∧round≤1000000) (hy:y.Items.length≤1000000) (hQ:Q (updS p s round y)):ref21_Update p s round y Q:=by
  unfold ref21_Update
  refine ref_Sure_ok ho ?_
  have h:=sureSt_Q (p:=p) ho
  unfold updS at hQ
  generalize sureSt p s=u at h hQ ⊢
  have hs:=h.siz
  have hal:=h.al
  have hbl:=h.bl
  have hol:=h.ol
  refine appP_intro (by simp; omega) (appP_intro (by simp; omega) (appP_intro (by simp; omega) ?_))
  rw [h.w]
  refine ref09_Right_ok (by omega) ?_
  by_cases hv:VecP y
  case neg=>rw [decide_eq_false hv]; rw [if_neg fun h'=>hv h'.1] at hQ; exact ifP_pos rfl hQ
  rw [decide_eq_true hv]
  refine ifP_neg rfl (ifP_ne (fun hn=>?_) (fun hn=>?_))
  · rw [if_neg fun h'=>hn (by rw [h'.2]; omega)] at hQ; exact hQ
  rw [if_pos ⟨hv,by omega⟩] at hQ
  rw [hn]
  have hlo:=h.lo
  refine range_intro (fun (s:List Int×List Int×List Int) i=>(s.1,s.2.1,s.2.2,i)) 0 (sizN u) (by omega) (fun i s=>s=(mapN i (fun i=>(newS p u round y i).1)++u.A.drop i,mapN i (fun i=>(newS p u round y i).2.1)++u.B.drop i,onsN i (fun i=>(newS p u round y i).2.2))) (by omega) (by simp [mapN,onsN]) (fun i s next _ hi hm hnx=>?_) (fun s next hm=>?_) (s0:=(([]:List Int)++u.A,([]:List Int)++u.B,[]))
  · subst hm
    dsimp only
    have hpl:=rightPl_zero (h.pl (by omega))
    have hol:=onsN_len i fun i=>(newS p u round y i).2.2
    have hons:=onsN_succ i fun i=>(newS p u round y i).2.2
    have hAl:=mix_len (f:=fun i=>(newS p u round y i).1) (Nat.le_of_lt hi) hal
    have hBl:=mix_len (f:=fun i=>(newS p u round y i).2.1) (Nat.le_of_lt hi) hbl
    have fin:∀ (a b:Int) (o:Bool),newS p u round y i=(a,b,o)→∀ A' B' on',(A'=(mapN i (fun i=>(newS p u round y i).1)++u.A.drop i).set i a∨(A'=mapN i (fun i=>(newS p u round y i).1)++u.A.drop i∧a=at0 u.A i)) →
        (B'=(mapN i (fun i=>(newS p u round y i).2.1)++u.B.drop i).set i b∨(B'=mapN i (fun i=>(newS p u round y i).2.1)++u.B.drop i∧b=at0 u.B i)) →
        on'=(if o then onsN i (fun i=>(newS p u round y i).2.2)++[(i:Int)] else onsN i (fun i=>(newS p u round y i).2.2))→next (A',B',on',w64 ((i:Int)+1)):=by
      intro a b o hg A' B' on' hA hB hO
      refine hnx (A',B',on') ?_
      have e1:A'=mapN (i+1) (fun i=>(newS p u round y i).1)++u.A.drop (i+1):=by
        rcases hA with hA | ⟨hA,ha⟩
        · rw [hA,←mix_set hi hal,hg]
        · rw [hA]; exact mix_keep hi hal (by simp only [hg]; exact ha)
      have e2:B'=mapN (i+1) (fun i=>(newS p u round y i).2.1)++u.B.drop (i+1):=by
        rcases hB with hB | ⟨hB,hb⟩
        · rw [hB,←mix_set hi hbl,hg]
        · rw [hB]; exact mix_keep hi hbl (by simp only [hg]; exact hb)
      rw [e1,e2,hO,hons,hg]
    clear hnx
    have hia:∀ {K:Int→Prop},(∀ x,K x)→idxP (mapN i (fun i=>(newS p u round y i).1)++u.A.drop i) i K:=fun hK=>idxP_at0 (by omega) (by rw [hAl]; omega) (hK _)
    have hib:∀ {K:Int→Prop},(∀ x,K x)→idxP (mapN i (fun i=>(newS p u round y i).2.1)++u.B.drop i) i K:=fun hK=>idxP_at0 (by omega) (by rw [hBl]; omega) (hK _)
    have hap:∀ {K:List Int→Prop},K (onsN i (fun i=>(newS p u round y i).2.2)++[(i:Int)])→appP 8 (onsN i (fun i=>(newS p u round y i).2.2)) [(i:Int)] K:=fun hK=>appP_intro (by simp; omega) hK
    refine ifP_dec (fun _=>?_) (fun h=>by omega)
    refine ref09_Get_ok (by omega) ?_
    rw [sureV_id hv]
    have e:w64 (u.Low+(i:Int))=u.Low+i:=w64_id (by omega) (by have:=h.hi; omega)
    rw [e]
    have hset:∀ x:Int,(mapN i (fun i=>(newS p u round y i).1)++u.A.drop i).set (Int.toNat (i:Int)) x=(mapN i (fun i=>(newS p u round y i).1)++u.A.drop i).set i x:=fun _=>rfl
    generalize (mapN i (fun i=>(newS p u round y i).1)++u.A.drop i)=AA at *
    generalize (mapN i (fun i=>(newS p u round y i).2.1)++u.B.drop i)=BB at *
    generalize (onsN i fun i=>(newS p u round y i).2.2)=OO at *
    have hg:newS p u round y i=behS p u round i (lkI y.Items i):=rfl
    unfold behS at hg
    have hua:∀ {K:Int→Prop},K (at0 u.A i)→idxP u.A i K:=fun hK=>idxP_at0 (by omega) (by omega) hK
    generalize (getO (lkI y.Items i)).1=v at hg ⊢
    generalize (getO (lkI y.Items i)).2=got at hg ⊢
    have hkeep (hg':newS p u round y i=(at0 u.A i,at0 u.B i,false)):next (AA,BB,OO,w64 ((i:Int)+1)):=fin _ _ _ hg' _ _ _ (.inr ⟨rfl,rfl⟩) (.inr ⟨rfl,rfl⟩) rfl
    generalize ha:at0 u.A i=a at *
    generalize hb:at0 u.B i=b at *
    simp only at hg
    refine ifP_eq (fun h1=>?_) (fun h1=>?_)
    · rw [if_pos h1] at hg
      unfold joinP
      cases got with
      | false=>rw [if_neg (by simp)] at hg; exact ifP_neg rfl (ifP_neg rfl (hkeep hg))
      | true=>
        refine ifP_pos rfl (hua (ifP_eq (fun hx=>?_) (fun hx=>?_)))
        · rw [if_pos ⟨rfl,hx⟩] at hg
          exact hia fun _=>hib fun _=>hap (fin _ _ _ hg _ _ _ (.inl rfl) (.inl rfl) rfl)
        · rw [if_neg (fun h=>hx h.2)] at hg; exact hkeep hg
    rw [if_neg h1] at hg
    have h23 (hk:p.Kind=2∨p.Kind=3):ifP got (idxP u.A i fun x1226=>ifP (decide (v<x1226)) (idxP AA i fun x1236=>appP 8 OO ([(i:Int)]) fun _=>next ((AA.set i v),BB,(OO++([(i:Int)])),w64 ((i:Int)+1))) (next (AA,BB,OO,w64 ((i:Int)+1)))) (next (AA,BB,OO,w64 ((i:Int)+1))):=by
      rw [if_pos hk] at hg
      cases got with
      | false=>rw [if_neg (by simp)] at hg; exact ifP_neg rfl (hkeep hg)
      | true=>
        refine ifP_pos rfl (hua (ifP_dec (fun hx=>?_) (fun hx=>?_)))
        · rw [if_pos ⟨rfl,hx⟩] at hg
          exact hia fun _=>hap (fin _ _ _ hg _ _ _ (.inl rfl) (.inr ⟨rfl,rfl⟩) rfl)
        · rw [if_neg (fun h=>hx h.2)] at hg; exact hkeep hg
    unfold joinP
    by_cases hk:p.Kind=2∨p.Kind=3
    · refine ifP_eq (fun h2=>?_) (fun h2=>?_)
      · have hb2:(p.Kind==2)=true:=by simpa using h2
        rw [hb2]; exact ifP_pos rfl (h23 hk)
      · have hb3:(p.Kind==3)=true:=by simp; omega
        rw [hb3]; exact ifP_pos rfl (h23 hk)
    rw [if_neg hk] at hg
    refine ifP_eq (fun h2=>absurd (.inl h2) hk) (fun h2=>?_)
    have hb3:(p.Kind==3)=false:=by simp; omega
    rw [hb3]
    refine ifP_neg rfl (ifP_eq (fun h4=>?_) (fun h4=>?_))
    · rw [if_pos h4] at hg
      refine hia fun _=>ifP_ne (fun hx=>?_) (fun hx=>?_)
      · have:(v != 0)=true:=by simpa using hx
        rw [this] at hg
        exact hap (fin _ _ _ hg _ _ _ (.inl rfl) (.inr ⟨rfl,rfl⟩) rfl)
      · have:(v != 0)=false:=by simpa using hx
        rw [this] at hg
        exact fin _ _ _ hg _ _ _ (.inl rfl) (.inr ⟨rfl,rfl⟩) rfl
    rw [if_neg h4] at hg
    refine hua (ifP_ne (fun hx=>?_) (fun hx=>?_))
    · rw [if_pos hx] at hg; exact hkeep hg
    rw [if_neg (fun h=>h hx)] at hg
    refine ifP_eq (fun h6=>?_) (fun h6=>?_)
    · rw [if_pos ((tm2 round).1 h6)] at hg
      cases got with
      | false=>rw [if_neg (by simp)] at hg; exact ifP_neg rfl (hkeep hg)
      | true=>rw [if_pos rfl] at hg; exact ifP_pos rfl (hia fun _=>fin _ _ _ hg _ _ _ (.inl rfl) (.inr ⟨rfl,rfl⟩) rfl)
    rw [if_neg (fun h'=>h6 ((tm2 round).2 h'))] at hg
    cases got with
    | false=>rw [if_pos (.inl rfl)] at hg; exact ifP_pos rfl (hia fun _=>hap (fin _ _ _ hg _ _ _ (.inl rfl) (.inr ⟨rfl,rfl⟩) rfl))
    | true=>
      refine ifP_neg rfl (draw_num hr (h.pl (by omega)) (ifP_dec (fun h8=>?_) (fun h8=>?_)))
      · rw [if_pos (.inr h8)] at hg; exact hia fun _=>hap (fin _ _ _ hg _ _ _ (.inl rfl) (.inr ⟨rfl,rfl⟩) rfl)
      · rw [if_neg (by simp [h8])] at hg; exact hkeep hg
  · subst hm
    dsimp only
    refine ifP_dec (fun h=>by omega) (fun _=>?_)
    have hol:=onsN_len (sizN u) fun i=>(newS p u round y i).2.2
    refine ref03_Of_ok (by omega) (fun x hx=>by have:=onsN_in hx; unfold inI; omega) ?_
    rw [List.drop_eq_nil_of_le (by omega),List.drop_eq_nil_of_le (by omega),List.append_nil,List.append_nil]
    exact hQ
theorem eqS_ok {xs ys:List Int} {Q:Bool→Prop} (hl:xs.length≤1000000000000) (hQ:Q (decide (xs=ys))):ref03_Same xs ys Q:=by unfold ref03_Same; exact same_loop hl hQ
def lenSt (s:State):Prop:=s.A.length≤1000000∧s.B.length≤1000000∧s.On.length≤1000000
theorem st_eq (a b:State):a=b↔a.Low=b.Low∧a.High=b.High∧a.A=b.A∧a.B=b.B∧a.On=b.On:=by cases a; cases b; simp
theorem ref_Same_ok {a b:State} {Q:Bool→Prop} (hl:lenSt a) (hQ:Q (decide (a=b))):ref21_Same a b Q:=by
  unfold ref21_Same
  obtain ⟨h1,h2,h3⟩:=hl
  have hf (h:a≠b):Q false:=by rwa [decide_eq_false h] at hQ
  refine ifP_eq (fun e1=>ifP_eq (fun e2=>eqV_ok (by omega) (ifP_dec (fun e3=>eqV_ok (by omega) (ifP_dec (fun e4=>eqS_ok (by omega) ?_) (fun e=>hf ?_))) (fun e=>hf ?_))) (fun e=>hf ?_)) (fun e=>hf ?_)
  · by_cases e5:a.On=b.On
    · rw [decide_eq_true ((st_eq a b).2 ⟨e1,e2,e3,e4,e5⟩)] at hQ; rwa [decide_eq_true e5]
    · rw [decide_eq_false e5]; exact hf fun h=>e5 (by rw [h])
  all_goals exact fun h=>e (by rw [h])
def cntN (n:Nat) (f:Nat→Bool):Nat:=(List.range n).countP f
theorem cntN_succ (n:Nat) (f:Nat→Bool):cntN (n+1) f=cntN n f+if f n then 1 else 0:=by
  unfold cntN; rw [List.range_succ,List.countP_append]; simp [List.countP_cons]
theorem cntN_le (n:Nat) (f:Nat→Bool):cntN n f≤n:=by unfold cntN; exact Nat.le_trans List.countP_le_length (by simp)
theorem cntN_congr {n:Nat} {f g:Nat→Bool} (h:∀ i,i<n→f i=g i):cntN n f=cntN n g:=by
  induction n with
  | zero=>rfl
  | succ n ih=>rw [cntN_succ,cntN_succ,ih fun i hi=>h i (by omega),h n (by omega)]
theorem cntN_add (a b:Nat) (f:Nat→Bool):cntN (a+b) f=cntN a f+cntN b fun j=>f (a+j):=by
  induction b with
  | zero=>rfl
  | succ b ih=>rw [←Nat.add_assoc,cntN_succ,ih,cntN_succ]; omega
theorem cntN_zero {n:Nat} {f:Nat→Bool} (h:∀ i,i<n→f i=false):cntN n f=0:=by
  induction n with
  | zero=>rfl
  | succ n ih=>rw [cntN_succ,ih fun i hi=>h i (by omega),h n (by omega)]; rfl
def pcf:Nat→Nat→Nat
  | 0,_=>0
  | k+1,n=>n % 2+pcf k (n / 2)
theorem pcf_low {k:Nat}:∀ {n:Nat},0<n→n<2 ^ k→pcf k (n &&& (n - 1))+1=pcf k n:=by
  induction k with
  | zero=>intro n h0 h1; simp at h1; omega
  | succ k ih=>
    intro n h0 h1
    have hd:(n &&& (n - 1)) / 2=n / 2 &&& (n - 1) / 2:=Nat.and_div_two
    have hm:(n &&& (n - 1)) % 2=(n % 2) &&& ((n - 1) % 2):=by have:=Nat.and_mod_two_pow (a:=n) (b:=n - 1) (n:=1); simpa using this
    rw [Nat.pow_succ] at h1
    simp only [pcf,hd,hm]
    rcases Nat.mod_two_eq_zero_or_one n with e | e
    · have e1:(n - 1) / 2=n / 2 - 1:=by omega
      rw [e1,e]
      have:=ih (n:=n / 2) (by omega) (by omega)
      simp only [Nat.zero_and]
      omega
    · have e1:(n - 1) / 2=n / 2:=by omega
      have e2:(n - 1) % 2=0:=by omega
      rw [e1,e,e2,Nat.and_self]
      simp only [Nat.and_zero]
      omega
theorem pcf_zero (k:Nat):pcf k 0=0:=by induction k with
  | zero=>rfl
  | succ k ih=>simp [pcf,ih]
theorem pcf_cnt (k:Nat):∀ n:Nat,pcf k n=cntN k fun j=>n.testBit j:=by
  induction k with
  | zero=>intro n; rfl
  | succ k ih=>
    intro n
    rw [Nat.add_comm k 1,cntN_add,Nat.add_comm 1 k,pcf,ih]
    congr 1
    · rw [show cntN 1 (fun j=>n.testBit j)=cntN (0+1) (fun j=>n.testBit j) from rfl,cntN_succ]
      simp only [cntN,List.range_zero,List.countP_nil,Nat.zero_add,Nat.testBit_zero,decide_eq_true_eq]
      split <;> omega
    · exact cntN_congr fun j _=>by rw [Nat.add_comm 1 j,Nat.testBit_succ]
theorem bnd_nn {x y:Nat} (hx:x<18446744073709551616) (hy:y<18446744073709551616):bnd .u64 (x:Int) (y:Int)=((x &&& y:Nat):Int):=by
  have h:(BitVec.ofInt 64 (x:Int) &&& BitVec.ofInt 64 (y:Int)).toNat=x &&& y:=by
    rw [BitVec.toNat_and,BitVec.toNat_ofInt,BitVec.toNat_ofInt]
    have hp:((2 ^ 64:Nat):Int)=18446744073709551616:=by decide
    rw [hp,show ((x:Int) % 18446744073709551616).toNat=x by omega,show ((y:Int) % 18446744073709551616).toNat=y by omega]
  unfold bnd
  rw [show IntKind.u64.bits=64 from rfl,h]
  have:=Nat.and_le_left (n:=x) (m:=y)
  exact wrap_u64_id (by omega) (by omega)
theorem flags_ones_ok {w:Nat} {Q:Int→Prop} (hw:w<18446744073709551616) (hQ:Q (pcf 64 w:Nat)):flags_ones (w:Int) Q:=by
  unfold flags_ones
  refine loop_intro (fun s:Int×Int=>∃ m c:Nat,s=((m:Int),(c:Int))∧m≤w∧c+pcf 64 m=pcf 64 w) (fun s=>s.1.toNat) ⟨w,0,rfl,Nat.le_refl _,by omega⟩ ?_
  rintro _ next ⟨m,c,rfl,h1,h2⟩ hn
  have hb:pcf 64 w≤64:=by rw [pcf_cnt]; exact cntN_le _ _
  refine ifP_eq (fun h=>?_) (fun h=>?_)
  · have:m=0:=by omega
    subst this
    rw [pcf_zero] at h2
    rw [show c=pcf 64 w by omega]; exact hQ
  · have hm:0<m:=by omega
    have e:IntKind.wrap .u64 ((m:Int) - 1)=((m - 1:Nat):Int):=by rw [wrap_u64_id (by omega) (by omega)]; omega
    have hlow:=pcf_low (k:=64) hm (by omega)
    rw [e,bnd_nn (by omega) (by omega),w64_id (by omega) (by omega)]
    have hle:=Nat.and_le_right (n:=m) (m:=m - 1)
    exact hn _ ⟨m &&& (m - 1),c+1,by rw [show ((c+1:Nat):Int)=(c:Int)+1 by omega],by omega,by omega⟩ (by simp only [Int.toNat_natCast]; omega)
theorem word_has {f:List Int} {k j:Nat} (hj:j<64):hasF f ((64*k+j:Nat):Int)=(at0 f k).toNat.testBit j:=by
  unfold hasF
  have e1:(((64*k+j:Nat):Int) / 64)=(k:Int):=by omega
  have e2:(((64*k+j:Nat):Int) % 64).toNat=j:=by omega
  rw [e1,e2]
  simp
  intro _; omega
def allF (f:List Int):Nat:=cntN (64*f.length) fun i=>hasF f i
theorem flags_Count_ok {f:List Int} {Q:Int→Prop} (hf:okF f) (hl:f.length≤1000000) (hQ:Q (allF f:Nat)):flags_Count f Q:=by
  unfold flags_Count
  refine range_intro (fun (s:Int) i=>(s,i)) 0 f.length (by omega) (fun k s=>s=(cntN (64*k) fun i=>hasF f i:Nat)) (by omega) rfl (fun k s next _ hk hm hnx=>?_) (fun s next hm=>?_)
  · subst hm
    refine ifP_dec (fun _=>idxP_at0 (by omega) (by omega) ?_) (fun h=>by omega)
    have hb:=okF_at hf k
    obtain ⟨w,hw⟩:∃ w:Nat,at0 f k=(w:Int):=⟨(at0 f k).toNat,by omega⟩
    rw [hw]
    refine flags_ones_ok (by omega) (hnx _ ?_)
    have hc:=cntN_le (64*k) fun i=>hasF f i
    have hp:pcf 64 w=cntN 64 fun j=>hasF f ((64*k+j:Nat):Int):=by
      rw [pcf_cnt]
      exact cntN_congr fun j hj=>by rw [word_has hj,hw]; rfl
    have hp':pcf 64 w≤64:=by rw [pcf_cnt]; exact cntN_le _ _
    rw [w64_id (by omega) (by omega),Nat.mul_succ,cntN_add,←hp]; omega
  · subst hm
    exact ifP_dec (fun h=>by omega) (fun _=>hQ)
theorem cntN_more {n m:Nat} {f:Nat→Bool} (h:n≤m) (hf:∀ i,n≤i→i<m→f i=false):cntN m f=cntN n f:=by
  obtain ⟨k,rfl⟩:∃ k,m=n+k:=⟨m - n,by omega⟩
  rw [cntN_add,cntN_zero (fun i hi=>hf (n+i) (by omega) (by omega)),Nat.add_zero]
def onIn (s:State):Prop:=(∀ i,hasF s.On i=true→i<(sizN s:Int))∧sizN s≤64*s.On.length
theorem sureSt_on {p:Plan} {s:State}:onIn (sureSt p s):=by
  rcases sure_cases p s with ⟨h,e⟩ | e
  · rw [e]
    obtain ⟨h1,h2,h3,h4,h5,h6,h7,h8,h9⟩:=h
    have hn:=(rightPl_zero h1).2.1
    refine ⟨fun i hi=>?_,?_⟩
    · have:=h9 i (listF_mem.2 hi); unfold sizN; omega
    · rw [h8]; unfold sizN wordsS; split <;> split <;> omega
  · rw [e]; exact ⟨fun i hi=>by have:=hasF_in hi; simp [zSt] at this; omega,by decide⟩
theorem on_count {s:State} (h:onIn s):allF s.On=cntN (sizN s) fun i=>hasF s.On i:=
  cntN_more h.2 fun i h1 h2=>by
    cases hb:hasF s.On i with
    | false=>rfl
    | true=>have:=h.1 i hb; omega
def goesS (p:Plan) (s:State) (i:Nat):Bool:=if p.Kind=5 then at0 s.A i==0 else hasF s.On i
def liveN (p:Plan) (s:State):Nat:=cntN (sizN s) (goesS p s)
def liveS (p:Plan) (s:State) (round:Int):Int:=if p.Kind=4∧p.Length≤round then 0 else (liveN p (sureSt p s):Nat)
theorem prog_Live_ok {p:Plan} {s:State} {round:Int} {Q:Int→Prop} (ho:okSt s) (hQ:Q (liveS p s round)):prog_Live p s round Q:=by
  unfold prog_Live
  refine prog_sure_ok ho ?_
  have h:=sureSt_Q (p:=p) ho
  have hon:=sureSt_on (p:=p) (s:=s)
  unfold liveS at hQ
  generalize sureSt p s=u at h hon hQ ⊢
  have hs:=h.siz
  have hal:=h.al
  have hol:=h.ol
  have hc (h5:p.Kind≠5):liveN p u=allF u.On:=by
    rw [on_count hon]
    exact cntN_congr fun i hi=>if_neg h5
  refine ifP_eq (fun h4=>ifP_dec (fun hl=>by rwa [if_pos ⟨h4,hl⟩] at hQ) (fun hl=>?_)) (fun h4=>?_)
  · rw [if_neg (fun h=>hl h.2),hc (by omega)] at hQ
    exact flags_Count_ok h.ok hol hQ
  rw [if_neg (fun h=>h4 h.1)] at hQ
  refine ifP_eq (fun h5=>?_) (fun h5=>by rw [hc h5] at hQ; exact flags_Count_ok h.ok hol hQ)
  rw [hal]
  refine range_intro (fun (s:Int) i=>(s,i)) 0 (sizN u) (by omega) (fun i s=>s=(cntN i (goesS p u):Nat)) (by omega) rfl (fun i s next _ hi hm hnx=>?_) (fun s next hm=>?_)
  · subst hm
    have hcl:=cntN_le i (goesS p u)
    have hsc:=cntN_succ i (goesS p u)
    refine ifP_dec (fun _=>idxP_at0 (by omega) (by omega) ?_) (fun h=>by omega)
    refine ifP_eq (fun ha=>hnx _ ?_) (fun ha=>hnx _ ?_)
    · rw [w64_id (by omega) (by omega),hsc,if_pos (by unfold goesS; rw [if_pos h5]; simpa using ha)]; omega
    · rw [hsc,if_neg (by unfold goesS; rw [if_pos h5]; simpa using ha)]; rfl
  · subst hm
    exact ifP_dec (fun h=>by omega) (fun _=>hQ)
theorem ref_Live_ok {p:Plan} {s:State} {round:Int} {Q:Int→Prop} (ho:okSt s) (hQ:Q (liveS p s round)):ref21_Live p s round Q:=by
  unfold ref21_Live
  refine ref_Sure_ok ho ?_
  have h:=sureSt_Q (p:=p) ho
  unfold liveS at hQ
  generalize sureSt p s=u at h hQ ⊢
  have hs:=h.siz
  have hal:=h.al
  rw [h.w]
  unfold joinP
  have hk (hb:¬(p.Kind=4∧p.Length≤round)):loopP (fun (s:Int×Int) (next124:(Int×Int)→Prop)=>match s with | (s122,s123)=>ifP (decide (s123<(sizN u:Int))) (ifP (p.Kind==5) (idxP u.A s123 fun x134=>ifP (x134==0) (next124 (w64 (s122+1),w64 (s123+1))) (ifP (p.Kind != 5) (ref03_Has u.On s123 fun r144=>ifP r144 (next124 (w64 (s122+1),w64 (s123+1))) (next124 (s122,w64 (s123+1)))) (next124 (s122,w64 (s123+1))))) (ifP (p.Kind != 5) (ref03_Has u.On s123 fun r150=>ifP r150 (next124 (w64 (s122+1),w64 (s123+1))) (next124 (s122,w64 (s123+1)))) (next124 (s122,w64 (s123+1))))) (Q s122)) (0,0):=by
    rw [if_neg hb] at hQ
    refine range_intro (fun (s:Int) i=>(s,i)) 0 (sizN u) (by omega) (fun i s=>s=(cntN i (goesS p u):Nat)) (by omega) rfl (fun i s next _ hi hm hnx=>?_) (fun s next hm=>?_)
    · subst hm
      have hcl:=cntN_le i (goesS p u)
      have hsc:=cntN_succ i (goesS p u)
      have hy (hg:goesS p u i=true):next (w64 (((cntN i (goesS p u):Nat):Int)+1),w64 ((i:Int)+1)):=hnx _ (by rw [w64_id (by omega) (by omega),hsc,if_pos hg]; omega)
      have hn (hg:goesS p u i=false):next (((cntN i (goesS p u):Nat):Int),w64 ((i:Int)+1)):=hnx _ (by rw [hsc,hg]; rfl)
      unfold goesS at hy hn
      refine ifP_dec (fun _=>?_) (fun h=>by omega)
      refine ifP_eq (fun h5=>idxP_at0 (by omega) (by omega) (ifP_eq (fun ha=>hy (by rw [if_pos h5]; simpa using ha)) (fun ha=>ifP_ne (fun h'=>absurd h5 h') (fun _=>hn (by rw [if_pos h5]; simpa using ha))))) (fun h5=>?_)
      refine ifP_ne (fun _=>ref03_Has_ok h.ok (by unfold inI; omega) ?_) (fun h'=>absurd h' h5)
      rw [if_neg h5] at hy hn
      cases hb:hasF u.On i with
      | true=>exact ifP_pos rfl (hy hb)
      | false=>exact ifP_neg rfl (hn hb)
    · subst hm
      exact ifP_dec (fun h=>by omega) (fun _=>hQ)
  refine ifP_eq (fun h4=>ifP_dec (fun hl=>by rwa [if_pos ⟨h4,hl⟩] at hQ) (fun hl=>hk fun h=>hl h.2)) (fun h4=>hk fun h=>h4 h.1)
def askS (p:Plan) (s:State):List Int×Bool:=
  if p.Kind=1 then (ofF (sizN s) (onsN (sizN s) fun i=>at0 s.A i == -1),false) else if p.Kind=5 then (ofF (sizN s) (onsN (sizN s) fun i=>at0 s.A i==0),false) else ([],true)
theorem prog_Asked_ok {p:Plan} {s:State} {round:Int} {Q:List Int×Bool→Prop} (ho:okSt s) (hQ:Q (askS p (sureSt p s))):prog_Asked p s round Q:=by
  unfold prog_Asked
  refine prog_sure_ok ho ?_
  have h:=sureSt_Q (p:=p) ho
  unfold askS at hQ
  generalize sureSt p s=u at h hQ ⊢
  have hs:=h.siz
  have hal:=h.al
  have hk (want:Int) (hq:Q (ofF (sizN u) (onsN (sizN u) fun i=>at0 u.A i==want),false)):loopP (fun (s:(List Int)×Int) (next255:((List Int)×Int)→Prop)=>match s with | (s249,s253)=>ifP (decide (s253<(u.A.length:Int))) (idxP u.A s253 fun x273=>ifP (x273==want) (appP 8 s249 ([s253]) fun _=>next255 ((s249++([s253])),w64 (s253+1))) (next255 (s249,w64 (s253+1)))) (flags_Of (w64 (u.High - u.Low)) s249 fun r294=>Q (r294,false))) (([]:List Int),0):=by
    rw [h.w,hal]
    refine range_intro (fun (s:List Int) i=>(s,i)) 0 (sizN u) (by omega) (fun i s=>s=onsN i fun i=>at0 u.A i==want) (by omega) rfl (fun i s next _ hi hm hnx=>?_) (fun s next hm=>?_)
    · subst hm
      have hol:=onsN_len i fun i=>at0 u.A i==want
      have hons:=onsN_succ i fun i=>at0 u.A i==want
      refine ifP_dec (fun _=>idxP_at0 (by omega) (by omega) ?_) (fun h=>by omega)
      refine ifP_eq (fun ha=>appP_intro (by simp; omega) (hnx _ ?_)) (fun ha=>hnx _ ?_)
      · rw [hons,if_pos (by simpa using ha)]
      · rw [hons,if_neg (by simpa using ha)]
    · subst hm
      have hol:=onsN_len (sizN u) fun i=>at0 u.A i==want
      exact ifP_dec (fun h=>by omega) (fun _=>flags_Of_ok (by omega) (fun x hx=>by have:=onsN_in hx; unfold inI; omega) hq)
  unfold joinP
  refine ifP_eq (fun h1=>hk _ (by rwa [if_pos h1] at hQ)) (fun h1=>?_)
  rw [if_neg h1] at hQ
  exact ifP_eq (fun h5=>hk _ (by rwa [if_pos h5] at hQ)) (fun h5=>by rwa [if_neg h5] at hQ)
theorem chS_ok (low high:Int) (n:Nat) (g:Nat→Int×Int×Bool):okSt (chS low high n g):=by
  have h:=ofF_prop n (onsN n fun i=>(g i).2.2)
  exact ⟨h.1,by show (ofF _ _).length≤_; rw [h.2.1]; have:=words_le (n:Int); omega⟩
theorem chS_StP {p:Plan} {low high:Int} {g:Nat→Int×Int×Bool} (hp:rightPl p=0) (h0:0≤low) (h1:low≤high) (h2:high≤p.N):StP p (chS low high (high - low).toNat g):=by
  have hn:=(rightPl_zero hp).2.1
  refine ⟨hp,h0,h1,h2,by simp [chS,mapN_len,sizN],by simp [chS,mapN_len,sizN],?_⟩
  have:=ofF_right (n:=((high - low).toNat:Int)) ⟨by omega,by omega⟩ (onsN (high - low).toNat fun i=>(g i).2.2)
  rw [show (((high - low).toNat:Nat):Int)=high - low by omega] at this
  unfold chS
  simp only
  rw [show (((high - low).toNat:Nat):Int)=high - low by omega]
  exact this
theorem begin_St {p:Plan} {low high:Int} (hp:rightPl p=0) (h0:0≤low) (h1:low≤high) (h2:high≤p.N):StP p (beginS p low high)∧okSt (beginS p low high):=by
  unfold beginS
  rw [if_pos ⟨hp,h0,h1,h2⟩]
  exact ⟨chS_StP hp h0 h1 h2,chS_ok _ _ _ _⟩
theorem upd_St {p:Plan} {s:State} {round:Int} {y:Vec} (h:StP p s) (ho:okSt s):StP p (updS p s round y)∧okSt (updS p s round y)∧(updS p s round y).Low=s.Low∧(updS p s round y).High=s.High:=by
  have e:sureSt p s=s:=if_pos h
  unfold updS
  rw [e]
  split
  · exact ⟨chS_StP h.1 h.2.1 h.2.2.1 h.2.2.2.1,chS_ok _ _ _ _,rfl,rfl⟩
  · exact ⟨h,ho,rfl,rfl⟩
theorem lenSt_of {p:Plan} {s:State} (h:StP p s) (ho:okSt s):lenSt s:=by
  have hn:=(rightPl_zero h.1).2.1
  have:=h.2.2.2.2.1; have:=h.2.2.2.2.2.1; have:=h.2.1; have:=h.2.2.1; have:=h.2.2.2.1
  unfold sizN at *
  exact ⟨by omega,by omega,ho.2⟩
theorem bnd_le (x:Int) {m:Nat} (hm:m<9223372036854775808):0≤bnd .i64 x m∧bnd .i64 x m≤m:=by
  have h:(BitVec.ofInt 64 x &&& BitVec.ofInt 64 (m:Int)).toNat≤m:=by
    rw [BitVec.toNat_and,BitVec.toNat_ofInt (n:=64) (i:=(m:Int))]
    have hp:((2 ^ 64:Nat):Int)=18446744073709551616:=by decide
    rw [hp,show ((m:Int) % 18446744073709551616).toNat=m by omega]
    exact Nat.and_le_right
  unfold bnd
  rw [show IntKind.i64.bits=64 from rfl]
  generalize (BitVec.ofInt 64 x &&& BitVec.ofInt 64 (m:Int)).toNat=k at h
  have e:IntKind.i64.wrap (k:Int)=k:=w64_id (by omega) (by omega)
  rw [e]; omega
theorem Within_ok {k n:Int} {Q:Int→Prop} (h0:n<1→Q 0) (h1:1≤n→∀ r,0≤r→r<n→Q r):law21_Within k n Q:=by
  unfold law21_Within
  refine ifP_dec (fun h=>h0 h) (fun h=>ifP_dec (fun h2=>h1 (by omega) 0 (by omega) (by omega)) (fun h2=>⟨by omega,?_⟩))
  rw [Int.tmod_eq_emod_of_nonneg (by omega)]
  exact h1 (by omega) _ (Int.emod_nonneg _ (by omega)) (Int.emod_lt_of_pos _ (by omega))
theorem plan_ok {p:Plan} {n:Int} {Q:Plan→Prop} (hn:0≤n∧n≤59) (hQ:∀ r:Plan,rightPl r=0→r.N=n→Q r):law21_Plan p n Q:=by
  unfold law21_Plan
  have hk:∀ (k src len:Int) (ds:List Int),(1≤k∧k≤5)→((n<1→src=0)∧0≤src∧(1≤n→src<n))→(0≤len∧len<12)→(ds.length≤40∧∀ d∈ds,0≤d∧d≤2147483647) →
      ifP (n==0) (ifP (k != 5) (Q ({ Kind:=3,N:=n,Source:=src,Length:=len,Draws:=ds }:Plan)) (Q ({ Kind:=k,N:=n,Source:=src,Length:=len,Draws:=ds }:Plan))) (Q ({ Kind:=k,N:=n,Source:=src,Length:=len,Draws:=ds }:Plan)):=by
    intro k src len ds hk hs hl hd
    have hr:∀ k',(1≤k'∧k'≤5)→(n=0→k'=3∨k'=5)→rightPl ⟨k',n,src,len,ds⟩=0:=by
      intro k' h1 h2
      unfold rightPl
      simp only
      rw [if_neg (by omega),if_neg (by omega),if_neg (by omega),if_neg]
      rintro ⟨d,hdm,hb⟩
      have:=hd.2 d hdm
      omega
    refine ifP_eq (fun h=>ifP_ne (fun h5=>hQ _ (hr 3 (by omega) (fun _=>.inl rfl)) rfl) (fun h5=>hQ _ (hr k hk (fun _=>.inr h5)) rfl)) (fun h=>hQ _ (hr k hk (fun h'=>absurd h' h)) rfl)
  refine join_intro (fun k=>1≤k∧k≤5) (fun k hk1=>?_) (fun k' hk1=>ifP_dec (fun h=>hk1 _ (by omega)) (fun h=>ifP_dec (fun h=>hk1 _ (by omega)) (fun h=>hk1 _ (by omega))))
  have hrest:∀ src,((n<1→src=0)∧0≤src∧(1≤n→src<n))→law21_Within p.Length 12 fun r37=>joinP (fun (k207:(List Int)→Prop)=>loopP (fun (s:(List Int)×Int) (next266:((List Int)×Int)→Prop)=>match s with | (s260,s264)=>ifP (decide (s264<(p.Draws.length:Int))) (ifP (decide (s264<40)) (idxP p.Draws s264 fun x275=>appP 8 s260 ([bnd .i64 x275 2147483647]) fun _=>next266 ((s260++([bnd .i64 x275 2147483647])),w64 (s264+1))) (k207 s260)) (k207 s260)) (([]:List Int),0)) fun s203=>ifP (n==0) (ifP (k != 5) (Q ({ Kind:=3,N:=n,Source:=src,Length:=r37,Draws:=s203 }:Plan)) (Q ({ Kind:=k,N:=n,Source:=src,Length:=r37,Draws:=s203 }:Plan))) (Q ({ Kind:=k,N:=n,Source:=src,Length:=r37,Draws:=s203 }:Plan)):=by
    intro src hs
    refine Within_ok (fun h=>by omega) (fun _ len h0 h1=>?_)
    refine join_intro (fun ds:List Int=>ds.length≤40∧∀ d∈ds,0≤d∧d≤2147483647) (fun ds hd=>hk _ _ _ _ hk1 hs ⟨h0,h1⟩ hd) (fun k' hk'=>?_)
    refine range_intro (fun (s:List Int) i=>(s,i)) 0 (min p.Draws.length 40) (by omega) (fun i s=>s.length≤i∧∀ d∈s,0≤d∧d≤2147483647) (by omega) (by simp) (fun i s next _ hi hm hn=>?_) (fun s next hm=>?_)
    · refine ifP_dec (fun _=>ifP_dec (fun _=>idxP_nat (by omega) (appP_intro (by simp; omega) (hn _ ⟨by simp; omega,fun d hd=>?_⟩))) (fun h=>by omega)) (fun h=>by omega)
      rcases List.mem_append.1 hd with h | h
      · exact hm.2 d h
      · simp only [List.mem_singleton] at h
        subst h
        exact bnd_le _ (m:=2147483647) (by omega)
    · exact ifP_dec (fun _=>ifP_dec (fun _=>by omega) (fun _=>hk' _ ⟨by omega,hm.2⟩)) (fun h=>hk' _ ⟨by omega,hm.2⟩)
  exact Within_ok (fun h=>hrest 0 ⟨fun _=>rfl,by omega,fun h'=>by omega⟩) (fun h r h0 h1=>hrest r ⟨fun h'=>by omega,h0,fun _=>h1⟩)
abbrev GV:=Nat→Int×Int×Bool
def segV (l n:Nat) (G:GV):State:=chS (l:Int) ((l+n:Nat):Int) n fun i=>G (l+i)
theorem seg_StP {p:Plan} {l n:Nat} {G:GV} (hp:rightPl p=0) (h:((l+n:Nat):Int)≤p.N):StP p (segV l n G)∧okSt (segV l n G)∧lenSt (segV l n G):=by
  have h1:=chS_StP (p:=p) (low:=(l:Int)) (high:=((l+n:Nat):Int)) (g:=fun i=>G (l+i)) hp (by omega) (by omega) h
  rw [show (((l+n:Nat):Int) - (l:Int)).toNat=n by omega] at h1
  have h2:=chS_ok (l:Int) ((l+n:Nat):Int) n fun i=>G (l+i)
  exact ⟨h1,h2,lenSt_of h1 h2⟩
def gV0 (p:Plan):GV:=fun v=>((firstS p v).1,-1,(firstS p v).2)
theorem begin_seg {p:Plan} {l n:Nat} {a b:Int} (hp:rightPl p=0) (ha:a=l) (hb:b=((l+n:Nat):Int)) (h:b≤p.N):beginS p a b=segV l n (gV0 p):=by
  subst ha hb
  unfold beginS segV
  rw [if_pos ⟨hp,by omega,by omega,h⟩,show (((l+n:Nat):Int) - (l:Int)).toNat=n by omega]
  refine congrArg _ (funext fun i=>?_)
  unfold gV0
  rw [show ((l+i:Nat):Int)=(l:Int)+i by omega]
def behG (p:Plan) (round:Int) (v:Nat) (g:Int×Int×Bool) (o:Option Int):Int×Int×Bool:=
  if p.Kind=1 then (if (getO o).2=true∧g.1 = -1 then (round,(getO o).1,true) else (g.1,g.2.1,false))
  else if p.Kind=2∨p.Kind=3 then (if (getO o).2=true∧(getO o).1<g.1 then ((getO o).1,g.2.1,true) else (g.1,g.2.1,false))
  else if p.Kind=4 then ((getO o).1,g.2.1,(getO o).1 != 0)
  else if g.1≠0 then (g.1,g.2.1,false)
  else if round % 2=0 then (if (getO o).2=true then (2,g.2.1,false) else (g.1,g.2.1,false))
  else if (getO o).2=false∨dnum p round v<(getO o).1 then (1,g.2.1,true) else (g.1,g.2.1,false)
theorem beh_seg {p:Plan} {l n i:Nat} {G:GV} {round:Int} {o:Option Int} (hi:i<n):behS p (segV l n G) round i o=behG p round (l+i) (G (l+i)) o:=by
  have e1:at0 (segV l n G).A i=(G (l+i)).1:=mapN_at hi
  have e2:at0 (segV l n G).B i=(G (l+i)).2.1:=mapN_at hi
  have e3:(segV l n G).Low+(i:Int)=((l+i:Nat):Int):=by show (l:Int)+i=_; omega
  unfold behS behG
  simp only [e1,e2,e3]
def nextG (p:Plan) (round:Int) (G:GV) (Y:Nat→Option Int):GV:=fun v=>behG p round v (G v) (Y v)
theorem chS_congr {low high:Int} {n:Nat} {g g':Nat→Int×Int×Bool} (h:∀ i,i<n→g i=g' i):chS low high n g=chS low high n g':=by
  unfold chS
  rw [mapN_congr fun i hi=>congrArg (·.1) (h i hi),mapN_congr fun i hi=>congrArg (·.2.1) (h i hi),onsN_congr fun i hi=>congrArg (·.2.2) (h i hi)]
theorem upd_seg {p:Plan} {l n:Nat} {G:GV} {round:Int} {y:Vec} {Y:Nat→Option Int} (hp:rightPl p=0) (h:((l+n:Nat):Int)≤p.N) (hy:VecP y) (hn:y.N=n) (hY:∀ i,i<n→lkI y.Items i=Y (l+i)) :
    updS p (segV l n G) round y=segV l n (nextG p round G Y):=by
  have hs:sureSt p (segV l n G)=segV l n G:=if_pos (seg_StP hp h).1
  have e:(segV l n G).High - (segV l n G).Low=(n:Int):=by show ((l+n:Nat):Int) - (l:Int)=n; omega
  have e2:sizN (segV l n G)=n:=by unfold sizN; rw [e]; omega
  unfold updS
  rw [hs,if_pos ⟨hy,by rw [hn,e]⟩,e2]
  have hg:∀ i,i<n→newS p (segV l n G) round y i=nextG p round G Y (l+i):=fun i hi=>by
    unfold newS nextG
    rw [beh_seg hi,hY i hi]
  show chS (l:Int) ((l+n:Nat):Int) n _=chS (l:Int) ((l+n:Nat):Int) n _
  exact chS_congr hg
theorem onsN_mem {n i:Nat} {f:Nat→Bool}:(i:Int)∈onsN n f↔i<n∧f i=true:=by
  unfold onsN
  simp only [List.mem_map,List.mem_filter,List.mem_range]
  constructor
  · rintro ⟨j,⟨h1,h2⟩,h3⟩
    have:j=i:=by omega
    subst this; exact ⟨h1,h2⟩
  · rintro ⟨h1,h2⟩; exact ⟨i,⟨h1,h2⟩,rfl⟩
theorem of_ons {n i:Nat} {f:Nat→Bool} (hi:i<n) (hn:n≤4096):hasF (ofF n (onsN n f)) i=f i:=by
  rw [(ofF_prop _ _).2.2]
  cases hb:f i with
  | true=>exact decide_eq_true ⟨onsN_mem.2 ⟨hi,hb⟩,by omega,by omega,by omega⟩
  | false=>exact decide_eq_false fun h=>by have:=(onsN_mem.1 h.1).2; rw [hb] at this; cases this
def tellG (p:Plan) (round:Int) (v:Nat) (g:Int×Int×Bool):Int×Bool:=
  if p.Kind=1 then ((v:Int),g.2.2) else if p.Kind=5 then (if round % 2=0 then (1,g.2.2) else (dnum p round v,g.1==0)) else (g.1,g.2.2)
theorem outI_congr {n:Nat} {f g:Nat→Int×Bool} (h:∀ i,i<n→f i=g i):outI n f=outI n g:=by
  induction n with
  | zero=>rfl
  | succ n ih=>rw [outI_succ,outI_succ,ih fun i hi=>h i (by omega),h n (by omega)]
theorem out_seg {p:Plan} {l n:Nat} {G:GV} {round:Int} (hp:rightPl p=0) (h:((l+n:Nat):Int)≤p.N):outVS p (segV l n G) round=⟨n,outI n fun i=>tellG p round (l+i) (G (l+i))⟩:=by
  have hs:sureSt p (segV l n G)=segV l n G:=if_pos (seg_StP hp h).1
  have hn:=(rightPl_zero hp).2.1
  have e:(segV l n G).High - (segV l n G).Low=(n:Int):=by show ((l+n:Nat):Int) - (l:Int)=n; omega
  have e2:sizN (segV l n G)=n:=by unfold sizN; rw [e]; omega
  unfold outVS
  rw [hs,e,e2]
  congr 1
  refine outI_congr fun i hi=>?_
  have e1:at0 (segV l n G).A i=(G (l+i)).1:=mapN_at hi
  have e3:(segV l n G).Low+(i:Int)=((l+i:Nat):Int):=by show (l:Int)+i=_; omega
  have e4:hasF (segV l n G).On i=(G (l+i)).2.2:=of_ons hi (by omega)
  unfold tellsS tellG
  rw [e1,e3,e4]
theorem outI_in {n:Nat} {f:Nat→Int×Bool} {x:Item} (h:x∈outI n f):0≤x.At∧x.At<n:=by
  unfold outI at h
  obtain ⟨i,hi,he⟩:=List.mem_filterMap.1 h
  have:=List.mem_range.1 hi
  split at he
  · cases he; simp only; omega
  · cases he
theorem outI_inc (n:Nat) (f:Nat→Int×Bool):IncI (outI n f):=by
  induction n with
  | zero=>exact List.Pairwise.nil
  | succ n ih=>
    rw [outI_succ]
    split
    · unfold IncI
      rw [List.pairwise_append]
      refine ⟨ih,by simp,fun x hx y hy=>?_⟩
      simp only [List.mem_singleton] at hy
      subst hy
      exact (outI_in hx).2
    · exact ih
theorem out_vecP {n:Nat} (hn:n≤4096) (f:Nat→Int×Bool):VecP ⟨n,outI n f⟩:=⟨by simp only; omega,by simp only; omega,outI_inc n f,fun x hx=>outI_in hx⟩
end Go.Proofs.YtaefnmlbnkmahaaGreat
