import Derived.Test.YtpackolbhcmomaaGreatDcscD
namespace Go.Proofs.YtpackolbhcmomaaGreat
open Go Go.Fw
set_option linter.unusedVariables false
set_option linter.unusedSimpArgs false
def hkey (h:Push_head):Key:=((h.l.head?.map (·.At)).getD 0,h.which)
def gH (H:List Push_head) (i:Nat):Push_head:=H.getD i default
theorem gH_get {H:List Push_head} {i:Nat} (h:i<H.length):H[i]? = some (gH H i):=by simp [gH,List.getD_eq_getElem?_getD,h]
theorem gH_mem {H:List Push_head} {i:Nat} (h:i<H.length):gH H i∈H:=List.mem_of_getElem? (gH_get h)
def hKey (H:List Push_head) (i:Nat):Key:=hkey (gH H i)
def full (H:List Push_head):Prop:=∀ h∈H,h.l≠[]
theorem full_perm {H H':List Push_head} (h:full H) (hp:H'.Perm H):full H':=fun x hx=>h x (hp.mem_iff.1 hx)
theorem hless_ok {H:List Push_head} {i k:Nat} {Q:Bool→Prop} (hf:full H) (hi:i<H.length) (hk:k<H.length) (hQ:Q (decide (ltK (hKey H i) (hKey H k)))):push_heads_Less_706 H i k Q:=by
  unfold push_heads_Less_706
  obtain ⟨s,t,e1⟩:∃ s t,(gH H i).l=s :: t:=List.exists_cons_of_ne_nil (hf _ (gH_mem hi))
  obtain ⟨s',t',e2⟩:∃ s t,(gH H k).l=s :: t:=List.exists_cons_of_ne_nil (hf _ (gH_mem hk))
  have k1:hKey H i=(s.At,(gH H i).which):=by simp [hKey,hkey,e1]
  have k2:hKey H k=(s'.At,(gH H k).which):=by simp [hKey,hkey,e2]
  refine idxP_intro (x:=gH H i) (by omega) (gH_get hi) (idxP_intro (by omega) (x:=s) (by rw [e1]; rfl) (idxP_intro (x:=gH H k) (by omega) (gH_get hk) (idxP_intro (by omega) (x:=s') (by rw [e2]; rfl) (idxP_intro (x:=gH H i) (by omega) (gH_get hi) (idxP_intro (x:=gH H k) (by omega) (gH_get hk) ?_)))))
  refine cmp_int_ok (cmp_int_ok (or_ok ?_))
  rw [k1,k2] at hQ
  have:(or2 (cmpc s.At s'.At) (cmpc (gH H i).which (gH H k).which)<0)↔ltK (s.At,(gH H i).which) (s'.At,(gH H k).which):=by
    unfold or2 cmpc ltK; simp only; split <;> split <;> (try split) <;> (try split) <;> omega
  simpa only [this] using hQ
def swp (H:List Push_head) (i k:Nat):List Push_head:=(H.set i (gH H k)).set k (gH H i)
theorem swp_len (H:List Push_head) (i k:Nat):(swp H i k).length=H.length:=by simp [swp]
theorem swp_get {H:List Push_head} {i k:Nat} (hi:i<H.length) (hk:k<H.length) (j:Nat):gH (swp H i k) j=if j=k then gH H i else if j=i then gH H k else gH H j:=by
  unfold swp gH
  simp only [List.getD_eq_getElem?_getD]
  by_cases e1:j=k
  · subst e1; rw [if_pos rfl,List.getElem?_set_self (by simpa using hk)]; simp
  · rw [if_neg e1,List.getElem?_set_ne (Ne.symm e1)]
    by_cases e2:j=i
    · subst e2; rw [if_pos rfl,List.getElem?_set_self hi]; simp
    · rw [if_neg e2,List.getElem?_set_ne (Ne.symm e2)]
theorem swp_key {H:List Push_head} {i k:Nat} (hi:i<H.length) (hk:k<H.length) (j:Nat):hKey (swp H i k) j=if j=k then hKey H i else if j=i then hKey H k else hKey H j:=by
  unfold hKey; rw [swp_get hi hk]; split
  · rfl
  · split <;> rfl
theorem set_perm {α:Type}:∀ (l:List α) (i:Nat) (h:i<l.length) (y:α),(l[i] :: l.set i y).Perm (y :: l)
  | a :: l,0,_,y=>by simpa using List.Perm.swap y a l
  | a :: l,i+1,h,y=>by
    have:=set_perm l i (by simpa using h) y
    simp only [List.getElem_cons_succ,List.set_cons_succ]
    exact (List.Perm.swap _ _ _).trans ((this.cons a).trans (List.Perm.swap _ _ _))
theorem swp_perm {H:List Push_head} {i k:Nat} (hi:i<H.length) (hk:k<H.length):(swp H i k).Perm H:=by
  have e1:H[i]=gH H i:=by have:=gH_get hi; rw [List.getElem?_eq_getElem hi] at this; exact Option.some.inj this
  have e2:H[k]=gH H k:=by have:=gH_get hk; rw [List.getElem?_eq_getElem hk] at this; exact Option.some.inj this
  have h1:=set_perm H i hi (gH H k)
  have h2:=set_perm (H.set i (gH H k)) k (by simpa using hk) (gH H i)
  have e3:(H.set i (gH H k))[k]'(by simpa using hk)=gH H k:=by
    rw [List.getElem_set]; split
    · rfl
    · exact e2
  rw [e3] at h2; rw [e1] at h1
  exact List.Perm.cons_inv (h2.trans h1)
theorem swap_ok {H:List Push_head} {i k:Nat} {Q:List Push_head→Prop} (hi:i<H.length) (hk:k<H.length) (hQ:Q (swp H i k)):push_heads_Swap_c73 H i k Q:=by
  unfold push_heads_Swap_c73
  refine idxP_intro (x:=gH H k) (by omega) (gH_get hk) (idxP_intro (x:=gH H i) (by omega) (gH_get hi) (idxP_intro (x:=gH H i) (by omega) (gH_get hi) ?_))
  refine idxP_intro (x:=(H.set i (gH H k))[k]'(by simpa using hk)) (by omega) (by simp only [Int.toNat_natCast]; exact List.getElem?_eq_getElem (by simpa using hk)) ?_
  simp only [Int.toNat_natCast]
  exact hQ
def Heap (H:List Push_head) (n:Nat):Prop:=∀ j,0<j→j<n→¬ltK (hKey H j) (hKey H ((j - 1) / 2))
theorem heap_root {H:List Push_head} {n:Nat} (h:Heap H n):∀ j,j<n→¬ltK (hKey H j) (hKey H 0):=by
  intro j
  induction j using Nat.strongRecOn with
  | _ j ih=>
    intro hj
    rcases Nat.eq_zero_or_pos j with e | hp
    · subst e; exact ltK_irrefl _
    · have h1:=h j hp hj
      have h2:=ih ((j - 1) / 2) (by omega) (by omega)
      unfold ltK at *; omega
theorem up_ok {o:Push_merger} {j:Nat} {Q:Push_merger→Prop} (hl:o.heads.length≤1000000000000) (hf:full o.heads) (hj:j<o.heads.length)
    (h1:∀ c,0<c→c<o.heads.length→c≠j→¬ltK (hKey o.heads c) (hKey o.heads ((c - 1) / 2))) (h2:∀ c,0<c→c<o.heads.length→(c - 1) / 2=j→0<j→¬ltK (hKey o.heads c) (hKey o.heads ((j - 1) / 2)))
    (hQ:∀ H,H.Perm o.heads→Heap H H.length→Q ⟨H,o.r,o.out⟩):container_heap_up_248 o j Q:=by
  unfold container_heap_up_248
  refine loop_intro (fun s:List Push_head×Int=>∃ j:Nat,s.2=j∧s.1.Perm o.heads∧j<s.1.length∧(∀ c,0<c→c<s.1.length→c≠j→¬ltK (hKey s.1 c) (hKey s.1 ((c - 1) / 2)))∧(∀ c,0<c→c<s.1.length→(c - 1) / 2=j→0<j→¬ltK (hKey s.1 c) (hKey s.1 ((j - 1) / 2)))) (fun s=>s.2.toNat)
    ⟨j,rfl,.refl _,hj,h1,h2⟩ ?_
  rintro ⟨H,jj⟩ next ⟨j,e,hp,hj,g1,g2⟩ hn
  simp only at e hp hj g1 g2 ⊢
  subst e
  have hlen:=hp.length_eq
  have ei:w64 ((w64 ((j:Int) - 1)).tdiv 2)=((if j=0 then 0 else (j - 1) / 2:Nat):Int):=by
    rw [w64_id (x:=(j:Int) - 1) (by omega) (by omega)]
    split
    · rename_i e; subst e; decide
    · rw [Int.tdiv_eq_ediv_of_nonneg (by omega),w64_id (by omega) (by omega)]; omega
  rw [ei]
  refine ifP_eq (fun e=>?_) (fun e=>?_)
  · refine hQ H hp fun c hc hcl=>g1 c hc hcl ?_
    split at e <;> omega
  · have hj0:0<j:=by
      rcases Nat.eq_zero_or_pos j with z | z
      · subst z; simp at e
      · exact z
    simp only [show j≠0 by omega,if_false]
    have hf':=full_perm hf hp
    refine hless_ok hf' hj (by omega) (ifP_not (fun hlt=>?_) (fun hlt=>?_))
    · refine hQ H hp fun c hc hcl=>?_
      by_cases ec:c=j
      · subst ec; exact of_decide_eq_false hlt
      · exact g1 c hc hcl ec
    · have hlt:=of_decide_eq_true hlt
      refine swap_ok (by omega) hj (hn _ ⟨(j - 1) / 2,rfl,(swp_perm (by omega) hj).trans hp,by rw [swp_len]; omega,?_,?_⟩ (by simp only [Int.toNat_natCast]; omega))
      · intro c hc hcl hne
        rw [swp_len] at hcl
        rw [swp_key (by omega) hj,swp_key (by omega) hj]
        by_cases e1:c=j
        · subst e1
          rw [if_pos rfl,if_neg (by omega),if_pos rfl]
          unfold ltK at *; omega
        · rw [if_neg e1,if_neg hne]
          by_cases e2:(c - 1) / 2=j
          · rw [if_pos e2]
            exact g2 c hc hcl e2 hj0
          · rw [if_neg e2]
            by_cases e3:(c - 1) / 2=(j - 1) / 2
            · rw [if_pos e3]
              have:=g1 c hc hcl e1
              rw [e3] at this
              unfold ltK at *; omega
            · rw [if_neg e3]; exact g1 c hc hcl e1
      · intro c hc hcl he hi0
        rw [swp_len] at hcl
        rw [swp_key (by omega) hj,swp_key (by omega) hj]
        have hpar:=g1 ((j - 1) / 2) hi0 (by omega) (by omega)
        rw [if_neg (show ((j - 1) / 2 - 1) / 2≠j by omega),if_neg (show ((j - 1) / 2 - 1) / 2≠(j - 1) / 2 by omega)]
        by_cases e1:c=j
        · subst e1; rw [if_pos rfl]; exact hpar
        · rw [if_neg e1,if_neg (by omega)]
          have:=g1 c hc hcl e1
          rw [he] at this
          unfold ltK at *; omega
theorem put_ok {o:Push_merger} {l:List Sum} {w:Int} {Q:Push_merger→Prop} (hl:o.heads.length≤1000000000) (hf:full o.heads) (hh:Heap o.heads o.heads.length)
    (hQ:∀ H,H.Perm (if l=[] then o.heads else ⟨l,w⟩ :: o.heads)→Heap H H.length→Q ⟨H,o.r,o.out⟩):push_merger_put_46e o l w Q:=by
  unfold push_merger_put_46e container_heap_Push_f07 push_heads_Push_5fa push_heads_Len_66a
  refine ifP_dec (fun h=>?_) (fun h=>?_)
  · have hne:l≠[]:=by intro e; subst e; simp at h
    rw [if_neg hne] at hQ
    refine appP_intro (by simp; omega) ?_
    show container_heap_up_248 ⟨o.heads++[⟨l,w⟩],o.r,o.out⟩ (w64 (((o.heads++[(⟨l,w⟩:Push_head)]).length:Int) - 1)) _
    have hlen:(o.heads++[(⟨l,w⟩:Push_head)]).length=o.heads.length+1:=by simp
    have el:w64 (((o.heads++[(⟨l,w⟩:Push_head)]).length:Int) - 1)=(o.heads.length:Int):=by rw [hlen,w64_id (x:=((o.heads.length+1:Nat):Int) - 1) (by omega) (by omega)]; omega
    rw [el]
    have hk:∀ c,c<o.heads.length→hKey (o.heads++[(⟨l,w⟩:Push_head)]) c=hKey o.heads c:=by
      intro c hc; simp [hKey,gH,List.getD_eq_getElem?_getD,List.getElem?_append_left hc]
    refine up_ok (o:=⟨o.heads++[⟨l,w⟩],o.r,o.out⟩) (j:=o.heads.length) (by simp only [hlen]; omega) ?_ (by simp only [hlen]; omega) ?_ ?_ ?_
    · intro x hx
      rcases List.mem_append.1 hx with h' | h'
      · exact hf x h'
      · simp only [List.mem_singleton] at h'; subst h'; exact hne
    · intro c hc hcl hne'
      simp only [hlen] at hcl hne' ⊢
      rw [hk c (by omega),hk _ (by omega)]
      exact hh c hc (by omega)
    · intro c hc hcl he hp
      simp only [hlen] at hcl
      omega
    · intro H hp hH
      exact hQ H (hp.trans List.perm_append_comm) hH
  · have:l=[]:=by
      cases l with
      | nil=>rfl
      | cons a b=>simp at h
    subst this
    rw [if_pos rfl] at hQ
    exact hQ o.heads (.refl _) hh
theorem down_ok {o:Push_merger} {n:Nat} {Q:Bool×Push_merger→Prop} (hl:o.heads.length≤1000000000000) (hf:full o.heads) (hn:n≤o.heads.length)
    (h1:∀ c,0<c→c<n→(c - 1) / 2≠0→¬ltK (hKey o.heads c) (hKey o.heads ((c - 1) / 2)))
    (hQ:∀ b H,H.Perm o.heads→Heap H n→(∀ j,n≤j→gH H j=gH o.heads j)→Q (b,⟨H,o.r,o.out⟩)):container_heap_down_206 o 0 n Q:=by
  unfold container_heap_down_206
  refine loop_intro (fun s:List Push_head×Int=>∃ j:Nat,s.2=j∧s.1.Perm o.heads∧(∀ j,n≤j→gH s.1 j=gH o.heads j)∧(j<n∨j=0)∧(∀ c,0<c→c<n→(c - 1) / 2≠j→¬ltK (hKey s.1 c) (hKey s.1 ((c - 1) / 2)))∧(∀ c,0<c→c<n→(c - 1) / 2=j→0<j→¬ltK (hKey s.1 c) (hKey s.1 ((j - 1) / 2)))) (fun s=>n - s.2.toNat)
    ⟨0,rfl,.refl _,fun _ _=>rfl,.inr rfl,h1,fun c _ _ _ h=>absurd h (by omega)⟩ ?_
  rintro ⟨H,jj⟩ next ⟨i,e,hp,hr,hi,g1,g2⟩ hn'
  simp only at e hp hi hr g1 g2 ⊢
  subst e
  have hlen:=hp.length_eq
  have e1:w64 (w64 (2*(i:Int))+1)=((2*i+1:Nat):Int):=by rw [w64_id (x:=2*(i:Int)) (by omega) (by omega),w64_id (by omega) (by omega)]; omega
  have e2:w64 (((2*i+1:Nat):Int)+1)=((2*i+2:Nat):Int):=by rw [w64_id (by omega) (by omega)]; omega
  simp only [e1,e2]
  refine ifP_dec (fun h=>?_) (fun h=>ifP_dec (fun h'=>by omega) (fun _=>?_))
  · exact hQ _ H hp (fun c hc hcl=>g1 c hc hcl (by omega)) hr
  · have hf':=full_perm hf hp
    refine join_intro (fun t:Int=>∃ j:Nat,t=j∧j<n∧(j - 1) / 2=i∧0<j∧∀ c,0<c→c<n→(c - 1) / 2=i→¬ltK (hKey H c) (hKey H j)) ?_ ?_
    · rintro t ⟨j,rfl,hjn,hji,hj0,hmin⟩
      refine hless_ok hf' (by omega) (by omega) (ifP_not (fun hlt=>?_) (fun hlt=>?_))
      · refine hQ _ H hp (fun c hc hcl=>?_) hr
        by_cases ec:(c - 1) / 2=i
        · have q1:=hmin c hc hcl ec
          have q2:=of_decide_eq_false hlt
          rw [ec]
          unfold ltK at *; omega
        · exact g1 c hc hcl ec
      · have hlt:=of_decide_eq_true hlt
        refine swap_ok (by omega) (by omega) (hn' _ ⟨j,rfl,(swp_perm (by omega) (by omega)).trans hp,?_,.inl hjn,?_,?_⟩ (by simp only [Int.toNat_natCast]; omega))
        · intro q hq
          rw [swp_get (by omega) (by omega),if_neg (by omega),if_neg (by omega)]
          exact hr q hq
        · intro c hc hcl hne
          rw [swp_key (by omega) (by omega),swp_key (by omega) (by omega)]
          by_cases ec:c=j
          · subst ec
            rw [if_pos rfl,if_neg (by omega),if_pos hji]
            unfold ltK at *; omega
          · rw [if_neg ec]
            by_cases ei:c=i
            · subst ei
              rw [if_pos rfl,if_neg hne,if_neg (by omega)]
              exact g2 j hj0 hjn hji hc
            · rw [if_neg ei,if_neg hne]
              by_cases ep:(c - 1) / 2=i
              · rw [if_pos ep]; exact hmin c hc hcl ep
              · rw [if_neg ep]; exact g1 c hc hcl ep
        · intro c hc hcl he _
          rw [swp_key (by omega) (by omega),swp_key (by omega) (by omega),if_neg (by omega),if_neg (by omega),if_neg (by omega),if_pos hji]
          have:=g1 c hc hcl (by omega)
          rwa [he] at this
    · intro k' hk'
      refine ifP_dec (fun h2=>hless_ok hf' (by omega) (by omega) ⟨fun hlt=>?_,fun hlt=>?_⟩) (fun h2=>?_)
      · refine hk' _ ⟨2*i+2,rfl,by omega,by omega,by omega,fun c hc hcl he=>?_⟩
        have hlt:=of_decide_eq_true hlt
        rcases (show c=2*i+1∨c=2*i+2 by omega) with e | e
        · subst e; unfold ltK at *; omega
        · subst e; exact ltK_irrefl _
      · refine hk' _ ⟨2*i+1,rfl,by omega,by omega,by omega,fun c hc hcl he=>?_⟩
        have hlt:=of_decide_eq_false hlt
        rcases (show c=2*i+1∨c=2*i+2 by omega) with e | e
        · subst e; exact ltK_irrefl _
        · subst e; exact hlt
      · refine hk' _ ⟨2*i+1,rfl,by omega,by omega,by omega,fun c hc hcl he=>?_⟩
        rcases (show c=2*i+1∨c=2*i+2 by omega) with e | e
        · subst e; exact ltK_irrefl _
        · omega
theorem pop_ok {o:Push_merger} {Q:Push_head×Push_merger→Prop} (hl:o.heads.length≤1000000000) (hf:full o.heads) (hh:Heap o.heads o.heads.length) (h0:o.heads≠[])
    (hQ:∀ x H,(gH o.heads 0 :: H).Perm o.heads→Heap H H.length→Q (x,⟨H,o.r,o.out⟩)):container_heap_Pop_4c3 o Q:=by
  unfold container_heap_Pop_4c3 push_heads_Len_66a
  have hlen:0<o.heads.length:=List.length_pos_iff.2 h0
  have e:w64 ((o.heads.length:Int) - 1)=((o.heads.length - 1:Nat):Int):=by rw [w64_id (by omega) (by omega)]; omega
  simp only [e]
  have hs0:0<o.heads.length:=hlen
  refine swap_ok (i:=0) hlen (by omega) ?_
  have hp0:=swp_perm (H:=o.heads) (i:=0) (k:=o.heads.length - 1) hlen (by omega)
  refine down_ok (o:=⟨swp o.heads 0 (o.heads.length - 1),o.r,o.out⟩) (n:=o.heads.length - 1) (by simp only [swp_len]; omega) (full_perm hf hp0) (by simp only [swp_len]; omega) ?_ ?_
  · intro c hc hcl hne
    simp only
    rw [swp_key hlen (by omega),swp_key hlen (by omega),if_neg (by omega),if_neg (by omega),if_neg (by omega),if_neg hne]
    exact hh c hc (by omega)
  · intro b H hp hH hr
    simp only at hp hr
    have hlH:H.length=o.heads.length:=hp.length_eq.trans (swp_len _ _ _)
    unfold push_heads_Pop_df2
    have e':w64 ((H.length:Int) - 1)=((o.heads.length - 1:Nat):Int):=by rw [hlH]; exact e
    simp only [e']
    refine idxP_intro (by omega) (gH_get (by simp only [Int.toNat_natCast]; omega)) ⟨by omega,by omega,by omega,?_⟩
    simp only [Int.toNat_natCast]
    refine hQ _ _ ?_ ?_
    · have hlast:=hr (o.heads.length - 1) (by omega)
      rw [swp_get hlen (by omega),if_pos rfl] at hlast
      rw [←hlast]
      have h3:H=H.take (o.heads.length - 1)++[gH H (o.heads.length - 1)]:=by
        have h4:H[o.heads.length - 1]'(by omega)=gH H (o.heads.length - 1):=by have:=gH_get (H:=H) (i:=o.heads.length - 1) (by omega); rw [List.getElem?_eq_getElem (by omega)] at this; exact Option.some.inj this
        rw [←h4,List.take_append_getElem (by omega),List.take_of_length_le (by omega)]
      exact (List.perm_append_comm (l₁:=[gH H (o.heads.length - 1)])).trans ((h3▸.refl _:(H.take (o.heads.length - 1)++[gH H (o.heads.length - 1)]).Perm H).trans (hp.trans hp0))
    · intro j hj hjl
      rw [List.length_take] at hjl
      have hk:∀ c,c<o.heads.length - 1→hKey (H.take (o.heads.length - 1)) c=hKey H c:=by
        intro c hc; simp [hKey,gH,List.getD_eq_getElem?_getD,List.getElem?_take,hc]
      rw [hk j (by omega),hk _ (by omega)]
      exact hH j hj (by omega)
def kvM (s:Sum):Int×Wide:=(s.At,s.Val)
def lk (l:List Sum) (i:Int):Option Wide:=mget i (l.map kvM)
def Rise (l:List Sum):Prop:=l.Pairwise fun a b=>a.At<b.At
instance (l:List Sum):Decidable (Rise l):=by unfold Rise; infer_instance
def okS (l:List Sum):Prop:=∀ s∈l,okW s.Val
theorem lk_nil (i:Int):lk [] i=none:=rfl
theorem lk_cons (s:Sum) (l:List Sum) (i:Int):lk (s :: l) i=if i=s.At then some s.Val else lk l i:=rfl
theorem lk_none:∀ {l:List Sum} {i:Int},(∀ s∈l,s.At≠i)→lk l i=none
  | [],_,_=>rfl
  | s :: l,i,h=>by rw [lk_cons,if_neg (fun e=>h s (by simp) e.symm)]; exact lk_none fun x hx=>h x (by simp [hx])
theorem lk_mem:∀ {l:List Sum} {i:Int} {v:Wide},lk l i=some v→⟨i,v⟩∈l
  | s :: l,i,v,h=>by
    rw [lk_cons] at h
    split at h
    · rename_i e; cases h; subst e; simp
    · exact List.mem_cons_of_mem _ (lk_mem h)
theorem mem_lk:∀ {l:List Sum} (h:Rise l) {s:Sum},s∈l→lk l s.At=some s.Val
  | x :: l,h,s,hs=>by
    unfold Rise at h
    rw [List.pairwise_cons] at h
    rw [lk_cons]
    rcases List.mem_cons.1 hs with e | hs
    · subst e; rw [if_pos rfl]
    · have:=h.1 s hs
      rw [if_neg (by omega)]; exact mem_lk h.2 hs
theorem lk_append:∀ (l:List Sum) (m:List Sum) (i:Int),lk (l++m) i=match lk l i with | some v=>some v | none=>lk m i
  | [],m,i=>rfl
  | s :: l,m,i=>by
    rw [List.cons_append,lk_cons,lk_cons]
    split
    · rfl
    · exact lk_append l m i
theorem rise_ext {l m:List Sum} (h:Rise l) (h':Rise m) (he:∀ i,lk l i=lk m i):l=m:=by
  have nd:∀ {l:List Sum},Rise l→l.Nodup:=fun h=>h.imp fun hab e=>by subst e; omega
  have hp:l.Perm m:=(List.perm_ext_iff_of_nodup (nd h) (nd h')).2 fun s=>⟨fun hs=>by
    have:=mem_lk h hs; rw [he] at this; exact lk_mem this,fun hs=>by
    have:=mem_lk h' hs; rw [←he] at this; exact lk_mem this⟩
  exact sorted_eq hp h h' fun a b _ _ h1 h2=>by omega
theorem rise_adj {l:List Sum} (h:∀ (i:Nat) (hi:i+1<l.length),l[i].At<l[i+1].At):Rise l:=by
  unfold Rise
  rw [List.pairwise_iff_getElem]
  intro i j hi hj hij
  obtain ⟨d,rfl⟩:∃ d,j=i+1+d:=⟨j - i - 1,by omega⟩
  induction d with
  | zero=>exact h i (by omega)
  | succ d ih=>have h1:=ih (by omega) (by omega); have h2:=h (i+1+d) (by omega); exact Int.lt_trans h1 h2
theorem Rise.adj {l:List Sum} (h:Rise l) {i j:Nat} (hj:j<l.length) (hij:i<j):(l[i]'(by omega)).At<l[j].At:=by
  unfold Rise at h; rw [List.pairwise_iff_getElem] at h; exact h i j (by omega) hj hij
def cmb (r:Int):Option Wide→Option Wide→Option Wide
  | none,y=>y
  | some a,none=>some a
  | some a,some b=>some (addW r a b)
theorem cmb_none (r:Int) (a:Option Wide):cmb r a none=a:=by cases a <;> rfl
def bothS (r:Int) (a b:List Sum):List Sum:=
  match a,b with
  | [],b=>b
  | x :: a,[]=>x :: a
  | x :: a,y :: b=>if x.At<y.At then x :: bothS r a (y :: b) else if y.At<x.At then y :: bothS r (x :: a) b else ⟨x.At,addW r x.Val y.Val⟩ :: bothS r a b
termination_by a.length+b.length
theorem both_nil (r:Int) (a:List Sum):bothS r a []=a:=by cases a <;> simp [bothS]
theorem both_at (r:Int):∀ (a b:List Sum) (s:Sum),s∈bothS r a b→(∃ x∈a,x.At=s.At)∨∃ x∈b,x.At=s.At
  | [],b,s,h=>.inr ⟨s,by simpa [bothS] using h,rfl⟩
  | x :: a,[],s,h=>.inl ⟨s,by simpa [bothS] using h,rfl⟩
  | x :: a,y :: b,s,h=>by
    rw [bothS] at h
    split at h
    · rcases List.mem_cons.1 h with e | h
      · exact .inl ⟨x,by simp,by rw [e]⟩
      · rcases both_at r a (y :: b) s h with ⟨z,hz,e⟩ | ⟨z,hz,e⟩
        · exact .inl ⟨z,by simp [hz],e⟩
        · exact .inr ⟨z,hz,e⟩
    · split at h
      · rcases List.mem_cons.1 h with e | h
        · exact .inr ⟨y,by simp,by rw [e]⟩
        · rcases both_at r (x :: a) b s h with ⟨z,hz,e⟩ | ⟨z,hz,e⟩
          · exact .inl ⟨z,hz,e⟩
          · exact .inr ⟨z,by simp [hz],e⟩
      · rcases List.mem_cons.1 h with e | h
        · exact .inl ⟨x,by simp,by rw [e]⟩
        · rcases both_at r a b s h with ⟨z,hz,e⟩ | ⟨z,hz,e⟩
          · exact .inl ⟨z,by simp [hz],e⟩
          · exact .inr ⟨z,by simp [hz],e⟩
termination_by a b=>a.length+b.length
theorem both_prop (r:Int):∀ (a b:List Sum),Rise a→Rise b→Rise (bothS r a b)∧(bothS r a b).length≤a.length+b.length∧(okS a→okS b→okS (bothS r a b))∧∀ i,lk (bothS r a b) i=cmb r (lk a i) (lk b i)
  | [],b,_,hb=>by simp only [bothS]; exact ⟨hb,by simp,fun _ h=>h,fun i=>rfl⟩
  | x :: a,[],ha,_=>by rw [both_nil]; exact ⟨ha,by simp,fun h _=>h,fun i=>by rw [lk_nil,cmb_none]⟩
  | x :: a,y :: b,ha,hb=>by
    have ha':=ha; have hb':=hb
    unfold Rise at ha' hb'
    rw [List.pairwise_cons] at ha' hb'
    rw [bothS]
    split
    · rename_i hlt
      obtain ⟨h1,h2,h3,h4⟩:=both_prop r a (y :: b) ha'.2 hb
      refine ⟨List.pairwise_cons.2 ⟨fun s hs=>?_,h1⟩,by simp at h2 ⊢; omega,fun q1 q2 s hs=>?_,fun i=>?_⟩
      · rcases both_at r a (y :: b) s hs with ⟨z,hz,e⟩ | ⟨z,hz,e⟩
        · rw [←e]; exact ha'.1 z hz
        · rw [←e]; rcases List.mem_cons.1 hz with e' | hz
          · rw [e']; exact hlt
          · have:=hb'.1 z hz; omega
      · rcases List.mem_cons.1 hs with e | hs
        · subst e; exact q1 _ (by simp)
        · exact h3 (fun s hs=>q1 s (by simp [hs])) q2 s hs
      · rw [lk_cons,lk_cons x a]
        split
        · rename_i e; subst e
          rw [lk_none (l := y :: b) (fun s hs => by rcases List.mem_cons.1 hs with e | hs
                                                    · subst e; omega
                                                    · have:=hb'.1 s hs; omega)]
          rfl
        · exact h4 i
    · rename_i hlt
      split
      · rename_i hlt'
        obtain ⟨h1,h2,h3,h4⟩:=both_prop r (x :: a) b ha hb'.2
        refine ⟨List.pairwise_cons.2 ⟨fun s hs=>?_,h1⟩,by simp at h2 ⊢; omega,fun q1 q2 s hs=>?_,fun i=>?_⟩
        · rcases both_at r (x :: a) b s hs with ⟨z,hz,e⟩ | ⟨z,hz,e⟩
          · rw [←e]; rcases List.mem_cons.1 hz with e' | hz
            · rw [e']; exact hlt'
            · have:=ha'.1 z hz; omega
          · rw [←e]; exact hb'.1 z hz
        · rcases List.mem_cons.1 hs with e | hs
          · subst e; exact q2 _ (by simp)
          · exact h3 q1 (fun s hs=>q2 s (by simp [hs])) s hs
        · rw [lk_cons,lk_cons y b]
          split
          · rename_i e; subst e
            rw [lk_none (l := x :: a) (fun s hs => by rcases List.mem_cons.1 hs with e | hs
                                                      · subst e; omega
                                                      · have:=ha'.1 s hs; omega)]
            rfl
          · exact h4 i
      · rename_i hlt'
        have exy:x.At=y.At:=by omega
        obtain ⟨h1,h2,h3,h4⟩:=both_prop r a b ha'.2 hb'.2
        refine ⟨List.pairwise_cons.2 ⟨fun s hs=>?_,h1⟩,by simp at h2 ⊢; omega,fun q1 q2 s hs=>?_,fun i=>?_⟩
        · rcases both_at r a b s hs with ⟨z,hz,e⟩ | ⟨z,hz,e⟩
          · rw [←e]; exact ha'.1 z hz
          · rw [←e]; have:=hb'.1 z hz; show x.At<z.At; omega
        · rcases List.mem_cons.1 hs with e | hs
          · subst e; exact addW_okW (q1 _ (by simp)) (q2 _ (by simp))
          · exact h3 (fun s hs=>q1 s (by simp [hs])) (fun s hs=>q2 s (by simp [hs])) s hs
        · rw [lk_cons,lk_cons x a,lk_cons y b,←exy]
          split
          · rfl
          · exact h4 i
termination_by a b=>a.length+b.length
def foldR (r:Int) (R:Nat→List Sum) (i:Int):Nat→Option Wide→Option Wide
  | 0,a=>a
  | n+1,a=>cmb r (foldR r R i n a) (lk (R n) i)
def mergeS (r:Int) (L:List (List Sum)):List Sum:=L.foldl (bothS r) []
def total (L:List (List Sum)):Nat:=(L.map List.length).foldr (· + ·) 0
theorem merge_prop (r:Int):∀ (L:List (List Sum)),(∀ l∈L,Rise l)→∀ n,n≤L.length →
    Rise (mergeS r (L.take n))∧(mergeS r (L.take n)).length≤total (L.take n)∧((∀ l∈L,okS l)→okS (mergeS r (L.take n)))∧∀ i,lk (mergeS r (L.take n)) i=foldR r (fun w=>L.getD w []) i n none:=by
  intro L hL n
  induction n with
  | zero=>intro _; simp [mergeS,Rise,total,okS,lk_nil,foldR]
  | succ n ih=>
    intro hn
    obtain ⟨h1,h2,h3,h4⟩:=ih (by omega)
    have e:L.take (n+1)=L.take n++[L[n]]:=List.take_succ_eq_append_getElem (by omega)
    have em:mergeS r (L.take (n+1))=bothS r (mergeS r (L.take n)) L[n]:=by unfold mergeS; rw [e,List.foldl_append]; rfl
    have et:total (L.take (n+1))=total (L.take n)+L[n].length:=by
      rw [e]; unfold total
      induction (L.take n) with
      | nil=>simp
      | cons a l ih=>simp only [List.cons_append,List.map_cons,List.foldr_cons,ih]; omega
    obtain ⟨g1,g2,g3,g4⟩:=both_prop r (mergeS r (L.take n)) L[n] h1 (hL _ (List.getElem_mem _))
    rw [em,et]
    refine ⟨g1,by omega,fun q=>g3 (h3 q) (q _ (List.getElem_mem _)),fun i=>?_⟩
    rw [g4,h4]
    simp [foldR,List.getD_eq_getElem?_getD,show n<L.length by omega]
theorem foldR_none {r:Int} {R:Nat→List Sum} {i:Int} {a:Option Wide}:∀ {n:Nat},(∀ w,w<n→lk (R w) i=none)→foldR r R i n a=a
  | 0,_=>rfl
  | n+1,h=>by rw [foldR,foldR_none (fun w hw=>h w (by omega)),h n (by omega),cmb_none]
theorem foldR_congr {r:Int} {R R':Nat→List Sum} {i:Int} {a:Option Wide}:∀ {n:Nat},(∀ w,w<n→lk (R w) i=lk (R' w) i)→foldR r R i n a=foldR r R' i n a
  | 0,_=>rfl
  | n+1,h=>by rw [foldR,foldR,foldR_congr (fun w hw=>h w (by omega)),h n (by omega)]
def upd (R:Nat→List Sum) (w:Nat) (l:List Sum):Nat→List Sum:=fun k=>if k=w then l else R k
theorem foldR_step {r:Int} {R:Nat→List Sum} {i:Int} {a:Option Wide} {w:Nat} {v:Wide} {t:List Sum} (h0:∀ k,k<w→lk (R k) i=none) (h1:lk (R w) i=some v) (h2:lk t i=none) :
    ∀ {n:Nat},w<n→foldR r (upd R w t) i n (cmb r a (some v))=foldR r R i n a
  | 0,h=>by omega
  | n+1,h=>by
    rw [foldR,foldR]
    by_cases e:n=w
    · subst e
      rw [foldR_none (fun k hk=>by rw [upd,if_neg (by omega)]; exact h0 k hk),foldR_none h0,upd,if_pos rfl,h1,h2,cmb_none]
    · rw [foldR_step h0 h1 h2 (by omega),upd,if_neg e]
def headsR (R:Nat→List Sum):Nat→List Push_head
  | 0=>[]
  | n+1=>if R n=[] then headsR R n else ⟨R n,n⟩ :: headsR R n
theorem hs_mem {R:Nat→List Sum} {h:Push_head}:∀ {n:Nat},h∈headsR R n↔∃ w,w<n∧R w≠[]∧h=⟨R w,w⟩
  | 0=>by simp [headsR]
  | n+1=>by
    rw [headsR]
    split
    · rename_i e; rw [hs_mem (n:=n)]
      constructor
      · rintro ⟨w,h1,h2⟩; exact ⟨w,by omega,h2⟩
      · rintro ⟨w,h1,h2,h3⟩
        refine ⟨w,?_,h2,h3⟩
        rcases Nat.lt_or_ge w n with g | g
        · exact g
        · have:w=n:=by omega
          subst this; exact absurd e h2
    · rename_i e; rw [List.mem_cons,hs_mem (n:=n)]
      constructor
      · rintro (h1 | ⟨w,h1,h2⟩)
        · exact ⟨n,by omega,e,h1⟩
        · exact ⟨w,by omega,h2⟩
      · rintro ⟨w,h1,h2,h3⟩
        rcases Nat.lt_or_ge w n with g | g
        · exact .inr ⟨w,g,h2,h3⟩
        · have:w=n:=by omega
          subst this; exact .inl h3
theorem hs_congr {R R':Nat→List Sum}:∀ {n:Nat},(∀ w,w<n→R w=R' w)→headsR R n=headsR R' n
  | 0,_=>rfl
  | n+1,h=>by rw [headsR,headsR,h n (by omega),hs_congr fun w hw=>h w (by omega)]
theorem hs_len (R:Nat→List Sum):∀ n,(headsR R n).length≤n
  | 0=>by simp [headsR]
  | n+1=>by rw [headsR]; have:=hs_len R n; split <;> simp <;> omega
theorem hs_upd {R:Nat→List Sum} {w:Nat} {l:List Sum}:∀ {n:Nat},w<n→(headsR (upd R w l) n).Perm (if l=[] then headsR (upd R w []) n else ⟨l,w⟩ :: headsR (upd R w []) n)
  | 0,h=>by omega
  | n+1,h=>by
    by_cases e:n=w
    · subst e
      rw [headsR,headsR]
      have e1:headsR (upd R n l) n=headsR (upd R n []) n:=hs_congr fun k hk=>by rw [upd,upd,if_neg (by omega),if_neg (by omega)]
      simp only [upd,if_true,e1]
      split
      · exact .refl _
      · rw [←e1]
    · have ih:=hs_upd (R:=R) (l:=l) (n:=n) (w:=w) (by omega)
      rw [headsR,headsR]
      have e1:upd R w l n=R n:=by rw [upd,if_neg e]
      have e2:upd R w [] n=R n:=by rw [upd,if_neg e]
      rw [e1,e2]
      split
      · exact ih
      · split at ih
        · rename_i e3; rw [if_pos e3]; exact ih.cons _
        · rename_i e3; rw [if_neg e3]; exact (ih.cons _).trans (List.Perm.swap _ _ _)
theorem upd_same (R:Nat→List Sum) (w:Nat):upd R w (R w)=R:=by funext k; unfold upd; split <;> simp_all
def sumR (R:Nat→List Sum):Nat→Nat
  | 0=>0
  | n+1=>sumR R n+(R n).length
theorem sumR_upd {R:Nat→List Sum} {w:Nat} {s:Sum} {t:List Sum} (h:R w=s :: t):∀ {n:Nat},w<n→sumR R n=sumR (upd R w t) n+1
  | 0,h'=>by omega
  | n+1,h'=>by
    rw [sumR,sumR]
    by_cases e:n=w
    · subst e
      have e1:∀ k,k≤n→sumR (upd R n t) k=sumR R k:=by
        intro k
        induction k with
        | zero=>intro _; rfl
        | succ k ih=>intro hk; rw [sumR,sumR,ih (by omega),upd,if_neg (by omega)]
      rw [e1 n (by omega),upd,if_pos rfl,h]; simp; omega
    · rw [sumR_upd h (n:=n) (by omega),upd,if_neg e]; omega
end Go.Proofs.YtpackolbhcmomaaGreat
