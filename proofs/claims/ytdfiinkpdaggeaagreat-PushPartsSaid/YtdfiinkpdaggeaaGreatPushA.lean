/- Heaps of lists by their first places. -/
import Derived.Test.YtdfiinkpdaggeaaGreatDcscE
namespace Go.Proofs.YtdfiinkpdaggeaaGreat
open Go Go.Fw
set_option linter.unusedVariables false
set_option linter.unusedSimpArgs false
def hkey (h : Push_head) : Key := ((h.l.head?.map (·.At)).getD 0, h.which)
def gH (H : List Push_head) (i : Nat) : Push_head := H.getD i default
theorem gH_get {H : List Push_head} {i : Nat} (h : i < H.length) : H[i]? = some (gH H i) := by simp [gH, List.getD_eq_getElem?_getD, h]
theorem gH_mem {H : List Push_head} {i : Nat} (h : i < H.length) : gH H i ∈ H := List.mem_of_getElem? (gH_get h)
def hKey (H : List Push_head) (i : Nat) : Key := hkey (gH H i)
def full (H : List Push_head) : Prop := ∀ h ∈ H, h.l ≠ []
theorem full_perm {H H' : List Push_head} (h : full H) (hp : H'.Perm H) : full H' := fun x hx => h x (hp.mem_iff.1 hx)
theorem hless_ok {H : List Push_head} {i k : Nat} {Q : Bool → Prop} (hf : full H) (hi : i < H.length) (hk : k < H.length) (hQ : Q (decide (ltK (hKey H i) (hKey H k)))) : push_heads_Less_706 H i k Q := by
  unfold push_heads_Less_706
  obtain ⟨s, t, e1⟩ : ∃ s t, (gH H i).l = s :: t := List.exists_cons_of_ne_nil (hf _ (gH_mem hi))
  obtain ⟨s', t', e2⟩ : ∃ s t, (gH H k).l = s :: t := List.exists_cons_of_ne_nil (hf _ (gH_mem hk))
  have k1 : hKey H i = (s.At, (gH H i).which) := by simp [hKey, hkey, e1]
  have k2 : hKey H k = (s'.At, (gH H k).which) := by simp [hKey, hkey, e2]
  refine idxP_intro (x := gH H i) (by omega) (gH_get hi) (idxP_intro (by omega) (x := s) (by rw [e1]; rfl) (idxP_intro (x := gH H k) (by omega) (gH_get hk) (idxP_intro (by omega) (x := s') (by rw [e2]; rfl) (idxP_intro (x := gH H i) (by omega) (gH_get hi) (idxP_intro (x := gH H k) (by omega) (gH_get hk) ?_)))))
  refine cmp_int_ok (cmp_int_ok (or_ok ?_))
  rw [k1, k2] at hQ
  have : (or2 (cmpc s.At s'.At) (cmpc (gH H i).which (gH H k).which) < 0) ↔ ltK (s.At, (gH H i).which) (s'.At, (gH H k).which) := by
    unfold or2 cmpc ltK; simp only; split <;> split <;> (try split) <;> (try split) <;> omega
  simpa only [this] using hQ
def swp (H : List Push_head) (i k : Nat) : List Push_head := (H.set i (gH H k)).set k (gH H i)
theorem swp_len (H : List Push_head) (i k : Nat) : (swp H i k).length = H.length := by simp [swp]
theorem swp_get {H : List Push_head} {i k : Nat} (hi : i < H.length) (hk : k < H.length) (j : Nat) : gH (swp H i k) j = if j = k then gH H i else if j = i then gH H k else gH H j := by
  unfold swp gH
  simp only [List.getD_eq_getElem?_getD]
  by_cases e1 : j = k
  · subst e1; rw [if_pos rfl, List.getElem?_set_self (by simpa using hk)]; simp
  · rw [if_neg e1, List.getElem?_set_ne (Ne.symm e1)]
    by_cases e2 : j = i
    · subst e2; rw [if_pos rfl, List.getElem?_set_self hi]; simp
    · rw [if_neg e2, List.getElem?_set_ne (Ne.symm e2)]
theorem swp_key {H : List Push_head} {i k : Nat} (hi : i < H.length) (hk : k < H.length) (j : Nat) : hKey (swp H i k) j = if j = k then hKey H i else if j = i then hKey H k else hKey H j := by
  unfold hKey; rw [swp_get hi hk]; split
  · rfl
  · split <;> rfl
theorem set_perm {α : Type} : ∀ (l : List α) (i : Nat) (h : i < l.length) (y : α), (l[i] :: l.set i y).Perm (y :: l)
  | a :: l, 0, _, y => by simpa using List.Perm.swap y a l
  | a :: l, i + 1, h, y => by
    have := set_perm l i (by simpa using h) y
    simp only [List.getElem_cons_succ, List.set_cons_succ]
    exact (List.Perm.swap _ _ _).trans ((this.cons a).trans (List.Perm.swap _ _ _))
theorem swp_perm {H : List Push_head} {i k : Nat} (hi : i < H.length) (hk : k < H.length) : (swp H i k).Perm H := by
  have e1 : H[i] = gH H i := by have := gH_get hi; rw [List.getElem?_eq_getElem hi] at this; exact Option.some.inj this
  have e2 : H[k] = gH H k := by have := gH_get hk; rw [List.getElem?_eq_getElem hk] at this; exact Option.some.inj this
  have h1 := set_perm H i hi (gH H k)
  have h2 := set_perm (H.set i (gH H k)) k (by simpa using hk) (gH H i)
  have e3 : (H.set i (gH H k))[k]'(by simpa using hk) = gH H k := by
    rw [List.getElem_set]; split
    · rfl
    · exact e2
  rw [e3] at h2; rw [e1] at h1
  exact List.Perm.cons_inv (h2.trans h1)
theorem swap_ok {H : List Push_head} {i k : Nat} {Q : List Push_head → Prop} (hi : i < H.length) (hk : k < H.length) (hQ : Q (swp H i k)) : push_heads_Swap_c73 H i k Q := by
  unfold push_heads_Swap_c73
  refine idxP_intro (x := gH H k) (by omega) (gH_get hk) (idxP_intro (x := gH H i) (by omega) (gH_get hi) (idxP_intro (x := gH H i) (by omega) (gH_get hi) ?_))
  refine idxP_intro (x := (H.set i (gH H k))[k]'(by simpa using hk)) (by omega) (by simp only [Int.toNat_natCast]; exact List.getElem?_eq_getElem (by simpa using hk)) ?_
  simp only [Int.toNat_natCast]
  exact hQ
/-- the first n are a heap -/
def Heap (H : List Push_head) (n : Nat) : Prop := ∀ j, 0 < j → j < n → ¬ ltK (hKey H j) (hKey H ((j - 1) / 2))
theorem heap_root {H : List Push_head} {n : Nat} (h : Heap H n) : ∀ j, j < n → ¬ ltK (hKey H j) (hKey H 0) := by
  intro j
  induction j using Nat.strongRecOn with
  | _ j ih =>
    intro hj
    rcases Nat.eq_zero_or_pos j with e | hp
    · subst e; exact ltK_irrefl _
    · have h1 := h j hp hj
      have h2 := ih ((j - 1) / 2) (by omega) (by omega)
      unfold ltK at *; omega
theorem up_ok {o : Push_merger} {j : Nat} {Q : Push_merger → Prop} (hl : o.heads.length ≤ 1000000000000) (hf : full o.heads) (hj : j < o.heads.length)
    (h1 : ∀ c, 0 < c → c < o.heads.length → c ≠ j → ¬ ltK (hKey o.heads c) (hKey o.heads ((c - 1) / 2))) (h2 : ∀ c, 0 < c → c < o.heads.length → (c - 1) / 2 = j → 0 < j → ¬ ltK (hKey o.heads c) (hKey o.heads ((j - 1) / 2)))
    (hQ : ∀ H, H.Perm o.heads → Heap H H.length → Q ⟨H, o.r, o.out⟩) : container_heap_up_248 o j Q := by
  unfold container_heap_up_248
  refine loop_intro (fun s : List Push_head × Int => ∃ j : Nat, s.2 = j ∧ s.1.Perm o.heads ∧ j < s.1.length ∧ (∀ c, 0 < c → c < s.1.length → c ≠ j → ¬ ltK (hKey s.1 c) (hKey s.1 ((c - 1) / 2))) ∧ (∀ c, 0 < c → c < s.1.length → (c - 1) / 2 = j → 0 < j → ¬ ltK (hKey s.1 c) (hKey s.1 ((j - 1) / 2)))) (fun s => s.2.toNat)
    ⟨j, rfl, .refl _, hj, h1, h2⟩ ?_
  rintro ⟨H, jj⟩ next ⟨j, e, hp, hj, g1, g2⟩ hn
  simp only at e hp hj g1 g2 ⊢
  subst e
  have hlen := hp.length_eq
  have ei : w64 ((w64 ((j : Int) - 1)).tdiv 2) = ((if j = 0 then 0 else (j - 1) / 2 : Nat) : Int) := by
    rw [w64_id (x := (j : Int) - 1) (by omega) (by omega)]
    split
    · rename_i e; subst e; decide
    · rw [Int.tdiv_eq_ediv_of_nonneg (by omega), w64_id (by omega) (by omega)]; omega
  rw [ei]
  refine ifP_eq (fun e => ?_) (fun e => ?_)
  · refine hQ H hp fun c hc hcl => g1 c hc hcl ?_
    split at e <;> omega
  · have hj0 : 0 < j := by
      rcases Nat.eq_zero_or_pos j with z | z
      · subst z; simp at e
      · exact z
    simp only [show j ≠ 0 by omega, if_false]
    have hf' := full_perm hf hp
    refine hless_ok hf' hj (by omega) (ifP_not (fun hlt => ?_) (fun hlt => ?_))
    · refine hQ H hp fun c hc hcl => ?_
      by_cases ec : c = j
      · subst ec; exact of_decide_eq_false hlt
      · exact g1 c hc hcl ec
    · have hlt := of_decide_eq_true hlt
      refine swap_ok (by omega) hj (hn _ ⟨(j - 1) / 2, rfl, (swp_perm (by omega) hj).trans hp, by rw [swp_len]; omega, ?_, ?_⟩ (by simp only [Int.toNat_natCast]; omega))
      · intro c hc hcl hne
        rw [swp_len] at hcl
        rw [swp_key (by omega) hj, swp_key (by omega) hj]
        by_cases e1 : c = j
        · subst e1
          rw [if_pos rfl, if_neg (by omega), if_pos rfl]
          unfold ltK at *; omega
        · rw [if_neg e1, if_neg hne]
          by_cases e2 : (c - 1) / 2 = j
          · rw [if_pos e2]
            exact g2 c hc hcl e2 hj0
          · rw [if_neg e2]
            by_cases e3 : (c - 1) / 2 = (j - 1) / 2
            · rw [if_pos e3]
              have := g1 c hc hcl e1
              rw [e3] at this
              unfold ltK at *; omega
            · rw [if_neg e3]; exact g1 c hc hcl e1
      · intro c hc hcl he hi0
        rw [swp_len] at hcl
        rw [swp_key (by omega) hj, swp_key (by omega) hj]
        have hpar := g1 ((j - 1) / 2) hi0 (by omega) (by omega)
        rw [if_neg (show ((j - 1) / 2 - 1) / 2 ≠ j by omega), if_neg (show ((j - 1) / 2 - 1) / 2 ≠ (j - 1) / 2 by omega)]
        by_cases e1 : c = j
        · subst e1; rw [if_pos rfl]; exact hpar
        · rw [if_neg e1, if_neg (by omega)]
          have := g1 c hc hcl e1
          rw [he] at this
          unfold ltK at *; omega
theorem put_ok {o : Push_merger} {l : List Sum} {w : Int} {Q : Push_merger → Prop} (hl : o.heads.length ≤ 1000000000) (hf : full o.heads) (hh : Heap o.heads o.heads.length)
    (hQ : ∀ H, H.Perm (if l = [] then o.heads else ⟨l, w⟩ :: o.heads) → Heap H H.length → Q ⟨H, o.r, o.out⟩) : push_merger_put_46e o l w Q := by
  unfold push_merger_put_46e container_heap_Push_f07 push_heads_Push_5fa push_heads_Len_66a
  refine ifP_dec (fun h => ?_) (fun h => ?_)
  · have hne : l ≠ [] := by intro e; subst e; simp at h
    rw [if_neg hne] at hQ
    refine appP_intro (by simp; omega) ?_
    show container_heap_up_248 ⟨o.heads ++ [⟨l, w⟩], o.r, o.out⟩ (w64 (((o.heads ++ [(⟨l, w⟩ : Push_head)]).length : Int) - 1)) _
    have hlen : (o.heads ++ [(⟨l, w⟩ : Push_head)]).length = o.heads.length + 1 := by simp
    have el : w64 (((o.heads ++ [(⟨l, w⟩ : Push_head)]).length : Int) - 1) = (o.heads.length : Int) := by rw [hlen, w64_id (x := ((o.heads.length + 1 : Nat) : Int) - 1) (by omega) (by omega)]; omega
    rw [el]
    have hk : ∀ c, c < o.heads.length → hKey (o.heads ++ [(⟨l, w⟩ : Push_head)]) c = hKey o.heads c := by
      intro c hc; simp [hKey, gH, List.getD_eq_getElem?_getD, List.getElem?_append_left hc]
    refine up_ok (o := ⟨o.heads ++ [⟨l, w⟩], o.r, o.out⟩) (j := o.heads.length) (by simp only [hlen]; omega) ?_ (by simp only [hlen]; omega) ?_ ?_ ?_
    · intro x hx
      rcases List.mem_append.1 hx with h' | h'
      · exact hf x h'
      · simp only [List.mem_singleton] at h'; subst h'; exact hne
    · intro c hc hcl hne'
      simp only [hlen] at hcl hne' ⊢
      rw [hk c (by omega), hk _ (by omega)]
      exact hh c hc (by omega)
    · intro c hc hcl he hp
      simp only [hlen] at hcl
      omega
    · intro H hp hH
      exact hQ H (hp.trans List.perm_append_comm) hH
  · have : l = [] := by
      cases l with
      | nil => rfl
      | cons a b => simp at h
    subst this
    rw [if_pos rfl] at hQ
    exact hQ o.heads (.refl _) hh
theorem down_ok {o : Push_merger} {n : Nat} {Q : Bool × Push_merger → Prop} (hl : o.heads.length ≤ 1000000000000) (hf : full o.heads) (hn : n ≤ o.heads.length)
    (h1 : ∀ c, 0 < c → c < n → (c - 1) / 2 ≠ 0 → ¬ ltK (hKey o.heads c) (hKey o.heads ((c - 1) / 2)))
    (hQ : ∀ b H, H.Perm o.heads → Heap H n → (∀ j, n ≤ j → gH H j = gH o.heads j) → Q (b, ⟨H, o.r, o.out⟩)) : container_heap_down_206 o 0 n Q := by
  unfold container_heap_down_206
  refine loop_intro (fun s : List Push_head × Int => ∃ j : Nat, s.2 = j ∧ s.1.Perm o.heads ∧ (∀ j, n ≤ j → gH s.1 j = gH o.heads j) ∧ (j < n ∨ j = 0) ∧ (∀ c, 0 < c → c < n → (c - 1) / 2 ≠ j → ¬ ltK (hKey s.1 c) (hKey s.1 ((c - 1) / 2))) ∧ (∀ c, 0 < c → c < n → (c - 1) / 2 = j → 0 < j → ¬ ltK (hKey s.1 c) (hKey s.1 ((j - 1) / 2)))) (fun s => n - s.2.toNat)
    ⟨0, rfl, .refl _, fun _ _ => rfl, .inr rfl, h1, fun c _ _ _ h => absurd h (by omega)⟩ ?_
  rintro ⟨H, jj⟩ next ⟨i, e, hp, hr, hi, g1, g2⟩ hn'
  simp only at e hp hi hr g1 g2 ⊢
  subst e
  have hlen := hp.length_eq
  have e1 : w64 (w64 (2 * (i : Int)) + 1) = ((2 * i + 1 : Nat) : Int) := by rw [w64_id (x := 2 * (i : Int)) (by omega) (by omega), w64_id (by omega) (by omega)]; omega
  have e2 : w64 (((2 * i + 1 : Nat) : Int) + 1) = ((2 * i + 2 : Nat) : Int) := by rw [w64_id (by omega) (by omega)]; omega
  simp only [e1, e2]
  refine ifP_dec (fun h => ?_) (fun h => ifP_dec (fun h' => by omega) (fun _ => ?_))
  · exact hQ _ H hp (fun c hc hcl => g1 c hc hcl (by omega)) hr
  · have hf' := full_perm hf hp
    refine join_intro (fun t : Int => ∃ j : Nat, t = j ∧ j < n ∧ (j - 1) / 2 = i ∧ 0 < j ∧ ∀ c, 0 < c → c < n → (c - 1) / 2 = i → ¬ ltK (hKey H c) (hKey H j)) ?_ ?_
    · rintro t ⟨j, rfl, hjn, hji, hj0, hmin⟩
      refine hless_ok hf' (by omega) (by omega) (ifP_not (fun hlt => ?_) (fun hlt => ?_))
      · refine hQ _ H hp (fun c hc hcl => ?_) hr
        by_cases ec : (c - 1) / 2 = i
        · have q1 := hmin c hc hcl ec
          have q2 := of_decide_eq_false hlt
          rw [ec]
          unfold ltK at *; omega
        · exact g1 c hc hcl ec
      · have hlt := of_decide_eq_true hlt
        refine swap_ok (by omega) (by omega) (hn' _ ⟨j, rfl, (swp_perm (by omega) (by omega)).trans hp, ?_, .inl hjn, ?_, ?_⟩ (by simp only [Int.toNat_natCast]; omega))
        · intro q hq
          rw [swp_get (by omega) (by omega), if_neg (by omega), if_neg (by omega)]
          exact hr q hq
        · intro c hc hcl hne
          rw [swp_key (by omega) (by omega), swp_key (by omega) (by omega)]
          by_cases ec : c = j
          · subst ec
            rw [if_pos rfl, if_neg (by omega), if_pos hji]
            unfold ltK at *; omega
          · rw [if_neg ec]
            by_cases ei : c = i
            · subst ei
              rw [if_pos rfl, if_neg hne, if_neg (by omega)]
              exact g2 j hj0 hjn hji hc
            · rw [if_neg ei, if_neg hne]
              by_cases ep : (c - 1) / 2 = i
              · rw [if_pos ep]; exact hmin c hc hcl ep
              · rw [if_neg ep]; exact g1 c hc hcl ep
        · intro c hc hcl he _
          rw [swp_key (by omega) (by omega), swp_key (by omega) (by omega), if_neg (by omega), if_neg (by omega), if_neg (by omega), if_pos hji]
          have := g1 c hc hcl (by omega)
          rwa [he] at this
    · intro k' hk'
      refine ifP_dec (fun h2 => hless_ok hf' (by omega) (by omega) ⟨fun hlt => ?_, fun hlt => ?_⟩) (fun h2 => ?_)
      · refine hk' _ ⟨2 * i + 2, rfl, by omega, by omega, by omega, fun c hc hcl he => ?_⟩
        have hlt := of_decide_eq_true hlt
        rcases (show c = 2 * i + 1 ∨ c = 2 * i + 2 by omega) with e | e
        · subst e; unfold ltK at *; omega
        · subst e; exact ltK_irrefl _
      · refine hk' _ ⟨2 * i + 1, rfl, by omega, by omega, by omega, fun c hc hcl he => ?_⟩
        have hlt := of_decide_eq_false hlt
        rcases (show c = 2 * i + 1 ∨ c = 2 * i + 2 by omega) with e | e
        · subst e; exact ltK_irrefl _
        · subst e; exact hlt
      · refine hk' _ ⟨2 * i + 1, rfl, by omega, by omega, by omega, fun c hc hcl he => ?_⟩
        rcases (show c = 2 * i + 1 ∨ c = 2 * i + 2 by omega) with e | e
        · subst e; exact ltK_irrefl _
        · omega
/-- the least one is taken away -/
theorem pop_ok {o : Push_merger} {Q : Push_head × Push_merger → Prop} (hl : o.heads.length ≤ 1000000000) (hf : full o.heads) (hh : Heap o.heads o.heads.length) (h0 : o.heads ≠ [])
    (hQ : ∀ x H, (gH o.heads 0 :: H).Perm o.heads → Heap H H.length → Q (x, ⟨H, o.r, o.out⟩)) : container_heap_Pop_4c3 o Q := by
  unfold container_heap_Pop_4c3 push_heads_Len_66a
  have hlen : 0 < o.heads.length := List.length_pos_iff.2 h0
  have e : w64 ((o.heads.length : Int) - 1) = ((o.heads.length - 1 : Nat) : Int) := by rw [w64_id (by omega) (by omega)]; omega
  simp only [e]
  have hs0 : 0 < o.heads.length := hlen
  refine swap_ok (i := 0) hlen (by omega) ?_
  have hp0 := swp_perm (H := o.heads) (i := 0) (k := o.heads.length - 1) hlen (by omega)
  refine down_ok (o := ⟨swp o.heads 0 (o.heads.length - 1), o.r, o.out⟩) (n := o.heads.length - 1) (by simp only [swp_len]; omega) (full_perm hf hp0) (by simp only [swp_len]; omega) ?_ ?_
  · intro c hc hcl hne
    simp only
    rw [swp_key hlen (by omega), swp_key hlen (by omega), if_neg (by omega), if_neg (by omega), if_neg (by omega), if_neg hne]
    exact hh c hc (by omega)
  · intro b H hp hH hr
    simp only at hp hr
    have hlH : H.length = o.heads.length := hp.length_eq.trans (swp_len _ _ _)
    unfold push_heads_Pop_df2
    have e' : w64 ((H.length : Int) - 1) = ((o.heads.length - 1 : Nat) : Int) := by rw [hlH]; exact e
    simp only [e']
    refine idxP_intro (by omega) (gH_get (by simp only [Int.toNat_natCast]; omega)) ⟨by omega, by omega, by omega, ?_⟩
    simp only [Int.toNat_natCast]
    refine hQ _ _ ?_ ?_
    · have hlast := hr (o.heads.length - 1) (by omega)
      rw [swp_get hlen (by omega), if_pos rfl] at hlast
      rw [← hlast]
      have h3 : H = H.take (o.heads.length - 1) ++ [gH H (o.heads.length - 1)] := by
        have h4 : H[o.heads.length - 1]'(by omega) = gH H (o.heads.length - 1) := by have := gH_get (H := H) (i := o.heads.length - 1) (by omega); rw [List.getElem?_eq_getElem (by omega)] at this; exact Option.some.inj this
        rw [← h4, List.take_append_getElem (by omega), List.take_of_length_le (by omega)]
      exact (List.perm_append_comm (l₁ := [gH H (o.heads.length - 1)])).trans ((h3 ▸ .refl _ : (H.take (o.heads.length - 1) ++ [gH H (o.heads.length - 1)]).Perm H).trans (hp.trans hp0))
    · intro j hj hjl
      rw [List.length_take] at hjl
      have hk : ∀ c, c < o.heads.length - 1 → hKey (H.take (o.heads.length - 1)) c = hKey H c := by
        intro c hc; simp [hKey, gH, List.getD_eq_getElem?_getD, List.getElem?_take, hc]
      rw [hk j (by omega), hk _ (by omega)]
      exact hH j hj (by omega)
end Go.Proofs.YtdfiinkpdaggeaaGreat
