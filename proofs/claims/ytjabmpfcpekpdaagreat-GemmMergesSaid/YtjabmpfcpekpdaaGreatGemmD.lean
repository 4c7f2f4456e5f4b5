import Derived.Test.YtjabmpfcpekpdaaGreatStabA
/- Two sorted parts merged in place, and the whole sort. -/
namespace Go.Proofs.YtjabmpfcpekpdaaGreat
open Go Go.Fw
set_option linter.unusedVariables false
set_option linter.unusedSimpArgs false
/-- what a merge in place hands on -/
def Merges (rc : List Cell → Int → Int → Int → (List Cell → Prop) → Prop) (N : Nat) : Prop := ∀ {s : List Cell} {a m b : Nat} {Q : List Cell → Prop}, a < m → m < b → b ≤ s.length → s.length ≤ 1000000000 → b - a ≤ N → SoC s a m → SoC s m b →
  (∀ t, SpC a b s t → SoC t a b → Q t) → rc s a m b Q
theorem rot_none {s : List Cell} {a m b x : Nat} (h : ¬ a < m ∨ ¬ m < b) (h1 : a ≤ m) (h2 : m ≤ b) : rotv s a m b x = gC s x := by
  unfold rotv
  repeat' split
  all_goals first | with_reducible rfl | (exfalso; omega) | (congr 1; omega)
theorem rot_sp {s t : List Cell} {a m b : Nat} (h1 : a ≤ m) (h2 : m ≤ b) (hl : t.length = s.length) (hp : t.Perm s) (hr : ∀ x, gC t x = rotv s a m b x) : SpC a b s t :=
  ⟨hl, hp, fun i hi => by rw [hr]; unfold rotv; rw [if_neg (by omega), if_neg (by omega)], fun i g1 g2 => by
    rw [hr]; unfold rotv
    by_cases c : a ≤ i ∧ i < a + (b - m)
    · rw [if_pos c]; exact ⟨_, by omega, by omega, rfl⟩
    · rw [if_neg c, if_pos (by omega)]; exact ⟨_, by omega, by omega, rfl⟩⟩
theorem sym_one {s : List Cell} {a b : Nat} {Q : List Cell → Prop} (h2 : a + 1 < b) (hb : b ≤ s.length) (hl : s.length ≤ 1000000000) (hs : SoC s (a + 1) b) (hQ : ∀ t, SpC a b s t → SoC t a b → Q t)
    {rc : List Cell → Int → Int → Int → (List Cell → Prop) → Prop} : slices_symMergeCmpFunc_api_Cell_404_body rc s a ((a + 1 : Nat) : Int) b Q := by
  unfold slices_symMergeCmpFunc_api_Cell_404_body
  rw [sub_w (i := a + 1) (k := a) (by omega) (by omega)]
  refine ifP_eq (fun _ => ?_) (fun h => by omega)
  refine bsearch (T := fun c => ltC (gC s c) (gC s a)) (by omega) (fun i j next g1 g2 g3 ht hf => ?_) (fun i next g1 g2 ht hf => ?_)
  · dsimp only
    rw [mid_w (by omega) (by omega)]
    refine ifP_dec (fun _ => idxP_intro (x := gC s ((i + j) / 2)) (by omega) (gC_get (by omega)) (idxP_intro (x := gC s a) (by omega) (gC_get (by omega)) (cmpC (fun h => ?_) (fun h => hf h)))) (fun h => by omega)
    rw [succ_w (by omega)]; exact ht h
  · dsimp only
    refine ifP_dec (fun h => by omega) (fun _ => ?_)
    rw [pred_w (i := i) (by omega) (by omega)]
    refine range_intro (fun (t : List Cell) k => (t, k)) a (i - 1) (by omega) (fun k t => SpC a b s t ∧ ∀ x, gC t x = if a ≤ x ∧ x < k then gC s (x + 1) else if x = k then gC s a else gC s x) (by omega) ⟨.refl _ _ _, fun x => by
      rw [if_neg (by omega)]; split
      · rename_i e; rw [e]
      · rfl⟩ (fun k t nx k1 k2 hm hx => ?_) (fun t nx hm => ?_)
    · obtain ⟨m1, m2⟩ := hm
      have hlen := m1.len
      dsimp only
      refine ifP_dec (fun _ => ?_) (fun h => by omega)
      rw [succ_w (i := k) (by omega)]
      refine swapC_ok (s := t) (i := k) (k := k + 1) (K := fun l => nx (l, ((k + 1 : Nat) : Int))) (by omega) (by omega) ?_
      have := hx (swC t k (k + 1)) ⟨m1.trans (SpC.swap (s := t) (i := k) (k := k + 1) (by omega) (by omega) (by omega)), fun x => ?_⟩
      · rw [succ_w (i := k) (by omega)] at this; exact this
      · rw [swC_get (by omega) (by omega), m2, m2, m2]
        repeat' split
        all_goals first | with_reducible rfl | (exfalso; omega) | (congr 1; omega)
    · obtain ⟨m1, m2⟩ := hm
      dsimp only
      refine ifP_dec (fun h => by omega) (fun _ => hQ t m1 fun p q p1 p2 p3 => ?_)
      rw [m2, m2]
      have low : ∀ x, a + 1 ≤ x → x < i → leC (gC s x) (gC s a) := fun x x1 x2 => by
        have h1 := ltC_le (ht (by omega))
        by_cases e : x = i - 1
        · subst e; exact h1
        · exact leC_trans (hs x (i - 1) x1 (by omega) (by omega)) h1
      have high : ∀ x, i ≤ x → x < b → leC (gC s a) (gC s x) := fun x x1 x2 => by
        have h1 : leC (gC s a) (gC s i) := hf (by omega)
        by_cases e : x = i
        · subst e; exact h1
        · exact leC_trans h1 (hs i x (by omega) (by omega) x2)
      by_cases c1 : p < i - 1
      · rw [if_pos ⟨p1, c1⟩]
        by_cases c2 : q < i - 1
        · rw [if_pos ⟨by omega, c2⟩]; exact hs _ _ (by omega) (by omega) (by omega)
        · rw [if_neg (by omega)]
          by_cases c3 : q = i - 1
          · rw [if_pos c3]; exact low _ (by omega) (by omega)
          · rw [if_neg c3]; exact hs _ _ (by omega) (by omega) p3
      · rw [if_neg (by omega)]
        rw [if_neg (c := a ≤ q ∧ q < i - 1) (by omega), if_neg (c := q = i - 1) (by omega)]
        by_cases c3 : p = i - 1
        · rw [if_pos c3]; exact high _ (by omega) p3
        · rw [if_neg c3]; exact hs _ _ (by omega) p2 p3
theorem sym_last {s : List Cell} {a m : Nat} {Q : List Cell → Prop} (h1 : a + 1 < m) (hb : m + 1 ≤ s.length) (hl : s.length ≤ 1000000000) (hs : SoC s a m) (hQ : ∀ t, SpC a (m + 1) s t → SoC t a (m + 1) → Q t)
    {rc : List Cell → Int → Int → Int → (List Cell → Prop) → Prop} : slices_symMergeCmpFunc_api_Cell_404_body rc s a m ((m + 1 : Nat) : Int) Q := by
  unfold slices_symMergeCmpFunc_api_Cell_404_body
  rw [sub_w (i := m) (k := a) (by omega) (by omega), sub_w (i := m + 1) (k := m) (by omega) (by omega)]
  refine ifP_eq (fun h => by omega) (fun _ => ifP_eq (fun _ => ?_) (fun h => by omega))
  refine bsearch (T := fun c => ¬ ltC (gC s m) (gC s c)) (by omega) (fun i j next g1 g2 g3 ht hf => ?_) (fun i next g1 g2 ht hf => ?_)
  · dsimp only
    rw [mid_w (by omega) (by omega)]
    refine ifP_dec (fun _ => idxP_intro (x := gC s m) (by omega) (gC_get (by omega)) (idxP_intro (x := gC s ((i + j) / 2)) (by omega) (gC_get (by omega)) (cmpC_not (fun h => ?_) (fun h => hf fun h' => h' h)))) (fun h => by omega)
    rw [succ_w (by omega)]; exact ht h
  · dsimp only
    refine ifP_dec (fun h => by omega) (fun _ => ?_)
    refine loop_intro (fun st : List Cell × Int => ∃ k : Nat, st.2 = k ∧ i ≤ k ∧ k ≤ m ∧ SpC a (m + 1) s st.1 ∧ ∀ x, gC st.1 x = if x = k then gC s m else if k < x ∧ x ≤ m then gC s (x - 1) else gC s x) (fun st => st.2.toNat) ⟨m, rfl, g2, Nat.le_refl _, .refl _ _ _, fun x => by
      dsimp only
      by_cases e : x = m
      · rw [if_pos e, e]
      · rw [if_neg e, if_neg (by omega)]⟩ ?_
    rintro ⟨t, _⟩ nx ⟨k, rfl, k1, k2, m1, m2⟩ hx
    dsimp only at m1 m2 ⊢
    have hlen := m1.len
    refine ifP_dec (fun hik => ?_) (fun hik => hQ t m1 fun p q p1 p2 p3 => ?_)
    · rw [pred_w (i := k) (by omega) (by omega)]
      refine swapC_ok (s := t) (i := k) (k := k - 1) (K := fun l => nx (l, ((k - 1 : Nat) : Int))) (by omega) (by omega) ?_
      refine hx (swC t k (k - 1), ((k - 1 : Nat) : Int)) ⟨k - 1, rfl, by omega, by omega, m1.trans (SpC.swap (s := t) (i := k) (k := k - 1) (by omega) (by omega) (by omega)), fun x => ?_⟩ (by dsimp only; omega)
      dsimp only
      rw [swC_get (by omega) (by omega), m2, m2, m2]
      repeat' split
      all_goals first | with_reducible rfl | (exfalso; omega) | (congr 1; omega)
    · have hki : k = i := by omega
      subst hki
      rw [m2, m2]
      have low : ∀ x, a ≤ x → x < k → leC (gC s x) (gC s m) := fun x x1 x2 => by
        have h1 : leC (gC s (k - 1)) (gC s m) := ht (by omega)
        by_cases e : x = k - 1
        · subst e; exact h1
        · exact leC_trans (hs x (k - 1) x1 (by omega) (by omega)) h1
      have high : ∀ x, k ≤ x → x < m → leC (gC s m) (gC s x) := fun x x1 x2 => by
        have h1 : leC (gC s m) (gC s k) := ltC_le (Classical.not_not.1 (hf (by omega)))
        by_cases e : x = k
        · subst e; exact h1
        · exact leC_trans h1 (hs k x (by omega) (by omega) x2)
      by_cases c1 : p = k
      · rw [if_pos c1, if_neg (by omega), if_pos (by omega)]
        exact high _ (by omega) (by omega)
      · rw [if_neg c1]
        by_cases c2 : k < p
        · rw [if_pos (by omega), if_neg (by omega), if_pos (by omega)]
          exact hs _ _ (by omega) (by omega) (by omega)
        · rw [if_neg (by omega)]
          by_cases c3 : q = k
          · rw [if_pos c3]; exact low _ p1 (by omega)
          · rw [if_neg c3]
            by_cases c4 : k < q
            · rw [if_pos (by omega)]; exact hs _ _ p1 (by omega) (by omega)
            · rw [if_neg (by omega)]; exact hs _ _ p1 p2 (by omega)
theorem sym_body {rc : List Cell → Int → Int → Int → (List Cell → Prop) → Prop} {N : Nat} (ih : Merges rc N) : Merges (slices_symMergeCmpFunc_api_Cell_404_body rc) (N + 1) := by
  intro s a m b Q h1 h2 hb hl hN hA hB hQ
  by_cases c1 : m = a + 1
  · subst c1; exact sym_one h2 hb hl hB hQ
  by_cases c2 : b = m + 1
  · subst c2; exact sym_last (by omega) hb hl hA hQ
  unfold slices_symMergeCmpFunc_api_Cell_404_body
  rw [sub_w (i := m) (k := a) (by omega) (by omega), sub_w (i := b) (k := m) (by omega) (by omega), mid_w (i := a) (j := b) (by omega) (by omega)]
  generalize hmid : (a + b) / 2 = mid
  rw [add_w (i := mid) (k := m) (by omega) (by omega), pred_w (i := mid + m) (by omega) (by omega)]
  refine ifP_eq (fun h => by omega) (fun _ => ifP_eq (fun h => by omega) (fun _ => ?_))
  refine join_intro (fun t : Int × Int => ∃ lo hi : Nat, t = ((lo : Int), (hi : Int)) ∧ a ≤ lo ∧ lo ≤ hi ∧ hi ≤ mid ∧ hi ≤ m ∧ (lo = a ∨ mid + m - lo = b) ∧ (hi = mid ∨ hi = m) ∧ mid + m - lo ≤ b) (fun t ht => ?_) fun k hk => ?_
  · obtain ⟨lo, hi, rfl, q1, q2, q3, q4, q5, q6, q7⟩ := ht
    dsimp only
    refine bsearch (T := fun c => ¬ ltC (gC s (mid + m - 1 - c)) (gC s c)) q2 (fun i j next g1 g2 g3 ht hf => ?_) (fun st next g1 g2 ht hf => ?_)
    · dsimp only
      rw [mid_w (by omega) (by omega), sub_w (i := mid + m - 1) (k := (i + j) / 2) (by omega) (by omega)]
      refine ifP_dec (fun _ => idxP_intro (x := gC s (mid + m - 1 - (i + j) / 2)) (by omega) (gC_get (by omega)) (idxP_intro (x := gC s ((i + j) / 2)) (by omega) (gC_get (by omega)) (cmpC_not (fun h => ?_) (fun h => hf fun h' => h' h)))) (fun h => by omega)
      rw [succ_w (by omega)]; exact ht h
    · dsimp only
      refine ifP_dec (fun h => by omega) (fun _ => ?_)
      rw [sub_w (i := mid + m) (k := st) (by omega) (by omega)]
      generalize hen : mid + m - st = en
      refine join_intro (fun t : List Cell => t.length = s.length ∧ t.Perm s ∧ ∀ x, gC t x = rotv s st m en x) (fun t ht' => ?_) fun k' hk' => ?_
      · obtain ⟨t1, t2, t3⟩ := ht'
        have hsp : SpC a b s t := (rot_sp (by omega) (by omega) t1 t2 t3).wide (by omega) (by omega)
        have v1 : ∀ x, x < st → gC t x = gC s x := fun x hx => by rw [t3]; unfold rotv; rw [if_neg (by omega), if_neg (by omega)]
        have v2 : ∀ x, st ≤ x → x < mid → gC t x = gC s (x + (m - st)) := fun x hx hx' => by rw [t3]; unfold rotv; rw [if_pos (by omega)]
        have v3 : ∀ x, mid ≤ x → x < en → gC t x = gC s (x - (mid - st)) := fun x hx hx' => by rw [t3]; unfold rotv; rw [if_neg (by omega), if_pos (by omega)]; congr 1; omega
        have v4 : ∀ x, en ≤ x → gC t x = gC s x := fun x hx => by rw [t3]; unfold rotv; rw [if_neg (by omega), if_neg (by omega)]
        have sA : SoC t a st := fun p q p1 p2 p3 => by rw [v1 p (by omega), v1 q p3]; exact hA p q p1 p2 (by omega)
        have sB : SoC t st mid := fun p q p1 p2 p3 => by rw [v2 p p1 (by omega), v2 q (by omega) p3]; exact hB _ _ (by omega) (by omega) (by omega)
        have sC : SoC t mid en := fun p q p1 p2 p3 => by rw [v3 p p1 (by omega), v3 q (by omega) p3]; exact hA _ _ (by omega) (by omega) (by omega)
        have sD : SoC t en b := fun p q p1 p2 p3 => by rw [v4 p p1, v4 q (by omega)]; exact hB p q (by omega) p2 p3
        have le_of : ∀ {lo' hi' : Nat}, SoC s lo' hi' → ∀ p q, lo' ≤ p → p ≤ q → q < hi' → leC (gC s p) (gC s q) := fun h p q p1 p2 p3 => by
          by_cases e : p = q
          · subst e; exact leC_refl _
          · exact h p q p1 (by omega) p3
        have cross : ∀ x y, a ≤ x → x < mid → mid ≤ y → y < b → leC (gC t x) (gC t y) := fun x y x1 x2 y1 y2 => by
          by_cases d1 : x < st
          · rw [v1 x d1]
            by_cases d2 : y < en
            · rw [v3 y y1 d2]; exact le_of hA _ _ x1 (by omega) (by omega)
            · rw [v4 y (by omega)]
              have hT := ht (by omega)
              have e : mid + m - 1 - (st - 1) = en := by omega
              rw [e] at hT
              exact leC_trans (le_of hA x (st - 1) x1 (by omega) (by omega)) (leC_trans hT (le_of hB en y (by omega) (by omega) y2))
          · rw [v2 x (by omega) x2]
            by_cases d2 : y < en
            · rw [v3 y y1 d2]
              have hT := ltC_le (Classical.not_not.1 (hf (by omega)))
              have e : mid + m - 1 - st = en - 1 := by omega
              rw [e] at hT
              exact leC_trans (le_of hB _ (en - 1) (by omega) (by omega) (by omega)) (leC_trans hT (le_of hA st _ (by omega) (by omega) (by omega)))
            · rw [v4 y (by omega)]; exact le_of hB _ _ (by omega) (by omega) y2
        refine join_intro (fun u : List Cell => SpC a mid t u ∧ SoC u a mid) (fun u hu => ?_) fun k'' hk'' => ?_
        · obtain ⟨u1, u2⟩ := hu
          have ul := u1.len
          have fin : ∀ w, SpC mid b u w → SoC w mid b → Q w := fun w w1 w2 => hQ w ((hsp.trans (u1.wide (Nat.le_refl _) (by omega))).trans (w1.wide (by omega) (Nat.le_refl _))) fun p q p1 p2 p3 => by
            by_cases d1 : q < mid
            · rw [w1.out p (.inl (by omega)), w1.out q (.inl d1)]; exact u2 p q p1 p2 d1
            · by_cases d2 : mid ≤ p
              · exact w2 p q d2 p2 p3
              · rw [w1.out p (.inl (by omega))]
                obtain ⟨p', z1, z2, e1⟩ := u1.mem p p1 (by omega)
                obtain ⟨q', z3, z4, e2⟩ := w1.mem q (by omega) p3
                rw [e1, e2, u1.out q' (.inr z3)]
                exact cross p' q' z1 z2 z3 z4
          have sC' : SoC u mid en := fun p q p1 p2 p3 => by rw [u1.out p (.inr p1), u1.out q (.inr (by omega))]; exact sC p q p1 p2 p3
          have sD' : SoC u en b := fun p q p1 p2 p3 => by rw [u1.out p (.inr (by omega)), u1.out q (.inr (by omega))]; exact sD p q p1 p2 p3
          refine ifP_dec (fun d1 => ifP_dec (fun d2 => ?_) (fun d2 => ?_)) (fun d1 => ?_)
          · exact ih (by omega) (by omega) (by omega) (by omega) (by omega) sC' sD' fin
          · exact fin u (.refl _ _ _) fun p q p1 p2 p3 => sC' p q p1 p2 (by omega)
          · exact fin u (.refl _ _ _) fun p q p1 p2 p3 => sD' p q (by omega) p2 p3
        · refine ifP_dec (fun d1 => ifP_dec (fun d2 => ?_) (fun d2 => ?_)) (fun d1 => ?_)
          · exact ih (by omega) (by omega) (by omega) (by omega) (by omega) sA sB fun u u1 u2 => hk'' u ⟨u1, u2⟩
          · exact hk'' t ⟨.refl _ _ _, fun p q p1 p2 p3 => sA p q p1 p2 (by omega)⟩
          · exact hk'' t ⟨.refl _ _ _, fun p q p1 p2 p3 => sB p q (by omega) p2 p3⟩
      · refine ifP_dec (fun d1 => ifP_dec (fun d2 => ?_) (fun d2 => ?_)) (fun d1 => ?_)
        · exact rotC_ok (by omega) (by omega) (by omega) hl fun t t1 t2 t3 => hk' t ⟨t1, t2, t3⟩
        · exact hk' s ⟨rfl, .refl _, fun x => (rot_none (.inr (by omega)) (by omega) (by omega)).symm⟩
        · exact hk' s ⟨rfl, .refl _, fun x => (rot_none (.inl (by omega)) (by omega) (by omega)).symm⟩
  · refine ifP_dec (fun d => ?_) (fun d => hk _ ⟨a, m, rfl, by omega, by omega, by omega, by omega, .inl rfl, .inr rfl, by omega⟩)
    rw [sub_w (i := mid + m) (k := b) (by omega) (by omega)]
    exact hk _ ⟨mid + m - b, mid, rfl, by omega, by omega, by omega, by omega, .inr (by omega), .inl rfl, by omega⟩
theorem sym_it : ∀ k : Nat, Merges (slices_symMergeCmpFunc_api_Cell_404_it k) k
  | 0 => fun h1 h2 _ _ hN => by omega
  | k + 1 => sym_body (sym_it k)
theorem sym_ok {s : List Cell} {a m b : Nat} {Q : List Cell → Prop} (h1 : a < m) (h2 : m < b) (hb : b ≤ s.length) (hl : s.length ≤ 1000000000) (hA : SoC s a m) (hB : SoC s m b) (hQ : ∀ t, SpC a b s t → SoC t a b → Q t) : slices_symMergeCmpFunc_api_Cell_404 s a m b Q :=
  ⟨b - a, sym_it (b - a) h1 h2 hb hl (Nat.le_refl _) hA hB hQ⟩
end Go.Proofs.YtjabmpfcpekpdaaGreat

/- The whole sort. -/
namespace Go.Proofs.YtjabmpfcpekpdaaGreat
open Go Go.Fw
set_option linter.unusedVariables false
set_option linter.unusedSimpArgs false
def BlkC (t : List Cell) (bs n d : Nat) : Prop := ∀ i j, d * bs ≤ i → i < j → j < d * bs + bs → j < n → leC (gC t i) (gC t j)
theorem BlkC.same {t u : List Cell} {bs n d : Nat} (h : BlkC t bs n d) (he : ∀ i, d * bs ≤ i → i < d * bs + bs → gC u i = gC t i) : BlkC u bs n d := fun i j h1 h2 h3 h4 => by rw [he i h1 (by omega), he j (by omega) h3]; exact h i j h1 h2 h3 h4
theorem stabC_ok {s : List Cell} {Q : List Cell → Prop} (hl : s.length ≤ 1000000000) (hQ : ∀ t, t.Perm s → SoC t 0 s.length → Q t) : slices_SortStableFunc_api_Cell_api_Cell_90a s Q := by
  unfold slices_SortStableFunc_api_Cell_api_Cell_90a slices_stableCmpFunc_api_Cell_076
  refine loop_intro (fun st : List Cell × Int × Int => ∃ c : Nat, st.2.1 = ((20 * c : Nat) : Int) ∧ st.2.2 = ((20 * c + 20 : Nat) : Int) ∧ 20 * c ≤ s.length ∧ SpC 0 s.length s st.1 ∧ ∀ d, d < c → SoC st.1 (20 * d) (20 * d + 20)) (fun st => s.length - st.2.1.toNat)
    ⟨0, rfl, rfl, by omega, .refl _ _ _, fun d h => by omega⟩ ?_
  rintro ⟨t, _, _⟩ next ⟨c, rfl, rfl, h1, h2, h3⟩ hn
  dsimp only at h2 h3 ⊢
  have hlt := h2.len
  refine ifP_dec (fun hb => ?_) (fun hb => ?_)
  · refine insC_ok (by omega) (by omega) (by omega) fun u u1 u2 => ?_
    rw [show (20 : Int) = ((20 : Nat) : Int) from rfl, add_w (by omega) (by omega)]
    refine hn _ ⟨c + 1, by dsimp only; congr 1, by dsimp only; congr 1, by omega, h2.trans (u1.wide (by omega) (by omega)), fun d hd => ?_⟩ (by dsimp only; omega)
    dsimp only
    by_cases e : d = c
    · subst e; exact u2
    · intro i j k1 k2 k3
      rw [u1.out i (.inl (by omega)), u1.out j (.inl (by omega))]
      exact h3 d (by omega) i j k1 k2 k3
  · refine insC_ok (by omega) (by omega) (by omega) fun u u1 u2 => ?_
    have h4 : ∀ d, BlkC u 20 s.length d := fun d i j k1 k2 k3 k4 => by
      by_cases e : d < c
      · rw [u1.out i (.inl (by omega)), u1.out j (.inl (by omega))]
        exact h3 d e i j (by omega) k2 (by omega)
      · exact u2 i j (by omega) k2 (by omega)
    have h5 := h2.trans (u1.wide (a' := 0) (b' := s.length) (by omega) (by omega))
    clear u1 u2 hn h3 h2 hb h1
    refine loop_intro (fun st : List Cell × Int => ∃ bs : Nat, st.2 = (bs : Int) ∧ 0 < bs ∧ SpC 0 s.length s st.1 ∧ ∀ d, BlkC st.1 bs s.length d) (fun st => s.length - st.2.toNat) ⟨20, rfl, by omega, h5, h4⟩ ?_
    clear h4 h5 u hlt t c
    rintro ⟨u, _⟩ next ⟨bs, rfl, b0, h2, h3⟩ hn
    dsimp only at h2 h3 ⊢
    refine ifP_dec (fun hb => ?_) (fun hb => hQ u h2.perm fun i j k1 k2 k3 => h3 0 i j (by omega) k2 (by omega) k3)
    have two : w64 (2 * (bs : Int)) = ((2 * bs : Nat) : Int) := by rw [w64_id (by omega) (by omega)]; omega
    have two' : w64 ((bs : Int) * 2) = ((2 * bs : Nat) : Int) := by rw [w64_id (by omega) (by omega)]; omega
    rw [two, two']
    have up : ∀ c : Nat, (2 * (c + 1)) * bs = (2 * c) * bs + 2 * bs := fun c => by rw [show 2 * (c + 1) = 2 * c + 2 by omega, Nat.add_mul]
    have up1 : ∀ c : Nat, (2 * c + 1) * bs = (2 * c) * bs + bs := fun c => by rw [Nat.add_mul, Nat.one_mul]
    have mono : ∀ {x y : Nat}, x ≤ y → x * bs ≤ y * bs := fun h => Nat.mul_le_mul_right bs h
    have ending : ∀ (w : List Cell) (c : Nat), SpC 0 s.length s w → (∀ d, d < c → SoC w ((2 * d) * bs) ((2 * d) * bs + 2 * bs)) → SoC w ((2 * c) * bs) s.length → s.length < (2 * c) * bs + 2 * bs → next (w, ((2 * bs : Nat) : Int)) := fun w c w1 w2 w3 w4 => by
      refine hn _ ⟨2 * bs, rfl, by omega, w1, fun d i j k1 k2 k3 k4 => ?_⟩ (by dsimp only; omega)
      dsimp only
      have ed : d * (2 * bs) = (2 * d) * bs := by rw [Nat.mul_left_comm, Nat.mul_assoc]
      rw [ed] at k1 k3
      rcases Nat.lt_trichotomy d c with e | e | e
      · exact w2 d e i j k1 k2 k3
      · subst e; exact w3 i j k1 k2 k4
      · have := mono (show 2 * (c + 1) ≤ 2 * d by omega)
        rw [up] at this
        omega
    refine loop_intro (fun st : List Cell × Int × Int => ∃ c : Nat, st.2.1 = (((2 * c) * bs : Nat) : Int) ∧ st.2.2 = (((2 * c) * bs + 2 * bs : Nat) : Int) ∧ (2 * c) * bs ≤ s.length ∧ SpC 0 s.length s st.1 ∧ (∀ d, d < c → SoC st.1 ((2 * d) * bs) ((2 * d) * bs + 2 * bs)) ∧ ∀ d, 2 * c ≤ d → BlkC st.1 bs s.length d) (fun st => s.length - st.2.1.toNat)
      ⟨0, by simp, by simp, by omega, h2, fun d h => by omega, fun d _ => h3 d⟩ ?_
    clear h2 h3 hn
    rintro ⟨v, _, _⟩ nx ⟨c, rfl, rfl, h1, h2, h3, h4⟩ hx
    dsimp only at h2 h3 h4 ⊢
    have hlv := h2.len
    have hA : ∀ i j, (2 * c) * bs ≤ i → i < j → j < (2 * c) * bs + bs → j < s.length → leC (gC v i) (gC v j) := h4 (2 * c) (Nat.le_refl _)
    have hB : ∀ i j, (2 * c) * bs + bs ≤ i → i < j → j < (2 * c) * bs + bs + bs → j < s.length → leC (gC v i) (gC v j) := by
      have := h4 (2 * c + 1) (by omega)
      unfold BlkC at this
      rw [up1] at this
      exact this
    have upc := up c
    refine ifP_dec (fun hbn => ?_) (fun hbn => ?_)
    · rw [add_w (i := 2 * c * bs) (k := bs) (by omega) (by omega), add_w (i := 2 * c * bs + 2 * bs) (k := 2 * bs) (by omega) (by omega)]
      refine sym_ok (by omega) (by omega) (by omega) (by omega) (fun i j k1 k2 k3 => hA i j k1 k2 k3 (by omega)) (fun i j k1 k2 k3 => hB i j k1 k2 (by omega) (by omega)) fun w w1 w2 => ?_
      refine hx _ ⟨c + 1, by dsimp only; rw [up], by dsimp only; rw [up], by omega, h2.trans (w1.wide (by omega) (by omega)), fun d hd => ?_, fun d hd => ?_⟩ (by dsimp only; omega)
      · dsimp only
        by_cases e : d = c
        · subst e; exact w2
        · have hm := mono (show 2 * (d + 1) ≤ 2 * c by omega)
          rw [up] at hm
          intro i j k1 k2 k3
          rw [w1.out i (.inl (by omega)), w1.out j (.inl (by omega))]
          exact h3 d (by omega) i j k1 k2 k3
      · dsimp only
        have hm := mono hd
        rw [up] at hm
        exact (h4 d (by omega)).same fun i k1 k2 => w1.out i (.inr (by omega))
    · rw [add_w (i := 2 * c * bs) (k := bs) (by omega) (by omega)]
      refine ifP_dec (fun hm => ?_) (fun hm => ?_)
      · refine sym_ok (by omega) (by omega) (by omega) (by omega) (fun i j k1 k2 k3 => hA i j k1 k2 k3 (by omega)) (fun i j k1 k2 k3 => hB i j k1 k2 (by omega) k3) fun w w1 w2 => ?_
        refine ending w c (h2.trans (w1.wide (by omega) (by omega))) (fun d hd => ?_) w2 (by omega)
        have hm := mono (show 2 * (d + 1) ≤ 2 * c by omega)
        rw [up] at hm
        intro i j k1 k2 k3
        rw [w1.out i (.inl (by omega)), w1.out j (.inl (by omega))]
        exact h3 d hd i j k1 k2 k3
      · exact ending v c h2 h3 (fun i j k1 k2 k3 => hA i j k1 k2 (by omega) k3) (by omega)
end Go.Proofs.YtjabmpfcpekpdaaGreat

/- Lists of cells as one. -/
namespace Go.Proofs.YtjabmpfcpekpdaaGreat
open Go Go.Fw
set_option linter.unusedVariables false
set_option linter.unusedSimpArgs false
def keyC (c : Cell) : Key := (c.Row, c.Col)
def oneC (k : Key) (c : Cell) : Option Wide := if keyC c = k then some c.Val else none
def endC (r : Int) (k : Key) : List Cell → Option Wide
  | [] => none
  | c :: l => cmb r (oneC k c) (endC r k l)
def okC (l : List Cell) : Prop := ∀ c ∈ l, okW c.Val
def StrC (l : List Cell) : Prop := l.Pairwise ltC
theorem one_ok {k : Key} {c : Cell} (h : okW c.Val) : okO (oneC k c) := fun w hw => by unfold oneC at hw; split at hw <;> cases hw; exact h
theorem cmb_okO {r : Int} {a b : Option Wide} (ha : okO a) (hb : okO b) : okO (cmb r a b) := by
  intro w hw
  cases a with
  | none => exact hb w hw
  | some x => cases b with
    | none => exact ha w hw
    | some y => cases hw; exact addW_okW (ha x rfl) (hb y rfl)
theorem end_okO {r : Int} {k : Key} : ∀ {l : List Cell}, okC l → okO (endC r k l)
  | [], _ => fun w hw => by cases hw
  | c :: l, h => cmb_okO (one_ok (h c (by simp))) (end_okO fun d hd => h d (List.mem_cons_of_mem _ hd))
theorem end_append {r : Int} {k : Key} : ∀ {xs ys : List Cell}, okC xs → okC ys → endC r k (xs ++ ys) = cmb r (endC r k xs) (endC r k ys)
  | [], ys, _, _ => rfl
  | c :: l, ys, h, h' => by
    have hl : okC l := fun d hd => h d (List.mem_cons_of_mem _ hd)
    rw [List.cons_append, endC, endC, end_append hl h', cmb_assoc (one_ok (h c (by simp))) (end_okO hl) (end_okO h')]
theorem okC_perm {xs ys : List Cell} (h : xs.Perm ys) (ho : okC xs) : okC ys := fun c hc => ho c (h.mem_iff.2 hc)
theorem end_perm {r : Int} {k : Key} {xs ys : List Cell} (h : xs.Perm ys) (ho : okC xs) : endC r k xs = endC r k ys := by
  induction h with
  | nil => rfl
  | cons c h ih => rw [endC, endC, ih fun d hd => ho d (List.mem_cons_of_mem _ hd)]
  | swap a b l =>
    have h1 := one_ok (k := k) (ho a (by simp))
    have h2 := one_ok (k := k) (ho b (by simp))
    have h3 := end_okO (r := r) (k := k) (l := l) fun d hd => ho d (by simp [hd])
    rw [endC, endC, endC, endC, ← cmb_assoc h2 h1 h3, ← cmb_assoc h1 h2 h3, cmb_comm h1 h2]
  | trans h1 h2 ih1 ih2 => exact (ih1 ho).trans (ih2 (okC_perm h1 ho))
theorem end_none {r : Int} {k : Key} : ∀ {l : List Cell}, (∀ c ∈ l, keyC c ≠ k) → endC r k l = none
  | [], _ => rfl
  | c :: l, h => by
    rw [endC, end_none fun d hd => h d (List.mem_cons_of_mem _ hd)]
    unfold oneC
    rw [if_neg (h c (by simp))]; rfl
theorem ltC_ne {a b : Cell} (h : ltC a b) : keyC a ≠ keyC b := fun e => by unfold ltC at h; unfold keyC at e; rw [e] at h; exact ltK_irrefl _ h
theorem end_mem {r : Int} : ∀ {l : List Cell}, StrC l → ∀ {c : Cell}, c ∈ l ↔ endC r (keyC c) l = some c.Val
  | [], _, c => by simp [endC]
  | d :: l, h, c => by
    unfold StrC at h
    rw [List.pairwise_cons] at h
    rw [endC, List.mem_cons]
    by_cases e : keyC d = keyC c
    · rw [end_none (fun x hx => by rw [← e]; exact (ltC_ne (h.1 x hx)).symm)]
      unfold oneC
      rw [if_pos e, cmb_none]
      constructor
      · rintro (rfl | hc)
        · rfl
        · exact absurd e (ltC_ne (h.1 c hc))
      · intro hv
        left
        have hv' := Option.some.inj hv
        clear hv
        unfold keyC at e
        cases c; cases d
        simp only [Prod.mk.injEq] at e hv'
        obtain ⟨rfl, rfl⟩ := e
        rw [hv']
    · unfold oneC
      rw [if_neg e]
      show _ ↔ endC r (keyC c) l = some c.Val
      rw [← end_mem h.2]
      constructor
      · rintro (rfl | hc)
        · exact absurd rfl e
        · exact hc
      · exact .inr
theorem StrC.nodup {l : List Cell} (h : StrC l) : l.Nodup := by
  rw [List.nodup_iff_pairwise_ne]
  exact List.Pairwise.imp (R := ltC) (fun {a b} hab (e : a = b) => ltC_ne hab (by rw [e])) h
theorem str_uniq {r : Int} {s t : List Cell} (hs : StrC s) (ht : StrC t) (h : ∀ k, endC r k s = endC r k t) : s = t :=
  sorted_eq ((List.perm_ext_iff_of_nodup hs.nodup ht.nodup).2 fun c => by rw [end_mem (r := r) hs, end_mem (r := r) ht, h]) hs ht fun a b _ _ h1 h2 => absurd (ltK_trans h1 h2) (ltK_irrefl _)
/-! ### Whether cells rise -/
theorem adj_str {l : List Cell} (h : ∀ (j : Nat) (h1 : j + 1 < l.length), ltC l[j] l[j + 1]) : StrC l := by
  unfold StrC
  rw [List.pairwise_iff_getElem]
  intro i j hi hj hij
  obtain ⟨d, rfl⟩ : ∃ d, j = i + 1 + d := ⟨j - i - 1, by omega⟩
  clear hij
  induction d with
  | zero => exact h i hj
  | succ d ih => exact ltK_trans (ih (by omega)) (h (i + 1 + d) hj)
theorem gemm_rises_is {l : List Cell} {Q : Bool → Prop} (hl : l.length ≤ 1000000) (h1 : StrC l → Q true) (h2 : ¬ StrC l → Q false) : gemm_rises l Q := by
  unfold gemm_rises
  refine scan_intro l.length (by omega) (fun i => ∀ (j : Nat) (h1 : j + 1 < l.length), j + 1 < i → ltC l[j] l[j + 1]) (fun j _ h => by omega) (fun i next hi hm hn => ?_) (fun next hm => ?_)
  · refine ifP_dec (fun _ => ifP_dec (fun hp => ?_) (fun hp => hn fun j _ h => by omega)) (fun h => by omega)
    obtain ⟨i, rfl⟩ : ∃ q, i = q + 1 := ⟨i - 1, by omega⟩
    rw [pred_w (by omega) (by omega), Nat.add_sub_cancel]
    refine idxP_nat (by omega) (idxP_nat hi (gemm_order_ok (ifP_dec (fun h0 => h2 fun hs => ?_) (fun h0 => hn fun j hj h => ?_))))
    · have := (ordC_lt l[i] l[i + 1]).2 (List.pairwise_iff_getElem.1 hs i (i + 1) (by omega) hi (by omega))
      omega
    · by_cases e : j = i
      · subst e; exact (ordC_lt l[j] l[j + 1]).1 (by omega)
      · exact hm j hj (by omega)
  · exact ifP_dec (fun h => by omega) (fun _ => h1 (adj_str fun j hj => hm j hj hj))
/-! ### The program's way -/
theorem ord_zero {x y : Cell} : or2 (cmpc x.Row y.Row) (cmpc x.Col y.Col) = 0 ↔ keyC x = keyC y := by
  unfold or2 cmpc keyC
  simp only [Prod.mk.injEq]
  split <;> split <;> (try split) <;> (try split) <;> omega
theorem concatL_ok {L : List (List Cell)} {Q : List Cell → Prop} (hl : L.length ≤ 1000000) (hf : L.flatten.length ≤ 100000000) (hQ : Q L.flatten) : slices_Concat_api_Cell_api_Cell L Q := by
  unfold slices_Concat_api_Cell_api_Cell slices_Grow_api_Cell_api_Cell
  have tk : ∀ {i : Nat} (h : i < L.length), (L.take (i + 1)).flatten = (L.take i).flatten ++ L[i] := fun h => by rw [List.take_succ_eq_append_getElem h, List.flatten_append]; simp
  have tl : ∀ i : Nat, (L.take i).flatten.length ≤ L.flatten.length := fun i => by
    conv => rhs; rw [← List.take_append_drop i L, List.flatten_append, List.length_append]
    omega
  refine range_intro (fun (s : Int) i => (s, i)) 0 L.length (by omega) (fun i s => s = ((L.take i).flatten.length : Nat)) (by omega) rfl (fun i s next _ hi hm hn => ?_) (fun s next hm => ?_)
  · subst hm
    have h1 := tl (i + 1)
    have h2 := tk hi
    rw [h2, List.length_append] at h1
    refine ifP_dec (fun _ => idxP_nat hi ?_) (fun h => by omega)
    rw [add_w (by omega) (by omega)]
    exact ifP_dec (fun h => by omega) (fun _ => hn _ (by rw [h2, List.length_append]))
  · subst hm
    refine ifP_dec (fun h => by omega) (fun _ => ?_)
    rw [List.take_length, w64_id (x := 0 - 0) (by omega) (by omega), w64_id (x := ((L.flatten.length : Nat) : Int) - (0 - 0)) (by omega) (by omega)]
    have hk : loopP (fun (s : (List Cell) × Int) (next271 : ((List Cell) × Int) → Prop) => match s with | (s266, s270) => ifP (decide (s270 < (L.length : Int))) (idxP L s270 fun x278 => appP 32 s266 x278 fun _ => next271 ((s266 ++ x278), w64 (s270 + 1))) (Q s266)) ([], 0) := by
      refine range_intro (fun (s : List Cell) i => (s, i)) 0 L.length (by omega) (fun i s => s = (L.take i).flatten) (by omega) rfl (fun i s next _ hi hm hn => ?_) (fun s next hm => ?_)
      · subst hm
        have h1 := tl (i + 1)
        have h2 := tk hi
        rw [h2, List.length_append] at h1
        refine ifP_dec (fun _ => idxP_nat hi (appP_intro (by omega) (hn _ h2.symm))) (fun h => by omega)
      · subst hm
        refine ifP_dec (fun h => by omega) (fun _ => ?_)
        rw [List.take_length]; exact hQ
    exact ifP_dec (fun h => by omega) (fun _ => ifP_dec (fun h => ⟨by omega, by omega, hk⟩) (fun h => hk))
theorem gemm_Merge_ok {r : Int} {L : List (List Cell)} {Q : List Cell × Int → Prop} (hl : L.length ≤ 1000000) (hf : L.flatten.length ≤ 1000000) (hok : okC L.flatten) (h8 : ¬ (1 ≤ r ∧ r ≤ 5) → Q ([], 8)) (h6 : (1 ≤ r ∧ r ≤ 5) → ¬ (∀ l ∈ L, StrC l) → Q ([], 6))
    (h0 : (1 ≤ r ∧ r ≤ 5) → (∀ l ∈ L, StrC l) → ∀ s, StrC s → okC s → s.length ≤ L.flatten.length → (∀ k, endC r k s = endC r k L.flatten) → Q (s, 0)) : gemm_Merge r L Q := by
  unfold gemm_Merge
  refine ring_Is_ok (ifP_not (fun h => h8 (of_decide_eq_false h)) (fun h => ?_))
  have hr := of_decide_eq_true h
  unfold slices_ContainsFunc_api_Cell_api_Cell_85a slices_IndexFunc_api_Cell_api_Cell_95a gemm_Merge_1_823
  have elen : ∀ l ∈ L, l.length ≤ 1000000 := fun l hm => by
    have := (List.sublist_flatten_of_mem hm).length_le
    omega
  refine scan_intro L.length (by omega) (fun i => ∀ (q : Nat) (hq : q < L.length), q < i → StrC L[q]) (fun q _ h => by omega) (fun i next hi hm hn => ?_) (fun next hm => ?_)
  · refine ifP_dec (fun _ => idxP_nat hi (gemm_rises_is (elen _ (List.getElem_mem hi)) (fun hs => ifP_neg rfl (hn fun q hq hqi => ?_)) (fun hs => ifP_pos rfl (ifP_pos (decide_eq_true (by omega)) (h6 hr fun ha => hs (ha _ (List.getElem_mem hi))))))) (fun h => by omega)
    by_cases e : q = i
    · subst e; exact hs
    · exact hm q hq (by omega)
  refine ifP_dec (fun h => by omega) (fun _ => ifP_neg (by decide) (concatL_ok hl (by omega) (stabC_ok (by omega) fun t hp hs => ?_)))
  have hall : ∀ l ∈ L, StrC l := fun l hm' => by obtain ⟨q, hq, rfl⟩ := List.getElem_of_mem hm'; exact hm q hq hq
  have hot : okC t := okC_perm hp.symm hok
  have htl := hp.length_eq
  have hfin := h0 hr hall
  refine range_intro (fun (s : List Cell) i => (s, i)) 0 t.length (by omega) (fun i s => StrC s ∧ okC s ∧ s.length ≤ i ∧ (∀ k, endC r k s = endC r k (t.take i)) ∧ (s = [] ∧ i = 0 ∨ ∃ p y, s = p ++ [y] ∧ 0 < i ∧ keyC y = keyC (gC t (i - 1)))) (by omega) ⟨.nil, (fun c hc => by cases hc), Nat.le_refl _, fun _ => rfl, .inl ⟨rfl, rfl⟩⟩ (fun i s next _ hi hm' hn => ?_) (fun s next hm' => ?_)
  · obtain ⟨m1, m2, m3, m4, m5⟩ := hm'
    have hx : okW t[i].Val := hot _ (List.getElem_mem hi)
    have hok1 : okC [t[i]] := fun c hc => by rw [List.mem_singleton] at hc; subst hc; exact hx
    have hoti : okC (t.take i) := fun c hc => hot c (List.mem_of_mem_take hc)
    have htk : ∀ k, endC r k (t.take (i + 1)) = cmb r (endC r k s) (oneC k t[i]) := fun k => by
      rw [List.take_succ_eq_append_getElem hi, end_append hoti hok1, ← m4 k, endC, endC, cmb_none]
    have hgi := gC_elem hi
    refine ifP_dec (fun _ => idxP_nat hi ?_) (fun h => by omega)
    have app : StrC (s ++ [t[i]]) → appP 32 s [t[i]] fun _ => next (s ++ [t[i]], w64 ((i : Int) + 1)) := fun hstr => appP_intro (by simp; omega) (hn _ ⟨hstr, fun c hc => by
        rcases List.mem_append.1 hc with h | h
        · exact m2 c h
        · exact hok1 c h, by simp; omega, fun k => by rw [htk, end_append m2 hok1, endC, endC, cmb_none], .inr ⟨s, t[i], rfl, by omega, by rw [Nat.add_sub_cancel, ← hgi]⟩⟩)
    unfold joinP
    rcases m5 with ⟨rfl, rfl⟩ | ⟨p, y, rfl, i0, hy⟩
    · exact ifP_dec (fun h => by simp at h) (fun _ => ifP_neg rfl (app (by simp [StrC])))
    · have m3' : p.length + 1 ≤ i := by simpa using m3
      have hlast : (w64 ((((p ++ [y]).length : Nat) : Int) - 1)) = ((p.length : Nat) : Int) := by
        rw [List.length_append, List.length_singleton, pred_w (by omega) (by omega), Nat.add_sub_cancel]
      rw [hlast]
      have hget : (p ++ [y])[p.length]? = some y := by simp
      refine ifP_dec (fun _ => idxP_intro (x := y) (by omega) hget (gemm_order_ok (ifP_eq (fun he => ?_) (fun he => ?_)))) (fun h => by simp at h)
      · have hkey := ord_zero.1 he
        have hyo : okW y.Val := m2 y (by simp)
        refine idxP_intro (x := y) (by omega) hget (ring_Add_ok hyo hx (idxP_intro (x := y) (by omega) hget ?_))
        rw [show (p ++ [y]).set ((p.length : Nat) : Int).toNat (⟨y.Row, y.Col, addW r y.Val t[i].Val⟩ : Cell) = p ++ [⟨y.Row, y.Col, addW r y.Val t[i].Val⟩] by simp]
        have hp2 : okC p := fun c hc => m2 c (by simp [hc])
        have hy1 : okC [y] := fun c hc => by rw [List.mem_singleton] at hc; subst hc; exact hyo
        have hy2 : okC [⟨y.Row, y.Col, addW r y.Val t[i].Val⟩] := fun c hc => by rw [List.mem_singleton] at hc; subst hc; exact addW_okW hyo hx
        refine hn _ ⟨?_, fun c hc => ?_, by simp at m3 ⊢; omega, fun k => ?_, .inr ⟨p, _, rfl, by omega, ?_⟩⟩
        · unfold StrC at m1 ⊢
          rw [List.pairwise_append] at m1 ⊢
          refine ⟨m1.1, by simp, fun a ha b hb => ?_⟩
          rw [List.mem_singleton] at hb; subst hb
          exact m1.2.2 a ha y (by simp)
        · rcases List.mem_append.1 hc with h | h
          · exact hp2 c h
          · exact hy2 c h
        · rw [htk, end_append hp2 hy2, end_append hp2 hy1, cmb_assoc (end_okO hp2) (end_okO hy1) (one_ok hx)]
          congr 1
          rw [endC, endC, cmb_none, endC, endC, cmb_none]
          unfold oneC
          by_cases ek : keyC y = k
          · rw [if_pos (show keyC ⟨y.Row, y.Col, addW r y.Val t[i].Val⟩ = k from ek), if_pos ek, if_pos (hkey.symm.trans ek)]; rfl
          · rw [if_neg (show ¬ keyC ⟨y.Row, y.Col, addW r y.Val t[i].Val⟩ = k from ek), if_neg ek, if_neg (fun h => ek (hkey.trans h))]; rfl
        · rw [Nat.add_sub_cancel, ← hgi]; exact hkey
      · have hne : keyC y ≠ keyC t[i] := fun h => he (ord_zero.2 h)
        refine app ?_
        have hle : leC (gC t (i - 1)) (gC t i) := hs _ _ (by omega) (by omega) (by omega)
        rw [← hgi] at hle
        have hyx : ltC y t[i] := ltK_tri (a := keyC t[i]) (b := keyC y) (by rw [hy]; exact hle) fun e => hne e.symm
        unfold StrC at m1 ⊢
        rw [List.pairwise_append]
        refine ⟨m1, by simp, fun a ha b hb => ?_⟩
        rw [List.mem_singleton] at hb; subst hb
        rcases List.mem_append.1 ha with h | h
        · rw [List.pairwise_append] at m1
          exact ltK_trans (m1.2.2 a h y (by simp)) hyx
        · rw [List.mem_singleton] at h; subst h; exact hyx
  · obtain ⟨m1, m2, m3, m4, m5⟩ := hm'
    refine ifP_dec (fun h => by omega) (fun _ => hfin s m1 m2 (by omega) fun k => ?_)
    rw [m4, List.take_length]
    exact end_perm hp hot
end Go.Proofs.YtjabmpfcpekpdaaGreat

/- The statements' three matrices, what must be whatever is asked, and GemmTells. -/
namespace Go.Proofs.YtjabmpfcpekpdaaGreat
open Go Go.Fw
set_option linter.unusedVariables false
set_option linter.unusedSimpArgs false
/-! ### live -/
def T15 : List Triple := [⟨1, 0, 1⟩, ⟨2, 0, 1⟩, ⟨2, 1, 1⟩]
def R15 : List Triple := [⟨2, 0, 1⟩]
def C15 : Cell := ⟨2, 0, ⟨0, 1⟩⟩
def D15 : Cell := ⟨2, 0, ⟨0, 2⟩⟩
theorem T15_canon : Canon 3 3 T15 := ⟨by decide, by decide, by decide, by decide, by decide, by unfold Srt; decide, by decide⟩
theorem R15_canon : Canon 3 3 R15 := ⟨by decide, by decide, by decide, by decide, by decide, by unfold Srt; decide, by decide⟩
theorem concatC_ok {Q : List Cell → Prop} (hQ : Q [C15, C15]) : slices_Concat_api_Cell_api_Cell [[C15], [C15]] Q := by
  unfold slices_Concat_api_Cell_api_Cell slices_Grow_api_Cell_api_Cell
  refine ⟨3, ifP_pos (by decide) (idxP_intro (by decide) rfl (ifP_neg (by decide) (ifP_pos (by decide) (idxP_intro (by decide) rfl (ifP_neg (by decide) (ifP_neg (by decide) ?_))))))⟩
  have hk : loopP (fun (s : (List Cell) × Int) (next271 : ((List Cell) × Int) → Prop) => match s with | (s266, s270) => ifP (decide (s270 < ((([[C15], [C15]] : List (List Cell)).length : Nat) : Int))) (idxP [[C15], [C15]] s270 fun x278 => appP 32 s266 x278 fun _ => next271 ((s266 ++ x278), w64 (s270 + 1))) (Q s266)) ([], 0) :=
    ⟨3, ifP_pos (by decide) (idxP_intro (by decide) rfl (appP_intro (by decide) (ifP_pos (by decide) (idxP_intro (by decide) rfl (appP_intro (by decide) (ifP_neg (by decide) hQ))))))⟩
  exact ifP_neg (by decide) (ifP_pos (by decide) ⟨by decide, by decide, hk⟩)
theorem sortC_ok {Q : List Cell → Prop} (hQ : Q [C15, C15]) : slices_SortStableFunc_api_Cell_api_Cell_90a [C15, C15] Q := by
  unfold slices_SortStableFunc_api_Cell_api_Cell_90a slices_stableCmpFunc_api_Cell_076 slices_insertionSortCmpFunc_api_Cell_116 gemm_order_1ec
  refine ⟨1, ifP_neg (by decide) ⟨2, ifP_pos (by decide) ⟨1, ifP_pos (by decide) (idxP_intro (by decide) rfl (idxP_intro (by decide) rfl (cmp_int_ok (cmp_int_ok (or_ok (ifP_neg (by decide) (ifP_neg (by decide) ?_)))))))⟩⟩⟩
  exact ⟨1, ifP_neg (by decide) hQ⟩
theorem mergeC_ok {Q : List Cell × Int → Prop} (hQ : Q ([D15], 0)) : gemm_Merge 5 [[C15], [C15]] Q := by
  unfold gemm_Merge joinP
  refine ring_Is_ok (ifP_neg (by decide) ?_)
  unfold slices_ContainsFunc_api_Cell_api_Cell_85a slices_IndexFunc_api_Cell_api_Cell_95a gemm_Merge_1_823
  have hr : ([C15] : List Cell).Pairwise ltC := by simp
  refine ⟨3, ifP_pos (by decide) (idxP_intro (by decide) rfl (gemm_rises_ok (by decide) hr (ifP_neg (by decide) (ifP_pos (by decide) (idxP_intro (by decide) rfl (gemm_rises_ok (by decide) hr (ifP_neg (by decide) (ifP_neg (by decide) (ifP_neg (by decide) ?_)))))))))⟩
  refine concatC_ok (sortC_ok ⟨3, ifP_pos (by decide) (idxP_intro (by decide) rfl (ifP_neg (by decide) (ifP_neg (by decide) (appP_intro (by decide) (ifP_pos (by decide) (idxP_intro (by decide) rfl ?_))))))⟩)
  refine ifP_pos (by decide) (idxP_intro (by decide) rfl (gemm_order_ok (ifP_pos (by decide) (idxP_intro (by decide) rfl (ring_Add_ok (by unfold okW; decide) (by unfold okW; decide) (idxP_intro (by decide) rfl (ifP_neg (by decide) ?_)))))))
  exact hQ
theorem doneC3_ok {Q : Rows × Int → Prop} (hQ : Q (zR, 3)) : gemm_Done 5 1 1 [⟨1, 0, ⟨0, 0⟩⟩] Q := by
  unfold gemm_Done joinP gemm_within slices_ContainsFunc_api_Cell_api_Cell_72c slices_IndexFunc_api_Cell_api_Cell_05b gemm_Done_1_bab gemm_within
  refine ring_Is_ok (ifP_neg (by decide) (ifP_pos (by decide) (ifP_neg (by decide) (ifP_pos (by decide) (ifP_neg (by decide) ?_)))))
  exact ⟨1, ifP_pos (by decide) (idxP_intro (by decide) rfl (ifP_pos (by decide) (ifP_pos (by decide) (ifP_pos (by decide) (ifP_pos (by decide) hQ)))))⟩
theorem live15_ok {Q : Bool → Prop} (hQ : Q true) : law15_live Q := by
  unfold law15_live
  have hT : ∀ t ∈ T15, inI t.Val := by unfold inI; decide
  refine ref_Of_ok (by decide) (by unfold inI; decide) ?_
  rw [show ofS 5 3 3 ([({ Row := 1, Col := 0, Val := 1 } : Triple), ({ Row := 2, Col := 1, Val := 1 } : Triple), ({ Row := 2, Col := 0, Val := 1 } : Triple)]) = (builtS 3 3 T15, 0) by decide +kernel]
  refine gemm_Cells_ok T15_canon T15_canon T15_canon hT hT ?_
  rw [show cellsR 5 3 3 3 3 3 3 T15 T15 T15 = ([C15], 0) by decide +kernel]
  refine gemm_Times_ok T15_canon T15_canon T15_canon hT hT ?_
  rw [show timesS 5 3 3 3 3 3 3 T15 T15 T15 = (builtS 3 3 R15, 0) by decide +kernel]
  refine gemm_Total_ok R15_canon (by unfold inI; decide) ?_
  rw [show totS 5 R15 = (1, 0) by decide +kernel]
  refine mergeC_ok (doneC3_ok ?_)
  exact ifP_pos rfl (ifP_pos rfl (idxP_intro (by decide) rfl (ifP_pos rfl (ifP_pos rfl (ifP_pos rfl (ifP_pos rfl (ifP_pos rfl (ifP_pos rfl (ifP_pos rfl (idxP_intro (by decide) rfl (ifP_pos rfl hQ)))))))))))
/-! ### GemmTells -/
end Go.Proofs.YtjabmpfcpekpdaaGreat

