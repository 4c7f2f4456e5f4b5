/- What is right: program and reference; rows as sorted triples. -/
import Derived.Test.YtdfiinkpdaggeaaGreatCsrE
namespace Go.Proofs.YtdfiinkpdaggeaaGreat
open Go Go.Fw
set_option linter.unusedVariables false
set_option linter.unusedSimpArgs false
/-- the elements of a row's stretch rise, within the columns -/
def RowP (a : Rows) (i : Nat) : Prop := ∀ j : Nat, at0 a.Start i ≤ j → (j : Int) < at0 a.Start ((i : Int) + 1) → 0 ≤ at0 a.Col j ∧ at0 a.Col j < a.Cols ∧ (at0 a.Start i < j → at0 a.Col ((j : Int) - 1) < at0 a.Col j)
structure RightP (a : Rows) : Prop where
  r0 : 0 ≤ a.Rows
  r1 : a.Rows ≤ 4096
  c0 : 0 ≤ a.Cols
  c1 : a.Cols ≤ 4096
  sl : (a.Start.length : Int) = a.Rows + 1
  vl : a.Val.length = a.Col.length
  cl : a.Col.length ≤ 65536
  s0 : at0 a.Start 0 = 0
  sn : at0 a.Start a.Rows = a.Col.length
  up : ∀ i : Nat, (i : Int) < a.Rows → at0 a.Start i ≤ at0 a.Start ((i : Int) + 1)
  row : ∀ i : Nat, (i : Int) < a.Rows → RowP a i
noncomputable instance (a : Rows) : Decidable (RightP a) := Classical.propDecidable _
theorem up_le {a : Rows} {n : Nat} (h : ∀ i : Nat, i < n → at0 a.Start i ≤ at0 a.Start ((i : Int) + 1)) {i j : Nat} (h1 : i ≤ j) (h2 : j ≤ n) : at0 a.Start i ≤ at0 a.Start j := by
  induction j with
  | zero => have : i = 0 := by omega
            subst this; exact Int.le_refl _
  | succ j ih =>
    by_cases e : i = j + 1
    · subst e; exact Int.le_refl _
    · have := ih (by omega) (by omega)
      have h3 := h j (by omega)
      have : ((j + 1 : Nat) : Int) = (j : Int) + 1 := by omega
      rw [this]; omega
theorem less_ok {x y : Int} {Q : Bool → Prop} (h : Q (decide (x < y))) : cmp_Less_int x y Q := by
  unfold cmp_Less_int cmp_isNaN_int
  exact ifP_neg (by simp) h
theorem issorted_ok {xs : List Int} {Q : Bool → Prop} (hl : xs.length ≤ 1000000000) (h1 : (∀ i : Nat, i + 1 < xs.length → at0 xs i ≤ at0 xs ((i : Int) + 1)) → Q true) (h2 : (∃ i : Nat, i + 1 < xs.length ∧ ¬ at0 xs i ≤ at0 xs ((i : Int) + 1)) → Q false) : slices_IsSorted_int_int xs Q := by
  unfold slices_IsSorted_int_int
  rw [w64_id (by omega) (by omega)]
  by_cases h0 : xs.length = 0
  · refine loop_intro (fun s : Int => s = -1) (fun _ => 0) (by omega) (fun s next hs hn => ?_)
    subst hs
    exact ifP_dec (fun h => by omega) (fun _ => h1 fun i hi => by omega)
  refine loop_intro (fun s : Int => ∃ j : Nat, s = j ∧ j < xs.length ∧ ∀ i : Nat, j ≤ i → i + 1 < xs.length → at0 xs i ≤ at0 xs ((i : Int) + 1)) (fun s => s.toNat) ⟨xs.length - 1, by omega, by omega, fun i hi h => by omega⟩ ?_
  rintro _ next ⟨j, rfl, hj, hR⟩ hn
  refine ifP_dec (fun h => ?_) (fun h => h1 fun i hi => hR i (by omega) hi)
  obtain ⟨j, rfl⟩ : ∃ q, j = q + 1 := ⟨j - 1, by omega⟩
  have e : w64 (((j + 1 : Nat) : Int) - 1) = (j : Int) := by rw [w64_id (by omega) (by omega)]; omega
  rw [e]
  refine idxP_at0 (by omega) (by omega) (idxP_at0 (by omega) (by omega) (less_ok (ifP_dec (fun hlt => h2 ⟨j, by omega, ?_⟩) (fun hlt => hn _ ⟨j, rfl, by omega, fun i hi h => ?_⟩ (by omega)))))
  · have : ((j + 1 : Nat) : Int) = (j : Int) + 1 := by omega
    rw [this] at hlt; omega
  · by_cases e : i = j
    · subst e
      have : ((i + 1 : Nat) : Int) = (i : Int) + 1 := by omega
      rw [this] at hlt; omega
    · exact hR i (by omega) h
theorem at0_seg {xs : List Int} {lo hi : Int} {j : Nat} (h0 : 0 ≤ lo) (h1 : lo ≤ hi) (h2 : hi ≤ xs.length) (hj : lo + j < hi) : at0 ((xs.take hi.toNat).drop lo.toNat) j = at0 xs (lo + j) := by
  unfold at0
  simp only [List.getD_eq_getElem?_getD, List.getElem?_drop, Int.toNat_natCast]
  rw [List.getElem?_take_of_lt (by omega)]
  congr 2; omega
theorem seg_len {α : Type} {xs : List α} {lo hi : Int} (h0 : 0 ≤ lo) (h1 : lo ≤ hi) (h2 : hi ≤ xs.length) : ((xs.take hi.toNat).drop lo.toNat).length = (hi - lo).toNat := by
  simp only [List.length_drop, List.length_take]; omega
theorem row_ok {xs : List Int} {cols : Int} {Q : Bool → Prop} (hc0 : 0 ≤ cols) (hc1 : cols ≤ 4096) (hl : xs.length ≤ 1000000000)
    (h1 : (∀ j : Nat, j < xs.length → 0 ≤ at0 xs j ∧ at0 xs j < cols ∧ (0 < j → at0 xs ((j : Int) - 1) < at0 xs j)) → Q true) (h2 : (∃ j : Nat, j < xs.length ∧ ¬ (0 ≤ at0 xs j ∧ at0 xs j < cols ∧ (0 < j → at0 xs ((j : Int) - 1) < at0 xs j))) → Q false) : csr_row xs cols Q := by
  unfold csr_row
  rw [w64_id (by omega) (by omega)]
  refine scan_intro xs.length (by omega) (fun i => ∀ j : Nat, j < i → j < xs.length → 0 ≤ at0 xs j ∧ at0 xs j < cols ∧ (0 < j → at0 xs ((j : Int) - 1) < at0 xs j)) (by simp) (fun i next hi hR hn => ?_) (fun next hR => ?_)
  · refine ifP_dec (fun _ => ?_) (fun h => by omega)
    refine idxP_at0 (by omega) (by omega) (within_ok (ifP_not (fun h => h2 ⟨i, hi, fun hh => ?_⟩) (fun h => ?_)))
    · simp at h; omega
    have h : 0 ≤ at0 xs i ∧ at0 xs i ≤ cols - 1 := by simpa using h
    have hstep (hx : 0 < i → at0 xs ((i : Int) - 1) < at0 xs i) : next (w64 ((i : Int) + 1)) := hn fun j hj hjl => by
      by_cases e : j = i
      · subst e; exact ⟨h.1, by omega, hx⟩
      · exact hR j (by omega) hjl
    refine ifP_dec (fun h0 => ?_) (fun h0 => hstep fun h => by omega)
    rw [w64_id (by omega) (by omega)]
    refine idxP_at0 (by omega) (by omega) (ifP_dec (fun hle => h2 ⟨i, hi, fun hh => ?_⟩) (fun hle => hstep fun _ => by omega))
    have := hh.2.2 (by omega); omega
  · exact ifP_dec (fun h => by omega) (fun _ => h1 fun j hj => hR j hj hj)
theorem right_ok {a : Rows} {Q : Bool → Prop} (hl : small a) (hQ : Q (decide (RightP a))) : csr_Right a Q := by
  unfold csr_Right
  have hno (h : ¬ RightP a) : Q false := by rwa [decide_eq_false h] at hQ
  have hyes (h : RightP a) : Q true := by rwa [decide_eq_true h] at hQ
  unfold small at hl
  refine within_ok (ifP_not (fun h => hno fun hh => ?_) (fun h => ?_))
  · have := hh.r0; have := hh.r1; simp at h; omega
  have h1 : 0 ≤ a.Rows ∧ a.Rows ≤ 4096 := by simpa using h
  refine within_ok (ifP_not (fun h => hno fun hh => ?_) (fun h => ?_))
  · have := hh.c0; have := hh.c1; simp at h; omega
  have h2 : 0 ≤ a.Cols ∧ a.Cols ≤ 4096 := by simpa using h
  rw [w64_id (by omega) (by omega)]
  refine ifP_ne (fun h => hno fun hh => h hh.sl) (fun h3 => ?_)
  refine ifP_ne (fun h => hno fun hh => h (by rw [hh.vl])) (fun h4 => ?_)
  refine ifP_dec (fun h => hno fun hh => by have := hh.cl; omega) (fun h5 => ?_)
  refine idxP_at0 (by omega) (by omega) (ifP_ne (fun h => hno fun hh => h hh.s0) (fun h6 => ?_))
  refine idxP_at0 (by omega) (by omega) (ifP_ne (fun h => hno fun hh => h hh.sn) (fun h7 => ?_))
  obtain ⟨n, hn⟩ : ∃ n : Nat, a.Rows = n := ⟨a.Rows.toNat, by omega⟩
  have hsl : a.Start.length = n + 1 := by omega
  refine issorted_ok (by omega) (fun hup => ifP_neg rfl ?_) (fun hb => ifP_pos rfl (hno fun hh => ?_))
  rotate_left
  · obtain ⟨i, hi, hbad⟩ := hb
    exact hbad (hh.up i (by omega))
  have hup' : ∀ i : Nat, i < n → at0 a.Start i ≤ at0 a.Start ((i : Int) + 1) := fun i hi => hup i (by omega)
  rw [hn] at h7 ⊢
  refine scan_intro n (by omega) (fun i => ∀ j : Nat, j < i → RowP a j) (by simp) (fun i next hi hR hnx => ?_) (fun next hR => ?_)
  · refine ifP_dec (fun _ => ?_) (fun h => by omega)
    have e1 : w64 ((i : Int) + 1) = (i : Int) + 1 := w64_id (by omega) (by omega)
    rw [e1] at hnx ⊢
    have hlo : 0 ≤ at0 a.Start i := by have := up_le hup' (i := 0) (j := i) (by omega) (by omega); rw [show ((0 : Nat) : Int) = 0 from rfl, h6] at this; exact this
    have hhi : at0 a.Start ((i : Int) + 1) ≤ a.Col.length := by
      have := up_le hup' (i := i + 1) (j := n) (by omega) (by omega)
      rw [h7, show ((i + 1 : Nat) : Int) = (i : Int) + 1 by omega] at this; exact this
    have hm := hup' i hi
    refine idxP_at0 (by omega) (by omega) (idxP_at0 (by omega) (by omega) ⟨hlo, hm, hhi, ?_⟩)
    have hsl2 := seg_len hlo hm hhi
    have heq : ∀ j : Nat, at0 a.Start i + j < at0 a.Start ((i : Int) + 1) → at0 ((a.Col.take (at0 a.Start ((i : Int) + 1)).toNat).drop (at0 a.Start i).toNat) j = at0 a.Col (at0 a.Start i + j) := fun j hj => at0_seg hlo hm hhi hj
    refine row_ok (by omega) (by omega) (by rw [hsl2]; omega) (fun hall => ifP_neg rfl (hnx fun j hj => ?_)) (fun hb => ifP_pos rfl (hno fun hh => ?_))
    · by_cases e : j = i
      · subst e
        intro p hp1 hp2
        obtain ⟨q, hq⟩ : ∃ q : Nat, (p : Int) = at0 a.Start j + q := ⟨(p - at0 a.Start j).toNat, by omega⟩
        have hr := hall q (by rw [hsl2]; omega)
        rw [heq q (by omega), ← hq] at hr
        refine ⟨hr.1, hr.2.1, fun hlt => ?_⟩
        have := hr.2.2 (by omega)
        rw [show (q : Int) - 1 = ((q - 1 : Nat) : Int) by omega, heq (q - 1) (by omega), show at0 a.Start j + ((q - 1 : Nat) : Int) = (p : Int) - 1 by omega] at this
        exact this
      · exact hR j (by omega)
    · obtain ⟨q, hq, hbad⟩ := hb
      rw [hsl2] at hq
      apply hbad
      have hr := hh.row i (by omega) (at0 a.Start i + q).toNat (by omega) (by omega)
      have ep : (((at0 a.Start i + q).toNat : Nat) : Int) = at0 a.Start i + q := by omega
      rw [ep] at hr
      rw [heq q (by omega)]
      refine ⟨hr.1, hr.2.1, fun h0 => ?_⟩
      have := hr.2.2 (by omega)
      rw [show (q : Int) - 1 = ((q - 1 : Nat) : Int) by omega, heq (q - 1) (by omega), show at0 a.Start i + ((q - 1 : Nat) : Int) = at0 a.Start i + q - 1 by omega]
      exact this
  · refine ifP_dec (fun h => by omega) (fun _ => hyes ⟨h1.1, h1.2, h2.1, h2.2, h3, by omega, by omega, h6, by rw [hn]; exact h7, fun i hi => hup' i (by omega), fun i hi => hR i (by omega)⟩)
theorem ref_right_ok {a : Rows} {Q : Bool → Prop} (hl : small a) (hQ : Q (decide (RightP a))) : ref07_Right a Q := by
  unfold ref07_Right
  have hno (h : ¬ RightP a) : Q false := by rwa [decide_eq_false h] at hQ
  have hyes (h : RightP a) : Q true := by rwa [decide_eq_true h] at hQ
  unfold small at hl
  refine ifP_dec (fun h => hno fun hh => by have := hh.r0; omega) (fun h1 => ?_)
  refine ifP_dec (fun h => hno fun hh => by have := hh.r1; omega) (fun h2 => ?_)
  refine ifP_dec (fun h => hno fun hh => by have := hh.c0; omega) (fun h1' => ?_)
  refine ifP_dec (fun h => hno fun hh => by have := hh.c1; omega) (fun h2' => ?_)
  rw [w64_id (by omega) (by omega)]
  refine ifP_ne (fun h => hno fun hh => h hh.sl) (fun h3 => ?_)
  refine ifP_ne (fun h => hno fun hh => h (by rw [hh.vl])) (fun h4 => ?_)
  refine ifP_dec (fun h => hno fun hh => by have := hh.cl; omega) (fun h5 => ?_)
  refine idxP_at0 (by omega) (by omega) (ifP_ne (fun h => hno fun hh => h hh.s0) (fun h6 => ?_))
  refine idxP_at0 (by omega) (by omega) (ifP_ne (fun h => hno fun hh => h hh.sn) (fun h7 => ?_))
  obtain ⟨n, hn⟩ : ∃ n : Nat, a.Rows = n := ⟨a.Rows.toNat, by omega⟩
  have hsl : a.Start.length = n + 1 := by omega
  rw [hn] at h7 ⊢
  refine scan_intro n (by omega) (fun i => (∀ j : Nat, j < i → at0 a.Start j ≤ at0 a.Start ((j : Int) + 1)) ∧ ∀ j : Nat, j < i → RowP a j) ⟨by simp, by simp⟩ (fun i next hi hR hnx => ?_) (fun next hR => ?_)
  · refine ifP_dec (fun _ => ?_) (fun h => by omega)
    have e1 : w64 ((i : Int) + 1) = (i : Int) + 1 := w64_id (by omega) (by omega)
    rw [e1] at hnx ⊢
    refine idxP_at0 (by omega) (by omega) (idxP_at0 (by omega) (by omega) (ifP_dec (fun h => hno fun hh => by have := hh.up i (by omega); omega) (fun hm => ?_)))
    have hlo : 0 ≤ at0 a.Start i := by have := up_le hR.1 (i := 0) (j := i) (by omega) (by omega); rw [show ((0 : Nat) : Int) = 0 from rfl, h6] at this; exact this
    refine idxP_at0 (by omega) (by omega) (ifP_dec (fun h => by omega) (fun _ => idxP_at0 (by omega) (by omega) (ifP_dec (fun h => hno fun hh => ?_) (fun hhi => ?_))))
    · have := up_le (n := n) (fun j hj => hh.up j (by omega)) (i := i + 1) (j := n) (by omega) (by omega)
      rw [h7, show ((i + 1 : Nat) : Int) = (i : Int) + 1 by omega] at this; omega
    refine idxP_at0 (by omega) (by omega) ?_
    obtain ⟨lo, elo⟩ : ∃ lo : Nat, at0 a.Start i = lo := ⟨(at0 a.Start i).toNat, by omega⟩
    obtain ⟨hi', ehi⟩ : ∃ hi : Nat, at0 a.Start ((i : Int) + 1) = hi := ⟨(at0 a.Start ((i : Int) + 1)).toNat, by omega⟩
    rw [elo]
    refine range_intro (σ := Unit) (fun _ j => j) lo hi' (by omega) (fun j _ => ∀ p : Nat, lo ≤ p → p < j → 0 ≤ at0 a.Col p ∧ at0 a.Col p < a.Cols ∧ (lo < p → at0 a.Col ((p : Int) - 1) < at0 a.Col p)) (by omega) (s0 := ()) (fun p h1 h2 => by omega) (fun j _ nx hj1 hj2 hI hnj => ?_) (fun _ nx hI => ?_)
    · refine idxP_at0 (by omega) (by omega) (ifP_dec (fun _ => ?_) (fun h => by omega))
      have hbad (h : ¬ (0 ≤ at0 a.Col j ∧ at0 a.Col j < a.Cols ∧ (lo < j → at0 a.Col ((j : Int) - 1) < at0 a.Col j))) : Q false := hno fun hh => h (by
        have := hh.row i (by omega) j (by omega) (by omega)
        rw [elo] at this
        exact ⟨this.1, this.2.1, fun h => this.2.2 (by omega)⟩)
      refine idxP_at0 (by omega) (by omega) (ifP_dec (fun h => hbad fun hh => by omega) (fun g1 => ?_))
      refine idxP_at0 (by omega) (by omega) (ifP_dec (fun h => hbad fun hh => by omega) (fun g2 => ?_))
      have hstep (hx : lo < j → at0 a.Col ((j : Int) - 1) < at0 a.Col j) : nx (w64 ((j : Int) + 1)) := hnj () fun p hp1 hp2 => by
        by_cases e : p = j
        · subst e; exact ⟨by omega, by omega, hx⟩
        · exact hI p hp1 (by omega)
      refine idxP_at0 (by omega) (by omega) (ifP_dec (fun h => ?_) (fun h => hstep fun h' => by omega))
      rw [w64_id (by omega) (by omega)]
      refine idxP_at0 (by omega) (by omega) (idxP_at0 (by omega) (by omega) (ifP_dec (fun h => hbad fun hh => by have := hh.2.2 (by omega); omega) (fun g3 => hstep fun _ => by omega)))
    · refine idxP_at0 (by omega) (by omega) (ifP_dec (fun h => by omega) (fun _ => ?_))
      refine hnx ⟨fun j hj => ?_, fun j hj => ?_⟩
      · by_cases e : j = i
        · subst e; omega
        · exact hR.1 j (by omega)
      · by_cases e : j = i
        · subst e
          intro p hp1 hp2
          have := hI p (by omega) (by omega)
          exact ⟨this.1, this.2.1, fun h => this.2.2 (by omega)⟩
        · exact hR.2 j (by omega)
  · refine ifP_dec (fun h => by omega) (fun _ => hyes ⟨by omega, by omega, by omega, by omega, h3, by omega, by omega, h6, by rw [hn]; exact h7, fun i hi => hR.1 i (by omega), fun i hi => hR.2 i (by omega)⟩)
end Go.Proofs.YtdfiinkpdaggeaaGreat
