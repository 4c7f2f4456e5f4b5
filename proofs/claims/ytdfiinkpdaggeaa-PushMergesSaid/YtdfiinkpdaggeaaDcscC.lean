/- Matrices by columns: put together, read, taken back. -/
import Derived.Test.YtdfiinkpdaggeaaDcscB
namespace Go.Proofs.Ytdfiinkpdaggeaa
open Go Go.Fw
set_option linter.unusedVariables false
set_option linter.unusedSimpArgs false
/-! ### One triple more -/
/-! ### Of -/
theorem take_snoc {T : List Triple} {i : Nat} (hi : i < T.length) : T.take (i + 1) = T.take i ++ [T[i]] := List.take_succ_eq_append_getElem hi
/-! ### A column's place -/
theorem place_ok {c : Columns} {k : Int} {Q : Int → Prop} (hs : c.At.Pairwise (· < ·)) (hl : c.At.length ≤ 1000000000) (h1 : ∀ j : Nat, j < c.At.length → at0 c.At j = k → Q j) (h2 : (∀ j : Nat, j < c.At.length → at0 c.At j ≠ k) → Q (-1)) : dcsc_place c k Q := by
  unfold dcsc_place
  refine join_intro (fun s : Int × Int => (s.1 < s.2 ∧ ∃ j : Nat, s.1 = j ∧ j < c.At.length ∧ at0 c.At j = k) ∨ (¬ s.1 < s.2 ∧ ∀ j : Nat, j < c.At.length → at0 c.At j ≠ k)) (fun s hs => ?_) (fun kk hkk => ?_)
  · obtain ⟨s1, s2⟩ := s
    dsimp only
    rcases hs with ⟨hlt, j, rfl, hj, e⟩ | ⟨hge, hno⟩
    · exact ifP_dec (fun _ => h1 j hj e) (fun h => absurd hlt h)
    · exact ifP_dec (fun h => absurd h hge) (fun _ => h2 hno)
  refine loop_intro (fun s : Int × Int => ∃ lo hi : Nat, s = ((lo : Int), (hi : Int)) ∧ lo ≤ hi ∧ hi ≤ c.At.length ∧ (∀ j : Nat, j < lo → at0 c.At j < k) ∧ ∀ j : Nat, hi ≤ j → j < c.At.length → k < at0 c.At j) (fun s => (s.2 - s.1).toNat) ⟨0, c.At.length, rfl, by omega, by omega, by omega, by omega⟩ ?_
  rintro _ next ⟨lo, hi, rfl, hlh, hhl, hL, hH⟩ hn
  dsimp only
  refine ifP_dec (fun h => ?_) (fun h => hkk _ (.inr ⟨h, fun j hj e => ?_⟩))
  · obtain ⟨m, hm⟩ : ∃ m : Nat, m = lo + (hi - lo) / 2 := ⟨_, rfl⟩
    have em : w64 ((lo : Int) + (w64 ((w64 ((hi : Int) - lo)).tdiv 2))) = (m : Int) := by
      rw [w64_id (x := (hi : Int) - lo) (by omega) (by omega), Int.tdiv_eq_ediv_of_nonneg (by omega), w64_id (x := ((hi : Int) - lo) / 2) (by omega) (by omega), w64_id (by omega) (by omega)]
      omega
    rw [em]
    have e2 : w64 ((m : Int) + 1) = ((m + 1 : Nat) : Int) := by rw [w64_id (by omega) (by omega)]; omega
    rw [e2]
    refine idxP_at0 (by omega) (by omega) (ifP_eq (fun e => hkk _ (.inl ⟨by dsimp only; omega, m, rfl, by omega, e⟩)) (fun e => ?_))
    refine idxP_at0 (by omega) (by omega) (ifP_dec (fun hlt => hn _ ⟨m + 1, hi, rfl, by omega, hhl, fun j hj => ?_, hH⟩ (by simp only; omega)) (fun hge => hn _ ⟨lo, m, rfl, by omega, by omega, hL, fun j hj hjl => ?_⟩ (by simp only; omega)))
    · by_cases e' : j = m
      · subst e'; exact hlt
      · have := incr_at hs (show j < m by omega) (by omega); omega
    · by_cases e' : j = m
      · subst e'; omega
      · have := incr_at hs (show m < j by omega) hjl; omega
  · rcases Nat.lt_or_ge j lo with hc | hc
    · have := hL j hc; omega
    · have := hH j (by omega) hj; omega
end Go.Proofs.Ytdfiinkpdaggeaa
