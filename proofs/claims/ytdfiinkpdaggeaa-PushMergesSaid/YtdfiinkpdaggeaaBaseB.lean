/- Sets of places as words of bits. -/
import Derived.Test.YtdfiinkpdaggeaaBaseA
namespace Go.Proofs.Ytdfiinkpdaggeaa
open Go Go.Fw
set_option linter.unusedVariables false
set_option linter.unusedSimpArgs false
def okF (f : List Int) : Prop := ∀ x ∈ f, 0 ≤ x ∧ x < 18446744073709551616
def hasF (f : List Int) (i : Int) : Bool := decide (0 ≤ i) && (at0 f (i / 64)).toNat.testBit (i % 64).toNat
theorem at0_over {f : List Int} {i : Int} (h : (f.length : Int) ≤ i) : at0 f i = 0 := by
  unfold at0
  rw [List.getD_eq_getElem?_getD, List.getElem?_eq_none (by omega)]; rfl
theorem okF_at {f : List Int} (h : okF f) (i : Int) : 0 ≤ at0 f i ∧ at0 f i < 18446744073709551616 := by
  by_cases e : i.toNat < f.length
  · have : at0 f i = f[i.toNat] := by simp [at0, List.getD_eq_getElem?_getD, e]
    rw [this]; exact h _ (List.getElem_mem e)
  · have : at0 f i = 0 := by unfold at0; rw [List.getD_eq_getElem?_getD, List.getElem?_eq_none (by omega)]; rfl
    rw [this]; omega
theorem hasF_over {f : List Int} {i : Int} (h : 64 * (f.length : Int) ≤ i) : hasF f i = false := by
  unfold hasF; rw [at0_over (by omega)]; simp
theorem hasF_neg {f : List Int} {i : Int} (h : i < 0) : hasF f i = false := by
  unfold hasF; simp [show ¬ 0 ≤ i by omega]
theorem shr6 (i : Int) : shr .i64 i 6 = i / 64 := by
  unfold shr
  rw [Int.fdiv_eq_ediv_of_nonneg _ (by decide)]; rfl
theorem within_f_ok {f : List Int} {i : Int} {Q : Bool → Prop} (hQ : Q (decide (0 ≤ i ∧ i / 64 < f.length))) : flags_within f i Q := by
  unfold flags_within
  rw [shr6]
  refine ifP_dec (fun h => ?_) (fun h => ?_)
  · simpa [h] using hQ
  · simpa [h] using hQ
theorem pw_int (k : Nat) : (2 : Int) ^ k = ((2 ^ k : Nat) : Int) := by rw [Int.natCast_pow]; rfl
theorem pw_lt {k : Nat} (hk : k < 64) : (2 : Nat) ^ k < 18446744073709551616 := Nat.pow_lt_pow_right (n := 64) (a := 2) (by omega) hk
theorem one_shl {k : Nat} (hk : k < 64) : shl .u64 1 k = ((2 ^ k : Nat) : Int) := by
  rw [shl_u _ (by omega), Int.one_mul, pw_int]
  have hp := pw_lt hk
  generalize 2 ^ k = p at *
  omega
theorem and_pw (x k : Nat) : x &&& 2 ^ k = if x.testBit k then 2 ^ k else 0 := by
  apply Nat.eq_of_testBit_eq
  intro j
  rw [Nat.testBit_and, Nat.testBit_two_pow]
  by_cases e : k = j
  · subst e
    cases h : x.testBit k
    · simp
    · simp [Nat.testBit_two_pow]
  · cases h : x.testBit k
    · simp [e]
    · simp [e, Nat.testBit_two_pow]
theorem bit_ok {i : Int} {Q : Int → Prop} (h0 : 0 ≤ i) (h1 : i < 18446744073709551616) (hQ : Q ((2 ^ (i % 64).toNat : Nat) : Int)) : flags_bit i Q := by
  unfold flags_bit
  have e : bnd .u64 (IntKind.wrap .u64 i) 63 = (((i % 64).toNat : Nat) : Int) := by
    rw [u64_eq, show i % 18446744073709551616 = i by omega, bnd_nat h0 h1 (by omega) (by omega)]
    congr 1
    rw [show Int.toNat 63 = 2 ^ 6 - 1 from rfl, Nat.and_two_pow_sub_one_eq_mod]
    omega
  rw [e]
  refine ⟨by omega, ?_⟩
  rw [one_shl (by omega)]; exact hQ
theorem flags_Has_ok {f : List Int} {i : Int} {Q : Bool → Prop} (hf : okF f) (hi : inI i) (hQ : Q (hasF f i)) : flags_Has f i Q := by
  unfold flags_Has
  unfold inI at hi
  refine within_f_ok ⟨fun h => ?_, fun h => ?_⟩
  · have h := of_decide_eq_true h
    rw [shr6]
    have hx := okF_at hf (i / 64)
    refine idxP_at0 (by omega) h.2 (bit_ok h.1 (by omega) ?_)
    have hp := pw_lt (k := (i % 64).toNat) (by omega)
    have e : hasF f i = (at0 f (i / 64)).toNat.testBit (i % 64).toNat := by unfold hasF; simp [h.1]
    rw [e] at hQ
    have hpos : 0 < (2 : Nat) ^ (i % 64).toNat := Nat.pow_pos (by omega)
    have ha := and_pw (at0 f (i / 64)).toNat (i % 64).toNat
    generalize (i % 64).toNat = k at *
    rw [bnd_nat hx.1 hx.2 (Int.natCast_nonneg _) (by generalize 2 ^ k = p at *; omega), Int.toNat_natCast, ha]
    cases hb : (at0 f (i / 64)).toNat.testBit k with
    | false => rw [hb] at hQ; simpa using hQ
    | true =>
      rw [hb] at hQ
      have e2 : (((if (true : Bool) = true then 2 ^ k else 0 : Nat) : Int) != 0) = true := by
        rw [if_pos rfl, bne_iff_ne]
        generalize 2 ^ k = p at *; omega
      rw [e2]; exact hQ
  · have h := of_decide_eq_false h
    have e : hasF f i = false := by
      rcases Int.lt_or_le i 0 with h' | h'
      · exact hasF_neg h'
      · exact hasF_over (by omega)
    rw [e] at hQ; exact hQ
/-! ### Sets made -/
/-! ### What is in a set -/
end Go.Proofs.Ytdfiinkpdaggeaa
