/- Matrices by columns: the reference. -/
import Derived.Test.YtjobeiikppmidaaDcscD
namespace Go.Proofs.Ytjobeiikppmidaa
open Go Go.Fw
set_option linter.unusedVariables false
set_option linter.unusedSimpArgs false
theorem atS_succ (n : Nat) (T : List Triple) : atS (n + 1) T = if segS T n = [] then atS n T else atS n T ++ [(n : Int)] := by
  have e : anyR T n = !(segS T n).isEmpty := by
    unfold anyR segS
    rw [Bool.eq_iff_iff]
    simp only [List.any_eq_true, decide_eq_true_eq, Bool.not_eq_true', List.isEmpty_eq_false_iff, ne_eq, List.filter_eq_nil_iff, Classical.not_forall]
    simp
  unfold atS
  rw [List.range_succ, List.filter_append, List.map_append]
  by_cases h : segS T n = []
  · rw [if_pos h]
    have : anyR T n = false := by rw [e, h]; rfl
    simp [this]
  · rw [if_neg h]
    have : anyR T n = true := by rw [e]; cases hs : segS T n with
      | nil => exact absurd hs h
      | cons => rfl
    simp [this]
theorem Seg.lens {T : List Triple} {x lo hi : Nat} (s : Seg T x lo hi) : (segS T x).length = hi - lo := by
  rw [← s.eq]; have := s.len; simp; omega
end Go.Proofs.Ytjobeiikppmidaa
