/- DcscFull of package fretworklaw08: at every input the law answers true. No conditions. -/
import Derived.Test.YtjobeiikppmidaaRows
import Derived.Test.YtjobeiikppmidaaVDcscFull1
import Derived.Test.YtjobeiikppmidaaDcscF
import Derived.Test.YtjobeiikppmidaaRD
import Derived.WalkKit
import Derived.ProofKit
namespace Go.Proofs.Ytjobeiikppmidaa.DcscFull
open Go Go.Fw Go.ChangeShapes Go.WideShapes Go.ChangeAt Go.RowKit
set_option linter.unusedVariables false
set_option maxRecDepth 100000
theorem own : ownKnob Try.prog.godebug = none := by kernel_rfl
theorem LO : laidOutB Try.prog = true := by kernel_rfl
theorem lifted (os : Os) (started : os.Started) (H : Type) (enc : TypeId × Value → H) :
    ReturnsInHanded {} Try.checked os 5 .any (Rows.dcscFullSpec.pre6 enc Try.prog Try.f5 Rows.dcscFullRow.domain false) (Rows.dcscFullSpec.post enc Try.prog Try.f5 false true false false) := by
  refine returnsInHanded_of_change (C := Try.checked) own started (by kernel_rfl) Try.func5
    (ChangeSpec.witness6 (enc := enc) (C := Try.checked) false ⟨#[], #[.agg #[.int .u8 0, .int .u8 0], .slice none 0 0], []⟩ 12 (by kernel_rfl) (by kernel_rfl) (by kernel_rfl) (by kernel_rfl)) ?_
  intro W base args ds gs before hval0 hW hcnd _
  have hval : ∀ (j : Nat) t v, Try.f5.params[j]? = some t → args[j]? = some v → Value.okWide Try.prog W .any base t v := hval0
  have hW' := hW
  obtain ⟨p, q, hA0, hV, rfl, hfz, hnd⟩ := hW
  have hA : DataW.TrodAll enc Try.prog W 0 (fun _ => true) true Try.f5.params.toList args.toList ds p := hA0
  rw [Try.params5] at hA hval
  obtain ⟨v0, vs0, d0, ds0, p0, q0, hargs, rfl, rfl, h0, r0⟩ := trodAll_cons hA
  obtain ⟨v1, vs1, d1, ds1, p1, q1, rfl, rfl, rfl, h1, r1⟩ := trodAll_cons r0
  obtain ⟨rfl, rfl, rfl⟩ := trodAll_nil r1
  obtain rfl : args = #[v0, v1] := by cases args; simp_all
  obtain ⟨cs0, a0, rfl, g0, w0⟩ := Rd.argA RD22 (hval 0 22 v0 rfl rfl) h0 (by kernel_rfl)
  obtain ⟨cs0⟩ := cs0
  cases g0
  obtain ⟨a1, ⟨p1_, c1_, g1, R1⟩, w1⟩ := Rd.arg RD23 (hval 1 23 v1 rfl rfl) h1 (by kernel_rfl)
  cases g1
  refine law_calls (W_law08_DcscFull R1 (DcscFull_ok a0 a1 w0 w1)) fun I v W' hφ hb => ?_
  obtain ⟨r, rfl, rfl⟩ := hφ
  exact ⟨_, rfl, law_post LO (by kernel_rfl) rfl Try.underlying4 rfl (fun ds hl => by match ds, hl with | [d0, d1], _ => rfl) hW' hb⟩
theorem over : Rows.dcscFullRow.holds Try.pinned (OpenSpec.ofChange Rows.dcscFullSpec) :=
  OpenClaim.holds_of_wide 5 Try.f5 rfl rfl rfl rfl rfl rfl rfl ⟨rfl, rfl, rfl, rfl, rfl⟩ rfl rfl rfl rfl rfl (by kernel_rfl) Try.func5 (by kernel_rfl)
    (of_decide_eq_true (by kernel_rfl)) (by unfold Func.isWrapper; first | (rw [if_pos (by decide +kernel)]; kernel_rfl) | (rw [if_neg (by decide +kernel)]; exact ⟨rfl, rfl⟩))
    (fun os started H enc _ => lifted os started H enc)
theorem proved : Rows.DcscFullSaid := over
#print axioms proved
end Go.Proofs.Ytjobeiikppmidaa.DcscFull
