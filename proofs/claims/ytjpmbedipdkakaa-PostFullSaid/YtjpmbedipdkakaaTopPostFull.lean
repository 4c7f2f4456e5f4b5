/- PostFull of package fretworklaw20: at every room the law answers true. No conditions. -/
import Derived.Test.YtjpmbedipdkakaaRows
import Derived.Test.YtjpmbedipdkakaaW3
import Derived.Test.YtjpmbedipdkakaaPostB
import Derived.Test.YtjpmbedipdkakaaFwT
import Derived.WalkKit
import Derived.ProofKit
namespace Go.Proofs.Ytjpmbedipdkakaa.PostFull
open Go Go.Fw Go.ChangeShapes Go.WideShapes Go.ChangeAt Go.RowKit
set_option linter.unusedVariables false
set_option maxRecDepth 100000
theorem own : ownKnob Try.prog.godebug = none := by kernel_rfl
theorem LO : laidOutB Try.prog = true := by kernel_rfl
theorem lifted (os : Os) (started : os.Started) (H : Type) (enc : TypeId × Value → H) :
    ReturnsInHanded {} Try.checked os 3 .any (Rows.postFullSpec.pre6 enc Try.prog Try.f3 Rows.postFullRow.domain false) (Rows.postFullSpec.post enc Try.prog Try.f3 false true false false) := by
  refine returnsInHanded_of_change (C := Try.checked) own started (by kernel_rfl) Try.func3
    (ChangeSpec.witness6 (enc := enc) (C := Try.checked) false ⟨#[], #[.int .u8 0], []⟩ 8 (by kernel_rfl) (by kernel_rfl) (by kernel_rfl) (by kernel_rfl)) ?_
  intro W base args ds gs before hval0 hW hcnd _
  have hval : ∀ (j : Nat) t v, Try.f3.params[j]? = some t → args[j]? = some v → Value.okWide Try.prog W .any base t v := hval0
  have hW' := hW
  obtain ⟨p, q, hA0, hV, rfl, hfz, hnd⟩ := hW
  have hA : DataW.TrodAll enc Try.prog W 0 (fun _ => true) true Try.f3.params.toList args.toList ds p := hA0
  rw [Try.params3] at hA hval
  obtain ⟨v0, vs0, d0, ds0, p0, q0, hargs, rfl, rfl, h0, r0⟩ := trodAll_cons hA
  obtain ⟨rfl, rfl, rfl⟩ := trodAll_nil r0
  obtain rfl : args = #[v0] := by cases args; simp_all
  obtain ⟨a0, h1, w0⟩ := Rd.arg (Rd.int (k := .u8) (by kernel_rfl) Try.underlying5 (fun _ => ⟨rfl, rfl⟩)) (hval 0 5 v0 rfl rfl) h0 (by kernel_rfl)
  cases h1
  refine law_calls (W_law20_PostFull (PostFull_ok a0 w0)) fun I v W' hφ hb => ?_
  obtain ⟨r, rfl, rfl⟩ := hφ
  exact ⟨_, rfl, law_post LO (by kernel_rfl) rfl Try.underlying4 rfl (fun ds hl => by match ds, hl with | [d], _ => rfl) hW' hb⟩
theorem over : Rows.postFullRow.holds Try.pinned (OpenSpec.ofChange Rows.postFullSpec) :=
  OpenClaim.holds_of_wide 3 Try.f3 rfl rfl rfl rfl rfl rfl rfl ⟨rfl, rfl, rfl, rfl, rfl⟩ rfl rfl rfl rfl rfl (by kernel_rfl) Try.func3 (by kernel_rfl)
    (of_decide_eq_true (by kernel_rfl)) (by unfold Func.isWrapper; first | (rw [if_pos (by decide +kernel)]; kernel_rfl) | (rw [if_neg (by decide +kernel)]; exact ⟨rfl, rfl⟩))
    (fun os started H enc _ => lifted os started H enc)
theorem proved : Rows.PostFullSaid := over
#print axioms proved
end Go.Proofs.Ytjpmbedipdkakaa.PostFull
