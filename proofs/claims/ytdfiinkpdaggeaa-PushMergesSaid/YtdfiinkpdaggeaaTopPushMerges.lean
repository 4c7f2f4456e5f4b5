/- PushMerges of package fretworklaw14: at every input the law answers true. No conditions. -/
import Derived.Test.YtdfiinkpdaggeaaRows
import Derived.Test.YtdfiinkpdaggeaaVPushMerges1
import Derived.Test.YtdfiinkpdaggeaaPushI
import Derived.Test.YtdfiinkpdaggeaaRD
import Derived.WalkKit
import Derived.ProofKit
namespace Go.Proofs.Ytdfiinkpdaggeaa.PushMerges
open Go Go.Fw Go.ChangeShapes Go.WideShapes Go.ChangeAt Go.RowKit
set_option linter.unusedVariables false
set_option maxRecDepth 100000
theorem own : ownKnob Try.prog.godebug = none := by kernel_rfl
theorem LO : laidOutB Try.prog = true := by kernel_rfl
theorem lifted (os : Os) (started : os.Started) (H : Type) (enc : TypeId × Value → H) :
    ReturnsInHanded {} Try.checked os 3 .any (Rows.pushMergesSpec.pre6 enc Try.prog Try.f3 Rows.pushMergesRow.domain false) (Rows.pushMergesSpec.post enc Try.prog Try.f3 false true false false) := by
  refine returnsInHanded_of_change (C := Try.checked) own started (by kernel_rfl) Try.func3
    (ChangeSpec.witness6 (enc := enc) (C := Try.checked) false ⟨#[], #[.int .i64 0, .slice none 0 0], []⟩ 12 (by kernel_rfl) (by kernel_rfl) (by kernel_rfl) (by kernel_rfl)) ?_
  intro W base args ds gs before hval0 hW hcnd _
  have hval : ∀ (j : Nat) t v, Try.f3.params[j]? = some t → args[j]? = some v → Value.okWide Try.prog W .any base t v := hval0
  have hW' := hW
  obtain ⟨p, q, hA0, hV, rfl, hfz, hnd⟩ := hW
  have hA : DataW.TrodAll enc Try.prog W 0 (fun _ => true) true Try.f3.params.toList args.toList ds p := hA0
  rw [Try.params3] at hA hval
  obtain ⟨v0, vs0, d0, ds0, p0, q0, hargs, rfl, rfl, h0, r0⟩ := trodAll_cons hA
  obtain ⟨v1, vs1, d1, ds1, p1, q1, rfl, rfl, rfl, h1, r1⟩ := trodAll_cons r0
  obtain ⟨rfl, rfl, rfl⟩ := trodAll_nil r1
  obtain rfl : args = #[v0, v1] := by cases args; simp_all
  obtain ⟨a0, g0, w0⟩ := Rd.arg RD22 (hval 0 22 v0 rfl rfl) h0 (by kernel_rfl)
  cases g0
  obtain ⟨a1, ⟨p1_, c1_, g1, R1⟩, w1⟩ := Rd.arg RD23 (hval 1 23 v1 rfl rfl) h1 (by kernel_rfl)
  cases g1
  refine law_calls (W_law14_PushMerges R1 (PushMerges_ok a0 a1 w1)) fun I v W' hφ hb => ?_
  obtain ⟨r, rfl, rfl⟩ := hφ
  exact ⟨_, rfl, law_post LO (by kernel_rfl) rfl Try.underlying4 rfl (fun ds hl => by match ds, hl with | [d0, d1], _ => rfl) hW' hb⟩
theorem over : Rows.pushMergesRow.holds Try.pinned (OpenSpec.ofChange Rows.pushMergesSpec) :=
  OpenClaim.holds_of_wide 3 Try.f3 rfl rfl rfl rfl rfl rfl rfl ⟨rfl, rfl, rfl, rfl, rfl⟩ rfl rfl rfl rfl rfl (by kernel_rfl) Try.func3 (by kernel_rfl)
    (of_decide_eq_true (by kernel_rfl)) (by unfold Func.isWrapper; first | (rw [if_pos (by decide +kernel)]; kernel_rfl) | (rw [if_neg (by decide +kernel)]; exact ⟨rfl, rfl⟩))
    (fun os started H enc _ => lifted os started H enc)
theorem proved : Rows.PushMergesSaid := over
#print axioms proved
end Go.Proofs.Ytdfiinkpdaggeaa.PushMerges
