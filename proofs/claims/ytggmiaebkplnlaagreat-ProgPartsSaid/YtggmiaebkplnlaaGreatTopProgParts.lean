/- ProgParts of package fretworklaw21: at every input the law answers true. No conditions. -/
import Derived.Test.YtggmiaebkplnlaaGreatRows
import Derived.Test.YtggmiaebkplnlaaGreatVProgParts1
import Derived.Test.YtggmiaebkplnlaaGreatPlnH
import Derived.Test.YtggmiaebkplnlaaGreatRD
import Derived.WalkKit
import Derived.ProofKit
namespace Go.Proofs.YtggmiaebkplnlaaGreat.ProgParts
open Go Go.Fw Go.ChangeShapes Go.WideShapes Go.ChangeAt Go.RowKit
set_option linter.unusedVariables false
set_option maxRecDepth 100000
theorem own : ownKnob Tryz.prog.godebug = none := by kernel_rfl
theorem LO : laidOutB Tryz.prog = true := by kernel_rfl
theorem lifted (os : Os) (started : os.Started) (H : Type) (enc : TypeId × Value → H) :
    ReturnsInHanded {} Tryz.checked os 5 .any (Rows.progPartsSpec.pre6 enc Tryz.prog Tryz.f5 Rows.progPartsRow.domain false) (Rows.progPartsSpec.post enc Tryz.prog Tryz.f5 false true false false) := by
  refine returnsInHanded_of_change (C := Tryz.checked) own started (by kernel_rfl) Tryz.func5
    (ChangeSpec.witness6 (enc := enc) (C := Tryz.checked) false ⟨#[], #[.agg #[.int .i64 0, .int .i64 0, .int .i64 0, .int .i64 0, .slice none 0 0], .agg #[.slice none 0 0, .slice none 0 0], .agg #[.int .u8 0, .int .u8 0]], []⟩ 12 (by kernel_rfl) (by kernel_rfl) (by kernel_rfl) (by kernel_rfl)) ?_
  intro W base args ds gs before hval0 hW hcnd _
  have hval : ∀ (j : Nat) t v, Tryz.f5.params[j]? = some t → args[j]? = some v → Value.okWide Tryz.prog W .any base t v := hval0
  have hW' := hW
  obtain ⟨p, q, hA0, hV, rfl, hfz, hnd⟩ := hW
  have hA : DataW.TrodAll enc Tryz.prog W 0 (fun _ => true) true Tryz.f5.params.toList args.toList ds p := hA0
  rw [Tryz.params5] at hA hval
  obtain ⟨v0, vs0, d0, ds0, p0, q0, hargs, rfl, rfl, h0, r0⟩ := trodAll_cons hA
  obtain ⟨v1, vs1, d1, ds1, p1, q1, rfl, rfl, rfl, h1, r1⟩ := trodAll_cons r0
  obtain ⟨v2, vs2, d2, ds2, p2, q2, rfl, rfl, rfl, h2, r2⟩ := trodAll_cons r1
  obtain ⟨rfl, rfl, rfl⟩ := trodAll_nil r2
  obtain rfl : args = #[v0, v1, v2] := by cases args; simp_all
  obtain ⟨cs0, a0, rfl, g0, w0⟩ := Rd.argA RD25 (hval 0 25 v0 rfl rfl) h0 (by kernel_rfl)
  obtain ⟨cs0⟩ := cs0
  obtain ⟨p0_0, c0_0, g0, R0_0⟩ := g0
  cases g0
  obtain ⟨cs1, a1, rfl, g1, w1⟩ := Rd.argA RD58 (hval 1 58 v1 rfl rfl) h1 (by kernel_rfl)
  obtain ⟨cs1⟩ := cs1
  obtain ⟨p1_0, c1_0, p1_1, c1_1, g1, R1_0, R1_1⟩ := g1
  cases g1
  obtain ⟨cs2, a2, rfl, g2, w2⟩ := Rd.argA RD59 (hval 2 59 v2 rfl rfl) h2 (by kernel_rfl)
  obtain ⟨cs2⟩ := cs2
  cases g2
  refine law_calls (W_law21_ProgParts R0_0 R1_0 R1_1 (ProgParts_ok a0 a1 a2 w1 w2)) fun I v W' hφ hb => ?_
  obtain ⟨r, rfl, rfl⟩ := hφ
  exact ⟨_, rfl, law_post LO (by kernel_rfl) rfl Tryz.underlying4 rfl (fun ds hl => by match ds, hl with | [d0, d1, d2], _ => rfl) hW' hb⟩
theorem over : Rows.progPartsRow.holds Tryz.pinned (OpenSpec.ofChange Rows.progPartsSpec) :=
  OpenClaim.holds_of_wide 5 Tryz.f5 rfl rfl rfl rfl rfl rfl rfl ⟨rfl, rfl, rfl, rfl, rfl⟩ rfl rfl rfl rfl rfl (by kernel_rfl) Tryz.func5 (by kernel_rfl)
    (of_decide_eq_true (by kernel_rfl)) (by unfold Func.isWrapper; first | (rw [if_pos (by decide +kernel)]; kernel_rfl) | (rw [if_neg (by decide +kernel)]; exact ⟨rfl, rfl⟩))
    (fun os started H enc _ => lifted os started H enc)
theorem proved : Rows.ProgPartsSaid := over
#print axioms proved
end Go.Proofs.YtggmiaebkplnlaaGreat.ProgParts
