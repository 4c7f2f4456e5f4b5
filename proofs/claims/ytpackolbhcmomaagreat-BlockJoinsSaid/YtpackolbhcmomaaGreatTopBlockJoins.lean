/- BlockJoins of package fretworklaw18: at every input the law answers true. No conditions. -/
import Derived.Test.YtpackolbhcmomaaGreatRows
import Derived.Test.YtpackolbhcmomaaGreatVBlockJoins1
import Derived.Test.YtpackolbhcmomaaGreatBlkG
import Derived.Test.YtpackolbhcmomaaGreatRD
import Derived.WalkKit
import Derived.ProofKit
namespace Go.Proofs.YtpackolbhcmomaaGreat.BlockJoins
open Go Go.Fw Go.ChangeShapes Go.WideShapes Go.ChangeAt Go.RowKit
set_option linter.unusedVariables false
set_option maxRecDepth 100000
theorem own : ownKnob Tryz.prog.godebug = none := by kernel_rfl
theorem LO : laidOutB Tryz.prog = true := by kernel_rfl
theorem lifted (os : Os) (started : os.Started) (H : Type) (enc : TypeId × Value → H) :
    ReturnsInHanded {} Tryz.checked os 4 .any (Rows.blockJoinsSpec.pre6 enc Tryz.prog Tryz.f4 Rows.blockJoinsRow.domain false) (Rows.blockJoinsSpec.post enc Tryz.prog Tryz.f4 false true false false) := by
  refine returnsInHanded_of_change (C := Tryz.checked) own started (by kernel_rfl) Tryz.func4
    (ChangeSpec.witness6 (enc := enc) (C := Tryz.checked) false ⟨#[], #[.slice none 0 0, .slice none 0 0, .agg #[.int .i64 0, .int .i64 0, .int .i64 0, .int .i64 0]], []⟩ 12 (by kernel_rfl) (by kernel_rfl) (by kernel_rfl) (by kernel_rfl)) ?_
  intro W base args ds gs before hval0 hW hcnd _
  have hval : ∀ (j : Nat) t v, Tryz.f4.params[j]? = some t → args[j]? = some v → Value.okWide Tryz.prog W .any base t v := hval0
  have hW' := hW
  obtain ⟨p, q, hA0, hV, rfl, hfz, hnd⟩ := hW
  have hA : DataW.TrodAll enc Tryz.prog W 0 (fun _ => true) true Tryz.f4.params.toList args.toList ds p := hA0
  rw [Tryz.params4] at hA hval
  obtain ⟨v0, vs0, d0, ds0, p0, q0, hargs, rfl, rfl, h0, r0⟩ := trodAll_cons hA
  obtain ⟨v1, vs1, d1, ds1, p1, q1, rfl, rfl, rfl, h1, r1⟩ := trodAll_cons r0
  obtain ⟨v2, vs2, d2, ds2, p2, q2, rfl, rfl, rfl, h2, r2⟩ := trodAll_cons r1
  obtain ⟨rfl, rfl, rfl⟩ := trodAll_nil r2
  obtain rfl : args = #[v0, v1, v2] := by cases args; simp_all
  obtain ⟨a0, ⟨p0_, c0_, g0, R0⟩, w0⟩ := Rd.arg RD46 (hval 0 46 v0 rfl rfl) h0 (by kernel_rfl)
  cases g0
  obtain ⟨a1, ⟨p1_, c1_, g1, R1⟩, w1⟩ := Rd.arg RD47 (hval 1 47 v1 rfl rfl) h1 (by kernel_rfl)
  cases g1
  obtain ⟨cs2, a2, rfl, g2, w2⟩ := Rd.argA RD30 (hval 2 30 v2 rfl rfl) h2 (by kernel_rfl)
  obtain ⟨cs2⟩ := cs2
  cases g2
  refine law_calls (W_law18_BlockJoins R0 R1 (BlockJoins_ok a0 a1 a2 w0 w1)) fun I v W' hφ hb => ?_
  obtain ⟨r, rfl, rfl⟩ := hφ
  exact ⟨_, rfl, law_post LO (by kernel_rfl) rfl Tryz.underlying4 rfl (fun ds hl => by match ds, hl with | [d0, d1, d2], _ => rfl) hW' hb⟩
theorem over : Rows.blockJoinsRow.holds Tryz.pinned (OpenSpec.ofChange Rows.blockJoinsSpec) :=
  OpenClaim.holds_of_wide 4 Tryz.f4 rfl rfl rfl rfl rfl rfl rfl ⟨rfl, rfl, rfl, rfl, rfl⟩ rfl rfl rfl rfl rfl (by kernel_rfl) Tryz.func4 (by kernel_rfl)
    (of_decide_eq_true (by kernel_rfl)) (by unfold Func.isWrapper; first | (rw [if_pos (by decide +kernel)]; kernel_rfl) | (rw [if_neg (by decide +kernel)]; exact ⟨rfl, rfl⟩))
    (fun os started H enc _ => lifted os started H enc)
theorem proved : Rows.BlockJoinsSaid := over
#print axioms proved
end Go.Proofs.YtpackolbhcmomaaGreat.BlockJoins
