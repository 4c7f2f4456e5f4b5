/- How arguments read (printed by a program of ours). -/
import Derived.Test.YtmidnfbbnmigeaaGreatOK
import Derived.Test.YtmidnfbbnmigeaaGreatF
import Derived.Test.YtmidnfbbnmigeaaGreatFwT
namespace Go.Proofs.YtmidnfbbnmigeaaGreat
open Go Go.Fw
set_option linter.unusedVariables false
set_option maxRecDepth 100000
theorem RD22 : Rd Tryz.prog 22 eI64 (inR .i64) := Rd.int (by kernel_rfl) Tryz.underlying22 _
theorem RD23 : Rd Tryz.prog 23 eI64 (inR .i64) := Rd.int (by kernel_rfl) Tryz.underlying23 _
theorem RD3 : Rd Tryz.prog 3 eI64 (inR .i64) := Rd.int (by kernel_rfl) Tryz.underlying3 _
theorem RD24 : Rd Tryz.prog 24 (flat 2 (fun x : Int × Int => [.int .i64 x.1, .int .i64 x.2]) (fun _ => ⟨rfl, rfl⟩)) (fun x => (inR .i64) (x.1) ∧ (inR .i64) (x.2)) := by
  refine ⟨by kernel_rfl, fun enc w sp held fuel cs d h => ?_⟩
  obtain ⟨hl, hf⟩ := Rd.elemA Tryz.underlying24 RD3 h
  have hl : cs.length = 2 := hl.trans (by kernel_rfl)
  obtain ⟨x0, h0, k0⟩ := hf 0 (by decide)
  obtain ⟨x1, h1, k1⟩ := hf 1 (by decide)
  obtain ⟨c0, c1, rfl⟩ : ∃ c0 c1, cs = [c0, c1] := by
    match cs, hl with
    | [c0, c1], _ => exact ⟨c0, c1, rfl⟩
  have e0 : [c0] = [Value.int .i64 x0] := h0
  simp only [List.cons.injEq, and_true] at e0
  obtain rfl := e0
  have e1 : [c1] = [Value.int .i64 x1] := h1
  simp only [List.cons.injEq, and_true] at e1
  obtain rfl := e1
  exact ⟨(x0, x1), rfl, k0, k1⟩
theorem RD5 : Rd Tryz.prog 5 eU8 (inR .u8) := Rd.int (by kernel_rfl) Tryz.underlying5 _
theorem RD2 : Rd Tryz.prog 2 eI64 (inR .i64) := Rd.int (by kernel_rfl) Tryz.underlying2 _
theorem RD80 : Rd Tryz.prog 80 eItem okItem := by
  refine ⟨by kernel_rfl, fun enc w sp held fuel cs d h => ?_⟩
  obtain ⟨hl, n, hf⟩ := trod_fields Tryz.underlying80 h
  have hl : cs.length = 2 := hl.trans (by kernel_rfl)
  obtain ⟨x0, h0, k0⟩ := Rd.field RD3 hf 0 rfl rfl (off := 0) rfl
  obtain ⟨x1, h1, k1⟩ := Rd.field RD2 hf 1 rfl rfl (off := 1) rfl
  obtain ⟨c0, c1, rfl⟩ : ∃ c0 c1, cs = [c0, c1] := by
    match cs, hl with
    | [c0, c1], _ => exact ⟨c0, c1, rfl⟩
  have e0 : [c0] = [Value.int .i64 x0] := h0
  simp only [List.cons.injEq, and_true] at e0
  obtain rfl := e0
  have e1 : [c1] = [Value.int .i64 x1] := h1
  simp only [List.cons.injEq, and_true] at e1
  obtain rfl := e1
  exact ⟨{ At := x0, Val := x1 }, rfl, k0, k1⟩
theorem RD32 : Rd Tryz.prog 32 (slEl eItem) (fun xs => (∀ x ∈ xs, okItem x) ∧ xs.length ≤ maxLen) := Rd.slice (by kernel_rfl) Tryz.underlying32 (by decide) RD80
end Go.Proofs.YtmidnfbbnmigeaaGreat
