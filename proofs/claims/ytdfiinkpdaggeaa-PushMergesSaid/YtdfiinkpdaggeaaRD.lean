/- How arguments read (printed by a program of ours). -/
import Derived.Test.YtdfiinkpdaggeaaOK
import Derived.Test.YtdfiinkpdaggeaaF
import Derived.Test.YtdfiinkpdaggeaaFwT
namespace Go.Proofs.Ytdfiinkpdaggeaa
open Go Go.Fw
set_option linter.unusedVariables false
set_option maxRecDepth 100000
theorem RD22 : Rd Try.prog 22 eI64 (inR .i64) := Rd.int (by kernel_rfl) Try.underlying22 _
theorem RD3 : Rd Try.prog 3 eI64 (inR .i64) := Rd.int (by kernel_rfl) Try.underlying3 _
theorem RD2 : Rd Try.prog 2 eI64 (inR .i64) := Rd.int (by kernel_rfl) Try.underlying2 _
theorem RD42 : Rd Try.prog 42 eU64 (inR .u64) := Rd.int (by kernel_rfl) Try.underlying42 _
theorem RD44 : Rd Try.prog 44 eWide okWide := by
  refine ⟨by kernel_rfl, fun enc w sp held fuel cs d h => ?_⟩
  obtain ⟨hl, n, hf⟩ := trod_fields Try.underlying44 h
  have hl : cs.length = 2 := hl.trans (by kernel_rfl)
  obtain ⟨x0, h0, k0⟩ := Rd.field RD2 hf 0 rfl rfl (off := 0) rfl
  obtain ⟨x1, h1, k1⟩ := Rd.field RD42 hf 1 rfl rfl (off := 1) rfl
  obtain ⟨c0, c1, rfl⟩ : ∃ c0 c1, cs = [c0, c1] := by
    match cs, hl with
    | [c0, c1], _ => exact ⟨c0, c1, rfl⟩
  have e0 : [c0] = [Value.int .i64 x0] := h0
  simp only [List.cons.injEq, and_true] at e0
  obtain rfl := e0
  have e1 : [c1] = [Value.int .u64 x1] := h1
  simp only [List.cons.injEq, and_true] at e1
  obtain rfl := e1
  exact ⟨{ Hi := x0, Lo := x1 }, rfl, k0, k1⟩
theorem RD46 : Rd Try.prog 46 eSum okSum := by
  refine ⟨by kernel_rfl, fun enc w sp held fuel cs d h => ?_⟩
  obtain ⟨hl, n, hf⟩ := trod_fields Try.underlying46 h
  have hl : cs.length = 3 := hl.trans (by kernel_rfl)
  obtain ⟨x0, h0, k0⟩ := Rd.field RD3 hf 0 rfl rfl (off := 0) rfl
  obtain ⟨x1, h1, k1⟩ := Rd.field RD44 hf 1 rfl rfl (off := 1) rfl
  obtain ⟨c0, c1, c2, rfl⟩ : ∃ c0 c1 c2, cs = [c0, c1, c2] := by
    match cs, hl with
    | [c0, c1, c2], _ => exact ⟨c0, c1, c2, rfl⟩
  have e0 : [c0] = [Value.int .i64 x0] := h0
  simp only [List.cons.injEq, and_true] at e0
  obtain rfl := e0
  have e1 : [c1, c2] = [Value.int .i64 x1.Hi, Value.int .u64 x1.Lo] := h1
  simp only [List.cons.injEq, and_true] at e1
  obtain ⟨rfl, rfl⟩ := e1
  exact ⟨{ At := x0, Val := x1 }, rfl, k0, k1⟩
theorem RD24 : Rd Try.prog 24 (slEl eSum) (fun xs => (∀ x ∈ xs, okSum x) ∧ xs.length ≤ maxLen) := Rd.slice (by kernel_rfl) Try.underlying24 (by decide) RD46
theorem RD23 : Rd Try.prog 23 (slEl (slEl eSum)) (fun xs => (∀ x ∈ xs, (fun xs => (∀ x ∈ xs, okSum x) ∧ xs.length ≤ maxLen) x) ∧ xs.length ≤ maxLen) := Rd.slice (by kernel_rfl) Try.underlying23 (by decide) RD24
end Go.Proofs.Ytdfiinkpdaggeaa
