/- How arguments read (printed by a program of ours). -/
import Derived.Test.YtjabmpfcpekpdaaGreatOK
import Derived.Test.YtjabmpfcpekpdaaGreatF
import Derived.Test.YtjabmpfcpekpdaaGreatFwT
namespace Go.Proofs.YtjabmpfcpekpdaaGreat
open Go Go.Fw
set_option linter.unusedVariables false
set_option maxRecDepth 100000
theorem RD22 : Rd Tryz.prog 22 eI64 (inR .i64) := Rd.int (by kernel_rfl) Tryz.underlying22 _
theorem RD3 : Rd Tryz.prog 3 eI64 (inR .i64) := Rd.int (by kernel_rfl) Tryz.underlying3 _
theorem RD2 : Rd Tryz.prog 2 eI64 (inR .i64) := Rd.int (by kernel_rfl) Tryz.underlying2 _
theorem RD55 : Rd Tryz.prog 55 eU64 (inR .u64) := Rd.int (by kernel_rfl) Tryz.underlying55 _
theorem RD57 : Rd Tryz.prog 57 eWide okWide := by
  refine ⟨by kernel_rfl, fun enc w sp held fuel cs d h => ?_⟩
  obtain ⟨hl, n, hf⟩ := trod_fields Tryz.underlying57 h
  have hl : cs.length = 2 := hl.trans (by kernel_rfl)
  obtain ⟨x0, h0, k0⟩ := Rd.field RD2 hf 0 rfl rfl (off := 0) rfl
  obtain ⟨x1, h1, k1⟩ := Rd.field RD55 hf 1 rfl rfl (off := 1) rfl
  obtain ⟨c0, c1, rfl⟩ : ∃ c0 c1, cs = [c0, c1] := by
    match cs, hl with
    | [c0, c1], _ => exact ⟨c0, c1, rfl⟩
  have e0 : [c0] = [Value.int .i64 x0] := h0
  simp only [List.cons.injEq, and_true] at e0
  obtain rfl := e0
  have e1 : [c1] = [Value.int .u64 x1] := h1
  simp only [List.cons.injEq, and_true] at e1
  obtain rfl := e1
  exact ⟨{ Hi := x0, Lo := x1 }, rfl, k0, k1⟩
theorem RD59 : Rd Tryz.prog 59 eCell okCell := by
  refine ⟨by kernel_rfl, fun enc w sp held fuel cs d h => ?_⟩
  obtain ⟨hl, n, hf⟩ := trod_fields Tryz.underlying59 h
  have hl : cs.length = 4 := hl.trans (by kernel_rfl)
  obtain ⟨x0, h0, k0⟩ := Rd.field RD3 hf 0 rfl rfl (off := 0) rfl
  obtain ⟨x1, h1, k1⟩ := Rd.field RD3 hf 1 rfl rfl (off := 1) rfl
  obtain ⟨x2, h2, k2⟩ := Rd.field RD57 hf 2 rfl rfl (off := 2) rfl
  obtain ⟨c0, c1, c2, c3, rfl⟩ : ∃ c0 c1 c2 c3, cs = [c0, c1, c2, c3] := by
    match cs, hl with
    | [c0, c1, c2, c3], _ => exact ⟨c0, c1, c2, c3, rfl⟩
  have e0 : [c0] = [Value.int .i64 x0] := h0
  simp only [List.cons.injEq, and_true] at e0
  obtain rfl := e0
  have e1 : [c1] = [Value.int .i64 x1] := h1
  simp only [List.cons.injEq, and_true] at e1
  obtain rfl := e1
  have e2 : [c2, c3] = [Value.int .i64 x2.Hi, Value.int .u64 x2.Lo] := h2
  simp only [List.cons.injEq, and_true] at e2
  obtain ⟨rfl, rfl⟩ := e2
  exact ⟨{ Row := x0, Col := x1, Val := x2 }, rfl, k0, k1, k2⟩
theorem RD33 : Rd Tryz.prog 33 (slEl eCell) (fun xs => (∀ x ∈ xs, okCell x) ∧ xs.length ≤ maxLen) := Rd.slice (by kernel_rfl) Tryz.underlying33 (by decide) RD59
theorem RD45 : Rd Tryz.prog 45 (slEl (slEl eCell)) (fun xs => (∀ x ∈ xs, (fun xs => (∀ x ∈ xs, okCell x) ∧ xs.length ≤ maxLen) x) ∧ xs.length ≤ maxLen) := Rd.slice (by kernel_rfl) Tryz.underlying45 (by decide) RD33
theorem RD46 : Rd Tryz.prog 46 (flat 2 (fun x : Int × Int => [.int .i64 x.1, .int .i64 x.2]) (fun _ => ⟨rfl, rfl⟩)) (fun x => (inR .i64) (x.1) ∧ (inR .i64) (x.2)) := by
  refine ⟨by kernel_rfl, fun enc w sp held fuel cs d h => ?_⟩
  obtain ⟨hl, hf⟩ := Rd.elemA Tryz.underlying46 RD3 h
  have hl : cs.length = 2 := hl.trans (by kernel_rfl)
  obtain ⟨x0, h0, k0⟩ := hf 0 (by decide)
  obtain ⟨x1, h1, k1⟩ := hf 1 (by decide)
  obtain ⟨c0, c1, rfl⟩ : ∃ c0 c1, cs = [c0, c1] := by
    match cs, hl with
    | [c0, c1], _ => exact ⟨c0, c1, rfl⟩
  have e0 : [c0] = [Value.int .i64 x0] := h0
  simp only [List.cons.injEq, and_true] at e0
  obtain rfl := e0
  have e1 : [c1] = [Value.int .i64 x1] := h1
  simp only [List.cons.injEq, and_true] at e1
  obtain rfl := e1
  exact ⟨(x0, x1), rfl, k0, k1⟩
end Go.Proofs.YtjabmpfcpekpdaaGreat
