/- How arguments read (printed by a program of ours). -/
import Derived.Test.YtjobeiikppmidaaGreatOK
import Derived.Test.YtjobeiikppmidaaGreatF
import Derived.Test.YtjobeiikppmidaaGreatFwT
namespace Go.Proofs.YtjobeiikppmidaaGreat
open Go Go.Fw
set_option linter.unusedVariables false
set_option maxRecDepth 100000
theorem RD3 : Rd Tryz.prog 3 eI64 (inR .i64) := Rd.int (by kernel_rfl) Tryz.underlying3 _
theorem RD22 : Rd Tryz.prog 22 (slEl eI64) (fun xs => (∀ x ∈ xs, (inR .i64) x) ∧ xs.length ≤ maxLen) := Rd.slice (by kernel_rfl) Tryz.underlying22 (by decide) RD3
theorem RD2 : Rd Tryz.prog 2 eI64 (inR .i64) := Rd.int (by kernel_rfl) Tryz.underlying2 _
theorem RD23 : Rd Tryz.prog 23 (slEl eI64) (fun xs => (∀ x ∈ xs, (inR .i64) x) ∧ xs.length ≤ maxLen) := Rd.slice (by kernel_rfl) Tryz.underlying23 (by decide) RD2
theorem RD25 : Rd Tryz.prog 25 eRows okRows := by
  refine ⟨by kernel_rfl, fun enc w sp held fuel cs d h => ?_⟩
  obtain ⟨hl, n, hf⟩ := trod_fields Tryz.underlying25 h
  have hl : cs.length = 5 := hl.trans (by kernel_rfl)
  obtain ⟨x0, h0, k0⟩ := Rd.field RD3 hf 0 rfl rfl (off := 0) rfl
  obtain ⟨x1, h1, k1⟩ := Rd.field RD3 hf 1 rfl rfl (off := 1) rfl
  obtain ⟨x2, h2, k2⟩ := Rd.field RD22 hf 2 rfl rfl (off := 2) rfl
  obtain ⟨x3, h3, k3⟩ := Rd.field RD22 hf 3 rfl rfl (off := 3) rfl
  obtain ⟨x4, h4, k4⟩ := Rd.field RD23 hf 4 rfl rfl (off := 4) rfl
  obtain ⟨c0, c1, c2, c3, c4, rfl⟩ : ∃ c0 c1 c2 c3 c4, cs = [c0, c1, c2, c3, c4] := by
    match cs, hl with
    | [c0, c1, c2, c3, c4], _ => exact ⟨c0, c1, c2, c3, c4, rfl⟩
  have e0 : [c0] = [Value.int .i64 x0] := h0
  simp only [List.cons.injEq, and_true] at e0
  obtain rfl := e0
  have e1 : [c1] = [Value.int .i64 x1] := h1
  simp only [List.cons.injEq, and_true] at e1
  obtain rfl := e1
  obtain ⟨a2_0, b2_0, e2, R2_0⟩ := h2
  have e2 : [c2] = [Value.slice a2_0 x2.length b2_0] := e2
  simp only [List.cons.injEq, and_true] at e2
  obtain rfl := e2
  obtain ⟨a3_0, b3_0, e3, R3_0⟩ := h3
  have e3 : [c3] = [Value.slice a3_0 x3.length b3_0] := e3
  simp only [List.cons.injEq, and_true] at e3
  obtain rfl := e3
  obtain ⟨a4_0, b4_0, e4, R4_0⟩ := h4
  have e4 : [c4] = [Value.slice a4_0 x4.length b4_0] := e4
  simp only [List.cons.injEq, and_true] at e4
  obtain rfl := e4
  exact ⟨{ Rows := x0, Cols := x1, Start := x2, Col := x3, Val := x4 }, ⟨_, _, _, _, _, _, rfl, R2_0, R3_0, R4_0⟩, k0, k1, k2, k3, k4⟩
theorem RD27 : Rd Tryz.prog 27 eColumns okColumns := by
  refine ⟨by kernel_rfl, fun enc w sp held fuel cs d h => ?_⟩
  obtain ⟨hl, n, hf⟩ := trod_fields Tryz.underlying27 h
  have hl : cs.length = 6 := hl.trans (by kernel_rfl)
  obtain ⟨x0, h0, k0⟩ := Rd.field RD3 hf 0 rfl rfl (off := 0) rfl
  obtain ⟨x1, h1, k1⟩ := Rd.field RD3 hf 1 rfl rfl (off := 1) rfl
  obtain ⟨x2, h2, k2⟩ := Rd.field RD22 hf 2 rfl rfl (off := 2) rfl
  obtain ⟨x3, h3, k3⟩ := Rd.field RD22 hf 3 rfl rfl (off := 3) rfl
  obtain ⟨x4, h4, k4⟩ := Rd.field RD22 hf 4 rfl rfl (off := 4) rfl
  obtain ⟨x5, h5, k5⟩ := Rd.field RD23 hf 5 rfl rfl (off := 5) rfl
  obtain ⟨c0, c1, c2, c3, c4, c5, rfl⟩ : ∃ c0 c1 c2 c3 c4 c5, cs = [c0, c1, c2, c3, c4, c5] := by
    match cs, hl with
    | [c0, c1, c2, c3, c4, c5], _ => exact ⟨c0, c1, c2, c3, c4, c5, rfl⟩
  have e0 : [c0] = [Value.int .i64 x0] := h0
  simp only [List.cons.injEq, and_true] at e0
  obtain rfl := e0
  have e1 : [c1] = [Value.int .i64 x1] := h1
  simp only [List.cons.injEq, and_true] at e1
  obtain rfl := e1
  obtain ⟨a2_0, b2_0, e2, R2_0⟩ := h2
  have e2 : [c2] = [Value.slice a2_0 x2.length b2_0] := e2
  simp only [List.cons.injEq, and_true] at e2
  obtain rfl := e2
  obtain ⟨a3_0, b3_0, e3, R3_0⟩ := h3
  have e3 : [c3] = [Value.slice a3_0 x3.length b3_0] := e3
  simp only [List.cons.injEq, and_true] at e3
  obtain rfl := e3
  obtain ⟨a4_0, b4_0, e4, R4_0⟩ := h4
  have e4 : [c4] = [Value.slice a4_0 x4.length b4_0] := e4
  simp only [List.cons.injEq, and_true] at e4
  obtain rfl := e4
  obtain ⟨a5_0, b5_0, e5, R5_0⟩ := h5
  have e5 : [c5] = [Value.slice a5_0 x5.length b5_0] := e5
  simp only [List.cons.injEq, and_true] at e5
  obtain rfl := e5
  exact ⟨{ Rows := x0, Cols := x1, At := x2, Start := x3, Row := x4, Val := x5 }, ⟨_, _, _, _, _, _, _, _, rfl, R2_0, R3_0, R4_0, R5_0⟩, k0, k1, k2, k3, k4, k5⟩
end Go.Proofs.YtjobeiikppmidaaGreat
