/- How arguments read (printed by a program of ours). -/
import Derived.Test.YtpackolbhcmomaaGreatOK
import Derived.Test.YtpackolbhcmomaaGreatF
import Derived.Test.YtpackolbhcmomaaGreatFwT
namespace Go.Proofs.YtpackolbhcmomaaGreat
open Go Go.Fw
set_option linter.unusedVariables false
set_option maxRecDepth 100000
theorem RD3 : Rd Tryz.prog 3 eI64 (inR .i64) := Rd.int (by kernel_rfl) Tryz.underlying3 _
theorem RD31 : Rd Tryz.prog 31 (slEl eI64) (fun xs => (∀ x ∈ xs, (inR .i64) x) ∧ xs.length ≤ maxLen) := Rd.slice (by kernel_rfl) Tryz.underlying31 (by decide) RD3
theorem RD2 : Rd Tryz.prog 2 eI64 (inR .i64) := Rd.int (by kernel_rfl) Tryz.underlying2 _
theorem RD32 : Rd Tryz.prog 32 (slEl eI64) (fun xs => (∀ x ∈ xs, (inR .i64) x) ∧ xs.length ≤ maxLen) := Rd.slice (by kernel_rfl) Tryz.underlying32 (by decide) RD2
theorem RD34 : Rd Tryz.prog 34 eRows okRows := by
  refine ⟨by kernel_rfl, fun enc w sp held fuel cs d h => ?_⟩
  obtain ⟨hl, n, hf⟩ := trod_fields Tryz.underlying34 h
  have hl : cs.length = 5 := hl.trans (by kernel_rfl)
  obtain ⟨x0, h0, k0⟩ := Rd.field RD3 hf 0 rfl rfl (off := 0) rfl
  obtain ⟨x1, h1, k1⟩ := Rd.field RD3 hf 1 rfl rfl (off := 1) rfl
  obtain ⟨x2, h2, k2⟩ := Rd.field RD31 hf 2 rfl rfl (off := 2) rfl
  obtain ⟨x3, h3, k3⟩ := Rd.field RD31 hf 3 rfl rfl (off := 3) rfl
  obtain ⟨x4, h4, k4⟩ := Rd.field RD32 hf 4 rfl rfl (off := 4) rfl
  obtain ⟨c0, c1, c2, c3, c4, rfl⟩ : ∃ c0 c1 c2 c3 c4, cs = [c0, c1, c2, c3, c4] := by
    match cs, hl with
    | [c0, c1, c2, c3, c4], _ => exact ⟨c0, c1, c2, c3, c4, rfl⟩
  have e0 : [c0] = [Value.int .i64 x0] := h0
  simp only [List.cons.injEq, and_true] at e0
  obtain rfl := e0
  have e1 : [c1] = [Value.int .i64 x1] := h1
  simp only [List.cons.injEq, and_true] at e1
  obtain rfl := e1
  obtain ⟨a2_0, b2_0, e2, R2_0⟩ := h2
  have e2 : [c2] = [Value.slice a2_0 x2.length b2_0] := e2
  simp only [List.cons.injEq, and_true] at e2
  obtain rfl := e2
  obtain ⟨a3_0, b3_0, e3, R3_0⟩ := h3
  have e3 : [c3] = [Value.slice a3_0 x3.length b3_0] := e3
  simp only [List.cons.injEq, and_true] at e3
  obtain rfl := e3
  obtain ⟨a4_0, b4_0, e4, R4_0⟩ := h4
  have e4 : [c4] = [Value.slice a4_0 x4.length b4_0] := e4
  simp only [List.cons.injEq, and_true] at e4
  obtain rfl := e4
  exact ⟨{ Rows := x0, Cols := x1, Start := x2, Col := x3, Val := x4 }, ⟨_, _, _, _, _, _, rfl, R2_0, R3_0, R4_0⟩, k0, k1, k2, k3, k4⟩
theorem RD46 : Rd Tryz.prog 46 (slEl eRows) (fun xs => (∀ x ∈ xs, okRows x) ∧ xs.length ≤ maxLen) := Rd.slice (by kernel_rfl) Tryz.underlying46 (by decide) RD34
theorem RD72 : Rd Tryz.prog 72 eItem okItem := by
  refine ⟨by kernel_rfl, fun enc w sp held fuel cs d h => ?_⟩
  obtain ⟨hl, n, hf⟩ := trod_fields Tryz.underlying72 h
  have hl : cs.length = 2 := hl.trans (by kernel_rfl)
  obtain ⟨x0, h0, k0⟩ := Rd.field RD3 hf 0 rfl rfl (off := 0) rfl
  obtain ⟨x1, h1, k1⟩ := Rd.field RD2 hf 1 rfl rfl (off := 1) rfl
  obtain ⟨c0, c1, rfl⟩ : ∃ c0 c1, cs = [c0, c1] := by
    match cs, hl with
    | [c0, c1], _ => exact ⟨c0, c1, rfl⟩
  have e0 : [c0] = [Value.int .i64 x0] := h0
  simp only [List.cons.injEq, and_true] at e0
  obtain rfl := e0
  have e1 : [c1] = [Value.int .i64 x1] := h1
  simp only [List.cons.injEq, and_true] at e1
  obtain rfl := e1
  exact ⟨{ At := x0, Val := x1 }, rfl, k0, k1⟩
theorem RD25 : Rd Tryz.prog 25 (slEl eItem) (fun xs => (∀ x ∈ xs, okItem x) ∧ xs.length ≤ maxLen) := Rd.slice (by kernel_rfl) Tryz.underlying25 (by decide) RD72
theorem RD37 : Rd Tryz.prog 37 eVec okVec := by
  refine ⟨by kernel_rfl, fun enc w sp held fuel cs d h => ?_⟩
  obtain ⟨hl, n, hf⟩ := trod_fields Tryz.underlying37 h
  have hl : cs.length = 2 := hl.trans (by kernel_rfl)
  obtain ⟨x0, h0, k0⟩ := Rd.field RD3 hf 0 rfl rfl (off := 0) rfl
  obtain ⟨x1, h1, k1⟩ := Rd.field RD25 hf 1 rfl rfl (off := 1) rfl
  obtain ⟨c0, c1, rfl⟩ : ∃ c0 c1, cs = [c0, c1] := by
    match cs, hl with
    | [c0, c1], _ => exact ⟨c0, c1, rfl⟩
  have e0 : [c0] = [Value.int .i64 x0] := h0
  simp only [List.cons.injEq, and_true] at e0
  obtain rfl := e0
  obtain ⟨a1_0, b1_0, e1, R1_0⟩ := h1
  have e1 : [c1] = [Value.slice a1_0 x1.length b1_0] := e1
  simp only [List.cons.injEq, and_true] at e1
  obtain rfl := e1
  exact ⟨{ N := x0, Items := x1 }, ⟨_, _, rfl, R1_0⟩, k0, k1⟩
theorem RD47 : Rd Tryz.prog 47 (slEl eVec) (fun xs => (∀ x ∈ xs, okVec x) ∧ xs.length ≤ maxLen) := Rd.slice (by kernel_rfl) Tryz.underlying47 (by decide) RD37
theorem RD30 : Rd Tryz.prog 30 eLaw18_Grid okLaw18_Grid := by
  refine ⟨by kernel_rfl, fun enc w sp held fuel cs d h => ?_⟩
  obtain ⟨hl, n, hf⟩ := trod_fields Tryz.underlying30 h
  have hl : cs.length = 4 := hl.trans (by kernel_rfl)
  obtain ⟨x0, h0, k0⟩ := Rd.field RD3 hf 0 rfl rfl (off := 0) rfl
  obtain ⟨x1, h1, k1⟩ := Rd.field RD3 hf 1 rfl rfl (off := 1) rfl
  obtain ⟨x2, h2, k2⟩ := Rd.field RD3 hf 2 rfl rfl (off := 2) rfl
  obtain ⟨x3, h3, k3⟩ := Rd.field RD3 hf 3 rfl rfl (off := 3) rfl
  obtain ⟨c0, c1, c2, c3, rfl⟩ : ∃ c0 c1 c2 c3, cs = [c0, c1, c2, c3] := by
    match cs, hl with
    | [c0, c1, c2, c3], _ => exact ⟨c0, c1, c2, c3, rfl⟩
  have e0 : [c0] = [Value.int .i64 x0] := h0
  simp only [List.cons.injEq, and_true] at e0
  obtain rfl := e0
  have e1 : [c1] = [Value.int .i64 x1] := h1
  simp only [List.cons.injEq, and_true] at e1
  obtain rfl := e1
  have e2 : [c2] = [Value.int .i64 x2] := h2
  simp only [List.cons.injEq, and_true] at e2
  obtain rfl := e2
  have e3 : [c3] = [Value.int .i64 x3] := h3
  simp only [List.cons.injEq, and_true] at e3
  obtain rfl := e3
  exact ⟨{ R := x0, C := x1, I := x2, J := x3 }, rfl, k0, k1, k2, k3⟩
end Go.Proofs.YtpackolbhcmomaaGreat
