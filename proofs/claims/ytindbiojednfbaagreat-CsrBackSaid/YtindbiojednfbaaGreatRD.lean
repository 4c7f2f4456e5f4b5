/- How arguments read (printed by a program of ours). -/
import Derived.Test.YtindbiojednfbaaGreatOK
import Derived.Test.YtindbiojednfbaaGreatF
import Derived.Test.YtindbiojednfbaaGreatFwT
namespace Go.Proofs.YtindbiojednfbaaGreat
open Go Go.Fw
set_option linter.unusedVariables false
set_option maxRecDepth 100000
theorem RD22 : Rd Tryz.prog 22 eI64 (inR .i64) := Rd.int (by kernel_rfl) Tryz.underlying22 _
theorem RD3 : Rd Tryz.prog 3 eI64 (inR .i64) := Rd.int (by kernel_rfl) Tryz.underlying3 _
theorem RD23 : Rd Tryz.prog 23 (flat 2 (fun x : Int × Int => [.int .i64 x.1, .int .i64 x.2]) (fun _ => ⟨rfl, rfl⟩)) (fun x => (inR .i64) (x.1) ∧ (inR .i64) (x.2)) := by
  refine ⟨by kernel_rfl, fun enc w sp held fuel cs d h => ?_⟩
  obtain ⟨hl, hf⟩ := Rd.elemA Tryz.underlying23 RD3 h
  have hl : cs.length = 2 := hl.trans (by kernel_rfl)
  obtain ⟨x0, h0, k0⟩ := hf 0 (by decide)
  obtain ⟨x1, h1, k1⟩ := hf 1 (by decide)
  obtain ⟨c0, c1, rfl⟩ : ∃ c0 c1, cs = [c0, c1] := by
    match cs, hl with
    | [c0, c1], _ => exact ⟨c0, c1, rfl⟩
  have e0 : [c0] = [Value.int .i64 x0] := h0
  simp only [List.cons.injEq, and_true] at e0
  obtain rfl := e0
  have e1 : [c1] = [Value.int .i64 x1] := h1
  simp only [List.cons.injEq, and_true] at e1
  obtain rfl := e1
  exact ⟨(x0, x1), rfl, k0, k1⟩
theorem RD2 : Rd Tryz.prog 2 eI64 (inR .i64) := Rd.int (by kernel_rfl) Tryz.underlying2 _
theorem RD60 : Rd Tryz.prog 60 eTriple okTriple := by
  refine ⟨by kernel_rfl, fun enc w sp held fuel cs d h => ?_⟩
  obtain ⟨hl, n, hf⟩ := trod_fields Tryz.underlying60 h
  have hl : cs.length = 3 := hl.trans (by kernel_rfl)
  obtain ⟨x0, h0, k0⟩ := Rd.field RD3 hf 0 rfl rfl (off := 0) rfl
  obtain ⟨x1, h1, k1⟩ := Rd.field RD3 hf 1 rfl rfl (off := 1) rfl
  obtain ⟨x2, h2, k2⟩ := Rd.field RD2 hf 2 rfl rfl (off := 2) rfl
  obtain ⟨c0, c1, c2, rfl⟩ : ∃ c0 c1 c2, cs = [c0, c1, c2] := by
    match cs, hl with
    | [c0, c1, c2], _ => exact ⟨c0, c1, c2, rfl⟩
  have e0 : [c0] = [Value.int .i64 x0] := h0
  simp only [List.cons.injEq, and_true] at e0
  obtain rfl := e0
  have e1 : [c1] = [Value.int .i64 x1] := h1
  simp only [List.cons.injEq, and_true] at e1
  obtain rfl := e1
  have e2 : [c2] = [Value.int .i64 x2] := h2
  simp only [List.cons.injEq, and_true] at e2
  obtain rfl := e2
  exact ⟨{ Row := x0, Col := x1, Val := x2 }, rfl, k0, k1, k2⟩
theorem RD24 : Rd Tryz.prog 24 (slEl eTriple) (fun xs => (∀ x ∈ xs, okTriple x) ∧ xs.length ≤ maxLen) := Rd.slice (by kernel_rfl) Tryz.underlying24 (by decide) RD60
theorem RD26 : Rd Tryz.prog 26 (slEl eI64) (fun xs => (∀ x ∈ xs, (inR .i64) x) ∧ xs.length ≤ maxLen) := Rd.slice (by kernel_rfl) Tryz.underlying26 (by decide) RD3
theorem RD27 : Rd Tryz.prog 27 (slEl eI64) (fun xs => (∀ x ∈ xs, (inR .i64) x) ∧ xs.length ≤ maxLen) := Rd.slice (by kernel_rfl) Tryz.underlying27 (by decide) RD2
theorem RD29 : Rd Tryz.prog 29 eRows okRows := by
  refine ⟨by kernel_rfl, fun enc w sp held fuel cs d h => ?_⟩
  obtain ⟨hl, n, hf⟩ := trod_fields Tryz.underlying29 h
  have hl : cs.length = 5 := hl.trans (by kernel_rfl)
  obtain ⟨x0, h0, k0⟩ := Rd.field RD3 hf 0 rfl rfl (off := 0) rfl
  obtain ⟨x1, h1, k1⟩ := Rd.field RD3 hf 1 rfl rfl (off := 1) rfl
  obtain ⟨x2, h2, k2⟩ := Rd.field RD26 hf 2 rfl rfl (off := 2) rfl
  obtain ⟨x3, h3, k3⟩ := Rd.field RD26 hf 3 rfl rfl (off := 3) rfl
  obtain ⟨x4, h4, k4⟩ := Rd.field RD27 hf 4 rfl rfl (off := 4) rfl
  obtain ⟨c0, c1, c2, c3, c4, rfl⟩ : ∃ c0 c1 c2 c3 c4, cs = [c0, c1, c2, c3, c4] := by
    match cs, hl with
    | [c0, c1, c2, c3, c4], _ => exact ⟨c0, c1, c2, c3, c4, rfl⟩
  have e0 : [c0] = [Value.int .i64 x0] := h0
  simp only [List.cons.injEq, and_true] at e0
  obtain rfl := e0
  have e1 : [c1] = [Value.int .i64 x1] := h1
  simp only [List.cons.injEq, and_true] at e1
  obtain rfl := e1
  obtain ⟨a2_0, b2_0, e2, R2_0⟩ := h2
  have e2 : [c2] = [Value.slice a2_0 x2.length b2_0] := e2
  simp only [List.cons.injEq, and_true] at e2
  obtain rfl := e2
  obtain ⟨a3_0, b3_0, e3, R3_0⟩ := h3
  have e3 : [c3] = [Value.slice a3_0 x3.length b3_0] := e3
  simp only [List.cons.injEq, and_true] at e3
  obtain rfl := e3
  obtain ⟨a4_0, b4_0, e4, R4_0⟩ := h4
  have e4 : [c4] = [Value.slice a4_0 x4.length b4_0] := e4
  simp only [List.cons.injEq, and_true] at e4
  obtain rfl := e4
  exact ⟨{ Rows := x0, Cols := x1, Start := x2, Col := x3, Val := x4 }, ⟨_, _, _, _, _, _, rfl, R2_0, R3_0, R4_0⟩, k0, k1, k2, k3, k4⟩
theorem RD55 : Rd Tryz.prog 55 eEdge okEdge := by
  refine ⟨by kernel_rfl, fun enc w sp held fuel cs d h => ?_⟩
  obtain ⟨hl, n, hf⟩ := trod_fields Tryz.underlying55 h
  have hl : cs.length = 3 := hl.trans (by kernel_rfl)
  obtain ⟨x0, h0, k0⟩ := Rd.field RD3 hf 0 rfl rfl (off := 0) rfl
  obtain ⟨x1, h1, k1⟩ := Rd.field RD3 hf 1 rfl rfl (off := 1) rfl
  obtain ⟨x2, h2, k2⟩ := Rd.field RD2 hf 2 rfl rfl (off := 2) rfl
  obtain ⟨c0, c1, c2, rfl⟩ : ∃ c0 c1 c2, cs = [c0, c1, c2] := by
    match cs, hl with
    | [c0, c1, c2], _ => exact ⟨c0, c1, c2, rfl⟩
  have e0 : [c0] = [Value.int .i64 x0] := h0
  simp only [List.cons.injEq, and_true] at e0
  obtain rfl := e0
  have e1 : [c1] = [Value.int .i64 x1] := h1
  simp only [List.cons.injEq, and_true] at e1
  obtain rfl := e1
  have e2 : [c2] = [Value.int .i64 x2] := h2
  simp only [List.cons.injEq, and_true] at e2
  obtain rfl := e2
  exact ⟨{ From := x0, To := x1, W := x2 }, rfl, k0, k1, k2⟩
theorem RD48 : Rd Tryz.prog 48 (slEl eEdge) (fun xs => (∀ x ∈ xs, okEdge x) ∧ xs.length ≤ maxLen) := Rd.slice (by kernel_rfl) Tryz.underlying48 (by decide) RD55
theorem RD50 : Rd Tryz.prog 50 eGraph okGraph := by
  refine ⟨by kernel_rfl, fun enc w sp held fuel cs d h => ?_⟩
  obtain ⟨hl, n, hf⟩ := trod_fields Tryz.underlying50 h
  have hl : cs.length = 2 := hl.trans (by kernel_rfl)
  obtain ⟨x0, h0, k0⟩ := Rd.field RD3 hf 0 rfl rfl (off := 0) rfl
  obtain ⟨x1, h1, k1⟩ := Rd.field RD48 hf 1 rfl rfl (off := 1) rfl
  obtain ⟨c0, c1, rfl⟩ : ∃ c0 c1, cs = [c0, c1] := by
    match cs, hl with
    | [c0, c1], _ => exact ⟨c0, c1, rfl⟩
  have e0 : [c0] = [Value.int .i64 x0] := h0
  simp only [List.cons.injEq, and_true] at e0
  obtain rfl := e0
  obtain ⟨a1_0, b1_0, e1, R1_0⟩ := h1
  have e1 : [c1] = [Value.slice a1_0 x1.length b1_0] := e1
  simp only [List.cons.injEq, and_true] at e1
  obtain rfl := e1
  exact ⟨{ N := x0, Edges := x1 }, ⟨_, _, rfl, R1_0⟩, k0, k1⟩
theorem RD5 : Rd Tryz.prog 5 eU8 (inR .u8) := Rd.int (by kernel_rfl) Tryz.underlying5 _
theorem RD57 : Rd Tryz.prog 57 (flat 2 (fun x : Int × Int => [.int .u8 x.1, .int .u8 x.2]) (fun _ => ⟨rfl, rfl⟩)) (fun x => (inR .u8) (x.1) ∧ (inR .u8) (x.2)) := by
  refine ⟨by kernel_rfl, fun enc w sp held fuel cs d h => ?_⟩
  obtain ⟨hl, hf⟩ := Rd.elemA Tryz.underlying57 RD5 h
  have hl : cs.length = 2 := hl.trans (by kernel_rfl)
  obtain ⟨x0, h0, k0⟩ := hf 0 (by decide)
  obtain ⟨x1, h1, k1⟩ := hf 1 (by decide)
  obtain ⟨c0, c1, rfl⟩ : ∃ c0 c1, cs = [c0, c1] := by
    match cs, hl with
    | [c0, c1], _ => exact ⟨c0, c1, rfl⟩
  have e0 : [c0] = [Value.int .u8 x0] := h0
  simp only [List.cons.injEq, and_true] at e0
  obtain rfl := e0
  have e1 : [c1] = [Value.int .u8 x1] := h1
  simp only [List.cons.injEq, and_true] at e1
  obtain rfl := e1
  exact ⟨(x0, x1), rfl, k0, k1⟩
theorem RD65 : Rd Tryz.prog 65 (flat 4 (fun x : Int × Int × Int × Int => [.int .u8 x.1, .int .u8 x.2.1, .int .u8 x.2.2.1, .int .u8 x.2.2.2]) (fun _ => ⟨rfl, rfl⟩)) (fun x => (inR .u8) (x.1) ∧ (inR .u8) (x.2.1) ∧ (inR .u8) (x.2.2.1) ∧ (inR .u8) (x.2.2.2)) := by
  refine ⟨by kernel_rfl, fun enc w sp held fuel cs d h => ?_⟩
  obtain ⟨hl, hf⟩ := Rd.elemA Tryz.underlying65 RD5 h
  have hl : cs.length = 4 := hl.trans (by kernel_rfl)
  obtain ⟨x0, h0, k0⟩ := hf 0 (by decide)
  obtain ⟨x1, h1, k1⟩ := hf 1 (by decide)
  obtain ⟨x2, h2, k2⟩ := hf 2 (by decide)
  obtain ⟨x3, h3, k3⟩ := hf 3 (by decide)
  obtain ⟨c0, c1, c2, c3, rfl⟩ : ∃ c0 c1 c2 c3, cs = [c0, c1, c2, c3] := by
    match cs, hl with
    | [c0, c1, c2, c3], _ => exact ⟨c0, c1, c2, c3, rfl⟩
  have e0 : [c0] = [Value.int .u8 x0] := h0
  simp only [List.cons.injEq, and_true] at e0
  obtain rfl := e0
  have e1 : [c1] = [Value.int .u8 x1] := h1
  simp only [List.cons.injEq, and_true] at e1
  obtain rfl := e1
  have e2 : [c2] = [Value.int .u8 x2] := h2
  simp only [List.cons.injEq, and_true] at e2
  obtain rfl := e2
  have e3 : [c3] = [Value.int .u8 x3] := h3
  simp only [List.cons.injEq, and_true] at e3
  obtain rfl := e3
  exact ⟨(x0, x1, x2, x3), rfl, k0, k1, k2, k3⟩
end Go.Proofs.YtindbiojednfbaaGreat
