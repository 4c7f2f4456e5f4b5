/- How arguments read (printed by a program of ours). -/
import Derived.Test.YtjobeiikppmidaaOK
import Derived.Test.YtjobeiikppmidaaF
import Derived.Test.YtjobeiikppmidaaFwT
namespace Go.Proofs.Ytjobeiikppmidaa
open Go Go.Fw
set_option linter.unusedVariables false
set_option maxRecDepth 100000
theorem RD5 : Rd Try.prog 5 eU8 (inR .u8) := Rd.int (by kernel_rfl) Try.underlying5 _
theorem RD22 : Rd Try.prog 22 (flat 2 (fun x : Int × Int => [.int .u8 x.1, .int .u8 x.2]) (fun _ => ⟨rfl, rfl⟩)) (fun x => (inR .u8) (x.1) ∧ (inR .u8) (x.2)) := by
  refine ⟨by kernel_rfl, fun enc w sp held fuel cs d h => ?_⟩
  obtain ⟨hl, hf⟩ := Rd.elemA Try.underlying22 RD5 h
  have hl : cs.length = 2 := hl.trans (by kernel_rfl)
  obtain ⟨x0, h0, k0⟩ := hf 0 (by decide)
  obtain ⟨x1, h1, k1⟩ := hf 1 (by decide)
  obtain ⟨c0, c1, rfl⟩ : ∃ c0 c1, cs = [c0, c1] := by
    match cs, hl with
    | [c0, c1], _ => exact ⟨c0, c1, rfl⟩
  have e0 : [c0] = [Value.int .u8 x0] := h0
  simp only [List.cons.injEq, and_true] at e0
  obtain rfl := e0
  have e1 : [c1] = [Value.int .u8 x1] := h1
  simp only [List.cons.injEq, and_true] at e1
  obtain rfl := e1
  exact ⟨(x0, x1), rfl, k0, k1⟩
theorem RD3 : Rd Try.prog 3 eI64 (inR .i64) := Rd.int (by kernel_rfl) Try.underlying3 _
theorem RD2 : Rd Try.prog 2 eI64 (inR .i64) := Rd.int (by kernel_rfl) Try.underlying2 _
theorem RD49 : Rd Try.prog 49 eTriple okTriple := by
  refine ⟨by kernel_rfl, fun enc w sp held fuel cs d h => ?_⟩
  obtain ⟨hl, n, hf⟩ := trod_fields Try.underlying49 h
  have hl : cs.length = 3 := hl.trans (by kernel_rfl)
  obtain ⟨x0, h0, k0⟩ := Rd.field RD3 hf 0 rfl rfl (off := 0) rfl
  obtain ⟨x1, h1, k1⟩ := Rd.field RD3 hf 1 rfl rfl (off := 1) rfl
  obtain ⟨x2, h2, k2⟩ := Rd.field RD2 hf 2 rfl rfl (off := 2) rfl
  obtain ⟨c0, c1, c2, rfl⟩ : ∃ c0 c1 c2, cs = [c0, c1, c2] := by
    match cs, hl with
    | [c0, c1, c2], _ => exact ⟨c0, c1, c2, rfl⟩
  have e0 : [c0] = [Value.int .i64 x0] := h0
  simp only [List.cons.injEq, and_true] at e0
  obtain rfl := e0
  have e1 : [c1] = [Value.int .i64 x1] := h1
  simp only [List.cons.injEq, and_true] at e1
  obtain rfl := e1
  have e2 : [c2] = [Value.int .i64 x2] := h2
  simp only [List.cons.injEq, and_true] at e2
  obtain rfl := e2
  exact ⟨{ Row := x0, Col := x1, Val := x2 }, rfl, k0, k1, k2⟩
theorem RD23 : Rd Try.prog 23 (slEl eTriple) (fun xs => (∀ x ∈ xs, okTriple x) ∧ xs.length ≤ maxLen) := Rd.slice (by kernel_rfl) Try.underlying23 (by decide) RD49
end Go.Proofs.Ytjobeiikppmidaa
