/- How arguments read (printed by a program of ours). -/
import Derived.Test.YtjpmbedipdkakaaOK
import Derived.Test.YtjpmbedipdkakaaF
import Derived.Test.YtjpmbedipdkakaaFwT
namespace Go.Proofs.Ytjpmbedipdkakaa
open Go Go.Fw
set_option linter.unusedVariables false
set_option maxRecDepth 100000
theorem RD5 : Rd Try.prog 5 eU8 (inR .u8) := Rd.int (by kernel_rfl) Try.underlying5 _
theorem RD3 : Rd Try.prog 3 eI64 (inR .i64) := Rd.int (by kernel_rfl) Try.underlying3 _
theorem RD2 : Rd Try.prog 2 eI64 (inR .i64) := Rd.int (by kernel_rfl) Try.underlying2 _
theorem RD51 : Rd Try.prog 51 eLaw20_Act okLaw20_Act := by
  refine ⟨by kernel_rfl, fun enc w sp held fuel cs d h => ?_⟩
  obtain ⟨hl, n, hf⟩ := trod_fields Try.underlying51 h
  have hl : cs.length = 3 := hl.trans (by kernel_rfl)
  obtain ⟨x0, h0, k0⟩ := Rd.field RD3 hf 0 rfl rfl (off := 0) rfl
  obtain ⟨x1, h1, k1⟩ := Rd.field RD3 hf 1 rfl rfl (off := 1) rfl
  obtain ⟨x2, h2, k2⟩ := Rd.field RD2 hf 2 rfl rfl (off := 2) rfl
  obtain ⟨c0, c1, c2, rfl⟩ : ∃ c0 c1 c2, cs = [c0, c1, c2] := by
    match cs, hl with
    | [c0, c1, c2], _ => exact ⟨c0, c1, c2, rfl⟩
  have e0 : [c0] = [Value.int .i64 x0] := h0
  simp only [List.cons.injEq, and_true] at e0
  obtain rfl := e0
  have e1 : [c1] = [Value.int .i64 x1] := h1
  simp only [List.cons.injEq, and_true] at e1
  obtain rfl := e1
  have e2 : [c2] = [Value.int .i64 x2] := h2
  simp only [List.cons.injEq, and_true] at e2
  obtain rfl := e2
  exact ⟨{ Kind := x0, K := x1, N := x2 }, rfl, k0, k1, k2⟩
theorem RD41 : Rd Try.prog 41 (slEl eLaw20_Act) (fun xs => (∀ x ∈ xs, okLaw20_Act x) ∧ xs.length ≤ maxLen) := Rd.slice (by kernel_rfl) Try.underlying41 (by decide) RD51
end Go.Proofs.Ytjpmbedipdkakaa
