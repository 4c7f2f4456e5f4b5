/- What must be whatever is asked; the statements CsrOf, CsrAsks, in plain Lean. -/
import Derived.Test.YtdfiinkpdaggeaaGreatOK
import Derived.Test.YtdfiinkpdaggeaaGreatCsrJ
namespace Go.Proofs.YtdfiinkpdaggeaaGreat
open Go Go.Fw
set_option linter.unusedVariables false
set_option linter.unusedSimpArgs false
theorem inR_i64 {x : Int} (h : inR .i64 x) : inI x := by have := bounds_i64 h; unfold inI; omega
theorem few_ok {ts : List Triple} {Q : List Triple → Prop} (hQ : ∀ ys : List Triple, ys.length ≤ 60 → (∀ t ∈ ys, t ∈ ts) → Q ys) : law07_Few ts Q := by
  unfold law07_Few
  refine ifP_dec (fun h => ⟨by decide, by decide, by omega, hQ _ ?_ fun t ht => ?_⟩) (fun h => hQ _ (by omega) fun t ht => ht)
  · simp; omega
  · exact List.mem_of_mem_take (List.mem_of_mem_drop ht)
theorem of_cases {r rows cols : Int} {ts : List Triple} (hv : ∀ t ∈ ts, inI t.Val) : ((ofS r rows cols ts).1 = zR ∧ (ofS r rows cols ts).2 ≠ 0) ∨ ∃ T, Canon rows cols T ∧ ofS r rows cols ts = (builtS rows cols T, 0) ∧ (1 ≤ r ∧ r ≤ 5) ∧ (∀ t ∈ ts, inT rows cols t) ∧ ts.length ≤ 65536 ∧ (0 ≤ rows ∧ rows ≤ 4096 ∧ 0 ≤ cols ∧ cols ≤ 4096) ∧ T = (finS (SC r (ts.map kvT)) mkT).1 ∧ (finS (SC r (ts.map kvT)) mkT).2 = 0 := by
  unfold ofS
  split
  · left; exact ⟨rfl, by simp⟩
  split
  · left; exact ⟨rfl, by simp⟩
  split
  · left; exact ⟨rfl, by simp⟩
  split
  · left; exact ⟨rfl, by simp⟩
  split
  · rename_i h; left; exact ⟨rfl, h⟩
  · rename_i h1 h2 h3 h4 h5
    right
    have h2 := Decidable.of_not_not h2
    have h4 := Decidable.of_not_not h4
    refine ⟨_, fin_canon h2 (by simpa using h3) (fun t ht => ?_) (fun t ht => ?_), rfl, Decidable.of_not_not h1, h4, by omega, h2, rfl, Decidable.of_not_not h5⟩
    · obtain ⟨x, hx, rfl⟩ := List.mem_map.1 ht
      exact h4 x hx
    · obtain ⟨x, hx, rfl⟩ := List.mem_map.1 ht
      exact hv x hx
end Go.Proofs.YtdfiinkpdaggeaaGreat
