/- The statement CsrGraph, in plain Lean. -/
import Derived.Test.YtjobeiikppmidaaCsrK
namespace Go.Proofs.Ytjobeiikppmidaa
open Go Go.Fw
set_option linter.unusedVariables false
set_option linter.unusedSimpArgs false
/-- what a key ends with, whatever the order of the keys -/
def endK (r : Int) (k : Key) (ts : List (Key × Int)) : Option Wide := ts.foldl (fun o t => if k = t.1 then some (match o with | some w => addW r w (ofI t.2) | none => ofI t.2) else o) none
theorem SC_get (r : Int) (k : Key) (ts : List (Key × Int)) : mget k (SC r ts) = endK r k ts := by
  suffices ∀ (ts : List (Key × Int)) (l : List (Key × Wide)), srt l → mget k (ts.foldl (fun l t => ins r t.1 (ofI t.2) l) l) = ts.foldl (fun o t => if k = t.1 then some (match o with | some w => addW r w (ofI t.2) | none => ofI t.2) else o) (mget k l) from this ts [] .nil
  intro ts
  induction ts with
  | nil => intro l _; rfl
  | cons t ts ih =>
    intro l h
    simp only [List.foldl_cons]
    rw [ih _ (ins_srt h), ins_get k h]
    congr 1
    by_cases e : k = t.1
    · subst e; rfl
    · rw [if_neg e, if_neg e]
end Go.Proofs.Ytjobeiikppmidaa
