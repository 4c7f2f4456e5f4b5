/- What is right of the values that come in (printed by a program of ours). -/
import Derived.Test.YtindbiojednfbaaGreatT
import Derived.Test.YtindbiojednfbaaGreatFwP
namespace Go.Proofs.YtindbiojednfbaaGreat
open Go Go.Fw
set_option linter.unusedVariables false
set_option maxRecDepth 100000
def okTriple (x : Triple) : Prop := (inR .i64) x.Row ∧ (inR .i64) x.Col ∧ (inR .i64) x.Val
def okRows (x : Rows) : Prop := (inR .i64) x.Rows ∧ (inR .i64) x.Cols ∧ (fun xs => (∀ x ∈ xs, (inR .i64) x) ∧ xs.length ≤ maxLen) x.Start ∧ (fun xs => (∀ x ∈ xs, (inR .i64) x) ∧ xs.length ≤ maxLen) x.Col ∧ (fun xs => (∀ x ∈ xs, (inR .i64) x) ∧ xs.length ≤ maxLen) x.Val
def okEdge (x : Edge) : Prop := (inR .i64) x.From ∧ (inR .i64) x.To ∧ (inR .i64) x.W
def okGraph (x : Graph) : Prop := (inR .i64) x.N ∧ (fun xs => (∀ x ∈ xs, okEdge x) ∧ xs.length ≤ maxLen) x.Edges
end Go.Proofs.YtindbiojednfbaaGreat
