/- What is right of the values that come in (printed by a program of ours). -/
import Derived.Test.YtpackolbhcmomaaGreatT
import Derived.Test.YtpackolbhcmomaaGreatFwP
namespace Go.Proofs.YtpackolbhcmomaaGreat
open Go Go.Fw
set_option linter.unusedVariables false
set_option maxRecDepth 100000
def okRows (x : Rows) : Prop := (inR .i64) x.Rows ∧ (inR .i64) x.Cols ∧ (fun xs => (∀ x ∈ xs, (inR .i64) x) ∧ xs.length ≤ maxLen) x.Start ∧ (fun xs => (∀ x ∈ xs, (inR .i64) x) ∧ xs.length ≤ maxLen) x.Col ∧ (fun xs => (∀ x ∈ xs, (inR .i64) x) ∧ xs.length ≤ maxLen) x.Val
def okItem (x : Item) : Prop := (inR .i64) x.At ∧ (inR .i64) x.Val
def okVec (x : Vec) : Prop := (inR .i64) x.N ∧ (fun xs => (∀ x ∈ xs, okItem x) ∧ xs.length ≤ maxLen) x.Items
def okLaw18_Grid (x : Law18_Grid) : Prop := (inR .i64) x.R ∧ (inR .i64) x.C ∧ (inR .i64) x.I ∧ (inR .i64) x.J
end Go.Proofs.YtpackolbhcmomaaGreat
