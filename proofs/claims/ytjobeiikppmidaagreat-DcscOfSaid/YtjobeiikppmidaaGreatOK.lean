/- What is right of the values that come in (printed by a program of ours). -/
import Derived.Test.YtjobeiikppmidaaGreatT
import Derived.Test.YtjobeiikppmidaaGreatFwP
namespace Go.Proofs.YtjobeiikppmidaaGreat
open Go Go.Fw
set_option linter.unusedVariables false
set_option maxRecDepth 100000
def okRows (x : Rows) : Prop := (inR .i64) x.Rows ∧ (inR .i64) x.Cols ∧ (fun xs => (∀ x ∈ xs, (inR .i64) x) ∧ xs.length ≤ maxLen) x.Start ∧ (fun xs => (∀ x ∈ xs, (inR .i64) x) ∧ xs.length ≤ maxLen) x.Col ∧ (fun xs => (∀ x ∈ xs, (inR .i64) x) ∧ xs.length ≤ maxLen) x.Val
def okColumns (x : Columns) : Prop := (inR .i64) x.Rows ∧ (inR .i64) x.Cols ∧ (fun xs => (∀ x ∈ xs, (inR .i64) x) ∧ xs.length ≤ maxLen) x.At ∧ (fun xs => (∀ x ∈ xs, (inR .i64) x) ∧ xs.length ≤ maxLen) x.Start ∧ (fun xs => (∀ x ∈ xs, (inR .i64) x) ∧ xs.length ≤ maxLen) x.Row ∧ (fun xs => (∀ x ∈ xs, (inR .i64) x) ∧ xs.length ≤ maxLen) x.Val
end Go.Proofs.YtjobeiikppmidaaGreat
