/- What is right of the values that come in (printed by a program of ours). -/
import Derived.Test.YtjabmpfcpekpdaaGreatT
import Derived.Test.YtjabmpfcpekpdaaGreatFwP
namespace Go.Proofs.YtjabmpfcpekpdaaGreat
open Go Go.Fw
set_option linter.unusedVariables false
set_option maxRecDepth 100000
def okTriple (x : Triple) : Prop := (inR .i64) x.Row ∧ (inR .i64) x.Col ∧ (inR .i64) x.Val
def okLaw15_Task (x : Law15_Task) : Prop := (inR .i64) x.Ring ∧ (fun x => (inR .u8) (x.1) ∧ (inR .u8) (x.2.1) ∧ (inR .u8) (x.2.2)) x.Size ∧ (fun xs => (∀ x ∈ xs, okTriple x) ∧ xs.length ≤ maxLen) x.A ∧ (fun xs => (∀ x ∈ xs, okTriple x) ∧ xs.length ≤ maxLen) x.B ∧ (fun xs => (∀ x ∈ xs, okTriple x) ∧ xs.length ≤ maxLen) x.M
end Go.Proofs.YtjabmpfcpekpdaaGreat
