/- What is right of the values that come in (printed by a program of ours). -/
import Derived.Test.YtjabmpfcpekpdaaGreatT
import Derived.Test.YtjabmpfcpekpdaaGreatFwP
namespace Go.Proofs.YtjabmpfcpekpdaaGreat
open Go Go.Fw
set_option linter.unusedVariables false
set_option maxRecDepth 100000
def okWide (x : Wide) : Prop := (inR .i64) x.Hi ∧ (inR .u64) x.Lo
def okCell (x : Cell) : Prop := (inR .i64) x.Row ∧ (inR .i64) x.Col ∧ okWide x.Val
end Go.Proofs.YtjabmpfcpekpdaaGreat
