/- What is right of the values that come in (printed by a program of ours). -/
import Derived.Test.YtjobeiikppmidaaT
import Derived.Test.YtjobeiikppmidaaFwP
namespace Go.Proofs.Ytjobeiikppmidaa
open Go Go.Fw
set_option linter.unusedVariables false
set_option maxRecDepth 100000
def okTriple (x : Triple) : Prop := (inR .i64) x.Row ∧ (inR .i64) x.Col ∧ (inR .i64) x.Val
end Go.Proofs.Ytjobeiikppmidaa
