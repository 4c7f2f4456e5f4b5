/- What is right of the values that come in (printed by a program of ours). -/
import Derived.Test.YtjpmbedipdkakaaT
import Derived.Test.YtjpmbedipdkakaaFwP
namespace Go.Proofs.Ytjpmbedipdkakaa
open Go Go.Fw
set_option linter.unusedVariables false
set_option maxRecDepth 100000
def okLaw20_Act (x : Law20_Act) : Prop := (inR .i64) x.Kind ∧ (inR .i64) x.K ∧ (inR .i64) x.N
end Go.Proofs.Ytjpmbedipdkakaa
