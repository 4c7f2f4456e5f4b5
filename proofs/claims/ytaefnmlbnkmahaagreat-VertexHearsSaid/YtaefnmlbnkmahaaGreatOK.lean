/- What is right of the values that come in (printed by a program of ours). -/
import Derived.Test.YtaefnmlbnkmahaaGreatT
import Derived.Test.YtaefnmlbnkmahaaGreatFwP
namespace Go.Proofs.YtaefnmlbnkmahaaGreat
open Go Go.Fw
set_option linter.unusedVariables false
set_option maxRecDepth 100000
def okWide (x:Wide):Prop:=(inR .i64) x.Hi∧(inR .u64) x.Lo
end Go.Proofs.YtaefnmlbnkmahaaGreat
