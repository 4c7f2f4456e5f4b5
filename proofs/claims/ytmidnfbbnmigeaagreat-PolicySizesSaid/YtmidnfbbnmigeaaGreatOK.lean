/- What is right of the values that come in (printed by a program of ours). -/
import Derived.Test.YtmidnfbbnmigeaaGreatT
import Derived.Test.YtmidnfbbnmigeaaGreatFwP
namespace Go.Proofs.YtmidnfbbnmigeaaGreat
open Go Go.Fw
set_option linter.unusedVariables false
set_option maxRecDepth 100000
def okItem (x : Item) : Prop := (inR .i64) x.At ∧ (inR .i64) x.Val
end Go.Proofs.YtmidnfbbnmigeaaGreat
