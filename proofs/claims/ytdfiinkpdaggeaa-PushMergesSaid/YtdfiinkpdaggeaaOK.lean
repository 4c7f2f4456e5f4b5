/- What is right of the values that come in (printed by a program of ours). -/
import Derived.Test.YtdfiinkpdaggeaaT
import Derived.Test.YtdfiinkpdaggeaaFwP
namespace Go.Proofs.Ytdfiinkpdaggeaa
open Go Go.Fw
set_option linter.unusedVariables false
set_option maxRecDepth 100000
def okWide (x : Wide) : Prop := (inR .i64) x.Hi ∧ (inR .u64) x.Lo
def okSum (x : Sum) : Prop := (inR .i64) x.At ∧ okWide x.Val
end Go.Proofs.Ytdfiinkpdaggeaa
