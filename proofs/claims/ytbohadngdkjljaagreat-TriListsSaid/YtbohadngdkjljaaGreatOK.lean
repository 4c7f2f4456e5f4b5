/- What is right of the values that come in (printed by a program of ours). -/
import Derived.Test.YtbohadngdkjljaaGreatT
import Derived.Test.YtbohadngdkjljaaGreatFwP
namespace Go.Proofs.YtbohadngdkjljaaGreat
open Go Go.Fw
set_option linter.unusedVariables false
set_option maxRecDepth 100000
def yK (x:AL):Prop:=(inR .i64) x.From∧(inR .i64) x.To∧(inR .i64) x.W
def AfY (x:AK):Prop:=(inR .i64) x.N∧(fun xs=>(∀ x∈xs,yK x)∧xs.length≤maxLen) x.Edges
end Go.Proofs.YtbohadngdkjljaaGreat
