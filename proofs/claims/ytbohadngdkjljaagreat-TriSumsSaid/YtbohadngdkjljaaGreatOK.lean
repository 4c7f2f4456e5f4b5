/- What is right of the values that come in (printed by a program of ours). -/
import Derived.Test.YtbohadngdkjljaaGreatT
import Derived.Test.YtbohadngdkjljaaGreatFwP
namespace Go.Proofs.YtbohadngdkjljaaGreat
open Go Go.Fw
set_option linter.unusedVariables false
set_option maxRecDepth 100000
def vS (x:AM):Prop:=(inR .i64) x.From∧(inR .i64) x.To∧(inR .i64) x.W
def yA (x:AL):Prop:=(inR .i64) x.N∧(fun xs=>(∀ x∈xs,vS x)∧xs.length≤maxLen) x.Edges
def W9 (x:KB):Prop:=yA x.G∧(inR .i64) x.V∧(inR .u8) x.R∧(inR .u8) x.C
end Go.Proofs.YtbohadngdkjljaaGreat
