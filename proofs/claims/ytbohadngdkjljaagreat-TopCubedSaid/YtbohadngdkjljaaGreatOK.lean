/- What is right of the values that come in (printed by a program of ours). -/
import Derived.Test.YtbohadngdkjljaaGreatT
import Derived.Test.YtbohadngdkjljaaGreatFwP
namespace Go.Proofs.YtbohadngdkjljaaGreat
open Go Go.Fw
set_option linter.unusedVariables false
set_option maxRecDepth 100000
def pJ (x:BN):Prop:=(jA .i64) x.From∧(jA .i64) x.To∧(jA .i64) x.W
def zU (x:CA):Prop:=(jA .i64) x.N∧(fun xs=>(∀ x∈xs,pJ x)∧xs.length≤maxLen) x.Edges
def pK (x:GH):Prop:=(jA .i64) x.Kind∧(jA .i64) x.A∧(jA .i64) x.B∧(jA .i64) x.K
def dS (x:GI):Prop:=(fun xs=>(∀ x∈xs,pK x)∧xs.length≤maxLen) x.L∧(jA .u8) x.Windows
end Go.Proofs.YtbohadngdkjljaaGreat
