/- What is right of the values that come in (printed by a program of ours). -/
import Derived.Test.YtbohadngdkjljaaGreatT
import Derived.Test.YtbohadngdkjljaaGreatFwP
namespace Go.Proofs.YtbohadngdkjljaaGreat
open Go Go.Fw
set_option linter.unusedVariables false
set_option maxRecDepth 100000
def LG (x:AC):Prop:=(YC .i64) x.Row∧(YC .i64) x.Col∧(YC .i64) x.Val
def bR (x:OI):Prop:=(YC .i64) x.Ring∧(fun x=>(YC .u8) (x.1)∧(YC .u8) (x.2.1)∧(YC .u8) (x.2.2)) x.Size∧(fun xs=>(∀ x∈xs,LG x)∧xs.length≤maxLen) x.A∧(fun xs=>(∀ x∈xs,LG x)∧xs.length≤maxLen) x.B∧(fun xs=>(∀ x∈xs,LG x)∧xs.length≤maxLen) x.M
def VY (x:JX):Prop:=bR x.T∧(YC .u8) x.R∧(YC .u8) x.C∧(YC .u8) x.Room
end Go.Proofs.YtbohadngdkjljaaGreat
