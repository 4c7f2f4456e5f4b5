/- What is right of the values that come in (printed by a program of ours). -/
import Derived.Test.YtbohadngdkjljaaGreatT
import Derived.Test.YtbohadngdkjljaaGreatFwP
namespace Go.Proofs.YtbohadngdkjljaaGreat
open Go Go.Fw
set_option linter.unusedVariables false
set_option maxRecDepth 100000
def KS (x:AC):Prop:=(VS .i64) x.Row∧(VS .i64) x.Col∧(VS .i64) x.Val
def aN (x:NP):Prop:=(VS .i64) x.Ring∧(fun x=>(VS .u8) (x.1)∧(VS .u8) (x.2.1)∧(VS .u8) (x.2.2)) x.Size∧(fun xs=>(∀ x∈xs,KS x)∧xs.length≤maxLen) x.A∧(fun xs=>(∀ x∈xs,KS x)∧xs.length≤maxLen) x.B∧(fun xs=>(∀ x∈xs,KS x)∧xs.length≤maxLen) x.M
def VB (x:JT):Prop:=aN x.T∧(VS .u8) x.R∧(VS .u8) x.C∧(VS .u8) x.Room
def rF (x:FY):Prop:=(VS .i64) x.Kind∧(VS .i64) x.A∧(VS .i64) x.B∧(VS .i64) x.K
def gA (x:GQ):Prop:=(fun xs=>(∀ x∈xs,rF x)∧xs.length≤maxLen) x.L∧(VS .u8) x.Windows
end Go.Proofs.YtbohadngdkjljaaGreat
