/- What is right of the values that come in. -/
import Derived.Test.YtbohadngdkjljaaGreatT
import Derived.Test.YtbohadngdkjljaaGreatFwP
namespace Go.Proofs.YtbohadngdkjljaaGreat
open Go Go.Fw
set_option linter.unusedVariables false
set_option maxRecDepth 100000
def KT (x:A3):Prop:=(UC .i64) x.Row∧(UC .i64) x.Col∧(UC .i64) x.Val
def ZC (x:GV):Prop:=(UC .i64) x.Ring∧(fun x=>(UC .u8) (x.1)∧(UC .u8) (x.2.1)∧(UC .u8) (x.2.2)) x.Size∧(fun xs=>(∀ x∈xs,KT x)∧xs.length≤maxLen) x.A∧(fun xs=>(∀ x∈xs,KT x)∧xs.length≤maxLen) x.B∧(fun xs=>(∀ x∈xs,KT x)∧xs.length≤maxLen) x.M
def TK (x:HX):Prop:=ZC x.T∧(UC .u8) x.R∧(UC .u8) x.C∧(UC .u8) x.Room
def qV (x:FP):Prop:=(UC .i64) x.Kind∧(UC .i64) x.A∧(UC .i64) x.B∧(UC .i64) x.K
def eS (x:GF):Prop:=(fun xs=>(∀ x∈xs,qV x)∧xs.length≤maxLen) x.L∧(UC .u8) x.Windows
end Go.Proofs.YtbohadngdkjljaaGreat
