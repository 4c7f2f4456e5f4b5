/- What is right of the values that come in (printed by a program of ours). -/
import Derived.Test.YtbohadngdkjljaaGreatT
import Derived.Test.YtbohadngdkjljaaGreatFwP
namespace Go.Proofs.YtbohadngdkjljaaGreat
open Go Go.Fw
set_option linter.unusedVariables false
set_option maxRecDepth 100000
def LK (x:AC):Prop:=(WS .i64) x.Row∧(WS .i64) x.Col∧(WS .i64) x.Val
def bV (x:OI):Prop:=(WS .i64) x.Ring∧(fun x=>(WS .u8) (x.1)∧(WS .u8) (x.2.1)∧(WS .u8) (x.2.2)) x.Size∧(fun xs=>(∀ x∈xs,LK x)∧xs.length≤maxLen) x.A∧(fun xs=>(∀ x∈xs,LK x)∧xs.length≤maxLen) x.B∧(fun xs=>(∀ x∈xs,LK x)∧xs.length≤maxLen) x.M
def WC (x:KC):Prop:=bV x.T∧(WS .u8) x.R∧(WS .u8) x.C∧(WS .u8) x.Room
def sU (x:FU):Prop:=(WS .i64) x.Kind∧(WS .i64) x.A∧(WS .i64) x.B∧(WS .i64) x.K
def iE (x:GX):Prop:=(fun xs=>(∀ x∈xs,sU x)∧xs.length≤maxLen) x.L∧(WS .u8) x.Windows
end Go.Proofs.YtbohadngdkjljaaGreat
