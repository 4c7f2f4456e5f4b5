/- What is right of the values that come in. -/
import Derived.Test.YtbohadngdkjljaaGreatT
import Derived.Test.YtbohadngdkjljaaGreatFwP
namespace Go.Proofs.YtbohadngdkjljaaGreat
open Go Go.Fw
set_option linter.unusedVariables false
set_option maxRecDepth 100000
def KU (x:A1):Prop:=(SQ .i64) x.Row∧(SQ .i64) x.Col∧(SQ .i64) x.Val
def ZM (x:GS):Prop:=(SQ .i64) x.Ring∧(fun x=>(SQ .u8) (x.1)∧(SQ .u8) (x.2.1)∧(SQ .u8) (x.2.2)) x.Size∧(fun xs=>(∀ x∈xs,KU x)∧xs.length≤maxLen) x.A∧(fun xs=>(∀ x∈xs,KU x)∧xs.length≤maxLen) x.B∧(fun xs=>(∀ x∈xs,KU x)∧xs.length≤maxLen) x.M
def TT (x:HV):Prop:=ZM x.T∧(SQ .u8) x.R∧(SQ .u8) x.C∧(SQ .u8) x.Room
def qV (x:EI):Prop:=(SQ .i64) x.Kind∧(SQ .i64) x.A∧(SQ .i64) x.B∧(SQ .i64) x.K
def VF (x:GB):Prop:=(fun xs=>(∀ x∈xs,qV x)∧xs.length≤maxLen) x.L∧(SQ .u8) x.Windows
end Go.Proofs.YtbohadngdkjljaaGreat
