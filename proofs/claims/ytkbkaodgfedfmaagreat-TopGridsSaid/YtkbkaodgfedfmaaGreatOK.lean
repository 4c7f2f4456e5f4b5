/- What is right of the values that come in. -/
import Derived.Test.YtkbkaodgfedfmaaGreatT
import Derived.Test.YtkbkaodgfedfmaaGreatFwP
namespace Go.Proofs.YtkbkaodgfedfmaaGreat
open Go Go.Fw
set_option linter.unusedVariables false
set_option maxRecDepth 100000
def AgW (x:Plan):Prop:=(fE .i64) x.Kind∧(fE .i64) x.N∧(fE .i64) x.Source∧(fE .i64) x.Length∧(λxs=>(∀ x∈xs,(fE .i64) x)∧xs.length<=maxLen) x.Draws
def AbC (x:B5):Prop:=(fE .i64) x.From∧(fE .i64) x.To∧(fE .i64) x.W
def AcY (x:Graph):Prop:=(fE .i64) x.N∧(λxs=>(∀ x∈xs,AbC x)∧xs.length<=maxLen) x.Edges
def WZ (x:H4):Prop:=AgW x.P∧AcY x.G∧(fE .u8) x.Limit
def nR (x:ED):Prop:=(fE .i64) x.Way∧(fE .i64) x.Form
def fQ (x:G9):Prop:=WZ x.Model∧(fE .u8) x.R∧(fE .u8) x.C∧(fE .u8) x.Room∧(λxs=>(∀ x∈xs,nR x)∧xs.length<=maxLen) x.Choices
end Go.Proofs.YtkbkaodgfedfmaaGreat
