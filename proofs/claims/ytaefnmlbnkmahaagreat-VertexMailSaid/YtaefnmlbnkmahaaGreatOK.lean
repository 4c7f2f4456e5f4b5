/- What is right of the values that come in (printed by a program of ours). -/
import Derived.Test.YtaefnmlbnkmahaaGreatT
import Derived.Test.YtaefnmlbnkmahaaGreatFwP
namespace Go.Proofs.YtaefnmlbnkmahaaGreat
open Go Go.Fw
set_option linter.unusedVariables false
set_option maxRecDepth 100000
def okPlan (x:Plan):Prop:=(inR .i64) x.Kind∧(inR .i64) x.N∧(inR .i64) x.Source∧(inR .i64) x.Length∧(fun xs=>(∀ x∈xs,(inR .i64) x)∧xs.length≤maxLen) x.Draws
def okEdge (x:Edge):Prop:=(inR .i64) x.From∧(inR .i64) x.To∧(inR .i64) x.W
def okGraph (x:Graph):Prop:=(inR .i64) x.N∧(fun xs=>(∀ x∈xs,okEdge x)∧xs.length≤maxLen) x.Edges
def okLaw22_Case (x:Law22_Case):Prop:=okPlan x.P∧okGraph x.G∧(inR .u8) x.Limit
end Go.Proofs.YtaefnmlbnkmahaaGreat
