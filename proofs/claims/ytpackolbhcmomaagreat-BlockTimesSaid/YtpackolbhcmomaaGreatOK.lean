/- What is right of the values that come in (printed by a program of ours). -/
import Derived.Test.YtpackolbhcmomaaGreatT
import Derived.Test.YtpackolbhcmomaaGreatFwP
namespace Go.Proofs.YtpackolbhcmomaaGreat
open Go Go.Fw
set_option linter.unusedVariables false
set_option maxRecDepth 100000
def okTriple (x:Triple):Prop:=(inR .i64) x.Row∧(inR .i64) x.Col∧(inR .i64) x.Val
def okItem (x:Item):Prop:=(inR .i64) x.At∧(inR .i64) x.Val
def okLaw13_Task (x:Law13_Task):Prop:=(inR .i64) x.Ring∧(fun x=>(inR .u8) (x.1)∧(inR .u8) (x.2)) x.Size∧(fun xs=>(∀ x∈xs,okTriple x)∧xs.length≤maxLen) x.L∧(fun xs=>(∀ x∈xs,okItem x)∧xs.length≤maxLen) x.X∧(fun xs=>(∀ x∈xs,okItem x)∧xs.length≤maxLen) x.Y∧(fun xs=>(∀ x∈xs,(inR .u64) x)∧xs.length≤maxLen) x.F∧(fun _=>True) x.Others
end Go.Proofs.YtpackolbhcmomaaGreat
