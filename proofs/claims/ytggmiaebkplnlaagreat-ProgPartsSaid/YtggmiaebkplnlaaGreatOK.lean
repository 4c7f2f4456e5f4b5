/- What is right of the values that come in (printed by a program of ours). -/
import Derived.Test.YtggmiaebkplnlaaGreatT
import Derived.Test.YtggmiaebkplnlaaGreatFwP
namespace Go.Proofs.YtggmiaebkplnlaaGreat
open Go Go.Fw
set_option linter.unusedVariables false
set_option maxRecDepth 100000
def okPlan (x : Plan) : Prop := (inR .i64) x.Kind ∧ (inR .i64) x.N ∧ (inR .i64) x.Source ∧ (inR .i64) x.Length ∧ (fun xs => (∀ x ∈ xs, (inR .i64) x) ∧ xs.length ≤ maxLen) x.Draws
def okItem (x : Item) : Prop := (inR .i64) x.At ∧ (inR .i64) x.Val
end Go.Proofs.YtggmiaebkplnlaaGreat
