/- The closed facts of the row of TopSets. -/
import Derived.Test.YtieniichmjgmcaaGreatRows
import Derived.Test.YtieniichmjgmcaaGreatChecked
import Derived.WalkKit
import Derived.ProofKit
set_option linter.unusedVariables false
set_option maxRecDepth 100000
namespace Go.Proofs.YtieniichmjgmcaaGreat.TopSets
open Go Go.ChangeShapes Go.WideShapes Go.ChangeAt Go.RowKit
theorem J1:laidOutB Tryz.pinned.checked.prog=true:=by kernel_rfl
theorem J2:(Rows.topSetsRow.inPlace==Tryz.pinned.checked.prog.inPlace 3)=true:=by kernel_rfl
theorem J3:(Rows.topSetsRow.unfollowed==Tryz.pinned.checked.prog.unfollowed 3)=true:=by kernel_rfl
theorem J4:(Rows.topSetsRow.recurses==Tryz.pinned.checked.prog.recurses 3)=true:=by kernel_rfl
theorem J5:(Rows.topSetsRow.named==Tryz.pinned.checked.prog.varsNamed 3)=true:=by kernel_rfl
theorem JF:joinedFacts Tryz.pinned.checked.prog 3 Tryz.f3 Rows.topSetsSpec Rows.topSetsRow=true:=by
  unfold joinedFacts;rw[J1,J2,J3,J4,J5]
  kernel_rfl
theorem JN:Tryz.pinned.checked.prog.funcNamed Rows.topSetsRow.func=some 3:=by kernel_rfl
end Go.Proofs.YtieniichmjgmcaaGreat.TopSets
