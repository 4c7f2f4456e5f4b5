/- The closed facts of the row of TopGrids. -/
import Derived.Test.YtkbkaodgfedfmaaGreatRows
import Derived.Test.YtkbkaodgfedfmaaGreatChecked
import Derived.WalkKit
import Derived.ProofKit
namespace Go.Proofs.YtkbkaodgfedfmaaGreat.TopGrids
open Go Go.ChangeShapes Go.WideShapes Go.ChangeAt Go.RowKit
set_option linter.unusedVariables false
set_option maxRecDepth 100000
theorem J1:laidOutB Tryz.pinned.checked.prog=true:=by kernel_rfl
theorem J2:(Rows.topGridsRow.inPlace==Tryz.pinned.checked.prog.inPlace 3)=true:=by kernel_rfl
theorem J3:(Rows.topGridsRow.unfollowed==Tryz.pinned.checked.prog.unfollowed 3)=true:=by kernel_rfl
theorem J4:(Rows.topGridsRow.recurses==Tryz.pinned.checked.prog.recurses 3)=true:=by kernel_rfl
theorem J5:(Rows.topGridsRow.named==Tryz.pinned.checked.prog.varsNamed 3)=true:=by kernel_rfl
theorem JF:joinedFacts Tryz.pinned.checked.prog 3 Tryz.f3 Rows.topGridsSpec Rows.topGridsRow=true:=by
  unfold joinedFacts;rw[J1,J2,J3,J4,J5]
  kernel_rfl
theorem JN:Tryz.pinned.checked.prog.funcNamed Rows.topGridsRow.func=some 3:=by kernel_rfl
end Go.Proofs.YtkbkaodgfedfmaaGreat.TopGrids
