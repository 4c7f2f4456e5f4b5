/- The closed facts of the row of TopFewest. -/
import Derived.Test.YtieniichmjgmcaaGreatRows
import Derived.Test.YtieniichmjgmcaaGreatChecked
import Derived.WalkKit
import Derived.ProofKit
set_option linter.unusedVariables false
set_option maxRecDepth 100000
namespace Go.Proofs.YtieniichmjgmcaaGreat.TopFewest
open Go Go.ChangeShapes Go.WideShapes Go.ChangeAt Go.RowKit
theorem J1:laidOutB Tryz.pinned.checked.prog=true:=by kernel_rfl
theorem J2:(Rows.topFewestRow.inPlace==Tryz.pinned.checked.prog.inPlace 4)=true:=by kernel_rfl
theorem J3:(Rows.topFewestRow.unfollowed==Tryz.pinned.checked.prog.unfollowed 4)=true:=by kernel_rfl
theorem J4:(Rows.topFewestRow.recurses==Tryz.pinned.checked.prog.recurses 4)=true:=by kernel_rfl
theorem J5:(Rows.topFewestRow.named==Tryz.pinned.checked.prog.varsNamed 4)=true:=by kernel_rfl
theorem JF:joinedFacts Tryz.pinned.checked.prog 4 Tryz.f4 Rows.topFewestSpec Rows.topFewestRow=true:=by
  unfold joinedFacts;rw[J1,J2,J3,J4,J5]
  kernel_rfl
theorem JN:Tryz.pinned.checked.prog.funcNamed Rows.topFewestRow.func=some 4:=by kernel_rfl
end Go.Proofs.YtieniichmjgmcaaGreat.TopFewest
