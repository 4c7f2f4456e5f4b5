/- The closed facts of the row of ModelWrong. -/
import Derived.Test.YtccpfgdefibdnaaGreatRows
import Derived.Test.YtccpfgdefibdnaaGreatChecked
import Derived.WalkKit
import Derived.ProofKit
namespace Go.Proofs.YtccpfgdefibdnaaGreat.ModelWrong
open Go Go.ChangeShapes Go.WideShapes Go.ChangeAt Go.RowKit
set_option linter.unusedVariables false
set_option maxRecDepth 100000
theorem J1:laidOutB Tryz.pinned.checked.prog=true:=by kernel_rfl
theorem J2:(Rows.modelWrongRow.inPlace==Tryz.pinned.checked.prog.inPlace 4)=true:=by kernel_rfl
theorem J3:(Rows.modelWrongRow.unfollowed==Tryz.pinned.checked.prog.unfollowed 4)=true:=by kernel_rfl
theorem J4:(Rows.modelWrongRow.recurses==Tryz.pinned.checked.prog.recurses 4)=true:=by kernel_rfl
theorem J5:(Rows.modelWrongRow.named==Tryz.pinned.checked.prog.varsNamed 4)=true:=by kernel_rfl
theorem JF:joinedFacts Tryz.pinned.checked.prog 4 Tryz.f4 Rows.modelWrongSpec Rows.modelWrongRow=true:=by
  unfold joinedFacts
  rw [J1,J2,J3,J4,J5]
  kernel_rfl
theorem JN:Tryz.pinned.checked.prog.funcNamed Rows.modelWrongRow.func=some 4:=by kernel_rfl
end Go.Proofs.YtccpfgdefibdnaaGreat.ModelWrong
