/- The closed facts of the row of VertexSteps. -/
import Derived.Test.YtaefnmlbnkmahaaGreatRows
import Derived.Test.YtaefnmlbnkmahaaGreatChecked
import Derived.WalkKit
import Derived.ProofKit
namespace Go.Proofs.YtaefnmlbnkmahaaGreat.VertexSteps
open Go Go.ChangeShapes Go.WideShapes Go.ChangeAt Go.RowKit
set_option linter.unusedVariables false
set_option maxRecDepth 100000
theorem J1:laidOutB Tryz.pinned.checked.prog=true:=by kernel_rfl
theorem J2:(Rows.vertexStepsRow.inPlace==Tryz.pinned.checked.prog.inPlace 6)=true:=by kernel_rfl
theorem J3:(Rows.vertexStepsRow.unfollowed==Tryz.pinned.checked.prog.unfollowed 6)=true:=by kernel_rfl
theorem J4:(Rows.vertexStepsRow.recurses==Tryz.pinned.checked.prog.recurses 6)=true:=by kernel_rfl
theorem J5:(Rows.vertexStepsRow.named==Tryz.pinned.checked.prog.varsNamed 6)=true:=by kernel_rfl
theorem JF:joinedFacts Tryz.pinned.checked.prog 6 Tryz.f6 Rows.vertexStepsSpec Rows.vertexStepsRow=true:=by
  unfold joinedFacts
  rw [J1,J2,J3,J4,J5]
  kernel_rfl
theorem JN:Tryz.pinned.checked.prog.funcNamed Rows.vertexStepsRow.func=some 6:=by kernel_rfl
end Go.Proofs.YtaefnmlbnkmahaaGreat.VertexSteps
