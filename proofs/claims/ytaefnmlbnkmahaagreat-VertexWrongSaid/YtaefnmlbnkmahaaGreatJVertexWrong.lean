/- The closed facts of the row of VertexWrong. -/
import Derived.Test.YtaefnmlbnkmahaaGreatRows
import Derived.Test.YtaefnmlbnkmahaaGreatChecked
import Derived.WalkKit
import Derived.ProofKit
namespace Go.Proofs.YtaefnmlbnkmahaaGreat.VertexWrong
open Go Go.ChangeShapes Go.WideShapes Go.ChangeAt Go.RowKit
set_option linter.unusedVariables false
set_option maxRecDepth 100000
theorem J1:laidOutB Tryz.pinned.checked.prog=true:=by kernel_rfl
theorem J2:(Rows.vertexWrongRow.inPlace==Tryz.pinned.checked.prog.inPlace 8)=true:=by kernel_rfl
theorem J3:(Rows.vertexWrongRow.unfollowed==Tryz.pinned.checked.prog.unfollowed 8)=true:=by kernel_rfl
theorem J4:(Rows.vertexWrongRow.recurses==Tryz.pinned.checked.prog.recurses 8)=true:=by kernel_rfl
theorem J5:(Rows.vertexWrongRow.named==Tryz.pinned.checked.prog.varsNamed 8)=true:=by kernel_rfl
theorem JF:joinedFacts Tryz.pinned.checked.prog 8 Tryz.f8 Rows.vertexWrongSpec Rows.vertexWrongRow=true:=by
  unfold joinedFacts
  rw [J1,J2,J3,J4,J5]
  kernel_rfl
theorem JN:Tryz.pinned.checked.prog.funcNamed Rows.vertexWrongRow.func=some 8:=by kernel_rfl
end Go.Proofs.YtaefnmlbnkmahaaGreat.VertexWrong
