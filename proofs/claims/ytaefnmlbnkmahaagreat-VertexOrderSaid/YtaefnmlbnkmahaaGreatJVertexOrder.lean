/- The closed facts of the row of VertexOrder. -/
import Derived.Test.YtaefnmlbnkmahaaGreatRows
import Derived.Test.YtaefnmlbnkmahaaGreatChecked
import Derived.WalkKit
import Derived.ProofKit
namespace Go.Proofs.YtaefnmlbnkmahaaGreat.VertexOrder
open Go Go.ChangeShapes Go.WideShapes Go.ChangeAt Go.RowKit
set_option linter.unusedVariables false
set_option maxRecDepth 100000
theorem J1:laidOutB Tryz.pinned.checked.prog=true:=by kernel_rfl
theorem J2:(Rows.vertexOrderRow.inPlace==Tryz.pinned.checked.prog.inPlace 9)=true:=by kernel_rfl
theorem J3:(Rows.vertexOrderRow.unfollowed==Tryz.pinned.checked.prog.unfollowed 9)=true:=by kernel_rfl
theorem J4:(Rows.vertexOrderRow.recurses==Tryz.pinned.checked.prog.recurses 9)=true:=by kernel_rfl
theorem J5:(Rows.vertexOrderRow.named==Tryz.pinned.checked.prog.varsNamed 9)=true:=by kernel_rfl
theorem JF:joinedFacts Tryz.pinned.checked.prog 9 Tryz.f9 Rows.vertexOrderSpec Rows.vertexOrderRow=true:=by
  unfold joinedFacts
  rw [J1,J2,J3,J4,J5]
  kernel_rfl
theorem JN:Tryz.pinned.checked.prog.funcNamed Rows.vertexOrderRow.func=some 9:=by kernel_rfl
end Go.Proofs.YtaefnmlbnkmahaaGreat.VertexOrder
