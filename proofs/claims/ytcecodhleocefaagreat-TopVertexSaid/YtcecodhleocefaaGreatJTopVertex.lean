/- The closed facts of the row of TopVertex. -/
import Derived.Test.YtcecodhleocefaaGreatRows
import Derived.Test.YtcecodhleocefaaGreatChecked
import Derived.WalkKit
import Derived.ProofKit
set_option linter.unusedVariables false
set_option maxRecDepth 100000
namespace Go.Proofs.YtcecodhleocefaaGreat.TopVertex
open Go Go.ChangeShapes Go.WideShapes Go.ChangeAt Go.RowKit
theorem J1:laidOutB Tryz.pinned.checked.prog=true:=by kernel_rfl
theorem J2:(Rows.topVertexRow.inPlace==Tryz.pinned.checked.prog.inPlace 3)=true:=by kernel_rfl
theorem J3:(Rows.topVertexRow.unfollowed==Tryz.pinned.checked.prog.unfollowed 3)=true:=by kernel_rfl
theorem J4:(Rows.topVertexRow.recurses==Tryz.pinned.checked.prog.recurses 3)=true:=by kernel_rfl
theorem J5:(Rows.topVertexRow.named==Tryz.pinned.checked.prog.varsNamed 3)=true:=by kernel_rfl
theorem JF:joinedFacts Tryz.pinned.checked.prog 3 Tryz.f3 Rows.topVertexSpec Rows.topVertexRow=true:=by
  unfold joinedFacts;rw[J1,J2,J3,J4,J5]
  kernel_rfl
theorem JN:Tryz.pinned.checked.prog.funcNamed Rows.topVertexRow.func=some 3:=by kernel_rfl
end Go.Proofs.YtcecodhleocefaaGreat.TopVertex
