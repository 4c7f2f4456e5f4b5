/- The closed facts of the row of SummaBounds. -/
import Derived.Test.YtbohadngdkjljaaGreatRows
import Derived.Test.YtbohadngdkjljaaGreatChecked
import Derived.WalkKit
import Derived.ProofKit
namespace Go.Proofs.YtbohadngdkjljaaGreat.SummaBounds
open Go Go.ChangeShapes Go.WideShapes Go.ChangeAt Go.RowKit
set_option linter.unusedVariables false
set_option maxRecDepth 100000
theorem J1:laidOutB Tryz.pinned.checked.prog=true:=by kernel_rfl
theorem J2:(Rows.summaBoundsRow.inPlace==Tryz.pinned.checked.prog.inPlace 8)=true:=by kernel_rfl
theorem J3:(Rows.summaBoundsRow.unfollowed==Tryz.pinned.checked.prog.unfollowed 8)=true:=by kernel_rfl
theorem J4:(Rows.summaBoundsRow.recurses==Tryz.pinned.checked.prog.recurses 8)=true:=by kernel_rfl
theorem J5:(Rows.summaBoundsRow.named==Tryz.pinned.checked.prog.varsNamed 8)=true:=by kernel_rfl
theorem JF:joinedFacts Tryz.pinned.checked.prog 8 Tryz.f8 Rows.summaBoundsSpec Rows.summaBoundsRow=true:=by
  unfold joinedFacts
  rw [J1,J2,J3,J4,J5]
  kernel_rfl
theorem JN:Tryz.pinned.checked.prog.funcNamed Rows.summaBoundsRow.func=some 8:=by kernel_rfl
end Go.Proofs.YtbohadngdkjljaaGreat.SummaBounds
