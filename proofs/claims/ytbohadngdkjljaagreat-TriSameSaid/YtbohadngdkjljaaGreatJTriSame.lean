/- The closed facts of the row of TriSame. -/
import Derived.Test.YtbohadngdkjljaaGreatRows
import Derived.Test.YtbohadngdkjljaaGreatChecked
import Derived.WalkKit
import Derived.ProofKit
namespace Go.Proofs.YtbohadngdkjljaaGreat.TriSame
open Go Go.ChangeShapes Go.WideShapes Go.ChangeAt Go.RowKit
set_option linter.unusedVariables false
set_option maxRecDepth 100000
theorem J1:laidOutB Tryz.pinned.checked.prog=true:=by kernel_rfl
theorem J2:(Rows.triSameRow.inPlace==Tryz.pinned.checked.prog.inPlace 12)=true:=by kernel_rfl
theorem J3:(Rows.triSameRow.unfollowed==Tryz.pinned.checked.prog.unfollowed 12)=true:=by kernel_rfl
theorem J4:(Rows.triSameRow.recurses==Tryz.pinned.checked.prog.recurses 12)=true:=by kernel_rfl
theorem J5:(Rows.triSameRow.named==Tryz.pinned.checked.prog.varsNamed 12)=true:=by kernel_rfl
theorem JF:joinedFacts Tryz.pinned.checked.prog 12 Tryz.f12 Rows.triSameSpec Rows.triSameRow=true:=by
  unfold joinedFacts
  rw [J1,J2,J3,J4,J5]
  kernel_rfl
theorem JN:Tryz.pinned.checked.prog.funcNamed Rows.triSameRow.func=some 12:=by kernel_rfl
end Go.Proofs.YtbohadngdkjljaaGreat.TriSame
