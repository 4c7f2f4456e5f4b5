/- The closed facts of the row of TriRuns. -/
import Derived.Test.YtbohadngdkjljaaGreatRows
import Derived.Test.YtbohadngdkjljaaGreatChecked
import Derived.WalkKit
import Derived.ProofKit
namespace Go.Proofs.YtbohadngdkjljaaGreat.TriRuns
open Go Go.ChangeShapes Go.WideShapes Go.ChangeAt Go.RowKit
set_option linter.unusedVariables false
set_option maxRecDepth 100000
theorem J1:laidOutB Tryz.pinned.checked.prog=true:=by kernel_rfl
theorem J2:(Rows.triRunsRow.inPlace==Tryz.pinned.checked.prog.inPlace 9)=true:=by kernel_rfl
theorem J3:(Rows.triRunsRow.unfollowed==Tryz.pinned.checked.prog.unfollowed 9)=true:=by kernel_rfl
theorem J4:(Rows.triRunsRow.recurses==Tryz.pinned.checked.prog.recurses 9)=true:=by kernel_rfl
theorem J5:(Rows.triRunsRow.named==Tryz.pinned.checked.prog.varsNamed 9)=true:=by kernel_rfl
theorem JF:joinedFacts Tryz.pinned.checked.prog 9 Tryz.f9 Rows.triRunsSpec Rows.triRunsRow=true:=by
  unfold joinedFacts
  rw [J1,J2,J3,J4,J5]
  kernel_rfl
theorem JN:Tryz.pinned.checked.prog.funcNamed Rows.triRunsRow.func=some 9:=by kernel_rfl
end Go.Proofs.YtbohadngdkjljaaGreat.TriRuns
