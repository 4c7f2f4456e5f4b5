/- The closed facts of the row of SummaPlays. -/
import Derived.Test.YtbohadngdkjljaaGreatRows
import Derived.Test.YtbohadngdkjljaaGreatChecked
import Derived.WalkKit
import Derived.ProofKit
namespace Go.Proofs.YtbohadngdkjljaaGreat.SummaPlays
open Go Go.ChangeShapes Go.WideShapes Go.ChangeAt Go.RowKit
set_option linter.unusedVariables false
set_option maxRecDepth 100000
theorem J1:laidOutB Tryz.pinned.checked.prog=true:=by kernel_rfl
theorem J2:(Rows.summaPlaysRow.inPlace==Tryz.pinned.checked.prog.inPlace 4)=true:=by kernel_rfl
theorem J3:(Rows.summaPlaysRow.unfollowed==Tryz.pinned.checked.prog.unfollowed 4)=true:=by kernel_rfl
theorem J4:(Rows.summaPlaysRow.recurses==Tryz.pinned.checked.prog.recurses 4)=true:=by kernel_rfl
theorem J5:(Rows.summaPlaysRow.named==Tryz.pinned.checked.prog.varsNamed 4)=true:=by kernel_rfl
theorem JF:joinedFacts Tryz.pinned.checked.prog 4 Tryz.f4 Rows.summaPlaysSpec Rows.summaPlaysRow=true:=by
  unfold joinedFacts
  rw [J1,J2,J3,J4,J5]
  kernel_rfl
theorem JN:Tryz.pinned.checked.prog.funcNamed Rows.summaPlaysRow.func=some 4:=by kernel_rfl
end Go.Proofs.YtbohadngdkjljaaGreat.SummaPlays
