/- The closed facts of the row of SummaOne. -/
import Derived.Test.YtbohadngdkjljaaGreatRows
import Derived.Test.YtbohadngdkjljaaGreatChecked
import Derived.WalkKit
import Derived.ProofKit
namespace Go.Proofs.YtbohadngdkjljaaGreat.SummaOne
open Go Go.ChangeShapes Go.WideShapes Go.ChangeAt Go.RowKit
set_option linter.unusedVariables false
set_option maxRecDepth 100000
theorem J1:laidOutB Tryz.pinned.checked.prog=true:=by kernel_rfl
theorem J2:(Rows.summaOneRow.inPlace==Tryz.pinned.checked.prog.inPlace 6)=true:=by kernel_rfl
theorem J3:(Rows.summaOneRow.unfollowed==Tryz.pinned.checked.prog.unfollowed 6)=true:=by kernel_rfl
theorem J4:(Rows.summaOneRow.recurses==Tryz.pinned.checked.prog.recurses 6)=true:=by kernel_rfl
theorem J5:(Rows.summaOneRow.named==Tryz.pinned.checked.prog.varsNamed 6)=true:=by kernel_rfl
theorem JF:joinedFacts Tryz.pinned.checked.prog 6 Tryz.f6 Rows.summaOneSpec Rows.summaOneRow=true:=by
  unfold joinedFacts
  rw [J1,J2,J3,J4,J5]
  kernel_rfl
theorem JN:Tryz.pinned.checked.prog.funcNamed Rows.summaOneRow.func=some 6:=by kernel_rfl
end Go.Proofs.YtbohadngdkjljaaGreat.SummaOne
