/- The closed facts of the row of SummaFair. -/
import Derived.Test.YtbohadngdkjljaaGreatRows
import Derived.Test.YtbohadngdkjljaaGreatChecked
import Derived.WalkKit
import Derived.ProofKit
namespace Go.Proofs.YtbohadngdkjljaaGreat.SummaFair
open Go Go.ChangeShapes Go.WideShapes Go.ChangeAt Go.RowKit
set_option linter.unusedVariables false
set_option maxRecDepth 100000
theorem J1:laidOutB Tryz.pinned.checked.prog=true:=by kernel_rfl
theorem J2:(Rows.summaFairRow.inPlace==Tryz.pinned.checked.prog.inPlace 7)=true:=by kernel_rfl
theorem J3:(Rows.summaFairRow.unfollowed==Tryz.pinned.checked.prog.unfollowed 7)=true:=by kernel_rfl
theorem J4:(Rows.summaFairRow.recurses==Tryz.pinned.checked.prog.recurses 7)=true:=by kernel_rfl
theorem J5:(Rows.summaFairRow.named==Tryz.pinned.checked.prog.varsNamed 7)=true:=by kernel_rfl
theorem JF:joinedFacts Tryz.pinned.checked.prog 7 Tryz.f7 Rows.summaFairSpec Rows.summaFairRow=true:=by
  unfold joinedFacts
  rw [J1,J2,J3,J4,J5]
  kernel_rfl
theorem JN:Tryz.pinned.checked.prog.funcNamed Rows.summaFairRow.func=some 7:=by kernel_rfl
end Go.Proofs.YtbohadngdkjljaaGreat.SummaFair
