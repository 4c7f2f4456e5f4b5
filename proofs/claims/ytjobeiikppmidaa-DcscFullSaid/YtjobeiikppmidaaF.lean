/- Closed facts of the program (printed by a program of ours). -/
import Derived.Test.YtjobeiikppmidaaT
import Derived.Test.YtjobeiikppmidaaChecked
import Derived.Laws.StructEq
import Derived.KernelRfl
namespace Go.Proofs.Ytjobeiikppmidaa
open Go Go.Fw
set_option linter.unusedVariables false
set_option linter.unusedSimpArgs false
set_option maxRecDepth 8000
set_option maxHeartbeats 1000000
theorem MX : Try.prog.follows .mixedOrders = true := by kernel_rfl
theorem IN2 : Try.prog.info? 2 = some Try.t2 := by kernel_rfl
theorem IN3 : Try.prog.info? 3 = some Try.t3 := by kernel_rfl
theorem IN27 : Try.prog.info? 27 = some Try.t27 := by kernel_rfl
theorem BI27 : (Try.prog.fieldsOf 27).toList.all (fun f => (Try.prog.info? f.type).isSome) = true := by kernel_rfl
theorem IN30 : Try.prog.info? 30 = some Try.t30 := by kernel_rfl
theorem BI30 : (Try.prog.fieldsOf 30).toList.all (fun f => (Try.prog.info? f.type).isSome) = true := by kernel_rfl
theorem IN49 : Try.prog.info? 49 = some Try.t49 := by kernel_rfl
theorem BI49 : (Try.prog.fieldsOf 49).toList.all (fun f => (Try.prog.info? f.type).isSome) = true := by kernel_rfl
theorem IN59 : Try.prog.info? 59 = some Try.t59 := by kernel_rfl
theorem BI59 : (Try.prog.fieldsOf 59).toList.all (fun f => (Try.prog.info? f.type).isSome) = true := by kernel_rfl
theorem IN74 : Try.prog.info? 74 = some Try.t74 := by kernel_rfl
theorem BI74 : (Try.prog.fieldsOf 74).toList.all (fun f => (Try.prog.info? f.type).isSome) = true := by kernel_rfl
theorem IN92 : Try.prog.info? 92 = some Try.t92 := by kernel_rfl
theorem BI92 : (Try.prog.fieldsOf 92).toList.all (fun f => (Try.prog.info? f.type).isSome) = true := by kernel_rfl
theorem IN104 : Try.prog.info? 104 = some Try.t104 := by kernel_rfl
theorem IX3 : Try.prog.info? 3 = some Try.t3 := by kernel_rfl
theorem KA104 : KeyOk Try.prog 104 kArr2 := keyArr2 Try.underlying104 IX3 Try.underlying3 (by kernel_rfl) Try.isAgg3 Try.sizeOf3
theorem EQ59 (x y : Item) (w : World) : (Op.equal 59 (.agg (encItem x).toArray) (.agg (encItem y).toArray)).run Try.prog w = .ok (x == y) w := by
  refine Eq.trans ((eqS (k := 9999) Try.underlying59 (by kernel_rfl) (eqC (by decide) Try.isAgg3 rfl rfl (eqI (k := 9998) Try.underlying3) (eqC (by decide) Try.isAgg2 rfl rfl (eqI (k := 9998) Try.underlying2) eqN))) w) (congrArg (fun b => Result.ok b w) (Bool.eq_iff_iff.2 ?_))
  obtain ⟨x_0, x_1⟩ := x; obtain ⟨y_0, y_1⟩ := y
  simp [and_assoc]
theorem EG59 (o : BinOp) (x y : Operand) (u v : Array Value) (w : World) : (eqGuard o 59 x y (.agg u) (.agg v)).run Try.prog w = .ok () w := run_eqGuard_agg w o 59 x y u v (by kernel_rfl)
theorem EQ92 (x y : Wide) (w : World) : (Op.equal 92 (.agg (encWide x).toArray) (.agg (encWide y).toArray)).run Try.prog w = .ok (x == y) w := by
  refine Eq.trans ((eqS (k := 9999) Try.underlying92 (by kernel_rfl) (eqC (by decide) Try.isAgg2 rfl rfl (eqI (k := 9998) Try.underlying2) (eqC (by decide) Try.isAgg90 rfl rfl (eqI (k := 9998) Try.underlying90) eqN))) w) (congrArg (fun b => Result.ok b w) (Bool.eq_iff_iff.2 ?_))
  obtain ⟨x_0, x_1⟩ := x; obtain ⟨y_0, y_1⟩ := y
  simp [and_assoc]
theorem EG92 (o : BinOp) (x y : Operand) (u v : Array Value) (w : World) : (eqGuard o 92 x y (.agg u) (.agg v)).run Try.prog w = .ok () w := run_eqGuard_agg w o 92 x y u v (by kernel_rfl)
end Go.Proofs.Ytjobeiikppmidaa
