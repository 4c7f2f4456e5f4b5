/- Closed facts of the program (printed by a program of ours). -/
import Derived.Test.YtjobeiikppmidaaGreatT
import Derived.Test.YtjobeiikppmidaaGreatChecked
import Derived.Laws.StructEq
import Derived.KernelRfl
namespace Go.Proofs.YtjobeiikppmidaaGreat
open Go Go.Fw
set_option linter.unusedVariables false
set_option linter.unusedSimpArgs false
set_option maxRecDepth 8000
set_option maxHeartbeats 1000000
theorem MX : Tryz.prog.follows .mixedOrders = true := by kernel_rfl
theorem IN2 : Tryz.prog.info? 2 = some Tryz.t2 := by kernel_rfl
theorem IN3 : Tryz.prog.info? 3 = some Tryz.t3 := by kernel_rfl
theorem IN25 : Tryz.prog.info? 25 = some Tryz.t25 := by kernel_rfl
theorem BI25 : (Tryz.prog.fieldsOf 25).toList.all (fun f => (Tryz.prog.info? f.type).isSome) = true := by kernel_rfl
theorem IN27 : Tryz.prog.info? 27 = some Tryz.t27 := by kernel_rfl
theorem BI27 : (Tryz.prog.fieldsOf 27).toList.all (fun f => (Tryz.prog.info? f.type).isSome) = true := by kernel_rfl
theorem IN47 : Tryz.prog.info? 47 = some Tryz.t47 := by kernel_rfl
theorem BI47 : (Tryz.prog.fieldsOf 47).toList.all (fun f => (Tryz.prog.info? f.type).isSome) = true := by kernel_rfl
theorem IN50 : Tryz.prog.info? 50 = some Tryz.t50 := by kernel_rfl
theorem BI50 : (Tryz.prog.fieldsOf 50).toList.all (fun f => (Tryz.prog.info? f.type).isSome) = true := by kernel_rfl
theorem IN67 : Tryz.prog.info? 67 = some Tryz.t67 := by kernel_rfl
theorem BI67 : (Tryz.prog.fieldsOf 67).toList.all (fun f => (Tryz.prog.info? f.type).isSome) = true := by kernel_rfl
theorem IN86 : Tryz.prog.info? 86 = some Tryz.t86 := by kernel_rfl
theorem BI86 : (Tryz.prog.fieldsOf 86).toList.all (fun f => (Tryz.prog.info? f.type).isSome) = true := by kernel_rfl
theorem IN99 : Tryz.prog.info? 99 = some Tryz.t99 := by kernel_rfl
theorem IX3 : Tryz.prog.info? 3 = some Tryz.t3 := by kernel_rfl
theorem KA99 : KeyOk Tryz.prog 99 kArr2 := keyArr2 Tryz.underlying99 IX3 Tryz.underlying3 (by kernel_rfl) Tryz.isAgg3 Tryz.sizeOf3
theorem EQ50 (x y : Item) (w : World) : (Op.equal 50 (.agg (encItem x).toArray) (.agg (encItem y).toArray)).run Tryz.prog w = .ok (x == y) w := by
  refine Eq.trans ((eqS (k := 9999) Tryz.underlying50 (by kernel_rfl) (eqC (by decide) Tryz.isAgg3 rfl rfl (eqI (k := 9998) Tryz.underlying3) (eqC (by decide) Tryz.isAgg2 rfl rfl (eqI (k := 9998) Tryz.underlying2) eqN))) w) (congrArg (fun b => Result.ok b w) (Bool.eq_iff_iff.2 ?_))
  obtain ⟨x_0, x_1⟩ := x; obtain ⟨y_0, y_1⟩ := y
  simp [and_assoc]
theorem EG50 (o : BinOp) (x y : Operand) (u v : Array Value) (w : World) : (eqGuard o 50 x y (.agg u) (.agg v)).run Tryz.prog w = .ok () w := run_eqGuard_agg w o 50 x y u v (by kernel_rfl)
theorem EQ86 (x y : Wide) (w : World) : (Op.equal 86 (.agg (encWide x).toArray) (.agg (encWide y).toArray)).run Tryz.prog w = .ok (x == y) w := by
  refine Eq.trans ((eqS (k := 9999) Tryz.underlying86 (by kernel_rfl) (eqC (by decide) Tryz.isAgg2 rfl rfl (eqI (k := 9998) Tryz.underlying2) (eqC (by decide) Tryz.isAgg84 rfl rfl (eqI (k := 9998) Tryz.underlying84) eqN))) w) (congrArg (fun b => Result.ok b w) (Bool.eq_iff_iff.2 ?_))
  obtain ⟨x_0, x_1⟩ := x; obtain ⟨y_0, y_1⟩ := y
  simp [and_assoc]
theorem EG86 (o : BinOp) (x y : Operand) (u v : Array Value) (w : World) : (eqGuard o 86 x y (.agg u) (.agg v)).run Tryz.prog w = .ok () w := run_eqGuard_agg w o 86 x y u v (by kernel_rfl)
end Go.Proofs.YtjobeiikppmidaaGreat
