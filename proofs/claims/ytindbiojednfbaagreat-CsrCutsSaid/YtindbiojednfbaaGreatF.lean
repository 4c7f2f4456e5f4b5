/- Closed facts of the program (printed by a program of ours). -/
import Derived.Test.YtindbiojednfbaaGreatT
import Derived.Test.YtindbiojednfbaaGreatChecked
import Derived.Laws.StructEq
import Derived.KernelRfl
namespace Go.Proofs.YtindbiojednfbaaGreat
open Go Go.Fw
set_option linter.unusedVariables false
set_option linter.unusedSimpArgs false
set_option maxRecDepth 8000
set_option maxHeartbeats 1000000
theorem MX : Tryz.prog.follows .mixedOrders = true := by kernel_rfl
theorem IN2 : Tryz.prog.info? 2 = some Tryz.t2 := by kernel_rfl
theorem IN3 : Tryz.prog.info? 3 = some Tryz.t3 := by kernel_rfl
theorem IN23 : Tryz.prog.info? 23 = some Tryz.t23 := by kernel_rfl
theorem IN29 : Tryz.prog.info? 29 = some Tryz.t29 := by kernel_rfl
theorem BI29 : (Tryz.prog.fieldsOf 29).toList.all (fun f => (Tryz.prog.info? f.type).isSome) = true := by kernel_rfl
theorem IN50 : Tryz.prog.info? 50 = some Tryz.t50 := by kernel_rfl
theorem BI50 : (Tryz.prog.fieldsOf 50).toList.all (fun f => (Tryz.prog.info? f.type).isSome) = true := by kernel_rfl
theorem IN55 : Tryz.prog.info? 55 = some Tryz.t55 := by kernel_rfl
theorem BI55 : (Tryz.prog.fieldsOf 55).toList.all (fun f => (Tryz.prog.info? f.type).isSome) = true := by kernel_rfl
theorem IN60 : Tryz.prog.info? 60 = some Tryz.t60 := by kernel_rfl
theorem BI60 : (Tryz.prog.fieldsOf 60).toList.all (fun f => (Tryz.prog.info? f.type).isSome) = true := by kernel_rfl
theorem IN82 : Tryz.prog.info? 82 = some Tryz.t82 := by kernel_rfl
theorem BI82 : (Tryz.prog.fieldsOf 82).toList.all (fun f => (Tryz.prog.info? f.type).isSome) = true := by kernel_rfl
theorem IN94 : Tryz.prog.info? 94 = some Tryz.t94 := by kernel_rfl
theorem BI94 : (Tryz.prog.fieldsOf 94).toList.all (fun f => (Tryz.prog.info? f.type).isSome) = true := by kernel_rfl
theorem IX3 : Tryz.prog.info? 3 = some Tryz.t3 := by kernel_rfl
theorem KA23 : KeyOk Tryz.prog 23 kArr2 := keyArr2 Tryz.underlying23 IX3 Tryz.underlying3 (by kernel_rfl) Tryz.isAgg3 Tryz.sizeOf3
theorem EQ60 (x y : Triple) (w : World) : (Op.equal 60 (.agg (encTriple x).toArray) (.agg (encTriple y).toArray)).run Tryz.prog w = .ok (x == y) w := by
  refine Eq.trans ((eqS (k := 9999) Tryz.underlying60 (by kernel_rfl) (eqC (by decide) Tryz.isAgg3 rfl rfl (eqI (k := 9998) Tryz.underlying3) (eqC (by decide) Tryz.isAgg3 rfl rfl (eqI (k := 9998) Tryz.underlying3) (eqC (by decide) Tryz.isAgg2 rfl rfl (eqI (k := 9998) Tryz.underlying2) eqN)))) w) (congrArg (fun b => Result.ok b w) (Bool.eq_iff_iff.2 ?_))
  obtain ⟨x_0, x_1, x_2⟩ := x; obtain ⟨y_0, y_1, y_2⟩ := y
  simp [and_assoc]
theorem EG60 (o : BinOp) (x y : Operand) (u v : Array Value) (w : World) : (eqGuard o 60 x y (.agg u) (.agg v)).run Tryz.prog w = .ok () w := run_eqGuard_agg w o 60 x y u v (by kernel_rfl)
theorem EQ82 (x y : Item) (w : World) : (Op.equal 82 (.agg (encItem x).toArray) (.agg (encItem y).toArray)).run Tryz.prog w = .ok (x == y) w := by
  refine Eq.trans ((eqS (k := 9999) Tryz.underlying82 (by kernel_rfl) (eqC (by decide) Tryz.isAgg3 rfl rfl (eqI (k := 9998) Tryz.underlying3) (eqC (by decide) Tryz.isAgg2 rfl rfl (eqI (k := 9998) Tryz.underlying2) eqN))) w) (congrArg (fun b => Result.ok b w) (Bool.eq_iff_iff.2 ?_))
  obtain ⟨x_0, x_1⟩ := x; obtain ⟨y_0, y_1⟩ := y
  simp [and_assoc]
theorem EG82 (o : BinOp) (x y : Operand) (u v : Array Value) (w : World) : (eqGuard o 82 x y (.agg u) (.agg v)).run Tryz.prog w = .ok () w := run_eqGuard_agg w o 82 x y u v (by kernel_rfl)
theorem EQ94 (x y : Wide) (w : World) : (Op.equal 94 (.agg (encWide x).toArray) (.agg (encWide y).toArray)).run Tryz.prog w = .ok (x == y) w := by
  refine Eq.trans ((eqS (k := 9999) Tryz.underlying94 (by kernel_rfl) (eqC (by decide) Tryz.isAgg2 rfl rfl (eqI (k := 9998) Tryz.underlying2) (eqC (by decide) Tryz.isAgg92 rfl rfl (eqI (k := 9998) Tryz.underlying92) eqN))) w) (congrArg (fun b => Result.ok b w) (Bool.eq_iff_iff.2 ?_))
  obtain ⟨x_0, x_1⟩ := x; obtain ⟨y_0, y_1⟩ := y
  simp [and_assoc]
theorem EG94 (o : BinOp) (x y : Operand) (u v : Array Value) (w : World) : (eqGuard o 94 x y (.agg u) (.agg v)).run Tryz.prog w = .ok () w := run_eqGuard_agg w o 94 x y u v (by kernel_rfl)
end Go.Proofs.YtindbiojednfbaaGreat
