/- Closed facts of the program (printed by a program of ours). -/
import Derived.Test.YtdfiinkpdaggeaaGreatT
import Derived.Test.YtdfiinkpdaggeaaGreatChecked
import Derived.Laws.StructEq
import Derived.KernelRfl
namespace Go.Proofs.YtdfiinkpdaggeaaGreat
open Go Go.Fw
set_option linter.unusedVariables false
set_option linter.unusedSimpArgs false
set_option maxRecDepth 8000
set_option maxHeartbeats 1000000
theorem MX : Tryz.prog.follows .mixedOrders = true := by kernel_rfl
theorem MD : Nat.blt 0 (Tryz.prog.types.size + Made.depth) = true := by kernel_rfl
theorem IN2 : Tryz.prog.info? 2 = some Tryz.t2 := by kernel_rfl
theorem IN3 : Tryz.prog.info? 3 = some Tryz.t3 := by kernel_rfl
theorem IN32 : Tryz.prog.info? 32 = some Tryz.t32 := by kernel_rfl
theorem BI32 : (Tryz.prog.fieldsOf 32).toList.all (fun f => (Tryz.prog.info? f.type).isSome) = true := by kernel_rfl
theorem IN35 : Tryz.prog.info? 35 = some Tryz.t35 := by kernel_rfl
theorem BI35 : (Tryz.prog.fieldsOf 35).toList.all (fun f => (Tryz.prog.info? f.type).isSome) = true := by kernel_rfl
theorem IN38 : Tryz.prog.info? 38 = some Tryz.t38 := by kernel_rfl
theorem BI38 : (Tryz.prog.fieldsOf 38).toList.all (fun f => (Tryz.prog.info? f.type).isSome) = true := by kernel_rfl
theorem IN41 : Tryz.prog.info? 41 = some Tryz.t41 := by kernel_rfl
theorem IN56 : Tryz.prog.info? 56 = some Tryz.t56 := by kernel_rfl
theorem IN62 : Tryz.prog.info? 62 = some Tryz.t62 := by kernel_rfl
theorem BI62 : (Tryz.prog.fieldsOf 62).toList.all (fun f => (Tryz.prog.info? f.type).isSome) = true := by kernel_rfl
theorem IN67 : Tryz.prog.info? 67 = some Tryz.t67 := by kernel_rfl
theorem BI67 : (Tryz.prog.fieldsOf 67).toList.all (fun f => (Tryz.prog.info? f.type).isSome) = true := by kernel_rfl
theorem IN84 : Tryz.prog.info? 84 = some Tryz.t84 := by kernel_rfl
theorem BI84 : (Tryz.prog.fieldsOf 84).toList.all (fun f => (Tryz.prog.info? f.type).isSome) = true := by kernel_rfl
theorem IN85 : Tryz.prog.info? 85 = some Tryz.t85 := by kernel_rfl
theorem IN87 : Tryz.prog.info? 87 = some Tryz.t87 := by kernel_rfl
theorem BI87 : (Tryz.prog.fieldsOf 87).toList.all (fun f => (Tryz.prog.info? f.type).isSome) = true := by kernel_rfl
theorem IN89 : Tryz.prog.info? 89 = some Tryz.t89 := by kernel_rfl
theorem BI89 : (Tryz.prog.fieldsOf 89).toList.all (fun f => (Tryz.prog.info? f.type).isSome) = true := by kernel_rfl
theorem IN101 : Tryz.prog.info? 101 = some Tryz.t101 := by kernel_rfl
theorem BI101 : (Tryz.prog.fieldsOf 101).toList.all (fun f => (Tryz.prog.info? f.type).isSome) = true := by kernel_rfl
theorem IN139 : Tryz.prog.info? 139 = some Tryz.t139 := by kernel_rfl
theorem BI139 : (Tryz.prog.fieldsOf 139).toList.all (fun f => (Tryz.prog.info? f.type).isSome) = true := by kernel_rfl
theorem IN144 : Tryz.prog.info? 144 = some Tryz.t144 := by kernel_rfl
theorem IN146 : Tryz.prog.info? 146 = some Tryz.t146 := by kernel_rfl
theorem BI146 : (Tryz.prog.fieldsOf 146).toList.all (fun f => (Tryz.prog.info? f.type).isSome) = true := by kernel_rfl
theorem IN210 : Tryz.prog.info? 210 = some Tryz.t210 := by kernel_rfl
theorem EQ67 (x y : Item) (w : World) : (Op.equal 67 (.agg (encItem x).toArray) (.agg (encItem y).toArray)).run Tryz.prog w = .ok (x == y) w := by
  refine Eq.trans ((eqS (k := 9999) Tryz.underlying67 (by kernel_rfl) (eqC (by decide) Tryz.isAgg3 rfl rfl (eqI (k := 9998) Tryz.underlying3) (eqC (by decide) Tryz.isAgg2 rfl rfl (eqI (k := 9998) Tryz.underlying2) eqN))) w) (congrArg (fun b => Result.ok b w) (Bool.eq_iff_iff.2 ?_))
  obtain ⟨x_0, x_1⟩ := x; obtain ⟨y_0, y_1⟩ := y
  simp [and_assoc]
theorem EG67 (o : BinOp) (x y : Operand) (u v : Array Value) (w : World) : (eqGuard o 67 x y (.agg u) (.agg v)).run Tryz.prog w = .ok () w := run_eqGuard_agg w o 67 x y u v (by kernel_rfl)
theorem EQ87 (x y : Wide) (w : World) : (Op.equal 87 (.agg (encWide x).toArray) (.agg (encWide y).toArray)).run Tryz.prog w = .ok (x == y) w := by
  refine Eq.trans ((eqS (k := 9999) Tryz.underlying87 (by kernel_rfl) (eqC (by decide) Tryz.isAgg2 rfl rfl (eqI (k := 9998) Tryz.underlying2) (eqC (by decide) Tryz.isAgg85 rfl rfl (eqI (k := 9998) Tryz.underlying85) eqN))) w) (congrArg (fun b => Result.ok b w) (Bool.eq_iff_iff.2 ?_))
  obtain ⟨x_0, x_1⟩ := x; obtain ⟨y_0, y_1⟩ := y
  simp [and_assoc]
theorem EG87 (o : BinOp) (x y : Operand) (u v : Array Value) (w : World) : (eqGuard o 87 x y (.agg u) (.agg v)).run Tryz.prog w = .ok () w := run_eqGuard_agg w o 87 x y u v (by kernel_rfl)
theorem EQ89 (x y : Sum) (w : World) : (Op.equal 89 (.agg (encSum x).toArray) (.agg (encSum y).toArray)).run Tryz.prog w = .ok (x == y) w := by
  refine Eq.trans ((eqS (k := 9999) Tryz.underlying89 (by kernel_rfl) (eqC (by decide) Tryz.isAgg3 rfl rfl (eqI (k := 9998) Tryz.underlying3) (eqA (by decide) Tryz.isAgg87 Tryz.sizeOf87 (eqS (k := 9998) Tryz.underlying87 (by kernel_rfl) (eqC (by decide) Tryz.isAgg2 rfl rfl (eqI (k := 9997) Tryz.underlying2) (eqC (by decide) Tryz.isAgg85 rfl rfl (eqI (k := 9997) Tryz.underlying85) eqN))) eqN))) w) (congrArg (fun b => Result.ok b w) (Bool.eq_iff_iff.2 ?_))
  obtain ⟨x_0, x_1⟩ := x; obtain ⟨x_1_0, x_1_1⟩ := x_1; obtain ⟨y_0, y_1⟩ := y; obtain ⟨y_1_0, y_1_1⟩ := y_1
  simp [and_assoc]
theorem EG89 (o : BinOp) (x y : Operand) (u v : Array Value) (w : World) : (eqGuard o 89 x y (.agg u) (.agg v)).run Tryz.prog w = .ok () w := run_eqGuard_agg w o 89 x y u v (by kernel_rfl)
end Go.Proofs.YtdfiinkpdaggeaaGreat
