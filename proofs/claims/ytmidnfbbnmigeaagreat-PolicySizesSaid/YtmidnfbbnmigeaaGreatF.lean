/- Closed facts of the program (printed by a program of ours). -/
import Derived.Test.YtmidnfbbnmigeaaGreatT
import Derived.Test.YtmidnfbbnmigeaaGreatChecked
import Derived.Laws.StructEq
import Derived.KernelRfl
namespace Go.Proofs.YtmidnfbbnmigeaaGreat
open Go Go.Fw
set_option linter.unusedVariables false
set_option linter.unusedSimpArgs false
set_option maxRecDepth 8000
set_option maxHeartbeats 1000000
theorem MX : Tryz.prog.follows .mixedOrders = true := by kernel_rfl
theorem MD : Nat.blt 0 (Tryz.prog.types.size + Made.depth) = true := by kernel_rfl
theorem IN2 : Tryz.prog.info? 2 = some Tryz.t2 := by kernel_rfl
theorem IN3 : Tryz.prog.info? 3 = some Tryz.t3 := by kernel_rfl
theorem IN24 : Tryz.prog.info? 24 = some Tryz.t24 := by kernel_rfl
theorem IN39 : Tryz.prog.info? 39 = some Tryz.t39 := by kernel_rfl
theorem BI39 : (Tryz.prog.fieldsOf 39).toList.all (fun f => (Tryz.prog.info? f.type).isSome) = true := by kernel_rfl
theorem IN42 : Tryz.prog.info? 42 = some Tryz.t42 := by kernel_rfl
theorem BI42 : (Tryz.prog.fieldsOf 42).toList.all (fun f => (Tryz.prog.info? f.type).isSome) = true := by kernel_rfl
theorem IN45 : Tryz.prog.info? 45 = some Tryz.t45 := by kernel_rfl
theorem IN50 : Tryz.prog.info? 50 = some Tryz.t50 := by kernel_rfl
theorem BI50 : (Tryz.prog.fieldsOf 50).toList.all (fun f => (Tryz.prog.info? f.type).isSome) = true := by kernel_rfl
theorem IN53 : Tryz.prog.info? 53 = some Tryz.t53 := by kernel_rfl
theorem BI53 : (Tryz.prog.fieldsOf 53).toList.all (fun f => (Tryz.prog.info? f.type).isSome) = true := by kernel_rfl
theorem IN55 : Tryz.prog.info? 55 = some Tryz.t55 := by kernel_rfl
theorem BI55 : (Tryz.prog.fieldsOf 55).toList.all (fun f => (Tryz.prog.info? f.type).isSome) = true := by kernel_rfl
theorem IN58 : Tryz.prog.info? 58 = some Tryz.t58 := by kernel_rfl
theorem BI58 : (Tryz.prog.fieldsOf 58).toList.all (fun f => (Tryz.prog.info? f.type).isSome) = true := by kernel_rfl
theorem IN78 : Tryz.prog.info? 78 = some Tryz.t78 := by kernel_rfl
theorem BI78 : (Tryz.prog.fieldsOf 78).toList.all (fun f => (Tryz.prog.info? f.type).isSome) = true := by kernel_rfl
theorem IN80 : Tryz.prog.info? 80 = some Tryz.t80 := by kernel_rfl
theorem BI80 : (Tryz.prog.fieldsOf 80).toList.all (fun f => (Tryz.prog.info? f.type).isSome) = true := by kernel_rfl
theorem IN81 : Tryz.prog.info? 81 = some Tryz.t81 := by kernel_rfl
theorem IN83 : Tryz.prog.info? 83 = some Tryz.t83 := by kernel_rfl
theorem BI83 : (Tryz.prog.fieldsOf 83).toList.all (fun f => (Tryz.prog.info? f.type).isSome) = true := by kernel_rfl
theorem IN85 : Tryz.prog.info? 85 = some Tryz.t85 := by kernel_rfl
theorem BI85 : (Tryz.prog.fieldsOf 85).toList.all (fun f => (Tryz.prog.info? f.type).isSome) = true := by kernel_rfl
theorem IN116 : Tryz.prog.info? 116 = some Tryz.t116 := by kernel_rfl
theorem BI116 : (Tryz.prog.fieldsOf 116).toList.all (fun f => (Tryz.prog.info? f.type).isSome) = true := by kernel_rfl
theorem IN187 : Tryz.prog.info? 187 = some Tryz.t187 := by kernel_rfl
theorem BI187 : (Tryz.prog.fieldsOf 187).toList.all (fun f => (Tryz.prog.info? f.type).isSome) = true := by kernel_rfl
theorem IN211 : Tryz.prog.info? 211 = some Tryz.t211 := by kernel_rfl
theorem IN213 : Tryz.prog.info? 213 = some Tryz.t213 := by kernel_rfl
theorem BI213 : (Tryz.prog.fieldsOf 213).toList.all (fun f => (Tryz.prog.info? f.type).isSome) = true := by kernel_rfl
theorem IN235 : Tryz.prog.info? 235 = some Tryz.t235 := by kernel_rfl
theorem EQ80 (x y : Item) (w : World) : (Op.equal 80 (.agg (encItem x).toArray) (.agg (encItem y).toArray)).run Tryz.prog w = .ok (x == y) w := by
  refine Eq.trans ((eqS (k := 9999) Tryz.underlying80 (by kernel_rfl) (eqC (by decide) Tryz.isAgg3 rfl rfl (eqI (k := 9998) Tryz.underlying3) (eqC (by decide) Tryz.isAgg2 rfl rfl (eqI (k := 9998) Tryz.underlying2) eqN))) w) (congrArg (fun b => Result.ok b w) (Bool.eq_iff_iff.2 ?_))
  obtain ⟨x_0, x_1⟩ := x; obtain ⟨y_0, y_1⟩ := y
  simp [and_assoc]
theorem EG80 (o : BinOp) (x y : Operand) (u v : Array Value) (w : World) : (eqGuard o 80 x y (.agg u) (.agg v)).run Tryz.prog w = .ok () w := run_eqGuard_agg w o 80 x y u v (by kernel_rfl)
theorem EQ83 (x y : Wide) (w : World) : (Op.equal 83 (.agg (encWide x).toArray) (.agg (encWide y).toArray)).run Tryz.prog w = .ok (x == y) w := by
  refine Eq.trans ((eqS (k := 9999) Tryz.underlying83 (by kernel_rfl) (eqC (by decide) Tryz.isAgg2 rfl rfl (eqI (k := 9998) Tryz.underlying2) (eqC (by decide) Tryz.isAgg81 rfl rfl (eqI (k := 9998) Tryz.underlying81) eqN))) w) (congrArg (fun b => Result.ok b w) (Bool.eq_iff_iff.2 ?_))
  obtain ⟨x_0, x_1⟩ := x; obtain ⟨y_0, y_1⟩ := y
  simp [and_assoc]
theorem EG83 (o : BinOp) (x y : Operand) (u v : Array Value) (w : World) : (eqGuard o 83 x y (.agg u) (.agg v)).run Tryz.prog w = .ok () w := run_eqGuard_agg w o 83 x y u v (by kernel_rfl)
theorem EQ85 (x y : Sum) (w : World) : (Op.equal 85 (.agg (encSum x).toArray) (.agg (encSum y).toArray)).run Tryz.prog w = .ok (x == y) w := by
  refine Eq.trans ((eqS (k := 9999) Tryz.underlying85 (by kernel_rfl) (eqC (by decide) Tryz.isAgg3 rfl rfl (eqI (k := 9998) Tryz.underlying3) (eqA (by decide) Tryz.isAgg83 Tryz.sizeOf83 (eqS (k := 9998) Tryz.underlying83 (by kernel_rfl) (eqC (by decide) Tryz.isAgg2 rfl rfl (eqI (k := 9997) Tryz.underlying2) (eqC (by decide) Tryz.isAgg81 rfl rfl (eqI (k := 9997) Tryz.underlying81) eqN))) eqN))) w) (congrArg (fun b => Result.ok b w) (Bool.eq_iff_iff.2 ?_))
  obtain ⟨x_0, x_1⟩ := x; obtain ⟨x_1_0, x_1_1⟩ := x_1; obtain ⟨y_0, y_1⟩ := y; obtain ⟨y_1_0, y_1_1⟩ := y_1
  simp [and_assoc]
theorem EG85 (o : BinOp) (x y : Operand) (u v : Array Value) (w : World) : (eqGuard o 85 x y (.agg u) (.agg v)).run Tryz.prog w = .ok () w := run_eqGuard_agg w o 85 x y u v (by kernel_rfl)
end Go.Proofs.YtmidnfbbnmigeaaGreat
