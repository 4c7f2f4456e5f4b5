/- Closed facts of the program (printed by a program of ours). -/
import Derived.Test.YtdfiinkpdaggeaaT
import Derived.Test.YtdfiinkpdaggeaaChecked
import Derived.Laws.StructEq
import Derived.KernelRfl
namespace Go.Proofs.Ytdfiinkpdaggeaa
open Go Go.Fw
set_option linter.unusedVariables false
set_option linter.unusedSimpArgs false
set_option maxRecDepth 8000
set_option maxHeartbeats 1000000
theorem MX : Try.prog.follows .mixedOrders = true := by kernel_rfl
theorem MD : Nat.blt 0 (Try.prog.types.size + Made.depth) = true := by kernel_rfl
theorem IN2 : Try.prog.info? 2 = some Try.t2 := by kernel_rfl
theorem IN3 : Try.prog.info? 3 = some Try.t3 := by kernel_rfl
theorem IN24 : Try.prog.info? 24 = some Try.t24 := by kernel_rfl
theorem IN39 : Try.prog.info? 39 = some Try.t39 := by kernel_rfl
theorem BI39 : (Try.prog.fieldsOf 39).toList.all (fun f => (Try.prog.info? f.type).isSome) = true := by kernel_rfl
theorem IN44 : Try.prog.info? 44 = some Try.t44 := by kernel_rfl
theorem BI44 : (Try.prog.fieldsOf 44).toList.all (fun f => (Try.prog.info? f.type).isSome) = true := by kernel_rfl
theorem IN46 : Try.prog.info? 46 = some Try.t46 := by kernel_rfl
theorem BI46 : (Try.prog.fieldsOf 46).toList.all (fun f => (Try.prog.info? f.type).isSome) = true := by kernel_rfl
theorem IN51 : Try.prog.info? 51 = some Try.t51 := by kernel_rfl
theorem BI51 : (Try.prog.fieldsOf 51).toList.all (fun f => (Try.prog.info? f.type).isSome) = true := by kernel_rfl
theorem IN55 : Try.prog.info? 55 = some Try.t55 := by kernel_rfl
theorem BI55 : (Try.prog.fieldsOf 55).toList.all (fun f => (Try.prog.info? f.type).isSome) = true := by kernel_rfl
theorem IN58 : Try.prog.info? 58 = some Try.t58 := by kernel_rfl
theorem BI58 : (Try.prog.fieldsOf 58).toList.all (fun f => (Try.prog.info? f.type).isSome) = true := by kernel_rfl
theorem IN61 : Try.prog.info? 61 = some Try.t61 := by kernel_rfl
theorem BI61 : (Try.prog.fieldsOf 61).toList.all (fun f => (Try.prog.info? f.type).isSome) = true := by kernel_rfl
theorem IN64 : Try.prog.info? 64 = some Try.t64 := by kernel_rfl
theorem BI64 : (Try.prog.fieldsOf 64).toList.all (fun f => (Try.prog.info? f.type).isSome) = true := by kernel_rfl
theorem IN72 : Try.prog.info? 72 = some Try.t72 := by kernel_rfl
theorem IN74 : Try.prog.info? 74 = some Try.t74 := by kernel_rfl
theorem BI74 : (Try.prog.fieldsOf 74).toList.all (fun f => (Try.prog.info? f.type).isSome) = true := by kernel_rfl
theorem IN79 : Try.prog.info? 79 = some Try.t79 := by kernel_rfl
theorem BI79 : (Try.prog.fieldsOf 79).toList.all (fun f => (Try.prog.info? f.type).isSome) = true := by kernel_rfl
theorem IN144 : Try.prog.info? 144 = some Try.t144 := by kernel_rfl
theorem EQ44 (x y : Wide) (w : World) : (Op.equal 44 (.agg (encWide x).toArray) (.agg (encWide y).toArray)).run Try.prog w = .ok (x == y) w := by
  refine Eq.trans ((eqS (k := 9999) Try.underlying44 (by kernel_rfl) (eqC (by decide) Try.isAgg2 rfl rfl (eqI (k := 9998) Try.underlying2) (eqC (by decide) Try.isAgg42 rfl rfl (eqI (k := 9998) Try.underlying42) eqN))) w) (congrArg (fun b => Result.ok b w) (Bool.eq_iff_iff.2 ?_))
  obtain ⟨x_0, x_1⟩ := x; obtain ⟨y_0, y_1⟩ := y
  simp [and_assoc]
theorem EG44 (o : BinOp) (x y : Operand) (u v : Array Value) (w : World) : (eqGuard o 44 x y (.agg u) (.agg v)).run Try.prog w = .ok () w := run_eqGuard_agg w o 44 x y u v (by kernel_rfl)
theorem EQ46 (x y : Sum) (w : World) : (Op.equal 46 (.agg (encSum x).toArray) (.agg (encSum y).toArray)).run Try.prog w = .ok (x == y) w := by
  refine Eq.trans ((eqS (k := 9999) Try.underlying46 (by kernel_rfl) (eqC (by decide) Try.isAgg3 rfl rfl (eqI (k := 9998) Try.underlying3) (eqA (by decide) Try.isAgg44 Try.sizeOf44 (eqS (k := 9998) Try.underlying44 (by kernel_rfl) (eqC (by decide) Try.isAgg2 rfl rfl (eqI (k := 9997) Try.underlying2) (eqC (by decide) Try.isAgg42 rfl rfl (eqI (k := 9997) Try.underlying42) eqN))) eqN))) w) (congrArg (fun b => Result.ok b w) (Bool.eq_iff_iff.2 ?_))
  obtain ⟨x_0, x_1⟩ := x; obtain ⟨x_1_0, x_1_1⟩ := x_1; obtain ⟨y_0, y_1⟩ := y; obtain ⟨y_1_0, y_1_1⟩ := y_1
  simp [and_assoc]
theorem EG46 (o : BinOp) (x y : Operand) (u v : Array Value) (w : World) : (eqGuard o 46 x y (.agg u) (.agg v)).run Try.prog w = .ok () w := run_eqGuard_agg w o 46 x y u v (by kernel_rfl)
end Go.Proofs.Ytdfiinkpdaggeaa
