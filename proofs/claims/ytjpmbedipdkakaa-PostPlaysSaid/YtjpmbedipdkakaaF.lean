/- Closed facts of the program (printed by a program of ours). -/
import Derived.Test.YtjpmbedipdkakaaT
import Derived.Test.YtjpmbedipdkakaaChecked
import Derived.Laws.StructEq
import Derived.KernelRfl
namespace Go.Proofs.Ytjpmbedipdkakaa
open Go Go.Fw
set_option linter.unusedVariables false
set_option maxRecDepth 8000
set_option maxHeartbeats 1000000
theorem MX : Try.prog.follows .mixedOrders = true := by kernel_rfl
theorem IN2 : Try.prog.info? 2 = some Try.t2 := by kernel_rfl
theorem IN3 : Try.prog.info? 3 = some Try.t3 := by kernel_rfl
theorem IN30 : Try.prog.info? 30 = some Try.t30 := by kernel_rfl
theorem BI30 : (Try.prog.fieldsOf 30).toList.all (fun f => (Try.prog.info? f.type).isSome) = true := by kernel_rfl
theorem IN34 : Try.prog.info? 34 = some Try.t34 := by kernel_rfl
theorem BI34 : (Try.prog.fieldsOf 34).toList.all (fun f => (Try.prog.info? f.type).isSome) = true := by kernel_rfl
theorem IN48 : Try.prog.info? 48 = some Try.t48 := by kernel_rfl
theorem BI48 : (Try.prog.fieldsOf 48).toList.all (fun f => (Try.prog.info? f.type).isSome) = true := by kernel_rfl
theorem IN60 : Try.prog.info? 60 = some Try.t60 := by kernel_rfl
theorem BI60 : (Try.prog.fieldsOf 60).toList.all (fun f => (Try.prog.info? f.type).isSome) = true := by kernel_rfl
theorem IN68 : Try.prog.info? 68 = some Try.t68 := by kernel_rfl
theorem BI68 : (Try.prog.fieldsOf 68).toList.all (fun f => (Try.prog.info? f.type).isSome) = true := by kernel_rfl
theorem IN71 : Try.prog.info? 71 = some Try.t71 := by kernel_rfl
theorem BI71 : (Try.prog.fieldsOf 71).toList.all (fun f => (Try.prog.info? f.type).isSome) = true := by kernel_rfl
theorem IN80 : Try.prog.info? 80 = some Try.t80 := by kernel_rfl
theorem BI80 : (Try.prog.fieldsOf 80).toList.all (fun f => (Try.prog.info? f.type).isSome) = true := by kernel_rfl
theorem IN83 : Try.prog.info? 83 = some Try.t83 := by kernel_rfl
theorem BI83 : (Try.prog.fieldsOf 83).toList.all (fun f => (Try.prog.info? f.type).isSome) = true := by kernel_rfl
theorem EQ71 (x y : Item) (w : World) : (Op.equal 71 (.agg (encItem x).toArray) (.agg (encItem y).toArray)).run Try.prog w = .ok (x == y) w := by
  refine Eq.trans ((eqS (k := 9999) Try.underlying71 (by kernel_rfl) (eqC (by decide) Try.isAgg3 rfl rfl (eqI (k := 9998) Try.underlying3) (eqC (by decide) Try.isAgg2 rfl rfl (eqI (k := 9998) Try.underlying2) eqN))) w) (congrArg (fun b => Result.ok b w) (Bool.eq_iff_iff.2 ?_))
  obtain ⟨x_0, x_1⟩ := x; obtain ⟨y_0, y_1⟩ := y
  simp [and_assoc]
theorem EG71 (o : BinOp) (x y : Operand) (u v : Array Value) (w : World) : (eqGuard o 71 x y (.agg u) (.agg v)).run Try.prog w = .ok () w := run_eqGuard_agg w o 71 x y u v (by kernel_rfl)
theorem EQ80 (x y : Sum) (w : World) : (Op.equal 80 (.agg (encSum x).toArray) (.agg (encSum y).toArray)).run Try.prog w = .ok (x == y) w := by
  refine Eq.trans ((eqS (k := 9999) Try.underlying80 (by kernel_rfl) (eqC (by decide) Try.isAgg3 rfl rfl (eqI (k := 9998) Try.underlying3) (eqA (by decide) Try.isAgg78 Try.sizeOf78 (eqS (k := 9998) Try.underlying78 (by kernel_rfl) (eqC (by decide) Try.isAgg2 rfl rfl (eqI (k := 9997) Try.underlying2) (eqC (by decide) Try.isAgg76 rfl rfl (eqI (k := 9997) Try.underlying76) eqN))) eqN))) w) (congrArg (fun b => Result.ok b w) (Bool.eq_iff_iff.2 ?_))
  obtain ⟨x_0, x_1⟩ := x; obtain ⟨x_1_0, x_1_1⟩ := x_1; obtain ⟨y_0, y_1⟩ := y; obtain ⟨y_1_0, y_1_1⟩ := y_1
  simp [and_assoc]
theorem EG80 (o : BinOp) (x y : Operand) (u v : Array Value) (w : World) : (eqGuard o 80 x y (.agg u) (.agg v)).run Try.prog w = .ok () w := run_eqGuard_agg w o 80 x y u v (by kernel_rfl)
theorem EQ83 (x y : Triple) (w : World) : (Op.equal 83 (.agg (encTriple x).toArray) (.agg (encTriple y).toArray)).run Try.prog w = .ok (x == y) w := by
  refine Eq.trans ((eqS (k := 9999) Try.underlying83 (by kernel_rfl) (eqC (by decide) Try.isAgg3 rfl rfl (eqI (k := 9998) Try.underlying3) (eqC (by decide) Try.isAgg3 rfl rfl (eqI (k := 9998) Try.underlying3) (eqC (by decide) Try.isAgg2 rfl rfl (eqI (k := 9998) Try.underlying2) eqN)))) w) (congrArg (fun b => Result.ok b w) (Bool.eq_iff_iff.2 ?_))
  obtain ⟨x_0, x_1, x_2⟩ := x; obtain ⟨y_0, y_1, y_2⟩ := y
  simp [and_assoc]
theorem EG83 (o : BinOp) (x y : Operand) (u v : Array Value) (w : World) : (eqGuard o 83 x y (.agg u) (.agg v)).run Try.prog w = .ok () w := run_eqGuard_agg w o 83 x y u v (by kernel_rfl)
end Go.Proofs.Ytjpmbedipdkakaa
