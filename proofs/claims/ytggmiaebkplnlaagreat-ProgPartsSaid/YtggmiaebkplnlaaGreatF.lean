/- Closed facts of the program (printed by a program of ours). -/
import Derived.Test.YtggmiaebkplnlaaGreatT
import Derived.Test.YtggmiaebkplnlaaGreatChecked
import Derived.Laws.StructEq
import Derived.KernelRfl
namespace Go.Proofs.YtggmiaebkplnlaaGreat
open Go Go.Fw
set_option linter.unusedVariables false
set_option linter.unusedSimpArgs false
set_option maxRecDepth 8000
set_option maxHeartbeats 1000000
theorem MX : Tryz.prog.follows .mixedOrders = true := by kernel_rfl
theorem IN2 : Tryz.prog.info? 2 = some Tryz.t2 := by kernel_rfl
theorem IN3 : Tryz.prog.info? 3 = some Tryz.t3 := by kernel_rfl
theorem IN25 : Tryz.prog.info? 25 = some Tryz.t25 := by kernel_rfl
theorem BI25 : (Tryz.prog.fieldsOf 25).toList.all (fun f => (Tryz.prog.info? f.type).isSome) = true := by kernel_rfl
theorem IN28 : Tryz.prog.info? 28 = some Tryz.t28 := by kernel_rfl
theorem BI28 : (Tryz.prog.fieldsOf 28).toList.all (fun f => (Tryz.prog.info? f.type).isSome) = true := by kernel_rfl
theorem IN32 : Tryz.prog.info? 32 = some Tryz.t32 := by kernel_rfl
theorem BI32 : (Tryz.prog.fieldsOf 32).toList.all (fun f => (Tryz.prog.info? f.type).isSome) = true := by kernel_rfl
theorem IN46 : Tryz.prog.info? 46 = some Tryz.t46 := by kernel_rfl
theorem BI46 : (Tryz.prog.fieldsOf 46).toList.all (fun f => (Tryz.prog.info? f.type).isSome) = true := by kernel_rfl
theorem IN51 : Tryz.prog.info? 51 = some Tryz.t51 := by kernel_rfl
theorem BI51 : (Tryz.prog.fieldsOf 51).toList.all (fun f => (Tryz.prog.info? f.type).isSome) = true := by kernel_rfl
theorem IN71 : Tryz.prog.info? 71 = some Tryz.t71 := by kernel_rfl
theorem BI71 : (Tryz.prog.fieldsOf 71).toList.all (fun f => (Tryz.prog.info? f.type).isSome) = true := by kernel_rfl
theorem IN73 : Tryz.prog.info? 73 = some Tryz.t73 := by kernel_rfl
theorem BI73 : (Tryz.prog.fieldsOf 73).toList.all (fun f => (Tryz.prog.info? f.type).isSome) = true := by kernel_rfl
theorem IN96 : Tryz.prog.info? 96 = some Tryz.t96 := by kernel_rfl
theorem IN115 : Tryz.prog.info? 115 = some Tryz.t115 := by kernel_rfl
theorem BI115 : (Tryz.prog.fieldsOf 115).toList.all (fun f => (Tryz.prog.info? f.type).isSome) = true := by kernel_rfl
theorem IN142 : Tryz.prog.info? 142 = some Tryz.t142 := by kernel_rfl
theorem IN144 : Tryz.prog.info? 144 = some Tryz.t144 := by kernel_rfl
theorem BI144 : (Tryz.prog.fieldsOf 144).toList.all (fun f => (Tryz.prog.info? f.type).isSome) = true := by kernel_rfl
theorem IX3 : Tryz.prog.info? 3 = some Tryz.t3 := by kernel_rfl
theorem KA142 : KeyOk Tryz.prog 142 kArr2 := keyArr2 Tryz.underlying142 IX3 Tryz.underlying3 (by kernel_rfl) Tryz.isAgg3 Tryz.sizeOf3
theorem EQ71 (x y : Item) (w : World) : (Op.equal 71 (.agg (encItem x).toArray) (.agg (encItem y).toArray)).run Tryz.prog w = .ok (x == y) w := by
  refine Eq.trans ((eqS (k := 9999) Tryz.underlying71 (by kernel_rfl) (eqC (by decide) Tryz.isAgg3 rfl rfl (eqI (k := 9998) Tryz.underlying3) (eqC (by decide) Tryz.isAgg2 rfl rfl (eqI (k := 9998) Tryz.underlying2) eqN))) w) (congrArg (fun b => Result.ok b w) (Bool.eq_iff_iff.2 ?_))
  obtain ⟨x_0, x_1⟩ := x; obtain ⟨y_0, y_1⟩ := y
  simp [and_assoc]
theorem EG71 (o : BinOp) (x y : Operand) (u v : Array Value) (w : World) : (eqGuard o 71 x y (.agg u) (.agg v)).run Tryz.prog w = .ok () w := run_eqGuard_agg w o 71 x y u v (by kernel_rfl)
theorem EQ144 (x y : Wide) (w : World) : (Op.equal 144 (.agg (encWide x).toArray) (.agg (encWide y).toArray)).run Tryz.prog w = .ok (x == y) w := by
  refine Eq.trans ((eqS (k := 9999) Tryz.underlying144 (by kernel_rfl) (eqC (by decide) Tryz.isAgg2 rfl rfl (eqI (k := 9998) Tryz.underlying2) (eqC (by decide) Tryz.isAgg96 rfl rfl (eqI (k := 9998) Tryz.underlying96) eqN))) w) (congrArg (fun b => Result.ok b w) (Bool.eq_iff_iff.2 ?_))
  obtain ⟨x_0, x_1⟩ := x; obtain ⟨y_0, y_1⟩ := y
  simp [and_assoc]
theorem EG144 (o : BinOp) (x y : Operand) (u v : Array Value) (w : World) : (eqGuard o 144 x y (.agg u) (.agg v)).run Tryz.prog w = .ok () w := run_eqGuard_agg w o 144 x y u v (by kernel_rfl)
abbrev o0_ (Q : Bool → Prop) : Value → Prop := fun v => ∃ r, v = .bool r ∧ Q r
abbrev o1_ (Q : Int → Prop) : Value → Prop := fun v => ∃ r, v = .int .i64 r ∧ Q r
abbrev o2_ (Q : Wide → Prop) : Value → Prop := fun v => ∃ r, v = .agg (encWide r).toArray ∧ Q r
abbrev o3_ (Q : Int → Prop) : Value → Prop := fun v => ∃ r, v = .int .u64 r ∧ Q r
abbrev o4_ (Q : (Int × Bool) → Prop) : Value → Prop := fun v => ∃ r, v = .tuple #[.int .i64 r.1, .bool r.2] ∧ Q r
abbrev o5_ (Q : Graph → Prop) : IH → Value → Prop := fun I_ v => ∃ r p4 c5, v = .agg #[.int .i64 r.N, .slice p4 r.Edges.length c5] ∧ RepSl eEdge I_ p4 c5 r.Edges ∧ Q r
abbrev o6_ (Q : (Edge × Bool) → Prop) : Value → Prop := fun v => ∃ r, v = .tuple #[.agg (encEdge r.1).toArray, .bool r.2] ∧ Q r
abbrev o7_ (Q : Rows → Prop) : Value → List HA → Prop := fun v l => ∃ r p1 c2 p4 c5 p7 c8, v = .agg #[.int .i64 r.Rows, .int .i64 r.Cols, .slice p1 r.Start.length c2, .slice p4 r.Col.length c5, .slice p7 r.Val.length c8] ∧ l = [OwnSl eI64 3 p1 c2 r.Start, OwnSl eI64 3 p4 c5 r.Col, OwnSl eI64 2 p7 c8 r.Val] ∧ Q r
abbrev o8_ (Q : Rows → Prop) : IH → Value → Prop := fun I_ v => ∃ r p4 c5 p7 c8 p10 c11, v = .agg #[.int .i64 r.Rows, .int .i64 r.Cols, .slice p4 r.Start.length c5, .slice p7 r.Col.length c8, .slice p10 r.Val.length c11] ∧ RepSl eI64 I_ p4 c5 r.Start ∧ RepSl eI64 I_ p7 c8 r.Col ∧ RepSl eI64 I_ p10 c11 r.Val ∧ Q r
abbrev o9_ (Q : (Rows × Int) → Prop) : IH → Value → Prop := fun I_ v => ∃ r p4 c5 p7 c8 p10 c11, v = .tuple #[.agg #[.int .i64 r.1.Rows, .int .i64 r.1.Cols, .slice p4 r.1.Start.length c5, .slice p7 r.1.Col.length c8, .slice p10 r.1.Val.length c11], .int .i64 r.2] ∧ RepSl eI64 I_ p4 c5 r.1.Start ∧ RepSl eI64 I_ p7 c8 r.1.Col ∧ RepSl eI64 I_ p10 c11 r.1.Val ∧ Q r
abbrev o10_ (Q : (Rows × Int) → Prop) : IH → Value → Prop := fun I_ v => ∃ r p7 c8 p10 c11 p13 c14, v = .tuple #[.agg #[.int .i64 r.1.Rows, .int .i64 r.1.Cols, .slice p7 r.1.Start.length c8, .slice p10 r.1.Col.length c11, .slice p13 r.1.Val.length c14], .int .i64 r.2] ∧ RepSl eI64 I_ p7 c8 r.1.Start ∧ RepSl eI64 I_ p10 c11 r.1.Col ∧ RepSl eI64 I_ p13 c14 r.1.Val ∧ Q r
abbrev o11_ (Q : (List Int) → Prop) : IH → Value → Prop := fun I_ v => ∃ r p4 c5, v = .slice p4 r.length c5 ∧ RepSl eU64 I_ p4 c5 r ∧ Q r
abbrev o12_ (Q : State → Prop) : IH → Value → Prop := fun I_ v => ∃ r p13 c14 p16 c17 p19 c20, v = .agg #[.int .i64 r.Low, .int .i64 r.High, .slice p13 r.A.length c14, .slice p16 r.B.length c17, .slice p19 r.On.length c20] ∧ RepSl eI64 I_ p13 c14 r.A ∧ RepSl eI64 I_ p16 c17 r.B ∧ RepSl eU64 I_ p19 c20 r.On ∧ Q r
abbrev o13_ (Q : (List Int) → Prop) : IH → Value → Prop := fun I_ v => ∃ r p4 c5, v = .slice p4 r.length c5 ∧ RepSl eI64 I_ p4 c5 r ∧ Q r
abbrev o14_ (Q : Vec → Prop) : IH → Value → Prop := fun I_ v => ∃ r p13 c14, v = .agg #[.int .i64 r.N, .slice p13 r.Items.length c14] ∧ RepSl eItem I_ p13 c14 r.Items ∧ Q r
abbrev o15_ (Q : Graph → Prop) : Value → List HA → Prop := fun v l => ∃ r p4 c5, v = .agg #[.int .i64 r.N, .slice p4 r.Edges.length c5] ∧ l = [OwnSl eEdge 73 p4 c5 r.Edges] ∧ Q r
abbrev o16_ (Q : State → Prop) : IH → Value → Prop := fun I_ v => ∃ r p4 c5 p7 c8 p10 c11, v = .agg #[.int .i64 r.Low, .int .i64 r.High, .slice p4 r.A.length c5, .slice p7 r.B.length c8, .slice p10 r.On.length c11] ∧ RepSl eI64 I_ p4 c5 r.A ∧ RepSl eI64 I_ p7 c8 r.B ∧ RepSl eU64 I_ p10 c11 r.On ∧ Q r
abbrev o17_ (Q : (Vec × Int) → Prop) : IH → Value → Prop := fun I_ v => ∃ r p4 c5, v = .tuple #[.agg #[.int .i64 r.1.N, .slice p4 r.1.Items.length c5], .int .i64 r.2] ∧ RepSl eItem I_ p4 c5 r.1.Items ∧ Q r
abbrev o18_ (Q : Vec → Prop) : IH → Value → Prop := fun I_ v => ∃ r p4 c5, v = .agg #[.int .i64 r.N, .slice p4 r.Items.length c5] ∧ RepSl eItem I_ p4 c5 r.Items ∧ Q r
abbrev o19_ (Q : State → Prop) : IH → Value → Prop := fun I_ v => ∃ r p16 c17 p19 c20 p22 c23, v = .agg #[.int .i64 r.Low, .int .i64 r.High, .slice p16 r.A.length c17, .slice p19 r.B.length c20, .slice p22 r.On.length c23] ∧ RepSl eI64 I_ p16 c17 r.A ∧ RepSl eI64 I_ p19 c20 r.B ∧ RepSl eU64 I_ p22 c23 r.On ∧ Q r
abbrev un2 := @Tryz.underlying2
abbrev un3 := @Tryz.underlying3
abbrev un5 := @Tryz.underlying5
abbrev un23 := @Tryz.underlying23
abbrev un25 := @Tryz.underlying25
abbrev un26 := @Tryz.underlying26
abbrev un28 := @Tryz.underlying28
abbrev un30 := @Tryz.underlying30
abbrev un32 := @Tryz.underlying32
abbrev un44 := @Tryz.underlying44
abbrev un46 := @Tryz.underlying46
abbrev un49 := @Tryz.underlying49
abbrev un51 := @Tryz.underlying51
abbrev un66 := @Tryz.underlying66
abbrev un71 := @Tryz.underlying71
abbrev un73 := @Tryz.underlying73
abbrev un96 := @Tryz.underlying96
abbrev un113 := @Tryz.underlying113
abbrev un115 := @Tryz.underlying115
abbrev un144 := @Tryz.underlying144
abbrev un151 := @Tryz.underlying151
abbrev sz2 := @Tryz.sizeOf2
abbrev sz3 := @Tryz.sizeOf3
abbrev sz22 := @Tryz.sizeOf22
abbrev sz23 := @Tryz.sizeOf23
abbrev sz25 := @Tryz.sizeOf25
abbrev sz26 := @Tryz.sizeOf26
abbrev sz28 := @Tryz.sizeOf28
abbrev sz30 := @Tryz.sizeOf30
abbrev sz32 := @Tryz.sizeOf32
abbrev sz44 := @Tryz.sizeOf44
abbrev sz46 := @Tryz.sizeOf46
abbrev sz49 := @Tryz.sizeOf49
abbrev sz51 := @Tryz.sizeOf51
abbrev sz71 := @Tryz.sizeOf71
abbrev sz73 := @Tryz.sizeOf73
abbrev sz96 := @Tryz.sizeOf96
abbrev sz144 := @Tryz.sizeOf144
abbrev ia2 := @Tryz.isAgg2
abbrev ia3 := @Tryz.isAgg3
abbrev ia22 := @Tryz.isAgg22
abbrev ia23 := @Tryz.isAgg23
abbrev ia25 := @Tryz.isAgg25
abbrev ia26 := @Tryz.isAgg26
abbrev ia28 := @Tryz.isAgg28
abbrev ia32 := @Tryz.isAgg32
abbrev ia44 := @Tryz.isAgg44
abbrev ia46 := @Tryz.isAgg46
abbrev ia49 := @Tryz.isAgg49
abbrev ia51 := @Tryz.isAgg51
abbrev ia73 := @Tryz.isAgg73
abbrev ia96 := @Tryz.isAgg96
abbrev ia144 := @Tryz.isAgg144
abbrev zv2 := @Tryz.zeroValue2
abbrev zv3 := @Tryz.zeroValue3
abbrev zv28 := @Tryz.zeroValue28
abbrev zv32 := @Tryz.zeroValue32
abbrev zv46 := @Tryz.zeroValue46
abbrev zv51 := @Tryz.zeroValue51
abbrev zv71 := @Tryz.zeroValue71
abbrev zv73 := @Tryz.zeroValue73
abbrev zv144 := @Tryz.zeroValue144
end Go.Proofs.YtggmiaebkplnlaaGreat
