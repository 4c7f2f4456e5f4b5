/- Closed facts of the program (printed by a program of ours). -/
import Derived.Test.YtjabmpfcpekpdaaGreatT
import Derived.Test.YtjabmpfcpekpdaaGreatChecked
import Derived.Laws.StructEq
import Derived.KernelRfl
namespace Go.Proofs.YtjabmpfcpekpdaaGreat
open Go Go.Fw
set_option linter.unusedVariables false
set_option linter.unusedSimpArgs false
set_option maxRecDepth 8000
set_option maxHeartbeats 1000000
theorem MX : Tryz.prog.follows .mixedOrders = true := by kernel_rfl
theorem IN2 : Tryz.prog.info? 2 = some Tryz.t2 := by kernel_rfl
theorem IN3 : Tryz.prog.info? 3 = some Tryz.t3 := by kernel_rfl
theorem IN30 : Tryz.prog.info? 30 = some Tryz.t30 := by kernel_rfl
theorem BI30 : (Tryz.prog.fieldsOf 30).toList.all (fun f => (Tryz.prog.info? f.type).isSome) = true := by kernel_rfl
theorem IN31 : Tryz.prog.info? 31 = some Tryz.t31 := by kernel_rfl
theorem IN33 : Tryz.prog.info? 33 = some Tryz.t33 := by kernel_rfl
theorem IN46 : Tryz.prog.info? 46 = some Tryz.t46 := by kernel_rfl
theorem IN55 : Tryz.prog.info? 55 = some Tryz.t55 := by kernel_rfl
theorem IN57 : Tryz.prog.info? 57 = some Tryz.t57 := by kernel_rfl
theorem BI57 : (Tryz.prog.fieldsOf 57).toList.all (fun f => (Tryz.prog.info? f.type).isSome) = true := by kernel_rfl
theorem IN59 : Tryz.prog.info? 59 = some Tryz.t59 := by kernel_rfl
theorem BI59 : (Tryz.prog.fieldsOf 59).toList.all (fun f => (Tryz.prog.info? f.type).isSome) = true := by kernel_rfl
theorem IN64 : Tryz.prog.info? 64 = some Tryz.t64 := by kernel_rfl
theorem BI64 : (Tryz.prog.fieldsOf 64).toList.all (fun f => (Tryz.prog.info? f.type).isSome) = true := by kernel_rfl
theorem IN70 : Tryz.prog.info? 70 = some Tryz.t70 := by kernel_rfl
theorem BI70 : (Tryz.prog.fieldsOf 70).toList.all (fun f => (Tryz.prog.info? f.type).isSome) = true := by kernel_rfl
theorem IN73 : Tryz.prog.info? 73 = some Tryz.t73 := by kernel_rfl
theorem BI73 : (Tryz.prog.fieldsOf 73).toList.all (fun f => (Tryz.prog.info? f.type).isSome) = true := by kernel_rfl
theorem IN76 : Tryz.prog.info? 76 = some Tryz.t76 := by kernel_rfl
theorem IN78 : Tryz.prog.info? 78 = some Tryz.t78 := by kernel_rfl
theorem BI78 : (Tryz.prog.fieldsOf 78).toList.all (fun f => (Tryz.prog.info? f.type).isSome) = true := by kernel_rfl
theorem IN91 : Tryz.prog.info? 91 = some Tryz.t91 := by kernel_rfl
theorem BI91 : (Tryz.prog.fieldsOf 91).toList.all (fun f => (Tryz.prog.info? f.type).isSome) = true := by kernel_rfl
theorem IN115 : Tryz.prog.info? 115 = some Tryz.t115 := by kernel_rfl
theorem BI115 : (Tryz.prog.fieldsOf 115).toList.all (fun f => (Tryz.prog.info? f.type).isSome) = true := by kernel_rfl
theorem IN138 : Tryz.prog.info? 138 = some Tryz.t138 := by kernel_rfl
theorem BI138 : (Tryz.prog.fieldsOf 138).toList.all (fun f => (Tryz.prog.info? f.type).isSome) = true := by kernel_rfl
theorem IN200 : Tryz.prog.info? 200 = some Tryz.t200 := by kernel_rfl
theorem IX3 : Tryz.prog.info? 3 = some Tryz.t3 := by kernel_rfl
theorem KA46 : KeyOk Tryz.prog 46 kArr2 := keyArr2 Tryz.underlying46 IX3 Tryz.underlying3 (by kernel_rfl) Tryz.isAgg3 Tryz.sizeOf3
theorem EQ57 (x y : Wide) (w : World) : (Op.equal 57 (.agg (encWide x).toArray) (.agg (encWide y).toArray)).run Tryz.prog w = .ok (x == y) w := by
  refine Eq.trans ((eqS (k := 9999) Tryz.underlying57 (by kernel_rfl) (eqC (by decide) Tryz.isAgg2 rfl rfl (eqI (k := 9998) Tryz.underlying2) (eqC (by decide) Tryz.isAgg55 rfl rfl (eqI (k := 9998) Tryz.underlying55) eqN))) w) (congrArg (fun b => Result.ok b w) (Bool.eq_iff_iff.2 ?_))
  obtain ⟨x_0, x_1⟩ := x; obtain ⟨y_0, y_1⟩ := y
  simp [and_assoc]
theorem EG57 (o : BinOp) (x y : Operand) (u v : Array Value) (w : World) : (eqGuard o 57 x y (.agg u) (.agg v)).run Tryz.prog w = .ok () w := run_eqGuard_agg w o 57 x y u v (by kernel_rfl)
theorem EQ59 (x y : Cell) (w : World) : (Op.equal 59 (.agg (encCell x).toArray) (.agg (encCell y).toArray)).run Tryz.prog w = .ok (x == y) w := by
  refine Eq.trans ((eqS (k := 9999) Tryz.underlying59 (by kernel_rfl) (eqC (by decide) Tryz.isAgg3 rfl rfl (eqI (k := 9998) Tryz.underlying3) (eqC (by decide) Tryz.isAgg3 rfl rfl (eqI (k := 9998) Tryz.underlying3) (eqA (by decide) Tryz.isAgg57 Tryz.sizeOf57 (eqS (k := 9998) Tryz.underlying57 (by kernel_rfl) (eqC (by decide) Tryz.isAgg2 rfl rfl (eqI (k := 9997) Tryz.underlying2) (eqC (by decide) Tryz.isAgg55 rfl rfl (eqI (k := 9997) Tryz.underlying55) eqN))) eqN)))) w) (congrArg (fun b => Result.ok b w) (Bool.eq_iff_iff.2 ?_))
  obtain ⟨x_0, x_1, x_2⟩ := x; obtain ⟨x_2_0, x_2_1⟩ := x_2; obtain ⟨y_0, y_1, y_2⟩ := y; obtain ⟨y_2_0, y_2_1⟩ := y_2
  simp [and_assoc]
theorem EG59 (o : BinOp) (x y : Operand) (u v : Array Value) (w : World) : (eqGuard o 59 x y (.agg u) (.agg v)).run Tryz.prog w = .ok () w := run_eqGuard_agg w o 59 x y u v (by kernel_rfl)
theorem EQ73 (x y : Sum) (w : World) : (Op.equal 73 (.agg (encSum x).toArray) (.agg (encSum y).toArray)).run Tryz.prog w = .ok (x == y) w := by
  refine Eq.trans ((eqS (k := 9999) Tryz.underlying73 (by kernel_rfl) (eqC (by decide) Tryz.isAgg3 rfl rfl (eqI (k := 9998) Tryz.underlying3) (eqA (by decide) Tryz.isAgg57 Tryz.sizeOf57 (eqS (k := 9998) Tryz.underlying57 (by kernel_rfl) (eqC (by decide) Tryz.isAgg2 rfl rfl (eqI (k := 9997) Tryz.underlying2) (eqC (by decide) Tryz.isAgg55 rfl rfl (eqI (k := 9997) Tryz.underlying55) eqN))) eqN))) w) (congrArg (fun b => Result.ok b w) (Bool.eq_iff_iff.2 ?_))
  obtain ⟨x_0, x_1⟩ := x; obtain ⟨x_1_0, x_1_1⟩ := x_1; obtain ⟨y_0, y_1⟩ := y; obtain ⟨y_1_0, y_1_1⟩ := y_1
  simp [and_assoc]
theorem EG73 (o : BinOp) (x y : Operand) (u v : Array Value) (w : World) : (eqGuard o 73 x y (.agg u) (.agg v)).run Tryz.prog w = .ok () w := run_eqGuard_agg w o 73 x y u v (by kernel_rfl)
abbrev o0_ (Q : Int → Prop) : Value → Prop := fun v => ∃ r, v = .int .i64 r ∧ Q r
abbrev o1_ (Q : Bool → Prop) : Value → Prop := fun v => ∃ r, v = .bool r ∧ Q r
abbrev o2_ (Q : Rows → Prop) : Value → List HA → Prop := fun v l => ∃ r p1 c2 p4 c5 p7 c8, v = .agg #[.int .i64 r.Rows, .int .i64 r.Cols, .slice p1 r.Start.length c2, .slice p4 r.Col.length c5, .slice p7 r.Val.length c8] ∧ l = [OwnSl eI64 3 p1 c2 r.Start, OwnSl eI64 3 p4 c5 r.Col, OwnSl eI64 2 p7 c8 r.Val] ∧ Q r
abbrev o3_ (Q : Rows → Prop) : IH → Value → Prop := fun I_ v => ∃ r p4 c5 p7 c8 p10 c11, v = .agg #[.int .i64 r.Rows, .int .i64 r.Cols, .slice p4 r.Start.length c5, .slice p7 r.Col.length c8, .slice p10 r.Val.length c11] ∧ RepSl eI64 I_ p4 c5 r.Start ∧ RepSl eI64 I_ p7 c8 r.Col ∧ RepSl eI64 I_ p10 c11 r.Val ∧ Q r
abbrev o4_ (Q : Wide → Prop) : Value → Prop := fun v => ∃ r, v = .agg (encWide r).toArray ∧ Q r
abbrev o5_ (Q : (Int × Bool) → Prop) : Value → Prop := fun v => ∃ r, v = .tuple #[.int .i64 r.1, .bool r.2] ∧ Q r
abbrev o6_ (Q : (Rows × Int) → Prop) : IH → Value → Prop := fun I_ v => ∃ r p4 c5 p7 c8 p10 c11, v = .tuple #[.agg #[.int .i64 r.1.Rows, .int .i64 r.1.Cols, .slice p4 r.1.Start.length c5, .slice p7 r.1.Col.length c8, .slice p10 r.1.Val.length c11], .int .i64 r.2] ∧ RepSl eI64 I_ p4 c5 r.1.Start ∧ RepSl eI64 I_ p7 c8 r.1.Col ∧ RepSl eI64 I_ p10 c11 r.1.Val ∧ Q r
abbrev o7_ (Q : Rows → Prop) : IH → Value → Prop := fun I_ v => ∃ r p10 c11 p13 c14 p16 c17, v = .agg #[.int .i64 r.Rows, .int .i64 r.Cols, .slice p10 r.Start.length c11, .slice p13 r.Col.length c14, .slice p16 r.Val.length c17] ∧ RepSl eI64 I_ p10 c11 r.Start ∧ RepSl eI64 I_ p13 c14 r.Col ∧ RepSl eI64 I_ p16 c17 r.Val ∧ Q r
abbrev o8_ (Q : (Int × Int) → Prop) : Value → Prop := fun v => ∃ r, v = .tuple #[.int .i64 r.1, .int .i64 r.2] ∧ Q r
abbrev o9_ (Q : ((List Int) × (List Int)) → Prop) : IH → Value → Prop := fun I_ v => ∃ r p10 c11 p13 c14, v = .tuple #[.slice p10 r.1.length c11, .slice p13 r.2.length c14] ∧ RepSl eI64 I_ p10 c11 r.1 ∧ RepSl eI64 I_ p13 c14 r.2 ∧ Q r
abbrev o10_ (Q : (List Item) → Prop) : IH → Value → Prop := fun I_ v => ∃ r p10 c11, v = .slice p10 r.length c11 ∧ RepSl eItem I_ p10 c11 r ∧ Q r
abbrev o11_ (Q : Int → Prop) : Value → Prop := fun v => ∃ r, v = .int .u64 r ∧ Q r
abbrev o12_ (Q : ((List Cell) × Int) → Prop) : IH → Value → Prop := fun I_ v => ∃ r p28 c29, v = .tuple #[.slice p28 r.1.length c29, .int .i64 r.2] ∧ RepSl eCell I_ p28 c29 r.1 ∧ Q r
abbrev o13_ (Q : (Rows × Int) → Prop) : IH → Value → Prop := fun I_ v => ∃ r p28 c29 p31 c32 p34 c35, v = .tuple #[.agg #[.int .i64 r.1.Rows, .int .i64 r.1.Cols, .slice p28 r.1.Start.length c29, .slice p31 r.1.Col.length c32, .slice p34 r.1.Val.length c35], .int .i64 r.2] ∧ RepSl eI64 I_ p28 c29 r.1.Start ∧ RepSl eI64 I_ p31 c32 r.1.Col ∧ RepSl eI64 I_ p34 c35 r.1.Val ∧ Q r
abbrev o14_ (Q : ((List Cell) × Int) → Prop) : IH → Value → Prop := fun I_ v => ∃ r p4 c5, v = .tuple #[.slice p4 r.1.length c5, .int .i64 r.2] ∧ RepSl eCell I_ p4 c5 r.1 ∧ Q r
abbrev o15_ (Q : (List Int) → Prop) : IH → Value → Prop := fun I_ v => ∃ r p1 c2, v = .slice p1 r.length c2 ∧ RepSl eU64 I_ p1 c2 r ∧ Q r
abbrev o16_ (Q : (List Int) → Prop) : IH → Value → Prop := fun I_ v => ∃ r p4 c5, v = .slice p4 r.length c5 ∧ RepSl eU64 I_ p4 c5 r ∧ Q r
abbrev un2 := @Tryz.underlying2
abbrev un3 := @Tryz.underlying3
abbrev un23 := @Tryz.underlying23
abbrev un24 := @Tryz.underlying24
abbrev un26 := @Tryz.underlying26
abbrev un27 := @Tryz.underlying27
abbrev un28 := @Tryz.underlying28
abbrev un30 := @Tryz.underlying30
abbrev un31 := @Tryz.underlying31
abbrev un33 := @Tryz.underlying33
abbrev un45 := @Tryz.underlying45
abbrev un46 := @Tryz.underlying46
abbrev un55 := @Tryz.underlying55
abbrev un57 := @Tryz.underlying57
abbrev un59 := @Tryz.underlying59
abbrev un61 := @Tryz.underlying61
abbrev un64 := @Tryz.underlying64
abbrev un65 := @Tryz.underlying65
abbrev un68 := @Tryz.underlying68
abbrev un70 := @Tryz.underlying70
abbrev un76 := @Tryz.underlying76
abbrev un78 := @Tryz.underlying78
abbrev un80 := @Tryz.underlying80
abbrev un91 := @Tryz.underlying91
abbrev un115 := @Tryz.underlying115
abbrev un135 := @Tryz.underlying135
abbrev un136 := @Tryz.underlying136
abbrev un138 := @Tryz.underlying138
abbrev un169 := @Tryz.underlying169
abbrev un200 := @Tryz.underlying200
abbrev sz2 := @Tryz.sizeOf2
abbrev sz3 := @Tryz.sizeOf3
abbrev sz5 := @Tryz.sizeOf5
abbrev sz22 := @Tryz.sizeOf22
abbrev sz27 := @Tryz.sizeOf27
abbrev sz28 := @Tryz.sizeOf28
abbrev sz30 := @Tryz.sizeOf30
abbrev sz33 := @Tryz.sizeOf33
abbrev sz46 := @Tryz.sizeOf46
abbrev sz55 := @Tryz.sizeOf55
abbrev sz57 := @Tryz.sizeOf57
abbrev sz59 := @Tryz.sizeOf59
abbrev sz70 := @Tryz.sizeOf70
abbrev sz91 := @Tryz.sizeOf91
abbrev sz115 := @Tryz.sizeOf115
abbrev sz138 := @Tryz.sizeOf138
abbrev ia2 := @Tryz.isAgg2
abbrev ia3 := @Tryz.isAgg3
abbrev ia22 := @Tryz.isAgg22
abbrev ia27 := @Tryz.isAgg27
abbrev ia28 := @Tryz.isAgg28
abbrev ia30 := @Tryz.isAgg30
abbrev ia55 := @Tryz.isAgg55
abbrev ia57 := @Tryz.isAgg57
abbrev ia59 := @Tryz.isAgg59
abbrev ia70 := @Tryz.isAgg70
abbrev zv3 := @Tryz.zeroValue3
abbrev zv30 := @Tryz.zeroValue30
abbrev zv31 := @Tryz.zeroValue31
abbrev zv46 := @Tryz.zeroValue46
abbrev zv57 := @Tryz.zeroValue57
abbrev zv59 := @Tryz.zeroValue59
abbrev zv70 := @Tryz.zeroValue70
abbrev zv78 := @Tryz.zeroValue78
abbrev zv91 := @Tryz.zeroValue91
abbrev zv200 := @Tryz.zeroValue200
end Go.Proofs.YtjabmpfcpekpdaaGreat
