/- Closed facts of the program (printed by a program of ours). -/
import Derived.Test.YtmidnfbbnmigeaaGreatT
import Derived.Test.YtmidnfbbnmigeaaGreatChecked
import Derived.Laws.StructEq
import Derived.KernelRfl
namespace Go.Proofs.YtmidnfbbnmigeaaGreat
open Go Go.Fw
set_option linter.unusedVariables false
set_option linter.unusedSimpArgs false
set_option maxRecDepth 8000
set_option maxHeartbeats 1000000
theorem MX : Tryz.prog.follows .mixedOrders = true := by kernel_rfl
theorem MD : Nat.blt 0 (Tryz.prog.types.size + Made.depth) = true := by kernel_rfl
theorem IN2 : Tryz.prog.info? 2 = some Tryz.t2 := by kernel_rfl
theorem IN3 : Tryz.prog.info? 3 = some Tryz.t3 := by kernel_rfl
theorem IN24 : Tryz.prog.info? 24 = some Tryz.t24 := by kernel_rfl
theorem IN39 : Tryz.prog.info? 39 = some Tryz.t39 := by kernel_rfl
theorem BI39 : (Tryz.prog.fieldsOf 39).toList.all (fun f => (Tryz.prog.info? f.type).isSome) = true := by kernel_rfl
theorem IN42 : Tryz.prog.info? 42 = some Tryz.t42 := by kernel_rfl
theorem BI42 : (Tryz.prog.fieldsOf 42).toList.all (fun f => (Tryz.prog.info? f.type).isSome) = true := by kernel_rfl
theorem IN45 : Tryz.prog.info? 45 = some Tryz.t45 := by kernel_rfl
theorem IN50 : Tryz.prog.info? 50 = some Tryz.t50 := by kernel_rfl
theorem BI50 : (Tryz.prog.fieldsOf 50).toList.all (fun f => (Tryz.prog.info? f.type).isSome) = true := by kernel_rfl
theorem IN53 : Tryz.prog.info? 53 = some Tryz.t53 := by kernel_rfl
theorem BI53 : (Tryz.prog.fieldsOf 53).toList.all (fun f => (Tryz.prog.info? f.type).isSome) = true := by kernel_rfl
theorem IN55 : Tryz.prog.info? 55 = some Tryz.t55 := by kernel_rfl
theorem BI55 : (Tryz.prog.fieldsOf 55).toList.all (fun f => (Tryz.prog.info? f.type).isSome) = true := by kernel_rfl
theorem IN58 : Tryz.prog.info? 58 = some Tryz.t58 := by kernel_rfl
theorem BI58 : (Tryz.prog.fieldsOf 58).toList.all (fun f => (Tryz.prog.info? f.type).isSome) = true := by kernel_rfl
theorem IN78 : Tryz.prog.info? 78 = some Tryz.t78 := by kernel_rfl
theorem BI78 : (Tryz.prog.fieldsOf 78).toList.all (fun f => (Tryz.prog.info? f.type).isSome) = true := by kernel_rfl
theorem IN80 : Tryz.prog.info? 80 = some Tryz.t80 := by kernel_rfl
theorem BI80 : (Tryz.prog.fieldsOf 80).toList.all (fun f => (Tryz.prog.info? f.type).isSome) = true := by kernel_rfl
theorem IN81 : Tryz.prog.info? 81 = some Tryz.t81 := by kernel_rfl
theorem IN83 : Tryz.prog.info? 83 = some Tryz.t83 := by kernel_rfl
theorem BI83 : (Tryz.prog.fieldsOf 83).toList.all (fun f => (Tryz.prog.info? f.type).isSome) = true := by kernel_rfl
theorem IN85 : Tryz.prog.info? 85 = some Tryz.t85 := by kernel_rfl
theorem BI85 : (Tryz.prog.fieldsOf 85).toList.all (fun f => (Tryz.prog.info? f.type).isSome) = true := by kernel_rfl
theorem IN116 : Tryz.prog.info? 116 = some Tryz.t116 := by kernel_rfl
theorem BI116 : (Tryz.prog.fieldsOf 116).toList.all (fun f => (Tryz.prog.info? f.type).isSome) = true := by kernel_rfl
theorem IN187 : Tryz.prog.info? 187 = some Tryz.t187 := by kernel_rfl
theorem BI187 : (Tryz.prog.fieldsOf 187).toList.all (fun f => (Tryz.prog.info? f.type).isSome) = true := by kernel_rfl
theorem IN211 : Tryz.prog.info? 211 = some Tryz.t211 := by kernel_rfl
theorem IN213 : Tryz.prog.info? 213 = some Tryz.t213 := by kernel_rfl
theorem BI213 : (Tryz.prog.fieldsOf 213).toList.all (fun f => (Tryz.prog.info? f.type).isSome) = true := by kernel_rfl
theorem IN235 : Tryz.prog.info? 235 = some Tryz.t235 := by kernel_rfl
theorem EQ80 (x y : Item) (w : World) : (Op.equal 80 (.agg (encItem x).toArray) (.agg (encItem y).toArray)).run Tryz.prog w = .ok (x == y) w := by
  refine Eq.trans ((eqS (k := 9999) Tryz.underlying80 (by kernel_rfl) (eqC (by decide) Tryz.isAgg3 rfl rfl (eqI (k := 9998) Tryz.underlying3) (eqC (by decide) Tryz.isAgg2 rfl rfl (eqI (k := 9998) Tryz.underlying2) eqN))) w) (congrArg (fun b => Result.ok b w) (Bool.eq_iff_iff.2 ?_))
  obtain ⟨x_0, x_1⟩ := x; obtain ⟨y_0, y_1⟩ := y
  simp [and_assoc]
theorem EG80 (o : BinOp) (x y : Operand) (u v : Array Value) (w : World) : (eqGuard o 80 x y (.agg u) (.agg v)).run Tryz.prog w = .ok () w := run_eqGuard_agg w o 80 x y u v (by kernel_rfl)
theorem EQ83 (x y : Wide) (w : World) : (Op.equal 83 (.agg (encWide x).toArray) (.agg (encWide y).toArray)).run Tryz.prog w = .ok (x == y) w := by
  refine Eq.trans ((eqS (k := 9999) Tryz.underlying83 (by kernel_rfl) (eqC (by decide) Tryz.isAgg2 rfl rfl (eqI (k := 9998) Tryz.underlying2) (eqC (by decide) Tryz.isAgg81 rfl rfl (eqI (k := 9998) Tryz.underlying81) eqN))) w) (congrArg (fun b => Result.ok b w) (Bool.eq_iff_iff.2 ?_))
  obtain ⟨x_0, x_1⟩ := x; obtain ⟨y_0, y_1⟩ := y
  simp [and_assoc]
theorem EG83 (o : BinOp) (x y : Operand) (u v : Array Value) (w : World) : (eqGuard o 83 x y (.agg u) (.agg v)).run Tryz.prog w = .ok () w := run_eqGuard_agg w o 83 x y u v (by kernel_rfl)
theorem EQ85 (x y : Sum) (w : World) : (Op.equal 85 (.agg (encSum x).toArray) (.agg (encSum y).toArray)).run Tryz.prog w = .ok (x == y) w := by
  refine Eq.trans ((eqS (k := 9999) Tryz.underlying85 (by kernel_rfl) (eqC (by decide) Tryz.isAgg3 rfl rfl (eqI (k := 9998) Tryz.underlying3) (eqA (by decide) Tryz.isAgg83 Tryz.sizeOf83 (eqS (k := 9998) Tryz.underlying83 (by kernel_rfl) (eqC (by decide) Tryz.isAgg2 rfl rfl (eqI (k := 9997) Tryz.underlying2) (eqC (by decide) Tryz.isAgg81 rfl rfl (eqI (k := 9997) Tryz.underlying81) eqN))) eqN))) w) (congrArg (fun b => Result.ok b w) (Bool.eq_iff_iff.2 ?_))
  obtain ⟨x_0, x_1⟩ := x; obtain ⟨x_1_0, x_1_1⟩ := x_1; obtain ⟨y_0, y_1⟩ := y; obtain ⟨y_1_0, y_1_1⟩ := y_1
  simp [and_assoc]
theorem EG85 (o : BinOp) (x y : Operand) (u v : Array Value) (w : World) : (eqGuard o 85 x y (.agg u) (.agg v)).run Tryz.prog w = .ok () w := run_eqGuard_agg w o 85 x y u v (by kernel_rfl)
abbrev o0_ (Q : Int → Prop) : Value → Prop := fun v => ∃ r, v = .int .i64 r ∧ Q r
abbrev o1_ (Q : Bool → Prop) : Value → Prop := fun v => ∃ r, v = .bool r ∧ Q r
abbrev o2_ (Q : Dense → Prop) : IH → Value → List HA → Prop := fun I_ v l => ∃ r p1 c2 p4 c5, v = .agg #[.int .i64 r.N, .slice p1 r.Has.length c2, .slice p4 r.Vals.length c5] ∧ RepSl eU64 I_ p1 c2 r.Has ∧ l = [OwnSl eI64 2 p4 c5 r.Vals] ∧ Q r
abbrev o3_ (Q : Int → Prop) : Value → Prop := fun v => ∃ r, v = .int .u64 r ∧ Q r
abbrev o4_ (Q : Vec → Prop) : IH → Value → Prop := fun I_ v => ∃ r p7 c8, v = .agg #[.int .i64 r.N, .slice p7 r.Items.length c8] ∧ RepSl eItem I_ p7 c8 r.Items ∧ Q r
abbrev o5_ (Q : Columns → Prop) : IH → Value → Prop := fun I_ v => ∃ r p13 c14 p16 c17 p19 c20 p22 c23, v = .agg #[.int .i64 r.Rows, .int .i64 r.Cols, .slice p13 r.At.length c14, .slice p16 r.Start.length c17, .slice p19 r.Row.length c20, .slice p22 r.Val.length c23] ∧ RepSl eI64 I_ p13 c14 r.At ∧ RepSl eI64 I_ p16 c17 r.Start ∧ RepSl eI64 I_ p19 c20 r.Row ∧ RepSl eI64 I_ p22 c23 r.Val ∧ Q r
abbrev o6_ (Q : Vec → Prop) : IH → Value → Prop := fun I_ v => ∃ r p4 c5, v = .agg #[.int .i64 r.N, .slice p4 r.Items.length c5] ∧ RepSl eItem I_ p4 c5 r.Items ∧ Q r
abbrev o7_ (Q : (List Int) → Prop) : IH → Value → Prop := fun I_ v => ∃ r p4 c5, v = .slice p4 r.length c5 ∧ RepSl eI64 I_ p4 c5 r ∧ Q r
abbrev o8_ (Q : Rows → Prop) : Value → List HA → Prop := fun v l => ∃ r p1 c2 p4 c5 p7 c8, v = .agg #[.int .i64 r.Rows, .int .i64 r.Cols, .slice p1 r.Start.length c2, .slice p4 r.Col.length c5, .slice p7 r.Val.length c8] ∧ l = [OwnSl eI64 3 p1 c2 r.Start, OwnSl eI64 3 p4 c5 r.Col, OwnSl eI64 2 p7 c8 r.Val] ∧ Q r
abbrev o9_ (Q : Rows → Prop) : IH → Value → Prop := fun I_ v => ∃ r p10 c11 p13 c14 p16 c17, v = .agg #[.int .i64 r.Rows, .int .i64 r.Cols, .slice p10 r.Start.length c11, .slice p13 r.Col.length c14, .slice p16 r.Val.length c17] ∧ RepSl eI64 I_ p10 c11 r.Start ∧ RepSl eI64 I_ p13 c14 r.Col ∧ RepSl eI64 I_ p16 c17 r.Val ∧ Q r
abbrev o10_ (Q : Rows → Prop) : IH → Value → Prop := fun I_ v => ∃ r p4 c5 p7 c8 p10 c11, v = .agg #[.int .i64 r.Rows, .int .i64 r.Cols, .slice p4 r.Start.length c5, .slice p7 r.Col.length c8, .slice p10 r.Val.length c11] ∧ RepSl eI64 I_ p4 c5 r.Start ∧ RepSl eI64 I_ p7 c8 r.Col ∧ RepSl eI64 I_ p10 c11 r.Val ∧ Q r
abbrev o11_ (Q : (List Item) → Prop) : IH → Value → Prop := fun I_ v => ∃ r p10 c11, v = .slice p10 r.length c11 ∧ RepSl eItem I_ p10 c11 r ∧ Q r
abbrev o12_ (Q : Columns → Prop) : IH → Value → Prop := fun I_ v => ∃ r p10 c11 p13 c14 p16 c17 p19 c20, v = .agg #[.int .i64 r.Rows, .int .i64 r.Cols, .slice p10 r.At.length c11, .slice p13 r.Start.length c14, .slice p16 r.Row.length c17, .slice p19 r.Val.length c20] ∧ RepSl eI64 I_ p10 c11 r.At ∧ RepSl eI64 I_ p13 c14 r.Start ∧ RepSl eI64 I_ p16 c17 r.Row ∧ RepSl eI64 I_ p19 c20 r.Val ∧ Q r
abbrev o13_ (Q : (List Int) → Prop) : IH → Value → Prop := fun I_ v => ∃ r p4 c5, v = .slice p4 r.length c5 ∧ RepSl eU64 I_ p4 c5 r ∧ Q r
abbrev o14_ (Q : Dense → Prop) : IH → Value → Prop := fun I_ v => ∃ r p4 c5 p7 c8, v = .agg #[.int .i64 r.N, .slice p4 r.Has.length c5, .slice p7 r.Vals.length c8] ∧ RepSl eU64 I_ p4 c5 r.Has ∧ RepSl eI64 I_ p7 c8 r.Vals ∧ Q r
abbrev o15_ (Q : Held → Prop) : IH → Value → Prop := fun I_ v => ∃ r p4 c5 p7 c8 p10 c11, v = .agg #[.int .i64 r.Form, .int .i64 r.Vec.N, .slice p4 r.Vec.Items.length c5, .int .i64 r.Dense.N, .slice p7 r.Dense.Has.length c8, .slice p10 r.Dense.Vals.length c11] ∧ RepSl eItem I_ p4 c5 r.Vec.Items ∧ RepSl eU64 I_ p7 c8 r.Dense.Has ∧ RepSl eI64 I_ p10 c11 r.Dense.Vals ∧ Q r
abbrev o16_ (Q : Wide → Prop) : Value → Prop := fun v => ∃ r, v = .agg (encWide r).toArray ∧ Q r
abbrev o17_ (Q : (Int × Bool) → Prop) : Value → Prop := fun v => ∃ r, v = .tuple #[.int .i64 r.1, .bool r.2] ∧ Q r
abbrev o18_ (Q : ((List Sum) × Int) → Prop) : IH → Value → Prop := fun I_ v => ∃ r p19 c20, v = .tuple #[.slice p19 r.1.length c20, .int .i64 r.2] ∧ RepSl eSum I_ p19 c20 r.1 ∧ Q r
abbrev o19_ (Q : (List Item) → Prop) : IH → Value → Prop := fun I_ v => ∃ r p13 c14, v = .slice p13 r.length c14 ∧ RepSl eItem I_ p13 c14 r ∧ Q r
abbrev o20_ (Q : ((List Sum) × Int) → Prop) : IH → Value → Prop := fun I_ v => ∃ r p34 c35, v = .tuple #[.slice p34 r.1.length c35, .int .i64 r.2] ∧ RepSl eSum I_ p34 c35 r.1 ∧ Q r
abbrev un2 := @Tryz.underlying2
abbrev un3 := @Tryz.underlying3
abbrev un24 := @Tryz.underlying24
abbrev un31 := @Tryz.underlying31
abbrev un32 := @Tryz.underlying32
abbrev un33 := @Tryz.underlying33
abbrev un35 := @Tryz.underlying35
abbrev un36 := @Tryz.underlying36
abbrev un37 := @Tryz.underlying37
abbrev un39 := @Tryz.underlying39
abbrev un42 := @Tryz.underlying42
abbrev un45 := @Tryz.underlying45
abbrev un50 := @Tryz.underlying50
abbrev un53 := @Tryz.underlying53
abbrev un55 := @Tryz.underlying55
abbrev un58 := @Tryz.underlying58
abbrev un78 := @Tryz.underlying78
abbrev un80 := @Tryz.underlying80
abbrev un81 := @Tryz.underlying81
abbrev un83 := @Tryz.underlying83
abbrev un85 := @Tryz.underlying85
abbrev un114 := @Tryz.underlying114
abbrev un116 := @Tryz.underlying116
abbrev un148 := @Tryz.underlying148
abbrev un155 := @Tryz.underlying155
abbrev un185 := @Tryz.underlying185
abbrev un187 := @Tryz.underlying187
abbrev un211 := @Tryz.underlying211
abbrev un213 := @Tryz.underlying213
abbrev un235 := @Tryz.underlying235
abbrev sz2 := @Tryz.sizeOf2
abbrev sz3 := @Tryz.sizeOf3
abbrev sz4 := @Tryz.sizeOf4
abbrev sz29 := @Tryz.sizeOf29
abbrev sz32 := @Tryz.sizeOf32
abbrev sz33 := @Tryz.sizeOf33
abbrev sz36 := @Tryz.sizeOf36
abbrev sz37 := @Tryz.sizeOf37
abbrev sz39 := @Tryz.sizeOf39
abbrev sz42 := @Tryz.sizeOf42
abbrev sz45 := @Tryz.sizeOf45
abbrev sz50 := @Tryz.sizeOf50
abbrev sz53 := @Tryz.sizeOf53
abbrev sz55 := @Tryz.sizeOf55
abbrev sz78 := @Tryz.sizeOf78
abbrev sz80 := @Tryz.sizeOf80
abbrev sz81 := @Tryz.sizeOf81
abbrev sz83 := @Tryz.sizeOf83
abbrev sz85 := @Tryz.sizeOf85
abbrev sz116 := @Tryz.sizeOf116
abbrev sz213 := @Tryz.sizeOf213
abbrev ia2 := @Tryz.isAgg2
abbrev ia3 := @Tryz.isAgg3
abbrev ia4 := @Tryz.isAgg4
abbrev ia29 := @Tryz.isAgg29
abbrev ia32 := @Tryz.isAgg32
abbrev ia33 := @Tryz.isAgg33
abbrev ia36 := @Tryz.isAgg36
abbrev ia37 := @Tryz.isAgg37
abbrev ia39 := @Tryz.isAgg39
abbrev ia42 := @Tryz.isAgg42
abbrev ia45 := @Tryz.isAgg45
abbrev ia50 := @Tryz.isAgg50
abbrev ia53 := @Tryz.isAgg53
abbrev ia55 := @Tryz.isAgg55
abbrev ia81 := @Tryz.isAgg81
abbrev ia83 := @Tryz.isAgg83
abbrev ia185 := @Tryz.isAgg185
abbrev zv3 := @Tryz.zeroValue3
abbrev zv39 := @Tryz.zeroValue39
abbrev zv42 := @Tryz.zeroValue42
abbrev zv50 := @Tryz.zeroValue50
abbrev zv53 := @Tryz.zeroValue53
abbrev zv55 := @Tryz.zeroValue55
abbrev zv78 := @Tryz.zeroValue78
abbrev zv80 := @Tryz.zeroValue80
abbrev zv83 := @Tryz.zeroValue83
abbrev zv85 := @Tryz.zeroValue85
abbrev zv116 := @Tryz.zeroValue116
abbrev zv235 := @Tryz.zeroValue235
end Go.Proofs.YtmidnfbbnmigeaaGreat
