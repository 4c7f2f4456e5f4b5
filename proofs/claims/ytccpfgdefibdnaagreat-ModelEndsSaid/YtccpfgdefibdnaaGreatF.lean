/- Closed facts of the program (printed by a program of ours). -/
import Derived.Test.YtccpfgdefibdnaaGreatT
import Derived.Test.YtccpfgdefibdnaaGreatChecked
import Derived.Laws.StructEq
import Derived.KernelRfl
namespace Go.Proofs.YtccpfgdefibdnaaGreat
open Go Go.Fw
set_option linter.unusedVariables false
set_option linter.unusedSimpArgs false
set_option maxRecDepth 8000
set_option maxHeartbeats 1000000
theorem MX:Tryz.prog.follows .mixedOrders=true:=by kernel_rfl
theorem IN2:Tryz.prog.info? 2=some Tryz.t2:=by kernel_rfl
theorem IN3:Tryz.prog.info? 3=some Tryz.t3:=by kernel_rfl
theorem BI25:(Tryz.prog.fieldsOf 25).toList.all (fun f=>(Tryz.prog.info? f.type).isSome)=true:=by kernel_rfl
theorem BI28:(Tryz.prog.fieldsOf 28).toList.all (fun f=>(Tryz.prog.info? f.type).isSome)=true:=by kernel_rfl
theorem IN36:Tryz.prog.info? 36=some Tryz.t36:=by kernel_rfl
theorem BI36:(Tryz.prog.fieldsOf 36).toList.all (fun f=>(Tryz.prog.info? f.type).isSome)=true:=by kernel_rfl
theorem BI38:(Tryz.prog.fieldsOf 38).toList.all (fun f=>(Tryz.prog.info? f.type).isSome)=true:=by kernel_rfl
theorem BI53:(Tryz.prog.fieldsOf 53).toList.all (fun f=>(Tryz.prog.info? f.type).isSome)=true:=by kernel_rfl
theorem IN70:Tryz.prog.info? 70=some Tryz.t70:=by kernel_rfl
theorem BI70:(Tryz.prog.fieldsOf 70).toList.all (fun f=>(Tryz.prog.info? f.type).isSome)=true:=by kernel_rfl
theorem BI82:(Tryz.prog.fieldsOf 82).toList.all (fun f=>(Tryz.prog.info? f.type).isSome)=true:=by kernel_rfl
theorem BI88:(Tryz.prog.fieldsOf 88).toList.all (fun f=>(Tryz.prog.info? f.type).isSome)=true:=by kernel_rfl
theorem IN96:Tryz.prog.info? 96=some Tryz.t96:=by kernel_rfl
theorem IN100:Tryz.prog.info? 100=some Tryz.t100:=by kernel_rfl
theorem BI100:(Tryz.prog.fieldsOf 100).toList.all (fun f=>(Tryz.prog.info? f.type).isSome)=true:=by kernel_rfl
theorem IN119:Tryz.prog.info? 119=some Tryz.t119:=by kernel_rfl
theorem BI119:(Tryz.prog.fieldsOf 119).toList.all (fun f=>(Tryz.prog.info? f.type).isSome)=true:=by kernel_rfl
theorem BI155:(Tryz.prog.fieldsOf 155).toList.all (fun f=>(Tryz.prog.info? f.type).isSome)=true:=by kernel_rfl
theorem IN159:Tryz.prog.info? 159=some Tryz.t159:=by kernel_rfl
theorem BI159:(Tryz.prog.fieldsOf 159).toList.all (fun f=>(Tryz.prog.info? f.type).isSome)=true:=by kernel_rfl
theorem IX3:Tryz.prog.info? 3=some Tryz.t3:=by kernel_rfl
theorem KA161:KeyOk Tryz.prog 161 kArr2:=keyArr2 Tryz.underlying161 IX3 Tryz.underlying3 (by kernel_rfl) Tryz.isAgg3 Tryz.sizeOf3
theorem EQ155 (x y:Wide) (w:World):(Op.equal 155 (.agg (encWide x).toArray) (.agg (encWide y).toArray)).run Tryz.prog w=.ok (x==y) w:=by
  refine Eq.trans ((eqS (k:=9999) Tryz.underlying155 (by kernel_rfl) (eqC (by decide) Tryz.isAgg2 rfl rfl (eqI (k:=9998) Tryz.underlying2) (eqC (by decide) Tryz.isAgg96 rfl rfl (eqI (k:=9998) Tryz.underlying96) eqN))) w) (congrArg (fun b=>Result.ok b w) (Bool.eq_iff_iff.2 ?_))
  obtain ⟨x_0,x_1⟩:=x; obtain ⟨y_0,y_1⟩:=y
  simp [and_assoc]
theorem EG155 (o:BinOp) (x y:Operand) (u v:Array Value) (w:World):(eqGuard o 155 x y (.agg u) (.agg v)).run Tryz.prog w=.ok () w:=run_eqGuard_agg w o 155 x y u v (by kernel_rfl)
abbrev o0_ (Q:Int→Prop):Value→Prop:=fun v=>∃ r,v=.int .i64 r∧Q r
abbrev o1_ (Q:Graph→Prop):IH→Value→Prop:=fun I_ v=>∃ r p4 c5,v=.agg #[.int .i64 r.N,.slice p4 r.Edges.length c5]∧RepSl eEdge I_ p4 c5 r.Edges∧Q r
abbrev o2_ (Q:Bool→Prop):Value→Prop:=fun v=>∃ r,v=.bool r∧Q r
abbrev o3_ (Q:Wide→Prop):Value→Prop:=fun v=>∃ r,v=.agg (encWide r).toArray∧Q r
abbrev o4_ (Q:(Int×Bool)→Prop):Value→Prop:=fun v=>∃ r,v=.tuple #[.int .i64 r.1,.bool r.2]∧Q r
abbrev o5_ (Q:Int→Prop):Value→Prop:=fun v=>∃ r,v=.int .u64 r∧Q r
abbrev o7_ (Q:Rows→Prop):Value→List HA→Prop:=fun v l=>∃ r p1 c2 p4 c5 p7 c8,v=.agg #[.int .i64 r.Rows,.int .i64 r.Cols,.slice p1 r.Start.length c2,.slice p4 r.Col.length c5,.slice p7 r.Val.length c8]∧l=[OwnSl eI64 3 p1 c2 r.Start,OwnSl eI64 3 p4 c5 r.Col,OwnSl eI64 2 p7 c8 r.Val]∧Q r
abbrev o8_ (Q:Rows→Prop):IH→Value→Prop:=fun I_ v=>∃ r p4 c5 p7 c8 p10 c11,v=.agg #[.int .i64 r.Rows,.int .i64 r.Cols,.slice p4 r.Start.length c5,.slice p7 r.Col.length c8,.slice p10 r.Val.length c11]∧RepSl eI64 I_ p4 c5 r.Start∧RepSl eI64 I_ p7 c8 r.Col∧RepSl eI64 I_ p10 c11 r.Val∧Q r
abbrev o9_ (Q:(Rows×Int)→Prop):IH→Value→Prop:=fun I_ v=>∃ r p4 c5 p7 c8 p10 c11,v=.tuple #[.agg #[.int .i64 r.1.Rows,.int .i64 r.1.Cols,.slice p4 r.1.Start.length c5,.slice p7 r.1.Col.length c8,.slice p10 r.1.Val.length c11],.int .i64 r.2]∧RepSl eI64 I_ p4 c5 r.1.Start∧RepSl eI64 I_ p7 c8 r.1.Col∧RepSl eI64 I_ p10 c11 r.1.Val∧Q r
abbrev o10_ (Q:(Rows×Int)→Prop):IH→Value→Prop:=fun I_ v=>∃ r p7 c8 p10 c11 p13 c14,v=.tuple #[.agg #[.int .i64 r.1.Rows,.int .i64 r.1.Cols,.slice p7 r.1.Start.length c8,.slice p10 r.1.Col.length c11,.slice p13 r.1.Val.length c14],.int .i64 r.2]∧RepSl eI64 I_ p7 c8 r.1.Start∧RepSl eI64 I_ p10 c11 r.1.Col∧RepSl eI64 I_ p13 c14 r.1.Val∧Q r
abbrev o12_ (Q:(List Int)→Prop):IH→Value→Prop:=fun I_ v=>∃ r p4 c5,v=.slice p4 r.length c5∧RepSl eU64 I_ p4 c5 r∧Q r
abbrev o13_ (Q:State→Prop):IH→Value→Prop:=fun I_ v=>∃ r p4 c5 p7 c8 p10 c11,v=.agg #[.int .i64 r.Low,.int .i64 r.High,.slice p4 r.A.length c5,.slice p7 r.B.length c8,.slice p10 r.On.length c11]∧RepSl eI64 I_ p4 c5 r.A∧RepSl eI64 I_ p7 c8 r.B∧RepSl eU64 I_ p10 c11 r.On∧Q r
abbrev o14_ (Q:(List Int)→Prop):IH→Value→Prop:=fun I_ v=>∃ r p4 c5,v=.slice p4 r.length c5∧RepSl eI64 I_ p4 c5 r∧Q r
abbrev o15_ (Q:State→Prop):IH→Value→Prop:=fun I_ v=>∃ r p13 c14 p16 c17 p19 c20,v=.agg #[.int .i64 r.Low,.int .i64 r.High,.slice p13 r.A.length c14,.slice p16 r.B.length c17,.slice p19 r.On.length c20]∧RepSl eI64 I_ p13 c14 r.A∧RepSl eI64 I_ p16 c17 r.B∧RepSl eU64 I_ p19 c20 r.On∧Q r
abbrev o16_ (Q:Rows→Prop):IH→Value→Prop:=fun I_ v=>∃ r p10 c11 p13 c14 p16 c17,v=.agg #[.int .i64 r.Rows,.int .i64 r.Cols,.slice p10 r.Start.length c11,.slice p13 r.Col.length c14,.slice p16 r.Val.length c17]∧RepSl eI64 I_ p10 c11 r.Start∧RepSl eI64 I_ p13 c14 r.Col∧RepSl eI64 I_ p16 c17 r.Val∧Q r
abbrev o17_ (Q:((List Int)×Bool)→Prop):IH→Value→Prop:=fun I_ v=>∃ r p13 c14,v=.tuple #[.slice p13 r.1.length c14,.bool r.2]∧RepSl eU64 I_ p13 c14 r.1∧Q r
abbrev o18_ (Q:Vec→Prop):IH→Value→Prop:=fun I_ v=>∃ r p4 c5,v=.agg #[.int .i64 r.N,.slice p4 r.Items.length c5]∧RepSl eItem I_ p4 c5 r.Items∧Q r
abbrev o19_ (Q:((List Sum)×Int)→Prop):IH→Value→Prop:=fun I_ v=>∃ r p19 c20,v=.tuple #[.slice p19 r.1.length c20,.int .i64 r.2]∧RepSl eSum I_ p19 c20 r.1∧Q r
abbrev o20_ (Q:(Vec×Int)→Prop):IH→Value→Prop:=fun I_ v=>∃ r p4 c5,v=.tuple #[.agg #[.int .i64 r.1.N,.slice p4 r.1.Items.length c5],.int .i64 r.2]∧RepSl eItem I_ p4 c5 r.1.Items∧Q r
abbrev o21_ (Q:(Vec×Int)→Prop):IH→Value→Prop:=fun I_ v=>∃ r p19 c20,v=.tuple #[.agg #[.int .i64 r.1.N,.slice p19 r.1.Items.length c20],.int .i64 r.2]∧RepSl eItem I_ p19 c20 r.1.Items∧Q r
abbrev o22_ (Q:Dense→Prop):IH→Value→List HA→Prop:=fun I_ v l=>∃ r p1 c2 p4 c5,v=.agg #[.int .i64 r.N,.slice p1 r.Has.length c2,.slice p4 r.Vals.length c5]∧RepSl eU64 I_ p1 c2 r.Has∧l=[OwnSl eI64 2 p4 c5 r.Vals]∧Q r
abbrev o23_ (Q:Dense→Prop):IH→Value→Prop:=fun I_ v=>∃ r p4 c5 p7 c8,v=.agg #[.int .i64 r.N,.slice p4 r.Has.length c5,.slice p7 r.Vals.length c8]∧RepSl eU64 I_ p4 c5 r.Has∧RepSl eI64 I_ p7 c8 r.Vals∧Q r
abbrev o24_ (Q:Vec→Prop):IH→Value→Prop:=fun I_ v=>∃ r p13 c14,v=.agg #[.int .i64 r.N,.slice p13 r.Items.length c14]∧RepSl eItem I_ p13 c14 r.Items∧Q r
abbrev o25_ (Q:State→Prop):IH→Value→Prop:=fun I_ v=>∃ r p16 c17 p19 c20 p22 c23,v=.agg #[.int .i64 r.Low,.int .i64 r.High,.slice p16 r.A.length c17,.slice p19 r.B.length c20,.slice p22 r.On.length c23]∧RepSl eI64 I_ p16 c17 r.A∧RepSl eI64 I_ p19 c20 r.B∧RepSl eU64 I_ p22 c23 r.On∧Q r
abbrev o26_ (Q:(State×Int)→Prop):IH→Value→Prop:=fun I_ v=>∃ r p22 c23 p25 c26 p28 c29,v=.tuple #[.agg #[.int .i64 r.1.Low,.int .i64 r.1.High,.slice p22 r.1.A.length c23,.slice p25 r.1.B.length c26,.slice p28 r.1.On.length c29],.int .i64 r.2]∧RepSl eI64 I_ p22 c23 r.1.A∧RepSl eI64 I_ p25 c26 r.1.B∧RepSl eU64 I_ p28 c29 r.1.On∧Q r
abbrev o27_ (Q:((List State)×Int)→Prop):IH→Value→Prop:=fun I_ v=>∃ r p7 c8,v=.tuple #[.slice p7 r.1.length c8,.int .i64 r.2]∧RepSl eState I_ p7 c8 r.1∧Q r
abbrev o28_ (Q:(Result×Int)→Prop):IH→Value→Prop:=fun I_ v=>∃ r p7 c8 p10 c11 p13 c14,v=.tuple #[.agg #[.int .i64 r.1.Status,.int .i64 r.1.Rounds,.int .i64 r.1.State.Low,.int .i64 r.1.State.High,.slice p7 r.1.State.A.length c8,.slice p10 r.1.State.B.length c11,.slice p13 r.1.State.On.length c14],.int .i64 r.2]∧RepSl eI64 I_ p7 c8 r.1.State.A∧RepSl eI64 I_ p10 c11 r.1.State.B∧RepSl eU64 I_ p13 c14 r.1.State.On∧Q r
abbrev un2:=@Tryz.underlying2
abbrev un3:=@Tryz.underlying3
abbrev un23:=@Tryz.underlying23
abbrev un25:=@Tryz.underlying25
abbrev un26:=@Tryz.underlying26
abbrev un28:=@Tryz.underlying28
abbrev un30:=@Tryz.underlying30
abbrev un34:=@Tryz.underlying34
abbrev un36:=@Tryz.underlying36
abbrev un38:=@Tryz.underlying38
abbrev un42:=@Tryz.underlying42
abbrev un51:=@Tryz.underlying51
abbrev un53:=@Tryz.underlying53
abbrev un70:=@Tryz.underlying70
abbrev un80:=@Tryz.underlying80
abbrev un82:=@Tryz.underlying82
abbrev un88:=@Tryz.underlying88
abbrev un96:=@Tryz.underlying96
abbrev un98:=@Tryz.underlying98
abbrev un100:=@Tryz.underlying100
abbrev un110:=@Tryz.underlying110
abbrev un119:=@Tryz.underlying119
abbrev un155:=@Tryz.underlying155
abbrev un159:=@Tryz.underlying159
abbrev un161:=@Tryz.underlying161
abbrev un226:=@Tryz.underlying226
abbrev sz2:=@Tryz.sizeOf2
abbrev sz3:=@Tryz.sizeOf3
abbrev sz22:=@Tryz.sizeOf22
abbrev sz23:=@Tryz.sizeOf23
abbrev sz25:=@Tryz.sizeOf25
abbrev sz26:=@Tryz.sizeOf26
abbrev sz28:=@Tryz.sizeOf28
abbrev sz33:=@Tryz.sizeOf33
abbrev sz34:=@Tryz.sizeOf34
abbrev sz36:=@Tryz.sizeOf36
abbrev sz38:=@Tryz.sizeOf38
abbrev sz51:=@Tryz.sizeOf51
abbrev sz53:=@Tryz.sizeOf53
abbrev sz70:=@Tryz.sizeOf70
abbrev sz80:=@Tryz.sizeOf80
abbrev sz82:=@Tryz.sizeOf82
abbrev sz88:=@Tryz.sizeOf88
abbrev sz96:=@Tryz.sizeOf96
abbrev sz119:=@Tryz.sizeOf119
abbrev sz155:=@Tryz.sizeOf155
abbrev sz159:=@Tryz.sizeOf159
abbrev ia2:=@Tryz.isAgg2
abbrev ia3:=@Tryz.isAgg3
abbrev ia22:=@Tryz.isAgg22
abbrev ia23:=@Tryz.isAgg23
abbrev ia25:=@Tryz.isAgg25
abbrev ia26:=@Tryz.isAgg26
abbrev ia28:=@Tryz.isAgg28
abbrev ia34:=@Tryz.isAgg34
abbrev ia36:=@Tryz.isAgg36
abbrev ia51:=@Tryz.isAgg51
abbrev ia53:=@Tryz.isAgg53
abbrev ia70:=@Tryz.isAgg70
abbrev ia80:=@Tryz.isAgg80
abbrev ia82:=@Tryz.isAgg82
abbrev ia88:=@Tryz.isAgg88
abbrev ia96:=@Tryz.isAgg96
abbrev ia155:=@Tryz.isAgg155
abbrev zv2:=@Tryz.zeroValue2
abbrev zv3:=@Tryz.zeroValue3
abbrev zv25:=@Tryz.zeroValue25
abbrev zv28:=@Tryz.zeroValue28
abbrev zv36:=@Tryz.zeroValue36
abbrev zv38:=@Tryz.zeroValue38
abbrev zv53:=@Tryz.zeroValue53
abbrev zv70:=@Tryz.zeroValue70
abbrev zv82:=@Tryz.zeroValue82
abbrev zv88:=@Tryz.zeroValue88
abbrev zv100:=@Tryz.zeroValue100
abbrev zv119:=@Tryz.zeroValue119
abbrev zv155:=@Tryz.zeroValue155
abbrev zv226:=@Tryz.zeroValue226
end Go.Proofs.YtccpfgdefibdnaaGreat
