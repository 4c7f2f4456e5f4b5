/- Closed facts of the program (printed by a program of ours). -/
import Derived.Test.YtaefnmlbnkmahaaGreatT
import Derived.Test.YtaefnmlbnkmahaaGreatChecked
import Derived.Laws.StructEq
import Derived.KernelRfl
namespace Go.Proofs.YtaefnmlbnkmahaaGreat
open Go Go.Fw
set_option linter.unusedVariables false
set_option linter.unusedSimpArgs false
set_option maxRecDepth 8000
set_option maxHeartbeats 1000000
theorem MX:Tryz.prog.follows .mixedOrders=true:=by kernel_rfl
theorem IN2:Tryz.prog.info? 2=some Tryz.t2:=by kernel_rfl
theorem IN3:Tryz.prog.info? 3=some Tryz.t3:=by kernel_rfl
theorem BI24:(Tryz.prog.fieldsOf 24).toList.all (fun f=>(Tryz.prog.info? f.type).isSome)=true:=by kernel_rfl
theorem IN27:Tryz.prog.info? 27=some Tryz.t27:=by kernel_rfl
theorem BI27:(Tryz.prog.fieldsOf 27).toList.all (fun f=>(Tryz.prog.info? f.type).isSome)=true:=by kernel_rfl
theorem BI32:(Tryz.prog.fieldsOf 32).toList.all (fun f=>(Tryz.prog.info? f.type).isSome)=true:=by kernel_rfl
theorem BI42:(Tryz.prog.fieldsOf 42).toList.all (fun f=>(Tryz.prog.info? f.type).isSome)=true:=by kernel_rfl
theorem BI44:(Tryz.prog.fieldsOf 44).toList.all (fun f=>(Tryz.prog.info? f.type).isSome)=true:=by kernel_rfl
theorem BI49:(Tryz.prog.fieldsOf 49).toList.all (fun f=>(Tryz.prog.info? f.type).isSome)=true:=by kernel_rfl
theorem IN51:Tryz.prog.info? 51=some Tryz.t51:=by kernel_rfl
theorem BI51:(Tryz.prog.fieldsOf 51).toList.all (fun f=>(Tryz.prog.info? f.type).isSome)=true:=by kernel_rfl
theorem BI54:(Tryz.prog.fieldsOf 54).toList.all (fun f=>(Tryz.prog.info? f.type).isSome)=true:=by kernel_rfl
theorem IN78:Tryz.prog.info? 78=some Tryz.t78:=by kernel_rfl
theorem IN101:Tryz.prog.info? 101=some Tryz.t101:=by kernel_rfl
theorem BI101:(Tryz.prog.fieldsOf 101).toList.all (fun f=>(Tryz.prog.info? f.type).isSome)=true:=by kernel_rfl
theorem IN125:Tryz.prog.info? 125=some Tryz.t125:=by kernel_rfl
theorem IN127:Tryz.prog.info? 127=some Tryz.t127:=by kernel_rfl
theorem BI127:(Tryz.prog.fieldsOf 127).toList.all (fun f=>(Tryz.prog.info? f.type).isSome)=true:=by kernel_rfl
theorem IX3:Tryz.prog.info? 3=some Tryz.t3:=by kernel_rfl
theorem KA169:KeyOk Tryz.prog 169 kArr2:=keyArr2 Tryz.underlying169 IX3 Tryz.underlying3 (by kernel_rfl) Tryz.isAgg3 Tryz.sizeOf3
theorem EQ127 (x y:Wide) (w:World):(Op.equal 127 (.agg (encWide x).toArray) (.agg (encWide y).toArray)).run Tryz.prog w=.ok (x==y) w:=by
  refine Eq.trans ((eqS (k:=9999) Tryz.underlying127 (by kernel_rfl) (eqC (by decide) Tryz.isAgg2 rfl rfl (eqI (k:=9998) Tryz.underlying2) (eqC (by decide) Tryz.isAgg125 rfl rfl (eqI (k:=9998) Tryz.underlying125) eqN))) w) (congrArg (fun b=>Result.ok b w) (Bool.eq_iff_iff.2 ?_))
  obtain ⟨x_0,x_1⟩:=x; obtain ⟨y_0,y_1⟩:=y
  simp [and_assoc]
theorem EG127 (o:BinOp) (x y:Operand) (u v:Array Value) (w:World):(eqGuard o 127 x y (.agg u) (.agg v)).run Tryz.prog w=.ok () w:=run_eqGuard_agg w o 127 x y u v (by kernel_rfl)
abbrev o0_ (Q:Int→Prop):Value→Prop:=fun v=>∃ r,v=.int .i64 r∧Q r
abbrev o2_ (Q:Wide→Prop):Value→Prop:=fun v=>∃ r,v=.agg (encWide r).toArray∧Q r
abbrev o3_ (Q:(Int×Bool)→Prop):Value→Prop:=fun v=>∃ r,v=.tuple #[.int .i64 r.1,.bool r.2]∧Q r
abbrev o4_ (Q:Bool→Prop):Value→Prop:=fun v=>∃ r,v=.bool r∧Q r
abbrev o5_ (Q:Rows→Prop):Value→List HA→Prop:=fun v l=>∃ r p1 c2 p4 c5 p7 c8,v=.agg #[.int .i64 r.Rows,.int .i64 r.Cols,.slice p1 r.Start.length c2,.slice p4 r.Col.length c5,.slice p7 r.Val.length c8]∧l=[OwnSl eI64 3 p1 c2 r.Start,OwnSl eI64 3 p4 c5 r.Col,OwnSl eI64 2 p7 c8 r.Val]∧Q r
abbrev o6_ (Q:Rows→Prop):IH→Value→Prop:=fun I_ v=>∃ r p4 c5 p7 c8 p10 c11,v=.agg #[.int .i64 r.Rows,.int .i64 r.Cols,.slice p4 r.Start.length c5,.slice p7 r.Col.length c8,.slice p10 r.Val.length c11]∧RepSl eI64 I_ p4 c5 r.Start∧RepSl eI64 I_ p7 c8 r.Col∧RepSl eI64 I_ p10 c11 r.Val∧Q r
abbrev o7_ (Q:(Rows×Int)→Prop):IH→Value→Prop:=fun I_ v=>∃ r p4 c5 p7 c8 p10 c11,v=.tuple #[.agg #[.int .i64 r.1.Rows,.int .i64 r.1.Cols,.slice p4 r.1.Start.length c5,.slice p7 r.1.Col.length c8,.slice p10 r.1.Val.length c11],.int .i64 r.2]∧RepSl eI64 I_ p4 c5 r.1.Start∧RepSl eI64 I_ p7 c8 r.1.Col∧RepSl eI64 I_ p10 c11 r.1.Val∧Q r
abbrev o8_ (Q:Rows→Prop):IH→Value→Prop:=fun I_ v=>∃ r p10 c11 p13 c14 p16 c17,v=.agg #[.int .i64 r.Rows,.int .i64 r.Cols,.slice p10 r.Start.length c11,.slice p13 r.Col.length c14,.slice p16 r.Val.length c17]∧RepSl eI64 I_ p10 c11 r.Start∧RepSl eI64 I_ p13 c14 r.Col∧RepSl eI64 I_ p16 c17 r.Val∧Q r
abbrev o9_ (Q:(Int×Int)→Prop):Value→Prop:=fun v=>∃ r,v=.tuple #[.int .i64 r.1,.int .i64 r.2]∧Q r
abbrev o10_ (Q:((List Int)×(List Int))→Prop):IH→Value→Prop:=fun I_ v=>∃ r p10 c11 p13 c14,v=.tuple #[.slice p10 r.1.length c11,.slice p13 r.2.length c14]∧RepSl eI64 I_ p10 c11 r.1∧RepSl eI64 I_ p13 c14 r.2∧Q r
abbrev o11_ (Q:Int→Prop):Value→Prop:=fun v=>∃ r,v=.int .u64 r∧Q r
abbrev o12_ (Q:Graph→Prop):IH→Value→Prop:=fun I_ v=>∃ r p4 c5,v=.agg #[.int .i64 r.N,.slice p4 r.Edges.length c5]∧RepSl eEdge I_ p4 c5 r.Edges∧Q r
abbrev o14_ (Q:(Rows×Int)→Prop):IH→Value→Prop:=fun I_ v=>∃ r p7 c8 p10 c11 p13 c14,v=.tuple #[.agg #[.int .i64 r.1.Rows,.int .i64 r.1.Cols,.slice p7 r.1.Start.length c8,.slice p10 r.1.Col.length c11,.slice p13 r.1.Val.length c14],.int .i64 r.2]∧RepSl eI64 I_ p7 c8 r.1.Start∧RepSl eI64 I_ p10 c11 r.1.Col∧RepSl eI64 I_ p13 c14 r.1.Val∧Q r
abbrev o19_ (Q:Vec→Prop):IH→Value→Prop:=fun I_ v=>∃ r p4 c5,v=.agg #[.int .i64 r.N,.slice p4 r.Items.length c5]∧RepSl eItem I_ p4 c5 r.Items∧Q r
abbrev o20_ (Q:(List Int)→Prop):IH→Value→Prop:=fun I_ v=>∃ r p4 c5,v=.slice p4 r.length c5∧RepSl eU64 I_ p4 c5 r∧Q r
abbrev o22_ (Q:Graph→Prop):IH→Value→Prop:=fun I_ v=>∃ r p7 c8,v=.agg #[.int .i64 r.N,.slice p7 r.Edges.length c8]∧RepSl eEdge I_ p7 c8 r.Edges∧Q r
abbrev o23_ (Q:((List Edge)×Int)→Prop):IH→Value→Prop:=fun I_ v=>∃ r p7 c8,v=.tuple #[.slice p7 r.1.length c8,.int .i64 r.2]∧RepSl eEdge I_ p7 c8 r.1∧Q r
abbrev o24_ (Q:State→Prop):IH→Value→Prop:=fun I_ v=>∃ r p13 c14 p16 c17 p19 c20,v=.agg #[.int .i64 r.Low,.int .i64 r.High,.slice p13 r.A.length c14,.slice p16 r.B.length c17,.slice p19 r.On.length c20]∧RepSl eI64 I_ p13 c14 r.A∧RepSl eI64 I_ p16 c17 r.B∧RepSl eU64 I_ p19 c20 r.On∧Q r
abbrev o25_ (Q:Vec→Prop):IH→Value→Prop:=fun I_ v=>∃ r p13 c14,v=.agg #[.int .i64 r.N,.slice p13 r.Items.length c14]∧RepSl eItem I_ p13 c14 r.Items∧Q r
abbrev o26_ (Q:((List (List Wide))×Int)→Prop):IH→Value→Prop:=fun I_ v=>∃ r p16 c17,v=.tuple #[.slice p16 r.1.length c17,.int .i64 r.2]∧RepSl (slEl eWide) I_ p16 c17 r.1∧Q r
abbrev o27_ (Q:(Int×Bool×Int)→Prop):Value→Prop:=fun v=>∃ r,v=.tuple #[.int .i64 r.1,.bool r.2.1,.int .i64 r.2.2]∧Q r
abbrev o28_ (Q:((List Int)×Bool)→Prop):IH→Value→Prop:=fun I_ v=>∃ r p13 c14,v=.tuple #[.slice p13 r.1.length c14,.bool r.2]∧RepSl eU64 I_ p13 c14 r.1∧Q r
abbrev o29_ (Q:(List Int)→Prop):IH→Value→Prop:=fun I_ v=>∃ r p4 c5,v=.slice p4 r.length c5∧RepSl eI64 I_ p4 c5 r∧Q r
abbrev o30_ (Q:State→Prop):IH→Value→Prop:=fun I_ v=>∃ r p4 c5 p7 c8 p10 c11,v=.agg #[.int .i64 r.Low,.int .i64 r.High,.slice p4 r.A.length c5,.slice p7 r.B.length c8,.slice p10 r.On.length c11]∧RepSl eI64 I_ p4 c5 r.A∧RepSl eI64 I_ p7 c8 r.B∧RepSl eU64 I_ p10 c11 r.On∧Q r
abbrev o31_ (Q:State→Prop):IH→Value→Prop:=fun I_ v=>∃ r p16 c17 p19 c20 p22 c23,v=.agg #[.int .i64 r.Low,.int .i64 r.High,.slice p16 r.A.length c17,.slice p19 r.B.length c20,.slice p22 r.On.length c23]∧RepSl eI64 I_ p16 c17 r.A∧RepSl eI64 I_ p19 c20 r.B∧RepSl eU64 I_ p22 c23 r.On∧Q r
abbrev o34_ (Q:(Result×Int)→Prop):IH→Value→Prop:=fun I_ v=>∃ r p7 c8 p10 c11 p13 c14,v=.tuple #[.agg #[.int .i64 r.1.Status,.int .i64 r.1.Rounds,.int .i64 r.1.State.Low,.int .i64 r.1.State.High,.slice p7 r.1.State.A.length c8,.slice p10 r.1.State.B.length c11,.slice p13 r.1.State.On.length c14],.int .i64 r.2]∧RepSl eI64 I_ p7 c8 r.1.State.A∧RepSl eI64 I_ p10 c11 r.1.State.B∧RepSl eU64 I_ p13 c14 r.1.State.On∧Q r
abbrev un2:=@Tryz.underlying2
abbrev un3:=@Tryz.underlying3
abbrev un22:=@Tryz.underlying22
abbrev un24:=@Tryz.underlying24
abbrev un27:=@Tryz.underlying27
abbrev un29:=@Tryz.underlying29
abbrev un30:=@Tryz.underlying30
abbrev un32:=@Tryz.underlying32
abbrev un40:=@Tryz.underlying40
abbrev un42:=@Tryz.underlying42
abbrev un44:=@Tryz.underlying44
abbrev un49:=@Tryz.underlying49
abbrev un51:=@Tryz.underlying51
abbrev un52:=@Tryz.underlying52
abbrev un54:=@Tryz.underlying54
abbrev un74:=@Tryz.underlying74
abbrev un78:=@Tryz.underlying78
abbrev un99:=@Tryz.underlying99
abbrev un101:=@Tryz.underlying101
abbrev un125:=@Tryz.underlying125
abbrev un127:=@Tryz.underlying127
abbrev un169:=@Tryz.underlying169
abbrev un247:=@Tryz.underlying247
abbrev un268:=@Tryz.underlying268
abbrev sz2:=@Tryz.sizeOf2
abbrev sz3:=@Tryz.sizeOf3
abbrev sz22:=@Tryz.sizeOf22
abbrev sz24:=@Tryz.sizeOf24
abbrev sz27:=@Tryz.sizeOf27
abbrev sz29:=@Tryz.sizeOf29
abbrev sz30:=@Tryz.sizeOf30
abbrev sz32:=@Tryz.sizeOf32
abbrev sz39:=@Tryz.sizeOf39
abbrev sz40:=@Tryz.sizeOf40
abbrev sz42:=@Tryz.sizeOf42
abbrev sz44:=@Tryz.sizeOf44
abbrev sz47:=@Tryz.sizeOf47
abbrev sz49:=@Tryz.sizeOf49
abbrev sz51:=@Tryz.sizeOf51
abbrev sz52:=@Tryz.sizeOf52
abbrev sz54:=@Tryz.sizeOf54
abbrev sz78:=@Tryz.sizeOf78
abbrev sz101:=@Tryz.sizeOf101
abbrev sz125:=@Tryz.sizeOf125
abbrev sz127:=@Tryz.sizeOf127
abbrev sz169:=@Tryz.sizeOf169
abbrev ia2:=@Tryz.isAgg2
abbrev ia3:=@Tryz.isAgg3
abbrev ia22:=@Tryz.isAgg22
abbrev ia24:=@Tryz.isAgg24
abbrev ia27:=@Tryz.isAgg27
abbrev ia29:=@Tryz.isAgg29
abbrev ia30:=@Tryz.isAgg30
abbrev ia32:=@Tryz.isAgg32
abbrev ia40:=@Tryz.isAgg40
abbrev ia42:=@Tryz.isAgg42
abbrev ia44:=@Tryz.isAgg44
abbrev ia47:=@Tryz.isAgg47
abbrev ia49:=@Tryz.isAgg49
abbrev ia52:=@Tryz.isAgg52
abbrev ia54:=@Tryz.isAgg54
abbrev ia125:=@Tryz.isAgg125
abbrev ia127:=@Tryz.isAgg127
abbrev zv2:=@Tryz.zeroValue2
abbrev zv3:=@Tryz.zeroValue3
abbrev zv24:=@Tryz.zeroValue24
abbrev zv27:=@Tryz.zeroValue27
abbrev zv32:=@Tryz.zeroValue32
abbrev zv42:=@Tryz.zeroValue42
abbrev zv44:=@Tryz.zeroValue44
abbrev zv49:=@Tryz.zeroValue49
abbrev zv51:=@Tryz.zeroValue51
abbrev zv54:=@Tryz.zeroValue54
abbrev zv101:=@Tryz.zeroValue101
abbrev zv127:=@Tryz.zeroValue127
abbrev zv169:=@Tryz.zeroValue169
abbrev zv268:=@Tryz.zeroValue268
end Go.Proofs.YtaefnmlbnkmahaaGreat
