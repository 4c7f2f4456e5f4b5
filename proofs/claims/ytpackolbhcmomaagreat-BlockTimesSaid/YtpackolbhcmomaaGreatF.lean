/- Closed facts of the program (printed by a program of ours). -/
import Derived.Test.YtpackolbhcmomaaGreatT
import Derived.Test.YtpackolbhcmomaaGreatChecked
import Derived.Laws.StructEq
import Derived.KernelRfl
namespace Go.Proofs.YtpackolbhcmomaaGreat
open Go Go.Fw
set_option linter.unusedVariables false
set_option linter.unusedSimpArgs false
set_option maxRecDepth 8000
set_option maxHeartbeats 1000000
theorem MX:Tryz.prog.follows .mixedOrders=true:=by kernel_rfl
theorem MD:Nat.blt 0 (Tryz.prog.types.size+Made.depth)=true:=by kernel_rfl
theorem IN2:Tryz.prog.info? 2=some Tryz.t2:=by kernel_rfl
theorem IN3:Tryz.prog.info? 3=some Tryz.t3:=by kernel_rfl
theorem BI34:(Tryz.prog.fieldsOf 34).toList.all (fun f=>(Tryz.prog.info? f.type).isSome)=true:=by kernel_rfl
theorem BI37:(Tryz.prog.fieldsOf 37).toList.all (fun f=>(Tryz.prog.info? f.type).isSome)=true:=by kernel_rfl
theorem IN58:Tryz.prog.info? 58=some Tryz.t58:=by kernel_rfl
theorem BI64:(Tryz.prog.fieldsOf 64).toList.all (fun f=>(Tryz.prog.info? f.type).isSome)=true:=by kernel_rfl
theorem IN72:Tryz.prog.info? 72=some Tryz.t72:=by kernel_rfl
theorem BI72:(Tryz.prog.fieldsOf 72).toList.all (fun f=>(Tryz.prog.info? f.type).isSome)=true:=by kernel_rfl
theorem IN75:Tryz.prog.info? 75=some Tryz.t75:=by kernel_rfl
theorem BI75:(Tryz.prog.fieldsOf 75).toList.all (fun f=>(Tryz.prog.info? f.type).isSome)=true:=by kernel_rfl
theorem IN76:Tryz.prog.info? 76=some Tryz.t76:=by kernel_rfl
theorem IN78:Tryz.prog.info? 78=some Tryz.t78:=by kernel_rfl
theorem BI78:(Tryz.prog.fieldsOf 78).toList.all (fun f=>(Tryz.prog.info? f.type).isSome)=true:=by kernel_rfl
theorem IN80:Tryz.prog.info? 80=some Tryz.t80:=by kernel_rfl
theorem BI80:(Tryz.prog.fieldsOf 80).toList.all (fun f=>(Tryz.prog.info? f.type).isSome)=true:=by kernel_rfl
theorem BI111:(Tryz.prog.fieldsOf 111).toList.all (fun f=>(Tryz.prog.info? f.type).isSome)=true:=by kernel_rfl
theorem IN123:Tryz.prog.info? 123=some Tryz.t123:=by kernel_rfl
theorem BI123:(Tryz.prog.fieldsOf 123).toList.all (fun f=>(Tryz.prog.info? f.type).isSome)=true:=by kernel_rfl
theorem BI149:(Tryz.prog.fieldsOf 149).toList.all (fun f=>(Tryz.prog.info? f.type).isSome)=true:=by kernel_rfl
theorem IN185:Tryz.prog.info? 185=some Tryz.t185:=by kernel_rfl
theorem IN187:Tryz.prog.info? 187=some Tryz.t187:=by kernel_rfl
theorem BI187:(Tryz.prog.fieldsOf 187).toList.all (fun f=>(Tryz.prog.info? f.type).isSome)=true:=by kernel_rfl
theorem IX3:Tryz.prog.info? 3=some Tryz.t3:=by kernel_rfl
theorem KA86:KeyOk Tryz.prog 86 kArr2:=keyArr2 Tryz.underlying86 IX3 Tryz.underlying3 (by kernel_rfl) Tryz.isAgg3 Tryz.sizeOf3
theorem EQ72 (x y:Item) (w:World):(Op.equal 72 (.agg (encItem x).toArray) (.agg (encItem y).toArray)).run Tryz.prog w=.ok (x==y) w:=by
  refine Eq.trans ((eqS (k:=9999) Tryz.underlying72 (by kernel_rfl) (eqC (by decide) Tryz.isAgg3 rfl rfl (eqI (k:=9998) Tryz.underlying3) (eqC (by decide) Tryz.isAgg2 rfl rfl (eqI (k:=9998) Tryz.underlying2) eqN))) w) (congrArg (fun b=>Result.ok b w) (Bool.eq_iff_iff.2 ?_))
  obtain ⟨x_0,x_1⟩:=x; obtain ⟨y_0,y_1⟩:=y
  simp [and_assoc]
theorem EG72 (o:BinOp) (x y:Operand) (u v:Array Value) (w:World):(eqGuard o 72 x y (.agg u) (.agg v)).run Tryz.prog w=.ok () w:=run_eqGuard_agg w o 72 x y u v (by kernel_rfl)
theorem EQ78 (x y:Wide) (w:World):(Op.equal 78 (.agg (encWide x).toArray) (.agg (encWide y).toArray)).run Tryz.prog w=.ok (x==y) w:=by
  refine Eq.trans ((eqS (k:=9999) Tryz.underlying78 (by kernel_rfl) (eqC (by decide) Tryz.isAgg2 rfl rfl (eqI (k:=9998) Tryz.underlying2) (eqC (by decide) Tryz.isAgg76 rfl rfl (eqI (k:=9998) Tryz.underlying76) eqN))) w) (congrArg (fun b=>Result.ok b w) (Bool.eq_iff_iff.2 ?_))
  obtain ⟨x_0,x_1⟩:=x; obtain ⟨y_0,y_1⟩:=y
  simp [and_assoc]
theorem EG78 (o:BinOp) (x y:Operand) (u v:Array Value) (w:World):(eqGuard o 78 x y (.agg u) (.agg v)).run Tryz.prog w=.ok () w:=run_eqGuard_agg w o 78 x y u v (by kernel_rfl)
theorem EQ80 (x y:Sum) (w:World):(Op.equal 80 (.agg (encSum x).toArray) (.agg (encSum y).toArray)).run Tryz.prog w=.ok (x==y) w:=by
  refine Eq.trans ((eqS (k:=9999) Tryz.underlying80 (by kernel_rfl) (eqC (by decide) Tryz.isAgg3 rfl rfl (eqI (k:=9998) Tryz.underlying3) (eqA (by decide) Tryz.isAgg78 Tryz.sizeOf78 (eqS (k:=9998) Tryz.underlying78 (by kernel_rfl) (eqC (by decide) Tryz.isAgg2 rfl rfl (eqI (k:=9997) Tryz.underlying2) (eqC (by decide) Tryz.isAgg76 rfl rfl (eqI (k:=9997) Tryz.underlying76) eqN))) eqN))) w) (congrArg (fun b=>Result.ok b w) (Bool.eq_iff_iff.2 ?_))
  obtain ⟨x_0,x_1⟩:=x; obtain ⟨x_1_0,x_1_1⟩:=x_1; obtain ⟨y_0,y_1⟩:=y; obtain ⟨y_1_0,y_1_1⟩:=y_1
  simp [and_assoc]
theorem EG80 (o:BinOp) (x y:Operand) (u v:Array Value) (w:World):(eqGuard o 80 x y (.agg u) (.agg v)).run Tryz.prog w=.ok () w:=run_eqGuard_agg w o 80 x y u v (by kernel_rfl)
abbrev o0_ (Q:Int→Prop):Value→Prop:=fun v=>∃ r,v=.int .i64 r∧Q r
abbrev o1_ (Q:Bool→Prop):Value→Prop:=fun v=>∃ r,v=.bool r∧Q r
abbrev o2_ (Q:Wide→Prop):Value→Prop:=fun v=>∃ r,v=.agg (encWide r).toArray∧Q r
abbrev o3_ (Q:(Int×Bool)→Prop):Value→Prop:=fun v=>∃ r,v=.tuple #[.int .i64 r.1,.bool r.2]∧Q r
abbrev o4_ (Q:Rows→Prop):Value→List HA→Prop:=fun v l=>∃ r p1 c2 p4 c5 p7 c8,v=.agg #[.int .i64 r.Rows,.int .i64 r.Cols,.slice p1 r.Start.length c2,.slice p4 r.Col.length c5,.slice p7 r.Val.length c8]∧l=[OwnSl eI64 3 p1 c2 r.Start,OwnSl eI64 3 p4 c5 r.Col,OwnSl eI64 2 p7 c8 r.Val]∧Q r
abbrev o5_ (Q:Rows→Prop):IH→Value→Prop:=fun I_ v=>∃ r p4 c5 p7 c8 p10 c11,v=.agg #[.int .i64 r.Rows,.int .i64 r.Cols,.slice p4 r.Start.length c5,.slice p7 r.Col.length c8,.slice p10 r.Val.length c11]∧RepSl eI64 I_ p4 c5 r.Start∧RepSl eI64 I_ p7 c8 r.Col∧RepSl eI64 I_ p10 c11 r.Val∧Q r
abbrev o6_ (Q:(Rows×Int)→Prop):IH→Value→Prop:=fun I_ v=>∃ r p4 c5 p7 c8 p10 c11,v=.tuple #[.agg #[.int .i64 r.1.Rows,.int .i64 r.1.Cols,.slice p4 r.1.Start.length c5,.slice p7 r.1.Col.length c8,.slice p10 r.1.Val.length c11],.int .i64 r.2]∧RepSl eI64 I_ p4 c5 r.1.Start∧RepSl eI64 I_ p7 c8 r.1.Col∧RepSl eI64 I_ p10 c11 r.1.Val∧Q r
abbrev o7_ (Q:(Vec×Int)→Prop):IH→Value→Prop:=fun I_ v=>∃ r p4 c5,v=.tuple #[.agg #[.int .i64 r.1.N,.slice p4 r.1.Items.length c5],.int .i64 r.2]∧RepSl eItem I_ p4 c5 r.1.Items∧Q r
abbrev o8_ (Q:Vec→Prop):IH→Value→Prop:=fun I_ v=>∃ r p4 c5,v=.agg #[.int .i64 r.N,.slice p4 r.Items.length c5]∧RepSl eItem I_ p4 c5 r.Items∧Q r
abbrev o9_ (Q:Rows→Prop):IH→Value→Prop:=fun I_ v=>∃ r p10 c11 p13 c14 p16 c17,v=.agg #[.int .i64 r.Rows,.int .i64 r.Cols,.slice p10 r.Start.length c11,.slice p13 r.Col.length c14,.slice p16 r.Val.length c17]∧RepSl eI64 I_ p10 c11 r.Start∧RepSl eI64 I_ p13 c14 r.Col∧RepSl eI64 I_ p16 c17 r.Val∧Q r
abbrev o10_ (Q:(Int×Int)→Prop):Value→Prop:=fun v=>∃ r,v=.tuple #[.int .i64 r.1,.int .i64 r.2]∧Q r
abbrev o11_ (Q:(List Item)→Prop):IH→Value→Prop:=fun I_ v=>∃ r p10 c11,v=.slice p10 r.length c11∧RepSl eItem I_ p10 c11 r∧Q r
abbrev o12_ (Q:(Int×Int)→Prop):Value→Prop:=fun v=>∃ r,v=.agg #[.int .i64 r.1,.int .i64 r.2]∧Q r
abbrev o13_ (Q:Int→Prop):Value→Prop:=fun v=>∃ r,v=.int .u64 r∧Q r
abbrev o14_ (Q:(List Sum)→Prop):IH→Value→Prop:=fun I_ v=>∃ r p7 c8,v=.slice p7 r.length c8∧RepSl eSum I_ p7 c8 r∧Q r
abbrev o15_ (Q:Columns→Prop):IH→Value→Prop:=fun I_ v=>∃ r p10 c11 p13 c14 p16 c17 p19 c20,v=.agg #[.int .i64 r.Rows,.int .i64 r.Cols,.slice p10 r.At.length c11,.slice p13 r.Start.length c14,.slice p16 r.Row.length c17,.slice p19 r.Val.length c20]∧RepSl eI64 I_ p10 c11 r.At∧RepSl eI64 I_ p13 c14 r.Start∧RepSl eI64 I_ p16 c17 r.Row∧RepSl eI64 I_ p19 c20 r.Val∧Q r
abbrev o16_ (Q:((List Sum)×Int)→Prop):IH→Value→Prop:=fun I_ v=>∃ r p13 c14,v=.tuple #[.slice p13 r.1.length c14,.int .i64 r.2]∧RepSl eSum I_ p13 c14 r.1∧Q r
abbrev o17_ (Q:(List Int)→Prop):IH→Value→Prop:=fun I_ v=>∃ r p4 c5,v=.slice p4 r.length c5∧RepSl eU64 I_ p4 c5 r∧Q r
abbrev un2:=@Tryz.underlying2
abbrev un3:=@Tryz.underlying3
abbrev un24:=@Tryz.underlying24
abbrev un25:=@Tryz.underlying25
abbrev un26:=@Tryz.underlying26
abbrev un28:=@Tryz.underlying28
abbrev un31:=@Tryz.underlying31
abbrev un32:=@Tryz.underlying32
abbrev un34:=@Tryz.underlying34
abbrev un37:=@Tryz.underlying37
abbrev un46:=@Tryz.underlying46
abbrev un47:=@Tryz.underlying47
abbrev un58:=@Tryz.underlying58
abbrev un64:=@Tryz.underlying64
abbrev un72:=@Tryz.underlying72
abbrev un75:=@Tryz.underlying75
abbrev un76:=@Tryz.underlying76
abbrev un78:=@Tryz.underlying78
abbrev un80:=@Tryz.underlying80
abbrev un86:=@Tryz.underlying86
abbrev un106:=@Tryz.underlying106
abbrev un111:=@Tryz.underlying111
abbrev un121:=@Tryz.underlying121
abbrev un123:=@Tryz.underlying123
abbrev un147:=@Tryz.underlying147
abbrev un149:=@Tryz.underlying149
abbrev un168:=@Tryz.underlying168
abbrev un185:=@Tryz.underlying185
abbrev un187:=@Tryz.underlying187
abbrev un225:=@Tryz.underlying225
abbrev sz2:=@Tryz.sizeOf2
abbrev sz3:=@Tryz.sizeOf3
abbrev sz25:=@Tryz.sizeOf25
abbrev sz31:=@Tryz.sizeOf31
abbrev sz32:=@Tryz.sizeOf32
abbrev sz34:=@Tryz.sizeOf34
abbrev sz37:=@Tryz.sizeOf37
abbrev sz58:=@Tryz.sizeOf58
abbrev sz64:=@Tryz.sizeOf64
abbrev sz72:=@Tryz.sizeOf72
abbrev sz75:=@Tryz.sizeOf75
abbrev sz76:=@Tryz.sizeOf76
abbrev sz78:=@Tryz.sizeOf78
abbrev sz80:=@Tryz.sizeOf80
abbrev sz86:=@Tryz.sizeOf86
abbrev sz111:=@Tryz.sizeOf111
abbrev sz123:=@Tryz.sizeOf123
abbrev sz187:=@Tryz.sizeOf187
abbrev ia2:=@Tryz.isAgg2
abbrev ia3:=@Tryz.isAgg3
abbrev ia25:=@Tryz.isAgg25
abbrev ia31:=@Tryz.isAgg31
abbrev ia32:=@Tryz.isAgg32
abbrev ia34:=@Tryz.isAgg34
abbrev ia37:=@Tryz.isAgg37
abbrev ia58:=@Tryz.isAgg58
abbrev ia64:=@Tryz.isAgg64
abbrev ia72:=@Tryz.isAgg72
abbrev ia76:=@Tryz.isAgg76
abbrev ia78:=@Tryz.isAgg78
abbrev ia147:=@Tryz.isAgg147
abbrev zv3:=@Tryz.zeroValue3
abbrev zv34:=@Tryz.zeroValue34
abbrev zv37:=@Tryz.zeroValue37
abbrev zv58:=@Tryz.zeroValue58
abbrev zv64:=@Tryz.zeroValue64
abbrev zv72:=@Tryz.zeroValue72
abbrev zv75:=@Tryz.zeroValue75
abbrev zv78:=@Tryz.zeroValue78
abbrev zv80:=@Tryz.zeroValue80
abbrev zv86:=@Tryz.zeroValue86
abbrev zv111:=@Tryz.zeroValue111
abbrev zv123:=@Tryz.zeroValue123
abbrev zv225:=@Tryz.zeroValue225
end Go.Proofs.YtpackolbhcmomaaGreat
