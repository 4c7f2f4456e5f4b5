/- Closed facts of the program (printed by a program of ours). -/
import Derived.Test.YtbohadngdkjljaaGreatT
import Derived.Test.YtbohadngdkjljaaGreatFwL
import Derived.Test.YtbohadngdkjljaaGreatChecked
import Derived.Laws.StructEq
import Derived.KernelRfl
namespace Go.Proofs.YtbohadngdkjljaaGreat
open Go Go.Fw
set_option linter.unusedVariables false
set_option linter.unusedSimpArgs false
set_option maxRecDepth 8000
set_option maxHeartbeats 1000000
theorem MX:Tryz.prog.follows .mixedOrders=true:=by kernel_rfl
abbrev tbP:List (Nat×List Nat):=[(24,[0,1]),(28,[0,1]),(33,[0,1,2,3,4]),(40,[0,1,6,11,16,17,18]),(47,[0,1,2,3]),(49,[0,1,2]),(56,[0,1,4,5,6]),(58,[0,7,8,9]),(85,[0,2,3,4]),(103,[0,1,2]),(112,[0,1]),(121,[0,19,20,21]),(127,[0,1,2,7,8,9,10]),(129,[0,1,2,3]),(134,[0,19,20,21]),(139,[0,1,2,7,8,9,10,11,12,13]),(157,[0,1]),(161,[0,1,2]),(183,[0,1,3,4,5,6,7]),(193,[0,1]),(196,[0,1,2,3,4,5,7,8,9,10]),(199,[0,1,2,3]),(213,[0,1,2,3,4,5])]
theorem AbV:AllOk Tryz.prog tbP:=
 ⟨⟨⟨_,_,_,Tryz.underlying24,rfl,Tryz.sizeOf3,rfl⟩,⟨_,_,_,Tryz.underlying24,rfl,Tryz.sizeOf22,rfl⟩,trivial⟩,⟨⟨_,_,_,Tryz.underlying28,rfl,Tryz.sizeOf26,rfl⟩,⟨_,_,_,Tryz.underlying28,rfl,Tryz.sizeOf5,rfl⟩,trivial⟩,⟨⟨_,_,_,Tryz.underlying33,rfl,Tryz.sizeOf3,rfl⟩,⟨_,_,_,Tryz.underlying33,rfl,Tryz.sizeOf3,rfl⟩,⟨_,_,_,Tryz.underlying33,rfl,Tryz.sizeOf30,rfl⟩,⟨_,_,_,Tryz.underlying33,rfl,Tryz.sizeOf30,rfl⟩,⟨_,_,_,Tryz.underlying33,rfl,Tryz.sizeOf31,rfl⟩,trivial⟩,⟨⟨_,_,_,Tryz.underlying40,rfl,Tryz.sizeOf37,rfl⟩,⟨_,_,_,Tryz.underlying40,rfl,Tryz.sizeOf33,rfl⟩,⟨_,_,_,Tryz.underlying40,rfl,Tryz.sizeOf33,rfl⟩,⟨_,_,_,Tryz.underlying40,rfl,Tryz.sizeOf33,rfl⟩,⟨_,_,_,Tryz.underlying40,rfl,Tryz.sizeOf3,rfl⟩,⟨_,_,_,Tryz.underlying40,rfl,Tryz.sizeOf3,rfl⟩,⟨_,_,_,Tryz.underlying40,rfl,Tryz.sizeOf3,rfl⟩,trivial⟩,⟨⟨_,_,_,Tryz.underlying47,rfl,Tryz.sizeOf45,rfl⟩,⟨_,_,_,Tryz.underlying47,rfl,Tryz.sizeOf3,rfl⟩,⟨_,_,_,Tryz.underlying47,rfl,Tryz.sizeOf3,rfl⟩,⟨_,_,_,Tryz.underlying47,rfl,Tryz.sizeOf3,rfl⟩,trivial⟩,⟨⟨_,_,_,Tryz.underlying49,rfl,Tryz.sizeOf3,rfl⟩,⟨_,_,_,Tryz.underlying49,rfl,Tryz.sizeOf3,rfl⟩,⟨_,_,_,Tryz.underlying49,rfl,Tryz.sizeOf2,rfl⟩,trivial⟩,⟨⟨_,_,_,Tryz.underlying56,rfl,Tryz.sizeOf37,rfl⟩,⟨_,_,_,Tryz.underlying56,rfl,Tryz.sizeOf53,rfl⟩,⟨_,_,_,Tryz.underlying56,rfl,Tryz.sizeOf54,rfl⟩,⟨_,_,_,Tryz.underlying56,rfl,Tryz.sizeOf54,rfl⟩,⟨_,_,_,Tryz.underlying56,rfl,Tryz.sizeOf54,rfl⟩,trivial⟩,⟨⟨_,_,_,Tryz.underlying58,rfl,Tryz.sizeOf56,rfl⟩,⟨_,_,_,Tryz.underlying58,rfl,Tryz.sizeOf5,rfl⟩,⟨_,_,_,Tryz.underlying58,rfl,Tryz.sizeOf5,rfl⟩,⟨_,_,_,Tryz.underlying58,rfl,Tryz.sizeOf5,rfl⟩,trivial⟩,⟨⟨_,_,_,Tryz.underlying85,rfl,Tryz.sizeOf24,rfl⟩,⟨_,_,_,Tryz.underlying85,rfl,Tryz.sizeOf3,rfl⟩,⟨_,_,_,Tryz.underlying85,rfl,Tryz.sizeOf5,rfl⟩,⟨_,_,_,Tryz.underlying85,rfl,Tryz.sizeOf5,rfl⟩,trivial⟩,⟨⟨_,_,_,Tryz.underlying103,rfl,Tryz.sizeOf3,rfl⟩,⟨_,_,_,Tryz.underlying103,rfl,Tryz.sizeOf3,rfl⟩,⟨_,_,_,Tryz.underlying103,rfl,Tryz.sizeOf2,rfl⟩,trivial⟩,⟨⟨_,_,_,Tryz.underlying112,rfl,Tryz.sizeOf3,rfl⟩,⟨_,_,_,Tryz.underlying112,rfl,Tryz.sizeOf2,rfl⟩,trivial⟩,⟨⟨_,_,_,Tryz.underlying121,rfl,Tryz.sizeOf40,rfl⟩,⟨_,_,_,Tryz.underlying121,rfl,Tryz.sizeOf116,rfl⟩,⟨_,_,_,Tryz.underlying121,rfl,Tryz.sizeOf119,rfl⟩,⟨_,_,_,Tryz.underlying121,rfl,Tryz.sizeOf118,rfl⟩,trivial⟩,⟨⟨_,_,_,Tryz.underlying127,rfl,Tryz.sizeOf3,rfl⟩,⟨_,_,_,Tryz.underlying127,rfl,Tryz.sizeOf3,rfl⟩,⟨_,_,_,Tryz.underlying127,rfl,Tryz.sizeOf33,rfl⟩,⟨_,_,_,Tryz.underlying127,rfl,Tryz.sizeOf125,rfl⟩,⟨_,_,_,Tryz.underlying127,rfl,Tryz.sizeOf124,rfl⟩,⟨_,_,_,Tryz.underlying127,rfl,Tryz.sizeOf3,rfl⟩,⟨_,_,_,Tryz.underlying127,rfl,Tryz.sizeOf76,rfl⟩,trivial⟩,⟨⟨_,_,_,Tryz.underlying129,rfl,Tryz.sizeOf3,rfl⟩,⟨_,_,_,Tryz.underlying129,rfl,Tryz.sizeOf3,rfl⟩,⟨_,_,_,Tryz.underlying129,rfl,Tryz.sizeOf3,rfl⟩,⟨_,_,_,Tryz.underlying129,rfl,Tryz.sizeOf3,rfl⟩,trivial⟩,⟨⟨_,_,_,Tryz.underlying134,rfl,Tryz.sizeOf40,rfl⟩,⟨_,_,_,Tryz.underlying134,rfl,Tryz.sizeOf116,rfl⟩,⟨_,_,_,Tryz.underlying134,rfl,Tryz.sizeOf131,rfl⟩,⟨_,_,_,Tryz.underlying134,rfl,Tryz.sizeOf132,rfl⟩,trivial⟩,⟨⟨_,_,_,Tryz.underlying139,rfl,Tryz.sizeOf3,rfl⟩,⟨_,_,_,Tryz.underlying139,rfl,Tryz.sizeOf3,rfl⟩,⟨_,_,_,Tryz.underlying139,rfl,Tryz.sizeOf33,rfl⟩,⟨_,_,_,Tryz.underlying139,rfl,Tryz.sizeOf125,rfl⟩,⟨_,_,_,Tryz.underlying139,rfl,Tryz.sizeOf136,rfl⟩,⟨_,_,_,Tryz.underlying139,rfl,Tryz.sizeOf136,rfl⟩,⟨_,_,_,Tryz.underlying139,rfl,Tryz.sizeOf137,rfl⟩,⟨_,_,_,Tryz.underlying139,rfl,Tryz.sizeOf137,rfl⟩,⟨_,_,_,Tryz.underlying139,rfl,Tryz.sizeOf3,rfl⟩,⟨_,_,_,Tryz.underlying139,rfl,Tryz.sizeOf76,rfl⟩,trivial⟩,⟨⟨_,_,_,Tryz.underlying157,rfl,Tryz.sizeOf2,rfl⟩,⟨_,_,_,Tryz.underlying157,rfl,Tryz.sizeOf155,rfl⟩,trivial⟩,⟨⟨_,_,_,Tryz.underlying161,rfl,Tryz.sizeOf3,rfl⟩,⟨_,_,_,Tryz.underlying161,rfl,Tryz.sizeOf3,rfl⟩,⟨_,_,_,Tryz.underlying161,rfl,Tryz.sizeOf157,rfl⟩,trivial⟩,⟨⟨_,_,_,Tryz.underlying183,rfl,Tryz.sizeOf37,rfl⟩,⟨_,_,_,Tryz.underlying183,rfl,Tryz.sizeOf25,rfl⟩,⟨_,_,_,Tryz.underlying183,rfl,Tryz.sizeOf54,rfl⟩,⟨_,_,_,Tryz.underlying183,rfl,Tryz.sizeOf109,rfl⟩,⟨_,_,_,Tryz.underlying183,rfl,Tryz.sizeOf109,rfl⟩,⟨_,_,_,Tryz.underlying183,rfl,Tryz.sizeOf181,rfl⟩,⟨_,_,_,Tryz.underlying183,rfl,Tryz.sizeOf4,rfl⟩,trivial⟩,⟨⟨_,_,_,Tryz.underlying193,rfl,Tryz.sizeOf3,rfl⟩,⟨_,_,_,Tryz.underlying193,rfl,Tryz.sizeOf109,rfl⟩,trivial⟩,⟨⟨_,_,_,Tryz.underlying196,rfl,Tryz.sizeOf191,rfl⟩,⟨_,_,_,Tryz.underlying196,rfl,Tryz.sizeOf3,rfl⟩,⟨_,_,_,Tryz.underlying196,rfl,Tryz.sizeOf3,rfl⟩,⟨_,_,_,Tryz.underlying196,rfl,Tryz.sizeOf3,rfl⟩,⟨_,_,_,Tryz.underlying196,rfl,Tryz.sizeOf3,rfl⟩,⟨_,_,_,Tryz.underlying196,rfl,Tryz.sizeOf193,rfl⟩,⟨_,_,_,Tryz.underlying196,rfl,Tryz.sizeOf194,rfl⟩,⟨_,_,_,Tryz.underlying196,rfl,Tryz.sizeOf54,rfl⟩,⟨_,_,_,Tryz.underlying196,rfl,Tryz.sizeOf2,rfl⟩,⟨_,_,_,Tryz.underlying196,rfl,Tryz.sizeOf4,rfl⟩,trivial⟩,⟨⟨_,_,_,Tryz.underlying199,rfl,Tryz.sizeOf3,rfl⟩,⟨_,_,_,Tryz.underlying199,rfl,Tryz.sizeOf3,rfl⟩,⟨_,_,_,Tryz.underlying199,rfl,Tryz.sizeOf3,rfl⟩,⟨_,_,_,Tryz.underlying199,rfl,Tryz.sizeOf125,rfl⟩,trivial⟩,⟨⟨_,_,_,Tryz.underlying213,rfl,Tryz.sizeOf3,rfl⟩,⟨_,_,_,Tryz.underlying213,rfl,Tryz.sizeOf30,rfl⟩,⟨_,_,_,Tryz.underlying213,rfl,Tryz.sizeOf210,rfl⟩,⟨_,_,_,Tryz.underlying213,rfl,Tryz.sizeOf211,rfl⟩,⟨_,_,_,Tryz.underlying213,rfl,Tryz.sizeOf3,rfl⟩,⟨_,_,_,Tryz.underlying213,rfl,Tryz.sizeOf3,rfl⟩,trivial⟩,trivial⟩
section
variable {n:FrK} {E E1 E' E2:DY} {S:World→Prop} {Q Q':Exit→Act→World→Prop} {ops:Array Oper} {l l' l2:List Oper} {z:Code} {id:Nat}
theorem _root_.Go.Fw.Ops.ks (j:Nat) (h:kF tbP ops n j l E=some (l',E')) (g:Ops Tryz.prog ops l' n E' S Q):Ops Tryz.prog ops l n E S Q:=.ksT AbV j h g
theorem _root_.Go.Fw.Ops.nk (ks:List Nat) (j:Nat) (h:(W8 ks E [],(fun a w=>Q .normal a w),kF tbP l2.toArray n j l2 E')=(some E',(fun a w=>(Code.seq (.region id l2.toArray false) z).wpIn (UY n) 0 Tryz.prog Q' a w),some (l',E2))) (g:Ops Tryz.prog l2.toArray l' n E2 S (Exit.then (z.wpIn (UY n) 0 Tryz.prog Q') Q')):Ops Tryz.prog ops [] n E S Q:=.nkT AbV ks j h g
theorem _root_.Go.Fw.Cod.sk (j:Nat) (h:kF tbP l.toArray n j l E=some (l',E')) (g:Ops Tryz.prog l.toArray l' n E' S (Exit.then (z.wpIn (UY n) 0 Tryz.prog Q) Q)):Cod Tryz.prog (.seq (.region id l.toArray false) z) n E S Q:=.skT AbV j h g
theorem _root_.Go.Fw.Ops.kn (j:Nat) (ks:List Nat) (h:(kF tbP ops n j l E,W8 ks E1 [],fun a w=>Q .normal a w)=(some ([],E1),some E',fun a w=>z.wpIn (UY n) 0 Tryz.prog Q' a w)) (g:Cod Tryz.prog z n E' S Q'):Ops Tryz.prog ops l n E S Q:=.knT AbV j ks h g
variable {w0:World} {M:Nat→Prop} {I0 I:IH} {cs cs':List (Option Nat)} {dn dn':IQ} {X X' pend pd':List Nat} {asn:List AS} {L:Sh} {Sd:List HA→World→Prop} {g fs:List Nat} {A B:List (Option (Nat×Value))}
theorem _root_.Go.Fw.DrawD.fk (k:Nat) (h:AdE tbP ops n E k cs dn X pend=some (cs',dn',X',pd')) (kk:DrawD Tryz.prog ops n Q w0 M I0 E cs' dn' X' pd' asn I L):DrawD Tryz.prog ops n Q w0 M I0 E cs dn X pend asn I L:=.fkT AbV k h kk
theorem _root_.Go.Fw.PendL.ck (k:Nat) (h:AdG tbP ops n E dn k fs=some (g,A,B)) (hAB:A=B) (kk:PendL Tryz.prog ops n E dn Sd g):PendL Tryz.prog ops n E dn Sd fs:=.ckT AbV k h hAB kk
end
theorem IN2:Tryz.prog.info? 2=some Tryz.t2:=by kernel_rfl
theorem IN3:Tryz.prog.info? 3=some Tryz.t3:=by kernel_rfl
theorem nF:(Tryz.prog.fieldsOf 24).toList.all (fun f=>(Tryz.prog.info? f.type).isSome)=true:=by kernel_rfl
theorem Ak1:Tryz.prog.info? 30=some Tryz.t30:=by kernel_rfl
theorem Aj5:Tryz.prog.info? 33=some Tryz.t33:=by kernel_rfl
theorem OP:(Tryz.prog.fieldsOf 33).toList.all (fun f=>(Tryz.prog.info? f.type).isSome)=true:=by kernel_rfl
theorem nG:(Tryz.prog.fieldsOf 40).toList.all (fun f=>(Tryz.prog.info? f.type).isSome)=true:=by kernel_rfl
theorem kL:Tryz.prog.info? 49=some Tryz.t49:=by kernel_rfl
theorem nH:(Tryz.prog.fieldsOf 49).toList.all (fun f=>(Tryz.prog.info? f.type).isSome)=true:=by kernel_rfl
theorem Aj6:Tryz.prog.info? 99=some Tryz.t99:=by kernel_rfl
theorem kM:Tryz.prog.info? 103=some Tryz.t103:=by kernel_rfl
theorem oP:(Tryz.prog.fieldsOf 103).toList.all (fun f=>(Tryz.prog.info? f.type).isSome)=true:=by kernel_rfl
theorem AhD:Tryz.prog.info? 112=some Tryz.t112:=by kernel_rfl
theorem Aj7:(Tryz.prog.fieldsOf 112).toList.all (fun f=>(Tryz.prog.info? f.type).isSome)=true:=by kernel_rfl
theorem Aj8:(Tryz.prog.fieldsOf 121).toList.all (fun f=>(Tryz.prog.info? f.type).isSome)=true:=by kernel_rfl
theorem Aj9:Tryz.prog.info? 122=some Tryz.t122:=by kernel_rfl
theorem AjA:(Tryz.prog.fieldsOf 127).toList.all (fun f=>(Tryz.prog.info? f.type).isSome)=true:=by kernel_rfl
theorem AjB:Tryz.prog.info? 129=some Tryz.t129:=by kernel_rfl
theorem AjC:(Tryz.prog.fieldsOf 129).toList.all (fun f=>(Tryz.prog.info? f.type).isSome)=true:=by kernel_rfl
theorem AhE:Tryz.prog.info? 155=some Tryz.t155:=by kernel_rfl
theorem AjD:Tryz.prog.info? 157=some Tryz.t157:=by kernel_rfl
theorem NZ:(Tryz.prog.fieldsOf 157).toList.all (fun f=>(Tryz.prog.info? f.type).isSome)=true:=by kernel_rfl
theorem uF:Tryz.prog.info? 161=some Tryz.t161:=by kernel_rfl
theorem AhF:(Tryz.prog.fieldsOf 161).toList.all (fun f=>(Tryz.prog.info? f.type).isSome)=true:=by kernel_rfl
theorem AjE:Tryz.prog.info? 181=some Tryz.t181:=by kernel_rfl
theorem AjF:Tryz.prog.info? 196=some Tryz.t196:=by kernel_rfl
theorem uG:(Tryz.prog.fieldsOf 196).toList.all (fun f=>(Tryz.prog.info? f.type).isSome)=true:=by kernel_rfl
theorem kN:(Tryz.prog.fieldsOf 206).toList.all (fun f=>(Tryz.prog.info? f.type).isSome)=true:=by kernel_rfl
theorem AjG:(Tryz.prog.fieldsOf 213).toList.all (fun f=>(Tryz.prog.info? f.type).isSome)=true:=by kernel_rfl
theorem AjH:Tryz.prog.info? 289=some Tryz.t289:=by kernel_rfl
theorem Ak2:Tryz.prog.info? 3=some Tryz.t3:=by kernel_rfl
theorem Ak3 (x y:Int×Int×Int) (w:World):(Op.equal 99 (.agg #[.int .i64 x.1,.int .i64 x.2.1,.int .i64 x.2.2]) (.agg #[.int .i64 y.1,.int .i64 y.2.1,.int .i64 y.2.2])).run Tryz.prog w=.ok (x==y) w:=AfV 9998 Tryz.underlying99 Ak2 Tryz.underlying3 (by kernel_rfl) Tryz.isAgg3 x y w
theorem Ak4 (o:BinOp) (x y:Operand) (u v:Array Value) (w:World):(eqGuard o 99 x y (.agg u) (.agg v)).run Tryz.prog w=.ok () w:=run_eqGuard_agg w o 99 x y u v (by kernel_rfl)
theorem oQ (x y:AN) (w:World):(Op.equal 157 (.agg (EZ x).toArray) (.agg (EZ y).toArray)).run Tryz.prog w=.ok (x==y) w:=by
  refine Eq.trans ((eqS (k:=9999) Tryz.underlying157 (by kernel_rfl) (eqC (by decide) Tryz.isAgg2 rfl rfl (eqI (k:=9998) Tryz.underlying2) (eqC (by decide) Tryz.isAgg155 rfl rfl (eqI (k:=9998) Tryz.underlying155) eqN))) w) (congrArg (fun b=>Result.ok b w) (Bool.eq_iff_iff.2 ?_))
  obtain ⟨x_0,x_1⟩:=x; obtain ⟨y_0,y_1⟩:=y
  simp [and_assoc]
theorem oR (o:BinOp) (x y:Operand) (u v:Array Value) (w:World):(eqGuard o 157 x y (.agg u) (.agg v)).run Tryz.prog w=.ok () w:=run_eqGuard_agg w o 157 x y u v (by kernel_rfl)
theorem AjI (x y:BC) (w:World):(Op.equal 206 (.agg (VV x).toArray) (.agg (VV y).toArray)).run Tryz.prog w=.ok (x==y) w:=by
  refine Eq.trans ((eqS (k:=9999) Tryz.underlying206 (by kernel_rfl) (eqC (by decide) Tryz.isAgg191 rfl rfl (eqI (k:=9998) Tryz.underlying191) (eqC (by decide) Tryz.isAgg3 rfl rfl (eqI (k:=9998) Tryz.underlying3) eqN))) w) (congrArg (fun b=>Result.ok b w) (Bool.eq_iff_iff.2 ?_))
  obtain ⟨x_0,x_1⟩:=x; obtain ⟨y_0,y_1⟩:=y
  simp [and_assoc]
theorem IX3:Tryz.prog.info? 3=some Tryz.t3:=by kernel_rfl
theorem WH:Y0 Tryz.prog 169 CU:=AfN Tryz.underlying169 IX3 Tryz.underlying3 (by kernel_rfl) Tryz.isAgg3 Tryz.sizeOf3
theorem oS:Y0 Tryz.prog 206 FP:=AfU (fun _=>rfl) Tryz.underlying206 Tryz.underlying191 Tryz.underlying3 rfl rfl Tryz.isAgg191 Tryz.isAgg3 (fun k x w=>AjI k x w)
abbrev dA (Q:Bool→Prop):Value→Prop:=fun v=>∃ r,v=.bool r∧Q r
abbrev o1_ (Q:AN→Prop):Value→Prop:=fun v=>∃ r,v=.agg (EZ r).toArray∧Q r
abbrev kO (Q:Int→Prop):Value→Prop:=fun v=>∃ r,v=.int .i64 r∧Q r
abbrev o3_ (Q:(Int×Bool)→Prop):Value→Prop:=fun v=>∃ r,v=.tuple #[.int .i64 r.1,.bool r.2]∧Q r
abbrev o4_ (Q:AK→Prop):Value→List HA→Prop:=fun v l=>∃ r p4 c5,v=.agg #[.int .i64 r.N,.slice p4 r.Edges.length c5]∧l=[OwnSl BU 49 p4 c5 r.Edges]∧Q r
abbrev o5_ (Q:AK→Prop):IH→Value→Prop:=fun I_ v=>∃ r p4 c5,v=.agg #[.int .i64 r.N,.slice p4 r.Edges.length c5]∧RepSl BU I_ p4 c5 r.Edges∧Q r
abbrev o6_ (Q:Rows→Prop):Value→List HA→Prop:=fun v l=>∃ r p1 c2 p4 c5 p7 c8,v=.agg #[.int .i64 r.Rows,.int .i64 r.Cols,.slice p1 r.Start.length c2,.slice p4 r.Col.length c5,.slice p7 r.Val.length c8]∧l=[OwnSl AE 3 p1 c2 r.Start,OwnSl AE 3 p4 c5 r.Col,OwnSl AE 2 p7 c8 r.Val]∧Q r
abbrev o7_ (Q:Rows→Prop):IH→Value→Prop:=fun I_ v=>∃ r p4 c5 p7 c8 p10 c11,v=.agg #[.int .i64 r.Rows,.int .i64 r.Cols,.slice p4 r.Start.length c5,.slice p7 r.Col.length c8,.slice p10 r.Val.length c11]∧RepSl AE I_ p4 c5 r.Start∧RepSl AE I_ p7 c8 r.Col∧RepSl AE I_ p10 c11 r.Val∧Q r
abbrev o8_ (Q:(Rows×Int)→Prop):IH→Value→Prop:=fun I_ v=>∃ r p4 c5 p7 c8 p10 c11,v=.tuple #[.agg #[.int .i64 r.1.Rows,.int .i64 r.1.Cols,.slice p4 r.1.Start.length c5,.slice p7 r.1.Col.length c8,.slice p10 r.1.Val.length c11],.int .i64 r.2]∧RepSl AE I_ p4 c5 r.1.Start∧RepSl AE I_ p7 c8 r.1.Col∧RepSl AE I_ p10 c11 r.1.Val∧Q r
abbrev Ak5 (Q:(List BJ)→Prop):IH→Value→Prop:=fun I_ v=>∃ r p1 c2,v=.slice p1 r.length c2∧RepSl CB I_ p1 c2 r∧Q r
abbrev AhV (Q:Rows→Prop):IH→Value→Prop:=fun I_ v=>∃ r p10 c11 p13 c14 p16 c17,v=.agg #[.int .i64 r.Rows,.int .i64 r.Cols,.slice p10 r.Start.length c11,.slice p13 r.Col.length c14,.slice p16 r.Val.length c17]∧RepSl AE I_ p10 c11 r.Start∧RepSl AE I_ p13 c14 r.Col∧RepSl AE I_ p16 c17 r.Val∧Q r
abbrev AhW (Q:(Int×Int)→Prop):Value→Prop:=fun v=>∃ r,v=.tuple #[.int .i64 r.1,.int .i64 r.2]∧Q r
abbrev AjJ (Q:((List Int)×(List Int))→Prop):IH→Value→Prop:=fun I_ v=>∃ r p10 c11 p13 c14,v=.tuple #[.slice p10 r.1.length c11,.slice p13 r.2.length c14]∧RepSl AE I_ p10 c11 r.1∧RepSl AE I_ p13 c14 r.2∧Q r
abbrev Ak6 (Q:(List EC)→Prop):IH→Value→Prop:=fun I_ v=>∃ r p10 c11,v=.slice p10 r.length c11∧RepSl RG I_ p10 c11 r∧Q r
abbrev AjK (Q:(Int×Int)→Prop):Value→Prop:=fun v=>∃ r,v=.agg #[.int .i64 r.1,.int .i64 r.2]∧Q r
abbrev Ak7 (Q:(List AD)→Prop):IH→Value→Prop:=fun I_ v=>∃ r p10 c11,v=.slice p10 r.length c11∧RepSl BV I_ p10 c11 r∧Q r
abbrev Ak8 (Q:(List AD)→Prop):IH→Value→Prop:=fun I_ v=>∃ r p4 c5,v=.slice p4 r.length c5∧RepSl BV I_ p4 c5 r∧Q r
abbrev Ak9 (Q:BL→Prop):IH→Value→Prop:=fun I_ v=>∃ r p10 c11 p13 c14 p16 c17,v=.agg #[.int .i64 r.Kind,.int .i64 r.From,.int .i64 r.To,.int .i64 r.Seq,.int .i64 r.Round,.int .i64 r.Vec.N,.slice p10 r.Vec.Items.length c11,.slice p13 r.Sums.length c14,.slice p16 r.Triples.length c17,.int .i64 r.N,.bool r.Over]∧RepSl RG I_ p10 c11 r.Vec.Items∧RepSl fG I_ p13 c14 r.Sums∧RepSl BV I_ p16 c17 r.Triples∧Q r
abbrev AhX (Q:Int→Prop):Value→Prop:=fun v=>∃ r,v=.int .u64 r∧Q r
abbrev AkA (Q:((List AM)×Int)→Prop):IH→Value→Prop:=fun I_ v=>∃ r p28 c29,v=.tuple #[.slice p28 r.1.length c29,.int .i64 r.2]∧RepSl CI I_ p28 c29 r.1∧Q r
abbrev AkB (Q:((List AM)×Int)→Prop):IH→Value→Prop:=fun I_ v=>∃ r p4 c5,v=.tuple #[.slice p4 r.1.length c5,.int .i64 r.2]∧RepSl CI I_ p4 c5 r.1∧Q r
abbrev AkC (Q:(Rows×Bool×Int)→Prop):IH→Value→Prop:=fun I_ v=>∃ r p31 c32 p34 c35 p37 c38,v=.tuple #[.agg #[.int .i64 r.1.Rows,.int .i64 r.1.Cols,.slice p31 r.1.Start.length c32,.slice p34 r.1.Col.length c35,.slice p37 r.1.Val.length c38],.bool r.2.1,.int .i64 r.2.2]∧RepSl AE I_ p31 c32 r.1.Start∧RepSl AE I_ p34 c35 r.1.Col∧RepSl AE I_ p37 c38 r.1.Val∧Q r
abbrev AjL (Q:(BI×Int)→Prop):IH→Value→Prop:=fun I_ v=>∃ r p4 c5 p7 c8 p10 c11 p13 c14 p16 c17 p19 c20 p22 c23 p25 c26 p28 c29,v=.tuple #[.agg #[.int .i64 r.1.Ring,.int .i64 r.1.A.Rows,.int .i64 r.1.A.Cols,.slice p4 r.1.A.Start.length c5,.slice p7 r.1.A.Col.length c8,.slice p10 r.1.A.Val.length c11,.int .i64 r.1.B.Rows,.int .i64 r.1.B.Cols,.slice p13 r.1.B.Start.length c14,.slice p16 r.1.B.Col.length c17,.slice p19 r.1.B.Val.length c20,.int .i64 r.1.Mask.Rows,.int .i64 r.1.Mask.Cols,.slice p22 r.1.Mask.Start.length c23,.slice p25 r.1.Mask.Col.length c26,.slice p28 r.1.Mask.Val.length c29,.int .i64 r.1.R,.int .i64 r.1.C,.int .i64 r.1.Room],.int .i64 r.2]∧RepSl AE I_ p4 c5 r.1.A.Start∧RepSl AE I_ p7 c8 r.1.A.Col∧RepSl AE I_ p10 c11 r.1.A.Val∧RepSl AE I_ p13 c14 r.1.B.Start∧RepSl AE I_ p16 c17 r.1.B.Col∧RepSl AE I_ p19 c20 r.1.B.Val∧RepSl AE I_ p22 c23 r.1.Mask.Start∧RepSl AE I_ p25 c26 r.1.Mask.Col∧RepSl AE I_ p28 c29 r.1.Mask.Val∧Q r
abbrev AjM (Q:(List (Int×Int×Int))→Prop):IH→Value→Prop:=fun I_ v=>∃ r p4 c5,v=.slice p4 r.length c5∧RepSl OV I_ p4 c5 r∧Q r
abbrev AhY (Q:(List Int)→Prop):IH→Value→Prop:=fun I_ v=>∃ r p4 c5,v=.slice p4 r.length c5∧RepSl AE I_ p4 c5 r∧Q r
abbrev qP:=@Tryz.underlying2
abbrev gX:=@Tryz.underlying3
abbrev CL:=@Tryz.underlying22
abbrev fH:=@Tryz.underlying24
abbrev uH:=@Tryz.underlying26
abbrev BT:=@Tryz.underlying30
abbrev X2:=@Tryz.underlying31
abbrev OQ:=@Tryz.underlying33
abbrev nI:=@Tryz.underlying40
abbrev nJ:=@Tryz.underlying49
abbrev JG:=@Tryz.underlying54
abbrev uI:=@Tryz.underlying60
abbrev EW:=@Tryz.underlying76
abbrev ZY:=@Tryz.underlying90
abbrev nK:=@Tryz.underlying99
abbrev oT:=@Tryz.underlying103
abbrev dB:=@Tryz.underlying109
abbrev dC:=@Tryz.underlying116
abbrev kP:=@Tryz.underlying118
abbrev TW:=@Tryz.underlying119
abbrev oU:=@Tryz.underlying124
abbrev dD:=@Tryz.underlying125
abbrev kQ:=@Tryz.underlying146
abbrev OA:=@Tryz.underlying155
abbrev OB:=@Tryz.underlying157
abbrev OC:=@Tryz.underlying169
abbrev RJ:=@Tryz.underlying181
abbrev AaN:=@Tryz.underlying194
abbrev uJ:=@Tryz.underlying196
abbrev kR:=@Tryz.underlying200
abbrev kS:=@Tryz.underlying206
abbrev oV:=@Tryz.underlying211
abbrev dE:=@Tryz.underlying227
abbrev dF:=@Tryz.underlying236
abbrev dG:=@Tryz.underlying240
abbrev oW:=@Tryz.underlying272
abbrev TX:=@Tryz.underlying290
abbrev gY:=@Tryz.underlying313
abbrev LH:=@Tryz.underlying351
abbrev sz2:=@Tryz.sizeOf2
abbrev EX:=@Tryz.sizeOf3
abbrev CT:=@Tryz.sizeOf24
abbrev iO:=@Tryz.sizeOf30
abbrev BH:=@Tryz.sizeOf33
abbrev KH:=@Tryz.sizeOf40
abbrev iP:=@Tryz.sizeOf47
abbrev CN:=@Tryz.sizeOf49
abbrev AdM:=@Tryz.sizeOf76
abbrev dH:=@Tryz.sizeOf99
abbrev KD:=@Tryz.sizeOf103
abbrev AhG:=@Tryz.sizeOf125
abbrev kT:=@Tryz.sizeOf129
abbrev GD:=@Tryz.sizeOf155
abbrev AU:=@Tryz.sizeOf157
abbrev CA:=@Tryz.sizeOf161
abbrev HK:=@Tryz.sizeOf169
abbrev FN:=@Tryz.sizeOf196
abbrev UT:=@Tryz.isAgg2
abbrev BF:=@Tryz.isAgg3
abbrev GV:=@Tryz.isAgg22
abbrev EJ:=@Tryz.isAgg24
abbrev GS:=@Tryz.isAgg30
abbrev qQ:=@Tryz.isAgg31
abbrev CF:=@Tryz.isAgg33
abbrev kU:=@Tryz.isAgg37
abbrev WI:=@Tryz.isAgg40
abbrev yJ:=@Tryz.isAgg47
abbrev MQ:=@Tryz.isAgg49
abbrev aS:=@Tryz.isAgg116
abbrev KP:=@Tryz.isAgg122
abbrev aU:=@Tryz.isAgg125
abbrev DZ:=@Tryz.isAgg155
abbrev BP:=@Tryz.isAgg157
abbrev IL:=@Tryz.isAgg161
abbrev LW:=@Tryz.isAgg169
abbrev QQ:=@Tryz.isAgg196
abbrev nL:=@Tryz.zeroValue3
abbrev MR:=@Tryz.zeroValue24
abbrev FO:=@Tryz.zeroValue33
abbrev XR:=@Tryz.zeroValue40
abbrev AjN:=@Tryz.zeroValue47
abbrev KZ:=@Tryz.zeroValue49
abbrev qR:=@Tryz.zeroValue99
abbrev RK:=@Tryz.zeroValue103
abbrev AaO:=@Tryz.zeroValue112
abbrev AdN:=@Tryz.zeroValue129
abbrev DK:=@Tryz.zeroValue157
abbrev gZ:=@Tryz.zeroValue161
abbrev LX:=@Tryz.zeroValue169
abbrev TY:=@Tryz.zeroValue196
abbrev dI:=@Tryz.zeroValue206
abbrev oX:=@Tryz.zeroValue351
end Go.Proofs.YtbohadngdkjljaaGreat
