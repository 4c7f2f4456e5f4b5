/- Closed facts of the program (printed by a program of ours). -/
import Derived.Test.YtbohadngdkjljaaGreatT
import Derived.Test.YtbohadngdkjljaaGreatFwL
import Derived.Test.YtbohadngdkjljaaGreatChecked
import Derived.Laws.StructEq
import Derived.KernelRfl
namespace Go.Proofs.YtbohadngdkjljaaGreat
open Go Go.Fw
set_option linter.unusedVariables false
set_option linter.unusedSimpArgs false
set_option maxRecDepth 8000
set_option maxHeartbeats 1000000
theorem MX:Tryz.prog.follows .mixedOrders=true:=by kernel_rfl
abbrev tbP:List (Nat×List Nat):=[(24,[0,1]),(28,[0,1]),(33,[0,1,2,3,4]),(40,[0,1,6,11,16,17,18]),(47,[0,1,2,3]),(49,[0,1,2]),(56,[0,1,4,5,6]),(58,[0,7,8,9]),(85,[0,2,3,4]),(103,[0,1,2]),(112,[0,1]),(121,[0,19,20,21]),(127,[0,1,2,7,8,9,10]),(129,[0,1,2,3]),(134,[0,19,20,21]),(139,[0,1,2,7,8,9,10,11,12,13]),(157,[0,1]),(161,[0,1,2]),(183,[0,1,3,4,5,6,7]),(193,[0,1]),(196,[0,1,2,3,4,5,7,8,9,10]),(199,[0,1,2,3]),(213,[0,1,2,3,4,5])]
theorem zW:AllOk Tryz.prog tbP:=
 ⟨⟨⟨_,_,_,Tryz.underlying24,rfl,Tryz.sizeOf3,rfl⟩,⟨_,_,_,Tryz.underlying24,rfl,Tryz.sizeOf22,rfl⟩,trivial⟩,⟨⟨_,_,_,Tryz.underlying28,rfl,Tryz.sizeOf26,rfl⟩,⟨_,_,_,Tryz.underlying28,rfl,Tryz.sizeOf5,rfl⟩,trivial⟩,⟨⟨_,_,_,Tryz.underlying33,rfl,Tryz.sizeOf3,rfl⟩,⟨_,_,_,Tryz.underlying33,rfl,Tryz.sizeOf3,rfl⟩,⟨_,_,_,Tryz.underlying33,rfl,Tryz.sizeOf30,rfl⟩,⟨_,_,_,Tryz.underlying33,rfl,Tryz.sizeOf30,rfl⟩,⟨_,_,_,Tryz.underlying33,rfl,Tryz.sizeOf31,rfl⟩,trivial⟩,⟨⟨_,_,_,Tryz.underlying40,rfl,Tryz.sizeOf37,rfl⟩,⟨_,_,_,Tryz.underlying40,rfl,Tryz.sizeOf33,rfl⟩,⟨_,_,_,Tryz.underlying40,rfl,Tryz.sizeOf33,rfl⟩,⟨_,_,_,Tryz.underlying40,rfl,Tryz.sizeOf33,rfl⟩,⟨_,_,_,Tryz.underlying40,rfl,Tryz.sizeOf3,rfl⟩,⟨_,_,_,Tryz.underlying40,rfl,Tryz.sizeOf3,rfl⟩,⟨_,_,_,Tryz.underlying40,rfl,Tryz.sizeOf3,rfl⟩,trivial⟩,⟨⟨_,_,_,Tryz.underlying47,rfl,Tryz.sizeOf45,rfl⟩,⟨_,_,_,Tryz.underlying47,rfl,Tryz.sizeOf3,rfl⟩,⟨_,_,_,Tryz.underlying47,rfl,Tryz.sizeOf3,rfl⟩,⟨_,_,_,Tryz.underlying47,rfl,Tryz.sizeOf3,rfl⟩,trivial⟩,⟨⟨_,_,_,Tryz.underlying49,rfl,Tryz.sizeOf3,rfl⟩,⟨_,_,_,Tryz.underlying49,rfl,Tryz.sizeOf3,rfl⟩,⟨_,_,_,Tryz.underlying49,rfl,Tryz.sizeOf2,rfl⟩,trivial⟩,⟨⟨_,_,_,Tryz.underlying56,rfl,Tryz.sizeOf37,rfl⟩,⟨_,_,_,Tryz.underlying56,rfl,Tryz.sizeOf53,rfl⟩,⟨_,_,_,Tryz.underlying56,rfl,Tryz.sizeOf54,rfl⟩,⟨_,_,_,Tryz.underlying56,rfl,Tryz.sizeOf54,rfl⟩,⟨_,_,_,Tryz.underlying56,rfl,Tryz.sizeOf54,rfl⟩,trivial⟩,⟨⟨_,_,_,Tryz.underlying58,rfl,Tryz.sizeOf56,rfl⟩,⟨_,_,_,Tryz.underlying58,rfl,Tryz.sizeOf5,rfl⟩,⟨_,_,_,Tryz.underlying58,rfl,Tryz.sizeOf5,rfl⟩,⟨_,_,_,Tryz.underlying58,rfl,Tryz.sizeOf5,rfl⟩,trivial⟩,⟨⟨_,_,_,Tryz.underlying85,rfl,Tryz.sizeOf24,rfl⟩,⟨_,_,_,Tryz.underlying85,rfl,Tryz.sizeOf3,rfl⟩,⟨_,_,_,Tryz.underlying85,rfl,Tryz.sizeOf5,rfl⟩,⟨_,_,_,Tryz.underlying85,rfl,Tryz.sizeOf5,rfl⟩,trivial⟩,⟨⟨_,_,_,Tryz.underlying103,rfl,Tryz.sizeOf3,rfl⟩,⟨_,_,_,Tryz.underlying103,rfl,Tryz.sizeOf3,rfl⟩,⟨_,_,_,Tryz.underlying103,rfl,Tryz.sizeOf2,rfl⟩,trivial⟩,⟨⟨_,_,_,Tryz.underlying112,rfl,Tryz.sizeOf3,rfl⟩,⟨_,_,_,Tryz.underlying112,rfl,Tryz.sizeOf2,rfl⟩,trivial⟩,⟨⟨_,_,_,Tryz.underlying121,rfl,Tryz.sizeOf40,rfl⟩,⟨_,_,_,Tryz.underlying121,rfl,Tryz.sizeOf116,rfl⟩,⟨_,_,_,Tryz.underlying121,rfl,Tryz.sizeOf119,rfl⟩,⟨_,_,_,Tryz.underlying121,rfl,Tryz.sizeOf118,rfl⟩,trivial⟩,⟨⟨_,_,_,Tryz.underlying127,rfl,Tryz.sizeOf3,rfl⟩,⟨_,_,_,Tryz.underlying127,rfl,Tryz.sizeOf3,rfl⟩,⟨_,_,_,Tryz.underlying127,rfl,Tryz.sizeOf33,rfl⟩,⟨_,_,_,Tryz.underlying127,rfl,Tryz.sizeOf125,rfl⟩,⟨_,_,_,Tryz.underlying127,rfl,Tryz.sizeOf124,rfl⟩,⟨_,_,_,Tryz.underlying127,rfl,Tryz.sizeOf3,rfl⟩,⟨_,_,_,Tryz.underlying127,rfl,Tryz.sizeOf76,rfl⟩,trivial⟩,⟨⟨_,_,_,Tryz.underlying129,rfl,Tryz.sizeOf3,rfl⟩,⟨_,_,_,Tryz.underlying129,rfl,Tryz.sizeOf3,rfl⟩,⟨_,_,_,Tryz.underlying129,rfl,Tryz.sizeOf3,rfl⟩,⟨_,_,_,Tryz.underlying129,rfl,Tryz.sizeOf3,rfl⟩,trivial⟩,⟨⟨_,_,_,Tryz.underlying134,rfl,Tryz.sizeOf40,rfl⟩,⟨_,_,_,Tryz.underlying134,rfl,Tryz.sizeOf116,rfl⟩,⟨_,_,_,Tryz.underlying134,rfl,Tryz.sizeOf131,rfl⟩,⟨_,_,_,Tryz.underlying134,rfl,Tryz.sizeOf132,rfl⟩,trivial⟩,⟨⟨_,_,_,Tryz.underlying139,rfl,Tryz.sizeOf3,rfl⟩,⟨_,_,_,Tryz.underlying139,rfl,Tryz.sizeOf3,rfl⟩,⟨_,_,_,Tryz.underlying139,rfl,Tryz.sizeOf33,rfl⟩,⟨_,_,_,Tryz.underlying139,rfl,Tryz.sizeOf125,rfl⟩,⟨_,_,_,Tryz.underlying139,rfl,Tryz.sizeOf136,rfl⟩,⟨_,_,_,Tryz.underlying139,rfl,Tryz.sizeOf136,rfl⟩,⟨_,_,_,Tryz.underlying139,rfl,Tryz.sizeOf137,rfl⟩,⟨_,_,_,Tryz.underlying139,rfl,Tryz.sizeOf137,rfl⟩,⟨_,_,_,Tryz.underlying139,rfl,Tryz.sizeOf3,rfl⟩,⟨_,_,_,Tryz.underlying139,rfl,Tryz.sizeOf76,rfl⟩,trivial⟩,⟨⟨_,_,_,Tryz.underlying157,rfl,Tryz.sizeOf2,rfl⟩,⟨_,_,_,Tryz.underlying157,rfl,Tryz.sizeOf155,rfl⟩,trivial⟩,⟨⟨_,_,_,Tryz.underlying161,rfl,Tryz.sizeOf3,rfl⟩,⟨_,_,_,Tryz.underlying161,rfl,Tryz.sizeOf3,rfl⟩,⟨_,_,_,Tryz.underlying161,rfl,Tryz.sizeOf157,rfl⟩,trivial⟩,⟨⟨_,_,_,Tryz.underlying183,rfl,Tryz.sizeOf37,rfl⟩,⟨_,_,_,Tryz.underlying183,rfl,Tryz.sizeOf25,rfl⟩,⟨_,_,_,Tryz.underlying183,rfl,Tryz.sizeOf54,rfl⟩,⟨_,_,_,Tryz.underlying183,rfl,Tryz.sizeOf109,rfl⟩,⟨_,_,_,Tryz.underlying183,rfl,Tryz.sizeOf109,rfl⟩,⟨_,_,_,Tryz.underlying183,rfl,Tryz.sizeOf181,rfl⟩,⟨_,_,_,Tryz.underlying183,rfl,Tryz.sizeOf4,rfl⟩,trivial⟩,⟨⟨_,_,_,Tryz.underlying193,rfl,Tryz.sizeOf3,rfl⟩,⟨_,_,_,Tryz.underlying193,rfl,Tryz.sizeOf109,rfl⟩,trivial⟩,⟨⟨_,_,_,Tryz.underlying196,rfl,Tryz.sizeOf191,rfl⟩,⟨_,_,_,Tryz.underlying196,rfl,Tryz.sizeOf3,rfl⟩,⟨_,_,_,Tryz.underlying196,rfl,Tryz.sizeOf3,rfl⟩,⟨_,_,_,Tryz.underlying196,rfl,Tryz.sizeOf3,rfl⟩,⟨_,_,_,Tryz.underlying196,rfl,Tryz.sizeOf3,rfl⟩,⟨_,_,_,Tryz.underlying196,rfl,Tryz.sizeOf193,rfl⟩,⟨_,_,_,Tryz.underlying196,rfl,Tryz.sizeOf194,rfl⟩,⟨_,_,_,Tryz.underlying196,rfl,Tryz.sizeOf54,rfl⟩,⟨_,_,_,Tryz.underlying196,rfl,Tryz.sizeOf2,rfl⟩,⟨_,_,_,Tryz.underlying196,rfl,Tryz.sizeOf4,rfl⟩,trivial⟩,⟨⟨_,_,_,Tryz.underlying199,rfl,Tryz.sizeOf3,rfl⟩,⟨_,_,_,Tryz.underlying199,rfl,Tryz.sizeOf3,rfl⟩,⟨_,_,_,Tryz.underlying199,rfl,Tryz.sizeOf3,rfl⟩,⟨_,_,_,Tryz.underlying199,rfl,Tryz.sizeOf125,rfl⟩,trivial⟩,⟨⟨_,_,_,Tryz.underlying213,rfl,Tryz.sizeOf3,rfl⟩,⟨_,_,_,Tryz.underlying213,rfl,Tryz.sizeOf30,rfl⟩,⟨_,_,_,Tryz.underlying213,rfl,Tryz.sizeOf210,rfl⟩,⟨_,_,_,Tryz.underlying213,rfl,Tryz.sizeOf211,rfl⟩,⟨_,_,_,Tryz.underlying213,rfl,Tryz.sizeOf3,rfl⟩,⟨_,_,_,Tryz.underlying213,rfl,Tryz.sizeOf3,rfl⟩,trivial⟩,trivial⟩
section
variable {n:FrK} {E E1 E' E2:DG} {S:World→Prop} {Q Q':Exit→Act→World→Prop} {ops:Array Oper} {l l' l2:List Oper} {z:Code} {id:Nat}
theorem _root_.Go.Fw.Ops.ks (j:Nat) (h:iI tbP ops n j l E=some (l',E')) (g:Ops Tryz.prog ops l' n E' S Q):Ops Tryz.prog ops l n E S Q:=.ksT zW j h g
theorem _root_.Go.Fw.Ops.nk (ks:List Nat) (j:Nat) (h:(VD ks E [],(fun a w=>Q .normal a w),iI tbP l2.toArray n j l2 E')=(some E',(fun a w=>(Code.seq (.region id l2.toArray false) z).wpIn (RK n) 0 Tryz.prog Q' a w),some (l',E2))) (g:Ops Tryz.prog l2.toArray l' n E2 S (Exit.then (z.wpIn (RK n) 0 Tryz.prog Q') Q')):Ops Tryz.prog ops [] n E S Q:=.nkT zW ks j h g
theorem _root_.Go.Fw.Cod.sk (j:Nat) (h:iI tbP l.toArray n j l E=some (l',E')) (g:Ops Tryz.prog l.toArray l' n E' S (Exit.then (z.wpIn (RK n) 0 Tryz.prog Q) Q)):Cod Tryz.prog (.seq (.region id l.toArray false) z) n E S Q:=.skT zW j h g
theorem _root_.Go.Fw.Ops.kn (j:Nat) (ks:List Nat) (h:(iI tbP ops n j l E,VD ks E1 [],fun a w=>Q .normal a w)=(some ([],E1),some E',fun a w=>z.wpIn (RK n) 0 Tryz.prog Q' a w)) (g:Cod Tryz.prog z n E' S Q'):Ops Tryz.prog ops l n E S Q:=.knT zW j ks h g
variable {w0:World} {M:Nat→Prop} {I0 I:IH} {cs cs':List (Option Nat)} {dn dn':HE} {X X' pend pd':List Nat} {asn:List AS} {L:Sh} {Sd:List HA→World→Prop} {g fs:List Nat} {A B:List (Option (Nat×Value))}
theorem _root_.Go.Fw.DrawD.fk (k:Nat) (h:AbJ tbP ops n E k cs dn X pend=some (cs',dn',X',pd')) (kk:DrawD Tryz.prog ops n Q w0 M I0 E cs' dn' X' pd' asn I L):DrawD Tryz.prog ops n Q w0 M I0 E cs dn X pend asn I L:=.fkT zW k h kk
theorem _root_.Go.Fw.PendL.ck (k:Nat) (h:AbL tbP ops n E dn k fs=some (g,A,B)) (hAB:A=B) (kk:PendL Tryz.prog ops n E dn Sd g):PendL Tryz.prog ops n E dn Sd fs:=.ckT zW k h hAB kk
end
theorem IN2:Tryz.prog.info? 2=some Tryz.t2:=by kernel_rfl
theorem IN3:Tryz.prog.info? 3=some Tryz.t3:=by kernel_rfl
theorem IN4:Tryz.prog.info? 4=some Tryz.t4:=by kernel_rfl
theorem AjL:Tryz.prog.info? 24=some Tryz.t24:=by kernel_rfl
theorem oA:(Tryz.prog.fieldsOf 24).toList.all (fun f=>(Tryz.prog.info? f.type).isSome)=true:=by kernel_rfl
theorem AjM:Tryz.prog.info? 25=some Tryz.t25:=by kernel_rfl
theorem Ai4:Tryz.prog.info? 30=some Tryz.t30:=by kernel_rfl
theorem AhA:Tryz.prog.info? 33=some Tryz.t33:=by kernel_rfl
theorem PO:(Tryz.prog.fieldsOf 33).toList.all (fun f=>(Tryz.prog.info? f.type).isSome)=true:=by kernel_rfl
theorem AjN:Tryz.prog.info? 40=some Tryz.t40:=by kernel_rfl
theorem AeB:(Tryz.prog.fieldsOf 40).toList.all (fun f=>(Tryz.prog.info? f.type).isSome)=true:=by kernel_rfl
theorem AjO:Tryz.prog.info? 47=some Tryz.t47:=by kernel_rfl
theorem AjP:(Tryz.prog.fieldsOf 47).toList.all (fun f=>(Tryz.prog.info? f.type).isSome)=true:=by kernel_rfl
theorem rE:Tryz.prog.info? 49=some Tryz.t49:=by kernel_rfl
theorem oB:(Tryz.prog.fieldsOf 49).toList.all (fun f=>(Tryz.prog.info? f.type).isSome)=true:=by kernel_rfl
theorem AjQ:Tryz.prog.info? 54=some Tryz.t54:=by kernel_rfl
theorem AjR:Tryz.prog.info? 76=some Tryz.t76:=by kernel_rfl
theorem Ai5:Tryz.prog.info? 99=some Tryz.t99:=by kernel_rfl
theorem lX:Tryz.prog.info? 103=some Tryz.t103:=by kernel_rfl
theorem rF:(Tryz.prog.fieldsOf 103).toList.all (fun f=>(Tryz.prog.info? f.type).isSome)=true:=by kernel_rfl
theorem AfQ:Tryz.prog.info? 112=some Tryz.t112:=by kernel_rfl
theorem AhB:(Tryz.prog.fieldsOf 112).toList.all (fun f=>(Tryz.prog.info? f.type).isSome)=true:=by kernel_rfl
theorem AiP:Tryz.prog.info? 113=some Tryz.t113:=by kernel_rfl
theorem AiQ:Tryz.prog.info? 121=some Tryz.t121:=by kernel_rfl
theorem AhC:(Tryz.prog.fieldsOf 121).toList.all (fun f=>(Tryz.prog.info? f.type).isSome)=true:=by kernel_rfl
theorem AhD:Tryz.prog.info? 122=some Tryz.t122:=by kernel_rfl
theorem AiR:Tryz.prog.info? 127=some Tryz.t127:=by kernel_rfl
theorem AhE:(Tryz.prog.fieldsOf 127).toList.all (fun f=>(Tryz.prog.info? f.type).isSome)=true:=by kernel_rfl
theorem AhF:Tryz.prog.info? 129=some Tryz.t129:=by kernel_rfl
theorem AhG:(Tryz.prog.fieldsOf 129).toList.all (fun f=>(Tryz.prog.info? f.type).isSome)=true:=by kernel_rfl
theorem AiS:Tryz.prog.info? 134=some Tryz.t134:=by kernel_rfl
theorem AiT:(Tryz.prog.fieldsOf 134).toList.all (fun f=>(Tryz.prog.info? f.type).isSome)=true:=by kernel_rfl
theorem AiU:Tryz.prog.info? 135=some Tryz.t135:=by kernel_rfl
theorem AiV:Tryz.prog.info? 139=some Tryz.t139:=by kernel_rfl
theorem AiW:(Tryz.prog.fieldsOf 139).toList.all (fun f=>(Tryz.prog.info? f.type).isSome)=true:=by kernel_rfl
theorem AiX:Tryz.prog.info? 141=some Tryz.t141:=by kernel_rfl
theorem AfR:Tryz.prog.info? 155=some Tryz.t155:=by kernel_rfl
theorem AiY:Tryz.prog.info? 157=some Tryz.t157:=by kernel_rfl
theorem bI:(Tryz.prog.fieldsOf 157).toList.all (fun f=>(Tryz.prog.info? f.type).isSome)=true:=by kernel_rfl
theorem rG:Tryz.prog.info? 161=some Tryz.t161:=by kernel_rfl
theorem AfS:(Tryz.prog.fieldsOf 161).toList.all (fun f=>(Tryz.prog.info? f.type).isSome)=true:=by kernel_rfl
theorem AiZ:Tryz.prog.info? 169=some Tryz.t169:=by kernel_rfl
theorem AhH:Tryz.prog.info? 181=some Tryz.t181:=by kernel_rfl
theorem Aj0:Tryz.prog.info? 183=some Tryz.t183:=by kernel_rfl
theorem Aj1:(Tryz.prog.fieldsOf 183).toList.all (fun f=>(Tryz.prog.info? f.type).isSome)=true:=by kernel_rfl
theorem AhI:Tryz.prog.info? 196=some Tryz.t196:=by kernel_rfl
theorem rH:(Tryz.prog.fieldsOf 196).toList.all (fun f=>(Tryz.prog.info? f.type).isSome)=true:=by kernel_rfl
theorem Aj2:Tryz.prog.info? 199=some Tryz.t199:=by kernel_rfl
theorem Aj3:(Tryz.prog.fieldsOf 199).toList.all (fun f=>(Tryz.prog.info? f.type).isSome)=true:=by kernel_rfl
theorem Aj4:Tryz.prog.info? 206=some Tryz.t206:=by kernel_rfl
theorem iO:(Tryz.prog.fieldsOf 206).toList.all (fun f=>(Tryz.prog.info? f.type).isSome)=true:=by kernel_rfl
theorem Aj5:Tryz.prog.info? 213=some Tryz.t213:=by kernel_rfl
theorem AhJ:(Tryz.prog.fieldsOf 213).toList.all (fun f=>(Tryz.prog.info? f.type).isSome)=true:=by kernel_rfl
theorem AhK:Tryz.prog.info? 289=some Tryz.t289:=by kernel_rfl
theorem Aj6:(Tryz.prog.fieldsOf 289).toList.all (fun f=>(Tryz.prog.info? f.type).isSome)=true:=by kernel_rfl
theorem Aj7:Tryz.prog.info? 351=some Tryz.t351:=by kernel_rfl
theorem Ai6:Tryz.prog.info? 3=some Tryz.t3:=by kernel_rfl
theorem Ai7 (x y:Int×Int×Int) (w:World):(Op.equal 99 (.agg #[.int .i64 x.1,.int .i64 x.2.1,.int .i64 x.2.2]) (.agg #[.int .i64 y.1,.int .i64 y.2.1,.int .i64 y.2.2])).run Tryz.prog w=.ok (x==y) w:=Ae8 9998 Tryz.underlying99 Ai6 Tryz.underlying3 (by kernel_rfl) Tryz.isAgg3 x y w
theorem Ai8 (o:BinOp) (x y:Operand) (u v:Array Value) (w:World):(eqGuard o 99 x y (.agg u) (.agg v)).run Tryz.prog w=.ok () w:=run_eqGuard_agg w o 99 x y u v (by kernel_rfl)
theorem AbQ (x y:AP) (w:World):(Op.equal 157 (.agg (HK x).toArray) (.agg (HK y).toArray)).run Tryz.prog w=.ok (x==y) w:=by
  refine Eq.trans ((eqS (k:=9999) Tryz.underlying157 (by kernel_rfl) (eqC (by decide) Tryz.isAgg2 rfl rfl (eqI (k:=9998) Tryz.underlying2) (eqC (by decide) Tryz.isAgg155 rfl rfl (eqI (k:=9998) Tryz.underlying155) eqN))) w) (congrArg (fun b=>Result.ok b w) (Bool.eq_iff_iff.2 ?_))
  obtain ⟨x_0,x_1⟩:=x; obtain ⟨y_0,y_1⟩:=y
  simp [and_assoc]
theorem AbR (o:BinOp) (x y:Operand) (u v:Array Value) (w:World):(eqGuard o 157 x y (.agg u) (.agg v)).run Tryz.prog w=.ok () w:=run_eqGuard_agg w o 157 x y u v (by kernel_rfl)
theorem Aj8 (x y:AJ) (w:World):(Op.equal 161 (.agg (OX x).toArray) (.agg (OX y).toArray)).run Tryz.prog w=.ok (x==y) w:=by
  refine Eq.trans ((eqS (k:=9999) Tryz.underlying161 (by kernel_rfl) (eqC (by decide) Tryz.isAgg3 rfl rfl (eqI (k:=9998) Tryz.underlying3) (eqC (by decide) Tryz.isAgg3 rfl rfl (eqI (k:=9998) Tryz.underlying3) (eqA (by decide) Tryz.isAgg157 Tryz.sizeOf157 (eqS (k:=9998) Tryz.underlying157 (by kernel_rfl) (eqC (by decide) Tryz.isAgg2 rfl rfl (eqI (k:=9997) Tryz.underlying2) (eqC (by decide) Tryz.isAgg155 rfl rfl (eqI (k:=9997) Tryz.underlying155) eqN))) eqN)))) w) (congrArg (fun b=>Result.ok b w) (Bool.eq_iff_iff.2 ?_))
  obtain ⟨x_0,x_1,x_2⟩:=x; obtain ⟨x_2_0,x_2_1⟩:=x_2; obtain ⟨y_0,y_1,y_2⟩:=y; obtain ⟨y_2_0,y_2_1⟩:=y_2
  simp [and_assoc]
theorem Aj9 (o:BinOp) (x y:Operand) (u v:Array Value) (w:World):(eqGuard o 161 x y (.agg u) (.agg v)).run Tryz.prog w=.ok () w:=run_eqGuard_agg w o 161 x y u v (by kernel_rfl)
theorem AhL (x y:AW) (w:World):(Op.equal 206 (.agg (UV x).toArray) (.agg (UV y).toArray)).run Tryz.prog w=.ok (x==y) w:=by
  refine Eq.trans ((eqS (k:=9999) Tryz.underlying206 (by kernel_rfl) (eqC (by decide) Tryz.isAgg191 rfl rfl (eqI (k:=9998) Tryz.underlying191) (eqC (by decide) Tryz.isAgg3 rfl rfl (eqI (k:=9998) Tryz.underlying3) eqN))) w) (congrArg (fun b=>Result.ok b w) (Bool.eq_iff_iff.2 ?_))
  obtain ⟨x_0,x_1⟩:=x; obtain ⟨y_0,y_1⟩:=y
  simp [and_assoc]
theorem AjA (o:BinOp) (x y:Operand) (u v:Array Value) (w:World):(eqGuard o 206 x y (.agg u) (.agg v)).run Tryz.prog w=.ok () w:=run_eqGuard_agg w o 206 x y u v (by kernel_rfl)
theorem IX3:Tryz.prog.info? 3=some Tryz.t3:=by kernel_rfl
theorem VO:X4 Tryz.prog 169 CP:=Ae0 Tryz.underlying169 IX3 Tryz.underlying3 (by kernel_rfl) Tryz.isAgg3 Tryz.sizeOf3
theorem lY:X4 Tryz.prog 206 EY:=Ae7 (fun _=>rfl) Tryz.underlying206 Tryz.underlying191 Tryz.underlying3 rfl rfl Tryz.isAgg191 Tryz.isAgg3 (fun k x w=>AhL k x w)
abbrev gS (Q:Bool→Prop):Value→Prop:=fun v=>∃ r,v=.bool r∧Q r
abbrev o1_ (Q:AP→Prop):Value→Prop:=fun v=>∃ r,v=.agg (HK r).toArray∧Q r
abbrev kS (Q:Int→Prop):Value→Prop:=fun v=>∃ r,v=.int .i64 r∧Q r
abbrev o3_ (Q:(Int×Bool)→Prop):Value→Prop:=fun v=>∃ r,v=.tuple #[.int .i64 r.1,.bool r.2]∧Q r
abbrev o4_ (Q:AM→Prop):Value→List HA→Prop:=fun v l=>∃ r p4 c5,v=.agg #[.int .i64 r.N,.slice p4 r.Edges.length c5]∧l=[OwnSl BZ 49 p4 c5 r.Edges]∧Q r
abbrev o5_ (Q:AM→Prop):IH→Value→Prop:=fun I_ v=>∃ r p4 c5,v=.agg #[.int .i64 r.N,.slice p4 r.Edges.length c5]∧RepSl BZ I_ p4 c5 r.Edges∧Q r
abbrev o6_ (Q:Rows→Prop):Value→List HA→Prop:=fun v l=>∃ r p1 c2 p4 c5 p7 c8,v=.agg #[.int .i64 r.Rows,.int .i64 r.Cols,.slice p1 r.Start.length c2,.slice p4 r.Col.length c5,.slice p7 r.Val.length c8]∧l=[OwnSl AE 3 p1 c2 r.Start,OwnSl AE 3 p4 c5 r.Col,OwnSl AE 2 p7 c8 r.Val]∧Q r
abbrev o7_ (Q:Rows→Prop):IH→Value→Prop:=fun I_ v=>∃ r p4 c5 p7 c8 p10 c11,v=.agg #[.int .i64 r.Rows,.int .i64 r.Cols,.slice p4 r.Start.length c5,.slice p7 r.Col.length c8,.slice p10 r.Val.length c11]∧RepSl AE I_ p4 c5 r.Start∧RepSl AE I_ p7 c8 r.Col∧RepSl AE I_ p10 c11 r.Val∧Q r
abbrev o8_ (Q:(Rows×Int)→Prop):IH→Value→Prop:=fun I_ v=>∃ r p4 c5 p7 c8 p10 c11,v=.tuple #[.agg #[.int .i64 r.1.Rows,.int .i64 r.1.Cols,.slice p4 r.1.Start.length c5,.slice p7 r.1.Col.length c8,.slice p10 r.1.Val.length c11],.int .i64 r.2]∧RepSl AE I_ p4 c5 r.1.Start∧RepSl AE I_ p7 c8 r.1.Col∧RepSl AE I_ p10 c11 r.1.Val∧Q r
abbrev o9_ (Q:Rows→Prop):IH→Value→Prop:=fun I_ v=>∃ r p1 c2 p4 c5 p7 c8,v=.agg #[.int .i64 r.Rows,.int .i64 r.Cols,.slice p1 r.Start.length c2,.slice p4 r.Col.length c5,.slice p7 r.Val.length c8]∧RepSl AE I_ p1 c2 r.Start∧RepSl AE I_ p4 c5 r.Col∧RepSl AE I_ p7 c8 r.Val∧Q r
abbrev Ai9 (Q:(List BA)→Prop):IH→Value→Prop:=fun I_ v=>∃ r p1 c2,v=.slice p1 r.length c2∧RepSl BX I_ p1 c2 r∧Q r
abbrev Ag7 (Q:Rows→Prop):IH→Value→Prop:=fun I_ v=>∃ r p10 c11 p13 c14 p16 c17,v=.agg #[.int .i64 r.Rows,.int .i64 r.Cols,.slice p10 r.Start.length c11,.slice p13 r.Col.length c14,.slice p16 r.Val.length c17]∧RepSl AE I_ p10 c11 r.Start∧RepSl AE I_ p13 c14 r.Col∧RepSl AE I_ p16 c17 r.Val∧Q r
abbrev Ag8 (Q:(Int×Int)→Prop):Value→Prop:=fun v=>∃ r,v=.tuple #[.int .i64 r.1,.int .i64 r.2]∧Q r
abbrev AhM (Q:((List Int)×(List Int))→Prop):IH→Value→Prop:=fun I_ v=>∃ r p10 c11 p13 c14,v=.tuple #[.slice p10 r.1.length c11,.slice p13 r.2.length c14]∧RepSl AE I_ p10 c11 r.1∧RepSl AE I_ p13 c14 r.2∧Q r
abbrev AiA (Q:(List DS)→Prop):IH→Value→Prop:=fun I_ v=>∃ r p10 c11,v=.slice p10 r.length c11∧RepSl QH I_ p10 c11 r∧Q r
abbrev AhN (Q:(Int×Int)→Prop):Value→Prop:=fun v=>∃ r,v=.agg #[.int .i64 r.1,.int .i64 r.2]∧Q r
abbrev AiB (Q:(List AD)→Prop):IH→Value→Prop:=fun I_ v=>∃ r p10 c11,v=.slice p10 r.length c11∧RepSl BP I_ p10 c11 r∧Q r
abbrev AiC (Q:(List AD)→Prop):IH→Value→Prop:=fun I_ v=>∃ r p4 c5,v=.slice p4 r.length c5∧RepSl BP I_ p4 c5 r∧Q r
abbrev AiD (Q:BL→Prop):IH→Value→Prop:=fun I_ v=>∃ r p10 c11 p13 c14 p16 c17,v=.agg #[.int .i64 r.Kind,.int .i64 r.From,.int .i64 r.To,.int .i64 r.Seq,.int .i64 r.Round,.int .i64 r.Vec.N,.slice p10 r.Vec.Items.length c11,.slice p13 r.Sums.length c14,.slice p16 r.Triples.length c17,.int .i64 r.N,.bool r.Over]∧RepSl QH I_ p10 c11 r.Vec.Items∧RepSl dS I_ p13 c14 r.Sums∧RepSl BP I_ p16 c17 r.Triples∧Q r
abbrev Ag9 (Q:Int→Prop):Value→Prop:=fun v=>∃ r,v=.int .u64 r∧Q r
abbrev AiE (Q:((List AJ)×Int)→Prop):IH→Value→Prop:=fun I_ v=>∃ r p28 c29,v=.tuple #[.slice p28 r.1.length c29,.int .i64 r.2]∧RepSl CF I_ p28 c29 r.1∧Q r
abbrev AiF (Q:((List AJ)×Int)→Prop):IH→Value→Prop:=fun I_ v=>∃ r p4 c5,v=.tuple #[.slice p4 r.1.length c5,.int .i64 r.2]∧RepSl CF I_ p4 c5 r.1∧Q r
abbrev AiG (Q:(Rows×Bool×Int)→Prop):IH→Value→Prop:=fun I_ v=>∃ r p31 c32 p34 c35 p37 c38,v=.tuple #[.agg #[.int .i64 r.1.Rows,.int .i64 r.1.Cols,.slice p31 r.1.Start.length c32,.slice p34 r.1.Col.length c35,.slice p37 r.1.Val.length c38],.bool r.2.1,.int .i64 r.2.2]∧RepSl AE I_ p31 c32 r.1.Start∧RepSl AE I_ p34 c35 r.1.Col∧RepSl AE I_ p37 c38 r.1.Val∧Q r
abbrev AjS (Q:(AL×Bool)→Prop):Value→Prop:=fun v=>∃ r,v=.tuple #[.agg (JQ r.1).toArray,.bool r.2]∧Q r
abbrev AiH (Q:(BQ×Int)→Prop):IH→Value→Prop:=fun I_ v=>∃ r p4 c5 p7 c8 p10 c11 p13 c14 p16 c17 p19 c20 p22 c23 p25 c26 p28 c29,v=.tuple #[.agg #[.int .i64 r.1.Ring,.int .i64 r.1.A.Rows,.int .i64 r.1.A.Cols,.slice p4 r.1.A.Start.length c5,.slice p7 r.1.A.Col.length c8,.slice p10 r.1.A.Val.length c11,.int .i64 r.1.B.Rows,.int .i64 r.1.B.Cols,.slice p13 r.1.B.Start.length c14,.slice p16 r.1.B.Col.length c17,.slice p19 r.1.B.Val.length c20,.int .i64 r.1.Mask.Rows,.int .i64 r.1.Mask.Cols,.slice p22 r.1.Mask.Start.length c23,.slice p25 r.1.Mask.Col.length c26,.slice p28 r.1.Mask.Val.length c29,.int .i64 r.1.R,.int .i64 r.1.C,.int .i64 r.1.Room],.int .i64 r.2]∧RepSl AE I_ p4 c5 r.1.A.Start∧RepSl AE I_ p7 c8 r.1.A.Col∧RepSl AE I_ p10 c11 r.1.A.Val∧RepSl AE I_ p13 c14 r.1.B.Start∧RepSl AE I_ p16 c17 r.1.B.Col∧RepSl AE I_ p19 c20 r.1.B.Val∧RepSl AE I_ p22 c23 r.1.Mask.Start∧RepSl AE I_ p25 c26 r.1.Mask.Col∧RepSl AE I_ p28 c29 r.1.Mask.Val∧Q r
abbrev AiI (Q:(List (Int×Int×Int))→Prop):IH→Value→Prop:=fun I_ v=>∃ r p4 c5,v=.slice p4 r.length c5∧RepSl UC I_ p4 c5 r∧Q r
abbrev AhO (Q:(List Int)→Prop):IH→Value→Prop:=fun I_ v=>∃ r p4 c5,v=.slice p4 r.length c5∧RepSl AE I_ p4 c5 r∧Q r
abbrev uO:=@Tryz.underlying2
abbrev Z8:=@Tryz.underlying3
abbrev un5:=@Tryz.underlying5
abbrev FL:=@Tryz.underlying22
abbrev fV:=@Tryz.underlying24
abbrev AjT:=@Tryz.underlying25
abbrev rI:=@Tryz.underlying26
abbrev BT:=@Tryz.underlying30
abbrev iP:=@Tryz.underlying31
abbrev PP:=@Tryz.underlying33
abbrev AeC:=@Tryz.underlying40
abbrev AjU:=@Tryz.underlying47
abbrev oC:=@Tryz.underlying49
abbrev AjV:=@Tryz.underlying53
abbrev LZ:=@Tryz.underlying54
abbrev rJ:=@Tryz.underlying60
abbrev AjW:=@Tryz.underlying63
abbrev AjX:=@Tryz.underlying71
abbrev EK:=@Tryz.underlying76
abbrev oD:=@Tryz.underlying90
abbrev zX:=@Tryz.underlying99
abbrev rK:=@Tryz.underlying103
abbrev bJ:=@Tryz.underlying109
abbrev AjB:=@Tryz.underlying113
abbrev bK:=@Tryz.underlying116
abbrev iQ:=@Tryz.underlying118
abbrev SU:=@Tryz.underlying119
abbrev lZ:=@Tryz.underlying124
abbrev bL:=@Tryz.underlying125
abbrev AjC:=@Tryz.underlying131
abbrev AjD:=@Tryz.underlying132
abbrev AjE:=@Tryz.underlying134
abbrev AjF:=@Tryz.underlying136
abbrev AjG:=@Tryz.underlying137
abbrev AjH:=@Tryz.underlying141
abbrev iR:=@Tryz.underlying146
abbrev QJ:=@Tryz.underlying155
abbrev bM:=@Tryz.underlying157
abbrev NJ:=@Tryz.underlying169
abbrev QK:=@Tryz.underlying181
abbrev xR:=@Tryz.underlying194
abbrev rL:=@Tryz.underlying196
abbrev iS:=@Tryz.underlying200
abbrev iT:=@Tryz.underlying206
abbrev mA:=@Tryz.underlying211
abbrev bN:=@Tryz.underlying227
abbrev bO:=@Tryz.underlying236
abbrev AjI:=@Tryz.underlying240
abbrev mB:=@Tryz.underlying272
abbrev SV:=@Tryz.underlying290
abbrev fD:=@Tryz.underlying313
abbrev KS:=@Tryz.underlying351
abbrev sz2:=@Tryz.sizeOf2
abbrev FD:=@Tryz.sizeOf3
abbrev sz5:=@Tryz.sizeOf5
abbrev DR:=@Tryz.sizeOf24
abbrev iU:=@Tryz.sizeOf30
abbrev BI:=@Tryz.sizeOf33
abbrev TU:=@Tryz.sizeOf40
abbrev fW:=@Tryz.sizeOf47
abbrev EO:=@Tryz.sizeOf49
abbrev AbS:=@Tryz.sizeOf76
abbrev kV:=@Tryz.sizeOf99
abbrev MK:=@Tryz.sizeOf103
abbrev AfT:=@Tryz.sizeOf125
abbrev iV:=@Tryz.sizeOf129
abbrev FP:=@Tryz.sizeOf155
abbrev BG:=@Tryz.sizeOf157
abbrev BV:=@Tryz.sizeOf161
abbrev HB:=@Tryz.sizeOf169
abbrev EW:=@Tryz.sizeOf196
abbrev ZT:=@Tryz.isAgg2
abbrev BH:=@Tryz.isAgg3
abbrev ia5:=@Tryz.isAgg5
abbrev SW:=@Tryz.isAgg22
abbrev FQ:=@Tryz.isAgg24
abbrev IX:=@Tryz.isAgg30
abbrev AbT:=@Tryz.isAgg31
abbrev CM:=@Tryz.isAgg33
abbrev oE:=@Tryz.isAgg37
abbrev bP:=@Tryz.isAgg40
abbrev vJ:=@Tryz.isAgg47
abbrev QC:=@Tryz.isAgg49
abbrev Z9:=@Tryz.isAgg116
abbrev KF:=@Tryz.isAgg122
abbrev ZA:=@Tryz.isAgg125
abbrev AjJ:=@Tryz.isAgg131
abbrev EH:=@Tryz.isAgg155
abbrev CE:=@Tryz.isAgg157
abbrev IF:=@Tryz.isAgg161
abbrev LD:=@Tryz.isAgg169
abbrev PQ:=@Tryz.isAgg196
abbrev mC:=@Tryz.zeroValue3
abbrev PR:=@Tryz.zeroValue24
abbrev GD:=@Tryz.zeroValue33
abbrev oF:=@Tryz.zeroValue40
abbrev AhP:=@Tryz.zeroValue47
abbrev MA:=@Tryz.zeroValue49
abbrev vK:=@Tryz.zeroValue99
abbrev UL:=@Tryz.zeroValue103
abbrev xS:=@Tryz.zeroValue112
abbrev AbU:=@Tryz.zeroValue129
abbrev FE:=@Tryz.zeroValue157
abbrev fE:=@Tryz.zeroValue161
abbrev LF:=@Tryz.zeroValue169
abbrev AjK:=@Tryz.zeroValue183
abbrev SX:=@Tryz.zeroValue196
abbrev bQ:=@Tryz.zeroValue206
abbrev mD:=@Tryz.zeroValue351
end Go.Proofs.YtbohadngdkjljaaGreat
