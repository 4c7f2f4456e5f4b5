/- Closed facts of the program (printed by a program of ours). -/
import Derived.Test.YtbohadngdkjljaaGreatT
import Derived.Test.YtbohadngdkjljaaGreatFwL
import Derived.Test.YtbohadngdkjljaaGreatChecked
import Derived.Laws.StructEq
import Derived.KernelRfl
namespace Go.Proofs.YtbohadngdkjljaaGreat
open Go Go.Fw
set_option linter.unusedVariables false
set_option linter.unusedSimpArgs false
set_option maxRecDepth 8000
set_option maxHeartbeats 1000000
theorem MX:Tryz.prog.follows .mixedOrders=true:=by kernel_rfl
abbrev tbP:List (Nat×List Nat):=[(24,[0,1]),(28,[0,1]),(33,[0,1,2,3,4]),(40,[0,1,6,11,16,17,18]),(47,[0,1,2,3]),(49,[0,1,2]),(56,[0,1,4,5,6]),(58,[0,7,8,9]),(85,[0,2,3,4]),(103,[0,1,2]),(112,[0,1]),(121,[0,19,20,21]),(127,[0,1,2,7,8,9,10]),(129,[0,1,2,3]),(134,[0,19,20,21]),(139,[0,1,2,7,8,9,10,11,12,13]),(157,[0,1]),(161,[0,1,2]),(183,[0,1,3,4,5,6,7]),(193,[0,1]),(196,[0,1,2,3,4,5,7,8,9,10]),(199,[0,1,2,3]),(213,[0,1,2,3,4,5])]
theorem Aa4:AllOk Tryz.prog tbP:=
 ⟨⟨⟨_,_,_,Tryz.underlying24,rfl,Tryz.sizeOf3,rfl⟩,⟨_,_,_,Tryz.underlying24,rfl,Tryz.sizeOf22,rfl⟩,trivial⟩,⟨⟨_,_,_,Tryz.underlying28,rfl,Tryz.sizeOf26,rfl⟩,⟨_,_,_,Tryz.underlying28,rfl,Tryz.sizeOf5,rfl⟩,trivial⟩,⟨⟨_,_,_,Tryz.underlying33,rfl,Tryz.sizeOf3,rfl⟩,⟨_,_,_,Tryz.underlying33,rfl,Tryz.sizeOf3,rfl⟩,⟨_,_,_,Tryz.underlying33,rfl,Tryz.sizeOf30,rfl⟩,⟨_,_,_,Tryz.underlying33,rfl,Tryz.sizeOf30,rfl⟩,⟨_,_,_,Tryz.underlying33,rfl,Tryz.sizeOf31,rfl⟩,trivial⟩,⟨⟨_,_,_,Tryz.underlying40,rfl,Tryz.sizeOf37,rfl⟩,⟨_,_,_,Tryz.underlying40,rfl,Tryz.sizeOf33,rfl⟩,⟨_,_,_,Tryz.underlying40,rfl,Tryz.sizeOf33,rfl⟩,⟨_,_,_,Tryz.underlying40,rfl,Tryz.sizeOf33,rfl⟩,⟨_,_,_,Tryz.underlying40,rfl,Tryz.sizeOf3,rfl⟩,⟨_,_,_,Tryz.underlying40,rfl,Tryz.sizeOf3,rfl⟩,⟨_,_,_,Tryz.underlying40,rfl,Tryz.sizeOf3,rfl⟩,trivial⟩,⟨⟨_,_,_,Tryz.underlying47,rfl,Tryz.sizeOf45,rfl⟩,⟨_,_,_,Tryz.underlying47,rfl,Tryz.sizeOf3,rfl⟩,⟨_,_,_,Tryz.underlying47,rfl,Tryz.sizeOf3,rfl⟩,⟨_,_,_,Tryz.underlying47,rfl,Tryz.sizeOf3,rfl⟩,trivial⟩,⟨⟨_,_,_,Tryz.underlying49,rfl,Tryz.sizeOf3,rfl⟩,⟨_,_,_,Tryz.underlying49,rfl,Tryz.sizeOf3,rfl⟩,⟨_,_,_,Tryz.underlying49,rfl,Tryz.sizeOf2,rfl⟩,trivial⟩,⟨⟨_,_,_,Tryz.underlying56,rfl,Tryz.sizeOf37,rfl⟩,⟨_,_,_,Tryz.underlying56,rfl,Tryz.sizeOf53,rfl⟩,⟨_,_,_,Tryz.underlying56,rfl,Tryz.sizeOf54,rfl⟩,⟨_,_,_,Tryz.underlying56,rfl,Tryz.sizeOf54,rfl⟩,⟨_,_,_,Tryz.underlying56,rfl,Tryz.sizeOf54,rfl⟩,trivial⟩,⟨⟨_,_,_,Tryz.underlying58,rfl,Tryz.sizeOf56,rfl⟩,⟨_,_,_,Tryz.underlying58,rfl,Tryz.sizeOf5,rfl⟩,⟨_,_,_,Tryz.underlying58,rfl,Tryz.sizeOf5,rfl⟩,⟨_,_,_,Tryz.underlying58,rfl,Tryz.sizeOf5,rfl⟩,trivial⟩,⟨⟨_,_,_,Tryz.underlying85,rfl,Tryz.sizeOf24,rfl⟩,⟨_,_,_,Tryz.underlying85,rfl,Tryz.sizeOf3,rfl⟩,⟨_,_,_,Tryz.underlying85,rfl,Tryz.sizeOf5,rfl⟩,⟨_,_,_,Tryz.underlying85,rfl,Tryz.sizeOf5,rfl⟩,trivial⟩,⟨⟨_,_,_,Tryz.underlying103,rfl,Tryz.sizeOf3,rfl⟩,⟨_,_,_,Tryz.underlying103,rfl,Tryz.sizeOf3,rfl⟩,⟨_,_,_,Tryz.underlying103,rfl,Tryz.sizeOf2,rfl⟩,trivial⟩,⟨⟨_,_,_,Tryz.underlying112,rfl,Tryz.sizeOf3,rfl⟩,⟨_,_,_,Tryz.underlying112,rfl,Tryz.sizeOf2,rfl⟩,trivial⟩,⟨⟨_,_,_,Tryz.underlying121,rfl,Tryz.sizeOf40,rfl⟩,⟨_,_,_,Tryz.underlying121,rfl,Tryz.sizeOf116,rfl⟩,⟨_,_,_,Tryz.underlying121,rfl,Tryz.sizeOf119,rfl⟩,⟨_,_,_,Tryz.underlying121,rfl,Tryz.sizeOf118,rfl⟩,trivial⟩,⟨⟨_,_,_,Tryz.underlying127,rfl,Tryz.sizeOf3,rfl⟩,⟨_,_,_,Tryz.underlying127,rfl,Tryz.sizeOf3,rfl⟩,⟨_,_,_,Tryz.underlying127,rfl,Tryz.sizeOf33,rfl⟩,⟨_,_,_,Tryz.underlying127,rfl,Tryz.sizeOf125,rfl⟩,⟨_,_,_,Tryz.underlying127,rfl,Tryz.sizeOf124,rfl⟩,⟨_,_,_,Tryz.underlying127,rfl,Tryz.sizeOf3,rfl⟩,⟨_,_,_,Tryz.underlying127,rfl,Tryz.sizeOf76,rfl⟩,trivial⟩,⟨⟨_,_,_,Tryz.underlying129,rfl,Tryz.sizeOf3,rfl⟩,⟨_,_,_,Tryz.underlying129,rfl,Tryz.sizeOf3,rfl⟩,⟨_,_,_,Tryz.underlying129,rfl,Tryz.sizeOf3,rfl⟩,⟨_,_,_,Tryz.underlying129,rfl,Tryz.sizeOf3,rfl⟩,trivial⟩,⟨⟨_,_,_,Tryz.underlying134,rfl,Tryz.sizeOf40,rfl⟩,⟨_,_,_,Tryz.underlying134,rfl,Tryz.sizeOf116,rfl⟩,⟨_,_,_,Tryz.underlying134,rfl,Tryz.sizeOf131,rfl⟩,⟨_,_,_,Tryz.underlying134,rfl,Tryz.sizeOf132,rfl⟩,trivial⟩,⟨⟨_,_,_,Tryz.underlying139,rfl,Tryz.sizeOf3,rfl⟩,⟨_,_,_,Tryz.underlying139,rfl,Tryz.sizeOf3,rfl⟩,⟨_,_,_,Tryz.underlying139,rfl,Tryz.sizeOf33,rfl⟩,⟨_,_,_,Tryz.underlying139,rfl,Tryz.sizeOf125,rfl⟩,⟨_,_,_,Tryz.underlying139,rfl,Tryz.sizeOf136,rfl⟩,⟨_,_,_,Tryz.underlying139,rfl,Tryz.sizeOf136,rfl⟩,⟨_,_,_,Tryz.underlying139,rfl,Tryz.sizeOf137,rfl⟩,⟨_,_,_,Tryz.underlying139,rfl,Tryz.sizeOf137,rfl⟩,⟨_,_,_,Tryz.underlying139,rfl,Tryz.sizeOf3,rfl⟩,⟨_,_,_,Tryz.underlying139,rfl,Tryz.sizeOf76,rfl⟩,trivial⟩,⟨⟨_,_,_,Tryz.underlying157,rfl,Tryz.sizeOf2,rfl⟩,⟨_,_,_,Tryz.underlying157,rfl,Tryz.sizeOf155,rfl⟩,trivial⟩,⟨⟨_,_,_,Tryz.underlying161,rfl,Tryz.sizeOf3,rfl⟩,⟨_,_,_,Tryz.underlying161,rfl,Tryz.sizeOf3,rfl⟩,⟨_,_,_,Tryz.underlying161,rfl,Tryz.sizeOf157,rfl⟩,trivial⟩,⟨⟨_,_,_,Tryz.underlying183,rfl,Tryz.sizeOf37,rfl⟩,⟨_,_,_,Tryz.underlying183,rfl,Tryz.sizeOf25,rfl⟩,⟨_,_,_,Tryz.underlying183,rfl,Tryz.sizeOf54,rfl⟩,⟨_,_,_,Tryz.underlying183,rfl,Tryz.sizeOf109,rfl⟩,⟨_,_,_,Tryz.underlying183,rfl,Tryz.sizeOf109,rfl⟩,⟨_,_,_,Tryz.underlying183,rfl,Tryz.sizeOf181,rfl⟩,⟨_,_,_,Tryz.underlying183,rfl,Tryz.sizeOf4,rfl⟩,trivial⟩,⟨⟨_,_,_,Tryz.underlying193,rfl,Tryz.sizeOf3,rfl⟩,⟨_,_,_,Tryz.underlying193,rfl,Tryz.sizeOf109,rfl⟩,trivial⟩,⟨⟨_,_,_,Tryz.underlying196,rfl,Tryz.sizeOf191,rfl⟩,⟨_,_,_,Tryz.underlying196,rfl,Tryz.sizeOf3,rfl⟩,⟨_,_,_,Tryz.underlying196,rfl,Tryz.sizeOf3,rfl⟩,⟨_,_,_,Tryz.underlying196,rfl,Tryz.sizeOf3,rfl⟩,⟨_,_,_,Tryz.underlying196,rfl,Tryz.sizeOf3,rfl⟩,⟨_,_,_,Tryz.underlying196,rfl,Tryz.sizeOf193,rfl⟩,⟨_,_,_,Tryz.underlying196,rfl,Tryz.sizeOf194,rfl⟩,⟨_,_,_,Tryz.underlying196,rfl,Tryz.sizeOf54,rfl⟩,⟨_,_,_,Tryz.underlying196,rfl,Tryz.sizeOf2,rfl⟩,⟨_,_,_,Tryz.underlying196,rfl,Tryz.sizeOf4,rfl⟩,trivial⟩,⟨⟨_,_,_,Tryz.underlying199,rfl,Tryz.sizeOf3,rfl⟩,⟨_,_,_,Tryz.underlying199,rfl,Tryz.sizeOf3,rfl⟩,⟨_,_,_,Tryz.underlying199,rfl,Tryz.sizeOf3,rfl⟩,⟨_,_,_,Tryz.underlying199,rfl,Tryz.sizeOf125,rfl⟩,trivial⟩,⟨⟨_,_,_,Tryz.underlying213,rfl,Tryz.sizeOf3,rfl⟩,⟨_,_,_,Tryz.underlying213,rfl,Tryz.sizeOf30,rfl⟩,⟨_,_,_,Tryz.underlying213,rfl,Tryz.sizeOf210,rfl⟩,⟨_,_,_,Tryz.underlying213,rfl,Tryz.sizeOf211,rfl⟩,⟨_,_,_,Tryz.underlying213,rfl,Tryz.sizeOf3,rfl⟩,⟨_,_,_,Tryz.underlying213,rfl,Tryz.sizeOf3,rfl⟩,trivial⟩,trivial⟩
section
variable {n:FrK} {E E1 E' E2:DH} {S:World→Prop} {Q Q':Exit→Act→World→Prop} {ops:Array Oper} {l l' l2:List Oper} {z:Code} {id:Nat}
theorem _root_.Go.Fw.Ops.ks (j:Nat) (h:iH tbP ops n j l E=some (l',E')) (g:Ops Tryz.prog ops l' n E' S Q):Ops Tryz.prog ops l n E S Q:=.ksT Aa4 j h g
theorem _root_.Go.Fw.Ops.nk (ks:List Nat) (j:Nat) (h:(VC ks E [],(fun a w=>Q .normal a w),iH tbP l2.toArray n j l2 E')=(some E',(fun a w=>(Code.seq (.region id l2.toArray false) z).wpIn (RJ n) 0 Tryz.prog Q' a w),some (l',E2))) (g:Ops Tryz.prog l2.toArray l' n E2 S (Exit.then (z.wpIn (RJ n) 0 Tryz.prog Q') Q')):Ops Tryz.prog ops [] n E S Q:=.nkT Aa4 ks j h g
theorem _root_.Go.Fw.Cod.sk (j:Nat) (h:iH tbP l.toArray n j l E=some (l',E')) (g:Ops Tryz.prog l.toArray l' n E' S (Exit.then (z.wpIn (RJ n) 0 Tryz.prog Q) Q)):Cod Tryz.prog (.seq (.region id l.toArray false) z) n E S Q:=.skT Aa4 j h g
theorem _root_.Go.Fw.Ops.kn (j:Nat) (ks:List Nat) (h:(iH tbP ops n j l E,VC ks E1 [],fun a w=>Q .normal a w)=(some ([],E1),some E',fun a w=>z.wpIn (RJ n) 0 Tryz.prog Q' a w)) (g:Cod Tryz.prog z n E' S Q'):Ops Tryz.prog ops l n E S Q:=.knT Aa4 j ks h g
variable {w0:World} {M:Nat→Prop} {I0 I:IH} {cs cs':List (Option Nat)} {dn dn':HE} {X X' pend pd':List Nat} {asn:List AS} {L:Sh} {Sd:List HA→World→Prop} {g fs:List Nat} {A B:List (Option (Nat×Value))}
theorem _root_.Go.Fw.DrawD.fk (k:Nat) (h:AbR tbP ops n E k cs dn X pend=some (cs',dn',X',pd')) (kk:DrawD Tryz.prog ops n Q w0 M I0 E cs' dn' X' pd' asn I L):DrawD Tryz.prog ops n Q w0 M I0 E cs dn X pend asn I L:=.fkT Aa4 k h kk
theorem _root_.Go.Fw.PendL.ck (k:Nat) (h:AbT tbP ops n E dn k fs=some (g,A,B)) (hAB:A=B) (kk:PendL Tryz.prog ops n E dn Sd g):PendL Tryz.prog ops n E dn Sd fs:=.ckT Aa4 k h hAB kk
end
theorem IN2:Tryz.prog.info? 2=some Tryz.t2:=by kernel_rfl
theorem IN3:Tryz.prog.info? 3=some Tryz.t3:=by kernel_rfl
theorem IN4:Tryz.prog.info? 4=some Tryz.t4:=by kernel_rfl
theorem AjR:Tryz.prog.info? 24=some Tryz.t24:=by kernel_rfl
theorem rF:(Tryz.prog.fieldsOf 24).toList.all (fun f=>(Tryz.prog.info? f.type).isSome)=true:=by kernel_rfl
theorem AjS:Tryz.prog.info? 25=some Tryz.t25:=by kernel_rfl
theorem AiA:Tryz.prog.info? 30=some Tryz.t30:=by kernel_rfl
theorem AhH:Tryz.prog.info? 33=some Tryz.t33:=by kernel_rfl
theorem PN:(Tryz.prog.fieldsOf 33).toList.all (fun f=>(Tryz.prog.info? f.type).isSome)=true:=by kernel_rfl
theorem AjT:Tryz.prog.info? 40=some Tryz.t40:=by kernel_rfl
theorem AeF:(Tryz.prog.fieldsOf 40).toList.all (fun f=>(Tryz.prog.info? f.type).isSome)=true:=by kernel_rfl
theorem AjU:Tryz.prog.info? 47=some Tryz.t47:=by kernel_rfl
theorem AjV:(Tryz.prog.fieldsOf 47).toList.all (fun f=>(Tryz.prog.info? f.type).isSome)=true:=by kernel_rfl
theorem vN:Tryz.prog.info? 49=some Tryz.t49:=by kernel_rfl
theorem vO:(Tryz.prog.fieldsOf 49).toList.all (fun f=>(Tryz.prog.info? f.type).isSome)=true:=by kernel_rfl
theorem AjW:Tryz.prog.info? 54=some Tryz.t54:=by kernel_rfl
theorem AjX:Tryz.prog.info? 76=some Tryz.t76:=by kernel_rfl
theorem AiB:Tryz.prog.info? 99=some Tryz.t99:=by kernel_rfl
theorem lZ:Tryz.prog.info? 103=some Tryz.t103:=by kernel_rfl
theorem rG:(Tryz.prog.fieldsOf 103).toList.all (fun f=>(Tryz.prog.info? f.type).isSome)=true:=by kernel_rfl
theorem AfV:Tryz.prog.info? 112=some Tryz.t112:=by kernel_rfl
theorem AhI:(Tryz.prog.fieldsOf 112).toList.all (fun f=>(Tryz.prog.info? f.type).isSome)=true:=by kernel_rfl
theorem AiV:Tryz.prog.info? 113=some Tryz.t113:=by kernel_rfl
theorem AiW:Tryz.prog.info? 121=some Tryz.t121:=by kernel_rfl
theorem AhJ:(Tryz.prog.fieldsOf 121).toList.all (fun f=>(Tryz.prog.info? f.type).isSome)=true:=by kernel_rfl
theorem AhK:Tryz.prog.info? 122=some Tryz.t122:=by kernel_rfl
theorem AiX:Tryz.prog.info? 127=some Tryz.t127:=by kernel_rfl
theorem AhL:(Tryz.prog.fieldsOf 127).toList.all (fun f=>(Tryz.prog.info? f.type).isSome)=true:=by kernel_rfl
theorem AhM:Tryz.prog.info? 129=some Tryz.t129:=by kernel_rfl
theorem AhN:(Tryz.prog.fieldsOf 129).toList.all (fun f=>(Tryz.prog.info? f.type).isSome)=true:=by kernel_rfl
theorem AiY:Tryz.prog.info? 134=some Tryz.t134:=by kernel_rfl
theorem AiZ:(Tryz.prog.fieldsOf 134).toList.all (fun f=>(Tryz.prog.info? f.type).isSome)=true:=by kernel_rfl
theorem Aj0:Tryz.prog.info? 135=some Tryz.t135:=by kernel_rfl
theorem Aj1:Tryz.prog.info? 139=some Tryz.t139:=by kernel_rfl
theorem Aj2:(Tryz.prog.fieldsOf 139).toList.all (fun f=>(Tryz.prog.info? f.type).isSome)=true:=by kernel_rfl
theorem Aj3:Tryz.prog.info? 141=some Tryz.t141:=by kernel_rfl
theorem AfW:Tryz.prog.info? 155=some Tryz.t155:=by kernel_rfl
theorem Aj4:Tryz.prog.info? 157=some Tryz.t157:=by kernel_rfl
theorem bE:(Tryz.prog.fieldsOf 157).toList.all (fun f=>(Tryz.prog.info? f.type).isSome)=true:=by kernel_rfl
theorem rH:Tryz.prog.info? 161=some Tryz.t161:=by kernel_rfl
theorem AfX:(Tryz.prog.fieldsOf 161).toList.all (fun f=>(Tryz.prog.info? f.type).isSome)=true:=by kernel_rfl
theorem Aj5:Tryz.prog.info? 169=some Tryz.t169:=by kernel_rfl
theorem AhO:Tryz.prog.info? 181=some Tryz.t181:=by kernel_rfl
theorem Aj6:Tryz.prog.info? 183=some Tryz.t183:=by kernel_rfl
theorem Aj7:(Tryz.prog.fieldsOf 183).toList.all (fun f=>(Tryz.prog.info? f.type).isSome)=true:=by kernel_rfl
theorem AhP:Tryz.prog.info? 196=some Tryz.t196:=by kernel_rfl
theorem rI:(Tryz.prog.fieldsOf 196).toList.all (fun f=>(Tryz.prog.info? f.type).isSome)=true:=by kernel_rfl
theorem Aj8:Tryz.prog.info? 199=some Tryz.t199:=by kernel_rfl
theorem Aj9:(Tryz.prog.fieldsOf 199).toList.all (fun f=>(Tryz.prog.info? f.type).isSome)=true:=by kernel_rfl
theorem AjA:Tryz.prog.info? 206=some Tryz.t206:=by kernel_rfl
theorem iM:(Tryz.prog.fieldsOf 206).toList.all (fun f=>(Tryz.prog.info? f.type).isSome)=true:=by kernel_rfl
theorem AjB:Tryz.prog.info? 213=some Tryz.t213:=by kernel_rfl
theorem AhQ:(Tryz.prog.fieldsOf 213).toList.all (fun f=>(Tryz.prog.info? f.type).isSome)=true:=by kernel_rfl
theorem AhR:Tryz.prog.info? 289=some Tryz.t289:=by kernel_rfl
theorem AjC:(Tryz.prog.fieldsOf 289).toList.all (fun f=>(Tryz.prog.info? f.type).isSome)=true:=by kernel_rfl
theorem AjD:Tryz.prog.info? 351=some Tryz.t351:=by kernel_rfl
theorem AiC:Tryz.prog.info? 3=some Tryz.t3:=by kernel_rfl
theorem AiD (x y:Int×Int×Int) (w:World):(Op.equal 99 (.agg #[.int .i64 x.1,.int .i64 x.2.1,.int .i64 x.2.2]) (.agg #[.int .i64 y.1,.int .i64 y.2.1,.int .i64 y.2.2])).run Tryz.prog w=.ok (x==y) w:=AeD 9998 Tryz.underlying99 AiC Tryz.underlying3 (by kernel_rfl) Tryz.isAgg3 x y w
theorem AiE (o:BinOp) (x y:Operand) (u v:Array Value) (w:World):(eqGuard o 99 x y (.agg u) (.agg v)).run Tryz.prog w=.ok () w:=run_eqGuard_agg w o 99 x y u v (by kernel_rfl)
theorem AbY (x y:AP) (w:World):(Op.equal 157 (.agg (HI x).toArray) (.agg (HI y).toArray)).run Tryz.prog w=.ok (x==y) w:=by
  refine Eq.trans ((eqS (k:=9999) Tryz.underlying157 (by kernel_rfl) (eqC (by decide) Tryz.isAgg2 rfl rfl (eqI (k:=9998) Tryz.underlying2) (eqC (by decide) Tryz.isAgg155 rfl rfl (eqI (k:=9998) Tryz.underlying155) eqN))) w) (congrArg (fun b=>Result.ok b w) (Bool.eq_iff_iff.2 ?_))
  obtain ⟨x_0,x_1⟩:=x; obtain ⟨y_0,y_1⟩:=y
  simp [and_assoc]
theorem AbZ (o:BinOp) (x y:Operand) (u v:Array Value) (w:World):(eqGuard o 157 x y (.agg u) (.agg v)).run Tryz.prog w=.ok () w:=run_eqGuard_agg w o 157 x y u v (by kernel_rfl)
theorem AjE (x y:AK) (w:World):(Op.equal 161 (.agg (OW x).toArray) (.agg (OW y).toArray)).run Tryz.prog w=.ok (x==y) w:=by
  refine Eq.trans ((eqS (k:=9999) Tryz.underlying161 (by kernel_rfl) (eqC (by decide) Tryz.isAgg3 rfl rfl (eqI (k:=9998) Tryz.underlying3) (eqC (by decide) Tryz.isAgg3 rfl rfl (eqI (k:=9998) Tryz.underlying3) (eqA (by decide) Tryz.isAgg157 Tryz.sizeOf157 (eqS (k:=9998) Tryz.underlying157 (by kernel_rfl) (eqC (by decide) Tryz.isAgg2 rfl rfl (eqI (k:=9997) Tryz.underlying2) (eqC (by decide) Tryz.isAgg155 rfl rfl (eqI (k:=9997) Tryz.underlying155) eqN))) eqN)))) w) (congrArg (fun b=>Result.ok b w) (Bool.eq_iff_iff.2 ?_))
  obtain ⟨x_0,x_1,x_2⟩:=x; obtain ⟨x_2_0,x_2_1⟩:=x_2; obtain ⟨y_0,y_1,y_2⟩:=y; obtain ⟨y_2_0,y_2_1⟩:=y_2
  simp [and_assoc]
theorem AjF (o:BinOp) (x y:Operand) (u v:Array Value) (w:World):(eqGuard o 161 x y (.agg u) (.agg v)).run Tryz.prog w=.ok () w:=run_eqGuard_agg w o 161 x y u v (by kernel_rfl)
theorem AhS (x y:AY) (w:World):(Op.equal 206 (.agg (UU x).toArray) (.agg (UU y).toArray)).run Tryz.prog w=.ok (x==y) w:=by
  refine Eq.trans ((eqS (k:=9999) Tryz.underlying206 (by kernel_rfl) (eqC (by decide) Tryz.isAgg191 rfl rfl (eqI (k:=9998) Tryz.underlying191) (eqC (by decide) Tryz.isAgg3 rfl rfl (eqI (k:=9998) Tryz.underlying3) eqN))) w) (congrArg (fun b=>Result.ok b w) (Bool.eq_iff_iff.2 ?_))
  obtain ⟨x_0,x_1⟩:=x; obtain ⟨y_0,y_1⟩:=y
  simp [and_assoc]
theorem AjG (o:BinOp) (x y:Operand) (u v:Array Value) (w:World):(eqGuard o 206 x y (.agg u) (.agg v)).run Tryz.prog w=.ok () w:=run_eqGuard_agg w o 206 x y u v (by kernel_rfl)
theorem IX3:Tryz.prog.info? 3=some Tryz.t3:=by kernel_rfl
theorem VL:X4 Tryz.prog 169 CP:=Ae5 Tryz.underlying169 IX3 Tryz.underlying3 (by kernel_rfl) Tryz.isAgg3 Tryz.sizeOf3
theorem mA:X4 Tryz.prog 206 EY:=AeC (fun _=>rfl) Tryz.underlying206 Tryz.underlying191 Tryz.underlying3 rfl rfl Tryz.isAgg191 Tryz.isAgg3 (fun k x w=>AhS k x w)
abbrev gR (Q:Bool→Prop):Value→Prop:=fun v=>∃ r,v=.bool r∧Q r
abbrev o1_ (Q:AP→Prop):Value→Prop:=fun v=>∃ r,v=.agg (HI r).toArray∧Q r
abbrev kV (Q:Int→Prop):Value→Prop:=fun v=>∃ r,v=.int .i64 r∧Q r
abbrev o3_ (Q:(Int×Bool)→Prop):Value→Prop:=fun v=>∃ r,v=.tuple #[.int .i64 r.1,.bool r.2]∧Q r
abbrev o4_ (Q:AL→Prop):Value→List HA→Prop:=fun v l=>∃ r p4 c5,v=.agg #[.int .i64 r.N,.slice p4 r.Edges.length c5]∧l=[OwnSl CB 49 p4 c5 r.Edges]∧Q r
abbrev o5_ (Q:AL→Prop):IH→Value→Prop:=fun I_ v=>∃ r p4 c5,v=.agg #[.int .i64 r.N,.slice p4 r.Edges.length c5]∧RepSl CB I_ p4 c5 r.Edges∧Q r
abbrev o6_ (Q:Rows→Prop):Value→List HA→Prop:=fun v l=>∃ r p1 c2 p4 c5 p7 c8,v=.agg #[.int .i64 r.Rows,.int .i64 r.Cols,.slice p1 r.Start.length c2,.slice p4 r.Col.length c5,.slice p7 r.Val.length c8]∧l=[OwnSl AE 3 p1 c2 r.Start,OwnSl AE 3 p4 c5 r.Col,OwnSl AE 2 p7 c8 r.Val]∧Q r
abbrev o7_ (Q:Rows→Prop):IH→Value→Prop:=fun I_ v=>∃ r p4 c5 p7 c8 p10 c11,v=.agg #[.int .i64 r.Rows,.int .i64 r.Cols,.slice p4 r.Start.length c5,.slice p7 r.Col.length c8,.slice p10 r.Val.length c11]∧RepSl AE I_ p4 c5 r.Start∧RepSl AE I_ p7 c8 r.Col∧RepSl AE I_ p10 c11 r.Val∧Q r
abbrev o8_ (Q:(Rows×Int)→Prop):IH→Value→Prop:=fun I_ v=>∃ r p4 c5 p7 c8 p10 c11,v=.tuple #[.agg #[.int .i64 r.1.Rows,.int .i64 r.1.Cols,.slice p4 r.1.Start.length c5,.slice p7 r.1.Col.length c8,.slice p10 r.1.Val.length c11],.int .i64 r.2]∧RepSl AE I_ p4 c5 r.1.Start∧RepSl AE I_ p7 c8 r.1.Col∧RepSl AE I_ p10 c11 r.1.Val∧Q r
abbrev o9_ (Q:Rows→Prop):IH→Value→Prop:=fun I_ v=>∃ r p1 c2 p4 c5 p7 c8,v=.agg #[.int .i64 r.Rows,.int .i64 r.Cols,.slice p1 r.Start.length c2,.slice p4 r.Col.length c5,.slice p7 r.Val.length c8]∧RepSl AE I_ p1 c2 r.Start∧RepSl AE I_ p4 c5 r.Col∧RepSl AE I_ p7 c8 r.Val∧Q r
abbrev AiF (Q:(List BC)→Prop):IH→Value→Prop:=fun I_ v=>∃ r p1 c2,v=.slice p1 r.length c2∧RepSl BX I_ p1 c2 r∧Q r
abbrev AgC (Q:Rows→Prop):IH→Value→Prop:=fun I_ v=>∃ r p10 c11 p13 c14 p16 c17,v=.agg #[.int .i64 r.Rows,.int .i64 r.Cols,.slice p10 r.Start.length c11,.slice p13 r.Col.length c14,.slice p16 r.Val.length c17]∧RepSl AE I_ p10 c11 r.Start∧RepSl AE I_ p13 c14 r.Col∧RepSl AE I_ p16 c17 r.Val∧Q r
abbrev AgD (Q:(Int×Int)→Prop):Value→Prop:=fun v=>∃ r,v=.tuple #[.int .i64 r.1,.int .i64 r.2]∧Q r
abbrev AhT (Q:((List Int)×(List Int))→Prop):IH→Value→Prop:=fun I_ v=>∃ r p10 c11 p13 c14,v=.tuple #[.slice p10 r.1.length c11,.slice p13 r.2.length c14]∧RepSl AE I_ p10 c11 r.1∧RepSl AE I_ p13 c14 r.2∧Q r
abbrev AiG (Q:(List DS)→Prop):IH→Value→Prop:=fun I_ v=>∃ r p10 c11,v=.slice p10 r.length c11∧RepSl QG I_ p10 c11 r∧Q r
abbrev AhU (Q:(Int×Int)→Prop):Value→Prop:=fun v=>∃ r,v=.agg #[.int .i64 r.1,.int .i64 r.2]∧Q r
abbrev AiH (Q:(List AD)→Prop):IH→Value→Prop:=fun I_ v=>∃ r p10 c11,v=.slice p10 r.length c11∧RepSl BP I_ p10 c11 r∧Q r
abbrev AiI (Q:(List AD)→Prop):IH→Value→Prop:=fun I_ v=>∃ r p4 c5,v=.slice p4 r.length c5∧RepSl BP I_ p4 c5 r∧Q r
abbrev AiJ (Q:BL→Prop):IH→Value→Prop:=fun I_ v=>∃ r p10 c11 p13 c14 p16 c17,v=.agg #[.int .i64 r.Kind,.int .i64 r.From,.int .i64 r.To,.int .i64 r.Seq,.int .i64 r.Round,.int .i64 r.Vec.N,.slice p10 r.Vec.Items.length c11,.slice p13 r.Sums.length c14,.slice p16 r.Triples.length c17,.int .i64 r.N,.bool r.Over]∧RepSl QG I_ p10 c11 r.Vec.Items∧RepSl dP I_ p13 c14 r.Sums∧RepSl BP I_ p16 c17 r.Triples∧Q r
abbrev AgE (Q:Int→Prop):Value→Prop:=fun v=>∃ r,v=.int .u64 r∧Q r
abbrev AiK (Q:((List AK)×Int)→Prop):IH→Value→Prop:=fun I_ v=>∃ r p28 c29,v=.tuple #[.slice p28 r.1.length c29,.int .i64 r.2]∧RepSl CF I_ p28 c29 r.1∧Q r
abbrev AiL (Q:((List AK)×Int)→Prop):IH→Value→Prop:=fun I_ v=>∃ r p4 c5,v=.tuple #[.slice p4 r.1.length c5,.int .i64 r.2]∧RepSl CF I_ p4 c5 r.1∧Q r
abbrev AiM (Q:(Rows×Bool×Int)→Prop):IH→Value→Prop:=fun I_ v=>∃ r p31 c32 p34 c35 p37 c38,v=.tuple #[.agg #[.int .i64 r.1.Rows,.int .i64 r.1.Cols,.slice p31 r.1.Start.length c32,.slice p34 r.1.Col.length c35,.slice p37 r.1.Val.length c38],.bool r.2.1,.int .i64 r.2.2]∧RepSl AE I_ p31 c32 r.1.Start∧RepSl AE I_ p34 c35 r.1.Col∧RepSl AE I_ p37 c38 r.1.Val∧Q r
abbrev AjY (Q:(AM×Bool)→Prop):Value→Prop:=fun v=>∃ r,v=.tuple #[.agg (JQ r.1).toArray,.bool r.2]∧Q r
abbrev AiN (Q:(BQ×Int)→Prop):IH→Value→Prop:=fun I_ v=>∃ r p4 c5 p7 c8 p10 c11 p13 c14 p16 c17 p19 c20 p22 c23 p25 c26 p28 c29,v=.tuple #[.agg #[.int .i64 r.1.Ring,.int .i64 r.1.A.Rows,.int .i64 r.1.A.Cols,.slice p4 r.1.A.Start.length c5,.slice p7 r.1.A.Col.length c8,.slice p10 r.1.A.Val.length c11,.int .i64 r.1.B.Rows,.int .i64 r.1.B.Cols,.slice p13 r.1.B.Start.length c14,.slice p16 r.1.B.Col.length c17,.slice p19 r.1.B.Val.length c20,.int .i64 r.1.Mask.Rows,.int .i64 r.1.Mask.Cols,.slice p22 r.1.Mask.Start.length c23,.slice p25 r.1.Mask.Col.length c26,.slice p28 r.1.Mask.Val.length c29,.int .i64 r.1.R,.int .i64 r.1.C,.int .i64 r.1.Room],.int .i64 r.2]∧RepSl AE I_ p4 c5 r.1.A.Start∧RepSl AE I_ p7 c8 r.1.A.Col∧RepSl AE I_ p10 c11 r.1.A.Val∧RepSl AE I_ p13 c14 r.1.B.Start∧RepSl AE I_ p16 c17 r.1.B.Col∧RepSl AE I_ p19 c20 r.1.B.Val∧RepSl AE I_ p22 c23 r.1.Mask.Start∧RepSl AE I_ p25 c26 r.1.Mask.Col∧RepSl AE I_ p28 c29 r.1.Mask.Val∧Q r
abbrev AiO (Q:(List (Int×Int×Int))→Prop):IH→Value→Prop:=fun I_ v=>∃ r p4 c5,v=.slice p4 r.length c5∧RepSl UC I_ p4 c5 r∧Q r
abbrev AhV (Q:(List Int)→Prop):IH→Value→Prop:=fun I_ v=>∃ r p4 c5,v=.slice p4 r.length c5∧RepSl AE I_ p4 c5 r∧Q r
abbrev uR:=@Tryz.underlying2
abbrev Z8:=@Tryz.underlying3
abbrev un5:=@Tryz.underlying5
abbrev GM:=@Tryz.underlying22
abbrev iN:=@Tryz.underlying24
abbrev AjZ:=@Tryz.underlying25
abbrev rJ:=@Tryz.underlying26
abbrev BS:=@Tryz.underlying30
abbrev iO:=@Tryz.underlying31
abbrev PO:=@Tryz.underlying33
abbrev AeG:=@Tryz.underlying40
abbrev Ak0:=@Tryz.underlying47
abbrev vP:=@Tryz.underlying49
abbrev Ak1:=@Tryz.underlying53
abbrev LZ:=@Tryz.underlying54
abbrev rK:=@Tryz.underlying60
abbrev Ak2:=@Tryz.underlying63
abbrev Ak3:=@Tryz.underlying71
abbrev EK:=@Tryz.underlying76
abbrev QB:=@Tryz.underlying90
abbrev VM:=@Tryz.underlying99
abbrev rL:=@Tryz.underlying103
abbrev bF:=@Tryz.underlying109
abbrev AjH:=@Tryz.underlying113
abbrev bG:=@Tryz.underlying116
abbrev iP:=@Tryz.underlying118
abbrev SS:=@Tryz.underlying119
abbrev mB:=@Tryz.underlying124
abbrev bH:=@Tryz.underlying125
abbrev AjI:=@Tryz.underlying131
abbrev AjJ:=@Tryz.underlying132
abbrev AjK:=@Tryz.underlying134
abbrev AjL:=@Tryz.underlying136
abbrev AjM:=@Tryz.underlying137
abbrev AjN:=@Tryz.underlying141
abbrev iQ:=@Tryz.underlying146
abbrev QI:=@Tryz.underlying155
abbrev bI:=@Tryz.underlying157
abbrev NI:=@Tryz.underlying169
abbrev QJ:=@Tryz.underlying181
abbrev xY:=@Tryz.underlying194
abbrev rM:=@Tryz.underlying196
abbrev iR:=@Tryz.underlying200
abbrev iS:=@Tryz.underlying206
abbrev mC:=@Tryz.underlying211
abbrev bJ:=@Tryz.underlying227
abbrev bK:=@Tryz.underlying236
abbrev AjO:=@Tryz.underlying240
abbrev mD:=@Tryz.underlying272
abbrev ST:=@Tryz.underlying290
abbrev fC:=@Tryz.underlying313
abbrev KS:=@Tryz.underlying351
abbrev sz2:=@Tryz.sizeOf2
abbrev EO:=@Tryz.sizeOf3
abbrev sz5:=@Tryz.sizeOf5
abbrev DU:=@Tryz.sizeOf24
abbrev iT:=@Tryz.sizeOf30
abbrev BJ:=@Tryz.sizeOf33
abbrev TT:=@Tryz.sizeOf40
abbrev fW:=@Tryz.sizeOf47
abbrev FB:=@Tryz.sizeOf49
abbrev Ac0:=@Tryz.sizeOf76
abbrev QW:=@Tryz.sizeOf99
abbrev MJ:=@Tryz.sizeOf103
abbrev AfY:=@Tryz.sizeOf125
abbrev iU:=@Tryz.sizeOf129
abbrev FO:=@Tryz.sizeOf155
abbrev BI:=@Tryz.sizeOf157
abbrev BV:=@Tryz.sizeOf161
abbrev HB:=@Tryz.sizeOf169
abbrev EW:=@Tryz.sizeOf196
abbrev ZS:=@Tryz.isAgg2
abbrev BH:=@Tryz.isAgg3
abbrev ia5:=@Tryz.isAgg5
abbrev VO:=@Tryz.isAgg22
abbrev GB:=@Tryz.isAgg24
abbrev IX:=@Tryz.isAgg30
abbrev Ac1:=@Tryz.isAgg31
abbrev CM:=@Tryz.isAgg33
abbrev oE:=@Tryz.isAgg37
abbrev bL:=@Tryz.isAgg40
abbrev vQ:=@Tryz.isAgg47
abbrev SU:=@Tryz.isAgg49
abbrev Z9:=@Tryz.isAgg116
abbrev KF:=@Tryz.isAgg122
abbrev ZA:=@Tryz.isAgg125
abbrev AjP:=@Tryz.isAgg131
abbrev EI:=@Tryz.isAgg155
abbrev CE:=@Tryz.isAgg157
abbrev IF:=@Tryz.isAgg161
abbrev LD:=@Tryz.isAgg169
abbrev PP:=@Tryz.isAgg196
abbrev mE:=@Tryz.zeroValue3
abbrev QX:=@Tryz.zeroValue24
abbrev GC:=@Tryz.zeroValue33
abbrev oF:=@Tryz.zeroValue40
abbrev AhW:=@Tryz.zeroValue47
abbrev PQ:=@Tryz.zeroValue49
abbrev vR:=@Tryz.zeroValue99
abbrev UK:=@Tryz.zeroValue103
abbrev xZ:=@Tryz.zeroValue112
abbrev Ac2:=@Tryz.zeroValue129
abbrev FE:=@Tryz.zeroValue157
abbrev fD:=@Tryz.zeroValue161
abbrev LF:=@Tryz.zeroValue169
abbrev AjQ:=@Tryz.zeroValue183
abbrev SV:=@Tryz.zeroValue196
abbrev bM:=@Tryz.zeroValue206
abbrev mF:=@Tryz.zeroValue351
end Go.Proofs.YtbohadngdkjljaaGreat
