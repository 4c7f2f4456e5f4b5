/- Closed facts of the program (printed by a program of ours). -/
import Derived.Test.YtbohadngdkjljaaGreatT
import Derived.Test.YtbohadngdkjljaaGreatFwL
import Derived.Test.YtbohadngdkjljaaGreatChecked
import Derived.Laws.StructEq
import Derived.KernelRfl
namespace Go.Proofs.YtbohadngdkjljaaGreat
open Go Go.Fw
set_option linter.unusedVariables false
set_option linter.unusedSimpArgs false
set_option maxRecDepth 8000
set_option maxHeartbeats 1000000
theorem MX:Tryz.prog.follows .mixedOrders=true:=by kernel_rfl
abbrev tbP:List (Nat×List Nat):=[(24,[0,1]),(28,[0,1]),(33,[0,1,2,3,4]),(40,[0,1,6,11,16,17,18]),(47,[0,1,2,3]),(49,[0,1,2]),(56,[0,1,4,5,6]),(58,[0,7,8,9]),(85,[0,2,3,4]),(103,[0,1,2]),(112,[0,1]),(121,[0,19,20,21]),(127,[0,1,2,7,8,9,10]),(129,[0,1,2,3]),(134,[0,19,20,21]),(139,[0,1,2,7,8,9,10,11,12,13]),(157,[0,1]),(161,[0,1,2]),(183,[0,1,3,4,5,6,7]),(193,[0,1]),(196,[0,1,2,3,4,5,7,8,9,10]),(199,[0,1,2,3]),(213,[0,1,2,3,4,5])]
theorem uZ:AllOk Tryz.prog tbP:=
 ⟨⟨⟨_,_,_,Tryz.underlying24,rfl,Tryz.sizeOf3,rfl⟩,⟨_,_,_,Tryz.underlying24,rfl,Tryz.sizeOf22,rfl⟩,trivial⟩,⟨⟨_,_,_,Tryz.underlying28,rfl,Tryz.sizeOf26,rfl⟩,⟨_,_,_,Tryz.underlying28,rfl,Tryz.sizeOf5,rfl⟩,trivial⟩,⟨⟨_,_,_,Tryz.underlying33,rfl,Tryz.sizeOf3,rfl⟩,⟨_,_,_,Tryz.underlying33,rfl,Tryz.sizeOf3,rfl⟩,⟨_,_,_,Tryz.underlying33,rfl,Tryz.sizeOf30,rfl⟩,⟨_,_,_,Tryz.underlying33,rfl,Tryz.sizeOf30,rfl⟩,⟨_,_,_,Tryz.underlying33,rfl,Tryz.sizeOf31,rfl⟩,trivial⟩,⟨⟨_,_,_,Tryz.underlying40,rfl,Tryz.sizeOf37,rfl⟩,⟨_,_,_,Tryz.underlying40,rfl,Tryz.sizeOf33,rfl⟩,⟨_,_,_,Tryz.underlying40,rfl,Tryz.sizeOf33,rfl⟩,⟨_,_,_,Tryz.underlying40,rfl,Tryz.sizeOf33,rfl⟩,⟨_,_,_,Tryz.underlying40,rfl,Tryz.sizeOf3,rfl⟩,⟨_,_,_,Tryz.underlying40,rfl,Tryz.sizeOf3,rfl⟩,⟨_,_,_,Tryz.underlying40,rfl,Tryz.sizeOf3,rfl⟩,trivial⟩,⟨⟨_,_,_,Tryz.underlying47,rfl,Tryz.sizeOf45,rfl⟩,⟨_,_,_,Tryz.underlying47,rfl,Tryz.sizeOf3,rfl⟩,⟨_,_,_,Tryz.underlying47,rfl,Tryz.sizeOf3,rfl⟩,⟨_,_,_,Tryz.underlying47,rfl,Tryz.sizeOf3,rfl⟩,trivial⟩,⟨⟨_,_,_,Tryz.underlying49,rfl,Tryz.sizeOf3,rfl⟩,⟨_,_,_,Tryz.underlying49,rfl,Tryz.sizeOf3,rfl⟩,⟨_,_,_,Tryz.underlying49,rfl,Tryz.sizeOf2,rfl⟩,trivial⟩,⟨⟨_,_,_,Tryz.underlying56,rfl,Tryz.sizeOf37,rfl⟩,⟨_,_,_,Tryz.underlying56,rfl,Tryz.sizeOf53,rfl⟩,⟨_,_,_,Tryz.underlying56,rfl,Tryz.sizeOf54,rfl⟩,⟨_,_,_,Tryz.underlying56,rfl,Tryz.sizeOf54,rfl⟩,⟨_,_,_,Tryz.underlying56,rfl,Tryz.sizeOf54,rfl⟩,trivial⟩,⟨⟨_,_,_,Tryz.underlying58,rfl,Tryz.sizeOf56,rfl⟩,⟨_,_,_,Tryz.underlying58,rfl,Tryz.sizeOf5,rfl⟩,⟨_,_,_,Tryz.underlying58,rfl,Tryz.sizeOf5,rfl⟩,⟨_,_,_,Tryz.underlying58,rfl,Tryz.sizeOf5,rfl⟩,trivial⟩,⟨⟨_,_,_,Tryz.underlying85,rfl,Tryz.sizeOf24,rfl⟩,⟨_,_,_,Tryz.underlying85,rfl,Tryz.sizeOf3,rfl⟩,⟨_,_,_,Tryz.underlying85,rfl,Tryz.sizeOf5,rfl⟩,⟨_,_,_,Tryz.underlying85,rfl,Tryz.sizeOf5,rfl⟩,trivial⟩,⟨⟨_,_,_,Tryz.underlying103,rfl,Tryz.sizeOf3,rfl⟩,⟨_,_,_,Tryz.underlying103,rfl,Tryz.sizeOf3,rfl⟩,⟨_,_,_,Tryz.underlying103,rfl,Tryz.sizeOf2,rfl⟩,trivial⟩,⟨⟨_,_,_,Tryz.underlying112,rfl,Tryz.sizeOf3,rfl⟩,⟨_,_,_,Tryz.underlying112,rfl,Tryz.sizeOf2,rfl⟩,trivial⟩,⟨⟨_,_,_,Tryz.underlying121,rfl,Tryz.sizeOf40,rfl⟩,⟨_,_,_,Tryz.underlying121,rfl,Tryz.sizeOf116,rfl⟩,⟨_,_,_,Tryz.underlying121,rfl,Tryz.sizeOf119,rfl⟩,⟨_,_,_,Tryz.underlying121,rfl,Tryz.sizeOf118,rfl⟩,trivial⟩,⟨⟨_,_,_,Tryz.underlying127,rfl,Tryz.sizeOf3,rfl⟩,⟨_,_,_,Tryz.underlying127,rfl,Tryz.sizeOf3,rfl⟩,⟨_,_,_,Tryz.underlying127,rfl,Tryz.sizeOf33,rfl⟩,⟨_,_,_,Tryz.underlying127,rfl,Tryz.sizeOf125,rfl⟩,⟨_,_,_,Tryz.underlying127,rfl,Tryz.sizeOf124,rfl⟩,⟨_,_,_,Tryz.underlying127,rfl,Tryz.sizeOf3,rfl⟩,⟨_,_,_,Tryz.underlying127,rfl,Tryz.sizeOf76,rfl⟩,trivial⟩,⟨⟨_,_,_,Tryz.underlying129,rfl,Tryz.sizeOf3,rfl⟩,⟨_,_,_,Tryz.underlying129,rfl,Tryz.sizeOf3,rfl⟩,⟨_,_,_,Tryz.underlying129,rfl,Tryz.sizeOf3,rfl⟩,⟨_,_,_,Tryz.underlying129,rfl,Tryz.sizeOf3,rfl⟩,trivial⟩,⟨⟨_,_,_,Tryz.underlying134,rfl,Tryz.sizeOf40,rfl⟩,⟨_,_,_,Tryz.underlying134,rfl,Tryz.sizeOf116,rfl⟩,⟨_,_,_,Tryz.underlying134,rfl,Tryz.sizeOf131,rfl⟩,⟨_,_,_,Tryz.underlying134,rfl,Tryz.sizeOf132,rfl⟩,trivial⟩,⟨⟨_,_,_,Tryz.underlying139,rfl,Tryz.sizeOf3,rfl⟩,⟨_,_,_,Tryz.underlying139,rfl,Tryz.sizeOf3,rfl⟩,⟨_,_,_,Tryz.underlying139,rfl,Tryz.sizeOf33,rfl⟩,⟨_,_,_,Tryz.underlying139,rfl,Tryz.sizeOf125,rfl⟩,⟨_,_,_,Tryz.underlying139,rfl,Tryz.sizeOf136,rfl⟩,⟨_,_,_,Tryz.underlying139,rfl,Tryz.sizeOf136,rfl⟩,⟨_,_,_,Tryz.underlying139,rfl,Tryz.sizeOf137,rfl⟩,⟨_,_,_,Tryz.underlying139,rfl,Tryz.sizeOf137,rfl⟩,⟨_,_,_,Tryz.underlying139,rfl,Tryz.sizeOf3,rfl⟩,⟨_,_,_,Tryz.underlying139,rfl,Tryz.sizeOf76,rfl⟩,trivial⟩,⟨⟨_,_,_,Tryz.underlying157,rfl,Tryz.sizeOf2,rfl⟩,⟨_,_,_,Tryz.underlying157,rfl,Tryz.sizeOf155,rfl⟩,trivial⟩,⟨⟨_,_,_,Tryz.underlying161,rfl,Tryz.sizeOf3,rfl⟩,⟨_,_,_,Tryz.underlying161,rfl,Tryz.sizeOf3,rfl⟩,⟨_,_,_,Tryz.underlying161,rfl,Tryz.sizeOf157,rfl⟩,trivial⟩,⟨⟨_,_,_,Tryz.underlying183,rfl,Tryz.sizeOf37,rfl⟩,⟨_,_,_,Tryz.underlying183,rfl,Tryz.sizeOf25,rfl⟩,⟨_,_,_,Tryz.underlying183,rfl,Tryz.sizeOf54,rfl⟩,⟨_,_,_,Tryz.underlying183,rfl,Tryz.sizeOf109,rfl⟩,⟨_,_,_,Tryz.underlying183,rfl,Tryz.sizeOf109,rfl⟩,⟨_,_,_,Tryz.underlying183,rfl,Tryz.sizeOf181,rfl⟩,⟨_,_,_,Tryz.underlying183,rfl,Tryz.sizeOf4,rfl⟩,trivial⟩,⟨⟨_,_,_,Tryz.underlying193,rfl,Tryz.sizeOf3,rfl⟩,⟨_,_,_,Tryz.underlying193,rfl,Tryz.sizeOf109,rfl⟩,trivial⟩,⟨⟨_,_,_,Tryz.underlying196,rfl,Tryz.sizeOf191,rfl⟩,⟨_,_,_,Tryz.underlying196,rfl,Tryz.sizeOf3,rfl⟩,⟨_,_,_,Tryz.underlying196,rfl,Tryz.sizeOf3,rfl⟩,⟨_,_,_,Tryz.underlying196,rfl,Tryz.sizeOf3,rfl⟩,⟨_,_,_,Tryz.underlying196,rfl,Tryz.sizeOf3,rfl⟩,⟨_,_,_,Tryz.underlying196,rfl,Tryz.sizeOf193,rfl⟩,⟨_,_,_,Tryz.underlying196,rfl,Tryz.sizeOf194,rfl⟩,⟨_,_,_,Tryz.underlying196,rfl,Tryz.sizeOf54,rfl⟩,⟨_,_,_,Tryz.underlying196,rfl,Tryz.sizeOf2,rfl⟩,⟨_,_,_,Tryz.underlying196,rfl,Tryz.sizeOf4,rfl⟩,trivial⟩,⟨⟨_,_,_,Tryz.underlying199,rfl,Tryz.sizeOf3,rfl⟩,⟨_,_,_,Tryz.underlying199,rfl,Tryz.sizeOf3,rfl⟩,⟨_,_,_,Tryz.underlying199,rfl,Tryz.sizeOf3,rfl⟩,⟨_,_,_,Tryz.underlying199,rfl,Tryz.sizeOf125,rfl⟩,trivial⟩,⟨⟨_,_,_,Tryz.underlying213,rfl,Tryz.sizeOf3,rfl⟩,⟨_,_,_,Tryz.underlying213,rfl,Tryz.sizeOf30,rfl⟩,⟨_,_,_,Tryz.underlying213,rfl,Tryz.sizeOf210,rfl⟩,⟨_,_,_,Tryz.underlying213,rfl,Tryz.sizeOf211,rfl⟩,⟨_,_,_,Tryz.underlying213,rfl,Tryz.sizeOf3,rfl⟩,⟨_,_,_,Tryz.underlying213,rfl,Tryz.sizeOf3,rfl⟩,trivial⟩,trivial⟩
section
variable {n:FrK} {E E1 E' E2:DC} {S:World→Prop} {Q Q':Exit→Act→World→Prop} {ops:Array Oper} {l l' l2:List Oper} {z:Code} {id:Nat}
theorem _root_.Go.Fw.Ops.ks (j:Nat) (h:fP tbP ops n j l E=some (l',E')) (g:Ops Tryz.prog ops l' n E' S Q):Ops Tryz.prog ops l n E S Q:=.ksT uZ j h g
theorem _root_.Go.Fw.Ops.nk (ks:List Nat) (j:Nat) (h:(TQ ks E [],(fun a w=>Q .normal a w),fP tbP l2.toArray n j l2 E')=(some E',(fun a w=>(Code.seq (.region id l2.toArray false) z).wpIn (QJ n) 0 Tryz.prog Q' a w),some (l',E2))) (g:Ops Tryz.prog l2.toArray l' n E2 S (Exit.then (z.wpIn (QJ n) 0 Tryz.prog Q') Q')):Ops Tryz.prog ops [] n E S Q:=.nkT uZ ks j h g
theorem _root_.Go.Fw.Cod.sk (j:Nat) (h:fP tbP l.toArray n j l E=some (l',E')) (g:Ops Tryz.prog l.toArray l' n E' S (Exit.then (z.wpIn (QJ n) 0 Tryz.prog Q) Q)):Cod Tryz.prog (.seq (.region id l.toArray false) z) n E S Q:=.skT uZ j h g
theorem _root_.Go.Fw.Ops.kn (j:Nat) (ks:List Nat) (h:(fP tbP ops n j l E,TQ ks E1 [],fun a w=>Q .normal a w)=(some ([],E1),some E',fun a w=>z.wpIn (QJ n) 0 Tryz.prog Q' a w)) (g:Cod Tryz.prog z n E' S Q'):Ops Tryz.prog ops l n E S Q:=.knT uZ j ks h g
variable {w0:World} {M:Nat→Prop} {I0 I:IH} {cs cs':List (Option Nat)} {dn dn':HC} {X X' pend pd':List Nat} {asn:List AS} {L:Sh} {Sd:List HA→World→Prop} {g fs:List Nat} {A B:List (Option (Nat×Value))}
theorem _root_.Go.Fw.DrawD.fk (k:Nat) (h:xJ tbP ops n E k cs dn X pend=some (cs',dn',X',pd')) (kk:DrawD Tryz.prog ops n Q w0 M I0 E cs' dn' X' pd' asn I L):DrawD Tryz.prog ops n Q w0 M I0 E cs dn X pend asn I L:=.fkT uZ k h kk
theorem _root_.Go.Fw.PendL.ck (k:Nat) (h:xL tbP ops n E dn k fs=some (g,A,B)) (hAB:A=B) (kk:PendL Tryz.prog ops n E dn Sd g):PendL Tryz.prog ops n E dn Sd fs:=.ckT uZ k h hAB kk
end
theorem IN2:Tryz.prog.info? 2=some Tryz.t2:=by kernel_rfl
theorem IN3:Tryz.prog.info? 3=some Tryz.t3:=by kernel_rfl
theorem IN4:Tryz.prog.info? 4=some Tryz.t4:=by kernel_rfl
theorem AfH:Tryz.prog.info? 24=some Tryz.t24:=by kernel_rfl
theorem AfI:(Tryz.prog.fieldsOf 24).toList.all (fun f=>(Tryz.prog.info? f.type).isSome)=true:=by kernel_rfl
theorem AfJ:Tryz.prog.info? 25=some Tryz.t25:=by kernel_rfl
theorem AfK:Tryz.prog.info? 30=some Tryz.t30:=by kernel_rfl
theorem Ad8:Tryz.prog.info? 33=some Tryz.t33:=by kernel_rfl
theorem IY:(Tryz.prog.fieldsOf 33).toList.all (fun f=>(Tryz.prog.info? f.type).isSome)=true:=by kernel_rfl
theorem AfL:Tryz.prog.info? 40=some Tryz.t40:=by kernel_rfl
theorem AaO:(Tryz.prog.fieldsOf 40).toList.all (fun f=>(Tryz.prog.info? f.type).isSome)=true:=by kernel_rfl
theorem Ae3:Tryz.prog.info? 47=some Tryz.t47:=by kernel_rfl
theorem Ad9:(Tryz.prog.fieldsOf 47).toList.all (fun f=>(Tryz.prog.info? f.type).isSome)=true:=by kernel_rfl
theorem AdA:Tryz.prog.info? 49=some Tryz.t49:=by kernel_rfl
theorem AcB:(Tryz.prog.fieldsOf 49).toList.all (fun f=>(Tryz.prog.info? f.type).isSome)=true:=by kernel_rfl
theorem AfM:Tryz.prog.info? 54=some Tryz.t54:=by kernel_rfl
theorem AfN:Tryz.prog.info? 76=some Tryz.t76:=by kernel_rfl
theorem AfO:Tryz.prog.info? 99=some Tryz.t99:=by kernel_rfl
theorem dE:Tryz.prog.info? 103=some Tryz.t103:=by kernel_rfl
theorem dF:(Tryz.prog.fieldsOf 103).toList.all (fun f=>(Tryz.prog.info? f.type).isSome)=true:=by kernel_rfl
theorem xQ:Tryz.prog.info? 112=some Tryz.t112:=by kernel_rfl
theorem AbZ:(Tryz.prog.fieldsOf 112).toList.all (fun f=>(Tryz.prog.info? f.type).isSome)=true:=by kernel_rfl
theorem AeK:Tryz.prog.info? 113=some Tryz.t113:=by kernel_rfl
theorem AeL:Tryz.prog.info? 121=some Tryz.t121:=by kernel_rfl
theorem AdB:(Tryz.prog.fieldsOf 121).toList.all (fun f=>(Tryz.prog.info? f.type).isSome)=true:=by kernel_rfl
theorem AdC:Tryz.prog.info? 122=some Tryz.t122:=by kernel_rfl
theorem AeM:Tryz.prog.info? 127=some Tryz.t127:=by kernel_rfl
theorem AdD:(Tryz.prog.fieldsOf 127).toList.all (fun f=>(Tryz.prog.info? f.type).isSome)=true:=by kernel_rfl
theorem AdE:Tryz.prog.info? 129=some Tryz.t129:=by kernel_rfl
theorem AdF:(Tryz.prog.fieldsOf 129).toList.all (fun f=>(Tryz.prog.info? f.type).isSome)=true:=by kernel_rfl
theorem AeN:Tryz.prog.info? 134=some Tryz.t134:=by kernel_rfl
theorem AeO:(Tryz.prog.fieldsOf 134).toList.all (fun f=>(Tryz.prog.info? f.type).isSome)=true:=by kernel_rfl
theorem AeP:Tryz.prog.info? 135=some Tryz.t135:=by kernel_rfl
theorem AeQ:Tryz.prog.info? 139=some Tryz.t139:=by kernel_rfl
theorem AeR:(Tryz.prog.fieldsOf 139).toList.all (fun f=>(Tryz.prog.info? f.type).isSome)=true:=by kernel_rfl
theorem AeS:Tryz.prog.info? 141=some Tryz.t141:=by kernel_rfl
theorem AeT:Tryz.prog.info? 155=some Tryz.t155:=by kernel_rfl
theorem AdG:Tryz.prog.info? 157=some Tryz.t157:=by kernel_rfl
theorem MO:(Tryz.prog.fieldsOf 157).toList.all (fun f=>(Tryz.prog.info? f.type).isSome)=true:=by kernel_rfl
theorem oF:Tryz.prog.info? 161=some Tryz.t161:=by kernel_rfl
theorem Ac0:(Tryz.prog.fieldsOf 161).toList.all (fun f=>(Tryz.prog.info? f.type).isSome)=true:=by kernel_rfl
theorem AeU:Tryz.prog.info? 169=some Tryz.t169:=by kernel_rfl
theorem AeV:Tryz.prog.info? 181=some Tryz.t181:=by kernel_rfl
theorem AeW:Tryz.prog.info? 183=some Tryz.t183:=by kernel_rfl
theorem xR:(Tryz.prog.fieldsOf 183).toList.all (fun f=>(Tryz.prog.info? f.type).isSome)=true:=by kernel_rfl
theorem AdH:Tryz.prog.info? 196=some Tryz.t196:=by kernel_rfl
theorem oG:(Tryz.prog.fieldsOf 196).toList.all (fun f=>(Tryz.prog.info? f.type).isSome)=true:=by kernel_rfl
theorem AeX:Tryz.prog.info? 199=some Tryz.t199:=by kernel_rfl
theorem AeY:(Tryz.prog.fieldsOf 199).toList.all (fun f=>(Tryz.prog.info? f.type).isSome)=true:=by kernel_rfl
theorem AeZ:Tryz.prog.info? 206=some Tryz.t206:=by kernel_rfl
theorem fT:(Tryz.prog.fieldsOf 206).toList.all (fun f=>(Tryz.prog.info? f.type).isSome)=true:=by kernel_rfl
theorem Af0:Tryz.prog.info? 213=some Tryz.t213:=by kernel_rfl
theorem AdI:(Tryz.prog.fieldsOf 213).toList.all (fun f=>(Tryz.prog.info? f.type).isSome)=true:=by kernel_rfl
theorem AdJ:Tryz.prog.info? 289=some Tryz.t289:=by kernel_rfl
theorem Af1:(Tryz.prog.fieldsOf 289).toList.all (fun f=>(Tryz.prog.info? f.type).isSome)=true:=by kernel_rfl
theorem Af2:Tryz.prog.info? 351=some Tryz.t351:=by kernel_rfl
theorem Ae4:Tryz.prog.info? 3=some Tryz.t3:=by kernel_rfl
theorem AfP (x y:Int×Int×Int) (w:World):(Op.equal 99 (.agg #[.int .i64 x.1,.int .i64 x.2.1,.int .i64 x.2.2]) (.agg #[.int .i64 y.1,.int .i64 y.2.1,.int .i64 y.2.2])).run Tryz.prog w=.ok (x==y) w:=AaM 9998 Tryz.underlying99 Ae4 Tryz.underlying3 (by kernel_rfl) Tryz.isAgg3 x y w
theorem AfQ (o:BinOp) (x y:Operand) (u v:Array Value) (w:World):(eqGuard o 99 x y (.agg u) (.agg v)).run Tryz.prog w=.ok () w:=run_eqGuard_agg w o 99 x y u v (by kernel_rfl)
theorem jM (x y:AP) (w:World):(Op.equal 157 (.agg (EM x).toArray) (.agg (EM y).toArray)).run Tryz.prog w=.ok (x==y) w:=by
  refine Eq.trans ((eqS (k:=9999) Tryz.underlying157 (by kernel_rfl) (eqC (by decide) Tryz.isAgg2 rfl rfl (eqI (k:=9998) Tryz.underlying2) (eqC (by decide) Tryz.isAgg155 rfl rfl (eqI (k:=9998) Tryz.underlying155) eqN))) w) (congrArg (fun b=>Result.ok b w) (Bool.eq_iff_iff.2 ?_))
  obtain ⟨x_0,x_1⟩:=x; obtain ⟨y_0,y_1⟩:=y
  simp [and_assoc]
theorem jN (o:BinOp) (x y:Operand) (u v:Array Value) (w:World):(eqGuard o 157 x y (.agg u) (.agg v)).run Tryz.prog w=.ok () w:=run_eqGuard_agg w o 157 x y u v (by kernel_rfl)
theorem Af3 (x y:AK) (w:World):(Op.equal 161 (.agg (OI x).toArray) (.agg (OI y).toArray)).run Tryz.prog w=.ok (x==y) w:=by
  refine Eq.trans ((eqS (k:=9999) Tryz.underlying161 (by kernel_rfl) (eqC (by decide) Tryz.isAgg3 rfl rfl (eqI (k:=9998) Tryz.underlying3) (eqC (by decide) Tryz.isAgg3 rfl rfl (eqI (k:=9998) Tryz.underlying3) (eqA (by decide) Tryz.isAgg157 Tryz.sizeOf157 (eqS (k:=9998) Tryz.underlying157 (by kernel_rfl) (eqC (by decide) Tryz.isAgg2 rfl rfl (eqI (k:=9997) Tryz.underlying2) (eqC (by decide) Tryz.isAgg155 rfl rfl (eqI (k:=9997) Tryz.underlying155) eqN))) eqN)))) w) (congrArg (fun b=>Result.ok b w) (Bool.eq_iff_iff.2 ?_))
  obtain ⟨x_0,x_1,x_2⟩:=x; obtain ⟨x_2_0,x_2_1⟩:=x_2; obtain ⟨y_0,y_1,y_2⟩:=y; obtain ⟨y_2_0,y_2_1⟩:=y_2
  simp [and_assoc]
theorem Af4 (o:BinOp) (x y:Operand) (u v:Array Value) (w:World):(eqGuard o 161 x y (.agg u) (.agg v)).run Tryz.prog w=.ok () w:=run_eqGuard_agg w o 161 x y u v (by kernel_rfl)
theorem AdK (x y:AZ) (w:World):(Op.equal 206 (.agg (TA x).toArray) (.agg (TA y).toArray)).run Tryz.prog w=.ok (x==y) w:=by
  refine Eq.trans ((eqS (k:=9999) Tryz.underlying206 (by kernel_rfl) (eqC (by decide) Tryz.isAgg191 rfl rfl (eqI (k:=9998) Tryz.underlying191) (eqC (by decide) Tryz.isAgg3 rfl rfl (eqI (k:=9998) Tryz.underlying3) eqN))) w) (congrArg (fun b=>Result.ok b w) (Bool.eq_iff_iff.2 ?_))
  obtain ⟨x_0,x_1⟩:=x; obtain ⟨y_0,y_1⟩:=y
  simp [and_assoc]
theorem Af5 (o:BinOp) (x y:Operand) (u v:Array Value) (w:World):(eqGuard o 206 x y (.agg u) (.agg v)).run Tryz.prog w=.ok () w:=run_eqGuard_agg w o 206 x y u v (by kernel_rfl)
theorem IX3:Tryz.prog.info? 3=some Tryz.t3:=by kernel_rfl
theorem YM:WD Tryz.prog 169 CG:=AaG Tryz.underlying169 IX3 Tryz.underlying3 (by kernel_rfl) Tryz.isAgg3 Tryz.sizeOf3
theorem jO:WD Tryz.prog 206 FD:=AaL (fun _=>rfl) Tryz.underlying206 Tryz.underlying191 Tryz.underlying3 rfl rfl Tryz.isAgg191 Tryz.isAgg3 (fun k x w=>AdK k x w)
abbrev fU (Q:Bool→Prop):Value→Prop:=fun v=>∃ r,v=.bool r∧Q r
abbrev vC (Q:AP→Prop):Value→Prop:=fun v=>∃ r,v=.agg (EM r).toArray∧Q r
abbrev fV (Q:Int→Prop):Value→Prop:=fun v=>∃ r,v=.int .i64 r∧Q r
abbrev o3_ (Q:(Int×Bool)→Prop):Value→Prop:=fun v=>∃ r,v=.tuple #[.int .i64 r.1,.bool r.2]∧Q r
abbrev o4_ (Q:AbY→Prop):Value→List HA→Prop:=fun v l=>∃ r p4 c5,v=.agg #[.int .i64 r.N,.slice p4 r.Edges.length c5]∧l=[OwnSl VT 49 p4 c5 r.Edges]∧Q r
abbrev o5_ (Q:AbY→Prop):IH→Value→Prop:=fun I_ v=>∃ r p4 c5,v=.agg #[.int .i64 r.N,.slice p4 r.Edges.length c5]∧RepSl VT I_ p4 c5 r.Edges∧Q r
abbrev o6_ (Q:Rows→Prop):Value→List HA→Prop:=fun v l=>∃ r p1 c2 p4 c5 p7 c8,v=.agg #[.int .i64 r.Rows,.int .i64 r.Cols,.slice p1 r.Start.length c2,.slice p4 r.Col.length c5,.slice p7 r.Val.length c8]∧l=[OwnSl AE 3 p1 c2 r.Start,OwnSl AE 3 p4 c5 r.Col,OwnSl AE 2 p7 c8 r.Val]∧Q r
abbrev o7_ (Q:Rows→Prop):IH→Value→Prop:=fun I_ v=>∃ r p4 c5 p7 c8 p10 c11,v=.agg #[.int .i64 r.Rows,.int .i64 r.Cols,.slice p4 r.Start.length c5,.slice p7 r.Col.length c8,.slice p10 r.Val.length c11]∧RepSl AE I_ p4 c5 r.Start∧RepSl AE I_ p7 c8 r.Col∧RepSl AE I_ p10 c11 r.Val∧Q r
abbrev o8_ (Q:(Rows×Int)→Prop):IH→Value→Prop:=fun I_ v=>∃ r p4 c5 p7 c8 p10 c11,v=.tuple #[.agg #[.int .i64 r.1.Rows,.int .i64 r.1.Cols,.slice p4 r.1.Start.length c5,.slice p7 r.1.Col.length c8,.slice p10 r.1.Val.length c11],.int .i64 r.2]∧RepSl AE I_ p4 c5 r.1.Start∧RepSl AE I_ p7 c8 r.1.Col∧RepSl AE I_ p10 c11 r.1.Val∧Q r
abbrev o9_ (Q:Rows→Prop):IH→Value→Prop:=fun I_ v=>∃ r p1 c2 p4 c5 p7 c8,v=.agg #[.int .i64 r.Rows,.int .i64 r.Cols,.slice p1 r.Start.length c2,.slice p4 r.Col.length c5,.slice p7 r.Val.length c8]∧RepSl AE I_ p1 c2 r.Start∧RepSl AE I_ p4 c5 r.Col∧RepSl AE I_ p7 c8 r.Val∧Q r
abbrev Ae5 (Q:(List AY)→Prop):IH→Value→Prop:=fun I_ v=>∃ r p1 c2,v=.slice p1 r.length c2∧RepSl BO I_ p1 c2 r∧Q r
abbrev AaP (Q:Rows→Prop):IH→Value→Prop:=fun I_ v=>∃ r p10 c11 p13 c14 p16 c17,v=.agg #[.int .i64 r.Rows,.int .i64 r.Cols,.slice p10 r.Start.length c11,.slice p13 r.Col.length c14,.slice p16 r.Val.length c17]∧RepSl AE I_ p10 c11 r.Start∧RepSl AE I_ p13 c14 r.Col∧RepSl AE I_ p16 c17 r.Val∧Q r
abbrev Ae6 (Q:(Int×Int)→Prop):Value→Prop:=fun v=>∃ r,v=.tuple #[.int .i64 r.1,.int .i64 r.2]∧Q r
abbrev AdL (Q:((List Int)×(List Int))→Prop):IH→Value→Prop:=fun I_ v=>∃ r p10 c11 p13 c14,v=.tuple #[.slice p10 r.1.length c11,.slice p13 r.2.length c14]∧RepSl AE I_ p10 c11 r.1∧RepSl AE I_ p13 c14 r.2∧Q r
abbrev AdM (Q:(List CE)→Prop):IH→Value→Prop:=fun I_ v=>∃ r p10 c11,v=.slice p10 r.length c11∧RepSl LS I_ p10 c11 r∧Q r
abbrev AdN (Q:(Int×Int)→Prop):Value→Prop:=fun v=>∃ r,v=.agg #[.int .i64 r.1,.int .i64 r.2]∧Q r
abbrev Ae7 (Q:(List AC)→Prop):IH→Value→Prop:=fun I_ v=>∃ r p10 c11,v=.slice p10 r.length c11∧RepSl AX I_ p10 c11 r∧Q r
abbrev AdO (Q:(List AC)→Prop):IH→Value→Prop:=fun I_ v=>∃ r p4 c5,v=.slice p4 r.length c5∧RepSl AX I_ p4 c5 r∧Q r
abbrev Ae8 (Q:BL→Prop):IH→Value→Prop:=fun I_ v=>∃ r p10 c11 p13 c14 p16 c17,v=.agg #[.int .i64 r.Kind,.int .i64 r.From,.int .i64 r.To,.int .i64 r.Seq,.int .i64 r.Round,.int .i64 r.Vec.N,.slice p10 r.Vec.Items.length c11,.slice p13 r.Sums.length c14,.slice p16 r.Triples.length c17,.int .i64 r.N,.bool r.Over]∧RepSl LS I_ p10 c11 r.Vec.Items∧RepSl bX I_ p13 c14 r.Sums∧RepSl AX I_ p16 c17 r.Triples∧Q r
abbrev AdP (Q:Int→Prop):Value→Prop:=fun v=>∃ r,v=.int .u64 r∧Q r
abbrev Ae9 (Q:((List AK)×Int)→Prop):IH→Value→Prop:=fun I_ v=>∃ r p28 c29,v=.tuple #[.slice p28 r.1.length c29,.int .i64 r.2]∧RepSl CH I_ p28 c29 r.1∧Q r
abbrev AeA (Q:((List AK)×Int)→Prop):IH→Value→Prop:=fun I_ v=>∃ r p4 c5,v=.tuple #[.slice p4 r.1.length c5,.int .i64 r.2]∧RepSl CH I_ p4 c5 r.1∧Q r
abbrev AeB (Q:(Rows×Bool×Int)→Prop):IH→Value→Prop:=fun I_ v=>∃ r p31 c32 p34 c35 p37 c38,v=.tuple #[.agg #[.int .i64 r.1.Rows,.int .i64 r.1.Cols,.slice p31 r.1.Start.length c32,.slice p34 r.1.Col.length c35,.slice p37 r.1.Val.length c38],.bool r.2.1,.int .i64 r.2.2]∧RepSl AE I_ p31 c32 r.1.Start∧RepSl AE I_ p34 c35 r.1.Col∧RepSl AE I_ p37 c38 r.1.Val∧Q r
abbrev AfR (Q:(DL×Bool)→Prop):Value→Prop:=fun v=>∃ r,v=.tuple #[.agg (eR r.1).toArray,.bool r.2]∧Q r
abbrev AfS (Q:(BB×Int)→Prop):IH→Value→Prop:=fun I_ v=>∃ r p4 c5 p7 c8 p10 c11 p13 c14 p16 c17 p19 c20 p22 c23 p25 c26 p28 c29,v=.tuple #[.agg #[.int .i64 r.1.Ring,.int .i64 r.1.A.Rows,.int .i64 r.1.A.Cols,.slice p4 r.1.A.Start.length c5,.slice p7 r.1.A.Col.length c8,.slice p10 r.1.A.Val.length c11,.int .i64 r.1.B.Rows,.int .i64 r.1.B.Cols,.slice p13 r.1.B.Start.length c14,.slice p16 r.1.B.Col.length c17,.slice p19 r.1.B.Val.length c20,.int .i64 r.1.Mask.Rows,.int .i64 r.1.Mask.Cols,.slice p22 r.1.Mask.Start.length c23,.slice p25 r.1.Mask.Col.length c26,.slice p28 r.1.Mask.Val.length c29,.int .i64 r.1.R,.int .i64 r.1.C,.int .i64 r.1.Room],.int .i64 r.2]∧RepSl AE I_ p4 c5 r.1.A.Start∧RepSl AE I_ p7 c8 r.1.A.Col∧RepSl AE I_ p10 c11 r.1.A.Val∧RepSl AE I_ p13 c14 r.1.B.Start∧RepSl AE I_ p16 c17 r.1.B.Col∧RepSl AE I_ p19 c20 r.1.B.Val∧RepSl AE I_ p22 c23 r.1.Mask.Start∧RepSl AE I_ p25 c26 r.1.Mask.Col∧RepSl AE I_ p28 c29 r.1.Mask.Val∧Q r
abbrev AfT (Q:(List (Int×Int×Int))→Prop):IH→Value→Prop:=fun I_ v=>∃ r p4 c5,v=.slice p4 r.length c5∧RepSl Ad5 I_ p4 c5 r∧Q r
abbrev AfU (Q:(List Int)→Prop):IH→Value→Prop:=fun I_ v=>∃ r p4 c5,v=.slice p4 r.length c5∧RepSl AE I_ p4 c5 r∧Q r
abbrev lH:=@Tryz.underlying2
abbrev Z5:=@Tryz.underlying3
abbrev un5:=@Tryz.underlying5
abbrev OZ:=@Tryz.underlying22
abbrev AfV:=@Tryz.underlying24
abbrev vD:=@Tryz.underlying25
abbrev WQ:=@Tryz.underlying26
abbrev BX:=@Tryz.underlying30
abbrev UA:=@Tryz.underlying31
abbrev IZ:=@Tryz.underlying33
abbrev vE:=@Tryz.underlying40
abbrev AcC:=@Tryz.underlying47
abbrev AcD:=@Tryz.underlying49
abbrev vF:=@Tryz.underlying53
abbrev FS:=@Tryz.underlying54
abbrev Z6:=@Tryz.underlying60
abbrev AfW:=@Tryz.underlying63
abbrev AfX:=@Tryz.underlying71
abbrev EI:=@Tryz.underlying76
abbrev AfY:=@Tryz.underlying90
abbrev AfZ:=@Tryz.underlying99
abbrev dG:=@Tryz.underlying103
abbrev RN:=@Tryz.underlying109
abbrev fW:=@Tryz.underlying113
abbrev YN:=@Tryz.underlying116
abbrev dH:=@Tryz.underlying118
abbrev PQ:=@Tryz.underlying119
abbrev jP:=@Tryz.underlying124
abbrev aJ:=@Tryz.underlying125
abbrev Af6:=@Tryz.underlying131
abbrev Af7:=@Tryz.underlying132
abbrev Af8:=@Tryz.underlying134
abbrev Af9:=@Tryz.underlying136
abbrev AfA:=@Tryz.underlying137
abbrev AfB:=@Tryz.underlying141
abbrev aK:=@Tryz.underlying146
abbrev MP:=@Tryz.underlying155
abbrev MQ:=@Tryz.underlying157
abbrev PA:=@Tryz.underlying169
abbrev AfC:=@Tryz.underlying181
abbrev tK:=@Tryz.underlying194
abbrev oH:=@Tryz.underlying196
abbrev fX:=@Tryz.underlying200
abbrev fY:=@Tryz.underlying206
abbrev jQ:=@Tryz.underlying211
abbrev dI:=@Tryz.underlying227
abbrev AfD:=@Tryz.underlying236
abbrev aL:=@Tryz.underlying240
abbrev AfE:=@Tryz.underlying272
abbrev RO:=@Tryz.underlying290
abbrev tL:=@Tryz.underlying313
abbrev KK:=@Tryz.underlying351
abbrev wT:=@Tryz.sizeOf2
abbrev FQ:=@Tryz.sizeOf3
abbrev wU:=@Tryz.sizeOf5
abbrev Ag0:=@Tryz.sizeOf24
abbrev xS:=@Tryz.sizeOf30
abbrev AR:=@Tryz.sizeOf33
abbrev RP:=@Tryz.sizeOf40
abbrev TC:=@Tryz.sizeOf47
abbrev RQ:=@Tryz.sizeOf49
abbrev xT:=@Tryz.sizeOf76
abbrev Ag1:=@Tryz.sizeOf99
abbrev FT:=@Tryz.sizeOf103
abbrev Ac1:=@Tryz.sizeOf125
abbrev fZ:=@Tryz.sizeOf129
abbrev KL:=@Tryz.sizeOf155
abbrev AU:=@Tryz.sizeOf157
abbrev BW:=@Tryz.sizeOf161
abbrev IL:=@Tryz.sizeOf169
abbrev FA:=@Tryz.sizeOf196
abbrev Y6:=@Tryz.isAgg2
abbrev BJ:=@Tryz.isAgg3
abbrev rE:=@Tryz.isAgg5
abbrev Ag2:=@Tryz.isAgg22
abbrev Ag3:=@Tryz.isAgg24
abbrev FC:=@Tryz.isAgg30
abbrev iR:=@Tryz.isAgg31
abbrev BR:=@Tryz.isAgg33
abbrev bY:=@Tryz.isAgg37
abbrev VA:=@Tryz.isAgg40
abbrev iS:=@Tryz.isAgg47
abbrev xU:=@Tryz.isAgg49
abbrev WR:=@Tryz.isAgg116
abbrev JM:=@Tryz.isAgg122
abbrev YO:=@Tryz.isAgg125
abbrev AfF:=@Tryz.isAgg131
abbrev ED:=@Tryz.isAgg155
abbrev BQ:=@Tryz.isAgg157
abbrev HV:=@Tryz.isAgg161
abbrev NK:=@Tryz.isAgg169
abbrev PB:=@Tryz.isAgg196
abbrev qN:=@Tryz.zeroValue3
abbrev Ag4:=@Tryz.zeroValue24
abbrev DF:=@Tryz.zeroValue33
abbrev oI:=@Tryz.zeroValue40
abbrev vG:=@Tryz.zeroValue47
abbrev xV:=@Tryz.zeroValue49
abbrev Ag5:=@Tryz.zeroValue99
abbrev LZ:=@Tryz.zeroValue103
abbrev jR:=@Tryz.zeroValue112
abbrev xW:=@Tryz.zeroValue129
abbrev DP:=@Tryz.zeroValue157
abbrev dJ:=@Tryz.zeroValue161
abbrev MA:=@Tryz.zeroValue169
abbrev jS:=@Tryz.zeroValue183
abbrev RR:=@Tryz.zeroValue196
abbrev aM:=@Tryz.zeroValue206
abbrev jT:=@Tryz.zeroValue351
end Go.Proofs.YtbohadngdkjljaaGreat
