/- Closed facts of the program (printed by a program of ours). -/
import Derived.Test.YtbohadngdkjljaaGreatT
import Derived.Test.YtbohadngdkjljaaGreatFwL
import Derived.Test.YtbohadngdkjljaaGreatChecked
import Derived.Laws.StructEq
import Derived.KernelRfl
namespace Go.Proofs.YtbohadngdkjljaaGreat
open Go Go.Fw
set_option linter.unusedVariables false
set_option linter.unusedSimpArgs false
set_option maxRecDepth 8000
set_option maxHeartbeats 1000000
theorem MX:Tryz.prog.follows .mixedOrders=true:=by kernel_rfl
abbrev tbP:List (Nat×List Nat):=[(24,[0,1]),(28,[0,1]),(33,[0,1,2,3,4]),(40,[0,1,6,11,16,17,18]),(47,[0,1,2,3]),(49,[0,1,2]),(56,[0,1,4,5,6]),(58,[0,7,8,9]),(85,[0,2,3,4]),(103,[0,1,2]),(112,[0,1]),(121,[0,19,20,21]),(127,[0,1,2,7,8,9,10]),(129,[0,1,2,3]),(134,[0,19,20,21]),(139,[0,1,2,7,8,9,10,11,12,13]),(157,[0,1]),(161,[0,1,2]),(183,[0,1,3,4,5,6,7]),(193,[0,1]),(196,[0,1,2,3,4,5,7,8,9,10]),(199,[0,1,2,3]),(213,[0,1,2,3,4,5])]
theorem wO:AllOk Tryz.prog tbP:=
 ⟨⟨⟨_,_,_,Tryz.underlying24,rfl,Tryz.sizeOf3,rfl⟩,⟨_,_,_,Tryz.underlying24,rfl,Tryz.sizeOf22,rfl⟩,trivial⟩,⟨⟨_,_,_,Tryz.underlying28,rfl,Tryz.sizeOf26,rfl⟩,⟨_,_,_,Tryz.underlying28,rfl,Tryz.sizeOf5,rfl⟩,trivial⟩,⟨⟨_,_,_,Tryz.underlying33,rfl,Tryz.sizeOf3,rfl⟩,⟨_,_,_,Tryz.underlying33,rfl,Tryz.sizeOf3,rfl⟩,⟨_,_,_,Tryz.underlying33,rfl,Tryz.sizeOf30,rfl⟩,⟨_,_,_,Tryz.underlying33,rfl,Tryz.sizeOf30,rfl⟩,⟨_,_,_,Tryz.underlying33,rfl,Tryz.sizeOf31,rfl⟩,trivial⟩,⟨⟨_,_,_,Tryz.underlying40,rfl,Tryz.sizeOf37,rfl⟩,⟨_,_,_,Tryz.underlying40,rfl,Tryz.sizeOf33,rfl⟩,⟨_,_,_,Tryz.underlying40,rfl,Tryz.sizeOf33,rfl⟩,⟨_,_,_,Tryz.underlying40,rfl,Tryz.sizeOf33,rfl⟩,⟨_,_,_,Tryz.underlying40,rfl,Tryz.sizeOf3,rfl⟩,⟨_,_,_,Tryz.underlying40,rfl,Tryz.sizeOf3,rfl⟩,⟨_,_,_,Tryz.underlying40,rfl,Tryz.sizeOf3,rfl⟩,trivial⟩,⟨⟨_,_,_,Tryz.underlying47,rfl,Tryz.sizeOf45,rfl⟩,⟨_,_,_,Tryz.underlying47,rfl,Tryz.sizeOf3,rfl⟩,⟨_,_,_,Tryz.underlying47,rfl,Tryz.sizeOf3,rfl⟩,⟨_,_,_,Tryz.underlying47,rfl,Tryz.sizeOf3,rfl⟩,trivial⟩,⟨⟨_,_,_,Tryz.underlying49,rfl,Tryz.sizeOf3,rfl⟩,⟨_,_,_,Tryz.underlying49,rfl,Tryz.sizeOf3,rfl⟩,⟨_,_,_,Tryz.underlying49,rfl,Tryz.sizeOf2,rfl⟩,trivial⟩,⟨⟨_,_,_,Tryz.underlying56,rfl,Tryz.sizeOf37,rfl⟩,⟨_,_,_,Tryz.underlying56,rfl,Tryz.sizeOf53,rfl⟩,⟨_,_,_,Tryz.underlying56,rfl,Tryz.sizeOf54,rfl⟩,⟨_,_,_,Tryz.underlying56,rfl,Tryz.sizeOf54,rfl⟩,⟨_,_,_,Tryz.underlying56,rfl,Tryz.sizeOf54,rfl⟩,trivial⟩,⟨⟨_,_,_,Tryz.underlying58,rfl,Tryz.sizeOf56,rfl⟩,⟨_,_,_,Tryz.underlying58,rfl,Tryz.sizeOf5,rfl⟩,⟨_,_,_,Tryz.underlying58,rfl,Tryz.sizeOf5,rfl⟩,⟨_,_,_,Tryz.underlying58,rfl,Tryz.sizeOf5,rfl⟩,trivial⟩,⟨⟨_,_,_,Tryz.underlying85,rfl,Tryz.sizeOf24,rfl⟩,⟨_,_,_,Tryz.underlying85,rfl,Tryz.sizeOf3,rfl⟩,⟨_,_,_,Tryz.underlying85,rfl,Tryz.sizeOf5,rfl⟩,⟨_,_,_,Tryz.underlying85,rfl,Tryz.sizeOf5,rfl⟩,trivial⟩,⟨⟨_,_,_,Tryz.underlying103,rfl,Tryz.sizeOf3,rfl⟩,⟨_,_,_,Tryz.underlying103,rfl,Tryz.sizeOf3,rfl⟩,⟨_,_,_,Tryz.underlying103,rfl,Tryz.sizeOf2,rfl⟩,trivial⟩,⟨⟨_,_,_,Tryz.underlying112,rfl,Tryz.sizeOf3,rfl⟩,⟨_,_,_,Tryz.underlying112,rfl,Tryz.sizeOf2,rfl⟩,trivial⟩,⟨⟨_,_,_,Tryz.underlying121,rfl,Tryz.sizeOf40,rfl⟩,⟨_,_,_,Tryz.underlying121,rfl,Tryz.sizeOf116,rfl⟩,⟨_,_,_,Tryz.underlying121,rfl,Tryz.sizeOf119,rfl⟩,⟨_,_,_,Tryz.underlying121,rfl,Tryz.sizeOf118,rfl⟩,trivial⟩,⟨⟨_,_,_,Tryz.underlying127,rfl,Tryz.sizeOf3,rfl⟩,⟨_,_,_,Tryz.underlying127,rfl,Tryz.sizeOf3,rfl⟩,⟨_,_,_,Tryz.underlying127,rfl,Tryz.sizeOf33,rfl⟩,⟨_,_,_,Tryz.underlying127,rfl,Tryz.sizeOf125,rfl⟩,⟨_,_,_,Tryz.underlying127,rfl,Tryz.sizeOf124,rfl⟩,⟨_,_,_,Tryz.underlying127,rfl,Tryz.sizeOf3,rfl⟩,⟨_,_,_,Tryz.underlying127,rfl,Tryz.sizeOf76,rfl⟩,trivial⟩,⟨⟨_,_,_,Tryz.underlying129,rfl,Tryz.sizeOf3,rfl⟩,⟨_,_,_,Tryz.underlying129,rfl,Tryz.sizeOf3,rfl⟩,⟨_,_,_,Tryz.underlying129,rfl,Tryz.sizeOf3,rfl⟩,⟨_,_,_,Tryz.underlying129,rfl,Tryz.sizeOf3,rfl⟩,trivial⟩,⟨⟨_,_,_,Tryz.underlying134,rfl,Tryz.sizeOf40,rfl⟩,⟨_,_,_,Tryz.underlying134,rfl,Tryz.sizeOf116,rfl⟩,⟨_,_,_,Tryz.underlying134,rfl,Tryz.sizeOf131,rfl⟩,⟨_,_,_,Tryz.underlying134,rfl,Tryz.sizeOf132,rfl⟩,trivial⟩,⟨⟨_,_,_,Tryz.underlying139,rfl,Tryz.sizeOf3,rfl⟩,⟨_,_,_,Tryz.underlying139,rfl,Tryz.sizeOf3,rfl⟩,⟨_,_,_,Tryz.underlying139,rfl,Tryz.sizeOf33,rfl⟩,⟨_,_,_,Tryz.underlying139,rfl,Tryz.sizeOf125,rfl⟩,⟨_,_,_,Tryz.underlying139,rfl,Tryz.sizeOf136,rfl⟩,⟨_,_,_,Tryz.underlying139,rfl,Tryz.sizeOf136,rfl⟩,⟨_,_,_,Tryz.underlying139,rfl,Tryz.sizeOf137,rfl⟩,⟨_,_,_,Tryz.underlying139,rfl,Tryz.sizeOf137,rfl⟩,⟨_,_,_,Tryz.underlying139,rfl,Tryz.sizeOf3,rfl⟩,⟨_,_,_,Tryz.underlying139,rfl,Tryz.sizeOf76,rfl⟩,trivial⟩,⟨⟨_,_,_,Tryz.underlying157,rfl,Tryz.sizeOf2,rfl⟩,⟨_,_,_,Tryz.underlying157,rfl,Tryz.sizeOf155,rfl⟩,trivial⟩,⟨⟨_,_,_,Tryz.underlying161,rfl,Tryz.sizeOf3,rfl⟩,⟨_,_,_,Tryz.underlying161,rfl,Tryz.sizeOf3,rfl⟩,⟨_,_,_,Tryz.underlying161,rfl,Tryz.sizeOf157,rfl⟩,trivial⟩,⟨⟨_,_,_,Tryz.underlying183,rfl,Tryz.sizeOf37,rfl⟩,⟨_,_,_,Tryz.underlying183,rfl,Tryz.sizeOf25,rfl⟩,⟨_,_,_,Tryz.underlying183,rfl,Tryz.sizeOf54,rfl⟩,⟨_,_,_,Tryz.underlying183,rfl,Tryz.sizeOf109,rfl⟩,⟨_,_,_,Tryz.underlying183,rfl,Tryz.sizeOf109,rfl⟩,⟨_,_,_,Tryz.underlying183,rfl,Tryz.sizeOf181,rfl⟩,⟨_,_,_,Tryz.underlying183,rfl,Tryz.sizeOf4,rfl⟩,trivial⟩,⟨⟨_,_,_,Tryz.underlying193,rfl,Tryz.sizeOf3,rfl⟩,⟨_,_,_,Tryz.underlying193,rfl,Tryz.sizeOf109,rfl⟩,trivial⟩,⟨⟨_,_,_,Tryz.underlying196,rfl,Tryz.sizeOf191,rfl⟩,⟨_,_,_,Tryz.underlying196,rfl,Tryz.sizeOf3,rfl⟩,⟨_,_,_,Tryz.underlying196,rfl,Tryz.sizeOf3,rfl⟩,⟨_,_,_,Tryz.underlying196,rfl,Tryz.sizeOf3,rfl⟩,⟨_,_,_,Tryz.underlying196,rfl,Tryz.sizeOf3,rfl⟩,⟨_,_,_,Tryz.underlying196,rfl,Tryz.sizeOf193,rfl⟩,⟨_,_,_,Tryz.underlying196,rfl,Tryz.sizeOf194,rfl⟩,⟨_,_,_,Tryz.underlying196,rfl,Tryz.sizeOf54,rfl⟩,⟨_,_,_,Tryz.underlying196,rfl,Tryz.sizeOf2,rfl⟩,⟨_,_,_,Tryz.underlying196,rfl,Tryz.sizeOf4,rfl⟩,trivial⟩,⟨⟨_,_,_,Tryz.underlying199,rfl,Tryz.sizeOf3,rfl⟩,⟨_,_,_,Tryz.underlying199,rfl,Tryz.sizeOf3,rfl⟩,⟨_,_,_,Tryz.underlying199,rfl,Tryz.sizeOf3,rfl⟩,⟨_,_,_,Tryz.underlying199,rfl,Tryz.sizeOf125,rfl⟩,trivial⟩,⟨⟨_,_,_,Tryz.underlying213,rfl,Tryz.sizeOf3,rfl⟩,⟨_,_,_,Tryz.underlying213,rfl,Tryz.sizeOf30,rfl⟩,⟨_,_,_,Tryz.underlying213,rfl,Tryz.sizeOf210,rfl⟩,⟨_,_,_,Tryz.underlying213,rfl,Tryz.sizeOf211,rfl⟩,⟨_,_,_,Tryz.underlying213,rfl,Tryz.sizeOf3,rfl⟩,⟨_,_,_,Tryz.underlying213,rfl,Tryz.sizeOf3,rfl⟩,trivial⟩,trivial⟩
section
variable {n:FrK} {E E1 E' E2:DE} {S:World→Prop} {Q Q':Exit→Act→World→Prop} {ops:Array Oper} {l l' l2:List Oper} {z:Code} {id:Nat}
theorem _root_.Go.Fw.Ops.ks (j:Nat) (h:gX tbP ops n j l E=some (l',E')) (g:Ops Tryz.prog ops l' n E' S Q):Ops Tryz.prog ops l n E S Q:=.ksT wO j h g
theorem _root_.Go.Fw.Ops.nk (ks:List Nat) (j:Nat) (h:(UP ks E [],(fun a w=>Q .normal a w),gX tbP l2.toArray n j l2 E')=(some E',(fun a w=>(Code.seq (.region id l2.toArray false) z).wpIn (RE n) 0 Tryz.prog Q' a w),some (l',E2))) (g:Ops Tryz.prog l2.toArray l' n E2 S (Exit.then (z.wpIn (RE n) 0 Tryz.prog Q') Q')):Ops Tryz.prog ops [] n E S Q:=.nkT wO ks j h g
theorem _root_.Go.Fw.Cod.sk (j:Nat) (h:gX tbP l.toArray n j l E=some (l',E')) (g:Ops Tryz.prog l.toArray l' n E' S (Exit.then (z.wpIn (RE n) 0 Tryz.prog Q) Q)):Cod Tryz.prog (.seq (.region id l.toArray false) z) n E S Q:=.skT wO j h g
theorem _root_.Go.Fw.Ops.kn (j:Nat) (ks:List Nat) (h:(gX tbP ops n j l E,UP ks E1 [],fun a w=>Q .normal a w)=(some ([],E1),some E',fun a w=>z.wpIn (RE n) 0 Tryz.prog Q' a w)) (g:Cod Tryz.prog z n E' S Q'):Ops Tryz.prog ops l n E S Q:=.knT wO j ks h g
variable {w0:World} {M:Nat→Prop} {I0 I:IH} {cs cs':List (Option Nat)} {dn dn':HK} {X X' pend pd':List Nat} {asn:List AS} {L:Sh} {Sd:List HA→World→Prop} {g fs:List Nat} {A B:List (Option (Nat×Value))}
theorem _root_.Go.Fw.DrawD.fk (k:Nat) (h:yQ tbP ops n E k cs dn X pend=some (cs',dn',X',pd')) (kk:DrawD Tryz.prog ops n Q w0 M I0 E cs' dn' X' pd' asn I L):DrawD Tryz.prog ops n Q w0 M I0 E cs dn X pend asn I L:=.fkT wO k h kk
theorem _root_.Go.Fw.PendL.ck (k:Nat) (h:yS tbP ops n E dn k fs=some (g,A,B)) (hAB:A=B) (kk:PendL Tryz.prog ops n E dn Sd g):PendL Tryz.prog ops n E dn Sd fs:=.ckT wO k h hAB kk
end
theorem IN2:Tryz.prog.info? 2=some Tryz.t2:=by kernel_rfl
theorem IN3:Tryz.prog.info? 3=some Tryz.t3:=by kernel_rfl
theorem IN4:Tryz.prog.info? 4=some Tryz.t4:=by kernel_rfl
theorem AgF:Tryz.prog.info? 24=some Tryz.t24:=by kernel_rfl
theorem AgG:(Tryz.prog.fieldsOf 24).toList.all (fun f=>(Tryz.prog.info? f.type).isSome)=true:=by kernel_rfl
theorem AgH:Tryz.prog.info? 25=some Tryz.t25:=by kernel_rfl
theorem AgI:Tryz.prog.info? 30=some Tryz.t30:=by kernel_rfl
theorem Ae7:Tryz.prog.info? 33=some Tryz.t33:=by kernel_rfl
theorem JJ:(Tryz.prog.fieldsOf 33).toList.all (fun f=>(Tryz.prog.info? f.type).isSome)=true:=by kernel_rfl
theorem AgJ:Tryz.prog.info? 40=some Tryz.t40:=by kernel_rfl
theorem AbM:(Tryz.prog.fieldsOf 40).toList.all (fun f=>(Tryz.prog.info? f.type).isSome)=true:=by kernel_rfl
theorem Af5:Tryz.prog.info? 47=some Tryz.t47:=by kernel_rfl
theorem Ad9:(Tryz.prog.fieldsOf 47).toList.all (fun f=>(Tryz.prog.info? f.type).isSome)=true:=by kernel_rfl
theorem Ae8:Tryz.prog.info? 49=some Tryz.t49:=by kernel_rfl
theorem AdA:(Tryz.prog.fieldsOf 49).toList.all (fun f=>(Tryz.prog.info? f.type).isSome)=true:=by kernel_rfl
theorem AgK:Tryz.prog.info? 54=some Tryz.t54:=by kernel_rfl
theorem AgL:Tryz.prog.info? 76=some Tryz.t76:=by kernel_rfl
theorem AgM:Tryz.prog.info? 99=some Tryz.t99:=by kernel_rfl
theorem bO:Tryz.prog.info? 103=some Tryz.t103:=by kernel_rfl
theorem bP:(Tryz.prog.fieldsOf 103).toList.all (fun f=>(Tryz.prog.info? f.type).isSome)=true:=by kernel_rfl
theorem yX:Tryz.prog.info? 112=some Tryz.t112:=by kernel_rfl
theorem AcY:(Tryz.prog.fieldsOf 112).toList.all (fun f=>(Tryz.prog.info? f.type).isSome)=true:=by kernel_rfl
theorem AfK:Tryz.prog.info? 113=some Tryz.t113:=by kernel_rfl
theorem AfL:Tryz.prog.info? 121=some Tryz.t121:=by kernel_rfl
theorem Ae9:(Tryz.prog.fieldsOf 121).toList.all (fun f=>(Tryz.prog.info? f.type).isSome)=true:=by kernel_rfl
theorem AeA:Tryz.prog.info? 122=some Tryz.t122:=by kernel_rfl
theorem AfM:Tryz.prog.info? 127=some Tryz.t127:=by kernel_rfl
theorem AeB:(Tryz.prog.fieldsOf 127).toList.all (fun f=>(Tryz.prog.info? f.type).isSome)=true:=by kernel_rfl
theorem AeC:Tryz.prog.info? 129=some Tryz.t129:=by kernel_rfl
theorem AeD:(Tryz.prog.fieldsOf 129).toList.all (fun f=>(Tryz.prog.info? f.type).isSome)=true:=by kernel_rfl
theorem AfN:Tryz.prog.info? 134=some Tryz.t134:=by kernel_rfl
theorem AfO:(Tryz.prog.fieldsOf 134).toList.all (fun f=>(Tryz.prog.info? f.type).isSome)=true:=by kernel_rfl
theorem AfP:Tryz.prog.info? 135=some Tryz.t135:=by kernel_rfl
theorem AfQ:Tryz.prog.info? 139=some Tryz.t139:=by kernel_rfl
theorem AfR:(Tryz.prog.fieldsOf 139).toList.all (fun f=>(Tryz.prog.info? f.type).isSome)=true:=by kernel_rfl
theorem AfS:Tryz.prog.info? 141=some Tryz.t141:=by kernel_rfl
theorem AfT:Tryz.prog.info? 155=some Tryz.t155:=by kernel_rfl
theorem AeE:Tryz.prog.info? 157=some Tryz.t157:=by kernel_rfl
theorem KX:(Tryz.prog.fieldsOf 157).toList.all (fun f=>(Tryz.prog.info? f.type).isSome)=true:=by kernel_rfl
theorem kR:Tryz.prog.info? 161=some Tryz.t161:=by kernel_rfl
theorem yY:(Tryz.prog.fieldsOf 161).toList.all (fun f=>(Tryz.prog.info? f.type).isSome)=true:=by kernel_rfl
theorem AfU:Tryz.prog.info? 169=some Tryz.t169:=by kernel_rfl
theorem AfV:Tryz.prog.info? 181=some Tryz.t181:=by kernel_rfl
theorem AfW:Tryz.prog.info? 183=some Tryz.t183:=by kernel_rfl
theorem yZ:(Tryz.prog.fieldsOf 183).toList.all (fun f=>(Tryz.prog.info? f.type).isSome)=true:=by kernel_rfl
theorem AeF:Tryz.prog.info? 196=some Tryz.t196:=by kernel_rfl
theorem pM:(Tryz.prog.fieldsOf 196).toList.all (fun f=>(Tryz.prog.info? f.type).isSome)=true:=by kernel_rfl
theorem AfX:Tryz.prog.info? 199=some Tryz.t199:=by kernel_rfl
theorem AfY:(Tryz.prog.fieldsOf 199).toList.all (fun f=>(Tryz.prog.info? f.type).isSome)=true:=by kernel_rfl
theorem AfZ:Tryz.prog.info? 206=some Tryz.t206:=by kernel_rfl
theorem hU:(Tryz.prog.fieldsOf 206).toList.all (fun f=>(Tryz.prog.info? f.type).isSome)=true:=by kernel_rfl
theorem Ag0:Tryz.prog.info? 213=some Tryz.t213:=by kernel_rfl
theorem AeG:(Tryz.prog.fieldsOf 213).toList.all (fun f=>(Tryz.prog.info? f.type).isSome)=true:=by kernel_rfl
theorem AeH:Tryz.prog.info? 289=some Tryz.t289:=by kernel_rfl
theorem Ag1:(Tryz.prog.fieldsOf 289).toList.all (fun f=>(Tryz.prog.info? f.type).isSome)=true:=by kernel_rfl
theorem Ag2:Tryz.prog.info? 351=some Tryz.t351:=by kernel_rfl
theorem Af6:Tryz.prog.info? 3=some Tryz.t3:=by kernel_rfl
theorem AgN (x y:Int×Int×Int) (w:World):(Op.equal 99 (.agg #[.int .i64 x.1,.int .i64 x.2.1,.int .i64 x.2.2]) (.agg #[.int .i64 y.1,.int .i64 y.2.1,.int .i64 y.2.2])).run Tryz.prog w=.ok (x==y) w:=AbK 9998 Tryz.underlying99 Af6 Tryz.underlying3 (by kernel_rfl) Tryz.isAgg3 x y w
theorem AgO (o:BinOp) (x y:Operand) (u v:Array Value) (w:World):(eqGuard o 99 x y (.agg u) (.agg v)).run Tryz.prog w=.ok () w:=run_eqGuard_agg w o 99 x y u v (by kernel_rfl)
theorem kS (x y:AN) (w:World):(Op.equal 157 (.agg (EI x).toArray) (.agg (EI y).toArray)).run Tryz.prog w=.ok (x==y) w:=by
  refine Eq.trans ((eqS (k:=9999) Tryz.underlying157 (by kernel_rfl) (eqC (by decide) Tryz.isAgg2 rfl rfl (eqI (k:=9998) Tryz.underlying2) (eqC (by decide) Tryz.isAgg155 rfl rfl (eqI (k:=9998) Tryz.underlying155) eqN))) w) (congrArg (fun b=>Result.ok b w) (Bool.eq_iff_iff.2 ?_))
  obtain ⟨x_0,x_1⟩:=x; obtain ⟨y_0,y_1⟩:=y
  simp [and_assoc]
theorem kT (o:BinOp) (x y:Operand) (u v:Array Value) (w:World):(eqGuard o 157 x y (.agg u) (.agg v)).run Tryz.prog w=.ok () w:=run_eqGuard_agg w o 157 x y u v (by kernel_rfl)
theorem AeI (x y:AK) (w:World):(Op.equal 161 (.agg (PC x).toArray) (.agg (PC y).toArray)).run Tryz.prog w=.ok (x==y) w:=by
  refine Eq.trans ((eqS (k:=9999) Tryz.underlying161 (by kernel_rfl) (eqC (by decide) Tryz.isAgg3 rfl rfl (eqI (k:=9998) Tryz.underlying3) (eqC (by decide) Tryz.isAgg3 rfl rfl (eqI (k:=9998) Tryz.underlying3) (eqA (by decide) Tryz.isAgg157 Tryz.sizeOf157 (eqS (k:=9998) Tryz.underlying157 (by kernel_rfl) (eqC (by decide) Tryz.isAgg2 rfl rfl (eqI (k:=9997) Tryz.underlying2) (eqC (by decide) Tryz.isAgg155 rfl rfl (eqI (k:=9997) Tryz.underlying155) eqN))) eqN)))) w) (congrArg (fun b=>Result.ok b w) (Bool.eq_iff_iff.2 ?_))
  obtain ⟨x_0,x_1,x_2⟩:=x; obtain ⟨x_2_0,x_2_1⟩:=x_2; obtain ⟨y_0,y_1,y_2⟩:=y; obtain ⟨y_2_0,y_2_1⟩:=y_2
  simp [and_assoc]
theorem AeJ (o:BinOp) (x y:Operand) (u v:Array Value) (w:World):(eqGuard o 161 x y (.agg u) (.agg v)).run Tryz.prog w=.ok () w:=run_eqGuard_agg w o 161 x y u v (by kernel_rfl)
theorem AeK (x y:BB) (w:World):(Op.equal 206 (.agg (UA x).toArray) (.agg (UA y).toArray)).run Tryz.prog w=.ok (x==y) w:=by
  refine Eq.trans ((eqS (k:=9999) Tryz.underlying206 (by kernel_rfl) (eqC (by decide) Tryz.isAgg191 rfl rfl (eqI (k:=9998) Tryz.underlying191) (eqC (by decide) Tryz.isAgg3 rfl rfl (eqI (k:=9998) Tryz.underlying3) eqN))) w) (congrArg (fun b=>Result.ok b w) (Bool.eq_iff_iff.2 ?_))
  obtain ⟨x_0,x_1⟩:=x; obtain ⟨y_0,y_1⟩:=y
  simp [and_assoc]
theorem Ag3 (o:BinOp) (x y:Operand) (u v:Array Value) (w:World):(eqGuard o 206 x y (.agg u) (.agg v)).run Tryz.prog w=.ok () w:=run_eqGuard_agg w o 206 x y u v (by kernel_rfl)
theorem IX3:Tryz.prog.info? 3=some Tryz.t3:=by kernel_rfl
theorem ZF:XF Tryz.prog 169 CI:=AbE Tryz.underlying169 IX3 Tryz.underlying3 (by kernel_rfl) Tryz.isAgg3 Tryz.sizeOf3
theorem kU:XF Tryz.prog 206 FF:=AbJ (fun _=>rfl) Tryz.underlying206 Tryz.underlying191 Tryz.underlying3 rfl rfl Tryz.isAgg191 Tryz.isAgg3 (fun k x w=>AeK k x w)
abbrev gE (Q:Bool→Prop):Value→Prop:=fun v=>∃ r,v=.bool r∧Q r
abbrev rV (Q:AN→Prop):Value→Prop:=fun v=>∃ r,v=.agg (EI r).toArray∧Q r
abbrev hZ (Q:Int→Prop):Value→Prop:=fun v=>∃ r,v=.int .i64 r∧Q r
abbrev o3_ (Q:(Int×Bool)→Prop):Value→Prop:=fun v=>∃ r,v=.tuple #[.int .i64 r.1,.bool r.2]∧Q r
abbrev o4_ (Q:AcX→Prop):Value→List HA→Prop:=fun v l=>∃ r p4 c5,v=.agg #[.int .i64 r.N,.slice p4 r.Edges.length c5]∧l=[OwnSl WT 49 p4 c5 r.Edges]∧Q r
abbrev o5_ (Q:AcX→Prop):IH→Value→Prop:=fun I_ v=>∃ r p4 c5,v=.agg #[.int .i64 r.N,.slice p4 r.Edges.length c5]∧RepSl WT I_ p4 c5 r.Edges∧Q r
abbrev o6_ (Q:Rows→Prop):Value→List HA→Prop:=fun v l=>∃ r p1 c2 p4 c5 p7 c8,v=.agg #[.int .i64 r.Rows,.int .i64 r.Cols,.slice p1 r.Start.length c2,.slice p4 r.Col.length c5,.slice p7 r.Val.length c8]∧l=[OwnSl AE 3 p1 c2 r.Start,OwnSl AE 3 p4 c5 r.Col,OwnSl AE 2 p7 c8 r.Val]∧Q r
abbrev o7_ (Q:Rows→Prop):IH→Value→Prop:=fun I_ v=>∃ r p4 c5 p7 c8 p10 c11,v=.agg #[.int .i64 r.Rows,.int .i64 r.Cols,.slice p4 r.Start.length c5,.slice p7 r.Col.length c8,.slice p10 r.Val.length c11]∧RepSl AE I_ p4 c5 r.Start∧RepSl AE I_ p7 c8 r.Col∧RepSl AE I_ p10 c11 r.Val∧Q r
abbrev o8_ (Q:(Rows×Int)→Prop):IH→Value→Prop:=fun I_ v=>∃ r p4 c5 p7 c8 p10 c11,v=.tuple #[.agg #[.int .i64 r.1.Rows,.int .i64 r.1.Cols,.slice p4 r.1.Start.length c5,.slice p7 r.1.Col.length c8,.slice p10 r.1.Val.length c11],.int .i64 r.2]∧RepSl AE I_ p4 c5 r.1.Start∧RepSl AE I_ p7 c8 r.1.Col∧RepSl AE I_ p10 c11 r.1.Val∧Q r
abbrev o9_ (Q:Rows→Prop):IH→Value→Prop:=fun I_ v=>∃ r p1 c2 p4 c5 p7 c8,v=.agg #[.int .i64 r.Rows,.int .i64 r.Cols,.slice p1 r.Start.length c2,.slice p4 r.Col.length c5,.slice p7 r.Val.length c8]∧RepSl AE I_ p1 c2 r.Start∧RepSl AE I_ p4 c5 r.Col∧RepSl AE I_ p7 c8 r.Val∧Q r
abbrev Af7 (Q:(List AY)→Prop):IH→Value→Prop:=fun I_ v=>∃ r p1 c2,v=.slice p1 r.length c2∧RepSl BR I_ p1 c2 r∧Q r
abbrev AbN (Q:Rows→Prop):IH→Value→Prop:=fun I_ v=>∃ r p10 c11 p13 c14 p16 c17,v=.agg #[.int .i64 r.Rows,.int .i64 r.Cols,.slice p10 r.Start.length c11,.slice p13 r.Col.length c14,.slice p16 r.Val.length c17]∧RepSl AE I_ p10 c11 r.Start∧RepSl AE I_ p13 c14 r.Col∧RepSl AE I_ p16 c17 r.Val∧Q r
abbrev Af8 (Q:(Int×Int)→Prop):Value→Prop:=fun v=>∃ r,v=.tuple #[.int .i64 r.1,.int .i64 r.2]∧Q r
abbrev AeL (Q:((List Int)×(List Int))→Prop):IH→Value→Prop:=fun I_ v=>∃ r p10 c11 p13 c14,v=.tuple #[.slice p10 r.1.length c11,.slice p13 r.2.length c14]∧RepSl AE I_ p10 c11 r.1∧RepSl AE I_ p13 c14 r.2∧Q r
abbrev AeM (Q:(List CF)→Prop):IH→Value→Prop:=fun I_ v=>∃ r p10 c11,v=.slice p10 r.length c11∧RepSl MJ I_ p10 c11 r∧Q r
abbrev AeN (Q:(Int×Int)→Prop):Value→Prop:=fun v=>∃ r,v=.agg #[.int .i64 r.1,.int .i64 r.2]∧Q r
abbrev AeO (Q:(List AC)→Prop):IH→Value→Prop:=fun I_ v=>∃ r p10 c11,v=.slice p10 r.length c11∧RepSl AW I_ p10 c11 r∧Q r
abbrev AeP (Q:(List AC)→Prop):IH→Value→Prop:=fun I_ v=>∃ r p4 c5,v=.slice p4 r.length c5∧RepSl AW I_ p4 c5 r∧Q r
abbrev Af9 (Q:BN→Prop):IH→Value→Prop:=fun I_ v=>∃ r p10 c11 p13 c14 p16 c17,v=.agg #[.int .i64 r.Kind,.int .i64 r.From,.int .i64 r.To,.int .i64 r.Seq,.int .i64 r.Round,.int .i64 r.Vec.N,.slice p10 r.Vec.Items.length c11,.slice p13 r.Sums.length c14,.slice p16 r.Triples.length c17,.int .i64 r.N,.bool r.Over]∧RepSl MJ I_ p10 c11 r.Vec.Items∧RepSl dK I_ p13 c14 r.Sums∧RepSl AW I_ p16 c17 r.Triples∧Q r
abbrev AeQ (Q:Int→Prop):Value→Prop:=fun v=>∃ r,v=.int .u64 r∧Q r
abbrev AeR (Q:((List AK)×Int)→Prop):IH→Value→Prop:=fun I_ v=>∃ r p28 c29,v=.tuple #[.slice p28 r.1.length c29,.int .i64 r.2]∧RepSl CG I_ p28 c29 r.1∧Q r
abbrev AfA (Q:((List AK)×Int)→Prop):IH→Value→Prop:=fun I_ v=>∃ r p4 c5,v=.tuple #[.slice p4 r.1.length c5,.int .i64 r.2]∧RepSl CG I_ p4 c5 r.1∧Q r
abbrev AfB (Q:(Rows×Bool×Int)→Prop):IH→Value→Prop:=fun I_ v=>∃ r p31 c32 p34 c35 p37 c38,v=.tuple #[.agg #[.int .i64 r.1.Rows,.int .i64 r.1.Cols,.slice p31 r.1.Start.length c32,.slice p34 r.1.Col.length c35,.slice p37 r.1.Val.length c38],.bool r.2.1,.int .i64 r.2.2]∧RepSl AE I_ p31 c32 r.1.Start∧RepSl AE I_ p34 c35 r.1.Col∧RepSl AE I_ p37 c38 r.1.Val∧Q r
abbrev AgP (Q:(DO×Bool)→Prop):Value→Prop:=fun v=>∃ r,v=.tuple #[.agg (gA r.1).toArray,.bool r.2]∧Q r
abbrev AgQ (Q:(BD×Int)→Prop):IH→Value→Prop:=fun I_ v=>∃ r p4 c5 p7 c8 p10 c11 p13 c14 p16 c17 p19 c20 p22 c23 p25 c26 p28 c29,v=.tuple #[.agg #[.int .i64 r.1.Ring,.int .i64 r.1.A.Rows,.int .i64 r.1.A.Cols,.slice p4 r.1.A.Start.length c5,.slice p7 r.1.A.Col.length c8,.slice p10 r.1.A.Val.length c11,.int .i64 r.1.B.Rows,.int .i64 r.1.B.Cols,.slice p13 r.1.B.Start.length c14,.slice p16 r.1.B.Col.length c17,.slice p19 r.1.B.Val.length c20,.int .i64 r.1.Mask.Rows,.int .i64 r.1.Mask.Cols,.slice p22 r.1.Mask.Start.length c23,.slice p25 r.1.Mask.Col.length c26,.slice p28 r.1.Mask.Val.length c29,.int .i64 r.1.R,.int .i64 r.1.C,.int .i64 r.1.Room],.int .i64 r.2]∧RepSl AE I_ p4 c5 r.1.A.Start∧RepSl AE I_ p7 c8 r.1.A.Col∧RepSl AE I_ p10 c11 r.1.A.Val∧RepSl AE I_ p13 c14 r.1.B.Start∧RepSl AE I_ p16 c17 r.1.B.Col∧RepSl AE I_ p19 c20 r.1.B.Val∧RepSl AE I_ p22 c23 r.1.Mask.Start∧RepSl AE I_ p25 c26 r.1.Mask.Col∧RepSl AE I_ p28 c29 r.1.Mask.Val∧Q r
abbrev AgR (Q:(List (Int×Int×Int))→Prop):IH→Value→Prop:=fun I_ v=>∃ r p4 c5,v=.slice p4 r.length c5∧RepSl Ae4 I_ p4 c5 r∧Q r
abbrev AgS (Q:(List Int)→Prop):IH→Value→Prop:=fun I_ v=>∃ r p4 c5,v=.slice p4 r.length c5∧RepSl AE I_ p4 c5 r∧Q r
abbrev kV:=@Tryz.underlying2
abbrev ZY:=@Tryz.underlying3
abbrev un5:=@Tryz.underlying5
abbrev PS:=@Tryz.underlying22
abbrev AgT:=@Tryz.underlying24
abbrev wP:=@Tryz.underlying25
abbrev ZZ:=@Tryz.underlying26
abbrev BX:=@Tryz.underlying30
abbrev TC:=@Tryz.underlying31
abbrev JK:=@Tryz.underlying33
abbrev AbO:=@Tryz.underlying40
abbrev AdB:=@Tryz.underlying47
abbrev AdC:=@Tryz.underlying49
abbrev wQ:=@Tryz.underlying53
abbrev ER:=@Tryz.underlying54
abbrev aA:=@Tryz.underlying60
abbrev AgU:=@Tryz.underlying63
abbrev AgV:=@Tryz.underlying71
abbrev DS:=@Tryz.underlying76
abbrev AgW:=@Tryz.underlying90
abbrev AgX:=@Tryz.underlying99
abbrev bQ:=@Tryz.underlying103
abbrev SK:=@Tryz.underlying109
abbrev iA:=@Tryz.underlying113
abbrev ZG:=@Tryz.underlying116
abbrev eU:=@Tryz.underlying118
abbrev QI:=@Tryz.underlying119
abbrev kW:=@Tryz.underlying124
abbrev bR:=@Tryz.underlying125
abbrev Ag4:=@Tryz.underlying131
abbrev Ag5:=@Tryz.underlying132
abbrev Ag6:=@Tryz.underlying134
abbrev Ag7:=@Tryz.underlying136
abbrev Ag8:=@Tryz.underlying137
abbrev Ag9:=@Tryz.underlying141
abbrev bS:=@Tryz.underlying146
abbrev MQ:=@Tryz.underlying155
abbrev KY:=@Tryz.underlying157
abbrev PT:=@Tryz.underlying169
abbrev AgA:=@Tryz.underlying181
abbrev uX:=@Tryz.underlying194
abbrev pN:=@Tryz.underlying196
abbrev iB:=@Tryz.underlying200
abbrev iC:=@Tryz.underlying206
abbrev kX:=@Tryz.underlying211
abbrev eV:=@Tryz.underlying227
abbrev AgB:=@Tryz.underlying236
abbrev bT:=@Tryz.underlying240
abbrev AgC:=@Tryz.underlying272
abbrev SM:=@Tryz.underlying290
abbrev uY:=@Tryz.underlying313
abbrev KZ:=@Tryz.underlying351
abbrev uZ:=@Tryz.sizeOf2
abbrev FI:=@Tryz.sizeOf3
abbrev yB:=@Tryz.sizeOf5
abbrev AgY:=@Tryz.sizeOf24
abbrev zA:=@Tryz.sizeOf30
abbrev AU:=@Tryz.sizeOf33
abbrev SN:=@Tryz.sizeOf40
abbrev WA:=@Tryz.sizeOf47
abbrev SO:=@Tryz.sizeOf49
abbrev zB:=@Tryz.sizeOf76
abbrev AgZ:=@Tryz.sizeOf99
abbrev ES:=@Tryz.sizeOf103
abbrev AcZ:=@Tryz.sizeOf125
abbrev iD:=@Tryz.sizeOf129
abbrev LB:=@Tryz.sizeOf155
abbrev AM:=@Tryz.sizeOf157
abbrev BT:=@Tryz.sizeOf161
abbrev IZ:=@Tryz.sizeOf169
abbrev FD:=@Tryz.sizeOf196
abbrev XC:=@Tryz.isAgg2
abbrev BL:=@Tryz.isAgg3
abbrev sR:=@Tryz.isAgg5
abbrev Ah0:=@Tryz.isAgg22
abbrev Ah1:=@Tryz.isAgg24
abbrev EL:=@Tryz.isAgg30
abbrev fL:=@Tryz.isAgg31
abbrev BQ:=@Tryz.isAgg33
abbrev aB:=@Tryz.isAgg37
abbrev WB:=@Tryz.isAgg40
abbrev jW:=@Tryz.isAgg47
abbrev zC:=@Tryz.isAgg49
abbrev XR:=@Tryz.isAgg116
abbrev JW:=@Tryz.isAgg122
abbrev ZH:=@Tryz.isAgg125
abbrev AgD:=@Tryz.isAgg131
abbrev EB:=@Tryz.isAgg155
abbrev BG:=@Tryz.isAgg157
abbrev HP:=@Tryz.isAgg161
abbrev OD:=@Tryz.isAgg169
abbrev PU:=@Tryz.isAgg196
abbrev rW:=@Tryz.zeroValue3
abbrev Ah2:=@Tryz.zeroValue24
abbrev DH:=@Tryz.zeroValue33
abbrev pO:=@Tryz.zeroValue40
abbrev sS:=@Tryz.zeroValue47
abbrev zD:=@Tryz.zeroValue49
abbrev Ah3:=@Tryz.zeroValue99
abbrev LC:=@Tryz.zeroValue103
abbrev kY:=@Tryz.zeroValue112
abbrev zF:=@Tryz.zeroValue129
abbrev CR:=@Tryz.zeroValue157
abbrev ZI:=@Tryz.zeroValue161
abbrev MR:=@Tryz.zeroValue169
abbrev kZ:=@Tryz.zeroValue183
abbrev SP:=@Tryz.zeroValue196
abbrev bU:=@Tryz.zeroValue206
abbrev lA:=@Tryz.zeroValue351
end Go.Proofs.YtbohadngdkjljaaGreat
