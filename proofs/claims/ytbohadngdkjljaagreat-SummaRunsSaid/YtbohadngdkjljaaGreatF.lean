/- Closed facts of the program. -/
import Derived.Test.YtbohadngdkjljaaGreatT
import Derived.Test.YtbohadngdkjljaaGreatFwL
import Derived.Test.YtbohadngdkjljaaGreatChecked
import Derived.Laws.StructEq
import Derived.KernelRfl
namespace Go.Proofs.YtbohadngdkjljaaGreat
open Go Go.Fw
set_option linter.unusedVariables false
set_option linter.unusedSimpArgs false
set_option maxRecDepth 8000
set_option maxHeartbeats 1000000
theorem MX:Tryz.prog.follows .mixedOrders=true:=by kernel_rfl
abbrev tbP:List (Nat×List Nat):=[(24,[0,1]),(28,[0,1]),(33,[0,1,2,3,4]),(40,[0,1,6,11,16,17,18]),(47,[0,1,2,3]),(49,[0,1,2]),(56,[0,1,4,5,6]),(58,[0,7,8,9]),(85,[0,2,3,4]),(103,[0,1,2]),(112,[0,1]),(121,[0,19,20,21]),(127,[0,1,2,7,8,9,10]),(129,[0,1,2,3]),(134,[0,19,20,21]),(139,[0,1,2,7,8,9,10,11,12,13]),(157,[0,1]),(161,[0,1,2]),(183,[0,1,3,4,5,6,7]),(193,[0,1]),(196,[0,1,2,3,4,5,7,8,9,10]),(199,[0,1,2,3]),(213,[0,1,2,3,4,5])]
theorem vJ:AllOk Tryz.prog tbP:=
 ⟨⟨⟨_,_,_,Tryz.underlying24,rfl,Tryz.sizeOf3,rfl⟩,⟨_,_,_,Tryz.underlying24,rfl,Tryz.sizeOf22,rfl⟩,trivial⟩,⟨⟨_,_,_,Tryz.underlying28,rfl,Tryz.sizeOf26,rfl⟩,⟨_,_,_,Tryz.underlying28,rfl,Tryz.sizeOf5,rfl⟩,trivial⟩,⟨⟨_,_,_,Tryz.underlying33,rfl,Tryz.sizeOf3,rfl⟩,⟨_,_,_,Tryz.underlying33,rfl,Tryz.sizeOf3,rfl⟩,⟨_,_,_,Tryz.underlying33,rfl,Tryz.sizeOf30,rfl⟩,⟨_,_,_,Tryz.underlying33,rfl,Tryz.sizeOf30,rfl⟩,⟨_,_,_,Tryz.underlying33,rfl,Tryz.sizeOf31,rfl⟩,trivial⟩,⟨⟨_,_,_,Tryz.underlying40,rfl,Tryz.sizeOf37,rfl⟩,⟨_,_,_,Tryz.underlying40,rfl,Tryz.sizeOf33,rfl⟩,⟨_,_,_,Tryz.underlying40,rfl,Tryz.sizeOf33,rfl⟩,⟨_,_,_,Tryz.underlying40,rfl,Tryz.sizeOf33,rfl⟩,⟨_,_,_,Tryz.underlying40,rfl,Tryz.sizeOf3,rfl⟩,⟨_,_,_,Tryz.underlying40,rfl,Tryz.sizeOf3,rfl⟩,⟨_,_,_,Tryz.underlying40,rfl,Tryz.sizeOf3,rfl⟩,trivial⟩,⟨⟨_,_,_,Tryz.underlying47,rfl,Tryz.sizeOf45,rfl⟩,⟨_,_,_,Tryz.underlying47,rfl,Tryz.sizeOf3,rfl⟩,⟨_,_,_,Tryz.underlying47,rfl,Tryz.sizeOf3,rfl⟩,⟨_,_,_,Tryz.underlying47,rfl,Tryz.sizeOf3,rfl⟩,trivial⟩,⟨⟨_,_,_,Tryz.underlying49,rfl,Tryz.sizeOf3,rfl⟩,⟨_,_,_,Tryz.underlying49,rfl,Tryz.sizeOf3,rfl⟩,⟨_,_,_,Tryz.underlying49,rfl,Tryz.sizeOf2,rfl⟩,trivial⟩,⟨⟨_,_,_,Tryz.underlying56,rfl,Tryz.sizeOf37,rfl⟩,⟨_,_,_,Tryz.underlying56,rfl,Tryz.sizeOf53,rfl⟩,⟨_,_,_,Tryz.underlying56,rfl,Tryz.sizeOf54,rfl⟩,⟨_,_,_,Tryz.underlying56,rfl,Tryz.sizeOf54,rfl⟩,⟨_,_,_,Tryz.underlying56,rfl,Tryz.sizeOf54,rfl⟩,trivial⟩,⟨⟨_,_,_,Tryz.underlying58,rfl,Tryz.sizeOf56,rfl⟩,⟨_,_,_,Tryz.underlying58,rfl,Tryz.sizeOf5,rfl⟩,⟨_,_,_,Tryz.underlying58,rfl,Tryz.sizeOf5,rfl⟩,⟨_,_,_,Tryz.underlying58,rfl,Tryz.sizeOf5,rfl⟩,trivial⟩,⟨⟨_,_,_,Tryz.underlying85,rfl,Tryz.sizeOf24,rfl⟩,⟨_,_,_,Tryz.underlying85,rfl,Tryz.sizeOf3,rfl⟩,⟨_,_,_,Tryz.underlying85,rfl,Tryz.sizeOf5,rfl⟩,⟨_,_,_,Tryz.underlying85,rfl,Tryz.sizeOf5,rfl⟩,trivial⟩,⟨⟨_,_,_,Tryz.underlying103,rfl,Tryz.sizeOf3,rfl⟩,⟨_,_,_,Tryz.underlying103,rfl,Tryz.sizeOf3,rfl⟩,⟨_,_,_,Tryz.underlying103,rfl,Tryz.sizeOf2,rfl⟩,trivial⟩,⟨⟨_,_,_,Tryz.underlying112,rfl,Tryz.sizeOf3,rfl⟩,⟨_,_,_,Tryz.underlying112,rfl,Tryz.sizeOf2,rfl⟩,trivial⟩,⟨⟨_,_,_,Tryz.underlying121,rfl,Tryz.sizeOf40,rfl⟩,⟨_,_,_,Tryz.underlying121,rfl,Tryz.sizeOf116,rfl⟩,⟨_,_,_,Tryz.underlying121,rfl,Tryz.sizeOf119,rfl⟩,⟨_,_,_,Tryz.underlying121,rfl,Tryz.sizeOf118,rfl⟩,trivial⟩,⟨⟨_,_,_,Tryz.underlying127,rfl,Tryz.sizeOf3,rfl⟩,⟨_,_,_,Tryz.underlying127,rfl,Tryz.sizeOf3,rfl⟩,⟨_,_,_,Tryz.underlying127,rfl,Tryz.sizeOf33,rfl⟩,⟨_,_,_,Tryz.underlying127,rfl,Tryz.sizeOf125,rfl⟩,⟨_,_,_,Tryz.underlying127,rfl,Tryz.sizeOf124,rfl⟩,⟨_,_,_,Tryz.underlying127,rfl,Tryz.sizeOf3,rfl⟩,⟨_,_,_,Tryz.underlying127,rfl,Tryz.sizeOf76,rfl⟩,trivial⟩,⟨⟨_,_,_,Tryz.underlying129,rfl,Tryz.sizeOf3,rfl⟩,⟨_,_,_,Tryz.underlying129,rfl,Tryz.sizeOf3,rfl⟩,⟨_,_,_,Tryz.underlying129,rfl,Tryz.sizeOf3,rfl⟩,⟨_,_,_,Tryz.underlying129,rfl,Tryz.sizeOf3,rfl⟩,trivial⟩,⟨⟨_,_,_,Tryz.underlying134,rfl,Tryz.sizeOf40,rfl⟩,⟨_,_,_,Tryz.underlying134,rfl,Tryz.sizeOf116,rfl⟩,⟨_,_,_,Tryz.underlying134,rfl,Tryz.sizeOf131,rfl⟩,⟨_,_,_,Tryz.underlying134,rfl,Tryz.sizeOf132,rfl⟩,trivial⟩,⟨⟨_,_,_,Tryz.underlying139,rfl,Tryz.sizeOf3,rfl⟩,⟨_,_,_,Tryz.underlying139,rfl,Tryz.sizeOf3,rfl⟩,⟨_,_,_,Tryz.underlying139,rfl,Tryz.sizeOf33,rfl⟩,⟨_,_,_,Tryz.underlying139,rfl,Tryz.sizeOf125,rfl⟩,⟨_,_,_,Tryz.underlying139,rfl,Tryz.sizeOf136,rfl⟩,⟨_,_,_,Tryz.underlying139,rfl,Tryz.sizeOf136,rfl⟩,⟨_,_,_,Tryz.underlying139,rfl,Tryz.sizeOf137,rfl⟩,⟨_,_,_,Tryz.underlying139,rfl,Tryz.sizeOf137,rfl⟩,⟨_,_,_,Tryz.underlying139,rfl,Tryz.sizeOf3,rfl⟩,⟨_,_,_,Tryz.underlying139,rfl,Tryz.sizeOf76,rfl⟩,trivial⟩,⟨⟨_,_,_,Tryz.underlying157,rfl,Tryz.sizeOf2,rfl⟩,⟨_,_,_,Tryz.underlying157,rfl,Tryz.sizeOf155,rfl⟩,trivial⟩,⟨⟨_,_,_,Tryz.underlying161,rfl,Tryz.sizeOf3,rfl⟩,⟨_,_,_,Tryz.underlying161,rfl,Tryz.sizeOf3,rfl⟩,⟨_,_,_,Tryz.underlying161,rfl,Tryz.sizeOf157,rfl⟩,trivial⟩,⟨⟨_,_,_,Tryz.underlying183,rfl,Tryz.sizeOf37,rfl⟩,⟨_,_,_,Tryz.underlying183,rfl,Tryz.sizeOf25,rfl⟩,⟨_,_,_,Tryz.underlying183,rfl,Tryz.sizeOf54,rfl⟩,⟨_,_,_,Tryz.underlying183,rfl,Tryz.sizeOf109,rfl⟩,⟨_,_,_,Tryz.underlying183,rfl,Tryz.sizeOf109,rfl⟩,⟨_,_,_,Tryz.underlying183,rfl,Tryz.sizeOf181,rfl⟩,⟨_,_,_,Tryz.underlying183,rfl,Tryz.sizeOf4,rfl⟩,trivial⟩,⟨⟨_,_,_,Tryz.underlying193,rfl,Tryz.sizeOf3,rfl⟩,⟨_,_,_,Tryz.underlying193,rfl,Tryz.sizeOf109,rfl⟩,trivial⟩,⟨⟨_,_,_,Tryz.underlying196,rfl,Tryz.sizeOf191,rfl⟩,⟨_,_,_,Tryz.underlying196,rfl,Tryz.sizeOf3,rfl⟩,⟨_,_,_,Tryz.underlying196,rfl,Tryz.sizeOf3,rfl⟩,⟨_,_,_,Tryz.underlying196,rfl,Tryz.sizeOf3,rfl⟩,⟨_,_,_,Tryz.underlying196,rfl,Tryz.sizeOf3,rfl⟩,⟨_,_,_,Tryz.underlying196,rfl,Tryz.sizeOf193,rfl⟩,⟨_,_,_,Tryz.underlying196,rfl,Tryz.sizeOf194,rfl⟩,⟨_,_,_,Tryz.underlying196,rfl,Tryz.sizeOf54,rfl⟩,⟨_,_,_,Tryz.underlying196,rfl,Tryz.sizeOf2,rfl⟩,⟨_,_,_,Tryz.underlying196,rfl,Tryz.sizeOf4,rfl⟩,trivial⟩,⟨⟨_,_,_,Tryz.underlying199,rfl,Tryz.sizeOf3,rfl⟩,⟨_,_,_,Tryz.underlying199,rfl,Tryz.sizeOf3,rfl⟩,⟨_,_,_,Tryz.underlying199,rfl,Tryz.sizeOf3,rfl⟩,⟨_,_,_,Tryz.underlying199,rfl,Tryz.sizeOf125,rfl⟩,trivial⟩,⟨⟨_,_,_,Tryz.underlying213,rfl,Tryz.sizeOf3,rfl⟩,⟨_,_,_,Tryz.underlying213,rfl,Tryz.sizeOf30,rfl⟩,⟨_,_,_,Tryz.underlying213,rfl,Tryz.sizeOf210,rfl⟩,⟨_,_,_,Tryz.underlying213,rfl,Tryz.sizeOf211,rfl⟩,⟨_,_,_,Tryz.underlying213,rfl,Tryz.sizeOf3,rfl⟩,⟨_,_,_,Tryz.underlying213,rfl,Tryz.sizeOf3,rfl⟩,trivial⟩,trivial⟩
section
variable {n:FrK} {E E1 E' E2:D7} {S:World→Prop} {Q Q':Exit→Act→World→Prop} {ops:Array Oper} {l l' l2:List Oper} {z:Code} {id:Nat}
theorem _root_.Go.Fw.Ops.ks (j:Nat) (h:fA tbP ops n j l E=some (l',E')) (g:Ops Tryz.prog ops l' n E' S Q):Ops Tryz.prog ops l n E S Q:=.ksT vJ j h g
theorem _root_.Go.Fw.Ops.nk (ks:Nat) (j:Nat) (h:(selN ks E [],(fun a w=>Q .normal a w),fA tbP l2.toArray n j l2 E')=(some E',(fun a w=>(Code.seq (.region id l2.toArray false) z).wpIn (SP n) 0 Tryz.prog Q' a w),some (l',E2))) (g:Ops Tryz.prog l2.toArray l' n E2 S (Exit.then (z.wpIn (SP n) 0 Tryz.prog Q') Q')):Ops Tryz.prog ops [] n E S Q:=.nkT vJ ks j h g
theorem _root_.Go.Fw.Cod.sk (j:Nat) (h:fA tbP l.toArray n j l E=some (l',E')) (g:Ops Tryz.prog l.toArray l' n E' S (Exit.then (z.wpIn (SP n) 0 Tryz.prog Q) Q)):Cod Tryz.prog (.seq (.region id l.toArray false) z) n E S Q:=.skT vJ j h g
theorem _root_.Go.Fw.Ops.kn (j:Nat) (ks:Nat) (h:(fA tbP ops n j l E,selN ks E1 [],fun a w=>Q .normal a w)=(some ([],E1),some E',fun a w=>z.wpIn (SP n) 0 Tryz.prog Q' a w)) (g:Cod Tryz.prog z n E' S Q'):Ops Tryz.prog ops l n E S Q:=.knT vJ j ks h g
variable {w0:World} {M:Nat→Prop} {I0 I:IH} {cs cs':List (Option Nat)} {dn dn':HM} {X X' pend pd':List Nat} {asn:List AS} {L:Sh} {Sd:List HA→World→Prop} {g fs:List Nat} {A B:List (Option (Nat×Value))}
theorem _root_.Go.Fw.DrawD.fk (k:Nat) (h:xF tbP ops n E k cs dn X pend=some (cs',dn',X',pd')) (kk:DrawD Tryz.prog ops n Q w0 M I0 E cs' dn' X' pd' asn I L):DrawD Tryz.prog ops n Q w0 M I0 E cs dn X pend asn I L:=.fkT vJ k h kk
theorem _root_.Go.Fw.PendL.ck (k:Nat) (h:xH tbP ops n E dn k fs=some (g,A,B)) (hAB:A=B) (kk:PendL Tryz.prog ops n E dn Sd g):PendL Tryz.prog ops n E dn Sd fs:=.ckT vJ k h hAB kk
end
theorem IN2:Tryz.prog.info? 2=some Tryz.t2:=by kernel_rfl
theorem IN3:Tryz.prog.info? 3=some Tryz.t3:=by kernel_rfl
theorem IN4:Tryz.prog.info? 4=some Tryz.t4:=by kernel_rfl
theorem AdR:Tryz.prog.info? 33=some Tryz.t33:=by kernel_rfl
theorem FI:(Tryz.prog.fieldsOf 33).toList.all (fun f=>(Tryz.prog.info? f.type).isSome)=true:=by kernel_rfl
theorem AcW:(Tryz.prog.fieldsOf 40).toList.all (fun f=>(Tryz.prog.info? f.type).isSome)=true:=by kernel_rfl
theorem AeO:Tryz.prog.info? 47=some Tryz.t47:=by kernel_rfl
theorem AeP:(Tryz.prog.fieldsOf 47).toList.all (fun f=>(Tryz.prog.info? f.type).isSome)=true:=by kernel_rfl
theorem AdS:Tryz.prog.info? 49=some Tryz.t49:=by kernel_rfl
theorem AcX:(Tryz.prog.fieldsOf 49).toList.all (fun f=>(Tryz.prog.info? f.type).isSome)=true:=by kernel_rfl
theorem AdT:Tryz.prog.info? 54=some Tryz.t54:=by kernel_rfl
theorem AeQ:Tryz.prog.info? 76=some Tryz.t76:=by kernel_rfl
theorem UQ:Tryz.prog.info? 103=some Tryz.t103:=by kernel_rfl
theorem VR:(Tryz.prog.fieldsOf 103).toList.all (fun f=>(Tryz.prog.info? f.type).isSome)=true:=by kernel_rfl
theorem tX:Tryz.prog.info? 112=some Tryz.t112:=by kernel_rfl
theorem Ac8:(Tryz.prog.fieldsOf 112).toList.all (fun f=>(Tryz.prog.info? f.type).isSome)=true:=by kernel_rfl
theorem AdU:(Tryz.prog.fieldsOf 121).toList.all (fun f=>(Tryz.prog.info? f.type).isSome)=true:=by kernel_rfl
theorem AdV:Tryz.prog.info? 122=some Tryz.t122:=by kernel_rfl
theorem AdW:(Tryz.prog.fieldsOf 127).toList.all (fun f=>(Tryz.prog.info? f.type).isSome)=true:=by kernel_rfl
theorem Ac9:Tryz.prog.info? 129=some Tryz.t129:=by kernel_rfl
theorem AcA:(Tryz.prog.fieldsOf 129).toList.all (fun f=>(Tryz.prog.info? f.type).isSome)=true:=by kernel_rfl
theorem AdX:(Tryz.prog.fieldsOf 134).toList.all (fun f=>(Tryz.prog.info? f.type).isSome)=true:=by kernel_rfl
theorem AdY:Tryz.prog.info? 135=some Tryz.t135:=by kernel_rfl
theorem AdZ:(Tryz.prog.fieldsOf 139).toList.all (fun f=>(Tryz.prog.info? f.type).isSome)=true:=by kernel_rfl
theorem Ae0:Tryz.prog.info? 141=some Tryz.t141:=by kernel_rfl
theorem Ae1:Tryz.prog.info? 157=some Tryz.t157:=by kernel_rfl
theorem KG:(Tryz.prog.fieldsOf 157).toList.all (fun f=>(Tryz.prog.info? f.type).isSome)=true:=by kernel_rfl
theorem dD:Tryz.prog.info? 161=some Tryz.t161:=by kernel_rfl
theorem tY:(Tryz.prog.fieldsOf 161).toList.all (fun f=>(Tryz.prog.info? f.type).isSome)=true:=by kernel_rfl
theorem yY:(Tryz.prog.fieldsOf 183).toList.all (fun f=>(Tryz.prog.info? f.type).isSome)=true:=by kernel_rfl
theorem dE:Tryz.prog.info? 196=some Tryz.t196:=by kernel_rfl
theorem VS:(Tryz.prog.fieldsOf 196).toList.all (fun f=>(Tryz.prog.info? f.type).isSome)=true:=by kernel_rfl
theorem Ae2:(Tryz.prog.fieldsOf 199).toList.all (fun f=>(Tryz.prog.info? f.type).isSome)=true:=by kernel_rfl
theorem jG:(Tryz.prog.fieldsOf 206).toList.all (fun f=>(Tryz.prog.info? f.type).isSome)=true:=by kernel_rfl
theorem Ae3:(Tryz.prog.fieldsOf 213).toList.all (fun f=>(Tryz.prog.info? f.type).isSome)=true:=by kernel_rfl
theorem AcB:Tryz.prog.info? 289=some Tryz.t289:=by kernel_rfl
theorem jH (x y:AL) (w:World):(Op.equal 157 (.agg (E8 x).toArray) (.agg (E8 y).toArray)).run Tryz.prog w=.ok (x==y) w:=by
  refine Eq.trans ((eqS (k:=9999) Tryz.underlying157 (by kernel_rfl) (eqC (by decide) Tryz.isAgg2 rfl rfl (eqI (k:=9998) Tryz.underlying2) (eqC (by decide) Tryz.isAgg155 rfl rfl (eqI (k:=9998) Tryz.underlying155) eqN))) w) (congrArg (fun b=>Result.ok b w) (Bool.eq_iff_iff.2 ?_))
  obtain ⟨x_0,x_1⟩:=x; obtain ⟨y_0,y_1⟩:=y
  simp [and_assoc]
theorem jI (o:BinOp) (x y:Operand) (u v:Array Value) (w:World):(eqGuard o 157 x y (.agg u) (.agg v)).run Tryz.prog w=.ok () w:=run_eqGuard_agg w o 157 x y u v (by kernel_rfl)
theorem Ae4 (x y:BE) (w:World):(Op.equal 206 (.agg (S9 x).toArray) (.agg (S9 y).toArray)).run Tryz.prog w=.ok (x==y) w:=by
  refine Eq.trans ((eqS (k:=9999) Tryz.underlying206 (by kernel_rfl) (eqC (by decide) Tryz.isAgg191 rfl rfl (eqI (k:=9998) Tryz.underlying191) (eqC (by decide) Tryz.isAgg3 rfl rfl (eqI (k:=9998) Tryz.underlying3) eqN))) w) (congrArg (fun b=>Result.ok b w) (Bool.eq_iff_iff.2 ?_))
  obtain ⟨x_0,x_1⟩:=x; obtain ⟨y_0,y_1⟩:=y
  simp [and_assoc]
theorem IX3:Tryz.prog.info? 3=some Tryz.t3:=by kernel_rfl
theorem dF:V3 Tryz.prog 169 CL:=AaD Tryz.underlying169 IX3 Tryz.underlying3 (by kernel_rfl) Tryz.isAgg3 Tryz.sizeOf3
theorem pA:V3 Tryz.prog 206 EU:=AaJ (fun _=>rfl) Tryz.underlying206 Tryz.underlying191 Tryz.underlying3 rfl rfl Tryz.isAgg191 Tryz.isAgg3 (fun k x w=>Ae4 k x w)
instance {I J:IH} {x:kU} {o:Rows}:Up (NX I x o) I J (NX J x o):=⟨xJ⟩
instance {I J:IH} {x:aTb} {o:Rows}:Up (lTb I x o) I J (lTb J x o):=⟨mTb⟩
instance {I J:IH} {x:xK} {o:BF}:Up (nE I x o) I J (nE J x o):=⟨mTc⟩
instance {I J:IH} {x:aTd} {o:Rows}:Up (lTd I x o) I J (lTd J x o):=⟨mTd⟩
instance {I J:IH} {x:aTe} {o:AM}:Up (gZ I x o) I J (gZ J x o):=⟨mTe⟩
instance {I J:IH} {x:aTf} {o:A3}:Up (UZ I x o) I J (UZ J x o):=⟨mTf⟩
instance {I J:IH} {x:aTg} {o:AF}:Up (lTg I x o) I J (lTg J x o):=⟨mTg⟩
instance {I J:IH} {x:aTh} {o:A3}:Up (lTh I x o) I J (lTh J x o):=⟨mTh⟩
instance {I J:IH} {x:aTi} {o:EL}:Up (lTi I x o) I J (lTi J x o):=⟨mTi⟩
instance {I J:IH} {x:aTj} {o:GS}:Up (lTj I x o) I J (lTj J x o):=⟨mTj⟩
instance {I J:IH} {x:aTk} {o:Rows×Rows×Rows}:Up (lTk I x o) I J (lTk J x o):=⟨mTk⟩
instance {I J:IH} {x:aTl} {o:AR}:Up (sV I x o) I J (sV J x o):=⟨mTl⟩
instance {I J:IH} {x:aTm} {o:AR}:Up (lTm I x o) I J (lTm J x o):=⟨mTm⟩
instance {I J:IH} {x:aTn} {o:AO}:Up (lTn I x o) I J (lTn J x o):=⟨mTn⟩
instance {I J:IH} {x:aTo} {o:AO}:Up (lTo I x o) I J (lTo J x o):=⟨mTo⟩
instance {I J:IH} {q0:Option Addr} {q1:Nat} {q2:Nat} {q3:Nat} {x:AZ}:Up (AY.fact I (q0,q1,q2,q3) x) I J (AY.fact J (q0,q1,q2,q3) x):=⟨fun h k=>AY.mono h k⟩
instance {I J:IH} {q0:Option Addr} {q1:Nat} {x:B4}:Up (AX.fact I (q0,q1) x) I J (AX.fact J (q0,q1) x):=⟨fun h k=>AX.mono h k⟩
instance {I J:IH} {q0:aTn} {q1:Option Addr} {q2:Nat} {q3:Option Addr} {q4:Nat} {q5:Option Addr} {q6:Nat} {q7:Option Addr} {q8:Nat} {x:AO}:Up (A6.fact I (q0,q1,q2,q3,q4,q5,q6,q7,q8) x) I J (A6.fact J (q0,q1,q2,q3,q4,q5,q6,q7,q8) x):=⟨fun h k=>A6.mono h k⟩
instance {I J:IH} {q0:aTg} {q1:Nat} {x:AF}:Up (A5.fact I (q0,q1) x) I J (A5.fact J (q0,q1) x):=⟨fun h k=>A5.mono h k⟩
abbrev XX (Q:Bool→Prop):Value→Prop:=fun v=>∃ r,v=.bool r∧Q r
abbrev qH (Q:AL→Prop):Value→Prop:=fun v=>∃ r,v=.agg (E8 r).toArray∧Q r
abbrev bI (Q:Int→Prop):Value→Prop:=fun v=>∃ r,v=.int .i64 r∧Q r
abbrev o3_ (Q:(Int×Bool)→Prop):Value→Prop:=fun v=>∃ r,v=.tuple #[.int .i64 r.1,.bool r.2]∧Q r
abbrev o6_ (Q:Rows→Prop):Value→List HA→Prop:=fun v l=>∃ r p1 c2 p4 c5 p7 c8,v=.agg #[.int .i64 r.Rows,.int .i64 r.Cols,.slice p1 r.Start.length c2,.slice p4 r.Col.length c5,.slice p7 r.Val.length c8]∧l=[OwnSl BQ 3 p1 c2 r.Start,OwnSl BQ 3 p4 c5 r.Col,OwnSl BQ 2 p7 c8 r.Val]∧Q r
abbrev o7_ (Q:Rows→Prop):IH→Value→Prop:=fun I_ v=>∃ r ga4,v=.agg (F8 r ga4)∧NX I_ ga4 r∧Q r
abbrev o8_ (Q:(Rows×Int)→Prop):IH→Value→Prop:=fun I_ v=>∃ r ga4,v=.tuple #[.agg (F8 r.1 ga4),.int .i64 r.2]∧NX I_ ga4 r.1∧Q r
abbrev o9_ (Q:Rows→Prop):IH→Value→Prop:=fun I_ v=>∃ r ga1,v=.agg (F8 r ga1)∧NX I_ ga1 r∧Q r
abbrev Ae5 (Q:(List AV)→Prop):IH→Value→Prop:=fun I_ v=>∃ r p1 c2,v=.slice p1 r.length c2∧RepSl H9 I_ p1 c2 r∧Q r
abbrev rP (Q:Rows→Prop):IH→Value→Prop:=fun I_ v=>∃ r ga3,v=.agg (F8 r ga3)∧NX I_ ga3 r∧Q r
abbrev AeR (Q:(Int×Int)→Prop):Value→Prop:=fun v=>∃ r,v=.tuple #[.int .i64 r.1,.int .i64 r.2]∧Q r
abbrev Ae6 (Q:((List Int)×(List Int))→Prop):IH→Value→Prop:=fun I_ v=>∃ r p3 c4 p6 c7,v=.tuple #[.slice p3 r.1.length c4,.slice p6 r.2.length c7]∧RepSl BQ I_ p3 c4 r.1∧RepSl BQ I_ p6 c7 r.2∧Q r
abbrev Ae7 (Q:(List CO)→Prop):IH→Value→Prop:=fun I_ v=>∃ r p3 c4,v=.slice p3 r.length c4∧RepSl UL I_ p3 c4 r∧Q r
abbrev AcY (Q:(Int×Int)→Prop):Value→Prop:=fun v=>∃ r,v=.agg #[.int .i64 r.1,.int .i64 r.2]∧Q r
abbrev Ae8 (Q:(List A1)→Prop):IH→Value→Prop:=fun I_ v=>∃ r p3 c4,v=.slice p3 r.length c4∧RepSl B5 I_ p3 c4 r∧Q r
abbrev Ae9 (Q:(List A1)→Prop):IH→Value→Prop:=fun I_ v=>∃ r p4 c5,v=.slice p4 r.length c5∧RepSl B5 I_ p4 c5 r∧Q r
abbrev AeA (Q:AM→Prop):IH→Value→Prop:=fun I_ v=>∃ r ge3,v=.agg (JV r ge3)∧gZ I_ ge3 r∧Q r
abbrev AeB (Q:Int→Prop):Value→Prop:=fun v=>∃ r,v=.int .u64 r∧Q r
abbrev AeC (Q:((List AB)×Int)→Prop):IH→Value→Prop:=fun I_ v=>∃ r p7 c8,v=.tuple #[.slice p7 r.1.length c8,.int .i64 r.2]∧RepSl BL I_ p7 c8 r.1∧Q r
abbrev AeD (Q:((List AB)×Int)→Prop):IH→Value→Prop:=fun I_ v=>∃ r p4 c5,v=.tuple #[.slice p4 r.1.length c5,.int .i64 r.2]∧RepSl BL I_ p4 c5 r.1∧Q r
abbrev AeE (Q:(Rows×Bool×Int)→Prop):IH→Value→Prop:=fun I_ v=>∃ r ga6,v=.tuple #[.agg (F8 r.1 ga6),.bool r.2.1,.int .i64 r.2.2]∧NX I_ ga6 r.1∧Q r
abbrev jJ:=@Tryz.underlying2
abbrev XC:=@Tryz.underlying3
abbrev un5:=@Tryz.underlying5
abbrev OO:=@Tryz.underlying22
abbrev vK:=@Tryz.underlying25
abbrev VT:=@Tryz.underlying26
abbrev BP:=@Tryz.underlying30
abbrev NQ:=@Tryz.underlying31
abbrev FJ:=@Tryz.underlying33
abbrev AcZ:=@Tryz.underlying40
abbrev Ad0:=@Tryz.underlying49
abbrev vL:=@Tryz.underlying53
abbrev D5:=@Tryz.underlying54
abbrev pB:=@Tryz.underlying60
abbrev lZ:=@Tryz.underlying63
abbrev vN:=@Tryz.underlying71
abbrev CH:=@Tryz.underlying76
abbrev VU:=@Tryz.underlying103
abbrev OP:=@Tryz.underlying109
abbrev fU:=@Tryz.underlying113
abbrev HJ:=@Tryz.underlying116
abbrev jK:=@Tryz.underlying118
abbrev QO:=@Tryz.underlying119
abbrev DO:=@Tryz.underlying125
abbrev MT:=@Tryz.underlying131
abbrev tZ:=@Tryz.underlying132
abbrev AeF:=@Tryz.underlying134
abbrev jL:=@Tryz.underlying136
abbrev jM:=@Tryz.underlying137
abbrev XY:=@Tryz.underlying141
abbrev aF:=@Tryz.underlying146
abbrev M4:=@Tryz.underlying155
abbrev KH:=@Tryz.underlying157
abbrev HK:=@Tryz.underlying169
abbrev jN:=@Tryz.underlying194
abbrev VV:=@Tryz.underlying196
abbrev P4:=@Tryz.underlying200
abbrev jO:=@Tryz.underlying206
abbrev jP:=@Tryz.underlying211
abbrev dG:=@Tryz.underlying227
abbrev aG:=@Tryz.underlying240
abbrev QP:=@Tryz.underlying290
abbrev uA:=@Tryz.underlying313
abbrev KI:=@Tryz.underlying351
abbrev qI:=@Tryz.sizeOf2
abbrev DN:=@Tryz.sizeOf3
abbrev wN:=@Tryz.sizeOf5
abbrev yZ:=@Tryz.sizeOf30
abbrev AE:=@Tryz.sizeOf33
abbrev IU:=@Tryz.sizeOf40
abbrev T6:=@Tryz.sizeOf47
abbrev QQ:=@Tryz.sizeOf49
abbrev fV:=@Tryz.sizeOf76
abbrev D8:=@Tryz.sizeOf103
abbrev aH:=@Tryz.sizeOf125
abbrev P5:=@Tryz.sizeOf129
abbrev KJ:=@Tryz.sizeOf155
abbrev AG:=@Tryz.sizeOf157
abbrev BA:=@Tryz.sizeOf161
abbrev H1:=@Tryz.sizeOf169
abbrev BR:=@Tryz.sizeOf196
abbrev U5:=@Tryz.isAgg2
abbrev AP:=@Tryz.isAgg3
abbrev pC:=@Tryz.isAgg5
abbrev DY:=@Tryz.isAgg30
abbrev aI:=@Tryz.isAgg31
abbrev B6:=@Tryz.isAgg33
abbrev RL:=@Tryz.isAgg37
abbrev LS:=@Tryz.isAgg40
abbrev fW:=@Tryz.isAgg47
abbrev zA:=@Tryz.isAgg49
abbrev KZ:=@Tryz.isAgg116
abbrev K0:=@Tryz.isAgg122
abbrev EJ:=@Tryz.isAgg125
abbrev OQ:=@Tryz.isAgg131
abbrev DZ:=@Tryz.isAgg155
abbrev B7:=@Tryz.isAgg157
abbrev EK:=@Tryz.isAgg161
abbrev MU:=@Tryz.isAgg169
abbrev FL:=@Tryz.isAgg196
abbrev qJ:=@Tryz.zeroValue3
abbrev CF:=@Tryz.zeroValue33
abbrev mA:=@Tryz.zeroValue40
abbrev Ab9:=@Tryz.zeroValue47
abbrev zB:=@Tryz.zeroValue49
abbrev HT:=@Tryz.zeroValue103
abbrev jQ:=@Tryz.zeroValue112
abbrev jR:=@Tryz.zeroValue129
abbrev CR:=@Tryz.zeroValue157
abbrev QR:=@Tryz.zeroValue161
abbrev H3:=@Tryz.zeroValue169
abbrev jS:=@Tryz.zeroValue183
abbrev F0:=@Tryz.zeroValue196
abbrev dH:=@Tryz.zeroValue206
abbrev jT:=@Tryz.zeroValue351
end Go.Proofs.YtbohadngdkjljaaGreat
