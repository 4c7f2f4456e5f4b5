import Derived.Test.YtcecodhleocefaaGreatT
import Derived.Test.YtcecodhleocefaaGreatChecked
import Derived.KernelRfl
import Derived.ChangeAt
import Derived.ChangeOld
set_option linter.unusedVariables false
set_option linter.unusedSimpArgs false
set_option maxRecDepth 100000
set_option maxHeartbeats 1000000
namespace Go.Proofs.YtcecodhleocefaaGreat
open Tryz
section
open Go Go.Fw
theorem MX:prog.follows .mixedOrders=true:=by kernel_rfl
theorem MD:Nat.blt 0 (prog.types.size+Made.depth)=true:=by kernel_rfl
abbrev tbP:List (Nat×List Nat):=[(25,[0,1,2,3,4]),(28,[0,1]),(30,[0,5,7]),(33,[0,8,9,10,11]),(36,[0,1]),(38,[0,5,7,8,9,10,11]),(47,[0,1,2,3,4]),(49,[0,1,2]),(51,[0,7,8]),(65,[0,1,2,3]),(91,[0,12,13,14,15]),(115,[0,1,2]),(125,[0,1]),(129,[0,1,2,3,4,5,7,8,9,10]),(140,[0,1]),(143,[0,1,2,3,4]),(145,[0,1,2,3,4,5]),(151,[0,2,7,9,10,11,16,22,23,24,25,26,27,28,33,38,39,40,41,42,43,44]),(157,[0,1,2,3,4,5]),(183,[0,1]),(191,[0,1]),(198,[0,1]),(248,[0,1,2]),(254,[0,1]),(264,[0,1,2]),(266,[0,1,3]),(269,[0,1,6,12,18,19,20]),(332,[0,1,2]),(375,[0,1])]
theorem AmS:AllOk prog tbP:=
 ⟨⟨⟨_,_,_,underlying25,rfl,sizeOf22,rfl⟩,⟨_,_,_,underlying25,rfl,sizeOf3,rfl⟩,⟨_,_,_,underlying25,rfl,sizeOf3,rfl⟩,⟨_,_,_,underlying25,rfl,sizeOf3,rfl⟩,⟨_,_,_,underlying25,rfl,sizeOf23,rfl⟩,trivial⟩,⟨⟨_,_,_,underlying28,rfl,sizeOf3,rfl⟩,⟨_,_,_,underlying28,rfl,sizeOf26,rfl⟩,trivial⟩,⟨⟨_,_,_,underlying30,rfl,sizeOf25,rfl⟩,⟨_,_,_,underlying30,rfl,sizeOf28,rfl⟩,⟨_,_,_,underlying30,rfl,sizeOf5,rfl⟩,trivial⟩,⟨⟨_,_,_,underlying33,rfl,sizeOf30,rfl⟩,⟨_,_,_,underlying33,rfl,sizeOf5,rfl⟩,⟨_,_,_,underlying33,rfl,sizeOf5,rfl⟩,⟨_,_,_,underlying33,rfl,sizeOf5,rfl⟩,⟨_,_,_,underlying33,rfl,sizeOf31,rfl⟩,trivial⟩,⟨⟨_,_,_,underlying36,rfl,sizeOf34,rfl⟩,⟨_,_,_,underlying36,rfl,sizeOf5,rfl⟩,trivial⟩,⟨⟨_,_,_,underlying38,rfl,sizeOf25,rfl⟩,⟨_,_,_,underlying38,rfl,sizeOf28,rfl⟩,⟨_,_,_,underlying38,rfl,sizeOf3,rfl⟩,⟨_,_,_,underlying38,rfl,sizeOf3,rfl⟩,⟨_,_,_,underlying38,rfl,sizeOf3,rfl⟩,⟨_,_,_,underlying38,rfl,sizeOf3,rfl⟩,⟨_,_,_,underlying38,rfl,sizeOf31,rfl⟩,trivial⟩,⟨⟨_,_,_,underlying47,rfl,sizeOf3,rfl⟩,⟨_,_,_,underlying47,rfl,sizeOf3,rfl⟩,⟨_,_,_,underlying47,rfl,sizeOf23,rfl⟩,⟨_,_,_,underlying47,rfl,sizeOf23,rfl⟩,⟨_,_,_,underlying47,rfl,sizeOf45,rfl⟩,trivial⟩,⟨⟨_,_,_,underlying49,rfl,sizeOf44,rfl⟩,⟨_,_,_,underlying49,rfl,sizeOf3,rfl⟩,⟨_,_,_,underlying49,rfl,sizeOf47,rfl⟩,trivial⟩,⟨⟨_,_,_,underlying51,rfl,sizeOf49,rfl⟩,⟨_,_,_,underlying51,rfl,sizeOf3,rfl⟩,⟨_,_,_,underlying51,rfl,sizeOf3,rfl⟩,trivial⟩,⟨⟨_,_,_,underlying65,rfl,sizeOf63,rfl⟩,⟨_,_,_,underlying65,rfl,sizeOf3,rfl⟩,⟨_,_,_,underlying65,rfl,sizeOf3,rfl⟩,⟨_,_,_,underlying65,rfl,sizeOf3,rfl⟩,trivial⟩,⟨⟨_,_,_,underlying91,rfl,sizeOf38,rfl⟩,⟨_,_,_,underlying91,rfl,sizeOf86,rfl⟩,⟨_,_,_,underlying91,rfl,sizeOf88,rfl⟩,⟨_,_,_,underlying91,rfl,sizeOf86,rfl⟩,⟨_,_,_,underlying91,rfl,sizeOf89,rfl⟩,trivial⟩,⟨⟨_,_,_,underlying115,rfl,sizeOf3,rfl⟩,⟨_,_,_,underlying115,rfl,sizeOf3,rfl⟩,⟨_,_,_,underlying115,rfl,sizeOf2,rfl⟩,trivial⟩,⟨⟨_,_,_,underlying125,rfl,sizeOf3,rfl⟩,⟨_,_,_,underlying125,rfl,sizeOf123,rfl⟩,trivial⟩,⟨⟨_,_,_,underlying129,rfl,sizeOf122,rfl⟩,⟨_,_,_,underlying129,rfl,sizeOf3,rfl⟩,⟨_,_,_,underlying129,rfl,sizeOf3,rfl⟩,⟨_,_,_,underlying129,rfl,sizeOf3,rfl⟩,⟨_,_,_,underlying129,rfl,sizeOf3,rfl⟩,⟨_,_,_,underlying129,rfl,sizeOf125,rfl⟩,⟨_,_,_,underlying129,rfl,sizeOf126,rfl⟩,⟨_,_,_,underlying129,rfl,sizeOf127,rfl⟩,⟨_,_,_,underlying129,rfl,sizeOf2,rfl⟩,⟨_,_,_,underlying129,rfl,sizeOf4,rfl⟩,trivial⟩,⟨⟨_,_,_,underlying140,rfl,sizeOf3,rfl⟩,⟨_,_,_,underlying140,rfl,sizeOf3,rfl⟩,trivial⟩,⟨⟨_,_,_,underlying143,rfl,sizeOf3,rfl⟩,⟨_,_,_,underlying143,rfl,sizeOf3,rfl⟩,⟨_,_,_,underlying143,rfl,sizeOf141,rfl⟩,⟨_,_,_,underlying143,rfl,sizeOf141,rfl⟩,⟨_,_,_,underlying143,rfl,sizeOf23,rfl⟩,trivial⟩,⟨⟨_,_,_,underlying145,rfl,sizeOf3,rfl⟩,⟨_,_,_,underlying145,rfl,sizeOf3,rfl⟩,⟨_,_,_,underlying145,rfl,sizeOf141,rfl⟩,⟨_,_,_,underlying145,rfl,sizeOf141,rfl⟩,⟨_,_,_,underlying145,rfl,sizeOf141,rfl⟩,⟨_,_,_,underlying145,rfl,sizeOf23,rfl⟩,trivial⟩,⟨⟨_,_,_,underlying151,rfl,sizeOf140,rfl⟩,⟨_,_,_,underlying151,rfl,sizeOf25,rfl⟩,⟨_,_,_,underlying151,rfl,sizeOf140,rfl⟩,⟨_,_,_,underlying151,rfl,sizeOf3,rfl⟩,⟨_,_,_,underlying151,rfl,sizeOf31,rfl⟩,⟨_,_,_,underlying151,rfl,sizeOf143,rfl⟩,⟨_,_,_,underlying151,rfl,sizeOf145,rfl⟩,⟨_,_,_,underlying151,rfl,sizeOf146,rfl⟩,⟨_,_,_,underlying151,rfl,sizeOf3,rfl⟩,⟨_,_,_,underlying151,rfl,sizeOf147,rfl⟩,⟨_,_,_,underlying151,rfl,sizeOf3,rfl⟩,⟨_,_,_,underlying151,rfl,sizeOf3,rfl⟩,⟨_,_,_,underlying151,rfl,sizeOf44,rfl⟩,⟨_,_,_,underlying151,rfl,sizeOf47,rfl⟩,⟨_,_,_,underlying151,rfl,sizeOf47,rfl⟩,⟨_,_,_,underlying151,rfl,sizeOf4,rfl⟩,⟨_,_,_,underlying151,rfl,sizeOf4,rfl⟩,⟨_,_,_,underlying151,rfl,sizeOf126,rfl⟩,⟨_,_,_,underlying151,rfl,sizeOf148,rfl⟩,⟨_,_,_,underlying151,rfl,sizeOf3,rfl⟩,⟨_,_,_,underlying151,rfl,sizeOf149,rfl⟩,⟨_,_,_,underlying151,rfl,sizeOf4,rfl⟩,trivial⟩,⟨⟨_,_,_,underlying157,rfl,sizeOf3,rfl⟩,⟨_,_,_,underlying157,rfl,sizeOf141,rfl⟩,⟨_,_,_,underlying157,rfl,sizeOf149,rfl⟩,⟨_,_,_,underlying157,rfl,sizeOf155,rfl⟩,⟨_,_,_,underlying157,rfl,sizeOf3,rfl⟩,⟨_,_,_,underlying157,rfl,sizeOf3,rfl⟩,trivial⟩,⟨⟨_,_,_,underlying183,rfl,sizeOf3,rfl⟩,⟨_,_,_,underlying183,rfl,sizeOf2,rfl⟩,trivial⟩,⟨⟨_,_,_,underlying191,rfl,sizeOf2,rfl⟩,⟨_,_,_,underlying191,rfl,sizeOf162,rfl⟩,trivial⟩,⟨⟨_,_,_,underlying198,rfl,sizeOf195,rfl⟩,⟨_,_,_,underlying198,rfl,sizeOf196,rfl⟩,trivial⟩,⟨⟨_,_,_,underlying248,rfl,sizeOf3,rfl⟩,⟨_,_,_,underlying248,rfl,sizeOf3,rfl⟩,⟨_,_,_,underlying248,rfl,sizeOf2,rfl⟩,trivial⟩,⟨⟨_,_,_,underlying254,rfl,sizeOf3,rfl⟩,⟨_,_,_,underlying254,rfl,sizeOf191,rfl⟩,trivial⟩,⟨⟨_,_,_,underlying264,rfl,sizeOf3,rfl⟩,⟨_,_,_,underlying264,rfl,sizeOf45,rfl⟩,⟨_,_,_,underlying264,rfl,sizeOf23,rfl⟩,trivial⟩,⟨⟨_,_,_,underlying266,rfl,sizeOf196,rfl⟩,⟨_,_,_,underlying266,rfl,sizeOf125,rfl⟩,⟨_,_,_,underlying266,rfl,sizeOf264,rfl⟩,trivial⟩,⟨⟨_,_,_,underlying269,rfl,sizeOf187,rfl⟩,⟨_,_,_,underlying269,rfl,sizeOf143,rfl⟩,⟨_,_,_,underlying269,rfl,sizeOf145,rfl⟩,⟨_,_,_,underlying269,rfl,sizeOf266,rfl⟩,⟨_,_,_,underlying269,rfl,sizeOf45,rfl⟩,⟨_,_,_,underlying269,rfl,sizeOf4,rfl⟩,⟨_,_,_,underlying269,rfl,sizeOf195,rfl⟩,trivial⟩,⟨⟨_,_,_,underlying332,rfl,sizeOf330,rfl⟩,⟨_,_,_,underlying332,rfl,sizeOf187,rfl⟩,⟨_,_,_,underlying332,rfl,sizeOf126,rfl⟩,trivial⟩,⟨⟨_,_,_,underlying375,rfl,sizeOf126,rfl⟩,⟨_,_,_,underlying375,rfl,sizeOf3,rfl⟩,trivial⟩,trivial⟩
section
variable {n:FrK} {E E1 E' E2:DH} {S:World→Prop} {Q Q':Exit→Act→World→Prop} {ops:Array Oper} {l l' l2:List Oper} {z:Code} {id:Nat}
theorem _root_.Go.Fw.Ops.ks (j:Nat) (h:vB tbP ops n j l E=some (l',E')) (g:Ops prog ops l' n E' S Q):Ops prog ops l n E S Q:=.ksT AmS j h g
theorem _root_.Go.Fw.Ops.nk (ks:Nat) (j:Nat) (h:(selN ks E [],(λa w=>Q .normal a w),vB tbP l2.toArray n j l2 E')=(some E',(λa w=>(Code.seq (.region id l2.toArray false) z).wpIn (X4 n) 0 prog Q' a w),some (l',E2))) (g:Ops prog l2.toArray l' n E2 S (Exit.then (z.wpIn (X4 n) 0 prog Q') Q')):Ops prog ops [] n E S Q:=.nkT AmS ks j h g
theorem _root_.Go.Fw.Cod.sk (j:Nat) (h:vB tbP l.toArray n j l E=some (l',E')) (g:Ops prog l.toArray l' n E' S (Exit.then (z.wpIn (X4 n) 0 prog Q) Q)):Cod prog (.seq (.region id l.toArray false) z) n E S Q:=.skT AmS j h g
theorem _root_.Go.Fw.Ops.kn (j:Nat) (ks:Nat) (h:(vB tbP ops n j l E,selN ks E1 [],λa w=>Q .normal a w)=(some ([],E1),some E',λa w=>z.wpIn (X4 n) 0 prog Q' a w)) (g:Cod prog z n E' S Q'):Ops prog ops l n E S Q:=.knT AmS j ks h g
variable {w0:World} {M:Nat→Prop} {I0 I:IH} {cs cs':List (Option Nat)} {dn dn':I7} {X X' pend pd':List Nat} {asn:List AS} {L:Sh} {Sd:List HA→World→Prop} {g fs:List Nat} {A B:List (Option (Nat×Value))}
theorem _root_.Go.Fw.DrawD.fk (k:Nat) (h:ApG tbP ops n E k cs dn X pend=some (cs',dn',X',pd')) (kk:DrawD prog ops n Q w0 M I0 E cs' dn' X' pd' asn I L):DrawD prog ops n Q w0 M I0 E cs dn X pend asn I L:=.fkT AmS k h kk
theorem _root_.Go.Fw.PendL.ck (k:Nat) (h:ApI tbP ops n E dn k fs=some (g,A,B)) (hAB:A=B) (kk:PendL prog ops n E dn Sd g):PendL prog ops n E dn Sd fs:=.ckT AmS k h hAB kk
end
theorem IN2:prog.info? 2=some t2:=by kernel_rfl
theorem IN3:prog.info? 3=some t3:=by kernel_rfl
noncomputable abbrev fB (n:Nat):Bool:=(prog.fieldsOf n).toList.all (λf=>(prog.info? f.type).isSome)
theorem AmT:fB 28=true:=by kernel_rfl
theorem Az9:fB 38=true:=by kernel_rfl
theorem AzA:prog.info? 47=some t47:=by kernel_rfl
theorem gQ:fB 47=true:=by kernel_rfl
theorem Au4:fB 49=true:=by kernel_rfl
theorem Ay2:fB 51=true:=by kernel_rfl
theorem AwH:prog.info? 65=some t65:=by kernel_rfl
theorem AzB:fB 65=true:=by kernel_rfl
theorem Au5:prog.info? 87=some t87:=by kernel_rfl
theorem AzC:fB 91=true:=by kernel_rfl
theorem AzD:prog.info? 97=some t97:=by kernel_rfl
theorem wK:prog.info? 115=some t115:=by kernel_rfl
theorem AqN:fB 115=true:=by kernel_rfl
theorem Ay3:prog.info? 125=some t125:=by kernel_rfl
theorem GP:fB 125=true:=by kernel_rfl
theorem Ay4:prog.info? 126=some t126:=by kernel_rfl
theorem Ay5:prog.info? 129=some t129:=by kernel_rfl
theorem nK:fB 129=true:=by kernel_rfl
theorem wL:fB 140=true:=by kernel_rfl
theorem wM:fB 143=true:=by kernel_rfl
theorem AvK:fB 145=true:=by kernel_rfl
theorem Ay6:fB 151=true:=by kernel_rfl
theorem Ay7:fB 157=true:=by kernel_rfl
theorem AvL:prog.info? 162=some t162:=by kernel_rfl
theorem Ay8:prog.info? 178=some t178:=by kernel_rfl
theorem rZ:prog.info? 183=some t183:=by kernel_rfl
theorem sA:fB 183=true:=by kernel_rfl
theorem Ay9:prog.info? 191=some t191:=by kernel_rfl
theorem nL:fB 191=true:=by kernel_rfl
theorem AyA:prog.info? 198=some t198:=by kernel_rfl
theorem AyB:fB 198=true:=by kernel_rfl
theorem Al9:prog.info? 248=some t248:=by kernel_rfl
theorem AlA:fB 248=true:=by kernel_rfl
theorem AfT:prog.info? 254=some t254:=by kernel_rfl
theorem AvM:fB 254=true:=by kernel_rfl
theorem AqO:fB 264=true:=by kernel_rfl
theorem AvN:fB 266=true:=by kernel_rfl
theorem AyC:fB 269=true:=by kernel_rfl
theorem AyD:fB 332=true:=by kernel_rfl
theorem iN:prog.info? 373=some t373:=by kernel_rfl
theorem AyE:prog.info? 375=some t375:=by kernel_rfl
theorem AyF:fB 375=true:=by kernel_rfl
theorem AvO (x y:BC) (w:World):(Op.equal 140 (.agg (GH x).toArray) (.agg (GH y).toArray)).run prog w=.ok (x==y) w:=by refine Eq.trans ((eqS (k:=9999) underlying140 (by kernel_rfl) (eqC (by decide) isAgg3 rfl rfl (eqI (k:=9998) underlying3) (eqC (by decide) isAgg3 rfl rfl (eqI (k:=9998) underlying3) eqN))) w) (congrArg (λb=>Result.ok b w) (Bool.eq_iff_iff.2 ?_));have⟨x_0,x_1⟩:=x; have⟨y_0,y_1⟩:=y;simp[and_assoc]
theorem AvP (o:BinOp) (x y:Operand) (u v:Array Value) (w:World):(eqGuard o 140 x y (.agg u) (.agg v)).run prog w=.ok () w:=run_eqGuard_agg w o 140 x y u v (by kernel_rfl)
theorem AqP (x y:AQ) (w:World):(Op.equal 191 (.agg (F5 x).toArray) (.agg (F5 y).toArray)).run prog w=.ok (x==y) w:=by refine Eq.trans ((eqS (k:=9999) underlying191 (by kernel_rfl) (eqC (by decide) isAgg2 rfl rfl (eqI (k:=9998) underlying2) (eqC (by decide) isAgg162 rfl rfl (eqI (k:=9998) underlying162) eqN))) w) (congrArg (λb=>Result.ok b w) (Bool.eq_iff_iff.2 ?_));have⟨x_0,x_1⟩:=x; have⟨y_0,y_1⟩:=y;simp[and_assoc]
theorem AqQ (o:BinOp) (x y:Operand) (u v:Array Value) (w:World):(eqGuard o 191 x y (.agg u) (.agg v)).run prog w=.ok () w:=run_eqGuard_agg w o 191 x y u v (by kernel_rfl)
theorem IX3:prog.info? 3=some t3:=by kernel_rfl
theorem AwI:iG prog 96 IK:=Ak4 underlying96 IX3 underlying3 (by kernel_rfl) isAgg3 sizeOf3
theorem AqR:iG prog 97 IK:=Ak4 underlying97 IX3 underlying3 (by kernel_rfl) isAgg3 sizeOf3
instance {I J:IH} {x:aTa} {o:JU}:Up (lTa I x o) I J (lTa J x o):=⟨mTa⟩
instance {I J:IH} {x:aTb} {o:JV}:Up (lTb I x o) I J (lTb J x o):=⟨mTb⟩
instance {I J:IH} {x:aTc} {o:KG}:Up (lTc I x o) I J (lTc J x o):=⟨mTc⟩
instance {I J:IH} {x:aTd} {o:Rows}:Up (pF I x o) I J (pF J x o):=⟨mTd⟩
instance {I J:IH} {x:aTe} {o:Rows}:Up (lTe I x o) I J (lTe J x o):=⟨mTe⟩
instance {I J:IH} {x:aTf} {o:State}:Up (X6 I x o) I J (X6 J x o):=⟨mTf⟩
instance {I J:IH} {x:aTg} {o:BE}:Up (yI I x o) I J (yI J x o):=⟨mTg⟩
instance {I J:IH} {x:aTh} {o:BE}:Up (lTh I x o) I J (lTh J x o):=⟨mTh⟩
instance {I J:IH} {x:aTi} {o:BE}:Up (lTi I x o) I J (lTi J x o):=⟨mTi⟩
instance {I J:IH} {x:aTj} {o:AU}:Up (tQ I x o) I J (tQ J x o):=⟨mTj⟩
instance {I J:IH} {x:aTk} {o:Dense}:Up (lTk I x o) I J (lTk J x o):=⟨mTk⟩
instance {I J:IH} {x:aTl} {o:jO}:Up (lTl I x o) I J (lTl J x o):=⟨mTl⟩
instance {I J:IH} {x:aTm} {o:H7}:Up (lTm I x o) I J (lTm J x o):=⟨mTm⟩
instance {I J:IH} {x:aTn} {o:AN}:Up (lTn I x o) I J (lTn J x o):=⟨mTn⟩
instance {I J:IH} {x:aTo} {o:A6}:Up (lTo I x o) I J (lTo J x o):=⟨mTo⟩
instance {I J:IH} {x:aTp} {o:A3}:Up (X7 I x o) I J (X7 J x o):=⟨mTp⟩
instance {I J:IH} {x:aTq} {o:A3}:Up (lTq I x o) I J (lTq J x o):=⟨mTq⟩
instance {I J:IH} {x:aTr} {o:A6}:Up (lTr I x o) I J (lTr J x o):=⟨mTr⟩
instance {I J:IH} {x:aTs} {o:A6}:Up (W5 I x o) I J (W5 J x o):=⟨mTs⟩
instance {I J:IH} {q0:Option Addr} {q1:Nat} {q2:Nat} {q3:Nat} {x:BF}:Up (BD.fact I (q0,q1,q2,q3) x) I J (BD.fact J (q0,q1,q2,q3) x):=⟨λh k=>BD.mono h k⟩
instance {I J:IH} {q0:aTp} {q1:Option Addr} {q2:Nat} {q3:Nat} {q4:Option Addr} {q5:Nat} {q6:Nat} {q7:Nat} {x:A3}:Up (A9.fact I (q0,q1,q2,q3,q4,q5,q6,q7) x) I J (A9.fact J (q0,q1,q2,q3,q4,q5,q6,q7) x):=⟨λh k=>A9.mono h k⟩
abbrev bE (Q:Int->Prop):Value->Prop:=λv=>∃ r,v=.int .i64 r∧Q r
abbrev o1_ (Q:Graph->Prop):IH->Value->Prop:=λI_ v=>∃ r p4 c5,v=.agg #[.int .i64 r.N,.slice p4 r.Edges.length c5]∧RepSl CC I_ p4 c5 r.Edges∧Q r
abbrev dJ (Q:Bool->Prop):Value->Prop:=λv=>∃ r,v=.bool r∧Q r
abbrev o3_ (Q:AQ->Prop):Value->Prop:=λv=>∃ r,v=.agg (F5 r).toArray∧Q r
abbrev o4_ (Q:Int->Prop):Value->Prop:=λv=>∃ r,v=.int .u64 r∧Q r
abbrev o5_ (Q:(Int×Bool)->Prop):Value->Prop:=λv=>∃ r,v=.tuple #[.int .i64 r.1,.bool r.2]∧Q r
abbrev o7_ (Q:(List Int)->Prop):IH->Value->Prop:=λI_ v=>∃ r p4 c5,v=.slice p4 r.length c5∧RepSl JT I_ p4 c5 r∧Q r
abbrev o8_ (Q:(List Int)->Prop):IH->Value->Prop:=λI_ v=>∃ r p4 c5,v=.slice p4 r.length c5∧RepSl B2 I_ p4 c5 r∧Q r
abbrev o9_ (Q:Rows->Prop):IH->Value->Prop:=λI_ v=>∃ r gd3,v=.agg (M0 r gd3)∧pF I_ gd3 r∧Q r
abbrev AyG (Q:(List B3)->Prop):IH->Value->Prop:=λI_ v=>∃ r p3 c4,v=.slice p3 r.length c4∧RepSl BX I_ p3 c4 r∧Q r
abbrev AyH (Q:(Int×Int)->Prop):Value->Prop:=λv=>∃ r,v=.agg #[.int .i64 r.1,.int .i64 r.2]∧Q r
abbrev AyI (Q:BE->Prop):IH->Value->Prop:=λI_ v=>∃ r gg3,v=.agg (FL r gg3)∧yI I_ gg3 r∧Q r
abbrev AyJ (Q:AU->Prop):IH->Value->Prop:=λI_ v=>∃ r gj3,v=.agg (K8 r gj3)∧tQ I_ gj3 r∧Q r
abbrev AwJ (Q:Vec->Prop):IH->Value->Prop:=λI_ v=>∃ r p4 c5,v=.agg #[.int .i64 r.N,.slice p4 r.Items.length c5]∧RepSl BX I_ p4 c5 r.Items∧Q r
abbrev AwK (Q:(Vec×Int)->Prop):IH->Value->Prop:=λI_ v=>∃ r p4 c5,v=.tuple #[.agg #[.int .i64 r.1.N,.slice p4 r.1.Items.length c5],.int .i64 r.2]∧RepSl BX I_ p4 c5 r.1.Items∧Q r
abbrev AyK (Q:Dense->Prop):IH->Value->Prop:=λI_ v=>∃ r gk3,v=.agg (M2 r gk3)∧lTk I_ gk3 r∧Q r
abbrev AyL (Q:Vec->Prop):IH->Value->Prop:=λI_ v=>∃ r p3 c4,v=.agg #[.int .i64 r.N,.slice p3 r.Items.length c4]∧RepSl BX I_ p3 c4 r.Items∧Q r
abbrev un2:=@underlying2
abbrev lK:=@underlying3
abbrev un5:=@underlying5
abbrev DU:=@underlying23
abbrev H8:=@underlying26
abbrev AcX:=@underlying28
abbrev zB:=@underlying31
abbrev ZU:=@underlying34
abbrev UW:=@underlying45
abbrev bO:=@underlying47
abbrev AiO:=@underlying60
abbrev UX:=@underlying86
abbrev AmU:=@underlying87
abbrev AiP:=@underlying88
abbrev AfU:=@underlying89
abbrev UY:=@underlying96
abbrev wN:=@underlying97
abbrev AqS:=@underlying98
abbrev nM:=@underlying115
abbrev DB:=@underlying123
abbrev EV:=@underlying125
abbrev EL:=@underlying126
abbrev OJ:=@underlying127
abbrev bF:=@underlying129
abbrev iO:=@underlying140
abbrev B0:=@underlying141
abbrev sB:=@underlying143
abbrev AaZ:=@underlying146
abbrev sC:=@underlying149
abbrev Ab0:=@underlying151
abbrev Ab1:=@underlying155
abbrev T0:=@underlying162
abbrev Ab2:=@underlying173
abbrev sD:=@underlying183
abbrev nN:=@underlying191
abbrev sE:=@underlying259
abbrev sF:=@underlying326
abbrev PM:=@underlying330
abbrev N0:=@underlying357
abbrev bG:=@underlying373
abbrev dK:=@sizeOf2
abbrev D5:=@sizeOf3
abbrev sz4:=@sizeOf4
abbrev F9:=@sizeOf25
abbrev CV:=@sizeOf28
abbrev ZV:=@sizeOf38
abbrev CJ:=@sizeOf47
abbrev SW:=@sizeOf49
abbrev ZW:=@sizeOf65
abbrev gR:=@sizeOf96
abbrev nO:=@sizeOf97
abbrev CT:=@sizeOf115
abbrev AR:=@sizeOf125
abbrev bH:=@sizeOf126
abbrev CZ:=@sizeOf129
abbrev BJ:=@sizeOf143
abbrev EI:=@sizeOf145
abbrev GD:=@sizeOf162
abbrev D4:=@sizeOf183
abbrev B9:=@sizeOf191
abbrev T1:=@sizeOf248
abbrev FN:=@sizeOf254
abbrev FO:=@sizeOf264
abbrev KL:=@sizeOf375
abbrev PN:=@isAgg2
abbrev AM:=@isAgg3
abbrev ia4:=@isAgg4
abbrev VL:=@isAgg22
abbrev F3:=@isAgg23
abbrev FV:=@isAgg25
abbrev VM:=@isAgg26
abbrev FH:=@isAgg28
abbrev dL:=@isAgg38
abbrev OS:=@isAgg45
abbrev FW:=@isAgg47
abbrev nP:=@isAgg49
abbrev KM:=@isAgg115
abbrev HF:=@isAgg123
abbrev BI:=@isAgg125
abbrev KN:=@isAgg126
abbrev GQ:=@isAgg129
abbrev CN:=@isAgg141
abbrev D0:=@isAgg143
abbrev HN:=@isAgg145
abbrev EC:=@isAgg162
abbrev T2:=@isAgg183
abbrev dM:=@isAgg187
abbrev C0:=@isAgg191
abbrev M8:=@isAgg264
abbrev UZ:=@isAgg330
abbrev zv2:=@zeroValue2
abbrev pG:=@zeroValue3
abbrev YL:=@zeroValue28
abbrev MR:=@zeroValue47
abbrev wO:=@zeroValue49
abbrev AiQ:=@zeroValue65
abbrev gS:=@zeroValue96
abbrev N1:=@zeroValue115
abbrev BZ:=@zeroValue125
abbrev LH:=@zeroValue129
abbrev sG:=@zeroValue140
abbrev OL:=@zeroValue143
abbrev wP:=@zeroValue145
abbrev JL:=@zeroValue183
abbrev GF:=@zeroValue191
abbrev dN:=@zeroValue248
abbrev iP:=@zeroValue254
abbrev nQ:=@zeroValue264
abbrev Ab3:=@zeroValue357
end
section
open Go Go.Fw Go.Shelf
theorem sT {α:Type} {a:Option α} {x y:α} (h:a=some x) (k:x=y:=by kernel_rfl):a=some y:=h.trans (congrArg some k)
def Az3:Go.Shelf.Ren:=⟨fun | 6=>69 | 15=>121 | 14=>120 | 28=>186 | 29=>187 | 20=>178 | 21=>179 | 22=>180 | 23=>181 | 24=>182 | 25=>183 | 26=>184 | 27=>185 | 46=>254 | 47=>255 | 48=>256 | 49=>257 | 50=>258 | 57=>294 | n=>n,fun | 22=>94 | 24=>97 | 25=>154 | 3=>3 | 39=>213 | 0=>0 | 53=>284 | 55=>162 | 4=>4 | 46=>277 | 45=>276 | 50=>281 | 5=>5 | 9=>9 | 66=>338 | 70=>342 | 76=>380 | 77=>306 | n=>n,λn=>n⟩
theorem AzS:SlLaysF0.n6 prog Az3 where
  mixed:=MX
  f6:=⟨ "slices.SortFunc[[]fretwork/grid.link,fretwork/grid.link]",by decide,sT func69⟩
  f14:=⟨ "slices.pdqsortCmpFunc[fretwork/grid.link]",by decide,sT func120⟩
  f15:=sT func121
  f20:=⟨ "slices.insertionSortCmpFunc[fretwork/grid.link]",by decide,sT func178⟩
  f21:=⟨ "slices.heapSortCmpFunc[fretwork/grid.link]",by decide,sT func179⟩
  f22:=⟨ "slices.breakPatternsCmpFunc[fretwork/grid.link]",by decide,sT func180⟩
  f23:=⟨ "slices.choosePivotCmpFunc[fretwork/grid.link]",by decide,sT func181⟩
  f24:=⟨ "slices.reverseRangeCmpFunc[fretwork/grid.link]",by decide,sT func182⟩
  f25:=⟨ "slices.partialInsertionSortCmpFunc[fretwork/grid.link]",by decide,sT func183⟩
  f26:=⟨ "slices.partitionEqualCmpFunc[fretwork/grid.link]",by decide,sT func184⟩
  f27:=⟨ "slices.partitionCmpFunc[fretwork/grid.link]",by decide,sT func185⟩
  f28:=sT func186
  f29:=sT func187
  f46:=⟨ "slices.siftDownCmpFunc[fretwork/grid.link]",by decide,sT func254⟩
  f47:=sT func255
  f48:=sT func256
  f49:=⟨ "slices.medianAdjacentCmpFunc[fretwork/grid.link]",by decide,sT func257⟩
  f50:=⟨ "slices.medianCmpFunc[fretwork/grid.link]",by decide,sT func258⟩
  f57:=⟨ "slices.order2CmpFunc[fretwork/grid.link]",by decide,sT func294⟩
  t0:=underlying0
  a0:=isAgg0
  z0:=sizeOf0
  v0:=zeroValue0
  t3:=underlying3
  a3:=isAgg3
  z3:=sizeOf3
  v3:=zeroValue3
  t4:=underlying4
  a4:=isAgg4
  z4:=sizeOf4
  v4:=zeroValue4
  t5:=underlying5
  a5:=isAgg5
  z5:=sizeOf5
  v5:=zeroValue5
  t9:=underlying9
  a9:=isAgg9
  z9:=sizeOf9
  v9:=zeroValue9
  t22:=underlying94
  a22:=isAgg94
  z22:=sizeOf94
  v22:=zeroValue94
  t25:=underlying154
  a25:=isAgg154
  z25:=sizeOf154
  v25:=zeroValue154
  t39:=underlying213
  a39:=isAgg213
  z39:=sizeOf213
  v39:=zeroValue213
  t45:=underlying276
  a45:=isAgg276
  z45:=sizeOf276
  v45:=zeroValue276
  t46:=underlying277
  a46:=isAgg277
  z46:=sizeOf277
  v46:=zeroValue277
  t50:=underlying281
  a50:=isAgg281
  z50:=sizeOf281
  v50:=zeroValue281
  t53:=underlying284
  a53:=isAgg284
  z53:=sizeOf284
  v53:=zeroValue284
  t55:=underlying162
  a55:=isAgg162
  z55:=sizeOf162
  v55:=zeroValue162
  t66:=underlying338
  a66:=isAgg338
  z66:=sizeOf338
  v66:=zeroValue338
  t70:=underlying342
  a70:=isAgg342
  z70:=sizeOf342
  v70:=zeroValue342
  t76:=underlying380
  a76:=isAgg380
  z76:=sizeOf380
  v76:=zeroValue380
  t77:=underlying306
  a77:=isAgg306
  z77:=sizeOf306
  v77:=zeroValue306
def AxI:Go.Shelf.Ren:=⟨fun | 6=>227 | 15=>121 | 14=>275 | 28=>186 | 29=>187 | 20=>299 | 21=>300 | 22=>301 | 23=>302 | 24=>303 | 25=>304 | 26=>305 | 27=>306 | 46=>330 | 47=>255 | 48=>256 | 49=>331 | 50=>332 | 57=>343 | n=>n,fun | 22=>127 | 24=>248 | 25=>312 | 3=>3 | 39=>213 | 0=>0 | 53=>284 | 55=>162 | 4=>4 | 46=>277 | 45=>276 | 50=>281 | 5=>5 | 9=>9 | 66=>338 | 70=>342 | 76=>380 | 77=>306 | n=>n,λn=>n⟩
theorem Az4:SlLaysF0.n6 prog AxI where
  mixed:=MX
  f6:=⟨ "slices.SortFunc[[]fretwork/api.Triple,fretwork/api.Triple]",by decide,sT func227⟩
  f14:=⟨ "slices.pdqsortCmpFunc[fretwork/api.Triple]",by decide,sT func275⟩
  f15:=sT func121
  f20:=⟨ "slices.insertionSortCmpFunc[fretwork/api.Triple]",by decide,sT func299⟩
  f21:=⟨ "slices.heapSortCmpFunc[fretwork/api.Triple]",by decide,sT func300⟩
  f22:=⟨ "slices.breakPatternsCmpFunc[fretwork/api.Triple]",by decide,sT func301⟩
  f23:=⟨ "slices.choosePivotCmpFunc[fretwork/api.Triple]",by decide,sT func302⟩
  f24:=⟨ "slices.reverseRangeCmpFunc[fretwork/api.Triple]",by decide,sT func303⟩
  f25:=⟨ "slices.partialInsertionSortCmpFunc[fretwork/api.Triple]",by decide,sT func304⟩
  f26:=⟨ "slices.partitionEqualCmpFunc[fretwork/api.Triple]",by decide,sT func305⟩
  f27:=⟨ "slices.partitionCmpFunc[fretwork/api.Triple]",by decide,sT func306⟩
  f28:=sT func186
  f29:=sT func187
  f46:=⟨ "slices.siftDownCmpFunc[fretwork/api.Triple]",by decide,sT func330⟩
  f47:=sT func255
  f48:=sT func256
  f49:=⟨ "slices.medianAdjacentCmpFunc[fretwork/api.Triple]",by decide,sT func331⟩
  f50:=⟨ "slices.medianCmpFunc[fretwork/api.Triple]",by decide,sT func332⟩
  f57:=⟨ "slices.order2CmpFunc[fretwork/api.Triple]",by decide,sT func343⟩
  t0:=underlying0
  a0:=isAgg0
  z0:=sizeOf0
  v0:=zeroValue0
  t3:=underlying3
  a3:=isAgg3
  z3:=sizeOf3
  v3:=zeroValue3
  t4:=underlying4
  a4:=isAgg4
  z4:=sizeOf4
  v4:=zeroValue4
  t5:=underlying5
  a5:=isAgg5
  z5:=sizeOf5
  v5:=zeroValue5
  t9:=underlying9
  a9:=isAgg9
  z9:=sizeOf9
  v9:=zeroValue9
  t22:=underlying127
  a22:=isAgg127
  z22:=sizeOf127
  v22:=zeroValue127
  t25:=underlying312
  a25:=isAgg312
  z25:=sizeOf312
  v25:=zeroValue312
  t39:=underlying213
  a39:=isAgg213
  z39:=sizeOf213
  v39:=zeroValue213
  t45:=underlying276
  a45:=isAgg276
  z45:=sizeOf276
  v45:=zeroValue276
  t46:=underlying277
  a46:=isAgg277
  z46:=sizeOf277
  v46:=zeroValue277
  t50:=underlying281
  a50:=isAgg281
  z50:=sizeOf281
  v50:=zeroValue281
  t53:=underlying284
  a53:=isAgg284
  z53:=sizeOf284
  v53:=zeroValue284
  t55:=underlying162
  a55:=isAgg162
  z55:=sizeOf162
  v55:=zeroValue162
  t66:=underlying338
  a66:=isAgg338
  z66:=sizeOf338
  v66:=zeroValue338
  t70:=underlying342
  a70:=isAgg342
  z70:=sizeOf342
  v70:=zeroValue342
  t76:=underlying380
  a76:=isAgg380
  z76:=sizeOf380
  v76:=zeroValue380
  t77:=underlying306
  a77:=isAgg306
  z77:=sizeOf306
  v77:=zeroValue306
def AxJ:Go.Shelf.Ren:=⟨fun | 6=>264 | 15=>121 | 14=>295 | 28=>186 | 29=>187 | 20=>322 | 21=>323 | 22=>324 | 23=>325 | 24=>326 | 25=>327 | 26=>328 | 27=>329 | 46=>340 | 47=>255 | 48=>256 | 49=>341 | 50=>342 | 57=>350 | n=>n,fun | 22=>26 | 24=>115 | 25=>352 | 3=>3 | 39=>213 | 0=>0 | 53=>284 | 55=>162 | 4=>4 | 46=>277 | 45=>276 | 50=>281 | 5=>5 | 9=>9 | 66=>338 | 70=>342 | 76=>380 | 77=>306 | n=>n,λn=>n⟩
theorem Az5:SlLaysF0.n6 prog AxJ where
  mixed:=MX
  f6:=⟨ "slices.SortFunc[[]fretwork/api.Edge,fretwork/api.Edge]",by decide,sT func264⟩
  f14:=⟨ "slices.pdqsortCmpFunc[fretwork/api.Edge]",by decide,sT func295⟩
  f15:=sT func121
  f20:=⟨ "slices.insertionSortCmpFunc[fretwork/api.Edge]",by decide,sT func322⟩
  f21:=⟨ "slices.heapSortCmpFunc[fretwork/api.Edge]",by decide,sT func323⟩
  f22:=⟨ "slices.breakPatternsCmpFunc[fretwork/api.Edge]",by decide,sT func324⟩
  f23:=⟨ "slices.choosePivotCmpFunc[fretwork/api.Edge]",by decide,sT func325⟩
  f24:=⟨ "slices.reverseRangeCmpFunc[fretwork/api.Edge]",by decide,sT func326⟩
  f25:=⟨ "slices.partialInsertionSortCmpFunc[fretwork/api.Edge]",by decide,sT func327⟩
  f26:=⟨ "slices.partitionEqualCmpFunc[fretwork/api.Edge]",by decide,sT func328⟩
  f27:=⟨ "slices.partitionCmpFunc[fretwork/api.Edge]",by decide,sT func329⟩
  f28:=sT func186
  f29:=sT func187
  f46:=⟨ "slices.siftDownCmpFunc[fretwork/api.Edge]",by decide,sT func340⟩
  f47:=sT func255
  f48:=sT func256
  f49:=⟨ "slices.medianAdjacentCmpFunc[fretwork/api.Edge]",by decide,sT func341⟩
  f50:=⟨ "slices.medianCmpFunc[fretwork/api.Edge]",by decide,sT func342⟩
  f57:=⟨ "slices.order2CmpFunc[fretwork/api.Edge]",by decide,sT func350⟩
  t0:=underlying0
  a0:=isAgg0
  z0:=sizeOf0
  v0:=zeroValue0
  t3:=underlying3
  a3:=isAgg3
  z3:=sizeOf3
  v3:=zeroValue3
  t4:=underlying4
  a4:=isAgg4
  z4:=sizeOf4
  v4:=zeroValue4
  t5:=underlying5
  a5:=isAgg5
  z5:=sizeOf5
  v5:=zeroValue5
  t9:=underlying9
  a9:=isAgg9
  z9:=sizeOf9
  v9:=zeroValue9
  t22:=underlying26
  a22:=isAgg26
  z22:=sizeOf26
  v22:=zeroValue26
  t25:=underlying352
  a25:=isAgg352
  z25:=sizeOf352
  v25:=zeroValue352
  t39:=underlying213
  a39:=isAgg213
  z39:=sizeOf213
  v39:=zeroValue213
  t45:=underlying276
  a45:=isAgg276
  z45:=sizeOf276
  v45:=zeroValue276
  t46:=underlying277
  a46:=isAgg277
  z46:=sizeOf277
  v46:=zeroValue277
  t50:=underlying281
  a50:=isAgg281
  z50:=sizeOf281
  v50:=zeroValue281
  t53:=underlying284
  a53:=isAgg284
  z53:=sizeOf284
  v53:=zeroValue284
  t55:=underlying162
  a55:=isAgg162
  z55:=sizeOf162
  v55:=zeroValue162
  t66:=underlying338
  a66:=isAgg338
  z66:=sizeOf338
  v66:=zeroValue338
  t70:=underlying342
  a70:=isAgg342
  z70:=sizeOf342
  v70:=zeroValue342
  t76:=underlying380
  a76:=isAgg380
  z76:=sizeOf380
  v76:=zeroValue380
  t77:=underlying306
  a77:=isAgg306
  z77:=sizeOf306
  v77:=zeroValue306
end
end Go.Proofs.YtcecodhleocefaaGreat
namespace Go.Fw
open Go Go.RowKit
section
variable {α:Type} {ok:α→Prop}
def Rd (P:Program) (t:TypeId) (El:EE α) (ok:α->Prop):Prop:=
 P.cellsOf t=El.sz∧∀ {H:Type} (enc:TypeId×Value->H) (w:World) (sp:Nat->Bool) (held:Bool) (h:Nat) (cs:List Value) (d:DataW H×List MemPlace),DataW.trod enc P w 0 sp held h t cs=some d->∃ y,El.rep (hp w) cs y∧ok y
variable {P:Program} {t e:TypeId}
theorem Rd.int {k:IntKind} (O:P.cellsOf t=1) (V:P.underlying t=some (.int k)) (h:∀ x:Int,([Value.int k x]:List Value).length=1∧OV [Value.int k x]=true):Rd P t (LP 1 (λx=>[.int k x]) h) (mA k):=
 ⟨O,λ_ _ _ _ _ _ _ h=>by have⟨n,J,_,U⟩:=DataW.trod_int V h; exact⟨n,J,U⟩⟩
theorem sH {R:Nat->α->Prop}:∀ n,(∀ i,i<n->∃ y,R i y)->∃ ys:List α,ys.length=n∧∀ i y,ys[i]? = some y->R i y
 | 0,_=>⟨[],rfl,λi y h=>by simp at h⟩
 | n+1,h=>by have⟨ys,D,_⟩:=sH n λi _=>h i (by omega);have⟨y,_⟩:=h n (by omega);refine⟨ys++[y],by simp[D],λi _ _=>?_⟩;grind
theorem Ab4 {w:World} {D n:Nat} {a:Addr} {cs:List Value} (h:w.cells? D a n=some cs):cs.length=n∧∀ j v,cs[j]? = some v->w.cell? (a.add j)=some v:=by
 unfold World.cells? at h;split at h
 . have U:=mapM_some_length h;refine⟨by simpa using U,λj v O=>?_⟩;have J:j<n:=by grind
   have:=mapM_some_get h j j (by simp[J]);rw[this,O]
 . cases h
theorem AqT {w:World} {b off:Nat} {cs:List Value} (h:∀ j v,cs[j]? = some v->w.cell? ⟨b,off+j,none⟩=some v) (D:cs≠[]):ImC (hp w) b off cs:=by
 cases cs with
 | nil=>exact absurd rfl D
 | cons u r=>
  have J:=h 0 u rfl;simp only[World.cell?] at J;split at J
  . rename_i c t V O;refine⟨c,t,V,O,λj v U=>?_⟩;have:=h j v U;simp only[World.cell?,O] at this;simpa using this
  . cases J
theorem Rd.slice {El:EE α} (hs:P.cellsOf t=1) (ht:P.underlying t=some (.slice e)) (h0:0<El.sz) (R:Rd P e El ok):Rd P t (gO El) (λxs=>(∀ x∈xs,ok x)∧xs.length<=maxLen):=by
 refine⟨hs,λenc w sp held _ cs _ a6=>?_⟩;rcases DataW.trod_slice ht a6 with⟨rfl,_⟩ | ⟨a,U,cap,D,d1,n,_,rfl,_,hb,c2,c0,c1,b0,_⟩
 . exact⟨[],⟨none,0,rfl,.nil _ _ _⟩,by simp,by simp⟩
 . have O:∀ i,i<U->∃ y:α,(∃ cs,w.cells? 0 (a.add (i*El.sz)) El.sz=some cs∧El.rep (hp w) cs y)∧ok y:=by
     intro i hi;have Z:=b0 i hi;rw[R.1] at Z;have he:D[i]? = some D[i]:=gJ (by omega);rw[he] at Z
     cases J:w.cells? 0 (a.add (i*El.sz)) El.sz with
     | none=>rw[J] at Z; cases Z
     | some cs=>
      rw[J] at Z;have⟨y,_,_⟩:=R.2 enc w sp held n cs _ Z;grind
   have⟨ys,a9,a2⟩:=sH U O;refine⟨ys,⟨some a,cap,by rw[a9],by omega,λi x h=>?_⟩,λx h=>?_,by omega⟩
   . have⟨⟨cs,hcs,hrep⟩,_⟩:=a2 i x h;have⟨b1,a5⟩:=Ab4 hcs;have a8:cs≠[]:=λe=>by subst e; simp at b1; omega
     have d0:i<U:=by grind
     -- the head of the slice is a place of its own
     have V:a.spot=none:=by
      have⟨_,⟨cs0,hc0,_⟩,_⟩:=O 0 (by omega);have⟨a7,a4⟩:=Ab4 hc0
      cases cs0 with
      | nil=>simp at a7; omega
      | cons u r=>
       have:=a4 0 u rfl;simp only[AeH,Addr.add,if_true,World.cell?] at this;split at this
       all_goals simp_all
     refine⟨a.block,a.off,cs,by cases a; simp_all,AqT (λj v hj=>?_) a8,hrep⟩;have:=a5 j v hj
     have e1:(a.add (i*El.sz)).add j=⟨a.block,a.off+i*El.sz+j,none⟩:=by cases a;simp only at V;subst V;unfold Addr.add;grind
     rwa [e1] at this
   . have⟨i,hi⟩:=List.getElem?_of_mem h;exact(a2 i x hi).2
theorem JM {H:Type} {enc:TypeId×Value->H} {w:World} {sp:Nat->Bool} {held:Bool} {D:Nat} {cs:List Value} {d:DataW H×List MemPlace} {J:Array Field} (U:P.underlying t=some (.struct J)) (h:DataW.trod enc P w 0 sp held D t cs=some d) :
  cs.length=P.cellsOf t∧∃ n,∀ (i:Nat) (f:Field),J[i]? = some f->∃ x,DataW.trod enc P w 0 sp held n f.type ((cs.drop f.offset).take (P.cellsOf f.type))=some x:=by
 have⟨_,n,_,_,O,_,_⟩:=DataW.trod_struct U h;refine⟨O,n,λi f _=>?_⟩;grind
theorem Rd.field {El:EE α} {T:TypeId} {H:Type} {enc:TypeId×Value->H} {w:World} {sp:Nat->Bool} {held:Bool} {n:Nat} {cs:List Value} {h:Array Field} (R:Rd P T El ok)
  (J:∀ (i:Nat) (f:Field),h[i]? = some f->∃ x,DataW.trod enc P w 0 sp held n f.type ((cs.drop f.offset).take (P.cellsOf f.type))=some x) (i:Nat) {f:Field} (hi:h[i]? = some f) (O:f.type=T) {off:Nat} (U:f.offset=off) :
  ∃ y,El.rep (hp w) ((cs.drop off).take El.sz) y∧ok y:=by
 subst O U;have⟨x,D⟩:=J i f hi;rw[R.1] at D;exact R.2 enc w sp held n _ _ D
def AyM (P:Program) (t:TypeId):Bool:=match P.underlying t with
 | some (.struct _) | some (.array _ _)=>true
 | _=>false
variable {H:Type} {enc:TypeId×Value→H} {W:World} {sp:Nat→Bool} {held:Bool} {v:Value} {d:DataW H} {p:List MemPlace}
theorem Rd.argA {El:EE α} (R:Rd P t El ok) (O:Value.okWide P W .any 0 t v) (h:DataW.Trod enc P W 0 sp held t v d p) (J:AyM P t=true):∃ cs y,v=.agg cs∧El.rep (hp W) cs.toList y∧ok y:=by
 have⟨D,h⟩:=h;unfold Value.okWide at O;unfold AyM at J
 have:∃ cs,v=.agg cs:=by grind
 obtain⟨cs,rfl⟩:=this;have⟨y,U,V⟩:=R.2 enc W sp held D _ _ h;exact⟨cs,y,rfl,U,V⟩
theorem iQ (V:laidOutB P=true) {W U:World} (Z:Below W.heap.size W U):∀ {ts:List TypeId} {vs:List Value} {O:List (DataW H)} {D:List MemPlace},(∀ t∈ts,P.readableRec t=true∧t<P.types.size) ->
  (∀ x∈D,x.block<W.heap.size)->DataW.TrodAll enc P W 0 (λ_=>true) true ts vs O D->DataW.TrodAll enc P U 0 (λb=>decide (b<W.heap.size)) true ts vs O D
 | [],[],[],_,_,_,h=>h
 | t :: ts,v :: vs,d :: O,D,hr,hlt,h=>by
  obtain⟨p,q,h1,h2,rfl⟩:=h;exact⟨p,q,Below.trod V (hr t (by simp)).1 (hr t (by simp)).2 h1 Z (λx J=>hlt x (by simp[J])),iQ V Z (λt ht=>hr t (by simp[ht])) (λx J=>hlt x (by simp[J])) h2,rfl⟩
 | [],_ :: _,_,_,_,_,h=>h.elim
 | [],[],_ :: _,_,_,_,h=>h.elim
 | _ :: _,[],_,_,_,_,h=>h.elim
 | _ :: _,_ :: _,[],_,_,_,h=>h.elim
theorem dO {W:World} {sp:Nat->Bool} {held:Bool} {D:Nat}:∀ {ts:List TypeId} {vs:List Value} {J:List (DataW H)} {O:List MemPlace},DataW.TrodAll enc P W D sp held ts vs J O->J.length=ts.length
 | [],[],[],_,_=>rfl
 | _ :: _,_ :: _,_ :: _,_,h=>by have⟨_,_,_,U,_⟩:=h; simp[dO U]
 | [],_ :: _,_,_,h=>h.elim
 | [],[],_ :: _,_,h=>h.elim
 | _ :: _,[],_,_,h=>h.elim
 | _ :: _,_ :: _,[],_,h=>h.elim
def AwL (P:Program) (ts:List TypeId):Bool:=ts.all λt=>P.readableRec t && decide (t<P.types.size)
theorem AqU {f:Func} {s:ChangeSpec} {W U:World} {args:Array Value} {J h:List (DataW H)} {a2:List MemPlace} {tb:TypeId} (hl:laidOutB P=true) (hr:AwL P f.params.toList=true) (hT:f.resultTypes = #[tb]) (hB:P.underlying tb=some .bool)
   (V:s.vars=[]) (hs:∀ (J:List (DataW H)),J.length=f.params.toList.length->s.fn H J = { results:=[.lit (.bool true)],args:=J,vars:=[] }) (Z:DataW.Whole enc P f.params.toList s.vars false W args.toList J h a2) (hb:Below W.heap.size W U) :
   s.post enc P f false true false false W args (.bool true) U:=by
 have a6:=Z;have a8:=Z.lt;obtain⟨p,q,hA,D,rfl,_,_⟩:=Z;rw[V] at D
 have a7:h=[]∧q=[]:=by
   cases h with
   | nil=>exact⟨rfl,D⟩
   | cons=>exact D.elim
 obtain⟨rfl,rfl⟩:=a7;have a4:J.length=f.params.toList.length:=dO hA;have O:=hs J a4;refine⟨J,[],p++[],[],p,[],a6,?_,?_,?_,hb.frame _,λa5=>by cases a5⟩
 . rw[lP,O,hT];exact⟨[],[],shut_bool hB true,rfl,rfl⟩
 . rw[lP,O];refine iQ hl hb (λt ht=>?_) (λx hx=>a8 x (by simp[hx])) hA;have:=List.all_eq_true.1 hr t ht;simpa using this
 . rw[lP,O,V];exact rfl
theorem AmV {g:FuncId} {vs:List Value} {φ:IH->Value->Prop} {W:World} (h:B7 P g vs (hp W) φ) {R:Ending->World->Prop} (O:∀ I v D,φ I v->Below W.heap.size W D->R (.returned v) D):Calls P g vs.toArray W R:=by refine(h W (λ_=>none) (IH.le.refl _) trivial (λ_ _ x=>nomatch x) (λ_=>.inr rfl)).mono λ_ w' U=>?_;obtain⟨v,J,_,rfl,_,⟨_,hψ⟩,hs⟩:=U;exact O J v w' hψ ⟨hs.base.os,hs.base.tape,hs.base.output,hs.base.size,λb V=>hs.base.block b V (by simp)⟩
end
end Go.Fw
namespace Go.Proofs.YtcecodhleocefaaGreat
open Tryz
open Go Go.Fw
theorem AzG:Rd prog 22 B2 (mA .i64):=Rd.int (by kernel_rfl) underlying22 _
theorem RD3:Rd prog 3 B2 (mA .i64):=Rd.int (by kernel_rfl) underlying3 _
theorem RD2:Rd prog 2 B2 (mA .i64):=Rd.int (by kernel_rfl) underlying2 _
theorem AzH:Rd prog 23 (gO B2) (λxs=>(∀ x∈xs,(mA .i64) x)∧xs.length<=maxLen):=Rd.slice (by kernel_rfl) underlying23 (by decide) RD2
theorem AzI:Rd prog 25 AxT ApN:=by
  refine⟨by kernel_rfl,λenc w sp held fuel cs d h=>?_⟩;have⟨hl,n,hf⟩:=JM underlying25 h;have hl:cs.length=5:=hl.trans (by kernel_rfl);have⟨x0,h0,k0⟩:=Rd.field AzG hf 0 rfl rfl (off:=0) rfl;have⟨x1,h1,k1⟩:=Rd.field RD3 hf 1 rfl rfl (off:=1) rfl;have⟨x2,h2,k2⟩:=Rd.field RD3 hf 2 rfl rfl (off:=2) rfl;have⟨x3,h3,k3⟩:=Rd.field RD3 hf 3 rfl rfl (off:=3) rfl;have⟨x4,h4,k4⟩:=Rd.field AzH hf 4 rfl rfl (off:=4) rfl
  obtain⟨c0,c1,c2,c3,c4,rfl⟩:∃ c0 c1 c2 c3 c4,cs=[c0,c1,c2,c3,c4]:=by
    match cs,hl with
    | [c0,c1,c2,c3,c4],_=>exact⟨c0,c1,c2,c3,c4,rfl⟩
  have e0:[c0]=[Value.int .i64 x0]:=h0;simp only[List.cons.injEq,and_true] at e0;obtain rfl:=e0;have e1:[c1]=[Value.int .i64 x1]:=h1;simp only[List.cons.injEq,and_true] at e1;obtain rfl:=e1;have e2:[c2]=[Value.int .i64 x2]:=h2;simp only[List.cons.injEq,and_true] at e2;obtain rfl:=e2;have e3:[c3]=[Value.int .i64 x3]:=h3;simp only[List.cons.injEq,and_true] at e3;obtain rfl:=e3;have⟨a4_0,b4_0,e4,R4_0⟩:=h4;have e4:[c4]=[Value.slice a4_0 x4.length b4_0]:=e4;simp only[List.cons.injEq,and_true] at e4;obtain rfl:=e4;exact⟨{ Kind:=x0,N:=x1,Source:=x2,Length:=x3,Draws:=x4 },⟨_,_,rfl,R4_0⟩,k0,k1,k2,k3,k4⟩
theorem AyZ:Rd prog 115 CC AhY:=by
  refine⟨by kernel_rfl,λenc w sp held fuel cs d h=>?_⟩;have⟨hl,n,hf⟩:=JM underlying115 h;have hl:cs.length=3:=hl.trans (by kernel_rfl);have⟨x0,h0,k0⟩:=Rd.field RD3 hf 0 rfl rfl (off:=0) rfl;have⟨x1,h1,k1⟩:=Rd.field RD3 hf 1 rfl rfl (off:=1) rfl;have⟨x2,h2,k2⟩:=Rd.field RD2 hf 2 rfl rfl (off:=2) rfl
  obtain⟨c0,c1,c2,rfl⟩:∃ c0 c1 c2,cs=[c0,c1,c2]:=by
    match cs,hl with
    | [c0,c1,c2],_=>exact⟨c0,c1,c2,rfl⟩
  have e0:[c0]=[Value.int .i64 x0]:=h0;simp only[List.cons.injEq,and_true] at e0;obtain rfl:=e0;have e1:[c1]=[Value.int .i64 x1]:=h1;simp only[List.cons.injEq,and_true] at e1;obtain rfl:=e1;have e2:[c2]=[Value.int .i64 x2]:=h2;simp only[List.cons.injEq,and_true] at e2;obtain rfl:=e2;exact⟨{ From:=x0,To:=x1,W:=x2 },rfl,k0,k1,k2⟩
theorem AzJ:Rd prog 26 (gO CC) (λxs=>(∀ x∈xs,AhY x)∧xs.length<=maxLen):=Rd.slice (by kernel_rfl) underlying26 (by decide) AyZ
theorem AzK:Rd prog 28 Aw4 AkA:=by
  refine⟨by kernel_rfl,λenc w sp held fuel cs d h=>?_⟩;have⟨hl,n,hf⟩:=JM underlying28 h;have hl:cs.length=2:=hl.trans (by kernel_rfl);have⟨x0,h0,k0⟩:=Rd.field RD3 hf 0 rfl rfl (off:=0) rfl;have⟨x1,h1,k1⟩:=Rd.field AzJ hf 1 rfl rfl (off:=1) rfl
  obtain⟨c0,c1,rfl⟩:∃ c0 c1,cs=[c0,c1]:=by
    match cs,hl with
    | [c0,c1],_=>exact⟨c0,c1,rfl⟩
  have e0:[c0]=[Value.int .i64 x0]:=h0;simp only[List.cons.injEq,and_true] at e0;obtain rfl:=e0;have⟨a1_0,b1_0,e1,R1_0⟩:=h1;have e1:[c1]=[Value.slice a1_0 x1.length b1_0]:=e1;simp only[List.cons.injEq,and_true] at e1;obtain rfl:=e1;exact⟨{ N:=x0,Edges:=x1 },⟨_,_,rfl,R1_0⟩,k0,k1⟩
theorem RD5:Rd prog 5 eU8 (mA .u8):=Rd.int (by kernel_rfl) underlying5 _
theorem AzL:Rd prog 30 AeX ZM:=by
  refine⟨by kernel_rfl,λenc w sp held fuel cs d h=>?_⟩;have⟨hl,n,hf⟩:=JM underlying30 h;have hl:cs.length=8:=hl.trans (by kernel_rfl);have⟨x0,h0,k0⟩:=Rd.field AzI hf 0 rfl rfl (off:=0) rfl;have⟨x1,h1,k1⟩:=Rd.field AzK hf 1 rfl rfl (off:=5) rfl;have⟨x2,h2,k2⟩:=Rd.field RD5 hf 2 rfl rfl (off:=7) rfl
  obtain⟨c0,c1,c2,c3,c4,c5,c6,c7,rfl⟩:∃ c0 c1 c2 c3 c4 c5 c6 c7,cs=[c0,c1,c2,c3,c4,c5,c6,c7]:=by
    match cs,hl with
    | [c0,c1,c2,c3,c4,c5,c6,c7],_=>exact⟨c0,c1,c2,c3,c4,c5,c6,c7,rfl⟩
  have⟨a0_0,b0_0,e0,R0_0⟩:=h0;have e0:[c0,c1,c2,c3,c4]=[Value.int .i64 x0.Kind,Value.int .i64 x0.N,Value.int .i64 x0.Source,Value.int .i64 x0.Length,Value.slice a0_0 x0.Draws.length b0_0]:=e0;simp only[List.cons.injEq,and_true] at e0;obtain⟨rfl,rfl,rfl,rfl,rfl⟩:=e0;have⟨a1_0,b1_0,e1,R1_0⟩:=h1;have e1:[c5,c6]=[Value.int .i64 x1.N,Value.slice a1_0 x1.Edges.length b1_0]:=e1;simp only[List.cons.injEq,and_true] at e1;obtain⟨rfl,rfl⟩:=e1;have e2:[c7]=[Value.int .u8 x2]:=h2;simp only[List.cons.injEq,and_true] at e2;obtain rfl:=e2;exact⟨{ P:=x0,G:=x1,Limit:=x2 },⟨((a0_0,b0_0),(a1_0,b1_0)),rfl,⟨R0_0,R1_0⟩⟩,k0,k1,k2⟩
theorem Az0:Rd prog 195 B2 (mA .i64):=Rd.int (by kernel_rfl) underlying195 _
theorem Az1:Rd prog 196 B2 (mA .i64):=Rd.int (by kernel_rfl) underlying196 _
theorem Az2:Rd prog 198 RM vE:=by
  refine⟨by kernel_rfl,λenc w sp held fuel cs d h=>?_⟩;have⟨hl,n,hf⟩:=JM underlying198 h;have hl:cs.length=2:=hl.trans (by kernel_rfl);have⟨x0,h0,k0⟩:=Rd.field Az0 hf 0 rfl rfl (off:=0) rfl;have⟨x1,h1,k1⟩:=Rd.field Az1 hf 1 rfl rfl (off:=1) rfl
  obtain⟨c0,c1,rfl⟩:∃ c0 c1,cs=[c0,c1]:=by
    match cs,hl with
    | [c0,c1],_=>exact⟨c0,c1,rfl⟩
  have e0:[c0]=[Value.int .i64 x0]:=h0;simp only[List.cons.injEq,and_true] at e0;obtain rfl:=e0;have e1:[c1]=[Value.int .i64 x1]:=h1;simp only[List.cons.injEq,and_true] at e1;obtain rfl:=e1;exact⟨{ Way:=x0,Form:=x1 },rfl,k0,k1⟩
theorem AzM:Rd prog 31 (gO RM) (λxs=>(∀ x∈xs,vE x)∧xs.length<=maxLen):=Rd.slice (by kernel_rfl) underlying31 (by decide) Az2
theorem AzN:Rd prog 33 AeY mL:=by
  refine⟨by kernel_rfl,λenc w sp held fuel cs d h=>?_⟩;have⟨hl,n,hf⟩:=JM underlying33 h;have hl:cs.length=12:=hl.trans (by kernel_rfl);have⟨x0,h0,k0⟩:=Rd.field AzL hf 0 rfl rfl (off:=0) rfl;have⟨x1,h1,k1⟩:=Rd.field RD5 hf 1 rfl rfl (off:=8) rfl;have⟨x2,h2,k2⟩:=Rd.field RD5 hf 2 rfl rfl (off:=9) rfl;have⟨x3,h3,k3⟩:=Rd.field RD5 hf 3 rfl rfl (off:=10) rfl;have⟨x4,h4,k4⟩:=Rd.field AzM hf 4 rfl rfl (off:=11) rfl
  obtain⟨c0,c1,c2,c3,c4,c5,c6,c7,c8,c9,c10,c11,rfl⟩:∃ c0 c1 c2 c3 c4 c5 c6 c7 c8 c9 c10 c11,cs=[c0,c1,c2,c3,c4,c5,c6,c7,c8,c9,c10,c11]:=by
    match cs,hl with
    | [c0,c1,c2,c3,c4,c5,c6,c7,c8,c9,c10,c11],_=>exact⟨c0,c1,c2,c3,c4,c5,c6,c7,c8,c9,c10,c11,rfl⟩
  have⟨g0,e0,R0⟩:=h0;have e0:[c0,c1,c2,c3,c4,c5,c6,c7]=[Value.int .i64 x0.P.Kind,Value.int .i64 x0.P.N,Value.int .i64 x0.P.Source,Value.int .i64 x0.P.Length,Value.slice g0.1.1 x0.P.Draws.length g0.1.2,Value.int .i64 x0.G.N,Value.slice g0.2.1 x0.G.Edges.length g0.2.2,Value.int .u8 x0.Limit]:=e0;simp only[List.cons.injEq,and_true] at e0;obtain⟨rfl,rfl,rfl,rfl,rfl,rfl,rfl,rfl⟩:=e0;have e1:[c8]=[Value.int .u8 x1]:=h1;simp only[List.cons.injEq,and_true] at e1;obtain rfl:=e1;have e2:[c9]=[Value.int .u8 x2]:=h2;simp only[List.cons.injEq,and_true] at e2;obtain rfl:=e2;have e3:[c10]=[Value.int .u8 x3]:=h3;simp only[List.cons.injEq,and_true] at e3;obtain rfl:=e3;have⟨a4_0,b4_0,e4,R4_0⟩:=h4;have e4:[c11]=[Value.slice a4_0 x4.length b4_0]:=e4;simp only[List.cons.injEq,and_true] at e4;obtain rfl:=e4;exact⟨{ Model:=x0,R:=x1,C:=x2,Room:=x3,Choices:=x4 },⟨(((g0.1.1,g0.1.2),(g0.2.1,g0.2.2)),(a4_0,b4_0)),rfl,⟨⟨R0.1,R0.2⟩,R4_0⟩⟩,k0,k1,k2,k3,k4⟩
theorem AzO:Rd prog 63 B2 (mA .i64):=Rd.int (by kernel_rfl) underlying63 _
theorem AzP:Rd prog 65 NC AhZ:=by
  refine⟨by kernel_rfl,λenc w sp held fuel cs d h=>?_⟩;have⟨hl,n,hf⟩:=JM underlying65 h;have hl:cs.length=4:=hl.trans (by kernel_rfl);have⟨x0,h0,k0⟩:=Rd.field AzO hf 0 rfl rfl (off:=0) rfl;have⟨x1,h1,k1⟩:=Rd.field RD3 hf 1 rfl rfl (off:=1) rfl;have⟨x2,h2,k2⟩:=Rd.field RD3 hf 2 rfl rfl (off:=2) rfl;have⟨x3,h3,k3⟩:=Rd.field RD3 hf 3 rfl rfl (off:=3) rfl
  obtain⟨c0,c1,c2,c3,rfl⟩:∃ c0 c1 c2 c3,cs=[c0,c1,c2,c3]:=by
    match cs,hl with
    | [c0,c1,c2,c3],_=>exact⟨c0,c1,c2,c3,rfl⟩
  have e0:[c0]=[Value.int .i64 x0]:=h0;simp only[List.cons.injEq,and_true] at e0;obtain rfl:=e0;have e1:[c1]=[Value.int .i64 x1]:=h1;simp only[List.cons.injEq,and_true] at e1;obtain rfl:=e1;have e2:[c2]=[Value.int .i64 x2]:=h2;simp only[List.cons.injEq,and_true] at e2;obtain rfl:=e2;have e3:[c3]=[Value.int .i64 x3]:=h3;simp only[List.cons.injEq,and_true] at e3;obtain rfl:=e3;exact⟨{ Kind:=x0,A:=x1,B:=x2,K:=x3 },rfl,k0,k1,k2,k3⟩
theorem AzQ:Rd prog 34 (gO NC) (λxs=>(∀ x∈xs,AhZ x)∧xs.length<=maxLen):=Rd.slice (by kernel_rfl) underlying34 (by decide) AzP
theorem AzR:Rd prog 36 yT cR:=by
  refine⟨by kernel_rfl,λenc w sp held fuel cs d h=>?_⟩;have⟨hl,n,hf⟩:=JM underlying36 h;have hl:cs.length=2:=hl.trans (by kernel_rfl);have⟨x0,h0,k0⟩:=Rd.field AzQ hf 0 rfl rfl (off:=0) rfl;have⟨x1,h1,k1⟩:=Rd.field RD5 hf 1 rfl rfl (off:=1) rfl
  obtain⟨c0,c1,rfl⟩:∃ c0 c1,cs=[c0,c1]:=by
    match cs,hl with
    | [c0,c1],_=>exact⟨c0,c1,rfl⟩
  have⟨a0_0,b0_0,e0,R0_0⟩:=h0;have e0:[c0]=[Value.slice a0_0 x0.length b0_0]:=e0;simp only[List.cons.injEq,and_true] at e0;obtain rfl:=e0;have e1:[c1]=[Value.int .u8 x1]:=h1;simp only[List.cons.injEq,and_true] at e1;obtain rfl:=e1;exact⟨{ L:=x0,Windows:=x1 },⟨_,_,rfl,R0_0⟩,k0,k1⟩
end Go.Proofs.YtcecodhleocefaaGreat
