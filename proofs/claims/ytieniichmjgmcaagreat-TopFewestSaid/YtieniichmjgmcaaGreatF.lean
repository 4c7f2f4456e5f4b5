import Derived.Test.YtieniichmjgmcaaGreatT
import Derived.Test.YtieniichmjgmcaaGreatChecked
import Derived.KernelRfl
import Derived.ChangeAt
import Derived.ChangeOld
set_option linter.unusedVariables false
set_option linter.unusedSimpArgs false
set_option maxRecDepth 100000
set_option maxHeartbeats 1000000
namespace Go.Proofs.YtieniichmjgmcaaGreat
open Tryz
section
open Go Go.Fw
theorem MX:prog.follows .mixedOrders=true:=by kernel_rfl
theorem MD:Nat.blt 0 (prog.types.size+Made.depth)=true:=by kernel_rfl
abbrev tbP:List (Nat×List Nat):=[(24,[0,1]),(26,[0,2,3,4]),(56,[0,1,2,3,4]),(59,[0,5,7,8,9,10,11]),(63,[0,1,2,3,4]),(65,[0,1,2]),(67,[0,7,8]),(73,[0,1,2]),(129,[0,1,2,3]),(138,[0,12,13,14,15]),(150,[0,1]),(161,[0,1]),(185,[0,1]),(187,[0,1,2,3,4]),(189,[0,1,2,3,4,5]),(196,[0,2,7,9,10,11,16,22,23,24,25,26,27,28,33,38,39,40,41,42,43,44]),(200,[0,1,2,3,4,5]),(225,[0,1]),(235,[0,1]),(238,[0,1,2,3,4,5,7,8,9,10]),(270,[0,1,2]),(300,[0,1]),(314,[0,1]),(324,[0,1,2]),(326,[0,1,3]),(329,[0,1,6,12,18,19,20]),(364,[0,1,2]),(394,[0,1])]
theorem AlX:AllOk prog tbP:=
 ⟨⟨⟨_,_,_,underlying24,rfl,sizeOf3,rfl⟩,⟨_,_,_,underlying24,rfl,sizeOf22,rfl⟩,trivial⟩,⟨⟨_,_,_,underlying26,rfl,sizeOf24,rfl⟩,⟨_,_,_,underlying26,rfl,sizeOf3,rfl⟩,⟨_,_,_,underlying26,rfl,sizeOf5,rfl⟩,⟨_,_,_,underlying26,rfl,sizeOf5,rfl⟩,trivial⟩,⟨⟨_,_,_,underlying56,rfl,sizeOf54,rfl⟩,⟨_,_,_,underlying56,rfl,sizeOf3,rfl⟩,⟨_,_,_,underlying56,rfl,sizeOf3,rfl⟩,⟨_,_,_,underlying56,rfl,sizeOf3,rfl⟩,⟨_,_,_,underlying56,rfl,sizeOf27,rfl⟩,trivial⟩,⟨⟨_,_,_,underlying59,rfl,sizeOf56,rfl⟩,⟨_,_,_,underlying59,rfl,sizeOf24,rfl⟩,⟨_,_,_,underlying59,rfl,sizeOf3,rfl⟩,⟨_,_,_,underlying59,rfl,sizeOf3,rfl⟩,⟨_,_,_,underlying59,rfl,sizeOf3,rfl⟩,⟨_,_,_,underlying59,rfl,sizeOf3,rfl⟩,⟨_,_,_,underlying59,rfl,sizeOf57,rfl⟩,trivial⟩,⟨⟨_,_,_,underlying63,rfl,sizeOf3,rfl⟩,⟨_,_,_,underlying63,rfl,sizeOf3,rfl⟩,⟨_,_,_,underlying63,rfl,sizeOf27,rfl⟩,⟨_,_,_,underlying63,rfl,sizeOf27,rfl⟩,⟨_,_,_,underlying63,rfl,sizeOf40,rfl⟩,trivial⟩,⟨⟨_,_,_,underlying65,rfl,sizeOf61,rfl⟩,⟨_,_,_,underlying65,rfl,sizeOf3,rfl⟩,⟨_,_,_,underlying65,rfl,sizeOf63,rfl⟩,trivial⟩,⟨⟨_,_,_,underlying67,rfl,sizeOf65,rfl⟩,⟨_,_,_,underlying67,rfl,sizeOf3,rfl⟩,⟨_,_,_,underlying67,rfl,sizeOf3,rfl⟩,trivial⟩,⟨⟨_,_,_,underlying73,rfl,sizeOf3,rfl⟩,⟨_,_,_,underlying73,rfl,sizeOf3,rfl⟩,⟨_,_,_,underlying73,rfl,sizeOf2,rfl⟩,trivial⟩,⟨⟨_,_,_,underlying129,rfl,sizeOf127,rfl⟩,⟨_,_,_,underlying129,rfl,sizeOf3,rfl⟩,⟨_,_,_,underlying129,rfl,sizeOf3,rfl⟩,⟨_,_,_,underlying129,rfl,sizeOf3,rfl⟩,trivial⟩,⟨⟨_,_,_,underlying138,rfl,sizeOf59,rfl⟩,⟨_,_,_,underlying138,rfl,sizeOf134,rfl⟩,⟨_,_,_,underlying138,rfl,sizeOf135,rfl⟩,⟨_,_,_,underlying138,rfl,sizeOf134,rfl⟩,⟨_,_,_,underlying138,rfl,sizeOf136,rfl⟩,trivial⟩,⟨⟨_,_,_,underlying150,rfl,sizeOf2,rfl⟩,⟨_,_,_,underlying150,rfl,sizeOf85,rfl⟩,trivial⟩,⟨⟨_,_,_,underlying161,rfl,sizeOf3,rfl⟩,⟨_,_,_,underlying161,rfl,sizeOf2,rfl⟩,trivial⟩,⟨⟨_,_,_,underlying185,rfl,sizeOf3,rfl⟩,⟨_,_,_,underlying185,rfl,sizeOf3,rfl⟩,trivial⟩,⟨⟨_,_,_,underlying187,rfl,sizeOf3,rfl⟩,⟨_,_,_,underlying187,rfl,sizeOf3,rfl⟩,⟨_,_,_,underlying187,rfl,sizeOf30,rfl⟩,⟨_,_,_,underlying187,rfl,sizeOf30,rfl⟩,⟨_,_,_,underlying187,rfl,sizeOf27,rfl⟩,trivial⟩,⟨⟨_,_,_,underlying189,rfl,sizeOf3,rfl⟩,⟨_,_,_,underlying189,rfl,sizeOf3,rfl⟩,⟨_,_,_,underlying189,rfl,sizeOf30,rfl⟩,⟨_,_,_,underlying189,rfl,sizeOf30,rfl⟩,⟨_,_,_,underlying189,rfl,sizeOf30,rfl⟩,⟨_,_,_,underlying189,rfl,sizeOf27,rfl⟩,trivial⟩,⟨⟨_,_,_,underlying196,rfl,sizeOf185,rfl⟩,⟨_,_,_,underlying196,rfl,sizeOf56,rfl⟩,⟨_,_,_,underlying196,rfl,sizeOf185,rfl⟩,⟨_,_,_,underlying196,rfl,sizeOf3,rfl⟩,⟨_,_,_,underlying196,rfl,sizeOf57,rfl⟩,⟨_,_,_,underlying196,rfl,sizeOf187,rfl⟩,⟨_,_,_,underlying196,rfl,sizeOf189,rfl⟩,⟨_,_,_,underlying196,rfl,sizeOf190,rfl⟩,⟨_,_,_,underlying196,rfl,sizeOf3,rfl⟩,⟨_,_,_,underlying196,rfl,sizeOf191,rfl⟩,⟨_,_,_,underlying196,rfl,sizeOf3,rfl⟩,⟨_,_,_,underlying196,rfl,sizeOf3,rfl⟩,⟨_,_,_,underlying196,rfl,sizeOf61,rfl⟩,⟨_,_,_,underlying196,rfl,sizeOf63,rfl⟩,⟨_,_,_,underlying196,rfl,sizeOf63,rfl⟩,⟨_,_,_,underlying196,rfl,sizeOf4,rfl⟩,⟨_,_,_,underlying196,rfl,sizeOf4,rfl⟩,⟨_,_,_,underlying196,rfl,sizeOf192,rfl⟩,⟨_,_,_,underlying196,rfl,sizeOf193,rfl⟩,⟨_,_,_,underlying196,rfl,sizeOf3,rfl⟩,⟨_,_,_,underlying196,rfl,sizeOf194,rfl⟩,⟨_,_,_,underlying196,rfl,sizeOf4,rfl⟩,trivial⟩,⟨⟨_,_,_,underlying200,rfl,sizeOf3,rfl⟩,⟨_,_,_,underlying200,rfl,sizeOf30,rfl⟩,⟨_,_,_,underlying200,rfl,sizeOf194,rfl⟩,⟨_,_,_,underlying200,rfl,sizeOf198,rfl⟩,⟨_,_,_,underlying200,rfl,sizeOf3,rfl⟩,⟨_,_,_,underlying200,rfl,sizeOf3,rfl⟩,trivial⟩,⟨⟨_,_,_,underlying225,rfl,sizeOf222,rfl⟩,⟨_,_,_,underlying225,rfl,sizeOf223,rfl⟩,trivial⟩,⟨⟨_,_,_,underlying235,rfl,sizeOf3,rfl⟩,⟨_,_,_,underlying235,rfl,sizeOf233,rfl⟩,trivial⟩,⟨⟨_,_,_,underlying238,rfl,sizeOf232,rfl⟩,⟨_,_,_,underlying238,rfl,sizeOf3,rfl⟩,⟨_,_,_,underlying238,rfl,sizeOf3,rfl⟩,⟨_,_,_,underlying238,rfl,sizeOf3,rfl⟩,⟨_,_,_,underlying238,rfl,sizeOf3,rfl⟩,⟨_,_,_,underlying238,rfl,sizeOf235,rfl⟩,⟨_,_,_,underlying238,rfl,sizeOf192,rfl⟩,⟨_,_,_,underlying238,rfl,sizeOf236,rfl⟩,⟨_,_,_,underlying238,rfl,sizeOf2,rfl⟩,⟨_,_,_,underlying238,rfl,sizeOf4,rfl⟩,trivial⟩,⟨⟨_,_,_,underlying270,rfl,sizeOf3,rfl⟩,⟨_,_,_,underlying270,rfl,sizeOf3,rfl⟩,⟨_,_,_,underlying270,rfl,sizeOf2,rfl⟩,trivial⟩,⟨⟨_,_,_,underlying300,rfl,sizeOf3,rfl⟩,⟨_,_,_,underlying300,rfl,sizeOf2,rfl⟩,trivial⟩,⟨⟨_,_,_,underlying314,rfl,sizeOf3,rfl⟩,⟨_,_,_,underlying314,rfl,sizeOf150,rfl⟩,trivial⟩,⟨⟨_,_,_,underlying324,rfl,sizeOf3,rfl⟩,⟨_,_,_,underlying324,rfl,sizeOf40,rfl⟩,⟨_,_,_,underlying324,rfl,sizeOf27,rfl⟩,trivial⟩,⟨⟨_,_,_,underlying326,rfl,sizeOf223,rfl⟩,⟨_,_,_,underlying326,rfl,sizeOf235,rfl⟩,⟨_,_,_,underlying326,rfl,sizeOf324,rfl⟩,trivial⟩,⟨⟨_,_,_,underlying329,rfl,sizeOf109,rfl⟩,⟨_,_,_,underlying329,rfl,sizeOf187,rfl⟩,⟨_,_,_,underlying329,rfl,sizeOf189,rfl⟩,⟨_,_,_,underlying329,rfl,sizeOf326,rfl⟩,⟨_,_,_,underlying329,rfl,sizeOf40,rfl⟩,⟨_,_,_,underlying329,rfl,sizeOf4,rfl⟩,⟨_,_,_,underlying329,rfl,sizeOf222,rfl⟩,trivial⟩,⟨⟨_,_,_,underlying364,rfl,sizeOf362,rfl⟩,⟨_,_,_,underlying364,rfl,sizeOf109,rfl⟩,⟨_,_,_,underlying364,rfl,sizeOf192,rfl⟩,trivial⟩,⟨⟨_,_,_,underlying394,rfl,sizeOf192,rfl⟩,⟨_,_,_,underlying394,rfl,sizeOf3,rfl⟩,trivial⟩,trivial⟩
section
variable {n:FrK} {E E1 E' E2:DF} {S:World→Prop} {Q Q':Exit→Act→World→Prop} {ops:Array Oper} {l l' l2:List Oper} {z:Code} {id:Nat}
theorem _root_.Go.Fw.Ops.ks (j:Nat) (h:tF tbP ops n j l E=some (l',E')) (g:Ops prog ops l' n E' S Q):Ops prog ops l n E S Q:=.ksT AlX j h g
theorem _root_.Go.Fw.Ops.nk (ks:Nat) (j:Nat) (h:(selN ks E [],(λa w=>Q .normal a w),tF tbP l2.toArray n j l2 E')=(some E',(λa w=>(Code.seq (.region id l2.toArray false) z).wpIn (WM n) 0 prog Q' a w),some (l',E2))) (g:Ops prog l2.toArray l' n E2 S (Exit.then (z.wpIn (WM n) 0 prog Q') Q')):Ops prog ops [] n E S Q:=.nkT AlX ks j h g
theorem _root_.Go.Fw.Cod.sk (j:Nat) (h:tF tbP l.toArray n j l E=some (l',E')) (g:Ops prog l.toArray l' n E' S (Exit.then (z.wpIn (WM n) 0 prog Q) Q)):Cod prog (.seq (.region id l.toArray false) z) n E S Q:=.skT AlX j h g
theorem _root_.Go.Fw.Ops.kn (j:Nat) (ks:Nat) (h:(tF tbP ops n j l E,selN ks E1 [],λa w=>Q .normal a w)=(some ([],E1),some E',λa w=>z.wpIn (WM n) 0 prog Q' a w)) (g:Cod prog z n E' S Q'):Ops prog ops l n E S Q:=.knT AlX j ks h g
variable {w0:World} {M:Nat→Prop} {I0 I:IH} {cs cs':List (Option Nat)} {dn dn':HX} {X X' pend pd':List Nat} {asn:List AS} {L:Sh} {Sd:List HA→World→Prop} {g fs:List Nat} {A B:List (Option (Nat×Value))}
theorem _root_.Go.Fw.DrawD.fk (k:Nat) (h:AoM tbP ops n E k cs dn X pend=some (cs',dn',X',pd')) (kk:DrawD prog ops n Q w0 M I0 E cs' dn' X' pd' asn I L):DrawD prog ops n Q w0 M I0 E cs dn X pend asn I L:=.fkT AlX k h kk
theorem _root_.Go.Fw.PendL.ck (k:Nat) (h:AoO tbP ops n E dn k fs=some (g,A,B)) (hAB:A=B) (kk:PendL prog ops n E dn Sd g):PendL prog ops n E dn Sd fs:=.ckT AlX k h hAB kk
end
theorem IN2:prog.info? 2=some t2:=by kernel_rfl
theorem IN3:prog.info? 3=some t3:=by kernel_rfl
theorem AyD:prog.info? 22=some t22:=by kernel_rfl
noncomputable abbrev fB (n:Nat):Bool:=(prog.fieldsOf n).toList.all (λf=>(prog.info? f.type).isSome)
theorem AeE:fB 24=true:=by kernel_rfl
theorem AyE:fB 56=true:=by kernel_rfl
theorem AyF:fB 59=true:=by kernel_rfl
theorem AyG:prog.info? 63=some t63:=by kernel_rfl
theorem lV:fB 63=true:=by kernel_rfl
theorem AyH:fB 65=true:=by kernel_rfl
theorem AxC:fB 67=true:=by kernel_rfl
theorem AbQ:prog.info? 73=some t73:=by kernel_rfl
theorem AvP:fB 73=true:=by kernel_rfl
theorem AxD:prog.info? 85=some t85:=by kernel_rfl
theorem Ak1:prog.info? 133=some t133:=by kernel_rfl
theorem AxE:fB 138=true:=by kernel_rfl
theorem AxF:prog.info? 141=some t141:=by kernel_rfl
theorem lW:fB 150=true:=by kernel_rfl
theorem gD:prog.info? 159=some t159:=by kernel_rfl
theorem AxG:prog.info? 161=some t161:=by kernel_rfl
theorem AuT:fB 161=true:=by kernel_rfl
theorem uO:fB 185=true:=by kernel_rfl
theorem uP:fB 187=true:=by kernel_rfl
theorem AuU:fB 189=true:=by kernel_rfl
theorem AxH:prog.info? 192=some t192:=by kernel_rfl
theorem AxI:fB 196=true:=by kernel_rfl
theorem AxJ:fB 200=true:=by kernel_rfl
theorem AxK:prog.info? 225=some t225:=by kernel_rfl
theorem AxL:fB 225=true:=by kernel_rfl
theorem AxM:prog.info? 235=some t235:=by kernel_rfl
theorem GY:fB 235=true:=by kernel_rfl
theorem AxN:prog.info? 238=some t238:=by kernel_rfl
theorem lX:fB 238=true:=by kernel_rfl
theorem Ak2:prog.info? 270=some t270:=by kernel_rfl
theorem Ak3:fB 270=true:=by kernel_rfl
theorem uQ:prog.info? 300=some t300:=by kernel_rfl
theorem uR:fB 300=true:=by kernel_rfl
theorem AeF:prog.info? 314=some t314:=by kernel_rfl
theorem AuV:fB 314=true:=by kernel_rfl
theorem ApS:fB 324=true:=by kernel_rfl
theorem AuW:fB 326=true:=by kernel_rfl
theorem AxO:fB 329=true:=by kernel_rfl
theorem AxP:fB 364=true:=by kernel_rfl
theorem gE:prog.info? 392=some t392:=by kernel_rfl
theorem AxQ:prog.info? 394=some t394:=by kernel_rfl
theorem AxR:fB 394=true:=by kernel_rfl
theorem ApT (x y:AZ) (w:World):(Op.equal 150 (.agg (GO x).toArray) (.agg (GO y).toArray)).run prog w=.ok (x==y) w:=by refine Eq.trans ((eqS (k:=9999) underlying150 (by kernel_rfl) (eqC (by decide) isAgg2 rfl rfl (eqI (k:=9998) underlying2) (eqC (by decide) isAgg85 rfl rfl (eqI (k:=9998) underlying85) eqN))) w) (congrArg (λb=>Result.ok b w) (Bool.eq_iff_iff.2 ?_));have⟨x_0,x_1⟩:=x; have⟨y_0,y_1⟩:=y;simp[and_assoc]
theorem ApU (o:BinOp) (x y:Operand) (u v:Array Value) (w:World):(eqGuard o 150 x y (.agg u) (.agg v)).run prog w=.ok () w:=run_eqGuard_agg w o 150 x y u v (by kernel_rfl)
theorem AuX (x y:BA) (w:World):(Op.equal 185 (.agg (GD x).toArray) (.agg (GD y).toArray)).run prog w=.ok (x==y) w:=by refine Eq.trans ((eqS (k:=9999) underlying185 (by kernel_rfl) (eqC (by decide) isAgg3 rfl rfl (eqI (k:=9998) underlying3) (eqC (by decide) isAgg3 rfl rfl (eqI (k:=9998) underlying3) eqN))) w) (congrArg (λb=>Result.ok b w) (Bool.eq_iff_iff.2 ?_));have⟨x_0,x_1⟩:=x; have⟨y_0,y_1⟩:=y;simp[and_assoc]
theorem AuY (o:BinOp) (x y:Operand) (u v:Array Value) (w:World):(eqGuard o 185 x y (.agg u) (.agg v)).run prog w=.ok () w:=run_eqGuard_agg w o 185 x y u v (by kernel_rfl)
theorem IX3:prog.info? 3=some t3:=by kernel_rfl
theorem ApV:fV prog 97 K2:=AiX underlying97 IX3 underlying3 (by kernel_rfl) isAgg3 sizeOf3
theorem AeG:fV prog 141 K2:=AiX underlying141 IX3 underlying3 (by kernel_rfl) isAgg3 sizeOf3
instance {I J:IH} {x:aTa} {o:JB}:Up (lTa I x o) I J (lTa J x o):=⟨mTa⟩
instance {I J:IH} {x:aTb} {o:Rows}:Up (nQ I x o) I J (nQ J x o):=⟨mTb⟩
instance {I J:IH} {x:aTc} {o:Rows}:Up (lTc I x o) I J (lTc J x o):=⟨mTc⟩
instance {I J:IH} {x:aTd} {o:BB}:Up (wQ I x o) I J (wQ J x o):=⟨mTd⟩
instance {I J:IH} {x:aTe} {o:BB}:Up (lTe I x o) I J (lTe J x o):=⟨mTe⟩
instance {I J:IH} {x:aTf} {o:BB}:Up (lTf I x o) I J (lTf J x o):=⟨mTf⟩
instance {I J:IH} {x:aTg} {o:State}:Up (iE I x o) I J (iE J x o):=⟨mTg⟩
instance {I J:IH} {x:aTh} {o:AK}:Up (rT I x o) I J (rT J x o):=⟨mTh⟩
instance {I J:IH} {x:aTi} {o:Dense}:Up (lTi I x o) I J (lTi J x o):=⟨mTi⟩
instance {I J:IH} {x:aTj} {o:iF}:Up (lTj I x o) I J (lTj J x o):=⟨mTj⟩
instance {I J:IH} {x:aTk} {o:GX}:Up (lTk I x o) I J (lTk J x o):=⟨mTk⟩
instance {I J:IH} {x:aTl} {o:AF}:Up (lTl I x o) I J (lTl J x o):=⟨mTl⟩
instance {I J:IH} {x:aTm} {o:AH}:Up (lTm I x o) I J (lTm J x o):=⟨mTm⟩
instance {I J:IH} {x:aTn} {o:A1}:Up (WP I x o) I J (WP J x o):=⟨mTn⟩
instance {I J:IH} {x:aTo} {o:A1}:Up (lTo I x o) I J (lTo J x o):=⟨mTo⟩
instance {I J:IH} {x:aTp} {o:AH}:Up (lTp I x o) I J (lTp J x o):=⟨mTp⟩
instance {I J:IH} {x:aTq} {o:AH}:Up (nR I x o) I J (nR J x o):=⟨mTq⟩
instance {I J:IH} {q0:Option Addr} {q1:Nat} {q2:Nat} {q3:Nat} {x:BR}:Up (BZ.fact I (q0,q1,q2,q3) x) I J (BZ.fact J (q0,q1,q2,q3) x):=⟨λh k=>BZ.mono h k⟩
instance {I J:IH} {q0:aTn} {q1:Option Addr} {q2:Nat} {q3:Nat} {q4:Option Addr} {q5:Nat} {q6:Nat} {q7:Nat} {x:A1}:Up (A7.fact I (q0,q1,q2,q3,q4,q5,q6,q7) x) I J (A7.fact J (q0,q1,q2,q3,q4,q5,q6,q7) x):=⟨λh k=>A7.mono h k⟩
abbrev Z6 (Q:Int->Prop):Value->Prop:=λv=>∃ r,v=.int .i64 r∧Q r
abbrev o1_ (Q:Graph->Prop):IH->Value->Prop:=λI_ v=>∃ r p4 c5,v=.agg #[.int .i64 r.N,.slice p4 r.Edges.length c5]∧RepSl CC I_ p4 c5 r.Edges∧Q r
abbrev o2_ (Q:JB->Prop):IH->Value->Prop:=λI_ v=>∃ r ga4,v=.agg (bI r ga4)∧lTa I_ ga4 r∧Q r
abbrev o3_ (Q:(List Int)->Prop):IH->Value->Prop:=λI_ v=>∃ r p4 c5,v=.slice p4 r.length c5∧RepSl AV I_ p4 c5 r∧Q r
abbrev eO (Q:Bool->Prop):Value->Prop:=λv=>∃ r,v=.bool r∧Q r
abbrev o5_ (Q:AZ->Prop):Value->Prop:=λv=>∃ r,v=.agg (GO r).toArray∧Q r
abbrev o6_ (Q:Int->Prop):Value->Prop:=λv=>∃ r,v=.int .u64 r∧Q r
abbrev o7_ (Q:(Int×Bool)->Prop):Value->Prop:=λv=>∃ r,v=.tuple #[.int .i64 r.1,.bool r.2]∧Q r
abbrev o8_ (Q:((List B0)×Int)->Prop):IH->Value->Prop:=λI_ v=>∃ r p4 c5,v=.tuple #[.slice p4 r.1.length c5,.int .i64 r.2]∧RepSl CC I_ p4 c5 r.1∧Q r
abbrev At3 (Q:Rows->Prop):IH->Value->Prop:=λI_ v=>∃ r gb3,v=.agg (LF r gb3)∧nQ I_ gb3 r∧Q r
abbrev AxS (Q:((List Int)×(List Int))->Prop):IH->Value->Prop:=λI_ v=>∃ r p3 c4 p6 c7,v=.tuple #[.slice p3 r.1.length c4,.slice p6 r.2.length c7]∧RepSl AV I_ p3 c4 r.1∧RepSl AV I_ p6 c7 r.2∧Q r
abbrev AxT (Q:(List B9)->Prop):IH->Value->Prop:=λI_ v=>∃ r p3 c4,v=.slice p3 r.length c4∧RepSl CF I_ p3 c4 r∧Q r
abbrev AxU (Q:(Int×Int)->Prop):Value->Prop:=λv=>∃ r,v=.agg #[.int .i64 r.1,.int .i64 r.2]∧Q r
abbrev AxV (Q:BB->Prop):IH->Value->Prop:=λI_ v=>∃ r gd3,v=.agg (FG r gd3)∧wQ I_ gd3 r∧Q r
abbrev AxW (Q:(List Int)->Prop):IH->Value->Prop:=λI_ v=>∃ r p4 c5,v=.slice p4 r.length c5∧RepSl KF I_ p4 c5 r∧Q r
abbrev AxX (Q:AK->Prop):IH->Value->Prop:=λI_ v=>∃ r gh3,v=.agg (JW r gh3)∧rT I_ gh3 r∧Q r
abbrev AvQ (Q:Vec->Prop):IH->Value->Prop:=λI_ v=>∃ r p4 c5,v=.agg #[.int .i64 r.N,.slice p4 r.Items.length c5]∧RepSl CF I_ p4 c5 r.Items∧Q r
abbrev AvR (Q:(Vec×Int)->Prop):IH->Value->Prop:=λI_ v=>∃ r p4 c5,v=.tuple #[.agg #[.int .i64 r.1.N,.slice p4 r.1.Items.length c5],.int .i64 r.2]∧RepSl CF I_ p4 c5 r.1.Items∧Q r
abbrev AxY (Q:Dense->Prop):IH->Value->Prop:=λI_ v=>∃ r gi3,v=.agg (LG r gi3)∧lTi I_ gi3 r∧Q r
abbrev AxZ (Q:Vec->Prop):IH->Value->Prop:=λI_ v=>∃ r p3 c4,v=.agg #[.int .i64 r.N,.slice p3 r.Items.length c4]∧RepSl CF I_ p3 c4 r.Items∧Q r
abbrev Ay0 (Q:(List Int)->Prop):IH->Value->Prop:=λI_ v=>∃ r p7 c8,v=.slice p7 r.length c8∧RepSl AV I_ p7 c8 r∧Q r
abbrev Ay1 (Q:(Int×Int)->Prop):Value->Prop:=λv=>∃ r,v=.tuple #[.int .u64 r.1,.int .u64 r.2]∧Q r
abbrev un2:=@underlying2
abbrev lY:=@underlying3
abbrev un5:=@underlying5
abbrev F8:=@underlying22
abbrev oU:=@underlying24
abbrev CA:=@underlying27
abbrev BD:=@underlying30
abbrev aH:=@underlying40
abbrev AeH:=@underlying57
abbrev fF:=@underlying63
abbrev AvS:=@underlying73
abbrev fG:=@underlying85
abbrev AlY:=@underlying86
abbrev S7:=@underlying97
abbrev AhC:=@underlying99
abbrev zP:=@underlying133
abbrev LL:=@underlying134
abbrev uS:=@underlying135
abbrev qM:=@underlying136
abbrev bZ:=@underlying141
abbrev AeI:=@underlying142
abbrev lZ:=@underlying150
abbrev gF:=@underlying158
abbrev ZV:=@underlying159
abbrev SF:=@underlying163
abbrev gG:=@underlying185
abbrev qN:=@underlying187
abbrev zQ:=@underlying190
abbrev EK:=@underlying192
abbrev qO:=@underlying194
abbrev zT:=@underlying196
abbrev zU:=@underlying198
abbrev DU:=@underlying233
abbrev F5:=@underlying235
abbrev NX:=@underlying236
abbrev ZW:=@underlying238
abbrev uT:=@underlying300
abbrev qP:=@underlying318
abbrev qQ:=@underlying358
abbrev OX:=@underlying362
abbrev ZX:=@underlying392
abbrev MC:=@underlying445
abbrev MO:=@sizeOf2
abbrev DD:=@sizeOf3
abbrev D4:=@sizeOf24
abbrev AhD:=@sizeOf30
abbrev QD:=@sizeOf56
abbrev S8:=@sizeOf59
abbrev DH:=@sizeOf63
abbrev uU:=@sizeOf67
abbrev E5:=@sizeOf73
abbrev MV:=@sizeOf85
abbrev fH:=@sizeOf97
abbrev W9:=@sizeOf141
abbrev BE:=@sizeOf150
abbrev ME:=@sizeOf161
abbrev BL:=@sizeOf187
abbrev EG:=@sizeOf189
abbrev ZY:=@sizeOf192
abbrev AM:=@sizeOf235
abbrev CZ:=@sizeOf238
abbrev SG:=@sizeOf270
abbrev DL:=@sizeOf300
abbrev FH:=@sizeOf314
abbrev FJ:=@sizeOf324
abbrev K6:=@sizeOf394
abbrev J6:=@isAgg2
abbrev AJ:=@isAgg3
abbrev ia4:=@isAgg4
abbrev RS:=@isAgg22
abbrev FC:=@isAgg24
abbrev FK:=@isAgg27
abbrev F9:=@isAgg30
abbrev QE:=@isAgg40
abbrev fI:=@isAgg54
abbrev QF:=@isAgg56
abbrev Y0:=@isAgg59
abbrev JY:=@isAgg63
abbrev OY:=@isAgg73
abbrev IA:=@isAgg85
abbrev CP:=@isAgg150
abbrev UJ:=@isAgg163
abbrev D0:=@isAgg187
abbrev HI:=@isAgg189
abbrev K7:=@isAgg192
abbrev HU:=@isAgg233
abbrev BK:=@isAgg235
abbrev GL:=@isAgg238
abbrev UK:=@isAgg300
abbrev LM:=@isAgg324
abbrev UL:=@isAgg362
abbrev zv2:=@zeroValue2
abbrev nT:=@zeroValue3
abbrev V7:=@zeroValue24
abbrev AlZ:=@zeroValue59
abbrev O4:=@zeroValue63
abbrev Am0:=@zeroValue67
abbrev QG:=@zeroValue73
abbrev aI:=@zeroValue97
abbrev I9:=@zeroValue150
abbrev uV:=@zeroValue161
abbrev qR:=@zeroValue185
abbrev OZ:=@zeroValue187
abbrev uW:=@zeroValue189
abbrev CG:=@zeroValue235
abbrev KY:=@zeroValue238
abbrev cA:=@zeroValue270
abbrev LN:=@zeroValue300
abbrev gI:=@zeroValue314
abbrev mA:=@zeroValue324
abbrev zW:=@zeroValue445
end
section
open Go Go.Fw Go.Shelf
theorem sT {α:Type} {a:Option α} {x y:α} (h:a=some x) (k:x=y:=by kernel_rfl):a=some y:=h.trans (congrArg some k)
def AwR:Go.Shelf.Ren:=⟨fun | 6=>104 | 15=>135 | 14=>134 | 28=>177 | 29=>178 | 20=>169 | 21=>170 | 22=>171 | 23=>172 | 24=>173 | 25=>174 | 26=>175 | 27=>176 | 46=>218 | 47=>219 | 48=>220 | 49=>221 | 50=>222 | 57=>263 | n=>n,fun | 22=>22 | 24=>73 | 25=>175 | 3=>3 | 39=>86 | 0=>0 | 53=>166 | 55=>85 | 4=>4 | 46=>256 | 45=>255 | 50=>75 | 5=>5 | 9=>9 | 66=>288 | 70=>292 | 76=>343 | 77=>296 | n=>n,λn=>n⟩
theorem Ay7:SlLaysF0.n6 prog AwR where
  mixed:=MX
  f6:=⟨ "slices.SortFunc[[]fretwork/api.Edge,fretwork/api.Edge]",by decide,sT func104⟩
  f14:=⟨ "slices.pdqsortCmpFunc[fretwork/api.Edge]",by decide,sT func134⟩
  f15:=sT func135
  f20:=⟨ "slices.insertionSortCmpFunc[fretwork/api.Edge]",by decide,sT func169⟩
  f21:=⟨ "slices.heapSortCmpFunc[fretwork/api.Edge]",by decide,sT func170⟩
  f22:=⟨ "slices.breakPatternsCmpFunc[fretwork/api.Edge]",by decide,sT func171⟩
  f23:=⟨ "slices.choosePivotCmpFunc[fretwork/api.Edge]",by decide,sT func172⟩
  f24:=⟨ "slices.reverseRangeCmpFunc[fretwork/api.Edge]",by decide,sT func173⟩
  f25:=⟨ "slices.partialInsertionSortCmpFunc[fretwork/api.Edge]",by decide,sT func174⟩
  f26:=⟨ "slices.partitionEqualCmpFunc[fretwork/api.Edge]",by decide,sT func175⟩
  f27:=⟨ "slices.partitionCmpFunc[fretwork/api.Edge]",by decide,sT func176⟩
  f28:=sT func177
  f29:=sT func178
  f46:=⟨ "slices.siftDownCmpFunc[fretwork/api.Edge]",by decide,sT func218⟩
  f47:=sT func219
  f48:=sT func220
  f49:=⟨ "slices.medianAdjacentCmpFunc[fretwork/api.Edge]",by decide,sT func221⟩
  f50:=⟨ "slices.medianCmpFunc[fretwork/api.Edge]",by decide,sT func222⟩
  f57:=⟨ "slices.order2CmpFunc[fretwork/api.Edge]",by decide,sT func263⟩
  t0:=underlying0
  a0:=isAgg0
  z0:=sizeOf0
  v0:=zeroValue0
  t3:=underlying3
  a3:=isAgg3
  z3:=sizeOf3
  v3:=zeroValue3
  t4:=underlying4
  a4:=isAgg4
  z4:=sizeOf4
  v4:=zeroValue4
  t5:=underlying5
  a5:=isAgg5
  z5:=sizeOf5
  v5:=zeroValue5
  t9:=underlying9
  a9:=isAgg9
  z9:=sizeOf9
  v9:=zeroValue9
  t22:=underlying22
  a22:=isAgg22
  z22:=sizeOf22
  v22:=zeroValue22
  t25:=underlying175
  a25:=isAgg175
  z25:=sizeOf175
  v25:=zeroValue175
  t39:=underlying86
  a39:=isAgg86
  z39:=sizeOf86
  v39:=zeroValue86
  t45:=underlying255
  a45:=isAgg255
  z45:=sizeOf255
  v45:=zeroValue255
  t46:=underlying256
  a46:=isAgg256
  z46:=sizeOf256
  v46:=zeroValue256
  t50:=underlying75
  a50:=isAgg75
  z50:=sizeOf75
  v50:=zeroValue75
  t53:=underlying166
  a53:=isAgg166
  z53:=sizeOf166
  v53:=zeroValue166
  t55:=underlying85
  a55:=isAgg85
  z55:=sizeOf85
  v55:=zeroValue85
  t66:=underlying288
  a66:=isAgg288
  z66:=sizeOf288
  v66:=zeroValue288
  t70:=underlying292
  a70:=isAgg292
  z70:=sizeOf292
  v70:=zeroValue292
  t76:=underlying343
  a76:=isAgg343
  z76:=sizeOf343
  v76:=zeroValue343
  t77:=underlying296
  a77:=isAgg296
  z77:=sizeOf296
  v77:=zeroValue296
def AwS:Go.Shelf.Ren:=⟨fun | 6=>158 | 15=>135 | 14=>210 | 28=>177 | 29=>178 | 20=>252 | 21=>253 | 22=>254 | 23=>255 | 24=>256 | 25=>257 | 26=>258 | 27=>259 | 46=>297 | 47=>219 | 48=>220 | 49=>298 | 50=>299 | 57=>331 | n=>n,fun | 22=>182 | 24=>141 | 25=>248 | 3=>3 | 39=>86 | 0=>0 | 53=>166 | 55=>85 | 4=>4 | 46=>256 | 45=>255 | 50=>75 | 5=>5 | 9=>9 | 66=>288 | 70=>292 | 76=>343 | 77=>296 | n=>n,λn=>n⟩
theorem Ay8:SlLaysF0.n6 prog AwS where
  mixed:=MX
  f6:=⟨ "slices.SortFunc[[]fretwork/grid.link,fretwork/grid.link]",by decide,sT func158⟩
  f14:=⟨ "slices.pdqsortCmpFunc[fretwork/grid.link]",by decide,sT func210⟩
  f15:=sT func135
  f20:=⟨ "slices.insertionSortCmpFunc[fretwork/grid.link]",by decide,sT func252⟩
  f21:=⟨ "slices.heapSortCmpFunc[fretwork/grid.link]",by decide,sT func253⟩
  f22:=⟨ "slices.breakPatternsCmpFunc[fretwork/grid.link]",by decide,sT func254⟩
  f23:=⟨ "slices.choosePivotCmpFunc[fretwork/grid.link]",by decide,sT func255⟩
  f24:=⟨ "slices.reverseRangeCmpFunc[fretwork/grid.link]",by decide,sT func256⟩
  f25:=⟨ "slices.partialInsertionSortCmpFunc[fretwork/grid.link]",by decide,sT func257⟩
  f26:=⟨ "slices.partitionEqualCmpFunc[fretwork/grid.link]",by decide,sT func258⟩
  f27:=⟨ "slices.partitionCmpFunc[fretwork/grid.link]",by decide,sT func259⟩
  f28:=sT func177
  f29:=sT func178
  f46:=⟨ "slices.siftDownCmpFunc[fretwork/grid.link]",by decide,sT func297⟩
  f47:=sT func219
  f48:=sT func220
  f49:=⟨ "slices.medianAdjacentCmpFunc[fretwork/grid.link]",by decide,sT func298⟩
  f50:=⟨ "slices.medianCmpFunc[fretwork/grid.link]",by decide,sT func299⟩
  f57:=⟨ "slices.order2CmpFunc[fretwork/grid.link]",by decide,sT func331⟩
  t0:=underlying0
  a0:=isAgg0
  z0:=sizeOf0
  v0:=zeroValue0
  t3:=underlying3
  a3:=isAgg3
  z3:=sizeOf3
  v3:=zeroValue3
  t4:=underlying4
  a4:=isAgg4
  z4:=sizeOf4
  v4:=zeroValue4
  t5:=underlying5
  a5:=isAgg5
  z5:=sizeOf5
  v5:=zeroValue5
  t9:=underlying9
  a9:=isAgg9
  z9:=sizeOf9
  v9:=zeroValue9
  t22:=underlying182
  a22:=isAgg182
  z22:=sizeOf182
  v22:=zeroValue182
  t25:=underlying248
  a25:=isAgg248
  z25:=sizeOf248
  v25:=zeroValue248
  t39:=underlying86
  a39:=isAgg86
  z39:=sizeOf86
  v39:=zeroValue86
  t45:=underlying255
  a45:=isAgg255
  z45:=sizeOf255
  v45:=zeroValue255
  t46:=underlying256
  a46:=isAgg256
  z46:=sizeOf256
  v46:=zeroValue256
  t50:=underlying75
  a50:=isAgg75
  z50:=sizeOf75
  v50:=zeroValue75
  t53:=underlying166
  a53:=isAgg166
  z53:=sizeOf166
  v53:=zeroValue166
  t55:=underlying85
  a55:=isAgg85
  z55:=sizeOf85
  v55:=zeroValue85
  t66:=underlying288
  a66:=isAgg288
  z66:=sizeOf288
  v66:=zeroValue288
  t70:=underlying292
  a70:=isAgg292
  z70:=sizeOf292
  v70:=zeroValue292
  t76:=underlying343
  a76:=isAgg343
  z76:=sizeOf343
  v76:=zeroValue343
  t77:=underlying296
  a77:=isAgg296
  z77:=sizeOf296
  v77:=zeroValue296
def AwT:Go.Shelf.Ren:=⟨fun | 6=>231 | 15=>135 | 14=>265 | 28=>177 | 29=>178 | 20=>300 | 21=>301 | 22=>302 | 23=>303 | 24=>304 | 25=>305 | 26=>306 | 27=>307 | 46=>332 | 47=>219 | 48=>220 | 49=>333 | 50=>334 | 57=>354 | n=>n,fun | 22=>236 | 24=>270 | 25=>304 | 3=>3 | 39=>86 | 0=>0 | 53=>166 | 55=>85 | 4=>4 | 46=>256 | 45=>255 | 50=>75 | 5=>5 | 9=>9 | 66=>288 | 70=>292 | 76=>343 | 77=>296 | n=>n,λn=>n⟩
theorem Ay9:SlLaysF0.n6 prog AwT where
  mixed:=MX
  f6:=⟨ "slices.SortFunc[[]fretwork/api.Triple,fretwork/api.Triple]",by decide,sT func231⟩
  f14:=⟨ "slices.pdqsortCmpFunc[fretwork/api.Triple]",by decide,sT func265⟩
  f15:=sT func135
  f20:=⟨ "slices.insertionSortCmpFunc[fretwork/api.Triple]",by decide,sT func300⟩
  f21:=⟨ "slices.heapSortCmpFunc[fretwork/api.Triple]",by decide,sT func301⟩
  f22:=⟨ "slices.breakPatternsCmpFunc[fretwork/api.Triple]",by decide,sT func302⟩
  f23:=⟨ "slices.choosePivotCmpFunc[fretwork/api.Triple]",by decide,sT func303⟩
  f24:=⟨ "slices.reverseRangeCmpFunc[fretwork/api.Triple]",by decide,sT func304⟩
  f25:=⟨ "slices.partialInsertionSortCmpFunc[fretwork/api.Triple]",by decide,sT func305⟩
  f26:=⟨ "slices.partitionEqualCmpFunc[fretwork/api.Triple]",by decide,sT func306⟩
  f27:=⟨ "slices.partitionCmpFunc[fretwork/api.Triple]",by decide,sT func307⟩
  f28:=sT func177
  f29:=sT func178
  f46:=⟨ "slices.siftDownCmpFunc[fretwork/api.Triple]",by decide,sT func332⟩
  f47:=sT func219
  f48:=sT func220
  f49:=⟨ "slices.medianAdjacentCmpFunc[fretwork/api.Triple]",by decide,sT func333⟩
  f50:=⟨ "slices.medianCmpFunc[fretwork/api.Triple]",by decide,sT func334⟩
  f57:=⟨ "slices.order2CmpFunc[fretwork/api.Triple]",by decide,sT func354⟩
  t0:=underlying0
  a0:=isAgg0
  z0:=sizeOf0
  v0:=zeroValue0
  t3:=underlying3
  a3:=isAgg3
  z3:=sizeOf3
  v3:=zeroValue3
  t4:=underlying4
  a4:=isAgg4
  z4:=sizeOf4
  v4:=zeroValue4
  t5:=underlying5
  a5:=isAgg5
  z5:=sizeOf5
  v5:=zeroValue5
  t9:=underlying9
  a9:=isAgg9
  z9:=sizeOf9
  v9:=zeroValue9
  t22:=underlying236
  a22:=isAgg236
  z22:=sizeOf236
  v22:=zeroValue236
  t25:=underlying304
  a25:=isAgg304
  z25:=sizeOf304
  v25:=zeroValue304
  t39:=underlying86
  a39:=isAgg86
  z39:=sizeOf86
  v39:=zeroValue86
  t45:=underlying255
  a45:=isAgg255
  z45:=sizeOf255
  v45:=zeroValue255
  t46:=underlying256
  a46:=isAgg256
  z46:=sizeOf256
  v46:=zeroValue256
  t50:=underlying75
  a50:=isAgg75
  z50:=sizeOf75
  v50:=zeroValue75
  t53:=underlying166
  a53:=isAgg166
  z53:=sizeOf166
  v53:=zeroValue166
  t55:=underlying85
  a55:=isAgg85
  z55:=sizeOf85
  v55:=zeroValue85
  t66:=underlying288
  a66:=isAgg288
  z66:=sizeOf288
  v66:=zeroValue288
  t70:=underlying292
  a70:=isAgg292
  z70:=sizeOf292
  v70:=zeroValue292
  t76:=underlying343
  a76:=isAgg343
  z76:=sizeOf343
  v76:=zeroValue343
  t77:=underlying296
  a77:=isAgg296
  z77:=sizeOf296
  v77:=zeroValue296
end
end Go.Proofs.YtieniichmjgmcaaGreat
namespace Go.Fw
open Go Go.RowKit
section
variable {α:Type} {ok:α→Prop}
def Rd (P:Program) (t:TypeId) (El:EB α) (ok:α->Prop):Prop:=
 P.cellsOf t=El.sz∧∀ {H:Type} (enc:TypeId×Value->H) (w:World) (sp:Nat->Bool) (held:Bool) (h:Nat) (cs:List Value) (d:DataW H×List MemPlace),DataW.trod enc P w 0 sp held h t cs=some d->∃ y,El.rep (hp w) cs y∧ok y
variable {P:Program} {t e:TypeId}
theorem Rd.int {k:IntKind} (O:P.cellsOf t=1) (J:P.underlying t=some (.int k)) (h:∀ x:Int,([Value.int k x]:List Value).length=1∧KE [Value.int k x]=true):Rd P t (EW 1 (λx=>[.int k x]) h) (inR k):=
 ⟨O,λ_ _ _ _ _ _ _ h=>by have⟨n,V,_,U⟩:=DataW.trod_int J h; exact⟨n,V,U⟩⟩
theorem qS {R:Nat->α->Prop}:∀ n,(∀ i,i<n->∃ y,R i y)->∃ ys:List α,ys.length=n∧∀ i y,ys[i]? = some y->R i y
 | 0,_=>⟨[],rfl,λi y h=>by simp at h⟩
 | n+1,h=>by have⟨ys,D,_⟩:=qS n λi _=>h i (by omega);have⟨y,_⟩:=h n (by omega);refine⟨ys++[y],by simp[D],λi _ _=>?_⟩;grind
theorem zX {w:World} {D n:Nat} {a:Addr} {cs:List Value} (h:w.cells? D a n=some cs):cs.length=n∧∀ j v,cs[j]? = some v->w.cell? (a.add j)=some v:=by
 unfold World.cells? at h;split at h
 . have O:=mapM_some_length h;refine⟨by simpa using O,λj v U=>?_⟩;have J:j<n:=by grind
   have:=mapM_some_get h j j (by simp[J]);rw[this,U]
 . cases h
theorem ApW {w:World} {b off:Nat} {cs:List Value} (h:∀ j v,cs[j]? = some v->w.cell? ⟨b,off+j,none⟩=some v) (D:cs≠[]):ImC (hp w) b off cs:=by
 cases cs with
 | nil=>exact absurd rfl D
 | cons u r=>
  have J:=h 0 u rfl;simp only[World.cell?] at J;split at J
  . rename_i c t U O;refine⟨c,t,U,O,λj v V=>?_⟩;have:=h j v V;simp only[World.cell?,O] at this;simpa using this
  . cases J
theorem Rd.slice {El:EB α} (hs:P.cellsOf t=1) (ht:P.underlying t=some (.slice e)) (h0:0<El.sz) (R:Rd P e El ok):Rd P t (nZ El) (λxs=>(∀ x∈xs,ok x)∧xs.length<=maxLen):=by
 refine⟨hs,λenc w sp held _ cs _ a5=>?_⟩;rcases DataW.trod_slice ht a5 with⟨rfl,_⟩ | ⟨a,V,cap,D,d0,n,_,rfl,_,hb,c1,b1,c0,a9,_⟩
 . exact⟨[],⟨none,0,rfl,.nil _ _ _⟩,by simp,by simp⟩
 . have O:∀ i,i<V->∃ y:α,(∃ cs,w.cells? 0 (a.add (i*El.sz)) El.sz=some cs∧El.rep (hp w) cs y)∧ok y:=by
     intro i hi;have Z:=a9 i hi;rw[R.1] at Z;have he:D[i]? = some D[i]:=zL8 (by omega);rw[he] at Z
     cases J:w.cells? 0 (a.add (i*El.sz)) El.sz with
     | none=>rw[J] at Z; cases Z
     | some cs=>
      rw[J] at Z;have⟨y,_,_⟩:=R.2 enc w sp held n cs _ Z;grind
   have⟨ys,a8,a2⟩:=qS V O;refine⟨ys,⟨some a,cap,by rw[a8],by omega,λi x h=>?_⟩,λx h=>?_,by omega⟩
   . have⟨⟨cs,hcs,hrep⟩,_⟩:=a2 i x h;have⟨b0,a4⟩:=zX hcs;have a7:cs≠[]:=λe=>by subst e; simp at b0; omega
     have c2:i<V:=by grind
     -- the head of the slice is a place of its own
     have U:a.spot=none:=by
      have⟨_,⟨cs0,hc0,_⟩,_⟩:=O 0 (by omega);have⟨a6,a3⟩:=zX hc0
      cases cs0 with
      | nil=>simp at a6; omega
      | cons u r=>
       have:=a3 0 u rfl;simp only[Ag7,Addr.add,if_true,World.cell?] at this;split at this
       all_goals simp_all
     refine⟨a.block,a.off,cs,by cases a; simp_all,ApW (λj v hj=>?_) a7,hrep⟩;have:=a4 j v hj
     have e1:(a.add (i*El.sz)).add j=⟨a.block,a.off+i*El.sz+j,none⟩:=by cases a;simp only at U;subst U;unfold Addr.add;grind
     rwa [e1] at this
   . have⟨i,hi⟩:=List.getElem?_of_mem h;exact(a2 i x hi).2
theorem cB {H:Type} {enc:TypeId×Value->H} {w:World} {sp:Nat->Bool} {held:Bool} {D:Nat} {cs:List Value} {d:DataW H×List MemPlace} {J:Array Field} (U:P.underlying t=some (.struct J)) (h:DataW.trod enc P w 0 sp held D t cs=some d) :
  cs.length=P.cellsOf t∧∃ n,∀ (i:Nat) (f:Field),J[i]? = some f->∃ x,DataW.trod enc P w 0 sp held n f.type ((cs.drop f.offset).take (P.cellsOf f.type))=some x:=by
 have⟨_,n,_,_,O,_,_⟩:=DataW.trod_struct U h;refine⟨O,n,λi f _=>?_⟩;grind
theorem Rd.field {El:EB α} {T:TypeId} {H:Type} {enc:TypeId×Value->H} {w:World} {sp:Nat->Bool} {held:Bool} {n:Nat} {cs:List Value} {h:Array Field} (R:Rd P T El ok)
  (O:∀ (i:Nat) (f:Field),h[i]? = some f->∃ x,DataW.trod enc P w 0 sp held n f.type ((cs.drop f.offset).take (P.cellsOf f.type))=some x) (i:Nat) {f:Field} (hi:h[i]? = some f) (U:f.type=T) {off:Nat} (J:f.offset=off) :
  ∃ y,El.rep (hp w) ((cs.drop off).take El.sz) y∧ok y:=by
 subst U J;have⟨x,D⟩:=O i f hi;rw[R.1] at D;exact R.2 enc w sp held n _ _ D
def At4 (P:Program) (t:TypeId):Bool:=match P.underlying t with
 | some (.struct _) | some (.array _ _)=>true
 | _=>false
variable {H:Type} {enc:TypeId×Value→H} {W:World} {sp:Nat→Bool} {held:Bool} {v:Value} {d:DataW H} {p:List MemPlace}
theorem Rd.arg {El:EB α} (R:Rd P t El ok) (O:Value.okWide P W .any 0 t v) (h:DataW.Trod enc P W 0 sp held t v d p) (D:At4 P t=false):∃ y,El.rep (hp W) [v] y∧ok y:=by
 obtain ⟨J,h⟩:=h
 have U:v.cells.toList=[v]:=by
  unfold Value.okWide at O
  unfold At4 at D
  cases v <;> try rfl
  exfalso
  cases V:P.underlying t with
  | none=>simp [V,Cell.okWide,Cell.ok] at O
  | some u=>cases u <;> simp [V,Cell.okWide,Cell.ok] at O D
 rw [U] at h
 exact R.2 enc W sp held J _ _ h
theorem Rd.argA {El:EB α} (R:Rd P t El ok) (O:Value.okWide P W .any 0 t v) (h:DataW.Trod enc P W 0 sp held t v d p) (J:At4 P t=true):∃ cs y,v=.agg cs∧El.rep (hp W) cs.toList y∧ok y:=by
 have⟨D,h⟩:=h;unfold Value.okWide at O;unfold At4 at J
 have:∃ cs,v=.agg cs:=by grind
 obtain⟨cs,rfl⟩:=this;have⟨y,V,U⟩:=R.2 enc W sp held D _ _ h;exact⟨cs,y,rfl,V,U⟩
theorem gJ (V:laidOutB P=true) {W Z:World} (U:Below W.heap.size W Z):∀ {ts:List TypeId} {vs:List Value} {J:List (DataW H)} {D:List MemPlace},(∀ t∈ts,P.readableRec t=true∧t<P.types.size) ->
  (∀ x∈D,x.block<W.heap.size)->DataW.TrodAll enc P W 0 (λ_=>true) true ts vs J D->DataW.TrodAll enc P Z 0 (λb=>decide (b<W.heap.size)) true ts vs J D
 | [],[],[],_,_,_,h=>h
 | t :: ts,v :: vs,d :: J,D,hr,hlt,h=>by
  obtain⟨p,q,h1,h2,rfl⟩:=h;exact⟨p,q,Below.trod V (hr t (by simp)).1 (hr t (by simp)).2 h1 U (λx O=>hlt x (by simp[O])),gJ V U (λt ht=>hr t (by simp[ht])) (λx O=>hlt x (by simp[O])) h2,rfl⟩
 | [],_ :: _,_,_,_,_,h=>h.elim
 | [],[],_ :: _,_,_,_,h=>h.elim
 | _ :: _,[],_,_,_,_,h=>h.elim
 | _ :: _,_ :: _,[],_,_,_,h=>h.elim
theorem cC {W:World} {sp:Nat->Bool} {held:Bool} {D:Nat}:∀ {ts:List TypeId} {vs:List Value} {J:List (DataW H)} {O:List MemPlace},DataW.TrodAll enc P W D sp held ts vs J O->J.length=ts.length
 | [],[],[],_,_=>rfl
 | _ :: _,_ :: _,_ :: _,_,h=>by have⟨_,_,_,U,_⟩:=h; simp[cC U]
 | [],_ :: _,_,_,h=>h.elim
 | [],[],_ :: _,_,h=>h.elim
 | _ :: _,[],_,_,h=>h.elim
 | _ :: _,_ :: _,[],_,h=>h.elim
def AvT (P:Program) (ts:List TypeId):Bool:=ts.all λt=>P.readableRec t && decide (t<P.types.size)
theorem ApX {f:Func} {s:ChangeSpec} {W V:World} {args:Array Value} {J h:List (DataW H)} {a2:List MemPlace} {tb:TypeId} (hl:laidOutB P=true) (hr:AvT P f.params.toList=true) (hT:f.resultTypes = #[tb]) (hB:P.underlying tb=some .bool)
   (U:s.vars=[]) (hs:∀ (J:List (DataW H)),J.length=f.params.toList.length->s.fn H J = { results:=[.lit (.bool true)],args:=J,vars:=[] }) (Z:DataW.Whole enc P f.params.toList s.vars false W args.toList J h a2) (hb:Below W.heap.size W V) :
   s.post enc P f false true false false W args (.bool true) V:=by
 have a5:=Z;have a7:=Z.lt;obtain⟨p,q,hA,D,rfl,_,_⟩:=Z;rw[U] at D
 have a6:h=[]∧q=[]:=by
   cases h with
   | nil=>exact⟨rfl,D⟩
   | cons=>exact D.elim
 obtain⟨rfl,rfl⟩:=a6;have a3:J.length=f.params.toList.length:=cC hA;have O:=hs J a3;refine⟨J,[],p++[],[],p,[],a5,?_,?_,?_,hb.frame _,λa4=>by cases a4⟩
 . rw[kA,O,hT];exact⟨[],[],shut_bool hB true,rfl,rfl⟩
 . rw[kA,O];refine gJ hl hb (λt ht=>?_) (λx hx=>a7 x (by simp[hx])) hA;have:=List.all_eq_true.1 hr t ht;simpa using this
 . rw[kA,O,U];exact rfl
theorem Am1 {g:FuncId} {vs:List Value} {φ:IH->Value->Prop} {W:World} (h:B6 P g vs (hp W) φ) {R:Ending->World->Prop} (J:∀ I v D,φ I v->Below W.heap.size W D->R (.returned v) D):Calls P g vs.toArray W R:=by refine(h W (λ_=>none) (IH.le.refl _) trivial (λ_ _ x=>nomatch x) (λ_=>.inr rfl)).mono λ_ w' V=>?_;obtain⟨v,O,_,rfl,_,⟨_,hψ⟩,hs⟩:=V;exact J O v w' hψ ⟨hs.base.os,hs.base.tape,hs.base.output,hs.base.size,λb U=>hs.base.block b U (by simp)⟩
end
end Go.Fw
namespace Go.Proofs.YtieniichmjgmcaaGreat
open Tryz
open Go Go.Fw
theorem RD3:Rd prog 3 AV (inR .i64):=Rd.int (by kernel_rfl) underlying3 _
theorem RD2:Rd prog 2 AV (inR .i64):=Rd.int (by kernel_rfl) underlying2 _
theorem AyJ:Rd prog 73 CC AgM:=by
  refine⟨by kernel_rfl,λenc w sp held fuel cs d h=>?_⟩;have⟨hl,n,hf⟩:=cB underlying73 h;have hl:cs.length=3:=hl.trans (by kernel_rfl);have⟨x0,h0,k0⟩:=Rd.field RD3 hf 0 rfl rfl (off:=0) rfl;have⟨x1,h1,k1⟩:=Rd.field RD3 hf 1 rfl rfl (off:=1) rfl;have⟨x2,h2,k2⟩:=Rd.field RD2 hf 2 rfl rfl (off:=2) rfl
  obtain⟨c0,c1,c2,rfl⟩:∃ c0 c1 c2,cs=[c0,c1,c2]:=by
    match cs,hl with
    | [c0,c1,c2],_=>exact⟨c0,c1,c2,rfl⟩
  have e0:[c0]=[Value.int .i64 x0]:=h0;simp only[List.cons.injEq,and_true] at e0;obtain rfl:=e0;have e1:[c1]=[Value.int .i64 x1]:=h1;simp only[List.cons.injEq,and_true] at e1;obtain rfl:=e1;have e2:[c2]=[Value.int .i64 x2]:=h2;simp only[List.cons.injEq,and_true] at e2;obtain rfl:=e2;exact⟨{ From:=x0,To:=x1,W:=x2 },rfl,k0,k1,k2⟩
theorem AyK:Rd prog 22 (nZ CC) (λxs=>(∀ x∈xs,AgM x)∧xs.length<=maxLen):=Rd.slice (by kernel_rfl) underlying22 (by decide) AyJ
theorem AyL:Rd prog 24 AvC Aj3:=by
  refine⟨by kernel_rfl,λenc w sp held fuel cs d h=>?_⟩;have⟨hl,n,hf⟩:=cB underlying24 h;have hl:cs.length=2:=hl.trans (by kernel_rfl);have⟨x0,h0,k0⟩:=Rd.field RD3 hf 0 rfl rfl (off:=0) rfl;have⟨x1,h1,k1⟩:=Rd.field AyK hf 1 rfl rfl (off:=1) rfl
  obtain⟨c0,c1,rfl⟩:∃ c0 c1,cs=[c0,c1]:=by
    match cs,hl with
    | [c0,c1],_=>exact⟨c0,c1,rfl⟩
  have e0:[c0]=[Value.int .i64 x0]:=h0;simp only[List.cons.injEq,and_true] at e0;obtain rfl:=e0;have⟨a1_0,b1_0,e1,R1_0⟩:=h1;have e1:[c1]=[Value.slice a1_0 x1.length b1_0]:=e1;simp only[List.cons.injEq,and_true] at e1;obtain rfl:=e1;exact⟨{ N:=x0,Edges:=x1 },⟨_,_,rfl,R1_0⟩,k0,k1⟩
theorem RD5:Rd prog 5 eU8 (inR .u8):=Rd.int (by kernel_rfl) underlying5 _
theorem AyM:Rd prog 26 AdJ YW:=by
  refine⟨by kernel_rfl,λenc w sp held fuel cs d h=>?_⟩;have⟨hl,n,hf⟩:=cB underlying26 h;have hl:cs.length=5:=hl.trans (by kernel_rfl);have⟨x0,h0,k0⟩:=Rd.field AyL hf 0 rfl rfl (off:=0) rfl;have⟨x1,h1,k1⟩:=Rd.field RD3 hf 1 rfl rfl (off:=2) rfl;have⟨x2,h2,k2⟩:=Rd.field RD5 hf 2 rfl rfl (off:=3) rfl;have⟨x3,h3,k3⟩:=Rd.field RD5 hf 3 rfl rfl (off:=4) rfl
  obtain⟨c0,c1,c2,c3,c4,rfl⟩:∃ c0 c1 c2 c3 c4,cs=[c0,c1,c2,c3,c4]:=by
    match cs,hl with
    | [c0,c1,c2,c3,c4],_=>exact⟨c0,c1,c2,c3,c4,rfl⟩
  have⟨a0_0,b0_0,e0,R0_0⟩:=h0;have e0:[c0,c1]=[Value.int .i64 x0.N,Value.slice a0_0 x0.Edges.length b0_0]:=e0;simp only[List.cons.injEq,and_true] at e0;obtain⟨rfl,rfl⟩:=e0;have e1:[c2]=[Value.int .i64 x1]:=h1;simp only[List.cons.injEq,and_true] at e1;obtain rfl:=e1;have e2:[c3]=[Value.int .u8 x2]:=h2;simp only[List.cons.injEq,and_true] at e2;obtain rfl:=e2;have e3:[c4]=[Value.int .u8 x3]:=h3;simp only[List.cons.injEq,and_true] at e3;obtain rfl:=e3;exact⟨{ G:=x0,V:=x1,R:=x2,C:=x3 },⟨_,_,rfl,R0_0⟩,k0,k1,k2,k3⟩
end Go.Proofs.YtieniichmjgmcaaGreat
