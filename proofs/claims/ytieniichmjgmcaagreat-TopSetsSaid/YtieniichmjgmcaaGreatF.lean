import Derived.Test.YtieniichmjgmcaaGreatT
import Derived.Test.YtieniichmjgmcaaGreatChecked
import Derived.KernelRfl
import Derived.ChangeAt
import Derived.ChangeOld
set_option linter.unusedVariables false
set_option linter.unusedSimpArgs false
set_option maxRecDepth 100000
set_option maxHeartbeats 1000000
namespace Go.Proofs.YtieniichmjgmcaaGreat
open Tryz
section
open Go Go.Fw
theorem MX:prog.follows .mixedOrders=true:=by kernel_rfl
theorem MD:Nat.blt 0 (prog.types.size+Made.depth)=true:=by kernel_rfl
abbrev tbP:List (Nat×List Nat):=[(24,[0,1]),(26,[0,2,3,4]),(56,[0,1,2,3,4]),(59,[0,5,7,8,9,10,11]),(63,[0,1,2,3,4]),(65,[0,1,2]),(67,[0,7,8]),(73,[0,1,2]),(129,[0,1,2,3]),(138,[0,12,13,14,15]),(150,[0,1]),(161,[0,1]),(185,[0,1]),(187,[0,1,2,3,4]),(189,[0,1,2,3,4,5]),(196,[0,2,7,9,10,11,16,22,23,24,25,26,27,28,33,38,39,40,41,42,43,44]),(200,[0,1,2,3,4,5]),(225,[0,1]),(235,[0,1]),(238,[0,1,2,3,4,5,7,8,9,10]),(270,[0,1,2]),(300,[0,1]),(314,[0,1]),(324,[0,1,2]),(326,[0,1,3]),(329,[0,1,6,12,18,19,20]),(364,[0,1,2]),(394,[0,1])]
theorem AnA:AllOk prog tbP:=
 ⟨⟨⟨_,_,_,underlying24,rfl,sizeOf3,rfl⟩,⟨_,_,_,underlying24,rfl,sizeOf22,rfl⟩,trivial⟩,⟨⟨_,_,_,underlying26,rfl,sizeOf24,rfl⟩,⟨_,_,_,underlying26,rfl,sizeOf3,rfl⟩,⟨_,_,_,underlying26,rfl,sizeOf5,rfl⟩,⟨_,_,_,underlying26,rfl,sizeOf5,rfl⟩,trivial⟩,⟨⟨_,_,_,underlying56,rfl,sizeOf54,rfl⟩,⟨_,_,_,underlying56,rfl,sizeOf3,rfl⟩,⟨_,_,_,underlying56,rfl,sizeOf3,rfl⟩,⟨_,_,_,underlying56,rfl,sizeOf3,rfl⟩,⟨_,_,_,underlying56,rfl,sizeOf27,rfl⟩,trivial⟩,⟨⟨_,_,_,underlying59,rfl,sizeOf56,rfl⟩,⟨_,_,_,underlying59,rfl,sizeOf24,rfl⟩,⟨_,_,_,underlying59,rfl,sizeOf3,rfl⟩,⟨_,_,_,underlying59,rfl,sizeOf3,rfl⟩,⟨_,_,_,underlying59,rfl,sizeOf3,rfl⟩,⟨_,_,_,underlying59,rfl,sizeOf3,rfl⟩,⟨_,_,_,underlying59,rfl,sizeOf57,rfl⟩,trivial⟩,⟨⟨_,_,_,underlying63,rfl,sizeOf3,rfl⟩,⟨_,_,_,underlying63,rfl,sizeOf3,rfl⟩,⟨_,_,_,underlying63,rfl,sizeOf27,rfl⟩,⟨_,_,_,underlying63,rfl,sizeOf27,rfl⟩,⟨_,_,_,underlying63,rfl,sizeOf40,rfl⟩,trivial⟩,⟨⟨_,_,_,underlying65,rfl,sizeOf61,rfl⟩,⟨_,_,_,underlying65,rfl,sizeOf3,rfl⟩,⟨_,_,_,underlying65,rfl,sizeOf63,rfl⟩,trivial⟩,⟨⟨_,_,_,underlying67,rfl,sizeOf65,rfl⟩,⟨_,_,_,underlying67,rfl,sizeOf3,rfl⟩,⟨_,_,_,underlying67,rfl,sizeOf3,rfl⟩,trivial⟩,⟨⟨_,_,_,underlying73,rfl,sizeOf3,rfl⟩,⟨_,_,_,underlying73,rfl,sizeOf3,rfl⟩,⟨_,_,_,underlying73,rfl,sizeOf2,rfl⟩,trivial⟩,⟨⟨_,_,_,underlying129,rfl,sizeOf127,rfl⟩,⟨_,_,_,underlying129,rfl,sizeOf3,rfl⟩,⟨_,_,_,underlying129,rfl,sizeOf3,rfl⟩,⟨_,_,_,underlying129,rfl,sizeOf3,rfl⟩,trivial⟩,⟨⟨_,_,_,underlying138,rfl,sizeOf59,rfl⟩,⟨_,_,_,underlying138,rfl,sizeOf134,rfl⟩,⟨_,_,_,underlying138,rfl,sizeOf135,rfl⟩,⟨_,_,_,underlying138,rfl,sizeOf134,rfl⟩,⟨_,_,_,underlying138,rfl,sizeOf136,rfl⟩,trivial⟩,⟨⟨_,_,_,underlying150,rfl,sizeOf2,rfl⟩,⟨_,_,_,underlying150,rfl,sizeOf85,rfl⟩,trivial⟩,⟨⟨_,_,_,underlying161,rfl,sizeOf3,rfl⟩,⟨_,_,_,underlying161,rfl,sizeOf2,rfl⟩,trivial⟩,⟨⟨_,_,_,underlying185,rfl,sizeOf3,rfl⟩,⟨_,_,_,underlying185,rfl,sizeOf3,rfl⟩,trivial⟩,⟨⟨_,_,_,underlying187,rfl,sizeOf3,rfl⟩,⟨_,_,_,underlying187,rfl,sizeOf3,rfl⟩,⟨_,_,_,underlying187,rfl,sizeOf30,rfl⟩,⟨_,_,_,underlying187,rfl,sizeOf30,rfl⟩,⟨_,_,_,underlying187,rfl,sizeOf27,rfl⟩,trivial⟩,⟨⟨_,_,_,underlying189,rfl,sizeOf3,rfl⟩,⟨_,_,_,underlying189,rfl,sizeOf3,rfl⟩,⟨_,_,_,underlying189,rfl,sizeOf30,rfl⟩,⟨_,_,_,underlying189,rfl,sizeOf30,rfl⟩,⟨_,_,_,underlying189,rfl,sizeOf30,rfl⟩,⟨_,_,_,underlying189,rfl,sizeOf27,rfl⟩,trivial⟩,⟨⟨_,_,_,underlying196,rfl,sizeOf185,rfl⟩,⟨_,_,_,underlying196,rfl,sizeOf56,rfl⟩,⟨_,_,_,underlying196,rfl,sizeOf185,rfl⟩,⟨_,_,_,underlying196,rfl,sizeOf3,rfl⟩,⟨_,_,_,underlying196,rfl,sizeOf57,rfl⟩,⟨_,_,_,underlying196,rfl,sizeOf187,rfl⟩,⟨_,_,_,underlying196,rfl,sizeOf189,rfl⟩,⟨_,_,_,underlying196,rfl,sizeOf190,rfl⟩,⟨_,_,_,underlying196,rfl,sizeOf3,rfl⟩,⟨_,_,_,underlying196,rfl,sizeOf191,rfl⟩,⟨_,_,_,underlying196,rfl,sizeOf3,rfl⟩,⟨_,_,_,underlying196,rfl,sizeOf3,rfl⟩,⟨_,_,_,underlying196,rfl,sizeOf61,rfl⟩,⟨_,_,_,underlying196,rfl,sizeOf63,rfl⟩,⟨_,_,_,underlying196,rfl,sizeOf63,rfl⟩,⟨_,_,_,underlying196,rfl,sizeOf4,rfl⟩,⟨_,_,_,underlying196,rfl,sizeOf4,rfl⟩,⟨_,_,_,underlying196,rfl,sizeOf192,rfl⟩,⟨_,_,_,underlying196,rfl,sizeOf193,rfl⟩,⟨_,_,_,underlying196,rfl,sizeOf3,rfl⟩,⟨_,_,_,underlying196,rfl,sizeOf194,rfl⟩,⟨_,_,_,underlying196,rfl,sizeOf4,rfl⟩,trivial⟩,⟨⟨_,_,_,underlying200,rfl,sizeOf3,rfl⟩,⟨_,_,_,underlying200,rfl,sizeOf30,rfl⟩,⟨_,_,_,underlying200,rfl,sizeOf194,rfl⟩,⟨_,_,_,underlying200,rfl,sizeOf198,rfl⟩,⟨_,_,_,underlying200,rfl,sizeOf3,rfl⟩,⟨_,_,_,underlying200,rfl,sizeOf3,rfl⟩,trivial⟩,⟨⟨_,_,_,underlying225,rfl,sizeOf222,rfl⟩,⟨_,_,_,underlying225,rfl,sizeOf223,rfl⟩,trivial⟩,⟨⟨_,_,_,underlying235,rfl,sizeOf3,rfl⟩,⟨_,_,_,underlying235,rfl,sizeOf233,rfl⟩,trivial⟩,⟨⟨_,_,_,underlying238,rfl,sizeOf232,rfl⟩,⟨_,_,_,underlying238,rfl,sizeOf3,rfl⟩,⟨_,_,_,underlying238,rfl,sizeOf3,rfl⟩,⟨_,_,_,underlying238,rfl,sizeOf3,rfl⟩,⟨_,_,_,underlying238,rfl,sizeOf3,rfl⟩,⟨_,_,_,underlying238,rfl,sizeOf235,rfl⟩,⟨_,_,_,underlying238,rfl,sizeOf192,rfl⟩,⟨_,_,_,underlying238,rfl,sizeOf236,rfl⟩,⟨_,_,_,underlying238,rfl,sizeOf2,rfl⟩,⟨_,_,_,underlying238,rfl,sizeOf4,rfl⟩,trivial⟩,⟨⟨_,_,_,underlying270,rfl,sizeOf3,rfl⟩,⟨_,_,_,underlying270,rfl,sizeOf3,rfl⟩,⟨_,_,_,underlying270,rfl,sizeOf2,rfl⟩,trivial⟩,⟨⟨_,_,_,underlying300,rfl,sizeOf3,rfl⟩,⟨_,_,_,underlying300,rfl,sizeOf2,rfl⟩,trivial⟩,⟨⟨_,_,_,underlying314,rfl,sizeOf3,rfl⟩,⟨_,_,_,underlying314,rfl,sizeOf150,rfl⟩,trivial⟩,⟨⟨_,_,_,underlying324,rfl,sizeOf3,rfl⟩,⟨_,_,_,underlying324,rfl,sizeOf40,rfl⟩,⟨_,_,_,underlying324,rfl,sizeOf27,rfl⟩,trivial⟩,⟨⟨_,_,_,underlying326,rfl,sizeOf223,rfl⟩,⟨_,_,_,underlying326,rfl,sizeOf235,rfl⟩,⟨_,_,_,underlying326,rfl,sizeOf324,rfl⟩,trivial⟩,⟨⟨_,_,_,underlying329,rfl,sizeOf109,rfl⟩,⟨_,_,_,underlying329,rfl,sizeOf187,rfl⟩,⟨_,_,_,underlying329,rfl,sizeOf189,rfl⟩,⟨_,_,_,underlying329,rfl,sizeOf326,rfl⟩,⟨_,_,_,underlying329,rfl,sizeOf40,rfl⟩,⟨_,_,_,underlying329,rfl,sizeOf4,rfl⟩,⟨_,_,_,underlying329,rfl,sizeOf222,rfl⟩,trivial⟩,⟨⟨_,_,_,underlying364,rfl,sizeOf362,rfl⟩,⟨_,_,_,underlying364,rfl,sizeOf109,rfl⟩,⟨_,_,_,underlying364,rfl,sizeOf192,rfl⟩,trivial⟩,⟨⟨_,_,_,underlying394,rfl,sizeOf192,rfl⟩,⟨_,_,_,underlying394,rfl,sizeOf3,rfl⟩,trivial⟩,trivial⟩
section
variable {n:FrK} {E E1 E' E2:DG} {S:World→Prop} {Q Q':Exit→Act→World→Prop} {ops:Array Oper} {l l' l2:List Oper} {z:Code} {id:Nat}
theorem _root_.Go.Fw.Ops.ks (j:Nat) (h:tH tbP ops n j l E=some (l',E')) (g:Ops prog ops l' n E' S Q):Ops prog ops l n E S Q:=.ksT AnA j h g
theorem _root_.Go.Fw.Ops.nk (ks:Nat) (j:Nat) (h:(selN ks E [],(λa w=>Q .normal a w),tH tbP l2.toArray n j l2 E')=(some E',(λa w=>(Code.seq (.region id l2.toArray false) z).wpIn (WC n) 0 prog Q' a w),some (l',E2))) (g:Ops prog l2.toArray l' n E2 S (Exit.then (z.wpIn (WC n) 0 prog Q') Q')):Ops prog ops [] n E S Q:=.nkT AnA ks j h g
theorem _root_.Go.Fw.Cod.sk (j:Nat) (h:tH tbP l.toArray n j l E=some (l',E')) (g:Ops prog l.toArray l' n E' S (Exit.then (z.wpIn (WC n) 0 prog Q) Q)):Cod prog (.seq (.region id l.toArray false) z) n E S Q:=.skT AnA j h g
theorem _root_.Go.Fw.Ops.kn (j:Nat) (ks:Nat) (h:(tH tbP ops n j l E,selN ks E1 [],λa w=>Q .normal a w)=(some ([],E1),some E',λa w=>z.wpIn (WC n) 0 prog Q' a w)) (g:Cod prog z n E' S Q'):Ops prog ops l n E S Q:=.knT AnA j ks h g
variable {w0:World} {M:Nat→Prop} {I0 I:IH} {cs cs':List (Option Nat)} {dn dn':HQ} {X X' pend pd':List Nat} {asn:List AS} {L:Sh} {Sd:List HA→World→Prop} {g fs:List Nat} {A B:List (Option (Nat×Value))}
theorem _root_.Go.Fw.DrawD.fk (k:Nat) (h:ApW tbP ops n E k cs dn X pend=some (cs',dn',X',pd')) (kk:DrawD prog ops n Q w0 M I0 E cs' dn' X' pd' asn I L):DrawD prog ops n Q w0 M I0 E cs dn X pend asn I L:=.fkT AnA k h kk
theorem _root_.Go.Fw.PendL.ck (k:Nat) (h:ApY tbP ops n E dn k fs=some (g,A,B)) (hAB:A=B) (kk:PendL prog ops n E dn Sd g):PendL prog ops n E dn Sd fs:=.ckT AnA k h hAB kk
end
theorem IN2:prog.info? 2=some t2:=by kernel_rfl
theorem IN3:prog.info? 3=some t3:=by kernel_rfl
noncomputable abbrev fB (n:Nat):Bool:=(prog.fieldsOf n).toList.all (λf=>(prog.info? f.type).isSome)
theorem Ac9:fB 24=true:=by kernel_rfl
theorem AxV:prog.info? 30=some t30:=by kernel_rfl
theorem AyY:prog.info? 40=some t40:=by kernel_rfl
theorem AyZ:fB 56=true:=by kernel_rfl
theorem Az0:fB 59=true:=by kernel_rfl
theorem Az1:prog.info? 63=some t63:=by kernel_rfl
theorem mD:fB 63=true:=by kernel_rfl
theorem Az2:fB 65=true:=by kernel_rfl
theorem AxW:fB 67=true:=by kernel_rfl
theorem AcA:prog.info? 73=some t73:=by kernel_rfl
theorem AnB:fB 73=true:=by kernel_rfl
theorem AnC:prog.info? 85=some t85:=by kernel_rfl
theorem AlF:prog.info? 133=some t133:=by kernel_rfl
theorem AxX:fB 138=true:=by kernel_rfl
theorem AxY:prog.info? 141=some t141:=by kernel_rfl
theorem AxZ:prog.info? 150=some t150:=by kernel_rfl
theorem OI:fB 150=true:=by kernel_rfl
theorem uY:fB 185=true:=by kernel_rfl
theorem uZ:fB 187=true:=by kernel_rfl
theorem AvL:fB 189=true:=by kernel_rfl
theorem Ay0:prog.info? 192=some t192:=by kernel_rfl
theorem Ay1:fB 196=true:=by kernel_rfl
theorem Ay2:fB 200=true:=by kernel_rfl
theorem Ay3:prog.info? 225=some t225:=by kernel_rfl
theorem Ay4:fB 225=true:=by kernel_rfl
theorem Ay5:prog.info? 235=some t235:=by kernel_rfl
theorem GQ:fB 235=true:=by kernel_rfl
theorem Ay6:prog.info? 238=some t238:=by kernel_rfl
theorem mE:fB 238=true:=by kernel_rfl
theorem AlG:prog.info? 270=some t270:=by kernel_rfl
theorem AlH:fB 270=true:=by kernel_rfl
theorem vA:prog.info? 300=some t300:=by kernel_rfl
theorem vB:fB 300=true:=by kernel_rfl
theorem AfF:prog.info? 314=some t314:=by kernel_rfl
theorem AvM:fB 314=true:=by kernel_rfl
theorem Ar3:fB 324=true:=by kernel_rfl
theorem AvN:fB 326=true:=by kernel_rfl
theorem Ay7:fB 329=true:=by kernel_rfl
theorem Ay8:fB 364=true:=by kernel_rfl
theorem gC:prog.info? 392=some t392:=by kernel_rfl
theorem Ay9:prog.info? 394=some t394:=by kernel_rfl
theorem AyA:fB 394=true:=by kernel_rfl
theorem Aa7 (x y:AP) (w:World):(Op.equal 150 (.agg (E9 x).toArray) (.agg (E9 y).toArray)).run prog w=.ok (x==y) w:=by refine Eq.trans ((eqS (k:=9999) underlying150 (by kernel_rfl) (eqC (by decide) isAgg2 rfl rfl (eqI (k:=9998) underlying2) (eqC (by decide) isAgg85 rfl rfl (eqI (k:=9998) underlying85) eqN))) w) (congrArg (λb=>Result.ok b w) (Bool.eq_iff_iff.2 ?_));have⟨x_0,x_1⟩:=x; have⟨y_0,y_1⟩:=y;simp[and_assoc]
theorem Aa8 (o:BinOp) (x y:Operand) (u v:Array Value) (w:World):(eqGuard o 150 x y (.agg u) (.agg v)).run prog w=.ok () w:=run_eqGuard_agg w o 150 x y u v (by kernel_rfl)
theorem AvO (x y:BB) (w:World):(Op.equal 185 (.agg (G6 x).toArray) (.agg (G6 y).toArray)).run prog w=.ok (x==y) w:=by refine Eq.trans ((eqS (k:=9999) underlying185 (by kernel_rfl) (eqC (by decide) isAgg3 rfl rfl (eqI (k:=9998) underlying3) (eqC (by decide) isAgg3 rfl rfl (eqI (k:=9998) underlying3) eqN))) w) (congrArg (λb=>Result.ok b w) (Bool.eq_iff_iff.2 ?_));have⟨x_0,x_1⟩:=x; have⟨y_0,y_1⟩:=y;simp[and_assoc]
theorem AvP (o:BinOp) (x y:Operand) (u v:Array Value) (w:World):(eqGuard o 185 x y (.agg u) (.agg v)).run prog w=.ok () w:=run_eqGuard_agg w o 185 x y u v (by kernel_rfl)
theorem IX3:prog.info? 3=some t3:=by kernel_rfl
theorem AwF:fT prog 97 KR:=Ak6 underlying97 IX3 underlying3 (by kernel_rfl) isAgg3 sizeOf3
theorem AfG:fT prog 141 KR:=Ak6 underlying141 IX3 underlying3 (by kernel_rfl) isAgg3 sizeOf3
instance {I J:IH} {x:aTa} {o:JS}:Up (lTa I x o) I J (lTa J x o):=⟨mTa⟩
instance {I J:IH} {x:aTb} {o:Rows}:Up (nN I x o) I J (nN J x o):=⟨mTb⟩
instance {I J:IH} {x:aTc} {o:Rows}:Up (lTc I x o) I J (lTc J x o):=⟨mTc⟩
instance {I J:IH} {x:aTd} {o:BF}:Up (wU I x o) I J (wU J x o):=⟨mTd⟩
instance {I J:IH} {x:aTe} {o:BF}:Up (lTe I x o) I J (lTe J x o):=⟨mTe⟩
instance {I J:IH} {x:aTf} {o:BF}:Up (lTf I x o) I J (lTf J x o):=⟨mTf⟩
instance {I J:IH} {x:aTg} {o:State}:Up (iA I x o) I J (iA J x o):=⟨mTg⟩
instance {I J:IH} {x:aTh} {o:AO}:Up (rU I x o) I J (rU J x o):=⟨mTh⟩
instance {I J:IH} {x:aTi} {o:Dense}:Up (lTi I x o) I J (lTi J x o):=⟨mTi⟩
instance {I J:IH} {x:aTj} {o:iB}:Up (lTj I x o) I J (lTj J x o):=⟨mTj⟩
instance {I J:IH} {x:aTk} {o:GP}:Up (lTk I x o) I J (lTk J x o):=⟨mTk⟩
instance {I J:IH} {x:aTl} {o:AJ}:Up (lTl I x o) I J (lTl J x o):=⟨mTl⟩
instance {I J:IH} {x:aTm} {o:AL}:Up (lTm I x o) I J (lTm J x o):=⟨mTm⟩
instance {I J:IH} {x:aTn} {o:A1}:Up (WE I x o) I J (WE J x o):=⟨mTn⟩
instance {I J:IH} {x:aTo} {o:A1}:Up (lTo I x o) I J (lTo J x o):=⟨mTo⟩
instance {I J:IH} {x:aTp} {o:AL}:Up (lTp I x o) I J (lTp J x o):=⟨mTp⟩
instance {I J:IH} {x:aTq} {o:AL}:Up (nO I x o) I J (nO J x o):=⟨mTq⟩
instance {I J:IH} {q0:Option Addr} {q1:Nat} {q2:Nat} {q3:Nat} {x:BR}:Up (BV.fact I (q0,q1,q2,q3) x) I J (BV.fact J (q0,q1,q2,q3) x):=⟨λh k=>BV.mono h k⟩
instance {I J:IH} {q0:aTn} {q1:Option Addr} {q2:Nat} {q3:Nat} {q4:Option Addr} {q5:Nat} {q6:Nat} {q7:Nat} {x:A1}:Up (A8.fact I (q0,q1,q2,q3,q4,q5,q6,q7) x) I J (A8.fact J (q0,q1,q2,q3,q4,q5,q6,q7) x):=⟨λh k=>A8.mono h k⟩
abbrev Y6 (Q:Int->Prop):Value->Prop:=λv=>∃ r,v=.int .i64 r∧Q r
abbrev o1_ (Q:Graph->Prop):IH->Value->Prop:=λI_ v=>∃ r p4 c5,v=.agg #[.int .i64 r.N,.slice p4 r.Edges.length c5]∧RepSl CA I_ p4 c5 r.Edges∧Q r
abbrev o2_ (Q:JS->Prop):IH->Value->Prop:=λI_ v=>∃ r ga4,v=.agg (YO r ga4)∧lTa I_ ga4 r∧Q r
abbrev o3_ (Q:(List Int)->Prop):IH->Value->Prop:=λI_ v=>∃ r p4 c5,v=.slice p4 r.length c5∧RepSl B0 I_ p4 c5 r∧Q r
abbrev bV (Q:Bool->Prop):Value->Prop:=λv=>∃ r,v=.bool r∧Q r
abbrev o5_ (Q:AP->Prop):Value->Prop:=λv=>∃ r,v=.agg (E9 r).toArray∧Q r
abbrev o6_ (Q:Int->Prop):Value->Prop:=λv=>∃ r,v=.int .u64 r∧Q r
abbrev o7_ (Q:(Int×Bool)->Prop):Value->Prop:=λv=>∃ r,v=.tuple #[.int .i64 r.1,.bool r.2]∧Q r
abbrev o8_ (Q:((List B2)×Int)->Prop):IH->Value->Prop:=λI_ v=>∃ r p4 c5,v=.tuple #[.slice p4 r.1.length c5,.int .i64 r.2]∧RepSl CA I_ p4 c5 r.1∧Q r
abbrev Au6 (Q:Rows->Prop):IH->Value->Prop:=λI_ v=>∃ r gb3,v=.agg (KX r gb3)∧nN I_ gb3 r∧Q r
abbrev Az3 (Q:((List Int)×(List Int))->Prop):IH->Value->Prop:=λI_ v=>∃ r p3 c4 p6 c7,v=.tuple #[.slice p3 r.1.length c4,.slice p6 r.2.length c7]∧RepSl B0 I_ p3 c4 r.1∧RepSl B0 I_ p6 c7 r.2∧Q r
abbrev AyB (Q:(List B9)->Prop):IH->Value->Prop:=λI_ v=>∃ r p3 c4,v=.slice p3 r.length c4∧RepSl CB I_ p3 c4 r∧Q r
abbrev AyC (Q:(Int×Int)->Prop):Value->Prop:=λv=>∃ r,v=.agg #[.int .i64 r.1,.int .i64 r.2]∧Q r
abbrev AyD (Q:BF->Prop):IH->Value->Prop:=λI_ v=>∃ r gd3,v=.agg (FD r gd3)∧wU I_ gd3 r∧Q r
abbrev Ar4 (Q:(List Int)->Prop):IH->Value->Prop:=λI_ v=>∃ r p4 c5,v=.slice p4 r.length c5∧RepSl EH I_ p4 c5 r∧Q r
abbrev AyE (Q:AO->Prop):IH->Value->Prop:=λI_ v=>∃ r gh3,v=.agg (JL r gh3)∧rU I_ gh3 r∧Q r
abbrev AwG (Q:Vec->Prop):IH->Value->Prop:=λI_ v=>∃ r p4 c5,v=.agg #[.int .i64 r.N,.slice p4 r.Items.length c5]∧RepSl CB I_ p4 c5 r.Items∧Q r
abbrev AwH (Q:(Vec×Int)->Prop):IH->Value->Prop:=λI_ v=>∃ r p4 c5,v=.tuple #[.agg #[.int .i64 r.1.N,.slice p4 r.1.Items.length c5],.int .i64 r.2]∧RepSl CB I_ p4 c5 r.1.Items∧Q r
abbrev AyF (Q:Dense->Prop):IH->Value->Prop:=λI_ v=>∃ r gi3,v=.agg (KY r gi3)∧lTi I_ gi3 r∧Q r
abbrev AyG (Q:Vec->Prop):IH->Value->Prop:=λI_ v=>∃ r p3 c4,v=.agg #[.int .i64 r.N,.slice p3 r.Items.length c4]∧RepSl CB I_ p3 c4 r.Items∧Q r
abbrev AwI (Q:(List Int)->Prop):IH->Value->Prop:=λI_ v=>∃ r p7 c8,v=.slice p7 r.length c8∧RepSl EH I_ p7 c8 r∧Q r
abbrev xL:=@underlying2
abbrev nQ:=@underlying3
abbrev un5:=@underlying5
abbrev DU:=@underlying22
abbrev iN:=@underlying24
abbrev DF:=@underlying27
abbrev BE:=@underlying30
abbrev fC:=@underlying35
abbrev GZ:=@underlying40
abbrev AfH:=@underlying57
abbrev fD:=@underlying63
abbrev AnD:=@underlying73
abbrev Z0:=@underlying85
abbrev UA:=@underlying97
abbrev AiG:=@underlying99
abbrev Aa9:=@underlying133
abbrev L6:=@underlying134
abbrev vC:=@underlying135
abbrev qR:=@underlying136
abbrev bW:=@underlying141
abbrev AfI:=@underlying142
abbrev mF:=@underlying147
abbrev OJ:=@underlying150
abbrev gD:=@underlying185
abbrev qS:=@underlying187
abbrev AaA:=@underlying190
abbrev EK:=@underlying192
abbrev qT:=@underlying194
abbrev AaB:=@underlying196
abbrev AaC:=@underlying198
abbrev DX:=@underlying233
abbrev F4:=@underlying235
abbrev NA:=@underlying236
abbrev ZR:=@underlying238
abbrev vD:=@underlying300
abbrev qU:=@underlying318
abbrev qV:=@underlying358
abbrev OL:=@underlying362
abbrev ZS:=@underlying392
abbrev LX:=@underlying445
abbrev XP:=@sizeOf2
abbrev D3:=@sizeOf3
abbrev DC:=@sizeOf24
abbrev aB:=@sizeOf30
abbrev QA:=@sizeOf56
abbrev WK:=@sizeOf59
abbrev DJ:=@sizeOf63
abbrev xM:=@sizeOf67
abbrev D9:=@sizeOf73
abbrev G9:=@sizeOf85
abbrev fE:=@sizeOf97
abbrev VW:=@sizeOf141
abbrev AR:=@sizeOf150
abbrev BL:=@sizeOf187
abbrev EG:=@sizeOf189
abbrev ZT:=@sizeOf192
abbrev AQ:=@sizeOf235
abbrev CV:=@sizeOf238
abbrev SB:=@sizeOf270
abbrev DN:=@sizeOf300
abbrev FG:=@sizeOf314
abbrev FH:=@sizeOf324
abbrev JX:=@sizeOf394
abbrev LY:=@isAgg2
abbrev AM:=@isAgg3
abbrev ia4:=@isAgg4
abbrev P0:=@isAgg22
abbrev GA:=@isAgg24
abbrev FX:=@isAgg27
abbrev EJ:=@isAgg30
abbrev P1:=@isAgg40
abbrev fF:=@isAgg54
abbrev QB:=@isAgg56
abbrev bX:=@isAgg59
abbrev JP:=@isAgg63
abbrev OM:=@isAgg73
abbrev FI:=@isAgg85
abbrev BJ:=@isAgg150
abbrev CW:=@isAgg187
abbrev H9:=@isAgg189
abbrev JY:=@isAgg192
abbrev HO:=@isAgg233
abbrev BK:=@isAgg235
abbrev GF:=@isAgg238
abbrev UB:=@isAgg300
abbrev L7:=@isAgg324
abbrev UC:=@isAgg362
abbrev zv2:=@zeroValue2
abbrev jX:=@zeroValue3
abbrev S6:=@zeroValue24
abbrev Ar5:=@zeroValue59
abbrev NK:=@zeroValue63
abbrev Ar6:=@zeroValue67
abbrev QC:=@zeroValue73
abbrev fG:=@zeroValue97
abbrev EB:=@zeroValue150
abbrev qW:=@zeroValue185
abbrev ON:=@zeroValue187
abbrev vE:=@zeroValue189
abbrev CC:=@zeroValue235
abbrev KJ:=@zeroValue238
abbrev bY:=@zeroValue270
abbrev L8:=@zeroValue300
abbrev gE:=@zeroValue314
abbrev mG:=@zeroValue324
abbrev AaD:=@zeroValue445
end
section
open Go Go.Fw Go.Shelf
theorem sT {α:Type} {a:Option α} {x y:α} (h:a=some x) (k:x=y:=by kernel_rfl):a=some y:=h.trans (congrArg some k)
def AxA:Go.Shelf.Ren:=⟨fun | 6=>104 | 15=>135 | 14=>134 | 28=>177 | 29=>178 | 20=>169 | 21=>170 | 22=>171 | 23=>172 | 24=>173 | 25=>174 | 26=>175 | 27=>176 | 46=>218 | 47=>219 | 48=>220 | 49=>221 | 50=>222 | 57=>263 | n=>n,fun | 22=>22 | 24=>73 | 25=>175 | 3=>3 | 39=>86 | 0=>0 | 53=>166 | 55=>85 | 4=>4 | 46=>256 | 45=>255 | 50=>75 | 5=>5 | 9=>9 | 66=>288 | 70=>292 | 76=>343 | 77=>296 | n=>n,λn=>n⟩
theorem AyP:SlLaysF0.n6 prog AxA where
  mixed:=MX
  f6:=⟨ "slices.SortFunc[[]fretwork/api.Edge,fretwork/api.Edge]",by decide,sT func104⟩
  f14:=⟨ "slices.pdqsortCmpFunc[fretwork/api.Edge]",by decide,sT func134⟩
  f15:=sT func135
  f20:=⟨ "slices.insertionSortCmpFunc[fretwork/api.Edge]",by decide,sT func169⟩
  f21:=⟨ "slices.heapSortCmpFunc[fretwork/api.Edge]",by decide,sT func170⟩
  f22:=⟨ "slices.breakPatternsCmpFunc[fretwork/api.Edge]",by decide,sT func171⟩
  f23:=⟨ "slices.choosePivotCmpFunc[fretwork/api.Edge]",by decide,sT func172⟩
  f24:=⟨ "slices.reverseRangeCmpFunc[fretwork/api.Edge]",by decide,sT func173⟩
  f25:=⟨ "slices.partialInsertionSortCmpFunc[fretwork/api.Edge]",by decide,sT func174⟩
  f26:=⟨ "slices.partitionEqualCmpFunc[fretwork/api.Edge]",by decide,sT func175⟩
  f27:=⟨ "slices.partitionCmpFunc[fretwork/api.Edge]",by decide,sT func176⟩
  f28:=sT func177
  f29:=sT func178
  f46:=⟨ "slices.siftDownCmpFunc[fretwork/api.Edge]",by decide,sT func218⟩
  f47:=sT func219
  f48:=sT func220
  f49:=⟨ "slices.medianAdjacentCmpFunc[fretwork/api.Edge]",by decide,sT func221⟩
  f50:=⟨ "slices.medianCmpFunc[fretwork/api.Edge]",by decide,sT func222⟩
  f57:=⟨ "slices.order2CmpFunc[fretwork/api.Edge]",by decide,sT func263⟩
  t0:=underlying0
  a0:=isAgg0
  z0:=sizeOf0
  v0:=zeroValue0
  t3:=underlying3
  a3:=isAgg3
  z3:=sizeOf3
  v3:=zeroValue3
  t4:=underlying4
  a4:=isAgg4
  z4:=sizeOf4
  v4:=zeroValue4
  t5:=underlying5
  a5:=isAgg5
  z5:=sizeOf5
  v5:=zeroValue5
  t9:=underlying9
  a9:=isAgg9
  z9:=sizeOf9
  v9:=zeroValue9
  t22:=underlying22
  a22:=isAgg22
  z22:=sizeOf22
  v22:=zeroValue22
  t25:=underlying175
  a25:=isAgg175
  z25:=sizeOf175
  v25:=zeroValue175
  t39:=underlying86
  a39:=isAgg86
  z39:=sizeOf86
  v39:=zeroValue86
  t45:=underlying255
  a45:=isAgg255
  z45:=sizeOf255
  v45:=zeroValue255
  t46:=underlying256
  a46:=isAgg256
  z46:=sizeOf256
  v46:=zeroValue256
  t50:=underlying75
  a50:=isAgg75
  z50:=sizeOf75
  v50:=zeroValue75
  t53:=underlying166
  a53:=isAgg166
  z53:=sizeOf166
  v53:=zeroValue166
  t55:=underlying85
  a55:=isAgg85
  z55:=sizeOf85
  v55:=zeroValue85
  t66:=underlying288
  a66:=isAgg288
  z66:=sizeOf288
  v66:=zeroValue288
  t70:=underlying292
  a70:=isAgg292
  z70:=sizeOf292
  v70:=zeroValue292
  t76:=underlying343
  a76:=isAgg343
  z76:=sizeOf343
  v76:=zeroValue343
  t77:=underlying296
  a77:=isAgg296
  z77:=sizeOf296
  v77:=zeroValue296
def AxB:Go.Shelf.Ren:=⟨fun | 6=>158 | 15=>135 | 14=>210 | 28=>177 | 29=>178 | 20=>252 | 21=>253 | 22=>254 | 23=>255 | 24=>256 | 25=>257 | 26=>258 | 27=>259 | 46=>297 | 47=>219 | 48=>220 | 49=>298 | 50=>299 | 57=>331 | n=>n,fun | 22=>182 | 24=>141 | 25=>248 | 3=>3 | 39=>86 | 0=>0 | 53=>166 | 55=>85 | 4=>4 | 46=>256 | 45=>255 | 50=>75 | 5=>5 | 9=>9 | 66=>288 | 70=>292 | 76=>343 | 77=>296 | n=>n,λn=>n⟩
theorem AyQ:SlLaysF0.n6 prog AxB where
  mixed:=MX
  f6:=⟨ "slices.SortFunc[[]fretwork/grid.link,fretwork/grid.link]",by decide,sT func158⟩
  f14:=⟨ "slices.pdqsortCmpFunc[fretwork/grid.link]",by decide,sT func210⟩
  f15:=sT func135
  f20:=⟨ "slices.insertionSortCmpFunc[fretwork/grid.link]",by decide,sT func252⟩
  f21:=⟨ "slices.heapSortCmpFunc[fretwork/grid.link]",by decide,sT func253⟩
  f22:=⟨ "slices.breakPatternsCmpFunc[fretwork/grid.link]",by decide,sT func254⟩
  f23:=⟨ "slices.choosePivotCmpFunc[fretwork/grid.link]",by decide,sT func255⟩
  f24:=⟨ "slices.reverseRangeCmpFunc[fretwork/grid.link]",by decide,sT func256⟩
  f25:=⟨ "slices.partialInsertionSortCmpFunc[fretwork/grid.link]",by decide,sT func257⟩
  f26:=⟨ "slices.partitionEqualCmpFunc[fretwork/grid.link]",by decide,sT func258⟩
  f27:=⟨ "slices.partitionCmpFunc[fretwork/grid.link]",by decide,sT func259⟩
  f28:=sT func177
  f29:=sT func178
  f46:=⟨ "slices.siftDownCmpFunc[fretwork/grid.link]",by decide,sT func297⟩
  f47:=sT func219
  f48:=sT func220
  f49:=⟨ "slices.medianAdjacentCmpFunc[fretwork/grid.link]",by decide,sT func298⟩
  f50:=⟨ "slices.medianCmpFunc[fretwork/grid.link]",by decide,sT func299⟩
  f57:=⟨ "slices.order2CmpFunc[fretwork/grid.link]",by decide,sT func331⟩
  t0:=underlying0
  a0:=isAgg0
  z0:=sizeOf0
  v0:=zeroValue0
  t3:=underlying3
  a3:=isAgg3
  z3:=sizeOf3
  v3:=zeroValue3
  t4:=underlying4
  a4:=isAgg4
  z4:=sizeOf4
  v4:=zeroValue4
  t5:=underlying5
  a5:=isAgg5
  z5:=sizeOf5
  v5:=zeroValue5
  t9:=underlying9
  a9:=isAgg9
  z9:=sizeOf9
  v9:=zeroValue9
  t22:=underlying182
  a22:=isAgg182
  z22:=sizeOf182
  v22:=zeroValue182
  t25:=underlying248
  a25:=isAgg248
  z25:=sizeOf248
  v25:=zeroValue248
  t39:=underlying86
  a39:=isAgg86
  z39:=sizeOf86
  v39:=zeroValue86
  t45:=underlying255
  a45:=isAgg255
  z45:=sizeOf255
  v45:=zeroValue255
  t46:=underlying256
  a46:=isAgg256
  z46:=sizeOf256
  v46:=zeroValue256
  t50:=underlying75
  a50:=isAgg75
  z50:=sizeOf75
  v50:=zeroValue75
  t53:=underlying166
  a53:=isAgg166
  z53:=sizeOf166
  v53:=zeroValue166
  t55:=underlying85
  a55:=isAgg85
  z55:=sizeOf85
  v55:=zeroValue85
  t66:=underlying288
  a66:=isAgg288
  z66:=sizeOf288
  v66:=zeroValue288
  t70:=underlying292
  a70:=isAgg292
  z70:=sizeOf292
  v70:=zeroValue292
  t76:=underlying343
  a76:=isAgg343
  z76:=sizeOf343
  v76:=zeroValue343
  t77:=underlying296
  a77:=isAgg296
  z77:=sizeOf296
  v77:=zeroValue296
def AxC:Go.Shelf.Ren:=⟨fun | 6=>231 | 15=>135 | 14=>265 | 28=>177 | 29=>178 | 20=>300 | 21=>301 | 22=>302 | 23=>303 | 24=>304 | 25=>305 | 26=>306 | 27=>307 | 46=>332 | 47=>219 | 48=>220 | 49=>333 | 50=>334 | 57=>354 | n=>n,fun | 22=>236 | 24=>270 | 25=>304 | 3=>3 | 39=>86 | 0=>0 | 53=>166 | 55=>85 | 4=>4 | 46=>256 | 45=>255 | 50=>75 | 5=>5 | 9=>9 | 66=>288 | 70=>292 | 76=>343 | 77=>296 | n=>n,λn=>n⟩
theorem AyR:SlLaysF0.n6 prog AxC where
  mixed:=MX
  f6:=⟨ "slices.SortFunc[[]fretwork/api.Triple,fretwork/api.Triple]",by decide,sT func231⟩
  f14:=⟨ "slices.pdqsortCmpFunc[fretwork/api.Triple]",by decide,sT func265⟩
  f15:=sT func135
  f20:=⟨ "slices.insertionSortCmpFunc[fretwork/api.Triple]",by decide,sT func300⟩
  f21:=⟨ "slices.heapSortCmpFunc[fretwork/api.Triple]",by decide,sT func301⟩
  f22:=⟨ "slices.breakPatternsCmpFunc[fretwork/api.Triple]",by decide,sT func302⟩
  f23:=⟨ "slices.choosePivotCmpFunc[fretwork/api.Triple]",by decide,sT func303⟩
  f24:=⟨ "slices.reverseRangeCmpFunc[fretwork/api.Triple]",by decide,sT func304⟩
  f25:=⟨ "slices.partialInsertionSortCmpFunc[fretwork/api.Triple]",by decide,sT func305⟩
  f26:=⟨ "slices.partitionEqualCmpFunc[fretwork/api.Triple]",by decide,sT func306⟩
  f27:=⟨ "slices.partitionCmpFunc[fretwork/api.Triple]",by decide,sT func307⟩
  f28:=sT func177
  f29:=sT func178
  f46:=⟨ "slices.siftDownCmpFunc[fretwork/api.Triple]",by decide,sT func332⟩
  f47:=sT func219
  f48:=sT func220
  f49:=⟨ "slices.medianAdjacentCmpFunc[fretwork/api.Triple]",by decide,sT func333⟩
  f50:=⟨ "slices.medianCmpFunc[fretwork/api.Triple]",by decide,sT func334⟩
  f57:=⟨ "slices.order2CmpFunc[fretwork/api.Triple]",by decide,sT func354⟩
  t0:=underlying0
  a0:=isAgg0
  z0:=sizeOf0
  v0:=zeroValue0
  t3:=underlying3
  a3:=isAgg3
  z3:=sizeOf3
  v3:=zeroValue3
  t4:=underlying4
  a4:=isAgg4
  z4:=sizeOf4
  v4:=zeroValue4
  t5:=underlying5
  a5:=isAgg5
  z5:=sizeOf5
  v5:=zeroValue5
  t9:=underlying9
  a9:=isAgg9
  z9:=sizeOf9
  v9:=zeroValue9
  t22:=underlying236
  a22:=isAgg236
  z22:=sizeOf236
  v22:=zeroValue236
  t25:=underlying304
  a25:=isAgg304
  z25:=sizeOf304
  v25:=zeroValue304
  t39:=underlying86
  a39:=isAgg86
  z39:=sizeOf86
  v39:=zeroValue86
  t45:=underlying255
  a45:=isAgg255
  z45:=sizeOf255
  v45:=zeroValue255
  t46:=underlying256
  a46:=isAgg256
  z46:=sizeOf256
  v46:=zeroValue256
  t50:=underlying75
  a50:=isAgg75
  z50:=sizeOf75
  v50:=zeroValue75
  t53:=underlying166
  a53:=isAgg166
  z53:=sizeOf166
  v53:=zeroValue166
  t55:=underlying85
  a55:=isAgg85
  z55:=sizeOf85
  v55:=zeroValue85
  t66:=underlying288
  a66:=isAgg288
  z66:=sizeOf288
  v66:=zeroValue288
  t70:=underlying292
  a70:=isAgg292
  z70:=sizeOf292
  v70:=zeroValue292
  t76:=underlying343
  a76:=isAgg343
  z76:=sizeOf343
  v76:=zeroValue343
  t77:=underlying296
  a77:=isAgg296
  z77:=sizeOf296
  v77:=zeroValue296
end
end Go.Proofs.YtieniichmjgmcaaGreat
namespace Go.Fw
open Go Go.RowKit
section
variable {α:Type} {ok:α→Prop}
def Rd (P:Program) (t:TypeId) (El:EC α) (ok:α->Prop):Prop:=
 P.cellsOf t=El.sz∧∀ {H:Type} (enc:TypeId×Value->H) (w:World) (sp:Nat->Bool) (held:Bool) (h:Nat) (cs:List Value) (d:DataW H×List MemPlace),DataW.trod enc P w 0 sp held h t cs=some d->∃ y,El.rep (hp w) cs y∧ok y
variable {P:Program} {t e:TypeId}
theorem Rd.int {k:IntKind} (V:P.cellsOf t=1) (U:P.underlying t=some (.int k)) (h:∀ x:Int,([Value.int k x]:List Value).length=1∧NN [Value.int k x]=true):Rd P t (KO 1 (λx=>[.int k x]) h) (inR k):=
 ⟨V,λ_ _ _ _ _ _ _ h=>by have⟨n,J,_,O⟩:=DataW.trod_int U h; exact⟨n,J,O⟩⟩
theorem qX {R:Nat->α->Prop}:∀ n,(∀ i,i<n->∃ y,R i y)->∃ ys:List α,ys.length=n∧∀ i y,ys[i]? = some y->R i y
 | 0,_=>⟨[],rfl,λi y h=>by simp at h⟩
 | n+1,h=>by have⟨ys,D,_⟩:=qX n λi _=>h i (by omega);have⟨y,_⟩:=h n (by omega);refine⟨ys++[y],by simp[D],λi _ _=>?_⟩;grind
theorem AaE {w:World} {D n:Nat} {a:Addr} {cs:List Value} (h:w.cells? D a n=some cs):cs.length=n∧∀ j v,cs[j]? = some v->w.cell? (a.add j)=some v:=by
 unfold World.cells? at h;split at h
 . have U:=mapM_some_length h;refine⟨by simpa using U,λj v O=>?_⟩;have J:j<n:=by grind
   have:=mapM_some_get h j j (by simp[J]);rw[this,O]
 . cases h
theorem Ar7 {w:World} {b off:Nat} {cs:List Value} (h:∀ j v,cs[j]? = some v->w.cell? ⟨b,off+j,none⟩=some v) (J:cs≠[]):ImC (hp w) b off cs:=by
 cases cs with
 | nil=>exact absurd rfl J
 | cons u r=>
  have D:=h 0 u rfl;simp only[World.cell?] at D;split at D
  . rename_i c t U O;refine⟨c,t,U,O,λj v V=>?_⟩;have:=h j v V;simp only[World.cell?,O] at this;simpa using this
  . cases D
theorem Rd.slice {El:EC α} (hs:P.cellsOf t=1) (ht:P.underlying t=some (.slice e)) (h0:0<El.sz) (R:Rd P e El ok):Rd P t (Y7 El) (λxs=>(∀ x∈xs,ok x)∧xs.length<=maxLen):=by
 refine⟨hs,λenc w sp held _ cs _ a5=>?_⟩;rcases DataW.trod_slice ht a5 with⟨rfl,_⟩ | ⟨a,V,cap,D,d0,n,_,rfl,_,hb,c1,b1,c0,a9,_⟩
 . exact⟨[],⟨none,0,rfl,.nil _ _ _⟩,by simp,by simp⟩
 . have O:∀ i,i<V->∃ y:α,(∃ cs,w.cells? 0 (a.add (i*El.sz)) El.sz=some cs∧El.rep (hp w) cs y)∧ok y:=by
     intro i hi;have Z:=a9 i hi;rw[R.1] at Z;have he:D[i]? = some D[i]:=yQ (by omega);rw[he] at Z
     cases J:w.cells? 0 (a.add (i*El.sz)) El.sz with
     | none=>rw[J] at Z; cases Z
     | some cs=>
      rw[J] at Z;have⟨y,_,_⟩:=R.2 enc w sp held n cs _ Z;grind
   have⟨ys,a8,a2⟩:=qX V O;refine⟨ys,⟨some a,cap,by rw[a8],by omega,λi x h=>?_⟩,λx h=>?_,by omega⟩
   . have⟨⟨cs,hcs,hrep⟩,_⟩:=a2 i x h;have⟨b0,a4⟩:=AaE hcs;have a7:cs≠[]:=λe=>by subst e; simp at b0; omega
     have c2:i<V:=by grind
     -- the head of the slice is a place of its own
     have U:a.spot=none:=by
      have⟨_,⟨cs0,hc0,_⟩,_⟩:=O 0 (by omega);have⟨a6,a3⟩:=AaE hc0
      cases cs0 with
      | nil=>simp at a6; omega
      | cons u r=>
       have:=a3 0 u rfl;simp only[Ae0,Addr.add,if_true,World.cell?] at this;split at this
       all_goals simp_all
     refine⟨a.block,a.off,cs,by cases a; simp_all,Ar7 (λj v hj=>?_) a7,hrep⟩;have:=a4 j v hj
     have e1:(a.add (i*El.sz)).add j=⟨a.block,a.off+i*El.sz+j,none⟩:=by cases a;simp only at U;subst U;unfold Addr.add;grind
     rwa [e1] at this
   . have⟨i,hi⟩:=List.getElem?_of_mem h;exact(a2 i x hi).2
theorem bZ {H:Type} {enc:TypeId×Value->H} {w:World} {sp:Nat->Bool} {held:Bool} {D:Nat} {cs:List Value} {d:DataW H×List MemPlace} {J:Array Field} (O:P.underlying t=some (.struct J)) (h:DataW.trod enc P w 0 sp held D t cs=some d) :
  cs.length=P.cellsOf t∧∃ n,∀ (i:Nat) (f:Field),J[i]? = some f->∃ x,DataW.trod enc P w 0 sp held n f.type ((cs.drop f.offset).take (P.cellsOf f.type))=some x:=by
 have⟨_,n,_,_,U,_,_⟩:=DataW.trod_struct O h;refine⟨U,n,λi f _=>?_⟩;grind
theorem Rd.field {El:EC α} {T:TypeId} {H:Type} {enc:TypeId×Value->H} {w:World} {sp:Nat->Bool} {held:Bool} {n:Nat} {cs:List Value} {D:Array Field} (R:Rd P T El ok)
  (U:∀ (i:Nat) (f:Field),D[i]? = some f->∃ x,DataW.trod enc P w 0 sp held n f.type ((cs.drop f.offset).take (P.cellsOf f.type))=some x) (i:Nat) {f:Field} (hi:D[i]? = some f) (J:f.type=T) {off:Nat} (O:f.offset=off) :
  ∃ y,El.rep (hp w) ((cs.drop off).take El.sz) y∧ok y:=by
 subst J O;have⟨x,h⟩:=U i f hi;rw[R.1] at h;exact R.2 enc w sp held n _ _ h
def Au7 (P:Program) (t:TypeId):Bool:=match P.underlying t with
 | some (.struct _) | some (.array _ _)=>true
 | _=>false
variable {H:Type} {enc:TypeId×Value→H} {W:World} {sp:Nat→Bool} {held:Bool} {v:Value} {d:DataW H} {p:List MemPlace}
theorem Rd.arg {El:EC α} (R:Rd P t El ok) (O:Value.okWide P W .any 0 t v) (h:DataW.Trod enc P W 0 sp held t v d p) (D:Au7 P t=false):∃ y,El.rep (hp W) [v] y∧ok y:=by
 obtain ⟨J,h⟩:=h
 have U:v.cells.toList=[v]:=by
  unfold Value.okWide at O
  unfold Au7 at D
  cases v <;> try rfl
  exfalso
  cases V:P.underlying t with
  | none=>simp [V,Cell.okWide,Cell.ok] at O
  | some u=>cases u <;> simp [V,Cell.okWide,Cell.ok] at O D
 rw [U] at h
 exact R.2 enc W sp held J _ _ h
theorem Rd.argA {El:EC α} (R:Rd P t El ok) (V:Value.okWide P W .any 0 t v) (h:DataW.Trod enc P W 0 sp held t v d p) (J:Au7 P t=true):∃ cs y,v=.agg cs∧El.rep (hp W) cs.toList y∧ok y:=by
 have⟨D,h⟩:=h;unfold Value.okWide at V;unfold Au7 at J
 have:∃ cs,v=.agg cs:=by grind
 obtain⟨cs,rfl⟩:=this;have⟨y,O,U⟩:=R.2 enc W sp held D _ _ h;exact⟨cs,y,rfl,O,U⟩
theorem gF (Z:laidOutB P=true) {W V:World} (U:Below W.heap.size W V):∀ {ts:List TypeId} {vs:List Value} {O:List (DataW H)} {D:List MemPlace},(∀ t∈ts,P.readableRec t=true∧t<P.types.size) ->
  (∀ x∈D,x.block<W.heap.size)->DataW.TrodAll enc P W 0 (λ_=>true) true ts vs O D->DataW.TrodAll enc P V 0 (λb=>decide (b<W.heap.size)) true ts vs O D
 | [],[],[],_,_,_,h=>h
 | t :: ts,v :: vs,d :: O,D,hr,hlt,h=>by
  obtain⟨p,q,h1,h2,rfl⟩:=h;exact⟨p,q,Below.trod Z (hr t (by simp)).1 (hr t (by simp)).2 h1 U (λx J=>hlt x (by simp[J])),gF Z U (λt ht=>hr t (by simp[ht])) (λx J=>hlt x (by simp[J])) h2,rfl⟩
 | [],_ :: _,_,_,_,_,h=>h.elim
 | [],[],_ :: _,_,_,_,h=>h.elim
 | _ :: _,[],_,_,_,_,h=>h.elim
 | _ :: _,_ :: _,[],_,_,_,h=>h.elim
theorem cA {W:World} {sp:Nat->Bool} {held:Bool} {D:Nat}:∀ {ts:List TypeId} {vs:List Value} {J:List (DataW H)} {U:List MemPlace},DataW.TrodAll enc P W D sp held ts vs J U->J.length=ts.length
 | [],[],[],_,_=>rfl
 | _ :: _,_ :: _,_ :: _,_,h=>by have⟨_,_,_,O,_⟩:=h; simp[cA O]
 | [],_ :: _,_,_,h=>h.elim
 | [],[],_ :: _,_,h=>h.elim
 | _ :: _,[],_,_,h=>h.elim
 | _ :: _,_ :: _,[],_,h=>h.elim
def AwJ (P:Program) (ts:List TypeId):Bool:=ts.all λt=>P.readableRec t && decide (t<P.types.size)
theorem Ar8 {f:Func} {s:ChangeSpec} {W U:World} {args:Array Value} {J h:List (DataW H)} {a2:List MemPlace} {tb:TypeId} (hl:laidOutB P=true) (hr:AwJ P f.params.toList=true) (hT:f.resultTypes = #[tb]) (hB:P.underlying tb=some .bool)
   (V:s.vars=[]) (hs:∀ (J:List (DataW H)),J.length=f.params.toList.length->s.fn H J = { results:=[.lit (.bool true)],args:=J,vars:=[] }) (Z:DataW.Whole enc P f.params.toList s.vars false W args.toList J h a2) (hb:Below W.heap.size W U) :
   s.post enc P f false true false false W args (.bool true) U:=by
 have a5:=Z;have a7:=Z.lt;obtain⟨p,q,hA,D,rfl,_,_⟩:=Z;rw[V] at D
 have a6:h=[]∧q=[]:=by
   cases h with
   | nil=>exact⟨rfl,D⟩
   | cons=>exact D.elim
 obtain⟨rfl,rfl⟩:=a6;have a3:J.length=f.params.toList.length:=cA hA;have O:=hs J a3;refine⟨J,[],p++[],[],p,[],a5,?_,?_,?_,hb.frame _,λa4=>by cases a4⟩
 . rw[kD,O,hT];exact⟨[],[],shut_bool hB true,rfl,rfl⟩
 . rw[kD,O];refine gF hl hb (λt ht=>?_) (λx hx=>a7 x (by simp[hx])) hA;have:=List.all_eq_true.1 hr t ht;simpa using this
 . rw[kD,O,V];exact rfl
theorem AnE {g:FuncId} {vs:List Value} {φ:IH->Value->Prop} {W:World} (h:B3 P g vs (hp W) φ) {R:Ending->World->Prop} (J:∀ I v D,φ I v->Below W.heap.size W D->R (.returned v) D):Calls P g vs.toArray W R:=by refine(h W (λ_=>none) (IH.le.refl _) trivial (λ_ _ x=>nomatch x) (λ_=>.inr rfl)).mono λ_ w' O=>?_;obtain⟨v,V,_,rfl,_,⟨_,hψ⟩,hs⟩:=O;exact J V v w' hψ ⟨hs.base.os,hs.base.tape,hs.base.output,hs.base.size,λb U=>hs.base.block b U (by simp)⟩
end
end Go.Fw
namespace Go.Proofs.YtieniichmjgmcaaGreat
open Tryz
open Go Go.Fw
theorem RD3:Rd prog 3 B0 (inR .i64):=Rd.int (by kernel_rfl) underlying3 _
theorem RD2:Rd prog 2 B0 (inR .i64):=Rd.int (by kernel_rfl) underlying2 _
theorem Az6:Rd prog 73 CA AhO:=by
  refine⟨by kernel_rfl,λenc w sp held fuel cs d h=>?_⟩;have⟨hl,n,hf⟩:=bZ underlying73 h;have hl:cs.length=3:=hl.trans (by kernel_rfl);have⟨x0,h0,k0⟩:=Rd.field RD3 hf 0 rfl rfl (off:=0) rfl;have⟨x1,h1,k1⟩:=Rd.field RD3 hf 1 rfl rfl (off:=1) rfl;have⟨x2,h2,k2⟩:=Rd.field RD2 hf 2 rfl rfl (off:=2) rfl
  obtain⟨c0,c1,c2,rfl⟩:∃ c0 c1 c2,cs=[c0,c1,c2]:=by
    match cs,hl with
    | [c0,c1,c2],_=>exact⟨c0,c1,c2,rfl⟩
  have e0:[c0]=[Value.int .i64 x0]:=h0;simp only[List.cons.injEq,and_true] at e0;obtain rfl:=e0;have e1:[c1]=[Value.int .i64 x1]:=h1;simp only[List.cons.injEq,and_true] at e1;obtain rfl:=e1;have e2:[c2]=[Value.int .i64 x2]:=h2;simp only[List.cons.injEq,and_true] at e2;obtain rfl:=e2;exact⟨{ From:=x0,To:=x1,W:=x2 },rfl,k0,k1,k2⟩
theorem Az7:Rd prog 22 (Y7 CA) (λxs=>(∀ x∈xs,AhO x)∧xs.length<=maxLen):=Rd.slice (by kernel_rfl) underlying22 (by decide) Az6
theorem Az8:Rd prog 24 Aw1 AkC:=by
  refine⟨by kernel_rfl,λenc w sp held fuel cs d h=>?_⟩;have⟨hl,n,hf⟩:=bZ underlying24 h;have hl:cs.length=2:=hl.trans (by kernel_rfl);have⟨x0,h0,k0⟩:=Rd.field RD3 hf 0 rfl rfl (off:=0) rfl;have⟨x1,h1,k1⟩:=Rd.field Az7 hf 1 rfl rfl (off:=1) rfl
  obtain⟨c0,c1,rfl⟩:∃ c0 c1,cs=[c0,c1]:=by
    match cs,hl with
    | [c0,c1],_=>exact⟨c0,c1,rfl⟩
  have e0:[c0]=[Value.int .i64 x0]:=h0;simp only[List.cons.injEq,and_true] at e0;obtain rfl:=e0;have⟨a1_0,b1_0,e1,R1_0⟩:=h1;have e1:[c1]=[Value.slice a1_0 x1.length b1_0]:=e1;simp only[List.cons.injEq,and_true] at e1;obtain rfl:=e1;exact⟨{ N:=x0,Edges:=x1 },⟨_,_,rfl,R1_0⟩,k0,k1⟩
theorem RD5:Rd prog 5 eU8 (inR .u8):=Rd.int (by kernel_rfl) underlying5 _
theorem Az9:Rd prog 26 AeG YQ:=by
  refine⟨by kernel_rfl,λenc w sp held fuel cs d h=>?_⟩;have⟨hl,n,hf⟩:=bZ underlying26 h;have hl:cs.length=5:=hl.trans (by kernel_rfl);have⟨x0,h0,k0⟩:=Rd.field Az8 hf 0 rfl rfl (off:=0) rfl;have⟨x1,h1,k1⟩:=Rd.field RD3 hf 1 rfl rfl (off:=2) rfl;have⟨x2,h2,k2⟩:=Rd.field RD5 hf 2 rfl rfl (off:=3) rfl;have⟨x3,h3,k3⟩:=Rd.field RD5 hf 3 rfl rfl (off:=4) rfl
  obtain⟨c0,c1,c2,c3,c4,rfl⟩:∃ c0 c1 c2 c3 c4,cs=[c0,c1,c2,c3,c4]:=by
    match cs,hl with
    | [c0,c1,c2,c3,c4],_=>exact⟨c0,c1,c2,c3,c4,rfl⟩
  have⟨a0_0,b0_0,e0,R0_0⟩:=h0;have e0:[c0,c1]=[Value.int .i64 x0.N,Value.slice a0_0 x0.Edges.length b0_0]:=e0;simp only[List.cons.injEq,and_true] at e0;obtain⟨rfl,rfl⟩:=e0;have e1:[c2]=[Value.int .i64 x1]:=h1;simp only[List.cons.injEq,and_true] at e1;obtain rfl:=e1;have e2:[c3]=[Value.int .u8 x2]:=h2;simp only[List.cons.injEq,and_true] at e2;obtain rfl:=e2;have e3:[c4]=[Value.int .u8 x3]:=h3;simp only[List.cons.injEq,and_true] at e3;obtain rfl:=e3;exact⟨{ G:=x0,V:=x1,R:=x2,C:=x3 },⟨_,_,rfl,R0_0⟩,k0,k1,k2,k3⟩
theorem AzA:Rd prog 27 (Y7 B0) (λxs=>(∀ x∈xs,(inR .i64) x)∧xs.length<=maxLen):=Rd.slice (by kernel_rfl) underlying27 (by decide) RD2
end Go.Proofs.YtieniichmjgmcaaGreat
