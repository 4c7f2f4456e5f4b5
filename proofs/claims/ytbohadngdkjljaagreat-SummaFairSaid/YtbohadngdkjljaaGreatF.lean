/- Closed facts of the program (printed by a program of ours). -/
import Derived.Test.YtbohadngdkjljaaGreatT
import Derived.Test.YtbohadngdkjljaaGreatFwL
import Derived.Test.YtbohadngdkjljaaGreatChecked
import Derived.Laws.StructEq
import Derived.KernelRfl
namespace Go.Proofs.YtbohadngdkjljaaGreat
open Go Go.Fw
set_option linter.unusedVariables false
set_option linter.unusedSimpArgs false
set_option maxRecDepth 8000
set_option maxHeartbeats 1000000
theorem MX:Tryz.prog.follows .mixedOrders=true:=by kernel_rfl
abbrev tbP:List (Nat×List Nat):=[(24,[0,1]),(28,[0,1]),(33,[0,1,2,3,4]),(40,[0,1,6,11,16,17,18]),(47,[0,1,2,3]),(49,[0,1,2]),(56,[0,1,4,5,6]),(58,[0,7,8,9]),(85,[0,2,3,4]),(103,[0,1,2]),(112,[0,1]),(121,[0,19,20,21]),(127,[0,1,2,7,8,9,10]),(129,[0,1,2,3]),(134,[0,19,20,21]),(139,[0,1,2,7,8,9,10,11,12,13]),(157,[0,1]),(161,[0,1,2]),(183,[0,1,3,4,5,6,7]),(193,[0,1]),(196,[0,1,2,3,4,5,7,8,9,10]),(199,[0,1,2,3]),(213,[0,1,2,3,4,5])]
theorem wP:AllOk Tryz.prog tbP:=
 ⟨⟨⟨_,_,_,Tryz.underlying24,rfl,Tryz.sizeOf3,rfl⟩,⟨_,_,_,Tryz.underlying24,rfl,Tryz.sizeOf22,rfl⟩,trivial⟩,⟨⟨_,_,_,Tryz.underlying28,rfl,Tryz.sizeOf26,rfl⟩,⟨_,_,_,Tryz.underlying28,rfl,Tryz.sizeOf5,rfl⟩,trivial⟩,⟨⟨_,_,_,Tryz.underlying33,rfl,Tryz.sizeOf3,rfl⟩,⟨_,_,_,Tryz.underlying33,rfl,Tryz.sizeOf3,rfl⟩,⟨_,_,_,Tryz.underlying33,rfl,Tryz.sizeOf30,rfl⟩,⟨_,_,_,Tryz.underlying33,rfl,Tryz.sizeOf30,rfl⟩,⟨_,_,_,Tryz.underlying33,rfl,Tryz.sizeOf31,rfl⟩,trivial⟩,⟨⟨_,_,_,Tryz.underlying40,rfl,Tryz.sizeOf37,rfl⟩,⟨_,_,_,Tryz.underlying40,rfl,Tryz.sizeOf33,rfl⟩,⟨_,_,_,Tryz.underlying40,rfl,Tryz.sizeOf33,rfl⟩,⟨_,_,_,Tryz.underlying40,rfl,Tryz.sizeOf33,rfl⟩,⟨_,_,_,Tryz.underlying40,rfl,Tryz.sizeOf3,rfl⟩,⟨_,_,_,Tryz.underlying40,rfl,Tryz.sizeOf3,rfl⟩,⟨_,_,_,Tryz.underlying40,rfl,Tryz.sizeOf3,rfl⟩,trivial⟩,⟨⟨_,_,_,Tryz.underlying47,rfl,Tryz.sizeOf45,rfl⟩,⟨_,_,_,Tryz.underlying47,rfl,Tryz.sizeOf3,rfl⟩,⟨_,_,_,Tryz.underlying47,rfl,Tryz.sizeOf3,rfl⟩,⟨_,_,_,Tryz.underlying47,rfl,Tryz.sizeOf3,rfl⟩,trivial⟩,⟨⟨_,_,_,Tryz.underlying49,rfl,Tryz.sizeOf3,rfl⟩,⟨_,_,_,Tryz.underlying49,rfl,Tryz.sizeOf3,rfl⟩,⟨_,_,_,Tryz.underlying49,rfl,Tryz.sizeOf2,rfl⟩,trivial⟩,⟨⟨_,_,_,Tryz.underlying56,rfl,Tryz.sizeOf37,rfl⟩,⟨_,_,_,Tryz.underlying56,rfl,Tryz.sizeOf53,rfl⟩,⟨_,_,_,Tryz.underlying56,rfl,Tryz.sizeOf54,rfl⟩,⟨_,_,_,Tryz.underlying56,rfl,Tryz.sizeOf54,rfl⟩,⟨_,_,_,Tryz.underlying56,rfl,Tryz.sizeOf54,rfl⟩,trivial⟩,⟨⟨_,_,_,Tryz.underlying58,rfl,Tryz.sizeOf56,rfl⟩,⟨_,_,_,Tryz.underlying58,rfl,Tryz.sizeOf5,rfl⟩,⟨_,_,_,Tryz.underlying58,rfl,Tryz.sizeOf5,rfl⟩,⟨_,_,_,Tryz.underlying58,rfl,Tryz.sizeOf5,rfl⟩,trivial⟩,⟨⟨_,_,_,Tryz.underlying85,rfl,Tryz.sizeOf24,rfl⟩,⟨_,_,_,Tryz.underlying85,rfl,Tryz.sizeOf3,rfl⟩,⟨_,_,_,Tryz.underlying85,rfl,Tryz.sizeOf5,rfl⟩,⟨_,_,_,Tryz.underlying85,rfl,Tryz.sizeOf5,rfl⟩,trivial⟩,⟨⟨_,_,_,Tryz.underlying103,rfl,Tryz.sizeOf3,rfl⟩,⟨_,_,_,Tryz.underlying103,rfl,Tryz.sizeOf3,rfl⟩,⟨_,_,_,Tryz.underlying103,rfl,Tryz.sizeOf2,rfl⟩,trivial⟩,⟨⟨_,_,_,Tryz.underlying112,rfl,Tryz.sizeOf3,rfl⟩,⟨_,_,_,Tryz.underlying112,rfl,Tryz.sizeOf2,rfl⟩,trivial⟩,⟨⟨_,_,_,Tryz.underlying121,rfl,Tryz.sizeOf40,rfl⟩,⟨_,_,_,Tryz.underlying121,rfl,Tryz.sizeOf116,rfl⟩,⟨_,_,_,Tryz.underlying121,rfl,Tryz.sizeOf119,rfl⟩,⟨_,_,_,Tryz.underlying121,rfl,Tryz.sizeOf118,rfl⟩,trivial⟩,⟨⟨_,_,_,Tryz.underlying127,rfl,Tryz.sizeOf3,rfl⟩,⟨_,_,_,Tryz.underlying127,rfl,Tryz.sizeOf3,rfl⟩,⟨_,_,_,Tryz.underlying127,rfl,Tryz.sizeOf33,rfl⟩,⟨_,_,_,Tryz.underlying127,rfl,Tryz.sizeOf125,rfl⟩,⟨_,_,_,Tryz.underlying127,rfl,Tryz.sizeOf124,rfl⟩,⟨_,_,_,Tryz.underlying127,rfl,Tryz.sizeOf3,rfl⟩,⟨_,_,_,Tryz.underlying127,rfl,Tryz.sizeOf76,rfl⟩,trivial⟩,⟨⟨_,_,_,Tryz.underlying129,rfl,Tryz.sizeOf3,rfl⟩,⟨_,_,_,Tryz.underlying129,rfl,Tryz.sizeOf3,rfl⟩,⟨_,_,_,Tryz.underlying129,rfl,Tryz.sizeOf3,rfl⟩,⟨_,_,_,Tryz.underlying129,rfl,Tryz.sizeOf3,rfl⟩,trivial⟩,⟨⟨_,_,_,Tryz.underlying134,rfl,Tryz.sizeOf40,rfl⟩,⟨_,_,_,Tryz.underlying134,rfl,Tryz.sizeOf116,rfl⟩,⟨_,_,_,Tryz.underlying134,rfl,Tryz.sizeOf131,rfl⟩,⟨_,_,_,Tryz.underlying134,rfl,Tryz.sizeOf132,rfl⟩,trivial⟩,⟨⟨_,_,_,Tryz.underlying139,rfl,Tryz.sizeOf3,rfl⟩,⟨_,_,_,Tryz.underlying139,rfl,Tryz.sizeOf3,rfl⟩,⟨_,_,_,Tryz.underlying139,rfl,Tryz.sizeOf33,rfl⟩,⟨_,_,_,Tryz.underlying139,rfl,Tryz.sizeOf125,rfl⟩,⟨_,_,_,Tryz.underlying139,rfl,Tryz.sizeOf136,rfl⟩,⟨_,_,_,Tryz.underlying139,rfl,Tryz.sizeOf136,rfl⟩,⟨_,_,_,Tryz.underlying139,rfl,Tryz.sizeOf137,rfl⟩,⟨_,_,_,Tryz.underlying139,rfl,Tryz.sizeOf137,rfl⟩,⟨_,_,_,Tryz.underlying139,rfl,Tryz.sizeOf3,rfl⟩,⟨_,_,_,Tryz.underlying139,rfl,Tryz.sizeOf76,rfl⟩,trivial⟩,⟨⟨_,_,_,Tryz.underlying157,rfl,Tryz.sizeOf2,rfl⟩,⟨_,_,_,Tryz.underlying157,rfl,Tryz.sizeOf155,rfl⟩,trivial⟩,⟨⟨_,_,_,Tryz.underlying161,rfl,Tryz.sizeOf3,rfl⟩,⟨_,_,_,Tryz.underlying161,rfl,Tryz.sizeOf3,rfl⟩,⟨_,_,_,Tryz.underlying161,rfl,Tryz.sizeOf157,rfl⟩,trivial⟩,⟨⟨_,_,_,Tryz.underlying183,rfl,Tryz.sizeOf37,rfl⟩,⟨_,_,_,Tryz.underlying183,rfl,Tryz.sizeOf25,rfl⟩,⟨_,_,_,Tryz.underlying183,rfl,Tryz.sizeOf54,rfl⟩,⟨_,_,_,Tryz.underlying183,rfl,Tryz.sizeOf109,rfl⟩,⟨_,_,_,Tryz.underlying183,rfl,Tryz.sizeOf109,rfl⟩,⟨_,_,_,Tryz.underlying183,rfl,Tryz.sizeOf181,rfl⟩,⟨_,_,_,Tryz.underlying183,rfl,Tryz.sizeOf4,rfl⟩,trivial⟩,⟨⟨_,_,_,Tryz.underlying193,rfl,Tryz.sizeOf3,rfl⟩,⟨_,_,_,Tryz.underlying193,rfl,Tryz.sizeOf109,rfl⟩,trivial⟩,⟨⟨_,_,_,Tryz.underlying196,rfl,Tryz.sizeOf191,rfl⟩,⟨_,_,_,Tryz.underlying196,rfl,Tryz.sizeOf3,rfl⟩,⟨_,_,_,Tryz.underlying196,rfl,Tryz.sizeOf3,rfl⟩,⟨_,_,_,Tryz.underlying196,rfl,Tryz.sizeOf3,rfl⟩,⟨_,_,_,Tryz.underlying196,rfl,Tryz.sizeOf3,rfl⟩,⟨_,_,_,Tryz.underlying196,rfl,Tryz.sizeOf193,rfl⟩,⟨_,_,_,Tryz.underlying196,rfl,Tryz.sizeOf194,rfl⟩,⟨_,_,_,Tryz.underlying196,rfl,Tryz.sizeOf54,rfl⟩,⟨_,_,_,Tryz.underlying196,rfl,Tryz.sizeOf2,rfl⟩,⟨_,_,_,Tryz.underlying196,rfl,Tryz.sizeOf4,rfl⟩,trivial⟩,⟨⟨_,_,_,Tryz.underlying199,rfl,Tryz.sizeOf3,rfl⟩,⟨_,_,_,Tryz.underlying199,rfl,Tryz.sizeOf3,rfl⟩,⟨_,_,_,Tryz.underlying199,rfl,Tryz.sizeOf3,rfl⟩,⟨_,_,_,Tryz.underlying199,rfl,Tryz.sizeOf125,rfl⟩,trivial⟩,⟨⟨_,_,_,Tryz.underlying213,rfl,Tryz.sizeOf3,rfl⟩,⟨_,_,_,Tryz.underlying213,rfl,Tryz.sizeOf30,rfl⟩,⟨_,_,_,Tryz.underlying213,rfl,Tryz.sizeOf210,rfl⟩,⟨_,_,_,Tryz.underlying213,rfl,Tryz.sizeOf211,rfl⟩,⟨_,_,_,Tryz.underlying213,rfl,Tryz.sizeOf3,rfl⟩,⟨_,_,_,Tryz.underlying213,rfl,Tryz.sizeOf3,rfl⟩,trivial⟩,trivial⟩
section
variable {n:FrK} {E E1 E' E2:DE} {S:World→Prop} {Q Q':Exit→Act→World→Prop} {ops:Array Oper} {l l' l2:List Oper} {z:Code} {id:Nat}
theorem _root_.Go.Fw.Ops.ks (j:Nat) (h:gU tbP ops n j l E=some (l',E')) (g:Ops Tryz.prog ops l' n E' S Q):Ops Tryz.prog ops l n E S Q:=.ksT wP j h g
theorem _root_.Go.Fw.Ops.nk (ks:List Nat) (j:Nat) (h:(UP ks E [],(fun a w=>Q .normal a w),gU tbP l2.toArray n j l2 E')=(some E',(fun a w=>(Code.seq (.region id l2.toArray false) z).wpIn (QY n) 0 Tryz.prog Q' a w),some (l',E2))) (g:Ops Tryz.prog l2.toArray l' n E2 S (Exit.then (z.wpIn (QY n) 0 Tryz.prog Q') Q')):Ops Tryz.prog ops [] n E S Q:=.nkT wP ks j h g
theorem _root_.Go.Fw.Cod.sk (j:Nat) (h:gU tbP l.toArray n j l E=some (l',E')) (g:Ops Tryz.prog l.toArray l' n E' S (Exit.then (z.wpIn (QY n) 0 Tryz.prog Q) Q)):Cod Tryz.prog (.seq (.region id l.toArray false) z) n E S Q:=.skT wP j h g
theorem _root_.Go.Fw.Ops.kn (j:Nat) (ks:List Nat) (h:(gU tbP ops n j l E,UP ks E1 [],fun a w=>Q .normal a w)=(some ([],E1),some E',fun a w=>z.wpIn (QY n) 0 Tryz.prog Q' a w)) (g:Cod Tryz.prog z n E' S Q'):Ops Tryz.prog ops l n E S Q:=.knT wP j ks h g
variable {w0:World} {M:Nat→Prop} {I0 I:IH} {cs cs':List (Option Nat)} {dn dn':HH} {X X' pend pd':List Nat} {asn:List AS} {L:Sh} {Sd:List HA→World→Prop} {g fs:List Nat} {A B:List (Option (Nat×Value))}
theorem _root_.Go.Fw.DrawD.fk (k:Nat) (h:yP tbP ops n E k cs dn X pend=some (cs',dn',X',pd')) (kk:DrawD Tryz.prog ops n Q w0 M I0 E cs' dn' X' pd' asn I L):DrawD Tryz.prog ops n Q w0 M I0 E cs dn X pend asn I L:=.fkT wP k h kk
theorem _root_.Go.Fw.PendL.ck (k:Nat) (h:yR tbP ops n E dn k fs=some (g,A,B)) (hAB:A=B) (kk:PendL Tryz.prog ops n E dn Sd g):PendL Tryz.prog ops n E dn Sd fs:=.ckT wP k h hAB kk
end
theorem IN2:Tryz.prog.info? 2=some Tryz.t2:=by kernel_rfl
theorem IN3:Tryz.prog.info? 3=some Tryz.t3:=by kernel_rfl
theorem Ae1:Tryz.prog.info? 33=some Tryz.t33:=by kernel_rfl
theorem FT:(Tryz.prog.fieldsOf 33).toList.all (fun f=>(Tryz.prog.info? f.type).isSome)=true:=by kernel_rfl
theorem AbH:(Tryz.prog.fieldsOf 40).toList.all (fun f=>(Tryz.prog.info? f.type).isSome)=true:=by kernel_rfl
theorem Ae2:(Tryz.prog.fieldsOf 47).toList.all (fun f=>(Tryz.prog.info? f.type).isSome)=true:=by kernel_rfl
theorem Ae3:Tryz.prog.info? 49=some Tryz.t49:=by kernel_rfl
theorem Ad5:(Tryz.prog.fieldsOf 49).toList.all (fun f=>(Tryz.prog.info? f.type).isSome)=true:=by kernel_rfl
theorem ZF:Tryz.prog.info? 103=some Tryz.t103:=by kernel_rfl
theorem ZG:(Tryz.prog.fieldsOf 103).toList.all (fun f=>(Tryz.prog.info? f.type).isSome)=true:=by kernel_rfl
theorem yX:Tryz.prog.info? 112=some Tryz.t112:=by kernel_rfl
theorem AcT:(Tryz.prog.fieldsOf 112).toList.all (fun f=>(Tryz.prog.info? f.type).isSome)=true:=by kernel_rfl
theorem Ae4:(Tryz.prog.fieldsOf 121).toList.all (fun f=>(Tryz.prog.info? f.type).isSome)=true:=by kernel_rfl
theorem Ae5:Tryz.prog.info? 122=some Tryz.t122:=by kernel_rfl
theorem Ae6:(Tryz.prog.fieldsOf 127).toList.all (fun f=>(Tryz.prog.info? f.type).isSome)=true:=by kernel_rfl
theorem Ae7:Tryz.prog.info? 129=some Tryz.t129:=by kernel_rfl
theorem Ae8:(Tryz.prog.fieldsOf 129).toList.all (fun f=>(Tryz.prog.info? f.type).isSome)=true:=by kernel_rfl
theorem Ae9:Tryz.prog.info? 157=some Tryz.t157:=by kernel_rfl
theorem KU:(Tryz.prog.fieldsOf 157).toList.all (fun f=>(Tryz.prog.info? f.type).isSome)=true:=by kernel_rfl
theorem kS:Tryz.prog.info? 161=some Tryz.t161:=by kernel_rfl
theorem yY:(Tryz.prog.fieldsOf 161).toList.all (fun f=>(Tryz.prog.info? f.type).isSome)=true:=by kernel_rfl
theorem yZ:(Tryz.prog.fieldsOf 183).toList.all (fun f=>(Tryz.prog.info? f.type).isSome)=true:=by kernel_rfl
theorem AeA:Tryz.prog.info? 196=some Tryz.t196:=by kernel_rfl
theorem pR:(Tryz.prog.fieldsOf 196).toList.all (fun f=>(Tryz.prog.info? f.type).isSome)=true:=by kernel_rfl
theorem gY:(Tryz.prog.fieldsOf 206).toList.all (fun f=>(Tryz.prog.info? f.type).isSome)=true:=by kernel_rfl
theorem AeB:(Tryz.prog.fieldsOf 213).toList.all (fun f=>(Tryz.prog.info? f.type).isSome)=true:=by kernel_rfl
theorem AeC:Tryz.prog.info? 289=some Tryz.t289:=by kernel_rfl
theorem kT (x y:AN) (w:World):(Op.equal 157 (.agg (EH x).toArray) (.agg (EH y).toArray)).run Tryz.prog w=.ok (x==y) w:=by
  refine Eq.trans ((eqS (k:=9999) Tryz.underlying157 (by kernel_rfl) (eqC (by decide) Tryz.isAgg2 rfl rfl (eqI (k:=9998) Tryz.underlying2) (eqC (by decide) Tryz.isAgg155 rfl rfl (eqI (k:=9998) Tryz.underlying155) eqN))) w) (congrArg (fun b=>Result.ok b w) (Bool.eq_iff_iff.2 ?_))
  obtain ⟨x_0,x_1⟩:=x; obtain ⟨y_0,y_1⟩:=y
  simp [and_assoc]
theorem kU (o:BinOp) (x y:Operand) (u v:Array Value) (w:World):(eqGuard o 157 x y (.agg u) (.agg v)).run Tryz.prog w=.ok () w:=run_eqGuard_agg w o 157 x y u v (by kernel_rfl)
theorem AeD (x y:BC) (w:World):(Op.equal 206 (.agg (UB x).toArray) (.agg (UB y).toArray)).run Tryz.prog w=.ok (x==y) w:=by
  refine Eq.trans ((eqS (k:=9999) Tryz.underlying206 (by kernel_rfl) (eqC (by decide) Tryz.isAgg191 rfl rfl (eqI (k:=9998) Tryz.underlying191) (eqC (by decide) Tryz.isAgg3 rfl rfl (eqI (k:=9998) Tryz.underlying3) eqN))) w) (congrArg (fun b=>Result.ok b w) (Bool.eq_iff_iff.2 ?_))
  obtain ⟨x_0,x_1⟩:=x; obtain ⟨y_0,y_1⟩:=y
  simp [and_assoc]
theorem IX3:Tryz.prog.info? 3=some Tryz.t3:=by kernel_rfl
theorem ZH:XB Tryz.prog 169 CJ:=Ab9 Tryz.underlying169 IX3 Tryz.underlying3 (by kernel_rfl) Tryz.isAgg3 Tryz.sizeOf3
theorem kV:XB Tryz.prog 206 FC:=AbE (fun _=>rfl) Tryz.underlying206 Tryz.underlying191 Tryz.underlying3 rfl rfl Tryz.isAgg191 Tryz.isAgg3 (fun k x w=>AeD k x w)
abbrev bK (Q:Bool→Prop):Value→Prop:=fun v=>∃ r,v=.bool r∧Q r
abbrev sE (Q:AN→Prop):Value→Prop:=fun v=>∃ r,v=.agg (EH r).toArray∧Q r
abbrev gZ (Q:Int→Prop):Value→Prop:=fun v=>∃ r,v=.int .i64 r∧Q r
abbrev o3_ (Q:(Int×Bool)→Prop):Value→Prop:=fun v=>∃ r,v=.tuple #[.int .i64 r.1,.bool r.2]∧Q r
abbrev o6_ (Q:Rows→Prop):Value→List HA→Prop:=fun v l=>∃ r p1 c2 p4 c5 p7 c8,v=.agg #[.int .i64 r.Rows,.int .i64 r.Cols,.slice p1 r.Start.length c2,.slice p4 r.Col.length c5,.slice p7 r.Val.length c8]∧l=[OwnSl AE 3 p1 c2 r.Start,OwnSl AE 3 p4 c5 r.Col,OwnSl AE 2 p7 c8 r.Val]∧Q r
abbrev o7_ (Q:Rows→Prop):IH→Value→Prop:=fun I_ v=>∃ r p4 c5 p7 c8 p10 c11,v=.agg #[.int .i64 r.Rows,.int .i64 r.Cols,.slice p4 r.Start.length c5,.slice p7 r.Col.length c8,.slice p10 r.Val.length c11]∧RepSl AE I_ p4 c5 r.Start∧RepSl AE I_ p7 c8 r.Col∧RepSl AE I_ p10 c11 r.Val∧Q r
abbrev o8_ (Q:(Rows×Int)→Prop):IH→Value→Prop:=fun I_ v=>∃ r p4 c5 p7 c8 p10 c11,v=.tuple #[.agg #[.int .i64 r.1.Rows,.int .i64 r.1.Cols,.slice p4 r.1.Start.length c5,.slice p7 r.1.Col.length c8,.slice p10 r.1.Val.length c11],.int .i64 r.2]∧RepSl AE I_ p4 c5 r.1.Start∧RepSl AE I_ p7 c8 r.1.Col∧RepSl AE I_ p10 c11 r.1.Val∧Q r
abbrev o9_ (Q:Rows→Prop):IH→Value→Prop:=fun I_ v=>∃ r p1 c2 p4 c5 p7 c8,v=.agg #[.int .i64 r.Rows,.int .i64 r.Cols,.slice p1 r.Start.length c2,.slice p4 r.Col.length c5,.slice p7 r.Val.length c8]∧RepSl AE I_ p1 c2 r.Start∧RepSl AE I_ p4 c5 r.Col∧RepSl AE I_ p7 c8 r.Val∧Q r
abbrev AeZ (Q:(List BE)→Prop):IH→Value→Prop:=fun I_ v=>∃ r p1 c2,v=.slice p1 r.length c2∧RepSl BU I_ p1 c2 r∧Q r
abbrev AbI (Q:Rows→Prop):IH→Value→Prop:=fun I_ v=>∃ r p10 c11 p13 c14 p16 c17,v=.agg #[.int .i64 r.Rows,.int .i64 r.Cols,.slice p10 r.Start.length c11,.slice p13 r.Col.length c14,.slice p16 r.Val.length c17]∧RepSl AE I_ p10 c11 r.Start∧RepSl AE I_ p13 c14 r.Col∧RepSl AE I_ p16 c17 r.Val∧Q r
abbrev Af0 (Q:(Int×Int)→Prop):Value→Prop:=fun v=>∃ r,v=.tuple #[.int .i64 r.1,.int .i64 r.2]∧Q r
abbrev AeE (Q:((List Int)×(List Int))→Prop):IH→Value→Prop:=fun I_ v=>∃ r p10 c11 p13 c14,v=.tuple #[.slice p10 r.1.length c11,.slice p13 r.2.length c14]∧RepSl AE I_ p10 c11 r.1∧RepSl AE I_ p13 c14 r.2∧Q r
abbrev AeF (Q:(List CE)→Prop):IH→Value→Prop:=fun I_ v=>∃ r p10 c11,v=.slice p10 r.length c11∧RepSl MH I_ p10 c11 r∧Q r
abbrev AeG (Q:(Int×Int)→Prop):Value→Prop:=fun v=>∃ r,v=.agg #[.int .i64 r.1,.int .i64 r.2]∧Q r
abbrev AeH (Q:(List AC)→Prop):IH→Value→Prop:=fun I_ v=>∃ r p10 c11,v=.slice p10 r.length c11∧RepSl AW I_ p10 c11 r∧Q r
abbrev AeI (Q:(List AC)→Prop):IH→Value→Prop:=fun I_ v=>∃ r p4 c5,v=.slice p4 r.length c5∧RepSl AW I_ p4 c5 r∧Q r
abbrev Af1 (Q:BP→Prop):IH→Value→Prop:=fun I_ v=>∃ r p10 c11 p13 c14 p16 c17,v=.agg #[.int .i64 r.Kind,.int .i64 r.From,.int .i64 r.To,.int .i64 r.Seq,.int .i64 r.Round,.int .i64 r.Vec.N,.slice p10 r.Vec.Items.length c11,.slice p13 r.Sums.length c14,.slice p16 r.Triples.length c17,.int .i64 r.N,.bool r.Over]∧RepSl MH I_ p10 c11 r.Vec.Items∧RepSl dJ I_ p13 c14 r.Sums∧RepSl AW I_ p16 c17 r.Triples∧Q r
abbrev AeJ (Q:Int→Prop):Value→Prop:=fun v=>∃ r,v=.int .u64 r∧Q r
abbrev AeK (Q:((List AK)×Int)→Prop):IH→Value→Prop:=fun I_ v=>∃ r p28 c29,v=.tuple #[.slice p28 r.1.length c29,.int .i64 r.2]∧RepSl CD I_ p28 c29 r.1∧Q r
abbrev Af2 (Q:((List AK)×Int)→Prop):IH→Value→Prop:=fun I_ v=>∃ r p4 c5,v=.tuple #[.slice p4 r.1.length c5,.int .i64 r.2]∧RepSl CD I_ p4 c5 r.1∧Q r
abbrev Af3 (Q:(Rows×Bool×Int)→Prop):IH→Value→Prop:=fun I_ v=>∃ r p31 c32 p34 c35 p37 c38,v=.tuple #[.agg #[.int .i64 r.1.Rows,.int .i64 r.1.Cols,.slice p31 r.1.Start.length c32,.slice p34 r.1.Col.length c35,.slice p37 r.1.Val.length c38],.bool r.2.1,.int .i64 r.2.2]∧RepSl AE I_ p31 c32 r.1.Start∧RepSl AE I_ p34 c35 r.1.Col∧RepSl AE I_ p37 c38 r.1.Val∧Q r
abbrev kW:=@Tryz.underlying2
abbrev YX:=@Tryz.underlying3
abbrev un5:=@Tryz.underlying5
abbrev PQ:=@Tryz.underlying22
abbrev wQ:=@Tryz.underlying25
abbrev pS:=@Tryz.underlying26
abbrev BW:=@Tryz.underlying30
abbrev OR:=@Tryz.underlying31
abbrev FF:=@Tryz.underlying33
abbrev AbJ:=@Tryz.underlying40
abbrev AeL:=@Tryz.underlying47
abbrev Ad6:=@Tryz.underlying49
abbrev wR:=@Tryz.underlying53
abbrev EE:=@Tryz.underlying54
abbrev dK:=@Tryz.underlying60
abbrev DD:=@Tryz.underlying76
abbrev ZI:=@Tryz.underlying103
abbrev SI:=@Tryz.underlying109
abbrev hG:=@Tryz.underlying113
abbrev ZJ:=@Tryz.underlying116
abbrev eV:=@Tryz.underlying118
abbrev QG:=@Tryz.underlying119
abbrev kX:=@Tryz.underlying124
abbrev bL:=@Tryz.underlying125
abbrev bM:=@Tryz.underlying146
abbrev MN:=@Tryz.underlying155
abbrev KV:=@Tryz.underlying157
abbrev PR:=@Tryz.underlying169
abbrev uW:=@Tryz.underlying194
abbrev pT:=@Tryz.underlying196
abbrev hU:=@Tryz.underlying200
abbrev hZ:=@Tryz.underlying206
abbrev kY:=@Tryz.underlying211
abbrev eW:=@Tryz.underlying227
abbrev bN:=@Tryz.underlying240
abbrev SJ:=@Tryz.underlying290
abbrev uX:=@Tryz.underlying313
abbrev KW:=@Tryz.underlying351
abbrev sF:=@Tryz.sizeOf2
abbrev FG:=@Tryz.sizeOf3
abbrev xZ:=@Tryz.sizeOf5
abbrev zA:=@Tryz.sizeOf30
abbrev AO:=@Tryz.sizeOf33
abbrev MZ:=@Tryz.sizeOf40
abbrev fL:=@Tryz.sizeOf47
abbrev SK:=@Tryz.sizeOf49
abbrev zB:=@Tryz.sizeOf76
abbrev EJ:=@Tryz.sizeOf103
abbrev AcU:=@Tryz.sizeOf125
abbrev iA:=@Tryz.sizeOf129
abbrev KX:=@Tryz.sizeOf155
abbrev AM:=@Tryz.sizeOf157
abbrev BS:=@Tryz.sizeOf161
abbrev IR:=@Tryz.sizeOf169
abbrev EZ:=@Tryz.sizeOf196
abbrev WO:=@Tryz.isAgg2
abbrev BI:=@Tryz.isAgg3
abbrev sZ:=@Tryz.isAgg5
abbrev DX:=@Tryz.isAgg30
abbrev bO:=@Tryz.isAgg31
abbrev BM:=@Tryz.isAgg33
abbrev bP:=@Tryz.isAgg37
abbrev QB:=@Tryz.isAgg40
abbrev tA:=@Tryz.isAgg47
abbrev zC:=@Tryz.isAgg49
abbrev XP:=@Tryz.isAgg116
abbrev JO:=@Tryz.isAgg122
abbrev ZK:=@Tryz.isAgg125
abbrev DY:=@Tryz.isAgg155
abbrev BG:=@Tryz.isAgg157
abbrev HN:=@Tryz.isAgg161
abbrev OE:=@Tryz.isAgg169
abbrev PS:=@Tryz.isAgg196
abbrev sG:=@Tryz.zeroValue3
abbrev CK:=@Tryz.zeroValue33
abbrev mR:=@Tryz.zeroValue40
abbrev AbK:=@Tryz.zeroValue47
abbrev zD:=@Tryz.zeroValue49
abbrev JP:=@Tryz.zeroValue103
abbrev kZ:=@Tryz.zeroValue112
abbrev zF:=@Tryz.zeroValue129
abbrev CP:=@Tryz.zeroValue157
abbrev ZL:=@Tryz.zeroValue161
abbrev MO:=@Tryz.zeroValue169
abbrev lA:=@Tryz.zeroValue183
abbrev SM:=@Tryz.zeroValue196
abbrev bQ:=@Tryz.zeroValue206
abbrev lB:=@Tryz.zeroValue351
end Go.Proofs.YtbohadngdkjljaaGreat
