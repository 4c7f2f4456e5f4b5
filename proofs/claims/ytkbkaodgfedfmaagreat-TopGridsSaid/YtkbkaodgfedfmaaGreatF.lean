/- Closed facts of the program. -/
import Derived.Test.YtkbkaodgfedfmaaGreatT
import Derived.Test.YtkbkaodgfedfmaaGreatFwL
import Derived.Test.YtkbkaodgfedfmaaGreatChecked
import Derived.Laws.StructEq
import Derived.KernelRfl
namespace Go.Proofs.YtkbkaodgfedfmaaGreat
open Go Go.Fw
set_option linter.unusedVariables false
set_option linter.unusedSimpArgs false
set_option maxRecDepth 8000
set_option maxHeartbeats 1000000
theorem MX:Tryz.prog.follows .mixedOrders=true:=by kernel_rfl
theorem MD:Nat.blt 0 (Tryz.prog.types.size+Made.depth)=true:=by kernel_rfl
abbrev tbP:List (Nat×List Nat):=[(25,[0,1,2,3,4]),(28,[0,1]),(30,[0,5,7]),(33,[0,8,9,10,11]),(36,[0,5,7,8,9,10,11]),(48,[0,1,2,3,4]),(50,[0,1,2]),(63,[0,12,13,14,15]),(90,[0,1,2,3,4]),(94,[0,1]),(99,[0,1]),(101,[0,1,2,3,4,5]),(108,[0,2,7,9,10,11,16,22,23,24,25,26,27,28,33,38,39,40,41,42,43,44]),(118,[0,1]),(121,[0,1,2,3,4,5,7,8,9,10]),(131,[0,1,2,3,4,5]),(139,[0,1,2]),(151,[0,1,2]),(184,[0,1]),(202,[0,1]),(204,[0,1]),(228,[0,1,2]),(230,[0,1,3]),(233,[0,1,6,12,18,19,20]),(273,[0,1,2]),(311,[0,1])]
theorem AfR:AllOk Tryz.prog tbP:=
 ⟨⟨⟨_,_,_,Tryz.underlying25,rfl,Tryz.sizeOf22,rfl⟩,⟨_,_,_,Tryz.underlying25,rfl,Tryz.sizeOf3,rfl⟩,⟨_,_,_,Tryz.underlying25,rfl,Tryz.sizeOf3,rfl⟩,⟨_,_,_,Tryz.underlying25,rfl,Tryz.sizeOf3,rfl⟩,⟨_,_,_,Tryz.underlying25,rfl,Tryz.sizeOf23,rfl⟩,trivial⟩,⟨⟨_,_,_,Tryz.underlying28,rfl,Tryz.sizeOf3,rfl⟩,⟨_,_,_,Tryz.underlying28,rfl,Tryz.sizeOf26,rfl⟩,trivial⟩,⟨⟨_,_,_,Tryz.underlying30,rfl,Tryz.sizeOf25,rfl⟩,⟨_,_,_,Tryz.underlying30,rfl,Tryz.sizeOf28,rfl⟩,⟨_,_,_,Tryz.underlying30,rfl,Tryz.sizeOf5,rfl⟩,trivial⟩,⟨⟨_,_,_,Tryz.underlying33,rfl,Tryz.sizeOf30,rfl⟩,⟨_,_,_,Tryz.underlying33,rfl,Tryz.sizeOf5,rfl⟩,⟨_,_,_,Tryz.underlying33,rfl,Tryz.sizeOf5,rfl⟩,⟨_,_,_,Tryz.underlying33,rfl,Tryz.sizeOf5,rfl⟩,⟨_,_,_,Tryz.underlying33,rfl,Tryz.sizeOf31,rfl⟩,trivial⟩,⟨⟨_,_,_,Tryz.underlying36,rfl,Tryz.sizeOf25,rfl⟩,⟨_,_,_,Tryz.underlying36,rfl,Tryz.sizeOf28,rfl⟩,⟨_,_,_,Tryz.underlying36,rfl,Tryz.sizeOf3,rfl⟩,⟨_,_,_,Tryz.underlying36,rfl,Tryz.sizeOf3,rfl⟩,⟨_,_,_,Tryz.underlying36,rfl,Tryz.sizeOf3,rfl⟩,⟨_,_,_,Tryz.underlying36,rfl,Tryz.sizeOf3,rfl⟩,⟨_,_,_,Tryz.underlying36,rfl,Tryz.sizeOf31,rfl⟩,trivial⟩,⟨⟨_,_,_,Tryz.underlying48,rfl,Tryz.sizeOf3,rfl⟩,⟨_,_,_,Tryz.underlying48,rfl,Tryz.sizeOf3,rfl⟩,⟨_,_,_,Tryz.underlying48,rfl,Tryz.sizeOf23,rfl⟩,⟨_,_,_,Tryz.underlying48,rfl,Tryz.sizeOf23,rfl⟩,⟨_,_,_,Tryz.underlying48,rfl,Tryz.sizeOf46,rfl⟩,trivial⟩,⟨⟨_,_,_,Tryz.underlying50,rfl,Tryz.sizeOf45,rfl⟩,⟨_,_,_,Tryz.underlying50,rfl,Tryz.sizeOf3,rfl⟩,⟨_,_,_,Tryz.underlying50,rfl,Tryz.sizeOf48,rfl⟩,trivial⟩,⟨⟨_,_,_,Tryz.underlying63,rfl,Tryz.sizeOf36,rfl⟩,⟨_,_,_,Tryz.underlying63,rfl,Tryz.sizeOf60,rfl⟩,⟨_,_,_,Tryz.underlying63,rfl,Tryz.sizeOf59,rfl⟩,⟨_,_,_,Tryz.underlying63,rfl,Tryz.sizeOf60,rfl⟩,⟨_,_,_,Tryz.underlying63,rfl,Tryz.sizeOf61,rfl⟩,trivial⟩,⟨⟨_,_,_,Tryz.underlying90,rfl,Tryz.sizeOf3,rfl⟩,⟨_,_,_,Tryz.underlying90,rfl,Tryz.sizeOf3,rfl⟩,⟨_,_,_,Tryz.underlying90,rfl,Tryz.sizeOf88,rfl⟩,⟨_,_,_,Tryz.underlying90,rfl,Tryz.sizeOf88,rfl⟩,⟨_,_,_,Tryz.underlying90,rfl,Tryz.sizeOf23,rfl⟩,trivial⟩,⟨⟨_,_,_,Tryz.underlying94,rfl,Tryz.sizeOf3,rfl⟩,⟨_,_,_,Tryz.underlying94,rfl,Tryz.sizeOf3,rfl⟩,trivial⟩,⟨⟨_,_,_,Tryz.underlying99,rfl,Tryz.sizeOf96,rfl⟩,⟨_,_,_,Tryz.underlying99,rfl,Tryz.sizeOf97,rfl⟩,trivial⟩,⟨⟨_,_,_,Tryz.underlying101,rfl,Tryz.sizeOf3,rfl⟩,⟨_,_,_,Tryz.underlying101,rfl,Tryz.sizeOf3,rfl⟩,⟨_,_,_,Tryz.underlying101,rfl,Tryz.sizeOf88,rfl⟩,⟨_,_,_,Tryz.underlying101,rfl,Tryz.sizeOf88,rfl⟩,⟨_,_,_,Tryz.underlying101,rfl,Tryz.sizeOf88,rfl⟩,⟨_,_,_,Tryz.underlying101,rfl,Tryz.sizeOf23,rfl⟩,trivial⟩,⟨⟨_,_,_,Tryz.underlying108,rfl,Tryz.sizeOf94,rfl⟩,⟨_,_,_,Tryz.underlying108,rfl,Tryz.sizeOf25,rfl⟩,⟨_,_,_,Tryz.underlying108,rfl,Tryz.sizeOf94,rfl⟩,⟨_,_,_,Tryz.underlying108,rfl,Tryz.sizeOf3,rfl⟩,⟨_,_,_,Tryz.underlying108,rfl,Tryz.sizeOf31,rfl⟩,⟨_,_,_,Tryz.underlying108,rfl,Tryz.sizeOf90,rfl⟩,⟨_,_,_,Tryz.underlying108,rfl,Tryz.sizeOf101,rfl⟩,⟨_,_,_,Tryz.underlying108,rfl,Tryz.sizeOf102,rfl⟩,⟨_,_,_,Tryz.underlying108,rfl,Tryz.sizeOf3,rfl⟩,⟨_,_,_,Tryz.underlying108,rfl,Tryz.sizeOf103,rfl⟩,⟨_,_,_,Tryz.underlying108,rfl,Tryz.sizeOf3,rfl⟩,⟨_,_,_,Tryz.underlying108,rfl,Tryz.sizeOf3,rfl⟩,⟨_,_,_,Tryz.underlying108,rfl,Tryz.sizeOf45,rfl⟩,⟨_,_,_,Tryz.underlying108,rfl,Tryz.sizeOf48,rfl⟩,⟨_,_,_,Tryz.underlying108,rfl,Tryz.sizeOf48,rfl⟩,⟨_,_,_,Tryz.underlying108,rfl,Tryz.sizeOf4,rfl⟩,⟨_,_,_,Tryz.underlying108,rfl,Tryz.sizeOf4,rfl⟩,⟨_,_,_,Tryz.underlying108,rfl,Tryz.sizeOf104,rfl⟩,⟨_,_,_,Tryz.underlying108,rfl,Tryz.sizeOf105,rfl⟩,⟨_,_,_,Tryz.underlying108,rfl,Tryz.sizeOf3,rfl⟩,⟨_,_,_,Tryz.underlying108,rfl,Tryz.sizeOf106,rfl⟩,⟨_,_,_,Tryz.underlying108,rfl,Tryz.sizeOf4,rfl⟩,trivial⟩,⟨⟨_,_,_,Tryz.underlying118,rfl,Tryz.sizeOf3,rfl⟩,⟨_,_,_,Tryz.underlying118,rfl,Tryz.sizeOf116,rfl⟩,trivial⟩,⟨⟨_,_,_,Tryz.underlying121,rfl,Tryz.sizeOf115,rfl⟩,⟨_,_,_,Tryz.underlying121,rfl,Tryz.sizeOf3,rfl⟩,⟨_,_,_,Tryz.underlying121,rfl,Tryz.sizeOf3,rfl⟩,⟨_,_,_,Tryz.underlying121,rfl,Tryz.sizeOf3,rfl⟩,⟨_,_,_,Tryz.underlying121,rfl,Tryz.sizeOf3,rfl⟩,⟨_,_,_,Tryz.underlying121,rfl,Tryz.sizeOf118,rfl⟩,⟨_,_,_,Tryz.underlying121,rfl,Tryz.sizeOf104,rfl⟩,⟨_,_,_,Tryz.underlying121,rfl,Tryz.sizeOf119,rfl⟩,⟨_,_,_,Tryz.underlying121,rfl,Tryz.sizeOf2,rfl⟩,⟨_,_,_,Tryz.underlying121,rfl,Tryz.sizeOf4,rfl⟩,trivial⟩,⟨⟨_,_,_,Tryz.underlying131,rfl,Tryz.sizeOf3,rfl⟩,⟨_,_,_,Tryz.underlying131,rfl,Tryz.sizeOf88,rfl⟩,⟨_,_,_,Tryz.underlying131,rfl,Tryz.sizeOf106,rfl⟩,⟨_,_,_,Tryz.underlying131,rfl,Tryz.sizeOf129,rfl⟩,⟨_,_,_,Tryz.underlying131,rfl,Tryz.sizeOf3,rfl⟩,⟨_,_,_,Tryz.underlying131,rfl,Tryz.sizeOf3,rfl⟩,trivial⟩,⟨⟨_,_,_,Tryz.underlying139,rfl,Tryz.sizeOf3,rfl⟩,⟨_,_,_,Tryz.underlying139,rfl,Tryz.sizeOf3,rfl⟩,⟨_,_,_,Tryz.underlying139,rfl,Tryz.sizeOf2,rfl⟩,trivial⟩,⟨⟨_,_,_,Tryz.underlying151,rfl,Tryz.sizeOf3,rfl⟩,⟨_,_,_,Tryz.underlying151,rfl,Tryz.sizeOf3,rfl⟩,⟨_,_,_,Tryz.underlying151,rfl,Tryz.sizeOf2,rfl⟩,trivial⟩,⟨⟨_,_,_,Tryz.underlying184,rfl,Tryz.sizeOf3,rfl⟩,⟨_,_,_,Tryz.underlying184,rfl,Tryz.sizeOf2,rfl⟩,trivial⟩,⟨⟨_,_,_,Tryz.underlying202,rfl,Tryz.sizeOf2,rfl⟩,⟨_,_,_,Tryz.underlying202,rfl,Tryz.sizeOf83,rfl⟩,trivial⟩,⟨⟨_,_,_,Tryz.underlying204,rfl,Tryz.sizeOf3,rfl⟩,⟨_,_,_,Tryz.underlying204,rfl,Tryz.sizeOf202,rfl⟩,trivial⟩,⟨⟨_,_,_,Tryz.underlying228,rfl,Tryz.sizeOf3,rfl⟩,⟨_,_,_,Tryz.underlying228,rfl,Tryz.sizeOf46,rfl⟩,⟨_,_,_,Tryz.underlying228,rfl,Tryz.sizeOf23,rfl⟩,trivial⟩,⟨⟨_,_,_,Tryz.underlying230,rfl,Tryz.sizeOf97,rfl⟩,⟨_,_,_,Tryz.underlying230,rfl,Tryz.sizeOf118,rfl⟩,⟨_,_,_,Tryz.underlying230,rfl,Tryz.sizeOf228,rfl⟩,trivial⟩,⟨⟨_,_,_,Tryz.underlying233,rfl,Tryz.sizeOf225,rfl⟩,⟨_,_,_,Tryz.underlying233,rfl,Tryz.sizeOf90,rfl⟩,⟨_,_,_,Tryz.underlying233,rfl,Tryz.sizeOf101,rfl⟩,⟨_,_,_,Tryz.underlying233,rfl,Tryz.sizeOf230,rfl⟩,⟨_,_,_,Tryz.underlying233,rfl,Tryz.sizeOf46,rfl⟩,⟨_,_,_,Tryz.underlying233,rfl,Tryz.sizeOf4,rfl⟩,⟨_,_,_,Tryz.underlying233,rfl,Tryz.sizeOf96,rfl⟩,trivial⟩,⟨⟨_,_,_,Tryz.underlying273,rfl,Tryz.sizeOf271,rfl⟩,⟨_,_,_,Tryz.underlying273,rfl,Tryz.sizeOf225,rfl⟩,⟨_,_,_,Tryz.underlying273,rfl,Tryz.sizeOf104,rfl⟩,trivial⟩,⟨⟨_,_,_,Tryz.underlying311,rfl,Tryz.sizeOf104,rfl⟩,⟨_,_,_,Tryz.underlying311,rfl,Tryz.sizeOf3,rfl⟩,trivial⟩,trivial⟩
section
variable {n:FrK} {E E1 E' E2:CZ} {S:World→Prop} {Q Q':Exit→Act→World→Prop} {ops:Array Oper} {l l' l2:List Oper} {z:Code} {id:Nat}
theorem _root_.Go.Fw.Ops.ks (j:Nat) (h:nO tbP ops n j l E=some (l',E')) (g:Ops Tryz.prog ops l' n E' S Q):Ops Tryz.prog ops l n E S Q:=.ksT AfR j h g
theorem _root_.Go.Fw.Ops.nk (ks:Nat) (j:Nat) (h:(selN ks E [],(λa w=>Q .normal a w),nO tbP l2.toArray n j l2 E')=(some E',(λa w=>(Code.seq (.region id l2.toArray false) z).wpIn (UT n) 0 Tryz.prog Q' a w),some (l',E2))) (g:Ops Tryz.prog l2.toArray l' n E2 S (Exit.then (z.wpIn (UT n) 0 Tryz.prog Q') Q')):Ops Tryz.prog ops [] n E S Q:=.nkT AfR ks j h g
theorem _root_.Go.Fw.Cod.sk (j:Nat) (h:nO tbP l.toArray n j l E=some (l',E')) (g:Ops Tryz.prog l.toArray l' n E' S (Exit.then (z.wpIn (UT n) 0 Tryz.prog Q) Q)):Cod Tryz.prog (.seq (.region id l.toArray false) z) n E S Q:=.skT AfR j h g
theorem _root_.Go.Fw.Ops.kn (j:Nat) (ks:Nat) (h:(nO tbP ops n j l E,selN ks E1 [],λa w=>Q .normal a w)=(some ([],E1),some E',λa w=>z.wpIn (UT n) 0 Tryz.prog Q' a w)) (g:Cod Tryz.prog z n E' S Q'):Ops Tryz.prog ops l n E S Q:=.knT AfR j ks h g
variable {w0:World} {M:Nat→Prop} {I0 I:IH} {cs cs':List (Option Nat)} {dn dn':HC} {X X' pend pd':List Nat} {asn:List AS} {L:Sh} {Sd:List HA→World→Prop} {g fs:List Nat} {A B:List (Option (Nat×Value))}
theorem _root_.Go.Fw.DrawD.fk (k:Nat) (h:AgP tbP ops n E k cs dn X pend=some (cs',dn',X',pd')) (kk:DrawD Tryz.prog ops n Q w0 M I0 E cs' dn' X' pd' asn I L):DrawD Tryz.prog ops n Q w0 M I0 E cs dn X pend asn I L:=.fkT AfR k h kk
theorem _root_.Go.Fw.PendL.ck (k:Nat) (h:AgR tbP ops n E dn k fs=some (g,A,B)) (hAB:A=B) (kk:PendL Tryz.prog ops n E dn Sd g):PendL Tryz.prog ops n E dn Sd fs:=.ckT AfR k h hAB kk
end
theorem IN2:Tryz.prog.info? 2=some Tryz.t2:=by kernel_rfl
theorem IN3:Tryz.prog.info? 3=some Tryz.t3:=by kernel_rfl
theorem AfS:(Tryz.prog.fieldsOf 28).toList.all (λf=>(Tryz.prog.info? f.type).isSome)=true:=by kernel_rfl
theorem Ao7:(Tryz.prog.fieldsOf 36).toList.all (λf=>(Tryz.prog.info? f.type).isSome)=true:=by kernel_rfl
theorem AnB:Tryz.prog.info? 48=some Tryz.t48:=by kernel_rfl
theorem bI:(Tryz.prog.fieldsOf 48).toList.all (λf=>(Tryz.prog.info? f.type).isSome)=true:=by kernel_rfl
theorem Ao8:(Tryz.prog.fieldsOf 50).toList.all (λf=>(Tryz.prog.info? f.type).isSome)=true:=by kernel_rfl
theorem Ao9:(Tryz.prog.fieldsOf 63).toList.all (λf=>(Tryz.prog.info? f.type).isSome)=true:=by kernel_rfl
theorem AfT:Tryz.prog.info? 64=some Tryz.t64:=by kernel_rfl
theorem AoA:Tryz.prog.info? 74=some Tryz.t74:=by kernel_rfl
theorem AnC:Tryz.prog.info? 83=some Tryz.t83:=by kernel_rfl
theorem Ac7:(Tryz.prog.fieldsOf 90).toList.all (λf=>(Tryz.prog.info? f.type).isSome)=true:=by kernel_rfl
theorem Ac8:(Tryz.prog.fieldsOf 94).toList.all (λf=>(Tryz.prog.info? f.type).isSome)=true:=by kernel_rfl
theorem AoB:Tryz.prog.info? 99=some Tryz.t99:=by kernel_rfl
theorem AoC:(Tryz.prog.fieldsOf 99).toList.all (λf=>(Tryz.prog.info? f.type).isSome)=true:=by kernel_rfl
theorem AlD:(Tryz.prog.fieldsOf 101).toList.all (λf=>(Tryz.prog.info? f.type).isSome)=true:=by kernel_rfl
theorem AnD:Tryz.prog.info? 104=some Tryz.t104:=by kernel_rfl
theorem AnE:(Tryz.prog.fieldsOf 108).toList.all (λf=>(Tryz.prog.info? f.type).isSome)=true:=by kernel_rfl
theorem AnF:Tryz.prog.info? 118=some Tryz.t118:=by kernel_rfl
theorem G5:(Tryz.prog.fieldsOf 118).toList.all (λf=>(Tryz.prog.info? f.type).isSome)=true:=by kernel_rfl
theorem AnG:Tryz.prog.info? 121=some Tryz.t121:=by kernel_rfl
theorem Z9:(Tryz.prog.fieldsOf 121).toList.all (λf=>(Tryz.prog.info? f.type).isSome)=true:=by kernel_rfl
theorem AnH:(Tryz.prog.fieldsOf 131).toList.all (λf=>(Tryz.prog.info? f.type).isSome)=true:=by kernel_rfl
theorem pN:Tryz.prog.info? 139=some Tryz.t139:=by kernel_rfl
theorem AiT:(Tryz.prog.fieldsOf 139).toList.all (λf=>(Tryz.prog.info? f.type).isSome)=true:=by kernel_rfl
theorem Ae7:Tryz.prog.info? 151=some Tryz.t151:=by kernel_rfl
theorem Ae8:(Tryz.prog.fieldsOf 151).toList.all (λf=>(Tryz.prog.info? f.type).isSome)=true:=by kernel_rfl
theorem pP:Tryz.prog.info? 184=some Tryz.t184:=by kernel_rfl
theorem pQ:(Tryz.prog.fieldsOf 184).toList.all (λf=>(Tryz.prog.info? f.type).isSome)=true:=by kernel_rfl
theorem hG:(Tryz.prog.fieldsOf 202).toList.all (λf=>(Tryz.prog.info? f.type).isSome)=true:=by kernel_rfl
theorem Aa3:Tryz.prog.info? 204=some Tryz.t204:=by kernel_rfl
theorem AlE:(Tryz.prog.fieldsOf 204).toList.all (λf=>(Tryz.prog.info? f.type).isSome)=true:=by kernel_rfl
theorem AiU:(Tryz.prog.fieldsOf 228).toList.all (λf=>(Tryz.prog.info? f.type).isSome)=true:=by kernel_rfl
theorem AlF:(Tryz.prog.fieldsOf 230).toList.all (λf=>(Tryz.prog.info? f.type).isSome)=true:=by kernel_rfl
theorem AnI:(Tryz.prog.fieldsOf 233).toList.all (λf=>(Tryz.prog.info? f.type).isSome)=true:=by kernel_rfl
theorem AnJ:(Tryz.prog.fieldsOf 273).toList.all (λf=>(Tryz.prog.info? f.type).isSome)=true:=by kernel_rfl
theorem cH:Tryz.prog.info? 309=some Tryz.t309:=by kernel_rfl
theorem AnK:Tryz.prog.info? 311=some Tryz.t311:=by kernel_rfl
theorem AnL:(Tryz.prog.fieldsOf 311).toList.all (λf=>(Tryz.prog.info? f.type).isSome)=true:=by kernel_rfl
theorem AnM (x y:AO) (w:World):(Op.equal 94 (.agg (FP x).toArray) (.agg (FP y).toArray)).run Tryz.prog w=.ok (x==y) w:=by refine Eq.trans ((eqS (k:=9999) Tryz.underlying94 (by kernel_rfl) (eqC (by decide) Tryz.isAgg3 rfl rfl (eqI (k:=9998) Tryz.underlying3) (eqC (by decide) Tryz.isAgg3 rfl rfl (eqI (k:=9998) Tryz.underlying3) eqN))) w) (congrArg (λb=>Result.ok b w) (Bool.eq_iff_iff.2 ?_));obtain⟨x_0,x_1⟩:=x; obtain⟨y_0,y_1⟩:=y;simp[and_assoc]
theorem AnN (o:BinOp) (x y:Operand) (u v:Array Value) (w:World):(eqGuard o 94 x y (.agg u) (.agg v)).run Tryz.prog w=.ok () w:=run_eqGuard_agg w o 94 x y u v (by kernel_rfl)
theorem AiV (x y:AL) (w:World):(Op.equal 202 (.agg (FY x).toArray) (.agg (FY y).toArray)).run Tryz.prog w=.ok (x==y) w:=by refine Eq.trans ((eqS (k:=9999) Tryz.underlying202 (by kernel_rfl) (eqC (by decide) Tryz.isAgg2 rfl rfl (eqI (k:=9998) Tryz.underlying2) (eqC (by decide) Tryz.isAgg83 rfl rfl (eqI (k:=9998) Tryz.underlying83) eqN))) w) (congrArg (λb=>Result.ok b w) (Bool.eq_iff_iff.2 ?_));obtain⟨x_0,x_1⟩:=x; obtain⟨y_0,y_1⟩:=y;simp[and_assoc]
theorem AiW (o:BinOp) (x y:Operand) (u v:Array Value) (w:World):(eqGuard o 202 x y (.agg u) (.agg v)).run Tryz.prog w=.ok () w:=run_eqGuard_agg w o 202 x y u v (by kernel_rfl)
theorem IX3:Tryz.prog.info? 3=some Tryz.t3:=by kernel_rfl
theorem AmC:bZ Tryz.prog 73 G8:=AcT Tryz.underlying73 IX3 Tryz.underlying3 (by kernel_rfl) Tryz.isAgg3 Tryz.sizeOf3
theorem Ac9:bZ Tryz.prog 74 G8:=AcT Tryz.underlying74 IX3 Tryz.underlying3 (by kernel_rfl) Tryz.isAgg3 Tryz.sizeOf3
instance {I J:IH} {x:aTa} {o:H4}:Up (lTa I x o) I J (lTa J x o):=⟨mTa⟩
instance {I J:IH} {x:aTb} {o:G9}:Up (lTb I x o) I J (lTb J x o):=⟨mTb⟩
instance {I J:IH} {x:aTc} {o:JO}:Up (lTc I x o) I J (lTc J x o):=⟨mTc⟩
instance {I J:IH} {x:aTd} {o:Rows}:Up (iV I x o) I J (iV J x o):=⟨mTd⟩
instance {I J:IH} {x:aTe} {o:Rows}:Up (lTe I x o) I J (lTe J x o):=⟨mTe⟩
instance {I J:IH} {x:aTf} {o:AN}:Up (qP I x o) I J (qP J x o):=⟨mTf⟩
instance {I J:IH} {x:aTg} {o:AN}:Up (lTg I x o) I J (lTg J x o):=⟨mTg⟩
instance {I J:IH} {x:aTh} {o:AN}:Up (lTh I x o) I J (lTh J x o):=⟨mTh⟩
instance {I J:IH} {x:aTi} {o:State}:Up (YF I x o) I J (YF J x o):=⟨mTi⟩
instance {I J:IH} {x:aTj} {o:AA}:Up (iW I x o) I J (iW J x o):=⟨mTj⟩
instance {I J:IH} {x:aTk} {o:Dense}:Up (uM I x o) I J (uM J x o):=⟨mTk⟩
instance {I J:IH} {x:aTl} {o:Y2}:Up (lTl I x o) I J (lTl J x o):=⟨mTl⟩
instance {I J:IH} {x:aTm} {o:E5}:Up (lTm I x o) I J (lTm J x o):=⟨mTm⟩
instance {I J:IH} {x:aTn} {o:A7}:Up (lTn I x o) I J (lTn J x o):=⟨mTn⟩
instance {I J:IH} {x:aTo} {o:A4}:Up (lTo I x o) I J (lTo J x o):=⟨mTo⟩
instance {I J:IH} {x:aTp} {o:A0}:Up (UV I x o) I J (UV J x o):=⟨mTp⟩
instance {I J:IH} {x:aTq} {o:A0}:Up (lTq I x o) I J (lTq J x o):=⟨mTq⟩
instance {I J:IH} {x:aTr} {o:A4}:Up (lTr I x o) I J (lTr J x o):=⟨mTr⟩
instance {I J:IH} {x:aTs} {o:A4}:Up (fJ I x o) I J (fJ J x o):=⟨mTs⟩
instance {I J:IH} {q0:Option Addr} {q1:Nat} {q2:Nat} {q3:Nat} {x:B4}:Up (B7.fact I (q0,q1,q2,q3) x) I J (B7.fact J (q0,q1,q2,q3) x):=⟨λh k=>B7.mono h k⟩
instance {I J:IH} {q0:aTp} {q1:Option Addr} {q2:Nat} {q3:Nat} {q4:Option Addr} {q5:Nat} {q6:Nat} {q7:Nat} {x:A0}:Up (A5.fact I (q0,q1,q2,q3,q4,q5,q6,q7) x) I J (A5.fact J (q0,q1,q2,q3,q4,q5,q6,q7) x):=⟨λh k=>A5.mono h k⟩
abbrev Y9 (Q:Int->Prop):Value->Prop:=λv=>∃ r,v=.int .i64 r∧Q r
abbrev o1_ (Q:Graph->Prop):IH->Value->Prop:=λI_ v=>∃ r p4 c5,v=.agg #[.int .i64 r.N,.slice p4 r.Edges.length c5]∧RepSl CW I_ p4 c5 r.Edges∧Q r
abbrev cI (Q:Bool->Prop):Value->Prop:=λv=>∃ r,v=.bool r∧Q r
abbrev o3_ (Q:AL->Prop):Value->Prop:=λv=>∃ r,v=.agg (FY r).toArray∧Q r
abbrev o4_ (Q:Int->Prop):Value->Prop:=λv=>∃ r,v=.int .u64 r∧Q r
abbrev o5_ (Q:(Int×Bool)->Prop):Value->Prop:=λv=>∃ r,v=.tuple #[.int .i64 r.1,.bool r.2]∧Q r
abbrev o7_ (Q:(List Int)->Prop):IH->Value->Prop:=λI_ v=>∃ r p4 c5,v=.slice p4 r.length c5∧RepSl AR I_ p4 c5 r∧Q r
abbrev o8_ (Q:Rows->Prop):IH->Value->Prop:=λI_ v=>∃ r gd3,v=.agg (K7 r gd3)∧iV I_ gd3 r∧Q r
abbrev o9_ (Q:(List AM)->Prop):IH->Value->Prop:=λI_ v=>∃ r p3 c4,v=.slice p3 r.length c4∧RepSl BM I_ p3 c4 r∧Q r
abbrev AnO (Q:(Int×Int)->Prop):Value->Prop:=λv=>∃ r,v=.agg #[.int .i64 r.1,.int .i64 r.2]∧Q r
abbrev AnP (Q:AN->Prop):IH->Value->Prop:=λI_ v=>∃ r gf3,v=.agg (EU r gf3)∧qP I_ gf3 r∧Q r
abbrev AnQ (Q:(List Int)->Prop):IH->Value->Prop:=λI_ v=>∃ r p4 c5,v=.slice p4 r.length c5∧RepSl IC I_ p4 c5 r∧Q r
abbrev AnR (Q:AA->Prop):IH->Value->Prop:=λI_ v=>∃ r gj3,v=.agg (GB r gj3)∧iW I_ gj3 r∧Q r
abbrev AmD (Q:Vec->Prop):IH->Value->Prop:=λI_ v=>∃ r p4 c5,v=.agg #[.int .i64 r.N,.slice p4 r.Items.length c5]∧RepSl BM I_ p4 c5 r.Items∧Q r
abbrev AmE (Q:(Vec×Int)->Prop):IH->Value->Prop:=λI_ v=>∃ r p4 c5,v=.tuple #[.agg #[.int .i64 r.1.N,.slice p4 r.1.Items.length c5],.int .i64 r.2]∧RepSl BM I_ p4 c5 r.1.Items∧Q r
abbrev AnS (Q:Dense->Prop):IH->Value->Prop:=λI_ v=>∃ r gk3,v=.agg (K8 r gk3)∧uM I_ gk3 r∧Q r
abbrev AnT (Q:Vec->Prop):IH->Value->Prop:=λI_ v=>∃ r p3 c4,v=.agg #[.int .i64 r.N,.slice p3 r.Items.length c4]∧RepSl BM I_ p3 c4 r.Items∧Q r
abbrev un2:=@Tryz.underlying2
abbrev eU:=@Tryz.underlying3
abbrev un5:=@Tryz.underlying5
abbrev D7:=@Tryz.underlying23
abbrev HD:=@Tryz.underlying26
abbrev Aa4:=@Tryz.underlying28
abbrev rJ:=@Tryz.underlying31
abbrev mH:=@Tryz.underlying38
abbrev T3:=@Tryz.underlying46
abbrev Y4:=@Tryz.underlying48
abbrev Aa5:=@Tryz.underlying59
abbrev KW:=@Tryz.underlying60
abbrev jZ:=@Tryz.underlying61
abbrev pR:=@Tryz.underlying64
abbrev T4:=@Tryz.underlying73
abbrev pT:=@Tryz.underlying74
abbrev AcA:=@Tryz.underlying75
abbrev bJ:=@Tryz.underlying83
abbrev BB:=@Tryz.underlying88
abbrev Aa6:=@Tryz.underlying90
abbrev rK:=@Tryz.underlying94
abbrev tT:=@Tryz.underlying102
abbrev DZ:=@Tryz.underlying104
abbrev lT:=@Tryz.underlying106
abbrev tU:=@Tryz.underlying108
abbrev DM:=@Tryz.underlying116
abbrev EJ:=@Tryz.underlying118
abbrev MQ:=@Tryz.underlying119
abbrev UL:=@Tryz.underlying121
abbrev tY:=@Tryz.underlying129
abbrev pU:=@Tryz.underlying184
abbrev hM:=@Tryz.underlying202
abbrev lU:=@Tryz.underlying221
abbrev lV:=@Tryz.underlying266
abbrev NZ:=@Tryz.underlying271
abbrev XZ:=@Tryz.underlying309
abbrev L6:=@Tryz.underlying386
abbrev bK:=@Tryz.sizeOf2
abbrev D5:=@Tryz.sizeOf3
abbrev mI:=@Tryz.sizeOf23
abbrev HT:=@Tryz.sizeOf25
abbrev EB:=@Tryz.sizeOf28
abbrev dQ:=@Tryz.sizeOf36
abbrev CD:=@Tryz.sizeOf48
abbrev dR:=@Tryz.sizeOf64
abbrev bL:=@Tryz.sizeOf73
abbrev bM:=@Tryz.sizeOf74
abbrev KX:=@Tryz.sizeOf83
abbrev CH:=@Tryz.sizeOf90
abbrev DW:=@Tryz.sizeOf101
abbrev Y0:=@Tryz.sizeOf104
abbrev AG:=@Tryz.sizeOf118
abbrev BX:=@Tryz.sizeOf121
abbrev D3:=@Tryz.sizeOf139
abbrev QT:=@Tryz.sizeOf151
abbrev D8:=@Tryz.sizeOf184
abbrev B6:=@Tryz.sizeOf202
abbrev EW:=@Tryz.sizeOf204
abbrev EX:=@Tryz.sizeOf228
abbrev IY:=@Tryz.sizeOf311
abbrev O7:=@Tryz.isAgg2
abbrev AE:=@Tryz.isAgg3
abbrev ia4:=@Tryz.isAgg4
abbrev XB:=@Tryz.isAgg22
abbrev DY:=@Tryz.isAgg23
abbrev JV:=@Tryz.isAgg25
abbrev XC:=@Tryz.isAgg26
abbrev HY:=@Tryz.isAgg28
abbrev MZ:=@Tryz.isAgg46
abbrev GL:=@Tryz.isAgg48
abbrev ZA:=@Tryz.isAgg60
abbrev GY:=@Tryz.isAgg83
abbrev EM:=@Tryz.isAgg88
abbrev FA:=@Tryz.isAgg90
abbrev GK:=@Tryz.isAgg101
abbrev IZ:=@Tryz.isAgg104
abbrev GZ:=@Tryz.isAgg116
abbrev BC:=@Tryz.isAgg118
abbrev EY:=@Tryz.isAgg121
abbrev L7:=@Tryz.isAgg139
abbrev T5:=@Tryz.isAgg184
abbrev CB:=@Tryz.isAgg202
abbrev KE:=@Tryz.isAgg228
abbrev T6:=@Tryz.isAgg271
abbrev zv2:=@Tryz.zeroValue2
abbrev kA:=@Tryz.zeroValue3
abbrev XD:=@Tryz.zeroValue28
abbrev IR:=@Tryz.zeroValue48
abbrev AfU:=@Tryz.zeroValue64
abbrev bN:=@Tryz.zeroValue73
abbrev XE:=@Tryz.zeroValue90
abbrev Aa7:=@Tryz.zeroValue94
abbrev pW:=@Tryz.zeroValue101
abbrev BN:=@Tryz.zeroValue118
abbrev H3:=@Tryz.zeroValue121
abbrev MR:=@Tryz.zeroValue139
abbrev ZB:=@Tryz.zeroValue151
abbrev KF:=@Tryz.zeroValue184
abbrev HB:=@Tryz.zeroValue202
abbrev cJ:=@Tryz.zeroValue204
abbrev hZ:=@Tryz.zeroValue228
abbrev tZ:=@Tryz.zeroValue386
end Go.Proofs.YtkbkaodgfedfmaaGreat
