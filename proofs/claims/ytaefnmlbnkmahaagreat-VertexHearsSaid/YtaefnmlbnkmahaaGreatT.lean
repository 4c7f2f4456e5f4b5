/- Types, and pure functions as the Go text has them (printed by a program of ours). -/
import Derived.Test.YtaefnmlbnkmahaaGreatFwS
import Derived.Test.YtaefnmlbnkmahaaGreatFwW
namespace Go.Proofs.YtaefnmlbnkmahaaGreat
open Go Go.Fw
set_option linter.unusedVariables false
set_option linter.unusedSimpArgs false
set_option maxRecDepth 8000
set_option maxHeartbeats 1000000
abbrev eI64:Elem Int:=flat 1 (fun x=>[.int .i64 x]) (fun _=>⟨rfl,rfl⟩)
abbrev eU64:Elem Int:=flat 1 (fun x=>[.int .u64 x]) (fun _=>⟨rfl,rfl⟩)
structure Edge where
  From:Int
  To:Int
  W:Int
deriving DecidableEq,Inhabited
def encEdge (x:Edge):List Value:=[.int .i64 x.From,.int .i64 x.To,.int .i64 x.W]
abbrev eEdge:Elem Edge:=flat 3 encEdge (fun _=>⟨rfl,rfl⟩)
structure Graph where
  N:Int
  Edges:List Edge
deriving DecidableEq,Inhabited
structure Wide where
  Hi:Int
  Lo:Int
deriving DecidableEq,Inhabited
def encWide (x:Wide):List Value:=[.int .i64 x.Hi,.int .u64 x.Lo]
abbrev eWide:Elem Wide:=flat 2 encWide (fun _=>⟨rfl,rfl⟩)
structure Rows where
  Rows:Int
  Cols:Int
  Start:List Int
  Col:List Int
  Val:List Int
deriving DecidableEq,Inhabited
structure Triple where
  Row:Int
  Col:Int
  Val:Int
deriving DecidableEq,Inhabited
def encTriple (x:Triple):List Value:=[.int .i64 x.Row,.int .i64 x.Col,.int .i64 x.Val]
abbrev eTriple:Elem Triple:=flat 3 encTriple (fun _=>⟨rfl,rfl⟩)
structure Item where
  At:Int
  Val:Int
deriving DecidableEq,Inhabited
def encItem (x:Item):List Value:=[.int .i64 x.At,.int .i64 x.Val]
abbrev eItem:Elem Item:=flat 2 encItem (fun _=>⟨rfl,rfl⟩)
structure Plan where
  Kind:Int
  N:Int
  Source:Int
  Length:Int
  Draws:List Int
deriving DecidableEq,Inhabited
structure State where
  Low:Int
  High:Int
  A:List Int
  B:List Int
  On:List Int
deriving DecidableEq,Inhabited
structure Result where
  Status:Int
  Rounds:Int
  State:State
deriving DecidableEq,Inhabited
structure Dense where
  N:Int
  Has:List Int
  Vals:List Int
deriving DecidableEq,Inhabited
structure Sum where
  At:Int
  Val:Wide
deriving DecidableEq,Inhabited
structure Vec where
  N:Int
  Items:List Item
deriving DecidableEq,Inhabited
def ref01_Add (a0:Wide) (a1:Wide) (Q:Wide→Prop):Prop:=
  ifP (decide ((IntKind.wrap .u64 (a0.Lo+a1.Lo))<a0.Lo)) (Q ({ Hi:=w64 ((w64 (a0.Hi+a1.Hi))+1),Lo:=IntKind.wrap .u64 (a0.Lo+a1.Lo) }:Wide)) (Q ({ Hi:=w64 (a0.Hi+a1.Hi),Lo:=IntKind.wrap .u64 (a0.Lo+a1.Lo) }:Wide))
def ref01_Compare (a0:Wide) (a1:Wide) (Q:Int→Prop):Prop:=
  joinP (fun (k15:Unit→Prop)=>ifP (decide (a0.Hi<a1.Hi)) (Q (-1)) (ifP (a0.Hi==a1.Hi) (ifP (decide (a0.Lo<a1.Lo)) (Q (-1)) (k15 ())) (k15 ()))) fun _=>ifP (a0==a1) (Q 0) (Q 1)
def ref02_truth (a0:Bool) (Q:Wide→Prop):Prop:=
  ifP a0 (Q ({ Hi:=0,Lo:=1 }:Wide)) (Q ({ Hi:=0,Lo:=0 }:Wide))
def ref02_Add (a0:Int) (a1:Wide) (a2:Wide) (Q:Wide→Prop):Prop:=
  joinP (fun (k18:Bool→Prop)=>ifP (a0==1) (k18 (a0==1)) (ifP (a0==3) (k18 (a0==3)) (k18 (a0==4)))) fun s17=>ifP s17 (ref01_Compare a2 a1 fun r24=>ifP (decide (r24<0)) (Q a2) (Q a1)) (ifP (a0==2) (ifP (!(a1==({ Hi:=0,Lo:=0 }:Wide))) (ref02_truth true fun r31=>Q r31) (ref02_truth (!(a2==({ Hi:=0,Lo:=0 }:Wide))) fun r35=>Q r35)) (ifP (a0==5) (ref01_Add a1 a2 fun r40=>Q r40) (Q ({ Hi:=0,Lo:=0 }:Wide))))
def ref01_Narrow (a0:Wide) (Q:(Int×Bool)→Prop):Prop:=
  ifP (a0.Hi==0) (ifP (decide (0≤(w64 (a0.Lo)))) (Q (w64 (a0.Lo),true)) (ifP (a0.Hi==(-1)) (ifP (decide ((w64 (a0.Lo))<0)) (Q (w64 (a0.Lo),true)) (Q (0,false))) (Q (0,false)))) (ifP (a0.Hi==(-1)) (ifP (decide ((w64 (a0.Lo))<0)) (Q (w64 (a0.Lo),true)) (Q (0,false))) (Q (0,false)))
def csr_within (a0:Int) (a1:Int) (Q:Bool→Prop):Prop:=
  ifP (decide (0≤a0)) (Q (decide (a0≤a1))) (Q false)
def cmp_isNaN_int (a0:Int) (Q:Bool→Prop):Prop:=
  Q (a0 != a0)
def cmp_Less_int (a0:Int) (a1:Int) (Q:Bool→Prop):Prop:=
  cmp_isNaN_int a0 fun r1=>ifP r1 (cmp_isNaN_int a1 fun r6=>ifP (!r6) (Q true) (Q (decide (a0<a1)))) (Q (decide (a0<a1)))
def slices_IsSorted_int_int (a0:List Int) (Q:Bool→Prop):Prop:=
  loopP (fun (s57:Int) (next58:Int→Prop)=>ifP (decide (0<s57)) (idxP a0 s57 fun x64=>idxP a0 (w64 (s57 - 1)) fun x73=>cmp_Less_int x64 x73 fun r81=>ifP r81 (Q false) (next58 (w64 (s57 - 1)))) (Q true)) (w64 ((a0.length:Int) - 1))
def csr_row (a0:List Int) (a1:Int) (Q:Bool→Prop):Prop:=
  loopP (fun (s68:Int) (next69:Int→Prop)=>ifP (decide (s68<(a0.length:Int))) (idxP a0 s68 fun x84=>csr_within x84 (w64 (a1 - 1)) fun r92=>ifP (!r92) (Q false) (ifP (decide (0<s68)) (idxP a0 (w64 (s68 - 1)) fun x99=>ifP (decide (x84≤x99)) (Q false) (next69 (w64 (s68+1)))) (next69 (w64 (s68+1))))) (Q true)) 0
def csr_Right (a0:Rows) (Q:Bool→Prop):Prop:=
  csr_within a0.Rows 4096 fun r27=>ifP (!r27) (Q false) (csr_within a0.Cols 4096 fun r32=>ifP (!r32) (Q false) (ifP ((a0.Start.length:Int) != (w64 (a0.Rows+1))) (Q false) (ifP ((a0.Val.length:Int) != (a0.Col.length:Int)) (Q false) (ifP (decide (65536<(a0.Col.length:Int))) (Q false) (idxP a0.Start 0 fun x66=>ifP (x66 != 0) (Q false) (idxP a0.Start a0.Rows fun x76=>ifP (x76 != (a0.Col.length:Int)) (Q false) (slices_IsSorted_int_int a0.Start fun r85=>ifP (!r85) (Q false) (loopP (fun (s163:Int) (next164:Int→Prop)=>ifP (decide (s163<a0.Rows)) (idxP a0.Start s163 fun x170=>idxP a0.Start (w64 (s163+1)) fun x179=>slP a0.Col x170 x179 fun _=>csr_row ((a0.Col.take x179.toNat).drop x170.toNat) a0.Cols fun r197=>ifP (!r197) (Q false) (next164 (w64 (s163+1)))) (Q true)) 0))))))))
def csr_empty (a0:Int) (a1:Int) (Q:Rows→Prop):Prop:=
  mkP 8 (w64 (a0+1)) 0 fun _=>Q ({ Rows:=a0,Cols:=a1,Start:=(List.replicate (w64 (a0+1)).toNat 0),Col:=([]:List Int),Val:=([]:List Int) }:Rows)
def csr_sure (a0:Rows) (Q:Rows→Prop):Prop:=
  csr_Right a0 fun r27=>ifP r27 (Q a0) (csr_empty 0 0 fun r32=>Q r32)
def csr_bounds (a0:Int×Int) (a1:Int) (Q:(Int×Int)→Prop):Prop:=
  ifP (decide ((if a1<a0.2 then a1 else a0.2)≤(if 0 > a0.1 then 0 else a0.1))) (Q ((if 0 > a0.1 then 0 else a0.1),0)) (Q ((if 0 > a0.1 then 0 else a0.1),w64 ((if a1<a0.2 then a1 else a0.2) - (if 0 > a0.1 then 0 else a0.1))))
def csr_part (a0:Rows) (a1:Int) (Q:((List Int)×(List Int))→Prop):Prop:=
  idxP a0.Start a1 fun x39=>idxP a0.Start (w64 (a1+1)) fun x48=>slP a0.Col x39 x48 fun _=>slP a0.Val x39 x48 fun _=>Q (((a0.Col.take x48.toNat).drop x39.toNat),((a0.Val.take x48.toNat).drop x39.toNat))
def csr_Row (a0:Rows) (a1:Int) (Q:(List Item)→Prop):Prop:=
  csr_sure a0 fun r33=>csr_within a1 (w64 (r33.Rows - 1)) fun r54=>ifP (!r54) (Q ([]:List Item)) (csr_part r33 a1 fun r73=>loopP (fun (s:(List Item)×Int) (next161:((List Item)×Int)→Prop)=>match s with | (s155,s159)=>ifP (decide (s159<(r73.1.length:Int))) (idxP r73.1 s159 fun x168=>idxP r73.2 s159 fun x177=>appP 16 s155 ([({ At:=x168,Val:=x177 }:Item)]) fun _=>next161 ((s155++([({ At:=x168,Val:=x177 }:Item)])),w64 (s159+1))) (Q s155)) (([]:List Item),0))
def csr_built (a0:Int) (a1:Int) (a2:List Triple) (Q:Rows→Prop):Prop:=
  csr_empty a0 a1 fun r38=>loopP (fun (s:(List Int)×(List Int)×(List Int)×Int) (next427:((List Int)×(List Int)×(List Int)×Int)→Prop)=>match s with | (s414,s418,s422,s426)=>ifP (decide (s426<(a2.length:Int))) (idxP a2 s426 fun x445=>idxP s414 (w64 (x445.Row+1)) fun x464=>idxP s414 (w64 (x445.Row+1)) fun x469=>appP 8 s418 ([x445.Col]) fun _=>appP 8 s422 ([x445.Val]) fun _=>next427 ((s414.set ((w64 (x445.Row+1)).toNat) (w64 (x464+1))),(s418++([x445.Col])),(s422++([x445.Val])),w64 (s426+1))) (loopP (fun (s:(List Int)×Int) (next535:((List Int)×Int)→Prop)=>match s with | (s530,s534)=>ifP (decide (s534<a0)) (idxP s530 (w64 (s534+1)) fun x546=>idxP s530 s534 fun x551=>idxP s530 (w64 (s534+1)) fun x554=>next535 ((s530.set ((w64 (s534+1)).toNat) (w64 (x546+x551))),w64 (s534+1))) (Q ({ Rows:=r38.Rows,Cols:=r38.Cols,Start:=s530,Col:=s418,Val:=s422 }:Rows))) (s414,0))) (r38.Start,r38.Col,r38.Val,0)
def csr_Cut (a0:Rows) (a1:Int×Int) (a2:Int×Int) (Q:Rows→Prop):Prop:=
  csr_sure a0 fun r51=>csr_bounds a1 r51.Rows fun r71=>csr_bounds a2 r51.Cols fun r79=>loopP (fun (s:(List Triple)×Int) (next446:((List Triple)×Int)→Prop)=>match s with | (s440,s444)=>ifP (decide (s444<r71.2)) (csr_Row r51 (w64 (r71.1+s444)) fun r464=>loopP (fun (s:(List Triple)×Int) (next576:((List Triple)×Int)→Prop)=>match s with | (s571,s575)=>ifP (decide (s575<(r464.length:Int))) (idxP r464 s575 fun x595=>joinP (fun (k608:Bool→Prop)=>ifP (decide (r79.1≤x595.At)) (k608 (decide ((w64 (x595.At - r79.1))<r79.2))) (k608 false)) fun s607=>ifP s607 (appP 24 s571 ([({ Row:=s444,Col:=w64 (x595.At - r79.1),Val:=x595.Val }:Triple)]) fun _=>next576 ((s571++([({ Row:=s444,Col:=w64 (x595.At - r79.1),Val:=x595.Val }:Triple)])),w64 (s575+1))) (next576 (s571,w64 (s575+1)))) (next446 (s571,w64 (s444+1)))) (s440,0)) (csr_built r71.2 r79.2 s440 fun r627=>Q r627)) (([]:List Triple),0)
def ring_Is (a0:Int) (Q:Bool→Prop):Prop:=
  ifP (decide (0<a0)) (Q (decide (a0<6))) (Q false)
def wide_Of (a0:Int) (Q:Wide→Prop):Prop:=
  Q ({ Hi:=shr .i64 a0 63,Lo:=IntKind.wrap .u64 (a0) }:Wide)
def ring_truth (a0:Bool) (Q:Wide→Prop):Prop:=
  ifP a0 (wide_Of 1 fun r6=>Q r6) (Q ({ Hi:=0,Lo:=0 }:Wide))
def wide_halves (a0:Int) (Q:(Int×Int)→Prop):Prop:=
  Q (shr .u64 (shl .u64 a0 32) 32,shr .u64 a0 32)
def wide_product (a0:Int) (a1:Int) (Q:Wide→Prop):Prop:=
  wide_halves a0 fun r17=>wide_halves a1 fun r21=>wide_halves (IntKind.wrap .u64 (r17.1*r21.1)) fun r40=>wide_halves (IntKind.wrap .u64 ((IntKind.wrap .u64 (r17.2*r21.1))+r40.2)) fun r44=>wide_halves (IntKind.wrap .u64 ((IntKind.wrap .u64 (r17.1*r21.2))+r44.1)) fun r55=>wide_halves (IntKind.wrap .u64 (r17.1*r21.1)) fun r61=>Q ({ Hi:=w64 (IntKind.wrap .u64 ((IntKind.wrap .u64 ((IntKind.wrap .u64 (r17.2*r21.2))+r44.2))+r55.2)),Lo:=bor .u64 (shl .u64 r55.1 32) r61.1 }:Wide)
def wide_size (a0:Int) (Q:Int→Prop):Prop:=
  ifP (decide (a0<0)) (Q (IntKind.wrap .u64 (0 - (IntKind.wrap .u64 (a0))))) (Q (IntKind.wrap .u64 (a0)))
def wide_carry (a0:Bool) (Q:Int→Prop):Prop:=
  ifP a0 (Q 1) (Q 0)
def wide_Sub (a0:Wide) (a1:Wide) (Q:Wide→Prop):Prop:=
  wide_carry (decide (a0.Lo<a1.Lo)) fun r13=>Q ({ Hi:=w64 (IntKind.wrap .u64 ((IntKind.wrap .u64 ((IntKind.wrap .u64 (a0.Hi)) - (IntKind.wrap .u64 (a1.Hi)))) - r13)),Lo:=IntKind.wrap .u64 (a0.Lo - a1.Lo) }:Wide)
def wide_Mul (a0:Int) (a1:Int) (Q:Wide→Prop):Prop:=
  wide_size a0 fun r19=>wide_size a1 fun r23=>wide_product r19 r23 fun r27=>ifP (!((decide (a0<0))==(decide (a1<0)))) (wide_Sub ({ Hi:=0,Lo:=0 }:Wide) r27 fun r34=>Q r34) (Q r27)
def cmp_Or_int (a0:List Int) (Q:Int→Prop):Prop:=
  loopP (fun (s31:Int) (next32:Int→Prop)=>ifP (decide (s31<(a0.length:Int))) (idxP a0 s31 fun x38=>ifP (x38 != 0) (Q x38) (next32 (w64 (s31+1)))) (Q 0)) 0
def cmp_isNaN_int64 (a0:Int) (Q:Bool→Prop):Prop:=
  Q (a0 != a0)
def cmp_Compare_int64 (a0:Int) (a1:Int) (Q:Int→Prop):Prop:=
  cmp_isNaN_int64 a0 fun r5=>cmp_isNaN_int64 a1 fun r13=>ifP r5 (ifP r13 (Q 0) (Q (-1))) (ifP r13 (Q 1) (ifP (decide (a0<a1)) (Q (-1)) (ifP (decide (a1<a0)) (Q 1) (Q 0))))
def cmp_isNaN_uint64 (a0:Int) (Q:Bool→Prop):Prop:=
  Q (a0 != a0)
def cmp_Compare_uint64 (a0:Int) (a1:Int) (Q:Int→Prop):Prop:=
  cmp_isNaN_uint64 a0 fun r5=>cmp_isNaN_uint64 a1 fun r13=>ifP r5 (ifP r13 (Q 0) (Q (-1))) (ifP r13 (Q 1) (ifP (decide (a0<a1)) (Q (-1)) (ifP (decide (a1<a0)) (Q 1) (Q 0))))
def wide_Compare (a0:Wide) (a1:Wide) (Q:Int→Prop):Prop:=
  cmp_Compare_int64 a0.Hi a1.Hi fun r9=>cmp_Compare_uint64 a0.Lo a1.Lo fun r13=>cmp_Or_int ([r9,r13]:List Int) fun r22=>Q r22
def ring_lesser (a0:Wide) (a1:Wide) (Q:Wide→Prop):Prop:=
  wide_Compare a0 a1 fun r13=>ifP (decide (r13≤0)) (Q a0) (Q a1)
def wide_Add (a0:Wide) (a1:Wide) (Q:Wide→Prop):Prop:=
  wide_carry (decide ((IntKind.wrap .u64 (a0.Lo+a1.Lo))<a1.Lo)) fun r13=>Q ({ Hi:=w64 (IntKind.wrap .u64 ((IntKind.wrap .u64 ((IntKind.wrap .u64 (a0.Hi))+(IntKind.wrap .u64 (a1.Hi))))+r13)),Lo:=IntKind.wrap .u64 (a0.Lo+a1.Lo) }:Wide)
def ring_Mul (a0:Int) (a1:Int) (a2:Int) (Q:Wide→Prop):Prop:=
  ifP (a0==2) (ifP (a1 != 0) (ring_truth (a2 != 0) fun r22=>Q r22) (ring_truth false fun r26=>Q r26)) (ifP (a0==5) (wide_Mul a1 a2 fun r31=>Q r31) (joinP (fun (k55:Unit→Prop)=>ring_Is a0 fun r56=>ifP r56 (ifP (decide (4611686018427387904≤(if a2 > a1 then a2 else a1))) (wide_Of 4611686018427387904 fun r62=>Q r62) (k55 ())) (k55 ())) fun _=>joinP (fun (k90:(Int×Int)→Prop)=>ifP (a0==1) (wide_Of a1 fun r93=>k90 (r93.Hi,r93.Lo)) (ifP (a0==4) (k90 (0,0)) (ifP (a0==3) (wide_Of a1 fun r99=>Q r99) (Q ({ Hi:=0,Lo:=0 }:Wide))))) fun (s88,s89)=>wide_Of 4611686018427387904 fun r106=>wide_Of a2 fun r110=>wide_Add ({ Hi:=s88,Lo:=s89 }:Wide) r110 fun r114=>ring_lesser r106 r114 fun r118=>Q r118))
def ring_Add (a0:Int) (a1:Wide) (a2:Wide) (Q:Wide→Prop):Prop:=
  joinP (fun (k18:Bool→Prop)=>ifP (a0==1) (k18 (a0==1)) (ifP (a0==3) (k18 (a0==3)) (k18 (a0==4)))) fun s17=>ifP s17 (ring_lesser a1 a2 fun r24=>Q r24) (ifP (a0==2) (ifP (!(a1==a2)) (ring_truth true fun r30=>Q r30) (ring_truth (!(a1==({ Hi:=0,Lo:=0 }:Wide))) fun r34=>Q r34)) (ifP (a0==5) (wide_Add a1 a2 fun r39=>Q r39) (Q ({ Hi:=0,Lo:=0 }:Wide))))
def ring_Zero (a0:Int) (Q:Int→Prop):Prop:=
  ifP (a0==1) (Q 4611686018427387904) (ifP (a0==3) (Q 4611686018427387904) (ifP (a0==4) (Q 4611686018427387904) (Q 0)))
def cmp_Compare_int (a0:Int) (a1:Int) (Q:Int→Prop):Prop:=
  cmp_isNaN_int a0 fun r5=>cmp_isNaN_int a1 fun r13=>ifP r5 (ifP r13 (Q 0) (Q (-1))) (ifP r13 (Q 1) (ifP (decide (a0<a1)) (Q (-1)) (ifP (decide (a1<a0)) (Q 1) (Q 0))))
def wide_Narrow (a0:Wide) (Q:(Int×Bool)→Prop):Prop:=
  wide_Of (w64 (a0.Lo)) fun r5=>ifP (!(r5==a0)) (Q (0,false)) (Q (w64 (a0.Lo),true))
def ring_Narrow (a0:Int) (a1:Wide) (Q:(Int×Bool)→Prop):Prop:=
  wide_Narrow a1 fun r3=>Q (r3.1,r3.2)
def prog_within (a0:Int) (a1:Int) (Q:Bool→Prop):Prop:=
  ifP (decide (0≤a0)) (Q (decide (a0≤a1))) (Q false)
def prog_Right_1_a45 (a0:Int) (Q:Bool→Prop):Prop:=
  ifP (decide (a0<0)) (Q true) (Q (decide (2147483647<a0)))
def slices_IndexFunc_int64_int64_135 (a0:List Int) (Q:Int→Prop):Prop:=
  loopP (fun (s45:Int) (next46:Int→Prop)=>ifP (decide (s45<(a0.length:Int))) (idxP a0 s45 fun x52=>prog_Right_1_a45 x52 fun r66=>ifP r66 (Q s45) (next46 (w64 (s45+1)))) (Q (-1))) 0
def slices_ContainsFunc_int64_int64_80a (a0:List Int) (Q:Bool→Prop):Prop:=
  slices_IndexFunc_int64_int64_135 a0 fun r10=>Q (decide (0≤r10))
def prog_Right (a0:Plan) (Q:Int→Prop):Prop:=
  ifP (decide (a0.Kind≤0)) (Q 8) (ifP (decide (5<a0.Kind)) (Q 8) (prog_within a0.N 4096 fun r17=>ifP (!r17) (Q 3) (joinP (fun (k92:Unit→Prop)=>joinP (fun (k111:Unit→Prop)=>ifP (a0.Kind==4) (prog_within a0.Length 8192 fun r114=>ifP (!r114) (Q 3) (k111 ())) (ifP (a0.Kind==1) (k111 ()) (ifP (a0.Kind==2) (k111 ()) (k92 ())))) fun _=>prog_within a0.Source (w64 (a0.N - 1)) fun r123=>ifP (!r123) (Q 3) (k92 ())) fun _=>ifP (decide (65536<(a0.Draws.length:Int))) (Q 5) (slices_ContainsFunc_int64_int64_80a a0.Draws fun r137=>ifP r137 (Q 7) (Q 0)))))
def edges_Right_1_b08 (o0:Graph) (a0:Int) (Q:Bool→Prop):Prop:=
  ifP (decide (a0<0)) (Q true) (Q (decide (o0.N≤a0)))
def edges_Right_2_f7d (o1:Graph) (a0:Edge) (Q:Bool→Prop):Prop:=
  edges_Right_1_b08 o1 a0.From fun r18=>ifP r18 (Q true) (edges_Right_1_b08 o1 a0.To fun r26=>Q r26)
def slices_IndexFunc_api_Edge_api_Edge_a86 (o1:Graph) (a0:List Edge) (Q:Int→Prop):Prop:=
  loopP (fun (s52:Int) (next53:Int→Prop)=>ifP (decide (s52<(a0.length:Int))) (idxP a0 s52 fun x59=>edges_Right_2_f7d o1 x59 fun r73=>ifP r73 (Q s52) (next53 (w64 (s52+1)))) (Q (-1))) 0
def slices_ContainsFunc_api_Edge_api_Edge_87a (o1:Graph) (a0:List Edge) (Q:Bool→Prop):Prop:=
  slices_IndexFunc_api_Edge_api_Edge_a86 o1 a0 fun r17=>Q (decide (0≤r17))
def edges_Right_3_b50 (a0:Edge) (Q:Bool→Prop):Prop:=
  ifP (decide (a0.W<0)) (Q true) (Q (decide (2147483647<a0.W)))
def slices_IndexFunc_api_Edge_api_Edge_122 (a0:List Edge) (Q:Int→Prop):Prop:=
  loopP (fun (s45:Int) (next46:Int→Prop)=>ifP (decide (s45<(a0.length:Int))) (idxP a0 s45 fun x52=>edges_Right_3_b50 x52 fun r66=>ifP r66 (Q s45) (next46 (w64 (s45+1)))) (Q (-1))) 0
def slices_ContainsFunc_api_Edge_api_Edge_126 (a0:List Edge) (Q:Bool→Prop):Prop:=
  slices_IndexFunc_api_Edge_api_Edge_122 a0 fun r10=>Q (decide (0≤r10))
def edges_Right (a0:Graph) (Q:Int→Prop):Prop:=
  ifP (decide (a0.N<0)) (Q 3) (joinP (fun (k16:Bool→Prop)=>ifP (decide (4096<a0.N)) (k16 (decide (4096<a0.N))) (k16 (decide (65536<(a0.Edges.length:Int))))) fun s15=>ifP s15 (Q 5) (slices_ContainsFunc_api_Edge_api_Edge_87a a0 a0.Edges fun r35=>ifP r35 (Q 3) (slices_ContainsFunc_api_Edge_api_Edge_126 a0.Edges fun r44=>ifP r44 (Q 7) (Q 0))))
def edges_ends (a0:Edge) (a1:Edge) (Q:Int→Prop):Prop:=
  cmp_Compare_int a0.From a1.From fun r9=>cmp_Compare_int a0.To a1.To fun r13=>cmp_Or_int ([r9,r13]:List Int) fun r22=>Q r22
def edges_order (a0:Edge) (a1:Edge) (Q:Int→Prop):Prop:=
  edges_ends a0 a1 fun r9=>cmp_Compare_int64 a0.W a1.W fun r13=>cmp_Or_int ([r9,r13]:List Int) fun r22=>Q r22
def edges_Combine (a0:Int) (a1:List Edge) (Q:((List Edge)×Int)→Prop):Prop:=
  ring_Is a0 fun r12=>ifP (!r12) (Q (([]:List Edge),8)) (loopP (fun (s:(List ((Int×Int)×Wide))×Int) (next305:((List ((Int×Int)×Wide))×Int)→Prop)=>match s with | (s303,s304)=>ifP (decide (s304<(a1.length:Int))) (idxP a1 s304 fun x322=>wide_Of x322.W fun r342=>lk2P s303 (x322.From,x322.To) ({ Hi:=0,Lo:=0 }:Wide) fun r348 t353=>ifP t353 (ring_Add a0 r348 r342 fun r357=>next305 ((mput (x322.From,x322.To) r357 s303),w64 (s304+1))) (next305 ((mput (x322.From,x322.To) r342 s303),w64 (s304+1)))) (loopP (fun (s:(List Edge)×(List ((Int×Int)×Wide))) (next473:((List Edge)×(List ((Int×Int)×Wide)))→Prop)=>match s with | (s467,s471)=>nextP s471 (sortP edges_order s467 fun y504=>Q (y504,0)) (fun p491 l492=>ring_Narrow a0 p491.2 fun r525=>ifP (!r525.2) (Q (([]:List Edge),12)) (appP 24 s467 ([({ From:=p491.1.1,To:=p491.1.2,W:=r525.1 }:Edge)]) fun _=>next473 ((s467++([({ From:=p491.1.1,To:=p491.1.2,W:=r525.1 }:Edge)])),l492)))) (([]:List Edge),s303))) (([]:List ((Int×Int)×Wide)),0))
def edges_Canon (a0:Graph) (Q:Graph→Prop):Prop:=
  edges_Combine 1 a0.Edges fun r15=>Q ({ N:=a0.N,Edges:=r15.1 }:Graph)
def edges_Simple_1_100 (a0:Edge) (Q:(Edge×Bool)→Prop):Prop:=
  Q (a0,a0.From != a0.To)
def edges_made_71c (a0:Graph) (Q:Graph→Prop):Prop:=
  loopP (fun (s:(List Edge)×Int) (next114:((List Edge)×Int)→Prop)=>match s with | (s108,s112)=>ifP (decide (s112<(a0.Edges.length:Int))) (idxP a0.Edges s112 fun x131=>edges_Simple_1_100 x131 fun r147=>ifP r147.2 (appP 24 s108 ([r147.1]) fun _=>next114 ((s108++([r147.1])),w64 (s112+1))) (next114 (s108,w64 (s112+1)))) (edges_Canon ({ N:=a0.N,Edges:=s108 }:Graph) fun r162=>Q r162)) (([]:List Edge),0)
def edges_Simple (a0:Graph) (Q:Graph→Prop):Prop:=
  edges_made_71c a0 fun r17=>Q r17
def slices_Grow_api_Edge_api_Edge (a1:Int) (Q:(List Edge)→Prop):Prop:=
  ifP (decide (a1<0)) (False) (ifP (decide (0<(w64 (a1 - (w64 (0 - 0)))))) (grP 24 (w64 (a1 - (w64 (0 - 0)))) <| Q ([]:List Edge)) (Q ([]:List Edge)))
def slices_Concat_api_Edge_api_Edge (a0:List (List Edge)) (Q:(List Edge)→Prop):Prop:=
  loopP (fun (s:Int×Int) (next161:(Int×Int)→Prop)=>match s with | (s159,s160)=>ifP (decide (s160<(a0.length:Int))) (idxP a0 s160 fun x179=>ifP (decide ((w64 (s159+(x179.length:Int)))<0)) (False) (next161 (w64 (s159+(x179.length:Int)),w64 (s160+1)))) (slices_Grow_api_Edge_api_Edge s159 fun r203=>loopP (fun (s:(List Edge)×Int) (next271:((List Edge)×Int)→Prop)=>match s with | (s266,s270)=>ifP (decide (s270<(a0.length:Int))) (idxP a0 s270 fun x278=>appP 24 s266 x278 fun _=>next271 ((s266++x278),w64 (s270+1))) (Q s266)) (r203,0))) (0,0)
def edges_turned_87e (a0:Edge) (Q:(Edge×Bool)→Prop):Prop:=
  Q (({ From:=a0.To,To:=a0.From,W:=a0.W }:Edge),true)
def edges_made_7c5 (a0:Graph) (Q:Graph→Prop):Prop:=
  loopP (fun (s:(List Edge)×Int) (next114:((List Edge)×Int)→Prop)=>match s with | (s108,s112)=>ifP (decide (s112<(a0.Edges.length:Int))) (idxP a0.Edges s112 fun x131=>edges_turned_87e x131 fun r147=>ifP r147.2 (appP 24 s108 ([r147.1]) fun _=>next114 ((s108++([r147.1])),w64 (s112+1))) (next114 (s108,w64 (s112+1)))) (edges_Canon ({ N:=a0.N,Edges:=s108 }:Graph) fun r162=>Q r162)) (([]:List Edge),0)
def edges_Turn (a0:Graph) (Q:Graph→Prop):Prop:=
  edges_made_7c5 a0 fun r17=>Q r17
def edges_Both (a0:Graph) (Q:Graph→Prop):Prop:=
  edges_Turn a0 fun r15=>slices_Concat_api_Edge_api_Edge ([a0.Edges,r15.Edges]:List (List Edge)) fun r31=>edges_Canon ({ N:=a0.N,Edges:=r31 }:Graph) fun r42=>Q r42
def edges_Plain_1_3d5 (a0:Edge) (Q:(Edge×Bool)→Prop):Prop:=
  Q (({ From:=a0.From,To:=a0.To,W:=1 }:Edge),true)
def edges_made_56f (a0:Graph) (Q:Graph→Prop):Prop:=
  loopP (fun (s:(List Edge)×Int) (next114:((List Edge)×Int)→Prop)=>match s with | (s108,s112)=>ifP (decide (s112<(a0.Edges.length:Int))) (idxP a0.Edges s112 fun x131=>edges_Plain_1_3d5 x131 fun r147=>ifP r147.2 (appP 24 s108 ([r147.1]) fun _=>next114 ((s108++([r147.1])),w64 (s112+1))) (next114 (s108,w64 (s112+1)))) (edges_Canon ({ N:=a0.N,Edges:=s108 }:Graph) fun r162=>Q r162)) (([]:List Edge),0)
def edges_Plain (a0:Graph) (Q:Graph→Prop):Prop:=
  edges_made_56f a0 fun r17=>Q r17
def csr_Graph (a0:Graph) (Q:(Rows×Int)→Prop):Prop:=
  edges_Right a0 fun r34=>ifP (r34 != 0) (Q (({ Rows:=0,Cols:=0,Start:=([]:List Int),Col:=([]:List Int),Val:=([]:List Int) }:Rows),r34)) (edges_Turn a0 fun r49=>loopP (fun (s:(List Triple)×Int) (next141:((List Triple)×Int)→Prop)=>match s with | (s135,s139)=>ifP (decide (s139<(r49.Edges.length:Int))) (idxP r49.Edges s139 fun x159=>appP 24 s135 ([({ Row:=x159.From,Col:=x159.To,Val:=x159.W }:Triple)]) fun _=>next141 ((s135++([({ Row:=x159.From,Col:=x159.To,Val:=x159.W }:Triple)])),w64 (s139+1))) (csr_built a0.N a0.N s135 fun r180=>Q (r180,0))) (([]:List Triple),0))
def prog_Matrix (a0:Plan) (a1:Graph) (Q:(Rows×Int)→Prop):Prop:=
  prog_Right a0 fun r41=>ifP (r41 != 0) (Q (({ Rows:=0,Cols:=0,Start:=([]:List Int),Col:=([]:List Int),Val:=([]:List Int) }:Rows),r41)) (ifP (a1.N != a0.N) (Q (({ Rows:=0,Cols:=0,Start:=([]:List Int),Col:=([]:List Int),Val:=([]:List Int) }:Rows),4)) (edges_Right a1 fun r61=>ifP (r61 != 0) (Q (({ Rows:=0,Cols:=0,Start:=([]:List Int),Col:=([]:List Int),Val:=([]:List Int) }:Rows),r61)) (ifP (a0.Kind==5) (edges_Simple a1 fun r68=>edges_Both r68 fun r78=>edges_Plain r78 fun r89=>csr_Graph r89 fun r100=>Q (r100.1,r100.2)) (ifP (a0.Kind==3) (edges_Both a1 fun r118=>edges_Plain r118 fun r128=>csr_Graph r128 fun r139=>Q (r139.1,r139.2)) (ifP (a0.Kind==1) (edges_Plain a1 fun r157=>csr_Graph r157 fun r167=>Q (r167.1,r167.2)) (csr_Graph a1 fun r184=>Q (r184.1,r184.2)))))))
def model_Check (a0:Plan) (a1:Graph) (a2:Int) (Q:Int→Prop):Prop:=
  prog_Matrix a0 a1 fun r34=>ifP (r34.2 != 0) (Q r34.2) (ifP (decide (a2<0)) (Q 3) (ifP (decide (8192<a2)) (Q 3) (Q 0)))
def flags_within (a0:List Int) (a1:Int) (Q:Bool→Prop):Prop:=
  ifP (decide (0≤a1)) (Q (decide ((shr .i64 a1 6)<(a0.length:Int)))) (Q false)
def flags_bit (a0:Int) (Q:Int→Prop):Prop:=
  nnP (bnd .u64 (IntKind.wrap .u64 (a0)) 63) <| Q (shl .u64 1 (bnd .u64 (IntKind.wrap .u64 (a0)) 63))
def flags_Has (a0:List Int) (a1:Int) (Q:Bool→Prop):Prop:=
  flags_within a0 a1 fun r4=>ifP r4 (idxP a0 (shr .i64 a1 6) fun x10=>flags_bit a1 fun r18=>Q ((bnd .u64 x10 r18) != 0)) (Q false)
def flags_words (a0:Int) (Q:Int→Prop):Prop:=
  Q (shr .i64 (w64 ((if 4096<(if 0 > a0 then 0 else a0) then 4096 else (if 0 > a0 then 0 else a0))+63)) 6)
def flags_each_555 (a0:List Int) (Q:(List Int)→Prop):Prop:=
  Q a0
def flags_each_1_6c7 (o0:Nat) (o1:Int) (o2:Int) (o3:List Int) (Y:Nat→Int→Int→Int→((Bool×Nat×Int)→Prop)→Prop) (Q:(Nat×Int)→Prop):Prop:=
  loopP (fun (s:Int×Int×Nat) (next193:(Int×Int×Nat)→Prop)=>match s with | (s190,s191,s192)=>ifP (decide (s191<(o3.length:Int))) (idxP o3 s191 fun x208=>loopP (fun (s:Int×Int×Int×Nat) (next262:(Int×Int×Int×Nat)→Prop)=>match s with | (s258,s259,s260,s261)=>ifP (s259 != 0) (ifP ((bnd .u64 s259 1)==1) (Y s261 o1 s258 s260 fun r275=>ifP (!r275.1) (Q (r275.2.1,r275.2.2)) (next262 (r275.2.2,shr .u64 s259 1,w64 (s260+1),r275.2.1))) (next262 (s258,shr .u64 s259 1,w64 (s260+1),s261))) (next193 (s258,w64 (s191+1),s261))) (s190,x208,shl .i64 s191 6,s192)) (Q (s192,s190))) (o2,0,o0)
def flags_Next (a0:List Int) (a1:Int) (Q:Int→Prop):Prop:=
  flags_each_555 a0 fun r30=>flags_each_1_6c7 0 a1 0 r30 (fun (y51:Nat) (y52:Int) (y54:Int) (x56:Int) (Qy:(Bool×Nat×Int)→Prop)=>eqP y51 0 (ifP (decide (y52≤x56)) (Qy (false,1,x56)) (Qy (true,0,y54)))) fun r62=>ifP (decide (r62.1=0)) (Q (-1)) (eqP r62.1 1 (Q r62.2))
def flags_Right (a0:List Int) (a1:Int) (Q:Bool→Prop):Prop:=
  ifP (decide (0≤a1)) (ifP (decide (a1≤4096)) (flags_words a1 fun r6=>ifP ((a0.length:Int)==r6) (flags_Next a0 a1 fun r11=>Q (decide (r11<0))) (Q false)) (Q false)) (Q false)
def flags_New (a0:Int) (Q:(List Int)→Prop):Prop:=
  flags_words a0 fun r4=>mkP 8 r4 0 fun _=>Q (List.replicate r4.toNat 0)
def pull_adder_6fc (a0:Int) (Q:(Bool×Int×Wide)→Prop):Prop:=
  Q (false,a0,({ Hi:=0,Lo:=0 }:Wide))
def pull_adder_1_b72 (o0:Bool) (o1:Int) (o2:Wide) (a0:Wide) (Q:(Bool×Wide)→Prop):Prop:=
  ifP o0 (ring_Add o1 o2 a0 fun r12=>Q (true,r12)) (Q (true,a0))
def pull_adder_2_cdb (o0:Wide) (o1:Bool) (Q:(Wide×Bool)→Prop):Prop:=
  Q (o0,o1)
def pull_row (a0:Int) (a1:Rows) (a2:Int) (a3:Dense) (Q:(Wide×Bool)→Prop):Prop:=
  pull_adder_6fc a0 fun r47=>idxP a1.Start a2 fun x64=>loopP (fun (s:Bool×Int×Int×Int) (next250:(Bool×Int×Int×Int)→Prop)=>match s with | (s246,s247,s248,s249)=>idxP a1.Start (w64 (a2+1)) fun x265=>ifP (decide (s249<x265)) (idxP a1.Col s249 fun x284=>flags_Has a3.Has x284 fun r296=>ifP r296 (idxP a1.Val s249 fun x302=>idxP a3.Vals x284 fun x311=>ring_Mul a0 x302 x311 fun r319=>pull_adder_1_b72 s246 r47.2.1 ({ Hi:=s247,Lo:=s248 }:Wide) r319 fun r329=>next250 (r329.1,r329.2.Hi,r329.2.Lo,w64 (s249+1))) (next250 (s246,s247,s248,w64 (s249+1)))) (pull_adder_2_cdb ({ Hi:=s247,Lo:=s248 }:Wide) s246 fun r342=>Q (r342.1,r342.2))) (r47.1,r47.2.2.Hi,r47.2.2.Lo,x64)
def ref03_words (a0:Int) (Q:Int→Prop):Prop:=
  joinP (fun (k4:Int→Prop)=>ifP (decide (4096<a0)) (k4 4096) (k4 a0)) fun s3=>ifP (decide (s3<1)) (Q 0) (Q (w64 ((w64 (s3+63)).tdiv 64)))
def ref03_New (a0:Int) (Q:(List Int)→Prop):Prop:=
  ref03_words a0 fun r4=>mkP 8 r4 0 fun _=>Q (List.replicate r4.toNat 0)
def ref03_set (a0:List Int) (a1:Int) (a2:Bool) (Q:(List Int)→Prop):Prop:=
  appP 8 ([]:List Int) a0 fun _=>ifP (decide (a1<0)) (Q (([]:List Int)++a0)) (ifP (decide ((a0.length:Int)≤(w64 (a1.tdiv 64)))) (Q (([]:List Int)++a0)) (nnP (IntKind.wrap .u64 (a1.tmod 64)) <| ifP a2 (idxP (([]:List Int)++a0) (w64 (a1.tdiv 64)) fun x31=>idxP (([]:List Int)++a0) (w64 (a1.tdiv 64)) fun x36=>Q ((([]:List Int)++a0).set ((w64 (a1.tdiv 64)).toNat) (bor .u64 x31 (shl .u64 1 (IntKind.wrap .u64 (a1.tmod 64)))))) (idxP (([]:List Int)++a0) (w64 (a1.tdiv 64)) fun x42=>idxP (([]:List Int)++a0) (w64 (a1.tdiv 64)) fun x47=>Q ((([]:List Int)++a0).set ((w64 (a1.tdiv 64)).toNat) (bandn .u64 x42 (shl .u64 1 (IntKind.wrap .u64 (a1.tmod 64))))))))
def ref03_Put (a0:List Int) (a1:Int) (Q:(List Int)→Prop):Prop:=
  ref03_set a0 a1 true fun r7=>Q r7
def ref03_Of (a0:Int) (a1:List Int) (Q:(List Int)→Prop):Prop:=
  ref03_New a0 fun r17=>loopP (fun (s:(List Int)×Int) (next151:((List Int)×Int)→Prop)=>match s with | (s146,s150)=>ifP (decide (s150<(a1.length:Int))) (idxP a1 s150 fun x158=>ifP (decide (0≤x158)) (idxP a1 s150 fun x168=>ifP (decide (x168<a0)) (idxP a1 s150 fun x178=>ifP (decide (x178<4096)) (idxP a1 s150 fun x188=>ref03_Put s146 x188 fun r196=>next151 (r196,w64 (s150+1))) (next151 (s146,w64 (s150+1)))) (next151 (s146,w64 (s150+1)))) (next151 (s146,w64 (s150+1)))) (Q s146)) (r17,0)
def vertex_named (a0:Plan) (a1:Graph) (Q:Graph→Prop):Prop:=
  ifP (a0.Kind==5) (edges_Simple a1 fun r24=>edges_Both r24 fun r34=>edges_Plain r34 fun r45=>Q r45) (ifP (a0.Kind==3) (edges_Both a1 fun r57=>edges_Plain r57 fun r67=>Q r67) (ifP (a0.Kind==1) (edges_Plain a1 fun r79=>Q r79) (edges_Canon a1 fun r89=>Q r89)))
def vertex_Links (a0:Plan) (a1:Graph) (Q:((List Edge)×Int)→Prop):Prop:=
  prog_Matrix a0 a1 fun r18=>ifP (r18.2 != 0) (Q (([]:List Edge),r18.2)) (vertex_named a0 a1 fun r37=>Q (r37.Edges,0))
def ref21_from (a0:Int) (Q:Bool→Prop):Prop:=
  ifP (a0==1) (Q true) (ifP (a0==2) (Q true) (Q (a0==4)))
def ref21_Right (a0:Plan) (Q:Int→Prop):Prop:=
  ifP (decide (a0.Kind<1)) (Q 8) (ifP (decide (5<a0.Kind)) (Q 8) (joinP (fun (k42:Unit→Prop)=>ifP (decide (a0.N<0)) (Q 3) (ifP (decide (4096<a0.N)) (Q 3) (ref21_from a0.Kind fun r45=>ifP r45 (ifP (decide (a0.Source<0)) (Q 3) (ifP (decide (a0.N≤a0.Source)) (Q 3) (ifP (a0.Kind==4) (ifP (decide (a0.Length<0)) (Q 3) (ifP (decide (8192<a0.Length)) (Q 3) (k42 ()))) (k42 ())))) (ifP (a0.Kind==4) (ifP (decide (a0.Length<0)) (Q 3) (ifP (decide (8192<a0.Length)) (Q 3) (k42 ()))) (k42 ()))))) fun _=>ifP (decide (65536<(a0.Draws.length:Int))) (Q 5) (loopP (fun (s109:Int) (next110:Int→Prop)=>ifP (decide (s109<(a0.Draws.length:Int))) (idxP a0.Draws s109 fun x117=>ifP (decide (x117<0)) (Q 7) (idxP a0.Draws s109 fun x127=>ifP (decide (2147483647<x127)) (Q 7) (next110 (w64 (s109+1))))) (Q 0)) 0)))
def vertex_whole (a0:Plan) (a1:State) (Q:Bool→Prop):Prop:=
  ifP (a1.Low==0) (ifP (a1.High==a0.N) (ifP ((a1.A.length:Int)==a0.N) (ifP ((a1.B.length:Int)==a0.N) (flags_Right a1.On a0.N fun r25=>Q r25) (Q false)) (Q false)) (Q false)) (Q false)
def vertex_wrong_1_7a4 (o0:Plan) (a0:Edge) (Q:Bool→Prop):Prop:=
  ifP (decide ((if a0.To<a0.From then a0.To else a0.From)<0)) (Q true) (Q (decide (o0.N≤(if a0.To > a0.From then a0.To else a0.From))))
def slices_IndexFunc_api_Edge_api_Edge_0b4 (o0:Plan) (a0:List Edge) (Q:Int→Prop):Prop:=
  loopP (fun (s50:Int) (next51:Int→Prop)=>ifP (decide (s50<(a0.length:Int))) (idxP a0 s50 fun x57=>vertex_wrong_1_7a4 o0 x57 fun r71=>ifP r71 (Q s50) (next51 (w64 (s50+1)))) (Q (-1))) 0
def slices_ContainsFunc_api_Edge_api_Edge_64d (o0:Plan) (a0:List Edge) (Q:Bool→Prop):Prop:=
  slices_IndexFunc_api_Edge_api_Edge_0b4 o0 a0 fun r15=>Q (decide (0≤r15))
def vertex_wrong (a0:Plan) (a1:List Edge) (a2:State) (Q:Int→Prop):Prop:=
  prog_Right a0 fun r29=>ifP (r29 != 0) (Q r29) (vertex_whole a0 a2 fun r39=>ifP (!r39) (Q 4) (slices_ContainsFunc_api_Edge_api_Edge_64d a0 a1 fun r50=>ifP r50 (Q 3) (Q 0)))
def prog_Ring (a0:Int) (a1:Int) (Q:Int→Prop):Prop:=
  ifP (a0==2) (Q 1) (ifP (a0==4) (Q 5) (ifP (a0==5) (ifP ((bnd .i64 a1 1)==0) (Q 2) (Q 4)) (ifP (a0==1) (Q 4) (ifP (a0==3) (Q 4) (Q 0)))))
def prog_can (a0:Plan) (a1:State) (Q:Bool→Prop):Prop:=
  prog_Right a0 fun r29=>ifP (r29 != 0) (Q false) (ifP (decide (a1.Low<0)) (Q false) (ifP (decide (a1.High<a1.Low)) (Q false) (ifP (decide (a0.N<a1.High)) (Q false) (ifP ((a1.A.length:Int)==(w64 (a1.High - a1.Low))) (ifP ((a1.B.length:Int)==(w64 (a1.High - a1.Low))) (flags_Right a1.On (w64 (a1.High - a1.Low)) fun r39=>Q r39) (Q false)) (Q false)))))
def prog_sure (a0:Plan) (a1:State) (Q:State→Prop):Prop:=
  prog_can a0 a1 fun r34=>ifP r34 (Q a1) (Q ({ Low:=0,High:=0,A:=([]:List Int),B:=([]:List Int),On:=([]:List Int) }:State))
def prog_number (a0:Plan) (a1:Int) (a2:Int) (Q:Int→Prop):Prop:=
  prog_within a1 8192 fun r18=>ifP (!r18) (Q 0) (prog_within a2 (w64 (a0.N - 1)) fun r23=>ifP (!r23) (Q 0) (ifP (decide (0<(a0.Draws.length:Int))) (nzP (a0.Draws.length:Int) <| idxP a0.Draws ((w64 ((w64 (a1*a0.N))+a2)).tmod (a0.Draws.length:Int)) fun x31=>Q (bor .i64 (shl .i64 x31 12) a2)) (Q (bor .i64 (shl .i64 0 12) a2))))
def prog_draw (a0:Int) (Q:Int→Prop):Prop:=
  Q (shr .i64 (w64 (a0 - 1)) 1)
def prog_tells (a0:Plan) (a1:State) (a2:Int) (a3:Int) (Q:(Int×Bool)→Prop):Prop:=
  flags_Has a1.On a3 fun r25=>ifP (a0.Kind==1) (Q (w64 (a1.Low+a3),r25)) (ifP (a0.Kind==5) (ifP ((bnd .i64 a2 1)==0) (Q (1,r25)) (idxP a1.A a3 fun x34=>prog_draw a2 fun r42=>prog_number a0 r42 (w64 (a1.Low+a3)) fun r46=>Q (r46,x34==0))) (idxP a1.A a3 fun x51=>Q (x51,r25)))
def prog_Out (a0:Plan) (a1:State) (a2:Int) (Q:Vec→Prop):Prop:=
  prog_sure a0 a1 fun r44=>loopP (fun (s:(List Item)×Int) (next120:((List Item)×Int)→Prop)=>match s with | (s114,s118)=>ifP (decide (s118<(w64 (r44.High - r44.Low)))) (prog_tells a0 r44 a2 s118 fun r130=>ifP r130.2 (appP 16 s114 ([({ At:=s118,Val:=r130.1 }:Item)]) fun _=>next120 ((s114++([({ At:=s118,Val:=r130.1 }:Item)])),w64 (s118+1))) (next120 (s114,w64 (s118+1)))) (Q ({ N:=w64 (r44.High - r44.Low),Items:=s114 }:Vec))) (([]:List Item),0)
def vertex_letters_c5d (a0:Plan) (a1:List Edge) (a2:State) (a3:Int) (Q:((List Edge)×(List (Int×Int))×Int)→Prop):Prop:=
  prog_Out a0 a2 a3 fun r117=>loopP (fun (s:(List (Int×Int))×Int) (next161:((List (Int×Int))×Int)→Prop)=>match s with | (s159,s160)=>ifP (decide (s160<(r117.Items.length:Int))) (idxP r117.Items s160 fun x168=>next161 ((mput x168.At x168.Val s159),w64 (s160+1))) (prog_Ring a0.Kind a3 fun r178=>Q (a1,s159,r178))) (([]:List (Int×Int)),0)
def vertex_letters_1_4e8 (o0:Nat) (o1:List (List Wide)) (o2:List Edge) (o3:List (Int×Int)) (o4:Int) (Y:Nat→(List (List Wide))→Int→Wide→((Bool×Nat×(List (List Wide)))→Prop)→Prop) (Q:(Nat×(List (List Wide)))→Prop):Prop:=
  loopP (fun (s:(List (List Wide))×Int×Nat) (next164:((List (List Wide))×Int×Nat)→Prop)=>match s with | (s158,s162,s163)=>ifP (decide (s162<(o2.length:Int))) (idxP o2 s162 fun x181=>lk2P o3 x181.From 0 fun r197 t202=>ifP t202 (ring_Mul o4 x181.W r197 fun r204=>Y s163 s158 x181.To r204 fun r214=>ifP (!r214.1) (Q (r214.2.1,r214.2.2)) (next164 (r214.2.2,w64 (s162+1),r214.2.1))) (next164 (s158,w64 (s162+1),s163))) (Q (s163,s158))) (o1,0,o0)
def vertex_Mail (a0:Plan) (a1:List Edge) (a2:State) (a3:Int) (Q:((List (List Wide))×Int)→Prop):Prop:=
  vertex_wrong a0 a1 a2 fun r32=>ifP (r32 != 0) (Q (([]:List (List Wide)),r32)) (mkP 24 a0.N ([]:List Wide) fun _=>vertex_letters_c5d a0 a1 a2 a3 fun r75=>vertex_letters_1_4e8 0 (List.replicate a0.N.toNat ([]:List Wide)) r75.1 r75.2.1 r75.2.2 (fun (y160:Nat) (y161:List (List Wide)) (x167:Int) (x168:Wide) (Qy:(Bool×Nat×(List (List Wide)))→Prop)=>eqP y160 0 (idxP y161 x167 fun x176=>appP 16 x176 ([x168]) fun _=>idxP y161 x167 fun x191=>Qy (true,0,(y161.set x167.toNat (x176++([x168])))))) fun r200=>eqP r200.1 0 (Q (r200.2,0)))
def vertex_summer_6fc (a0:Int) (Q:(Bool×Int×Wide)→Prop):Prop:=
  Q (false,a0,({ Hi:=0,Lo:=0 }:Wide))
def vertex_summer_1_b72 (o0:Bool) (o1:Int) (o2:Wide) (a0:Wide) (Q:(Bool×Wide)→Prop):Prop:=
  ifP o0 (ring_Add o1 o2 a0 fun r12=>Q (true,r12)) (Q (true,a0))
def vertex_summer_2_cdb (o0:Wide) (o1:Bool) (Q:(Wide×Bool)→Prop):Prop:=
  Q (o0,o1)
def vertex_Hear (a0:Int) (a1:Int) (a2:List Wide) (Q:(Int×Bool×Int)→Prop):Prop:=
  prog_Ring a0 a1 fun r8=>ifP (r8==0) (Q (0,false,8)) (vertex_summer_6fc r8 fun r33=>loopP (fun (s:Bool×Int×Int×Int) (next202:(Bool×Int×Int×Int)→Prop)=>match s with | (s198,s199,s200,s201)=>ifP (decide (s201<(a2.length:Int))) (idxP a2 s201 fun x209=>vertex_summer_1_b72 s198 r33.2.1 ({ Hi:=s199,Lo:=s200 }:Wide) x209 fun r225=>next202 (r225.1,r225.2.Hi,r225.2.Lo,w64 (s201+1))) (vertex_summer_2_cdb ({ Hi:=s199,Lo:=s200 }:Wide) s198 fun r249=>ifP (!r249.2) (Q (0,false,0)) (wide_Narrow r249.1 fun r260=>ifP (!r260.2) (Q (0,false,12)) (ring_Zero r8 fun r265=>ifP (r260.1==r265) (Q (0,false,0)) (Q (r260.1,true,0)))))) (r33.1,r33.2.2.Hi,r33.2.2.Lo,0))
def flags_Of (a0:Int) (a1:List Int) (Q:(List Int)→Prop):Prop:=
  flags_New a0 fun r18=>loopP (fun (s:(List Int)×Int) (next157:((List Int)×Int)→Prop)=>match s with | (s152,s156)=>ifP (decide (s156<(a1.length:Int))) (idxP a1 s156 fun x173=>joinP (fun (k192:Bool→Prop)=>ifP (decide (x173<a0)) (flags_within s152 x173 fun r194=>k192 r194) (k192 false)) fun s191=>ifP s191 (idxP s152 (shr .i64 x173 6) fun x205=>flags_bit x173 fun r209=>idxP s152 (shr .i64 x173 6) fun x214=>next157 ((s152.set ((shr .i64 x173 6).toNat) (bor .u64 x205 r209)),w64 (s156+1))) (next157 (s152,w64 (s156+1)))) (Q s152)) (r18,0)
def prog_Asked (a0:Plan) (a1:State) (a2:Int) (Q:((List Int)×Bool)→Prop):Prop:=
  prog_sure a0 a1 fun r40=>joinP (fun (k61:Int→Prop)=>ifP (a0.Kind==1) (k61 (-1)) (ifP (a0.Kind==5) (k61 0) (Q (([]:List Int),true)))) fun s60=>loopP (fun (s:(List Int)×Int) (next251:((List Int)×Int)→Prop)=>match s with | (s245,s249)=>ifP (decide (s249<(r40.A.length:Int))) (idxP r40.A s249 fun x268=>ifP (x268==s60) (appP 8 s245 ([s249]) fun _=>next251 ((s245++([s249])),w64 (s249+1))) (next251 (s245,w64 (s249+1)))) (flags_Of (w64 (r40.High - r40.Low)) s245 fun r289=>Q (r289,false))) (([]:List Int),0)
def spvec_within (a0:Int) (a1:Int) (Q:Bool→Prop):Prop:=
  ifP (decide (0≤a0)) (Q (decide (a0≤a1))) (Q false)
def spvec_Right_1_81a (o0:Int) (o1:Vec) (a0:Item) (Q:(Bool×Int)→Prop):Prop:=
  ifP (decide (a0.At≤o0)) (Q (true,a0.At)) (Q (decide (o1.N≤a0.At),a0.At))
def slices_IndexFunc_api_Item_api_Item_a3e (o0:Int) (o1:Vec) (a0:List Item) (Q:(Int×Int)→Prop):Prop:=
  loopP (fun (s:Int×Int) (next61:(Int×Int)→Prop)=>match s with | (s59,s60)=>ifP (decide (s60<(a0.length:Int))) (idxP a0 s60 fun x67=>spvec_Right_1_81a s59 o1 x67 fun r81=>ifP r81.1 (Q (s60,r81.2)) (next61 (r81.2,w64 (s60+1)))) (Q ((-1),s59))) (o0,0)
def slices_ContainsFunc_api_Item_api_Item_cd0 (o0:Int) (o1:Vec) (a0:List Item) (Q:(Bool×Int)→Prop):Prop:=
  slices_IndexFunc_api_Item_api_Item_a3e o0 o1 a0 fun r17=>Q (decide (0≤r17.1),r17.2)
def spvec_Right (a0:Vec) (Q:Bool→Prop):Prop:=
  spvec_within a0.N 4096 fun r13=>ifP (!r13) (Q false) (slices_ContainsFunc_api_Item_api_Item_cd0 (-1) a0 a0.Items fun r26=>Q (!r26.1))
def slices_Clone_int64_int64 (a0:List Int) (Q:(List Int)→Prop):Prop:=
  nilP a0 (Q ([]:List Int)) (appP 8 ([]:List Int) a0 fun _=>Q (([]:List Int)++a0))
def slices_Clone_uint64_uint64 (a0:List Int) (Q:(List Int)→Prop):Prop:=
  nilP a0 (Q ([]:List Int)) (appP 8 ([]:List Int) a0 fun _=>Q (([]:List Int)++a0))
def flags_ones (a0:Int) (Q:Int→Prop):Prop:=
  loopP (fun (s:Int×Int) (next11:(Int×Int)→Prop)=>match s with | (s9,s10)=>ifP (s9==0) (Q s10) (next11 (bnd .u64 s9 (IntKind.wrap .u64 (s9 - 1)),w64 (s10+1)))) (a0,0)
def flags_Count (a0:List Int) (Q:Int→Prop):Prop:=
  loopP (fun (s:Int×Int) (next42:(Int×Int)→Prop)=>match s with | (s40,s41)=>ifP (decide (s41<(a0.length:Int))) (idxP a0 s41 fun x48=>flags_ones x48 fun r56=>next42 (w64 (s40+r56),w64 (s41+1))) (Q s40)) (0,0)
def prog_Live (a0:Plan) (a1:State) (a2:Int) (Q:Int→Prop):Prop:=
  prog_sure a0 a1 fun r37=>ifP (a0.Kind==4) (ifP (decide (a0.Length≤a2)) (Q 0) (flags_Count r37.On fun r55=>Q r55)) (ifP (a0.Kind==5) (loopP (fun (s:Int×Int) (next92:(Int×Int)→Prop)=>match s with | (s90,s91)=>ifP (decide (s91<(r37.A.length:Int))) (idxP r37.A s91 fun x99=>ifP (x99==0) (next92 (w64 (s90+1),w64 (s91+1))) (next92 (s90,w64 (s91+1)))) (Q s90)) (0,0)) (flags_Count r37.On fun r108=>Q r108))
def ref21_none  (Q:State→Prop):Prop:=
  Q ({ Low:=0,High:=0,A:=([]:List Int),B:=([]:List Int),On:=([]:List Int) }:State)
def ref21_Begin (a0:Plan) (a1:Int) (a2:Int) (Q:State→Prop):Prop:=
  ref21_Right a0 fun r93=>ifP (r93 != 0) (ref21_none  fun r98=>Q r98) (ifP (decide (a1<0)) (ref21_none  fun r115=>Q r115) (ifP (decide (a2<a1)) (ref21_none  fun r132=>Q r132) (ifP (decide (a0.N<a2)) (ref21_none  fun r149=>Q r149) (loopP (fun (s:(List Int)×(List Int)×(List Int)×Int) (next1081:((List Int)×(List Int)×(List Int)×Int)→Prop)=>match s with | (s1065,s1069,s1073,s1077)=>ifP (decide (s1077<a2)) (joinP (fun (k1099:Bool→Prop)=>ref21_from a0.Kind fun r1100=>ifP r1100 (ifP (s1077==a0.Source) (k1099 true) (k1099 (a0.Kind==3))) (k1099 (a0.Kind==3))) fun s1098=>joinP (fun (k1116:Int→Prop)=>ifP (a0.Kind==1) (k1116 (-1)) (ifP (a0.Kind==2) (k1116 4611686018427387904) (ifP (a0.Kind==3) (k1116 s1077) (k1116 0)))) fun s1115=>joinP (fun (k1173:Int→Prop)=>joinP (fun (k1185:Bool→Prop)=>ref21_from a0.Kind fun r1186=>ifP r1186 (k1185 (s1077==a0.Source)) (k1185 false)) fun s1184=>ifP s1184 (ifP (a0.Kind==4) (k1173 1) (k1173 0)) (k1173 s1115)) fun s1172=>joinP (fun (k1221:(List Int)→Prop)=>ifP s1098 (appP 8 s1073 ([w64 (s1077 - a1)]) fun _=>k1221 (s1073++([w64 (s1077 - a1)]))) (k1221 s1073)) fun s1217=>appP 8 s1065 ([s1172]) fun _=>appP 8 s1069 ([(-1)]) fun _=>next1081 ((s1065++([s1172])),(s1069++([(-1)])),s1217,w64 (s1077+1))) (ref03_Of (w64 (a2 - a1)) s1073 fun r1251=>Q ({ Low:=a1,High:=a2,A:=s1065,B:=s1069,On:=r1251 }:State))) (([]:List Int),([]:List Int),([]:List Int),a1)))))
def ref07_SameVals (a0:List Int) (a1:List Int) (Q:Bool→Prop):Prop:=
  ifP ((a0.length:Int) != (a1.length:Int)) (Q false) (loopP (fun (s54:Int) (next55:Int→Prop)=>ifP (decide (s54<(a0.length:Int))) (idxP a0 s54 fun x61=>idxP a1 s54 fun x70=>ifP (x61 != x70) (Q false) (next55 (w64 (s54+1)))) (Q true)) 0)
def ref21_Ring (a0:Int) (a1:Int) (Q:Int→Prop):Prop:=
  joinP (fun (k4:Bool→Prop)=>ifP (a0==1) (k4 (a0==1)) (k4 (a0==3))) fun s3=>ifP s3 (Q 4) (ifP (a0==2) (Q 1) (ifP (a0==4) (Q 5) (ifP (a0==5) (ifP ((a1.tmod 2)==0) (Q 2) (Q 4)) (Q 0))))
def ref02_least (a0:Int) (Q:Bool→Prop):Prop:=
  ifP (a0==1) (Q true) (ifP (a0==3) (Q true) (Q (a0==4)))
def ref02_Zero (a0:Int) (Q:Int→Prop):Prop:=
  ref02_least a0 fun r1=>ifP r1 (Q 4611686018427387904) (Q 0)
def ref35_Hear (a0:Int) (a1:Int) (a2:List Wide) (Q:(Int×Bool×Int)→Prop):Prop:=
  ref21_Ring a0 a1 fun r8=>ifP (r8==0) (Q (0,false,8)) (ifP ((a2.length:Int)==0) (Q (0,false,0)) (idxP a2 0 fun x28=>loopP (fun (s:Int×Int×Int) (next140:(Int×Int×Int)→Prop)=>match s with | (s137,s138,s139)=>ifP (decide (s139<(a2.length:Int))) (idxP a2 s139 fun x146=>ref02_Add r8 ({ Hi:=s137,Lo:=s138 }:Wide) x146 fun r154=>next140 (r154.Hi,r154.Lo,w64 (s139+1))) (ref01_Narrow ({ Hi:=s137,Lo:=s138 }:Wide) fun r162=>ifP (!r162.2) (Q (0,false,12)) (ref02_Zero r8 fun r168=>ifP (r162.1==r168) (Q (0,false,0)) (Q (r162.1,true,0))))) (x28.Hi,x28.Lo,1)))
def spvec_sure (a0:Vec) (Q:Vec→Prop):Prop:=
  spvec_Right a0 fun r15=>ifP r15 (Q a0) (Q ({ N:=0,Items:=([]:List Item) }:Vec))
def spvec_order_7ac (a0:Item) (a1:Int) (Q:Int→Prop):Prop:=
  cmp_Compare_int a0.At a1 fun r3=>Q r3
def slices_BinarySearchFunc_api_Item_api_Item_int_8a3 (a0:List Item) (a1:Int) (Q:(Int×Bool)→Prop):Prop:=
  loopP (fun (s:Int×Int) (next119:(Int×Int)→Prop)=>match s with | (s117,s118)=>ifP (decide (s117<s118)) (idxP a0 (w64 (shr .u64 (IntKind.wrap .u64 (w64 (s117+s118))) 1)) fun x125=>spvec_order_7ac x125 a1 fun r139=>ifP (decide (r139<0)) (next119 (w64 ((w64 (shr .u64 (IntKind.wrap .u64 (w64 (s117+s118))) 1))+1),s118)) (next119 (s117,w64 (shr .u64 (IntKind.wrap .u64 (w64 (s117+s118))) 1)))) (ifP (decide (s117<(a0.length:Int))) (idxP a0 s117 fun x144=>spvec_order_7ac x144 a1 fun r158=>Q (s117,r158==0)) (Q (s117,false)))) (0,(a0.length:Int))
def spvec_find (a0:Vec) (a1:Int) (Q:(Int×Bool)→Prop):Prop:=
  slices_BinarySearchFunc_api_Item_api_Item_int_8a3 a0.Items a1 fun r12=>Q (r12.1,r12.2)
def spvec_Get (a0:Vec) (a1:Int) (Q:(Int×Bool)→Prop):Prop:=
  spvec_sure a0 fun r18=>spvec_find r18 a1 fun r32=>ifP (!r32.2) (Q (0,false)) (idxP r18.Items r32.1 fun x38=>Q (x38.Val,true))
def prog_behind (a0:Plan) (a1:State) (a2:Int) (a3:Int) (a4:Int) (a5:Bool) (Q:(Int×Int×Bool)→Prop):Prop:=
  idxP a1.A a3 fun x40=>idxP a1.B a3 fun x49=>ifP (a0.Kind==1) (ifP a5 (ifP (x40==(-1)) (Q (a2,a4,true)) (Q (x40,x49,false))) (Q (x40,x49,false))) (joinP (fun (k63:Bool→Prop)=>ifP (a0.Kind==2) (k63 (a0.Kind==2)) (k63 (a0.Kind==3))) fun s62=>ifP s62 (ifP a5 (ifP (decide (a4<x40)) (Q (a4,x49,true)) (Q (x40,x49,false))) (Q (x40,x49,false))) (ifP (a0.Kind==4) (Q (a4,x49,a4 != 0)) (ifP (a0.Kind==5) (ifP (x40 != 0) (Q (x40,x49,false)) (joinP (fun (k76:Bool→Prop)=>ifP ((bnd .i64 a2 1)==0) (k76 a5) (k76 false)) fun s75=>ifP s75 (Q (2,x49,false)) (ifP ((bnd .i64 a2 1)==1) (ifP (!a5) (Q (1,x49,true)) (prog_draw a2 fun r84=>prog_number a0 r84 (w64 (a1.Low+a3)) fun r88=>ifP (decide (r88<a4)) (Q (1,x49,true)) (Q (x40,x49,false)))) (Q (x40,x49,false))))) (Q (x40,x49,false)))))
def prog_first (a0:Plan) (a1:Int) (Q:(Int×Bool)→Prop):Prop:=
  ifP (a0.Kind==3) (Q (a1,true)) (ifP (a0.Kind==5) (Q (0,false)) (joinP (fun (k13:Bool→Prop)=>ifP (a0.Kind==4) (k13 (a1==a0.Source)) (k13 false)) fun s12=>ifP s12 (Q (1,true)) (joinP (fun (k22:(Bool×Bool)→Prop)=>ifP (a1==a0.Source) (k22 (true,true)) (k22 (false,a0.Kind==4))) fun (s20,s21)=>ifP s21 (Q (0,s20)) (ifP (a0.Kind==1) (Q ((-1),false)) (Q (4611686018427387904,false))))))
def prog_Update_1_24a (o0:Vec) (o1:Plan) (o2:State) (o3:Int) (a0:Int) (Q:(Int×Int×Bool)→Prop):Prop:=
  spvec_Get o0 a0 fun r28=>prog_behind o1 o2 o3 a0 r28.1 r28.2 fun r32=>Q (r32.1,r32.2.1,r32.2.2)
def prog_changed_59a (o0:Vec) (o1:Plan) (o2:State) (o3:Int) (a0:State) (a1:Int) (Q:State→Prop):Prop:=
  loopP (fun (s:(List Int)×(List Int)×(List Int)×Int) (next173:((List Int)×(List Int)×(List Int)×Int)→Prop)=>match s with | (s157,s161,s165,s169)=>ifP (decide (s169<a1)) (prog_Update_1_24a o0 o1 o2 o3 s169 fun r192=>appP 8 s157 ([r192.1]) fun _=>appP 8 s161 ([r192.2.1]) fun _=>ifP r192.2.2 (appP 8 s165 ([s169]) fun _=>next173 ((s157++([r192.1])),(s161++([r192.2.1])),(s165++([s169])),w64 (s169+1))) (next173 ((s157++([r192.1])),(s161++([r192.2.1])),s165,w64 (s169+1)))) (flags_Of a1 s165 fun r217=>Q ({ Low:=a0.Low,High:=a0.High,A:=s157,B:=s161,On:=r217 }:State))) (([]:List Int),([]:List Int),([]:List Int),0)
def prog_Update (a0:Plan) (a1:State) (a2:Int) (a3:Vec) (Q:State→Prop):Prop:=
  prog_sure a0 a1 fun r61=>joinP (fun (k88:Bool→Prop)=>spvec_Right a3 fun r89=>ifP (!r89) (k88 true) (k88 (a3.N != (w64 (r61.High - r61.Low))))) fun s87=>ifP s87 (slices_Clone_int64_int64 r61.A fun r98=>slices_Clone_int64_int64 r61.B fun r110=>slices_Clone_uint64_uint64 r61.On fun r122=>Q ({ Low:=r61.Low,High:=r61.High,A:=r98,B:=r110,On:=r122 }:State)) (prog_changed_59a a3 a0 r61 a2 r61 (w64 (r61.High - r61.Low)) fun r140=>Q r140)
def vertex_Step (a0:Plan) (a1:List Edge) (a2:State) (a3:Int) (Q:(State×Int)→Prop):Prop:=
  vertex_Mail a0 a1 a2 a3 fun r47=>ifP (r47.2 != 0) (Q (({ Low:=0,High:=0,A:=([]:List Int),B:=([]:List Int),On:=([]:List Int) }:State),r47.2)) (prog_Asked a0 a2 a3 fun r70=>loopP (fun (s:(List Item)×Int) (next213:((List Item)×Int)→Prop)=>match s with | (s207,s211)=>ifP (decide (s211<(r47.1.length:Int))) (idxP r47.1 s211 fun x232=>flags_Has r70.1 s211 fun r248=>ifP (r248==r70.2) (next213 (s207,w64 (s211+1))) (vertex_Hear a0.Kind a3 x232 fun r257=>ifP (r257.2.2 != 0) (Q (({ Low:=0,High:=0,A:=([]:List Int),B:=([]:List Int),On:=([]:List Int) }:State),r257.2.2)) (ifP r257.2.1 (appP 16 s207 ([({ At:=s211,Val:=r257.1 }:Item)]) fun _=>next213 ((s207++([({ At:=s211,Val:=r257.1 }:Item)])),w64 (s211+1))) (next213 (s207,w64 (s211+1)))))) (prog_Update a0 a2 a3 ({ N:=a0.N,Items:=s207 }:Vec) fun r275=>Q (r275,0))) (([]:List Item),0))
def prog_Begin_1_d27 (o0:Plan) (o1:Int) (a0:Int) (Q:(Int×Int×Bool)→Prop):Prop:=
  prog_first o0 (w64 (o1+a0)) fun r8=>Q (r8.1,(-1),r8.2)
def prog_changed_b13 (o0:Plan) (o1:Int) (a0:State) (a1:Int) (Q:State→Prop):Prop:=
  loopP (fun (s:(List Int)×(List Int)×(List Int)×Int) (next157:((List Int)×(List Int)×(List Int)×Int)→Prop)=>match s with | (s141,s145,s149,s153)=>ifP (decide (s153<a1)) (prog_Begin_1_d27 o0 o1 s153 fun r176=>appP 8 s141 ([r176.1]) fun _=>appP 8 s145 ([r176.2.1]) fun _=>ifP r176.2.2 (appP 8 s149 ([s153]) fun _=>next157 ((s141++([r176.1])),(s145++([r176.2.1])),(s149++([s153])),w64 (s153+1))) (next157 ((s141++([r176.1])),(s145++([r176.2.1])),s149,w64 (s153+1)))) (flags_Of a1 s149 fun r201=>Q ({ Low:=a0.Low,High:=a0.High,A:=s141,B:=s145,On:=r201 }:State))) (([]:List Int),([]:List Int),([]:List Int),0)
def prog_Begin (a0:Plan) (a1:Int) (a2:Int) (Q:State→Prop):Prop:=
  prog_Right a0 fun r33=>ifP (r33 != 0) (Q ({ Low:=0,High:=0,A:=([]:List Int),B:=([]:List Int),On:=([]:List Int) }:State)) (ifP (decide (a1<0)) (Q ({ Low:=0,High:=0,A:=([]:List Int),B:=([]:List Int),On:=([]:List Int) }:State)) (ifP (decide (a2<a1)) (Q ({ Low:=0,High:=0,A:=([]:List Int),B:=([]:List Int),On:=([]:List Int) }:State)) (ifP (decide (a0.N<a2)) (Q ({ Low:=0,High:=0,A:=([]:List Int),B:=([]:List Int),On:=([]:List Int) }:State)) (prog_changed_b13 a0 a1 ({ Low:=a1,High:=a2,A:=([]:List Int),B:=([]:List Int),On:=([]:List Int) }:State) (w64 (a2 - a1)) fun r49=>Q r49))))
def vertex_letters_1_6d3 (o0:Nat) (o1:Int) (o2:List Edge) (o3:List (Int×Int)) (o4:Int) (Y:Nat→Int→Int→Wide→((Bool×Nat×Int)→Prop)→Prop) (Q:(Nat×Int)→Prop):Prop:=
  loopP (fun (s:Int×Int×Nat) (next136:(Int×Int×Nat)→Prop)=>match s with | (s133,s134,s135)=>ifP (decide (s134<(o2.length:Int))) (idxP o2 s134 fun x153=>lk2P o3 x153.From 0 fun r169 t174=>ifP t174 (ring_Mul o4 x153.W r169 fun r176=>Y s135 s133 x153.To r176 fun r186=>ifP (!r186.1) (Q (r186.2.1,r186.2.2)) (next136 (r186.2.2,w64 (s134+1),r186.2.1))) (next136 (s133,w64 (s134+1),s135))) (Q (s135,s133))) (o1,0,o0)
def vertex_run (a0:Plan) (a1:Graph) (a2:Int) (Q:(Result×Int×Int)→Prop):Prop:=
  model_Check a0 a1 a2 fun r41=>ifP (r41 != 0) (Q (({ Status:=0,Rounds:=0,State:=({ Low:=0,High:=0,A:=([]:List Int),B:=([]:List Int),On:=([]:List Int) }:State) }:Result),0,r41)) (vertex_Links a0 a1 fun r56=>ifP (r56.2 != 0) (Q (({ Status:=0,Rounds:=0,State:=({ Low:=0,High:=0,A:=([]:List Int),B:=([]:List Int),On:=([]:List Int) }:State) }:Result),0,r56.2)) (prog_Begin a0 0 a0.N fun r87=>loopP (fun (s:Int×Int×Int×(List Int)×(List Int)×(List Int)×Int) (next391:(Int×Int×Int×(List Int)×(List Int)×(List Int)×Int)→Prop)=>match s with | (s374,s375,s376,s377,s381,s385,s389)=>prog_Live a0 ({ Low:=s375,High:=s376,A:=s377,B:=s381,On:=s385 }:State) s374 fun r409=>ifP (r409==0) (Q (({ Status:=1,Rounds:=s374,State:=({ Low:=s375,High:=s376,A:=s377,B:=s381,On:=s385 }:State) }:Result),s389,0)) (ifP (s374==a2) (Q (({ Status:=2,Rounds:=s374,State:=({ Low:=s375,High:=s376,A:=s377,B:=s381,On:=s385 }:State) }:Result),s389,0)) (vertex_Step a0 r56.1 ({ Low:=s375,High:=s376,A:=s377,B:=s381,On:=s385 }:State) (w64 (s374+1)) fun r435=>ifP (r435.2 != 0) (Q (({ Status:=3,Rounds:=s374,State:=({ Low:=s375,High:=s376,A:=s377,B:=s381,On:=s385 }:State) }:Result),s389,0)) (vertex_letters_c5d a0 r56.1 ({ Low:=s375,High:=s376,A:=s377,B:=s381,On:=s385 }:State) (w64 (s374+1)) fun r463=>vertex_letters_1_6d3 0 s389 r463.1 r463.2.1 r463.2.2 (fun (y488:Nat) (y489:Int) (x491:Int) (x492:Wide) (Qy:(Bool×Nat×Int)→Prop)=>eqP y488 0 (Qy (true,0,w64 (y489+1)))) fun r497=>eqP r497.1 0 (next391 (w64 (s374+1),r435.1.Low,r435.1.High,r435.1.A,r435.1.B,r435.1.On,r497.2)))))) (0,r87.Low,r87.High,r87.A,r87.B,r87.On,0)))
def vertex_Run (a0:Plan) (a1:Graph) (a2:Int) (Q:(Result×Int)→Prop):Prop:=
  vertex_run a0 a1 a2 fun r28=>Q (r28.1,r28.2.2)
def vertex_Letters (a0:Plan) (a1:Graph) (a2:Int) (Q:(Int×Int)→Prop):Prop:=
  vertex_run a0 a1 a2 fun r15=>Q (r15.2.1,r15.2.2)
def law35_live  (Q:Bool→Prop):Prop:=
  vertex_Links ({ Kind:=1,N:=2,Source:=0,Length:=0,Draws:=([]:List Int) }:Plan) ({ N:=2,Edges:=([({ From:=0,To:=1,W:=7 }:Edge)]:List Edge) }:Graph) fun r32=>ref21_Begin ({ Kind:=1,N:=2,Source:=0,Length:=0,Draws:=([]:List Int) }:Plan) 0 2 fun r71=>vertex_Mail ({ Kind:=1,N:=2,Source:=0,Length:=0,Draws:=([]:List Int) }:Plan) r32.1 r71 1 fun r88=>vertex_Run ({ Kind:=1,N:=2,Source:=0,Length:=0,Draws:=([]:List Int) }:Plan) ({ N:=2,Edges:=([({ From:=0,To:=1,W:=7 }:Edge)]:List Edge) }:Graph) 9 fun r118=>vertex_Letters ({ Kind:=1,N:=2,Source:=0,Length:=0,Draws:=([]:List Int) }:Plan) ({ N:=2,Edges:=([({ From:=0,To:=1,W:=7 }:Edge)]:List Edge) }:Graph) 9 fun r141=>vertex_Hear 2 1 ([({ Hi:=0,Lo:=5 }:Wide),({ Hi:=0,Lo:=3 }:Wide)]:List Wide) fun r161=>vertex_Hear 0 1 ([]:List Wide) fun r169=>ifP (r32.2==0) (ifP ((r32.1.length:Int)==1) (idxP r32.1 0 fun x176=>ifP (x176.W==1) (ifP (r88.2==0) (ifP ((r88.1.length:Int)==2) (idxP r88.1 1 fun x188=>ifP ((x188.length:Int)==1) (idxP r88.1 0 fun x201=>ifP ((x201.length:Int)==0) (ifP (r118.2==0) (ifP (r118.1.Status==1) (ifP (r118.1.Rounds==2) (ref07_SameVals r118.1.State.A ([0,1]:List Int) fun r222=>ifP r222 (ifP (r141.1==1) (ifP (r141.2==0) (ifP (r161.1==3) (ifP r161.2.1 (Q (r169.2.2==8)) (Q false)) (Q false)) (Q false)) (Q false)) (Q false)) (Q false)) (Q false)) (Q false)) (Q false)) (Q false)) (Q false)) (Q false)) (Q false)) (Q false)) (Q false)
def law35_VertexHears (a0:Int) (a1:Int) (a2:List Wide) (Q:Bool→Prop):Prop:=
  ifP (decide (100<(a2.length:Int))) (law35_live  fun r10=>Q r10) (vertex_Hear a0 a1 a2 fun r18=>ref35_Hear a0 a1 a2 fun r26=>law35_live  fun r30=>ifP r30 (ifP (r18.1==r26.1) (ifP (r18.2.1==r26.2.1) (Q (r18.2.2==r26.2.2)) (Q false)) (Q false)) (Q false))
end Go.Proofs.YtaefnmlbnkmahaaGreat
