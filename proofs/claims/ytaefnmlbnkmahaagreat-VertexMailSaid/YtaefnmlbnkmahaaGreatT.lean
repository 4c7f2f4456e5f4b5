/- Types, and pure functions as the Go text has them (printed by a program of ours). -/
import Derived.Test.YtaefnmlbnkmahaaGreatFwS
import Derived.Test.YtaefnmlbnkmahaaGreatFwW
namespace Go.Proofs.YtaefnmlbnkmahaaGreat
open Go Go.Fw
set_option linter.unusedVariables false
set_option linter.unusedSimpArgs false
set_option maxRecDepth 8000
set_option maxHeartbeats 1000000
abbrev eI64:Elem Int:=flat 1 (fun x=>[.int .i64 x]) (fun _=>⟨rfl,rfl⟩)
abbrev eU64:Elem Int:=flat 1 (fun x=>[.int .u64 x]) (fun _=>⟨rfl,rfl⟩)
abbrev eU8:Elem Int:=flat 1 (fun x=>[.int .u8 x]) (fun _=>⟨rfl,rfl⟩)
structure Edge where
  From:Int
  To:Int
  W:Int
deriving DecidableEq,Inhabited
def encEdge (x:Edge):List Value:=[.int .i64 x.From,.int .i64 x.To,.int .i64 x.W]
abbrev eEdge:Elem Edge:=flat 3 encEdge (fun _=>⟨rfl,rfl⟩)
structure Graph where
  N:Int
  Edges:List Edge
deriving DecidableEq,Inhabited
def eGraph:Elem Graph where
  sz:=2
  rep I cs x:=∃ a1 c1,cs=[.int .i64 x.N,.slice a1 x.Edges.length c1]∧RepSl eEdge I a1 c1 x.Edges
  mono hle:=fun ⟨a1,c1,e,h0⟩=>⟨a1,c1,e,h0.mono hle⟩
  len:=fun ⟨a1,c1,e,_⟩=>by rw [e]; rfl
  one:=fun ⟨a1,c1,e,_⟩=>by rw [e]; rfl
structure Wide where
  Hi:Int
  Lo:Int
deriving DecidableEq,Inhabited
def encWide (x:Wide):List Value:=[.int .i64 x.Hi,.int .u64 x.Lo]
abbrev eWide:Elem Wide:=flat 2 encWide (fun _=>⟨rfl,rfl⟩)
structure Rows where
  Rows:Int
  Cols:Int
  Start:List Int
  Col:List Int
  Val:List Int
deriving DecidableEq,Inhabited
structure Triple where
  Row:Int
  Col:Int
  Val:Int
deriving DecidableEq,Inhabited
def encTriple (x:Triple):List Value:=[.int .i64 x.Row,.int .i64 x.Col,.int .i64 x.Val]
abbrev eTriple:Elem Triple:=flat 3 encTriple (fun _=>⟨rfl,rfl⟩)
structure Item where
  At:Int
  Val:Int
deriving DecidableEq,Inhabited
def encItem (x:Item):List Value:=[.int .i64 x.At,.int .i64 x.Val]
abbrev eItem:Elem Item:=flat 2 encItem (fun _=>⟨rfl,rfl⟩)
structure Plan where
  Kind:Int
  N:Int
  Source:Int
  Length:Int
  Draws:List Int
deriving DecidableEq,Inhabited
def ePlan:Elem Plan where
  sz:=5
  rep I cs x:=∃ a4 c4,cs=[.int .i64 x.Kind,.int .i64 x.N,.int .i64 x.Source,.int .i64 x.Length,.slice a4 x.Draws.length c4]∧RepSl eI64 I a4 c4 x.Draws
  mono hle:=fun ⟨a4,c4,e,h0⟩=>⟨a4,c4,e,h0.mono hle⟩
  len:=fun ⟨a4,c4,e,_⟩=>by rw [e]; rfl
  one:=fun ⟨a4,c4,e,_⟩=>by rw [e]; rfl
structure State where
  Low:Int
  High:Int
  A:List Int
  B:List Int
  On:List Int
deriving DecidableEq,Inhabited
def eState:Elem State where
  sz:=5
  rep I cs x:=∃ a2 c2 a3 c3 a4 c4,cs=[.int .i64 x.Low,.int .i64 x.High,.slice a2 x.A.length c2,.slice a3 x.B.length c3,.slice a4 x.On.length c4]∧RepSl eI64 I a2 c2 x.A∧RepSl eI64 I a3 c3 x.B∧RepSl eU64 I a4 c4 x.On
  mono hle:=fun ⟨a2,c2,a3,c3,a4,c4,e,h0,h1,h2⟩=>⟨a2,c2,a3,c3,a4,c4,e,h0.mono hle,h1.mono hle,h2.mono hle⟩
  len:=fun ⟨a2,c2,a3,c3,a4,c4,e,_,_,_⟩=>by rw [e]; rfl
  one:=fun ⟨a2,c2,a3,c3,a4,c4,e,_,_,_⟩=>by rw [e]; rfl
structure Result where
  Status:Int
  Rounds:Int
  State:State
deriving DecidableEq,Inhabited
structure Dense where
  N:Int
  Has:List Int
  Vals:List Int
deriving DecidableEq,Inhabited
structure Sum where
  At:Int
  Val:Wide
deriving DecidableEq,Inhabited
def encSum (x:Sum):List Value:=[.int .i64 x.At,.int .i64 x.Val.Hi,.int .u64 x.Val.Lo]
abbrev eSum:Elem Sum:=flat 3 encSum (fun _=>⟨rfl,rfl⟩)
structure Vec where
  N:Int
  Items:List Item
deriving DecidableEq,Inhabited
structure Law22_Case where
  P:Plan
  G:Graph
  Limit:Int
deriving DecidableEq,Inhabited
def eLaw22_Case:Elem Law22_Case where
  sz:=8
  rep I cs x:=∃ a4 c4 a6 c6,cs=[.int .i64 x.P.Kind,.int .i64 x.P.N,.int .i64 x.P.Source,.int .i64 x.P.Length,.slice a4 x.P.Draws.length c4,.int .i64 x.G.N,.slice a6 x.G.Edges.length c6,.int .u8 x.Limit]∧RepSl eI64 I a4 c4 x.P.Draws∧RepSl eEdge I a6 c6 x.G.Edges
  mono hle:=fun ⟨a4,c4,a6,c6,e,h0,h1⟩=>⟨a4,c4,a6,c6,e,h0.mono hle,h1.mono hle⟩
  len:=fun ⟨a4,c4,a6,c6,e,_,_⟩=>by rw [e]; rfl
  one:=fun ⟨a4,c4,a6,c6,e,_,_⟩=>by rw [e]; rfl
def law21_Within (a0:Int) (a1:Int) (Q:Int→Prop):Prop:=
  ifP (decide (a1<1)) (Q 0) (ifP (decide (a0<0)) (Q 0) (nzP a1 <| Q (a0.tmod a1)))
def law21_Graph (a0:Graph) (Q:Graph→Prop):Prop:=
  law21_Within a0.N 24 fun r21=>loopP (fun (s:(List Edge)×Int) (next131:((List Edge)×Int)→Prop)=>match s with | (s125,s129)=>ifP (decide (s129<(a0.Edges.length:Int))) (ifP (decide (s129<60)) (ifP (decide (0<r21)) (idxP a0.Edges s129 fun x152=>law21_Within x152.From r21 fun r162=>law21_Within x152.To r21 fun r166=>appP 24 s125 ([({ From:=r162,To:=r166,W:=bnd .i64 x152.W 2147483647 }:Edge)]) fun _=>next131 ((s125++([({ From:=r162,To:=r166,W:=bnd .i64 x152.W 2147483647 }:Edge)])),w64 (s129+1))) (Q ({ N:=r21,Edges:=s125 }:Graph))) (Q ({ N:=r21,Edges:=s125 }:Graph))) (Q ({ N:=r21,Edges:=s125 }:Graph))) (([]:List Edge),0)
def ref05_Right (a0:Graph) (Q:Int→Prop):Prop:=
  ifP (decide (a0.N<0)) (Q 3) (ifP (decide (4096<a0.N)) (Q 5) (ifP (decide (65536<(a0.Edges.length:Int))) (Q 5) (loopP (fun (s164:Int) (next165:Int→Prop)=>ifP (decide (s164<(a0.Edges.length:Int))) (idxP a0.Edges s164 fun x182=>ifP (decide (x182.From<0)) (Q 3) (ifP (decide (a0.N≤x182.From)) (Q 3) (ifP (decide (x182.To<0)) (Q 3) (ifP (decide (a0.N≤x182.To)) (Q 3) (next165 (w64 (s164+1))))))) (loopP (fun (s243:Int) (next244:Int→Prop)=>ifP (decide (s243<(a0.Edges.length:Int))) (idxP a0.Edges s243 fun x251=>ifP (decide (x251.W<0)) (Q 7) (idxP a0.Edges s243 fun x261=>ifP (decide (2147483647<x261.W)) (Q 7) (next244 (w64 (s243+1))))) (Q 0)) 0)) 0)))
def ref01_Add (a0:Wide) (a1:Wide) (Q:Wide→Prop):Prop:=
  ifP (decide ((IntKind.wrap .u64 (a0.Lo+a1.Lo))<a0.Lo)) (Q ({ Hi:=w64 ((w64 (a0.Hi+a1.Hi))+1),Lo:=IntKind.wrap .u64 (a0.Lo+a1.Lo) }:Wide)) (Q ({ Hi:=w64 (a0.Hi+a1.Hi),Lo:=IntKind.wrap .u64 (a0.Lo+a1.Lo) }:Wide))
def ref01_Compare (a0:Wide) (a1:Wide) (Q:Int→Prop):Prop:=
  joinP (fun (k15:Unit→Prop)=>ifP (decide (a0.Hi<a1.Hi)) (Q (-1)) (ifP (a0.Hi==a1.Hi) (ifP (decide (a0.Lo<a1.Lo)) (Q (-1)) (k15 ())) (k15 ()))) fun _=>ifP (a0==a1) (Q 0) (Q 1)
def ref02_truth (a0:Bool) (Q:Wide→Prop):Prop:=
  ifP a0 (Q ({ Hi:=0,Lo:=1 }:Wide)) (Q ({ Hi:=0,Lo:=0 }:Wide))
def ref02_Add (a0:Int) (a1:Wide) (a2:Wide) (Q:Wide→Prop):Prop:=
  joinP (fun (k18:Bool→Prop)=>ifP (a0==1) (k18 (a0==1)) (ifP (a0==3) (k18 (a0==3)) (k18 (a0==4)))) fun s17=>ifP s17 (ref01_Compare a2 a1 fun r24=>ifP (decide (r24<0)) (Q a2) (Q a1)) (ifP (a0==2) (ifP (!(a1==({ Hi:=0,Lo:=0 }:Wide))) (ref02_truth true fun r31=>Q r31) (ref02_truth (!(a2==({ Hi:=0,Lo:=0 }:Wide))) fun r35=>Q r35)) (ifP (a0==5) (ref01_Add a1 a2 fun r40=>Q r40) (Q ({ Hi:=0,Lo:=0 }:Wide))))
def ref01_Narrow (a0:Wide) (Q:(Int×Bool)→Prop):Prop:=
  ifP (a0.Hi==0) (ifP (decide (0≤(w64 (a0.Lo)))) (Q (w64 (a0.Lo),true)) (ifP (a0.Hi==(-1)) (ifP (decide ((w64 (a0.Lo))<0)) (Q (w64 (a0.Lo),true)) (Q (0,false))) (Q (0,false)))) (ifP (a0.Hi==(-1)) (ifP (decide ((w64 (a0.Lo))<0)) (Q (w64 (a0.Lo),true)) (Q (0,false))) (Q (0,false)))
def ref02_Is (a0:Int) (Q:Bool→Prop):Prop:=
  ifP (decide (1≤a0)) (Q (decide (a0≤5))) (Q false)
def ref01_Of (a0:Int) (Q:Wide→Prop):Prop:=
  ifP (decide (a0<0)) (Q ({ Hi:=(-1),Lo:=IntKind.wrap .u64 (a0) }:Wide)) (Q ({ Hi:=0,Lo:=IntKind.wrap .u64 (a0) }:Wide))
def ref05_below (a0:Edge) (a1:Edge) (Q:Bool→Prop):Prop:=
  ifP (decide (a0.From<a1.From)) (Q true) (ifP (a0.From==a1.From) (Q (decide (a0.To<a1.To))) (Q false))
def ref05_Combine (a0:Int) (a1:List Edge) (Q:((List Edge)×Int)→Prop):Prop:=
  ref02_Is a0 fun r12=>ifP (!r12) (Q (([]:List Edge),8)) (loopP (fun (s:(List Edge)×(List Wide)×Int) (next2668:((List Edge)×(List Wide)×Int)→Prop)=>match s with | (s2657,s2661,s2665)=>ifP (decide (s2665<(a1.length:Int))) (joinP (fun (k2822:Int→Prop)=>loopP (fun (s2870:Int) (next2871:Int→Prop)=>ifP (decide (s2870<(s2657.length:Int))) (idxP s2657 s2870 fun x2879=>idxP a1 s2665 fun x2884=>ref05_below x2879 x2884 fun r2892=>ifP r2892 (next2871 (w64 (s2870+1))) (k2822 s2870)) (k2822 s2870)) 0) fun s2821=>idxP a1 s2665 fun x2916=>ref01_Of x2916.W fun r2924=>joinP (fun (k3057:Bool→Prop)=>ifP (decide (s2821<(s2657.length:Int))) (idxP a1 s2665 fun x3062=>idxP s2657 s2821 fun x3071=>ref05_below x3062 x3071 fun r3075=>k3057 (!r3075)) (k3057 false)) fun s3056=>ifP s3056 (idxP s2661 s2821 fun x3087=>ref02_Add a0 x3087 r2924 fun r3091=>idxP s2661 s2821 fun x3096=>next2668 (s2657,(s2661.set s2821.toNat r3091),w64 (s2665+1))) (appP 24 s2657 ([({ From:=0,To:=0,W:=0 }:Edge)]) fun _=>appP 16 s2661 ([({ Hi:=0,Lo:=0 }:Wide)]) fun _=>loopP (fun (s:(List Edge)×(List Wide)×Int) (next3290:((List Edge)×(List Wide)×Int)→Prop)=>match s with | (s3281,s3285,s3289)=>ifP (decide (s2821<s3289)) (idxP s3281 (w64 (s3289 - 1)) fun x3299=>idxP s3281 s3289 fun x3304=>idxP s3285 (w64 (s3289 - 1)) fun x3307=>idxP s3285 s3289 fun x3312=>next3290 ((s3281.set s3289.toNat x3299),(s3285.set s3289.toNat x3307),w64 (s3289 - 1))) (idxP a1 s2665 fun x3317=>idxP a1 s2665 fun x3326=>idxP s3281 s2821 fun x3335=>idxP s3285 s2821 fun x3340=>next2668 ((s3281.set s2821.toNat ({ From:=x3317.From,To:=x3326.To,W:=0 }:Edge)),(s3285.set s2821.toNat r2924),w64 (s2665+1)))) ((s2657++([({ From:=0,To:=0,W:=0 }:Edge)])),(s2661++([({ Hi:=0,Lo:=0 }:Wide)])),w64 (((s2657++([({ From:=0,To:=0,W:=0 }:Edge)])).length:Int) - 1)))) (loopP (fun (s:(List Edge)×Int) (next3416:((List Edge)×Int)→Prop)=>match s with | (s3411,s3415)=>ifP (decide (s3415<(s3411.length:Int))) (idxP s2661 s3415 fun x3432=>ref01_Narrow x3432 fun r3436=>ifP (!r3436.2) (Q (([]:List Edge),12)) (idxP s3411 s3415 fun x3443=>next3416 ((s3411.set s3415.toNat ({ From:=x3443.From,To:=x3443.To,W:=r3436.1 }:Edge)),w64 (s3415+1)))) (Q (s3411,0))) (s2657,0))) (([]:List Edge),([]:List Wide),0))
def ref05_Canon (a0:Graph) (Q:Graph→Prop):Prop:=
  ref05_Combine 1 a0.Edges fun r15=>Q ({ N:=a0.N,Edges:=r15.1 }:Graph)
def ref05_Turn (a0:Graph) (Q:Graph→Prop):Prop:=
  loopP (fun (s:(List Edge)×Int) (next101:((List Edge)×Int)→Prop)=>match s with | (s95,s99)=>ifP (decide (s99<(a0.Edges.length:Int))) (idxP a0.Edges s99 fun x118=>appP 24 s95 ([({ From:=x118.To,To:=x118.From,W:=x118.W }:Edge)]) fun _=>next101 ((s95++([({ From:=x118.To,To:=x118.From,W:=x118.W }:Edge)])),w64 (s99+1))) (ref05_Canon ({ N:=a0.N,Edges:=s95 }:Graph) fun r138=>Q r138)) (([]:List Edge),0)
def ref07_Empty (a0:Int) (a1:Int) (Q:Rows→Prop):Prop:=
  mkP 8 (w64 (a0+1)) 0 fun _=>Q ({ Rows:=a0,Cols:=a1,Start:=(List.replicate (w64 (a0+1)).toNat 0),Col:=([]:List Int),Val:=([]:List Int) }:Rows)
def ref07_built (a0:Int) (a1:Int) (a2:List Triple) (Q:Rows→Prop):Prop:=
  ref07_Empty a0 a1 fun r38=>loopP (fun (s:(List Int)×(List Int)×(List Int)×Int) (next403:((List Int)×(List Int)×(List Int)×Int)→Prop)=>match s with | (s390,s394,s398,s402)=>ifP (decide (s402<(a2.length:Int))) (idxP a2 s402 fun x431=>appP 8 s394 ([x431.Col]) fun _=>idxP a2 s402 fun x467=>appP 8 s398 ([x467.Val]) fun _=>idxP a2 s402 fun x491=>loopP (fun (s:(List Int)×Int) (next539:((List Int)×Int)→Prop)=>match s with | (s534,s538)=>ifP (decide (s538≤a0)) (idxP s534 s538 fun x547=>idxP s534 s538 fun x552=>next539 ((s534.set s538.toNat (w64 (x547+1))),w64 (s538+1))) (next403 (s534,(s394++([x431.Col])),(s398++([x467.Val])),w64 (s402+1)))) (s390,w64 (x491.Row+1))) (Q ({ Rows:=r38.Rows,Cols:=r38.Cols,Start:=s390,Col:=s394,Val:=s398 }:Rows))) (r38.Start,r38.Col,r38.Val,0)
def ref07_Graph (a0:Graph) (Q:(Rows×Int)→Prop):Prop:=
  ref05_Right a0 fun r34=>ifP (r34 != 0) (Q (({ Rows:=0,Cols:=0,Start:=([]:List Int),Col:=([]:List Int),Val:=([]:List Int) }:Rows),r34)) (ref05_Turn a0 fun r52=>loopP (fun (s:(List Triple)×Int) (next128:((List Triple)×Int)→Prop)=>match s with | (s122,s126)=>ifP (decide (s126<(r52.Edges.length:Int))) (idxP r52.Edges s126 fun x137=>idxP r52.Edges s126 fun x142=>idxP r52.Edges s126 fun x145=>appP 24 s122 ([({ Row:=x137.From,Col:=x142.To,Val:=x145.W }:Triple)]) fun _=>next128 ((s122++([({ Row:=x137.From,Col:=x142.To,Val:=x145.W }:Triple)])),w64 (s126+1))) (ref07_built a0.N a0.N s122 fun r158=>Q (r158,0))) (([]:List Triple),0))
def csr_within (a0:Int) (a1:Int) (Q:Bool→Prop):Prop:=
  ifP (decide (0≤a0)) (Q (decide (a0≤a1))) (Q false)
def cmp_isNaN_int (a0:Int) (Q:Bool→Prop):Prop:=
  Q (a0 != a0)
def cmp_Less_int (a0:Int) (a1:Int) (Q:Bool→Prop):Prop:=
  cmp_isNaN_int a0 fun r1=>ifP r1 (cmp_isNaN_int a1 fun r6=>ifP (!r6) (Q true) (Q (decide (a0<a1)))) (Q (decide (a0<a1)))
def slices_IsSorted_int_int (a0:List Int) (Q:Bool→Prop):Prop:=
  loopP (fun (s57:Int) (next58:Int→Prop)=>ifP (decide (0<s57)) (idxP a0 s57 fun x64=>idxP a0 (w64 (s57 - 1)) fun x73=>cmp_Less_int x64 x73 fun r81=>ifP r81 (Q false) (next58 (w64 (s57 - 1)))) (Q true)) (w64 ((a0.length:Int) - 1))
def csr_row (a0:List Int) (a1:Int) (Q:Bool→Prop):Prop:=
  loopP (fun (s68:Int) (next69:Int→Prop)=>ifP (decide (s68<(a0.length:Int))) (idxP a0 s68 fun x84=>csr_within x84 (w64 (a1 - 1)) fun r92=>ifP (!r92) (Q false) (ifP (decide (0<s68)) (idxP a0 (w64 (s68 - 1)) fun x99=>ifP (decide (x84≤x99)) (Q false) (next69 (w64 (s68+1)))) (next69 (w64 (s68+1))))) (Q true)) 0
def csr_Right (a0:Rows) (Q:Bool→Prop):Prop:=
  csr_within a0.Rows 4096 fun r27=>ifP (!r27) (Q false) (csr_within a0.Cols 4096 fun r32=>ifP (!r32) (Q false) (ifP ((a0.Start.length:Int) != (w64 (a0.Rows+1))) (Q false) (ifP ((a0.Val.length:Int) != (a0.Col.length:Int)) (Q false) (ifP (decide (65536<(a0.Col.length:Int))) (Q false) (idxP a0.Start 0 fun x66=>ifP (x66 != 0) (Q false) (idxP a0.Start a0.Rows fun x76=>ifP (x76 != (a0.Col.length:Int)) (Q false) (slices_IsSorted_int_int a0.Start fun r85=>ifP (!r85) (Q false) (loopP (fun (s163:Int) (next164:Int→Prop)=>ifP (decide (s163<a0.Rows)) (idxP a0.Start s163 fun x170=>idxP a0.Start (w64 (s163+1)) fun x179=>slP a0.Col x170 x179 fun _=>csr_row ((a0.Col.take x179.toNat).drop x170.toNat) a0.Cols fun r197=>ifP (!r197) (Q false) (next164 (w64 (s163+1)))) (Q true)) 0))))))))
def csr_empty (a0:Int) (a1:Int) (Q:Rows→Prop):Prop:=
  mkP 8 (w64 (a0+1)) 0 fun _=>Q ({ Rows:=a0,Cols:=a1,Start:=(List.replicate (w64 (a0+1)).toNat 0),Col:=([]:List Int),Val:=([]:List Int) }:Rows)
def csr_sure (a0:Rows) (Q:Rows→Prop):Prop:=
  csr_Right a0 fun r27=>ifP r27 (Q a0) (csr_empty 0 0 fun r32=>Q r32)
def csr_bounds (a0:Int×Int) (a1:Int) (Q:(Int×Int)→Prop):Prop:=
  ifP (decide ((if a1<a0.2 then a1 else a0.2)≤(if 0 > a0.1 then 0 else a0.1))) (Q ((if 0 > a0.1 then 0 else a0.1),0)) (Q ((if 0 > a0.1 then 0 else a0.1),w64 ((if a1<a0.2 then a1 else a0.2) - (if 0 > a0.1 then 0 else a0.1))))
def csr_part (a0:Rows) (a1:Int) (Q:((List Int)×(List Int))→Prop):Prop:=
  idxP a0.Start a1 fun x39=>idxP a0.Start (w64 (a1+1)) fun x48=>slP a0.Col x39 x48 fun _=>slP a0.Val x39 x48 fun _=>Q (((a0.Col.take x48.toNat).drop x39.toNat),((a0.Val.take x48.toNat).drop x39.toNat))
def csr_Row (a0:Rows) (a1:Int) (Q:(List Item)→Prop):Prop:=
  csr_sure a0 fun r33=>csr_within a1 (w64 (r33.Rows - 1)) fun r54=>ifP (!r54) (Q ([]:List Item)) (csr_part r33 a1 fun r73=>loopP (fun (s:(List Item)×Int) (next161:((List Item)×Int)→Prop)=>match s with | (s155,s159)=>ifP (decide (s159<(r73.1.length:Int))) (idxP r73.1 s159 fun x168=>idxP r73.2 s159 fun x177=>appP 16 s155 ([({ At:=x168,Val:=x177 }:Item)]) fun _=>next161 ((s155++([({ At:=x168,Val:=x177 }:Item)])),w64 (s159+1))) (Q s155)) (([]:List Item),0))
def csr_built (a0:Int) (a1:Int) (a2:List Triple) (Q:Rows→Prop):Prop:=
  csr_empty a0 a1 fun r38=>loopP (fun (s:(List Int)×(List Int)×(List Int)×Int) (next427:((List Int)×(List Int)×(List Int)×Int)→Prop)=>match s with | (s414,s418,s422,s426)=>ifP (decide (s426<(a2.length:Int))) (idxP a2 s426 fun x445=>idxP s414 (w64 (x445.Row+1)) fun x464=>idxP s414 (w64 (x445.Row+1)) fun x469=>appP 8 s418 ([x445.Col]) fun _=>appP 8 s422 ([x445.Val]) fun _=>next427 ((s414.set ((w64 (x445.Row+1)).toNat) (w64 (x464+1))),(s418++([x445.Col])),(s422++([x445.Val])),w64 (s426+1))) (loopP (fun (s:(List Int)×Int) (next535:((List Int)×Int)→Prop)=>match s with | (s530,s534)=>ifP (decide (s534<a0)) (idxP s530 (w64 (s534+1)) fun x546=>idxP s530 s534 fun x551=>idxP s530 (w64 (s534+1)) fun x554=>next535 ((s530.set ((w64 (s534+1)).toNat) (w64 (x546+x551))),w64 (s534+1))) (Q ({ Rows:=r38.Rows,Cols:=r38.Cols,Start:=s530,Col:=s418,Val:=s422 }:Rows))) (s414,0))) (r38.Start,r38.Col,r38.Val,0)
def csr_Cut (a0:Rows) (a1:Int×Int) (a2:Int×Int) (Q:Rows→Prop):Prop:=
  csr_sure a0 fun r51=>csr_bounds a1 r51.Rows fun r71=>csr_bounds a2 r51.Cols fun r79=>loopP (fun (s:(List Triple)×Int) (next446:((List Triple)×Int)→Prop)=>match s with | (s440,s444)=>ifP (decide (s444<r71.2)) (csr_Row r51 (w64 (r71.1+s444)) fun r464=>loopP (fun (s:(List Triple)×Int) (next576:((List Triple)×Int)→Prop)=>match s with | (s571,s575)=>ifP (decide (s575<(r464.length:Int))) (idxP r464 s575 fun x595=>joinP (fun (k608:Bool→Prop)=>ifP (decide (r79.1≤x595.At)) (k608 (decide ((w64 (x595.At - r79.1))<r79.2))) (k608 false)) fun s607=>ifP s607 (appP 24 s571 ([({ Row:=s444,Col:=w64 (x595.At - r79.1),Val:=x595.Val }:Triple)]) fun _=>next576 ((s571++([({ Row:=s444,Col:=w64 (x595.At - r79.1),Val:=x595.Val }:Triple)])),w64 (s575+1))) (next576 (s571,w64 (s575+1)))) (next446 (s571,w64 (s444+1)))) (s440,0)) (csr_built r71.2 r79.2 s440 fun r627=>Q r627)) (([]:List Triple),0)
def ring_Is (a0:Int) (Q:Bool→Prop):Prop:=
  ifP (decide (0<a0)) (Q (decide (a0<6))) (Q false)
def wide_Of (a0:Int) (Q:Wide→Prop):Prop:=
  Q ({ Hi:=shr .i64 a0 63,Lo:=IntKind.wrap .u64 (a0) }:Wide)
def ring_truth (a0:Bool) (Q:Wide→Prop):Prop:=
  ifP a0 (wide_Of 1 fun r6=>Q r6) (Q ({ Hi:=0,Lo:=0 }:Wide))
def wide_halves (a0:Int) (Q:(Int×Int)→Prop):Prop:=
  Q (shr .u64 (shl .u64 a0 32) 32,shr .u64 a0 32)
def wide_product (a0:Int) (a1:Int) (Q:Wide→Prop):Prop:=
  wide_halves a0 fun r17=>wide_halves a1 fun r21=>wide_halves (IntKind.wrap .u64 (r17.1*r21.1)) fun r40=>wide_halves (IntKind.wrap .u64 ((IntKind.wrap .u64 (r17.2*r21.1))+r40.2)) fun r44=>wide_halves (IntKind.wrap .u64 ((IntKind.wrap .u64 (r17.1*r21.2))+r44.1)) fun r55=>wide_halves (IntKind.wrap .u64 (r17.1*r21.1)) fun r61=>Q ({ Hi:=w64 (IntKind.wrap .u64 ((IntKind.wrap .u64 ((IntKind.wrap .u64 (r17.2*r21.2))+r44.2))+r55.2)),Lo:=bor .u64 (shl .u64 r55.1 32) r61.1 }:Wide)
def wide_size (a0:Int) (Q:Int→Prop):Prop:=
  ifP (decide (a0<0)) (Q (IntKind.wrap .u64 (0 - (IntKind.wrap .u64 (a0))))) (Q (IntKind.wrap .u64 (a0)))
def wide_carry (a0:Bool) (Q:Int→Prop):Prop:=
  ifP a0 (Q 1) (Q 0)
def wide_Sub (a0:Wide) (a1:Wide) (Q:Wide→Prop):Prop:=
  wide_carry (decide (a0.Lo<a1.Lo)) fun r13=>Q ({ Hi:=w64 (IntKind.wrap .u64 ((IntKind.wrap .u64 ((IntKind.wrap .u64 (a0.Hi)) - (IntKind.wrap .u64 (a1.Hi)))) - r13)),Lo:=IntKind.wrap .u64 (a0.Lo - a1.Lo) }:Wide)
def wide_Mul (a0:Int) (a1:Int) (Q:Wide→Prop):Prop:=
  wide_size a0 fun r19=>wide_size a1 fun r23=>wide_product r19 r23 fun r27=>ifP (!((decide (a0<0))==(decide (a1<0)))) (wide_Sub ({ Hi:=0,Lo:=0 }:Wide) r27 fun r34=>Q r34) (Q r27)
def cmp_Or_int (a0:List Int) (Q:Int→Prop):Prop:=
  loopP (fun (s31:Int) (next32:Int→Prop)=>ifP (decide (s31<(a0.length:Int))) (idxP a0 s31 fun x38=>ifP (x38 != 0) (Q x38) (next32 (w64 (s31+1)))) (Q 0)) 0
def cmp_isNaN_int64 (a0:Int) (Q:Bool→Prop):Prop:=
  Q (a0 != a0)
def cmp_Compare_int64 (a0:Int) (a1:Int) (Q:Int→Prop):Prop:=
  cmp_isNaN_int64 a0 fun r5=>cmp_isNaN_int64 a1 fun r13=>ifP r5 (ifP r13 (Q 0) (Q (-1))) (ifP r13 (Q 1) (ifP (decide (a0<a1)) (Q (-1)) (ifP (decide (a1<a0)) (Q 1) (Q 0))))
def cmp_isNaN_uint64 (a0:Int) (Q:Bool→Prop):Prop:=
  Q (a0 != a0)
def cmp_Compare_uint64 (a0:Int) (a1:Int) (Q:Int→Prop):Prop:=
  cmp_isNaN_uint64 a0 fun r5=>cmp_isNaN_uint64 a1 fun r13=>ifP r5 (ifP r13 (Q 0) (Q (-1))) (ifP r13 (Q 1) (ifP (decide (a0<a1)) (Q (-1)) (ifP (decide (a1<a0)) (Q 1) (Q 0))))
def wide_Compare (a0:Wide) (a1:Wide) (Q:Int→Prop):Prop:=
  cmp_Compare_int64 a0.Hi a1.Hi fun r9=>cmp_Compare_uint64 a0.Lo a1.Lo fun r13=>cmp_Or_int ([r9,r13]:List Int) fun r22=>Q r22
def ring_lesser (a0:Wide) (a1:Wide) (Q:Wide→Prop):Prop:=
  wide_Compare a0 a1 fun r13=>ifP (decide (r13≤0)) (Q a0) (Q a1)
def wide_Add (a0:Wide) (a1:Wide) (Q:Wide→Prop):Prop:=
  wide_carry (decide ((IntKind.wrap .u64 (a0.Lo+a1.Lo))<a1.Lo)) fun r13=>Q ({ Hi:=w64 (IntKind.wrap .u64 ((IntKind.wrap .u64 ((IntKind.wrap .u64 (a0.Hi))+(IntKind.wrap .u64 (a1.Hi))))+r13)),Lo:=IntKind.wrap .u64 (a0.Lo+a1.Lo) }:Wide)
def ring_Mul (a0:Int) (a1:Int) (a2:Int) (Q:Wide→Prop):Prop:=
  ifP (a0==2) (ifP (a1 != 0) (ring_truth (a2 != 0) fun r22=>Q r22) (ring_truth false fun r26=>Q r26)) (ifP (a0==5) (wide_Mul a1 a2 fun r31=>Q r31) (joinP (fun (k55:Unit→Prop)=>ring_Is a0 fun r56=>ifP r56 (ifP (decide (4611686018427387904≤(if a2 > a1 then a2 else a1))) (wide_Of 4611686018427387904 fun r62=>Q r62) (k55 ())) (k55 ())) fun _=>joinP (fun (k90:(Int×Int)→Prop)=>ifP (a0==1) (wide_Of a1 fun r93=>k90 (r93.Hi,r93.Lo)) (ifP (a0==4) (k90 (0,0)) (ifP (a0==3) (wide_Of a1 fun r99=>Q r99) (Q ({ Hi:=0,Lo:=0 }:Wide))))) fun (s88,s89)=>wide_Of 4611686018427387904 fun r106=>wide_Of a2 fun r110=>wide_Add ({ Hi:=s88,Lo:=s89 }:Wide) r110 fun r114=>ring_lesser r106 r114 fun r118=>Q r118))
def ring_Add (a0:Int) (a1:Wide) (a2:Wide) (Q:Wide→Prop):Prop:=
  joinP (fun (k18:Bool→Prop)=>ifP (a0==1) (k18 (a0==1)) (ifP (a0==3) (k18 (a0==3)) (k18 (a0==4)))) fun s17=>ifP s17 (ring_lesser a1 a2 fun r24=>Q r24) (ifP (a0==2) (ifP (!(a1==a2)) (ring_truth true fun r30=>Q r30) (ring_truth (!(a1==({ Hi:=0,Lo:=0 }:Wide))) fun r34=>Q r34)) (ifP (a0==5) (wide_Add a1 a2 fun r39=>Q r39) (Q ({ Hi:=0,Lo:=0 }:Wide))))
def ring_Zero (a0:Int) (Q:Int→Prop):Prop:=
  ifP (a0==1) (Q 4611686018427387904) (ifP (a0==3) (Q 4611686018427387904) (ifP (a0==4) (Q 4611686018427387904) (Q 0)))
def cmp_Compare_int (a0:Int) (a1:Int) (Q:Int→Prop):Prop:=
  cmp_isNaN_int a0 fun r5=>cmp_isNaN_int a1 fun r13=>ifP r5 (ifP r13 (Q 0) (Q (-1))) (ifP r13 (Q 1) (ifP (decide (a0<a1)) (Q (-1)) (ifP (decide (a1<a0)) (Q 1) (Q 0))))
def wide_Narrow (a0:Wide) (Q:(Int×Bool)→Prop):Prop:=
  wide_Of (w64 (a0.Lo)) fun r5=>ifP (!(r5==a0)) (Q (0,false)) (Q (w64 (a0.Lo),true))
def ring_Narrow (a0:Int) (a1:Wide) (Q:(Int×Bool)→Prop):Prop:=
  wide_Narrow a1 fun r3=>Q (r3.1,r3.2)
def prog_within (a0:Int) (a1:Int) (Q:Bool→Prop):Prop:=
  ifP (decide (0≤a0)) (Q (decide (a0≤a1))) (Q false)
def prog_Right_1_a45 (a0:Int) (Q:Bool→Prop):Prop:=
  ifP (decide (a0<0)) (Q true) (Q (decide (2147483647<a0)))
def slices_IndexFunc_int64_int64_135 (a0:List Int) (Q:Int→Prop):Prop:=
  loopP (fun (s45:Int) (next46:Int→Prop)=>ifP (decide (s45<(a0.length:Int))) (idxP a0 s45 fun x52=>prog_Right_1_a45 x52 fun r66=>ifP r66 (Q s45) (next46 (w64 (s45+1)))) (Q (-1))) 0
def slices_ContainsFunc_int64_int64_80a (a0:List Int) (Q:Bool→Prop):Prop:=
  slices_IndexFunc_int64_int64_135 a0 fun r10=>Q (decide (0≤r10))
def prog_Right (a0:Plan) (Q:Int→Prop):Prop:=
  ifP (decide (a0.Kind≤0)) (Q 8) (ifP (decide (5<a0.Kind)) (Q 8) (prog_within a0.N 4096 fun r17=>ifP (!r17) (Q 3) (joinP (fun (k92:Unit→Prop)=>joinP (fun (k111:Unit→Prop)=>ifP (a0.Kind==4) (prog_within a0.Length 8192 fun r114=>ifP (!r114) (Q 3) (k111 ())) (ifP (a0.Kind==1) (k111 ()) (ifP (a0.Kind==2) (k111 ()) (k92 ())))) fun _=>prog_within a0.Source (w64 (a0.N - 1)) fun r123=>ifP (!r123) (Q 3) (k92 ())) fun _=>ifP (decide (65536<(a0.Draws.length:Int))) (Q 5) (slices_ContainsFunc_int64_int64_80a a0.Draws fun r137=>ifP r137 (Q 7) (Q 0)))))
def edges_Right_1_b08 (o0:Graph) (a0:Int) (Q:Bool→Prop):Prop:=
  ifP (decide (a0<0)) (Q true) (Q (decide (o0.N≤a0)))
def edges_Right_2_f7d (o1:Graph) (a0:Edge) (Q:Bool→Prop):Prop:=
  edges_Right_1_b08 o1 a0.From fun r18=>ifP r18 (Q true) (edges_Right_1_b08 o1 a0.To fun r26=>Q r26)
def slices_IndexFunc_api_Edge_api_Edge_a86 (o1:Graph) (a0:List Edge) (Q:Int→Prop):Prop:=
  loopP (fun (s52:Int) (next53:Int→Prop)=>ifP (decide (s52<(a0.length:Int))) (idxP a0 s52 fun x59=>edges_Right_2_f7d o1 x59 fun r73=>ifP r73 (Q s52) (next53 (w64 (s52+1)))) (Q (-1))) 0
def slices_ContainsFunc_api_Edge_api_Edge_87a (o1:Graph) (a0:List Edge) (Q:Bool→Prop):Prop:=
  slices_IndexFunc_api_Edge_api_Edge_a86 o1 a0 fun r17=>Q (decide (0≤r17))
def edges_Right_3_b50 (a0:Edge) (Q:Bool→Prop):Prop:=
  ifP (decide (a0.W<0)) (Q true) (Q (decide (2147483647<a0.W)))
def slices_IndexFunc_api_Edge_api_Edge_122 (a0:List Edge) (Q:Int→Prop):Prop:=
  loopP (fun (s45:Int) (next46:Int→Prop)=>ifP (decide (s45<(a0.length:Int))) (idxP a0 s45 fun x52=>edges_Right_3_b50 x52 fun r66=>ifP r66 (Q s45) (next46 (w64 (s45+1)))) (Q (-1))) 0
def slices_ContainsFunc_api_Edge_api_Edge_126 (a0:List Edge) (Q:Bool→Prop):Prop:=
  slices_IndexFunc_api_Edge_api_Edge_122 a0 fun r10=>Q (decide (0≤r10))
def edges_Right (a0:Graph) (Q:Int→Prop):Prop:=
  ifP (decide (a0.N<0)) (Q 3) (joinP (fun (k16:Bool→Prop)=>ifP (decide (4096<a0.N)) (k16 (decide (4096<a0.N))) (k16 (decide (65536<(a0.Edges.length:Int))))) fun s15=>ifP s15 (Q 5) (slices_ContainsFunc_api_Edge_api_Edge_87a a0 a0.Edges fun r35=>ifP r35 (Q 3) (slices_ContainsFunc_api_Edge_api_Edge_126 a0.Edges fun r44=>ifP r44 (Q 7) (Q 0))))
def edges_ends (a0:Edge) (a1:Edge) (Q:Int→Prop):Prop:=
  cmp_Compare_int a0.From a1.From fun r9=>cmp_Compare_int a0.To a1.To fun r13=>cmp_Or_int ([r9,r13]:List Int) fun r22=>Q r22
def edges_order (a0:Edge) (a1:Edge) (Q:Int→Prop):Prop:=
  edges_ends a0 a1 fun r9=>cmp_Compare_int64 a0.W a1.W fun r13=>cmp_Or_int ([r9,r13]:List Int) fun r22=>Q r22
def edges_Combine (a0:Int) (a1:List Edge) (Q:((List Edge)×Int)→Prop):Prop:=
  ring_Is a0 fun r12=>ifP (!r12) (Q (([]:List Edge),8)) (loopP (fun (s:(List ((Int×Int)×Wide))×Int) (next305:((List ((Int×Int)×Wide))×Int)→Prop)=>match s with | (s303,s304)=>ifP (decide (s304<(a1.length:Int))) (idxP a1 s304 fun x322=>wide_Of x322.W fun r342=>lk2P s303 (x322.From,x322.To) ({ Hi:=0,Lo:=0 }:Wide) fun r348 t353=>ifP t353 (ring_Add a0 r348 r342 fun r357=>next305 ((mput (x322.From,x322.To) r357 s303),w64 (s304+1))) (next305 ((mput (x322.From,x322.To) r342 s303),w64 (s304+1)))) (loopP (fun (s:(List Edge)×(List ((Int×Int)×Wide))) (next473:((List Edge)×(List ((Int×Int)×Wide)))→Prop)=>match s with | (s467,s471)=>nextP s471 (sortP edges_order s467 fun y504=>Q (y504,0)) (fun p491 l492=>ring_Narrow a0 p491.2 fun r525=>ifP (!r525.2) (Q (([]:List Edge),12)) (appP 24 s467 ([({ From:=p491.1.1,To:=p491.1.2,W:=r525.1 }:Edge)]) fun _=>next473 ((s467++([({ From:=p491.1.1,To:=p491.1.2,W:=r525.1 }:Edge)])),l492)))) (([]:List Edge),s303))) (([]:List ((Int×Int)×Wide)),0))
def edges_Canon (a0:Graph) (Q:Graph→Prop):Prop:=
  edges_Combine 1 a0.Edges fun r15=>Q ({ N:=a0.N,Edges:=r15.1 }:Graph)
def edges_Simple_1_100 (a0:Edge) (Q:(Edge×Bool)→Prop):Prop:=
  Q (a0,a0.From != a0.To)
def edges_made_71c (a0:Graph) (Q:Graph→Prop):Prop:=
  loopP (fun (s:(List Edge)×Int) (next114:((List Edge)×Int)→Prop)=>match s with | (s108,s112)=>ifP (decide (s112<(a0.Edges.length:Int))) (idxP a0.Edges s112 fun x131=>edges_Simple_1_100 x131 fun r147=>ifP r147.2 (appP 24 s108 ([r147.1]) fun _=>next114 ((s108++([r147.1])),w64 (s112+1))) (next114 (s108,w64 (s112+1)))) (edges_Canon ({ N:=a0.N,Edges:=s108 }:Graph) fun r162=>Q r162)) (([]:List Edge),0)
def edges_Simple (a0:Graph) (Q:Graph→Prop):Prop:=
  edges_made_71c a0 fun r17=>Q r17
def slices_Grow_api_Edge_api_Edge (a1:Int) (Q:(List Edge)→Prop):Prop:=
  ifP (decide (a1<0)) (False) (ifP (decide (0<(w64 (a1 - (w64 (0 - 0)))))) (grP 24 (w64 (a1 - (w64 (0 - 0)))) <| Q ([]:List Edge)) (Q ([]:List Edge)))
def slices_Concat_api_Edge_api_Edge (a0:List (List Edge)) (Q:(List Edge)→Prop):Prop:=
  loopP (fun (s:Int×Int) (next161:(Int×Int)→Prop)=>match s with | (s159,s160)=>ifP (decide (s160<(a0.length:Int))) (idxP a0 s160 fun x179=>ifP (decide ((w64 (s159+(x179.length:Int)))<0)) (False) (next161 (w64 (s159+(x179.length:Int)),w64 (s160+1)))) (slices_Grow_api_Edge_api_Edge s159 fun r203=>loopP (fun (s:(List Edge)×Int) (next271:((List Edge)×Int)→Prop)=>match s with | (s266,s270)=>ifP (decide (s270<(a0.length:Int))) (idxP a0 s270 fun x278=>appP 24 s266 x278 fun _=>next271 ((s266++x278),w64 (s270+1))) (Q s266)) (r203,0))) (0,0)
def edges_turned_87e (a0:Edge) (Q:(Edge×Bool)→Prop):Prop:=
  Q (({ From:=a0.To,To:=a0.From,W:=a0.W }:Edge),true)
def edges_made_7c5 (a0:Graph) (Q:Graph→Prop):Prop:=
  loopP (fun (s:(List Edge)×Int) (next114:((List Edge)×Int)→Prop)=>match s with | (s108,s112)=>ifP (decide (s112<(a0.Edges.length:Int))) (idxP a0.Edges s112 fun x131=>edges_turned_87e x131 fun r147=>ifP r147.2 (appP 24 s108 ([r147.1]) fun _=>next114 ((s108++([r147.1])),w64 (s112+1))) (next114 (s108,w64 (s112+1)))) (edges_Canon ({ N:=a0.N,Edges:=s108 }:Graph) fun r162=>Q r162)) (([]:List Edge),0)
def edges_Turn (a0:Graph) (Q:Graph→Prop):Prop:=
  edges_made_7c5 a0 fun r17=>Q r17
def edges_Both (a0:Graph) (Q:Graph→Prop):Prop:=
  edges_Turn a0 fun r15=>slices_Concat_api_Edge_api_Edge ([a0.Edges,r15.Edges]:List (List Edge)) fun r31=>edges_Canon ({ N:=a0.N,Edges:=r31 }:Graph) fun r42=>Q r42
def edges_Plain_1_3d5 (a0:Edge) (Q:(Edge×Bool)→Prop):Prop:=
  Q (({ From:=a0.From,To:=a0.To,W:=1 }:Edge),true)
def edges_made_56f (a0:Graph) (Q:Graph→Prop):Prop:=
  loopP (fun (s:(List Edge)×Int) (next114:((List Edge)×Int)→Prop)=>match s with | (s108,s112)=>ifP (decide (s112<(a0.Edges.length:Int))) (idxP a0.Edges s112 fun x131=>edges_Plain_1_3d5 x131 fun r147=>ifP r147.2 (appP 24 s108 ([r147.1]) fun _=>next114 ((s108++([r147.1])),w64 (s112+1))) (next114 (s108,w64 (s112+1)))) (edges_Canon ({ N:=a0.N,Edges:=s108 }:Graph) fun r162=>Q r162)) (([]:List Edge),0)
def edges_Plain (a0:Graph) (Q:Graph→Prop):Prop:=
  edges_made_56f a0 fun r17=>Q r17
def csr_Graph (a0:Graph) (Q:(Rows×Int)→Prop):Prop:=
  edges_Right a0 fun r34=>ifP (r34 != 0) (Q (({ Rows:=0,Cols:=0,Start:=([]:List Int),Col:=([]:List Int),Val:=([]:List Int) }:Rows),r34)) (edges_Turn a0 fun r49=>loopP (fun (s:(List Triple)×Int) (next141:((List Triple)×Int)→Prop)=>match s with | (s135,s139)=>ifP (decide (s139<(r49.Edges.length:Int))) (idxP r49.Edges s139 fun x159=>appP 24 s135 ([({ Row:=x159.From,Col:=x159.To,Val:=x159.W }:Triple)]) fun _=>next141 ((s135++([({ Row:=x159.From,Col:=x159.To,Val:=x159.W }:Triple)])),w64 (s139+1))) (csr_built a0.N a0.N s135 fun r180=>Q (r180,0))) (([]:List Triple),0))
def prog_Matrix (a0:Plan) (a1:Graph) (Q:(Rows×Int)→Prop):Prop:=
  prog_Right a0 fun r41=>ifP (r41 != 0) (Q (({ Rows:=0,Cols:=0,Start:=([]:List Int),Col:=([]:List Int),Val:=([]:List Int) }:Rows),r41)) (ifP (a1.N != a0.N) (Q (({ Rows:=0,Cols:=0,Start:=([]:List Int),Col:=([]:List Int),Val:=([]:List Int) }:Rows),4)) (edges_Right a1 fun r61=>ifP (r61 != 0) (Q (({ Rows:=0,Cols:=0,Start:=([]:List Int),Col:=([]:List Int),Val:=([]:List Int) }:Rows),r61)) (ifP (a0.Kind==5) (edges_Simple a1 fun r68=>edges_Both r68 fun r78=>edges_Plain r78 fun r89=>csr_Graph r89 fun r100=>Q (r100.1,r100.2)) (ifP (a0.Kind==3) (edges_Both a1 fun r118=>edges_Plain r118 fun r128=>csr_Graph r128 fun r139=>Q (r139.1,r139.2)) (ifP (a0.Kind==1) (edges_Plain a1 fun r157=>csr_Graph r157 fun r167=>Q (r167.1,r167.2)) (csr_Graph a1 fun r184=>Q (r184.1,r184.2)))))))
def model_Check (a0:Plan) (a1:Graph) (a2:Int) (Q:Int→Prop):Prop:=
  prog_Matrix a0 a1 fun r34=>ifP (r34.2 != 0) (Q r34.2) (ifP (decide (a2<0)) (Q 3) (ifP (decide (8192<a2)) (Q 3) (Q 0)))
def flags_within (a0:List Int) (a1:Int) (Q:Bool→Prop):Prop:=
  ifP (decide (0≤a1)) (Q (decide ((shr .i64 a1 6)<(a0.length:Int)))) (Q false)
def flags_bit (a0:Int) (Q:Int→Prop):Prop:=
  nnP (bnd .u64 (IntKind.wrap .u64 (a0)) 63) <| Q (shl .u64 1 (bnd .u64 (IntKind.wrap .u64 (a0)) 63))
def flags_Has (a0:List Int) (a1:Int) (Q:Bool→Prop):Prop:=
  flags_within a0 a1 fun r4=>ifP r4 (idxP a0 (shr .i64 a1 6) fun x10=>flags_bit a1 fun r18=>Q ((bnd .u64 x10 r18) != 0)) (Q false)
def flags_words (a0:Int) (Q:Int→Prop):Prop:=
  Q (shr .i64 (w64 ((if 4096<(if 0 > a0 then 0 else a0) then 4096 else (if 0 > a0 then 0 else a0))+63)) 6)
def flags_each_555 (a0:List Int) (Q:(List Int)→Prop):Prop:=
  Q a0
def flags_each_1_6c7 (o0:Nat) (o1:Int) (o2:Int) (o3:List Int) (Y:Nat→Int→Int→Int→((Bool×Nat×Int)→Prop)→Prop) (Q:(Nat×Int)→Prop):Prop:=
  loopP (fun (s:Int×Int×Nat) (next193:(Int×Int×Nat)→Prop)=>match s with | (s190,s191,s192)=>ifP (decide (s191<(o3.length:Int))) (idxP o3 s191 fun x208=>loopP (fun (s:Int×Int×Int×Nat) (next262:(Int×Int×Int×Nat)→Prop)=>match s with | (s258,s259,s260,s261)=>ifP (s259 != 0) (ifP ((bnd .u64 s259 1)==1) (Y s261 o1 s258 s260 fun r275=>ifP (!r275.1) (Q (r275.2.1,r275.2.2)) (next262 (r275.2.2,shr .u64 s259 1,w64 (s260+1),r275.2.1))) (next262 (s258,shr .u64 s259 1,w64 (s260+1),s261))) (next193 (s258,w64 (s191+1),s261))) (s190,x208,shl .i64 s191 6,s192)) (Q (s192,s190))) (o2,0,o0)
def flags_Next (a0:List Int) (a1:Int) (Q:Int→Prop):Prop:=
  flags_each_555 a0 fun r30=>flags_each_1_6c7 0 a1 0 r30 (fun (y51:Nat) (y52:Int) (y54:Int) (x56:Int) (Qy:(Bool×Nat×Int)→Prop)=>eqP y51 0 (ifP (decide (y52≤x56)) (Qy (false,1,x56)) (Qy (true,0,y54)))) fun r62=>ifP (decide (r62.1=0)) (Q (-1)) (eqP r62.1 1 (Q r62.2))
def flags_Right (a0:List Int) (a1:Int) (Q:Bool→Prop):Prop:=
  ifP (decide (0≤a1)) (ifP (decide (a1≤4096)) (flags_words a1 fun r6=>ifP ((a0.length:Int)==r6) (flags_Next a0 a1 fun r11=>Q (decide (r11<0))) (Q false)) (Q false)) (Q false)
def flags_New (a0:Int) (Q:(List Int)→Prop):Prop:=
  flags_words a0 fun r4=>mkP 8 r4 0 fun _=>Q (List.replicate r4.toNat 0)
def pull_adder_6fc (a0:Int) (Q:(Bool×Int×Wide)→Prop):Prop:=
  Q (false,a0,({ Hi:=0,Lo:=0 }:Wide))
def pull_adder_1_b72 (o0:Bool) (o1:Int) (o2:Wide) (a0:Wide) (Q:(Bool×Wide)→Prop):Prop:=
  ifP o0 (ring_Add o1 o2 a0 fun r12=>Q (true,r12)) (Q (true,a0))
def pull_adder_2_cdb (o0:Wide) (o1:Bool) (Q:(Wide×Bool)→Prop):Prop:=
  Q (o0,o1)
def pull_row (a0:Int) (a1:Rows) (a2:Int) (a3:Dense) (Q:(Wide×Bool)→Prop):Prop:=
  pull_adder_6fc a0 fun r47=>idxP a1.Start a2 fun x64=>loopP (fun (s:Bool×Int×Int×Int) (next250:(Bool×Int×Int×Int)→Prop)=>match s with | (s246,s247,s248,s249)=>idxP a1.Start (w64 (a2+1)) fun x265=>ifP (decide (s249<x265)) (idxP a1.Col s249 fun x284=>flags_Has a3.Has x284 fun r296=>ifP r296 (idxP a1.Val s249 fun x302=>idxP a3.Vals x284 fun x311=>ring_Mul a0 x302 x311 fun r319=>pull_adder_1_b72 s246 r47.2.1 ({ Hi:=s247,Lo:=s248 }:Wide) r319 fun r329=>next250 (r329.1,r329.2.Hi,r329.2.Lo,w64 (s249+1))) (next250 (s246,s247,s248,w64 (s249+1)))) (pull_adder_2_cdb ({ Hi:=s247,Lo:=s248 }:Wide) s246 fun r342=>Q (r342.1,r342.2))) (r47.1,r47.2.2.Hi,r47.2.2.Lo,x64)
def ref09_Right (a0:Vec) (Q:Bool→Prop):Prop:=
  ifP (decide (a0.N<0)) (Q false) (ifP (decide (4096<a0.N)) (Q false) (loopP (fun (s79:Int) (next80:Int→Prop)=>ifP (decide (s79<(a0.Items.length:Int))) (idxP a0.Items s79 fun x86=>ifP (decide (x86.At<0)) (Q false) (idxP a0.Items s79 fun x96=>ifP (decide (a0.N≤x96.At)) (Q false) (ifP (decide (0<s79)) (idxP a0.Items s79 fun x107=>idxP a0.Items (w64 (s79 - 1)) fun x116=>ifP (decide (x107.At≤x116.At)) (Q false) (next80 (w64 (s79+1)))) (next80 (w64 (s79+1)))))) (Q true)) 0))
def ref09_Sure (a0:Vec) (Q:Vec→Prop):Prop:=
  ref09_Right a0 fun r15=>ifP r15 (Q a0) (Q ({ N:=0,Items:=([]:List Item) }:Vec))
def ref03_words (a0:Int) (Q:Int→Prop):Prop:=
  joinP (fun (k4:Int→Prop)=>ifP (decide (4096<a0)) (k4 4096) (k4 a0)) fun s3=>ifP (decide (s3<1)) (Q 0) (Q (w64 ((w64 (s3+63)).tdiv 64)))
def ref03_New (a0:Int) (Q:(List Int)→Prop):Prop:=
  ref03_words a0 fun r4=>mkP 8 r4 0 fun _=>Q (List.replicate r4.toNat 0)
def ref10_New (a0:Int) (Q:Dense→Prop):Prop:=
  ifP (decide (a0<0)) (mkP 8 0 0 fun _=>ref03_New 0 fun r15=>Q ({ N:=0,Has:=r15,Vals:=(List.replicate (Int.toNat 0) (0:Int)) }:Dense)) (ifP (decide (4096<a0)) (mkP 8 0 0 fun _=>ref03_New 0 fun r30=>Q ({ N:=0,Has:=r30,Vals:=(List.replicate (Int.toNat 0) (0:Int)) }:Dense)) (mkP 8 a0 0 fun _=>ref03_New a0 fun r44=>Q ({ N:=a0,Has:=r44,Vals:=(List.replicate a0.toNat (0:Int)) }:Dense)))
def ref03_set (a0:List Int) (a1:Int) (a2:Bool) (Q:(List Int)→Prop):Prop:=
  appP 8 ([]:List Int) a0 fun _=>ifP (decide (a1<0)) (Q (([]:List Int)++a0)) (ifP (decide ((a0.length:Int)≤(w64 (a1.tdiv 64)))) (Q (([]:List Int)++a0)) (nnP (IntKind.wrap .u64 (a1.tmod 64)) <| ifP a2 (idxP (([]:List Int)++a0) (w64 (a1.tdiv 64)) fun x31=>idxP (([]:List Int)++a0) (w64 (a1.tdiv 64)) fun x36=>Q ((([]:List Int)++a0).set ((w64 (a1.tdiv 64)).toNat) (bor .u64 x31 (shl .u64 1 (IntKind.wrap .u64 (a1.tmod 64)))))) (idxP (([]:List Int)++a0) (w64 (a1.tdiv 64)) fun x42=>idxP (([]:List Int)++a0) (w64 (a1.tdiv 64)) fun x47=>Q ((([]:List Int)++a0).set ((w64 (a1.tdiv 64)).toNat) (bandn .u64 x42 (shl .u64 1 (IntKind.wrap .u64 (a1.tmod 64))))))))
def ref03_Put (a0:List Int) (a1:Int) (Q:(List Int)→Prop):Prop:=
  ref03_set a0 a1 true fun r7=>Q r7
def ref03_Of (a0:Int) (a1:List Int) (Q:(List Int)→Prop):Prop:=
  ref03_New a0 fun r17=>loopP (fun (s:(List Int)×Int) (next151:((List Int)×Int)→Prop)=>match s with | (s146,s150)=>ifP (decide (s150<(a1.length:Int))) (idxP a1 s150 fun x158=>ifP (decide (0≤x158)) (idxP a1 s150 fun x168=>ifP (decide (x168<a0)) (idxP a1 s150 fun x178=>ifP (decide (x178<4096)) (idxP a1 s150 fun x188=>ref03_Put s146 x188 fun r196=>next151 (r196,w64 (s150+1))) (next151 (s146,w64 (s150+1)))) (next151 (s146,w64 (s150+1)))) (next151 (s146,w64 (s150+1)))) (Q s146)) (r17,0)
def ref10_Of (a0:Vec) (Q:Dense→Prop):Prop:=
  ref09_Sure a0 fun r28=>ref10_New r28.N fun r55=>loopP (fun (s:(List Int)×(List Int)×Int) (next439:((List Int)×(List Int)×Int)→Prop)=>match s with | (s429,s433,s437)=>ifP (decide (s437<(r28.Items.length:Int))) (idxP r28.Items s437 fun x461=>appP 8 s433 ([x461.At]) fun _=>idxP r28.Items s437 fun x478=>idxP r28.Items s437 fun x487=>idxP s429 x478.At fun x496=>next439 ((s429.set x478.At.toNat x487.Val),(s433++([x461.At])),w64 (s437+1))) (ref03_Of r28.N s433 fun r505=>Q ({ N:=r55.N,Has:=r505,Vals:=s429 }:Dense))) (r55.Vals,([]:List Int),0)
def ref09_Get (a0:Vec) (a1:Int) (Q:(Int×Bool)→Prop):Prop:=
  ref09_Sure a0 fun r18=>loopP (fun (s91:Int) (next92:Int→Prop)=>ifP (decide (s91<(r18.Items.length:Int))) (idxP r18.Items s91 fun x108=>ifP (x108.At==a1) (idxP r18.Items s91 fun x118=>Q (x118.Val,true)) (next92 (w64 (s91+1)))) (Q (0,false))) 0
def law21_Plan (a0:Plan) (a1:Int) (Q:Plan→Prop):Prop:=
  joinP (fun (k20:Int→Prop)=>ifP (decide (a0.Kind<1)) (k20 3) (ifP (decide (5<a0.Kind)) (k20 3) (k20 a0.Kind))) fun s19=>law21_Within a0.Source a1 fun r29=>law21_Within a0.Length 12 fun r37=>joinP (fun (k207:(List Int)→Prop)=>loopP (fun (s:(List Int)×Int) (next266:((List Int)×Int)→Prop)=>match s with | (s260,s264)=>ifP (decide (s264<(a0.Draws.length:Int))) (ifP (decide (s264<40)) (idxP a0.Draws s264 fun x275=>appP 8 s260 ([bnd .i64 x275 2147483647]) fun _=>next266 ((s260++([bnd .i64 x275 2147483647])),w64 (s264+1))) (k207 s260)) (k207 s260)) (([]:List Int),0)) fun s203=>ifP (a1==0) (ifP (s19 != 5) (Q ({ Kind:=3,N:=a1,Source:=r29,Length:=r37,Draws:=s203 }:Plan)) (Q ({ Kind:=s19,N:=a1,Source:=r29,Length:=r37,Draws:=s203 }:Plan))) (Q ({ Kind:=s19,N:=a1,Source:=r29,Length:=r37,Draws:=s203 }:Plan))
def law22_Case_Make (a0:Law22_Case) (Q:(Plan×Graph×Int)→Prop):Prop:=
  law21_Graph a0.G fun r38=>law21_Plan a0.P r38.N fun r51=>Q (r51,r38,(w64 (a0.Limit)).tmod 40)
def vertex_named (a0:Plan) (a1:Graph) (Q:Graph→Prop):Prop:=
  ifP (a0.Kind==5) (edges_Simple a1 fun r24=>edges_Both r24 fun r34=>edges_Plain r34 fun r45=>Q r45) (ifP (a0.Kind==3) (edges_Both a1 fun r57=>edges_Plain r57 fun r67=>Q r67) (ifP (a0.Kind==1) (edges_Plain a1 fun r79=>Q r79) (edges_Canon a1 fun r89=>Q r89)))
def vertex_Links (a0:Plan) (a1:Graph) (Q:((List Edge)×Int)→Prop):Prop:=
  prog_Matrix a0 a1 fun r18=>ifP (r18.2 != 0) (Q (([]:List Edge),r18.2)) (vertex_named a0 a1 fun r37=>Q (r37.Edges,0))
def ref21_from (a0:Int) (Q:Bool→Prop):Prop:=
  ifP (a0==1) (Q true) (ifP (a0==2) (Q true) (Q (a0==4)))
def ref21_Right (a0:Plan) (Q:Int→Prop):Prop:=
  ifP (decide (a0.Kind<1)) (Q 8) (ifP (decide (5<a0.Kind)) (Q 8) (joinP (fun (k42:Unit→Prop)=>ifP (decide (a0.N<0)) (Q 3) (ifP (decide (4096<a0.N)) (Q 3) (ref21_from a0.Kind fun r45=>ifP r45 (ifP (decide (a0.Source<0)) (Q 3) (ifP (decide (a0.N≤a0.Source)) (Q 3) (ifP (a0.Kind==4) (ifP (decide (a0.Length<0)) (Q 3) (ifP (decide (8192<a0.Length)) (Q 3) (k42 ()))) (k42 ())))) (ifP (a0.Kind==4) (ifP (decide (a0.Length<0)) (Q 3) (ifP (decide (8192<a0.Length)) (Q 3) (k42 ()))) (k42 ()))))) fun _=>ifP (decide (65536<(a0.Draws.length:Int))) (Q 5) (loopP (fun (s109:Int) (next110:Int→Prop)=>ifP (decide (s109<(a0.Draws.length:Int))) (idxP a0.Draws s109 fun x117=>ifP (decide (x117<0)) (Q 7) (idxP a0.Draws s109 fun x127=>ifP (decide (2147483647<x127)) (Q 7) (next110 (w64 (s109+1))))) (Q 0)) 0)))
def ref05_Plain (a0:Graph) (Q:Graph→Prop):Prop:=
  loopP (fun (s:(List Edge)×Int) (next94:((List Edge)×Int)→Prop)=>match s with | (s88,s92)=>ifP (decide (s92<(a0.Edges.length:Int))) (idxP a0.Edges s92 fun x101=>idxP a0.Edges s92 fun x110=>appP 24 s88 ([({ From:=x101.From,To:=x110.To,W:=1 }:Edge)]) fun _=>next94 ((s88++([({ From:=x101.From,To:=x110.To,W:=1 }:Edge)])),w64 (s92+1))) (ref05_Canon ({ N:=a0.N,Edges:=s88 }:Graph) fun r128=>Q r128)) (([]:List Edge),0)
def ref05_Both (a0:Graph) (Q:Graph→Prop):Prop:=
  ref05_Turn a0 fun r28=>appP 24 r28.Edges a0.Edges fun _=>ref05_Canon ({ N:=r28.N,Edges:=(r28.Edges++a0.Edges) }:Graph) fun r49=>Q r49
def ref05_Simple (a0:Graph) (Q:Graph→Prop):Prop:=
  loopP (fun (s:(List Edge)×Int) (next152:((List Edge)×Int)→Prop)=>match s with | (s146,s150)=>ifP (decide (s150<(a0.Edges.length:Int))) (idxP a0.Edges s150 fun x178=>idxP a0.Edges s150 fun x187=>ifP (x178.From != x187.To) (idxP a0.Edges s150 fun x198=>appP 24 s146 ([x198]) fun _=>next152 ((s146++([x198])),w64 (s150+1))) (next152 (s146,w64 (s150+1)))) (ref05_Canon ({ N:=a0.N,Edges:=s146 }:Graph) fun r216=>Q r216)) (([]:List Edge),0)
def ref21_Matrix (a0:Plan) (a1:Graph) (Q:(Rows×Int)→Prop):Prop:=
  ref21_Right a0 fun r41=>ifP (r41 != 0) (Q (({ Rows:=0,Cols:=0,Start:=([]:List Int),Col:=([]:List Int),Val:=([]:List Int) }:Rows),r41)) (ifP (a1.N != a0.N) (Q (({ Rows:=0,Cols:=0,Start:=([]:List Int),Col:=([]:List Int),Val:=([]:List Int) }:Rows),4)) (ref05_Right a1 fun r61=>ifP (r61 != 0) (Q (({ Rows:=0,Cols:=0,Start:=([]:List Int),Col:=([]:List Int),Val:=([]:List Int) }:Rows),r61)) (ifP (a0.Kind==1) (ref05_Plain a1 fun r67=>ref07_Graph r67 fun r77=>Q (r77.1,r77.2)) (ifP (a0.Kind==3) (ref05_Both a1 fun r95=>ref05_Plain r95 fun r105=>ref07_Graph r105 fun r116=>Q (r116.1,r116.2)) (ifP (a0.Kind==5) (ref05_Simple a1 fun r134=>ref05_Both r134 fun r144=>ref05_Plain r144 fun r155=>ref07_Graph r155 fun r166=>Q (r166.1,r166.2)) (ref07_Graph a1 fun r183=>Q (r183.1,r183.2)))))))
def ref35_named (a0:Plan) (a1:Graph) (Q:Graph→Prop):Prop:=
  ifP (a0.Kind==1) (ref05_Plain a1 fun r23=>Q r23) (ifP (a0.Kind==3) (ref05_Both a1 fun r34=>ref05_Plain r34 fun r44=>Q r44) (ifP (a0.Kind==5) (ref05_Simple a1 fun r56=>ref05_Both r56 fun r66=>ref05_Plain r66 fun r77=>Q r77) (ref05_Canon a1 fun r88=>Q r88)))
def ref35_Links (a0:Plan) (a1:Graph) (Q:((List Edge)×Int)→Prop):Prop:=
  ref21_Matrix a0 a1 fun r18=>ifP (r18.2 != 0) (Q (([]:List Edge),r18.2)) (ref35_named a0 a1 fun r37=>Q (r37.Edges,0))
def vertex_whole (a0:Plan) (a1:State) (Q:Bool→Prop):Prop:=
  ifP (a1.Low==0) (ifP (a1.High==a0.N) (ifP ((a1.A.length:Int)==a0.N) (ifP ((a1.B.length:Int)==a0.N) (flags_Right a1.On a0.N fun r25=>Q r25) (Q false)) (Q false)) (Q false)) (Q false)
def vertex_wrong_1_7a4 (o0:Plan) (a0:Edge) (Q:Bool→Prop):Prop:=
  ifP (decide ((if a0.To<a0.From then a0.To else a0.From)<0)) (Q true) (Q (decide (o0.N≤(if a0.To > a0.From then a0.To else a0.From))))
def slices_IndexFunc_api_Edge_api_Edge_0b4 (o0:Plan) (a0:List Edge) (Q:Int→Prop):Prop:=
  loopP (fun (s50:Int) (next51:Int→Prop)=>ifP (decide (s50<(a0.length:Int))) (idxP a0 s50 fun x57=>vertex_wrong_1_7a4 o0 x57 fun r71=>ifP r71 (Q s50) (next51 (w64 (s50+1)))) (Q (-1))) 0
def slices_ContainsFunc_api_Edge_api_Edge_64d (o0:Plan) (a0:List Edge) (Q:Bool→Prop):Prop:=
  slices_IndexFunc_api_Edge_api_Edge_0b4 o0 a0 fun r15=>Q (decide (0≤r15))
def vertex_wrong (a0:Plan) (a1:List Edge) (a2:State) (Q:Int→Prop):Prop:=
  prog_Right a0 fun r29=>ifP (r29 != 0) (Q r29) (vertex_whole a0 a2 fun r39=>ifP (!r39) (Q 4) (slices_ContainsFunc_api_Edge_api_Edge_64d a0 a1 fun r50=>ifP r50 (Q 3) (Q 0)))
def prog_Ring (a0:Int) (a1:Int) (Q:Int→Prop):Prop:=
  ifP (a0==2) (Q 1) (ifP (a0==4) (Q 5) (ifP (a0==5) (ifP ((bnd .i64 a1 1)==0) (Q 2) (Q 4)) (ifP (a0==1) (Q 4) (ifP (a0==3) (Q 4) (Q 0)))))
def prog_can (a0:Plan) (a1:State) (Q:Bool→Prop):Prop:=
  prog_Right a0 fun r29=>ifP (r29 != 0) (Q false) (ifP (decide (a1.Low<0)) (Q false) (ifP (decide (a1.High<a1.Low)) (Q false) (ifP (decide (a0.N<a1.High)) (Q false) (ifP ((a1.A.length:Int)==(w64 (a1.High - a1.Low))) (ifP ((a1.B.length:Int)==(w64 (a1.High - a1.Low))) (flags_Right a1.On (w64 (a1.High - a1.Low)) fun r39=>Q r39) (Q false)) (Q false)))))
def prog_sure (a0:Plan) (a1:State) (Q:State→Prop):Prop:=
  prog_can a0 a1 fun r34=>ifP r34 (Q a1) (Q ({ Low:=0,High:=0,A:=([]:List Int),B:=([]:List Int),On:=([]:List Int) }:State))
def prog_number (a0:Plan) (a1:Int) (a2:Int) (Q:Int→Prop):Prop:=
  prog_within a1 8192 fun r18=>ifP (!r18) (Q 0) (prog_within a2 (w64 (a0.N - 1)) fun r23=>ifP (!r23) (Q 0) (ifP (decide (0<(a0.Draws.length:Int))) (nzP (a0.Draws.length:Int) <| idxP a0.Draws ((w64 ((w64 (a1*a0.N))+a2)).tmod (a0.Draws.length:Int)) fun x31=>Q (bor .i64 (shl .i64 x31 12) a2)) (Q (bor .i64 (shl .i64 0 12) a2))))
def prog_draw (a0:Int) (Q:Int→Prop):Prop:=
  Q (shr .i64 (w64 (a0 - 1)) 1)
def prog_tells (a0:Plan) (a1:State) (a2:Int) (a3:Int) (Q:(Int×Bool)→Prop):Prop:=
  flags_Has a1.On a3 fun r25=>ifP (a0.Kind==1) (Q (w64 (a1.Low+a3),r25)) (ifP (a0.Kind==5) (ifP ((bnd .i64 a2 1)==0) (Q (1,r25)) (idxP a1.A a3 fun x34=>prog_draw a2 fun r42=>prog_number a0 r42 (w64 (a1.Low+a3)) fun r46=>Q (r46,x34==0))) (idxP a1.A a3 fun x51=>Q (x51,r25)))
def prog_Out (a0:Plan) (a1:State) (a2:Int) (Q:Vec→Prop):Prop:=
  prog_sure a0 a1 fun r44=>loopP (fun (s:(List Item)×Int) (next120:((List Item)×Int)→Prop)=>match s with | (s114,s118)=>ifP (decide (s118<(w64 (r44.High - r44.Low)))) (prog_tells a0 r44 a2 s118 fun r130=>ifP r130.2 (appP 16 s114 ([({ At:=s118,Val:=r130.1 }:Item)]) fun _=>next120 ((s114++([({ At:=s118,Val:=r130.1 }:Item)])),w64 (s118+1))) (next120 (s114,w64 (s118+1)))) (Q ({ N:=w64 (r44.High - r44.Low),Items:=s114 }:Vec))) (([]:List Item),0)
def vertex_letters_c5d (a0:Plan) (a1:List Edge) (a2:State) (a3:Int) (Q:((List Edge)×(List (Int×Int))×Int)→Prop):Prop:=
  prog_Out a0 a2 a3 fun r117=>loopP (fun (s:(List (Int×Int))×Int) (next161:((List (Int×Int))×Int)→Prop)=>match s with | (s159,s160)=>ifP (decide (s160<(r117.Items.length:Int))) (idxP r117.Items s160 fun x168=>next161 ((mput x168.At x168.Val s159),w64 (s160+1))) (prog_Ring a0.Kind a3 fun r178=>Q (a1,s159,r178))) (([]:List (Int×Int)),0)
def vertex_letters_1_4e8 (o0:Nat) (o1:List (List Wide)) (o2:List Edge) (o3:List (Int×Int)) (o4:Int) (Y:Nat→(List (List Wide))→Int→Wide→((Bool×Nat×(List (List Wide)))→Prop)→Prop) (Q:(Nat×(List (List Wide)))→Prop):Prop:=
  loopP (fun (s:(List (List Wide))×Int×Nat) (next164:((List (List Wide))×Int×Nat)→Prop)=>match s with | (s158,s162,s163)=>ifP (decide (s162<(o2.length:Int))) (idxP o2 s162 fun x181=>lk2P o3 x181.From 0 fun r197 t202=>ifP t202 (ring_Mul o4 x181.W r197 fun r204=>Y s163 s158 x181.To r204 fun r214=>ifP (!r214.1) (Q (r214.2.1,r214.2.2)) (next164 (r214.2.2,w64 (s162+1),r214.2.1))) (next164 (s158,w64 (s162+1),s163))) (Q (s163,s158))) (o1,0,o0)
def vertex_Mail (a0:Plan) (a1:List Edge) (a2:State) (a3:Int) (Q:((List (List Wide))×Int)→Prop):Prop:=
  vertex_wrong a0 a1 a2 fun r32=>ifP (r32 != 0) (Q (([]:List (List Wide)),r32)) (mkP 24 a0.N ([]:List Wide) fun _=>vertex_letters_c5d a0 a1 a2 a3 fun r75=>vertex_letters_1_4e8 0 (List.replicate a0.N.toNat ([]:List Wide)) r75.1 r75.2.1 r75.2.2 (fun (y160:Nat) (y161:List (List Wide)) (x167:Int) (x168:Wide) (Qy:(Bool×Nat×(List (List Wide)))→Prop)=>eqP y160 0 (idxP y161 x167 fun x176=>appP 16 x176 ([x168]) fun _=>idxP y161 x167 fun x191=>Qy (true,0,(y161.set x167.toNat (x176++([x168])))))) fun r200=>eqP r200.1 0 (Q (r200.2,0)))
def vertex_summer_6fc (a0:Int) (Q:(Bool×Int×Wide)→Prop):Prop:=
  Q (false,a0,({ Hi:=0,Lo:=0 }:Wide))
def vertex_summer_1_b72 (o0:Bool) (o1:Int) (o2:Wide) (a0:Wide) (Q:(Bool×Wide)→Prop):Prop:=
  ifP o0 (ring_Add o1 o2 a0 fun r12=>Q (true,r12)) (Q (true,a0))
def vertex_summer_2_cdb (o0:Wide) (o1:Bool) (Q:(Wide×Bool)→Prop):Prop:=
  Q (o0,o1)
def vertex_Hear (a0:Int) (a1:Int) (a2:List Wide) (Q:(Int×Bool×Int)→Prop):Prop:=
  prog_Ring a0 a1 fun r8=>ifP (r8==0) (Q (0,false,8)) (vertex_summer_6fc r8 fun r33=>loopP (fun (s:Bool×Int×Int×Int) (next202:(Bool×Int×Int×Int)→Prop)=>match s with | (s198,s199,s200,s201)=>ifP (decide (s201<(a2.length:Int))) (idxP a2 s201 fun x209=>vertex_summer_1_b72 s198 r33.2.1 ({ Hi:=s199,Lo:=s200 }:Wide) x209 fun r225=>next202 (r225.1,r225.2.Hi,r225.2.Lo,w64 (s201+1))) (vertex_summer_2_cdb ({ Hi:=s199,Lo:=s200 }:Wide) s198 fun r249=>ifP (!r249.2) (Q (0,false,0)) (wide_Narrow r249.1 fun r260=>ifP (!r260.2) (Q (0,false,12)) (ring_Zero r8 fun r265=>ifP (r260.1==r265) (Q (0,false,0)) (Q (r260.1,true,0)))))) (r33.1,r33.2.2.Hi,r33.2.2.Lo,0))
def flags_Of (a0:Int) (a1:List Int) (Q:(List Int)→Prop):Prop:=
  flags_New a0 fun r18=>loopP (fun (s:(List Int)×Int) (next157:((List Int)×Int)→Prop)=>match s with | (s152,s156)=>ifP (decide (s156<(a1.length:Int))) (idxP a1 s156 fun x173=>joinP (fun (k192:Bool→Prop)=>ifP (decide (x173<a0)) (flags_within s152 x173 fun r194=>k192 r194) (k192 false)) fun s191=>ifP s191 (idxP s152 (shr .i64 x173 6) fun x205=>flags_bit x173 fun r209=>idxP s152 (shr .i64 x173 6) fun x214=>next157 ((s152.set ((shr .i64 x173 6).toNat) (bor .u64 x205 r209)),w64 (s156+1))) (next157 (s152,w64 (s156+1)))) (Q s152)) (r18,0)
def prog_Asked (a0:Plan) (a1:State) (a2:Int) (Q:((List Int)×Bool)→Prop):Prop:=
  prog_sure a0 a1 fun r40=>joinP (fun (k61:Int→Prop)=>ifP (a0.Kind==1) (k61 (-1)) (ifP (a0.Kind==5) (k61 0) (Q (([]:List Int),true)))) fun s60=>loopP (fun (s:(List Int)×Int) (next251:((List Int)×Int)→Prop)=>match s with | (s245,s249)=>ifP (decide (s249<(r40.A.length:Int))) (idxP r40.A s249 fun x268=>ifP (x268==s60) (appP 8 s245 ([s249]) fun _=>next251 ((s245++([s249])),w64 (s249+1))) (next251 (s245,w64 (s249+1)))) (flags_Of (w64 (r40.High - r40.Low)) s245 fun r289=>Q (r289,false))) (([]:List Int),0)
def spvec_within (a0:Int) (a1:Int) (Q:Bool→Prop):Prop:=
  ifP (decide (0≤a0)) (Q (decide (a0≤a1))) (Q false)
def spvec_Right_1_81a (o0:Int) (o1:Vec) (a0:Item) (Q:(Bool×Int)→Prop):Prop:=
  ifP (decide (a0.At≤o0)) (Q (true,a0.At)) (Q (decide (o1.N≤a0.At),a0.At))
def slices_IndexFunc_api_Item_api_Item_a3e (o0:Int) (o1:Vec) (a0:List Item) (Q:(Int×Int)→Prop):Prop:=
  loopP (fun (s:Int×Int) (next61:(Int×Int)→Prop)=>match s with | (s59,s60)=>ifP (decide (s60<(a0.length:Int))) (idxP a0 s60 fun x67=>spvec_Right_1_81a s59 o1 x67 fun r81=>ifP r81.1 (Q (s60,r81.2)) (next61 (r81.2,w64 (s60+1)))) (Q ((-1),s59))) (o0,0)
def slices_ContainsFunc_api_Item_api_Item_cd0 (o0:Int) (o1:Vec) (a0:List Item) (Q:(Bool×Int)→Prop):Prop:=
  slices_IndexFunc_api_Item_api_Item_a3e o0 o1 a0 fun r17=>Q (decide (0≤r17.1),r17.2)
def spvec_Right (a0:Vec) (Q:Bool→Prop):Prop:=
  spvec_within a0.N 4096 fun r13=>ifP (!r13) (Q false) (slices_ContainsFunc_api_Item_api_Item_cd0 (-1) a0 a0.Items fun r26=>Q (!r26.1))
def slices_Clone_int64_int64 (a0:List Int) (Q:(List Int)→Prop):Prop:=
  nilP a0 (Q ([]:List Int)) (appP 8 ([]:List Int) a0 fun _=>Q (([]:List Int)++a0))
def slices_Clone_uint64_uint64 (a0:List Int) (Q:(List Int)→Prop):Prop:=
  nilP a0 (Q ([]:List Int)) (appP 8 ([]:List Int) a0 fun _=>Q (([]:List Int)++a0))
def flags_ones (a0:Int) (Q:Int→Prop):Prop:=
  loopP (fun (s:Int×Int) (next11:(Int×Int)→Prop)=>match s with | (s9,s10)=>ifP (s9==0) (Q s10) (next11 (bnd .u64 s9 (IntKind.wrap .u64 (s9 - 1)),w64 (s10+1)))) (a0,0)
def flags_Count (a0:List Int) (Q:Int→Prop):Prop:=
  loopP (fun (s:Int×Int) (next42:(Int×Int)→Prop)=>match s with | (s40,s41)=>ifP (decide (s41<(a0.length:Int))) (idxP a0 s41 fun x48=>flags_ones x48 fun r56=>next42 (w64 (s40+r56),w64 (s41+1))) (Q s40)) (0,0)
def prog_Live (a0:Plan) (a1:State) (a2:Int) (Q:Int→Prop):Prop:=
  prog_sure a0 a1 fun r37=>ifP (a0.Kind==4) (ifP (decide (a0.Length≤a2)) (Q 0) (flags_Count r37.On fun r55=>Q r55)) (ifP (a0.Kind==5) (loopP (fun (s:Int×Int) (next92:(Int×Int)→Prop)=>match s with | (s90,s91)=>ifP (decide (s91<(r37.A.length:Int))) (idxP r37.A s91 fun x99=>ifP (x99==0) (next92 (w64 (s90+1),w64 (s91+1))) (next92 (s90,w64 (s91+1)))) (Q s90)) (0,0)) (flags_Count r37.On fun r108=>Q r108))
def ref21_none  (Q:State→Prop):Prop:=
  Q ({ Low:=0,High:=0,A:=([]:List Int),B:=([]:List Int),On:=([]:List Int) }:State)
def ref21_Begin (a0:Plan) (a1:Int) (a2:Int) (Q:State→Prop):Prop:=
  ref21_Right a0 fun r93=>ifP (r93 != 0) (ref21_none  fun r98=>Q r98) (ifP (decide (a1<0)) (ref21_none  fun r115=>Q r115) (ifP (decide (a2<a1)) (ref21_none  fun r132=>Q r132) (ifP (decide (a0.N<a2)) (ref21_none  fun r149=>Q r149) (loopP (fun (s:(List Int)×(List Int)×(List Int)×Int) (next1081:((List Int)×(List Int)×(List Int)×Int)→Prop)=>match s with | (s1065,s1069,s1073,s1077)=>ifP (decide (s1077<a2)) (joinP (fun (k1099:Bool→Prop)=>ref21_from a0.Kind fun r1100=>ifP r1100 (ifP (s1077==a0.Source) (k1099 true) (k1099 (a0.Kind==3))) (k1099 (a0.Kind==3))) fun s1098=>joinP (fun (k1116:Int→Prop)=>ifP (a0.Kind==1) (k1116 (-1)) (ifP (a0.Kind==2) (k1116 4611686018427387904) (ifP (a0.Kind==3) (k1116 s1077) (k1116 0)))) fun s1115=>joinP (fun (k1173:Int→Prop)=>joinP (fun (k1185:Bool→Prop)=>ref21_from a0.Kind fun r1186=>ifP r1186 (k1185 (s1077==a0.Source)) (k1185 false)) fun s1184=>ifP s1184 (ifP (a0.Kind==4) (k1173 1) (k1173 0)) (k1173 s1115)) fun s1172=>joinP (fun (k1221:(List Int)→Prop)=>ifP s1098 (appP 8 s1073 ([w64 (s1077 - a1)]) fun _=>k1221 (s1073++([w64 (s1077 - a1)]))) (k1221 s1073)) fun s1217=>appP 8 s1065 ([s1172]) fun _=>appP 8 s1069 ([(-1)]) fun _=>next1081 ((s1065++([s1172])),(s1069++([(-1)])),s1217,w64 (s1077+1))) (ref03_Of (w64 (a2 - a1)) s1073 fun r1251=>Q ({ Low:=a1,High:=a2,A:=s1065,B:=s1069,On:=r1251 }:State))) (([]:List Int),([]:List Int),([]:List Int),a1)))))
def ref07_SameVals (a0:List Int) (a1:List Int) (Q:Bool→Prop):Prop:=
  ifP ((a0.length:Int) != (a1.length:Int)) (Q false) (loopP (fun (s54:Int) (next55:Int→Prop)=>ifP (decide (s54<(a0.length:Int))) (idxP a0 s54 fun x61=>idxP a1 s54 fun x70=>ifP (x61 != x70) (Q false) (next55 (w64 (s54+1)))) (Q true)) 0)
def ref05_SameEdges (a0:List Edge) (a1:List Edge) (Q:Bool→Prop):Prop:=
  ifP ((a0.length:Int) != (a1.length:Int)) (Q false) (loopP (fun (s54:Int) (next55:Int→Prop)=>ifP (decide (s54<(a0.length:Int))) (idxP a0 s54 fun x61=>idxP a1 s54 fun x70=>ifP (!(x61==x70)) (Q false) (next55 (w64 (s54+1)))) (Q true)) 0)
def ref22_Check (a0:Plan) (a1:Graph) (a2:Int) (Q:Int→Prop):Prop:=
  ref21_Matrix a0 a1 fun r34=>ifP (r34.2 != 0) (Q r34.2) (ifP (decide (a2<0)) (Q 3) (ifP (decide (8192<a2)) (Q 3) (Q 0)))
def ref03_Has (a0:List Int) (a1:Int) (Q:Bool→Prop):Prop:=
  ifP (decide (0≤a1)) (ifP (decide ((w64 (a1.tdiv 64))<(a0.length:Int))) (idxP a0 (w64 (a1.tdiv 64)) fun x7=>nnP (IntKind.wrap .u64 (a1.tmod 64)) <| Q ((bnd .u64 (shr .u64 x7 (IntKind.wrap .u64 (a1.tmod 64))) 1)==1)) (Q false)) (Q false)
def ref03_List (a0:List Int) (Q:(List Int)→Prop):Prop:=
  loopP (fun (s:(List Int)×Int) (next55:((List Int)×Int)→Prop)=>match s with | (s49,s53)=>ifP (decide (s53<(w64 (64*(a0.length:Int))))) (ref03_Has a0 s53 fun r60=>ifP r60 (appP 8 s49 ([s53]) fun _=>next55 ((s49++([s53])),w64 (s53+1))) (next55 (s49,w64 (s53+1)))) (Q s49)) (([]:List Int),0)
def ref03_Right (a0:List Int) (a1:Int) (Q:Bool→Prop):Prop:=
  ifP (decide (a1<0)) (Q false) (ifP (decide (4096<a1)) (Q false) (ref03_words a1 fun r13=>ifP ((a0.length:Int) != r13) (Q false) (ref03_List a0 fun r28=>ifP ((r28.length:Int)==0) (Q true) (idxP r28 (w64 ((r28.length:Int) - 1)) fun x40=>Q (decide (x40<a1))))))
def ref21_Sure (a0:Plan) (a1:State) (Q:State→Prop):Prop:=
  ref21_Right a0 fun r34=>ifP (r34 != 0) (ref21_none  fun r39=>Q r39) (ifP (decide (a1.Low<0)) (ref21_none  fun r56=>Q r56) (ifP (decide (a1.High<a1.Low)) (ref21_none  fun r73=>Q r73) (ifP (decide (a0.N<a1.High)) (ref21_none  fun r90=>Q r90) (ifP ((a1.A.length:Int) != (w64 (a1.High - a1.Low))) (ref21_none  fun r107=>Q r107) (ifP ((a1.B.length:Int) != (w64 (a1.High - a1.Low))) (ref21_none  fun r124=>Q r124) (ref03_Right a1.On (w64 (a1.High - a1.Low)) fun r140=>ifP (!r140) (ref21_none  fun r145=>Q r145) (Q a1)))))))
def ref21_Live (a0:Plan) (a1:State) (a2:Int) (Q:Int→Prop):Prop:=
  ref21_Sure a0 a1 fun r37=>joinP (fun (k57:Unit→Prop)=>ifP (a0.Kind==4) (ifP (decide (a0.Length≤a2)) (Q 0) (k57 ())) (k57 ())) fun _=>loopP (fun (s:Int×Int) (next121:(Int×Int)→Prop)=>match s with | (s119,s120)=>ifP (decide (s120<(w64 (r37.High - r37.Low)))) (ifP (a0.Kind==5) (idxP r37.A s120 fun x130=>ifP (x130==0) (next121 (w64 (s119+1),w64 (s120+1))) (ifP (a0.Kind != 5) (ref03_Has r37.On s120 fun r140=>ifP r140 (next121 (w64 (s119+1),w64 (s120+1))) (next121 (s119,w64 (s120+1)))) (next121 (s119,w64 (s120+1))))) (ifP (a0.Kind != 5) (ref03_Has r37.On s120 fun r146=>ifP r146 (next121 (w64 (s119+1),w64 (s120+1))) (next121 (s119,w64 (s120+1)))) (next121 (s119,w64 (s120+1))))) (Q s119)) (0,0)
def ref03_Same (a0:List Int) (a1:List Int) (Q:Bool→Prop):Prop:=
  ifP ((a0.length:Int) != (a1.length:Int)) (Q false) (loopP (fun (s54:Int) (next55:Int→Prop)=>ifP (decide (s54<(a0.length:Int))) (idxP a0 s54 fun x61=>idxP a1 s54 fun x70=>ifP (x61 != x70) (Q false) (next55 (w64 (s54+1)))) (Q true)) 0)
def ref21_Same (a0:State) (a1:State) (Q:Bool→Prop):Prop:=
  ifP (a0.Low==a1.Low) (ifP (a0.High==a1.High) (ref07_SameVals a0.A a1.A fun r29=>ifP r29 (ref07_SameVals a0.B a1.B fun r34=>ifP r34 (ref03_Same a0.On a1.On fun r39=>Q r39) (Q false)) (Q false)) (Q false)) (Q false)
def ref21_Ring (a0:Int) (a1:Int) (Q:Int→Prop):Prop:=
  joinP (fun (k4:Bool→Prop)=>ifP (a0==1) (k4 (a0==1)) (k4 (a0==3))) fun s3=>ifP s3 (Q 4) (ifP (a0==2) (Q 1) (ifP (a0==4) (Q 5) (ifP (a0==5) (ifP ((a1.tmod 2)==0) (Q 2) (Q 4)) (Q 0))))
def ref21_Draw (a0:Plan) (a1:Int) (a2:Int) (Q:Int→Prop):Prop:=
  ref21_Right a0 fun r17=>ifP (r17 != 0) (Q 0) (ifP (decide (a1<0)) (Q 0) (ifP (decide (8192<a1)) (Q 0) (ifP (decide (a2<0)) (Q 0) (ifP (decide (a0.N≤a2)) (Q 0) (ifP (decide (0<(a0.Draws.length:Int))) (nzP (a0.Draws.length:Int) <| idxP a0.Draws ((w64 ((w64 (a1*a0.N))+a2)).tmod (a0.Draws.length:Int)) fun x29=>Q (w64 ((w64 (x29*4096))+a2))) (Q (w64 ((w64 (0*4096))+a2))))))))
def ref21_draw (a0:Int) (Q:Int→Prop):Prop:=
  ifP (decide (a0<1)) (Q (-1)) (Q (w64 ((w64 (a0 - 1)).tdiv 2)))
def ref21_tells (a0:Plan) (a1:State) (a2:Int) (a3:Int) (Q:(Int×Bool)→Prop):Prop:=
  ref03_Has a1.On a3 fun r25=>ifP (a0.Kind==1) (Q (w64 (a1.Low+a3),r25)) (joinP (fun (k33:Bool→Prop)=>ifP (a0.Kind==5) (k33 ((a2.tmod 2) != 0)) (k33 false)) fun s32=>ifP s32 (idxP a1.A a3 fun x39=>ref21_draw a2 fun r47=>ref21_Draw a0 r47 (w64 (a1.Low+a3)) fun r51=>Q (r51,x39==0)) (ifP (a0.Kind==5) (Q (1,r25)) (idxP a1.A a3 fun x57=>Q (x57,r25))))
def ref21_Out (a0:Plan) (a1:State) (a2:Int) (Q:Vec→Prop):Prop:=
  ref21_Sure a0 a1 fun r44=>loopP (fun (s:(List Item)×Int) (next120:((List Item)×Int)→Prop)=>match s with | (s114,s118)=>ifP (decide (s118<(w64 (r44.High - r44.Low)))) (ref21_tells a0 r44 a2 s118 fun r130=>ifP r130.2 (appP 16 s114 ([({ At:=s118,Val:=r130.1 }:Item)]) fun _=>next120 ((s114++([({ At:=s118,Val:=r130.1 }:Item)])),w64 (s118+1))) (next120 (s114,w64 (s118+1)))) (Q ({ N:=w64 (r44.High - r44.Low),Items:=s114 }:Vec))) (([]:List Item),0)
def ref07_Right (a0:Rows) (Q:Bool→Prop):Prop:=
  ifP (decide (a0.Rows<0)) (Q false) (ifP (decide (4096<a0.Rows)) (Q false) (ifP (decide (a0.Cols<0)) (Q false) (ifP (decide (4096<a0.Cols)) (Q false) (ifP ((a0.Start.length:Int) != (w64 (a0.Rows+1))) (Q false) (ifP ((a0.Col.length:Int) != (a0.Val.length:Int)) (Q false) (ifP (decide (65536<(a0.Col.length:Int))) (Q false) (idxP a0.Start 0 fun x49=>ifP (x49 != 0) (Q false) (idxP a0.Start a0.Rows fun x59=>ifP (x59 != (a0.Col.length:Int)) (Q false) (loopP (fun (s695:Int) (next696:Int→Prop)=>ifP (decide (s695<a0.Rows)) (idxP a0.Start s695 fun x741=>idxP a0.Start (w64 (s695+1)) fun x750=>ifP (decide (x750<x741)) (Q false) (idxP a0.Start s695 fun x760=>ifP (decide (x760<0)) (Q false) (idxP a0.Start (w64 (s695+1)) fun x770=>ifP (decide ((a0.Col.length:Int)<x770)) (Q false) (idxP a0.Start s695 fun x789=>loopP (fun (s938:Int) (next939:Int→Prop)=>idxP a0.Start (w64 (s695+1)) fun x954=>ifP (decide (s938<x954)) (idxP a0.Col s938 fun x964=>ifP (decide (x964<0)) (Q false) (idxP a0.Col s938 fun x974=>ifP (decide (a0.Cols≤x974)) (Q false) (idxP a0.Start s695 fun x984=>ifP (decide (x984<s938)) (idxP a0.Col s938 fun x994=>idxP a0.Col (w64 (s938 - 1)) fun x1003=>ifP (decide (x994≤x1003)) (Q false) (next939 (w64 (s938+1)))) (next939 (w64 (s938+1)))))) (next696 (w64 (s695+1)))) x789)))) (Q true)) 0)))))))))
def ref07_Sure (a0:Rows) (Q:Rows→Prop):Prop:=
  ref07_Right a0 fun r27=>ifP r27 (Q a0) (ref07_Empty 0 0 fun r32=>Q r32)
def ref21_Asked (a0:Plan) (a1:State) (a2:Int) (Q:((List Int)×Bool)→Prop):Prop:=
  ref21_Sure a0 a1 fun r40=>joinP (fun (k60:Unit→Prop)=>ifP (a0.Kind != 1) (ifP (a0.Kind != 5) (Q (([]:List Int),true)) (k60 ())) (k60 ())) fun _=>loopP (fun (s:(List Int)×Int) (next384:((List Int)×Int)→Prop)=>match s with | (s378,s382)=>ifP (decide (s382<(r40.A.length:Int))) (ifP (a0.Kind==1) (idxP r40.A s382 fun x393=>ifP (x393==(-1)) (appP 8 s378 ([s382]) fun _=>next384 ((s378++([s382])),w64 (s382+1))) (ifP (a0.Kind==5) (idxP r40.A s382 fun x410=>ifP (x410==0) (appP 8 s378 ([s382]) fun _=>next384 ((s378++([s382])),w64 (s382+1))) (next384 (s378,w64 (s382+1)))) (next384 (s378,w64 (s382+1))))) (ifP (a0.Kind==5) (idxP r40.A s382 fun x427=>ifP (x427==0) (appP 8 s378 ([s382]) fun _=>next384 ((s378++([s382])),w64 (s382+1))) (next384 (s378,w64 (s382+1)))) (next384 (s378,w64 (s382+1))))) (ref03_Of (w64 (r40.High - r40.Low)) s378 fun r448=>Q (r448,false))) (([]:List Int),0)
def ref01_Minus (a0:Wide) (Q:Wide→Prop):Prop:=
  ref01_Add ({ Hi:=bxor .i64 (-1) a0.Hi,Lo:=bxor .u64 18446744073709551615 a0.Lo }:Wide) ({ Hi:=0,Lo:=1 }:Wide) fun r9=>Q r9
def ref01_Mul (a0:Int) (a1:Int) (Q:Wide→Prop):Prop:=
  ref01_Of a0 fun r11=>joinP (fun (k20:Int→Prop)=>ifP (decide (a1<0)) (k20 (IntKind.wrap .u64 (0 - (IntKind.wrap .u64 (a1))))) (k20 (IntKind.wrap .u64 (a1)))) fun s19=>loopP (fun (s:Int×Int×Int×Int×Int) (next147:(Int×Int×Int×Int×Int)→Prop)=>match s with | (s142,s143,s144,s145,s146)=>ifP (decide (0<s144)) (ifP ((s144.tmod 2)==1) (ref01_Add ({ Hi:=s145,Lo:=s146 }:Wide) ({ Hi:=s142,Lo:=s143 }:Wide) fun r154=>ref01_Add ({ Hi:=s142,Lo:=s143 }:Wide) ({ Hi:=s142,Lo:=s143 }:Wide) fun r158=>next147 (r158.Hi,r158.Lo,IntKind.wrap .u64 (s144.tdiv 2),r154.Hi,r154.Lo)) (ref01_Add ({ Hi:=s142,Lo:=s143 }:Wide) ({ Hi:=s142,Lo:=s143 }:Wide) fun r162=>next147 (r162.Hi,r162.Lo,IntKind.wrap .u64 (s144.tdiv 2),s145,s146))) (ifP (decide (a1<0)) (ref01_Minus ({ Hi:=s145,Lo:=s146 }:Wide) fun r167=>Q r167) (Q ({ Hi:=s145,Lo:=s146 }:Wide)))) (r11.Hi,r11.Lo,s19,0,0)
def ref02_Mul (a0:Int) (a1:Int) (a2:Int) (Q:Wide→Prop):Prop:=
  joinP (fun (k8:Bool→Prop)=>ifP (decide (4611686018427387904≤a1)) (k8 true) (k8 (decide (4611686018427387904≤a2)))) fun s7=>ifP (a0==1) (ref01_Of a1 fun r27=>ref01_Of a2 fun r31=>ref01_Add r27 r31 fun r35=>ifP s7 (ref01_Of 4611686018427387904 fun r42=>Q r42) (ref01_Of 4611686018427387904 fun r46=>ref01_Compare r35 r46 fun r50=>ifP (decide (0<r50)) (ref01_Of 4611686018427387904 fun r55=>Q r55) (Q r35))) (ifP (a0==3) (ifP s7 (ref01_Of 4611686018427387904 fun r61=>Q r61) (ref01_Of a1 fun r65=>Q r65)) (ifP (a0==4) (ifP s7 (ref01_Of 4611686018427387904 fun r71=>Q r71) (ref01_Of a2 fun r75=>Q r75)) (ifP (a0==2) (ifP (a1 != 0) (ref02_truth (a2 != 0) fun r81=>Q r81) (ref02_truth false fun r85=>Q r85)) (ifP (a0==5) (ref01_Mul a1 a2 fun r90=>Q r90) (Q ({ Hi:=0,Lo:=0 }:Wide))))))
def ref10_Right (a0:Dense) (Q:Bool→Prop):Prop:=
  ifP (decide (a0.N<0)) (Q false) (ifP (decide (4096<a0.N)) (Q false) (ref03_Right a0.Has a0.N fun r21=>ifP (!r21) (Q false) (ifP ((a0.Vals.length:Int) != a0.N) (Q false) (loopP (fun (s64:Int) (next65:Int→Prop)=>ifP (decide (s64<a0.N)) (ref03_Has a0.Has s64 fun r70=>ifP (!r70) (idxP a0.Vals s64 fun x76=>ifP (x76 != 0) (Q false) (next65 (w64 (s64+1)))) (next65 (w64 (s64+1)))) (Q true)) 0))))
def ref10_Back (a0:Dense) (Q:Vec→Prop):Prop:=
  ref10_Right a0 fun r23=>ifP (!r23) (Q ({ N:=0,Items:=([]:List Item) }:Vec)) (ref03_List a0.Has fun r42=>loopP (fun (s:(List Item)×Int) (next145:((List Item)×Int)→Prop)=>match s with | (s139,s143)=>ifP (decide (s143<(r42.length:Int))) (idxP r42 s143 fun x153=>idxP r42 s143 fun x162=>idxP a0.Vals x162 fun x171=>appP 16 s139 ([({ At:=x153,Val:=x171 }:Item)]) fun _=>next145 ((s139++([({ At:=x153,Val:=x171 }:Item)])),w64 (s143+1))) (Q ({ N:=a0.N,Items:=s139 }:Vec))) (([]:List Item),0))
def ref13_Sums (a0:Int) (a1:Rows) (a2:Dense) (a3:List Int) (a4:Bool) (Q:((List Sum)×Int)→Prop):Prop:=
  ref07_Sure a1 fun r46=>ref10_Back a2 fun r75=>ref02_Is a0 fun r93=>ifP (!r93) (Q (([]:List Sum),8)) (ifP (r75.N != r46.Cols) (Q (([]:List Sum),4)) (loopP (fun (s:(List Sum)×Int) (next1308:((List Sum)×Int)→Prop)=>match s with | (s1302,s1306)=>ifP (decide (s1306<r46.Rows)) (ref03_Has a3 s1306 fun r1319=>ifP (r1319==a4) (next1308 (s1302,w64 (s1306+1))) (idxP r46.Start s1306 fun x1627=>loopP (fun (s:Int×Int×Bool×Int) (next1816:(Int×Int×Bool×Int)→Prop)=>match s with | (s1812,s1813,s1814,s1815)=>idxP r46.Start (w64 (s1306+1)) fun x1832=>ifP (decide (s1815<x1832)) (idxP r46.Col s1815 fun x1857=>ref09_Get r75 x1857 fun r1865=>ifP (!r1865.2) (next1816 (s1812,s1813,s1814,w64 (s1815+1))) (idxP r46.Val s1815 fun x1887=>ref02_Mul a0 x1887 r1865.1 fun r1895=>ifP s1814 (ref02_Add a0 ({ Hi:=s1812,Lo:=s1813 }:Wide) r1895 fun r1902=>next1816 (r1902.Hi,r1902.Lo,true,w64 (s1815+1))) (next1816 (r1895.Hi,r1895.Lo,true,w64 (s1815+1))))) (ifP s1814 (appP 24 s1302 ([({ At:=s1306,Val:=({ Hi:=s1812,Lo:=s1813 }:Wide) }:Sum)]) fun _=>next1308 ((s1302++([({ At:=s1306,Val:=({ Hi:=s1812,Lo:=s1813 }:Wide) }:Sum)])),w64 (s1306+1))) (next1308 (s1302,w64 (s1306+1))))) (0,0,false,x1627))) (Q (s1302,0))) (([]:List Sum),0)))
def ref02_least (a0:Int) (Q:Bool→Prop):Prop:=
  ifP (a0==1) (Q true) (ifP (a0==3) (Q true) (Q (a0==4)))
def ref02_Zero (a0:Int) (Q:Int→Prop):Prop:=
  ref02_least a0 fun r1=>ifP r1 (Q 4611686018427387904) (Q 0)
def ref13_Done (a0:Int) (a1:Int) (a2:List Sum) (Q:(Vec×Int)→Prop):Prop:=
  ref02_Is a0 fun r16=>ifP (!r16) (Q (({ N:=0,Items:=([]:List Item) }:Vec),8)) (ifP (decide (a1<0)) (Q (({ N:=0,Items:=([]:List Item) }:Vec),3)) (ifP (decide (4096<a1)) (Q (({ N:=0,Items:=([]:List Item) }:Vec),3)) (loopP (fun (s145:Int) (next146:Int→Prop)=>ifP (decide (s145<(a2.length:Int))) (idxP a2 s145 fun x152=>ifP (decide (x152.At<0)) (Q (({ N:=0,Items:=([]:List Item) }:Vec),3)) (idxP a2 s145 fun x162=>ifP (decide (a1≤x162.At)) (Q (({ N:=0,Items:=([]:List Item) }:Vec),3)) (next146 (w64 (s145+1))))) (loopP (fun (s287:Int) (next288:Int→Prop)=>ifP (decide (s287<(a2.length:Int))) (idxP a2 s287 fun x295=>idxP a2 (w64 (s287 - 1)) fun x304=>ifP (decide (x295.At≤x304.At)) (Q (({ N:=0,Items:=([]:List Item) }:Vec),6)) (next288 (w64 (s287+1)))) (loopP (fun (s:(List Item)×Int) (next448:((List Item)×Int)→Prop)=>match s with | (s442,s446)=>ifP (decide (s446<(a2.length:Int))) (idxP a2 s446 fun x469=>ref01_Narrow x469.Val fun r477=>ifP (!r477.2) (Q (({ N:=0,Items:=([]:List Item) }:Vec),12)) (ref02_Zero a0 fun r487=>ifP (r477.1 != r487) (idxP a2 s446 fun x494=>appP 16 s442 ([({ At:=x494.At,Val:=r477.1 }:Item)]) fun _=>next448 ((s442++([({ At:=x494.At,Val:=r477.1 }:Item)])),w64 (s446+1))) (next448 (s442,w64 (s446+1))))) (Q (({ N:=a1,Items:=s442 }:Vec),0))) (([]:List Item),0))) 1)) 0)))
def ref13_Times (a0:Int) (a1:Rows) (a2:Dense) (a3:List Int) (a4:Bool) (Q:(Vec×Int)→Prop):Prop:=
  ref13_Sums a0 a1 a2 a3 a4 fun r44=>ifP (r44.2 != 0) (Q (({ N:=0,Items:=([]:List Item) }:Vec),r44.2)) (ref07_Sure a1 fun r56=>ref13_Done a0 r56.Rows r44.1 fun r73=>Q (r73.1,r73.2))
def ref21_Update (a0:Plan) (a1:State) (a2:Int) (a3:Vec) (Q:State→Prop):Prop:=
  ref21_Sure a0 a1 fun r57=>appP 8 ([]:List Int) r57.A fun _=>appP 8 ([]:List Int) r57.B fun _=>appP 8 ([]:List Int) r57.On fun _=>ref09_Right a3 fun r113=>ifP (!r113) (Q ({ Low:=r57.Low,High:=r57.High,A:=(([]:List Int)++r57.A),B:=(([]:List Int)++r57.B),On:=(([]:List Int)++r57.On) }:State)) (ifP (a3.N != (w64 (r57.High - r57.Low))) (Q ({ Low:=r57.Low,High:=r57.High,A:=(([]:List Int)++r57.A),B:=(([]:List Int)++r57.B),On:=(([]:List Int)++r57.On) }:State)) (loopP (fun (s:(List Int)×(List Int)×(List Int)×Int) (next1130:((List Int)×(List Int)×(List Int)×Int)→Prop)=>match s with | (s1116,s1120,s1124,s1128)=>ifP (decide (s1128<a3.N)) (ref09_Get a3 s1128 fun r1140=>ifP (a0.Kind==1) (joinP (fun (k1166:Bool→Prop)=>ifP r1140.2 (idxP r57.A s1128 fun x1169=>k1166 (x1169==(-1))) (k1166 false)) fun s1165=>ifP s1165 (idxP s1116 s1128 fun x1183=>idxP s1120 s1128 fun x1188=>appP 8 s1124 ([s1128]) fun _=>next1130 ((s1116.set s1128.toNat a2),(s1120.set s1128.toNat r1140.1),(s1124++([s1128])),w64 (s1128+1))) (next1130 (s1116,s1120,s1124,w64 (s1128+1)))) (joinP (fun (k1201:Bool→Prop)=>ifP (a0.Kind==2) (k1201 (a0.Kind==2)) (k1201 (a0.Kind==3))) fun s1200=>ifP s1200 (ifP r1140.2 (idxP r57.A s1128 fun x1210=>ifP (decide (r1140.1<x1210)) (idxP s1116 s1128 fun x1220=>appP 8 s1124 ([s1128]) fun _=>next1130 ((s1116.set s1128.toNat r1140.1),s1120,(s1124++([s1128])),w64 (s1128+1))) (next1130 (s1116,s1120,s1124,w64 (s1128+1)))) (next1130 (s1116,s1120,s1124,w64 (s1128+1)))) (ifP (a0.Kind==4) (idxP s1116 s1128 fun x1232=>ifP (r1140.1 != 0) (appP 8 s1124 ([s1128]) fun _=>next1130 ((s1116.set s1128.toNat r1140.1),s1120,(s1124++([s1128])),w64 (s1128+1))) (next1130 ((s1116.set s1128.toNat r1140.1),s1120,s1124,w64 (s1128+1)))) (idxP r57.A s1128 fun x1254=>ifP (x1254 != 0) (next1130 (s1116,s1120,s1124,w64 (s1128+1))) (ifP ((a2.tmod 2)==0) (ifP r1140.2 (idxP s1116 s1128 fun x1273=>next1130 ((s1116.set s1128.toNat 2),s1120,s1124,w64 (s1128+1))) (next1130 (s1116,s1120,s1124,w64 (s1128+1)))) (ifP (!r1140.2) (idxP s1116 s1128 fun x1279=>appP 8 s1124 ([s1128]) fun _=>next1130 ((s1116.set s1128.toNat 1),s1120,(s1124++([s1128])),w64 (s1128+1))) (ref21_draw a2 fun r1289=>ref21_Draw a0 r1289 (w64 (r57.Low+s1128)) fun r1293=>ifP (decide (r1293<r1140.1)) (idxP s1116 s1128 fun x1299=>appP 8 s1124 ([s1128]) fun _=>next1130 ((s1116.set s1128.toNat 1),s1120,(s1124++([s1128])),w64 (s1128+1))) (next1130 (s1116,s1120,s1124,w64 (s1128+1)))))))))) (ref03_Of a3.N s1124 fun r1314=>Q ({ Low:=r57.Low,High:=r57.High,A:=s1116,B:=s1120,On:=r1314 }:State))) ((([]:List Int)++r57.A),(([]:List Int)++r57.B),([]:List Int),0)))
def ref22_Step (a0:Plan) (a1:Rows) (a2:State) (a3:Int) (Q:(State×Int)→Prop):Prop:=
  ref21_Right a0 fun r60=>ifP (r60 != 0) (Q (({ Low:=0,High:=0,A:=([]:List Int),B:=([]:List Int),On:=([]:List Int) }:State),r60)) (ref07_Sure a1 fun r81=>ref21_Sure a0 a2 fun r116=>ifP (r81.Rows != a0.N) (Q (({ Low:=0,High:=0,A:=([]:List Int),B:=([]:List Int),On:=([]:List Int) }:State),4)) (ifP (r81.Cols != a0.N) (Q (({ Low:=0,High:=0,A:=([]:List Int),B:=([]:List Int),On:=([]:List Int) }:State),4)) (ref21_Same r116 a2 fun r146=>ifP (!r146) (Q (({ Low:=0,High:=0,A:=([]:List Int),B:=([]:List Int),On:=([]:List Int) }:State),4)) (ifP (a2.Low != 0) (Q (({ Low:=0,High:=0,A:=([]:List Int),B:=([]:List Int),On:=([]:List Int) }:State),4)) (ifP (a2.High != a0.N) (Q (({ Low:=0,High:=0,A:=([]:List Int),B:=([]:List Int),On:=([]:List Int) }:State),4)) (ref21_Asked a0 a2 a3 fun r164=>ref21_Ring a0.Kind a3 fun r218=>ref21_Out a0 a2 a3 fun r222=>ref10_Of r222 fun r233=>ref13_Times r218 r81 r233 r164.1 r164.2 fun r247=>ifP (r247.2 != 0) (Q (({ Low:=0,High:=0,A:=([]:List Int),B:=([]:List Int),On:=([]:List Int) }:State),r247.2)) (ref21_Update a0 a2 a3 r247.1 fun r260=>Q (r260,0))))))))
def ref22_all (a0:Plan) (a1:Graph) (a2:Int) (Q:((List State)×Int)→Prop):Prop:=
  ref21_Matrix a0 a1 fun r36=>ref21_Begin a0 0 a0.N fun r73=>loopP (fun (s:Int×Int×(List Int)×(List Int)×(List Int)×(List State)×Int) (next288:(Int×Int×(List Int)×(List Int)×(List Int)×(List State)×Int)→Prop)=>match s with | (s269,s270,s271,s275,s279,s283,s287)=>ref21_Live a0 ({ Low:=s269,High:=s270,A:=s271,B:=s275,On:=s279 }:State) s287 fun r297=>ifP (r297==0) (Q (s283,1)) (ifP (s287==a2) (Q (s283,2)) (ref22_Step a0 r36.1 ({ Low:=s269,High:=s270,A:=s271,B:=s275,On:=s279 }:State) (w64 (s287+1)) fun r334=>ifP (r334.2 != 0) (Q (s283,3)) (appP 88 s283 ([r334.1]) fun _=>next288 (r334.1.Low,r334.1.High,r334.1.A,r334.1.B,r334.1.On,(s283++([r334.1])),w64 (s287+1)))))) (r73.Low,r73.High,r73.A,r73.B,r73.On,([r73]:List State),0)
def ref22_Trace (a0:Plan) (a1:Graph) (a2:Int) (Q:((List State)×Int)→Prop):Prop:=
  ref22_Check a0 a1 a2 fun r23=>ifP (r23 != 0) (Q (([]:List State),r23)) (ref22_all a0 a1 a2 fun r28=>Q (r28.1,0))
def ref35_Mail (a0:Plan) (a1:List Edge) (a2:State) (a3:Int) (Q:((List (List Wide))×Int)→Prop):Prop:=
  ref21_Right a0 fun r32=>ifP (r32 != 0) (Q (([]:List (List Wide)),r32)) (ref21_Sure a0 a2 fun r60=>ref21_Same r60 a2 fun r76=>ifP (!r76) (Q (([]:List (List Wide)),4)) (ifP (a2.Low != 0) (Q (([]:List (List Wide)),4)) (ifP (a2.High != a0.N) (Q (([]:List (List Wide)),4)) (loopP (fun (s304:Int) (next305:Int→Prop)=>ifP (decide (s304<(a1.length:Int))) (idxP a1 s304 fun x312=>ifP (decide (x312.From<0)) (Q (([]:List (List Wide)),3)) (idxP a1 s304 fun x322=>ifP (decide (a0.N≤x322.From)) (Q (([]:List (List Wide)),3)) (idxP a1 s304 fun x332=>ifP (decide (x332.To<0)) (Q (([]:List (List Wide)),3)) (idxP a1 s304 fun x342=>ifP (decide (a0.N≤x342.To)) (Q (([]:List (List Wide)),3)) (next305 (w64 (s304+1))))))) (ref21_Ring a0.Kind a3 fun r355=>ref21_Out a0 a2 a3 fun r373=>mkP 24 a0.N ([]:List Wide) fun _=>loopP (fun (s:(List (List Wide))×Int) (next584:((List (List Wide))×Int)→Prop)=>match s with | (s579,s583)=>ifP (decide (s583<(a1.length:Int))) (idxP a1 s583 fun x605=>ref09_Get r373 x605.From fun r613=>ifP r613.2 (idxP a1 s583 fun x623=>idxP a1 s583 fun x632=>idxP s579 x632.To fun x641=>idxP a1 s583 fun x649=>ref02_Mul r355 x649.W r613.1 fun r657=>appP 16 x641 ([r657]) fun _=>idxP s579 x623.To fun x669=>next584 ((s579.set x623.To.toNat (x641++([r657]))),w64 (s583+1))) (next584 (s579,w64 (s583+1)))) (Q (s579,0))) ((List.replicate a0.N.toNat ([]:List Wide)),0))) 0))))
def ref35_SameWide (a0:List Wide) (a1:List Wide) (Q:Bool→Prop):Prop:=
  ifP ((a0.length:Int) != (a1.length:Int)) (Q false) (loopP (fun (s54:Int) (next55:Int→Prop)=>ifP (decide (s54<(a0.length:Int))) (idxP a0 s54 fun x61=>idxP a1 s54 fun x70=>ifP (!(x61==x70)) (Q false) (next55 (w64 (s54+1)))) (Q true)) 0)
def spvec_sure (a0:Vec) (Q:Vec→Prop):Prop:=
  spvec_Right a0 fun r15=>ifP r15 (Q a0) (Q ({ N:=0,Items:=([]:List Item) }:Vec))
def spvec_order_7ac (a0:Item) (a1:Int) (Q:Int→Prop):Prop:=
  cmp_Compare_int a0.At a1 fun r3=>Q r3
def slices_BinarySearchFunc_api_Item_api_Item_int_8a3 (a0:List Item) (a1:Int) (Q:(Int×Bool)→Prop):Prop:=
  loopP (fun (s:Int×Int) (next119:(Int×Int)→Prop)=>match s with | (s117,s118)=>ifP (decide (s117<s118)) (idxP a0 (w64 (shr .u64 (IntKind.wrap .u64 (w64 (s117+s118))) 1)) fun x125=>spvec_order_7ac x125 a1 fun r139=>ifP (decide (r139<0)) (next119 (w64 ((w64 (shr .u64 (IntKind.wrap .u64 (w64 (s117+s118))) 1))+1),s118)) (next119 (s117,w64 (shr .u64 (IntKind.wrap .u64 (w64 (s117+s118))) 1)))) (ifP (decide (s117<(a0.length:Int))) (idxP a0 s117 fun x144=>spvec_order_7ac x144 a1 fun r158=>Q (s117,r158==0)) (Q (s117,false)))) (0,(a0.length:Int))
def spvec_find (a0:Vec) (a1:Int) (Q:(Int×Bool)→Prop):Prop:=
  slices_BinarySearchFunc_api_Item_api_Item_int_8a3 a0.Items a1 fun r12=>Q (r12.1,r12.2)
def spvec_Get (a0:Vec) (a1:Int) (Q:(Int×Bool)→Prop):Prop:=
  spvec_sure a0 fun r18=>spvec_find r18 a1 fun r32=>ifP (!r32.2) (Q (0,false)) (idxP r18.Items r32.1 fun x38=>Q (x38.Val,true))
def prog_behind (a0:Plan) (a1:State) (a2:Int) (a3:Int) (a4:Int) (a5:Bool) (Q:(Int×Int×Bool)→Prop):Prop:=
  idxP a1.A a3 fun x40=>idxP a1.B a3 fun x49=>ifP (a0.Kind==1) (ifP a5 (ifP (x40==(-1)) (Q (a2,a4,true)) (Q (x40,x49,false))) (Q (x40,x49,false))) (joinP (fun (k63:Bool→Prop)=>ifP (a0.Kind==2) (k63 (a0.Kind==2)) (k63 (a0.Kind==3))) fun s62=>ifP s62 (ifP a5 (ifP (decide (a4<x40)) (Q (a4,x49,true)) (Q (x40,x49,false))) (Q (x40,x49,false))) (ifP (a0.Kind==4) (Q (a4,x49,a4 != 0)) (ifP (a0.Kind==5) (ifP (x40 != 0) (Q (x40,x49,false)) (joinP (fun (k76:Bool→Prop)=>ifP ((bnd .i64 a2 1)==0) (k76 a5) (k76 false)) fun s75=>ifP s75 (Q (2,x49,false)) (ifP ((bnd .i64 a2 1)==1) (ifP (!a5) (Q (1,x49,true)) (prog_draw a2 fun r84=>prog_number a0 r84 (w64 (a1.Low+a3)) fun r88=>ifP (decide (r88<a4)) (Q (1,x49,true)) (Q (x40,x49,false)))) (Q (x40,x49,false))))) (Q (x40,x49,false)))))
def prog_first (a0:Plan) (a1:Int) (Q:(Int×Bool)→Prop):Prop:=
  ifP (a0.Kind==3) (Q (a1,true)) (ifP (a0.Kind==5) (Q (0,false)) (joinP (fun (k13:Bool→Prop)=>ifP (a0.Kind==4) (k13 (a1==a0.Source)) (k13 false)) fun s12=>ifP s12 (Q (1,true)) (joinP (fun (k22:(Bool×Bool)→Prop)=>ifP (a1==a0.Source) (k22 (true,true)) (k22 (false,a0.Kind==4))) fun (s20,s21)=>ifP s21 (Q (0,s20)) (ifP (a0.Kind==1) (Q ((-1),false)) (Q (4611686018427387904,false))))))
def prog_Update_1_24a (o0:Vec) (o1:Plan) (o2:State) (o3:Int) (a0:Int) (Q:(Int×Int×Bool)→Prop):Prop:=
  spvec_Get o0 a0 fun r28=>prog_behind o1 o2 o3 a0 r28.1 r28.2 fun r32=>Q (r32.1,r32.2.1,r32.2.2)
def prog_changed_59a (o0:Vec) (o1:Plan) (o2:State) (o3:Int) (a0:State) (a1:Int) (Q:State→Prop):Prop:=
  loopP (fun (s:(List Int)×(List Int)×(List Int)×Int) (next173:((List Int)×(List Int)×(List Int)×Int)→Prop)=>match s with | (s157,s161,s165,s169)=>ifP (decide (s169<a1)) (prog_Update_1_24a o0 o1 o2 o3 s169 fun r192=>appP 8 s157 ([r192.1]) fun _=>appP 8 s161 ([r192.2.1]) fun _=>ifP r192.2.2 (appP 8 s165 ([s169]) fun _=>next173 ((s157++([r192.1])),(s161++([r192.2.1])),(s165++([s169])),w64 (s169+1))) (next173 ((s157++([r192.1])),(s161++([r192.2.1])),s165,w64 (s169+1)))) (flags_Of a1 s165 fun r217=>Q ({ Low:=a0.Low,High:=a0.High,A:=s157,B:=s161,On:=r217 }:State))) (([]:List Int),([]:List Int),([]:List Int),0)
def prog_Update (a0:Plan) (a1:State) (a2:Int) (a3:Vec) (Q:State→Prop):Prop:=
  prog_sure a0 a1 fun r61=>joinP (fun (k88:Bool→Prop)=>spvec_Right a3 fun r89=>ifP (!r89) (k88 true) (k88 (a3.N != (w64 (r61.High - r61.Low))))) fun s87=>ifP s87 (slices_Clone_int64_int64 r61.A fun r98=>slices_Clone_int64_int64 r61.B fun r110=>slices_Clone_uint64_uint64 r61.On fun r122=>Q ({ Low:=r61.Low,High:=r61.High,A:=r98,B:=r110,On:=r122 }:State)) (prog_changed_59a a3 a0 r61 a2 r61 (w64 (r61.High - r61.Low)) fun r140=>Q r140)
def vertex_Step (a0:Plan) (a1:List Edge) (a2:State) (a3:Int) (Q:(State×Int)→Prop):Prop:=
  vertex_Mail a0 a1 a2 a3 fun r47=>ifP (r47.2 != 0) (Q (({ Low:=0,High:=0,A:=([]:List Int),B:=([]:List Int),On:=([]:List Int) }:State),r47.2)) (prog_Asked a0 a2 a3 fun r70=>loopP (fun (s:(List Item)×Int) (next213:((List Item)×Int)→Prop)=>match s with | (s207,s211)=>ifP (decide (s211<(r47.1.length:Int))) (idxP r47.1 s211 fun x232=>flags_Has r70.1 s211 fun r248=>ifP (r248==r70.2) (next213 (s207,w64 (s211+1))) (vertex_Hear a0.Kind a3 x232 fun r257=>ifP (r257.2.2 != 0) (Q (({ Low:=0,High:=0,A:=([]:List Int),B:=([]:List Int),On:=([]:List Int) }:State),r257.2.2)) (ifP r257.2.1 (appP 16 s207 ([({ At:=s211,Val:=r257.1 }:Item)]) fun _=>next213 ((s207++([({ At:=s211,Val:=r257.1 }:Item)])),w64 (s211+1))) (next213 (s207,w64 (s211+1)))))) (prog_Update a0 a2 a3 ({ N:=a0.N,Items:=s207 }:Vec) fun r275=>Q (r275,0))) (([]:List Item),0))
def prog_Begin_1_d27 (o0:Plan) (o1:Int) (a0:Int) (Q:(Int×Int×Bool)→Prop):Prop:=
  prog_first o0 (w64 (o1+a0)) fun r8=>Q (r8.1,(-1),r8.2)
def prog_changed_b13 (o0:Plan) (o1:Int) (a0:State) (a1:Int) (Q:State→Prop):Prop:=
  loopP (fun (s:(List Int)×(List Int)×(List Int)×Int) (next157:((List Int)×(List Int)×(List Int)×Int)→Prop)=>match s with | (s141,s145,s149,s153)=>ifP (decide (s153<a1)) (prog_Begin_1_d27 o0 o1 s153 fun r176=>appP 8 s141 ([r176.1]) fun _=>appP 8 s145 ([r176.2.1]) fun _=>ifP r176.2.2 (appP 8 s149 ([s153]) fun _=>next157 ((s141++([r176.1])),(s145++([r176.2.1])),(s149++([s153])),w64 (s153+1))) (next157 ((s141++([r176.1])),(s145++([r176.2.1])),s149,w64 (s153+1)))) (flags_Of a1 s149 fun r201=>Q ({ Low:=a0.Low,High:=a0.High,A:=s141,B:=s145,On:=r201 }:State))) (([]:List Int),([]:List Int),([]:List Int),0)
def prog_Begin (a0:Plan) (a1:Int) (a2:Int) (Q:State→Prop):Prop:=
  prog_Right a0 fun r33=>ifP (r33 != 0) (Q ({ Low:=0,High:=0,A:=([]:List Int),B:=([]:List Int),On:=([]:List Int) }:State)) (ifP (decide (a1<0)) (Q ({ Low:=0,High:=0,A:=([]:List Int),B:=([]:List Int),On:=([]:List Int) }:State)) (ifP (decide (a2<a1)) (Q ({ Low:=0,High:=0,A:=([]:List Int),B:=([]:List Int),On:=([]:List Int) }:State)) (ifP (decide (a0.N<a2)) (Q ({ Low:=0,High:=0,A:=([]:List Int),B:=([]:List Int),On:=([]:List Int) }:State)) (prog_changed_b13 a0 a1 ({ Low:=a1,High:=a2,A:=([]:List Int),B:=([]:List Int),On:=([]:List Int) }:State) (w64 (a2 - a1)) fun r49=>Q r49))))
def vertex_letters_1_6d3 (o0:Nat) (o1:Int) (o2:List Edge) (o3:List (Int×Int)) (o4:Int) (Y:Nat→Int→Int→Wide→((Bool×Nat×Int)→Prop)→Prop) (Q:(Nat×Int)→Prop):Prop:=
  loopP (fun (s:Int×Int×Nat) (next136:(Int×Int×Nat)→Prop)=>match s with | (s133,s134,s135)=>ifP (decide (s134<(o2.length:Int))) (idxP o2 s134 fun x153=>lk2P o3 x153.From 0 fun r169 t174=>ifP t174 (ring_Mul o4 x153.W r169 fun r176=>Y s135 s133 x153.To r176 fun r186=>ifP (!r186.1) (Q (r186.2.1,r186.2.2)) (next136 (r186.2.2,w64 (s134+1),r186.2.1))) (next136 (s133,w64 (s134+1),s135))) (Q (s135,s133))) (o1,0,o0)
def vertex_run (a0:Plan) (a1:Graph) (a2:Int) (Q:(Result×Int×Int)→Prop):Prop:=
  model_Check a0 a1 a2 fun r41=>ifP (r41 != 0) (Q (({ Status:=0,Rounds:=0,State:=({ Low:=0,High:=0,A:=([]:List Int),B:=([]:List Int),On:=([]:List Int) }:State) }:Result),0,r41)) (vertex_Links a0 a1 fun r56=>ifP (r56.2 != 0) (Q (({ Status:=0,Rounds:=0,State:=({ Low:=0,High:=0,A:=([]:List Int),B:=([]:List Int),On:=([]:List Int) }:State) }:Result),0,r56.2)) (prog_Begin a0 0 a0.N fun r87=>loopP (fun (s:Int×Int×Int×(List Int)×(List Int)×(List Int)×Int) (next391:(Int×Int×Int×(List Int)×(List Int)×(List Int)×Int)→Prop)=>match s with | (s374,s375,s376,s377,s381,s385,s389)=>prog_Live a0 ({ Low:=s375,High:=s376,A:=s377,B:=s381,On:=s385 }:State) s374 fun r409=>ifP (r409==0) (Q (({ Status:=1,Rounds:=s374,State:=({ Low:=s375,High:=s376,A:=s377,B:=s381,On:=s385 }:State) }:Result),s389,0)) (ifP (s374==a2) (Q (({ Status:=2,Rounds:=s374,State:=({ Low:=s375,High:=s376,A:=s377,B:=s381,On:=s385 }:State) }:Result),s389,0)) (vertex_Step a0 r56.1 ({ Low:=s375,High:=s376,A:=s377,B:=s381,On:=s385 }:State) (w64 (s374+1)) fun r435=>ifP (r435.2 != 0) (Q (({ Status:=3,Rounds:=s374,State:=({ Low:=s375,High:=s376,A:=s377,B:=s381,On:=s385 }:State) }:Result),s389,0)) (vertex_letters_c5d a0 r56.1 ({ Low:=s375,High:=s376,A:=s377,B:=s381,On:=s385 }:State) (w64 (s374+1)) fun r463=>vertex_letters_1_6d3 0 s389 r463.1 r463.2.1 r463.2.2 (fun (y488:Nat) (y489:Int) (x491:Int) (x492:Wide) (Qy:(Bool×Nat×Int)→Prop)=>eqP y488 0 (Qy (true,0,w64 (y489+1)))) fun r497=>eqP r497.1 0 (next391 (w64 (s374+1),r435.1.Low,r435.1.High,r435.1.A,r435.1.B,r435.1.On,r497.2)))))) (0,r87.Low,r87.High,r87.A,r87.B,r87.On,0)))
def vertex_Run (a0:Plan) (a1:Graph) (a2:Int) (Q:(Result×Int)→Prop):Prop:=
  vertex_run a0 a1 a2 fun r28=>Q (r28.1,r28.2.2)
def vertex_Letters (a0:Plan) (a1:Graph) (a2:Int) (Q:(Int×Int)→Prop):Prop:=
  vertex_run a0 a1 a2 fun r15=>Q (r15.2.1,r15.2.2)
def law35_live  (Q:Bool→Prop):Prop:=
  vertex_Links ({ Kind:=1,N:=2,Source:=0,Length:=0,Draws:=([]:List Int) }:Plan) ({ N:=2,Edges:=([({ From:=0,To:=1,W:=7 }:Edge)]:List Edge) }:Graph) fun r32=>ref21_Begin ({ Kind:=1,N:=2,Source:=0,Length:=0,Draws:=([]:List Int) }:Plan) 0 2 fun r71=>vertex_Mail ({ Kind:=1,N:=2,Source:=0,Length:=0,Draws:=([]:List Int) }:Plan) r32.1 r71 1 fun r88=>vertex_Run ({ Kind:=1,N:=2,Source:=0,Length:=0,Draws:=([]:List Int) }:Plan) ({ N:=2,Edges:=([({ From:=0,To:=1,W:=7 }:Edge)]:List Edge) }:Graph) 9 fun r118=>vertex_Letters ({ Kind:=1,N:=2,Source:=0,Length:=0,Draws:=([]:List Int) }:Plan) ({ N:=2,Edges:=([({ From:=0,To:=1,W:=7 }:Edge)]:List Edge) }:Graph) 9 fun r141=>vertex_Hear 2 1 ([({ Hi:=0,Lo:=5 }:Wide),({ Hi:=0,Lo:=3 }:Wide)]:List Wide) fun r161=>vertex_Hear 0 1 ([]:List Wide) fun r169=>ifP (r32.2==0) (ifP ((r32.1.length:Int)==1) (idxP r32.1 0 fun x176=>ifP (x176.W==1) (ifP (r88.2==0) (ifP ((r88.1.length:Int)==2) (idxP r88.1 1 fun x188=>ifP ((x188.length:Int)==1) (idxP r88.1 0 fun x201=>ifP ((x201.length:Int)==0) (ifP (r118.2==0) (ifP (r118.1.Status==1) (ifP (r118.1.Rounds==2) (ref07_SameVals r118.1.State.A ([0,1]:List Int) fun r222=>ifP r222 (ifP (r141.1==1) (ifP (r141.2==0) (ifP (r161.1==3) (ifP r161.2.1 (Q (r169.2.2==8)) (Q false)) (Q false)) (Q false)) (Q false)) (Q false)) (Q false)) (Q false)) (Q false)) (Q false)) (Q false)) (Q false)) (Q false)) (Q false)) (Q false)) (Q false)
def law35_VertexMail (a0:Law22_Case) (a1:Int) (a2:List Edge) (Q:Bool→Prop):Prop:=
  law22_Case_Make a0 fun r31=>vertex_Links r31.1 r31.2.1 fun r59=>ref35_Links r31.1 r31.2.1 fun r81=>joinP (fun (k159:Bool→Prop)=>law35_live  fun r160=>ifP (!r160) (k159 true) (ifP (r59.2 != r81.2) (k159 true) (ref05_SameEdges r59.1 r81.1 fun r166=>ifP (!r166) (k159 true) (k159 (decide (20<(a2.length:Int))))))) fun s158=>ifP s158 (law35_live  fun r175=>ifP r175 (Q (decide (20<(a2.length:Int)))) (Q false)) (ref22_Trace r31.1 r31.2.1 4 fun r192=>law21_Within (w64 (a1)) (r192.1.length:Int) fun r208=>appP 24 ([]:List Edge) r59.1 fun _=>appP 24 (([]:List Edge)++r59.1) a2 fun _=>idxP r192.1 r208 fun x268=>vertex_Mail r31.1 ((([]:List Edge)++r59.1)++a2) x268 (w64 (r208+1)) fun r290=>idxP r192.1 r208 fun x333=>ref35_Mail r31.1 ((([]:List Edge)++r59.1)++a2) x333 (w64 (r208+1)) fun r350=>ifP (r290.2 != r350.2) (Q false) (ifP ((r290.1.length:Int) != (r350.1.length:Int)) (Q false) (loopP (fun (s431:Int) (next432:Int→Prop)=>ifP (decide (s431<(r290.1.length:Int))) (idxP r290.1 s431 fun x440=>idxP r350.1 s431 fun x452=>ref35_SameWide x440 x452 fun r463=>ifP (!r463) (Q false) (next432 (w64 (s431+1)))) (Q true)) 0)))
end Go.Proofs.YtaefnmlbnkmahaaGreat
