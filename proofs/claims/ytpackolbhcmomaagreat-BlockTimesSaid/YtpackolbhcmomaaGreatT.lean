/- Types, and pure functions as the Go text has them (printed by a program of ours). -/
import Derived.Test.YtpackolbhcmomaaGreatFwS
import Derived.Test.YtpackolbhcmomaaGreatFwW
namespace Go.Proofs.YtpackolbhcmomaaGreat
open Go Go.Fw
set_option linter.unusedVariables false
set_option linter.unusedSimpArgs false
set_option maxRecDepth 8000
set_option maxHeartbeats 1000000
abbrev eI64:Elem Int:=flat 1 (fun x=>[.int .i64 x]) (fun _=>⟨rfl,rfl⟩)
abbrev eU64:Elem Int:=flat 1 (fun x=>[.int .u64 x]) (fun _=>⟨rfl,rfl⟩)
abbrev eU8:Elem Int:=flat 1 (fun x=>[.int .u8 x]) (fun _=>⟨rfl,rfl⟩)
abbrev eB:Elem Bool:=flat 1 (fun x=>[.bool x]) (fun _=>⟨rfl,rfl⟩)
structure Wide where
  Hi:Int
  Lo:Int
deriving DecidableEq,Inhabited
def encWide (x:Wide):List Value:=[.int .i64 x.Hi,.int .u64 x.Lo]
abbrev eWide:Elem Wide:=flat 2 encWide (fun _=>⟨rfl,rfl⟩)
structure Edge where
  From:Int
  To:Int
  W:Int
deriving DecidableEq,Inhabited
def encEdge (x:Edge):List Value:=[.int .i64 x.From,.int .i64 x.To,.int .i64 x.W]
abbrev eEdge:Elem Edge:=flat 3 encEdge (fun _=>⟨rfl,rfl⟩)
structure Rows where
  Rows:Int
  Cols:Int
  Start:List Int
  Col:List Int
  Val:List Int
deriving DecidableEq,Inhabited
def eRows:Elem Rows where
  sz:=5
  rep I cs x:=∃ a2 c2 a3 c3 a4 c4,cs=[.int .i64 x.Rows,.int .i64 x.Cols,.slice a2 x.Start.length c2,.slice a3 x.Col.length c3,.slice a4 x.Val.length c4]∧RepSl eI64 I a2 c2 x.Start∧RepSl eI64 I a3 c3 x.Col∧RepSl eI64 I a4 c4 x.Val
  mono hle:=fun ⟨a2,c2,a3,c3,a4,c4,e,h0,h1,h2⟩=>⟨a2,c2,a3,c3,a4,c4,e,h0.mono hle,h1.mono hle,h2.mono hle⟩
  len:=fun ⟨a2,c2,a3,c3,a4,c4,e,_,_,_⟩=>by rw [e]; rfl
  one:=fun ⟨a2,c2,a3,c3,a4,c4,e,_,_,_⟩=>by rw [e]; rfl
structure Triple where
  Row:Int
  Col:Int
  Val:Int
deriving DecidableEq,Inhabited
def encTriple (x:Triple):List Value:=[.int .i64 x.Row,.int .i64 x.Col,.int .i64 x.Val]
abbrev eTriple:Elem Triple:=flat 3 encTriple (fun _=>⟨rfl,rfl⟩)
structure Item where
  At:Int
  Val:Int
deriving DecidableEq,Inhabited
def encItem (x:Item):List Value:=[.int .i64 x.At,.int .i64 x.Val]
abbrev eItem:Elem Item:=flat 2 encItem (fun _=>⟨rfl,rfl⟩)
structure Law13_Task where
  Ring:Int
  Size:Int×Int
  L:List Triple
  X:List Item
  Y:List Item
  F:List Int
  Others:Bool
deriving DecidableEq,Inhabited
def eLaw13_Task:Elem Law13_Task where
  sz:=8
  rep I cs x:=∃ a3 c3 a4 c4 a5 c5 a6 c6,cs=[.int .i64 x.Ring,.int .u8 x.Size.1,.int .u8 x.Size.2,.slice a3 x.L.length c3,.slice a4 x.X.length c4,.slice a5 x.Y.length c5,.slice a6 x.F.length c6,.bool x.Others]∧RepSl eTriple I a3 c3 x.L∧RepSl eItem I a4 c4 x.X∧RepSl eItem I a5 c5 x.Y∧RepSl eU64 I a6 c6 x.F
  mono hle:=fun ⟨a3,c3,a4,c4,a5,c5,a6,c6,e,h0,h1,h2,h3⟩=>⟨a3,c3,a4,c4,a5,c5,a6,c6,e,h0.mono hle,h1.mono hle,h2.mono hle,h3.mono hle⟩
  len:=fun ⟨a3,c3,a4,c4,a5,c5,a6,c6,e,_,_,_,_⟩=>by rw [e]; rfl
  one:=fun ⟨a3,c3,a4,c4,a5,c5,a6,c6,e,_,_,_,_⟩=>by rw [e]; rfl
structure Vec where
  N:Int
  Items:List Item
deriving DecidableEq,Inhabited
def eVec:Elem Vec where
  sz:=2
  rep I cs x:=∃ a1 c1,cs=[.int .i64 x.N,.slice a1 x.Items.length c1]∧RepSl eItem I a1 c1 x.Items
  mono hle:=fun ⟨a1,c1,e,h0⟩=>⟨a1,c1,e,h0.mono hle⟩
  len:=fun ⟨a1,c1,e,_⟩=>by rw [e]; rfl
  one:=fun ⟨a1,c1,e,_⟩=>by rw [e]; rfl
structure Sum where
  At:Int
  Val:Wide
deriving DecidableEq,Inhabited
def encSum (x:Sum):List Value:=[.int .i64 x.At,.int .i64 x.Val.Hi,.int .u64 x.Val.Lo]
abbrev eSum:Elem Sum:=flat 3 encSum (fun _=>⟨rfl,rfl⟩)
structure Push_head where
  l:List Sum
  which:Int
deriving DecidableEq,Inhabited
def ePush_head:Elem Push_head where
  sz:=2
  rep I cs x:=∃ a0 c0,cs=[.slice a0 x.l.length c0,.int .i64 x.which]∧RepSl eSum I a0 c0 x.l
  mono hle:=fun ⟨a0,c0,e,h0⟩=>⟨a0,c0,e,h0.mono hle⟩
  len:=fun ⟨a0,c0,e,_⟩=>by rw [e]; rfl
  one:=fun ⟨a0,c0,e,_⟩=>by rw [e]; rfl
structure Push_merger where
  heads:List Push_head
  r:Int
  out:List Sum
deriving DecidableEq,Inhabited
structure Columns where
  Rows:Int
  Cols:Int
  At:List Int
  Start:List Int
  Row:List Int
  Val:List Int
deriving DecidableEq,Inhabited
structure Dense where
  N:Int
  Has:List Int
  Vals:List Int
deriving DecidableEq,Inhabited
def law07_Size (a0:Int) (Q:Int→Prop):Prop:=
  Q ((w64 (a0)).tmod 40)
def ref02_Is (a0:Int) (Q:Bool→Prop):Prop:=
  ifP (decide (1≤a0)) (Q (decide (a0≤5))) (Q false)
def ref01_Add (a0:Wide) (a1:Wide) (Q:Wide→Prop):Prop:=
  ifP (decide ((IntKind.wrap .u64 (a0.Lo+a1.Lo))<a0.Lo)) (Q ({ Hi:=w64 ((w64 (a0.Hi+a1.Hi))+1),Lo:=IntKind.wrap .u64 (a0.Lo+a1.Lo) }:Wide)) (Q ({ Hi:=w64 (a0.Hi+a1.Hi),Lo:=IntKind.wrap .u64 (a0.Lo+a1.Lo) }:Wide))
def ref01_Compare (a0:Wide) (a1:Wide) (Q:Int→Prop):Prop:=
  joinP (fun (k15:Unit→Prop)=>ifP (decide (a0.Hi<a1.Hi)) (Q (-1)) (ifP (a0.Hi==a1.Hi) (ifP (decide (a0.Lo<a1.Lo)) (Q (-1)) (k15 ())) (k15 ()))) fun _=>ifP (a0==a1) (Q 0) (Q 1)
def ref02_truth (a0:Bool) (Q:Wide→Prop):Prop:=
  ifP a0 (Q ({ Hi:=0,Lo:=1 }:Wide)) (Q ({ Hi:=0,Lo:=0 }:Wide))
def ref02_Add (a0:Int) (a1:Wide) (a2:Wide) (Q:Wide→Prop):Prop:=
  joinP (fun (k18:Bool→Prop)=>ifP (a0==1) (k18 (a0==1)) (ifP (a0==3) (k18 (a0==3)) (k18 (a0==4)))) fun s17=>ifP s17 (ref01_Compare a2 a1 fun r24=>ifP (decide (r24<0)) (Q a2) (Q a1)) (ifP (a0==2) (ifP (!(a1==({ Hi:=0,Lo:=0 }:Wide))) (ref02_truth true fun r31=>Q r31) (ref02_truth (!(a2==({ Hi:=0,Lo:=0 }:Wide))) fun r35=>Q r35)) (ifP (a0==5) (ref01_Add a1 a2 fun r40=>Q r40) (Q ({ Hi:=0,Lo:=0 }:Wide))))
def ref05_below (a0:Edge) (a1:Edge) (Q:Bool→Prop):Prop:=
  ifP (decide (a0.From<a1.From)) (Q true) (ifP (a0.From==a1.From) (Q (decide (a0.To<a1.To))) (Q false))
def ref01_Of (a0:Int) (Q:Wide→Prop):Prop:=
  ifP (decide (a0<0)) (Q ({ Hi:=(-1),Lo:=IntKind.wrap .u64 (a0) }:Wide)) (Q ({ Hi:=0,Lo:=IntKind.wrap .u64 (a0) }:Wide))
def ref01_Narrow (a0:Wide) (Q:(Int×Bool)→Prop):Prop:=
  ifP (a0.Hi==0) (ifP (decide (0≤(w64 (a0.Lo)))) (Q (w64 (a0.Lo),true)) (ifP (a0.Hi==(-1)) (ifP (decide ((w64 (a0.Lo))<0)) (Q (w64 (a0.Lo),true)) (Q (0,false))) (Q (0,false)))) (ifP (a0.Hi==(-1)) (ifP (decide ((w64 (a0.Lo))<0)) (Q (w64 (a0.Lo),true)) (Q (0,false))) (Q (0,false)))
def ref05_Combine (a0:Int) (a1:List Edge) (Q:((List Edge)×Int)→Prop):Prop:=
  ref02_Is a0 fun r12=>ifP (!r12) (Q (([]:List Edge),8)) (loopP (fun (s:(List Edge)×(List Wide)×Int) (next2667:((List Edge)×(List Wide)×Int)→Prop)=>match s with | (s2656,s2660,s2664)=>ifP (decide (s2664<(a1.length:Int))) (joinP (fun (k2821:Int→Prop)=>loopP (fun (s2869:Int) (next2870:Int→Prop)=>ifP (decide (s2869<(s2656.length:Int))) (idxP s2656 s2869 fun x2878=>idxP a1 s2664 fun x2883=>ref05_below x2878 x2883 fun r2891=>ifP r2891 (next2870 (w64 (s2869+1))) (k2821 s2869)) (k2821 s2869)) 0) fun s2820=>idxP a1 s2664 fun x2915=>ref01_Of x2915.W fun r2923=>joinP (fun (k3056:Bool→Prop)=>ifP (decide (s2820<(s2656.length:Int))) (idxP a1 s2664 fun x3061=>idxP s2656 s2820 fun x3070=>ref05_below x3061 x3070 fun r3074=>k3056 (!r3074)) (k3056 false)) fun s3055=>ifP s3055 (idxP s2660 s2820 fun x3086=>ref02_Add a0 x3086 r2923 fun r3090=>idxP s2660 s2820 fun x3095=>next2667 (s2656,(s2660.set s2820.toNat r3090),w64 (s2664+1))) (appP 24 s2656 ([({ From:=0,To:=0,W:=0 }:Edge)]) fun _=>appP 16 s2660 ([({ Hi:=0,Lo:=0 }:Wide)]) fun _=>loopP (fun (s:(List Edge)×(List Wide)×Int) (next3289:((List Edge)×(List Wide)×Int)→Prop)=>match s with | (s3280,s3284,s3288)=>ifP (decide (s2820<s3288)) (idxP s3280 (w64 (s3288 - 1)) fun x3298=>idxP s3280 s3288 fun x3303=>idxP s3284 (w64 (s3288 - 1)) fun x3306=>idxP s3284 s3288 fun x3311=>next3289 ((s3280.set s3288.toNat x3298),(s3284.set s3288.toNat x3306),w64 (s3288 - 1))) (idxP a1 s2664 fun x3316=>idxP a1 s2664 fun x3325=>idxP s3280 s2820 fun x3334=>idxP s3284 s2820 fun x3339=>next2667 ((s3280.set s2820.toNat ({ From:=x3316.From,To:=x3325.To,W:=0 }:Edge)),(s3284.set s2820.toNat r2923),w64 (s2664+1)))) ((s2656++([({ From:=0,To:=0,W:=0 }:Edge)])),(s2660++([({ Hi:=0,Lo:=0 }:Wide)])),w64 (((s2656++([({ From:=0,To:=0,W:=0 }:Edge)])).length:Int) - 1)))) (loopP (fun (s:(List Edge)×Int) (next3415:((List Edge)×Int)→Prop)=>match s with | (s3410,s3414)=>ifP (decide (s3414<(s3410.length:Int))) (idxP s2660 s3414 fun x3431=>ref01_Narrow x3431 fun r3435=>ifP (!r3435.2) (Q (([]:List Edge),12)) (idxP s3410 s3414 fun x3441=>next3415 ((s3410.set s3414.toNat ({ From:=x3441.From,To:=x3441.To,W:=r3435.1 }:Edge)),w64 (s3414+1)))) (Q (s3410,0))) (s2656,0))) (([]:List Edge),([]:List Wide),0))
def ref07_Empty (a0:Int) (a1:Int) (Q:Rows→Prop):Prop:=
  mkP 8 (w64 (a0+1)) 0 fun _=>Q ({ Rows:=a0,Cols:=a1,Start:=(List.replicate (w64 (a0+1)).toNat 0),Col:=([]:List Int),Val:=([]:List Int) }:Rows)
def ref07_built (a0:Int) (a1:Int) (a2:List Triple) (Q:Rows→Prop):Prop:=
  ref07_Empty a0 a1 fun r38=>loopP (fun (s:(List Int)×(List Int)×(List Int)×Int) (next403:((List Int)×(List Int)×(List Int)×Int)→Prop)=>match s with | (s390,s394,s398,s402)=>ifP (decide (s402<(a2.length:Int))) (idxP a2 s402 fun x431=>appP 8 s394 ([x431.Col]) fun _=>idxP a2 s402 fun x467=>appP 8 s398 ([x467.Val]) fun _=>idxP a2 s402 fun x491=>loopP (fun (s:(List Int)×Int) (next539:((List Int)×Int)→Prop)=>match s with | (s534,s538)=>ifP (decide (s538≤a0)) (idxP s534 s538 fun x547=>idxP s534 s538 fun x552=>next539 ((s534.set s538.toNat (w64 (x547+1))),w64 (s538+1))) (next403 (s534,(s394++([x431.Col])),(s398++([x467.Val])),w64 (s402+1)))) (s390,w64 (x491.Row+1))) (Q ({ Rows:=r38.Rows,Cols:=r38.Cols,Start:=s390,Col:=s394,Val:=s398 }:Rows))) (r38.Start,r38.Col,r38.Val,0)
def ref07_Of (a0:Int) (a1:Int) (a2:Int) (a3:List Triple) (Q:(Rows×Int)→Prop):Prop:=
  ref02_Is a0 fun r22=>ifP (!r22) (Q (({ Rows:=0,Cols:=0,Start:=([]:List Int),Col:=([]:List Int),Val:=([]:List Int) }:Rows),8)) (ifP (decide (a1<0)) (Q (({ Rows:=0,Cols:=0,Start:=([]:List Int),Col:=([]:List Int),Val:=([]:List Int) }:Rows),3)) (ifP (decide (4096<a1)) (Q (({ Rows:=0,Cols:=0,Start:=([]:List Int),Col:=([]:List Int),Val:=([]:List Int) }:Rows),3)) (ifP (decide (a2<0)) (Q (({ Rows:=0,Cols:=0,Start:=([]:List Int),Col:=([]:List Int),Val:=([]:List Int) }:Rows),3)) (ifP (decide (4096<a2)) (Q (({ Rows:=0,Cols:=0,Start:=([]:List Int),Col:=([]:List Int),Val:=([]:List Int) }:Rows),3)) (ifP (decide (65536<(a3.length:Int))) (Q (({ Rows:=0,Cols:=0,Start:=([]:List Int),Col:=([]:List Int),Val:=([]:List Int) }:Rows),5)) (loopP (fun (s:(List Edge)×Int) (next662:((List Edge)×Int)→Prop)=>match s with | (s656,s660)=>ifP (decide (s660<(a3.length:Int))) (idxP a3 s660 fun x708=>ifP (decide (x708.Row<0)) (Q (({ Rows:=0,Cols:=0,Start:=([]:List Int),Col:=([]:List Int),Val:=([]:List Int) }:Rows),3)) (idxP a3 s660 fun x718=>ifP (decide (a1≤x718.Row)) (Q (({ Rows:=0,Cols:=0,Start:=([]:List Int),Col:=([]:List Int),Val:=([]:List Int) }:Rows),3)) (idxP a3 s660 fun x728=>ifP (decide (x728.Col<0)) (Q (({ Rows:=0,Cols:=0,Start:=([]:List Int),Col:=([]:List Int),Val:=([]:List Int) }:Rows),3)) (idxP a3 s660 fun x738=>ifP (decide (a2≤x738.Col)) (Q (({ Rows:=0,Cols:=0,Start:=([]:List Int),Col:=([]:List Int),Val:=([]:List Int) }:Rows),3)) (idxP a3 s660 fun x749=>idxP a3 s660 fun x758=>idxP a3 s660 fun x767=>appP 24 s656 ([({ From:=x749.Row,To:=x758.Col,W:=x767.Val }:Edge)]) fun _=>next662 ((s656++([({ From:=x749.Row,To:=x758.Col,W:=x767.Val }:Edge)])),w64 (s660+1))))))) (ref05_Combine a0 s656 fun r800=>ifP (r800.2 != 0) (Q (({ Rows:=0,Cols:=0,Start:=([]:List Int),Col:=([]:List Int),Val:=([]:List Int) }:Rows),r800.2)) (loopP (fun (s:(List Triple)×Int) (next906:((List Triple)×Int)→Prop)=>match s with | (s900,s904)=>ifP (decide (s904<(r800.1.length:Int))) (idxP r800.1 s904 fun x914=>idxP r800.1 s904 fun x923=>idxP r800.1 s904 fun x932=>appP 24 s900 ([({ Row:=x914.From,Col:=x923.To,Val:=x932.W }:Triple)]) fun _=>next906 ((s900++([({ Row:=x914.From,Col:=x923.To,Val:=x932.W }:Triple)])),w64 (s904+1))) (ref07_built a1 a2 s900 fun r951=>Q (r951,0))) (([]:List Triple),0)))) (([]:List Edge),0)))))))
def law07_Few (a0:List Triple) (Q:(List Triple)→Prop):Prop:=
  ifP (decide (60<(a0.length:Int))) (slP a0 0 60 fun _=>Q ((a0.take (Int.toNat 60)).drop (Int.toNat 0))) (Q a0)
def law07_Some (a0:Int×Int) (a1:List Triple) (Q:Rows→Prop):Prop:=
  law07_Size a0.1 fun r29=>law07_Size a0.2 fun r33=>law07_Few a1 fun r47=>loopP (fun (s:(List Triple)×Int) (next310:((List Triple)×Int)→Prop)=>match s with | (s304,s308)=>ifP (decide (s308<(r47.length:Int))) (idxP r47 s308 fun x328=>ifP (decide (x328.Row<0)) (next310 (s304,w64 (s308+1))) (ifP (decide (x328.Col<0)) (next310 (s304,w64 (s308+1))) (ifP (r29==0) (next310 (s304,w64 (s308+1))) (ifP (r33==0) (next310 (s304,w64 (s308+1))) (nzP r29 <| nzP r33 <| appP 24 s304 ([({ Row:=x328.Row.tmod r29,Col:=x328.Col.tmod r33,Val:=x328.Val }:Triple)]) fun _=>next310 ((s304++([({ Row:=x328.Row.tmod r29,Col:=x328.Col.tmod r33,Val:=x328.Val }:Triple)])),w64 (s308+1))))))) (ref07_Of 1 r29 r33 s304 fun r385=>ifP (r385.2 != 0) (ref07_Empty r29 r33 fun r406=>Q r406) (Q r385.1))) (([]:List Triple),0)
def law13_Right (a0:Int) (Q:Int→Prop):Prop:=
  ifP (decide (a0<1)) (Q 1) (ifP (decide (5<a0)) (Q 1) (Q a0))
def law02_Value (a0:Int) (a1:Int) (Q:Int→Prop):Prop:=
  ifP (a0==5) (Q a1) (ifP (a0==2) (Q (bnd .i64 a1 1)) (ifP (((bnd .i64 a1 4611686018427387903).tmod 5)==0) (Q 4611686018427387904) (Q (bnd .i64 a1 4611686018427387903))))
def law02_Factor (a0:Int) (a1:Int) (Q:Int→Prop):Prop:=
  ifP (a0==5) (Q (a1.tmod 2147483648)) (law02_Value a0 a1 fun r2=>Q r2)
def law13_Task_Matrix (a0:Law13_Task) (Q:Rows→Prop):Prop:=
  law07_Some a0.Size a0.L fun r48=>law13_Right a0.Ring fun r70=>loopP (fun (s:(List Int)×Int) (next138:((List Int)×Int)→Prop)=>match s with | (s132,s136)=>ifP (decide (s136<(r48.Val.length:Int))) (idxP r48.Val s136 fun x145=>law02_Factor r70 x145 fun r153=>appP 8 s132 ([r153]) fun _=>next138 ((s132++([r153])),w64 (s136+1))) (Q ({ Rows:=r48.Rows,Cols:=r48.Cols,Start:=r48.Start,Col:=r48.Col,Val:=s132 }:Rows))) (([]:List Int),0)
def ref09_Of (a0:Int) (a1:Int) (a2:List Item) (Q:(Vec×Int)→Prop):Prop:=
  ref02_Is a0 fun r16=>ifP (!r16) (Q (({ N:=0,Items:=([]:List Item) }:Vec),8)) (ifP (decide (a1<0)) (Q (({ N:=0,Items:=([]:List Item) }:Vec),3)) (ifP (decide (4096<a1)) (Q (({ N:=0,Items:=([]:List Item) }:Vec),3)) (loopP (fun (s:(List Edge)×Int) (next405:((List Edge)×Int)→Prop)=>match s with | (s399,s403)=>ifP (decide (s403<(a2.length:Int))) (idxP a2 s403 fun x431=>ifP (decide (x431.At<0)) (Q (({ N:=0,Items:=([]:List Item) }:Vec),3)) (idxP a2 s403 fun x441=>ifP (decide (a1≤x441.At)) (Q (({ N:=0,Items:=([]:List Item) }:Vec),3)) (idxP a2 s403 fun x452=>idxP a2 s403 fun x461=>appP 24 s399 ([({ From:=0,To:=x452.At,W:=x461.Val }:Edge)]) fun _=>next405 ((s399++([({ From:=0,To:=x452.At,W:=x461.Val }:Edge)])),w64 (s403+1))))) (ref05_Combine a0 s399 fun r494=>ifP (r494.2 != 0) (Q (({ N:=0,Items:=([]:List Item) }:Vec),r494.2)) (loopP (fun (s:(List Item)×Int) (next586:((List Item)×Int)→Prop)=>match s with | (s580,s584)=>ifP (decide (s584<(r494.1.length:Int))) (idxP r494.1 s584 fun x594=>idxP r494.1 s584 fun x603=>appP 16 s580 ([({ At:=x594.To,Val:=x603.W }:Item)]) fun _=>next586 ((s580++([({ At:=x594.To,Val:=x603.W }:Item)])),w64 (s584+1))) (Q (({ N:=a1,Items:=s580 }:Vec),0))) (([]:List Item),0)))) (([]:List Edge),0))))
def law09_Some (a0:Int) (a1:List Item) (Q:Vec→Prop):Prop:=
  joinP (fun (k365:(List Item)→Prop)=>loopP (fun (s:(List Item)×Int) (next487:((List Item)×Int)→Prop)=>match s with | (s481,s485)=>ifP (decide (s485<(a1.length:Int))) (ifP (decide (s485<60)) (ifP (decide (0<((w64 (a0)).tmod 60))) (idxP a1 s485 fun x506=>ifP (decide (0≤x506.At)) (idxP a1 s485 fun x517=>nzP ((w64 (a0)).tmod 60) <| idxP a1 s485 fun x527=>appP 16 s481 ([({ At:=x517.At.tmod ((w64 (a0)).tmod 60),Val:=x527.Val }:Item)]) fun _=>next487 ((s481++([({ At:=x517.At.tmod ((w64 (a0)).tmod 60),Val:=x527.Val }:Item)])),w64 (s485+1))) (next487 (s481,w64 (s485+1)))) (k365 s481)) (k365 s481)) (k365 s481)) (([]:List Item),0)) fun s361=>ref09_Of 1 ((w64 (a0)).tmod 60) s361 fun r547=>Q r547.1
def law13_Task_Vector (a0:Law13_Task) (a1:List Item) (Q:Vec→Prop):Prop:=
  law07_Size a0.Size.2 fun r43=>law09_Some (IntKind.wrap .u8 (r43)) a1 fun r47=>loopP (fun (s:(List Item)×Int) (next150:((List Item)×Int)→Prop)=>match s with | (s144,s148)=>ifP (decide (s148<(r47.Items.length:Int))) (idxP r47.Items s148 fun x158=>idxP r47.Items s148 fun x167=>law13_Right a0.Ring fun r175=>law02_Value r175 x167.Val fun r179=>appP 16 s144 ([({ At:=x158.At,Val:=r179 }:Item)]) fun _=>next150 ((s144++([({ At:=x158.At,Val:=r179 }:Item)])),w64 (s148+1))) (Q ({ N:=r47.N,Items:=s144 }:Vec))) (([]:List Item),0)
def csr_within (a0:Int) (a1:Int) (Q:Bool→Prop):Prop:=
  ifP (decide (0≤a0)) (Q (decide (a0≤a1))) (Q false)
def cmp_isNaN_int (a0:Int) (Q:Bool→Prop):Prop:=
  Q (a0 != a0)
def cmp_Less_int (a0:Int) (a1:Int) (Q:Bool→Prop):Prop:=
  cmp_isNaN_int a0 fun r1=>ifP r1 (cmp_isNaN_int a1 fun r6=>ifP (!r6) (Q true) (Q (decide (a0<a1)))) (Q (decide (a0<a1)))
def slices_IsSorted_int_int (a0:List Int) (Q:Bool→Prop):Prop:=
  loopP (fun (s57:Int) (next58:Int→Prop)=>ifP (decide (0<s57)) (idxP a0 s57 fun x64=>idxP a0 (w64 (s57 - 1)) fun x73=>cmp_Less_int x64 x73 fun r81=>ifP r81 (Q false) (next58 (w64 (s57 - 1)))) (Q true)) (w64 ((a0.length:Int) - 1))
def csr_row (a0:List Int) (a1:Int) (Q:Bool→Prop):Prop:=
  loopP (fun (s68:Int) (next69:Int→Prop)=>ifP (decide (s68<(a0.length:Int))) (idxP a0 s68 fun x84=>csr_within x84 (w64 (a1 - 1)) fun r92=>ifP (!r92) (Q false) (ifP (decide (0<s68)) (idxP a0 (w64 (s68 - 1)) fun x99=>ifP (decide (x84≤x99)) (Q false) (next69 (w64 (s68+1)))) (next69 (w64 (s68+1))))) (Q true)) 0
def csr_Right (a0:Rows) (Q:Bool→Prop):Prop:=
  csr_within a0.Rows 4096 fun r27=>ifP (!r27) (Q false) (csr_within a0.Cols 4096 fun r32=>ifP (!r32) (Q false) (ifP ((a0.Start.length:Int) != (w64 (a0.Rows+1))) (Q false) (ifP ((a0.Val.length:Int) != (a0.Col.length:Int)) (Q false) (ifP (decide (65536<(a0.Col.length:Int))) (Q false) (idxP a0.Start 0 fun x66=>ifP (x66 != 0) (Q false) (idxP a0.Start a0.Rows fun x76=>ifP (x76 != (a0.Col.length:Int)) (Q false) (slices_IsSorted_int_int a0.Start fun r85=>ifP (!r85) (Q false) (loopP (fun (s163:Int) (next164:Int→Prop)=>ifP (decide (s163<a0.Rows)) (idxP a0.Start s163 fun x170=>idxP a0.Start (w64 (s163+1)) fun x179=>slP a0.Col x170 x179 fun _=>csr_row ((a0.Col.take x179.toNat).drop x170.toNat) a0.Cols fun r197=>ifP (!r197) (Q false) (next164 (w64 (s163+1)))) (Q true)) 0))))))))
def block_side (a0:Int) (Q:Bool→Prop):Prop:=
  ifP (decide (1≤a0)) (Q (decide (a0≤8))) (Q false)
def block_grid (a0:Int) (a1:Int) (a2:Int) (a3:Int) (Q:Bool→Prop):Prop:=
  block_side a0 fun r1=>ifP r1 (block_side a1 fun r6=>ifP r6 (ifP (decide (0≤a2)) (ifP (decide (a2<a0)) (ifP (decide (0≤a3)) (Q (decide (a3<a1))) (Q false)) (Q false)) (Q false)) (Q false)) (Q false)
def csr_empty (a0:Int) (a1:Int) (Q:Rows→Prop):Prop:=
  mkP 8 (w64 (a0+1)) 0 fun _=>Q ({ Rows:=a0,Cols:=a1,Start:=(List.replicate (w64 (a0+1)).toNat 0),Col:=([]:List Int),Val:=([]:List Int) }:Rows)
def csr_sure (a0:Rows) (Q:Rows→Prop):Prop:=
  csr_Right a0 fun r27=>ifP r27 (Q a0) (csr_empty 0 0 fun r32=>Q r32)
def csr_bounds (a0:Int×Int) (a1:Int) (Q:(Int×Int)→Prop):Prop:=
  ifP (decide ((if a1<a0.2 then a1 else a0.2)≤(if 0 > a0.1 then 0 else a0.1))) (Q ((if 0 > a0.1 then 0 else a0.1),0)) (Q ((if 0 > a0.1 then 0 else a0.1),w64 ((if a1<a0.2 then a1 else a0.2) - (if 0 > a0.1 then 0 else a0.1))))
def csr_part (a0:Rows) (a1:Int) (Q:((List Int)×(List Int))→Prop):Prop:=
  idxP a0.Start a1 fun x39=>idxP a0.Start (w64 (a1+1)) fun x48=>slP a0.Col x39 x48 fun _=>slP a0.Val x39 x48 fun _=>Q (((a0.Col.take x48.toNat).drop x39.toNat),((a0.Val.take x48.toNat).drop x39.toNat))
def csr_Row (a0:Rows) (a1:Int) (Q:(List Item)→Prop):Prop:=
  csr_sure a0 fun r33=>csr_within a1 (w64 (r33.Rows - 1)) fun r54=>ifP (!r54) (Q ([]:List Item)) (csr_part r33 a1 fun r73=>loopP (fun (s:(List Item)×Int) (next161:((List Item)×Int)→Prop)=>match s with | (s155,s159)=>ifP (decide (s159<(r73.1.length:Int))) (idxP r73.1 s159 fun x168=>idxP r73.2 s159 fun x177=>appP 16 s155 ([({ At:=x168,Val:=x177 }:Item)]) fun _=>next161 ((s155++([({ At:=x168,Val:=x177 }:Item)])),w64 (s159+1))) (Q s155)) (([]:List Item),0))
def csr_built (a0:Int) (a1:Int) (a2:List Triple) (Q:Rows→Prop):Prop:=
  csr_empty a0 a1 fun r38=>loopP (fun (s:(List Int)×(List Int)×(List Int)×Int) (next427:((List Int)×(List Int)×(List Int)×Int)→Prop)=>match s with | (s414,s418,s422,s426)=>ifP (decide (s426<(a2.length:Int))) (idxP a2 s426 fun x445=>idxP s414 (w64 (x445.Row+1)) fun x464=>idxP s414 (w64 (x445.Row+1)) fun x469=>appP 8 s418 ([x445.Col]) fun _=>appP 8 s422 ([x445.Val]) fun _=>next427 ((s414.set ((w64 (x445.Row+1)).toNat) (w64 (x464+1))),(s418++([x445.Col])),(s422++([x445.Val])),w64 (s426+1))) (loopP (fun (s:(List Int)×Int) (next535:((List Int)×Int)→Prop)=>match s with | (s530,s534)=>ifP (decide (s534<a0)) (idxP s530 (w64 (s534+1)) fun x546=>idxP s530 s534 fun x551=>idxP s530 (w64 (s534+1)) fun x554=>next535 ((s530.set ((w64 (s534+1)).toNat) (w64 (x546+x551))),w64 (s534+1))) (Q ({ Rows:=r38.Rows,Cols:=r38.Cols,Start:=s530,Col:=s418,Val:=s422 }:Rows))) (s414,0))) (r38.Start,r38.Col,r38.Val,0)
def csr_Cut (a0:Rows) (a1:Int×Int) (a2:Int×Int) (Q:Rows→Prop):Prop:=
  csr_sure a0 fun r51=>csr_bounds a1 r51.Rows fun r71=>csr_bounds a2 r51.Cols fun r79=>loopP (fun (s:(List Triple)×Int) (next446:((List Triple)×Int)→Prop)=>match s with | (s440,s444)=>ifP (decide (s444<r71.2)) (csr_Row r51 (w64 (r71.1+s444)) fun r464=>loopP (fun (s:(List Triple)×Int) (next576:((List Triple)×Int)→Prop)=>match s with | (s571,s575)=>ifP (decide (s575<(r464.length:Int))) (idxP r464 s575 fun x595=>joinP (fun (k608:Bool→Prop)=>ifP (decide (r79.1≤x595.At)) (k608 (decide ((w64 (x595.At - r79.1))<r79.2))) (k608 false)) fun s607=>ifP s607 (appP 24 s571 ([({ Row:=s444,Col:=w64 (x595.At - r79.1),Val:=x595.Val }:Triple)]) fun _=>next576 ((s571++([({ Row:=s444,Col:=w64 (x595.At - r79.1),Val:=x595.Val }:Triple)])),w64 (s575+1))) (next576 (s571,w64 (s575+1)))) (next446 (s571,w64 (s444+1)))) (s440,0)) (csr_built r71.2 r79.2 s440 fun r627=>Q r627)) (([]:List Triple),0)
def part_side (a0:Int) (Q:Bool→Prop):Prop:=
  ifP (decide (0<a0)) (Q (decide (a0≤8))) (Q false)
def part_may (a0:Int) (a1:Int) (Q:Bool→Prop):Prop:=
  ifP (decide (0≤a0)) (ifP (decide (a0≤4096)) (part_side a1 fun r3=>Q r3) (Q false)) (Q false)
def part_Low (a0:Int) (a1:Int) (a2:Int) (Q:Int→Prop):Prop:=
  part_may a0 a1 fun r6=>ifP (!r6) (Q 0) (nzP a1 <| Q (w64 ((w64 ((if a1<(if 0 > a2 then 0 else a2) then a1 else (if 0 > a2 then 0 else a2))*a0)).tdiv a1)))
def block_bounds (a0:Int) (a1:Int) (a2:Int) (Q:(Int×Int)→Prop):Prop:=
  part_Low a0 a1 a2 fun r5=>part_Low a0 a1 (w64 (a2+1)) fun r9=>Q (r5,r9)
def block_Cut (a0:Rows) (a1:Int) (a2:Int) (a3:Int) (a4:Int) (Q:Rows→Prop):Prop:=
  csr_Right a0 fun r69=>ifP (!r69) (csr_Cut ({ Rows:=0,Cols:=0,Start:=([]:List Int),Col:=([]:List Int),Val:=([]:List Int) }:Rows) (0,0) (0,0) fun r74=>Q r74) (block_grid a1 a2 a3 a4 fun r90=>ifP (!r90) (csr_Cut ({ Rows:=0,Cols:=0,Start:=([]:List Int),Col:=([]:List Int),Val:=([]:List Int) }:Rows) (0,0) (0,0) fun r95=>Q r95) (block_bounds a0.Rows a1 a3 fun r111=>block_bounds a0.Cols a2 a4 fun r115=>csr_Cut a0 r111 r115 fun r119=>Q r119))
def ref07_SameItems (a0:List Item) (a1:List Item) (Q:Bool→Prop):Prop:=
  ifP ((a0.length:Int) != (a1.length:Int)) (Q false) (loopP (fun (s54:Int) (next55:Int→Prop)=>ifP (decide (s54<(a0.length:Int))) (idxP a0 s54 fun x61=>idxP a1 s54 fun x70=>ifP (!(x61==x70)) (Q false) (next55 (w64 (s54+1)))) (Q true)) 0)
def ref09_Same (a0:Vec) (a1:Vec) (Q:Bool→Prop):Prop:=
  ifP (a0.N==a1.N) (ref07_SameItems a0.Items a1.Items fun r16=>Q r16) (Q false)
def spvec_within (a0:Int) (a1:Int) (Q:Bool→Prop):Prop:=
  ifP (decide (0≤a0)) (Q (decide (a0≤a1))) (Q false)
def spvec_Right_1_81a (o0:Int) (o1:Vec) (a0:Item) (Q:(Bool×Int)→Prop):Prop:=
  ifP (decide (a0.At≤o0)) (Q (true,a0.At)) (Q (decide (o1.N≤a0.At),a0.At))
def slices_IndexFunc_api_Item_api_Item_a3e (o0:Int) (o1:Vec) (a0:List Item) (Q:(Int×Int)→Prop):Prop:=
  loopP (fun (s:Int×Int) (next61:(Int×Int)→Prop)=>match s with | (s59,s60)=>ifP (decide (s60<(a0.length:Int))) (idxP a0 s60 fun x67=>spvec_Right_1_81a s59 o1 x67 fun r81=>ifP r81.1 (Q (s60,r81.2)) (next61 (r81.2,w64 (s60+1)))) (Q ((-1),s59))) (o0,0)
def slices_ContainsFunc_api_Item_api_Item_cd0 (o0:Int) (o1:Vec) (a0:List Item) (Q:(Bool×Int)→Prop):Prop:=
  slices_IndexFunc_api_Item_api_Item_a3e o0 o1 a0 fun r17=>Q (decide (0≤r17.1),r17.2)
def spvec_Right (a0:Vec) (Q:Bool→Prop):Prop:=
  spvec_within a0.N 4096 fun r13=>ifP (!r13) (Q false) (slices_ContainsFunc_api_Item_api_Item_cd0 (-1) a0 a0.Items fun r26=>Q (!r26.1))
def spvec_sure (a0:Vec) (Q:Vec→Prop):Prop:=
  spvec_Right a0 fun r15=>ifP r15 (Q a0) (Q ({ N:=0,Items:=([]:List Item) }:Vec))
def cmp_Compare_int (a0:Int) (a1:Int) (Q:Int→Prop):Prop:=
  cmp_isNaN_int a0 fun r5=>cmp_isNaN_int a1 fun r13=>ifP r5 (ifP r13 (Q 0) (Q (-1))) (ifP r13 (Q 1) (ifP (decide (a0<a1)) (Q (-1)) (ifP (decide (a1<a0)) (Q 1) (Q 0))))
def spvec_order_7ac (a0:Item) (a1:Int) (Q:Int→Prop):Prop:=
  cmp_Compare_int a0.At a1 fun r3=>Q r3
def slices_BinarySearchFunc_api_Item_api_Item_int_8a3 (a0:List Item) (a1:Int) (Q:(Int×Bool)→Prop):Prop:=
  loopP (fun (s:Int×Int) (next119:(Int×Int)→Prop)=>match s with | (s117,s118)=>ifP (decide (s117<s118)) (idxP a0 (w64 (shr .u64 (IntKind.wrap .u64 (w64 (s117+s118))) 1)) fun x125=>spvec_order_7ac x125 a1 fun r139=>ifP (decide (r139<0)) (next119 (w64 ((w64 (shr .u64 (IntKind.wrap .u64 (w64 (s117+s118))) 1))+1),s118)) (next119 (s117,w64 (shr .u64 (IntKind.wrap .u64 (w64 (s117+s118))) 1)))) (ifP (decide (s117<(a0.length:Int))) (idxP a0 s117 fun x144=>spvec_order_7ac x144 a1 fun r158=>Q (s117,r158==0)) (Q (s117,false)))) (0,(a0.length:Int))
def spvec_find (a0:Vec) (a1:Int) (Q:(Int×Bool)→Prop):Prop:=
  slices_BinarySearchFunc_api_Item_api_Item_int_8a3 a0.Items a1 fun r12=>Q (r12.1,r12.2)
def slices_Clone_api_Item_api_Item (a0:List Item) (Q:(List Item)→Prop):Prop:=
  nilP a0 (Q ([]:List Item)) (appP 16 ([]:List Item) a0 fun _=>Q (([]:List Item)++a0))
def spvec_Part_1_d5a (o0:Int) (a0:Item) (Q:Item→Prop):Prop:=
  Q ({ At:=w64 (a0.At - o0),Val:=a0.Val }:Item)
def spvec_each_bf7 (o0:Int) (a0:Vec) (Q:Vec→Prop):Prop:=
  spvec_sure a0 fun r24=>slices_Clone_api_Item_api_Item r24.Items fun r49=>loopP (fun (s:(List Item)×Int) (next126:((List Item)×Int)→Prop)=>match s with | (s120,s125)=>ifP (decide (s125<(r49.length:Int))) (idxP s120 s125 fun x133=>spvec_Part_1_d5a o0 x133 fun r145=>idxP s120 s125 fun x149=>next126 ((s120.set s125.toNat r145),w64 (s125+1))) (Q ({ N:=r24.N,Items:=s120 }:Vec))) (r49,0)
def spvec_Part (a0:Vec) (a1:Int) (a2:Int) (Q:Vec→Prop):Prop:=
  spvec_sure a0 fun r29=>ifP (decide ((if r29.N<a2 then r29.N else a2)≤(if 0 > a1 then 0 else a1))) (Q ({ N:=0,Items:=([]:List Item) }:Vec)) (spvec_find r29 (if 0 > a1 then 0 else a1) fun r45=>spvec_find r29 (if r29.N<a2 then r29.N else a2) fun r53=>slP r29.Items r45.1 r53.1 fun _=>spvec_each_bf7 (if 0 > a1 then 0 else a1) ({ N:=r29.N,Items:=((r29.Items.take r53.1.toNat).drop r45.1.toNat) }:Vec) fun r87=>Q ({ N:=w64 ((if r29.N<a2 then r29.N else a2) - (if 0 > a1 then 0 else a1)),Items:=r87.Items }:Vec))
def block_Piece (a0:Vec) (a1:Int) (a2:Int) (Q:Vec→Prop):Prop:=
  spvec_Right a0 fun r25=>ifP (!r25) (Q ({ N:=0,Items:=([]:List Item) }:Vec)) (block_grid a1 1 a2 0 fun r30=>ifP (!r30) (Q ({ N:=0,Items:=([]:List Item) }:Vec)) (block_bounds a0.N a1 a2 fun r35=>spvec_Part a0 r35.1 r35.2 fun r41=>Q r41))
def block_within (a0:Int) (Q:Bool→Prop):Prop:=
  ifP (decide (0≤a0)) (Q (decide (a0≤4096))) (Q false)
def part_Size (a0:Int) (a1:Int) (a2:Int) (Q:Int→Prop):Prop:=
  ifP (decide (a2<0)) (Q 0) (ifP (decide (a1≤a2)) (Q 0) (part_Low a0 a1 (w64 (a2+1)) fun r5=>part_Low a0 a1 a2 fun r9=>Q (w64 (r5 - r9))))
def block_common (a0:Int×Int) (a1:Int×Int) (Q:(Int×Int)→Prop):Prop:=
  Q ((if a1.1 > a0.1 then a1.1 else a0.1),(if (if a1.2<a0.2 then a1.2 else a0.2) > (if a1.1 > a0.1 then a1.1 else a0.1) then (if a1.2<a0.2 then a1.2 else a0.2) else (if a1.1 > a0.1 then a1.1 else a0.1)))
def block_Slice (a0:Vec) (a1:Int) (a2:Int) (a3:Int) (a4:Int) (a5:Int) (Q:Vec→Prop):Prop:=
  block_within a1 fun r35=>ifP (!r35) (Q ({ N:=0,Items:=([]:List Item) }:Vec)) (block_grid a2 a3 a4 a5 fun r40=>ifP (!r40) (Q ({ N:=0,Items:=([]:List Item) }:Vec)) (spvec_Right a0 fun r45=>ifP (!r45) (Q ({ N:=0,Items:=([]:List Item) }:Vec)) (part_Size a1 a2 a4 fun r50=>ifP (a0.N != r50) (Q ({ N:=0,Items:=([]:List Item) }:Vec)) (block_bounds a1 a2 a4 fun r61=>block_bounds a1 a3 a5 fun r78=>block_common r61 r78 fun r82=>spvec_Part a0 (w64 (r82.1 - r61.1)) (w64 (r82.2 - r61.1)) fun r87=>Q r87))))
def part_Row (a0:Int) (a1:Int) (Q:Int→Prop):Prop:=
  part_side a0 fun r1=>ifP (!r1) (Q (-1)) (ifP (decide (a1<0)) (Q (-1)) (ifP (decide ((w64 (a0*8))≤a1)) (Q (-1)) (nzP a0 <| Q (w64 (a1.tdiv a0)))))
def part_Col (a0:Int) (a1:Int) (Q:Int→Prop):Prop:=
  part_Row a0 a1 fun r1=>ifP (decide (r1<0)) (Q (-1)) (nzP a0 <| Q (a1.tmod a0))
def csr_Triples (a0:Rows) (Q:(List Triple)→Prop):Prop:=
  csr_sure a0 fun r33=>loopP (fun (s:(List Triple)×Int) (next392:((List Triple)×Int)→Prop)=>match s with | (s386,s390)=>ifP (decide (s390<r33.Rows)) (csr_part r33 s390 fun r413=>loopP (fun (s:(List Triple)×Int) (next518:((List Triple)×Int)→Prop)=>match s with | (s513,s517)=>ifP (decide (s517<(r413.1.length:Int))) (idxP r413.1 s517 fun x535=>idxP r413.2 s517 fun x544=>appP 24 s513 ([({ Row:=s390,Col:=x535,Val:=x544 }:Triple)]) fun _=>next518 ((s513++([({ Row:=s390,Col:=x535,Val:=x544 }:Triple)])),w64 (s517+1))) (next392 (s513,w64 (s390+1)))) (s386,0)) (Q s386)) (([]:List Triple),0)
def ring_Is (a0:Int) (Q:Bool→Prop):Prop:=
  ifP (decide (0<a0)) (Q (decide (a0<6))) (Q false)
def wide_Of (a0:Int) (Q:Wide→Prop):Prop:=
  Q ({ Hi:=shr .i64 a0 63,Lo:=IntKind.wrap .u64 (a0) }:Wide)
def ring_truth (a0:Bool) (Q:Wide→Prop):Prop:=
  ifP a0 (wide_Of 1 fun r6=>Q r6) (Q ({ Hi:=0,Lo:=0 }:Wide))
def cmp_Or_int (a0:List Int) (Q:Int→Prop):Prop:=
  loopP (fun (s31:Int) (next32:Int→Prop)=>ifP (decide (s31<(a0.length:Int))) (idxP a0 s31 fun x38=>ifP (x38 != 0) (Q x38) (next32 (w64 (s31+1)))) (Q 0)) 0
def cmp_isNaN_int64 (a0:Int) (Q:Bool→Prop):Prop:=
  Q (a0 != a0)
def cmp_Compare_int64 (a0:Int) (a1:Int) (Q:Int→Prop):Prop:=
  cmp_isNaN_int64 a0 fun r5=>cmp_isNaN_int64 a1 fun r13=>ifP r5 (ifP r13 (Q 0) (Q (-1))) (ifP r13 (Q 1) (ifP (decide (a0<a1)) (Q (-1)) (ifP (decide (a1<a0)) (Q 1) (Q 0))))
def cmp_isNaN_uint64 (a0:Int) (Q:Bool→Prop):Prop:=
  Q (a0 != a0)
def cmp_Compare_uint64 (a0:Int) (a1:Int) (Q:Int→Prop):Prop:=
  cmp_isNaN_uint64 a0 fun r5=>cmp_isNaN_uint64 a1 fun r13=>ifP r5 (ifP r13 (Q 0) (Q (-1))) (ifP r13 (Q 1) (ifP (decide (a0<a1)) (Q (-1)) (ifP (decide (a1<a0)) (Q 1) (Q 0))))
def wide_Compare (a0:Wide) (a1:Wide) (Q:Int→Prop):Prop:=
  cmp_Compare_int64 a0.Hi a1.Hi fun r9=>cmp_Compare_uint64 a0.Lo a1.Lo fun r13=>cmp_Or_int ([r9,r13]:List Int) fun r22=>Q r22
def ring_lesser (a0:Wide) (a1:Wide) (Q:Wide→Prop):Prop:=
  wide_Compare a0 a1 fun r13=>ifP (decide (r13≤0)) (Q a0) (Q a1)
def wide_carry (a0:Bool) (Q:Int→Prop):Prop:=
  ifP a0 (Q 1) (Q 0)
def wide_Add (a0:Wide) (a1:Wide) (Q:Wide→Prop):Prop:=
  wide_carry (decide ((IntKind.wrap .u64 (a0.Lo+a1.Lo))<a1.Lo)) fun r13=>Q ({ Hi:=w64 (IntKind.wrap .u64 ((IntKind.wrap .u64 ((IntKind.wrap .u64 (a0.Hi))+(IntKind.wrap .u64 (a1.Hi))))+r13)),Lo:=IntKind.wrap .u64 (a0.Lo+a1.Lo) }:Wide)
def ring_Add (a0:Int) (a1:Wide) (a2:Wide) (Q:Wide→Prop):Prop:=
  joinP (fun (k18:Bool→Prop)=>ifP (a0==1) (k18 (a0==1)) (ifP (a0==3) (k18 (a0==3)) (k18 (a0==4)))) fun s17=>ifP s17 (ring_lesser a1 a2 fun r24=>Q r24) (ifP (a0==2) (ifP (!(a1==a2)) (ring_truth true fun r30=>Q r30) (ring_truth (!(a1==({ Hi:=0,Lo:=0 }:Wide))) fun r34=>Q r34)) (ifP (a0==5) (wide_Add a1 a2 fun r39=>Q r39) (Q ({ Hi:=0,Lo:=0 }:Wide))))
def wide_Narrow (a0:Wide) (Q:(Int×Bool)→Prop):Prop:=
  wide_Of (w64 (a0.Lo)) fun r5=>ifP (!(r5==a0)) (Q (0,false)) (Q (w64 (a0.Lo),true))
def ring_Narrow (a0:Int) (a1:Wide) (Q:(Int×Bool)→Prop):Prop:=
  wide_Narrow a1 fun r3=>Q (r3.1,r3.2)
def csr_order (a0:Triple) (a1:Triple) (Q:Int→Prop):Prop:=
  cmp_Compare_int a0.Row a1.Row fun r9=>cmp_Compare_int a0.Col a1.Col fun r13=>cmp_Or_int ([r9,r13]:List Int) fun r22=>Q r22
def csr_summed (a0:Int) (a1:List Triple) (Q:((List Triple)×Int)→Prop):Prop:=
  loopP (fun (s:(List ((Int×Int)×Wide))×Int) (next295:((List ((Int×Int)×Wide))×Int)→Prop)=>match s with | (s293,s294)=>ifP (decide (s294<(a1.length:Int))) (idxP a1 s294 fun x312=>wide_Of x312.Val fun r332=>lk2P s293 (x312.Row,x312.Col) ({ Hi:=0,Lo:=0 }:Wide) fun r338 t343=>ifP t343 (ring_Add a0 r338 r332 fun r347=>next295 ((mput (x312.Row,x312.Col) r347 s293),w64 (s294+1))) (next295 ((mput (x312.Row,x312.Col) r332 s293),w64 (s294+1)))) (loopP (fun (s:(List Triple)×(List ((Int×Int)×Wide))) (next463:((List Triple)×(List ((Int×Int)×Wide)))→Prop)=>match s with | (s457,s461)=>nextP s461 (sortP csr_order s457 fun y494=>Q (y494,0)) (fun p481 l482=>ring_Narrow a0 p481.2 fun r515=>ifP (!r515.2) (Q (([]:List Triple),12)) (appP 24 s457 ([({ Row:=p481.1.1,Col:=p481.1.2,Val:=r515.1 }:Triple)]) fun _=>next463 ((s457++([({ Row:=p481.1.1,Col:=p481.1.2,Val:=r515.1 }:Triple)])),l482)))) (([]:List Triple),s293))) (([]:List ((Int×Int)×Wide)),0)
def csr_Of_1_fca (o0:Int) (o1:Int) (a0:Triple) (Q:Bool→Prop):Prop:=
  csr_within a0.Row (w64 (o0 - 1)) fun r9=>ifP (!r9) (Q true) (csr_within a0.Col (w64 (o1 - 1)) fun r14=>Q (!r14))
def slices_IndexFunc_api_Triple_api_Triple_77e (o0:Int) (o1:Int) (a0:List Triple) (Q:Int→Prop):Prop:=
  loopP (fun (s49:Int) (next50:Int→Prop)=>ifP (decide (s49<(a0.length:Int))) (idxP a0 s49 fun x56=>csr_Of_1_fca o0 o1 x56 fun r70=>ifP r70 (Q s49) (next50 (w64 (s49+1)))) (Q (-1))) 0
def slices_ContainsFunc_api_Triple_api_Triple_988 (o0:Int) (o1:Int) (a0:List Triple) (Q:Bool→Prop):Prop:=
  slices_IndexFunc_api_Triple_api_Triple_77e o0 o1 a0 fun r14=>Q (decide (0≤r14))
def csr_Of (a0:Int) (a1:Int) (a2:Int) (a3:List Triple) (Q:(Rows×Int)→Prop):Prop:=
  ring_Is a0 fun r80=>ifP (!r80) (Q (({ Rows:=0,Cols:=0,Start:=([]:List Int),Col:=([]:List Int),Val:=([]:List Int) }:Rows),8)) (joinP (fun (k104:Bool→Prop)=>csr_within a1 4096 fun r105=>ifP (!r105) (k104 true) (csr_within a2 4096 fun r110=>k104 (!r110))) fun s103=>ifP s103 (Q (({ Rows:=0,Cols:=0,Start:=([]:List Int),Col:=([]:List Int),Val:=([]:List Int) }:Rows),3)) (ifP (decide (65536<(a3.length:Int))) (Q (({ Rows:=0,Cols:=0,Start:=([]:List Int),Col:=([]:List Int),Val:=([]:List Int) }:Rows),5)) (slices_ContainsFunc_api_Triple_api_Triple_988 a1 a2 a3 fun r124=>ifP r124 (Q (({ Rows:=0,Cols:=0,Start:=([]:List Int),Col:=([]:List Int),Val:=([]:List Int) }:Rows),3)) (csr_summed a0 a3 fun r138=>ifP (r138.2 != 0) (Q (({ Rows:=0,Cols:=0,Start:=([]:List Int),Col:=([]:List Int),Val:=([]:List Int) }:Rows),r138.2)) (csr_built a1 a2 r138.1 fun r150=>Q (r150,0))))))
def block_Join (a0:Int) (a1:Int) (a2:Int) (a3:Int) (a4:List Rows) (Q:(Rows×Int)→Prop):Prop:=
  joinP (fun (k119:Bool→Prop)=>block_within a0 fun r120=>ifP (!r120) (k119 true) (block_within a1 fun r125=>ifP (!r125) (k119 true) (block_side a2 fun r130=>ifP (!r130) (k119 true) (block_side a3 fun r135=>k119 (!r135))))) fun s118=>ifP s118 (Q (({ Rows:=0,Cols:=0,Start:=([]:List Int),Col:=([]:List Int),Val:=([]:List Int) }:Rows),3)) (ifP ((a4.length:Int) != (w64 (a2*a3))) (Q (({ Rows:=0,Cols:=0,Start:=([]:List Int),Col:=([]:List Int),Val:=([]:List Int) }:Rows),4)) (loopP (fun (s:(List Triple)×Int) (next620:((List Triple)×Int)→Prop)=>match s with | (s614,s618)=>ifP (decide (s618<(a4.length:Int))) (idxP a4 s618 fun x647=>part_Row a3 s618 fun r674=>part_Col a3 s618 fun r678=>csr_Right x647 fun r697=>ifP (!r697) (Q (({ Rows:=0,Cols:=0,Start:=([]:List Int),Col:=([]:List Int),Val:=([]:List Int) }:Rows),4)) (part_Size a0 a2 r674 fun r702=>ifP (x647.Rows != r702) (Q (({ Rows:=0,Cols:=0,Start:=([]:List Int),Col:=([]:List Int),Val:=([]:List Int) }:Rows),4)) (part_Size a1 a3 r678 fun r707=>ifP (x647.Cols != r707) (Q (({ Rows:=0,Cols:=0,Start:=([]:List Int),Col:=([]:List Int),Val:=([]:List Int) }:Rows),4)) (csr_Triples x647 fun r725=>loopP (fun (s:(List Triple)×Int) (next818:((List Triple)×Int)→Prop)=>match s with | (s813,s817)=>ifP (decide (s817<(r725.length:Int))) (idxP r725 s817 fun x833=>part_Low a0 a2 r674 fun r839=>part_Low a1 a3 r678 fun r843=>appP 24 s813 ([({ Row:=w64 (x833.Row+r839),Col:=w64 (x833.Col+r843),Val:=x833.Val }:Triple)]) fun _=>next818 ((s813++([({ Row:=w64 (x833.Row+r839),Col:=w64 (x833.Col+r843),Val:=x833.Val }:Triple)])),w64 (s817+1))) (next620 (s813,w64 (s618+1)))) (s614,0))))) (csr_Of 1 a0 a1 s614 fun r858=>Q (r858.1,r858.2))) (([]:List Triple),0)))
def spvec_Glue_1_53d (o0:Int) (a0:Item) (Q:Item→Prop):Prop:=
  Q ({ At:=w64 (o0+a0.At),Val:=a0.Val }:Item)
def spvec_each_2bc (o0:Int) (a0:Vec) (Q:Vec→Prop):Prop:=
  spvec_sure a0 fun r24=>slices_Clone_api_Item_api_Item r24.Items fun r49=>loopP (fun (s:(List Item)×Int) (next126:((List Item)×Int)→Prop)=>match s with | (s120,s125)=>ifP (decide (s125<(r49.length:Int))) (idxP s120 s125 fun x133=>spvec_Glue_1_53d o0 x133 fun r145=>idxP s120 s125 fun x149=>next126 ((s120.set s125.toNat r145),w64 (s125+1))) (Q ({ N:=r24.N,Items:=s120 }:Vec))) (r49,0)
def spvec_Glue (a0:List Vec) (Q:(Vec×Int)→Prop):Prop:=
  loopP (fun (s:Int×(List Item)×Int) (next161:(Int×(List Item)×Int)→Prop)=>match s with | (s154,s155,s159)=>ifP (decide (s159<(a0.length:Int))) (idxP a0 s159 fun x181=>spvec_each_2bc s154 x181 fun r215=>ifP (decide ((w64 (4096 - s154))<r215.N)) (Q (({ N:=0,Items:=([]:List Item) }:Vec),5)) (appP 16 s155 r215.Items fun _=>next161 (w64 (s154+r215.N),(s155++r215.Items),w64 (s159+1)))) (Q (({ N:=s154,Items:=s155 }:Vec),0))) (0,([]:List Item),0)
def block_Glue_1_d22 (o0:Int) (o1:Int) (a0:Int) (Q:Int→Prop):Prop:=
  part_Size o0 o1 a0 fun r5=>Q r5
def block_glued_57b (o0:Int) (o1:Int) (a0:List Vec) (a1:Int) (Q:(Vec×Int)→Prop):Prop:=
  ifP ((a0.length:Int) != a1) (Q (({ N:=0,Items:=([]:List Item) }:Vec),4)) (loopP (fun (s103:Int) (next104:Int→Prop)=>ifP (decide (s103<(a0.length:Int))) (idxP a0 s103 fun x124=>spvec_Right x124 fun r137=>ifP (!r137) (Q (({ N:=0,Items:=([]:List Item) }:Vec),4)) (block_Glue_1_d22 o0 o1 s103 fun r148=>ifP (x124.N != r148) (Q (({ N:=0,Items:=([]:List Item) }:Vec),4)) (next104 (w64 (s103+1))))) (spvec_Glue a0 fun r151=>Q (r151.1,r151.2))) 0)
def block_Glue (a0:Int) (a1:Int) (a2:List Vec) (Q:(Vec×Int)→Prop):Prop:=
  block_within a0 fun r19=>ifP (!r19) (Q (({ N:=0,Items:=([]:List Item) }:Vec),3)) (block_side a1 fun r24=>ifP (!r24) (Q (({ N:=0,Items:=([]:List Item) }:Vec),3)) (block_glued_57b a0 a1 a2 a1 fun r35=>Q (r35.1,r35.2)))
def block_Fit_1_802 (o0:Int) (o1:Int) (o2:Int) (o3:Int) (a0:Int) (Q:Int→Prop):Prop:=
  block_bounds o0 o1 a0 fun r10=>block_bounds o0 o2 o3 fun r14=>block_common r10 r14 fun r18=>Q (w64 (r18.2 - r18.1))
def block_glued_ecf (o0:Int) (o1:Int) (o2:Int) (o3:Int) (a0:List Vec) (a1:Int) (Q:(Vec×Int)→Prop):Prop:=
  ifP ((a0.length:Int) != a1) (Q (({ N:=0,Items:=([]:List Item) }:Vec),4)) (loopP (fun (s107:Int) (next108:Int→Prop)=>ifP (decide (s107<(a0.length:Int))) (idxP a0 s107 fun x128=>spvec_Right x128 fun r141=>ifP (!r141) (Q (({ N:=0,Items:=([]:List Item) }:Vec),4)) (block_Fit_1_802 o0 o1 o2 o3 s107 fun r152=>ifP (x128.N != r152) (Q (({ N:=0,Items:=([]:List Item) }:Vec),4)) (next108 (w64 (s107+1))))) (spvec_Glue a0 fun r155=>Q (r155.1,r155.2))) 0)
def block_Fit (a0:Int) (a1:Int) (a2:Int) (a3:Int) (a4:List Vec) (Q:(Vec×Int)→Prop):Prop:=
  block_within a0 fun r27=>ifP (!r27) (Q (({ N:=0,Items:=([]:List Item) }:Vec),3)) (block_grid a1 a2 0 a3 fun r32=>ifP (!r32) (Q (({ N:=0,Items:=([]:List Item) }:Vec),3)) (block_glued_ecf a0 a1 a2 a3 a4 a1 fun r43=>Q (r43.1,r43.2)))
def push_rises (a0:List Sum) (Q:Bool→Prop):Prop:=
  loopP (fun (s31:Int) (next32:Int→Prop)=>ifP (decide (s31<(a0.length:Int))) (ifP (decide (0<s31)) (idxP a0 (w64 (s31 - 1)) fun x39=>idxP a0 s31 fun x48=>ifP (decide (x48.At≤x39.At)) (Q false) (next32 (w64 (s31+1)))) (next32 (w64 (s31+1)))) (Q true)) 0
def push_heads_Len (a0:List Push_head) (Q:Int→Prop):Prop:=
  Q (a0.length:Int)
def push_Merge_1_d96 (a0:List Sum) (Q:Bool→Prop):Prop:=
  push_rises a0 fun r4=>Q (!r4)
def slices_IndexFunc_api_Sum_api_Sum_acf (a0:List (List Sum)) (Q:Int→Prop):Prop:=
  loopP (fun (s51:Int) (next52:Int→Prop)=>ifP (decide (s51<(a0.length:Int))) (idxP a0 s51 fun x58=>push_Merge_1_d96 x58 fun r75=>ifP r75 (Q s51) (next52 (w64 (s51+1)))) (Q (-1))) 0
def slices_ContainsFunc_api_Sum_api_Sum_bfd (a0:List (List Sum)) (Q:Bool→Prop):Prop:=
  slices_IndexFunc_api_Sum_api_Sum_acf a0 fun r10=>Q (decide (0≤r10))
def push_heads_Push_5fa (o0:Push_merger) (a0:Push_head) (Q:Push_merger→Prop):Prop:=
  appP 32 o0.heads ([a0]) fun _=>Q ({ heads:=(o0.heads++([a0])),r:=o0.r,out:=o0.out }:Push_merger)
def push_heads_Len_66a (o0:List Push_head) (Q:Int→Prop):Prop:=
  Q (o0.length:Int)
def push_heads_Less_706 (o0:List Push_head) (a0:Int) (a1:Int) (Q:Bool→Prop):Prop:=
  idxP o0 a0 fun x8=>idxP x8.l 0 fun x20=>idxP o0 a1 fun x29=>idxP x29.l 0 fun x39=>idxP o0 a0 fun x48=>idxP o0 a1 fun x58=>cmp_Compare_int x20.At x39.At fun r67=>cmp_Compare_int x48.which x58.which fun r71=>cmp_Or_int ([r67,r71]:List Int) fun r80=>Q (decide (r80<0))
def push_heads_Swap_c73 (o0:List Push_head) (a0:Int) (a1:Int) (Q:(List Push_head)→Prop):Prop:=
  idxP o0 a1 fun x8=>idxP o0 a0 fun x20=>idxP o0 a0 fun x30=>idxP (o0.set a0.toNat x8) a1 fun x41=>Q ((o0.set a0.toNat x8).set a1.toNat x20)
def container_heap_up_248 (o0:Push_merger) (a0:Int) (Q:Push_merger→Prop):Prop:=
  loopP (fun (s:(List Push_head)×Int) (next61:((List Push_head)×Int)→Prop)=>match s with | (s59,s60)=>ifP ((w64 ((w64 (s60 - 1)).tdiv 2))==s60) (Q ({ heads:=s59,r:=o0.r,out:=o0.out }:Push_merger)) (push_heads_Less_706 s59 s60 (w64 ((w64 (s60 - 1)).tdiv 2)) fun r72=>ifP (!r72) (Q ({ heads:=s59,r:=o0.r,out:=o0.out }:Push_merger)) (push_heads_Swap_c73 s59 (w64 ((w64 (s60 - 1)).tdiv 2)) s60 fun r81=>next61 (r81,w64 ((w64 (s60 - 1)).tdiv 2))))) (o0.heads,a0)
def container_heap_Push_f07 (o0:Push_merger) (a0:Push_head) (Q:Push_merger→Prop):Prop:=
  push_heads_Push_5fa o0 a0 fun r20=>push_heads_Len_66a r20.heads fun r37=>container_heap_up_248 r20 (w64 (r37 - 1)) fun r45=>Q r45
def push_merger_put_46e (o0:Push_merger) (a0:List Sum) (a1:Int) (Q:Push_merger→Prop):Prop:=
  ifP (decide (0<(a0.length:Int))) (container_heap_Push_f07 o0 ({ l:=a0,which:=a1 }:Push_head) fun r21=>Q r21) (Q o0)
def container_heap_down_206 (o0:Push_merger) (a0:Int) (a1:Int) (Q:(Bool×Push_merger)→Prop):Prop:=
  loopP (fun (s:(List Push_head)×Int) (next131:((List Push_head)×Int)→Prop)=>match s with | (s129,s130)=>ifP (decide (a1≤(w64 ((w64 (2*s130))+1)))) (Q (decide (a0<s130),({ heads:=s129,r:=o0.r,out:=o0.out }:Push_merger))) (ifP (decide ((w64 ((w64 (2*s130))+1))<0)) (Q (decide (a0<s130),({ heads:=s129,r:=o0.r,out:=o0.out }:Push_merger))) (joinP (fun (k160:Int→Prop)=>ifP (decide ((w64 ((w64 ((w64 (2*s130))+1))+1))<a1)) (push_heads_Less_706 s129 (w64 ((w64 ((w64 (2*s130))+1))+1)) (w64 ((w64 (2*s130))+1)) fun r168=>ifP r168 (k160 (w64 ((w64 ((w64 (2*s130))+1))+1))) (k160 (w64 ((w64 (2*s130))+1)))) (k160 (w64 ((w64 (2*s130))+1)))) fun s159=>push_heads_Less_706 s129 s159 s130 fun r180=>ifP (!r180) (Q (decide (a0<s130),({ heads:=s129,r:=o0.r,out:=o0.out }:Push_merger))) (push_heads_Swap_c73 s129 s130 s159 fun r190=>next131 (r190,s159))))) (o0.heads,a0)
def push_heads_Pop_df2 (o0:Push_merger) (Q:(Push_head×Push_merger)→Prop):Prop:=
  idxP o0.heads (w64 ((o0.heads.length:Int) - 1)) fun x24=>slP o0.heads 0 (w64 ((o0.heads.length:Int) - 1)) fun _=>Q (x24,({ heads:=(o0.heads.take (w64 ((o0.heads.length:Int) - 1)).toNat),r:=o0.r,out:=o0.out }:Push_merger))
def container_heap_Pop_4c3 (o0:Push_merger) (Q:(Push_head×Push_merger)→Prop):Prop:=
  push_heads_Len_66a o0.heads fun r24=>push_heads_Swap_c73 o0.heads 0 (w64 (r24 - 1)) fun r31=>container_heap_down_206 ({ heads:=r31,r:=o0.r,out:=o0.out }:Push_merger) 0 (w64 (r24 - 1)) fun r43=>push_heads_Pop_df2 r43.2 fun r61=>Q (r61.1,r61.2)
def push_merger_next_d58 (o0:Push_merger) (Q:Push_merger→Prop):Prop:=
  idxP o0.heads 0 fun x24=>container_heap_Pop_4c3 o0 fun r61=>idxP x24.l 0 fun x87=>slP x24.l 1 (x24.l.length:Int) fun _=>push_merger_put_46e r61.2 ((x24.l.take (x24.l.length:Int).toNat).drop (Int.toNat 1)) x24.which fun r141=>joinP (fun (k214:Bool→Prop)=>ifP (decide (0<(r141.out.length:Int))) (idxP r141.out (w64 ((r141.out.length:Int) - 1)) fun x219=>k214 (x219.At==x87.At)) (k214 false)) fun s213=>ifP s213 (idxP r141.out (w64 ((r141.out.length:Int) - 1)) fun x230=>ring_Add r141.r x230.Val x87.Val fun r234=>idxP r141.out (w64 ((r141.out.length:Int) - 1)) fun x239=>Q ({ heads:=r141.heads,r:=r141.r,out:=(r141.out.set ((w64 ((r141.out.length:Int) - 1)).toNat) ({ At:=x239.At,Val:=r234 }:Sum)) }:Push_merger)) (appP 24 r141.out ([x87]) fun _=>Q ({ heads:=r141.heads,r:=r141.r,out:=(r141.out++([x87])) }:Push_merger))
def push_Merge (a0:Int) (a1:List (List Sum)) (Q:((List Sum)×Int)→Prop):Prop:=
  ring_Is a0 fun r12=>ifP (!r12) (Q (([]:List Sum),8)) (slices_ContainsFunc_api_Sum_api_Sum_bfd a1 fun r32=>ifP r32 (Q (([]:List Sum),6)) (loopP (fun (s:(List Push_head)×Int×(List Sum)×Int) (next292:((List Push_head)×Int×(List Sum)×Int)→Prop)=>match s with | (s280,s284,s285,s289)=>ifP (decide (s289<(a1.length:Int))) (idxP a1 s289 fun x299=>push_merger_put_46e ({ heads:=s280,r:=s284,out:=s285 }:Push_merger) x299 s289 fun r316=>next292 (r316.heads,r316.r,r316.out,w64 (s289+1))) (loopP (fun (s:(List Push_head)×Int×(List Sum)) (next413:((List Push_head)×Int×(List Sum))→Prop)=>match s with | (s404,s408,s409)=>push_heads_Len s404 fun r418=>ifP (decide (0<r418)) (push_merger_next_d58 ({ heads:=s404,r:=s408,out:=s409 }:Push_merger) fun r429=>next413 (r429.heads,r429.r,r429.out)) (Q (s409,0))) (s280,s284,s285))) (([]:List Push_head),a0,([]:List Sum),0)))
def dcsc_within (a0:Int) (a1:Int) (Q:Bool→Prop):Prop:=
  ifP (decide (0≤a0)) (Q (decide (a0≤a1))) (Q false)
def dcsc_rising (a0:List Int) (a1:Int) (Q:Bool→Prop):Prop:=
  loopP (fun (s68:Int) (next69:Int→Prop)=>ifP (decide (s68<(a0.length:Int))) (idxP a0 s68 fun x84=>dcsc_within x84 (w64 (a1 - 1)) fun r92=>ifP (!r92) (Q false) (ifP (decide (0<s68)) (idxP a0 (w64 (s68 - 1)) fun x99=>ifP (decide (x84≤x99)) (Q false) (next69 (w64 (s68+1)))) (next69 (w64 (s68+1))))) (Q true)) 0
def dcsc_Right (a0:Columns) (Q:Bool→Prop):Prop:=
  dcsc_within a0.Rows 4096 fun r30=>ifP (!r30) (Q false) (dcsc_within a0.Cols 4096 fun r35=>ifP (!r35) (Q false) (ifP ((a0.Start.length:Int) != (w64 ((a0.At.length:Int)+1))) (Q false) (ifP ((a0.Val.length:Int) != (a0.Row.length:Int)) (Q false) (ifP (decide (65536<(a0.Row.length:Int))) (Q false) (dcsc_rising a0.At a0.Cols fun r73=>ifP (!r73) (Q false) (dcsc_rising a0.Start (w64 ((a0.Row.length:Int)+1)) fun r78=>ifP (!r78) (Q false) (idxP a0.Start 0 fun x84=>ifP (x84 != 0) (Q false) (idxP a0.Start (a0.At.length:Int) fun x94=>ifP (x94 != (a0.Row.length:Int)) (Q false) (loopP (fun (s176:Int) (next177:Int→Prop)=>ifP (decide (s176<(a0.At.length:Int))) (idxP a0.Start s176 fun x183=>idxP a0.Start (w64 (s176+1)) fun x192=>slP a0.Row x183 x192 fun _=>dcsc_rising ((a0.Row.take x192.toNat).drop x183.toNat) a0.Rows fun r210=>ifP (!r210) (Q false) (next177 (w64 (s176+1)))) (Q true)) 0)))))))))
def push_sure (a0:Columns) (a1:Vec) (Q:(Columns×Vec)→Prop):Prop:=
  joinP (fun (k81:(Int×Int×(List Int)×(List Int)×(List Int)×(List Int))→Prop)=>dcsc_Right a0 fun r82=>ifP (!r82) (k81 (0,0,([]:List Int),([0]:List Int),([]:List Int),([]:List Int))) (k81 (a0.Rows,a0.Cols,a0.At,a0.Start,a0.Row,a0.Val))) fun (s63,s64,s65,s69,s73,s77)=>spvec_Right a1 fun r95=>ifP (!r95) (Q (({ Rows:=s63,Cols:=s64,At:=s65,Start:=s69,Row:=s73,Val:=s77 }:Columns),({ N:=0,Items:=([]:List Item) }:Vec))) (Q (({ Rows:=s63,Cols:=s64,At:=s65,Start:=s69,Row:=s73,Val:=s77 }:Columns),a1))
def flags_within (a0:List Int) (a1:Int) (Q:Bool→Prop):Prop:=
  ifP (decide (0≤a1)) (Q (decide ((shr .i64 a1 6)<(a0.length:Int)))) (Q false)
def flags_bit (a0:Int) (Q:Int→Prop):Prop:=
  nnP (bnd .u64 (IntKind.wrap .u64 (a0)) 63) <| Q (shl .u64 1 (bnd .u64 (IntKind.wrap .u64 (a0)) 63))
def flags_Has (a0:List Int) (a1:Int) (Q:Bool→Prop):Prop:=
  flags_within a0 a1 fun r4=>ifP r4 (idxP a0 (shr .i64 a1 6) fun x10=>flags_bit a1 fun r18=>Q ((bnd .u64 x10 r18) != 0)) (Q false)
def wide_halves (a0:Int) (Q:(Int×Int)→Prop):Prop:=
  Q (shr .u64 (shl .u64 a0 32) 32,shr .u64 a0 32)
def wide_product (a0:Int) (a1:Int) (Q:Wide→Prop):Prop:=
  wide_halves a0 fun r17=>wide_halves a1 fun r21=>wide_halves (IntKind.wrap .u64 (r17.1*r21.1)) fun r40=>wide_halves (IntKind.wrap .u64 ((IntKind.wrap .u64 (r17.2*r21.1))+r40.2)) fun r44=>wide_halves (IntKind.wrap .u64 ((IntKind.wrap .u64 (r17.1*r21.2))+r44.1)) fun r55=>wide_halves (IntKind.wrap .u64 (r17.1*r21.1)) fun r61=>Q ({ Hi:=w64 (IntKind.wrap .u64 ((IntKind.wrap .u64 ((IntKind.wrap .u64 (r17.2*r21.2))+r44.2))+r55.2)),Lo:=bor .u64 (shl .u64 r55.1 32) r61.1 }:Wide)
def wide_size (a0:Int) (Q:Int→Prop):Prop:=
  ifP (decide (a0<0)) (Q (IntKind.wrap .u64 (0 - (IntKind.wrap .u64 (a0))))) (Q (IntKind.wrap .u64 (a0)))
def wide_Sub (a0:Wide) (a1:Wide) (Q:Wide→Prop):Prop:=
  wide_carry (decide (a0.Lo<a1.Lo)) fun r13=>Q ({ Hi:=w64 (IntKind.wrap .u64 ((IntKind.wrap .u64 ((IntKind.wrap .u64 (a0.Hi)) - (IntKind.wrap .u64 (a1.Hi)))) - r13)),Lo:=IntKind.wrap .u64 (a0.Lo - a1.Lo) }:Wide)
def wide_Mul (a0:Int) (a1:Int) (Q:Wide→Prop):Prop:=
  wide_size a0 fun r19=>wide_size a1 fun r23=>wide_product r19 r23 fun r27=>ifP (!((decide (a0<0))==(decide (a1<0)))) (wide_Sub ({ Hi:=0,Lo:=0 }:Wide) r27 fun r34=>Q r34) (Q r27)
def ring_Mul (a0:Int) (a1:Int) (a2:Int) (Q:Wide→Prop):Prop:=
  ifP (a0==2) (ifP (a1 != 0) (ring_truth (a2 != 0) fun r22=>Q r22) (ring_truth false fun r26=>Q r26)) (ifP (a0==5) (wide_Mul a1 a2 fun r31=>Q r31) (joinP (fun (k55:Unit→Prop)=>ring_Is a0 fun r56=>ifP r56 (ifP (decide (4611686018427387904≤(if a2 > a1 then a2 else a1))) (wide_Of 4611686018427387904 fun r62=>Q r62) (k55 ())) (k55 ())) fun _=>joinP (fun (k90:(Int×Int)→Prop)=>ifP (a0==1) (wide_Of a1 fun r93=>k90 (r93.Hi,r93.Lo)) (ifP (a0==4) (k90 (0,0)) (ifP (a0==3) (wide_Of a1 fun r99=>Q r99) (Q ({ Hi:=0,Lo:=0 }:Wide))))) fun (s88,s89)=>wide_Of 4611686018427387904 fun r106=>wide_Of a2 fun r110=>wide_Add ({ Hi:=s88,Lo:=s89 }:Wide) r110 fun r114=>ring_lesser r106 r114 fun r118=>Q r118))
def push_column (a0:Int) (a1:List Item) (a2:Int) (a3:List Int) (a4:Bool) (Q:(List Sum)→Prop):Prop:=
  loopP (fun (s:(List Sum)×Int) (next118:((List Sum)×Int)→Prop)=>match s with | (s112,s116)=>ifP (decide (s116<(a1.length:Int))) (idxP a1 s116 fun x135=>flags_Has a3 x135.At fun r149=>ifP (!(r149==a4)) (ring_Mul a0 x135.Val a2 fun r154=>appP 24 s112 ([({ At:=x135.At,Val:=r154 }:Sum)]) fun _=>next118 ((s112++([({ At:=x135.At,Val:=r154 }:Sum)])),w64 (s116+1))) (next118 (s112,w64 (s116+1)))) (Q s112)) (([]:List Sum),0)
def dcsc_none  (Q:Columns→Prop):Prop:=
  Q ({ Rows:=0,Cols:=0,At:=([]:List Int),Start:=([0]:List Int),Row:=([]:List Int),Val:=([]:List Int) }:Columns)
def dcsc_sure (a0:Columns) (Q:Columns→Prop):Prop:=
  dcsc_Right a0 fun r33=>ifP r33 (Q a0) (dcsc_none  fun r38=>Q r38)
def dcsc_place (a0:Columns) (a1:Int) (Q:Int→Prop):Prop:=
  joinP (fun (k227:(Int×Int)→Prop)=>loopP (fun (s:Int×Int) (next298:(Int×Int)→Prop)=>match s with | (s296,s297)=>ifP (decide (s296<s297)) (idxP a0.At (w64 (s296+(w64 ((w64 (s297 - s296)).tdiv 2)))) fun x313=>ifP (x313==a1) (k227 (w64 (s296+(w64 ((w64 (s297 - s296)).tdiv 2))),s297)) (idxP a0.At (w64 (s296+(w64 ((w64 (s297 - s296)).tdiv 2)))) fun x323=>ifP (decide (x323<a1)) (next298 (w64 ((w64 (s296+(w64 ((w64 (s297 - s296)).tdiv 2))))+1),s297)) (next298 (s296,w64 (s296+(w64 ((w64 (s297 - s296)).tdiv 2))))))) (k227 (s296,s297))) (0,(a0.At.length:Int))) fun (s225,s226)=>ifP (decide (s225<s226)) (Q s225) (Q (-1))
def dcsc_items_9d2 (a0:Columns) (a1:Int) (Q:(Columns×Int)→Prop):Prop:=
  Q (a0,a1)
def dcsc_items_1_1ae (o0:Nat) (o1:List Item) (o2:Columns) (o3:Int) (Y:Nat→(List Item)→Item→((Bool×Nat×(List Item))→Prop)→Prop) (Q:(Nat×(List Item))→Prop):Prop:=
  idxP o2.Start o3 fun x42=>loopP (fun (s:(List Item)×Int×Nat) (next182:((List Item)×Int×Nat)→Prop)=>match s with | (s176,s180,s181)=>idxP o2.Start (w64 (o3+1)) fun x196=>ifP (decide (s180<x196)) (idxP o2.Row s180 fun x207=>idxP o2.Val s180 fun x216=>Y s181 s176 ({ At:=x207,Val:=x216 }:Item) fun r230=>ifP (!r230.1) (Q (r230.2.1,r230.2.2)) (next182 (r230.2.2,w64 (s180+1),r230.2.1))) (Q (s181,s176))) (o1,x42,o0)
def slices_AppendSeq_api_Item_api_Item_828 (o0:Columns) (o1:Int) (Q:(List Item)→Prop):Prop:=
  dcsc_items_1_1ae 0 ([]:List Item) o0 o1 (fun (y55:Nat) (y56:List Item) (x62:Item) (Qy:(Bool×Nat×(List Item))→Prop)=>eqP y55 0 (appP 16 y56 ([x62]) fun _=>Qy (true,0,(y56++([x62]))))) fun r75=>eqP r75.1 0 (Q r75.2)
def slices_Collect_api_Item_d7d (o0:Columns) (o1:Int) (Q:(List Item)→Prop):Prop:=
  slices_AppendSeq_api_Item_api_Item_828 o0 o1 fun r23=>Q r23
def dcsc_Column (a0:Columns) (a1:Int) (Q:(List Item)→Prop):Prop:=
  dcsc_sure a0 fun r39=>dcsc_place r39 a1 fun r62=>ifP (decide (r62<0)) (Q ([]:List Item)) (dcsc_items_9d2 r39 r62 fun r73=>slices_Collect_api_Item_d7d r73.1 r73.2 fun r97=>Q r97)
def push_Sums (a0:Int) (a1:Columns) (a2:Vec) (a3:List Int) (a4:Bool) (Q:((List Sum)×Int)→Prop):Prop:=
  push_sure a1 a2 fun r52=>ring_Is a0 fun r88=>ifP (!r88) (Q (([]:List Sum),8)) (ifP (r52.2.N != r52.1.Cols) (Q (([]:List Sum),4)) (loopP (fun (s:(List (List Sum))×Int) (next224:((List (List Sum))×Int)→Prop)=>match s with | (s218,s222)=>ifP (decide (s222<(r52.2.Items.length:Int))) (idxP r52.2.Items s222 fun x242=>dcsc_Column r52.1 x242.At fun r252=>push_column a0 r252 x242.Val a3 a4 fun r264=>appP 24 s218 ([r264]) fun _=>next224 ((s218++([r264])),w64 (s222+1))) (push_Merge a0 s218 fun r287=>Q (r287.1,r287.2))) (([]:List (List Sum)),0)))
def csr_Turn (a0:Rows) (Q:Rows→Prop):Prop:=
  csr_sure a0 fun r43=>csr_Triples r43 fun r71=>loopP (fun (s:(List Triple)×Int) (next230:((List Triple)×Int)→Prop)=>match s with | (s224,s229)=>ifP (decide (s229<(r71.length:Int))) (idxP s224 s229 fun x244=>idxP s224 s229 fun x251=>next230 ((s224.set s229.toNat ({ Row:=x244.Col,Col:=x244.Row,Val:=x244.Val }:Triple)),w64 (s229+1))) (sortP csr_order s224 fun y259=>csr_built r43.Cols r43.Rows y259 fun r268=>Q r268)) (r71,0)
def dcsc_Of (a0:Rows) (Q:Columns→Prop):Prop:=
  dcsc_none  fun r55=>csr_Right a0 fun r85=>ifP (!r85) (Q r55) (csr_Turn a0 fun r135=>csr_Triples r135 fun r152=>loopP (fun (s:(List Int)×(List Int)×(List Int)×(List Int)×Int) (next622:((List Int)×(List Int)×(List Int)×(List Int)×Int)→Prop)=>match s with | (s605,s609,s613,s617,s621)=>ifP (decide (s621<(r152.length:Int))) (idxP r152 s621 fun x636=>joinP (fun (k748:((List Int)×(List Int))→Prop)=>joinP (fun (k770:Bool→Prop)=>ifP ((s605.length:Int)==0) (k770 true) (idxP s605 (w64 ((s605.length:Int) - 1)) fun x777=>k770 (x777 != x636.Row))) fun s769=>ifP s769 (appP 8 s605 ([x636.Row]) fun _=>appP 8 s609 ([0]) fun _=>k748 ((s605++([x636.Row])),(s609++([0])))) (k748 (s605,s609))) fun (s740,s744)=>appP 8 s613 ([x636.Col]) fun _=>appP 8 s617 ([x636.Val]) fun _=>idxP s744 (s740.length:Int) fun x821=>next622 (s740,(s744.set ((s740.length:Int).toNat) ((s613++([x636.Col])).length:Int)),(s613++([x636.Col])),(s617++([x636.Val])),w64 (s621+1))) (Q ({ Rows:=a0.Rows,Cols:=a0.Cols,At:=s605,Start:=s609,Row:=s613,Val:=s617 }:Columns))) (r55.At,r55.Start,r55.Row,r55.Val,0))
def block_blocks_03e (a0:Int) (a1:Rows) (a2:Vec) (a3:Int) (a4:Int) (Q0:Int→Prop) (Q1:(Int×(List ((Int×Int)×(List Sum))))→Prop):Prop:=
  loopP (fun (s:(List ((Int×Int)×(List Sum)))×Int) (next1209:((List ((Int×Int)×(List Sum)))×Int)→Prop)=>match s with | (s1207,s1208)=>ifP (decide (s1208<a4)) (block_Piece a2 a4 s1208 fun r1227=>ifP ((r1227.Items.length:Int)==0) (next1209 (s1207,w64 (s1208+1))) (loopP (fun (s:(List ((Int×Int)×(List Sum)))×Int) (next1614:((List ((Int×Int)×(List Sum)))×Int)→Prop)=>match s with | (s1612,s1613)=>ifP (decide (s1613<a3)) (block_Cut a1 a3 a4 s1613 s1208 fun r1672=>dcsc_Of r1672 fun r1690=>push_Sums a0 r1690 r1227 ([]:List Int) true fun r1711=>ifP (r1711.2 != 0) (Q0 r1711.2) (loopP (fun (s:(List Sum)×Int) (next1776:((List Sum)×Int)→Prop)=>match s with | (s1771,s1775)=>ifP (decide (s1775<(r1711.1.length:Int))) (idxP s1771 s1775 fun x1785=>part_Low a1.Rows a3 s1613 fun r1789=>idxP s1771 s1775 fun x1794=>next1776 ((s1771.set s1775.toNat ({ At:=w64 (x1785.At+r1789),Val:=x1794.Val }:Sum)),w64 (s1775+1))) (next1614 ((mput (s1613,s1208) s1771 s1612),w64 (s1613+1)))) (r1711.1,0))) (next1209 (s1612,w64 (s1208+1)))) (s1207,0))) (Q1 (0,s1207))) (([]:List ((Int×Int)×(List Sum))),0)
def block_Times (a0:Int) (a1:Rows) (a2:Vec) (a3:Int) (a4:Int) (Q:((List Sum)×Int)→Prop):Prop:=
  joinP (fun (k80:(Int×Int×(List Int)×(List Int)×(List Int))→Prop)=>csr_Right a1 fun r81=>ifP (!r81) (csr_Cut ({ Rows:=0,Cols:=0,Start:=([]:List Int),Col:=([]:List Int),Val:=([]:List Int) }:Rows) (0,0) (0,0) fun r86=>k80 (r86.Rows,r86.Cols,r86.Start,r86.Col,r86.Val)) (k80 (a1.Rows,a1.Cols,a1.Start,a1.Col,a1.Val))) fun (s66,s67,s68,s72,s76)=>joinP (fun (k119:(Int×(List Item))→Prop)=>spvec_Right a2 fun r120=>ifP (!r120) (k119 (0,([]:List Item))) (k119 (a2.N,a2.Items))) fun (s114,s115)=>ring_Is a0 fun r176=>ifP (!r176) (Q (([]:List Sum),8)) (joinP (fun (k200:Bool→Prop)=>block_side a3 fun r201=>ifP (!r201) (k200 true) (block_side a4 fun r206=>k200 (!r206))) fun s199=>ifP s199 (Q (([]:List Sum),3)) (ifP (s114 != s67) (Q (([]:List Sum),4)) (block_blocks_03e a0 ({ Rows:=s66,Cols:=s67,Start:=s68,Col:=s72,Val:=s76 }:Rows) ({ N:=s114,Items:=s115 }:Vec) a3 a4 (fun r254=>ifP (r254 != 0) (Q (([]:List Sum),r254)) (loopP (fun (s:(List (List Sum))×Int) (next390:((List (List Sum))×Int)→Prop)=>match s with | (s384,s388)=>ifP (decide (s388<a3)) (loopP (fun (s:(List (List Sum))×Int) (next434:((List (List Sum))×Int)→Prop)=>match s with | (s429,s433)=>ifP (decide (s433<a4)) (appP 24 s429 ([([]:List Sum)]) fun _=>next434 ((s429++([([]:List Sum)])),w64 (s433+1))) (next390 (s429,w64 (s388+1)))) (s384,0)) (push_Merge a0 s384 fun r456=>Q (r456.1,r456.2))) (([]:List (List Sum)),0))) (fun r255=>ifP (r255.1 != 0) (Q (([]:List Sum),r255.1)) (loopP (fun (s:(List (List Sum))×Int) (next664:((List (List Sum))×Int)→Prop)=>match s with | (s658,s662)=>ifP (decide (s662<a3)) (loopP (fun (s:(List (List Sum))×Int) (next726:((List (List Sum))×Int)→Prop)=>match s with | (s721,s725)=>ifP (decide (s725<a4)) (lkP r255.2 (s662,s725) ([]:List Sum) fun r735=>appP 24 s721 ([r735]) fun _=>next726 ((s721++([r735])),w64 (s725+1))) (next664 (s721,w64 (s662+1)))) (s658,0)) (push_Merge a0 s658 fun r757=>Q (r757.1,r757.2))) (([]:List (List Sum)),0))))))
def law18_live  (Q:Bool→Prop):Prop:=
  ref07_Of 1 5 5 ([({ Row:=4,Col:=1,Val:=7 }:Triple)]:List Triple) fun r30=>block_Cut r30.1 2 2 1 0 fun r68=>block_Piece ({ N:=5,Items:=([({ At:=3,Val:=9 }:Item)]:List Item) }:Vec) 2 1 fun r118=>block_Slice r118 5 2 3 1 2 fun r144=>block_Piece ({ N:=5,Items:=([({ At:=3,Val:=9 }:Item)]:List Item) }:Vec) 2 0 fun r188=>block_Glue 5 2 ([r188,r118]:List Vec) fun r205=>block_Join 5 5 2 2 ([]:List Rows) fun r236=>block_Fit 5 2 3 0 ([]:List Vec) fun r268=>block_Times 4 r30.1 ({ N:=5,Items:=([({ At:=1,Val:=3 }:Item)]:List Item) }:Vec) 2 3 fun r306=>ifP (r68.Rows==3) (ifP (r68.Cols==2) (ifP ((r68.Val.length:Int)==1) (ifP (r118.N==3) (ifP (r144.N==2) (ifP ((r144.Items.length:Int)==1) (ifP (r205.2==0) (ref09_Same r205.1 ({ N:=5,Items:=([({ At:=3,Val:=9 }:Item)]:List Item) }:Vec) fun r324=>ifP r324 (ifP (r236.2==4) (ifP (r268.2==4) (ifP (r306.2==0) (ifP ((r306.1.length:Int)==1) (idxP r306.1 0 fun x334=>Q (x334==({ At:=4,Val:=({ Hi:=0,Lo:=3 }:Wide) }:Sum))) (Q false)) (Q false)) (Q false)) (Q false)) (Q false)) (Q false)) (Q false)) (Q false)) (Q false)) (Q false)) (Q false)) (Q false)
def ref07_Right (a0:Rows) (Q:Bool→Prop):Prop:=
  ifP (decide (a0.Rows<0)) (Q false) (ifP (decide (4096<a0.Rows)) (Q false) (ifP (decide (a0.Cols<0)) (Q false) (ifP (decide (4096<a0.Cols)) (Q false) (ifP ((a0.Start.length:Int) != (w64 (a0.Rows+1))) (Q false) (ifP ((a0.Col.length:Int) != (a0.Val.length:Int)) (Q false) (ifP (decide (65536<(a0.Col.length:Int))) (Q false) (idxP a0.Start 0 fun x49=>ifP (x49 != 0) (Q false) (idxP a0.Start a0.Rows fun x59=>ifP (x59 != (a0.Col.length:Int)) (Q false) (loopP (fun (s695:Int) (next696:Int→Prop)=>ifP (decide (s695<a0.Rows)) (idxP a0.Start s695 fun x741=>idxP a0.Start (w64 (s695+1)) fun x750=>ifP (decide (x750<x741)) (Q false) (idxP a0.Start s695 fun x760=>ifP (decide (x760<0)) (Q false) (idxP a0.Start (w64 (s695+1)) fun x770=>ifP (decide ((a0.Col.length:Int)<x770)) (Q false) (idxP a0.Start s695 fun x789=>loopP (fun (s938:Int) (next939:Int→Prop)=>idxP a0.Start (w64 (s695+1)) fun x954=>ifP (decide (s938<x954)) (idxP a0.Col s938 fun x964=>ifP (decide (x964<0)) (Q false) (idxP a0.Col s938 fun x974=>ifP (decide (a0.Cols≤x974)) (Q false) (idxP a0.Start s695 fun x984=>ifP (decide (x984<s938)) (idxP a0.Col s938 fun x994=>idxP a0.Col (w64 (s938 - 1)) fun x1003=>ifP (decide (x994≤x1003)) (Q false) (next939 (w64 (s938+1)))) (next939 (w64 (s938+1)))))) (next696 (w64 (s695+1)))) x789)))) (Q true)) 0)))))))))
def ref18_sides (a0:Int) (a1:Int) (Q:Bool→Prop):Prop:=
  ifP (decide (1≤a0)) (ifP (decide (a0≤8)) (ifP (decide (1≤a1)) (Q (decide (a1≤8))) (Q false)) (Q false)) (Q false)
def ref17_may (a0:Int) (a1:Int) (Q:Bool→Prop):Prop:=
  ifP (decide (0≤a0)) (ifP (decide (a0≤4096)) (ifP (decide (1≤a1)) (Q (decide (a1≤8))) (Q false)) (Q false)) (Q false)
def ref17_Low (a0:Int) (a1:Int) (a2:Int) (Q:Int→Prop):Prop:=
  ref17_may a0 a1 fun r7=>ifP (!r7) (Q 0) (ifP (decide (a2<0)) (Q 0) (ifP (decide (a1≤a2)) (Q a0) (nzP a1 <| Q (w64 ((w64 (a2*a0)).tdiv a1)))))
def ref07_Sure (a0:Rows) (Q:Rows→Prop):Prop:=
  ref07_Right a0 fun r27=>ifP r27 (Q a0) (ref07_Empty 0 0 fun r32=>Q r32)
def ref07_Triples (a0:Rows) (Q:(List Triple)→Prop):Prop:=
  ref07_Sure a0 fun r33=>loopP (fun (s:(List Triple)×Int) (next429:((List Triple)×Int)→Prop)=>match s with | (s423,s427)=>ifP (decide (s427<r33.Rows)) (idxP r33.Start s427 fun x445=>loopP (fun (s:(List Triple)×Int) (next563:((List Triple)×Int)→Prop)=>match s with | (s558,s562)=>idxP r33.Start (w64 (s427+1)) fun x579=>ifP (decide (s562<x579)) (idxP r33.Col s562 fun x590=>idxP r33.Val s562 fun x599=>appP 24 s558 ([({ Row:=s427,Col:=x590,Val:=x599 }:Triple)]) fun _=>next563 ((s558++([({ Row:=s427,Col:=x590,Val:=x599 }:Triple)])),w64 (s562+1))) (next429 (s558,w64 (s427+1)))) (s423,x445)) (Q s423)) (([]:List Triple),0)
def ref07_Cut (a0:Rows) (a1:Int×Int) (a2:Int×Int) (Q:Rows→Prop):Prop:=
  ref07_Sure a0 fun r51=>ref07_Triples r51 fun r78=>loopP (fun (s:(List Triple)×Int) (next931:((List Triple)×Int)→Prop)=>match s with | (s925,s929)=>ifP (decide (s929<(r78.length:Int))) (joinP (fun (k1016:Bool→Prop)=>idxP r78 s929 fun x1018=>ifP (decide ((if 0 > a1.1 then 0 else a1.1)≤x1018.Row)) (idxP r78 s929 fun x1028=>ifP (decide (x1028.Row<(if r51.Rows<a1.2 then r51.Rows else a1.2))) (idxP r78 s929 fun x1038=>ifP (decide ((if 0 > a2.1 then 0 else a2.1)≤x1038.Col)) (idxP r78 s929 fun x1048=>k1016 (decide (x1048.Col<(if r51.Cols<a2.2 then r51.Cols else a2.2)))) (k1016 false)) (k1016 false)) (k1016 false)) fun s1015=>ifP s1015 (idxP r78 s929 fun x1063=>idxP r78 s929 fun x1072=>idxP r78 s929 fun x1081=>appP 24 s925 ([({ Row:=w64 (x1063.Row - (if 0 > a1.1 then 0 else a1.1)),Col:=w64 (x1072.Col - (if 0 > a2.1 then 0 else a2.1)),Val:=x1081.Val }:Triple)]) fun _=>next931 ((s925++([({ Row:=w64 (x1063.Row - (if 0 > a1.1 then 0 else a1.1)),Col:=w64 (x1072.Col - (if 0 > a2.1 then 0 else a2.1)),Val:=x1081.Val }:Triple)])),w64 (s929+1))) (next931 (s925,w64 (s929+1)))) (joinP (fun (k1098:Int→Prop)=>ifP (decide ((if 0 > a1.1 then 0 else a1.1)<(if r51.Rows<a1.2 then r51.Rows else a1.2))) (k1098 (w64 ((if r51.Rows<a1.2 then r51.Rows else a1.2) - (if 0 > a1.1 then 0 else a1.1)))) (k1098 0)) fun s1097=>joinP (fun (k1107:Int→Prop)=>ifP (decide ((if 0 > a2.1 then 0 else a2.1)<(if r51.Cols<a2.2 then r51.Cols else a2.2))) (k1107 (w64 ((if r51.Cols<a2.2 then r51.Cols else a2.2) - (if 0 > a2.1 then 0 else a2.1)))) (k1107 0)) fun s1106=>ifP (s1097==0) (ref07_built s1097 s1106 ([]:List Triple) fun r1115=>Q r1115) (ifP (s1106==0) (ref07_built s1097 s1106 ([]:List Triple) fun r1136=>Q r1136) (ref07_built s1097 s1106 s925 fun r1163=>Q r1163)))) (([]:List Triple),0)
def ref18_Cut (a0:Rows) (a1:Int) (a2:Int) (a3:Int) (a4:Int) (Q:Rows→Prop):Prop:=
  ref07_Right a0 fun r155=>ifP (!r155) (ref07_Empty 0 0 fun r160=>Q r160) (ref18_sides a1 a2 fun r191=>ifP (!r191) (ref07_Empty 0 0 fun r196=>Q r196) (ifP (decide (a3<0)) (ref07_Empty 0 0 fun r228=>Q r228) (ifP (decide (a1≤a3)) (ref07_Empty 0 0 fun r260=>Q r260) (ifP (decide (a4<0)) (ref07_Empty 0 0 fun r292=>Q r292) (ifP (decide (a2≤a4)) (ref07_Empty 0 0 fun r324=>Q r324) (ref17_Low a0.Rows a1 a3 fun r366=>ref17_Low a0.Rows a1 (w64 (a3+1)) fun r370=>ref17_Low a0.Cols a2 a4 fun r376=>ref17_Low a0.Cols a2 (w64 (a4+1)) fun r380=>ref07_Cut a0 (r366,r370) (r376,r380) fun r385=>Q r385))))))
def ref09_Right (a0:Vec) (Q:Bool→Prop):Prop:=
  ifP (decide (a0.N<0)) (Q false) (ifP (decide (4096<a0.N)) (Q false) (loopP (fun (s79:Int) (next80:Int→Prop)=>ifP (decide (s79<(a0.Items.length:Int))) (idxP a0.Items s79 fun x86=>ifP (decide (x86.At<0)) (Q false) (idxP a0.Items s79 fun x96=>ifP (decide (a0.N≤x96.At)) (Q false) (ifP (decide (0<s79)) (idxP a0.Items s79 fun x107=>idxP a0.Items (w64 (s79 - 1)) fun x116=>ifP (decide (x107.At≤x116.At)) (Q false) (next80 (w64 (s79+1)))) (next80 (w64 (s79+1)))))) (Q true)) 0))
def ref09_Sure (a0:Vec) (Q:Vec→Prop):Prop:=
  ref09_Right a0 fun r15=>ifP r15 (Q a0) (Q ({ N:=0,Items:=([]:List Item) }:Vec))
def ref09_Part (a0:Vec) (a1:Int) (a2:Int) (Q:Vec→Prop):Prop:=
  ref09_Sure a0 fun r25=>ifP (decide ((if r25.N<a2 then r25.N else a2)≤(if 0 > a1 then 0 else a1))) (Q ({ N:=0,Items:=([]:List Item) }:Vec)) (loopP (fun (s:(List Item)×Int) (next242:((List Item)×Int)→Prop)=>match s with | (s236,s240)=>ifP (decide (s240<(r25.Items.length:Int))) (joinP (fun (k287:Bool→Prop)=>idxP r25.Items s240 fun x289=>ifP (decide ((if 0 > a1 then 0 else a1)≤x289.At)) (idxP r25.Items s240 fun x299=>k287 (decide (x299.At<(if r25.N<a2 then r25.N else a2)))) (k287 false)) fun s286=>ifP s286 (idxP r25.Items s240 fun x314=>idxP r25.Items s240 fun x323=>appP 16 s236 ([({ At:=w64 (x314.At - (if 0 > a1 then 0 else a1)),Val:=x323.Val }:Item)]) fun _=>next242 ((s236++([({ At:=w64 (x314.At - (if 0 > a1 then 0 else a1)),Val:=x323.Val }:Item)])),w64 (s240+1))) (next242 (s236,w64 (s240+1)))) (Q ({ N:=w64 ((if r25.N<a2 then r25.N else a2) - (if 0 > a1 then 0 else a1)),Items:=s236 }:Vec))) (([]:List Item),0))
def ref18_Piece (a0:Vec) (a1:Int) (a2:Int) (Q:Vec→Prop):Prop:=
  ref09_Sure a0 fun r25=>ref18_sides a1 a1 fun r42=>ifP (!r42) (Q ({ N:=0,Items:=([]:List Item) }:Vec)) (ifP (decide (a2<0)) (Q ({ N:=0,Items:=([]:List Item) }:Vec)) (ifP (decide (a1≤a2)) (Q ({ N:=0,Items:=([]:List Item) }:Vec)) (ref17_Low r25.N a1 a2 fun r49=>ref17_Low r25.N a1 (w64 (a2+1)) fun r53=>ref09_Part r25 r49 r53 fun r57=>Q r57)))
def ref03_Has (a0:List Int) (a1:Int) (Q:Bool→Prop):Prop:=
  ifP (decide (0≤a1)) (ifP (decide ((w64 (a1.tdiv 64))<(a0.length:Int))) (idxP a0 (w64 (a1.tdiv 64)) fun x7=>nnP (IntKind.wrap .u64 (a1.tmod 64)) <| Q ((bnd .u64 (shr .u64 x7 (IntKind.wrap .u64 (a1.tmod 64))) 1)==1)) (Q false)) (Q false)
def ref03_List (a0:List Int) (Q:(List Int)→Prop):Prop:=
  loopP (fun (s:(List Int)×Int) (next55:((List Int)×Int)→Prop)=>match s with | (s49,s53)=>ifP (decide (s53<(w64 (64*(a0.length:Int))))) (ref03_Has a0 s53 fun r60=>ifP r60 (appP 8 s49 ([s53]) fun _=>next55 ((s49++([s53])),w64 (s53+1))) (next55 (s49,w64 (s53+1)))) (Q s49)) (([]:List Int),0)
def ref03_words (a0:Int) (Q:Int→Prop):Prop:=
  joinP (fun (k4:Int→Prop)=>ifP (decide (4096<a0)) (k4 4096) (k4 a0)) fun s3=>ifP (decide (s3<1)) (Q 0) (Q (w64 ((w64 (s3+63)).tdiv 64)))
def ref03_Right (a0:List Int) (a1:Int) (Q:Bool→Prop):Prop:=
  ifP (decide (a1<0)) (Q false) (ifP (decide (4096<a1)) (Q false) (ref03_words a1 fun r13=>ifP ((a0.length:Int) != r13) (Q false) (ref03_List a0 fun r28=>ifP ((r28.length:Int)==0) (Q true) (idxP r28 (w64 ((r28.length:Int) - 1)) fun x40=>Q (decide (x40<a1))))))
def ref10_Right (a0:Dense) (Q:Bool→Prop):Prop:=
  ifP (decide (a0.N<0)) (Q false) (ifP (decide (4096<a0.N)) (Q false) (ref03_Right a0.Has a0.N fun r21=>ifP (!r21) (Q false) (ifP ((a0.Vals.length:Int) != a0.N) (Q false) (loopP (fun (s64:Int) (next65:Int→Prop)=>ifP (decide (s64<a0.N)) (ref03_Has a0.Has s64 fun r70=>ifP (!r70) (idxP a0.Vals s64 fun x76=>ifP (x76 != 0) (Q false) (next65 (w64 (s64+1)))) (next65 (w64 (s64+1)))) (Q true)) 0))))
def ref10_Back (a0:Dense) (Q:Vec→Prop):Prop:=
  ref10_Right a0 fun r23=>ifP (!r23) (Q ({ N:=0,Items:=([]:List Item) }:Vec)) (ref03_List a0.Has fun r42=>loopP (fun (s:(List Item)×Int) (next145:((List Item)×Int)→Prop)=>match s with | (s139,s143)=>ifP (decide (s143<(r42.length:Int))) (idxP r42 s143 fun x153=>idxP r42 s143 fun x162=>idxP a0.Vals x162 fun x171=>appP 16 s139 ([({ At:=x153,Val:=x171 }:Item)]) fun _=>next145 ((s139++([({ At:=x153,Val:=x171 }:Item)])),w64 (s143+1))) (Q ({ N:=a0.N,Items:=s139 }:Vec))) (([]:List Item),0))
def ref09_Get (a0:Vec) (a1:Int) (Q:(Int×Bool)→Prop):Prop:=
  ref09_Sure a0 fun r18=>loopP (fun (s91:Int) (next92:Int→Prop)=>ifP (decide (s91<(r18.Items.length:Int))) (idxP r18.Items s91 fun x108=>ifP (x108.At==a1) (idxP r18.Items s91 fun x118=>Q (x118.Val,true)) (next92 (w64 (s91+1)))) (Q (0,false))) 0
def ref01_Minus (a0:Wide) (Q:Wide→Prop):Prop:=
  ref01_Add ({ Hi:=bxor .i64 (-1) a0.Hi,Lo:=bxor .u64 18446744073709551615 a0.Lo }:Wide) ({ Hi:=0,Lo:=1 }:Wide) fun r9=>Q r9
def ref01_Mul (a0:Int) (a1:Int) (Q:Wide→Prop):Prop:=
  ref01_Of a0 fun r11=>joinP (fun (k20:Int→Prop)=>ifP (decide (a1<0)) (k20 (IntKind.wrap .u64 (0 - (IntKind.wrap .u64 (a1))))) (k20 (IntKind.wrap .u64 (a1)))) fun s19=>loopP (fun (s:Int×Int×Int×Int×Int) (next147:(Int×Int×Int×Int×Int)→Prop)=>match s with | (s142,s143,s144,s145,s146)=>ifP (decide (0<s144)) (ifP ((s144.tmod 2)==1) (ref01_Add ({ Hi:=s145,Lo:=s146 }:Wide) ({ Hi:=s142,Lo:=s143 }:Wide) fun r154=>ref01_Add ({ Hi:=s142,Lo:=s143 }:Wide) ({ Hi:=s142,Lo:=s143 }:Wide) fun r158=>next147 (r158.Hi,r158.Lo,IntKind.wrap .u64 (s144.tdiv 2),r154.Hi,r154.Lo)) (ref01_Add ({ Hi:=s142,Lo:=s143 }:Wide) ({ Hi:=s142,Lo:=s143 }:Wide) fun r162=>next147 (r162.Hi,r162.Lo,IntKind.wrap .u64 (s144.tdiv 2),s145,s146))) (ifP (decide (a1<0)) (ref01_Minus ({ Hi:=s145,Lo:=s146 }:Wide) fun r167=>Q r167) (Q ({ Hi:=s145,Lo:=s146 }:Wide)))) (r11.Hi,r11.Lo,s19,0,0)
def ref02_Mul (a0:Int) (a1:Int) (a2:Int) (Q:Wide→Prop):Prop:=
  joinP (fun (k8:Bool→Prop)=>ifP (decide (4611686018427387904≤a1)) (k8 true) (k8 (decide (4611686018427387904≤a2)))) fun s7=>ifP (a0==1) (ref01_Of a1 fun r27=>ref01_Of a2 fun r31=>ref01_Add r27 r31 fun r35=>ifP s7 (ref01_Of 4611686018427387904 fun r42=>Q r42) (ref01_Of 4611686018427387904 fun r46=>ref01_Compare r35 r46 fun r50=>ifP (decide (0<r50)) (ref01_Of 4611686018427387904 fun r55=>Q r55) (Q r35))) (ifP (a0==3) (ifP s7 (ref01_Of 4611686018427387904 fun r61=>Q r61) (ref01_Of a1 fun r65=>Q r65)) (ifP (a0==4) (ifP s7 (ref01_Of 4611686018427387904 fun r71=>Q r71) (ref01_Of a2 fun r75=>Q r75)) (ifP (a0==2) (ifP (a1 != 0) (ref02_truth (a2 != 0) fun r81=>Q r81) (ref02_truth false fun r85=>Q r85)) (ifP (a0==5) (ref01_Mul a1 a2 fun r90=>Q r90) (Q ({ Hi:=0,Lo:=0 }:Wide))))))
def ref13_Sums (a0:Int) (a1:Rows) (a2:Dense) (a3:List Int) (a4:Bool) (Q:((List Sum)×Int)→Prop):Prop:=
  ref07_Sure a1 fun r46=>ref10_Back a2 fun r75=>ref02_Is a0 fun r93=>ifP (!r93) (Q (([]:List Sum),8)) (ifP (r75.N != r46.Cols) (Q (([]:List Sum),4)) (loopP (fun (s:(List Sum)×Int) (next1308:((List Sum)×Int)→Prop)=>match s with | (s1302,s1306)=>ifP (decide (s1306<r46.Rows)) (ref03_Has a3 s1306 fun r1319=>ifP (r1319==a4) (next1308 (s1302,w64 (s1306+1))) (idxP r46.Start s1306 fun x1627=>loopP (fun (s:Int×Int×Bool×Int) (next1816:(Int×Int×Bool×Int)→Prop)=>match s with | (s1812,s1813,s1814,s1815)=>idxP r46.Start (w64 (s1306+1)) fun x1832=>ifP (decide (s1815<x1832)) (idxP r46.Col s1815 fun x1857=>ref09_Get r75 x1857 fun r1865=>ifP (!r1865.2) (next1816 (s1812,s1813,s1814,w64 (s1815+1))) (idxP r46.Val s1815 fun x1887=>ref02_Mul a0 x1887 r1865.1 fun r1895=>ifP s1814 (ref02_Add a0 ({ Hi:=s1812,Lo:=s1813 }:Wide) r1895 fun r1902=>next1816 (r1902.Hi,r1902.Lo,true,w64 (s1815+1))) (next1816 (r1895.Hi,r1895.Lo,true,w64 (s1815+1))))) (ifP s1814 (appP 24 s1302 ([({ At:=s1306,Val:=({ Hi:=s1812,Lo:=s1813 }:Wide) }:Sum)]) fun _=>next1308 ((s1302++([({ At:=s1306,Val:=({ Hi:=s1812,Lo:=s1813 }:Wide) }:Sum)])),w64 (s1306+1))) (next1308 (s1302,w64 (s1306+1))))) (0,0,false,x1627))) (Q (s1302,0))) (([]:List Sum),0)))
def ref03_New (a0:Int) (Q:(List Int)→Prop):Prop:=
  ref03_words a0 fun r4=>mkP 8 r4 0 fun _=>Q (List.replicate r4.toNat 0)
def ref10_New (a0:Int) (Q:Dense→Prop):Prop:=
  ifP (decide (a0<0)) (mkP 8 0 0 fun _=>ref03_New 0 fun r15=>Q ({ N:=0,Has:=r15,Vals:=(List.replicate (Int.toNat 0) (0:Int)) }:Dense)) (ifP (decide (4096<a0)) (mkP 8 0 0 fun _=>ref03_New 0 fun r30=>Q ({ N:=0,Has:=r30,Vals:=(List.replicate (Int.toNat 0) (0:Int)) }:Dense)) (mkP 8 a0 0 fun _=>ref03_New a0 fun r44=>Q ({ N:=a0,Has:=r44,Vals:=(List.replicate a0.toNat (0:Int)) }:Dense)))
def ref03_set (a0:List Int) (a1:Int) (a2:Bool) (Q:(List Int)→Prop):Prop:=
  appP 8 ([]:List Int) a0 fun _=>ifP (decide (a1<0)) (Q (([]:List Int)++a0)) (ifP (decide ((a0.length:Int)≤(w64 (a1.tdiv 64)))) (Q (([]:List Int)++a0)) (nnP (IntKind.wrap .u64 (a1.tmod 64)) <| ifP a2 (idxP (([]:List Int)++a0) (w64 (a1.tdiv 64)) fun x31=>idxP (([]:List Int)++a0) (w64 (a1.tdiv 64)) fun x36=>Q ((([]:List Int)++a0).set ((w64 (a1.tdiv 64)).toNat) (bor .u64 x31 (shl .u64 1 (IntKind.wrap .u64 (a1.tmod 64)))))) (idxP (([]:List Int)++a0) (w64 (a1.tdiv 64)) fun x42=>idxP (([]:List Int)++a0) (w64 (a1.tdiv 64)) fun x47=>Q ((([]:List Int)++a0).set ((w64 (a1.tdiv 64)).toNat) (bandn .u64 x42 (shl .u64 1 (IntKind.wrap .u64 (a1.tmod 64))))))))
def ref03_Put (a0:List Int) (a1:Int) (Q:(List Int)→Prop):Prop:=
  ref03_set a0 a1 true fun r7=>Q r7
def ref03_Of (a0:Int) (a1:List Int) (Q:(List Int)→Prop):Prop:=
  ref03_New a0 fun r17=>loopP (fun (s:(List Int)×Int) (next151:((List Int)×Int)→Prop)=>match s with | (s146,s150)=>ifP (decide (s150<(a1.length:Int))) (idxP a1 s150 fun x158=>ifP (decide (0≤x158)) (idxP a1 s150 fun x168=>ifP (decide (x168<a0)) (idxP a1 s150 fun x178=>ifP (decide (x178<4096)) (idxP a1 s150 fun x188=>ref03_Put s146 x188 fun r196=>next151 (r196,w64 (s150+1))) (next151 (s146,w64 (s150+1)))) (next151 (s146,w64 (s150+1)))) (next151 (s146,w64 (s150+1)))) (Q s146)) (r17,0)
def ref10_Of (a0:Vec) (Q:Dense→Prop):Prop:=
  ref09_Sure a0 fun r28=>ref10_New r28.N fun r55=>loopP (fun (s:(List Int)×(List Int)×Int) (next439:((List Int)×(List Int)×Int)→Prop)=>match s with | (s429,s433,s437)=>ifP (decide (s437<(r28.Items.length:Int))) (idxP r28.Items s437 fun x461=>appP 8 s433 ([x461.At]) fun _=>idxP r28.Items s437 fun x478=>idxP r28.Items s437 fun x487=>idxP s429 x478.At fun x496=>next439 ((s429.set x478.At.toNat x487.Val),(s433++([x461.At])),w64 (s437+1))) (ref03_Of r28.N s433 fun r505=>Q ({ N:=r55.N,Has:=r505,Vals:=s429 }:Dense))) (r55.Vals,([]:List Int),0)
def ref14_both (a0:Int) (a1:List Sum) (a2:List Sum) (Q:(List Sum)→Prop):Prop:=
  loopP (fun (s:(List Sum)×Int×Int) (next457:((List Sum)×Int×Int)→Prop)=>match s with | (s450,s454,s455)=>joinP (fun (k464:Unit→Prop)=>ifP (decide (s454<(a1.length:Int))) (k464 ()) (ifP (decide (s455<(a2.length:Int))) (k464 ()) (Q s450))) fun _=>joinP (fun (k517:Bool→Prop)=>ifP (s455==(a2.length:Int)) (k517 true) (ifP (decide (s454<(a1.length:Int))) (idxP a1 s454 fun x522=>idxP a2 s455 fun x531=>k517 (decide (x522.At<x531.At))) (k517 false))) fun s516=>ifP s516 (idxP a1 s454 fun x545=>appP 24 s450 ([x545]) fun _=>next457 ((s450++([x545])),w64 (s454+1),s455)) (joinP (fun (k600:Bool→Prop)=>ifP (s454==(a1.length:Int)) (k600 true) (idxP a2 s455 fun x604=>idxP a1 s454 fun x613=>k600 (decide (x604.At<x613.At)))) fun s599=>ifP s599 (idxP a2 s455 fun x628=>appP 24 s450 ([x628]) fun _=>next457 ((s450++([x628])),s454,w64 (s455+1))) (idxP a1 s454 fun x644=>idxP a1 s454 fun x653=>idxP a2 s455 fun x662=>ref02_Add a0 x653.Val x662.Val fun r670=>appP 24 s450 ([({ At:=x644.At,Val:=r670 }:Sum)]) fun _=>next457 ((s450++([({ At:=x644.At,Val:=r670 }:Sum)])),w64 (s454+1),w64 (s455+1))))) (([]:List Sum),0,0)
def ref14_Merge (a0:Int) (a1:List (List Sum)) (Q:((List Sum)×Int)→Prop):Prop:=
  ref02_Is a0 fun r12=>ifP (!r12) (Q (([]:List Sum),8)) (loopP (fun (s1108:Int) (next1109:Int→Prop)=>ifP (decide (s1108<(a1.length:Int))) (loopP (fun (s1255:Int) (next1256:Int→Prop)=>idxP a1 s1108 fun x1274=>ifP (decide (s1255<(x1274.length:Int))) (idxP a1 s1108 fun x1287=>idxP x1287 s1255 fun x1299=>idxP a1 s1108 fun x1308=>idxP x1308 (w64 (s1255 - 1)) fun x1320=>ifP (decide (x1299.At≤x1320.At)) (Q (([]:List Sum),6)) (next1256 (w64 (s1255+1)))) (next1109 (w64 (s1108+1)))) 1) (loopP (fun (s:(List Sum)×Int) (next1399:((List Sum)×Int)→Prop)=>match s with | (s1394,s1398)=>ifP (decide (s1398<(a1.length:Int))) (idxP a1 s1398 fun x1406=>ref14_both a0 s1394 x1406 fun r1417=>next1399 (r1417,w64 (s1398+1))) (Q (s1394,0))) (([]:List Sum),0))) 0)
def ref18_Times (a0:Int) (a1:Rows) (a2:Vec) (a3:Int) (a4:Int) (Q:((List Sum)×Int)→Prop):Prop:=
  ref07_Sure a1 fun r51=>ref09_Sure a2 fun r67=>ref02_Is a0 fun r83=>ifP (!r83) (Q (([]:List Sum),8)) (ref18_sides a3 a4 fun r93=>ifP (!r93) (Q (([]:List Sum),3)) (ifP (r67.N != r51.Cols) (Q (([]:List Sum),4)) (loopP (fun (s:(List (List Sum))×Int) (next1688:((List (List Sum))×Int)→Prop)=>match s with | (s1682,s1686)=>ifP (decide (s1686<a3)) (loopP (fun (s:(List (List Sum))×Int) (next2238:((List (List Sum))×Int)→Prop)=>match s with | (s2233,s2237)=>ifP (decide (s2237<a4)) (ref18_Cut r51 a3 a4 s1686 s2237 fun r2266=>ref18_Piece r67 a4 s2237 fun r2329=>ref10_Of r2329 fun r2342=>ref13_Sums a0 r2266 r2342 ([]:List Int) true fun r2358=>loopP (fun (s:(List Sum)×Int) (next2456:((List Sum)×Int)→Prop)=>match s with | (s2450,s2454)=>ifP (decide (s2454<(r2358.1.length:Int))) (idxP r2358.1 s2454 fun x2467=>idxP r2358.1 s2454 fun x2476=>ref17_Low r51.Rows a3 s1686 fun r2484=>appP 24 s2450 ([({ At:=w64 (x2467.At+r2484),Val:=x2476.Val }:Sum)]) fun _=>next2456 ((s2450++([({ At:=w64 (x2467.At+r2484),Val:=x2476.Val }:Sum)])),w64 (s2454+1))) (appP 24 s2233 ([s2450]) fun _=>next2238 ((s2233++([s2450])),w64 (s2237+1)))) (([]:List Sum),0)) (next1688 (s2233,w64 (s1686+1)))) (s1682,0)) (ref14_Merge a0 s1682 fun r2512=>Q (r2512.1,r2512.2))) (([]:List (List Sum)),0))))
def ref13_SameSums (a0:List Sum) (a1:List Sum) (Q:Bool→Prop):Prop:=
  ifP ((a0.length:Int) != (a1.length:Int)) (Q false) (loopP (fun (s54:Int) (next55:Int→Prop)=>ifP (decide (s54<(a0.length:Int))) (idxP a0 s54 fun x61=>idxP a1 s54 fun x70=>ifP (!(x61==x70)) (Q false) (next55 (w64 (s54+1)))) (Q true)) 0)
def ref07_Turn (a0:Rows) (Q:Rows→Prop):Prop:=
  ref07_Sure a0 fun r43=>ref07_Triples r43 fun r70=>loopP (fun (s:(List Triple)×Int) (next431:((List Triple)×Int)→Prop)=>match s with | (s425,s429)=>ifP (decide (s429<r43.Cols)) (loopP (fun (s:(List Triple)×Int) (next549:((List Triple)×Int)→Prop)=>match s with | (s544,s548)=>ifP (decide (s548<(r70.length:Int))) (idxP r70 s548 fun x566=>ifP (x566.Col==s429) (idxP r70 s548 fun x577=>idxP r70 s548 fun x586=>appP 24 s544 ([({ Row:=s429,Col:=x577.Row,Val:=x586.Val }:Triple)]) fun _=>next549 ((s544++([({ Row:=s429,Col:=x577.Row,Val:=x586.Val }:Triple)])),w64 (s548+1))) (next549 (s544,w64 (s548+1)))) (next431 (s544,w64 (s429+1)))) (s425,0)) (ref07_built r43.Cols r43.Rows s425 fun r605=>Q r605)) (([]:List Triple),0)
def ref07_Row (a0:Rows) (a1:Int) (Q:(List Item)→Prop):Prop:=
  ref07_Sure a0 fun r33=>ifP (decide (a1<0)) (Q ([]:List Item)) (ifP (decide (r33.Rows≤a1)) (Q ([]:List Item)) (idxP r33.Start a1 fun x63=>loopP (fun (s:(List Item)×Int) (next182:((List Item)×Int)→Prop)=>match s with | (s176,s180)=>idxP r33.Start (w64 (a1+1)) fun x197=>ifP (decide (s180<x197)) (idxP r33.Col s180 fun x208=>idxP r33.Val s180 fun x217=>appP 16 s176 ([({ At:=x208,Val:=x217 }:Item)]) fun _=>next182 ((s176++([({ At:=x208,Val:=x217 }:Item)])),w64 (s180+1))) (Q s176)) (([]:List Item),x63)))
def ref08_Of (a0:Rows) (Q:Columns→Prop):Prop:=
  ref07_Turn a0 fun r48=>loopP (fun (s:(List Int)×(List Int)×(List Int)×(List Int)×Int) (next664:((List Int)×(List Int)×(List Int)×(List Int)×Int)→Prop)=>match s with | (s644,s648,s652,s656,s660)=>ifP (decide (s660<r48.Rows)) (ref07_Row r48 s660 fun r682=>ifP ((r682.length:Int)==0) (next664 (s644,s648,s652,s656,w64 (s660+1))) (appP 8 s644 ([s660]) fun _=>loopP (fun (s:(List Int)×(List Int)×Int) (next862:((List Int)×(List Int)×Int)→Prop)=>match s with | (s853,s857,s861)=>ifP (decide (s861<(r682.length:Int))) (idxP r682 s861 fun x893=>appP 8 s853 ([x893.At]) fun _=>idxP r682 s861 fun x912=>appP 8 s857 ([x912.Val]) fun _=>next862 ((s853++([x893.At])),(s857++([x912.Val])),w64 (s861+1))) (appP 8 s648 ([(s853.length:Int)]) fun _=>next664 ((s644++([s660])),(s648++([(s853.length:Int)])),s853,s857,w64 (s660+1)))) (s652,s656,0))) (Q ({ Rows:=r48.Cols,Cols:=r48.Rows,At:=s644,Start:=s648,Row:=s652,Val:=s656 }:Columns))) (([]:List Int),([0]:List Int),([]:List Int),([]:List Int),0)
def law18_BlockTimes (a0:Law13_Task) (a1:Int) (a2:Int) (Q:Bool→Prop):Prop:=
  law13_Task_Matrix a0 fun r50=>law13_Task_Vector a0 a0.X fun r66=>block_Times a0.Ring r50 r66 a1 a2 fun r90=>ref18_Times a0.Ring r50 r66 a1 a2 fun r112=>law18_live  fun r134=>ifP (!r134) (Q false) (ifP (r90.2 != r112.2) (Q false) (ref13_SameSums r90.1 r112.1 fun r140=>ifP (!r140) (Q false) (ref08_Of r50 fun r177=>push_Sums a0.Ring r177 r66 ([]:List Int) true fun r197=>ifP (r90.2 != 0) (Q true) (ifP (r197.2==0) (ref13_SameSums r90.1 r197.1 fun r211=>Q r211) (Q false)))))
end Go.Proofs.YtpackolbhcmomaaGreat
