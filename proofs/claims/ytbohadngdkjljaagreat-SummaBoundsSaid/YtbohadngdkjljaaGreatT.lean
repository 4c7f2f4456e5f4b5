/- Types, and pure functions as the Go text has them (printed by a program of ours). -/
import Derived.Test.YtbohadngdkjljaaGreatFwU
import Derived.Test.YtbohadngdkjljaaGreatFwK
namespace Go.Proofs.YtbohadngdkjljaaGreat
open Go Go.Fw
set_option linter.unusedVariables false
set_option linter.unusedSimpArgs false
set_option maxRecDepth 8000
set_option maxHeartbeats 1000000
abbrev AE:FB Int:=IW 1 (fun x=>[.int .i64 x]) (fun _=>⟨rfl,rfl⟩)
abbrev Ae2:FB Int:=IW 1 (fun x=>[.int .u64 x]) (fun _=>⟨rfl,rfl⟩)
abbrev eU8:FB Int:=IW 1 (fun x=>[.int .u8 x]) (fun _=>⟨rfl,rfl⟩)
abbrev eB:FB Bool:=IW 1 (fun x=>[.bool x]) (fun _=>⟨rfl,rfl⟩)
structure AP where
  Hi:Int
  Lo:Int
deriving DecidableEq,Inhabited
def EM (x:AP):List Value:=[.int .i64 x.Hi,.int .u64 x.Lo]
abbrev OU:FB AP:=IW 2 EM (fun _=>⟨rfl,rfl⟩)
structure DL where
  From:Int
  To:Int
  W:Int
deriving DecidableEq,Inhabited
def eR (x:DL):List Value:=[.int .i64 x.From,.int .i64 x.To,.int .i64 x.W]
abbrev VT:FB DL:=IW 3 eR (fun _=>⟨rfl,rfl⟩)
structure AbY where
  N:Int
  Edges:List DL
deriving DecidableEq,Inhabited
structure Rows where
  Rows:Int
  Cols:Int
  Start:List Int
  Col:List Int
  Val:List Int
deriving DecidableEq,Inhabited
def oB:FB Rows where
  sz:=5
  rep I cs x:=∃ a2 c2 a3 c3 a4 c4,cs=[.int .i64 x.Rows,.int .i64 x.Cols,.slice a2 x.Start.length c2,.slice a3 x.Col.length c3,.slice a4 x.Val.length c4]∧RepSl AE I a2 c2 x.Start∧RepSl AE I a3 c3 x.Col∧RepSl AE I a4 c4 x.Val
  mono hle:=fun ⟨a2,c2,a3,c3,a4,c4,e,h0,h1,h2⟩=>⟨a2,c2,a3,c3,a4,c4,e,h0.mono hle,h1.mono hle,h2.mono hle⟩
  len:=fun ⟨a2,c2,a3,c3,a4,c4,e,_,_,_⟩=>by rw [e]; rfl
  one:=fun ⟨a2,c2,a3,c3,a4,c4,e,_,_,_⟩=>by rw [e]; rfl
structure AC where
  Row:Int
  Col:Int
  Val:Int
deriving DecidableEq,Inhabited
def XQ (x:AC):List Value:=[.int .i64 x.Row,.int .i64 x.Col,.int .i64 x.Val]
abbrev AX:FB AC:=IW 3 XQ (fun _=>⟨rfl,rfl⟩)
structure BB where
  Ring:Int
  A:Rows
  B:Rows
  Mask:Rows
  R:Int
  C:Int
  Room:Int
deriving DecidableEq,Inhabited
structure AY where
  From:Int
  To:Int
  Row:Int
  Col:Int
deriving DecidableEq,Inhabited
def fS (x:AY):List Value:=[.int .i64 x.From,.int .i64 x.To,.int .i64 x.Row,.int .i64 x.Col]
abbrev BO:FB AY:=IW 4 fS (fun _=>⟨rfl,rfl⟩)
structure CE where
  At:Int
  Val:Int
deriving DecidableEq,Inhabited
def AaN (x:CE):List Value:=[.int .i64 x.At,.int .i64 x.Val]
abbrev LS:FB CE:=IW 2 AaN (fun _=>⟨rfl,rfl⟩)
structure FY where
  Kind:Int
  A:Int
  B:Int
  K:Int
deriving DecidableEq,Inhabited
def aC (x:FY):List Value:=[.int .i64 x.Kind,.int .i64 x.A,.int .i64 x.B,.int .i64 x.K]
abbrev WJ:FB FY:=IW 4 aC (fun _=>⟨rfl,rfl⟩)
structure bQ where
  At:Int
  Val:AP
deriving DecidableEq,Inhabited
def AcA (x:bQ):List Value:=[.int .i64 x.At,.int .i64 x.Val.Hi,.int .u64 x.Val.Lo]
abbrev bX:FB bQ:=IW 3 AcA (fun _=>⟨rfl,rfl⟩)
structure Vec where
  N:Int
  Items:List CE
deriving DecidableEq,Inhabited
structure BL where
  Kind:Int
  From:Int
  To:Int
  Seq:Int
  Round:Int
  Vec:Vec
  Sums:List bQ
  Triples:List AC
  N:Int
  Over:Bool
deriving DecidableEq,Inhabited
def DD:FB BL where
  sz:=11
  rep I cs x:=∃ a6 c6 a7 c7 a8 c8,cs=[.int .i64 x.Kind,.int .i64 x.From,.int .i64 x.To,.int .i64 x.Seq,.int .i64 x.Round,.int .i64 x.Vec.N,.slice a6 x.Vec.Items.length c6,.slice a7 x.Sums.length c7,.slice a8 x.Triples.length c8,.int .i64 x.N,.bool x.Over]∧RepSl LS I a6 c6 x.Vec.Items∧RepSl bX I a7 c7 x.Sums∧RepSl AX I a8 c8 x.Triples
  mono hle:=fun ⟨a6,c6,a7,c7,a8,c8,e,h0,h1,h2⟩=>⟨a6,c6,a7,c7,a8,c8,e,h0.mono hle,h1.mono hle,h2.mono hle⟩
  len:=fun ⟨a6,c6,a7,c7,a8,c8,e,_,_,_⟩=>by rw [e]; rfl
  one:=fun ⟨a6,c6,a7,c7,a8,c8,e,_,_,_⟩=>by rw [e]; rfl
structure AK where
  Row:Int
  Col:Int
  Val:AP
deriving DecidableEq,Inhabited
def OI (x:AK):List Value:=[.int .i64 x.Row,.int .i64 x.Col,.int .i64 x.Val.Hi,.int .u64 x.Val.Lo]
abbrev CH:FB AK:=IW 4 OI (fun _=>⟨rfl,rfl⟩)
structure AZ where
  kind:Int
  stage:Int
deriving DecidableEq,Inhabited
def TA (x:AZ):List Value:=[.int .i64 x.kind,.int .i64 x.stage]
abbrev FD (x:AZ):Value:=.agg (TA x).toArray
structure AA where
  i:Int
  j:Int
  mask:Rows
  out:List BL
  parts:List (AZ×(List AC))
  at_:Int
  has:List AK
deriving DecidableEq,Inhabited
structure AF where
  room:Int
  row:List Int
  by_:List (Int×BL)
  often:List (Int×Int)
  sent:Int
  taken:Int
deriving DecidableEq,Inhabited
structure AB where
  p:BB
  stages:List AY
  workers:List (Option Nat)
  boxes:List ((Int×Int)×(Option Nat))
deriving DecidableEq,Inhabited
structure GQ where
  L:List FY
  Windows:Int
deriving DecidableEq,Inhabited
def iQ:FB GQ where
  sz:=2
  rep I cs x:=∃ a0 c0,cs=[.slice a0 x.L.length c0,.int .u8 x.Windows]∧RepSl WJ I a0 c0 x.L
  mono hle:=fun ⟨a0,c0,e,h0⟩=>⟨a0,c0,e,h0.mono hle⟩
  len:=fun ⟨a0,c0,e,_⟩=>by rw [e]; rfl
  one:=fun ⟨a0,c0,e,_⟩=>by rw [e]; rfl
structure HZ where
  Ring:Int
  Size:Int×Int
  L:List AC
  X:List CE
  Y:List CE
  F:List Int
  Others:Bool
deriving DecidableEq,Inhabited
structure NP where
  Ring:Int
  Size:Int×Int×Int
  A:List AC
  B:List AC
  M:List AC
deriving DecidableEq,Inhabited
def oC:FB NP where
  sz:=7
  rep I cs x:=∃ a4 c4 a5 c5 a6 c6,cs=[.int .i64 x.Ring,.int .u8 x.Size.1,.int .u8 x.Size.2.1,.int .u8 x.Size.2.2,.slice a4 x.A.length c4,.slice a5 x.B.length c5,.slice a6 x.M.length c6]∧RepSl AX I a4 c4 x.A∧RepSl AX I a5 c5 x.B∧RepSl AX I a6 c6 x.M
  mono hle:=fun ⟨a4,c4,a5,c5,a6,c6,e,h0,h1,h2⟩=>⟨a4,c4,a5,c5,a6,c6,e,h0.mono hle,h1.mono hle,h2.mono hle⟩
  len:=fun ⟨a4,c4,a5,c5,a6,c6,e,_,_,_⟩=>by rw [e]; rfl
  one:=fun ⟨a4,c4,a5,c5,a6,c6,e,_,_,_⟩=>by rw [e]; rfl
structure JT where
  T:NP
  R:Int
  C:Int
  Room:Int
deriving DecidableEq,Inhabited
def oD:FB JT where
  sz:=10
  rep I cs x:=∃ a4 c4 a5 c5 a6 c6,cs=[.int .i64 x.T.Ring,.int .u8 x.T.Size.1,.int .u8 x.T.Size.2.1,.int .u8 x.T.Size.2.2,.slice a4 x.T.A.length c4,.slice a5 x.T.B.length c5,.slice a6 x.T.M.length c6,.int .u8 x.R,.int .u8 x.C,.int .u8 x.Room]∧RepSl AX I a4 c4 x.T.A∧RepSl AX I a5 c5 x.T.B∧RepSl AX I a6 c6 x.T.M
  mono hle:=fun ⟨a4,c4,a5,c5,a6,c6,e,h0,h1,h2⟩=>⟨a4,c4,a5,c5,a6,c6,e,h0.mono hle,h1.mono hle,h2.mono hle⟩
  len:=fun ⟨a4,c4,a5,c5,a6,c6,e,_,_,_⟩=>by rw [e]; rfl
  one:=fun ⟨a4,c4,a5,c5,a6,c6,e,_,_,_⟩=>by rw [e]; rfl
def AG:BoxTy AA where
  A:=Option Addr×Nat×Option Addr×Nat×Option Addr×Nat×Option Addr×Nat×Nat×Option Addr×Nat
  fact I a x:=RepSl AE I (a.1) (a.2.1) x.mask.Start∧RepSl AE I (a.2.2.1) (a.2.2.2.1) x.mask.Col∧RepSl AE I (a.2.2.2.2.1) (a.2.2.2.2.2.1) x.mask.Val∧RepSl DD I (a.2.2.2.2.2.2.1) (a.2.2.2.2.2.2.2.1) x.out∧RepSl CH I (a.2.2.2.2.2.2.2.2.2.1) (a.2.2.2.2.2.2.2.2.2.2) x.has
  mono:=fun h ⟨h0,h1,h2,h3,h4⟩=>⟨h0.mono h,h1.mono h,h2.mono h,h3.mono h,h4.mono h⟩
  obj a x:=.cells #[.int .i64 x.i,.int .i64 x.j,.int .i64 x.mask.Rows,.int .i64 x.mask.Cols,.slice (a.1) x.mask.Start.length (a.2.1),.slice (a.2.2.1) x.mask.Col.length (a.2.2.2.1),.slice (a.2.2.2.2.1) x.mask.Val.length (a.2.2.2.2.2.1),.slice (a.2.2.2.2.2.2.1) x.out.length (a.2.2.2.2.2.2.2.1),.map (some (a.2.2.2.2.2.2.2.2.1)),.int .i64 x.at_,.slice (a.2.2.2.2.2.2.2.2.2.1) x.has.length (a.2.2.2.2.2.2.2.2.2.2)] 127 (0,0)
  more a x:=[OwnMap FD (SE AX) false (a.2.2.2.2.2.2.2.2.1) x.parts]
def AN:BoxTy AF where
  A:=Option Addr×Nat×Nat×Nat
  fact I a x:=True
  mono:=fun _ _=>trivial
  obj a x:=.cells #[.int .i64 x.room,.slice (a.1) x.row.length (a.2.1),.map (some (a.2.2.1)),.map (some (a.2.2.2)),.int .i64 x.sent,.int .i64 x.taken] 213 (0,0)
  more a x:=[OwnSl AE 3 (a.1) (a.2.1) x.row,OwnMap (Value.int .i64) DD true (a.2.2.1) x.by_,OwnMap (Value.int .i64) AE false (a.2.2.2) x.often]
def WK (a0:Int) (Q:Bool→Prop):Prop:=
  AQ (decide (1≤a0)) (Q (decide (a0≤5))) (Q false)
def XR (a0:AP) (a1:AP) (Q:AP→Prop):Prop:=
  AQ (decide ((IntKind.wrap .u64 (a0.Lo+a1.Lo))<a0.Lo)) (Q ({ Hi:=AJ ((AJ (a0.Hi+a1.Hi))+1),Lo:=IntKind.wrap .u64 (a0.Lo+a1.Lo) }:AP)) (Q ({ Hi:=AJ (a0.Hi+a1.Hi),Lo:=IntKind.wrap .u64 (a0.Lo+a1.Lo) }:AP))
def OJ (a0:AP) (a1:AP) (Q:Int→Prop):Prop:=
  FF (fun (k15:Unit→Prop)=>AQ (decide (a0.Hi<a1.Hi)) (Q (-1)) (AQ (a0.Hi==a1.Hi) (AQ (decide (a0.Lo<a1.Lo)) (Q (-1)) (k15 ())) (k15 ()))) fun _=>AQ (a0==a1) (Q 0) (Q 1)
def OV (a0:Bool) (Q:AP→Prop):Prop:=
  AQ a0 (Q ({ Hi:=0,Lo:=1 }:AP)) (Q ({ Hi:=0,Lo:=0 }:AP))
def XS (a0:Int) (a1:AP) (a2:AP) (Q:AP→Prop):Prop:=
  FF (fun (k18:Bool→Prop)=>AQ (a0==1) (k18 (a0==1)) (AQ (a0==3) (k18 (a0==3)) (k18 (a0==4)))) fun s17=>AQ s17 (OJ a2 a1 fun r24=>AQ (decide (r24<0)) (Q a2) (Q a1)) (AQ (a0==2) (AQ (!(a1==({ Hi:=0,Lo:=0 }:AP))) (OV true fun r31=>Q r31) (OV (!(a2==({ Hi:=0,Lo:=0 }:AP))) fun r35=>Q r35)) (AQ (a0==5) (XR a1 a2 fun r40=>Q r40) (Q ({ Hi:=0,Lo:=0 }:AP))))
def aD (a0:Int) (Q:AP→Prop):Prop:=
  AQ (decide (a0<0)) (Q ({ Hi:=(-1),Lo:=IntKind.wrap .u64 (a0) }:AP)) (Q ({ Hi:=0,Lo:=IntKind.wrap .u64 (a0) }:AP))
def PV (a0:AP) (Q:(Int×Bool)→Prop):Prop:=
  AQ (a0.Hi==0) (AQ (decide (0≤(AJ (a0.Lo)))) (Q (AJ (a0.Lo),true)) (AQ (a0.Hi==(-1)) (AQ (decide ((AJ (a0.Lo))<0)) (Q (AJ (a0.Lo),true)) (Q (0,false))) (Q (0,false)))) (AQ (a0.Hi==(-1)) (AQ (decide ((AJ (a0.Lo))<0)) (Q (AJ (a0.Lo),true)) (Q (0,false))) (Q (0,false)))
def OW (a0:DL) (a1:DL) (Q:Bool→Prop):Prop:=
  AQ (decide (a0.From<a1.From)) (Q true) (AQ (a0.From==a1.From) (Q (decide (a0.To<a1.To))) (Q false))
def OL (a0:Int) (a1:List DL) (Q:((List DL)×Int)→Prop):Prop:=
  WK a0 fun r12=>AQ (!r12) (Q (([]:List DL),8)) (BK (fun (s:(List DL)×(List AP)×Int) (next2668:((List DL)×(List AP)×Int)→Prop)=>match s with | (s2657,s2661,s2665)=>AQ (decide (s2665<(a1.length:Int))) (FF (fun (k2822:Int→Prop)=>BK (fun (s2870:Int) (next2871:Int→Prop)=>AQ (decide (s2870<(s2657.length:Int))) (BD s2657 s2870 fun x2879=>BD a1 s2665 fun x2884=>OW x2879 x2884 fun r2892=>AQ r2892 (next2871 (AJ (s2870+1))) (k2822 s2870)) (k2822 s2870)) 0) fun s2821=>BD a1 s2665 fun x2916=>aD x2916.W fun r2924=>FF (fun (k3057:Bool→Prop)=>AQ (decide (s2821<(s2657.length:Int))) (BD a1 s2665 fun x3062=>BD s2657 s2821 fun x3071=>OW x3062 x3071 fun r3075=>k3057 (!r3075)) (k3057 false)) fun s3056=>AQ s3056 (BD s2661 s2821 fun x3087=>XS a0 x3087 r2924 fun r3091=>BD s2661 s2821 fun x3096=>next2668 (s2657,(s2661.set s2821.toNat r3091),AJ (s2665+1))) (HY 24 s2657 ([({ From:=0,To:=0,W:=0 }:DL)]) fun _=>HY 16 s2661 ([({ Hi:=0,Lo:=0 }:AP)]) fun _=>BK (fun (s:(List DL)×(List AP)×Int) (next3290:((List DL)×(List AP)×Int)→Prop)=>match s with | (s3281,s3285,s3289)=>AQ (decide (s2821<s3289)) (BD s3281 (AJ (s3289 - 1)) fun x3299=>BD s3281 s3289 fun x3304=>BD s3285 (AJ (s3289 - 1)) fun x3307=>BD s3285 s3289 fun x3312=>next3290 ((s3281.set s3289.toNat x3299),(s3285.set s3289.toNat x3307),AJ (s3289 - 1))) (BD a1 s2665 fun x3317=>BD a1 s2665 fun x3326=>BD s3281 s2821 fun x3335=>BD s3285 s2821 fun x3340=>next2668 ((s3281.set s2821.toNat ({ From:=x3317.From,To:=x3326.To,W:=0 }:DL)),(s3285.set s2821.toNat r2924),AJ (s2665+1)))) ((s2657++([({ From:=0,To:=0,W:=0 }:DL)])),(s2661++([({ Hi:=0,Lo:=0 }:AP)])),AJ (((s2657++([({ From:=0,To:=0,W:=0 }:DL)])).length:Int) - 1)))) (BK (fun (s:(List DL)×Int) (next3416:((List DL)×Int)→Prop)=>match s with | (s3411,s3415)=>AQ (decide (s3415<(s3411.length:Int))) (BD s2661 s3415 fun x3432=>PV x3432 fun r3436=>AQ (!r3436.2) (Q (([]:List DL),12)) (BD s3411 s3415 fun x3443=>next3416 ((s3411.set s3415.toNat ({ From:=x3443.From,To:=x3443.To,W:=r3436.1 }:DL)),AJ (s3415+1)))) (Q (s3411,0))) (s2657,0))) (([]:List DL),([]:List AP),0))
def IA (a0:Int) (a1:Int) (Q:Int→Prop):Prop:=
  AQ (decide (a1<1)) (Q 0) (AQ (decide (a0<0)) (Q 0) (nzP a1 <| Q (a0.tmod a1)))
def JU (a0:Int) (a1:Int) (Q:Rows→Prop):Prop:=
  mkP 8 (AJ (a0+1)) 0 fun _=>Q ({ Rows:=a0,Cols:=a1,Start:=(List.replicate (AJ (a0+1)).toNat 0),Col:=([]:List Int),Val:=([]:List Int) }:Rows)
def SO (a0:Int) (a1:Int) (a2:List AC) (Q:Rows→Prop):Prop:=
  JU a0 a1 fun r38=>BK (fun (s:(List Int)×(List Int)×(List Int)×Int) (next403:((List Int)×(List Int)×(List Int)×Int)→Prop)=>match s with | (s390,s394,s398,s402)=>AQ (decide (s402<(a2.length:Int))) (BD a2 s402 fun x431=>HY 8 s394 ([x431.Col]) fun _=>BD a2 s402 fun x467=>HY 8 s398 ([x467.Val]) fun _=>BD a2 s402 fun x491=>BK (fun (s:(List Int)×Int) (next539:((List Int)×Int)→Prop)=>match s with | (s534,s538)=>AQ (decide (s538≤a0)) (BD s534 s538 fun x547=>BD s534 s538 fun x552=>next539 ((s534.set s538.toNat (AJ (x547+1))),AJ (s538+1))) (next403 (s534,(s394++([x431.Col])),(s398++([x467.Val])),AJ (s402+1)))) (s390,AJ (x491.Row+1))) (Q ({ Rows:=r38.Rows,Cols:=r38.Cols,Start:=s390,Col:=s394,Val:=s398 }:Rows))) (r38.Start,r38.Col,r38.Val,0)
def TS (a0:Int) (a1:Int) (a2:Int) (a3:List AC) (Q:(Rows×Int)→Prop):Prop:=
  WK a0 fun r22=>AQ (!r22) (Q (({ Rows:=0,Cols:=0,Start:=([]:List Int),Col:=([]:List Int),Val:=([]:List Int) }:Rows),8)) (AQ (decide (a1<0)) (Q (({ Rows:=0,Cols:=0,Start:=([]:List Int),Col:=([]:List Int),Val:=([]:List Int) }:Rows),3)) (AQ (decide (4096<a1)) (Q (({ Rows:=0,Cols:=0,Start:=([]:List Int),Col:=([]:List Int),Val:=([]:List Int) }:Rows),3)) (AQ (decide (a2<0)) (Q (({ Rows:=0,Cols:=0,Start:=([]:List Int),Col:=([]:List Int),Val:=([]:List Int) }:Rows),3)) (AQ (decide (4096<a2)) (Q (({ Rows:=0,Cols:=0,Start:=([]:List Int),Col:=([]:List Int),Val:=([]:List Int) }:Rows),3)) (AQ (decide (65536<(a3.length:Int))) (Q (({ Rows:=0,Cols:=0,Start:=([]:List Int),Col:=([]:List Int),Val:=([]:List Int) }:Rows),5)) (BK (fun (s:(List DL)×Int) (next662:((List DL)×Int)→Prop)=>match s with | (s656,s660)=>AQ (decide (s660<(a3.length:Int))) (BD a3 s660 fun x708=>AQ (decide (x708.Row<0)) (Q (({ Rows:=0,Cols:=0,Start:=([]:List Int),Col:=([]:List Int),Val:=([]:List Int) }:Rows),3)) (BD a3 s660 fun x718=>AQ (decide (a1≤x718.Row)) (Q (({ Rows:=0,Cols:=0,Start:=([]:List Int),Col:=([]:List Int),Val:=([]:List Int) }:Rows),3)) (BD a3 s660 fun x728=>AQ (decide (x728.Col<0)) (Q (({ Rows:=0,Cols:=0,Start:=([]:List Int),Col:=([]:List Int),Val:=([]:List Int) }:Rows),3)) (BD a3 s660 fun x738=>AQ (decide (a2≤x738.Col)) (Q (({ Rows:=0,Cols:=0,Start:=([]:List Int),Col:=([]:List Int),Val:=([]:List Int) }:Rows),3)) (BD a3 s660 fun x749=>BD a3 s660 fun x758=>BD a3 s660 fun x767=>HY 24 s656 ([({ From:=x749.Row,To:=x758.Col,W:=x767.Val }:DL)]) fun _=>next662 ((s656++([({ From:=x749.Row,To:=x758.Col,W:=x767.Val }:DL)])),AJ (s660+1))))))) (OL a0 s656 fun r801=>AQ (r801.2 != 0) (Q (({ Rows:=0,Cols:=0,Start:=([]:List Int),Col:=([]:List Int),Val:=([]:List Int) }:Rows),r801.2)) (BK (fun (s:(List AC)×Int) (next878:((List AC)×Int)→Prop)=>match s with | (s872,s876)=>AQ (decide (s876<(r801.1.length:Int))) (BD r801.1 s876 fun x887=>BD r801.1 s876 fun x892=>BD r801.1 s876 fun x895=>HY 24 s872 ([({ Row:=x887.From,Col:=x892.To,Val:=x895.W }:AC)]) fun _=>next878 ((s872++([({ Row:=x887.From,Col:=x892.To,Val:=x895.W }:AC)])),AJ (s876+1))) (SO a1 a2 s872 fun r908=>Q (r908,0))) (([]:List AC),0)))) (([]:List DL),0)))))))
def IR (a0:Int) (a1:Int) (Q:Bool→Prop):Prop:=
  AQ (decide (1≤a0)) (Q (decide (a0≤a1))) (Q false)
def PW (a0:Int) (Q:Bool→Prop):Prop:=
  AQ (decide (0<a0)) (Q (decide (a0<6))) (Q false)
def GA (a0:Int) (a1:Int) (Q:Bool→Prop):Prop:=
  AQ (decide (0≤a0)) (Q (decide (a0≤a1))) (Q false)
def HD (a0:Int) (Q:Bool→Prop):Prop:=
  Q (a0 != a0)
def PX (a0:Int) (a1:Int) (Q:Bool→Prop):Prop:=
  HD a0 fun r1=>AQ r1 (HD a1 fun r6=>AQ (!r6) (Q true) (Q (decide (a0<a1)))) (Q (decide (a0<a1)))
def FG (a0:List Int) (Q:Bool→Prop):Prop:=
  BK (fun (s57:Int) (next58:Int→Prop)=>AQ (decide (0<s57)) (BD a0 s57 fun x64=>BD a0 (AJ (s57 - 1)) fun x73=>PX x64 x73 fun r81=>AQ r81 (Q false) (next58 (AJ (s57 - 1)))) (Q true)) (AJ ((a0.length:Int) - 1))
def eS (a0:List Int) (a1:Int) (Q:Bool→Prop):Prop:=
  BK (fun (s68:Int) (next69:Int→Prop)=>AQ (decide (s68<(a0.length:Int))) (BD a0 s68 fun x84=>GA x84 (AJ (a1 - 1)) fun r92=>AQ (!r92) (Q false) (AQ (decide (0<s68)) (BD a0 (AJ (s68 - 1)) fun x99=>AQ (decide (x84≤x99)) (Q false) (next69 (AJ (s68+1)))) (next69 (AJ (s68+1))))) (Q true)) 0
def HL (a0:Rows) (Q:Bool→Prop):Prop:=
  GA a0.Rows 4096 fun r27=>AQ (!r27) (Q false) (GA a0.Cols 4096 fun r32=>AQ (!r32) (Q false) (AQ ((a0.Start.length:Int) != (AJ (a0.Rows+1))) (Q false) (AQ ((a0.Val.length:Int) != (a0.Col.length:Int)) (Q false) (AQ (decide (65536<(a0.Col.length:Int))) (Q false) (BD a0.Start 0 fun x66=>AQ (x66 != 0) (Q false) (BD a0.Start a0.Rows fun x76=>AQ (x76 != (a0.Col.length:Int)) (Q false) (FG a0.Start fun r85=>AQ (!r85) (Q false) (BK (fun (s163:Int) (next164:Int→Prop)=>AQ (decide (s163<a0.Rows)) (BD a0.Start s163 fun x170=>BD a0.Start (AJ (s163+1)) fun x179=>slP a0.Col x170 x179 fun _=>eS ((a0.Col.take x179.toNat).drop x170.toNat) a0.Cols fun r197=>AQ (!r197) (Q false) (next164 (AJ (s163+1)))) (Q true)) 0))))))))
def GR (a0:BB) (Q:Int→Prop):Prop:=
  PW a0.Ring fun r36=>AQ (!r36) (Q 8) (FF (fun (k70:Bool→Prop)=>HL a0.A fun r71=>AQ (!r71) (k70 true) (HL a0.B fun r76=>AQ (!r76) (k70 true) (HL a0.Mask fun r81=>k70 (!r81)))) fun s69=>AQ s69 (Q 7) (FF (fun (k93:Bool→Prop)=>AQ (a0.A.Cols != a0.B.Rows) (k93 (a0.A.Cols != a0.B.Rows)) (AQ (a0.Mask.Rows != a0.A.Rows) (k93 (a0.Mask.Rows != a0.A.Rows)) (k93 (a0.Mask.Cols != a0.B.Cols)))) fun s92=>AQ s92 (Q 4) (IR a0.R 8 fun r104=>AQ (!r104) (Q 3) (IR a0.C 8 fun r109=>AQ (!r109) (Q 3) (IR a0.Room 64 fun r114=>AQ (!r114) (Q 3) (Q 0))))))
def NQ (a0:Int) (Q:Bool→Prop):Prop:=
  AQ (decide (0<a0)) (Q (decide (a0≤8))) (Q false)
def RA (a0:Int) (a1:Int) (Q:Bool→Prop):Prop:=
  AQ (decide (0≤a0)) (AQ (decide (a0≤4096)) (NQ a1 fun r3=>Q r3) (Q false)) (Q false)
def FR (a0:Int) (a1:Int) (a2:Int) (Q:Int→Prop):Prop:=
  RA a0 a1 fun r6=>AQ (!r6) (Q 0) (nzP a1 <| Q (AJ ((AJ ((if a1<(if 0 > a2 then 0 else a2) then a1 else (if 0 > a2 then 0 else a2))*a0)).tdiv a1)))
def aF (a0:Int) (a1:Int) (a2:Int) (Q:Int→Prop):Prop:=
  RA a0 a1 fun r8=>AQ (!r8) (Q (-1)) (AQ (decide (a2<0)) (Q (-1)) (AQ (decide (a0≤a2)) (Q (-1)) (nzP a0 <| BK (fun (s30:Int) (next31:Int→Prop)=>FR a0 a1 (AJ (s30+1)) fun r34=>AQ (decide (r34≤a2)) (next31 (AJ (s30+1))) (Q s30)) (AJ ((AJ (a2*a1)).tdiv a0)))))
def TB (a0:Int) (a1:Int) (a2:Int) (Q:(Int×Int×Int)→Prop):Prop:=
  Q (a1,a0,a2)
def PJ (o0:Nat) (o1:Int) (o2:Int) (o3:Int) (o4:List AY) (o5:Int) (o6:Int) (o7:Int) (o8:Int) (Y:Nat→Int→Int→Int→(List AY)→Int→Int→((Bool×Nat×(List AY)×Int)→Prop)→Prop) (Q:(Nat×(List AY)×Int)→Prop):Prop:=
  BK (fun (s:(List Int)×Int) (next145:((List Int)×Int)→Prop)=>match s with | (s139,s143)=>AQ (decide (s143<o6)) (FR o7 o6 (AJ (s143+1)) fun r150=>HY 8 s139 ([r150]) fun _=>next145 ((s139++([r150])),AJ (s143+1))) (BK (fun (s:(List Int)×Int) (next264:((List Int)×Int)→Prop)=>match s with | (s259,s263)=>AQ (decide (s263<o8)) (FR o7 o8 (AJ (s263+1)) fun r270=>HY 8 s259 ([r270]) fun _=>next264 ((s259++([r270])),AJ (s263+1))) (xN s259 fun y296=>BK (fun (s:(List AY)×Int×Int×Int×Nat) (next396:((List AY)×Int×Int×Int×Nat)→Prop)=>match s with | (s388,s392,s393,s394,s395)=>AQ (decide (s394<(y296.length:Int))) (BD y296 s394 fun x409=>AQ (decide (s393<x409)) (Y s395 o1 o2 o3 s388 s392 x409 fun r420=>AQ (!r420.1) (Q (r420.2.1,r420.2.2.1,r420.2.2.2)) (next396 (r420.2.2.1,r420.2.2.2,x409,AJ (s394+1),r420.2.1))) (next396 (s388,s392,x409,AJ (s394+1),s395))) (Q (s395,s388,s392))) (o4,o5,0,0,o0))) (s139,0))) (([]:List Int),0)
def KP (a0:Int) (a1:Int) (a2:Int) (Q:(List AY)→Prop):Prop:=
  RA a0 a1 fun r26=>AQ (!r26) (Q ([]:List AY)) (RA a0 a2 fun r31=>AQ (!r31) (Q ([]:List AY)) (TB a0 a1 a2 fun r63=>PJ 0 a0 a1 a2 ([]:List AY) 0 r63.1 r63.2.1 r63.2.2 (fun (y132:Nat) (y133:Int) (y135:Int) (y137:Int) (y139:List AY) (y145:Int) (x147:Int) (Qy:(Bool×Nat×(List AY)×Int)→Prop)=>eqP y132 0 (aF y133 y135 y145 fun r148=>aF y133 y137 y145 fun r152=>HY 32 y139 ([({ From:=y145,To:=x147,Row:=r148,Col:=r152 }:AY)]) fun _=>Qy (true,0,(y139++([({ From:=y145,To:=x147,Row:=r148,Col:=r152 }:AY)])),x147))) fun r166=>eqP r166.1 0 (Q r166.2.1)))
def TT (a0:Int) (a1:Int) (Q:Int→Prop):Prop:=
  NQ a0 fun r1=>AQ (!r1) (Q (-1)) (AQ (decide (a1<0)) (Q (-1)) (AQ (decide ((AJ (a0*8))≤a1)) (Q (-1)) (nzP a0 <| Q (AJ (a1.tdiv a0)))))
def WL (a0:Int) (a1:Int) (Q:Int→Prop):Prop:=
  TT a0 a1 fun r1=>AQ (decide (r1<0)) (Q (-1)) (nzP a0 <| Q (a1.tmod a0))
def RC (a0:Int) (Q:Bool→Prop):Prop:=
  AQ (decide (1≤a0)) (Q (decide (a0≤8))) (Q false)
def UU (a0:Int) (a1:Int) (a2:Int) (a3:Int) (Q:Bool→Prop):Prop:=
  RC a0 fun r1=>AQ r1 (RC a1 fun r6=>AQ r6 (AQ (decide (0≤a2)) (AQ (decide (a2<a0)) (AQ (decide (0≤a3)) (Q (decide (a3<a1))) (Q false)) (Q false)) (Q false)) (Q false)) (Q false)
def TU (a0:Int) (a1:Int) (Q:Rows→Prop):Prop:=
  mkP 8 (AJ (a0+1)) 0 fun _=>Q ({ Rows:=a0,Cols:=a1,Start:=(List.replicate (AJ (a0+1)).toNat 0),Col:=([]:List Int),Val:=([]:List Int) }:Rows)
def QM (a0:Int) (a1:Int) (a2:List AC) (Q:Rows→Prop):Prop:=
  TU a0 a1 fun r38=>BK (fun (s:(List Int)×(List Int)×(List Int)×Int) (next427:((List Int)×(List Int)×(List Int)×Int)→Prop)=>match s with | (s414,s418,s422,s426)=>AQ (decide (s426<(a2.length:Int))) (BD a2 s426 fun x445=>BD s414 (AJ (x445.Row+1)) fun x464=>BD s414 (AJ (x445.Row+1)) fun x469=>HY 8 s418 ([x445.Col]) fun _=>HY 8 s422 ([x445.Val]) fun _=>next427 ((s414.set ((AJ (x445.Row+1)).toNat) (AJ (x464+1))),(s418++([x445.Col])),(s422++([x445.Val])),AJ (s426+1))) (BK (fun (s:(List Int)×Int) (next535:((List Int)×Int)→Prop)=>match s with | (s530,s534)=>AQ (decide (s534<a0)) (BD s530 (AJ (s534+1)) fun x546=>BD s530 s534 fun x551=>BD s530 (AJ (s534+1)) fun x554=>next535 ((s530.set ((AJ (s534+1)).toNat) (AJ (x546+x551))),AJ (s534+1))) (Q ({ Rows:=r38.Rows,Cols:=r38.Cols,Start:=s530,Col:=s418,Val:=s422 }:Rows))) (s414,0))) (r38.Start,r38.Col,r38.Val,0)
def TV (a0:Rows) (Q:Rows→Prop):Prop:=
  HL a0 fun r27=>AQ r27 (Q a0) (TU 0 0 fun r32=>Q r32)
def RE (a0:Int×Int) (a1:Int) (Q:(Int×Int)→Prop):Prop:=
  AQ (decide ((if a1<a0.2 then a1 else a0.2)≤(if 0 > a0.1 then 0 else a0.1))) (Q ((if 0 > a0.1 then 0 else a0.1),0)) (Q ((if 0 > a0.1 then 0 else a0.1),AJ ((if a1<a0.2 then a1 else a0.2) - (if 0 > a0.1 then 0 else a0.1))))
def WM (a0:Rows) (a1:Int) (Q:((List Int)×(List Int))→Prop):Prop:=
  BD a0.Start a1 fun x39=>BD a0.Start (AJ (a1+1)) fun x48=>slP a0.Col x39 x48 fun _=>slP a0.Val x39 x48 fun _=>Q (((a0.Col.take x48.toNat).drop x39.toNat),((a0.Val.take x48.toNat).drop x39.toNat))
def eT (a0:Rows) (a1:Int) (Q:(List CE)→Prop):Prop:=
  TV a0 fun r33=>GA a1 (AJ (r33.Rows - 1)) fun r54=>AQ (!r54) (Q ([]:List CE)) (WM r33 a1 fun r73=>BK (fun (s:(List CE)×Int) (next161:((List CE)×Int)→Prop)=>match s with | (s155,s159)=>AQ (decide (s159<(r73.1.length:Int))) (BD r73.1 s159 fun x168=>BD r73.2 s159 fun x177=>HY 16 s155 ([({ At:=x168,Val:=x177 }:CE)]) fun _=>next161 ((s155++([({ At:=x168,Val:=x177 }:CE)])),AJ (s159+1))) (Q s155)) (([]:List CE),0))
def LC (a0:Rows) (a1:Int×Int) (a2:Int×Int) (Q:Rows→Prop):Prop:=
  TV a0 fun r51=>RE a1 r51.Rows fun r71=>RE a2 r51.Cols fun r79=>BK (fun (s:(List AC)×Int) (next446:((List AC)×Int)→Prop)=>match s with | (s440,s444)=>AQ (decide (s444<r71.2)) (eT r51 (AJ (r71.1+s444)) fun r464=>BK (fun (s:(List AC)×Int) (next576:((List AC)×Int)→Prop)=>match s with | (s571,s575)=>AQ (decide (s575<(r464.length:Int))) (BD r464 s575 fun x595=>FF (fun (k608:Bool→Prop)=>AQ (decide (r79.1≤x595.At)) (k608 (decide ((AJ (x595.At - r79.1))<r79.2))) (k608 false)) fun s607=>AQ s607 (HY 24 s571 ([({ Row:=s444,Col:=AJ (x595.At - r79.1),Val:=x595.Val }:AC)]) fun _=>next576 ((s571++([({ Row:=s444,Col:=AJ (x595.At - r79.1),Val:=x595.Val }:AC)])),AJ (s575+1))) (next576 (s571,AJ (s575+1)))) (next446 (s571,AJ (s444+1)))) (s440,0)) (QM r71.2 r79.2 s440 fun r627=>Q r627)) (([]:List AC),0)
def MI (a0:Int) (a1:Int) (a2:Int) (Q:(Int×Int)→Prop):Prop:=
  FR a0 a1 a2 fun r5=>FR a0 a1 (AJ (a2+1)) fun r9=>Q (r5,r9)
def QN (a0:Rows) (a1:Int) (a2:Int) (a3:Int) (a4:Int) (Q:Rows→Prop):Prop:=
  HL a0 fun r69=>AQ (!r69) (LC ({ Rows:=0,Cols:=0,Start:=([]:List Int),Col:=([]:List Int),Val:=([]:List Int) }:Rows) (0,0) (0,0) fun r74=>Q r74) (UU a1 a2 a3 a4 fun r90=>AQ (!r90) (LC ({ Rows:=0,Cols:=0,Start:=([]:List Int),Col:=([]:List Int),Val:=([]:List Int) }:Rows) (0,0) (0,0) fun r95=>Q r95) (MI a0.Rows a1 a3 fun r111=>MI a0.Cols a2 a4 fun r115=>LC a0 r111 r115 fun r119=>Q r119))
def LU (a0:Rows) (Q:(List AC)→Prop):Prop:=
  TV a0 fun r33=>BK (fun (s:(List AC)×Int) (next392:((List AC)×Int)→Prop)=>match s with | (s386,s390)=>AQ (decide (s390<r33.Rows)) (WM r33 s390 fun r413=>BK (fun (s:(List AC)×Int) (next518:((List AC)×Int)→Prop)=>match s with | (s513,s517)=>AQ (decide (s517<(r413.1.length:Int))) (BD r413.1 s517 fun x535=>BD r413.2 s517 fun x544=>HY 24 s513 ([({ Row:=s390,Col:=x535,Val:=x544 }:AC)]) fun _=>next518 ((s513++([({ Row:=s390,Col:=x535,Val:=x544 }:AC)])),AJ (s517+1))) (next392 (s513,AJ (s390+1)))) (s386,0)) (Q s386)) (([]:List AC),0)
def IB (a0:Int) (a1:Int) (a2:Int) (Q:(Int×Int)→Prop):Prop:=
  FR a0 a1 a2 fun r5=>FR a0 a1 (AJ (a2+1)) fun r9=>Q (r5,r9)
def LV (a0:Int) (a1:Int) (Q:Bool→Prop):Prop:=
  AQ (decide (0≤a0)) (Q (decide (a0≤a1))) (Q false)
def RF (a0:FY) (Q:Bool→Prop):Prop:=
  LV a0.A 63 fun r20=>AQ (!r20) (Q false) (LV a0.B 63 fun r25=>AQ (!r25) (Q false) (LV a0.K 63 fun r30=>AQ (!r30) (Q false) (AQ (decide (0<a0.Kind)) (Q (decide (a0.Kind≤5))) (Q false))))
def EY (a0:List CE) (Q:(List CE)→Prop):Prop:=
  AaH a0 (Q ([]:List CE)) (HY 16 ([]:List CE) a0 fun _=>Q (([]:List CE)++a0))
def FO (a0:List bQ) (Q:(List bQ)→Prop):Prop:=
  AaH a0 (Q ([]:List bQ)) (HY 24 ([]:List bQ) a0 fun _=>Q (([]:List bQ)++a0))
def DZ (a0:List AC) (Q:(List AC)→Prop):Prop:=
  AaH a0 (Q ([]:List AC)) (HY 24 ([]:List AC) a0 fun _=>Q (([]:List AC)++a0))
def WN (a0:BL) (Q:BL→Prop):Prop:=
  EY a0.Vec.Items fun r37=>FO a0.Sums fun r47=>DZ a0.Triples fun r58=>Q ({ Kind:=a0.Kind,From:=a0.From,To:=a0.To,Seq:=a0.Seq,Round:=a0.Round,Vec:=({ N:=a0.Vec.N,Items:=r37 }:Vec),Sums:=r47,Triples:=r58,N:=a0.N,Over:=a0.Over }:BL)
def MJ (a0:Int) (Q:AP→Prop):Prop:=
  Q ({ Hi:=shr .i64 a0 63,Lo:=IntKind.wrap .u64 (a0) }:AP)
def JV (a0:List Int) (Q:Int→Prop):Prop:=
  BK (fun (s31:Int) (next32:Int→Prop)=>AQ (decide (s31<(a0.length:Int))) (BD a0 s31 fun x38=>AQ (x38 != 0) (Q x38) (next32 (AJ (s31+1)))) (Q 0)) 0
def LD (a0:Int) (Q:Bool→Prop):Prop:=
  Q (a0 != a0)
def JE (a0:Int) (a1:Int) (Q:Int→Prop):Prop:=
  LD a0 fun r5=>LD a1 fun r13=>AQ r5 (AQ r13 (Q 0) (Q (-1))) (AQ r13 (Q 1) (AQ (decide (a0<a1)) (Q (-1)) (AQ (decide (a1<a0)) (Q 1) (Q 0))))
def KE (a0:Int) (Q:Bool→Prop):Prop:=
  Q (a0 != a0)
def IC (a0:Int) (a1:Int) (Q:Int→Prop):Prop:=
  KE a0 fun r5=>KE a1 fun r13=>AQ r5 (AQ r13 (Q 0) (Q (-1))) (AQ r13 (Q 1) (AQ (decide (a0<a1)) (Q (-1)) (AQ (decide (a1<a0)) (Q 1) (Q 0))))
def PY (a0:AP) (a1:AP) (Q:Int→Prop):Prop:=
  JE a0.Hi a1.Hi fun r9=>IC a0.Lo a1.Lo fun r13=>JV ([r9,r13]:List Int) fun r22=>Q r22
def OX (a0:AP) (a1:AP) (Q:AP→Prop):Prop:=
  PY a0 a1 fun r13=>AQ (decide (r13≤0)) (Q a0) (Q a1)
def LL (a0:Bool) (Q:AP→Prop):Prop:=
  AQ a0 (MJ 1 fun r6=>Q r6) (Q ({ Hi:=0,Lo:=0 }:AP))
def RG (a0:Bool) (Q:Int→Prop):Prop:=
  AQ a0 (Q 1) (Q 0)
def WO (a0:AP) (a1:AP) (Q:AP→Prop):Prop:=
  RG (decide ((IntKind.wrap .u64 (a0.Lo+a1.Lo))<a1.Lo)) fun r13=>Q ({ Hi:=AJ (IntKind.wrap .u64 ((IntKind.wrap .u64 ((IntKind.wrap .u64 (a0.Hi))+(IntKind.wrap .u64 (a1.Hi))))+r13)),Lo:=IntKind.wrap .u64 (a0.Lo+a1.Lo) }:AP)
def TW (a0:Int) (a1:AP) (a2:AP) (Q:AP→Prop):Prop:=
  FF (fun (k18:Bool→Prop)=>AQ (a0==1) (k18 (a0==1)) (AQ (a0==3) (k18 (a0==3)) (k18 (a0==4)))) fun s17=>AQ s17 (OX a1 a2 fun r24=>Q r24) (AQ (a0==2) (AQ (!(a1==a2)) (LL true fun r30=>Q r30) (LL (!(a1==({ Hi:=0,Lo:=0 }:AP))) fun r34=>Q r34)) (AQ (a0==5) (WO a1 a2 fun r39=>Q r39) (Q ({ Hi:=0,Lo:=0 }:AP))))
def WP (a0:AP) (Q:(Int×Bool)→Prop):Prop:=
  MJ (AJ (a0.Lo)) fun r5=>AQ (!(r5==a0)) (Q (0,false)) (Q (AJ (a0.Lo),true))
def LW (a0:Int) (a1:AP) (Q:(Int×Bool)→Prop):Prop:=
  WP a1 fun r3=>Q (r3.1,r3.2)
def CY (a0:Int) (a1:Int) (Q:Int→Prop):Prop:=
  HD a0 fun r5=>HD a1 fun r13=>AQ r5 (AQ r13 (Q 0) (Q (-1))) (AQ r13 (Q 1) (AQ (decide (a0<a1)) (Q (-1)) (AQ (decide (a1<a0)) (Q 1) (Q 0))))
def XT (a0:AC) (a1:AC) (Q:Int→Prop):Prop:=
  CY a0.Row a1.Row fun r9=>CY a0.Col a1.Col fun r13=>JV ([r9,r13]:List Int) fun r22=>Q r22
def RH (a0:Int) (a1:List AC) (Q:((List AC)×Int)→Prop):Prop:=
  BK (fun (s:(List ((Int×Int)×AP))×Int) (next295:((List ((Int×Int)×AP))×Int)→Prop)=>match s with | (s293,s294)=>AQ (decide (s294<(a1.length:Int))) (BD a1 s294 fun x312=>MJ x312.Val fun r332=>kW s293 (x312.Row,x312.Col) ({ Hi:=0,Lo:=0 }:AP) fun r338 t343=>AQ t343 (TW a0 r338 r332 fun r347=>next295 ((ET (x312.Row,x312.Col) r347 s293),AJ (s294+1))) (next295 ((ET (x312.Row,x312.Col) r332 s293),AJ (s294+1)))) (BK (fun (s:(List AC)×(List ((Int×Int)×AP))) (next463:((List AC)×(List ((Int×Int)×AP)))→Prop)=>match s with | (s457,s461)=>sZ s461 (tG XT s457 fun y494=>Q (y494,0)) (fun p481 l482=>LW a0 p481.2 fun r515=>AQ (!r515.2) (Q (([]:List AC),12)) (HY 24 s457 ([({ Row:=p481.1.1,Col:=p481.1.2,Val:=r515.1 }:AC)]) fun _=>next463 ((s457++([({ Row:=p481.1.1,Col:=p481.1.2,Val:=r515.1 }:AC)])),l482)))) (([]:List AC),s293))) (([]:List ((Int×Int)×AP)),0)
def UV (o0:Int) (o1:Int) (a0:AC) (Q:Bool→Prop):Prop:=
  GA a0.Row (AJ (o0 - 1)) fun r9=>AQ (!r9) (Q true) (GA a0.Col (AJ (o1 - 1)) fun r14=>Q (!r14))
def CV (o0:Int) (o1:Int) (a0:List AC) (Q:Int→Prop):Prop:=
  BK (fun (s49:Int) (next50:Int→Prop)=>AQ (decide (s49<(a0.length:Int))) (BD a0 s49 fun x56=>UV o0 o1 x56 fun r70=>AQ r70 (Q s49) (next50 (AJ (s49+1)))) (Q (-1))) 0
def CN (o0:Int) (o1:Int) (a0:List AC) (Q:Bool→Prop):Prop:=
  CV o0 o1 a0 fun r14=>Q (decide (0≤r14))
def RJ (a0:Int) (a1:Int) (a2:Int) (a3:List AC) (Q:(Rows×Int)→Prop):Prop:=
  PW a0 fun r80=>AQ (!r80) (Q (({ Rows:=0,Cols:=0,Start:=([]:List Int),Col:=([]:List Int),Val:=([]:List Int) }:Rows),8)) (FF (fun (k104:Bool→Prop)=>GA a1 4096 fun r105=>AQ (!r105) (k104 true) (GA a2 4096 fun r110=>k104 (!r110))) fun s103=>AQ s103 (Q (({ Rows:=0,Cols:=0,Start:=([]:List Int),Col:=([]:List Int),Val:=([]:List Int) }:Rows),3)) (AQ (decide (65536<(a3.length:Int))) (Q (({ Rows:=0,Cols:=0,Start:=([]:List Int),Col:=([]:List Int),Val:=([]:List Int) }:Rows),5)) (CN a1 a2 a3 fun r124=>AQ r124 (Q (({ Rows:=0,Cols:=0,Start:=([]:List Int),Col:=([]:List Int),Val:=([]:List Int) }:Rows),3)) (RH a0 a3 fun r138=>AQ (r138.2 != 0) (Q (({ Rows:=0,Cols:=0,Start:=([]:List Int),Col:=([]:List Int),Val:=([]:List Int) }:Rows),r138.2)) (QM a1 a2 r138.1 fun r150=>Q (r150,0))))))
def XU (a0:List Rows) (Q:(List Rows)→Prop):Prop:=
  BK (fun (s:(List Rows)×Int) (next180:((List Rows)×Int)→Prop)=>match s with | (s174,s178)=>AQ (decide (s178<(a0.length:Int))) (BD a0 s178 fun x206=>HL x206 fun r225=>AQ (!r225) (LC x206 (0,0) (0,0) fun r230=>HY 88 s174 ([r230]) fun _=>next180 ((s174++([r230])),AJ (s178+1))) (HY 88 s174 ([x206]) fun _=>next180 ((s174++([x206])),AJ (s178+1)))) (Q s174)) (([]:List Rows),0)
def QO (a0:Rows) (a1:Int) (Q:((List Int)×(List Int))→Prop):Prop:=
  BD a0.Start a1 fun x39=>BD a0.Start (AJ (a1+1)) fun x48=>slP a0.Col x39 x48 fun _=>slP a0.Val x39 x48 fun _=>Q (((a0.Col.take x48.toNat).drop x39.toNat),((a0.Val.take x48.toNat).drop x39.toNat))
def GS (a0:Int) (Q:(Int×Int)→Prop):Prop:=
  Q (shr .u64 (shl .u64 a0 32) 32,shr .u64 a0 32)
def PZ (a0:Int) (a1:Int) (Q:AP→Prop):Prop:=
  GS a0 fun r17=>GS a1 fun r21=>GS (IntKind.wrap .u64 (r17.1*r21.1)) fun r40=>GS (IntKind.wrap .u64 ((IntKind.wrap .u64 (r17.2*r21.1))+r40.2)) fun r44=>GS (IntKind.wrap .u64 ((IntKind.wrap .u64 (r17.1*r21.2))+r44.1)) fun r55=>GS (IntKind.wrap .u64 (r17.1*r21.1)) fun r61=>Q ({ Hi:=AJ (IntKind.wrap .u64 ((IntKind.wrap .u64 ((IntKind.wrap .u64 (r17.2*r21.2))+r44.2))+r55.2)),Lo:=bor .u64 (shl .u64 r55.1 32) r61.1 }:AP)
def TX (a0:Int) (Q:Int→Prop):Prop:=
  AQ (decide (a0<0)) (Q (IntKind.wrap .u64 (0 - (IntKind.wrap .u64 (a0))))) (Q (IntKind.wrap .u64 (a0)))
def aG (a0:AP) (a1:AP) (Q:AP→Prop):Prop:=
  RG (decide (a0.Lo<a1.Lo)) fun r13=>Q ({ Hi:=AJ (IntKind.wrap .u64 ((IntKind.wrap .u64 ((IntKind.wrap .u64 (a0.Hi)) - (IntKind.wrap .u64 (a1.Hi)))) - r13)),Lo:=IntKind.wrap .u64 (a0.Lo - a1.Lo) }:AP)
def aH (a0:Int) (a1:Int) (Q:AP→Prop):Prop:=
  TX a0 fun r19=>TX a1 fun r23=>PZ r19 r23 fun r27=>AQ (!((decide (a0<0))==(decide (a1<0)))) (aG ({ Hi:=0,Lo:=0 }:AP) r27 fun r34=>Q r34) (Q r27)
def aI (a0:Int) (a1:Int) (a2:Int) (Q:AP→Prop):Prop:=
  AQ (a0==2) (AQ (a1 != 0) (LL (a2 != 0) fun r22=>Q r22) (LL false fun r26=>Q r26)) (AQ (a0==5) (aH a1 a2 fun r31=>Q r31) (FF (fun (k55:Unit→Prop)=>PW a0 fun r56=>AQ r56 (AQ (decide (4611686018427387904≤(if a2 > a1 then a2 else a1))) (MJ 4611686018427387904 fun r62=>Q r62) (k55 ())) (k55 ())) fun _=>FF (fun (k90:(Int×Int)→Prop)=>AQ (a0==1) (MJ a1 fun r93=>k90 (r93.Hi,r93.Lo)) (AQ (a0==4) (k90 (0,0)) (AQ (a0==3) (MJ a1 fun r99=>Q r99) (Q ({ Hi:=0,Lo:=0 }:AP))))) fun (s88,s89)=>MJ 4611686018427387904 fun r106=>MJ a2 fun r110=>WO ({ Hi:=s88,Lo:=s89 }:AP) r110 fun r114=>OX r106 r114 fun r118=>Q r118))
def QA (o0:List (Int×Bool)) (a0:Int) (a1:Rows) (a2:Rows) (a3:Int) (Q:(List (Int×AP))→Prop):Prop:=
  QO a1 a3 fun r46=>BK (fun (s:(List (Int×AP))×Int) (next759:((List (Int×AP))×Int)→Prop)=>match s with | (s757,s758)=>AQ (decide (s758<(r46.1.length:Int))) (BD r46.1 s758 fun x775=>QO a2 x775 fun r798=>BK (fun (s:(List (Int×AP))×Int) (next1011:((List (Int×AP))×Int)→Prop)=>match s with | (s1009,s1010)=>AQ (decide (s1010<(r798.1.length:Int))) (BD r798.1 s1010 fun x1028=>uR o0 x1028 false fun r1043=>AQ (!r1043) (next1011 (s1009,AJ (s1010+1))) (BD r46.2 s758 fun x1075=>BD r798.2 s1010 fun x1084=>aI a0 x1075 x1084 fun r1093=>kW s1009 x1028 ({ Hi:=0,Lo:=0 }:AP) fun r1098 t1103=>AQ t1103 (TW a0 r1098 r1093 fun r1107=>next1011 ((ET x1028 r1107 s1009),AJ (s1010+1))) (next1011 ((ET x1028 r1093 s1009),AJ (s1010+1))))) (next759 (s1009,AJ (s758+1)))) (s757,0)) (Q s757)) (([]:List (Int×AP)),0)
def RK (a0:Int) (a1:Rows) (a2:Rows) (a3:Rows) (Q:((List AK)×Int)→Prop):Prop:=
  XU ([a1,a2,a3]:List Rows) fun r64=>BD r64 0 fun x130=>BD r64 1 fun x148=>BD r64 2 fun x166=>PW a0 fun r199=>AQ (!r199) (Q (([]:List AK),8)) (AQ (x130.Cols != x148.Rows) (Q (([]:List AK),4)) (AQ (x166.Rows != x130.Rows) (Q (([]:List AK),4)) (AQ (x166.Cols != x148.Cols) (Q (([]:List AK),4)) (BK (fun (s:(List AK)×Int) (next840:((List AK)×Int)→Prop)=>match s with | (s834,s838)=>AQ (decide (s838<x166.Rows)) (QO x166 s838 fun r861=>BK (fun (s:(List (Int×Bool))×Int) (next956:((List (Int×Bool))×Int)→Prop)=>match s with | (s954,s955)=>AQ (decide (s955<(r861.1.length:Int))) (BD r861.1 s955 fun x964=>next956 ((ET x964 true s954),AJ (s955+1))) (QA s954 a0 x130 x148 s838 fun r990=>BK (fun (s:(List AK)×Int) (next1102:((List AK)×Int)→Prop)=>match s with | (s1097,s1101)=>AQ (decide (s1101<(r861.1.length:Int))) (BD r861.1 s1101 fun x1120=>kW r990 x1120 ({ Hi:=0,Lo:=0 }:AP) fun r1136 t1141=>AQ t1141 (HY 32 s1097 ([({ Row:=s838,Col:=x1120,Val:=r1136 }:AK)]) fun _=>next1102 ((s1097++([({ Row:=s838,Col:=x1120,Val:=r1136 }:AK)])),AJ (s1101+1))) (next1102 (s1097,AJ (s1101+1)))) (next840 (s1097,AJ (s838+1)))) (s834,0))) (([]:List (Int×Bool)),0)) (Q (s834,0))) (([]:List AK),0)))))
def RL (a0:AK) (a1:AK) (Q:Int→Prop):Prop:=
  CY a0.Row a1.Row fun r9=>CY a0.Col a1.Col fun r13=>JV ([r9,r13]:List Int) fun r22=>Q r22
def JW (a0:List AK) (Q:Bool→Prop):Prop:=
  BK (fun (s35:Int) (next36:Int→Prop)=>AQ (decide (s35<(a0.length:Int))) (AQ (decide (0<s35)) (BD a0 (AJ (s35 - 1)) fun x43=>BD a0 s35 fun x52=>RL x43 x52 fun r60=>AQ (decide (0≤r60)) (Q false) (next36 (AJ (s35+1)))) (next36 (AJ (s35+1)))) (Q true)) 0
def FE (a1:Int) (Q:(List AK)→Prop):Prop:=
  AQ (decide (a1<0)) (False) (AQ (decide (0<(AJ (a1 - (AJ (0 - 0)))))) (grP 32 (AJ (a1 - (AJ (0 - 0)))) <| Q ([]:List AK)) (Q ([]:List AK)))
def DG (a0:List (List AK)) (Q:(List AK)→Prop):Prop:=
  BK (fun (s:Int×Int) (next161:(Int×Int)→Prop)=>match s with | (s159,s160)=>AQ (decide (s160<(a0.length:Int))) (BD a0 s160 fun x179=>AQ (decide ((AJ (s159+(x179.length:Int)))<0)) (False) (next161 (AJ (s159+(x179.length:Int)),AJ (s160+1)))) (FE s159 fun r203=>BK (fun (s:(List AK)×Int) (next271:((List AK)×Int)→Prop)=>match s with | (s266,s270)=>AQ (decide (s270<(a0.length:Int))) (BD a0 s270 fun x278=>HY 32 s266 x278 fun _=>next271 ((s266++x278),AJ (s270+1))) (Q s266)) (r203,0))) (0,0)
def NR (a0:List AK) (Q:Bool→Prop):Prop:=
  JW a0 fun r4=>Q (!r4)
def DH (a0:List (List AK)) (Q:Int→Prop):Prop:=
  BK (fun (s51:Int) (next52:Int→Prop)=>AQ (decide (s51<(a0.length:Int))) (BD a0 s51 fun x58=>NR x58 fun r75=>AQ r75 (Q s51) (next52 (AJ (s51+1)))) (Q (-1))) 0
def CZ (a0:List (List AK)) (Q:Bool→Prop):Prop:=
  DH a0 fun r10=>Q (decide (0≤r10))
def EN (a0:AK) (a1:AK) (Q:Int→Prop):Prop:=
  CY a0.Row a1.Row fun r9=>CY a0.Col a1.Col fun r13=>JV ([r9,r13]:List Int) fun r22=>Q r22
def BV (o0:List AK) (a0:Int) (a1:Int) (Q:(List AK)→Prop):Prop:=
  BK (fun (s:(List AK)×Int) (next332:((List AK)×Int)→Prop)=>match s with | (s330,s331)=>AQ (decide (s331<a1)) (BK (fun (s:(List AK)×Int) (next446:((List AK)×Int)→Prop)=>match s with | (s444,s445)=>AQ (decide (a0<s445)) (BD s444 s445 fun x474=>BD s444 (AJ (s445 - 1)) fun x479=>EN x474 x479 fun r487=>AQ (decide (r487<0)) (BD s444 (AJ (s445 - 1)) fun x492=>BD s444 s445 fun x495=>BD s444 s445 fun x498=>BD (s444.set s445.toNat x492) (AJ (s445 - 1)) fun x501=>next446 (((s444.set s445.toNat x492).set ((AJ (s445 - 1)).toNat) x495),AJ (s445 - 1))) (next332 (s444,AJ (s331+1)))) (next332 (s444,AJ (s331+1)))) (s330,s331)) (Q s330)) (o0,AJ (a0+1))
def BT (o0:List AK) (a0:Int) (a1:Int) (a2:Int) (Q:(List AK)→Prop):Prop:=
  BK (fun (s:(List AK)×Int) (next46:((List AK)×Int)→Prop)=>match s with | (s44,s45)=>AQ (decide (s45<a2)) (BD s44 (AJ (a1+s45)) fun x54=>BD s44 (AJ (a0+s45)) fun x59=>BD s44 (AJ (a0+s45)) fun x62=>BD (s44.set ((AJ (a0+s45)).toNat) x54) (AJ (a1+s45)) fun x65=>next46 (((s44.set ((AJ (a0+s45)).toNat) x54).set ((AJ (a1+s45)).toNat) x59),AJ (s45+1))) (Q s44)) (o0,0)
def DB (o0:List AK) (a0:Int) (a1:Int) (a2:Int) (Q:(List AK)→Prop):Prop:=
  BK (fun (s:(List AK)×Int×Int) (next66:((List AK)×Int×Int)→Prop)=>match s with | (s63,s64,s65)=>AQ (s64 != s65) (AQ (decide (s65<s64)) (BT s63 (AJ (a1 - s64)) a1 s65 fun r79=>next66 (r79,AJ (s64 - s65),s65)) (BT s63 (AJ (a1 - s64)) (AJ ((AJ (a1+s65)) - s64)) s64 fun r91=>next66 (r91,s64,AJ (s65 - s64)))) (BT s63 (AJ (a1 - s64)) a1 s64 fun r103=>Q r103)) (o0,AJ (a1 - a0),AJ (a2 - a1))
def BC (rc:(List AK)→Int→Int→Int→((List AK)→Prop)→Prop) (o0:List AK) (a0:Int) (a1:Int) (a2:Int) (Q:(List AK)→Prop):Prop:=
  AQ ((AJ (a1 - a0))==1) (BK (fun (s:Int×Int) (next323:(Int×Int)→Prop)=>match s with | (s321,s322)=>AQ (decide (s321<s322)) (BD o0 (AJ (shr .u64 (IntKind.wrap .u64 (AJ (s321+s322))) 1)) fun x330=>BD o0 a0 fun x335=>EN x330 x335 fun r343=>AQ (decide (r343<0)) (next323 (AJ ((AJ (shr .u64 (IntKind.wrap .u64 (AJ (s321+s322))) 1))+1),s322)) (next323 (s321,AJ (shr .u64 (IntKind.wrap .u64 (AJ (s321+s322))) 1)))) (BK (fun (s:(List AK)×Int) (next388:((List AK)×Int)→Prop)=>match s with | (s386,s387)=>AQ (decide (s387<(AJ (s321 - 1)))) (BD s386 (AJ (s387+1)) fun x397=>BD s386 s387 fun x402=>BD s386 s387 fun x405=>BD (s386.set s387.toNat x397) (AJ (s387+1)) fun x408=>next388 (((s386.set s387.toNat x397).set ((AJ (s387+1)).toNat) x402),AJ (s387+1))) (Q s386)) (o0,a0))) (a1,a2)) (AQ ((AJ (a2 - a1))==1) (BK (fun (s:Int×Int) (next729:(Int×Int)→Prop)=>match s with | (s727,s728)=>AQ (decide (s727<s728)) (BD o0 a1 fun x736=>BD o0 (AJ (shr .u64 (IntKind.wrap .u64 (AJ (s727+s728))) 1)) fun x741=>EN x736 x741 fun r749=>AQ (!(decide (r749<0))) (next729 (AJ ((AJ (shr .u64 (IntKind.wrap .u64 (AJ (s727+s728))) 1))+1),s728)) (next729 (s727,AJ (shr .u64 (IntKind.wrap .u64 (AJ (s727+s728))) 1)))) (BK (fun (s:(List AK)×Int) (next794:((List AK)×Int)→Prop)=>match s with | (s792,s793)=>AQ (decide (s727<s793)) (BD s792 (AJ (s793 - 1)) fun x803=>BD s792 s793 fun x808=>BD s792 s793 fun x811=>BD (s792.set s793.toNat x803) (AJ (s793 - 1)) fun x814=>next794 (((s792.set s793.toNat x803).set ((AJ (s793 - 1)).toNat) x808),AJ (s793 - 1))) (Q s792)) (o0,a1))) (a0,a1)) (FF (fun (k820:(Int×Int)→Prop)=>AQ (decide ((AJ (shr .u64 (IntKind.wrap .u64 (AJ (a0+a2))) 1))<a1)) (k820 (AJ ((AJ ((AJ (shr .u64 (IntKind.wrap .u64 (AJ (a0+a2))) 1))+a1)) - a2),AJ (shr .u64 (IntKind.wrap .u64 (AJ (a0+a2))) 1))) (k820 (a0,a1))) fun (s818,s819)=>BK (fun (s:Int×Int) (next945:(Int×Int)→Prop)=>match s with | (s943,s944)=>AQ (decide (s943<s944)) (BD o0 (AJ ((AJ ((AJ ((AJ (shr .u64 (IntKind.wrap .u64 (AJ (a0+a2))) 1))+a1)) - 1)) - (AJ (shr .u64 (IntKind.wrap .u64 (AJ (s943+s944))) 1)))) fun x953=>BD o0 (AJ (shr .u64 (IntKind.wrap .u64 (AJ (s943+s944))) 1)) fun x958=>EN x953 x958 fun r966=>AQ (!(decide (r966<0))) (next945 (AJ ((AJ (shr .u64 (IntKind.wrap .u64 (AJ (s943+s944))) 1))+1),s944)) (next945 (s943,AJ (shr .u64 (IntKind.wrap .u64 (AJ (s943+s944))) 1)))) (FF (fun (k1001:(List AK)→Prop)=>AQ (decide (s943<a1)) (AQ (decide (a1<(AJ ((AJ ((AJ (shr .u64 (IntKind.wrap .u64 (AJ (a0+a2))) 1))+a1)) - s943)))) (DB o0 s943 a1 (AJ ((AJ ((AJ (shr .u64 (IntKind.wrap .u64 (AJ (a0+a2))) 1))+a1)) - s943)) fun r1010=>k1001 r1010) (k1001 o0)) (k1001 o0)) fun s1000=>FF (fun (k1055:(List AK)→Prop)=>AQ (decide (a0<s943)) (AQ (decide (s943<(AJ (shr .u64 (IntKind.wrap .u64 (AJ (a0+a2))) 1)))) (rc s1000 a0 s943 (AJ (shr .u64 (IntKind.wrap .u64 (AJ (a0+a2))) 1)) fun r1064=>k1055 r1064) (k1055 s1000)) (k1055 s1000)) fun s1054=>AQ (decide ((AJ (shr .u64 (IntKind.wrap .u64 (AJ (a0+a2))) 1))<(AJ ((AJ ((AJ (shr .u64 (IntKind.wrap .u64 (AJ (a0+a2))) 1))+a1)) - s943)))) (AQ (decide ((AJ ((AJ ((AJ (shr .u64 (IntKind.wrap .u64 (AJ (a0+a2))) 1))+a1)) - s943))<a2)) (rc s1054 (AJ (shr .u64 (IntKind.wrap .u64 (AJ (a0+a2))) 1)) (AJ ((AJ ((AJ (shr .u64 (IntKind.wrap .u64 (AJ (a0+a2))) 1))+a1)) - s943)) a2 fun r1086=>Q r1086) (Q s1054)) (Q s1054))) (s818,s819)))
def CK:Nat→(List AK)→Int→Int→Int→((List AK)→Prop)→Prop
  | 0=>fun _ _ _ _ _=>False
  | k+1=>BC (CK k)
def CS (o0:List AK) (a0:Int) (a1:Int) (a2:Int) (Q:(List AK)→Prop):Prop:=∃ k,CK k o0 a0 a1 a2 Q
def EF (o0:List AK) (a0:Int) (Q:(List AK)→Prop):Prop:=
  BK (fun (s:(List AK)×Int×Int) (next98:((List AK)×Int×Int)→Prop)=>match s with | (s95,s96,s97)=>AQ (decide (s97≤a0)) (BV s95 s96 s97 fun r110=>next98 (r110,s97,AJ (s97+20))) (BV s95 s96 a0 fun r134=>BK (fun (s:(List AK)×Int) (next420:((List AK)×Int)→Prop)=>match s with | (s418,s419)=>AQ (decide (s419<a0)) (BK (fun (s:(List AK)×Int×Int) (next533:((List AK)×Int×Int)→Prop)=>match s with | (s530,s531,s532)=>AQ (decide (s532≤a0)) (CS s530 s531 (AJ (s531+s419)) s532 fun r547=>next533 (r547,s532,AJ (s532+(AJ (2*s419))))) (AQ (decide ((AJ (s531+s419))<a0)) (CS s530 s531 (AJ (s531+s419)) a0 fun r562=>next420 (r562,AJ (s419*2))) (next420 (s530,AJ (s419*2))))) (s418,0,AJ (2*s419))) (Q s418)) (r134,20))) (o0,0,20)
def CC (o0:List AK) (Q:(List AK)→Prop):Prop:=
  EF o0 (o0.length:Int) fun r10=>Q r10
def NS (a0:Int) (a1:List (List AK)) (Q:((List AK)×Int)→Prop):Prop:=
  PW a0 fun r12=>AQ (!r12) (Q (([]:List AK),8)) (CZ a1 fun r31=>AQ r31 (Q (([]:List AK),6)) (DG a1 fun r45=>CC r45 fun r75=>BK (fun (s:(List AK)×Int) (next199:((List AK)×Int)→Prop)=>match s with | (s193,s197)=>AQ (decide (s197<(r75.length:Int))) (BD r75 s197 fun x213=>FF (fun (k242:Bool→Prop)=>AQ (decide (0<(s193.length:Int))) (BD s193 (AJ ((s193.length:Int) - 1)) fun x246=>RL x246 x213 fun r250=>k242 (r250==0)) (k242 false)) fun s241=>AQ s241 (BD s193 (AJ ((s193.length:Int) - 1)) fun x261=>TW a0 x261.Val x213.Val fun r265=>BD s193 (AJ ((s193.length:Int) - 1)) fun x270=>next199 ((s193.set ((AJ ((s193.length:Int) - 1)).toNat) ({ Row:=x270.Row,Col:=x270.Col,Val:=r265 }:AK)),AJ (s197+1))) (HY 32 s193 ([x213]) fun _=>next199 ((s193++([x213])),AJ (s197+1)))) (Q (s193,0))) (([]:List AK),0)))
def ID (a0:List Int) (Q:Int→Prop):Prop:=
  AQ (decide ((a0.length:Int)<1)) (False) (BD a0 0 fun x16=>BK (fun (s:Int×Int) (next54:(Int×Int)→Prop)=>match s with | (s52,s53)=>AQ (decide (s53<(a0.length:Int))) (BD a0 s53 fun x60=>next54 ((if x60<s52 then x60 else s52),AJ (s53+1))) (Q s52)) (x16,1))
def GF (a0:AK) (a1:AK) (Q:Int→Prop):Prop:=
  CY a0.Row a1.Row fun r9=>CY a0.Col a1.Col fun r13=>JV ([r9,r13]:List Int) fun r22=>Q r22
def TY (a0:Int) (Q:Int→Prop):Prop:=
  AQ (a0==1) (Q 4611686018427387904) (AQ (a0==3) (Q 4611686018427387904) (AQ (a0==4) (Q 4611686018427387904) (Q 0)))
def JX (a0:Int) (a1:Int) (Q:Bool→Prop):Prop:=
  AQ (decide (0≤a0)) (Q (decide (a0≤a1))) (Q false)
def PK (o0:Int) (o1:Int) (a0:AK) (Q:Bool→Prop):Prop:=
  JX a0.Row (AJ (o0 - 1)) fun r9=>AQ (!r9) (Q true) (JX a0.Col (AJ (o1 - 1)) fun r14=>Q (!r14))
def DI (o0:Int) (o1:Int) (a0:List AK) (Q:Int→Prop):Prop:=
  BK (fun (s49:Int) (next50:Int→Prop)=>AQ (decide (s49<(a0.length:Int))) (BD a0 s49 fun x56=>PK o0 o1 x56 fun r70=>AQ r70 (Q s49) (next50 (AJ (s49+1)))) (Q (-1))) 0
def DA (o0:Int) (o1:Int) (a0:List AK) (Q:Bool→Prop):Prop:=
  DI o0 o1 a0 fun r14=>Q (decide (0≤r14))
def XV (a0:Int) (a1:Int) (a2:Int) (a3:List AK) (Q:(Rows×Int)→Prop):Prop:=
  PW a0 fun r97=>AQ (!r97) (Q (({ Rows:=0,Cols:=0,Start:=([]:List Int),Col:=([]:List Int),Val:=([]:List Int) }:Rows),8)) (FF (fun (k121:Bool→Prop)=>JX a1 4096 fun r122=>AQ (!r122) (k121 true) (JX a2 4096 fun r127=>k121 (!r127))) fun s120=>AQ s120 (Q (({ Rows:=0,Cols:=0,Start:=([]:List Int),Col:=([]:List Int),Val:=([]:List Int) }:Rows),3)) (DA a1 a2 a3 fun r148=>AQ r148 (Q (({ Rows:=0,Cols:=0,Start:=([]:List Int),Col:=([]:List Int),Val:=([]:List Int) }:Rows),3)) (JW a3 fun r155=>AQ (!r155) (Q (({ Rows:=0,Cols:=0,Start:=([]:List Int),Col:=([]:List Int),Val:=([]:List Int) }:Rows),6)) (AQ (decide (65536<(a3.length:Int))) (Q (({ Rows:=0,Cols:=0,Start:=([]:List Int),Col:=([]:List Int),Val:=([]:List Int) }:Rows),5)) (BK (fun (s:(List AC)×Int) (next454:((List AC)×Int)→Prop)=>match s with | (s448,s452)=>AQ (decide (s452<(a3.length:Int))) (BD a3 s452 fun x472=>LW a0 x472.Val fun r486=>AQ (!r486.2) (Q (({ Rows:=0,Cols:=0,Start:=([]:List Int),Col:=([]:List Int),Val:=([]:List Int) }:Rows),12)) (TY a0 fun r496=>AQ (r486.1 != r496) (HY 24 s448 ([({ Row:=x472.Row,Col:=x472.Col,Val:=r486.1 }:AC)]) fun _=>next454 ((s448++([({ Row:=x472.Row,Col:=x472.Col,Val:=r486.1 }:AC)])),AJ (s452+1))) (next454 (s448,AJ (s452+1))))) (RJ a0 a1 a2 s448 fun r512=>Q (r512.1,r512.2))) (([]:List AC),0))))))
def IE (a0:GQ) (a1:Int) (Q:(List FY)→Prop):Prop:=
  BK (fun (s:(List FY)×Int) (next151:((List FY)×Int)→Prop)=>match s with | (s145,s149)=>AQ (decide (s149<(a0.L.length:Int))) (AQ (decide (s149<120)) (BD a0.L s149 fun x170=>IA x170.Kind 5 fun r184=>IA x170.A a1 fun r192=>IA x170.B a1 fun r200=>IA x170.K 3 fun r204=>HY 32 s145 ([({ Kind:=AJ (r184+1),A:=r192,B:=r200,K:=r204 }:FY)]) fun _=>next151 ((s145++([({ Kind:=AJ (r184+1),A:=r192,B:=r200,K:=r204 }:FY)])),AJ (s149+1))) (Q s145)) (Q s145)) (([]:List FY),0)
def SP (a0:Rows) (Q:Bool→Prop):Prop:=
  AQ (decide (a0.Rows<0)) (Q false) (AQ (decide (4096<a0.Rows)) (Q false) (AQ (decide (a0.Cols<0)) (Q false) (AQ (decide (4096<a0.Cols)) (Q false) (AQ ((a0.Start.length:Int) != (AJ (a0.Rows+1))) (Q false) (AQ ((a0.Col.length:Int) != (a0.Val.length:Int)) (Q false) (AQ (decide (65536<(a0.Col.length:Int))) (Q false) (BD a0.Start 0 fun x49=>AQ (x49 != 0) (Q false) (BD a0.Start a0.Rows fun x59=>AQ (x59 != (a0.Col.length:Int)) (Q false) (BK (fun (s695:Int) (next696:Int→Prop)=>AQ (decide (s695<a0.Rows)) (BD a0.Start s695 fun x741=>BD a0.Start (AJ (s695+1)) fun x750=>AQ (decide (x750<x741)) (Q false) (BD a0.Start s695 fun x760=>AQ (decide (x760<0)) (Q false) (BD a0.Start (AJ (s695+1)) fun x770=>AQ (decide ((a0.Col.length:Int)<x770)) (Q false) (BD a0.Start s695 fun x789=>BK (fun (s938:Int) (next939:Int→Prop)=>BD a0.Start (AJ (s695+1)) fun x954=>AQ (decide (s938<x954)) (BD a0.Col s938 fun x964=>AQ (decide (x964<0)) (Q false) (BD a0.Col s938 fun x974=>AQ (decide (a0.Cols≤x974)) (Q false) (BD a0.Start s695 fun x984=>AQ (decide (x984<s938)) (BD a0.Col s938 fun x994=>BD a0.Col (AJ (s938 - 1)) fun x1003=>AQ (decide (x994≤x1003)) (Q false) (next939 (AJ (s938+1)))) (next939 (AJ (s938+1)))))) (next696 (AJ (s695+1)))) x789)))) (Q true)) 0)))))))))
def UW (a0:Rows) (Q:Rows→Prop):Prop:=
  SP a0 fun r27=>AQ r27 (Q a0) (JU 0 0 fun r32=>Q r32)
def XW (a0:Rows) (a1:Int) (Q:(List CE)→Prop):Prop:=
  UW a0 fun r33=>AQ (decide (a1<0)) (Q ([]:List CE)) (AQ (decide (r33.Rows≤a1)) (Q ([]:List CE)) (BD r33.Start a1 fun x63=>BK (fun (s:(List CE)×Int) (next182:((List CE)×Int)→Prop)=>match s with | (s176,s180)=>BD r33.Start (AJ (a1+1)) fun x197=>AQ (decide (s180<x197)) (BD r33.Col s180 fun x208=>BD r33.Val s180 fun x217=>HY 16 s176 ([({ At:=x208,Val:=x217 }:CE)]) fun _=>next182 ((s176++([({ At:=x208,Val:=x217 }:CE)])),AJ (s180+1))) (Q s176)) (([]:List CE),x63)))
def TZ (a0:Rows) (a1:Int) (a2:Int) (Q:(Int×Bool)→Prop):Prop:=
  XW a0 a1 fun r24=>BK (fun (s97:Int) (next98:Int→Prop)=>AQ (decide (s97<(r24.length:Int))) (BD r24 s97 fun x114=>AQ (x114.At==a2) (BD r24 s97 fun x124=>Q (x124.Val,true)) (next98 (AJ (s97+1)))) (Q (0,false))) 0
def LX (a0:Int) (Q:Int→Prop):Prop:=
  Q (a0.tmod 14)
def OY (a0:Int) (Q:Int→Prop):Prop:=
  AQ (decide (a0<1)) (Q 1) (AQ (decide (5<a0)) (Q 1) (Q a0))
def RM (a0:Int) (Q:Int→Prop):Prop:=
  Q ((AJ (a0)).tmod 40)
def XX (a0:List AC) (Q:(List AC)→Prop):Prop:=
  AQ (decide (60<(a0.length:Int))) (slP a0 0 60 fun _=>Q ((a0.take (Int.toNat 60)).drop (Int.toNat 0))) (Q a0)
def UX (a0:Int×Int) (a1:List AC) (Q:Rows→Prop):Prop:=
  RM a0.1 fun r29=>RM a0.2 fun r33=>XX a1 fun r47=>BK (fun (s:(List AC)×Int) (next310:((List AC)×Int)→Prop)=>match s with | (s304,s308)=>AQ (decide (s308<(r47.length:Int))) (BD r47 s308 fun x328=>AQ (decide (x328.Row<0)) (next310 (s304,AJ (s308+1))) (AQ (decide (x328.Col<0)) (next310 (s304,AJ (s308+1))) (AQ (r29==0) (next310 (s304,AJ (s308+1))) (AQ (r33==0) (next310 (s304,AJ (s308+1))) (nzP r29 <| nzP r33 <| HY 24 s304 ([({ Row:=x328.Row.tmod r29,Col:=x328.Col.tmod r33,Val:=x328.Val }:AC)]) fun _=>next310 ((s304++([({ Row:=x328.Row.tmod r29,Col:=x328.Col.tmod r33,Val:=x328.Val }:AC)])),AJ (s308+1))))))) (TS 1 r29 r33 s304 fun r385=>AQ (r385.2 != 0) (JU r29 r33 fun r406=>Q r406) (Q r385.1))) (([]:List AC),0)
def SQ (a0:Int) (a1:Int) (Q:Int→Prop):Prop:=
  AQ (a0==5) (Q a1) (AQ (a0==2) (Q (nI .i64 a1 1)) (AQ (((nI .i64 a1 4611686018427387903).tmod 5)==0) (Q 4611686018427387904) (Q (nI .i64 a1 4611686018427387903))))
def QB (a0:Int) (a1:Int) (Q:Int→Prop):Prop:=
  AQ (a0==5) (Q (a1.tmod 2147483648)) (SQ a0 a1 fun r2=>Q r2)
def FH (a0:HZ) (Q:Rows→Prop):Prop:=
  UX a0.Size a0.L fun r48=>OY a0.Ring fun r70=>BK (fun (s:(List Int)×Int) (next138:((List Int)×Int)→Prop)=>match s with | (s132,s136)=>AQ (decide (s136<(r48.Val.length:Int))) (BD r48.Val s136 fun x145=>QB r70 x145 fun r153=>HY 8 s132 ([r153]) fun _=>next138 ((s132++([r153])),AJ (s136+1))) (Q ({ Rows:=r48.Rows,Cols:=r48.Cols,Start:=r48.Start,Col:=r48.Col,Val:=s132 }:Rows))) (([]:List Int),0)
def KF (a0:NP) (Q:(Rows×Rows×Rows)→Prop):Prop:=
  LX a0.Size.1 fun r57=>LX a0.Size.2.1 fun r61=>LX a0.Size.2.2 fun r65=>FH ({ Ring:=a0.Ring,Size:=(r57,r61),L:=a0.A,X:=([]:List CE),Y:=([]:List CE),F:=([]:List Int),Others:=false }:HZ) fun r79=>FH ({ Ring:=a0.Ring,Size:=(r61,r65),L:=a0.B,X:=([]:List CE),Y:=([]:List CE),F:=([]:List Int),Others:=false }:HZ) fun r95=>FH ({ Ring:=a0.Ring,Size:=(r57,r65),L:=a0.M,X:=([]:List CE),Y:=([]:List CE),F:=([]:List Int),Others:=false }:HZ) fun r112=>Q (r79,r95,r112)
def LF (a0:JT) (Q:BB→Prop):Prop:=
  KF a0.T fun r81=>OY a0.T.Ring fun r117=>Q ({ Ring:=r117,A:=r81.1,B:=r81.2.1,Mask:=r81.2.2,R:=AJ (((AJ (a0.R)).tmod 4)+1),C:=AJ (((AJ (a0.C)).tmod 4)+1),Room:=AJ (((AJ (a0.Room)).tmod 4)+1) }:BB)
def GU (a0:BB) (Q:Int→Prop):Prop:=
  GR a0 fun r37=>AQ (r37 != 0) (Q 0) (Q (AJ ((AJ ((AJ (a0.R+a0.C))*(AJ (a0.R+a0.C))))+2)))
def UY (a0:Int) (a1:Int) (Q:Rows→Prop):Prop:=
  BK (fun (s:(List AC)×Int) (next309:((List AC)×Int)→Prop)=>match s with | (s303,s307)=>AQ (decide (s307<a0)) (BK (fun (s:(List AC)×Int) (next350:((List AC)×Int)→Prop)=>match s with | (s345,s349)=>AQ (decide (s349<a1)) (HY 24 s345 ([({ Row:=s307,Col:=s349,Val:=1 }:AC)]) fun _=>next350 ((s345++([({ Row:=s307,Col:=s349,Val:=1 }:AC)])),AJ (s349+1))) (next309 (s345,AJ (s307+1)))) (s303,0)) (TS 1 a0 a1 s303 fun r366=>Q r366.1)) (([]:List AC),0)
def IF (a0:Int) (a1:Int) (a2:Int) (Q:Int→Prop):Prop:=
  NQ a0 fun r1=>AQ (!r1) (Q (-1)) (AQ (decide (a1<0)) (Q (-1)) (AQ (decide (8≤a1)) (Q (-1)) (AQ (decide (a2<0)) (Q (-1)) (AQ (decide (a0≤a2)) (Q (-1)) (Q (AJ ((AJ (a1*a0))+a2)))))))
def CF (o1:BB) (o2:Int) (o3:List (Nat×AA)) (o4:AA) (a0:Int) (a1:Int) (a2:Int) (a3:List AC) (Q:AA→Prop):Prop:=
  IF o1.C o4.i o4.j fun r59=>IF o1.C a1 a2 fun r63=>HY 136 o4.out ([({ Kind:=a0,From:=r59,To:=r63,Seq:=0,Round:=o2,Vec:=({ N:=0,Items:=([]:List CE) }:Vec),Sums:=([]:List bQ),Triples:=a3,N:=0,Over:=false }:BL)]) fun _=>Q ({ i:=o4.i,j:=o4.j,mask:=o4.mask,out:=(o4.out++([({ Kind:=a0,From:=r59,To:=r63,Seq:=0,Round:=o2,Vec:=({ N:=0,Items:=([]:List CE) }:Vec),Sums:=([]:List bQ),Triples:=a3,N:=0,Over:=false }:BL)])),parts:=o4.parts,at_:=o4.at_,has:=o4.has }:AA)
def FW (o0:AB) (o1:AA) (o2:List (Nat×AA)) (a0:Int) (a1:AY) (Q:AA→Prop):Prop:=
  FF (fun (k645:(Int×Int×Int×Int×(List Int)×(List Int)×(List Int)×(List BL)×(List (AZ×(List AC)))×Int×(List AK))→Prop)=>AQ (a1.Col==o1.j) (IB o0.p.A.Rows o0.p.R o1.i fun r678=>LC o0.p.A r678 (a1.From,a1.To) fun r682=>LU r682 fun r698=>BK (fun (s:Int×Int×Int×Int×(List Int)×(List Int)×(List Int)×(List BL)×(List (AZ×(List AC)))×Int×(List AK)×Int) (next879:(Int×Int×Int×Int×(List Int)×(List Int)×(List Int)×(List BL)×(List (AZ×(List AC)))×Int×(List AK)×Int)→Prop)=>match s with | (s852,s853,s854,s855,s856,s860,s864,s868,s872,s873,s874,s878)=>AQ (decide (s878<o0.p.C)) (CF o0.p a0 o2 ({ i:=s852,j:=s853,mask:=({ Rows:=s854,Cols:=s855,Start:=s856,Col:=s860,Val:=s864 }:Rows),out:=s868,parts:=s872,at_:=s873,has:=s874 }:AA) 6 s852 s878 r698 fun r891=>next879 (r891.i,r891.j,r891.mask.Rows,r891.mask.Cols,r891.mask.Start,r891.mask.Col,r891.mask.Val,r891.out,r891.parts,r891.at_,r891.has,AJ (s878+1))) (k645 (s852,s853,s854,s855,s856,s860,s864,s868,s872,s873,s874))) (o1.i,o1.j,o1.mask.Rows,o1.mask.Cols,o1.mask.Start,o1.mask.Col,o1.mask.Val,o1.out,o1.parts,o1.at_,o1.has,0)) (k645 (o1.i,o1.j,o1.mask.Rows,o1.mask.Cols,o1.mask.Start,o1.mask.Col,o1.mask.Val,o1.out,o1.parts,o1.at_,o1.has))) fun (s619,s620,s621,s622,s623,s627,s631,s635,s639,s640,s641)=>AQ (a1.Row==s619) (IB o0.p.B.Cols o0.p.C s620 fun r950=>LC o0.p.B (a1.From,a1.To) r950 fun r954=>LU r954 fun r971=>BK (fun (s:Int×Int×Int×Int×(List Int)×(List Int)×(List Int)×(List BL)×(List (AZ×(List AC)))×Int×(List AK)×Int) (next1152:(Int×Int×Int×Int×(List Int)×(List Int)×(List Int)×(List BL)×(List (AZ×(List AC)))×Int×(List AK)×Int)→Prop)=>match s with | (s1125,s1126,s1127,s1128,s1129,s1133,s1137,s1141,s1145,s1146,s1147,s1151)=>AQ (decide (s1151<o0.p.R)) (CF o0.p a0 o2 ({ i:=s1125,j:=s1126,mask:=({ Rows:=s1127,Cols:=s1128,Start:=s1129,Col:=s1133,Val:=s1137 }:Rows),out:=s1141,parts:=s1145,at_:=s1146,has:=s1147 }:AA) 7 s1151 s1126 r971 fun r1164=>next1152 (r1164.i,r1164.j,r1164.mask.Rows,r1164.mask.Cols,r1164.mask.Start,r1164.mask.Col,r1164.mask.Val,r1164.out,r1164.parts,r1164.at_,r1164.has,AJ (s1151+1))) (Q ({ i:=s1125,j:=s1126,mask:=({ Rows:=s1127,Cols:=s1128,Start:=s1129,Col:=s1133,Val:=s1137 }:Rows),out:=s1141,parts:=s1145,at_:=s1146,has:=s1147 }:AA))) (s619,s620,s621,s622,s623,s627,s631,s635,s639,s640,s641,0)) (Q ({ i:=s619,j:=s620,mask:=({ Rows:=s621,Cols:=s622,Start:=s623,Col:=s627,Val:=s631 }:Rows),out:=s635,parts:=s639,at_:=s640,has:=s641 }:AA))
def EJ (o0:List (Nat×AA)) (o1:List (Nat×AF)) (a0:BB) (Q0:(Int×(List (Nat×AA)))→Prop) (Q1:(Int×(List (Nat×AA))×AB)→Prop):Prop:=
  GR a0 fun r39=>AQ (r39 != 0) (Q0 (r39,o0)) (KP a0.A.Cols a0.R a0.C fun r59=>BK (fun (s:(List (Option Nat))×Int×(List (Nat×AA))) (next1279:((List (Option Nat))×Int×(List (Nat×AA)))→Prop)=>match s with | (s1272,s1276,s1277)=>AQ (decide (s1276<(AJ (a0.R*a0.C)))) (TT a0.C s1276 fun r1293=>WL a0.C s1276 fun r1297=>QN a0.Mask a0.R a0.C r1293 r1297 fun r1323=>BK (fun (s:Int×Int×Int×Int×(List Int)×(List Int)×(List Int)×(List BL)×(List (AZ×(List AC)))×Int×(List AK)×Int) (next1790:(Int×Int×Int×Int×(List Int)×(List Int)×(List Int)×(List BL)×(List (AZ×(List AC)))×Int×(List AK)×Int)→Prop)=>match s with | (s1761,s1762,s1763,s1764,s1765,s1769,s1773,s1777,s1781,s1782,s1783,s1787)=>AQ (decide (s1787<(r59.length:Int))) (BD r59 s1787 fun x1798=>FW ({ p:=a0,stages:=r59,workers:=s1272,boxes:=([]:List ((Int×Int)×(Option Nat))) }:AB) ({ i:=s1761,j:=s1762,mask:=({ Rows:=s1763,Cols:=s1764,Start:=s1765,Col:=s1769,Val:=s1773 }:Rows),out:=s1777,parts:=s1781,at_:=s1782,has:=s1783 }:AA) s1277 s1787 x1798 fun r1814=>next1790 (r1814.i,r1814.j,r1814.mask.Rows,r1814.mask.Cols,r1814.mask.Start,r1814.mask.Col,r1814.mask.Val,r1814.out,r1814.parts,r1814.at_,r1814.has,AJ (s1787+1))) (Ad6 s1277 fun b1343=>HY 8 s1272 ([(some b1343)]) fun _=>next1279 ((s1272++([(some b1343)])),AJ (s1276+1),((b1343,({ i:=s1761,j:=s1762,mask:=({ Rows:=s1763,Cols:=s1764,Start:=s1765,Col:=s1769,Val:=s1773 }:Rows),out:=s1777,parts:=s1781,at_:=s1782,has:=s1783 }:AA)) :: s1277)))) (r1293,r1297,r1323.Rows,r1323.Cols,r1323.Start,r1323.Col,r1323.Val,([]:List BL),([]:List (AZ×(List AC))),0,([]:List AK),0)) (Q1 (0,s1277,({ p:=a0,stages:=r59,workers:=s1272,boxes:=([]:List ((Int×Int)×(Option Nat))) }:AB)))) (([]:List (Option Nat)),0,o0))
def PL (a0:FY) (Q:Bool→Prop):Prop:=
  RF a0 fun r3=>Q (!r3)
def DJ (a0:List FY) (Q:Int→Prop):Prop:=
  BK (fun (s45:Int) (next46:Int→Prop)=>AQ (decide (s45<(a0.length:Int))) (BD a0 s45 fun x52=>PL x52 fun r66=>AQ r66 (Q s45) (next46 (AJ (s45+1)))) (Q (-1))) 0
def BU (a0:List FY) (Q:Bool→Prop):Prop:=
  DJ a0 fun r10=>Q (decide (0≤r10))
def JY (o0:List (Nat×AA)) (o1:List (Nat×AF)) (a0:FY) (Q:Bool→Prop):Prop:=
  Q false
def FI (o0:List (Nat×AA)) (Q:Bool→Prop):Prop:=
  Q false
def KQ (o0:List (Nat×AA)) (o1:List (Nat×AF))  : Prop:=
  False
def DV (o0:List (Nat×AA)) (Q:(Rows×Int)→Prop):Prop:=
  Q (({ Rows:=0,Cols:=0,Start:=([]:List Int),Col:=([]:List Int),Val:=([]:List Int) }:Rows),10)
def DE (o0:AB) (o1:List (Nat×AA)) (a0:Int) (Q:Bool→Prop):Prop:=
  AQ (decide (0≤a0)) (Q (decide (a0<(o0.workers.length:Int)))) (Q false)
def DM (o0:AB) (o1:List (Nat×AA)) (a0:Int) (Q:Int→Prop):Prop:=
  DE o0 o1 a0 fun r53=>AQ (!r53) (Q 0) (BD o0.workers a0 fun x56=>FV o1 x56 fun b64 x65=>Q (x65.out.length:Int))
def QC (a0:Int) (Q0:Int→Prop) (Q1:(Int×AF)→Prop):Prop:=
  AQ (decide (a0<1)) (Q0 3) (AQ (decide (64<a0)) (Q0 3) (Q1 (0,({ room:=a0,row:=([]:List Int),by_:=([]:List (Int×BL)),often:=([]:List (Int×Int)),sent:=0,taken:=0 }:AF))))
def CA (o0:AB) (o1:List (Nat×AA)) (o2:List (Nat×AF)) (a0:Int) (a1:Int) (Q0:(AB×(List (Nat×AF)))→Prop) (Q1:((Option Nat)×AB×(List (Nat×AF)))→Prop):Prop:=
  DE o0 o1 a0 fun r63=>AQ (!r63) (Q0 (o0,o2)) (DE o0 o1 a1 fun r71=>AQ (!r71) (Q0 (o0,o2)) (uR o0.boxes (a0,a1) none fun r84=>AQ r84.isNone (QC o0.p.Room (fun r97=>uR (ET (a0,a1) none o0.boxes) (a0,a1) none fun r110=>Q1 (r110,({ p:=o0.p,stages:=o0.stages,workers:=o0.workers,boxes:=(ET (a0,a1) none o0.boxes) }:AB),o2)) (fun r98=>Ad6 o2 fun b100=>uR (ET (a0,a1) (some b100) o0.boxes) (a0,a1) none fun r118=>Q1 (r118,({ p:=o0.p,stages:=o0.stages,workers:=o0.workers,boxes:=(ET (a0,a1) (some b100) o0.boxes) }:AB),((b100,r98.2) :: o2)))) (uR o0.boxes (a0,a1) none fun r124=>Q1 (r124,o0,o2))))
def MK (a0:BL) (Q:Int→Prop):Prop:=
  Q 10
def GV (o0:AF) (Q:Bool→Prop):Prop:=
  Q (decide (o0.room≤(o0.row.length:Int)))
def HM (o0:AF) (a0:Int) (Q:AF→Prop):Prop:=
  HY 8 o0.row ([a0]) fun _=>uR o0.often a0 0 fun r17=>Q ({ room:=o0.room,row:=(o0.row++([a0])),by_:=o0.by_,often:=(ET a0 (AJ (r17+1)) o0.often),sent:=o0.sent,taken:=o0.taken }:AF)
def JG (o0:AF) (a0:BL) (Q:(Int×AF)→Prop):Prop:=
  GV o0 fun r38=>AQ r38 (Q (9,o0)) (WN a0 fun r57=>HM ({ room:=o0.room,row:=o0.row,by_:=(ET o0.sent ({ Kind:=r57.Kind,From:=r57.From,To:=r57.To,Seq:=o0.sent,Round:=r57.Round,Vec:=r57.Vec,Sums:=r57.Sums,Triples:=r57.Triples,N:=r57.N,Over:=r57.Over }:BL) o0.by_),often:=o0.often,sent:=o0.sent,taken:=o0.taken }:AF) o0.sent fun r98=>Q (0,({ room:=r98.room,row:=r98.row,by_:=r98.by_,often:=r98.often,sent:=AJ (r98.sent+1),taken:=r98.taken }:AF)))
def NT (o0:List (Nat×AF)) (a0:Option Nat) (a1:BL) (Q:(Int×(List (Nat×AF)))→Prop):Prop:=
  lC a0 (MK a1 fun rr=>Q (rr,o0)) fun b=>nY o0 b fun x=>JG x a1 fun rr=>Q (rr.1,(b,rr.2) :: CI b o0)
def CW (o0:AB) (o1:List (Nat×AA)) (o2:List (Nat×AF)) (a0:Int) (Q:(Bool×AB×(List (Nat×AA))×(List (Nat×AF)))→Prop):Prop:=
  DM o0 o1 a0 fun r54=>AQ (r54==0) (Q (false,o0,o1,o2)) (BD o0.workers a0 fun x66=>FF (fun (k457:(Int×Int×Int×(List Int)×(List Int)×(List Int)×Int×Int×(List Int)×(List Int)×(List Int)×Int×Int×(List Int)×(List Int)×(List Int)×Int×Int×Int×(List AY)×(List (Option Nat))×(List ((Int×Int)×(Option Nat)))×(Option Nat)×(List (Nat×AF)))→Prop)=>FV o1 x66 fun b458 x459=>BD x459.out 0 fun x481=>BD x459.out 0 fun x499=>CA o0 (CI b458 o1) o2 a0 x481.To (fun r522=>MK x499 fun r607=>AQ (r607 != 0) (Q (false,r522.1,o1,r522.2)) (k457 (r522.1.p.Ring,r522.1.p.A.Rows,r522.1.p.A.Cols,r522.1.p.A.Start,r522.1.p.A.Col,r522.1.p.A.Val,r522.1.p.B.Rows,r522.1.p.B.Cols,r522.1.p.B.Start,r522.1.p.B.Col,r522.1.p.B.Val,r522.1.p.Mask.Rows,r522.1.p.Mask.Cols,r522.1.p.Mask.Start,r522.1.p.Mask.Col,r522.1.p.Mask.Val,r522.1.p.R,r522.1.p.C,r522.1.p.Room,r522.1.stages,r522.1.workers,r522.1.boxes,(some b458),r522.2))) (fun r561=>NT r561.2.2 r561.1 x499 fun r618=>AQ (r618.1 != 0) (Q (false,r561.2.1,o1,r618.2)) (k457 (r561.2.1.p.Ring,r561.2.1.p.A.Rows,r561.2.1.p.A.Cols,r561.2.1.p.A.Start,r561.2.1.p.A.Col,r561.2.1.p.A.Val,r561.2.1.p.B.Rows,r561.2.1.p.B.Cols,r561.2.1.p.B.Start,r561.2.1.p.B.Col,r561.2.1.p.B.Val,r561.2.1.p.Mask.Rows,r561.2.1.p.Mask.Cols,r561.2.1.p.Mask.Start,r561.2.1.p.Mask.Col,r561.2.1.p.Mask.Val,r561.2.1.p.R,r561.2.1.p.C,r561.2.1.p.Room,r561.2.1.stages,r561.2.1.workers,r561.2.1.boxes,(some b458),r618.2)))) fun (s400,s401,s402,s403,s407,s411,s415,s416,s417,s421,s425,s429,s430,s431,s435,s439,s443,s444,s445,s446,s450,s454,s455,s456)=>FV o1 s455 fun b626 x627=>slP x627.out 1 (x627.out.length:Int) fun _=>Q (true,({ p:=({ Ring:=s400,A:=({ Rows:=s401,Cols:=s402,Start:=s403,Col:=s407,Val:=s411 }:Rows),B:=({ Rows:=s415,Cols:=s416,Start:=s417,Col:=s421,Val:=s425 }:Rows),Mask:=({ Rows:=s429,Cols:=s430,Start:=s431,Col:=s435,Val:=s439 }:Rows),R:=s443,C:=s444,Room:=s445 }:BB),stages:=s446,workers:=s450,boxes:=s454 }:AB),((b626,({ i:=x627.i,j:=x627.j,mask:=x627.mask,out:=((x627.out.take (x627.out.length:Int).toNat).drop (Int.toNat 1)),parts:=x627.parts,at_:=x627.at_,has:=x627.has }:AA)) :: (CI b626 o1)),s456))
def FP (a0:Int) (Q:Int→Prop):Prop:=
  Q 10
def JH (a0:Int) (Q:(BL×Bool×Int)→Prop):Prop:=
  FP a0 fun r33=>AQ (r33 != 0) (Q (({ Kind:=0,From:=0,To:=0,Seq:=0,Round:=0,Vec:=({ N:=0,Items:=([]:List CE) }:Vec),Sums:=([]:List bQ),Triples:=([]:List AC),N:=0,Over:=false }:BL),false,r33)) (False)
def GL (o0:AF) (a0:Int) (Q:Int→Prop):Prop:=
  AQ (decide (a0<0)) (Q 3) (AQ (decide ((o0.row.length:Int)≤a0)) (Q 3) (Q 0))
def DO (o0:List Int) (a0:Int) (a1:Int) (Q:(List Int)→Prop):Prop:=
  slP o0 a0 a1 fun _=>AQ (a0==a1) (Q o0) (slP o0 0 a0 fun _=>slP o0 a1 (o0.length:Int) fun _=>Q (o0.take a0.toNat++o0.drop a1.toNat))
def KG (o0:AF) (a0:Int) (Q:(BL×AF)→Prop):Prop:=
  BD o0.row a0 fun x21=>uR o0.by_ x21 ({ Kind:=0,From:=0,To:=0,Seq:=0,Round:=0,Vec:=({ N:=0,Items:=([]:List CE) }:Vec),Sums:=([]:List bQ),Triples:=([]:List AC),N:=0,Over:=false }:BL) fun r42=>DO o0.row a0 (AJ (a0+1)) fun r75=>uR o0.often x21 0 fun r85=>uR (ET x21 (AJ (r85 - 1)) o0.often) x21 0 fun r97=>AQ (r97==0) (Q (r42,({ room:=o0.room,row:=r75,by_:=(CI x21 o0.by_),often:=(CI x21 (ET x21 (AJ (r85 - 1)) o0.often)),sent:=o0.sent,taken:=o0.taken }:AF))) (Q (r42,({ room:=o0.room,row:=r75,by_:=o0.by_,often:=(ET x21 (AJ (r85 - 1)) o0.often),sent:=o0.sent,taken:=o0.taken }:AF)))
def JI (o0:AF) (a0:Int) (Q:(BL×Bool×Int×AF)→Prop):Prop:=
  GL o0 a0 fun r50=>AQ (r50 != 0) (Q (({ Kind:=0,From:=0,To:=0,Seq:=0,Round:=0,Vec:=({ N:=0,Items:=([]:List CE) }:Vec),Sums:=([]:List bQ),Triples:=([]:List AC),N:=0,Over:=false }:BL),false,r50,o0)) (BD o0.row a0 fun x54=>AQ (decide (o0.taken<x54)) (Q (({ Kind:=0,From:=0,To:=0,Seq:=0,Round:=0,Vec:=({ N:=0,Items:=([]:List CE) }:Vec),Sums:=([]:List bQ),Triples:=([]:List AC),N:=0,Over:=false }:BL),false,r50,o0)) (KG o0 a0 fun r94=>AQ (decide (r94.1.Seq<r94.2.taken)) (Q (({ Kind:=0,From:=0,To:=0,Seq:=0,Round:=0,Vec:=({ N:=0,Items:=([]:List CE) }:Vec),Sums:=([]:List bQ),Triples:=([]:List AC),N:=0,Over:=false }:BL),false,0,r94.2)) (WN r94.1 fun r119=>Q (r119,true,0,({ room:=r94.2.room,row:=r94.2.row,by_:=r94.2.by_,often:=r94.2.often,sent:=r94.2.sent,taken:=AJ (r94.2.taken+1) }:AF)))))
def NU (o0:List (Nat×AF)) (a0:Option Nat) (a1:Int) (Q:(BL×Bool×Int×(List (Nat×AF)))→Prop):Prop:=
  lC a0 (JH a1 fun rr=>Q (rr.1,rr.2.1,rr.2.2,o0)) fun b=>nY o0 b fun x=>JI x a1 fun rr=>Q (rr.1,rr.2.1,rr.2.2.1,(b,rr.2.2.2) :: CI b o0)
def CU (o0:AB) (o1:List (Nat×AA)) (a0:Option Nat) (Q:(Bool×(List (Nat×AA)))→Prop):Prop:=
  FV o1 a0 fun b62 x63=>AQ (decide ((o0.stages.length:Int)≤x63.at_)) (Q (false,o1)) (FV o1 (some b62) fun _ x112=>FV o1 (some b62) fun _ x169=>kW x169.parts ({ kind:=6,stage:=x112.at_ }:AZ) ([]:List AC) fun r190 t195=>FV o1 (some b62) fun _ x231=>kW x231.parts ({ kind:=7,stage:=x112.at_ }:AZ) ([]:List AC) fun r252 t257=>AQ (!t195) (Q (false,o1)) (AQ (!t257) (Q (false,o1)) (FV o1 (some b62) fun _ x306=>BD o0.stages x306.at_ fun x328=>BD o0.stages x306.at_ fun x337=>FV o1 (some b62) fun _ x386=>RJ o0.p.Ring x386.mask.Rows (AJ (x328.To - x337.From)) r190 fun r408=>FV o1 (some b62) fun _ x467=>RJ o0.p.Ring (AJ (x328.To - x337.From)) x467.mask.Cols r252 fun r489=>FV o1 (some b62) fun _ x541=>RK o0.p.Ring r408.1 r489.1 x541.mask fun r562=>FV o1 (some b62) fun _ x613=>NS o0.p.Ring ([x613.has,r562.1]:List (List AK)) fun r640=>FV ((b62,({ i:=x613.i,j:=x613.j,mask:=x613.mask,out:=x613.out,parts:=x613.parts,at_:=x613.at_,has:=r640.1 }:AA)) :: (CI b62 o1)) (some b62) fun _ x674=>FV ((b62,({ i:=x674.i,j:=x674.j,mask:=x674.mask,out:=x674.out,parts:=(CI ({ kind:=6,stage:=x112.at_ }:AZ) x674.parts),at_:=x674.at_,has:=x674.has }:AA)) :: (CI b62 ((b62,({ i:=x613.i,j:=x613.j,mask:=x613.mask,out:=x613.out,parts:=x613.parts,at_:=x613.at_,has:=r640.1 }:AA)) :: (CI b62 o1)))) (some b62) fun _ x718=>FV ((b62,({ i:=x718.i,j:=x718.j,mask:=x718.mask,out:=x718.out,parts:=(CI ({ kind:=7,stage:=x112.at_ }:AZ) x718.parts),at_:=x718.at_,has:=x718.has }:AA)) :: (CI b62 ((b62,({ i:=x674.i,j:=x674.j,mask:=x674.mask,out:=x674.out,parts:=(CI ({ kind:=6,stage:=x112.at_ }:AZ) x674.parts),at_:=x674.at_,has:=x674.has }:AA)) :: (CI b62 ((b62,({ i:=x613.i,j:=x613.j,mask:=x613.mask,out:=x613.out,parts:=x613.parts,at_:=x613.at_,has:=r640.1 }:AA)) :: (CI b62 o1)))))) (some b62) fun _ x740=>Q (true,((b62,({ i:=x740.i,j:=x740.j,mask:=x740.mask,out:=x740.out,parts:=x740.parts,at_:=AJ (x740.at_+1),has:=x740.has }:AA)) :: (CI b62 ((b62,({ i:=x718.i,j:=x718.j,mask:=x718.mask,out:=x718.out,parts:=(CI ({ kind:=7,stage:=x112.at_ }:AZ) x718.parts),at_:=x718.at_,has:=x718.has }:AA)) :: (CI b62 ((b62,({ i:=x674.i,j:=x674.j,mask:=x674.mask,out:=x674.out,parts:=(CI ({ kind:=6,stage:=x112.at_ }:AZ) x674.parts),at_:=x674.at_,has:=x674.has }:AA)) :: (CI b62 ((b62,({ i:=x613.i,j:=x613.j,mask:=x613.mask,out:=x613.out,parts:=x613.parts,at_:=x613.at_,has:=r640.1 }:AA)) :: (CI b62 o1))))))))))))
def CX (o0:AB) (o1:List (Nat×AA)) (o2:List (Nat×AF)) (a0:Int) (a1:Int) (a2:Int) (Q:(Bool×AB×(List (Nat×AA))×(List (Nat×AF)))→Prop):Prop:=
  CA o0 o1 o2 a0 a1 (fun r292=>JH a2 fun r376=>AQ (!r376.2.1) (Q (false,r292.1,o1,r292.2)) (BD r292.1.workers a1 fun x401=>FV o1 x401 fun b431 x432=>BK (fun (s476:(List (Nat×AA))) (next477:(List (Nat×AA))→Prop)=>CU r292.1 s476 (some b431) fun r487=>AQ r487.1 (next477 r487.2) (Q (true,r292.1,r487.2,r292.2))) ((b431,({ i:=x432.i,j:=x432.j,mask:=x432.mask,out:=x432.out,parts:=(ET ({ kind:=r376.1.Kind,stage:=r376.1.Round }:AZ) r376.1.Triples x432.parts),at_:=x432.at_,has:=x432.has }:AA)) :: (CI b431 o1)))) (fun r331=>NU r331.2.2 r331.1 a2 fun r498=>AQ (!r498.2.1) (Q (false,r331.2.1,o1,r498.2.2.2)) (BD r331.2.1.workers a1 fun x524=>FV o1 x524 fun b554 x555=>BK (fun (s599:(List (Nat×AA))) (next600:(List (Nat×AA))→Prop)=>CU r331.2.1 s599 (some b554) fun r610=>AQ r610.1 (next600 r610.2) (Q (true,r331.2.1,r610.2,r498.2.2.2))) ((b554,({ i:=x555.i,j:=x555.j,mask:=x555.mask,out:=x555.out,parts:=(ET ({ kind:=r498.1.Kind,stage:=r498.1.Round }:AZ) r498.1.Triples x555.parts),at_:=x555.at_,has:=x555.has }:AA)) :: (CI b554 o1))))
def SR   : Prop:=
  False
def HH (a0:Int) (Q:Int→Prop):Prop:=
  FP a0 fun r15=>AQ (r15 != 0) (Q r15) (SR )
def HI (o0:AF) (a0:Int) (Q:(Int×AF)→Prop):Prop:=
  GL o0 a0 fun r25=>AQ (r25 != 0) (Q (r25,o0)) (GV o0 fun r42=>AQ r42 (Q (9,o0)) (BD o0.row a0 fun x46=>HM o0 x46 fun r56=>Q (0,r56)))
def LM (o0:List (Nat×AF)) (a0:Option Nat) (a1:Int) (Q:(Int×(List (Nat×AF)))→Prop):Prop:=
  lC a0 (HH a1 fun rr=>Q (rr,o0)) fun b=>nY o0 b fun x=>HI x a1 fun rr=>Q (rr.1,(b,rr.2) :: CI b o0)
def JJ (a0:Int) (Q:Int→Prop):Prop:=
  FP a0 fun r15=>AQ (r15 != 0) (Q r15) (False)
def JK (o0:AF) (a0:Int) (Q:(Int×AF)→Prop):Prop:=
  GL o0 a0 fun r25=>AQ (r25 != 0) (Q (r25,o0)) (BD o0.row a0 fun x33=>DO o0.row a0 (AJ (a0+1)) fun r43=>HY 8 r43 ([x33]) fun _=>Q (0,({ room:=o0.room,row:=(r43++([x33])),by_:=o0.by_,often:=o0.often,sent:=o0.sent,taken:=o0.taken }:AF)))
def NV (o0:List (Nat×AF)) (a0:Option Nat) (a1:Int) (Q:(Int×(List (Nat×AF)))→Prop):Prop:=
  lC a0 (JJ a1 fun rr=>Q (rr,o0)) fun b=>nY o0 b fun x=>JK x a1 fun rr=>Q (rr.1,(b,rr.2) :: CI b o0)
def HN (o0:AF) (Q:Int→Prop):Prop:=
  Q (o0.row.length:Int)
def HO  (Q:Int→Prop):Prop:=
  Q 0
def ES (o0:List (Nat×AF)) (a0:Option Nat) (Q:Int→Prop):Prop:=
  lC a0 (HO  fun rr=>Q rr) fun b=>nY o0 b fun x=>HN x  fun rr=>Q rr
def IX (o0:Int) (a0:Int) (Q:Bool→Prop):Prop:=
  Q (a0==o0)
def DY (o0:List Int) (o1:Int) (Q:Int→Prop):Prop:=
  BK (fun (s39:Int) (next40:Int→Prop)=>AQ (decide (s39<(o0.length:Int))) (BD o0 s39 fun x46=>IX o1 x46 fun r56=>AQ r56 (Q s39) (next40 (AJ (s39+1)))) (Q (-1))) 0
def HJ (o0:AF) (Q:Int→Prop):Prop:=
  HN o0 fun r25=>AQ (r25==0) (Q (-1)) (ID o0.row fun r27=>DY o0.row r27 fun r39=>Q r39)
def PP  (Q:Int→Prop):Prop:=
  HO  fun r15=>AQ (r15==0) (Q (-1)) (False)
def IG (o0:List (Nat×AF)) (a0:Option Nat) (Q:Int→Prop):Prop:=
  lC a0 (PP  fun rr=>Q rr) fun b=>nY o0 b fun x=>HJ x  fun rr=>Q rr
def DW (o0:AB) (o1:List (Nat×AA)) (o2:List (Nat×AF)) (Q:(Bool×AB×(List (Nat×AA))×(List (Nat×AF)))→Prop):Prop:=
  BK (fun (s:Int×Int×Int×(List Int)×(List Int)×(List Int)×Int×Int×(List Int)×(List Int)×(List Int)×Int×Int×(List Int)×(List Int)×(List Int)×Int×Int×Int×(List AY)×(List (Option Nat))×(List ((Int×Int)×(Option Nat)))×Bool×Int×(List (Nat×AA))×(List (Nat×AF))) (next761:(Int×Int×Int×(List Int)×(List Int)×(List Int)×Int×Int×(List Int)×(List Int)×(List Int)×Int×Int×(List Int)×(List Int)×(List Int)×Int×Int×Int×(List AY)×(List (Option Nat))×(List ((Int×Int)×(Option Nat)))×Bool×Int×(List (Nat×AA))×(List (Nat×AF)))→Prop)=>match s with | (s702,s703,s704,s705,s709,s713,s717,s718,s719,s723,s727,s731,s732,s733,s737,s741,s745,s746,s747,s748,s752,s756,s757,s758,s759,s760)=>AQ (decide (s758<(o0.workers.length:Int))) (CW ({ p:=({ Ring:=s702,A:=({ Rows:=s703,Cols:=s704,Start:=s705,Col:=s709,Val:=s713 }:Rows),B:=({ Rows:=s717,Cols:=s718,Start:=s719,Col:=s723,Val:=s727 }:Rows),Mask:=({ Rows:=s731,Cols:=s732,Start:=s733,Col:=s737,Val:=s741 }:Rows),R:=s745,C:=s746,Room:=s747 }:BB),stages:=s748,workers:=s752,boxes:=s756 }:AB) s759 s760 s758 fun r772=>AQ r772.1 (next761 (r772.2.1.p.Ring,r772.2.1.p.A.Rows,r772.2.1.p.A.Cols,r772.2.1.p.A.Start,r772.2.1.p.A.Col,r772.2.1.p.A.Val,r772.2.1.p.B.Rows,r772.2.1.p.B.Cols,r772.2.1.p.B.Start,r772.2.1.p.B.Col,r772.2.1.p.B.Val,r772.2.1.p.Mask.Rows,r772.2.1.p.Mask.Cols,r772.2.1.p.Mask.Start,r772.2.1.p.Mask.Col,r772.2.1.p.Mask.Val,r772.2.1.p.R,r772.2.1.p.C,r772.2.1.p.Room,r772.2.1.stages,r772.2.1.workers,r772.2.1.boxes,true,AJ (s758+1),r772.2.2.1,r772.2.2.2)) (next761 (r772.2.1.p.Ring,r772.2.1.p.A.Rows,r772.2.1.p.A.Cols,r772.2.1.p.A.Start,r772.2.1.p.A.Col,r772.2.1.p.A.Val,r772.2.1.p.B.Rows,r772.2.1.p.B.Cols,r772.2.1.p.B.Start,r772.2.1.p.B.Col,r772.2.1.p.B.Val,r772.2.1.p.Mask.Rows,r772.2.1.p.Mask.Cols,r772.2.1.p.Mask.Start,r772.2.1.p.Mask.Col,r772.2.1.p.Mask.Val,r772.2.1.p.R,r772.2.1.p.C,r772.2.1.p.Room,r772.2.1.stages,r772.2.1.workers,r772.2.1.boxes,s757,AJ (s758+1),r772.2.2.1,r772.2.2.2))) (BK (fun (s:Int×Int×Int×(List Int)×(List Int)×(List Int)×Int×Int×(List Int)×(List Int)×(List Int)×Int×Int×(List Int)×(List Int)×(List Int)×Int×Int×Int×(List AY)×(List (Option Nat))×(List ((Int×Int)×(Option Nat)))×Bool×Int×(List (Nat×AA))×(List (Nat×AF))) (next2118:(Int×Int×Int×(List Int)×(List Int)×(List Int)×Int×Int×(List Int)×(List Int)×(List Int)×Int×Int×(List Int)×(List Int)×(List Int)×Int×Int×Int×(List AY)×(List (Option Nat))×(List ((Int×Int)×(Option Nat)))×Bool×Int×(List (Nat×AA))×(List (Nat×AF)))→Prop)=>match s with | (s2059,s2060,s2061,s2062,s2066,s2070,s2074,s2075,s2076,s2080,s2084,s2088,s2089,s2090,s2094,s2098,s2102,s2103,s2104,s2105,s2109,s2113,s2114,s2115,s2116,s2117)=>AQ (decide (s2115<(s752.length:Int))) (BK (fun (s:Int×Int×Int×(List Int)×(List Int)×(List Int)×Int×Int×(List Int)×(List Int)×(List Int)×Int×Int×(List Int)×(List Int)×(List Int)×Int×Int×Int×(List AY)×(List (Option Nat))×(List ((Int×Int)×(Option Nat)))×Bool×Int×(List (Nat×AA))×(List (Nat×AF))) (next2564:(Int×Int×Int×(List Int)×(List Int)×(List Int)×Int×Int×(List Int)×(List Int)×(List Int)×Int×Int×(List Int)×(List Int)×(List Int)×Int×Int×Int×(List AY)×(List (Option Nat))×(List ((Int×Int)×(Option Nat)))×Bool×Int×(List (Nat×AA))×(List (Nat×AF)))→Prop)=>match s with | (s2505,s2506,s2507,s2508,s2512,s2516,s2520,s2521,s2522,s2526,s2530,s2534,s2535,s2536,s2540,s2544,s2548,s2549,s2550,s2551,s2555,s2559,s2560,s2561,s2562,s2563)=>AQ (decide (s2561<(s2109.length:Int))) (uR s2559 (s2115,s2561) none fun r2577=>ES s2563 r2577 fun r2599=>IG s2563 r2577 fun r2609=>CX ({ p:=({ Ring:=s2505,A:=({ Rows:=s2506,Cols:=s2507,Start:=s2508,Col:=s2512,Val:=s2516 }:Rows),B:=({ Rows:=s2520,Cols:=s2521,Start:=s2522,Col:=s2526,Val:=s2530 }:Rows),Mask:=({ Rows:=s2534,Cols:=s2535,Start:=s2536,Col:=s2540,Val:=s2544 }:Rows),R:=s2548,C:=s2549,Room:=s2550 }:BB),stages:=s2551,workers:=s2555,boxes:=s2559 }:AB) s2562 s2563 s2115 s2561 r2609 fun r2619=>AQ s2560 (next2564 (r2619.2.1.p.Ring,r2619.2.1.p.A.Rows,r2619.2.1.p.A.Cols,r2619.2.1.p.A.Start,r2619.2.1.p.A.Col,r2619.2.1.p.A.Val,r2619.2.1.p.B.Rows,r2619.2.1.p.B.Cols,r2619.2.1.p.B.Start,r2619.2.1.p.B.Col,r2619.2.1.p.B.Val,r2619.2.1.p.Mask.Rows,r2619.2.1.p.Mask.Cols,r2619.2.1.p.Mask.Start,r2619.2.1.p.Mask.Col,r2619.2.1.p.Mask.Val,r2619.2.1.p.R,r2619.2.1.p.C,r2619.2.1.p.Room,r2619.2.1.stages,r2619.2.1.workers,r2619.2.1.boxes,true,AJ (s2561+1),r2619.2.2.1,r2619.2.2.2)) (ES r2619.2.2.2 r2577 fun r2669=>next2564 (r2619.2.1.p.Ring,r2619.2.1.p.A.Rows,r2619.2.1.p.A.Cols,r2619.2.1.p.A.Start,r2619.2.1.p.A.Col,r2619.2.1.p.A.Val,r2619.2.1.p.B.Rows,r2619.2.1.p.B.Cols,r2619.2.1.p.B.Start,r2619.2.1.p.B.Col,r2619.2.1.p.B.Val,r2619.2.1.p.Mask.Rows,r2619.2.1.p.Mask.Cols,r2619.2.1.p.Mask.Start,r2619.2.1.p.Mask.Col,r2619.2.1.p.Mask.Val,r2619.2.1.p.R,r2619.2.1.p.C,r2619.2.1.p.Room,r2619.2.1.stages,r2619.2.1.workers,r2619.2.1.boxes,decide (r2669<r2599),AJ (s2561+1),r2619.2.2.1,r2619.2.2.2))) (next2118 (s2505,s2506,s2507,s2508,s2512,s2516,s2520,s2521,s2522,s2526,s2530,s2534,s2535,s2536,s2540,s2544,s2548,s2549,s2550,s2551,s2555,s2559,s2560,AJ (s2115+1),s2562,s2563))) (s2059,s2060,s2061,s2062,s2066,s2070,s2074,s2075,s2076,s2080,s2084,s2088,s2089,s2090,s2094,s2098,s2102,s2103,s2104,s2105,s2109,s2113,s2114,0,s2116,s2117)) (Q (s2114,({ p:=({ Ring:=s2059,A:=({ Rows:=s2060,Cols:=s2061,Start:=s2062,Col:=s2066,Val:=s2070 }:Rows),B:=({ Rows:=s2074,Cols:=s2075,Start:=s2076,Col:=s2080,Val:=s2084 }:Rows),Mask:=({ Rows:=s2088,Cols:=s2089,Start:=s2090,Col:=s2094,Val:=s2098 }:Rows),R:=s2102,C:=s2103,Room:=s2104 }:BB),stages:=s2105,workers:=s2109,boxes:=s2113 }:AB),s2116,s2117))) (s702,s703,s704,s705,s709,s713,s717,s718,s719,s723,s727,s731,s732,s733,s737,s741,s745,s746,s747,s748,s752,s756,s757,0,s759,s760))) (o0.p.Ring,o0.p.A.Rows,o0.p.A.Cols,o0.p.A.Start,o0.p.A.Col,o0.p.A.Val,o0.p.B.Rows,o0.p.B.Cols,o0.p.B.Start,o0.p.B.Col,o0.p.B.Val,o0.p.Mask.Rows,o0.p.Mask.Cols,o0.p.Mask.Start,o0.p.Mask.Col,o0.p.Mask.Val,o0.p.R,o0.p.C,o0.p.Room,o0.stages,o0.workers,o0.boxes,false,0,o1,o2)
def EA (o0:AB) (o1:List (Nat×AA)) (o2:List (Nat×AF)) (a0:FY) (Q:(Bool×AB×(List (Nat×AA))×(List (Nat×AF)))→Prop):Prop:=
  RF a0 fun r49=>AQ (!r49) (Q (false,o0,o1,o2)) (AQ (a0.Kind==1) (CW o0 o1 o2 a0.A fun r61=>Q (r61.1,r61.2.1,r61.2.2.1,r61.2.2.2)) (AQ (a0.Kind==2) (CX o0 o1 o2 a0.A a0.B a0.K fun r108=>Q (r108.1,r108.2.1,r108.2.2.1,r108.2.2.2)) (AQ (a0.Kind==3) (CA o0 o1 o2 a0.A a0.B (fun r155=>HH a0.K fun r239=>Q (r239==0,r155.1,o1,r155.2)) (fun r194=>LM r194.2.2 r194.1 a0.K fun r247=>Q (r247.1==0,r194.2.1,o1,r247.2))) (AQ (a0.Kind==4) (CA o0 o1 o2 a0.A a0.B (fun r257=>JJ a0.K fun r341=>Q (r341==0,r257.1,o1,r257.2)) (fun r296=>NV r296.2.2 r296.1 a0.K fun r349=>Q (r349.1==0,r296.2.1,o1,r349.2))) (DW o0 o1 o2 fun r358=>Q (r358.1,r358.2.1,r358.2.2.1,r358.2.2.2))))))
def GG (o1:List (Nat×AA)) (o2:AB) (a0:Option Nat) (Q:Bool→Prop):Prop:=
  FV o1 a0 fun b41 x42=>Q (decide (x42.at_<(o2.stages.length:Int)))
def CL (o1:List (Nat×AA)) (o2:AB) (a0:List (Option Nat)) (Q:Int→Prop):Prop:=
  BK (fun (s85:Int) (next86:Int→Prop)=>AQ (decide (s85<(a0.length:Int))) (BD a0 s85 fun x92=>GG o1 o2 x92 fun r106=>AQ r106 (Q s85) (next86 (AJ (s85+1)))) (Q (-1))) 0
def CJ (o1:List (Nat×AA)) (o2:AB) (a0:List (Option Nat)) (Q:Bool→Prop):Prop:=
  CL o1 o2 a0 fun r50=>Q (decide (0≤r50))
def CO (o0:AB) (o1:List (Nat×AA)) (Q:Bool→Prop):Prop:=
  CJ o1 o0 o0.workers fun r49=>Q (!r49)
def EB (o0:AB) (o1:List (Nat×AA)) (Q:(List AK)→Prop):Prop:=
  BK (fun (s:(List AK)×Int) (next536:((List AK)×Int)→Prop)=>match s with | (s530,s534)=>AQ (decide (s534<(o0.workers.length:Int))) (BD o0.workers s534 fun x551=>FV o1 x551 fun b589 x590=>FR o0.p.A.Rows o0.p.R x590.i fun r611=>FR o0.p.B.Cols o0.p.C x590.j fun r615=>FV o1 (some b589) fun _ x642=>BK (fun (s:(List AK)×Int) (next743:((List AK)×Int)→Prop)=>match s with | (s738,s742)=>AQ (decide (s742<(x642.has.length:Int))) (BD x642.has s742 fun x761=>HY 32 s738 ([({ Row:=AJ (x761.Row+r611),Col:=AJ (x761.Col+r615),Val:=x761.Val }:AK)]) fun _=>next743 ((s738++([({ Row:=AJ (x761.Row+r611),Col:=AJ (x761.Col+r615),Val:=x761.Val }:AK)])),AJ (s742+1))) (next536 (s738,AJ (s534+1)))) (s530,0)) (tG GF s530 fun y783=>Q y783)) (([]:List AK),0)
def DX (o0:AB) (o1:List (Nat×AA)) (Q:(Rows×Int)→Prop):Prop:=
  EB o0 o1 fun r49=>XV o0.p.Ring o0.p.A.Rows o0.p.B.Cols r49 fun r53=>Q (r53.1,r53.2)
def NW (a0:BB) (a1:List FY) (a2:Int) (Q:(Rows×Bool×Int)→Prop):Prop:=
  EJ ([]:List (Nat×AA)) ([]:List (Nat×AF)) a0 (fun r150=>AQ (r150.1 != 0) (Q (({ Rows:=0,Cols:=0,Start:=([]:List Int),Col:=([]:List Int),Val:=([]:List Int) }:Rows),false,r150.1)) (AQ (decide (1048576<(a1.length:Int))) (Q (({ Rows:=0,Cols:=0,Start:=([]:List Int),Col:=([]:List Int),Val:=([]:List Int) }:Rows),false,5)) (BU a1 fun r228=>AQ r228 (Q (({ Rows:=0,Cols:=0,Start:=([]:List Int),Col:=([]:List Int),Val:=([]:List Int) }:Rows),false,8)) (AQ (decide (a2<0)) (Q (({ Rows:=0,Cols:=0,Start:=([]:List Int),Col:=([]:List Int),Val:=([]:List Int) }:Rows),false,3)) (AQ (decide (1048576<a2)) (Q (({ Rows:=0,Cols:=0,Start:=([]:List Int),Col:=([]:List Int),Val:=([]:List Int) }:Rows),false,3)) (BK (fun (s350:Int) (next351:Int→Prop)=>AQ (decide (s350<(a1.length:Int))) (BD a1 s350 fun x358=>JY r150.2 ([]:List (Nat×AF)) x358 fun r374=>next351 (AJ (s350+1))) (FF (fun (k457:Unit→Prop)=>BK (fun (_:Unit) (next475:Unit→Prop)=>AQ (decide (0<a2)) (FI r150.2 fun r487=>AQ (!r487) (KQ r150.2 ([]:List (Nat×AF))) (k457 ())) (k457 ())) ()) fun _=>DV r150.2 fun r508=>FI r150.2 fun r529=>Q (r508.1,r529,r508.2))) 0)))))) (fun r152=>AQ (r152.1 != 0) (Q (({ Rows:=0,Cols:=0,Start:=([]:List Int),Col:=([]:List Int),Val:=([]:List Int) }:Rows),false,r152.1)) (AQ (decide (1048576<(a1.length:Int))) (Q (({ Rows:=0,Cols:=0,Start:=([]:List Int),Col:=([]:List Int),Val:=([]:List Int) }:Rows),false,5)) (BU a1 fun r570=>AQ r570 (Q (({ Rows:=0,Cols:=0,Start:=([]:List Int),Col:=([]:List Int),Val:=([]:List Int) }:Rows),false,8)) (AQ (decide (a2<0)) (Q (({ Rows:=0,Cols:=0,Start:=([]:List Int),Col:=([]:List Int),Val:=([]:List Int) }:Rows),false,3)) (AQ (decide (1048576<a2)) (Q (({ Rows:=0,Cols:=0,Start:=([]:List Int),Col:=([]:List Int),Val:=([]:List Int) }:Rows),false,3)) (BK (fun (s:Int×Int×Int×(List Int)×(List Int)×(List Int)×Int×Int×(List Int)×(List Int)×(List Int)×Int×Int×(List Int)×(List Int)×(List Int)×Int×Int×Int×(List AY)×(List (Option Nat))×(List ((Int×Int)×(Option Nat)))×Int×(List (Nat×AA))×(List (Nat×AF))) (next1344:(Int×Int×Int×(List Int)×(List Int)×(List Int)×Int×Int×(List Int)×(List Int)×(List Int)×Int×Int×(List Int)×(List Int)×(List Int)×Int×Int×Int×(List AY)×(List (Option Nat))×(List ((Int×Int)×(Option Nat)))×Int×(List (Nat×AA))×(List (Nat×AF)))→Prop)=>match s with | (s1286,s1287,s1288,s1289,s1293,s1297,s1301,s1302,s1303,s1307,s1311,s1315,s1316,s1317,s1321,s1325,s1329,s1330,s1331,s1332,s1336,s1340,s1341,s1342,s1343)=>AQ (decide (s1341<(a1.length:Int))) (BD a1 s1341 fun x1351=>EA ({ p:=({ Ring:=s1286,A:=({ Rows:=s1287,Cols:=s1288,Start:=s1289,Col:=s1293,Val:=s1297 }:Rows),B:=({ Rows:=s1301,Cols:=s1302,Start:=s1303,Col:=s1307,Val:=s1311 }:Rows),Mask:=({ Rows:=s1315,Cols:=s1316,Start:=s1317,Col:=s1321,Val:=s1325 }:Rows),R:=s1329,C:=s1330,Room:=s1331 }:BB),stages:=s1332,workers:=s1336,boxes:=s1340 }:AB) s1342 s1343 x1351 fun r1367=>next1344 (r1367.2.1.p.Ring,r1367.2.1.p.A.Rows,r1367.2.1.p.A.Cols,r1367.2.1.p.A.Start,r1367.2.1.p.A.Col,r1367.2.1.p.A.Val,r1367.2.1.p.B.Rows,r1367.2.1.p.B.Cols,r1367.2.1.p.B.Start,r1367.2.1.p.B.Col,r1367.2.1.p.B.Val,r1367.2.1.p.Mask.Rows,r1367.2.1.p.Mask.Cols,r1367.2.1.p.Mask.Start,r1367.2.1.p.Mask.Col,r1367.2.1.p.Mask.Val,r1367.2.1.p.R,r1367.2.1.p.C,r1367.2.1.p.Room,r1367.2.1.stages,r1367.2.1.workers,r1367.2.1.boxes,AJ (s1341+1),r1367.2.2.1,r1367.2.2.2)) (FF (fun (k2302:(Int×Int×Int×(List Int)×(List Int)×(List Int)×Int×Int×(List Int)×(List Int)×(List Int)×Int×Int×(List Int)×(List Int)×(List Int)×Int×Int×Int×(List AY)×(List (Option Nat))×(List ((Int×Int)×(Option Nat)))×(List (Nat×AA))×(List (Nat×AF)))→Prop)=>BK (fun (s:Int×Int×Int×(List Int)×(List Int)×(List Int)×Int×Int×(List Int)×(List Int)×(List Int)×Int×Int×(List Int)×(List Int)×(List Int)×Int×Int×Int×(List AY)×(List (Option Nat))×(List ((Int×Int)×(Option Nat)))×Int×(List (Nat×AA))×(List (Nat×AF))) (next2655:(Int×Int×Int×(List Int)×(List Int)×(List Int)×Int×Int×(List Int)×(List Int)×(List Int)×Int×Int×(List Int)×(List Int)×(List Int)×Int×Int×Int×(List AY)×(List (Option Nat))×(List ((Int×Int)×(Option Nat)))×Int×(List (Nat×AA))×(List (Nat×AF)))→Prop)=>match s with | (s2597,s2598,s2599,s2600,s2604,s2608,s2612,s2613,s2614,s2618,s2622,s2626,s2627,s2628,s2632,s2636,s2640,s2641,s2642,s2643,s2647,s2651,s2652,s2653,s2654)=>AQ (decide (s2652<a2)) (CO ({ p:=({ Ring:=s2597,A:=({ Rows:=s2598,Cols:=s2599,Start:=s2600,Col:=s2604,Val:=s2608 }:Rows),B:=({ Rows:=s2612,Cols:=s2613,Start:=s2614,Col:=s2618,Val:=s2622 }:Rows),Mask:=({ Rows:=s2626,Cols:=s2627,Start:=s2628,Col:=s2632,Val:=s2636 }:Rows),R:=s2640,C:=s2641,Room:=s2642 }:BB),stages:=s2643,workers:=s2647,boxes:=s2651 }:AB) s2653 fun r2667=>AQ (!r2667) (DW ({ p:=({ Ring:=s2597,A:=({ Rows:=s2598,Cols:=s2599,Start:=s2600,Col:=s2604,Val:=s2608 }:Rows),B:=({ Rows:=s2612,Cols:=s2613,Start:=s2614,Col:=s2618,Val:=s2622 }:Rows),Mask:=({ Rows:=s2626,Cols:=s2627,Start:=s2628,Col:=s2632,Val:=s2636 }:Rows),R:=s2640,C:=s2641,Room:=s2642 }:BB),stages:=s2643,workers:=s2647,boxes:=s2651 }:AB) s2653 s2654 fun r2678=>next2655 (r2678.2.1.p.Ring,r2678.2.1.p.A.Rows,r2678.2.1.p.A.Cols,r2678.2.1.p.A.Start,r2678.2.1.p.A.Col,r2678.2.1.p.A.Val,r2678.2.1.p.B.Rows,r2678.2.1.p.B.Cols,r2678.2.1.p.B.Start,r2678.2.1.p.B.Col,r2678.2.1.p.B.Val,r2678.2.1.p.Mask.Rows,r2678.2.1.p.Mask.Cols,r2678.2.1.p.Mask.Start,r2678.2.1.p.Mask.Col,r2678.2.1.p.Mask.Val,r2678.2.1.p.R,r2678.2.1.p.C,r2678.2.1.p.Room,r2678.2.1.stages,r2678.2.1.workers,r2678.2.1.boxes,AJ (s2652+1),r2678.2.2.1,r2678.2.2.2)) (k2302 (s2597,s2598,s2599,s2600,s2604,s2608,s2612,s2613,s2614,s2618,s2622,s2626,s2627,s2628,s2632,s2636,s2640,s2641,s2642,s2643,s2647,s2651,s2653,s2654))) (k2302 (s2597,s2598,s2599,s2600,s2604,s2608,s2612,s2613,s2614,s2618,s2622,s2626,s2627,s2628,s2632,s2636,s2640,s2641,s2642,s2643,s2647,s2651,s2653,s2654))) (s1286,s1287,s1288,s1289,s1293,s1297,s1301,s1302,s1303,s1307,s1311,s1315,s1316,s1317,s1321,s1325,s1329,s1330,s1331,s1332,s1336,s1340,0,s1342,s1343)) fun (s2245,s2246,s2247,s2248,s2252,s2256,s2260,s2261,s2262,s2266,s2270,s2274,s2275,s2276,s2280,s2284,s2288,s2289,s2290,s2291,s2295,s2299,s2300,s2301)=>DX ({ p:=({ Ring:=s2245,A:=({ Rows:=s2246,Cols:=s2247,Start:=s2248,Col:=s2252,Val:=s2256 }:Rows),B:=({ Rows:=s2260,Cols:=s2261,Start:=s2262,Col:=s2266,Val:=s2270 }:Rows),Mask:=({ Rows:=s2274,Cols:=s2275,Start:=s2276,Col:=s2280,Val:=s2284 }:Rows),R:=s2288,C:=s2289,Room:=s2290 }:BB),stages:=s2291,workers:=s2295,boxes:=s2299 }:AB) s2300 fun r2731=>CO ({ p:=({ Ring:=s2245,A:=({ Rows:=s2246,Cols:=s2247,Start:=s2248,Col:=s2252,Val:=s2256 }:Rows),B:=({ Rows:=s2260,Cols:=s2261,Start:=s2262,Col:=s2266,Val:=s2270 }:Rows),Mask:=({ Rows:=s2274,Cols:=s2275,Start:=s2276,Col:=s2280,Val:=s2284 }:Rows),R:=s2288,C:=s2289,Room:=s2290 }:BB),stages:=s2291,workers:=s2295,boxes:=s2299 }:AB) s2300 fun r2752=>Q (r2731.1,r2752,r2731.2))) (r152.2.2.p.Ring,r152.2.2.p.A.Rows,r152.2.2.p.A.Cols,r152.2.2.p.A.Start,r152.2.2.p.A.Col,r152.2.2.p.A.Val,r152.2.2.p.B.Rows,r152.2.2.p.B.Cols,r152.2.2.p.B.Start,r152.2.2.p.B.Col,r152.2.2.p.B.Val,r152.2.2.p.Mask.Rows,r152.2.2.p.Mask.Cols,r152.2.2.p.Mask.Start,r152.2.2.p.Mask.Col,r152.2.2.p.Mask.Val,r152.2.2.p.R,r152.2.2.p.C,r152.2.2.p.Room,r152.2.2.stages,r152.2.2.workers,r152.2.2.boxes,0,r152.2.1,([]:List (Nat×AF)))))))))
def EU (o0:List (Nat×AA)) (a0:Int) (Q:Bool→Prop):Prop:=
  Q false
def NI (o0:List (Nat×AA)) (o1:List (Nat×AF)) (a0:Int) (a1:Int) (Q:Unit→Prop):Prop:=
  EU o0 a0 fun r26=>AQ (!r26) (Q ()) (EU o0 a1 fun r34=>AQ (!r34) (Q ()) (False))
def NJ (o0:List (Nat×AA)) (o1:List (Nat×AF)) (a0:Int) (a1:Int) (Q:Int→Prop):Prop:=
  NI o0 o1 a0 a1 fun r9=>HO  fun r16=>Q r16
def KR  (Q:Int→Prop):Prop:=
  Q 0
def ML (o0:List (Nat×AF)) (Q:Int→Prop):Prop:=
  Q 0
def MM (o0:List (Nat×AA)) (a0:Int) (Q:Int→Prop):Prop:=
  EU o0 a0 fun r16=>AQ (!r16) (Q 0) (False)
def LY (o0:List (Nat×AA)) (a0:Int) (Q:Int→Prop):Prop:=
  EU o0 a0 fun r16=>AQ (!r16) (Q 0) (False)
def DS (o0:AB) (o1:List (Nat×AA)) (o2:List (Nat×AF)) (a0:Int) (a1:Int) (Q:(Int×AB×(List (Nat×AF)))→Prop):Prop:=
  CA o0 o1 o2 a0 a1 (fun r46=>HO  fun r130=>Q (r130,r46.1,r46.2)) (fun r85=>ES r85.2.2 r85.1 fun r138=>Q (r138,r85.2.1,r85.2.2))
def CM (o0:AB) (Q:Int→Prop):Prop:=
  Q (o0.stages.length:Int)
def JL (o0:AF) (Q:Int→Prop):Prop:=
  Q o0.sent
def SS  (Q:Int→Prop):Prop:=
  Q 0
def NX (o0:List (Nat×AF)) (a0:Option Nat) (Q:Int→Prop):Prop:=
  lC a0 (SS  fun rr=>Q rr) fun b=>nY o0 b fun x=>JL x  fun rr=>Q rr
def EO (o0:AB) (o1:List (Nat×AF)) (Q:Int→Prop):Prop:=
  BK (fun (s:(List ((Int×Int)×(Option Nat)))×Int) (next105:((List ((Int×Int)×(Option Nat)))×Int)→Prop)=>match s with | (s103,s104)=>sZ s103 (Q s104) (fun p122 l123=>NX o1 p122.2 fun r135=>next105 (l123,AJ (s104+r135)))) (o0.boxes,0)
def EC (o0:AB) (o1:List (Nat×AA)) (a0:Int) (Q:Int→Prop):Prop:=
  DE o0 o1 a0 fun r53=>AQ (!r53) (Q 0) (BD o0.workers a0 fun x56=>FV o1 x56 fun b64 x65=>Q x65.at_)
def UZ  (Q:Bool→Prop):Prop:=
  TS 5 2 2 ([({ Row:=0,Col:=1,Val:=3 }:AC),({ Row:=1,Col:=0,Val:=5 }:AC)]:List AC) fun r32=>UY 2 2 fun r71=>EJ ([]:List (Nat×AA)) ([]:List (Nat×AF)) ({ Ring:=5,A:=r32.1,B:=r32.1,Mask:=r71,R:=2,C:=1,Room:=1 }:BB) (fun r193=>JY r193.2 ([]:List (Nat×AF)) ({ Kind:=1,A:=0,B:=0,K:=0 }:FY) fun r249=>NJ r193.2 ([]:List (Nat×AF)) 0 0 fun r265=>GU ({ Ring:=5,A:=r32.1,B:=r32.1,Mask:=r71,R:=2,C:=1,Room:=1 }:BB) fun r291=>NW ({ Ring:=5,A:=r32.1,B:=r32.1,Mask:=r71,R:=2,C:=1,Room:=1 }:BB) ([]:List FY) r291 fun r295=>TZ r295.1 0 0 fun r317=>FF (fun (k421:(Int×(List (Nat×AA)))→Prop)=>EJ r193.2 ([]:List (Nat×AF)) ({ Ring:=0,A:=({ Rows:=0,Cols:=0,Start:=([]:List Int),Col:=([]:List Int),Val:=([]:List Int) }:Rows),B:=({ Rows:=0,Cols:=0,Start:=([]:List Int),Col:=([]:List Int),Val:=([]:List Int) }:Rows),Mask:=({ Rows:=0,Cols:=0,Start:=([]:List Int),Col:=([]:List Int),Val:=([]:List Int) }:Rows),R:=0,C:=0,Room:=0 }:BB) (fun r428=>k421 (r428.1,r428.2)) (fun r430=>k421 (r430.1,r430.2.1))) fun (s419,s420)=>DV s420 fun r500=>AQ (r193.1==0) (AQ r249 (AQ (r265==1) (KR  fun r523=>AQ (r523==2) (ML ([]:List (Nat×AF)) fun r533=>AQ (r533==1) (FI s420 fun r543=>AQ (!r543) (AQ (r295.2.2==0) (AQ r295.2.1 (AQ (r317.1==15) (AQ r317.2 (AQ (s419==8) (AQ (r500.2==10) (GU ({ Ring:=5,A:=r32.1,B:=r32.1,Mask:=r71,R:=2,C:=1,Room:=1 }:BB) fun r553=>AQ (r553==11) (MM s420 0 fun r564=>AQ (r564==3) (LY s420 0 fun r574=>AQ (r574==0) (GR ({ Ring:=5,A:=r32.1,B:=r32.1,Mask:=r71,R:=2,C:=1,Room:=1 }:BB) fun r578=>Q (r578==0)) (Q false)) (Q false)) (Q false)) (Q false)) (Q false)) (Q false)) (Q false)) (Q false)) (Q false)) (Q false)) (Q false)) (Q false)) (Q false)) (Q false)) (Q false)) (fun r195=>EA r195.2.2 r195.2.1 ([]:List (Nat×AF)) ({ Kind:=1,A:=0,B:=0,K:=0 }:FY) fun r636=>DS r636.2.1 r636.2.2.1 r636.2.2.2 0 0 fun r729=>GU ({ Ring:=5,A:=r32.1,B:=r32.1,Mask:=r71,R:=2,C:=1,Room:=1 }:BB) fun r793=>NW ({ Ring:=5,A:=r32.1,B:=r32.1,Mask:=r71,R:=2,C:=1,Room:=1 }:BB) ([]:List FY) r793 fun r797=>TZ r797.1 0 0 fun r819=>FF (fun (k923:(Int×(List (Nat×AA)))→Prop)=>EJ r636.2.2.1 r729.2.2 ({ Ring:=0,A:=({ Rows:=0,Cols:=0,Start:=([]:List Int),Col:=([]:List Int),Val:=([]:List Int) }:Rows),B:=({ Rows:=0,Cols:=0,Start:=([]:List Int),Col:=([]:List Int),Val:=([]:List Int) }:Rows),Mask:=({ Rows:=0,Cols:=0,Start:=([]:List Int),Col:=([]:List Int),Val:=([]:List Int) }:Rows),R:=0,C:=0,Room:=0 }:BB) (fun r930=>k923 (r930.1,r930.2)) (fun r932=>k923 (r932.1,r932.2.1))) fun (s921,s922)=>DV s922 fun r1002=>AQ (r195.1==0) (AQ r636.1 (AQ (r729.1==1) (CM r729.2.1 fun r1025=>AQ (r1025==2) (EO r729.2.1 r729.2.2 fun r1035=>AQ (r1035==1) (CO r729.2.1 s922 fun r1045=>AQ (!r1045) (AQ (r797.2.2==0) (AQ r797.2.1 (AQ (r819.1==15) (AQ r819.2 (AQ (s921==8) (AQ (r1002.2==10) (GU ({ Ring:=5,A:=r32.1,B:=r32.1,Mask:=r71,R:=2,C:=1,Room:=1 }:BB) fun r1055=>AQ (r1055==11) (DM r729.2.1 s922 0 fun r1066=>AQ (r1066==3) (EC r729.2.1 s922 0 fun r1076=>AQ (r1076==0) (GR ({ Ring:=5,A:=r32.1,B:=r32.1,Mask:=r71,R:=2,C:=1,Room:=1 }:BB) fun r1080=>Q (r1080==0)) (Q false)) (Q false)) (Q false)) (Q false)) (Q false)) (Q false)) (Q false)) (Q false)) (Q false)) (Q false)) (Q false)) (Q false)) (Q false)) (Q false)) (Q false))
def MN (a0:JT) (a1:GQ) (Q:Bool→Prop):Prop:=
  LF a0 fun r59=>EJ ([]:List (Nat×AA)) ([]:List (Nat×AF)) r59 (fun r199=>Q false) (fun r201=>AQ (r201.1 != 0) (Q false) (IE a1 (AJ (r59.R*r59.C)) fun r255=>BK (fun (s:Int×Int×Int×(List Int)×(List Int)×(List Int)×Int×Int×(List Int)×(List Int)×(List Int)×Int×Int×(List Int)×(List Int)×(List Int)×Int×Int×Int×(List AY)×(List (Option Nat))×(List ((Int×Int)×(Option Nat)))×Int×(List (Nat×AA))×(List (Nat×AF))) (next3608:(Int×Int×Int×(List Int)×(List Int)×(List Int)×Int×Int×(List Int)×(List Int)×(List Int)×Int×Int×(List Int)×(List Int)×(List Int)×Int×Int×Int×(List AY)×(List (Option Nat))×(List ((Int×Int)×(Option Nat)))×Int×(List (Nat×AA))×(List (Nat×AF)))→Prop)=>match s with | (s3550,s3551,s3552,s3553,s3557,s3561,s3565,s3566,s3567,s3571,s3575,s3579,s3580,s3581,s3585,s3589,s3593,s3594,s3595,s3596,s3600,s3604,s3605,s3606,s3607)=>AQ (decide (s3605<(r255.length:Int))) (BD r255 s3605 fun x3672=>EA ({ p:=({ Ring:=s3550,A:=({ Rows:=s3551,Cols:=s3552,Start:=s3553,Col:=s3557,Val:=s3561 }:Rows),B:=({ Rows:=s3565,Cols:=s3566,Start:=s3567,Col:=s3571,Val:=s3575 }:Rows),Mask:=({ Rows:=s3579,Cols:=s3580,Start:=s3581,Col:=s3585,Val:=s3589 }:Rows),R:=s3593,C:=s3594,Room:=s3595 }:BB),stages:=s3596,workers:=s3600,boxes:=s3604 }:AB) s3606 s3607 x3672 fun r3686=>BK (fun (s:Int×Int×Int×(List Int)×(List Int)×(List Int)×Int×Int×(List Int)×(List Int)×(List Int)×Int×Int×(List Int)×(List Int)×(List Int)×Int×Int×Int×(List AY)×(List (Option Nat))×(List ((Int×Int)×(Option Nat)))×Int×Int×(List (Nat×AF))) (next4984:(Int×Int×Int×(List Int)×(List Int)×(List Int)×Int×Int×(List Int)×(List Int)×(List Int)×Int×Int×(List Int)×(List Int)×(List Int)×Int×Int×Int×(List AY)×(List (Option Nat))×(List ((Int×Int)×(Option Nat)))×Int×Int×(List (Nat×AF)))→Prop)=>match s with | (s4926,s4927,s4928,s4929,s4933,s4937,s4941,s4942,s4943,s4947,s4951,s4955,s4956,s4957,s4961,s4965,s4969,s4970,s4971,s4972,s4976,s4980,s4981,s4982,s4983)=>AQ (decide (s4982<(AJ (r59.R*r59.C)))) (DM ({ p:=({ Ring:=s4926,A:=({ Rows:=s4927,Cols:=s4928,Start:=s4929,Col:=s4933,Val:=s4937 }:Rows),B:=({ Rows:=s4941,Cols:=s4942,Start:=s4943,Col:=s4947,Val:=s4951 }:Rows),Mask:=({ Rows:=s4955,Cols:=s4956,Start:=s4957,Col:=s4961,Val:=s4965 }:Rows),R:=s4969,C:=s4970,Room:=s4971 }:BB),stages:=s4972,workers:=s4976,boxes:=s4980 }:AB) r3686.2.2.1 s4982 fun r5007=>BD r255 s3605 fun x5012=>DS ({ p:=({ Ring:=s4926,A:=({ Rows:=s4927,Cols:=s4928,Start:=s4929,Col:=s4933,Val:=s4937 }:Rows),B:=({ Rows:=s4941,Cols:=s4942,Start:=s4943,Col:=s4947,Val:=s4951 }:Rows),Mask:=({ Rows:=s4955,Cols:=s4956,Start:=s4957,Col:=s4961,Val:=s4965 }:Rows),R:=s4969,C:=s4970,Room:=s4971 }:BB),stages:=s4972,workers:=s4976,boxes:=s4980 }:AB) r3686.2.2.1 s4983 x5012.A s4982 fun r5026=>AQ (decide (r59.Room<r5026.1)) (Q false) (BD r255 s3605 fun x5070=>DS r5026.2.1 r3686.2.2.1 r5026.2.2 s4982 x5070.B fun r5084=>AQ (decide (r59.Room<r5084.1)) (Q false) (EC r5084.2.1 r3686.2.2.1 s4982 fun r5133=>CM r5084.2.1 fun r5143=>AQ (decide (r5143<r5133)) (Q false) (next4984 (r5084.2.1.p.Ring,r5084.2.1.p.A.Rows,r5084.2.1.p.A.Cols,r5084.2.1.p.A.Start,r5084.2.1.p.A.Col,r5084.2.1.p.A.Val,r5084.2.1.p.B.Rows,r5084.2.1.p.B.Cols,r5084.2.1.p.B.Start,r5084.2.1.p.B.Col,r5084.2.1.p.B.Val,r5084.2.1.p.Mask.Rows,r5084.2.1.p.Mask.Cols,r5084.2.1.p.Mask.Start,r5084.2.1.p.Mask.Col,r5084.2.1.p.Mask.Val,r5084.2.1.p.R,r5084.2.1.p.C,r5084.2.1.p.Room,r5084.2.1.stages,r5084.2.1.workers,r5084.2.1.boxes,AJ (s4981+r5007),AJ (s4982+1),r5084.2.2))))) (EO ({ p:=({ Ring:=s4926,A:=({ Rows:=s4927,Cols:=s4928,Start:=s4929,Col:=s4933,Val:=s4937 }:Rows),B:=({ Rows:=s4941,Cols:=s4942,Start:=s4943,Col:=s4947,Val:=s4951 }:Rows),Mask:=({ Rows:=s4955,Cols:=s4956,Start:=s4957,Col:=s4961,Val:=s4965 }:Rows),R:=s4969,C:=s4970,Room:=s4971 }:BB),stages:=s4972,workers:=s4976,boxes:=s4980 }:AB) s4983 fun r5154=>CM ({ p:=({ Ring:=s4926,A:=({ Rows:=s4927,Cols:=s4928,Start:=s4929,Col:=s4933,Val:=s4937 }:Rows),B:=({ Rows:=s4941,Cols:=s4942,Start:=s4943,Col:=s4947,Val:=s4951 }:Rows),Mask:=({ Rows:=s4955,Cols:=s4956,Start:=s4957,Col:=s4961,Val:=s4965 }:Rows),R:=s4969,C:=s4970,Room:=s4971 }:BB),stages:=s4972,workers:=s4976,boxes:=s4980 }:AB) fun r5164=>AQ ((AJ (r5154+s4981)) != (AJ ((AJ (2*(AJ (r59.R*r59.C))))*r5164))) (Q false) (next3608 (s4926,s4927,s4928,s4929,s4933,s4937,s4941,s4942,s4943,s4947,s4951,s4955,s4956,s4957,s4961,s4965,s4969,s4970,s4971,s4972,s4976,s4980,AJ (s3605+1),r3686.2.2.1,s4983)))) (r3686.2.1.p.Ring,r3686.2.1.p.A.Rows,r3686.2.1.p.A.Cols,r3686.2.1.p.A.Start,r3686.2.1.p.A.Col,r3686.2.1.p.A.Val,r3686.2.1.p.B.Rows,r3686.2.1.p.B.Cols,r3686.2.1.p.B.Start,r3686.2.1.p.B.Col,r3686.2.1.p.B.Val,r3686.2.1.p.Mask.Rows,r3686.2.1.p.Mask.Cols,r3686.2.1.p.Mask.Start,r3686.2.1.p.Mask.Col,r3686.2.1.p.Mask.Val,r3686.2.1.p.R,r3686.2.1.p.C,r3686.2.1.p.Room,r3686.2.1.stages,r3686.2.1.workers,r3686.2.1.boxes,0,0,r3686.2.2.2)) (UZ  fun r5169=>Q r5169)) (r201.2.2.p.Ring,r201.2.2.p.A.Rows,r201.2.2.p.A.Cols,r201.2.2.p.A.Start,r201.2.2.p.A.Col,r201.2.2.p.A.Val,r201.2.2.p.B.Rows,r201.2.2.p.B.Cols,r201.2.2.p.B.Start,r201.2.2.p.B.Col,r201.2.2.p.B.Val,r201.2.2.p.Mask.Rows,r201.2.2.p.Mask.Cols,r201.2.2.p.Mask.Start,r201.2.2.p.Mask.Col,r201.2.2.p.Mask.Val,r201.2.2.p.R,r201.2.2.p.C,r201.2.2.p.Room,r201.2.2.stages,r201.2.2.workers,r201.2.2.boxes,0,r201.2.1,([]:List (Nat×AF)))))
abbrev oE (o_:BB) (q0:Option Addr) (q1:Nat) (q2:Option Addr) (q3:Nat) (q4:Option Addr) (q5:Nat) (q6:Option Addr) (q7:Nat) (q8:Option Addr) (q9:Nat) (q10:Option Addr) (q11:Nat) (q12:Option Addr) (q13:Nat) (q14:Option Addr) (q15:Nat) (q16:Option Addr) (q17:Nat):Array Value:=#[.int .i64 o_.Ring,.int .i64 o_.A.Rows,.int .i64 o_.A.Cols,.slice q0 o_.A.Start.length q1,.slice q2 o_.A.Col.length q3,.slice q4 o_.A.Val.length q5,.int .i64 o_.B.Rows,.int .i64 o_.B.Cols,.slice q6 o_.B.Start.length q7,.slice q8 o_.B.Col.length q9,.slice q10 o_.B.Val.length q11,.int .i64 o_.Mask.Rows,.int .i64 o_.Mask.Cols,.slice q12 o_.Mask.Start.length q13,.slice q14 o_.Mask.Col.length q15,.slice q16 o_.Mask.Val.length q17,.int .i64 o_.R,.int .i64 o_.C,.int .i64 o_.Room]
abbrev AO (o_:AB) (q0:Option Addr) (q1:Nat) (q2:Option Addr) (q3:Nat) (q4:Option Addr) (q5:Nat) (q6:Option Addr) (q7:Nat) (q8:Option Addr) (q9:Nat) (q10:Option Addr) (q11:Nat) (q12:Option Addr) (q13:Nat) (q14:Option Addr) (q15:Nat) (q16:Option Addr) (q17:Nat) (q18:Option Addr) (q19:Nat) (q20:Option Addr) (q21:Nat) (q22:Nat):Array Value:=#[.int .i64 o_.p.Ring,.int .i64 o_.p.A.Rows,.int .i64 o_.p.A.Cols,.slice q0 o_.p.A.Start.length q1,.slice q2 o_.p.A.Col.length q3,.slice q4 o_.p.A.Val.length q5,.int .i64 o_.p.B.Rows,.int .i64 o_.p.B.Cols,.slice q6 o_.p.B.Start.length q7,.slice q8 o_.p.B.Col.length q9,.slice q10 o_.p.B.Val.length q11,.int .i64 o_.p.Mask.Rows,.int .i64 o_.p.Mask.Cols,.slice q12 o_.p.Mask.Start.length q13,.slice q14 o_.p.Mask.Col.length q15,.slice q16 o_.p.Mask.Val.length q17,.int .i64 o_.p.R,.int .i64 o_.p.C,.int .i64 o_.p.Room,.slice q18 o_.stages.length q19,.slice q20 o_.workers.length q21,.map (some q22)]
abbrev OM (o_:AA) (q0:Option Addr) (q1:Nat) (q2:Option Addr) (q3:Nat) (q4:Option Addr) (q5:Nat) (q6:Option Addr) (q7:Nat) (q8:Nat) (q9:Option Addr) (q10:Nat):Array Value:=#[.int .i64 o_.i,.int .i64 o_.j,.int .i64 o_.mask.Rows,.int .i64 o_.mask.Cols,.slice q0 o_.mask.Start.length q1,.slice q2 o_.mask.Col.length q3,.slice q4 o_.mask.Val.length q5,.slice q6 o_.out.length q7,.map (some q8),.int .i64 o_.at_,.slice q9 o_.has.length q10]
end Go.Proofs.YtbohadngdkjljaaGreat
