/- Types, and pure functions as the Go text has them (printed by a program of ours). -/
import Derived.Test.YtbohadngdkjljaaGreatFwU
import Derived.Test.YtbohadngdkjljaaGreatFwK
namespace Go.Proofs.YtbohadngdkjljaaGreat
open Go Go.Fw
set_option linter.unusedVariables false
set_option linter.unusedSimpArgs false
set_option maxRecDepth 8000
set_option maxHeartbeats 1000000
abbrev AE:FB Int:=JU 1 (fun x=>[.int .i64 x]) (fun _=>⟨rfl,rfl⟩)
abbrev AeY:FB Int:=JU 1 (fun x=>[.int .u64 x]) (fun _=>⟨rfl,rfl⟩)
abbrev eU8:FB Int:=JU 1 (fun x=>[.int .u8 x]) (fun _=>⟨rfl,rfl⟩)
abbrev eB:FB Bool:=JU 1 (fun x=>[.bool x]) (fun _=>⟨rfl,rfl⟩)
structure AN where
  Hi:Int
  Lo:Int
deriving DecidableEq,Inhabited
def EH (x:AN):List Value:=[.int .i64 x.Hi,.int .u64 x.Lo]
abbrev PL:FB AN:=JU 2 EH (fun _=>⟨rfl,rfl⟩)
structure DO where
  From:Int
  To:Int
  W:Int
deriving DecidableEq,Inhabited
def mQ (x:DO):List Value:=[.int .i64 x.From,.int .i64 x.To,.int .i64 x.W]
abbrev ZE:FB DO:=JU 3 mQ (fun _=>⟨rfl,rfl⟩)
structure Rows where
  Rows:Int
  Cols:Int
  Start:List Int
  Col:List Int
  Val:List Int
deriving DecidableEq,Inhabited
def pN:FB Rows where
  sz:=5
  rep I cs x:=∃ a2 c2 a3 c3 a4 c4,cs=[.int .i64 x.Rows,.int .i64 x.Cols,.slice a2 x.Start.length c2,.slice a3 x.Col.length c3,.slice a4 x.Val.length c4]∧RepSl AE I a2 c2 x.Start∧RepSl AE I a3 c3 x.Col∧RepSl AE I a4 c4 x.Val
  mono hle:=fun ⟨a2,c2,a3,c3,a4,c4,e,h0,h1,h2⟩=>⟨a2,c2,a3,c3,a4,c4,e,h0.mono hle,h1.mono hle,h2.mono hle⟩
  len:=fun ⟨a2,c2,a3,c3,a4,c4,e,_,_,_⟩=>by rw [e]; rfl
  one:=fun ⟨a2,c2,a3,c3,a4,c4,e,_,_,_⟩=>by rw [e]; rfl
structure AC where
  Row:Int
  Col:Int
  Val:Int
deriving DecidableEq,Inhabited
def YF (x:AC):List Value:=[.int .i64 x.Row,.int .i64 x.Col,.int .i64 x.Val]
abbrev AW:FB AC:=JU 3 YF (fun _=>⟨rfl,rfl⟩)
structure BL where
  Ring:Int
  A:Rows
  B:Rows
  Mask:Rows
  R:Int
  C:Int
  Room:Int
deriving DecidableEq,Inhabited
structure BE where
  From:Int
  To:Int
  Row:Int
  Col:Int
deriving DecidableEq,Inhabited
def gX (x:BE):List Value:=[.int .i64 x.From,.int .i64 x.To,.int .i64 x.Row,.int .i64 x.Col]
abbrev BU:FB BE:=JU 4 gX (fun _=>⟨rfl,rfl⟩)
structure CE where
  At:Int
  Val:Int
deriving DecidableEq,Inhabited
def AbG (x:CE):List Value:=[.int .i64 x.At,.int .i64 x.Val]
abbrev MH:FB CE:=JU 2 AbG (fun _=>⟨rfl,rfl⟩)
structure JV where
  Kind:Int
  A:Int
  B:Int
  K:Int
deriving DecidableEq,Inhabited
def bF (x:JV):List Value:=[.int .i64 x.Kind,.int .i64 x.A,.int .i64 x.B,.int .i64 x.K]
abbrev yW:FB JV:=JU 4 bF (fun _=>⟨rfl,rfl⟩)
structure dC where
  At:Int
  Val:AN
deriving DecidableEq,Inhabited
def Ad4 (x:dC):List Value:=[.int .i64 x.At,.int .i64 x.Val.Hi,.int .u64 x.Val.Lo]
abbrev dJ:FB dC:=JU 3 Ad4 (fun _=>⟨rfl,rfl⟩)
structure Vec where
  N:Int
  Items:List CE
deriving DecidableEq,Inhabited
structure BP where
  Kind:Int
  From:Int
  To:Int
  Seq:Int
  Round:Int
  Vec:Vec
  Sums:List dC
  Triples:List AC
  N:Int
  Over:Bool
deriving DecidableEq,Inhabited
def DF:FB BP where
  sz:=11
  rep I cs x:=∃ a6 c6 a7 c7 a8 c8,cs=[.int .i64 x.Kind,.int .i64 x.From,.int .i64 x.To,.int .i64 x.Seq,.int .i64 x.Round,.int .i64 x.Vec.N,.slice a6 x.Vec.Items.length c6,.slice a7 x.Sums.length c7,.slice a8 x.Triples.length c8,.int .i64 x.N,.bool x.Over]∧RepSl MH I a6 c6 x.Vec.Items∧RepSl dJ I a7 c7 x.Sums∧RepSl AW I a8 c8 x.Triples
  mono hle:=fun ⟨a6,c6,a7,c7,a8,c8,e,h0,h1,h2⟩=>⟨a6,c6,a7,c7,a8,c8,e,h0.mono hle,h1.mono hle,h2.mono hle⟩
  len:=fun ⟨a6,c6,a7,c7,a8,c8,e,_,_,_⟩=>by rw [e]; rfl
  one:=fun ⟨a6,c6,a7,c7,a8,c8,e,_,_,_⟩=>by rw [e]; rfl
structure AK where
  Row:Int
  Col:Int
  Val:AN
deriving DecidableEq,Inhabited
def PB (x:AK):List Value:=[.int .i64 x.Row,.int .i64 x.Col,.int .i64 x.Val.Hi,.int .u64 x.Val.Lo]
abbrev CD:FB AK:=JU 4 PB (fun _=>⟨rfl,rfl⟩)
structure BC where
  kind:Int
  stage:Int
deriving DecidableEq,Inhabited
def UB (x:BC):List Value:=[.int .i64 x.kind,.int .i64 x.stage]
abbrev FC (x:BC):Value:=.agg (UB x).toArray
structure AA where
  i:Int
  j:Int
  mask:Rows
  out:List BP
  parts:List (BC×(List AC))
  at_:Int
  has:List AK
deriving DecidableEq,Inhabited
structure AF where
  room:Int
  row:List Int
  by_:List (Int×BP)
  often:List (Int×Int)
  sent:Int
  taken:Int
deriving DecidableEq,Inhabited
structure AD where
  p:BL
  stages:List BE
  workers:List (Option Nat)
  boxes:List ((Int×Int)×(Option Nat))
deriving DecidableEq,Inhabited
structure IE where
  Ring:Int
  Size:Int×Int
  L:List AC
  X:List CE
  Y:List CE
  F:List Int
  Others:Bool
deriving DecidableEq,Inhabited
structure OI where
  Ring:Int
  Size:Int×Int×Int
  A:List AC
  B:List AC
  M:List AC
deriving DecidableEq,Inhabited
def pO:FB OI where
  sz:=7
  rep I cs x:=∃ a4 c4 a5 c5 a6 c6,cs=[.int .i64 x.Ring,.int .u8 x.Size.1,.int .u8 x.Size.2.1,.int .u8 x.Size.2.2,.slice a4 x.A.length c4,.slice a5 x.B.length c5,.slice a6 x.M.length c6]∧RepSl AW I a4 c4 x.A∧RepSl AW I a5 c5 x.B∧RepSl AW I a6 c6 x.M
  mono hle:=fun ⟨a4,c4,a5,c5,a6,c6,e,h0,h1,h2⟩=>⟨a4,c4,a5,c5,a6,c6,e,h0.mono hle,h1.mono hle,h2.mono hle⟩
  len:=fun ⟨a4,c4,a5,c5,a6,c6,e,_,_,_⟩=>by rw [e]; rfl
  one:=fun ⟨a4,c4,a5,c5,a6,c6,e,_,_,_⟩=>by rw [e]; rfl
structure JX where
  T:OI
  R:Int
  C:Int
  Room:Int
deriving DecidableEq,Inhabited
def pP:FB JX where
  sz:=10
  rep I cs x:=∃ a4 c4 a5 c5 a6 c6,cs=[.int .i64 x.T.Ring,.int .u8 x.T.Size.1,.int .u8 x.T.Size.2.1,.int .u8 x.T.Size.2.2,.slice a4 x.T.A.length c4,.slice a5 x.T.B.length c5,.slice a6 x.T.M.length c6,.int .u8 x.R,.int .u8 x.C,.int .u8 x.Room]∧RepSl AW I a4 c4 x.T.A∧RepSl AW I a5 c5 x.T.B∧RepSl AW I a6 c6 x.T.M
  mono hle:=fun ⟨a4,c4,a5,c5,a6,c6,e,h0,h1,h2⟩=>⟨a4,c4,a5,c5,a6,c6,e,h0.mono hle,h1.mono hle,h2.mono hle⟩
  len:=fun ⟨a4,c4,a5,c5,a6,c6,e,_,_,_⟩=>by rw [e]; rfl
  one:=fun ⟨a4,c4,a5,c5,a6,c6,e,_,_,_⟩=>by rw [e]; rfl
def AG:BoxTy AA where
  A:=Option Addr×Nat×Option Addr×Nat×Option Addr×Nat×Option Addr×Nat×Nat×Option Addr×Nat
  fact I a x:=RepSl AE I (a.1) (a.2.1) x.mask.Start∧RepSl AE I (a.2.2.1) (a.2.2.2.1) x.mask.Col∧RepSl AE I (a.2.2.2.2.1) (a.2.2.2.2.2.1) x.mask.Val∧RepSl DF I (a.2.2.2.2.2.2.1) (a.2.2.2.2.2.2.2.1) x.out∧RepSl CD I (a.2.2.2.2.2.2.2.2.2.1) (a.2.2.2.2.2.2.2.2.2.2) x.has
  mono:=fun h ⟨h0,h1,h2,h3,h4⟩=>⟨h0.mono h,h1.mono h,h2.mono h,h3.mono h,h4.mono h⟩
  obj a x:=.cells #[.int .i64 x.i,.int .i64 x.j,.int .i64 x.mask.Rows,.int .i64 x.mask.Cols,.slice (a.1) x.mask.Start.length (a.2.1),.slice (a.2.2.1) x.mask.Col.length (a.2.2.2.1),.slice (a.2.2.2.2.1) x.mask.Val.length (a.2.2.2.2.2.1),.slice (a.2.2.2.2.2.2.1) x.out.length (a.2.2.2.2.2.2.2.1),.map (some (a.2.2.2.2.2.2.2.2.1)),.int .i64 x.at_,.slice (a.2.2.2.2.2.2.2.2.2.1) x.has.length (a.2.2.2.2.2.2.2.2.2.2)] 127 (0,0)
  more a x:=[OwnMap FC (TY AW) false (a.2.2.2.2.2.2.2.2.1) x.parts]
def AU:BoxTy AF where
  A:=Option Addr×Nat×Nat×Nat
  fact I a x:=True
  mono:=fun _ _=>trivial
  obj a x:=.cells #[.int .i64 x.room,.slice (a.1) x.row.length (a.2.1),.map (some (a.2.2.1)),.map (some (a.2.2.2)),.int .i64 x.sent,.int .i64 x.taken] 213 (0,0)
  more a x:=[OwnSl AE 3 (a.1) (a.2.1) x.row,OwnMap (Value.int .i64) DF true (a.2.2.1) x.by_,OwnMap (Value.int .i64) AE false (a.2.2.2) x.often]
def RU (a0:Int) (Q:Bool→Prop):Prop:=
  AQ (decide (1≤a0)) (Q (decide (a0≤5))) (Q false)
def KN (a0:AN) (a1:AN) (Q:AN→Prop):Prop:=
  AQ (decide ((IntKind.wrap .u64 (a0.Lo+a1.Lo))<a0.Lo)) (Q ({ Hi:=AJ ((AJ (a0.Hi+a1.Hi))+1),Lo:=IntKind.wrap .u64 (a0.Lo+a1.Lo) }:AN)) (Q ({ Hi:=AJ (a0.Hi+a1.Hi),Lo:=IntKind.wrap .u64 (a0.Lo+a1.Lo) }:AN))
def HI (a0:AN) (a1:AN) (Q:Int→Prop):Prop:=
  EY (fun (k15:Unit→Prop)=>AQ (decide (a0.Hi<a1.Hi)) (Q (-1)) (AQ (a0.Hi==a1.Hi) (AQ (decide (a0.Lo<a1.Lo)) (Q (-1)) (k15 ())) (k15 ()))) fun _=>AQ (a0==a1) (Q 0) (Q 1)
def JY (a0:Bool) (Q:AN→Prop):Prop:=
  AQ a0 (Q ({ Hi:=0,Lo:=1 }:AN)) (Q ({ Hi:=0,Lo:=0 }:AN))
def UR (a0:Int) (a1:AN) (a2:AN) (Q:AN→Prop):Prop:=
  EY (fun (k18:Bool→Prop)=>AQ (a0==1) (k18 (a0==1)) (AQ (a0==3) (k18 (a0==3)) (k18 (a0==4)))) fun s17=>AQ s17 (HI a2 a1 fun r24=>AQ (decide (r24<0)) (Q a2) (Q a1)) (AQ (a0==2) (AQ (!(a1==({ Hi:=0,Lo:=0 }:AN))) (JY true fun r31=>Q r31) (JY (!(a2==({ Hi:=0,Lo:=0 }:AN))) fun r35=>Q r35)) (AQ (a0==5) (KN a1 a2 fun r40=>Q r40) (Q ({ Hi:=0,Lo:=0 }:AN))))
def GX (a0:Int) (Q:AN→Prop):Prop:=
  AQ (decide (a0<0)) (Q ({ Hi:=(-1),Lo:=IntKind.wrap .u64 (a0) }:AN)) (Q ({ Hi:=0,Lo:=IntKind.wrap .u64 (a0) }:AN))
def NE (a0:AN) (Q:(Int×Bool)→Prop):Prop:=
  AQ (a0.Hi==0) (AQ (decide (0≤(AJ (a0.Lo)))) (Q (AJ (a0.Lo),true)) (AQ (a0.Hi==(-1)) (AQ (decide ((AJ (a0.Lo))<0)) (Q (AJ (a0.Lo),true)) (Q (0,false))) (Q (0,false)))) (AQ (a0.Hi==(-1)) (AQ (decide ((AJ (a0.Lo))<0)) (Q (AJ (a0.Lo),true)) (Q (0,false))) (Q (0,false)))
def PM (a0:DO) (a1:DO) (Q:Bool→Prop):Prop:=
  AQ (decide (a0.From<a1.From)) (Q true) (AQ (a0.From==a1.From) (Q (decide (a0.To<a1.To))) (Q false))
def PC (a0:Int) (a1:List DO) (Q:((List DO)×Int)→Prop):Prop:=
  RU a0 fun r12=>AQ (!r12) (Q (([]:List DO),8)) (BN (fun (s:(List DO)×(List AN)×Int) (next2668:((List DO)×(List AN)×Int)→Prop)=>match s with | (s2657,s2661,s2665)=>AQ (decide (s2665<(a1.length:Int))) (EY (fun (k2822:Int→Prop)=>BN (fun (s2870:Int) (next2871:Int→Prop)=>AQ (decide (s2870<(s2657.length:Int))) (AY s2657 s2870 fun x2879=>AY a1 s2665 fun x2884=>PM x2879 x2884 fun r2892=>AQ r2892 (next2871 (AJ (s2870+1))) (k2822 s2870)) (k2822 s2870)) 0) fun s2821=>AY a1 s2665 fun x2916=>GX x2916.W fun r2924=>EY (fun (k3057:Bool→Prop)=>AQ (decide (s2821<(s2657.length:Int))) (AY a1 s2665 fun x3062=>AY s2657 s2821 fun x3071=>PM x3062 x3071 fun r3075=>k3057 (!r3075)) (k3057 false)) fun s3056=>AQ s3056 (AY s2661 s2821 fun x3087=>UR a0 x3087 r2924 fun r3091=>AY s2661 s2821 fun x3096=>next2668 (s2657,(s2661.set s2821.toNat r3091),AJ (s2665+1))) (HS 24 s2657 ([({ From:=0,To:=0,W:=0 }:DO)]) fun _=>HS 16 s2661 ([({ Hi:=0,Lo:=0 }:AN)]) fun _=>BN (fun (s:(List DO)×(List AN)×Int) (next3290:((List DO)×(List AN)×Int)→Prop)=>match s with | (s3281,s3285,s3289)=>AQ (decide (s2821<s3289)) (AY s3281 (AJ (s3289 - 1)) fun x3299=>AY s3281 s3289 fun x3304=>AY s3285 (AJ (s3289 - 1)) fun x3307=>AY s3285 s3289 fun x3312=>next3290 ((s3281.set s3289.toNat x3299),(s3285.set s3289.toNat x3307),AJ (s3289 - 1))) (AY a1 s2665 fun x3317=>AY a1 s2665 fun x3326=>AY s3281 s2821 fun x3335=>AY s3285 s2821 fun x3340=>next2668 ((s3281.set s2821.toNat ({ From:=x3317.From,To:=x3326.To,W:=0 }:DO)),(s3285.set s2821.toNat r2924),AJ (s2665+1)))) ((s2657++([({ From:=0,To:=0,W:=0 }:DO)])),(s2661++([({ Hi:=0,Lo:=0 }:AN)])),AJ (((s2657++([({ From:=0,To:=0,W:=0 }:DO)])).length:Int) - 1)))) (BN (fun (s:(List DO)×Int) (next3416:((List DO)×Int)→Prop)=>match s with | (s3411,s3415)=>AQ (decide (s3415<(s3411.length:Int))) (AY s2661 s3415 fun x3432=>NE x3432 fun r3436=>AQ (!r3436.2) (Q (([]:List DO),12)) (AY s3411 s3415 fun x3443=>next3416 ((s3411.set s3415.toNat ({ From:=x3443.From,To:=x3443.To,W:=r3436.1 }:DO)),AJ (s3415+1)))) (Q (s3411,0))) (s2657,0))) (([]:List DO),([]:List AN),0))
def JZ (a0:Int) (a1:Int) (Q:Rows→Prop):Prop:=
  mkP 8 (AJ (a0+1)) 0 fun _=>Q ({ Rows:=a0,Cols:=a1,Start:=(List.replicate (AJ (a0+1)).toNat 0),Col:=([]:List Int),Val:=([]:List Int) }:Rows)
def TI (a0:Int) (a1:Int) (a2:List AC) (Q:Rows→Prop):Prop:=
  JZ a0 a1 fun r38=>BN (fun (s:(List Int)×(List Int)×(List Int)×Int) (next403:((List Int)×(List Int)×(List Int)×Int)→Prop)=>match s with | (s390,s394,s398,s402)=>AQ (decide (s402<(a2.length:Int))) (AY a2 s402 fun x431=>HS 8 s394 ([x431.Col]) fun _=>AY a2 s402 fun x467=>HS 8 s398 ([x467.Val]) fun _=>AY a2 s402 fun x491=>BN (fun (s:(List Int)×Int) (next539:((List Int)×Int)→Prop)=>match s with | (s534,s538)=>AQ (decide (s538≤a0)) (AY s534 s538 fun x547=>AY s534 s538 fun x552=>next539 ((s534.set s538.toNat (AJ (x547+1))),AJ (s538+1))) (next403 (s534,(s394++([x431.Col])),(s398++([x467.Val])),AJ (s402+1)))) (s390,AJ (x491.Row+1))) (Q ({ Rows:=r38.Rows,Cols:=r38.Cols,Start:=s390,Col:=s394,Val:=s398 }:Rows))) (r38.Start,r38.Col,r38.Val,0)
def RV (a0:Int) (a1:Int) (a2:Int) (a3:List AC) (Q:(Rows×Int)→Prop):Prop:=
  RU a0 fun r22=>AQ (!r22) (Q (({ Rows:=0,Cols:=0,Start:=([]:List Int),Col:=([]:List Int),Val:=([]:List Int) }:Rows),8)) (AQ (decide (a1<0)) (Q (({ Rows:=0,Cols:=0,Start:=([]:List Int),Col:=([]:List Int),Val:=([]:List Int) }:Rows),3)) (AQ (decide (4096<a1)) (Q (({ Rows:=0,Cols:=0,Start:=([]:List Int),Col:=([]:List Int),Val:=([]:List Int) }:Rows),3)) (AQ (decide (a2<0)) (Q (({ Rows:=0,Cols:=0,Start:=([]:List Int),Col:=([]:List Int),Val:=([]:List Int) }:Rows),3)) (AQ (decide (4096<a2)) (Q (({ Rows:=0,Cols:=0,Start:=([]:List Int),Col:=([]:List Int),Val:=([]:List Int) }:Rows),3)) (AQ (decide (65536<(a3.length:Int))) (Q (({ Rows:=0,Cols:=0,Start:=([]:List Int),Col:=([]:List Int),Val:=([]:List Int) }:Rows),5)) (BN (fun (s:(List DO)×Int) (next662:((List DO)×Int)→Prop)=>match s with | (s656,s660)=>AQ (decide (s660<(a3.length:Int))) (AY a3 s660 fun x708=>AQ (decide (x708.Row<0)) (Q (({ Rows:=0,Cols:=0,Start:=([]:List Int),Col:=([]:List Int),Val:=([]:List Int) }:Rows),3)) (AY a3 s660 fun x718=>AQ (decide (a1≤x718.Row)) (Q (({ Rows:=0,Cols:=0,Start:=([]:List Int),Col:=([]:List Int),Val:=([]:List Int) }:Rows),3)) (AY a3 s660 fun x728=>AQ (decide (x728.Col<0)) (Q (({ Rows:=0,Cols:=0,Start:=([]:List Int),Col:=([]:List Int),Val:=([]:List Int) }:Rows),3)) (AY a3 s660 fun x738=>AQ (decide (a2≤x738.Col)) (Q (({ Rows:=0,Cols:=0,Start:=([]:List Int),Col:=([]:List Int),Val:=([]:List Int) }:Rows),3)) (AY a3 s660 fun x749=>AY a3 s660 fun x758=>AY a3 s660 fun x767=>HS 24 s656 ([({ From:=x749.Row,To:=x758.Col,W:=x767.Val }:DO)]) fun _=>next662 ((s656++([({ From:=x749.Row,To:=x758.Col,W:=x767.Val }:DO)])),AJ (s660+1))))))) (PC a0 s656 fun r801=>AQ (r801.2 != 0) (Q (({ Rows:=0,Cols:=0,Start:=([]:List Int),Col:=([]:List Int),Val:=([]:List Int) }:Rows),r801.2)) (BN (fun (s:(List AC)×Int) (next878:((List AC)×Int)→Prop)=>match s with | (s872,s876)=>AQ (decide (s876<(r801.1.length:Int))) (AY r801.1 s876 fun x887=>AY r801.1 s876 fun x892=>AY r801.1 s876 fun x895=>HS 24 s872 ([({ Row:=x887.From,Col:=x892.To,Val:=x895.W }:AC)]) fun _=>next878 ((s872++([({ Row:=x887.From,Col:=x892.To,Val:=x895.W }:AC)])),AJ (s876+1))) (TI a1 a2 s872 fun r908=>Q (r908,0))) (([]:List AC),0)))) (([]:List DO),0)))))))
def IW (a0:Int) (a1:Int) (Q:Bool→Prop):Prop:=
  AQ (decide (1≤a0)) (Q (decide (a0≤a1))) (Q false)
def QL (a0:Int) (Q:Bool→Prop):Prop:=
  AQ (decide (0<a0)) (Q (decide (a0<6))) (Q false)
def GC (a0:Int) (a1:Int) (Q:Bool→Prop):Prop:=
  AQ (decide (0≤a0)) (Q (decide (a0≤a1))) (Q false)
def HJ (a0:Int) (Q:Bool→Prop):Prop:=
  Q (a0 != a0)
def QM (a0:Int) (a1:Int) (Q:Bool→Prop):Prop:=
  HJ a0 fun r1=>AQ r1 (HJ a1 fun r6=>AQ (!r6) (Q true) (Q (decide (a0<a1)))) (Q (decide (a0<a1)))
def FI (a0:List Int) (Q:Bool→Prop):Prop:=
  BN (fun (s57:Int) (next58:Int→Prop)=>AQ (decide (0<s57)) (AY a0 s57 fun x64=>AY a0 (AJ (s57 - 1)) fun x73=>QM x64 x73 fun r81=>AQ r81 (Q false) (next58 (AJ (s57 - 1)))) (Q true)) (AJ ((a0.length:Int) - 1))
def fZ (a0:List Int) (a1:Int) (Q:Bool→Prop):Prop:=
  BN (fun (s68:Int) (next69:Int→Prop)=>AQ (decide (s68<(a0.length:Int))) (AY a0 s68 fun x84=>GC x84 (AJ (a1 - 1)) fun r92=>AQ (!r92) (Q false) (AQ (decide (0<s68)) (AY a0 (AJ (s68 - 1)) fun x99=>AQ (decide (x84≤x99)) (Q false) (next69 (AJ (s68+1)))) (next69 (AJ (s68+1))))) (Q true)) 0
def HU (a0:Rows) (Q:Bool→Prop):Prop:=
  GC a0.Rows 4096 fun r27=>AQ (!r27) (Q false) (GC a0.Cols 4096 fun r32=>AQ (!r32) (Q false) (AQ ((a0.Start.length:Int) != (AJ (a0.Rows+1))) (Q false) (AQ ((a0.Val.length:Int) != (a0.Col.length:Int)) (Q false) (AQ (decide (65536<(a0.Col.length:Int))) (Q false) (AY a0.Start 0 fun x66=>AQ (x66 != 0) (Q false) (AY a0.Start a0.Rows fun x76=>AQ (x76 != (a0.Col.length:Int)) (Q false) (FI a0.Start fun r85=>AQ (!r85) (Q false) (BN (fun (s163:Int) (next164:Int→Prop)=>AQ (decide (s163<a0.Rows)) (AY a0.Start s163 fun x170=>AY a0.Start (AJ (s163+1)) fun x179=>slP a0.Col x170 x179 fun _=>fZ ((a0.Col.take x179.toNat).drop x170.toNat) a0.Cols fun r197=>AQ (!r197) (Q false) (next164 (AJ (s163+1)))) (Q true)) 0))))))))
def GY (a0:BL) (Q:Int→Prop):Prop:=
  QL a0.Ring fun r36=>AQ (!r36) (Q 8) (EY (fun (k70:Bool→Prop)=>HU a0.A fun r71=>AQ (!r71) (k70 true) (HU a0.B fun r76=>AQ (!r76) (k70 true) (HU a0.Mask fun r81=>k70 (!r81)))) fun s69=>AQ s69 (Q 7) (EY (fun (k93:Bool→Prop)=>AQ (a0.A.Cols != a0.B.Rows) (k93 (a0.A.Cols != a0.B.Rows)) (AQ (a0.Mask.Rows != a0.A.Rows) (k93 (a0.Mask.Rows != a0.A.Rows)) (k93 (a0.Mask.Cols != a0.B.Cols)))) fun s92=>AQ s92 (Q 4) (IW a0.R 8 fun r104=>AQ (!r104) (Q 3) (IW a0.C 8 fun r109=>AQ (!r109) (Q 3) (IW a0.Room 64 fun r114=>AQ (!r114) (Q 3) (Q 0))))))
def OJ (a0:Int) (Q:Bool→Prop):Prop:=
  AQ (decide (0<a0)) (Q (decide (a0≤8))) (Q false)
def RW (a0:Int) (a1:Int) (Q:Bool→Prop):Prop:=
  AQ (decide (0≤a0)) (AQ (decide (a0≤4096)) (OJ a1 fun r3=>Q r3) (Q false)) (Q false)
def FS (a0:Int) (a1:Int) (a2:Int) (Q:Int→Prop):Prop:=
  RW a0 a1 fun r6=>AQ (!r6) (Q 0) (nzP a1 <| Q (AJ ((AJ ((if a1<(if 0 > a2 then 0 else a2) then a1 else (if 0 > a2 then 0 else a2))*a0)).tdiv a1)))
def bG (a0:Int) (a1:Int) (a2:Int) (Q:Int→Prop):Prop:=
  RW a0 a1 fun r8=>AQ (!r8) (Q (-1)) (AQ (decide (a2<0)) (Q (-1)) (AQ (decide (a0≤a2)) (Q (-1)) (nzP a0 <| BN (fun (s30:Int) (next31:Int→Prop)=>FS a0 a1 (AJ (s30+1)) fun r34=>AQ (decide (r34≤a2)) (next31 (AJ (s30+1))) (Q s30)) (AJ ((AJ (a2*a1)).tdiv a0)))))
def UC (a0:Int) (a1:Int) (a2:Int) (Q:(Int×Int×Int)→Prop):Prop:=
  Q (a1,a0,a2)
def PX (o0:Nat) (o1:Int) (o2:Int) (o3:Int) (o4:List BE) (o5:Int) (o6:Int) (o7:Int) (o8:Int) (Y:Nat→Int→Int→Int→(List BE)→Int→Int→((Bool×Nat×(List BE)×Int)→Prop)→Prop) (Q:(Nat×(List BE)×Int)→Prop):Prop:=
  BN (fun (s:(List Int)×Int) (next145:((List Int)×Int)→Prop)=>match s with | (s139,s143)=>AQ (decide (s143<o6)) (FS o7 o6 (AJ (s143+1)) fun r150=>HS 8 s139 ([r150]) fun _=>next145 ((s139++([r150])),AJ (s143+1))) (BN (fun (s:(List Int)×Int) (next264:((List Int)×Int)→Prop)=>match s with | (s259,s263)=>AQ (decide (s263<o8)) (FS o7 o8 (AJ (s263+1)) fun r270=>HS 8 s259 ([r270]) fun _=>next264 ((s259++([r270])),AJ (s263+1))) (yT s259 fun y296=>BN (fun (s:(List BE)×Int×Int×Int×Nat) (next396:((List BE)×Int×Int×Int×Nat)→Prop)=>match s with | (s388,s392,s393,s394,s395)=>AQ (decide (s394<(y296.length:Int))) (AY y296 s394 fun x409=>AQ (decide (s393<x409)) (Y s395 o1 o2 o3 s388 s392 x409 fun r420=>AQ (!r420.1) (Q (r420.2.1,r420.2.2.1,r420.2.2.2)) (next396 (r420.2.2.1,r420.2.2.2,x409,AJ (s394+1),r420.2.1))) (next396 (s388,s392,x409,AJ (s394+1),s395))) (Q (s395,s388,s392))) (o4,o5,0,0,o0))) (s139,0))) (([]:List Int),0)
def LC (a0:Int) (a1:Int) (a2:Int) (Q:(List BE)→Prop):Prop:=
  RW a0 a1 fun r26=>AQ (!r26) (Q ([]:List BE)) (RW a0 a2 fun r31=>AQ (!r31) (Q ([]:List BE)) (UC a0 a1 a2 fun r63=>PX 0 a0 a1 a2 ([]:List BE) 0 r63.1 r63.2.1 r63.2.2 (fun (y132:Nat) (y133:Int) (y135:Int) (y137:Int) (y139:List BE) (y145:Int) (x147:Int) (Qy:(Bool×Nat×(List BE)×Int)→Prop)=>eqP y132 0 (bG y133 y135 y145 fun r148=>bG y133 y137 y145 fun r152=>HS 32 y139 ([({ From:=y145,To:=x147,Row:=r148,Col:=r152 }:BE)]) fun _=>Qy (true,0,(y139++([({ From:=y145,To:=x147,Row:=r148,Col:=r152 }:BE)])),x147))) fun r166=>eqP r166.1 0 (Q r166.2.1)))
def US (a0:Int) (a1:Int) (Q:Int→Prop):Prop:=
  OJ a0 fun r1=>AQ (!r1) (Q (-1)) (AQ (decide (a1<0)) (Q (-1)) (AQ (decide ((AJ (a0*8))≤a1)) (Q (-1)) (nzP a0 <| Q (AJ (a1.tdiv a0)))))
def XI (a0:Int) (a1:Int) (Q:Int→Prop):Prop:=
  US a0 a1 fun r1=>AQ (decide (r1<0)) (Q (-1)) (nzP a0 <| Q (a1.tmod a0))
def RX (a0:Int) (Q:Bool→Prop):Prop:=
  AQ (decide (1≤a0)) (Q (decide (a0≤8))) (Q false)
def VR (a0:Int) (a1:Int) (a2:Int) (a3:Int) (Q:Bool→Prop):Prop:=
  RX a0 fun r1=>AQ r1 (RX a1 fun r6=>AQ r6 (AQ (decide (0≤a2)) (AQ (decide (a2<a0)) (AQ (decide (0≤a3)) (Q (decide (a3<a1))) (Q false)) (Q false)) (Q false)) (Q false)) (Q false)
def UT (a0:Int) (a1:Int) (Q:Rows→Prop):Prop:=
  mkP 8 (AJ (a0+1)) 0 fun _=>Q ({ Rows:=a0,Cols:=a1,Start:=(List.replicate (AJ (a0+1)).toNat 0),Col:=([]:List Int),Val:=([]:List Int) }:Rows)
def RC (a0:Int) (a1:Int) (a2:List AC) (Q:Rows→Prop):Prop:=
  UT a0 a1 fun r38=>BN (fun (s:(List Int)×(List Int)×(List Int)×Int) (next427:((List Int)×(List Int)×(List Int)×Int)→Prop)=>match s with | (s414,s418,s422,s426)=>AQ (decide (s426<(a2.length:Int))) (AY a2 s426 fun x445=>AY s414 (AJ (x445.Row+1)) fun x464=>AY s414 (AJ (x445.Row+1)) fun x469=>HS 8 s418 ([x445.Col]) fun _=>HS 8 s422 ([x445.Val]) fun _=>next427 ((s414.set ((AJ (x445.Row+1)).toNat) (AJ (x464+1))),(s418++([x445.Col])),(s422++([x445.Val])),AJ (s426+1))) (BN (fun (s:(List Int)×Int) (next535:((List Int)×Int)→Prop)=>match s with | (s530,s534)=>AQ (decide (s534<a0)) (AY s530 (AJ (s534+1)) fun x546=>AY s530 s534 fun x551=>AY s530 (AJ (s534+1)) fun x554=>next535 ((s530.set ((AJ (s534+1)).toNat) (AJ (x546+x551))),AJ (s534+1))) (Q ({ Rows:=r38.Rows,Cols:=r38.Cols,Start:=s530,Col:=s418,Val:=s422 }:Rows))) (s414,0))) (r38.Start,r38.Col,r38.Val,0)
def UU (a0:Rows) (Q:Rows→Prop):Prop:=
  HU a0 fun r27=>AQ r27 (Q a0) (UT 0 0 fun r32=>Q r32)
def RY (a0:Int×Int) (a1:Int) (Q:(Int×Int)→Prop):Prop:=
  AQ (decide ((if a1<a0.2 then a1 else a0.2)≤(if 0 > a0.1 then 0 else a0.1))) (Q ((if 0 > a0.1 then 0 else a0.1),0)) (Q ((if 0 > a0.1 then 0 else a0.1),AJ ((if a1<a0.2 then a1 else a0.2) - (if 0 > a0.1 then 0 else a0.1))))
def XJ (a0:Rows) (a1:Int) (Q:((List Int)×(List Int))→Prop):Prop:=
  AY a0.Start a1 fun x39=>AY a0.Start (AJ (a1+1)) fun x48=>slP a0.Col x39 x48 fun _=>slP a0.Val x39 x48 fun _=>Q (((a0.Col.take x48.toNat).drop x39.toNat),((a0.Val.take x48.toNat).drop x39.toNat))
def gA (a0:Rows) (a1:Int) (Q:(List CE)→Prop):Prop:=
  UU a0 fun r33=>GC a1 (AJ (r33.Rows - 1)) fun r54=>AQ (!r54) (Q ([]:List CE)) (XJ r33 a1 fun r73=>BN (fun (s:(List CE)×Int) (next161:((List CE)×Int)→Prop)=>match s with | (s155,s159)=>AQ (decide (s159<(r73.1.length:Int))) (AY r73.1 s159 fun x168=>AY r73.2 s159 fun x177=>HS 16 s155 ([({ At:=x168,Val:=x177 }:CE)]) fun _=>next161 ((s155++([({ At:=x168,Val:=x177 }:CE)])),AJ (s159+1))) (Q s155)) (([]:List CE),0))
def LR (a0:Rows) (a1:Int×Int) (a2:Int×Int) (Q:Rows→Prop):Prop:=
  UU a0 fun r51=>RY a1 r51.Rows fun r71=>RY a2 r51.Cols fun r79=>BN (fun (s:(List AC)×Int) (next446:((List AC)×Int)→Prop)=>match s with | (s440,s444)=>AQ (decide (s444<r71.2)) (gA r51 (AJ (r71.1+s444)) fun r464=>BN (fun (s:(List AC)×Int) (next576:((List AC)×Int)→Prop)=>match s with | (s571,s575)=>AQ (decide (s575<(r464.length:Int))) (AY r464 s575 fun x595=>EY (fun (k608:Bool→Prop)=>AQ (decide (r79.1≤x595.At)) (k608 (decide ((AJ (x595.At - r79.1))<r79.2))) (k608 false)) fun s607=>AQ s607 (HS 24 s571 ([({ Row:=s444,Col:=AJ (x595.At - r79.1),Val:=x595.Val }:AC)]) fun _=>next576 ((s571++([({ Row:=s444,Col:=AJ (x595.At - r79.1),Val:=x595.Val }:AC)])),AJ (s575+1))) (next576 (s571,AJ (s575+1)))) (next446 (s571,AJ (s444+1)))) (s440,0)) (RC r71.2 r79.2 s440 fun r627=>Q r627)) (([]:List AC),0)
def NF (a0:Int) (a1:Int) (a2:Int) (Q:(Int×Int)→Prop):Prop:=
  FS a0 a1 a2 fun r5=>FS a0 a1 (AJ (a2+1)) fun r9=>Q (r5,r9)
def RE (a0:Rows) (a1:Int) (a2:Int) (a3:Int) (a4:Int) (Q:Rows→Prop):Prop:=
  HU a0 fun r69=>AQ (!r69) (LR ({ Rows:=0,Cols:=0,Start:=([]:List Int),Col:=([]:List Int),Val:=([]:List Int) }:Rows) (0,0) (0,0) fun r74=>Q r74) (VR a1 a2 a3 a4 fun r90=>AQ (!r90) (LR ({ Rows:=0,Cols:=0,Start:=([]:List Int),Col:=([]:List Int),Val:=([]:List Int) }:Rows) (0,0) (0,0) fun r95=>Q r95) (NF a0.Rows a1 a3 fun r111=>NF a0.Cols a2 a4 fun r115=>LR a0 r111 r115 fun r119=>Q r119))
def MI (a0:Rows) (Q:(List AC)→Prop):Prop:=
  UU a0 fun r33=>BN (fun (s:(List AC)×Int) (next392:((List AC)×Int)→Prop)=>match s with | (s386,s390)=>AQ (decide (s390<r33.Rows)) (XJ r33 s390 fun r413=>BN (fun (s:(List AC)×Int) (next518:((List AC)×Int)→Prop)=>match s with | (s513,s517)=>AQ (decide (s517<(r413.1.length:Int))) (AY r413.1 s517 fun x535=>AY r413.2 s517 fun x544=>HS 24 s513 ([({ Row:=s390,Col:=x535,Val:=x544 }:AC)]) fun _=>next518 ((s513++([({ Row:=s390,Col:=x535,Val:=x544 }:AC)])),AJ (s517+1))) (next392 (s513,AJ (s390+1)))) (s386,0)) (Q s386)) (([]:List AC),0)
def IF (a0:Int) (a1:Int) (a2:Int) (Q:(Int×Int)→Prop):Prop:=
  FS a0 a1 a2 fun r5=>FS a0 a1 (AJ (a2+1)) fun r9=>Q (r5,r9)
def MJ (a0:Int) (a1:Int) (Q:Bool→Prop):Prop:=
  AQ (decide (0≤a0)) (Q (decide (a0≤a1))) (Q false)
def RZ (a0:JV) (Q:Bool→Prop):Prop:=
  MJ a0.A 63 fun r20=>AQ (!r20) (Q false) (MJ a0.B 63 fun r25=>AQ (!r25) (Q false) (MJ a0.K 63 fun r30=>AQ (!r30) (Q false) (AQ (decide (0<a0.Kind)) (Q (decide (a0.Kind≤5))) (Q false))))
def EW (a0:List CE) (Q:(List CE)→Prop):Prop:=
  AbA a0 (Q ([]:List CE)) (HS 16 ([]:List CE) a0 fun _=>Q (([]:List CE)++a0))
def FQ (a0:List dC) (Q:(List dC)→Prop):Prop:=
  AbA a0 (Q ([]:List dC)) (HS 24 ([]:List dC) a0 fun _=>Q (([]:List dC)++a0))
def EC (a0:List AC) (Q:(List AC)→Prop):Prop:=
  AbA a0 (Q ([]:List AC)) (HS 24 ([]:List AC) a0 fun _=>Q (([]:List AC)++a0))
def XK (a0:BP) (Q:BP→Prop):Prop:=
  EW a0.Vec.Items fun r37=>FQ a0.Sums fun r47=>EC a0.Triples fun r58=>Q ({ Kind:=a0.Kind,From:=a0.From,To:=a0.To,Seq:=a0.Seq,Round:=a0.Round,Vec:=({ N:=a0.Vec.N,Items:=r37 }:Vec),Sums:=r47,Triples:=r58,N:=a0.N,Over:=a0.Over }:BP)
def NG (a0:Int) (Q:AN→Prop):Prop:=
  Q ({ Hi:=shr .i64 a0 63,Lo:=IntKind.wrap .u64 (a0) }:AN)
def KA (a0:List Int) (Q:Int→Prop):Prop:=
  BN (fun (s31:Int) (next32:Int→Prop)=>AQ (decide (s31<(a0.length:Int))) (AY a0 s31 fun x38=>AQ (x38 != 0) (Q x38) (next32 (AJ (s31+1)))) (Q 0)) 0
def LS (a0:Int) (Q:Bool→Prop):Prop:=
  Q (a0 != a0)
def JG (a0:Int) (a1:Int) (Q:Int→Prop):Prop:=
  LS a0 fun r5=>LS a1 fun r13=>AQ r5 (AQ r13 (Q 0) (Q (-1))) (AQ r13 (Q 1) (AQ (decide (a0<a1)) (Q (-1)) (AQ (decide (a1<a0)) (Q 1) (Q 0))))
def KO (a0:Int) (Q:Bool→Prop):Prop:=
  Q (a0 != a0)
def IG (a0:Int) (a1:Int) (Q:Int→Prop):Prop:=
  KO a0 fun r5=>KO a1 fun r13=>AQ r5 (AQ r13 (Q 0) (Q (-1))) (AQ r13 (Q 1) (AQ (decide (a0<a1)) (Q (-1)) (AQ (decide (a1<a0)) (Q 1) (Q 0))))
def QN (a0:AN) (a1:AN) (Q:Int→Prop):Prop:=
  JG a0.Hi a1.Hi fun r9=>IG a0.Lo a1.Lo fun r13=>KA ([r9,r13]:List Int) fun r22=>Q r22
def PN (a0:AN) (a1:AN) (Q:AN→Prop):Prop:=
  QN a0 a1 fun r13=>AQ (decide (r13≤0)) (Q a0) (Q a1)
def MB (a0:Bool) (Q:AN→Prop):Prop:=
  AQ a0 (NG 1 fun r6=>Q r6) (Q ({ Hi:=0,Lo:=0 }:AN))
def SA (a0:Bool) (Q:Int→Prop):Prop:=
  AQ a0 (Q 1) (Q 0)
def XL (a0:AN) (a1:AN) (Q:AN→Prop):Prop:=
  SA (decide ((IntKind.wrap .u64 (a0.Lo+a1.Lo))<a1.Lo)) fun r13=>Q ({ Hi:=AJ (IntKind.wrap .u64 ((IntKind.wrap .u64 ((IntKind.wrap .u64 (a0.Hi))+(IntKind.wrap .u64 (a1.Hi))))+r13)),Lo:=IntKind.wrap .u64 (a0.Lo+a1.Lo) }:AN)
def UV (a0:Int) (a1:AN) (a2:AN) (Q:AN→Prop):Prop:=
  EY (fun (k18:Bool→Prop)=>AQ (a0==1) (k18 (a0==1)) (AQ (a0==3) (k18 (a0==3)) (k18 (a0==4)))) fun s17=>AQ s17 (PN a1 a2 fun r24=>Q r24) (AQ (a0==2) (AQ (!(a1==a2)) (MB true fun r30=>Q r30) (MB (!(a1==({ Hi:=0,Lo:=0 }:AN))) fun r34=>Q r34)) (AQ (a0==5) (XL a1 a2 fun r39=>Q r39) (Q ({ Hi:=0,Lo:=0 }:AN))))
def XM (a0:AN) (Q:(Int×Bool)→Prop):Prop:=
  NG (AJ (a0.Lo)) fun r5=>AQ (!(r5==a0)) (Q (0,false)) (Q (AJ (a0.Lo),true))
def MK (a0:Int) (a1:AN) (Q:(Int×Bool)→Prop):Prop:=
  XM a1 fun r3=>Q (r3.1,r3.2)
def CZ (a0:Int) (a1:Int) (Q:Int→Prop):Prop:=
  HJ a0 fun r5=>HJ a1 fun r13=>AQ r5 (AQ r13 (Q 0) (Q (-1))) (AQ r13 (Q 1) (AQ (decide (a0<a1)) (Q (-1)) (AQ (decide (a1<a0)) (Q 1) (Q 0))))
def YG (a0:AC) (a1:AC) (Q:Int→Prop):Prop:=
  CZ a0.Row a1.Row fun r9=>CZ a0.Col a1.Col fun r13=>KA ([r9,r13]:List Int) fun r22=>Q r22
def SB (a0:Int) (a1:List AC) (Q:((List AC)×Int)→Prop):Prop:=
  BN (fun (s:(List ((Int×Int)×AN))×Int) (next295:((List ((Int×Int)×AN))×Int)→Prop)=>match s with | (s293,s294)=>AQ (decide (s294<(a1.length:Int))) (AY a1 s294 fun x312=>NG x312.Val fun r332=>mF s293 (x312.Row,x312.Col) ({ Hi:=0,Lo:=0 }:AN) fun r338 t343=>AQ t343 (UV a0 r338 r332 fun r347=>next295 ((ET (x312.Row,x312.Col) r347 s293),AJ (s294+1))) (next295 ((ET (x312.Row,x312.Col) r332 s293),AJ (s294+1)))) (BN (fun (s:(List AC)×(List ((Int×Int)×AN))) (next463:((List AC)×(List ((Int×Int)×AN)))→Prop)=>match s with | (s457,s461)=>uL s461 (uS YG s457 fun y494=>Q (y494,0)) (fun p481 l482=>MK a0 p481.2 fun r515=>AQ (!r515.2) (Q (([]:List AC),12)) (HS 24 s457 ([({ Row:=p481.1.1,Col:=p481.1.2,Val:=r515.1 }:AC)]) fun _=>next463 ((s457++([({ Row:=p481.1.1,Col:=p481.1.2,Val:=r515.1 }:AC)])),l482)))) (([]:List AC),s293))) (([]:List ((Int×Int)×AN)),0)
def VS (o0:Int) (o1:Int) (a0:AC) (Q:Bool→Prop):Prop:=
  GC a0.Row (AJ (o0 - 1)) fun r9=>AQ (!r9) (Q true) (GC a0.Col (AJ (o1 - 1)) fun r14=>Q (!r14))
def CW (o0:Int) (o1:Int) (a0:List AC) (Q:Int→Prop):Prop:=
  BN (fun (s49:Int) (next50:Int→Prop)=>AQ (decide (s49<(a0.length:Int))) (AY a0 s49 fun x56=>VS o0 o1 x56 fun r70=>AQ r70 (Q s49) (next50 (AJ (s49+1)))) (Q (-1))) 0
def CO (o0:Int) (o1:Int) (a0:List AC) (Q:Bool→Prop):Prop:=
  CW o0 o1 a0 fun r14=>Q (decide (0≤r14))
def SD (a0:Int) (a1:Int) (a2:Int) (a3:List AC) (Q:(Rows×Int)→Prop):Prop:=
  QL a0 fun r80=>AQ (!r80) (Q (({ Rows:=0,Cols:=0,Start:=([]:List Int),Col:=([]:List Int),Val:=([]:List Int) }:Rows),8)) (EY (fun (k104:Bool→Prop)=>GC a1 4096 fun r105=>AQ (!r105) (k104 true) (GC a2 4096 fun r110=>k104 (!r110))) fun s103=>AQ s103 (Q (({ Rows:=0,Cols:=0,Start:=([]:List Int),Col:=([]:List Int),Val:=([]:List Int) }:Rows),3)) (AQ (decide (65536<(a3.length:Int))) (Q (({ Rows:=0,Cols:=0,Start:=([]:List Int),Col:=([]:List Int),Val:=([]:List Int) }:Rows),5)) (CO a1 a2 a3 fun r124=>AQ r124 (Q (({ Rows:=0,Cols:=0,Start:=([]:List Int),Col:=([]:List Int),Val:=([]:List Int) }:Rows),3)) (SB a0 a3 fun r138=>AQ (r138.2 != 0) (Q (({ Rows:=0,Cols:=0,Start:=([]:List Int),Col:=([]:List Int),Val:=([]:List Int) }:Rows),r138.2)) (RC a1 a2 r138.1 fun r150=>Q (r150,0))))))
def YH (a0:List Rows) (Q:(List Rows)→Prop):Prop:=
  BN (fun (s:(List Rows)×Int) (next180:((List Rows)×Int)→Prop)=>match s with | (s174,s178)=>AQ (decide (s178<(a0.length:Int))) (AY a0 s178 fun x206=>HU x206 fun r225=>AQ (!r225) (LR x206 (0,0) (0,0) fun r230=>HS 88 s174 ([r230]) fun _=>next180 ((s174++([r230])),AJ (s178+1))) (HS 88 s174 ([x206]) fun _=>next180 ((s174++([x206])),AJ (s178+1)))) (Q s174)) (([]:List Rows),0)
def RF (a0:Rows) (a1:Int) (Q:((List Int)×(List Int))→Prop):Prop:=
  AY a0.Start a1 fun x39=>AY a0.Start (AJ (a1+1)) fun x48=>slP a0.Col x39 x48 fun _=>slP a0.Val x39 x48 fun _=>Q (((a0.Col.take x48.toNat).drop x39.toNat),((a0.Val.take x48.toNat).drop x39.toNat))
def GZ (a0:Int) (Q:(Int×Int)→Prop):Prop:=
  Q (shr .u64 (shl .u64 a0 32) 32,shr .u64 a0 32)
def QO (a0:Int) (a1:Int) (Q:AN→Prop):Prop:=
  GZ a0 fun r17=>GZ a1 fun r21=>GZ (IntKind.wrap .u64 (r17.1*r21.1)) fun r40=>GZ (IntKind.wrap .u64 ((IntKind.wrap .u64 (r17.2*r21.1))+r40.2)) fun r44=>GZ (IntKind.wrap .u64 ((IntKind.wrap .u64 (r17.1*r21.2))+r44.1)) fun r55=>GZ (IntKind.wrap .u64 (r17.1*r21.1)) fun r61=>Q ({ Hi:=AJ (IntKind.wrap .u64 ((IntKind.wrap .u64 ((IntKind.wrap .u64 (r17.2*r21.2))+r44.2))+r55.2)),Lo:=bor .u64 (shl .u64 r55.1 32) r61.1 }:AN)
def UW (a0:Int) (Q:Int→Prop):Prop:=
  AQ (decide (a0<0)) (Q (IntKind.wrap .u64 (0 - (IntKind.wrap .u64 (a0))))) (Q (IntKind.wrap .u64 (a0)))
def bH (a0:AN) (a1:AN) (Q:AN→Prop):Prop:=
  SA (decide (a0.Lo<a1.Lo)) fun r13=>Q ({ Hi:=AJ (IntKind.wrap .u64 ((IntKind.wrap .u64 ((IntKind.wrap .u64 (a0.Hi)) - (IntKind.wrap .u64 (a1.Hi)))) - r13)),Lo:=IntKind.wrap .u64 (a0.Lo - a1.Lo) }:AN)
def bI (a0:Int) (a1:Int) (Q:AN→Prop):Prop:=
  UW a0 fun r19=>UW a1 fun r23=>QO r19 r23 fun r27=>AQ (!((decide (a0<0))==(decide (a1<0)))) (bH ({ Hi:=0,Lo:=0 }:AN) r27 fun r34=>Q r34) (Q r27)
def bJ (a0:Int) (a1:Int) (a2:Int) (Q:AN→Prop):Prop:=
  AQ (a0==2) (AQ (a1 != 0) (MB (a2 != 0) fun r22=>Q r22) (MB false fun r26=>Q r26)) (AQ (a0==5) (bI a1 a2 fun r31=>Q r31) (EY (fun (k55:Unit→Prop)=>QL a0 fun r56=>AQ r56 (AQ (decide (4611686018427387904≤(if a2 > a1 then a2 else a1))) (NG 4611686018427387904 fun r62=>Q r62) (k55 ())) (k55 ())) fun _=>EY (fun (k90:(Int×Int)→Prop)=>AQ (a0==1) (NG a1 fun r93=>k90 (r93.Hi,r93.Lo)) (AQ (a0==4) (k90 (0,0)) (AQ (a0==3) (NG a1 fun r99=>Q r99) (Q ({ Hi:=0,Lo:=0 }:AN))))) fun (s88,s89)=>NG 4611686018427387904 fun r106=>NG a2 fun r110=>XL ({ Hi:=s88,Lo:=s89 }:AN) r110 fun r114=>PN r106 r114 fun r118=>Q r118))
def QP (o0:List (Int×Bool)) (a0:Int) (a1:Rows) (a2:Rows) (a3:Int) (Q:(List (Int×AN))→Prop):Prop:=
  RF a1 a3 fun r46=>BN (fun (s:(List (Int×AN))×Int) (next759:((List (Int×AN))×Int)→Prop)=>match s with | (s757,s758)=>AQ (decide (s758<(r46.1.length:Int))) (AY r46.1 s758 fun x775=>RF a2 x775 fun r798=>BN (fun (s:(List (Int×AN))×Int) (next1011:((List (Int×AN))×Int)→Prop)=>match s with | (s1009,s1010)=>AQ (decide (s1010<(r798.1.length:Int))) (AY r798.1 s1010 fun x1028=>wH o0 x1028 false fun r1043=>AQ (!r1043) (next1011 (s1009,AJ (s1010+1))) (AY r46.2 s758 fun x1075=>AY r798.2 s1010 fun x1084=>bJ a0 x1075 x1084 fun r1093=>mF s1009 x1028 ({ Hi:=0,Lo:=0 }:AN) fun r1098 t1103=>AQ t1103 (UV a0 r1098 r1093 fun r1107=>next1011 ((ET x1028 r1107 s1009),AJ (s1010+1))) (next1011 ((ET x1028 r1093 s1009),AJ (s1010+1))))) (next759 (s1009,AJ (s758+1)))) (s757,0)) (Q s757)) (([]:List (Int×AN)),0)
def SE (a0:Int) (a1:Rows) (a2:Rows) (a3:Rows) (Q:((List AK)×Int)→Prop):Prop:=
  YH ([a1,a2,a3]:List Rows) fun r64=>AY r64 0 fun x130=>AY r64 1 fun x148=>AY r64 2 fun x166=>QL a0 fun r199=>AQ (!r199) (Q (([]:List AK),8)) (AQ (x130.Cols != x148.Rows) (Q (([]:List AK),4)) (AQ (x166.Rows != x130.Rows) (Q (([]:List AK),4)) (AQ (x166.Cols != x148.Cols) (Q (([]:List AK),4)) (BN (fun (s:(List AK)×Int) (next840:((List AK)×Int)→Prop)=>match s with | (s834,s838)=>AQ (decide (s838<x166.Rows)) (RF x166 s838 fun r861=>BN (fun (s:(List (Int×Bool))×Int) (next956:((List (Int×Bool))×Int)→Prop)=>match s with | (s954,s955)=>AQ (decide (s955<(r861.1.length:Int))) (AY r861.1 s955 fun x964=>next956 ((ET x964 true s954),AJ (s955+1))) (QP s954 a0 x130 x148 s838 fun r990=>BN (fun (s:(List AK)×Int) (next1102:((List AK)×Int)→Prop)=>match s with | (s1097,s1101)=>AQ (decide (s1101<(r861.1.length:Int))) (AY r861.1 s1101 fun x1120=>mF r990 x1120 ({ Hi:=0,Lo:=0 }:AN) fun r1136 t1141=>AQ t1141 (HS 32 s1097 ([({ Row:=s838,Col:=x1120,Val:=r1136 }:AK)]) fun _=>next1102 ((s1097++([({ Row:=s838,Col:=x1120,Val:=r1136 }:AK)])),AJ (s1101+1))) (next1102 (s1097,AJ (s1101+1)))) (next840 (s1097,AJ (s838+1)))) (s834,0))) (([]:List (Int×Bool)),0)) (Q (s834,0))) (([]:List AK),0)))))
def SF (a0:AK) (a1:AK) (Q:Int→Prop):Prop:=
  CZ a0.Row a1.Row fun r9=>CZ a0.Col a1.Col fun r13=>KA ([r9,r13]:List Int) fun r22=>Q r22
def KB (a0:List AK) (Q:Bool→Prop):Prop:=
  BN (fun (s35:Int) (next36:Int→Prop)=>AQ (decide (s35<(a0.length:Int))) (AQ (decide (0<s35)) (AY a0 (AJ (s35 - 1)) fun x43=>AY a0 s35 fun x52=>SF x43 x52 fun r60=>AQ (decide (0≤r60)) (Q false) (next36 (AJ (s35+1)))) (next36 (AJ (s35+1)))) (Q true)) 0
def FD (a1:Int) (Q:(List AK)→Prop):Prop:=
  AQ (decide (a1<0)) (False) (AQ (decide (0<(AJ (a1 - (AJ (0 - 0)))))) (grP 32 (AJ (a1 - (AJ (0 - 0)))) <| Q ([]:List AK)) (Q ([]:List AK)))
def DH (a0:List (List AK)) (Q:(List AK)→Prop):Prop:=
  BN (fun (s:Int×Int) (next161:(Int×Int)→Prop)=>match s with | (s159,s160)=>AQ (decide (s160<(a0.length:Int))) (AY a0 s160 fun x179=>AQ (decide ((AJ (s159+(x179.length:Int)))<0)) (False) (next161 (AJ (s159+(x179.length:Int)),AJ (s160+1)))) (FD s159 fun r203=>BN (fun (s:(List AK)×Int) (next271:((List AK)×Int)→Prop)=>match s with | (s266,s270)=>AQ (decide (s270<(a0.length:Int))) (AY a0 s270 fun x278=>HS 32 s266 x278 fun _=>next271 ((s266++x278),AJ (s270+1))) (Q s266)) (r203,0))) (0,0)
def OL (a0:List AK) (Q:Bool→Prop):Prop:=
  KB a0 fun r4=>Q (!r4)
def DJ (a0:List (List AK)) (Q:Int→Prop):Prop:=
  BN (fun (s51:Int) (next52:Int→Prop)=>AQ (decide (s51<(a0.length:Int))) (AY a0 s51 fun x58=>OL x58 fun r75=>AQ r75 (Q s51) (next52 (AJ (s51+1)))) (Q (-1))) 0
def DA (a0:List (List AK)) (Q:Bool→Prop):Prop:=
  DJ a0 fun r10=>Q (decide (0≤r10))
def EM (a0:AK) (a1:AK) (Q:Int→Prop):Prop:=
  CZ a0.Row a1.Row fun r9=>CZ a0.Col a1.Col fun r13=>KA ([r9,r13]:List Int) fun r22=>Q r22
def CA (o0:List AK) (a0:Int) (a1:Int) (Q:(List AK)→Prop):Prop:=
  BN (fun (s:(List AK)×Int) (next332:((List AK)×Int)→Prop)=>match s with | (s330,s331)=>AQ (decide (s331<a1)) (BN (fun (s:(List AK)×Int) (next446:((List AK)×Int)→Prop)=>match s with | (s444,s445)=>AQ (decide (a0<s445)) (AY s444 s445 fun x474=>AY s444 (AJ (s445 - 1)) fun x479=>EM x474 x479 fun r487=>AQ (decide (r487<0)) (AY s444 (AJ (s445 - 1)) fun x492=>AY s444 s445 fun x495=>AY s444 s445 fun x498=>AY (s444.set s445.toNat x492) (AJ (s445 - 1)) fun x501=>next446 (((s444.set s445.toNat x492).set ((AJ (s445 - 1)).toNat) x495),AJ (s445 - 1))) (next332 (s444,AJ (s331+1)))) (next332 (s444,AJ (s331+1)))) (s330,s331)) (Q s330)) (o0,AJ (a0+1))
def BX (o0:List AK) (a0:Int) (a1:Int) (a2:Int) (Q:(List AK)→Prop):Prop:=
  BN (fun (s:(List AK)×Int) (next46:((List AK)×Int)→Prop)=>match s with | (s44,s45)=>AQ (decide (s45<a2)) (AY s44 (AJ (a1+s45)) fun x54=>AY s44 (AJ (a0+s45)) fun x59=>AY s44 (AJ (a0+s45)) fun x62=>AY (s44.set ((AJ (a0+s45)).toNat) x54) (AJ (a1+s45)) fun x65=>next46 (((s44.set ((AJ (a0+s45)).toNat) x54).set ((AJ (a1+s45)).toNat) x59),AJ (s45+1))) (Q s44)) (o0,0)
def DC (o0:List AK) (a0:Int) (a1:Int) (a2:Int) (Q:(List AK)→Prop):Prop:=
  BN (fun (s:(List AK)×Int×Int) (next66:((List AK)×Int×Int)→Prop)=>match s with | (s63,s64,s65)=>AQ (s64 != s65) (AQ (decide (s65<s64)) (BX s63 (AJ (a1 - s64)) a1 s65 fun r79=>next66 (r79,AJ (s64 - s65),s65)) (BX s63 (AJ (a1 - s64)) (AJ ((AJ (a1+s65)) - s64)) s64 fun r91=>next66 (r91,s64,AJ (s65 - s64)))) (BX s63 (AJ (a1 - s64)) a1 s64 fun r103=>Q r103)) (o0,AJ (a1 - a0),AJ (a2 - a1))
def BF (rc:(List AK)→Int→Int→Int→((List AK)→Prop)→Prop) (o0:List AK) (a0:Int) (a1:Int) (a2:Int) (Q:(List AK)→Prop):Prop:=
  AQ ((AJ (a1 - a0))==1) (BN (fun (s:Int×Int) (next323:(Int×Int)→Prop)=>match s with | (s321,s322)=>AQ (decide (s321<s322)) (AY o0 (AJ (shr .u64 (IntKind.wrap .u64 (AJ (s321+s322))) 1)) fun x330=>AY o0 a0 fun x335=>EM x330 x335 fun r343=>AQ (decide (r343<0)) (next323 (AJ ((AJ (shr .u64 (IntKind.wrap .u64 (AJ (s321+s322))) 1))+1),s322)) (next323 (s321,AJ (shr .u64 (IntKind.wrap .u64 (AJ (s321+s322))) 1)))) (BN (fun (s:(List AK)×Int) (next388:((List AK)×Int)→Prop)=>match s with | (s386,s387)=>AQ (decide (s387<(AJ (s321 - 1)))) (AY s386 (AJ (s387+1)) fun x397=>AY s386 s387 fun x402=>AY s386 s387 fun x405=>AY (s386.set s387.toNat x397) (AJ (s387+1)) fun x408=>next388 (((s386.set s387.toNat x397).set ((AJ (s387+1)).toNat) x402),AJ (s387+1))) (Q s386)) (o0,a0))) (a1,a2)) (AQ ((AJ (a2 - a1))==1) (BN (fun (s:Int×Int) (next729:(Int×Int)→Prop)=>match s with | (s727,s728)=>AQ (decide (s727<s728)) (AY o0 a1 fun x736=>AY o0 (AJ (shr .u64 (IntKind.wrap .u64 (AJ (s727+s728))) 1)) fun x741=>EM x736 x741 fun r749=>AQ (!(decide (r749<0))) (next729 (AJ ((AJ (shr .u64 (IntKind.wrap .u64 (AJ (s727+s728))) 1))+1),s728)) (next729 (s727,AJ (shr .u64 (IntKind.wrap .u64 (AJ (s727+s728))) 1)))) (BN (fun (s:(List AK)×Int) (next794:((List AK)×Int)→Prop)=>match s with | (s792,s793)=>AQ (decide (s727<s793)) (AY s792 (AJ (s793 - 1)) fun x803=>AY s792 s793 fun x808=>AY s792 s793 fun x811=>AY (s792.set s793.toNat x803) (AJ (s793 - 1)) fun x814=>next794 (((s792.set s793.toNat x803).set ((AJ (s793 - 1)).toNat) x808),AJ (s793 - 1))) (Q s792)) (o0,a1))) (a0,a1)) (EY (fun (k820:(Int×Int)→Prop)=>AQ (decide ((AJ (shr .u64 (IntKind.wrap .u64 (AJ (a0+a2))) 1))<a1)) (k820 (AJ ((AJ ((AJ (shr .u64 (IntKind.wrap .u64 (AJ (a0+a2))) 1))+a1)) - a2),AJ (shr .u64 (IntKind.wrap .u64 (AJ (a0+a2))) 1))) (k820 (a0,a1))) fun (s818,s819)=>BN (fun (s:Int×Int) (next945:(Int×Int)→Prop)=>match s with | (s943,s944)=>AQ (decide (s943<s944)) (AY o0 (AJ ((AJ ((AJ ((AJ (shr .u64 (IntKind.wrap .u64 (AJ (a0+a2))) 1))+a1)) - 1)) - (AJ (shr .u64 (IntKind.wrap .u64 (AJ (s943+s944))) 1)))) fun x953=>AY o0 (AJ (shr .u64 (IntKind.wrap .u64 (AJ (s943+s944))) 1)) fun x958=>EM x953 x958 fun r966=>AQ (!(decide (r966<0))) (next945 (AJ ((AJ (shr .u64 (IntKind.wrap .u64 (AJ (s943+s944))) 1))+1),s944)) (next945 (s943,AJ (shr .u64 (IntKind.wrap .u64 (AJ (s943+s944))) 1)))) (EY (fun (k1001:(List AK)→Prop)=>AQ (decide (s943<a1)) (AQ (decide (a1<(AJ ((AJ ((AJ (shr .u64 (IntKind.wrap .u64 (AJ (a0+a2))) 1))+a1)) - s943)))) (DC o0 s943 a1 (AJ ((AJ ((AJ (shr .u64 (IntKind.wrap .u64 (AJ (a0+a2))) 1))+a1)) - s943)) fun r1010=>k1001 r1010) (k1001 o0)) (k1001 o0)) fun s1000=>EY (fun (k1055:(List AK)→Prop)=>AQ (decide (a0<s943)) (AQ (decide (s943<(AJ (shr .u64 (IntKind.wrap .u64 (AJ (a0+a2))) 1)))) (rc s1000 a0 s943 (AJ (shr .u64 (IntKind.wrap .u64 (AJ (a0+a2))) 1)) fun r1064=>k1055 r1064) (k1055 s1000)) (k1055 s1000)) fun s1054=>AQ (decide ((AJ (shr .u64 (IntKind.wrap .u64 (AJ (a0+a2))) 1))<(AJ ((AJ ((AJ (shr .u64 (IntKind.wrap .u64 (AJ (a0+a2))) 1))+a1)) - s943)))) (AQ (decide ((AJ ((AJ ((AJ (shr .u64 (IntKind.wrap .u64 (AJ (a0+a2))) 1))+a1)) - s943))<a2)) (rc s1054 (AJ (shr .u64 (IntKind.wrap .u64 (AJ (a0+a2))) 1)) (AJ ((AJ ((AJ (shr .u64 (IntKind.wrap .u64 (AJ (a0+a2))) 1))+a1)) - s943)) a2 fun r1086=>Q r1086) (Q s1054)) (Q s1054))) (s818,s819)))
def CL:Nat→(List AK)→Int→Int→Int→((List AK)→Prop)→Prop
  | 0=>fun _ _ _ _ _=>False
  | k+1=>BF (CL k)
def CT (o0:List AK) (a0:Int) (a1:Int) (a2:Int) (Q:(List AK)→Prop):Prop:=∃ k,CL k o0 a0 a1 a2 Q
def EI (o0:List AK) (a0:Int) (Q:(List AK)→Prop):Prop:=
  BN (fun (s:(List AK)×Int×Int) (next98:((List AK)×Int×Int)→Prop)=>match s with | (s95,s96,s97)=>AQ (decide (s97≤a0)) (CA s95 s96 s97 fun r110=>next98 (r110,s97,AJ (s97+20))) (CA s95 s96 a0 fun r134=>BN (fun (s:(List AK)×Int) (next420:((List AK)×Int)→Prop)=>match s with | (s418,s419)=>AQ (decide (s419<a0)) (BN (fun (s:(List AK)×Int×Int) (next533:((List AK)×Int×Int)→Prop)=>match s with | (s530,s531,s532)=>AQ (decide (s532≤a0)) (CT s530 s531 (AJ (s531+s419)) s532 fun r547=>next533 (r547,s532,AJ (s532+(AJ (2*s419))))) (AQ (decide ((AJ (s531+s419))<a0)) (CT s530 s531 (AJ (s531+s419)) a0 fun r562=>next420 (r562,AJ (s419*2))) (next420 (s530,AJ (s419*2))))) (s418,0,AJ (2*s419))) (Q s418)) (r134,20))) (o0,0,20)
def CC (o0:List AK) (Q:(List AK)→Prop):Prop:=
  EI o0 (o0.length:Int) fun r10=>Q r10
def OM (a0:Int) (a1:List (List AK)) (Q:((List AK)×Int)→Prop):Prop:=
  QL a0 fun r12=>AQ (!r12) (Q (([]:List AK),8)) (DA a1 fun r31=>AQ r31 (Q (([]:List AK),6)) (DH a1 fun r45=>CC r45 fun r75=>BN (fun (s:(List AK)×Int) (next199:((List AK)×Int)→Prop)=>match s with | (s193,s197)=>AQ (decide (s197<(r75.length:Int))) (AY r75 s197 fun x213=>EY (fun (k242:Bool→Prop)=>AQ (decide (0<(s193.length:Int))) (AY s193 (AJ ((s193.length:Int) - 1)) fun x246=>SF x246 x213 fun r250=>k242 (r250==0)) (k242 false)) fun s241=>AQ s241 (AY s193 (AJ ((s193.length:Int) - 1)) fun x261=>UV a0 x261.Val x213.Val fun r265=>AY s193 (AJ ((s193.length:Int) - 1)) fun x270=>next199 ((s193.set ((AJ ((s193.length:Int) - 1)).toNat) ({ Row:=x270.Row,Col:=x270.Col,Val:=r265 }:AK)),AJ (s197+1))) (HS 32 s193 ([x213]) fun _=>next199 ((s193++([x213])),AJ (s197+1)))) (Q (s193,0))) (([]:List AK),0)))
def II (a0:List Int) (Q:Int→Prop):Prop:=
  AQ (decide ((a0.length:Int)<1)) (False) (AY a0 0 fun x16=>BN (fun (s:Int×Int) (next54:(Int×Int)→Prop)=>match s with | (s52,s53)=>AQ (decide (s53<(a0.length:Int))) (AY a0 s53 fun x60=>next54 ((if x60<s52 then x60 else s52),AJ (s53+1))) (Q s52)) (x16,1))
def GI (a0:AK) (a1:AK) (Q:Int→Prop):Prop:=
  CZ a0.Row a1.Row fun r9=>CZ a0.Col a1.Col fun r13=>KA ([r9,r13]:List Int) fun r22=>Q r22
def UX (a0:Int) (Q:Int→Prop):Prop:=
  AQ (a0==1) (Q 4611686018427387904) (AQ (a0==3) (Q 4611686018427387904) (AQ (a0==4) (Q 4611686018427387904) (Q 0)))
def KC (a0:Int) (a1:Int) (Q:Bool→Prop):Prop:=
  AQ (decide (0≤a0)) (Q (decide (a0≤a1))) (Q false)
def PY (o0:Int) (o1:Int) (a0:AK) (Q:Bool→Prop):Prop:=
  KC a0.Row (AJ (o0 - 1)) fun r9=>AQ (!r9) (Q true) (KC a0.Col (AJ (o1 - 1)) fun r14=>Q (!r14))
def DK (o0:Int) (o1:Int) (a0:List AK) (Q:Int→Prop):Prop:=
  BN (fun (s49:Int) (next50:Int→Prop)=>AQ (decide (s49<(a0.length:Int))) (AY a0 s49 fun x56=>PY o0 o1 x56 fun r70=>AQ r70 (Q s49) (next50 (AJ (s49+1)))) (Q (-1))) 0
def DB (o0:Int) (o1:Int) (a0:List AK) (Q:Bool→Prop):Prop:=
  DK o0 o1 a0 fun r14=>Q (decide (0≤r14))
def YI (a0:Int) (a1:Int) (a2:Int) (a3:List AK) (Q:(Rows×Int)→Prop):Prop:=
  QL a0 fun r97=>AQ (!r97) (Q (({ Rows:=0,Cols:=0,Start:=([]:List Int),Col:=([]:List Int),Val:=([]:List Int) }:Rows),8)) (EY (fun (k121:Bool→Prop)=>KC a1 4096 fun r122=>AQ (!r122) (k121 true) (KC a2 4096 fun r127=>k121 (!r127))) fun s120=>AQ s120 (Q (({ Rows:=0,Cols:=0,Start:=([]:List Int),Col:=([]:List Int),Val:=([]:List Int) }:Rows),3)) (DB a1 a2 a3 fun r148=>AQ r148 (Q (({ Rows:=0,Cols:=0,Start:=([]:List Int),Col:=([]:List Int),Val:=([]:List Int) }:Rows),3)) (KB a3 fun r155=>AQ (!r155) (Q (({ Rows:=0,Cols:=0,Start:=([]:List Int),Col:=([]:List Int),Val:=([]:List Int) }:Rows),6)) (AQ (decide (65536<(a3.length:Int))) (Q (({ Rows:=0,Cols:=0,Start:=([]:List Int),Col:=([]:List Int),Val:=([]:List Int) }:Rows),5)) (BN (fun (s:(List AC)×Int) (next454:((List AC)×Int)→Prop)=>match s with | (s448,s452)=>AQ (decide (s452<(a3.length:Int))) (AY a3 s452 fun x472=>MK a0 x472.Val fun r486=>AQ (!r486.2) (Q (({ Rows:=0,Cols:=0,Start:=([]:List Int),Col:=([]:List Int),Val:=([]:List Int) }:Rows),12)) (UX a0 fun r496=>AQ (r486.1 != r496) (HS 24 s448 ([({ Row:=x472.Row,Col:=x472.Col,Val:=r486.1 }:AC)]) fun _=>next454 ((s448++([({ Row:=x472.Row,Col:=x472.Col,Val:=r486.1 }:AC)])),AJ (s452+1))) (next454 (s448,AJ (s452+1))))) (SD a0 a1 a2 s448 fun r512=>Q (r512.1,r512.2))) (([]:List AC),0))))))
def TJ (a0:Rows) (Q:Bool→Prop):Prop:=
  AQ (decide (a0.Rows<0)) (Q false) (AQ (decide (4096<a0.Rows)) (Q false) (AQ (decide (a0.Cols<0)) (Q false) (AQ (decide (4096<a0.Cols)) (Q false) (AQ ((a0.Start.length:Int) != (AJ (a0.Rows+1))) (Q false) (AQ ((a0.Col.length:Int) != (a0.Val.length:Int)) (Q false) (AQ (decide (65536<(a0.Col.length:Int))) (Q false) (AY a0.Start 0 fun x49=>AQ (x49 != 0) (Q false) (AY a0.Start a0.Rows fun x59=>AQ (x59 != (a0.Col.length:Int)) (Q false) (BN (fun (s695:Int) (next696:Int→Prop)=>AQ (decide (s695<a0.Rows)) (AY a0.Start s695 fun x741=>AY a0.Start (AJ (s695+1)) fun x750=>AQ (decide (x750<x741)) (Q false) (AY a0.Start s695 fun x760=>AQ (decide (x760<0)) (Q false) (AY a0.Start (AJ (s695+1)) fun x770=>AQ (decide ((a0.Col.length:Int)<x770)) (Q false) (AY a0.Start s695 fun x789=>BN (fun (s938:Int) (next939:Int→Prop)=>AY a0.Start (AJ (s695+1)) fun x954=>AQ (decide (s938<x954)) (AY a0.Col s938 fun x964=>AQ (decide (x964<0)) (Q false) (AY a0.Col s938 fun x974=>AQ (decide (a0.Cols≤x974)) (Q false) (AY a0.Start s695 fun x984=>AQ (decide (x984<s938)) (AY a0.Col s938 fun x994=>AY a0.Col (AJ (s938 - 1)) fun x1003=>AQ (decide (x994≤x1003)) (Q false) (next939 (AJ (s938+1)))) (next939 (AJ (s938+1)))))) (next696 (AJ (s695+1)))) x789)))) (Q true)) 0)))))))))
def HK (a0:Rows) (Q:Rows→Prop):Prop:=
  TJ a0 fun r27=>AQ r27 (Q a0) (JZ 0 0 fun r32=>Q r32)
def YJ (a0:Rows) (a1:Int) (Q:(List CE)→Prop):Prop:=
  HK a0 fun r33=>AQ (decide (a1<0)) (Q ([]:List CE)) (AQ (decide (r33.Rows≤a1)) (Q ([]:List CE)) (AY r33.Start a1 fun x63=>BN (fun (s:(List CE)×Int) (next182:((List CE)×Int)→Prop)=>match s with | (s176,s180)=>AY r33.Start (AJ (a1+1)) fun x197=>AQ (decide (s180<x197)) (AY r33.Col s180 fun x208=>AY r33.Val s180 fun x217=>HS 16 s176 ([({ At:=x208,Val:=x217 }:CE)]) fun _=>next182 ((s176++([({ At:=x208,Val:=x217 }:CE)])),AJ (s180+1))) (Q s176)) (([]:List CE),x63)))
def RG (a0:Rows) (a1:Int) (a2:Int) (Q:(Int×Bool)→Prop):Prop:=
  YJ a0 a1 fun r24=>BN (fun (s97:Int) (next98:Int→Prop)=>AQ (decide (s97<(r24.length:Int))) (AY r24 s97 fun x114=>AQ (x114.At==a2) (AY r24 s97 fun x124=>Q (x124.Val,true)) (next98 (AJ (s97+1)))) (Q (0,false))) 0
def ML (a0:Int) (Q:Int→Prop):Prop:=
  Q (a0.tmod 14)
def PO (a0:Int) (Q:Int→Prop):Prop:=
  AQ (decide (a0<1)) (Q 1) (AQ (decide (5<a0)) (Q 1) (Q a0))
def SG (a0:Int) (Q:Int→Prop):Prop:=
  Q ((AJ (a0)).tmod 40)
def YK (a0:List AC) (Q:(List AC)→Prop):Prop:=
  AQ (decide (60<(a0.length:Int))) (slP a0 0 60 fun _=>Q ((a0.take (Int.toNat 60)).drop (Int.toNat 0))) (Q a0)
def VT (a0:Int×Int) (a1:List AC) (Q:Rows→Prop):Prop:=
  SG a0.1 fun r29=>SG a0.2 fun r33=>YK a1 fun r47=>BN (fun (s:(List AC)×Int) (next310:((List AC)×Int)→Prop)=>match s with | (s304,s308)=>AQ (decide (s308<(r47.length:Int))) (AY r47 s308 fun x328=>AQ (decide (x328.Row<0)) (next310 (s304,AJ (s308+1))) (AQ (decide (x328.Col<0)) (next310 (s304,AJ (s308+1))) (AQ (r29==0) (next310 (s304,AJ (s308+1))) (AQ (r33==0) (next310 (s304,AJ (s308+1))) (nzP r29 <| nzP r33 <| HS 24 s304 ([({ Row:=x328.Row.tmod r29,Col:=x328.Col.tmod r33,Val:=x328.Val }:AC)]) fun _=>next310 ((s304++([({ Row:=x328.Row.tmod r29,Col:=x328.Col.tmod r33,Val:=x328.Val }:AC)])),AJ (s308+1))))))) (RV 1 r29 r33 s304 fun r385=>AQ (r385.2 != 0) (JZ r29 r33 fun r406=>Q r406) (Q r385.1))) (([]:List AC),0)
def TK (a0:Int) (a1:Int) (Q:Int→Prop):Prop:=
  AQ (a0==5) (Q a1) (AQ (a0==2) (Q (oU .i64 a1 1)) (AQ (((oU .i64 a1 4611686018427387903).tmod 5)==0) (Q 4611686018427387904) (Q (oU .i64 a1 4611686018427387903))))
def QQ (a0:Int) (a1:Int) (Q:Int→Prop):Prop:=
  AQ (a0==5) (Q (a1.tmod 2147483648)) (TK a0 a1 fun r2=>Q r2)
def FJ (a0:IE) (Q:Rows→Prop):Prop:=
  VT a0.Size a0.L fun r48=>PO a0.Ring fun r70=>BN (fun (s:(List Int)×Int) (next138:((List Int)×Int)→Prop)=>match s with | (s132,s136)=>AQ (decide (s136<(r48.Val.length:Int))) (AY r48.Val s136 fun x145=>QQ r70 x145 fun r153=>HS 8 s132 ([r153]) fun _=>next138 ((s132++([r153])),AJ (s136+1))) (Q ({ Rows:=r48.Rows,Cols:=r48.Cols,Start:=r48.Start,Col:=r48.Col,Val:=s132 }:Rows))) (([]:List Int),0)
def KP (a0:OI) (Q:(Rows×Rows×Rows)→Prop):Prop:=
  ML a0.Size.1 fun r57=>ML a0.Size.2.1 fun r61=>ML a0.Size.2.2 fun r65=>FJ ({ Ring:=a0.Ring,Size:=(r57,r61),L:=a0.A,X:=([]:List CE),Y:=([]:List CE),F:=([]:List Int),Others:=false }:IE) fun r79=>FJ ({ Ring:=a0.Ring,Size:=(r61,r65),L:=a0.B,X:=([]:List CE),Y:=([]:List CE),F:=([]:List Int),Others:=false }:IE) fun r95=>FJ ({ Ring:=a0.Ring,Size:=(r57,r65),L:=a0.M,X:=([]:List CE),Y:=([]:List CE),F:=([]:List Int),Others:=false }:IE) fun r112=>Q (r79,r95,r112)
def LU (a0:JX) (Q:BL→Prop):Prop:=
  KP a0.T fun r81=>PO a0.T.Ring fun r117=>Q ({ Ring:=r117,A:=r81.1,B:=r81.2.1,Mask:=r81.2.2,R:=AJ (((AJ (a0.R)).tmod 4)+1),C:=AJ (((AJ (a0.C)).tmod 4)+1),Room:=AJ (((AJ (a0.Room)).tmod 4)+1) }:BL)
def PD (a0:Rows) (Q:(List AC)→Prop):Prop:=
  HK a0 fun r33=>BN (fun (s:(List AC)×Int) (next429:((List AC)×Int)→Prop)=>match s with | (s423,s427)=>AQ (decide (s427<r33.Rows)) (AY r33.Start s427 fun x445=>BN (fun (s:(List AC)×Int) (next563:((List AC)×Int)→Prop)=>match s with | (s558,s562)=>AY r33.Start (AJ (s427+1)) fun x579=>AQ (decide (s562<x579)) (AY r33.Col s562 fun x590=>AY r33.Val s562 fun x599=>HS 24 s558 ([({ Row:=s427,Col:=x590,Val:=x599 }:AC)]) fun _=>next563 ((s558++([({ Row:=s427,Col:=x590,Val:=x599 }:AC)])),AJ (s562+1))) (next429 (s558,AJ (s427+1)))) (s423,x445)) (Q s423)) (([]:List AC),0)
def KD (a0:List Int) (a1:List Int) (Q:Bool→Prop):Prop:=
  AQ ((a0.length:Int) != (a1.length:Int)) (Q false) (BN (fun (s54:Int) (next55:Int→Prop)=>AQ (decide (s54<(a0.length:Int))) (AY a0 s54 fun x61=>AY a1 s54 fun x70=>AQ (x61 != x70) (Q false) (next55 (AJ (s54+1)))) (Q true)) 0)
def NH (a0:List Int) (a1:List Int) (Q:Bool→Prop):Prop:=
  AQ ((a0.length:Int) != (a1.length:Int)) (Q false) (BN (fun (s54:Int) (next55:Int→Prop)=>AQ (decide (s54<(a0.length:Int))) (AY a0 s54 fun x61=>AY a1 s54 fun x70=>AQ (x61 != x70) (Q false) (next55 (AJ (s54+1)))) (Q true)) 0)
def SH (a0:Rows) (a1:Rows) (Q:Bool→Prop):Prop:=
  AQ (a0.Rows==a1.Rows) (AQ (a0.Cols==a1.Cols) (KD a0.Start a1.Start fun r29=>AQ r29 (KD a0.Col a1.Col fun r34=>AQ r34 (NH a0.Val a1.Val fun r39=>Q r39) (Q false)) (Q false)) (Q false)) (Q false)
def XN (a0:AK) (a1:AK) (Q:Bool→Prop):Prop:=
  AQ (decide (a0.Row<a1.Row)) (Q true) (AQ (a0.Row==a1.Row) (Q (decide (a0.Col<a1.Col))) (Q false))
def TL (a0:List AK) (Q:Bool→Prop):Prop:=
  BN (fun (s57:Int) (next58:Int→Prop)=>AQ (decide (s57<(a0.length:Int))) (AY a0 (AJ (s57 - 1)) fun x64=>AY a0 s57 fun x73=>XN x64 x73 fun r81=>AQ (!r81) (Q false) (next58 (AJ (s57+1)))) (Q true)) 1
def XO (a0:Int) (Q:Bool→Prop):Prop:=
  AQ (a0==1) (Q true) (AQ (a0==3) (Q true) (Q (a0==4)))
def VU (a0:Int) (Q:Int→Prop):Prop:=
  XO a0 fun r1=>AQ r1 (Q 4611686018427387904) (Q 0)
def VV (a0:Int) (a1:Int) (a2:Int) (a3:List AK) (Q:(Rows×Int)→Prop):Prop:=
  RU a0 fun r22=>AQ (!r22) (Q (({ Rows:=0,Cols:=0,Start:=([]:List Int),Col:=([]:List Int),Val:=([]:List Int) }:Rows),8)) (AQ (decide (a1<0)) (Q (({ Rows:=0,Cols:=0,Start:=([]:List Int),Col:=([]:List Int),Val:=([]:List Int) }:Rows),3)) (AQ (decide (4096<a1)) (Q (({ Rows:=0,Cols:=0,Start:=([]:List Int),Col:=([]:List Int),Val:=([]:List Int) }:Rows),3)) (AQ (decide (a2<0)) (Q (({ Rows:=0,Cols:=0,Start:=([]:List Int),Col:=([]:List Int),Val:=([]:List Int) }:Rows),3)) (AQ (decide (4096<a2)) (Q (({ Rows:=0,Cols:=0,Start:=([]:List Int),Col:=([]:List Int),Val:=([]:List Int) }:Rows),3)) (BN (fun (s255:Int) (next256:Int→Prop)=>AQ (decide (s255<(a3.length:Int))) (AY a3 s255 fun x262=>AQ (decide (x262.Row<0)) (Q (({ Rows:=0,Cols:=0,Start:=([]:List Int),Col:=([]:List Int),Val:=([]:List Int) }:Rows),3)) (AY a3 s255 fun x272=>AQ (decide (a1≤x272.Row)) (Q (({ Rows:=0,Cols:=0,Start:=([]:List Int),Col:=([]:List Int),Val:=([]:List Int) }:Rows),3)) (AY a3 s255 fun x282=>AQ (decide (x282.Col<0)) (Q (({ Rows:=0,Cols:=0,Start:=([]:List Int),Col:=([]:List Int),Val:=([]:List Int) }:Rows),3)) (AY a3 s255 fun x292=>AQ (decide (a2≤x292.Col)) (Q (({ Rows:=0,Cols:=0,Start:=([]:List Int),Col:=([]:List Int),Val:=([]:List Int) }:Rows),3)) (next256 (AJ (s255+1))))))) (TL a3 fun r306=>AQ (!r306) (Q (({ Rows:=0,Cols:=0,Start:=([]:List Int),Col:=([]:List Int),Val:=([]:List Int) }:Rows),6)) (AQ (decide (65536<(a3.length:Int))) (Q (({ Rows:=0,Cols:=0,Start:=([]:List Int),Col:=([]:List Int),Val:=([]:List Int) }:Rows),5)) (BN (fun (s:(List AC)×Int) (next679:((List AC)×Int)→Prop)=>match s with | (s673,s677)=>AQ (decide (s677<(a3.length:Int))) (AY a3 s677 fun x699=>NE x699.Val fun r707=>AQ (!r707.2) (Q (({ Rows:=0,Cols:=0,Start:=([]:List Int),Col:=([]:List Int),Val:=([]:List Int) }:Rows),12)) (VU a0 fun r717=>AQ (r707.1 != r717) (AY a3 s677 fun x724=>AY a3 s677 fun x733=>HS 24 s673 ([({ Row:=x724.Row,Col:=x733.Col,Val:=r707.1 }:AC)]) fun _=>next679 ((s673++([({ Row:=x724.Row,Col:=x733.Col,Val:=r707.1 }:AC)])),AJ (s677+1))) (next679 (s673,AJ (s677+1))))) (RV a0 a1 a2 s673 fun r752=>Q (r752.1,r752.2))) (([]:List AC),0))))) 0)))))
def TM (a0:AN) (Q:AN→Prop):Prop:=
  KN ({ Hi:=YW .i64 (-1) a0.Hi,Lo:=YW .u64 18446744073709551615 a0.Lo }:AN) ({ Hi:=0,Lo:=1 }:AN) fun r9=>Q r9
def YL (a0:Int) (a1:Int) (Q:AN→Prop):Prop:=
  GX a0 fun r11=>EY (fun (k20:Int→Prop)=>AQ (decide (a1<0)) (k20 (IntKind.wrap .u64 (0 - (IntKind.wrap .u64 (a1))))) (k20 (IntKind.wrap .u64 (a1)))) fun s19=>BN (fun (s:Int×Int×Int×Int×Int) (next147:(Int×Int×Int×Int×Int)→Prop)=>match s with | (s142,s143,s144,s145,s146)=>AQ (decide (0<s144)) (AQ ((s144.tmod 2)==1) (KN ({ Hi:=s145,Lo:=s146 }:AN) ({ Hi:=s142,Lo:=s143 }:AN) fun r154=>KN ({ Hi:=s142,Lo:=s143 }:AN) ({ Hi:=s142,Lo:=s143 }:AN) fun r158=>next147 (r158.Hi,r158.Lo,IntKind.wrap .u64 (s144.tdiv 2),r154.Hi,r154.Lo)) (KN ({ Hi:=s142,Lo:=s143 }:AN) ({ Hi:=s142,Lo:=s143 }:AN) fun r162=>next147 (r162.Hi,r162.Lo,IntKind.wrap .u64 (s144.tdiv 2),s145,s146))) (AQ (decide (a1<0)) (TM ({ Hi:=s145,Lo:=s146 }:AN) fun r167=>Q r167) (Q ({ Hi:=s145,Lo:=s146 }:AN)))) (r11.Hi,r11.Lo,s19,0,0)
def YM (a0:Int) (a1:Int) (a2:Int) (Q:AN→Prop):Prop:=
  EY (fun (k8:Bool→Prop)=>AQ (decide (4611686018427387904≤a1)) (k8 true) (k8 (decide (4611686018427387904≤a2)))) fun s7=>AQ (a0==1) (GX a1 fun r27=>GX a2 fun r31=>KN r27 r31 fun r35=>AQ s7 (GX 4611686018427387904 fun r42=>Q r42) (GX 4611686018427387904 fun r46=>HI r35 r46 fun r50=>AQ (decide (0<r50)) (GX 4611686018427387904 fun r55=>Q r55) (Q r35))) (AQ (a0==3) (AQ s7 (GX 4611686018427387904 fun r61=>Q r61) (GX a1 fun r65=>Q r65)) (AQ (a0==4) (AQ s7 (GX 4611686018427387904 fun r71=>Q r71) (GX a2 fun r75=>Q r75)) (AQ (a0==2) (AQ (a1 != 0) (JY (a2 != 0) fun r81=>Q r81) (JY false fun r85=>Q r85)) (AQ (a0==5) (YL a1 a2 fun r90=>Q r90) (Q ({ Hi:=0,Lo:=0 }:AN))))))
def TN (a0:Int) (a1:Rows) (a2:Rows) (a3:Rows) (Q:((List AK)×Int)→Prop):Prop:=
  HK a1 fun r93=>HK a2 fun r109=>HK a3 fun r126=>RU a0 fun r148=>AQ (!r148) (Q (([]:List AK),8)) (AQ (r93.Cols != r109.Rows) (Q (([]:List AK),4)) (AQ (r126.Rows != r93.Rows) (Q (([]:List AK),4)) (AQ (r126.Cols != r109.Cols) (Q (([]:List AK),4)) (PD r126 fun r170=>BN (fun (s:(List AK)×Int) (next1926:((List AK)×Int)→Prop)=>match s with | (s1920,s1924)=>AQ (decide (s1924<(r170.length:Int))) (AY r170 s1924 fun x2380=>AY r93.Start x2380.Row fun x2389=>BN (fun (s:Int×Int×Bool×Int) (next2654:(Int×Int×Bool×Int)→Prop)=>match s with | (s2650,s2651,s2652,s2653)=>AY r170 s1924 fun x2681=>AY r93.Start (AJ (x2681.Row+1)) fun x2690=>AQ (decide (s2653<x2690)) (AY r93.Col s2653 fun x2724=>AY r170 s1924 fun x2733=>RG r109 x2724 x2733.Col fun r2741=>AQ (!r2741.2) (next2654 (s2650,s2651,s2652,AJ (s2653+1))) (AY r93.Val s2653 fun x2763=>YM a0 x2763 r2741.1 fun r2771=>AQ s2652 (UR a0 ({ Hi:=s2650,Lo:=s2651 }:AN) r2771 fun r2778=>next2654 (r2778.Hi,r2778.Lo,true,AJ (s2653+1))) (next2654 (r2771.Hi,r2771.Lo,true,AJ (s2653+1))))) (AQ s2652 (AY r170 s1924 fun x2785=>AY r170 s1924 fun x2794=>HS 32 s1920 ([({ Row:=x2785.Row,Col:=x2794.Col,Val:=({ Hi:=s2650,Lo:=s2651 }:AN) }:AK)]) fun _=>next1926 ((s1920++([({ Row:=x2785.Row,Col:=x2794.Col,Val:=({ Hi:=s2650,Lo:=s2651 }:AN) }:AK)])),AJ (s1924+1))) (next1926 (s1920,AJ (s1924+1))))) (0,0,false,x2389)) (Q (s1920,0))) (([]:List AK),0)))))
def ER (a0:BL) (Q:Int→Prop):Prop:=
  GY a0 fun r37=>AQ (r37 != 0) (Q 0) (Q (AJ ((AJ ((AJ (a0.R+a0.C))*(AJ (a0.R+a0.C))))+2)))
def VW (a0:Int) (a1:Int) (Q:Rows→Prop):Prop:=
  BN (fun (s:(List AC)×Int) (next309:((List AC)×Int)→Prop)=>match s with | (s303,s307)=>AQ (decide (s307<a0)) (BN (fun (s:(List AC)×Int) (next350:((List AC)×Int)→Prop)=>match s with | (s345,s349)=>AQ (decide (s349<a1)) (HS 24 s345 ([({ Row:=s307,Col:=s349,Val:=1 }:AC)]) fun _=>next350 ((s345++([({ Row:=s307,Col:=s349,Val:=1 }:AC)])),AJ (s349+1))) (next309 (s345,AJ (s307+1)))) (s303,0)) (RV 1 a0 a1 s303 fun r366=>Q r366.1)) (([]:List AC),0)
def PP (a0:Int) (a1:Rows) (a2:Rows) (a3:Rows) (Q:(Rows×Int)→Prop):Prop:=
  TN a0 a1 a2 a3 fun r63=>AQ (r63.2 != 0) (Q (({ Rows:=0,Cols:=0,Start:=([]:List Int),Col:=([]:List Int),Val:=([]:List Int) }:Rows),r63.2)) (HK a1 fun r75=>HK a2 fun r92=>VV a0 r75.Rows r92.Cols r63.1 fun r109=>Q (r109.1,r109.2))
def IJ (a0:Int) (a1:Int) (a2:Int) (Q:Int→Prop):Prop:=
  OJ a0 fun r1=>AQ (!r1) (Q (-1)) (AQ (decide (a1<0)) (Q (-1)) (AQ (decide (8≤a1)) (Q (-1)) (AQ (decide (a2<0)) (Q (-1)) (AQ (decide (a0≤a2)) (Q (-1)) (Q (AJ ((AJ (a1*a0))+a2)))))))
def CF (o1:BL) (o2:Int) (o3:List (Nat×AA)) (o4:AA) (a0:Int) (a1:Int) (a2:Int) (a3:List AC) (Q:AA→Prop):Prop:=
  IJ o1.C o4.i o4.j fun r59=>IJ o1.C a1 a2 fun r63=>HS 136 o4.out ([({ Kind:=a0,From:=r59,To:=r63,Seq:=0,Round:=o2,Vec:=({ N:=0,Items:=([]:List CE) }:Vec),Sums:=([]:List dC),Triples:=a3,N:=0,Over:=false }:BP)]) fun _=>Q ({ i:=o4.i,j:=o4.j,mask:=o4.mask,out:=(o4.out++([({ Kind:=a0,From:=r59,To:=r63,Seq:=0,Round:=o2,Vec:=({ N:=0,Items:=([]:List CE) }:Vec),Sums:=([]:List dC),Triples:=a3,N:=0,Over:=false }:BP)])),parts:=o4.parts,at_:=o4.at_,has:=o4.has }:AA)
def FX (o0:AD) (o1:AA) (o2:List (Nat×AA)) (a0:Int) (a1:BE) (Q:AA→Prop):Prop:=
  EY (fun (k645:(Int×Int×Int×Int×(List Int)×(List Int)×(List Int)×(List BP)×(List (BC×(List AC)))×Int×(List AK))→Prop)=>AQ (a1.Col==o1.j) (IF o0.p.A.Rows o0.p.R o1.i fun r678=>LR o0.p.A r678 (a1.From,a1.To) fun r682=>MI r682 fun r698=>BN (fun (s:Int×Int×Int×Int×(List Int)×(List Int)×(List Int)×(List BP)×(List (BC×(List AC)))×Int×(List AK)×Int) (next879:(Int×Int×Int×Int×(List Int)×(List Int)×(List Int)×(List BP)×(List (BC×(List AC)))×Int×(List AK)×Int)→Prop)=>match s with | (s852,s853,s854,s855,s856,s860,s864,s868,s872,s873,s874,s878)=>AQ (decide (s878<o0.p.C)) (CF o0.p a0 o2 ({ i:=s852,j:=s853,mask:=({ Rows:=s854,Cols:=s855,Start:=s856,Col:=s860,Val:=s864 }:Rows),out:=s868,parts:=s872,at_:=s873,has:=s874 }:AA) 6 s852 s878 r698 fun r891=>next879 (r891.i,r891.j,r891.mask.Rows,r891.mask.Cols,r891.mask.Start,r891.mask.Col,r891.mask.Val,r891.out,r891.parts,r891.at_,r891.has,AJ (s878+1))) (k645 (s852,s853,s854,s855,s856,s860,s864,s868,s872,s873,s874))) (o1.i,o1.j,o1.mask.Rows,o1.mask.Cols,o1.mask.Start,o1.mask.Col,o1.mask.Val,o1.out,o1.parts,o1.at_,o1.has,0)) (k645 (o1.i,o1.j,o1.mask.Rows,o1.mask.Cols,o1.mask.Start,o1.mask.Col,o1.mask.Val,o1.out,o1.parts,o1.at_,o1.has))) fun (s619,s620,s621,s622,s623,s627,s631,s635,s639,s640,s641)=>AQ (a1.Row==s619) (IF o0.p.B.Cols o0.p.C s620 fun r950=>LR o0.p.B (a1.From,a1.To) r950 fun r954=>MI r954 fun r971=>BN (fun (s:Int×Int×Int×Int×(List Int)×(List Int)×(List Int)×(List BP)×(List (BC×(List AC)))×Int×(List AK)×Int) (next1152:(Int×Int×Int×Int×(List Int)×(List Int)×(List Int)×(List BP)×(List (BC×(List AC)))×Int×(List AK)×Int)→Prop)=>match s with | (s1125,s1126,s1127,s1128,s1129,s1133,s1137,s1141,s1145,s1146,s1147,s1151)=>AQ (decide (s1151<o0.p.R)) (CF o0.p a0 o2 ({ i:=s1125,j:=s1126,mask:=({ Rows:=s1127,Cols:=s1128,Start:=s1129,Col:=s1133,Val:=s1137 }:Rows),out:=s1141,parts:=s1145,at_:=s1146,has:=s1147 }:AA) 7 s1151 s1126 r971 fun r1164=>next1152 (r1164.i,r1164.j,r1164.mask.Rows,r1164.mask.Cols,r1164.mask.Start,r1164.mask.Col,r1164.mask.Val,r1164.out,r1164.parts,r1164.at_,r1164.has,AJ (s1151+1))) (Q ({ i:=s1125,j:=s1126,mask:=({ Rows:=s1127,Cols:=s1128,Start:=s1129,Col:=s1133,Val:=s1137 }:Rows),out:=s1141,parts:=s1145,at_:=s1146,has:=s1147 }:AA))) (s619,s620,s621,s622,s623,s627,s631,s635,s639,s640,s641,0)) (Q ({ i:=s619,j:=s620,mask:=({ Rows:=s621,Cols:=s622,Start:=s623,Col:=s627,Val:=s631 }:Rows),out:=s635,parts:=s639,at_:=s640,has:=s641 }:AA))
def FA (o0:List (Nat×AA)) (o1:List (Nat×AF)) (a0:BL) (Q0:(Int×(List (Nat×AA)))→Prop) (Q1:(Int×(List (Nat×AA))×AD)→Prop):Prop:=
  GY a0 fun r39=>AQ (r39 != 0) (Q0 (r39,o0)) (LC a0.A.Cols a0.R a0.C fun r59=>BN (fun (s:(List (Option Nat))×Int×(List (Nat×AA))) (next1279:((List (Option Nat))×Int×(List (Nat×AA)))→Prop)=>match s with | (s1272,s1276,s1277)=>AQ (decide (s1276<(AJ (a0.R*a0.C)))) (US a0.C s1276 fun r1293=>XI a0.C s1276 fun r1297=>RE a0.Mask a0.R a0.C r1293 r1297 fun r1323=>BN (fun (s:Int×Int×Int×Int×(List Int)×(List Int)×(List Int)×(List BP)×(List (BC×(List AC)))×Int×(List AK)×Int) (next1790:(Int×Int×Int×Int×(List Int)×(List Int)×(List Int)×(List BP)×(List (BC×(List AC)))×Int×(List AK)×Int)→Prop)=>match s with | (s1761,s1762,s1763,s1764,s1765,s1769,s1773,s1777,s1781,s1782,s1783,s1787)=>AQ (decide (s1787<(r59.length:Int))) (AY r59 s1787 fun x1798=>FX ({ p:=a0,stages:=r59,workers:=s1272,boxes:=([]:List ((Int×Int)×(Option Nat))) }:AD) ({ i:=s1761,j:=s1762,mask:=({ Rows:=s1763,Cols:=s1764,Start:=s1765,Col:=s1769,Val:=s1773 }:Rows),out:=s1777,parts:=s1781,at_:=s1782,has:=s1783 }:AA) s1277 s1787 x1798 fun r1814=>next1790 (r1814.i,r1814.j,r1814.mask.Rows,r1814.mask.Cols,r1814.mask.Start,r1814.mask.Col,r1814.mask.Val,r1814.out,r1814.parts,r1814.at_,r1814.has,AJ (s1787+1))) (Ae0 s1277 fun b1343=>HS 8 s1272 ([(some b1343)]) fun _=>next1279 ((s1272++([(some b1343)])),AJ (s1276+1),((b1343,({ i:=s1761,j:=s1762,mask:=({ Rows:=s1763,Cols:=s1764,Start:=s1765,Col:=s1769,Val:=s1773 }:Rows),out:=s1777,parts:=s1781,at_:=s1782,has:=s1783 }:AA)) :: s1277)))) (r1293,r1297,r1323.Rows,r1323.Cols,r1323.Start,r1323.Col,r1323.Val,([]:List BP),([]:List (BC×(List AC))),0,([]:List AK),0)) (Q1 (0,s1277,({ p:=a0,stages:=r59,workers:=s1272,boxes:=([]:List ((Int×Int)×(Option Nat))) }:AD)))) (([]:List (Option Nat)),0,o0))
def PZ (a0:JV) (Q:Bool→Prop):Prop:=
  RZ a0 fun r3=>Q (!r3)
def DL (a0:List JV) (Q:Int→Prop):Prop:=
  BN (fun (s45:Int) (next46:Int→Prop)=>AQ (decide (s45<(a0.length:Int))) (AY a0 s45 fun x52=>PZ x52 fun r66=>AQ r66 (Q s45) (next46 (AJ (s45+1)))) (Q (-1))) 0
def BZ (a0:List JV) (Q:Bool→Prop):Prop:=
  DL a0 fun r10=>Q (decide (0≤r10))
def KE (o0:List (Nat×AA)) (o1:List (Nat×AF)) (a0:JV) (Q:Bool→Prop):Prop:=
  Q false
def FK (o0:List (Nat×AA)) (Q:Bool→Prop):Prop:=
  Q false
def LD (o0:List (Nat×AA)) (o1:List (Nat×AF))  : Prop:=
  False
def DT (o0:List (Nat×AA)) (Q:(Rows×Int)→Prop):Prop:=
  Q (({ Rows:=0,Cols:=0,Start:=([]:List Int),Col:=([]:List Int),Val:=([]:List Int) }:Rows),10)
def DG (o0:AD) (o1:List (Nat×AA)) (a0:Int) (Q:Bool→Prop):Prop:=
  AQ (decide (0≤a0)) (Q (decide (a0<(o0.workers.length:Int)))) (Q false)
def EN (o0:AD) (o1:List (Nat×AA)) (a0:Int) (Q:Int→Prop):Prop:=
  DG o0 o1 a0 fun r53=>AQ (!r53) (Q 0) (AY o0.workers a0 fun x56=>FW o1 x56 fun b64 x65=>Q (x65.out.length:Int))
def QR (a0:Int) (Q0:Int→Prop) (Q1:(Int×AF)→Prop):Prop:=
  AQ (decide (a0<1)) (Q0 3) (AQ (decide (64<a0)) (Q0 3) (Q1 (0,({ room:=a0,row:=([]:List Int),by_:=([]:List (Int×BP)),often:=([]:List (Int×Int)),sent:=0,taken:=0 }:AF))))
def CB (o0:AD) (o1:List (Nat×AA)) (o2:List (Nat×AF)) (a0:Int) (a1:Int) (Q0:(AD×(List (Nat×AF)))→Prop) (Q1:((Option Nat)×AD×(List (Nat×AF)))→Prop):Prop:=
  DG o0 o1 a0 fun r63=>AQ (!r63) (Q0 (o0,o2)) (DG o0 o1 a1 fun r71=>AQ (!r71) (Q0 (o0,o2)) (wH o0.boxes (a0,a1) none fun r84=>AQ r84.isNone (QR o0.p.Room (fun r97=>wH (ET (a0,a1) none o0.boxes) (a0,a1) none fun r110=>Q1 (r110,({ p:=o0.p,stages:=o0.stages,workers:=o0.workers,boxes:=(ET (a0,a1) none o0.boxes) }:AD),o2)) (fun r98=>Ae0 o2 fun b100=>wH (ET (a0,a1) (some b100) o0.boxes) (a0,a1) none fun r118=>Q1 (r118,({ p:=o0.p,stages:=o0.stages,workers:=o0.workers,boxes:=(ET (a0,a1) (some b100) o0.boxes) }:AD),((b100,r98.2) :: o2)))) (wH o0.boxes (a0,a1) none fun r124=>Q1 (r124,o0,o2))))
def NI (a0:BP) (Q:Int→Prop):Prop:=
  Q 10
def HB (o0:AF) (Q:Bool→Prop):Prop:=
  Q (decide (o0.room≤(o0.row.length:Int)))
def HV (o0:AF) (a0:Int) (Q:AF→Prop):Prop:=
  HS 8 o0.row ([a0]) fun _=>wH o0.often a0 0 fun r17=>Q ({ room:=o0.room,row:=(o0.row++([a0])),by_:=o0.by_,often:=(ET a0 (AJ (r17+1)) o0.often),sent:=o0.sent,taken:=o0.taken }:AF)
def JH (o0:AF) (a0:BP) (Q:(Int×AF)→Prop):Prop:=
  HB o0 fun r38=>AQ r38 (Q (9,o0)) (XK a0 fun r57=>HV ({ room:=o0.room,row:=o0.row,by_:=(ET o0.sent ({ Kind:=r57.Kind,From:=r57.From,To:=r57.To,Seq:=o0.sent,Round:=r57.Round,Vec:=r57.Vec,Sums:=r57.Sums,Triples:=r57.Triples,N:=r57.N,Over:=r57.Over }:BP) o0.by_),often:=o0.often,sent:=o0.sent,taken:=o0.taken }:AF) o0.sent fun r98=>Q (0,({ room:=r98.room,row:=r98.row,by_:=r98.by_,often:=r98.often,sent:=AJ (r98.sent+1),taken:=r98.taken }:AF)))
def ON (o0:List (Nat×AF)) (a0:Option Nat) (a1:BP) (Q:(Int×(List (Nat×AF)))→Prop):Prop:=
  mL a0 (NI a1 fun rr=>Q (rr,o0)) fun b=>pK o0 b fun x=>JH x a1 fun rr=>Q (rr.1,(b,rr.2) :: CH b o0)
def CX (o0:AD) (o1:List (Nat×AA)) (o2:List (Nat×AF)) (a0:Int) (Q:(Bool×AD×(List (Nat×AA))×(List (Nat×AF)))→Prop):Prop:=
  EN o0 o1 a0 fun r54=>AQ (r54==0) (Q (false,o0,o1,o2)) (AY o0.workers a0 fun x66=>EY (fun (k457:(Int×Int×Int×(List Int)×(List Int)×(List Int)×Int×Int×(List Int)×(List Int)×(List Int)×Int×Int×(List Int)×(List Int)×(List Int)×Int×Int×Int×(List BE)×(List (Option Nat))×(List ((Int×Int)×(Option Nat)))×(Option Nat)×(List (Nat×AF)))→Prop)=>FW o1 x66 fun b458 x459=>AY x459.out 0 fun x481=>AY x459.out 0 fun x499=>CB o0 (CH b458 o1) o2 a0 x481.To (fun r522=>NI x499 fun r607=>AQ (r607 != 0) (Q (false,r522.1,o1,r522.2)) (k457 (r522.1.p.Ring,r522.1.p.A.Rows,r522.1.p.A.Cols,r522.1.p.A.Start,r522.1.p.A.Col,r522.1.p.A.Val,r522.1.p.B.Rows,r522.1.p.B.Cols,r522.1.p.B.Start,r522.1.p.B.Col,r522.1.p.B.Val,r522.1.p.Mask.Rows,r522.1.p.Mask.Cols,r522.1.p.Mask.Start,r522.1.p.Mask.Col,r522.1.p.Mask.Val,r522.1.p.R,r522.1.p.C,r522.1.p.Room,r522.1.stages,r522.1.workers,r522.1.boxes,(some b458),r522.2))) (fun r561=>ON r561.2.2 r561.1 x499 fun r618=>AQ (r618.1 != 0) (Q (false,r561.2.1,o1,r618.2)) (k457 (r561.2.1.p.Ring,r561.2.1.p.A.Rows,r561.2.1.p.A.Cols,r561.2.1.p.A.Start,r561.2.1.p.A.Col,r561.2.1.p.A.Val,r561.2.1.p.B.Rows,r561.2.1.p.B.Cols,r561.2.1.p.B.Start,r561.2.1.p.B.Col,r561.2.1.p.B.Val,r561.2.1.p.Mask.Rows,r561.2.1.p.Mask.Cols,r561.2.1.p.Mask.Start,r561.2.1.p.Mask.Col,r561.2.1.p.Mask.Val,r561.2.1.p.R,r561.2.1.p.C,r561.2.1.p.Room,r561.2.1.stages,r561.2.1.workers,r561.2.1.boxes,(some b458),r618.2)))) fun (s400,s401,s402,s403,s407,s411,s415,s416,s417,s421,s425,s429,s430,s431,s435,s439,s443,s444,s445,s446,s450,s454,s455,s456)=>FW o1 s455 fun b626 x627=>slP x627.out 1 (x627.out.length:Int) fun _=>Q (true,({ p:=({ Ring:=s400,A:=({ Rows:=s401,Cols:=s402,Start:=s403,Col:=s407,Val:=s411 }:Rows),B:=({ Rows:=s415,Cols:=s416,Start:=s417,Col:=s421,Val:=s425 }:Rows),Mask:=({ Rows:=s429,Cols:=s430,Start:=s431,Col:=s435,Val:=s439 }:Rows),R:=s443,C:=s444,Room:=s445 }:BL),stages:=s446,workers:=s450,boxes:=s454 }:AD),((b626,({ i:=x627.i,j:=x627.j,mask:=x627.mask,out:=((x627.out.take (x627.out.length:Int).toNat).drop (Int.toNat 1)),parts:=x627.parts,at_:=x627.at_,has:=x627.has }:AA)) :: (CH b626 o1)),s456))
def FR (a0:Int) (Q:Int→Prop):Prop:=
  Q 10
def JI (a0:Int) (Q:(BP×Bool×Int)→Prop):Prop:=
  FR a0 fun r33=>AQ (r33 != 0) (Q (({ Kind:=0,From:=0,To:=0,Seq:=0,Round:=0,Vec:=({ N:=0,Items:=([]:List CE) }:Vec),Sums:=([]:List dC),Triples:=([]:List AC),N:=0,Over:=false }:BP),false,r33)) (False)
def GR (o0:AF) (a0:Int) (Q:Int→Prop):Prop:=
  AQ (decide (a0<0)) (Q 3) (AQ (decide ((o0.row.length:Int)≤a0)) (Q 3) (Q 0))
def DP (o0:List Int) (a0:Int) (a1:Int) (Q:(List Int)→Prop):Prop:=
  slP o0 a0 a1 fun _=>AQ (a0==a1) (Q o0) (slP o0 0 a0 fun _=>slP o0 a1 (o0.length:Int) fun _=>Q (o0.take a0.toNat++o0.drop a1.toNat))
def KQ (o0:AF) (a0:Int) (Q:(BP×AF)→Prop):Prop:=
  AY o0.row a0 fun x21=>wH o0.by_ x21 ({ Kind:=0,From:=0,To:=0,Seq:=0,Round:=0,Vec:=({ N:=0,Items:=([]:List CE) }:Vec),Sums:=([]:List dC),Triples:=([]:List AC),N:=0,Over:=false }:BP) fun r42=>DP o0.row a0 (AJ (a0+1)) fun r75=>wH o0.often x21 0 fun r85=>wH (ET x21 (AJ (r85 - 1)) o0.often) x21 0 fun r97=>AQ (r97==0) (Q (r42,({ room:=o0.room,row:=r75,by_:=(CH x21 o0.by_),often:=(CH x21 (ET x21 (AJ (r85 - 1)) o0.often)),sent:=o0.sent,taken:=o0.taken }:AF))) (Q (r42,({ room:=o0.room,row:=r75,by_:=o0.by_,often:=(ET x21 (AJ (r85 - 1)) o0.often),sent:=o0.sent,taken:=o0.taken }:AF)))
def JJ (o0:AF) (a0:Int) (Q:(BP×Bool×Int×AF)→Prop):Prop:=
  GR o0 a0 fun r50=>AQ (r50 != 0) (Q (({ Kind:=0,From:=0,To:=0,Seq:=0,Round:=0,Vec:=({ N:=0,Items:=([]:List CE) }:Vec),Sums:=([]:List dC),Triples:=([]:List AC),N:=0,Over:=false }:BP),false,r50,o0)) (AY o0.row a0 fun x54=>AQ (decide (o0.taken<x54)) (Q (({ Kind:=0,From:=0,To:=0,Seq:=0,Round:=0,Vec:=({ N:=0,Items:=([]:List CE) }:Vec),Sums:=([]:List dC),Triples:=([]:List AC),N:=0,Over:=false }:BP),false,r50,o0)) (KQ o0 a0 fun r94=>AQ (decide (r94.1.Seq<r94.2.taken)) (Q (({ Kind:=0,From:=0,To:=0,Seq:=0,Round:=0,Vec:=({ N:=0,Items:=([]:List CE) }:Vec),Sums:=([]:List dC),Triples:=([]:List AC),N:=0,Over:=false }:BP),false,0,r94.2)) (XK r94.1 fun r119=>Q (r119,true,0,({ room:=r94.2.room,row:=r94.2.row,by_:=r94.2.by_,often:=r94.2.often,sent:=r94.2.sent,taken:=AJ (r94.2.taken+1) }:AF)))))
def OO (o0:List (Nat×AF)) (a0:Option Nat) (a1:Int) (Q:(BP×Bool×Int×(List (Nat×AF)))→Prop):Prop:=
  mL a0 (JI a1 fun rr=>Q (rr.1,rr.2.1,rr.2.2,o0)) fun b=>pK o0 b fun x=>JJ x a1 fun rr=>Q (rr.1,rr.2.1,rr.2.2.1,(b,rr.2.2.2) :: CH b o0)
def CV (o0:AD) (o1:List (Nat×AA)) (a0:Option Nat) (Q:(Bool×(List (Nat×AA)))→Prop):Prop:=
  FW o1 a0 fun b62 x63=>AQ (decide ((o0.stages.length:Int)≤x63.at_)) (Q (false,o1)) (FW o1 (some b62) fun _ x112=>FW o1 (some b62) fun _ x169=>mF x169.parts ({ kind:=6,stage:=x112.at_ }:BC) ([]:List AC) fun r190 t195=>FW o1 (some b62) fun _ x231=>mF x231.parts ({ kind:=7,stage:=x112.at_ }:BC) ([]:List AC) fun r252 t257=>AQ (!t195) (Q (false,o1)) (AQ (!t257) (Q (false,o1)) (FW o1 (some b62) fun _ x306=>AY o0.stages x306.at_ fun x328=>AY o0.stages x306.at_ fun x337=>FW o1 (some b62) fun _ x386=>SD o0.p.Ring x386.mask.Rows (AJ (x328.To - x337.From)) r190 fun r408=>FW o1 (some b62) fun _ x467=>SD o0.p.Ring (AJ (x328.To - x337.From)) x467.mask.Cols r252 fun r489=>FW o1 (some b62) fun _ x541=>SE o0.p.Ring r408.1 r489.1 x541.mask fun r562=>FW o1 (some b62) fun _ x613=>OM o0.p.Ring ([x613.has,r562.1]:List (List AK)) fun r640=>FW ((b62,({ i:=x613.i,j:=x613.j,mask:=x613.mask,out:=x613.out,parts:=x613.parts,at_:=x613.at_,has:=r640.1 }:AA)) :: (CH b62 o1)) (some b62) fun _ x674=>FW ((b62,({ i:=x674.i,j:=x674.j,mask:=x674.mask,out:=x674.out,parts:=(CH ({ kind:=6,stage:=x112.at_ }:BC) x674.parts),at_:=x674.at_,has:=x674.has }:AA)) :: (CH b62 ((b62,({ i:=x613.i,j:=x613.j,mask:=x613.mask,out:=x613.out,parts:=x613.parts,at_:=x613.at_,has:=r640.1 }:AA)) :: (CH b62 o1)))) (some b62) fun _ x718=>FW ((b62,({ i:=x718.i,j:=x718.j,mask:=x718.mask,out:=x718.out,parts:=(CH ({ kind:=7,stage:=x112.at_ }:BC) x718.parts),at_:=x718.at_,has:=x718.has }:AA)) :: (CH b62 ((b62,({ i:=x674.i,j:=x674.j,mask:=x674.mask,out:=x674.out,parts:=(CH ({ kind:=6,stage:=x112.at_ }:BC) x674.parts),at_:=x674.at_,has:=x674.has }:AA)) :: (CH b62 ((b62,({ i:=x613.i,j:=x613.j,mask:=x613.mask,out:=x613.out,parts:=x613.parts,at_:=x613.at_,has:=r640.1 }:AA)) :: (CH b62 o1)))))) (some b62) fun _ x740=>Q (true,((b62,({ i:=x740.i,j:=x740.j,mask:=x740.mask,out:=x740.out,parts:=x740.parts,at_:=AJ (x740.at_+1),has:=x740.has }:AA)) :: (CH b62 ((b62,({ i:=x718.i,j:=x718.j,mask:=x718.mask,out:=x718.out,parts:=(CH ({ kind:=7,stage:=x112.at_ }:BC) x718.parts),at_:=x718.at_,has:=x718.has }:AA)) :: (CH b62 ((b62,({ i:=x674.i,j:=x674.j,mask:=x674.mask,out:=x674.out,parts:=(CH ({ kind:=6,stage:=x112.at_ }:BC) x674.parts),at_:=x674.at_,has:=x674.has }:AA)) :: (CH b62 ((b62,({ i:=x613.i,j:=x613.j,mask:=x613.mask,out:=x613.out,parts:=x613.parts,at_:=x613.at_,has:=r640.1 }:AA)) :: (CH b62 o1))))))))))))
def CY (o0:AD) (o1:List (Nat×AA)) (o2:List (Nat×AF)) (a0:Int) (a1:Int) (a2:Int) (Q:(Bool×AD×(List (Nat×AA))×(List (Nat×AF)))→Prop):Prop:=
  CB o0 o1 o2 a0 a1 (fun r292=>JI a2 fun r376=>AQ (!r376.2.1) (Q (false,r292.1,o1,r292.2)) (AY r292.1.workers a1 fun x401=>FW o1 x401 fun b431 x432=>BN (fun (s476:(List (Nat×AA))) (next477:(List (Nat×AA))→Prop)=>CV r292.1 s476 (some b431) fun r487=>AQ r487.1 (next477 r487.2) (Q (true,r292.1,r487.2,r292.2))) ((b431,({ i:=x432.i,j:=x432.j,mask:=x432.mask,out:=x432.out,parts:=(ET ({ kind:=r376.1.Kind,stage:=r376.1.Round }:BC) r376.1.Triples x432.parts),at_:=x432.at_,has:=x432.has }:AA)) :: (CH b431 o1)))) (fun r331=>OO r331.2.2 r331.1 a2 fun r498=>AQ (!r498.2.1) (Q (false,r331.2.1,o1,r498.2.2.2)) (AY r331.2.1.workers a1 fun x524=>FW o1 x524 fun b554 x555=>BN (fun (s599:(List (Nat×AA))) (next600:(List (Nat×AA))→Prop)=>CV r331.2.1 s599 (some b554) fun r610=>AQ r610.1 (next600 r610.2) (Q (true,r331.2.1,r610.2,r498.2.2.2))) ((b554,({ i:=x555.i,j:=x555.j,mask:=x555.mask,out:=x555.out,parts:=(ET ({ kind:=r498.1.Kind,stage:=r498.1.Round }:BC) r498.1.Triples x555.parts),at_:=x555.at_,has:=x555.has }:AA)) :: (CH b554 o1))))
def TO   : Prop:=
  False
def HP (a0:Int) (Q:Int→Prop):Prop:=
  FR a0 fun r15=>AQ (r15 != 0) (Q r15) (TO )
def HQ (o0:AF) (a0:Int) (Q:(Int×AF)→Prop):Prop:=
  GR o0 a0 fun r25=>AQ (r25 != 0) (Q (r25,o0)) (HB o0 fun r42=>AQ r42 (Q (9,o0)) (AY o0.row a0 fun x46=>HV o0 x46 fun r56=>Q (0,r56)))
def MC (o0:List (Nat×AF)) (a0:Option Nat) (a1:Int) (Q:(Int×(List (Nat×AF)))→Prop):Prop:=
  mL a0 (HP a1 fun rr=>Q (rr,o0)) fun b=>pK o0 b fun x=>HQ x a1 fun rr=>Q (rr.1,(b,rr.2) :: CH b o0)
def JK (a0:Int) (Q:Int→Prop):Prop:=
  FR a0 fun r15=>AQ (r15 != 0) (Q r15) (False)
def JL (o0:AF) (a0:Int) (Q:(Int×AF)→Prop):Prop:=
  GR o0 a0 fun r25=>AQ (r25 != 0) (Q (r25,o0)) (AY o0.row a0 fun x33=>DP o0.row a0 (AJ (a0+1)) fun r43=>HS 8 r43 ([x33]) fun _=>Q (0,({ room:=o0.room,row:=(r43++([x33])),by_:=o0.by_,often:=o0.often,sent:=o0.sent,taken:=o0.taken }:AF)))
def OP (o0:List (Nat×AF)) (a0:Option Nat) (a1:Int) (Q:(Int×(List (Nat×AF)))→Prop):Prop:=
  mL a0 (JK a1 fun rr=>Q (rr,o0)) fun b=>pK o0 b fun x=>JL x a1 fun rr=>Q (rr.1,(b,rr.2) :: CH b o0)
def HW (o0:AF) (Q:Int→Prop):Prop:=
  Q (o0.row.length:Int)
def HX  (Q:Int→Prop):Prop:=
  Q 0
def ES (o0:List (Nat×AF)) (a0:Option Nat) (Q:Int→Prop):Prop:=
  mL a0 (HX  fun rr=>Q rr) fun b=>pK o0 b fun x=>HW x  fun rr=>Q rr
def JB (o0:Int) (a0:Int) (Q:Bool→Prop):Prop:=
  Q (a0==o0)
def DW (o0:List Int) (o1:Int) (Q:Int→Prop):Prop:=
  BN (fun (s39:Int) (next40:Int→Prop)=>AQ (decide (s39<(o0.length:Int))) (AY o0 s39 fun x46=>JB o1 x46 fun r56=>AQ r56 (Q s39) (next40 (AJ (s39+1)))) (Q (-1))) 0
def HR (o0:AF) (Q:Int→Prop):Prop:=
  HW o0 fun r25=>AQ (r25==0) (Q (-1)) (II o0.row fun r27=>DW o0.row r27 fun r39=>Q r39)
def QF  (Q:Int→Prop):Prop:=
  HX  fun r15=>AQ (r15==0) (Q (-1)) (False)
def IK (o0:List (Nat×AF)) (a0:Option Nat) (Q:Int→Prop):Prop:=
  mL a0 (QF  fun rr=>Q rr) fun b=>pK o0 b fun x=>HR x  fun rr=>Q rr
def DU (o0:AD) (o1:List (Nat×AA)) (o2:List (Nat×AF)) (Q:(Bool×AD×(List (Nat×AA))×(List (Nat×AF)))→Prop):Prop:=
  BN (fun (s:Int×Int×Int×(List Int)×(List Int)×(List Int)×Int×Int×(List Int)×(List Int)×(List Int)×Int×Int×(List Int)×(List Int)×(List Int)×Int×Int×Int×(List BE)×(List (Option Nat))×(List ((Int×Int)×(Option Nat)))×Bool×Int×(List (Nat×AA))×(List (Nat×AF))) (next761:(Int×Int×Int×(List Int)×(List Int)×(List Int)×Int×Int×(List Int)×(List Int)×(List Int)×Int×Int×(List Int)×(List Int)×(List Int)×Int×Int×Int×(List BE)×(List (Option Nat))×(List ((Int×Int)×(Option Nat)))×Bool×Int×(List (Nat×AA))×(List (Nat×AF)))→Prop)=>match s with | (s702,s703,s704,s705,s709,s713,s717,s718,s719,s723,s727,s731,s732,s733,s737,s741,s745,s746,s747,s748,s752,s756,s757,s758,s759,s760)=>AQ (decide (s758<(o0.workers.length:Int))) (CX ({ p:=({ Ring:=s702,A:=({ Rows:=s703,Cols:=s704,Start:=s705,Col:=s709,Val:=s713 }:Rows),B:=({ Rows:=s717,Cols:=s718,Start:=s719,Col:=s723,Val:=s727 }:Rows),Mask:=({ Rows:=s731,Cols:=s732,Start:=s733,Col:=s737,Val:=s741 }:Rows),R:=s745,C:=s746,Room:=s747 }:BL),stages:=s748,workers:=s752,boxes:=s756 }:AD) s759 s760 s758 fun r772=>AQ r772.1 (next761 (r772.2.1.p.Ring,r772.2.1.p.A.Rows,r772.2.1.p.A.Cols,r772.2.1.p.A.Start,r772.2.1.p.A.Col,r772.2.1.p.A.Val,r772.2.1.p.B.Rows,r772.2.1.p.B.Cols,r772.2.1.p.B.Start,r772.2.1.p.B.Col,r772.2.1.p.B.Val,r772.2.1.p.Mask.Rows,r772.2.1.p.Mask.Cols,r772.2.1.p.Mask.Start,r772.2.1.p.Mask.Col,r772.2.1.p.Mask.Val,r772.2.1.p.R,r772.2.1.p.C,r772.2.1.p.Room,r772.2.1.stages,r772.2.1.workers,r772.2.1.boxes,true,AJ (s758+1),r772.2.2.1,r772.2.2.2)) (next761 (r772.2.1.p.Ring,r772.2.1.p.A.Rows,r772.2.1.p.A.Cols,r772.2.1.p.A.Start,r772.2.1.p.A.Col,r772.2.1.p.A.Val,r772.2.1.p.B.Rows,r772.2.1.p.B.Cols,r772.2.1.p.B.Start,r772.2.1.p.B.Col,r772.2.1.p.B.Val,r772.2.1.p.Mask.Rows,r772.2.1.p.Mask.Cols,r772.2.1.p.Mask.Start,r772.2.1.p.Mask.Col,r772.2.1.p.Mask.Val,r772.2.1.p.R,r772.2.1.p.C,r772.2.1.p.Room,r772.2.1.stages,r772.2.1.workers,r772.2.1.boxes,s757,AJ (s758+1),r772.2.2.1,r772.2.2.2))) (BN (fun (s:Int×Int×Int×(List Int)×(List Int)×(List Int)×Int×Int×(List Int)×(List Int)×(List Int)×Int×Int×(List Int)×(List Int)×(List Int)×Int×Int×Int×(List BE)×(List (Option Nat))×(List ((Int×Int)×(Option Nat)))×Bool×Int×(List (Nat×AA))×(List (Nat×AF))) (next2118:(Int×Int×Int×(List Int)×(List Int)×(List Int)×Int×Int×(List Int)×(List Int)×(List Int)×Int×Int×(List Int)×(List Int)×(List Int)×Int×Int×Int×(List BE)×(List (Option Nat))×(List ((Int×Int)×(Option Nat)))×Bool×Int×(List (Nat×AA))×(List (Nat×AF)))→Prop)=>match s with | (s2059,s2060,s2061,s2062,s2066,s2070,s2074,s2075,s2076,s2080,s2084,s2088,s2089,s2090,s2094,s2098,s2102,s2103,s2104,s2105,s2109,s2113,s2114,s2115,s2116,s2117)=>AQ (decide (s2115<(s752.length:Int))) (BN (fun (s:Int×Int×Int×(List Int)×(List Int)×(List Int)×Int×Int×(List Int)×(List Int)×(List Int)×Int×Int×(List Int)×(List Int)×(List Int)×Int×Int×Int×(List BE)×(List (Option Nat))×(List ((Int×Int)×(Option Nat)))×Bool×Int×(List (Nat×AA))×(List (Nat×AF))) (next2564:(Int×Int×Int×(List Int)×(List Int)×(List Int)×Int×Int×(List Int)×(List Int)×(List Int)×Int×Int×(List Int)×(List Int)×(List Int)×Int×Int×Int×(List BE)×(List (Option Nat))×(List ((Int×Int)×(Option Nat)))×Bool×Int×(List (Nat×AA))×(List (Nat×AF)))→Prop)=>match s with | (s2505,s2506,s2507,s2508,s2512,s2516,s2520,s2521,s2522,s2526,s2530,s2534,s2535,s2536,s2540,s2544,s2548,s2549,s2550,s2551,s2555,s2559,s2560,s2561,s2562,s2563)=>AQ (decide (s2561<(s2109.length:Int))) (wH s2559 (s2115,s2561) none fun r2577=>ES s2563 r2577 fun r2599=>IK s2563 r2577 fun r2609=>CY ({ p:=({ Ring:=s2505,A:=({ Rows:=s2506,Cols:=s2507,Start:=s2508,Col:=s2512,Val:=s2516 }:Rows),B:=({ Rows:=s2520,Cols:=s2521,Start:=s2522,Col:=s2526,Val:=s2530 }:Rows),Mask:=({ Rows:=s2534,Cols:=s2535,Start:=s2536,Col:=s2540,Val:=s2544 }:Rows),R:=s2548,C:=s2549,Room:=s2550 }:BL),stages:=s2551,workers:=s2555,boxes:=s2559 }:AD) s2562 s2563 s2115 s2561 r2609 fun r2619=>AQ s2560 (next2564 (r2619.2.1.p.Ring,r2619.2.1.p.A.Rows,r2619.2.1.p.A.Cols,r2619.2.1.p.A.Start,r2619.2.1.p.A.Col,r2619.2.1.p.A.Val,r2619.2.1.p.B.Rows,r2619.2.1.p.B.Cols,r2619.2.1.p.B.Start,r2619.2.1.p.B.Col,r2619.2.1.p.B.Val,r2619.2.1.p.Mask.Rows,r2619.2.1.p.Mask.Cols,r2619.2.1.p.Mask.Start,r2619.2.1.p.Mask.Col,r2619.2.1.p.Mask.Val,r2619.2.1.p.R,r2619.2.1.p.C,r2619.2.1.p.Room,r2619.2.1.stages,r2619.2.1.workers,r2619.2.1.boxes,true,AJ (s2561+1),r2619.2.2.1,r2619.2.2.2)) (ES r2619.2.2.2 r2577 fun r2669=>next2564 (r2619.2.1.p.Ring,r2619.2.1.p.A.Rows,r2619.2.1.p.A.Cols,r2619.2.1.p.A.Start,r2619.2.1.p.A.Col,r2619.2.1.p.A.Val,r2619.2.1.p.B.Rows,r2619.2.1.p.B.Cols,r2619.2.1.p.B.Start,r2619.2.1.p.B.Col,r2619.2.1.p.B.Val,r2619.2.1.p.Mask.Rows,r2619.2.1.p.Mask.Cols,r2619.2.1.p.Mask.Start,r2619.2.1.p.Mask.Col,r2619.2.1.p.Mask.Val,r2619.2.1.p.R,r2619.2.1.p.C,r2619.2.1.p.Room,r2619.2.1.stages,r2619.2.1.workers,r2619.2.1.boxes,decide (r2669<r2599),AJ (s2561+1),r2619.2.2.1,r2619.2.2.2))) (next2118 (s2505,s2506,s2507,s2508,s2512,s2516,s2520,s2521,s2522,s2526,s2530,s2534,s2535,s2536,s2540,s2544,s2548,s2549,s2550,s2551,s2555,s2559,s2560,AJ (s2115+1),s2562,s2563))) (s2059,s2060,s2061,s2062,s2066,s2070,s2074,s2075,s2076,s2080,s2084,s2088,s2089,s2090,s2094,s2098,s2102,s2103,s2104,s2105,s2109,s2113,s2114,0,s2116,s2117)) (Q (s2114,({ p:=({ Ring:=s2059,A:=({ Rows:=s2060,Cols:=s2061,Start:=s2062,Col:=s2066,Val:=s2070 }:Rows),B:=({ Rows:=s2074,Cols:=s2075,Start:=s2076,Col:=s2080,Val:=s2084 }:Rows),Mask:=({ Rows:=s2088,Cols:=s2089,Start:=s2090,Col:=s2094,Val:=s2098 }:Rows),R:=s2102,C:=s2103,Room:=s2104 }:BL),stages:=s2105,workers:=s2109,boxes:=s2113 }:AD),s2116,s2117))) (s702,s703,s704,s705,s709,s713,s717,s718,s719,s723,s727,s731,s732,s733,s737,s741,s745,s746,s747,s748,s752,s756,s757,0,s759,s760))) (o0.p.Ring,o0.p.A.Rows,o0.p.A.Cols,o0.p.A.Start,o0.p.A.Col,o0.p.A.Val,o0.p.B.Rows,o0.p.B.Cols,o0.p.B.Start,o0.p.B.Col,o0.p.B.Val,o0.p.Mask.Rows,o0.p.Mask.Cols,o0.p.Mask.Start,o0.p.Mask.Col,o0.p.Mask.Val,o0.p.R,o0.p.C,o0.p.Room,o0.stages,o0.workers,o0.boxes,false,0,o1,o2)
def FE (o0:AD) (o1:List (Nat×AA)) (o2:List (Nat×AF)) (a0:JV) (Q:(Bool×AD×(List (Nat×AA))×(List (Nat×AF)))→Prop):Prop:=
  RZ a0 fun r49=>AQ (!r49) (Q (false,o0,o1,o2)) (AQ (a0.Kind==1) (CX o0 o1 o2 a0.A fun r61=>Q (r61.1,r61.2.1,r61.2.2.1,r61.2.2.2)) (AQ (a0.Kind==2) (CY o0 o1 o2 a0.A a0.B a0.K fun r108=>Q (r108.1,r108.2.1,r108.2.2.1,r108.2.2.2)) (AQ (a0.Kind==3) (CB o0 o1 o2 a0.A a0.B (fun r155=>HP a0.K fun r239=>Q (r239==0,r155.1,o1,r155.2)) (fun r194=>MC r194.2.2 r194.1 a0.K fun r247=>Q (r247.1==0,r194.2.1,o1,r247.2))) (AQ (a0.Kind==4) (CB o0 o1 o2 a0.A a0.B (fun r257=>JK a0.K fun r341=>Q (r341==0,r257.1,o1,r257.2)) (fun r296=>OP r296.2.2 r296.1 a0.K fun r349=>Q (r349.1==0,r296.2.1,o1,r349.2))) (DU o0 o1 o2 fun r358=>Q (r358.1,r358.2.1,r358.2.2.1,r358.2.2.2))))))
def GK (o1:List (Nat×AA)) (o2:AD) (a0:Option Nat) (Q:Bool→Prop):Prop:=
  FW o1 a0 fun b41 x42=>Q (decide (x42.at_<(o2.stages.length:Int)))
def CM (o1:List (Nat×AA)) (o2:AD) (a0:List (Option Nat)) (Q:Int→Prop):Prop:=
  BN (fun (s85:Int) (next86:Int→Prop)=>AQ (decide (s85<(a0.length:Int))) (AY a0 s85 fun x92=>GK o1 o2 x92 fun r106=>AQ r106 (Q s85) (next86 (AJ (s85+1)))) (Q (-1))) 0
def CI (o1:List (Nat×AA)) (o2:AD) (a0:List (Option Nat)) (Q:Bool→Prop):Prop:=
  CM o1 o2 a0 fun r50=>Q (decide (0≤r50))
def CQ (o0:AD) (o1:List (Nat×AA)) (Q:Bool→Prop):Prop:=
  CI o1 o0 o0.workers fun r49=>Q (!r49)
def ED (o0:AD) (o1:List (Nat×AA)) (Q:(List AK)→Prop):Prop:=
  BN (fun (s:(List AK)×Int) (next536:((List AK)×Int)→Prop)=>match s with | (s530,s534)=>AQ (decide (s534<(o0.workers.length:Int))) (AY o0.workers s534 fun x551=>FW o1 x551 fun b589 x590=>FS o0.p.A.Rows o0.p.R x590.i fun r611=>FS o0.p.B.Cols o0.p.C x590.j fun r615=>FW o1 (some b589) fun _ x642=>BN (fun (s:(List AK)×Int) (next743:((List AK)×Int)→Prop)=>match s with | (s738,s742)=>AQ (decide (s742<(x642.has.length:Int))) (AY x642.has s742 fun x761=>HS 32 s738 ([({ Row:=AJ (x761.Row+r611),Col:=AJ (x761.Col+r615),Val:=x761.Val }:AK)]) fun _=>next743 ((s738++([({ Row:=AJ (x761.Row+r611),Col:=AJ (x761.Col+r615),Val:=x761.Val }:AK)])),AJ (s742+1))) (next536 (s738,AJ (s534+1)))) (s530,0)) (uS GI s530 fun y783=>Q y783)) (([]:List AK),0)
def DV (o0:AD) (o1:List (Nat×AA)) (Q:(Rows×Int)→Prop):Prop:=
  ED o0 o1 fun r49=>YI o0.p.Ring o0.p.A.Rows o0.p.B.Cols r49 fun r53=>Q (r53.1,r53.2)
def IX (a0:BL) (a1:List JV) (a2:Int) (Q:(Rows×Bool×Int)→Prop):Prop:=
  FA ([]:List (Nat×AA)) ([]:List (Nat×AF)) a0 (fun r150=>AQ (r150.1 != 0) (Q (({ Rows:=0,Cols:=0,Start:=([]:List Int),Col:=([]:List Int),Val:=([]:List Int) }:Rows),false,r150.1)) (AQ (decide (1048576<(a1.length:Int))) (Q (({ Rows:=0,Cols:=0,Start:=([]:List Int),Col:=([]:List Int),Val:=([]:List Int) }:Rows),false,5)) (BZ a1 fun r228=>AQ r228 (Q (({ Rows:=0,Cols:=0,Start:=([]:List Int),Col:=([]:List Int),Val:=([]:List Int) }:Rows),false,8)) (AQ (decide (a2<0)) (Q (({ Rows:=0,Cols:=0,Start:=([]:List Int),Col:=([]:List Int),Val:=([]:List Int) }:Rows),false,3)) (AQ (decide (1048576<a2)) (Q (({ Rows:=0,Cols:=0,Start:=([]:List Int),Col:=([]:List Int),Val:=([]:List Int) }:Rows),false,3)) (BN (fun (s350:Int) (next351:Int→Prop)=>AQ (decide (s350<(a1.length:Int))) (AY a1 s350 fun x358=>KE r150.2 ([]:List (Nat×AF)) x358 fun r374=>next351 (AJ (s350+1))) (EY (fun (k457:Unit→Prop)=>BN (fun (_:Unit) (next475:Unit→Prop)=>AQ (decide (0<a2)) (FK r150.2 fun r487=>AQ (!r487) (LD r150.2 ([]:List (Nat×AF))) (k457 ())) (k457 ())) ()) fun _=>DT r150.2 fun r508=>FK r150.2 fun r529=>Q (r508.1,r529,r508.2))) 0)))))) (fun r152=>AQ (r152.1 != 0) (Q (({ Rows:=0,Cols:=0,Start:=([]:List Int),Col:=([]:List Int),Val:=([]:List Int) }:Rows),false,r152.1)) (AQ (decide (1048576<(a1.length:Int))) (Q (({ Rows:=0,Cols:=0,Start:=([]:List Int),Col:=([]:List Int),Val:=([]:List Int) }:Rows),false,5)) (BZ a1 fun r570=>AQ r570 (Q (({ Rows:=0,Cols:=0,Start:=([]:List Int),Col:=([]:List Int),Val:=([]:List Int) }:Rows),false,8)) (AQ (decide (a2<0)) (Q (({ Rows:=0,Cols:=0,Start:=([]:List Int),Col:=([]:List Int),Val:=([]:List Int) }:Rows),false,3)) (AQ (decide (1048576<a2)) (Q (({ Rows:=0,Cols:=0,Start:=([]:List Int),Col:=([]:List Int),Val:=([]:List Int) }:Rows),false,3)) (BN (fun (s:Int×Int×Int×(List Int)×(List Int)×(List Int)×Int×Int×(List Int)×(List Int)×(List Int)×Int×Int×(List Int)×(List Int)×(List Int)×Int×Int×Int×(List BE)×(List (Option Nat))×(List ((Int×Int)×(Option Nat)))×Int×(List (Nat×AA))×(List (Nat×AF))) (next1344:(Int×Int×Int×(List Int)×(List Int)×(List Int)×Int×Int×(List Int)×(List Int)×(List Int)×Int×Int×(List Int)×(List Int)×(List Int)×Int×Int×Int×(List BE)×(List (Option Nat))×(List ((Int×Int)×(Option Nat)))×Int×(List (Nat×AA))×(List (Nat×AF)))→Prop)=>match s with | (s1286,s1287,s1288,s1289,s1293,s1297,s1301,s1302,s1303,s1307,s1311,s1315,s1316,s1317,s1321,s1325,s1329,s1330,s1331,s1332,s1336,s1340,s1341,s1342,s1343)=>AQ (decide (s1341<(a1.length:Int))) (AY a1 s1341 fun x1351=>FE ({ p:=({ Ring:=s1286,A:=({ Rows:=s1287,Cols:=s1288,Start:=s1289,Col:=s1293,Val:=s1297 }:Rows),B:=({ Rows:=s1301,Cols:=s1302,Start:=s1303,Col:=s1307,Val:=s1311 }:Rows),Mask:=({ Rows:=s1315,Cols:=s1316,Start:=s1317,Col:=s1321,Val:=s1325 }:Rows),R:=s1329,C:=s1330,Room:=s1331 }:BL),stages:=s1332,workers:=s1336,boxes:=s1340 }:AD) s1342 s1343 x1351 fun r1367=>next1344 (r1367.2.1.p.Ring,r1367.2.1.p.A.Rows,r1367.2.1.p.A.Cols,r1367.2.1.p.A.Start,r1367.2.1.p.A.Col,r1367.2.1.p.A.Val,r1367.2.1.p.B.Rows,r1367.2.1.p.B.Cols,r1367.2.1.p.B.Start,r1367.2.1.p.B.Col,r1367.2.1.p.B.Val,r1367.2.1.p.Mask.Rows,r1367.2.1.p.Mask.Cols,r1367.2.1.p.Mask.Start,r1367.2.1.p.Mask.Col,r1367.2.1.p.Mask.Val,r1367.2.1.p.R,r1367.2.1.p.C,r1367.2.1.p.Room,r1367.2.1.stages,r1367.2.1.workers,r1367.2.1.boxes,AJ (s1341+1),r1367.2.2.1,r1367.2.2.2)) (EY (fun (k2302:(Int×Int×Int×(List Int)×(List Int)×(List Int)×Int×Int×(List Int)×(List Int)×(List Int)×Int×Int×(List Int)×(List Int)×(List Int)×Int×Int×Int×(List BE)×(List (Option Nat))×(List ((Int×Int)×(Option Nat)))×(List (Nat×AA))×(List (Nat×AF)))→Prop)=>BN (fun (s:Int×Int×Int×(List Int)×(List Int)×(List Int)×Int×Int×(List Int)×(List Int)×(List Int)×Int×Int×(List Int)×(List Int)×(List Int)×Int×Int×Int×(List BE)×(List (Option Nat))×(List ((Int×Int)×(Option Nat)))×Int×(List (Nat×AA))×(List (Nat×AF))) (next2655:(Int×Int×Int×(List Int)×(List Int)×(List Int)×Int×Int×(List Int)×(List Int)×(List Int)×Int×Int×(List Int)×(List Int)×(List Int)×Int×Int×Int×(List BE)×(List (Option Nat))×(List ((Int×Int)×(Option Nat)))×Int×(List (Nat×AA))×(List (Nat×AF)))→Prop)=>match s with | (s2597,s2598,s2599,s2600,s2604,s2608,s2612,s2613,s2614,s2618,s2622,s2626,s2627,s2628,s2632,s2636,s2640,s2641,s2642,s2643,s2647,s2651,s2652,s2653,s2654)=>AQ (decide (s2652<a2)) (CQ ({ p:=({ Ring:=s2597,A:=({ Rows:=s2598,Cols:=s2599,Start:=s2600,Col:=s2604,Val:=s2608 }:Rows),B:=({ Rows:=s2612,Cols:=s2613,Start:=s2614,Col:=s2618,Val:=s2622 }:Rows),Mask:=({ Rows:=s2626,Cols:=s2627,Start:=s2628,Col:=s2632,Val:=s2636 }:Rows),R:=s2640,C:=s2641,Room:=s2642 }:BL),stages:=s2643,workers:=s2647,boxes:=s2651 }:AD) s2653 fun r2667=>AQ (!r2667) (DU ({ p:=({ Ring:=s2597,A:=({ Rows:=s2598,Cols:=s2599,Start:=s2600,Col:=s2604,Val:=s2608 }:Rows),B:=({ Rows:=s2612,Cols:=s2613,Start:=s2614,Col:=s2618,Val:=s2622 }:Rows),Mask:=({ Rows:=s2626,Cols:=s2627,Start:=s2628,Col:=s2632,Val:=s2636 }:Rows),R:=s2640,C:=s2641,Room:=s2642 }:BL),stages:=s2643,workers:=s2647,boxes:=s2651 }:AD) s2653 s2654 fun r2678=>next2655 (r2678.2.1.p.Ring,r2678.2.1.p.A.Rows,r2678.2.1.p.A.Cols,r2678.2.1.p.A.Start,r2678.2.1.p.A.Col,r2678.2.1.p.A.Val,r2678.2.1.p.B.Rows,r2678.2.1.p.B.Cols,r2678.2.1.p.B.Start,r2678.2.1.p.B.Col,r2678.2.1.p.B.Val,r2678.2.1.p.Mask.Rows,r2678.2.1.p.Mask.Cols,r2678.2.1.p.Mask.Start,r2678.2.1.p.Mask.Col,r2678.2.1.p.Mask.Val,r2678.2.1.p.R,r2678.2.1.p.C,r2678.2.1.p.Room,r2678.2.1.stages,r2678.2.1.workers,r2678.2.1.boxes,AJ (s2652+1),r2678.2.2.1,r2678.2.2.2)) (k2302 (s2597,s2598,s2599,s2600,s2604,s2608,s2612,s2613,s2614,s2618,s2622,s2626,s2627,s2628,s2632,s2636,s2640,s2641,s2642,s2643,s2647,s2651,s2653,s2654))) (k2302 (s2597,s2598,s2599,s2600,s2604,s2608,s2612,s2613,s2614,s2618,s2622,s2626,s2627,s2628,s2632,s2636,s2640,s2641,s2642,s2643,s2647,s2651,s2653,s2654))) (s1286,s1287,s1288,s1289,s1293,s1297,s1301,s1302,s1303,s1307,s1311,s1315,s1316,s1317,s1321,s1325,s1329,s1330,s1331,s1332,s1336,s1340,0,s1342,s1343)) fun (s2245,s2246,s2247,s2248,s2252,s2256,s2260,s2261,s2262,s2266,s2270,s2274,s2275,s2276,s2280,s2284,s2288,s2289,s2290,s2291,s2295,s2299,s2300,s2301)=>DV ({ p:=({ Ring:=s2245,A:=({ Rows:=s2246,Cols:=s2247,Start:=s2248,Col:=s2252,Val:=s2256 }:Rows),B:=({ Rows:=s2260,Cols:=s2261,Start:=s2262,Col:=s2266,Val:=s2270 }:Rows),Mask:=({ Rows:=s2274,Cols:=s2275,Start:=s2276,Col:=s2280,Val:=s2284 }:Rows),R:=s2288,C:=s2289,Room:=s2290 }:BL),stages:=s2291,workers:=s2295,boxes:=s2299 }:AD) s2300 fun r2731=>CQ ({ p:=({ Ring:=s2245,A:=({ Rows:=s2246,Cols:=s2247,Start:=s2248,Col:=s2252,Val:=s2256 }:Rows),B:=({ Rows:=s2260,Cols:=s2261,Start:=s2262,Col:=s2266,Val:=s2270 }:Rows),Mask:=({ Rows:=s2274,Cols:=s2275,Start:=s2276,Col:=s2280,Val:=s2284 }:Rows),R:=s2288,C:=s2289,Room:=s2290 }:BL),stages:=s2291,workers:=s2295,boxes:=s2299 }:AD) s2300 fun r2752=>Q (r2731.1,r2752,r2731.2))) (r152.2.2.p.Ring,r152.2.2.p.A.Rows,r152.2.2.p.A.Cols,r152.2.2.p.A.Start,r152.2.2.p.A.Col,r152.2.2.p.A.Val,r152.2.2.p.B.Rows,r152.2.2.p.B.Cols,r152.2.2.p.B.Start,r152.2.2.p.B.Col,r152.2.2.p.B.Val,r152.2.2.p.Mask.Rows,r152.2.2.p.Mask.Cols,r152.2.2.p.Mask.Start,r152.2.2.p.Mask.Col,r152.2.2.p.Mask.Val,r152.2.2.p.R,r152.2.2.p.C,r152.2.2.p.Room,r152.2.2.stages,r152.2.2.workers,r152.2.2.boxes,0,r152.2.1,([]:List (Nat×AF)))))))))
def EU (o0:List (Nat×AA)) (a0:Int) (Q:Bool→Prop):Prop:=
  Q false
def OC (o0:List (Nat×AA)) (o1:List (Nat×AF)) (a0:Int) (a1:Int) (Q:Unit→Prop):Prop:=
  EU o0 a0 fun r26=>AQ (!r26) (Q ()) (EU o0 a1 fun r34=>AQ (!r34) (Q ()) (False))
def OD (o0:List (Nat×AA)) (o1:List (Nat×AF)) (a0:Int) (a1:Int) (Q:Int→Prop):Prop:=
  OC o0 o1 a0 a1 fun r9=>HX  fun r16=>Q r16
def LF  (Q:Int→Prop):Prop:=
  Q 0
def NJ (o0:List (Nat×AF)) (Q:Int→Prop):Prop:=
  Q 0
def NK (o0:List (Nat×AA)) (a0:Int) (Q:Int→Prop):Prop:=
  EU o0 a0 fun r16=>AQ (!r16) (Q 0) (False)
def MM (o0:List (Nat×AA)) (a0:Int) (Q:Int→Prop):Prop:=
  EU o0 a0 fun r16=>AQ (!r16) (Q 0) (False)
def GJ (o0:AD) (o1:List (Nat×AA)) (o2:List (Nat×AF)) (a0:Int) (a1:Int) (Q:(Int×AD×(List (Nat×AF)))→Prop):Prop:=
  CB o0 o1 o2 a0 a1 (fun r46=>HX  fun r130=>Q (r130,r46.1,r46.2)) (fun r85=>ES r85.2.2 r85.1 fun r138=>Q (r138,r85.2.1,r85.2.2))
def HL (o0:AD) (Q:Int→Prop):Prop:=
  Q (o0.stages.length:Int)
def JM (o0:AF) (Q:Int→Prop):Prop:=
  Q o0.sent
def TP  (Q:Int→Prop):Prop:=
  Q 0
def OQ (o0:List (Nat×AF)) (a0:Option Nat) (Q:Int→Prop):Prop:=
  mL a0 (TP  fun rr=>Q rr) fun b=>pK o0 b fun x=>JM x  fun rr=>Q rr
def FY (o0:AD) (o1:List (Nat×AF)) (Q:Int→Prop):Prop:=
  BN (fun (s:(List ((Int×Int)×(Option Nat)))×Int) (next105:((List ((Int×Int)×(Option Nat)))×Int)→Prop)=>match s with | (s103,s104)=>uL s103 (Q s104) (fun p122 l123=>OQ o1 p122.2 fun r135=>next105 (l123,AJ (s104+r135)))) (o0.boxes,0)
def FL (o0:AD) (o1:List (Nat×AA)) (a0:Int) (Q:Int→Prop):Prop:=
  DG o0 o1 a0 fun r53=>AQ (!r53) (Q 0) (AY o0.workers a0 fun x56=>FW o1 x56 fun b64 x65=>Q x65.at_)
def VX  (Q:Bool→Prop):Prop:=
  RV 5 2 2 ([({ Row:=0,Col:=1,Val:=3 }:AC),({ Row:=1,Col:=0,Val:=5 }:AC)]:List AC) fun r32=>VW 2 2 fun r71=>FA ([]:List (Nat×AA)) ([]:List (Nat×AF)) ({ Ring:=5,A:=r32.1,B:=r32.1,Mask:=r71,R:=2,C:=1,Room:=1 }:BL) (fun r193=>KE r193.2 ([]:List (Nat×AF)) ({ Kind:=1,A:=0,B:=0,K:=0 }:JV) fun r249=>OD r193.2 ([]:List (Nat×AF)) 0 0 fun r265=>ER ({ Ring:=5,A:=r32.1,B:=r32.1,Mask:=r71,R:=2,C:=1,Room:=1 }:BL) fun r291=>IX ({ Ring:=5,A:=r32.1,B:=r32.1,Mask:=r71,R:=2,C:=1,Room:=1 }:BL) ([]:List JV) r291 fun r295=>RG r295.1 0 0 fun r317=>EY (fun (k421:(Int×(List (Nat×AA)))→Prop)=>FA r193.2 ([]:List (Nat×AF)) ({ Ring:=0,A:=({ Rows:=0,Cols:=0,Start:=([]:List Int),Col:=([]:List Int),Val:=([]:List Int) }:Rows),B:=({ Rows:=0,Cols:=0,Start:=([]:List Int),Col:=([]:List Int),Val:=([]:List Int) }:Rows),Mask:=({ Rows:=0,Cols:=0,Start:=([]:List Int),Col:=([]:List Int),Val:=([]:List Int) }:Rows),R:=0,C:=0,Room:=0 }:BL) (fun r428=>k421 (r428.1,r428.2)) (fun r430=>k421 (r430.1,r430.2.1))) fun (s419,s420)=>DT s420 fun r500=>AQ (r193.1==0) (AQ r249 (AQ (r265==1) (LF  fun r523=>AQ (r523==2) (NJ ([]:List (Nat×AF)) fun r533=>AQ (r533==1) (FK s420 fun r543=>AQ (!r543) (AQ (r295.2.2==0) (AQ r295.2.1 (AQ (r317.1==15) (AQ r317.2 (AQ (s419==8) (AQ (r500.2==10) (ER ({ Ring:=5,A:=r32.1,B:=r32.1,Mask:=r71,R:=2,C:=1,Room:=1 }:BL) fun r553=>AQ (r553==11) (NK s420 0 fun r564=>AQ (r564==3) (MM s420 0 fun r574=>AQ (r574==0) (GY ({ Ring:=5,A:=r32.1,B:=r32.1,Mask:=r71,R:=2,C:=1,Room:=1 }:BL) fun r578=>Q (r578==0)) (Q false)) (Q false)) (Q false)) (Q false)) (Q false)) (Q false)) (Q false)) (Q false)) (Q false)) (Q false)) (Q false)) (Q false)) (Q false)) (Q false)) (Q false)) (fun r195=>FE r195.2.2 r195.2.1 ([]:List (Nat×AF)) ({ Kind:=1,A:=0,B:=0,K:=0 }:JV) fun r636=>GJ r636.2.1 r636.2.2.1 r636.2.2.2 0 0 fun r729=>ER ({ Ring:=5,A:=r32.1,B:=r32.1,Mask:=r71,R:=2,C:=1,Room:=1 }:BL) fun r793=>IX ({ Ring:=5,A:=r32.1,B:=r32.1,Mask:=r71,R:=2,C:=1,Room:=1 }:BL) ([]:List JV) r793 fun r797=>RG r797.1 0 0 fun r819=>EY (fun (k923:(Int×(List (Nat×AA)))→Prop)=>FA r636.2.2.1 r729.2.2 ({ Ring:=0,A:=({ Rows:=0,Cols:=0,Start:=([]:List Int),Col:=([]:List Int),Val:=([]:List Int) }:Rows),B:=({ Rows:=0,Cols:=0,Start:=([]:List Int),Col:=([]:List Int),Val:=([]:List Int) }:Rows),Mask:=({ Rows:=0,Cols:=0,Start:=([]:List Int),Col:=([]:List Int),Val:=([]:List Int) }:Rows),R:=0,C:=0,Room:=0 }:BL) (fun r930=>k923 (r930.1,r930.2)) (fun r932=>k923 (r932.1,r932.2.1))) fun (s921,s922)=>DT s922 fun r1002=>AQ (r195.1==0) (AQ r636.1 (AQ (r729.1==1) (HL r729.2.1 fun r1025=>AQ (r1025==2) (FY r729.2.1 r729.2.2 fun r1035=>AQ (r1035==1) (CQ r729.2.1 s922 fun r1045=>AQ (!r1045) (AQ (r797.2.2==0) (AQ r797.2.1 (AQ (r819.1==15) (AQ r819.2 (AQ (s921==8) (AQ (r1002.2==10) (ER ({ Ring:=5,A:=r32.1,B:=r32.1,Mask:=r71,R:=2,C:=1,Room:=1 }:BL) fun r1055=>AQ (r1055==11) (EN r729.2.1 s922 0 fun r1066=>AQ (r1066==3) (FL r729.2.1 s922 0 fun r1076=>AQ (r1076==0) (GY ({ Ring:=5,A:=r32.1,B:=r32.1,Mask:=r71,R:=2,C:=1,Room:=1 }:BL) fun r1080=>Q (r1080==0)) (Q false)) (Q false)) (Q false)) (Q false)) (Q false)) (Q false)) (Q false)) (Q false)) (Q false)) (Q false)) (Q false)) (Q false)) (Q false)) (Q false)) (Q false))
def QA (a0:JX) (a1:Int) (a2:Int) (Q:Bool→Prop):Prop:=
  LU a0 fun r50=>ER r50 fun r114=>IX r50 ([]:List JV) r114 fun r118=>ER ({ Ring:=r50.Ring,A:=r50.A,B:=r50.B,Mask:=r50.Mask,R:=AJ (((AJ (a1)).tmod 4)+1),C:=AJ (((AJ (a2)).tmod 4)+1),Room:=r50.Room }:BL) fun r160=>IX ({ Ring:=r50.Ring,A:=r50.A,B:=r50.B,Mask:=r50.Mask,R:=AJ (((AJ (a1)).tmod 4)+1),C:=AJ (((AJ (a2)).tmod 4)+1),Room:=r50.Room }:BL) ([]:List JV) r160 fun r164=>PP r50.Ring r50.A r50.B r50.Mask fun r201=>VX  fun r220=>AQ r220 (AQ r118.2.1 (AQ r164.2.1 (AQ (r118.2.2==r164.2.2) (AQ (r118.2.2==r201.2) (SH r118.1 r164.1 fun r229=>AQ r229 (SH r118.1 r201.1 fun r234=>Q r234) (Q false)) (Q false)) (Q false)) (Q false)) (Q false)) (Q false)
abbrev pQ (o_:BL) (q0:Option Addr) (q1:Nat) (q2:Option Addr) (q3:Nat) (q4:Option Addr) (q5:Nat) (q6:Option Addr) (q7:Nat) (q8:Option Addr) (q9:Nat) (q10:Option Addr) (q11:Nat) (q12:Option Addr) (q13:Nat) (q14:Option Addr) (q15:Nat) (q16:Option Addr) (q17:Nat):Array Value:=#[.int .i64 o_.Ring,.int .i64 o_.A.Rows,.int .i64 o_.A.Cols,.slice q0 o_.A.Start.length q1,.slice q2 o_.A.Col.length q3,.slice q4 o_.A.Val.length q5,.int .i64 o_.B.Rows,.int .i64 o_.B.Cols,.slice q6 o_.B.Start.length q7,.slice q8 o_.B.Col.length q9,.slice q10 o_.B.Val.length q11,.int .i64 o_.Mask.Rows,.int .i64 o_.Mask.Cols,.slice q12 o_.Mask.Start.length q13,.slice q14 o_.Mask.Col.length q15,.slice q16 o_.Mask.Val.length q17,.int .i64 o_.R,.int .i64 o_.C,.int .i64 o_.Room]
abbrev AR (o_:AD) (q0:Option Addr) (q1:Nat) (q2:Option Addr) (q3:Nat) (q4:Option Addr) (q5:Nat) (q6:Option Addr) (q7:Nat) (q8:Option Addr) (q9:Nat) (q10:Option Addr) (q11:Nat) (q12:Option Addr) (q13:Nat) (q14:Option Addr) (q15:Nat) (q16:Option Addr) (q17:Nat) (q18:Option Addr) (q19:Nat) (q20:Option Addr) (q21:Nat) (q22:Nat):Array Value:=#[.int .i64 o_.p.Ring,.int .i64 o_.p.A.Rows,.int .i64 o_.p.A.Cols,.slice q0 o_.p.A.Start.length q1,.slice q2 o_.p.A.Col.length q3,.slice q4 o_.p.A.Val.length q5,.int .i64 o_.p.B.Rows,.int .i64 o_.p.B.Cols,.slice q6 o_.p.B.Start.length q7,.slice q8 o_.p.B.Col.length q9,.slice q10 o_.p.B.Val.length q11,.int .i64 o_.p.Mask.Rows,.int .i64 o_.p.Mask.Cols,.slice q12 o_.p.Mask.Start.length q13,.slice q14 o_.p.Mask.Col.length q15,.slice q16 o_.p.Mask.Val.length q17,.int .i64 o_.p.R,.int .i64 o_.p.C,.int .i64 o_.p.Room,.slice q18 o_.stages.length q19,.slice q20 o_.workers.length q21,.map (some q22)]
abbrev PE (o_:AA) (q0:Option Addr) (q1:Nat) (q2:Option Addr) (q3:Nat) (q4:Option Addr) (q5:Nat) (q6:Option Addr) (q7:Nat) (q8:Nat) (q9:Option Addr) (q10:Nat):Array Value:=#[.int .i64 o_.i,.int .i64 o_.j,.int .i64 o_.mask.Rows,.int .i64 o_.mask.Cols,.slice q0 o_.mask.Start.length q1,.slice q2 o_.mask.Col.length q3,.slice q4 o_.mask.Val.length q5,.slice q6 o_.out.length q7,.map (some q8),.int .i64 o_.at_,.slice q9 o_.has.length q10]
end Go.Proofs.YtbohadngdkjljaaGreat
