/- Types, and pure functions as the Go text has them (printed by a program of ours). -/
import Derived.Test.YtbohadngdkjljaaGreatFwU
import Derived.Test.YtbohadngdkjljaaGreatFwK
namespace Go.Proofs.YtbohadngdkjljaaGreat
open Go Go.Fw
set_option linter.unusedVariables false
set_option linter.unusedSimpArgs false
set_option maxRecDepth 8000
set_option maxHeartbeats 1000000
abbrev AE:FE Int:=JH 1 (fun x=>[.int .i64 x]) (fun _=>⟨rfl,rfl⟩)
abbrev Af4:FE Int:=JH 1 (fun x=>[.int .u64 x]) (fun _=>⟨rfl,rfl⟩)
abbrev eU8:FE Int:=JH 1 (fun x=>[.int .u8 x]) (fun _=>⟨rfl,rfl⟩)
abbrev eB:FE Bool:=JH 1 (fun x=>[.bool x]) (fun _=>⟨rfl,rfl⟩)
structure AN where
  Hi:Int
  Lo:Int
deriving DecidableEq,Inhabited
def EI (x:AN):List Value:=[.int .i64 x.Hi,.int .u64 x.Lo]
abbrev PO:FE AN:=JH 2 EI (fun _=>⟨rfl,rfl⟩)
structure DO where
  From:Int
  To:Int
  W:Int
deriving DecidableEq,Inhabited
def gA (x:DO):List Value:=[.int .i64 x.From,.int .i64 x.To,.int .i64 x.W]
abbrev WT:FE DO:=JH 3 gA (fun _=>⟨rfl,rfl⟩)
structure AcX where
  N:Int
  Edges:List DO
deriving DecidableEq,Inhabited
structure Rows where
  Rows:Int
  Cols:Int
  Start:List Int
  Col:List Int
  Val:List Int
deriving DecidableEq,Inhabited
def pI:FE Rows where
  sz:=5
  rep I cs x:=∃ a2 c2 a3 c3 a4 c4,cs=[.int .i64 x.Rows,.int .i64 x.Cols,.slice a2 x.Start.length c2,.slice a3 x.Col.length c3,.slice a4 x.Val.length c4]∧RepSl AE I a2 c2 x.Start∧RepSl AE I a3 c3 x.Col∧RepSl AE I a4 c4 x.Val
  mono hle:=fun ⟨a2,c2,a3,c3,a4,c4,e,h0,h1,h2⟩=>⟨a2,c2,a3,c3,a4,c4,e,h0.mono hle,h1.mono hle,h2.mono hle⟩
  len:=fun ⟨a2,c2,a3,c3,a4,c4,e,_,_,_⟩=>by rw [e]; rfl
  one:=fun ⟨a2,c2,a3,c3,a4,c4,e,_,_,_⟩=>by rw [e]; rfl
structure AC where
  Row:Int
  Col:Int
  Val:Int
deriving DecidableEq,Inhabited
def YI (x:AC):List Value:=[.int .i64 x.Row,.int .i64 x.Col,.int .i64 x.Val]
abbrev AW:FE AC:=JH 3 YI (fun _=>⟨rfl,rfl⟩)
structure BD where
  Ring:Int
  A:Rows
  B:Rows
  Mask:Rows
  R:Int
  C:Int
  Room:Int
deriving DecidableEq,Inhabited
structure AY where
  From:Int
  To:Int
  Row:Int
  Col:Int
deriving DecidableEq,Inhabited
def hG (x:AY):List Value:=[.int .i64 x.From,.int .i64 x.To,.int .i64 x.Row,.int .i64 x.Col]
abbrev BR:FE AY:=JH 4 hG (fun _=>⟨rfl,rfl⟩)
structure CF where
  At:Int
  Val:Int
deriving DecidableEq,Inhabited
def AbL (x:CF):List Value:=[.int .i64 x.At,.int .i64 x.Val]
abbrev MJ:FE CF:=JH 2 AbL (fun _=>⟨rfl,rfl⟩)
structure FU where
  Kind:Int
  A:Int
  B:Int
  K:Int
deriving DecidableEq,Inhabited
def bJ (x:FU):List Value:=[.int .i64 x.Kind,.int .i64 x.A,.int .i64 x.B,.int .i64 x.K]
abbrev XL:FE FU:=JH 4 bJ (fun _=>⟨rfl,rfl⟩)
structure dC where
  At:Int
  Val:AN
deriving DecidableEq,Inhabited
def Ad8 (x:dC):List Value:=[.int .i64 x.At,.int .i64 x.Val.Hi,.int .u64 x.Val.Lo]
abbrev dK:FE dC:=JH 3 Ad8 (fun _=>⟨rfl,rfl⟩)
structure Vec where
  N:Int
  Items:List CF
deriving DecidableEq,Inhabited
structure BN where
  Kind:Int
  From:Int
  To:Int
  Seq:Int
  Round:Int
  Vec:Vec
  Sums:List dC
  Triples:List AC
  N:Int
  Over:Bool
deriving DecidableEq,Inhabited
def DF:FE BN where
  sz:=11
  rep I cs x:=∃ a6 c6 a7 c7 a8 c8,cs=[.int .i64 x.Kind,.int .i64 x.From,.int .i64 x.To,.int .i64 x.Seq,.int .i64 x.Round,.int .i64 x.Vec.N,.slice a6 x.Vec.Items.length c6,.slice a7 x.Sums.length c7,.slice a8 x.Triples.length c8,.int .i64 x.N,.bool x.Over]∧RepSl MJ I a6 c6 x.Vec.Items∧RepSl dK I a7 c7 x.Sums∧RepSl AW I a8 c8 x.Triples
  mono hle:=fun ⟨a6,c6,a7,c7,a8,c8,e,h0,h1,h2⟩=>⟨a6,c6,a7,c7,a8,c8,e,h0.mono hle,h1.mono hle,h2.mono hle⟩
  len:=fun ⟨a6,c6,a7,c7,a8,c8,e,_,_,_⟩=>by rw [e]; rfl
  one:=fun ⟨a6,c6,a7,c7,a8,c8,e,_,_,_⟩=>by rw [e]; rfl
structure AK where
  Row:Int
  Col:Int
  Val:AN
deriving DecidableEq,Inhabited
def PC (x:AK):List Value:=[.int .i64 x.Row,.int .i64 x.Col,.int .i64 x.Val.Hi,.int .u64 x.Val.Lo]
abbrev CG:FE AK:=JH 4 PC (fun _=>⟨rfl,rfl⟩)
structure BB where
  kind:Int
  stage:Int
deriving DecidableEq,Inhabited
def UA (x:BB):List Value:=[.int .i64 x.kind,.int .i64 x.stage]
abbrev FF (x:BB):Value:=.agg (UA x).toArray
structure AA where
  i:Int
  j:Int
  mask:Rows
  out:List BN
  parts:List (BB×(List AC))
  at_:Int
  has:List AK
deriving DecidableEq,Inhabited
structure AF where
  room:Int
  row:List Int
  by_:List (Int×BN)
  often:List (Int×Int)
  sent:Int
  taken:Int
deriving DecidableEq,Inhabited
structure AB where
  p:BD
  stages:List AY
  workers:List (Option Nat)
  boxes:List ((Int×Int)×(Option Nat))
deriving DecidableEq,Inhabited
structure GX where
  L:List FU
  Windows:Int
deriving DecidableEq,Inhabited
def jV:FE GX where
  sz:=2
  rep I cs x:=∃ a0 c0,cs=[.slice a0 x.L.length c0,.int .u8 x.Windows]∧RepSl XL I a0 c0 x.L
  mono hle:=fun ⟨a0,c0,e,h0⟩=>⟨a0,c0,e,h0.mono hle⟩
  len:=fun ⟨a0,c0,e,_⟩=>by rw [e]; rfl
  one:=fun ⟨a0,c0,e,_⟩=>by rw [e]; rfl
structure II where
  Ring:Int
  Size:Int×Int
  L:List AC
  X:List CF
  Y:List CF
  F:List Int
  Others:Bool
deriving DecidableEq,Inhabited
structure OI where
  Ring:Int
  Size:Int×Int×Int
  A:List AC
  B:List AC
  M:List AC
deriving DecidableEq,Inhabited
def pJ:FE OI where
  sz:=7
  rep I cs x:=∃ a4 c4 a5 c5 a6 c6,cs=[.int .i64 x.Ring,.int .u8 x.Size.1,.int .u8 x.Size.2.1,.int .u8 x.Size.2.2,.slice a4 x.A.length c4,.slice a5 x.B.length c5,.slice a6 x.M.length c6]∧RepSl AW I a4 c4 x.A∧RepSl AW I a5 c5 x.B∧RepSl AW I a6 c6 x.M
  mono hle:=fun ⟨a4,c4,a5,c5,a6,c6,e,h0,h1,h2⟩=>⟨a4,c4,a5,c5,a6,c6,e,h0.mono hle,h1.mono hle,h2.mono hle⟩
  len:=fun ⟨a4,c4,a5,c5,a6,c6,e,_,_,_⟩=>by rw [e]; rfl
  one:=fun ⟨a4,c4,a5,c5,a6,c6,e,_,_,_⟩=>by rw [e]; rfl
structure KC where
  T:OI
  R:Int
  C:Int
  Room:Int
deriving DecidableEq,Inhabited
def pK:FE KC where
  sz:=10
  rep I cs x:=∃ a4 c4 a5 c5 a6 c6,cs=[.int .i64 x.T.Ring,.int .u8 x.T.Size.1,.int .u8 x.T.Size.2.1,.int .u8 x.T.Size.2.2,.slice a4 x.T.A.length c4,.slice a5 x.T.B.length c5,.slice a6 x.T.M.length c6,.int .u8 x.R,.int .u8 x.C,.int .u8 x.Room]∧RepSl AW I a4 c4 x.T.A∧RepSl AW I a5 c5 x.T.B∧RepSl AW I a6 c6 x.T.M
  mono hle:=fun ⟨a4,c4,a5,c5,a6,c6,e,h0,h1,h2⟩=>⟨a4,c4,a5,c5,a6,c6,e,h0.mono hle,h1.mono hle,h2.mono hle⟩
  len:=fun ⟨a4,c4,a5,c5,a6,c6,e,_,_,_⟩=>by rw [e]; rfl
  one:=fun ⟨a4,c4,a5,c5,a6,c6,e,_,_,_⟩=>by rw [e]; rfl
def AG:BoxTy AA where
  A:=Option Addr×Nat×Option Addr×Nat×Option Addr×Nat×Option Addr×Nat×Nat×Option Addr×Nat
  fact I a x:=RepSl AE I (a.1) (a.2.1) x.mask.Start∧RepSl AE I (a.2.2.1) (a.2.2.2.1) x.mask.Col∧RepSl AE I (a.2.2.2.2.1) (a.2.2.2.2.2.1) x.mask.Val∧RepSl DF I (a.2.2.2.2.2.2.1) (a.2.2.2.2.2.2.2.1) x.out∧RepSl CG I (a.2.2.2.2.2.2.2.2.2.1) (a.2.2.2.2.2.2.2.2.2.2) x.has
  mono:=fun h ⟨h0,h1,h2,h3,h4⟩=>⟨h0.mono h,h1.mono h,h2.mono h,h3.mono h,h4.mono h⟩
  obj a x:=.cells #[.int .i64 x.i,.int .i64 x.j,.int .i64 x.mask.Rows,.int .i64 x.mask.Cols,.slice (a.1) x.mask.Start.length (a.2.1),.slice (a.2.2.1) x.mask.Col.length (a.2.2.2.1),.slice (a.2.2.2.2.1) x.mask.Val.length (a.2.2.2.2.2.1),.slice (a.2.2.2.2.2.2.1) x.out.length (a.2.2.2.2.2.2.2.1),.map (some (a.2.2.2.2.2.2.2.2.1)),.int .i64 x.at_,.slice (a.2.2.2.2.2.2.2.2.2.1) x.has.length (a.2.2.2.2.2.2.2.2.2.2)] 127 (0,0)
  more a x:=[OwnMap FF (TB AW) false (a.2.2.2.2.2.2.2.2.1) x.parts]
def AP:BoxTy AF where
  A:=Option Addr×Nat×Nat×Nat
  fact I a x:=True
  mono:=fun _ _=>trivial
  obj a x:=.cells #[.int .i64 x.room,.slice (a.1) x.row.length (a.2.1),.map (some (a.2.2.1)),.map (some (a.2.2.2)),.int .i64 x.sent,.int .i64 x.taken] 213 (0,0)
  more a x:=[OwnSl AE 3 (a.1) (a.2.1) x.row,OwnMap (Value.int .i64) DF true (a.2.2.1) x.by_,OwnMap (Value.int .i64) AE false (a.2.2.2) x.often]
def UR (a0:Int) (Q:Bool→Prop):Prop:=
  AR (decide (1≤a0)) (Q (decide (a0≤5))) (Q false)
def KQ (a0:AN) (a1:AN) (Q:AN→Prop):Prop:=
  AR (decide ((IntKind.wrap .u64 (a0.Lo+a1.Lo))<a0.Lo)) (Q ({ Hi:=AJ ((AJ (a0.Hi+a1.Hi))+1),Lo:=IntKind.wrap .u64 (a0.Lo+a1.Lo) }:AN)) (Q ({ Hi:=AJ (a0.Hi+a1.Hi),Lo:=IntKind.wrap .u64 (a0.Lo+a1.Lo) }:AN))
def HL (a0:AN) (a1:AN) (Q:Int→Prop):Prop:=
  EV (fun (k15:Unit→Prop)=>AR (decide (a0.Hi<a1.Hi)) (Q (-1)) (AR (a0.Hi==a1.Hi) (AR (decide (a0.Lo<a1.Lo)) (Q (-1)) (k15 ())) (k15 ()))) fun _=>AR (a0==a1) (Q 0) (Q 1)
def KD (a0:Bool) (Q:AN→Prop):Prop:=
  AR a0 (Q ({ Hi:=0,Lo:=1 }:AN)) (Q ({ Hi:=0,Lo:=0 }:AN))
def US (a0:Int) (a1:AN) (a2:AN) (Q:AN→Prop):Prop:=
  EV (fun (k18:Bool→Prop)=>AR (a0==1) (k18 (a0==1)) (AR (a0==3) (k18 (a0==3)) (k18 (a0==4)))) fun s17=>AR s17 (HL a2 a1 fun r24=>AR (decide (r24<0)) (Q a2) (Q a1)) (AR (a0==2) (AR (!(a1==({ Hi:=0,Lo:=0 }:AN))) (KD true fun r31=>Q r31) (KD (!(a2==({ Hi:=0,Lo:=0 }:AN))) fun r35=>Q r35)) (AR (a0==5) (KQ a1 a2 fun r40=>Q r40) (Q ({ Hi:=0,Lo:=0 }:AN))))
def GY (a0:Int) (Q:AN→Prop):Prop:=
  AR (decide (a0<0)) (Q ({ Hi:=(-1),Lo:=IntKind.wrap .u64 (a0) }:AN)) (Q ({ Hi:=0,Lo:=IntKind.wrap .u64 (a0) }:AN))
def QO (a0:AN) (Q:(Int×Bool)→Prop):Prop:=
  AR (a0.Hi==0) (AR (decide (0≤(AJ (a0.Lo)))) (Q (AJ (a0.Lo),true)) (AR (a0.Hi==(-1)) (AR (decide ((AJ (a0.Lo))<0)) (Q (AJ (a0.Lo),true)) (Q (0,false))) (Q (0,false)))) (AR (a0.Hi==(-1)) (AR (decide ((AJ (a0.Lo))<0)) (Q (AJ (a0.Lo),true)) (Q (0,false))) (Q (0,false)))
def PP (a0:DO) (a1:DO) (Q:Bool→Prop):Prop:=
  AR (decide (a0.From<a1.From)) (Q true) (AR (a0.From==a1.From) (Q (decide (a0.To<a1.To))) (Q false))
def PD (a0:Int) (a1:List DO) (Q:((List DO)×Int)→Prop):Prop:=
  UR a0 fun r12=>AR (!r12) (Q (([]:List DO),8)) (BK (fun (s:(List DO)×(List AN)×Int) (next2668:((List DO)×(List AN)×Int)→Prop)=>match s with | (s2657,s2661,s2665)=>AR (decide (s2665<(a1.length:Int))) (EV (fun (k2822:Int→Prop)=>BK (fun (s2870:Int) (next2871:Int→Prop)=>AR (decide (s2870<(s2657.length:Int))) (BC s2657 s2870 fun x2879=>BC a1 s2665 fun x2884=>PP x2879 x2884 fun r2892=>AR r2892 (next2871 (AJ (s2870+1))) (k2822 s2870)) (k2822 s2870)) 0) fun s2821=>BC a1 s2665 fun x2916=>GY x2916.W fun r2924=>EV (fun (k3057:Bool→Prop)=>AR (decide (s2821<(s2657.length:Int))) (BC a1 s2665 fun x3062=>BC s2657 s2821 fun x3071=>PP x3062 x3071 fun r3075=>k3057 (!r3075)) (k3057 false)) fun s3056=>AR s3056 (BC s2661 s2821 fun x3087=>US a0 x3087 r2924 fun r3091=>BC s2661 s2821 fun x3096=>next2668 (s2657,(s2661.set s2821.toNat r3091),AJ (s2665+1))) (HV 24 s2657 ([({ From:=0,To:=0,W:=0 }:DO)]) fun _=>HV 16 s2661 ([({ Hi:=0,Lo:=0 }:AN)]) fun _=>BK (fun (s:(List DO)×(List AN)×Int) (next3290:((List DO)×(List AN)×Int)→Prop)=>match s with | (s3281,s3285,s3289)=>AR (decide (s2821<s3289)) (BC s3281 (AJ (s3289 - 1)) fun x3299=>BC s3281 s3289 fun x3304=>BC s3285 (AJ (s3289 - 1)) fun x3307=>BC s3285 s3289 fun x3312=>next3290 ((s3281.set s3289.toNat x3299),(s3285.set s3289.toNat x3307),AJ (s3289 - 1))) (BC a1 s2665 fun x3317=>BC a1 s2665 fun x3326=>BC s3281 s2821 fun x3335=>BC s3285 s2821 fun x3340=>next2668 ((s3281.set s2821.toNat ({ From:=x3317.From,To:=x3326.To,W:=0 }:DO)),(s3285.set s2821.toNat r2924),AJ (s2665+1)))) ((s2657++([({ From:=0,To:=0,W:=0 }:DO)])),(s2661++([({ Hi:=0,Lo:=0 }:AN)])),AJ (((s2657++([({ From:=0,To:=0,W:=0 }:DO)])).length:Int) - 1)))) (BK (fun (s:(List DO)×Int) (next3416:((List DO)×Int)→Prop)=>match s with | (s3411,s3415)=>AR (decide (s3415<(s3411.length:Int))) (BC s2661 s3415 fun x3432=>QO x3432 fun r3436=>AR (!r3436.2) (Q (([]:List DO),12)) (BC s3411 s3415 fun x3443=>next3416 ((s3411.set s3415.toNat ({ From:=x3443.From,To:=x3443.To,W:=r3436.1 }:DO)),AJ (s3415+1)))) (Q (s3411,0))) (s2657,0))) (([]:List DO),([]:List AN),0))
def IJ (a0:Int) (a1:Int) (Q:Int→Prop):Prop:=
  AR (decide (a1<1)) (Q 0) (AR (decide (a0<0)) (Q 0) (nzP a1 <| Q (a0.tmod a1)))
def KE (a0:Int) (a1:Int) (Q:Rows→Prop):Prop:=
  mkP 8 (AJ (a0+1)) 0 fun _=>Q ({ Rows:=a0,Cols:=a1,Start:=(List.replicate (AJ (a0+1)).toNat 0),Col:=([]:List Int),Val:=([]:List Int) }:Rows)
def TL (a0:Int) (a1:Int) (a2:List AC) (Q:Rows→Prop):Prop:=
  KE a0 a1 fun r38=>BK (fun (s:(List Int)×(List Int)×(List Int)×Int) (next403:((List Int)×(List Int)×(List Int)×Int)→Prop)=>match s with | (s390,s394,s398,s402)=>AR (decide (s402<(a2.length:Int))) (BC a2 s402 fun x431=>HV 8 s394 ([x431.Col]) fun _=>BC a2 s402 fun x467=>HV 8 s398 ([x467.Val]) fun _=>BC a2 s402 fun x491=>BK (fun (s:(List Int)×Int) (next539:((List Int)×Int)→Prop)=>match s with | (s534,s538)=>AR (decide (s538≤a0)) (BC s534 s538 fun x547=>BC s534 s538 fun x552=>next539 ((s534.set s538.toNat (AJ (x547+1))),AJ (s538+1))) (next403 (s534,(s394++([x431.Col])),(s398++([x467.Val])),AJ (s402+1)))) (s390,AJ (x491.Row+1))) (Q ({ Rows:=r38.Rows,Cols:=r38.Cols,Start:=s390,Col:=s394,Val:=s398 }:Rows))) (r38.Start,r38.Col,r38.Val,0)
def UT (a0:Int) (a1:Int) (a2:Int) (a3:List AC) (Q:(Rows×Int)→Prop):Prop:=
  UR a0 fun r22=>AR (!r22) (Q (({ Rows:=0,Cols:=0,Start:=([]:List Int),Col:=([]:List Int),Val:=([]:List Int) }:Rows),8)) (AR (decide (a1<0)) (Q (({ Rows:=0,Cols:=0,Start:=([]:List Int),Col:=([]:List Int),Val:=([]:List Int) }:Rows),3)) (AR (decide (4096<a1)) (Q (({ Rows:=0,Cols:=0,Start:=([]:List Int),Col:=([]:List Int),Val:=([]:List Int) }:Rows),3)) (AR (decide (a2<0)) (Q (({ Rows:=0,Cols:=0,Start:=([]:List Int),Col:=([]:List Int),Val:=([]:List Int) }:Rows),3)) (AR (decide (4096<a2)) (Q (({ Rows:=0,Cols:=0,Start:=([]:List Int),Col:=([]:List Int),Val:=([]:List Int) }:Rows),3)) (AR (decide (65536<(a3.length:Int))) (Q (({ Rows:=0,Cols:=0,Start:=([]:List Int),Col:=([]:List Int),Val:=([]:List Int) }:Rows),5)) (BK (fun (s:(List DO)×Int) (next662:((List DO)×Int)→Prop)=>match s with | (s656,s660)=>AR (decide (s660<(a3.length:Int))) (BC a3 s660 fun x708=>AR (decide (x708.Row<0)) (Q (({ Rows:=0,Cols:=0,Start:=([]:List Int),Col:=([]:List Int),Val:=([]:List Int) }:Rows),3)) (BC a3 s660 fun x718=>AR (decide (a1≤x718.Row)) (Q (({ Rows:=0,Cols:=0,Start:=([]:List Int),Col:=([]:List Int),Val:=([]:List Int) }:Rows),3)) (BC a3 s660 fun x728=>AR (decide (x728.Col<0)) (Q (({ Rows:=0,Cols:=0,Start:=([]:List Int),Col:=([]:List Int),Val:=([]:List Int) }:Rows),3)) (BC a3 s660 fun x738=>AR (decide (a2≤x738.Col)) (Q (({ Rows:=0,Cols:=0,Start:=([]:List Int),Col:=([]:List Int),Val:=([]:List Int) }:Rows),3)) (BC a3 s660 fun x749=>BC a3 s660 fun x758=>BC a3 s660 fun x767=>HV 24 s656 ([({ From:=x749.Row,To:=x758.Col,W:=x767.Val }:DO)]) fun _=>next662 ((s656++([({ From:=x749.Row,To:=x758.Col,W:=x767.Val }:DO)])),AJ (s660+1))))))) (PD a0 s656 fun r801=>AR (r801.2 != 0) (Q (({ Rows:=0,Cols:=0,Start:=([]:List Int),Col:=([]:List Int),Val:=([]:List Int) }:Rows),r801.2)) (BK (fun (s:(List AC)×Int) (next878:((List AC)×Int)→Prop)=>match s with | (s872,s876)=>AR (decide (s876<(r801.1.length:Int))) (BC r801.1 s876 fun x887=>BC r801.1 s876 fun x892=>BC r801.1 s876 fun x895=>HV 24 s872 ([({ Row:=x887.From,Col:=x892.To,Val:=x895.W }:AC)]) fun _=>next878 ((s872++([({ Row:=x887.From,Col:=x892.To,Val:=x895.W }:AC)])),AJ (s876+1))) (TL a1 a2 s872 fun r908=>Q (r908,0))) (([]:List AC),0)))) (([]:List DO),0)))))))
def JD (a0:Int) (a1:Int) (Q:Bool→Prop):Prop:=
  AR (decide (1≤a0)) (Q (decide (a0≤a1))) (Q false)
def QP (a0:Int) (Q:Bool→Prop):Prop:=
  AR (decide (0<a0)) (Q (decide (a0<6))) (Q false)
def GF (a0:Int) (a1:Int) (Q:Bool→Prop):Prop:=
  AR (decide (0≤a0)) (Q (decide (a0≤a1))) (Q false)
def HM (a0:Int) (Q:Bool→Prop):Prop:=
  Q (a0 != a0)
def QQ (a0:Int) (a1:Int) (Q:Bool→Prop):Prop:=
  HM a0 fun r1=>AR r1 (HM a1 fun r6=>AR (!r6) (Q true) (Q (decide (a0<a1)))) (Q (decide (a0<a1)))
def FJ (a0:List Int) (Q:Bool→Prop):Prop:=
  BK (fun (s57:Int) (next58:Int→Prop)=>AR (decide (0<s57)) (BC a0 s57 fun x64=>BC a0 (AJ (s57 - 1)) fun x73=>QQ x64 x73 fun r81=>AR r81 (Q false) (next58 (AJ (s57 - 1)))) (Q true)) (AJ ((a0.length:Int) - 1))
def gB (a0:List Int) (a1:Int) (Q:Bool→Prop):Prop:=
  BK (fun (s68:Int) (next69:Int→Prop)=>AR (decide (s68<(a0.length:Int))) (BC a0 s68 fun x84=>GF x84 (AJ (a1 - 1)) fun r92=>AR (!r92) (Q false) (AR (decide (0<s68)) (BC a0 (AJ (s68 - 1)) fun x99=>AR (decide (x84≤x99)) (Q false) (next69 (AJ (s68+1)))) (next69 (AJ (s68+1))))) (Q true)) 0
def HX (a0:Rows) (Q:Bool→Prop):Prop:=
  GF a0.Rows 4096 fun r27=>AR (!r27) (Q false) (GF a0.Cols 4096 fun r32=>AR (!r32) (Q false) (AR ((a0.Start.length:Int) != (AJ (a0.Rows+1))) (Q false) (AR ((a0.Val.length:Int) != (a0.Col.length:Int)) (Q false) (AR (decide (65536<(a0.Col.length:Int))) (Q false) (BC a0.Start 0 fun x66=>AR (x66 != 0) (Q false) (BC a0.Start a0.Rows fun x76=>AR (x76 != (a0.Col.length:Int)) (Q false) (FJ a0.Start fun r85=>AR (!r85) (Q false) (BK (fun (s163:Int) (next164:Int→Prop)=>AR (decide (s163<a0.Rows)) (BC a0.Start s163 fun x170=>BC a0.Start (AJ (s163+1)) fun x179=>slP a0.Col x170 x179 fun _=>gB ((a0.Col.take x179.toNat).drop x170.toNat) a0.Cols fun r197=>AR (!r197) (Q false) (next164 (AJ (s163+1)))) (Q true)) 0))))))))
def GZ (a0:BD) (Q:Int→Prop):Prop:=
  QP a0.Ring fun r36=>AR (!r36) (Q 8) (EV (fun (k70:Bool→Prop)=>HX a0.A fun r71=>AR (!r71) (k70 true) (HX a0.B fun r76=>AR (!r76) (k70 true) (HX a0.Mask fun r81=>k70 (!r81)))) fun s69=>AR s69 (Q 7) (EV (fun (k93:Bool→Prop)=>AR (a0.A.Cols != a0.B.Rows) (k93 (a0.A.Cols != a0.B.Rows)) (AR (a0.Mask.Rows != a0.A.Rows) (k93 (a0.Mask.Rows != a0.A.Rows)) (k93 (a0.Mask.Cols != a0.B.Cols)))) fun s92=>AR s92 (Q 4) (JD a0.R 8 fun r104=>AR (!r104) (Q 3) (JD a0.C 8 fun r109=>AR (!r109) (Q 3) (JD a0.Room 64 fun r114=>AR (!r114) (Q 3) (Q 0))))))
def OJ (a0:Int) (Q:Bool→Prop):Prop:=
  AR (decide (0<a0)) (Q (decide (a0≤8))) (Q false)
def RY (a0:Int) (a1:Int) (Q:Bool→Prop):Prop:=
  AR (decide (0≤a0)) (AR (decide (a0≤4096)) (OJ a1 fun r3=>Q r3) (Q false)) (Q false)
def FV (a0:Int) (a1:Int) (a2:Int) (Q:Int→Prop):Prop:=
  RY a0 a1 fun r6=>AR (!r6) (Q 0) (nzP a1 <| Q (AJ ((AJ ((if a1<(if 0 > a2 then 0 else a2) then a1 else (if 0 > a2 then 0 else a2))*a0)).tdiv a1)))
def bK (a0:Int) (a1:Int) (a2:Int) (Q:Int→Prop):Prop:=
  RY a0 a1 fun r8=>AR (!r8) (Q (-1)) (AR (decide (a2<0)) (Q (-1)) (AR (decide (a0≤a2)) (Q (-1)) (nzP a0 <| BK (fun (s30:Int) (next31:Int→Prop)=>FV a0 a1 (AJ (s30+1)) fun r34=>AR (decide (r34≤a2)) (next31 (AJ (s30+1))) (Q s30)) (AJ ((AJ (a2*a1)).tdiv a0)))))
def UB (a0:Int) (a1:Int) (a2:Int) (Q:(Int×Int×Int)→Prop):Prop:=
  Q (a1,a0,a2)
def QB (o0:Nat) (o1:Int) (o2:Int) (o3:Int) (o4:List AY) (o5:Int) (o6:Int) (o7:Int) (o8:Int) (Y:Nat→Int→Int→Int→(List AY)→Int→Int→((Bool×Nat×(List AY)×Int)→Prop)→Prop) (Q:(Nat×(List AY)×Int)→Prop):Prop:=
  BK (fun (s:(List Int)×Int) (next145:((List Int)×Int)→Prop)=>match s with | (s139,s143)=>AR (decide (s143<o6)) (FV o7 o6 (AJ (s143+1)) fun r150=>HV 8 s139 ([r150]) fun _=>next145 ((s139++([r150])),AJ (s143+1))) (BK (fun (s:(List Int)×Int) (next264:((List Int)×Int)→Prop)=>match s with | (s259,s263)=>AR (decide (s263<o8)) (FV o7 o8 (AJ (s263+1)) fun r270=>HV 8 s259 ([r270]) fun _=>next264 ((s259++([r270])),AJ (s263+1))) (yU s259 fun y296=>BK (fun (s:(List AY)×Int×Int×Int×Nat) (next396:((List AY)×Int×Int×Int×Nat)→Prop)=>match s with | (s388,s392,s393,s394,s395)=>AR (decide (s394<(y296.length:Int))) (BC y296 s394 fun x409=>AR (decide (s393<x409)) (Y s395 o1 o2 o3 s388 s392 x409 fun r420=>AR (!r420.1) (Q (r420.2.1,r420.2.2.1,r420.2.2.2)) (next396 (r420.2.2.1,r420.2.2.2,x409,AJ (s394+1),r420.2.1))) (next396 (s388,s392,x409,AJ (s394+1),s395))) (Q (s395,s388,s392))) (o4,o5,0,0,o0))) (s139,0))) (([]:List Int),0)
def LH (a0:Int) (a1:Int) (a2:Int) (Q:(List AY)→Prop):Prop:=
  RY a0 a1 fun r26=>AR (!r26) (Q ([]:List AY)) (RY a0 a2 fun r31=>AR (!r31) (Q ([]:List AY)) (UB a0 a1 a2 fun r63=>QB 0 a0 a1 a2 ([]:List AY) 0 r63.1 r63.2.1 r63.2.2 (fun (y132:Nat) (y133:Int) (y135:Int) (y137:Int) (y139:List AY) (y145:Int) (x147:Int) (Qy:(Bool×Nat×(List AY)×Int)→Prop)=>eqP y132 0 (bK y133 y135 y145 fun r148=>bK y133 y137 y145 fun r152=>HV 32 y139 ([({ From:=y145,To:=x147,Row:=r148,Col:=r152 }:AY)]) fun _=>Qy (true,0,(y139++([({ From:=y145,To:=x147,Row:=r148,Col:=r152 }:AY)])),x147))) fun r166=>eqP r166.1 0 (Q r166.2.1)))
def UU (a0:Int) (a1:Int) (Q:Int→Prop):Prop:=
  OJ a0 fun r1=>AR (!r1) (Q (-1)) (AR (decide (a1<0)) (Q (-1)) (AR (decide ((AJ (a0*8))≤a1)) (Q (-1)) (nzP a0 <| Q (AJ (a1.tdiv a0)))))
def XM (a0:Int) (a1:Int) (Q:Int→Prop):Prop:=
  UU a0 a1 fun r1=>AR (decide (r1<0)) (Q (-1)) (nzP a0 <| Q (a1.tmod a0))
def RZ (a0:Int) (Q:Bool→Prop):Prop:=
  AR (decide (1≤a0)) (Q (decide (a0≤8))) (Q false)
def VV (a0:Int) (a1:Int) (a2:Int) (a3:Int) (Q:Bool→Prop):Prop:=
  RZ a0 fun r1=>AR r1 (RZ a1 fun r6=>AR r6 (AR (decide (0≤a2)) (AR (decide (a2<a0)) (AR (decide (0≤a3)) (Q (decide (a3<a1))) (Q false)) (Q false)) (Q false)) (Q false)) (Q false)
def UV (a0:Int) (a1:Int) (Q:Rows→Prop):Prop:=
  mkP 8 (AJ (a0+1)) 0 fun _=>Q ({ Rows:=a0,Cols:=a1,Start:=(List.replicate (AJ (a0+1)).toNat 0),Col:=([]:List Int),Val:=([]:List Int) }:Rows)
def RH (a0:Int) (a1:Int) (a2:List AC) (Q:Rows→Prop):Prop:=
  UV a0 a1 fun r38=>BK (fun (s:(List Int)×(List Int)×(List Int)×Int) (next427:((List Int)×(List Int)×(List Int)×Int)→Prop)=>match s with | (s414,s418,s422,s426)=>AR (decide (s426<(a2.length:Int))) (BC a2 s426 fun x445=>BC s414 (AJ (x445.Row+1)) fun x464=>BC s414 (AJ (x445.Row+1)) fun x469=>HV 8 s418 ([x445.Col]) fun _=>HV 8 s422 ([x445.Val]) fun _=>next427 ((s414.set ((AJ (x445.Row+1)).toNat) (AJ (x464+1))),(s418++([x445.Col])),(s422++([x445.Val])),AJ (s426+1))) (BK (fun (s:(List Int)×Int) (next535:((List Int)×Int)→Prop)=>match s with | (s530,s534)=>AR (decide (s534<a0)) (BC s530 (AJ (s534+1)) fun x546=>BC s530 s534 fun x551=>BC s530 (AJ (s534+1)) fun x554=>next535 ((s530.set ((AJ (s534+1)).toNat) (AJ (x546+x551))),AJ (s534+1))) (Q ({ Rows:=r38.Rows,Cols:=r38.Cols,Start:=s530,Col:=s418,Val:=s422 }:Rows))) (s414,0))) (r38.Start,r38.Col,r38.Val,0)
def UW (a0:Rows) (Q:Rows→Prop):Prop:=
  HX a0 fun r27=>AR r27 (Q a0) (UV 0 0 fun r32=>Q r32)
def SA (a0:Int×Int) (a1:Int) (Q:(Int×Int)→Prop):Prop:=
  AR (decide ((if a1<a0.2 then a1 else a0.2)≤(if 0 > a0.1 then 0 else a0.1))) (Q ((if 0 > a0.1 then 0 else a0.1),0)) (Q ((if 0 > a0.1 then 0 else a0.1),AJ ((if a1<a0.2 then a1 else a0.2) - (if 0 > a0.1 then 0 else a0.1))))
def XN (a0:Rows) (a1:Int) (Q:((List Int)×(List Int))→Prop):Prop:=
  BC a0.Start a1 fun x39=>BC a0.Start (AJ (a1+1)) fun x48=>slP a0.Col x39 x48 fun _=>slP a0.Val x39 x48 fun _=>Q (((a0.Col.take x48.toNat).drop x39.toNat),((a0.Val.take x48.toNat).drop x39.toNat))
def gD (a0:Rows) (a1:Int) (Q:(List CF)→Prop):Prop:=
  UW a0 fun r33=>GF a1 (AJ (r33.Rows - 1)) fun r54=>AR (!r54) (Q ([]:List CF)) (XN r33 a1 fun r73=>BK (fun (s:(List CF)×Int) (next161:((List CF)×Int)→Prop)=>match s with | (s155,s159)=>AR (decide (s159<(r73.1.length:Int))) (BC r73.1 s159 fun x168=>BC r73.2 s159 fun x177=>HV 16 s155 ([({ At:=x168,Val:=x177 }:CF)]) fun _=>next161 ((s155++([({ At:=x168,Val:=x177 }:CF)])),AJ (s159+1))) (Q s155)) (([]:List CF),0))
def LW (a0:Rows) (a1:Int×Int) (a2:Int×Int) (Q:Rows→Prop):Prop:=
  UW a0 fun r51=>SA a1 r51.Rows fun r71=>SA a2 r51.Cols fun r79=>BK (fun (s:(List AC)×Int) (next446:((List AC)×Int)→Prop)=>match s with | (s440,s444)=>AR (decide (s444<r71.2)) (gD r51 (AJ (r71.1+s444)) fun r464=>BK (fun (s:(List AC)×Int) (next576:((List AC)×Int)→Prop)=>match s with | (s571,s575)=>AR (decide (s575<(r464.length:Int))) (BC r464 s575 fun x595=>EV (fun (k608:Bool→Prop)=>AR (decide (r79.1≤x595.At)) (k608 (decide ((AJ (x595.At - r79.1))<r79.2))) (k608 false)) fun s607=>AR s607 (HV 24 s571 ([({ Row:=s444,Col:=AJ (x595.At - r79.1),Val:=x595.Val }:AC)]) fun _=>next576 ((s571++([({ Row:=s444,Col:=AJ (x595.At - r79.1),Val:=x595.Val }:AC)])),AJ (s575+1))) (next576 (s571,AJ (s575+1)))) (next446 (s571,AJ (s444+1)))) (s440,0)) (RH r71.2 r79.2 s440 fun r627=>Q r627)) (([]:List AC),0)
def NE (a0:Int) (a1:Int) (a2:Int) (Q:(Int×Int)→Prop):Prop:=
  FV a0 a1 a2 fun r5=>FV a0 a1 (AJ (a2+1)) fun r9=>Q (r5,r9)
def RJ (a0:Rows) (a1:Int) (a2:Int) (a3:Int) (a4:Int) (Q:Rows→Prop):Prop:=
  HX a0 fun r69=>AR (!r69) (LW ({ Rows:=0,Cols:=0,Start:=([]:List Int),Col:=([]:List Int),Val:=([]:List Int) }:Rows) (0,0) (0,0) fun r74=>Q r74) (VV a1 a2 a3 a4 fun r90=>AR (!r90) (LW ({ Rows:=0,Cols:=0,Start:=([]:List Int),Col:=([]:List Int),Val:=([]:List Int) }:Rows) (0,0) (0,0) fun r95=>Q r95) (NE a0.Rows a1 a3 fun r111=>NE a0.Cols a2 a4 fun r115=>LW a0 r111 r115 fun r119=>Q r119))
def MK (a0:Rows) (Q:(List AC)→Prop):Prop:=
  UW a0 fun r33=>BK (fun (s:(List AC)×Int) (next392:((List AC)×Int)→Prop)=>match s with | (s386,s390)=>AR (decide (s390<r33.Rows)) (XN r33 s390 fun r413=>BK (fun (s:(List AC)×Int) (next518:((List AC)×Int)→Prop)=>match s with | (s513,s517)=>AR (decide (s517<(r413.1.length:Int))) (BC r413.1 s517 fun x535=>BC r413.2 s517 fun x544=>HV 24 s513 ([({ Row:=s390,Col:=x535,Val:=x544 }:AC)]) fun _=>next518 ((s513++([({ Row:=s390,Col:=x535,Val:=x544 }:AC)])),AJ (s517+1))) (next392 (s513,AJ (s390+1)))) (s386,0)) (Q s386)) (([]:List AC),0)
def IK (a0:Int) (a1:Int) (a2:Int) (Q:(Int×Int)→Prop):Prop:=
  FV a0 a1 a2 fun r5=>FV a0 a1 (AJ (a2+1)) fun r9=>Q (r5,r9)
def ML (a0:Int) (a1:Int) (Q:Bool→Prop):Prop:=
  AR (decide (0≤a0)) (Q (decide (a0≤a1))) (Q false)
def SB (a0:FU) (Q:Bool→Prop):Prop:=
  ML a0.A 63 fun r20=>AR (!r20) (Q false) (ML a0.B 63 fun r25=>AR (!r25) (Q false) (ML a0.K 63 fun r30=>AR (!r30) (Q false) (AR (decide (0<a0.Kind)) (Q (decide (a0.Kind≤5))) (Q false))))
def FB (a0:List CF) (Q:(List CF)→Prop):Prop:=
  AbF a0 (Q ([]:List CF)) (HV 16 ([]:List CF) a0 fun _=>Q (([]:List CF)++a0))
def FR (a0:List dC) (Q:(List dC)→Prop):Prop:=
  AbF a0 (Q ([]:List dC)) (HV 24 ([]:List dC) a0 fun _=>Q (([]:List dC)++a0))
def EE (a0:List AC) (Q:(List AC)→Prop):Prop:=
  AbF a0 (Q ([]:List AC)) (HV 24 ([]:List AC) a0 fun _=>Q (([]:List AC)++a0))
def XO (a0:BN) (Q:BN→Prop):Prop:=
  FB a0.Vec.Items fun r37=>FR a0.Sums fun r47=>EE a0.Triples fun r58=>Q ({ Kind:=a0.Kind,From:=a0.From,To:=a0.To,Seq:=a0.Seq,Round:=a0.Round,Vec:=({ N:=a0.Vec.N,Items:=r37 }:Vec),Sums:=r47,Triples:=r58,N:=a0.N,Over:=a0.Over }:BN)
def NF (a0:Int) (Q:AN→Prop):Prop:=
  Q ({ Hi:=shr .i64 a0 63,Lo:=IntKind.wrap .u64 (a0) }:AN)
def KF (a0:List Int) (Q:Int→Prop):Prop:=
  BK (fun (s31:Int) (next32:Int→Prop)=>AR (decide (s31<(a0.length:Int))) (BC a0 s31 fun x38=>AR (x38 != 0) (Q x38) (next32 (AJ (s31+1)))) (Q 0)) 0
def LX (a0:Int) (Q:Bool→Prop):Prop:=
  Q (a0 != a0)
def JP (a0:Int) (a1:Int) (Q:Int→Prop):Prop:=
  LX a0 fun r5=>LX a1 fun r13=>AR r5 (AR r13 (Q 0) (Q (-1))) (AR r13 (Q 1) (AR (decide (a0<a1)) (Q (-1)) (AR (decide (a1<a0)) (Q 1) (Q 0))))
def KR (a0:Int) (Q:Bool→Prop):Prop:=
  Q (a0 != a0)
def IL (a0:Int) (a1:Int) (Q:Int→Prop):Prop:=
  KR a0 fun r5=>KR a1 fun r13=>AR r5 (AR r13 (Q 0) (Q (-1))) (AR r13 (Q 1) (AR (decide (a0<a1)) (Q (-1)) (AR (decide (a1<a0)) (Q 1) (Q 0))))
def QR (a0:AN) (a1:AN) (Q:Int→Prop):Prop:=
  JP a0.Hi a1.Hi fun r9=>IL a0.Lo a1.Lo fun r13=>KF ([r9,r13]:List Int) fun r22=>Q r22
def PQ (a0:AN) (a1:AN) (Q:AN→Prop):Prop:=
  QR a0 a1 fun r13=>AR (decide (r13≤0)) (Q a0) (Q a1)
def ME (a0:Bool) (Q:AN→Prop):Prop:=
  AR a0 (NF 1 fun r6=>Q r6) (Q ({ Hi:=0,Lo:=0 }:AN))
def SD (a0:Bool) (Q:Int→Prop):Prop:=
  AR a0 (Q 1) (Q 0)
def XP (a0:AN) (a1:AN) (Q:AN→Prop):Prop:=
  SD (decide ((IntKind.wrap .u64 (a0.Lo+a1.Lo))<a1.Lo)) fun r13=>Q ({ Hi:=AJ (IntKind.wrap .u64 ((IntKind.wrap .u64 ((IntKind.wrap .u64 (a0.Hi))+(IntKind.wrap .u64 (a1.Hi))))+r13)),Lo:=IntKind.wrap .u64 (a0.Lo+a1.Lo) }:AN)
def UX (a0:Int) (a1:AN) (a2:AN) (Q:AN→Prop):Prop:=
  EV (fun (k18:Bool→Prop)=>AR (a0==1) (k18 (a0==1)) (AR (a0==3) (k18 (a0==3)) (k18 (a0==4)))) fun s17=>AR s17 (PQ a1 a2 fun r24=>Q r24) (AR (a0==2) (AR (!(a1==a2)) (ME true fun r30=>Q r30) (ME (!(a1==({ Hi:=0,Lo:=0 }:AN))) fun r34=>Q r34)) (AR (a0==5) (XP a1 a2 fun r39=>Q r39) (Q ({ Hi:=0,Lo:=0 }:AN))))
def XQ (a0:AN) (Q:(Int×Bool)→Prop):Prop:=
  NF (AJ (a0.Lo)) fun r5=>AR (!(r5==a0)) (Q (0,false)) (Q (AJ (a0.Lo),true))
def MM (a0:Int) (a1:AN) (Q:(Int×Bool)→Prop):Prop:=
  XQ a1 fun r3=>Q (r3.1,r3.2)
def DA (a0:Int) (a1:Int) (Q:Int→Prop):Prop:=
  HM a0 fun r5=>HM a1 fun r13=>AR r5 (AR r13 (Q 0) (Q (-1))) (AR r13 (Q 1) (AR (decide (a0<a1)) (Q (-1)) (AR (decide (a1<a0)) (Q 1) (Q 0))))
def YJ (a0:AC) (a1:AC) (Q:Int→Prop):Prop:=
  DA a0.Row a1.Row fun r9=>DA a0.Col a1.Col fun r13=>KF ([r9,r13]:List Int) fun r22=>Q r22
def SE (a0:Int) (a1:List AC) (Q:((List AC)×Int)→Prop):Prop:=
  BK (fun (s:(List ((Int×Int)×AN))×Int) (next295:((List ((Int×Int)×AN))×Int)→Prop)=>match s with | (s293,s294)=>AR (decide (s294<(a1.length:Int))) (BC a1 s294 fun x312=>NF x312.Val fun r332=>mC s293 (x312.Row,x312.Col) ({ Hi:=0,Lo:=0 }:AN) fun r338 t343=>AR t343 (UX a0 r338 r332 fun r347=>next295 ((EY (x312.Row,x312.Col) r347 s293),AJ (s294+1))) (next295 ((EY (x312.Row,x312.Col) r332 s293),AJ (s294+1)))) (BK (fun (s:(List AC)×(List ((Int×Int)×AN))) (next463:((List AC)×(List ((Int×Int)×AN)))→Prop)=>match s with | (s457,s461)=>uM s461 (uT YJ s457 fun y494=>Q (y494,0)) (fun p481 l482=>MM a0 p481.2 fun r515=>AR (!r515.2) (Q (([]:List AC),12)) (HV 24 s457 ([({ Row:=p481.1.1,Col:=p481.1.2,Val:=r515.1 }:AC)]) fun _=>next463 ((s457++([({ Row:=p481.1.1,Col:=p481.1.2,Val:=r515.1 }:AC)])),l482)))) (([]:List AC),s293))) (([]:List ((Int×Int)×AN)),0)
def VW (o0:Int) (o1:Int) (a0:AC) (Q:Bool→Prop):Prop:=
  GF a0.Row (AJ (o0 - 1)) fun r9=>AR (!r9) (Q true) (GF a0.Col (AJ (o1 - 1)) fun r14=>Q (!r14))
def CX (o0:Int) (o1:Int) (a0:List AC) (Q:Int→Prop):Prop:=
  BK (fun (s49:Int) (next50:Int→Prop)=>AR (decide (s49<(a0.length:Int))) (BC a0 s49 fun x56=>VW o0 o1 x56 fun r70=>AR r70 (Q s49) (next50 (AJ (s49+1)))) (Q (-1))) 0
def CQ (o0:Int) (o1:Int) (a0:List AC) (Q:Bool→Prop):Prop:=
  CX o0 o1 a0 fun r14=>Q (decide (0≤r14))
def SF (a0:Int) (a1:Int) (a2:Int) (a3:List AC) (Q:(Rows×Int)→Prop):Prop:=
  QP a0 fun r80=>AR (!r80) (Q (({ Rows:=0,Cols:=0,Start:=([]:List Int),Col:=([]:List Int),Val:=([]:List Int) }:Rows),8)) (EV (fun (k104:Bool→Prop)=>GF a1 4096 fun r105=>AR (!r105) (k104 true) (GF a2 4096 fun r110=>k104 (!r110))) fun s103=>AR s103 (Q (({ Rows:=0,Cols:=0,Start:=([]:List Int),Col:=([]:List Int),Val:=([]:List Int) }:Rows),3)) (AR (decide (65536<(a3.length:Int))) (Q (({ Rows:=0,Cols:=0,Start:=([]:List Int),Col:=([]:List Int),Val:=([]:List Int) }:Rows),5)) (CQ a1 a2 a3 fun r124=>AR r124 (Q (({ Rows:=0,Cols:=0,Start:=([]:List Int),Col:=([]:List Int),Val:=([]:List Int) }:Rows),3)) (SE a0 a3 fun r138=>AR (r138.2 != 0) (Q (({ Rows:=0,Cols:=0,Start:=([]:List Int),Col:=([]:List Int),Val:=([]:List Int) }:Rows),r138.2)) (RH a1 a2 r138.1 fun r150=>Q (r150,0))))))
def YK (a0:List Rows) (Q:(List Rows)→Prop):Prop:=
  BK (fun (s:(List Rows)×Int) (next180:((List Rows)×Int)→Prop)=>match s with | (s174,s178)=>AR (decide (s178<(a0.length:Int))) (BC a0 s178 fun x206=>HX x206 fun r225=>AR (!r225) (LW x206 (0,0) (0,0) fun r230=>HV 88 s174 ([r230]) fun _=>next180 ((s174++([r230])),AJ (s178+1))) (HV 88 s174 ([x206]) fun _=>next180 ((s174++([x206])),AJ (s178+1)))) (Q s174)) (([]:List Rows),0)
def RK (a0:Rows) (a1:Int) (Q:((List Int)×(List Int))→Prop):Prop:=
  BC a0.Start a1 fun x39=>BC a0.Start (AJ (a1+1)) fun x48=>slP a0.Col x39 x48 fun _=>slP a0.Val x39 x48 fun _=>Q (((a0.Col.take x48.toNat).drop x39.toNat),((a0.Val.take x48.toNat).drop x39.toNat))
def HB (a0:Int) (Q:(Int×Int)→Prop):Prop:=
  Q (shr .u64 (shl .u64 a0 32) 32,shr .u64 a0 32)
def QS (a0:Int) (a1:Int) (Q:AN→Prop):Prop:=
  HB a0 fun r17=>HB a1 fun r21=>HB (IntKind.wrap .u64 (r17.1*r21.1)) fun r40=>HB (IntKind.wrap .u64 ((IntKind.wrap .u64 (r17.2*r21.1))+r40.2)) fun r44=>HB (IntKind.wrap .u64 ((IntKind.wrap .u64 (r17.1*r21.2))+r44.1)) fun r55=>HB (IntKind.wrap .u64 (r17.1*r21.1)) fun r61=>Q ({ Hi:=AJ (IntKind.wrap .u64 ((IntKind.wrap .u64 ((IntKind.wrap .u64 (r17.2*r21.2))+r44.2))+r55.2)),Lo:=bor .u64 (shl .u64 r55.1 32) r61.1 }:AN)
def UY (a0:Int) (Q:Int→Prop):Prop:=
  AR (decide (a0<0)) (Q (IntKind.wrap .u64 (0 - (IntKind.wrap .u64 (a0))))) (Q (IntKind.wrap .u64 (a0)))
def bL (a0:AN) (a1:AN) (Q:AN→Prop):Prop:=
  SD (decide (a0.Lo<a1.Lo)) fun r13=>Q ({ Hi:=AJ (IntKind.wrap .u64 ((IntKind.wrap .u64 ((IntKind.wrap .u64 (a0.Hi)) - (IntKind.wrap .u64 (a1.Hi)))) - r13)),Lo:=IntKind.wrap .u64 (a0.Lo - a1.Lo) }:AN)
def bM (a0:Int) (a1:Int) (Q:AN→Prop):Prop:=
  UY a0 fun r19=>UY a1 fun r23=>QS r19 r23 fun r27=>AR (!((decide (a0<0))==(decide (a1<0)))) (bL ({ Hi:=0,Lo:=0 }:AN) r27 fun r34=>Q r34) (Q r27)
def bN (a0:Int) (a1:Int) (a2:Int) (Q:AN→Prop):Prop:=
  AR (a0==2) (AR (a1 != 0) (ME (a2 != 0) fun r22=>Q r22) (ME false fun r26=>Q r26)) (AR (a0==5) (bM a1 a2 fun r31=>Q r31) (EV (fun (k55:Unit→Prop)=>QP a0 fun r56=>AR r56 (AR (decide (4611686018427387904≤(if a2 > a1 then a2 else a1))) (NF 4611686018427387904 fun r62=>Q r62) (k55 ())) (k55 ())) fun _=>EV (fun (k90:(Int×Int)→Prop)=>AR (a0==1) (NF a1 fun r93=>k90 (r93.Hi,r93.Lo)) (AR (a0==4) (k90 (0,0)) (AR (a0==3) (NF a1 fun r99=>Q r99) (Q ({ Hi:=0,Lo:=0 }:AN))))) fun (s88,s89)=>NF 4611686018427387904 fun r106=>NF a2 fun r110=>XP ({ Hi:=s88,Lo:=s89 }:AN) r110 fun r114=>PQ r106 r114 fun r118=>Q r118))
def QT (o0:List (Int×Bool)) (a0:Int) (a1:Rows) (a2:Rows) (a3:Int) (Q:(List (Int×AN))→Prop):Prop:=
  RK a1 a3 fun r46=>BK (fun (s:(List (Int×AN))×Int) (next759:((List (Int×AN))×Int)→Prop)=>match s with | (s757,s758)=>AR (decide (s758<(r46.1.length:Int))) (BC r46.1 s758 fun x775=>RK a2 x775 fun r798=>BK (fun (s:(List (Int×AN))×Int) (next1011:((List (Int×AN))×Int)→Prop)=>match s with | (s1009,s1010)=>AR (decide (s1010<(r798.1.length:Int))) (BC r798.1 s1010 fun x1028=>wG o0 x1028 false fun r1043=>AR (!r1043) (next1011 (s1009,AJ (s1010+1))) (BC r46.2 s758 fun x1075=>BC r798.2 s1010 fun x1084=>bN a0 x1075 x1084 fun r1093=>mC s1009 x1028 ({ Hi:=0,Lo:=0 }:AN) fun r1098 t1103=>AR t1103 (UX a0 r1098 r1093 fun r1107=>next1011 ((EY x1028 r1107 s1009),AJ (s1010+1))) (next1011 ((EY x1028 r1093 s1009),AJ (s1010+1))))) (next759 (s1009,AJ (s758+1)))) (s757,0)) (Q s757)) (([]:List (Int×AN)),0)
def SG (a0:Int) (a1:Rows) (a2:Rows) (a3:Rows) (Q:((List AK)×Int)→Prop):Prop:=
  YK ([a1,a2,a3]:List Rows) fun r64=>BC r64 0 fun x130=>BC r64 1 fun x148=>BC r64 2 fun x166=>QP a0 fun r199=>AR (!r199) (Q (([]:List AK),8)) (AR (x130.Cols != x148.Rows) (Q (([]:List AK),4)) (AR (x166.Rows != x130.Rows) (Q (([]:List AK),4)) (AR (x166.Cols != x148.Cols) (Q (([]:List AK),4)) (BK (fun (s:(List AK)×Int) (next840:((List AK)×Int)→Prop)=>match s with | (s834,s838)=>AR (decide (s838<x166.Rows)) (RK x166 s838 fun r861=>BK (fun (s:(List (Int×Bool))×Int) (next956:((List (Int×Bool))×Int)→Prop)=>match s with | (s954,s955)=>AR (decide (s955<(r861.1.length:Int))) (BC r861.1 s955 fun x964=>next956 ((EY x964 true s954),AJ (s955+1))) (QT s954 a0 x130 x148 s838 fun r990=>BK (fun (s:(List AK)×Int) (next1102:((List AK)×Int)→Prop)=>match s with | (s1097,s1101)=>AR (decide (s1101<(r861.1.length:Int))) (BC r861.1 s1101 fun x1120=>mC r990 x1120 ({ Hi:=0,Lo:=0 }:AN) fun r1136 t1141=>AR t1141 (HV 32 s1097 ([({ Row:=s838,Col:=x1120,Val:=r1136 }:AK)]) fun _=>next1102 ((s1097++([({ Row:=s838,Col:=x1120,Val:=r1136 }:AK)])),AJ (s1101+1))) (next1102 (s1097,AJ (s1101+1)))) (next840 (s1097,AJ (s838+1)))) (s834,0))) (([]:List (Int×Bool)),0)) (Q (s834,0))) (([]:List AK),0)))))
def SH (a0:AK) (a1:AK) (Q:Int→Prop):Prop:=
  DA a0.Row a1.Row fun r9=>DA a0.Col a1.Col fun r13=>KF ([r9,r13]:List Int) fun r22=>Q r22
def KG (a0:List AK) (Q:Bool→Prop):Prop:=
  BK (fun (s35:Int) (next36:Int→Prop)=>AR (decide (s35<(a0.length:Int))) (AR (decide (0<s35)) (BC a0 (AJ (s35 - 1)) fun x43=>BC a0 s35 fun x52=>SH x43 x52 fun r60=>AR (decide (0≤r60)) (Q false) (next36 (AJ (s35+1)))) (next36 (AJ (s35+1)))) (Q true)) 0
def FG (a1:Int) (Q:(List AK)→Prop):Prop:=
  AR (decide (a1<0)) (False) (AR (decide (0<(AJ (a1 - (AJ (0 - 0)))))) (grP 32 (AJ (a1 - (AJ (0 - 0)))) <| Q ([]:List AK)) (Q ([]:List AK)))
def DI (a0:List (List AK)) (Q:(List AK)→Prop):Prop:=
  BK (fun (s:Int×Int) (next161:(Int×Int)→Prop)=>match s with | (s159,s160)=>AR (decide (s160<(a0.length:Int))) (BC a0 s160 fun x179=>AR (decide ((AJ (s159+(x179.length:Int)))<0)) (False) (next161 (AJ (s159+(x179.length:Int)),AJ (s160+1)))) (FG s159 fun r203=>BK (fun (s:(List AK)×Int) (next271:((List AK)×Int)→Prop)=>match s with | (s266,s270)=>AR (decide (s270<(a0.length:Int))) (BC a0 s270 fun x278=>HV 32 s266 x278 fun _=>next271 ((s266++x278),AJ (s270+1))) (Q s266)) (r203,0))) (0,0)
def OL (a0:List AK) (Q:Bool→Prop):Prop:=
  KG a0 fun r4=>Q (!r4)
def DJ (a0:List (List AK)) (Q:Int→Prop):Prop:=
  BK (fun (s51:Int) (next52:Int→Prop)=>AR (decide (s51<(a0.length:Int))) (BC a0 s51 fun x58=>OL x58 fun r75=>AR r75 (Q s51) (next52 (AJ (s51+1)))) (Q (-1))) 0
def DB (a0:List (List AK)) (Q:Bool→Prop):Prop:=
  DJ a0 fun r10=>Q (decide (0≤r10))
def EP (a0:AK) (a1:AK) (Q:Int→Prop):Prop:=
  DA a0.Row a1.Row fun r9=>DA a0.Col a1.Col fun r13=>KF ([r9,r13]:List Int) fun r22=>Q r22
def CA (o0:List AK) (a0:Int) (a1:Int) (Q:(List AK)→Prop):Prop:=
  BK (fun (s:(List AK)×Int) (next332:((List AK)×Int)→Prop)=>match s with | (s330,s331)=>AR (decide (s331<a1)) (BK (fun (s:(List AK)×Int) (next446:((List AK)×Int)→Prop)=>match s with | (s444,s445)=>AR (decide (a0<s445)) (BC s444 s445 fun x474=>BC s444 (AJ (s445 - 1)) fun x479=>EP x474 x479 fun r487=>AR (decide (r487<0)) (BC s444 (AJ (s445 - 1)) fun x492=>BC s444 s445 fun x495=>BC s444 s445 fun x498=>BC (s444.set s445.toNat x492) (AJ (s445 - 1)) fun x501=>next446 (((s444.set s445.toNat x492).set ((AJ (s445 - 1)).toNat) x495),AJ (s445 - 1))) (next332 (s444,AJ (s331+1)))) (next332 (s444,AJ (s331+1)))) (s330,s331)) (Q s330)) (o0,AJ (a0+1))
def BV (o0:List AK) (a0:Int) (a1:Int) (a2:Int) (Q:(List AK)→Prop):Prop:=
  BK (fun (s:(List AK)×Int) (next46:((List AK)×Int)→Prop)=>match s with | (s44,s45)=>AR (decide (s45<a2)) (BC s44 (AJ (a1+s45)) fun x54=>BC s44 (AJ (a0+s45)) fun x59=>BC s44 (AJ (a0+s45)) fun x62=>BC (s44.set ((AJ (a0+s45)).toNat) x54) (AJ (a1+s45)) fun x65=>next46 (((s44.set ((AJ (a0+s45)).toNat) x54).set ((AJ (a1+s45)).toNat) x59),AJ (s45+1))) (Q s44)) (o0,0)
def DD (o0:List AK) (a0:Int) (a1:Int) (a2:Int) (Q:(List AK)→Prop):Prop:=
  BK (fun (s:(List AK)×Int×Int) (next66:((List AK)×Int×Int)→Prop)=>match s with | (s63,s64,s65)=>AR (s64 != s65) (AR (decide (s65<s64)) (BV s63 (AJ (a1 - s64)) a1 s65 fun r79=>next66 (r79,AJ (s64 - s65),s65)) (BV s63 (AJ (a1 - s64)) (AJ ((AJ (a1+s65)) - s64)) s64 fun r91=>next66 (r91,s64,AJ (s65 - s64)))) (BV s63 (AJ (a1 - s64)) a1 s64 fun r103=>Q r103)) (o0,AJ (a1 - a0),AJ (a2 - a1))
def BF (rc:(List AK)→Int→Int→Int→((List AK)→Prop)→Prop) (o0:List AK) (a0:Int) (a1:Int) (a2:Int) (Q:(List AK)→Prop):Prop:=
  AR ((AJ (a1 - a0))==1) (BK (fun (s:Int×Int) (next323:(Int×Int)→Prop)=>match s with | (s321,s322)=>AR (decide (s321<s322)) (BC o0 (AJ (shr .u64 (IntKind.wrap .u64 (AJ (s321+s322))) 1)) fun x330=>BC o0 a0 fun x335=>EP x330 x335 fun r343=>AR (decide (r343<0)) (next323 (AJ ((AJ (shr .u64 (IntKind.wrap .u64 (AJ (s321+s322))) 1))+1),s322)) (next323 (s321,AJ (shr .u64 (IntKind.wrap .u64 (AJ (s321+s322))) 1)))) (BK (fun (s:(List AK)×Int) (next388:((List AK)×Int)→Prop)=>match s with | (s386,s387)=>AR (decide (s387<(AJ (s321 - 1)))) (BC s386 (AJ (s387+1)) fun x397=>BC s386 s387 fun x402=>BC s386 s387 fun x405=>BC (s386.set s387.toNat x397) (AJ (s387+1)) fun x408=>next388 (((s386.set s387.toNat x397).set ((AJ (s387+1)).toNat) x402),AJ (s387+1))) (Q s386)) (o0,a0))) (a1,a2)) (AR ((AJ (a2 - a1))==1) (BK (fun (s:Int×Int) (next729:(Int×Int)→Prop)=>match s with | (s727,s728)=>AR (decide (s727<s728)) (BC o0 a1 fun x736=>BC o0 (AJ (shr .u64 (IntKind.wrap .u64 (AJ (s727+s728))) 1)) fun x741=>EP x736 x741 fun r749=>AR (!(decide (r749<0))) (next729 (AJ ((AJ (shr .u64 (IntKind.wrap .u64 (AJ (s727+s728))) 1))+1),s728)) (next729 (s727,AJ (shr .u64 (IntKind.wrap .u64 (AJ (s727+s728))) 1)))) (BK (fun (s:(List AK)×Int) (next794:((List AK)×Int)→Prop)=>match s with | (s792,s793)=>AR (decide (s727<s793)) (BC s792 (AJ (s793 - 1)) fun x803=>BC s792 s793 fun x808=>BC s792 s793 fun x811=>BC (s792.set s793.toNat x803) (AJ (s793 - 1)) fun x814=>next794 (((s792.set s793.toNat x803).set ((AJ (s793 - 1)).toNat) x808),AJ (s793 - 1))) (Q s792)) (o0,a1))) (a0,a1)) (EV (fun (k820:(Int×Int)→Prop)=>AR (decide ((AJ (shr .u64 (IntKind.wrap .u64 (AJ (a0+a2))) 1))<a1)) (k820 (AJ ((AJ ((AJ (shr .u64 (IntKind.wrap .u64 (AJ (a0+a2))) 1))+a1)) - a2),AJ (shr .u64 (IntKind.wrap .u64 (AJ (a0+a2))) 1))) (k820 (a0,a1))) fun (s818,s819)=>BK (fun (s:Int×Int) (next945:(Int×Int)→Prop)=>match s with | (s943,s944)=>AR (decide (s943<s944)) (BC o0 (AJ ((AJ ((AJ ((AJ (shr .u64 (IntKind.wrap .u64 (AJ (a0+a2))) 1))+a1)) - 1)) - (AJ (shr .u64 (IntKind.wrap .u64 (AJ (s943+s944))) 1)))) fun x953=>BC o0 (AJ (shr .u64 (IntKind.wrap .u64 (AJ (s943+s944))) 1)) fun x958=>EP x953 x958 fun r966=>AR (!(decide (r966<0))) (next945 (AJ ((AJ (shr .u64 (IntKind.wrap .u64 (AJ (s943+s944))) 1))+1),s944)) (next945 (s943,AJ (shr .u64 (IntKind.wrap .u64 (AJ (s943+s944))) 1)))) (EV (fun (k1001:(List AK)→Prop)=>AR (decide (s943<a1)) (AR (decide (a1<(AJ ((AJ ((AJ (shr .u64 (IntKind.wrap .u64 (AJ (a0+a2))) 1))+a1)) - s943)))) (DD o0 s943 a1 (AJ ((AJ ((AJ (shr .u64 (IntKind.wrap .u64 (AJ (a0+a2))) 1))+a1)) - s943)) fun r1010=>k1001 r1010) (k1001 o0)) (k1001 o0)) fun s1000=>EV (fun (k1055:(List AK)→Prop)=>AR (decide (a0<s943)) (AR (decide (s943<(AJ (shr .u64 (IntKind.wrap .u64 (AJ (a0+a2))) 1)))) (rc s1000 a0 s943 (AJ (shr .u64 (IntKind.wrap .u64 (AJ (a0+a2))) 1)) fun r1064=>k1055 r1064) (k1055 s1000)) (k1055 s1000)) fun s1054=>AR (decide ((AJ (shr .u64 (IntKind.wrap .u64 (AJ (a0+a2))) 1))<(AJ ((AJ ((AJ (shr .u64 (IntKind.wrap .u64 (AJ (a0+a2))) 1))+a1)) - s943)))) (AR (decide ((AJ ((AJ ((AJ (shr .u64 (IntKind.wrap .u64 (AJ (a0+a2))) 1))+a1)) - s943))<a2)) (rc s1054 (AJ (shr .u64 (IntKind.wrap .u64 (AJ (a0+a2))) 1)) (AJ ((AJ ((AJ (shr .u64 (IntKind.wrap .u64 (AJ (a0+a2))) 1))+a1)) - s943)) a2 fun r1086=>Q r1086) (Q s1054)) (Q s1054))) (s818,s819)))
def CN:Nat→(List AK)→Int→Int→Int→((List AK)→Prop)→Prop
  | 0=>fun _ _ _ _ _=>False
  | k+1=>BF (CN k)
def CU (o0:List AK) (a0:Int) (a1:Int) (a2:Int) (Q:(List AK)→Prop):Prop:=∃ k,CN k o0 a0 a1 a2 Q
def EJ (o0:List AK) (a0:Int) (Q:(List AK)→Prop):Prop:=
  BK (fun (s:(List AK)×Int×Int) (next98:((List AK)×Int×Int)→Prop)=>match s with | (s95,s96,s97)=>AR (decide (s97≤a0)) (CA s95 s96 s97 fun r110=>next98 (r110,s97,AJ (s97+20))) (CA s95 s96 a0 fun r134=>BK (fun (s:(List AK)×Int) (next420:((List AK)×Int)→Prop)=>match s with | (s418,s419)=>AR (decide (s419<a0)) (BK (fun (s:(List AK)×Int×Int) (next533:((List AK)×Int×Int)→Prop)=>match s with | (s530,s531,s532)=>AR (decide (s532≤a0)) (CU s530 s531 (AJ (s531+s419)) s532 fun r547=>next533 (r547,s532,AJ (s532+(AJ (2*s419))))) (AR (decide ((AJ (s531+s419))<a0)) (CU s530 s531 (AJ (s531+s419)) a0 fun r562=>next420 (r562,AJ (s419*2))) (next420 (s530,AJ (s419*2))))) (s418,0,AJ (2*s419))) (Q s418)) (r134,20))) (o0,0,20)
def CE (o0:List AK) (Q:(List AK)→Prop):Prop:=
  EJ o0 (o0.length:Int) fun r10=>Q r10
def OM (a0:Int) (a1:List (List AK)) (Q:((List AK)×Int)→Prop):Prop:=
  QP a0 fun r12=>AR (!r12) (Q (([]:List AK),8)) (DB a1 fun r31=>AR r31 (Q (([]:List AK),6)) (DI a1 fun r45=>CE r45 fun r75=>BK (fun (s:(List AK)×Int) (next199:((List AK)×Int)→Prop)=>match s with | (s193,s197)=>AR (decide (s197<(r75.length:Int))) (BC r75 s197 fun x213=>EV (fun (k242:Bool→Prop)=>AR (decide (0<(s193.length:Int))) (BC s193 (AJ ((s193.length:Int) - 1)) fun x246=>SH x246 x213 fun r250=>k242 (r250==0)) (k242 false)) fun s241=>AR s241 (BC s193 (AJ ((s193.length:Int) - 1)) fun x261=>UX a0 x261.Val x213.Val fun r265=>BC s193 (AJ ((s193.length:Int) - 1)) fun x270=>next199 ((s193.set ((AJ ((s193.length:Int) - 1)).toNat) ({ Row:=x270.Row,Col:=x270.Col,Val:=r265 }:AK)),AJ (s197+1))) (HV 32 s193 ([x213]) fun _=>next199 ((s193++([x213])),AJ (s197+1)))) (Q (s193,0))) (([]:List AK),0)))
def IM (a0:List Int) (Q:Int→Prop):Prop:=
  AR (decide ((a0.length:Int)<1)) (False) (BC a0 0 fun x16=>BK (fun (s:Int×Int) (next54:(Int×Int)→Prop)=>match s with | (s52,s53)=>AR (decide (s53<(a0.length:Int))) (BC a0 s53 fun x60=>next54 ((if x60<s52 then x60 else s52),AJ (s53+1))) (Q s52)) (x16,1))
def GJ (a0:AK) (a1:AK) (Q:Int→Prop):Prop:=
  DA a0.Row a1.Row fun r9=>DA a0.Col a1.Col fun r13=>KF ([r9,r13]:List Int) fun r22=>Q r22
def UZ (a0:Int) (Q:Int→Prop):Prop:=
  AR (a0==1) (Q 4611686018427387904) (AR (a0==3) (Q 4611686018427387904) (AR (a0==4) (Q 4611686018427387904) (Q 0)))
def KH (a0:Int) (a1:Int) (Q:Bool→Prop):Prop:=
  AR (decide (0≤a0)) (Q (decide (a0≤a1))) (Q false)
def QC (o0:Int) (o1:Int) (a0:AK) (Q:Bool→Prop):Prop:=
  KH a0.Row (AJ (o0 - 1)) fun r9=>AR (!r9) (Q true) (KH a0.Col (AJ (o1 - 1)) fun r14=>Q (!r14))
def DK (o0:Int) (o1:Int) (a0:List AK) (Q:Int→Prop):Prop:=
  BK (fun (s49:Int) (next50:Int→Prop)=>AR (decide (s49<(a0.length:Int))) (BC a0 s49 fun x56=>QC o0 o1 x56 fun r70=>AR r70 (Q s49) (next50 (AJ (s49+1)))) (Q (-1))) 0
def DC (o0:Int) (o1:Int) (a0:List AK) (Q:Bool→Prop):Prop:=
  DK o0 o1 a0 fun r14=>Q (decide (0≤r14))
def YL (a0:Int) (a1:Int) (a2:Int) (a3:List AK) (Q:(Rows×Int)→Prop):Prop:=
  QP a0 fun r97=>AR (!r97) (Q (({ Rows:=0,Cols:=0,Start:=([]:List Int),Col:=([]:List Int),Val:=([]:List Int) }:Rows),8)) (EV (fun (k121:Bool→Prop)=>KH a1 4096 fun r122=>AR (!r122) (k121 true) (KH a2 4096 fun r127=>k121 (!r127))) fun s120=>AR s120 (Q (({ Rows:=0,Cols:=0,Start:=([]:List Int),Col:=([]:List Int),Val:=([]:List Int) }:Rows),3)) (DC a1 a2 a3 fun r148=>AR r148 (Q (({ Rows:=0,Cols:=0,Start:=([]:List Int),Col:=([]:List Int),Val:=([]:List Int) }:Rows),3)) (KG a3 fun r155=>AR (!r155) (Q (({ Rows:=0,Cols:=0,Start:=([]:List Int),Col:=([]:List Int),Val:=([]:List Int) }:Rows),6)) (AR (decide (65536<(a3.length:Int))) (Q (({ Rows:=0,Cols:=0,Start:=([]:List Int),Col:=([]:List Int),Val:=([]:List Int) }:Rows),5)) (BK (fun (s:(List AC)×Int) (next454:((List AC)×Int)→Prop)=>match s with | (s448,s452)=>AR (decide (s452<(a3.length:Int))) (BC a3 s452 fun x472=>MM a0 x472.Val fun r486=>AR (!r486.2) (Q (({ Rows:=0,Cols:=0,Start:=([]:List Int),Col:=([]:List Int),Val:=([]:List Int) }:Rows),12)) (UZ a0 fun r496=>AR (r486.1 != r496) (HV 24 s448 ([({ Row:=x472.Row,Col:=x472.Col,Val:=r486.1 }:AC)]) fun _=>next454 ((s448++([({ Row:=x472.Row,Col:=x472.Col,Val:=r486.1 }:AC)])),AJ (s452+1))) (next454 (s448,AJ (s452+1))))) (SF a0 a1 a2 s448 fun r512=>Q (r512.1,r512.2))) (([]:List AC),0))))))
def IP (a0:GX) (a1:Int) (Q:(List FU)→Prop):Prop:=
  BK (fun (s:(List FU)×Int) (next151:((List FU)×Int)→Prop)=>match s with | (s145,s149)=>AR (decide (s149<(a0.L.length:Int))) (AR (decide (s149<120)) (BC a0.L s149 fun x170=>IJ x170.Kind 5 fun r184=>IJ x170.A a1 fun r192=>IJ x170.B a1 fun r200=>IJ x170.K 3 fun r204=>HV 32 s145 ([({ Kind:=AJ (r184+1),A:=r192,B:=r200,K:=r204 }:FU)]) fun _=>next151 ((s145++([({ Kind:=AJ (r184+1),A:=r192,B:=r200,K:=r204 }:FU)])),AJ (s149+1))) (Q s145)) (Q s145)) (([]:List FU),0)
def TM (a0:Rows) (Q:Bool→Prop):Prop:=
  AR (decide (a0.Rows<0)) (Q false) (AR (decide (4096<a0.Rows)) (Q false) (AR (decide (a0.Cols<0)) (Q false) (AR (decide (4096<a0.Cols)) (Q false) (AR ((a0.Start.length:Int) != (AJ (a0.Rows+1))) (Q false) (AR ((a0.Col.length:Int) != (a0.Val.length:Int)) (Q false) (AR (decide (65536<(a0.Col.length:Int))) (Q false) (BC a0.Start 0 fun x49=>AR (x49 != 0) (Q false) (BC a0.Start a0.Rows fun x59=>AR (x59 != (a0.Col.length:Int)) (Q false) (BK (fun (s695:Int) (next696:Int→Prop)=>AR (decide (s695<a0.Rows)) (BC a0.Start s695 fun x741=>BC a0.Start (AJ (s695+1)) fun x750=>AR (decide (x750<x741)) (Q false) (BC a0.Start s695 fun x760=>AR (decide (x760<0)) (Q false) (BC a0.Start (AJ (s695+1)) fun x770=>AR (decide ((a0.Col.length:Int)<x770)) (Q false) (BC a0.Start s695 fun x789=>BK (fun (s938:Int) (next939:Int→Prop)=>BC a0.Start (AJ (s695+1)) fun x954=>AR (decide (s938<x954)) (BC a0.Col s938 fun x964=>AR (decide (x964<0)) (Q false) (BC a0.Col s938 fun x974=>AR (decide (a0.Cols≤x974)) (Q false) (BC a0.Start s695 fun x984=>AR (decide (x984<s938)) (BC a0.Col s938 fun x994=>BC a0.Col (AJ (s938 - 1)) fun x1003=>AR (decide (x994≤x1003)) (Q false) (next939 (AJ (s938+1)))) (next939 (AJ (s938+1)))))) (next696 (AJ (s695+1)))) x789)))) (Q true)) 0)))))))))
def KI (a0:Rows) (Q:Rows→Prop):Prop:=
  TM a0 fun r27=>AR r27 (Q a0) (KE 0 0 fun r32=>Q r32)
def YM (a0:Rows) (a1:Int) (Q:(List CF)→Prop):Prop:=
  KI a0 fun r33=>AR (decide (a1<0)) (Q ([]:List CF)) (AR (decide (r33.Rows≤a1)) (Q ([]:List CF)) (BC r33.Start a1 fun x63=>BK (fun (s:(List CF)×Int) (next182:((List CF)×Int)→Prop)=>match s with | (s176,s180)=>BC r33.Start (AJ (a1+1)) fun x197=>AR (decide (s180<x197)) (BC r33.Col s180 fun x208=>BC r33.Val s180 fun x217=>HV 16 s176 ([({ At:=x208,Val:=x217 }:CF)]) fun _=>next182 ((s176++([({ At:=x208,Val:=x217 }:CF)])),AJ (s180+1))) (Q s176)) (([]:List CF),x63)))
def RL (a0:Rows) (a1:Int) (a2:Int) (Q:(Int×Bool)→Prop):Prop:=
  YM a0 a1 fun r24=>BK (fun (s97:Int) (next98:Int→Prop)=>AR (decide (s97<(r24.length:Int))) (BC r24 s97 fun x114=>AR (x114.At==a2) (BC r24 s97 fun x124=>Q (x124.Val,true)) (next98 (AJ (s97+1)))) (Q (0,false))) 0
def MN (a0:Int) (Q:Int→Prop):Prop:=
  Q (a0.tmod 14)
def PR (a0:Int) (Q:Int→Prop):Prop:=
  AR (decide (a0<1)) (Q 1) (AR (decide (5<a0)) (Q 1) (Q a0))
def SI (a0:Int) (Q:Int→Prop):Prop:=
  Q ((AJ (a0)).tmod 40)
def YN (a0:List AC) (Q:(List AC)→Prop):Prop:=
  AR (decide (60<(a0.length:Int))) (slP a0 0 60 fun _=>Q ((a0.take (Int.toNat 60)).drop (Int.toNat 0))) (Q a0)
def VX (a0:Int×Int) (a1:List AC) (Q:Rows→Prop):Prop:=
  SI a0.1 fun r29=>SI a0.2 fun r33=>YN a1 fun r47=>BK (fun (s:(List AC)×Int) (next310:((List AC)×Int)→Prop)=>match s with | (s304,s308)=>AR (decide (s308<(r47.length:Int))) (BC r47 s308 fun x328=>AR (decide (x328.Row<0)) (next310 (s304,AJ (s308+1))) (AR (decide (x328.Col<0)) (next310 (s304,AJ (s308+1))) (AR (r29==0) (next310 (s304,AJ (s308+1))) (AR (r33==0) (next310 (s304,AJ (s308+1))) (nzP r29 <| nzP r33 <| HV 24 s304 ([({ Row:=x328.Row.tmod r29,Col:=x328.Col.tmod r33,Val:=x328.Val }:AC)]) fun _=>next310 ((s304++([({ Row:=x328.Row.tmod r29,Col:=x328.Col.tmod r33,Val:=x328.Val }:AC)])),AJ (s308+1))))))) (UT 1 r29 r33 s304 fun r385=>AR (r385.2 != 0) (KE r29 r33 fun r406=>Q r406) (Q r385.1))) (([]:List AC),0)
def TN (a0:Int) (a1:Int) (Q:Int→Prop):Prop:=
  AR (a0==5) (Q a1) (AR (a0==2) (Q (oP .i64 a1 1)) (AR (((oP .i64 a1 4611686018427387903).tmod 5)==0) (Q 4611686018427387904) (Q (oP .i64 a1 4611686018427387903))))
def QU (a0:Int) (a1:Int) (Q:Int→Prop):Prop:=
  AR (a0==5) (Q (a1.tmod 2147483648)) (TN a0 a1 fun r2=>Q r2)
def FK (a0:II) (Q:Rows→Prop):Prop:=
  VX a0.Size a0.L fun r48=>PR a0.Ring fun r70=>BK (fun (s:(List Int)×Int) (next138:((List Int)×Int)→Prop)=>match s with | (s132,s136)=>AR (decide (s136<(r48.Val.length:Int))) (BC r48.Val s136 fun x145=>QU r70 x145 fun r153=>HV 8 s132 ([r153]) fun _=>next138 ((s132++([r153])),AJ (s136+1))) (Q ({ Rows:=r48.Rows,Cols:=r48.Cols,Start:=r48.Start,Col:=r48.Col,Val:=s132 }:Rows))) (([]:List Int),0)
def KS (a0:OI) (Q:(Rows×Rows×Rows)→Prop):Prop:=
  MN a0.Size.1 fun r57=>MN a0.Size.2.1 fun r61=>MN a0.Size.2.2 fun r65=>FK ({ Ring:=a0.Ring,Size:=(r57,r61),L:=a0.A,X:=([]:List CF),Y:=([]:List CF),F:=([]:List Int),Others:=false }:II) fun r79=>FK ({ Ring:=a0.Ring,Size:=(r61,r65),L:=a0.B,X:=([]:List CF),Y:=([]:List CF),F:=([]:List Int),Others:=false }:II) fun r95=>FK ({ Ring:=a0.Ring,Size:=(r57,r65),L:=a0.M,X:=([]:List CF),Y:=([]:List CF),F:=([]:List Int),Others:=false }:II) fun r112=>Q (r79,r95,r112)
def LY (a0:KC) (Q:BD→Prop):Prop:=
  KS a0.T fun r81=>PR a0.T.Ring fun r117=>Q ({ Ring:=r117,A:=r81.1,B:=r81.2.1,Mask:=r81.2.2,R:=AJ (((AJ (a0.R)).tmod 4)+1),C:=AJ (((AJ (a0.C)).tmod 4)+1),Room:=AJ (((AJ (a0.Room)).tmod 4)+1) }:BD)
def PE (a0:Rows) (Q:(List AC)→Prop):Prop:=
  KI a0 fun r33=>BK (fun (s:(List AC)×Int) (next429:((List AC)×Int)→Prop)=>match s with | (s423,s427)=>AR (decide (s427<r33.Rows)) (BC r33.Start s427 fun x445=>BK (fun (s:(List AC)×Int) (next563:((List AC)×Int)→Prop)=>match s with | (s558,s562)=>BC r33.Start (AJ (s427+1)) fun x579=>AR (decide (s562<x579)) (BC r33.Col s562 fun x590=>BC r33.Val s562 fun x599=>HV 24 s558 ([({ Row:=s427,Col:=x590,Val:=x599 }:AC)]) fun _=>next563 ((s558++([({ Row:=s427,Col:=x590,Val:=x599 }:AC)])),AJ (s562+1))) (next429 (s558,AJ (s427+1)))) (s423,x445)) (Q s423)) (([]:List AC),0)
def IY (a0:List AK) (a1:List AK) (Q:Bool→Prop):Prop:=
  AR ((a0.length:Int) != (a1.length:Int)) (Q false) (BK (fun (s54:Int) (next55:Int→Prop)=>AR (decide (s54<(a0.length:Int))) (BC a0 s54 fun x61=>BC a1 s54 fun x70=>AR (!(x61==x70)) (Q false) (next55 (AJ (s54+1)))) (Q true)) 0)
def TO (a0:AN) (Q:AN→Prop):Prop:=
  KQ ({ Hi:=YY .i64 (-1) a0.Hi,Lo:=YY .u64 18446744073709551615 a0.Lo }:AN) ({ Hi:=0,Lo:=1 }:AN) fun r9=>Q r9
def YO (a0:Int) (a1:Int) (Q:AN→Prop):Prop:=
  GY a0 fun r11=>EV (fun (k20:Int→Prop)=>AR (decide (a1<0)) (k20 (IntKind.wrap .u64 (0 - (IntKind.wrap .u64 (a1))))) (k20 (IntKind.wrap .u64 (a1)))) fun s19=>BK (fun (s:Int×Int×Int×Int×Int) (next147:(Int×Int×Int×Int×Int)→Prop)=>match s with | (s142,s143,s144,s145,s146)=>AR (decide (0<s144)) (AR ((s144.tmod 2)==1) (KQ ({ Hi:=s145,Lo:=s146 }:AN) ({ Hi:=s142,Lo:=s143 }:AN) fun r154=>KQ ({ Hi:=s142,Lo:=s143 }:AN) ({ Hi:=s142,Lo:=s143 }:AN) fun r158=>next147 (r158.Hi,r158.Lo,IntKind.wrap .u64 (s144.tdiv 2),r154.Hi,r154.Lo)) (KQ ({ Hi:=s142,Lo:=s143 }:AN) ({ Hi:=s142,Lo:=s143 }:AN) fun r162=>next147 (r162.Hi,r162.Lo,IntKind.wrap .u64 (s144.tdiv 2),s145,s146))) (AR (decide (a1<0)) (TO ({ Hi:=s145,Lo:=s146 }:AN) fun r167=>Q r167) (Q ({ Hi:=s145,Lo:=s146 }:AN)))) (r11.Hi,r11.Lo,s19,0,0)
def YP (a0:Int) (a1:Int) (a2:Int) (Q:AN→Prop):Prop:=
  EV (fun (k8:Bool→Prop)=>AR (decide (4611686018427387904≤a1)) (k8 true) (k8 (decide (4611686018427387904≤a2)))) fun s7=>AR (a0==1) (GY a1 fun r27=>GY a2 fun r31=>KQ r27 r31 fun r35=>AR s7 (GY 4611686018427387904 fun r42=>Q r42) (GY 4611686018427387904 fun r46=>HL r35 r46 fun r50=>AR (decide (0<r50)) (GY 4611686018427387904 fun r55=>Q r55) (Q r35))) (AR (a0==3) (AR s7 (GY 4611686018427387904 fun r61=>Q r61) (GY a1 fun r65=>Q r65)) (AR (a0==4) (AR s7 (GY 4611686018427387904 fun r71=>Q r71) (GY a2 fun r75=>Q r75)) (AR (a0==2) (AR (a1 != 0) (KD (a2 != 0) fun r81=>Q r81) (KD false fun r85=>Q r85)) (AR (a0==5) (YO a1 a2 fun r90=>Q r90) (Q ({ Hi:=0,Lo:=0 }:AN))))))
def MO (a0:Int) (a1:Rows) (a2:Rows) (a3:Rows) (Q:((List AK)×Int)→Prop):Prop:=
  KI a1 fun r93=>KI a2 fun r109=>KI a3 fun r126=>UR a0 fun r148=>AR (!r148) (Q (([]:List AK),8)) (AR (r93.Cols != r109.Rows) (Q (([]:List AK),4)) (AR (r126.Rows != r93.Rows) (Q (([]:List AK),4)) (AR (r126.Cols != r109.Cols) (Q (([]:List AK),4)) (PE r126 fun r170=>BK (fun (s:(List AK)×Int) (next1926:((List AK)×Int)→Prop)=>match s with | (s1920,s1924)=>AR (decide (s1924<(r170.length:Int))) (BC r170 s1924 fun x2380=>BC r93.Start x2380.Row fun x2389=>BK (fun (s:Int×Int×Bool×Int) (next2654:(Int×Int×Bool×Int)→Prop)=>match s with | (s2650,s2651,s2652,s2653)=>BC r170 s1924 fun x2681=>BC r93.Start (AJ (x2681.Row+1)) fun x2690=>AR (decide (s2653<x2690)) (BC r93.Col s2653 fun x2724=>BC r170 s1924 fun x2733=>RL r109 x2724 x2733.Col fun r2741=>AR (!r2741.2) (next2654 (s2650,s2651,s2652,AJ (s2653+1))) (BC r93.Val s2653 fun x2763=>YP a0 x2763 r2741.1 fun r2771=>AR s2652 (US a0 ({ Hi:=s2650,Lo:=s2651 }:AN) r2771 fun r2778=>next2654 (r2778.Hi,r2778.Lo,true,AJ (s2653+1))) (next2654 (r2771.Hi,r2771.Lo,true,AJ (s2653+1))))) (AR s2652 (BC r170 s1924 fun x2785=>BC r170 s1924 fun x2794=>HV 32 s1920 ([({ Row:=x2785.Row,Col:=x2794.Col,Val:=({ Hi:=s2650,Lo:=s2651 }:AN) }:AK)]) fun _=>next1926 ((s1920++([({ Row:=x2785.Row,Col:=x2794.Col,Val:=({ Hi:=s2650,Lo:=s2651 }:AN) }:AK)])),AJ (s1924+1))) (next1926 (s1920,AJ (s1924+1))))) (0,0,false,x2389)) (Q (s1920,0))) (([]:List AK),0)))))
def HC (a0:BD) (Q:Int→Prop):Prop:=
  GZ a0 fun r37=>AR (r37 != 0) (Q 0) (Q (AJ ((AJ ((AJ (a0.R+a0.C))*(AJ (a0.R+a0.C))))+2)))
def VY (a0:Int) (a1:Int) (Q:Rows→Prop):Prop:=
  BK (fun (s:(List AC)×Int) (next309:((List AC)×Int)→Prop)=>match s with | (s303,s307)=>AR (decide (s307<a0)) (BK (fun (s:(List AC)×Int) (next350:((List AC)×Int)→Prop)=>match s with | (s345,s349)=>AR (decide (s349<a1)) (HV 24 s345 ([({ Row:=s307,Col:=s349,Val:=1 }:AC)]) fun _=>next350 ((s345++([({ Row:=s307,Col:=s349,Val:=1 }:AC)])),AJ (s349+1))) (next309 (s345,AJ (s307+1)))) (s303,0)) (UT 1 a0 a1 s303 fun r366=>Q r366.1)) (([]:List AC),0)
def IQ (a0:Int) (a1:Int) (a2:Int) (Q:Int→Prop):Prop:=
  OJ a0 fun r1=>AR (!r1) (Q (-1)) (AR (decide (a1<0)) (Q (-1)) (AR (decide (8≤a1)) (Q (-1)) (AR (decide (a2<0)) (Q (-1)) (AR (decide (a0≤a2)) (Q (-1)) (Q (AJ ((AJ (a1*a0))+a2)))))))
def CH (o1:BD) (o2:Int) (o3:List (Nat×AA)) (o4:AA) (a0:Int) (a1:Int) (a2:Int) (a3:List AC) (Q:AA→Prop):Prop:=
  IQ o1.C o4.i o4.j fun r59=>IQ o1.C a1 a2 fun r63=>HV 136 o4.out ([({ Kind:=a0,From:=r59,To:=r63,Seq:=0,Round:=o2,Vec:=({ N:=0,Items:=([]:List CF) }:Vec),Sums:=([]:List dC),Triples:=a3,N:=0,Over:=false }:BN)]) fun _=>Q ({ i:=o4.i,j:=o4.j,mask:=o4.mask,out:=(o4.out++([({ Kind:=a0,From:=r59,To:=r63,Seq:=0,Round:=o2,Vec:=({ N:=0,Items:=([]:List CF) }:Vec),Sums:=([]:List dC),Triples:=a3,N:=0,Over:=false }:BN)])),parts:=o4.parts,at_:=o4.at_,has:=o4.has }:AA)
def FY (o0:AB) (o1:AA) (o2:List (Nat×AA)) (a0:Int) (a1:AY) (Q:AA→Prop):Prop:=
  EV (fun (k645:(Int×Int×Int×Int×(List Int)×(List Int)×(List Int)×(List BN)×(List (BB×(List AC)))×Int×(List AK))→Prop)=>AR (a1.Col==o1.j) (IK o0.p.A.Rows o0.p.R o1.i fun r678=>LW o0.p.A r678 (a1.From,a1.To) fun r682=>MK r682 fun r698=>BK (fun (s:Int×Int×Int×Int×(List Int)×(List Int)×(List Int)×(List BN)×(List (BB×(List AC)))×Int×(List AK)×Int) (next879:(Int×Int×Int×Int×(List Int)×(List Int)×(List Int)×(List BN)×(List (BB×(List AC)))×Int×(List AK)×Int)→Prop)=>match s with | (s852,s853,s854,s855,s856,s860,s864,s868,s872,s873,s874,s878)=>AR (decide (s878<o0.p.C)) (CH o0.p a0 o2 ({ i:=s852,j:=s853,mask:=({ Rows:=s854,Cols:=s855,Start:=s856,Col:=s860,Val:=s864 }:Rows),out:=s868,parts:=s872,at_:=s873,has:=s874 }:AA) 6 s852 s878 r698 fun r891=>next879 (r891.i,r891.j,r891.mask.Rows,r891.mask.Cols,r891.mask.Start,r891.mask.Col,r891.mask.Val,r891.out,r891.parts,r891.at_,r891.has,AJ (s878+1))) (k645 (s852,s853,s854,s855,s856,s860,s864,s868,s872,s873,s874))) (o1.i,o1.j,o1.mask.Rows,o1.mask.Cols,o1.mask.Start,o1.mask.Col,o1.mask.Val,o1.out,o1.parts,o1.at_,o1.has,0)) (k645 (o1.i,o1.j,o1.mask.Rows,o1.mask.Cols,o1.mask.Start,o1.mask.Col,o1.mask.Val,o1.out,o1.parts,o1.at_,o1.has))) fun (s619,s620,s621,s622,s623,s627,s631,s635,s639,s640,s641)=>AR (a1.Row==s619) (IK o0.p.B.Cols o0.p.C s620 fun r950=>LW o0.p.B (a1.From,a1.To) r950 fun r954=>MK r954 fun r971=>BK (fun (s:Int×Int×Int×Int×(List Int)×(List Int)×(List Int)×(List BN)×(List (BB×(List AC)))×Int×(List AK)×Int) (next1152:(Int×Int×Int×Int×(List Int)×(List Int)×(List Int)×(List BN)×(List (BB×(List AC)))×Int×(List AK)×Int)→Prop)=>match s with | (s1125,s1126,s1127,s1128,s1129,s1133,s1137,s1141,s1145,s1146,s1147,s1151)=>AR (decide (s1151<o0.p.R)) (CH o0.p a0 o2 ({ i:=s1125,j:=s1126,mask:=({ Rows:=s1127,Cols:=s1128,Start:=s1129,Col:=s1133,Val:=s1137 }:Rows),out:=s1141,parts:=s1145,at_:=s1146,has:=s1147 }:AA) 7 s1151 s1126 r971 fun r1164=>next1152 (r1164.i,r1164.j,r1164.mask.Rows,r1164.mask.Cols,r1164.mask.Start,r1164.mask.Col,r1164.mask.Val,r1164.out,r1164.parts,r1164.at_,r1164.has,AJ (s1151+1))) (Q ({ i:=s1125,j:=s1126,mask:=({ Rows:=s1127,Cols:=s1128,Start:=s1129,Col:=s1133,Val:=s1137 }:Rows),out:=s1141,parts:=s1145,at_:=s1146,has:=s1147 }:AA))) (s619,s620,s621,s622,s623,s627,s631,s635,s639,s640,s641,0)) (Q ({ i:=s619,j:=s620,mask:=({ Rows:=s621,Cols:=s622,Start:=s623,Col:=s627,Val:=s631 }:Rows),out:=s635,parts:=s639,at_:=s640,has:=s641 }:AA))
def EM (o0:List (Nat×AA)) (o1:List (Nat×AF)) (a0:BD) (Q0:(Int×(List (Nat×AA)))→Prop) (Q1:(Int×(List (Nat×AA))×AB)→Prop):Prop:=
  GZ a0 fun r39=>AR (r39 != 0) (Q0 (r39,o0)) (LH a0.A.Cols a0.R a0.C fun r59=>BK (fun (s:(List (Option Nat))×Int×(List (Nat×AA))) (next1279:((List (Option Nat))×Int×(List (Nat×AA)))→Prop)=>match s with | (s1272,s1276,s1277)=>AR (decide (s1276<(AJ (a0.R*a0.C)))) (UU a0.C s1276 fun r1293=>XM a0.C s1276 fun r1297=>RJ a0.Mask a0.R a0.C r1293 r1297 fun r1323=>BK (fun (s:Int×Int×Int×Int×(List Int)×(List Int)×(List Int)×(List BN)×(List (BB×(List AC)))×Int×(List AK)×Int) (next1790:(Int×Int×Int×Int×(List Int)×(List Int)×(List Int)×(List BN)×(List (BB×(List AC)))×Int×(List AK)×Int)→Prop)=>match s with | (s1761,s1762,s1763,s1764,s1765,s1769,s1773,s1777,s1781,s1782,s1783,s1787)=>AR (decide (s1787<(r59.length:Int))) (BC r59 s1787 fun x1798=>FY ({ p:=a0,stages:=r59,workers:=s1272,boxes:=([]:List ((Int×Int)×(Option Nat))) }:AB) ({ i:=s1761,j:=s1762,mask:=({ Rows:=s1763,Cols:=s1764,Start:=s1765,Col:=s1769,Val:=s1773 }:Rows),out:=s1777,parts:=s1781,at_:=s1782,has:=s1783 }:AA) s1277 s1787 x1798 fun r1814=>next1790 (r1814.i,r1814.j,r1814.mask.Rows,r1814.mask.Cols,r1814.mask.Start,r1814.mask.Col,r1814.mask.Val,r1814.out,r1814.parts,r1814.at_,r1814.has,AJ (s1787+1))) (Ae5 s1277 fun b1343=>HV 8 s1272 ([(some b1343)]) fun _=>next1279 ((s1272++([(some b1343)])),AJ (s1276+1),((b1343,({ i:=s1761,j:=s1762,mask:=({ Rows:=s1763,Cols:=s1764,Start:=s1765,Col:=s1769,Val:=s1773 }:Rows),out:=s1777,parts:=s1781,at_:=s1782,has:=s1783 }:AA)) :: s1277)))) (r1293,r1297,r1323.Rows,r1323.Cols,r1323.Start,r1323.Col,r1323.Val,([]:List BN),([]:List (BB×(List AC))),0,([]:List AK),0)) (Q1 (0,s1277,({ p:=a0,stages:=r59,workers:=s1272,boxes:=([]:List ((Int×Int)×(Option Nat))) }:AB)))) (([]:List (Option Nat)),0,o0))
def QD (a0:FU) (Q:Bool→Prop):Prop:=
  SB a0 fun r3=>Q (!r3)
def DL (a0:List FU) (Q:Int→Prop):Prop:=
  BK (fun (s45:Int) (next46:Int→Prop)=>AR (decide (s45<(a0.length:Int))) (BC a0 s45 fun x52=>QD x52 fun r66=>AR r66 (Q s45) (next46 (AJ (s45+1)))) (Q (-1))) 0
def BW (a0:List FU) (Q:Bool→Prop):Prop:=
  DL a0 fun r10=>Q (decide (0≤r10))
def KJ (o0:List (Nat×AA)) (o1:List (Nat×AF)) (a0:FU) (Q:Bool→Prop):Prop:=
  Q false
def FL (o0:List (Nat×AA)) (Q:Bool→Prop):Prop:=
  Q false
def LI (o0:List (Nat×AA)) (o1:List (Nat×AF))  : Prop:=
  False
def DX (o0:List (Nat×AA)) (Q:(Rows×Int)→Prop):Prop:=
  Q (({ Rows:=0,Cols:=0,Start:=([]:List Int),Col:=([]:List Int),Val:=([]:List Int) }:Rows),10)
def DG (o0:AB) (o1:List (Nat×AA)) (a0:Int) (Q:Bool→Prop):Prop:=
  AR (decide (0≤a0)) (Q (decide (a0<(o0.workers.length:Int)))) (Q false)
def EQ (o0:AB) (o1:List (Nat×AA)) (a0:Int) (Q:Int→Prop):Prop:=
  DG o0 o1 a0 fun r53=>AR (!r53) (Q 0) (BC o0.workers a0 fun x56=>FX o1 x56 fun b64 x65=>Q (x65.out.length:Int))
def QV (a0:Int) (Q0:Int→Prop) (Q1:(Int×AF)→Prop):Prop:=
  AR (decide (a0<1)) (Q0 3) (AR (decide (64<a0)) (Q0 3) (Q1 (0,({ room:=a0,row:=([]:List Int),by_:=([]:List (Int×BN)),often:=([]:List (Int×Int)),sent:=0,taken:=0 }:AF))))
def CC (o0:AB) (o1:List (Nat×AA)) (o2:List (Nat×AF)) (a0:Int) (a1:Int) (Q0:(AB×(List (Nat×AF)))→Prop) (Q1:((Option Nat)×AB×(List (Nat×AF)))→Prop):Prop:=
  DG o0 o1 a0 fun r63=>AR (!r63) (Q0 (o0,o2)) (DG o0 o1 a1 fun r71=>AR (!r71) (Q0 (o0,o2)) (wG o0.boxes (a0,a1) none fun r84=>AR r84.isNone (QV o0.p.Room (fun r97=>wG (EY (a0,a1) none o0.boxes) (a0,a1) none fun r110=>Q1 (r110,({ p:=o0.p,stages:=o0.stages,workers:=o0.workers,boxes:=(EY (a0,a1) none o0.boxes) }:AB),o2)) (fun r98=>Ae5 o2 fun b100=>wG (EY (a0,a1) (some b100) o0.boxes) (a0,a1) none fun r118=>Q1 (r118,({ p:=o0.p,stages:=o0.stages,workers:=o0.workers,boxes:=(EY (a0,a1) (some b100) o0.boxes) }:AB),((b100,r98.2) :: o2)))) (wG o0.boxes (a0,a1) none fun r124=>Q1 (r124,o0,o2))))
def NG (a0:BN) (Q:Int→Prop):Prop:=
  Q 10
def HD (o0:AF) (Q:Bool→Prop):Prop:=
  Q (decide (o0.room≤(o0.row.length:Int)))
def HY (o0:AF) (a0:Int) (Q:AF→Prop):Prop:=
  HV 8 o0.row ([a0]) fun _=>wG o0.often a0 0 fun r17=>Q ({ room:=o0.room,row:=(o0.row++([a0])),by_:=o0.by_,often:=(EY a0 (AJ (r17+1)) o0.often),sent:=o0.sent,taken:=o0.taken }:AF)
def JQ (o0:AF) (a0:BN) (Q:(Int×AF)→Prop):Prop:=
  HD o0 fun r38=>AR r38 (Q (9,o0)) (XO a0 fun r57=>HY ({ room:=o0.room,row:=o0.row,by_:=(EY o0.sent ({ Kind:=r57.Kind,From:=r57.From,To:=r57.To,Seq:=o0.sent,Round:=r57.Round,Vec:=r57.Vec,Sums:=r57.Sums,Triples:=r57.Triples,N:=r57.N,Over:=r57.Over }:BN) o0.by_),often:=o0.often,sent:=o0.sent,taken:=o0.taken }:AF) o0.sent fun r98=>Q (0,({ room:=r98.room,row:=r98.row,by_:=r98.by_,often:=r98.often,sent:=AJ (r98.sent+1),taken:=r98.taken }:AF)))
def ON (o0:List (Nat×AF)) (a0:Option Nat) (a1:BN) (Q:(Int×(List (Nat×AF)))→Prop):Prop:=
  mI a0 (NG a1 fun rr=>Q (rr,o0)) fun b=>pF o0 b fun x=>JQ x a1 fun rr=>Q (rr.1,(b,rr.2) :: CK b o0)
def CY (o0:AB) (o1:List (Nat×AA)) (o2:List (Nat×AF)) (a0:Int) (Q:(Bool×AB×(List (Nat×AA))×(List (Nat×AF)))→Prop):Prop:=
  EQ o0 o1 a0 fun r54=>AR (r54==0) (Q (false,o0,o1,o2)) (BC o0.workers a0 fun x66=>EV (fun (k457:(Int×Int×Int×(List Int)×(List Int)×(List Int)×Int×Int×(List Int)×(List Int)×(List Int)×Int×Int×(List Int)×(List Int)×(List Int)×Int×Int×Int×(List AY)×(List (Option Nat))×(List ((Int×Int)×(Option Nat)))×(Option Nat)×(List (Nat×AF)))→Prop)=>FX o1 x66 fun b458 x459=>BC x459.out 0 fun x481=>BC x459.out 0 fun x499=>CC o0 (CK b458 o1) o2 a0 x481.To (fun r522=>NG x499 fun r607=>AR (r607 != 0) (Q (false,r522.1,o1,r522.2)) (k457 (r522.1.p.Ring,r522.1.p.A.Rows,r522.1.p.A.Cols,r522.1.p.A.Start,r522.1.p.A.Col,r522.1.p.A.Val,r522.1.p.B.Rows,r522.1.p.B.Cols,r522.1.p.B.Start,r522.1.p.B.Col,r522.1.p.B.Val,r522.1.p.Mask.Rows,r522.1.p.Mask.Cols,r522.1.p.Mask.Start,r522.1.p.Mask.Col,r522.1.p.Mask.Val,r522.1.p.R,r522.1.p.C,r522.1.p.Room,r522.1.stages,r522.1.workers,r522.1.boxes,(some b458),r522.2))) (fun r561=>ON r561.2.2 r561.1 x499 fun r618=>AR (r618.1 != 0) (Q (false,r561.2.1,o1,r618.2)) (k457 (r561.2.1.p.Ring,r561.2.1.p.A.Rows,r561.2.1.p.A.Cols,r561.2.1.p.A.Start,r561.2.1.p.A.Col,r561.2.1.p.A.Val,r561.2.1.p.B.Rows,r561.2.1.p.B.Cols,r561.2.1.p.B.Start,r561.2.1.p.B.Col,r561.2.1.p.B.Val,r561.2.1.p.Mask.Rows,r561.2.1.p.Mask.Cols,r561.2.1.p.Mask.Start,r561.2.1.p.Mask.Col,r561.2.1.p.Mask.Val,r561.2.1.p.R,r561.2.1.p.C,r561.2.1.p.Room,r561.2.1.stages,r561.2.1.workers,r561.2.1.boxes,(some b458),r618.2)))) fun (s400,s401,s402,s403,s407,s411,s415,s416,s417,s421,s425,s429,s430,s431,s435,s439,s443,s444,s445,s446,s450,s454,s455,s456)=>FX o1 s455 fun b626 x627=>slP x627.out 1 (x627.out.length:Int) fun _=>Q (true,({ p:=({ Ring:=s400,A:=({ Rows:=s401,Cols:=s402,Start:=s403,Col:=s407,Val:=s411 }:Rows),B:=({ Rows:=s415,Cols:=s416,Start:=s417,Col:=s421,Val:=s425 }:Rows),Mask:=({ Rows:=s429,Cols:=s430,Start:=s431,Col:=s435,Val:=s439 }:Rows),R:=s443,C:=s444,Room:=s445 }:BD),stages:=s446,workers:=s450,boxes:=s454 }:AB),((b626,({ i:=x627.i,j:=x627.j,mask:=x627.mask,out:=((x627.out.take (x627.out.length:Int).toNat).drop (Int.toNat 1)),parts:=x627.parts,at_:=x627.at_,has:=x627.has }:AA)) :: (CK b626 o1)),s456))
def FS (a0:Int) (Q:Int→Prop):Prop:=
  Q 10
def JR (a0:Int) (Q:(BN×Bool×Int)→Prop):Prop:=
  FS a0 fun r33=>AR (r33 != 0) (Q (({ Kind:=0,From:=0,To:=0,Seq:=0,Round:=0,Vec:=({ N:=0,Items:=([]:List CF) }:Vec),Sums:=([]:List dC),Triples:=([]:List AC),N:=0,Over:=false }:BN),false,r33)) (False)
def GS (o0:AF) (a0:Int) (Q:Int→Prop):Prop:=
  AR (decide (a0<0)) (Q 3) (AR (decide ((o0.row.length:Int)≤a0)) (Q 3) (Q 0))
def DR (o0:List Int) (a0:Int) (a1:Int) (Q:(List Int)→Prop):Prop:=
  slP o0 a0 a1 fun _=>AR (a0==a1) (Q o0) (slP o0 0 a0 fun _=>slP o0 a1 (o0.length:Int) fun _=>Q (o0.take a0.toNat++o0.drop a1.toNat))
def KT (o0:AF) (a0:Int) (Q:(BN×AF)→Prop):Prop:=
  BC o0.row a0 fun x21=>wG o0.by_ x21 ({ Kind:=0,From:=0,To:=0,Seq:=0,Round:=0,Vec:=({ N:=0,Items:=([]:List CF) }:Vec),Sums:=([]:List dC),Triples:=([]:List AC),N:=0,Over:=false }:BN) fun r42=>DR o0.row a0 (AJ (a0+1)) fun r75=>wG o0.often x21 0 fun r85=>wG (EY x21 (AJ (r85 - 1)) o0.often) x21 0 fun r97=>AR (r97==0) (Q (r42,({ room:=o0.room,row:=r75,by_:=(CK x21 o0.by_),often:=(CK x21 (EY x21 (AJ (r85 - 1)) o0.often)),sent:=o0.sent,taken:=o0.taken }:AF))) (Q (r42,({ room:=o0.room,row:=r75,by_:=o0.by_,often:=(EY x21 (AJ (r85 - 1)) o0.often),sent:=o0.sent,taken:=o0.taken }:AF)))
def JS (o0:AF) (a0:Int) (Q:(BN×Bool×Int×AF)→Prop):Prop:=
  GS o0 a0 fun r50=>AR (r50 != 0) (Q (({ Kind:=0,From:=0,To:=0,Seq:=0,Round:=0,Vec:=({ N:=0,Items:=([]:List CF) }:Vec),Sums:=([]:List dC),Triples:=([]:List AC),N:=0,Over:=false }:BN),false,r50,o0)) (BC o0.row a0 fun x54=>AR (decide (o0.taken<x54)) (Q (({ Kind:=0,From:=0,To:=0,Seq:=0,Round:=0,Vec:=({ N:=0,Items:=([]:List CF) }:Vec),Sums:=([]:List dC),Triples:=([]:List AC),N:=0,Over:=false }:BN),false,r50,o0)) (KT o0 a0 fun r94=>AR (decide (r94.1.Seq<r94.2.taken)) (Q (({ Kind:=0,From:=0,To:=0,Seq:=0,Round:=0,Vec:=({ N:=0,Items:=([]:List CF) }:Vec),Sums:=([]:List dC),Triples:=([]:List AC),N:=0,Over:=false }:BN),false,0,r94.2)) (XO r94.1 fun r119=>Q (r119,true,0,({ room:=r94.2.room,row:=r94.2.row,by_:=r94.2.by_,often:=r94.2.often,sent:=r94.2.sent,taken:=AJ (r94.2.taken+1) }:AF)))))
def OO (o0:List (Nat×AF)) (a0:Option Nat) (a1:Int) (Q:(BN×Bool×Int×(List (Nat×AF)))→Prop):Prop:=
  mI a0 (JR a1 fun rr=>Q (rr.1,rr.2.1,rr.2.2,o0)) fun b=>pF o0 b fun x=>JS x a1 fun rr=>Q (rr.1,rr.2.1,rr.2.2.1,(b,rr.2.2.2) :: CK b o0)
def CW (o0:AB) (o1:List (Nat×AA)) (a0:Option Nat) (Q:(Bool×(List (Nat×AA)))→Prop):Prop:=
  FX o1 a0 fun b62 x63=>AR (decide ((o0.stages.length:Int)≤x63.at_)) (Q (false,o1)) (FX o1 (some b62) fun _ x112=>FX o1 (some b62) fun _ x169=>mC x169.parts ({ kind:=6,stage:=x112.at_ }:BB) ([]:List AC) fun r190 t195=>FX o1 (some b62) fun _ x231=>mC x231.parts ({ kind:=7,stage:=x112.at_ }:BB) ([]:List AC) fun r252 t257=>AR (!t195) (Q (false,o1)) (AR (!t257) (Q (false,o1)) (FX o1 (some b62) fun _ x306=>BC o0.stages x306.at_ fun x328=>BC o0.stages x306.at_ fun x337=>FX o1 (some b62) fun _ x386=>SF o0.p.Ring x386.mask.Rows (AJ (x328.To - x337.From)) r190 fun r408=>FX o1 (some b62) fun _ x467=>SF o0.p.Ring (AJ (x328.To - x337.From)) x467.mask.Cols r252 fun r489=>FX o1 (some b62) fun _ x541=>SG o0.p.Ring r408.1 r489.1 x541.mask fun r562=>FX o1 (some b62) fun _ x613=>OM o0.p.Ring ([x613.has,r562.1]:List (List AK)) fun r640=>FX ((b62,({ i:=x613.i,j:=x613.j,mask:=x613.mask,out:=x613.out,parts:=x613.parts,at_:=x613.at_,has:=r640.1 }:AA)) :: (CK b62 o1)) (some b62) fun _ x674=>FX ((b62,({ i:=x674.i,j:=x674.j,mask:=x674.mask,out:=x674.out,parts:=(CK ({ kind:=6,stage:=x112.at_ }:BB) x674.parts),at_:=x674.at_,has:=x674.has }:AA)) :: (CK b62 ((b62,({ i:=x613.i,j:=x613.j,mask:=x613.mask,out:=x613.out,parts:=x613.parts,at_:=x613.at_,has:=r640.1 }:AA)) :: (CK b62 o1)))) (some b62) fun _ x718=>FX ((b62,({ i:=x718.i,j:=x718.j,mask:=x718.mask,out:=x718.out,parts:=(CK ({ kind:=7,stage:=x112.at_ }:BB) x718.parts),at_:=x718.at_,has:=x718.has }:AA)) :: (CK b62 ((b62,({ i:=x674.i,j:=x674.j,mask:=x674.mask,out:=x674.out,parts:=(CK ({ kind:=6,stage:=x112.at_ }:BB) x674.parts),at_:=x674.at_,has:=x674.has }:AA)) :: (CK b62 ((b62,({ i:=x613.i,j:=x613.j,mask:=x613.mask,out:=x613.out,parts:=x613.parts,at_:=x613.at_,has:=r640.1 }:AA)) :: (CK b62 o1)))))) (some b62) fun _ x740=>Q (true,((b62,({ i:=x740.i,j:=x740.j,mask:=x740.mask,out:=x740.out,parts:=x740.parts,at_:=AJ (x740.at_+1),has:=x740.has }:AA)) :: (CK b62 ((b62,({ i:=x718.i,j:=x718.j,mask:=x718.mask,out:=x718.out,parts:=(CK ({ kind:=7,stage:=x112.at_ }:BB) x718.parts),at_:=x718.at_,has:=x718.has }:AA)) :: (CK b62 ((b62,({ i:=x674.i,j:=x674.j,mask:=x674.mask,out:=x674.out,parts:=(CK ({ kind:=6,stage:=x112.at_ }:BB) x674.parts),at_:=x674.at_,has:=x674.has }:AA)) :: (CK b62 ((b62,({ i:=x613.i,j:=x613.j,mask:=x613.mask,out:=x613.out,parts:=x613.parts,at_:=x613.at_,has:=r640.1 }:AA)) :: (CK b62 o1))))))))))))
def CZ (o0:AB) (o1:List (Nat×AA)) (o2:List (Nat×AF)) (a0:Int) (a1:Int) (a2:Int) (Q:(Bool×AB×(List (Nat×AA))×(List (Nat×AF)))→Prop):Prop:=
  CC o0 o1 o2 a0 a1 (fun r292=>JR a2 fun r376=>AR (!r376.2.1) (Q (false,r292.1,o1,r292.2)) (BC r292.1.workers a1 fun x401=>FX o1 x401 fun b431 x432=>BK (fun (s476:(List (Nat×AA))) (next477:(List (Nat×AA))→Prop)=>CW r292.1 s476 (some b431) fun r487=>AR r487.1 (next477 r487.2) (Q (true,r292.1,r487.2,r292.2))) ((b431,({ i:=x432.i,j:=x432.j,mask:=x432.mask,out:=x432.out,parts:=(EY ({ kind:=r376.1.Kind,stage:=r376.1.Round }:BB) r376.1.Triples x432.parts),at_:=x432.at_,has:=x432.has }:AA)) :: (CK b431 o1)))) (fun r331=>OO r331.2.2 r331.1 a2 fun r498=>AR (!r498.2.1) (Q (false,r331.2.1,o1,r498.2.2.2)) (BC r331.2.1.workers a1 fun x524=>FX o1 x524 fun b554 x555=>BK (fun (s599:(List (Nat×AA))) (next600:(List (Nat×AA))→Prop)=>CW r331.2.1 s599 (some b554) fun r610=>AR r610.1 (next600 r610.2) (Q (true,r331.2.1,r610.2,r498.2.2.2))) ((b554,({ i:=x555.i,j:=x555.j,mask:=x555.mask,out:=x555.out,parts:=(EY ({ kind:=r498.1.Kind,stage:=r498.1.Round }:BB) r498.1.Triples x555.parts),at_:=x555.at_,has:=x555.has }:AA)) :: (CK b554 o1))))
def TP   : Prop:=
  False
def HS (a0:Int) (Q:Int→Prop):Prop:=
  FS a0 fun r15=>AR (r15 != 0) (Q r15) (TP )
def HT (o0:AF) (a0:Int) (Q:(Int×AF)→Prop):Prop:=
  GS o0 a0 fun r25=>AR (r25 != 0) (Q (r25,o0)) (HD o0 fun r42=>AR r42 (Q (9,o0)) (BC o0.row a0 fun x46=>HY o0 x46 fun r56=>Q (0,r56)))
def MF (o0:List (Nat×AF)) (a0:Option Nat) (a1:Int) (Q:(Int×(List (Nat×AF)))→Prop):Prop:=
  mI a0 (HS a1 fun rr=>Q (rr,o0)) fun b=>pF o0 b fun x=>HT x a1 fun rr=>Q (rr.1,(b,rr.2) :: CK b o0)
def JT (a0:Int) (Q:Int→Prop):Prop:=
  FS a0 fun r15=>AR (r15 != 0) (Q r15) (False)
def JU (o0:AF) (a0:Int) (Q:(Int×AF)→Prop):Prop:=
  GS o0 a0 fun r25=>AR (r25 != 0) (Q (r25,o0)) (BC o0.row a0 fun x33=>DR o0.row a0 (AJ (a0+1)) fun r43=>HV 8 r43 ([x33]) fun _=>Q (0,({ room:=o0.room,row:=(r43++([x33])),by_:=o0.by_,often:=o0.often,sent:=o0.sent,taken:=o0.taken }:AF)))
def OP (o0:List (Nat×AF)) (a0:Option Nat) (a1:Int) (Q:(Int×(List (Nat×AF)))→Prop):Prop:=
  mI a0 (JT a1 fun rr=>Q (rr,o0)) fun b=>pF o0 b fun x=>JU x a1 fun rr=>Q (rr.1,(b,rr.2) :: CK b o0)
def HZ (o0:AF) (Q:Int→Prop):Prop:=
  Q (o0.row.length:Int)
def IA  (Q:Int→Prop):Prop:=
  Q 0
def EX (o0:List (Nat×AF)) (a0:Option Nat) (Q:Int→Prop):Prop:=
  mI a0 (IA  fun rr=>Q rr) fun b=>pF o0 b fun x=>HZ x  fun rr=>Q rr
def JI (o0:Int) (a0:Int) (Q:Bool→Prop):Prop:=
  Q (a0==o0)
def EA (o0:List Int) (o1:Int) (Q:Int→Prop):Prop:=
  BK (fun (s39:Int) (next40:Int→Prop)=>AR (decide (s39<(o0.length:Int))) (BC o0 s39 fun x46=>JI o1 x46 fun r56=>AR r56 (Q s39) (next40 (AJ (s39+1)))) (Q (-1))) 0
def HU (o0:AF) (Q:Int→Prop):Prop:=
  HZ o0 fun r25=>AR (r25==0) (Q (-1)) (IM o0.row fun r27=>EA o0.row r27 fun r39=>Q r39)
def QH  (Q:Int→Prop):Prop:=
  IA  fun r15=>AR (r15==0) (Q (-1)) (False)
def IR (o0:List (Nat×AF)) (a0:Option Nat) (Q:Int→Prop):Prop:=
  mI a0 (QH  fun rr=>Q rr) fun b=>pF o0 b fun x=>HU x  fun rr=>Q rr
def DY (o0:AB) (o1:List (Nat×AA)) (o2:List (Nat×AF)) (Q:(Bool×AB×(List (Nat×AA))×(List (Nat×AF)))→Prop):Prop:=
  BK (fun (s:Int×Int×Int×(List Int)×(List Int)×(List Int)×Int×Int×(List Int)×(List Int)×(List Int)×Int×Int×(List Int)×(List Int)×(List Int)×Int×Int×Int×(List AY)×(List (Option Nat))×(List ((Int×Int)×(Option Nat)))×Bool×Int×(List (Nat×AA))×(List (Nat×AF))) (next761:(Int×Int×Int×(List Int)×(List Int)×(List Int)×Int×Int×(List Int)×(List Int)×(List Int)×Int×Int×(List Int)×(List Int)×(List Int)×Int×Int×Int×(List AY)×(List (Option Nat))×(List ((Int×Int)×(Option Nat)))×Bool×Int×(List (Nat×AA))×(List (Nat×AF)))→Prop)=>match s with | (s702,s703,s704,s705,s709,s713,s717,s718,s719,s723,s727,s731,s732,s733,s737,s741,s745,s746,s747,s748,s752,s756,s757,s758,s759,s760)=>AR (decide (s758<(o0.workers.length:Int))) (CY ({ p:=({ Ring:=s702,A:=({ Rows:=s703,Cols:=s704,Start:=s705,Col:=s709,Val:=s713 }:Rows),B:=({ Rows:=s717,Cols:=s718,Start:=s719,Col:=s723,Val:=s727 }:Rows),Mask:=({ Rows:=s731,Cols:=s732,Start:=s733,Col:=s737,Val:=s741 }:Rows),R:=s745,C:=s746,Room:=s747 }:BD),stages:=s748,workers:=s752,boxes:=s756 }:AB) s759 s760 s758 fun r772=>AR r772.1 (next761 (r772.2.1.p.Ring,r772.2.1.p.A.Rows,r772.2.1.p.A.Cols,r772.2.1.p.A.Start,r772.2.1.p.A.Col,r772.2.1.p.A.Val,r772.2.1.p.B.Rows,r772.2.1.p.B.Cols,r772.2.1.p.B.Start,r772.2.1.p.B.Col,r772.2.1.p.B.Val,r772.2.1.p.Mask.Rows,r772.2.1.p.Mask.Cols,r772.2.1.p.Mask.Start,r772.2.1.p.Mask.Col,r772.2.1.p.Mask.Val,r772.2.1.p.R,r772.2.1.p.C,r772.2.1.p.Room,r772.2.1.stages,r772.2.1.workers,r772.2.1.boxes,true,AJ (s758+1),r772.2.2.1,r772.2.2.2)) (next761 (r772.2.1.p.Ring,r772.2.1.p.A.Rows,r772.2.1.p.A.Cols,r772.2.1.p.A.Start,r772.2.1.p.A.Col,r772.2.1.p.A.Val,r772.2.1.p.B.Rows,r772.2.1.p.B.Cols,r772.2.1.p.B.Start,r772.2.1.p.B.Col,r772.2.1.p.B.Val,r772.2.1.p.Mask.Rows,r772.2.1.p.Mask.Cols,r772.2.1.p.Mask.Start,r772.2.1.p.Mask.Col,r772.2.1.p.Mask.Val,r772.2.1.p.R,r772.2.1.p.C,r772.2.1.p.Room,r772.2.1.stages,r772.2.1.workers,r772.2.1.boxes,s757,AJ (s758+1),r772.2.2.1,r772.2.2.2))) (BK (fun (s:Int×Int×Int×(List Int)×(List Int)×(List Int)×Int×Int×(List Int)×(List Int)×(List Int)×Int×Int×(List Int)×(List Int)×(List Int)×Int×Int×Int×(List AY)×(List (Option Nat))×(List ((Int×Int)×(Option Nat)))×Bool×Int×(List (Nat×AA))×(List (Nat×AF))) (next2118:(Int×Int×Int×(List Int)×(List Int)×(List Int)×Int×Int×(List Int)×(List Int)×(List Int)×Int×Int×(List Int)×(List Int)×(List Int)×Int×Int×Int×(List AY)×(List (Option Nat))×(List ((Int×Int)×(Option Nat)))×Bool×Int×(List (Nat×AA))×(List (Nat×AF)))→Prop)=>match s with | (s2059,s2060,s2061,s2062,s2066,s2070,s2074,s2075,s2076,s2080,s2084,s2088,s2089,s2090,s2094,s2098,s2102,s2103,s2104,s2105,s2109,s2113,s2114,s2115,s2116,s2117)=>AR (decide (s2115<(s752.length:Int))) (BK (fun (s:Int×Int×Int×(List Int)×(List Int)×(List Int)×Int×Int×(List Int)×(List Int)×(List Int)×Int×Int×(List Int)×(List Int)×(List Int)×Int×Int×Int×(List AY)×(List (Option Nat))×(List ((Int×Int)×(Option Nat)))×Bool×Int×(List (Nat×AA))×(List (Nat×AF))) (next2564:(Int×Int×Int×(List Int)×(List Int)×(List Int)×Int×Int×(List Int)×(List Int)×(List Int)×Int×Int×(List Int)×(List Int)×(List Int)×Int×Int×Int×(List AY)×(List (Option Nat))×(List ((Int×Int)×(Option Nat)))×Bool×Int×(List (Nat×AA))×(List (Nat×AF)))→Prop)=>match s with | (s2505,s2506,s2507,s2508,s2512,s2516,s2520,s2521,s2522,s2526,s2530,s2534,s2535,s2536,s2540,s2544,s2548,s2549,s2550,s2551,s2555,s2559,s2560,s2561,s2562,s2563)=>AR (decide (s2561<(s2109.length:Int))) (wG s2559 (s2115,s2561) none fun r2577=>EX s2563 r2577 fun r2599=>IR s2563 r2577 fun r2609=>CZ ({ p:=({ Ring:=s2505,A:=({ Rows:=s2506,Cols:=s2507,Start:=s2508,Col:=s2512,Val:=s2516 }:Rows),B:=({ Rows:=s2520,Cols:=s2521,Start:=s2522,Col:=s2526,Val:=s2530 }:Rows),Mask:=({ Rows:=s2534,Cols:=s2535,Start:=s2536,Col:=s2540,Val:=s2544 }:Rows),R:=s2548,C:=s2549,Room:=s2550 }:BD),stages:=s2551,workers:=s2555,boxes:=s2559 }:AB) s2562 s2563 s2115 s2561 r2609 fun r2619=>AR s2560 (next2564 (r2619.2.1.p.Ring,r2619.2.1.p.A.Rows,r2619.2.1.p.A.Cols,r2619.2.1.p.A.Start,r2619.2.1.p.A.Col,r2619.2.1.p.A.Val,r2619.2.1.p.B.Rows,r2619.2.1.p.B.Cols,r2619.2.1.p.B.Start,r2619.2.1.p.B.Col,r2619.2.1.p.B.Val,r2619.2.1.p.Mask.Rows,r2619.2.1.p.Mask.Cols,r2619.2.1.p.Mask.Start,r2619.2.1.p.Mask.Col,r2619.2.1.p.Mask.Val,r2619.2.1.p.R,r2619.2.1.p.C,r2619.2.1.p.Room,r2619.2.1.stages,r2619.2.1.workers,r2619.2.1.boxes,true,AJ (s2561+1),r2619.2.2.1,r2619.2.2.2)) (EX r2619.2.2.2 r2577 fun r2669=>next2564 (r2619.2.1.p.Ring,r2619.2.1.p.A.Rows,r2619.2.1.p.A.Cols,r2619.2.1.p.A.Start,r2619.2.1.p.A.Col,r2619.2.1.p.A.Val,r2619.2.1.p.B.Rows,r2619.2.1.p.B.Cols,r2619.2.1.p.B.Start,r2619.2.1.p.B.Col,r2619.2.1.p.B.Val,r2619.2.1.p.Mask.Rows,r2619.2.1.p.Mask.Cols,r2619.2.1.p.Mask.Start,r2619.2.1.p.Mask.Col,r2619.2.1.p.Mask.Val,r2619.2.1.p.R,r2619.2.1.p.C,r2619.2.1.p.Room,r2619.2.1.stages,r2619.2.1.workers,r2619.2.1.boxes,decide (r2669<r2599),AJ (s2561+1),r2619.2.2.1,r2619.2.2.2))) (next2118 (s2505,s2506,s2507,s2508,s2512,s2516,s2520,s2521,s2522,s2526,s2530,s2534,s2535,s2536,s2540,s2544,s2548,s2549,s2550,s2551,s2555,s2559,s2560,AJ (s2115+1),s2562,s2563))) (s2059,s2060,s2061,s2062,s2066,s2070,s2074,s2075,s2076,s2080,s2084,s2088,s2089,s2090,s2094,s2098,s2102,s2103,s2104,s2105,s2109,s2113,s2114,0,s2116,s2117)) (Q (s2114,({ p:=({ Ring:=s2059,A:=({ Rows:=s2060,Cols:=s2061,Start:=s2062,Col:=s2066,Val:=s2070 }:Rows),B:=({ Rows:=s2074,Cols:=s2075,Start:=s2076,Col:=s2080,Val:=s2084 }:Rows),Mask:=({ Rows:=s2088,Cols:=s2089,Start:=s2090,Col:=s2094,Val:=s2098 }:Rows),R:=s2102,C:=s2103,Room:=s2104 }:BD),stages:=s2105,workers:=s2109,boxes:=s2113 }:AB),s2116,s2117))) (s702,s703,s704,s705,s709,s713,s717,s718,s719,s723,s727,s731,s732,s733,s737,s741,s745,s746,s747,s748,s752,s756,s757,0,s759,s760))) (o0.p.Ring,o0.p.A.Rows,o0.p.A.Cols,o0.p.A.Start,o0.p.A.Col,o0.p.A.Val,o0.p.B.Rows,o0.p.B.Cols,o0.p.B.Start,o0.p.B.Col,o0.p.B.Val,o0.p.Mask.Rows,o0.p.Mask.Cols,o0.p.Mask.Start,o0.p.Mask.Col,o0.p.Mask.Val,o0.p.R,o0.p.C,o0.p.Room,o0.stages,o0.workers,o0.boxes,false,0,o1,o2)
def DM (o0:AB) (o1:List (Nat×AA)) (o2:List (Nat×AF)) (a0:FU) (Q:(Bool×AB×(List (Nat×AA))×(List (Nat×AF)))→Prop):Prop:=
  SB a0 fun r49=>AR (!r49) (Q (false,o0,o1,o2)) (AR (a0.Kind==1) (CY o0 o1 o2 a0.A fun r61=>Q (r61.1,r61.2.1,r61.2.2.1,r61.2.2.2)) (AR (a0.Kind==2) (CZ o0 o1 o2 a0.A a0.B a0.K fun r108=>Q (r108.1,r108.2.1,r108.2.2.1,r108.2.2.2)) (AR (a0.Kind==3) (CC o0 o1 o2 a0.A a0.B (fun r155=>HS a0.K fun r239=>Q (r239==0,r155.1,o1,r155.2)) (fun r194=>MF r194.2.2 r194.1 a0.K fun r247=>Q (r247.1==0,r194.2.1,o1,r247.2))) (AR (a0.Kind==4) (CC o0 o1 o2 a0.A a0.B (fun r257=>JT a0.K fun r341=>Q (r341==0,r257.1,o1,r257.2)) (fun r296=>OP r296.2.2 r296.1 a0.K fun r349=>Q (r349.1==0,r296.2.1,o1,r349.2))) (DY o0 o1 o2 fun r358=>Q (r358.1,r358.2.1,r358.2.2.1,r358.2.2.2))))))
def GL (o1:List (Nat×AA)) (o2:AB) (a0:Option Nat) (Q:Bool→Prop):Prop:=
  FX o1 a0 fun b41 x42=>Q (decide (x42.at_<(o2.stages.length:Int)))
def CO (o1:List (Nat×AA)) (o2:AB) (a0:List (Option Nat)) (Q:Int→Prop):Prop:=
  BK (fun (s85:Int) (next86:Int→Prop)=>AR (decide (s85<(a0.length:Int))) (BC a0 s85 fun x92=>GL o1 o2 x92 fun r106=>AR r106 (Q s85) (next86 (AJ (s85+1)))) (Q (-1))) 0
def CM (o1:List (Nat×AA)) (o2:AB) (a0:List (Option Nat)) (Q:Bool→Prop):Prop:=
  CO o1 o2 a0 fun r50=>Q (decide (0≤r50))
def CB (o0:AB) (o1:List (Nat×AA)) (Q:Bool→Prop):Prop:=
  CM o1 o0 o0.workers fun r49=>Q (!r49)
def CL (o0:AB) (o1:List (Nat×AA)) (Q:(List AK)→Prop):Prop:=
  BK (fun (s:(List AK)×Int) (next536:((List AK)×Int)→Prop)=>match s with | (s530,s534)=>AR (decide (s534<(o0.workers.length:Int))) (BC o0.workers s534 fun x551=>FX o1 x551 fun b589 x590=>FV o0.p.A.Rows o0.p.R x590.i fun r611=>FV o0.p.B.Cols o0.p.C x590.j fun r615=>FX o1 (some b589) fun _ x642=>BK (fun (s:(List AK)×Int) (next743:((List AK)×Int)→Prop)=>match s with | (s738,s742)=>AR (decide (s742<(x642.has.length:Int))) (BC x642.has s742 fun x761=>HV 32 s738 ([({ Row:=AJ (x761.Row+r611),Col:=AJ (x761.Col+r615),Val:=x761.Val }:AK)]) fun _=>next743 ((s738++([({ Row:=AJ (x761.Row+r611),Col:=AJ (x761.Col+r615),Val:=x761.Val }:AK)])),AJ (s742+1))) (next536 (s738,AJ (s534+1)))) (s530,0)) (uT GJ s530 fun y783=>Q y783)) (([]:List AK),0)
def DZ (o0:AB) (o1:List (Nat×AA)) (Q:(Rows×Int)→Prop):Prop:=
  CL o0 o1 fun r49=>YL o0.p.Ring o0.p.A.Rows o0.p.B.Cols r49 fun r53=>Q (r53.1,r53.2)
def OQ (a0:BD) (a1:List FU) (a2:Int) (Q:(Rows×Bool×Int)→Prop):Prop:=
  EM ([]:List (Nat×AA)) ([]:List (Nat×AF)) a0 (fun r150=>AR (r150.1 != 0) (Q (({ Rows:=0,Cols:=0,Start:=([]:List Int),Col:=([]:List Int),Val:=([]:List Int) }:Rows),false,r150.1)) (AR (decide (1048576<(a1.length:Int))) (Q (({ Rows:=0,Cols:=0,Start:=([]:List Int),Col:=([]:List Int),Val:=([]:List Int) }:Rows),false,5)) (BW a1 fun r228=>AR r228 (Q (({ Rows:=0,Cols:=0,Start:=([]:List Int),Col:=([]:List Int),Val:=([]:List Int) }:Rows),false,8)) (AR (decide (a2<0)) (Q (({ Rows:=0,Cols:=0,Start:=([]:List Int),Col:=([]:List Int),Val:=([]:List Int) }:Rows),false,3)) (AR (decide (1048576<a2)) (Q (({ Rows:=0,Cols:=0,Start:=([]:List Int),Col:=([]:List Int),Val:=([]:List Int) }:Rows),false,3)) (BK (fun (s350:Int) (next351:Int→Prop)=>AR (decide (s350<(a1.length:Int))) (BC a1 s350 fun x358=>KJ r150.2 ([]:List (Nat×AF)) x358 fun r374=>next351 (AJ (s350+1))) (EV (fun (k457:Unit→Prop)=>BK (fun (_:Unit) (next475:Unit→Prop)=>AR (decide (0<a2)) (FL r150.2 fun r487=>AR (!r487) (LI r150.2 ([]:List (Nat×AF))) (k457 ())) (k457 ())) ()) fun _=>DX r150.2 fun r508=>FL r150.2 fun r529=>Q (r508.1,r529,r508.2))) 0)))))) (fun r152=>AR (r152.1 != 0) (Q (({ Rows:=0,Cols:=0,Start:=([]:List Int),Col:=([]:List Int),Val:=([]:List Int) }:Rows),false,r152.1)) (AR (decide (1048576<(a1.length:Int))) (Q (({ Rows:=0,Cols:=0,Start:=([]:List Int),Col:=([]:List Int),Val:=([]:List Int) }:Rows),false,5)) (BW a1 fun r570=>AR r570 (Q (({ Rows:=0,Cols:=0,Start:=([]:List Int),Col:=([]:List Int),Val:=([]:List Int) }:Rows),false,8)) (AR (decide (a2<0)) (Q (({ Rows:=0,Cols:=0,Start:=([]:List Int),Col:=([]:List Int),Val:=([]:List Int) }:Rows),false,3)) (AR (decide (1048576<a2)) (Q (({ Rows:=0,Cols:=0,Start:=([]:List Int),Col:=([]:List Int),Val:=([]:List Int) }:Rows),false,3)) (BK (fun (s:Int×Int×Int×(List Int)×(List Int)×(List Int)×Int×Int×(List Int)×(List Int)×(List Int)×Int×Int×(List Int)×(List Int)×(List Int)×Int×Int×Int×(List AY)×(List (Option Nat))×(List ((Int×Int)×(Option Nat)))×Int×(List (Nat×AA))×(List (Nat×AF))) (next1344:(Int×Int×Int×(List Int)×(List Int)×(List Int)×Int×Int×(List Int)×(List Int)×(List Int)×Int×Int×(List Int)×(List Int)×(List Int)×Int×Int×Int×(List AY)×(List (Option Nat))×(List ((Int×Int)×(Option Nat)))×Int×(List (Nat×AA))×(List (Nat×AF)))→Prop)=>match s with | (s1286,s1287,s1288,s1289,s1293,s1297,s1301,s1302,s1303,s1307,s1311,s1315,s1316,s1317,s1321,s1325,s1329,s1330,s1331,s1332,s1336,s1340,s1341,s1342,s1343)=>AR (decide (s1341<(a1.length:Int))) (BC a1 s1341 fun x1351=>DM ({ p:=({ Ring:=s1286,A:=({ Rows:=s1287,Cols:=s1288,Start:=s1289,Col:=s1293,Val:=s1297 }:Rows),B:=({ Rows:=s1301,Cols:=s1302,Start:=s1303,Col:=s1307,Val:=s1311 }:Rows),Mask:=({ Rows:=s1315,Cols:=s1316,Start:=s1317,Col:=s1321,Val:=s1325 }:Rows),R:=s1329,C:=s1330,Room:=s1331 }:BD),stages:=s1332,workers:=s1336,boxes:=s1340 }:AB) s1342 s1343 x1351 fun r1367=>next1344 (r1367.2.1.p.Ring,r1367.2.1.p.A.Rows,r1367.2.1.p.A.Cols,r1367.2.1.p.A.Start,r1367.2.1.p.A.Col,r1367.2.1.p.A.Val,r1367.2.1.p.B.Rows,r1367.2.1.p.B.Cols,r1367.2.1.p.B.Start,r1367.2.1.p.B.Col,r1367.2.1.p.B.Val,r1367.2.1.p.Mask.Rows,r1367.2.1.p.Mask.Cols,r1367.2.1.p.Mask.Start,r1367.2.1.p.Mask.Col,r1367.2.1.p.Mask.Val,r1367.2.1.p.R,r1367.2.1.p.C,r1367.2.1.p.Room,r1367.2.1.stages,r1367.2.1.workers,r1367.2.1.boxes,AJ (s1341+1),r1367.2.2.1,r1367.2.2.2)) (EV (fun (k2302:(Int×Int×Int×(List Int)×(List Int)×(List Int)×Int×Int×(List Int)×(List Int)×(List Int)×Int×Int×(List Int)×(List Int)×(List Int)×Int×Int×Int×(List AY)×(List (Option Nat))×(List ((Int×Int)×(Option Nat)))×(List (Nat×AA))×(List (Nat×AF)))→Prop)=>BK (fun (s:Int×Int×Int×(List Int)×(List Int)×(List Int)×Int×Int×(List Int)×(List Int)×(List Int)×Int×Int×(List Int)×(List Int)×(List Int)×Int×Int×Int×(List AY)×(List (Option Nat))×(List ((Int×Int)×(Option Nat)))×Int×(List (Nat×AA))×(List (Nat×AF))) (next2655:(Int×Int×Int×(List Int)×(List Int)×(List Int)×Int×Int×(List Int)×(List Int)×(List Int)×Int×Int×(List Int)×(List Int)×(List Int)×Int×Int×Int×(List AY)×(List (Option Nat))×(List ((Int×Int)×(Option Nat)))×Int×(List (Nat×AA))×(List (Nat×AF)))→Prop)=>match s with | (s2597,s2598,s2599,s2600,s2604,s2608,s2612,s2613,s2614,s2618,s2622,s2626,s2627,s2628,s2632,s2636,s2640,s2641,s2642,s2643,s2647,s2651,s2652,s2653,s2654)=>AR (decide (s2652<a2)) (CB ({ p:=({ Ring:=s2597,A:=({ Rows:=s2598,Cols:=s2599,Start:=s2600,Col:=s2604,Val:=s2608 }:Rows),B:=({ Rows:=s2612,Cols:=s2613,Start:=s2614,Col:=s2618,Val:=s2622 }:Rows),Mask:=({ Rows:=s2626,Cols:=s2627,Start:=s2628,Col:=s2632,Val:=s2636 }:Rows),R:=s2640,C:=s2641,Room:=s2642 }:BD),stages:=s2643,workers:=s2647,boxes:=s2651 }:AB) s2653 fun r2667=>AR (!r2667) (DY ({ p:=({ Ring:=s2597,A:=({ Rows:=s2598,Cols:=s2599,Start:=s2600,Col:=s2604,Val:=s2608 }:Rows),B:=({ Rows:=s2612,Cols:=s2613,Start:=s2614,Col:=s2618,Val:=s2622 }:Rows),Mask:=({ Rows:=s2626,Cols:=s2627,Start:=s2628,Col:=s2632,Val:=s2636 }:Rows),R:=s2640,C:=s2641,Room:=s2642 }:BD),stages:=s2643,workers:=s2647,boxes:=s2651 }:AB) s2653 s2654 fun r2678=>next2655 (r2678.2.1.p.Ring,r2678.2.1.p.A.Rows,r2678.2.1.p.A.Cols,r2678.2.1.p.A.Start,r2678.2.1.p.A.Col,r2678.2.1.p.A.Val,r2678.2.1.p.B.Rows,r2678.2.1.p.B.Cols,r2678.2.1.p.B.Start,r2678.2.1.p.B.Col,r2678.2.1.p.B.Val,r2678.2.1.p.Mask.Rows,r2678.2.1.p.Mask.Cols,r2678.2.1.p.Mask.Start,r2678.2.1.p.Mask.Col,r2678.2.1.p.Mask.Val,r2678.2.1.p.R,r2678.2.1.p.C,r2678.2.1.p.Room,r2678.2.1.stages,r2678.2.1.workers,r2678.2.1.boxes,AJ (s2652+1),r2678.2.2.1,r2678.2.2.2)) (k2302 (s2597,s2598,s2599,s2600,s2604,s2608,s2612,s2613,s2614,s2618,s2622,s2626,s2627,s2628,s2632,s2636,s2640,s2641,s2642,s2643,s2647,s2651,s2653,s2654))) (k2302 (s2597,s2598,s2599,s2600,s2604,s2608,s2612,s2613,s2614,s2618,s2622,s2626,s2627,s2628,s2632,s2636,s2640,s2641,s2642,s2643,s2647,s2651,s2653,s2654))) (s1286,s1287,s1288,s1289,s1293,s1297,s1301,s1302,s1303,s1307,s1311,s1315,s1316,s1317,s1321,s1325,s1329,s1330,s1331,s1332,s1336,s1340,0,s1342,s1343)) fun (s2245,s2246,s2247,s2248,s2252,s2256,s2260,s2261,s2262,s2266,s2270,s2274,s2275,s2276,s2280,s2284,s2288,s2289,s2290,s2291,s2295,s2299,s2300,s2301)=>DZ ({ p:=({ Ring:=s2245,A:=({ Rows:=s2246,Cols:=s2247,Start:=s2248,Col:=s2252,Val:=s2256 }:Rows),B:=({ Rows:=s2260,Cols:=s2261,Start:=s2262,Col:=s2266,Val:=s2270 }:Rows),Mask:=({ Rows:=s2274,Cols:=s2275,Start:=s2276,Col:=s2280,Val:=s2284 }:Rows),R:=s2288,C:=s2289,Room:=s2290 }:BD),stages:=s2291,workers:=s2295,boxes:=s2299 }:AB) s2300 fun r2731=>CB ({ p:=({ Ring:=s2245,A:=({ Rows:=s2246,Cols:=s2247,Start:=s2248,Col:=s2252,Val:=s2256 }:Rows),B:=({ Rows:=s2260,Cols:=s2261,Start:=s2262,Col:=s2266,Val:=s2270 }:Rows),Mask:=({ Rows:=s2274,Cols:=s2275,Start:=s2276,Col:=s2280,Val:=s2284 }:Rows),R:=s2288,C:=s2289,Room:=s2290 }:BD),stages:=s2291,workers:=s2295,boxes:=s2299 }:AB) s2300 fun r2752=>Q (r2731.1,r2752,r2731.2))) (r152.2.2.p.Ring,r152.2.2.p.A.Rows,r152.2.2.p.A.Cols,r152.2.2.p.A.Start,r152.2.2.p.A.Col,r152.2.2.p.A.Val,r152.2.2.p.B.Rows,r152.2.2.p.B.Cols,r152.2.2.p.B.Start,r152.2.2.p.B.Col,r152.2.2.p.B.Val,r152.2.2.p.Mask.Rows,r152.2.2.p.Mask.Cols,r152.2.2.p.Mask.Start,r152.2.2.p.Mask.Col,r152.2.2.p.Mask.Val,r152.2.2.p.R,r152.2.2.p.C,r152.2.2.p.Room,r152.2.2.stages,r152.2.2.workers,r152.2.2.boxes,0,r152.2.1,([]:List (Nat×AF)))))))))
def EZ (o0:List (Nat×AA)) (a0:Int) (Q:Bool→Prop):Prop:=
  Q false
def OB (o0:List (Nat×AA)) (o1:List (Nat×AF)) (a0:Int) (a1:Int) (Q:Unit→Prop):Prop:=
  EZ o0 a0 fun r26=>AR (!r26) (Q ()) (EZ o0 a1 fun r34=>AR (!r34) (Q ()) (False))
def OC (o0:List (Nat×AA)) (o1:List (Nat×AF)) (a0:Int) (a1:Int) (Q:Int→Prop):Prop:=
  OB o0 o1 a0 a1 fun r9=>IA  fun r16=>Q r16
def LJ  (Q:Int→Prop):Prop:=
  Q 0
def NH (o0:List (Nat×AF)) (Q:Int→Prop):Prop:=
  Q 0
def NI (o0:List (Nat×AA)) (a0:Int) (Q:Int→Prop):Prop:=
  EZ o0 a0 fun r16=>AR (!r16) (Q 0) (False)
def MP (o0:List (Nat×AA)) (a0:Int) (Q:Int→Prop):Prop:=
  EZ o0 a0 fun r16=>AR (!r16) (Q 0) (False)
def GK (o0:AB) (o1:List (Nat×AA)) (o2:List (Nat×AF)) (a0:Int) (a1:Int) (Q:(Int×AB×(List (Nat×AF)))→Prop):Prop:=
  CC o0 o1 o2 a0 a1 (fun r46=>IA  fun r130=>Q (r130,r46.1,r46.2)) (fun r85=>EX r85.2.2 r85.1 fun r138=>Q (r138,r85.2.1,r85.2.2))
def HN (o0:AB) (Q:Int→Prop):Prop:=
  Q (o0.stages.length:Int)
def JV (o0:AF) (Q:Int→Prop):Prop:=
  Q o0.sent
def TQ  (Q:Int→Prop):Prop:=
  Q 0
def OR (o0:List (Nat×AF)) (a0:Option Nat) (Q:Int→Prop):Prop:=
  mI a0 (TQ  fun rr=>Q rr) fun b=>pF o0 b fun x=>JV x  fun rr=>Q rr
def FZ (o0:AB) (o1:List (Nat×AF)) (Q:Int→Prop):Prop:=
  BK (fun (s:(List ((Int×Int)×(Option Nat)))×Int) (next105:((List ((Int×Int)×(Option Nat)))×Int)→Prop)=>match s with | (s103,s104)=>uM s103 (Q s104) (fun p122 l123=>OR o1 p122.2 fun r135=>next105 (l123,AJ (s104+r135)))) (o0.boxes,0)
def FM (o0:AB) (o1:List (Nat×AA)) (a0:Int) (Q:Int→Prop):Prop:=
  DG o0 o1 a0 fun r53=>AR (!r53) (Q 0) (BC o0.workers a0 fun x56=>FX o1 x56 fun b64 x65=>Q x65.at_)
def VZ  (Q:Bool→Prop):Prop:=
  UT 5 2 2 ([({ Row:=0,Col:=1,Val:=3 }:AC),({ Row:=1,Col:=0,Val:=5 }:AC)]:List AC) fun r32=>VY 2 2 fun r71=>EM ([]:List (Nat×AA)) ([]:List (Nat×AF)) ({ Ring:=5,A:=r32.1,B:=r32.1,Mask:=r71,R:=2,C:=1,Room:=1 }:BD) (fun r193=>KJ r193.2 ([]:List (Nat×AF)) ({ Kind:=1,A:=0,B:=0,K:=0 }:FU) fun r249=>OC r193.2 ([]:List (Nat×AF)) 0 0 fun r265=>HC ({ Ring:=5,A:=r32.1,B:=r32.1,Mask:=r71,R:=2,C:=1,Room:=1 }:BD) fun r291=>OQ ({ Ring:=5,A:=r32.1,B:=r32.1,Mask:=r71,R:=2,C:=1,Room:=1 }:BD) ([]:List FU) r291 fun r295=>RL r295.1 0 0 fun r317=>EV (fun (k421:(Int×(List (Nat×AA)))→Prop)=>EM r193.2 ([]:List (Nat×AF)) ({ Ring:=0,A:=({ Rows:=0,Cols:=0,Start:=([]:List Int),Col:=([]:List Int),Val:=([]:List Int) }:Rows),B:=({ Rows:=0,Cols:=0,Start:=([]:List Int),Col:=([]:List Int),Val:=([]:List Int) }:Rows),Mask:=({ Rows:=0,Cols:=0,Start:=([]:List Int),Col:=([]:List Int),Val:=([]:List Int) }:Rows),R:=0,C:=0,Room:=0 }:BD) (fun r428=>k421 (r428.1,r428.2)) (fun r430=>k421 (r430.1,r430.2.1))) fun (s419,s420)=>DX s420 fun r500=>AR (r193.1==0) (AR r249 (AR (r265==1) (LJ  fun r523=>AR (r523==2) (NH ([]:List (Nat×AF)) fun r533=>AR (r533==1) (FL s420 fun r543=>AR (!r543) (AR (r295.2.2==0) (AR r295.2.1 (AR (r317.1==15) (AR r317.2 (AR (s419==8) (AR (r500.2==10) (HC ({ Ring:=5,A:=r32.1,B:=r32.1,Mask:=r71,R:=2,C:=1,Room:=1 }:BD) fun r553=>AR (r553==11) (NI s420 0 fun r564=>AR (r564==3) (MP s420 0 fun r574=>AR (r574==0) (GZ ({ Ring:=5,A:=r32.1,B:=r32.1,Mask:=r71,R:=2,C:=1,Room:=1 }:BD) fun r578=>Q (r578==0)) (Q false)) (Q false)) (Q false)) (Q false)) (Q false)) (Q false)) (Q false)) (Q false)) (Q false)) (Q false)) (Q false)) (Q false)) (Q false)) (Q false)) (Q false)) (fun r195=>DM r195.2.2 r195.2.1 ([]:List (Nat×AF)) ({ Kind:=1,A:=0,B:=0,K:=0 }:FU) fun r636=>GK r636.2.1 r636.2.2.1 r636.2.2.2 0 0 fun r729=>HC ({ Ring:=5,A:=r32.1,B:=r32.1,Mask:=r71,R:=2,C:=1,Room:=1 }:BD) fun r793=>OQ ({ Ring:=5,A:=r32.1,B:=r32.1,Mask:=r71,R:=2,C:=1,Room:=1 }:BD) ([]:List FU) r793 fun r797=>RL r797.1 0 0 fun r819=>EV (fun (k923:(Int×(List (Nat×AA)))→Prop)=>EM r636.2.2.1 r729.2.2 ({ Ring:=0,A:=({ Rows:=0,Cols:=0,Start:=([]:List Int),Col:=([]:List Int),Val:=([]:List Int) }:Rows),B:=({ Rows:=0,Cols:=0,Start:=([]:List Int),Col:=([]:List Int),Val:=([]:List Int) }:Rows),Mask:=({ Rows:=0,Cols:=0,Start:=([]:List Int),Col:=([]:List Int),Val:=([]:List Int) }:Rows),R:=0,C:=0,Room:=0 }:BD) (fun r930=>k923 (r930.1,r930.2)) (fun r932=>k923 (r932.1,r932.2.1))) fun (s921,s922)=>DX s922 fun r1002=>AR (r195.1==0) (AR r636.1 (AR (r729.1==1) (HN r729.2.1 fun r1025=>AR (r1025==2) (FZ r729.2.1 r729.2.2 fun r1035=>AR (r1035==1) (CB r729.2.1 s922 fun r1045=>AR (!r1045) (AR (r797.2.2==0) (AR r797.2.1 (AR (r819.1==15) (AR r819.2 (AR (s921==8) (AR (r1002.2==10) (HC ({ Ring:=5,A:=r32.1,B:=r32.1,Mask:=r71,R:=2,C:=1,Room:=1 }:BD) fun r1055=>AR (r1055==11) (EQ r729.2.1 s922 0 fun r1066=>AR (r1066==3) (FM r729.2.1 s922 0 fun r1076=>AR (r1076==0) (GZ ({ Ring:=5,A:=r32.1,B:=r32.1,Mask:=r71,R:=2,C:=1,Room:=1 }:BD) fun r1080=>Q (r1080==0)) (Q false)) (Q false)) (Q false)) (Q false)) (Q false)) (Q false)) (Q false)) (Q false)) (Q false)) (Q false)) (Q false)) (Q false)) (Q false)) (Q false)) (Q false))
def SJ (a0:KC) (a1:GX) (Q:Bool→Prop):Prop:=
  LY a0 fun r59=>EM ([]:List (Nat×AA)) ([]:List (Nat×AF)) r59 (fun r199=>MO r59.Ring r59.A r59.B r59.Mask fun r252=>Q false) (fun r201=>MO r59.Ring r59.A r59.B r59.Mask fun r275=>AR (r201.1 != 0) (Q false) (AR (r275.2 != 0) (Q false) (IP a1 (AJ (r59.R*r59.C)) fun r301=>BK (fun (s:Int×Int×Int×(List Int)×(List Int)×(List Int)×Int×Int×(List Int)×(List Int)×(List Int)×Int×Int×(List Int)×(List Int)×(List Int)×Int×Int×Int×(List AY)×(List (Option Nat))×(List ((Int×Int)×(Option Nat)))×Int×(List (Nat×AA))×(List (Nat×AF))) (next1487:(Int×Int×Int×(List Int)×(List Int)×(List Int)×Int×Int×(List Int)×(List Int)×(List Int)×Int×Int×(List Int)×(List Int)×(List Int)×Int×Int×Int×(List AY)×(List (Option Nat))×(List ((Int×Int)×(Option Nat)))×Int×(List (Nat×AA))×(List (Nat×AF)))→Prop)=>match s with | (s1429,s1430,s1431,s1432,s1436,s1440,s1444,s1445,s1446,s1450,s1454,s1458,s1459,s1460,s1464,s1468,s1472,s1473,s1474,s1475,s1479,s1483,s1484,s1485,s1486)=>AR (decide (s1484<(r301.length:Int))) (BC r301 s1484 fun x1551=>DM ({ p:=({ Ring:=s1429,A:=({ Rows:=s1430,Cols:=s1431,Start:=s1432,Col:=s1436,Val:=s1440 }:Rows),B:=({ Rows:=s1444,Cols:=s1445,Start:=s1446,Col:=s1450,Val:=s1454 }:Rows),Mask:=({ Rows:=s1458,Cols:=s1459,Start:=s1460,Col:=s1464,Val:=s1468 }:Rows),R:=s1472,C:=s1473,Room:=s1474 }:BD),stages:=s1475,workers:=s1479,boxes:=s1483 }:AB) s1485 s1486 x1551 fun r1565=>CB r1565.2.1 r1565.2.2.1 fun r1613=>AR r1613 (CL r1565.2.1 r1565.2.2.1 fun r1623=>IY r1623 r275.1 fun r1629=>AR (!r1629) (Q false) (next1487 (r1565.2.1.p.Ring,r1565.2.1.p.A.Rows,r1565.2.1.p.A.Cols,r1565.2.1.p.A.Start,r1565.2.1.p.A.Col,r1565.2.1.p.A.Val,r1565.2.1.p.B.Rows,r1565.2.1.p.B.Cols,r1565.2.1.p.B.Start,r1565.2.1.p.B.Col,r1565.2.1.p.B.Val,r1565.2.1.p.Mask.Rows,r1565.2.1.p.Mask.Cols,r1565.2.1.p.Mask.Start,r1565.2.1.p.Mask.Col,r1565.2.1.p.Mask.Val,r1565.2.1.p.R,r1565.2.1.p.C,r1565.2.1.p.Room,r1565.2.1.stages,r1565.2.1.workers,r1565.2.1.boxes,AJ (s1484+1),r1565.2.2.1,r1565.2.2.2))) (next1487 (r1565.2.1.p.Ring,r1565.2.1.p.A.Rows,r1565.2.1.p.A.Cols,r1565.2.1.p.A.Start,r1565.2.1.p.A.Col,r1565.2.1.p.A.Val,r1565.2.1.p.B.Rows,r1565.2.1.p.B.Cols,r1565.2.1.p.B.Start,r1565.2.1.p.B.Col,r1565.2.1.p.B.Val,r1565.2.1.p.Mask.Rows,r1565.2.1.p.Mask.Cols,r1565.2.1.p.Mask.Start,r1565.2.1.p.Mask.Col,r1565.2.1.p.Mask.Val,r1565.2.1.p.R,r1565.2.1.p.C,r1565.2.1.p.Room,r1565.2.1.stages,r1565.2.1.workers,r1565.2.1.boxes,AJ (s1484+1),r1565.2.2.1,r1565.2.2.2))) (EV (fun (k2465:(Int×Int×Int×(List Int)×(List Int)×(List Int)×Int×Int×(List Int)×(List Int)×(List Int)×Int×Int×(List Int)×(List Int)×(List Int)×Int×Int×Int×(List AY)×(List (Option Nat))×(List ((Int×Int)×(Option Nat)))×(List (Nat×AA))×(List (Nat×AF)))→Prop)=>BK (fun (s:Int×Int×Int×(List Int)×(List Int)×(List Int)×Int×Int×(List Int)×(List Int)×(List Int)×Int×Int×(List Int)×(List Int)×(List Int)×Int×Int×Int×(List AY)×(List (Option Nat))×(List ((Int×Int)×(Option Nat)))×Int×(List (Nat×AA))×(List (Nat×AF))) (next2797:(Int×Int×Int×(List Int)×(List Int)×(List Int)×Int×Int×(List Int)×(List Int)×(List Int)×Int×Int×(List Int)×(List Int)×(List Int)×Int×Int×Int×(List AY)×(List (Option Nat))×(List ((Int×Int)×(Option Nat)))×Int×(List (Nat×AA))×(List (Nat×AF)))→Prop)=>match s with | (s2739,s2740,s2741,s2742,s2746,s2750,s2754,s2755,s2756,s2760,s2764,s2768,s2769,s2770,s2774,s2778,s2782,s2783,s2784,s2785,s2789,s2793,s2794,s2795,s2796)=>AR (decide (s2794<2000)) (DM ({ p:=({ Ring:=s2739,A:=({ Rows:=s2740,Cols:=s2741,Start:=s2742,Col:=s2746,Val:=s2750 }:Rows),B:=({ Rows:=s2754,Cols:=s2755,Start:=s2756,Col:=s2760,Val:=s2764 }:Rows),Mask:=({ Rows:=s2768,Cols:=s2769,Start:=s2770,Col:=s2774,Val:=s2778 }:Rows),R:=s2782,C:=s2783,Room:=s2784 }:BD),stages:=s2785,workers:=s2789,boxes:=s2793 }:AB) s2795 s2796 ({ Kind:=5,A:=0,B:=0,K:=0 }:FU) fun r2809=>AR r2809.1 (next2797 (r2809.2.1.p.Ring,r2809.2.1.p.A.Rows,r2809.2.1.p.A.Cols,r2809.2.1.p.A.Start,r2809.2.1.p.A.Col,r2809.2.1.p.A.Val,r2809.2.1.p.B.Rows,r2809.2.1.p.B.Cols,r2809.2.1.p.B.Start,r2809.2.1.p.B.Col,r2809.2.1.p.B.Val,r2809.2.1.p.Mask.Rows,r2809.2.1.p.Mask.Cols,r2809.2.1.p.Mask.Start,r2809.2.1.p.Mask.Col,r2809.2.1.p.Mask.Val,r2809.2.1.p.R,r2809.2.1.p.C,r2809.2.1.p.Room,r2809.2.1.stages,r2809.2.1.workers,r2809.2.1.boxes,AJ (s2794+1),r2809.2.2.1,r2809.2.2.2)) (k2465 (r2809.2.1.p.Ring,r2809.2.1.p.A.Rows,r2809.2.1.p.A.Cols,r2809.2.1.p.A.Start,r2809.2.1.p.A.Col,r2809.2.1.p.A.Val,r2809.2.1.p.B.Rows,r2809.2.1.p.B.Cols,r2809.2.1.p.B.Start,r2809.2.1.p.B.Col,r2809.2.1.p.B.Val,r2809.2.1.p.Mask.Rows,r2809.2.1.p.Mask.Cols,r2809.2.1.p.Mask.Start,r2809.2.1.p.Mask.Col,r2809.2.1.p.Mask.Val,r2809.2.1.p.R,r2809.2.1.p.C,r2809.2.1.p.Room,r2809.2.1.stages,r2809.2.1.workers,r2809.2.1.boxes,r2809.2.2.1,r2809.2.2.2))) (k2465 (s2739,s2740,s2741,s2742,s2746,s2750,s2754,s2755,s2756,s2760,s2764,s2768,s2769,s2770,s2774,s2778,s2782,s2783,s2784,s2785,s2789,s2793,s2795,s2796))) (s1429,s1430,s1431,s1432,s1436,s1440,s1444,s1445,s1446,s1450,s1454,s1458,s1459,s1460,s1464,s1468,s1472,s1473,s1474,s1475,s1479,s1483,0,s1485,s1486)) fun (s2408,s2409,s2410,s2411,s2415,s2419,s2423,s2424,s2425,s2429,s2433,s2437,s2438,s2439,s2443,s2447,s2451,s2452,s2453,s2454,s2458,s2462,s2463,s2464)=>VZ  fun r2857=>AR r2857 (CB ({ p:=({ Ring:=s2408,A:=({ Rows:=s2409,Cols:=s2410,Start:=s2411,Col:=s2415,Val:=s2419 }:Rows),B:=({ Rows:=s2423,Cols:=s2424,Start:=s2425,Col:=s2429,Val:=s2433 }:Rows),Mask:=({ Rows:=s2437,Cols:=s2438,Start:=s2439,Col:=s2443,Val:=s2447 }:Rows),R:=s2451,C:=s2452,Room:=s2453 }:BD),stages:=s2454,workers:=s2458,boxes:=s2462 }:AB) s2463 fun r2868=>AR r2868 (CL ({ p:=({ Ring:=s2408,A:=({ Rows:=s2409,Cols:=s2410,Start:=s2411,Col:=s2415,Val:=s2419 }:Rows),B:=({ Rows:=s2423,Cols:=s2424,Start:=s2425,Col:=s2429,Val:=s2433 }:Rows),Mask:=({ Rows:=s2437,Cols:=s2438,Start:=s2439,Col:=s2443,Val:=s2447 }:Rows),R:=s2451,C:=s2452,Room:=s2453 }:BD),stages:=s2454,workers:=s2458,boxes:=s2462 }:AB) s2463 fun r2879=>IY r2879 r275.1 fun r2886=>Q r2886) (Q false)) (Q false))) (r201.2.2.p.Ring,r201.2.2.p.A.Rows,r201.2.2.p.A.Cols,r201.2.2.p.A.Start,r201.2.2.p.A.Col,r201.2.2.p.A.Val,r201.2.2.p.B.Rows,r201.2.2.p.B.Cols,r201.2.2.p.B.Start,r201.2.2.p.B.Col,r201.2.2.p.B.Val,r201.2.2.p.Mask.Rows,r201.2.2.p.Mask.Cols,r201.2.2.p.Mask.Start,r201.2.2.p.Mask.Col,r201.2.2.p.Mask.Val,r201.2.2.p.R,r201.2.2.p.C,r201.2.2.p.Room,r201.2.2.stages,r201.2.2.workers,r201.2.2.boxes,0,r201.2.1,([]:List (Nat×AF))))))
abbrev pL (o_:BD) (q0:Option Addr) (q1:Nat) (q2:Option Addr) (q3:Nat) (q4:Option Addr) (q5:Nat) (q6:Option Addr) (q7:Nat) (q8:Option Addr) (q9:Nat) (q10:Option Addr) (q11:Nat) (q12:Option Addr) (q13:Nat) (q14:Option Addr) (q15:Nat) (q16:Option Addr) (q17:Nat):Array Value:=#[.int .i64 o_.Ring,.int .i64 o_.A.Rows,.int .i64 o_.A.Cols,.slice q0 o_.A.Start.length q1,.slice q2 o_.A.Col.length q3,.slice q4 o_.A.Val.length q5,.int .i64 o_.B.Rows,.int .i64 o_.B.Cols,.slice q6 o_.B.Start.length q7,.slice q8 o_.B.Col.length q9,.slice q10 o_.B.Val.length q11,.int .i64 o_.Mask.Rows,.int .i64 o_.Mask.Cols,.slice q12 o_.Mask.Start.length q13,.slice q14 o_.Mask.Col.length q15,.slice q16 o_.Mask.Val.length q17,.int .i64 o_.R,.int .i64 o_.C,.int .i64 o_.Room]
abbrev AQ (o_:AB) (q0:Option Addr) (q1:Nat) (q2:Option Addr) (q3:Nat) (q4:Option Addr) (q5:Nat) (q6:Option Addr) (q7:Nat) (q8:Option Addr) (q9:Nat) (q10:Option Addr) (q11:Nat) (q12:Option Addr) (q13:Nat) (q14:Option Addr) (q15:Nat) (q16:Option Addr) (q17:Nat) (q18:Option Addr) (q19:Nat) (q20:Option Addr) (q21:Nat) (q22:Nat):Array Value:=#[.int .i64 o_.p.Ring,.int .i64 o_.p.A.Rows,.int .i64 o_.p.A.Cols,.slice q0 o_.p.A.Start.length q1,.slice q2 o_.p.A.Col.length q3,.slice q4 o_.p.A.Val.length q5,.int .i64 o_.p.B.Rows,.int .i64 o_.p.B.Cols,.slice q6 o_.p.B.Start.length q7,.slice q8 o_.p.B.Col.length q9,.slice q10 o_.p.B.Val.length q11,.int .i64 o_.p.Mask.Rows,.int .i64 o_.p.Mask.Cols,.slice q12 o_.p.Mask.Start.length q13,.slice q14 o_.p.Mask.Col.length q15,.slice q16 o_.p.Mask.Val.length q17,.int .i64 o_.p.R,.int .i64 o_.p.C,.int .i64 o_.p.Room,.slice q18 o_.stages.length q19,.slice q20 o_.workers.length q21,.map (some q22)]
abbrev PF (o_:AA) (q0:Option Addr) (q1:Nat) (q2:Option Addr) (q3:Nat) (q4:Option Addr) (q5:Nat) (q6:Option Addr) (q7:Nat) (q8:Nat) (q9:Option Addr) (q10:Nat):Array Value:=#[.int .i64 o_.i,.int .i64 o_.j,.int .i64 o_.mask.Rows,.int .i64 o_.mask.Cols,.slice q0 o_.mask.Start.length q1,.slice q2 o_.mask.Col.length q3,.slice q4 o_.mask.Val.length q5,.slice q6 o_.out.length q7,.map (some q8),.int .i64 o_.at_,.slice q9 o_.has.length q10]
end Go.Proofs.YtbohadngdkjljaaGreat
