/- Types, and pure functions as the Go text has them (printed by a program of ours). -/
import Derived.Test.YtbohadngdkjljaaGreatFwU
import Derived.Test.YtbohadngdkjljaaGreatFwK
namespace Go.Proofs.YtbohadngdkjljaaGreat
open Go Go.Fw
set_option linter.unusedVariables false
set_option linter.unusedSimpArgs false
set_option maxRecDepth 8000
set_option maxHeartbeats 1000000
abbrev AE:EZ Int:=IX 1 (fun x=>[.int .i64 x]) (fun _=>⟨rfl,rfl⟩)
abbrev eU8:EZ Int:=IX 1 (fun x=>[.int .u8 x]) (fun _=>⟨rfl,rfl⟩)
abbrev eB:EZ Bool:=IX 1 (fun x=>[.bool x]) (fun _=>⟨rfl,rfl⟩)
structure AL where
  Hi:Int
  Lo:Int
deriving DecidableEq,Inhabited
def EG (x:AL):List Value:=[.int .i64 x.Hi,.int .u64 x.Lo]
abbrev NH:EZ AL:=IX 2 EG (fun _=>⟨rfl,rfl⟩)
structure BN where
  From:Int
  To:Int
  W:Int
deriving DecidableEq,Inhabited
def cE (x:BN):List Value:=[.int .i64 x.From,.int .i64 x.To,.int .i64 x.W]
abbrev GU:EZ BN:=IX 3 cE (fun _=>⟨rfl,rfl⟩)
structure CA where
  N:Int
  Edges:List BN
deriving DecidableEq,Inhabited
def AbB:EZ CA where
  sz:=2
  rep I cs x:=∃ a1 c1,cs=[.int .i64 x.N,.slice a1 x.Edges.length c1]∧RepSl GU I a1 c1 x.Edges
  mono hle:=fun ⟨a1,c1,e,h0⟩=>⟨a1,c1,e,h0.mono hle⟩
  len:=fun ⟨a1,c1,e,_⟩=>by rw [e]; rfl
  one:=fun ⟨a1,c1,e,_⟩=>by rw [e]; rfl
structure Rows where
  Rows:Int
  Cols:Int
  Start:List Int
  Col:List Int
  Val:List Int
deriving DecidableEq,Inhabited
def mA:EZ Rows where
  sz:=5
  rep I cs x:=∃ a2 c2 a3 c3 a4 c4,cs=[.int .i64 x.Rows,.int .i64 x.Cols,.slice a2 x.Start.length c2,.slice a3 x.Col.length c3,.slice a4 x.Val.length c4]∧RepSl AE I a2 c2 x.Start∧RepSl AE I a3 c3 x.Col∧RepSl AE I a4 c4 x.Val
  mono hle:=fun ⟨a2,c2,a3,c3,a4,c4,e,h0,h1,h2⟩=>⟨a2,c2,a3,c3,a4,c4,e,h0.mono hle,h1.mono hle,h2.mono hle⟩
  len:=fun ⟨a2,c2,a3,c3,a4,c4,e,_,_,_⟩=>by rw [e]; rfl
  one:=fun ⟨a2,c2,a3,c3,a4,c4,e,_,_,_⟩=>by rw [e]; rfl
structure AC where
  Row:Int
  Col:Int
  Val:Int
deriving DecidableEq,Inhabited
def W7 (x:AC):List Value:=[.int .i64 x.Row,.int .i64 x.Col,.int .i64 x.Val]
abbrev BL:EZ AC:=IX 3 W7 (fun _=>⟨rfl,rfl⟩)
structure CM where
  Ring:Int
  A:Rows
  B:Rows
  Mask:Rows
  R:Int
  C:Int
  Room:Int
deriving DecidableEq,Inhabited
structure BC where
  From:Int
  To:Int
  Row:Int
  Col:Int
deriving DecidableEq,Inhabited
def dJ (x:BC):List Value:=[.int .i64 x.From,.int .i64 x.To,.int .i64 x.Row,.int .i64 x.Col]
abbrev BV:EZ BC:=IX 4 dJ (fun _=>⟨rfl,rfl⟩)
structure CN where
  At:Int
  Val:Int
deriving DecidableEq,Inhabited
def zN (x:CN):List Value:=[.int .i64 x.At,.int .i64 x.Val]
abbrev MA:EZ CN:=IX 2 zN (fun _=>⟨rfl,rfl⟩)
structure GH where
  Kind:Int
  A:Int
  B:Int
  K:Int
deriving DecidableEq,Inhabited
def YD (x:GH):List Value:=[.int .i64 x.Kind,.int .i64 x.A,.int .i64 x.B,.int .i64 x.K]
abbrev V7:EZ GH:=IX 4 YD (fun _=>⟨rfl,rfl⟩)
structure ZK where
  At:Int
  Val:AL
deriving DecidableEq,Inhabited
def AbC (x:ZK):List Value:=[.int .i64 x.At,.int .i64 x.Val.Hi,.int .u64 x.Val.Lo]
abbrev ZU:EZ ZK:=IX 3 AbC (fun _=>⟨rfl,rfl⟩)
structure Vec where
  N:Int
  Items:List CN
deriving DecidableEq,Inhabited
structure BI where
  Kind:Int
  From:Int
  To:Int
  Seq:Int
  Round:Int
  Vec:Vec
  Sums:List ZK
  Triples:List AC
  N:Int
  Over:Bool
deriving DecidableEq,Inhabited
def DG:EZ BI where
  sz:=11
  rep I cs x:=∃ a6 c6 a7 c7 a8 c8,cs=[.int .i64 x.Kind,.int .i64 x.From,.int .i64 x.To,.int .i64 x.Seq,.int .i64 x.Round,.int .i64 x.Vec.N,.slice a6 x.Vec.Items.length c6,.slice a7 x.Sums.length c7,.slice a8 x.Triples.length c8,.int .i64 x.N,.bool x.Over]∧RepSl MA I a6 c6 x.Vec.Items∧RepSl ZU I a7 c7 x.Sums∧RepSl BL I a8 c8 x.Triples
  mono hle:=fun ⟨a6,c6,a7,c7,a8,c8,e,h0,h1,h2⟩=>⟨a6,c6,a7,c7,a8,c8,e,h0.mono hle,h1.mono hle,h2.mono hle⟩
  len:=fun ⟨a6,c6,a7,c7,a8,c8,e,_,_,_⟩=>by rw [e]; rfl
  one:=fun ⟨a6,c6,a7,c7,a8,c8,e,_,_,_⟩=>by rw [e]; rfl
structure AK where
  Row:Int
  Col:Int
  Val:AL
deriving DecidableEq,Inhabited
def MZ (x:AK):List Value:=[.int .i64 x.Row,.int .i64 x.Col,.int .i64 x.Val.Hi,.int .u64 x.Val.Lo]
abbrev CE:EZ AK:=IX 4 MZ (fun _=>⟨rfl,rfl⟩)
structure AX where
  kind:Int
  stage:Int
deriving DecidableEq,Inhabited
def RZ (x:AX):List Value:=[.int .i64 x.kind,.int .i64 x.stage]
abbrev EV (x:AX):Value:=.agg (RZ x).toArray
structure AA where
  i:Int
  j:Int
  mask:Rows
  out:List BI
  parts:List (AX×(List AC))
  at_:Int
  has:List AK
deriving DecidableEq,Inhabited
structure AF where
  room:Int
  row:List Int
  by_:List (Int×BI)
  often:List (Int×Int)
  sent:Int
  taken:Int
deriving DecidableEq,Inhabited
structure AD where
  p:CM
  stages:List BC
  workers:List (Option Nat)
  boxes:List ((Int×Int)×(Option Nat))
deriving DecidableEq,Inhabited
structure GI where
  L:List GH
  Windows:Int
deriving DecidableEq,Inhabited
def fO:EZ GI where
  sz:=2
  rep I cs x:=∃ a0 c0,cs=[.slice a0 x.L.length c0,.int .u8 x.Windows]∧RepSl V7 I a0 c0 x.L
  mono hle:=fun ⟨a0,c0,e,h0⟩=>⟨a0,c0,e,h0.mono hle⟩
  len:=fun ⟨a0,c0,e,_⟩=>by rw [e]; rfl
  one:=fun ⟨a0,c0,e,_⟩=>by rw [e]; rfl
def AG:BoxTy AA where
  A:=Option Addr×Nat×Option Addr×Nat×Option Addr×Nat×Option Addr×Nat×Nat×Option Addr×Nat
  fact I a x:=RepSl AE I (a.1) (a.2.1) x.mask.Start∧RepSl AE I (a.2.2.1) (a.2.2.2.1) x.mask.Col∧RepSl AE I (a.2.2.2.2.1) (a.2.2.2.2.2.1) x.mask.Val∧RepSl DG I (a.2.2.2.2.2.2.1) (a.2.2.2.2.2.2.2.1) x.out∧RepSl CE I (a.2.2.2.2.2.2.2.2.2.1) (a.2.2.2.2.2.2.2.2.2.2) x.has
  mono:=fun h ⟨h0,h1,h2,h3,h4⟩=>⟨h0.mono h,h1.mono h,h2.mono h,h3.mono h,h4.mono h⟩
  obj a x:=.cells #[.int .i64 x.i,.int .i64 x.j,.int .i64 x.mask.Rows,.int .i64 x.mask.Cols,.slice (a.1) x.mask.Start.length (a.2.1),.slice (a.2.2.1) x.mask.Col.length (a.2.2.2.1),.slice (a.2.2.2.2.1) x.mask.Val.length (a.2.2.2.2.2.1),.slice (a.2.2.2.2.2.2.1) x.out.length (a.2.2.2.2.2.2.2.1),.map (some (a.2.2.2.2.2.2.2.2.1)),.int .i64 x.at_,.slice (a.2.2.2.2.2.2.2.2.2.1) x.has.length (a.2.2.2.2.2.2.2.2.2.2)] 127 (0,0)
  more a x:=[OwnMap EV (QW BL) false (a.2.2.2.2.2.2.2.2.1) x.parts]
def AY:BoxTy AF where
  A:=Option Addr×Nat×Nat×Nat
  fact I a x:=True
  mono:=fun _ _=>trivial
  obj a x:=.cells #[.int .i64 x.room,.slice (a.1) x.row.length (a.2.1),.map (some (a.2.2.1)),.map (some (a.2.2.2)),.int .i64 x.sent,.int .i64 x.taken] 213 (0,0)
  more a x:=[OwnSl AE 3 (a.1) (a.2.1) x.row,OwnMap (Value.int .i64) DG true (a.2.2.1) x.by_,OwnMap (Value.int .i64) AE false (a.2.2.2) x.often]
def V8 (a0:Int) (Q:Bool→Prop):Prop:=
  AP (decide (1≤a0)) (Q (decide (a0≤5))) (Q false)
def W8 (a0:AL) (a1:AL) (Q:AL→Prop):Prop:=
  AP (decide ((IntKind.wrap .u64 (a0.Lo+a1.Lo))<a0.Lo)) (Q ({ Hi:=AJ ((AJ (a0.Hi+a1.Hi))+1),Lo:=IntKind.wrap .u64 (a0.Lo+a1.Lo) }:AL)) (Q ({ Hi:=AJ (a0.Hi+a1.Hi),Lo:=IntKind.wrap .u64 (a0.Lo+a1.Lo) }:AL))
def NA (a0:AL) (a1:AL) (Q:Int→Prop):Prop:=
  FR (fun (k15:Unit→Prop)=>AP (decide (a0.Hi<a1.Hi)) (Q (-1)) (AP (a0.Hi==a1.Hi) (AP (decide (a0.Lo<a1.Lo)) (Q (-1)) (k15 ())) (k15 ()))) fun _=>AP (a0==a1) (Q 0) (Q 1)
def NI (a0:Bool) (Q:AL→Prop):Prop:=
  AP a0 (Q ({ Hi:=0,Lo:=1 }:AL)) (Q ({ Hi:=0,Lo:=0 }:AL))
def W9 (a0:Int) (a1:AL) (a2:AL) (Q:AL→Prop):Prop:=
  FR (fun (k18:Bool→Prop)=>AP (a0==1) (k18 (a0==1)) (AP (a0==3) (k18 (a0==3)) (k18 (a0==4)))) fun s17=>AP s17 (NA a2 a1 fun r24=>AP (decide (r24<0)) (Q a2) (Q a1)) (AP (a0==2) (AP (!(a1==({ Hi:=0,Lo:=0 }:AL))) (NI true fun r31=>Q r31) (NI (!(a2==({ Hi:=0,Lo:=0 }:AL))) fun r35=>Q r35)) (AP (a0==5) (W8 a1 a2 fun r40=>Q r40) (Q ({ Hi:=0,Lo:=0 }:AL))))
def YE (a0:Int) (Q:AL→Prop):Prop:=
  AP (decide (a0<0)) (Q ({ Hi:=(-1),Lo:=IntKind.wrap .u64 (a0) }:AL)) (Q ({ Hi:=0,Lo:=IntKind.wrap .u64 (a0) }:AL))
def OR (a0:AL) (Q:(Int×Bool)→Prop):Prop:=
  AP (a0.Hi==0) (AP (decide (0≤(AJ (a0.Lo)))) (Q (AJ (a0.Lo),true)) (AP (a0.Hi==(-1)) (AP (decide ((AJ (a0.Lo))<0)) (Q (AJ (a0.Lo),true)) (Q (0,false))) (Q (0,false)))) (AP (a0.Hi==(-1)) (AP (decide ((AJ (a0.Lo))<0)) (Q (AJ (a0.Lo),true)) (Q (0,false))) (Q (0,false)))
def NJ (a0:BN) (a1:BN) (Q:Bool→Prop):Prop:=
  AP (decide (a0.From<a1.From)) (Q true) (AP (a0.From==a1.From) (Q (decide (a0.To<a1.To))) (Q false))
def JV (a0:Int) (a1:List BN) (Q:((List BN)×Int)→Prop):Prop:=
  V8 a0 fun r12=>AP (!r12) (Q (([]:List BN),8)) (BG (fun (s:(List BN)×(List AL)×Int) (next2668:((List BN)×(List AL)×Int)→Prop)=>match s with | (s2657,s2661,s2665)=>AP (decide (s2665<(a1.length:Int))) (FR (fun (k2822:Int→Prop)=>BG (fun (s2870:Int) (next2871:Int→Prop)=>AP (decide (s2870<(s2657.length:Int))) (AZ s2657 s2870 fun x2879=>AZ a1 s2665 fun x2884=>NJ x2879 x2884 fun r2892=>AP r2892 (next2871 (AJ (s2870+1))) (k2822 s2870)) (k2822 s2870)) 0) fun s2821=>AZ a1 s2665 fun x2916=>YE x2916.W fun r2924=>FR (fun (k3057:Bool→Prop)=>AP (decide (s2821<(s2657.length:Int))) (AZ a1 s2665 fun x3062=>AZ s2657 s2821 fun x3071=>NJ x3062 x3071 fun r3075=>k3057 (!r3075)) (k3057 false)) fun s3056=>AP s3056 (AZ s2661 s2821 fun x3087=>W9 a0 x3087 r2924 fun r3091=>AZ s2661 s2821 fun x3096=>next2668 (s2657,(s2661.set s2821.toNat r3091),AJ (s2665+1))) (GZ 24 s2657 ([({ From:=0,To:=0,W:=0 }:BN)]) fun _=>GZ 16 s2661 ([({ Hi:=0,Lo:=0 }:AL)]) fun _=>BG (fun (s:(List BN)×(List AL)×Int) (next3290:((List BN)×(List AL)×Int)→Prop)=>match s with | (s3281,s3285,s3289)=>AP (decide (s2821<s3289)) (AZ s3281 (AJ (s3289 - 1)) fun x3299=>AZ s3281 s3289 fun x3304=>AZ s3285 (AJ (s3289 - 1)) fun x3307=>AZ s3285 s3289 fun x3312=>next3290 ((s3281.set s3289.toNat x3299),(s3285.set s3289.toNat x3307),AJ (s3289 - 1))) (AZ a1 s2665 fun x3317=>AZ a1 s2665 fun x3326=>AZ s3281 s2821 fun x3335=>AZ s3285 s2821 fun x3340=>next2668 ((s3281.set s2821.toNat ({ From:=x3317.From,To:=x3326.To,W:=0 }:BN)),(s3285.set s2821.toNat r2924),AJ (s2665+1)))) ((s2657++([({ From:=0,To:=0,W:=0 }:BN)])),(s2661++([({ Hi:=0,Lo:=0 }:AL)])),AJ (((s2657++([({ From:=0,To:=0,W:=0 }:BN)])).length:Int) - 1)))) (BG (fun (s:(List BN)×Int) (next3416:((List BN)×Int)→Prop)=>match s with | (s3411,s3415)=>AP (decide (s3415<(s3411.length:Int))) (AZ s2661 s3415 fun x3432=>OR x3432 fun r3436=>AP (!r3436.2) (Q (([]:List BN),12)) (AZ s3411 s3415 fun x3443=>next3416 ((s3411.set s3415.toNat ({ From:=x3443.From,To:=x3443.To,W:=r3436.1 }:BN)),AJ (s3415+1)))) (Q (s3411,0))) (s2657,0))) (([]:List BN),([]:List AL),0))
def NK (a0:CA) (Q:CA→Prop):Prop:=
  JV 1 a0.Edges fun r15=>Q ({ N:=a0.N,Edges:=r15.1 }:CA)
def RH (a0:CA) (Q:CA→Prop):Prop:=
  BG (fun (s:(List BN)×Int) (next94:((List BN)×Int)→Prop)=>match s with | (s88,s92)=>AP (decide (s92<(a0.Edges.length:Int))) (AZ a0.Edges s92 fun x101=>AZ a0.Edges s92 fun x110=>GZ 24 s88 ([({ From:=x101.From,To:=x110.To,W:=1 }:BN)]) fun _=>next94 ((s88++([({ From:=x101.From,To:=x110.To,W:=1 }:BN)])),AJ (s92+1))) (NK ({ N:=a0.N,Edges:=s88 }:CA) fun r128=>Q r128)) (([]:List BN),0)
def DV (a0:Int) (a1:Int) (Q:Int→Prop):Prop:=
  AP (decide (a1<1)) (Q 0) (AP (decide (a0<0)) (Q 0) (nzP a1 <| Q (a0.tmod a1)))
def RJ (a0:CA) (Q:CA→Prop):Prop:=
  DV a0.N 24 fun r21=>BG (fun (s:(List BN)×Int) (next131:((List BN)×Int)→Prop)=>match s with | (s125,s129)=>AP (decide (s129<(a0.Edges.length:Int))) (AP (decide (s129<60)) (AP (decide (0<r21)) (AZ a0.Edges s129 fun x152=>DV x152.From r21 fun r162=>DV x152.To r21 fun r166=>GZ 24 s125 ([({ From:=r162,To:=r166,W:=qX .i64 x152.W 2147483647 }:BN)]) fun _=>next131 ((s125++([({ From:=r162,To:=r166,W:=qX .i64 x152.W 2147483647 }:BN)])),AJ (s129+1))) (Q ({ N:=r21,Edges:=s125 }:CA))) (Q ({ N:=r21,Edges:=s125 }:CA))) (Q ({ N:=r21,Edges:=s125 }:CA))) (([]:List BN),0)
def RK (a0:CA) (Q:Int→Prop):Prop:=
  AP (decide (a0.N<0)) (Q 3) (AP (decide (4096<a0.N)) (Q 5) (AP (decide (65536<(a0.Edges.length:Int))) (Q 5) (BG (fun (s164:Int) (next165:Int→Prop)=>AP (decide (s164<(a0.Edges.length:Int))) (AZ a0.Edges s164 fun x182=>AP (decide (x182.From<0)) (Q 3) (AP (decide (a0.N≤x182.From)) (Q 3) (AP (decide (x182.To<0)) (Q 3) (AP (decide (a0.N≤x182.To)) (Q 3) (next165 (AJ (s164+1))))))) (BG (fun (s243:Int) (next244:Int→Prop)=>AP (decide (s243<(a0.Edges.length:Int))) (AZ a0.Edges s243 fun x251=>AP (decide (x251.W<0)) (Q 7) (AZ a0.Edges s243 fun x261=>AP (decide (2147483647<x261.W)) (Q 7) (next244 (AJ (s243+1))))) (Q 0)) 0)) 0)))
def TK (a0:CA) (Q:CA→Prop):Prop:=
  BG (fun (s:(List BN)×Int) (next101:((List BN)×Int)→Prop)=>match s with | (s95,s99)=>AP (decide (s99<(a0.Edges.length:Int))) (AZ a0.Edges s99 fun x118=>GZ 24 s95 ([({ From:=x118.To,To:=x118.From,W:=x118.W }:BN)]) fun _=>next101 ((s95++([({ From:=x118.To,To:=x118.From,W:=x118.W }:BN)])),AJ (s99+1))) (NK ({ N:=a0.N,Edges:=s95 }:CA) fun r138=>Q r138)) (([]:List BN),0)
def NL (a0:Int) (a1:Int) (Q:Rows→Prop):Prop:=
  mkP 8 (AJ (a0+1)) 0 fun _=>Q ({ Rows:=a0,Cols:=a1,Start:=(List.replicate (AJ (a0+1)).toNat 0),Col:=([]:List Int),Val:=([]:List Int) }:Rows)
def NM (a0:Int) (a1:Int) (a2:List AC) (Q:Rows→Prop):Prop:=
  NL a0 a1 fun r38=>BG (fun (s:(List Int)×(List Int)×(List Int)×Int) (next403:((List Int)×(List Int)×(List Int)×Int)→Prop)=>match s with | (s390,s394,s398,s402)=>AP (decide (s402<(a2.length:Int))) (AZ a2 s402 fun x431=>GZ 8 s394 ([x431.Col]) fun _=>AZ a2 s402 fun x467=>GZ 8 s398 ([x467.Val]) fun _=>AZ a2 s402 fun x491=>BG (fun (s:(List Int)×Int) (next539:((List Int)×Int)→Prop)=>match s with | (s534,s538)=>AP (decide (s538≤a0)) (AZ s534 s538 fun x547=>AZ s534 s538 fun x552=>next539 ((s534.set s538.toNat (AJ (x547+1))),AJ (s538+1))) (next403 (s534,(s394++([x431.Col])),(s398++([x467.Val])),AJ (s402+1)))) (s390,AJ (x491.Row+1))) (Q ({ Rows:=r38.Rows,Cols:=r38.Cols,Start:=s390,Col:=s394,Val:=s398 }:Rows))) (r38.Start,r38.Col,r38.Val,0)
def RL (a0:CA) (Q:(Rows×Int)→Prop):Prop:=
  RK a0 fun r34=>AP (r34 != 0) (Q (({ Rows:=0,Cols:=0,Start:=([]:List Int),Col:=([]:List Int),Val:=([]:List Int) }:Rows),r34)) (TK a0 fun r52=>BG (fun (s:(List AC)×Int) (next128:((List AC)×Int)→Prop)=>match s with | (s122,s126)=>AP (decide (s126<(r52.Edges.length:Int))) (AZ r52.Edges s126 fun x137=>AZ r52.Edges s126 fun x142=>AZ r52.Edges s126 fun x145=>GZ 24 s122 ([({ Row:=x137.From,Col:=x142.To,Val:=x145.W }:AC)]) fun _=>next128 ((s122++([({ Row:=x137.From,Col:=x142.To,Val:=x145.W }:AC)])),AJ (s126+1))) (NM a0.N a0.N s122 fun r158=>Q (r158,0))) (([]:List AC),0))
def YF (a0:Int) (a1:Int) (a2:Int) (a3:List AC) (Q:(Rows×Int)→Prop):Prop:=
  V8 a0 fun r22=>AP (!r22) (Q (({ Rows:=0,Cols:=0,Start:=([]:List Int),Col:=([]:List Int),Val:=([]:List Int) }:Rows),8)) (AP (decide (a1<0)) (Q (({ Rows:=0,Cols:=0,Start:=([]:List Int),Col:=([]:List Int),Val:=([]:List Int) }:Rows),3)) (AP (decide (4096<a1)) (Q (({ Rows:=0,Cols:=0,Start:=([]:List Int),Col:=([]:List Int),Val:=([]:List Int) }:Rows),3)) (AP (decide (a2<0)) (Q (({ Rows:=0,Cols:=0,Start:=([]:List Int),Col:=([]:List Int),Val:=([]:List Int) }:Rows),3)) (AP (decide (4096<a2)) (Q (({ Rows:=0,Cols:=0,Start:=([]:List Int),Col:=([]:List Int),Val:=([]:List Int) }:Rows),3)) (AP (decide (65536<(a3.length:Int))) (Q (({ Rows:=0,Cols:=0,Start:=([]:List Int),Col:=([]:List Int),Val:=([]:List Int) }:Rows),5)) (BG (fun (s:(List BN)×Int) (next662:((List BN)×Int)→Prop)=>match s with | (s656,s660)=>AP (decide (s660<(a3.length:Int))) (AZ a3 s660 fun x708=>AP (decide (x708.Row<0)) (Q (({ Rows:=0,Cols:=0,Start:=([]:List Int),Col:=([]:List Int),Val:=([]:List Int) }:Rows),3)) (AZ a3 s660 fun x718=>AP (decide (a1≤x718.Row)) (Q (({ Rows:=0,Cols:=0,Start:=([]:List Int),Col:=([]:List Int),Val:=([]:List Int) }:Rows),3)) (AZ a3 s660 fun x728=>AP (decide (x728.Col<0)) (Q (({ Rows:=0,Cols:=0,Start:=([]:List Int),Col:=([]:List Int),Val:=([]:List Int) }:Rows),3)) (AZ a3 s660 fun x738=>AP (decide (a2≤x738.Col)) (Q (({ Rows:=0,Cols:=0,Start:=([]:List Int),Col:=([]:List Int),Val:=([]:List Int) }:Rows),3)) (AZ a3 s660 fun x749=>AZ a3 s660 fun x758=>AZ a3 s660 fun x767=>GZ 24 s656 ([({ From:=x749.Row,To:=x758.Col,W:=x767.Val }:BN)]) fun _=>next662 ((s656++([({ From:=x749.Row,To:=x758.Col,W:=x767.Val }:BN)])),AJ (s660+1))))))) (JV a0 s656 fun r801=>AP (r801.2 != 0) (Q (({ Rows:=0,Cols:=0,Start:=([]:List Int),Col:=([]:List Int),Val:=([]:List Int) }:Rows),r801.2)) (BG (fun (s:(List AC)×Int) (next878:((List AC)×Int)→Prop)=>match s with | (s872,s876)=>AP (decide (s876<(r801.1.length:Int))) (AZ r801.1 s876 fun x887=>AZ r801.1 s876 fun x892=>AZ r801.1 s876 fun x895=>GZ 24 s872 ([({ Row:=x887.From,Col:=x892.To,Val:=x895.W }:AC)]) fun _=>next878 ((s872++([({ Row:=x887.From,Col:=x892.To,Val:=x895.W }:AC)])),AJ (s876+1))) (NM a1 a2 s872 fun r908=>Q (r908,0))) (([]:List AC),0)))) (([]:List BN),0)))))))
def YG (a0:Int) (a1:Int) (Q:Rows→Prop):Prop:=
  BG (fun (s:(List AC)×Int) (next309:((List AC)×Int)→Prop)=>match s with | (s303,s307)=>AP (decide (s307<a0)) (BG (fun (s:(List AC)×Int) (next350:((List AC)×Int)→Prop)=>match s with | (s345,s349)=>AP (decide (s349<a1)) (GZ 24 s345 ([({ Row:=s307,Col:=s349,Val:=1 }:AC)]) fun _=>next350 ((s345++([({ Row:=s307,Col:=s349,Val:=1 }:AC)])),AJ (s349+1))) (next309 (s345,AJ (s307+1)))) (s303,0)) (YF 1 a0 a1 s303 fun r366=>Q r366.1)) (([]:List AC),0)
def IC (a0:Int) (a1:Int) (Q:Bool→Prop):Prop:=
  AP (decide (1≤a0)) (Q (decide (a0≤a1))) (Q false)
def OS (a0:Int) (Q:Bool→Prop):Prop:=
  AP (decide (0<a0)) (Q (decide (a0<6))) (Q false)
def FT (a0:Int) (a1:Int) (Q:Bool→Prop):Prop:=
  AP (decide (0≤a0)) (Q (decide (a0≤a1))) (Q false)
def GQ (a0:Int) (Q:Bool→Prop):Prop:=
  Q (a0 != a0)
def OT (a0:Int) (a1:Int) (Q:Bool→Prop):Prop:=
  GQ a0 fun r1=>AP r1 (GQ a1 fun r6=>AP (!r6) (Q true) (Q (decide (a0<a1)))) (Q (decide (a0<a1)))
def FA (a0:List Int) (Q:Bool→Prop):Prop:=
  BG (fun (s57:Int) (next58:Int→Prop)=>AP (decide (0<s57)) (AZ a0 s57 fun x64=>AZ a0 (AJ (s57 - 1)) fun x73=>OT x64 x73 fun r81=>AP r81 (Q false) (next58 (AJ (s57 - 1)))) (Q true)) (AJ ((a0.length:Int) - 1))
def cF (a0:List Int) (a1:Int) (Q:Bool→Prop):Prop:=
  BG (fun (s68:Int) (next69:Int→Prop)=>AP (decide (s68<(a0.length:Int))) (AZ a0 s68 fun x84=>FT x84 (AJ (a1 - 1)) fun r92=>AP (!r92) (Q false) (AP (decide (0<s68)) (AZ a0 (AJ (s68 - 1)) fun x99=>AP (decide (x84≤x99)) (Q false) (next69 (AJ (s68+1)))) (next69 (AJ (s68+1))))) (Q true)) 0
def HB (a0:Rows) (Q:Bool→Prop):Prop:=
  FT a0.Rows 4096 fun r27=>AP (!r27) (Q false) (FT a0.Cols 4096 fun r32=>AP (!r32) (Q false) (AP ((a0.Start.length:Int) != (AJ (a0.Rows+1))) (Q false) (AP ((a0.Val.length:Int) != (a0.Col.length:Int)) (Q false) (AP (decide (65536<(a0.Col.length:Int))) (Q false) (AZ a0.Start 0 fun x66=>AP (x66 != 0) (Q false) (AZ a0.Start a0.Rows fun x76=>AP (x76 != (a0.Col.length:Int)) (Q false) (FA a0.Start fun r85=>AP (!r85) (Q false) (BG (fun (s163:Int) (next164:Int→Prop)=>AP (decide (s163<a0.Rows)) (AZ a0.Start s163 fun x170=>AZ a0.Start (AJ (s163+1)) fun x179=>zD a0.Col x170 x179 fun _=>cF ((a0.Col.take x179.toNat).drop x170.toNat) a0.Cols fun r197=>AP (!r197) (Q false) (next164 (AJ (s163+1)))) (Q true)) 0))))))))
def RM (a0:CM) (Q:Int→Prop):Prop:=
  OS a0.Ring fun r36=>AP (!r36) (Q 8) (FR (fun (k70:Bool→Prop)=>HB a0.A fun r71=>AP (!r71) (k70 true) (HB a0.B fun r76=>AP (!r76) (k70 true) (HB a0.Mask fun r81=>k70 (!r81)))) fun s69=>AP s69 (Q 7) (FR (fun (k93:Bool→Prop)=>AP (a0.A.Cols != a0.B.Rows) (k93 (a0.A.Cols != a0.B.Rows)) (AP (a0.Mask.Rows != a0.A.Rows) (k93 (a0.Mask.Rows != a0.A.Rows)) (k93 (a0.Mask.Cols != a0.B.Cols)))) fun s92=>AP s92 (Q 4) (IC a0.R 8 fun r104=>AP (!r104) (Q 3) (IC a0.C 8 fun r109=>AP (!r109) (Q 3) (IC a0.Room 64 fun r114=>AP (!r114) (Q 3) (Q 0))))))
def MF (a0:Int) (Q:Bool→Prop):Prop:=
  AP (decide (0<a0)) (Q (decide (a0≤8))) (Q false)
def PU (a0:Int) (a1:Int) (Q:Bool→Prop):Prop:=
  AP (decide (0≤a0)) (AP (decide (a0≤4096)) (MF a1 fun r3=>Q r3) (Q false)) (Q false)
def FH (a0:Int) (a1:Int) (a2:Int) (Q:Int→Prop):Prop:=
  PU a0 a1 fun r6=>AP (!r6) (Q 0) (nzP a1 <| Q (AJ ((AJ ((if a1<(if 0 > a2 then 0 else a2) then a1 else (if 0 > a2 then 0 else a2))*a0)).tdiv a1)))
def YH (a0:Int) (a1:Int) (a2:Int) (Q:Int→Prop):Prop:=
  PU a0 a1 fun r8=>AP (!r8) (Q (-1)) (AP (decide (a2<0)) (Q (-1)) (AP (decide (a0≤a2)) (Q (-1)) (nzP a0 <| BG (fun (s30:Int) (next31:Int→Prop)=>FH a0 a1 (AJ (s30+1)) fun r34=>AP (decide (r34≤a2)) (next31 (AJ (s30+1))) (Q s30)) (AJ ((AJ (a2*a1)).tdiv a0)))))
def SA (a0:Int) (a1:Int) (a2:Int) (Q:(Int×Int×Int)→Prop):Prop:=
  Q (a1,a0,a2)
def OB (o0:Nat) (o1:Int) (o2:Int) (o3:Int) (o4:List BC) (o5:Int) (o6:Int) (o7:Int) (o8:Int) (Y:Nat→Int→Int→Int→(List BC)→Int→Int→((Bool×Nat×(List BC)×Int)→Prop)→Prop) (Q:(Nat×(List BC)×Int)→Prop):Prop:=
  BG (fun (s:(List Int)×Int) (next145:((List Int)×Int)→Prop)=>match s with | (s139,s143)=>AP (decide (s143<o6)) (FH o7 o6 (AJ (s143+1)) fun r150=>GZ 8 s139 ([r150]) fun _=>next145 ((s139++([r150])),AJ (s143+1))) (BG (fun (s:(List Int)×Int) (next264:((List Int)×Int)→Prop)=>match s with | (s259,s263)=>AP (decide (s263<o8)) (FH o7 o8 (AJ (s263+1)) fun r270=>GZ 8 s259 ([r270]) fun _=>next264 ((s259++([r270])),AJ (s263+1))) (wA s259 fun y296=>BG (fun (s:(List BC)×Int×Int×Int×Nat) (next396:((List BC)×Int×Int×Int×Nat)→Prop)=>match s with | (s388,s392,s393,s394,s395)=>AP (decide (s394<(y296.length:Int))) (AZ y296 s394 fun x409=>AP (decide (s393<x409)) (Y s395 o1 o2 o3 s388 s392 x409 fun r420=>AP (!r420.1) (Q (r420.2.1,r420.2.2.1,r420.2.2.2)) (next396 (r420.2.2.1,r420.2.2.2,x409,AJ (s394+1),r420.2.1))) (next396 (s388,s392,x409,AJ (s394+1),s395))) (Q (s395,s388,s392))) (o4,o5,0,0,o0))) (s139,0))) (([]:List Int),0)
def JW (a0:Int) (a1:Int) (a2:Int) (Q:(List BC)→Prop):Prop:=
  PU a0 a1 fun r26=>AP (!r26) (Q ([]:List BC)) (PU a0 a2 fun r31=>AP (!r31) (Q ([]:List BC)) (SA a0 a1 a2 fun r63=>OB 0 a0 a1 a2 ([]:List BC) 0 r63.1 r63.2.1 r63.2.2 (fun (y132:Nat) (y133:Int) (y135:Int) (y137:Int) (y139:List BC) (y145:Int) (x147:Int) (Qy:(Bool×Nat×(List BC)×Int)→Prop)=>eqP y132 0 (YH y133 y135 y145 fun r148=>YH y133 y137 y145 fun r152=>GZ 32 y139 ([({ From:=y145,To:=x147,Row:=r148,Col:=r152 }:BC)]) fun _=>Qy (true,0,(y139++([({ From:=y145,To:=x147,Row:=r148,Col:=r152 }:BC)])),x147))) fun r166=>eqP r166.1 0 (Q r166.2.1)))
def SP (a0:Int) (a1:Int) (Q:Int→Prop):Prop:=
  MF a0 fun r1=>AP (!r1) (Q (-1)) (AP (decide (a1<0)) (Q (-1)) (AP (decide ((AJ (a0*8))≤a1)) (Q (-1)) (nzP a0 <| Q (AJ (a1.tdiv a0)))))
def V9 (a0:Int) (a1:Int) (Q:Int→Prop):Prop:=
  SP a0 a1 fun r1=>AP (decide (r1<0)) (Q (-1)) (nzP a0 <| Q (a1.tmod a0))
def PV (a0:Int) (Q:Bool→Prop):Prop:=
  AP (decide (1≤a0)) (Q (decide (a0≤8))) (Q false)
def TL (a0:Int) (a1:Int) (a2:Int) (a3:Int) (Q:Bool→Prop):Prop:=
  PV a0 fun r1=>AP r1 (PV a1 fun r6=>AP r6 (AP (decide (0≤a2)) (AP (decide (a2<a0)) (AP (decide (0≤a3)) (Q (decide (a3<a1))) (Q false)) (Q false)) (Q false)) (Q false)) (Q false)
def SQ (a0:Int) (a1:Int) (Q:Rows→Prop):Prop:=
  mkP 8 (AJ (a0+1)) 0 fun _=>Q ({ Rows:=a0,Cols:=a1,Start:=(List.replicate (AJ (a0+1)).toNat 0),Col:=([]:List Int),Val:=([]:List Int) }:Rows)
def PH (a0:Int) (a1:Int) (a2:List AC) (Q:Rows→Prop):Prop:=
  SQ a0 a1 fun r38=>BG (fun (s:(List Int)×(List Int)×(List Int)×Int) (next427:((List Int)×(List Int)×(List Int)×Int)→Prop)=>match s with | (s414,s418,s422,s426)=>AP (decide (s426<(a2.length:Int))) (AZ a2 s426 fun x445=>AZ s414 (AJ (x445.Row+1)) fun x464=>AZ s414 (AJ (x445.Row+1)) fun x469=>GZ 8 s418 ([x445.Col]) fun _=>GZ 8 s422 ([x445.Val]) fun _=>next427 ((s414.set ((AJ (x445.Row+1)).toNat) (AJ (x464+1))),(s418++([x445.Col])),(s422++([x445.Val])),AJ (s426+1))) (BG (fun (s:(List Int)×Int) (next535:((List Int)×Int)→Prop)=>match s with | (s530,s534)=>AP (decide (s534<a0)) (AZ s530 (AJ (s534+1)) fun x546=>AZ s530 s534 fun x551=>AZ s530 (AJ (s534+1)) fun x554=>next535 ((s530.set ((AJ (s534+1)).toNat) (AJ (x546+x551))),AJ (s534+1))) (Q ({ Rows:=r38.Rows,Cols:=r38.Cols,Start:=s530,Col:=s418,Val:=s422 }:Rows))) (s414,0))) (r38.Start,r38.Col,r38.Val,0)
def SR (a0:Rows) (Q:Rows→Prop):Prop:=
  HB a0 fun r27=>AP r27 (Q a0) (SQ 0 0 fun r32=>Q r32)
def PW (a0:Int×Int) (a1:Int) (Q:(Int×Int)→Prop):Prop:=
  AP (decide ((if a1<a0.2 then a1 else a0.2)≤(if 0 > a0.1 then 0 else a0.1))) (Q ((if 0 > a0.1 then 0 else a0.1),0)) (Q ((if 0 > a0.1 then 0 else a0.1),AJ ((if a1<a0.2 then a1 else a0.2) - (if 0 > a0.1 then 0 else a0.1))))
def VA (a0:Rows) (a1:Int) (Q:((List Int)×(List Int))→Prop):Prop:=
  AZ a0.Start a1 fun x39=>AZ a0.Start (AJ (a1+1)) fun x48=>zD a0.Col x39 x48 fun _=>zD a0.Val x39 x48 fun _=>Q (((a0.Col.take x48.toNat).drop x39.toNat),((a0.Val.take x48.toNat).drop x39.toNat))
def cG (a0:Rows) (a1:Int) (Q:(List CN)→Prop):Prop:=
  SR a0 fun r33=>FT a1 (AJ (r33.Rows - 1)) fun r54=>AP (!r54) (Q ([]:List CN)) (VA r33 a1 fun r73=>BG (fun (s:(List CN)×Int) (next161:((List CN)×Int)→Prop)=>match s with | (s155,s159)=>AP (decide (s159<(r73.1.length:Int))) (AZ r73.1 s159 fun x168=>AZ r73.2 s159 fun x177=>GZ 16 s155 ([({ At:=x168,Val:=x177 }:CN)]) fun _=>next161 ((s155++([({ At:=x168,Val:=x177 }:CN)])),AJ (s159+1))) (Q s155)) (([]:List CN),0))
def KG (a0:Rows) (a1:Int×Int) (a2:Int×Int) (Q:Rows→Prop):Prop:=
  SR a0 fun r51=>PW a1 r51.Rows fun r71=>PW a2 r51.Cols fun r79=>BG (fun (s:(List AC)×Int) (next446:((List AC)×Int)→Prop)=>match s with | (s440,s444)=>AP (decide (s444<r71.2)) (cG r51 (AJ (r71.1+s444)) fun r464=>BG (fun (s:(List AC)×Int) (next576:((List AC)×Int)→Prop)=>match s with | (s571,s575)=>AP (decide (s575<(r464.length:Int))) (AZ r464 s575 fun x595=>FR (fun (k608:Bool→Prop)=>AP (decide (r79.1≤x595.At)) (k608 (decide ((AJ (x595.At - r79.1))<r79.2))) (k608 false)) fun s607=>AP s607 (GZ 24 s571 ([({ Row:=s444,Col:=AJ (x595.At - r79.1),Val:=x595.Val }:AC)]) fun _=>next576 ((s571++([({ Row:=s444,Col:=AJ (x595.At - r79.1),Val:=x595.Val }:AC)])),AJ (s575+1))) (next576 (s571,AJ (s575+1)))) (next446 (s571,AJ (s444+1)))) (s440,0)) (PH r71.2 r79.2 s440 fun r627=>Q r627)) (([]:List AC),0)
def LG (a0:Int) (a1:Int) (a2:Int) (Q:(Int×Int)→Prop):Prop:=
  FH a0 a1 a2 fun r5=>FH a0 a1 (AJ (a2+1)) fun r9=>Q (r5,r9)
def PI (a0:Rows) (a1:Int) (a2:Int) (a3:Int) (a4:Int) (Q:Rows→Prop):Prop:=
  HB a0 fun r69=>AP (!r69) (KG ({ Rows:=0,Cols:=0,Start:=([]:List Int),Col:=([]:List Int),Val:=([]:List Int) }:Rows) (0,0) (0,0) fun r74=>Q r74) (TL a1 a2 a3 a4 fun r90=>AP (!r90) (KG ({ Rows:=0,Cols:=0,Start:=([]:List Int),Col:=([]:List Int),Val:=([]:List Int) }:Rows) (0,0) (0,0) fun r95=>Q r95) (LG a0.Rows a1 a3 fun r111=>LG a0.Cols a2 a4 fun r115=>KG a0 r111 r115 fun r119=>Q r119))
def KU (a0:Rows) (Q:(List AC)→Prop):Prop:=
  SR a0 fun r33=>BG (fun (s:(List AC)×Int) (next392:((List AC)×Int)→Prop)=>match s with | (s386,s390)=>AP (decide (s390<r33.Rows)) (VA r33 s390 fun r413=>BG (fun (s:(List AC)×Int) (next518:((List AC)×Int)→Prop)=>match s with | (s513,s517)=>AP (decide (s517<(r413.1.length:Int))) (AZ r413.1 s517 fun x535=>AZ r413.2 s517 fun x544=>GZ 24 s513 ([({ Row:=s390,Col:=x535,Val:=x544 }:AC)]) fun _=>next518 ((s513++([({ Row:=s390,Col:=x535,Val:=x544 }:AC)])),AJ (s517+1))) (next392 (s513,AJ (s390+1)))) (s386,0)) (Q s386)) (([]:List AC),0)
def HP (a0:Int) (a1:Int) (a2:Int) (Q:(Int×Int)→Prop):Prop:=
  FH a0 a1 a2 fun r5=>FH a0 a1 (AJ (a2+1)) fun r9=>Q (r5,r9)
def KV (a0:Int) (a1:Int) (Q:Bool→Prop):Prop:=
  AP (decide (0≤a0)) (Q (decide (a0≤a1))) (Q false)
def MG (a0:GH) (Q:Bool→Prop):Prop:=
  KV a0.A 63 fun r20=>AP (!r20) (Q false) (KV a0.B 63 fun r25=>AP (!r25) (Q false) (KV a0.K 63 fun r30=>AP (!r30) (Q false) (AP (decide (0<a0.Kind)) (Q (decide (a0.Kind≤5))) (Q false))))
def ES (a0:List CN) (Q:(List CN)→Prop):Prop:=
  zH a0 (Q ([]:List CN)) (GZ 16 ([]:List CN) a0 fun _=>Q (([]:List CN)++a0))
def FE (a0:List ZK) (Q:(List ZK)→Prop):Prop:=
  zH a0 (Q ([]:List ZK)) (GZ 24 ([]:List ZK) a0 fun _=>Q (([]:List ZK)++a0))
def DX (a0:List AC) (Q:(List AC)→Prop):Prop:=
  zH a0 (Q ([]:List AC)) (GZ 24 ([]:List AC) a0 fun _=>Q (([]:List AC)++a0))
def VB (a0:BI) (Q:BI→Prop):Prop:=
  ES a0.Vec.Items fun r37=>FE a0.Sums fun r47=>DX a0.Triples fun r58=>Q ({ Kind:=a0.Kind,From:=a0.From,To:=a0.To,Seq:=a0.Seq,Round:=a0.Round,Vec:=({ N:=a0.Vec.N,Items:=r37 }:Vec),Sums:=r47,Triples:=r58,N:=a0.N,Over:=a0.Over }:BI)
def LH (a0:Int) (Q:AL→Prop):Prop:=
  Q ({ Hi:=shr .i64 a0 63,Lo:=IntKind.wrap .u64 (a0) }:AL)
def IZ (a0:List Int) (Q:Int→Prop):Prop:=
  BG (fun (s31:Int) (next32:Int→Prop)=>AP (decide (s31<(a0.length:Int))) (AZ a0 s31 fun x38=>AP (x38 != 0) (Q x38) (next32 (AJ (s31+1)))) (Q 0)) 0
def KH (a0:Int) (Q:Bool→Prop):Prop:=
  Q (a0 != a0)
def IK (a0:Int) (a1:Int) (Q:Int→Prop):Prop:=
  KH a0 fun r5=>KH a1 fun r13=>AP r5 (AP r13 (Q 0) (Q (-1))) (AP r13 (Q 1) (AP (decide (a0<a1)) (Q (-1)) (AP (decide (a1<a0)) (Q 1) (Q 0))))
def JJ (a0:Int) (Q:Bool→Prop):Prop:=
  Q (a0 != a0)
def HQ (a0:Int) (a1:Int) (Q:Int→Prop):Prop:=
  JJ a0 fun r5=>JJ a1 fun r13=>AP r5 (AP r13 (Q 0) (Q (-1))) (AP r13 (Q 1) (AP (decide (a0<a1)) (Q (-1)) (AP (decide (a1<a0)) (Q 1) (Q 0))))
def OU (a0:AL) (a1:AL) (Q:Int→Prop):Prop:=
  IK a0.Hi a1.Hi fun r9=>HQ a0.Lo a1.Lo fun r13=>IZ ([r9,r13]:List Int) fun r22=>Q r22
def NN (a0:AL) (a1:AL) (Q:AL→Prop):Prop:=
  OU a0 a1 fun r13=>AP (decide (r13≤0)) (Q a0) (Q a1)
def KM (a0:Bool) (Q:AL→Prop):Prop:=
  AP a0 (LH 1 fun r6=>Q r6) (Q ({ Hi:=0,Lo:=0 }:AL))
def PX (a0:Bool) (Q:Int→Prop):Prop:=
  AP a0 (Q 1) (Q 0)
def VC (a0:AL) (a1:AL) (Q:AL→Prop):Prop:=
  PX (decide ((IntKind.wrap .u64 (a0.Lo+a1.Lo))<a1.Lo)) fun r13=>Q ({ Hi:=AJ (IntKind.wrap .u64 ((IntKind.wrap .u64 ((IntKind.wrap .u64 (a0.Hi))+(IntKind.wrap .u64 (a1.Hi))))+r13)),Lo:=IntKind.wrap .u64 (a0.Lo+a1.Lo) }:AL)
def SS (a0:Int) (a1:AL) (a2:AL) (Q:AL→Prop):Prop:=
  FR (fun (k18:Bool→Prop)=>AP (a0==1) (k18 (a0==1)) (AP (a0==3) (k18 (a0==3)) (k18 (a0==4)))) fun s17=>AP s17 (NN a1 a2 fun r24=>Q r24) (AP (a0==2) (AP (!(a1==a2)) (KM true fun r30=>Q r30) (KM (!(a1==({ Hi:=0,Lo:=0 }:AL))) fun r34=>Q r34)) (AP (a0==5) (VC a1 a2 fun r39=>Q r39) (Q ({ Hi:=0,Lo:=0 }:AL))))
def VD (a0:AL) (Q:(Int×Bool)→Prop):Prop:=
  LH (AJ (a0.Lo)) fun r5=>AP (!(r5==a0)) (Q (0,false)) (Q (AJ (a0.Lo),true))
def KW (a0:Int) (a1:AL) (Q:(Int×Bool)→Prop):Prop:=
  VD a1 fun r3=>Q (r3.1,r3.2)
def CY (a0:Int) (a1:Int) (Q:Int→Prop):Prop:=
  GQ a0 fun r5=>GQ a1 fun r13=>AP r5 (AP r13 (Q 0) (Q (-1))) (AP r13 (Q 1) (AP (decide (a0<a1)) (Q (-1)) (AP (decide (a1<a0)) (Q 1) (Q 0))))
def WA (a0:AC) (a1:AC) (Q:Int→Prop):Prop:=
  CY a0.Row a1.Row fun r9=>CY a0.Col a1.Col fun r13=>IZ ([r9,r13]:List Int) fun r22=>Q r22
def PY (a0:Int) (a1:List AC) (Q:((List AC)×Int)→Prop):Prop:=
  BG (fun (s:(List ((Int×Int)×AL))×Int) (next295:((List ((Int×Int)×AL))×Int)→Prop)=>match s with | (s293,s294)=>AP (decide (s294<(a1.length:Int))) (AZ a1 s294 fun x312=>LH x312.Val fun r332=>iU s293 (x312.Row,x312.Col) ({ Hi:=0,Lo:=0 }:AL) fun r338 t343=>AP t343 (SS a0 r338 r332 fun r347=>next295 ((EN (x312.Row,x312.Col) r347 s293),AJ (s294+1))) (next295 ((EN (x312.Row,x312.Col) r332 s293),AJ (s294+1)))) (BG (fun (s:(List AC)×(List ((Int×Int)×AL))) (next463:((List AC)×(List ((Int×Int)×AL)))→Prop)=>match s with | (s457,s461)=>vP s461 (rL WA s457 fun y494=>Q (y494,0)) (fun p481 l482=>KW a0 p481.2 fun r515=>AP (!r515.2) (Q (([]:List AC),12)) (GZ 24 s457 ([({ Row:=p481.1.1,Col:=p481.1.2,Val:=r515.1 }:AC)]) fun _=>next463 ((s457++([({ Row:=p481.1.1,Col:=p481.1.2,Val:=r515.1 }:AC)])),l482)))) (([]:List AC),s293))) (([]:List ((Int×Int)×AL)),0)
def TM (o0:Int) (o1:Int) (a0:AC) (Q:Bool→Prop):Prop:=
  FT a0.Row (AJ (o0 - 1)) fun r9=>AP (!r9) (Q true) (FT a0.Col (AJ (o1 - 1)) fun r14=>Q (!r14))
def CU (o0:Int) (o1:Int) (a0:List AC) (Q:Int→Prop):Prop:=
  BG (fun (s49:Int) (next50:Int→Prop)=>AP (decide (s49<(a0.length:Int))) (AZ a0 s49 fun x56=>TM o0 o1 x56 fun r70=>AP r70 (Q s49) (next50 (AJ (s49+1)))) (Q (-1))) 0
def CL (o0:Int) (o1:Int) (a0:List AC) (Q:Bool→Prop):Prop:=
  CU o0 o1 a0 fun r14=>Q (decide (0≤r14))
def PZ (a0:Int) (a1:Int) (a2:Int) (a3:List AC) (Q:(Rows×Int)→Prop):Prop:=
  OS a0 fun r80=>AP (!r80) (Q (({ Rows:=0,Cols:=0,Start:=([]:List Int),Col:=([]:List Int),Val:=([]:List Int) }:Rows),8)) (FR (fun (k104:Bool→Prop)=>FT a1 4096 fun r105=>AP (!r105) (k104 true) (FT a2 4096 fun r110=>k104 (!r110))) fun s103=>AP s103 (Q (({ Rows:=0,Cols:=0,Start:=([]:List Int),Col:=([]:List Int),Val:=([]:List Int) }:Rows),3)) (AP (decide (65536<(a3.length:Int))) (Q (({ Rows:=0,Cols:=0,Start:=([]:List Int),Col:=([]:List Int),Val:=([]:List Int) }:Rows),5)) (CL a1 a2 a3 fun r124=>AP r124 (Q (({ Rows:=0,Cols:=0,Start:=([]:List Int),Col:=([]:List Int),Val:=([]:List Int) }:Rows),3)) (PY a0 a3 fun r138=>AP (r138.2 != 0) (Q (({ Rows:=0,Cols:=0,Start:=([]:List Int),Col:=([]:List Int),Val:=([]:List Int) }:Rows),r138.2)) (PH a1 a2 r138.1 fun r150=>Q (r150,0))))))
def WB (a0:List Rows) (Q:(List Rows)→Prop):Prop:=
  BG (fun (s:(List Rows)×Int) (next180:((List Rows)×Int)→Prop)=>match s with | (s174,s178)=>AP (decide (s178<(a0.length:Int))) (AZ a0 s178 fun x206=>HB x206 fun r225=>AP (!r225) (KG x206 (0,0) (0,0) fun r230=>GZ 88 s174 ([r230]) fun _=>next180 ((s174++([r230])),AJ (s178+1))) (GZ 88 s174 ([x206]) fun _=>next180 ((s174++([x206])),AJ (s178+1)))) (Q s174)) (([]:List Rows),0)
def PJ (a0:Rows) (a1:Int) (Q:((List Int)×(List Int))→Prop):Prop:=
  AZ a0.Start a1 fun x39=>AZ a0.Start (AJ (a1+1)) fun x48=>zD a0.Col x39 x48 fun _=>zD a0.Val x39 x48 fun _=>Q (((a0.Col.take x48.toNat).drop x39.toNat),((a0.Val.take x48.toNat).drop x39.toNat))
def GJ (a0:Int) (Q:(Int×Int)→Prop):Prop:=
  Q (shr .u64 (shl .u64 a0 32) 32,shr .u64 a0 32)
def OV (a0:Int) (a1:Int) (Q:AL→Prop):Prop:=
  GJ a0 fun r17=>GJ a1 fun r21=>GJ (IntKind.wrap .u64 (r17.1*r21.1)) fun r40=>GJ (IntKind.wrap .u64 ((IntKind.wrap .u64 (r17.2*r21.1))+r40.2)) fun r44=>GJ (IntKind.wrap .u64 ((IntKind.wrap .u64 (r17.1*r21.2))+r44.1)) fun r55=>GJ (IntKind.wrap .u64 (r17.1*r21.1)) fun r61=>Q ({ Hi:=AJ (IntKind.wrap .u64 ((IntKind.wrap .u64 ((IntKind.wrap .u64 (r17.2*r21.2))+r44.2))+r55.2)),Lo:=yZ .u64 (shl .u64 r55.1 32) r61.1 }:AL)
def ST (a0:Int) (Q:Int→Prop):Prop:=
  AP (decide (a0<0)) (Q (IntKind.wrap .u64 (0 - (IntKind.wrap .u64 (a0))))) (Q (IntKind.wrap .u64 (a0)))
def YI (a0:AL) (a1:AL) (Q:AL→Prop):Prop:=
  PX (decide (a0.Lo<a1.Lo)) fun r13=>Q ({ Hi:=AJ (IntKind.wrap .u64 ((IntKind.wrap .u64 ((IntKind.wrap .u64 (a0.Hi)) - (IntKind.wrap .u64 (a1.Hi)))) - r13)),Lo:=IntKind.wrap .u64 (a0.Lo - a1.Lo) }:AL)
def YJ (a0:Int) (a1:Int) (Q:AL→Prop):Prop:=
  ST a0 fun r19=>ST a1 fun r23=>OV r19 r23 fun r27=>AP (!((decide (a0<0))==(decide (a1<0)))) (YI ({ Hi:=0,Lo:=0 }:AL) r27 fun r34=>Q r34) (Q r27)
def YK (a0:Int) (a1:Int) (a2:Int) (Q:AL→Prop):Prop:=
  AP (a0==2) (AP (a1 != 0) (KM (a2 != 0) fun r22=>Q r22) (KM false fun r26=>Q r26)) (AP (a0==5) (YJ a1 a2 fun r31=>Q r31) (FR (fun (k55:Unit→Prop)=>OS a0 fun r56=>AP r56 (AP (decide (4611686018427387904≤(if a2 > a1 then a2 else a1))) (LH 4611686018427387904 fun r62=>Q r62) (k55 ())) (k55 ())) fun _=>FR (fun (k90:(Int×Int)→Prop)=>AP (a0==1) (LH a1 fun r93=>k90 (r93.Hi,r93.Lo)) (AP (a0==4) (k90 (0,0)) (AP (a0==3) (LH a1 fun r99=>Q r99) (Q ({ Hi:=0,Lo:=0 }:AL))))) fun (s88,s89)=>LH 4611686018427387904 fun r106=>LH a2 fun r110=>VC ({ Hi:=s88,Lo:=s89 }:AL) r110 fun r114=>NN r106 r114 fun r118=>Q r118))
def OW (o0:List (Int×Bool)) (a0:Int) (a1:Rows) (a2:Rows) (a3:Int) (Q:(List (Int×AL))→Prop):Prop:=
  PJ a1 a3 fun r46=>BG (fun (s:(List (Int×AL))×Int) (next759:((List (Int×AL))×Int)→Prop)=>match s with | (s757,s758)=>AP (decide (s758<(r46.1.length:Int))) (AZ r46.1 s758 fun x775=>PJ a2 x775 fun r798=>BG (fun (s:(List (Int×AL))×Int) (next1011:((List (Int×AL))×Int)→Prop)=>match s with | (s1009,s1010)=>AP (decide (s1010<(r798.1.length:Int))) (AZ r798.1 s1010 fun x1028=>tG o0 x1028 false fun r1043=>AP (!r1043) (next1011 (s1009,AJ (s1010+1))) (AZ r46.2 s758 fun x1075=>AZ r798.2 s1010 fun x1084=>YK a0 x1075 x1084 fun r1093=>iU s1009 x1028 ({ Hi:=0,Lo:=0 }:AL) fun r1098 t1103=>AP t1103 (SS a0 r1098 r1093 fun r1107=>next1011 ((EN x1028 r1107 s1009),AJ (s1010+1))) (next1011 ((EN x1028 r1093 s1009),AJ (s1010+1))))) (next759 (s1009,AJ (s758+1)))) (s757,0)) (Q s757)) (([]:List (Int×AL)),0)
def QA (a0:Int) (a1:Rows) (a2:Rows) (a3:Rows) (Q:((List AK)×Int)→Prop):Prop:=
  WB ([a1,a2,a3]:List Rows) fun r64=>AZ r64 0 fun x130=>AZ r64 1 fun x148=>AZ r64 2 fun x166=>OS a0 fun r199=>AP (!r199) (Q (([]:List AK),8)) (AP (x130.Cols != x148.Rows) (Q (([]:List AK),4)) (AP (x166.Rows != x130.Rows) (Q (([]:List AK),4)) (AP (x166.Cols != x148.Cols) (Q (([]:List AK),4)) (BG (fun (s:(List AK)×Int) (next840:((List AK)×Int)→Prop)=>match s with | (s834,s838)=>AP (decide (s838<x166.Rows)) (PJ x166 s838 fun r861=>BG (fun (s:(List (Int×Bool))×Int) (next956:((List (Int×Bool))×Int)→Prop)=>match s with | (s954,s955)=>AP (decide (s955<(r861.1.length:Int))) (AZ r861.1 s955 fun x964=>next956 ((EN x964 true s954),AJ (s955+1))) (OW s954 a0 x130 x148 s838 fun r990=>BG (fun (s:(List AK)×Int) (next1102:((List AK)×Int)→Prop)=>match s with | (s1097,s1101)=>AP (decide (s1101<(r861.1.length:Int))) (AZ r861.1 s1101 fun x1120=>iU r990 x1120 ({ Hi:=0,Lo:=0 }:AL) fun r1136 t1141=>AP t1141 (GZ 32 s1097 ([({ Row:=s838,Col:=x1120,Val:=r1136 }:AK)]) fun _=>next1102 ((s1097++([({ Row:=s838,Col:=x1120,Val:=r1136 }:AK)])),AJ (s1101+1))) (next1102 (s1097,AJ (s1101+1)))) (next840 (s1097,AJ (s838+1)))) (s834,0))) (([]:List (Int×Bool)),0)) (Q (s834,0))) (([]:List AK),0)))))
def QB (a0:AK) (a1:AK) (Q:Int→Prop):Prop:=
  CY a0.Row a1.Row fun r9=>CY a0.Col a1.Col fun r13=>IZ ([r9,r13]:List Int) fun r22=>Q r22
def JA (a0:List AK) (Q:Bool→Prop):Prop:=
  BG (fun (s35:Int) (next36:Int→Prop)=>AP (decide (s35<(a0.length:Int))) (AP (decide (0<s35)) (AZ a0 (AJ (s35 - 1)) fun x43=>AZ a0 s35 fun x52=>QB x43 x52 fun r60=>AP (decide (0≤r60)) (Q false) (next36 (AJ (s35+1)))) (next36 (AJ (s35+1)))) (Q true)) 0
def EW (a1:Int) (Q:(List AK)→Prop):Prop:=
  AP (decide (a1<0)) (False) (AP (decide (0<(AJ (a1 - (AJ (0 - 0)))))) (grP 32 (AJ (a1 - (AJ (0 - 0)))) <| Q ([]:List AK)) (Q ([]:List AK)))
def DE (a0:List (List AK)) (Q:(List AK)→Prop):Prop:=
  BG (fun (s:Int×Int) (next161:(Int×Int)→Prop)=>match s with | (s159,s160)=>AP (decide (s160<(a0.length:Int))) (AZ a0 s160 fun x179=>AP (decide ((AJ (s159+(x179.length:Int)))<0)) (False) (next161 (AJ (s159+(x179.length:Int)),AJ (s160+1)))) (EW s159 fun r203=>BG (fun (s:(List AK)×Int) (next271:((List AK)×Int)→Prop)=>match s with | (s266,s270)=>AP (decide (s270<(a0.length:Int))) (AZ a0 s270 fun x278=>GZ 32 s266 x278 fun _=>next271 ((s266++x278),AJ (s270+1))) (Q s266)) (r203,0))) (0,0)
def MH (a0:List AK) (Q:Bool→Prop):Prop:=
  JA a0 fun r4=>Q (!r4)
def DH (a0:List (List AK)) (Q:Int→Prop):Prop:=
  BG (fun (s51:Int) (next52:Int→Prop)=>AP (decide (s51<(a0.length:Int))) (AZ a0 s51 fun x58=>MH x58 fun r75=>AP r75 (Q s51) (next52 (AJ (s51+1)))) (Q (-1))) 0
def CZ (a0:List (List AK)) (Q:Bool→Prop):Prop:=
  DH a0 fun r10=>Q (decide (0≤r10))
def EH (a0:AK) (a1:AK) (Q:Int→Prop):Prop:=
  CY a0.Row a1.Row fun r9=>CY a0.Col a1.Col fun r13=>IZ ([r9,r13]:List Int) fun r22=>Q r22
def BS (o0:List AK) (a0:Int) (a1:Int) (Q:(List AK)→Prop):Prop:=
  BG (fun (s:(List AK)×Int) (next332:((List AK)×Int)→Prop)=>match s with | (s330,s331)=>AP (decide (s331<a1)) (BG (fun (s:(List AK)×Int) (next446:((List AK)×Int)→Prop)=>match s with | (s444,s445)=>AP (decide (a0<s445)) (AZ s444 s445 fun x474=>AZ s444 (AJ (s445 - 1)) fun x479=>EH x474 x479 fun r487=>AP (decide (r487<0)) (AZ s444 (AJ (s445 - 1)) fun x492=>AZ s444 s445 fun x495=>AZ s444 s445 fun x498=>AZ (s444.set s445.toNat x492) (AJ (s445 - 1)) fun x501=>next446 (((s444.set s445.toNat x492).set ((AJ (s445 - 1)).toNat) x495),AJ (s445 - 1))) (next332 (s444,AJ (s331+1)))) (next332 (s444,AJ (s331+1)))) (s330,s331)) (Q s330)) (o0,AJ (a0+1))
def BQ (o0:List AK) (a0:Int) (a1:Int) (a2:Int) (Q:(List AK)→Prop):Prop:=
  BG (fun (s:(List AK)×Int) (next46:((List AK)×Int)→Prop)=>match s with | (s44,s45)=>AP (decide (s45<a2)) (AZ s44 (AJ (a1+s45)) fun x54=>AZ s44 (AJ (a0+s45)) fun x59=>AZ s44 (AJ (a0+s45)) fun x62=>AZ (s44.set ((AJ (a0+s45)).toNat) x54) (AJ (a1+s45)) fun x65=>next46 (((s44.set ((AJ (a0+s45)).toNat) x54).set ((AJ (a1+s45)).toNat) x59),AJ (s45+1))) (Q s44)) (o0,0)
def DB (o0:List AK) (a0:Int) (a1:Int) (a2:Int) (Q:(List AK)→Prop):Prop:=
  BG (fun (s:(List AK)×Int×Int) (next66:((List AK)×Int×Int)→Prop)=>match s with | (s63,s64,s65)=>AP (s64 != s65) (AP (decide (s65<s64)) (BQ s63 (AJ (a1 - s64)) a1 s65 fun r79=>next66 (r79,AJ (s64 - s65),s65)) (BQ s63 (AJ (a1 - s64)) (AJ ((AJ (a1+s65)) - s64)) s64 fun r91=>next66 (r91,s64,AJ (s65 - s64)))) (BQ s63 (AJ (a1 - s64)) a1 s64 fun r103=>Q r103)) (o0,AJ (a1 - a0),AJ (a2 - a1))
def BB (rc:(List AK)→Int→Int→Int→((List AK)→Prop)→Prop) (o0:List AK) (a0:Int) (a1:Int) (a2:Int) (Q:(List AK)→Prop):Prop:=
  AP ((AJ (a1 - a0))==1) (BG (fun (s:Int×Int) (next323:(Int×Int)→Prop)=>match s with | (s321,s322)=>AP (decide (s321<s322)) (AZ o0 (AJ (shr .u64 (IntKind.wrap .u64 (AJ (s321+s322))) 1)) fun x330=>AZ o0 a0 fun x335=>EH x330 x335 fun r343=>AP (decide (r343<0)) (next323 (AJ ((AJ (shr .u64 (IntKind.wrap .u64 (AJ (s321+s322))) 1))+1),s322)) (next323 (s321,AJ (shr .u64 (IntKind.wrap .u64 (AJ (s321+s322))) 1)))) (BG (fun (s:(List AK)×Int) (next388:((List AK)×Int)→Prop)=>match s with | (s386,s387)=>AP (decide (s387<(AJ (s321 - 1)))) (AZ s386 (AJ (s387+1)) fun x397=>AZ s386 s387 fun x402=>AZ s386 s387 fun x405=>AZ (s386.set s387.toNat x397) (AJ (s387+1)) fun x408=>next388 (((s386.set s387.toNat x397).set ((AJ (s387+1)).toNat) x402),AJ (s387+1))) (Q s386)) (o0,a0))) (a1,a2)) (AP ((AJ (a2 - a1))==1) (BG (fun (s:Int×Int) (next729:(Int×Int)→Prop)=>match s with | (s727,s728)=>AP (decide (s727<s728)) (AZ o0 a1 fun x736=>AZ o0 (AJ (shr .u64 (IntKind.wrap .u64 (AJ (s727+s728))) 1)) fun x741=>EH x736 x741 fun r749=>AP (!(decide (r749<0))) (next729 (AJ ((AJ (shr .u64 (IntKind.wrap .u64 (AJ (s727+s728))) 1))+1),s728)) (next729 (s727,AJ (shr .u64 (IntKind.wrap .u64 (AJ (s727+s728))) 1)))) (BG (fun (s:(List AK)×Int) (next794:((List AK)×Int)→Prop)=>match s with | (s792,s793)=>AP (decide (s727<s793)) (AZ s792 (AJ (s793 - 1)) fun x803=>AZ s792 s793 fun x808=>AZ s792 s793 fun x811=>AZ (s792.set s793.toNat x803) (AJ (s793 - 1)) fun x814=>next794 (((s792.set s793.toNat x803).set ((AJ (s793 - 1)).toNat) x808),AJ (s793 - 1))) (Q s792)) (o0,a1))) (a0,a1)) (FR (fun (k820:(Int×Int)→Prop)=>AP (decide ((AJ (shr .u64 (IntKind.wrap .u64 (AJ (a0+a2))) 1))<a1)) (k820 (AJ ((AJ ((AJ (shr .u64 (IntKind.wrap .u64 (AJ (a0+a2))) 1))+a1)) - a2),AJ (shr .u64 (IntKind.wrap .u64 (AJ (a0+a2))) 1))) (k820 (a0,a1))) fun (s818,s819)=>BG (fun (s:Int×Int) (next945:(Int×Int)→Prop)=>match s with | (s943,s944)=>AP (decide (s943<s944)) (AZ o0 (AJ ((AJ ((AJ ((AJ (shr .u64 (IntKind.wrap .u64 (AJ (a0+a2))) 1))+a1)) - 1)) - (AJ (shr .u64 (IntKind.wrap .u64 (AJ (s943+s944))) 1)))) fun x953=>AZ o0 (AJ (shr .u64 (IntKind.wrap .u64 (AJ (s943+s944))) 1)) fun x958=>EH x953 x958 fun r966=>AP (!(decide (r966<0))) (next945 (AJ ((AJ (shr .u64 (IntKind.wrap .u64 (AJ (s943+s944))) 1))+1),s944)) (next945 (s943,AJ (shr .u64 (IntKind.wrap .u64 (AJ (s943+s944))) 1)))) (FR (fun (k1001:(List AK)→Prop)=>AP (decide (s943<a1)) (AP (decide (a1<(AJ ((AJ ((AJ (shr .u64 (IntKind.wrap .u64 (AJ (a0+a2))) 1))+a1)) - s943)))) (DB o0 s943 a1 (AJ ((AJ ((AJ (shr .u64 (IntKind.wrap .u64 (AJ (a0+a2))) 1))+a1)) - s943)) fun r1010=>k1001 r1010) (k1001 o0)) (k1001 o0)) fun s1000=>FR (fun (k1055:(List AK)→Prop)=>AP (decide (a0<s943)) (AP (decide (s943<(AJ (shr .u64 (IntKind.wrap .u64 (AJ (a0+a2))) 1)))) (rc s1000 a0 s943 (AJ (shr .u64 (IntKind.wrap .u64 (AJ (a0+a2))) 1)) fun r1064=>k1055 r1064) (k1055 s1000)) (k1055 s1000)) fun s1054=>AP (decide ((AJ (shr .u64 (IntKind.wrap .u64 (AJ (a0+a2))) 1))<(AJ ((AJ ((AJ (shr .u64 (IntKind.wrap .u64 (AJ (a0+a2))) 1))+a1)) - s943)))) (AP (decide ((AJ ((AJ ((AJ (shr .u64 (IntKind.wrap .u64 (AJ (a0+a2))) 1))+a1)) - s943))<a2)) (rc s1054 (AJ (shr .u64 (IntKind.wrap .u64 (AJ (a0+a2))) 1)) (AJ ((AJ ((AJ (shr .u64 (IntKind.wrap .u64 (AJ (a0+a2))) 1))+a1)) - s943)) a2 fun r1086=>Q r1086) (Q s1054)) (Q s1054))) (s818,s819)))
def CJ:Nat→(List AK)→Int→Int→Int→((List AK)→Prop)→Prop
  | 0=>fun _ _ _ _ _=>False
  | k+1=>BB (CJ k)
def CQ (o0:List AK) (a0:Int) (a1:Int) (a2:Int) (Q:(List AK)→Prop):Prop:=∃ k,CJ k o0 a0 a1 a2 Q
def EC (o0:List AK) (a0:Int) (Q:(List AK)→Prop):Prop:=
  BG (fun (s:(List AK)×Int×Int) (next98:((List AK)×Int×Int)→Prop)=>match s with | (s95,s96,s97)=>AP (decide (s97≤a0)) (BS s95 s96 s97 fun r110=>next98 (r110,s97,AJ (s97+20))) (BS s95 s96 a0 fun r134=>BG (fun (s:(List AK)×Int) (next420:((List AK)×Int)→Prop)=>match s with | (s418,s419)=>AP (decide (s419<a0)) (BG (fun (s:(List AK)×Int×Int) (next533:((List AK)×Int×Int)→Prop)=>match s with | (s530,s531,s532)=>AP (decide (s532≤a0)) (CQ s530 s531 (AJ (s531+s419)) s532 fun r547=>next533 (r547,s532,AJ (s532+(AJ (2*s419))))) (AP (decide ((AJ (s531+s419))<a0)) (CQ s530 s531 (AJ (s531+s419)) a0 fun r562=>next420 (r562,AJ (s419*2))) (next420 (s530,AJ (s419*2))))) (s418,0,AJ (2*s419))) (Q s418)) (r134,20))) (o0,0,20)
def BX (o0:List AK) (Q:(List AK)→Prop):Prop:=
  EC o0 (o0.length:Int) fun r10=>Q r10
def MI (a0:Int) (a1:List (List AK)) (Q:((List AK)×Int)→Prop):Prop:=
  OS a0 fun r12=>AP (!r12) (Q (([]:List AK),8)) (CZ a1 fun r31=>AP r31 (Q (([]:List AK),6)) (DE a1 fun r45=>BX r45 fun r75=>BG (fun (s:(List AK)×Int) (next199:((List AK)×Int)→Prop)=>match s with | (s193,s197)=>AP (decide (s197<(r75.length:Int))) (AZ r75 s197 fun x213=>FR (fun (k242:Bool→Prop)=>AP (decide (0<(s193.length:Int))) (AZ s193 (AJ ((s193.length:Int) - 1)) fun x246=>QB x246 x213 fun r250=>k242 (r250==0)) (k242 false)) fun s241=>AP s241 (AZ s193 (AJ ((s193.length:Int) - 1)) fun x261=>SS a0 x261.Val x213.Val fun r265=>AZ s193 (AJ ((s193.length:Int) - 1)) fun x270=>next199 ((s193.set ((AJ ((s193.length:Int) - 1)).toNat) ({ Row:=x270.Row,Col:=x270.Col,Val:=r265 }:AK)),AJ (s197+1))) (GZ 32 s193 ([x213]) fun _=>next199 ((s193++([x213])),AJ (s197+1)))) (Q (s193,0))) (([]:List AK),0)))
def HR (a0:List Int) (Q:Int→Prop):Prop:=
  AP (decide ((a0.length:Int)<1)) (False) (AZ a0 0 fun x16=>BG (fun (s:Int×Int) (next54:(Int×Int)→Prop)=>match s with | (s52,s53)=>AP (decide (s53<(a0.length:Int))) (AZ a0 s53 fun x60=>next54 ((if x60<s52 then x60 else s52),AJ (s53+1))) (Q s52)) (x16,1))
def FW (a0:AK) (a1:AK) (Q:Int→Prop):Prop:=
  CY a0.Row a1.Row fun r9=>CY a0.Col a1.Col fun r13=>IZ ([r9,r13]:List Int) fun r22=>Q r22
def SU (a0:Int) (Q:Int→Prop):Prop:=
  AP (a0==1) (Q 4611686018427387904) (AP (a0==3) (Q 4611686018427387904) (AP (a0==4) (Q 4611686018427387904) (Q 0)))
def JB (a0:Int) (a1:Int) (Q:Bool→Prop):Prop:=
  AP (decide (0≤a0)) (Q (decide (a0≤a1))) (Q false)
def OC (o0:Int) (o1:Int) (a0:AK) (Q:Bool→Prop):Prop:=
  JB a0.Row (AJ (o0 - 1)) fun r9=>AP (!r9) (Q true) (JB a0.Col (AJ (o1 - 1)) fun r14=>Q (!r14))
def DI (o0:Int) (o1:Int) (a0:List AK) (Q:Int→Prop):Prop:=
  BG (fun (s49:Int) (next50:Int→Prop)=>AP (decide (s49<(a0.length:Int))) (AZ a0 s49 fun x56=>OC o0 o1 x56 fun r70=>AP r70 (Q s49) (next50 (AJ (s49+1)))) (Q (-1))) 0
def DA (o0:Int) (o1:Int) (a0:List AK) (Q:Bool→Prop):Prop:=
  DI o0 o1 a0 fun r14=>Q (decide (0≤r14))
def WC (a0:Int) (a1:Int) (a2:Int) (a3:List AK) (Q:(Rows×Int)→Prop):Prop:=
  OS a0 fun r97=>AP (!r97) (Q (({ Rows:=0,Cols:=0,Start:=([]:List Int),Col:=([]:List Int),Val:=([]:List Int) }:Rows),8)) (FR (fun (k121:Bool→Prop)=>JB a1 4096 fun r122=>AP (!r122) (k121 true) (JB a2 4096 fun r127=>k121 (!r127))) fun s120=>AP s120 (Q (({ Rows:=0,Cols:=0,Start:=([]:List Int),Col:=([]:List Int),Val:=([]:List Int) }:Rows),3)) (DA a1 a2 a3 fun r148=>AP r148 (Q (({ Rows:=0,Cols:=0,Start:=([]:List Int),Col:=([]:List Int),Val:=([]:List Int) }:Rows),3)) (JA a3 fun r155=>AP (!r155) (Q (({ Rows:=0,Cols:=0,Start:=([]:List Int),Col:=([]:List Int),Val:=([]:List Int) }:Rows),6)) (AP (decide (65536<(a3.length:Int))) (Q (({ Rows:=0,Cols:=0,Start:=([]:List Int),Col:=([]:List Int),Val:=([]:List Int) }:Rows),5)) (BG (fun (s:(List AC)×Int) (next454:((List AC)×Int)→Prop)=>match s with | (s448,s452)=>AP (decide (s452<(a3.length:Int))) (AZ a3 s452 fun x472=>KW a0 x472.Val fun r486=>AP (!r486.2) (Q (({ Rows:=0,Cols:=0,Start:=([]:List Int),Col:=([]:List Int),Val:=([]:List Int) }:Rows),12)) (SU a0 fun r496=>AP (r486.1 != r496) (GZ 24 s448 ([({ Row:=x472.Row,Col:=x472.Col,Val:=r486.1 }:AC)]) fun _=>next454 ((s448++([({ Row:=x472.Row,Col:=x472.Col,Val:=r486.1 }:AC)])),AJ (s452+1))) (next454 (s448,AJ (s452+1))))) (PZ a0 a1 a2 s448 fun r512=>Q (r512.1,r512.2))) (([]:List AC),0))))))
def HS (a0:GI) (a1:Int) (Q:(List GH)→Prop):Prop:=
  BG (fun (s:(List GH)×Int) (next151:((List GH)×Int)→Prop)=>match s with | (s145,s149)=>AP (decide (s149<(a0.L.length:Int))) (AP (decide (s149<120)) (AZ a0.L s149 fun x170=>DV x170.Kind 5 fun r184=>DV x170.A a1 fun r192=>DV x170.B a1 fun r200=>DV x170.K 3 fun r204=>GZ 32 s145 ([({ Kind:=AJ (r184+1),A:=r192,B:=r200,K:=r204 }:GH)]) fun _=>next151 ((s145++([({ Kind:=AJ (r184+1),A:=r192,B:=r200,K:=r204 }:GH)])),AJ (s149+1))) (Q s145)) (Q s145)) (([]:List GH),0)
def RN (a0:Rows) (Q:Bool→Prop):Prop:=
  AP (decide (a0.Rows<0)) (Q false) (AP (decide (4096<a0.Rows)) (Q false) (AP (decide (a0.Cols<0)) (Q false) (AP (decide (4096<a0.Cols)) (Q false) (AP ((a0.Start.length:Int) != (AJ (a0.Rows+1))) (Q false) (AP ((a0.Col.length:Int) != (a0.Val.length:Int)) (Q false) (AP (decide (65536<(a0.Col.length:Int))) (Q false) (AZ a0.Start 0 fun x49=>AP (x49 != 0) (Q false) (AZ a0.Start a0.Rows fun x59=>AP (x59 != (a0.Col.length:Int)) (Q false) (BG (fun (s695:Int) (next696:Int→Prop)=>AP (decide (s695<a0.Rows)) (AZ a0.Start s695 fun x741=>AZ a0.Start (AJ (s695+1)) fun x750=>AP (decide (x750<x741)) (Q false) (AZ a0.Start s695 fun x760=>AP (decide (x760<0)) (Q false) (AZ a0.Start (AJ (s695+1)) fun x770=>AP (decide ((a0.Col.length:Int)<x770)) (Q false) (AZ a0.Start s695 fun x789=>BG (fun (s938:Int) (next939:Int→Prop)=>AZ a0.Start (AJ (s695+1)) fun x954=>AP (decide (s938<x954)) (AZ a0.Col s938 fun x964=>AP (decide (x964<0)) (Q false) (AZ a0.Col s938 fun x974=>AP (decide (a0.Cols≤x974)) (Q false) (AZ a0.Start s695 fun x984=>AP (decide (x984<s938)) (AZ a0.Col s938 fun x994=>AZ a0.Col (AJ (s938 - 1)) fun x1003=>AP (decide (x994≤x1003)) (Q false) (next939 (AJ (s938+1)))) (next939 (AJ (s938+1)))))) (next696 (AJ (s695+1)))) x789)))) (Q true)) 0)))))))))
def TN (a0:Rows) (Q:Rows→Prop):Prop:=
  RN a0 fun r27=>AP r27 (Q a0) (NL 0 0 fun r32=>Q r32)
def WD (a0:Rows) (a1:Int) (Q:(List CN)→Prop):Prop:=
  TN a0 fun r33=>AP (decide (a1<0)) (Q ([]:List CN)) (AP (decide (r33.Rows≤a1)) (Q ([]:List CN)) (AZ r33.Start a1 fun x63=>BG (fun (s:(List CN)×Int) (next182:((List CN)×Int)→Prop)=>match s with | (s176,s180)=>AZ r33.Start (AJ (a1+1)) fun x197=>AP (decide (s180<x197)) (AZ r33.Col s180 fun x208=>AZ r33.Val s180 fun x217=>GZ 16 s176 ([({ At:=x208,Val:=x217 }:CN)]) fun _=>next182 ((s176++([({ At:=x208,Val:=x217 }:CN)])),AJ (s180+1))) (Q s176)) (([]:List CN),x63)))
def WE (a0:Rows) (a1:Int) (a2:Int) (Q:(Int×Bool)→Prop):Prop:=
  WD a0 a1 fun r24=>BG (fun (s97:Int) (next98:Int→Prop)=>AP (decide (s97<(r24.length:Int))) (AZ r24 s97 fun x114=>AP (x114.At==a2) (AZ r24 s97 fun x124=>Q (x124.Val,true)) (next98 (AJ (s97+1)))) (Q (0,false))) 0
def HT (a0:Int) (a1:Int) (a2:Int) (Q:Int→Prop):Prop:=
  MF a0 fun r1=>AP (!r1) (Q (-1)) (AP (decide (a1<0)) (Q (-1)) (AP (decide (8≤a1)) (Q (-1)) (AP (decide (a2<0)) (Q (-1)) (AP (decide (a0≤a2)) (Q (-1)) (Q (AJ ((AJ (a1*a0))+a2)))))))
def CB (o1:CM) (o2:Int) (o3:List (Nat×AA)) (o4:AA) (a0:Int) (a1:Int) (a2:Int) (a3:List AC) (Q:AA→Prop):Prop:=
  HT o1.C o4.i o4.j fun r59=>HT o1.C a1 a2 fun r63=>GZ 136 o4.out ([({ Kind:=a0,From:=r59,To:=r63,Seq:=0,Round:=o2,Vec:=({ N:=0,Items:=([]:List CN) }:Vec),Sums:=([]:List ZK),Triples:=a3,N:=0,Over:=false }:BI)]) fun _=>Q ({ i:=o4.i,j:=o4.j,mask:=o4.mask,out:=(o4.out++([({ Kind:=a0,From:=r59,To:=r63,Seq:=0,Round:=o2,Vec:=({ N:=0,Items:=([]:List CN) }:Vec),Sums:=([]:List ZK),Triples:=a3,N:=0,Over:=false }:BI)])),parts:=o4.parts,at_:=o4.at_,has:=o4.has }:AA)
def FK (o0:AD) (o1:AA) (o2:List (Nat×AA)) (a0:Int) (a1:BC) (Q:AA→Prop):Prop:=
  FR (fun (k645:(Int×Int×Int×Int×(List Int)×(List Int)×(List Int)×(List BI)×(List (AX×(List AC)))×Int×(List AK))→Prop)=>AP (a1.Col==o1.j) (HP o0.p.A.Rows o0.p.R o1.i fun r678=>KG o0.p.A r678 (a1.From,a1.To) fun r682=>KU r682 fun r698=>BG (fun (s:Int×Int×Int×Int×(List Int)×(List Int)×(List Int)×(List BI)×(List (AX×(List AC)))×Int×(List AK)×Int) (next879:(Int×Int×Int×Int×(List Int)×(List Int)×(List Int)×(List BI)×(List (AX×(List AC)))×Int×(List AK)×Int)→Prop)=>match s with | (s852,s853,s854,s855,s856,s860,s864,s868,s872,s873,s874,s878)=>AP (decide (s878<o0.p.C)) (CB o0.p a0 o2 ({ i:=s852,j:=s853,mask:=({ Rows:=s854,Cols:=s855,Start:=s856,Col:=s860,Val:=s864 }:Rows),out:=s868,parts:=s872,at_:=s873,has:=s874 }:AA) 6 s852 s878 r698 fun r891=>next879 (r891.i,r891.j,r891.mask.Rows,r891.mask.Cols,r891.mask.Start,r891.mask.Col,r891.mask.Val,r891.out,r891.parts,r891.at_,r891.has,AJ (s878+1))) (k645 (s852,s853,s854,s855,s856,s860,s864,s868,s872,s873,s874))) (o1.i,o1.j,o1.mask.Rows,o1.mask.Cols,o1.mask.Start,o1.mask.Col,o1.mask.Val,o1.out,o1.parts,o1.at_,o1.has,0)) (k645 (o1.i,o1.j,o1.mask.Rows,o1.mask.Cols,o1.mask.Start,o1.mask.Col,o1.mask.Val,o1.out,o1.parts,o1.at_,o1.has))) fun (s619,s620,s621,s622,s623,s627,s631,s635,s639,s640,s641)=>AP (a1.Row==s619) (HP o0.p.B.Cols o0.p.C s620 fun r950=>KG o0.p.B (a1.From,a1.To) r950 fun r954=>KU r954 fun r971=>BG (fun (s:Int×Int×Int×Int×(List Int)×(List Int)×(List Int)×(List BI)×(List (AX×(List AC)))×Int×(List AK)×Int) (next1152:(Int×Int×Int×Int×(List Int)×(List Int)×(List Int)×(List BI)×(List (AX×(List AC)))×Int×(List AK)×Int)→Prop)=>match s with | (s1125,s1126,s1127,s1128,s1129,s1133,s1137,s1141,s1145,s1146,s1147,s1151)=>AP (decide (s1151<o0.p.R)) (CB o0.p a0 o2 ({ i:=s1125,j:=s1126,mask:=({ Rows:=s1127,Cols:=s1128,Start:=s1129,Col:=s1133,Val:=s1137 }:Rows),out:=s1141,parts:=s1145,at_:=s1146,has:=s1147 }:AA) 7 s1151 s1126 r971 fun r1164=>next1152 (r1164.i,r1164.j,r1164.mask.Rows,r1164.mask.Cols,r1164.mask.Start,r1164.mask.Col,r1164.mask.Val,r1164.out,r1164.parts,r1164.at_,r1164.has,AJ (s1151+1))) (Q ({ i:=s1125,j:=s1126,mask:=({ Rows:=s1127,Cols:=s1128,Start:=s1129,Col:=s1133,Val:=s1137 }:Rows),out:=s1141,parts:=s1145,at_:=s1146,has:=s1147 }:AA))) (s619,s620,s621,s622,s623,s627,s631,s635,s639,s640,s641,0)) (Q ({ i:=s619,j:=s620,mask:=({ Rows:=s621,Cols:=s622,Start:=s623,Col:=s627,Val:=s631 }:Rows),out:=s635,parts:=s639,at_:=s640,has:=s641 }:AA))
def NB (o0:List (Nat×AA)) (o1:List (Nat×AF)) (a0:CM) (Q0:(Int×(List (Nat×AA)))→Prop) (Q1:(Int×(List (Nat×AA))×AD)→Prop):Prop:=
  RM a0 fun r39=>AP (r39 != 0) (Q0 (r39,o0)) (JW a0.A.Cols a0.R a0.C fun r59=>BG (fun (s:(List (Option Nat))×Int×(List (Nat×AA))) (next1279:((List (Option Nat))×Int×(List (Nat×AA)))→Prop)=>match s with | (s1272,s1276,s1277)=>AP (decide (s1276<(AJ (a0.R*a0.C)))) (SP a0.C s1276 fun r1293=>V9 a0.C s1276 fun r1297=>PI a0.Mask a0.R a0.C r1293 r1297 fun r1323=>BG (fun (s:Int×Int×Int×Int×(List Int)×(List Int)×(List Int)×(List BI)×(List (AX×(List AC)))×Int×(List AK)×Int) (next1790:(Int×Int×Int×Int×(List Int)×(List Int)×(List Int)×(List BI)×(List (AX×(List AC)))×Int×(List AK)×Int)→Prop)=>match s with | (s1761,s1762,s1763,s1764,s1765,s1769,s1773,s1777,s1781,s1782,s1783,s1787)=>AP (decide (s1787<(r59.length:Int))) (AZ r59 s1787 fun x1798=>FK ({ p:=a0,stages:=r59,workers:=s1272,boxes:=([]:List ((Int×Int)×(Option Nat))) }:AD) ({ i:=s1761,j:=s1762,mask:=({ Rows:=s1763,Cols:=s1764,Start:=s1765,Col:=s1769,Val:=s1773 }:Rows),out:=s1777,parts:=s1781,at_:=s1782,has:=s1783 }:AA) s1277 s1787 x1798 fun r1814=>next1790 (r1814.i,r1814.j,r1814.mask.Rows,r1814.mask.Cols,r1814.mask.Start,r1814.mask.Col,r1814.mask.Val,r1814.out,r1814.parts,r1814.at_,r1814.has,AJ (s1787+1))) (Ac6 s1277 fun b1343=>GZ 8 s1272 ([(some b1343)]) fun _=>next1279 ((s1272++([(some b1343)])),AJ (s1276+1),((b1343,({ i:=s1761,j:=s1762,mask:=({ Rows:=s1763,Cols:=s1764,Start:=s1765,Col:=s1769,Val:=s1773 }:Rows),out:=s1777,parts:=s1781,at_:=s1782,has:=s1783 }:AA)) :: s1277)))) (r1293,r1297,r1323.Rows,r1323.Cols,r1323.Start,r1323.Col,r1323.Val,([]:List BI),([]:List (AX×(List AC))),0,([]:List AK),0)) (Q1 (0,s1277,({ p:=a0,stages:=r59,workers:=s1272,boxes:=([]:List ((Int×Int)×(Option Nat))) }:AD)))) (([]:List (Option Nat)),0,o0))
def OD (a0:GH) (Q:Bool→Prop):Prop:=
  MG a0 fun r3=>Q (!r3)
def DJ (a0:List GH) (Q:Int→Prop):Prop:=
  BG (fun (s45:Int) (next46:Int→Prop)=>AP (decide (s45<(a0.length:Int))) (AZ a0 s45 fun x52=>OD x52 fun r66=>AP r66 (Q s45) (next46 (AJ (s45+1)))) (Q (-1))) 0
def BR (a0:List GH) (Q:Bool→Prop):Prop:=
  DJ a0 fun r10=>Q (decide (0≤r10))
def NO (o0:List (Nat×AA)) (o1:List (Nat×AF)) (a0:GH) (Q:Bool→Prop):Prop:=
  Q false
def HC (o0:List (Nat×AA)) (Q:Bool→Prop):Prop:=
  Q false
def JX (o0:List (Nat×AA)) (o1:List (Nat×AF))  : Prop:=
  False
def JY (o0:List (Nat×AA)) (Q:(Rows×Int)→Prop):Prop:=
  Q (({ Rows:=0,Cols:=0,Start:=([]:List Int),Col:=([]:List Int),Val:=([]:List Int) }:Rows),10)
def DQ (o0:AD) (o1:List (Nat×AA)) (a0:Int) (Q:Bool→Prop):Prop:=
  AP (decide (0≤a0)) (Q (decide (a0<(o0.workers.length:Int)))) (Q false)
def FL (o0:AD) (o1:List (Nat×AA)) (a0:Int) (Q:Int→Prop):Prop:=
  DQ o0 o1 a0 fun r53=>AP (!r53) (Q 0) (AZ o0.workers a0 fun x56=>FS o1 x56 fun b64 x65=>Q (x65.out.length:Int))
def OX (a0:Int) (Q0:Int→Prop) (Q1:(Int×AF)→Prop):Prop:=
  AP (decide (a0<1)) (Q0 3) (AP (decide (64<a0)) (Q0 3) (Q1 (0,({ room:=a0,row:=([]:List Int),by_:=([]:List (Int×BI)),often:=([]:List (Int×Int)),sent:=0,taken:=0 }:AF))))
def CG (o0:AD) (o1:List (Nat×AA)) (o2:List (Nat×AF)) (a0:Int) (a1:Int) (Q0:(AD×(List (Nat×AF)))→Prop) (Q1:((Option Nat)×AD×(List (Nat×AF)))→Prop):Prop:=
  DQ o0 o1 a0 fun r63=>AP (!r63) (Q0 (o0,o2)) (DQ o0 o1 a1 fun r71=>AP (!r71) (Q0 (o0,o2)) (tG o0.boxes (a0,a1) none fun r84=>AP r84.isNone (OX o0.p.Room (fun r97=>tG (EN (a0,a1) none o0.boxes) (a0,a1) none fun r110=>Q1 (r110,({ p:=o0.p,stages:=o0.stages,workers:=o0.workers,boxes:=(EN (a0,a1) none o0.boxes) }:AD),o2)) (fun r98=>Ac6 o2 fun b100=>tG (EN (a0,a1) (some b100) o0.boxes) (a0,a1) none fun r118=>Q1 (r118,({ p:=o0.p,stages:=o0.stages,workers:=o0.workers,boxes:=(EN (a0,a1) (some b100) o0.boxes) }:AD),((b100,r98.2) :: o2)))) (tG o0.boxes (a0,a1) none fun r124=>Q1 (r124,o0,o2))))
def LI (a0:BI) (Q:Int→Prop):Prop:=
  Q 10
def GK (o0:AF) (Q:Bool→Prop):Prop:=
  Q (decide (o0.room≤(o0.row.length:Int)))
def HD (o0:AF) (a0:Int) (Q:AF→Prop):Prop:=
  GZ 8 o0.row ([a0]) fun _=>tG o0.often a0 0 fun r17=>Q ({ room:=o0.room,row:=(o0.row++([a0])),by_:=o0.by_,often:=(EN a0 (AJ (r17+1)) o0.often),sent:=o0.sent,taken:=o0.taken }:AF)
def IL (o0:AF) (a0:BI) (Q:(Int×AF)→Prop):Prop:=
  GK o0 fun r38=>AP r38 (Q (9,o0)) (VB a0 fun r57=>HD ({ room:=o0.room,row:=o0.row,by_:=(EN o0.sent ({ Kind:=r57.Kind,From:=r57.From,To:=r57.To,Seq:=o0.sent,Round:=r57.Round,Vec:=r57.Vec,Sums:=r57.Sums,Triples:=r57.Triples,N:=r57.N,Over:=r57.Over }:BI) o0.by_),often:=o0.often,sent:=o0.sent,taken:=o0.taken }:AF) o0.sent fun r98=>Q (0,({ room:=r98.room,row:=r98.row,by_:=r98.by_,often:=r98.often,sent:=AJ (r98.sent+1),taken:=r98.taken }:AF)))
def MJ (o0:List (Nat×AF)) (a0:Option Nat) (a1:BI) (Q:(Int×(List (Nat×AF)))→Prop):Prop:=
  lW a0 (LI a1 fun rr=>Q (rr,o0)) fun b=>pD o0 b fun x=>IL x a1 fun rr=>Q (rr.1,(b,rr.2) :: CF b o0)
def CV (o0:AD) (o1:List (Nat×AA)) (o2:List (Nat×AF)) (a0:Int) (Q:(Bool×AD×(List (Nat×AA))×(List (Nat×AF)))→Prop):Prop:=
  FL o0 o1 a0 fun r54=>AP (r54==0) (Q (false,o0,o1,o2)) (AZ o0.workers a0 fun x66=>FR (fun (k457:(Int×Int×Int×(List Int)×(List Int)×(List Int)×Int×Int×(List Int)×(List Int)×(List Int)×Int×Int×(List Int)×(List Int)×(List Int)×Int×Int×Int×(List BC)×(List (Option Nat))×(List ((Int×Int)×(Option Nat)))×(Option Nat)×(List (Nat×AF)))→Prop)=>FS o1 x66 fun b458 x459=>AZ x459.out 0 fun x481=>AZ x459.out 0 fun x499=>CG o0 (CF b458 o1) o2 a0 x481.To (fun r522=>LI x499 fun r607=>AP (r607 != 0) (Q (false,r522.1,o1,r522.2)) (k457 (r522.1.p.Ring,r522.1.p.A.Rows,r522.1.p.A.Cols,r522.1.p.A.Start,r522.1.p.A.Col,r522.1.p.A.Val,r522.1.p.B.Rows,r522.1.p.B.Cols,r522.1.p.B.Start,r522.1.p.B.Col,r522.1.p.B.Val,r522.1.p.Mask.Rows,r522.1.p.Mask.Cols,r522.1.p.Mask.Start,r522.1.p.Mask.Col,r522.1.p.Mask.Val,r522.1.p.R,r522.1.p.C,r522.1.p.Room,r522.1.stages,r522.1.workers,r522.1.boxes,(some b458),r522.2))) (fun r561=>MJ r561.2.2 r561.1 x499 fun r618=>AP (r618.1 != 0) (Q (false,r561.2.1,o1,r618.2)) (k457 (r561.2.1.p.Ring,r561.2.1.p.A.Rows,r561.2.1.p.A.Cols,r561.2.1.p.A.Start,r561.2.1.p.A.Col,r561.2.1.p.A.Val,r561.2.1.p.B.Rows,r561.2.1.p.B.Cols,r561.2.1.p.B.Start,r561.2.1.p.B.Col,r561.2.1.p.B.Val,r561.2.1.p.Mask.Rows,r561.2.1.p.Mask.Cols,r561.2.1.p.Mask.Start,r561.2.1.p.Mask.Col,r561.2.1.p.Mask.Val,r561.2.1.p.R,r561.2.1.p.C,r561.2.1.p.Room,r561.2.1.stages,r561.2.1.workers,r561.2.1.boxes,(some b458),r618.2)))) fun (s400,s401,s402,s403,s407,s411,s415,s416,s417,s421,s425,s429,s430,s431,s435,s439,s443,s444,s445,s446,s450,s454,s455,s456)=>FS o1 s455 fun b626 x627=>zD x627.out 1 (x627.out.length:Int) fun _=>Q (true,({ p:=({ Ring:=s400,A:=({ Rows:=s401,Cols:=s402,Start:=s403,Col:=s407,Val:=s411 }:Rows),B:=({ Rows:=s415,Cols:=s416,Start:=s417,Col:=s421,Val:=s425 }:Rows),Mask:=({ Rows:=s429,Cols:=s430,Start:=s431,Col:=s435,Val:=s439 }:Rows),R:=s443,C:=s444,Room:=s445 }:CM),stages:=s446,workers:=s450,boxes:=s454 }:AD),((b626,({ i:=x627.i,j:=x627.j,mask:=x627.mask,out:=((x627.out.take (x627.out.length:Int).toNat).drop (Int.toNat 1)),parts:=x627.parts,at_:=x627.at_,has:=x627.has }:AA)) :: (CF b626 o1)),s456))
def FF (a0:Int) (Q:Int→Prop):Prop:=
  Q 10
def IM (a0:Int) (Q:(BI×Bool×Int)→Prop):Prop:=
  FF a0 fun r33=>AP (r33 != 0) (Q (({ Kind:=0,From:=0,To:=0,Seq:=0,Round:=0,Vec:=({ N:=0,Items:=([]:List CN) }:Vec),Sums:=([]:List ZK),Triples:=([]:List AC),N:=0,Over:=false }:BI),false,r33)) (False)
def GB (o0:AF) (a0:Int) (Q:Int→Prop):Prop:=
  AP (decide (a0<0)) (Q 3) (AP (decide ((o0.row.length:Int)≤a0)) (Q 3) (Q 0))
def DM (o0:List Int) (a0:Int) (a1:Int) (Q:(List Int)→Prop):Prop:=
  zD o0 a0 a1 fun _=>AP (a0==a1) (Q o0) (zD o0 0 a0 fun _=>zD o0 a1 (o0.length:Int) fun _=>Q (o0.take a0.toNat++o0.drop a1.toNat))
def JK (o0:AF) (a0:Int) (Q:(BI×AF)→Prop):Prop:=
  AZ o0.row a0 fun x21=>tG o0.by_ x21 ({ Kind:=0,From:=0,To:=0,Seq:=0,Round:=0,Vec:=({ N:=0,Items:=([]:List CN) }:Vec),Sums:=([]:List ZK),Triples:=([]:List AC),N:=0,Over:=false }:BI) fun r42=>DM o0.row a0 (AJ (a0+1)) fun r75=>tG o0.often x21 0 fun r85=>tG (EN x21 (AJ (r85 - 1)) o0.often) x21 0 fun r97=>AP (r97==0) (Q (r42,({ room:=o0.room,row:=r75,by_:=(CF x21 o0.by_),often:=(CF x21 (EN x21 (AJ (r85 - 1)) o0.often)),sent:=o0.sent,taken:=o0.taken }:AF))) (Q (r42,({ room:=o0.room,row:=r75,by_:=o0.by_,often:=(EN x21 (AJ (r85 - 1)) o0.often),sent:=o0.sent,taken:=o0.taken }:AF)))
def IP (o0:AF) (a0:Int) (Q:(BI×Bool×Int×AF)→Prop):Prop:=
  GB o0 a0 fun r50=>AP (r50 != 0) (Q (({ Kind:=0,From:=0,To:=0,Seq:=0,Round:=0,Vec:=({ N:=0,Items:=([]:List CN) }:Vec),Sums:=([]:List ZK),Triples:=([]:List AC),N:=0,Over:=false }:BI),false,r50,o0)) (AZ o0.row a0 fun x54=>AP (decide (o0.taken<x54)) (Q (({ Kind:=0,From:=0,To:=0,Seq:=0,Round:=0,Vec:=({ N:=0,Items:=([]:List CN) }:Vec),Sums:=([]:List ZK),Triples:=([]:List AC),N:=0,Over:=false }:BI),false,r50,o0)) (JK o0 a0 fun r94=>AP (decide (r94.1.Seq<r94.2.taken)) (Q (({ Kind:=0,From:=0,To:=0,Seq:=0,Round:=0,Vec:=({ N:=0,Items:=([]:List CN) }:Vec),Sums:=([]:List ZK),Triples:=([]:List AC),N:=0,Over:=false }:BI),false,0,r94.2)) (VB r94.1 fun r119=>Q (r119,true,0,({ room:=r94.2.room,row:=r94.2.row,by_:=r94.2.by_,often:=r94.2.often,sent:=r94.2.sent,taken:=AJ (r94.2.taken+1) }:AF)))))
def MK (o0:List (Nat×AF)) (a0:Option Nat) (a1:Int) (Q:(BI×Bool×Int×(List (Nat×AF)))→Prop):Prop:=
  lW a0 (IM a1 fun rr=>Q (rr.1,rr.2.1,rr.2.2,o0)) fun b=>pD o0 b fun x=>IP x a1 fun rr=>Q (rr.1,rr.2.1,rr.2.2.1,(b,rr.2.2.2) :: CF b o0)
def CT (o0:AD) (o1:List (Nat×AA)) (a0:Option Nat) (Q:(Bool×(List (Nat×AA)))→Prop):Prop:=
  FS o1 a0 fun b62 x63=>AP (decide ((o0.stages.length:Int)≤x63.at_)) (Q (false,o1)) (FS o1 (some b62) fun _ x112=>FS o1 (some b62) fun _ x169=>iU x169.parts ({ kind:=6,stage:=x112.at_ }:AX) ([]:List AC) fun r190 t195=>FS o1 (some b62) fun _ x231=>iU x231.parts ({ kind:=7,stage:=x112.at_ }:AX) ([]:List AC) fun r252 t257=>AP (!t195) (Q (false,o1)) (AP (!t257) (Q (false,o1)) (FS o1 (some b62) fun _ x306=>AZ o0.stages x306.at_ fun x328=>AZ o0.stages x306.at_ fun x337=>FS o1 (some b62) fun _ x386=>PZ o0.p.Ring x386.mask.Rows (AJ (x328.To - x337.From)) r190 fun r408=>FS o1 (some b62) fun _ x467=>PZ o0.p.Ring (AJ (x328.To - x337.From)) x467.mask.Cols r252 fun r489=>FS o1 (some b62) fun _ x541=>QA o0.p.Ring r408.1 r489.1 x541.mask fun r562=>FS o1 (some b62) fun _ x613=>MI o0.p.Ring ([x613.has,r562.1]:List (List AK)) fun r640=>FS ((b62,({ i:=x613.i,j:=x613.j,mask:=x613.mask,out:=x613.out,parts:=x613.parts,at_:=x613.at_,has:=r640.1 }:AA)) :: (CF b62 o1)) (some b62) fun _ x674=>FS ((b62,({ i:=x674.i,j:=x674.j,mask:=x674.mask,out:=x674.out,parts:=(CF ({ kind:=6,stage:=x112.at_ }:AX) x674.parts),at_:=x674.at_,has:=x674.has }:AA)) :: (CF b62 ((b62,({ i:=x613.i,j:=x613.j,mask:=x613.mask,out:=x613.out,parts:=x613.parts,at_:=x613.at_,has:=r640.1 }:AA)) :: (CF b62 o1)))) (some b62) fun _ x718=>FS ((b62,({ i:=x718.i,j:=x718.j,mask:=x718.mask,out:=x718.out,parts:=(CF ({ kind:=7,stage:=x112.at_ }:AX) x718.parts),at_:=x718.at_,has:=x718.has }:AA)) :: (CF b62 ((b62,({ i:=x674.i,j:=x674.j,mask:=x674.mask,out:=x674.out,parts:=(CF ({ kind:=6,stage:=x112.at_ }:AX) x674.parts),at_:=x674.at_,has:=x674.has }:AA)) :: (CF b62 ((b62,({ i:=x613.i,j:=x613.j,mask:=x613.mask,out:=x613.out,parts:=x613.parts,at_:=x613.at_,has:=r640.1 }:AA)) :: (CF b62 o1)))))) (some b62) fun _ x740=>Q (true,((b62,({ i:=x740.i,j:=x740.j,mask:=x740.mask,out:=x740.out,parts:=x740.parts,at_:=AJ (x740.at_+1),has:=x740.has }:AA)) :: (CF b62 ((b62,({ i:=x718.i,j:=x718.j,mask:=x718.mask,out:=x718.out,parts:=(CF ({ kind:=7,stage:=x112.at_ }:AX) x718.parts),at_:=x718.at_,has:=x718.has }:AA)) :: (CF b62 ((b62,({ i:=x674.i,j:=x674.j,mask:=x674.mask,out:=x674.out,parts:=(CF ({ kind:=6,stage:=x112.at_ }:AX) x674.parts),at_:=x674.at_,has:=x674.has }:AA)) :: (CF b62 ((b62,({ i:=x613.i,j:=x613.j,mask:=x613.mask,out:=x613.out,parts:=x613.parts,at_:=x613.at_,has:=r640.1 }:AA)) :: (CF b62 o1))))))))))))
def CW (o0:AD) (o1:List (Nat×AA)) (o2:List (Nat×AF)) (a0:Int) (a1:Int) (a2:Int) (Q:(Bool×AD×(List (Nat×AA))×(List (Nat×AF)))→Prop):Prop:=
  CG o0 o1 o2 a0 a1 (fun r292=>IM a2 fun r376=>AP (!r376.2.1) (Q (false,r292.1,o1,r292.2)) (AZ r292.1.workers a1 fun x401=>FS o1 x401 fun b431 x432=>BG (fun (s476:(List (Nat×AA))) (next477:(List (Nat×AA))→Prop)=>CT r292.1 s476 (some b431) fun r487=>AP r487.1 (next477 r487.2) (Q (true,r292.1,r487.2,r292.2))) ((b431,({ i:=x432.i,j:=x432.j,mask:=x432.mask,out:=x432.out,parts:=(EN ({ kind:=r376.1.Kind,stage:=r376.1.Round }:AX) r376.1.Triples x432.parts),at_:=x432.at_,has:=x432.has }:AA)) :: (CF b431 o1)))) (fun r331=>MK r331.2.2 r331.1 a2 fun r498=>AP (!r498.2.1) (Q (false,r331.2.1,o1,r498.2.2.2)) (AZ r331.2.1.workers a1 fun x524=>FS o1 x524 fun b554 x555=>BG (fun (s599:(List (Nat×AA))) (next600:(List (Nat×AA))→Prop)=>CT r331.2.1 s599 (some b554) fun r610=>AP r610.1 (next600 r610.2) (Q (true,r331.2.1,r610.2,r498.2.2.2))) ((b554,({ i:=x555.i,j:=x555.j,mask:=x555.mask,out:=x555.out,parts:=(EN ({ kind:=r498.1.Kind,stage:=r498.1.Round }:AX) r498.1.Triples x555.parts),at_:=x555.at_,has:=x555.has }:AA)) :: (CF b554 o1))))
def RO   : Prop:=
  False
def GW (a0:Int) (Q:Int→Prop):Prop:=
  FF a0 fun r15=>AP (r15 != 0) (Q r15) (RO )
def GX (o0:AF) (a0:Int) (Q:(Int×AF)→Prop):Prop:=
  GB o0 a0 fun r25=>AP (r25 != 0) (Q (r25,o0)) (GK o0 fun r42=>AP r42 (Q (9,o0)) (AZ o0.row a0 fun x46=>HD o0 x46 fun r56=>Q (0,r56)))
def KN (o0:List (Nat×AF)) (a0:Option Nat) (a1:Int) (Q:(Int×(List (Nat×AF)))→Prop):Prop:=
  lW a0 (GW a1 fun rr=>Q (rr,o0)) fun b=>pD o0 b fun x=>GX x a1 fun rr=>Q (rr.1,(b,rr.2) :: CF b o0)
def IQ (a0:Int) (Q:Int→Prop):Prop:=
  FF a0 fun r15=>AP (r15 != 0) (Q r15) (False)
def IR (o0:AF) (a0:Int) (Q:(Int×AF)→Prop):Prop:=
  GB o0 a0 fun r25=>AP (r25 != 0) (Q (r25,o0)) (AZ o0.row a0 fun x33=>DM o0.row a0 (AJ (a0+1)) fun r43=>GZ 8 r43 ([x33]) fun _=>Q (0,({ room:=o0.room,row:=(r43++([x33])),by_:=o0.by_,often:=o0.often,sent:=o0.sent,taken:=o0.taken }:AF)))
def ML (o0:List (Nat×AF)) (a0:Option Nat) (a1:Int) (Q:(Int×(List (Nat×AF)))→Prop):Prop:=
  lW a0 (IQ a1 fun rr=>Q (rr,o0)) fun b=>pD o0 b fun x=>IR x a1 fun rr=>Q (rr.1,(b,rr.2) :: CF b o0)
def HE (o0:AF) (Q:Int→Prop):Prop:=
  Q (o0.row.length:Int)
def MM  (Q:Int→Prop):Prop:=
  Q 0
def GC (o0:List (Nat×AF)) (a0:Option Nat) (Q:Int→Prop):Prop:=
  lW a0 (MM  fun rr=>Q rr) fun b=>pD o0 b fun x=>HE x  fun rr=>Q rr
def IF (o0:Int) (a0:Int) (Q:Bool→Prop):Prop:=
  Q (a0==o0)
def DW (o0:List Int) (o1:Int) (Q:Int→Prop):Prop:=
  BG (fun (s39:Int) (next40:Int→Prop)=>AP (decide (s39<(o0.length:Int))) (AZ o0 s39 fun x46=>IF o1 x46 fun r56=>AP r56 (Q s39) (next40 (AJ (s39+1)))) (Q (-1))) 0
def GY (o0:AF) (Q:Int→Prop):Prop:=
  HE o0 fun r25=>AP (r25==0) (Q (-1)) (HR o0.row fun r27=>DW o0.row r27 fun r39=>Q r39)
def OJ  (Q:Int→Prop):Prop:=
  MM  fun r15=>AP (r15==0) (Q (-1)) (False)
def HU (o0:List (Nat×AF)) (a0:Option Nat) (Q:Int→Prop):Prop:=
  lW a0 (OJ  fun rr=>Q rr) fun b=>pD o0 b fun x=>GY x  fun rr=>Q rr
def DT (o0:AD) (o1:List (Nat×AA)) (o2:List (Nat×AF)) (Q:(Bool×AD×(List (Nat×AA))×(List (Nat×AF)))→Prop):Prop:=
  BG (fun (s:Int×Int×Int×(List Int)×(List Int)×(List Int)×Int×Int×(List Int)×(List Int)×(List Int)×Int×Int×(List Int)×(List Int)×(List Int)×Int×Int×Int×(List BC)×(List (Option Nat))×(List ((Int×Int)×(Option Nat)))×Bool×Int×(List (Nat×AA))×(List (Nat×AF))) (next761:(Int×Int×Int×(List Int)×(List Int)×(List Int)×Int×Int×(List Int)×(List Int)×(List Int)×Int×Int×(List Int)×(List Int)×(List Int)×Int×Int×Int×(List BC)×(List (Option Nat))×(List ((Int×Int)×(Option Nat)))×Bool×Int×(List (Nat×AA))×(List (Nat×AF)))→Prop)=>match s with | (s702,s703,s704,s705,s709,s713,s717,s718,s719,s723,s727,s731,s732,s733,s737,s741,s745,s746,s747,s748,s752,s756,s757,s758,s759,s760)=>AP (decide (s758<(o0.workers.length:Int))) (CV ({ p:=({ Ring:=s702,A:=({ Rows:=s703,Cols:=s704,Start:=s705,Col:=s709,Val:=s713 }:Rows),B:=({ Rows:=s717,Cols:=s718,Start:=s719,Col:=s723,Val:=s727 }:Rows),Mask:=({ Rows:=s731,Cols:=s732,Start:=s733,Col:=s737,Val:=s741 }:Rows),R:=s745,C:=s746,Room:=s747 }:CM),stages:=s748,workers:=s752,boxes:=s756 }:AD) s759 s760 s758 fun r772=>AP r772.1 (next761 (r772.2.1.p.Ring,r772.2.1.p.A.Rows,r772.2.1.p.A.Cols,r772.2.1.p.A.Start,r772.2.1.p.A.Col,r772.2.1.p.A.Val,r772.2.1.p.B.Rows,r772.2.1.p.B.Cols,r772.2.1.p.B.Start,r772.2.1.p.B.Col,r772.2.1.p.B.Val,r772.2.1.p.Mask.Rows,r772.2.1.p.Mask.Cols,r772.2.1.p.Mask.Start,r772.2.1.p.Mask.Col,r772.2.1.p.Mask.Val,r772.2.1.p.R,r772.2.1.p.C,r772.2.1.p.Room,r772.2.1.stages,r772.2.1.workers,r772.2.1.boxes,true,AJ (s758+1),r772.2.2.1,r772.2.2.2)) (next761 (r772.2.1.p.Ring,r772.2.1.p.A.Rows,r772.2.1.p.A.Cols,r772.2.1.p.A.Start,r772.2.1.p.A.Col,r772.2.1.p.A.Val,r772.2.1.p.B.Rows,r772.2.1.p.B.Cols,r772.2.1.p.B.Start,r772.2.1.p.B.Col,r772.2.1.p.B.Val,r772.2.1.p.Mask.Rows,r772.2.1.p.Mask.Cols,r772.2.1.p.Mask.Start,r772.2.1.p.Mask.Col,r772.2.1.p.Mask.Val,r772.2.1.p.R,r772.2.1.p.C,r772.2.1.p.Room,r772.2.1.stages,r772.2.1.workers,r772.2.1.boxes,s757,AJ (s758+1),r772.2.2.1,r772.2.2.2))) (BG (fun (s:Int×Int×Int×(List Int)×(List Int)×(List Int)×Int×Int×(List Int)×(List Int)×(List Int)×Int×Int×(List Int)×(List Int)×(List Int)×Int×Int×Int×(List BC)×(List (Option Nat))×(List ((Int×Int)×(Option Nat)))×Bool×Int×(List (Nat×AA))×(List (Nat×AF))) (next2118:(Int×Int×Int×(List Int)×(List Int)×(List Int)×Int×Int×(List Int)×(List Int)×(List Int)×Int×Int×(List Int)×(List Int)×(List Int)×Int×Int×Int×(List BC)×(List (Option Nat))×(List ((Int×Int)×(Option Nat)))×Bool×Int×(List (Nat×AA))×(List (Nat×AF)))→Prop)=>match s with | (s2059,s2060,s2061,s2062,s2066,s2070,s2074,s2075,s2076,s2080,s2084,s2088,s2089,s2090,s2094,s2098,s2102,s2103,s2104,s2105,s2109,s2113,s2114,s2115,s2116,s2117)=>AP (decide (s2115<(s752.length:Int))) (BG (fun (s:Int×Int×Int×(List Int)×(List Int)×(List Int)×Int×Int×(List Int)×(List Int)×(List Int)×Int×Int×(List Int)×(List Int)×(List Int)×Int×Int×Int×(List BC)×(List (Option Nat))×(List ((Int×Int)×(Option Nat)))×Bool×Int×(List (Nat×AA))×(List (Nat×AF))) (next2564:(Int×Int×Int×(List Int)×(List Int)×(List Int)×Int×Int×(List Int)×(List Int)×(List Int)×Int×Int×(List Int)×(List Int)×(List Int)×Int×Int×Int×(List BC)×(List (Option Nat))×(List ((Int×Int)×(Option Nat)))×Bool×Int×(List (Nat×AA))×(List (Nat×AF)))→Prop)=>match s with | (s2505,s2506,s2507,s2508,s2512,s2516,s2520,s2521,s2522,s2526,s2530,s2534,s2535,s2536,s2540,s2544,s2548,s2549,s2550,s2551,s2555,s2559,s2560,s2561,s2562,s2563)=>AP (decide (s2561<(s2109.length:Int))) (tG s2559 (s2115,s2561) none fun r2577=>GC s2563 r2577 fun r2599=>HU s2563 r2577 fun r2609=>CW ({ p:=({ Ring:=s2505,A:=({ Rows:=s2506,Cols:=s2507,Start:=s2508,Col:=s2512,Val:=s2516 }:Rows),B:=({ Rows:=s2520,Cols:=s2521,Start:=s2522,Col:=s2526,Val:=s2530 }:Rows),Mask:=({ Rows:=s2534,Cols:=s2535,Start:=s2536,Col:=s2540,Val:=s2544 }:Rows),R:=s2548,C:=s2549,Room:=s2550 }:CM),stages:=s2551,workers:=s2555,boxes:=s2559 }:AD) s2562 s2563 s2115 s2561 r2609 fun r2619=>AP s2560 (next2564 (r2619.2.1.p.Ring,r2619.2.1.p.A.Rows,r2619.2.1.p.A.Cols,r2619.2.1.p.A.Start,r2619.2.1.p.A.Col,r2619.2.1.p.A.Val,r2619.2.1.p.B.Rows,r2619.2.1.p.B.Cols,r2619.2.1.p.B.Start,r2619.2.1.p.B.Col,r2619.2.1.p.B.Val,r2619.2.1.p.Mask.Rows,r2619.2.1.p.Mask.Cols,r2619.2.1.p.Mask.Start,r2619.2.1.p.Mask.Col,r2619.2.1.p.Mask.Val,r2619.2.1.p.R,r2619.2.1.p.C,r2619.2.1.p.Room,r2619.2.1.stages,r2619.2.1.workers,r2619.2.1.boxes,true,AJ (s2561+1),r2619.2.2.1,r2619.2.2.2)) (GC r2619.2.2.2 r2577 fun r2669=>next2564 (r2619.2.1.p.Ring,r2619.2.1.p.A.Rows,r2619.2.1.p.A.Cols,r2619.2.1.p.A.Start,r2619.2.1.p.A.Col,r2619.2.1.p.A.Val,r2619.2.1.p.B.Rows,r2619.2.1.p.B.Cols,r2619.2.1.p.B.Start,r2619.2.1.p.B.Col,r2619.2.1.p.B.Val,r2619.2.1.p.Mask.Rows,r2619.2.1.p.Mask.Cols,r2619.2.1.p.Mask.Start,r2619.2.1.p.Mask.Col,r2619.2.1.p.Mask.Val,r2619.2.1.p.R,r2619.2.1.p.C,r2619.2.1.p.Room,r2619.2.1.stages,r2619.2.1.workers,r2619.2.1.boxes,decide (r2669<r2599),AJ (s2561+1),r2619.2.2.1,r2619.2.2.2))) (next2118 (s2505,s2506,s2507,s2508,s2512,s2516,s2520,s2521,s2522,s2526,s2530,s2534,s2535,s2536,s2540,s2544,s2548,s2549,s2550,s2551,s2555,s2559,s2560,AJ (s2115+1),s2562,s2563))) (s2059,s2060,s2061,s2062,s2066,s2070,s2074,s2075,s2076,s2080,s2084,s2088,s2089,s2090,s2094,s2098,s2102,s2103,s2104,s2105,s2109,s2113,s2114,0,s2116,s2117)) (Q (s2114,({ p:=({ Ring:=s2059,A:=({ Rows:=s2060,Cols:=s2061,Start:=s2062,Col:=s2066,Val:=s2070 }:Rows),B:=({ Rows:=s2074,Cols:=s2075,Start:=s2076,Col:=s2080,Val:=s2084 }:Rows),Mask:=({ Rows:=s2088,Cols:=s2089,Start:=s2090,Col:=s2094,Val:=s2098 }:Rows),R:=s2102,C:=s2103,Room:=s2104 }:CM),stages:=s2105,workers:=s2109,boxes:=s2113 }:AD),s2116,s2117))) (s702,s703,s704,s705,s709,s713,s717,s718,s719,s723,s727,s731,s732,s733,s737,s741,s745,s746,s747,s748,s752,s756,s757,0,s759,s760))) (o0.p.Ring,o0.p.A.Rows,o0.p.A.Cols,o0.p.A.Start,o0.p.A.Col,o0.p.A.Val,o0.p.B.Rows,o0.p.B.Cols,o0.p.B.Start,o0.p.B.Col,o0.p.B.Val,o0.p.Mask.Rows,o0.p.Mask.Cols,o0.p.Mask.Start,o0.p.Mask.Col,o0.p.Mask.Val,o0.p.R,o0.p.C,o0.p.Room,o0.stages,o0.workers,o0.boxes,false,0,o1,o2)
def GL (o0:AD) (o1:List (Nat×AA)) (o2:List (Nat×AF)) (a0:GH) (Q:(Bool×AD×(List (Nat×AA))×(List (Nat×AF)))→Prop):Prop:=
  MG a0 fun r49=>AP (!r49) (Q (false,o0,o1,o2)) (AP (a0.Kind==1) (CV o0 o1 o2 a0.A fun r61=>Q (r61.1,r61.2.1,r61.2.2.1,r61.2.2.2)) (AP (a0.Kind==2) (CW o0 o1 o2 a0.A a0.B a0.K fun r108=>Q (r108.1,r108.2.1,r108.2.2.1,r108.2.2.2)) (AP (a0.Kind==3) (CG o0 o1 o2 a0.A a0.B (fun r155=>GW a0.K fun r239=>Q (r239==0,r155.1,o1,r155.2)) (fun r194=>KN r194.2.2 r194.1 a0.K fun r247=>Q (r247.1==0,r194.2.1,o1,r247.2))) (AP (a0.Kind==4) (CG o0 o1 o2 a0.A a0.B (fun r257=>IQ a0.K fun r341=>Q (r341==0,r257.1,o1,r257.2)) (fun r296=>ML r296.2.2 r296.1 a0.K fun r349=>Q (r349.1==0,r296.2.1,o1,r349.2))) (DT o0 o1 o2 fun r358=>Q (r358.1,r358.2.1,r358.2.2.1,r358.2.2.2))))))
def FY (o1:List (Nat×AA)) (o2:AD) (a0:Option Nat) (Q:Bool→Prop):Prop:=
  FS o1 a0 fun b41 x42=>Q (decide (x42.at_<(o2.stages.length:Int)))
def CK (o1:List (Nat×AA)) (o2:AD) (a0:List (Option Nat)) (Q:Int→Prop):Prop:=
  BG (fun (s85:Int) (next86:Int→Prop)=>AP (decide (s85<(a0.length:Int))) (AZ a0 s85 fun x92=>FY o1 o2 x92 fun r106=>AP r106 (Q s85) (next86 (AJ (s85+1)))) (Q (-1))) 0
def CH (o1:List (Nat×AA)) (o2:AD) (a0:List (Option Nat)) (Q:Bool→Prop):Prop:=
  CK o1 o2 a0 fun r50=>Q (decide (0≤r50))
def DD (o0:AD) (o1:List (Nat×AA)) (Q:Bool→Prop):Prop:=
  CH o1 o0 o0.workers fun r49=>Q (!r49)
def DY (o0:AD) (o1:List (Nat×AA)) (Q:(List AK)→Prop):Prop:=
  BG (fun (s:(List AK)×Int) (next536:((List AK)×Int)→Prop)=>match s with | (s530,s534)=>AP (decide (s534<(o0.workers.length:Int))) (AZ o0.workers s534 fun x551=>FS o1 x551 fun b589 x590=>FH o0.p.A.Rows o0.p.R x590.i fun r611=>FH o0.p.B.Cols o0.p.C x590.j fun r615=>FS o1 (some b589) fun _ x642=>BG (fun (s:(List AK)×Int) (next743:((List AK)×Int)→Prop)=>match s with | (s738,s742)=>AP (decide (s742<(x642.has.length:Int))) (AZ x642.has s742 fun x761=>GZ 32 s738 ([({ Row:=AJ (x761.Row+r611),Col:=AJ (x761.Col+r615),Val:=x761.Val }:AK)]) fun _=>next743 ((s738++([({ Row:=AJ (x761.Row+r611),Col:=AJ (x761.Col+r615),Val:=x761.Val }:AK)])),AJ (s742+1))) (next536 (s738,AJ (s534+1)))) (s530,0)) (rL FW s530 fun y783=>Q y783)) (([]:List AK),0)
def DU (o0:AD) (o1:List (Nat×AA)) (Q:(Rows×Int)→Prop):Prop:=
  DY o0 o1 fun r49=>WC o0.p.Ring o0.p.A.Rows o0.p.B.Cols r49 fun r53=>Q (r53.1,r53.2)
def SV (a0:CM) (a1:List GH) (a2:Int) (Q:(Rows×Bool×Int)→Prop):Prop:=
  NB ([]:List (Nat×AA)) ([]:List (Nat×AF)) a0 (fun r150=>AP (r150.1 != 0) (Q (({ Rows:=0,Cols:=0,Start:=([]:List Int),Col:=([]:List Int),Val:=([]:List Int) }:Rows),false,r150.1)) (AP (decide (1048576<(a1.length:Int))) (Q (({ Rows:=0,Cols:=0,Start:=([]:List Int),Col:=([]:List Int),Val:=([]:List Int) }:Rows),false,5)) (BR a1 fun r228=>AP r228 (Q (({ Rows:=0,Cols:=0,Start:=([]:List Int),Col:=([]:List Int),Val:=([]:List Int) }:Rows),false,8)) (AP (decide (a2<0)) (Q (({ Rows:=0,Cols:=0,Start:=([]:List Int),Col:=([]:List Int),Val:=([]:List Int) }:Rows),false,3)) (AP (decide (1048576<a2)) (Q (({ Rows:=0,Cols:=0,Start:=([]:List Int),Col:=([]:List Int),Val:=([]:List Int) }:Rows),false,3)) (BG (fun (s350:Int) (next351:Int→Prop)=>AP (decide (s350<(a1.length:Int))) (AZ a1 s350 fun x358=>NO r150.2 ([]:List (Nat×AF)) x358 fun r374=>next351 (AJ (s350+1))) (FR (fun (k457:Unit→Prop)=>BG (fun (_:Unit) (next475:Unit→Prop)=>AP (decide (0<a2)) (HC r150.2 fun r487=>AP (!r487) (JX r150.2 ([]:List (Nat×AF))) (k457 ())) (k457 ())) ()) fun _=>JY r150.2 fun r508=>HC r150.2 fun r529=>Q (r508.1,r529,r508.2))) 0)))))) (fun r152=>AP (r152.1 != 0) (Q (({ Rows:=0,Cols:=0,Start:=([]:List Int),Col:=([]:List Int),Val:=([]:List Int) }:Rows),false,r152.1)) (AP (decide (1048576<(a1.length:Int))) (Q (({ Rows:=0,Cols:=0,Start:=([]:List Int),Col:=([]:List Int),Val:=([]:List Int) }:Rows),false,5)) (BR a1 fun r570=>AP r570 (Q (({ Rows:=0,Cols:=0,Start:=([]:List Int),Col:=([]:List Int),Val:=([]:List Int) }:Rows),false,8)) (AP (decide (a2<0)) (Q (({ Rows:=0,Cols:=0,Start:=([]:List Int),Col:=([]:List Int),Val:=([]:List Int) }:Rows),false,3)) (AP (decide (1048576<a2)) (Q (({ Rows:=0,Cols:=0,Start:=([]:List Int),Col:=([]:List Int),Val:=([]:List Int) }:Rows),false,3)) (BG (fun (s:Int×Int×Int×(List Int)×(List Int)×(List Int)×Int×Int×(List Int)×(List Int)×(List Int)×Int×Int×(List Int)×(List Int)×(List Int)×Int×Int×Int×(List BC)×(List (Option Nat))×(List ((Int×Int)×(Option Nat)))×Int×(List (Nat×AA))×(List (Nat×AF))) (next1344:(Int×Int×Int×(List Int)×(List Int)×(List Int)×Int×Int×(List Int)×(List Int)×(List Int)×Int×Int×(List Int)×(List Int)×(List Int)×Int×Int×Int×(List BC)×(List (Option Nat))×(List ((Int×Int)×(Option Nat)))×Int×(List (Nat×AA))×(List (Nat×AF)))→Prop)=>match s with | (s1286,s1287,s1288,s1289,s1293,s1297,s1301,s1302,s1303,s1307,s1311,s1315,s1316,s1317,s1321,s1325,s1329,s1330,s1331,s1332,s1336,s1340,s1341,s1342,s1343)=>AP (decide (s1341<(a1.length:Int))) (AZ a1 s1341 fun x1351=>GL ({ p:=({ Ring:=s1286,A:=({ Rows:=s1287,Cols:=s1288,Start:=s1289,Col:=s1293,Val:=s1297 }:Rows),B:=({ Rows:=s1301,Cols:=s1302,Start:=s1303,Col:=s1307,Val:=s1311 }:Rows),Mask:=({ Rows:=s1315,Cols:=s1316,Start:=s1317,Col:=s1321,Val:=s1325 }:Rows),R:=s1329,C:=s1330,Room:=s1331 }:CM),stages:=s1332,workers:=s1336,boxes:=s1340 }:AD) s1342 s1343 x1351 fun r1367=>next1344 (r1367.2.1.p.Ring,r1367.2.1.p.A.Rows,r1367.2.1.p.A.Cols,r1367.2.1.p.A.Start,r1367.2.1.p.A.Col,r1367.2.1.p.A.Val,r1367.2.1.p.B.Rows,r1367.2.1.p.B.Cols,r1367.2.1.p.B.Start,r1367.2.1.p.B.Col,r1367.2.1.p.B.Val,r1367.2.1.p.Mask.Rows,r1367.2.1.p.Mask.Cols,r1367.2.1.p.Mask.Start,r1367.2.1.p.Mask.Col,r1367.2.1.p.Mask.Val,r1367.2.1.p.R,r1367.2.1.p.C,r1367.2.1.p.Room,r1367.2.1.stages,r1367.2.1.workers,r1367.2.1.boxes,AJ (s1341+1),r1367.2.2.1,r1367.2.2.2)) (FR (fun (k2302:(Int×Int×Int×(List Int)×(List Int)×(List Int)×Int×Int×(List Int)×(List Int)×(List Int)×Int×Int×(List Int)×(List Int)×(List Int)×Int×Int×Int×(List BC)×(List (Option Nat))×(List ((Int×Int)×(Option Nat)))×(List (Nat×AA))×(List (Nat×AF)))→Prop)=>BG (fun (s:Int×Int×Int×(List Int)×(List Int)×(List Int)×Int×Int×(List Int)×(List Int)×(List Int)×Int×Int×(List Int)×(List Int)×(List Int)×Int×Int×Int×(List BC)×(List (Option Nat))×(List ((Int×Int)×(Option Nat)))×Int×(List (Nat×AA))×(List (Nat×AF))) (next2655:(Int×Int×Int×(List Int)×(List Int)×(List Int)×Int×Int×(List Int)×(List Int)×(List Int)×Int×Int×(List Int)×(List Int)×(List Int)×Int×Int×Int×(List BC)×(List (Option Nat))×(List ((Int×Int)×(Option Nat)))×Int×(List (Nat×AA))×(List (Nat×AF)))→Prop)=>match s with | (s2597,s2598,s2599,s2600,s2604,s2608,s2612,s2613,s2614,s2618,s2622,s2626,s2627,s2628,s2632,s2636,s2640,s2641,s2642,s2643,s2647,s2651,s2652,s2653,s2654)=>AP (decide (s2652<a2)) (DD ({ p:=({ Ring:=s2597,A:=({ Rows:=s2598,Cols:=s2599,Start:=s2600,Col:=s2604,Val:=s2608 }:Rows),B:=({ Rows:=s2612,Cols:=s2613,Start:=s2614,Col:=s2618,Val:=s2622 }:Rows),Mask:=({ Rows:=s2626,Cols:=s2627,Start:=s2628,Col:=s2632,Val:=s2636 }:Rows),R:=s2640,C:=s2641,Room:=s2642 }:CM),stages:=s2643,workers:=s2647,boxes:=s2651 }:AD) s2653 fun r2667=>AP (!r2667) (DT ({ p:=({ Ring:=s2597,A:=({ Rows:=s2598,Cols:=s2599,Start:=s2600,Col:=s2604,Val:=s2608 }:Rows),B:=({ Rows:=s2612,Cols:=s2613,Start:=s2614,Col:=s2618,Val:=s2622 }:Rows),Mask:=({ Rows:=s2626,Cols:=s2627,Start:=s2628,Col:=s2632,Val:=s2636 }:Rows),R:=s2640,C:=s2641,Room:=s2642 }:CM),stages:=s2643,workers:=s2647,boxes:=s2651 }:AD) s2653 s2654 fun r2678=>next2655 (r2678.2.1.p.Ring,r2678.2.1.p.A.Rows,r2678.2.1.p.A.Cols,r2678.2.1.p.A.Start,r2678.2.1.p.A.Col,r2678.2.1.p.A.Val,r2678.2.1.p.B.Rows,r2678.2.1.p.B.Cols,r2678.2.1.p.B.Start,r2678.2.1.p.B.Col,r2678.2.1.p.B.Val,r2678.2.1.p.Mask.Rows,r2678.2.1.p.Mask.Cols,r2678.2.1.p.Mask.Start,r2678.2.1.p.Mask.Col,r2678.2.1.p.Mask.Val,r2678.2.1.p.R,r2678.2.1.p.C,r2678.2.1.p.Room,r2678.2.1.stages,r2678.2.1.workers,r2678.2.1.boxes,AJ (s2652+1),r2678.2.2.1,r2678.2.2.2)) (k2302 (s2597,s2598,s2599,s2600,s2604,s2608,s2612,s2613,s2614,s2618,s2622,s2626,s2627,s2628,s2632,s2636,s2640,s2641,s2642,s2643,s2647,s2651,s2653,s2654))) (k2302 (s2597,s2598,s2599,s2600,s2604,s2608,s2612,s2613,s2614,s2618,s2622,s2626,s2627,s2628,s2632,s2636,s2640,s2641,s2642,s2643,s2647,s2651,s2653,s2654))) (s1286,s1287,s1288,s1289,s1293,s1297,s1301,s1302,s1303,s1307,s1311,s1315,s1316,s1317,s1321,s1325,s1329,s1330,s1331,s1332,s1336,s1340,0,s1342,s1343)) fun (s2245,s2246,s2247,s2248,s2252,s2256,s2260,s2261,s2262,s2266,s2270,s2274,s2275,s2276,s2280,s2284,s2288,s2289,s2290,s2291,s2295,s2299,s2300,s2301)=>DU ({ p:=({ Ring:=s2245,A:=({ Rows:=s2246,Cols:=s2247,Start:=s2248,Col:=s2252,Val:=s2256 }:Rows),B:=({ Rows:=s2260,Cols:=s2261,Start:=s2262,Col:=s2266,Val:=s2270 }:Rows),Mask:=({ Rows:=s2274,Cols:=s2275,Start:=s2276,Col:=s2280,Val:=s2284 }:Rows),R:=s2288,C:=s2289,Room:=s2290 }:CM),stages:=s2291,workers:=s2295,boxes:=s2299 }:AD) s2300 fun r2731=>DD ({ p:=({ Ring:=s2245,A:=({ Rows:=s2246,Cols:=s2247,Start:=s2248,Col:=s2252,Val:=s2256 }:Rows),B:=({ Rows:=s2260,Cols:=s2261,Start:=s2262,Col:=s2266,Val:=s2270 }:Rows),Mask:=({ Rows:=s2274,Cols:=s2275,Start:=s2276,Col:=s2280,Val:=s2284 }:Rows),R:=s2288,C:=s2289,Room:=s2290 }:CM),stages:=s2291,workers:=s2295,boxes:=s2299 }:AD) s2300 fun r2752=>Q (r2731.1,r2752,r2731.2))) (r152.2.2.p.Ring,r152.2.2.p.A.Rows,r152.2.2.p.A.Cols,r152.2.2.p.A.Start,r152.2.2.p.A.Col,r152.2.2.p.A.Val,r152.2.2.p.B.Rows,r152.2.2.p.B.Cols,r152.2.2.p.B.Start,r152.2.2.p.B.Col,r152.2.2.p.B.Val,r152.2.2.p.Mask.Rows,r152.2.2.p.Mask.Cols,r152.2.2.p.Mask.Start,r152.2.2.p.Mask.Col,r152.2.2.p.Mask.Val,r152.2.2.p.R,r152.2.2.p.C,r152.2.2.p.Room,r152.2.2.stages,r152.2.2.workers,r152.2.2.boxes,0,r152.2.1,([]:List (Nat×AF)))))))))
def TO (a0:CA) (a1:Int×Int) (a2:GI) (Q:Bool→Prop):Prop:=
  RJ a0 fun r40=>RH r40 fun r50=>RL r50 fun r80=>YG r50.N r50.N fun r119=>HS a2 (AJ ((AJ (((AJ (a1.1)).tmod 4)+1))*(AJ (((AJ (a1.2)).tmod 4)+1)))) fun r168=>SV ({ Ring:=5,A:=r80.1,B:=r80.1,Mask:=r119,R:=AJ (((AJ (a1.1)).tmod 4)+1),C:=AJ (((AJ (a1.2)).tmod 4)+1),Room:=2 }:CM) r168 1000 fun r179=>AP (r179.2.2 != 0) (Q false) (AP (!r179.2.1) (Q false) (MG ({ Kind:=0,A:=0,B:=0,K:=0 }:GH) fun r206=>AP r206 (Q false) (BG (fun (s6434:Int) (next6435:Int→Prop)=>AP (decide (s6434<r50.N)) (BG (fun (s8522:Int) (next8523:Int→Prop)=>AP (decide (s8522<r50.N)) (BG (fun (s:Int×Int) (next9394:(Int×Int)→Prop)=>match s with | (s9392,s9393)=>AP (decide (s9393<(r50.Edges.length:Int))) (BG (fun (s:Int×Int) (next9512:(Int×Int)→Prop)=>match s with | (s9510,s9511)=>AP (decide (s9511<(r50.Edges.length:Int))) (AZ r50.Edges s9393 fun x9532=>AP (x9532.From==s6434) (AZ r50.Edges s9511 fun x9542=>AZ r50.Edges s9393 fun x9551=>AP (x9542.From==x9551.To) (AZ r50.Edges s9511 fun x9561=>AP (x9561.To==s8522) (next9512 (AJ (s9510+1),AJ (s9511+1))) (next9512 (s9510,AJ (s9511+1)))) (next9512 (s9510,AJ (s9511+1)))) (next9394 (s9510,AJ (s9393+1)))) (next9394 (s9510,AJ (s9393+1)))) (s9392,0)) (WE r179.1 s8522 s6434 fun r9570=>AP (r9570.1 != s9392) (Q false) (next8523 (AJ (s8522+1))))) (0,0)) (next6435 (AJ (s6434+1)))) 0) (Q true)) 0)))
abbrev mB (o_:CM) (q0:Option Addr) (q1:Nat) (q2:Option Addr) (q3:Nat) (q4:Option Addr) (q5:Nat) (q6:Option Addr) (q7:Nat) (q8:Option Addr) (q9:Nat) (q10:Option Addr) (q11:Nat) (q12:Option Addr) (q13:Nat) (q14:Option Addr) (q15:Nat) (q16:Option Addr) (q17:Nat):Array Value:=#[.int .i64 o_.Ring,.int .i64 o_.A.Rows,.int .i64 o_.A.Cols,.slice q0 o_.A.Start.length q1,.slice q2 o_.A.Col.length q3,.slice q4 o_.A.Val.length q5,.int .i64 o_.B.Rows,.int .i64 o_.B.Cols,.slice q6 o_.B.Start.length q7,.slice q8 o_.B.Col.length q9,.slice q10 o_.B.Val.length q11,.int .i64 o_.Mask.Rows,.int .i64 o_.Mask.Cols,.slice q12 o_.Mask.Start.length q13,.slice q14 o_.Mask.Col.length q15,.slice q16 o_.Mask.Val.length q17,.int .i64 o_.R,.int .i64 o_.C,.int .i64 o_.Room]
abbrev AQ (o_:AD) (q0:Option Addr) (q1:Nat) (q2:Option Addr) (q3:Nat) (q4:Option Addr) (q5:Nat) (q6:Option Addr) (q7:Nat) (q8:Option Addr) (q9:Nat) (q10:Option Addr) (q11:Nat) (q12:Option Addr) (q13:Nat) (q14:Option Addr) (q15:Nat) (q16:Option Addr) (q17:Nat) (q18:Option Addr) (q19:Nat) (q20:Option Addr) (q21:Nat) (q22:Nat):Array Value:=#[.int .i64 o_.p.Ring,.int .i64 o_.p.A.Rows,.int .i64 o_.p.A.Cols,.slice q0 o_.p.A.Start.length q1,.slice q2 o_.p.A.Col.length q3,.slice q4 o_.p.A.Val.length q5,.int .i64 o_.p.B.Rows,.int .i64 o_.p.B.Cols,.slice q6 o_.p.B.Start.length q7,.slice q8 o_.p.B.Col.length q9,.slice q10 o_.p.B.Val.length q11,.int .i64 o_.p.Mask.Rows,.int .i64 o_.p.Mask.Cols,.slice q12 o_.p.Mask.Start.length q13,.slice q14 o_.p.Mask.Col.length q15,.slice q16 o_.p.Mask.Val.length q17,.int .i64 o_.p.R,.int .i64 o_.p.C,.int .i64 o_.p.Room,.slice q18 o_.stages.length q19,.slice q20 o_.workers.length q21,.map (some q22)]
abbrev NC (o_:AA) (q0:Option Addr) (q1:Nat) (q2:Option Addr) (q3:Nat) (q4:Option Addr) (q5:Nat) (q6:Option Addr) (q7:Nat) (q8:Nat) (q9:Option Addr) (q10:Nat):Array Value:=#[.int .i64 o_.i,.int .i64 o_.j,.int .i64 o_.mask.Rows,.int .i64 o_.mask.Cols,.slice q0 o_.mask.Start.length q1,.slice q2 o_.mask.Col.length q3,.slice q4 o_.mask.Val.length q5,.slice q6 o_.out.length q7,.map (some q8),.int .i64 o_.at_,.slice q9 o_.has.length q10]
end Go.Proofs.YtbohadngdkjljaaGreat
