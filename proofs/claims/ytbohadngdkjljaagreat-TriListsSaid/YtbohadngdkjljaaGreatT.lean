/- Types, and pure functions as the Go text has them (printed by a program of ours). -/
import Derived.Test.YtbohadngdkjljaaGreatFwU
import Derived.Test.YtbohadngdkjljaaGreatFwK
namespace Go.Proofs.YtbohadngdkjljaaGreat
open Go Go.Fw
set_option linter.unusedVariables false
set_option linter.unusedSimpArgs false
set_option maxRecDepth 8000
set_option maxHeartbeats 1000000
abbrev AE:FH Int:=KI 1 (fun x=>[.int .i64 x]) (fun _=>⟨rfl,rfl⟩)
abbrev TE:FH Int:=KI 1 (fun x=>[.int .u64 x]) (fun _=>⟨rfl,rfl⟩)
abbrev eB:FH Bool:=KI 1 (fun x=>[.bool x]) (fun _=>⟨rfl,rfl⟩)
structure AN where
  Hi:Int
  Lo:Int
deriving DecidableEq,Inhabited
def EZ (x:AN):List Value:=[.int .i64 x.Hi,.int .u64 x.Lo]
abbrev KJ:FH AN:=KI 2 EZ (fun _=>⟨rfl,rfl⟩)
structure AL where
  From:Int
  To:Int
  W:Int
deriving DecidableEq,Inhabited
def IR (x:AL):List Value:=[.int .i64 x.From,.int .i64 x.To,.int .i64 x.W]
abbrev BU:FH AL:=KI 3 IR (fun _=>⟨rfl,rfl⟩)
structure AK where
  N:Int
  Edges:List AL
deriving DecidableEq,Inhabited
def AhT:FH AK where
  sz:=2
  rep I cs x:=∃ a1 c1,cs=[.int .i64 x.N,.slice a1 x.Edges.length c1]∧RepSl BU I a1 c1 x.Edges
  mono hle:=fun ⟨a1,c1,e,h0⟩=>⟨a1,c1,e,h0.mono hle⟩
  len:=fun ⟨a1,c1,e,_⟩=>by rw [e]; rfl
  one:=fun ⟨a1,c1,e,_⟩=>by rw [e]; rfl
structure Rows where
  Rows:Int
  Cols:Int
  Start:List Int
  Col:List Int
  Val:List Int
deriving DecidableEq,Inhabited
def uD:FH Rows where
  sz:=5
  rep I cs x:=∃ a2 c2 a3 c3 a4 c4,cs=[.int .i64 x.Rows,.int .i64 x.Cols,.slice a2 x.Start.length c2,.slice a3 x.Col.length c3,.slice a4 x.Val.length c4]∧RepSl AE I a2 c2 x.Start∧RepSl AE I a3 c3 x.Col∧RepSl AE I a4 c4 x.Val
  mono hle:=fun ⟨a2,c2,a3,c3,a4,c4,e,h0,h1,h2⟩=>⟨a2,c2,a3,c3,a4,c4,e,h0.mono hle,h1.mono hle,h2.mono hle⟩
  len:=fun ⟨a2,c2,a3,c3,a4,c4,e,_,_,_⟩=>by rw [e]; rfl
  one:=fun ⟨a2,c2,a3,c3,a4,c4,e,_,_,_⟩=>by rw [e]; rfl
structure AD where
  Row:Int
  Col:Int
  Val:Int
deriving DecidableEq,Inhabited
def ZE (x:AD):List Value:=[.int .i64 x.Row,.int .i64 x.Col,.int .i64 x.Val]
abbrev BV:FH AD:=KI 3 ZE (fun _=>⟨rfl,rfl⟩)
structure BI where
  Ring:Int
  A:Rows
  B:Rows
  Mask:Rows
  R:Int
  C:Int
  Room:Int
deriving DecidableEq,Inhabited
structure BJ where
  From:Int
  To:Int
  Row:Int
  Col:Int
deriving DecidableEq,Inhabited
def kK (x:BJ):List Value:=[.int .i64 x.From,.int .i64 x.To,.int .i64 x.Row,.int .i64 x.Col]
abbrev CB:FH BJ:=KI 4 kK (fun _=>⟨rfl,rfl⟩)
structure EC where
  At:Int
  Val:Int
deriving DecidableEq,Inhabited
def AfX (x:EC):List Value:=[.int .i64 x.At,.int .i64 x.Val]
abbrev RG:FH EC:=KI 2 AfX (fun _=>⟨rfl,rfl⟩)
structure NP where
  Kind:Int
  A:Int
  B:Int
  K:Int
deriving DecidableEq,Inhabited
def cS (x:NP):List Value:=[.int .i64 x.Kind,.int .i64 x.A,.int .i64 x.B,.int .i64 x.K]
abbrev AdL:FH NP:=KI 4 cS (fun _=>⟨rfl,rfl⟩)
structure eZ where
  At:Int
  Val:AN
deriving DecidableEq,Inhabited
def AhU (x:eZ):List Value:=[.int .i64 x.At,.int .i64 x.Val.Hi,.int .u64 x.Val.Lo]
abbrev fG:FH eZ:=KI 3 AhU (fun _=>⟨rfl,rfl⟩)
structure Vec where
  N:Int
  Items:List EC
deriving DecidableEq,Inhabited
structure BL where
  Kind:Int
  From:Int
  To:Int
  Seq:Int
  Round:Int
  Vec:Vec
  Sums:List eZ
  Triples:List AD
  N:Int
  Over:Bool
deriving DecidableEq,Inhabited
def DQ:FH BL where
  sz:=11
  rep I cs x:=∃ a6 c6 a7 c7 a8 c8,cs=[.int .i64 x.Kind,.int .i64 x.From,.int .i64 x.To,.int .i64 x.Seq,.int .i64 x.Round,.int .i64 x.Vec.N,.slice a6 x.Vec.Items.length c6,.slice a7 x.Sums.length c7,.slice a8 x.Triples.length c8,.int .i64 x.N,.bool x.Over]∧RepSl RG I a6 c6 x.Vec.Items∧RepSl fG I a7 c7 x.Sums∧RepSl BV I a8 c8 x.Triples
  mono hle:=fun ⟨a6,c6,a7,c7,a8,c8,e,h0,h1,h2⟩=>⟨a6,c6,a7,c7,a8,c8,e,h0.mono hle,h1.mono hle,h2.mono hle⟩
  len:=fun ⟨a6,c6,a7,c7,a8,c8,e,_,_,_⟩=>by rw [e]; rfl
  one:=fun ⟨a6,c6,a7,c7,a8,c8,e,_,_,_⟩=>by rw [e]; rfl
structure AM where
  Row:Int
  Col:Int
  Val:AN
deriving DecidableEq,Inhabited
def V8 (x:AM):List Value:=[.int .i64 x.Row,.int .i64 x.Col,.int .i64 x.Val.Hi,.int .u64 x.Val.Lo]
abbrev CI:FH AM:=KI 4 V8 (fun _=>⟨rfl,rfl⟩)
structure BC where
  kind:Int
  stage:Int
deriving DecidableEq,Inhabited
def VV (x:BC):List Value:=[.int .i64 x.kind,.int .i64 x.stage]
abbrev FP (x:BC):Value:=.agg (VV x).toArray
structure AA where
  i:Int
  j:Int
  mask:Rows
  out:List BL
  parts:List (BC×(List AD))
  at_:Int
  has:List AM
deriving DecidableEq,Inhabited
structure AF where
  room:Int
  row:List Int
  by_:List (Int×BL)
  often:List (Int×Int)
  sent:Int
  taken:Int
deriving DecidableEq,Inhabited
structure AC where
  p:BI
  stages:List BJ
  workers:List (Option Nat)
  boxes:List ((Int×Int)×(Option Nat))
deriving DecidableEq,Inhabited
def AG:BoxTy AA where
  A:=Option Addr×Nat×Option Addr×Nat×Option Addr×Nat×Option Addr×Nat×Nat×Option Addr×Nat
  fact I a x:=RepSl AE I (a.1) (a.2.1) x.mask.Start∧RepSl AE I (a.2.2.1) (a.2.2.2.1) x.mask.Col∧RepSl AE I (a.2.2.2.2.1) (a.2.2.2.2.2.1) x.mask.Val∧RepSl DQ I (a.2.2.2.2.2.2.1) (a.2.2.2.2.2.2.2.1) x.out∧RepSl CI I (a.2.2.2.2.2.2.2.2.2.1) (a.2.2.2.2.2.2.2.2.2.2) x.has
  mono:=fun h ⟨h0,h1,h2,h3,h4⟩=>⟨h0.mono h,h1.mono h,h2.mono h,h3.mono h,h4.mono h⟩
  obj a x:=.cells #[.int .i64 x.i,.int .i64 x.j,.int .i64 x.mask.Rows,.int .i64 x.mask.Cols,.slice (a.1) x.mask.Start.length (a.2.1),.slice (a.2.2.1) x.mask.Col.length (a.2.2.2.1),.slice (a.2.2.2.2.1) x.mask.Val.length (a.2.2.2.2.2.1),.slice (a.2.2.2.2.2.2.1) x.out.length (a.2.2.2.2.2.2.2.1),.map (some (a.2.2.2.2.2.2.2.2.1)),.int .i64 x.at_,.slice (a.2.2.2.2.2.2.2.2.2.1) x.has.length (a.2.2.2.2.2.2.2.2.2.2)] 127 (0,0)
  more a x:=[OwnMap FP (NN BV) false (a.2.2.2.2.2.2.2.2.1) x.parts]
def BD:BoxTy AF where
  A:=Option Addr×Nat×Nat×Nat
  fact I a x:=True
  mono:=fun _ _=>trivial
  obj a x:=.cells #[.int .i64 x.room,.slice (a.1) x.row.length (a.2.1),.map (some (a.2.2.1)),.map (some (a.2.2.2)),.int .i64 x.sent,.int .i64 x.taken] 213 (0,0)
  more a x:=[OwnSl AE 3 (a.1) (a.2.1) x.row,OwnMap (Value.int .i64) DQ true (a.2.2.1) x.by_,OwnMap (Value.int .i64) AE false (a.2.2.2) x.often]
def cT (a0:Int) (Q:Bool→Prop):Prop:=
  AR (decide (1≤a0)) (Q (decide (a0≤5))) (Q false)
def ZF (a0:AN) (a1:AN) (Q:AN→Prop):Prop:=
  AR (decide ((IntKind.wrap .u64 (a0.Lo+a1.Lo))<a0.Lo)) (Q ({ Hi:=AJ ((AJ (a0.Hi+a1.Hi))+1),Lo:=IntKind.wrap .u64 (a0.Lo+a1.Lo) }:AN)) (Q ({ Hi:=AJ (a0.Hi+a1.Hi),Lo:=IntKind.wrap .u64 (a0.Lo+a1.Lo) }:AN))
def PV (a0:AN) (a1:AN) (Q:Int→Prop):Prop:=
  FM (fun (h:Unit→Prop)=>AR (decide (a0.Hi<a1.Hi)) (Q (-1)) (AR (a0.Hi==a1.Hi) (AR (decide (a0.Lo<a1.Lo)) (Q (-1)) (h ())) (h ()))) fun _=>AR (a0==a1) (Q 0) (Q 1)
def QJ (a0:Bool) (Q:AN→Prop):Prop:=
  AR a0 (Q ({ Hi:=0,Lo:=1 }:AN)) (Q ({ Hi:=0,Lo:=0 }:AN))
def ZG (a0:Int) (a1:AN) (a2:AN) (Q:AN→Prop):Prop:=
  FM (fun (h:Bool→Prop)=>AR (a0==1) (h (a0==1)) (AR (a0==3) (h (a0==3)) (h (a0==4)))) fun O=>AR O (PV a2 a1 fun D=>AR (decide (D<0)) (Q a2) (Q a1)) (AR (a0==2) (AR (!(a1==({ Hi:=0,Lo:=0 }:AN))) (QJ true fun G=>Q G) (QJ (!(a2==({ Hi:=0,Lo:=0 }:AN))) fun U=>Q U)) (AR (a0==5) (ZF a1 a2 fun J=>Q J) (Q ({ Hi:=0,Lo:=0 }:AN))))
def cU (a0:Int) (Q:AN→Prop):Prop:=
  AR (decide (a0<0)) (Q ({ Hi:=(-1),Lo:=IntKind.wrap .u64 (a0) }:AN)) (Q ({ Hi:=0,Lo:=IntKind.wrap .u64 (a0) }:AN))
def RR (a0:AN) (Q:(Int×Bool)→Prop):Prop:=
  AR (a0.Hi==0) (AR (decide (0≤(AJ (a0.Lo)))) (Q (AJ (a0.Lo),true)) (AR (a0.Hi==(-1)) (AR (decide ((AJ (a0.Lo))<0)) (Q (AJ (a0.Lo),true)) (Q (0,false))) (Q (0,false)))) (AR (a0.Hi==(-1)) (AR (decide ((AJ (a0.Lo))<0)) (Q (AJ (a0.Lo),true)) (Q (0,false))) (Q (0,false)))
def QK (a0:AL) (a1:AL) (Q:Bool→Prop):Prop:=
  AR (decide (a0.From<a1.From)) (Q true) (AR (a0.From==a1.From) (Q (decide (a0.To<a1.To))) (Q false))
def PW (a0:Int) (a1:List AL) (Q:((List AL)×Int)→Prop):Prop:=
  cT a0 fun r12=>AR (!r12) (Q (([]:List AL),8)) (BB (fun (s:(List AL)×(List AN)×Int) (G:((List AL)×(List AN)×Int)→Prop)=>match s with | (s2657,s2661,s2665)=>AR (decide (s2665<(a1.length:Int))) (FM (fun (Z:Int→Prop)=>BB (fun (D:Int) (U:Int→Prop)=>AR (decide (D<(s2657.length:Int))) (AY s2657 D fun x2879=>AY a1 s2665 fun x2884=>QK x2879 x2884 fun r2892=>AR r2892 (U (AJ (D+1))) (Z D)) (Z D)) 0) fun h=>AY a1 s2665 fun x2916=>cU x2916.W fun Y=>FM (fun (k3057:Bool→Prop)=>AR (decide (h<(s2657.length:Int))) (AY a1 s2665 fun x3062=>AY s2657 h fun x3071=>QK x3062 x3071 fun r3075=>k3057 (!r3075)) (k3057 false)) fun s3056=>AR s3056 (AY s2661 h fun x3087=>ZG a0 x3087 Y fun r3091=>AY s2661 h fun x3096=>G (s2657,(s2661.set h.toNat r3091),AJ (s2665+1))) (FX 24 s2657 ([({ From:=0,To:=0,W:=0 }:AL)]) fun _=>FX 16 s2661 ([({ Hi:=0,Lo:=0 }:AN)]) fun _=>BB (fun (s:(List AL)×(List AN)×Int) (J:((List AL)×(List AN)×Int)→Prop)=>match s with | (s3281,s3285,s3289)=>AR (decide (h<s3289)) (AY s3281 (AJ (s3289 - 1)) fun x3299=>AY s3281 s3289 fun x3304=>AY s3285 (AJ (s3289 - 1)) fun x3307=>AY s3285 s3289 fun x3312=>J ((s3281.set s3289.toNat x3299),(s3285.set s3289.toNat x3307),AJ (s3289 - 1))) (AY a1 s2665 fun x3317=>AY a1 s2665 fun x3326=>AY s3281 h fun x3335=>AY s3285 h fun x3340=>G ((s3281.set h.toNat ({ From:=x3317.From,To:=x3326.To,W:=0 }:AL)),(s3285.set h.toNat Y),AJ (s2665+1)))) ((s2657++([({ From:=0,To:=0,W:=0 }:AL)])),(s2661++([({ Hi:=0,Lo:=0 }:AN)])),AJ (((s2657++([({ From:=0,To:=0,W:=0 }:AL)])).length:Int) - 1)))) (BB (fun (s:(List AL)×Int) (O:((List AL)×Int)→Prop)=>match s with | (s3411,s3415)=>AR (decide (s3415<(s3411.length:Int))) (AY s2661 s3415 fun x3432=>RR x3432 fun V=>AR (!V.2) (Q (([]:List AL),12)) (AY s3411 s3415 fun x3443=>O ((s3411.set s3415.toNat ({ From:=x3443.From,To:=x3443.To,W:=V.1 }:AL)),AJ (s3415+1)))) (Q (s3411,0))) (s2657,0))) (([]:List AL),([]:List AN),0))
def KK (a0:AK) (Q:AK→Prop):Prop:=
  PW 1 a0.Edges fun h=>Q ({ N:=a0.N,Edges:=h.1 }:AK)
def V9 (a0:AK) (Q:AK→Prop):Prop:=
  BB (fun (s:(List AL)×Int) (h:((List AL)×Int)→Prop)=>match s with | (s88,s92)=>AR (decide (s92<(a0.Edges.length:Int))) (AY a0.Edges s92 fun G=>AY a0.Edges s92 fun D=>FX 24 s88 ([({ From:=G.From,To:=D.To,W:=1 }:AL)]) fun _=>h ((s88++([({ From:=G.From,To:=D.To,W:=1 }:AL)])),AJ (s92+1))) (KK ({ N:=a0.N,Edges:=s88 }:AK) fun J=>Q J)) (([]:List AL),0)
def KL (a0:AK) (Q:Int→Prop):Prop:=
  AR (decide (a0.N<0)) (Q 3) (AR (decide (4096<a0.N)) (Q 5) (AR (decide (65536<(a0.Edges.length:Int))) (Q 5) (BB (fun (O:Int) (G:Int→Prop)=>AR (decide (O<(a0.Edges.length:Int))) (AY a0.Edges O fun h=>AR (decide (h.From<0)) (Q 3) (AR (decide (a0.N≤h.From)) (Q 3) (AR (decide (h.To<0)) (Q 3) (AR (decide (a0.N≤h.To)) (Q 3) (G (AJ (O+1))))))) (BB (fun (D:Int) (J:Int→Prop)=>AR (decide (D<(a0.Edges.length:Int))) (AY a0.Edges D fun V=>AR (decide (V.W<0)) (Q 7) (AY a0.Edges D fun U=>AR (decide (2147483647<U.W)) (Q 7) (J (AJ (D+1))))) (Q 0)) 0)) 0)))
def TF (a0:AK) (Q:AK→Prop):Prop:=
  BB (fun (s:(List AL)×Int) (D:((List AL)×Int)→Prop)=>match s with | (s95,s99)=>AR (decide (s99<(a0.Edges.length:Int))) (AY a0.Edges s99 fun h=>FX 24 s95 ([({ From:=h.To,To:=h.From,W:=h.W }:AL)]) fun _=>D ((s95++([({ From:=h.To,To:=h.From,W:=h.W }:AL)])),AJ (s99+1))) (KK ({ N:=a0.N,Edges:=s95 }:AK) fun G=>Q G)) (([]:List AL),0)
def Y7 (a0:Int) (a1:Int) (Q:Rows→Prop):Prop:=
  mkP 8 (AJ (a0+1)) 0 fun _=>Q ({ Rows:=a0,Cols:=a1,Start:=(List.replicate (AJ (a0+1)).toNat 0),Col:=([]:List Int),Val:=([]:List Int) }:Rows)
def VA (a0:Int) (a1:Int) (a2:List AD) (Q:Rows→Prop):Prop:=
  Y7 a0 a1 fun D=>BB (fun (s:(List Int)×(List Int)×(List Int)×Int) (h:((List Int)×(List Int)×(List Int)×Int)→Prop)=>match s with | (s390,s394,s398,s402)=>AR (decide (s402<(a2.length:Int))) (AY a2 s402 fun J=>FX 8 s394 ([J.Col]) fun _=>AY a2 s402 fun O=>FX 8 s398 ([O.Val]) fun _=>AY a2 s402 fun V=>BB (fun (s:(List Int)×Int) (G:((List Int)×Int)→Prop)=>match s with | (s534,s538)=>AR (decide (s538≤a0)) (AY s534 s538 fun U=>AY s534 s538 fun W=>G ((s534.set s538.toNat (AJ (U+1))),AJ (s538+1))) (h (s534,(s394++([J.Col])),(s398++([O.Val])),AJ (s402+1)))) (s390,AJ (V.Row+1))) (Q ({ Rows:=D.Rows,Cols:=D.Cols,Start:=s390,Col:=s394,Val:=s398 }:Rows))) (D.Start,D.Col,D.Val,0)
def VB (a0:AK) (Q:(Rows×Int)→Prop):Prop:=
  KL a0 fun U=>AR (U != 0) (Q (({ Rows:=0,Cols:=0,Start:=([]:List Int),Col:=([]:List Int),Val:=([]:List Int) }:Rows),U)) (TF a0 fun D=>BB (fun (s:(List AD)×Int) (h:((List AD)×Int)→Prop)=>match s with | (s122,s126)=>AR (decide (s126<(D.Edges.length:Int))) (AY D.Edges s126 fun O=>AY D.Edges s126 fun G=>AY D.Edges s126 fun J=>FX 24 s122 ([({ Row:=O.From,Col:=G.To,Val:=J.W }:AD)]) fun _=>h ((s122++([({ Row:=O.From,Col:=G.To,Val:=J.W }:AD)])),AJ (s126+1))) (VA a0.N a0.N s122 fun V=>Q (V,0))) (([]:List AD),0))
def JK (a0:Int) (a1:Int) (Q:Bool→Prop):Prop:=
  AR (decide (1≤a0)) (Q (decide (a0≤a1))) (Q false)
def NQ (a0:Int) (Q:Bool→Prop):Prop:=
  AR (decide (0<a0)) (Q (decide (a0<6))) (Q false)
def GM (a0:Int) (a1:Int) (Q:Bool→Prop):Prop:=
  AR (decide (0≤a0)) (Q (decide (a0≤a1))) (Q false)
def HN (a0:Int) (Q:Bool→Prop):Prop:=
  Q (a0 != a0)
def RS (a0:Int) (a1:Int) (Q:Bool→Prop):Prop:=
  HN a0 fun D=>AR D (HN a1 fun h=>AR (!h) (Q true) (Q (decide (a0<a1)))) (Q (decide (a0<a1)))
def FU (a0:List Int) (Q:Bool→Prop):Prop:=
  BB (fun (h:Int) (D:Int→Prop)=>AR (decide (0<h)) (AY a0 h fun G=>AY a0 (AJ (h - 1)) fun O=>RS G O fun J=>AR J (Q false) (D (AJ (h - 1)))) (Q true)) (AJ ((a0.length:Int) - 1))
def jJ (a0:List Int) (a1:Int) (Q:Bool→Prop):Prop:=
  BB (fun (D:Int) (h:Int→Prop)=>AR (decide (D<(a0.length:Int))) (AY a0 D fun G=>GM G (AJ (a1 - 1)) fun J=>AR (!J) (Q false) (AR (decide (0<D)) (AY a0 (AJ (D - 1)) fun O=>AR (decide (G≤O)) (Q false) (h (AJ (D+1)))) (h (AJ (D+1))))) (Q true)) 0
def HV (a0:Rows) (Q:Bool→Prop):Prop:=
  GM a0.Rows 4096 fun Z=>AR (!Z) (Q false) (GM a0.Cols 4096 fun V=>AR (!V) (Q false) (AR ((a0.Start.length:Int) != (AJ (a0.Rows+1))) (Q false) (AR ((a0.Val.length:Int) != (a0.Col.length:Int)) (Q false) (AR (decide (65536<(a0.Col.length:Int))) (Q false) (AY a0.Start 0 fun Y=>AR (Y != 0) (Q false) (AY a0.Start a0.Rows fun W=>AR (W != (a0.Col.length:Int)) (Q false) (FU a0.Start fun U=>AR (!U) (Q false) (BB (fun (h:Int) (D:Int→Prop)=>AR (decide (h<a0.Rows)) (AY a0.Start h fun G=>AY a0.Start (AJ (h+1)) fun J=>slP a0.Col G J fun _=>jJ ((a0.Col.take J.toNat).drop G.toNat) a0.Cols fun O=>AR (!O) (Q false) (D (AJ (h+1)))) (Q true)) 0))))))))
def QL (a0:BI) (Q:Int→Prop):Prop:=
  NQ a0.Ring fun r36=>AR (!r36) (Q 8) (FM (fun (D:Bool→Prop)=>HV a0.A fun W=>AR (!W) (D true) (HV a0.B fun V=>AR (!V) (D true) (HV a0.Mask fun U=>D (!U)))) fun Y=>AR Y (Q 7) (FM (fun (h:Bool→Prop)=>AR (a0.A.Cols != a0.B.Rows) (h (a0.A.Cols != a0.B.Rows)) (AR (a0.Mask.Rows != a0.A.Rows) (h (a0.Mask.Rows != a0.A.Rows)) (h (a0.Mask.Cols != a0.B.Cols)))) fun Z=>AR Z (Q 4) (JK a0.R 8 fun J=>AR (!J) (Q 3) (JK a0.C 8 fun O=>AR (!O) (Q 3) (JK a0.Room 64 fun G=>AR (!G) (Q 3) (Q 0))))))
def OZ (a0:Int) (Q:Bool→Prop):Prop:=
  AR (decide (0<a0)) (Q (decide (a0≤8))) (Q false)
def TG (a0:Int) (a1:Int) (Q:Bool→Prop):Prop:=
  AR (decide (0≤a0)) (AR (decide (a0≤4096)) (OZ a1 fun h=>Q h) (Q false)) (Q false)
def GC (a0:Int) (a1:Int) (a2:Int) (Q:Int→Prop):Prop:=
  TG a0 a1 fun h=>AR (!h) (Q 0) (nzP a1 <| Q (AJ ((AJ ((if a1<(if 0 > a2 then 0 else a2) then a1 else (if 0 > a2 then 0 else a2))*a0)).tdiv a1)))
def cV (a0:Int) (a1:Int) (a2:Int) (Q:Int→Prop):Prop:=
  TG a0 a1 fun J=>AR (!J) (Q (-1)) (AR (decide (a2<0)) (Q (-1)) (AR (decide (a0≤a2)) (Q (-1)) (nzP a0 <| BB (fun (D:Int) (h:Int→Prop)=>GC a0 a1 (AJ (D+1)) fun G=>AR (decide (G≤a2)) (h (AJ (D+1))) (Q D)) (AJ ((AJ (a2*a1)).tdiv a0)))))
def VW (a0:Int) (a1:Int) (a2:Int) (Q:(Int×Int×Int)→Prop):Prop:=
  Q (a1,a0,a2)
def QX (o0:Nat) (o1:Int) (o2:Int) (o3:Int) (o4:List BJ) (o5:Int) (o6:Int) (o7:Int) (o8:Int) (Y:Nat→Int→Int→Int→(List BJ)→Int→Int→((Bool×Nat×(List BJ)×Int)→Prop)→Prop) (Q:(Nat×(List BJ)×Int)→Prop):Prop:=
  BB (fun (s:(List Int)×Int) (J:((List Int)×Int)→Prop)=>match s with | (s139,s143)=>AR (decide (s143<o6)) (GC o7 o6 (AJ (s143+1)) fun V=>FX 8 s139 ([V]) fun _=>J ((s139++([V])),AJ (s143+1))) (BB (fun (s:(List Int)×Int) (O:((List Int)×Int)→Prop)=>match s with | (s259,s263)=>AR (decide (s263<o8)) (GC o7 o8 (AJ (s263+1)) fun W=>FX 8 s259 ([W]) fun _=>O ((s259++([W])),AJ (s263+1))) (AdI s259 fun U=>BB (fun (s:(List BJ)×Int×Int×Int×Nat) (D:((List BJ)×Int×Int×Int×Nat)→Prop)=>match s with | (s388,s392,s393,s394,s395)=>AR (decide (s394<(U.length:Int))) (AY U s394 fun G=>AR (decide (s393<G)) (Y s395 o1 o2 o3 s388 s392 G fun h=>AR (!h.1) (Q (h.2.1,h.2.2.1,h.2.2.2)) (D (h.2.2.1,h.2.2.2,G,AJ (s394+1),h.2.1))) (D (s388,s392,G,AJ (s394+1),s395))) (Q (s395,s388,s392))) (o4,o5,0,0,o0))) (s139,0))) (([]:List Int),0)
def LR (a0:Int) (a1:Int) (a2:Int) (Q:(List BJ)→Prop):Prop:=
  TG a0 a1 fun r26=>AR (!r26) (Q ([]:List BJ)) (TG a0 a2 fun r31=>AR (!r31) (Q ([]:List BJ)) (VW a0 a1 a2 fun W=>QX 0 a0 a1 a2 ([]:List BJ) 0 W.1 W.2.1 W.2.2 (fun (y132:Nat) (O:Int) (Z:Int) (Y:Int) (V:List BJ) (h:Int) (D:Int) (Qy:(Bool×Nat×(List BJ)×Int)→Prop)=>eqP y132 0 (cV O Z h fun J=>cV O Y h fun G=>FX 32 V ([({ From:=h,To:=D,Row:=J,Col:=G }:BJ)]) fun _=>Qy (true,0,(V++([({ From:=h,To:=D,Row:=J,Col:=G }:BJ)])),D))) fun U=>eqP U.1 0 (Q U.2.1)))
def WA (a0:Int) (a1:Int) (Q:Int→Prop):Prop:=
  OZ a0 fun h=>AR (!h) (Q (-1)) (AR (decide (a1<0)) (Q (-1)) (AR (decide ((AJ (a0*8))≤a1)) (Q (-1)) (nzP a0 <| Q (AJ (a1.tdiv a0)))))
def Y8 (a0:Int) (a1:Int) (Q:Int→Prop):Prop:=
  WA a0 a1 fun h=>AR (decide (h<0)) (Q (-1)) (nzP a0 <| Q (a1.tmod a0))
def TH (a0:Int) (Q:Bool→Prop):Prop:=
  AR (decide (1≤a0)) (Q (decide (a0≤8))) (Q false)
def WY (a0:Int) (a1:Int) (a2:Int) (a3:Int) (Q:Bool→Prop):Prop:=
  TH a0 fun D=>AR D (TH a1 fun h=>AR h (AR (decide (0≤a2)) (AR (decide (a2<a0)) (AR (decide (0≤a3)) (Q (decide (a3<a1))) (Q false)) (Q false)) (Q false)) (Q false)) (Q false)
def WB (a0:Int) (a1:Int) (Q:Rows→Prop):Prop:=
  mkP 8 (AJ (a0+1)) 0 fun _=>Q ({ Rows:=a0,Cols:=a1,Start:=(List.replicate (AJ (a0+1)).toNat 0),Col:=([]:List Int),Val:=([]:List Int) }:Rows)
def PA (a0:Int) (a1:Int) (a2:List AD) (Q:Rows→Prop):Prop:=
  WB a0 a1 fun D=>BB (fun (s:(List Int)×(List Int)×(List Int)×Int) (J:((List Int)×(List Int)×(List Int)×Int)→Prop)=>match s with | (s414,s418,s422,s426)=>AR (decide (s426<(a2.length:Int))) (AY a2 s426 fun h=>AY s414 (AJ (h.Row+1)) fun O=>AY s414 (AJ (h.Row+1)) fun W=>FX 8 s418 ([h.Col]) fun _=>FX 8 s422 ([h.Val]) fun _=>J ((s414.set ((AJ (h.Row+1)).toNat) (AJ (O+1))),(s418++([h.Col])),(s422++([h.Val])),AJ (s426+1))) (BB (fun (s:(List Int)×Int) (G:((List Int)×Int)→Prop)=>match s with | (s530,s534)=>AR (decide (s534<a0)) (AY s530 (AJ (s534+1)) fun V=>AY s530 s534 fun U=>AY s530 (AJ (s534+1)) fun Y=>G ((s530.set ((AJ (s534+1)).toNat) (AJ (V+U))),AJ (s534+1))) (Q ({ Rows:=D.Rows,Cols:=D.Cols,Start:=s530,Col:=s418,Val:=s422 }:Rows))) (s414,0))) (D.Start,D.Col,D.Val,0)
def WC (a0:Rows) (Q:Rows→Prop):Prop:=
  HV a0 fun h=>AR h (Q a0) (WB 0 0 fun D=>Q D)
def TI (a0:Int×Int) (a1:Int) (Q:(Int×Int)→Prop):Prop:=
  AR (decide ((if a1<a0.2 then a1 else a0.2)≤(if 0 > a0.1 then 0 else a0.1))) (Q ((if 0 > a0.1 then 0 else a0.1),0)) (Q ((if 0 > a0.1 then 0 else a0.1),AJ ((if a1<a0.2 then a1 else a0.2) - (if 0 > a0.1 then 0 else a0.1))))
def Y9 (a0:Rows) (a1:Int) (Q:((List Int)×(List Int))→Prop):Prop:=
  AY a0.Start a1 fun h=>AY a0.Start (AJ (a1+1)) fun D=>slP a0.Col h D fun _=>slP a0.Val h D fun _=>Q (((a0.Col.take D.toNat).drop h.toNat),((a0.Val.take D.toNat).drop h.toNat))
def jK (a0:Rows) (a1:Int) (Q:(List EC)→Prop):Prop:=
  WC a0 fun O=>GM a1 (AJ (O.Rows - 1)) fun U=>AR (!U) (Q ([]:List EC)) (Y9 O a1 fun J=>BB (fun (s:(List EC)×Int) (h:((List EC)×Int)→Prop)=>match s with | (s155,s159)=>AR (decide (s159<(J.1.length:Int))) (AY J.1 s159 fun G=>AY J.2 s159 fun D=>FX 16 s155 ([({ At:=G,Val:=D }:EC)]) fun _=>h ((s155++([({ At:=G,Val:=D }:EC)])),AJ (s159+1))) (Q s155)) (([]:List EC),0))
def MH (a0:Rows) (a1:Int×Int) (a2:Int×Int) (Q:Rows→Prop):Prop:=
  WC a0 fun W=>TI a1 W.Rows fun V=>TI a2 W.Cols fun G=>BB (fun (s:(List AD)×Int) (J:((List AD)×Int)→Prop)=>match s with | (s440,s444)=>AR (decide (s444<V.2)) (jK W (AJ (V.1+s444)) fun U=>BB (fun (s:(List AD)×Int) (D:((List AD)×Int)→Prop)=>match s with | (s571,s575)=>AR (decide (s575<(U.length:Int))) (AY U s575 fun h=>FM (fun (O:Bool→Prop)=>AR (decide (G.1≤h.At)) (O (decide ((AJ (h.At - G.1))<G.2))) (O false)) fun Y=>AR Y (FX 24 s571 ([({ Row:=s444,Col:=AJ (h.At - G.1),Val:=h.Val }:AD)]) fun _=>D ((s571++([({ Row:=s444,Col:=AJ (h.At - G.1),Val:=h.Val }:AD)])),AJ (s575+1))) (D (s571,AJ (s575+1)))) (J (s571,AJ (s444+1)))) (s440,0)) (PA V.2 G.2 s440 fun Z=>Q Z)) (([]:List AD),0)
def NR (a0:Int) (a1:Int) (a2:Int) (Q:(Int×Int)→Prop):Prop:=
  GC a0 a1 a2 fun h=>GC a0 a1 (AJ (a2+1)) fun D=>Q (h,D)
def SN (a0:Rows) (a1:Int) (a2:Int) (a3:Int) (W:Int) (Q:Rows→Prop):Prop:=
  HV a0 fun U=>AR (!U) (MH ({ Rows:=0,Cols:=0,Start:=([]:List Int),Col:=([]:List Int),Val:=([]:List Int) }:Rows) (0,0) (0,0) fun V=>Q V) (WY a1 a2 a3 W fun O=>AR (!O) (MH ({ Rows:=0,Cols:=0,Start:=([]:List Int),Col:=([]:List Int),Val:=([]:List Int) }:Rows) (0,0) (0,0) fun J=>Q J) (NR a0.Rows a1 a3 fun G=>NR a0.Cols a2 W fun h=>MH a0 G h fun D=>Q D))
def KM (a0:Rows) (Q:(List AD)→Prop):Prop:=
  WC a0 fun U=>BB (fun (s:(List AD)×Int) (h:((List AD)×Int)→Prop)=>match s with | (s386,s390)=>AR (decide (s390<U.Rows)) (Y9 U s390 fun G=>BB (fun (s:(List AD)×Int) (D:((List AD)×Int)→Prop)=>match s with | (s513,s517)=>AR (decide (s517<(G.1.length:Int))) (AY G.1 s517 fun O=>AY G.2 s517 fun J=>FX 24 s513 ([({ Row:=s390,Col:=O,Val:=J }:AD)]) fun _=>D ((s513++([({ Row:=s390,Col:=O,Val:=J }:AD)])),AJ (s517+1))) (h (s513,AJ (s390+1)))) (s386,0)) (Q s386)) (([]:List AD),0)
def IU (a0:Int) (a1:Int) (a2:Int) (Q:(Int×Int)→Prop):Prop:=
  GC a0 a1 a2 fun h=>GC a0 a1 (AJ (a2+1)) fun D=>Q (h,D)
def NA (a0:Int) (a1:Int) (Q:Bool→Prop):Prop:=
  AR (decide (0≤a0)) (Q (decide (a0≤a1))) (Q false)
def TJ (a0:NP) (Q:Bool→Prop):Prop:=
  NA a0.A 63 fun D=>AR (!D) (Q false) (NA a0.B 63 fun h=>AR (!h) (Q false) (NA a0.K 63 fun G=>AR (!G) (Q false) (AR (decide (0<a0.Kind)) (Q (decide (a0.Kind≤5))) (Q false))))
def FK (a0:List EC) (Q:(List EC)→Prop):Prop:=
  AfO a0 (Q ([]:List EC)) (FX 16 ([]:List EC) a0 fun _=>Q (([]:List EC)++a0))
def FY (a0:List eZ) (Q:(List eZ)→Prop):Prop:=
  AfO a0 (Q ([]:List eZ)) (FX 24 ([]:List eZ) a0 fun _=>Q (([]:List eZ)++a0))
def EL (a0:List AD) (Q:(List AD)→Prop):Prop:=
  AfO a0 (Q ([]:List AD)) (FX 24 ([]:List AD) a0 fun _=>Q (([]:List AD)++a0))
def YA (a0:BL) (Q:BL→Prop):Prop:=
  FK a0.Vec.Items fun G=>FY a0.Sums fun D=>EL a0.Triples fun h=>Q ({ Kind:=a0.Kind,From:=a0.From,To:=a0.To,Seq:=a0.Seq,Round:=a0.Round,Vec:=({ N:=a0.Vec.N,Items:=G }:Vec),Sums:=D,Triples:=h,N:=a0.N,Over:=a0.Over }:BL)
def JW (a0:Int) (Q:AN→Prop):Prop:=
  Q ({ Hi:=shr .i64 a0 63,Lo:=IntKind.wrap .u64 (a0) }:AN)
def HO (a0:List Int) (Q:Int→Prop):Prop:=
  BB (fun (D:Int) (h:Int→Prop)=>AR (decide (D<(a0.length:Int))) (AY a0 D fun G=>AR (G != 0) (Q G) (h (AJ (D+1)))) (Q 0)) 0
def MI (a0:Int) (Q:Bool→Prop):Prop:=
  Q (a0 != a0)
def HD (a0:Int) (a1:Int) (Q:Int→Prop):Prop:=
  MI a0 fun D=>MI a1 fun h=>AR D (AR h (Q 0) (Q (-1))) (AR h (Q 1) (AR (decide (a0<a1)) (Q (-1)) (AR (decide (a1<a0)) (Q 1) (Q 0))))
def KV (a0:Int) (Q:Bool→Prop):Prop:=
  Q (a0 != a0)
def IV (a0:Int) (a1:Int) (Q:Int→Prop):Prop:=
  KV a0 fun D=>KV a1 fun h=>AR D (AR h (Q 0) (Q (-1))) (AR h (Q 1) (AR (decide (a0<a1)) (Q (-1)) (AR (decide (a1<a0)) (Q 1) (Q 0))))
def RT (a0:AN) (a1:AN) (Q:Int→Prop):Prop:=
  HD a0.Hi a1.Hi fun G=>IV a0.Lo a1.Lo fun D=>HO ([G,D]:List Int) fun h=>Q h
def QM (a0:AN) (a1:AN) (Q:AN→Prop):Prop:=
  RT a0 a1 fun h=>AR (decide (h≤0)) (Q a0) (Q a1)
def MM (a0:Bool) (Q:AN→Prop):Prop:=
  AR a0 (JW 1 fun h=>Q h) (Q ({ Hi:=0,Lo:=0 }:AN))
def TK (a0:Bool) (Q:Int→Prop):Prop:=
  AR a0 (Q 1) (Q 0)
def YB (a0:AN) (a1:AN) (Q:AN→Prop):Prop:=
  TK (decide ((IntKind.wrap .u64 (a0.Lo+a1.Lo))<a1.Lo)) fun h=>Q ({ Hi:=AJ (IntKind.wrap .u64 ((IntKind.wrap .u64 ((IntKind.wrap .u64 (a0.Hi))+(IntKind.wrap .u64 (a1.Hi))))+h)),Lo:=IntKind.wrap .u64 (a0.Lo+a1.Lo) }:AN)
def QN (a0:Int) (a1:AN) (a2:AN) (Q:AN→Prop):Prop:=
  FM (fun (h:Bool→Prop)=>AR (a0==1) (h (a0==1)) (AR (a0==3) (h (a0==3)) (h (a0==4)))) fun J=>AR J (QM a1 a2 fun D=>Q D) (AR (a0==2) (AR (!(a1==a2)) (MM true fun U=>Q U) (MM (!(a1==({ Hi:=0,Lo:=0 }:AN))) fun G=>Q G)) (AR (a0==5) (YB a1 a2 fun O=>Q O) (Q ({ Hi:=0,Lo:=0 }:AN))))
def YC (a0:AN) (Q:(Int×Bool)→Prop):Prop:=
  JW (AJ (a0.Lo)) fun h=>AR (!(h==a0)) (Q (0,false)) (Q (AJ (a0.Lo),true))
def IJ (a0:Int) (a1:AN) (Q:(Int×Bool)→Prop):Prop:=
  YC a1 fun h=>Q (h.1,h.2)
def CO (a0:Int) (a1:Int) (Q:Int→Prop):Prop:=
  HN a0 fun D=>HN a1 fun h=>AR D (AR h (Q 0) (Q (-1))) (AR h (Q 1) (AR (decide (a0<a1)) (Q (-1)) (AR (decide (a1<a0)) (Q 1) (Q 0))))
def ZH (a0:AD) (a1:AD) (Q:Int→Prop):Prop:=
  CO a0.Row a1.Row fun G=>CO a0.Col a1.Col fun D=>HO ([G,D]:List Int) fun h=>Q h
def TL (a0:Int) (a1:List AD) (Q:((List AD)×Int)→Prop):Prop:=
  BB (fun (s:(List ((Int×Int)×AN))×Int) (D:((List ((Int×Int)×AN))×Int)→Prop)=>match s with | (s293,s294)=>AR (decide (s294<(a1.length:Int))) (AY a1 s294 fun h=>JW h.Val fun U=>nC s293 (h.Row,h.Col) ({ Hi:=0,Lo:=0 }:AN) fun Z V=>AR V (QN a0 Z U fun r347=>D ((EO (h.Row,h.Col) r347 s293),AJ (s294+1))) (D ((EO (h.Row,h.Col) U s293),AJ (s294+1)))) (BB (fun (s:(List AD)×(List ((Int×Int)×AN))) (O:((List AD)×(List ((Int×Int)×AN)))→Prop)=>match s with | (s457,s461)=>AaD s461 (tZ ZH s457 fun W=>Q (W,0)) (fun G Y=>IJ a0 G.2 fun J=>AR (!J.2) (Q (([]:List AD),12)) (FX 24 s457 ([({ Row:=G.1.1,Col:=G.1.2,Val:=J.1 }:AD)]) fun _=>O ((s457++([({ Row:=G.1.1,Col:=G.1.2,Val:=J.1 }:AD)])),Y)))) (([]:List AD),s293))) (([]:List ((Int×Int)×AN)),0)
def WZ (o0:Int) (o1:Int) (a0:AD) (Q:Bool→Prop):Prop:=
  GM a0.Row (AJ (o0 - 1)) fun D=>AR (!D) (Q true) (GM a0.Col (AJ (o1 - 1)) fun h=>Q (!h))
def DD (o0:Int) (o1:Int) (a0:List AD) (Q:Int→Prop):Prop:=
  BB (fun (h:Int) (D:Int→Prop)=>AR (decide (h<(a0.length:Int))) (AY a0 h fun G=>WZ o0 o1 G fun J=>AR J (Q h) (D (AJ (h+1)))) (Q (-1))) 0
def CS (o0:Int) (o1:Int) (a0:List AD) (Q:Bool→Prop):Prop:=
  DD o0 o1 a0 fun h=>Q (decide (0≤h))
def TM (a0:Int) (a1:Int) (a2:Int) (a3:List AD) (Q:(Rows×Int)→Prop):Prop:=
  NQ a0 fun W=>AR (!W) (Q (({ Rows:=0,Cols:=0,Start:=([]:List Int),Col:=([]:List Int),Val:=([]:List Int) }:Rows),8)) (FM (fun (D:Bool→Prop)=>GM a1 4096 fun J=>AR (!J) (D true) (GM a2 4096 fun G=>D (!G))) fun O=>AR O (Q (({ Rows:=0,Cols:=0,Start:=([]:List Int),Col:=([]:List Int),Val:=([]:List Int) }:Rows),3)) (AR (decide (65536<(a3.length:Int))) (Q (({ Rows:=0,Cols:=0,Start:=([]:List Int),Col:=([]:List Int),Val:=([]:List Int) }:Rows),5)) (CS a1 a2 a3 fun V=>AR V (Q (({ Rows:=0,Cols:=0,Start:=([]:List Int),Col:=([]:List Int),Val:=([]:List Int) }:Rows),3)) (TL a0 a3 fun h=>AR (h.2 != 0) (Q (({ Rows:=0,Cols:=0,Start:=([]:List Int),Col:=([]:List Int),Val:=([]:List Int) }:Rows),h.2)) (PA a1 a2 h.1 fun U=>Q (U,0))))))
def ZI (a0:List Rows) (Q:(List Rows)→Prop):Prop:=
  BB (fun (s:(List Rows)×Int) (h:((List Rows)×Int)→Prop)=>match s with | (s174,s178)=>AR (decide (s178<(a0.length:Int))) (AY a0 s178 fun D=>HV D fun J=>AR (!J) (MH D (0,0) (0,0) fun G=>FX 88 s174 ([G]) fun _=>h ((s174++([G])),AJ (s178+1))) (FX 88 s174 ([D]) fun _=>h ((s174++([D])),AJ (s178+1)))) (Q s174)) (([]:List Rows),0)
def SO (a0:Rows) (a1:Int) (Q:((List Int)×(List Int))→Prop):Prop:=
  AY a0.Start a1 fun h=>AY a0.Start (AJ (a1+1)) fun D=>slP a0.Col h D fun _=>slP a0.Val h D fun _=>Q (((a0.Col.take D.toNat).drop h.toNat),((a0.Val.take D.toNat).drop h.toNat))
def HE (a0:Int) (Q:(Int×Int)→Prop):Prop:=
  Q (shr .u64 (shl .u64 a0 32) 32,shr .u64 a0 32)
def RU (a0:Int) (a1:Int) (Q:AN→Prop):Prop:=
  HE a0 fun h=>HE a1 fun D=>HE (IntKind.wrap .u64 (h.1*D.1)) fun O=>HE (IntKind.wrap .u64 ((IntKind.wrap .u64 (h.2*D.1))+O.2)) fun G=>HE (IntKind.wrap .u64 ((IntKind.wrap .u64 (h.1*D.2))+G.1)) fun J=>HE (IntKind.wrap .u64 (h.1*D.1)) fun U=>Q ({ Hi:=AJ (IntKind.wrap .u64 ((IntKind.wrap .u64 ((IntKind.wrap .u64 (h.2*D.2))+G.2))+J.2)),Lo:=bor .u64 (shl .u64 J.1 32) U.1 }:AN)
def WD (a0:Int) (Q:Int→Prop):Prop:=
  AR (decide (a0<0)) (Q (IntKind.wrap .u64 (0 - (IntKind.wrap .u64 (a0))))) (Q (IntKind.wrap .u64 (a0)))
def cW (a0:AN) (a1:AN) (Q:AN→Prop):Prop:=
  TK (decide (a0.Lo<a1.Lo)) fun h=>Q ({ Hi:=AJ (IntKind.wrap .u64 ((IntKind.wrap .u64 ((IntKind.wrap .u64 (a0.Hi)) - (IntKind.wrap .u64 (a1.Hi)))) - h)),Lo:=IntKind.wrap .u64 (a0.Lo - a1.Lo) }:AN)
def cX (a0:Int) (a1:Int) (Q:AN→Prop):Prop:=
  WD a0 fun G=>WD a1 fun D=>RU G D fun h=>AR (!((decide (a0<0))==(decide (a1<0)))) (cW ({ Hi:=0,Lo:=0 }:AN) h fun J=>Q J) (Q h)
def cY (a0:Int) (a1:Int) (a2:Int) (Q:AN→Prop):Prop:=
  AR (a0==2) (AR (a1 != 0) (MM (a2 != 0) fun r22=>Q r22) (MM false fun Y=>Q Y)) (AR (a0==5) (cX a1 a2 fun W=>Q W) (FM (fun (h:Unit→Prop)=>NQ a0 fun r56=>AR r56 (AR (decide (4611686018427387904≤(if a2 > a1 then a2 else a1))) (JW 4611686018427387904 fun r62=>Q r62) (h ())) (h ())) fun _=>FM (fun (G:(Int×Int)→Prop)=>AR (a0==1) (JW a1 fun V=>G (V.Hi,V.Lo)) (AR (a0==4) (G (0,0)) (AR (a0==3) (JW a1 fun Z=>Q Z) (Q ({ Hi:=0,Lo:=0 }:AN))))) fun (s88,s89)=>JW 4611686018427387904 fun U=>JW a2 fun D=>YB ({ Hi:=s88,Lo:=s89 }:AN) D fun J=>QM U J fun O=>Q O))
def RV (o0:List (Int×Bool)) (a0:Int) (a1:Rows) (a2:Rows) (a3:Int) (Q:(List (Int×AN))→Prop):Prop:=
  SO a1 a3 fun U=>BB (fun (s:(List (Int×AN))×Int) (J:((List (Int×AN))×Int)→Prop)=>match s with | (s757,s758)=>AR (decide (s758<(U.1.length:Int))) (AY U.1 s758 fun x775=>SO a2 x775 fun G=>BB (fun (s:(List (Int×AN))×Int) (h:((List (Int×AN))×Int)→Prop)=>match s with | (s1009,s1010)=>AR (decide (s1010<(G.1.length:Int))) (AY G.1 s1010 fun D=>lkP o0 D false fun W=>AR (!W) (h (s1009,AJ (s1010+1))) (AY U.2 s758 fun Y=>AY G.2 s1010 fun Z=>cY a0 Y Z fun O=>nC s1009 D ({ Hi:=0,Lo:=0 }:AN) fun r1098 t1103=>AR t1103 (QN a0 r1098 O fun V=>h ((EO D V s1009),AJ (s1010+1))) (h ((EO D O s1009),AJ (s1010+1))))) (J (s1009,AJ (s758+1)))) (s757,0)) (Q s757)) (([]:List (Int×AN)),0)
def TN (a0:Int) (a1:Rows) (a2:Rows) (a3:Rows) (Q:((List AM)×Int)→Prop):Prop:=
  ZI ([a1,a2,a3]:List Rows) fun Z=>AY Z 0 fun U=>AY Z 1 fun O=>AY Z 2 fun G=>NQ a0 fun r199=>AR (!r199) (Q (([]:List AM),8)) (AR (U.Cols != O.Rows) (Q (([]:List AM),4)) (AR (G.Rows != U.Rows) (Q (([]:List AM),4)) (AR (G.Cols != O.Cols) (Q (([]:List AM),4)) (BB (fun (s:(List AM)×Int) (W:((List AM)×Int)→Prop)=>match s with | (s834,s838)=>AR (decide (s838<G.Rows)) (SO G s838 fun J=>BB (fun (s:(List (Int×Bool))×Int) (Y:((List (Int×Bool))×Int)→Prop)=>match s with | (s954,s955)=>AR (decide (s955<(J.1.length:Int))) (AY J.1 s955 fun x964=>Y ((EO x964 true s954),AJ (s955+1))) (RV s954 a0 U O s838 fun r990=>BB (fun (s:(List AM)×Int) (h:((List AM)×Int)→Prop)=>match s with | (s1097,s1101)=>AR (decide (s1101<(J.1.length:Int))) (AY J.1 s1101 fun D=>nC r990 D ({ Hi:=0,Lo:=0 }:AN) fun V t1141=>AR t1141 (FX 32 s1097 ([({ Row:=s838,Col:=D,Val:=V }:AM)]) fun _=>h ((s1097++([({ Row:=s838,Col:=D,Val:=V }:AM)])),AJ (s1101+1))) (h (s1097,AJ (s1101+1)))) (W (s1097,AJ (s838+1)))) (s834,0))) (([]:List (Int×Bool)),0)) (Q (s834,0))) (([]:List AM),0)))))
def TO (a0:AM) (a1:AM) (Q:Int→Prop):Prop:=
  CO a0.Row a1.Row fun G=>CO a0.Col a1.Col fun D=>HO ([G,D]:List Int) fun h=>Q h
def KN (a0:List AM) (Q:Bool→Prop):Prop:=
  BB (fun (D:Int) (h:Int→Prop)=>AR (decide (D<(a0.length:Int))) (AR (decide (0<D)) (AY a0 (AJ (D - 1)) fun G=>AY a0 D fun O=>TO G O fun J=>AR (decide (0≤J)) (Q false) (h (AJ (D+1)))) (h (AJ (D+1)))) (Q true)) 0
def FQ (a1:Int) (Q:(List AM)→Prop):Prop:=
  AR (decide (a1<0)) (False) (AR (decide (0<(AJ (a1 - (AJ (0 - 0)))))) (grP 32 (AJ (a1 - (AJ (0 - 0)))) <| Q ([]:List AM)) (Q ([]:List AM)))
def DM (a0:List (List AM)) (Q:(List AM)→Prop):Prop:=
  BB (fun (s:Int×Int) (h:(Int×Int)→Prop)=>match s with | (s159,s160)=>AR (decide (s160<(a0.length:Int))) (AY a0 s160 fun G=>AR (decide ((AJ (s159+(G.length:Int)))<0)) (False) (h (AJ (s159+(G.length:Int)),AJ (s160+1)))) (FQ s159 fun O=>BB (fun (s:(List AM)×Int) (D:((List AM)×Int)→Prop)=>match s with | (s266,s270)=>AR (decide (s270<(a0.length:Int))) (AY a0 s270 fun J=>FX 32 s266 J fun _=>D ((s266++J),AJ (s270+1))) (Q s266)) (O,0))) (0,0)
def PB (a0:List AM) (Q:Bool→Prop):Prop:=
  KN a0 fun h=>Q (!h)
def DR (a0:List (List AM)) (Q:Int→Prop):Prop:=
  BB (fun (h:Int) (D:Int→Prop)=>AR (decide (h<(a0.length:Int))) (AY a0 h fun J=>PB J fun G=>AR G (Q h) (D (AJ (h+1)))) (Q (-1))) 0
def DG (a0:List (List AM)) (Q:Bool→Prop):Prop:=
  DR a0 fun h=>Q (decide (0≤h))
def FA (a0:AM) (a1:AM) (Q:Int→Prop):Prop:=
  CO a0.Row a1.Row fun G=>CO a0.Col a1.Col fun D=>HO ([G,D]:List Int) fun h=>Q h
def BZ (o0:List AM) (a0:Int) (a1:Int) (Q:(List AM)→Prop):Prop:=
  BB (fun (s:(List AM)×Int) (h:((List AM)×Int)→Prop)=>match s with | (s330,s331)=>AR (decide (s331<a1)) (BB (fun (s:(List AM)×Int) (D:((List AM)×Int)→Prop)=>match s with | (s444,s445)=>AR (decide (a0<s445)) (AY s444 s445 fun O=>AY s444 (AJ (s445 - 1)) fun U=>FA O U fun V=>AR (decide (V<0)) (AY s444 (AJ (s445 - 1)) fun G=>AY s444 s445 fun J=>AY s444 s445 fun Y=>AY (s444.set s445.toNat G) (AJ (s445 - 1)) fun W=>D (((s444.set s445.toNat G).set ((AJ (s445 - 1)).toNat) J),AJ (s445 - 1))) (h (s444,AJ (s331+1)))) (h (s444,AJ (s331+1)))) (s330,s331)) (Q s330)) (o0,AJ (a0+1))
def BW (o0:List AM) (a0:Int) (a1:Int) (a2:Int) (Q:(List AM)→Prop):Prop:=
  BB (fun (s:(List AM)×Int) (h:((List AM)×Int)→Prop)=>match s with | (s44,s45)=>AR (decide (s45<a2)) (AY s44 (AJ (a1+s45)) fun D=>AY s44 (AJ (a0+s45)) fun G=>AY s44 (AJ (a0+s45)) fun O=>AY (s44.set ((AJ (a0+s45)).toNat) D) (AJ (a1+s45)) fun J=>h (((s44.set ((AJ (a0+s45)).toNat) D).set ((AJ (a1+s45)).toNat) G),AJ (s45+1))) (Q s44)) (o0,0)
def DJ (o0:List AM) (a0:Int) (a1:Int) (a2:Int) (Q:(List AM)→Prop):Prop:=
  BB (fun (s:(List AM)×Int×Int) (h:((List AM)×Int×Int)→Prop)=>match s with | (s63,s64,s65)=>AR (s64 != s65) (AR (decide (s65<s64)) (BW s63 (AJ (a1 - s64)) a1 s65 fun G=>h (G,AJ (s64 - s65),s65)) (BW s63 (AJ (a1 - s64)) (AJ ((AJ (a1+s65)) - s64)) s64 fun J=>h (J,s64,AJ (s65 - s64)))) (BW s63 (AJ (a1 - s64)) a1 s64 fun D=>Q D)) (o0,AJ (a1 - a0),AJ (a2 - a1))
def BG (rc:(List AM)→Int→Int→Int→((List AM)→Prop)→Prop) (o0:List AM) (a0:Int) (a1:Int) (a2:Int) (Q:(List AM)→Prop):Prop:=
  AR ((AJ (a1 - a0))==1) (BB (fun (s:Int×Int) (h:(Int×Int)→Prop)=>match s with | (s321,s322)=>AR (decide (s321<s322)) (AY o0 (AJ (shr .u64 (IntKind.wrap .u64 (AJ (s321+s322))) 1)) fun x330=>AY o0 a0 fun x335=>FA x330 x335 fun r343=>AR (decide (r343<0)) (h (AJ ((AJ (shr .u64 (IntKind.wrap .u64 (AJ (s321+s322))) 1))+1),s322)) (h (s321,AJ (shr .u64 (IntKind.wrap .u64 (AJ (s321+s322))) 1)))) (BB (fun (s:(List AM)×Int) (W:((List AM)×Int)→Prop)=>match s with | (s386,s387)=>AR (decide (s387<(AJ (s321 - 1)))) (AY s386 (AJ (s387+1)) fun x397=>AY s386 s387 fun x402=>AY s386 s387 fun x405=>AY (s386.set s387.toNat x397) (AJ (s387+1)) fun x408=>W (((s386.set s387.toNat x397).set ((AJ (s387+1)).toNat) x402),AJ (s387+1))) (Q s386)) (o0,a0))) (a1,a2)) (AR ((AJ (a2 - a1))==1) (BB (fun (s:Int×Int) (G:(Int×Int)→Prop)=>match s with | (s727,s728)=>AR (decide (s727<s728)) (AY o0 a1 fun x736=>AY o0 (AJ (shr .u64 (IntKind.wrap .u64 (AJ (s727+s728))) 1)) fun x741=>FA x736 x741 fun r749=>AR (!(decide (r749<0))) (G (AJ ((AJ (shr .u64 (IntKind.wrap .u64 (AJ (s727+s728))) 1))+1),s728)) (G (s727,AJ (shr .u64 (IntKind.wrap .u64 (AJ (s727+s728))) 1)))) (BB (fun (s:(List AM)×Int) (Y:((List AM)×Int)→Prop)=>match s with | (s792,s793)=>AR (decide (s727<s793)) (AY s792 (AJ (s793 - 1)) fun x803=>AY s792 s793 fun x808=>AY s792 s793 fun x811=>AY (s792.set s793.toNat x803) (AJ (s793 - 1)) fun x814=>Y (((s792.set s793.toNat x803).set ((AJ (s793 - 1)).toNat) x808),AJ (s793 - 1))) (Q s792)) (o0,a1))) (a0,a1)) (FM (fun (Z:(Int×Int)→Prop)=>AR (decide ((AJ (shr .u64 (IntKind.wrap .u64 (AJ (a0+a2))) 1))<a1)) (Z (AJ ((AJ ((AJ (shr .u64 (IntKind.wrap .u64 (AJ (a0+a2))) 1))+a1)) - a2),AJ (shr .u64 (IntKind.wrap .u64 (AJ (a0+a2))) 1))) (Z (a0,a1))) fun (s818,s819)=>BB (fun (s:Int×Int) (D:(Int×Int)→Prop)=>match s with | (s943,s944)=>AR (decide (s943<s944)) (AY o0 (AJ ((AJ ((AJ ((AJ (shr .u64 (IntKind.wrap .u64 (AJ (a0+a2))) 1))+a1)) - 1)) - (AJ (shr .u64 (IntKind.wrap .u64 (AJ (s943+s944))) 1)))) fun x953=>AY o0 (AJ (shr .u64 (IntKind.wrap .u64 (AJ (s943+s944))) 1)) fun x958=>FA x953 x958 fun r966=>AR (!(decide (r966<0))) (D (AJ ((AJ (shr .u64 (IntKind.wrap .u64 (AJ (s943+s944))) 1))+1),s944)) (D (s943,AJ (shr .u64 (IntKind.wrap .u64 (AJ (s943+s944))) 1)))) (FM (fun (O:(List AM)→Prop)=>AR (decide (s943<a1)) (AR (decide (a1<(AJ ((AJ ((AJ (shr .u64 (IntKind.wrap .u64 (AJ (a0+a2))) 1))+a1)) - s943)))) (DJ o0 s943 a1 (AJ ((AJ ((AJ (shr .u64 (IntKind.wrap .u64 (AJ (a0+a2))) 1))+a1)) - s943)) fun r1010=>O r1010) (O o0)) (O o0)) fun V=>FM (fun (J:(List AM)→Prop)=>AR (decide (a0<s943)) (AR (decide (s943<(AJ (shr .u64 (IntKind.wrap .u64 (AJ (a0+a2))) 1)))) (rc V a0 s943 (AJ (shr .u64 (IntKind.wrap .u64 (AJ (a0+a2))) 1)) fun r1064=>J r1064) (J V)) (J V)) fun U=>AR (decide ((AJ (shr .u64 (IntKind.wrap .u64 (AJ (a0+a2))) 1))<(AJ ((AJ ((AJ (shr .u64 (IntKind.wrap .u64 (AJ (a0+a2))) 1))+a1)) - s943)))) (AR (decide ((AJ ((AJ ((AJ (shr .u64 (IntKind.wrap .u64 (AJ (a0+a2))) 1))+a1)) - s943))<a2)) (rc U (AJ (shr .u64 (IntKind.wrap .u64 (AJ (a0+a2))) 1)) (AJ ((AJ ((AJ (shr .u64 (IntKind.wrap .u64 (AJ (a0+a2))) 1))+a1)) - s943)) a2 fun r1086=>Q r1086) (Q U)) (Q U))) (s818,s819)))
def CQ:Nat→(List AM)→Int→Int→Int→((List AM)→Prop)→Prop
  | 0=>fun _ _ _ _ _=>False
  | k+1=>BG (CQ k)
def CW (o0:List AM) (a0:Int) (a1:Int) (a2:Int) (Q:(List AM)→Prop):Prop:=∃ k,CQ k o0 a0 a1 a2 Q
def ET (o0:List AM) (a0:Int) (Q:(List AM)→Prop):Prop:=
  BB (fun (s:(List AM)×Int×Int) (G:((List AM)×Int×Int)→Prop)=>match s with | (s95,s96,s97)=>AR (decide (s97≤a0)) (BZ s95 s96 s97 fun J=>G (J,s97,AJ (s97+20))) (BZ s95 s96 a0 fun U=>BB (fun (s:(List AM)×Int) (h:((List AM)×Int)→Prop)=>match s with | (s418,s419)=>AR (decide (s419<a0)) (BB (fun (s:(List AM)×Int×Int) (D:((List AM)×Int×Int)→Prop)=>match s with | (s530,s531,s532)=>AR (decide (s532≤a0)) (CW s530 s531 (AJ (s531+s419)) s532 fun V=>D (V,s532,AJ (s532+(AJ (2*s419))))) (AR (decide ((AJ (s531+s419))<a0)) (CW s530 s531 (AJ (s531+s419)) a0 fun O=>h (O,AJ (s419*2))) (h (s530,AJ (s419*2))))) (s418,0,AJ (2*s419))) (Q s418)) (U,20))) (o0,0,20)
def CD (o0:List AM) (Q:(List AM)→Prop):Prop:=
  ET o0 (o0.length:Int) fun h=>Q h
def PC (a0:Int) (a1:List (List AM)) (Q:((List AM)×Int)→Prop):Prop:=
  NQ a0 fun r12=>AR (!r12) (Q (([]:List AM),8)) (DG a1 fun r31=>AR r31 (Q (([]:List AM),6)) (DM a1 fun r45=>CD r45 fun Y=>BB (fun (s:(List AM)×Int) (h:((List AM)×Int)→Prop)=>match s with | (s193,s197)=>AR (decide (s197<(Y.length:Int))) (AY Y s197 fun D=>FM (fun (G:Bool→Prop)=>AR (decide (0<(s193.length:Int))) (AY s193 (AJ ((s193.length:Int) - 1)) fun V=>TO V D fun U=>G (U==0)) (G false)) fun W=>AR W (AY s193 (AJ ((s193.length:Int) - 1)) fun O=>QN a0 O.Val D.Val fun Z=>AY s193 (AJ ((s193.length:Int) - 1)) fun J=>h ((s193.set ((AJ ((s193.length:Int) - 1)).toNat) ({ Row:=J.Row,Col:=J.Col,Val:=Z }:AM)),AJ (s197+1))) (FX 32 s193 ([D]) fun _=>h ((s193++([D])),AJ (s197+1)))) (Q (s193,0))) (([]:List AM),0)))
def IW (a0:List Int) (Q:Int→Prop):Prop:=
  AR (decide ((a0.length:Int)<1)) (False) (AY a0 0 fun G=>BB (fun (s:Int×Int) (h:(Int×Int)→Prop)=>match s with | (s52,s53)=>AR (decide (s53<(a0.length:Int))) (AY a0 s53 fun D=>h ((if D<s52 then D else s52),AJ (s53+1))) (Q s52)) (G,1))
def GR (a0:AM) (a1:AM) (Q:Int→Prop):Prop:=
  CO a0.Row a1.Row fun G=>CO a0.Col a1.Col fun D=>HO ([G,D]:List Int) fun h=>Q h
def SP (a0:Int) (Q:Int→Prop):Prop:=
  AR (a0==1) (Q 4611686018427387904) (AR (a0==3) (Q 4611686018427387904) (AR (a0==4) (Q 4611686018427387904) (Q 0)))
def KO (a0:Int) (a1:Int) (Q:Bool→Prop):Prop:=
  AR (decide (0≤a0)) (Q (decide (a0≤a1))) (Q false)
def QY (o0:Int) (o1:Int) (a0:AM) (Q:Bool→Prop):Prop:=
  KO a0.Row (AJ (o0 - 1)) fun D=>AR (!D) (Q true) (KO a0.Col (AJ (o1 - 1)) fun h=>Q (!h))
def DS (o0:Int) (o1:Int) (a0:List AM) (Q:Int→Prop):Prop:=
  BB (fun (h:Int) (D:Int→Prop)=>AR (decide (h<(a0.length:Int))) (AY a0 h fun G=>QY o0 o1 G fun J=>AR J (Q h) (D (AJ (h+1)))) (Q (-1))) 0
def DH (o0:Int) (o1:Int) (a0:List AM) (Q:Bool→Prop):Prop:=
  DS o0 o1 a0 fun h=>Q (decide (0≤h))
def ZJ (a0:Int) (a1:Int) (a2:Int) (a3:List AM) (Q:(Rows×Int)→Prop):Prop:=
  NQ a0 fun r97=>AR (!r97) (Q (({ Rows:=0,Cols:=0,Start:=([]:List Int),Col:=([]:List Int),Val:=([]:List Int) }:Rows),8)) (FM (fun (O:Bool→Prop)=>KO a1 4096 fun r122=>AR (!r122) (O true) (KO a2 4096 fun U=>O (!U))) fun Z=>AR Z (Q (({ Rows:=0,Cols:=0,Start:=([]:List Int),Col:=([]:List Int),Val:=([]:List Int) }:Rows),3)) (DH a1 a2 a3 fun Y=>AR Y (Q (({ Rows:=0,Cols:=0,Start:=([]:List Int),Col:=([]:List Int),Val:=([]:List Int) }:Rows),3)) (KN a3 fun W=>AR (!W) (Q (({ Rows:=0,Cols:=0,Start:=([]:List Int),Col:=([]:List Int),Val:=([]:List Int) }:Rows),6)) (AR (decide (65536<(a3.length:Int))) (Q (({ Rows:=0,Cols:=0,Start:=([]:List Int),Col:=([]:List Int),Val:=([]:List Int) }:Rows),5)) (BB (fun (s:(List AD)×Int) (h:((List AD)×Int)→Prop)=>match s with | (s448,s452)=>AR (decide (s452<(a3.length:Int))) (AY a3 s452 fun D=>IJ a0 D.Val fun G=>AR (!G.2) (Q (({ Rows:=0,Cols:=0,Start:=([]:List Int),Col:=([]:List Int),Val:=([]:List Int) }:Rows),12)) (SP a0 fun V=>AR (G.1 != V) (FX 24 s448 ([({ Row:=D.Row,Col:=D.Col,Val:=G.1 }:AD)]) fun _=>h ((s448++([({ Row:=D.Row,Col:=D.Col,Val:=G.1 }:AD)])),AJ (s452+1))) (h (s448,AJ (s452+1))))) (TM a0 a1 a2 s448 fun J=>Q (J.1,J.2))) (([]:List AD),0))))))
def FB (a0:List Int) (a1:List Int) (Q:Bool→Prop):Prop:=
  AR ((a0.length:Int) != (a1.length:Int)) (Q false) (BB (fun (h:Int) (D:Int→Prop)=>AR (decide (h<(a0.length:Int))) (AY a0 h fun J=>AY a1 h fun G=>AR (J != G) (Q false) (D (AJ (h+1)))) (Q true)) 0)
def NS (a0:List Int) (a1:List Int) (Q:Bool→Prop):Prop:=
  AR ((a0.length:Int) != (a1.length:Int)) (Q false) (BB (fun (h:Int) (D:Int→Prop)=>AR (decide (h<(a0.length:Int))) (AY a0 h fun J=>AY a1 h fun G=>AR (J != G) (Q false) (D (AJ (h+1)))) (Q true)) 0)
def IX (a0:Rows) (a1:Rows) (Q:Bool→Prop):Prop:=
  AR (a0.Rows==a1.Rows) (AR (a0.Cols==a1.Cols) (FB a0.Start a1.Start fun D=>AR D (FB a0.Col a1.Col fun h=>AR h (NS a0.Val a1.Val fun G=>Q G) (Q false)) (Q false)) (Q false)) (Q false)
def QO (a0:BI) (Q:Int→Prop):Prop:=
  QL a0 fun h=>AR (h != 0) (Q 0) (Q (AJ ((AJ ((AJ (a0.R+a0.C))*(AJ (a0.R+a0.C))))+2)))
def JX (o0:AK) (a0:Int) (Q:Bool→Prop):Prop:=
  AR (decide (a0<0)) (Q true) (Q (decide (o0.N≤a0)))
def NT (o1:AK) (a0:AL) (Q:Bool→Prop):Prop:=
  JX o1 a0.From fun D=>AR D (Q true) (JX o1 a0.To fun h=>Q h)
def DT (o1:AK) (a0:List AL) (Q:Int→Prop):Prop:=
  BB (fun (D:Int) (h:Int→Prop)=>AR (decide (D<(a0.length:Int))) (AY a0 D fun J=>NT o1 J fun G=>AR G (Q D) (h (AJ (D+1)))) (Q (-1))) 0
def DI (o1:AK) (a0:List AL) (Q:Bool→Prop):Prop:=
  DT o1 a0 fun h=>Q (decide (0≤h))
def NU (a0:AL) (Q:Bool→Prop):Prop:=
  AR (decide (a0.W<0)) (Q true) (Q (decide (2147483647<a0.W)))
def DU (a0:List AL) (Q:Int→Prop):Prop:=
  BB (fun (D:Int) (h:Int→Prop)=>AR (decide (D<(a0.length:Int))) (AY a0 D fun J=>NU J fun G=>AR G (Q D) (h (AJ (D+1)))) (Q (-1))) 0
def CH (a0:List AL) (Q:Bool→Prop):Prop:=
  DU a0 fun h=>Q (decide (0≤h))
def HF (a0:AK) (Q:Int→Prop):Prop:=
  AR (decide (a0.N<0)) (Q 3) (FM (fun (h:Bool→Prop)=>AR (decide (4096<a0.N)) (h (decide (4096<a0.N))) (h (decide (65536<(a0.Edges.length:Int))))) fun D=>AR D (Q 5) (DI a0 a0.Edges fun G=>AR G (Q 3) (CH a0.Edges fun J=>AR J (Q 7) (Q 0))))
def YD (a0:Int) (Q:Bool→Prop):Prop:=
  AR (decide (1≤a0)) (Q (decide (a0≤8))) (Q false)
def bK (a0:AL) (a1:AL) (Q:Int→Prop):Prop:=
  CO a0.From a1.From fun G=>CO a0.To a1.To fun D=>HO ([G,D]:List Int) fun h=>Q h
def VC (a0:AL) (a1:AL) (Q:Int→Prop):Prop:=
  bK a0 a1 fun G=>HD a0.W a1.W fun D=>HO ([G,D]:List Int) fun h=>Q h
def PX (a0:Int) (a1:List AL) (Q:((List AL)×Int)→Prop):Prop:=
  NQ a0 fun r12=>AR (!r12) (Q (([]:List AL),8)) (BB (fun (s:(List ((Int×Int)×AN))×Int) (G:((List ((Int×Int)×AN))×Int)→Prop)=>match s with | (s303,s304)=>AR (decide (s304<(a1.length:Int))) (AY a1 s304 fun h=>JW h.W fun U=>nC s303 (h.From,h.To) ({ Hi:=0,Lo:=0 }:AN) fun r348 Z=>AR Z (QN a0 r348 U fun r357=>G ((EO (h.From,h.To) r357 s303),AJ (s304+1))) (G ((EO (h.From,h.To) U s303),AJ (s304+1)))) (BB (fun (s:(List AL)×(List ((Int×Int)×AN))) (O:((List AL)×(List ((Int×Int)×AN)))→Prop)=>match s with | (s467,s471)=>AaD s471 (tZ VC s467 fun V=>Q (V,0)) (fun D Y=>IJ a0 D.2 fun J=>AR (!J.2) (Q (([]:List AL),12)) (FX 24 s467 ([({ From:=D.1.1,To:=D.1.2,W:=J.1 }:AL)]) fun _=>O ((s467++([({ From:=D.1.1,To:=D.1.2,W:=J.1 }:AL)])),Y)))) (([]:List AL),s303))) (([]:List ((Int×Int)×AN)),0))
def IK (a0:AK) (Q:AK→Prop):Prop:=
  PX 1 a0.Edges fun h=>Q ({ N:=a0.N,Edges:=h.1 }:AK)
def NV (a0:AL) (Q:(AL×Bool)→Prop):Prop:=
  Q (({ From:=a0.From,To:=a0.To,W:=1 }:AL),true)
def TP (a0:AK) (Q:AK→Prop):Prop:=
  BB (fun (s:(List AL)×Int) (h:((List AL)×Int)→Prop)=>match s with | (s108,s112)=>AR (decide (s112<(a0.Edges.length:Int))) (AY a0.Edges s112 fun J=>NV J fun D=>AR D.2 (FX 24 s108 ([D.1]) fun _=>h ((s108++([D.1])),AJ (s112+1))) (h (s108,AJ (s112+1)))) (IK ({ N:=a0.N,Edges:=s108 }:AK) fun G=>Q G)) (([]:List AL),0)
def VD (a0:AK) (Q:AK→Prop):Prop:=
  TP a0 fun h=>Q h
def NW (a0:AL) (Q:(AL×Bool)→Prop):Prop:=
  Q (a0,decide (a0.To<a0.From))
def TQ (a0:AK) (Q:AK→Prop):Prop:=
  BB (fun (s:(List AL)×Int) (h:((List AL)×Int)→Prop)=>match s with | (s108,s112)=>AR (decide (s112<(a0.Edges.length:Int))) (AY a0.Edges s112 fun J=>NW J fun D=>AR D.2 (FX 24 s108 ([D.1]) fun _=>h ((s108++([D.1])),AJ (s112+1))) (h (s108,AJ (s112+1)))) (IK ({ N:=a0.N,Edges:=s108 }:AK) fun G=>Q G)) (([]:List AL),0)
def VE (a0:AK) (Q:AK→Prop):Prop:=
  TQ a0 fun h=>Q h
def KW (a0:AL) (Q:(AL×Bool)→Prop):Prop:=
  Q (({ From:=a0.To,To:=a0.From,W:=a0.W }:AL),true)
def NX (a0:AK) (Q:AK→Prop):Prop:=
  BB (fun (s:(List AL)×Int) (h:((List AL)×Int)→Prop)=>match s with | (s108,s112)=>AR (decide (s112<(a0.Edges.length:Int))) (AY a0.Edges s112 fun J=>KW J fun D=>AR D.2 (FX 24 s108 ([D.1]) fun _=>h ((s108++([D.1])),AJ (s112+1))) (h (s108,AJ (s112+1)))) (IK ({ N:=a0.N,Edges:=s108 }:AK) fun G=>Q G)) (([]:List AL),0)
def PD (a0:AK) (Q:AK→Prop):Prop:=
  NX a0 fun h=>Q h
def FR (a1:Int) (Q:(List AL)→Prop):Prop:=
  AR (decide (a1<0)) (False) (AR (decide (0<(AJ (a1 - (AJ (0 - 0)))))) (grP 24 (AJ (a1 - (AJ (0 - 0)))) <| Q ([]:List AL)) (Q ([]:List AL)))
def DN (a0:List (List AL)) (Q:(List AL)→Prop):Prop:=
  BB (fun (s:Int×Int) (h:(Int×Int)→Prop)=>match s with | (s159,s160)=>AR (decide (s160<(a0.length:Int))) (AY a0 s160 fun G=>AR (decide ((AJ (s159+(G.length:Int)))<0)) (False) (h (AJ (s159+(G.length:Int)),AJ (s160+1)))) (FR s159 fun O=>BB (fun (s:(List AL)×Int) (D:((List AL)×Int)→Prop)=>match s with | (s266,s270)=>AR (decide (s270<(a0.length:Int))) (AY a0 s270 fun J=>FX 24 s266 J fun _=>D ((s266++J),AJ (s270+1))) (Q s266)) (O,0))) (0,0)
def X0 (a0:AK) (Q:AK→Prop):Prop:=
  PD a0 fun G=>DN ([a0.Edges,G.Edges]:List (List AL)) fun D=>IK ({ N:=a0.N,Edges:=D }:AK) fun h=>Q h
def WE (a0:AK) (Q:AK→Prop):Prop:=
  X0 a0 fun G=>VE G fun h=>VD h fun D=>Q D
def SQ (a0:AK) (Q:(Rows×Int)→Prop):Prop:=
  HF a0 fun J=>AR (J != 0) (Q (({ Rows:=0,Cols:=0,Start:=([]:List Int),Col:=([]:List Int),Val:=([]:List Int) }:Rows),J)) (PD a0 fun G=>BB (fun (s:(List AD)×Int) (D:((List AD)×Int)→Prop)=>match s with | (s135,s139)=>AR (decide (s139<(G.Edges.length:Int))) (AY G.Edges s139 fun h=>FX 24 s135 ([({ Row:=h.From,Col:=h.To,Val:=h.W }:AD)]) fun _=>D ((s135++([({ Row:=h.From,Col:=h.To,Val:=h.W }:AD)])),AJ (s139+1))) (PA a0.N a0.N s135 fun O=>Q (O,0))) (([]:List AD),0))
def HG (a0:AK) (a1:Int) (a2:Int) (Q:(BI×Int)→Prop):Prop:=
  HF a0 fun J=>AR (J != 0) (Q (({ Ring:=0,A:=({ Rows:=0,Cols:=0,Start:=([]:List Int),Col:=([]:List Int),Val:=([]:List Int) }:Rows),B:=({ Rows:=0,Cols:=0,Start:=([]:List Int),Col:=([]:List Int),Val:=([]:List Int) }:Rows),Mask:=({ Rows:=0,Cols:=0,Start:=([]:List Int),Col:=([]:List Int),Val:=([]:List Int) }:Rows),R:=0,C:=0,Room:=0 }:BI),J)) (YD a1 fun U=>AR (!U) (Q (({ Ring:=0,A:=({ Rows:=0,Cols:=0,Start:=([]:List Int),Col:=([]:List Int),Val:=([]:List Int) }:Rows),B:=({ Rows:=0,Cols:=0,Start:=([]:List Int),Col:=([]:List Int),Val:=([]:List Int) }:Rows),Mask:=({ Rows:=0,Cols:=0,Start:=([]:List Int),Col:=([]:List Int),Val:=([]:List Int) }:Rows),R:=0,C:=0,Room:=0 }:BI),3)) (YD a2 fun V=>AR (!V) (Q (({ Ring:=0,A:=({ Rows:=0,Cols:=0,Start:=([]:List Int),Col:=([]:List Int),Val:=([]:List Int) }:Rows),B:=({ Rows:=0,Cols:=0,Start:=([]:List Int),Col:=([]:List Int),Val:=([]:List Int) }:Rows),Mask:=({ Rows:=0,Cols:=0,Start:=([]:List Int),Col:=([]:List Int),Val:=([]:List Int) }:Rows),R:=0,C:=0,Room:=0 }:BI),3)) (WE a0 fun h=>SQ h fun O=>SQ h fun D=>SQ h fun G=>Q (({ Ring:=5,A:=O.1,B:=D.1,Mask:=G.1,R:=a1,C:=a2,Room:=4 }:BI),0))))
def TR (a0:Int) (a1:Rows) (Q:(Int×Int)→Prop):Prop:=
  NQ a0 fun W=>AR (!W) (Q (0,8)) (KM a1 fun h=>AR ((h.length:Int)==0) (SP a0 fun Z=>Q (Z,0)) (AY h 0 fun Y=>JW Y.Val fun U=>slP h 1 (h.length:Int) fun _=>BB (fun (s:Int×Int×Int) (D:(Int×Int×Int)→Prop)=>match s with | (s254,s255,s256)=>AR (decide (s256<(((h.take (h.length:Int).toNat).drop (Int.toNat 1)).length:Int))) (AY ((h.take (h.length:Int).toNat).drop (Int.toNat 1)) s256 fun V=>JW V.Val fun O=>QN a0 ({ Hi:=s254,Lo:=s255 }:AN) O fun G=>D (G.Hi,G.Lo,AJ (s256+1))) (IJ a0 ({ Hi:=s254,Lo:=s255 }:AN) fun J=>AR (!J.2) (Q (0,12)) (Q (J.1,0)))) (U.Hi,U.Lo,0)))
def TS (a0:List (Int×Int×Int)) (a1:List (Int×Int×Int)) (Q:Bool→Prop):Prop:=
  AR ((a0.length:Int) != (a1.length:Int)) (Q false) (BB (fun (h:Int) (D:Int→Prop)=>AR (decide (h<(a0.length:Int))) (AY a0 h fun J=>AY a1 h fun G=>AR (!(J==G)) (Q false) (D (AJ (h+1)))) (Q true)) 0)
def VF (a0:AK) (Q:AK→Prop):Prop:=
  Q a0
def PE (a0:AK) (a1:Int) (a2:Int) (Q:Bool→Prop):Prop:=
  BB (fun (D:Int) (h:Int→Prop)=>AR (decide (D<(a0.Edges.length:Int))) (AY a0.Edges D fun G=>AR (a1 != a2) (AR (G.From==a1) (AR (G.To==a2) (Q true) (AR (G.From==a2) (AR (G.To==a1) (Q true) (h (AJ (D+1)))) (h (AJ (D+1))))) (AR (G.From==a2) (AR (G.To==a1) (Q true) (h (AJ (D+1)))) (h (AJ (D+1))))) (h (AJ (D+1)))) (Q false)) 0
def MN (a0:AK) (Q:(List (Int×Int×Int))→Prop):Prop:=
  KL a0 fun V=>AR (V != 0) (Q ([]:List (Int×Int×Int))) (BB (fun (s:(List (Int×Int×Int))×Int) (G:((List (Int×Int×Int))×Int)→Prop)=>match s with | (s745,s749)=>AR (decide (s749<a0.N)) (BB (fun (s:(List (Int×Int×Int))×Int) (D:((List (Int×Int×Int))×Int)→Prop)=>match s with | (s991,s995)=>AR (decide (s995<a0.N)) (BB (fun (s:(List (Int×Int×Int))×Int) (h:((List (Int×Int×Int))×Int)→Prop)=>match s with | (s1073,s1077)=>AR (decide (s1077<a0.N)) (PE a0 s749 s995 fun J=>AR J (PE a0 s749 s1077 fun U=>AR U (PE a0 s995 s1077 fun O=>AR O (FX 24 s1073 ([(s749,s995,s1077)]) fun _=>h ((s1073++([(s749,s995,s1077)])),AJ (s1077+1))) (h (s1073,AJ (s1077+1)))) (h (s1073,AJ (s1077+1)))) (D (s1073,AJ (s995+1)))) (D (s1073,AJ (s995+1)))) (s991,AJ (s995+1))) (G (s991,AJ (s749+1)))) (s745,AJ (s749+1))) (Q s745)) (([]:List (Int×Int×Int)),0))
def VG (a0:AK) (Q:AK→Prop):Prop:=
  BB (fun (s:(List AL)×Int) (h:((List AL)×Int)→Prop)=>match s with | (s146,s150)=>AR (decide (s150<(a0.Edges.length:Int))) (AY a0.Edges s150 fun G=>AY a0.Edges s150 fun J=>AR (decide (G.To<J.From)) (AY a0.Edges s150 fun D=>FX 24 s146 ([D]) fun _=>h ((s146++([D])),AJ (s150+1))) (h (s146,AJ (s150+1)))) (KK ({ N:=a0.N,Edges:=s146 }:AK) fun O=>Q O)) (([]:List AL),0)
def X1 (a0:AK) (Q:AK→Prop):Prop:=
  TF a0 fun h=>FX 24 h.Edges a0.Edges fun _=>KK ({ N:=h.N,Edges:=(h.Edges++a0.Edges) }:AK) fun D=>Q D
def JL (a0:AK) (a1:Int) (a2:Int) (Q:(BI×Int)→Prop):Prop:=
  KL a0 fun D=>AR (D != 0) (Q (({ Ring:=0,A:=({ Rows:=0,Cols:=0,Start:=([]:List Int),Col:=([]:List Int),Val:=([]:List Int) }:Rows),B:=({ Rows:=0,Cols:=0,Start:=([]:List Int),Col:=([]:List Int),Val:=([]:List Int) }:Rows),Mask:=({ Rows:=0,Cols:=0,Start:=([]:List Int),Col:=([]:List Int),Val:=([]:List Int) }:Rows),R:=0,C:=0,Room:=0 }:BI),D)) (AR (decide (a1<1)) (Q (({ Ring:=0,A:=({ Rows:=0,Cols:=0,Start:=([]:List Int),Col:=([]:List Int),Val:=([]:List Int) }:Rows),B:=({ Rows:=0,Cols:=0,Start:=([]:List Int),Col:=([]:List Int),Val:=([]:List Int) }:Rows),Mask:=({ Rows:=0,Cols:=0,Start:=([]:List Int),Col:=([]:List Int),Val:=([]:List Int) }:Rows),R:=0,C:=0,Room:=0 }:BI),3)) (AR (decide (8<a1)) (Q (({ Ring:=0,A:=({ Rows:=0,Cols:=0,Start:=([]:List Int),Col:=([]:List Int),Val:=([]:List Int) }:Rows),B:=({ Rows:=0,Cols:=0,Start:=([]:List Int),Col:=([]:List Int),Val:=([]:List Int) }:Rows),Mask:=({ Rows:=0,Cols:=0,Start:=([]:List Int),Col:=([]:List Int),Val:=([]:List Int) }:Rows),R:=0,C:=0,Room:=0 }:BI),3)) (AR (decide (a2<1)) (Q (({ Ring:=0,A:=({ Rows:=0,Cols:=0,Start:=([]:List Int),Col:=([]:List Int),Val:=([]:List Int) }:Rows),B:=({ Rows:=0,Cols:=0,Start:=([]:List Int),Col:=([]:List Int),Val:=([]:List Int) }:Rows),Mask:=({ Rows:=0,Cols:=0,Start:=([]:List Int),Col:=([]:List Int),Val:=([]:List Int) }:Rows),R:=0,C:=0,Room:=0 }:BI),3)) (AR (decide (8<a2)) (Q (({ Ring:=0,A:=({ Rows:=0,Cols:=0,Start:=([]:List Int),Col:=([]:List Int),Val:=([]:List Int) }:Rows),B:=({ Rows:=0,Cols:=0,Start:=([]:List Int),Col:=([]:List Int),Val:=([]:List Int) }:Rows),Mask:=({ Rows:=0,Cols:=0,Start:=([]:List Int),Col:=([]:List Int),Val:=([]:List Int) }:Rows),R:=0,C:=0,Room:=0 }:BI),3)) (X1 a0 fun J=>VG J fun G=>V9 G fun O=>VB O fun h=>Q (({ Ring:=5,A:=h.1,B:=h.1,Mask:=h.1,R:=a1,C:=a2,Room:=4 }:BI),0))))))
def WF (a0:AK) (Q:(List Int)→Prop):Prop:=
  KL a0 fun Y=>AR (Y != 0) (Q ([]:List Int)) (mkP 8 a0.N 0 fun _=>MN a0 fun V=>BB (fun (s:(List Int)×Int) (U:((List Int)×Int)→Prop)=>match s with | (s162,s166)=>AR (decide (s166<(V.length:Int))) (AY V s166 fun h=>AY s162 h.1 fun G=>AY s162 h.1 fun x188=>AY V s166 fun D=>AY (s162.set h.1.toNat (AJ (G+1))) D.2.1 fun O=>AY (s162.set h.1.toNat (AJ (G+1))) D.2.1 fun x203=>AY V s166 fun J=>AY ((s162.set h.1.toNat (AJ (G+1))).set D.2.1.toNat (AJ (O+1))) J.2.2 fun W=>AY ((s162.set h.1.toNat (AJ (G+1))).set D.2.1.toNat (AJ (O+1))) J.2.2 fun Z=>U ((((s162.set h.1.toNat (AJ (G+1))).set D.2.1.toNat (AJ (O+1))).set J.2.2.toNat (AJ (W+1))),AJ (s166+1))) (Q s162)) ((List.replicate a0.N.toNat 0),0))
def IY (a0:Int) (a1:Int) (a2:Int) (Q:Int→Prop):Prop:=
  OZ a0 fun h=>AR (!h) (Q (-1)) (AR (decide (a1<0)) (Q (-1)) (AR (decide (8≤a1)) (Q (-1)) (AR (decide (a2<0)) (Q (-1)) (AR (decide (a0≤a2)) (Q (-1)) (Q (AJ ((AJ (a1*a0))+a2)))))))
def VH (a0:Int) (Q:Int→Prop):Prop:=
  Q (shr .i64 (AJ ((if 4096<(if 0 > a0 then 0 else a0) then 4096 else (if 0 > a0 then 0 else a0))+63)) 6)
def ZK (a0:Int) (Q:(List Int)→Prop):Prop:=
  VH a0 fun h=>mkP 8 h 0 fun _=>Q (List.replicate h.toNat 0)
def RW (a0:List Int) (a1:Int) (Q:Bool→Prop):Prop:=
  AR (decide (0≤a1)) (Q (decide ((shr .i64 a1 6)<(a0.length:Int)))) (Q false)
def ZL (a0:Int) (Q:Int→Prop):Prop:=
  nnP (xR .u64 (IntKind.wrap .u64 (a0)) 63) <| Q (shl .u64 1 (xR .u64 (IntKind.wrap .u64 (a0)) 63))
def cZ (a0:Int) (a1:List Int) (Q:(List Int)→Prop):Prop:=
  ZK a0 fun W=>BB (fun (s:(List Int)×Int) (D:((List Int)×Int)→Prop)=>match s with | (s152,s156)=>AR (decide (s156<(a1.length:Int))) (AY a1 s156 fun h=>FM (fun (G:Bool→Prop)=>AR (decide (h<a0)) (RW s152 h fun V=>G V) (G false)) fun J=>AR J (AY s152 (shr .i64 h 6) fun U=>ZL h fun O=>AY s152 (shr .i64 h 6) fun Y=>D ((s152.set ((shr .i64 h 6).toNat) (bor .u64 U O)),AJ (s156+1))) (D (s152,AJ (s156+1)))) (Q s152)) (W,0)
def ZM (a0:AK) (Q:(List (List Int))→Prop):Prop:=
  mkP 24 a0.N ([]:List Int) fun _=>WE a0 fun U=>BB (fun (s:(List (List Int))×Int) (D:((List (List Int))×Int)→Prop)=>match s with | (s339,s343)=>AR (decide (s343<(U.Edges.length:Int))) (AY U.Edges s343 fun h=>AY s339 h.To fun J=>FX 8 J ([h.From]) fun _=>AY s339 h.To fun W=>D ((s339.set h.To.toNat (J++([h.From]))),AJ (s343+1))) (BB (fun (s:(List (List Int))×(List (List Int))×Int) (G:((List (List Int))×(List (List Int))×Int)→Prop)=>match s with | (s495,s499,s503)=>AR (decide (s503<(s339.length:Int))) (AY s499 s503 fun V=>cZ a0.N V fun O=>FX 24 s495 ([O]) fun _=>G ((s495++([O])),s499,AJ (s503+1))) (Q s495)) (([]:List (List Int)),s339,0))) ((List.replicate a0.N.toNat ([]:List Int)),0)
def TT (a0:List Int) (Q:(List Int)→Prop):Prop:=
  Q a0
def PF (o0:Nat) (o1:List Int) (o2:List Int) (Y:Nat→(List Int)→Int→((Bool×Nat×(List Int))→Prop)→Prop) (Q:(Nat×(List Int))→Prop):Prop:=
  BB (fun (s:(List Int)×Int×Nat) (G:((List Int)×Int×Nat)→Prop)=>match s with | (s251,s255,s256)=>AR (decide (s255<(o2.length:Int))) (AY o2 s255 fun J=>BB (fun (s:(List Int)×Int×Int×Nat) (h:((List Int)×Int×Int×Nat)→Prop)=>match s with | (s339,s343,s344,s345)=>AR (s343 != 0) (AR ((xR .u64 s343 1)==1) (Y s345 s339 s344 fun D=>AR (!D.1) (Q (D.2.1,D.2.2)) (h (D.2.2,shr .u64 s343 1,AJ (s344+1),D.2.1))) (h (s339,shr .u64 s343 1,AJ (s344+1),s345))) (G (s339,AJ (s255+1),s345))) (s251,J,shl .i64 s255 6,s256)) (Q (s256,s251))) (o1,0,o0)
def FZ (o0:List Int) (Q:(List Int)→Prop):Prop:=
  PF 0 ([]:List Int) o0 (fun (J:Nat) (h:List Int) (G:Int) (O:(Bool×Nat×(List Int))→Prop)=>eqP J 0 (FX 8 h ([G]) fun _=>O (true,0,(h++([G]))))) fun D=>eqP D.1 0 (Q D.2)
def IZ (o0:List Int) (Q:(List Int)→Prop):Prop:=
  FZ o0 fun h=>Q h
def JA (a0:List Int) (Q:(List Int)→Prop):Prop:=
  TT a0 fun D=>IZ D fun h=>Q h
def KX (a0:Int) (a1:Int) (Q:Int→Prop):Prop:=
  Q (xR .u64 a0 a1)
def TU (a0:Int) (a1:List Int) (a2:List Int) (Q:(List Int)→Prop):Prop:=
  mkP 8 a0 0 fun _=>BB (fun (s:(List Int)×Int) (h:((List Int)×Int)→Prop)=>match s with | (s172,s176)=>AR (decide (s176<((List.replicate a0.toNat (0:Int)).length:Int))) (FM (fun (D:Int→Prop)=>AR (decide (s176<(a1.length:Int))) (AY a1 s176 fun J=>D J) (D 0)) fun G=>AR (decide (s176<(a2.length:Int))) (AY a2 s176 fun O=>KX G O fun V=>AY s172 s176 fun W=>h ((s172.set s176.toNat V),AJ (s176+1))) (KX G 0 fun U=>AY s172 s176 fun Y=>h ((s172.set s176.toNat U),AJ (s176+1)))) (Q s172)) ((List.replicate a0.toNat 0),0)
def PG (a0:List Int) (a1:List Int) (Q:(List Int)→Prop):Prop:=
  TU (a0.length:Int) a0 a1 fun h=>Q h
def CG (o1:BI) (o2:Int) (o3:List (Nat×AA)) (o4:AA) (a0:Int) (a1:Int) (a2:Int) (a3:List AD) (Q:AA→Prop):Prop:=
  IY o1.C o4.i o4.j fun h=>IY o1.C a1 a2 fun D=>FX 136 o4.out ([({ Kind:=a0,From:=h,To:=D,Seq:=0,Round:=o2,Vec:=({ N:=0,Items:=([]:List EC) }:Vec),Sums:=([]:List eZ),Triples:=a3,N:=0,Over:=false }:BL)]) fun _=>Q ({ i:=o4.i,j:=o4.j,mask:=o4.mask,out:=(o4.out++([({ Kind:=a0,From:=h,To:=D,Seq:=0,Round:=o2,Vec:=({ N:=0,Items:=([]:List EC) }:Vec),Sums:=([]:List eZ),Triples:=a3,N:=0,Over:=false }:BL)])),parts:=o4.parts,at_:=o4.at_,has:=o4.has }:AA)
def GG (o0:AC) (o1:AA) (o2:List (Nat×AA)) (a0:Int) (a1:BJ) (Q:AA→Prop):Prop:=
  FM (fun (U:(Int×Int×Int×Int×(List Int)×(List Int)×(List Int)×(List BL)×(List (BC×(List AD)))×Int×(List AM))→Prop)=>AR (a1.Col==o1.j) (IU o0.p.A.Rows o0.p.R o1.i fun r678=>MH o0.p.A r678 (a1.From,a1.To) fun W=>KM W fun r698=>BB (fun (s:Int×Int×Int×Int×(List Int)×(List Int)×(List Int)×(List BL)×(List (BC×(List AD)))×Int×(List AM)×Int) (J:(Int×Int×Int×Int×(List Int)×(List Int)×(List Int)×(List BL)×(List (BC×(List AD)))×Int×(List AM)×Int)→Prop)=>match s with | (s852,s853,s854,s855,s856,s860,s864,s868,s872,s873,s874,s878)=>AR (decide (s878<o0.p.C)) (CG o0.p a0 o2 ({ i:=s852,j:=s853,mask:=({ Rows:=s854,Cols:=s855,Start:=s856,Col:=s860,Val:=s864 }:Rows),out:=s868,parts:=s872,at_:=s873,has:=s874 }:AA) 6 s852 s878 r698 fun D=>J (D.i,D.j,D.mask.Rows,D.mask.Cols,D.mask.Start,D.mask.Col,D.mask.Val,D.out,D.parts,D.at_,D.has,AJ (s878+1))) (U (s852,s853,s854,s855,s856,s860,s864,s868,s872,s873,s874))) (o1.i,o1.j,o1.mask.Rows,o1.mask.Cols,o1.mask.Start,o1.mask.Col,o1.mask.Val,o1.out,o1.parts,o1.at_,o1.has,0)) (U (o1.i,o1.j,o1.mask.Rows,o1.mask.Cols,o1.mask.Start,o1.mask.Col,o1.mask.Val,o1.out,o1.parts,o1.at_,o1.has))) fun (O,s620,s621,s622,s623,s627,s631,s635,s639,s640,s641)=>AR (a1.Row==O) (IU o0.p.B.Cols o0.p.C s620 fun V=>MH o0.p.B (a1.From,a1.To) V fun Z=>KM Z fun Y=>BB (fun (s:Int×Int×Int×Int×(List Int)×(List Int)×(List Int)×(List BL)×(List (BC×(List AD)))×Int×(List AM)×Int) (G:(Int×Int×Int×Int×(List Int)×(List Int)×(List Int)×(List BL)×(List (BC×(List AD)))×Int×(List AM)×Int)→Prop)=>match s with | (s1125,s1126,s1127,s1128,s1129,s1133,s1137,s1141,s1145,s1146,s1147,s1151)=>AR (decide (s1151<o0.p.R)) (CG o0.p a0 o2 ({ i:=s1125,j:=s1126,mask:=({ Rows:=s1127,Cols:=s1128,Start:=s1129,Col:=s1133,Val:=s1137 }:Rows),out:=s1141,parts:=s1145,at_:=s1146,has:=s1147 }:AA) 7 s1151 s1126 Y fun h=>G (h.i,h.j,h.mask.Rows,h.mask.Cols,h.mask.Start,h.mask.Col,h.mask.Val,h.out,h.parts,h.at_,h.has,AJ (s1151+1))) (Q ({ i:=s1125,j:=s1126,mask:=({ Rows:=s1127,Cols:=s1128,Start:=s1129,Col:=s1133,Val:=s1137 }:Rows),out:=s1141,parts:=s1145,at_:=s1146,has:=s1147 }:AA))) (O,s620,s621,s622,s623,s627,s631,s635,s639,s640,s641,0)) (Q ({ i:=O,j:=s620,mask:=({ Rows:=s621,Cols:=s622,Start:=s623,Col:=s627,Val:=s631 }:Rows),out:=s635,parts:=s639,at_:=s640,has:=s641 }:AA))
def PY (o0:List (Nat×AA)) (o1:List (Nat×AF)) (a0:BI) (Q0:(Int×(List (Nat×AA)))→Prop) (Q1:(Int×(List (Nat×AA))×AC)→Prop):Prop:=
  QL a0 fun Z=>AR (Z != 0) (Q0 (Z,o0)) (LR a0.A.Cols a0.R a0.C fun W=>BB (fun (s:(List (Option Nat))×Int×(List (Nat×AA))) (J:((List (Option Nat))×Int×(List (Nat×AA)))→Prop)=>match s with | (s1272,s1276,s1277)=>AR (decide (s1276<(AJ (a0.R*a0.C)))) (WA a0.C s1276 fun U=>Y8 a0.C s1276 fun V=>SN a0.Mask a0.R a0.C U V fun D=>BB (fun (s:Int×Int×Int×Int×(List Int)×(List Int)×(List Int)×(List BL)×(List (BC×(List AD)))×Int×(List AM)×Int) (O:(Int×Int×Int×Int×(List Int)×(List Int)×(List Int)×(List BL)×(List (BC×(List AD)))×Int×(List AM)×Int)→Prop)=>match s with | (s1761,s1762,s1763,s1764,s1765,s1769,s1773,s1777,s1781,s1782,s1783,s1787)=>AR (decide (s1787<(W.length:Int))) (AY W s1787 fun Y=>GG ({ p:=a0,stages:=W,workers:=s1272,boxes:=([]:List ((Int×Int)×(Option Nat))) }:AC) ({ i:=s1761,j:=s1762,mask:=({ Rows:=s1763,Cols:=s1764,Start:=s1765,Col:=s1769,Val:=s1773 }:Rows),out:=s1777,parts:=s1781,at_:=s1782,has:=s1783 }:AA) s1277 s1787 Y fun h=>O (h.i,h.j,h.mask.Rows,h.mask.Cols,h.mask.Start,h.mask.Col,h.mask.Val,h.out,h.parts,h.at_,h.has,AJ (s1787+1))) (Aj4 s1277 fun G=>FX 8 s1272 ([(some G)]) fun _=>J ((s1272++([(some G)])),AJ (s1276+1),((G,({ i:=s1761,j:=s1762,mask:=({ Rows:=s1763,Cols:=s1764,Start:=s1765,Col:=s1769,Val:=s1773 }:Rows),out:=s1777,parts:=s1781,at_:=s1782,has:=s1783 }:AA)) :: s1277)))) (U,V,D.Rows,D.Cols,D.Start,D.Col,D.Val,([]:List BL),([]:List (BC×(List AD))),0,([]:List AM),0)) (Q1 (0,s1277,({ p:=a0,stages:=W,workers:=s1272,boxes:=([]:List ((Int×Int)×(Option Nat))) }:AC)))) (([]:List (Option Nat)),0,o0))
def QZ (a0:NP) (Q:Bool→Prop):Prop:=
  TJ a0 fun h=>Q (!h)
def DV (a0:List NP) (Q:Int→Prop):Prop:=
  BB (fun (D:Int) (h:Int→Prop)=>AR (decide (D<(a0.length:Int))) (AY a0 D fun J=>QZ J fun G=>AR G (Q D) (h (AJ (D+1)))) (Q (-1))) 0
def BX (a0:List NP) (Q:Bool→Prop):Prop:=
  DV a0 fun h=>Q (decide (0≤h))
def QP (o0:List (Nat×AA)) (o1:List (Nat×AF)) (a0:NP) (Q:Bool→Prop):Prop:=
  Q false
def HW (o0:List (Nat×AA)) (Q:Bool→Prop):Prop:=
  Q false
def LS (o0:List (Nat×AA)) (o1:List (Nat×AF))  : Prop:=
  False
def LU (o0:List (Nat×AA)) (Q:(Rows×Int)→Prop):Prop:=
  Q (({ Rows:=0,Cols:=0,Start:=([]:List Int),Col:=([]:List Int),Val:=([]:List Int) }:Rows),10)
def EE (o0:AC) (o1:List (Nat×AA)) (a0:Int) (Q:Bool→Prop):Prop:=
  AR (decide (0≤a0)) (Q (decide (a0<(o0.workers.length:Int)))) (Q false)
def GH (o0:AC) (o1:List (Nat×AA)) (a0:Int) (Q:Int→Prop):Prop:=
  EE o0 o1 a0 fun h=>AR (!h) (Q 0) (AY o0.workers a0 fun D=>GL o1 D fun J G=>Q (G.out.length:Int))
def RX (a0:Int) (h:Int→Prop) (D:(Int×AF)→Prop):Prop:=
  AR (decide (a0<1)) (h 3) (AR (decide (64<a0)) (h 3) (D (0,({ room:=a0,row:=([]:List Int),by_:=([]:List (Int×BL)),often:=([]:List (Int×Int)),sent:=0,taken:=0 }:AF))))
def CJ (o0:AC) (o1:List (Nat×AA)) (o2:List (Nat×AF)) (a0:Int) (a1:Int) (Z:(AC×(List (Nat×AF)))→Prop) (W:((Option Nat)×AC×(List (Nat×AF)))→Prop):Prop:=
  EE o0 o1 a0 fun Y=>AR (!Y) (Z (o0,o2)) (EE o0 o1 a1 fun V=>AR (!V) (Z (o0,o2)) (lkP o0.boxes (a0,a1) none fun O=>AR O.isNone (RX o0.p.Room (fun r97=>lkP (EO (a0,a1) none o0.boxes) (a0,a1) none fun D=>W (D,({ p:=o0.p,stages:=o0.stages,workers:=o0.workers,boxes:=(EO (a0,a1) none o0.boxes) }:AC),o2)) (fun U=>Aj4 o2 fun h=>lkP (EO (a0,a1) (some h) o0.boxes) (a0,a1) none fun G=>W (G,({ p:=o0.p,stages:=o0.stages,workers:=o0.workers,boxes:=(EO (a0,a1) (some h) o0.boxes) }:AC),((h,U.2) :: o2)))) (lkP o0.boxes (a0,a1) none fun J=>W (J,o0,o2))))
def NY (a0:BL) (Q:Int→Prop):Prop:=
  Q 10
def HH (o0:AF) (Q:Bool→Prop):Prop:=
  Q (decide (o0.room≤(o0.row.length:Int)))
def HX (o0:AF) (a0:Int) (Q:AF→Prop):Prop:=
  FX 8 o0.row ([a0]) fun _=>lkP o0.often a0 0 fun h=>Q ({ room:=o0.room,row:=(o0.row++([a0])),by_:=o0.by_,often:=(EO a0 (AJ (h+1)) o0.often),sent:=o0.sent,taken:=o0.taken }:AF)
def JY (o0:AF) (a0:BL) (Q:(Int×AF)→Prop):Prop:=
  HH o0 fun G=>AR G (Q (9,o0)) (YA a0 fun h=>HX ({ room:=o0.room,row:=o0.row,by_:=(EO o0.sent ({ Kind:=h.Kind,From:=h.From,To:=h.To,Seq:=o0.sent,Round:=h.Round,Vec:=h.Vec,Sums:=h.Sums,Triples:=h.Triples,N:=h.N,Over:=h.Over }:BL) o0.by_),often:=o0.often,sent:=o0.sent,taken:=o0.taken }:AF) o0.sent fun D=>Q (0,({ room:=D.room,row:=D.row,by_:=D.by_,often:=D.often,sent:=AJ (D.sent+1),taken:=D.taken }:AF)))
def PH (o0:List (Nat×AF)) (a0:Option Nat) (a1:BL) (Q:(Int×(List (Nat×AF)))→Prop):Prop:=
  uA a0 (NY a1 fun h=>Q (h,o0)) fun b=>yF o0 b fun x=>JY x a1 fun h=>Q (h.1,(b,h.2) :: CM b o0)
def DE (o0:AC) (o1:List (Nat×AA)) (o2:List (Nat×AF)) (a0:Int) (Q:(Bool×AC×(List (Nat×AA))×(List (Nat×AF)))→Prop):Prop:=
  GH o0 o1 a0 fun r54=>AR (r54==0) (Q (false,o0,o1,o2)) (AY o0.workers a0 fun x66=>FM (fun (W:(Int×Int×Int×(List Int)×(List Int)×(List Int)×Int×Int×(List Int)×(List Int)×(List Int)×Int×Int×(List Int)×(List Int)×(List Int)×Int×Int×Int×(List BJ)×(List (Option Nat))×(List ((Int×Int)×(Option Nat)))×(Option Nat)×(List (Nat×AF)))→Prop)=>GL o1 x66 fun O U=>AY U.out 0 fun x481=>AY U.out 0 fun V=>CJ o0 (CM O o1) o2 a0 x481.To (fun D=>NY V fun Z=>AR (Z != 0) (Q (false,D.1,o1,D.2)) (W (D.1.p.Ring,D.1.p.A.Rows,D.1.p.A.Cols,D.1.p.A.Start,D.1.p.A.Col,D.1.p.A.Val,D.1.p.B.Rows,D.1.p.B.Cols,D.1.p.B.Start,D.1.p.B.Col,D.1.p.B.Val,D.1.p.Mask.Rows,D.1.p.Mask.Cols,D.1.p.Mask.Start,D.1.p.Mask.Col,D.1.p.Mask.Val,D.1.p.R,D.1.p.C,D.1.p.Room,D.1.stages,D.1.workers,D.1.boxes,(some O),D.2))) (fun h=>PH h.2.2 h.1 V fun J=>AR (J.1 != 0) (Q (false,h.2.1,o1,J.2)) (W (h.2.1.p.Ring,h.2.1.p.A.Rows,h.2.1.p.A.Cols,h.2.1.p.A.Start,h.2.1.p.A.Col,h.2.1.p.A.Val,h.2.1.p.B.Rows,h.2.1.p.B.Cols,h.2.1.p.B.Start,h.2.1.p.B.Col,h.2.1.p.B.Val,h.2.1.p.Mask.Rows,h.2.1.p.Mask.Cols,h.2.1.p.Mask.Start,h.2.1.p.Mask.Col,h.2.1.p.Mask.Val,h.2.1.p.R,h.2.1.p.C,h.2.1.p.Room,h.2.1.stages,h.2.1.workers,h.2.1.boxes,(some O),J.2)))) fun (s400,s401,s402,s403,s407,s411,s415,s416,s417,s421,s425,s429,s430,s431,s435,s439,s443,s444,s445,s446,s450,s454,s455,s456)=>GL o1 s455 fun Y G=>slP G.out 1 (G.out.length:Int) fun _=>Q (true,({ p:=({ Ring:=s400,A:=({ Rows:=s401,Cols:=s402,Start:=s403,Col:=s407,Val:=s411 }:Rows),B:=({ Rows:=s415,Cols:=s416,Start:=s417,Col:=s421,Val:=s425 }:Rows),Mask:=({ Rows:=s429,Cols:=s430,Start:=s431,Col:=s435,Val:=s439 }:Rows),R:=s443,C:=s444,Room:=s445 }:BI),stages:=s446,workers:=s450,boxes:=s454 }:AC),((Y,({ i:=G.i,j:=G.j,mask:=G.mask,out:=((G.out.take (G.out.length:Int).toNat).drop (Int.toNat 1)),parts:=G.parts,at_:=G.at_,has:=G.has }:AA)) :: (CM Y o1)),s456))
def GA (a0:Int) (Q:Int→Prop):Prop:=
  Q 10
def JZ (a0:Int) (Q:(BL×Bool×Int)→Prop):Prop:=
  GA a0 fun h=>AR (h != 0) (Q (({ Kind:=0,From:=0,To:=0,Seq:=0,Round:=0,Vec:=({ N:=0,Items:=([]:List EC) }:Vec),Sums:=([]:List eZ),Triples:=([]:List AD),N:=0,Over:=false }:BL),false,h)) (False)
def GY (o0:AF) (a0:Int) (Q:Int→Prop):Prop:=
  AR (decide (a0<0)) (Q 3) (AR (decide ((o0.row.length:Int)≤a0)) (Q 3) (Q 0))
def EA (o0:List Int) (a0:Int) (a1:Int) (Q:(List Int)→Prop):Prop:=
  slP o0 a0 a1 fun _=>AR (a0==a1) (Q o0) (slP o0 0 a0 fun _=>slP o0 a1 (o0.length:Int) fun _=>Q (o0.take a0.toNat++o0.drop a1.toNat))
def KY (o0:AF) (a0:Int) (Q:(BL×AF)→Prop):Prop:=
  AY o0.row a0 fun h=>lkP o0.by_ h ({ Kind:=0,From:=0,To:=0,Seq:=0,Round:=0,Vec:=({ N:=0,Items:=([]:List EC) }:Vec),Sums:=([]:List eZ),Triples:=([]:List AD),N:=0,Over:=false }:BL) fun G=>EA o0.row a0 (AJ (a0+1)) fun J=>lkP o0.often h 0 fun D=>lkP (EO h (AJ (D - 1)) o0.often) h 0 fun O=>AR (O==0) (Q (G,({ room:=o0.room,row:=J,by_:=(CM h o0.by_),often:=(CM h (EO h (AJ (D - 1)) o0.often)),sent:=o0.sent,taken:=o0.taken }:AF))) (Q (G,({ room:=o0.room,row:=J,by_:=o0.by_,often:=(EO h (AJ (D - 1)) o0.often),sent:=o0.sent,taken:=o0.taken }:AF)))
def KA (o0:AF) (a0:Int) (Q:(BL×Bool×Int×AF)→Prop):Prop:=
  GY o0 a0 fun D=>AR (D != 0) (Q (({ Kind:=0,From:=0,To:=0,Seq:=0,Round:=0,Vec:=({ N:=0,Items:=([]:List EC) }:Vec),Sums:=([]:List eZ),Triples:=([]:List AD),N:=0,Over:=false }:BL),false,D,o0)) (AY o0.row a0 fun J=>AR (decide (o0.taken<J)) (Q (({ Kind:=0,From:=0,To:=0,Seq:=0,Round:=0,Vec:=({ N:=0,Items:=([]:List EC) }:Vec),Sums:=([]:List eZ),Triples:=([]:List AD),N:=0,Over:=false }:BL),false,D,o0)) (KY o0 a0 fun h=>AR (decide (h.1.Seq<h.2.taken)) (Q (({ Kind:=0,From:=0,To:=0,Seq:=0,Round:=0,Vec:=({ N:=0,Items:=([]:List EC) }:Vec),Sums:=([]:List eZ),Triples:=([]:List AD),N:=0,Over:=false }:BL),false,0,h.2)) (YA h.1 fun G=>Q (G,true,0,({ room:=h.2.room,row:=h.2.row,by_:=h.2.by_,often:=h.2.often,sent:=h.2.sent,taken:=AJ (h.2.taken+1) }:AF)))))
def PI (o0:List (Nat×AF)) (a0:Option Nat) (a1:Int) (Q:(BL×Bool×Int×(List (Nat×AF)))→Prop):Prop:=
  uA a0 (JZ a1 fun h=>Q (h.1,h.2.1,h.2.2,o0)) fun b=>yF o0 b fun x=>KA x a1 fun h=>Q (h.1,h.2.1,h.2.2.1,(b,h.2.2.2) :: CM b o0)
def DB (o0:AC) (o1:List (Nat×AA)) (a0:Option Nat) (Q:(Bool×(List (Nat×AA)))→Prop):Prop:=
  GL o1 a0 fun G x63=>AR (decide ((o0.stages.length:Int)≤x63.at_)) (Q (false,o1)) (GL o1 (some G) fun _ O=>GL o1 (some G) fun _ x169=>nC x169.parts ({ kind:=6,stage:=O.at_ }:BC) ([]:List AD) fun r190 t195=>GL o1 (some G) fun _ x231=>nC x231.parts ({ kind:=7,stage:=O.at_ }:BC) ([]:List AD) fun r252 t257=>AR (!t195) (Q (false,o1)) (AR (!t257) (Q (false,o1)) (GL o1 (some G) fun _ Y=>AY o0.stages Y.at_ fun Z=>AY o0.stages Y.at_ fun W=>GL o1 (some G) fun _ x386=>TM o0.p.Ring x386.mask.Rows (AJ (Z.To - W.From)) r190 fun r408=>GL o1 (some G) fun _ x467=>TM o0.p.Ring (AJ (Z.To - W.From)) x467.mask.Cols r252 fun r489=>GL o1 (some G) fun _ x541=>TN o0.p.Ring r408.1 r489.1 x541.mask fun r562=>GL o1 (some G) fun _ h=>PC o0.p.Ring ([h.has,r562.1]:List (List AM)) fun V=>GL ((G,({ i:=h.i,j:=h.j,mask:=h.mask,out:=h.out,parts:=h.parts,at_:=h.at_,has:=V.1 }:AA)) :: (CM G o1)) (some G) fun _ D=>GL ((G,({ i:=D.i,j:=D.j,mask:=D.mask,out:=D.out,parts:=(CM ({ kind:=6,stage:=O.at_ }:BC) D.parts),at_:=D.at_,has:=D.has }:AA)) :: (CM G ((G,({ i:=h.i,j:=h.j,mask:=h.mask,out:=h.out,parts:=h.parts,at_:=h.at_,has:=V.1 }:AA)) :: (CM G o1)))) (some G) fun _ J=>GL ((G,({ i:=J.i,j:=J.j,mask:=J.mask,out:=J.out,parts:=(CM ({ kind:=7,stage:=O.at_ }:BC) J.parts),at_:=J.at_,has:=J.has }:AA)) :: (CM G ((G,({ i:=D.i,j:=D.j,mask:=D.mask,out:=D.out,parts:=(CM ({ kind:=6,stage:=O.at_ }:BC) D.parts),at_:=D.at_,has:=D.has }:AA)) :: (CM G ((G,({ i:=h.i,j:=h.j,mask:=h.mask,out:=h.out,parts:=h.parts,at_:=h.at_,has:=V.1 }:AA)) :: (CM G o1)))))) (some G) fun _ U=>Q (true,((G,({ i:=U.i,j:=U.j,mask:=U.mask,out:=U.out,parts:=U.parts,at_:=AJ (U.at_+1),has:=U.has }:AA)) :: (CM G ((G,({ i:=J.i,j:=J.j,mask:=J.mask,out:=J.out,parts:=(CM ({ kind:=7,stage:=O.at_ }:BC) J.parts),at_:=J.at_,has:=J.has }:AA)) :: (CM G ((G,({ i:=D.i,j:=D.j,mask:=D.mask,out:=D.out,parts:=(CM ({ kind:=6,stage:=O.at_ }:BC) D.parts),at_:=D.at_,has:=D.has }:AA)) :: (CM G ((G,({ i:=h.i,j:=h.j,mask:=h.mask,out:=h.out,parts:=h.parts,at_:=h.at_,has:=V.1 }:AA)) :: (CM G o1))))))))))))
def DF (o0:AC) (o1:List (Nat×AA)) (o2:List (Nat×AF)) (a0:Int) (a1:Int) (a2:Int) (Q:(Bool×AC×(List (Nat×AA))×(List (Nat×AF)))→Prop):Prop:=
  CJ o0 o1 o2 a0 a1 (fun O=>JZ a2 fun U=>AR (!U.2.1) (Q (false,O.1,o1,O.2)) (AY O.1.workers a1 fun x401=>GL o1 x401 fun b431 D=>BB (fun (s476:(List (Nat×AA))) (Y:(List (Nat×AA))→Prop)=>DB O.1 s476 (some b431) fun Z=>AR Z.1 (Y Z.2) (Q (true,O.1,Z.2,O.2))) ((b431,({ i:=D.i,j:=D.j,mask:=D.mask,out:=D.out,parts:=(EO ({ kind:=U.1.Kind,stage:=U.1.Round }:BC) U.1.Triples D.parts),at_:=D.at_,has:=D.has }:AA)) :: (CM b431 o1)))) (fun G=>PI G.2.2 G.1 a2 fun J=>AR (!J.2.1) (Q (false,G.2.1,o1,J.2.2.2)) (AY G.2.1.workers a1 fun x524=>GL o1 x524 fun V h=>BB (fun (s599:(List (Nat×AA))) (W:(List (Nat×AA))→Prop)=>DB G.2.1 s599 (some V) fun r610=>AR r610.1 (W r610.2) (Q (true,G.2.1,r610.2,J.2.2.2))) ((V,({ i:=h.i,j:=h.j,mask:=h.mask,out:=h.out,parts:=(EO ({ kind:=J.1.Kind,stage:=J.1.Round }:BC) J.1.Triples h.parts),at_:=h.at_,has:=h.has }:AA)) :: (CM V o1))))
def VJ   : Prop:=
  False
def HR (a0:Int) (Q:Int→Prop):Prop:=
  GA a0 fun h=>AR (h != 0) (Q h) (VJ )
def HS (o0:AF) (a0:Int) (Q:(Int×AF)→Prop):Prop:=
  GY o0 a0 fun h=>AR (h != 0) (Q (h,o0)) (HH o0 fun G=>AR G (Q (9,o0)) (AY o0.row a0 fun D=>HX o0 D fun J=>Q (0,J)))
def MO (o0:List (Nat×AF)) (a0:Option Nat) (a1:Int) (Q:(Int×(List (Nat×AF)))→Prop):Prop:=
  uA a0 (HR a1 fun h=>Q (h,o0)) fun b=>yF o0 b fun x=>HS x a1 fun h=>Q (h.1,(b,h.2) :: CM b o0)
def KB (a0:Int) (Q:Int→Prop):Prop:=
  GA a0 fun h=>AR (h != 0) (Q h) (False)
def KC (o0:AF) (a0:Int) (Q:(Int×AF)→Prop):Prop:=
  GY o0 a0 fun h=>AR (h != 0) (Q (h,o0)) (AY o0.row a0 fun D=>EA o0.row a0 (AJ (a0+1)) fun G=>FX 8 G ([D]) fun _=>Q (0,({ room:=o0.room,row:=(G++([D])),by_:=o0.by_,often:=o0.often,sent:=o0.sent,taken:=o0.taken }:AF)))
def PJ (o0:List (Nat×AF)) (a0:Option Nat) (a1:Int) (Q:(Int×(List (Nat×AF)))→Prop):Prop:=
  uA a0 (KB a1 fun h=>Q (h,o0)) fun b=>yF o0 b fun x=>KC x a1 fun h=>Q (h.1,(b,h.2) :: CM b o0)
def HY (o0:AF) (Q:Int→Prop):Prop:=
  Q (o0.row.length:Int)
def PK  (Q:Int→Prop):Prop:=
  Q 0
def GZ (o0:List (Nat×AF)) (a0:Option Nat) (Q:Int→Prop):Prop:=
  uA a0 (PK  fun h=>Q h) fun b=>yF o0 b fun x=>HY x  fun h=>Q h
def JQ (o0:Int) (a0:Int) (Q:Bool→Prop):Prop:=
  Q (a0==o0)
def EI (o0:List Int) (o1:Int) (Q:Int→Prop):Prop:=
  BB (fun (D:Int) (h:Int→Prop)=>AR (decide (D<(o0.length:Int))) (AY o0 D fun G=>JQ o1 G fun J=>AR J (Q D) (h (AJ (D+1)))) (Q (-1))) 0
def HT (o0:AF) (Q:Int→Prop):Prop:=
  HY o0 fun h=>AR (h==0) (Q (-1)) (IW o0.row fun G=>EI o0.row G fun D=>Q D)
def RH  (Q:Int→Prop):Prop:=
  PK  fun h=>AR (h==0) (Q (-1)) (False)
def JB (o0:List (Nat×AF)) (a0:Option Nat) (Q:Int→Prop):Prop:=
  uA a0 (RH  fun h=>Q h) fun b=>yF o0 b fun x=>HT x  fun h=>Q h
def EG (o0:AC) (o1:List (Nat×AA)) (o2:List (Nat×AF)) (Q:(Bool×AC×(List (Nat×AA))×(List (Nat×AF)))→Prop):Prop:=
  BB (fun (s:Int×Int×Int×(List Int)×(List Int)×(List Int)×Int×Int×(List Int)×(List Int)×(List Int)×Int×Int×(List Int)×(List Int)×(List Int)×Int×Int×Int×(List BJ)×(List (Option Nat))×(List ((Int×Int)×(Option Nat)))×Bool×Int×(List (Nat×AA))×(List (Nat×AF))) (J:(Int×Int×Int×(List Int)×(List Int)×(List Int)×Int×Int×(List Int)×(List Int)×(List Int)×Int×Int×(List Int)×(List Int)×(List Int)×Int×Int×Int×(List BJ)×(List (Option Nat))×(List ((Int×Int)×(Option Nat)))×Bool×Int×(List (Nat×AA))×(List (Nat×AF)))→Prop)=>match s with | (s702,s703,s704,s705,s709,s713,s717,s718,s719,s723,s727,s731,s732,s733,s737,s741,s745,s746,s747,s748,s752,s756,s757,s758,s759,s760)=>AR (decide (s758<(o0.workers.length:Int))) (DE ({ p:=({ Ring:=s702,A:=({ Rows:=s703,Cols:=s704,Start:=s705,Col:=s709,Val:=s713 }:Rows),B:=({ Rows:=s717,Cols:=s718,Start:=s719,Col:=s723,Val:=s727 }:Rows),Mask:=({ Rows:=s731,Cols:=s732,Start:=s733,Col:=s737,Val:=s741 }:Rows),R:=s745,C:=s746,Room:=s747 }:BI),stages:=s748,workers:=s752,boxes:=s756 }:AC) s759 s760 s758 fun D=>AR D.1 (J (D.2.1.p.Ring,D.2.1.p.A.Rows,D.2.1.p.A.Cols,D.2.1.p.A.Start,D.2.1.p.A.Col,D.2.1.p.A.Val,D.2.1.p.B.Rows,D.2.1.p.B.Cols,D.2.1.p.B.Start,D.2.1.p.B.Col,D.2.1.p.B.Val,D.2.1.p.Mask.Rows,D.2.1.p.Mask.Cols,D.2.1.p.Mask.Start,D.2.1.p.Mask.Col,D.2.1.p.Mask.Val,D.2.1.p.R,D.2.1.p.C,D.2.1.p.Room,D.2.1.stages,D.2.1.workers,D.2.1.boxes,true,AJ (s758+1),D.2.2.1,D.2.2.2)) (J (D.2.1.p.Ring,D.2.1.p.A.Rows,D.2.1.p.A.Cols,D.2.1.p.A.Start,D.2.1.p.A.Col,D.2.1.p.A.Val,D.2.1.p.B.Rows,D.2.1.p.B.Cols,D.2.1.p.B.Start,D.2.1.p.B.Col,D.2.1.p.B.Val,D.2.1.p.Mask.Rows,D.2.1.p.Mask.Cols,D.2.1.p.Mask.Start,D.2.1.p.Mask.Col,D.2.1.p.Mask.Val,D.2.1.p.R,D.2.1.p.C,D.2.1.p.Room,D.2.1.stages,D.2.1.workers,D.2.1.boxes,s757,AJ (s758+1),D.2.2.1,D.2.2.2))) (BB (fun (s:Int×Int×Int×(List Int)×(List Int)×(List Int)×Int×Int×(List Int)×(List Int)×(List Int)×Int×Int×(List Int)×(List Int)×(List Int)×Int×Int×Int×(List BJ)×(List (Option Nat))×(List ((Int×Int)×(Option Nat)))×Bool×Int×(List (Nat×AA))×(List (Nat×AF))) (U:(Int×Int×Int×(List Int)×(List Int)×(List Int)×Int×Int×(List Int)×(List Int)×(List Int)×Int×Int×(List Int)×(List Int)×(List Int)×Int×Int×Int×(List BJ)×(List (Option Nat))×(List ((Int×Int)×(Option Nat)))×Bool×Int×(List (Nat×AA))×(List (Nat×AF)))→Prop)=>match s with | (s2059,s2060,s2061,s2062,s2066,s2070,s2074,s2075,s2076,s2080,s2084,s2088,s2089,s2090,s2094,s2098,s2102,s2103,s2104,s2105,s2109,s2113,s2114,s2115,s2116,s2117)=>AR (decide (s2115<(s752.length:Int))) (BB (fun (s:Int×Int×Int×(List Int)×(List Int)×(List Int)×Int×Int×(List Int)×(List Int)×(List Int)×Int×Int×(List Int)×(List Int)×(List Int)×Int×Int×Int×(List BJ)×(List (Option Nat))×(List ((Int×Int)×(Option Nat)))×Bool×Int×(List (Nat×AA))×(List (Nat×AF))) (G:(Int×Int×Int×(List Int)×(List Int)×(List Int)×Int×Int×(List Int)×(List Int)×(List Int)×Int×Int×(List Int)×(List Int)×(List Int)×Int×Int×Int×(List BJ)×(List (Option Nat))×(List ((Int×Int)×(Option Nat)))×Bool×Int×(List (Nat×AA))×(List (Nat×AF)))→Prop)=>match s with | (s2505,s2506,s2507,s2508,s2512,s2516,s2520,s2521,s2522,s2526,s2530,s2534,s2535,s2536,s2540,s2544,s2548,s2549,s2550,s2551,s2555,s2559,s2560,s2561,s2562,s2563)=>AR (decide (s2561<(s2109.length:Int))) (lkP s2559 (s2115,s2561) none fun O=>GZ s2563 O fun Y=>JB s2563 O fun W=>DF ({ p:=({ Ring:=s2505,A:=({ Rows:=s2506,Cols:=s2507,Start:=s2508,Col:=s2512,Val:=s2516 }:Rows),B:=({ Rows:=s2520,Cols:=s2521,Start:=s2522,Col:=s2526,Val:=s2530 }:Rows),Mask:=({ Rows:=s2534,Cols:=s2535,Start:=s2536,Col:=s2540,Val:=s2544 }:Rows),R:=s2548,C:=s2549,Room:=s2550 }:BI),stages:=s2551,workers:=s2555,boxes:=s2559 }:AC) s2562 s2563 s2115 s2561 W fun h=>AR s2560 (G (h.2.1.p.Ring,h.2.1.p.A.Rows,h.2.1.p.A.Cols,h.2.1.p.A.Start,h.2.1.p.A.Col,h.2.1.p.A.Val,h.2.1.p.B.Rows,h.2.1.p.B.Cols,h.2.1.p.B.Start,h.2.1.p.B.Col,h.2.1.p.B.Val,h.2.1.p.Mask.Rows,h.2.1.p.Mask.Cols,h.2.1.p.Mask.Start,h.2.1.p.Mask.Col,h.2.1.p.Mask.Val,h.2.1.p.R,h.2.1.p.C,h.2.1.p.Room,h.2.1.stages,h.2.1.workers,h.2.1.boxes,true,AJ (s2561+1),h.2.2.1,h.2.2.2)) (GZ h.2.2.2 O fun V=>G (h.2.1.p.Ring,h.2.1.p.A.Rows,h.2.1.p.A.Cols,h.2.1.p.A.Start,h.2.1.p.A.Col,h.2.1.p.A.Val,h.2.1.p.B.Rows,h.2.1.p.B.Cols,h.2.1.p.B.Start,h.2.1.p.B.Col,h.2.1.p.B.Val,h.2.1.p.Mask.Rows,h.2.1.p.Mask.Cols,h.2.1.p.Mask.Start,h.2.1.p.Mask.Col,h.2.1.p.Mask.Val,h.2.1.p.R,h.2.1.p.C,h.2.1.p.Room,h.2.1.stages,h.2.1.workers,h.2.1.boxes,decide (V<Y),AJ (s2561+1),h.2.2.1,h.2.2.2))) (U (s2505,s2506,s2507,s2508,s2512,s2516,s2520,s2521,s2522,s2526,s2530,s2534,s2535,s2536,s2540,s2544,s2548,s2549,s2550,s2551,s2555,s2559,s2560,AJ (s2115+1),s2562,s2563))) (s2059,s2060,s2061,s2062,s2066,s2070,s2074,s2075,s2076,s2080,s2084,s2088,s2089,s2090,s2094,s2098,s2102,s2103,s2104,s2105,s2109,s2113,s2114,0,s2116,s2117)) (Q (s2114,({ p:=({ Ring:=s2059,A:=({ Rows:=s2060,Cols:=s2061,Start:=s2062,Col:=s2066,Val:=s2070 }:Rows),B:=({ Rows:=s2074,Cols:=s2075,Start:=s2076,Col:=s2080,Val:=s2084 }:Rows),Mask:=({ Rows:=s2088,Cols:=s2089,Start:=s2090,Col:=s2094,Val:=s2098 }:Rows),R:=s2102,C:=s2103,Room:=s2104 }:BI),stages:=s2105,workers:=s2109,boxes:=s2113 }:AC),s2116,s2117))) (s702,s703,s704,s705,s709,s713,s717,s718,s719,s723,s727,s731,s732,s733,s737,s741,s745,s746,s747,s748,s752,s756,s757,0,s759,s760))) (o0.p.Ring,o0.p.A.Rows,o0.p.A.Cols,o0.p.A.Start,o0.p.A.Col,o0.p.A.Val,o0.p.B.Rows,o0.p.B.Cols,o0.p.B.Start,o0.p.B.Col,o0.p.B.Val,o0.p.Mask.Rows,o0.p.Mask.Cols,o0.p.Mask.Start,o0.p.Mask.Col,o0.p.Mask.Val,o0.p.R,o0.p.C,o0.p.Room,o0.stages,o0.workers,o0.boxes,false,0,o1,o2)
def HI (o0:AC) (o1:List (Nat×AA)) (o2:List (Nat×AF)) (a0:NP) (Q:(Bool×AC×(List (Nat×AA))×(List (Nat×AF)))→Prop):Prop:=
  TJ a0 fun r49=>AR (!r49) (Q (false,o0,o1,o2)) (AR (a0.Kind==1) (DE o0 o1 o2 a0.A fun O=>Q (O.1,O.2.1,O.2.2.1,O.2.2.2)) (AR (a0.Kind==2) (DF o0 o1 o2 a0.A a0.B a0.K fun h=>Q (h.1,h.2.1,h.2.2.1,h.2.2.2)) (AR (a0.Kind==3) (CJ o0 o1 o2 a0.A a0.B (fun U=>HR a0.K fun Z=>Q (Z==0,U.1,o1,U.2)) (fun J=>MO J.2.2 J.1 a0.K fun V=>Q (V.1==0,J.2.1,o1,V.2))) (AR (a0.Kind==4) (CJ o0 o1 o2 a0.A a0.B (fun Y=>KB a0.K fun r341=>Q (r341==0,Y.1,o1,Y.2)) (fun G=>PJ G.2.2 G.1 a0.K fun W=>Q (W.1==0,G.2.1,o1,W.2))) (EG o0 o1 o2 fun D=>Q (D.1,D.2.1,D.2.2.1,D.2.2.2))))))
def GU (o1:List (Nat×AA)) (o2:AC) (a0:Option Nat) (Q:Bool→Prop):Prop:=
  GL o1 a0 fun b41 h=>Q (decide (h.at_<(o2.stages.length:Int)))
def CR (o1:List (Nat×AA)) (o2:AC) (a0:List (Option Nat)) (Q:Int→Prop):Prop:=
  BB (fun (D:Int) (h:Int→Prop)=>AR (decide (D<(a0.length:Int))) (AY a0 D fun J=>GU o1 o2 J fun G=>AR G (Q D) (h (AJ (D+1)))) (Q (-1))) 0
def CK (o1:List (Nat×AA)) (o2:AC) (a0:List (Option Nat)) (Q:Bool→Prop):Prop:=
  CR o1 o2 a0 fun h=>Q (decide (0≤h))
def DL (o0:AC) (o1:List (Nat×AA)) (Q:Bool→Prop):Prop:=
  CK o1 o0 o0.workers fun h=>Q (!h)
def EP (o0:AC) (o1:List (Nat×AA)) (Q:(List AM)→Prop):Prop:=
  BB (fun (s:(List AM)×Int) (D:((List AM)×Int)→Prop)=>match s with | (s530,s534)=>AR (decide (s534<(o0.workers.length:Int))) (AY o0.workers s534 fun W=>GL o1 W fun Y J=>GC o0.p.A.Rows o0.p.R J.i fun O=>GC o0.p.B.Cols o0.p.C J.j fun U=>GL o1 (some Y) fun _ V=>BB (fun (s:(List AM)×Int) (G:((List AM)×Int)→Prop)=>match s with | (s738,s742)=>AR (decide (s742<(V.has.length:Int))) (AY V.has s742 fun h=>FX 32 s738 ([({ Row:=AJ (h.Row+O),Col:=AJ (h.Col+U),Val:=h.Val }:AM)]) fun _=>G ((s738++([({ Row:=AJ (h.Row+O),Col:=AJ (h.Col+U),Val:=h.Val }:AM)])),AJ (s742+1))) (D (s738,AJ (s534+1)))) (s530,0)) (tZ GR s530 fun Z=>Q Z)) (([]:List AM),0)
def EH (o0:AC) (o1:List (Nat×AA)) (Q:(Rows×Int)→Prop):Prop:=
  EP o0 o1 fun D=>ZJ o0.p.Ring o0.p.A.Rows o0.p.B.Cols D fun h=>Q (h.1,h.2)
def SR (a0:BI) (a1:List NP) (a2:Int) (Q:(Rows×Bool×Int)→Prop):Prop:=
  PY ([]:List (Nat×AA)) ([]:List (Nat×AF)) a0 (fun J=>AR (J.1 != 0) (Q (({ Rows:=0,Cols:=0,Start:=([]:List Int),Col:=([]:List Int),Val:=([]:List Int) }:Rows),false,J.1)) (AR (decide (1048576<(a1.length:Int))) (Q (({ Rows:=0,Cols:=0,Start:=([]:List Int),Col:=([]:List Int),Val:=([]:List Int) }:Rows),false,5)) (BX a1 fun r228=>AR r228 (Q (({ Rows:=0,Cols:=0,Start:=([]:List Int),Col:=([]:List Int),Val:=([]:List Int) }:Rows),false,8)) (AR (decide (a2<0)) (Q (({ Rows:=0,Cols:=0,Start:=([]:List Int),Col:=([]:List Int),Val:=([]:List Int) }:Rows),false,3)) (AR (decide (1048576<a2)) (Q (({ Rows:=0,Cols:=0,Start:=([]:List Int),Col:=([]:List Int),Val:=([]:List Int) }:Rows),false,3)) (BB (fun (W:Int) (V:Int→Prop)=>AR (decide (W<(a1.length:Int))) (AY a1 W fun x358=>QP J.2 ([]:List (Nat×AF)) x358 fun r374=>V (AJ (W+1))) (FM (fun (k457:Unit→Prop)=>BB (fun (_:Unit) (next475:Unit→Prop)=>AR (decide (0<a2)) (HW J.2 fun r487=>AR (!r487) (LS J.2 ([]:List (Nat×AF))) (k457 ())) (k457 ())) ()) fun _=>LU J.2 fun r508=>HW J.2 fun r529=>Q (r508.1,r529,r508.2))) 0)))))) (fun G=>AR (G.1 != 0) (Q (({ Rows:=0,Cols:=0,Start:=([]:List Int),Col:=([]:List Int),Val:=([]:List Int) }:Rows),false,G.1)) (AR (decide (1048576<(a1.length:Int))) (Q (({ Rows:=0,Cols:=0,Start:=([]:List Int),Col:=([]:List Int),Val:=([]:List Int) }:Rows),false,5)) (BX a1 fun r570=>AR r570 (Q (({ Rows:=0,Cols:=0,Start:=([]:List Int),Col:=([]:List Int),Val:=([]:List Int) }:Rows),false,8)) (AR (decide (a2<0)) (Q (({ Rows:=0,Cols:=0,Start:=([]:List Int),Col:=([]:List Int),Val:=([]:List Int) }:Rows),false,3)) (AR (decide (1048576<a2)) (Q (({ Rows:=0,Cols:=0,Start:=([]:List Int),Col:=([]:List Int),Val:=([]:List Int) }:Rows),false,3)) (BB (fun (s:Int×Int×Int×(List Int)×(List Int)×(List Int)×Int×Int×(List Int)×(List Int)×(List Int)×Int×Int×(List Int)×(List Int)×(List Int)×Int×Int×Int×(List BJ)×(List (Option Nat))×(List ((Int×Int)×(Option Nat)))×Int×(List (Nat×AA))×(List (Nat×AF))) (U:(Int×Int×Int×(List Int)×(List Int)×(List Int)×Int×Int×(List Int)×(List Int)×(List Int)×Int×Int×(List Int)×(List Int)×(List Int)×Int×Int×Int×(List BJ)×(List (Option Nat))×(List ((Int×Int)×(Option Nat)))×Int×(List (Nat×AA))×(List (Nat×AF)))→Prop)=>match s with | (s1286,s1287,s1288,s1289,s1293,s1297,s1301,s1302,s1303,s1307,s1311,s1315,s1316,s1317,s1321,s1325,s1329,s1330,s1331,s1332,s1336,s1340,s1341,s1342,s1343)=>AR (decide (s1341<(a1.length:Int))) (AY a1 s1341 fun x1351=>HI ({ p:=({ Ring:=s1286,A:=({ Rows:=s1287,Cols:=s1288,Start:=s1289,Col:=s1293,Val:=s1297 }:Rows),B:=({ Rows:=s1301,Cols:=s1302,Start:=s1303,Col:=s1307,Val:=s1311 }:Rows),Mask:=({ Rows:=s1315,Cols:=s1316,Start:=s1317,Col:=s1321,Val:=s1325 }:Rows),R:=s1329,C:=s1330,Room:=s1331 }:BI),stages:=s1332,workers:=s1336,boxes:=s1340 }:AC) s1342 s1343 x1351 fun D=>U (D.2.1.p.Ring,D.2.1.p.A.Rows,D.2.1.p.A.Cols,D.2.1.p.A.Start,D.2.1.p.A.Col,D.2.1.p.A.Val,D.2.1.p.B.Rows,D.2.1.p.B.Cols,D.2.1.p.B.Start,D.2.1.p.B.Col,D.2.1.p.B.Val,D.2.1.p.Mask.Rows,D.2.1.p.Mask.Cols,D.2.1.p.Mask.Start,D.2.1.p.Mask.Col,D.2.1.p.Mask.Val,D.2.1.p.R,D.2.1.p.C,D.2.1.p.Room,D.2.1.stages,D.2.1.workers,D.2.1.boxes,AJ (s1341+1),D.2.2.1,D.2.2.2)) (FM (fun (k2302:(Int×Int×Int×(List Int)×(List Int)×(List Int)×Int×Int×(List Int)×(List Int)×(List Int)×Int×Int×(List Int)×(List Int)×(List Int)×Int×Int×Int×(List BJ)×(List (Option Nat))×(List ((Int×Int)×(Option Nat)))×(List (Nat×AA))×(List (Nat×AF)))→Prop)=>BB (fun (s:Int×Int×Int×(List Int)×(List Int)×(List Int)×Int×Int×(List Int)×(List Int)×(List Int)×Int×Int×(List Int)×(List Int)×(List Int)×Int×Int×Int×(List BJ)×(List (Option Nat))×(List ((Int×Int)×(Option Nat)))×Int×(List (Nat×AA))×(List (Nat×AF))) (O:(Int×Int×Int×(List Int)×(List Int)×(List Int)×Int×Int×(List Int)×(List Int)×(List Int)×Int×Int×(List Int)×(List Int)×(List Int)×Int×Int×Int×(List BJ)×(List (Option Nat))×(List ((Int×Int)×(Option Nat)))×Int×(List (Nat×AA))×(List (Nat×AF)))→Prop)=>match s with | (s2597,s2598,s2599,s2600,s2604,s2608,s2612,s2613,s2614,s2618,s2622,s2626,s2627,s2628,s2632,s2636,s2640,s2641,s2642,s2643,s2647,s2651,s2652,s2653,s2654)=>AR (decide (s2652<a2)) (DL ({ p:=({ Ring:=s2597,A:=({ Rows:=s2598,Cols:=s2599,Start:=s2600,Col:=s2604,Val:=s2608 }:Rows),B:=({ Rows:=s2612,Cols:=s2613,Start:=s2614,Col:=s2618,Val:=s2622 }:Rows),Mask:=({ Rows:=s2626,Cols:=s2627,Start:=s2628,Col:=s2632,Val:=s2636 }:Rows),R:=s2640,C:=s2641,Room:=s2642 }:BI),stages:=s2643,workers:=s2647,boxes:=s2651 }:AC) s2653 fun r2667=>AR (!r2667) (EG ({ p:=({ Ring:=s2597,A:=({ Rows:=s2598,Cols:=s2599,Start:=s2600,Col:=s2604,Val:=s2608 }:Rows),B:=({ Rows:=s2612,Cols:=s2613,Start:=s2614,Col:=s2618,Val:=s2622 }:Rows),Mask:=({ Rows:=s2626,Cols:=s2627,Start:=s2628,Col:=s2632,Val:=s2636 }:Rows),R:=s2640,C:=s2641,Room:=s2642 }:BI),stages:=s2643,workers:=s2647,boxes:=s2651 }:AC) s2653 s2654 fun h=>O (h.2.1.p.Ring,h.2.1.p.A.Rows,h.2.1.p.A.Cols,h.2.1.p.A.Start,h.2.1.p.A.Col,h.2.1.p.A.Val,h.2.1.p.B.Rows,h.2.1.p.B.Cols,h.2.1.p.B.Start,h.2.1.p.B.Col,h.2.1.p.B.Val,h.2.1.p.Mask.Rows,h.2.1.p.Mask.Cols,h.2.1.p.Mask.Start,h.2.1.p.Mask.Col,h.2.1.p.Mask.Val,h.2.1.p.R,h.2.1.p.C,h.2.1.p.Room,h.2.1.stages,h.2.1.workers,h.2.1.boxes,AJ (s2652+1),h.2.2.1,h.2.2.2)) (k2302 (s2597,s2598,s2599,s2600,s2604,s2608,s2612,s2613,s2614,s2618,s2622,s2626,s2627,s2628,s2632,s2636,s2640,s2641,s2642,s2643,s2647,s2651,s2653,s2654))) (k2302 (s2597,s2598,s2599,s2600,s2604,s2608,s2612,s2613,s2614,s2618,s2622,s2626,s2627,s2628,s2632,s2636,s2640,s2641,s2642,s2643,s2647,s2651,s2653,s2654))) (s1286,s1287,s1288,s1289,s1293,s1297,s1301,s1302,s1303,s1307,s1311,s1315,s1316,s1317,s1321,s1325,s1329,s1330,s1331,s1332,s1336,s1340,0,s1342,s1343)) fun (Z,s2246,s2247,s2248,s2252,s2256,s2260,s2261,s2262,s2266,s2270,s2274,s2275,s2276,s2280,s2284,s2288,s2289,s2290,s2291,s2295,s2299,s2300,s2301)=>EH ({ p:=({ Ring:=Z,A:=({ Rows:=s2246,Cols:=s2247,Start:=s2248,Col:=s2252,Val:=s2256 }:Rows),B:=({ Rows:=s2260,Cols:=s2261,Start:=s2262,Col:=s2266,Val:=s2270 }:Rows),Mask:=({ Rows:=s2274,Cols:=s2275,Start:=s2276,Col:=s2280,Val:=s2284 }:Rows),R:=s2288,C:=s2289,Room:=s2290 }:BI),stages:=s2291,workers:=s2295,boxes:=s2299 }:AC) s2300 fun Y=>DL ({ p:=({ Ring:=Z,A:=({ Rows:=s2246,Cols:=s2247,Start:=s2248,Col:=s2252,Val:=s2256 }:Rows),B:=({ Rows:=s2260,Cols:=s2261,Start:=s2262,Col:=s2266,Val:=s2270 }:Rows),Mask:=({ Rows:=s2274,Cols:=s2275,Start:=s2276,Col:=s2280,Val:=s2284 }:Rows),R:=s2288,C:=s2289,Room:=s2290 }:BI),stages:=s2291,workers:=s2295,boxes:=s2299 }:AC) s2300 fun r2752=>Q (Y.1,r2752,Y.2))) (G.2.2.p.Ring,G.2.2.p.A.Rows,G.2.2.p.A.Cols,G.2.2.p.A.Start,G.2.2.p.A.Col,G.2.2.p.A.Val,G.2.2.p.B.Rows,G.2.2.p.B.Cols,G.2.2.p.B.Start,G.2.2.p.B.Col,G.2.2.p.B.Val,G.2.2.p.Mask.Rows,G.2.2.p.Mask.Cols,G.2.2.p.Mask.Start,G.2.2.p.Mask.Col,G.2.2.p.Mask.Val,G.2.2.p.R,G.2.2.p.C,G.2.2.p.Room,G.2.2.stages,G.2.2.workers,G.2.2.boxes,0,G.2.1,([]:List (Nat×AF)))))))))
def RY (a0:AK) (a1:Int) (a2:Int) (Q:(Int×Int)→Prop):Prop:=
  HG a0 a1 a2 fun D=>AR (D.2 != 0) (Q (0,D.2)) (QO D.1 fun J=>SR D.1 ([]:List NP) J fun h=>AR (h.2.2 != 0) (Q (0,h.2.2)) (TR 5 h.1 fun G=>Q (G.1,G.2)))
def aQ (o0:Nat) (o1:List (Int×Int×Int)) (o2:AK) (Y:Nat→(List (Int×Int×Int))→(Int×Int×Int)→((Bool×Nat×(List (Int×Int×Int)))→Prop)→Prop) (Q:(Nat×(List (Int×Int×Int)))→Prop):Prop:=
  HF o2 fun r26=>AR (r26 != 0) (Q (o0,o1)) (ZM o2 fun r41=>BB (fun (s:(List (Int×Int×Int))×Int×Nat) (J:((List (Int×Int×Int))×Int×Nat)→Prop)=>match s with | (s1661,s1665,s1666)=>AR (decide (s1665<(r41.length:Int))) (AY r41 s1665 fun W=>JA W fun U=>BB (fun (s:(List (Int×Int×Int))×Int×Nat) (G:((List (Int×Int×Int))×Int×Nat)→Prop)=>match s with | (s2217,s2221,s2222)=>AR (decide (s2221<(U.length:Int))) (AY U s2221 fun V=>AY r41 V fun x2287=>PG W x2287 fun Z=>JA Z fun O=>BB (fun (s:(List (Int×Int×Int))×Int×Nat) (D:((List (Int×Int×Int))×Int×Nat)→Prop)=>match s with | (s2418,s2422,s2423)=>AR (decide (s2422<(O.length:Int))) (AY O s2422 fun x2442=>Y s2423 s2418 (s1665,V,x2442) fun h=>AR (!h.1) (Q (h.2.1,h.2.2)) (D (h.2.2,AJ (s2422+1),h.2.1))) (G (s2418,AJ (s2221+1),s2423))) (s2217,0,s2222)) (J (s2217,AJ (s1665+1),s2222))) (s1661,0,s1666)) (Q (s1666,s1661))) (o1,0,o0))
def HJ (o0:AK) (Q:(List (Int×Int×Int))→Prop):Prop:=
  aQ 0 ([]:List (Int×Int×Int)) o0 (fun (J:Nat) (h:List (Int×Int×Int)) (G:Int×Int×Int) (O:(Bool×Nat×(List (Int×Int×Int)))→Prop)=>eqP J 0 (FX 24 h ([G]) fun _=>O (true,0,(h++([G]))))) fun D=>eqP D.1 0 (Q D.2)
def LV (o0:AK) (Q:(List (Int×Int×Int))→Prop):Prop:=
  HJ o0 fun h=>Q h
def WG (a0:AK) (Q:(List (Int×Int×Int))→Prop):Prop:=
  VF a0 fun D=>LV D fun h=>Q h
def aR (o0:Nat) (o1:List Int) (o2:AK) (Y:Nat→(List Int)→(Int×Int×Int)→((Bool×Nat×(List Int))→Prop)→Prop) (Q:(Nat×(List Int))→Prop):Prop:=
  HF o2 fun r26=>AR (r26 != 0) (Q (o0,o1)) (ZM o2 fun r41=>BB (fun (s:(List Int)×Int×Nat) (J:((List Int)×Int×Nat)→Prop)=>match s with | (s1661,s1665,s1666)=>AR (decide (s1665<(r41.length:Int))) (AY r41 s1665 fun W=>JA W fun U=>BB (fun (s:(List Int)×Int×Nat) (G:((List Int)×Int×Nat)→Prop)=>match s with | (s2217,s2221,s2222)=>AR (decide (s2221<(U.length:Int))) (AY U s2221 fun V=>AY r41 V fun x2287=>PG W x2287 fun Z=>JA Z fun O=>BB (fun (s:(List Int)×Int×Nat) (D:((List Int)×Int×Nat)→Prop)=>match s with | (s2418,s2422,s2423)=>AR (decide (s2422<(O.length:Int))) (AY O s2422 fun x2442=>Y s2423 s2418 (s1665,V,x2442) fun h=>AR (!h.1) (Q (h.2.1,h.2.2)) (D (h.2.2,AJ (s2422+1),h.2.1))) (G (s2418,AJ (s2221+1),s2423))) (s2217,0,s2222)) (J (s2217,AJ (s1665+1),s2222))) (s1661,0,s1666)) (Q (s1666,s1661))) (o1,0,o0))
def YE (a0:AK) (Q:(List Int)→Prop):Prop:=
  HF a0 fun Y=>AR (Y != 0) (Q ([]:List Int)) (mkP 8 a0.N 0 fun _=>VF a0 fun W=>aR 0 (List.replicate a0.N.toNat 0) W (fun (V:Nat) (D:List Int) (h:Int×Int×Int) (Qy:(Bool×Nat×(List Int))→Prop)=>eqP V 0 (AY D h.1 fun G=>AY D h.1 fun x136=>AY (D.set h.1.toNat (AJ (G+1))) h.2.1 fun J=>AY (D.set h.1.toNat (AJ (G+1))) h.2.1 fun Z=>AY ((D.set h.1.toNat (AJ (G+1))).set h.2.1.toNat (AJ (J+1))) h.2.2 fun U=>AY ((D.set h.1.toNat (AJ (G+1))).set h.2.1.toNat (AJ (J+1))) h.2.2 fun x148=>Qy (true,0,(((D.set h.1.toNat (AJ (G+1))).set h.2.1.toNat (AJ (J+1))).set h.2.2.toNat (AJ (U+1)))))) fun O=>eqP O.1 0 (Q O.2))
def MP  (Q:Bool→Prop):Prop:=
  RY ({ N:=4,Edges:=([({ From:=0,To:=1,W:=9 }:AL),({ From:=2,To:=1,W:=0 }:AL),({ From:=0,To:=2,W:=1 }:AL),({ From:=3,To:=3,W:=1 }:AL)]:List AL) }:AK) 2 2 fun U=>RY ({ N:=4,Edges:=([({ From:=0,To:=1,W:=9 }:AL),({ From:=2,To:=1,W:=0 }:AL),({ From:=0,To:=2,W:=1 }:AL),({ From:=3,To:=3,W:=1 }:AL)]:List AL) }:AK) 0 1 fun V=>HG ({ N:=4,Edges:=([({ From:=0,To:=1,W:=9 }:AL),({ From:=2,To:=1,W:=0 }:AL),({ From:=0,To:=2,W:=1 }:AL),({ From:=3,To:=3,W:=1 }:AL)]:List AL) }:AK) 1 2 fun h=>AR (U.1==1) (AR (U.2==0) (AR (V.2==3) (AR (h.2==0) (AR ((h.1.A.Val.length:Int)==3) (AR (h.1.Ring==5) (WG ({ N:=4,Edges:=([({ From:=0,To:=1,W:=9 }:AL),({ From:=2,To:=1,W:=0 }:AL),({ From:=0,To:=2,W:=1 }:AL),({ From:=3,To:=3,W:=1 }:AL)]:List AL) }:AK) fun J=>TS J ([(0,1,2)]:List (Int×Int×Int)) fun O=>AR O (YE ({ N:=4,Edges:=([({ From:=0,To:=1,W:=9 }:AL),({ From:=2,To:=1,W:=0 }:AL),({ From:=0,To:=2,W:=1 }:AL),({ From:=3,To:=3,W:=1 }:AL)]:List AL) }:AK) fun G=>FB G ([1,1,1,0]:List Int) fun D=>Q D) (Q false)) (Q false)) (Q false)) (Q false)) (Q false)) (Q false)) (Q false)
def TV (a0:AK) (a1:Int) (a2:Int) (Q:Bool→Prop):Prop:=
  FM (fun (J:Unit→Prop)=>AR (decide (40<(a0.Edges.length:Int))) (AR (decide ((a0.Edges.length:Int)≤65536)) (MP  fun r47=>Q r47) (AR (decide (30<a0.N)) (AR (decide (a0.N≤4096)) (MP  fun r53=>Q r53) (J ())) (J ()))) (AR (decide (30<a0.N)) (AR (decide (a0.N≤4096)) (MP  fun r59=>Q r59) (J ())) (J ()))) fun _=>HG a0 a1 a2 fun D=>JL a0 a1 a2 fun h=>FM (fun (G:Bool→Prop)=>AR (D.1.Ring==h.1.Ring) (IX D.1.A h.1.A fun Z=>AR Z (IX D.1.B h.1.B fun r257=>AR r257 (IX D.1.Mask h.1.Mask fun r262=>AR r262 (AR (D.1.R==h.1.R) (AR (D.1.C==h.1.C) (G (D.1.Room==h.1.Room)) (G false)) (G false)) (G false)) (G false)) (G false)) (G false)) fun s249=>RY a0 a1 a2 fun r276=>MP  fun r280=>AR r280 (AR (D.2==h.2) (AR s249 (AR (r276.2==h.2) (WG a0 fun V=>MN a0 fun Y=>TS V Y fun r312=>AR r312 (YE a0 fun U=>WF a0 fun O=>FB U O fun W=>Q W) (Q false)) (Q false)) (Q false)) (Q false)) (Q false)
abbrev uE (h:BI) (Z:Option Addr) (q1:Nat) (q2:Option Addr) (q3:Nat) (q4:Option Addr) (q5:Nat) (q6:Option Addr) (q7:Nat) (q8:Option Addr) (q9:Nat) (J:Option Addr) (O:Nat) (W:Option Addr) (U:Nat) (V:Option Addr) (Y:Nat) (G:Option Addr) (D:Nat):Array Value:=#[.int .i64 h.Ring,.int .i64 h.A.Rows,.int .i64 h.A.Cols,.slice Z h.A.Start.length q1,.slice q2 h.A.Col.length q3,.slice q4 h.A.Val.length q5,.int .i64 h.B.Rows,.int .i64 h.B.Cols,.slice q6 h.B.Start.length q7,.slice q8 h.B.Col.length q9,.slice J h.B.Val.length O,.int .i64 h.Mask.Rows,.int .i64 h.Mask.Cols,.slice W h.Mask.Start.length U,.slice V h.Mask.Col.length Y,.slice G h.Mask.Val.length D,.int .i64 h.R,.int .i64 h.C,.int .i64 h.Room]
abbrev AZ (h:AC) (q0:Option Addr) (q1:Nat) (q2:Option Addr) (q3:Nat) (q4:Option Addr) (q5:Nat) (q6:Option Addr) (q7:Nat) (q8:Option Addr) (q9:Nat) (J:Option Addr) (U:Nat) (q12:Option Addr) (V:Nat) (Y:Option Addr) (q15:Nat) (G:Option Addr) (D:Nat) (O:Option Addr) (q19:Nat) (q20:Option Addr) (Z:Nat) (W:Nat):Array Value:=#[.int .i64 h.p.Ring,.int .i64 h.p.A.Rows,.int .i64 h.p.A.Cols,.slice q0 h.p.A.Start.length q1,.slice q2 h.p.A.Col.length q3,.slice q4 h.p.A.Val.length q5,.int .i64 h.p.B.Rows,.int .i64 h.p.B.Cols,.slice q6 h.p.B.Start.length q7,.slice q8 h.p.B.Col.length q9,.slice J h.p.B.Val.length U,.int .i64 h.p.Mask.Rows,.int .i64 h.p.Mask.Cols,.slice q12 h.p.Mask.Start.length V,.slice Y h.p.Mask.Col.length q15,.slice G h.p.Mask.Val.length D,.int .i64 h.p.R,.int .i64 h.p.C,.int .i64 h.p.Room,.slice O h.stages.length q19,.slice q20 h.workers.length Z,.map (some W)]
abbrev PZ (h:AA) (G:Option Addr) (O:Nat) (Y:Option Addr) (J:Nat) (q4:Option Addr) (q5:Nat) (Z:Option Addr) (U:Nat) (V:Nat) (W:Option Addr) (D:Nat):Array Value:=#[.int .i64 h.i,.int .i64 h.j,.int .i64 h.mask.Rows,.int .i64 h.mask.Cols,.slice G h.mask.Start.length O,.slice Y h.mask.Col.length J,.slice q4 h.mask.Val.length q5,.slice Z h.out.length U,.map (some V),.int .i64 h.at_,.slice W h.has.length D]
end Go.Proofs.YtbohadngdkjljaaGreat
