/- Types, and pure functions as the Go text has them (printed by a program of ours). -/
import Derived.Test.YtbohadngdkjljaaGreatFwU
import Derived.Test.YtbohadngdkjljaaGreatFwK
namespace Go.Proofs.YtbohadngdkjljaaGreat
open Go Go.Fw
set_option linter.unusedVariables false
set_option linter.unusedSimpArgs false
set_option maxRecDepth 8000
set_option maxHeartbeats 1000000
abbrev AE:EL Int:=JI 1 (fun x=>[.int .i64 x]) (fun _=>⟨rfl,rfl⟩)
abbrev SB:EL Int:=JI 1 (fun x=>[.int .u64 x]) (fun _=>⟨rfl,rfl⟩)
abbrev eU8:EL Int:=JI 1 (fun x=>[.int .u8 x]) (fun _=>⟨rfl,rfl⟩)
abbrev eB:EL Bool:=JI 1 (fun x=>[.bool x]) (fun _=>⟨rfl,rfl⟩)
structure AP where
  Hi:Int
  Lo:Int
deriving DecidableEq,Inhabited
def HI (x:AP):List Value:=[.int .i64 x.Hi,.int .u64 x.Lo]
abbrev MG:EL AP:=JI 2 HI (fun _=>⟨rfl,rfl⟩)
structure AM where
  From:Int
  To:Int
  W:Int
deriving DecidableEq,Inhabited
def JQ (x:AM):List Value:=[.int .i64 x.From,.int .i64 x.To,.int .i64 x.W]
abbrev CB:EL AM:=JI 3 JQ (fun _=>⟨rfl,rfl⟩)
structure AL where
  N:Int
  Edges:List AM
deriving DecidableEq,Inhabited
def AgA:EL AL where
  sz:=2
  rep I cs x:=∃ a1 c1,cs=[.int .i64 x.N,.slice a1 x.Edges.length c1]∧RepSl CB I a1 c1 x.Edges
  mono hle:=fun ⟨a1,c1,e,h0⟩=>⟨a1,c1,e,h0.mono hle⟩
  len:=fun ⟨a1,c1,e,_⟩=>by rw [e]; rfl
  one:=fun ⟨a1,c1,e,_⟩=>by rw [e]; rfl
structure Rows where
  Rows:Int
  Cols:Int
  Start:List Int
  Col:List Int
  Val:List Int
deriving DecidableEq,Inhabited
def rC:EL Rows where
  sz:=5
  rep I cs x:=∃ a2 c2 a3 c3 a4 c4,cs=[.int .i64 x.Rows,.int .i64 x.Cols,.slice a2 x.Start.length c2,.slice a3 x.Col.length c3,.slice a4 x.Val.length c4]∧RepSl AE I a2 c2 x.Start∧RepSl AE I a3 c3 x.Col∧RepSl AE I a4 c4 x.Val
  mono hle:=fun ⟨a2,c2,a3,c3,a4,c4,e,h0,h1,h2⟩=>⟨a2,c2,a3,c3,a4,c4,e,h0.mono hle,h1.mono hle,h2.mono hle⟩
  len:=fun ⟨a2,c2,a3,c3,a4,c4,e,_,_,_⟩=>by rw [e]; rfl
  one:=fun ⟨a2,c2,a3,c3,a4,c4,e,_,_,_⟩=>by rw [e]; rfl
structure AD where
  Row:Int
  Col:Int
  Val:Int
deriving DecidableEq,Inhabited
def Y9 (x:AD):List Value:=[.int .i64 x.Row,.int .i64 x.Col,.int .i64 x.Val]
abbrev BP:EL AD:=JI 3 Y9 (fun _=>⟨rfl,rfl⟩)
structure BQ where
  Ring:Int
  A:Rows
  B:Rows
  Mask:Rows
  R:Int
  C:Int
  Room:Int
deriving DecidableEq,Inhabited
structure BC where
  From:Int
  To:Int
  Row:Int
  Col:Int
deriving DecidableEq,Inhabited
def iL (x:BC):List Value:=[.int .i64 x.From,.int .i64 x.To,.int .i64 x.Row,.int .i64 x.Col]
abbrev BX:EL BC:=JI 4 iL (fun _=>⟨rfl,rfl⟩)
structure DS where
  At:Int
  Val:Int
deriving DecidableEq,Inhabited
def AeE (x:DS):List Value:=[.int .i64 x.At,.int .i64 x.Val]
abbrev QG:EL DS:=JI 2 AeE (fun _=>⟨rfl,rfl⟩)
structure MY where
  Kind:Int
  A:Int
  B:Int
  K:Int
deriving DecidableEq,Inhabited
def aY (x:MY):List Value:=[.int .i64 x.Kind,.int .i64 x.A,.int .i64 x.B,.int .i64 x.K]
abbrev AbX:EL MY:=JI 4 aY (fun _=>⟨rfl,rfl⟩)
structure dG where
  At:Int
  Val:AP
deriving DecidableEq,Inhabited
def AgB (x:dG):List Value:=[.int .i64 x.At,.int .i64 x.Val.Hi,.int .u64 x.Val.Lo]
abbrev dP:EL dG:=JI 3 AgB (fun _=>⟨rfl,rfl⟩)
structure Vec where
  N:Int
  Items:List DS
deriving DecidableEq,Inhabited
structure BL where
  Kind:Int
  From:Int
  To:Int
  Seq:Int
  Round:Int
  Vec:Vec
  Sums:List dG
  Triples:List AD
  N:Int
  Over:Bool
deriving DecidableEq,Inhabited
def DL:EL BL where
  sz:=11
  rep I cs x:=∃ a6 c6 a7 c7 a8 c8,cs=[.int .i64 x.Kind,.int .i64 x.From,.int .i64 x.To,.int .i64 x.Seq,.int .i64 x.Round,.int .i64 x.Vec.N,.slice a6 x.Vec.Items.length c6,.slice a7 x.Sums.length c7,.slice a8 x.Triples.length c8,.int .i64 x.N,.bool x.Over]∧RepSl QG I a6 c6 x.Vec.Items∧RepSl dP I a7 c7 x.Sums∧RepSl BP I a8 c8 x.Triples
  mono hle:=fun ⟨a6,c6,a7,c7,a8,c8,e,h0,h1,h2⟩=>⟨a6,c6,a7,c7,a8,c8,e,h0.mono hle,h1.mono hle,h2.mono hle⟩
  len:=fun ⟨a6,c6,a7,c7,a8,c8,e,_,_,_⟩=>by rw [e]; rfl
  one:=fun ⟨a6,c6,a7,c7,a8,c8,e,_,_,_⟩=>by rw [e]; rfl
structure AK where
  Row:Int
  Col:Int
  Val:AP
deriving DecidableEq,Inhabited
def OW (x:AK):List Value:=[.int .i64 x.Row,.int .i64 x.Col,.int .i64 x.Val.Hi,.int .u64 x.Val.Lo]
abbrev CF:EL AK:=JI 4 OW (fun _=>⟨rfl,rfl⟩)
structure AY where
  kind:Int
  stage:Int
deriving DecidableEq,Inhabited
def UU (x:AY):List Value:=[.int .i64 x.kind,.int .i64 x.stage]
abbrev EY (x:AY):Value:=.agg (UU x).toArray
structure AA where
  i:Int
  j:Int
  mask:Rows
  out:List BL
  parts:List (AY×(List AD))
  at_:Int
  has:List AK
deriving DecidableEq,Inhabited
structure AF where
  room:Int
  row:List Int
  by_:List (Int×BL)
  often:List (Int×Int)
  sent:Int
  taken:Int
deriving DecidableEq,Inhabited
structure AB where
  p:BQ
  stages:List BC
  workers:List (Option Nat)
  boxes:List ((Int×Int)×(Option Nat))
deriving DecidableEq,Inhabited
structure KB where
  G:AL
  V:Int
  R:Int
  C:Int
deriving DecidableEq,Inhabited
def rD:EL KB where
  sz:=5
  rep I cs x:=∃ a1 c1,cs=[.int .i64 x.G.N,.slice a1 x.G.Edges.length c1,.int .i64 x.V,.int .u8 x.R,.int .u8 x.C]∧RepSl CB I a1 c1 x.G.Edges
  mono hle:=fun ⟨a1,c1,e,h0⟩=>⟨a1,c1,e,h0.mono hle⟩
  len:=fun ⟨a1,c1,e,_⟩=>by rw [e]; rfl
  one:=fun ⟨a1,c1,e,_⟩=>by rw [e]; rfl
def AG:BoxTy AA where
  A:=Option Addr×Nat×Option Addr×Nat×Option Addr×Nat×Option Addr×Nat×Nat×Option Addr×Nat
  fact I a x:=RepSl AE I (a.1) (a.2.1) x.mask.Start∧RepSl AE I (a.2.2.1) (a.2.2.2.1) x.mask.Col∧RepSl AE I (a.2.2.2.2.1) (a.2.2.2.2.2.1) x.mask.Val∧RepSl DL I (a.2.2.2.2.2.2.1) (a.2.2.2.2.2.2.2.1) x.out∧RepSl CF I (a.2.2.2.2.2.2.2.2.2.1) (a.2.2.2.2.2.2.2.2.2.2) x.has
  mono:=fun h ⟨h0,h1,h2,h3,h4⟩=>⟨h0.mono h,h1.mono h,h2.mono h,h3.mono h,h4.mono h⟩
  obj a x:=.cells #[.int .i64 x.i,.int .i64 x.j,.int .i64 x.mask.Rows,.int .i64 x.mask.Cols,.slice (a.1) x.mask.Start.length (a.2.1),.slice (a.2.2.1) x.mask.Col.length (a.2.2.2.1),.slice (a.2.2.2.2.1) x.mask.Val.length (a.2.2.2.2.2.1),.slice (a.2.2.2.2.2.2.1) x.out.length (a.2.2.2.2.2.2.2.1),.map (some (a.2.2.2.2.2.2.2.2.1)),.int .i64 x.at_,.slice (a.2.2.2.2.2.2.2.2.2.1) x.has.length (a.2.2.2.2.2.2.2.2.2.2)] 127 (0,0)
  more a x:=[OwnMap EY (MR BP) false (a.2.2.2.2.2.2.2.2.1) x.parts]
def AZ:BoxTy AF where
  A:=Option Addr×Nat×Nat×Nat
  fact I a x:=True
  mono:=fun _ _=>trivial
  obj a x:=.cells #[.int .i64 x.room,.slice (a.1) x.row.length (a.2.1),.map (some (a.2.2.1)),.map (some (a.2.2.2)),.int .i64 x.sent,.int .i64 x.taken] 213 (0,0)
  more a x:=[OwnSl AE 3 (a.1) (a.2.1) x.row,OwnMap (Value.int .i64) DL true (a.2.2.1) x.by_,OwnMap (Value.int .i64) AE false (a.2.2.2) x.often]
def IL (a0:Int) (a1:Int) (Q:Int→Prop):Prop:=
  AQ (decide (a1<1)) (Q 0) (AQ (decide (a0<0)) (Q 0) (nzP a1 <| Q (a0.tmod a1)))
def UD (a0:AL) (Q:AL→Prop):Prop:=
  IL a0.N 24 fun r21=>BD (fun (s:(List AM)×Int) (next131:((List AM)×Int)→Prop)=>match s with | (s125,s129)=>AQ (decide (s129<(a0.Edges.length:Int))) (AQ (decide (s129<60)) (AQ (decide (0<r21)) (BA a0.Edges s129 fun x152=>IL x152.From r21 fun r162=>IL x152.To r21 fun r166=>HN 24 s125 ([({ From:=r162,To:=r166,W:=fU .i64 x152.W 2147483647 }:AM)]) fun _=>next131 ((s125++([({ From:=r162,To:=r166,W:=fU .i64 x152.W 2147483647 }:AM)])),AH (s129+1))) (Q ({ N:=r21,Edges:=s125 }:AL))) (Q ({ N:=r21,Edges:=s125 }:AL))) (Q ({ N:=r21,Edges:=s125 }:AL))) (([]:List AM),0)
def JD (a0:Int) (a1:Int) (Q:Bool→Prop):Prop:=
  AQ (decide (1≤a0)) (Q (decide (a0≤a1))) (Q false)
def MZ (a0:Int) (Q:Bool→Prop):Prop:=
  AQ (decide (0<a0)) (Q (decide (a0<6))) (Q false)
def GA (a0:Int) (a1:Int) (Q:Bool→Prop):Prop:=
  AQ (decide (0≤a0)) (Q (decide (a0≤a1))) (Q false)
def HF (a0:Int) (Q:Bool→Prop):Prop:=
  Q (a0 != a0)
def QQ (a0:Int) (a1:Int) (Q:Bool→Prop):Prop:=
  HF a0 fun r1=>AQ r1 (HF a1 fun r6=>AQ (!r6) (Q true) (Q (decide (a0<a1)))) (Q (decide (a0<a1)))
def FD (a0:List Int) (Q:Bool→Prop):Prop:=
  BD (fun (s57:Int) (next58:Int→Prop)=>AQ (decide (0<s57)) (BA a0 s57 fun x64=>BA a0 (AH (s57 - 1)) fun x73=>QQ x64 x73 fun r81=>AQ r81 (Q false) (next58 (AH (s57 - 1)))) (Q true)) (AH ((a0.length:Int) - 1))
def gP (a0:List Int) (a1:Int) (Q:Bool→Prop):Prop:=
  BD (fun (s68:Int) (next69:Int→Prop)=>AQ (decide (s68<(a0.length:Int))) (BA a0 s68 fun x84=>GA x84 (AH (a1 - 1)) fun r92=>AQ (!r92) (Q false) (AQ (decide (0<s68)) (BA a0 (AH (s68 - 1)) fun x99=>AQ (decide (x84≤x99)) (Q false) (next69 (AH (s68+1)))) (next69 (AH (s68+1))))) (Q true)) 0
def HP (a0:Rows) (Q:Bool→Prop):Prop:=
  GA a0.Rows 4096 fun r27=>AQ (!r27) (Q false) (GA a0.Cols 4096 fun r32=>AQ (!r32) (Q false) (AQ ((a0.Start.length:Int) != (AH (a0.Rows+1))) (Q false) (AQ ((a0.Val.length:Int) != (a0.Col.length:Int)) (Q false) (AQ (decide (65536<(a0.Col.length:Int))) (Q false) (BA a0.Start 0 fun x66=>AQ (x66 != 0) (Q false) (BA a0.Start a0.Rows fun x76=>AQ (x76 != (a0.Col.length:Int)) (Q false) (FD a0.Start fun r85=>AQ (!r85) (Q false) (BD (fun (s163:Int) (next164:Int→Prop)=>AQ (decide (s163<a0.Rows)) (BA a0.Start s163 fun x170=>BA a0.Start (AH (s163+1)) fun x179=>slP a0.Col x170 x179 fun _=>gP ((a0.Col.take x179.toNat).drop x170.toNat) a0.Cols fun r197=>AQ (!r197) (Q false) (next164 (AH (s163+1)))) (Q true)) 0))))))))
def PI (a0:BQ) (Q:Int→Prop):Prop:=
  MZ a0.Ring fun r36=>AQ (!r36) (Q 8) (FW (fun (k70:Bool→Prop)=>HP a0.A fun r71=>AQ (!r71) (k70 true) (HP a0.B fun r76=>AQ (!r76) (k70 true) (HP a0.Mask fun r81=>k70 (!r81)))) fun s69=>AQ s69 (Q 7) (FW (fun (k93:Bool→Prop)=>AQ (a0.A.Cols != a0.B.Rows) (k93 (a0.A.Cols != a0.B.Rows)) (AQ (a0.Mask.Rows != a0.A.Rows) (k93 (a0.Mask.Rows != a0.A.Rows)) (k93 (a0.Mask.Cols != a0.B.Cols)))) fun s92=>AQ s92 (Q 4) (JD a0.R 8 fun r104=>AQ (!r104) (Q 3) (JD a0.C 8 fun r109=>AQ (!r109) (Q 3) (JD a0.Room 64 fun r114=>AQ (!r114) (Q 3) (Q 0))))))
def OB (a0:Int) (Q:Bool→Prop):Prop:=
  AQ (decide (0<a0)) (Q (decide (a0≤8))) (Q false)
def SD (a0:Int) (a1:Int) (Q:Bool→Prop):Prop:=
  AQ (decide (0≤a0)) (AQ (decide (a0≤4096)) (OB a1 fun r3=>Q r3) (Q false)) (Q false)
def FN (a0:Int) (a1:Int) (a2:Int) (Q:Int→Prop):Prop:=
  SD a0 a1 fun r6=>AQ (!r6) (Q 0) (nzP a1 <| Q (AH ((AH ((if a1<(if 0 > a2 then 0 else a2) then a1 else (if 0 > a2 then 0 else a2))*a0)).tdiv a1)))
def aZ (a0:Int) (a1:Int) (a2:Int) (Q:Int→Prop):Prop:=
  SD a0 a1 fun r8=>AQ (!r8) (Q (-1)) (AQ (decide (a2<0)) (Q (-1)) (AQ (decide (a0≤a2)) (Q (-1)) (nzP a0 <| BD (fun (s30:Int) (next31:Int→Prop)=>FN a0 a1 (AH (s30+1)) fun r34=>AQ (decide (r34≤a2)) (next31 (AH (s30+1))) (Q s30)) (AH ((AH (a2*a1)).tdiv a0)))))
def UV (a0:Int) (a1:Int) (a2:Int) (Q:(Int×Int×Int)→Prop):Prop:=
  Q (a1,a0,a2)
def PY (o0:Nat) (o1:Int) (o2:Int) (o3:Int) (o4:List BC) (o5:Int) (o6:Int) (o7:Int) (o8:Int) (Y:Nat→Int→Int→Int→(List BC)→Int→Int→((Bool×Nat×(List BC)×Int)→Prop)→Prop) (Q:(Nat×(List BC)×Int)→Prop):Prop:=
  BD (fun (s:(List Int)×Int) (next145:((List Int)×Int)→Prop)=>match s with | (s139,s143)=>AQ (decide (s143<o6)) (FN o7 o6 (AH (s143+1)) fun r150=>HN 8 s139 ([r150]) fun _=>next145 ((s139++([r150])),AH (s143+1))) (BD (fun (s:(List Int)×Int) (next264:((List Int)×Int)→Prop)=>match s with | (s259,s263)=>AQ (decide (s263<o8)) (FN o7 o8 (AH (s263+1)) fun r270=>HN 8 s259 ([r270]) fun _=>next264 ((s259++([r270])),AH (s263+1))) (AbU s259 fun y296=>BD (fun (s:(List BC)×Int×Int×Int×Nat) (next396:((List BC)×Int×Int×Int×Nat)→Prop)=>match s with | (s388,s392,s393,s394,s395)=>AQ (decide (s394<(y296.length:Int))) (BA y296 s394 fun x409=>AQ (decide (s393<x409)) (Y s395 o1 o2 o3 s388 s392 x409 fun r420=>AQ (!r420.1) (Q (r420.2.1,r420.2.2.1,r420.2.2.2)) (next396 (r420.2.2.1,r420.2.2.2,x409,AH (s394+1),r420.2.1))) (next396 (s388,s392,x409,AH (s394+1),s395))) (Q (s395,s388,s392))) (o4,o5,0,0,o0))) (s139,0))) (([]:List Int),0)
def KY (a0:Int) (a1:Int) (a2:Int) (Q:(List BC)→Prop):Prop:=
  SD a0 a1 fun r26=>AQ (!r26) (Q ([]:List BC)) (SD a0 a2 fun r31=>AQ (!r31) (Q ([]:List BC)) (UV a0 a1 a2 fun r63=>PY 0 a0 a1 a2 ([]:List BC) 0 r63.1 r63.2.1 r63.2.2 (fun (y132:Nat) (y133:Int) (y135:Int) (y137:Int) (y139:List BC) (y145:Int) (x147:Int) (Qy:(Bool×Nat×(List BC)×Int)→Prop)=>eqP y132 0 (aZ y133 y135 y145 fun r148=>aZ y133 y137 y145 fun r152=>HN 32 y139 ([({ From:=y145,To:=x147,Row:=r148,Col:=r152 }:BC)]) fun _=>Qy (true,0,(y139++([({ From:=y145,To:=x147,Row:=r148,Col:=r152 }:BC)])),x147))) fun r166=>eqP r166.1 0 (Q r166.2.1)))
def VF (a0:Int) (a1:Int) (Q:Int→Prop):Prop:=
  OB a0 fun r1=>AQ (!r1) (Q (-1)) (AQ (decide (a1<0)) (Q (-1)) (AQ (decide ((AH (a0*8))≤a1)) (Q (-1)) (nzP a0 <| Q (AH (a1.tdiv a0)))))
def XC (a0:Int) (a1:Int) (Q:Int→Prop):Prop:=
  VF a0 a1 fun r1=>AQ (decide (r1<0)) (Q (-1)) (nzP a0 <| Q (a1.tmod a0))
def SE (a0:Int) (Q:Bool→Prop):Prop:=
  AQ (decide (1≤a0)) (Q (decide (a0≤8))) (Q false)
def W4 (a0:Int) (a1:Int) (a2:Int) (a3:Int) (Q:Bool→Prop):Prop:=
  SE a0 fun r1=>AQ r1 (SE a1 fun r6=>AQ r6 (AQ (decide (0≤a2)) (AQ (decide (a2<a0)) (AQ (decide (0≤a3)) (Q (decide (a3<a1))) (Q false)) (Q false)) (Q false)) (Q false)) (Q false)
def VG (a0:Int) (a1:Int) (Q:Rows→Prop):Prop:=
  mkP 8 (AH (a0+1)) 0 fun _=>Q ({ Rows:=a0,Cols:=a1,Start:=(List.replicate (AH (a0+1)).toNat 0),Col:=([]:List Int),Val:=([]:List Int) }:Rows)
def OC (a0:Int) (a1:Int) (a2:List AD) (Q:Rows→Prop):Prop:=
  VG a0 a1 fun r38=>BD (fun (s:(List Int)×(List Int)×(List Int)×Int) (next427:((List Int)×(List Int)×(List Int)×Int)→Prop)=>match s with | (s414,s418,s422,s426)=>AQ (decide (s426<(a2.length:Int))) (BA a2 s426 fun x445=>BA s414 (AH (x445.Row+1)) fun x464=>BA s414 (AH (x445.Row+1)) fun x469=>HN 8 s418 ([x445.Col]) fun _=>HN 8 s422 ([x445.Val]) fun _=>next427 ((s414.set ((AH (x445.Row+1)).toNat) (AH (x464+1))),(s418++([x445.Col])),(s422++([x445.Val])),AH (s426+1))) (BD (fun (s:(List Int)×Int) (next535:((List Int)×Int)→Prop)=>match s with | (s530,s534)=>AQ (decide (s534<a0)) (BA s530 (AH (s534+1)) fun x546=>BA s530 s534 fun x551=>BA s530 (AH (s534+1)) fun x554=>next535 ((s530.set ((AH (s534+1)).toNat) (AH (x546+x551))),AH (s534+1))) (Q ({ Rows:=r38.Rows,Cols:=r38.Cols,Start:=s530,Col:=s418,Val:=s422 }:Rows))) (s414,0))) (r38.Start,r38.Col,r38.Val,0)
def VH (a0:Rows) (Q:Rows→Prop):Prop:=
  HP a0 fun r27=>AQ r27 (Q a0) (VG 0 0 fun r32=>Q r32)
def SF (a0:Int×Int) (a1:Int) (Q:(Int×Int)→Prop):Prop:=
  AQ (decide ((if a1<a0.2 then a1 else a0.2)≤(if 0 > a0.1 then 0 else a0.1))) (Q ((if 0 > a0.1 then 0 else a0.1),0)) (Q ((if 0 > a0.1 then 0 else a0.1),AH ((if a1<a0.2 then a1 else a0.2) - (if 0 > a0.1 then 0 else a0.1))))
def XD (a0:Rows) (a1:Int) (Q:((List Int)×(List Int))→Prop):Prop:=
  BA a0.Start a1 fun x39=>BA a0.Start (AH (a1+1)) fun x48=>slP a0.Col x39 x48 fun _=>slP a0.Val x39 x48 fun _=>Q (((a0.Col.take x48.toNat).drop x39.toNat),((a0.Val.take x48.toNat).drop x39.toNat))
def gQ (a0:Rows) (a1:Int) (Q:(List DS)→Prop):Prop:=
  VH a0 fun r33=>GA a1 (AH (r33.Rows - 1)) fun r54=>AQ (!r54) (Q ([]:List DS)) (XD r33 a1 fun r73=>BD (fun (s:(List DS)×Int) (next161:((List DS)×Int)→Prop)=>match s with | (s155,s159)=>AQ (decide (s159<(r73.1.length:Int))) (BA r73.1 s159 fun x168=>BA r73.2 s159 fun x177=>HN 16 s155 ([({ At:=x168,Val:=x177 }:DS)]) fun _=>next161 ((s155++([({ At:=x168,Val:=x177 }:DS)])),AH (s159+1))) (Q s155)) (([]:List DS),0))
def LP (a0:Rows) (a1:Int×Int) (a2:Int×Int) (Q:Rows→Prop):Prop:=
  VH a0 fun r51=>SF a1 r51.Rows fun r71=>SF a2 r51.Cols fun r79=>BD (fun (s:(List AD)×Int) (next446:((List AD)×Int)→Prop)=>match s with | (s440,s444)=>AQ (decide (s444<r71.2)) (gQ r51 (AH (r71.1+s444)) fun r464=>BD (fun (s:(List AD)×Int) (next576:((List AD)×Int)→Prop)=>match s with | (s571,s575)=>AQ (decide (s575<(r464.length:Int))) (BA r464 s575 fun x595=>FW (fun (k608:Bool→Prop)=>AQ (decide (r79.1≤x595.At)) (k608 (decide ((AH (x595.At - r79.1))<r79.2))) (k608 false)) fun s607=>AQ s607 (HN 24 s571 ([({ Row:=s444,Col:=AH (x595.At - r79.1),Val:=x595.Val }:AD)]) fun _=>next576 ((s571++([({ Row:=s444,Col:=AH (x595.At - r79.1),Val:=x595.Val }:AD)])),AH (s575+1))) (next576 (s571,AH (s575+1)))) (next446 (s571,AH (s444+1)))) (s440,0)) (OC r71.2 r79.2 s440 fun r627=>Q r627)) (([]:List AD),0)
def NA (a0:Int) (a1:Int) (a2:Int) (Q:(Int×Int)→Prop):Prop:=
  FN a0 a1 a2 fun r5=>FN a0 a1 (AH (a2+1)) fun r9=>Q (r5,r9)
def RL (a0:Rows) (a1:Int) (a2:Int) (a3:Int) (a4:Int) (Q:Rows→Prop):Prop:=
  HP a0 fun r69=>AQ (!r69) (LP ({ Rows:=0,Cols:=0,Start:=([]:List Int),Col:=([]:List Int),Val:=([]:List Int) }:Rows) (0,0) (0,0) fun r74=>Q r74) (W4 a1 a2 a3 a4 fun r90=>AQ (!r90) (LP ({ Rows:=0,Cols:=0,Start:=([]:List Int),Col:=([]:List Int),Val:=([]:List Int) }:Rows) (0,0) (0,0) fun r95=>Q r95) (NA a0.Rows a1 a3 fun r111=>NA a0.Cols a2 a4 fun r115=>LP a0 r111 r115 fun r119=>Q r119))
def KC (a0:Rows) (Q:(List AD)→Prop):Prop:=
  VH a0 fun r33=>BD (fun (s:(List AD)×Int) (next392:((List AD)×Int)→Prop)=>match s with | (s386,s390)=>AQ (decide (s390<r33.Rows)) (XD r33 s390 fun r413=>BD (fun (s:(List AD)×Int) (next518:((List AD)×Int)→Prop)=>match s with | (s513,s517)=>AQ (decide (s517<(r413.1.length:Int))) (BA r413.1 s517 fun x535=>BA r413.2 s517 fun x544=>HN 24 s513 ([({ Row:=s390,Col:=x535,Val:=x544 }:AD)]) fun _=>next518 ((s513++([({ Row:=s390,Col:=x535,Val:=x544 }:AD)])),AH (s517+1))) (next392 (s513,AH (s390+1)))) (s386,0)) (Q s386)) (([]:List AD),0)
def IM (a0:Int) (a1:Int) (a2:Int) (Q:(Int×Int)→Prop):Prop:=
  FN a0 a1 a2 fun r5=>FN a0 a1 (AH (a2+1)) fun r9=>Q (r5,r9)
def MH (a0:Int) (a1:Int) (Q:Bool→Prop):Prop:=
  AQ (decide (0≤a0)) (Q (decide (a0≤a1))) (Q false)
def SG (a0:MY) (Q:Bool→Prop):Prop:=
  MH a0.A 63 fun r20=>AQ (!r20) (Q false) (MH a0.B 63 fun r25=>AQ (!r25) (Q false) (MH a0.K 63 fun r30=>AQ (!r30) (Q false) (AQ (decide (0<a0.Kind)) (Q (decide (a0.Kind≤5))) (Q false))))
def EV (a0:List DS) (Q:(List DS)→Prop):Prop:=
  Ae6 a0 (Q ([]:List DS)) (HN 16 ([]:List DS) a0 fun _=>Q (([]:List DS)++a0))
def FI (a0:List dG) (Q:(List dG)→Prop):Prop:=
  Ae6 a0 (Q ([]:List dG)) (HN 24 ([]:List dG) a0 fun _=>Q (([]:List dG)++a0))
def ED (a0:List AD) (Q:(List AD)→Prop):Prop:=
  Ae6 a0 (Q ([]:List AD)) (HN 24 ([]:List AD) a0 fun _=>Q (([]:List AD)++a0))
def XE (a0:BL) (Q:BL→Prop):Prop:=
  EV a0.Vec.Items fun r37=>FI a0.Sums fun r47=>ED a0.Triples fun r58=>Q ({ Kind:=a0.Kind,From:=a0.From,To:=a0.To,Seq:=a0.Seq,Round:=a0.Round,Vec:=({ N:=a0.Vec.N,Items:=r37 }:Vec),Sums:=r47,Triples:=r58,N:=a0.N,Over:=a0.Over }:BL)
def JR (a0:Int) (Q:AP→Prop):Prop:=
  Q ({ Hi:=shr .i64 a0 63,Lo:=IntKind.wrap .u64 (a0) }:AP)
def HG (a0:List Int) (Q:Int→Prop):Prop:=
  BD (fun (s31:Int) (next32:Int→Prop)=>AQ (decide (s31<(a0.length:Int))) (BA a0 s31 fun x38=>AQ (x38 != 0) (Q x38) (next32 (AH (s31+1)))) (Q 0)) 0
def LQ (a0:Int) (Q:Bool→Prop):Prop:=
  Q (a0 != a0)
def GU (a0:Int) (a1:Int) (Q:Int→Prop):Prop:=
  LQ a0 fun r5=>LQ a1 fun r13=>AQ r5 (AQ r13 (Q 0) (Q (-1))) (AQ r13 (Q 1) (AQ (decide (a0<a1)) (Q (-1)) (AQ (decide (a1<a0)) (Q 1) (Q 0))))
def KL (a0:Int) (Q:Bool→Prop):Prop:=
  Q (a0 != a0)
def IP (a0:Int) (a1:Int) (Q:Int→Prop):Prop:=
  KL a0 fun r5=>KL a1 fun r13=>AQ r5 (AQ r13 (Q 0) (Q (-1))) (AQ r13 (Q 1) (AQ (decide (a0<a1)) (Q (-1)) (AQ (decide (a1<a0)) (Q 1) (Q 0))))
def QR (a0:AP) (a1:AP) (Q:Int→Prop):Prop:=
  GU a0.Hi a1.Hi fun r9=>IP a0.Lo a1.Lo fun r13=>HG ([r9,r13]:List Int) fun r22=>Q r22
def PJ (a0:AP) (a1:AP) (Q:AP→Prop):Prop:=
  QR a0 a1 fun r13=>AQ (decide (r13≤0)) (Q a0) (Q a1)
def LX (a0:Bool) (Q:AP→Prop):Prop:=
  AQ a0 (JR 1 fun r6=>Q r6) (Q ({ Hi:=0,Lo:=0 }:AP))
def SH (a0:Bool) (Q:Int→Prop):Prop:=
  AQ a0 (Q 1) (Q 0)
def XF (a0:AP) (a1:AP) (Q:AP→Prop):Prop:=
  SH (decide ((IntKind.wrap .u64 (a0.Lo+a1.Lo))<a1.Lo)) fun r13=>Q ({ Hi:=AH (IntKind.wrap .u64 ((IntKind.wrap .u64 ((IntKind.wrap .u64 (a0.Hi))+(IntKind.wrap .u64 (a1.Hi))))+r13)),Lo:=IntKind.wrap .u64 (a0.Lo+a1.Lo) }:AP)
def PK (a0:Int) (a1:AP) (a2:AP) (Q:AP→Prop):Prop:=
  FW (fun (k18:Bool→Prop)=>AQ (a0==1) (k18 (a0==1)) (AQ (a0==3) (k18 (a0==3)) (k18 (a0==4)))) fun s17=>AQ s17 (PJ a1 a2 fun r24=>Q r24) (AQ (a0==2) (AQ (!(a1==a2)) (LX true fun r30=>Q r30) (LX (!(a1==({ Hi:=0,Lo:=0 }:AP))) fun r34=>Q r34)) (AQ (a0==5) (XF a1 a2 fun r39=>Q r39) (Q ({ Hi:=0,Lo:=0 }:AP))))
def XG (a0:AP) (Q:(Int×Bool)→Prop):Prop:=
  JR (AH (a0.Lo)) fun r5=>AQ (!(r5==a0)) (Q (0,false)) (Q (AH (a0.Lo),true))
def ID (a0:Int) (a1:AP) (Q:(Int×Bool)→Prop):Prop:=
  XG a1 fun r3=>Q (r3.1,r3.2)
def CJ (a0:Int) (a1:Int) (Q:Int→Prop):Prop:=
  HF a0 fun r5=>HF a1 fun r13=>AQ r5 (AQ r13 (Q 0) (Q (-1))) (AQ r13 (Q 1) (AQ (decide (a0<a1)) (Q (-1)) (AQ (decide (a1<a0)) (Q 1) (Q 0))))
def YA (a0:AD) (a1:AD) (Q:Int→Prop):Prop:=
  CJ a0.Row a1.Row fun r9=>CJ a0.Col a1.Col fun r13=>HG ([r9,r13]:List Int) fun r22=>Q r22
def SI (a0:Int) (a1:List AD) (Q:((List AD)×Int)→Prop):Prop:=
  BD (fun (s:(List ((Int×Int)×AP))×Int) (next295:((List ((Int×Int)×AP))×Int)→Prop)=>match s with | (s293,s294)=>AQ (decide (s294<(a1.length:Int))) (BA a1 s294 fun x312=>JR x312.Val fun r332=>kW s293 (x312.Row,x312.Col) ({ Hi:=0,Lo:=0 }:AP) fun r338 t343=>AQ t343 (PK a0 r338 r332 fun r347=>next295 ((EE (x312.Row,x312.Col) r347 s293),AH (s294+1))) (next295 ((EE (x312.Row,x312.Col) r332 s293),AH (s294+1)))) (BD (fun (s:(List AD)×(List ((Int×Int)×AP))) (next463:((List AD)×(List ((Int×Int)×AP)))→Prop)=>match s with | (s457,s461)=>xO s461 (qY YA s457 fun y494=>Q (y494,0)) (fun p481 l482=>ID a0 p481.2 fun r515=>AQ (!r515.2) (Q (([]:List AD),12)) (HN 24 s457 ([({ Row:=p481.1.1,Col:=p481.1.2,Val:=r515.1 }:AD)]) fun _=>next463 ((s457++([({ Row:=p481.1.1,Col:=p481.1.2,Val:=r515.1 }:AD)])),l482)))) (([]:List AD),s293))) (([]:List ((Int×Int)×AP)),0)
def W5 (o0:Int) (o1:Int) (a0:AD) (Q:Bool→Prop):Prop:=
  GA a0.Row (AH (o0 - 1)) fun r9=>AQ (!r9) (Q true) (GA a0.Col (AH (o1 - 1)) fun r14=>Q (!r14))
def CZ (o0:Int) (o1:Int) (a0:List AD) (Q:Int→Prop):Prop:=
  BD (fun (s49:Int) (next50:Int→Prop)=>AQ (decide (s49<(a0.length:Int))) (BA a0 s49 fun x56=>W5 o0 o1 x56 fun r70=>AQ r70 (Q s49) (next50 (AH (s49+1)))) (Q (-1))) 0
def CN (o0:Int) (o1:Int) (a0:List AD) (Q:Bool→Prop):Prop:=
  CZ o0 o1 a0 fun r14=>Q (decide (0≤r14))
def SJ (a0:Int) (a1:Int) (a2:Int) (a3:List AD) (Q:(Rows×Int)→Prop):Prop:=
  MZ a0 fun r80=>AQ (!r80) (Q (({ Rows:=0,Cols:=0,Start:=([]:List Int),Col:=([]:List Int),Val:=([]:List Int) }:Rows),8)) (FW (fun (k104:Bool→Prop)=>GA a1 4096 fun r105=>AQ (!r105) (k104 true) (GA a2 4096 fun r110=>k104 (!r110))) fun s103=>AQ s103 (Q (({ Rows:=0,Cols:=0,Start:=([]:List Int),Col:=([]:List Int),Val:=([]:List Int) }:Rows),3)) (AQ (decide (65536<(a3.length:Int))) (Q (({ Rows:=0,Cols:=0,Start:=([]:List Int),Col:=([]:List Int),Val:=([]:List Int) }:Rows),5)) (CN a1 a2 a3 fun r124=>AQ r124 (Q (({ Rows:=0,Cols:=0,Start:=([]:List Int),Col:=([]:List Int),Val:=([]:List Int) }:Rows),3)) (SI a0 a3 fun r138=>AQ (r138.2 != 0) (Q (({ Rows:=0,Cols:=0,Start:=([]:List Int),Col:=([]:List Int),Val:=([]:List Int) }:Rows),r138.2)) (OC a1 a2 r138.1 fun r150=>Q (r150,0))))))
def YB (a0:List Rows) (Q:(List Rows)→Prop):Prop:=
  BD (fun (s:(List Rows)×Int) (next180:((List Rows)×Int)→Prop)=>match s with | (s174,s178)=>AQ (decide (s178<(a0.length:Int))) (BA a0 s178 fun x206=>HP x206 fun r225=>AQ (!r225) (LP x206 (0,0) (0,0) fun r230=>HN 88 s174 ([r230]) fun _=>next180 ((s174++([r230])),AH (s178+1))) (HN 88 s174 ([x206]) fun _=>next180 ((s174++([x206])),AH (s178+1)))) (Q s174)) (([]:List Rows),0)
def RM (a0:Rows) (a1:Int) (Q:((List Int)×(List Int))→Prop):Prop:=
  BA a0.Start a1 fun x39=>BA a0.Start (AH (a1+1)) fun x48=>slP a0.Col x39 x48 fun _=>slP a0.Val x39 x48 fun _=>Q (((a0.Col.take x48.toNat).drop x39.toNat),((a0.Val.take x48.toNat).drop x39.toNat))
def GV (a0:Int) (Q:(Int×Int)→Prop):Prop:=
  Q (shr .u64 (shl .u64 a0 32) 32,shr .u64 a0 32)
def QS (a0:Int) (a1:Int) (Q:AP→Prop):Prop:=
  GV a0 fun r17=>GV a1 fun r21=>GV (IntKind.wrap .u64 (r17.1*r21.1)) fun r40=>GV (IntKind.wrap .u64 ((IntKind.wrap .u64 (r17.2*r21.1))+r40.2)) fun r44=>GV (IntKind.wrap .u64 ((IntKind.wrap .u64 (r17.1*r21.2))+r44.1)) fun r55=>GV (IntKind.wrap .u64 (r17.1*r21.1)) fun r61=>Q ({ Hi:=AH (IntKind.wrap .u64 ((IntKind.wrap .u64 ((IntKind.wrap .u64 (r17.2*r21.2))+r44.2))+r55.2)),Lo:=bor .u64 (shl .u64 r55.1 32) r61.1 }:AP)
def VJ (a0:Int) (Q:Int→Prop):Prop:=
  AQ (decide (a0<0)) (Q (IntKind.wrap .u64 (0 - (IntKind.wrap .u64 (a0))))) (Q (IntKind.wrap .u64 (a0)))
def bA (a0:AP) (a1:AP) (Q:AP→Prop):Prop:=
  SH (decide (a0.Lo<a1.Lo)) fun r13=>Q ({ Hi:=AH (IntKind.wrap .u64 ((IntKind.wrap .u64 ((IntKind.wrap .u64 (a0.Hi)) - (IntKind.wrap .u64 (a1.Hi)))) - r13)),Lo:=IntKind.wrap .u64 (a0.Lo - a1.Lo) }:AP)
def bB (a0:Int) (a1:Int) (Q:AP→Prop):Prop:=
  VJ a0 fun r19=>VJ a1 fun r23=>QS r19 r23 fun r27=>AQ (!((decide (a0<0))==(decide (a1<0)))) (bA ({ Hi:=0,Lo:=0 }:AP) r27 fun r34=>Q r34) (Q r27)
def bC (a0:Int) (a1:Int) (a2:Int) (Q:AP→Prop):Prop:=
  AQ (a0==2) (AQ (a1 != 0) (LX (a2 != 0) fun r22=>Q r22) (LX false fun r26=>Q r26)) (AQ (a0==5) (bB a1 a2 fun r31=>Q r31) (FW (fun (k55:Unit→Prop)=>MZ a0 fun r56=>AQ r56 (AQ (decide (4611686018427387904≤(if a2 > a1 then a2 else a1))) (JR 4611686018427387904 fun r62=>Q r62) (k55 ())) (k55 ())) fun _=>FW (fun (k90:(Int×Int)→Prop)=>AQ (a0==1) (JR a1 fun r93=>k90 (r93.Hi,r93.Lo)) (AQ (a0==4) (k90 (0,0)) (AQ (a0==3) (JR a1 fun r99=>Q r99) (Q ({ Hi:=0,Lo:=0 }:AP))))) fun (s88,s89)=>JR 4611686018427387904 fun r106=>JR a2 fun r110=>XF ({ Hi:=s88,Lo:=s89 }:AP) r110 fun r114=>PJ r106 r114 fun r118=>Q r118))
def QT (o0:List (Int×Bool)) (a0:Int) (a1:Rows) (a2:Rows) (a3:Int) (Q:(List (Int×AP))→Prop):Prop:=
  RM a1 a3 fun r46=>BD (fun (s:(List (Int×AP))×Int) (next759:((List (Int×AP))×Int)→Prop)=>match s with | (s757,s758)=>AQ (decide (s758<(r46.1.length:Int))) (BA r46.1 s758 fun x775=>RM a2 x775 fun r798=>BD (fun (s:(List (Int×AP))×Int) (next1011:((List (Int×AP))×Int)→Prop)=>match s with | (s1009,s1010)=>AQ (decide (s1010<(r798.1.length:Int))) (BA r798.1 s1010 fun x1028=>zX o0 x1028 false fun r1043=>AQ (!r1043) (next1011 (s1009,AH (s1010+1))) (BA r46.2 s758 fun x1075=>BA r798.2 s1010 fun x1084=>bC a0 x1075 x1084 fun r1093=>kW s1009 x1028 ({ Hi:=0,Lo:=0 }:AP) fun r1098 t1103=>AQ t1103 (PK a0 r1098 r1093 fun r1107=>next1011 ((EE x1028 r1107 s1009),AH (s1010+1))) (next1011 ((EE x1028 r1093 s1009),AH (s1010+1))))) (next759 (s1009,AH (s758+1)))) (s757,0)) (Q s757)) (([]:List (Int×AP)),0)
def SK (a0:Int) (a1:Rows) (a2:Rows) (a3:Rows) (Q:((List AK)×Int)→Prop):Prop:=
  YB ([a1,a2,a3]:List Rows) fun r64=>BA r64 0 fun x130=>BA r64 1 fun x148=>BA r64 2 fun x166=>MZ a0 fun r199=>AQ (!r199) (Q (([]:List AK),8)) (AQ (x130.Cols != x148.Rows) (Q (([]:List AK),4)) (AQ (x166.Rows != x130.Rows) (Q (([]:List AK),4)) (AQ (x166.Cols != x148.Cols) (Q (([]:List AK),4)) (BD (fun (s:(List AK)×Int) (next840:((List AK)×Int)→Prop)=>match s with | (s834,s838)=>AQ (decide (s838<x166.Rows)) (RM x166 s838 fun r861=>BD (fun (s:(List (Int×Bool))×Int) (next956:((List (Int×Bool))×Int)→Prop)=>match s with | (s954,s955)=>AQ (decide (s955<(r861.1.length:Int))) (BA r861.1 s955 fun x964=>next956 ((EE x964 true s954),AH (s955+1))) (QT s954 a0 x130 x148 s838 fun r990=>BD (fun (s:(List AK)×Int) (next1102:((List AK)×Int)→Prop)=>match s with | (s1097,s1101)=>AQ (decide (s1101<(r861.1.length:Int))) (BA r861.1 s1101 fun x1120=>kW r990 x1120 ({ Hi:=0,Lo:=0 }:AP) fun r1136 t1141=>AQ t1141 (HN 32 s1097 ([({ Row:=s838,Col:=x1120,Val:=r1136 }:AK)]) fun _=>next1102 ((s1097++([({ Row:=s838,Col:=x1120,Val:=r1136 }:AK)])),AH (s1101+1))) (next1102 (s1097,AH (s1101+1)))) (next840 (s1097,AH (s838+1)))) (s834,0))) (([]:List (Int×Bool)),0)) (Q (s834,0))) (([]:List AK),0)))))
def SM (a0:AK) (a1:AK) (Q:Int→Prop):Prop:=
  CJ a0.Row a1.Row fun r9=>CJ a0.Col a1.Col fun r13=>HG ([r9,r13]:List Int) fun r22=>Q r22
def KD (a0:List AK) (Q:Bool→Prop):Prop:=
  BD (fun (s35:Int) (next36:Int→Prop)=>AQ (decide (s35<(a0.length:Int))) (AQ (decide (0<s35)) (BA a0 (AH (s35 - 1)) fun x43=>BA a0 s35 fun x52=>SM x43 x52 fun r60=>AQ (decide (0≤r60)) (Q false) (next36 (AH (s35+1)))) (next36 (AH (s35+1)))) (Q true)) 0
def EZ (a1:Int) (Q:(List AK)→Prop):Prop:=
  AQ (decide (a1<0)) (False) (AQ (decide (0<(AH (a1 - (AH (0 - 0)))))) (grP 32 (AH (a1 - (AH (0 - 0)))) <| Q ([]:List AK)) (Q ([]:List AK)))
def DJ (a0:List (List AK)) (Q:(List AK)→Prop):Prop:=
  BD (fun (s:Int×Int) (next161:(Int×Int)→Prop)=>match s with | (s159,s160)=>AQ (decide (s160<(a0.length:Int))) (BA a0 s160 fun x179=>AQ (decide ((AH (s159+(x179.length:Int)))<0)) (False) (next161 (AH (s159+(x179.length:Int)),AH (s160+1)))) (EZ s159 fun r203=>BD (fun (s:(List AK)×Int) (next271:((List AK)×Int)→Prop)=>match s with | (s266,s270)=>AQ (decide (s270<(a0.length:Int))) (BA a0 s270 fun x278=>HN 32 s266 x278 fun _=>next271 ((s266++x278),AH (s270+1))) (Q s266)) (r203,0))) (0,0)
def OD (a0:List AK) (Q:Bool→Prop):Prop:=
  KD a0 fun r4=>Q (!r4)
def DM (a0:List (List AK)) (Q:Int→Prop):Prop:=
  BD (fun (s51:Int) (next52:Int→Prop)=>AQ (decide (s51<(a0.length:Int))) (BA a0 s51 fun x58=>OD x58 fun r75=>AQ r75 (Q s51) (next52 (AH (s51+1)))) (Q (-1))) 0
def DC (a0:List (List AK)) (Q:Bool→Prop):Prop:=
  DM a0 fun r10=>Q (decide (0≤r10))
def EN (a0:AK) (a1:AK) (Q:Int→Prop):Prop:=
  CJ a0.Row a1.Row fun r9=>CJ a0.Col a1.Col fun r13=>HG ([r9,r13]:List Int) fun r22=>Q r22
def BU (o0:List AK) (a0:Int) (a1:Int) (Q:(List AK)→Prop):Prop:=
  BD (fun (s:(List AK)×Int) (next332:((List AK)×Int)→Prop)=>match s with | (s330,s331)=>AQ (decide (s331<a1)) (BD (fun (s:(List AK)×Int) (next446:((List AK)×Int)→Prop)=>match s with | (s444,s445)=>AQ (decide (a0<s445)) (BA s444 s445 fun x474=>BA s444 (AH (s445 - 1)) fun x479=>EN x474 x479 fun r487=>AQ (decide (r487<0)) (BA s444 (AH (s445 - 1)) fun x492=>BA s444 s445 fun x495=>BA s444 s445 fun x498=>BA (s444.set s445.toNat x492) (AH (s445 - 1)) fun x501=>next446 (((s444.set s445.toNat x492).set ((AH (s445 - 1)).toNat) x495),AH (s445 - 1))) (next332 (s444,AH (s331+1)))) (next332 (s444,AH (s331+1)))) (s330,s331)) (Q s330)) (o0,AH (a0+1))
def BR (o0:List AK) (a0:Int) (a1:Int) (a2:Int) (Q:(List AK)→Prop):Prop:=
  BD (fun (s:(List AK)×Int) (next46:((List AK)×Int)→Prop)=>match s with | (s44,s45)=>AQ (decide (s45<a2)) (BA s44 (AH (a1+s45)) fun x54=>BA s44 (AH (a0+s45)) fun x59=>BA s44 (AH (a0+s45)) fun x62=>BA (s44.set ((AH (a0+s45)).toNat) x54) (AH (a1+s45)) fun x65=>next46 (((s44.set ((AH (a0+s45)).toNat) x54).set ((AH (a1+s45)).toNat) x59),AH (s45+1))) (Q s44)) (o0,0)
def DG (o0:List AK) (a0:Int) (a1:Int) (a2:Int) (Q:(List AK)→Prop):Prop:=
  BD (fun (s:(List AK)×Int×Int) (next66:((List AK)×Int×Int)→Prop)=>match s with | (s63,s64,s65)=>AQ (s64 != s65) (AQ (decide (s65<s64)) (BR s63 (AH (a1 - s64)) a1 s65 fun r79=>next66 (r79,AH (s64 - s65),s65)) (BR s63 (AH (a1 - s64)) (AH ((AH (a1+s65)) - s64)) s64 fun r91=>next66 (r91,s64,AH (s65 - s64)))) (BR s63 (AH (a1 - s64)) a1 s64 fun r103=>Q r103)) (o0,AH (a1 - a0),AH (a2 - a1))
def BB (rc:(List AK)→Int→Int→Int→((List AK)→Prop)→Prop) (o0:List AK) (a0:Int) (a1:Int) (a2:Int) (Q:(List AK)→Prop):Prop:=
  AQ ((AH (a1 - a0))==1) (BD (fun (s:Int×Int) (next323:(Int×Int)→Prop)=>match s with | (s321,s322)=>AQ (decide (s321<s322)) (BA o0 (AH (shr .u64 (IntKind.wrap .u64 (AH (s321+s322))) 1)) fun x330=>BA o0 a0 fun x335=>EN x330 x335 fun r343=>AQ (decide (r343<0)) (next323 (AH ((AH (shr .u64 (IntKind.wrap .u64 (AH (s321+s322))) 1))+1),s322)) (next323 (s321,AH (shr .u64 (IntKind.wrap .u64 (AH (s321+s322))) 1)))) (BD (fun (s:(List AK)×Int) (next388:((List AK)×Int)→Prop)=>match s with | (s386,s387)=>AQ (decide (s387<(AH (s321 - 1)))) (BA s386 (AH (s387+1)) fun x397=>BA s386 s387 fun x402=>BA s386 s387 fun x405=>BA (s386.set s387.toNat x397) (AH (s387+1)) fun x408=>next388 (((s386.set s387.toNat x397).set ((AH (s387+1)).toNat) x402),AH (s387+1))) (Q s386)) (o0,a0))) (a1,a2)) (AQ ((AH (a2 - a1))==1) (BD (fun (s:Int×Int) (next729:(Int×Int)→Prop)=>match s with | (s727,s728)=>AQ (decide (s727<s728)) (BA o0 a1 fun x736=>BA o0 (AH (shr .u64 (IntKind.wrap .u64 (AH (s727+s728))) 1)) fun x741=>EN x736 x741 fun r749=>AQ (!(decide (r749<0))) (next729 (AH ((AH (shr .u64 (IntKind.wrap .u64 (AH (s727+s728))) 1))+1),s728)) (next729 (s727,AH (shr .u64 (IntKind.wrap .u64 (AH (s727+s728))) 1)))) (BD (fun (s:(List AK)×Int) (next794:((List AK)×Int)→Prop)=>match s with | (s792,s793)=>AQ (decide (s727<s793)) (BA s792 (AH (s793 - 1)) fun x803=>BA s792 s793 fun x808=>BA s792 s793 fun x811=>BA (s792.set s793.toNat x803) (AH (s793 - 1)) fun x814=>next794 (((s792.set s793.toNat x803).set ((AH (s793 - 1)).toNat) x808),AH (s793 - 1))) (Q s792)) (o0,a1))) (a0,a1)) (FW (fun (k820:(Int×Int)→Prop)=>AQ (decide ((AH (shr .u64 (IntKind.wrap .u64 (AH (a0+a2))) 1))<a1)) (k820 (AH ((AH ((AH (shr .u64 (IntKind.wrap .u64 (AH (a0+a2))) 1))+a1)) - a2),AH (shr .u64 (IntKind.wrap .u64 (AH (a0+a2))) 1))) (k820 (a0,a1))) fun (s818,s819)=>BD (fun (s:Int×Int) (next945:(Int×Int)→Prop)=>match s with | (s943,s944)=>AQ (decide (s943<s944)) (BA o0 (AH ((AH ((AH ((AH (shr .u64 (IntKind.wrap .u64 (AH (a0+a2))) 1))+a1)) - 1)) - (AH (shr .u64 (IntKind.wrap .u64 (AH (s943+s944))) 1)))) fun x953=>BA o0 (AH (shr .u64 (IntKind.wrap .u64 (AH (s943+s944))) 1)) fun x958=>EN x953 x958 fun r966=>AQ (!(decide (r966<0))) (next945 (AH ((AH (shr .u64 (IntKind.wrap .u64 (AH (s943+s944))) 1))+1),s944)) (next945 (s943,AH (shr .u64 (IntKind.wrap .u64 (AH (s943+s944))) 1)))) (FW (fun (k1001:(List AK)→Prop)=>AQ (decide (s943<a1)) (AQ (decide (a1<(AH ((AH ((AH (shr .u64 (IntKind.wrap .u64 (AH (a0+a2))) 1))+a1)) - s943)))) (DG o0 s943 a1 (AH ((AH ((AH (shr .u64 (IntKind.wrap .u64 (AH (a0+a2))) 1))+a1)) - s943)) fun r1010=>k1001 r1010) (k1001 o0)) (k1001 o0)) fun s1000=>FW (fun (k1055:(List AK)→Prop)=>AQ (decide (a0<s943)) (AQ (decide (s943<(AH (shr .u64 (IntKind.wrap .u64 (AH (a0+a2))) 1)))) (rc s1000 a0 s943 (AH (shr .u64 (IntKind.wrap .u64 (AH (a0+a2))) 1)) fun r1064=>k1055 r1064) (k1055 s1000)) (k1055 s1000)) fun s1054=>AQ (decide ((AH (shr .u64 (IntKind.wrap .u64 (AH (a0+a2))) 1))<(AH ((AH ((AH (shr .u64 (IntKind.wrap .u64 (AH (a0+a2))) 1))+a1)) - s943)))) (AQ (decide ((AH ((AH ((AH (shr .u64 (IntKind.wrap .u64 (AH (a0+a2))) 1))+a1)) - s943))<a2)) (rc s1054 (AH (shr .u64 (IntKind.wrap .u64 (AH (a0+a2))) 1)) (AH ((AH ((AH (shr .u64 (IntKind.wrap .u64 (AH (a0+a2))) 1))+a1)) - s943)) a2 fun r1086=>Q r1086) (Q s1054)) (Q s1054))) (s818,s819)))
def CK:Nat→(List AK)→Int→Int→Int→((List AK)→Prop)→Prop
  | 0=>fun _ _ _ _ _=>False
  | k+1=>BB (CK k)
def CS (o0:List AK) (a0:Int) (a1:Int) (a2:Int) (Q:(List AK)→Prop):Prop:=∃ k,CK k o0 a0 a1 a2 Q
def EH (o0:List AK) (a0:Int) (Q:(List AK)→Prop):Prop:=
  BD (fun (s:(List AK)×Int×Int) (next98:((List AK)×Int×Int)→Prop)=>match s with | (s95,s96,s97)=>AQ (decide (s97≤a0)) (BU s95 s96 s97 fun r110=>next98 (r110,s97,AH (s97+20))) (BU s95 s96 a0 fun r134=>BD (fun (s:(List AK)×Int) (next420:((List AK)×Int)→Prop)=>match s with | (s418,s419)=>AQ (decide (s419<a0)) (BD (fun (s:(List AK)×Int×Int) (next533:((List AK)×Int×Int)→Prop)=>match s with | (s530,s531,s532)=>AQ (decide (s532≤a0)) (CS s530 s531 (AH (s531+s419)) s532 fun r547=>next533 (r547,s532,AH (s532+(AH (2*s419))))) (AQ (decide ((AH (s531+s419))<a0)) (CS s530 s531 (AH (s531+s419)) a0 fun r562=>next420 (r562,AH (s419*2))) (next420 (s530,AH (s419*2))))) (s418,0,AH (2*s419))) (Q s418)) (r134,20))) (o0,0,20)
def CA (o0:List AK) (Q:(List AK)→Prop):Prop:=
  EH o0 (o0.length:Int) fun r10=>Q r10
def OE (a0:Int) (a1:List (List AK)) (Q:((List AK)×Int)→Prop):Prop:=
  MZ a0 fun r12=>AQ (!r12) (Q (([]:List AK),8)) (DC a1 fun r31=>AQ r31 (Q (([]:List AK),6)) (DJ a1 fun r45=>CA r45 fun r75=>BD (fun (s:(List AK)×Int) (next199:((List AK)×Int)→Prop)=>match s with | (s193,s197)=>AQ (decide (s197<(r75.length:Int))) (BA r75 s197 fun x213=>FW (fun (k242:Bool→Prop)=>AQ (decide (0<(s193.length:Int))) (BA s193 (AH ((s193.length:Int) - 1)) fun x246=>SM x246 x213 fun r250=>k242 (r250==0)) (k242 false)) fun s241=>AQ s241 (BA s193 (AH ((s193.length:Int) - 1)) fun x261=>PK a0 x261.Val x213.Val fun r265=>BA s193 (AH ((s193.length:Int) - 1)) fun x270=>next199 ((s193.set ((AH ((s193.length:Int) - 1)).toNat) ({ Row:=x270.Row,Col:=x270.Col,Val:=r265 }:AK)),AH (s197+1))) (HN 32 s193 ([x213]) fun _=>next199 ((s193++([x213])),AH (s197+1)))) (Q (s193,0))) (([]:List AK),0)))
def IQ (a0:List Int) (Q:Int→Prop):Prop:=
  AQ (decide ((a0.length:Int)<1)) (False) (BA a0 0 fun x16=>BD (fun (s:Int×Int) (next54:(Int×Int)→Prop)=>match s with | (s52,s53)=>AQ (decide (s53<(a0.length:Int))) (BA a0 s53 fun x60=>next54 ((if x60<s52 then x60 else s52),AH (s53+1))) (Q s52)) (x16,1))
def GJ (a0:AK) (a1:AK) (Q:Int→Prop):Prop:=
  CJ a0.Row a1.Row fun r9=>CJ a0.Col a1.Col fun r13=>HG ([r9,r13]:List Int) fun r22=>Q r22
def RN (a0:Int) (Q:Int→Prop):Prop:=
  AQ (a0==1) (Q 4611686018427387904) (AQ (a0==3) (Q 4611686018427387904) (AQ (a0==4) (Q 4611686018427387904) (Q 0)))
def KE (a0:Int) (a1:Int) (Q:Bool→Prop):Prop:=
  AQ (decide (0≤a0)) (Q (decide (a0≤a1))) (Q false)
def PZ (o0:Int) (o1:Int) (a0:AK) (Q:Bool→Prop):Prop:=
  KE a0.Row (AH (o0 - 1)) fun r9=>AQ (!r9) (Q true) (KE a0.Col (AH (o1 - 1)) fun r14=>Q (!r14))
def DN (o0:Int) (o1:Int) (a0:List AK) (Q:Int→Prop):Prop:=
  BD (fun (s49:Int) (next50:Int→Prop)=>AQ (decide (s49<(a0.length:Int))) (BA a0 s49 fun x56=>PZ o0 o1 x56 fun r70=>AQ r70 (Q s49) (next50 (AH (s49+1)))) (Q (-1))) 0
def DD (o0:Int) (o1:Int) (a0:List AK) (Q:Bool→Prop):Prop:=
  DN o0 o1 a0 fun r14=>Q (decide (0≤r14))
def YC (a0:Int) (a1:Int) (a2:Int) (a3:List AK) (Q:(Rows×Int)→Prop):Prop:=
  MZ a0 fun r97=>AQ (!r97) (Q (({ Rows:=0,Cols:=0,Start:=([]:List Int),Col:=([]:List Int),Val:=([]:List Int) }:Rows),8)) (FW (fun (k121:Bool→Prop)=>KE a1 4096 fun r122=>AQ (!r122) (k121 true) (KE a2 4096 fun r127=>k121 (!r127))) fun s120=>AQ s120 (Q (({ Rows:=0,Cols:=0,Start:=([]:List Int),Col:=([]:List Int),Val:=([]:List Int) }:Rows),3)) (DD a1 a2 a3 fun r148=>AQ r148 (Q (({ Rows:=0,Cols:=0,Start:=([]:List Int),Col:=([]:List Int),Val:=([]:List Int) }:Rows),3)) (KD a3 fun r155=>AQ (!r155) (Q (({ Rows:=0,Cols:=0,Start:=([]:List Int),Col:=([]:List Int),Val:=([]:List Int) }:Rows),6)) (AQ (decide (65536<(a3.length:Int))) (Q (({ Rows:=0,Cols:=0,Start:=([]:List Int),Col:=([]:List Int),Val:=([]:List Int) }:Rows),5)) (BD (fun (s:(List AD)×Int) (next454:((List AD)×Int)→Prop)=>match s with | (s448,s452)=>AQ (decide (s452<(a3.length:Int))) (BA a3 s452 fun x472=>ID a0 x472.Val fun r486=>AQ (!r486.2) (Q (({ Rows:=0,Cols:=0,Start:=([]:List Int),Col:=([]:List Int),Val:=([]:List Int) }:Rows),12)) (RN a0 fun r496=>AQ (r486.1 != r496) (HN 24 s448 ([({ Row:=x472.Row,Col:=x472.Col,Val:=r486.1 }:AD)]) fun _=>next454 ((s448++([({ Row:=x472.Row,Col:=x472.Col,Val:=r486.1 }:AD)])),AH (s452+1))) (next454 (s448,AH (s452+1))))) (SJ a0 a1 a2 s448 fun r512=>Q (r512.1,r512.2))) (([]:List AD),0))))))
def NB (a0:List Int) (a1:List Int) (Q:Bool→Prop):Prop:=
  AQ ((a0.length:Int) != (a1.length:Int)) (Q false) (BD (fun (s54:Int) (next55:Int→Prop)=>AQ (decide (s54<(a0.length:Int))) (BA a0 s54 fun x61=>BA a1 s54 fun x70=>AQ (x61 != x70) (Q false) (next55 (AH (s54+1)))) (Q true)) 0)
def PL (a0:BQ) (Q:Int→Prop):Prop:=
  PI a0 fun r37=>AQ (r37 != 0) (Q 0) (Q (AH ((AH ((AH (a0.R+a0.C))*(AH (a0.R+a0.C))))+2)))
def LR (a0:KB) (Q:(AL×Int×Int×Int)→Prop):Prop:=
  UD a0.G fun r27=>FW (fun (k46:(Int×(List AM))→Prop)=>AQ (r27.N==0) (k46 (1,([]:List AM))) (k46 (r27.N,r27.Edges))) fun (s41,s42)=>IL a0.V s41 fun r51=>Q (({ N:=s41,Edges:=s42 }:AL),r51,AH (((AH (a0.R)).tmod 4)+1),AH (((AH (a0.C)).tmod 4)+1))
def JS (o0:AL) (a0:Int) (Q:Bool→Prop):Prop:=
  AQ (decide (a0<0)) (Q true) (Q (decide (o0.N≤a0)))
def NC (o1:AL) (a0:AM) (Q:Bool→Prop):Prop:=
  JS o1 a0.From fun r18=>AQ r18 (Q true) (JS o1 a0.To fun r26=>Q r26)
def DO (o1:AL) (a0:List AM) (Q:Int→Prop):Prop:=
  BD (fun (s52:Int) (next53:Int→Prop)=>AQ (decide (s52<(a0.length:Int))) (BA a0 s52 fun x59=>NC o1 x59 fun r73=>AQ r73 (Q s52) (next53 (AH (s52+1)))) (Q (-1))) 0
def DE (o1:AL) (a0:List AM) (Q:Bool→Prop):Prop:=
  DO o1 a0 fun r17=>Q (decide (0≤r17))
def ND (a0:AM) (Q:Bool→Prop):Prop:=
  AQ (decide (a0.W<0)) (Q true) (Q (decide (2147483647<a0.W)))
def DP (a0:List AM) (Q:Int→Prop):Prop:=
  BD (fun (s45:Int) (next46:Int→Prop)=>AQ (decide (s45<(a0.length:Int))) (BA a0 s45 fun x52=>ND x52 fun r66=>AQ r66 (Q s45) (next46 (AH (s45+1)))) (Q (-1))) 0
def CD (a0:List AM) (Q:Bool→Prop):Prop:=
  DP a0 fun r10=>Q (decide (0≤r10))
def GW (a0:AL) (Q:Int→Prop):Prop:=
  AQ (decide (a0.N<0)) (Q 3) (FW (fun (k16:Bool→Prop)=>AQ (decide (4096<a0.N)) (k16 (decide (4096<a0.N))) (k16 (decide (65536<(a0.Edges.length:Int))))) fun s15=>AQ s15 (Q 5) (DE a0 a0.Edges fun r35=>AQ r35 (Q 3) (CD a0.Edges fun r44=>AQ r44 (Q 7) (Q 0))))
def XH (a0:Int) (Q:Bool→Prop):Prop:=
  AQ (decide (1≤a0)) (Q (decide (a0≤8))) (Q false)
def ZR (a0:AM) (a1:AM) (Q:Int→Prop):Prop:=
  CJ a0.From a1.From fun r9=>CJ a0.To a1.To fun r13=>HG ([r9,r13]:List Int) fun r22=>Q r22
def UE (a0:AM) (a1:AM) (Q:Int→Prop):Prop:=
  ZR a0 a1 fun r9=>GU a0.W a1.W fun r13=>HG ([r9,r13]:List Int) fun r22=>Q r22
def OX (a0:Int) (a1:List AM) (Q:((List AM)×Int)→Prop):Prop:=
  MZ a0 fun r12=>AQ (!r12) (Q (([]:List AM),8)) (BD (fun (s:(List ((Int×Int)×AP))×Int) (next305:((List ((Int×Int)×AP))×Int)→Prop)=>match s with | (s303,s304)=>AQ (decide (s304<(a1.length:Int))) (BA a1 s304 fun x322=>JR x322.W fun r342=>kW s303 (x322.From,x322.To) ({ Hi:=0,Lo:=0 }:AP) fun r348 t353=>AQ t353 (PK a0 r348 r342 fun r357=>next305 ((EE (x322.From,x322.To) r357 s303),AH (s304+1))) (next305 ((EE (x322.From,x322.To) r342 s303),AH (s304+1)))) (BD (fun (s:(List AM)×(List ((Int×Int)×AP))) (next473:((List AM)×(List ((Int×Int)×AP)))→Prop)=>match s with | (s467,s471)=>xO s471 (qY UE s467 fun y504=>Q (y504,0)) (fun p491 l492=>ID a0 p491.2 fun r525=>AQ (!r525.2) (Q (([]:List AM),12)) (HN 24 s467 ([({ From:=p491.1.1,To:=p491.1.2,W:=r525.1 }:AM)]) fun _=>next473 ((s467++([({ From:=p491.1.1,To:=p491.1.2,W:=r525.1 }:AM)])),l492)))) (([]:List AM),s303))) (([]:List ((Int×Int)×AP)),0))
def IE (a0:AL) (Q:AL→Prop):Prop:=
  OX 1 a0.Edges fun r15=>Q ({ N:=a0.N,Edges:=r15.1 }:AL)
def NE (a0:AM) (Q:(AM×Bool)→Prop):Prop:=
  Q (({ From:=a0.From,To:=a0.To,W:=1 }:AM),true)
def SN (a0:AL) (Q:AL→Prop):Prop:=
  BD (fun (s:(List AM)×Int) (next114:((List AM)×Int)→Prop)=>match s with | (s108,s112)=>AQ (decide (s112<(a0.Edges.length:Int))) (BA a0.Edges s112 fun x131=>NE x131 fun r147=>AQ r147.2 (HN 24 s108 ([r147.1]) fun _=>next114 ((s108++([r147.1])),AH (s112+1))) (next114 (s108,AH (s112+1)))) (IE ({ N:=a0.N,Edges:=s108 }:AL) fun r162=>Q r162)) (([]:List AM),0)
def UF (a0:AL) (Q:AL→Prop):Prop:=
  SN a0 fun r17=>Q r17
def NF (a0:AM) (Q:(AM×Bool)→Prop):Prop:=
  Q (a0,decide (a0.To<a0.From))
def SO (a0:AL) (Q:AL→Prop):Prop:=
  BD (fun (s:(List AM)×Int) (next114:((List AM)×Int)→Prop)=>match s with | (s108,s112)=>AQ (decide (s112<(a0.Edges.length:Int))) (BA a0.Edges s112 fun x131=>NF x131 fun r147=>AQ r147.2 (HN 24 s108 ([r147.1]) fun _=>next114 ((s108++([r147.1])),AH (s112+1))) (next114 (s108,AH (s112+1)))) (IE ({ N:=a0.N,Edges:=s108 }:AL) fun r162=>Q r162)) (([]:List AM),0)
def UG (a0:AL) (Q:AL→Prop):Prop:=
  SO a0 fun r17=>Q r17
def KM (a0:AM) (Q:(AM×Bool)→Prop):Prop:=
  Q (({ From:=a0.To,To:=a0.From,W:=a0.W }:AM),true)
def NG (a0:AL) (Q:AL→Prop):Prop:=
  BD (fun (s:(List AM)×Int) (next114:((List AM)×Int)→Prop)=>match s with | (s108,s112)=>AQ (decide (s112<(a0.Edges.length:Int))) (BA a0.Edges s112 fun x131=>KM x131 fun r147=>AQ r147.2 (HN 24 s108 ([r147.1]) fun _=>next114 ((s108++([r147.1])),AH (s112+1))) (next114 (s108,AH (s112+1)))) (IE ({ N:=a0.N,Edges:=s108 }:AL) fun r162=>Q r162)) (([]:List AM),0)
def OG (a0:AL) (Q:AL→Prop):Prop:=
  NG a0 fun r17=>Q r17
def FA (a1:Int) (Q:(List AM)→Prop):Prop:=
  AQ (decide (a1<0)) (False) (AQ (decide (0<(AH (a1 - (AH (0 - 0)))))) (grP 24 (AH (a1 - (AH (0 - 0)))) <| Q ([]:List AM)) (Q ([]:List AM)))
def DK (a0:List (List AM)) (Q:(List AM)→Prop):Prop:=
  BD (fun (s:Int×Int) (next161:(Int×Int)→Prop)=>match s with | (s159,s160)=>AQ (decide (s160<(a0.length:Int))) (BA a0 s160 fun x179=>AQ (decide ((AH (s159+(x179.length:Int)))<0)) (False) (next161 (AH (s159+(x179.length:Int)),AH (s160+1)))) (FA s159 fun r203=>BD (fun (s:(List AM)×Int) (next271:((List AM)×Int)→Prop)=>match s with | (s266,s270)=>AQ (decide (s270<(a0.length:Int))) (BA a0 s270 fun x278=>HN 24 s266 x278 fun _=>next271 ((s266++x278),AH (s270+1))) (Q s266)) (r203,0))) (0,0)
def W6 (a0:AL) (Q:AL→Prop):Prop:=
  OG a0 fun r15=>DK ([a0.Edges,r15.Edges]:List (List AM)) fun r31=>IE ({ N:=a0.N,Edges:=r31 }:AL) fun r42=>Q r42
def VK (a0:AL) (Q:AL→Prop):Prop:=
  W6 a0 fun r11=>UG r11 fun r21=>UF r21 fun r32=>Q r32
def RO (a0:AL) (Q:(Rows×Int)→Prop):Prop:=
  GW a0 fun r34=>AQ (r34 != 0) (Q (({ Rows:=0,Cols:=0,Start:=([]:List Int),Col:=([]:List Int),Val:=([]:List Int) }:Rows),r34)) (OG a0 fun r49=>BD (fun (s:(List AD)×Int) (next141:((List AD)×Int)→Prop)=>match s with | (s135,s139)=>AQ (decide (s139<(r49.Edges.length:Int))) (BA r49.Edges s139 fun x159=>HN 24 s135 ([({ Row:=x159.From,Col:=x159.To,Val:=x159.W }:AD)]) fun _=>next141 ((s135++([({ Row:=x159.From,Col:=x159.To,Val:=x159.W }:AD)])),AH (s139+1))) (OC a0.N a0.N s135 fun r180=>Q (r180,0))) (([]:List AD),0))
def MI (a0:AL) (a1:Int) (a2:Int) (Q:(BQ×Int)→Prop):Prop:=
  GW a0 fun r52=>AQ (r52 != 0) (Q (({ Ring:=0,A:=({ Rows:=0,Cols:=0,Start:=([]:List Int),Col:=([]:List Int),Val:=([]:List Int) }:Rows),B:=({ Rows:=0,Cols:=0,Start:=([]:List Int),Col:=([]:List Int),Val:=([]:List Int) }:Rows),Mask:=({ Rows:=0,Cols:=0,Start:=([]:List Int),Col:=([]:List Int),Val:=([]:List Int) }:Rows),R:=0,C:=0,Room:=0 }:BQ),r52)) (XH a1 fun r67=>AQ (!r67) (Q (({ Ring:=0,A:=({ Rows:=0,Cols:=0,Start:=([]:List Int),Col:=([]:List Int),Val:=([]:List Int) }:Rows),B:=({ Rows:=0,Cols:=0,Start:=([]:List Int),Col:=([]:List Int),Val:=([]:List Int) }:Rows),Mask:=({ Rows:=0,Cols:=0,Start:=([]:List Int),Col:=([]:List Int),Val:=([]:List Int) }:Rows),R:=0,C:=0,Room:=0 }:BQ),3)) (XH a2 fun r72=>AQ (!r72) (Q (({ Ring:=0,A:=({ Rows:=0,Cols:=0,Start:=([]:List Int),Col:=([]:List Int),Val:=([]:List Int) }:Rows),B:=({ Rows:=0,Cols:=0,Start:=([]:List Int),Col:=([]:List Int),Val:=([]:List Int) }:Rows),Mask:=({ Rows:=0,Cols:=0,Start:=([]:List Int),Col:=([]:List Int),Val:=([]:List Int) }:Rows),R:=0,C:=0,Room:=0 }:BQ),3)) (VK a0 fun r89=>RO r89 fun r109=>RO r89 fun r126=>RO r89 fun r143=>Q (({ Ring:=5,A:=r109.1,B:=r126.1,Mask:=r143.1,R:=a1,C:=a2,Room:=4 }:BQ),0))))
def SP (a0:Int) (a1:Rows) (Q:(Int×Int)→Prop):Prop:=
  MZ a0 fun r19=>AQ (!r19) (Q (0,8)) (KC a1 fun r34=>AQ ((r34.length:Int)==0) (RN a0 fun r50=>Q (r50,0)) (BA r34 0 fun x70=>JR x70.Val fun r78=>slP r34 1 (r34.length:Int) fun _=>BD (fun (s:Int×Int×Int) (next257:(Int×Int×Int)→Prop)=>match s with | (s254,s255,s256)=>AQ (decide (s256<(((r34.take (r34.length:Int).toNat).drop (Int.toNat 1)).length:Int))) (BA ((r34.take (r34.length:Int).toNat).drop (Int.toNat 1)) s256 fun x264=>JR x264.Val fun r274=>PK a0 ({ Hi:=s254,Lo:=s255 }:AP) r274 fun r278=>next257 (r278.Hi,r278.Lo,AH (s256+1))) (ID a0 ({ Hi:=s254,Lo:=s255 }:AP) fun r286=>AQ (!r286.2) (Q (0,12)) (Q (r286.1,0)))) (r78.Hi,r78.Lo,0)))
def W7 (a0:List (Int×Int×Int)) (a1:List (Int×Int×Int)) (Q:Bool→Prop):Prop:=
  AQ ((a0.length:Int) != (a1.length:Int)) (Q false) (BD (fun (s54:Int) (next55:Int→Prop)=>AQ (decide (s54<(a0.length:Int))) (BA a0 s54 fun x61=>BA a1 s54 fun x70=>AQ (!(x61==x70)) (Q false) (next55 (AH (s54+1)))) (Q true)) 0)
def UH (a0:AL) (Q:AL→Prop):Prop:=
  Q a0
def IR (a0:Int) (a1:Int) (a2:Int) (Q:Int→Prop):Prop:=
  OB a0 fun r1=>AQ (!r1) (Q (-1)) (AQ (decide (a1<0)) (Q (-1)) (AQ (decide (8≤a1)) (Q (-1)) (AQ (decide (a2<0)) (Q (-1)) (AQ (decide (a0≤a2)) (Q (-1)) (Q (AH ((AH (a1*a0))+a2)))))))
def UI (a0:Int) (Q:Int→Prop):Prop:=
  Q (shr .i64 (AH ((if 4096<(if 0 > a0 then 0 else a0) then 4096 else (if 0 > a0 then 0 else a0))+63)) 6)
def YD (a0:Int) (Q:(List Int)→Prop):Prop:=
  UI a0 fun r4=>mkP 8 r4 0 fun _=>Q (List.replicate r4.toNat 0)
def QU (a0:List Int) (a1:Int) (Q:Bool→Prop):Prop:=
  AQ (decide (0≤a1)) (Q (decide ((shr .i64 a1 6)<(a0.length:Int)))) (Q false)
def YE (a0:Int) (Q:Int→Prop):Prop:=
  nnP (fU .u64 (IntKind.wrap .u64 (a0)) 63) <| Q (shl .u64 1 (fU .u64 (IntKind.wrap .u64 (a0)) 63))
def bD (a0:Int) (a1:List Int) (Q:(List Int)→Prop):Prop:=
  YD a0 fun r18=>BD (fun (s:(List Int)×Int) (next157:((List Int)×Int)→Prop)=>match s with | (s152,s156)=>AQ (decide (s156<(a1.length:Int))) (BA a1 s156 fun x173=>FW (fun (k192:Bool→Prop)=>AQ (decide (x173<a0)) (QU s152 x173 fun r194=>k192 r194) (k192 false)) fun s191=>AQ s191 (BA s152 (shr .i64 x173 6) fun x205=>YE x173 fun r209=>BA s152 (shr .i64 x173 6) fun x214=>next157 ((s152.set ((shr .i64 x173 6).toNat) (bor .u64 x205 r209)),AH (s156+1))) (next157 (s152,AH (s156+1)))) (Q s152)) (r18,0)
def YF (a0:AL) (Q:(List (List Int))→Prop):Prop:=
  mkP 24 a0.N ([]:List Int) fun _=>VK a0 fun r219=>BD (fun (s:(List (List Int))×Int) (next344:((List (List Int))×Int)→Prop)=>match s with | (s339,s343)=>AQ (decide (s343<(r219.Edges.length:Int))) (BA r219.Edges s343 fun x362=>BA s339 x362.To fun x377=>HN 8 x377 ([x362.From]) fun _=>BA s339 x362.To fun x392=>next344 ((s339.set x362.To.toNat (x377++([x362.From]))),AH (s343+1))) (BD (fun (s:(List (List Int))×(List (List Int))×Int) (next510:((List (List Int))×(List (List Int))×Int)→Prop)=>match s with | (s495,s499,s503)=>AQ (decide (s503<(s339.length:Int))) (BA s499 s503 fun x519=>bD a0.N x519 fun r530=>HN 24 s495 ([r530]) fun _=>next510 ((s495++([r530])),s499,AH (s503+1))) (Q s495)) (([]:List (List Int)),s339,0))) ((List.replicate a0.N.toNat ([]:List Int)),0)
def SQ (a0:List Int) (Q:(List Int)→Prop):Prop:=
  Q a0
def OH (o0:Nat) (o1:List Int) (o2:List Int) (Y:Nat→(List Int)→Int→((Bool×Nat×(List Int))→Prop)→Prop) (Q:(Nat×(List Int))→Prop):Prop:=
  BD (fun (s:(List Int)×Int×Nat) (next257:((List Int)×Int×Nat)→Prop)=>match s with | (s251,s255,s256)=>AQ (decide (s255<(o2.length:Int))) (BA o2 s255 fun x272=>BD (fun (s:(List Int)×Int×Int×Nat) (next346:((List Int)×Int×Int×Nat)→Prop)=>match s with | (s339,s343,s344,s345)=>AQ (s343 != 0) (AQ ((fU .u64 s343 1)==1) (Y s345 s339 s344 fun r359=>AQ (!r359.1) (Q (r359.2.1,r359.2.2)) (next346 (r359.2.2,shr .u64 s343 1,AH (s344+1),r359.2.1))) (next346 (s339,shr .u64 s343 1,AH (s344+1),s345))) (next257 (s339,AH (s255+1),s345))) (s251,x272,shl .i64 s255 6,s256)) (Q (s256,s251))) (o1,0,o0)
def FJ (o0:List Int) (Q:(List Int)→Prop):Prop:=
  OH 0 ([]:List Int) o0 (fun (y40:Nat) (y41:List Int) (x47:Int) (Qy:(Bool×Nat×(List Int))→Prop)=>eqP y40 0 (HN 8 y41 ([x47]) fun _=>Qy (true,0,(y41++([x47]))))) fun r58=>eqP r58.1 0 (Q r58.2)
def IU (o0:List Int) (Q:(List Int)→Prop):Prop:=
  FJ o0 fun r12=>Q r12
def IV (a0:List Int) (Q:(List Int)→Prop):Prop:=
  SQ a0 fun r13=>IU r13 fun r25=>Q r25
def KN (a0:Int) (a1:Int) (Q:Int→Prop):Prop:=
  Q (fU .u64 a0 a1)
def SR (a0:Int) (a1:List Int) (a2:List Int) (Q:(List Int)→Prop):Prop:=
  mkP 8 a0 0 fun _=>BD (fun (s:(List Int)×Int) (next177:((List Int)×Int)→Prop)=>match s with | (s172,s176)=>AQ (decide (s176<((List.replicate a0.toNat (0:Int)).length:Int))) (FW (fun (k203:Int→Prop)=>AQ (decide (s176<(a1.length:Int))) (BA a1 s176 fun x206=>k203 x206) (k203 0)) fun s202=>AQ (decide (s176<(a2.length:Int))) (BA a2 s176 fun x219=>KN s202 x219 fun r233=>BA s172 s176 fun x237=>next177 ((s172.set s176.toNat r233),AH (s176+1))) (KN s202 0 fun r247=>BA s172 s176 fun x251=>next177 ((s172.set s176.toNat r247),AH (s176+1)))) (Q s172)) ((List.replicate a0.toNat 0),0)
def OI (a0:List Int) (a1:List Int) (Q:(List Int)→Prop):Prop:=
  SR (a0.length:Int) a0 a1 fun r16=>Q r16
def CC (o1:BQ) (o2:Int) (o3:List (Nat×AA)) (o4:AA) (a0:Int) (a1:Int) (a2:Int) (a3:List AD) (Q:AA→Prop):Prop:=
  IR o1.C o4.i o4.j fun r59=>IR o1.C a1 a2 fun r63=>HN 136 o4.out ([({ Kind:=a0,From:=r59,To:=r63,Seq:=0,Round:=o2,Vec:=({ N:=0,Items:=([]:List DS) }:Vec),Sums:=([]:List dG),Triples:=a3,N:=0,Over:=false }:BL)]) fun _=>Q ({ i:=o4.i,j:=o4.j,mask:=o4.mask,out:=(o4.out++([({ Kind:=a0,From:=r59,To:=r63,Seq:=0,Round:=o2,Vec:=({ N:=0,Items:=([]:List DS) }:Vec),Sums:=([]:List dG),Triples:=a3,N:=0,Over:=false }:BL)])),parts:=o4.parts,at_:=o4.at_,has:=o4.has }:AA)
def FS (o0:AB) (o1:AA) (o2:List (Nat×AA)) (a0:Int) (a1:BC) (Q:AA→Prop):Prop:=
  FW (fun (k645:(Int×Int×Int×Int×(List Int)×(List Int)×(List Int)×(List BL)×(List (AY×(List AD)))×Int×(List AK))→Prop)=>AQ (a1.Col==o1.j) (IM o0.p.A.Rows o0.p.R o1.i fun r678=>LP o0.p.A r678 (a1.From,a1.To) fun r682=>KC r682 fun r698=>BD (fun (s:Int×Int×Int×Int×(List Int)×(List Int)×(List Int)×(List BL)×(List (AY×(List AD)))×Int×(List AK)×Int) (next879:(Int×Int×Int×Int×(List Int)×(List Int)×(List Int)×(List BL)×(List (AY×(List AD)))×Int×(List AK)×Int)→Prop)=>match s with | (s852,s853,s854,s855,s856,s860,s864,s868,s872,s873,s874,s878)=>AQ (decide (s878<o0.p.C)) (CC o0.p a0 o2 ({ i:=s852,j:=s853,mask:=({ Rows:=s854,Cols:=s855,Start:=s856,Col:=s860,Val:=s864 }:Rows),out:=s868,parts:=s872,at_:=s873,has:=s874 }:AA) 6 s852 s878 r698 fun r891=>next879 (r891.i,r891.j,r891.mask.Rows,r891.mask.Cols,r891.mask.Start,r891.mask.Col,r891.mask.Val,r891.out,r891.parts,r891.at_,r891.has,AH (s878+1))) (k645 (s852,s853,s854,s855,s856,s860,s864,s868,s872,s873,s874))) (o1.i,o1.j,o1.mask.Rows,o1.mask.Cols,o1.mask.Start,o1.mask.Col,o1.mask.Val,o1.out,o1.parts,o1.at_,o1.has,0)) (k645 (o1.i,o1.j,o1.mask.Rows,o1.mask.Cols,o1.mask.Start,o1.mask.Col,o1.mask.Val,o1.out,o1.parts,o1.at_,o1.has))) fun (s619,s620,s621,s622,s623,s627,s631,s635,s639,s640,s641)=>AQ (a1.Row==s619) (IM o0.p.B.Cols o0.p.C s620 fun r950=>LP o0.p.B (a1.From,a1.To) r950 fun r954=>KC r954 fun r971=>BD (fun (s:Int×Int×Int×Int×(List Int)×(List Int)×(List Int)×(List BL)×(List (AY×(List AD)))×Int×(List AK)×Int) (next1152:(Int×Int×Int×Int×(List Int)×(List Int)×(List Int)×(List BL)×(List (AY×(List AD)))×Int×(List AK)×Int)→Prop)=>match s with | (s1125,s1126,s1127,s1128,s1129,s1133,s1137,s1141,s1145,s1146,s1147,s1151)=>AQ (decide (s1151<o0.p.R)) (CC o0.p a0 o2 ({ i:=s1125,j:=s1126,mask:=({ Rows:=s1127,Cols:=s1128,Start:=s1129,Col:=s1133,Val:=s1137 }:Rows),out:=s1141,parts:=s1145,at_:=s1146,has:=s1147 }:AA) 7 s1151 s1126 r971 fun r1164=>next1152 (r1164.i,r1164.j,r1164.mask.Rows,r1164.mask.Cols,r1164.mask.Start,r1164.mask.Col,r1164.mask.Val,r1164.out,r1164.parts,r1164.at_,r1164.has,AH (s1151+1))) (Q ({ i:=s1125,j:=s1126,mask:=({ Rows:=s1127,Cols:=s1128,Start:=s1129,Col:=s1133,Val:=s1137 }:Rows),out:=s1141,parts:=s1145,at_:=s1146,has:=s1147 }:AA))) (s619,s620,s621,s622,s623,s627,s631,s635,s639,s640,s641,0)) (Q ({ i:=s619,j:=s620,mask:=({ Rows:=s621,Cols:=s622,Start:=s623,Col:=s627,Val:=s631 }:Rows),out:=s635,parts:=s639,at_:=s640,has:=s641 }:AA))
def OY (o0:List (Nat×AA)) (o1:List (Nat×AF)) (a0:BQ) (Q0:(Int×(List (Nat×AA)))→Prop) (Q1:(Int×(List (Nat×AA))×AB)→Prop):Prop:=
  PI a0 fun r39=>AQ (r39 != 0) (Q0 (r39,o0)) (KY a0.A.Cols a0.R a0.C fun r59=>BD (fun (s:(List (Option Nat))×Int×(List (Nat×AA))) (next1279:((List (Option Nat))×Int×(List (Nat×AA)))→Prop)=>match s with | (s1272,s1276,s1277)=>AQ (decide (s1276<(AH (a0.R*a0.C)))) (VF a0.C s1276 fun r1293=>XC a0.C s1276 fun r1297=>RL a0.Mask a0.R a0.C r1293 r1297 fun r1323=>BD (fun (s:Int×Int×Int×Int×(List Int)×(List Int)×(List Int)×(List BL)×(List (AY×(List AD)))×Int×(List AK)×Int) (next1790:(Int×Int×Int×Int×(List Int)×(List Int)×(List Int)×(List BL)×(List (AY×(List AD)))×Int×(List AK)×Int)→Prop)=>match s with | (s1761,s1762,s1763,s1764,s1765,s1769,s1773,s1777,s1781,s1782,s1783,s1787)=>AQ (decide (s1787<(r59.length:Int))) (BA r59 s1787 fun x1798=>FS ({ p:=a0,stages:=r59,workers:=s1272,boxes:=([]:List ((Int×Int)×(Option Nat))) }:AB) ({ i:=s1761,j:=s1762,mask:=({ Rows:=s1763,Cols:=s1764,Start:=s1765,Col:=s1769,Val:=s1773 }:Rows),out:=s1777,parts:=s1781,at_:=s1782,has:=s1783 }:AA) s1277 s1787 x1798 fun r1814=>next1790 (r1814.i,r1814.j,r1814.mask.Rows,r1814.mask.Cols,r1814.mask.Start,r1814.mask.Col,r1814.mask.Val,r1814.out,r1814.parts,r1814.at_,r1814.has,AH (s1787+1))) (AhF s1277 fun b1343=>HN 8 s1272 ([(some b1343)]) fun _=>next1279 ((s1272++([(some b1343)])),AH (s1276+1),((b1343,({ i:=s1761,j:=s1762,mask:=({ Rows:=s1763,Cols:=s1764,Start:=s1765,Col:=s1769,Val:=s1773 }:Rows),out:=s1777,parts:=s1781,at_:=s1782,has:=s1783 }:AA)) :: s1277)))) (r1293,r1297,r1323.Rows,r1323.Cols,r1323.Start,r1323.Col,r1323.Val,([]:List BL),([]:List (AY×(List AD))),0,([]:List AK),0)) (Q1 (0,s1277,({ p:=a0,stages:=r59,workers:=s1272,boxes:=([]:List ((Int×Int)×(Option Nat))) }:AB)))) (([]:List (Option Nat)),0,o0))
def QA (a0:MY) (Q:Bool→Prop):Prop:=
  SG a0 fun r3=>Q (!r3)
def DQ (a0:List MY) (Q:Int→Prop):Prop:=
  BD (fun (s45:Int) (next46:Int→Prop)=>AQ (decide (s45<(a0.length:Int))) (BA a0 s45 fun x52=>QA x52 fun r66=>AQ r66 (Q s45) (next46 (AH (s45+1)))) (Q (-1))) 0
def BT (a0:List MY) (Q:Bool→Prop):Prop:=
  DQ a0 fun r10=>Q (decide (0≤r10))
def PM (o0:List (Nat×AA)) (o1:List (Nat×AF)) (a0:MY) (Q:Bool→Prop):Prop:=
  Q false
def HQ (o0:List (Nat×AA)) (Q:Bool→Prop):Prop:=
  Q false
def KZ (o0:List (Nat×AA)) (o1:List (Nat×AF))  : Prop:=
  False
def LB (o0:List (Nat×AA)) (Q:(Rows×Int)→Prop):Prop:=
  Q (({ Rows:=0,Cols:=0,Start:=([]:List Int),Col:=([]:List Int),Val:=([]:List Int) }:Rows),10)
def DW (o0:AB) (o1:List (Nat×AA)) (a0:Int) (Q:Bool→Prop):Prop:=
  AQ (decide (0≤a0)) (Q (decide (a0<(o0.workers.length:Int)))) (Q false)
def FT (o0:AB) (o1:List (Nat×AA)) (a0:Int) (Q:Int→Prop):Prop:=
  DW o0 o1 a0 fun r53=>AQ (!r53) (Q 0) (BA o0.workers a0 fun x56=>FY o1 x56 fun b64 x65=>Q (x65.out.length:Int))
def QV (a0:Int) (Q0:Int→Prop) (Q1:(Int×AF)→Prop):Prop:=
  AQ (decide (a0<1)) (Q0 3) (AQ (decide (64<a0)) (Q0 3) (Q1 (0,({ room:=a0,row:=([]:List Int),by_:=([]:List (Int×BL)),often:=([]:List (Int×Int)),sent:=0,taken:=0 }:AF))))
def CH (o0:AB) (o1:List (Nat×AA)) (o2:List (Nat×AF)) (a0:Int) (a1:Int) (Q0:(AB×(List (Nat×AF)))→Prop) (Q1:((Option Nat)×AB×(List (Nat×AF)))→Prop):Prop:=
  DW o0 o1 a0 fun r63=>AQ (!r63) (Q0 (o0,o2)) (DW o0 o1 a1 fun r71=>AQ (!r71) (Q0 (o0,o2)) (zX o0.boxes (a0,a1) none fun r84=>AQ r84.isNone (QV o0.p.Room (fun r97=>zX (EE (a0,a1) none o0.boxes) (a0,a1) none fun r110=>Q1 (r110,({ p:=o0.p,stages:=o0.stages,workers:=o0.workers,boxes:=(EE (a0,a1) none o0.boxes) }:AB),o2)) (fun r98=>AhF o2 fun b100=>zX (EE (a0,a1) (some b100) o0.boxes) (a0,a1) none fun r118=>Q1 (r118,({ p:=o0.p,stages:=o0.stages,workers:=o0.workers,boxes:=(EE (a0,a1) (some b100) o0.boxes) }:AB),((b100,r98.2) :: o2)))) (zX o0.boxes (a0,a1) none fun r124=>Q1 (r124,o0,o2))))
def NH (a0:BL) (Q:Int→Prop):Prop:=
  Q 10
def GX (o0:AF) (Q:Bool→Prop):Prop:=
  Q (decide (o0.room≤(o0.row.length:Int)))
def HR (o0:AF) (a0:Int) (Q:AF→Prop):Prop:=
  HN 8 o0.row ([a0]) fun _=>zX o0.often a0 0 fun r17=>Q ({ room:=o0.room,row:=(o0.row++([a0])),by_:=o0.by_,often:=(EE a0 (AH (r17+1)) o0.often),sent:=o0.sent,taken:=o0.taken }:AF)
def JT (o0:AF) (a0:BL) (Q:(Int×AF)→Prop):Prop:=
  GX o0 fun r38=>AQ r38 (Q (9,o0)) (XE a0 fun r57=>HR ({ room:=o0.room,row:=o0.row,by_:=(EE o0.sent ({ Kind:=r57.Kind,From:=r57.From,To:=r57.To,Seq:=o0.sent,Round:=r57.Round,Vec:=r57.Vec,Sums:=r57.Sums,Triples:=r57.Triples,N:=r57.N,Over:=r57.Over }:BL) o0.by_),often:=o0.often,sent:=o0.sent,taken:=o0.taken }:AF) o0.sent fun r98=>Q (0,({ room:=r98.room,row:=r98.row,by_:=r98.by_,often:=r98.often,sent:=AH (r98.sent+1),taken:=r98.taken }:AF)))
def OJ (o0:List (Nat×AF)) (a0:Option Nat) (a1:BL) (Q:(Int×(List (Nat×AF)))→Prop):Prop:=
  qZ a0 (NH a1 fun rr=>Q (rr,o0)) fun b=>vH o0 b fun x=>JT x a1 fun rr=>Q (rr.1,(b,rr.2) :: CG b o0)
def DA (o0:AB) (o1:List (Nat×AA)) (o2:List (Nat×AF)) (a0:Int) (Q:(Bool×AB×(List (Nat×AA))×(List (Nat×AF)))→Prop):Prop:=
  FT o0 o1 a0 fun r54=>AQ (r54==0) (Q (false,o0,o1,o2)) (BA o0.workers a0 fun x66=>FW (fun (k457:(Int×Int×Int×(List Int)×(List Int)×(List Int)×Int×Int×(List Int)×(List Int)×(List Int)×Int×Int×(List Int)×(List Int)×(List Int)×Int×Int×Int×(List BC)×(List (Option Nat))×(List ((Int×Int)×(Option Nat)))×(Option Nat)×(List (Nat×AF)))→Prop)=>FY o1 x66 fun b458 x459=>BA x459.out 0 fun x481=>BA x459.out 0 fun x499=>CH o0 (CG b458 o1) o2 a0 x481.To (fun r522=>NH x499 fun r607=>AQ (r607 != 0) (Q (false,r522.1,o1,r522.2)) (k457 (r522.1.p.Ring,r522.1.p.A.Rows,r522.1.p.A.Cols,r522.1.p.A.Start,r522.1.p.A.Col,r522.1.p.A.Val,r522.1.p.B.Rows,r522.1.p.B.Cols,r522.1.p.B.Start,r522.1.p.B.Col,r522.1.p.B.Val,r522.1.p.Mask.Rows,r522.1.p.Mask.Cols,r522.1.p.Mask.Start,r522.1.p.Mask.Col,r522.1.p.Mask.Val,r522.1.p.R,r522.1.p.C,r522.1.p.Room,r522.1.stages,r522.1.workers,r522.1.boxes,(some b458),r522.2))) (fun r561=>OJ r561.2.2 r561.1 x499 fun r618=>AQ (r618.1 != 0) (Q (false,r561.2.1,o1,r618.2)) (k457 (r561.2.1.p.Ring,r561.2.1.p.A.Rows,r561.2.1.p.A.Cols,r561.2.1.p.A.Start,r561.2.1.p.A.Col,r561.2.1.p.A.Val,r561.2.1.p.B.Rows,r561.2.1.p.B.Cols,r561.2.1.p.B.Start,r561.2.1.p.B.Col,r561.2.1.p.B.Val,r561.2.1.p.Mask.Rows,r561.2.1.p.Mask.Cols,r561.2.1.p.Mask.Start,r561.2.1.p.Mask.Col,r561.2.1.p.Mask.Val,r561.2.1.p.R,r561.2.1.p.C,r561.2.1.p.Room,r561.2.1.stages,r561.2.1.workers,r561.2.1.boxes,(some b458),r618.2)))) fun (s400,s401,s402,s403,s407,s411,s415,s416,s417,s421,s425,s429,s430,s431,s435,s439,s443,s444,s445,s446,s450,s454,s455,s456)=>FY o1 s455 fun b626 x627=>slP x627.out 1 (x627.out.length:Int) fun _=>Q (true,({ p:=({ Ring:=s400,A:=({ Rows:=s401,Cols:=s402,Start:=s403,Col:=s407,Val:=s411 }:Rows),B:=({ Rows:=s415,Cols:=s416,Start:=s417,Col:=s421,Val:=s425 }:Rows),Mask:=({ Rows:=s429,Cols:=s430,Start:=s431,Col:=s435,Val:=s439 }:Rows),R:=s443,C:=s444,Room:=s445 }:BQ),stages:=s446,workers:=s450,boxes:=s454 }:AB),((b626,({ i:=x627.i,j:=x627.j,mask:=x627.mask,out:=((x627.out.take (x627.out.length:Int).toNat).drop (Int.toNat 1)),parts:=x627.parts,at_:=x627.at_,has:=x627.has }:AA)) :: (CG b626 o1)),s456))
def FK (a0:Int) (Q:Int→Prop):Prop:=
  Q 10
def JU (a0:Int) (Q:(BL×Bool×Int)→Prop):Prop:=
  FK a0 fun r33=>AQ (r33 != 0) (Q (({ Kind:=0,From:=0,To:=0,Seq:=0,Round:=0,Vec:=({ N:=0,Items:=([]:List DS) }:Vec),Sums:=([]:List dG),Triples:=([]:List AD),N:=0,Over:=false }:BL),false,r33)) (False)
def GO (o0:AF) (a0:Int) (Q:Int→Prop):Prop:=
  AQ (decide (a0<0)) (Q 3) (AQ (decide ((o0.row.length:Int)≤a0)) (Q 3) (Q 0))
def DT (o0:List Int) (a0:Int) (a1:Int) (Q:(List Int)→Prop):Prop:=
  slP o0 a0 a1 fun _=>AQ (a0==a1) (Q o0) (slP o0 0 a0 fun _=>slP o0 a1 (o0.length:Int) fun _=>Q (o0.take a0.toNat++o0.drop a1.toNat))
def KO (o0:AF) (a0:Int) (Q:(BL×AF)→Prop):Prop:=
  BA o0.row a0 fun x21=>zX o0.by_ x21 ({ Kind:=0,From:=0,To:=0,Seq:=0,Round:=0,Vec:=({ N:=0,Items:=([]:List DS) }:Vec),Sums:=([]:List dG),Triples:=([]:List AD),N:=0,Over:=false }:BL) fun r42=>DT o0.row a0 (AH (a0+1)) fun r75=>zX o0.often x21 0 fun r85=>zX (EE x21 (AH (r85 - 1)) o0.often) x21 0 fun r97=>AQ (r97==0) (Q (r42,({ room:=o0.room,row:=r75,by_:=(CG x21 o0.by_),often:=(CG x21 (EE x21 (AH (r85 - 1)) o0.often)),sent:=o0.sent,taken:=o0.taken }:AF))) (Q (r42,({ room:=o0.room,row:=r75,by_:=o0.by_,often:=(EE x21 (AH (r85 - 1)) o0.often),sent:=o0.sent,taken:=o0.taken }:AF)))
def JV (o0:AF) (a0:Int) (Q:(BL×Bool×Int×AF)→Prop):Prop:=
  GO o0 a0 fun r50=>AQ (r50 != 0) (Q (({ Kind:=0,From:=0,To:=0,Seq:=0,Round:=0,Vec:=({ N:=0,Items:=([]:List DS) }:Vec),Sums:=([]:List dG),Triples:=([]:List AD),N:=0,Over:=false }:BL),false,r50,o0)) (BA o0.row a0 fun x54=>AQ (decide (o0.taken<x54)) (Q (({ Kind:=0,From:=0,To:=0,Seq:=0,Round:=0,Vec:=({ N:=0,Items:=([]:List DS) }:Vec),Sums:=([]:List dG),Triples:=([]:List AD),N:=0,Over:=false }:BL),false,r50,o0)) (KO o0 a0 fun r94=>AQ (decide (r94.1.Seq<r94.2.taken)) (Q (({ Kind:=0,From:=0,To:=0,Seq:=0,Round:=0,Vec:=({ N:=0,Items:=([]:List DS) }:Vec),Sums:=([]:List dG),Triples:=([]:List AD),N:=0,Over:=false }:BL),false,0,r94.2)) (XE r94.1 fun r119=>Q (r119,true,0,({ room:=r94.2.room,row:=r94.2.row,by_:=r94.2.by_,often:=r94.2.often,sent:=r94.2.sent,taken:=AH (r94.2.taken+1) }:AF)))))
def OL (o0:List (Nat×AF)) (a0:Option Nat) (a1:Int) (Q:(BL×Bool×Int×(List (Nat×AF)))→Prop):Prop:=
  qZ a0 (JU a1 fun rr=>Q (rr.1,rr.2.1,rr.2.2,o0)) fun b=>vH o0 b fun x=>JV x a1 fun rr=>Q (rr.1,rr.2.1,rr.2.2.1,(b,rr.2.2.2) :: CG b o0)
def CY (o0:AB) (o1:List (Nat×AA)) (a0:Option Nat) (Q:(Bool×(List (Nat×AA)))→Prop):Prop:=
  FY o1 a0 fun b62 x63=>AQ (decide ((o0.stages.length:Int)≤x63.at_)) (Q (false,o1)) (FY o1 (some b62) fun _ x112=>FY o1 (some b62) fun _ x169=>kW x169.parts ({ kind:=6,stage:=x112.at_ }:AY) ([]:List AD) fun r190 t195=>FY o1 (some b62) fun _ x231=>kW x231.parts ({ kind:=7,stage:=x112.at_ }:AY) ([]:List AD) fun r252 t257=>AQ (!t195) (Q (false,o1)) (AQ (!t257) (Q (false,o1)) (FY o1 (some b62) fun _ x306=>BA o0.stages x306.at_ fun x328=>BA o0.stages x306.at_ fun x337=>FY o1 (some b62) fun _ x386=>SJ o0.p.Ring x386.mask.Rows (AH (x328.To - x337.From)) r190 fun r408=>FY o1 (some b62) fun _ x467=>SJ o0.p.Ring (AH (x328.To - x337.From)) x467.mask.Cols r252 fun r489=>FY o1 (some b62) fun _ x541=>SK o0.p.Ring r408.1 r489.1 x541.mask fun r562=>FY o1 (some b62) fun _ x613=>OE o0.p.Ring ([x613.has,r562.1]:List (List AK)) fun r640=>FY ((b62,({ i:=x613.i,j:=x613.j,mask:=x613.mask,out:=x613.out,parts:=x613.parts,at_:=x613.at_,has:=r640.1 }:AA)) :: (CG b62 o1)) (some b62) fun _ x674=>FY ((b62,({ i:=x674.i,j:=x674.j,mask:=x674.mask,out:=x674.out,parts:=(CG ({ kind:=6,stage:=x112.at_ }:AY) x674.parts),at_:=x674.at_,has:=x674.has }:AA)) :: (CG b62 ((b62,({ i:=x613.i,j:=x613.j,mask:=x613.mask,out:=x613.out,parts:=x613.parts,at_:=x613.at_,has:=r640.1 }:AA)) :: (CG b62 o1)))) (some b62) fun _ x718=>FY ((b62,({ i:=x718.i,j:=x718.j,mask:=x718.mask,out:=x718.out,parts:=(CG ({ kind:=7,stage:=x112.at_ }:AY) x718.parts),at_:=x718.at_,has:=x718.has }:AA)) :: (CG b62 ((b62,({ i:=x674.i,j:=x674.j,mask:=x674.mask,out:=x674.out,parts:=(CG ({ kind:=6,stage:=x112.at_ }:AY) x674.parts),at_:=x674.at_,has:=x674.has }:AA)) :: (CG b62 ((b62,({ i:=x613.i,j:=x613.j,mask:=x613.mask,out:=x613.out,parts:=x613.parts,at_:=x613.at_,has:=r640.1 }:AA)) :: (CG b62 o1)))))) (some b62) fun _ x740=>Q (true,((b62,({ i:=x740.i,j:=x740.j,mask:=x740.mask,out:=x740.out,parts:=x740.parts,at_:=AH (x740.at_+1),has:=x740.has }:AA)) :: (CG b62 ((b62,({ i:=x718.i,j:=x718.j,mask:=x718.mask,out:=x718.out,parts:=(CG ({ kind:=7,stage:=x112.at_ }:AY) x718.parts),at_:=x718.at_,has:=x718.has }:AA)) :: (CG b62 ((b62,({ i:=x674.i,j:=x674.j,mask:=x674.mask,out:=x674.out,parts:=(CG ({ kind:=6,stage:=x112.at_ }:AY) x674.parts),at_:=x674.at_,has:=x674.has }:AA)) :: (CG b62 ((b62,({ i:=x613.i,j:=x613.j,mask:=x613.mask,out:=x613.out,parts:=x613.parts,at_:=x613.at_,has:=r640.1 }:AA)) :: (CG b62 o1))))))))))))
def DB (o0:AB) (o1:List (Nat×AA)) (o2:List (Nat×AF)) (a0:Int) (a1:Int) (a2:Int) (Q:(Bool×AB×(List (Nat×AA))×(List (Nat×AF)))→Prop):Prop:=
  CH o0 o1 o2 a0 a1 (fun r292=>JU a2 fun r376=>AQ (!r376.2.1) (Q (false,r292.1,o1,r292.2)) (BA r292.1.workers a1 fun x401=>FY o1 x401 fun b431 x432=>BD (fun (s476:(List (Nat×AA))) (next477:(List (Nat×AA))→Prop)=>CY r292.1 s476 (some b431) fun r487=>AQ r487.1 (next477 r487.2) (Q (true,r292.1,r487.2,r292.2))) ((b431,({ i:=x432.i,j:=x432.j,mask:=x432.mask,out:=x432.out,parts:=(EE ({ kind:=r376.1.Kind,stage:=r376.1.Round }:AY) r376.1.Triples x432.parts),at_:=x432.at_,has:=x432.has }:AA)) :: (CG b431 o1)))) (fun r331=>OL r331.2.2 r331.1 a2 fun r498=>AQ (!r498.2.1) (Q (false,r331.2.1,o1,r498.2.2.2)) (BA r331.2.1.workers a1 fun x524=>FY o1 x524 fun b554 x555=>BD (fun (s599:(List (Nat×AA))) (next600:(List (Nat×AA))→Prop)=>CY r331.2.1 s599 (some b554) fun r610=>AQ r610.1 (next600 r610.2) (Q (true,r331.2.1,r610.2,r498.2.2.2))) ((b554,({ i:=x555.i,j:=x555.j,mask:=x555.mask,out:=x555.out,parts:=(EE ({ kind:=r498.1.Kind,stage:=r498.1.Round }:AY) r498.1.Triples x555.parts),at_:=x555.at_,has:=x555.has }:AA)) :: (CG b554 o1))))
def UJ   : Prop:=
  False
def HJ (a0:Int) (Q:Int→Prop):Prop:=
  FK a0 fun r15=>AQ (r15 != 0) (Q r15) (UJ )
def HK (o0:AF) (a0:Int) (Q:(Int×AF)→Prop):Prop:=
  GO o0 a0 fun r25=>AQ (r25 != 0) (Q (r25,o0)) (GX o0 fun r42=>AQ r42 (Q (9,o0)) (BA o0.row a0 fun x46=>HR o0 x46 fun r56=>Q (0,r56)))
def LY (o0:List (Nat×AF)) (a0:Option Nat) (a1:Int) (Q:(Int×(List (Nat×AF)))→Prop):Prop:=
  qZ a0 (HJ a1 fun rr=>Q (rr,o0)) fun b=>vH o0 b fun x=>HK x a1 fun rr=>Q (rr.1,(b,rr.2) :: CG b o0)
def JW (a0:Int) (Q:Int→Prop):Prop:=
  FK a0 fun r15=>AQ (r15 != 0) (Q r15) (False)
def JX (o0:AF) (a0:Int) (Q:(Int×AF)→Prop):Prop:=
  GO o0 a0 fun r25=>AQ (r25 != 0) (Q (r25,o0)) (BA o0.row a0 fun x33=>DT o0.row a0 (AH (a0+1)) fun r43=>HN 8 r43 ([x33]) fun _=>Q (0,({ room:=o0.room,row:=(r43++([x33])),by_:=o0.by_,often:=o0.often,sent:=o0.sent,taken:=o0.taken }:AF)))
def OM (o0:List (Nat×AF)) (a0:Option Nat) (a1:Int) (Q:(Int×(List (Nat×AF)))→Prop):Prop:=
  qZ a0 (JW a1 fun rr=>Q (rr,o0)) fun b=>vH o0 b fun x=>JX x a1 fun rr=>Q (rr.1,(b,rr.2) :: CG b o0)
def HS (o0:AF) (Q:Int→Prop):Prop:=
  Q (o0.row.length:Int)
def ON  (Q:Int→Prop):Prop:=
  Q 0
def GP (o0:List (Nat×AF)) (a0:Option Nat) (Q:Int→Prop):Prop:=
  qZ a0 (ON  fun rr=>Q rr) fun b=>vH o0 b fun x=>HS x  fun rr=>Q rr
def JJ (o0:Int) (a0:Int) (Q:Bool→Prop):Prop:=
  Q (a0==o0)
def EA (o0:List Int) (o1:Int) (Q:Int→Prop):Prop:=
  BD (fun (s39:Int) (next40:Int→Prop)=>AQ (decide (s39<(o0.length:Int))) (BA o0 s39 fun x46=>JJ o1 x46 fun r56=>AQ r56 (Q s39) (next40 (AH (s39+1)))) (Q (-1))) 0
def HL (o0:AF) (Q:Int→Prop):Prop:=
  HS o0 fun r25=>AQ (r25==0) (Q (-1)) (IQ o0.row fun r27=>EA o0.row r27 fun r39=>Q r39)
def QH  (Q:Int→Prop):Prop:=
  ON  fun r15=>AQ (r15==0) (Q (-1)) (False)
def IW (o0:List (Nat×AF)) (a0:Option Nat) (Q:Int→Prop):Prop:=
  qZ a0 (QH  fun rr=>Q rr) fun b=>vH o0 b fun x=>HL x  fun rr=>Q rr
def DY (o0:AB) (o1:List (Nat×AA)) (o2:List (Nat×AF)) (Q:(Bool×AB×(List (Nat×AA))×(List (Nat×AF)))→Prop):Prop:=
  BD (fun (s:Int×Int×Int×(List Int)×(List Int)×(List Int)×Int×Int×(List Int)×(List Int)×(List Int)×Int×Int×(List Int)×(List Int)×(List Int)×Int×Int×Int×(List BC)×(List (Option Nat))×(List ((Int×Int)×(Option Nat)))×Bool×Int×(List (Nat×AA))×(List (Nat×AF))) (next761:(Int×Int×Int×(List Int)×(List Int)×(List Int)×Int×Int×(List Int)×(List Int)×(List Int)×Int×Int×(List Int)×(List Int)×(List Int)×Int×Int×Int×(List BC)×(List (Option Nat))×(List ((Int×Int)×(Option Nat)))×Bool×Int×(List (Nat×AA))×(List (Nat×AF)))→Prop)=>match s with | (s702,s703,s704,s705,s709,s713,s717,s718,s719,s723,s727,s731,s732,s733,s737,s741,s745,s746,s747,s748,s752,s756,s757,s758,s759,s760)=>AQ (decide (s758<(o0.workers.length:Int))) (DA ({ p:=({ Ring:=s702,A:=({ Rows:=s703,Cols:=s704,Start:=s705,Col:=s709,Val:=s713 }:Rows),B:=({ Rows:=s717,Cols:=s718,Start:=s719,Col:=s723,Val:=s727 }:Rows),Mask:=({ Rows:=s731,Cols:=s732,Start:=s733,Col:=s737,Val:=s741 }:Rows),R:=s745,C:=s746,Room:=s747 }:BQ),stages:=s748,workers:=s752,boxes:=s756 }:AB) s759 s760 s758 fun r772=>AQ r772.1 (next761 (r772.2.1.p.Ring,r772.2.1.p.A.Rows,r772.2.1.p.A.Cols,r772.2.1.p.A.Start,r772.2.1.p.A.Col,r772.2.1.p.A.Val,r772.2.1.p.B.Rows,r772.2.1.p.B.Cols,r772.2.1.p.B.Start,r772.2.1.p.B.Col,r772.2.1.p.B.Val,r772.2.1.p.Mask.Rows,r772.2.1.p.Mask.Cols,r772.2.1.p.Mask.Start,r772.2.1.p.Mask.Col,r772.2.1.p.Mask.Val,r772.2.1.p.R,r772.2.1.p.C,r772.2.1.p.Room,r772.2.1.stages,r772.2.1.workers,r772.2.1.boxes,true,AH (s758+1),r772.2.2.1,r772.2.2.2)) (next761 (r772.2.1.p.Ring,r772.2.1.p.A.Rows,r772.2.1.p.A.Cols,r772.2.1.p.A.Start,r772.2.1.p.A.Col,r772.2.1.p.A.Val,r772.2.1.p.B.Rows,r772.2.1.p.B.Cols,r772.2.1.p.B.Start,r772.2.1.p.B.Col,r772.2.1.p.B.Val,r772.2.1.p.Mask.Rows,r772.2.1.p.Mask.Cols,r772.2.1.p.Mask.Start,r772.2.1.p.Mask.Col,r772.2.1.p.Mask.Val,r772.2.1.p.R,r772.2.1.p.C,r772.2.1.p.Room,r772.2.1.stages,r772.2.1.workers,r772.2.1.boxes,s757,AH (s758+1),r772.2.2.1,r772.2.2.2))) (BD (fun (s:Int×Int×Int×(List Int)×(List Int)×(List Int)×Int×Int×(List Int)×(List Int)×(List Int)×Int×Int×(List Int)×(List Int)×(List Int)×Int×Int×Int×(List BC)×(List (Option Nat))×(List ((Int×Int)×(Option Nat)))×Bool×Int×(List (Nat×AA))×(List (Nat×AF))) (next2118:(Int×Int×Int×(List Int)×(List Int)×(List Int)×Int×Int×(List Int)×(List Int)×(List Int)×Int×Int×(List Int)×(List Int)×(List Int)×Int×Int×Int×(List BC)×(List (Option Nat))×(List ((Int×Int)×(Option Nat)))×Bool×Int×(List (Nat×AA))×(List (Nat×AF)))→Prop)=>match s with | (s2059,s2060,s2061,s2062,s2066,s2070,s2074,s2075,s2076,s2080,s2084,s2088,s2089,s2090,s2094,s2098,s2102,s2103,s2104,s2105,s2109,s2113,s2114,s2115,s2116,s2117)=>AQ (decide (s2115<(s752.length:Int))) (BD (fun (s:Int×Int×Int×(List Int)×(List Int)×(List Int)×Int×Int×(List Int)×(List Int)×(List Int)×Int×Int×(List Int)×(List Int)×(List Int)×Int×Int×Int×(List BC)×(List (Option Nat))×(List ((Int×Int)×(Option Nat)))×Bool×Int×(List (Nat×AA))×(List (Nat×AF))) (next2564:(Int×Int×Int×(List Int)×(List Int)×(List Int)×Int×Int×(List Int)×(List Int)×(List Int)×Int×Int×(List Int)×(List Int)×(List Int)×Int×Int×Int×(List BC)×(List (Option Nat))×(List ((Int×Int)×(Option Nat)))×Bool×Int×(List (Nat×AA))×(List (Nat×AF)))→Prop)=>match s with | (s2505,s2506,s2507,s2508,s2512,s2516,s2520,s2521,s2522,s2526,s2530,s2534,s2535,s2536,s2540,s2544,s2548,s2549,s2550,s2551,s2555,s2559,s2560,s2561,s2562,s2563)=>AQ (decide (s2561<(s2109.length:Int))) (zX s2559 (s2115,s2561) none fun r2577=>GP s2563 r2577 fun r2599=>IW s2563 r2577 fun r2609=>DB ({ p:=({ Ring:=s2505,A:=({ Rows:=s2506,Cols:=s2507,Start:=s2508,Col:=s2512,Val:=s2516 }:Rows),B:=({ Rows:=s2520,Cols:=s2521,Start:=s2522,Col:=s2526,Val:=s2530 }:Rows),Mask:=({ Rows:=s2534,Cols:=s2535,Start:=s2536,Col:=s2540,Val:=s2544 }:Rows),R:=s2548,C:=s2549,Room:=s2550 }:BQ),stages:=s2551,workers:=s2555,boxes:=s2559 }:AB) s2562 s2563 s2115 s2561 r2609 fun r2619=>AQ s2560 (next2564 (r2619.2.1.p.Ring,r2619.2.1.p.A.Rows,r2619.2.1.p.A.Cols,r2619.2.1.p.A.Start,r2619.2.1.p.A.Col,r2619.2.1.p.A.Val,r2619.2.1.p.B.Rows,r2619.2.1.p.B.Cols,r2619.2.1.p.B.Start,r2619.2.1.p.B.Col,r2619.2.1.p.B.Val,r2619.2.1.p.Mask.Rows,r2619.2.1.p.Mask.Cols,r2619.2.1.p.Mask.Start,r2619.2.1.p.Mask.Col,r2619.2.1.p.Mask.Val,r2619.2.1.p.R,r2619.2.1.p.C,r2619.2.1.p.Room,r2619.2.1.stages,r2619.2.1.workers,r2619.2.1.boxes,true,AH (s2561+1),r2619.2.2.1,r2619.2.2.2)) (GP r2619.2.2.2 r2577 fun r2669=>next2564 (r2619.2.1.p.Ring,r2619.2.1.p.A.Rows,r2619.2.1.p.A.Cols,r2619.2.1.p.A.Start,r2619.2.1.p.A.Col,r2619.2.1.p.A.Val,r2619.2.1.p.B.Rows,r2619.2.1.p.B.Cols,r2619.2.1.p.B.Start,r2619.2.1.p.B.Col,r2619.2.1.p.B.Val,r2619.2.1.p.Mask.Rows,r2619.2.1.p.Mask.Cols,r2619.2.1.p.Mask.Start,r2619.2.1.p.Mask.Col,r2619.2.1.p.Mask.Val,r2619.2.1.p.R,r2619.2.1.p.C,r2619.2.1.p.Room,r2619.2.1.stages,r2619.2.1.workers,r2619.2.1.boxes,decide (r2669<r2599),AH (s2561+1),r2619.2.2.1,r2619.2.2.2))) (next2118 (s2505,s2506,s2507,s2508,s2512,s2516,s2520,s2521,s2522,s2526,s2530,s2534,s2535,s2536,s2540,s2544,s2548,s2549,s2550,s2551,s2555,s2559,s2560,AH (s2115+1),s2562,s2563))) (s2059,s2060,s2061,s2062,s2066,s2070,s2074,s2075,s2076,s2080,s2084,s2088,s2089,s2090,s2094,s2098,s2102,s2103,s2104,s2105,s2109,s2113,s2114,0,s2116,s2117)) (Q (s2114,({ p:=({ Ring:=s2059,A:=({ Rows:=s2060,Cols:=s2061,Start:=s2062,Col:=s2066,Val:=s2070 }:Rows),B:=({ Rows:=s2074,Cols:=s2075,Start:=s2076,Col:=s2080,Val:=s2084 }:Rows),Mask:=({ Rows:=s2088,Cols:=s2089,Start:=s2090,Col:=s2094,Val:=s2098 }:Rows),R:=s2102,C:=s2103,Room:=s2104 }:BQ),stages:=s2105,workers:=s2109,boxes:=s2113 }:AB),s2116,s2117))) (s702,s703,s704,s705,s709,s713,s717,s718,s719,s723,s727,s731,s732,s733,s737,s741,s745,s746,s747,s748,s752,s756,s757,0,s759,s760))) (o0.p.Ring,o0.p.A.Rows,o0.p.A.Cols,o0.p.A.Start,o0.p.A.Col,o0.p.A.Val,o0.p.B.Rows,o0.p.B.Cols,o0.p.B.Start,o0.p.B.Col,o0.p.B.Val,o0.p.Mask.Rows,o0.p.Mask.Cols,o0.p.Mask.Start,o0.p.Mask.Col,o0.p.Mask.Val,o0.p.R,o0.p.C,o0.p.Room,o0.stages,o0.workers,o0.boxes,false,0,o1,o2)
def GY (o0:AB) (o1:List (Nat×AA)) (o2:List (Nat×AF)) (a0:MY) (Q:(Bool×AB×(List (Nat×AA))×(List (Nat×AF)))→Prop):Prop:=
  SG a0 fun r49=>AQ (!r49) (Q (false,o0,o1,o2)) (AQ (a0.Kind==1) (DA o0 o1 o2 a0.A fun r61=>Q (r61.1,r61.2.1,r61.2.2.1,r61.2.2.2)) (AQ (a0.Kind==2) (DB o0 o1 o2 a0.A a0.B a0.K fun r108=>Q (r108.1,r108.2.1,r108.2.2.1,r108.2.2.2)) (AQ (a0.Kind==3) (CH o0 o1 o2 a0.A a0.B (fun r155=>HJ a0.K fun r239=>Q (r239==0,r155.1,o1,r155.2)) (fun r194=>LY r194.2.2 r194.1 a0.K fun r247=>Q (r247.1==0,r194.2.1,o1,r247.2))) (AQ (a0.Kind==4) (CH o0 o1 o2 a0.A a0.B (fun r257=>JW a0.K fun r341=>Q (r341==0,r257.1,o1,r257.2)) (fun r296=>OM r296.2.2 r296.1 a0.K fun r349=>Q (r349.1==0,r296.2.1,o1,r349.2))) (DY o0 o1 o2 fun r358=>Q (r358.1,r358.2.1,r358.2.2.1,r358.2.2.2))))))
def GL (o1:List (Nat×AA)) (o2:AB) (a0:Option Nat) (Q:Bool→Prop):Prop:=
  FY o1 a0 fun b41 x42=>Q (decide (x42.at_<(o2.stages.length:Int)))
def CL (o1:List (Nat×AA)) (o2:AB) (a0:List (Option Nat)) (Q:Int→Prop):Prop:=
  BD (fun (s85:Int) (next86:Int→Prop)=>AQ (decide (s85<(a0.length:Int))) (BA a0 s85 fun x92=>GL o1 o2 x92 fun r106=>AQ r106 (Q s85) (next86 (AH (s85+1)))) (Q (-1))) 0
def CI (o1:List (Nat×AA)) (o2:AB) (a0:List (Option Nat)) (Q:Bool→Prop):Prop:=
  CL o1 o2 a0 fun r50=>Q (decide (0≤r50))
def DI (o0:AB) (o1:List (Nat×AA)) (Q:Bool→Prop):Prop:=
  CI o1 o0 o0.workers fun r49=>Q (!r49)
def EF (o0:AB) (o1:List (Nat×AA)) (Q:(List AK)→Prop):Prop:=
  BD (fun (s:(List AK)×Int) (next536:((List AK)×Int)→Prop)=>match s with | (s530,s534)=>AQ (decide (s534<(o0.workers.length:Int))) (BA o0.workers s534 fun x551=>FY o1 x551 fun b589 x590=>FN o0.p.A.Rows o0.p.R x590.i fun r611=>FN o0.p.B.Cols o0.p.C x590.j fun r615=>FY o1 (some b589) fun _ x642=>BD (fun (s:(List AK)×Int) (next743:((List AK)×Int)→Prop)=>match s with | (s738,s742)=>AQ (decide (s742<(x642.has.length:Int))) (BA x642.has s742 fun x761=>HN 32 s738 ([({ Row:=AH (x761.Row+r611),Col:=AH (x761.Col+r615),Val:=x761.Val }:AK)]) fun _=>next743 ((s738++([({ Row:=AH (x761.Row+r611),Col:=AH (x761.Col+r615),Val:=x761.Val }:AK)])),AH (s742+1))) (next536 (s738,AH (s534+1)))) (s530,0)) (qY GJ s530 fun y783=>Q y783)) (([]:List AK),0)
def DZ (o0:AB) (o1:List (Nat×AA)) (Q:(Rows×Int)→Prop):Prop:=
  EF o0 o1 fun r49=>YC o0.p.Ring o0.p.A.Rows o0.p.B.Cols r49 fun r53=>Q (r53.1,r53.2)
def RP (a0:BQ) (a1:List MY) (a2:Int) (Q:(Rows×Bool×Int)→Prop):Prop:=
  OY ([]:List (Nat×AA)) ([]:List (Nat×AF)) a0 (fun r150=>AQ (r150.1 != 0) (Q (({ Rows:=0,Cols:=0,Start:=([]:List Int),Col:=([]:List Int),Val:=([]:List Int) }:Rows),false,r150.1)) (AQ (decide (1048576<(a1.length:Int))) (Q (({ Rows:=0,Cols:=0,Start:=([]:List Int),Col:=([]:List Int),Val:=([]:List Int) }:Rows),false,5)) (BT a1 fun r228=>AQ r228 (Q (({ Rows:=0,Cols:=0,Start:=([]:List Int),Col:=([]:List Int),Val:=([]:List Int) }:Rows),false,8)) (AQ (decide (a2<0)) (Q (({ Rows:=0,Cols:=0,Start:=([]:List Int),Col:=([]:List Int),Val:=([]:List Int) }:Rows),false,3)) (AQ (decide (1048576<a2)) (Q (({ Rows:=0,Cols:=0,Start:=([]:List Int),Col:=([]:List Int),Val:=([]:List Int) }:Rows),false,3)) (BD (fun (s350:Int) (next351:Int→Prop)=>AQ (decide (s350<(a1.length:Int))) (BA a1 s350 fun x358=>PM r150.2 ([]:List (Nat×AF)) x358 fun r374=>next351 (AH (s350+1))) (FW (fun (k457:Unit→Prop)=>BD (fun (_:Unit) (next475:Unit→Prop)=>AQ (decide (0<a2)) (HQ r150.2 fun r487=>AQ (!r487) (KZ r150.2 ([]:List (Nat×AF))) (k457 ())) (k457 ())) ()) fun _=>LB r150.2 fun r508=>HQ r150.2 fun r529=>Q (r508.1,r529,r508.2))) 0)))))) (fun r152=>AQ (r152.1 != 0) (Q (({ Rows:=0,Cols:=0,Start:=([]:List Int),Col:=([]:List Int),Val:=([]:List Int) }:Rows),false,r152.1)) (AQ (decide (1048576<(a1.length:Int))) (Q (({ Rows:=0,Cols:=0,Start:=([]:List Int),Col:=([]:List Int),Val:=([]:List Int) }:Rows),false,5)) (BT a1 fun r570=>AQ r570 (Q (({ Rows:=0,Cols:=0,Start:=([]:List Int),Col:=([]:List Int),Val:=([]:List Int) }:Rows),false,8)) (AQ (decide (a2<0)) (Q (({ Rows:=0,Cols:=0,Start:=([]:List Int),Col:=([]:List Int),Val:=([]:List Int) }:Rows),false,3)) (AQ (decide (1048576<a2)) (Q (({ Rows:=0,Cols:=0,Start:=([]:List Int),Col:=([]:List Int),Val:=([]:List Int) }:Rows),false,3)) (BD (fun (s:Int×Int×Int×(List Int)×(List Int)×(List Int)×Int×Int×(List Int)×(List Int)×(List Int)×Int×Int×(List Int)×(List Int)×(List Int)×Int×Int×Int×(List BC)×(List (Option Nat))×(List ((Int×Int)×(Option Nat)))×Int×(List (Nat×AA))×(List (Nat×AF))) (next1344:(Int×Int×Int×(List Int)×(List Int)×(List Int)×Int×Int×(List Int)×(List Int)×(List Int)×Int×Int×(List Int)×(List Int)×(List Int)×Int×Int×Int×(List BC)×(List (Option Nat))×(List ((Int×Int)×(Option Nat)))×Int×(List (Nat×AA))×(List (Nat×AF)))→Prop)=>match s with | (s1286,s1287,s1288,s1289,s1293,s1297,s1301,s1302,s1303,s1307,s1311,s1315,s1316,s1317,s1321,s1325,s1329,s1330,s1331,s1332,s1336,s1340,s1341,s1342,s1343)=>AQ (decide (s1341<(a1.length:Int))) (BA a1 s1341 fun x1351=>GY ({ p:=({ Ring:=s1286,A:=({ Rows:=s1287,Cols:=s1288,Start:=s1289,Col:=s1293,Val:=s1297 }:Rows),B:=({ Rows:=s1301,Cols:=s1302,Start:=s1303,Col:=s1307,Val:=s1311 }:Rows),Mask:=({ Rows:=s1315,Cols:=s1316,Start:=s1317,Col:=s1321,Val:=s1325 }:Rows),R:=s1329,C:=s1330,Room:=s1331 }:BQ),stages:=s1332,workers:=s1336,boxes:=s1340 }:AB) s1342 s1343 x1351 fun r1367=>next1344 (r1367.2.1.p.Ring,r1367.2.1.p.A.Rows,r1367.2.1.p.A.Cols,r1367.2.1.p.A.Start,r1367.2.1.p.A.Col,r1367.2.1.p.A.Val,r1367.2.1.p.B.Rows,r1367.2.1.p.B.Cols,r1367.2.1.p.B.Start,r1367.2.1.p.B.Col,r1367.2.1.p.B.Val,r1367.2.1.p.Mask.Rows,r1367.2.1.p.Mask.Cols,r1367.2.1.p.Mask.Start,r1367.2.1.p.Mask.Col,r1367.2.1.p.Mask.Val,r1367.2.1.p.R,r1367.2.1.p.C,r1367.2.1.p.Room,r1367.2.1.stages,r1367.2.1.workers,r1367.2.1.boxes,AH (s1341+1),r1367.2.2.1,r1367.2.2.2)) (FW (fun (k2302:(Int×Int×Int×(List Int)×(List Int)×(List Int)×Int×Int×(List Int)×(List Int)×(List Int)×Int×Int×(List Int)×(List Int)×(List Int)×Int×Int×Int×(List BC)×(List (Option Nat))×(List ((Int×Int)×(Option Nat)))×(List (Nat×AA))×(List (Nat×AF)))→Prop)=>BD (fun (s:Int×Int×Int×(List Int)×(List Int)×(List Int)×Int×Int×(List Int)×(List Int)×(List Int)×Int×Int×(List Int)×(List Int)×(List Int)×Int×Int×Int×(List BC)×(List (Option Nat))×(List ((Int×Int)×(Option Nat)))×Int×(List (Nat×AA))×(List (Nat×AF))) (next2655:(Int×Int×Int×(List Int)×(List Int)×(List Int)×Int×Int×(List Int)×(List Int)×(List Int)×Int×Int×(List Int)×(List Int)×(List Int)×Int×Int×Int×(List BC)×(List (Option Nat))×(List ((Int×Int)×(Option Nat)))×Int×(List (Nat×AA))×(List (Nat×AF)))→Prop)=>match s with | (s2597,s2598,s2599,s2600,s2604,s2608,s2612,s2613,s2614,s2618,s2622,s2626,s2627,s2628,s2632,s2636,s2640,s2641,s2642,s2643,s2647,s2651,s2652,s2653,s2654)=>AQ (decide (s2652<a2)) (DI ({ p:=({ Ring:=s2597,A:=({ Rows:=s2598,Cols:=s2599,Start:=s2600,Col:=s2604,Val:=s2608 }:Rows),B:=({ Rows:=s2612,Cols:=s2613,Start:=s2614,Col:=s2618,Val:=s2622 }:Rows),Mask:=({ Rows:=s2626,Cols:=s2627,Start:=s2628,Col:=s2632,Val:=s2636 }:Rows),R:=s2640,C:=s2641,Room:=s2642 }:BQ),stages:=s2643,workers:=s2647,boxes:=s2651 }:AB) s2653 fun r2667=>AQ (!r2667) (DY ({ p:=({ Ring:=s2597,A:=({ Rows:=s2598,Cols:=s2599,Start:=s2600,Col:=s2604,Val:=s2608 }:Rows),B:=({ Rows:=s2612,Cols:=s2613,Start:=s2614,Col:=s2618,Val:=s2622 }:Rows),Mask:=({ Rows:=s2626,Cols:=s2627,Start:=s2628,Col:=s2632,Val:=s2636 }:Rows),R:=s2640,C:=s2641,Room:=s2642 }:BQ),stages:=s2643,workers:=s2647,boxes:=s2651 }:AB) s2653 s2654 fun r2678=>next2655 (r2678.2.1.p.Ring,r2678.2.1.p.A.Rows,r2678.2.1.p.A.Cols,r2678.2.1.p.A.Start,r2678.2.1.p.A.Col,r2678.2.1.p.A.Val,r2678.2.1.p.B.Rows,r2678.2.1.p.B.Cols,r2678.2.1.p.B.Start,r2678.2.1.p.B.Col,r2678.2.1.p.B.Val,r2678.2.1.p.Mask.Rows,r2678.2.1.p.Mask.Cols,r2678.2.1.p.Mask.Start,r2678.2.1.p.Mask.Col,r2678.2.1.p.Mask.Val,r2678.2.1.p.R,r2678.2.1.p.C,r2678.2.1.p.Room,r2678.2.1.stages,r2678.2.1.workers,r2678.2.1.boxes,AH (s2652+1),r2678.2.2.1,r2678.2.2.2)) (k2302 (s2597,s2598,s2599,s2600,s2604,s2608,s2612,s2613,s2614,s2618,s2622,s2626,s2627,s2628,s2632,s2636,s2640,s2641,s2642,s2643,s2647,s2651,s2653,s2654))) (k2302 (s2597,s2598,s2599,s2600,s2604,s2608,s2612,s2613,s2614,s2618,s2622,s2626,s2627,s2628,s2632,s2636,s2640,s2641,s2642,s2643,s2647,s2651,s2653,s2654))) (s1286,s1287,s1288,s1289,s1293,s1297,s1301,s1302,s1303,s1307,s1311,s1315,s1316,s1317,s1321,s1325,s1329,s1330,s1331,s1332,s1336,s1340,0,s1342,s1343)) fun (s2245,s2246,s2247,s2248,s2252,s2256,s2260,s2261,s2262,s2266,s2270,s2274,s2275,s2276,s2280,s2284,s2288,s2289,s2290,s2291,s2295,s2299,s2300,s2301)=>DZ ({ p:=({ Ring:=s2245,A:=({ Rows:=s2246,Cols:=s2247,Start:=s2248,Col:=s2252,Val:=s2256 }:Rows),B:=({ Rows:=s2260,Cols:=s2261,Start:=s2262,Col:=s2266,Val:=s2270 }:Rows),Mask:=({ Rows:=s2274,Cols:=s2275,Start:=s2276,Col:=s2280,Val:=s2284 }:Rows),R:=s2288,C:=s2289,Room:=s2290 }:BQ),stages:=s2291,workers:=s2295,boxes:=s2299 }:AB) s2300 fun r2731=>DI ({ p:=({ Ring:=s2245,A:=({ Rows:=s2246,Cols:=s2247,Start:=s2248,Col:=s2252,Val:=s2256 }:Rows),B:=({ Rows:=s2260,Cols:=s2261,Start:=s2262,Col:=s2266,Val:=s2270 }:Rows),Mask:=({ Rows:=s2274,Cols:=s2275,Start:=s2276,Col:=s2280,Val:=s2284 }:Rows),R:=s2288,C:=s2289,Room:=s2290 }:BQ),stages:=s2291,workers:=s2295,boxes:=s2299 }:AB) s2300 fun r2752=>Q (r2731.1,r2752,r2731.2))) (r152.2.2.p.Ring,r152.2.2.p.A.Rows,r152.2.2.p.A.Cols,r152.2.2.p.A.Start,r152.2.2.p.A.Col,r152.2.2.p.A.Val,r152.2.2.p.B.Rows,r152.2.2.p.B.Cols,r152.2.2.p.B.Start,r152.2.2.p.B.Col,r152.2.2.p.B.Val,r152.2.2.p.Mask.Rows,r152.2.2.p.Mask.Cols,r152.2.2.p.Mask.Start,r152.2.2.p.Mask.Col,r152.2.2.p.Mask.Val,r152.2.2.p.R,r152.2.2.p.C,r152.2.2.p.Room,r152.2.2.stages,r152.2.2.workers,r152.2.2.boxes,0,r152.2.1,([]:List (Nat×AF)))))))))
def YG (a0:AL) (a1:Int) (a2:Int) (Q:(Int×Int)→Prop):Prop:=
  MI a0 a1 a2 fun r44=>AQ (r44.2 != 0) (Q (0,r44.2)) (PL r44.1 fun r106=>RP r44.1 ([]:List MY) r106 fun r110=>AQ (r110.2.2 != 0) (Q (0,r110.2.2)) (SP 5 r110.1 fun r129=>Q (r129.1,r129.2)))
def Z6 (o0:Nat) (o1:List (Int×Int×Int)) (o2:AL) (Y:Nat→(List (Int×Int×Int))→(Int×Int×Int)→((Bool×Nat×(List (Int×Int×Int)))→Prop)→Prop) (Q:(Nat×(List (Int×Int×Int)))→Prop):Prop:=
  GW o2 fun r26=>AQ (r26 != 0) (Q (o0,o1)) (YF o2 fun r41=>BD (fun (s:(List (Int×Int×Int))×Int×Nat) (next1667:((List (Int×Int×Int))×Int×Nat)→Prop)=>match s with | (s1661,s1665,s1666)=>AQ (decide (s1665<(r41.length:Int))) (BA r41 s1665 fun x1686=>IV x1686 fun r1709=>BD (fun (s:(List (Int×Int×Int))×Int×Nat) (next2223:((List (Int×Int×Int))×Int×Nat)→Prop)=>match s with | (s2217,s2221,s2222)=>AQ (decide (s2221<(r1709.length:Int))) (BA r1709 s2221 fun x2240=>BA r41 x2240 fun x2287=>OI x1686 x2287 fun r2298=>IV r2298 fun r2311=>BD (fun (s:(List (Int×Int×Int))×Int×Nat) (next2424:((List (Int×Int×Int))×Int×Nat)→Prop)=>match s with | (s2418,s2422,s2423)=>AQ (decide (s2422<(r2311.length:Int))) (BA r2311 s2422 fun x2442=>Y s2423 s2418 (s1665,x2240,x2442) fun r2456=>AQ (!r2456.1) (Q (r2456.2.1,r2456.2.2)) (next2424 (r2456.2.2,AH (s2422+1),r2456.2.1))) (next2223 (s2418,AH (s2221+1),s2423))) (s2217,0,s2222)) (next1667 (s2217,AH (s1665+1),s2222))) (s1661,0,s1666)) (Q (s1666,s1661))) (o1,0,o0))
def GZ (o0:AL) (Q:(List (Int×Int×Int))→Prop):Prop:=
  Z6 0 ([]:List (Int×Int×Int)) o0 (fun (y44:Nat) (y45:List (Int×Int×Int)) (x51:Int×Int×Int) (Qy:(Bool×Nat×(List (Int×Int×Int)))→Prop)=>eqP y44 0 (HN 24 y45 ([x51]) fun _=>Qy (true,0,(y45++([x51]))))) fun r64=>eqP r64.1 0 (Q r64.2)
def LC (o0:AL) (Q:(List (Int×Int×Int))→Prop):Prop:=
  GZ o0 fun r12=>Q r12
def XI (a0:AL) (Q:(List (Int×Int×Int))→Prop):Prop:=
  UH a0 fun r15=>LC r15 fun r27=>Q r27
def Z7 (o0:Nat) (o1:List Int) (o2:AL) (Y:Nat→(List Int)→(Int×Int×Int)→((Bool×Nat×(List Int))→Prop)→Prop) (Q:(Nat×(List Int))→Prop):Prop:=
  GW o2 fun r26=>AQ (r26 != 0) (Q (o0,o1)) (YF o2 fun r41=>BD (fun (s:(List Int)×Int×Nat) (next1667:((List Int)×Int×Nat)→Prop)=>match s with | (s1661,s1665,s1666)=>AQ (decide (s1665<(r41.length:Int))) (BA r41 s1665 fun x1686=>IV x1686 fun r1709=>BD (fun (s:(List Int)×Int×Nat) (next2223:((List Int)×Int×Nat)→Prop)=>match s with | (s2217,s2221,s2222)=>AQ (decide (s2221<(r1709.length:Int))) (BA r1709 s2221 fun x2240=>BA r41 x2240 fun x2287=>OI x1686 x2287 fun r2298=>IV r2298 fun r2311=>BD (fun (s:(List Int)×Int×Nat) (next2424:((List Int)×Int×Nat)→Prop)=>match s with | (s2418,s2422,s2423)=>AQ (decide (s2422<(r2311.length:Int))) (BA r2311 s2422 fun x2442=>Y s2423 s2418 (s1665,x2240,x2442) fun r2456=>AQ (!r2456.1) (Q (r2456.2.1,r2456.2.2)) (next2424 (r2456.2.2,AH (s2422+1),r2456.2.1))) (next2223 (s2418,AH (s2221+1),s2423))) (s2217,0,s2222)) (next1667 (s2217,AH (s1665+1),s2222))) (s1661,0,s1666)) (Q (s1666,s1661))) (o1,0,o0))
def dQ (a0:AL) (Q:(List Int)→Prop):Prop:=
  GW a0 fun r16=>AQ (r16 != 0) (Q ([]:List Int)) (mkP 8 a0.N 0 fun _=>UH a0 fun r53=>Z7 0 (List.replicate a0.N.toNat 0) r53 (fun (y120:Nat) (y121:List Int) (x127:Int×Int×Int) (Qy:(Bool×Nat×(List Int))→Prop)=>eqP y120 0 (BA y121 x127.1 fun x131=>BA y121 x127.1 fun x136=>BA (y121.set x127.1.toNat (AH (x131+1))) x127.2.1 fun x139=>BA (y121.set x127.1.toNat (AH (x131+1))) x127.2.1 fun x142=>BA ((y121.set x127.1.toNat (AH (x131+1))).set x127.2.1.toNat (AH (x139+1))) x127.2.2 fun x145=>BA ((y121.set x127.1.toNat (AH (x131+1))).set x127.2.1.toNat (AH (x139+1))) x127.2.2 fun x148=>Qy (true,0,(((y121.set x127.1.toNat (AH (x131+1))).set x127.2.1.toNat (AH (x139+1))).set x127.2.2.toNat (AH (x145+1)))))) fun r154=>eqP r154.1 0 (Q r154.2))
def W8  (Q:Bool→Prop):Prop:=
  YG ({ N:=4,Edges:=([({ From:=0,To:=1,W:=9 }:AM),({ From:=2,To:=1,W:=0 }:AM),({ From:=0,To:=2,W:=1 }:AM),({ From:=3,To:=3,W:=1 }:AM)]:List AM) }:AL) 2 2 fun r15=>YG ({ N:=4,Edges:=([({ From:=0,To:=1,W:=9 }:AM),({ From:=2,To:=1,W:=0 }:AM),({ From:=0,To:=2,W:=1 }:AM),({ From:=3,To:=3,W:=1 }:AM)]:List AM) }:AL) 0 1 fun r23=>MI ({ N:=4,Edges:=([({ From:=0,To:=1,W:=9 }:AM),({ From:=2,To:=1,W:=0 }:AM),({ From:=0,To:=2,W:=1 }:AM),({ From:=3,To:=3,W:=1 }:AM)]:List AM) }:AL) 1 2 fun r70=>AQ (r15.1==1) (AQ (r15.2==0) (AQ (r23.2==3) (AQ (r70.2==0) (AQ ((r70.1.A.Val.length:Int)==3) (AQ (r70.1.Ring==5) (XI ({ N:=4,Edges:=([({ From:=0,To:=1,W:=9 }:AM),({ From:=2,To:=1,W:=0 }:AM),({ From:=0,To:=2,W:=1 }:AM),({ From:=3,To:=3,W:=1 }:AM)]:List AM) }:AL) fun r113=>W7 r113 ([(0,1,2)]:List (Int×Int×Int)) fun r130=>AQ r130 (dQ ({ N:=4,Edges:=([({ From:=0,To:=1,W:=9 }:AM),({ From:=2,To:=1,W:=0 }:AM),({ From:=0,To:=2,W:=1 }:AM),({ From:=3,To:=3,W:=1 }:AM)]:List AM) }:AL) fun r135=>NB r135 ([1,1,1,0]:List Int) fun r152=>Q r152) (Q false)) (Q false)) (Q false)) (Q false)) (Q false)) (Q false)) (Q false)
def UW (a0:KB) (Q:Bool→Prop):Prop:=
  LR a0 fun r20=>XI r20.1 fun r43=>BD (fun (s743:Int) (next744:Int→Prop)=>AQ (decide (s743<(r43.length:Int))) (BA r43 s743 fun x789=>BA r43 s743 fun x798=>AQ (decide (x798.2.1≤x789.1)) (Q false) (BA r43 s743 fun x808=>BA r43 s743 fun x817=>AQ (decide (x817.2.2≤x808.2.1)) (Q false) (AQ (decide (0<s743)) (BA r43 s743 fun x828=>BA r43 (AH (s743 - 1)) fun x837=>AQ (decide (x828.1<x837.1)) (Q false) (BA r43 s743 fun x847=>BA r43 (AH (s743 - 1)) fun x856=>AQ (x847.1==x856.1) (BA r43 s743 fun x866=>BA r43 (AH (s743 - 1)) fun x875=>AQ (decide (x866.2.1<x875.2.1)) (Q false) (BA r43 s743 fun x885=>BA r43 (AH (s743 - 1)) fun x894=>AQ (x885.2.1==x894.2.1) (BA r43 s743 fun x904=>BA r43 (AH (s743 - 1)) fun x913=>AQ (decide (x904.2.2≤x913.2.2)) (Q false) (next744 (AH (s743+1)))) (next744 (AH (s743+1))))) (next744 (AH (s743+1))))) (next744 (AH (s743+1)))))) (dQ r20.1 fun r934=>BD (fun (s:Int×Int) (next1022:(Int×Int)→Prop)=>match s with | (s1020,s1021)=>AQ (decide (s1021<(r934.length:Int))) (BA r934 s1021 fun x1030=>next1022 (AH (s1020+x1030),AH (s1021+1))) (W8  fun r1038=>AQ r1038 (AQ ((r934.length:Int)==r20.1.N) (Q (s1020==(AH (3*(r43.length:Int))))) (Q false)) (Q false))) (0,0))) 0
abbrev rE (o_:BQ) (q0:Option Addr) (q1:Nat) (q2:Option Addr) (q3:Nat) (q4:Option Addr) (q5:Nat) (q6:Option Addr) (q7:Nat) (q8:Option Addr) (q9:Nat) (q10:Option Addr) (q11:Nat) (q12:Option Addr) (q13:Nat) (q14:Option Addr) (q15:Nat) (q16:Option Addr) (q17:Nat):Array Value:=#[.int .i64 o_.Ring,.int .i64 o_.A.Rows,.int .i64 o_.A.Cols,.slice q0 o_.A.Start.length q1,.slice q2 o_.A.Col.length q3,.slice q4 o_.A.Val.length q5,.int .i64 o_.B.Rows,.int .i64 o_.B.Cols,.slice q6 o_.B.Start.length q7,.slice q8 o_.B.Col.length q9,.slice q10 o_.B.Val.length q11,.int .i64 o_.Mask.Rows,.int .i64 o_.Mask.Cols,.slice q12 o_.Mask.Start.length q13,.slice q14 o_.Mask.Col.length q15,.slice q16 o_.Mask.Val.length q17,.int .i64 o_.R,.int .i64 o_.C,.int .i64 o_.Room]
abbrev AR (o_:AB) (q0:Option Addr) (q1:Nat) (q2:Option Addr) (q3:Nat) (q4:Option Addr) (q5:Nat) (q6:Option Addr) (q7:Nat) (q8:Option Addr) (q9:Nat) (q10:Option Addr) (q11:Nat) (q12:Option Addr) (q13:Nat) (q14:Option Addr) (q15:Nat) (q16:Option Addr) (q17:Nat) (q18:Option Addr) (q19:Nat) (q20:Option Addr) (q21:Nat) (q22:Nat):Array Value:=#[.int .i64 o_.p.Ring,.int .i64 o_.p.A.Rows,.int .i64 o_.p.A.Cols,.slice q0 o_.p.A.Start.length q1,.slice q2 o_.p.A.Col.length q3,.slice q4 o_.p.A.Val.length q5,.int .i64 o_.p.B.Rows,.int .i64 o_.p.B.Cols,.slice q6 o_.p.B.Start.length q7,.slice q8 o_.p.B.Col.length q9,.slice q10 o_.p.B.Val.length q11,.int .i64 o_.p.Mask.Rows,.int .i64 o_.p.Mask.Cols,.slice q12 o_.p.Mask.Start.length q13,.slice q14 o_.p.Mask.Col.length q15,.slice q16 o_.p.Mask.Val.length q17,.int .i64 o_.p.R,.int .i64 o_.p.C,.int .i64 o_.p.Room,.slice q18 o_.stages.length q19,.slice q20 o_.workers.length q21,.map (some q22)]
abbrev OZ (o_:AA) (q0:Option Addr) (q1:Nat) (q2:Option Addr) (q3:Nat) (q4:Option Addr) (q5:Nat) (q6:Option Addr) (q7:Nat) (q8:Nat) (q9:Option Addr) (q10:Nat):Array Value:=#[.int .i64 o_.i,.int .i64 o_.j,.int .i64 o_.mask.Rows,.int .i64 o_.mask.Cols,.slice q0 o_.mask.Start.length q1,.slice q2 o_.mask.Col.length q3,.slice q4 o_.mask.Val.length q5,.slice q6 o_.out.length q7,.map (some q8),.int .i64 o_.at_,.slice q9 o_.has.length q10]
end Go.Proofs.YtbohadngdkjljaaGreat
