/- Types. -/
import Derived.Test.YtbohadngdkjljaaGreatFwU
import Derived.Test.YtbohadngdkjljaaGreatFwK
namespace Go.Proofs.YtbohadngdkjljaaGreat
open Go Go.Fw
set_option linter.unusedVariables false
set_option linter.unusedSimpArgs false
set_option maxRecDepth 8000
set_option maxHeartbeats 1000000
abbrev BQ:ET Int:=IF 1 (fun x=>[.int .i64 x]) (fun _=>⟨rfl,rfl⟩)
abbrev AeM:ET Int:=IF 1 (fun x=>[.int .u64 x]) (fun _=>⟨rfl,rfl⟩)
abbrev eU8:ET Int:=IF 1 (fun x=>[.int .u8 x]) (fun _=>⟨rfl,rfl⟩)
abbrev eB:ET Bool:=IF 1 (fun x=>[.bool x]) (fun _=>⟨rfl,rfl⟩)
structure AL where
 Hi:Int
 Lo:Int
deriving DecidableEq,Inhabited
abbrev DS:AL:={ Hi:=0,Lo:=0 }
def E8 (x:AL):List Value:=[.int .i64 x.Hi,.int .u64 x.Lo]
abbrev OA:ET AL:=IF 2 E8 (fun _=>⟨rfl,rfl⟩)
structure DW where
 From:Int
 To:Int
 W:Int
deriving DecidableEq,Inhabited
def kT (x:DW):List Value:=[.int .i64 x.From,.int .i64 x.To,.int .i64 x.W]
abbrev XV:ET DW:=IF 3 kT (fun _=>⟨rfl,rfl⟩)
structure Rows where
 Rows:Int
 Cols:Int
 Start:List Int
 Col:List Int
 Val:List Int
deriving DecidableEq,Inhabited
abbrev B1:Rows:={ Rows:=0,Cols:=0,Start:=([]:List Int),Col:=([]:List Int),Val:=([]:List Int) }
abbrev kU:Type:=(Option Addr×Nat)×(Option Addr×Nat)×(Option Addr×Nat)
def NX (I:IH) (x:kU) (o:Rows):Prop:=RepSl BQ I x.1.1 x.1.2 o.Start∧RepSl BQ I x.2.1.1 x.2.1.2 o.Col∧RepSl BQ I x.2.2.1 x.2.2.2 o.Val
theorem xJ {I J:IH} {x:kU} {o:Rows} (h:IH.le I J) (k:NX I x o):NX J x o:=⟨k.1.mono h,k.2.1.mono h,k.2.2.mono h⟩
def nU:ET Rows where
 sz:=5
 rep I cs x:=∃ a:kU,cs=[.int .i64 x.Rows,.int .i64 x.Cols,.slice a.1.1 x.Start.length a.1.2,.slice a.2.1.1 x.Col.length a.2.1.2,.slice a.2.2.1 x.Val.length a.2.2.2]∧NX I a x
 mono hle:=fun ⟨a,e,h⟩=>⟨a,e,xJ hle h⟩
 len:=fun ⟨a,e,_⟩=>by rw [e]; rfl
 one:=fun ⟨a,e,_⟩=>by rw [e]; rfl
structure A1 where
 Row:Int
 Col:Int
 Val:Int
deriving DecidableEq,Inhabited
def WR (x:A1):List Value:=[.int .i64 x.Row,.int .i64 x.Col,.int .i64 x.Val]
abbrev B5:ET A1:=IF 3 WR (fun _=>⟨rfl,rfl⟩)
structure BF where
 Ring:Int
 A:Rows
 B:Rows
 Mask:Rows
 R:Int
 C:Int
 Room:Int
deriving DecidableEq,Inhabited
abbrev xK:Type:=kU×kU×kU
def nE (I:IH) (x:xK) (o:BF):Prop:=NX I x.1 o.A∧NX I x.2.1 o.B∧NX I x.2.2 o.Mask
theorem mTc {I J:IH} {x:xK} {o:BF} (h:IH.le I J) (k:nE I x o):nE J x o:=⟨xJ h k.1,xJ h k.2.1,xJ h k.2.2⟩
structure AV where
 From:Int
 To:Int
 Row:Int
 Col:Int
deriving DecidableEq,Inhabited
def fC (x:AV):List Value:=[.int .i64 x.From,.int .i64 x.To,.int .i64 x.Row,.int .i64 x.Col]
abbrev H9:ET AV:=IF 4 fC (fun _=>⟨rfl,rfl⟩)
structure CO where
 At:Int
 Val:Int
deriving DecidableEq,Inhabited
def AaK (x:CO):List Value:=[.int .i64 x.At,.int .i64 x.Val]
abbrev UL:ET CO:=IF 2 AaK (fun _=>⟨rfl,rfl⟩)
structure EI where
 Kind:Int
 A:Int
 B:Int
 K:Int
deriving DecidableEq,Inhabited
def TK (x:EI):List Value:=[.int .i64 x.Kind,.int .i64 x.A,.int .i64 x.B,.int .i64 x.K]
abbrev UM:ET EI:=IF 4 TK (fun _=>⟨rfl,rfl⟩)
structure P9 where
 At:Int
 Val:AL
deriving DecidableEq,Inhabited
def AcL (x:P9):List Value:=[.int .i64 x.At,.int .i64 x.Val.Hi,.int .u64 x.Val.Lo]
abbrev xL:ET P9:=IF 3 AcL (fun _=>⟨rfl,rfl⟩)
structure Vec where
 N:Int
 Items:List CO
deriving DecidableEq,Inhabited
abbrev G0:Vec:={ N:=0,Items:=([]:List CO) }
structure AM where
 Kind:Int
 From:Int
 To:Int
 Seq:Int
 Round:Int
 Vec:Vec
 Sums:List P9
 Triples:List A1
 N:Int
 Over:Bool
deriving DecidableEq,Inhabited
abbrev aTe:Type:=(Option Addr×Nat)×(Option Addr×Nat)×(Option Addr×Nat)
def gZ (I:IH) (x:aTe) (o:AM):Prop:=RepSl UL I x.1.1 x.1.2 o.Vec.Items∧RepSl xL I x.2.1.1 x.2.1.2 o.Sums∧RepSl B5 I x.2.2.1 x.2.2.2 o.Triples
theorem mTe {I J:IH} {x:aTe} {o:AM} (h:IH.le I J) (k:gZ I x o):gZ J x o:=⟨k.1.mono h,k.2.1.mono h,k.2.2.mono h⟩
def BI:ET AM where
 sz:=11
 rep I cs x:=∃ a:aTe,cs=[.int .i64 x.Kind,.int .i64 x.From,.int .i64 x.To,.int .i64 x.Seq,.int .i64 x.Round,.int .i64 x.Vec.N,.slice a.1.1 x.Vec.Items.length a.1.2,.slice a.2.1.1 x.Sums.length a.2.1.2,.slice a.2.2.1 x.Triples.length a.2.2.2,.int .i64 x.N,.bool x.Over]∧gZ I a x
 mono hle:=fun ⟨a,e,h⟩=>⟨a,e,mTe hle h⟩
 len:=fun ⟨a,e,_⟩=>by rw [e]; rfl
 one:=fun ⟨a,e,_⟩=>by rw [e]; rfl
structure AB where
 Row:Int
 Col:Int
 Val:AL
deriving DecidableEq,Inhabited
def NY (x:AB):List Value:=[.int .i64 x.Row,.int .i64 x.Col,.int .i64 x.Val.Hi,.int .u64 x.Val.Lo]
abbrev BL:ET AB:=IF 4 NY (fun _=>⟨rfl,rfl⟩)
structure BE where
 kind:Int
 stage:Int
deriving DecidableEq,Inhabited
def S9 (x:BE):List Value:=[.int .i64 x.kind,.int .i64 x.stage]
abbrev EU (x:BE):Value:=.agg (S9 x).toArray
structure AF where
 i:Int
 j:Int
 mask:Rows
 out:List AM
 parts:List (BE×(List A1))
 at_:Int
 has:List AB
deriving DecidableEq,Inhabited
abbrev A2:=List (Nat×AF)
structure AZ where
 room:Int
 row:List Int
 by_:List (Int×AM)
 often:List (Int×Int)
 sent:Int
 taken:Int
deriving DecidableEq,Inhabited
abbrev A8:=List (Nat×AZ)
structure A3 where
 p:BF
 stages:List AV
 workers:List (Option Nat)
 boxes:List ((Int×Int)×(Option Nat))
deriving DecidableEq,Inhabited
structure GB where
 L:List EI
 Windows:Int
deriving DecidableEq,Inhabited
def hM:ET GB where
 sz:=2
 rep I cs x:=∃ a0 c0,cs=[.slice a0 x.L.length c0,.int .u8 x.Windows]∧RepSl UM I a0 c0 x.L
 mono hle:=fun ⟨a0,c0,e,h0⟩=>⟨a0,c0,e,h0.mono hle⟩
 len:=fun ⟨a0,c0,e,_⟩=>by rw [e]; rfl
 one:=fun ⟨a0,c0,e,_⟩=>by rw [e]; rfl
structure EL where
 Ring:Int
 Size:Int×Int
 L:List A1
 X:List CO
 Y:List CO
 F:List Int
 Others:Bool
deriving DecidableEq,Inhabited
abbrev aTi:Type:=(Option Addr×Nat)×(Option Addr×Nat)×(Option Addr×Nat)×(Option Addr×Nat)
def lTi (I:IH) (x:aTi) (o:EL):Prop:=RepSl B5 I x.1.1 x.1.2 o.L∧RepSl UL I x.2.1.1 x.2.1.2 o.X∧RepSl UL I x.2.2.1.1 x.2.2.1.2 o.Y∧RepSl AeM I x.2.2.2.1 x.2.2.2.2 o.F
theorem mTi {I J:IH} {x:aTi} {o:EL} (h:IH.le I J) (k:lTi I x o):lTi J x o:=⟨k.1.mono h,k.2.1.mono h,k.2.2.1.mono h,k.2.2.2.mono h⟩
structure GS where
 Ring:Int
 Size:Int×Int×Int
 A:List A1
 B:List A1
 M:List A1
deriving DecidableEq,Inhabited
abbrev aTj:Type:=(Option Addr×Nat)×(Option Addr×Nat)×(Option Addr×Nat)
def lTj (I:IH) (x:aTj) (o:GS):Prop:=RepSl B5 I x.1.1 x.1.2 o.A∧RepSl B5 I x.2.1.1 x.2.1.2 o.B∧RepSl B5 I x.2.2.1 x.2.2.2 o.M
theorem mTj {I J:IH} {x:aTj} {o:GS} (h:IH.le I J) (k:lTj I x o):lTj J x o:=⟨k.1.mono h,k.2.1.mono h,k.2.2.mono h⟩
def nV:ET GS where
 sz:=7
 rep I cs x:=∃ a:aTj,cs=[.int .i64 x.Ring,.int .u8 x.Size.1,.int .u8 x.Size.2.1,.int .u8 x.Size.2.2,.slice a.1.1 x.A.length a.1.2,.slice a.2.1.1 x.B.length a.2.1.2,.slice a.2.2.1 x.M.length a.2.2.2]∧lTj I a x
 mono hle:=fun ⟨a,e,h⟩=>⟨a,e,mTj hle h⟩
 len:=fun ⟨a,e,_⟩=>by rw [e]; rfl
 one:=fun ⟨a,e,_⟩=>by rw [e]; rfl
structure HV where
 T:GS
 R:Int
 C:Int
 Room:Int
deriving DecidableEq,Inhabited
def nW:ET HV where
 sz:=10
 rep I cs x:=∃ a:aTj,cs=[.int .i64 x.T.Ring,.int .u8 x.T.Size.1,.int .u8 x.T.Size.2.1,.int .u8 x.T.Size.2.2,.slice a.1.1 x.T.A.length a.1.2,.slice a.2.1.1 x.T.B.length a.2.1.2,.slice a.2.2.1 x.T.M.length a.2.2.2,.int .u8 x.R,.int .u8 x.C,.int .u8 x.Room]∧lTj I a x.T
 mono hle:=fun ⟨a,e,h⟩=>⟨a,e,mTj hle h⟩
 len:=fun ⟨a,e,_⟩=>by rw [e]; rfl
 one:=fun ⟨a,e,_⟩=>by rw [e]; rfl
structure AO where
 I:Int
 J:Int
 Mask:Rows
 Out:List AM
 Lefts:List Bool
 Rights:List Bool
 L:List (List A1)
 R:List (List A1)
 At:Int
 Has:List AB
deriving DecidableEq,Inhabited
abbrev A4:=List (Nat×AO)
abbrev aTo:Type:=kU×(Option Addr×Nat)×(Option Addr×Nat)×(Option Addr×Nat)×(Option Addr×Nat)×(Option Addr×Nat)×(Option Addr×Nat)
def lTo (I:IH) (x:aTo) (o:AO):Prop:=NX I x.1 o.Mask∧RepSl BI I x.2.1.1 x.2.1.2 o.Out∧RepSl eB I x.2.2.1.1 x.2.2.1.2 o.Lefts∧RepSl eB I x.2.2.2.1.1 x.2.2.2.1.2 o.Rights∧RepSl (JI B5) I x.2.2.2.2.1.1 x.2.2.2.2.1.2 o.L∧RepSl (JI B5) I x.2.2.2.2.2.1.1 x.2.2.2.2.2.1.2 o.R∧RepSl BL I x.2.2.2.2.2.2.1 x.2.2.2.2.2.2.2 o.Has
theorem mTo {I J:IH} {x:aTo} {o:AO} (h:IH.le I J) (k:lTo I x o):lTo J x o:=⟨xJ h k.1,k.2.1.mono h,k.2.2.1.mono h,k.2.2.2.1.mono h,k.2.2.2.2.1.mono h,k.2.2.2.2.2.1.mono h,k.2.2.2.2.2.2.mono h⟩
structure B4 where
 Many:Int
 Out:Int
 In:Int
 L:List AM
deriving DecidableEq,Inhabited
abbrev A9:=List (Nat×B4)
structure AR where
 P:BF
 S:List AV
 W:List (Option Nat)
 B:List (Option Nat)
deriving DecidableEq,Inhabited
abbrev aTl:Type:=xK×(Option Addr×Nat)×(Option Addr×Nat)×(Option Addr×Nat)
def sV (I:IH) (x:aTl) (o:AR):Prop:=nE I x.1 o.P∧RepSl H9 I x.2.1.1 x.2.1.2 o.S∧RepSl D6 I x.2.2.1.1 x.2.2.1.2 o.W∧RepSl D6 I x.2.2.2.1 x.2.2.2.2 o.B
theorem mTl {I J:IH} {x:aTl} {o:AR} (h:IH.le I J) (k:sV I x o):sV J x o:=⟨mTc h k.1,k.2.1.mono h,k.2.2.1.mono h,k.2.2.2.mono h⟩
abbrev aTb:Type:=(Option Addr×Nat)×(Option Addr×Nat)
def lTb (I:IH) (x:aTb) (o:Rows):Prop:=RepSl BQ I x.1.1 x.1.2 o.Start∧RepSl BQ I x.2.1 x.2.2 o.Val
theorem mTb {I J:IH} {x:aTb} {o:Rows} (h:IH.le I J) (k:lTb I x o):lTb J x o:=⟨k.1.mono h,k.2.mono h⟩
abbrev aTd:Type:=(Option Addr×Nat)×(Option Addr×Nat)
def lTd (I:IH) (x:aTd) (o:Rows):Prop:=RepSl BQ I x.1.1 x.1.2 o.Col∧RepSl BQ I x.2.1 x.2.2 o.Val
theorem mTd {I J:IH} {x:aTd} {o:Rows} (h:IH.le I J) (k:lTd I x o):lTd J x o:=⟨k.1.mono h,k.2.mono h⟩
abbrev aTf:Type:=xK×(Option Addr×Nat)×(Option Addr×Nat)
def UZ (I:IH) (x:aTf) (o:A3):Prop:=nE I x.1 o.p∧RepSl H9 I x.2.1.1 x.2.1.2 o.stages∧RepSl D6 I x.2.2.1 x.2.2.2 o.workers
theorem mTf {I J:IH} {x:aTf} {o:A3} (h:IH.le I J) (k:UZ I x o):UZ J x o:=⟨mTc h k.1,k.2.1.mono h,k.2.2.mono h⟩
abbrev aTg:Type:=kU×(Option Addr×Nat)×(Option Addr×Nat)
def lTg (I:IH) (x:aTg) (o:AF):Prop:=NX I x.1 o.mask∧RepSl BI I x.2.1.1 x.2.1.2 o.out∧RepSl BL I x.2.2.1 x.2.2.2 o.has
theorem mTg {I J:IH} {x:aTg} {o:AF} (h:IH.le I J) (k:lTg I x o):lTg J x o:=⟨xJ h k.1,k.2.1.mono h,k.2.2.mono h⟩
abbrev aTh:Type:=xK×(Option Addr×Nat)
def lTh (I:IH) (x:aTh) (o:A3):Prop:=nE I x.1 o.p∧RepSl H9 I x.2.1 x.2.2 o.stages
theorem mTh {I J:IH} {x:aTh} {o:A3} (h:IH.le I J) (k:lTh I x o):lTh J x o:=⟨mTc h k.1,k.2.mono h⟩
abbrev aTk:Type:=kU×kU×kU
def lTk (I:IH) (x:aTk) (o:Rows×Rows×Rows):Prop:=NX I x.1 o.1∧NX I x.2.1 o.2.1∧NX I x.2.2 o.2.2
theorem mTk {I J:IH} {x:aTk} {o:Rows×Rows×Rows} (h:IH.le I J) (k:lTk I x o):lTk J x o:=⟨xJ h k.1,xJ h k.2.1,xJ h k.2.2⟩
abbrev aTm:Type:=xK×(Option Addr×Nat)
def lTm (I:IH) (x:aTm) (o:AR):Prop:=nE I x.1 o.P∧RepSl H9 I x.2.1 x.2.2 o.S
theorem mTm {I J:IH} {x:aTm} {o:AR} (h:IH.le I J) (k:lTm I x o):lTm J x o:=⟨mTc h k.1,k.2.mono h⟩
abbrev aTn:Type:=kU×(Option Addr×Nat)×(Option Addr×Nat)
def lTn (I:IH) (x:aTn) (o:AO):Prop:=NX I x.1 o.Mask∧RepSl BI I x.2.1.1 x.2.1.2 o.Out∧RepSl BL I x.2.2.1 x.2.2.2 o.Has
theorem mTn {I J:IH} {x:aTn} {o:AO} (h:IH.le I J) (k:lTn I x o):lTn J x o:=⟨xJ h k.1,k.2.1.mono h,k.2.2.mono h⟩
def A5:BoxTy AF where
 A:=aTg×Nat
 fact I a x:=lTg I (a.1) (x)
 mono:=fun h h0=>mTg h h0
 obj a x:=.cells #[.int .i64 x.i,.int .i64 x.j,.int .i64 x.mask.Rows,.int .i64 x.mask.Cols,.slice (a.1.1.1.1) x.mask.Start.length (a.1.1.1.2),.slice (a.1.1.2.1.1) x.mask.Col.length (a.1.1.2.1.2),.slice (a.1.1.2.2.1) x.mask.Val.length (a.1.1.2.2.2),.slice (a.1.2.1.1) x.out.length (a.1.2.1.2),.map (some (a.2)),.int .i64 x.at_,.slice (a.1.2.2.1) x.has.length (a.1.2.2.2)] 127 (0,0)
 more a x:=[OwnMap EU (JI B5) false (a.2) x.parts]
def A6:BoxTy AO where
 A:=aTn×Option Addr×Nat×Option Addr×Nat×Option Addr×Nat×Option Addr×Nat
 fact I a x:=lTn I (a.1) (x)
 mono:=fun h h0=>mTn h h0
 obj a x:=.cells #[.int .i64 x.I,.int .i64 x.J,.int .i64 x.Mask.Rows,.int .i64 x.Mask.Cols,.slice (a.1.1.1.1) x.Mask.Start.length (a.1.1.1.2),.slice (a.1.1.2.1.1) x.Mask.Col.length (a.1.1.2.1.2),.slice (a.1.1.2.2.1) x.Mask.Val.length (a.1.1.2.2.2),.slice (a.1.2.1.1) x.Out.length (a.1.2.1.2),.slice (a.2.1) x.Lefts.length (a.2.2.1),.slice (a.2.2.2.1) x.Rights.length (a.2.2.2.2.1),.slice (a.2.2.2.2.2.1) x.L.length (a.2.2.2.2.2.2.1),.slice (a.2.2.2.2.2.2.2.1) x.R.length (a.2.2.2.2.2.2.2.2),.int .i64 x.At,.slice (a.1.2.2.1) x.Has.length (a.1.2.2.2)] 139 (0,0)
 more a x:=[OwnSl eB 4 (a.2.1) (a.2.2.1) x.Lefts,OwnSl eB 4 (a.2.2.2.1) (a.2.2.2.2.1) x.Rights,OwnSl (JI B5) 54 (a.2.2.2.2.2.1) (a.2.2.2.2.2.2.1) x.L,OwnSl (JI B5) 54 (a.2.2.2.2.2.2.2.1) (a.2.2.2.2.2.2.2.2) x.R]
def AX:BoxTy B4 where
 A:=Option Addr×Nat
 fact I a x:=True
 mono:=fun _ _=>trivial
 obj a x:=.cells #[.int .i64 x.Many,.int .i64 x.Out,.int .i64 x.In,.slice (a.1) x.L.length (a.2)] 199 (0,0)
 more a x:=[OwnSl BI 196 (a.1) (a.2) x.L]
def AY:BoxTy AZ where
 A:=Option Addr×Nat×Nat×Nat
 fact I a x:=True
 mono:=fun _ _=>trivial
 obj a x:=.cells #[.int .i64 x.room,.slice (a.1) x.row.length (a.2.1),.map (some (a.2.2.1)),.map (some (a.2.2.2)),.int .i64 x.sent,.int .i64 x.taken] 213 (0,0)
 more a x:=[OwnSl BQ 3 (a.1) (a.2.1) x.row,OwnMap (Value.int .i64) BI true (a.2.2.1) x.by_,OwnMap (Value.int .i64) BQ false (a.2.2.2) x.often]
def MD (a0:Int) (Q:Bool→Prop):Prop:=
 AD (decide (1≤a0)) (Q (decide (a0≤5))) (Q false)
def K6 (a0:AL) (a1:AL) (Q:AL→Prop):Prop:=
 AD (decide ((IntKind.wrap .u64 (a0.Lo+a1.Lo))<a0.Lo)) (Q ({ Hi:=A7 ((A7 (a0.Hi+a1.Hi))+1),Lo:=IntKind.wrap .u64 (a0.Lo+a1.Lo) }:AL)) (Q ({ Hi:=A7 (a0.Hi+a1.Hi),Lo:=IntKind.wrap .u64 (a0.Lo+a1.Lo) }:AL))
def GU (a0:AL) (a1:AL) (Q:Int→Prop):Prop:=
 DR (fun (h:Unit→Prop)=>AD (decide (a0.Hi<a1.Hi)) (Q (-1)) (AD (a0.Hi==a1.Hi) (AD (decide (a0.Lo<a1.Lo)) (Q (-1)) (h ())) (h ()))) fun _=>AD (a0==a1) (Q 0) (Q 1)
def JL (a0:Bool) (Q:AL→Prop):Prop:=
 AD a0 (Q ({ Hi:=0,Lo:=1 }:AL)) (Q DS)
def PP (a0:Int) (a1:AL) (a2:AL) (Q:AL→Prop):Prop:=
 DR (fun (h:Bool→Prop)=>AD (a0==1) (h (a0==1)) (AD (a0==3) (h (a0==3)) (h (a0==4)))) fun U=>AD U (GU a2 a1 fun J=>AD (decide (J<0)) (Q a2) (Q a1)) (AD (a0==2) (AD (!(a1==DS)) (JL true fun O=>Q O) (JL (!(a2==DS)) fun D=>Q D)) (AD (a0==5) (K6 a1 a2 fun G=>Q G) (Q DS)))
def GC (a0:Int) (Q:AL→Prop):Prop:=
 AD (decide (a0<0)) (Q ({ Hi:=(-1),Lo:=IntKind.wrap .u64 (a0) }:AL)) (Q ({ Hi:=0,Lo:=IntKind.wrap .u64 (a0) }:AL))
def ME (a0:AL) (Q:(Int×Bool)→Prop):Prop:=
 AD (a0.Hi==0) (AD (decide (0≤(A7 (a0.Lo)))) (Q (A7 (a0.Lo),true)) (AD (a0.Hi==(-1)) (AD (decide ((A7 (a0.Lo))<0)) (Q (A7 (a0.Lo),true)) (Q (0,false))) (Q (0,false)))) (AD (a0.Hi==(-1)) (AD (decide ((A7 (a0.Lo))<0)) (Q (A7 (a0.Lo),true)) (Q (0,false))) (Q (0,false)))
def OB (a0:DW) (a1:DW) (Q:Bool→Prop):Prop:=
 AD (decide (a0.From<a1.From)) (Q true) (AD (a0.From==a1.From) (Q (decide (a0.To<a1.To))) (Q false))
def NZ (a0:Int) (a1:List DW) (Q:((List DW)×Int)→Prop):Prop:=
 MD a0 fun r12=>AD (!r12) (Q (([]:List DW),8)) (B2 (fun (s:(List DW)×(List AL)×Int) next2668=>match s with | (s2657,s2661,s2665)=>AD (decide (s2665<(a1.length:Int))) (DR (fun (O:Int→Prop)=>B2 (fun (D:Int) next2871=>AD (decide (D<(s2657.length:Int))) (AN s2657 D fun x2879=>AN a1 s2665 fun x2884=>OB x2879 x2884 fun r2892=>AD r2892 (next2871 (A7 (D+1))) (O D)) (O D)) 0) fun h=>AN a1 s2665 fun x2916=>GC x2916.W fun G=>DR (fun (J:Bool→Prop)=>AD (decide (h<(s2657.length:Int))) (AN a1 s2665 fun Z=>AN s2657 h fun x3071=>OB Z x3071 fun r3075=>J (!r3075)) (J false)) fun s3056=>AD s3056 (AN s2661 h fun V=>PP a0 V G fun r3091=>AN s2661 h fun x3096=>next2668 (s2657,(s2661.set h.toNat r3091),A7 (s2665+1))) (EA 24 s2657 ([({ From:=0,To:=0,W:=0 }:DW)]) fun _=>EA 16 s2661 ([DS]) fun _=>B2 (fun (s:(List DW)×(List AL)×Int) next3290=>match s with | (s3281,s3285,s3289)=>AD (decide (h<s3289)) (AN s3281 (A7 (s3289 - 1)) fun Y=>AN s3281 s3289 fun x3304=>AN s3285 (A7 (s3289 - 1)) fun x3307=>AN s3285 s3289 fun x3312=>next3290 ((s3281.set s3289.toNat Y),(s3285.set s3289.toNat x3307),A7 (s3289 - 1))) (AN a1 s2665 fun x3317=>AN a1 s2665 fun x3326=>AN s3281 h fun x3335=>AN s3285 h fun x3340=>next2668 ((s3281.set h.toNat ({ From:=x3317.From,To:=x3326.To,W:=0 }:DW)),(s3285.set h.toNat G),A7 (s2665+1)))) ((s2657++([({ From:=0,To:=0,W:=0 }:DW)])),(s2661++([DS])),A7 (((s2657++([({ From:=0,To:=0,W:=0 }:DW)])).length:Int) - 1)))) (B2 (fun (s:(List DW)×Int) next3416=>match s with | (s3411,s3415)=>AD (decide (s3415<(s3411.length:Int))) (AN s2661 s3415 fun x3432=>ME x3432 fun U=>AD (!U.2) (Q (([]:List DW),12)) (AN s3411 s3415 fun x3443=>next3416 ((s3411.set s3415.toNat ({ x3443 with W:=U.1 }:DW)),A7 (s3415+1)))) (Q (s3411,0))) (s2657,0))) (([]:List DW),([]:List AL),0))
def HW (a0:Int) (a1:Int) (Q:Int→Prop):Prop:=
 AD (decide (a1<1)) (Q 0) (AD (decide (a0<0)) (Q 0) (nzP a1 <| Q (a0.tmod a1)))
def DB (a0:Int) (a1:Int) (Q:Rows→Prop):Prop:=
 mkP 8 (A7 (a0+1)) 0 fun _=>Q ({ Rows:=a0,Cols:=a1,Start:=(List.replicate (A7 (a0+1)).toNat 0),Col:=([]:List Int),Val:=([]:List Int) }:Rows)
def HR (a0:Int) (a1:Int) (a2:List A1) (Q:Rows→Prop):Prop:=
 DB a0 a1 fun h=>B2 (fun (s:(List Int)×(List Int)×(List Int)×Int) next396=>match s with | (s383,s387,s391,s395)=>AD (decide (s395<(a2.length:Int))) (AN a2 s395 fun D=>EA 8 s387 ([D.Col]) fun _=>AN a2 s395 fun G=>EA 8 s391 ([G.Val]) fun _=>AN a2 s395 fun J=>B2 (fun (s:(List Int)×Int) next532=>match s with | (s527,s531)=>AD (decide (s531≤a0)) (AN s527 s531 fun O=>AN s527 s531 fun U=>next532 ((s527.set s531.toNat (A7 (O+1))),A7 (s531+1))) (next396 (s527,(s387++([D.Col])),(s391++([G.Val])),A7 (s395+1)))) (s383,A7 (J.Row+1))) (Q ({ h with Start:=s383,Col:=s387,Val:=s391 }:Rows))) (h.Start,h.Col,h.Val,0)
def HB (a0:Int) (a1:Int) (a2:Int) (D:List A1) (Q:(Rows×Int)→Prop):Prop:=
 MD a0 fun r15=>AD (!r15) (Q (B1,8)) (AD (decide (a1<0)) (Q (B1,3)) (AD (decide (4096<a1)) (Q (B1,3)) (AD (decide (a2<0)) (Q (B1,3)) (AD (decide (4096<a2)) (Q (B1,3)) (AD (decide (65536<(D.length:Int))) (Q (B1,5)) (B2 (fun (s:(List DW)×Int) next655=>match s with | (s649,s653)=>AD (decide (s653<(D.length:Int))) (AN D s653 fun x701=>AD (decide (x701.Row<0)) (Q (B1,3)) (AN D s653 fun Z=>AD (decide (a1≤Z.Row)) (Q (B1,3)) (AN D s653 fun x721=>AD (decide (x721.Col<0)) (Q (B1,3)) (AN D s653 fun x731=>AD (decide (a2≤x731.Col)) (Q (B1,3)) (AN D s653 fun Y=>AN D s653 fun J=>AN D s653 fun O=>EA 24 s649 ([({ From:=Y.Row,To:=J.Col,W:=O.Val }:DW)]) fun _=>next655 ((s649++([({ From:=Y.Row,To:=J.Col,W:=O.Val }:DW)])),A7 (s653+1))))))) (NZ a0 s649 fun h=>AD (h.2 != 0) (Q (B1,h.2)) (B2 (fun (s:(List A1)×Int) next871=>match s with | (s865,s869)=>AD (decide (s869<(h.1.length:Int))) (AN h.1 s869 fun U=>AN h.1 s869 fun V=>AN h.1 s869 fun G=>EA 24 s865 ([({ Row:=U.From,Col:=V.To,Val:=G.W }:A1)]) fun _=>next871 ((s865++([({ Row:=U.From,Col:=V.To,Val:=G.W }:A1)])),A7 (s869+1))) (HR a1 a2 s865 fun r901=>Q (r901,0))) (([]:List A1),0)))) (([]:List DW),0)))))))
def FR (a0:Int) (a1:Int) (Q:Bool→Prop):Prop:=
 AD (decide (1≤a0)) (Q (decide (a0≤a1))) (Q false)
def PA (a0:Int) (Q:Bool→Prop):Prop:=
 AD (decide (0<a0)) (Q (decide (a0<6))) (Q false)
def FW (a0:Int) (a1:Int) (Q:Bool→Prop):Prop:=
 AD (decide (0≤a0)) (Q (decide (a0≤a1))) (Q false)
def GV (a0:Int) (Q:Bool→Prop):Prop:=
 Q (a0 != a0)
def PB (a0:Int) (a1:Int) (Q:Bool→Prop):Prop:=
 GV a0 fun h=>AD h (GV a1 fun D=>AD (!D) (Q true) (Q (decide (a0<a1)))) (Q (decide (a0<a1)))
def F2 (a0:List Int) (Q:Bool→Prop):Prop:=
 B2 (fun (h:Int) next58=>AD (decide (0<h)) (AN a0 h fun G=>AN a0 (A7 (h - 1)) fun J=>PB G J fun D=>AD D (Q false) (next58 (A7 (h - 1)))) (Q true)) (A7 ((a0.length:Int) - 1))
def eK (a0:List Int) (a1:Int) (Q:Bool→Prop):Prop:=
 B2 (fun (h:Int) next69=>AD (decide (h<(a0.length:Int))) (AN a0 h fun D=>FW D (A7 (a1 - 1)) fun G=>AD (!G) (Q false) (AD (decide (0<h)) (AN a0 (A7 (h - 1)) fun J=>AD (decide (D≤J)) (Q false) (next69 (A7 (h+1)))) (next69 (A7 (h+1))))) (Q true)) 0
def HC (a0:Rows) (Q:Bool→Prop):Prop:=
 FW a0.Rows 4096 fun O=>AD (!O) (Q false) (FW a0.Cols 4096 fun V=>AD (!V) (Q false) (AD ((a0.Start.length:Int) != (A7 (a0.Rows+1))) (Q false) (AD ((a0.Val.length:Int) != (a0.Col.length:Int)) (Q false) (AD (decide (65536<(a0.Col.length:Int))) (Q false) (AN a0.Start 0 fun W=>AD (W != 0) (Q false) (AN a0.Start a0.Rows fun U=>AD (U != (a0.Col.length:Int)) (Q false) (F2 a0.Start fun Y=>AD (!Y) (Q false) (B2 (fun (h:Int) next157=>AD (decide (h<a0.Rows)) (AN a0.Start h fun D=>AN a0.Start (A7 (h+1)) fun G=>uM a0.Col D G fun _=>eK ((a0.Col.take G.toNat).drop D.toNat) a0.Cols fun J=>AD (!J) (Q false) (next157 (A7 (h+1)))) (Q true)) 0))))))))
def EV (a0:BF) (Q:Int→Prop):Prop:=
 PA a0.Ring fun J=>AD (!J) (Q 8) (DR (fun (D:Bool→Prop)=>HC a0.A fun U=>AD (!U) (D true) (HC a0.B fun Z=>AD (!Z) (D true) (HC a0.Mask fun W=>D (!W)))) fun s44=>AD s44 (Q 7) (DR (fun (h:Bool→Prop)=>AD (a0.A.Cols != a0.B.Rows) (h (a0.A.Cols != a0.B.Rows)) (AD (a0.Mask.Rows != a0.A.Rows) (h (a0.Mask.Rows != a0.A.Rows)) (h (a0.Mask.Cols != a0.B.Cols)))) fun G=>AD G (Q 4) (FR a0.R 8 fun Y=>AD (!Y) (Q 3) (FR a0.C 8 fun O=>AD (!O) (Q 3) (FR a0.Room 64 fun V=>AD (!V) (Q 3) (Q 0))))))
def NE (a0:Int) (Q:Bool→Prop):Prop:=
 AD (decide (0<a0)) (Q (decide (a0≤8))) (Q false)
def Q7 (a0:Int) (a1:Int) (Q:Bool→Prop):Prop:=
 AD (decide (0≤a0)) (AD (decide (a0≤4096)) (NE a1 fun h=>Q h) (Q false)) (Q false)
def FK (a0:Int) (a1:Int) (a2:Int) (Q:Int→Prop):Prop:=
 Q7 a0 a1 fun h=>AD (!h) (Q 0) (nzP a1 <| Q (A7 ((A7 ((if a1<(if 0 > a2 then 0 else a2) then a1 else (if 0 > a2 then 0 else a2))*a0)).tdiv a1)))
def ZI (a0:Int) (a1:Int) (a2:Int) (Q:Int→Prop):Prop:=
 Q7 a0 a1 fun G=>AD (!G) (Q (-1)) (AD (decide (a2<0)) (Q (-1)) (AD (decide (a0≤a2)) (Q (-1)) (nzP a0 <| B2 (fun (h:Int) next31=>FK a0 a1 (A7 (h+1)) fun D=>AD (decide (D≤a2)) (next31 (A7 (h+1))) (Q h)) (A7 ((A7 (a2*a1)).tdiv a0)))))
def SA (a0:Int) (a1:Int) (a2:Int) (Q:(Int×Int×Int)→Prop):Prop:=
 Q (a1,a0,a2)
def OW (o0:Nat) (o1:Int) (o2:Int) (o3:Int) (o4:List AV) (o5:Int) (o6:Int) (o7:Int) (o8:Int) (Y:Nat→Int→Int→Int→(List AV)→Int→Int→((Bool×Nat×(List AV)×Int)→Prop)→Prop) (Q:(Nat×(List AV)×Int)→Prop):Prop:=
 B2 (fun (s:(List Int)×Int) next145=>match s with | (s139,s143)=>AD (decide (s143<o6)) (FK o7 o6 (A7 (s143+1)) fun O=>EA 8 s139 ([O]) fun _=>next145 ((s139++([O])),A7 (s143+1))) (B2 (fun (s:(List Int)×Int) next264=>match s with | (s259,s263)=>AD (decide (s263<o8)) (FK o7 o8 (A7 (s263+1)) fun G=>EA 8 s259 ([G]) fun _=>next264 ((s259++([G])),A7 (s263+1))) (xA s259 fun J=>B2 (fun (s:(List AV)×Int×Int×Int×Nat) next396=>match s with | (s388,s392,s393,s394,s395)=>AD (decide (s394<(J.length:Int))) (AN J s394 fun D=>AD (decide (s393<D)) (Y s395 o1 o2 o3 s388 s392 D fun h=>AD (!h.1) (Q (h.2.1,h.2.2.1,h.2.2.2)) (next396 (h.2.2.1,h.2.2.2,D,A7 (s394+1),h.2.1))) (next396 (s388,s392,D,A7 (s394+1),s395))) (Q (s395,s388,s392))) (o4,o5,0,0,o0))) (s139,0))) (([]:List Int),0)
def KR (a0:Int) (a1:Int) (a2:Int) (Q:(List AV)→Prop):Prop:=
 Q7 a0 a1 fun r26=>AD (!r26) (Q ([]:List AV)) (Q7 a0 a2 fun r31=>AD (!r31) (Q ([]:List AV)) (SA a0 a1 a2 fun W=>OW 0 a0 a1 a2 ([]:List AV) 0 W.1 W.2.1 W.2.2 (fun (Y:Nat) (J:Int) (Z:Int) (y137:Int) (O:List AV) (h:Int) (D:Int) (Qy:(Bool×Nat×(List AV)×Int)→Prop)=>eqP Y 0 (ZI J Z h fun U=>ZI J y137 h fun G=>EA 32 O ([({ From:=h,To:=D,Row:=U,Col:=G }:AV)]) fun _=>Qy (true,0,(O++([({ From:=h,To:=D,Row:=U,Col:=G }:AV)])),D))) fun V=>eqP V.1 0 (Q V.2.1)))
def SU (a0:Int) (a1:Int) (Q:Int→Prop):Prop:=
 NE a0 fun h=>AD (!h) (Q (-1)) (AD (decide (a1<0)) (Q (-1)) (AD (decide ((A7 (a0*8))≤a1)) (Q (-1)) (nzP a0 <| Q (A7 (a1.tdiv a0)))))
def V7 (a0:Int) (a1:Int) (Q:Int→Prop):Prop:=
 SU a0 a1 fun h=>AD (decide (h<0)) (Q (-1)) (nzP a0 <| Q (a1.tmod a0))
def Q8 (a0:Int) (Q:Bool→Prop):Prop:=
 AD (decide (1≤a0)) (Q (decide (a0≤8))) (Q false)
def TL (a0:Int) (a1:Int) (a2:Int) (h:Int) (Q:Bool→Prop):Prop:=
 Q8 a0 fun D=>AD D (Q8 a1 fun G=>AD G (AD (decide (0≤a2)) (AD (decide (a2<a0)) (AD (decide (0≤h)) (Q (decide (h<a1))) (Q false)) (Q false)) (Q false)) (Q false)) (Q false)
def SV (a0:Int) (a1:Int) (Q:Rows→Prop):Prop:=
 mkP 8 (A7 (a0+1)) 0 fun _=>Q ({ Rows:=a0,Cols:=a1,Start:=(List.replicate (A7 (a0+1)).toNat 0),Col:=([]:List Int),Val:=([]:List Int) }:Rows)
def PQ (a0:Int) (a1:Int) (a2:List A1) (Q:Rows→Prop):Prop:=
 SV a0 a1 fun D=>B2 (fun (s:(List Int)×(List Int)×(List Int)×Int) next420=>match s with | (s407,s411,s415,s419)=>AD (decide (s419<(a2.length:Int))) (AN a2 s419 fun h=>AN s407 (A7 (h.Row+1)) fun G=>AN s407 (A7 (h.Row+1)) fun U=>EA 8 s411 ([h.Col]) fun _=>EA 8 s415 ([h.Val]) fun _=>next420 ((s407.set ((A7 (h.Row+1)).toNat) (A7 (G+1))),(s411++([h.Col])),(s415++([h.Val])),A7 (s419+1))) (B2 (fun (s:(List Int)×Int) next528=>match s with | (s523,s527)=>AD (decide (s527<a0)) (AN s523 (A7 (s527+1)) fun J=>AN s523 s527 fun O=>AN s523 (A7 (s527+1)) fun V=>next528 ((s523.set ((A7 (s527+1)).toNat) (A7 (J+O))),A7 (s527+1))) (Q ({ D with Start:=s523,Col:=s411,Val:=s415 }:Rows))) (s407,0))) (D.Start,D.Col,D.Val,0)
def SW (a0:Rows) (Q:Rows→Prop):Prop:=
 HC a0 fun D=>AD D (Q a0) (SV 0 0 fun h=>Q h)
def Q9 (a0:Int×Int) (a1:Int) (Q:(Int×Int)→Prop):Prop:=
 AD (decide ((if a1<a0.2 then a1 else a0.2)≤(if 0 > a0.1 then 0 else a0.1))) (Q ((if 0 > a0.1 then 0 else a0.1),0)) (Q ((if 0 > a0.1 then 0 else a0.1),A7 ((if a1<a0.2 then a1 else a0.2) - (if 0 > a0.1 then 0 else a0.1))))
def V8 (a0:Rows) (a1:Int) (Q:((List Int)×(List Int))→Prop):Prop:=
 AN a0.Start a1 fun D=>AN a0.Start (A7 (a1+1)) fun h=>uM a0.Col D h fun _=>uM a0.Val D h fun _=>Q (((a0.Col.take h.toNat).drop D.toNat),((a0.Val.take h.toNat).drop D.toNat))
def eL (a0:Rows) (a1:Int) (Q:(List CO)→Prop):Prop:=
 SW a0 fun J=>FW a1 (A7 (J.Rows - 1)) fun O=>AD (!O) (Q ([]:List CO)) (V8 J a1 fun G=>B2 (fun (s:(List CO)×Int) next140=>match s with | (s134,s138)=>AD (decide (s138<(G.1.length:Int))) (AN G.1 s138 fun D=>AN G.2 s138 fun h=>EA 16 s134 ([({ At:=D,Val:=h }:CO)]) fun _=>next140 ((s134++([({ At:=D,Val:=h }:CO)])),A7 (s138+1))) (Q s134)) (([]:List CO),0))
def LC (a0:Rows) (a1:Int×Int) (a2:Int×Int) (Q:Rows→Prop):Prop:=
 SW a0 fun O=>Q9 a1 O.Rows fun U=>Q9 a2 O.Cols fun D=>B2 (fun (s:(List A1)×Int) next418=>match s with | (s412,s416)=>AD (decide (s416<U.2)) (eL O (A7 (U.1+s416)) fun J=>B2 (fun (s:(List A1)×Int) next548=>match s with | (s543,s547)=>AD (decide (s547<(J.length:Int))) (AN J s547 fun h=>DR (fun (G:Bool→Prop)=>AD (decide (D.1≤h.At)) (G (decide ((A7 (h.At - D.1))<D.2))) (G false)) fun W=>AD W (EA 24 s543 ([({ Row:=s416,Col:=A7 (h.At - D.1),Val:=h.Val }:A1)]) fun _=>next548 ((s543++([({ Row:=s416,Col:=A7 (h.At - D.1),Val:=h.Val }:A1)])),A7 (s547+1))) (next548 (s543,A7 (s547+1)))) (next418 (s543,A7 (s416+1)))) (s412,0)) (PQ U.2 D.2 s412 fun V=>Q V)) (([]:List A1),0)
def MF (a0:Int) (a1:Int) (a2:Int) (Q:(Int×Int)→Prop):Prop:=
 FK a0 a1 a2 fun D=>FK a0 a1 (A7 (a2+1)) fun h=>Q (D,h)
def PR (a0:Rows) (a1:Int) (a2:Int) (W:Int) (Y:Int) (Q:Rows→Prop):Prop:=
 HC a0 fun U=>AD (!U) (LC B1 (0,0) (0,0) fun J=>Q J) (TL a1 a2 W Y fun h=>AD (!h) (LC B1 (0,0) (0,0) fun O=>Q O) (MF a0.Rows a1 W fun D=>MF a0.Cols a2 Y fun V=>LC a0 D V fun G=>Q G))
def LW (a0:Rows) (Q:(List A1)→Prop):Prop:=
 SW a0 fun J=>B2 (fun (s:(List A1)×Int) next371=>match s with | (s365,s369)=>AD (decide (s369<J.Rows)) (V8 J s369 fun h=>B2 (fun (s:(List A1)×Int) next497=>match s with | (s492,s496)=>AD (decide (s496<(h.1.length:Int))) (AN h.1 s496 fun D=>AN h.2 s496 fun G=>EA 24 s492 ([({ Row:=s369,Col:=D,Val:=G }:A1)]) fun _=>next497 ((s492++([({ Row:=s369,Col:=D,Val:=G }:A1)])),A7 (s496+1))) (next371 (s492,A7 (s369+1)))) (s365,0)) (Q s365)) (([]:List A1),0)
def HX (a0:Int) (a1:Int) (a2:Int) (Q:(Int×Int)→Prop):Prop:=
 FK a0 a1 a2 fun D=>FK a0 a1 (A7 (a2+1)) fun h=>Q (D,h)
def LX (a0:Int) (a1:Int) (Q:Bool→Prop):Prop:=
 AD (decide (0≤a0)) (Q (decide (a0≤a1))) (Q false)
def QA (a0:EI) (Q:Bool→Prop):Prop:=
 LX a0.A 63 fun G=>AD (!G) (Q false) (LX a0.B 63 fun D=>AD (!D) (Q false) (LX a0.K 63 fun h=>AD (!h) (Q false) (AD (decide (0<a0.Kind)) (Q (decide (a0.Kind≤5))) (Q false))))
def EM (a0:List CO) (Q:(List CO)→Prop):Prop:=
 AaE a0 (Q ([]:List CO)) (EA 16 ([]:List CO) a0 fun _=>Q (([]:List CO)++a0))
def FF (a0:List P9) (Q:(List P9)→Prop):Prop:=
 AaE a0 (Q ([]:List P9)) (EA 24 ([]:List P9) a0 fun _=>Q (([]:List P9)++a0))
def E0 (a0:List A1) (Q:(List A1)→Prop):Prop:=
 AaE a0 (Q ([]:List A1)) (EA 24 ([]:List A1) a0 fun _=>Q (([]:List A1)++a0))
def V9 (a0:AM) (Q:AM→Prop):Prop:=
 EM a0.Vec.Items fun D=>FF a0.Sums fun h=>E0 a0.Triples fun G=>Q ({ a0 with Vec:=({ N:=a0.Vec.N,Items:=D }:Vec),Sums:=h,Triples:=G }:AM)
def MG (a0:Int) (Q:AL→Prop):Prop:=
 Q ({ Hi:=shr .i64 a0 63,Lo:=IntKind.wrap .u64 (a0) }:AL)
def JM (a0:List Int) (Q:Int→Prop):Prop:=
 B2 (fun (h:Int) next32=>AD (decide (h<(a0.length:Int))) (AN a0 h fun D=>AD (D != 0) (Q D) (next32 (A7 (h+1)))) (Q 0)) 0
def LD (a0:Int) (Q:Bool→Prop):Prop:=
 Q (a0 != a0)
def IZ (a0:Int) (a1:Int) (Q:Int→Prop):Prop:=
 LD a0 fun D=>LD a1 fun h=>AD D (AD h (Q 0) (Q (-1))) (AD h (Q 1) (AD (decide (a0<a1)) (Q (-1)) (AD (decide (a1<a0)) (Q 1) (Q 0))))
def K7 (a0:Int) (Q:Bool→Prop):Prop:=
 Q (a0 != a0)
def HY (a0:Int) (a1:Int) (Q:Int→Prop):Prop:=
 K7 a0 fun D=>K7 a1 fun h=>AD D (AD h (Q 0) (Q (-1))) (AD h (Q 1) (AD (decide (a0<a1)) (Q (-1)) (AD (decide (a1<a0)) (Q 1) (Q 0))))
def PC (a0:AL) (a1:AL) (Q:Int→Prop):Prop:=
 IZ a0.Hi a1.Hi fun G=>HY a0.Lo a1.Lo fun h=>JM ([G,h]:List Int) fun D=>Q D
def OC (a0:AL) (a1:AL) (Q:AL→Prop):Prop:=
 PC a0 a1 fun h=>AD (decide (h≤0)) (Q a0) (Q a1)
def LQ (a0:Bool) (Q:AL→Prop):Prop:=
 AD a0 (MG 1 fun h=>Q h) (Q DS)
def QB (a0:Bool) (Q:Int→Prop):Prop:=
 AD a0 (Q 1) (Q 0)
def VA (a0:AL) (a1:AL) (Q:AL→Prop):Prop:=
 QB (decide ((IntKind.wrap .u64 (a0.Lo+a1.Lo))<a1.Lo)) fun h=>Q ({ Hi:=A7 (IntKind.wrap .u64 ((IntKind.wrap .u64 ((IntKind.wrap .u64 (a0.Hi))+(IntKind.wrap .u64 (a1.Hi))))+h)),Lo:=IntKind.wrap .u64 (a0.Lo+a1.Lo) }:AL)
def SX (a0:Int) (a1:AL) (a2:AL) (Q:AL→Prop):Prop:=
 DR (fun (h:Bool→Prop)=>AD (a0==1) (h (a0==1)) (AD (a0==3) (h (a0==3)) (h (a0==4)))) fun U=>AD U (OC a1 a2 fun O=>Q O) (AD (a0==2) (AD (!(a1==a2)) (LQ true fun G=>Q G) (LQ (!(a1==DS)) fun J=>Q J)) (AD (a0==5) (VA a1 a2 fun D=>Q D) (Q DS)))
def VB (a0:AL) (Q:(Int×Bool)→Prop):Prop:=
 MG (A7 (a0.Lo)) fun h=>AD (!(h==a0)) (Q (0,false)) (Q (A7 (a0.Lo),true))
def LY (a0:Int) (a1:AL) (Q:(Int×Bool)→Prop):Prop:=
 VB a1 fun h=>Q (h.1,h.2)
def CY (a0:Int) (a1:Int) (Q:Int→Prop):Prop:=
 GV a0 fun D=>GV a1 fun h=>AD D (AD h (Q 0) (Q (-1))) (AD h (Q 1) (AD (decide (a0<a1)) (Q (-1)) (AD (decide (a1<a0)) (Q 1) (Q 0))))
def WS (a0:A1) (a1:A1) (Q:Int→Prop):Prop:=
 CY a0.Row a1.Row fun G=>CY a0.Col a1.Col fun h=>JM ([G,h]:List Int) fun D=>Q D
def QC (a0:Int) (a1:List A1) (Q:((List A1)×Int)→Prop):Prop:=
 B2 (fun (s:(List ((Int×Int)×AL))×Int) next295=>match s with | (s293,s294)=>AD (decide (s294<(a1.length:Int))) (AN a1 s294 fun h=>MG h.Val fun J=>kP s293 (h.Row,h.Col) DS fun W Y=>AD Y (SX a0 W J fun U=>next295 ((FC (h.Row,h.Col) U s293),A7 (s294+1))) (next295 ((FC (h.Row,h.Col) J s293),A7 (s294+1)))) (B2 (fun (s:(List A1)×(List ((Int×Int)×AL))) next463=>match s with | (s457,s461)=>sO s461 (sP WS s457 fun V=>Q (V,0)) (fun D O=>LY a0 D.2 fun G=>AD (!G.2) (Q (([]:List A1),12)) (EA 24 s457 ([({ Row:=D.1.1,Col:=D.1.2,Val:=G.1 }:A1)]) fun _=>next463 ((s457++([({ Row:=D.1.1,Col:=D.1.2,Val:=G.1 }:A1)])),O)))) (([]:List A1),s293))) (([]:List ((Int×Int)×AL)),0)
def TM (o0:Int) (o1:Int) (a0:A1) (Q:Bool→Prop):Prop:=
 FW a0.Row (A7 (o0 - 1)) fun D=>AD (!D) (Q true) (FW a0.Col (A7 (o1 - 1)) fun h=>Q (!h))
def CU (o0:Int) (o1:Int) (a0:List A1) (Q:Int→Prop):Prop:=
 B2 (fun (h:Int) next50=>AD (decide (h<(a0.length:Int))) (AN a0 h fun D=>TM o0 o1 D fun G=>AD G (Q h) (next50 (A7 (h+1)))) (Q (-1))) 0
def CQ (o0:Int) (o1:Int) (a0:List A1) (Q:Bool→Prop):Prop:=
 CU o0 o1 a0 fun h=>Q (decide (0≤h))
def QD (a0:Int) (a1:Int) (a2:Int) (U:List A1) (Q:(Rows×Int)→Prop):Prop:=
 PA a0 fun Y=>AD (!Y) (Q (B1,8)) (DR (fun (J:Bool→Prop)=>FW a1 4096 fun W=>AD (!W) (J true) (FW a2 4096 fun O=>J (!O))) fun V=>AD V (Q (B1,3)) (AD (decide (65536<(U.length:Int))) (Q (B1,5)) (CQ a1 a2 U fun D=>AD D (Q (B1,3)) (QC a0 U fun h=>AD (h.2 != 0) (Q (B1,h.2)) (PQ a1 a2 h.1 fun G=>Q (G,0))))))
def WT (a0:List Rows) (Q:(List Rows)→Prop):Prop:=
 B2 (fun (s:(List Rows)×Int) next138=>match s with | (s132,s136)=>AD (decide (s136<(a0.length:Int))) (AN a0 s136 fun h=>HC h fun G=>AD (!G) (LC h (0,0) (0,0) fun D=>EA 88 s132 ([D]) fun _=>next138 ((s132++([D])),A7 (s136+1))) (EA 88 s132 ([h]) fun _=>next138 ((s132++([h])),A7 (s136+1)))) (Q s132)) (([]:List Rows),0)
def PS (a0:Rows) (a1:Int) (Q:((List Int)×(List Int))→Prop):Prop:=
 AN a0.Start a1 fun D=>AN a0.Start (A7 (a1+1)) fun h=>uM a0.Col D h fun _=>uM a0.Val D h fun _=>Q (((a0.Col.take h.toNat).drop D.toNat),((a0.Val.take h.toNat).drop D.toNat))
def GD (a0:Int) (Q:(Int×Int)→Prop):Prop:=
 Q (shr .u64 (shl .u64 a0 32) 32,shr .u64 a0 32)
def PD (a0:Int) (a1:Int) (Q:AL→Prop):Prop:=
 GD a0 fun D=>GD a1 fun h=>GD (IntKind.wrap .u64 (D.1*h.1)) fun O=>GD (IntKind.wrap .u64 ((IntKind.wrap .u64 (D.2*h.1))+O.2)) fun J=>GD (IntKind.wrap .u64 ((IntKind.wrap .u64 (D.1*h.2))+J.1)) fun G=>GD (IntKind.wrap .u64 (D.1*h.1)) fun U=>Q ({ Hi:=A7 (IntKind.wrap .u64 ((IntKind.wrap .u64 ((IntKind.wrap .u64 (D.2*h.2))+J.2))+G.2)),Lo:=bor .u64 (shl .u64 G.1 32) U.1 }:AL)
def SY (a0:Int) (Q:Int→Prop):Prop:=
 AD (decide (a0<0)) (Q (IntKind.wrap .u64 (0 - (IntKind.wrap .u64 (a0))))) (Q (IntKind.wrap .u64 (a0)))
def ZJ (a0:AL) (a1:AL) (Q:AL→Prop):Prop:=
 QB (decide (a0.Lo<a1.Lo)) fun h=>Q ({ Hi:=A7 (IntKind.wrap .u64 ((IntKind.wrap .u64 ((IntKind.wrap .u64 (a0.Hi)) - (IntKind.wrap .u64 (a1.Hi)))) - h)),Lo:=IntKind.wrap .u64 (a0.Lo - a1.Lo) }:AL)
def ZK (a0:Int) (a1:Int) (Q:AL→Prop):Prop:=
 SY a0 fun J=>SY a1 fun G=>PD J G fun h=>AD (!((decide (a0<0))==(decide (a1<0)))) (ZJ DS h fun D=>Q D) (Q h)
def ZL (a0:Int) (a1:Int) (a2:Int) (Q:AL→Prop):Prop:=
 AD (a0==2) (AD (a1 != 0) (LQ (a2 != 0) fun r22=>Q r22) (LQ false fun W=>Q W)) (AD (a0==5) (ZK a1 a2 fun r31=>Q r31) (DR (fun (h:Unit→Prop)=>PA a0 fun r56=>AD r56 (AD (decide (4611686018427387904≤(if a2 > a1 then a2 else a1))) (MG 4611686018427387904 fun r62=>Q r62) (h ())) (h ())) fun _=>DR (fun (V:(Int×Int)→Prop)=>AD (a0==1) (MG a1 fun U=>V (U.Hi,U.Lo)) (AD (a0==4) (V (0,0)) (AD (a0==3) (MG a1 fun Z=>Q Z) (Q DS)))) fun (Y,s89)=>MG 4611686018427387904 fun G=>MG a2 fun D=>VA ({ Hi:=Y,Lo:=s89 }:AL) D fun J=>OC G J fun O=>Q O))
def PE (o0:List (Int×Bool)) (a0:Int) (a1:Rows) (a2:Rows) (a3:Int) (Q:(List (Int×AL))→Prop):Prop:=
 PS a1 a3 fun W=>B2 (fun (s:(List (Int×AL))×Int) next745=>match s with | (s743,s744)=>AD (decide (s744<(W.1.length:Int))) (AN W.1 s744 fun x761=>PS a2 x761 fun G=>B2 (fun (s:(List (Int×AL))×Int) next997=>match s with | (s995,s996)=>AD (decide (s996<(G.1.length:Int))) (AN G.1 s996 fun h=>wK o0 h false fun U=>AD (!U) (next997 (s995,A7 (s996+1))) (AN W.2 s744 fun J=>AN G.2 s996 fun V=>ZL a0 J V fun D=>kP s995 h DS fun Y Z=>AD Z (SX a0 Y D fun O=>next997 ((FC h O s995),A7 (s996+1))) (next997 ((FC h D s995),A7 (s996+1))))) (next745 (s995,A7 (s744+1)))) (s743,0)) (Q s743)) (([]:List (Int×AL)),0)
def QE (a0:Int) (a1:Rows) (a2:Rows) (a3:Rows) (Q:((List AB)×Int)→Prop):Prop:=
 WT ([a1,a2,a3]:List Rows) fun W=>AN W 0 fun U=>AN W 1 fun V=>AN W 2 fun G=>PA a0 fun r136=>AD (!r136) (Q (([]:List AB),8)) (AD (U.Cols != V.Rows) (Q (([]:List AB),4)) (AD (G.Rows != U.Rows) (Q (([]:List AB),4)) (AD (G.Cols != V.Cols) (Q (([]:List AB),4)) (B2 (fun (s:(List AB)×Int) next777=>match s with | (s771,s775)=>AD (decide (s775<G.Rows)) (PS G s775 fun D=>B2 (fun (s:(List (Int×Bool))×Int) next893=>match s with | (s891,s892)=>AD (decide (s892<(D.1.length:Int))) (AN D.1 s892 fun Y=>next893 ((FC Y true s891),A7 (s892+1))) (PE s891 a0 U V s775 fun Z=>B2 (fun (s:(List AB)×Int) next1039=>match s with | (s1034,s1038)=>AD (decide (s1038<(D.1.length:Int))) (AN D.1 s1038 fun h=>kP Z h DS fun J O=>AD O (EA 32 s1034 ([({ Row:=s775,Col:=h,Val:=J }:AB)]) fun _=>next1039 ((s1034++([({ Row:=s775,Col:=h,Val:=J }:AB)])),A7 (s1038+1))) (next1039 (s1034,A7 (s1038+1)))) (next777 (s1034,A7 (s775+1)))) (s771,0))) (([]:List (Int×Bool)),0)) (Q (s771,0))) (([]:List AB),0)))))
def QF (a0:AB) (a1:AB) (Q:Int→Prop):Prop:=
 CY a0.Row a1.Row fun G=>CY a0.Col a1.Col fun h=>JM ([G,h]:List Int) fun D=>Q D
def JO (a0:List AB) (Q:Bool→Prop):Prop:=
 B2 (fun (h:Int) next36=>AD (decide (h<(a0.length:Int))) (AD (decide (0<h)) (AN a0 (A7 (h - 1)) fun G=>AN a0 h fun J=>QF G J fun D=>AD (decide (0≤D)) (Q false) (next36 (A7 (h+1)))) (next36 (A7 (h+1)))) (Q true)) 0
def EW (a1:Int) (Q:(List AB)→Prop):Prop:=
 AD (decide (a1<0)) (False) (AD (decide (0<(A7 (a1 - (A7 (0 - 0)))))) (grP 32 (A7 (a1 - (A7 (0 - 0)))) <| Q ([]:List AB)) (Q ([]:List AB)))
def D9 (a0:List (List AB)) (Q:(List AB)→Prop):Prop:=
 B2 (fun (s:Int×Int) next161=>match s with | (s159,s160)=>AD (decide (s160<(a0.length:Int))) (AN a0 s160 fun D=>AD (decide ((A7 (s159+(D.length:Int)))<0)) (False) (next161 (A7 (s159+(D.length:Int)),A7 (s160+1)))) (EW s159 fun G=>B2 (fun (s:(List AB)×Int) next271=>match s with | (s266,s270)=>AD (decide (s270<(a0.length:Int))) (AN a0 s270 fun h=>EA 32 s266 h fun _=>next271 ((s266++h),A7 (s270+1))) (Q s266)) (G,0))) (0,0)
def NF (a0:List AB) (Q:Bool→Prop):Prop:=
 JO a0 fun h=>Q (!h)
def DC (a0:List (List AB)) (Q:Int→Prop):Prop:=
 B2 (fun (h:Int) next52=>AD (decide (h<(a0.length:Int))) (AN a0 h fun D=>NF D fun G=>AD G (Q h) (next52 (A7 (h+1)))) (Q (-1))) 0
def CZ (a0:List (List AB)) (Q:Bool→Prop):Prop:=
 DC a0 fun h=>Q (decide (0≤h))
def EC (a0:AB) (a1:AB) (Q:Int→Prop):Prop:=
 CY a0.Row a1.Row fun G=>CY a0.Col a1.Col fun h=>JM ([G,h]:List Int) fun D=>Q D
def BT (o0:List AB) (a0:Int) (a1:Int) (Q:(List AB)→Prop):Prop:=
 B2 (fun (s:(List AB)×Int) next332=>match s with | (s330,s331)=>AD (decide (s331<a1)) (B2 (fun (s:(List AB)×Int) next446=>match s with | (s444,s445)=>AD (decide (a0<s445)) (AN s444 s445 fun O=>AN s444 (A7 (s445 - 1)) fun J=>EC O J fun G=>AD (decide (G<0)) (AN s444 (A7 (s445 - 1)) fun h=>AN s444 s445 fun D=>AN s444 s445 fun V=>AN (s444.set s445.toNat h) (A7 (s445 - 1)) fun U=>next446 (((s444.set s445.toNat h).set ((A7 (s445 - 1)).toNat) D),A7 (s445 - 1))) (next332 (s444,A7 (s331+1)))) (next332 (s444,A7 (s331+1)))) (s330,s331)) (Q s330)) (o0,A7 (a0+1))
def BS (o0:List AB) (a0:Int) (a1:Int) (a2:Int) (Q:(List AB)→Prop):Prop:=
 B2 (fun (s:(List AB)×Int) next46=>match s with | (s44,s45)=>AD (decide (s45<a2)) (AN s44 (A7 (a1+s45)) fun h=>AN s44 (A7 (a0+s45)) fun D=>AN s44 (A7 (a0+s45)) fun J=>AN (s44.set ((A7 (a0+s45)).toNat) h) (A7 (a1+s45)) fun G=>next46 (((s44.set ((A7 (a0+s45)).toNat) h).set ((A7 (a1+s45)).toNat) D),A7 (s45+1))) (Q s44)) (o0,0)
def D1 (o0:List AB) (a0:Int) (a1:Int) (a2:Int) (Q:(List AB)→Prop):Prop:=
 B2 (fun (s:(List AB)×Int×Int) next66=>match s with | (s63,s64,s65)=>AD (s64 != s65) (AD (decide (s65<s64)) (BS s63 (A7 (a1 - s64)) a1 s65 fun G=>next66 (G,A7 (s64 - s65),s65)) (BS s63 (A7 (a1 - s64)) (A7 ((A7 (a1+s65)) - s64)) s64 fun D=>next66 (D,s64,A7 (s65 - s64)))) (BS s63 (A7 (a1 - s64)) a1 s64 fun h=>Q h)) (o0,A7 (a1 - a0),A7 (a2 - a1))
def B8 (rc:(List AB)→Int→Int→Int→((List AB)→Prop)→Prop) (o0:List AB) (a0:Int) (a1:Int) (a2:Int) (Q:(List AB)→Prop):Prop:=
 AD ((A7 (a1 - a0))==1) (B2 (fun (s:Int×Int) next323=>match s with | (s321,s322)=>AD (decide (s321<s322)) (AN o0 (A7 (shr .u64 (IntKind.wrap .u64 (A7 (s321+s322))) 1)) fun x330=>AN o0 a0 fun x335=>EC x330 x335 fun r343=>AD (decide (r343<0)) (next323 (A7 ((A7 (shr .u64 (IntKind.wrap .u64 (A7 (s321+s322))) 1))+1),s322)) (next323 (s321,A7 (shr .u64 (IntKind.wrap .u64 (A7 (s321+s322))) 1)))) (B2 (fun (s:(List AB)×Int) next388=>match s with | (s386,s387)=>AD (decide (s387<(A7 (s321 - 1)))) (AN s386 (A7 (s387+1)) fun O=>AN s386 s387 fun x402=>AN s386 s387 fun x405=>AN (s386.set s387.toNat O) (A7 (s387+1)) fun x408=>next388 (((s386.set s387.toNat O).set ((A7 (s387+1)).toNat) x402),A7 (s387+1))) (Q s386)) (o0,a0))) (a1,a2)) (AD ((A7 (a2 - a1))==1) (B2 (fun (s:Int×Int) next729=>match s with | (s727,s728)=>AD (decide (s727<s728)) (AN o0 a1 fun x736=>AN o0 (A7 (shr .u64 (IntKind.wrap .u64 (A7 (s727+s728))) 1)) fun x741=>EC x736 x741 fun r749=>AD (!(decide (r749<0))) (next729 (A7 ((A7 (shr .u64 (IntKind.wrap .u64 (A7 (s727+s728))) 1))+1),s728)) (next729 (s727,A7 (shr .u64 (IntKind.wrap .u64 (A7 (s727+s728))) 1)))) (B2 (fun (s:(List AB)×Int) next794=>match s with | (s792,s793)=>AD (decide (s727<s793)) (AN s792 (A7 (s793 - 1)) fun U=>AN s792 s793 fun x808=>AN s792 s793 fun x811=>AN (s792.set s793.toNat U) (A7 (s793 - 1)) fun x814=>next794 (((s792.set s793.toNat U).set ((A7 (s793 - 1)).toNat) x808),A7 (s793 - 1))) (Q s792)) (o0,a1))) (a0,a1)) (DR (fun (V:(Int×Int)→Prop)=>AD (decide ((A7 (shr .u64 (IntKind.wrap .u64 (A7 (a0+a2))) 1))<a1)) (V (A7 ((A7 ((A7 (shr .u64 (IntKind.wrap .u64 (A7 (a0+a2))) 1))+a1)) - a2),A7 (shr .u64 (IntKind.wrap .u64 (A7 (a0+a2))) 1))) (V (a0,a1))) fun (s818,s819)=>B2 (fun (s:Int×Int) next945=>match s with | (s943,s944)=>AD (decide (s943<s944)) (AN o0 (A7 ((A7 ((A7 ((A7 (shr .u64 (IntKind.wrap .u64 (A7 (a0+a2))) 1))+a1)) - 1)) - (A7 (shr .u64 (IntKind.wrap .u64 (A7 (s943+s944))) 1)))) fun x953=>AN o0 (A7 (shr .u64 (IntKind.wrap .u64 (A7 (s943+s944))) 1)) fun x958=>EC x953 x958 fun r966=>AD (!(decide (r966<0))) (next945 (A7 ((A7 (shr .u64 (IntKind.wrap .u64 (A7 (s943+s944))) 1))+1),s944)) (next945 (s943,A7 (shr .u64 (IntKind.wrap .u64 (A7 (s943+s944))) 1)))) (DR (fun (h:(List AB)→Prop)=>AD (decide (s943<a1)) (AD (decide (a1<(A7 ((A7 ((A7 (shr .u64 (IntKind.wrap .u64 (A7 (a0+a2))) 1))+a1)) - s943)))) (D1 o0 s943 a1 (A7 ((A7 ((A7 (shr .u64 (IntKind.wrap .u64 (A7 (a0+a2))) 1))+a1)) - s943)) fun W=>h W) (h o0)) (h o0)) fun J=>DR (fun (G:(List AB)→Prop)=>AD (decide (a0<s943)) (AD (decide (s943<(A7 (shr .u64 (IntKind.wrap .u64 (A7 (a0+a2))) 1)))) (rc J a0 s943 (A7 (shr .u64 (IntKind.wrap .u64 (A7 (a0+a2))) 1)) fun Z=>G Z) (G J)) (G J)) fun D=>AD (decide ((A7 (shr .u64 (IntKind.wrap .u64 (A7 (a0+a2))) 1))<(A7 ((A7 ((A7 (shr .u64 (IntKind.wrap .u64 (A7 (a0+a2))) 1))+a1)) - s943)))) (AD (decide ((A7 ((A7 ((A7 (shr .u64 (IntKind.wrap .u64 (A7 (a0+a2))) 1))+a1)) - s943))<a2)) (rc D (A7 (shr .u64 (IntKind.wrap .u64 (A7 (a0+a2))) 1)) (A7 ((A7 ((A7 (shr .u64 (IntKind.wrap .u64 (A7 (a0+a2))) 1))+a1)) - s943)) a2 fun Y=>Q Y) (Q D)) (Q D))) (s818,s819)))
def CM:Nat→(List AB)→Int→Int→Int→((List AB)→Prop)→Prop
 | 0=>fun _ _ _ _ _=>False
 | k+1=>B8 (CM k)
def CT (o0:List AB) (a0:Int) (a1:Int) (a2:Int) (Q:(List AB)→Prop):Prop:=∃ k,CM k o0 a0 a1 a2 Q
def E9 (o0:List AB) (a0:Int) (Q:(List AB)→Prop):Prop:=
 B2 (fun (s:(List AB)×Int×Int) next98=>match s with | (s95,s96,s97)=>AD (decide (s97≤a0)) (BT s95 s96 s97 fun D=>next98 (D,s97,A7 (s97+20))) (BT s95 s96 a0 fun J=>B2 (fun (s:(List AB)×Int) next420=>match s with | (s418,s419)=>AD (decide (s419<a0)) (B2 (fun (s:(List AB)×Int×Int) next533=>match s with | (s530,s531,s532)=>AD (decide (s532≤a0)) (CT s530 s531 (A7 (s531+s419)) s532 fun h=>next533 (h,s532,A7 (s532+(A7 (2*s419))))) (AD (decide ((A7 (s531+s419))<a0)) (CT s530 s531 (A7 (s531+s419)) a0 fun G=>next420 (G,A7 (s419*2))) (next420 (s530,A7 (s419*2))))) (s418,0,A7 (2*s419))) (Q s418)) (J,20))) (o0,0,20)
def C0 (o0:List AB) (Q:(List AB)→Prop):Prop:=
 E9 o0 (o0.length:Int) fun h=>Q h
def NG (a0:Int) (a1:List (List AB)) (Q:((List AB)×Int)→Prop):Prop:=
 PA a0 fun Z=>AD (!Z) (Q (([]:List AB),8)) (CZ a1 fun r31=>AD r31 (Q (([]:List AB),6)) (D9 a1 fun r45=>C0 r45 fun U=>B2 (fun (s:(List AB)×Int) next199=>match s with | (s193,s197)=>AD (decide (s197<(U.length:Int))) (AN U s197 fun h=>DR (fun (D:Bool→Prop)=>AD (decide (0<(s193.length:Int))) (AN s193 (A7 ((s193.length:Int) - 1)) fun J=>QF J h fun O=>D (O==0)) (D false)) fun V=>AD V (AN s193 (A7 ((s193.length:Int) - 1)) fun G=>SX a0 G.Val h.Val fun Y=>AN s193 (A7 ((s193.length:Int) - 1)) fun W=>next199 ((s193.set ((A7 ((s193.length:Int) - 1)).toNat) ({ W with Val:=Y }:AB)),A7 (s197+1))) (EA 32 s193 ([h]) fun _=>next199 ((s193++([h])),A7 (s197+1)))) (Q (s193,0))) (([]:List AB),0)))
def HZ (a0:List Int) (Q:Int→Prop):Prop:=
 AD (decide ((a0.length:Int)<1)) (False) (AN a0 0 fun D=>B2 (fun (s:Int×Int) next54=>match s with | (s52,s53)=>AD (decide (s53<(a0.length:Int))) (AN a0 s53 fun h=>next54 ((if h<s52 then h else s52),A7 (s53+1))) (Q s52)) (D,1))
def FY (a0:AB) (a1:AB) (Q:Int→Prop):Prop:=
 CY a0.Row a1.Row fun G=>CY a0.Col a1.Col fun h=>JM ([G,h]:List Int) fun D=>Q D
def SZ (a0:Int) (Q:Int→Prop):Prop:=
 AD (a0==1) (Q 4611686018427387904) (AD (a0==3) (Q 4611686018427387904) (AD (a0==4) (Q 4611686018427387904) (Q 0)))
def JP (a0:Int) (a1:Int) (Q:Bool→Prop):Prop:=
 AD (decide (0≤a0)) (Q (decide (a0≤a1))) (Q false)
def OX (o0:Int) (o1:Int) (a0:AB) (Q:Bool→Prop):Prop:=
 JP a0.Row (A7 (o0 - 1)) fun D=>AD (!D) (Q true) (JP a0.Col (A7 (o1 - 1)) fun h=>Q (!h))
def DD (o0:Int) (o1:Int) (a0:List AB) (Q:Int→Prop):Prop:=
 B2 (fun (h:Int) next50=>AD (decide (h<(a0.length:Int))) (AN a0 h fun D=>OX o0 o1 D fun G=>AD G (Q h) (next50 (A7 (h+1)))) (Q (-1))) 0
def D0 (o0:Int) (o1:Int) (a0:List AB) (Q:Bool→Prop):Prop:=
 DD o0 o1 a0 fun h=>Q (decide (0≤h))
def WU (a0:Int) (a1:Int) (a2:Int) (V:List AB) (Q:(Rows×Int)→Prop):Prop:=
 PA a0 fun r90=>AD (!r90) (Q (B1,8)) (DR (fun (G:Bool→Prop)=>JP a1 4096 fun W=>AD (!W) (G true) (JP a2 4096 fun U=>G (!U))) fun O=>AD O (Q (B1,3)) (D0 a1 a2 V fun Z=>AD Z (Q (B1,3)) (JO V fun Y=>AD (!Y) (Q (B1,6)) (AD (decide (65536<(V.length:Int))) (Q (B1,5)) (B2 (fun (s:(List A1)×Int) next447=>match s with | (s441,s445)=>AD (decide (s445<(V.length:Int))) (AN V s445 fun D=>LY a0 D.Val fun h=>AD (!h.2) (Q (B1,12)) (SZ a0 fun r489=>AD (h.1 != r489) (EA 24 s441 ([({ D with Val:=h.1 }:A1)]) fun _=>next447 ((s441++([({ D with Val:=h.1 }:A1)])),A7 (s445+1))) (next447 (s441,A7 (s445+1))))) (QD a0 a1 a2 s441 fun J=>Q (J.1,J.2))) (([]:List A1),0))))))
def I3 (a0:GB) (a1:Int) (Q:(List EI)→Prop):Prop:=
 B2 (fun (s:(List EI)×Int) next151=>match s with | (s145,s149)=>AD (decide (s149<(a0.L.length:Int))) (AD (decide (s149<120)) (AN a0.L s149 fun h=>HW h.Kind 5 fun O=>HW h.A a1 fun G=>HW h.B a1 fun D=>HW h.K 3 fun J=>EA 32 s145 ([({ Kind:=A7 (O+1),A:=G,B:=D,K:=J }:EI)]) fun _=>next151 ((s145++([({ Kind:=A7 (O+1),A:=G,B:=D,K:=J }:EI)])),A7 (s149+1))) (Q s145)) (Q s145)) (([]:List EI),0)
def FS (a0:Rows) (Q:Bool→Prop):Prop:=
 AD (decide (a0.Rows<0)) (Q false) (AD (decide (4096<a0.Rows)) (Q false) (AD (decide (a0.Cols<0)) (Q false) (AD (decide (4096<a0.Cols)) (Q false) (AD ((a0.Start.length:Int) != (A7 (a0.Rows+1))) (Q false) (AD ((a0.Col.length:Int) != (a0.Val.length:Int)) (Q false) (AD (decide (65536<(a0.Col.length:Int))) (Q false) (AN a0.Start 0 fun x42=>AD (x42 != 0) (Q false) (AN a0.Start a0.Rows fun x52=>AD (x52 != (a0.Col.length:Int)) (Q false) (B2 (fun (h:Int) next689=>AD (decide (h<a0.Rows)) (AN a0.Start h fun x734=>AN a0.Start (A7 (h+1)) fun J=>AD (decide (J<x734)) (Q false) (AN a0.Start h fun x753=>AD (decide (x753<0)) (Q false) (AN a0.Start (A7 (h+1)) fun Y=>AD (decide ((a0.Col.length:Int)<Y)) (Q false) (AN a0.Start h fun U=>B2 (fun (D:Int) next932=>AN a0.Start (A7 (h+1)) fun V=>AD (decide (D<V)) (AN a0.Col D fun x957=>AD (decide (x957<0)) (Q false) (AN a0.Col D fun W=>AD (decide (a0.Cols≤W)) (Q false) (AN a0.Start h fun O=>AD (decide (O<D)) (AN a0.Col D fun G=>AN a0.Col (A7 (D - 1)) fun Z=>AD (decide (G≤Z)) (Q false) (next932 (A7 (D+1)))) (next932 (A7 (D+1)))))) (next689 (A7 (h+1)))) U)))) (Q true)) 0)))))))))
def I4 (a0:Rows) (Q:Rows→Prop):Prop:=
 FS a0 fun D=>AD D (Q a0) (DB 0 0 fun h=>Q h)
def WV (a0:Rows) (a1:Int) (Q:(List CO)→Prop):Prop:=
 I4 a0 fun h=>AD (decide (a1<0)) (Q ([]:List CO)) (AD (decide (h.Rows≤a1)) (Q ([]:List CO)) (AN h.Start a1 fun O=>B2 (fun (s:(List CO)×Int) next161=>match s with | (s155,s159)=>AN h.Start (A7 (a1+1)) fun J=>AD (decide (s159<J)) (AN h.Col s159 fun D=>AN h.Val s159 fun G=>EA 16 s155 ([({ At:=D,Val:=G }:CO)]) fun _=>next161 ((s155++([({ At:=D,Val:=G }:CO)])),A7 (s159+1))) (Q s155)) (([]:List CO),O)))
def T1 (a0:Rows) (a1:Int) (a2:Int) (Q:(Int×Bool)→Prop):Prop:=
 WV a0 a1 fun D=>B2 (fun (h:Int) next91=>AD (decide (h<(D.length:Int))) (AN D h fun G=>AD (G.At==a2) (AN D h fun J=>Q (J.Val,true)) (next91 (A7 (h+1)))) (Q (0,false))) 0
def LZ (a0:Int) (Q:Int→Prop):Prop:=
 Q (a0.tmod 14)
def OD (a0:Int) (Q:Int→Prop):Prop:=
 AD (decide (a0<1)) (Q 1) (AD (decide (5<a0)) (Q 1) (Q a0))
def QG (a0:Int) (Q:Int→Prop):Prop:=
 Q ((A7 (a0)).tmod 40)
def WW (a0:List A1) (Q:(List A1)→Prop):Prop:=
 AD (decide (60<(a0.length:Int))) (uM a0 0 60 fun _=>Q ((a0.take (Int.toNat 60)).drop (Int.toNat 0))) (Q a0)
def TN (a0:Int×Int) (a1:List A1) (Q:Rows→Prop):Prop:=
 QG a0.1 fun G=>QG a0.2 fun D=>WW a1 fun U=>B2 (fun (s:(List A1)×Int) next303=>match s with | (s297,s301)=>AD (decide (s301<(U.length:Int))) (AN U s301 fun h=>AD (decide (h.Row<0)) (next303 (s297,A7 (s301+1))) (AD (decide (h.Col<0)) (next303 (s297,A7 (s301+1))) (AD (G==0) (next303 (s297,A7 (s301+1))) (AD (D==0) (next303 (s297,A7 (s301+1))) (nzP G <| nzP D <| EA 24 s297 ([({ Row:=h.Row.tmod G,Col:=h.Col.tmod D,Val:=h.Val }:A1)]) fun _=>next303 ((s297++([({ Row:=h.Row.tmod G,Col:=h.Col.tmod D,Val:=h.Val }:A1)])),A7 (s301+1))))))) (HB 1 G D s297 fun J=>AD (J.2 != 0) (DB G D fun O=>Q O) (Q J.1))) (([]:List A1),0)
def RS (a0:Int) (a1:Int) (Q:Int→Prop):Prop:=
 AD (a0==5) (Q a1) (AD (a0==2) (Q (nC .i64 a1 1)) (AD (((nC .i64 a1 4611686018427387903).tmod 5)==0) (Q 4611686018427387904) (Q (nC .i64 a1 4611686018427387903))))
def PF (a0:Int) (a1:Int) (Q:Int→Prop):Prop:=
 AD (a0==5) (Q (a1.tmod 2147483648)) (RS a0 a1 fun h=>Q h)
def F3 (a0:EL) (Q:Rows→Prop):Prop:=
 TN a0.Size a0.L fun D=>OD a0.Ring fun J=>B2 (fun (s:(List Int)×Int) next107=>match s with | (s101,s105)=>AD (decide (s105<(D.Val.length:Int))) (AN D.Val s105 fun G=>PF J G fun h=>EA 8 s101 ([h]) fun _=>next107 ((s101++([h])),A7 (s105+1))) (Q ({ D with Val:=s101 }:Rows))) (([]:List Int),0)
def K8 (a0:GS) (Q:(Rows×Rows×Rows)→Prop):Prop:=
 LZ a0.Size.1 fun G=>LZ a0.Size.2.1 fun D=>LZ a0.Size.2.2 fun h=>F3 ({ Ring:=a0.Ring,Size:=(G,D),L:=a0.A,X:=([]:List CO),Y:=([]:List CO),F:=([]:List Int),Others:=false }:EL) fun U=>F3 ({ Ring:=a0.Ring,Size:=(D,h),L:=a0.B,X:=([]:List CO),Y:=([]:List CO),F:=([]:List Int),Others:=false }:EL) fun J=>F3 ({ Ring:=a0.Ring,Size:=(G,h),L:=a0.M,X:=([]:List CO),Y:=([]:List CO),F:=([]:List Int),Others:=false }:EL) fun O=>Q (U,J,O)
def LF (a0:HV) (Q:BF→Prop):Prop:=
 K8 a0.T fun h=>OD a0.T.Ring fun D=>Q ({ Ring:=D,A:=h.1,B:=h.2.1,Mask:=h.2.2,R:=A7 (((A7 (a0.R)).tmod 4)+1),C:=A7 (((A7 (a0.C)).tmod 4)+1),Room:=A7 (((A7 (a0.Room)).tmod 4)+1) }:BF)
def GF (a0:BF) (Q:Int→Prop):Prop:=
 MD a0.Ring fun G=>AD (!G) (Q 8) (FS a0.A fun D=>AD (!D) (Q 7) (FS a0.B fun J=>AD (!J) (Q 7) (FS a0.Mask fun h=>AD (!h) (Q 7) (AD (a0.A.Cols != a0.B.Rows) (Q 4) (AD (a0.Mask.Rows != a0.A.Rows) (Q 4) (AD (a0.Mask.Cols != a0.B.Cols) (Q 4) (AD (decide (a0.R<1)) (Q 3) (AD (decide (8<a0.R)) (Q 3) (AD (decide (a0.C<1)) (Q 3) (AD (decide (8<a0.C)) (Q 3) (AD (decide (a0.Room<1)) (Q 3) (AD (decide (64<a0.Room)) (Q 3) (Q 0)))))))))))))
def NH (a0:Int) (a1:Int) (Q:Bool→Prop):Prop:=
 AD (decide (0≤a0)) (AD (decide (a0≤4096)) (AD (decide (1≤a1)) (Q (decide (a1≤8))) (Q false)) (Q false)) (Q false)
def EN (a0:Int) (a1:Int) (a2:Int) (Q:Int→Prop):Prop:=
 NH a0 a1 fun h=>AD (!h) (Q 0) (AD (decide (a2<0)) (Q 0) (AD (decide (a1≤a2)) (Q a0) (nzP a1 <| Q (A7 ((A7 (a2*a0)).tdiv a1)))))
def VC (a0:Int) (a1:Int) (a2:Int) (Q:Int→Prop):Prop:=
 NH a0 a1 fun J=>AD (!J) (Q (-1)) (B2 (fun (h:Int) next39=>AD (decide (h<a1)) (EN a0 a1 h fun D=>AD (decide (D≤a2)) (EN a0 a1 (A7 (h+1)) fun G=>AD (decide (a2<G)) (Q h) (next39 (A7 (h+1)))) (next39 (A7 (h+1)))) (Q (-1))) 0)
def JQ (a0:Int) (a1:Int) (a2:Int) (Q:(List AV)→Prop):Prop:=
 NH a0 a1 fun Y=>AD (!Y) (Q ([]:List AV)) (NH a0 a2 fun W=>AD (!W) (Q ([]:List AV)) (B2 (fun (s:(List AV)×Int) next134=>match s with | (s128,s132)=>AD (decide (s132<a0)) (VC a0 a1 s132 fun D=>VC a0 a2 s132 fun G=>DR (fun (h:Bool→Prop)=>AD (decide (0<(s128.length:Int))) (AN s128 (A7 ((s128.length:Int) - 1)) fun J=>AD (J.Row==D) (AN s128 (A7 ((s128.length:Int) - 1)) fun V=>h (V.Col==G)) (h false)) (h false)) fun U=>AD U (AN s128 (A7 ((s128.length:Int) - 1)) fun O=>next134 ((s128.set ((A7 ((s128.length:Int) - 1)).toNat) ({ O with To:=A7 (s132+1) }:AV)),A7 (s132+1))) (EA 32 s128 ([({ From:=s132,To:=A7 (s132+1),Row:=D,Col:=G }:AV)]) fun _=>next134 ((s128++([({ From:=s132,To:=A7 (s132+1),Row:=D,Col:=G }:AV)])),A7 (s132+1)))) (Q s128)) (([]:List AV),0)))
def RT (a0:Int) (a1:Int) (Q:Bool→Prop):Prop:=
 AD (decide (1≤a0)) (AD (decide (a0≤8)) (AD (decide (1≤a1)) (Q (decide (a1≤8))) (Q false)) (Q false)) (Q false)
def GW (a0:Rows) (Q:(List A1)→Prop):Prop:=
 I4 a0 fun h=>B2 (fun (s:(List A1)×Int) next408=>match s with | (s402,s406)=>AD (decide (s406<h.Rows)) (AN h.Start s406 fun O=>B2 (fun (s:(List A1)×Int) next542=>match s with | (s537,s541)=>AN h.Start (A7 (s406+1)) fun J=>AD (decide (s541<J)) (AN h.Col s541 fun D=>AN h.Val s541 fun G=>EA 24 s537 ([({ Row:=s406,Col:=D,Val:=G }:A1)]) fun _=>next542 ((s537++([({ Row:=s406,Col:=D,Val:=G }:A1)])),A7 (s541+1))) (next408 (s537,A7 (s406+1)))) (s402,O)) (Q s402)) (([]:List A1),0)
def M0 (a0:Rows) (a1:Int×Int) (a2:Int×Int) (Q:Rows→Prop):Prop:=
 I4 a0 fun h=>GW h fun J=>B2 (fun (s:(List A1)×Int) next903=>match s with | (s897,s901)=>AD (decide (s901<(J.length:Int))) (DR (fun (O:Bool→Prop)=>AN J s901 fun x990=>AD (decide ((if 0 > a1.1 then 0 else a1.1)≤x990.Row)) (AN J s901 fun x1000=>AD (decide (x1000.Row<(if h.Rows<a1.2 then h.Rows else a1.2))) (AN J s901 fun x1010=>AD (decide ((if 0 > a2.1 then 0 else a2.1)≤x1010.Col)) (AN J s901 fun x1020=>O (decide (x1020.Col<(if h.Cols<a2.2 then h.Cols else a2.2)))) (O false)) (O false)) (O false)) fun s987=>AD s987 (AN J s901 fun V=>AN J s901 fun U=>AN J s901 fun Z=>EA 24 s897 ([({ Row:=A7 (V.Row - (if 0 > a1.1 then 0 else a1.1)),Col:=A7 (U.Col - (if 0 > a2.1 then 0 else a2.1)),Val:=Z.Val }:A1)]) fun _=>next903 ((s897++([({ Row:=A7 (V.Row - (if 0 > a1.1 then 0 else a1.1)),Col:=A7 (U.Col - (if 0 > a2.1 then 0 else a2.1)),Val:=Z.Val }:A1)])),A7 (s901+1))) (next903 (s897,A7 (s901+1)))) (DR (fun (Y:Int→Prop)=>AD (decide ((if 0 > a1.1 then 0 else a1.1)<(if h.Rows<a1.2 then h.Rows else a1.2))) (Y (A7 ((if h.Rows<a1.2 then h.Rows else a1.2) - (if 0 > a1.1 then 0 else a1.1)))) (Y 0)) fun G=>DR (fun (W:Int→Prop)=>AD (decide ((if 0 > a2.1 then 0 else a2.1)<(if h.Cols<a2.2 then h.Cols else a2.2))) (W (A7 ((if h.Cols<a2.2 then h.Cols else a2.2) - (if 0 > a2.1 then 0 else a2.1)))) (W 0)) fun D=>AD (G==0) (HR G D ([]:List A1) fun r1087=>Q r1087) (AD (D==0) (HR G D ([]:List A1) fun r1101=>Q r1101) (HR G D s897 fun r1121=>Q r1121)))) (([]:List A1),0)
def PT (a0:Rows) (a1:Int) (a2:Int) (a3:Int) (a4:Int) (Q:Rows→Prop):Prop:=
 FS a0 fun U=>AD (!U) (DB 0 0 fun D=>Q D) (RT a1 a2 fun r177=>AD (!r177) (DB 0 0 fun W=>Q W) (AD (decide (a3<0)) (DB 0 0 fun G=>Q G) (AD (decide (a1≤a3)) (DB 0 0 fun J=>Q J) (AD (decide (a4<0)) (DB 0 0 fun O=>Q O) (AD (decide (a2≤a4)) (DB 0 0 fun h=>Q h) (EN a0.Rows a1 a3 fun r352=>EN a0.Rows a1 (A7 (a3+1)) fun Y=>EN a0.Cols a2 a4 fun Z=>EN a0.Cols a2 (A7 (a4+1)) fun r366=>M0 a0 (r352,Y) (Z,r366) fun V=>Q V))))))
def I5 (a0:Int) (a1:Int) (a2:Int) (Q:(Int×Int)→Prop):Prop:=
 EN a0 a1 a2 fun D=>EN a0 a1 (A7 (a2+1)) fun h=>Q (D,h)
def JR (a0:List Int) (a1:List Int) (Q:Bool→Prop):Prop:=
 AD ((a0.length:Int) != (a1.length:Int)) (Q false) (B2 (fun (h:Int) next55=>AD (decide (h<(a0.length:Int))) (AN a0 h fun G=>AN a1 h fun D=>AD (G != D) (Q false) (next55 (A7 (h+1)))) (Q true)) 0)
def MH (a0:List Int) (a1:List Int) (Q:Bool→Prop):Prop:=
 AD ((a0.length:Int) != (a1.length:Int)) (Q false) (B2 (fun (h:Int) next55=>AD (decide (h<(a0.length:Int))) (AN a0 h fun G=>AN a1 h fun D=>AD (G != D) (Q false) (next55 (A7 (h+1)))) (Q true)) 0)
def TO (a0:Rows) (a1:Rows) (Q:Bool→Prop):Prop:=
 AD (a0.Rows==a1.Rows) (AD (a0.Cols==a1.Cols) (JR a0.Start a1.Start fun G=>AD G (JR a0.Col a1.Col fun D=>AD D (MH a0.Val a1.Val fun h=>Q h) (Q false)) (Q false)) (Q false)) (Q false)
def JS (a0:AB) (a1:AB) (Q:Bool→Prop):Prop:=
 AD (decide (a0.Row<a1.Row)) (Q true) (AD (a0.Row==a1.Row) (Q (decide (a0.Col<a1.Col))) (Q false))
def JT (a0:List AB) (Q:Bool→Prop):Prop:=
 B2 (fun (h:Int) next58=>AD (decide (h<(a0.length:Int))) (AN a0 (A7 (h - 1)) fun G=>AN a0 h fun J=>JS G J fun D=>AD (!D) (Q false) (next58 (A7 (h+1)))) (Q true)) 1
def HS (a0:Int) (a1:List (List AB)) (Q:((List AB)×Int)→Prop):Prop:=
 MD a0 fun r12=>AD (!r12) (Q (([]:List AB),8)) (B2 (fun (J:Int) next123=>AD (decide (J<(a1.length:Int))) (AN a1 J fun x129=>JT x129 fun r140=>AD (!r140) (Q (([]:List AB),6)) (next123 (A7 (J+1)))) (B2 (fun (s:(List AB)×Int) next2327=>match s with | (s2321,s2325)=>AD (decide (s2325<(a1.length:Int))) (B2 (fun (s:(List AB)×Int) next3143=>match s with | (s3138,s3142)=>AN a1 s2325 fun V=>AD (decide (s3142<(V.length:Int))) (AN a1 s2325 fun x3198=>AN x3198 s3142 fun G=>DR (fun (U:Int→Prop)=>B2 (fun (D:Int) next3342=>AD (decide (D<(s3138.length:Int))) (AN s3138 D fun x3351=>JS x3351 G fun r3355=>AD r3355 (next3342 (A7 (D+1))) (U D)) (U D)) 0) fun h=>DR (fun (O:Bool→Prop)=>AD (decide (h<(s3138.length:Int))) (AN s3138 h fun x3447=>JS G x3447 fun r3451=>O (!r3451)) (O false)) fun W=>AD W (AN s3138 h fun x3464=>PP a0 x3464.Val G.Val fun Z=>AN s3138 h fun x3473=>next3143 ((s3138.set h.toNat ({ x3473 with Val:=Z }:AB)),A7 (s3142+1))) (EA 32 s3138 ([({ Row:=0,Col:=0,Val:=DS }:AB)]) fun _=>B2 (fun (s:(List AB)×Int) next3527=>match s with | (s3522,s3526)=>AD (decide (h<s3526)) (AN s3522 (A7 (s3526 - 1)) fun Y=>AN s3522 s3526 fun x3543=>next3527 ((s3522.set s3526.toNat Y),A7 (s3526 - 1))) (AN s3522 h fun x3546=>next3143 ((s3522.set h.toNat G),A7 (s3142+1)))) ((s3138++([({ Row:=0,Col:=0,Val:=DS }:AB)])),A7 (((s3138++([({ Row:=0,Col:=0,Val:=DS }:AB)])).length:Int) - 1)))) (next2327 (s3138,A7 (s2325+1)))) (s2321,0)) (Q (s2321,0))) (([]:List AB),0))) 0)
def VD (a0:Int) (Q:Bool→Prop):Prop:=
 AD (a0==1) (Q true) (AD (a0==3) (Q true) (Q (a0==4)))
def TP (a0:Int) (Q:Int→Prop):Prop:=
 VD a0 fun h=>AD h (Q 4611686018427387904) (Q 0)
def TQ (a0:Int) (a1:Int) (a2:Int) (G:List AB) (Q:(Rows×Int)→Prop):Prop:=
 MD a0 fun r15=>AD (!r15) (Q (B1,8)) (AD (decide (a1<0)) (Q (B1,3)) (AD (decide (4096<a1)) (Q (B1,3)) (AD (decide (a2<0)) (Q (B1,3)) (AD (decide (4096<a2)) (Q (B1,3)) (B2 (fun (h:Int) next249=>AD (decide (h<(G.length:Int))) (AN G h fun Z=>AD (decide (Z.Row<0)) (Q (B1,3)) (AN G h fun V=>AD (decide (a1≤V.Row)) (Q (B1,3)) (AN G h fun x275=>AD (decide (x275.Col<0)) (Q (B1,3)) (AN G h fun x285=>AD (decide (a2≤x285.Col)) (Q (B1,3)) (next249 (A7 (h+1))))))) (JT G fun Y=>AD (!Y) (Q (B1,6)) (AD (decide (65536<(G.length:Int))) (Q (B1,5)) (B2 (fun (s:(List A1)×Int) next672=>match s with | (s666,s670)=>AD (decide (s670<(G.length:Int))) (AN G s670 fun W=>ME W.Val fun D=>AD (!D.2) (Q (B1,12)) (TP a0 fun r710=>AD (D.1 != r710) (AN G s670 fun J=>AN G s670 fun U=>EA 24 s666 ([({ Row:=J.Row,Col:=U.Col,Val:=D.1 }:A1)]) fun _=>next672 ((s666++([({ Row:=J.Row,Col:=U.Col,Val:=D.1 }:A1)])),A7 (s670+1))) (next672 (s666,A7 (s670+1))))) (HB a0 a1 a2 s666 fun O=>Q (O.1,O.2))) (([]:List A1),0))))) 0)))))
def OE (a0:EI) (Q:Bool→Prop):Prop:=
 AD (decide (1≤a0.Kind)) (AD (decide (a0.Kind≤5)) (AD (decide (0≤a0.A)) (AD (decide (a0.A<64)) (AD (decide (0≤a0.B)) (AD (decide (a0.B<64)) (AD (decide (0≤a0.K)) (Q (decide (a0.K<64))) (Q false)) (Q false)) (Q false)) (Q false)) (Q false)) (Q false)) (Q false)
def T2 (a0:AM) (Q:AM→Prop):Prop:=
 EA 16 ([]:List CO) a0.Vec.Items fun _=>EA 24 ([]:List P9) a0.Sums fun _=>EA 24 ([]:List A1) a0.Triples fun _=>Q ({ a0 with Vec:=({ N:=a0.Vec.N,Items:=(([]:List CO)++a0.Vec.Items) }:Vec),Sums:=(([]:List P9)++a0.Sums),Triples:=(([]:List A1)++a0.Triples) }:AM)
def RU (a0:AL) (Q:AL→Prop):Prop:=
 K6 ({ Hi:=Z4 .i64 (-1) a0.Hi,Lo:=Z4 .u64 18446744073709551615 a0.Lo }:AL) ({ Hi:=0,Lo:=1 }:AL) fun h=>Q h
def WX (a0:Int) (a1:Int) (Q:AL→Prop):Prop:=
 GC a0 fun O=>DR (fun (J:Int→Prop)=>AD (decide (a1<0)) (J (IntKind.wrap .u64 (0 - (IntKind.wrap .u64 (a1))))) (J (IntKind.wrap .u64 (a1)))) fun V=>B2 (fun (s:Int×Int×Int×Int×Int) next147=>match s with | (s142,s143,s144,s145,s146)=>AD (decide (0<s144)) (AD ((s144.tmod 2)==1) (K6 ({ Hi:=s145,Lo:=s146 }:AL) ({ Hi:=s142,Lo:=s143 }:AL) fun D=>K6 ({ Hi:=s142,Lo:=s143 }:AL) ({ Hi:=s142,Lo:=s143 }:AL) fun h=>next147 (h.Hi,h.Lo,IntKind.wrap .u64 (s144.tdiv 2),D.Hi,D.Lo)) (K6 ({ Hi:=s142,Lo:=s143 }:AL) ({ Hi:=s142,Lo:=s143 }:AL) fun G=>next147 (G.Hi,G.Lo,IntKind.wrap .u64 (s144.tdiv 2),s145,s146))) (AD (decide (a1<0)) (RU ({ Hi:=s145,Lo:=s146 }:AL) fun U=>Q U) (Q ({ Hi:=s145,Lo:=s146 }:AL)))) (O.Hi,O.Lo,V,0,0)
def WY (a0:Int) (a1:Int) (a2:Int) (Q:AL→Prop):Prop:=
 DR (fun (k8:Bool→Prop)=>AD (decide (4611686018427387904≤a1)) (k8 true) (k8 (decide (4611686018427387904≤a2)))) fun U=>AD (a0==1) (GC a1 fun D=>GC a2 fun r31=>K6 D r31 fun h=>AD U (GC 4611686018427387904 fun r42=>Q r42) (GC 4611686018427387904 fun O=>GU h O fun Z=>AD (decide (0<Z)) (GC 4611686018427387904 fun V=>Q V) (Q h))) (AD (a0==3) (AD U (GC 4611686018427387904 fun r61=>Q r61) (GC a1 fun W=>Q W)) (AD (a0==4) (AD U (GC 4611686018427387904 fun Y=>Q Y) (GC a2 fun r75=>Q r75)) (AD (a0==2) (AD (a1 != 0) (JL (a2 != 0) fun r81=>Q r81) (JL false fun G=>Q G)) (AD (a0==5) (WX a1 a2 fun J=>Q J) (Q DS)))))
def OG (a0:Int) (a1:Rows) (a2:Rows) (a3:Rows) (Q:((List AB)×Int)→Prop):Prop:=
 I4 a1 fun G=>I4 a2 fun Z=>I4 a3 fun W=>MD a0 fun r85=>AD (!r85) (Q (([]:List AB),8)) (AD (G.Cols != Z.Rows) (Q (([]:List AB),4)) (AD (W.Rows != G.Rows) (Q (([]:List AB),4)) (AD (W.Cols != Z.Cols) (Q (([]:List AB),4)) (GW W fun h=>B2 (fun (s:(List AB)×Int) next1863=>match s with | (s1857,s1861)=>AD (decide (s1861<(h.length:Int))) (AN h s1861 fun x2317=>AN G.Start x2317.Row fun x2326=>B2 (fun (s:Int×Int×Bool×Int) next2591=>match s with | (s2587,s2588,s2589,s2590)=>AN h s1861 fun Y=>AN G.Start (A7 (Y.Row+1)) fun x2627=>AD (decide (s2590<x2627)) (AN G.Col s2590 fun x2661=>AN h s1861 fun x2670=>T1 Z x2661 x2670.Col fun J=>AD (!J.2) (next2591 (s2587,s2588,s2589,A7 (s2590+1))) (AN G.Val s2590 fun x2700=>WY a0 x2700 J.1 fun D=>AD s2589 (PP a0 ({ Hi:=s2587,Lo:=s2588 }:AL) D fun O=>next2591 (O.Hi,O.Lo,true,A7 (s2590+1))) (next2591 (D.Hi,D.Lo,true,A7 (s2590+1))))) (AD s2589 (AN h s1861 fun V=>AN h s1861 fun U=>EA 32 s1857 ([({ Row:=V.Row,Col:=U.Col,Val:=({ Hi:=s2587,Lo:=s2588 }:AL) }:AB)]) fun _=>next1863 ((s1857++([({ Row:=V.Row,Col:=U.Col,Val:=({ Hi:=s2587,Lo:=s2588 }:AL) }:AB)])),A7 (s1861+1))) (next1863 (s1857,A7 (s1861+1))))) (0,0,false,x2326)) (Q (s1857,0))) (([]:List AB),0)))))
def GG (a0:BF) (Q:Int→Prop):Prop:=
 EV a0 fun h=>AD (h != 0) (Q 0) (Q (A7 ((A7 ((A7 (a0.R+a0.C))*(A7 (a0.R+a0.C))))+2)))
def TR (a0:Int) (a1:Int) (Q:Rows→Prop):Prop:=
 B2 (fun (s:(List A1)×Int) next302=>match s with | (s296,s300)=>AD (decide (s300<a0)) (B2 (fun (s:(List A1)×Int) next343=>match s with | (s338,s342)=>AD (decide (s342<a1)) (EA 24 s338 ([({ Row:=s300,Col:=s342,Val:=1 }:A1)]) fun _=>next343 ((s338++([({ Row:=s300,Col:=s342,Val:=1 }:A1)])),A7 (s342+1))) (next302 (s338,A7 (s300+1)))) (s296,0)) (HB 1 a0 a1 s296 fun h=>Q h.1)) (([]:List A1),0)
def FN (o0:AR) (o1:AO) (o2:A4) (Q:AO→Prop):Prop:=
 B2 (fun (s:(List AM)×Int) next908=>match s with | (s903,s907)=>AD (decide (s907<(o0.S.length:Int))) (AN o0.S s907 fun h=>DR (fun (U:(List AM)→Prop)=>AD (h.Col==o1.J) (I5 o0.P.A.Rows o0.P.R o1.I fun Y=>M0 o0.P.A Y (h.From,h.To) fun V=>GW V fun G=>B2 (fun (s:(List AM)×Int) next1227=>match s with | (s1222,s1226)=>AD (decide (s1226<o0.P.C)) (EA 136 s1222 ([({ Kind:=6,From:=A7 ((A7 (o1.I*o0.P.C))+o1.J),To:=A7 ((A7 (o1.I*o0.P.C))+s1226),Seq:=0,Round:=s907,Vec:=G0,Sums:=([]:List P9),Triples:=G,N:=0,Over:=false }:AM)]) fun _=>next1227 ((s1222++([({ Kind:=6,From:=A7 ((A7 (o1.I*o0.P.C))+o1.J),To:=A7 ((A7 (o1.I*o0.P.C))+s1226),Seq:=0,Round:=s907,Vec:=G0,Sums:=([]:List P9),Triples:=G,N:=0,Over:=false }:AM)])),A7 (s1226+1))) (U s1222)) (s903,0)) (U s903)) fun D=>AD (h.Row==o1.I) (I5 o0.P.B.Cols o0.P.C o1.J fun W=>M0 o0.P.B (h.From,h.To) W fun Z=>GW Z fun O=>B2 (fun (s:(List AM)×Int) next1334=>match s with | (s1329,s1333)=>AD (decide (s1333<o0.P.R)) (EA 136 s1329 ([({ Kind:=7,From:=A7 ((A7 (o1.I*o0.P.C))+o1.J),To:=A7 ((A7 (s1333*o0.P.C))+o1.J),Seq:=0,Round:=s907,Vec:=G0,Sums:=([]:List P9),Triples:=O,N:=0,Over:=false }:AM)]) fun _=>next1334 ((s1329++([({ Kind:=7,From:=A7 ((A7 (o1.I*o0.P.C))+o1.J),To:=A7 ((A7 (s1333*o0.P.C))+o1.J),Seq:=0,Round:=s907,Vec:=G0,Sums:=([]:List P9),Triples:=O,N:=0,Over:=false }:AM)])),A7 (s1333+1))) (next908 (s1329,A7 (s907+1)))) (D,0)) (next908 (D,A7 (s907+1)))) (Q ({ o1 with Out:=s903 }:AO))) (o1.Out,0)
def SB (a0:Int) (h:Int→Prop) (D:(Int×B4)→Prop):Prop:=
 AD (decide (a0<1)) (h 3) (AD (decide (64<a0)) (h 3) (D (0,({ Many:=a0,Out:=0,In:=0,L:=([]:List AM) }:B4))))
def O0 (o0:A4) (o1:A9) (a0:BF) (Z:(Int×A4×A9)→Prop) (Q1:(Int×A4×A9×AR)→Prop):Prop:=
 GF a0 fun Y=>AD (Y != 0) (Z (Y,o0,o1)) (JQ a0.A.Cols a0.R a0.C fun h=>B2 (fun (s:(List (Option Nat))×(List (Option Nat))×Int×A4) next2769=>match s with | (s2757,s2761,s2765,s2766)=>AD (decide (s2765<a0.R)) (B2 (fun (s:(List (Option Nat))×Int×A4) next3133=>match s with | (s3127,s3131,s3132)=>AD (decide (s3131<a0.C)) (PT a0.Mask a0.R a0.C s2765 s3131 fun O=>mkP 1 (h.length:Int) false fun _=>mkP 1 (h.length:Int) false fun _=>mkP 24 (h.length:Int) ([]:List A1) fun _=>mkP 24 (h.length:Int) ([]:List A1) fun _=>FN ({ P:=a0,S:=h,W:=s3127,B:=s2761 }:AR) ({ I:=s2765,J:=s3131,Mask:=O,Out:=([]:List AM),Lefts:=(List.replicate (h.length:Int).toNat false),Rights:=(List.replicate (h.length:Int).toNat false),L:=(List.replicate (h.length:Int).toNat ([]:List A1)),R:=(List.replicate (h.length:Int).toNat ([]:List A1)),At:=0,Has:=([]:List AB) }:AO) s3132 fun V=>AaI s3132 fun D=>EA 8 s3127 ([(some D)]) fun _=>next3133 ((s3127++([(some D)])),A7 (s3131+1),((D,V) :: s3132))) (next2769 (s3127,s2761,A7 (s2765+1),s3132))) (s2757,0,s2766)) (B2 (fun (s:(List (Option Nat))×Int×A9) next3413=>match s with | (s3407,s3411,s3412)=>AD (decide (s3411<(A7 ((s2757.length:Int)*(s2757.length:Int))))) (SB a0.Room (fun _=>False) (fun U=>AaI s3412 fun G=>EA 8 s3407 ([(some G)]) fun _=>next3413 ((s3407++([(some G)])),A7 (s3411+1),((G,U.2) :: s3412)))) (Q1 (0,s2766,s3412,({ P:=a0,S:=h,W:=s2757,B:=s3407 }:AR)))) (s2761,0,o1))) (([]:List (Option Nat)),([]:List (Option Nat)),0,o0))
def OH (o0:A4) (o1:A9) (a0:EI) (Q:Bool→Prop):Prop:=
 Q false
def HD (o0:A4) (Q:Bool→Prop):Prop:=
 Q false
def KS (o0:A4) (o1:A9)  : Prop:=
 B2 (fun (_:Unit) next6=>False) ()
def KT (o0:A4) (Q:(Rows×Int)→Prop):Prop:=
 Q (B1,10)
def BX (o0:AR) (o1:A4) (o2:A9) (a0:Int) (a1:Int) (h:Unit→Prop) (G:(Option Nat)→Prop):Prop:=
 AD (decide (a0<0)) (h ()) (AD (decide ((o0.W.length:Int)≤a0)) (h ()) (AD (decide (a1<0)) (h ()) (AD (decide ((o0.W.length:Int)≤a1)) (h ()) (AN o0.B (A7 ((A7 (a0*(o0.W.length:Int)))+a1)) fun D=>G D))))
def I6 (o0:B4) (a0:AM) (Q:(Int×B4)→Prop):Prop:=
 AD (decide (o0.Many≤(o0.L.length:Int))) (Q (9,o0)) (T2 a0 fun h=>EA 136 o0.L ([({ h with Seq:=o0.Out }:AM)]) fun _=>Q (0,({ o0 with Out:=A7 (o0.Out+1),L:=(o0.L++([({ h with Seq:=o0.Out }:AM)])) }:B4)))
def QH (a0:AM) (Q:Int→Prop):Prop:=
 Q 10
def MI (o0:A9) (a0:Option Nat) (a1:AM) (Q:(Int×A9)→Prop):Prop:=
 YE a0 (QH a1 fun h=>Q (h,o0)) fun b=>ZH o0 b fun x=>I6 x a1 fun h=>Q (h.1,(b,h.2) :: BO b o0)
def DI (o0:AR) (o1:A4) (o2:A9) (a0:Int) (Q:(Bool×A4×A9)→Prop):Prop:=
 AD (decide (a0<0)) (Q (false,o1,o2)) (AD (decide ((o0.W.length:Int)≤a0)) (Q (false,o1,o2)) (AN o0.W a0 fun Z=>CJ o1 Z fun b53 Y=>AD ((Y.Out.length:Int)==0) (Q (false,o1,o2)) (AN o0.W a0 fun x87=>CJ o1 x87 fun D J=>AN J.Out 0 fun V=>AN J.Out 0 fun U=>BX o0 (BO D o1) o2 a0 V.To (fun _=>False) (fun O=>MI o2 O U fun G=>AD (G.1 != 0) (Q (false,o1,G.2)) (CJ o1 (some D) fun _ h=>uM h.Out 1 (h.Out.length:Int) fun _=>Q (true,((D,({ h with Out:=((h.Out.take (h.Out.length:Int).toNat).drop (Int.toNat 1)) }:AO)) :: (BO D o1)),G.2))))))
def F4 (o0:B4) (a0:Int) (Q:Int→Prop):Prop:=
 AD (decide (a0<0)) (Q 3) (AD (decide ((o0.L.length:Int)≤a0)) (Q 3) (Q 0))
def EX (o0:B4) (a0:Int) (Q:(AM×B4)→Prop):Prop:=
 AN o0.L a0 fun h=>uM o0.L 0 a0 fun _=>EA 136 ([]:List AM) ((o0.L.take a0.toNat).drop (Int.toNat 0)) fun _=>uM o0.L (A7 (a0+1)) (o0.L.length:Int) fun _=>EA 136 (([]:List AM)++((o0.L.take a0.toNat).drop (Int.toNat 0))) ((o0.L.take (o0.L.length:Int).toNat).drop (A7 (a0+1)).toNat) fun _=>Q (h,({ o0 with L:=((([]:List AM)++((o0.L.take a0.toNat).drop (Int.toNat 0)))++((o0.L.take (o0.L.length:Int).toNat).drop (A7 (a0+1)).toNat)) }:B4))
def I7 (o0:B4) (a0:Int) (Q:(AM×Bool×Int×B4)→Prop):Prop:=
 F4 o0 a0 fun D=>AD (D != 0) (Q (({ Kind:=0,From:=0,To:=0,Seq:=0,Round:=0,Vec:=G0,Sums:=([]:List P9),Triples:=([]:List A1),N:=0,Over:=false }:AM),false,D,o0)) (AN o0.L a0 fun G=>AD (decide (o0.In<G.Seq)) (Q (({ Kind:=0,From:=0,To:=0,Seq:=0,Round:=0,Vec:=G0,Sums:=([]:List P9),Triples:=([]:List A1),N:=0,Over:=false }:AM),false,0,o0)) (EX o0 a0 fun h=>AD (decide (h.1.Seq<h.2.In)) (Q (({ Kind:=0,From:=0,To:=0,Seq:=0,Round:=0,Vec:=G0,Sums:=([]:List P9),Triples:=([]:List A1),N:=0,Over:=false }:AM),false,0,h.2)) (Q (h.1,true,0,({ Many:=h.2.Many,Out:=h.2.Out,In:=A7 (h.2.In+1),L:=h.2.L }:B4)))))
def F5 (a0:Int) (Q:Int→Prop):Prop:=
 Q 10
def QI (a0:Int) (Q:(AM×Bool×Int)→Prop):Prop:=
 F5 a0 fun h=>AD (h != 0) (Q (({ Kind:=0,From:=0,To:=0,Seq:=0,Round:=0,Vec:=G0,Sums:=([]:List P9),Triples:=([]:List A1),N:=0,Over:=false }:AM),false,h)) (False)
def MJ (o0:A9) (a0:Option Nat) (a1:Int) (Q:(AM×Bool×Int×A9)→Prop):Prop:=
 YE a0 (QI a1 fun h=>Q (h.1,h.2.1,h.2.2,o0)) fun b=>ZH o0 b fun x=>I7 x a1 fun h=>Q (h.1,h.2.1,h.2.2.1,(b,h.2.2.2) :: BO b o0)
def DT (o0:AR) (o1:A4) (a0:Option Nat) (Q:A4→Prop):Prop:=
 CJ o1 a0 fun h x52=>AN o0.S x52.At fun V=>AN o0.S x52.At fun x88=>CJ o1 (some h) fun _ G=>AN G.L G.At fun x178=>HB o0.P.Ring G.Mask.Rows (A7 (V.To - x88.From)) x178 fun W=>CJ o1 (some h) fun _ D=>AN D.R D.At fun x283=>HB o0.P.Ring (A7 (V.To - x88.From)) D.Mask.Cols x283 fun Z=>CJ o1 (some h) fun _ x341=>OG o0.P.Ring W.1 Z.1 x341.Mask fun Y=>CJ o1 (some h) fun _ x415=>HS o0.P.Ring ([x415.Has,Y.1]:List (List AB)) fun U=>CJ o1 (some h) fun _ J=>CJ ((h,({ J with Has:=U.1 }:AO)) :: (BO h o1)) (some h) fun _ O=>Q ((h,({ O with At:=A7 (O.At+1) }:AO)) :: (BO h ((h,({ J with Has:=U.1 }:AO)) :: (BO h o1))))
def CV (o0:AR) (o1:A4) (o2:A9) (a0:Int) (a1:Int) (a2:Int) (Q:(Bool×A4×A9)→Prop):Prop:=
 BX o0 o1 o2 a0 a1 (fun r29=>Q (false,o1,o2)) (fun r30=>AD r30.isNone (Q (false,o1,o2)) (MJ o2 r30 a2 fun h=>AD (!h.2.1) (Q (false,o1,h.2.2.2)) (AN o0.W a1 fun x71=>DR (fun (k347:((Option Nat)×A4)→Prop)=>AD (h.1.Kind==6) (CJ o1 x71 fun D J=>AN J.Lefts h.1.Round fun x373=>CJ ((D,({ J with Lefts:=(J.Lefts.set h.1.Round.toNat true) }:AO)) :: (BO D o1)) (some D) fun _ V=>AN V.L h.1.Round fun x401=>k347 ((some D),((D,({ V with L:=(V.L.set h.1.Round.toNat h.1.Triples) }:AO)) :: (BO D ((D,({ J with Lefts:=(J.Lefts.set h.1.Round.toNat true) }:AO)) :: (BO D o1)))))) (CJ o1 x71 fun G O=>AN O.Rights h.1.Round fun x439=>CJ ((G,({ O with Rights:=(O.Rights.set h.1.Round.toNat true) }:AO)) :: (BO G o1)) (some G) fun _ Y=>AN Y.R h.1.Round fun x467=>k347 ((some G),((G,({ Y with R:=(Y.R.set h.1.Round.toNat h.1.Triples) }:AO)) :: (BO G ((G,({ O with Rights:=(O.Rights.set h.1.Round.toNat true) }:AO)) :: (BO G o1))))))) fun (s345,s346)=>B2 (fun (s:(Option Nat)×A4) next592=>match s with | (s590,s591)=>CJ s591 s590 fun Z U=>AD (decide (U.At<(o0.S.length:Int))) (AN U.Lefts U.At fun x626=>AD x626 (AN U.Rights U.At fun x632=>AD x632 (DT o0 s591 (some Z) fun r643=>next592 ((some Z),r643)) (Q (true,s591,h.2.2.2))) (Q (true,s591,h.2.2.2))) (Q (true,s591,h.2.2.2))) (s345,s346))))
def GH (a0:Int) (Q:Int→Prop):Prop:=
 F5 a0 fun h=>AD (h != 0) (Q h) (False)
def GI (o0:B4) (a0:Int) (Q:(Int×B4)→Prop):Prop:=
 F4 o0 a0 fun D=>AD (D != 0) (Q (D,o0)) (AD (decide (o0.Many≤(o0.L.length:Int))) (Q (9,o0)) (AN o0.L a0 fun G=>T2 G fun h=>EA 136 o0.L ([h]) fun _=>Q (0,({ o0 with L:=(o0.L++([h])) }:B4))))
def KM (o0:A9) (a0:Option Nat) (a1:Int) (Q:(Int×A9)→Prop):Prop:=
 YE a0 (GH a1 fun h=>Q (h,o0)) fun b=>ZH o0 b fun x=>GI x a1 fun h=>Q (h.1,(b,h.2) :: BO b o0)
def OI (a0:Int)  : Prop:=
 False
def I8 (a0:Int) (Q:Int→Prop):Prop:=
 F5 a0 fun h=>AD (h != 0) (Q h) (OI a0)
def I9 (o0:B4) (a0:Int) (Q:(Int×B4)→Prop):Prop:=
 F4 o0 a0 fun D=>AD (D != 0) (Q (D,o0)) (EX o0 a0 fun h=>EA 136 h.2.L ([h.1]) fun _=>Q (0,({ Many:=h.2.Many,Out:=h.2.Out,In:=h.2.In,L:=(h.2.L++([h.1])) }:B4)))
def MK (o0:A9) (a0:Option Nat) (a1:Int) (Q:(Int×A9)→Prop):Prop:=
 YE a0 (I8 a1 fun h=>Q (h,o0)) fun b=>ZH o0 b fun x=>I9 x a1 fun h=>Q (h.1,(b,h.2) :: BO b o0)
def ML (o0:B4) (Q:Int→Prop):Prop:=
 Q (o0.L.length:Int)
def RV  (Q:Int→Prop):Prop:=
 Q 0
def HE (o0:A9) (a0:Option Nat) (Q:Int→Prop):Prop:=
 YE a0 (RV  fun h=>Q h) fun b=>ZH o0 b fun x=>ML x  fun h=>Q h
def GJ (o0:B4) (Q:Int→Prop):Prop:=
 B2 (fun (s:Int×Int) next35=>match s with | (s33,s34)=>AD (decide (s34<(o0.L.length:Int))) (AD (decide (s33<0)) (next35 (s34,A7 (s34+1))) (AN o0.L s34 fun D=>AN o0.L s33 fun h=>AD (decide (D.Seq<h.Seq)) (next35 (s34,A7 (s34+1))) (next35 (s33,A7 (s34+1))))) (Q s33)) ((-1),0)
def OJ  (Q:Int→Prop):Prop:=
 B2 (fun (_:Unit) next1=>Q (-1)) ()
def H5 (o0:A9) (a0:Option Nat) (Q:Int→Prop):Prop:=
 YE a0 (OJ  fun h=>Q h) fun b=>ZH o0 b fun x=>GJ x  fun h=>Q h
def DU (o0:AR) (o1:A4) (o2:A9) (Q:(Bool×A4×A9)→Prop):Prop:=
 B2 (fun (s:Bool×Int×A4×A9) next103=>match s with | (s99,s100,s101,s102)=>AD (decide (s100<(o0.W.length:Int))) (DI o0 s101 s102 s100 fun h=>AD h.1 (next103 (true,A7 (s100+1),h.2.1,h.2.2)) (next103 (s99,A7 (s100+1),h.2.1,h.2.2))) (B2 (fun (s:Bool×Int×A4×A9) next589=>match s with | (s585,s586,s587,s588)=>AD (decide (s586<(o0.W.length:Int))) (B2 (fun (s:Bool×Int×A4×A9) next761=>match s with | (s757,s758,s759,s760)=>AD (decide (s758<(o0.W.length:Int))) (BX o0 s759 s760 s586 s758 (fun _=>False) (fun G=>HE s760 G fun J=>H5 s760 G fun U=>CV o0 s759 s760 s586 s758 U fun D=>AD s757 (next761 (true,A7 (s758+1),D.2.1,D.2.2)) (HE D.2.2 G fun O=>next761 (decide (O<J),A7 (s758+1),D.2.1,D.2.2)))) (next589 (s757,A7 (s586+1),s759,s760))) (s585,0,s587,s588)) (Q (s585,s587,s588))) (s99,0,s101,s102))) (false,0,o1,o2)
def GK (o0:AR) (o1:A4) (o2:A9) (a0:EI) (Q:(Bool×A4×A9)→Prop):Prop:=
 OE a0 fun W=>AD (!W) (Q (false,o1,o2)) (AD (a0.Kind==1) (DI o0 o1 o2 a0.A fun G=>Q (G.1,G.2.1,G.2.2)) (AD (a0.Kind==2) (CV o0 o1 o2 a0.A a0.B a0.K fun D=>Q (D.1,D.2.1,D.2.2)) (AD (a0.Kind==3) (BX o0 o1 o2 a0.A a0.B (fun r48=>GH a0.K fun Y=>Q (Y==0,o1,o2)) (fun V=>KM o2 V a0.K fun J=>Q (J.1==0,o1,J.2))) (AD (a0.Kind==4) (BX o0 o1 o2 a0.A a0.B (fun r74=>I8 a0.K fun U=>Q (U==0,o1,o2)) (fun Z=>MK o2 Z a0.K fun O=>Q (O.1==0,o1,O.2))) (DU o0 o1 o2 fun h=>Q (h.1,h.2.1,h.2.2))))))
def CS (o0:AR) (o1:A4) (Q:Bool→Prop):Prop:=
 B2 (fun (h:Int) next86=>AD (decide (h<(o0.W.length:Int))) (AN o0.W h fun D=>CJ o1 D fun J G=>AD (decide (G.At<(o0.S.length:Int))) (Q false) (next86 (A7 (h+1)))) (Q true)) 0
def F6 (o0:AR) (o1:A4) (Q:(List AB)→Prop):Prop:=
 B2 (fun (s:(List (List AB))×Int) next3395=>match s with | (s3389,s3393)=>AD (decide (s3393<(o0.W.length:Int))) (AN o0.W s3393 fun U=>B2 (fun (s:(Option Nat)×(List AB)×Int) next3850=>match s with | (s3843,s3844,s3848)=>CJ o1 s3843 fun D x3879=>AD (decide (s3848<(x3879.Has.length:Int))) (CJ o1 (some D) fun _ Y=>AN Y.Has s3848 fun h=>CJ o1 (some D) fun _ Z=>EN o0.P.A.Rows o0.P.R Z.I fun O=>CJ o1 (some D) fun _ V=>EN o0.P.B.Cols o0.P.C V.J fun G=>EA 32 s3844 ([({ Row:=A7 (h.Row+O),Col:=A7 (h.Col+G),Val:=h.Val }:AB)]) fun _=>next3850 ((some D),(s3844++([({ Row:=A7 (h.Row+O),Col:=A7 (h.Col+G),Val:=h.Val }:AB)])),A7 (s3848+1))) (EA 24 s3389 ([s3844]) fun _=>next3395 ((s3389++([s3844])),A7 (s3393+1)))) (U,([]:List AB),0)) (HS o0.P.Ring s3389 fun r4072=>Q r4072.1)) (([]:List (List AB)),0)
def D2 (o0:AR) (o1:A4) (Q:(Rows×Int)→Prop):Prop:=
 F6 o0 o1 fun D=>TQ o0.P.Ring o0.P.A.Rows o0.P.B.Cols D fun h=>Q (h.1,h.2)
def IK (a0:BF) (a1:List EI) (a2:Int) (Q:(Rows×Bool×Int)→Prop):Prop:=
 GF a0 fun r31=>AD (r31 != 0) (Q (B1,false,r31)) (AD (decide (1048576<(a1.length:Int))) (Q (B1,false,5)) (B2 (fun (J:Int) next129=>AD (decide (J<(a1.length:Int))) (AN a1 J fun x135=>OE x135 fun r143=>AD (!r143) (Q (B1,false,8)) (next129 (A7 (J+1)))) (AD (decide (a2<0)) (Q (B1,false,3)) (AD (decide (1048576<a2)) (Q (B1,false,3)) (O0 ([]:A4) ([]:A9) a0 (fun h=>B2 (fun (G:Int) next313=>AD (decide (G<(a1.length:Int))) (AN a1 G fun x320=>OH h.2.1 h.2.2 x320 fun r334=>next313 (A7 (G+1))) (DR (fun (W:Unit→Prop)=>B2 (fun (_:Unit) next435=>AD (decide (0<a2)) (HD h.2.1 fun r447=>AD (!r447) (KS h.2.1 h.2.2) (W ())) (W ())) ()) fun _=>KT h.2.1 fun Z=>HD h.2.1 fun r482=>Q (Z.1,r482,Z.2))) 0) (fun D=>B2 (fun (s:Int×A4×A9) next621=>match s with | (s618,s619,s620)=>AD (decide (s618<(a1.length:Int))) (AN a1 s618 fun x628=>GK D.2.2.2 s619 s620 x628 fun O=>next621 (A7 (s618+1),O.2.1,O.2.2)) (DR (fun (V:(A4×A9)→Prop)=>B2 (fun (s:Int×A4×A9) next882=>match s with | (s879,s880,s881)=>AD (decide (s879<a2)) (CS D.2.2.2 s880 fun r894=>AD (!r894) (DU D.2.2.2 s880 s881 fun U=>next882 (A7 (s879+1),U.2.1,U.2.2)) (V (s880,s881))) (V (s880,s881))) (0,s619,s620)) fun (Y,s822)=>D2 D.2.2.2 Y fun r921=>CS D.2.2.2 Y fun r935=>Q (r921.1,r935,r921.2))) (0,D.2.1,D.2.2.1)))))) 0))
def VE (a0:BF) (Q:Int→Prop):Prop:=
 GF a0 fun h=>AD (h != 0) (Q 0) (Q (A7 ((A7 ((A7 (a0.R+a0.C))*(A7 (a0.R+a0.C))))+2)))
def IA (a0:Int) (a1:Int) (a2:Int) (Q:Int→Prop):Prop:=
 NE a0 fun h=>AD (!h) (Q (-1)) (AD (decide (a1<0)) (Q (-1)) (AD (decide (8≤a1)) (Q (-1)) (AD (decide (a2<0)) (Q (-1)) (AD (decide (a0≤a2)) (Q (-1)) (Q (A7 ((A7 (a1*a0))+a2)))))))
def CC (o1:BF) (o2:Int) (o3:A2) (o4:AF) (a0:Int) (a1:Int) (a2:Int) (G:List A1) (Q:AF→Prop):Prop:=
 IA o1.C o4.i o4.j fun h=>IA o1.C a1 a2 fun D=>EA 136 o4.out ([({ Kind:=a0,From:=h,To:=D,Seq:=0,Round:=o2,Vec:=G0,Sums:=([]:List P9),Triples:=G,N:=0,Over:=false }:AM)]) fun _=>Q ({ o4 with out:=(o4.out++([({ Kind:=a0,From:=h,To:=D,Seq:=0,Round:=o2,Vec:=G0,Sums:=([]:List P9),Triples:=G,N:=0,Over:=false }:AM)])) }:AF)
def FO (o0:A3) (o1:AF) (o2:A2) (a0:Int) (a1:AV) (Q:AF→Prop):Prop:=
 DR (fun (J:(Int×Int×Int×Int×(List Int)×(List Int)×(List Int)×(List AM)×(List (BE×(List A1)))×Int×(List AB))→Prop)=>AD (a1.Col==o1.j) (HX o0.p.A.Rows o0.p.R o1.i fun U=>LC o0.p.A U (a1.From,a1.To) fun W=>LW W fun O=>B2 (fun (s:Int×Int×Int×Int×(List Int)×(List Int)×(List Int)×(List AM)×(List (BE×(List A1)))×Int×(List AB)×Int) next746=>match s with | (s719,s720,s721,s722,s723,s727,s731,s735,s739,s740,s741,s745)=>AD (decide (s745<o0.p.C)) (CC o0.p a0 o2 ({ i:=s719,j:=s720,mask:=({ Rows:=s721,Cols:=s722,Start:=s723,Col:=s727,Val:=s731 }:Rows),out:=s735,parts:=s739,at_:=s740,has:=s741 }:AF) 6 s719 s745 O fun D=>next746 (D.i,D.j,D.mask.Rows,D.mask.Cols,D.mask.Start,D.mask.Col,D.mask.Val,D.out,D.parts,D.at_,D.has,A7 (s745+1))) (J (s719,s720,s721,s722,s723,s727,s731,s735,s739,s740,s741))) (o1.i,o1.j,o1.mask.Rows,o1.mask.Cols,o1.mask.Start,o1.mask.Col,o1.mask.Val,o1.out,o1.parts,o1.at_,o1.has,0)) (J (o1.i,o1.j,o1.mask.Rows,o1.mask.Cols,o1.mask.Start,o1.mask.Col,o1.mask.Val,o1.out,o1.parts,o1.at_,o1.has))) fun (G,s515,s516,s517,s518,s522,s526,s530,s534,s535,s536)=>AD (a1.Row==G) (HX o0.p.B.Cols o0.p.C s515 fun Z=>LC o0.p.B (a1.From,a1.To) Z fun Y=>LW Y fun V=>B2 (fun (s:Int×Int×Int×Int×(List Int)×(List Int)×(List Int)×(List AM)×(List (BE×(List A1)))×Int×(List AB)×Int) next984=>match s with | (s957,s958,s959,s960,s961,s965,s969,s973,s977,s978,s979,s983)=>AD (decide (s983<o0.p.R)) (CC o0.p a0 o2 ({ i:=s957,j:=s958,mask:=({ Rows:=s959,Cols:=s960,Start:=s961,Col:=s965,Val:=s969 }:Rows),out:=s973,parts:=s977,at_:=s978,has:=s979 }:AF) 7 s983 s958 V fun h=>next984 (h.i,h.j,h.mask.Rows,h.mask.Cols,h.mask.Start,h.mask.Col,h.mask.Val,h.out,h.parts,h.at_,h.has,A7 (s983+1))) (Q ({ i:=s957,j:=s958,mask:=({ Rows:=s959,Cols:=s960,Start:=s961,Col:=s965,Val:=s969 }:Rows),out:=s973,parts:=s977,at_:=s978,has:=s979 }:AF))) (G,s515,s516,s517,s518,s522,s526,s530,s534,s535,s536,0)) (Q ({ i:=G,j:=s515,mask:=({ Rows:=s516,Cols:=s517,Start:=s518,Col:=s522,Val:=s526 }:Rows),out:=s530,parts:=s534,at_:=s535,has:=s536 }:AF))
def EP (o0:A2) (o1:A8) (a0:BF) (Y:(Int×A2)→Prop) (Z:(Int×A2×A3)→Prop):Prop:=
 EV a0 fun W=>AD (W != 0) (Y (W,o0)) (KR a0.A.Cols a0.R a0.C fun U=>B2 (fun (s:(List (Option Nat))×Int×A2) next1142=>match s with | (s1135,s1139,s1140)=>AD (decide (s1139<(A7 (a0.R*a0.C)))) (SU a0.C s1139 fun O=>V7 a0.C s1139 fun J=>PR a0.Mask a0.R a0.C O J fun D=>B2 (fun (s:Int×Int×Int×Int×(List Int)×(List Int)×(List Int)×(List AM)×(List (BE×(List A1)))×Int×(List AB)×Int) next1604=>match s with | (s1575,s1576,s1577,s1578,s1579,s1583,s1587,s1591,s1595,s1596,s1597,s1601)=>AD (decide (s1601<(U.length:Int))) (AN U s1601 fun V=>FO ({ p:=a0,stages:=U,workers:=s1135,boxes:=([]:List ((Int×Int)×(Option Nat))) }:A3) ({ i:=s1575,j:=s1576,mask:=({ Rows:=s1577,Cols:=s1578,Start:=s1579,Col:=s1583,Val:=s1587 }:Rows),out:=s1591,parts:=s1595,at_:=s1596,has:=s1597 }:AF) s1140 s1601 V fun h=>next1604 (h.i,h.j,h.mask.Rows,h.mask.Cols,h.mask.Start,h.mask.Col,h.mask.Val,h.out,h.parts,h.at_,h.has,A7 (s1601+1))) (AaI s1140 fun G=>EA 8 s1135 ([(some G)]) fun _=>next1142 ((s1135++([(some G)])),A7 (s1139+1),((G,({ i:=s1575,j:=s1576,mask:=({ Rows:=s1577,Cols:=s1578,Start:=s1579,Col:=s1583,Val:=s1587 }:Rows),out:=s1591,parts:=s1595,at_:=s1596,has:=s1597 }:AF)) :: s1140)))) (O,J,D.Rows,D.Cols,D.Start,D.Col,D.Val,([]:List AM),([]:List (BE×(List A1))),0,([]:List AB),0)) (Z (0,s1140,({ p:=a0,stages:=U,workers:=s1135,boxes:=([]:List ((Int×Int)×(Option Nat))) }:A3)))) (([]:List (Option Nat)),0,o0))
def OY (a0:EI) (Q:Bool→Prop):Prop:=
 QA a0 fun h=>Q (!h)
def DE (a0:List EI) (Q:Int→Prop):Prop:=
 B2 (fun (h:Int) next46=>AD (decide (h<(a0.length:Int))) (AN a0 h fun G=>OY G fun D=>AD D (Q h) (next46 (A7 (h+1)))) (Q (-1))) 0
def CG (a0:List EI) (Q:Bool→Prop):Prop:=
 DE a0 fun h=>Q (decide (0≤h))
def D3 (o0:A3) (o1:A2) (a0:Int) (Q:Bool→Prop):Prop:=
 AD (decide (0≤a0)) (Q (decide (a0<(o0.workers.length:Int)))) (Q false)
def ED (o0:A3) (o1:A2) (a0:Int) (Q:Int→Prop):Prop:=
 D3 o0 o1 a0 fun G=>AD (!G) (Q 0) (AN o0.workers a0 fun h=>CJ o1 h fun J D=>Q (D.out.length:Int))
def PG (a0:Int) (h:Int→Prop) (D:(Int×AZ)→Prop):Prop:=
 AD (decide (a0<1)) (h 3) (AD (decide (64<a0)) (h 3) (D (0,({ room:=a0,row:=([]:List Int),by_:=([]:List (Int×AM)),often:=([]:List (Int×Int)),sent:=0,taken:=0 }:AZ))))
def BZ (o0:A3) (o1:A2) (o2:A8) (a0:Int) (a1:Int) (W:(A3×A8)→Prop) (Y:((Option Nat)×A3×A8)→Prop):Prop:=
 D3 o0 o1 a0 fun J=>AD (!J) (W (o0,o2)) (D3 o0 o1 a1 fun D=>AD (!D) (W (o0,o2)) (wK o0.boxes (a0,a1) none fun V=>AD V.isNone (PG o0.p.Room (fun _=>False) (fun U=>AaI o2 fun h=>wK (FC (a0,a1) (some h) o0.boxes) (a0,a1) none fun G=>Y (G,({ o0 with boxes:=(FC (a0,a1) (some h) o0.boxes) }:A3),((h,U.2) :: o2)))) (wK o0.boxes (a0,a1) none fun O=>Y (O,o0,o2))))
def GL (o0:AZ) (Q:Bool→Prop):Prop:=
 Q (decide (o0.room≤(o0.row.length:Int)))
def HF (o0:AZ) (a0:Int) (Q:AZ→Prop):Prop:=
 EA 8 o0.row ([a0]) fun _=>wK o0.often a0 0 fun h=>Q ({ o0 with row:=(o0.row++([a0])),often:=(FC a0 (A7 (h+1)) o0.often) }:AZ)
def J0 (o0:AZ) (a0:AM) (Q:(Int×AZ)→Prop):Prop:=
 GL o0 fun D=>AD D (Q (9,o0)) (V9 a0 fun G=>HF ({ o0 with by_:=(FC o0.sent ({ G with Seq:=o0.sent }:AM) o0.by_) }:AZ) o0.sent fun h=>Q (0,({ h with sent:=A7 (h.sent+1) }:AZ)))
def RW (a0:AM) (Q:Int→Prop):Prop:=
 Q 10
def NI (o0:A8) (a0:Option Nat) (a1:AM) (Q:(Int×A8)→Prop):Prop:=
 YE a0 (RW a1 fun h=>Q (h,o0)) fun b=>ZH o0 b fun x=>J0 x a1 fun h=>Q (h.1,(b,h.2) :: BO b o0)
def CW (o0:A3) (o1:A2) (o2:A8) (a0:Int) (Q:(Bool×A3×A2×A8)→Prop):Prop:=
 ED o0 o1 a0 fun Y=>AD (Y==0) (Q (false,o0,o1,o2)) (AN o0.workers a0 fun W=>CJ o1 W fun G O=>AN O.out 0 fun U=>AN O.out 0 fun V=>BZ o0 (BO G o1) o2 a0 U.To (fun _=>False) (fun D=>NI D.2.2 D.1 V fun J=>AD (J.1 != 0) (Q (false,D.2.1,o1,J.2)) (CJ o1 (some G) fun _ h=>uM h.out 1 (h.out.length:Int) fun _=>Q (true,D.2.1,((G,({ h with out:=((h.out.take (h.out.length:Int).toNat).drop (Int.toNat 1)) }:AF)) :: (BO G o1)),J.2))))
def FG (a0:Int) (Q:Int→Prop):Prop:=
 Q 10
def J6 (a0:Int) (Q:(AM×Bool×Int)→Prop):Prop:=
 FG a0 fun h=>AD (h != 0) (Q (({ Kind:=0,From:=0,To:=0,Seq:=0,Round:=0,Vec:=G0,Sums:=([]:List P9),Triples:=([]:List A1),N:=0,Over:=false }:AM),false,h)) (False)
def G7 (o0:AZ) (a0:Int) (Q:Int→Prop):Prop:=
 AD (decide (a0<0)) (Q 3) (AD (decide ((o0.row.length:Int)≤a0)) (Q 3) (Q 0))
def DK (o0:List Int) (a0:Int) (a1:Int) (Q:(List Int)→Prop):Prop:=
 uM o0 a0 a1 fun _=>AD (a0==a1) (Q o0) (uM o0 0 a0 fun _=>uM o0 a1 (o0.length:Int) fun _=>Q (o0.take a0.toNat++o0.drop a1.toNat))
def K9 (o0:AZ) (a0:Int) (Q:(AM×AZ)→Prop):Prop:=
 AN o0.row a0 fun h=>wK o0.by_ h ({ Kind:=0,From:=0,To:=0,Seq:=0,Round:=0,Vec:=G0,Sums:=([]:List P9),Triples:=([]:List A1),N:=0,Over:=false }:AM) fun G=>DK o0.row a0 (A7 (a0+1)) fun J=>wK o0.often h 0 fun D=>wK (FC h (A7 (D - 1)) o0.often) h 0 fun O=>AD (O==0) (Q (G,({ o0 with row:=J,by_:=(BO h o0.by_),often:=(BO h (FC h (A7 (D - 1)) o0.often)) }:AZ))) (Q (G,({ o0 with row:=J,often:=(FC h (A7 (D - 1)) o0.often) }:AZ)))
def J7 (o0:AZ) (a0:Int) (Q:(AM×Bool×Int×AZ)→Prop):Prop:=
 G7 o0 a0 fun D=>AD (D != 0) (Q (({ Kind:=0,From:=0,To:=0,Seq:=0,Round:=0,Vec:=G0,Sums:=([]:List P9),Triples:=([]:List A1),N:=0,Over:=false }:AM),false,D,o0)) (AN o0.row a0 fun J=>AD (decide (o0.taken<J)) (Q (({ Kind:=0,From:=0,To:=0,Seq:=0,Round:=0,Vec:=G0,Sums:=([]:List P9),Triples:=([]:List A1),N:=0,Over:=false }:AM),false,D,o0)) (K9 o0 a0 fun h=>AD (decide (h.1.Seq<h.2.taken)) (Q (({ Kind:=0,From:=0,To:=0,Seq:=0,Round:=0,Vec:=G0,Sums:=([]:List P9),Triples:=([]:List A1),N:=0,Over:=false }:AM),false,0,h.2)) (V9 h.1 fun G=>Q (G,true,0,({ room:=h.2.room,row:=h.2.row,by_:=h.2.by_,often:=h.2.often,sent:=h.2.sent,taken:=A7 (h.2.taken+1) }:AZ)))))
def NJ (o0:A8) (a0:Option Nat) (a1:Int) (Q:(AM×Bool×Int×A8)→Prop):Prop:=
 YE a0 (J6 a1 fun h=>Q (h.1,h.2.1,h.2.2,o0)) fun b=>ZH o0 b fun x=>J7 x a1 fun h=>Q (h.1,h.2.1,h.2.2.1,(b,h.2.2.2) :: BO b o0)
def DL (o0:A3) (o1:A2) (a0:Option Nat) (Q:(Bool×A2)→Prop):Prop:=
 CJ o1 a0 fun b18 x19=>AD (decide ((o0.stages.length:Int)≤x19.at_)) (Q (false,o1)) (CJ o1 (some b18) fun _ G=>CJ o1 (some b18) fun _ x73=>kP x73.parts ({ kind:=6,stage:=G.at_ }:BE) ([]:List A1) fun r81 t86=>CJ o1 (some b18) fun _ x109=>kP x109.parts ({ kind:=7,stage:=G.at_ }:BE) ([]:List A1) fun Z t122=>AD (!t86) (Q (false,o1)) (AD (!t122) (Q (false,o1)) (CJ o1 (some b18) fun _ U=>AN o0.stages U.at_ fun Y=>AN o0.stages U.at_ fun W=>CJ o1 (some b18) fun _ x205=>QD o0.p.Ring x205.mask.Rows (A7 (Y.To - W.From)) r81 fun r214=>CJ o1 (some b18) fun _ x246=>QD o0.p.Ring (A7 (Y.To - W.From)) x246.mask.Cols Z fun r255=>CJ o1 (some b18) fun _ x287=>QE o0.p.Ring r214.1 r255.1 x287.mask fun r295=>CJ o1 (some b18) fun _ D=>NG o0.p.Ring ([D.has,r295.1]:List (List AB)) fun J=>CJ ((b18,({ D with has:=J.1 }:AF)) :: (BO b18 o1)) (some b18) fun _ h=>CJ ((b18,({ h with parts:=(BO ({ kind:=6,stage:=G.at_ }:BE) h.parts) }:AF)) :: (BO b18 ((b18,({ D with has:=J.1 }:AF)) :: (BO b18 o1)))) (some b18) fun _ O=>CJ ((b18,({ O with parts:=(BO ({ kind:=7,stage:=G.at_ }:BE) O.parts) }:AF)) :: (BO b18 ((b18,({ h with parts:=(BO ({ kind:=6,stage:=G.at_ }:BE) h.parts) }:AF)) :: (BO b18 ((b18,({ D with has:=J.1 }:AF)) :: (BO b18 o1)))))) (some b18) fun _ V=>Q (true,((b18,({ V with at_:=A7 (V.at_+1) }:AF)) :: (BO b18 ((b18,({ O with parts:=(BO ({ kind:=7,stage:=G.at_ }:BE) O.parts) }:AF)) :: (BO b18 ((b18,({ h with parts:=(BO ({ kind:=6,stage:=G.at_ }:BE) h.parts) }:AF)) :: (BO b18 ((b18,({ D with has:=J.1 }:AF)) :: (BO b18 o1))))))))))))
def CX (o0:A3) (o1:A2) (o2:A8) (a0:Int) (a1:Int) (a2:Int) (Q:(Bool×A3×A2×A8)→Prop):Prop:=
 BZ o0 o1 o2 a0 a1 (fun O=>J6 a2 fun V=>AD (!V.2.1) (Q (false,O.1,o1,O.2)) (False)) (fun h=>NJ h.2.2 h.1 a2 fun D=>AD (!D.2.1) (Q (false,h.2.1,o1,D.2.2.2)) (AN h.2.1.workers a1 fun Y=>CJ o1 Y fun G U=>B2 (fun (W:A2) next214=>DL h.2.1 W (some G) fun J=>AD J.1 (next214 J.2) (Q (true,h.2.1,J.2,D.2.2.2))) ((G,({ U with parts:=(FC ({ kind:=D.1.Kind,stage:=D.1.Round }:BE) D.1.Triples U.parts) }:AF)) :: (BO G o1))))
def RX   : Prop:=
 False
def H6 (a0:Int) (Q:Int→Prop):Prop:=
 FG a0 fun h=>AD (h != 0) (Q h) (RX )
def H7 (o0:AZ) (a0:Int) (Q:(Int×AZ)→Prop):Prop:=
 G7 o0 a0 fun h=>AD (h != 0) (Q (h,o0)) (GL o0 fun D=>AD D (Q (9,o0)) (AN o0.row a0 fun J=>HF o0 J fun G=>Q (0,G)))
def LR (o0:A8) (a0:Option Nat) (a1:Int) (Q:(Int×A8)→Prop):Prop:=
 YE a0 (H6 a1 fun h=>Q (h,o0)) fun b=>ZH o0 b fun x=>H7 x a1 fun h=>Q (h.1,(b,h.2) :: BO b o0)
def J8 (a0:Int) (Q:Int→Prop):Prop:=
 FG a0 fun h=>AD (h != 0) (Q h) (False)
def J9 (o0:AZ) (a0:Int) (Q:(Int×AZ)→Prop):Prop:=
 G7 o0 a0 fun h=>AD (h != 0) (Q (h,o0)) (AN o0.row a0 fun G=>DK o0.row a0 (A7 (a0+1)) fun D=>EA 8 D ([G]) fun _=>Q (0,({ o0 with row:=(D++([G])) }:AZ)))
def NK (o0:A8) (a0:Option Nat) (a1:Int) (Q:(Int×A8)→Prop):Prop:=
 YE a0 (J8 a1 fun h=>Q (h,o0)) fun b=>ZH o0 b fun x=>J9 x a1 fun h=>Q (h.1,(b,h.2) :: BO b o0)
def HG (o0:AZ) (Q:Int→Prop):Prop:=
 Q (o0.row.length:Int)
def KA  (Q:Int→Prop):Prop:=
 Q 0
def EH (o0:A8) (a0:Option Nat) (Q:Int→Prop):Prop:=
 YE a0 (KA  fun h=>Q h) fun b=>ZH o0 b fun x=>HG x  fun h=>Q h
def IR (o0:Int) (a0:Int) (Q:Bool→Prop):Prop:=
 Q (a0==o0)
def DX (o0:List Int) (o1:Int) (Q:Int→Prop):Prop:=
 B2 (fun (h:Int) next40=>AD (decide (h<(o0.length:Int))) (AN o0 h fun G=>IR o1 G fun D=>AD D (Q h) (next40 (A7 (h+1)))) (Q (-1))) 0
def H8 (o0:AZ) (Q:Int→Prop):Prop:=
 HG o0 fun G=>AD (G==0) (Q (-1)) (HZ o0.row fun D=>DX o0.row D fun h=>Q h)
def P3  (Q:Int→Prop):Prop:=
 KA  fun h=>AD (h==0) (Q (-1)) (False)
def IB (o0:A8) (a0:Option Nat) (Q:Int→Prop):Prop:=
 YE a0 (P3  fun h=>Q h) fun b=>ZH o0 b fun x=>H8 x  fun h=>Q h
def DV (o0:A3) (o1:A2) (o2:A8) (Q:(Bool×A3×A2×A8)→Prop):Prop:=
 B2 (fun (s:A3×Bool×Int×A2×A8) next159=>match s with | (s152,s155,s156,s157,s158)=>AD (decide (s156<(o0.workers.length:Int))) (CW s152 s157 s158 s156 fun h=>AD h.1 (next159 (h.2.1,true,A7 (s156+1),h.2.2.1,h.2.2.2)) (next159 (h.2.1,s155,A7 (s156+1),h.2.2.1,h.2.2.2))) (B2 (fun (s:A3×Bool×Int×A2×A8) next675=>match s with | (s668,s671,s672,s673,s674)=>AD (decide (s672<(s152.workers.length:Int))) (B2 (fun (s:A3×Bool×Int×A2×A8) next851=>match s with | (s844,s847,s848,s849,s850)=>AD (decide (s848<(s668.workers.length:Int))) (wK s844.boxes (s672,s848) none fun G=>EH s850 G fun O=>IB s850 G fun U=>CX s844 s849 s850 s672 s848 U fun D=>AD s847 (next851 (D.2.1,true,A7 (s848+1),D.2.2.1,D.2.2.2)) (EH D.2.2.2 G fun J=>next851 (D.2.1,decide (J<O),A7 (s848+1),D.2.2.1,D.2.2.2))) (next675 (s844,s847,A7 (s672+1),s849,s850))) (s668,s671,0,s673,s674)) (Q (s671,s668,s673,s674))) (s152,s155,0,s157,s158))) (o0,false,0,o1,o2)
def EY (o0:A3) (o1:A2) (o2:A8) (a0:EI) (Q:(Bool×A3×A2×A8)→Prop):Prop:=
 QA a0 fun r18=>AD (!r18) (Q (false,o0,o1,o2)) (AD (a0.Kind==1) (CW o0 o1 o2 a0.A fun G=>Q (G.1,G.2.1,G.2.2.1,G.2.2.2)) (AD (a0.Kind==2) (CX o0 o1 o2 a0.A a0.B a0.K fun J=>Q (J.1,J.2.1,J.2.2.1,J.2.2.2)) (AD (a0.Kind==3) (BZ o0 o1 o2 a0.A a0.B (fun W=>H6 a0.K fun r84=>Q (r84==0,W.1,o1,W.2)) (fun V=>LR V.2.2 V.1 a0.K fun Y=>Q (Y.1==0,V.2.1,o1,Y.2))) (AD (a0.Kind==4) (BZ o0 o1 o2 a0.A a0.B (fun U=>J8 a0.K fun Z=>Q (Z==0,U.1,o1,U.2)) (fun D=>NK D.2.2 D.1 a0.K fun O=>Q (O.1==0,D.2.1,o1,O.2))) (DV o0 o1 o2 fun h=>Q (h.1,h.2.1,h.2.2.1,h.2.2.2))))))
def G2 (o1:A2) (o2:A3) (a0:Option Nat) (Q:Bool→Prop):Prop:=
 CJ o1 a0 fun b10 h=>Q (decide (h.at_<(o2.stages.length:Int)))
def CP (o1:A2) (o2:A3) (a0:List (Option Nat)) (Q:Int→Prop):Prop:=
 B2 (fun (h:Int) next55=>AD (decide (h<(a0.length:Int))) (AN a0 h fun G=>G2 o1 o2 G fun D=>AD D (Q h) (next55 (A7 (h+1)))) (Q (-1))) 0
def CK (o1:A2) (o2:A3) (a0:List (Option Nat)) (Q:Bool→Prop):Prop:=
 CP o1 o2 a0 fun h=>Q (decide (0≤h))
def CI (o0:A3) (o1:A2) (Q:Bool→Prop):Prop:=
 CK o1 o0 o0.workers fun h=>Q (!h)
def E4 (o0:A3) (o1:A2) (Q:(List AB)→Prop):Prop:=
 B2 (fun (s:(List AB)×Int) next401=>match s with | (s395,s399)=>AD (decide (s399<(o0.workers.length:Int))) (AN o0.workers s399 fun U=>CJ o1 U fun V D=>FK o0.p.A.Rows o0.p.R D.i fun O=>FK o0.p.B.Cols o0.p.C D.j fun J=>CJ o1 (some V) fun _ G=>B2 (fun (s:(List AB)×Int) next556=>match s with | (s551,s555)=>AD (decide (s555<(G.has.length:Int))) (AN G.has s555 fun h=>EA 32 s551 ([({ Row:=A7 (h.Row+O),Col:=A7 (h.Col+J),Val:=h.Val }:AB)]) fun _=>next556 ((s551++([({ Row:=A7 (h.Row+O),Col:=A7 (h.Col+J),Val:=h.Val }:AB)])),A7 (s555+1))) (next401 (s551,A7 (s399+1)))) (s395,0)) (sP FY s395 fun W=>Q W)) (([]:List AB),0)
def CD (o0:A3) (o1:A2) (Q:(Rows×Int)→Prop):Prop:=
 E4 o0 o1 fun D=>WU o0.p.Ring o0.p.A.Rows o0.p.B.Cols D fun h=>Q (h.1,h.2)
def G8 (a0:BF) (a1:List EI) (a2:Int) (Q:(Rows×Bool×Int)→Prop):Prop:=
 EP ([]:A2) ([]:A8) a0 (fun W=>AD (W.1 != 0) (Q (B1,false,W.1)) (False)) (fun G=>AD (G.1 != 0) (Q (B1,false,G.1)) (AD (decide (1048576<(a1.length:Int))) (Q (B1,false,5)) (CG a1 fun r105=>AD r105 (Q (B1,false,8)) (AD (decide (a2<0)) (Q (B1,false,3)) (AD (decide (1048576<a2)) (Q (B1,false,3)) (B2 (fun (s:A3×Int×A2×A8) next308=>match s with | (s302,s305,s306,s307)=>AD (decide (s305<(a1.length:Int))) (AN a1 s305 fun Z=>EY s302 s306 s307 Z fun D=>next308 (D.2.1,A7 (s305+1),D.2.2.1,D.2.2.2)) (DR (fun (J:(A3×A2×A8)→Prop)=>B2 (fun (s:A3×Int×A2×A8) next664=>match s with | (s658,s661,s662,s663)=>AD (decide (s661<a2)) (CI s658 s662 fun V=>AD (!V) (DV s658 s662 s663 fun h=>next664 (h.2.1,A7 (s661+1),h.2.2.1,h.2.2.2)) (J (s658,s662,s663))) (J (s658,s662,s663))) (s302,0,s306,s307)) fun (U,s579,s580)=>CD U s579 fun O=>CI U s579 fun Y=>Q (O.1,Y,O.2))) (G.2.2,0,G.2.1,([]:A8))))))))
def FZ (o0:A3) (o1:A2) (o2:A8) (a0:Int) (a1:Int) (Q:(Int×A3×A8)→Prop):Prop:=
 BZ o0 o1 o2 a0 a1 (fun D=>KA  fun J=>Q (J,D.1,D.2)) (fun h=>EH h.2.2 h.1 fun G=>Q (G,h.2.1,h.2.2))
def GX (o0:A2) (Q:(Rows×Int)→Prop):Prop:=
 Q (B1,10)
def GY (o0:A3) (Q:Int→Prop):Prop:=
 Q (o0.stages.length:Int)
def JA (o0:AZ) (Q:Int→Prop):Prop:=
 Q o0.sent
def RY  (Q:Int→Prop):Prop:=
 Q 0
def NL (o0:A8) (a0:Option Nat) (Q:Int→Prop):Prop:=
 YE a0 (RY  fun h=>Q h) fun b=>ZH o0 b fun x=>JA x  fun h=>Q h
def FP (o0:A3) (o1:A8) (Q:Int→Prop):Prop:=
 B2 (fun (s:(List ((Int×Int)×(Option Nat)))×Int) next74=>match s with | (s72,s73)=>sO s72 (Q s73) (fun D G=>NL o1 D.2 fun h=>next74 (G,A7 (s73+h)))) (o0.boxes,0)
def F7 (o0:A3) (o1:A2) (a0:Int) (Q:Int→Prop):Prop:=
 D3 o0 o1 a0 fun G=>AD (!G) (Q 0) (AN o0.workers a0 fun h=>CJ o1 h fun J D=>Q D.at_)
def TS  (Q:Bool→Prop):Prop:=
 HB 5 2 2 ([({ Row:=0,Col:=1,Val:=3 }:A1),({ Row:=1,Col:=0,Val:=5 }:A1)]:List A1) fun D=>TR 2 2 fun O=>EP ([]:A2) ([]:A8) ({ Ring:=5,A:=D.1,B:=D.1,Mask:=O,R:=2,C:=1,Room:=1 }:BF) (fun _=>False) (fun W=>EY W.2.2 W.2.1 ([]:A8) ({ Kind:=1,A:=0,B:=0,K:=0 }:EI) fun G=>FZ G.2.1 G.2.2.1 G.2.2.2 0 0 fun h=>GG ({ Ring:=5,A:=D.1,B:=D.1,Mask:=O,R:=2,C:=1,Room:=1 }:BF) fun Y=>G8 ({ Ring:=5,A:=D.1,B:=D.1,Mask:=O,R:=2,C:=1,Room:=1 }:BF) ([]:List EI) Y fun U=>T1 U.1 0 0 fun V=>EP G.2.2.1 h.2.2 ({ Ring:=0,A:=B1,B:=B1,Mask:=B1,R:=0,C:=0,Room:=0 }:BF) (fun J=>GX J.2 fun r249=>AD (W.1==0) (AD G.1 (AD (h.1==1) (GY h.2.1 fun r264=>AD (r264==2) (FP h.2.1 h.2.2 fun r273=>AD (r273==1) (CI h.2.1 J.2 fun r282=>AD (!r282) (AD (U.2.2==0) (AD U.2.1 (AD (V.1==15) (AD V.2 (AD (J.1==8) (AD (r249.2==10) (GG ({ Ring:=5,A:=D.1,B:=D.1,Mask:=O,R:=2,C:=1,Room:=1 }:BF) fun r291=>AD (r291==11) (ED h.2.1 J.2 0 fun r302=>AD (r302==3) (F7 h.2.1 J.2 0 fun r311=>AD (r311==0) (EV ({ Ring:=5,A:=D.1,B:=D.1,Mask:=O,R:=2,C:=1,Room:=1 }:BF) fun Z=>Q (Z==0)) (Q false)) (Q false)) (Q false)) (Q false)) (Q false)) (Q false)) (Q false)) (Q false)) (Q false)) (Q false)) (Q false)) (Q false)) (Q false)) (Q false)) (Q false)) (fun _=>False))
def OZ (a0:HV) (a1:GB) (a2:Int×Int×Int×Int) (Q:Bool→Prop):Prop:=
 LF a0 fun h=>I3 a1 (A7 (h.R*h.C)) fun r51=>G8 h r51 (A7 (a1.Windows)) fun O=>IK h r51 (A7 (a1.Windows)) fun J=>DR (fun (G:Int→Prop)=>AD ((a2.2.2.2.tmod 3)==0) (G (A7 (h.A.Cols+1))) (G h.A.Cols)) fun D=>G8 ({ h with A:=({ Rows:=h.A.Rows,Cols:=D,Start:=h.A.Start,Col:=h.A.Col,Val:=h.A.Val }:Rows),R:=a2.1,C:=a2.2.1,Room:=a2.2.2.1 }:BF) ([]:List EI) a2.2.2.2 fun Z=>IK ({ h with A:=({ Rows:=h.A.Rows,Cols:=D,Start:=h.A.Start,Col:=h.A.Col,Val:=h.A.Val }:Rows),R:=a2.1,C:=a2.2.1,Room:=a2.2.2.1 }:BF) ([]:List EI) a2.2.2.2 fun Y=>TS  fun U=>AD U (TO O.1 J.1 fun V=>AD V (AD (O.2.1==J.2.1) (AD (O.2.2==J.2.2) (EV ({ h with A:=({ Rows:=h.A.Rows,Cols:=D,Start:=h.A.Start,Col:=h.A.Col,Val:=h.A.Val }:Rows),R:=a2.1,C:=a2.2.1,Room:=a2.2.2.1 }:BF) fun W=>GF ({ h with A:=({ Rows:=h.A.Rows,Cols:=D,Start:=h.A.Start,Col:=h.A.Col,Val:=h.A.Val }:Rows),R:=a2.1,C:=a2.2.1,Room:=a2.2.2.1 }:BF) fun r190=>AD (W==r190) (GG ({ h with A:=({ Rows:=h.A.Rows,Cols:=D,Start:=h.A.Start,Col:=h.A.Col,Val:=h.A.Val }:Rows),R:=a2.1,C:=a2.2.1,Room:=a2.2.2.1 }:BF) fun r195=>VE ({ h with A:=({ Rows:=h.A.Rows,Cols:=D,Start:=h.A.Start,Col:=h.A.Col,Val:=h.A.Val }:Rows),R:=a2.1,C:=a2.2.1,Room:=a2.2.2.1 }:BF) fun r199=>AD (r195==r199) (Q (Z.2.2==Y.2.2)) (Q false)) (Q false)) (Q false)) (Q false)) (Q false)) (Q false)
abbrev F8 (D:Rows) (h:kU):Array Value:=#[.int .i64 D.Rows,.int .i64 D.Cols,.slice h.1.1 D.Start.length h.1.2,.slice h.2.1.1 D.Col.length h.2.1.2,.slice h.2.2.1 D.Val.length h.2.2.2]
abbrev JU (h:BF) (D:xK):Array Value:=#[.int .i64 h.Ring,.int .i64 h.A.Rows,.int .i64 h.A.Cols,.slice D.1.1.1 h.A.Start.length D.1.1.2,.slice D.1.2.1.1 h.A.Col.length D.1.2.1.2,.slice D.1.2.2.1 h.A.Val.length D.1.2.2.2,.int .i64 h.B.Rows,.int .i64 h.B.Cols,.slice D.2.1.1.1 h.B.Start.length D.2.1.1.2,.slice D.2.1.2.1.1 h.B.Col.length D.2.1.2.1.2,.slice D.2.1.2.2.1 h.B.Val.length D.2.1.2.2.2,.int .i64 h.Mask.Rows,.int .i64 h.Mask.Cols,.slice D.2.2.1.1 h.Mask.Start.length D.2.2.1.2,.slice D.2.2.2.1.1 h.Mask.Col.length D.2.2.2.1.2,.slice D.2.2.2.2.1 h.Mask.Val.length D.2.2.2.2.2,.int .i64 h.R,.int .i64 h.C,.int .i64 h.Room]
abbrev JV (h:AM) (D:aTe):Array Value:=#[.int .i64 h.Kind,.int .i64 h.From,.int .i64 h.To,.int .i64 h.Seq,.int .i64 h.Round,.int .i64 h.Vec.N,.slice D.1.1 h.Vec.Items.length D.1.2,.slice D.2.1.1 h.Sums.length D.2.1.2,.slice D.2.2.1 h.Triples.length D.2.2.2,.int .i64 h.N,.bool h.Over]
abbrev RZ (h:A3) (D:aTh) (G:Option Addr) (J:Nat) (O:Nat):Array Value:=#[.int .i64 h.p.Ring,.int .i64 h.p.A.Rows,.int .i64 h.p.A.Cols,.slice D.1.1.1.1 h.p.A.Start.length D.1.1.1.2,.slice D.1.1.2.1.1 h.p.A.Col.length D.1.1.2.1.2,.slice D.1.1.2.2.1 h.p.A.Val.length D.1.1.2.2.2,.int .i64 h.p.B.Rows,.int .i64 h.p.B.Cols,.slice D.1.2.1.1.1 h.p.B.Start.length D.1.2.1.1.2,.slice D.1.2.1.2.1.1 h.p.B.Col.length D.1.2.1.2.1.2,.slice D.1.2.1.2.2.1 h.p.B.Val.length D.1.2.1.2.2.2,.int .i64 h.p.Mask.Rows,.int .i64 h.p.Mask.Cols,.slice D.1.2.2.1.1 h.p.Mask.Start.length D.1.2.2.1.2,.slice D.1.2.2.2.1.1 h.p.Mask.Col.length D.1.2.2.2.1.2,.slice D.1.2.2.2.2.1 h.p.Mask.Val.length D.1.2.2.2.2.2,.int .i64 h.p.R,.int .i64 h.p.C,.int .i64 h.p.Room,.slice D.2.1 h.stages.length D.2.2,.slice G h.workers.length J,.map (some O)]
abbrev IC (h:AF) (D:kU) (J:Option Addr) (U:Nat) (V:Nat) (O:Option Addr) (G:Nat):Array Value:=#[.int .i64 h.i,.int .i64 h.j,.int .i64 h.mask.Rows,.int .i64 h.mask.Cols,.slice D.1.1 h.mask.Start.length D.1.2,.slice D.2.1.1 h.mask.Col.length D.2.1.2,.slice D.2.2.1 h.mask.Val.length D.2.2.2,.slice J h.out.length U,.map (some V),.int .i64 h.at_,.slice O h.has.length G]
abbrev nX (D:EL) (h:aTi):Array Value:=#[.int .i64 D.Ring,.int .u8 D.Size.1,.int .u8 D.Size.2,.slice h.1.1 D.L.length h.1.2,.slice h.2.1.1 D.X.length h.2.1.2,.slice h.2.2.1.1 D.Y.length h.2.2.1.2,.slice h.2.2.2.1 D.F.length h.2.2.2.2,.bool D.Others]
abbrev nY (h:GS) (D:aTj):Array Value:=#[.int .i64 h.Ring,.int .u8 h.Size.1,.int .u8 h.Size.2.1,.int .u8 h.Size.2.2,.slice D.1.1 h.A.length D.1.2,.slice D.2.1.1 h.B.length D.2.1.2,.slice D.2.2.1 h.M.length D.2.2.2]
abbrev cX (h:HV) (D:aTj):Array Value:=#[.int .i64 h.T.Ring,.int .u8 h.T.Size.1,.int .u8 h.T.Size.2.1,.int .u8 h.T.Size.2.2,.slice D.1.1 h.T.A.length D.1.2,.slice D.2.1.1 h.T.B.length D.2.1.2,.slice D.2.2.1 h.T.M.length D.2.2.2,.int .u8 h.R,.int .u8 h.C,.int .u8 h.Room]
abbrev OL (h:AR) (D:aTm) (G:Option Addr) (O:Nat) (U:Option Addr) (J:Nat):Array Value:=#[.int .i64 h.P.Ring,.int .i64 h.P.A.Rows,.int .i64 h.P.A.Cols,.slice D.1.1.1.1 h.P.A.Start.length D.1.1.1.2,.slice D.1.1.2.1.1 h.P.A.Col.length D.1.1.2.1.2,.slice D.1.1.2.2.1 h.P.A.Val.length D.1.1.2.2.2,.int .i64 h.P.B.Rows,.int .i64 h.P.B.Cols,.slice D.1.2.1.1.1 h.P.B.Start.length D.1.2.1.1.2,.slice D.1.2.1.2.1.1 h.P.B.Col.length D.1.2.1.2.1.2,.slice D.1.2.1.2.2.1 h.P.B.Val.length D.1.2.1.2.2.2,.int .i64 h.P.Mask.Rows,.int .i64 h.P.Mask.Cols,.slice D.1.2.2.1.1 h.P.Mask.Start.length D.1.2.2.1.2,.slice D.1.2.2.2.1.1 h.P.Mask.Col.length D.1.2.2.2.1.2,.slice D.1.2.2.2.2.1 h.P.Mask.Val.length D.1.2.2.2.2.2,.int .i64 h.P.R,.int .i64 h.P.C,.int .i64 h.P.Room,.slice D.2.1 h.S.length D.2.2,.slice G h.W.length O,.slice U h.B.length J]
abbrev IG (h:AO) (D:kU) (Y:Option Addr) (q2:Nat) (Z:Option Addr) (q4:Nat) (V:Option Addr) (q6:Nat) (W:Option Addr) (q8:Nat) (q9:Option Addr) (U:Nat) (G:Option Addr) (O:Nat):Array Value:=#[.int .i64 h.I,.int .i64 h.J,.int .i64 h.Mask.Rows,.int .i64 h.Mask.Cols,.slice D.1.1 h.Mask.Start.length D.1.2,.slice D.2.1.1 h.Mask.Col.length D.2.1.2,.slice D.2.2.1 h.Mask.Val.length D.2.2.2,.slice Y h.Out.length q2,.slice Z h.Lefts.length q4,.slice V h.Rights.length q6,.slice W h.L.length q8,.slice q9 h.R.length U,.int .i64 h.At,.slice G h.Has.length O]
abbrev CN (h:B4) (D:Option Addr) (G:Nat):Array Value:=#[.int .i64 h.Many,.int .i64 h.Out,.int .i64 h.In,.slice D h.L.length G]
abbrev BM (D:AR) (h:aTl):Array Value:=#[.int .i64 D.P.Ring,.int .i64 D.P.A.Rows,.int .i64 D.P.A.Cols,.slice h.1.1.1.1 D.P.A.Start.length h.1.1.1.2,.slice h.1.1.2.1.1 D.P.A.Col.length h.1.1.2.1.2,.slice h.1.1.2.2.1 D.P.A.Val.length h.1.1.2.2.2,.int .i64 D.P.B.Rows,.int .i64 D.P.B.Cols,.slice h.1.2.1.1.1 D.P.B.Start.length h.1.2.1.1.2,.slice h.1.2.1.2.1.1 D.P.B.Col.length h.1.2.1.2.1.2,.slice h.1.2.1.2.2.1 D.P.B.Val.length h.1.2.1.2.2.2,.int .i64 D.P.Mask.Rows,.int .i64 D.P.Mask.Cols,.slice h.1.2.2.1.1 D.P.Mask.Start.length h.1.2.2.1.2,.slice h.1.2.2.2.1.1 D.P.Mask.Col.length h.1.2.2.2.1.2,.slice h.1.2.2.2.2.1 D.P.Mask.Val.length h.1.2.2.2.2.2,.int .i64 D.P.R,.int .i64 D.P.C,.int .i64 D.P.Room,.slice h.2.1.1 D.S.length h.2.1.2,.slice h.2.2.1.1 D.W.length h.2.2.1.2,.slice h.2.2.2.1 D.B.length h.2.2.2.2]
abbrev AK (D:A3) (h:aTf) (G:Nat):Array Value:=#[.int .i64 D.p.Ring,.int .i64 D.p.A.Rows,.int .i64 D.p.A.Cols,.slice h.1.1.1.1 D.p.A.Start.length h.1.1.1.2,.slice h.1.1.2.1.1 D.p.A.Col.length h.1.1.2.1.2,.slice h.1.1.2.2.1 D.p.A.Val.length h.1.1.2.2.2,.int .i64 D.p.B.Rows,.int .i64 D.p.B.Cols,.slice h.1.2.1.1.1 D.p.B.Start.length h.1.2.1.1.2,.slice h.1.2.1.2.1.1 D.p.B.Col.length h.1.2.1.2.1.2,.slice h.1.2.1.2.2.1 D.p.B.Val.length h.1.2.1.2.2.2,.int .i64 D.p.Mask.Rows,.int .i64 D.p.Mask.Cols,.slice h.1.2.2.1.1 D.p.Mask.Start.length h.1.2.2.1.2,.slice h.1.2.2.2.1.1 D.p.Mask.Col.length h.1.2.2.2.1.2,.slice h.1.2.2.2.2.1 D.p.Mask.Val.length h.1.2.2.2.2.2,.int .i64 D.p.R,.int .i64 D.p.C,.int .i64 D.p.Room,.slice h.2.1.1 D.stages.length h.2.1.2,.slice h.2.2.1 D.workers.length h.2.2.2,.map (some G)]
abbrev BW (h:AZ) (J:Option Addr) (D:Nat) (G:Nat) (O:Nat):Array Value:=#[.int .i64 h.room,.slice J h.row.length D,.map (some G),.map (some O),.int .i64 h.sent,.int .i64 h.taken]
theorem tv:True:=trivial
end Go.Proofs.YtbohadngdkjljaaGreat
