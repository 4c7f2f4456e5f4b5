/- Types. -/
import Derived.Test.YtbohadngdkjljaaGreatFwU
import Derived.Test.YtbohadngdkjljaaGreatFwK
namespace Go.Proofs.YtbohadngdkjljaaGreat
open Go Go.Fw
set_option linter.unusedVariables false
set_option linter.unusedSimpArgs false
set_option maxRecDepth 8000
set_option maxHeartbeats 1000000
abbrev BO:F0 Int:=IR 1 (fun x=>[.int .i64 x]) (fun _=>⟨rfl,rfl⟩)
abbrev AeN:F0 Int:=IR 1 (fun x=>[.int .u64 x]) (fun _=>⟨rfl,rfl⟩)
abbrev eU8:F0 Int:=IR 1 (fun x=>[.int .u8 x]) (fun _=>⟨rfl,rfl⟩)
abbrev eB:F0 Bool:=IR 1 (fun x=>[.bool x]) (fun _=>⟨rfl,rfl⟩)
structure AL where
 Hi:Int
 Lo:Int
deriving DecidableEq,Inhabited
abbrev DT:AL:={ Hi:=0,Lo:=0 }
def EA (x:AL):List Value:=[.int .i64 x.Hi,.int .u64 x.Lo]
abbrev OC:F0 AL:=IR 2 EA (fun _=>⟨rfl,rfl⟩)
structure DX where
 From:Int
 To:Int
 W:Int
deriving DecidableEq,Inhabited
def kP (x:DX):List Value:=[.int .i64 x.From,.int .i64 x.To,.int .i64 x.W]
abbrev XJ:F0 DX:=IR 3 kP (fun _=>⟨rfl,rfl⟩)
structure Rows where
 Rows:Int
 Cols:Int
 Start:List Int
 Col:List Int
 Val:List Int
deriving DecidableEq,Inhabited
abbrev B4:Rows:={ Rows:=0,Cols:=0,Start:=([]:List Int),Col:=([]:List Int),Val:=([]:List Int) }
abbrev kQ:Type:=(Option Addr×Nat)×(Option Addr×Nat)×(Option Addr×Nat)
def OD (I:IH) (x:kQ) (o:Rows):Prop:=RepSl BO I x.1.1 x.1.2 o.Start∧RepSl BO I x.2.1.1 x.2.1.2 o.Col∧RepSl BO I x.2.2.1 x.2.2.2 o.Val
theorem xM {I J:IH} {x:kQ} {o:Rows} (h:IH.le I J) (k:OD I x o):OD J x o:=⟨k.1.mono h,k.2.1.mono h,k.2.2.mono h⟩
def nO:F0 Rows where
 sz:=5
 rep I cs x:=∃ a:kQ,cs=[.int .i64 x.Rows,.int .i64 x.Cols,.slice a.1.1 x.Start.length a.1.2,.slice a.2.1.1 x.Col.length a.2.1.2,.slice a.2.2.1 x.Val.length a.2.2.2]∧OD I a x
 mono hle:=fun ⟨a,e,h⟩=>⟨a,e,xM hle h⟩
 len:=fun ⟨a,e,_⟩=>by rw [e]; rfl
 one:=fun ⟨a,e,_⟩=>by rw [e]; rfl
structure A3 where
 Row:Int
 Col:Int
 Val:Int
deriving DecidableEq,Inhabited
def WF (x:A3):List Value:=[.int .i64 x.Row,.int .i64 x.Col,.int .i64 x.Val]
abbrev B5:F0 A3:=IR 3 WF (fun _=>⟨rfl,rfl⟩)
structure CH where
 Ring:Int
 A:Rows
 B:Rows
 Mask:Rows
 R:Int
 C:Int
 Room:Int
deriving DecidableEq,Inhabited
abbrev xN:Type:=kQ×kQ×kQ
def qD (I:IH) (x:xN) (o:CH):Prop:=OD I x.1 o.A∧OD I x.2.1 o.B∧OD I x.2.2 o.Mask
theorem mTc {I J:IH} {x:xN} {o:CH} (h:IH.le I J) (k:qD I x o):qD J x o:=⟨xM h k.1,xM h k.2.1,xM h k.2.2⟩
structure AX where
 From:Int
 To:Int
 Row:Int
 Col:Int
deriving DecidableEq,Inhabited
def eR (x:AX):List Value:=[.int .i64 x.From,.int .i64 x.To,.int .i64 x.Row,.int .i64 x.Col]
abbrev HB:F0 AX:=IR 4 eR (fun _=>⟨rfl,rfl⟩)
structure CN where
 At:Int
 Val:Int
deriving DecidableEq,Inhabited
def AaQ (x:CN):List Value:=[.int .i64 x.At,.int .i64 x.Val]
abbrev UD:F0 CN:=IR 2 AaQ (fun _=>⟨rfl,rfl⟩)
structure FP where
 Kind:Int
 A:Int
 B:Int
 K:Int
deriving DecidableEq,Inhabited
def WG (x:FP):List Value:=[.int .i64 x.Kind,.int .i64 x.A,.int .i64 x.B,.int .i64 x.K]
abbrev UU:F0 FP:=IR 4 WG (fun _=>⟨rfl,rfl⟩)
structure P6 where
 At:Int
 Val:AL
deriving DecidableEq,Inhabited
def AcL (x:P6):List Value:=[.int .i64 x.At,.int .i64 x.Val.Hi,.int .u64 x.Val.Lo]
abbrev xO:F0 P6:=IR 3 AcL (fun _=>⟨rfl,rfl⟩)
structure Vec where
 N:Int
 Items:List CN
deriving DecidableEq,Inhabited
abbrev G3:Vec:={ N:=0,Items:=([]:List CN) }
structure AO where
 Kind:Int
 From:Int
 To:Int
 Seq:Int
 Round:Int
 Vec:Vec
 Sums:List P6
 Triples:List A3
 N:Int
 Over:Bool
deriving DecidableEq,Inhabited
abbrev aTe:Type:=(Option Addr×Nat)×(Option Addr×Nat)×(Option Addr×Nat)
def gO (I:IH) (x:aTe) (o:AO):Prop:=RepSl UD I x.1.1 x.1.2 o.Vec.Items∧RepSl xO I x.2.1.1 x.2.1.2 o.Sums∧RepSl B5 I x.2.2.1 x.2.2.2 o.Triples
theorem mTe {I J:IH} {x:aTe} {o:AO} (h:IH.le I J) (k:gO I x o):gO J x o:=⟨k.1.mono h,k.2.1.mono h,k.2.2.mono h⟩
def BI:F0 AO where
 sz:=11
 rep I cs x:=∃ a:aTe,cs=[.int .i64 x.Kind,.int .i64 x.From,.int .i64 x.To,.int .i64 x.Seq,.int .i64 x.Round,.int .i64 x.Vec.N,.slice a.1.1 x.Vec.Items.length a.1.2,.slice a.2.1.1 x.Sums.length a.2.1.2,.slice a.2.2.1 x.Triples.length a.2.2.2,.int .i64 x.N,.bool x.Over]∧gO I a x
 mono hle:=fun ⟨a,e,h⟩=>⟨a,e,mTe hle h⟩
 len:=fun ⟨a,e,_⟩=>by rw [e]; rfl
 one:=fun ⟨a,e,_⟩=>by rw [e]; rfl
structure AB where
 Row:Int
 Col:Int
 Val:AL
deriving DecidableEq,Inhabited
def LC (x:AB):List Value:=[.int .i64 x.Row,.int .i64 x.Col,.int .i64 x.Val.Hi,.int .u64 x.Val.Lo]
abbrev BL:F0 AB:=IR 4 LC (fun _=>⟨rfl,rfl⟩)
structure BE where
 kind:Int
 stage:Int
deriving DecidableEq,Inhabited
def S3 (x:BE):List Value:=[.int .i64 x.kind,.int .i64 x.stage]
abbrev F1 (x:BE):Value:=.agg (S3 x).toArray
structure AF where
 i:Int
 j:Int
 mask:Rows
 out:List AO
 parts:List (BE×(List A3))
 at_:Int
 has:List AB
deriving DecidableEq,Inhabited
abbrev A2:=List (Nat×AF)
structure AZ where
 room:Int
 row:List Int
 by_:List (Int×AO)
 often:List (Int×Int)
 sent:Int
 taken:Int
deriving DecidableEq,Inhabited
abbrev A6:=List (Nat×AZ)
structure A1 where
 p:CH
 stages:List AX
 workers:List (Option Nat)
 boxes:List ((Int×Int)×(Option Nat))
deriving DecidableEq,Inhabited
structure GF where
 L:List FP
 Windows:Int
deriving DecidableEq,Inhabited
def gR:F0 GF where
 sz:=2
 rep I cs x:=∃ a0 c0,cs=[.slice a0 x.L.length c0,.int .u8 x.Windows]∧RepSl UU I a0 c0 x.L
 mono hle:=fun ⟨a0,c0,e,h0⟩=>⟨a0,c0,e,h0.mono hle⟩
 len:=fun ⟨a0,c0,e,_⟩=>by rw [e]; rfl
 one:=fun ⟨a0,c0,e,_⟩=>by rw [e]; rfl
structure EO where
 Ring:Int
 Size:Int×Int
 L:List A3
 X:List CN
 Y:List CN
 F:List Int
 Others:Bool
deriving DecidableEq,Inhabited
abbrev aTi:Type:=(Option Addr×Nat)×(Option Addr×Nat)×(Option Addr×Nat)×(Option Addr×Nat)
def lTi (I:IH) (x:aTi) (o:EO):Prop:=RepSl B5 I x.1.1 x.1.2 o.L∧RepSl UD I x.2.1.1 x.2.1.2 o.X∧RepSl UD I x.2.2.1.1 x.2.2.1.2 o.Y∧RepSl AeN I x.2.2.2.1 x.2.2.2.2 o.F
theorem mTi {I J:IH} {x:aTi} {o:EO} (h:IH.le I J) (k:lTi I x o):lTi J x o:=⟨k.1.mono h,k.2.1.mono h,k.2.2.1.mono h,k.2.2.2.mono h⟩
structure GV where
 Ring:Int
 Size:Int×Int×Int
 A:List A3
 B:List A3
 M:List A3
deriving DecidableEq,Inhabited
abbrev aTj:Type:=(Option Addr×Nat)×(Option Addr×Nat)×(Option Addr×Nat)
def lTj (I:IH) (x:aTj) (o:GV):Prop:=RepSl B5 I x.1.1 x.1.2 o.A∧RepSl B5 I x.2.1.1 x.2.1.2 o.B∧RepSl B5 I x.2.2.1 x.2.2.2 o.M
theorem mTj {I J:IH} {x:aTj} {o:GV} (h:IH.le I J) (k:lTj I x o):lTj J x o:=⟨k.1.mono h,k.2.1.mono h,k.2.2.mono h⟩
def nP:F0 GV where
 sz:=7
 rep I cs x:=∃ a:aTj,cs=[.int .i64 x.Ring,.int .u8 x.Size.1,.int .u8 x.Size.2.1,.int .u8 x.Size.2.2,.slice a.1.1 x.A.length a.1.2,.slice a.2.1.1 x.B.length a.2.1.2,.slice a.2.2.1 x.M.length a.2.2.2]∧lTj I a x
 mono hle:=fun ⟨a,e,h⟩=>⟨a,e,mTj hle h⟩
 len:=fun ⟨a,e,_⟩=>by rw [e]; rfl
 one:=fun ⟨a,e,_⟩=>by rw [e]; rfl
structure HX where
 T:GV
 R:Int
 C:Int
 Room:Int
deriving DecidableEq,Inhabited
def nQ:F0 HX where
 sz:=10
 rep I cs x:=∃ a:aTj,cs=[.int .i64 x.T.Ring,.int .u8 x.T.Size.1,.int .u8 x.T.Size.2.1,.int .u8 x.T.Size.2.2,.slice a.1.1 x.T.A.length a.1.2,.slice a.2.1.1 x.T.B.length a.2.1.2,.slice a.2.2.1 x.T.M.length a.2.2.2,.int .u8 x.R,.int .u8 x.C,.int .u8 x.Room]∧lTj I a x.T
 mono hle:=fun ⟨a,e,h⟩=>⟨a,e,mTj hle h⟩
 len:=fun ⟨a,e,_⟩=>by rw [e]; rfl
 one:=fun ⟨a,e,_⟩=>by rw [e]; rfl
structure AQ where
 I:Int
 J:Int
 Mask:Rows
 Out:List AO
 Lefts:List Bool
 Rights:List Bool
 L:List (List A3)
 R:List (List A3)
 At:Int
 Has:List AB
deriving DecidableEq,Inhabited
abbrev A4:=List (Nat×AQ)
abbrev aTo:Type:=kQ×(Option Addr×Nat)×(Option Addr×Nat)×(Option Addr×Nat)×(Option Addr×Nat)×(Option Addr×Nat)×(Option Addr×Nat)
def lTo (I:IH) (x:aTo) (o:AQ):Prop:=OD I x.1 o.Mask∧RepSl BI I x.2.1.1 x.2.1.2 o.Out∧RepSl eB I x.2.2.1.1 x.2.2.1.2 o.Lefts∧RepSl eB I x.2.2.2.1.1 x.2.2.2.1.2 o.Rights∧RepSl (JH B5) I x.2.2.2.2.1.1 x.2.2.2.2.1.2 o.L∧RepSl (JH B5) I x.2.2.2.2.2.1.1 x.2.2.2.2.2.1.2 o.R∧RepSl BL I x.2.2.2.2.2.2.1 x.2.2.2.2.2.2.2 o.Has
theorem mTo {I J:IH} {x:aTo} {o:AQ} (h:IH.le I J) (k:lTo I x o):lTo J x o:=⟨xM h k.1,k.2.1.mono h,k.2.2.1.mono h,k.2.2.2.1.mono h,k.2.2.2.2.1.mono h,k.2.2.2.2.2.1.mono h,k.2.2.2.2.2.2.mono h⟩
structure B3 where
 Many:Int
 Out:Int
 In:Int
 L:List AO
deriving DecidableEq,Inhabited
abbrev AA:=List (Nat×B3)
structure AM where
 P:CH
 S:List AX
 W:List (Option Nat)
 B:List (Option Nat)
deriving DecidableEq,Inhabited
abbrev aTl:Type:=xN×(Option Addr×Nat)×(Option Addr×Nat)×(Option Addr×Nat)
def qE (I:IH) (x:aTl) (o:AM):Prop:=qD I x.1 o.P∧RepSl HB I x.2.1.1 x.2.1.2 o.S∧RepSl CU I x.2.2.1.1 x.2.2.1.2 o.W∧RepSl CU I x.2.2.2.1 x.2.2.2.2 o.B
theorem mTl {I J:IH} {x:aTl} {o:AM} (h:IH.le I J) (k:qE I x o):qE J x o:=⟨mTc h k.1,k.2.1.mono h,k.2.2.1.mono h,k.2.2.2.mono h⟩
abbrev aTb:Type:=(Option Addr×Nat)×(Option Addr×Nat)
def lTb (I:IH) (x:aTb) (o:Rows):Prop:=RepSl BO I x.1.1 x.1.2 o.Start∧RepSl BO I x.2.1 x.2.2 o.Val
theorem mTb {I J:IH} {x:aTb} {o:Rows} (h:IH.le I J) (k:lTb I x o):lTb J x o:=⟨k.1.mono h,k.2.mono h⟩
abbrev aTd:Type:=(Option Addr×Nat)×(Option Addr×Nat)
def lTd (I:IH) (x:aTd) (o:Rows):Prop:=RepSl BO I x.1.1 x.1.2 o.Col∧RepSl BO I x.2.1 x.2.2 o.Val
theorem mTd {I J:IH} {x:aTd} {o:Rows} (h:IH.le I J) (k:lTd I x o):lTd J x o:=⟨k.1.mono h,k.2.mono h⟩
abbrev aTf:Type:=xN×(Option Addr×Nat)×(Option Addr×Nat)
def SI (I:IH) (x:aTf) (o:A1):Prop:=qD I x.1 o.p∧RepSl HB I x.2.1.1 x.2.1.2 o.stages∧RepSl CU I x.2.2.1 x.2.2.2 o.workers
theorem mTf {I J:IH} {x:aTf} {o:A1} (h:IH.le I J) (k:SI I x o):SI J x o:=⟨mTc h k.1,k.2.1.mono h,k.2.2.mono h⟩
abbrev aTg:Type:=kQ×(Option Addr×Nat)×(Option Addr×Nat)
def lTg (I:IH) (x:aTg) (o:AF):Prop:=OD I x.1 o.mask∧RepSl BI I x.2.1.1 x.2.1.2 o.out∧RepSl BL I x.2.2.1 x.2.2.2 o.has
theorem mTg {I J:IH} {x:aTg} {o:AF} (h:IH.le I J) (k:lTg I x o):lTg J x o:=⟨xM h k.1,k.2.1.mono h,k.2.2.mono h⟩
abbrev aTh:Type:=xN×(Option Addr×Nat)
def lTh (I:IH) (x:aTh) (o:A1):Prop:=qD I x.1 o.p∧RepSl HB I x.2.1 x.2.2 o.stages
theorem mTh {I J:IH} {x:aTh} {o:A1} (h:IH.le I J) (k:lTh I x o):lTh J x o:=⟨mTc h k.1,k.2.mono h⟩
abbrev aTk:Type:=kQ×kQ×kQ
def lTk (I:IH) (x:aTk) (o:Rows×Rows×Rows):Prop:=OD I x.1 o.1∧OD I x.2.1 o.2.1∧OD I x.2.2 o.2.2
theorem mTk {I J:IH} {x:aTk} {o:Rows×Rows×Rows} (h:IH.le I J) (k:lTk I x o):lTk J x o:=⟨xM h k.1,xM h k.2.1,xM h k.2.2⟩
abbrev aTm:Type:=xN×(Option Addr×Nat)
def lTm (I:IH) (x:aTm) (o:AM):Prop:=qD I x.1 o.P∧RepSl HB I x.2.1 x.2.2 o.S
theorem mTm {I J:IH} {x:aTm} {o:AM} (h:IH.le I J) (k:lTm I x o):lTm J x o:=⟨mTc h k.1,k.2.mono h⟩
abbrev aTn:Type:=kQ×(Option Addr×Nat)×(Option Addr×Nat)
def lTn (I:IH) (x:aTn) (o:AQ):Prop:=OD I x.1 o.Mask∧RepSl BI I x.2.1.1 x.2.1.2 o.Out∧RepSl BL I x.2.2.1 x.2.2.2 o.Has
theorem mTn {I J:IH} {x:aTn} {o:AQ} (h:IH.le I J) (k:lTn I x o):lTn J x o:=⟨xM h k.1,k.2.1.mono h,k.2.2.mono h⟩
def A5:BoxTy AF where
 A:=aTg×Nat
 fact I a x:=lTg I (a.1) (x)
 mono:=fun h h0=>mTg h h0
 obj a x:=.cells #[.int .i64 x.i,.int .i64 x.j,.int .i64 x.mask.Rows,.int .i64 x.mask.Cols,.slice (a.1.1.1.1) x.mask.Start.length (a.1.1.1.2),.slice (a.1.1.2.1.1) x.mask.Col.length (a.1.1.2.1.2),.slice (a.1.1.2.2.1) x.mask.Val.length (a.1.1.2.2.2),.slice (a.1.2.1.1) x.out.length (a.1.2.1.2),.map (some (a.2)),.int .i64 x.at_,.slice (a.1.2.2.1) x.has.length (a.1.2.2.2)] 127 (0,0)
 more a x:=[OwnMap F1 (JH B5) false (a.2) x.parts]
def A8:BoxTy AQ where
 A:=aTn×Option Addr×Nat×Option Addr×Nat×Option Addr×Nat×Option Addr×Nat
 fact I a x:=lTn I (a.1) (x)
 mono:=fun h h0=>mTn h h0
 obj a x:=.cells #[.int .i64 x.I,.int .i64 x.J,.int .i64 x.Mask.Rows,.int .i64 x.Mask.Cols,.slice (a.1.1.1.1) x.Mask.Start.length (a.1.1.1.2),.slice (a.1.1.2.1.1) x.Mask.Col.length (a.1.1.2.1.2),.slice (a.1.1.2.2.1) x.Mask.Val.length (a.1.1.2.2.2),.slice (a.1.2.1.1) x.Out.length (a.1.2.1.2),.slice (a.2.1) x.Lefts.length (a.2.2.1),.slice (a.2.2.2.1) x.Rights.length (a.2.2.2.2.1),.slice (a.2.2.2.2.2.1) x.L.length (a.2.2.2.2.2.2.1),.slice (a.2.2.2.2.2.2.2.1) x.R.length (a.2.2.2.2.2.2.2.2),.int .i64 x.At,.slice (a.1.2.2.1) x.Has.length (a.1.2.2.2)] 139 (0,0)
 more a x:=[OwnSl eB 4 (a.2.1) (a.2.2.1) x.Lefts,OwnSl eB 4 (a.2.2.2.1) (a.2.2.2.2.1) x.Rights,OwnSl (JH B5) 54 (a.2.2.2.2.2.1) (a.2.2.2.2.2.2.1) x.L,OwnSl (JH B5) 54 (a.2.2.2.2.2.2.2.1) (a.2.2.2.2.2.2.2.2) x.R]
def AW:BoxTy B3 where
 A:=Option Addr×Nat
 fact I a x:=True
 mono:=fun _ _=>trivial
 obj a x:=.cells #[.int .i64 x.Many,.int .i64 x.Out,.int .i64 x.In,.slice (a.1) x.L.length (a.2)] 199 (0,0)
 more a x:=[OwnSl BI 196 (a.1) (a.2) x.L]
def AP:BoxTy AZ where
 A:=Option Addr×Nat×Nat×Nat
 fact I a x:=True
 mono:=fun _ _=>trivial
 obj a x:=.cells #[.int .i64 x.room,.slice (a.1) x.row.length (a.2.1),.map (some (a.2.2.1)),.map (some (a.2.2.2)),.int .i64 x.sent,.int .i64 x.taken] 213 (0,0)
 more a x:=[OwnSl BO 3 (a.1) (a.2.1) x.row,OwnMap (Value.int .i64) BI true (a.2.2.1) x.by_,OwnMap (Value.int .i64) BO false (a.2.2.2) x.often]
def MJ (a0:Int) (Q:Bool→Prop):Prop:=
 AD (decide (1≤a0)) (Q (decide (a0≤5))) (Q false)
def K7 (a0:AL) (a1:AL) (Q:AL→Prop):Prop:=
 AD (decide ((IntKind.wrap .u64 (a0.Lo+a1.Lo))<a0.Lo)) (Q ({ Hi:=A7 ((A7 (a0.Hi+a1.Hi))+1),Lo:=IntKind.wrap .u64 (a0.Lo+a1.Lo) }:AL)) (Q ({ Hi:=A7 (a0.Hi+a1.Hi),Lo:=IntKind.wrap .u64 (a0.Lo+a1.Lo) }:AL))
def GW (a0:AL) (a1:AL) (Q:Int→Prop):Prop:=
 EC (fun (h:Unit→Prop)=>AD (decide (a0.Hi<a1.Hi)) (Q (-1)) (AD (a0.Hi==a1.Hi) (AD (decide (a0.Lo<a1.Lo)) (Q (-1)) (h ())) (h ()))) fun _=>AD (a0==a1) (Q 0) (Q 1)
def JL (a0:Bool) (Q:AL→Prop):Prop:=
 AD a0 (Q ({ Hi:=0,Lo:=1 }:AL)) (Q DT)
def PN (a0:Int) (a1:AL) (a2:AL) (Q:AL→Prop):Prop:=
 EC (fun (h:Bool→Prop)=>AD (a0==1) (h (a0==1)) (AD (a0==3) (h (a0==3)) (h (a0==4)))) fun U=>AD U (GW a2 a1 fun D=>AD (decide (D<0)) (Q a2) (Q a1)) (AD (a0==2) (AD (!(a1==DT)) (JL true fun O=>Q O) (JL (!(a2==DT)) fun J=>Q J)) (AD (a0==5) (K7 a1 a2 fun G=>Q G) (Q DT)))
def GG (a0:Int) (Q:AL→Prop):Prop:=
 AD (decide (a0<0)) (Q ({ Hi:=(-1),Lo:=IntKind.wrap .u64 (a0) }:AL)) (Q ({ Hi:=0,Lo:=IntKind.wrap .u64 (a0) }:AL))
def MK (a0:AL) (Q:(Int×Bool)→Prop):Prop:=
 AD (a0.Hi==0) (AD (decide (0≤(A7 (a0.Lo)))) (Q (A7 (a0.Lo),true)) (AD (a0.Hi==(-1)) (AD (decide ((A7 (a0.Lo))<0)) (Q (A7 (a0.Lo),true)) (Q (0,false))) (Q (0,false)))) (AD (a0.Hi==(-1)) (AD (decide ((A7 (a0.Lo))<0)) (Q (A7 (a0.Lo),true)) (Q (0,false))) (Q (0,false)))
def OE (a0:DX) (a1:DX) (Q:Bool→Prop):Prop:=
 AD (decide (a0.From<a1.From)) (Q true) (AD (a0.From==a1.From) (Q (decide (a0.To<a1.To))) (Q false))
def O3 (a0:Int) (a1:List DX) (Q:((List DX)×Int)→Prop):Prop:=
 MJ a0 fun r12=>AD (!r12) (Q (([]:List DX),8)) (B1 (fun (s:(List DX)×(List AL)×Int) next2668=>match s with | (s2657,s2661,s2665)=>AD (decide (s2665<(a1.length:Int))) (EC (fun (J:Int→Prop)=>B1 (fun (D:Int) next2871=>AD (decide (D<(s2657.length:Int))) (AN s2657 D fun x2879=>AN a1 s2665 fun x2884=>OE x2879 x2884 fun r2892=>AD r2892 (next2871 (A7 (D+1))) (J D)) (J D)) 0) fun h=>AN a1 s2665 fun x2916=>GG x2916.W fun G=>EC (fun (U:Bool→Prop)=>AD (decide (h<(s2657.length:Int))) (AN a1 s2665 fun Z=>AN s2657 h fun x3071=>OE Z x3071 fun r3075=>U (!r3075)) (U false)) fun s3056=>AD s3056 (AN s2661 h fun x3087=>PN a0 x3087 G fun Y=>AN s2661 h fun x3096=>next2668 (s2657,(s2661.set h.toNat Y),A7 (s2665+1))) (ED 24 s2657 ([({ From:=0,To:=0,W:=0 }:DX)]) fun _=>ED 16 s2661 ([DT]) fun _=>B1 (fun (s:(List DX)×(List AL)×Int) next3290=>match s with | (s3281,s3285,s3289)=>AD (decide (h<s3289)) (AN s3281 (A7 (s3289 - 1)) fun x3299=>AN s3281 s3289 fun x3304=>AN s3285 (A7 (s3289 - 1)) fun x3307=>AN s3285 s3289 fun x3312=>next3290 ((s3281.set s3289.toNat x3299),(s3285.set s3289.toNat x3307),A7 (s3289 - 1))) (AN a1 s2665 fun x3317=>AN a1 s2665 fun V=>AN s3281 h fun x3335=>AN s3285 h fun x3340=>next2668 ((s3281.set h.toNat ({ From:=x3317.From,To:=V.To,W:=0 }:DX)),(s3285.set h.toNat G),A7 (s2665+1)))) ((s2657++([({ From:=0,To:=0,W:=0 }:DX)])),(s2661++([DT])),A7 (((s2657++([({ From:=0,To:=0,W:=0 }:DX)])).length:Int) - 1)))) (B1 (fun (s:(List DX)×Int) next3416=>match s with | (s3411,s3415)=>AD (decide (s3415<(s3411.length:Int))) (AN s2661 s3415 fun x3432=>MK x3432 fun O=>AD (!O.2) (Q (([]:List DX),12)) (AN s3411 s3415 fun x3443=>next3416 ((s3411.set s3415.toNat ({ x3443 with W:=O.1 }:DX)),A7 (s3415+1)))) (Q (s3411,0))) (s2657,0))) (([]:List DX),([]:List AL),0))
def HY (a0:Int) (a1:Int) (Q:Int→Prop):Prop:=
 AD (decide (a1<1)) (Q 0) (AD (decide (a0<0)) (Q 0) (nzP a1 <| Q (a0.tmod a1)))
def DF (a0:Int) (a1:Int) (Q:Rows→Prop):Prop:=
 mkP 8 (A7 (a0+1)) 0 fun _=>Q ({ Rows:=a0,Cols:=a1,Start:=(List.replicate (A7 (a0+1)).toNat 0),Col:=([]:List Int),Val:=([]:List Int) }:Rows)
def HS (a0:Int) (a1:Int) (a2:List A3) (Q:Rows→Prop):Prop:=
 DF a0 a1 fun h=>B1 (fun (s:(List Int)×(List Int)×(List Int)×Int) next396=>match s with | (s383,s387,s391,s395)=>AD (decide (s395<(a2.length:Int))) (AN a2 s395 fun D=>ED 8 s387 ([D.Col]) fun _=>AN a2 s395 fun G=>ED 8 s391 ([G.Val]) fun _=>AN a2 s395 fun O=>B1 (fun (s:(List Int)×Int) next532=>match s with | (s527,s531)=>AD (decide (s531≤a0)) (AN s527 s531 fun J=>AN s527 s531 fun U=>next532 ((s527.set s531.toNat (A7 (J+1))),A7 (s531+1))) (next396 (s527,(s387++([D.Col])),(s391++([G.Val])),A7 (s395+1)))) (s383,A7 (O.Row+1))) (Q ({ h with Start:=s383,Col:=s387,Val:=s391 }:Rows))) (h.Start,h.Col,h.Val,0)
def HC (a0:Int) (a1:Int) (a2:Int) (D:List A3) (Q:(Rows×Int)→Prop):Prop:=
 MJ a0 fun r15=>AD (!r15) (Q (B4,8)) (AD (decide (a1<0)) (Q (B4,3)) (AD (decide (4096<a1)) (Q (B4,3)) (AD (decide (a2<0)) (Q (B4,3)) (AD (decide (4096<a2)) (Q (B4,3)) (AD (decide (65536<(D.length:Int))) (Q (B4,5)) (B1 (fun (s:(List DX)×Int) next655=>match s with | (s649,s653)=>AD (decide (s653<(D.length:Int))) (AN D s653 fun x701=>AD (decide (x701.Row<0)) (Q (B4,3)) (AN D s653 fun x711=>AD (decide (a1≤x711.Row)) (Q (B4,3)) (AN D s653 fun x721=>AD (decide (x721.Col<0)) (Q (B4,3)) (AN D s653 fun x731=>AD (decide (a2≤x731.Col)) (Q (B4,3)) (AN D s653 fun Y=>AN D s653 fun G=>AN D s653 fun O=>ED 24 s649 ([({ From:=Y.Row,To:=G.Col,W:=O.Val }:DX)]) fun _=>next655 ((s649++([({ From:=Y.Row,To:=G.Col,W:=O.Val }:DX)])),A7 (s653+1))))))) (O3 a0 s649 fun h=>AD (h.2 != 0) (Q (B4,h.2)) (B1 (fun (s:(List A3)×Int) next871=>match s with | (s865,s869)=>AD (decide (s869<(h.1.length:Int))) (AN h.1 s869 fun V=>AN h.1 s869 fun U=>AN h.1 s869 fun J=>ED 24 s865 ([({ Row:=V.From,Col:=U.To,Val:=J.W }:A3)]) fun _=>next871 ((s865++([({ Row:=V.From,Col:=U.To,Val:=J.W }:A3)])),A7 (s869+1))) (HS a1 a2 s865 fun Z=>Q (Z,0))) (([]:List A3),0)))) (([]:List DX),0)))))))
def IL (a0:Int) (a1:Int) (Q:Bool→Prop):Prop:=
 AD (decide (1≤a0)) (Q (decide (a0≤a1))) (Q false)
def P7 (a0:Int) (Q:Bool→Prop):Prop:=
 AD (decide (0<a0)) (Q (decide (a0<6))) (Q false)
def G0 (a0:Int) (a1:Int) (Q:Bool→Prop):Prop:=
 AD (decide (0≤a0)) (Q (decide (a0≤a1))) (Q false)
def GX (a0:Int) (Q:Bool→Prop):Prop:=
 Q (a0 != a0)
def P8 (a0:Int) (a1:Int) (Q:Bool→Prop):Prop:=
 GX a0 fun D=>AD D (GX a1 fun h=>AD (!h) (Q true) (Q (decide (a0<a1)))) (Q (decide (a0<a1)))
def F7 (a0:List Int) (Q:Bool→Prop):Prop:=
 B1 (fun (h:Int) next58=>AD (decide (0<h)) (AN a0 h fun J=>AN a0 (A7 (h - 1)) fun G=>P8 J G fun D=>AD D (Q false) (next58 (A7 (h - 1)))) (Q true)) (A7 ((a0.length:Int) - 1))
def dU (a0:List Int) (a1:Int) (Q:Bool→Prop):Prop:=
 B1 (fun (h:Int) next69=>AD (decide (h<(a0.length:Int))) (AN a0 h fun D=>G0 D (A7 (a1 - 1)) fun J=>AD (!J) (Q false) (AD (decide (0<h)) (AN a0 (A7 (h - 1)) fun G=>AD (decide (D≤G)) (Q false) (next69 (A7 (h+1)))) (next69 (A7 (h+1))))) (Q true)) 0
def HD (a0:Rows) (Q:Bool→Prop):Prop:=
 G0 a0.Rows 4096 fun V=>AD (!V) (Q false) (G0 a0.Cols 4096 fun W=>AD (!W) (Q false) (AD ((a0.Start.length:Int) != (A7 (a0.Rows+1))) (Q false) (AD ((a0.Val.length:Int) != (a0.Col.length:Int)) (Q false) (AD (decide (65536<(a0.Col.length:Int))) (Q false) (AN a0.Start 0 fun U=>AD (U != 0) (Q false) (AN a0.Start a0.Rows fun Y=>AD (Y != (a0.Col.length:Int)) (Q false) (F7 a0.Start fun O=>AD (!O) (Q false) (B1 (fun (h:Int) next157=>AD (decide (h<a0.Rows)) (AN a0.Start h fun D=>AN a0.Start (A7 (h+1)) fun G=>uN a0.Col D G fun _=>dU ((a0.Col.take G.toNat).drop D.toNat) a0.Cols fun J=>AD (!J) (Q false) (next157 (A7 (h+1)))) (Q true)) 0))))))))
def HT (a0:CH) (Q:Int→Prop):Prop:=
 P7 a0.Ring fun J=>AD (!J) (Q 8) (EC (fun (h:Bool→Prop)=>HD a0.A fun G=>AD (!G) (h true) (HD a0.B fun Z=>AD (!Z) (h true) (HD a0.Mask fun V=>h (!V)))) fun O=>AD O (Q 7) (EC (fun (D:Bool→Prop)=>AD (a0.A.Cols != a0.B.Rows) (D (a0.A.Cols != a0.B.Rows)) (AD (a0.Mask.Rows != a0.A.Rows) (D (a0.Mask.Rows != a0.A.Rows)) (D (a0.Mask.Cols != a0.B.Cols)))) fun U=>AD U (Q 4) (IL a0.R 8 fun W=>AD (!W) (Q 3) (IL a0.C 8 fun r84=>AD (!r84) (Q 3) (IL a0.Room 64 fun Y=>AD (!Y) (Q 3) (Q 0))))))
def NI (a0:Int) (Q:Bool→Prop):Prop:=
 AD (decide (0<a0)) (Q (decide (a0≤8))) (Q false)
def Q6 (a0:Int) (a1:Int) (Q:Bool→Prop):Prop:=
 AD (decide (0≤a0)) (AD (decide (a0≤4096)) (NI a1 fun h=>Q h) (Q false)) (Q false)
def FL (a0:Int) (a1:Int) (a2:Int) (Q:Int→Prop):Prop:=
 Q6 a0 a1 fun h=>AD (!h) (Q 0) (nzP a1 <| Q (A7 ((A7 ((if a1<(if 0 > a2 then 0 else a2) then a1 else (if 0 > a2 then 0 else a2))*a0)).tdiv a1)))
def Z8 (a0:Int) (a1:Int) (a2:Int) (Q:Int→Prop):Prop:=
 Q6 a0 a1 fun G=>AD (!G) (Q (-1)) (AD (decide (a2<0)) (Q (-1)) (AD (decide (a0≤a2)) (Q (-1)) (nzP a0 <| B1 (fun (h:Int) next31=>FL a0 a1 (A7 (h+1)) fun D=>AD (decide (D≤a2)) (next31 (A7 (h+1))) (Q h)) (A7 ((A7 (a2*a1)).tdiv a0)))))
def S4 (a0:Int) (a1:Int) (a2:Int) (Q:(Int×Int×Int)→Prop):Prop:=
 Q (a1,a0,a2)
def OV (o0:Nat) (o1:Int) (o2:Int) (o3:Int) (o4:List AX) (o5:Int) (o6:Int) (o7:Int) (o8:Int) (Y:Nat→Int→Int→Int→(List AX)→Int→Int→((Bool×Nat×(List AX)×Int)→Prop)→Prop) (Q:(Nat×(List AX)×Int)→Prop):Prop:=
 B1 (fun (s:(List Int)×Int) next145=>match s with | (s139,s143)=>AD (decide (s143<o6)) (FL o7 o6 (A7 (s143+1)) fun G=>ED 8 s139 ([G]) fun _=>next145 ((s139++([G])),A7 (s143+1))) (B1 (fun (s:(List Int)×Int) next264=>match s with | (s259,s263)=>AD (decide (s263<o8)) (FL o7 o8 (A7 (s263+1)) fun J=>ED 8 s259 ([J]) fun _=>next264 ((s259++([J])),A7 (s263+1))) (xD s259 fun O=>B1 (fun (s:(List AX)×Int×Int×Int×Nat) next396=>match s with | (s388,s392,s393,s394,s395)=>AD (decide (s394<(O.length:Int))) (AN O s394 fun D=>AD (decide (s393<D)) (Y s395 o1 o2 o3 s388 s392 D fun h=>AD (!h.1) (Q (h.2.1,h.2.2.1,h.2.2.2)) (next396 (h.2.2.1,h.2.2.2,D,A7 (s394+1),h.2.1))) (next396 (s388,s392,D,A7 (s394+1),s395))) (Q (s395,s388,s392))) (o4,o5,0,0,o0))) (s139,0))) (([]:List Int),0)
def KS (a0:Int) (a1:Int) (a2:Int) (Q:(List AX)→Prop):Prop:=
 Q6 a0 a1 fun r26=>AD (!r26) (Q ([]:List AX)) (Q6 a0 a2 fun r31=>AD (!r31) (Q ([]:List AX)) (S4 a0 a1 a2 fun W=>OV 0 a0 a1 a2 ([]:List AX) 0 W.1 W.2.1 W.2.2 (fun (y132:Nat) (V:Int) (Y:Int) (Z:Int) (O:List AX) (h:Int) (D:Int) (Qy:(Bool×Nat×(List AX)×Int)→Prop)=>eqP y132 0 (Z8 V Y h fun J=>Z8 V Z h fun U=>ED 32 O ([({ From:=h,To:=D,Row:=J,Col:=U }:AX)]) fun _=>Qy (true,0,(O++([({ From:=h,To:=D,Row:=J,Col:=U }:AX)])),D))) fun G=>eqP G.1 0 (Q G.2.1)))
def SP (a0:Int) (a1:Int) (Q:Int→Prop):Prop:=
 NI a0 fun h=>AD (!h) (Q (-1)) (AD (decide (a1<0)) (Q (-1)) (AD (decide ((A7 (a0*8))≤a1)) (Q (-1)) (nzP a0 <| Q (A7 (a1.tdiv a0)))))
def UV (a0:Int) (a1:Int) (Q:Int→Prop):Prop:=
 SP a0 a1 fun h=>AD (decide (h<0)) (Q (-1)) (nzP a0 <| Q (a1.tmod a0))
def Q7 (a0:Int) (Q:Bool→Prop):Prop:=
 AD (decide (1≤a0)) (Q (decide (a0≤8))) (Q false)
def TC (a0:Int) (a1:Int) (a2:Int) (h:Int) (Q:Bool→Prop):Prop:=
 Q7 a0 fun G=>AD G (Q7 a1 fun D=>AD D (AD (decide (0≤a2)) (AD (decide (a2<a0)) (AD (decide (0≤h)) (Q (decide (h<a1))) (Q false)) (Q false)) (Q false)) (Q false)) (Q false)
def SQ (a0:Int) (a1:Int) (Q:Rows→Prop):Prop:=
 mkP 8 (A7 (a0+1)) 0 fun _=>Q ({ Rows:=a0,Cols:=a1,Start:=(List.replicate (A7 (a0+1)).toNat 0),Col:=([]:List Int),Val:=([]:List Int) }:Rows)
def PO (a0:Int) (a1:Int) (a2:List A3) (Q:Rows→Prop):Prop:=
 SQ a0 a1 fun D=>B1 (fun (s:(List Int)×(List Int)×(List Int)×Int) next420=>match s with | (s407,s411,s415,s419)=>AD (decide (s419<(a2.length:Int))) (AN a2 s419 fun h=>AN s407 (A7 (h.Row+1)) fun J=>AN s407 (A7 (h.Row+1)) fun V=>ED 8 s411 ([h.Col]) fun _=>ED 8 s415 ([h.Val]) fun _=>next420 ((s407.set ((A7 (h.Row+1)).toNat) (A7 (J+1))),(s411++([h.Col])),(s415++([h.Val])),A7 (s419+1))) (B1 (fun (s:(List Int)×Int) next528=>match s with | (s523,s527)=>AD (decide (s527<a0)) (AN s523 (A7 (s527+1)) fun G=>AN s523 s527 fun O=>AN s523 (A7 (s527+1)) fun U=>next528 ((s523.set ((A7 (s527+1)).toNat) (A7 (G+O))),A7 (s527+1))) (Q ({ D with Start:=s523,Col:=s411,Val:=s415 }:Rows))) (s407,0))) (D.Start,D.Col,D.Val,0)
def SR (a0:Rows) (Q:Rows→Prop):Prop:=
 HD a0 fun D=>AD D (Q a0) (SQ 0 0 fun h=>Q h)
def Q8 (a0:Int×Int) (a1:Int) (Q:(Int×Int)→Prop):Prop:=
 AD (decide ((if a1<a0.2 then a1 else a0.2)≤(if 0 > a0.1 then 0 else a0.1))) (Q ((if 0 > a0.1 then 0 else a0.1),0)) (Q ((if 0 > a0.1 then 0 else a0.1),A7 ((if a1<a0.2 then a1 else a0.2) - (if 0 > a0.1 then 0 else a0.1))))
def UW (a0:Rows) (a1:Int) (Q:((List Int)×(List Int))→Prop):Prop:=
 AN a0.Start a1 fun D=>AN a0.Start (A7 (a1+1)) fun h=>uN a0.Col D h fun _=>uN a0.Val D h fun _=>Q (((a0.Col.take h.toNat).drop D.toNat),((a0.Val.take h.toNat).drop D.toNat))
def dV (a0:Rows) (a1:Int) (Q:(List CN)→Prop):Prop:=
 SR a0 fun J=>G0 a1 (A7 (J.Rows - 1)) fun O=>AD (!O) (Q ([]:List CN)) (UW J a1 fun G=>B1 (fun (s:(List CN)×Int) next140=>match s with | (s134,s138)=>AD (decide (s138<(G.1.length:Int))) (AN G.1 s138 fun D=>AN G.2 s138 fun h=>ED 16 s134 ([({ At:=D,Val:=h }:CN)]) fun _=>next140 ((s134++([({ At:=D,Val:=h }:CN)])),A7 (s138+1))) (Q s134)) (([]:List CN),0))
def LD (a0:Rows) (a1:Int×Int) (a2:Int×Int) (Q:Rows→Prop):Prop:=
 SR a0 fun O=>Q8 a1 O.Rows fun U=>Q8 a2 O.Cols fun D=>B1 (fun (s:(List A3)×Int) next418=>match s with | (s412,s416)=>AD (decide (s416<U.2)) (dV O (A7 (U.1+s416)) fun J=>B1 (fun (s:(List A3)×Int) next548=>match s with | (s543,s547)=>AD (decide (s547<(J.length:Int))) (AN J s547 fun h=>EC (fun (G:Bool→Prop)=>AD (decide (D.1≤h.At)) (G (decide ((A7 (h.At - D.1))<D.2))) (G false)) fun V=>AD V (ED 24 s543 ([({ Row:=s416,Col:=A7 (h.At - D.1),Val:=h.Val }:A3)]) fun _=>next548 ((s543++([({ Row:=s416,Col:=A7 (h.At - D.1),Val:=h.Val }:A3)])),A7 (s547+1))) (next548 (s543,A7 (s547+1)))) (next418 (s543,A7 (s416+1)))) (s412,0)) (PO U.2 D.2 s412 fun W=>Q W)) (([]:List A3),0)
def ML (a0:Int) (a1:Int) (a2:Int) (Q:(Int×Int)→Prop):Prop:=
 FL a0 a1 a2 fun D=>FL a0 a1 (A7 (a2+1)) fun h=>Q (D,h)
def PP (a0:Rows) (a1:Int) (a2:Int) (Y:Int) (W:Int) (Q:Rows→Prop):Prop:=
 HD a0 fun V=>AD (!V) (LD B4 (0,0) (0,0) fun h=>Q h) (TC a1 a2 Y W fun J=>AD (!J) (LD B4 (0,0) (0,0) fun U=>Q U) (ML a0.Rows a1 Y fun O=>ML a0.Cols a2 W fun D=>LD a0 O D fun G=>Q G))
def M0 (a0:Rows) (Q:(List A3)→Prop):Prop:=
 SR a0 fun J=>B1 (fun (s:(List A3)×Int) next371=>match s with | (s365,s369)=>AD (decide (s369<J.Rows)) (UW J s369 fun h=>B1 (fun (s:(List A3)×Int) next497=>match s with | (s492,s496)=>AD (decide (s496<(h.1.length:Int))) (AN h.1 s496 fun G=>AN h.2 s496 fun D=>ED 24 s492 ([({ Row:=s369,Col:=G,Val:=D }:A3)]) fun _=>next497 ((s492++([({ Row:=s369,Col:=G,Val:=D }:A3)])),A7 (s496+1))) (next371 (s492,A7 (s369+1)))) (s365,0)) (Q s365)) (([]:List A3),0)
def HZ (a0:Int) (a1:Int) (a2:Int) (Q:(Int×Int)→Prop):Prop:=
 FL a0 a1 a2 fun D=>FL a0 a1 (A7 (a2+1)) fun h=>Q (D,h)
def M1 (a0:Int) (a1:Int) (Q:Bool→Prop):Prop:=
 AD (decide (0≤a0)) (Q (decide (a0≤a1))) (Q false)
def Q9 (a0:FP) (Q:Bool→Prop):Prop:=
 M1 a0.A 63 fun G=>AD (!G) (Q false) (M1 a0.B 63 fun h=>AD (!h) (Q false) (M1 a0.K 63 fun D=>AD (!D) (Q false) (AD (decide (0<a0.Kind)) (Q (decide (a0.Kind≤5))) (Q false))))
def EP (a0:List CN) (Q:(List CN)→Prop):Prop:=
 AaK a0 (Q ([]:List CN)) (ED 16 ([]:List CN) a0 fun _=>Q (([]:List CN)++a0))
def FI (a0:List P6) (Q:(List P6)→Prop):Prop:=
 AaK a0 (Q ([]:List P6)) (ED 24 ([]:List P6) a0 fun _=>Q (([]:List P6)++a0))
def E3 (a0:List A3) (Q:(List A3)→Prop):Prop:=
 AaK a0 (Q ([]:List A3)) (ED 24 ([]:List A3) a0 fun _=>Q (([]:List A3)++a0))
def UX (a0:AO) (Q:AO→Prop):Prop:=
 EP a0.Vec.Items fun G=>FI a0.Sums fun D=>E3 a0.Triples fun h=>Q ({ a0 with Vec:=({ N:=a0.Vec.N,Items:=G }:Vec),Sums:=D,Triples:=h }:AO)
def MM (a0:Int) (Q:AL→Prop):Prop:=
 Q ({ Hi:=shr .i64 a0 63,Lo:=IntKind.wrap .u64 (a0) }:AL)
def JM (a0:List Int) (Q:Int→Prop):Prop:=
 B1 (fun (h:Int) next32=>AD (decide (h<(a0.length:Int))) (AN a0 h fun D=>AD (D != 0) (Q D) (next32 (A7 (h+1)))) (Q 0)) 0
def LF (a0:Int) (Q:Bool→Prop):Prop:=
 Q (a0 != a0)
def IZ (a0:Int) (a1:Int) (Q:Int→Prop):Prop:=
 LF a0 fun D=>LF a1 fun h=>AD D (AD h (Q 0) (Q (-1))) (AD h (Q 1) (AD (decide (a0<a1)) (Q (-1)) (AD (decide (a1<a0)) (Q 1) (Q 0))))
def K8 (a0:Int) (Q:Bool→Prop):Prop:=
 Q (a0 != a0)
def I3 (a0:Int) (a1:Int) (Q:Int→Prop):Prop:=
 K8 a0 fun D=>K8 a1 fun h=>AD D (AD h (Q 0) (Q (-1))) (AD h (Q 1) (AD (decide (a0<a1)) (Q (-1)) (AD (decide (a1<a0)) (Q 1) (Q 0))))
def P9 (a0:AL) (a1:AL) (Q:Int→Prop):Prop:=
 IZ a0.Hi a1.Hi fun G=>I3 a0.Lo a1.Lo fun h=>JM ([G,h]:List Int) fun D=>Q D
def OG (a0:AL) (a1:AL) (Q:AL→Prop):Prop:=
 P9 a0 a1 fun h=>AD (decide (h≤0)) (Q a0) (Q a1)
def LU (a0:Bool) (Q:AL→Prop):Prop:=
 AD a0 (MM 1 fun h=>Q h) (Q DT)
def QA (a0:Bool) (Q:Int→Prop):Prop:=
 AD a0 (Q 1) (Q 0)
def UY (a0:AL) (a1:AL) (Q:AL→Prop):Prop:=
 QA (decide ((IntKind.wrap .u64 (a0.Lo+a1.Lo))<a1.Lo)) fun h=>Q ({ Hi:=A7 (IntKind.wrap .u64 ((IntKind.wrap .u64 ((IntKind.wrap .u64 (a0.Hi))+(IntKind.wrap .u64 (a1.Hi))))+h)),Lo:=IntKind.wrap .u64 (a0.Lo+a1.Lo) }:AL)
def SS (a0:Int) (a1:AL) (a2:AL) (Q:AL→Prop):Prop:=
 EC (fun (h:Bool→Prop)=>AD (a0==1) (h (a0==1)) (AD (a0==3) (h (a0==3)) (h (a0==4)))) fun U=>AD U (OG a1 a2 fun D=>Q D) (AD (a0==2) (AD (!(a1==a2)) (LU true fun O=>Q O) (LU (!(a1==DT)) fun G=>Q G)) (AD (a0==5) (UY a1 a2 fun J=>Q J) (Q DT)))
def UZ (a0:AL) (Q:(Int×Bool)→Prop):Prop:=
 MM (A7 (a0.Lo)) fun h=>AD (!(h==a0)) (Q (0,false)) (Q (A7 (a0.Lo),true))
def M2 (a0:Int) (a1:AL) (Q:(Int×Bool)→Prop):Prop:=
 UZ a1 fun h=>Q (h.1,h.2)
def D0 (a0:Int) (a1:Int) (Q:Int→Prop):Prop:=
 GX a0 fun D=>GX a1 fun h=>AD D (AD h (Q 0) (Q (-1))) (AD h (Q 1) (AD (decide (a0<a1)) (Q (-1)) (AD (decide (a1<a0)) (Q 1) (Q 0))))
def WH (a0:A3) (a1:A3) (Q:Int→Prop):Prop:=
 D0 a0.Row a1.Row fun G=>D0 a0.Col a1.Col fun h=>JM ([G,h]:List Int) fun D=>Q D
def QB (a0:Int) (a1:List A3) (Q:((List A3)×Int)→Prop):Prop:=
 B1 (fun (s:(List ((Int×Int)×AL))×Int) next295=>match s with | (s293,s294)=>AD (decide (s294<(a1.length:Int))) (AN a1 s294 fun h=>MM h.Val fun J=>kL s293 (h.Row,h.Col) DT fun V Y=>AD Y (SS a0 V J fun W=>next295 ((FF (h.Row,h.Col) W s293),A7 (s294+1))) (next295 ((FF (h.Row,h.Col) J s293),A7 (s294+1)))) (B1 (fun (s:(List A3)×(List ((Int×Int)×AL))) next463=>match s with | (s457,s461)=>sR s461 (sS WH s457 fun U=>Q (U,0)) (fun D O=>M2 a0 D.2 fun G=>AD (!G.2) (Q (([]:List A3),12)) (ED 24 s457 ([({ Row:=D.1.1,Col:=D.1.2,Val:=G.1 }:A3)]) fun _=>next463 ((s457++([({ Row:=D.1.1,Col:=D.1.2,Val:=G.1 }:A3)])),O)))) (([]:List A3),s293))) (([]:List ((Int×Int)×AL)),0)
def TD (o0:Int) (o1:Int) (a0:A3) (Q:Bool→Prop):Prop:=
 G0 a0.Row (A7 (o0 - 1)) fun D=>AD (!D) (Q true) (G0 a0.Col (A7 (o1 - 1)) fun h=>Q (!h))
def CV (o0:Int) (o1:Int) (a0:List A3) (Q:Int→Prop):Prop:=
 B1 (fun (h:Int) next50=>AD (decide (h<(a0.length:Int))) (AN a0 h fun D=>TD o0 o1 D fun G=>AD G (Q h) (next50 (A7 (h+1)))) (Q (-1))) 0
def CP (o0:Int) (o1:Int) (a0:List A3) (Q:Bool→Prop):Prop:=
 CV o0 o1 a0 fun h=>Q (decide (0≤h))
def QC (a0:Int) (a1:Int) (a2:Int) (U:List A3) (Q:(Rows×Int)→Prop):Prop:=
 P7 a0 fun W=>AD (!W) (Q (B4,8)) (EC (fun (G:Bool→Prop)=>G0 a1 4096 fun Y=>AD (!Y) (G true) (G0 a2 4096 fun O=>G (!O))) fun V=>AD V (Q (B4,3)) (AD (decide (65536<(U.length:Int))) (Q (B4,5)) (CP a1 a2 U fun D=>AD D (Q (B4,3)) (QB a0 U fun h=>AD (h.2 != 0) (Q (B4,h.2)) (PO a1 a2 h.1 fun J=>Q (J,0))))))
def WI (a0:List Rows) (Q:(List Rows)→Prop):Prop:=
 B1 (fun (s:(List Rows)×Int) next138=>match s with | (s132,s136)=>AD (decide (s136<(a0.length:Int))) (AN a0 s136 fun h=>HD h fun G=>AD (!G) (LD h (0,0) (0,0) fun D=>ED 88 s132 ([D]) fun _=>next138 ((s132++([D])),A7 (s136+1))) (ED 88 s132 ([h]) fun _=>next138 ((s132++([h])),A7 (s136+1)))) (Q s132)) (([]:List Rows),0)
def PQ (a0:Rows) (a1:Int) (Q:((List Int)×(List Int))→Prop):Prop:=
 AN a0.Start a1 fun D=>AN a0.Start (A7 (a1+1)) fun h=>uN a0.Col D h fun _=>uN a0.Val D h fun _=>Q (((a0.Col.take h.toNat).drop D.toNat),((a0.Val.take h.toNat).drop D.toNat))
def GH (a0:Int) (Q:(Int×Int)→Prop):Prop:=
 Q (shr .u64 (shl .u64 a0 32) 32,shr .u64 a0 32)
def PA (a0:Int) (a1:Int) (Q:AL→Prop):Prop:=
 GH a0 fun D=>GH a1 fun h=>GH (IntKind.wrap .u64 (D.1*h.1)) fun O=>GH (IntKind.wrap .u64 ((IntKind.wrap .u64 (D.2*h.1))+O.2)) fun J=>GH (IntKind.wrap .u64 ((IntKind.wrap .u64 (D.1*h.2))+J.1)) fun G=>GH (IntKind.wrap .u64 (D.1*h.1)) fun U=>Q ({ Hi:=A7 (IntKind.wrap .u64 ((IntKind.wrap .u64 ((IntKind.wrap .u64 (D.2*h.2))+J.2))+G.2)),Lo:=bor .u64 (shl .u64 G.1 32) U.1 }:AL)
def ST (a0:Int) (Q:Int→Prop):Prop:=
 AD (decide (a0<0)) (Q (IntKind.wrap .u64 (0 - (IntKind.wrap .u64 (a0))))) (Q (IntKind.wrap .u64 (a0)))
def Z9 (a0:AL) (a1:AL) (Q:AL→Prop):Prop:=
 QA (decide (a0.Lo<a1.Lo)) fun h=>Q ({ Hi:=A7 (IntKind.wrap .u64 ((IntKind.wrap .u64 ((IntKind.wrap .u64 (a0.Hi)) - (IntKind.wrap .u64 (a1.Hi)))) - h)),Lo:=IntKind.wrap .u64 (a0.Lo - a1.Lo) }:AL)
def ZA (a0:Int) (a1:Int) (Q:AL→Prop):Prop:=
 ST a0 fun G=>ST a1 fun J=>PA G J fun h=>AD (!((decide (a0<0))==(decide (a1<0)))) (Z9 DT h fun D=>Q D) (Q h)
def ZB (a0:Int) (a1:Int) (a2:Int) (Q:AL→Prop):Prop:=
 AD (a0==2) (AD (a1 != 0) (LU (a2 != 0) fun r22=>Q r22) (LU false fun r26=>Q r26)) (AD (a0==5) (ZA a1 a2 fun Y=>Q Y) (EC (fun (U:Unit→Prop)=>P7 a0 fun W=>AD W (AD (decide (4611686018427387904≤(if a2 > a1 then a2 else a1))) (MM 4611686018427387904 fun r62=>Q r62) (U ())) (U ())) fun _=>EC (fun (O:(Int×Int)→Prop)=>AD (a0==1) (MM a1 fun G=>O (G.Hi,G.Lo)) (AD (a0==4) (O (0,0)) (AD (a0==3) (MM a1 fun r99=>Q r99) (Q DT)))) fun (Z,s89)=>MM 4611686018427387904 fun V=>MM a2 fun J=>UY ({ Hi:=Z,Lo:=s89 }:AL) J fun h=>OG V h fun D=>Q D))
def PB (o0:List (Int×Bool)) (a0:Int) (a1:Rows) (a2:Rows) (a3:Int) (Q:(List (Int×AL))→Prop):Prop:=
 PQ a1 a3 fun O=>B1 (fun (s:(List (Int×AL))×Int) next745=>match s with | (s743,s744)=>AD (decide (s744<(O.1.length:Int))) (AN O.1 s744 fun x761=>PQ a2 x761 fun G=>B1 (fun (s:(List (Int×AL))×Int) next997=>match s with | (s995,s996)=>AD (decide (s996<(G.1.length:Int))) (AN G.1 s996 fun h=>wN o0 h false fun J=>AD (!J) (next997 (s995,A7 (s996+1))) (AN O.2 s744 fun Y=>AN G.2 s996 fun W=>ZB a0 Y W fun D=>kL s995 h DT fun U V=>AD V (SS a0 U D fun Z=>next997 ((FF h Z s995),A7 (s996+1))) (next997 ((FF h D s995),A7 (s996+1))))) (next745 (s995,A7 (s744+1)))) (s743,0)) (Q s743)) (([]:List (Int×AL)),0)
def QD (a0:Int) (a1:Rows) (a2:Rows) (a3:Rows) (Q:((List AB)×Int)→Prop):Prop:=
 WI ([a1,a2,a3]:List Rows) fun W=>AN W 0 fun V=>AN W 1 fun O=>AN W 2 fun G=>P7 a0 fun Y=>AD (!Y) (Q (([]:List AB),8)) (AD (V.Cols != O.Rows) (Q (([]:List AB),4)) (AD (G.Rows != V.Rows) (Q (([]:List AB),4)) (AD (G.Cols != O.Cols) (Q (([]:List AB),4)) (B1 (fun (s:(List AB)×Int) next777=>match s with | (s771,s775)=>AD (decide (s775<G.Rows)) (PQ G s775 fun D=>B1 (fun (s:(List (Int×Bool))×Int) next893=>match s with | (s891,s892)=>AD (decide (s892<(D.1.length:Int))) (AN D.1 s892 fun Z=>next893 ((FF Z true s891),A7 (s892+1))) (PB s891 a0 V O s775 fun r927=>B1 (fun (s:(List AB)×Int) next1039=>match s with | (s1034,s1038)=>AD (decide (s1038<(D.1.length:Int))) (AN D.1 s1038 fun h=>kL r927 h DT fun J U=>AD U (ED 32 s1034 ([({ Row:=s775,Col:=h,Val:=J }:AB)]) fun _=>next1039 ((s1034++([({ Row:=s775,Col:=h,Val:=J }:AB)])),A7 (s1038+1))) (next1039 (s1034,A7 (s1038+1)))) (next777 (s1034,A7 (s775+1)))) (s771,0))) (([]:List (Int×Bool)),0)) (Q (s771,0))) (([]:List AB),0)))))
def QE (a0:AB) (a1:AB) (Q:Int→Prop):Prop:=
 D0 a0.Row a1.Row fun G=>D0 a0.Col a1.Col fun h=>JM ([G,h]:List Int) fun D=>Q D
def JO (a0:List AB) (Q:Bool→Prop):Prop:=
 B1 (fun (h:Int) next36=>AD (decide (h<(a0.length:Int))) (AD (decide (0<h)) (AN a0 (A7 (h - 1)) fun G=>AN a0 h fun J=>QE G J fun D=>AD (decide (0≤D)) (Q false) (next36 (A7 (h+1)))) (next36 (A7 (h+1)))) (Q true)) 0
def F2 (a1:Int) (Q:(List AB)→Prop):Prop:=
 AD (decide (a1<0)) (False) (AD (decide (0<(A7 (a1 - (A7 (0 - 0)))))) (grP 32 (A7 (a1 - (A7 (0 - 0)))) <| Q ([]:List AB)) (Q ([]:List AB)))
def DD (a0:List (List AB)) (Q:(List AB)→Prop):Prop:=
 B1 (fun (s:Int×Int) next161=>match s with | (s159,s160)=>AD (decide (s160<(a0.length:Int))) (AN a0 s160 fun D=>AD (decide ((A7 (s159+(D.length:Int)))<0)) (False) (next161 (A7 (s159+(D.length:Int)),A7 (s160+1)))) (F2 s159 fun G=>B1 (fun (s:(List AB)×Int) next271=>match s with | (s266,s270)=>AD (decide (s270<(a0.length:Int))) (AN a0 s270 fun h=>ED 32 s266 h fun _=>next271 ((s266++h),A7 (s270+1))) (Q s266)) (G,0))) (0,0)
def NJ (a0:List AB) (Q:Bool→Prop):Prop:=
 JO a0 fun h=>Q (!h)
def DG (a0:List (List AB)) (Q:Int→Prop):Prop:=
 B1 (fun (h:Int) next52=>AD (decide (h<(a0.length:Int))) (AN a0 h fun G=>NJ G fun D=>AD D (Q h) (next52 (A7 (h+1)))) (Q (-1))) 0
def D1 (a0:List (List AB)) (Q:Bool→Prop):Prop:=
 DG a0 fun h=>Q (decide (0≤h))
def EF (a0:AB) (a1:AB) (Q:Int→Prop):Prop:=
 D0 a0.Row a1.Row fun G=>D0 a0.Col a1.Col fun h=>JM ([G,h]:List Int) fun D=>Q D
def BR (o0:List AB) (a0:Int) (a1:Int) (Q:(List AB)→Prop):Prop:=
 B1 (fun (s:(List AB)×Int) next332=>match s with | (s330,s331)=>AD (decide (s331<a1)) (B1 (fun (s:(List AB)×Int) next446=>match s with | (s444,s445)=>AD (decide (a0<s445)) (AN s444 s445 fun G=>AN s444 (A7 (s445 - 1)) fun O=>EF G O fun J=>AD (decide (J<0)) (AN s444 (A7 (s445 - 1)) fun h=>AN s444 s445 fun D=>AN s444 s445 fun V=>AN (s444.set s445.toNat h) (A7 (s445 - 1)) fun U=>next446 (((s444.set s445.toNat h).set ((A7 (s445 - 1)).toNat) D),A7 (s445 - 1))) (next332 (s444,A7 (s331+1)))) (next332 (s444,A7 (s331+1)))) (s330,s331)) (Q s330)) (o0,A7 (a0+1))
def BQ (o0:List AB) (a0:Int) (a1:Int) (a2:Int) (Q:(List AB)→Prop):Prop:=
 B1 (fun (s:(List AB)×Int) next46=>match s with | (s44,s45)=>AD (decide (s45<a2)) (AN s44 (A7 (a1+s45)) fun h=>AN s44 (A7 (a0+s45)) fun D=>AN s44 (A7 (a0+s45)) fun J=>AN (s44.set ((A7 (a0+s45)).toNat) h) (A7 (a1+s45)) fun G=>next46 (((s44.set ((A7 (a0+s45)).toNat) h).set ((A7 (a1+s45)).toNat) D),A7 (s45+1))) (Q s44)) (o0,0)
def D3 (o0:List AB) (a0:Int) (a1:Int) (a2:Int) (Q:(List AB)→Prop):Prop:=
 B1 (fun (s:(List AB)×Int×Int) next66=>match s with | (s63,s64,s65)=>AD (s64 != s65) (AD (decide (s65<s64)) (BQ s63 (A7 (a1 - s64)) a1 s65 fun D=>next66 (D,A7 (s64 - s65),s65)) (BQ s63 (A7 (a1 - s64)) (A7 ((A7 (a1+s65)) - s64)) s64 fun G=>next66 (G,s64,A7 (s65 - s64)))) (BQ s63 (A7 (a1 - s64)) a1 s64 fun h=>Q h)) (o0,A7 (a1 - a0),A7 (a2 - a1))
def B8 (rc:(List AB)→Int→Int→Int→((List AB)→Prop)→Prop) (o0:List AB) (a0:Int) (a1:Int) (a2:Int) (Q:(List AB)→Prop):Prop:=
 AD ((A7 (a1 - a0))==1) (B1 (fun (s:Int×Int) next323=>match s with | (s321,s322)=>AD (decide (s321<s322)) (AN o0 (A7 (shr .u64 (IntKind.wrap .u64 (A7 (s321+s322))) 1)) fun x330=>AN o0 a0 fun x335=>EF x330 x335 fun r343=>AD (decide (r343<0)) (next323 (A7 ((A7 (shr .u64 (IntKind.wrap .u64 (A7 (s321+s322))) 1))+1),s322)) (next323 (s321,A7 (shr .u64 (IntKind.wrap .u64 (A7 (s321+s322))) 1)))) (B1 (fun (s:(List AB)×Int) next388=>match s with | (s386,s387)=>AD (decide (s387<(A7 (s321 - 1)))) (AN s386 (A7 (s387+1)) fun V=>AN s386 s387 fun x402=>AN s386 s387 fun x405=>AN (s386.set s387.toNat V) (A7 (s387+1)) fun x408=>next388 (((s386.set s387.toNat V).set ((A7 (s387+1)).toNat) x402),A7 (s387+1))) (Q s386)) (o0,a0))) (a1,a2)) (AD ((A7 (a2 - a1))==1) (B1 (fun (s:Int×Int) next729=>match s with | (s727,s728)=>AD (decide (s727<s728)) (AN o0 a1 fun x736=>AN o0 (A7 (shr .u64 (IntKind.wrap .u64 (A7 (s727+s728))) 1)) fun x741=>EF x736 x741 fun r749=>AD (!(decide (r749<0))) (next729 (A7 ((A7 (shr .u64 (IntKind.wrap .u64 (A7 (s727+s728))) 1))+1),s728)) (next729 (s727,A7 (shr .u64 (IntKind.wrap .u64 (A7 (s727+s728))) 1)))) (B1 (fun (s:(List AB)×Int) next794=>match s with | (s792,s793)=>AD (decide (s727<s793)) (AN s792 (A7 (s793 - 1)) fun O=>AN s792 s793 fun x808=>AN s792 s793 fun x811=>AN (s792.set s793.toNat O) (A7 (s793 - 1)) fun x814=>next794 (((s792.set s793.toNat O).set ((A7 (s793 - 1)).toNat) x808),A7 (s793 - 1))) (Q s792)) (o0,a1))) (a0,a1)) (EC (fun (U:(Int×Int)→Prop)=>AD (decide ((A7 (shr .u64 (IntKind.wrap .u64 (A7 (a0+a2))) 1))<a1)) (U (A7 ((A7 ((A7 (shr .u64 (IntKind.wrap .u64 (A7 (a0+a2))) 1))+a1)) - a2),A7 (shr .u64 (IntKind.wrap .u64 (A7 (a0+a2))) 1))) (U (a0,a1))) fun (s818,s819)=>B1 (fun (s:Int×Int) next945=>match s with | (s943,s944)=>AD (decide (s943<s944)) (AN o0 (A7 ((A7 ((A7 ((A7 (shr .u64 (IntKind.wrap .u64 (A7 (a0+a2))) 1))+a1)) - 1)) - (A7 (shr .u64 (IntKind.wrap .u64 (A7 (s943+s944))) 1)))) fun x953=>AN o0 (A7 (shr .u64 (IntKind.wrap .u64 (A7 (s943+s944))) 1)) fun x958=>EF x953 x958 fun r966=>AD (!(decide (r966<0))) (next945 (A7 ((A7 (shr .u64 (IntKind.wrap .u64 (A7 (s943+s944))) 1))+1),s944)) (next945 (s943,A7 (shr .u64 (IntKind.wrap .u64 (A7 (s943+s944))) 1)))) (EC (fun (J:(List AB)→Prop)=>AD (decide (s943<a1)) (AD (decide (a1<(A7 ((A7 ((A7 (shr .u64 (IntKind.wrap .u64 (A7 (a0+a2))) 1))+a1)) - s943)))) (D3 o0 s943 a1 (A7 ((A7 ((A7 (shr .u64 (IntKind.wrap .u64 (A7 (a0+a2))) 1))+a1)) - s943)) fun Z=>J Z) (J o0)) (J o0)) fun G=>EC (fun (D:(List AB)→Prop)=>AD (decide (a0<s943)) (AD (decide (s943<(A7 (shr .u64 (IntKind.wrap .u64 (A7 (a0+a2))) 1)))) (rc G a0 s943 (A7 (shr .u64 (IntKind.wrap .u64 (A7 (a0+a2))) 1)) fun W=>D W) (D G)) (D G)) fun h=>AD (decide ((A7 (shr .u64 (IntKind.wrap .u64 (A7 (a0+a2))) 1))<(A7 ((A7 ((A7 (shr .u64 (IntKind.wrap .u64 (A7 (a0+a2))) 1))+a1)) - s943)))) (AD (decide ((A7 ((A7 ((A7 (shr .u64 (IntKind.wrap .u64 (A7 (a0+a2))) 1))+a1)) - s943))<a2)) (rc h (A7 (shr .u64 (IntKind.wrap .u64 (A7 (a0+a2))) 1)) (A7 ((A7 ((A7 (shr .u64 (IntKind.wrap .u64 (A7 (a0+a2))) 1))+a1)) - s943)) a2 fun Y=>Q Y) (Q h)) (Q h))) (s818,s819)))
def CL:Nat→(List AB)→Int→Int→Int→((List AB)→Prop)→Prop
 | 0=>fun _ _ _ _ _=>False
 | k+1=>B8 (CL k)
def CT (o0:List AB) (a0:Int) (a1:Int) (a2:Int) (Q:(List AB)→Prop):Prop:=∃ k,CL k o0 a0 a1 a2 Q
def EB (o0:List AB) (a0:Int) (Q:(List AB)→Prop):Prop:=
 B1 (fun (s:(List AB)×Int×Int) next98=>match s with | (s95,s96,s97)=>AD (decide (s97≤a0)) (BR s95 s96 s97 fun G=>next98 (G,s97,A7 (s97+20))) (BR s95 s96 a0 fun J=>B1 (fun (s:(List AB)×Int) next420=>match s with | (s418,s419)=>AD (decide (s419<a0)) (B1 (fun (s:(List AB)×Int×Int) next533=>match s with | (s530,s531,s532)=>AD (decide (s532≤a0)) (CT s530 s531 (A7 (s531+s419)) s532 fun D=>next533 (D,s532,A7 (s532+(A7 (2*s419))))) (AD (decide ((A7 (s531+s419))<a0)) (CT s530 s531 (A7 (s531+s419)) a0 fun h=>next420 (h,A7 (s419*2))) (next420 (s530,A7 (s419*2))))) (s418,0,A7 (2*s419))) (Q s418)) (J,20))) (o0,0,20)
def C0 (o0:List AB) (Q:(List AB)→Prop):Prop:=
 EB o0 (o0.length:Int) fun h=>Q h
def NK (a0:Int) (a1:List (List AB)) (Q:((List AB)×Int)→Prop):Prop:=
 P7 a0 fun r12=>AD (!r12) (Q (([]:List AB),8)) (D1 a1 fun r31=>AD r31 (Q (([]:List AB),6)) (DD a1 fun Z=>C0 Z fun V=>B1 (fun (s:(List AB)×Int) next199=>match s with | (s193,s197)=>AD (decide (s197<(V.length:Int))) (AN V s197 fun h=>EC (fun (D:Bool→Prop)=>AD (decide (0<(s193.length:Int))) (AN s193 (A7 ((s193.length:Int) - 1)) fun U=>QE U h fun W=>D (W==0)) (D false)) fun G=>AD G (AN s193 (A7 ((s193.length:Int) - 1)) fun J=>SS a0 J.Val h.Val fun Y=>AN s193 (A7 ((s193.length:Int) - 1)) fun O=>next199 ((s193.set ((A7 ((s193.length:Int) - 1)).toNat) ({ O with Val:=Y }:AB)),A7 (s197+1))) (ED 32 s193 ([h]) fun _=>next199 ((s193++([h])),A7 (s197+1)))) (Q (s193,0))) (([]:List AB),0)))
def I4 (a0:List Int) (Q:Int→Prop):Prop:=
 AD (decide ((a0.length:Int)<1)) (False) (AN a0 0 fun D=>B1 (fun (s:Int×Int) next54=>match s with | (s52,s53)=>AD (decide (s53<(a0.length:Int))) (AN a0 s53 fun h=>next54 ((if h<s52 then h else s52),A7 (s53+1))) (Q s52)) (D,1))
def G2 (a0:AB) (a1:AB) (Q:Int→Prop):Prop:=
 D0 a0.Row a1.Row fun G=>D0 a0.Col a1.Col fun h=>JM ([G,h]:List Int) fun D=>Q D
def SU (a0:Int) (Q:Int→Prop):Prop:=
 AD (a0==1) (Q 4611686018427387904) (AD (a0==3) (Q 4611686018427387904) (AD (a0==4) (Q 4611686018427387904) (Q 0)))
def JP (a0:Int) (a1:Int) (Q:Bool→Prop):Prop:=
 AD (decide (0≤a0)) (Q (decide (a0≤a1))) (Q false)
def OW (o0:Int) (o1:Int) (a0:AB) (Q:Bool→Prop):Prop:=
 JP a0.Row (A7 (o0 - 1)) fun D=>AD (!D) (Q true) (JP a0.Col (A7 (o1 - 1)) fun h=>Q (!h))
def DH (o0:Int) (o1:Int) (a0:List AB) (Q:Int→Prop):Prop:=
 B1 (fun (h:Int) next50=>AD (decide (h<(a0.length:Int))) (AN a0 h fun D=>OW o0 o1 D fun G=>AD G (Q h) (next50 (A7 (h+1)))) (Q (-1))) 0
def D2 (o0:Int) (o1:Int) (a0:List AB) (Q:Bool→Prop):Prop:=
 DH o0 o1 a0 fun h=>Q (decide (0≤h))
def WJ (a0:Int) (a1:Int) (a2:Int) (U:List AB) (Q:(Rows×Int)→Prop):Prop:=
 P7 a0 fun r90=>AD (!r90) (Q (B4,8)) (EC (fun (G:Bool→Prop)=>JP a1 4096 fun O=>AD (!O) (G true) (JP a2 4096 fun r120=>G (!r120))) fun V=>AD V (Q (B4,3)) (D2 a1 a2 U fun Z=>AD Z (Q (B4,3)) (JO U fun Y=>AD (!Y) (Q (B4,6)) (AD (decide (65536<(U.length:Int))) (Q (B4,5)) (B1 (fun (s:(List A3)×Int) next447=>match s with | (s441,s445)=>AD (decide (s445<(U.length:Int))) (AN U s445 fun D=>M2 a0 D.Val fun h=>AD (!h.2) (Q (B4,12)) (SU a0 fun W=>AD (h.1 != W) (ED 24 s441 ([({ D with Val:=h.1 }:A3)]) fun _=>next447 ((s441++([({ D with Val:=h.1 }:A3)])),A7 (s445+1))) (next447 (s441,A7 (s445+1))))) (QC a0 a1 a2 s441 fun J=>Q (J.1,J.2))) (([]:List A3),0))))))
def I5 (a0:GF) (a1:Int) (Q:(List FP)→Prop):Prop:=
 B1 (fun (s:(List FP)×Int) next151=>match s with | (s145,s149)=>AD (decide (s149<(a0.L.length:Int))) (AD (decide (s149<120)) (AN a0.L s149 fun h=>HY h.Kind 5 fun D=>HY h.A a1 fun O=>HY h.B a1 fun G=>HY h.K 3 fun J=>ED 32 s145 ([({ Kind:=A7 (D+1),A:=O,B:=G,K:=J }:FP)]) fun _=>next151 ((s145++([({ Kind:=A7 (D+1),A:=O,B:=G,K:=J }:FP)])),A7 (s149+1))) (Q s145)) (Q s145)) (([]:List FP),0)
def FV (a0:Rows) (Q:Bool→Prop):Prop:=
 AD (decide (a0.Rows<0)) (Q false) (AD (decide (4096<a0.Rows)) (Q false) (AD (decide (a0.Cols<0)) (Q false) (AD (decide (4096<a0.Cols)) (Q false) (AD ((a0.Start.length:Int) != (A7 (a0.Rows+1))) (Q false) (AD ((a0.Col.length:Int) != (a0.Val.length:Int)) (Q false) (AD (decide (65536<(a0.Col.length:Int))) (Q false) (AN a0.Start 0 fun x42=>AD (x42 != 0) (Q false) (AN a0.Start a0.Rows fun x52=>AD (x52 != (a0.Col.length:Int)) (Q false) (B1 (fun (h:Int) next689=>AD (decide (h<a0.Rows)) (AN a0.Start h fun Z=>AN a0.Start (A7 (h+1)) fun O=>AD (decide (O<Z)) (Q false) (AN a0.Start h fun W=>AD (decide (W<0)) (Q false) (AN a0.Start (A7 (h+1)) fun J=>AD (decide ((a0.Col.length:Int)<J)) (Q false) (AN a0.Start h fun x782=>B1 (fun (D:Int) next932=>AN a0.Start (A7 (h+1)) fun V=>AD (decide (D<V)) (AN a0.Col D fun U=>AD (decide (U<0)) (Q false) (AN a0.Col D fun Y=>AD (decide (a0.Cols≤Y)) (Q false) (AN a0.Start h fun x977=>AD (decide (x977<D)) (AN a0.Col D fun x987=>AN a0.Col (A7 (D - 1)) fun G=>AD (decide (x987≤G)) (Q false) (next932 (A7 (D+1)))) (next932 (A7 (D+1)))))) (next689 (A7 (h+1)))) x782)))) (Q true)) 0)))))))))
def I6 (a0:Rows) (Q:Rows→Prop):Prop:=
 FV a0 fun D=>AD D (Q a0) (DF 0 0 fun h=>Q h)
def WK (a0:Rows) (a1:Int) (Q:(List CN)→Prop):Prop:=
 I6 a0 fun h=>AD (decide (a1<0)) (Q ([]:List CN)) (AD (decide (h.Rows≤a1)) (Q ([]:List CN)) (AN h.Start a1 fun O=>B1 (fun (s:(List CN)×Int) next161=>match s with | (s155,s159)=>AN h.Start (A7 (a1+1)) fun J=>AD (decide (s159<J)) (AN h.Col s159 fun G=>AN h.Val s159 fun D=>ED 16 s155 ([({ At:=G,Val:=D }:CN)]) fun _=>next161 ((s155++([({ At:=G,Val:=D }:CN)])),A7 (s159+1))) (Q s155)) (([]:List CN),O)))
def SV (a0:Rows) (a1:Int) (a2:Int) (Q:(Int×Bool)→Prop):Prop:=
 WK a0 a1 fun D=>B1 (fun (h:Int) next91=>AD (decide (h<(D.length:Int))) (AN D h fun J=>AD (J.At==a2) (AN D h fun G=>Q (G.Val,true)) (next91 (A7 (h+1)))) (Q (0,false))) 0
def M3 (a0:Int) (Q:Int→Prop):Prop:=
 Q (a0.tmod 14)
def OH (a0:Int) (Q:Int→Prop):Prop:=
 AD (decide (a0<1)) (Q 1) (AD (decide (5<a0)) (Q 1) (Q a0))
def QF (a0:Int) (Q:Int→Prop):Prop:=
 Q ((A7 (a0)).tmod 40)
def WL (a0:List A3) (Q:(List A3)→Prop):Prop:=
 AD (decide (60<(a0.length:Int))) (uN a0 0 60 fun _=>Q ((a0.take (Int.toNat 60)).drop (Int.toNat 0))) (Q a0)
def TE (a0:Int×Int) (a1:List A3) (Q:Rows→Prop):Prop:=
 QF a0.1 fun G=>QF a0.2 fun D=>WL a1 fun O=>B1 (fun (s:(List A3)×Int) next303=>match s with | (s297,s301)=>AD (decide (s301<(O.length:Int))) (AN O s301 fun h=>AD (decide (h.Row<0)) (next303 (s297,A7 (s301+1))) (AD (decide (h.Col<0)) (next303 (s297,A7 (s301+1))) (AD (G==0) (next303 (s297,A7 (s301+1))) (AD (D==0) (next303 (s297,A7 (s301+1))) (nzP G <| nzP D <| ED 24 s297 ([({ Row:=h.Row.tmod G,Col:=h.Col.tmod D,Val:=h.Val }:A3)]) fun _=>next303 ((s297++([({ Row:=h.Row.tmod G,Col:=h.Col.tmod D,Val:=h.Val }:A3)])),A7 (s301+1))))))) (HC 1 G D s297 fun J=>AD (J.2 != 0) (DF G D fun U=>Q U) (Q J.1))) (([]:List A3),0)
def RK (a0:Int) (a1:Int) (Q:Int→Prop):Prop:=
 AD (a0==5) (Q a1) (AD (a0==2) (Q (mX .i64 a1 1)) (AD (((mX .i64 a1 4611686018427387903).tmod 5)==0) (Q 4611686018427387904) (Q (mX .i64 a1 4611686018427387903))))
def PC (a0:Int) (a1:Int) (Q:Int→Prop):Prop:=
 AD (a0==5) (Q (a1.tmod 2147483648)) (RK a0 a1 fun h=>Q h)
def F8 (a0:EO) (Q:Rows→Prop):Prop:=
 TE a0.Size a0.L fun D=>OH a0.Ring fun J=>B1 (fun (s:(List Int)×Int) next107=>match s with | (s101,s105)=>AD (decide (s105<(D.Val.length:Int))) (AN D.Val s105 fun G=>PC J G fun h=>ED 8 s101 ([h]) fun _=>next107 ((s101++([h])),A7 (s105+1))) (Q ({ D with Val:=s101 }:Rows))) (([]:List Int),0)
def K9 (a0:GV) (Q:(Rows×Rows×Rows)→Prop):Prop:=
 M3 a0.Size.1 fun D=>M3 a0.Size.2.1 fun h=>M3 a0.Size.2.2 fun G=>F8 ({ Ring:=a0.Ring,Size:=(D,h),L:=a0.A,X:=([]:List CN),Y:=([]:List CN),F:=([]:List Int),Others:=false }:EO) fun J=>F8 ({ Ring:=a0.Ring,Size:=(h,G),L:=a0.B,X:=([]:List CN),Y:=([]:List CN),F:=([]:List Int),Others:=false }:EO) fun O=>F8 ({ Ring:=a0.Ring,Size:=(D,G),L:=a0.M,X:=([]:List CN),Y:=([]:List CN),F:=([]:List Int),Others:=false }:EO) fun U=>Q (J,O,U)
def LG (a0:HX) (Q:CH→Prop):Prop:=
 K9 a0.T fun h=>OH a0.T.Ring fun D=>Q ({ Ring:=D,A:=h.1,B:=h.2.1,Mask:=h.2.2,R:=A7 (((A7 (a0.R)).tmod 4)+1),C:=A7 (((A7 (a0.C)).tmod 4)+1),Room:=A7 (((A7 (a0.Room)).tmod 4)+1) }:CH)
def RL (a0:CH) (Q:Int→Prop):Prop:=
 MJ a0.Ring fun J=>AD (!J) (Q 8) (FV a0.A fun D=>AD (!D) (Q 7) (FV a0.B fun h=>AD (!h) (Q 7) (FV a0.Mask fun G=>AD (!G) (Q 7) (AD (a0.A.Cols != a0.B.Rows) (Q 4) (AD (a0.Mask.Rows != a0.A.Rows) (Q 4) (AD (a0.Mask.Cols != a0.B.Cols) (Q 4) (AD (decide (a0.R<1)) (Q 3) (AD (decide (8<a0.R)) (Q 3) (AD (decide (a0.C<1)) (Q 3) (AD (decide (8<a0.C)) (Q 3) (AD (decide (a0.Room<1)) (Q 3) (AD (decide (64<a0.Room)) (Q 3) (Q 0)))))))))))))
def NL (a0:Int) (a1:Int) (Q:Bool→Prop):Prop:=
 AD (decide (0≤a0)) (AD (decide (a0≤4096)) (AD (decide (1≤a1)) (Q (decide (a1≤8))) (Q false)) (Q false)) (Q false)
def EQ (a0:Int) (a1:Int) (a2:Int) (Q:Int→Prop):Prop:=
 NL a0 a1 fun h=>AD (!h) (Q 0) (AD (decide (a2<0)) (Q 0) (AD (decide (a1≤a2)) (Q a0) (nzP a1 <| Q (A7 ((A7 (a2*a0)).tdiv a1)))))
def V0 (a0:Int) (a1:Int) (a2:Int) (Q:Int→Prop):Prop:=
 NL a0 a1 fun J=>AD (!J) (Q (-1)) (B1 (fun (h:Int) next39=>AD (decide (h<a1)) (EQ a0 a1 h fun D=>AD (decide (D≤a2)) (EQ a0 a1 (A7 (h+1)) fun G=>AD (decide (a2<G)) (Q h) (next39 (A7 (h+1)))) (next39 (A7 (h+1)))) (Q (-1))) 0)
def JQ (a0:Int) (a1:Int) (a2:Int) (Q:(List AX)→Prop):Prop:=
 NL a0 a1 fun W=>AD (!W) (Q ([]:List AX)) (NL a0 a2 fun Y=>AD (!Y) (Q ([]:List AX)) (B1 (fun (s:(List AX)×Int) next134=>match s with | (s128,s132)=>AD (decide (s132<a0)) (V0 a0 a1 s132 fun D=>V0 a0 a2 s132 fun G=>EC (fun (h:Bool→Prop)=>AD (decide (0<(s128.length:Int))) (AN s128 (A7 ((s128.length:Int) - 1)) fun U=>AD (U.Row==D) (AN s128 (A7 ((s128.length:Int) - 1)) fun O=>h (O.Col==G)) (h false)) (h false)) fun V=>AD V (AN s128 (A7 ((s128.length:Int) - 1)) fun J=>next134 ((s128.set ((A7 ((s128.length:Int) - 1)).toNat) ({ J with To:=A7 (s132+1) }:AX)),A7 (s132+1))) (ED 32 s128 ([({ From:=s132,To:=A7 (s132+1),Row:=D,Col:=G }:AX)]) fun _=>next134 ((s128++([({ From:=s132,To:=A7 (s132+1),Row:=D,Col:=G }:AX)])),A7 (s132+1)))) (Q s128)) (([]:List AX),0)))
def RM (a0:Int) (a1:Int) (Q:Bool→Prop):Prop:=
 AD (decide (1≤a0)) (AD (decide (a0≤8)) (AD (decide (1≤a1)) (Q (decide (a1≤8))) (Q false)) (Q false)) (Q false)
def GY (a0:Rows) (Q:(List A3)→Prop):Prop:=
 I6 a0 fun h=>B1 (fun (s:(List A3)×Int) next408=>match s with | (s402,s406)=>AD (decide (s406<h.Rows)) (AN h.Start s406 fun O=>B1 (fun (s:(List A3)×Int) next542=>match s with | (s537,s541)=>AN h.Start (A7 (s406+1)) fun J=>AD (decide (s541<J)) (AN h.Col s541 fun G=>AN h.Val s541 fun D=>ED 24 s537 ([({ Row:=s406,Col:=G,Val:=D }:A3)]) fun _=>next542 ((s537++([({ Row:=s406,Col:=G,Val:=D }:A3)])),A7 (s541+1))) (next408 (s537,A7 (s406+1)))) (s402,O)) (Q s402)) (([]:List A3),0)
def M4 (a0:Rows) (a1:Int×Int) (a2:Int×Int) (Q:Rows→Prop):Prop:=
 I6 a0 fun h=>GY h fun J=>B1 (fun (s:(List A3)×Int) next903=>match s with | (s897,s901)=>AD (decide (s901<(J.length:Int))) (EC (fun (O:Bool→Prop)=>AN J s901 fun x990=>AD (decide ((if 0 > a1.1 then 0 else a1.1)≤x990.Row)) (AN J s901 fun x1000=>AD (decide (x1000.Row<(if h.Rows<a1.2 then h.Rows else a1.2))) (AN J s901 fun x1010=>AD (decide ((if 0 > a2.1 then 0 else a2.1)≤x1010.Col)) (AN J s901 fun x1020=>O (decide (x1020.Col<(if h.Cols<a2.2 then h.Cols else a2.2)))) (O false)) (O false)) (O false)) fun s987=>AD s987 (AN J s901 fun V=>AN J s901 fun U=>AN J s901 fun Y=>ED 24 s897 ([({ Row:=A7 (V.Row - (if 0 > a1.1 then 0 else a1.1)),Col:=A7 (U.Col - (if 0 > a2.1 then 0 else a2.1)),Val:=Y.Val }:A3)]) fun _=>next903 ((s897++([({ Row:=A7 (V.Row - (if 0 > a1.1 then 0 else a1.1)),Col:=A7 (U.Col - (if 0 > a2.1 then 0 else a2.1)),Val:=Y.Val }:A3)])),A7 (s901+1))) (next903 (s897,A7 (s901+1)))) (EC (fun (Z:Int→Prop)=>AD (decide ((if 0 > a1.1 then 0 else a1.1)<(if h.Rows<a1.2 then h.Rows else a1.2))) (Z (A7 ((if h.Rows<a1.2 then h.Rows else a1.2) - (if 0 > a1.1 then 0 else a1.1)))) (Z 0)) fun G=>EC (fun (W:Int→Prop)=>AD (decide ((if 0 > a2.1 then 0 else a2.1)<(if h.Cols<a2.2 then h.Cols else a2.2))) (W (A7 ((if h.Cols<a2.2 then h.Cols else a2.2) - (if 0 > a2.1 then 0 else a2.1)))) (W 0)) fun D=>AD (G==0) (HS G D ([]:List A3) fun r1087=>Q r1087) (AD (D==0) (HS G D ([]:List A3) fun r1101=>Q r1101) (HS G D s897 fun r1121=>Q r1121)))) (([]:List A3),0)
def PR (a0:Rows) (a1:Int) (a2:Int) (a3:Int) (a4:Int) (Q:Rows→Prop):Prop:=
 FV a0 fun W=>AD (!W) (DF 0 0 fun V=>Q V) (RM a1 a2 fun r177=>AD (!r177) (DF 0 0 fun O=>Q O) (AD (decide (a3<0)) (DF 0 0 fun h=>Q h) (AD (decide (a1≤a3)) (DF 0 0 fun U=>Q U) (AD (decide (a4<0)) (DF 0 0 fun r278=>Q r278) (AD (decide (a2≤a4)) (DF 0 0 fun J=>Q J) (EQ a0.Rows a1 a3 fun Y=>EQ a0.Rows a1 (A7 (a3+1)) fun G=>EQ a0.Cols a2 a4 fun Z=>EQ a0.Cols a2 (A7 (a4+1)) fun r366=>M4 a0 (Y,G) (Z,r366) fun D=>Q D))))))
def I7 (a0:Int) (a1:Int) (a2:Int) (Q:(Int×Int)→Prop):Prop:=
 EQ a0 a1 a2 fun D=>EQ a0 a1 (A7 (a2+1)) fun h=>Q (D,h)
def JR (a0:List Int) (a1:List Int) (Q:Bool→Prop):Prop:=
 AD ((a0.length:Int) != (a1.length:Int)) (Q false) (B1 (fun (h:Int) next55=>AD (decide (h<(a0.length:Int))) (AN a0 h fun G=>AN a1 h fun D=>AD (G != D) (Q false) (next55 (A7 (h+1)))) (Q true)) 0)
def MN (a0:List Int) (a1:List Int) (Q:Bool→Prop):Prop:=
 AD ((a0.length:Int) != (a1.length:Int)) (Q false) (B1 (fun (h:Int) next55=>AD (decide (h<(a0.length:Int))) (AN a0 h fun G=>AN a1 h fun D=>AD (G != D) (Q false) (next55 (A7 (h+1)))) (Q true)) 0)
def TF (a0:Rows) (a1:Rows) (Q:Bool→Prop):Prop:=
 AD (a0.Rows==a1.Rows) (AD (a0.Cols==a1.Cols) (JR a0.Start a1.Start fun D=>AD D (JR a0.Col a1.Col fun G=>AD G (MN a0.Val a1.Val fun h=>Q h) (Q false)) (Q false)) (Q false)) (Q false)
def LH (a0:List AB) (a1:List AB) (Q:Bool→Prop):Prop:=
 AD ((a0.length:Int) != (a1.length:Int)) (Q false) (B1 (fun (h:Int) next55=>AD (decide (h<(a0.length:Int))) (AN a0 h fun G=>AN a1 h fun D=>AD (!(G==D)) (Q false) (next55 (A7 (h+1)))) (Q true)) 0)
def JS (a0:AB) (a1:AB) (Q:Bool→Prop):Prop:=
 AD (decide (a0.Row<a1.Row)) (Q true) (AD (a0.Row==a1.Row) (Q (decide (a0.Col<a1.Col))) (Q false))
def JT (a0:List AB) (Q:Bool→Prop):Prop:=
 B1 (fun (h:Int) next58=>AD (decide (h<(a0.length:Int))) (AN a0 (A7 (h - 1)) fun J=>AN a0 h fun G=>JS J G fun D=>AD (!D) (Q false) (next58 (A7 (h+1)))) (Q true)) 1
def HU (a0:Int) (a1:List (List AB)) (Q:((List AB)×Int)→Prop):Prop:=
 MJ a0 fun r12=>AD (!r12) (Q (([]:List AB),8)) (B1 (fun (J:Int) next123=>AD (decide (J<(a1.length:Int))) (AN a1 J fun x129=>JT x129 fun r140=>AD (!r140) (Q (([]:List AB),6)) (next123 (A7 (J+1)))) (B1 (fun (s:(List AB)×Int) next2327=>match s with | (s2321,s2325)=>AD (decide (s2325<(a1.length:Int))) (B1 (fun (s:(List AB)×Int) next3143=>match s with | (s3138,s3142)=>AN a1 s2325 fun Y=>AD (decide (s3142<(Y.length:Int))) (AN a1 s2325 fun x3198=>AN x3198 s3142 fun G=>EC (fun (U:Int→Prop)=>B1 (fun (D:Int) next3342=>AD (decide (D<(s3138.length:Int))) (AN s3138 D fun x3351=>JS x3351 G fun r3355=>AD r3355 (next3342 (A7 (D+1))) (U D)) (U D)) 0) fun h=>EC (fun (O:Bool→Prop)=>AD (decide (h<(s3138.length:Int))) (AN s3138 h fun V=>JS G V fun r3451=>O (!r3451)) (O false)) fun W=>AD W (AN s3138 h fun x3464=>PN a0 x3464.Val G.Val fun Z=>AN s3138 h fun x3473=>next3143 ((s3138.set h.toNat ({ x3473 with Val:=Z }:AB)),A7 (s3142+1))) (ED 32 s3138 ([({ Row:=0,Col:=0,Val:=DT }:AB)]) fun _=>B1 (fun (s:(List AB)×Int) next3527=>match s with | (s3522,s3526)=>AD (decide (h<s3526)) (AN s3522 (A7 (s3526 - 1)) fun x3538=>AN s3522 s3526 fun x3543=>next3527 ((s3522.set s3526.toNat x3538),A7 (s3526 - 1))) (AN s3522 h fun x3546=>next3143 ((s3522.set h.toNat G),A7 (s3142+1)))) ((s3138++([({ Row:=0,Col:=0,Val:=DT }:AB)])),A7 (((s3138++([({ Row:=0,Col:=0,Val:=DT }:AB)])).length:Int) - 1)))) (next2327 (s3138,A7 (s2325+1)))) (s2321,0)) (Q (s2321,0))) (([]:List AB),0))) 0)
def V3 (a0:Int) (Q:Bool→Prop):Prop:=
 AD (a0==1) (Q true) (AD (a0==3) (Q true) (Q (a0==4)))
def TG (a0:Int) (Q:Int→Prop):Prop:=
 V3 a0 fun h=>AD h (Q 4611686018427387904) (Q 0)
def TH (a0:Int) (a1:Int) (a2:Int) (G:List AB) (Q:(Rows×Int)→Prop):Prop:=
 MJ a0 fun r15=>AD (!r15) (Q (B4,8)) (AD (decide (a1<0)) (Q (B4,3)) (AD (decide (4096<a1)) (Q (B4,3)) (AD (decide (a2<0)) (Q (B4,3)) (AD (decide (4096<a2)) (Q (B4,3)) (B1 (fun (h:Int) next249=>AD (decide (h<(G.length:Int))) (AN G h fun Z=>AD (decide (Z.Row<0)) (Q (B4,3)) (AN G h fun W=>AD (decide (a1≤W.Row)) (Q (B4,3)) (AN G h fun x275=>AD (decide (x275.Col<0)) (Q (B4,3)) (AN G h fun x285=>AD (decide (a2≤x285.Col)) (Q (B4,3)) (next249 (A7 (h+1))))))) (JT G fun Y=>AD (!Y) (Q (B4,6)) (AD (decide (65536<(G.length:Int))) (Q (B4,5)) (B1 (fun (s:(List A3)×Int) next672=>match s with | (s666,s670)=>AD (decide (s670<(G.length:Int))) (AN G s670 fun x692=>MK x692.Val fun D=>AD (!D.2) (Q (B4,12)) (TG a0 fun V=>AD (D.1 != V) (AN G s670 fun J=>AN G s670 fun U=>ED 24 s666 ([({ Row:=J.Row,Col:=U.Col,Val:=D.1 }:A3)]) fun _=>next672 ((s666++([({ Row:=J.Row,Col:=U.Col,Val:=D.1 }:A3)])),A7 (s670+1))) (next672 (s666,A7 (s670+1))))) (HC a0 a1 a2 s666 fun O=>Q (O.1,O.2))) (([]:List A3),0))))) 0)))))
def RN (a0:FP) (Q:Bool→Prop):Prop:=
 AD (decide (1≤a0.Kind)) (AD (decide (a0.Kind≤5)) (AD (decide (0≤a0.A)) (AD (decide (a0.A<64)) (AD (decide (0≤a0.B)) (AD (decide (a0.B<64)) (AD (decide (0≤a0.K)) (Q (decide (a0.K<64))) (Q false)) (Q false)) (Q false)) (Q false)) (Q false)) (Q false)) (Q false)
def SW (a0:AO) (Q:AO→Prop):Prop:=
 ED 16 ([]:List CN) a0.Vec.Items fun _=>ED 24 ([]:List P6) a0.Sums fun _=>ED 24 ([]:List A3) a0.Triples fun _=>Q ({ a0 with Vec:=({ N:=a0.Vec.N,Items:=(([]:List CN)++a0.Vec.Items) }:Vec),Sums:=(([]:List P6)++a0.Sums),Triples:=(([]:List A3)++a0.Triples) }:AO)
def RO (a0:AL) (Q:AL→Prop):Prop:=
 K7 ({ Hi:=YU .i64 (-1) a0.Hi,Lo:=YU .u64 18446744073709551615 a0.Lo }:AL) ({ Hi:=0,Lo:=1 }:AL) fun h=>Q h
def WM (a0:Int) (a1:Int) (Q:AL→Prop):Prop:=
 GG a0 fun J=>EC (fun (O:Int→Prop)=>AD (decide (a1<0)) (O (IntKind.wrap .u64 (0 - (IntKind.wrap .u64 (a1))))) (O (IntKind.wrap .u64 (a1)))) fun V=>B1 (fun (s:Int×Int×Int×Int×Int) next147=>match s with | (s142,s143,s144,s145,s146)=>AD (decide (0<s144)) (AD ((s144.tmod 2)==1) (K7 ({ Hi:=s145,Lo:=s146 }:AL) ({ Hi:=s142,Lo:=s143 }:AL) fun D=>K7 ({ Hi:=s142,Lo:=s143 }:AL) ({ Hi:=s142,Lo:=s143 }:AL) fun G=>next147 (G.Hi,G.Lo,IntKind.wrap .u64 (s144.tdiv 2),D.Hi,D.Lo)) (K7 ({ Hi:=s142,Lo:=s143 }:AL) ({ Hi:=s142,Lo:=s143 }:AL) fun h=>next147 (h.Hi,h.Lo,IntKind.wrap .u64 (s144.tdiv 2),s145,s146))) (AD (decide (a1<0)) (RO ({ Hi:=s145,Lo:=s146 }:AL) fun U=>Q U) (Q ({ Hi:=s145,Lo:=s146 }:AL)))) (J.Hi,J.Lo,V,0,0)
def WN (a0:Int) (a1:Int) (a2:Int) (Q:AL→Prop):Prop:=
 EC (fun (k8:Bool→Prop)=>AD (decide (4611686018427387904≤a1)) (k8 true) (k8 (decide (4611686018427387904≤a2)))) fun Z=>AD (a0==1) (GG a1 fun r27=>GG a2 fun U=>K7 r27 U fun h=>AD Z (GG 4611686018427387904 fun G=>Q G) (GG 4611686018427387904 fun D=>GW h D fun O=>AD (decide (0<O)) (GG 4611686018427387904 fun r55=>Q r55) (Q h))) (AD (a0==3) (AD Z (GG 4611686018427387904 fun V=>Q V) (GG a1 fun J=>Q J)) (AD (a0==4) (AD Z (GG 4611686018427387904 fun r71=>Q r71) (GG a2 fun r75=>Q r75)) (AD (a0==2) (AD (a1 != 0) (JL (a2 != 0) fun Y=>Q Y) (JL false fun W=>Q W)) (AD (a0==5) (WM a1 a2 fun r90=>Q r90) (Q DT)))))
def OI (a0:Int) (a1:Rows) (a2:Rows) (a3:Rows) (Q:((List AB)×Int)→Prop):Prop:=
 I6 a1 fun G=>I6 a2 fun Z=>I6 a3 fun r70=>MJ a0 fun r85=>AD (!r85) (Q (([]:List AB),8)) (AD (G.Cols != Z.Rows) (Q (([]:List AB),4)) (AD (r70.Rows != G.Rows) (Q (([]:List AB),4)) (AD (r70.Cols != Z.Cols) (Q (([]:List AB),4)) (GY r70 fun h=>B1 (fun (s:(List AB)×Int) next1863=>match s with | (s1857,s1861)=>AD (decide (s1861<(h.length:Int))) (AN h s1861 fun x2317=>AN G.Start x2317.Row fun x2326=>B1 (fun (s:Int×Int×Bool×Int) next2591=>match s with | (s2587,s2588,s2589,s2590)=>AN h s1861 fun x2618=>AN G.Start (A7 (x2618.Row+1)) fun x2627=>AD (decide (s2590<x2627)) (AN G.Col s2590 fun x2661=>AN h s1861 fun W=>SV Z x2661 W.Col fun V=>AD (!V.2) (next2591 (s2587,s2588,s2589,A7 (s2590+1))) (AN G.Val s2590 fun Y=>WN a0 Y V.1 fun D=>AD s2589 (PN a0 ({ Hi:=s2587,Lo:=s2588 }:AL) D fun O=>next2591 (O.Hi,O.Lo,true,A7 (s2590+1))) (next2591 (D.Hi,D.Lo,true,A7 (s2590+1))))) (AD s2589 (AN h s1861 fun J=>AN h s1861 fun U=>ED 32 s1857 ([({ Row:=J.Row,Col:=U.Col,Val:=({ Hi:=s2587,Lo:=s2588 }:AL) }:AB)]) fun _=>next1863 ((s1857++([({ Row:=J.Row,Col:=U.Col,Val:=({ Hi:=s2587,Lo:=s2588 }:AL) }:AB)])),A7 (s1861+1))) (next1863 (s1857,A7 (s1861+1))))) (0,0,false,x2326)) (Q (s1857,0))) (([]:List AB),0)))))
def JU (a0:CH) (Q:Int→Prop):Prop:=
 HT a0 fun h=>AD (h != 0) (Q 0) (Q (A7 ((A7 ((A7 (a0.R+a0.C))*(A7 (a0.R+a0.C))))+2)))
def TI (a0:Int) (a1:Int) (Q:Rows→Prop):Prop:=
 B1 (fun (s:(List A3)×Int) next302=>match s with | (s296,s300)=>AD (decide (s300<a0)) (B1 (fun (s:(List A3)×Int) next343=>match s with | (s338,s342)=>AD (decide (s342<a1)) (ED 24 s338 ([({ Row:=s300,Col:=s342,Val:=1 }:A3)]) fun _=>next343 ((s338++([({ Row:=s300,Col:=s342,Val:=1 }:A3)])),A7 (s342+1))) (next302 (s338,A7 (s300+1)))) (s296,0)) (HC 1 a0 a1 s296 fun h=>Q h.1)) (([]:List A3),0)
def FQ (o0:AM) (o1:AQ) (o2:A4) (Q:AQ→Prop):Prop:=
 B1 (fun (s:(List AO)×Int) next908=>match s with | (s903,s907)=>AD (decide (s907<(o0.S.length:Int))) (AN o0.S s907 fun h=>EC (fun (O:(List AO)→Prop)=>AD (h.Col==o1.J) (I7 o0.P.A.Rows o0.P.R o1.I fun V=>M4 o0.P.A V (h.From,h.To) fun Y=>GY Y fun D=>B1 (fun (s:(List AO)×Int) next1227=>match s with | (s1222,s1226)=>AD (decide (s1226<o0.P.C)) (ED 136 s1222 ([({ Kind:=6,From:=A7 ((A7 (o1.I*o0.P.C))+o1.J),To:=A7 ((A7 (o1.I*o0.P.C))+s1226),Seq:=0,Round:=s907,Vec:=G3,Sums:=([]:List P6),Triples:=D,N:=0,Over:=false }:AO)]) fun _=>next1227 ((s1222++([({ Kind:=6,From:=A7 ((A7 (o1.I*o0.P.C))+o1.J),To:=A7 ((A7 (o1.I*o0.P.C))+s1226),Seq:=0,Round:=s907,Vec:=G3,Sums:=([]:List P6),Triples:=D,N:=0,Over:=false }:AO)])),A7 (s1226+1))) (O s1222)) (s903,0)) (O s903)) fun U=>AD (h.Row==o1.I) (I7 o0.P.B.Cols o0.P.C o1.J fun W=>M4 o0.P.B (h.From,h.To) W fun Z=>GY Z fun G=>B1 (fun (s:(List AO)×Int) next1334=>match s with | (s1329,s1333)=>AD (decide (s1333<o0.P.R)) (ED 136 s1329 ([({ Kind:=7,From:=A7 ((A7 (o1.I*o0.P.C))+o1.J),To:=A7 ((A7 (s1333*o0.P.C))+o1.J),Seq:=0,Round:=s907,Vec:=G3,Sums:=([]:List P6),Triples:=G,N:=0,Over:=false }:AO)]) fun _=>next1334 ((s1329++([({ Kind:=7,From:=A7 ((A7 (o1.I*o0.P.C))+o1.J),To:=A7 ((A7 (s1333*o0.P.C))+o1.J),Seq:=0,Round:=s907,Vec:=G3,Sums:=([]:List P6),Triples:=G,N:=0,Over:=false }:AO)])),A7 (s1333+1))) (next908 (s1329,A7 (s907+1)))) (U,0)) (next908 (U,A7 (s907+1)))) (Q ({ o1 with Out:=s903 }:AQ))) (o1.Out,0)
def S5 (a0:Int) (h:Int→Prop) (D:(Int×B3)→Prop):Prop:=
 AD (decide (a0<1)) (h 3) (AD (decide (64<a0)) (h 3) (D (0,({ Many:=a0,Out:=0,In:=0,L:=([]:List AO) }:B3))))
def O4 (o0:A4) (o1:AA) (a0:CH) (Z:(Int×A4×AA)→Prop) (Q1:(Int×A4×AA×AM)→Prop):Prop:=
 RL a0 fun Y=>AD (Y != 0) (Z (Y,o0,o1)) (JQ a0.A.Cols a0.R a0.C fun h=>B1 (fun (s:(List (Option Nat))×(List (Option Nat))×Int×A4) next2769=>match s with | (s2757,s2761,s2765,s2766)=>AD (decide (s2765<a0.R)) (B1 (fun (s:(List (Option Nat))×Int×A4) next3133=>match s with | (s3127,s3131,s3132)=>AD (decide (s3131<a0.C)) (PR a0.Mask a0.R a0.C s2765 s3131 fun V=>mkP 1 (h.length:Int) false fun _=>mkP 1 (h.length:Int) false fun _=>mkP 24 (h.length:Int) ([]:List A3) fun _=>mkP 24 (h.length:Int) ([]:List A3) fun _=>FQ ({ P:=a0,S:=h,W:=s3127,B:=s2761 }:AM) ({ I:=s2765,J:=s3131,Mask:=V,Out:=([]:List AO),Lefts:=(List.replicate (h.length:Int).toNat false),Rights:=(List.replicate (h.length:Int).toNat false),L:=(List.replicate (h.length:Int).toNat ([]:List A3)),R:=(List.replicate (h.length:Int).toNat ([]:List A3)),At:=0,Has:=([]:List AB) }:AQ) s3132 fun O=>AaO s3132 fun G=>ED 8 s3127 ([(some G)]) fun _=>next3133 ((s3127++([(some G)])),A7 (s3131+1),((G,O) :: s3132))) (next2769 (s3127,s2761,A7 (s2765+1),s3132))) (s2757,0,s2766)) (B1 (fun (s:(List (Option Nat))×Int×AA) next3413=>match s with | (s3407,s3411,s3412)=>AD (decide (s3411<(A7 ((s2757.length:Int)*(s2757.length:Int))))) (S5 a0.Room (fun _=>False) (fun U=>AaO s3412 fun D=>ED 8 s3407 ([(some D)]) fun _=>next3413 ((s3407++([(some D)])),A7 (s3411+1),((D,U.2) :: s3412)))) (Q1 (0,s2766,s3412,({ P:=a0,S:=h,W:=s2757,B:=s3407 }:AM)))) (s2761,0,o1))) (([]:List (Option Nat)),([]:List (Option Nat)),0,o0))
def BX (o0:AM) (o1:A4) (o2:AA) (a0:Int) (a1:Int) (h:Unit→Prop) (G:(Option Nat)→Prop):Prop:=
 AD (decide (a0<0)) (h ()) (AD (decide ((o0.W.length:Int)≤a0)) (h ()) (AD (decide (a1<0)) (h ()) (AD (decide ((o0.W.length:Int)≤a1)) (h ()) (AN o0.B (A7 ((A7 (a0*(o0.W.length:Int)))+a1)) fun D=>G D))))
def I8 (o0:B3) (a0:AO) (Q:(Int×B3)→Prop):Prop:=
 AD (decide (o0.Many≤(o0.L.length:Int))) (Q (9,o0)) (SW a0 fun h=>ED 136 o0.L ([({ h with Seq:=o0.Out }:AO)]) fun _=>Q (0,({ o0 with Out:=A7 (o0.Out+1),L:=(o0.L++([({ h with Seq:=o0.Out }:AO)])) }:B3)))
def QG (a0:AO) (Q:Int→Prop):Prop:=
 Q 10
def MO (o0:AA) (a0:Option Nat) (a1:AO) (Q:(Int×AA)→Prop):Prop:=
 Y1 a0 (QG a1 fun h=>Q (h,o0)) fun b=>Z7 o0 b fun x=>I8 x a1 fun h=>Q (h.1,(b,h.2) :: BM b o0)
def DN (o0:AM) (o1:A4) (o2:AA) (a0:Int) (Q:(Bool×A4×AA)→Prop):Prop:=
 AD (decide (a0<0)) (Q (false,o1,o2)) (AD (decide ((o0.W.length:Int)≤a0)) (Q (false,o1,o2)) (AN o0.W a0 fun Z=>CE o1 Z fun b53 x54=>AD ((x54.Out.length:Int)==0) (Q (false,o1,o2)) (AN o0.W a0 fun Y=>CE o1 Y fun D J=>AN J.Out 0 fun O=>AN J.Out 0 fun V=>BX o0 (BM D o1) o2 a0 O.To (fun _=>False) (fun U=>MO o2 U V fun G=>AD (G.1 != 0) (Q (false,o1,G.2)) (CE o1 (some D) fun _ h=>uN h.Out 1 (h.Out.length:Int) fun _=>Q (true,((D,({ h with Out:=((h.Out.take (h.Out.length:Int).toNat).drop (Int.toNat 1)) }:AQ)) :: (BM D o1)),G.2))))))
def F9 (o0:B3) (a0:Int) (Q:Int→Prop):Prop:=
 AD (decide (a0<0)) (Q 3) (AD (decide ((o0.L.length:Int)≤a0)) (Q 3) (Q 0))
def F3 (o0:B3) (a0:Int) (Q:(AO×B3)→Prop):Prop:=
 AN o0.L a0 fun h=>uN o0.L 0 a0 fun _=>ED 136 ([]:List AO) ((o0.L.take a0.toNat).drop (Int.toNat 0)) fun _=>uN o0.L (A7 (a0+1)) (o0.L.length:Int) fun _=>ED 136 (([]:List AO)++((o0.L.take a0.toNat).drop (Int.toNat 0))) ((o0.L.take (o0.L.length:Int).toNat).drop (A7 (a0+1)).toNat) fun _=>Q (h,({ o0 with L:=((([]:List AO)++((o0.L.take a0.toNat).drop (Int.toNat 0)))++((o0.L.take (o0.L.length:Int).toNat).drop (A7 (a0+1)).toNat)) }:B3))
def I9 (o0:B3) (a0:Int) (Q:(AO×Bool×Int×B3)→Prop):Prop:=
 F9 o0 a0 fun D=>AD (D != 0) (Q (({ Kind:=0,From:=0,To:=0,Seq:=0,Round:=0,Vec:=G3,Sums:=([]:List P6),Triples:=([]:List A3),N:=0,Over:=false }:AO),false,D,o0)) (AN o0.L a0 fun G=>AD (decide (o0.In<G.Seq)) (Q (({ Kind:=0,From:=0,To:=0,Seq:=0,Round:=0,Vec:=G3,Sums:=([]:List P6),Triples:=([]:List A3),N:=0,Over:=false }:AO),false,0,o0)) (F3 o0 a0 fun h=>AD (decide (h.1.Seq<h.2.In)) (Q (({ Kind:=0,From:=0,To:=0,Seq:=0,Round:=0,Vec:=G3,Sums:=([]:List P6),Triples:=([]:List A3),N:=0,Over:=false }:AO),false,0,h.2)) (Q (h.1,true,0,({ Many:=h.2.Many,Out:=h.2.Out,In:=A7 (h.2.In+1),L:=h.2.L }:B3)))))
def FA (a0:Int) (Q:Int→Prop):Prop:=
 Q 10
def QH (a0:Int) (Q:(AO×Bool×Int)→Prop):Prop:=
 FA a0 fun h=>AD (h != 0) (Q (({ Kind:=0,From:=0,To:=0,Seq:=0,Round:=0,Vec:=G3,Sums:=([]:List P6),Triples:=([]:List A3),N:=0,Over:=false }:AO),false,h)) (False)
def MP (o0:AA) (a0:Option Nat) (a1:Int) (Q:(AO×Bool×Int×AA)→Prop):Prop:=
 Y1 a0 (QH a1 fun h=>Q (h.1,h.2.1,h.2.2,o0)) fun b=>Z7 o0 b fun x=>I9 x a1 fun h=>Q (h.1,h.2.1,h.2.2.1,(b,h.2.2.2) :: BM b o0)
def DU (o0:AM) (o1:A4) (a0:Option Nat) (Q:A4→Prop):Prop:=
 CE o1 a0 fun h Y=>AN o0.S Y.At fun x79=>AN o0.S Y.At fun x88=>CE o1 (some h) fun _ G=>AN G.L G.At fun x178=>HC o0.P.Ring G.Mask.Rows (A7 (x79.To - x88.From)) x178 fun W=>CE o1 (some h) fun _ D=>AN D.R D.At fun x283=>HC o0.P.Ring (A7 (x79.To - x88.From)) D.Mask.Cols x283 fun V=>CE o1 (some h) fun _ x341=>OI o0.P.Ring W.1 V.1 x341.Mask fun Z=>CE o1 (some h) fun _ x415=>HU o0.P.Ring ([x415.Has,Z.1]:List (List AB)) fun U=>CE o1 (some h) fun _ O=>CE ((h,({ O with Has:=U.1 }:AQ)) :: (BM h o1)) (some h) fun _ J=>Q ((h,({ J with At:=A7 (J.At+1) }:AQ)) :: (BM h ((h,({ O with Has:=U.1 }:AQ)) :: (BM h o1))))
def CW (o0:AM) (o1:A4) (o2:AA) (a0:Int) (a1:Int) (a2:Int) (Q:(Bool×A4×AA)→Prop):Prop:=
 BX o0 o1 o2 a0 a1 (fun r29=>Q (false,o1,o2)) (fun r30=>AD r30.isNone (Q (false,o1,o2)) (MP o2 r30 a2 fun h=>AD (!h.2.1) (Q (false,o1,h.2.2.2)) (AN o0.W a1 fun x71=>EC (fun (k347:((Option Nat)×A4)→Prop)=>AD (h.1.Kind==6) (CE o1 x71 fun G O=>AN O.Lefts h.1.Round fun x373=>CE ((G,({ O with Lefts:=(O.Lefts.set h.1.Round.toNat true) }:AQ)) :: (BM G o1)) (some G) fun _ V=>AN V.L h.1.Round fun x401=>k347 ((some G),((G,({ V with L:=(V.L.set h.1.Round.toNat h.1.Triples) }:AQ)) :: (BM G ((G,({ O with Lefts:=(O.Lefts.set h.1.Round.toNat true) }:AQ)) :: (BM G o1)))))) (CE o1 x71 fun D J=>AN J.Rights h.1.Round fun x439=>CE ((D,({ J with Rights:=(J.Rights.set h.1.Round.toNat true) }:AQ)) :: (BM D o1)) (some D) fun _ Y=>AN Y.R h.1.Round fun x467=>k347 ((some D),((D,({ Y with R:=(Y.R.set h.1.Round.toNat h.1.Triples) }:AQ)) :: (BM D ((D,({ J with Rights:=(J.Rights.set h.1.Round.toNat true) }:AQ)) :: (BM D o1))))))) fun (s345,s346)=>B1 (fun (s:(Option Nat)×A4) next592=>match s with | (s590,s591)=>CE s591 s590 fun Z U=>AD (decide (U.At<(o0.S.length:Int))) (AN U.Lefts U.At fun x626=>AD x626 (AN U.Rights U.At fun x632=>AD x632 (DU o0 s591 (some Z) fun r643=>next592 ((some Z),r643)) (Q (true,s591,h.2.2.2))) (Q (true,s591,h.2.2.2))) (Q (true,s591,h.2.2.2))) (s345,s346))))
def GI (a0:Int) (Q:Int→Prop):Prop:=
 FA a0 fun h=>AD (h != 0) (Q h) (False)
def GJ (o0:B3) (a0:Int) (Q:(Int×B3)→Prop):Prop:=
 F9 o0 a0 fun D=>AD (D != 0) (Q (D,o0)) (AD (decide (o0.Many≤(o0.L.length:Int))) (Q (9,o0)) (AN o0.L a0 fun G=>SW G fun h=>ED 136 o0.L ([h]) fun _=>Q (0,({ o0 with L:=(o0.L++([h])) }:B3))))
def KN (o0:AA) (a0:Option Nat) (a1:Int) (Q:(Int×AA)→Prop):Prop:=
 Y1 a0 (GI a1 fun h=>Q (h,o0)) fun b=>Z7 o0 b fun x=>GJ x a1 fun h=>Q (h.1,(b,h.2) :: BM b o0)
def OJ (a0:Int)  : Prop:=
 False
def IA (a0:Int) (Q:Int→Prop):Prop:=
 FA a0 fun h=>AD (h != 0) (Q h) (OJ a0)
def IB (o0:B3) (a0:Int) (Q:(Int×B3)→Prop):Prop:=
 F9 o0 a0 fun D=>AD (D != 0) (Q (D,o0)) (F3 o0 a0 fun h=>ED 136 h.2.L ([h.1]) fun _=>Q (0,({ Many:=h.2.Many,Out:=h.2.Out,In:=h.2.In,L:=(h.2.L++([h.1])) }:B3)))
def MQ (o0:AA) (a0:Option Nat) (a1:Int) (Q:(Int×AA)→Prop):Prop:=
 Y1 a0 (IA a1 fun h=>Q (h,o0)) fun b=>Z7 o0 b fun x=>IB x a1 fun h=>Q (h.1,(b,h.2) :: BM b o0)
def MR (o0:B3) (Q:Int→Prop):Prop:=
 Q (o0.L.length:Int)
def RP  (Q:Int→Prop):Prop:=
 Q 0
def FX (o0:AA) (a0:Option Nat) (Q:Int→Prop):Prop:=
 Y1 a0 (RP  fun h=>Q h) fun b=>Z7 o0 b fun x=>MR x  fun h=>Q h
def GK (o0:B3) (Q:Int→Prop):Prop:=
 B1 (fun (s:Int×Int) next35=>match s with | (s33,s34)=>AD (decide (s34<(o0.L.length:Int))) (AD (decide (s33<0)) (next35 (s34,A7 (s34+1))) (AN o0.L s34 fun D=>AN o0.L s33 fun h=>AD (decide (D.Seq<h.Seq)) (next35 (s34,A7 (s34+1))) (next35 (s33,A7 (s34+1))))) (Q s33)) ((-1),0)
def OL  (Q:Int→Prop):Prop:=
 B1 (fun (_:Unit) next1=>Q (-1)) ()
def H6 (o0:AA) (a0:Option Nat) (Q:Int→Prop):Prop:=
 Y1 a0 (OL  fun h=>Q h) fun b=>Z7 o0 b fun x=>GK x  fun h=>Q h
def ET (o0:AM) (o1:A4) (o2:AA) (Q:(Bool×A4×AA)→Prop):Prop:=
 B1 (fun (s:Bool×Int×A4×AA) next103=>match s with | (s99,s100,s101,s102)=>AD (decide (s100<(o0.W.length:Int))) (DN o0 s101 s102 s100 fun D=>AD D.1 (next103 (true,A7 (s100+1),D.2.1,D.2.2)) (next103 (s99,A7 (s100+1),D.2.1,D.2.2))) (B1 (fun (s:Bool×Int×A4×AA) next589=>match s with | (s585,s586,s587,s588)=>AD (decide (s586<(o0.W.length:Int))) (B1 (fun (s:Bool×Int×A4×AA) next761=>match s with | (s757,s758,s759,s760)=>AD (decide (s758<(o0.W.length:Int))) (BX o0 s759 s760 s586 s758 (fun _=>False) (fun G=>FX s760 G fun O=>H6 s760 G fun J=>CW o0 s759 s760 s586 s758 J fun h=>AD s757 (next761 (true,A7 (s758+1),h.2.1,h.2.2)) (FX h.2.2 G fun U=>next761 (decide (U<O),A7 (s758+1),h.2.1,h.2.2)))) (next589 (s757,A7 (s586+1),s759,s760))) (s585,0,s587,s588)) (Q (s585,s587,s588))) (s99,0,s101,s102))) (false,0,o1,o2)
def GL (o0:AM) (o1:A4) (o2:AA) (a0:FP) (Q:(Bool×A4×AA)→Prop):Prop:=
 RN a0 fun U=>AD (!U) (Q (false,o1,o2)) (AD (a0.Kind==1) (DN o0 o1 o2 a0.A fun D=>Q (D.1,D.2.1,D.2.2)) (AD (a0.Kind==2) (CW o0 o1 o2 a0.A a0.B a0.K fun G=>Q (G.1,G.2.1,G.2.2)) (AD (a0.Kind==3) (BX o0 o1 o2 a0.A a0.B (fun r48=>GI a0.K fun V=>Q (V==0,o1,o2)) (fun Y=>KN o2 Y a0.K fun J=>Q (J.1==0,o1,J.2))) (AD (a0.Kind==4) (BX o0 o1 o2 a0.A a0.B (fun r74=>IA a0.K fun W=>Q (W==0,o1,o2)) (fun Z=>MQ o2 Z a0.K fun O=>Q (O.1==0,o1,O.2))) (ET o0 o1 o2 fun h=>Q (h.1,h.2.1,h.2.2))))))
def FB (o0:AM) (o1:A4) (Q:Bool→Prop):Prop:=
 B1 (fun (h:Int) next86=>AD (decide (h<(o0.W.length:Int))) (AN o0.W h fun G=>CE o1 G fun J D=>AD (decide (D.At<(o0.S.length:Int))) (Q false) (next86 (A7 (h+1)))) (Q true)) 0
def E5 (o0:AM) (o1:A4) (Q:(List AB)→Prop):Prop:=
 B1 (fun (s:(List (List AB))×Int) next3395=>match s with | (s3389,s3393)=>AD (decide (s3393<(o0.W.length:Int))) (AN o0.W s3393 fun Y=>B1 (fun (s:(Option Nat)×(List AB)×Int) next3850=>match s with | (s3843,s3844,s3848)=>CE o1 s3843 fun D x3879=>AD (decide (s3848<(x3879.Has.length:Int))) (CE o1 (some D) fun _ U=>AN U.Has s3848 fun h=>CE o1 (some D) fun _ Z=>EQ o0.P.A.Rows o0.P.R Z.I fun O=>CE o1 (some D) fun _ V=>EQ o0.P.B.Cols o0.P.C V.J fun G=>ED 32 s3844 ([({ Row:=A7 (h.Row+O),Col:=A7 (h.Col+G),Val:=h.Val }:AB)]) fun _=>next3850 ((some D),(s3844++([({ Row:=A7 (h.Row+O),Col:=A7 (h.Col+G),Val:=h.Val }:AB)])),A7 (s3848+1))) (ED 24 s3389 ([s3844]) fun _=>next3395 ((s3389++([s3844])),A7 (s3393+1)))) (Y,([]:List AB),0)) (HU o0.P.Ring s3389 fun r4072=>Q r4072.1)) (([]:List (List AB)),0)
def EU (o0:AM) (o1:A4) (Q:(Rows×Int)→Prop):Prop:=
 E5 o0 o1 fun D=>TH o0.P.Ring o0.P.A.Rows o0.P.B.Cols D fun h=>Q (h.1,h.2)
def IC (a0:Int) (a1:Int) (a2:Int) (Q:Int→Prop):Prop:=
 NI a0 fun h=>AD (!h) (Q (-1)) (AD (decide (a1<0)) (Q (-1)) (AD (decide (8≤a1)) (Q (-1)) (AD (decide (a2<0)) (Q (-1)) (AD (decide (a0≤a2)) (Q (-1)) (Q (A7 ((A7 (a1*a0))+a2)))))))
def CC (o1:CH) (o2:Int) (o3:A2) (o4:AF) (a0:Int) (a1:Int) (a2:Int) (G:List A3) (Q:AF→Prop):Prop:=
 IC o1.C o4.i o4.j fun D=>IC o1.C a1 a2 fun h=>ED 136 o4.out ([({ Kind:=a0,From:=D,To:=h,Seq:=0,Round:=o2,Vec:=G3,Sums:=([]:List P6),Triples:=G,N:=0,Over:=false }:AO)]) fun _=>Q ({ o4 with out:=(o4.out++([({ Kind:=a0,From:=D,To:=h,Seq:=0,Round:=o2,Vec:=G3,Sums:=([]:List P6),Triples:=G,N:=0,Over:=false }:AO)])) }:AF)
def FR (o0:A1) (o1:AF) (o2:A2) (a0:Int) (a1:AX) (Q:AF→Prop):Prop:=
 EC (fun (J:(Int×Int×Int×Int×(List Int)×(List Int)×(List Int)×(List AO)×(List (BE×(List A3)))×Int×(List AB))→Prop)=>AD (a1.Col==o1.j) (HZ o0.p.A.Rows o0.p.R o1.i fun W=>LD o0.p.A W (a1.From,a1.To) fun V=>M0 V fun Z=>B1 (fun (s:Int×Int×Int×Int×(List Int)×(List Int)×(List Int)×(List AO)×(List (BE×(List A3)))×Int×(List AB)×Int) next746=>match s with | (s719,s720,s721,s722,s723,s727,s731,s735,s739,s740,s741,s745)=>AD (decide (s745<o0.p.C)) (CC o0.p a0 o2 ({ i:=s719,j:=s720,mask:=({ Rows:=s721,Cols:=s722,Start:=s723,Col:=s727,Val:=s731 }:Rows),out:=s735,parts:=s739,at_:=s740,has:=s741 }:AF) 6 s719 s745 Z fun D=>next746 (D.i,D.j,D.mask.Rows,D.mask.Cols,D.mask.Start,D.mask.Col,D.mask.Val,D.out,D.parts,D.at_,D.has,A7 (s745+1))) (J (s719,s720,s721,s722,s723,s727,s731,s735,s739,s740,s741))) (o1.i,o1.j,o1.mask.Rows,o1.mask.Cols,o1.mask.Start,o1.mask.Col,o1.mask.Val,o1.out,o1.parts,o1.at_,o1.has,0)) (J (o1.i,o1.j,o1.mask.Rows,o1.mask.Cols,o1.mask.Start,o1.mask.Col,o1.mask.Val,o1.out,o1.parts,o1.at_,o1.has))) fun (G,s515,s516,s517,s518,s522,s526,s530,s534,s535,s536)=>AD (a1.Row==G) (HZ o0.p.B.Cols o0.p.C s515 fun Y=>LD o0.p.B (a1.From,a1.To) Y fun O=>M0 O fun U=>B1 (fun (s:Int×Int×Int×Int×(List Int)×(List Int)×(List Int)×(List AO)×(List (BE×(List A3)))×Int×(List AB)×Int) next984=>match s with | (s957,s958,s959,s960,s961,s965,s969,s973,s977,s978,s979,s983)=>AD (decide (s983<o0.p.R)) (CC o0.p a0 o2 ({ i:=s957,j:=s958,mask:=({ Rows:=s959,Cols:=s960,Start:=s961,Col:=s965,Val:=s969 }:Rows),out:=s973,parts:=s977,at_:=s978,has:=s979 }:AF) 7 s983 s958 U fun h=>next984 (h.i,h.j,h.mask.Rows,h.mask.Cols,h.mask.Start,h.mask.Col,h.mask.Val,h.out,h.parts,h.at_,h.has,A7 (s983+1))) (Q ({ i:=s957,j:=s958,mask:=({ Rows:=s959,Cols:=s960,Start:=s961,Col:=s965,Val:=s969 }:Rows),out:=s973,parts:=s977,at_:=s978,has:=s979 }:AF))) (G,s515,s516,s517,s518,s522,s526,s530,s534,s535,s536,0)) (Q ({ i:=G,j:=s515,mask:=({ Rows:=s516,Cols:=s517,Start:=s518,Col:=s522,Val:=s526 }:Rows),out:=s530,parts:=s534,at_:=s535,has:=s536 }:AF))
def EV (o0:A2) (o1:A6) (a0:CH) (Y:(Int×A2)→Prop) (Z:(Int×A2×A1)→Prop):Prop:=
 HT a0 fun W=>AD (W != 0) (Y (W,o0)) (KS a0.A.Cols a0.R a0.C fun U=>B1 (fun (s:(List (Option Nat))×Int×A2) next1142=>match s with | (s1135,s1139,s1140)=>AD (decide (s1139<(A7 (a0.R*a0.C)))) (SP a0.C s1139 fun J=>UV a0.C s1139 fun O=>PP a0.Mask a0.R a0.C J O fun D=>B1 (fun (s:Int×Int×Int×Int×(List Int)×(List Int)×(List Int)×(List AO)×(List (BE×(List A3)))×Int×(List AB)×Int) next1604=>match s with | (s1575,s1576,s1577,s1578,s1579,s1583,s1587,s1591,s1595,s1596,s1597,s1601)=>AD (decide (s1601<(U.length:Int))) (AN U s1601 fun V=>FR ({ p:=a0,stages:=U,workers:=s1135,boxes:=([]:List ((Int×Int)×(Option Nat))) }:A1) ({ i:=s1575,j:=s1576,mask:=({ Rows:=s1577,Cols:=s1578,Start:=s1579,Col:=s1583,Val:=s1587 }:Rows),out:=s1591,parts:=s1595,at_:=s1596,has:=s1597 }:AF) s1140 s1601 V fun h=>next1604 (h.i,h.j,h.mask.Rows,h.mask.Cols,h.mask.Start,h.mask.Col,h.mask.Val,h.out,h.parts,h.at_,h.has,A7 (s1601+1))) (AaO s1140 fun G=>ED 8 s1135 ([(some G)]) fun _=>next1142 ((s1135++([(some G)])),A7 (s1139+1),((G,({ i:=s1575,j:=s1576,mask:=({ Rows:=s1577,Cols:=s1578,Start:=s1579,Col:=s1583,Val:=s1587 }:Rows),out:=s1591,parts:=s1595,at_:=s1596,has:=s1597 }:AF)) :: s1140)))) (J,O,D.Rows,D.Cols,D.Start,D.Col,D.Val,([]:List AO),([]:List (BE×(List A3))),0,([]:List AB),0)) (Z (0,s1140,({ p:=a0,stages:=U,workers:=s1135,boxes:=([]:List ((Int×Int)×(Option Nat))) }:A1)))) (([]:List (Option Nat)),0,o0))
def OX (a0:FP) (Q:Bool→Prop):Prop:=
 Q9 a0 fun h=>Q (!h)
def DI (a0:List FP) (Q:Int→Prop):Prop:=
 B1 (fun (h:Int) next46=>AD (decide (h<(a0.length:Int))) (AN a0 h fun G=>OX G fun D=>AD D (Q h) (next46 (A7 (h+1)))) (Q (-1))) 0
def CG (a0:List FP) (Q:Bool→Prop):Prop:=
 DI a0 fun h=>Q (decide (0≤h))
def D5 (o0:A1) (o1:A2) (a0:Int) (Q:Bool→Prop):Prop:=
 AD (decide (0≤a0)) (Q (decide (a0<(o0.workers.length:Int)))) (Q false)
def CX (o0:A1) (o1:A2) (a0:Int) (Q:Int→Prop):Prop:=
 D5 o0 o1 a0 fun G=>AD (!G) (Q 0) (AN o0.workers a0 fun h=>CE o1 h fun J D=>Q (D.out.length:Int))
def PD (a0:Int) (h:Int→Prop) (D:(Int×AZ)→Prop):Prop:=
 AD (decide (a0<1)) (h 3) (AD (decide (64<a0)) (h 3) (D (0,({ room:=a0,row:=([]:List Int),by_:=([]:List (Int×AO)),often:=([]:List (Int×Int)),sent:=0,taken:=0 }:AZ))))
def BZ (o0:A1) (o1:A2) (o2:A6) (a0:Int) (a1:Int) (W:(A1×A6)→Prop) (Y:((Option Nat)×A1×A6)→Prop):Prop:=
 D5 o0 o1 a0 fun G=>AD (!G) (W (o0,o2)) (D5 o0 o1 a1 fun J=>AD (!J) (W (o0,o2)) (wN o0.boxes (a0,a1) none fun V=>AD V.isNone (PD o0.p.Room (fun _=>False) (fun D=>AaO o2 fun h=>wN (FF (a0,a1) (some h) o0.boxes) (a0,a1) none fun O=>Y (O,({ o0 with boxes:=(FF (a0,a1) (some h) o0.boxes) }:A1),((h,D.2) :: o2)))) (wN o0.boxes (a0,a1) none fun U=>Y (U,o0,o2))))
def GM (o0:AZ) (Q:Bool→Prop):Prop:=
 Q (decide (o0.room≤(o0.row.length:Int)))
def HE (o0:AZ) (a0:Int) (Q:AZ→Prop):Prop:=
 ED 8 o0.row ([a0]) fun _=>wN o0.often a0 0 fun h=>Q ({ o0 with row:=(o0.row++([a0])),often:=(FF a0 (A7 (h+1)) o0.often) }:AZ)
def J0 (o0:AZ) (a0:AO) (Q:(Int×AZ)→Prop):Prop:=
 GM o0 fun D=>AD D (Q (9,o0)) (UX a0 fun G=>HE ({ o0 with by_:=(FF o0.sent ({ G with Seq:=o0.sent }:AO) o0.by_) }:AZ) o0.sent fun h=>Q (0,({ h with sent:=A7 (h.sent+1) }:AZ)))
def RQ (a0:AO) (Q:Int→Prop):Prop:=
 Q 10
def NM (o0:A6) (a0:Option Nat) (a1:AO) (Q:(Int×A6)→Prop):Prop:=
 Y1 a0 (RQ a1 fun h=>Q (h,o0)) fun b=>Z7 o0 b fun x=>J0 x a1 fun h=>Q (h.1,(b,h.2) :: BM b o0)
def CY (o0:A1) (o1:A2) (o2:A6) (a0:Int) (Q:(Bool×A1×A2×A6)→Prop):Prop:=
 CX o0 o1 a0 fun W=>AD (W==0) (Q (false,o0,o1,o2)) (AN o0.workers a0 fun Y=>CE o1 Y fun D O=>AN O.out 0 fun U=>AN O.out 0 fun V=>BZ o0 (BM D o1) o2 a0 U.To (fun _=>False) (fun G=>NM G.2.2 G.1 V fun J=>AD (J.1 != 0) (Q (false,G.2.1,o1,J.2)) (CE o1 (some D) fun _ h=>uN h.out 1 (h.out.length:Int) fun _=>Q (true,G.2.1,((D,({ h with out:=((h.out.take (h.out.length:Int).toNat).drop (Int.toNat 1)) }:AF)) :: (BM D o1)),J.2))))
def FJ (a0:Int) (Q:Int→Prop):Prop:=
 Q 10
def J6 (a0:Int) (Q:(AO×Bool×Int)→Prop):Prop:=
 FJ a0 fun h=>AD (h != 0) (Q (({ Kind:=0,From:=0,To:=0,Seq:=0,Round:=0,Vec:=G3,Sums:=([]:List P6),Triples:=([]:List A3),N:=0,Over:=false }:AO),false,h)) (False)
def GB (o0:AZ) (a0:Int) (Q:Int→Prop):Prop:=
 AD (decide (a0<0)) (Q 3) (AD (decide ((o0.row.length:Int)≤a0)) (Q 3) (Q 0))
def DP (o0:List Int) (a0:Int) (a1:Int) (Q:(List Int)→Prop):Prop:=
 uN o0 a0 a1 fun _=>AD (a0==a1) (Q o0) (uN o0 0 a0 fun _=>uN o0 a1 (o0.length:Int) fun _=>Q (o0.take a0.toNat++o0.drop a1.toNat))
def KA (o0:AZ) (a0:Int) (Q:(AO×AZ)→Prop):Prop:=
 AN o0.row a0 fun h=>wN o0.by_ h ({ Kind:=0,From:=0,To:=0,Seq:=0,Round:=0,Vec:=G3,Sums:=([]:List P6),Triples:=([]:List A3),N:=0,Over:=false }:AO) fun G=>DP o0.row a0 (A7 (a0+1)) fun J=>wN o0.often h 0 fun D=>wN (FF h (A7 (D - 1)) o0.often) h 0 fun O=>AD (O==0) (Q (G,({ o0 with row:=J,by_:=(BM h o0.by_),often:=(BM h (FF h (A7 (D - 1)) o0.often)) }:AZ))) (Q (G,({ o0 with row:=J,often:=(FF h (A7 (D - 1)) o0.often) }:AZ)))
def J7 (o0:AZ) (a0:Int) (Q:(AO×Bool×Int×AZ)→Prop):Prop:=
 GB o0 a0 fun D=>AD (D != 0) (Q (({ Kind:=0,From:=0,To:=0,Seq:=0,Round:=0,Vec:=G3,Sums:=([]:List P6),Triples:=([]:List A3),N:=0,Over:=false }:AO),false,D,o0)) (AN o0.row a0 fun J=>AD (decide (o0.taken<J)) (Q (({ Kind:=0,From:=0,To:=0,Seq:=0,Round:=0,Vec:=G3,Sums:=([]:List P6),Triples:=([]:List A3),N:=0,Over:=false }:AO),false,D,o0)) (KA o0 a0 fun h=>AD (decide (h.1.Seq<h.2.taken)) (Q (({ Kind:=0,From:=0,To:=0,Seq:=0,Round:=0,Vec:=G3,Sums:=([]:List P6),Triples:=([]:List A3),N:=0,Over:=false }:AO),false,0,h.2)) (UX h.1 fun G=>Q (G,true,0,({ room:=h.2.room,row:=h.2.row,by_:=h.2.by_,often:=h.2.often,sent:=h.2.sent,taken:=A7 (h.2.taken+1) }:AZ)))))
def NN (o0:A6) (a0:Option Nat) (a1:Int) (Q:(AO×Bool×Int×A6)→Prop):Prop:=
 Y1 a0 (J6 a1 fun h=>Q (h.1,h.2.1,h.2.2,o0)) fun b=>Z7 o0 b fun x=>J7 x a1 fun h=>Q (h.1,h.2.1,h.2.2.1,(b,h.2.2.2) :: BM b o0)
def DQ (o0:A1) (o1:A2) (a0:Option Nat) (Q:(Bool×A2)→Prop):Prop:=
 CE o1 a0 fun b18 x19=>AD (decide ((o0.stages.length:Int)≤x19.at_)) (Q (false,o1)) (CE o1 (some b18) fun _ G=>CE o1 (some b18) fun _ x73=>kL x73.parts ({ kind:=6,stage:=G.at_ }:BE) ([]:List A3) fun r81 t86=>CE o1 (some b18) fun _ x109=>kL x109.parts ({ kind:=7,stage:=G.at_ }:BE) ([]:List A3) fun Z t122=>AD (!t86) (Q (false,o1)) (AD (!t122) (Q (false,o1)) (CE o1 (some b18) fun _ U=>AN o0.stages U.at_ fun W=>AN o0.stages U.at_ fun V=>CE o1 (some b18) fun _ x205=>QC o0.p.Ring x205.mask.Rows (A7 (W.To - V.From)) r81 fun r214=>CE o1 (some b18) fun _ x246=>QC o0.p.Ring (A7 (W.To - V.From)) x246.mask.Cols Z fun r255=>CE o1 (some b18) fun _ x287=>QD o0.p.Ring r214.1 r255.1 x287.mask fun r295=>CE o1 (some b18) fun _ D=>NK o0.p.Ring ([D.has,r295.1]:List (List AB)) fun J=>CE ((b18,({ D with has:=J.1 }:AF)) :: (BM b18 o1)) (some b18) fun _ h=>CE ((b18,({ h with parts:=(BM ({ kind:=6,stage:=G.at_ }:BE) h.parts) }:AF)) :: (BM b18 ((b18,({ D with has:=J.1 }:AF)) :: (BM b18 o1)))) (some b18) fun _ O=>CE ((b18,({ O with parts:=(BM ({ kind:=7,stage:=G.at_ }:BE) O.parts) }:AF)) :: (BM b18 ((b18,({ h with parts:=(BM ({ kind:=6,stage:=G.at_ }:BE) h.parts) }:AF)) :: (BM b18 ((b18,({ D with has:=J.1 }:AF)) :: (BM b18 o1)))))) (some b18) fun _ Y=>Q (true,((b18,({ Y with at_:=A7 (Y.at_+1) }:AF)) :: (BM b18 ((b18,({ O with parts:=(BM ({ kind:=7,stage:=G.at_ }:BE) O.parts) }:AF)) :: (BM b18 ((b18,({ h with parts:=(BM ({ kind:=6,stage:=G.at_ }:BE) h.parts) }:AF)) :: (BM b18 ((b18,({ D with has:=J.1 }:AF)) :: (BM b18 o1))))))))))))
def CZ (o0:A1) (o1:A2) (o2:A6) (a0:Int) (a1:Int) (a2:Int) (Q:(Bool×A1×A2×A6)→Prop):Prop:=
 BZ o0 o1 o2 a0 a1 (fun O=>J6 a2 fun V=>AD (!V.2.1) (Q (false,O.1,o1,O.2)) (False)) (fun h=>NN h.2.2 h.1 a2 fun D=>AD (!D.2.1) (Q (false,h.2.1,o1,D.2.2.2)) (AN h.2.1.workers a1 fun Y=>CE o1 Y fun G U=>B1 (fun (W:A2) next214=>DQ h.2.1 W (some G) fun J=>AD J.1 (next214 J.2) (Q (true,h.2.1,J.2,D.2.2.2))) ((G,({ U with parts:=(FF ({ kind:=D.1.Kind,stage:=D.1.Round }:BE) D.1.Triples U.parts) }:AF)) :: (BM G o1))))
def RR   : Prop:=
 False
def H7 (a0:Int) (Q:Int→Prop):Prop:=
 FJ a0 fun h=>AD (h != 0) (Q h) (RR )
def H8 (o0:AZ) (a0:Int) (Q:(Int×AZ)→Prop):Prop:=
 GB o0 a0 fun h=>AD (h != 0) (Q (h,o0)) (GM o0 fun J=>AD J (Q (9,o0)) (AN o0.row a0 fun D=>HE o0 D fun G=>Q (0,G)))
def LV (o0:A6) (a0:Option Nat) (a1:Int) (Q:(Int×A6)→Prop):Prop:=
 Y1 a0 (H7 a1 fun h=>Q (h,o0)) fun b=>Z7 o0 b fun x=>H8 x a1 fun h=>Q (h.1,(b,h.2) :: BM b o0)
def J8 (a0:Int) (Q:Int→Prop):Prop:=
 FJ a0 fun h=>AD (h != 0) (Q h) (False)
def J9 (o0:AZ) (a0:Int) (Q:(Int×AZ)→Prop):Prop:=
 GB o0 a0 fun h=>AD (h != 0) (Q (h,o0)) (AN o0.row a0 fun D=>DP o0.row a0 (A7 (a0+1)) fun G=>ED 8 G ([D]) fun _=>Q (0,({ o0 with row:=(G++([D])) }:AZ)))
def NO (o0:A6) (a0:Option Nat) (a1:Int) (Q:(Int×A6)→Prop):Prop:=
 Y1 a0 (J8 a1 fun h=>Q (h,o0)) fun b=>Z7 o0 b fun x=>J9 x a1 fun h=>Q (h.1,(b,h.2) :: BM b o0)
def HF (o0:AZ) (Q:Int→Prop):Prop:=
 Q (o0.row.length:Int)
def HG  (Q:Int→Prop):Prop:=
 Q 0
def EM (o0:A6) (a0:Option Nat) (Q:Int→Prop):Prop:=
 Y1 a0 (HG  fun h=>Q h) fun b=>Z7 o0 b fun x=>HF x  fun h=>Q h
def IU (o0:Int) (a0:Int) (Q:Bool→Prop):Prop:=
 Q (a0==o0)
def DY (o0:List Int) (o1:Int) (Q:Int→Prop):Prop:=
 B1 (fun (h:Int) next40=>AD (decide (h<(o0.length:Int))) (AN o0 h fun D=>IU o1 D fun G=>AD G (Q h) (next40 (A7 (h+1)))) (Q (-1))) 0
def H9 (o0:AZ) (Q:Int→Prop):Prop:=
 HF o0 fun G=>AD (G==0) (Q (-1)) (I4 o0.row fun D=>DY o0.row D fun h=>Q h)
def P0  (Q:Int→Prop):Prop:=
 HG  fun h=>AD (h==0) (Q (-1)) (False)
def ID (o0:A6) (a0:Option Nat) (Q:Int→Prop):Prop:=
 Y1 a0 (P0  fun h=>Q h) fun b=>Z7 o0 b fun x=>H9 x  fun h=>Q h
def DV (o0:A1) (o1:A2) (o2:A6) (Q:(Bool×A1×A2×A6)→Prop):Prop:=
 B1 (fun (s:A1×Bool×Int×A2×A6) next159=>match s with | (s152,s155,s156,s157,s158)=>AD (decide (s156<(o0.workers.length:Int))) (CY s152 s157 s158 s156 fun D=>AD D.1 (next159 (D.2.1,true,A7 (s156+1),D.2.2.1,D.2.2.2)) (next159 (D.2.1,s155,A7 (s156+1),D.2.2.1,D.2.2.2))) (B1 (fun (s:A1×Bool×Int×A2×A6) next675=>match s with | (s668,s671,s672,s673,s674)=>AD (decide (s672<(s152.workers.length:Int))) (B1 (fun (s:A1×Bool×Int×A2×A6) next851=>match s with | (s844,s847,s848,s849,s850)=>AD (decide (s848<(s668.workers.length:Int))) (wN s844.boxes (s672,s848) none fun G=>EM s850 G fun O=>ID s850 G fun J=>CZ s844 s849 s850 s672 s848 J fun h=>AD s847 (next851 (h.2.1,true,A7 (s848+1),h.2.2.1,h.2.2.2)) (EM h.2.2.2 G fun U=>next851 (h.2.1,decide (U<O),A7 (s848+1),h.2.2.1,h.2.2.2))) (next675 (s844,s847,A7 (s672+1),s849,s850))) (s668,s671,0,s673,s674)) (Q (s671,s668,s673,s674))) (s152,s155,0,s157,s158))) (o0,false,0,o1,o2)
def DJ (o0:A1) (o1:A2) (o2:A6) (a0:FP) (Q:(Bool×A1×A2×A6)→Prop):Prop:=
 Q9 a0 fun r18=>AD (!r18) (Q (false,o0,o1,o2)) (AD (a0.Kind==1) (CY o0 o1 o2 a0.A fun J=>Q (J.1,J.2.1,J.2.2.1,J.2.2.2)) (AD (a0.Kind==2) (CZ o0 o1 o2 a0.A a0.B a0.K fun G=>Q (G.1,G.2.1,G.2.2.1,G.2.2.2)) (AD (a0.Kind==3) (BZ o0 o1 o2 a0.A a0.B (fun Z=>H7 a0.K fun r84=>Q (r84==0,Z.1,o1,Z.2)) (fun V=>LV V.2.2 V.1 a0.K fun Y=>Q (Y.1==0,V.2.1,o1,Y.2))) (AD (a0.Kind==4) (BZ o0 o1 o2 a0.A a0.B (fun U=>J8 a0.K fun W=>Q (W==0,U.1,o1,U.2)) (fun D=>NO D.2.2 D.1 a0.K fun O=>Q (O.1==0,D.2.1,o1,O.2))) (DV o0 o1 o2 fun h=>Q (h.1,h.2.1,h.2.2.1,h.2.2.2))))))
def G5 (o1:A2) (o2:A1) (a0:Option Nat) (Q:Bool→Prop):Prop:=
 CE o1 a0 fun b10 h=>Q (decide (h.at_<(o2.stages.length:Int)))
def CO (o1:A2) (o2:A1) (a0:List (Option Nat)) (Q:Int→Prop):Prop:=
 B1 (fun (h:Int) next55=>AD (decide (h<(a0.length:Int))) (AN a0 h fun G=>G5 o1 o2 G fun D=>AD D (Q h) (next55 (A7 (h+1)))) (Q (-1))) 0
def CI (o1:A2) (o2:A1) (a0:List (Option Nat)) (Q:Bool→Prop):Prop:=
 CO o1 o2 a0 fun h=>Q (decide (0≤h))
def BW (o0:A1) (o1:A2) (Q:Bool→Prop):Prop:=
 CI o1 o0 o0.workers fun h=>Q (!h)
def DB (o0:A1) (o1:A2) (Q:(List AB)→Prop):Prop:=
 B1 (fun (s:(List AB)×Int) next401=>match s with | (s395,s399)=>AD (decide (s399<(o0.workers.length:Int))) (AN o0.workers s399 fun W=>CE o1 W fun U D=>FL o0.p.A.Rows o0.p.R D.i fun O=>FL o0.p.B.Cols o0.p.C D.j fun J=>CE o1 (some U) fun _ G=>B1 (fun (s:(List AB)×Int) next556=>match s with | (s551,s555)=>AD (decide (s555<(G.has.length:Int))) (AN G.has s555 fun h=>ED 32 s551 ([({ Row:=A7 (h.Row+O),Col:=A7 (h.Col+J),Val:=h.Val }:AB)]) fun _=>next556 ((s551++([({ Row:=A7 (h.Row+O),Col:=A7 (h.Col+J),Val:=h.Val }:AB)])),A7 (s555+1))) (next401 (s551,A7 (s399+1)))) (s395,0)) (sS G2 s395 fun V=>Q V)) (([]:List AB),0)
def BU (o0:A1) (o1:A2) (Q:(Rows×Int)→Prop):Prop:=
 DB o0 o1 fun D=>WJ o0.p.Ring o0.p.A.Rows o0.p.B.Cols D fun h=>Q (h.1,h.2)
def PS (a0:CH) (a1:List FP) (a2:Int) (Q:(Rows×Bool×Int)→Prop):Prop:=
 EV ([]:A2) ([]:A6) a0 (fun W=>AD (W.1 != 0) (Q (B4,false,W.1)) (False)) (fun G=>AD (G.1 != 0) (Q (B4,false,G.1)) (AD (decide (1048576<(a1.length:Int))) (Q (B4,false,5)) (CG a1 fun r105=>AD r105 (Q (B4,false,8)) (AD (decide (a2<0)) (Q (B4,false,3)) (AD (decide (1048576<a2)) (Q (B4,false,3)) (B1 (fun (s:A1×Int×A2×A6) next308=>match s with | (s302,s305,s306,s307)=>AD (decide (s305<(a1.length:Int))) (AN a1 s305 fun V=>DJ s302 s306 s307 V fun D=>next308 (D.2.1,A7 (s305+1),D.2.2.1,D.2.2.2)) (EC (fun (J:(A1×A2×A6)→Prop)=>B1 (fun (s:A1×Int×A2×A6) next664=>match s with | (s658,s661,s662,s663)=>AD (decide (s661<a2)) (BW s658 s662 fun Y=>AD (!Y) (DV s658 s662 s663 fun h=>next664 (h.2.1,A7 (s661+1),h.2.2.1,h.2.2.2)) (J (s658,s662,s663))) (J (s658,s662,s663))) (s302,0,s306,s307)) fun (O,s579,s580)=>BU O s579 fun U=>BW O s579 fun Z=>Q (U.1,Z,U.2))) (G.2.2,0,G.2.1,([]:A6))))))))
def D6 (o0:A1) (o1:A2) (o2:A6) (a0:Int) (a1:Int) (Q:(Int×A1×A6)→Prop):Prop:=
 BZ o0 o1 o2 a0 a1 (fun D=>HG  fun G=>Q (G,D.1,D.2)) (fun h=>EM h.2.2 h.1 fun J=>Q (J,h.2.1,h.2.2))
def GZ (o0:A2) (Q:(Rows×Int)→Prop):Prop:=
 Q (B4,10)
def DW (o0:A1) (Q:Int→Prop):Prop:=
 Q (o0.stages.length:Int)
def JA (o0:AZ) (Q:Int→Prop):Prop:=
 Q o0.sent
def RS  (Q:Int→Prop):Prop:=
 Q 0
def NP (o0:A6) (a0:Option Nat) (Q:Int→Prop):Prop:=
 Y1 a0 (RS  fun h=>Q h) fun b=>Z7 o0 b fun x=>JA x  fun h=>Q h
def EG (o0:A1) (o1:A6) (Q:Int→Prop):Prop:=
 B1 (fun (s:(List ((Int×Int)×(Option Nat)))×Int) next74=>match s with | (s72,s73)=>sR s72 (Q s73) (fun G D=>NP o1 G.2 fun h=>next74 (D,A7 (s73+h)))) (o0.boxes,0)
def CS (o0:A1) (o1:A2) (a0:Int) (Q:Int→Prop):Prop:=
 D5 o0 o1 a0 fun G=>AD (!G) (Q 0) (AN o0.workers a0 fun h=>CE o1 h fun J D=>Q D.at_)
def TJ  (Q:Bool→Prop):Prop:=
 HC 5 2 2 ([({ Row:=0,Col:=1,Val:=3 }:A3),({ Row:=1,Col:=0,Val:=5 }:A3)]:List A3) fun D=>TI 2 2 fun O=>EV ([]:A2) ([]:A6) ({ Ring:=5,A:=D.1,B:=D.1,Mask:=O,R:=2,C:=1,Room:=1 }:CH) (fun _=>False) (fun W=>DJ W.2.2 W.2.1 ([]:A6) ({ Kind:=1,A:=0,B:=0,K:=0 }:FP) fun G=>D6 G.2.1 G.2.2.1 G.2.2.2 0 0 fun h=>JU ({ Ring:=5,A:=D.1,B:=D.1,Mask:=O,R:=2,C:=1,Room:=1 }:CH) fun r174=>PS ({ Ring:=5,A:=D.1,B:=D.1,Mask:=O,R:=2,C:=1,Room:=1 }:CH) ([]:List FP) r174 fun U=>SV U.1 0 0 fun V=>EV G.2.2.1 h.2.2 ({ Ring:=0,A:=B4,B:=B4,Mask:=B4,R:=0,C:=0,Room:=0 }:CH) (fun J=>GZ J.2 fun r249=>AD (W.1==0) (AD G.1 (AD (h.1==1) (DW h.2.1 fun r264=>AD (r264==2) (EG h.2.1 h.2.2 fun Y=>AD (Y==1) (BW h.2.1 J.2 fun r282=>AD (!r282) (AD (U.2.2==0) (AD U.2.1 (AD (V.1==15) (AD V.2 (AD (J.1==8) (AD (r249.2==10) (JU ({ Ring:=5,A:=D.1,B:=D.1,Mask:=O,R:=2,C:=1,Room:=1 }:CH) fun Z=>AD (Z==11) (CX h.2.1 J.2 0 fun r302=>AD (r302==3) (CS h.2.1 J.2 0 fun r311=>AD (r311==0) (HT ({ Ring:=5,A:=D.1,B:=D.1,Mask:=O,R:=2,C:=1,Room:=1 }:CH) fun r314=>Q (r314==0)) (Q false)) (Q false)) (Q false)) (Q false)) (Q false)) (Q false)) (Q false)) (Q false)) (Q false)) (Q false)) (Q false)) (Q false)) (Q false)) (Q false)) (Q false)) (fun _=>False))
def FS (o0:AM) (o1:AA) (Q:Int→Prop):Prop:=
 B1 (fun (s:Int×Int) next54=>match s with | (s52,s53)=>AD (decide (s53<(o0.B.length:Int))) (AN o0.B s53 fun h=>CE o1 h fun G D=>next54 (A7 (s52+D.Out),A7 (s53+1))) (Q s52)) (0,0)
def JV (o0:A1) (o1:AM) (o2:A2) (o3:A4) (o4:AA) (o5:A6) (Q:(Bool×A1×A6)→Prop):Prop:=
 B1 (fun (s:A1×Int×A6) next1311=>match s with | (s1306,s1309,s1310)=>AD (decide (s1309<(o1.W.length:Int))) (AN o1.W s1309 fun x1376=>CE o3 x1376 fun b1378 D=>CS s1306 o2 s1309 fun r1416=>AD (r1416 != D.At) (Q (false,s1306,s1310)) (CX s1306 o2 s1309 fun r1431=>AD (r1431 != (D.Out.length:Int)) (Q (false,s1306,s1310)) (B1 (fun (s:A1×Int×A6) next1526=>match s with | (s1521,s1524,s1525)=>AD (decide (s1524<(o1.W.length:Int))) (AN o1.B (A7 ((A7 (s1309*(o1.W.length:Int)))+s1524)) fun x1533=>D6 s1521 o2 s1525 s1309 s1524 fun h=>FX o4 x1533 fun Y=>AD (h.1 != Y) (Q (false,h.2.1,h.2.2)) (next1526 (h.2.1,A7 (s1524+1),h.2.2))) (next1311 (s1521,A7 (s1309+1),s1525))) (s1306,0,s1310)))) (BU s1306 o2 fun G=>EU o1 o3 fun J=>BW s1306 o2 fun Z=>FB o1 o3 fun V=>AD (Z==V) (DW s1306 fun r1638=>AD (r1638==(o1.S.length:Int)) (EG s1306 s1310 fun r1647=>FS o1 o4 fun r1655=>AD (r1647==r1655) (DB s1306 o2 fun r1664=>E5 o1 o3 fun O=>LH r1664 O fun r1680=>AD r1680 (TF G.1 J.1 fun U=>AD U (Q (G.2==J.2,s1306,s1310)) (Q (false,s1306,s1310))) (Q (false,s1306,s1310))) (Q (false,s1306,s1310))) (Q (false,s1306,s1310))) (Q (false,s1306,s1310)))) (o0,0,o5)
def NQ (a0:HX) (a1:GF) (Q:Bool→Prop):Prop:=
 LG a0 fun Y=>EV ([]:A2) ([]:A6) Y (fun _=>False) (fun W=>O4 ([]:A4) ([]:AA) Y (fun _=>False) (fun h=>AD (W.1 != 0) (Q false) (AD (h.1 != 0) (Q false) (JV W.2.2 h.2.2.2 W.2.1 h.2.1 h.2.2.1 ([]:A6) fun O=>AD (!O.1) (Q false) (I5 a1 (A7 ((A7 (Y.R*Y.C))+1)) fun J=>EC (fun (Z:(A1×A2×A4×AA×A6)→Prop)=>B1 (fun (s:A1×Int×A2×A4×AA×A6) next674=>match s with | (s666,s669,s670,s671,s672,s673)=>AD (decide (s669<(J.length:Int))) (AD (decide (s669<60)) (AN J s669 fun x683=>AN J s669 fun x692=>DJ s666 s670 s673 x683 fun G=>GL h.2.2.2 s671 s672 x692 fun V=>AD (!(G.1==V.1)) (Q false) (next674 (G.2.1,A7 (s669+1),G.2.2.1,V.2.1,V.2.2,G.2.2.2))) (Z (s666,s670,s671,s672,s673))) (Z (s666,s670,s671,s672,s673))) (O.2.1,0,W.2.1,h.2.1,h.2.2.1,O.2.2)) fun (s536,s539,s540,s541,s542)=>TJ  fun r732=>AD r732 (JV s536 h.2.2.2 s539 s540 s541 s542 fun U=>AD U.1 (DJ U.2.1 s539 U.2.2 ({ Kind:=0,A:=0,B:=0,K:=0 }:FP) fun D=>AD (!D.1) (CS D.2.1 D.2.2.1 (-1) fun r778=>AD (r778==0) (CX D.2.1 D.2.2.1 99 fun r788=>AD (r788==0) (D6 D.2.1 D.2.2.1 D.2.2.2 (-1) 0 fun r798=>Q (r798.1==0)) (Q false)) (Q false)) (Q false)) (Q false)) (Q false))))))
abbrev FM (D:Rows) (h:kQ):Array Value:=#[.int .i64 D.Rows,.int .i64 D.Cols,.slice h.1.1 D.Start.length h.1.2,.slice h.2.1.1 D.Col.length h.2.1.2,.slice h.2.2.1 D.Val.length h.2.2.2]
abbrev MT (h:CH) (D:xN):Array Value:=#[.int .i64 h.Ring,.int .i64 h.A.Rows,.int .i64 h.A.Cols,.slice D.1.1.1 h.A.Start.length D.1.1.2,.slice D.1.2.1.1 h.A.Col.length D.1.2.1.2,.slice D.1.2.2.1 h.A.Val.length D.1.2.2.2,.int .i64 h.B.Rows,.int .i64 h.B.Cols,.slice D.2.1.1.1 h.B.Start.length D.2.1.1.2,.slice D.2.1.2.1.1 h.B.Col.length D.2.1.2.1.2,.slice D.2.1.2.2.1 h.B.Val.length D.2.1.2.2.2,.int .i64 h.Mask.Rows,.int .i64 h.Mask.Cols,.slice D.2.2.1.1 h.Mask.Start.length D.2.2.1.2,.slice D.2.2.2.1.1 h.Mask.Col.length D.2.2.2.1.2,.slice D.2.2.2.2.1 h.Mask.Val.length D.2.2.2.2.2,.int .i64 h.R,.int .i64 h.C,.int .i64 h.Room]
abbrev JW (h:AO) (D:aTe):Array Value:=#[.int .i64 h.Kind,.int .i64 h.From,.int .i64 h.To,.int .i64 h.Seq,.int .i64 h.Round,.int .i64 h.Vec.N,.slice D.1.1 h.Vec.Items.length D.1.2,.slice D.2.1.1 h.Sums.length D.2.1.2,.slice D.2.2.1 h.Triples.length D.2.2.2,.int .i64 h.N,.bool h.Over]
abbrev RT (h:A1) (D:aTh) (J:Option Addr) (O:Nat) (G:Nat):Array Value:=#[.int .i64 h.p.Ring,.int .i64 h.p.A.Rows,.int .i64 h.p.A.Cols,.slice D.1.1.1.1 h.p.A.Start.length D.1.1.1.2,.slice D.1.1.2.1.1 h.p.A.Col.length D.1.1.2.1.2,.slice D.1.1.2.2.1 h.p.A.Val.length D.1.1.2.2.2,.int .i64 h.p.B.Rows,.int .i64 h.p.B.Cols,.slice D.1.2.1.1.1 h.p.B.Start.length D.1.2.1.1.2,.slice D.1.2.1.2.1.1 h.p.B.Col.length D.1.2.1.2.1.2,.slice D.1.2.1.2.2.1 h.p.B.Val.length D.1.2.1.2.2.2,.int .i64 h.p.Mask.Rows,.int .i64 h.p.Mask.Cols,.slice D.1.2.2.1.1 h.p.Mask.Start.length D.1.2.2.1.2,.slice D.1.2.2.2.1.1 h.p.Mask.Col.length D.1.2.2.2.1.2,.slice D.1.2.2.2.2.1 h.p.Mask.Val.length D.1.2.2.2.2.2,.int .i64 h.p.R,.int .i64 h.p.C,.int .i64 h.p.Room,.slice D.2.1 h.stages.length D.2.2,.slice J h.workers.length O,.map (some G)]
abbrev IE (h:AF) (D:kQ) (J:Option Addr) (V:Nat) (G:Nat) (U:Option Addr) (O:Nat):Array Value:=#[.int .i64 h.i,.int .i64 h.j,.int .i64 h.mask.Rows,.int .i64 h.mask.Cols,.slice D.1.1 h.mask.Start.length D.1.2,.slice D.2.1.1 h.mask.Col.length D.2.1.2,.slice D.2.2.1 h.mask.Val.length D.2.2.2,.slice J h.out.length V,.map (some G),.int .i64 h.at_,.slice U h.has.length O]
abbrev nR (D:EO) (h:aTi):Array Value:=#[.int .i64 D.Ring,.int .u8 D.Size.1,.int .u8 D.Size.2,.slice h.1.1 D.L.length h.1.2,.slice h.2.1.1 D.X.length h.2.1.2,.slice h.2.2.1.1 D.Y.length h.2.2.1.2,.slice h.2.2.2.1 D.F.length h.2.2.2.2,.bool D.Others]
abbrev nS (h:GV) (D:aTj):Array Value:=#[.int .i64 h.Ring,.int .u8 h.Size.1,.int .u8 h.Size.2.1,.int .u8 h.Size.2.2,.slice D.1.1 h.A.length D.1.2,.slice D.2.1.1 h.B.length D.2.1.2,.slice D.2.2.1 h.M.length D.2.2.2]
abbrev cL (h:HX) (D:aTj):Array Value:=#[.int .i64 h.T.Ring,.int .u8 h.T.Size.1,.int .u8 h.T.Size.2.1,.int .u8 h.T.Size.2.2,.slice D.1.1 h.T.A.length D.1.2,.slice D.2.1.1 h.T.B.length D.2.1.2,.slice D.2.2.1 h.T.M.length D.2.2.2,.int .u8 h.R,.int .u8 h.C,.int .u8 h.Room]
abbrev OM (h:AM) (D:aTm) (J:Option Addr) (U:Nat) (G:Option Addr) (O:Nat):Array Value:=#[.int .i64 h.P.Ring,.int .i64 h.P.A.Rows,.int .i64 h.P.A.Cols,.slice D.1.1.1.1 h.P.A.Start.length D.1.1.1.2,.slice D.1.1.2.1.1 h.P.A.Col.length D.1.1.2.1.2,.slice D.1.1.2.2.1 h.P.A.Val.length D.1.1.2.2.2,.int .i64 h.P.B.Rows,.int .i64 h.P.B.Cols,.slice D.1.2.1.1.1 h.P.B.Start.length D.1.2.1.1.2,.slice D.1.2.1.2.1.1 h.P.B.Col.length D.1.2.1.2.1.2,.slice D.1.2.1.2.2.1 h.P.B.Val.length D.1.2.1.2.2.2,.int .i64 h.P.Mask.Rows,.int .i64 h.P.Mask.Cols,.slice D.1.2.2.1.1 h.P.Mask.Start.length D.1.2.2.1.2,.slice D.1.2.2.2.1.1 h.P.Mask.Col.length D.1.2.2.2.1.2,.slice D.1.2.2.2.2.1 h.P.Mask.Val.length D.1.2.2.2.2.2,.int .i64 h.P.R,.int .i64 h.P.C,.int .i64 h.P.Room,.slice D.2.1 h.S.length D.2.2,.slice J h.W.length U,.slice G h.B.length O]
abbrev II (h:AQ) (D:kQ) (q1:Option Addr) (Z:Nat) (V:Option Addr) (Y:Nat) (W:Option Addr) (q6:Nat) (q7:Option Addr) (q8:Nat) (q9:Option Addr) (O:Nat) (G:Option Addr) (U:Nat):Array Value:=#[.int .i64 h.I,.int .i64 h.J,.int .i64 h.Mask.Rows,.int .i64 h.Mask.Cols,.slice D.1.1 h.Mask.Start.length D.1.2,.slice D.2.1.1 h.Mask.Col.length D.2.1.2,.slice D.2.2.1 h.Mask.Val.length D.2.2.2,.slice q1 h.Out.length Z,.slice V h.Lefts.length Y,.slice W h.Rights.length q6,.slice q7 h.L.length q8,.slice q9 h.R.length O,.int .i64 h.At,.slice G h.Has.length U]
abbrev CM (h:B3) (D:Option Addr) (G:Nat):Array Value:=#[.int .i64 h.Many,.int .i64 h.Out,.int .i64 h.In,.slice D h.L.length G]
abbrev BF (D:AM) (h:aTl):Array Value:=#[.int .i64 D.P.Ring,.int .i64 D.P.A.Rows,.int .i64 D.P.A.Cols,.slice h.1.1.1.1 D.P.A.Start.length h.1.1.1.2,.slice h.1.1.2.1.1 D.P.A.Col.length h.1.1.2.1.2,.slice h.1.1.2.2.1 D.P.A.Val.length h.1.1.2.2.2,.int .i64 D.P.B.Rows,.int .i64 D.P.B.Cols,.slice h.1.2.1.1.1 D.P.B.Start.length h.1.2.1.1.2,.slice h.1.2.1.2.1.1 D.P.B.Col.length h.1.2.1.2.1.2,.slice h.1.2.1.2.2.1 D.P.B.Val.length h.1.2.1.2.2.2,.int .i64 D.P.Mask.Rows,.int .i64 D.P.Mask.Cols,.slice h.1.2.2.1.1 D.P.Mask.Start.length h.1.2.2.1.2,.slice h.1.2.2.2.1.1 D.P.Mask.Col.length h.1.2.2.2.1.2,.slice h.1.2.2.2.2.1 D.P.Mask.Val.length h.1.2.2.2.2.2,.int .i64 D.P.R,.int .i64 D.P.C,.int .i64 D.P.Room,.slice h.2.1.1 D.S.length h.2.1.2,.slice h.2.2.1.1 D.W.length h.2.2.1.2,.slice h.2.2.2.1 D.B.length h.2.2.2.2]
abbrev AE (D:A1) (h:aTf) (G:Nat):Array Value:=#[.int .i64 D.p.Ring,.int .i64 D.p.A.Rows,.int .i64 D.p.A.Cols,.slice h.1.1.1.1 D.p.A.Start.length h.1.1.1.2,.slice h.1.1.2.1.1 D.p.A.Col.length h.1.1.2.1.2,.slice h.1.1.2.2.1 D.p.A.Val.length h.1.1.2.2.2,.int .i64 D.p.B.Rows,.int .i64 D.p.B.Cols,.slice h.1.2.1.1.1 D.p.B.Start.length h.1.2.1.1.2,.slice h.1.2.1.2.1.1 D.p.B.Col.length h.1.2.1.2.1.2,.slice h.1.2.1.2.2.1 D.p.B.Val.length h.1.2.1.2.2.2,.int .i64 D.p.Mask.Rows,.int .i64 D.p.Mask.Cols,.slice h.1.2.2.1.1 D.p.Mask.Start.length h.1.2.2.1.2,.slice h.1.2.2.2.1.1 D.p.Mask.Col.length h.1.2.2.2.1.2,.slice h.1.2.2.2.2.1 D.p.Mask.Val.length h.1.2.2.2.2.2,.int .i64 D.p.R,.int .i64 D.p.C,.int .i64 D.p.Room,.slice h.2.1.1 D.stages.length h.2.1.2,.slice h.2.2.1 D.workers.length h.2.2.2,.map (some G)]
abbrev BV (h:AZ) (G:Option Addr) (J:Nat) (O:Nat) (D:Nat):Array Value:=#[.int .i64 h.room,.slice G h.row.length J,.map (some O),.map (some D),.int .i64 h.sent,.int .i64 h.taken]
theorem tv:True:=trivial
end Go.Proofs.YtbohadngdkjljaaGreat
