/- Types. -/
import Derived.Test.YtkbkaodgfedfmaaGreatFwS
import Derived.Test.YtkbkaodgfedfmaaGreatFwK
import Derived.Test.YtkbkaodgfedfmaaGreatFwO
namespace Go.Proofs.YtkbkaodgfedfmaaGreat
open Go Go.Fw
set_option linter.unusedVariables false
set_option linter.unusedSimpArgs false
set_option maxRecDepth 8000
set_option maxHeartbeats 1000000
abbrev AR:EP Int:=KK 1 (λx=>[.int .i64 x]) (λ_=>⟨rfl,rfl⟩)
abbrev IC:EP Int:=KK 1 (λx=>[.int .u64 x]) (λ_=>⟨rfl,rfl⟩)
abbrev eU8:EP Int:=KK 1 (λx=>[.int .u8 x]) (λ_=>⟨rfl,rfl⟩)
abbrev eB:EP Bool:=KK 1 (λx=>[.bool x]) (λ_=>⟨rfl,rfl⟩)
structure B5 where
 From:Int
 To:Int
 W:Int
deriving DecidableEq,Inhabited
def KL (x:B5):List Value:=[.int .i64 x.From,.int .i64 x.To,.int .i64 x.W]
abbrev CW:EP B5:=KK 3 KL (λ_=>⟨rfl,rfl⟩)
structure Graph where
 N:Int
 Edges:List B5
deriving DecidableEq,Inhabited
def AlM:EP Graph where
 sz:=2
 rep I cs x:=∃ a1 c1,cs=[.int .i64 x.N,.slice a1 x.Edges.length c1]∧RepSl CW I a1 c1 x.Edges
 mono hle:=λ⟨a1,c1,e,h0⟩=>⟨a1,c1,e,h0.mono hle⟩
 len:=λ⟨a1,c1,e,_⟩=>by rw[e]; rfl
 one:=λ⟨a1,c1,e,_⟩=>by rw[e]; rfl
structure Plan where
 Kind:Int
 N:Int
 Source:Int
 Length:Int
 Draws:List Int
deriving DecidableEq,Inhabited
def AmY:EP Plan where
 sz:=5
 rep I cs x:=∃ a4 c4,cs=[.int .i64 x.Kind,.int .i64 x.N,.int .i64 x.Source,.int .i64 x.Length,.slice a4 x.Draws.length c4]∧RepSl AR I a4 c4 x.Draws
 mono hle:=λ⟨a4,c4,e,h0⟩=>⟨a4,c4,e,h0.mono hle⟩
 len:=λ⟨a4,c4,e,_⟩=>by rw[e]; rfl
 one:=λ⟨a4,c4,e,_⟩=>by rw[e]; rfl
structure H4 where
 P:Plan
 G:Graph
 Limit:Int
deriving DecidableEq,Inhabited
abbrev aTa:Type:=(Option Addr×Nat)×(Option Addr×Nat)
def lTa (I:IH) (x:aTa) (o:H4):Prop:=RepSl AR I x.1.1 x.1.2 o.P.Draws∧RepSl CW I x.2.1 x.2.2 o.G.Edges
theorem mTa {I J:IH} {x:aTa} {o:H4} (h:IH.le I J) (k:lTa I x o):lTa J x o:=⟨k.1.mono h,k.2.mono h⟩
def xW:EP H4 where
 sz:=8
 rep I cs x:=∃ a:aTa,cs=[.int .i64 x.P.Kind,.int .i64 x.P.N,.int .i64 x.P.Source,.int .i64 x.P.Length,.slice a.1.1 x.P.Draws.length a.1.2,.int .i64 x.G.N,.slice a.2.1 x.G.Edges.length a.2.2,.int .u8 x.Limit]∧lTa I a x
 mono hle:=λ⟨a,e,h⟩=>⟨a,e,mTa hle h⟩
 len:=λ⟨a,e,_⟩=>by rw[e]; rfl
 one:=λ⟨a,e,_⟩=>by rw[e]; rfl
structure ED where
 Way:Int
 Form:Int
deriving DecidableEq,Inhabited
def sE (x:ED):List Value:=[.int .i64 x.Way,.int .i64 x.Form]
abbrev PI:EP ED:=KK 2 sE (λ_=>⟨rfl,rfl⟩)
structure JO where
 Plan:Plan
 Graph:Graph
 R:Int
 C:Int
 Room:Int
 Limit:Int
 Choices:List ED
deriving DecidableEq,Inhabited
abbrev aTc:Type:=(Option Addr×Nat)×(Option Addr×Nat)×(Option Addr×Nat)
def lTc (I:IH) (x:aTc) (o:JO):Prop:=RepSl AR I x.1.1 x.1.2 o.Plan.Draws∧RepSl CW I x.2.1.1 x.2.1.2 o.Graph.Edges∧RepSl PI I x.2.2.1 x.2.2.2 o.Choices
theorem mTc {I J:IH} {x:aTc} {o:JO} (h:IH.le I J) (k:lTc I x o):lTc J x o:=⟨k.1.mono h,k.2.1.mono h,k.2.2.mono h⟩
structure G9 where
 Model:H4
 R:Int
 C:Int
 Room:Int
 Choices:List ED
deriving DecidableEq,Inhabited
abbrev aTb:Type:=aTa×(Option Addr×Nat)
def lTb (I:IH) (x:aTb) (o:G9):Prop:=lTa I x.1 o.Model∧RepSl PI I x.2.1 x.2.2 o.Choices
theorem mTb {I J:IH} {x:aTb} {o:G9} (h:IH.le I J) (k:lTb I x o):lTb J x o:=⟨mTa h k.1,k.2.mono h⟩
def xX:EP G9 where
 sz:=12
 rep I cs x:=∃ a:aTb,cs=[.int .i64 x.Model.P.Kind,.int .i64 x.Model.P.N,.int .i64 x.Model.P.Source,.int .i64 x.Model.P.Length,.slice a.1.1.1 x.Model.P.Draws.length a.1.1.2,.int .i64 x.Model.G.N,.slice a.1.2.1 x.Model.G.Edges.length a.1.2.2,.int .u8 x.Model.Limit,.int .u8 x.R,.int .u8 x.C,.int .u8 x.Room,.slice a.2.1 x.Choices.length a.2.2]∧lTb I a x
 mono hle:=λ⟨a,e,h⟩=>⟨a,e,mTb hle h⟩
 len:=λ⟨a,e,_⟩=>by rw[e]; rfl
 one:=λ⟨a,e,_⟩=>by rw[e]; rfl
structure AL where
 Hi:Int
 Lo:Int
deriving DecidableEq,Inhabited
abbrev O9:AL:={ Hi:=0,Lo:=0 }
def FY (x:AL):List Value:=[.int .i64 x.Hi,.int .u64 x.Lo]
abbrev sF:EP AL:=KK 2 FY (λ_=>⟨rfl,rfl⟩)
structure Rows where
 Rows:Int
 Cols:Int
 Start:List Int
 Col:List Int
 Val:List Int
deriving DecidableEq,Inhabited
abbrev QJ:Rows:={ Rows:=0,Cols:=0,Start:=([]:List Int),Col:=([]:List Int),Val:=([]:List Int) }
abbrev aTd:Type:=(Option Addr×Nat)×(Option Addr×Nat)×(Option Addr×Nat)
def iV (I:IH) (x:aTd) (o:Rows):Prop:=RepSl AR I x.1.1 x.1.2 o.Start∧RepSl AR I x.2.1.1 x.2.1.2 o.Col∧RepSl AR I x.2.2.1 x.2.2.2 o.Val
theorem mTd {I J:IH} {x:aTd} {o:Rows} (h:IH.le I J) (k:iV I x o):iV J x o:=⟨k.1.mono h,k.2.1.mono h,k.2.2.mono h⟩
structure A3 where
 Row:Int
 Col:Int
 Val:Int
deriving DecidableEq,Inhabited
def jH (x:A3):List Value:=[.int .i64 x.Row,.int .i64 x.Col,.int .i64 x.Val]
abbrev ID:EP A3:=KK 3 jH (λ_=>⟨rfl,rfl⟩)
structure AM where
 At:Int
 Val:Int
deriving DecidableEq,Inhabited
def U2 (x:AM):List Value:=[.int .i64 x.At,.int .i64 x.Val]
abbrev BM:EP AM:=KK 2 U2 (λ_=>⟨rfl,rfl⟩)
structure AN where
 Rows:Int
 Cols:Int
 At:List Int
 Start:List Int
 Row:List Int
 Val:List Int
deriving DecidableEq,Inhabited
abbrev aTf:Type:=(Option Addr×Nat)×(Option Addr×Nat)×(Option Addr×Nat)×(Option Addr×Nat)
def qP (I:IH) (x:aTf) (o:AN):Prop:=RepSl AR I x.1.1 x.1.2 o.At∧RepSl AR I x.2.1.1 x.2.1.2 o.Start∧RepSl AR I x.2.2.1.1 x.2.2.1.2 o.Row∧RepSl AR I x.2.2.2.1 x.2.2.2.2 o.Val
theorem mTf {I J:IH} {x:aTf} {o:AN} (h:IH.le I J) (k:qP I x o):qP J x o:=⟨k.1.mono h,k.2.1.mono h,k.2.2.1.mono h,k.2.2.2.mono h⟩
structure State where
 Low:Int
 High:Int
 A:List Int
 B:List Int
 On:List Int
deriving DecidableEq,Inhabited
abbrev FH:State:={ Low:=0,High:=0,A:=([]:List Int),B:=([]:List Int),On:=([]:List Int) }
abbrev aTi:Type:=(Option Addr×Nat)×(Option Addr×Nat)×(Option Addr×Nat)
def YF (I:IH) (x:aTi) (o:State):Prop:=RepSl AR I x.1.1 x.1.2 o.A∧RepSl AR I x.2.1.1 x.2.1.2 o.B∧RepSl IC I x.2.2.1 x.2.2.2 o.On
theorem mTi {I J:IH} {x:aTi} {o:State} (h:IH.le I J) (k:YF I x o):YF J x o:=⟨k.1.mono h,k.2.1.mono h,k.2.2.mono h⟩
def H5:EP State where
 sz:=5
 rep I cs x:=∃ a:aTi,cs=[.int .i64 x.Low,.int .i64 x.High,.slice a.1.1 x.A.length a.1.2,.slice a.2.1.1 x.B.length a.2.1.2,.slice a.2.2.1 x.On.length a.2.2.2]∧YF I a x
 mono hle:=λ⟨a,e,h⟩=>⟨a,e,mTi hle h⟩
 len:=λ⟨a,e,_⟩=>by rw[e]; rfl
 one:=λ⟨a,e,_⟩=>by rw[e]; rfl
structure B8 where
 At:Int
 Val:AL
deriving DecidableEq,Inhabited
def AbB (x:B8):List Value:=[.int .i64 x.At,.int .i64 x.Val.Hi,.int .u64 x.Val.Lo]
abbrev EA:EP B8:=KK 3 AbB (λ_=>⟨rfl,rfl⟩)
structure Vec where
 N:Int
 Items:List AM
deriving DecidableEq,Inhabited
abbrev BO:Vec:={ N:=0,Items:=([]:List AM) }
def bE:EP Vec where
 sz:=2
 rep I cs x:=∃ a1 c1,cs=[.int .i64 x.N,.slice a1 x.Items.length c1]∧RepSl BM I a1 c1 x.Items
 mono hle:=λ⟨a1,c1,e,h0⟩=>⟨a1,c1,e,h0.mono hle⟩
 len:=λ⟨a1,c1,e,_⟩=>by rw[e]; rfl
 one:=λ⟨a1,c1,e,_⟩=>by rw[e]; rfl
structure AA where
 Kind:Int
 From:Int
 To:Int
 Seq:Int
 Round:Int
 Vec:Vec
 Sums:List B8
 Triples:List A3
 N:Int
 Over:Bool
deriving DecidableEq,Inhabited
abbrev aTj:Type:=(Option Addr×Nat)×(Option Addr×Nat)×(Option Addr×Nat)
def iW (I:IH) (x:aTj) (o:AA):Prop:=RepSl BM I x.1.1 x.1.2 o.Vec.Items∧RepSl EA I x.2.1.1 x.2.1.2 o.Sums∧RepSl ID I x.2.2.1 x.2.2.2 o.Triples
theorem mTj {I J:IH} {x:aTj} {o:AA} (h:IH.le I J) (k:iW I x o):iW J x o:=⟨k.1.mono h,k.2.1.mono h,k.2.2.mono h⟩
def FO:EP AA where
 sz:=11
 rep I cs x:=∃ a:aTj,cs=[.int .i64 x.Kind,.int .i64 x.From,.int .i64 x.To,.int .i64 x.Seq,.int .i64 x.Round,.int .i64 x.Vec.N,.slice a.1.1 x.Vec.Items.length a.1.2,.slice a.2.1.1 x.Sums.length a.2.1.2,.slice a.2.2.1 x.Triples.length a.2.2.2,.int .i64 x.N,.bool x.Over]∧iW I a x
 mono hle:=λ⟨a,e,h⟩=>⟨a,e,mTj hle h⟩
 len:=λ⟨a,e,_⟩=>by rw[e]; rfl
 one:=λ⟨a,e,_⟩=>by rw[e]; rfl
structure Dense where
 N:Int
 Has:List Int
 Vals:List Int
deriving DecidableEq,Inhabited
abbrev aTk:Type:=(Option Addr×Nat)×(Option Addr×Nat)
def uM (I:IH) (x:aTk) (o:Dense):Prop:=RepSl IC I x.1.1 x.1.2 o.Has∧RepSl AR I x.2.1 x.2.2 o.Vals
theorem mTk {I J:IH} {x:aTk} {o:Dense} (h:IH.le I J) (k:uM I x o):uM J x o:=⟨k.1.mono h,k.2.mono h⟩
structure Y2 where
 Form:Int
 Vec:Vec
 Dense:Dense
deriving DecidableEq,Inhabited
abbrev aTl:Type:=(Option Addr×Nat)×aTk
def lTl (I:IH) (x:aTl) (o:Y2):Prop:=RepSl BM I x.1.1 x.1.2 o.Vec.Items∧uM I x.2 o.Dense
theorem mTl {I J:IH} {x:aTl} {o:Y2} (h:IH.le I J) (k:lTl I x o):lTl J x o:=⟨k.1.mono h,mTk h k.2⟩
structure E5 where
 Ring:Int
 Rows:Rows
 Cols:AN
 X:Y2
 Set:List Int
 Others:Bool
 Way:Int
deriving DecidableEq,Inhabited
abbrev aTm:Type:=aTd×aTf×aTl×(Option Addr×Nat)
def lTm (I:IH) (x:aTm) (o:E5):Prop:=iV I x.1 o.Rows∧qP I x.2.1 o.Cols∧lTl I x.2.2.1 o.X∧RepSl IC I x.2.2.2.1 x.2.2.2.2 o.Set
theorem mTm {I J:IH} {x:aTm} {o:E5} (h:IH.le I J) (k:lTm I x o):lTm J x o:=⟨mTd h k.1,mTf h k.2.1,mTl h k.2.2.1,k.2.2.2.mono h⟩
structure AF where
 l:List B8
 which:Int
deriving DecidableEq,Inhabited
def E0:EP AF where
 sz:=2
 rep I cs x:=∃ a0 c0,cs=[.slice a0 x.l.length c0,.int .i64 x.which]∧RepSl EA I a0 c0 x.l
 mono hle:=λ⟨a0,c0,e,h0⟩=>⟨a0,c0,e,h0.mono hle⟩
 len:=λ⟨a0,c0,e,_⟩=>by rw[e]; rfl
 one:=λ⟨a0,c0,e,_⟩=>by rw[e]; rfl
structure A7 where
 heads:List AF
 r:Int
 out:List B8
deriving DecidableEq,Inhabited
abbrev aTn:Type:=(Option Addr×Nat)×(Option Addr×Nat)
def lTn (I:IH) (x:aTn) (o:A7):Prop:=RepSl E0 I x.1.1 x.1.2 o.heads∧RepSl EA I x.2.1 x.2.2 o.out
theorem mTn {I J:IH} {x:aTn} {o:A7} (h:IH.le I J) (k:lTn I x o):lTn J x o:=⟨k.1.mono h,k.2.mono h⟩
structure Result where
 Status:Int
 Rounds:Int
 State:State
deriving DecidableEq,Inhabited
structure AO where
 i:Int
 j:Int
deriving DecidableEq,Inhabited
def FP (x:AO):List Value:=[.int .i64 x.i,.int .i64 x.j]
structure A0 where
 place:AO
 plan:Plan
 grid:AO
 limit:Int
 choices:List ED
 rows:Rows
 cols:AN
 out:List AA
 share:Int
 shares:List (Int×Vec)
 spread:Int
 round:Int
 status:Int
 has:State
 aside:State
 waits:Bool
 begun:Bool
 sums:List B8
 came:List (Int×Bool)
 vote:Int
 votes:List (Int×AA)
 closed:Bool
deriving DecidableEq,Inhabited
abbrev A2:=List (Nat×A0)
structure B4 where
 room:Int
 row:List Int
 by_:List (Int×AA)
 often:List (Int×Int)
 sent:Int
 taken:Int
deriving DecidableEq,Inhabited
abbrev A9:=List (Nat×B4)
structure A4 where
 setup:JO
 workers:List (Option Nat)
 boxes:List ((Int×Int)×(Option Nat))
 owners:List (Option Nat)
 history:List State
deriving DecidableEq,Inhabited
abbrev aTe:Type:=(Option Addr×Nat)×(Option Addr×Nat)
def lTe (I:IH) (x:aTe) (o:Rows):Prop:=RepSl AR I x.1.1 x.1.2 o.Col∧RepSl AR I x.2.1 x.2.2 o.Val
theorem mTe {I J:IH} {x:aTe} {o:Rows} (h:IH.le I J) (k:lTe I x o):lTe J x o:=⟨k.1.mono h,k.2.mono h⟩
abbrev aTg:Type:=(Option Addr×Nat)×(Option Addr×Nat)×(Option Addr×Nat)
def lTg (I:IH) (x:aTg) (o:AN):Prop:=RepSl AR I x.1.1 x.1.2 o.Start∧RepSl AR I x.2.1.1 x.2.1.2 o.Row∧RepSl AR I x.2.2.1 x.2.2.2 o.Val
theorem mTg {I J:IH} {x:aTg} {o:AN} (h:IH.le I J) (k:lTg I x o):lTg J x o:=⟨k.1.mono h,k.2.1.mono h,k.2.2.mono h⟩
abbrev aTh:Type:=(Option Addr×Nat)×(Option Addr×Nat)
def lTh (I:IH) (x:aTh) (o:AN):Prop:=RepSl AR I x.1.1 x.1.2 o.Row∧RepSl AR I x.2.1 x.2.2 o.Val
theorem mTh {I J:IH} {x:aTh} {o:AN} (h:IH.le I J) (k:lTh I x o):lTh J x o:=⟨k.1.mono h,k.2.mono h⟩
abbrev aTo:Type:=aTc×(Option Addr×Nat)×(Option Addr×Nat)×(Option Addr×Nat)
def lTo (I:IH) (x:aTo) (o:A4):Prop:=lTc I x.1 o.setup∧RepSl IB I x.2.1.1 x.2.1.2 o.workers∧RepSl IB I x.2.2.1.1 x.2.2.1.2 o.owners∧RepSl H5 I x.2.2.2.1 x.2.2.2.2 o.history
theorem mTo {I J:IH} {x:aTo} {o:A4} (h:IH.le I J) (k:lTo I x o):lTo J x o:=⟨mTc h k.1,k.2.1.mono h,k.2.2.1.mono h,k.2.2.2.mono h⟩
abbrev aTp:Type:=(Option Addr×Nat)×(Option Addr×Nat)×aTd×aTf×aTi×aTi
def UV (I:IH) (x:aTp) (o:A0):Prop:=RepSl AR I x.1.1 x.1.2 o.plan.Draws∧RepSl PI I x.2.1.1 x.2.1.2 o.choices∧iV I x.2.2.1 o.rows∧qP I x.2.2.2.1 o.cols∧YF I x.2.2.2.2.1 o.has∧YF I x.2.2.2.2.2 o.aside
theorem mTp {I J:IH} {x:aTp} {o:A0} (h:IH.le I J) (k:UV I x o):UV J x o:=⟨k.1.mono h,k.2.1.mono h,mTd h k.2.2.1,mTf h k.2.2.2.1,mTi h k.2.2.2.2.1,mTi h k.2.2.2.2.2⟩
abbrev aTq:Type:=(Option Addr×Nat)×(Option Addr×Nat)×aTd×aTf
def lTq (I:IH) (x:aTq) (o:A0):Prop:=RepSl AR I x.1.1 x.1.2 o.plan.Draws∧RepSl PI I x.2.1.1 x.2.1.2 o.choices∧iV I x.2.2.1 o.rows∧qP I x.2.2.2 o.cols
theorem mTq {I J:IH} {x:aTq} {o:A0} (h:IH.le I J) (k:lTq I x o):lTq J x o:=⟨k.1.mono h,k.2.1.mono h,mTd h k.2.2.1,mTf h k.2.2.2⟩
abbrev aTr:Type:=aTc×(Option Addr×Nat)
def lTr (I:IH) (x:aTr) (o:A4):Prop:=lTc I x.1 o.setup∧RepSl H5 I x.2.1 x.2.2 o.history
theorem mTr {I J:IH} {x:aTr} {o:A4} (h:IH.le I J) (k:lTr I x o):lTr J x o:=⟨mTc h k.1,k.2.mono h⟩
abbrev aTs:Type:=aTc×(Option Addr×Nat)×(Option Addr×Nat)
def fJ (I:IH) (x:aTs) (o:A4):Prop:=lTc I x.1 o.setup∧RepSl IB I x.2.1.1 x.2.1.2 o.workers∧RepSl IB I x.2.2.1 x.2.2.2 o.owners
theorem mTs {I J:IH} {x:aTs} {o:A4} (h:IH.le I J) (k:fJ I x o):fJ J x o:=⟨mTc h k.1,k.2.1.mono h,k.2.2.mono h⟩
def A5:BoxTy A0 where
 A:=aTp×Option Addr×Nat×Nat×Option Addr×Nat×Nat×Nat
 fact I a x:=UV I (a.1) (x)
 mono:=λh h0=>mTp h h0
 obj a x:=.cells #[.int .i64 x.place.i,.int .i64 x.place.j,.int .i64 x.plan.Kind,.int .i64 x.plan.N,.int .i64 x.plan.Source,.int .i64 x.plan.Length,.slice (a.1.1.1) x.plan.Draws.length (a.1.1.2),.int .i64 x.grid.i,.int .i64 x.grid.j,.int .i64 x.limit,.slice (a.1.2.1.1) x.choices.length (a.1.2.1.2),.int .i64 x.rows.Rows,.int .i64 x.rows.Cols,.slice (a.1.2.2.1.1.1) x.rows.Start.length (a.1.2.2.1.1.2),.slice (a.1.2.2.1.2.1.1) x.rows.Col.length (a.1.2.2.1.2.1.2),.slice (a.1.2.2.1.2.2.1) x.rows.Val.length (a.1.2.2.1.2.2.2),.int .i64 x.cols.Rows,.int .i64 x.cols.Cols,.slice (a.1.2.2.2.1.1.1) x.cols.At.length (a.1.2.2.2.1.1.2),.slice (a.1.2.2.2.1.2.1.1) x.cols.Start.length (a.1.2.2.2.1.2.1.2),.slice (a.1.2.2.2.1.2.2.1.1) x.cols.Row.length (a.1.2.2.2.1.2.2.1.2),.slice (a.1.2.2.2.1.2.2.2.1) x.cols.Val.length (a.1.2.2.2.1.2.2.2.2),.slice (a.2.1) x.out.length (a.2.2.1),.int .i64 x.share,.map (some (a.2.2.2.1)),.int .i64 x.spread,.int .i64 x.round,.int .i64 x.status,.int .i64 x.has.Low,.int .i64 x.has.High,.slice (a.1.2.2.2.2.1.1.1) x.has.A.length (a.1.2.2.2.2.1.1.2),.slice (a.1.2.2.2.2.1.2.1.1) x.has.B.length (a.1.2.2.2.2.1.2.1.2),.slice (a.1.2.2.2.2.1.2.2.1) x.has.On.length (a.1.2.2.2.2.1.2.2.2),.int .i64 x.aside.Low,.int .i64 x.aside.High,.slice (a.1.2.2.2.2.2.1.1) x.aside.A.length (a.1.2.2.2.2.2.1.2),.slice (a.1.2.2.2.2.2.2.1.1) x.aside.B.length (a.1.2.2.2.2.2.2.1.2),.slice (a.1.2.2.2.2.2.2.2.1) x.aside.On.length (a.1.2.2.2.2.2.2.2.2),.bool x.waits,.bool x.begun,.slice (a.2.2.2.2.1) x.sums.length (a.2.2.2.2.2.1),.map (some (a.2.2.2.2.2.2.1)),.int .i64 x.vote,.map (some (a.2.2.2.2.2.2.2)),.bool x.closed] 108 (0,0)
 more a x:=[QSl FO 121 (a.2.1) (a.2.2.1) x.out,OwnMap (Value.int .i64) bE true (a.2.2.2.1) x.shares,OwnSl EA 204 (a.2.2.2.2.1) (a.2.2.2.2.2.1) x.sums,OwnMap (Value.int .i64) eB false (a.2.2.2.2.2.2.1) x.came,OwnMap (Value.int .i64) FO true (a.2.2.2.2.2.2.2) x.votes]
def B7:BoxTy B4 where
 A:=Option Addr×Nat×Nat×Nat
 fact I a x:=True
 mono:=λ_ _=>trivial
 obj a x:=.cells #[.int .i64 x.room,.slice (a.1) x.row.length (a.2.1),.map (some (a.2.2.1)),.map (some (a.2.2.2)),.int .i64 x.sent,.int .i64 x.taken] 131 (0,0)
 more a x:=[OwnSl AR 3 (a.1) (a.2.1) x.row,OwnMap (Value.int .i64) FO true (a.2.2.1) x.by_,OwnMap (Value.int .i64) AR false (a.2.2.2) x.often]
def FZ (a0:Int) (a1:Int) (Q:Int->Prop):Prop:=
 A8 (decide (a1<1)) (Q 0) (A8 (decide (a0<0)) (Q 0) (nzP a1 <| Q (a0.tmod a1)))
def U3 (a0:Graph) (Q:Graph->Prop):Prop:=
 FZ a0.N 24 λh=>AW (λ(s:(List B5)×Int) next131=>match s with | (s125,s129)=>A8 (decide (s129<(a0.Edges.length:Int))) (A8 (decide (s129<60)) (A8 (decide (0<h)) (AZ a0.Edges s129 λd=>FZ d.From h λD=>FZ d.To h λJ=>DA 24 s125 ([({ From:=D,To:=J,W:=XQ .i64 d.W 2147483647 }:B5)]) λ_=>next131 ((s125++([({ From:=D,To:=J,W:=XQ .i64 d.W 2147483647 }:B5)])),A6 (s129+1))) (Q ({ N:=h,Edges:=s125 }:Graph))) (Q ({ N:=h,Edges:=s125 }:Graph))) (Q ({ N:=h,Edges:=s125 }:Graph))) (([]:List B5),0)
def WM (a0:Plan) (a1:Int) (Q:Plan->Prop):Prop:=
 DB (λ(O:Int->Prop)=>A8 (decide (a0.Kind<1)) (O 3) (A8 (decide (5<a0.Kind)) (O 3) (O a0.Kind))) λK=>FZ a0.Source a1 λJ=>FZ a0.Length 12 λU=>DB (λ(h:(List Int)->Prop)=>AW (λ(s:(List Int)×Int) next266=>match s with | (s260,s264)=>A8 (decide (s264<(a0.Draws.length:Int))) (A8 (decide (s264<40)) (AZ a0.Draws s264 λD=>DA 8 s260 ([XQ .i64 D 2147483647]) λ_=>next266 ((s260++([XQ .i64 D 2147483647])),A6 (s264+1))) (h s260)) (h s260)) (([]:List Int),0)) λd=>A8 (a1==0) (A8 (K != 5) (Q ({ Kind:=3,N:=a1,Source:=J,Length:=U,Draws:=d }:Plan)) (Q ({ Kind:=K,N:=a1,Source:=J,Length:=U,Draws:=d }:Plan))) (Q ({ Kind:=K,N:=a1,Source:=J,Length:=U,Draws:=d }:Plan))
def LX (a0:H4) (Q:(Plan×Graph×Int)->Prop):Prop:=
 U3 a0.G λd=>WM a0.P d.N λh=>Q (h,d,(A6 (a0.Limit)).tmod 40)
def QK (a0:G9) (Q:JO->Prop):Prop:=
 LX a0.Model λd=>DB (λ(h:(List ED)->Prop)=>A8 (decide (8<(a0.Choices.length:Int))) (slP a0.Choices 0 8 λ_=>h ((a0.Choices.take (Int.toNat 8)).drop (Int.toNat 0))) (h a0.Choices)) λD=>Q ({ Plan:=d.1,Graph:=d.2.1,R:=A6 (((A6 (a0.R)).tmod 4)+1),C:=A6 (((A6 (a0.C)).tmod 4)+1),Room:=A6 (((A6 (a0.Room)).tmod 5)+1),Limit:=d.2.2,Choices:=D }:JO)
def HI (a0:Int) (a1:Int) (Q:Bool->Prop):Prop:=
 A8 (decide (1<=a0)) (Q (decide (a0<=a1))) (Q false)
def I5 (a0:Int) (a1:Int) (Q:Bool->Prop):Prop:=
 A8 (decide (0<=a0)) (Q (decide (a0<=a1))) (Q false)
def OA (a0:Int) (Q:Bool->Prop):Prop:=
 A8 (decide (a0<0)) (Q true) (Q (decide (2147483647<a0)))
def EE (a0:List Int) (Q:Int->Prop):Prop:=
 AW (λ(d:Int) next46=>A8 (decide (d<(a0.length:Int))) (AZ a0 d λD=>OA D λh=>A8 h (Q d) (next46 (A6 (d+1)))) (Q (-1))) 0
def BA (a0:List Int) (Q:Bool->Prop):Prop:=
 EE a0 λd=>Q (decide (0<=d))
def OB (a0:Plan) (Q:Int->Prop):Prop:=
 A8 (decide (a0.Kind<=0)) (Q 8) (A8 (decide (5<a0.Kind)) (Q 8) (I5 a0.N 4096 λO=>A8 (!O) (Q 3) (DB (λ(K:Unit->Prop)=>DB (λ(d:Unit->Prop)=>A8 (a0.Kind==4) (I5 a0.Length 8192 λD=>A8 (!D) (Q 3) (d ())) (A8 (a0.Kind==1) (d ()) (A8 (a0.Kind==2) (d ()) (K ())))) λ_=>I5 a0.Source (A6 (a0.N - 1)) λh=>A8 (!h) (Q 3) (K ())) λ_=>A8 (decide (65536<(a0.Draws.length:Int))) (Q 5) (BA a0.Draws λJ=>A8 J (Q 7) (Q 0)))))
def JP (o0:Graph) (a0:Int) (Q:Bool->Prop):Prop:=
 A8 (decide (a0<0)) (Q true) (Q (decide (o0.N<=a0)))
def N3 (o1:Graph) (a0:B5) (Q:Bool->Prop):Prop:=
 JP o1 a0.From λh=>A8 h (Q true) (JP o1 a0.To λd=>Q d)
def DD (o1:Graph) (a0:List B5) (Q:Int->Prop):Prop:=
 AW (λ(d:Int) next53=>A8 (decide (d<(a0.length:Int))) (AZ a0 d λh=>N3 o1 h λD=>A8 D (Q d) (next53 (A6 (d+1)))) (Q (-1))) 0
def CP (o1:Graph) (a0:List B5) (Q:Bool->Prop):Prop:=
 DD o1 a0 λd=>Q (decide (0<=d))
def N4 (a0:B5) (Q:Bool->Prop):Prop:=
 A8 (decide (a0.W<0)) (Q true) (Q (decide (2147483647<a0.W)))
def DE (a0:List B5) (Q:Int->Prop):Prop:=
 AW (λ(d:Int) next46=>A8 (decide (d<(a0.length:Int))) (AZ a0 d λD=>N4 D λh=>A8 h (Q d) (next46 (A6 (d+1)))) (Q (-1))) 0
def BU (a0:List B5) (Q:Bool->Prop):Prop:=
 DE a0 λd=>Q (decide (0<=d))
def PR (a0:Graph) (Q:Int->Prop):Prop:=
 A8 (decide (a0.N<0)) (Q 3) (DB (λ(d:Bool->Prop)=>A8 (decide (4096<a0.N)) (d (decide (4096<a0.N))) (d (decide (65536<(a0.Edges.length:Int))))) λJ=>A8 J (Q 5) (CP a0 a0.Edges λD=>A8 D (Q 3) (BU a0.Edges λh=>A8 h (Q 7) (Q 0))))
def QZ (a0:Int) (Q:Bool->Prop):Prop:=
 A8 (decide (0<a0)) (Q (decide (a0<6))) (Q false)
def N5 (a0:Int) (Q:AL->Prop):Prop:=
 Q ({ Hi:=shr .i64 a0 63,Lo:=IntKind.wrap .u64 (a0) }:AL)
def IE (a0:List Int) (Q:Int->Prop):Prop:=
 AW (λ(d:Int) next32=>A8 (decide (d<(a0.length:Int))) (AZ a0 d λh=>A8 (h != 0) (Q h) (next32 (A6 (d+1)))) (Q 0)) 0
def LY (a0:Int) (Q:Bool->Prop):Prop:=
 Q (a0 != a0)
def GR (a0:Int) (a1:Int) (Q:Int->Prop):Prop:=
 LY a0 λh=>LY a1 λd=>A8 h (A8 d (Q 0) (Q (-1))) (A8 d (Q 1) (A8 (decide (a0<a1)) (Q (-1)) (A8 (decide (a1<a0)) (Q 1) (Q 0))))
def KM (a0:Int) (Q:Bool->Prop):Prop:=
 Q (a0 != a0)
def IF (a0:Int) (a1:Int) (Q:Int->Prop):Prop:=
 KM a0 λh=>KM a1 λd=>A8 h (A8 d (Q 0) (Q (-1))) (A8 d (Q 1) (A8 (decide (a0<a1)) (Q (-1)) (A8 (decide (a1<a0)) (Q 1) (Q 0))))
def RA (a0:AL) (a1:AL) (Q:Int->Prop):Prop:=
 GR a0.Hi a1.Hi λD=>IF a0.Lo a1.Lo λd=>IE ([D,d]:List Int) λh=>Q h
def PS (a0:AL) (a1:AL) (Q:AL->Prop):Prop:=
 RA a0 a1 λd=>A8 (decide (d<=0)) (Q a0) (Q a1)
def M4 (a0:Bool) (Q:AL->Prop):Prop:=
 A8 a0 (N5 1 λd=>Q d) (Q O9)
def S8 (a0:Bool) (Q:Int->Prop):Prop:=
 A8 a0 (Q 1) (Q 0)
def YG (a0:AL) (a1:AL) (Q:AL->Prop):Prop:=
 S8 (decide ((IntKind.wrap .u64 (a0.Lo+a1.Lo))<a1.Lo)) λd=>Q ({ Hi:=A6 (IntKind.wrap .u64 ((IntKind.wrap .u64 ((IntKind.wrap .u64 (a0.Hi))+(IntKind.wrap .u64 (a1.Hi))))+d)),Lo:=IntKind.wrap .u64 (a0.Lo+a1.Lo) }:AL)
def S9 (a0:Int) (a1:AL) (J:AL) (Q:AL->Prop):Prop:=
 DB (λ(d:Bool->Prop)=>A8 (a0==1) (d (a0==1)) (A8 (a0==3) (d (a0==3)) (d (a0==4)))) λU=>A8 U (PS a1 J λh=>Q h) (A8 (a0==2) (A8 (!(a1==J)) (M4 true λK=>Q K) (M4 (!(a1==O9)) λO=>Q O)) (A8 (a0==5) (YG a1 J λD=>Q D) (Q O9)))
def YH (a0:AL) (Q:(Int×Bool)->Prop):Prop:=
 N5 (A6 (a0.Lo)) λd=>A8 (!(d==a0)) (Q (0,false)) (Q (A6 (a0.Lo),true))
def PT (a0:Int) (a1:AL) (Q:(Int×Bool)->Prop):Prop:=
 YH a1 λd=>Q (d.1,d.2)
def H6 (a0:Int) (Q:Bool->Prop):Prop:=
 Q (a0 != a0)
def CI (a0:Int) (a1:Int) (Q:Int->Prop):Prop:=
 H6 a0 λh=>H6 a1 λd=>A8 h (A8 d (Q 0) (Q (-1))) (A8 d (Q 1) (A8 (decide (a0<a1)) (Q (-1)) (A8 (decide (a1<a0)) (Q 1) (Q 0))))
def dA (a0:B5) (a1:B5) (Q:Int->Prop):Prop:=
 CI a0.From a1.From λD=>CI a0.To a1.To λd=>IE ([D,d]:List Int) λh=>Q h
def U4 (a0:B5) (a1:B5) (Q:Int->Prop):Prop:=
 dA a0 a1 λD=>GR a0.W a1.W λd=>IE ([D,d]:List Int) λh=>Q h
def PJ (a0:Int) (a1:List B5) (Q:((List B5)×Int)->Prop):Prop:=
 QZ a0 λr12=>A8 (!r12) (Q (([]:List B5),8)) (AW (λ(s:(List ((Int×Int)×AL))×Int) next305=>match s with | (s303,s304)=>A8 (decide (s304<(a1.length:Int))) (AZ a1 s304 λd=>N5 d.W λJ=>AeP s303 (d.From,d.To) O9 λV U=>A8 U (S9 a0 V J λZ=>next305 ((DK (d.From,d.To) Z s303),A6 (s304+1))) (next305 ((DK (d.From,d.To) J s303),A6 (s304+1)))) (AW (λ(s:(List B5)×(List ((Int×Int)×AL))) next473=>match s with | (s467,s471)=>xR s471 (xU U4 s467 λK=>Q (K,0)) (λh O=>PT a0 h.2 λD=>A8 (!D.2) (Q (([]:List B5),12)) (DA 24 s467 ([({ From:=h.1.1,To:=h.1.2,W:=D.1 }:B5)]) λ_=>next473 ((s467++([({ From:=h.1.1,To:=h.1.2,W:=D.1 }:B5)])),O)))) (([]:List B5),s303))) (([]:List ((Int×Int)×AL)),0))
def I6 (a0:Graph) (Q:Graph->Prop):Prop:=
 PJ 1 a0.Edges λd=>Q ({ N:=a0.N,Edges:=d.1 }:Graph)
def M5 (a0:B5) (Q:(B5×Bool)->Prop):Prop:=
 Q (a0,a0.From != a0.To)
def SA (a0:Graph) (Q:Graph->Prop):Prop:=
 AW (λ(s:(List B5)×Int) next114=>match s with | (s108,s112)=>A8 (decide (s112<(a0.Edges.length:Int))) (AZ a0.Edges s112 λD=>M5 D λd=>A8 d.2 (DA 24 s108 ([d.1]) λ_=>next114 ((s108++([d.1])),A6 (s112+1))) (next114 (s108,A6 (s112+1)))) (I6 ({ N:=a0.N,Edges:=s108 }:Graph) λh=>Q h)) (([]:List B5),0)
def RC (a0:Graph) (Q:Graph->Prop):Prop:=
 SA a0 λd=>Q d
def FC (a1:Int) (Q:(List B5)->Prop):Prop:=
 A8 (decide (a1<0)) (False) (A8 (decide (0<(A6 (a1 - (A6 (0 - 0)))))) (grP 24 (A6 (a1 - (A6 (0 - 0)))) <| Q ([]:List B5)) (Q ([]:List B5)))
def D9 (a0:List (List B5)) (Q:(List B5)->Prop):Prop:=
 AW (λ(s:Int×Int) next161=>match s with | (s159,s160)=>A8 (decide (s160<(a0.length:Int))) (AZ a0 s160 λh=>A8 (decide ((A6 (s159+(h.length:Int)))<0)) (False) (next161 (A6 (s159+(h.length:Int)),A6 (s160+1)))) (FC s159 λD=>AW (λ(s:(List B5)×Int) next271=>match s with | (s266,s270)=>A8 (decide (s270<(a0.length:Int))) (AZ a0 s270 λd=>DA 24 s266 d λ_=>next271 ((s266++d),A6 (s270+1))) (Q s266)) (D,0))) (0,0)
def KN (a0:B5) (Q:(B5×Bool)->Prop):Prop:=
 Q (({ From:=a0.To,To:=a0.From,W:=a0.W }:B5),true)
def N6 (a0:Graph) (Q:Graph->Prop):Prop:=
 AW (λ(s:(List B5)×Int) next114=>match s with | (s108,s112)=>A8 (decide (s112<(a0.Edges.length:Int))) (AZ a0.Edges s112 λD=>KN D λd=>A8 d.2 (DA 24 s108 ([d.1]) λ_=>next114 ((s108++([d.1])),A6 (s112+1))) (next114 (s108,A6 (s112+1)))) (I6 ({ N:=a0.N,Edges:=s108 }:Graph) λh=>Q h)) (([]:List B5),0)
def OC (a0:Graph) (Q:Graph->Prop):Prop:=
 N6 a0 λd=>Q d
def SB (a0:Graph) (Q:Graph->Prop):Prop:=
 OC a0 λh=>D9 ([a0.Edges,h.Edges]:List (List B5)) λD=>I6 ({ N:=a0.N,Edges:=D }:Graph) λd=>Q d
def N7 (a0:B5) (Q:(B5×Bool)->Prop):Prop:=
 Q (({ a0 with W:=1 }:B5),true)
def SD (a0:Graph) (Q:Graph->Prop):Prop:=
 AW (λ(s:(List B5)×Int) next114=>match s with | (s108,s112)=>A8 (decide (s112<(a0.Edges.length:Int))) (AZ a0.Edges s112 λD=>N7 D λd=>A8 d.2 (DA 24 s108 ([d.1]) λ_=>next114 ((s108++([d.1])),A6 (s112+1))) (next114 (s108,A6 (s112+1)))) (I6 ({ N:=a0.N,Edges:=s108 }:Graph) λh=>Q h)) (([]:List B5),0)
def MI (a0:Graph) (Q:Graph->Prop):Prop:=
 SD a0 λd=>Q d
def VK (a0:Int) (a1:Int) (Q:Rows->Prop):Prop:=
 mkP 8 (A6 (a0+1)) 0 λ_=>Q ({ Rows:=a0,Cols:=a1,Start:=(List.replicate (A6 (a0+1)).toNat 0),Col:=([]:List Int),Val:=([]:List Int) }:Rows)
def RX (a0:Int) (a1:Int) (O:List A3) (Q:Rows->Prop):Prop:=
 VK a0 a1 λh=>AW (λ(s:(List Int)×(List Int)×(List Int)×Int) next420=>match s with | (s407,s411,s415,s419)=>A8 (decide (s419<(O.length:Int))) (AZ O s419 λd=>AZ s407 (A6 (d.Row+1)) λD=>AZ s407 (A6 (d.Row+1)) λV=>DA 8 s411 ([d.Col]) λ_=>DA 8 s415 ([d.Val]) λ_=>next420 ((s407.set ((A6 (d.Row+1)).toNat) (A6 (D+1))),(s411++([d.Col])),(s415++([d.Val])),A6 (s419+1))) (AW (λ(s:(List Int)×Int) next528=>match s with | (s523,s527)=>A8 (decide (s527<a0)) (AZ s523 (A6 (s527+1)) λK=>AZ s523 s527 λJ=>AZ s523 (A6 (s527+1)) λU=>next528 ((s523.set ((A6 (s527+1)).toNat) (A6 (K+J))),A6 (s527+1))) (Q ({ h with Start:=s523,Col:=s411,Val:=s415 }:Rows))) (s407,0))) (h.Start,h.Col,h.Val,0)
def OD (a0:Graph) (Q:(Rows×Int)->Prop):Prop:=
 PR a0 λJ=>A8 (J != 0) (Q (QJ,J)) (OC a0 λh=>AW (λ(s:(List A3)×Int) next134=>match s with | (s128,s132)=>A8 (decide (s132<(h.Edges.length:Int))) (AZ h.Edges s132 λd=>DA 24 s128 ([({ Row:=d.From,Col:=d.To,Val:=d.W }:A3)]) λ_=>next134 ((s128++([({ Row:=d.From,Col:=d.To,Val:=d.W }:A3)])),A6 (s132+1))) (RX a0.N a0.N s128 λD=>Q (D,0))) (([]:List A3),0))
def PU (a0:Plan) (a1:Graph) (Q:(Rows×Int)->Prop):Prop:=
 OB a0 λO=>A8 (O != 0) (Q (QJ,O)) (A8 (a1.N != a0.N) (Q (QJ,4)) (PR a1 λK=>A8 (K != 0) (Q (QJ,K)) (A8 (a0.Kind==5) (RC a1 λZ=>SB Z λr71=>MI r71 λr82=>OD r82 λW=>Q (W.1,W.2)) (A8 (a0.Kind==3) (SB a1 λU=>MI U λV=>OD V λd=>Q (d.1,d.2)) (A8 (a0.Kind==1) (MI a1 λJ=>OD J λh=>Q (h.1,h.2)) (OD a1 λD=>Q (D.1,D.2)))))))
def U5 (a0:Plan) (a1:Graph) (h:Int) (Q:Int->Prop):Prop:=
 PU a0 a1 λd=>A8 (d.2 != 0) (Q d.2) (A8 (decide (h<0)) (Q 3) (A8 (decide (8192<h)) (Q 3) (Q 0)))
def IG (a0:JO) (Q:Int->Prop):Prop:=
 U5 a0.Plan a0.Graph a0.Limit λh=>A8 (h != 0) (Q h) (DB (λ(d:Bool->Prop)=>HI a0.R 8 λJ=>A8 (!J) (d (!J)) (HI a0.C 8 λD=>A8 (!D) (d (!D)) (HI a0.Room 64 λK=>d (!K)))) λO=>A8 O (Q 3) (A8 (decide (8192<(a0.Choices.length:Int))) (Q 5) (Q 0)))
def AX (a0:List Int) (Q:(List Int)->Prop):Prop:=
 Ab6 a0 (Q ([]:List Int)) (DA 8 ([]:List Int) a0 λ_=>Q (([]:List Int)++a0))
def CK (a0:List ED) (Q:(List ED)->Prop):Prop:=
 Ab6 a0 (Q ([]:List ED)) (DA 16 ([]:List ED) a0 λ_=>Q (([]:List ED)++a0))
def M6 (a0:Int) (a1:Int) (Q:Bool->Prop):Prop:=
 A8 (decide (0<=a0)) (Q (decide (a0<=a1))) (Q false)
def RF (a0:Int) (a1:Int) (Q:Bool->Prop):Prop:=
 H6 a0 λd=>A8 d (H6 a1 λh=>A8 (!h) (Q true) (Q (decide (a0<a1)))) (Q (decide (a0<a1)))
def FI (a0:List Int) (Q:Bool->Prop):Prop:=
 AW (λ(d:Int) next58=>A8 (decide (0<d)) (AZ a0 d λh=>AZ a0 (A6 (d - 1)) λD=>RF h D λJ=>A8 J (Q false) (next58 (A6 (d - 1)))) (Q true)) (A6 ((a0.length:Int) - 1))
def mN (a0:List Int) (a1:Int) (Q:Bool->Prop):Prop:=
 AW (λ(d:Int) next69=>A8 (decide (d<(a0.length:Int))) (AZ a0 d λh=>M6 h (A6 (a1 - 1)) λD=>A8 (!D) (Q false) (A8 (decide (0<d)) (AZ a0 (A6 (d - 1)) λJ=>A8 (decide (h<=J)) (Q false) (next69 (A6 (d+1)))) (next69 (A6 (d+1))))) (Q true)) 0
def OE (a0:Rows) (Q:Bool->Prop):Prop:=
 M6 a0.Rows 4096 λO=>A8 (!O) (Q false) (M6 a0.Cols 4096 λU=>A8 (!U) (Q false) (A8 ((a0.Start.length:Int) != (A6 (a0.Rows+1))) (Q false) (A8 ((a0.Val.length:Int) != (a0.Col.length:Int)) (Q false) (A8 (decide (65536<(a0.Col.length:Int))) (Q false) (AZ a0.Start 0 λV=>A8 (V != 0) (Q false) (AZ a0.Start a0.Rows λK=>A8 (K != (a0.Col.length:Int)) (Q false) (FI a0.Start λW=>A8 (!W) (Q false) (AW (λ(d:Int) next157=>A8 (decide (d<a0.Rows)) (AZ a0.Start d λh=>AZ a0.Start (A6 (d+1)) λD=>slP a0.Col h D λ_=>mN ((a0.Col.take D.toNat).drop h.toNat) a0.Cols λJ=>A8 (!J) (Q false) (next157 (A6 (d+1)))) (Q true)) 0))))))))
def SE (a0:Int) (Q:Bool->Prop):Prop:=
 A8 (decide (1<=a0)) (Q (decide (a0<=8))) (Q false)
def OG (a0:Int) (a1:Int) (d:Int) (h:Int) (Q:Bool->Prop):Prop:=
 SE a0 λD=>A8 D (SE a1 λJ=>A8 J (A8 (decide (0<=d)) (A8 (decide (d<a0)) (A8 (decide (0<=h)) (Q (decide (h<a1))) (Q false)) (Q false)) (Q false)) (Q false)) (Q false)
def PV (a0:Rows) (Q:Rows->Prop):Prop:=
 OE a0 λh=>A8 h (Q a0) (VK 0 0 λd=>Q d)
def SF (a0:Int×Int) (a1:Int) (Q:(Int×Int)->Prop):Prop:=
 A8 (decide ((if a1<a0.2 then a1 else a0.2)<=(if 0 > a0.1 then 0 else a0.1))) (Q ((if 0 > a0.1 then 0 else a0.1),0)) (Q ((if 0 > a0.1 then 0 else a0.1),A6 ((if a1<a0.2 then a1 else a0.2) - (if 0 > a0.1 then 0 else a0.1))))
def YI (a0:Rows) (a1:Int) (Q:((List Int)×(List Int))->Prop):Prop:=
 AZ a0.Start a1 λd=>AZ a0.Start (A6 (a1+1)) λh=>slP a0.Col d h λ_=>slP a0.Val d h λ_=>Q (((a0.Col.take h.toNat).drop d.toNat),((a0.Val.take h.toNat).drop d.toNat))
def mO (a0:Rows) (a1:Int) (Q:(List AM)->Prop):Prop:=
 PV a0 λJ=>M6 a1 (A6 (J.Rows - 1)) λK=>A8 (!K) (Q ([]:List AM)) (YI J a1 λD=>AW (λ(s:(List AM)×Int) next140=>match s with | (s134,s138)=>A8 (decide (s138<(D.1.length:Int))) (AZ D.1 s138 λd=>AZ D.2 s138 λh=>DA 16 s134 ([({ At:=d,Val:=h }:AM)]) λ_=>next140 ((s134++([({ At:=d,Val:=h }:AM)])),A6 (s138+1))) (Q s134)) (([]:List AM),0))
def U6 (a0:Rows) (a1:Int×Int) (W:Int×Int) (Q:Rows->Prop):Prop:=
 PV a0 λO=>SF a1 O.Rows λK=>SF W O.Cols λh=>AW (λ(s:(List A3)×Int) next418=>match s with | (s412,s416)=>A8 (decide (s416<K.2)) (mO O (A6 (K.1+s416)) λD=>AW (λ(s:(List A3)×Int) next548=>match s with | (s543,s547)=>A8 (decide (s547<(D.length:Int))) (AZ D s547 λd=>DB (λ(J:Bool->Prop)=>A8 (decide (h.1<=d.At)) (J (decide ((A6 (d.At - h.1))<h.2))) (J false)) λU=>A8 U (DA 24 s543 ([({ Row:=s416,Col:=A6 (d.At - h.1),Val:=d.Val }:A3)]) λ_=>next548 ((s543++([({ Row:=s416,Col:=A6 (d.At - h.1),Val:=d.Val }:A3)])),A6 (s547+1))) (next548 (s543,A6 (s547+1)))) (next418 (s543,A6 (s416+1)))) (s412,0)) (RX K.2 h.2 s412 λV=>Q V)) (([]:List A3),0)
def OH (a0:Int) (Q:Bool->Prop):Prop:=
 A8 (decide (0<a0)) (Q (decide (a0<=8))) (Q false)
def fK (a0:Int) (a1:Int) (Q:Bool->Prop):Prop:=
 A8 (decide (0<=a0)) (A8 (decide (a0<=4096)) (OH a1 λd=>Q d) (Q false)) (Q false)
def HJ (a0:Int) (a1:Int) (d:Int) (Q:Int->Prop):Prop:=
 fK a0 a1 λh=>A8 (!h) (Q 0) (nzP a1 <| Q (A6 ((A6 ((if a1<(if 0 > d then 0 else d) then a1 else (if 0 > d then 0 else d))*a0)).tdiv a1)))
def G0 (a0:Int) (a1:Int) (d:Int) (Q:(Int×Int)->Prop):Prop:=
 HJ a0 a1 d λD=>HJ a0 a1 (A6 (d+1)) λh=>Q (D,h)
def ZZ (a0:Rows) (a1:Int) (W:Int) (Z:Int) (V:Int) (Q:Rows->Prop):Prop:=
 OE a0 λO=>A8 (!O) (U6 QJ (0,0) (0,0) λh=>Q h) (OG a1 W Z V λD=>A8 (!D) (U6 QJ (0,0) (0,0) λd=>Q d) (G0 a0.Rows a1 Z λU=>G0 a0.Cols W V λJ=>U6 a0 U J λK=>Q K))
def VL  (Q:AN->Prop):Prop:=
 Q ({ Rows:=0,Cols:=0,At:=([]:List Int),Start:=([0]:List Int),Row:=([]:List Int),Val:=([]:List Int) }:AN)
def PW (a0:Rows) (Q:(List A3)->Prop):Prop:=
 PV a0 λJ=>AW (λ(s:(List A3)×Int) next371=>match s with | (s365,s369)=>A8 (decide (s369<J.Rows)) (YI J s369 λd=>AW (λ(s:(List A3)×Int) next497=>match s with | (s492,s496)=>A8 (decide (s496<(d.1.length:Int))) (AZ d.1 s496 λD=>AZ d.2 s496 λh=>DA 24 s492 ([({ Row:=s369,Col:=D,Val:=h }:A3)]) λ_=>next497 ((s492++([({ Row:=s369,Col:=D,Val:=h }:A3)])),A6 (s496+1))) (next371 (s492,A6 (s369+1)))) (s365,0)) (Q s365)) (([]:List A3),0)
def aA (a0:A3) (a1:A3) (Q:Int->Prop):Prop:=
 CI a0.Row a1.Row λD=>CI a0.Col a1.Col λd=>IE ([D,d]:List Int) λh=>Q h
def fL (a0:Rows) (Q:Rows->Prop):Prop:=
 PV a0 λh=>PW h λK=>AW (λ(s:(List A3)×Int) next202=>match s with | (s196,s201)=>A8 (decide (s201<(K.length:Int))) (AZ s196 s201 λd=>AZ s196 s201 λO=>next202 ((s196.set s201.toNat ({ Row:=d.Col,Col:=d.Row,Val:=d.Val }:A3)),A6 (s201+1))) (xU aA s196 λD=>RX h.Cols h.Rows D λJ=>Q J)) (K,0)
def mP (a0:Rows) (Q:AN->Prop):Prop:=
 VL  λD=>OE a0 λZ=>A8 (!Z) (Q D) (fL a0 λW=>PW W λO=>AW (λ(s:(List Int)×(List Int)×(List Int)×(List Int)×Int) next591=>match s with | (s574,s578,s582,s586,s590)=>A8 (decide (s590<(O.length:Int))) (AZ O s590 λd=>DB (λ(K:((List Int)×(List Int))->Prop)=>DB (λ(J:Bool->Prop)=>A8 ((s574.length:Int)==0) (J true) (AZ s574 (A6 ((s574.length:Int) - 1)) λV=>J (V != d.Row))) λU=>A8 U (DA 8 s574 ([d.Row]) λ_=>DA 8 s578 ([0]) λ_=>K ((s574++([d.Row])),(s578++([0])))) (K (s574,s578))) λ(h,s713)=>DA 8 s582 ([d.Col]) λ_=>DA 8 s586 ([d.Val]) λ_=>AZ s713 (h.length:Int) λx790=>next591 (h,(s713.set ((h.length:Int).toNat) ((s582++([d.Col])).length:Int)),(s582++([d.Col])),(s586++([d.Val])),A6 (s590+1))) (Q ({ a0 with At:=s574,Start:=s578,Row:=s582,Val:=s586 }:AN))) (D.At,D.Start,D.Row,D.Val,0))
def PX (a0:Int) (Q:Int->Prop):Prop:=
 Q (shr .i64 (A6 ((if 4096<(if 0 > a0 then 0 else a0) then 4096 else (if 0 > a0 then 0 else a0))+63)) 6)
def OI (a0:Int) (Q:(List Int)->Prop):Prop:=
 PX a0 λd=>mkP 8 d 0 λ_=>Q (List.replicate d.toNat 0)
def N8 (a0:List Int) (a1:Int) (Q:Bool->Prop):Prop:=
 A8 (decide (0<=a1)) (Q (decide ((shr .i64 a1 6)<(a0.length:Int)))) (Q false)
def VM (a0:Int) (Q:Int->Prop):Prop:=
 nnP (XQ .u64 (IntKind.wrap .u64 (a0)) 63) <| Q (shl .u64 1 (XQ .u64 (IntKind.wrap .u64 (a0)) 63))
def K1 (a0:Int) (a1:List Int) (Q:(List Int)->Prop):Prop:=
 OI a0 λU=>AW (λ(s:(List Int)×Int) next157=>match s with | (s152,s156)=>A8 (decide (s156<(a1.length:Int))) (AZ a1 s156 λd=>DB (λ(h:Bool->Prop)=>A8 (decide (d<a0)) (N8 s152 d λJ=>h J) (h false)) λK=>A8 K (AZ s152 (shr .i64 d 6) λO=>VM d λD=>AZ s152 (shr .i64 d 6) λV=>next157 ((s152.set ((shr .i64 d 6).toNat) (bor .u64 O D)),A6 (s156+1))) (next157 (s152,A6 (s156+1)))) (Q s152)) (U,0)
def K2 (a0:List Int) (Q:(List Int)->Prop):Prop:=
 Q a0
def OJ (o0:Nat) (o1:Int) (o2:Int) (o3:List Int) (Y:Nat->Int->Int->Int->((Bool×Nat×Int)->Prop)->Prop) (Q:(Nat×Int)->Prop):Prop:=
 AW (λ(s:Int×Int×Nat) next193=>match s with | (s190,s191,s192)=>A8 (decide (s191<(o3.length:Int))) (AZ o3 s191 λh=>AW (λ(s:Int×Int×Int×Nat) next262=>match s with | (s258,s259,s260,s261)=>A8 (s259 != 0) (A8 ((XQ .u64 s259 1)==1) (Y s261 o1 s258 s260 λd=>A8 (!d.1) (Q (d.2.1,d.2.2)) (next262 (d.2.2,shr .u64 s259 1,A6 (s260+1),d.2.1))) (next262 (s258,shr .u64 s259 1,A6 (s260+1),s261))) (next193 (s258,A6 (s191+1),s261))) (s190,h,shl .i64 s191 6,s192)) (Q (s192,s190))) (o2,0,o0)
def OL (a0:List Int) (a1:Int) (Q:Int->Prop):Prop:=
 K2 a0 λK=>OJ 0 a1 0 K (λ(D:Nat) (O:Int) (J:Int) (h:Int) (U:(Bool×Nat×Int)->Prop)=>eqP D 0 (A8 (decide (O<=h)) (U (false,1,h)) (U (true,0,J)))) λd=>A8 (decide (d.1=0)) (Q (-1)) (eqP d.1 1 (Q d.2))
def PY (a0:List Int) (a1:Int) (Q:Bool->Prop):Prop:=
 A8 (decide (0<=a1)) (A8 (decide (a1<=4096)) (PX a1 λh=>A8 ((a0.length:Int)==h) (OL a0 a1 λd=>Q (decide (d<0))) (Q false)) (Q false)) (Q false)
def nQ (a0:Plan) (a1:State) (Q:Bool->Prop):Prop:=
 OB a0 λh=>A8 (h != 0) (Q false) (A8 (decide (a1.Low<0)) (Q false) (A8 (decide (a1.High<a1.Low)) (Q false) (A8 (decide (a0.N<a1.High)) (Q false) (A8 ((a1.A.length:Int)==(A6 (a1.High - a1.Low))) (A8 ((a1.B.length:Int)==(A6 (a1.High - a1.Low))) (PY a1.On (A6 (a1.High - a1.Low)) λd=>Q d) (Q false)) (Q false)))))
def OM (a0:Plan) (a1:State) (Q:State->Prop):Prop:=
 nQ a0 a1 λd=>A8 d (Q a1) (Q FH)
def WN (a0:Int) (Q:Int->Prop):Prop:=
 AW (λ(s:Int×Int) next11=>match s with | (s9,s10)=>A8 (s9==0) (Q s10) (next11 (XQ .u64 s9 (IntKind.wrap .u64 (s9 - 1)),A6 (s10+1)))) (a0,0)
def PZ (a0:List Int) (Q:Int->Prop):Prop:=
 AW (λ(s:Int×Int) next42=>match s with | (s40,s41)=>A8 (decide (s41<(a0.length:Int))) (AZ a0 s41 λh=>WN h λd=>next42 (A6 (s40+d),A6 (s41+1))) (Q s40)) (0,0)
def aB (a0:Plan) (a1:State) (K:Int) (Q:Int->Prop):Prop:=
 OM a0 a1 λd=>A8 (a0.Kind==4) (A8 (decide (a0.Length<=K)) (Q 0) (PZ d.On λD=>Q D)) (A8 (a0.Kind==5) (AW (λ(s:Int×Int) next71=>match s with | (s69,s70)=>A8 (decide (s70<(d.A.length:Int))) (AZ d.A s70 λh=>A8 (h==0) (next71 (A6 (s69+1),A6 (s70+1))) (next71 (s69,A6 (s70+1)))) (Q s69)) (0,0)) (PZ d.On λJ=>Q J))
def dB (a0:Int) (a1:Int) (d:Int) (Q:Int->Prop):Prop:=
 OH a0 λh=>A8 (!h) (Q (-1)) (A8 (decide (a1<0)) (Q (-1)) (A8 (decide (8<=a1)) (Q (-1)) (A8 (decide (d<0)) (Q (-1)) (A8 (decide (a0<=d)) (Q (-1)) (Q (A6 ((A6 (a1*a0))+d)))))))
def VN (a0:Int) (a1:Int) (Q:Int->Prop):Prop:=
 OH a0 λd=>A8 (!d) (Q (-1)) (A8 (decide (a1<0)) (Q (-1)) (A8 (decide ((A6 (a0*8))<=a1)) (Q (-1)) (nzP a0 <| Q (A6 (a1.tdiv a0)))))
def Q3 (a0:Int) (a1:Int) (Q:Int->Prop):Prop:=
 VN a0 a1 λd=>A8 (decide (d<0)) (Q (-1)) (nzP a0 <| Q (a1.tmod a0))
def BJ (a0:List Int) (Q:(List Int)->Prop):Prop:=
 Ab6 a0 (Q ([]:List Int)) (DA 8 ([]:List Int) a0 λ_=>Q (([]:List Int)++a0))
def ON (o0:Nat) (o1:List Int) (o2:List Int) (Y:Nat->(List Int)->Int->((Bool×Nat×(List Int))->Prop)->Prop) (Q:(Nat×(List Int))->Prop):Prop:=
 AW (λ(s:(List Int)×Int×Nat) next257=>match s with | (s251,s255,s256)=>A8 (decide (s255<(o2.length:Int))) (AZ o2 s255 λh=>AW (λ(s:(List Int)×Int×Int×Nat) next346=>match s with | (s339,s343,s344,s345)=>A8 (s343 != 0) (A8 ((XQ .u64 s343 1)==1) (Y s345 s339 s344 λd=>A8 (!d.1) (Q (d.2.1,d.2.2)) (next346 (d.2.2,shr .u64 s343 1,A6 (s344+1),d.2.1))) (next346 (s339,shr .u64 s343 1,A6 (s344+1),s345))) (next257 (s339,A6 (s255+1),s345))) (s251,h,shl .i64 s255 6,s256)) (Q (s256,s251))) (o1,0,o0)
def FQ (o0:List Int) (Q:(List Int)->Prop):Prop:=
 ON 0 ([]:List Int) o0 (λ(J:Nat) (D:List Int) (d:Int) (K:(Bool×Nat×(List Int))->Prop)=>eqP J 0 (DA 8 D ([d]) λ_=>K (true,0,(D++([d]))))) λh=>eqP h.1 0 (Q h.2)
def II (o0:List Int) (Q:(List Int)->Prop):Prop:=
 FQ o0 λd=>Q d
def SG (a0:List Int) (Q:(List Int)->Prop):Prop:=
 K2 a0 λh=>II h λd=>Q d
def AP (a0:List AM) (Q:(List AM)->Prop):Prop:=
 Ab6 a0 (Q ([]:List AM)) (DA 16 ([]:List AM) a0 λ_=>Q (([]:List AM)++a0))
def CQ (a0:List B8) (Q:(List B8)->Prop):Prop:=
 Ab6 a0 (Q ([]:List B8)) (DA 24 ([]:List B8) a0 λ_=>Q (([]:List B8)++a0))
def WO (a0:AA) (Q:AA->Prop):Prop:=
 AP a0.Vec.Items λh=>CQ a0.Sums λd=>Q ({ a0 with Vec:=({ N:=a0.Vec.N,Items:=h }:Vec),Sums:=d }:AA)
def CL (a0:List A3) (Q:(List A3)->Prop):Prop:=
 Ab6 a0 (Q ([]:List A3)) (DA 24 ([]:List A3) a0 λ_=>Q (([]:List A3)++a0))
def YJ (a0:AA) (Q:AA->Prop):Prop:=
 AP a0.Vec.Items λh=>CQ a0.Sums λD=>CL a0.Triples λd=>Q ({ a0 with Vec:=({ N:=a0.Vec.N,Items:=h }:Vec),Sums:=D,Triples:=d }:AA)
def N9 (a0:Int×Int) (a1:Int×Int) (Q:Int->Prop):Prop:=
 CI a0.1 a1.1 λD=>CI a0.2 a1.2 λd=>IE ([D,d]:List Int) λh=>Q h
def RG (a0:Int) (a1:Int) (Q:Bool->Prop):Prop:=
 A8 (decide (0<=a0)) (Q (decide (a0<=a1))) (Q false)
def NA (o0:Int) (o1:Vec) (a0:AM) (Q:(Bool×Int)->Prop):Prop:=
 A8 (decide (a0.At<=o0)) (Q (true,a0.At)) (Q (decide (o1.N<=a0.At),a0.At))
def DF (o0:Int) (o1:Vec) (a0:List AM) (Q:(Int×Int)->Prop):Prop:=
 AW (λ(s:Int×Int) next61=>match s with | (s59,s60)=>A8 (decide (s60<(a0.length:Int))) (AZ a0 s60 λh=>NA s59 o1 h λd=>A8 d.1 (Q (s60,d.2)) (next61 (d.2,A6 (s60+1)))) (Q ((-1),s59))) (o0,0)
def CR (o0:Int) (o1:Vec) (a0:List AM) (Q:(Bool×Int)->Prop):Prop:=
 DF o0 o1 a0 λd=>Q (decide (0<=d.1),d.2)
def EN (a0:Vec) (Q:Bool->Prop):Prop:=
 RG a0.N 4096 λh=>A8 (!h) (Q false) (CR (-1) a0 a0.Items λd=>Q (!d.1))
def LH (a0:AA) (a1:Int) (Q:(Vec×Bool)->Prop):Prop:=
 AP a0.Vec.Items λd=>EN ({ N:=a0.Vec.N,Items:=d }:Vec) λh=>A8 h (Q (({ N:=a0.Vec.N,Items:=d }:Vec),a0.Vec.N==a1)) (Q (({ N:=a0.Vec.N,Items:=d }:Vec),false))
def NB (a0:Int) (Q:Bool->Prop):Prop:=
 A8 (decide (0<=a0)) (Q (decide (a0<=4096))) (Q false)
def K3 (a0:Vec) (Q:Vec->Prop):Prop:=
 EN a0 λd=>A8 d (Q a0) (Q BO)
def OO (o0:Int) (a0:AM) (Q:AM->Prop):Prop:=
 Q ({ At:=A6 (o0+a0.At),Val:=a0.Val }:AM)
def NC (o0:Int) (a0:Vec) (Q:Vec->Prop):Prop:=
 K3 a0 λd=>AP d.Items λJ=>AW (λ(s:(List AM)×Int) next126=>match s with | (s120,s125)=>A8 (decide (s125<(J.length:Int))) (AZ s120 s125 λh=>OO o0 h λD=>AZ s120 s125 λK=>next126 ((s120.set s125.toNat D),A6 (s125+1))) (Q ({ N:=d.N,Items:=s120 }:Vec))) (J,0)
def WP (a0:List Vec) (Q:(Vec×Int)->Prop):Prop:=
 AW (λ(s:Int×(List AM)×Int) next161=>match s with | (s154,s155,s159)=>A8 (decide (s159<(a0.length:Int))) (AZ a0 s159 λh=>NC s154 h λd=>A8 (decide ((A6 (4096 - s154))<d.N)) (Q (BO,5)) (DA 16 s155 d.Items λ_=>next161 (A6 (s154+d.N),(s155++d.Items),A6 (s159+1)))) (Q (({ N:=s154,Items:=s155 }:Vec),0))) (0,([]:List AM),0)
def RY (a0:Int) (a1:Int) (Q:Int->Prop):Prop:=
 A8 (a0==2) (Q 1) (A8 (a0==4) (Q 5) (A8 (a0==5) (A8 ((XQ .i64 a1 1)==0) (Q 2) (Q 4)) (A8 (a0==1) (Q 4) (A8 (a0==3) (Q 4) (Q 0)))))
def RH (a0:Int) (a1:Int) (d:Int) (Q:Int->Prop):Prop:=
 A8 (a0==1) (Q a0) (A8 (a0==2) (Q a0) (A8 (decide ((A6 (d.tdiv 8))<a1)) (Q 2) (Q 1)))
def OP (a0:Int) (Q:Dense->Prop):Prop:=
 A8 (decide (a0<0)) (mkP 8 0 0 λ_=>OI 0 λd=>Q ({ N:=0,Has:=d,Vals:=(List.replicate (Int.toNat 0) (0:Int)) }:Dense)) (A8 (decide (4096<a0)) (mkP 8 0 0 λ_=>OI 0 λh=>Q ({ N:=0,Has:=h,Vals:=(List.replicate (Int.toNat 0) (0:Int)) }:Dense)) (mkP 8 a0 0 λ_=>OI a0 λD=>Q ({ N:=a0,Has:=D,Vals:=(List.replicate a0.toNat (0:Int)) }:Dense)))
def ND (a0:Vec) (Q:(List Int)->Prop):Prop:=
 K3 a0 λd=>AW (λ(s:(List Int)×Int) next91=>match s with | (s85,s89)=>A8 (decide (s89<(d.Items.length:Int))) (AZ d.Items s89 λh=>DA 8 s85 ([h.At]) λ_=>next91 ((s85++([h.At])),A6 (s89+1))) (Q s85)) (([]:List Int),0)
def YK (a0:Vec) (Q:Dense->Prop):Prop:=
 EN a0 λK=>A8 (!K) (OP 0 λO=>Q O) (OP a0.N λD=>AW (λ(s:(List Int)×Int) next222=>match s with | (s217,s221)=>A8 (decide (s221<(a0.Items.length:Int))) (AZ a0.Items s221 λd=>AZ s217 d.At λU=>next222 ((s217.set d.At.toNat d.Val),A6 (s221+1))) (ND a0 λh=>K1 a0.N h λJ=>Q ({ N:=D.N,Has:=J,Vals:=s217 }:Dense))) (D.Vals,0))
def U7 (a0:Int) (a1:Vec) (Q:Y2->Prop):Prop:=
 DB (λ(h:(Int×(List AM))->Prop)=>EN a1 λK=>A8 (!K) (h (0,([]:List AM))) (h (a1.N,a1.Items))) λ(d,s25)=>RH a0 (s25.length:Int) d λO=>A8 (O==2) (YK ({ N:=d,Items:=s25 }:Vec) λJ=>Q ({ Form:=2,Vec:=BO,Dense:=J }:Y2)) (AP s25 λD=>Q ({ Form:=1,Vec:=({ N:=d,Items:=D }:Vec),Dense:=({ N:=0,Has:=([]:List Int),Vals:=([]:List Int) }:Dense) }:Y2))
def KO (a0:Int) (a1:Int) (d:Int) (Q:Int->Prop):Prop:=
 A8 (a0==1) (Q a0) (A8 (a0==2) (Q a0) (A8 (decide ((A6 (d.tdiv 4))<a1)) (Q 2) (Q 1)))
def MJ (a0:Int) (a1:Int) (Q:Bool->Prop):Prop:=
 A8 (decide (0<=a0)) (Q (decide (a0<=a1))) (Q false)
def MK (a0:List Int) (a1:Int) (Q:Bool->Prop):Prop:=
 AW (λ(d:Int) next69=>A8 (decide (d<(a0.length:Int))) (AZ a0 d λh=>MJ h (A6 (a1 - 1)) λD=>A8 (!D) (Q false) (A8 (decide (0<d)) (AZ a0 (A6 (d - 1)) λJ=>A8 (decide (h<=J)) (Q false) (next69 (A6 (d+1)))) (next69 (A6 (d+1))))) (Q true)) 0
def SH (a0:AN) (Q:Bool->Prop):Prop:=
 MJ a0.Rows 4096 λO=>A8 (!O) (Q false) (MJ a0.Cols 4096 λV=>A8 (!V) (Q false) (A8 ((a0.Start.length:Int) != (A6 ((a0.At.length:Int)+1))) (Q false) (A8 ((a0.Val.length:Int) != (a0.Row.length:Int)) (Q false) (A8 (decide (65536<(a0.Row.length:Int))) (Q false) (MK a0.At a0.Cols λU=>A8 (!U) (Q false) (MK a0.Start (A6 ((a0.Row.length:Int)+1)) λZ=>A8 (!Z) (Q false) (AZ a0.Start 0 λK=>A8 (K != 0) (Q false) (AZ a0.Start (a0.At.length:Int) λW=>A8 (W != (a0.Row.length:Int)) (Q false) (AW (λ(d:Int) next167=>A8 (decide (d<(a0.At.length:Int))) (AZ a0.Start d λh=>AZ a0.Start (A6 (d+1)) λD=>slP a0.Row h D λ_=>MK ((a0.Row.take D.toNat).drop h.toNat) a0.Rows λJ=>A8 (!J) (Q false) (next167 (A6 (d+1)))) (Q true)) 0)))))))))
def VO (a0:AN) (Q:AN->Prop):Prop:=
 SH a0 λh=>A8 h (Q a0) (VL  λd=>Q d)
def SI (a0:AN) (a1:Int) (Q:Int->Prop):Prop:=
 DB (λ(d:(Int×Int)->Prop)=>AW (λ(s:Int×Int) next288=>match s with | (s286,s287)=>A8 (decide (s286<s287)) (AZ a0.At (A6 (s286+(A6 ((A6 (s287 - s286)).tdiv 2)))) λD=>A8 (D==a1) (d (A6 (s286+(A6 ((A6 (s287 - s286)).tdiv 2))),s287)) (AZ a0.At (A6 (s286+(A6 ((A6 (s287 - s286)).tdiv 2)))) λJ=>A8 (decide (J<a1)) (next288 (A6 ((A6 (s286+(A6 ((A6 (s287 - s286)).tdiv 2))))+1),s287)) (next288 (s286,A6 (s286+(A6 ((A6 (s287 - s286)).tdiv 2))))))) (d (s286,s287))) (0,(a0.At.length:Int))) λ(h,s216)=>A8 (decide (h<s216)) (Q h) (Q (-1))
def aC (a0:AN) (a1:List Int) (Q:Int->Prop):Prop:=
 VO a0 λh=>AW (λ(s:Int×Int) next130=>match s with | (s128,s129)=>A8 (decide (s129<(a1.length:Int))) (AZ a1 s129 λK=>SI h K λd=>A8 (decide (0<=d)) (AZ h.Start (A6 (d+1)) λJ=>AZ h.Start d λD=>next130 (A6 (s128+(A6 (J - D))),A6 (s129+1))) (next130 (s128,A6 (s129+1)))) (Q s128)) (0,0)
def aD (a0:AN) (a1:Vec) (Q:Int->Prop):Prop:=
 ND a1 λd=>aC a0 d λh=>Q h
def KP (a0:List Int) (a1:Int) (Q:Bool->Prop):Prop:=
 N8 a0 a1 λD=>A8 D (AZ a0 (shr .i64 a1 6) λd=>VM a1 λh=>Q ((XQ .u64 d h) != 0)) (Q false)
def Q4 (a0:Dense) (Q:Bool->Prop):Prop:=
 PY a0.Has a0.N λh=>A8 (!h) (Q false) (A8 ((a0.Vals.length:Int) != a0.N) (Q false) (AW (λ(d:Int) next75=>A8 (decide (d<(a0.Vals.length:Int))) (AZ a0.Vals d λJ=>A8 (J != 0) (KP a0.Has d λD=>A8 (!D) (Q false) (next75 (A6 (d+1)))) (next75 (A6 (d+1)))) (Q true)) 0))
def dC (a0:Dense) (Q:Dense->Prop):Prop:=
 Q4 a0 λh=>A8 h (Q a0) (OP 0 λd=>Q d)
def UW (a0:Dense) (Q:Dense->Prop):Prop:=
 Q a0
def QL (o0:Nat) (o1:Vec) (o2:Dense) (Y:Nat->Vec->Int->Int->((Bool×Nat×Vec)->Prop)->Prop) (Q:(Nat×Vec)->Prop):Prop:=
 OL o2.Has 0 λJ=>AW (λ(s:Int×(List AM)×Int×Nat) next117=>match s with | (s110,s111,s115,s116)=>A8 (decide (0<=s115)) (AZ o2.Vals s115 λh=>Y s116 ({ N:=s110,Items:=s111 }:Vec) s115 h λd=>A8 (!d.1) (Q (d.2.1,d.2.2)) (OL o2.Has (A6 (s115+1)) λD=>next117 (d.2.2.N,d.2.2.Items,D,d.2.1))) (Q (s116,({ N:=s110,Items:=s111 }:Vec)))) (o1.N,o1.Items,J,o0)
def WQ (a0:Dense) (Q:Vec->Prop):Prop:=
 dC a0 λJ=>UW J λO=>QL 0 ({ N:=J.N,Items:=([]:List AM) }:Vec) O (λ(U:Nat) (D:Vec) (K:Int) (d:Int) (V:(Bool×Nat×Vec)->Prop)=>eqP U 0 (DA 16 D.Items ([({ At:=K,Val:=d }:AM)]) λ_=>V (true,0,({ N:=D.N,Items:=(D.Items++([({ At:=K,Val:=d }:AM)])) }:Vec)))) λh=>eqP h.1 0 (Q h.2)
def OQ (a0:Y2) (Q:Vec->Prop):Prop:=
 A8 (a0.Form==2) (WQ a0.Dense λK=>Q K) (DB (λ(d:Bool->Prop)=>A8 (a0.Form==1) (EN a0.Vec λJ=>d J) (d false)) λh=>A8 h (AP a0.Vec.Items λD=>Q ({ N:=a0.Vec.N,Items:=D }:Vec)) (Q BO))
def aF (a0:Rows) (Q:Int->Prop):Prop:=
 PV a0 λd=>Q (d.Col.length:Int)
def WR (a0:List B8) (Q:Bool->Prop):Prop:=
 AW (λ(d:Int) next32=>A8 (decide (d<(a0.length:Int))) (A8 (decide (0<d)) (AZ a0 (A6 (d - 1)) λD=>AZ a0 d λh=>A8 (decide (h.At<=D.At)) (Q false) (next32 (A6 (d+1)))) (next32 (A6 (d+1)))) (Q true)) 0
def NF (a0:List AF) (Q:Int->Prop):Prop:=
 Q (a0.length:Int)
def OR (a0:List B8) (Q:Bool->Prop):Prop:=
 WR a0 λd=>Q (!d)
def DR (a0:List (List B8)) (Q:Int->Prop):Prop:=
 AW (λ(d:Int) next52=>A8 (decide (d<(a0.length:Int))) (AZ a0 d λD=>OR D λh=>A8 h (Q d) (next52 (A6 (d+1)))) (Q (-1))) 0
def BZ (a0:List (List B8)) (Q:Bool->Prop):Prop:=
 DR a0 λd=>Q (decide (0<=d))
def LA (o0:A7) (a0:AF) (Q:A7->Prop):Prop:=
 DA 32 o0.heads ([a0]) λ_=>Q ({ o0 with heads:=(o0.heads++([a0])) }:A7)
def GA (o0:List AF) (Q:Int->Prop):Prop:=
 Q (o0.length:Int)
def EK (o0:List AF) (a0:Int) (a1:Int) (Q:Bool->Prop):Prop:=
 AZ o0 a0 λV=>AZ V.l 0 λx20=>AZ o0 a1 λd=>AZ d.l 0 λU=>AZ o0 a0 λK=>AZ o0 a1 λD=>CI x20.At U.At λJ=>CI K.which D.which λh=>IE ([J,h]:List Int) λO=>Q (decide (O<0))
def EL (o0:List AF) (a0:Int) (a1:Int) (Q:(List AF)->Prop):Prop:=
 AZ o0 a1 λd=>AZ o0 a0 λx20=>AZ o0 a0 λh=>AZ (o0.set a0.toNat d) a1 λD=>Q ((o0.set a0.toNat d).set a1.toNat x20)
def ES (o0:A7) (a0:Int) (Q:A7->Prop):Prop:=
 AW (λ(s:(List AF)×Int) next61=>match s with | (s59,s60)=>A8 ((A6 ((A6 (s60 - 1)).tdiv 2))==s60) (Q ({ o0 with heads:=s59 }:A7)) (EK s59 s60 (A6 ((A6 (s60 - 1)).tdiv 2)) λh=>A8 (!h) (Q ({ o0 with heads:=s59 }:A7)) (EL s59 (A6 ((A6 (s60 - 1)).tdiv 2)) s60 λd=>next61 (d,A6 ((A6 (s60 - 1)).tdiv 2))))) (o0.heads,a0)
def HK (o0:A7) (a0:AF) (Q:A7->Prop):Prop:=
 LA o0 a0 λd=>GA d.heads λD=>ES d (A6 (D - 1)) λh=>Q h
def FU (o0:A7) (a0:List B8) (a1:Int) (Q:A7->Prop):Prop:=
 A8 (decide (0<(a0.length:Int))) (HK o0 ({ l:=a0,which:=a1 }:AF) λd=>Q d) (Q o0)
def FJ (o0:A7) (a0:Int) (a1:Int) (Q:(Bool×A7)->Prop):Prop:=
 AW (λ(s:(List AF)×Int) next131=>match s with | (s129,s130)=>A8 (decide (a1<=(A6 ((A6 (2*s130))+1)))) (Q (decide (a0<s130),({ o0 with heads:=s129 }:A7))) (A8 (decide ((A6 ((A6 (2*s130))+1))<0)) (Q (decide (a0<s130),({ o0 with heads:=s129 }:A7))) (DB (λ(d:Int->Prop)=>A8 (decide ((A6 ((A6 ((A6 (2*s130))+1))+1))<a1)) (EK s129 (A6 ((A6 ((A6 (2*s130))+1))+1)) (A6 ((A6 (2*s130))+1)) λK=>A8 K (d (A6 ((A6 ((A6 (2*s130))+1))+1))) (d (A6 ((A6 (2*s130))+1)))) (d (A6 ((A6 (2*s130))+1)))) λh=>EK s129 h s130 λJ=>A8 (!J) (Q (decide (a0<s130),({ o0 with heads:=s129 }:A7))) (EL s129 s130 h λD=>next131 (D,h))))) (o0.heads,a0)
def M7 (o0:A7) (Q:(AF×A7)->Prop):Prop:=
 AZ o0.heads (A6 ((o0.heads.length:Int) - 1)) λd=>slP o0.heads 0 (A6 ((o0.heads.length:Int) - 1)) λ_=>Q (d,({ o0 with heads:=(o0.heads.take (A6 ((o0.heads.length:Int) - 1)).toNat) }:A7))
def G1 (o0:A7) (Q:(AF×A7)->Prop):Prop:=
 GA o0.heads λd=>EL o0.heads 0 (A6 (d - 1)) λJ=>FJ ({ o0 with heads:=J }:A7) 0 (A6 (d - 1)) λD=>M7 D.2 λh=>Q (h.1,h.2)
def FD (o0:A7) (Q:A7->Prop):Prop:=
 AZ o0.heads 0 λh=>G1 o0 λZ=>AZ h.l 0 λD=>slP h.l 1 (h.l.length:Int) λ_=>FU Z.2 ((h.l.take (h.l.length:Int).toNat).drop (Int.toNat 1)) h.which λd=>DB (λ(J:Bool->Prop)=>A8 (decide (0<(d.out.length:Int))) (AZ d.out (A6 ((d.out.length:Int) - 1)) λV=>J (V.At==D.At)) (J false)) λO=>A8 O (AZ d.out (A6 ((d.out.length:Int) - 1)) λU=>S9 d.r U.Val D.Val λK=>AZ d.out (A6 ((d.out.length:Int) - 1)) λW=>Q ({ d with out:=(d.out.set ((A6 ((d.out.length:Int) - 1)).toNat) ({ At:=W.At,Val:=K }:B8)) }:A7)) (DA 24 d.out ([D]) λ_=>Q ({ d with out:=(d.out++([D])) }:A7))
def SJ (a0:Int) (a1:List (List B8)) (Q:((List B8)×Int)->Prop):Prop:=
 QZ a0 λK=>A8 (!K) (Q (([]:List B8),8)) (BZ a1 λO=>A8 O (Q (([]:List B8),6)) (AW (λ(s:(List AF)×Int×(List B8)×Int) next292=>match s with | (s280,s284,s285,s289)=>A8 (decide (s289<(a1.length:Int))) (AZ a1 s289 λJ=>FU ({ heads:=s280,r:=s284,out:=s285 }:A7) J s289 λd=>next292 (d.heads,d.r,d.out,A6 (s289+1))) (AW (λ(s:(List AF)×Int×(List B8)) next413=>match s with | (s404,s408,s409)=>NF s404 λD=>A8 (decide (0<D)) (FD ({ heads:=s404,r:=s408,out:=s409 }:A7) λh=>next413 (h.heads,h.r,h.out)) (Q (s409,0))) (s280,s284,s285))) (([]:List AF),a0,([]:List B8),0)))
def WS (a0:Plan) (a1:State) (a2:Int) (Q:((List Int)×Bool)->Prop):Prop:=
 OM a0 a1 λd=>DB (λ(J:Int->Prop)=>A8 (a0.Kind==1) (J (-1)) (A8 (a0.Kind==5) (J 0) (Q (([]:List Int),true)))) λK=>AW (λ(s:(List Int)×Int) next230=>match s with | (s224,s228)=>A8 (decide (s228<(d.A.length:Int))) (AZ d.A s228 λD=>A8 (D==K) (DA 8 s224 ([s228]) λ_=>next230 ((s224++([s228])),A6 (s228+1))) (next230 (s224,A6 (s228+1)))) (K1 (A6 (d.High - d.Low)) s224 λh=>Q (h,false))) (([]:List Int),0)
def aG (a0:Int) (Q:Int->Prop):Prop:=
 A8 (a0==1) (Q 4611686018427387904) (A8 (a0==3) (Q 4611686018427387904) (A8 (a0==4) (Q 4611686018427387904) (Q 0)))
def QM (o0:Int) (a0:B8) (Q:Bool->Prop):Prop:=
 A8 (decide (a0.At<0)) (Q true) (Q (decide (o0<=a0.At)))
def DS (o0:Int) (a0:List B8) (Q:Int->Prop):Prop:=
 AW (λ(d:Int) next48=>A8 (decide (d<(a0.length:Int))) (AZ a0 d λh=>QM o0 h λD=>A8 D (Q d) (next48 (A6 (d+1)))) (Q (-1))) 0
def C0 (o0:Int) (a0:List B8) (Q:Bool->Prop):Prop:=
 DS o0 a0 λd=>Q (decide (0<=d))
def aH (a0:Int) (a1:Int) (J:List B8) (Q:(Vec×Int)->Prop):Prop:=
 QZ a0 λV=>A8 (!V) (Q (BO,8)) (A8 (decide (a1<0)) (Q (BO,3)) (A8 (decide (4096<a1)) (Q (BO,3)) (C0 a1 J λW=>A8 W (Q (BO,3)) (AW (λ(d:Int) next135=>A8 (decide (d<(J.length:Int))) (A8 (decide (0<d)) (AZ J (A6 (d - 1)) λO=>AZ J d λK=>A8 (decide (K.At<=O.At)) (Q (BO,6)) (next135 (A6 (d+1)))) (next135 (A6 (d+1)))) (AW (λ(s:(List AM)×Int) next285=>match s with | (s279,s283)=>A8 (decide (s283<(J.length:Int))) (AZ J s283 λD=>PT a0 D.Val λh=>A8 (!h.2) (Q (BO,12)) (aG a0 λU=>A8 (h.1 != U) (DA 16 s279 ([({ At:=D.At,Val:=h.1 }:AM)]) λ_=>next285 ((s279++([({ At:=D.At,Val:=h.1 }:AM)])),A6 (s283+1))) (next285 (s279,A6 (s283+1))))) (Q (({ N:=a1,Items:=s279 }:Vec),0))) (([]:List AM),0))) 0))))
def I7 (a0:Plan) (a1:Int) (d:Int) (Q:Int->Prop):Prop:=
 I5 a1 8192 λD=>A8 (!D) (Q 0) (I5 d (A6 (a0.N - 1)) λh=>A8 (!h) (Q 0) (A8 (decide (0<(a0.Draws.length:Int))) (nzP (a0.Draws.length:Int) <| AZ a0.Draws ((A6 ((A6 (a1*a0.N))+d)).tmod (a0.Draws.length:Int)) λJ=>Q (bor .i64 (shl .i64 J 12) d)) (Q (bor .i64 (shl .i64 0 12) d))))
def ML (a0:Int) (Q:Int->Prop):Prop:=
 Q (shr .i64 (A6 (a0 - 1)) 1)
def SK (a0:Plan) (a1:State) (O:Int) (h:Int) (Q:(Int×Bool)->Prop):Prop:=
 KP a1.On h λd=>A8 (a0.Kind==1) (Q (A6 (a1.Low+h),d)) (A8 (a0.Kind==5) (A8 ((XQ .i64 O 1)==0) (Q (1,d)) (AZ a1.A h λJ=>ML O λK=>I7 a0 K (A6 (a1.Low+h)) λD=>Q (D,J==0))) (AZ a1.A h λx44=>Q (x44,d)))
def fM (a0:Plan) (a1:State) (D:Int) (Q:Vec->Prop):Prop:=
 OM a0 a1 λd=>AW (λ(s:(List AM)×Int) next99=>match s with | (s93,s97)=>A8 (decide (s97<(A6 (d.High - d.Low)))) (SK a0 d D s97 λh=>A8 h.2 (DA 16 s93 ([({ At:=s97,Val:=h.1 }:AM)]) λ_=>next99 ((s93++([({ At:=s97,Val:=h.1 }:AM)])),A6 (s97+1))) (next99 (s93,A6 (s97+1)))) (Q ({ N:=A6 (d.High - d.Low),Items:=s93 }:Vec))) (([]:List AM),0)
def NG (a0:Int×Int) (a1:Int×Int) (Q:(Int×Int)->Prop):Prop:=
 Q ((if a1.1 > a0.1 then a1.1 else a0.1),(if (if a1.2<a0.2 then a1.2 else a0.2) > (if a1.1 > a0.1 then a1.1 else a0.1) then (if a1.2<a0.2 then a1.2 else a0.2) else (if a1.1 > a0.1 then a1.1 else a0.1)))
def aI (a0:Int) (a1:Int) (d:Int) (Q:Int->Prop):Prop:=
 A8 (decide (d<0)) (Q 0) (A8 (decide (a1<=d)) (Q 0) (HJ a0 a1 (A6 (d+1)) λD=>HJ a0 a1 d λh=>Q (A6 (D - h))))
def IV (a0:AM) (a1:Int) (Q:Int->Prop):Prop:=
 CI a0.At a1 λd=>Q d
def BG (a0:List AM) (a1:Int) (Q:(Int×Bool)->Prop):Prop:=
 AW (λ(s:Int×Int) next119=>match s with | (s117,s118)=>A8 (decide (s117<s118)) (AZ a0 (A6 (shr .u64 (IntKind.wrap .u64 (A6 (s117+s118))) 1)) λD=>IV D a1 λJ=>A8 (decide (J<0)) (next119 (A6 ((A6 (shr .u64 (IntKind.wrap .u64 (A6 (s117+s118))) 1))+1),s118)) (next119 (s117,A6 (shr .u64 (IntKind.wrap .u64 (A6 (s117+s118))) 1)))) (A8 (decide (s117<(a0.length:Int))) (AZ a0 s117 λh=>IV h a1 λd=>Q (s117,d==0)) (Q (s117,false)))) (0,(a0.length:Int))
def M8 (a0:Vec) (a1:Int) (Q:(Int×Bool)->Prop):Prop:=
 BG a0.Items a1 λd=>Q (d.1,d.2)
def OS (o0:Int) (a0:AM) (Q:AM->Prop):Prop:=
 Q ({ At:=A6 (a0.At - o0),Val:=a0.Val }:AM)
def NH (o0:Int) (a0:Vec) (Q:Vec->Prop):Prop:=
 K3 a0 λd=>AP d.Items λJ=>AW (λ(s:(List AM)×Int) next126=>match s with | (s120,s125)=>A8 (decide (s125<(J.length:Int))) (AZ s120 s125 λh=>OS o0 h λD=>AZ s120 s125 λK=>next126 ((s120.set s125.toNat D),A6 (s125+1))) (Q ({ N:=d.N,Items:=s120 }:Vec))) (J,0)
def WT (a0:Vec) (a1:Int) (h:Int) (Q:Vec->Prop):Prop:=
 K3 a0 λd=>A8 (decide ((if d.N<h then d.N else h)<=(if 0 > a1 then 0 else a1))) (Q BO) (M8 d (if 0 > a1 then 0 else a1) λJ=>M8 d (if d.N<h then d.N else h) λD=>slP d.Items J.1 D.1 λ_=>NH (if 0 > a1 then 0 else a1) ({ N:=d.N,Items:=((d.Items.take D.1.toNat).drop J.1.toNat) }:Vec) λK=>Q ({ N:=A6 ((if d.N<h then d.N else h) - (if 0 > a1 then 0 else a1)),Items:=K.Items }:Vec))
def U8 (a0:Vec) (a1:Int) (O:Int) (a3:Int) (K:Int) (a5:Int) (Q:Vec->Prop):Prop:=
 NB a1 λW=>A8 (!W) (Q BO) (OG O a3 K a5 λJ=>A8 (!J) (Q BO) (EN a0 λD=>A8 (!D) (Q BO) (aI a1 O K λV=>A8 (a0.N != V) (Q BO) (G0 a1 O K λd=>G0 a1 a3 a5 λZ=>NG d Z λh=>WT a0 (A6 (h.1 - d.1)) (A6 (h.2 - d.1)) λU=>Q U))))
def IJ (a0:List Int) (Q:Int->Prop):Prop:=
 A8 (decide ((a0.length:Int)<1)) (False) (AZ a0 0 λx16=>AW (λ(s:Int×Int) next54=>match s with | (s52,s53)=>A8 (decide (s53<(a0.length:Int))) (AZ a0 s53 λd=>next54 ((if d<s52 then d else s52),A6 (s53+1))) (Q s52)) (x16,1))
def K4 (a0:List Int) (a1:List Int) (Q:Bool->Prop):Prop:=
 A8 ((a0.length:Int) != (a1.length:Int)) (Q false) (AW (λ(d:Int) next55=>A8 (decide (d<(a0.length:Int))) (AZ a0 d λh=>AZ a1 d λD=>A8 (h != D) (Q false) (next55 (A6 (d+1)))) (Q true)) 0)
def WU (a0:List Int) (a1:List Int) (Q:Bool->Prop):Prop:=
 A8 ((a0.length:Int) != (a1.length:Int)) (Q false) (AW (λ(d:Int) next55=>A8 (decide (d<(a0.length:Int))) (AZ a0 d λh=>AZ a1 d λD=>A8 (h != D) (Q false) (next55 (A6 (d+1)))) (Q true)) 0)
def OT (a0:State) (a1:State) (Q:Bool->Prop):Prop:=
 A8 (a0.Low==a1.Low) (A8 (a0.High==a1.High) (K4 a0.A a1.A λh=>A8 h (K4 a0.B a1.B λD=>A8 D (WU a0.On a1.On λd=>Q d) (Q false)) (Q false)) (Q false)) (Q false)
def SM (a0:Result) (a1:Result) (Q:Bool->Prop):Prop:=
 A8 (a0.Status==a1.Status) (A8 (a0.Rounds==a1.Rounds) (OT a0.State a1.State λd=>Q d) (Q false)) (Q false)
def SN (a0:Plan) (a1:Int) (Q:(Int×Bool)->Prop):Prop:=
 A8 (a0.Kind==3) (Q (a1,true)) (A8 (a0.Kind==5) (Q (0,false)) (DB (λ(d:Bool->Prop)=>A8 (a0.Kind==4) (d (a1==a0.Source)) (d false)) λD=>A8 D (Q (1,true)) (DB (λ(h:(Bool×Bool)->Prop)=>A8 (a1==a0.Source) (h (true,true)) (h (false,a0.Kind==4))) λ(J,s21)=>A8 s21 (Q (0,J)) (A8 (a0.Kind==1) (Q ((-1),false)) (Q (4611686018427387904,false))))))
def aJ (a0:AN) (a1:Vec) (Q:(AN×Vec)->Prop):Prop:=
 DB (λ(d:(Int×Int×(List Int)×(List Int)×(List Int)×(List Int))->Prop)=>SH a0 λJ=>A8 (!J) (d (0,0,([]:List Int),([0]:List Int),([]:List Int),([]:List Int))) (d (a0.Rows,a0.Cols,a0.At,a0.Start,a0.Row,a0.Val))) λ(h,s44,s45,s49,s53,s57)=>EN a1 λD=>A8 (!D) (Q (({ Rows:=h,Cols:=s44,At:=s45,Start:=s49,Row:=s53,Val:=s57 }:AN),BO)) (Q (({ Rows:=h,Cols:=s44,At:=s45,Start:=s49,Row:=s53,Val:=s57 }:AN),a1))
def GU (a0:Int) (Q:(Int×Int)->Prop):Prop:=
 Q (shr .u64 (shl .u64 a0 32) 32,shr .u64 a0 32)
def RJ (a0:Int) (a1:Int) (Q:AL->Prop):Prop:=
 GU a0 λd=>GU a1 λh=>GU (IntKind.wrap .u64 (d.1*h.1)) λK=>GU (IntKind.wrap .u64 ((IntKind.wrap .u64 (d.2*h.1))+K.2)) λD=>GU (IntKind.wrap .u64 ((IntKind.wrap .u64 (d.1*h.2))+D.1)) λJ=>GU (IntKind.wrap .u64 (d.1*h.1)) λO=>Q ({ Hi:=A6 (IntKind.wrap .u64 ((IntKind.wrap .u64 ((IntKind.wrap .u64 (d.2*h.2))+D.2))+J.2)),Lo:=bor .u64 (shl .u64 J.1 32) O.1 }:AL)
def VP (a0:Int) (Q:Int->Prop):Prop:=
 A8 (decide (a0<0)) (Q (IntKind.wrap .u64 (0 - (IntKind.wrap .u64 (a0))))) (Q (IntKind.wrap .u64 (a0)))
def fN (a0:AL) (a1:AL) (Q:AL->Prop):Prop:=
 S8 (decide (a0.Lo<a1.Lo)) λd=>Q ({ Hi:=A6 (IntKind.wrap .u64 ((IntKind.wrap .u64 ((IntKind.wrap .u64 (a0.Hi)) - (IntKind.wrap .u64 (a1.Hi)))) - d)),Lo:=IntKind.wrap .u64 (a0.Lo - a1.Lo) }:AL)
def fO (a0:Int) (a1:Int) (Q:AL->Prop):Prop:=
 VP a0 λD=>VP a1 λJ=>RJ D J λd=>A8 (!((decide (a0<0))==(decide (a1<0)))) (fN O9 d λh=>Q h) (Q d)
def YL (a0:Int) (a1:Int) (h:Int) (Q:AL->Prop):Prop:=
 A8 (a0==2) (A8 (a1 != 0) (M4 (h != 0) λr22=>Q r22) (M4 false λZ=>Q Z)) (A8 (a0==5) (fO a1 h λr31=>Q r31) (DB (λ(O:Unit->Prop)=>QZ a0 λr56=>A8 r56 (A8 (decide (4611686018427387904<=(if h > a1 then h else a1))) (N5 4611686018427387904 λr62=>Q r62) (O ())) (O ())) λ_=>DB (λ(K:(Int×Int)->Prop)=>A8 (a0==1) (N5 a1 λJ=>K (J.Hi,J.Lo)) (A8 (a0==4) (K (0,0)) (A8 (a0==3) (N5 a1 λW=>Q W) (Q O9)))) λ(s88,s89)=>N5 4611686018427387904 λd=>N5 h λU=>YG ({ Hi:=s88,Lo:=s89 }:AL) U λD=>PS d D λV=>Q V))
def U9 (a0:Int) (a1:List AM) (K:Int) (O:List Int) (J:Bool) (Q:(List B8)->Prop):Prop:=
 AW (λ(s:(List B8)×Int) next118=>match s with | (s112,s116)=>A8 (decide (s116<(a1.length:Int))) (AZ a1 s116 λd=>KP O d.At λD=>A8 (!(D==J)) (YL a0 d.Val K λh=>DA 24 s112 ([({ At:=d.At,Val:=h }:B8)]) λ_=>next118 ((s112++([({ At:=d.At,Val:=h }:B8)])),A6 (s116+1))) (next118 (s112,A6 (s116+1)))) (Q s112)) (([]:List B8),0)
def SO (a0:AN) (a1:Int) (Q:(AN×Int)->Prop):Prop:=
 Q (a0,a1)
def OU (o0:Nat) (o1:List AM) (o2:AN) (o3:Int) (Y:Nat->(List AM)->AM->((Bool×Nat×(List AM))->Prop)->Prop) (Q:(Nat×(List AM))->Prop):Prop:=
 AZ o2.Start o3 λK=>AW (λ(s:(List AM)×Int×Nat) next172=>match s with | (s166,s170,s171)=>AZ o2.Start (A6 (o3+1)) λD=>A8 (decide (s170<D)) (AZ o2.Row s170 λh=>AZ o2.Val s170 λJ=>Y s171 s166 ({ At:=h,Val:=J }:AM) λd=>A8 (!d.1) (Q (d.2.1,d.2.2)) (next172 (d.2.2,A6 (s170+1),d.2.1))) (Q (s171,s166))) (o1,K,o0)
def DG (o0:AN) (o1:Int) (Q:(List AM)->Prop):Prop:=
 OU 0 ([]:List AM) o0 o1 (λ(J:Nat) (h:List AM) (D:AM) (K:(Bool×Nat×(List AM))->Prop)=>eqP J 0 (DA 16 h ([D]) λ_=>K (true,0,(h++([D]))))) λd=>eqP d.1 0 (Q d.2)
def E9 (o0:AN) (o1:Int) (Q:(List AM)->Prop):Prop:=
 DG o0 o1 λd=>Q d
def UA (a0:AN) (a1:Int) (Q:(List AM)->Prop):Prop:=
 VO a0 λd=>SI d a1 λh=>A8 (decide (h<0)) (Q ([]:List AM)) (SO d h λD=>E9 D.1 D.2 λJ=>Q J)
def aK (a0:Int) (a1:AN) (V:Vec) (W:List Int) (U:Bool) (Q:((List B8)×Int)->Prop):Prop:=
 aJ a1 V λd=>QZ a0 λO=>A8 (!O) (Q (([]:List B8),8)) (A8 (d.2.N != d.1.Cols) (Q (([]:List B8),4)) (AW (λ(s:(List (List B8))×Int) next192=>match s with | (s186,s190)=>A8 (decide (s190<(d.2.Items.length:Int))) (AZ d.2.Items s190 λJ=>UA d.1 J.At λK=>U9 a0 K J.Val W U λD=>DA 24 s186 ([D]) λ_=>next192 ((s186++([D])),A6 (s190+1))) (SJ a0 s186 λh=>Q (h.1,h.2))) (([]:List (List B8)),0)))
def aL (a0:Rows) (a1:Dense) (Q:(Rows×Dense)->Prop):Prop:=
 DB (λ(d:Rows->Prop)=>OE a0 λD=>A8 (!D) (U6 a0 (0,0) (0,0) λJ=>d J) (d a0)) λh=>Q4 a1 λO=>A8 (!O) (OP 0 λK=>Q (h,K)) (Q (h,a1))
def SP (a0:Int) (Q:(Bool×Int×AL)->Prop):Prop:=
 Q (false,a0,O9)
def OV (o0:Bool) (o1:Int) (o2:AL) (a0:AL) (Q:(Bool×AL)->Prop):Prop:=
 A8 o0 (S9 o1 o2 a0 λd=>Q (true,d)) (Q (true,a0))
def OW (o0:AL) (o1:Bool) (Q:(AL×Bool)->Prop):Prop:=
 Q (o0,o1)
def fP (a0:Int) (a1:Rows) (a2:Int) (a3:Dense) (Q:(AL×Bool)->Prop):Prop:=
 SP a0 λh=>AZ a1.Start a2 λZ=>AW (λ(s:Bool×Int×Int×Int) next239=>match s with | (s235,s236,s237,s238)=>AZ a1.Start (A6 (a2+1)) λU=>A8 (decide (s238<U)) (AZ a1.Col s238 λJ=>KP a3.Has J λW=>A8 W (AZ a1.Val s238 λK=>AZ a3.Vals J λV=>YL a0 K V λO=>OV s235 h.2.1 ({ Hi:=s236,Lo:=s237 }:AL) O λd=>next239 (d.1,d.2.Hi,d.2.Lo,A6 (s238+1))) (next239 (s235,s236,s237,A6 (s238+1)))) (OW ({ Hi:=s236,Lo:=s237 }:AL) s235 λD=>Q (D.1,D.2))) (h.1,h.2.2.Hi,h.2.2.Lo,Z)
def SQ (a0:Int) (a1:List Int) (d:Bool) (Q:(Int×(List Int)×Bool)->Prop):Prop:=
 Q (a0,a1,d)
def OX (o0:Nat) (o1:Int) (o2:Rows) (o3:Dense) (o4:List B8) (o5:Int) (o6:List Int) (o7:Bool) (Y:Nat->Int->Rows->Dense->(List B8)->Int->((Bool×Nat×(List B8))->Prop)->Prop) (Q:(Nat×(List B8))->Prop):Prop:=
 AW (λ(s:(List B8)×Int×Nat) next113=>match s with | (s107,s111,s112)=>A8 (decide (s111<o5)) (KP o6 s111 λh=>A8 (!(h==o7)) (Y s112 o1 o2 o3 s107 s111 λd=>A8 (!d.1) (Q (d.2.1,d.2.2)) (next113 (d.2.2,A6 (s111+1),d.2.1))) (next113 (s107,A6 (s111+1),s112))) (Q (s112,s107))) (o4,0,o0)
def aM (a0:Int) (a1:Rows) (a2:Dense) (a3:List Int) (a4:Bool) (Q:((List B8)×Int)->Prop):Prop:=
 aL a1 a2 λh=>QZ a0 λr59=>A8 (!r59) (Q (([]:List B8),8)) (A8 (h.2.N != h.1.Cols) (Q (([]:List B8),4)) (SQ h.1.Rows a3 a4 λO=>OX 0 a0 h.1 h.2 ([]:List B8) O.1 O.2.1 O.2.2 (λ(U:Nat) (W:Int) (Z:Rows) (V:Dense) (J:List B8) (D:Int) (Qy:(Bool×Nat×(List B8))->Prop)=>eqP U 0 (fP W Z D V λd=>A8 d.2 (DA 24 J ([({ At:=D,Val:=d.1 }:B8)]) λ_=>Qy (true,0,(J++([({ At:=D,Val:=d.1 }:B8)])))) (Qy (true,0,J)))) λK=>eqP K.1 0 (Q (K.2,0))))
def RK (a0:Y2) (Q:Dense->Prop):Prop:=
 OQ a0 λh=>YK h λd=>Q d
def VQ (a0:Vec) (a1:Int) (Q:(Int×Bool)->Prop):Prop:=
 K3 a0 λh=>M8 h a1 λd=>A8 (!d.2) (Q (0,false)) (AZ h.Items d.1 λD=>Q (D.Val,true))
def Q5 (a0:Plan) (a1:State) (O:Int) (W:Int) (D:Int) (U:Bool) (Q:(Int×Int×Bool)->Prop):Prop:=
 AZ a1.A W λh=>AZ a1.B W λd=>A8 (a0.Kind==1) (A8 U (A8 (h==(-1)) (Q (O,D,true)) (Q (h,d,false))) (Q (h,d,false))) (DB (λ(J:Bool->Prop)=>A8 (a0.Kind==2) (J (a0.Kind==2)) (J (a0.Kind==3))) λs55=>A8 s55 (A8 U (A8 (decide (D<h)) (Q (D,d,true)) (Q (h,d,false))) (Q (h,d,false))) (A8 (a0.Kind==4) (Q (D,d,D != 0)) (A8 (a0.Kind==5) (A8 (h != 0) (Q (h,d,false)) (DB (λ(K:Bool->Prop)=>A8 ((XQ .i64 O 1)==0) (K U) (K false)) λV=>A8 V (Q (2,d,false)) (A8 ((XQ .i64 O 1)==1) (A8 (!U) (Q (1,d,true)) (ML O λZ=>I7 a0 Z (A6 (a1.Low+W)) λr81=>A8 (decide (r81<D)) (Q (1,d,true)) (Q (h,d,false)))) (Q (h,d,false))))) (Q (h,d,false)))))
def OY (o0:Plan) (o1:Int) (a0:Int) (Q:(Int×Int×Bool)->Prop):Prop:=
 SN o0 (A6 (o1+a0)) λd=>Q (d.1,(-1),d.2)
def OZ (o0:Plan) (o1:Int) (a0:State) (a1:Int) (Q:State->Prop):Prop:=
 AW (λ(s:(List Int)×(List Int)×(List Int)×Int) next150=>match s with | (s134,s138,s142,s146)=>A8 (decide (s146<a1)) (OY o0 o1 s146 λd=>DA 8 s134 ([d.1]) λ_=>DA 8 s138 ([d.2.1]) λ_=>A8 d.2.2 (DA 8 s142 ([s146]) λ_=>next150 ((s134++([d.1])),(s138++([d.2.1])),(s142++([s146])),A6 (s146+1))) (next150 ((s134++([d.1])),(s138++([d.2.1])),s142,A6 (s146+1)))) (K1 a1 s142 λh=>Q ({ a0 with A:=s134,B:=s138,On:=h }:State))) (([]:List Int),([]:List Int),([]:List Int),0)
def WV (a0:Plan) (a1:Int) (d:Int) (Q:State->Prop):Prop:=
 OB a0 λh=>A8 (h != 0) (Q FH) (A8 (decide (a1<0)) (Q FH) (A8 (decide (d<a1)) (Q FH) (A8 (decide (a0.N<d)) (Q FH) (OZ a0 a1 ({ Low:=a1,High:=d,A:=([]:List Int),B:=([]:List Int),On:=([]:List Int) }:State) (A6 (d - a1)) λD=>Q D))))
def LZ (o0:Int) (o1:Int) (o2:Int) (o3:Int) (a0:Int) (Q:Int->Prop):Prop:=
 G0 o0 o1 a0 λh=>G0 o0 o2 o3 λD=>NG h D λd=>Q (A6 (d.2 - d.1))
def QN (o0:Int) (o1:Int) (o2:Int) (o3:Int) (a0:List Vec) (a1:Int) (Q:(Vec×Int)->Prop):Prop:=
 A8 ((a0.length:Int) != a1) (Q (BO,4)) (AW (λ(d:Int) next108=>A8 (decide (d<(a0.length:Int))) (AZ a0 d λh=>EN h λJ=>A8 (!J) (Q (BO,4)) (LZ o0 o1 o2 o3 d λK=>A8 (h.N != K) (Q (BO,4)) (next108 (A6 (d+1))))) (WP a0 λD=>Q (D.1,D.2))) 0)
def aN (a0:Int) (a1:Int) (J:Int) (K:Int) (O:List Vec) (Q:(Vec×Int)->Prop):Prop:=
 NB a0 λh=>A8 (!h) (Q (BO,3)) (OG a1 J 0 K λD=>A8 (!D) (Q (BO,3)) (QN a0 a1 J K O a1 λd=>Q (d.1,d.2)))
def K5 (a0:E5) (Q:((List B8)×Int)->Prop):Prop:=
 RK a0.X λh=>aM a0.Ring a0.Rows h a0.Set a0.Others λd=>Q (d.1,d.2)
def K6 (a0:E5) (Q:((List B8)×Int)->Prop):Prop:=
 OQ a0.X λh=>aK a0.Ring a0.Cols h a0.Set a0.Others λd=>Q (d.1,d.2)
def UB (a0:E5) (Q:((List B8)×Int×Int)->Prop):Prop:=
 OQ a0.X λK=>aD a0.Cols K λJ=>aF a0.Rows λO=>KO a0.Way J O λD=>A8 (D==2) (K5 a0 λd=>A8 (d.2 != 0) (Q (([]:List B8),0,d.2)) (Q (d.1,D,d.2))) (K6 a0 λh=>A8 (h.2 != 0) (Q (([]:List B8),0,h.2)) (Q (h.1,D,h.2)))
def NI (o0:Vec) (o1:Plan) (o2:State) (o3:Int) (a0:Int) (Q:(Int×Int×Bool)->Prop):Prop:=
 VQ o0 a0 λh=>Q5 o1 o2 o3 a0 h.1 h.2 λd=>Q (d.1,d.2.1,d.2.2)
def KQ (o0:Vec) (o1:Plan) (o2:State) (o3:Int) (a0:State) (a1:Int) (Q:State->Prop):Prop:=
 AW (λ(s:(List Int)×(List Int)×(List Int)×Int) next159=>match s with | (s143,s147,s151,s155)=>A8 (decide (s155<a1)) (NI o0 o1 o2 o3 s155 λd=>DA 8 s143 ([d.1]) λ_=>DA 8 s147 ([d.2.1]) λ_=>A8 d.2.2 (DA 8 s151 ([s155]) λ_=>next159 ((s143++([d.1])),(s147++([d.2.1])),(s151++([s155])),A6 (s155+1))) (next159 ((s143++([d.1])),(s147++([d.2.1])),s151,A6 (s155+1)))) (K1 a1 s151 λh=>Q ({ a0 with A:=s143,B:=s147,On:=h }:State))) (([]:List Int),([]:List Int),([]:List Int),0)
def UC (a0:Plan) (a1:State) (Z:Int) (U:Vec) (Q:State->Prop):Prop:=
 OM a0 a1 λd=>DB (λ(h:Bool->Prop)=>EN U λK=>A8 (!K) (h true) (h (U.N != (A6 (d.High - d.Low))))) λJ=>A8 J (AX d.A λW=>AX d.B λO=>BJ d.On λV=>Q ({ d with A:=W,B:=O,On:=V }:State)) (KQ U a0 d Z d (A6 (d.High - d.Low)) λD=>Q D)
def BR (o0:A0) (a0:Int) (a1:Int) (Q:Int->Prop):Prop:=
 dB o0.grid.j a0 a1 λd=>Q d
def BQ (o0:A0) (a0:AA) (Q:A0->Prop):Prop:=
 BR o0 o0.place.i o0.place.j λd=>DA 136 o0.out ([({ a0 with From:=d }:AA)]) λ_=>Q ({ o0 with out:=(o0.out++([({ a0 with From:=d }:AA)])) }:A0)
def CU (o0:A0) (a0:Int) (a1:Bool) (Q:A0->Prop):Prop:=
 A8 (!a1) (aB o0.plan o0.aside a0 λh=>BQ ({ o0 with waits:=true }:A0) ({ Kind:=4,From:=0,To:=0,Seq:=0,Round:=a0,Vec:=BO,Sums:=([]:List B8),Triples:=([]:List A3),N:=h,Over:=a1 }:AA) λd=>Q d) (BQ ({ o0 with waits:=true }:A0) ({ Kind:=4,From:=0,To:=0,Seq:=0,Round:=a0,Vec:=BO,Sums:=([]:List B8),Triples:=([]:List A3),N:=0,Over:=a1 }:AA) λD=>Q D)
def NJ (a0:JO) (a1:Int) (J:Int) (U:Int->Prop) (Q1:(Int×A0)->Prop) (Q2:(Int×A0)->Prop):Prop:=
 IG a0 λW=>A8 (W != 0) (U W) (A8 (decide (a1<0)) (U 3) (A8 (decide (a0.R<=a1)) (U 3) (A8 (decide (J<0)) (U 3) (A8 (decide (a0.C<=J)) (U 3) (PU a0.Plan a0.Graph λr36=>CK a0.Choices λK=>AX a0.Plan.Draws λZ=>ZZ r36.1 a0.R a0.C a1 J λd=>mP d λD=>A8 (J==0) (HJ a0.Plan.N a0.R a1 λr166=>HJ a0.Plan.N a0.R (A6 (a1+1)) λO=>WV a0.Plan r166 O λh=>CU ({ place:=({ i:=a1,j:=J }:AO),plan:=({ Kind:=a0.Plan.Kind,N:=a0.Plan.N,Source:=a0.Plan.Source,Length:=a0.Plan.Length,Draws:=Z }:Plan),grid:=({ i:=a0.R,j:=a0.C }:AO),limit:=a0.Limit,choices:=K,rows:=d,cols:=D,out:=([]:List AA),share:=1,shares:=([]:List (Int×Vec)),spread:=1,round:=0,status:=0,has:=h,aside:=h,waits:=false,begun:=false,sums:=([]:List B8),came:=([]:List (Int×Bool)),vote:=0,votes:=([]:List (Int×AA)),closed:=false }:A0) 0 false λV=>Q1 (0,V)) (Q2 (0,({ place:=({ i:=a1,j:=J }:AO),plan:=({ Kind:=a0.Plan.Kind,N:=a0.Plan.N,Source:=a0.Plan.Source,Length:=a0.Plan.Length,Draws:=Z }:Plan),grid:=({ i:=a0.R,j:=a0.C }:AO),limit:=a0.Limit,choices:=K,rows:=d,cols:=D,out:=([]:List AA),share:=1,shares:=([]:List (Int×Vec)),spread:=1,round:=0,status:=0,has:=FH,aside:=FH,waits:=false,begun:=false,sums:=([]:List B8),came:=([]:List (Int×Bool)),vote:=0,votes:=([]:List (Int×AA)),closed:=false }:A0))))))))
def HL (o0:A0) (Q:Int->Prop):Prop:=
 Q o0.round
def MM  (Q:Int->Prop):Prop:=
 Q 0
def G2 (o0:A2) (a0:Option Nat) (Q:Int->Prop):Prop:=
 nP a0 (MM  λd=>Q d) λb=>qT o0 b λx=>HL x  λd=>Q d
def HM (o0:A0) (Q:State->Prop):Prop:=
 AX o0.has.A λh=>AX o0.has.B λD=>BJ o0.has.On λd=>Q ({ Low:=o0.has.Low,High:=o0.has.High,A:=h,B:=D,On:=d }:State)
def MN  (Q:State->Prop):Prop:=
 Q FH
def G3 (o0:A2) (a0:Option Nat) (Q:State->Prop):Prop:=
 nP a0 (MN  λd=>Q d) λb=>qT o0 b λx=>HM x  λd=>Q d
def NK (o0:A4) (o1:A2) (Q:State->Prop):Prop:=
 AW (λ(s:(List Int)×(List Int)×(List Int)×Int) next890=>match s with | (s874,s878,s882,s886)=>A8 (decide (s886<(o0.owners.length:Int))) (AZ o0.owners s886 λK=>G3 o1 K λd=>DA 8 s874 d.A λ_=>DA 8 s878 d.B λ_=>SG d.On λD=>AW (λ(s:(List Int)×Int) next1021=>match s with | (s1016,s1020)=>A8 (decide (s1020<(D.length:Int))) (AZ D s1020 λh=>DA 8 s1016 ([A6 (d.Low+h)]) λ_=>next1021 ((s1016++([A6 (d.Low+h)])),A6 (s1020+1))) (next890 ((s874++d.A),(s878++d.B),s1016,A6 (s886+1)))) (s882,0)) (K1 o0.setup.Plan.N s882 λJ=>Q ({ Low:=0,High:=o0.setup.Plan.N,A:=s874,B:=s878,On:=J }:State))) (([]:List Int),([]:List Int),([]:List Int),0)
def M9 (o0:A4) (o1:A2) (Q:A4->Prop):Prop:=
 AW (λ(d:Int) next132=>A8 (decide (d<(o0.owners.length:Int))) (AZ o0.owners d λD=>G2 o1 D λJ=>A8 (J != (o0.history.length:Int)) (Q o0) (next132 (A6 (d+1)))) (NK o0 o1 λh=>DA 88 o0.history ([h]) λ_=>Q ({ o0 with history:=(o0.history++([h])) }:A4))) 0
def GW (o0:A2) (o1:A9) (a0:JO) (Q0:(Int×A2)->Prop) (Q1:(Int×A2×A4)->Prop):Prop:=
 IG a0 λZ=>A8 (Z != 0) (Q0 (Z,o0)) (AW (λ(s:(List (Option Nat))×(List (Option Nat))×Int×A2) next822=>match s with | (s810,s814,s818,s819)=>A8 (decide (s818<(A6 (a0.R*a0.C)))) (VN a0.C s818 λr987=>Q3 a0.C s818 λr991=>NJ a0 r987 r991 (λK=>A8 (K != 0) (Q0 (K,s819)) (DA 8 s810 ([none]) λ_=>Q3 a0.C s818 λU=>A8 (U==0) (DA 8 s814 ([none]) λ_=>next822 ((s810++([none])),(s814++([none])),A6 (s818+1),s819)) (next822 ((s810++([none])),s814,A6 (s818+1),s819)))) (λD=>A8 (D.1 != 0) (Q0 (D.1,s819)) (AlL s819 λd=>DA 8 s810 ([(some d)]) λ_=>Q3 a0.C s818 λO=>A8 (O==0) (DA 8 s814 ([(some d)]) λ_=>next822 ((s810++([(some d)])),(s814++([(some d)])),A6 (s818+1),((d,D.2) :: s819))) (next822 ((s810++([(some d)])),s814,A6 (s818+1),((d,D.2) :: s819))))) (λJ=>A8 (J.1 != 0) (Q0 (J.1,s819)) (AlL s819 λh=>DA 8 s810 ([(some h)]) λ_=>Q3 a0.C s818 λV=>A8 (V==0) (DA 8 s814 ([(some h)]) λ_=>next822 ((s810++([(some h)])),(s814++([(some h)])),A6 (s818+1),((h,J.2) :: s819))) (next822 ((s810++([(some h)])),s814,A6 (s818+1),((h,J.2) :: s819)))))) (M9 ({ setup:=a0,workers:=s810,boxes:=([]:List ((Int×Int)×(Option Nat))),owners:=s814,history:=([]:List State) }:A4) s819 λW=>Q1 (0,s819,W))) (([]:List (Option Nat)),([]:List (Option Nat)),0,o0))
def FK (o0:A4) (o1:A2) (a0:Int) (Q:Bool->Prop):Prop:=
 A8 (decide (0<=a0)) (Q (decide (a0<(o0.workers.length:Int)))) (Q false)
def EF (o0:A0) (Q:Int->Prop):Prop:=
 Q (o0.out.length:Int)
def IK (o0:A0) (Q:(AA×Bool)->Prop):Prop:=
 EF o0 λD=>A8 (D==0) (Q (({ Kind:=0,From:=0,To:=0,Seq:=0,Round:=0,Vec:=BO,Sums:=([]:List B8),Triples:=([]:List A3),N:=0,Over:=false }:AA),false)) (AZ o0.out 0 λh=>WO h λd=>Q (d,true))
def IL  (Q:Int->Prop):Prop:=
 Q 0
def NL  (Q:(AA×Bool)->Prop):Prop:=
 IL  λd=>A8 (d==0) (Q (({ Kind:=0,From:=0,To:=0,Seq:=0,Round:=0,Vec:=BO,Sums:=([]:List B8),Triples:=([]:List A3),N:=0,Over:=false }:AA),false)) (False)
def J9 (o0:A2) (a0:Option Nat) (Q:(AA×Bool)->Prop):Prop:=
 nP a0 (NL  λd=>Q (d.1,d.2)) λb=>qT o0 b λx=>IK x  λd=>Q (d.1,d.2)
def WW (a0:Int) (d:Int->Prop) (h:(Int×B4)->Prop):Prop:=
 A8 (decide (a0<1)) (d 3) (A8 (decide (64<a0)) (d 3) (h (0,({ room:=a0,row:=([]:List Int),by_:=([]:List (Int×AA)),often:=([]:List (Int×Int)),sent:=0,taken:=0 }:B4))))
def EG (o0:A4) (o1:A2) (o2:A9) (a0:Int) (a1:Int) (Z:(A4×A9)->Prop) (W:((Option Nat)×A4×A9)->Prop):Prop:=
 FK o0 o1 a0 λK=>A8 (!K) (Z (o0,o2)) (FK o0 o1 a1 λh=>A8 (!h) (Z (o0,o2)) (lkP o0.boxes (a0,a1) none λJ=>A8 J.isNone (WW o0.setup.Room (λr70=>lkP (DK (a0,a1) none o0.boxes) (a0,a1) none λU=>W (U,({ o0 with boxes:=(DK (a0,a1) none o0.boxes) }:A4),o2)) (λD=>AlL o2 λd=>lkP (DK (a0,a1) (some d) o0.boxes) (a0,a1) none λV=>W (V,({ o0 with boxes:=(DK (a0,a1) (some d) o0.boxes) }:A4),((d,D.2) :: o2)))) (lkP o0.boxes (a0,a1) none λO=>W (O,o0,o2))))
def NM (a0:AA) (Q:Int->Prop):Prop:=
 Q 10
def IM (o0:A0) (Q:A0->Prop):Prop:=
 EF o0 λd=>A8 (decide (0<d)) (slP o0.out 1 d λ_=>Q ({ o0 with out:=((o0.out.take d.toNat).drop (Int.toNat 1)) }:A0)) (Q o0)
def NN  (Q:Unit->Prop):Prop:=
 IL  λd=>A8 (decide (0<d)) (False) (Q ())
def ET (o0:A2) (a0:Option Nat) (Q:A2->Prop):Prop:=
 nP a0 (NN  λd=>Q o0) λb=>qT o0 b λx=>IM x  λd=>Q ((b,d) :: F5 b o0)
def NO (o0:B4) (Q:Bool->Prop):Prop:=
 Q (decide (o0.room<=(o0.row.length:Int)))
def P0 (o0:B4) (a0:Int) (Q:B4->Prop):Prop:=
 DA 8 o0.row ([a0]) λ_=>lkP o0.often a0 0 λd=>Q ({ o0 with row:=(o0.row++([a0])),often:=(DK a0 (A6 (d+1)) o0.often) }:B4)
def JQ (o0:B4) (a0:AA) (Q:(Int×B4)->Prop):Prop:=
 NO o0 λD=>A8 D (Q (9,o0)) (YJ a0 λh=>P0 ({ o0 with by_:=(DK o0.sent ({ h with Seq:=o0.sent }:AA) o0.by_) }:B4) o0.sent λd=>Q (0,({ d with sent:=A6 (d.sent+1) }:B4)))
def KR (o0:A9) (a0:Option Nat) (a1:AA) (Q:(Int×A9)->Prop):Prop:=
 nP a0 (NM a1 λd=>Q (d,o0)) λb=>qT o0 b λx=>JQ x a1 λd=>Q (d.1,(b,d.2) :: F5 b o0)
def IP (o0:A4) (o1:A2) (o2:A9) (a0:Int) (Q:(Bool×A4×A2×A9)->Prop):Prop:=
 FK o0 o1 a0 λW=>A8 (!W) (Q (false,o0,o1,o2)) (AZ o0.workers a0 λK=>J9 o1 K λD=>A8 (!D.2) (Q (false,o0,o1,o2)) (EG o0 o1 o2 a0 D.1.To (λJ=>NM D.1 λV=>A8 (V != 0) (Q (false,J.1,o1,J.2)) (ET o1 K λU=>Q (true,J.1,U,J.2))) (λh=>KR h.2.2 h.1 D.1 λd=>A8 (d.1 != 0) (Q (false,h.2.1,o1,d.2)) (ET o1 K λO=>Q (true,h.2.1,O,d.2)))))
def HN (o0:B4) (Q:Int->Prop):Prop:=
 Q (o0.row.length:Int)
def P1  (Q:Int->Prop):Prop:=
 Q 0
def GN (o0:A9) (a0:Option Nat) (Q:Int->Prop):Prop:=
 nP a0 (P1  λd=>Q d) λb=>qT o0 b λx=>HN x  λd=>Q d
def HE (o0:A4) (o1:A9) (Q:(List (Int×Int))->Prop):Prop:=
 AW (λ(s:(List ((Int×Int)×(Option Nat)))×(List (Int×Int))) next114=>match s with | (s108,s109)=>xR s108 (xU N9 s109 λD=>Q D) (λd h=>GN o1 d.2 λJ=>A8 (decide (0<J)) (DA 16 s109 ([d.1]) λ_=>next114 (h,(s109++([d.1])))) (next114 (h,s109)))) (o0.boxes,([]:List (Int×Int)))
def JA (o0:Int) (a0:Int) (Q:Bool->Prop):Prop:=
 Q (a0==o0)
def DX (o0:List Int) (o1:Int) (Q:Int->Prop):Prop:=
 AW (λ(d:Int) next40=>A8 (decide (d<(o0.length:Int))) (AZ o0 d λD=>JA o1 D λh=>A8 h (Q d) (next40 (A6 (d+1)))) (Q (-1))) 0
def HF (o0:B4) (Q:Int->Prop):Prop:=
 HN o0 λd=>A8 (d==0) (Q (-1)) (IJ o0.row λD=>DX o0.row D λh=>Q h)
def QR  (Q:Int->Prop):Prop:=
 P1  λd=>A8 (d==0) (Q (-1)) (False)
def MA (o0:A9) (a0:Option Nat) (Q:Int->Prop):Prop:=
 nP a0 (QR  λd=>Q d) λb=>qT o0 b λx=>HF x  λd=>Q d
def XS (a0:Int) (Q:Int->Prop):Prop:=
 Q 10
def NP (a0:Int) (Q:(AA×Bool×Int)->Prop):Prop:=
 XS a0 λd=>A8 (d != 0) (Q (({ Kind:=0,From:=0,To:=0,Seq:=0,Round:=0,Vec:=BO,Sums:=([]:List B8),Triples:=([]:List A3),N:=0,Over:=false }:AA),false,d)) (False)
def QO (o0:B4) (a0:Int) (Q:Int->Prop):Prop:=
 A8 (decide (a0<0)) (Q 3) (A8 (decide ((o0.row.length:Int)<=a0)) (Q 3) (Q 0))
def EQ (o0:List Int) (a0:Int) (a1:Int) (Q:(List Int)->Prop):Prop:=
 slP o0 a0 a1 λ_=>A8 (a0==a1) (Q o0) (slP o0 0 a0 λ_=>slP o0 a1 (o0.length:Int) λ_=>Q (o0.take a0.toNat++o0.drop a1.toNat))
def P2 (o0:B4) (a0:Int) (Q:(AA×B4)->Prop):Prop:=
 AZ o0.row a0 λx21=>lkP o0.by_ x21 ({ Kind:=0,From:=0,To:=0,Seq:=0,Round:=0,Vec:=BO,Sums:=([]:List B8),Triples:=([]:List A3),N:=0,Over:=false }:AA) λD=>EQ o0.row a0 (A6 (a0+1)) λh=>lkP o0.often x21 0 λd=>lkP (DK x21 (A6 (d - 1)) o0.often) x21 0 λJ=>A8 (J==0) (Q (D,({ o0 with row:=h,by_:=(F5 x21 o0.by_),often:=(F5 x21 (DK x21 (A6 (d - 1)) o0.often)) }:B4))) (Q (D,({ o0 with row:=h,often:=(DK x21 (A6 (d - 1)) o0.often) }:B4)))
def JR (o0:B4) (a0:Int) (Q:(AA×Bool×Int×B4)->Prop):Prop:=
 QO o0 a0 λh=>A8 (h != 0) (Q (({ Kind:=0,From:=0,To:=0,Seq:=0,Round:=0,Vec:=BO,Sums:=([]:List B8),Triples:=([]:List A3),N:=0,Over:=false }:AA),false,h,o0)) (AZ o0.row a0 λJ=>A8 (decide (o0.taken<J)) (Q (({ Kind:=0,From:=0,To:=0,Seq:=0,Round:=0,Vec:=BO,Sums:=([]:List B8),Triples:=([]:List A3),N:=0,Over:=false }:AA),false,h,o0)) (P2 o0 a0 λd=>A8 (decide (d.1.Seq<d.2.taken)) (Q (({ Kind:=0,From:=0,To:=0,Seq:=0,Round:=0,Vec:=BO,Sums:=([]:List B8),Triples:=([]:List A3),N:=0,Over:=false }:AA),false,0,d.2)) (YJ d.1 λD=>Q (D,true,0,({ room:=d.2.room,row:=d.2.row,by_:=d.2.by_,often:=d.2.often,sent:=d.2.sent,taken:=A6 (d.2.taken+1) }:B4)))))
def P3 (o0:A9) (a0:Option Nat) (a1:Int) (Q:(AA×Bool×Int×A9)->Prop):Prop:=
 nP a0 (NP a1 λd=>Q (d.1,d.2.1,d.2.2,o0)) λb=>qT o0 b λx=>JR x a1 λd=>Q (d.1,d.2.1,d.2.2.1,(b,d.2.2.2) :: F5 b o0)
def H7 (o0:A0) (Q:Int->Prop):Prop:=
 BR o0 o0.place.i o0.place.j λd=>Q d
def FL (o0:A0) (a0:Int) (Q:Int->Prop):Prop:=
 HJ o0.plan.N o0.grid.i a0 λJ=>HJ o0.plan.N o0.grid.j o0.place.j λd=>HJ o0.plan.N o0.grid.i (A6 (a0+1)) λh=>HJ o0.plan.N o0.grid.j (A6 (o0.place.j+1)) λD=>Q (if (A6 ((if D<h then D else h) - (if d > J then d else J))) > 0 then A6 ((if D<h then D else h) - (if d > J then d else J)) else 0)
def DU (o0:A0) (a0:AA) (a1:AO) (Q:(Bool×A0)->Prop):Prop:=
 FL o0 a1.i λU=>LH a0 U λd=>AeP o0.shares a1.i BO λV J=>A8 J (Q (false,o0)) (A8 (!d.2) (Q (false,o0)) (A8 (o0.place.i != 0) (Q (false,o0)) (A8 (a1.j != 0) (Q (false,o0)) (A8 (a0.Round != o0.share) (Q (false,o0)) (A8 (decide (((DK a1.i d.1 o0.shares).length:Int)<o0.grid.i)) (Q (true,({ o0 with shares:=(DK a1.i d.1 o0.shares) }:A0))) (AW (λ(s:(List Vec)×Int) next258=>match s with | (s252,s256)=>A8 (decide (s256<o0.grid.i)) (lkP (DK a1.i d.1 o0.shares) s256 BO λh=>DA 32 s252 ([h]) λ_=>next258 ((s252++([h])),A6 (s256+1))) (aN o0.plan.N o0.grid.i o0.grid.j o0.place.j s252 λD=>AW (λ(s:A0×Int) next614=>match s with | (s602,s613)=>A8 (decide (s613<o0.grid.i)) (BR s602 s613 s602.place.j λO=>BQ s602 ({ Kind:=2,From:=0,To:=O,Seq:=0,Round:=s602.share,Vec:=D.1,Sums:=([]:List B8),Triples:=([]:List A3),N:=0,Over:=false }:AA) λK=>next614 (K,A6 (s613+1))) (Q (true,({ s602 with share:=A6 (s602.share+1),shares:=([]:List (Int×Vec)) }:A0)))) (({ o0 with shares:=(DK a1.i d.1 o0.shares) }:A0),0))) (([]:List Vec),0)))))))
def F6 (o0:A0) (a0:Int) (Q:ED->Prop):Prop:=
 A8 ((o0.choices.length:Int)==0) (Q ({ Way:=0,Form:=0 }:ED)) (nzP (o0.choices.length:Int) <| AZ o0.choices ((A6 (a0 - 1)).tmod (o0.choices.length:Int)) λd=>Q d)
def DN (o0:A0) (a0:AA) (a1:AO) (Q:(Bool×A0)->Prop):Prop:=
 LH a0 o0.rows.Cols λJ=>A8 (!J.2) (Q (false,o0)) (A8 (a1.i != 0) (Q (false,o0)) (A8 (a1.j != o0.place.j) (Q (false,o0)) (A8 (a0.Round != o0.spread) (Q (false,o0)) (F6 o0 a0.Round λD=>RY o0.plan.Kind a0.Round λU=>U7 D.Form J.1 λO=>UB ({ Ring:=U,Rows:=o0.rows,Cols:=o0.cols,X:=O,Set:=([]:List Int),Others:=true,Way:=D.Way }:E5) λh=>BR ({ o0 with spread:=A6 (o0.spread+1) }:A0) o0.place.i 0 λd=>BQ ({ o0 with spread:=A6 (o0.spread+1) }:A0) ({ Kind:=3,From:=0,To:=d,Seq:=0,Round:=a0.Round,Vec:=BO,Sums:=h.1,Triples:=([]:List A3),N:=0,Over:=false }:AA) λK=>Q (true,K)))))
def F7 (o0:A0) (a0:List B8) (Q:Bool->Prop):Prop:=
 AW (λ(s:Int×Int) next82=>match s with | (s80,s81)=>A8 (decide (s81<(a0.length:Int))) (AZ a0 s81 λd=>A8 (decide (d.At<=s80)) (Q false) (A8 (decide (o0.rows.Rows<=d.At)) (Q false) (next82 (d.At,A6 (s81+1))))) (Q true)) ((-1),0)
def D0 (o0:List Int) (o1:Bool) (a0:B8) (Q:Bool->Prop):Prop:=
 KP o0 a0.At λd=>Q (d==o1)
def CF (o0:List B8) (o1:List Int) (o2:Bool) (Q:Int->Prop):Prop:=
 AW (λ(d:Int) next45=>A8 (decide (d<(o0.length:Int))) (AZ o0 d λD=>D0 o1 o2 D λh=>A8 h (Q d) (next45 (A6 (d+1)))) (Q (-1))) 0
def CE (o0:List B8) (o1:List Int) (o2:Bool) (Q:(List B8)->Prop):Prop:=
 CF o0 o1 o2 λh=>A8 (h==(-1)) (Q o0) (AW (λ(s:(List B8)×Int×Int) next239=>match s with | (s236,s237,s238)=>A8 (decide (s238<(s236.length:Int))) (AZ s236 s238 λd=>D0 o1 o2 d λD=>A8 (!D) (AZ s236 s237 λJ=>next239 ((s236.set s237.toNat d),A6 (s237+1),A6 (s238+1))) (next239 (s236,s237,A6 (s238+1)))) (slP s236 s237 (s236.length:Int) λ_=>slP s236 0 s237 λ_=>Q (s236.take s237.toNat))) (o0,h,A6 (h+1)))
def DO (o0:A0) (a0:Int) (Q:A0->Prop):Prop:=
 WS o0.plan o0.has a0 λJ=>CE o0.sums J.1 J.2 λO=>RY o0.plan.Kind a0 λU=>aH U o0.rows.Rows O λd=>A8 (d.2==0) (UC o0.plan o0.has a0 d.1 λD=>CU ({ o0 with aside:=D,sums:=([]:List B8) }:A0) a0 (d.2 != 0) λK=>Q K) (CU ({ o0 with aside:=o0.has,sums:=([]:List B8) }:A0) a0 (d.2 != 0) λh=>Q h)
def DP (o0:A0) (a0:AA) (a1:AO) (Q:(Bool×A0)->Prop):Prop:=
 A8 (o0.place.j != 0) (Q (false,o0)) (A8 (a1.i != o0.place.i) (Q (false,o0)) (A8 (o0.status != 0) (Q (false,o0)) (A8 o0.waits (Q (false,o0)) (A8 (a0.Round != (A6 (o0.round+1))) (Q (false,o0)) (lkP o0.came a1.j false λJ=>A8 J (Q (false,o0)) (F7 o0 a0.Sums λK=>A8 (!K) (Q (false,o0)) (RY o0.plan.Kind a0.Round λD=>SJ D ([o0.sums,a0.Sums]:List (List B8)) λd=>A8 (((DK a1.j true o0.came).length:Int)==o0.grid.j) (DO ({ o0 with sums:=d.1,came:=(DK a1.j true o0.came) }:A0) a0.Round λh=>Q (true,h)) (Q (true,({ o0 with sums:=d.1,came:=(DK a1.j true o0.came) }:A0))))))))))
def ER (o0:A0) (Q:Int->Prop):Prop:=
 AW (λ(s:(List (Int×AA))×Bool×Bool) next214=>match s with | (s211,s212,s213)=>xR s211 (A8 s212 (Q 3) (A8 (!s213) (Q 1) (A8 (o0.vote==o0.limit) (Q 2) (Q 0)))) (λh d=>A8 s212 (A8 s213 (next214 (d,true,true)) (next214 (d,true,h.2.N != 0))) (A8 s213 (next214 (d,h.2.Over,true)) (next214 (d,h.2.Over,h.2.N != 0))))) (o0.votes,false,false)
def E6 (o0:A0) (a0:AA) (a1:AO) (Q:(Bool×A0)->Prop):Prop:=
 AeP o0.votes a1.i ({ Kind:=0,From:=0,To:=0,Seq:=0,Round:=0,Vec:=BO,Sums:=([]:List B8),Triples:=([]:List A3),N:=0,Over:=false }:AA) λK J=>A8 J (Q (false,o0)) (A8 (!(o0.place==({ i:=0,j:=0 }:AO))) (Q (false,o0)) (A8 o0.closed (Q (false,o0)) (A8 (a1.j != 0) (Q (false,o0)) (A8 (a0.Round != o0.vote) (Q (false,o0)) (A8 (decide (((DK a1.i a0 o0.votes).length:Int)<o0.grid.i)) (Q (true,({ o0 with votes:=(DK a1.i a0 o0.votes) }:A0))) (ER ({ o0 with votes:=(DK a1.i a0 o0.votes) }:A0) λd=>AW (λ(s:A0×Int) next381=>match s with | (s369,s380)=>A8 (decide (s380<o0.grid.i)) (BR s369 s380 0 λD=>BQ s369 ({ Kind:=5,From:=0,To:=D,Seq:=0,Round:=s369.vote,Vec:=BO,Sums:=([]:List B8),Triples:=([]:List A3),N:=d,Over:=false }:AA) λh=>next381 (h,A6 (s380+1))) (Q (true,({ s369 with vote:=A6 (s369.vote+1),votes:=([]:List (Int×AA)),closed:=d != 0 }:A0)))) (({ o0 with votes:=(DK a1.i a0 o0.votes) }:A0),0)))))))
def F8 (o0:A0) (Q:A0->Prop):Prop:=
 fM o0.plan o0.has (A6 (o0.round+1)) λD=>AW (λ(s:A0×Int) next175=>match s with | (s163,s174)=>A8 (decide (s174<o0.grid.j)) (U8 D s163.plan.N s163.grid.i s163.grid.j s163.place.i s174 λd=>BQ s163 ({ Kind:=1,From:=0,To:=s174,Seq:=0,Round:=A6 (s163.round+1),Vec:=d,Sums:=([]:List B8),Triples:=([]:List A3),N:=0,Over:=false }:AA) λh=>next175 (h,A6 (s174+1))) (Q ({ s163 with sums:=([]:List B8),came:=([]:List (Int×Bool)) }:A0))) (o0,0)
def DQ (o0:A0) (a0:AA) (a1:AO) (Q:(Bool×A0)->Prop):Prop:=
 DB (λ(K:Int->Prop)=>A8 o0.begun (K (A6 (o0.round+1))) (K 0)) λd=>A8 (o0.place.j != 0) (Q (false,o0)) (A8 (!(a1==({ i:=0,j:=0 }:AO))) (Q (false,o0)) (A8 (!o0.waits) (Q (false,o0)) (A8 (o0.status != 0) (Q (false,o0)) (A8 (a0.Round != d) (Q (false,o0)) (A8 (decide (a0.N<0)) (Q (false,o0)) (A8 (decide (3<a0.N)) (Q (false,o0)) (DB (λ(D:A0->Prop)=>DB (λ(h:Bool->Prop)=>A8 (decide (0<d)) (h (a0.N != 3)) (h false)) λO=>A8 O (D ({ o0 with round:=d,status:=a0.N,has:=o0.aside,waits:=false,begun:=true }:A0)) (D ({ o0 with status:=a0.N,waits:=false,begun:=true }:A0))) λJ=>A8 (a0.N==0) (F8 J λU=>Q (true,U)) (Q (true,J)))))))))
def EH (o0:A0) (a0:AA) (Q:(Bool×A0)->Prop):Prop:=
 H7 o0 λV=>A8 (a0.To != V) (Q (false,o0)) (A8 (decide (a0.From<0)) (Q (false,o0)) (A8 (decide ((A6 (o0.grid.i*o0.grid.j))<=a0.From)) (Q (false,o0)) (VN o0.grid.j a0.From λh=>Q3 o0.grid.j a0.From λd=>A8 (a0.Kind==1) (DU o0 a0 ({ i:=h,j:=d }:AO) λU=>Q (U.1,U.2)) (A8 (a0.Kind==2) (DN o0 a0 ({ i:=h,j:=d }:AO) λO=>Q (O.1,O.2)) (A8 (a0.Kind==3) (DP o0 a0 ({ i:=h,j:=d }:AO) λJ=>Q (J.1,J.2)) (A8 (a0.Kind==4) (E6 o0 a0 ({ i:=h,j:=d }:AO) λK=>Q (K.1,K.2)) (A8 (a0.Kind==5) (DQ o0 a0 ({ i:=h,j:=d }:AO) λD=>Q (D.1,D.2)) (Q (false,o0)))))))))
def NQ (a0:AA) (Q:Bool->Prop):Prop:=
 Q false
def GI (o0:A2) (a0:Option Nat) (a1:AA) (Q:(Bool×A2)->Prop):Prop:=
 nP a0 (NQ a1 λd=>Q (d,o0)) λb=>qT o0 b λx=>EH x a1 λd=>Q (d.1,(b,d.2) :: F5 b o0)
def FM (o0:A4) (o1:A2) (Q:State->Prop):Prop:=
 AW (λ(s:(List Int)×(List Int)×(List Int)×Int) next922=>match s with | (s906,s910,s914,s918)=>A8 (decide (s918<(o0.owners.length:Int))) (AZ o0.owners s918 λK=>G3 o1 K λd=>DA 8 s906 d.A λ_=>DA 8 s910 d.B λ_=>SG d.On λD=>AW (λ(s:(List Int)×Int) next1061=>match s with | (s1056,s1060)=>A8 (decide (s1060<(D.length:Int))) (AZ D s1060 λh=>DA 8 s1056 ([A6 (d.Low+h)]) λ_=>next1061 ((s1056++([A6 (d.Low+h)])),A6 (s1060+1))) (next922 ((s906++d.A),(s910++d.B),s1056,A6 (s918+1)))) (s914,0)) (K1 o0.setup.Plan.N s914 λJ=>Q ({ Low:=0,High:=o0.setup.Plan.N,A:=s906,B:=s910,On:=J }:State))) (([]:List Int),([]:List Int),([]:List Int),0)
def F3 (o0:A4) (o1:A2) (Q:A4->Prop):Prop:=
 AW (λ(d:Int) next164=>A8 (decide (d<(o0.owners.length:Int))) (AZ o0.owners d λJ=>G2 o1 J λD=>A8 (D != (o0.history.length:Int)) (Q o0) (next164 (A6 (d+1)))) (FM o0 o1 λh=>DA 88 o0.history ([h]) λ_=>Q ({ o0 with history:=(o0.history++([h])) }:A4))) 0
def GJ (o0:A4) (o1:A2) (o2:A9) (a0:Int) (a1:Int) (a2:Int) (Q:(Bool×A4×A2×A9)->Prop):Prop:=
 EG o0 o1 o2 a0 a1 (λh=>NP a2 λK=>A8 (!K.2.1) (Q (false,h.1,o1,h.2)) (AZ h.1.workers a1 λV=>GI o1 V K.1 λO=>F3 h.1 O.2 λW=>Q (true,W,O.2,h.2))) (λd=>P3 d.2.2 d.1 a2 λD=>A8 (!D.2.1) (Q (false,d.2.1,o1,D.2.2.2)) (AZ d.2.1.workers a1 λZ=>GI o1 Z D.1 λJ=>F3 d.2.1 J.2 λU=>Q (true,U,J.2,D.2.2.2)))
def CJ (o0:A4) (o1:A2) (o2:A9) (Q:(Bool×A4×A2×A9)->Prop):Prop:=
 AW (λ(s:A4×Bool×Int×A2×A9) next215=>match s with | (s204,s211,s212,s213,s214)=>A8 (decide (s212<(o0.workers.length:Int))) (IP s204 s213 s214 s212 λd=>A8 d.1 (next215 (d.2.1,true,A6 (s212+1),d.2.2.1,d.2.2.2)) (next215 (d.2.1,s211,A6 (s212+1),d.2.2.1,d.2.2.2))) (HE s204 s214 λK=>AW (λ(s:A4×Bool×Int×A9×A2) next493=>match s with | (s482,s489,s490,s491,s492)=>A8 (decide (s490<(K.length:Int))) (AZ K s490 λD=>lkP s482.boxes D none λJ=>GN s491 J λU=>MA s491 J λV=>GJ s482 s492 s491 D.1 D.2 V λh=>A8 s489 (next493 (h.2.1,true,A6 (s490+1),h.2.2.2,h.2.2.1)) (GN h.2.2.2 J λO=>next493 (h.2.1,decide (O<U),A6 (s490+1),h.2.2.2,h.2.2.1))) (Q (s489,s482,s492,s491))) (s204,s211,0,s214,s213))) (o0,false,0,o1,o2)
def F9 (o0:A0) (Q:Int->Prop):Prop:=
 Q o0.status
def LI  (Q:Int->Prop):Prop:=
 Q 0
def E7 (o0:A2) (a0:Option Nat) (Q:Int->Prop):Prop:=
 nP a0 (LI  λd=>Q d) λb=>qT o0 b λx=>F9 x  λd=>Q d
def JB (o0:A2) (a0:Option Nat) (Q:Bool->Prop):Prop:=
 E7 o0 a0 λd=>Q (d==0)
def CA (o0:A2) (a0:List (Option Nat)) (Q:Int->Prop):Prop:=
 AW (λ(d:Int) next47=>A8 (decide (d<(a0.length:Int))) (AZ a0 d λD=>JB o0 D λh=>A8 h (Q d) (next47 (A6 (d+1)))) (Q (-1))) 0
def BT (o0:A2) (a0:List (Option Nat)) (Q:Bool->Prop):Prop:=
 CA o0 a0 λd=>Q (decide (0<=d))
def CX (o0:A4) (o1:A2) (Q:Bool->Prop):Prop:=
 BT o1 o0.owners λd=>Q (!d)
def E8 (o0:A4) (Q:Int->Prop):Prop:=
 Q (A6 ((o0.history.length:Int) - 1))
def CY (o0:A4) (a0:Int) (Q:(State×Bool)->Prop):Prop:=
 A8 (decide (a0<0)) (Q (FH,false)) (A8 (decide ((o0.history.length:Int)<=a0)) (Q (FH,false)) (AZ o0.history a0 λd=>AX d.A λh=>AX d.B λJ=>BJ d.On λD=>Q (({ d with A:=h,B:=J,On:=D }:State),true)))
def DH (o0:A4) (o1:A2) (Q:Result->Prop):Prop:=
 E8 o0 λJ=>DB (λ(d:Int->Prop)=>CX o0 o1 λO=>A8 O (AZ o0.owners 0 λU=>E7 o1 U λh=>d h) (d 0)) λD=>CY o0 J λK=>Q ({ Status:=D,Rounds:=J,State:=K.1 }:Result)
def WX (a0:G9) (a1:Int×Int×Int) (Q:Bool->Prop):Prop:=
 QK a0 λW=>GW ([]:A2) ([]:A9) W (λr89=>GW r89.2 ([]:A9) ({ W with R:=A6 (((A6 (a1.1)).tmod 5)+1),C:=A6 (((A6 (a1.2.1)).tmod 5)+1),Room:=A6 (((A6 (a1.2.2)).tmod 3)+1),Choices:=([]:List ED) }:JO) (λr154=>Q false) (λr156=>Q false)) (λr91=>GW r91.2.1 ([]:A9) ({ W with R:=A6 (((A6 (a1.1)).tmod 5)+1),C:=A6 (((A6 (a1.2.1)).tmod 5)+1),Room:=A6 (((A6 (a1.2.2)).tmod 3)+1),Choices:=([]:List ED) }:JO) (λr221=>Q false) (λO=>A8 (r91.1 != 0) (Q false) (A8 (O.1 != 0) (Q false) (IG W λr246=>A8 (r246 != 0) (Q false) (DB (λ(k480:(A4×A2×A9)->Prop)=>AW (λ(s:A4×Int×A2×A9) next564=>match s with | (s554,s561,s562,s563)=>A8 (decide (s561<4000)) (CJ s554 s562 s563 λh=>A8 h.1 (next564 (h.2.1,A6 (s561+1),h.2.2.1,h.2.2.2)) (k480 (h.2.1,h.2.2.1,h.2.2.2))) (k480 (s554,s562,s563))) (r91.2.2,0,O.2.1,([]:A9))) λ(J,s478,s479)=>DB (λ(Z:(A4×A2×A9)->Prop)=>AW (λ(s:A4×Int×A2×A9) next917=>match s with | (s907,s914,s915,s916)=>A8 (decide (s914<4000)) (CJ s907 s915 s916 λd=>A8 d.1 (next917 (d.2.1,A6 (s914+1),d.2.2.1,d.2.2.2)) (Z (d.2.1,d.2.2.1,d.2.2.2))) (Z (s907,s915,s916))) (O.2.2,0,s478,s479)) λ(V,s829,s830)=>CX J s829 λr1007=>A8 (!r1007) (Q false) (CX V s829 λr1018=>A8 (!r1018) (Q false) (DH J s829 λr1029=>DH V s829 λr1041=>SM r1029 r1041 λr1047=>A8 (!r1047) (Q false) (AW (λ(D:Int) next1234=>E8 J λr1258=>A8 (decide (D<=r1258)) (CY J D λK=>CY V D λU=>A8 (!K.2) (Q false) (A8 (!U.2) (Q false) (OT K.1 U.1 λr1326=>A8 (!r1326) (Q false) (next1234 (A6 (D+1)))))) (Q true)) 0))))))))
abbrev IW (d:Plan) (D:Option Addr) (h:Nat):Array Value:=#[.int .i64 d.Kind,.int .i64 d.N,.int .i64 d.Source,.int .i64 d.Length,.slice D d.Draws.length h]
abbrev xY (d:H4) (h:aTa):Array Value:=#[.int .i64 d.P.Kind,.int .i64 d.P.N,.int .i64 d.P.Source,.int .i64 d.P.Length,.slice h.1.1 d.P.Draws.length h.1.2,.int .i64 d.G.N,.slice h.2.1 d.G.Edges.length h.2.2,.int .u8 d.Limit]
abbrev lD (d:G9) (h:aTb):Array Value:=#[.int .i64 d.Model.P.Kind,.int .i64 d.Model.P.N,.int .i64 d.Model.P.Source,.int .i64 d.Model.P.Length,.slice h.1.1.1 d.Model.P.Draws.length h.1.1.2,.int .i64 d.Model.G.N,.slice h.1.2.1 d.Model.G.Edges.length h.1.2.2,.int .u8 d.Model.Limit,.int .u8 d.R,.int .u8 d.C,.int .u8 d.Room,.slice h.2.1 d.Choices.length h.2.2]
abbrev uN (d:JO) (h:aTc):Array Value:=#[.int .i64 d.Plan.Kind,.int .i64 d.Plan.N,.int .i64 d.Plan.Source,.int .i64 d.Plan.Length,.slice h.1.1 d.Plan.Draws.length h.1.2,.int .i64 d.Graph.N,.slice h.2.1.1 d.Graph.Edges.length h.2.1.2,.int .i64 d.R,.int .i64 d.C,.int .i64 d.Room,.int .i64 d.Limit,.slice h.2.2.1 d.Choices.length h.2.2.2]
abbrev K7 (h:Rows) (d:aTd):Array Value:=#[.int .i64 h.Rows,.int .i64 h.Cols,.slice d.1.1 h.Start.length d.1.2,.slice d.2.1.1 h.Col.length d.2.1.2,.slice d.2.2.1 h.Val.length d.2.2.2]
abbrev EU (h:AN) (d:aTf):Array Value:=#[.int .i64 h.Rows,.int .i64 h.Cols,.slice d.1.1 h.At.length d.1.2,.slice d.2.1.1 h.Start.length d.2.1.2,.slice d.2.2.1.1 h.Row.length d.2.2.1.2,.slice d.2.2.2.1 h.Val.length d.2.2.2.2]
abbrev F4 (h:State) (d:aTi):Array Value:=#[.int .i64 h.Low,.int .i64 h.High,.slice d.1.1 h.A.length d.1.2,.slice d.2.1.1 h.B.length d.2.1.2,.slice d.2.2.1 h.On.length d.2.2.2]
abbrev GB (d:AA) (h:aTj):Array Value:=#[.int .i64 d.Kind,.int .i64 d.From,.int .i64 d.To,.int .i64 d.Seq,.int .i64 d.Round,.int .i64 d.Vec.N,.slice h.1.1 d.Vec.Items.length h.1.2,.slice h.2.1.1 d.Sums.length h.2.1.2,.slice h.2.2.1 d.Triples.length h.2.2.2,.int .i64 d.N,.bool d.Over]
abbrev K8 (h:Dense) (d:aTk):Array Value:=#[.int .i64 h.N,.slice d.1.1 h.Has.length d.1.2,.slice d.2.1 h.Vals.length d.2.2]
abbrev AgV (d:Y2) (h:aTl):Array Value:=#[.int .i64 d.Form,.int .i64 d.Vec.N,.slice h.1.1 d.Vec.Items.length h.1.2,.int .i64 d.Dense.N,.slice h.2.1.1 d.Dense.Has.length h.2.1.2,.slice h.2.2.1 d.Dense.Vals.length h.2.2.2]
abbrev WY (h:E5) (d:aTm):Array Value:=#[.int .i64 h.Ring,.int .i64 h.Rows.Rows,.int .i64 h.Rows.Cols,.slice d.1.1.1 h.Rows.Start.length d.1.1.2,.slice d.1.2.1.1 h.Rows.Col.length d.1.2.1.2,.slice d.1.2.2.1 h.Rows.Val.length d.1.2.2.2,.int .i64 h.Cols.Rows,.int .i64 h.Cols.Cols,.slice d.2.1.1.1 h.Cols.At.length d.2.1.1.2,.slice d.2.1.2.1.1 h.Cols.Start.length d.2.1.2.1.2,.slice d.2.1.2.2.1.1 h.Cols.Row.length d.2.1.2.2.1.2,.slice d.2.1.2.2.2.1 h.Cols.Val.length d.2.1.2.2.2.2,.int .i64 h.X.Form,.int .i64 h.X.Vec.N,.slice d.2.2.1.1.1 h.X.Vec.Items.length d.2.2.1.1.2,.int .i64 h.X.Dense.N,.slice d.2.2.1.2.1.1 h.X.Dense.Has.length d.2.2.1.2.1.2,.slice d.2.2.1.2.2.1 h.X.Dense.Vals.length d.2.2.1.2.2.2,.slice d.2.2.2.1 h.Set.length d.2.2.2.2,.bool h.Others,.int .i64 h.Way]
abbrev jI (d:A7) (J:Option Addr) (D:Nat) (K:Option Addr) (h:Nat):Array Value:=#[.slice J d.heads.length D,.int .i64 d.r,.slice K d.out.length h]
abbrev uO (d:Result) (h:aTi):Array Value:=#[.int .i64 d.Status,.int .i64 d.Rounds,.int .i64 d.State.Low,.int .i64 d.State.High,.slice h.1.1 d.State.A.length h.1.2,.slice h.2.1.1 d.State.B.length h.2.1.2,.slice h.2.2.1 d.State.On.length h.2.2.2]
abbrev FE (d:A0) (h:aTp) (D:Option Addr) (W:Nat) (K:Nat) (J:Option Addr) (V:Nat) (O:Nat) (U:Nat):Array Value:=#[.int .i64 d.place.i,.int .i64 d.place.j,.int .i64 d.plan.Kind,.int .i64 d.plan.N,.int .i64 d.plan.Source,.int .i64 d.plan.Length,.slice h.1.1 d.plan.Draws.length h.1.2,.int .i64 d.grid.i,.int .i64 d.grid.j,.int .i64 d.limit,.slice h.2.1.1 d.choices.length h.2.1.2,.int .i64 d.rows.Rows,.int .i64 d.rows.Cols,.slice h.2.2.1.1.1 d.rows.Start.length h.2.2.1.1.2,.slice h.2.2.1.2.1.1 d.rows.Col.length h.2.2.1.2.1.2,.slice h.2.2.1.2.2.1 d.rows.Val.length h.2.2.1.2.2.2,.int .i64 d.cols.Rows,.int .i64 d.cols.Cols,.slice h.2.2.2.1.1.1 d.cols.At.length h.2.2.2.1.1.2,.slice h.2.2.2.1.2.1.1 d.cols.Start.length h.2.2.2.1.2.1.2,.slice h.2.2.2.1.2.2.1.1 d.cols.Row.length h.2.2.2.1.2.2.1.2,.slice h.2.2.2.1.2.2.2.1 d.cols.Val.length h.2.2.2.1.2.2.2.2,.slice D d.out.length W,.int .i64 d.share,.map (some K),.int .i64 d.spread,.int .i64 d.round,.int .i64 d.status,.int .i64 d.has.Low,.int .i64 d.has.High,.slice h.2.2.2.2.1.1.1 d.has.A.length h.2.2.2.2.1.1.2,.slice h.2.2.2.2.1.2.1.1 d.has.B.length h.2.2.2.2.1.2.1.2,.slice h.2.2.2.2.1.2.2.1 d.has.On.length h.2.2.2.2.1.2.2.2,.int .i64 d.aside.Low,.int .i64 d.aside.High,.slice h.2.2.2.2.2.1.1 d.aside.A.length h.2.2.2.2.2.1.2,.slice h.2.2.2.2.2.2.1.1 d.aside.B.length h.2.2.2.2.2.2.1.2,.slice h.2.2.2.2.2.2.2.1 d.aside.On.length h.2.2.2.2.2.2.2.2,.bool d.waits,.bool d.begun,.slice J d.sums.length V,.map (some O),.int .i64 d.vote,.map (some U),.bool d.closed]
abbrev K9 (d:A0) (h:aTq) (q1:Option Addr) (q2:Nat) (q3:Nat) (q4:Option Addr) (q5:Nat) (q6:Option Addr) (q7:Nat) (q8:Option Addr) (q9:Nat) (W:Option Addr) (q11:Nat) (Z:Option Addr) (q13:Nat) (K:Option Addr) (J:Nat) (O:Option Addr) (V:Nat) (U:Nat) (D:Nat):Array Value:=#[.int .i64 d.place.i,.int .i64 d.place.j,.int .i64 d.plan.Kind,.int .i64 d.plan.N,.int .i64 d.plan.Source,.int .i64 d.plan.Length,.slice h.1.1 d.plan.Draws.length h.1.2,.int .i64 d.grid.i,.int .i64 d.grid.j,.int .i64 d.limit,.slice h.2.1.1 d.choices.length h.2.1.2,.int .i64 d.rows.Rows,.int .i64 d.rows.Cols,.slice h.2.2.1.1.1 d.rows.Start.length h.2.2.1.1.2,.slice h.2.2.1.2.1.1 d.rows.Col.length h.2.2.1.2.1.2,.slice h.2.2.1.2.2.1 d.rows.Val.length h.2.2.1.2.2.2,.int .i64 d.cols.Rows,.int .i64 d.cols.Cols,.slice h.2.2.2.1.1 d.cols.At.length h.2.2.2.1.2,.slice h.2.2.2.2.1.1 d.cols.Start.length h.2.2.2.2.1.2,.slice h.2.2.2.2.2.1.1 d.cols.Row.length h.2.2.2.2.2.1.2,.slice h.2.2.2.2.2.2.1 d.cols.Val.length h.2.2.2.2.2.2.2,.slice q1 d.out.length q2,.int .i64 d.share,.map (some q3),.int .i64 d.spread,.int .i64 d.round,.int .i64 d.status,.int .i64 d.has.Low,.int .i64 d.has.High,.slice q4 d.has.A.length q5,.slice q6 d.has.B.length q7,.slice q8 d.has.On.length q9,.int .i64 d.aside.Low,.int .i64 d.aside.High,.slice W d.aside.A.length q11,.slice Z d.aside.B.length q13,.slice K d.aside.On.length J,.bool d.waits,.bool d.begun,.slice O d.sums.length V,.map (some U),.int .i64 d.vote,.map (some D),.bool d.closed]
abbrev bF (d:A4) (h:aTc) (D:Option Addr) (W:Nat) (K:Nat) (J:Option Addr) (V:Nat) (O:Option Addr) (U:Nat):Array Value:=#[.int .i64 d.setup.Plan.Kind,.int .i64 d.setup.Plan.N,.int .i64 d.setup.Plan.Source,.int .i64 d.setup.Plan.Length,.slice h.1.1 d.setup.Plan.Draws.length h.1.2,.int .i64 d.setup.Graph.N,.slice h.2.1.1 d.setup.Graph.Edges.length h.2.1.2,.int .i64 d.setup.R,.int .i64 d.setup.C,.int .i64 d.setup.Room,.int .i64 d.setup.Limit,.slice h.2.2.1 d.setup.Choices.length h.2.2.2,.slice D d.workers.length W,.map (some K),.slice J d.owners.length V,.slice O d.history.length U]
abbrev BS (d:A4) (h:aTs) (J:Nat) (K:Option Addr) (D:Nat):Array Value:=#[.int .i64 d.setup.Plan.Kind,.int .i64 d.setup.Plan.N,.int .i64 d.setup.Plan.Source,.int .i64 d.setup.Plan.Length,.slice h.1.1.1 d.setup.Plan.Draws.length h.1.1.2,.int .i64 d.setup.Graph.N,.slice h.1.2.1.1 d.setup.Graph.Edges.length h.1.2.1.2,.int .i64 d.setup.R,.int .i64 d.setup.C,.int .i64 d.setup.Room,.int .i64 d.setup.Limit,.slice h.1.2.2.1 d.setup.Choices.length h.1.2.2.2,.slice h.2.1.1 d.workers.length h.2.1.2,.map (some J),.slice h.2.2.1 d.owners.length h.2.2.2,.slice K d.history.length D]
abbrev xZ (d:B4) (J:Option Addr) (D:Nat) (K:Nat) (h:Nat):Array Value:=#[.int .i64 d.room,.slice J d.row.length D,.map (some K),.map (some h),.int .i64 d.sent,.int .i64 d.taken]
theorem tv:True:=trivial
end Go.Proofs.YtkbkaodgfedfmaaGreat
