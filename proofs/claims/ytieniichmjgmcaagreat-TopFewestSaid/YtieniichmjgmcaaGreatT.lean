import Derived.Test.YtieniichmjgmcaaGreatB
import Derived.Shelf.SlSortCmp.WholeK
import Derived.Shelf.SlSortCmp.NoneTotal
set_option linter.unusedVariables false
set_option linter.unusedSimpArgs false
set_option maxRecDepth 100000
set_option maxHeartbeats 1000000
namespace Go.Fw
open Go Go.RowKit Go.Shelf Go.Lib Go.Sort Go.Proofs
section
variable {P:Program} {α:Type}
def AdG (d:α->α->(Int->Prop)->Prop) (xs:List α) (K:List α->Prop):Prop:=
 ∃ h:α->α->Int,(∀ x y (Q:Int->Prop),Q (h x y)->d x y Q)∧SWO (ltOf h)∧xs.length<4611686018427387904∧∀ ys:List α,ys.Perm xs->ys.Pairwise (λx y=>0<=h y x)->K ys
theorem Al8 {W w':World} (U:As5 W (λ_=>False) w'):∃ q V,w'=grow (W.drewN q) V:=by
 refine⟨w'.drawn - W.drawn,w'.heap.extract W.heap.size w'.heap.size,?_⟩;have⟨J,D,h,_,_,O⟩:=U
 have Z:w'.heap=W.heap++w'.heap.extract W.heap.size w'.heap.size:=by
  apply Array.ext_getElem?;intro i;rcases aG i W.heap.size with hi | hi
  . rw[O i hi (λx=>x),AuH hi]
  . rw[Array.getElem?_append_right hi,Array.getElem?_extract];split
    . congr 1; omega
    . rw[Array.getElem?_eq_none (by omega)]
 have d:W.drawn+(w'.drawn - W.drawn)=w'.drawn:=by omega
 cases w';simp only at Z J D h d;simp only[grow,World.drewN,d,<-J,<-D,<-h];congr 1
theorem Al9 {W:World} {q:Nat} {h:Array Obj}:As5 W (λ_=>False) (grow (W.drewN q) h):=
 ⟨rfl,rfl,rfl,by simp[grow,World.drewN],by simp[grow,World.drewN],λ_ d _=>by simp[grow,World.drewN,AuH d]⟩
theorem Fun.sort [Inhabited α] {ρ:Ren} (L:SlLaysF0.n6 P ρ) {k:Nat} (aE:∀ w,(isAgg (ρ.t 24)).run P w=.ok true w) (zE:∀ w,(Go.sizeOf (ρ.t 24)).run P w=.ok k w) {enc:α->List Value} {hk:∀ x,(enc x).length=k∧KE (enc x)=true}
    {c0:α->α->(Int->Prop)->Prop} {g:Nat} (hc:∀ (x y:α) (d0:IH) (Q:Int->Prop),c0 x y Q->B6 P g [.agg (enc x).toArray,.agg (enc y).toArray] d0 λ_ v=>∃ r,v=.int .i64 r∧Q r)
    (eg:∀ args w,(callFunc g args).run P w=.ok (.enter g args) w) {I:IH} {T:TypeId} {a:Option Addr} {cap:Nat} {xs:List α} {K:List α->Prop} (hd:AdG c0 xs K) :
    Fun P (ρ.f 6) #[.slice a xs.length cap,.func (.func g) #[] #[]] I [OwnSl (EW k enc hk) T a cap xs] λ_ v l=>∃ ys,v=.tuple #[]∧ys.length=xs.length∧l=[OwnSl (EW k enc hk) T a cap ys]∧K ys:=by
  have⟨W,d6,hO,f2,hK⟩:=hd;intro w a3 hI hs hh a5;have s0:=Fun.start hI hs hh a5;have⟨g1,g2,f8,e7,e8,ha,f0⟩:=hs;rcases ha with⟨rfl,rfl,rfl⟩ | ⟨b,c,rfl,hb,c1,a4,f9⟩
  . refine(AnyF.slices_SortFunc_none L none 0 (.func (.func g) #[] #[]) w).mono λe w' V=>?_;obtain⟨rfl,rfl⟩:=V;exact⟨_,I,_,rfl,IH.le.refl _,⟨[],rfl,rfl,rfl,hK [] (.refl _) .nil⟩,s0⟩
  . have b1:Sym w (λb=>a3 b≠none) I I [pto b (.cells c T (0,0))] w:=by have⟨hB,hi,hn,q,_,hq,_,_⟩:=s0;exact⟨hB,hi,hn,a3,⟨g1,g2,f8,e7,e8,hb,f0⟩,hh,a5,λb hb=>.inl hb⟩
    have hw:=b1.pto;have f5:b<w.heap.size:=(Array.getElem?_eq_some_iff.1 hw).1;have g0:∀ j,w.cell? ⟨b,j,none⟩=c[j]?:=λj=>by rw[N2 hw]
    have f7:c.size=cap*k:=a4
    have hH:HoldsK enc k w b 0 xs.toArray:=by
      intro j h;rw[size_flatK] at h;simp only[AnW] at h
      have e6 : 0 < k := by
        rcases aD k with e | e
        . subst e; simp at h
        . exact e
      have a7:j / k<xs.length:=Nat.div_lt_of_lt_mul (by rw[AaL]; exact h);have e5:j % k<k:=Ad4 _ e6;have hx:xs[j / k]? = some xs[j / k]:=zL8 a7;have⟨cs,O,U⟩:=f9 _ _ hx;have d1:cs=enc xs[j / k]:=O;subst d1;have c2:j % k<(enc xs[j / k]).length:=by rw[(hk _).1]; exact e5
      have J:=U (j % k) _ (zL8 c2);have d7:j / k*k+j % k=j:=by rw[AaL]; exact AiI j k
      have d2:c[j]? = some (enc xs[j / k])[j % k]:=by
        have h3:c[j / k*k+j % k]? = some (enc xs[j / k])[j % k]:=J
        rwa [d7] at h3
      refine⟨?_,by simp[World.frozen?,hw]⟩;rw[aT,g0,d2,get_flatK _ _ _ _ (by simpa using h)];simp[a7,c2]
    have f6:CmpLays P g #[] enc k W b 0 xs.toArray.size w:=by intro m os dk g5 x y;have:=hc x y (λ_=>none) (λr=>r=W x y) (d6 x y _ rfl) (sortWorldK enc k w b 0 m dk os) (λ_=>none) (λ_ _ e=>nomatch e) trivial (λ_ _ e=>nomatch e) (λ_=>.inl rfl);refine Calls.mono (by simpa using this) λe w' V=>?_;obtain⟨v,_,_,rfl,_,⟨_,r,rfl,rfl⟩,hs'⟩:=V;exact⟨rfl,Al8 ⟨hs'.base.os,hs'.base.tape,hs'.base.output,hs'.base.drawn,hs'.base.size,λb Z J=>hs'.base.block b Z (by simp)⟩⟩
    refine(AnyQ.slices_SortFunc L k aE zE enc (λx=>(hk x).1) (λx v hv=>TJ (hk x).2 v hv) W hO g #[] b 0 cap xs.toArray w eg f6 hH f5 (by simpa using f2)).mono λe w' V=>?_;obtain⟨rfl,d,n,os,hp,f1,rfl⟩:=V;have⟨e9,_,b0⟩:=hp;have a2:d.size=xs.length:=by simpa using e9
    have g3:d.toList.Perm xs:=by
      have O:d.extract 0 xs.toArray.size=d:=by rw[AuG]; simp[a2]
      have U:xs.toArray.extract 0 xs.toArray.size=xs.toArray:=by rw[AuG]; simp
      rw[O,U] at b0; simpa using b0
    have g4:d.toList.Pairwise (λx y=>0<=W y x):=by rw[AkW];intro i j hi h d9;have:=f1 i j (sU _) d9 (by simp at h; simp; omega);simp only[Ag0] at hi h;unfold ltOf at this;simp only[hi,h,getElem!_pos,decide_eq_false_iff_not] at this;simp only[Array.getElem_toList];omega
    refine⟨_,I,_,rfl,IH.le.refl _,⟨d.toList,rfl,by simpa using a2,rfl,hK _ g3 g4⟩,?_⟩
    -- memory behind the sort
    have g6:(flatK enc k d).size=xs.length*k:=by rw[size_flatK,a2]
    have g7:xs.length*k<=cap*k:=wS _ c1
    obtain⟨D,d3,d4,d5⟩:∃ D:Array Value,(putRowK enc k w b 0 d).heap[b]? = some (.cells D T (0,0))∧D.size=c.size∧∀ j,j<(flatK enc k d).size->D[j]? = some (flatK enc k d)[j]!:=by
      refine⟨putCells id 0 (flatK enc k d) c,?_,by simp[putCells],λj h=>?_⟩
      . simp[putRowK,putRow,mapBlock,AnP,hw,onCells]
      . have e4:j<c.size:=by rw[f7]; omega
        simp[putCells,e4];intro a3;rw[size_flatK] at h;omega
    have f3:=b1.upd (o':=.cells D T (0,0)) (w':=putRowK enc k w b 0 d) rfl rfl rfl rfl (by simp[putRowK,putRow,mapBlock])
      (λq hq=>by simp[putRowK,putRow,mapBlock,AnP,Ne.symm hq]) d3
    have d8:=f3.grown (w':=grow ((putRowK enc k w b 0 d).drewN n) os) Al9;refine Sym.weaken (A:=pto b (.cells D T (0,0))) d8 λq hq=>.inr ⟨b,D,rfl,hq,by simp[a2]; exact c1,by rw[d4]; exact a4,λi x hx=>⟨enc x,rfl,λj v h=>?_⟩⟩;have a6:i<d.size:=by have:=(List.getElem?_eq_some_iff.1 hx).1; simpa using this
    have f4:d[i]! = x:=by rw[getElem!_pos d i a6]; have:=List.getElem?_eq_some_iff.1 hx; have⟨Z,J⟩:=this; simpa using J
    have a8:j<k:=by have:=(List.getElem?_eq_some_iff.1 h).1; rwa [(hk x).1] at this
    have a9:i*k+j<(flatK enc k d).size:=by rw[size_flatK];have:(i+1)*k<=d.size*k:=wS _ a6;rw[WL,sS] at this; omega
    show D[i*k+j]? = some v;rw[d5 _ a9,get_flatK _ _ _ _ (by rwa [size_flatK] at a9)];have O:(i*k+j) / k=i:=by rw[AaL,AiF (by omega),AnJ a8]; rfl
    have U:(i*k+j) % k=j:=by rw[AaL,Nat.mul_add_mod,AnZ a8]
    rw[O,U,f4];have e3:=List.getElem?_eq_some_iff.1 h;have⟨Z,J⟩:=e3;rw[getElem!_pos (enc x) j Z,J]
end
end Go.Fw
namespace Go.Proofs.YtieniichmjgmcaaGreat
open Go Go.Fw
abbrev AV:EB Int:=EW 1 (λx=>[.int .i64 x]) (λ_=>⟨rfl,rfl⟩)
abbrev KF:EB Int:=EW 1 (λx=>[.int .u64 x]) (λ_=>⟨rfl,rfl⟩)
abbrev eU8:EB Int:=EW 1 (λx=>[.int .u8 x]) (λ_=>⟨rfl,rfl⟩)
abbrev eB:EB Bool:=EW 1 (λx=>[.bool x]) (λ_=>⟨rfl,rfl⟩)
structure B0 where
 From:Int
 To:Int
 W:Int
deriving DecidableEq,Inhabited
def LW (x:B0):List Value:=[.int .i64 x.From,.int .i64 x.To,.int .i64 x.W]
abbrev CC:EB B0:=EW 3 LW (λ_=>⟨rfl,rfl⟩)
structure Graph where
 N:Int
 Edges:List B0
deriving DecidableEq,Inhabited
def AvC:EB Graph where
 sz:=2
 rep I cs x:=∃ a1 c1,cs=[.int .i64 x.N,.slice a1 x.Edges.length c1]∧RepSl CC I a1 c1 x.Edges
 mono hle:=λ⟨a1,c1,e,h0⟩=>⟨a1,c1,e,h0.mono hle⟩
 len:=λ⟨a1,c1,e,_⟩=>by rw[e]; rfl
 one:=λ⟨a1,c1,e,_⟩=>by rw[e]; rfl
structure NC where
 G:Graph
 V:Int
 R:Int
 C:Int
deriving DecidableEq,Inhabited
def AdJ:EB NC where
 sz:=5
 rep I cs x:=∃ a1 c1,cs=[.int .i64 x.G.N,.slice a1 x.G.Edges.length c1,.int .i64 x.V,.int .u8 x.R,.int .u8 x.C]∧RepSl CC I a1 c1 x.G.Edges
 mono hle:=λ⟨a1,c1,e,h0⟩=>⟨a1,c1,e,h0.mono hle⟩
 len:=λ⟨a1,c1,e,_⟩=>by rw[e]; rfl
 one:=λ⟨a1,c1,e,_⟩=>by rw[e]; rfl
structure Plan where
 Kind:Int
 N:Int
 Source:Int
 Length:Int
 Draws:List Int
deriving DecidableEq,Inhabited
structure HY where
 Way:Int
 Form:Int
deriving DecidableEq,Inhabited
def yS (x:HY):List Value:=[.int .i64 x.Way,.int .i64 x.Form]
abbrev dN:EB HY:=EW 2 yS (λ_=>⟨rfl,rfl⟩)
structure JB where
 Plan:Plan
 Graph:Graph
 R:Int
 C:Int
 Room:Int
 Limit:Int
 Choices:List HY
deriving DecidableEq,Inhabited
abbrev aTa:Type:=(Option Addr×Nat)×(Option Addr×Nat)×(Option Addr×Nat)
def lTa (I:IH) (x:aTa) (o:JB):Prop:=RepSl AV I x.1.1 x.1.2 o.Plan.Draws∧RepSl CC I x.2.1.1 x.2.1.2 o.Graph.Edges∧RepSl dN I x.2.2.1 x.2.2.2 o.Choices
theorem mTa {I J:IH} {x:aTa} {o:JB} (h:IH.le I J) (k:lTa I x o):lTa J x o:=⟨k.1.mono h,k.2.1.mono h,k.2.2.mono h⟩
structure AZ where
 Hi:Int
 Lo:Int
deriving DecidableEq,Inhabited
abbrev PB:AZ:={ Hi:=0,Lo:=0 }
def GO (x:AZ):List Value:=[.int .i64 x.Hi,.int .u64 x.Lo]
abbrev yT:EB AZ:=EW 2 GO (λ_=>⟨rfl,rfl⟩)
structure Rows where
 Rows:Int
 Cols:Int
 Start:List Int
 Col:List Int
 Val:List Int
deriving DecidableEq,Inhabited
abbrev RY:Rows:={ Rows:=0,Cols:=0,Start:=([]:List Int),Col:=([]:List Int),Val:=([]:List Int) }
abbrev aTb:Type:=(Option Addr×Nat)×(Option Addr×Nat)×(Option Addr×Nat)
def nQ (I:IH) (x:aTb) (o:Rows):Prop:=RepSl AV I x.1.1 x.1.2 o.Start∧RepSl AV I x.2.1.1 x.2.1.2 o.Col∧RepSl AV I x.2.2.1 x.2.2.2 o.Val
theorem mTb {I J:IH} {x:aTb} {o:Rows} (h:IH.le I J) (k:nQ I x o):nQ J x o:=⟨k.1.mono h,k.2.1.mono h,k.2.2.mono h⟩
structure A2 where
 Row:Int
 Col:Int
 Val:Int
deriving DecidableEq,Inhabited
def oG (x:A2):List Value:=[.int .i64 x.Row,.int .i64 x.Col,.int .i64 x.Val]
abbrev JJ:EB A2:=EW 3 oG (λ_=>⟨rfl,rfl⟩)
structure tI where
 Kind:Int
 A:Int
 B:Int
 K:Int
deriving DecidableEq,Inhabited
def AaW (x:tI):List Value:=[.int .i64 x.Kind,.int .i64 x.A,.int .i64 x.B,.int .i64 x.K]
abbrev AdK:EB tI:=EW 4 AaW (λ_=>⟨rfl,rfl⟩)
structure B9 where
 At:Int
 Val:Int
deriving DecidableEq,Inhabited
def VN (x:B9):List Value:=[.int .i64 x.At,.int .i64 x.Val]
abbrev CF:EB B9:=EW 2 VN (λ_=>⟨rfl,rfl⟩)
structure BB where
 Rows:Int
 Cols:Int
 At:List Int
 Start:List Int
 Row:List Int
 Val:List Int
deriving DecidableEq,Inhabited
abbrev aTd:Type:=(Option Addr×Nat)×(Option Addr×Nat)×(Option Addr×Nat)×(Option Addr×Nat)
def wQ (I:IH) (x:aTd) (o:BB):Prop:=RepSl AV I x.1.1 x.1.2 o.At∧RepSl AV I x.2.1.1 x.2.1.2 o.Start∧RepSl AV I x.2.2.1.1 x.2.2.1.2 o.Row∧RepSl AV I x.2.2.2.1 x.2.2.2.2 o.Val
theorem mTd {I J:IH} {x:aTd} {o:BB} (h:IH.le I J) (k:wQ I x o):wQ J x o:=⟨k.1.mono h,k.2.1.mono h,k.2.2.1.mono h,k.2.2.2.mono h⟩
structure State where
 Low:Int
 High:Int
 A:List Int
 B:List Int
 On:List Int
deriving DecidableEq,Inhabited
abbrev G3:State:={ Low:=0,High:=0,A:=([]:List Int),B:=([]:List Int),On:=([]:List Int) }
abbrev aTg:Type:=(Option Addr×Nat)×(Option Addr×Nat)×(Option Addr×Nat)
def iE (I:IH) (x:aTg) (o:State):Prop:=RepSl AV I x.1.1 x.1.2 o.A∧RepSl AV I x.2.1.1 x.2.1.2 o.B∧RepSl KF I x.2.2.1 x.2.2.2 o.On
theorem mTg {I J:IH} {x:aTg} {o:State} (h:IH.le I J) (k:iE I x o):iE J x o:=⟨k.1.mono h,k.2.1.mono h,k.2.2.mono h⟩
def RZ:EB State where
 sz:=5
 rep I cs x:=∃ a:aTg,cs=[.int .i64 x.Low,.int .i64 x.High,.slice a.1.1 x.A.length a.1.2,.slice a.2.1.1 x.B.length a.2.1.2,.slice a.2.2.1 x.On.length a.2.2.2]∧iE I a x
 mono hle:=λ⟨a,e,h⟩=>⟨a,e,mTg hle h⟩
 len:=λ⟨a,e,_⟩=>by rw[e]; rfl
 one:=λ⟨a,e,_⟩=>by rw[e]; rfl
structure BM where
 At:Int
 Val:AZ
deriving DecidableEq,Inhabited
def AgL (x:BM):List Value:=[.int .i64 x.At,.int .i64 x.Val.Hi,.int .u64 x.Val.Lo]
abbrev EV:EB BM:=EW 3 AgL (λ_=>⟨rfl,rfl⟩)
structure Vec where
 N:Int
 Items:List B9
deriving DecidableEq,Inhabited
abbrev CL:Vec:={ N:=0,Items:=([]:List B9) }
def fE:EB Vec where
 sz:=2
 rep I cs x:=∃ a1 c1,cs=[.int .i64 x.N,.slice a1 x.Items.length c1]∧RepSl CF I a1 c1 x.Items
 mono hle:=λ⟨a1,c1,e,h0⟩=>⟨a1,c1,e,h0.mono hle⟩
 len:=λ⟨a1,c1,e,_⟩=>by rw[e]; rfl
 one:=λ⟨a1,c1,e,_⟩=>by rw[e]; rfl
structure AK where
 Kind:Int
 From:Int
 To:Int
 Seq:Int
 Round:Int
 Vec:Vec
 Sums:List BM
 Triples:List A2
 N:Int
 Over:Bool
deriving DecidableEq,Inhabited
abbrev aTh:Type:=(Option Addr×Nat)×(Option Addr×Nat)×(Option Addr×Nat)
def rT (I:IH) (x:aTh) (o:AK):Prop:=RepSl CF I x.1.1 x.1.2 o.Vec.Items∧RepSl EV I x.2.1.1 x.2.1.2 o.Sums∧RepSl JJ I x.2.2.1 x.2.2.2 o.Triples
theorem mTh {I J:IH} {x:aTh} {o:AK} (h:IH.le I J) (k:rT I x o):rT J x o:=⟨k.1.mono h,k.2.1.mono h,k.2.2.mono h⟩
def GB:EB AK where
 sz:=11
 rep I cs x:=∃ a:aTh,cs=[.int .i64 x.Kind,.int .i64 x.From,.int .i64 x.To,.int .i64 x.Seq,.int .i64 x.Round,.int .i64 x.Vec.N,.slice a.1.1 x.Vec.Items.length a.1.2,.slice a.2.1.1 x.Sums.length a.2.1.2,.slice a.2.2.1 x.Triples.length a.2.2.2,.int .i64 x.N,.bool x.Over]∧rT I a x
 mono hle:=λ⟨a,e,h⟩=>⟨a,e,mTh hle h⟩
 len:=λ⟨a,e,_⟩=>by rw[e]; rfl
 one:=λ⟨a,e,_⟩=>by rw[e]; rfl
structure Dense where
 N:Int
 Has:List Int
 Vals:List Int
deriving DecidableEq,Inhabited
abbrev aTi:Type:=(Option Addr×Nat)×(Option Addr×Nat)
def lTi (I:IH) (x:aTi) (o:Dense):Prop:=RepSl KF I x.1.1 x.1.2 o.Has∧RepSl AV I x.2.1 x.2.2 o.Vals
theorem mTi {I J:IH} {x:aTi} {o:Dense} (h:IH.le I J) (k:lTi I x o):lTi J x o:=⟨k.1.mono h,k.2.mono h⟩
structure iF where
 Form:Int
 Vec:Vec
 Dense:Dense
deriving DecidableEq,Inhabited
abbrev aTj:Type:=(Option Addr×Nat)×aTi
def lTj (I:IH) (x:aTj) (o:iF):Prop:=RepSl CF I x.1.1 x.1.2 o.Vec.Items∧lTi I x.2 o.Dense
theorem mTj {I J:IH} {x:aTj} {o:iF} (h:IH.le I J) (k:lTj I x o):lTj J x o:=⟨k.1.mono h,mTi h k.2⟩
structure GX where
 Ring:Int
 Rows:Rows
 Cols:BB
 X:iF
 Set:List Int
 Others:Bool
 Way:Int
deriving DecidableEq,Inhabited
abbrev aTk:Type:=aTb×aTd×aTj×(Option Addr×Nat)
def lTk (I:IH) (x:aTk) (o:GX):Prop:=nQ I x.1 o.Rows∧wQ I x.2.1 o.Cols∧lTj I x.2.2.1 o.X∧RepSl KF I x.2.2.2.1 x.2.2.2.2 o.Set
theorem mTk {I J:IH} {x:aTk} {o:GX} (h:IH.le I J) (k:lTk I x o):lTk J x o:=⟨mTb h k.1,mTd h k.2.1,mTj h k.2.2.1,k.2.2.2.mono h⟩
structure B8 where
 l:List BM
 which:Int
deriving DecidableEq,Inhabited
def EL:EB B8 where
 sz:=2
 rep I cs x:=∃ a0 c0,cs=[.slice a0 x.l.length c0,.int .i64 x.which]∧RepSl EV I a0 c0 x.l
 mono hle:=λ⟨a0,c0,e,h0⟩=>⟨a0,c0,e,h0.mono hle⟩
 len:=λ⟨a0,c0,e,_⟩=>by rw[e]; rfl
 one:=λ⟨a0,c0,e,_⟩=>by rw[e]; rfl
structure AF where
 heads:List B8
 r:Int
 out:List BM
deriving DecidableEq,Inhabited
abbrev aTl:Type:=(Option Addr×Nat)×(Option Addr×Nat)
def lTl (I:IH) (x:aTl) (o:AF):Prop:=RepSl EL I x.1.1 x.1.2 o.heads∧RepSl EV I x.2.1 x.2.2 o.out
theorem mTl {I J:IH} {x:aTl} {o:AF} (h:IH.le I J) (k:lTl I x o):lTl J x o:=⟨k.1.mono h,k.2.mono h⟩
structure Result where
 Status:Int
 Rounds:Int
 State:State
deriving DecidableEq,Inhabited
structure WO where
 Result:Result
 Sent:Int
 Windows:Int
deriving DecidableEq,Inhabited
structure BA where
 i:Int
 j:Int
deriving DecidableEq,Inhabited
def GD (x:BA):List Value:=[.int .i64 x.i,.int .i64 x.j]
structure A1 where
 place:BA
 plan:Plan
 grid:BA
 limit:Int
 choices:List HY
 rows:Rows
 cols:BB
 out:List AK
 share:Int
 shares:List (Int×Vec)
 spread:Int
 round:Int
 status:Int
 has:State
 aside:State
 waits:Bool
 begun:Bool
 sums:List BM
 came:List (Int×Bool)
 vote:Int
 votes:List (Int×AK)
 closed:Bool
deriving DecidableEq,Inhabited
abbrev A3:=List (Nat×A1)
structure BR where
 room:Int
 row:List Int
 by_:List (Int×AK)
 often:List (Int×Int)
 sent:Int
 taken:Int
deriving DecidableEq,Inhabited
abbrev AP:=List (Nat×BR)
structure AO where
 v:Int
 far:Int
deriving DecidableEq,Inhabited
def MP (x:AO):List Value:=[.int .i64 x.v,.int .i64 x.far]
abbrev BS:EB AO:=EW 2 MP (λ_=>⟨rfl,rfl⟩)
structure AH where
 setup:JB
 workers:List (Option Nat)
 boxes:List ((Int×Int)×(Option Nat))
 owners:List (Option Nat)
 history:List State
deriving DecidableEq,Inhabited
abbrev aTc:Type:=(Option Addr×Nat)×(Option Addr×Nat)
def lTc (I:IH) (x:aTc) (o:Rows):Prop:=RepSl AV I x.1.1 x.1.2 o.Col∧RepSl AV I x.2.1 x.2.2 o.Val
theorem mTc {I J:IH} {x:aTc} {o:Rows} (h:IH.le I J) (k:lTc I x o):lTc J x o:=⟨k.1.mono h,k.2.mono h⟩
abbrev aTe:Type:=(Option Addr×Nat)×(Option Addr×Nat)×(Option Addr×Nat)
def lTe (I:IH) (x:aTe) (o:BB):Prop:=RepSl AV I x.1.1 x.1.2 o.Start∧RepSl AV I x.2.1.1 x.2.1.2 o.Row∧RepSl AV I x.2.2.1 x.2.2.2 o.Val
theorem mTe {I J:IH} {x:aTe} {o:BB} (h:IH.le I J) (k:lTe I x o):lTe J x o:=⟨k.1.mono h,k.2.1.mono h,k.2.2.mono h⟩
abbrev aTf:Type:=(Option Addr×Nat)×(Option Addr×Nat)
def lTf (I:IH) (x:aTf) (o:BB):Prop:=RepSl AV I x.1.1 x.1.2 o.Row∧RepSl AV I x.2.1 x.2.2 o.Val
theorem mTf {I J:IH} {x:aTf} {o:BB} (h:IH.le I J) (k:lTf I x o):lTf J x o:=⟨k.1.mono h,k.2.mono h⟩
abbrev aTm:Type:=aTa×(Option Addr×Nat)×(Option Addr×Nat)×(Option Addr×Nat)
def lTm (I:IH) (x:aTm) (o:AH):Prop:=lTa I x.1 o.setup∧RepSl PA I x.2.1.1 x.2.1.2 o.workers∧RepSl PA I x.2.2.1.1 x.2.2.1.2 o.owners∧RepSl RZ I x.2.2.2.1 x.2.2.2.2 o.history
theorem mTm {I J:IH} {x:aTm} {o:AH} (h:IH.le I J) (k:lTm I x o):lTm J x o:=⟨mTa h k.1,k.2.1.mono h,k.2.2.1.mono h,k.2.2.2.mono h⟩
abbrev aTn:Type:=(Option Addr×Nat)×(Option Addr×Nat)×aTb×aTd×aTg×aTg
def WP (I:IH) (x:aTn) (o:A1):Prop:=RepSl AV I x.1.1 x.1.2 o.plan.Draws∧RepSl dN I x.2.1.1 x.2.1.2 o.choices∧nQ I x.2.2.1 o.rows∧wQ I x.2.2.2.1 o.cols∧iE I x.2.2.2.2.1 o.has∧iE I x.2.2.2.2.2 o.aside
theorem mTn {I J:IH} {x:aTn} {o:A1} (h:IH.le I J) (k:WP I x o):WP J x o:=⟨k.1.mono h,k.2.1.mono h,mTb h k.2.2.1,mTd h k.2.2.2.1,mTg h k.2.2.2.2.1,mTg h k.2.2.2.2.2⟩
abbrev aTo:Type:=(Option Addr×Nat)×(Option Addr×Nat)×aTb×aTd
def lTo (I:IH) (x:aTo) (o:A1):Prop:=RepSl AV I x.1.1 x.1.2 o.plan.Draws∧RepSl dN I x.2.1.1 x.2.1.2 o.choices∧nQ I x.2.2.1 o.rows∧wQ I x.2.2.2 o.cols
theorem mTo {I J:IH} {x:aTo} {o:A1} (h:IH.le I J) (k:lTo I x o):lTo J x o:=⟨k.1.mono h,k.2.1.mono h,mTb h k.2.2.1,mTd h k.2.2.2⟩
abbrev aTp:Type:=aTa×(Option Addr×Nat)
def lTp (I:IH) (x:aTp) (o:AH):Prop:=lTa I x.1 o.setup∧RepSl RZ I x.2.1 x.2.2 o.history
theorem mTp {I J:IH} {x:aTp} {o:AH} (h:IH.le I J) (k:lTp I x o):lTp J x o:=⟨mTa h k.1,k.2.mono h⟩
abbrev aTq:Type:=aTa×(Option Addr×Nat)×(Option Addr×Nat)
def nR (I:IH) (x:aTq) (o:AH):Prop:=lTa I x.1 o.setup∧RepSl PA I x.2.1.1 x.2.1.2 o.workers∧RepSl PA I x.2.2.1 x.2.2.2 o.owners
theorem mTq {I J:IH} {x:aTq} {o:AH} (h:IH.le I J) (k:nR I x o):nR J x o:=⟨mTa h k.1,k.2.1.mono h,k.2.2.mono h⟩
def A7:BoxTy A1 where
 A:=aTn×Option Addr×Nat×Nat×Option Addr×Nat×Nat×Nat
 fact I a x:=WP I (a.1) (x)
 mono:=λh h0=>mTn h h0
 obj a x:=.cells #[.int .i64 x.place.i,.int .i64 x.place.j,.int .i64 x.plan.Kind,.int .i64 x.plan.N,.int .i64 x.plan.Source,.int .i64 x.plan.Length,.slice (a.1.1.1) x.plan.Draws.length (a.1.1.2),.int .i64 x.grid.i,.int .i64 x.grid.j,.int .i64 x.limit,.slice (a.1.2.1.1) x.choices.length (a.1.2.1.2),.int .i64 x.rows.Rows,.int .i64 x.rows.Cols,.slice (a.1.2.2.1.1.1) x.rows.Start.length (a.1.2.2.1.1.2),.slice (a.1.2.2.1.2.1.1) x.rows.Col.length (a.1.2.2.1.2.1.2),.slice (a.1.2.2.1.2.2.1) x.rows.Val.length (a.1.2.2.1.2.2.2),.int .i64 x.cols.Rows,.int .i64 x.cols.Cols,.slice (a.1.2.2.2.1.1.1) x.cols.At.length (a.1.2.2.2.1.1.2),.slice (a.1.2.2.2.1.2.1.1) x.cols.Start.length (a.1.2.2.2.1.2.1.2),.slice (a.1.2.2.2.1.2.2.1.1) x.cols.Row.length (a.1.2.2.2.1.2.2.1.2),.slice (a.1.2.2.2.1.2.2.2.1) x.cols.Val.length (a.1.2.2.2.1.2.2.2.2),.slice (a.2.1) x.out.length (a.2.2.1),.int .i64 x.share,.map (some (a.2.2.2.1)),.int .i64 x.spread,.int .i64 x.round,.int .i64 x.status,.int .i64 x.has.Low,.int .i64 x.has.High,.slice (a.1.2.2.2.2.1.1.1) x.has.A.length (a.1.2.2.2.2.1.1.2),.slice (a.1.2.2.2.2.1.2.1.1) x.has.B.length (a.1.2.2.2.2.1.2.1.2),.slice (a.1.2.2.2.2.1.2.2.1) x.has.On.length (a.1.2.2.2.2.1.2.2.2),.int .i64 x.aside.Low,.int .i64 x.aside.High,.slice (a.1.2.2.2.2.2.1.1) x.aside.A.length (a.1.2.2.2.2.2.1.2),.slice (a.1.2.2.2.2.2.2.1.1) x.aside.B.length (a.1.2.2.2.2.2.2.1.2),.slice (a.1.2.2.2.2.2.2.2.1) x.aside.On.length (a.1.2.2.2.2.2.2.2.2),.bool x.waits,.bool x.begun,.slice (a.2.2.2.2.1) x.sums.length (a.2.2.2.2.2.1),.map (some (a.2.2.2.2.2.2.1)),.int .i64 x.vote,.map (some (a.2.2.2.2.2.2.2)),.bool x.closed] 196 (0,0)
 more a x:=[QSl GB 238 (a.2.1) (a.2.2.1) x.out,OwnMap (Value.int .i64) fE true (a.2.2.2.1) x.shares,OwnSl EV 314 (a.2.2.2.2.1) (a.2.2.2.2.2.1) x.sums,OwnMap (Value.int .i64) eB false (a.2.2.2.2.2.2.1) x.came,OwnMap (Value.int .i64) GB true (a.2.2.2.2.2.2.2) x.votes]
def BZ:BoxTy BR where
 A:=Option Addr×Nat×Nat×Nat
 fact I a x:=True
 mono:=λ_ _=>trivial
 obj a x:=.cells #[.int .i64 x.room,.slice (a.1) x.row.length (a.2.1),.map (some (a.2.2.1)),.map (some (a.2.2.2)),.int .i64 x.sent,.int .i64 x.taken] 200 (0,0)
 more a x:=[OwnSl AV 3 (a.1) (a.2.1) x.row,OwnMap (Value.int .i64) GB true (a.2.2.1) x.by_,OwnMap (Value.int .i64) AV false (a.2.2.2) x.often]
def FM (a0:Int) (a1:Int) (Q:Int->Prop):Prop:=
 A5 (decide (a1<1)) (Q 0) (A5 (decide (a0<0)) (Q 0) (nzP a1 <| Q (a0.tmod a1)))
def VO (a0:Graph) (Q:Graph->Prop):Prop:=
 FM a0.N 24 λh=>B4 (λ(s:(List B0)×Int) next131=>match s with | (s125,s129)=>A5 (decide (s129<(a0.Edges.length:Int))) (A5 (decide (s129<60)) (A5 (decide (0<h)) (AR a0.Edges s129 λd=>FM d.From h λJ=>FM d.To h λD=>DW 24 s125 ([({ From:=J,To:=D,W:=TI .i64 d.W 2147483647 }:B0)]) λ_=>next131 ((s125++([({ From:=J,To:=D,W:=TI .i64 d.W 2147483647 }:B0)])),A4 (s129+1))) (Q ({ N:=h,Edges:=s125 }:Graph))) (Q ({ N:=h,Edges:=s125 }:Graph))) (Q ({ N:=h,Edges:=s125 }:Graph))) (([]:List B0),0)
def N5 (a0:NC) (Q:(Graph×Int×Int×Int)->Prop):Prop:=
 VO a0.G λd=>EP (λ(h:(Int×(List B0))->Prop)=>A5 (d.N==0) (h (1,([]:List B0))) (h (d.N,d.Edges))) λ(D,s42)=>FM a0.V D λJ=>Q (({ N:=D,Edges:=s42 }:Graph),J,A4 (((A4 (a0.R)).tmod 4)+1),A4 (((A4 (a0.C)).tmod 4)+1))
def TO (a0:Graph) (a1:Int) (J:Int) (D:Int) (Q:JB->Prop):Prop:=
 EP (λ(d:Int->Prop)=>A5 (decide (0<=a0.N)) (d (A4 ((if 8191<a0.N then 8191 else a0.N)+1))) (d 0)) λh=>Q ({ Plan:=({ Kind:=1,N:=a0.N,Source:=a1,Length:=0,Draws:=([]:List Int) }:Plan),Graph:=a0,R:=J,C:=D,Room:=4,Limit:=h,Choices:=([]:List HY) }:JB)
def AU (a0:List Int) (Q:(List Int)->Prop):Prop:=
 AdD a0 (Q ([]:List Int)) (DW 8 ([]:List Int) a0 λ_=>Q (([]:List Int)++a0))
def JC (a0:Int) (a1:Int) (Q:Bool->Prop):Prop:=
 A5 (decide (0<=a0)) (Q (decide (a0<=a1))) (Q false)
def II (a0:Int) (a1:Int) (Q:Bool->Prop):Prop:=
 A5 (decide (1<=a0)) (Q (decide (a0<=a1))) (Q false)
def KU (o0:Graph) (a0:Int) (Q:Bool->Prop):Prop:=
 A5 (decide (a0<0)) (Q true) (Q (decide (o0.N<=a0)))
def O8 (o1:Graph) (a0:B0) (Q:Bool->Prop):Prop:=
 KU o1 a0.From λd=>A5 d (Q true) (KU o1 a0.To λh=>Q h)
def DN (o1:Graph) (a0:List B0) (Q:Int->Prop):Prop:=
 B4 (λ(d:Int) next53=>A5 (decide (d<(a0.length:Int))) (AR a0 d λh=>O8 o1 h λD=>A5 D (Q d) (next53 (A4 (d+1)))) (Q (-1))) 0
def D8 (o1:Graph) (a0:List B0) (Q:Bool->Prop):Prop:=
 DN o1 a0 λd=>Q (decide (0<=d))
def O9 (a0:B0) (Q:Bool->Prop):Prop:=
 A5 (decide (a0.W<0)) (Q true) (Q (decide (2147483647<a0.W)))
def DO (a0:List B0) (Q:Int->Prop):Prop:=
 B4 (λ(d:Int) next46=>A5 (decide (d<(a0.length:Int))) (AR a0 d λh=>O9 h λD=>A5 D (Q d) (next46 (A4 (d+1)))) (Q (-1))) 0
def CJ (a0:List B0) (Q:Bool->Prop):Prop:=
 DO a0 λd=>Q (decide (0<=d))
def L8 (a0:Graph) (Q:Int->Prop):Prop:=
 A5 (decide (a0.N<0)) (Q 3) (EP (λ(d:Bool->Prop)=>A5 (decide (4096<a0.N)) (d (decide (4096<a0.N))) (d (decide (65536<(a0.Edges.length:Int))))) λh=>A5 h (Q 5) (D8 a0 a0.Edges λJ=>A5 J (Q 3) (CJ a0.Edges λD=>A5 D (Q 7) (Q 0))))
def SN (a0:Int) (Q:Bool->Prop):Prop:=
 A5 (decide (0<a0)) (Q (decide (a0<6))) (Q false)
def OA (a0:Int) (Q:AZ->Prop):Prop:=
 Q ({ Hi:=shr .i64 a0 63,Lo:=IntKind.wrap .u64 (a0) }:AZ)
def JK (a0:List Int) (Q:Int->Prop):Prop:=
 B4 (λ(d:Int) next32=>A5 (decide (d<(a0.length:Int))) (AR a0 d λh=>A5 (h != 0) (Q h) (next32 (A4 (d+1)))) (Q 0)) 0
def N6 (a0:Int) (Q:Bool->Prop):Prop:=
 Q (a0 != a0)
def HP (a0:Int) (a1:Int) (Q:Int->Prop):Prop:=
 N6 a0 λh=>N6 a1 λd=>A5 h (A5 d (Q 0) (Q (-1))) (A5 d (Q 1) (A5 (decide (a0<a1)) (Q (-1)) (A5 (decide (a1<a0)) (Q 1) (Q 0))))
def LX (a0:Int) (Q:Bool->Prop):Prop:=
 Q (a0 != a0)
def JL (a0:Int) (a1:Int) (Q:Int->Prop):Prop:=
 LX a0 λh=>LX a1 λd=>A5 h (A5 d (Q 0) (Q (-1))) (A5 d (Q 1) (A5 (decide (a0<a1)) (Q (-1)) (A5 (decide (a1<a0)) (Q 1) (Q 0))))
def SO (a0:AZ) (a1:AZ) (Q:Int->Prop):Prop:=
 HP a0.Hi a1.Hi λD=>JL a0.Lo a1.Lo λd=>JK ([D,d]:List Int) λh=>Q h
def RA (a0:AZ) (a1:AZ) (Q:AZ->Prop):Prop:=
 SO a0 a1 λd=>A5 (decide (d<=0)) (Q a0) (Q a1)
def ND (a0:Bool) (Q:AZ->Prop):Prop:=
 A5 a0 (OA 1 λd=>Q d) (Q PB)
def TP (a0:Bool) (Q:Int->Prop):Prop:=
 A5 a0 (Q 1) (Q 0)
def aZ (a0:AZ) (a1:AZ) (Q:AZ->Prop):Prop:=
 TP (decide ((IntKind.wrap .u64 (a0.Lo+a1.Lo))<a1.Lo)) λd=>Q ({ Hi:=A4 (IntKind.wrap .u64 ((IntKind.wrap .u64 ((IntKind.wrap .u64 (a0.Hi))+(IntKind.wrap .u64 (a1.Hi))))+d)),Lo:=IntKind.wrap .u64 (a0.Lo+a1.Lo) }:AZ)
def TQ (a0:Int) (a1:AZ) (h:AZ) (Q:AZ->Prop):Prop:=
 EP (λ(d:Bool->Prop)=>A5 (a0==1) (d (a0==1)) (A5 (a0==3) (d (a0==3)) (d (a0==4)))) λO=>A5 O (RA a1 h λJ=>Q J) (A5 (a0==2) (A5 (!(a1==h)) (ND true λU=>Q U) (ND (!(a1==PB)) λD=>Q D)) (A5 (a0==5) (aZ a1 h λV=>Q V) (Q PB)))
def bA (a0:AZ) (Q:(Int×Bool)->Prop):Prop:=
 OA (A4 (a0.Lo)) λd=>A5 (!(d==a0)) (Q (0,false)) (Q (A4 (a0.Lo),true))
def RB (a0:Int) (a1:AZ) (Q:(Int×Bool)->Prop):Prop:=
 bA a1 λd=>Q (d.1,d.2)
def HZ (a0:Int) (Q:Bool->Prop):Prop:=
 Q (a0 != a0)
def CX (a0:Int) (a1:Int) (Q:Int->Prop):Prop:=
 HZ a0 λh=>HZ a1 λd=>A5 h (A5 d (Q 0) (Q (-1))) (A5 d (Q 1) (A5 (decide (a0<a1)) (Q (-1)) (A5 (decide (a1<a0)) (Q 1) (Q 0))))
def iG (a0:B0) (a1:B0) (Q:Int->Prop):Prop:=
 CX a0.From a1.From λD=>CX a0.To a1.To λd=>JK ([D,d]:List Int) λh=>Q h
def VP (a0:B0) (a1:B0) (Q:Int->Prop):Prop:=
 iG a0 a1 λD=>HP a0.W a1.W λd=>JK ([D,d]:List Int) λh=>Q h
def QP (a0:Int) (a1:List B0) (Q:((List B0)×Int)->Prop):Prop:=
 SN a0 λr12=>A5 (!r12) (Q (([]:List B0),8)) (B4 (λ(s:(List ((Int×Int)×AZ))×Int) next305=>match s with | (s303,s304)=>A5 (decide (s304<(a1.length:Int))) (AR a1 s304 λd=>OA d.W λJ=>AgG s303 (d.From,d.To) PB λO U=>A5 U (TQ a0 O J λV=>next305 ((DV (d.From,d.To) V s303),A4 (s304+1))) (next305 ((DV (d.From,d.To) J s303),A4 (s304+1)))) (B4 (λ(s:(List B0)×(List ((Int×Int)×AZ))) next473=>match s with | (s467,s471)=>yQ s471 (AdG VP s467 λy504=>Q (y504,0)) (λh Z=>RB a0 h.2 λD=>A5 (!D.2) (Q (([]:List B0),12)) (DW 24 s467 ([({ From:=h.1.1,To:=h.1.2,W:=D.1 }:B0)]) λ_=>next473 ((s467++([({ From:=h.1.1,To:=h.1.2,W:=D.1 }:B0)])),Z)))) (([]:List B0),s303))) (([]:List ((Int×Int)×AZ)),0))
def FT (a0:Graph) (Q:Graph->Prop):Prop:=
 QP 1 a0.Edges λd=>Q ({ N:=a0.N,Edges:=d.1 }:Graph)
def FU (a1:Int) (Q:(List B0)->Prop):Prop:=
 A5 (decide (a1<0)) (False) (A5 (decide (0<(A4 (a1 - (A4 (0 - 0)))))) (grP 24 (A4 (a1 - (A4 (0 - 0)))) <| Q ([]:List B0)) (Q ([]:List B0)))
def DM (a0:List (List B0)) (Q:(List B0)->Prop):Prop:=
 B4 (λ(s:Int×Int) next161=>match s with | (s159,s160)=>A5 (decide (s160<(a0.length:Int))) (AR a0 s160 λh=>A5 (decide ((A4 (s159+(h.length:Int)))<0)) (False) (next161 (A4 (s159+(h.length:Int)),A4 (s160+1)))) (FU s159 λD=>B4 (λ(s:(List B0)×Int) next271=>match s with | (s266,s270)=>A5 (decide (s270<(a0.length:Int))) (AR a0 s270 λd=>DW 24 s266 d λ_=>next271 ((s266++d),A4 (s270+1))) (Q s266)) (D,0))) (0,0)
def LY (a0:B0) (Q:(B0×Bool)->Prop):Prop:=
 Q (({ From:=a0.To,To:=a0.From,W:=a0.W }:B0),true)
def OB (a0:Graph) (Q:Graph->Prop):Prop:=
 B4 (λ(s:(List B0)×Int) next114=>match s with | (s108,s112)=>A5 (decide (s112<(a0.Edges.length:Int))) (AR a0.Edges s112 λh=>LY h λd=>A5 d.2 (DW 24 s108 ([d.1]) λ_=>next114 ((s108++([d.1])),A4 (s112+1))) (next114 (s108,A4 (s112+1)))) (FT ({ N:=a0.N,Edges:=s108 }:Graph) λD=>Q D)) (([]:List B0),0)
def PC (a0:Graph) (Q:Graph->Prop):Prop:=
 OB a0 λd=>Q d
def TR (a0:Graph) (Q:Graph->Prop):Prop:=
 PC a0 λh=>DM ([a0.Edges,h.Edges]:List (List B0)) λd=>FT ({ N:=a0.N,Edges:=d }:Graph) λD=>Q D
def NF (a0:B0) (Q:(B0×Bool)->Prop):Prop:=
 Q (a0,a0.From != a0.To)
def TS (a0:Graph) (Q:Graph->Prop):Prop:=
 B4 (λ(s:(List B0)×Int) next114=>match s with | (s108,s112)=>A5 (decide (s112<(a0.Edges.length:Int))) (AR a0.Edges s112 λh=>NF h λd=>A5 d.2 (DW 24 s108 ([d.1]) λ_=>next114 ((s108++([d.1])),A4 (s112+1))) (next114 (s108,A4 (s112+1)))) (FT ({ N:=a0.N,Edges:=s108 }:Graph) λD=>Q D)) (([]:List B0),0)
def SP (a0:Graph) (Q:Graph->Prop):Prop:=
 TS a0 λd=>Q d
def JD (a0:Int) (a1:Int) (Q:Bool->Prop):Prop:=
 A5 (decide (0<=a0)) (Q (decide (a0<=a1))) (Q false)
def PD (a0:Int) (Q:Bool->Prop):Prop:=
 A5 (decide (a0<0)) (Q true) (Q (decide (2147483647<a0)))
def EY (a0:List Int) (Q:Int->Prop):Prop:=
 B4 (λ(d:Int) next46=>A5 (decide (d<(a0.length:Int))) (AR a0 d λh=>PD h λD=>A5 D (Q d) (next46 (A4 (d+1)))) (Q (-1))) 0
def BG (a0:List Int) (Q:Bool->Prop):Prop:=
 EY a0 λd=>Q (decide (0<=d))
def PE (a0:Plan) (Q:Int->Prop):Prop:=
 A5 (decide (a0.Kind<=0)) (Q 8) (A5 (decide (5<a0.Kind)) (Q 8) (JD a0.N 4096 λU=>A5 (!U) (Q 3) (EP (λ(J:Unit->Prop)=>EP (λ(d:Unit->Prop)=>A5 (a0.Kind==4) (JD a0.Length 8192 λO=>A5 (!O) (Q 3) (d ())) (A5 (a0.Kind==1) (d ()) (A5 (a0.Kind==2) (d ()) (J ())))) λ_=>JD a0.Source (A4 (a0.N - 1)) λh=>A5 (!h) (Q 3) (J ())) λ_=>A5 (decide (65536<(a0.Draws.length:Int))) (Q 5) (BG a0.Draws λD=>A5 D (Q 7) (Q 0)))))
def OC (a0:B0) (Q:(B0×Bool)->Prop):Prop:=
 Q (({ a0 with W:=1 }:B0),true)
def TT (a0:Graph) (Q:Graph->Prop):Prop:=
 B4 (λ(s:(List B0)×Int) next114=>match s with | (s108,s112)=>A5 (decide (s112<(a0.Edges.length:Int))) (AR a0.Edges s112 λh=>OC h λd=>A5 d.2 (DW 24 s108 ([d.1]) λ_=>next114 ((s108++([d.1])),A4 (s112+1))) (next114 (s108,A4 (s112+1)))) (FT ({ N:=a0.N,Edges:=s108 }:Graph) λD=>Q D)) (([]:List B0),0)
def NR (a0:Graph) (Q:Graph->Prop):Prop:=
 TT a0 λd=>Q d
def XD (a0:Int) (a1:Int) (Q:Rows->Prop):Prop:=
 mkP 8 (A4 (a0+1)) 0 λ_=>Q ({ Rows:=a0,Cols:=a1,Start:=(List.replicate (A4 (a0+1)).toNat 0),Col:=([]:List Int),Val:=([]:List Int) }:Rows)
def T8 (a0:Int) (a1:Int) (V:List A2) (Q:Rows->Prop):Prop:=
 XD a0 a1 λh=>B4 (λ(s:(List Int)×(List Int)×(List Int)×Int) next420=>match s with | (s407,s411,s415,s419)=>A5 (decide (s419<(V.length:Int))) (AR V s419 λd=>AR s407 (A4 (d.Row+1)) λO=>AR s407 (A4 (d.Row+1)) λU=>DW 8 s411 ([d.Col]) λ_=>DW 8 s415 ([d.Val]) λ_=>next420 ((s407.set ((A4 (d.Row+1)).toNat) (A4 (O+1))),(s411++([d.Col])),(s415++([d.Val])),A4 (s419+1))) (B4 (λ(s:(List Int)×Int) next528=>match s with | (s523,s527)=>A5 (decide (s527<a0)) (AR s523 (A4 (s527+1)) λJ=>AR s523 s527 λD=>AR s523 (A4 (s527+1)) λW=>next528 ((s523.set ((A4 (s527+1)).toNat) (A4 (J+D))),A4 (s527+1))) (Q ({ h with Start:=s523,Col:=s411,Val:=s415 }:Rows))) (s407,0))) (h.Start,h.Col,h.Val,0)
def PF (a0:Graph) (Q:(Rows×Int)->Prop):Prop:=
 L8 a0 λJ=>A5 (J != 0) (Q (RY,J)) (PC a0 λh=>B4 (λ(s:(List A2)×Int) next134=>match s with | (s128,s132)=>A5 (decide (s132<(h.Edges.length:Int))) (AR h.Edges s132 λd=>DW 24 s128 ([({ Row:=d.From,Col:=d.To,Val:=d.W }:A2)]) λ_=>next134 ((s128++([({ Row:=d.From,Col:=d.To,Val:=d.W }:A2)])),A4 (s132+1))) (T8 a0.N a0.N s128 λD=>Q (D,0))) (([]:List A2),0))
def RC (a0:Plan) (a1:Graph) (Q:(Rows×Int)->Prop):Prop:=
 PE a0 λU=>A5 (U != 0) (Q (RY,U)) (A5 (a1.N != a0.N) (Q (RY,4)) (L8 a1 λO=>A5 (O != 0) (Q (RY,O)) (A5 (a0.Kind==5) (SP a1 λr61=>TR r61 λr71=>NR r71 λr82=>PF r82 λV=>Q (V.1,V.2)) (A5 (a0.Kind==3) (TR a1 λW=>NR W λZ=>PF Z λD=>Q (D.1,D.2)) (A5 (a0.Kind==1) (NR a1 λJ=>PF J λh=>Q (h.1,h.2)) (PF a1 λd=>Q (d.1,d.2)))))))
def VQ (a0:Plan) (a1:Graph) (h:Int) (Q:Int->Prop):Prop:=
 RC a0 a1 λd=>A5 (d.2 != 0) (Q d.2) (A5 (decide (h<0)) (Q 3) (A5 (decide (8192<h)) (Q 3) (Q 0)))
def JM (a0:JB) (Q:Int->Prop):Prop:=
 VQ a0.Plan a0.Graph a0.Limit λh=>A5 (h != 0) (Q h) (EP (λ(d:Bool->Prop)=>II a0.R 8 λJ=>A5 (!J) (d (!J)) (II a0.C 8 λD=>A5 (!D) (d (!D)) (II a0.Room 64 λO=>d (!O)))) λU=>A5 U (False) (A5 (decide (8192<(a0.Choices.length:Int))) (False) (Q 0)))
def tJ (a0:tI) (Q:Bool->Prop):Prop:=
 JC a0.A 63 λD=>A5 (!D) (Q false) (JC a0.B 63 λd=>A5 (!d) (Q false) (JC a0.K 63 λh=>A5 (!h) (Q false) (A5 (decide (0<a0.Kind)) (Q (decide (a0.Kind<=5))) (Q false))))
def XE (a0:tI) (Q:Bool->Prop):Prop:=
 tJ a0 λd=>Q (!d)
def DP (a0:List tI) (Q:Int->Prop):Prop:=
 B4 (λ(d:Int) next46=>A5 (decide (d<(a0.length:Int))) (AR a0 d λh=>XE h λD=>A5 D (Q d) (next46 (A4 (d+1)))) (Q (-1))) 0
def CK (a0:List tI) (Q:Bool->Prop):Prop:=
 DP a0 λd=>Q (decide (0<=d))
def iH (a0:JB) (a1:List tI) (J:Int) (Q:Int->Prop):Prop:=
 JM a0 λd=>A5 (d != 0) (Q d) (A5 (decide (1048576<(a1.length:Int))) (False) (CK a1 λh=>A5 h (False) (JC J 1048576 λD=>A5 (!D) (False) (Q 0))))
def D5 (a0:List HY) (Q:(List HY)->Prop):Prop:=
 AdD a0 (Q ([]:List HY)) (DW 16 ([]:List HY) a0 λ_=>Q (([]:List HY)++a0))
def NG (a0:Int) (a1:Int) (Q:Bool->Prop):Prop:=
 A5 (decide (0<=a0)) (Q (decide (a0<=a1))) (Q false)
def SQ (a0:Int) (a1:Int) (Q:Bool->Prop):Prop:=
 HZ a0 λh=>A5 h (HZ a1 λd=>A5 (!d) (Q true) (Q (decide (a0<a1)))) (Q (decide (a0<a1)))
def G4 (a0:List Int) (Q:Bool->Prop):Prop:=
 B4 (λ(d:Int) next58=>A5 (decide (0<d)) (AR a0 d λJ=>AR a0 (A4 (d - 1)) λD=>SQ J D λh=>A5 h (Q false) (next58 (A4 (d - 1)))) (Q true)) (A4 ((a0.length:Int) - 1))
def rU (a0:List Int) (a1:Int) (Q:Bool->Prop):Prop:=
 B4 (λ(d:Int) next69=>A5 (decide (d<(a0.length:Int))) (AR a0 d λh=>NG h (A4 (a1 - 1)) λD=>A5 (!D) (Q false) (A5 (decide (0<d)) (AR a0 (A4 (d - 1)) λJ=>A5 (decide (h<=J)) (Q false) (next69 (A4 (d+1)))) (next69 (A4 (d+1))))) (Q true)) 0
def PG (a0:Rows) (Q:Bool->Prop):Prop:=
 NG a0.Rows 4096 λO=>A5 (!O) (Q false) (NG a0.Cols 4096 λZ=>A5 (!Z) (Q false) (A5 ((a0.Start.length:Int) != (A4 (a0.Rows+1))) (Q false) (A5 ((a0.Val.length:Int) != (a0.Col.length:Int)) (Q false) (A5 (decide (65536<(a0.Col.length:Int))) (Q false) (AR a0.Start 0 λV=>A5 (V != 0) (Q false) (AR a0.Start a0.Rows λU=>A5 (U != (a0.Col.length:Int)) (Q false) (G4 a0.Start λW=>A5 (!W) (Q false) (B4 (λ(d:Int) next157=>A5 (decide (d<a0.Rows)) (AR a0.Start d λD=>AR a0.Start (A4 (d+1)) λh=>slP a0.Col D h λ_=>rU ((a0.Col.take h.toNat).drop D.toNat) a0.Cols λJ=>A5 (!J) (Q false) (next157 (A4 (d+1)))) (Q true)) 0))))))))
def TU (a0:Int) (Q:Bool->Prop):Prop:=
 A5 (decide (1<=a0)) (Q (decide (a0<=8))) (Q false)
def PH (a0:Int) (a1:Int) (h:Int) (d:Int) (Q:Bool->Prop):Prop:=
 TU a0 λJ=>A5 J (TU a1 λD=>A5 D (A5 (decide (0<=h)) (A5 (decide (h<a0)) (A5 (decide (0<=d)) (Q (decide (d<a1))) (Q false)) (Q false)) (Q false)) (Q false)) (Q false)
def RE (a0:Rows) (Q:Rows->Prop):Prop:=
 PG a0 λh=>A5 h (Q a0) (XD 0 0 λd=>Q d)
def TV (a0:Int×Int) (a1:Int) (Q:(Int×Int)->Prop):Prop:=
 A5 (decide ((if a1<a0.2 then a1 else a0.2)<=(if 0 > a0.1 then 0 else a0.1))) (Q ((if 0 > a0.1 then 0 else a0.1),0)) (Q ((if 0 > a0.1 then 0 else a0.1),A4 ((if a1<a0.2 then a1 else a0.2) - (if 0 > a0.1 then 0 else a0.1))))
def bB (a0:Rows) (a1:Int) (Q:((List Int)×(List Int))->Prop):Prop:=
 AR a0.Start a1 λd=>AR a0.Start (A4 (a1+1)) λh=>slP a0.Col d h λ_=>slP a0.Val d h λ_=>Q (((a0.Col.take h.toNat).drop d.toNat),((a0.Val.take h.toNat).drop d.toNat))
def rV (a0:Rows) (a1:Int) (Q:(List B9)->Prop):Prop:=
 RE a0 λJ=>NG a1 (A4 (J.Rows - 1)) λO=>A5 (!O) (Q ([]:List B9)) (bB J a1 λD=>B4 (λ(s:(List B9)×Int) next140=>match s with | (s134,s138)=>A5 (decide (s138<(D.1.length:Int))) (AR D.1 s138 λh=>AR D.2 s138 λd=>DW 16 s134 ([({ At:=h,Val:=d }:B9)]) λ_=>next140 ((s134++([({ At:=h,Val:=d }:B9)])),A4 (s138+1))) (Q s134)) (([]:List B9),0))
def VR (a0:Rows) (a1:Int×Int) (Z:Int×Int) (Q:Rows->Prop):Prop:=
 RE a0 λU=>TV a1 U.Rows λO=>TV Z U.Cols λh=>B4 (λ(s:(List A2)×Int) next418=>match s with | (s412,s416)=>A5 (decide (s416<O.2)) (rV U (A4 (O.1+s416)) λD=>B4 (λ(s:(List A2)×Int) next548=>match s with | (s543,s547)=>A5 (decide (s547<(D.length:Int))) (AR D s547 λd=>EP (λ(J:Bool->Prop)=>A5 (decide (h.1<=d.At)) (J (decide ((A4 (d.At - h.1))<h.2))) (J false)) λW=>A5 W (DW 24 s543 ([({ Row:=s416,Col:=A4 (d.At - h.1),Val:=d.Val }:A2)]) λ_=>next548 ((s543++([({ Row:=s416,Col:=A4 (d.At - h.1),Val:=d.Val }:A2)])),A4 (s547+1))) (next548 (s543,A4 (s547+1)))) (next418 (s543,A4 (s416+1)))) (s412,0)) (T8 O.2 h.2 s412 λV=>Q V)) (([]:List A2),0)
def PI (a0:Int) (Q:Bool->Prop):Prop:=
 A5 (decide (0<a0)) (Q (decide (a0<=8))) (Q false)
def kP (a0:Int) (a1:Int) (Q:Bool->Prop):Prop:=
 A5 (decide (0<=a0)) (A5 (decide (a0<=4096)) (PI a1 λd=>Q d) (Q false)) (Q false)
def IJ (a0:Int) (a1:Int) (d:Int) (Q:Int->Prop):Prop:=
 kP a0 a1 λh=>A5 (!h) (Q 0) (nzP a1 <| Q (A4 ((A4 ((if a1<(if 0 > d then 0 else d) then a1 else (if 0 > d then 0 else d))*a0)).tdiv a1)))
def GP (a0:Int) (a1:Int) (d:Int) (Q:(Int×Int)->Prop):Prop:=
 IJ a0 a1 d λh=>IJ a0 a1 (A4 (d+1)) λD=>Q (h,D)
def dO (a0:Rows) (a1:Int) (Z:Int) (W:Int) (a4:Int) (Q:Rows->Prop):Prop:=
 PG a0 λJ=>A5 (!J) (VR RY (0,0) (0,0) λV=>Q V) (PH a1 Z W a4 λd=>A5 (!d) (VR RY (0,0) (0,0) λh=>Q h) (GP a0.Rows a1 W λD=>GP a0.Cols Z a4 λO=>VR a0 D O λU=>Q U))
def XF  (Q:BB->Prop):Prop:=
 Q ({ Rows:=0,Cols:=0,At:=([]:List Int),Start:=([0]:List Int),Row:=([]:List Int),Val:=([]:List Int) }:BB)
def RF (a0:Rows) (Q:(List A2)->Prop):Prop:=
 RE a0 λJ=>B4 (λ(s:(List A2)×Int) next371=>match s with | (s365,s369)=>A5 (decide (s369<J.Rows)) (bB J s369 λd=>B4 (λ(s:(List A2)×Int) next497=>match s with | (s492,s496)=>A5 (decide (s496<(d.1.length:Int))) (AR d.1 s496 λD=>AR d.2 s496 λh=>DW 24 s492 ([({ Row:=s369,Col:=D,Val:=h }:A2)]) λ_=>next497 ((s492++([({ Row:=s369,Col:=D,Val:=h }:A2)])),A4 (s496+1))) (next371 (s492,A4 (s369+1)))) (s365,0)) (Q s365)) (([]:List A2),0)
def dP (a0:A2) (a1:A2) (Q:Int->Prop):Prop:=
 CX a0.Row a1.Row λD=>CX a0.Col a1.Col λd=>JK ([D,d]:List Int) λh=>Q h
def kQ (a0:Rows) (Q:Rows->Prop):Prop:=
 RE a0 λh=>RF h λJ=>B4 (λ(s:(List A2)×Int) next202=>match s with | (s196,s201)=>A5 (decide (s201<(J.length:Int))) (AR s196 s201 λd=>AR s196 s201 λU=>next202 ((s196.set s201.toNat ({ Row:=d.Col,Col:=d.Row,Val:=d.Val }:A2)),A4 (s201+1))) (AdG dP s196 λO=>T8 h.Cols h.Rows O λD=>Q D)) (J,0)
def rW (a0:Rows) (Q:BB->Prop):Prop:=
 XF  λD=>PG a0 λr68=>A5 (!r68) (Q D) (kQ a0 λV=>RF V λO=>B4 (λ(s:(List Int)×(List Int)×(List Int)×(List Int)×Int) next591=>match s with | (s574,s578,s582,s586,s590)=>A5 (decide (s590<(O.length:Int))) (AR O s590 λd=>EP (λ(J:((List Int)×(List Int))->Prop)=>EP (λ(U:Bool->Prop)=>A5 ((s574.length:Int)==0) (U true) (AR s574 (A4 ((s574.length:Int) - 1)) λW=>U (W != d.Row))) λZ=>A5 Z (DW 8 s574 ([d.Row]) λ_=>DW 8 s578 ([0]) λ_=>J ((s574++([d.Row])),(s578++([0])))) (J (s574,s578))) λ(h,s713)=>DW 8 s582 ([d.Col]) λ_=>DW 8 s586 ([d.Val]) λ_=>AR s713 (h.length:Int) λx790=>next591 (h,(s713.set ((h.length:Int).toNat) ((s582++([d.Col])).length:Int)),(s582++([d.Col])),(s586++([d.Val])),A4 (s590+1))) (Q ({ a0 with At:=s574,Start:=s578,Row:=s582,Val:=s586 }:BB))) (D.At,D.Start,D.Row,D.Val,0))
def RG (a0:Int) (Q:Int->Prop):Prop:=
 Q (shr .i64 (A4 ((if 4096<(if 0 > a0 then 0 else a0) then 4096 else (if 0 > a0 then 0 else a0))+63)) 6)
def PJ (a0:Int) (Q:(List Int)->Prop):Prop:=
 RG a0 λd=>mkP 8 d 0 λ_=>Q (List.replicate d.toNat 0)
def OD (a0:List Int) (a1:Int) (Q:Bool->Prop):Prop:=
 A5 (decide (0<=a1)) (Q (decide ((shr .i64 a1 6)<(a0.length:Int)))) (Q false)
def XG (a0:Int) (Q:Int->Prop):Prop:=
 nnP (TI .u64 (IntKind.wrap .u64 (a0)) 63) <| Q (shl .u64 1 (TI .u64 (IntKind.wrap .u64 (a0)) 63))
def MQ (a0:Int) (a1:List Int) (Q:(List Int)->Prop):Prop:=
 PJ a0 λV=>B4 (λ(s:(List Int)×Int) next157=>match s with | (s152,s156)=>A5 (decide (s156<(a1.length:Int))) (AR a1 s156 λd=>EP (λ(h:Bool->Prop)=>A5 (decide (d<a0)) (OD s152 d λU=>h U) (h false)) λJ=>A5 J (AR s152 (shr .i64 d 6) λD=>XG d λO=>AR s152 (shr .i64 d 6) λW=>next157 ((s152.set ((shr .i64 d 6).toNat) (bor .u64 D O)),A4 (s156+1))) (next157 (s152,A4 (s156+1)))) (Q s152)) (V,0)
def YL (a0:Int) (Q:Int->Prop):Prop:=
 B4 (λ(s:Int×Int) next11=>match s with | (s9,s10)=>A5 (s9==0) (Q s10) (next11 (TI .u64 s9 (IntKind.wrap .u64 (s9 - 1)),A4 (s10+1)))) (a0,0)
def RH (a0:List Int) (Q:Int->Prop):Prop:=
 B4 (λ(s:Int×Int) next42=>match s with | (s40,s41)=>A5 (decide (s41<(a0.length:Int))) (AR a0 s41 λd=>YL d λh=>next42 (A4 (s40+h),A4 (s41+1))) (Q s40)) (0,0)
def L9 (a0:List Int) (Q:(List Int)->Prop):Prop:=
 Q a0
def PK (o0:Nat) (o1:Int) (o2:Int) (o3:List Int) (Y:Nat->Int->Int->Int->((Bool×Nat×Int)->Prop)->Prop) (Q:(Nat×Int)->Prop):Prop:=
 B4 (λ(s:Int×Int×Nat) next193=>match s with | (s190,s191,s192)=>A5 (decide (s191<(o3.length:Int))) (AR o3 s191 λh=>B4 (λ(s:Int×Int×Int×Nat) next262=>match s with | (s258,s259,s260,s261)=>A5 (s259 != 0) (A5 ((TI .u64 s259 1)==1) (Y s261 o1 s258 s260 λd=>A5 (!d.1) (Q (d.2.1,d.2.2)) (next262 (d.2.2,shr .u64 s259 1,A4 (s260+1),d.2.1))) (next262 (s258,shr .u64 s259 1,A4 (s260+1),s261))) (next193 (s258,A4 (s191+1),s261))) (s190,h,shl .i64 s191 6,s192)) (Q (s192,s190))) (o2,0,o0)
def PL (a0:List Int) (a1:Int) (Q:Int->Prop):Prop:=
 L9 a0 λJ=>PK 0 a1 0 J (λ(D:Nat) (O:Int) (U:Int) (h:Int) (V:(Bool×Nat×Int)->Prop)=>eqP D 0 (A5 (decide (O<=h)) (V (false,1,h)) (V (true,0,U)))) λd=>A5 (decide (d.1=0)) (Q (-1)) (eqP d.1 1 (Q d.2))
def RJ (a0:List Int) (a1:Int) (Q:Bool->Prop):Prop:=
 A5 (decide (0<=a1)) (A5 (decide (a1<=4096)) (RG a1 λh=>A5 ((a0.length:Int)==h) (PL a0 a1 λd=>Q (decide (d<0))) (Q false)) (Q false)) (Q false)
def tK (a0:Plan) (a1:State) (Q:Bool->Prop):Prop:=
 PE a0 λd=>A5 (d != 0) (Q false) (A5 (decide (a1.Low<0)) (Q false) (A5 (decide (a1.High<a1.Low)) (Q false) (A5 (decide (a0.N<a1.High)) (Q false) (A5 ((a1.A.length:Int)==(A4 (a1.High - a1.Low))) (A5 ((a1.B.length:Int)==(A4 (a1.High - a1.Low))) (RJ a1.On (A4 (a1.High - a1.Low)) λh=>Q h) (Q false)) (Q false)))))
def PM (a0:Plan) (a1:State) (Q:State->Prop):Prop:=
 tK a0 a1 λd=>A5 d (Q a1) (Q G3)
def dQ (a0:Plan) (a1:State) (O:Int) (Q:Int->Prop):Prop:=
 PM a0 a1 λd=>A5 (a0.Kind==4) (A5 (decide (a0.Length<=O)) (Q 0) (RH d.On λh=>Q h)) (A5 (a0.Kind==5) (B4 (λ(s:Int×Int) next71=>match s with | (s69,s70)=>A5 (decide (s70<(d.A.length:Int))) (AR d.A s70 λJ=>A5 (J==0) (next71 (A4 (s69+1),A4 (s70+1))) (next71 (s69,A4 (s70+1)))) (Q s69)) (0,0)) (RH d.On λD=>Q D))
def iI (a0:Int) (a1:Int) (d:Int) (Q:Int->Prop):Prop:=
 PI a0 λh=>A5 (!h) (Q (-1)) (A5 (decide (a1<0)) (Q (-1)) (A5 (decide (8<=a1)) (Q (-1)) (A5 (decide (d<0)) (Q (-1)) (A5 (decide (a0<=d)) (Q (-1)) (Q (A4 ((A4 (a1*a0))+d)))))))
def XH (a0:Int) (a1:Int) (Q:Int->Prop):Prop:=
 PI a0 λd=>A5 (!d) (Q (-1)) (A5 (decide (a1<0)) (Q (-1)) (A5 (decide ((A4 (a0*8))<=a1)) (Q (-1)) (nzP a0 <| Q (A4 (a1.tdiv a0)))))
def TX (a0:Int) (a1:Int) (Q:Int->Prop):Prop:=
 XH a0 a1 λd=>A5 (decide (d<0)) (Q (-1)) (nzP a0 <| Q (a1.tmod a0))
def C0 (a0:List Int) (Q:(List Int)->Prop):Prop:=
 AdD a0 (Q ([]:List Int)) (DW 8 ([]:List Int) a0 λ_=>Q (([]:List Int)++a0))
def PN (o0:Nat) (o1:List Int) (o2:List Int) (Y:Nat->(List Int)->Int->((Bool×Nat×(List Int))->Prop)->Prop) (Q:(Nat×(List Int))->Prop):Prop:=
 B4 (λ(s:(List Int)×Int×Nat) next257=>match s with | (s251,s255,s256)=>A5 (decide (s255<(o2.length:Int))) (AR o2 s255 λh=>B4 (λ(s:(List Int)×Int×Int×Nat) next346=>match s with | (s339,s343,s344,s345)=>A5 (s343 != 0) (A5 ((TI .u64 s343 1)==1) (Y s345 s339 s344 λd=>A5 (!d.1) (Q (d.2.1,d.2.2)) (next346 (d.2.2,shr .u64 s343 1,A4 (s344+1),d.2.1))) (next346 (s339,shr .u64 s343 1,A4 (s344+1),s345))) (next257 (s339,A4 (s255+1),s345))) (s251,h,shl .i64 s255 6,s256)) (Q (s256,s251))) (o1,0,o0)
def GF (o0:List Int) (Q:(List Int)->Prop):Prop:=
 PN 0 ([]:List Int) o0 (λ(J:Nat) (h:List Int) (D:Int) (O:(Bool×Nat×(List Int))->Prop)=>eqP J 0 (DW 8 h ([D]) λ_=>O (true,0,(h++([D]))))) λd=>eqP d.1 0 (Q d.2)
def JO (o0:List Int) (Q:(List Int)->Prop):Prop:=
 GF o0 λd=>Q d
def YM (a0:List Int) (Q:(List Int)->Prop):Prop:=
 L9 a0 λh=>JO h λd=>Q d
def B3 (a0:List B9) (Q:(List B9)->Prop):Prop:=
 AdD a0 (Q ([]:List B9)) (DW 16 ([]:List B9) a0 λ_=>Q (([]:List B9)++a0))
def D9 (a0:List BM) (Q:(List BM)->Prop):Prop:=
 AdD a0 (Q ([]:List BM)) (DW 24 ([]:List BM) a0 λ_=>Q (([]:List BM)++a0))
def YN (a0:AK) (Q:AK->Prop):Prop:=
 B3 a0.Vec.Items λd=>D9 a0.Sums λh=>Q ({ a0 with Vec:=({ N:=a0.Vec.N,Items:=d }:Vec),Sums:=h }:AK)
def D6 (a0:List A2) (Q:(List A2)->Prop):Prop:=
 AdD a0 (Q ([]:List A2)) (DW 24 ([]:List A2) a0 λ_=>Q (([]:List A2)++a0))
def bD (a0:AK) (Q:AK->Prop):Prop:=
 B3 a0.Vec.Items λd=>D9 a0.Sums λD=>D6 a0.Triples λh=>Q ({ a0 with Vec:=({ N:=a0.Vec.N,Items:=d }:Vec),Sums:=D,Triples:=h }:AK)
def SR (a0:Int) (a1:Int) (Q:Bool->Prop):Prop:=
 A5 (decide (0<=a0)) (Q (decide (a0<=a1))) (Q false)
def OE (o0:Int) (o1:Vec) (a0:B9) (Q:(Bool×Int)->Prop):Prop:=
 A5 (decide (a0.At<=o0)) (Q (true,a0.At)) (Q (decide (o1.N<=a0.At),a0.At))
def DQ (o0:Int) (o1:Vec) (a0:List B9) (Q:(Int×Int)->Prop):Prop:=
 B4 (λ(s:Int×Int) next61=>match s with | (s59,s60)=>A5 (decide (s60<(a0.length:Int))) (AR a0 s60 λh=>OE s59 o1 h λd=>A5 d.1 (Q (s60,d.2)) (next61 (d.2,A4 (s60+1)))) (Q ((-1),s59))) (o0,0)
def DA (o0:Int) (o1:Vec) (a0:List B9) (Q:(Bool×Int)->Prop):Prop:=
 DQ o0 o1 a0 λd=>Q (decide (0<=d.1),d.2)
def FA (a0:Vec) (Q:Bool->Prop):Prop:=
 SR a0.N 4096 λh=>A5 (!h) (Q false) (DA (-1) a0 a0.Items λd=>Q (!d.1))
def MR (a0:AK) (a1:Int) (Q:(Vec×Bool)->Prop):Prop:=
 B3 a0.Vec.Items λd=>FA ({ N:=a0.Vec.N,Items:=d }:Vec) λh=>A5 h (Q (({ N:=a0.Vec.N,Items:=d }:Vec),a0.Vec.N==a1)) (Q (({ N:=a0.Vec.N,Items:=d }:Vec),false))
def OG (a0:Int) (Q:Bool->Prop):Prop:=
 A5 (decide (0<=a0)) (Q (decide (a0<=4096))) (Q false)
def LA (a0:Vec) (Q:Vec->Prop):Prop:=
 FA a0 λd=>A5 d (Q a0) (Q CL)
def PO (o0:Int) (a0:B9) (Q:B9->Prop):Prop:=
 Q ({ At:=A4 (o0+a0.At),Val:=a0.Val }:B9)
def OH (o0:Int) (a0:Vec) (Q:Vec->Prop):Prop:=
 LA a0 λD=>B3 D.Items λJ=>B4 (λ(s:(List B9)×Int) next126=>match s with | (s120,s125)=>A5 (decide (s125<(J.length:Int))) (AR s120 s125 λd=>PO o0 d λh=>AR s120 s125 λO=>next126 ((s120.set s125.toNat h),A4 (s125+1))) (Q ({ N:=D.N,Items:=s120 }:Vec))) (J,0)
def YO (a0:List Vec) (Q:(Vec×Int)->Prop):Prop:=
 B4 (λ(s:Int×(List B9)×Int) next161=>match s with | (s154,s155,s159)=>A5 (decide (s159<(a0.length:Int))) (AR a0 s159 λh=>OH s154 h λd=>A5 (decide ((A4 (4096 - s154))<d.N)) (Q (CL,5)) (DW 16 s155 d.Items λ_=>next161 (A4 (s154+d.N),(s155++d.Items),A4 (s159+1)))) (Q (({ N:=s154,Items:=s155 }:Vec),0))) (0,([]:List B9),0)
def T9 (a0:Int) (a1:Int) (Q:Int->Prop):Prop:=
 A5 (a0==2) (Q 1) (A5 (a0==4) (Q 5) (A5 (a0==5) (A5 ((TI .i64 a1 1)==0) (Q 2) (Q 4)) (A5 (a0==1) (Q 4) (A5 (a0==3) (Q 4) (Q 0)))))
def SS (a0:Int) (a1:Int) (d:Int) (Q:Int->Prop):Prop:=
 A5 (a0==1) (Q a0) (A5 (a0==2) (Q a0) (A5 (decide ((A4 (d.tdiv 8))<a1)) (Q 2) (Q 1)))
def PP (a0:Int) (Q:Dense->Prop):Prop:=
 A5 (decide (a0<0)) (mkP 8 0 0 λ_=>PJ 0 λd=>Q ({ N:=0,Has:=d,Vals:=(List.replicate (Int.toNat 0) (0:Int)) }:Dense)) (A5 (decide (4096<a0)) (mkP 8 0 0 λ_=>PJ 0 λD=>Q ({ N:=0,Has:=D,Vals:=(List.replicate (Int.toNat 0) (0:Int)) }:Dense)) (mkP 8 a0 0 λ_=>PJ a0 λh=>Q ({ N:=a0,Has:=h,Vals:=(List.replicate a0.toNat (0:Int)) }:Dense)))
def OI (a0:Vec) (Q:(List Int)->Prop):Prop:=
 LA a0 λh=>B4 (λ(s:(List Int)×Int) next91=>match s with | (s85,s89)=>A5 (decide (s89<(h.Items.length:Int))) (AR h.Items s89 λd=>DW 8 s85 ([d.At]) λ_=>next91 ((s85++([d.At])),A4 (s89+1))) (Q s85)) (([]:List Int),0)
def bE (a0:Vec) (Q:Dense->Prop):Prop:=
 FA a0 λU=>A5 (!U) (PP 0 λO=>Q O) (PP a0.N λJ=>B4 (λ(s:(List Int)×Int) next222=>match s with | (s217,s221)=>A5 (decide (s221<(a0.Items.length:Int))) (AR a0.Items s221 λd=>AR s217 d.At λV=>next222 ((s217.set d.At.toNat d.Val),A4 (s221+1))) (OI a0 λh=>MQ a0.N h λD=>Q ({ N:=J.N,Has:=D,Vals:=s217 }:Dense))) (J.Vals,0))
def VS (a0:Int) (a1:Vec) (Q:iF->Prop):Prop:=
 EP (λ(h:(Int×(List B9))->Prop)=>FA a1 λO=>A5 (!O) (h (0,([]:List B9))) (h (a1.N,a1.Items))) λ(d,s25)=>SS a0 (s25.length:Int) d λU=>A5 (U==2) (bE ({ N:=d,Items:=s25 }:Vec) λJ=>Q ({ Form:=2,Vec:=CL,Dense:=J }:iF)) (B3 s25 λD=>Q ({ Form:=1,Vec:=({ N:=d,Items:=D }:Vec),Dense:=({ N:=0,Has:=([]:List Int),Vals:=([]:List Int) }:Dense) }:iF))
def LZ (a0:Int) (a1:Int) (d:Int) (Q:Int->Prop):Prop:=
 A5 (a0==1) (Q a0) (A5 (a0==2) (Q a0) (A5 (decide ((A4 (d.tdiv 4))<a1)) (Q 2) (Q 1)))
def NS (a0:Int) (a1:Int) (Q:Bool->Prop):Prop:=
 A5 (decide (0<=a0)) (Q (decide (a0<=a1))) (Q false)
def NT (a0:List Int) (a1:Int) (Q:Bool->Prop):Prop:=
 B4 (λ(d:Int) next69=>A5 (decide (d<(a0.length:Int))) (AR a0 d λh=>NS h (A4 (a1 - 1)) λD=>A5 (!D) (Q false) (A5 (decide (0<d)) (AR a0 (A4 (d - 1)) λJ=>A5 (decide (h<=J)) (Q false) (next69 (A4 (d+1)))) (next69 (A4 (d+1))))) (Q true)) 0
def TY (a0:BB) (Q:Bool->Prop):Prop:=
 NS a0.Rows 4096 λU=>A5 (!U) (Q false) (NS a0.Cols 4096 λZ=>A5 (!Z) (Q false) (A5 ((a0.Start.length:Int) != (A4 ((a0.At.length:Int)+1))) (Q false) (A5 ((a0.Val.length:Int) != (a0.Row.length:Int)) (Q false) (A5 (decide (65536<(a0.Row.length:Int))) (Q false) (NT a0.At a0.Cols λO=>A5 (!O) (Q false) (NT a0.Start (A4 ((a0.Row.length:Int)+1)) λV=>A5 (!V) (Q false) (AR a0.Start 0 λx74=>A5 (x74 != 0) (Q false) (AR a0.Start (a0.At.length:Int) λW=>A5 (W != (a0.Row.length:Int)) (Q false) (B4 (λ(d:Int) next167=>A5 (decide (d<(a0.At.length:Int))) (AR a0.Start d λD=>AR a0.Start (A4 (d+1)) λh=>slP a0.Row D h λ_=>NT ((a0.Row.take h.toNat).drop D.toNat) a0.Rows λJ=>A5 (!J) (Q false) (next167 (A4 (d+1)))) (Q true)) 0)))))))))
def XI (a0:BB) (Q:BB->Prop):Prop:=
 TY a0 λh=>A5 h (Q a0) (XF  λd=>Q d)
def TZ (a0:BB) (a1:Int) (Q:Int->Prop):Prop:=
 EP (λ(h:(Int×Int)->Prop)=>B4 (λ(s:Int×Int) next288=>match s with | (s286,s287)=>A5 (decide (s286<s287)) (AR a0.At (A4 (s286+(A4 ((A4 (s287 - s286)).tdiv 2)))) λJ=>A5 (J==a1) (h (A4 (s286+(A4 ((A4 (s287 - s286)).tdiv 2))),s287)) (AR a0.At (A4 (s286+(A4 ((A4 (s287 - s286)).tdiv 2)))) λD=>A5 (decide (D<a1)) (next288 (A4 ((A4 (s286+(A4 ((A4 (s287 - s286)).tdiv 2))))+1),s287)) (next288 (s286,A4 (s286+(A4 ((A4 (s287 - s286)).tdiv 2))))))) (h (s286,s287))) (0,(a0.At.length:Int))) λ(d,s216)=>A5 (decide (d<s216)) (Q d) (Q (-1))
def dR (a0:BB) (a1:List Int) (Q:Int->Prop):Prop:=
 XI a0 λh=>B4 (λ(s:Int×Int) next130=>match s with | (s128,s129)=>A5 (decide (s129<(a1.length:Int))) (AR a1 s129 λJ=>TZ h J λd=>A5 (decide (0<=d)) (AR h.Start (A4 (d+1)) λD=>AR h.Start d λO=>next130 (A4 (s128+(A4 (D - O))),A4 (s129+1))) (next130 (s128,A4 (s129+1)))) (Q s128)) (0,0)
def dS (a0:BB) (a1:Vec) (Q:Int->Prop):Prop:=
 OI a1 λh=>dR a0 h λd=>Q d
def M0 (a0:List Int) (a1:Int) (Q:Bool->Prop):Prop:=
 OD a0 a1 λD=>A5 D (AR a0 (shr .i64 a1 6) λh=>XG a1 λd=>Q ((TI .u64 h d) != 0)) (Q false)
def RK (a0:Dense) (Q:Bool->Prop):Prop:=
 RJ a0.Has a0.N λh=>A5 (!h) (Q false) (A5 ((a0.Vals.length:Int) != a0.N) (Q false) (B4 (λ(d:Int) next75=>A5 (decide (d<(a0.Vals.length:Int))) (AR a0.Vals d λD=>A5 (D != 0) (M0 a0.Has d λJ=>A5 (!J) (Q false) (next75 (A4 (d+1)))) (next75 (A4 (d+1)))) (Q true)) 0))
def iJ (a0:Dense) (Q:Dense->Prop):Prop:=
 RK a0 λh=>A5 h (Q a0) (PP 0 λd=>Q d)
def WQ (a0:Dense) (Q:Dense->Prop):Prop:=
 Q a0
def S0 (o0:Nat) (o1:Vec) (o2:Dense) (Y:Nat->Vec->Int->Int->((Bool×Nat×Vec)->Prop)->Prop) (Q:(Nat×Vec)->Prop):Prop:=
 PL o2.Has 0 λJ=>B4 (λ(s:Int×(List B9)×Int×Nat) next117=>match s with | (s110,s111,s115,s116)=>A5 (decide (0<=s115)) (AR o2.Vals s115 λD=>Y s116 ({ N:=s110,Items:=s111 }:Vec) s115 D λd=>A5 (!d.1) (Q (d.2.1,d.2.2)) (PL o2.Has (A4 (s115+1)) λh=>next117 (d.2.2.N,d.2.2.Items,h,d.2.1))) (Q (s116,({ N:=s110,Items:=s111 }:Vec)))) (o1.N,o1.Items,J,o0)
def YP (a0:Dense) (Q:Vec->Prop):Prop:=
 iJ a0 λJ=>WQ J λU=>S0 0 ({ N:=J.N,Items:=([]:List B9) }:Vec) U (λ(V:Nat) (D:Vec) (O:Int) (h:Int) (W:(Bool×Nat×Vec)->Prop)=>eqP V 0 (DW 16 D.Items ([({ At:=O,Val:=h }:B9)]) λ_=>W (true,0,({ N:=D.N,Items:=(D.Items++([({ At:=O,Val:=h }:B9)])) }:Vec)))) λd=>eqP d.1 0 (Q d.2)
def PQ (a0:iF) (Q:Vec->Prop):Prop:=
 A5 (a0.Form==2) (YP a0.Dense λh=>Q h) (EP (λ(d:Bool->Prop)=>A5 (a0.Form==1) (FA a0.Vec λO=>d O) (d false)) λD=>A5 D (B3 a0.Vec.Items λJ=>Q ({ N:=a0.Vec.N,Items:=J }:Vec)) (Q CL))
def dU (a0:Rows) (Q:Int->Prop):Prop:=
 RE a0 λd=>Q (d.Col.length:Int)
def YQ (a0:List BM) (Q:Bool->Prop):Prop:=
 B4 (λ(d:Int) next32=>A5 (decide (d<(a0.length:Int))) (A5 (decide (0<d)) (AR a0 (A4 (d - 1)) λD=>AR a0 d λh=>A5 (decide (h.At<=D.At)) (Q false) (next32 (A4 (d+1)))) (next32 (A4 (d+1)))) (Q true)) 0
def OJ (a0:List B8) (Q:Int->Prop):Prop:=
 Q (a0.length:Int)
def PR (a0:List BM) (Q:Bool->Prop):Prop:=
 YQ a0 λd=>Q (!d)
def E7 (a0:List (List BM)) (Q:Int->Prop):Prop:=
 B4 (λ(d:Int) next52=>A5 (decide (d<(a0.length:Int))) (AR a0 d λh=>PR h λD=>A5 D (Q d) (next52 (A4 (d+1)))) (Q (-1))) 0
def CM (a0:List (List BM)) (Q:Bool->Prop):Prop:=
 E7 a0 λd=>Q (decide (0<=d))
def MI (o0:AF) (a0:B8) (Q:AF->Prop):Prop:=
 DW 32 o0.heads ([a0]) λ_=>Q ({ o0 with heads:=(o0.heads++([a0])) }:AF)
def H4 (o0:List B8) (Q:Int->Prop):Prop:=
 Q (o0.length:Int)
def F6 (o0:List B8) (a0:Int) (a1:Int) (Q:Bool->Prop):Prop:=
 AR o0 a0 λW=>AR W.l 0 λx20=>AR o0 a1 λd=>AR d.l 0 λD=>AR o0 a0 λJ=>AR o0 a1 λU=>CX x20.At D.At λh=>CX J.which U.which λO=>JK ([h,O]:List Int) λV=>Q (decide (V<0))
def F7 (o0:List B8) (a0:Int) (a1:Int) (Q:(List B8)->Prop):Prop:=
 AR o0 a1 λd=>AR o0 a0 λx20=>AR o0 a0 λh=>AR (o0.set a0.toNat d) a1 λD=>Q ((o0.set a0.toNat d).set a1.toNat x20)
def FF (o0:AF) (a0:Int) (Q:AF->Prop):Prop:=
 B4 (λ(s:(List B8)×Int) next61=>match s with | (s59,s60)=>A5 ((A4 ((A4 (s60 - 1)).tdiv 2))==s60) (Q ({ o0 with heads:=s59 }:AF)) (F6 s59 s60 (A4 ((A4 (s60 - 1)).tdiv 2)) λh=>A5 (!h) (Q ({ o0 with heads:=s59 }:AF)) (F7 s59 (A4 ((A4 (s60 - 1)).tdiv 2)) s60 λd=>next61 (d,A4 ((A4 (s60 - 1)).tdiv 2))))) (o0.heads,a0)
def IK (o0:AF) (a0:B8) (Q:AF->Prop):Prop:=
 MI o0 a0 λd=>H4 d.heads λD=>FF d (A4 (D - 1)) λh=>Q h
def GJ (o0:AF) (a0:List BM) (a1:Int) (Q:AF->Prop):Prop:=
 A5 (decide (0<(a0.length:Int))) (IK o0 ({ l:=a0,which:=a1 }:B8) λd=>Q d) (Q o0)
def G5 (o0:AF) (a0:Int) (a1:Int) (Q:(Bool×AF)->Prop):Prop:=
 B4 (λ(s:(List B8)×Int) next131=>match s with | (s129,s130)=>A5 (decide (a1<=(A4 ((A4 (2*s130))+1)))) (Q (decide (a0<s130),({ o0 with heads:=s129 }:AF))) (A5 (decide ((A4 ((A4 (2*s130))+1))<0)) (Q (decide (a0<s130),({ o0 with heads:=s129 }:AF))) (EP (λ(h:Int->Prop)=>A5 (decide ((A4 ((A4 ((A4 (2*s130))+1))+1))<a1)) (F6 s129 (A4 ((A4 ((A4 (2*s130))+1))+1)) (A4 ((A4 (2*s130))+1)) λO=>A5 O (h (A4 ((A4 ((A4 (2*s130))+1))+1))) (h (A4 ((A4 (2*s130))+1)))) (h (A4 ((A4 (2*s130))+1)))) λd=>F6 s129 d s130 λJ=>A5 (!J) (Q (decide (a0<s130),({ o0 with heads:=s129 }:AF))) (F7 s129 s130 d λD=>next131 (D,d))))) (o0.heads,a0)
def NH (o0:AF) (Q:(B8×AF)->Prop):Prop:=
 AR o0.heads (A4 ((o0.heads.length:Int) - 1)) λd=>slP o0.heads 0 (A4 ((o0.heads.length:Int) - 1)) λ_=>Q (d,({ o0 with heads:=(o0.heads.take (A4 ((o0.heads.length:Int) - 1)).toNat) }:AF))
def GQ (o0:AF) (Q:(B8×AF)->Prop):Prop:=
 H4 o0.heads λh=>F7 o0.heads 0 (A4 (h - 1)) λD=>G5 ({ o0 with heads:=D }:AF) 0 (A4 (h - 1)) λJ=>NH J.2 λd=>Q (d.1,d.2)
def FV (o0:AF) (Q:AF->Prop):Prop:=
 AR o0.heads 0 λh=>GQ o0 λr61=>AR h.l 0 λD=>slP h.l 1 (h.l.length:Int) λ_=>GJ r61.2 ((h.l.take (h.l.length:Int).toNat).drop (Int.toNat 1)) h.which λd=>EP (λ(J:Bool->Prop)=>A5 (decide (0<(d.out.length:Int))) (AR d.out (A4 ((d.out.length:Int) - 1)) λO=>J (O.At==D.At)) (J false)) λU=>A5 U (AR d.out (A4 ((d.out.length:Int) - 1)) λZ=>TQ d.r Z.Val D.Val λV=>AR d.out (A4 ((d.out.length:Int) - 1)) λW=>Q ({ d with out:=(d.out.set ((A4 ((d.out.length:Int) - 1)).toNat) ({ At:=W.At,Val:=V }:BM)) }:AF)) (DW 24 d.out ([D]) λ_=>Q ({ d with out:=(d.out++([D])) }:AF))
def U0 (a0:Int) (a1:List (List BM)) (Q:((List BM)×Int)->Prop):Prop:=
 SN a0 λO=>A5 (!O) (Q (([]:List BM),8)) (CM a1 λU=>A5 U (Q (([]:List BM),6)) (B4 (λ(s:(List B8)×Int×(List BM)×Int) next292=>match s with | (s280,s284,s285,s289)=>A5 (decide (s289<(a1.length:Int))) (AR a1 s289 λD=>GJ ({ heads:=s280,r:=s284,out:=s285 }:AF) D s289 λh=>next292 (h.heads,h.r,h.out,A4 (s289+1))) (B4 (λ(s:(List B8)×Int×(List BM)) next413=>match s with | (s404,s408,s409)=>OJ s404 λJ=>A5 (decide (0<J)) (FV ({ heads:=s404,r:=s408,out:=s409 }:AF) λd=>next413 (d.heads,d.r,d.out)) (Q (s409,0))) (s280,s284,s285))) (([]:List B8),a0,([]:List BM),0)))
def YR (a0:Plan) (a1:State) (a2:Int) (Q:((List Int)×Bool)->Prop):Prop:=
 PM a0 a1 λd=>EP (λ(D:Int->Prop)=>A5 (a0.Kind==1) (D (-1)) (A5 (a0.Kind==5) (D 0) (Q (([]:List Int),true)))) λO=>B4 (λ(s:(List Int)×Int) next230=>match s with | (s224,s228)=>A5 (decide (s228<(d.A.length:Int))) (AR d.A s228 λh=>A5 (h==O) (DW 8 s224 ([s228]) λ_=>next230 ((s224++([s228])),A4 (s228+1))) (next230 (s224,A4 (s228+1)))) (MQ (A4 (d.High - d.Low)) s224 λJ=>Q (J,false))) (([]:List Int),0)
def dV (a0:Int) (Q:Int->Prop):Prop:=
 A5 (a0==1) (Q 4611686018427387904) (A5 (a0==3) (Q 4611686018427387904) (A5 (a0==4) (Q 4611686018427387904) (Q 0)))
def S1 (o0:Int) (a0:BM) (Q:Bool->Prop):Prop:=
 A5 (decide (a0.At<0)) (Q true) (Q (decide (o0<=a0.At)))
def E8 (o0:Int) (a0:List BM) (Q:Int->Prop):Prop:=
 B4 (λ(d:Int) next48=>A5 (decide (d<(a0.length:Int))) (AR a0 d λD=>S1 o0 D λh=>A5 h (Q d) (next48 (A4 (d+1)))) (Q (-1))) 0
def CN (o0:Int) (a0:List BM) (Q:Bool->Prop):Prop:=
 E8 o0 a0 λd=>Q (decide (0<=d))
def dW (a0:Int) (a1:Int) (J:List BM) (Q:(Vec×Int)->Prop):Prop:=
 SN a0 λZ=>A5 (!Z) (Q (CL,8)) (A5 (decide (a1<0)) (Q (CL,3)) (A5 (decide (4096<a1)) (Q (CL,3)) (CN a1 J λW=>A5 W (Q (CL,3)) (B4 (λ(d:Int) next135=>A5 (decide (d<(J.length:Int))) (A5 (decide (0<d)) (AR J (A4 (d - 1)) λU=>AR J d λV=>A5 (decide (V.At<=U.At)) (Q (CL,6)) (next135 (A4 (d+1)))) (next135 (A4 (d+1)))) (B4 (λ(s:(List B9)×Int) next285=>match s with | (s279,s283)=>A5 (decide (s283<(J.length:Int))) (AR J s283 λD=>RB a0 D.Val λh=>A5 (!h.2) (Q (CL,12)) (dV a0 λO=>A5 (h.1 != O) (DW 16 s279 ([({ At:=D.At,Val:=h.1 }:B9)]) λ_=>next285 ((s279++([({ At:=D.At,Val:=h.1 }:B9)])),A4 (s283+1))) (next285 (s279,A4 (s283+1))))) (Q (({ N:=a1,Items:=s279 }:Vec),0))) (([]:List B9),0))) 0))))
def JE (a0:Plan) (a1:Int) (d:Int) (Q:Int->Prop):Prop:=
 JD a1 8192 λh=>A5 (!h) (Q 0) (JD d (A4 (a0.N - 1)) λJ=>A5 (!J) (Q 0) (A5 (decide (0<(a0.Draws.length:Int))) (nzP (a0.Draws.length:Int) <| AR a0.Draws ((A4 ((A4 (a1*a0.N))+d)).tmod (a0.Draws.length:Int)) λD=>Q (bor .i64 (shl .i64 D 12) d)) (Q (bor .i64 (shl .i64 0 12) d))))
def NU (a0:Int) (Q:Int->Prop):Prop:=
 Q (shr .i64 (A4 (a0 - 1)) 1)
def U1 (a0:Plan) (a1:State) (U:Int) (h:Int) (Q:(Int×Bool)->Prop):Prop:=
 M0 a1.On h λd=>A5 (a0.Kind==1) (Q (A4 (a1.Low+h),d)) (A5 (a0.Kind==5) (A5 ((TI .i64 U 1)==0) (Q (1,d)) (AR a1.A h λD=>NU U λO=>JE a0 O (A4 (a1.Low+h)) λJ=>Q (J,D==0))) (AR a1.A h λx44=>Q (x44,d)))
def kR (a0:Plan) (a1:State) (D:Int) (Q:Vec->Prop):Prop:=
 PM a0 a1 λd=>B4 (λ(s:(List B9)×Int) next99=>match s with | (s93,s97)=>A5 (decide (s97<(A4 (d.High - d.Low)))) (U1 a0 d D s97 λh=>A5 h.2 (DW 16 s93 ([({ At:=s97,Val:=h.1 }:B9)]) λ_=>next99 ((s93++([({ At:=s97,Val:=h.1 }:B9)])),A4 (s97+1))) (next99 (s93,A4 (s97+1)))) (Q ({ N:=A4 (d.High - d.Low),Items:=s93 }:Vec))) (([]:List B9),0)
def OL (a0:Int×Int) (a1:Int×Int) (Q:(Int×Int)->Prop):Prop:=
 Q ((if a1.1 > a0.1 then a1.1 else a0.1),(if (if a1.2<a0.2 then a1.2 else a0.2) > (if a1.1 > a0.1 then a1.1 else a0.1) then (if a1.2<a0.2 then a1.2 else a0.2) else (if a1.1 > a0.1 then a1.1 else a0.1)))
def dX (a0:Int) (a1:Int) (d:Int) (Q:Int->Prop):Prop:=
 A5 (decide (d<0)) (Q 0) (A5 (decide (a1<=d)) (Q 0) (IJ a0 a1 (A4 (d+1)) λh=>IJ a0 a1 d λD=>Q (A4 (h - D))))
def K3 (a0:B9) (a1:Int) (Q:Int->Prop):Prop:=
 CX a0.At a1 λd=>Q d
def BQ (a0:List B9) (a1:Int) (Q:(Int×Bool)->Prop):Prop:=
 B4 (λ(s:Int×Int) next119=>match s with | (s117,s118)=>A5 (decide (s117<s118)) (AR a0 (A4 (shr .u64 (IntKind.wrap .u64 (A4 (s117+s118))) 1)) λd=>K3 d a1 λD=>A5 (decide (D<0)) (next119 (A4 ((A4 (shr .u64 (IntKind.wrap .u64 (A4 (s117+s118))) 1))+1),s118)) (next119 (s117,A4 (shr .u64 (IntKind.wrap .u64 (A4 (s117+s118))) 1)))) (A5 (decide (s117<(a0.length:Int))) (AR a0 s117 λh=>K3 h a1 λJ=>Q (s117,J==0)) (Q (s117,false)))) (0,(a0.length:Int))
def NI (a0:Vec) (a1:Int) (Q:(Int×Bool)->Prop):Prop:=
 BQ a0.Items a1 λd=>Q (d.1,d.2)
def PS (o0:Int) (a0:B9) (Q:B9->Prop):Prop:=
 Q ({ At:=A4 (a0.At - o0),Val:=a0.Val }:B9)
def OM (o0:Int) (a0:Vec) (Q:Vec->Prop):Prop:=
 LA a0 λD=>B3 D.Items λJ=>B4 (λ(s:(List B9)×Int) next126=>match s with | (s120,s125)=>A5 (decide (s125<(J.length:Int))) (AR s120 s125 λd=>PS o0 d λh=>AR s120 s125 λO=>next126 ((s120.set s125.toNat h),A4 (s125+1))) (Q ({ N:=D.N,Items:=s120 }:Vec))) (J,0)
def YS (a0:Vec) (a1:Int) (h:Int) (Q:Vec->Prop):Prop:=
 LA a0 λd=>A5 (decide ((if d.N<h then d.N else h)<=(if 0 > a1 then 0 else a1))) (Q CL) (NI d (if 0 > a1 then 0 else a1) λD=>NI d (if d.N<h then d.N else h) λJ=>slP d.Items D.1 J.1 λ_=>OM (if 0 > a1 then 0 else a1) ({ N:=d.N,Items:=((d.Items.take J.1.toNat).drop D.1.toNat) }:Vec) λO=>Q ({ N:=A4 ((if d.N<h then d.N else h) - (if 0 > a1 then 0 else a1)),Items:=O.Items }:Vec))
def VT (a0:Vec) (a1:Int) (J:Int) (a3:Int) (O:Int) (a5:Int) (Q:Vec->Prop):Prop:=
 OG a1 λr35=>A5 (!r35) (Q CL) (PH J a3 O a5 λV=>A5 (!V) (Q CL) (FA a0 λD=>A5 (!D) (Q CL) (dX a1 J O λZ=>A5 (a0.N != Z) (Q CL) (GP a1 J O λd=>GP a1 a3 a5 λW=>OL d W λh=>YS a0 (A4 (h.1 - d.1)) (A4 (h.2 - d.1)) λU=>Q U))))
def ON (a0:Int×Int) (a1:Int×Int) (Q:Int->Prop):Prop:=
 CX a0.1 a1.1 λD=>CX a0.2 a1.2 λd=>JK ([D,d]:List Int) λh=>Q h
def JP (a0:List Int) (Q:Int->Prop):Prop:=
 A5 (decide ((a0.length:Int)<1)) (False) (AR a0 0 λx16=>B4 (λ(s:Int×Int) next54=>match s with | (s52,s53)=>A5 (decide (s53<(a0.length:Int))) (AR a0 s53 λd=>next54 ((if d<s52 then d else s52),A4 (s53+1))) (Q s52)) (x16,1))
def U2 (a0:JB) (a1:Int) (Q:Int->Prop):Prop:=
 JC a1 8192 λh=>A5 (!h) (Q 0) (JM a0 λd=>A5 (d != 0) (Q 0) (Q (A4 ((A4 (4*(A4 ((A4 (a0.R+a0.C))+4))))*(A4 (a1+2))))))
def oH (a0:State) (Q:((List Int)×(List Int))->Prop):Prop:=
 AU a0.A λh=>AU a0.B λd=>Q (h,d)
def bF (a0:Graph) (a1:Int) (D:Int) (h:Int) (Q:JB->Prop):Prop:=
 TO a0 a1 D h λd=>Q ({ d with Plan:=({ Kind:=2,N:=d.Plan.N,Source:=d.Plan.Source,Length:=d.Plan.Length,Draws:=d.Plan.Draws }:Plan) }:JB)
def EZ (o0:List Int) (Q:(List Int)->Prop):Prop:=
 B4 (λ(s:(List Int)×Int×Int) next50=>match s with | (s47,s48,s49)=>A5 (decide (s48<s49)) (AR s47 s49 λd=>AR s47 s48 λh=>AR s47 s48 λD=>AR (s47.set s48.toNat d) s49 λJ=>next50 (((s47.set s48.toNat d).set s49.toNat h),A4 (s48+1),A4 (s49 - 1))) (Q s47)) (o0,0,A4 ((o0.length:Int) - 1))
def bG (a0:List Int) (a1:List Int) (h:Int) (Q:(List Int)->Prop):Prop:=
 A5 (decide (h<0)) (Q ([]:List Int)) (A5 (decide ((if (a1.length:Int)<(a0.length:Int) then (a1.length:Int) else (a0.length:Int))<=h)) (Q ([]:List Int)) (AR a0 h λV=>A5 (decide (V<0)) (Q ([]:List Int)) (AR a0 h λW=>A5 (decide ((if (a1.length:Int)<(a0.length:Int) then (a1.length:Int) else (a0.length:Int))<=W)) (Q ([]:List Int)) (B4 (λ(s:(List Int)×Int) next211=>match s with | (s206,s210)=>AR a0 s210 λJ=>A5 (decide (0<J)) (AR a1 s210 λd=>A5 (decide (d<0)) (Q ([]:List Int)) (A5 (decide ((if (a1.length:Int)<(a0.length:Int) then (a1.length:Int) else (a0.length:Int))<=d)) (Q ([]:List Int)) (AR a0 d λO=>AR a0 s210 λU=>A5 (O != (A4 (U - 1))) (Q ([]:List Int)) (DW 8 s206 ([d]) λ_=>next211 ((s206++([d])),d))))) (EZ s206 λD=>Q D)) (([h]:List Int),h)))))
def RL (a0:Graph) (a1:Int) (Q:Bool->Prop):Prop:=
 L8 a0 λd=>A5 (d==0) (A5 (decide (0<=a1)) (Q (decide (a1<a0.N))) (Q false)) (Q false)
def FN (a0:List Int) (a1:List Int) (Q:Bool->Prop):Prop:=
 A5 ((a0.length:Int) != (a1.length:Int)) (Q false) (B4 (λ(d:Int) next55=>A5 (decide (d<(a0.length:Int))) (AR a0 d λh=>AR a1 d λD=>A5 (h != D) (Q false) (next55 (A4 (d+1)))) (Q true)) 0)
def N7 (a0:Int) (a1:Int) (Q:(Int×Int)->Prop):Prop:=
 Q (IntKind.wrap .u64 ((IntKind.wrap .u64 ((IntKind.wrap .u64 ((shr .u64 a0 32)*(shr .u64 a1 32)))+(shr .u64 (IntKind.wrap .u64 ((IntKind.wrap .u64 ((shr .u64 a0 32)*(TI .u64 a1 4294967295)))+(shr .u64 (IntKind.wrap .u64 ((TI .u64 a0 4294967295)*(TI .u64 a1 4294967295))) 32))) 32)))+(shr .u64 (IntKind.wrap .u64 ((TI .u64 (IntKind.wrap .u64 ((IntKind.wrap .u64 ((shr .u64 a0 32)*(TI .u64 a1 4294967295)))+(shr .u64 (IntKind.wrap .u64 ((TI .u64 a0 4294967295)*(TI .u64 a1 4294967295))) 32))) 4294967295)+(IntKind.wrap .u64 ((TI .u64 a0 4294967295)*(shr .u64 a1 32))))) 32)),IntKind.wrap .u64 (a0*a1))
def KA (a0:Int) (a1:Int) (Q:(Int×Int)->Prop):Prop:=
 N7 a0 a1 λd=>Q (d.1,d.2)
def DY (a0:List Int) (a1:Int) (Q:(List Int)->Prop):Prop:=
 A5 (decide (a1<0)) (False) (KA (IntKind.wrap .u64 ((a0.length:Int))) (IntKind.wrap .u64 (a1)) λd=>A5 (decide (0<d.1)) (False) (A5 (decide (9223372036854775807<d.2)) (False) (mkP 8 (A4 (d.2)) 0 λ_=>B4 (λ(s:(List Int)×Int) next67=>match s with | (s62,s66)=>A5 (decide (s66<(s62.length:Int))) (slP s62 s66 (s62.length:Int) λ_=>slP s62 0 s66 λ_=>next67 ((XC s62 s66.toNat (s62.take s66.toNat)),A4 (s66+((min s66.toNat (s62.length - s66.toNat):Nat):Int)))) (Q s62)) ((XC (List.replicate (A4 (d.2)).toNat 0) 0 a0),((min a0.length ((List.replicate (A4 (d.2)).toNat 0):List Int).length:Nat):Int)))))
def S2 (a0:List AO) (Q:Int->Prop):Prop:=
 Q (a0.length:Int)
def GK (o0:List AO) (Q:Int->Prop):Prop:=
 Q (o0.length:Int)
def EQ (o0:List AO) (a0:Int) (a1:Int) (Q:(List AO)->Prop):Prop:=
 AR o0 a1 λh=>AR o0 a0 λd=>AR o0 a0 λJ=>AR (o0.set a0.toNat h) a1 λD=>Q ((o0.set a0.toNat h).set a1.toNat d)
def ER (o0:List AO) (a0:Int) (a1:Int) (Q:Bool->Prop):Prop:=
 AR o0 a0 λh=>AR o0 a1 λd=>Q (decide (h.far<d.far))
def G6 (o0:List AO) (a0:Int) (a1:Int) (Q:(Bool×(List AO))->Prop):Prop:=
 B4 (λ(s:(List AO)×Int) next127=>match s with | (s125,s126)=>A5 (decide (a1<=(A4 ((A4 (2*s126))+1)))) (Q (decide (a0<s126),s125)) (A5 (decide ((A4 ((A4 (2*s126))+1))<0)) (Q (decide (a0<s126),s125)) (EP (λ(h:Int->Prop)=>A5 (decide ((A4 ((A4 ((A4 (2*s126))+1))+1))<a1)) (ER s125 (A4 ((A4 ((A4 (2*s126))+1))+1)) (A4 ((A4 (2*s126))+1)) λJ=>A5 J (h (A4 ((A4 ((A4 (2*s126))+1))+1))) (h (A4 ((A4 (2*s126))+1)))) (h (A4 ((A4 (2*s126))+1)))) λd=>ER s125 d s126 λD=>A5 (!D) (Q (decide (a0<s126),s125)) (EQ s125 s126 d λO=>next127 (O,d))))) (o0,a0)
def MJ (o0:List AO) (Q:(AO×(List AO))->Prop):Prop:=
 AR o0 (A4 ((o0.length:Int) - 1)) λd=>slP o0 0 (A4 ((o0.length:Int) - 1)) λ_=>Q (d,(o0.take (A4 ((o0.length:Int) - 1)).toNat))
def GR (o0:List AO) (Q:(AO×(List AO))->Prop):Prop:=
 GK o0 λh=>EQ o0 0 (A4 (h - 1)) λD=>G6 D 0 (A4 (h - 1)) λJ=>MJ J.2 λd=>Q (d.1,d.2)
def LB (o0:List AO) (a0:AO) (Q:(List AO)->Prop):Prop:=
 DW 16 o0 ([a0]) λ_=>Q (o0++([a0]))
def HB (o0:List AO) (a0:Int) (Q:(List AO)->Prop):Prop:=
 B4 (λ(s:(List AO)×Int) next57=>match s with | (s55,s56)=>A5 ((A4 ((A4 (s56 - 1)).tdiv 2))==s56) (Q s55) (ER s55 s56 (A4 ((A4 (s56 - 1)).tdiv 2)) λd=>A5 (!d) (Q s55) (EQ s55 (A4 ((A4 (s56 - 1)).tdiv 2)) s56 λh=>next57 (h,A4 ((A4 (s56 - 1)).tdiv 2))))) (o0,a0)
def G7 (o0:List AO) (a0:AO) (Q:(List AO)->Prop):Prop:=
 LB o0 a0 λd=>GK d λh=>HB d (A4 (h - 1)) λD=>Q D
def VU (a0:Graph) (a1:Int) (Q:(List Int)->Prop):Prop:=
 DY ([4611686018427387904]:List Int) a0.N λr33=>AR r33 a1 λx51=>mkP 24 a0.N ([]:List B0) λ_=>FT a0 λU=>B4 (λ(s:(List (List B0))×Int) next392=>match s with | (s387,s391)=>A5 (decide (s391<(U.Edges.length:Int))) (AR U.Edges s391 λD=>AR s387 D.From λV=>DW 24 V ([D]) λ_=>AR s387 D.From λx440=>next392 ((s387.set D.From.toNat (V++([D]))),A4 (s391+1))) (B4 (λ(s:(List Int)×(List (List B0))×(List AO)) next1100=>match s with | (s1083,s1087,s1091)=>S2 s1091 λr1111=>A5 (decide (0<r1111)) (AR s1091 0 λh=>GR s1091 λJ=>AR s1083 h.v λx1175=>A5 (decide (x1175<h.far)) (next1100 (s1083,s1087,J.2)) (AR s1087 h.v λO=>B4 (λ(s:(List Int)×(List AO)×Int) next1346=>match s with | (s1337,s1341,s1345)=>A5 (decide (s1345<(O.length:Int))) (AR O s1345 λd=>AR s1337 d.To λx1383=>A5 (decide ((A4 (h.far+d.W))<x1383)) (AR s1337 d.To λx1389=>G7 s1341 ({ v:=d.To,far:=A4 (h.far+d.W) }:AO) λZ=>next1346 ((s1337.set d.To.toNat (A4 (h.far+d.W))),Z,A4 (s1345+1))) (next1346 (s1337,s1341,A4 (s1345+1)))) (next1100 (s1337,s1087,s1341))) (s1083,J.2,0))) (Q s1083)) ((r33.set a1.toNat 0),s387,([({ v:=a1,far:=0 }:AO)]:List AO)))) ((List.replicate a0.N.toNat ([]:List B0)),0)
def VV (a0:Graph) (a1:Int) (J:List Int) (Q:Bool->Prop):Prop:=
 RL a0 a1 λD=>A5 D (VU a0 a1 λd=>FN d J λh=>Q h) (Q false)
def MS (a0:Int) (Q:Bool->Prop):Prop:=
 A5 (decide (0<=a0)) (Q (decide (a0<4611686018427387904))) (Q false)
def VW (a0:Graph) (a1:List Int) (Q:(List B0)->Prop):Prop:=
 L8 a0 λV=>A5 (V != 0) (Q ([]:List B0)) (A5 ((a1.length:Int) != a0.N) (Q ([]:List B0)) (FT a0 λO=>B4 (λ(s:(List B0)×Int) next224=>match s with | (s218,s222)=>A5 (decide (s222<(O.Edges.length:Int))) (AR O.Edges s222 λd=>AR a1 d.From λh=>AR a1 d.To λD=>MS h λJ=>A5 J (MS D λU=>A5 U (A5 ((A4 (D - h))==d.W) (DW 24 s218 ([d]) λ_=>next224 ((s218++([d])),A4 (s222+1))) (next224 (s218,A4 (s222+1)))) (next224 (s218,A4 (s222+1)))) (next224 (s218,A4 (s222+1)))) (Q s218)) (([]:List B0),0)))
def EI (o0:List Int) (Q:(List Int)->Prop):Prop:=
 AdD o0 (Q ([]:List Int)) (DW 8 ([]:List Int) o0 λ_=>Q (([]:List Int)++o0))
def dY (a0:Graph) (a1:Int) (a2:List Int) (a3:Int) (Q:(List Int)->Prop):Prop:=
 VV a0 a1 a2 λr31=>A5 (!r31) (Q ([]:List Int)) (A5 (decide (a3<0)) (Q ([]:List Int)) (A5 (decide (a0.N<=a3)) (Q ([]:List Int)) (AR a2 a3 λx39=>A5 (decide (4611686018427387904<=x39)) (Q ([]:List Int)) (VW a0 a2 λZ=>DY ([(-1)]:List Int) a0.N λU=>EI U λW=>AR U a1 λx136=>B4 (λ(s:(List Int)×(List Int)×Int) next1212=>match s with | (s1203,s1207,s1211)=>B4 (λ(s:(List Int)×(List Int)×Bool×Int) next1652=>match s with | (s1642,s1646,s1650,s1651)=>A5 (decide (s1651<(Z.length:Int))) (AR Z s1651 λd=>EP (λ(h:Bool->Prop)=>AR s1642 d.From λV=>A5 (V==s1211) (AR s1642 d.To λO=>h (decide (O<0))) (h false)) λD=>A5 D (AR s1642 d.To λx1719=>AR s1646 d.To λx1724=>next1652 ((s1642.set d.To.toNat (A4 (s1211+1))),(s1646.set d.To.toNat d.From),true,A4 (s1651+1))) (next1652 (s1642,s1646,s1650,A4 (s1651+1)))) (A5 (!s1650) (bG s1642 s1646 a3 λJ=>Q J) (next1212 (s1642,s1646,A4 (s1211+1))))) (s1203,s1207,false,0)) ((U.set a1.toNat 0),W,0)))))
def ST (a0:Graph) (a1:List Int) (Q:(Int×Bool)->Prop):Prop:=
 A5 ((a1.length:Int)==0) (Q (0,false)) (AR a1 0 λV=>RL a0 V λZ=>A5 (!Z) (Q (0,false)) (FT a0 λh=>B4 (λ(s:(List ((Int×Int)×Int))×Int) next170=>match s with | (s168,s169)=>A5 (decide (s169<(h.Edges.length:Int))) (AR h.Edges s169 λd=>next170 ((DV (d.From,d.To) d.W s168),A4 (s169+1))) (B4 (λ(s:Int×Int) next297=>match s with | (s295,s296)=>A5 (decide (s296<(a1.length:Int))) (AR a1 (A4 (s296 - 1)) λD=>AR a1 s296 λJ=>AgG s168 (D,J) 0 λU O=>A5 (!O) (Q (0,false)) (next297 (A4 (s295+U),A4 (s296+1)))) (Q (s295,true))) (0,1))) (([]:List ((Int×Int)×Int)),0)))
def U3 (a0:Plan) (a1:Int) (Q:(Int×Bool)->Prop):Prop:=
 A5 (a0.Kind==3) (Q (a1,true)) (A5 (a0.Kind==5) (Q (0,false)) (EP (λ(h:Bool->Prop)=>A5 (a0.Kind==4) (h (a1==a0.Source)) (h false)) λD=>A5 D (Q (1,true)) (EP (λ(d:(Bool×Bool)->Prop)=>A5 (a1==a0.Source) (d (true,true)) (d (false,a0.Kind==4))) λ(J,s21)=>A5 s21 (Q (0,J)) (A5 (a0.Kind==1) (Q ((-1),false)) (Q (4611686018427387904,false))))))
def dZ (a0:BB) (a1:Vec) (Q:(BB×Vec)->Prop):Prop:=
 EP (λ(h:(Int×Int×(List Int)×(List Int)×(List Int)×(List Int))->Prop)=>TY a0 λD=>A5 (!D) (h (0,0,([]:List Int),([0]:List Int),([]:List Int),([]:List Int))) (h (a0.Rows,a0.Cols,a0.At,a0.Start,a0.Row,a0.Val))) λ(d,s44,s45,s49,s53,s57)=>FA a1 λJ=>A5 (!J) (Q (({ Rows:=d,Cols:=s44,At:=s45,Start:=s49,Row:=s53,Val:=s57 }:BB),CL)) (Q (({ Rows:=d,Cols:=s44,At:=s45,Start:=s49,Row:=s53,Val:=s57 }:BB),a1))
def HQ (a0:Int) (Q:(Int×Int)->Prop):Prop:=
 Q (shr .u64 (shl .u64 a0 32) 32,shr .u64 a0 32)
def SU (a0:Int) (a1:Int) (Q:AZ->Prop):Prop:=
 HQ a0 λh=>HQ a1 λd=>HQ (IntKind.wrap .u64 (h.1*d.1)) λU=>HQ (IntKind.wrap .u64 ((IntKind.wrap .u64 (h.2*d.1))+U.2)) λJ=>HQ (IntKind.wrap .u64 ((IntKind.wrap .u64 (h.1*d.2))+J.1)) λD=>HQ (IntKind.wrap .u64 (h.1*d.1)) λO=>Q ({ Hi:=A4 (IntKind.wrap .u64 ((IntKind.wrap .u64 ((IntKind.wrap .u64 (h.2*d.2))+J.2))+D.2)),Lo:=bor .u64 (shl .u64 D.1 32) O.1 }:AZ)
def XJ (a0:Int) (Q:Int->Prop):Prop:=
 A5 (decide (a0<0)) (Q (IntKind.wrap .u64 (0 - (IntKind.wrap .u64 (a0))))) (Q (IntKind.wrap .u64 (a0)))
def kS (a0:AZ) (a1:AZ) (Q:AZ->Prop):Prop:=
 TP (decide (a0.Lo<a1.Lo)) λd=>Q ({ Hi:=A4 (IntKind.wrap .u64 ((IntKind.wrap .u64 ((IntKind.wrap .u64 (a0.Hi)) - (IntKind.wrap .u64 (a1.Hi)))) - d)),Lo:=IntKind.wrap .u64 (a0.Lo - a1.Lo) }:AZ)
def kT (a0:Int) (a1:Int) (Q:AZ->Prop):Prop:=
 XJ a0 λh=>XJ a1 λJ=>SU h J λd=>A5 (!((decide (a0<0))==(decide (a1<0)))) (kS PB d λD=>Q D) (Q d)
def bH (a0:Int) (a1:Int) (D:Int) (Q:AZ->Prop):Prop:=
 A5 (a0==2) (A5 (a1 != 0) (ND (D != 0) λr22=>Q r22) (ND false λr26=>Q r26)) (A5 (a0==5) (kT a1 D λr31=>Q r31) (EP (λ(U:Unit->Prop)=>SN a0 λZ=>A5 Z (A5 (decide (4611686018427387904<=(if D > a1 then D else a1))) (OA 4611686018427387904 λr62=>Q r62) (U ())) (U ())) λ_=>EP (λ(d:(Int×Int)->Prop)=>A5 (a0==1) (OA a1 λJ=>d (J.Hi,J.Lo)) (A5 (a0==4) (d (0,0)) (A5 (a0==3) (OA a1 λr99=>Q r99) (Q PB)))) λ(s88,s89)=>OA 4611686018427387904 λO=>OA D λh=>aZ ({ Hi:=s88,Lo:=s89 }:AZ) h λW=>RA O W λV=>Q V))
def VX (a0:Int) (a1:List B9) (O:Int) (J:List Int) (U:Bool) (Q:(List BM)->Prop):Prop:=
 B4 (λ(s:(List BM)×Int) next118=>match s with | (s112,s116)=>A5 (decide (s116<(a1.length:Int))) (AR a1 s116 λd=>M0 J d.At λD=>A5 (!(D==U)) (bH a0 d.Val O λh=>DW 24 s112 ([({ At:=d.At,Val:=h }:BM)]) λ_=>next118 ((s112++([({ At:=d.At,Val:=h }:BM)])),A4 (s116+1))) (next118 (s112,A4 (s116+1)))) (Q s112)) (([]:List BM),0)
def U4 (a0:BB) (a1:Int) (Q:(BB×Int)->Prop):Prop:=
 Q (a0,a1)
def PT (o0:Nat) (o1:List B9) (o2:BB) (o3:Int) (Y:Nat->(List B9)->B9->((Bool×Nat×(List B9))->Prop)->Prop) (Q:(Nat×(List B9))->Prop):Prop:=
 AR o2.Start o3 λO=>B4 (λ(s:(List B9)×Int×Nat) next172=>match s with | (s166,s170,s171)=>AR o2.Start (A4 (o3+1)) λh=>A5 (decide (s170<h)) (AR o2.Row s170 λD=>AR o2.Val s170 λJ=>Y s171 s166 ({ At:=D,Val:=J }:B9) λd=>A5 (!d.1) (Q (d.2.1,d.2.2)) (next172 (d.2.2,A4 (s170+1),d.2.1))) (Q (s171,s166))) (o1,O,o0)
def DR (o0:BB) (o1:Int) (Q:(List B9)->Prop):Prop:=
 PT 0 ([]:List B9) o0 o1 (λ(J:Nat) (h:List B9) (d:B9) (O:(Bool×Nat×(List B9))->Prop)=>eqP J 0 (DW 16 h ([d]) λ_=>O (true,0,(h++([d]))))) λD=>eqP D.1 0 (Q D.2)
def ET (o0:BB) (o1:Int) (Q:(List B9)->Prop):Prop:=
 DR o0 o1 λd=>Q d
def VY (a0:BB) (a1:Int) (Q:(List B9)->Prop):Prop:=
 XI a0 λd=>TZ d a1 λD=>A5 (decide (D<0)) (Q ([]:List B9)) (U4 d D λh=>ET h.1 h.2 λJ=>Q J)
def eA (a0:Int) (a1:BB) (W:Vec) (V:List Int) (Z:Bool) (Q:((List BM)×Int)->Prop):Prop:=
 dZ a1 W λd=>SN a0 λU=>A5 (!U) (Q (([]:List BM),8)) (A5 (d.2.N != d.1.Cols) (Q (([]:List BM),4)) (B4 (λ(s:(List (List BM))×Int) next192=>match s with | (s186,s190)=>A5 (decide (s190<(d.2.Items.length:Int))) (AR d.2.Items s190 λD=>VY d.1 D.At λO=>VX a0 O D.Val V Z λh=>DW 24 s186 ([h]) λ_=>next192 ((s186++([h])),A4 (s190+1))) (U0 a0 s186 λJ=>Q (J.1,J.2))) (([]:List (List BM)),0)))
def eD (a0:Rows) (a1:Dense) (Q:(Rows×Dense)->Prop):Prop:=
 EP (λ(d:Rows->Prop)=>PG a0 λU=>A5 (!U) (VR a0 (0,0) (0,0) λD=>d D) (d a0)) λh=>RK a1 λJ=>A5 (!J) (PP 0 λO=>Q (h,O)) (Q (h,a1))
def U5 (a0:Int) (Q:(Bool×Int×AZ)->Prop):Prop:=
 Q (false,a0,PB)
def PU (o0:Bool) (o1:Int) (o2:AZ) (a0:AZ) (Q:(Bool×AZ)->Prop):Prop:=
 A5 o0 (TQ o1 o2 a0 λd=>Q (true,d)) (Q (true,a0))
def PV (o0:AZ) (o1:Bool) (Q:(AZ×Bool)->Prop):Prop:=
 Q (o0,o1)
def kU (a0:Int) (a1:Rows) (a2:Int) (a3:Dense) (Q:(AZ×Bool)->Prop):Prop:=
 U5 a0 λh=>AR a1.Start a2 λx53=>B4 (λ(s:Bool×Int×Int×Int) next239=>match s with | (s235,s236,s237,s238)=>AR a1.Start (A4 (a2+1)) λO=>A5 (decide (s238<O)) (AR a1.Col s238 λD=>M0 a3.Has D λU=>A5 U (AR a1.Val s238 λV=>AR a3.Vals D λW=>bH a0 V W λZ=>PU s235 h.2.1 ({ Hi:=s236,Lo:=s237 }:AZ) Z λd=>next239 (d.1,d.2.Hi,d.2.Lo,A4 (s238+1))) (next239 (s235,s236,s237,A4 (s238+1)))) (PV ({ Hi:=s236,Lo:=s237 }:AZ) s235 λJ=>Q (J.1,J.2))) (h.1,h.2.2.Hi,h.2.2.Lo,x53)
def U6 (a0:Int) (a1:List Int) (d:Bool) (Q:(Int×(List Int)×Bool)->Prop):Prop:=
 Q (a0,a1,d)
def PW (o0:Nat) (o1:Int) (o2:Rows) (o3:Dense) (o4:List BM) (o5:Int) (o6:List Int) (o7:Bool) (Y:Nat->Int->Rows->Dense->(List BM)->Int->((Bool×Nat×(List BM))->Prop)->Prop) (Q:(Nat×(List BM))->Prop):Prop:=
 B4 (λ(s:(List BM)×Int×Nat) next113=>match s with | (s107,s111,s112)=>A5 (decide (s111<o5)) (M0 o6 s111 λh=>A5 (!(h==o7)) (Y s112 o1 o2 o3 s107 s111 λd=>A5 (!d.1) (Q (d.2.1,d.2.2)) (next113 (d.2.2,A4 (s111+1),d.2.1))) (next113 (s107,A4 (s111+1),s112))) (Q (s112,s107))) (o4,0,o0)
def eG (a0:Int) (a1:Rows) (a2:Dense) (a3:List Int) (a4:Bool) (Q:((List BM)×Int)->Prop):Prop:=
 eD a1 a2 λd=>SN a0 λr59=>A5 (!r59) (Q (([]:List BM),8)) (A5 (d.2.N != d.1.Cols) (Q (([]:List BM),4)) (U6 d.1.Rows a3 a4 λU=>PW 0 a0 d.1 d.2 ([]:List BM) U.1 U.2.1 U.2.2 (λ(W:Nat) (y180:Int) (V:Rows) (Z:Dense) (D:List BM) (J:Int) (Qy:(Bool×Nat×(List BM))->Prop)=>eqP W 0 (kU y180 V J Z λh=>A5 h.2 (DW 24 D ([({ At:=J,Val:=h.1 }:BM)]) λ_=>Qy (true,0,(D++([({ At:=J,Val:=h.1 }:BM)])))) (Qy (true,0,D)))) λO=>eqP O.1 0 (Q (O.2,0))))
def SV (a0:iF) (Q:Dense->Prop):Prop:=
 PQ a0 λh=>bE h λd=>Q d
def XK (a0:Vec) (a1:Int) (Q:(Int×Bool)->Prop):Prop:=
 LA a0 λd=>NI d a1 λh=>A5 (!h.2) (Q (0,false)) (AR d.Items h.1 λD=>Q (D.Val,true))
def RM (a0:Plan) (a1:State) (U:Int) (W:Int) (D:Int) (V:Bool) (Q:(Int×Int×Bool)->Prop):Prop:=
 AR a1.A W λh=>AR a1.B W λd=>A5 (a0.Kind==1) (A5 V (A5 (h==(-1)) (Q (U,D,true)) (Q (h,d,false))) (Q (h,d,false))) (EP (λ(J:Bool->Prop)=>A5 (a0.Kind==2) (J (a0.Kind==2)) (J (a0.Kind==3))) λs55=>A5 s55 (A5 V (A5 (decide (D<h)) (Q (D,d,true)) (Q (h,d,false))) (Q (h,d,false))) (A5 (a0.Kind==4) (Q (D,d,D != 0)) (A5 (a0.Kind==5) (A5 (h != 0) (Q (h,d,false)) (EP (λ(O:Bool->Prop)=>A5 ((TI .i64 U 1)==0) (O V) (O false)) λZ=>A5 Z (Q (2,d,false)) (A5 ((TI .i64 U 1)==1) (A5 (!V) (Q (1,d,true)) (NU U λr77=>JE a0 r77 (A4 (a1.Low+W)) λr81=>A5 (decide (r81<D)) (Q (1,d,true)) (Q (h,d,false)))) (Q (h,d,false))))) (Q (h,d,false)))))
def PX (o0:Plan) (o1:Int) (a0:Int) (Q:(Int×Int×Bool)->Prop):Prop:=
 U3 o0 (A4 (o1+a0)) λd=>Q (d.1,(-1),d.2)
def PY (o0:Plan) (o1:Int) (a0:State) (a1:Int) (Q:State->Prop):Prop:=
 B4 (λ(s:(List Int)×(List Int)×(List Int)×Int) next150=>match s with | (s134,s138,s142,s146)=>A5 (decide (s146<a1)) (PX o0 o1 s146 λd=>DW 8 s134 ([d.1]) λ_=>DW 8 s138 ([d.2.1]) λ_=>A5 d.2.2 (DW 8 s142 ([s146]) λ_=>next150 ((s134++([d.1])),(s138++([d.2.1])),(s142++([s146])),A4 (s146+1))) (next150 ((s134++([d.1])),(s138++([d.2.1])),s142,A4 (s146+1)))) (MQ a1 s142 λh=>Q ({ a0 with A:=s134,B:=s138,On:=h }:State))) (([]:List Int),([]:List Int),([]:List Int),0)
def YT (a0:Plan) (a1:Int) (d:Int) (Q:State->Prop):Prop:=
 PE a0 λD=>A5 (D != 0) (Q G3) (A5 (decide (a1<0)) (Q G3) (A5 (decide (d<a1)) (Q G3) (A5 (decide (a0.N<d)) (Q G3) (PY a0 a1 ({ Low:=a1,High:=d,A:=([]:List Int),B:=([]:List Int),On:=([]:List Int) }:State) (A4 (d - a1)) λh=>Q h))))
def N8 (o0:Int) (o1:Int) (o2:Int) (o3:Int) (a0:Int) (Q:Int->Prop):Prop:=
 GP o0 o1 a0 λD=>GP o0 o2 o3 λh=>OL D h λd=>Q (A4 (d.2 - d.1))
def S3 (o0:Int) (o1:Int) (o2:Int) (o3:Int) (a0:List Vec) (a1:Int) (Q:(Vec×Int)->Prop):Prop:=
 A5 ((a0.length:Int) != a1) (Q (CL,4)) (B4 (λ(d:Int) next108=>A5 (decide (d<(a0.length:Int))) (AR a0 d λh=>FA h λJ=>A5 (!J) (Q (CL,4)) (N8 o0 o1 o2 o3 d λO=>A5 (h.N != O) (Q (CL,4)) (next108 (A4 (d+1))))) (YO a0 λD=>Q (D.1,D.2))) 0)
def eH (a0:Int) (a1:Int) (O:Int) (J:Int) (U:List Vec) (Q:(Vec×Int)->Prop):Prop:=
 OG a0 λh=>A5 (!h) (Q (CL,3)) (PH a1 O 0 J λD=>A5 (!D) (Q (CL,3)) (S3 a0 a1 O J U a1 λd=>Q (d.1,d.2)))
def LC (a0:GX) (Q:((List BM)×Int)->Prop):Prop:=
 SV a0.X λh=>eG a0.Ring a0.Rows h a0.Set a0.Others λd=>Q (d.1,d.2)
def LD (a0:GX) (Q:((List BM)×Int)->Prop):Prop:=
 PQ a0.X λh=>eA a0.Ring a0.Cols h a0.Set a0.Others λd=>Q (d.1,d.2)
def VZ (a0:GX) (Q:((List BM)×Int×Int)->Prop):Prop:=
 PQ a0.X λO=>dS a0.Cols O λJ=>dU a0.Rows λU=>LZ a0.Way J U λD=>A5 (D==2) (LC a0 λd=>A5 (d.2 != 0) (Q (([]:List BM),0,d.2)) (Q (d.1,D,d.2))) (LD a0 λh=>A5 (h.2 != 0) (Q (([]:List BM),0,h.2)) (Q (h.1,D,h.2)))
def OO (o0:Vec) (o1:Plan) (o2:State) (o3:Int) (a0:Int) (Q:(Int×Int×Bool)->Prop):Prop:=
 XK o0 a0 λh=>RM o1 o2 o3 a0 h.1 h.2 λd=>Q (d.1,d.2.1,d.2.2)
def M1 (o0:Vec) (o1:Plan) (o2:State) (o3:Int) (a0:State) (a1:Int) (Q:State->Prop):Prop:=
 B4 (λ(s:(List Int)×(List Int)×(List Int)×Int) next159=>match s with | (s143,s147,s151,s155)=>A5 (decide (s155<a1)) (OO o0 o1 o2 o3 s155 λd=>DW 8 s143 ([d.1]) λ_=>DW 8 s147 ([d.2.1]) λ_=>A5 d.2.2 (DW 8 s151 ([s155]) λ_=>next159 ((s143++([d.1])),(s147++([d.2.1])),(s151++([s155])),A4 (s155+1))) (next159 ((s143++([d.1])),(s147++([d.2.1])),s151,A4 (s155+1)))) (MQ a1 s151 λh=>Q ({ a0 with A:=s143,B:=s147,On:=h }:State))) (([]:List Int),([]:List Int),([]:List Int),0)
def W0 (a0:Plan) (a1:State) (a2:Int) (J:Vec) (Q:State->Prop):Prop:=
 PM a0 a1 λd=>EP (λ(h:Bool->Prop)=>FA J λO=>A5 (!O) (h true) (h (J.N != (A4 (d.High - d.Low))))) λZ=>A5 Z (AU d.A λV=>AU d.B λW=>C0 d.On λU=>Q ({ d with A:=V,B:=W,On:=U }:State)) (M1 J a0 d a2 d (A4 (d.High - d.Low)) λD=>Q D)
def CI (o0:A1) (a0:Int) (a1:Int) (Q:Int->Prop):Prop:=
 iI o0.grid.j a0 a1 λd=>Q d
def CH (o0:A1) (a0:AK) (Q:A1->Prop):Prop:=
 CI o0 o0.place.i o0.place.j λd=>DW 136 o0.out ([({ a0 with From:=d }:AK)]) λ_=>Q ({ o0 with out:=(o0.out++([({ a0 with From:=d }:AK)])) }:A1)
def DC (o0:A1) (a0:Int) (a1:Bool) (Q:A1->Prop):Prop:=
 A5 (!a1) (dQ o0.plan o0.aside a0 λD=>CH ({ o0 with waits:=true }:A1) ({ Kind:=4,From:=0,To:=0,Seq:=0,Round:=a0,Vec:=CL,Sums:=([]:List BM),Triples:=([]:List A2),N:=D,Over:=a1 }:AK) λd=>Q d) (CH ({ o0 with waits:=true }:A1) ({ Kind:=4,From:=0,To:=0,Seq:=0,Round:=a0,Vec:=CL,Sums:=([]:List BM),Triples:=([]:List A2),N:=0,Over:=a1 }:AK) λh=>Q h)
def OP (a0:JB) (a1:Int) (J:Int) (Q0:Int->Prop) (Q1:(Int×A1)->Prop) (Q2:(Int×A1)->Prop):Prop:=
 JM a0 λW=>A5 (W != 0) (Q0 W) (A5 (decide (a1<0)) (False) (A5 (decide (a0.R<=a1)) (False) (A5 (decide (J<0)) (False) (A5 (decide (a0.C<=J)) (False) (RC a0.Plan a0.Graph λr36=>D5 a0.Choices λr60=>AU a0.Plan.Draws λU=>dO r36.1 a0.R a0.C a1 J λd=>rW d λD=>A5 (J==0) (IJ a0.Plan.N a0.R a1 λZ=>IJ a0.Plan.N a0.R (A4 (a1+1)) λO=>YT a0.Plan Z O λh=>DC ({ place:=({ i:=a1,j:=J }:BA),plan:=({ Kind:=a0.Plan.Kind,N:=a0.Plan.N,Source:=a0.Plan.Source,Length:=a0.Plan.Length,Draws:=U }:Plan),grid:=({ i:=a0.R,j:=a0.C }:BA),limit:=a0.Limit,choices:=r60,rows:=d,cols:=D,out:=([]:List AK),share:=1,shares:=([]:List (Int×Vec)),spread:=1,round:=0,status:=0,has:=h,aside:=h,waits:=false,begun:=false,sums:=([]:List BM),came:=([]:List (Int×Bool)),vote:=0,votes:=([]:List (Int×AK)),closed:=false }:A1) 0 false λV=>Q1 (0,V)) (Q2 (0,({ place:=({ i:=a1,j:=J }:BA),plan:=({ Kind:=a0.Plan.Kind,N:=a0.Plan.N,Source:=a0.Plan.Source,Length:=a0.Plan.Length,Draws:=U }:Plan),grid:=({ i:=a0.R,j:=a0.C }:BA),limit:=a0.Limit,choices:=r60,rows:=d,cols:=D,out:=([]:List AK),share:=1,shares:=([]:List (Int×Vec)),spread:=1,round:=0,status:=0,has:=G3,aside:=G3,waits:=false,begun:=false,sums:=([]:List BM),came:=([]:List (Int×Bool)),vote:=0,votes:=([]:List (Int×AK)),closed:=false }:A1))))))))
def IL (o0:A1) (Q:Int->Prop):Prop:=
 Q o0.round
def JQ (o0:A3) (a0:Option Nat) (Q:Int->Prop):Prop:=
 rH a0 False λb=>tH o0 b λx=>IL x  λd=>Q d
def IM (o0:A1) (Q:State->Prop):Prop:=
 AU o0.has.A λD=>AU o0.has.B λh=>C0 o0.has.On λd=>Q ({ Low:=o0.has.Low,High:=o0.has.High,A:=D,B:=h,On:=d }:State)
def JR (o0:A3) (a0:Option Nat) (Q:State->Prop):Prop:=
 rH a0 False λb=>tH o0 b λx=>IM x  λd=>Q d
def GU (o0:AH) (o1:A3) (Q:State->Prop):Prop:=
 B4 (λ(s:(List Int)×(List Int)×(List Int)×Int) next922=>match s with | (s906,s910,s914,s918)=>A5 (decide (s918<(o0.owners.length:Int))) (AR o0.owners s918 λO=>JR o1 O λd=>DW 8 s906 d.A λ_=>DW 8 s910 d.B λ_=>YM d.On λD=>B4 (λ(s:(List Int)×Int) next1061=>match s with | (s1056,s1060)=>A5 (decide (s1060<(D.length:Int))) (AR D s1060 λh=>DW 8 s1056 ([A4 (d.Low+h)]) λ_=>next1061 ((s1056++([A4 (d.Low+h)])),A4 (s1060+1))) (next922 ((s906++d.A),(s910++d.B),s1056,A4 (s918+1)))) (s914,0)) (MQ o0.setup.Plan.N s914 λJ=>Q ({ Low:=0,High:=o0.setup.Plan.N,A:=s906,B:=s910,On:=J }:State))) (([]:List Int),([]:List Int),([]:List Int),0)
def EM (o0:AH) (o1:A3) (Q:AH->Prop):Prop:=
 B4 (λ(d:Int) next164=>A5 (decide (d<(o0.owners.length:Int))) (AR o0.owners d λD=>JQ o1 D λJ=>A5 (J != (o0.history.length:Int)) (Q o0) (next164 (A4 (d+1)))) (GU o0 o1 λh=>DW 88 o0.history ([h]) λ_=>Q ({ o0 with history:=(o0.history++([h])) }:AH))) 0
def SW (o0:A3) (o1:AP) (a0:JB) (Q0:(Int×A3)->Prop) (Q1:(Int×A3×AH)->Prop):Prop:=
 JM a0 λW=>A5 (W != 0) (Q0 (W,o0)) (B4 (λ(s:(List (Option Nat))×(List (Option Nat))×Int×A3) next761=>match s with | (s749,s753,s757,s758)=>A5 (decide (s757<(A4 (a0.R*a0.C)))) (XH a0.C s757 λr924=>TX a0.C s757 λZ=>OP a0 r924 Z (λ_=>False) (λJ=>A5 (J.1 != 0) (Q0 (J.1,s758)) (AvA s758 λd=>DW 8 s749 ([(some d)]) λ_=>TX a0.C s757 λV=>A5 (V==0) (DW 8 s753 ([(some d)]) λ_=>next761 ((s749++([(some d)])),(s753++([(some d)])),A4 (s757+1),((d,J.2) :: s758))) (next761 ((s749++([(some d)])),s753,A4 (s757+1),((d,J.2) :: s758))))) (λD=>A5 (D.1 != 0) (Q0 (D.1,s758)) (AvA s758 λh=>DW 8 s749 ([(some h)]) λ_=>TX a0.C s757 λO=>A5 (O==0) (DW 8 s753 ([(some h)]) λ_=>next761 ((s749++([(some h)])),(s753++([(some h)])),A4 (s757+1),((h,D.2) :: s758))) (next761 ((s749++([(some h)])),s753,A4 (s757+1),((h,D.2) :: s758)))))) (EM ({ setup:=a0,workers:=s749,boxes:=([]:List ((Int×Int)×(Option Nat))),owners:=s753,history:=([]:List State) }:AH) s758 λU=>Q1 (0,s758,U))) (([]:List (Option Nat)),([]:List (Option Nat)),0,o0))
def ED (o0:A1) (Q:Int->Prop):Prop:=
 Q o0.status
def DK (o0:A3) (a0:Option Nat) (Q:Int->Prop):Prop:=
 rH a0 False λb=>tH o0 b λx=>ED x  λd=>Q d
def HC (o0:A3) (a0:Option Nat) (Q:Bool->Prop):Prop:=
 DK o0 a0 λd=>Q (d==0)
def BU (o0:A3) (a0:List (Option Nat)) (Q:Int->Prop):Prop:=
 B4 (λ(d:Int) next47=>A5 (decide (d<(a0.length:Int))) (AR a0 d λD=>HC o0 D λh=>A5 h (Q d) (next47 (A4 (d+1)))) (Q (-1))) 0
def BN (o0:A3) (a0:List (Option Nat)) (Q:Bool->Prop):Prop:=
 BU o0 a0 λd=>Q (decide (0<=d))
def CS (o0:AH) (o1:A3) (Q:Bool->Prop):Prop:=
 BN o1 o0.owners λd=>Q (!d)
def G8 (o0:AH) (o1:A3) (a0:Int) (Q:Bool->Prop):Prop:=
 A5 (decide (0<=a0)) (Q (decide (a0<(o0.workers.length:Int)))) (Q false)
def F0 (o0:A1) (Q:Int->Prop):Prop:=
 Q (o0.out.length:Int)
def JS (o0:A1) (Q:(AK×Bool)->Prop):Prop:=
 F0 o0 λd=>A5 (d==0) (Q (({ Kind:=0,From:=0,To:=0,Seq:=0,Round:=0,Vec:=CL,Sums:=([]:List BM),Triples:=([]:List A2),N:=0,Over:=false }:AK),false)) (AR o0.out 0 λD=>YN D λh=>Q (h,true))
def KG (o0:A3) (a0:Option Nat) (Q:(AK×Bool)->Prop):Prop:=
 rH a0 False λb=>tH o0 b λx=>JS x  λd=>Q (d.1,d.2)
def YU (a0:Int) (Q0:Int->Prop) (d:(Int×BR)->Prop):Prop:=
 A5 (decide (a0<1)) (False) (A5 (decide (64<a0)) (False) (d (0,({ room:=a0,row:=([]:List Int),by_:=([]:List (Int×AK)),often:=([]:List (Int×Int)),sent:=0,taken:=0 }:BR))))
def F1 (o0:AH) (o1:A3) (o2:AP) (a0:Int) (a1:Int) (Z:(AH×AP)->Prop) (W:((Option Nat)×AH×AP)->Prop):Prop:=
 G8 o0 o1 a0 λJ=>A5 (!J) (Z (o0,o2)) (G8 o0 o1 a1 λU=>A5 (!U) (Z (o0,o2)) (lkP o0.boxes (a0,a1) none λV=>A5 V.isNone (YU o0.setup.Room (λ_=>False) (λO=>AvA o2 λd=>lkP (DV (a0,a1) (some d) o0.boxes) (a0,a1) none λD=>W (D,({ o0 with boxes:=(DV (a0,a1) (some d) o0.boxes) }:AH),((d,O.2) :: o2)))) (lkP o0.boxes (a0,a1) none λh=>W (h,o0,o2))))
def OQ (o0:BR) (Q:Bool->Prop):Prop:=
 Q (decide (o0.room<=(o0.row.length:Int)))
def PZ (o0:BR) (a0:Int) (Q:BR->Prop):Prop:=
 DW 8 o0.row ([a0]) λ_=>lkP o0.often a0 0 λd=>Q ({ o0 with row:=(o0.row++([a0])),often:=(DV a0 (A4 (d+1)) o0.often) }:BR)
def KV (o0:BR) (a0:AK) (Q:(Int×BR)->Prop):Prop:=
 OQ o0 λh=>A5 h (Q (9,o0)) (bD a0 λD=>PZ ({ o0 with by_:=(DV o0.sent ({ D with Seq:=o0.sent }:AK) o0.by_) }:BR) o0.sent λd=>Q (0,({ d with sent:=A4 (d.sent+1) }:BR)))
def M2 (o0:AP) (a0:Option Nat) (a1:AK) (Q:(Int×AP)->Prop):Prop:=
 rH a0 False λb=>tH o0 b λx=>KV x a1 λd=>Q (d.1,(b,d.2) :: FL b o0)
def JT (o0:A1) (Q:A1->Prop):Prop:=
 F0 o0 λd=>A5 (decide (0<d)) (slP o0.out 1 d λ_=>Q ({ o0 with out:=((o0.out.take d.toNat).drop (Int.toNat 1)) }:A1)) (Q o0)
def HD (o0:A3) (a0:Option Nat) (Q:A3->Prop):Prop:=
 rH a0 False λb=>tH o0 b λx=>JT x  λd=>Q ((b,d) :: FL b o0)
def JU (o0:AH) (o1:A3) (o2:AP) (a0:Int) (Q:(Bool×AH×A3×AP)->Prop):Prop:=
 G8 o0 o1 a0 λU=>A5 (!U) (Q (false,o0,o1,o2)) (AR o0.workers a0 λO=>KG o1 O λD=>A5 (!D.2) (Q (false,o0,o1,o2)) (F1 o0 o1 o2 a0 D.1.To (λ_=>False) (λh=>M2 h.2.2 h.1 D.1 λd=>A5 (d.1 != 0) (Q (false,h.2.1,o1,d.2)) (HD o1 O λJ=>Q (true,h.2.1,J,d.2)))))
def IP (o0:BR) (Q:Int->Prop):Prop:=
 Q (o0.row.length:Int)
def HL (o0:AP) (a0:Option Nat) (Q:Int->Prop):Prop:=
 rH a0 False λb=>tH o0 b λx=>IP x  λd=>Q d
def IC (o0:AH) (o1:AP) (Q:(List (Int×Int))->Prop):Prop:=
 B4 (λ(s:(List ((Int×Int)×(Option Nat)))×(List (Int×Int))) next114=>match s with | (s108,s109)=>yQ s108 (AdG ON s109 λJ=>Q J) (λd h=>HL o1 d.2 λD=>A5 (decide (0<D)) (DW 16 s109 ([d.1]) λ_=>next114 (h,(s109++([d.1])))) (next114 (h,s109)))) (o0.boxes,([]:List (Int×Int)))
def KH (o0:Int) (a0:Int) (Q:Bool->Prop):Prop:=
 Q (a0==o0)
def EJ (o0:List Int) (o1:Int) (Q:Int->Prop):Prop:=
 B4 (λ(d:Int) next40=>A5 (decide (d<(o0.length:Int))) (AR o0 d λD=>KH o1 D λh=>A5 h (Q d) (next40 (A4 (d+1)))) (Q (-1))) 0
def ID (o0:BR) (Q:Int->Prop):Prop:=
 IP o0 λh=>A5 (h==0) (Q (-1)) (JP o0.row λd=>EJ o0.row d λD=>Q D)
def NJ (o0:AP) (a0:Option Nat) (Q:Int->Prop):Prop:=
 rH a0 False λb=>tH o0 b λx=>ID x  λd=>Q d
def S4 (o0:BR) (a0:Int) (Q:Int->Prop):Prop:=
 A5 (decide (a0<0)) (Q 3) (A5 (decide ((o0.row.length:Int)<=a0)) (Q 3) (Q 0))
def FD (o0:List Int) (a0:Int) (a1:Int) (Q:(List Int)->Prop):Prop:=
 slP o0 a0 a1 λ_=>A5 (a0==a1) (Q o0) (slP o0 0 a0 λ_=>slP o0 a1 (o0.length:Int) λ_=>Q (o0.take a0.toNat++o0.drop a1.toNat))
def Q3 (o0:BR) (a0:Int) (Q:(AK×BR)->Prop):Prop:=
 AR o0.row a0 λx21=>lkP o0.by_ x21 ({ Kind:=0,From:=0,To:=0,Seq:=0,Round:=0,Vec:=CL,Sums:=([]:List BM),Triples:=([]:List A2),N:=0,Over:=false }:AK) λD=>FD o0.row a0 (A4 (a0+1)) λh=>lkP o0.often x21 0 λd=>lkP (DV x21 (A4 (d - 1)) o0.often) x21 0 λJ=>A5 (J==0) (Q (D,({ o0 with row:=h,by_:=(FL x21 o0.by_),often:=(FL x21 (DV x21 (A4 (d - 1)) o0.often)) }:BR))) (Q (D,({ o0 with row:=h,often:=(DV x21 (A4 (d - 1)) o0.often) }:BR)))
def KW (o0:BR) (a0:Int) (Q:(AK×Bool×Int×BR)->Prop):Prop:=
 S4 o0 a0 λh=>A5 (h != 0) (Q (({ Kind:=0,From:=0,To:=0,Seq:=0,Round:=0,Vec:=CL,Sums:=([]:List BM),Triples:=([]:List A2),N:=0,Over:=false }:AK),false,h,o0)) (AR o0.row a0 λJ=>A5 (decide (o0.taken<J)) (Q (({ Kind:=0,From:=0,To:=0,Seq:=0,Round:=0,Vec:=CL,Sums:=([]:List BM),Triples:=([]:List A2),N:=0,Over:=false }:AK),false,h,o0)) (Q3 o0 a0 λd=>A5 (decide (d.1.Seq<d.2.taken)) (Q (({ Kind:=0,From:=0,To:=0,Seq:=0,Round:=0,Vec:=CL,Sums:=([]:List BM),Triples:=([]:List A2),N:=0,Over:=false }:AK),false,0,d.2)) (bD d.1 λD=>Q (D,true,0,({ room:=d.2.room,row:=d.2.row,by_:=d.2.by_,often:=d.2.often,sent:=d.2.sent,taken:=A4 (d.2.taken+1) }:BR)))))
def Q4 (o0:AP) (a0:Option Nat) (a1:Int) (Q:(AK×Bool×Int×AP)->Prop):Prop:=
 rH a0 False λb=>tH o0 b λx=>KW x a1 λd=>Q (d.1,d.2.1,d.2.2.1,(b,d.2.2.2) :: FL b o0)
def I3 (o0:A1) (Q:Int->Prop):Prop:=
 CI o0 o0.place.i o0.place.j λd=>Q d
def G9 (o0:A1) (a0:Int) (Q:Int->Prop):Prop:=
 IJ o0.plan.N o0.grid.i a0 λh=>IJ o0.plan.N o0.grid.j o0.place.j λd=>IJ o0.plan.N o0.grid.i (A4 (a0+1)) λJ=>IJ o0.plan.N o0.grid.j (A4 (o0.place.j+1)) λD=>Q (if (A4 ((if D<J then D else J) - (if d > h then d else h))) > 0 then A4 ((if D<J then D else J) - (if d > h then d else h)) else 0)
def EE (o0:A1) (a0:AK) (a1:BA) (Q:(Bool×A1)->Prop):Prop:=
 G9 o0 a1.i λV=>MR a0 V λd=>AgG o0.shares a1.i CL λW D=>A5 D (False) (A5 (!d.2) (False) (A5 (o0.place.i != 0) (False) (A5 (a1.j != 0) (False) (A5 (a0.Round != o0.share) (False) (A5 (decide (((DV a1.i d.1 o0.shares).length:Int)<o0.grid.i)) (Q (true,({ o0 with shares:=(DV a1.i d.1 o0.shares) }:A1))) (B4 (λ(s:(List Vec)×Int) next258=>match s with | (s252,s256)=>A5 (decide (s256<o0.grid.i)) (lkP (DV a1.i d.1 o0.shares) s256 CL λh=>DW 32 s252 ([h]) λ_=>next258 ((s252++([h])),A4 (s256+1))) (eH o0.plan.N o0.grid.i o0.grid.j o0.place.j s252 λJ=>B4 (λ(s:A1×Int) next614=>match s with | (s602,s613)=>A5 (decide (s613<o0.grid.i)) (CI s602 s613 s602.place.j λO=>CH s602 ({ Kind:=2,From:=0,To:=O,Seq:=0,Round:=s602.share,Vec:=J.1,Sums:=([]:List BM),Triples:=([]:List A2),N:=0,Over:=false }:AK) λU=>next614 (U,A4 (s613+1))) (Q (true,({ s602 with share:=A4 (s602.share+1),shares:=([]:List (Int×Vec)) }:A1)))) (({ o0 with shares:=(DV a1.i d.1 o0.shares) }:A1),0))) (([]:List Vec),0)))))))
def FO (o0:A1) (a0:Int) (Q:HY->Prop):Prop:=
 A5 ((o0.choices.length:Int)==0) (Q ({ Way:=0,Form:=0 }:HY)) (nzP (o0.choices.length:Int) <| AR o0.choices ((A4 (a0 - 1)).tmod (o0.choices.length:Int)) λd=>Q d)
def DZ (o0:A1) (a0:AK) (a1:BA) (Q:(Bool×A1)->Prop):Prop:=
 MR a0 o0.rows.Cols λJ=>A5 (!J.2) (False) (A5 (a1.i != 0) (False) (A5 (a1.j != o0.place.j) (False) (A5 (a0.Round != o0.spread) (False) (FO o0 a0.Round λO=>T9 o0.plan.Kind a0.Round λV=>VS O.Form J.1 λd=>VZ ({ Ring:=V,Rows:=o0.rows,Cols:=o0.cols,X:=d,Set:=([]:List Int),Others:=true,Way:=O.Way }:GX) λU=>CI ({ o0 with spread:=A4 (o0.spread+1) }:A1) o0.place.i 0 λh=>CH ({ o0 with spread:=A4 (o0.spread+1) }:A1) ({ Kind:=3,From:=0,To:=h,Seq:=0,Round:=a0.Round,Vec:=CL,Sums:=U.1,Triples:=([]:List A2),N:=0,Over:=false }:AK) λD=>Q (true,D)))))
def FP (o0:A1) (a0:List BM) (Q:Bool->Prop):Prop:=
 B4 (λ(s:Int×Int) next82=>match s with | (s80,s81)=>A5 (decide (s81<(a0.length:Int))) (AR a0 s81 λd=>A5 (decide (d.At<=s80)) (Q false) (A5 (decide (o0.rows.Rows<=d.At)) (Q false) (next82 (d.At,A4 (s81+1))))) (Q true)) ((-1),0)
def DG (o0:List Int) (o1:Bool) (a0:BM) (Q:Bool->Prop):Prop:=
 M0 o0 a0.At λd=>Q (d==o1)
def CT (o0:List BM) (o1:List Int) (o2:Bool) (Q:Int->Prop):Prop:=
 B4 (λ(d:Int) next45=>A5 (decide (d<(o0.length:Int))) (AR o0 d λh=>DG o1 o2 h λD=>A5 D (Q d) (next45 (A4 (d+1)))) (Q (-1))) 0
def CQ (o0:List BM) (o1:List Int) (o2:Bool) (Q:(List BM)->Prop):Prop:=
 CT o0 o1 o2 λh=>A5 (h==(-1)) (Q o0) (B4 (λ(s:(List BM)×Int×Int) next239=>match s with | (s236,s237,s238)=>A5 (decide (s238<(s236.length:Int))) (AR s236 s238 λd=>DG o1 o2 d λD=>A5 (!D) (AR s236 s237 λJ=>next239 ((s236.set s237.toNat d),A4 (s237+1),A4 (s238+1))) (next239 (s236,s237,A4 (s238+1)))) (slP s236 s237 (s236.length:Int) λ_=>slP s236 0 s237 λ_=>Q (s236.take s237.toNat))) (o0,h,A4 (h+1)))
def E0 (o0:A1) (a0:Int) (Q:A1->Prop):Prop:=
 YR o0.plan o0.has a0 λO=>CQ o0.sums O.1 O.2 λV=>T9 o0.plan.Kind a0 λU=>dW U o0.rows.Rows V λd=>A5 (d.2==0) (W0 o0.plan o0.has a0 d.1 λJ=>DC ({ o0 with aside:=J,sums:=([]:List BM) }:A1) a0 (d.2 != 0) λh=>Q h) (DC ({ o0 with aside:=o0.has,sums:=([]:List BM) }:A1) a0 (d.2 != 0) λD=>Q D)
def E3 (o0:A1) (a0:AK) (a1:BA) (Q:(Bool×A1)->Prop):Prop:=
 A5 (o0.place.j != 0) (False) (A5 (a1.i != o0.place.i) (False) (A5 (o0.status != 0) (False) (A5 o0.waits (False) (A5 (a0.Round != (A4 (o0.round+1))) (False) (lkP o0.came a1.j false λD=>A5 D (False) (FP o0 a0.Sums λJ=>A5 (!J) (False) (T9 o0.plan.Kind a0.Round λO=>U0 O ([o0.sums,a0.Sums]:List (List BM)) λd=>A5 (((DV a1.j true o0.came).length:Int)==o0.grid.j) (E0 ({ o0 with sums:=d.1,came:=(DV a1.j true o0.came) }:A1) a0.Round λh=>Q (true,h)) (Q (true,({ o0 with sums:=d.1,came:=(DV a1.j true o0.came) }:A1))))))))))
def FE (o0:A1) (Q:Int->Prop):Prop:=
 B4 (λ(s:(List (Int×AK))×Bool×Bool) next214=>match s with | (s211,s212,s213)=>yQ s211 (A5 s212 (Q 3) (A5 (!s213) (Q 1) (A5 (o0.vote==o0.limit) (Q 2) (Q 0)))) (λd h=>A5 s212 (A5 s213 (next214 (h,true,true)) (next214 (h,true,d.2.N != 0))) (A5 s213 (next214 (h,d.2.Over,true)) (next214 (h,d.2.Over,d.2.N != 0))))) (o0.votes,false,false)
def ES (o0:A1) (a0:AK) (a1:BA) (Q:(Bool×A1)->Prop):Prop:=
 AgG o0.votes a1.i ({ Kind:=0,From:=0,To:=0,Seq:=0,Round:=0,Vec:=CL,Sums:=([]:List BM),Triples:=([]:List A2),N:=0,Over:=false }:AK) λO J=>A5 J (False) (A5 (!(o0.place==({ i:=0,j:=0 }:BA))) (False) (A5 o0.closed (False) (A5 (a1.j != 0) (False) (A5 (a0.Round != o0.vote) (False) (A5 (decide (((DV a1.i a0 o0.votes).length:Int)<o0.grid.i)) (Q (true,({ o0 with votes:=(DV a1.i a0 o0.votes) }:A1))) (FE ({ o0 with votes:=(DV a1.i a0 o0.votes) }:A1) λd=>B4 (λ(s:A1×Int) next381=>match s with | (s369,s380)=>A5 (decide (s380<o0.grid.i)) (CI s369 s380 0 λD=>CH s369 ({ Kind:=5,From:=0,To:=D,Seq:=0,Round:=s369.vote,Vec:=CL,Sums:=([]:List BM),Triples:=([]:List A2),N:=d,Over:=false }:AK) λh=>next381 (h,A4 (s380+1))) (Q (true,({ s369 with vote:=A4 (s369.vote+1),votes:=([]:List (Int×AK)),closed:=d != 0 }:A1)))) (({ o0 with votes:=(DV a1.i a0 o0.votes) }:A1),0)))))))
def FQ (o0:A1) (Q:A1->Prop):Prop:=
 kR o0.plan o0.has (A4 (o0.round+1)) λD=>B4 (λ(s:A1×Int) next175=>match s with | (s163,s174)=>A5 (decide (s174<o0.grid.j)) (VT D s163.plan.N s163.grid.i s163.grid.j s163.place.i s174 λh=>CH s163 ({ Kind:=1,From:=0,To:=s174,Seq:=0,Round:=A4 (s163.round+1),Vec:=h,Sums:=([]:List BM),Triples:=([]:List A2),N:=0,Over:=false }:AK) λd=>next175 (d,A4 (s174+1))) (Q ({ s163 with sums:=([]:List BM),came:=([]:List (Int×Bool)) }:A1))) (o0,0)
def E4 (o0:A1) (a0:AK) (a1:BA) (Q:(Bool×A1)->Prop):Prop:=
 EP (λ(D:Int->Prop)=>A5 o0.begun (D (A4 (o0.round+1))) (D 0)) λd=>A5 (o0.place.j != 0) (False) (A5 (!(a1==({ i:=0,j:=0 }:BA))) (False) (A5 (!o0.waits) (False) (A5 (o0.status != 0) (False) (A5 (a0.Round != d) (False) (A5 (decide (a0.N<0)) (False) (A5 (decide (3<a0.N)) (False) (EP (λ(h:A1->Prop)=>EP (λ(J:Bool->Prop)=>A5 (decide (0<d)) (J (a0.N != 3)) (J false)) λU=>A5 U (h ({ o0 with round:=d,status:=a0.N,has:=o0.aside,waits:=false,begun:=true }:A1)) (h ({ o0 with status:=a0.N,waits:=false,begun:=true }:A1))) λO=>A5 (a0.N==0) (FQ O λV=>Q (true,V)) (Q (true,O)))))))))
def F2 (o0:A1) (a0:AK) (Q:(Bool×A1)->Prop):Prop:=
 I3 o0 λW=>A5 (a0.To != W) (False) (A5 (decide (a0.From<0)) (False) (A5 (decide ((A4 (o0.grid.i*o0.grid.j))<=a0.From)) (False) (XH o0.grid.j a0.From λd=>TX o0.grid.j a0.From λh=>A5 (a0.Kind==1) (EE o0 a0 ({ i:=d,j:=h }:BA) λU=>Q (U.1,U.2)) (A5 (a0.Kind==2) (DZ o0 a0 ({ i:=d,j:=h }:BA) λV=>Q (V.1,V.2)) (A5 (a0.Kind==3) (E3 o0 a0 ({ i:=d,j:=h }:BA) λD=>Q (D.1,D.2)) (A5 (a0.Kind==4) (ES o0 a0 ({ i:=d,j:=h }:BA) λJ=>Q (J.1,J.2)) (A5 (a0.Kind==5) (E4 o0 a0 ({ i:=d,j:=h }:BA) λO=>Q (O.1,O.2)) (False))))))))
def KI (o0:A3) (a0:Option Nat) (a1:AK) (Q:(Bool×A3)->Prop):Prop:=
 rH a0 False λb=>tH o0 b λx=>F2 x a1 λd=>Q (d.1,(b,d.2) :: FL b o0)
def HE (o0:AH) (o1:A3) (o2:AP) (a0:Int) (a1:Int) (U:Int) (Q:(Bool×AH×A3×AP)->Prop):Prop:=
 F1 o0 o1 o2 a0 a1 (λ_=>False) (λd=>Q4 d.2.2 d.1 U λh=>A5 (!h.2.1) (Q (false,d.2.1,o1,h.2.2.2)) (AR d.2.1.workers a1 λO=>KI o1 O h.1 λD=>EM d.2.1 D.2 λJ=>Q (true,J,D.2,h.2.2.2)))
def FW (o0:AH) (o1:A3) (o2:AP) (Q:(Bool×AH×A3×AP)->Prop):Prop:=
 B4 (λ(s:AH×Bool×Int×A3×AP) next215=>match s with | (s204,s211,s212,s213,s214)=>A5 (decide (s212<(o0.workers.length:Int))) (JU s204 s213 s214 s212 λd=>A5 d.1 (next215 (d.2.1,true,A4 (s212+1),d.2.2.1,d.2.2.2)) (next215 (d.2.1,s211,A4 (s212+1),d.2.2.1,d.2.2.2))) (IC s204 s214 λO=>B4 (λ(s:AH×Bool×Int×AP×A3) next493=>match s with | (s482,s489,s490,s491,s492)=>A5 (decide (s490<(O.length:Int))) (AR O s490 λJ=>lkP s482.boxes J none λD=>HL s491 D λU=>NJ s491 D λV=>HE s482 s492 s491 J.1 J.2 V λh=>A5 s489 (next493 (h.2.1,true,A4 (s490+1),h.2.2.2,h.2.2.1)) (HL h.2.2.2 D λW=>next493 (h.2.1,decide (W<U),A4 (s490+1),h.2.2.2,h.2.2.1))) (Q (s489,s482,s492,s491))) (s204,s211,0,s214,s213))) (o0,false,0,o1,o2)
def N9 (o0:A3) (o1:AP) (a0:JB) (a1:List tI) (O:Int) (V:(Int×Int×A3×AP)->Prop) (U:(Int×Int×A3×AP×AH)->Prop):Prop:=
 iH a0 a1 O λJ=>A5 (J != 0) (V (0,J,o0,o1)) (SW o0 o1 a0 (λ_=>False) (λd=>A5 (d.1 != 0) (V (0,d.1,d.2.1,o1)) (B4 (λ(_:Unit) next115=>A5 (decide (0<(a1.length:Int))) (AR a1 0 λW=>False) (B4 (λ(s:AH×Int×Int×A3×AP) next244=>match s with | (s233,s240,s241,s242,s243)=>A5 (decide (s241<O)) (CS s233 s242 λD=>A5 D (U (s240,0,s242,s243,s233)) (FW s233 s242 s243 λh=>next244 (h.2.1,A4 (s240+1),A4 (s241+1),h.2.2.1,h.2.2.2))) (U (s240,0,s242,s243,s233))) (d.2.2,0,0,d.2.1,o1))) ())))
def HR (o0:AH) (Q:Int->Prop):Prop:=
 Q (A4 ((o0.history.length:Int) - 1))
def IE (o0:AH) (a0:Int) (Q:(State×Bool)->Prop):Prop:=
 A5 (decide (a0<0)) (Q (G3,false)) (A5 (decide ((o0.history.length:Int)<=a0)) (Q (G3,false)) (AR o0.history a0 λd=>AU d.A λJ=>AU d.B λD=>C0 d.On λh=>Q (({ d with A:=J,B:=D,On:=h }:State),true)))
def HS (o0:AH) (o1:A3) (Q:Result->Prop):Prop:=
 HR o0 λh=>EP (λ(d:Int->Prop)=>CS o0 o1 λU=>A5 U (AR o0.owners 0 λV=>DK o1 V λD=>d D) (d 0)) λO=>IE o0 h λJ=>Q ({ Status:=O,Rounds:=h,State:=J.1 }:Result)
def OR (o0:BR) (Q:Int->Prop):Prop:=
 Q o0.sent
def Q5 (o0:AP) (a0:Option Nat) (Q:Int->Prop):Prop:=
 rH a0 False λb=>tH o0 b λx=>OR x  λd=>Q d
def JV (o0:AH) (o1:AP) (Q:Int->Prop):Prop:=
 B4 (λ(s:(List ((Int×Int)×(Option Nat)))×Int) next78=>match s with | (s76,s77)=>yQ s76 (Q s77) (λD h=>Q5 o1 D.2 λd=>next78 (h,A4 (s77+d)))) (o0.boxes,0)
def U7 (a0:JB) (a1:List tI) (O:Int) (Q:(WO×Int)->Prop):Prop:=
 N9 ([]:A3) ([]:AP) a0 a1 O (λ_=>False) (λd=>A5 (d.2.1 != 0) (Q (({ Result:=({ Status:=0,Rounds:=0,State:=G3 }:Result),Sent:=0,Windows:=0 }:WO),d.2.1)) (HS d.2.2.2.2 d.2.2.1 λD=>JV d.2.2.2.2 d.2.2.2.1 λh=>CS d.2.2.2.2 d.2.2.1 λJ=>A5 (!J) (Q (({ Result:=({ D with Status:=4 }:Result),Sent:=h,Windows:=d.1 }:WO),d.2.1)) (Q (({ Result:=D,Sent:=h,Windows:=d.1 }:WO),d.2.1))))
def kV (a0:Graph) (a1:Int) (U:Int) (O:Int) (Q:((List Int)×(List Int)×Int)->Prop):Prop:=
 TO a0 a1 U O λh=>U2 h h.Limit λJ=>U7 h ([]:List tI) J λd=>A5 (d.2 != 0) (Q (([]:List Int),([]:List Int),d.2)) (oH d.1.Result.State λD=>Q (D.1,D.2,d.2))
def eI (a0:Graph) (a1:Int) (U:Int) (O:Int) (Q:((List Int)×Int)->Prop):Prop:=
 bF a0 a1 U O λh=>U2 h h.Limit λJ=>U7 h ([]:List tI) J λd=>A5 (d.2 != 0) (Q (([]:List Int),d.2)) (AU d.1.Result.State.A λD=>Q (D,d.2))
def WR (a0:NC) (a1:Int) (Q:Bool->Prop):Prop:=
 N5 a0 λd=>kV d.1 d.2.1 d.2.2.1 d.2.2.2 λh=>eI d.1 d.2.1 d.2.2.2 d.2.2.1 λJ=>FM a1 d.1.N λD=>A5 (h.2.2 != 0) (Q false) (A5 (J.2 != 0) (Q false) (A5 ((h.1.length:Int) != d.1.N) (Q false) (A5 ((J.1.length:Int) != d.1.N) (Q false) (AR h.1 D λx118=>AR J.1 D λV=>A5 (!((decide (x118<0))==(V==4611686018427387904))) (Q false) (AR h.1 D λW=>A5 (decide (W<0)) (AR h.1 d.2.1 λx194=>A5 (x194==0) (AR J.1 d.2.1 λx204=>Q (x204==0)) (Q false)) (bG h.1 h.2.1 D λO=>dY d.1 d.2.1 J.1 D λr245=>ST d.1 O λU=>A5 U.2 (AR J.1 D λZ=>A5 (decide (Z<=U.1)) (A5 (decide ((O.length:Int)<=(r245.length:Int))) (AR h.1 D λx277=>Q ((O.length:Int)==(A4 (x277+1)))) (Q false)) (Q false)) (Q false)))))))
abbrev qB (d:NC) (h:Option Addr) (D:Nat):Array Value:=#[.int .i64 d.G.N,.slice h d.G.Edges.length D,.int .i64 d.V,.int .u8 d.R,.int .u8 d.C]
abbrev bI (d:JB) (h:aTa):Array Value:=#[.int .i64 d.Plan.Kind,.int .i64 d.Plan.N,.int .i64 d.Plan.Source,.int .i64 d.Plan.Length,.slice h.1.1 d.Plan.Draws.length h.1.2,.int .i64 d.Graph.N,.slice h.2.1.1 d.Graph.Edges.length h.2.1.2,.int .i64 d.R,.int .i64 d.C,.int .i64 d.Room,.int .i64 d.Limit,.slice h.2.2.1 d.Choices.length h.2.2.2]
abbrev M9 (d:Plan) (h:Option Addr) (D:Nat):Array Value:=#[.int .i64 d.Kind,.int .i64 d.N,.int .i64 d.Source,.int .i64 d.Length,.slice h d.Draws.length D]
abbrev LF (h:Rows) (d:aTb):Array Value:=#[.int .i64 h.Rows,.int .i64 h.Cols,.slice d.1.1 h.Start.length d.1.2,.slice d.2.1.1 h.Col.length d.2.1.2,.slice d.2.2.1 h.Val.length d.2.2.2]
abbrev FG (h:BB) (d:aTd):Array Value:=#[.int .i64 h.Rows,.int .i64 h.Cols,.slice d.1.1 h.At.length d.1.2,.slice d.2.1.1 h.Start.length d.2.1.2,.slice d.2.2.1.1 h.Row.length d.2.2.1.2,.slice d.2.2.2.1 h.Val.length d.2.2.2.2]
abbrev GW (h:State) (d:aTg):Array Value:=#[.int .i64 h.Low,.int .i64 h.High,.slice d.1.1 h.A.length d.1.2,.slice d.2.1.1 h.B.length d.2.1.2,.slice d.2.2.1 h.On.length d.2.2.2]
abbrev JW (d:AK) (h:aTh):Array Value:=#[.int .i64 d.Kind,.int .i64 d.From,.int .i64 d.To,.int .i64 d.Seq,.int .i64 d.Round,.int .i64 d.Vec.N,.slice h.1.1 d.Vec.Items.length h.1.2,.slice h.2.1.1 d.Sums.length h.2.1.2,.slice h.2.2.1 d.Triples.length h.2.2.2,.int .i64 d.N,.bool d.Over]
abbrev LG (h:Dense) (d:aTi):Array Value:=#[.int .i64 h.N,.slice d.1.1 h.Has.length d.1.2,.slice d.2.1 h.Vals.length d.2.2]
abbrev AoT (d:iF) (h:aTj):Array Value:=#[.int .i64 d.Form,.int .i64 d.Vec.N,.slice h.1.1 d.Vec.Items.length h.1.2,.int .i64 d.Dense.N,.slice h.2.1.1 d.Dense.Has.length h.2.1.2,.slice h.2.2.1 d.Dense.Vals.length h.2.2.2]
abbrev YV (h:GX) (d:aTk):Array Value:=#[.int .i64 h.Ring,.int .i64 h.Rows.Rows,.int .i64 h.Rows.Cols,.slice d.1.1.1 h.Rows.Start.length d.1.1.2,.slice d.1.2.1.1 h.Rows.Col.length d.1.2.1.2,.slice d.1.2.2.1 h.Rows.Val.length d.1.2.2.2,.int .i64 h.Cols.Rows,.int .i64 h.Cols.Cols,.slice d.2.1.1.1 h.Cols.At.length d.2.1.1.2,.slice d.2.1.2.1.1 h.Cols.Start.length d.2.1.2.1.2,.slice d.2.1.2.2.1.1 h.Cols.Row.length d.2.1.2.2.1.2,.slice d.2.1.2.2.2.1 h.Cols.Val.length d.2.1.2.2.2.2,.int .i64 h.X.Form,.int .i64 h.X.Vec.N,.slice d.2.2.1.1.1 h.X.Vec.Items.length d.2.2.1.1.2,.int .i64 h.X.Dense.N,.slice d.2.2.1.2.1.1 h.X.Dense.Has.length d.2.2.1.2.1.2,.slice d.2.2.1.2.2.1 h.X.Dense.Vals.length d.2.2.1.2.2.2,.slice d.2.2.2.1 h.Set.length d.2.2.2.2,.bool h.Others,.int .i64 h.Way]
abbrev oI (d:AF) (J:Option Addr) (O:Nat) (h:Option Addr) (D:Nat):Array Value:=#[.slice J d.heads.length O,.int .i64 d.r,.slice h d.out.length D]
abbrev AsD (d:WO) (h:aTg):Array Value:=#[.int .i64 d.Result.Status,.int .i64 d.Result.Rounds,.int .i64 d.Result.State.Low,.int .i64 d.Result.State.High,.slice h.1.1 d.Result.State.A.length h.1.2,.slice h.2.1.1 d.Result.State.B.length h.2.1.2,.slice h.2.2.1 d.Result.State.On.length h.2.2.2,.int .i64 d.Sent,.int .i64 d.Windows]
abbrev FX (d:A1) (h:aTn) (V:Option Addr) (D:Nat) (U:Nat) (J:Option Addr) (O:Nat) (Z:Nat) (W:Nat):Array Value:=#[.int .i64 d.place.i,.int .i64 d.place.j,.int .i64 d.plan.Kind,.int .i64 d.plan.N,.int .i64 d.plan.Source,.int .i64 d.plan.Length,.slice h.1.1 d.plan.Draws.length h.1.2,.int .i64 d.grid.i,.int .i64 d.grid.j,.int .i64 d.limit,.slice h.2.1.1 d.choices.length h.2.1.2,.int .i64 d.rows.Rows,.int .i64 d.rows.Cols,.slice h.2.2.1.1.1 d.rows.Start.length h.2.2.1.1.2,.slice h.2.2.1.2.1.1 d.rows.Col.length h.2.2.1.2.1.2,.slice h.2.2.1.2.2.1 d.rows.Val.length h.2.2.1.2.2.2,.int .i64 d.cols.Rows,.int .i64 d.cols.Cols,.slice h.2.2.2.1.1.1 d.cols.At.length h.2.2.2.1.1.2,.slice h.2.2.2.1.2.1.1 d.cols.Start.length h.2.2.2.1.2.1.2,.slice h.2.2.2.1.2.2.1.1 d.cols.Row.length h.2.2.2.1.2.2.1.2,.slice h.2.2.2.1.2.2.2.1 d.cols.Val.length h.2.2.2.1.2.2.2.2,.slice V d.out.length D,.int .i64 d.share,.map (some U),.int .i64 d.spread,.int .i64 d.round,.int .i64 d.status,.int .i64 d.has.Low,.int .i64 d.has.High,.slice h.2.2.2.2.1.1.1 d.has.A.length h.2.2.2.2.1.1.2,.slice h.2.2.2.2.1.2.1.1 d.has.B.length h.2.2.2.2.1.2.1.2,.slice h.2.2.2.2.1.2.2.1 d.has.On.length h.2.2.2.2.1.2.2.2,.int .i64 d.aside.Low,.int .i64 d.aside.High,.slice h.2.2.2.2.2.1.1 d.aside.A.length h.2.2.2.2.2.1.2,.slice h.2.2.2.2.2.2.1.1 d.aside.B.length h.2.2.2.2.2.2.1.2,.slice h.2.2.2.2.2.2.2.1 d.aside.On.length h.2.2.2.2.2.2.2.2,.bool d.waits,.bool d.begun,.slice J d.sums.length O,.map (some Z),.int .i64 d.vote,.map (some W),.bool d.closed]
abbrev LH (d:A1) (h:aTo) (q1:Option Addr) (q2:Nat) (q3:Nat) (q4:Option Addr) (q5:Nat) (q6:Option Addr) (q7:Nat) (q8:Option Addr) (q9:Nat) (q10:Option Addr) (q11:Nat) (U:Option Addr) (J:Nat) (W:Option Addr) (D:Nat) (Z:Option Addr) (O:Nat) (q18:Nat) (V:Nat):Array Value:=#[.int .i64 d.place.i,.int .i64 d.place.j,.int .i64 d.plan.Kind,.int .i64 d.plan.N,.int .i64 d.plan.Source,.int .i64 d.plan.Length,.slice h.1.1 d.plan.Draws.length h.1.2,.int .i64 d.grid.i,.int .i64 d.grid.j,.int .i64 d.limit,.slice h.2.1.1 d.choices.length h.2.1.2,.int .i64 d.rows.Rows,.int .i64 d.rows.Cols,.slice h.2.2.1.1.1 d.rows.Start.length h.2.2.1.1.2,.slice h.2.2.1.2.1.1 d.rows.Col.length h.2.2.1.2.1.2,.slice h.2.2.1.2.2.1 d.rows.Val.length h.2.2.1.2.2.2,.int .i64 d.cols.Rows,.int .i64 d.cols.Cols,.slice h.2.2.2.1.1 d.cols.At.length h.2.2.2.1.2,.slice h.2.2.2.2.1.1 d.cols.Start.length h.2.2.2.2.1.2,.slice h.2.2.2.2.2.1.1 d.cols.Row.length h.2.2.2.2.2.1.2,.slice h.2.2.2.2.2.2.1 d.cols.Val.length h.2.2.2.2.2.2.2,.slice q1 d.out.length q2,.int .i64 d.share,.map (some q3),.int .i64 d.spread,.int .i64 d.round,.int .i64 d.status,.int .i64 d.has.Low,.int .i64 d.has.High,.slice q4 d.has.A.length q5,.slice q6 d.has.B.length q7,.slice q8 d.has.On.length q9,.int .i64 d.aside.Low,.int .i64 d.aside.High,.slice q10 d.aside.A.length q11,.slice U d.aside.B.length J,.slice W d.aside.On.length D,.bool d.waits,.bool d.begun,.slice Z d.sums.length O,.map (some q18),.int .i64 d.vote,.map (some V),.bool d.closed]
abbrev FR (d:AH) (h:aTq) (O:Nat) (D:Option Addr) (J:Nat):Array Value:=#[.int .i64 d.setup.Plan.Kind,.int .i64 d.setup.Plan.N,.int .i64 d.setup.Plan.Source,.int .i64 d.setup.Plan.Length,.slice h.1.1.1 d.setup.Plan.Draws.length h.1.1.2,.int .i64 d.setup.Graph.N,.slice h.1.2.1.1 d.setup.Graph.Edges.length h.1.2.1.2,.int .i64 d.setup.R,.int .i64 d.setup.C,.int .i64 d.setup.Room,.int .i64 d.setup.Limit,.slice h.1.2.2.1 d.setup.Choices.length h.1.2.2.2,.slice h.2.1.1 d.workers.length h.2.1.2,.map (some O),.slice h.2.2.1 d.owners.length h.2.2.2,.slice D d.history.length J]
abbrev AdL (d:BR) (J:Option Addr) (O:Nat) (h:Nat) (D:Nat):Array Value:=#[.int .i64 d.room,.slice J d.row.length O,.map (some h),.map (some D),.int .i64 d.sent,.int .i64 d.taken]
abbrev AsE (d:Result) (h:aTg):Array Value:=#[.int .i64 d.Status,.int .i64 d.Rounds,.int .i64 d.State.Low,.int .i64 d.State.High,.slice h.1.1 d.State.A.length h.1.2,.slice h.2.1.1 d.State.B.length h.2.1.2,.slice h.2.2.1 d.State.On.length h.2.2.2]
theorem tv:True:=trivial
def AgM (x:B0):Prop:=(inR .i64) x.From∧(inR .i64) x.To∧(inR .i64) x.W
def Aj3 (x:Graph):Prop:=(inR .i64) x.N∧(λxs=>(∀ x∈xs,AgM x)∧xs.length<=maxLen) x.Edges
def YW (x:NC):Prop:=Aj3 x.G∧(inR .i64) x.V∧(inR .u8) x.R∧(inR .u8) x.C
end Go.Proofs.YtieniichmjgmcaaGreat
