import Derived.Test.YtcecodhleocefaaGreatB
import Derived.Shelf.SlSortCmp.WholeK
import Derived.Shelf.SlSortCmp.NoneTotal
import Derived.Shelf.Sort.Plain
import Derived.Shelf.Slices.In.SortNone
set_option linter.unusedVariables false
set_option linter.unusedSimpArgs false
set_option maxRecDepth 100000
set_option maxHeartbeats 1000000
namespace Go.Fw
open Go Go.RowKit Go.Shelf Go.Lib Go.Sort Go.Proofs
section
variable {P:Program} {α:Type}
def AeU (h:α->α->(Int->Prop)->Prop) (xs:List α) (K:List α->Prop):Prop:=
 ∃ d:α->α->Int,(∀ x y (Q:Int->Prop),Q (d x y)->h x y Q)∧SWO (ltOf d)∧xs.length<4611686018427387904∧∀ ys:List α,ys.Perm xs->ys.Pairwise (λx y=>0<=d y x)->K ys
theorem Am4 {W w':World} (U:At6 W (λ_=>False) w'):∃ q Z,w'=grow (W.drewN q) Z:=by
 refine⟨w'.drawn - W.drawn,w'.heap.extract W.heap.size w'.heap.size,?_⟩;have⟨h,D,J,_,_,O⟩:=U
 have V:w'.heap=W.heap++w'.heap.extract W.heap.size w'.heap.size:=by
  apply Array.ext_getElem?;intro i;rcases Z1 i W.heap.size with hi | hi
  . rw[O i hi (λx=>x),Av8 hi]
  . rw[Array.getElem?_append_right hi,Array.getElem?_extract];split
    . congr 1; omega
    . rw[Array.getElem?_eq_none (by omega)]
 have d:W.drawn+(w'.drawn - W.drawn)=w'.drawn:=by omega
 cases w';simp only at V h D J d;simp only[grow,World.drewN,d,<-h,<-D,<-J];congr 1
theorem Am5 {W:World} {q:Nat} {d:Array Obj}:At6 W (λ_=>False) (grow (W.drewN q) d):=
 ⟨rfl,rfl,rfl,by simp[grow,World.drewN],by simp[grow,World.drewN],λ_ h _=>by simp[grow,World.drewN,Av8 h]⟩
theorem Fun.sort [Inhabited α] {ρ:Ren} (L:SlLaysF0.n6 P ρ) {k:Nat} (aE:∀ w,(isAgg (ρ.t 24)).run P w=.ok true w) (zE:∀ w,(Go.sizeOf (ρ.t 24)).run P w=.ok k w) {enc:α->List Value} {hk:∀ x,(enc x).length=k∧OV (enc x)=true}
    {c1:α->α->(Int->Prop)->Prop} {g:Nat} (hc:∀ (x y:α) (d1:IH) (Q:Int->Prop),c1 x y Q->B7 P g [.agg (enc x).toArray,.agg (enc y).toArray] d1 λ_ v=>∃ r,v=.int .i64 r∧Q r)
    (eg:∀ args w,(callFunc g args).run P w=.ok (.enter g args) w) {I:IH} {T:TypeId} {a:Option Addr} {cap:Nat} {xs:List α} {K:List α->Prop} (hd:AeU c1 xs K) :
    Fun P (ρ.f 6) #[.slice a xs.length cap,.func (.func g) #[] #[]] I [OwnSl (LP k enc hk) T a cap xs] λ_ v l=>∃ ys,v=.tuple #[]∧ys.length=xs.length∧l=[OwnSl (LP k enc hk) T a cap ys]∧K ys:=by
  have⟨W,d7,hO,f3,hK⟩:=hd;intro w a4 hI hs hh a6;have s0:=Fun.start hI hs hh a6;have⟨g1,g2,f9,e8,e9,ha,f1⟩:=hs;rcases ha with⟨rfl,rfl,rfl⟩ | ⟨b,c,rfl,hb,c2,a5,g0⟩
  . refine(AnyF.slices_SortFunc_none L none 0 (.func (.func g) #[] #[]) w).mono λe w' V=>?_;obtain⟨rfl,rfl⟩:=V;exact⟨_,I,_,rfl,IH.le.refl _,⟨[],rfl,rfl,rfl,hK [] (.refl _) .nil⟩,s0⟩
  . have c0:Sym w (λb=>a4 b≠none) I I [pto b (.cells c T (0,0))] w:=by have⟨hB,hi,hn,q,_,hq,_,_⟩:=s0;exact⟨hB,hi,hn,a4,⟨g1,g2,f9,e8,e9,hb,f1⟩,hh,a6,λb hb=>.inl hb⟩
    have hw:=c0.pto;have f6:b<w.heap.size:=(Array.getElem?_eq_some_iff.1 hw).1;have g3:∀ j,w.cell? ⟨b,j,none⟩=c[j]?:=λj=>by rw[NN hw]
    have f8:c.size=cap*k:=a5
    have hH:HoldsK enc k w b 0 xs.toArray:=by
      intro j h;rw[size_flatK] at h;simp only[AoT] at h
      have e7 : 0 < k := by
        rcases jF k with e | e
        . subst e; simp at h
        . exact e
      have a8:j / k<xs.length:=AoN (by rw[pI]; exact h);have e6:j % k<k:=rH _ e7;have hx:xs[j / k]? = some xs[j / k]:=gJ a8;have⟨cs,O,U⟩:=g0 _ _ hx;have d2:cs=enc xs[j / k]:=O;subst d2;have d0:j % k<(enc xs[j / k]).length:=by rw[(hk _).1]; exact e6
      have J:=U (j % k) _ (gJ d0);have d8:j / k*k+j % k=j:=by rw[pI]; exact AhH j k
      have d3:c[j]? = some (enc xs[j / k])[j % k]:=by
        have h3:c[j / k*k+j % k]? = some (enc xs[j / k])[j % k]:=J
        rwa [d8] at h3
      refine⟨?_,by simp[World.frozen?,hw]⟩;rw[jH,g3,d3,get_flatK _ _ _ _ (by simpa using h)];simp[a8,d0]
    have f7:CmpLays P g #[] enc k W b 0 xs.toArray.size w:=by intro m os dk g6 x y;have:=hc x y (λ_=>none) (λr=>r=W x y) (d7 x y _ rfl) (sortWorldK enc k w b 0 m dk os) (λ_=>none) (λ_ _ e=>nomatch e) trivial (λ_ _ e=>nomatch e) (λ_=>.inl rfl);refine Calls.mono (by simpa using this) λe w' V=>?_;obtain⟨v,_,_,rfl,_,⟨_,r,rfl,rfl⟩,hs'⟩:=V;exact⟨rfl,Am4 ⟨hs'.base.os,hs'.base.tape,hs'.base.output,hs'.base.drawn,hs'.base.size,λb Z J=>hs'.base.block b Z (by simp)⟩⟩
    refine(AnyQ.slices_SortFunc L k aE zE enc (λx=>(hk x).1) (λx v hv=>XU (hk x).2 v hv) W hO g #[] b 0 cap xs.toArray w eg f7 hH f6 (by simpa using f3)).mono λe w' V=>?_;obtain⟨rfl,d,n,os,hp,f2,rfl⟩:=V;have⟨f0,_,b1⟩:=hp;have a2:d.size=xs.length:=by simpa using f0
    have g4:d.toList.Perm xs:=by
      have O:d.extract 0 xs.toArray.size=d:=by rw[Av7]; simp[a2]
      have U:xs.toArray.extract 0 xs.toArray.size=xs.toArray:=by rw[Av7]; simp
      rw[O,U] at b1; simpa using b1
    have g5:d.toList.Pairwise (λx y=>0<=W y x):=by rw[AlT];intro i j hi h e3;have:=f2 i j (Aa9 _) e3 (by simp at h; simp; omega);simp only[AhF] at hi h;unfold ltOf at this;simp only[hi,h,getElem!_pos,decide_eq_false_iff_not] at this;simp only[Array.getElem_toList];omega
    refine⟨_,I,_,rfl,IH.le.refl _,⟨d.toList,rfl,by simpa using a2,rfl,hK _ g4 g5⟩,?_⟩
    -- memory behind the sort
    have g7:(flatK enc k d).size=xs.length*k:=by rw[size_flatK,a2]
    have g8:xs.length*k<=cap*k:=uM _ c2
    obtain⟨D,d4,d5,d6⟩:∃ D:Array Value,(putRowK enc k w b 0 d).heap[b]? = some (.cells D T (0,0))∧D.size=c.size∧∀ j,j<(flatK enc k d).size->D[j]? = some (flatK enc k d)[j]!:=by
      refine⟨putCells id 0 (flatK enc k d) c,?_,by simp[putCells],λj h=>?_⟩
      . simp[putRowK,putRow,mapBlock,AoM,hw,onCells]
      . have e5:j<c.size:=by rw[f8]; omega
        simp[putCells,e5];intro a4;rw[size_flatK] at h;omega
    have f4:=c0.upd (o':=.cells D T (0,0)) (w':=putRowK enc k w b 0 d) rfl rfl rfl rfl (by simp[putRowK,putRow,mapBlock])
      (λq hq=>by simp[putRowK,putRow,mapBlock,AoM,Ne.symm hq]) d4
    have d9:=f4.grown (w':=grow ((putRowK enc k w b 0 d).drewN n) os) Am5;refine Sym.weaken (A:=pto b (.cells D T (0,0))) d9 λq hq=>.inr ⟨b,D,rfl,hq,by simp[a2]; exact c2,by rw[d5]; exact a5,λi x hx=>⟨enc x,rfl,λj v h=>?_⟩⟩;have a7:i<d.size:=by have:=(List.getElem?_eq_some_iff.1 hx).1; simpa using this
    have f5:d[i]! = x:=by rw[getElem!_pos d i a7]; have:=List.getElem?_eq_some_iff.1 hx; have⟨Z,J⟩:=this; simpa using J
    have a9:j<k:=by have:=(List.getElem?_eq_some_iff.1 h).1; rwa [(hk x).1] at this
    have b0:i*k+j<(flatK enc k d).size:=by rw[size_flatK];have:(i+1)*k<=d.size*k:=uM _ a7;rw[XT,AbV] at this; omega
    show D[i*k+j]? = some v;rw[d6 _ b0,get_flatK _ _ _ _ (by rwa [size_flatK] at b0)];have O:(i*k+j) / k=i:=by rw[pI,AhG (by omega),AeB a9]; rfl
    have U:(i*k+j) % k=j:=by rw[pI,AoY,AjM a9]
    rw[O,U,f5];have e4:=List.getElem?_eq_some_iff.1 h;have⟨Z,J⟩:=e4;rw[getElem!_pos (enc x) j Z,J]
end
section
variable {P:Program}
end
end Go.Fw
namespace Go.Proofs.YtcecodhleocefaaGreat
open Go Go.Fw
abbrev B2:EE Int:=LP 1 (λx=>[.int .i64 x]) (λ_=>⟨rfl,rfl⟩)
abbrev JT:EE Int:=LP 1 (λx=>[.int .u64 x]) (λ_=>⟨rfl,rfl⟩)
abbrev eU8:EE Int:=LP 1 (λx=>[.int .u8 x]) (λ_=>⟨rfl,rfl⟩)
abbrev eB:EE Bool:=LP 1 (λx=>[.bool x]) (λ_=>⟨rfl,rfl⟩)
structure B5 where
 From:Int
 To:Int
 W:Int
deriving DecidableEq,Inhabited
def L9 (x:B5):List Value:=[.int .i64 x.From,.int .i64 x.To,.int .i64 x.W]
abbrev CC:EE B5:=LP 3 L9 (λ_=>⟨rfl,rfl⟩)
structure Graph where
 N:Int
 Edges:List B5
deriving DecidableEq,Inhabited
def Aw4:EE Graph where
 sz:=2
 rep I cs x:=∃ a1 c1,cs=[.int .i64 x.N,.slice a1 x.Edges.length c1]∧RepSl CC I a1 c1 x.Edges
 mono hle:=λ⟨a1,c1,e,h0⟩=>⟨a1,c1,e,h0.mono hle⟩
 len:=λ⟨a1,c1,e,_⟩=>by rw[e]; rfl
 one:=λ⟨a1,c1,e,_⟩=>by rw[e]; rfl
structure Plan where
 Kind:Int
 N:Int
 Source:Int
 Length:Int
 Draws:List Int
deriving DecidableEq,Inhabited
def AxT:EE Plan where
 sz:=5
 rep I cs x:=∃ a4 c4,cs=[.int .i64 x.Kind,.int .i64 x.N,.int .i64 x.Source,.int .i64 x.Length,.slice a4 x.Draws.length c4]∧RepSl B2 I a4 c4 x.Draws
 mono hle:=λ⟨a4,c4,e,h0⟩=>⟨a4,c4,e,h0.mono hle⟩
 len:=λ⟨a4,c4,e,_⟩=>by rw[e]; rfl
 one:=λ⟨a4,c4,e,_⟩=>by rw[e]; rfl
structure JU where
 P:Plan
 G:Graph
 Limit:Int
deriving DecidableEq,Inhabited
abbrev aTa:Type:=(Option Addr×Nat)×(Option Addr×Nat)
def lTa (I:IH) (x:aTa) (o:JU):Prop:=RepSl B2 I x.1.1 x.1.2 o.P.Draws∧RepSl CC I x.2.1 x.2.2 o.G.Edges
theorem mTa {I J:IH} {x:aTa} {o:JU} (h:IH.le I J) (k:lTa I x o):lTa J x o:=⟨k.1.mono h,k.2.mono h⟩
def AeX:EE JU where
 sz:=8
 rep I cs x:=∃ a:aTa,cs=[.int .i64 x.P.Kind,.int .i64 x.P.N,.int .i64 x.P.Source,.int .i64 x.P.Length,.slice a.1.1 x.P.Draws.length a.1.2,.int .i64 x.G.N,.slice a.2.1 x.G.Edges.length a.2.2,.int .u8 x.Limit]∧lTa I a x
 mono hle:=λ⟨a,e,h⟩=>⟨a,e,mTa hle h⟩
 len:=λ⟨a,e,_⟩=>by rw[e]; rfl
 one:=λ⟨a,e,_⟩=>by rw[e]; rfl
structure HP where
 Way:Int
 Form:Int
deriving DecidableEq,Inhabited
def AaG (x:HP):List Value:=[.int .i64 x.Way,.int .i64 x.Form]
abbrev RM:EE HP:=LP 2 AaG (λ_=>⟨rfl,rfl⟩)
structure KG where
 Plan:Plan
 Graph:Graph
 R:Int
 C:Int
 Room:Int
 Limit:Int
 Choices:List HP
deriving DecidableEq,Inhabited
abbrev aTc:Type:=(Option Addr×Nat)×(Option Addr×Nat)×(Option Addr×Nat)
def lTc (I:IH) (x:aTc) (o:KG):Prop:=RepSl B2 I x.1.1 x.1.2 o.Plan.Draws∧RepSl CC I x.2.1.1 x.2.1.2 o.Graph.Edges∧RepSl RM I x.2.2.1 x.2.2.2 o.Choices
theorem mTc {I J:IH} {x:aTc} {o:KG} (h:IH.le I J) (k:lTc I x o):lTc J x o:=⟨k.1.mono h,k.2.1.mono h,k.2.2.mono h⟩
structure JV where
 Model:JU
 R:Int
 C:Int
 Room:Int
 Choices:List HP
deriving DecidableEq,Inhabited
abbrev aTb:Type:=aTa×(Option Addr×Nat)
def lTb (I:IH) (x:aTb) (o:JV):Prop:=lTa I x.1 o.Model∧RepSl RM I x.2.1 x.2.2 o.Choices
theorem mTb {I J:IH} {x:aTb} {o:JV} (h:IH.le I J) (k:lTb I x o):lTb J x o:=⟨mTa h k.1,k.2.mono h⟩
def AeY:EE JV where
 sz:=12
 rep I cs x:=∃ a:aTb,cs=[.int .i64 x.Model.P.Kind,.int .i64 x.Model.P.N,.int .i64 x.Model.P.Source,.int .i64 x.Model.P.Length,.slice a.1.1.1 x.Model.P.Draws.length a.1.1.2,.int .i64 x.Model.G.N,.slice a.1.2.1 x.Model.G.Edges.length a.1.2.2,.int .u8 x.Model.Limit,.int .u8 x.R,.int .u8 x.C,.int .u8 x.Room,.slice a.2.1 x.Choices.length a.2.2]∧lTb I a x
 mono hle:=λ⟨a,e,h⟩=>⟨a,e,mTb hle h⟩
 len:=λ⟨a,e,_⟩=>by rw[e]; rfl
 one:=λ⟨a,e,_⟩=>by rw[e]; rfl
structure AQ where
 Hi:Int
 Lo:Int
deriving DecidableEq,Inhabited
abbrev NW:AQ:={ Hi:=0,Lo:=0 }
def F5 (x:AQ):List Value:=[.int .i64 x.Hi,.int .u64 x.Lo]
abbrev W3:EE AQ:=LP 2 F5 (λ_=>⟨rfl,rfl⟩)
structure Rows where
 Rows:Int
 Cols:Int
 Start:List Int
 Col:List Int
 Val:List Int
deriving DecidableEq,Inhabited
abbrev SQ:Rows:={ Rows:=0,Cols:=0,Start:=([]:List Int),Col:=([]:List Int),Val:=([]:List Int) }
abbrev aTd:Type:=(Option Addr×Nat)×(Option Addr×Nat)×(Option Addr×Nat)
def pF (I:IH) (x:aTd) (o:Rows):Prop:=RepSl B2 I x.1.1 x.1.2 o.Start∧RepSl B2 I x.2.1.1 x.2.1.2 o.Col∧RepSl B2 I x.2.2.1 x.2.2.2 o.Val
theorem mTd {I J:IH} {x:aTd} {o:Rows} (h:IH.le I J) (k:pF I x o):pF J x o:=⟨k.1.mono h,k.2.1.mono h,k.2.2.mono h⟩
structure A5 where
 Row:Int
 Col:Int
 Val:Int
deriving DecidableEq,Inhabited
def pW (x:A5):List Value:=[.int .i64 x.Row,.int .i64 x.Col,.int .i64 x.Val]
abbrev JW:EE A5:=LP 3 pW (λ_=>⟨rfl,rfl⟩)
structure ET where
 Kind:Int
 A:Int
 B:Int
 K:Int
deriving DecidableEq,Inhabited
def fG (x:ET):List Value:=[.int .i64 x.Kind,.int .i64 x.A,.int .i64 x.B,.int .i64 x.K]
abbrev NC:EE ET:=LP 4 fG (λ_=>⟨rfl,rfl⟩)
structure State where
 Low:Int
 High:Int
 A:List Int
 B:List Int
 On:List Int
deriving DecidableEq,Inhabited
abbrev DL:State:={ Low:=0,High:=0,A:=([]:List Int),B:=([]:List Int),On:=([]:List Int) }
abbrev aTf:Type:=(Option Addr×Nat)×(Option Addr×Nat)×(Option Addr×Nat)
def X6 (I:IH) (x:aTf) (o:State):Prop:=RepSl B2 I x.1.1 x.1.2 o.A∧RepSl B2 I x.2.1.1 x.2.1.2 o.B∧RepSl JT I x.2.2.1 x.2.2.2 o.On
theorem mTf {I J:IH} {x:aTf} {o:State} (h:IH.le I J) (k:X6 I x o):X6 J x o:=⟨k.1.mono h,k.2.1.mono h,k.2.2.mono h⟩
def N3:EE State where
 sz:=5
 rep I cs x:=∃ a:aTf,cs=[.int .i64 x.Low,.int .i64 x.High,.slice a.1.1 x.A.length a.1.2,.slice a.2.1.1 x.B.length a.2.1.2,.slice a.2.2.1 x.On.length a.2.2.2]∧X6 I a x
 mono hle:=λ⟨a,e,h⟩=>⟨a,e,mTf hle h⟩
 len:=λ⟨a,e,_⟩=>by rw[e]; rfl
 one:=λ⟨a,e,_⟩=>by rw[e]; rfl
structure B3 where
 At:Int
 Val:Int
deriving DecidableEq,Inhabited
def W4 (x:B3):List Value:=[.int .i64 x.At,.int .i64 x.Val]
abbrev BX:EE B3:=LP 2 W4 (λ_=>⟨rfl,rfl⟩)
structure BE where
 Rows:Int
 Cols:Int
 At:List Int
 Start:List Int
 Row:List Int
 Val:List Int
deriving DecidableEq,Inhabited
abbrev aTg:Type:=(Option Addr×Nat)×(Option Addr×Nat)×(Option Addr×Nat)×(Option Addr×Nat)
def yI (I:IH) (x:aTg) (o:BE):Prop:=RepSl B2 I x.1.1 x.1.2 o.At∧RepSl B2 I x.2.1.1 x.2.1.2 o.Start∧RepSl B2 I x.2.2.1.1 x.2.2.1.2 o.Row∧RepSl B2 I x.2.2.2.1 x.2.2.2.2 o.Val
theorem mTg {I J:IH} {x:aTg} {o:BE} (h:IH.le I J) (k:yI I x o):yI J x o:=⟨k.1.mono h,k.2.1.mono h,k.2.2.1.mono h,k.2.2.2.mono h⟩
structure BK where
 At:Int
 Val:AQ
deriving DecidableEq,Inhabited
def AhX (x:BK):List Value:=[.int .i64 x.At,.int .i64 x.Val.Hi,.int .u64 x.Val.Lo]
abbrev EZ:EE BK:=LP 3 AhX (λ_=>⟨rfl,rfl⟩)
structure Vec where
 N:Int
 Items:List B3
deriving DecidableEq,Inhabited
abbrev CK:Vec:={ N:=0,Items:=([]:List B3) }
def gP:EE Vec where
 sz:=2
 rep I cs x:=∃ a1 c1,cs=[.int .i64 x.N,.slice a1 x.Items.length c1]∧RepSl BX I a1 c1 x.Items
 mono hle:=λ⟨a1,c1,e,h0⟩=>⟨a1,c1,e,h0.mono hle⟩
 len:=λ⟨a1,c1,e,_⟩=>by rw[e]; rfl
 one:=λ⟨a1,c1,e,_⟩=>by rw[e]; rfl
structure AU where
 Kind:Int
 From:Int
 To:Int
 Seq:Int
 Round:Int
 Vec:Vec
 Sums:List BK
 Triples:List A5
 N:Int
 Over:Bool
deriving DecidableEq,Inhabited
abbrev aTj:Type:=(Option Addr×Nat)×(Option Addr×Nat)×(Option Addr×Nat)
def tQ (I:IH) (x:aTj) (o:AU):Prop:=RepSl BX I x.1.1 x.1.2 o.Vec.Items∧RepSl EZ I x.2.1.1 x.2.1.2 o.Sums∧RepSl JW I x.2.2.1 x.2.2.2 o.Triples
theorem mTj {I J:IH} {x:aTj} {o:AU} (h:IH.le I J) (k:tQ I x o):tQ J x o:=⟨k.1.mono h,k.2.1.mono h,k.2.2.mono h⟩
def GG:EE AU where
 sz:=11
 rep I cs x:=∃ a:aTj,cs=[.int .i64 x.Kind,.int .i64 x.From,.int .i64 x.To,.int .i64 x.Seq,.int .i64 x.Round,.int .i64 x.Vec.N,.slice a.1.1 x.Vec.Items.length a.1.2,.slice a.2.1.1 x.Sums.length a.2.1.2,.slice a.2.2.1 x.Triples.length a.2.2.2,.int .i64 x.N,.bool x.Over]∧tQ I a x
 mono hle:=λ⟨a,e,h⟩=>⟨a,e,mTj hle h⟩
 len:=λ⟨a,e,_⟩=>by rw[e]; rfl
 one:=λ⟨a,e,_⟩=>by rw[e]; rfl
structure Dense where
 N:Int
 Has:List Int
 Vals:List Int
deriving DecidableEq,Inhabited
abbrev aTk:Type:=(Option Addr×Nat)×(Option Addr×Nat)
def lTk (I:IH) (x:aTk) (o:Dense):Prop:=RepSl JT I x.1.1 x.1.2 o.Has∧RepSl B2 I x.2.1 x.2.2 o.Vals
theorem mTk {I J:IH} {x:aTk} {o:Dense} (h:IH.le I J) (k:lTk I x o):lTk J x o:=⟨k.1.mono h,k.2.mono h⟩
structure jO where
 Form:Int
 Vec:Vec
 Dense:Dense
deriving DecidableEq,Inhabited
abbrev aTl:Type:=(Option Addr×Nat)×aTk
def lTl (I:IH) (x:aTl) (o:jO):Prop:=RepSl BX I x.1.1 x.1.2 o.Vec.Items∧lTk I x.2 o.Dense
theorem mTl {I J:IH} {x:aTl} {o:jO} (h:IH.le I J) (k:lTl I x o):lTl J x o:=⟨k.1.mono h,mTk h k.2⟩
structure H7 where
 Ring:Int
 Rows:Rows
 Cols:BE
 X:jO
 Set:List Int
 Others:Bool
 Way:Int
deriving DecidableEq,Inhabited
abbrev aTm:Type:=aTd×aTg×aTl×(Option Addr×Nat)
def lTm (I:IH) (x:aTm) (o:H7):Prop:=pF I x.1 o.Rows∧yI I x.2.1 o.Cols∧lTl I x.2.2.1 o.X∧RepSl JT I x.2.2.2.1 x.2.2.2.2 o.Set
theorem mTm {I J:IH} {x:aTm} {o:H7} (h:IH.le I J) (k:lTm I x o):lTm J x o:=⟨mTd h k.1,mTg h k.2.1,mTl h k.2.2.1,k.2.2.2.mono h⟩
structure B1 where
 l:List BK
 which:Int
deriving DecidableEq,Inhabited
def EM:EE B1 where
 sz:=2
 rep I cs x:=∃ a0 c0,cs=[.slice a0 x.l.length c0,.int .i64 x.which]∧RepSl EZ I a0 c0 x.l
 mono hle:=λ⟨a0,c0,e,h0⟩=>⟨a0,c0,e,h0.mono hle⟩
 len:=λ⟨a0,c0,e,_⟩=>by rw[e]; rfl
 one:=λ⟨a0,c0,e,_⟩=>by rw[e]; rfl
structure AN where
 heads:List B1
 r:Int
 out:List BK
deriving DecidableEq,Inhabited
abbrev aTn:Type:=(Option Addr×Nat)×(Option Addr×Nat)
def lTn (I:IH) (x:aTn) (o:AN):Prop:=RepSl EM I x.1.1 x.1.2 o.heads∧RepSl EZ I x.2.1 x.2.2 o.out
theorem mTn {I J:IH} {x:aTn} {o:AN} (h:IH.le I J) (k:lTn I x o):lTn J x o:=⟨k.1.mono h,k.2.mono h⟩
structure BC where
 i:Int
 j:Int
deriving DecidableEq,Inhabited
def GH (x:BC):List Value:=[.int .i64 x.i,.int .i64 x.j]
structure A3 where
 place:BC
 plan:Plan
 grid:BC
 limit:Int
 choices:List HP
 rows:Rows
 cols:BE
 out:List AU
 share:Int
 shares:List (Int×Vec)
 spread:Int
 round:Int
 status:Int
 has:State
 aside:State
 waits:Bool
 begun:Bool
 sums:List BK
 came:List (Int×Bool)
 vote:Int
 votes:List (Int×AU)
 closed:Bool
deriving DecidableEq,Inhabited
abbrev A4:=List (Nat×A3)
structure BF where
 room:Int
 row:List Int
 by_:List (Int×AU)
 often:List (Int×Int)
 sent:Int
 taken:Int
deriving DecidableEq,Inhabited
abbrev A8:=List (Nat×BF)
structure MJ where
 L:List ET
 Windows:Int
deriving DecidableEq,Inhabited
def yT:EE MJ where
 sz:=2
 rep I cs x:=∃ a0 c0,cs=[.slice a0 x.L.length c0,.int .u8 x.Windows]∧RepSl NC I a0 c0 x.L
 mono hle:=λ⟨a0,c0,e,h0⟩=>⟨a0,c0,e,h0.mono hle⟩
 len:=λ⟨a0,c0,e,_⟩=>by rw[e]; rfl
 one:=λ⟨a0,c0,e,_⟩=>by rw[e]; rfl
structure Result where
 Status:Int
 Rounds:Int
 State:State
deriving DecidableEq,Inhabited
structure Z4 where
 Result:Result
 Sent:Int
 Windows:Int
deriving DecidableEq,Inhabited
structure A6 where
 setup:KG
 workers:List (Option Nat)
 boxes:List ((Int×Int)×(Option Nat))
 owners:List (Option Nat)
 history:List State
deriving DecidableEq,Inhabited
abbrev aTe:Type:=(Option Addr×Nat)×(Option Addr×Nat)
def lTe (I:IH) (x:aTe) (o:Rows):Prop:=RepSl B2 I x.1.1 x.1.2 o.Col∧RepSl B2 I x.2.1 x.2.2 o.Val
theorem mTe {I J:IH} {x:aTe} {o:Rows} (h:IH.le I J) (k:lTe I x o):lTe J x o:=⟨k.1.mono h,k.2.mono h⟩
abbrev aTh:Type:=(Option Addr×Nat)×(Option Addr×Nat)×(Option Addr×Nat)
def lTh (I:IH) (x:aTh) (o:BE):Prop:=RepSl B2 I x.1.1 x.1.2 o.Start∧RepSl B2 I x.2.1.1 x.2.1.2 o.Row∧RepSl B2 I x.2.2.1 x.2.2.2 o.Val
theorem mTh {I J:IH} {x:aTh} {o:BE} (h:IH.le I J) (k:lTh I x o):lTh J x o:=⟨k.1.mono h,k.2.1.mono h,k.2.2.mono h⟩
abbrev aTi:Type:=(Option Addr×Nat)×(Option Addr×Nat)
def lTi (I:IH) (x:aTi) (o:BE):Prop:=RepSl B2 I x.1.1 x.1.2 o.Row∧RepSl B2 I x.2.1 x.2.2 o.Val
theorem mTi {I J:IH} {x:aTi} {o:BE} (h:IH.le I J) (k:lTi I x o):lTi J x o:=⟨k.1.mono h,k.2.mono h⟩
abbrev aTo:Type:=aTc×(Option Addr×Nat)×(Option Addr×Nat)×(Option Addr×Nat)
def lTo (I:IH) (x:aTo) (o:A6):Prop:=lTc I x.1 o.setup∧RepSl NV I x.2.1.1 x.2.1.2 o.workers∧RepSl NV I x.2.2.1.1 x.2.2.1.2 o.owners∧RepSl N3 I x.2.2.2.1 x.2.2.2.2 o.history
theorem mTo {I J:IH} {x:aTo} {o:A6} (h:IH.le I J) (k:lTo I x o):lTo J x o:=⟨mTc h k.1,k.2.1.mono h,k.2.2.1.mono h,k.2.2.2.mono h⟩
abbrev aTp:Type:=(Option Addr×Nat)×(Option Addr×Nat)×aTd×aTg×aTf×aTf
def X7 (I:IH) (x:aTp) (o:A3):Prop:=RepSl B2 I x.1.1 x.1.2 o.plan.Draws∧RepSl RM I x.2.1.1 x.2.1.2 o.choices∧pF I x.2.2.1 o.rows∧yI I x.2.2.2.1 o.cols∧X6 I x.2.2.2.2.1 o.has∧X6 I x.2.2.2.2.2 o.aside
theorem mTp {I J:IH} {x:aTp} {o:A3} (h:IH.le I J) (k:X7 I x o):X7 J x o:=⟨k.1.mono h,k.2.1.mono h,mTd h k.2.2.1,mTg h k.2.2.2.1,mTf h k.2.2.2.2.1,mTf h k.2.2.2.2.2⟩
abbrev aTq:Type:=(Option Addr×Nat)×(Option Addr×Nat)×aTd×aTg
def lTq (I:IH) (x:aTq) (o:A3):Prop:=RepSl B2 I x.1.1 x.1.2 o.plan.Draws∧RepSl RM I x.2.1.1 x.2.1.2 o.choices∧pF I x.2.2.1 o.rows∧yI I x.2.2.2 o.cols
theorem mTq {I J:IH} {x:aTq} {o:A3} (h:IH.le I J) (k:lTq I x o):lTq J x o:=⟨k.1.mono h,k.2.1.mono h,mTd h k.2.2.1,mTg h k.2.2.2⟩
abbrev aTr:Type:=aTc×(Option Addr×Nat)
def lTr (I:IH) (x:aTr) (o:A6):Prop:=lTc I x.1 o.setup∧RepSl N3 I x.2.1 x.2.2 o.history
theorem mTr {I J:IH} {x:aTr} {o:A6} (h:IH.le I J) (k:lTr I x o):lTr J x o:=⟨mTc h k.1,k.2.mono h⟩
abbrev aTs:Type:=aTc×(Option Addr×Nat)×(Option Addr×Nat)
def W5 (I:IH) (x:aTs) (o:A6):Prop:=lTc I x.1 o.setup∧RepSl NV I x.2.1.1 x.2.1.2 o.workers∧RepSl NV I x.2.2.1 x.2.2.2 o.owners
theorem mTs {I J:IH} {x:aTs} {o:A6} (h:IH.le I J) (k:W5 I x o):W5 J x o:=⟨mTc h k.1,k.2.1.mono h,k.2.2.mono h⟩
def A9:BoxTy A3 where
 A:=aTp×Option Addr×Nat×Nat×Option Addr×Nat×Nat×Nat
 fact I a x:=X7 I (a.1) (x)
 mono:=λh h0=>mTp h h0
 obj a x:=.cells #[.int .i64 x.place.i,.int .i64 x.place.j,.int .i64 x.plan.Kind,.int .i64 x.plan.N,.int .i64 x.plan.Source,.int .i64 x.plan.Length,.slice (a.1.1.1) x.plan.Draws.length (a.1.1.2),.int .i64 x.grid.i,.int .i64 x.grid.j,.int .i64 x.limit,.slice (a.1.2.1.1) x.choices.length (a.1.2.1.2),.int .i64 x.rows.Rows,.int .i64 x.rows.Cols,.slice (a.1.2.2.1.1.1) x.rows.Start.length (a.1.2.2.1.1.2),.slice (a.1.2.2.1.2.1.1) x.rows.Col.length (a.1.2.2.1.2.1.2),.slice (a.1.2.2.1.2.2.1) x.rows.Val.length (a.1.2.2.1.2.2.2),.int .i64 x.cols.Rows,.int .i64 x.cols.Cols,.slice (a.1.2.2.2.1.1.1) x.cols.At.length (a.1.2.2.2.1.1.2),.slice (a.1.2.2.2.1.2.1.1) x.cols.Start.length (a.1.2.2.2.1.2.1.2),.slice (a.1.2.2.2.1.2.2.1.1) x.cols.Row.length (a.1.2.2.2.1.2.2.1.2),.slice (a.1.2.2.2.1.2.2.2.1) x.cols.Val.length (a.1.2.2.2.1.2.2.2.2),.slice (a.2.1) x.out.length (a.2.2.1),.int .i64 x.share,.map (some (a.2.2.2.1)),.int .i64 x.spread,.int .i64 x.round,.int .i64 x.status,.int .i64 x.has.Low,.int .i64 x.has.High,.slice (a.1.2.2.2.2.1.1.1) x.has.A.length (a.1.2.2.2.2.1.1.2),.slice (a.1.2.2.2.2.1.2.1.1) x.has.B.length (a.1.2.2.2.2.1.2.1.2),.slice (a.1.2.2.2.2.1.2.2.1) x.has.On.length (a.1.2.2.2.2.1.2.2.2),.int .i64 x.aside.Low,.int .i64 x.aside.High,.slice (a.1.2.2.2.2.2.1.1) x.aside.A.length (a.1.2.2.2.2.2.1.2),.slice (a.1.2.2.2.2.2.2.1.1) x.aside.B.length (a.1.2.2.2.2.2.2.1.2),.slice (a.1.2.2.2.2.2.2.2.1) x.aside.On.length (a.1.2.2.2.2.2.2.2.2),.bool x.waits,.bool x.begun,.slice (a.2.2.2.2.1) x.sums.length (a.2.2.2.2.2.1),.map (some (a.2.2.2.2.2.2.1)),.int .i64 x.vote,.map (some (a.2.2.2.2.2.2.2)),.bool x.closed] 151 (0,0)
 more a x:=[QSl GG 129 (a.2.1) (a.2.2.1) x.out,OwnMap (Value.int .i64) gP true (a.2.2.2.1) x.shares,OwnSl EZ 254 (a.2.2.2.2.1) (a.2.2.2.2.2.1) x.sums,OwnMap (Value.int .i64) eB false (a.2.2.2.2.2.2.1) x.came,OwnMap (Value.int .i64) GG true (a.2.2.2.2.2.2.2) x.votes]
def BD:BoxTy BF where
 A:=Option Addr×Nat×Nat×Nat
 fact I a x:=True
 mono:=λ_ _=>trivial
 obj a x:=.cells #[.int .i64 x.room,.slice (a.1) x.row.length (a.2.1),.map (some (a.2.2.1)),.map (some (a.2.2.2)),.int .i64 x.sent,.int .i64 x.taken] 157 (0,0)
 more a x:=[OwnSl B2 3 (a.1) (a.2.1) x.row,OwnMap (Value.int .i64) GG true (a.2.2.1) x.by_,OwnMap (Value.int .i64) B2 false (a.2.2.2) x.often]
def DX (a0:Int) (a1:Int) (Q:Int->Prop):Prop:=
 A7 (decide (a1<1)) (Q 0) (A7 (decide (a0<0)) (Q 0) (nzP a1 <| Q (a0.tmod a1)))
def W6 (a0:Graph) (Q:Graph->Prop):Prop:=
 DX a0.N 24 λh=>B4 (λ(s:(List B5)×Int) next131=>match s with | (s125,s129)=>A7 (decide (s129<(a0.Edges.length:Int))) (A7 (decide (s129<60)) (A7 (decide (0<h)) (BA a0.Edges s129 λd=>DX d.From h λJ=>DX d.To h λD=>DN 24 s125 ([({ From:=J,To:=D,W:=cC .i64 d.W 2147483647 }:B5)]) λ_=>next131 ((s125++([({ From:=J,To:=D,W:=cC .i64 d.W 2147483647 }:B5)])),AJ (s129+1))) (Q ({ N:=h,Edges:=s125 }:Graph))) (Q ({ N:=h,Edges:=s125 }:Graph))) (Q ({ N:=h,Edges:=s125 }:Graph))) (([]:List B5),0)
def Z5 (a0:Plan) (a1:Int) (Q:Plan->Prop):Prop:=
 ES (λ(U:Int->Prop)=>A7 (decide (a0.Kind<1)) (U 3) (A7 (decide (5<a0.Kind)) (U 3) (U a0.Kind))) λO=>DX a0.Source a1 λV=>DX a0.Length 12 λJ=>ES (λ(D:(List Int)->Prop)=>B4 (λ(s:(List Int)×Int) next266=>match s with | (s260,s264)=>A7 (decide (s264<(a0.Draws.length:Int))) (A7 (decide (s264<40)) (BA a0.Draws s264 λh=>DN 8 s260 ([cC .i64 h 2147483647]) λ_=>next266 ((s260++([cC .i64 h 2147483647])),AJ (s264+1))) (D s260)) (D s260)) (([]:List Int),0)) λd=>A7 (a1==0) (A7 (O != 5) (Q ({ Kind:=3,N:=a1,Source:=V,Length:=J,Draws:=d }:Plan)) (Q ({ Kind:=O,N:=a1,Source:=V,Length:=J,Draws:=d }:Plan))) (Q ({ Kind:=O,N:=a1,Source:=V,Length:=J,Draws:=d }:Plan))
def NQ (a0:JU) (Q:(Plan×Graph×Int)->Prop):Prop:=
 W6 a0.G λd=>Z5 a0.P d.N λh=>Q (h,d,(AJ (a0.Limit)).tmod 40)
def SR (a0:JV) (Q:KG->Prop):Prop:=
 NQ a0.Model λd=>ES (λ(h:(List HP)->Prop)=>A7 (decide (8<(a0.Choices.length:Int))) (slP a0.Choices 0 8 λ_=>h ((a0.Choices.take (Int.toNat 8)).drop (Int.toNat 0))) (h a0.Choices)) λD=>Q ({ Plan:=d.1,Graph:=d.2.1,R:=AJ (((AJ (a0.R)).tmod 4)+1),C:=AJ (((AJ (a0.C)).tmod 4)+1),Room:=AJ (((AJ (a0.Room)).tmod 5)+1),Limit:=d.2.2,Choices:=D }:KG)
def JH (a0:Int) (a1:Int) (Q:Bool->Prop):Prop:=
 A7 (decide (0<=a0)) (Q (decide (a0<=a1))) (Q false)
def Q5 (a0:Int) (Q:Bool->Prop):Prop:=
 A7 (decide (a0<0)) (Q true) (Q (decide (2147483647<a0)))
def F6 (a0:List Int) (Q:Int->Prop):Prop:=
 B4 (λ(d:Int) next46=>A7 (decide (d<(a0.length:Int))) (BA a0 d λD=>Q5 D λh=>A7 h (Q d) (next46 (AJ (d+1)))) (Q (-1))) 0
def BH (a0:List Int) (Q:Bool->Prop):Prop:=
 F6 a0 λd=>Q (decide (0<=d))
def NX (a0:Plan) (Q:Int->Prop):Prop:=
 A7 (decide (a0.Kind<=0)) (Q 8) (A7 (decide (5<a0.Kind)) (Q 8) (JH a0.N 4096 λU=>A7 (!U) (Q 3) (ES (λ(O:Unit->Prop)=>ES (λ(d:Unit->Prop)=>A7 (a0.Kind==4) (JH a0.Length 8192 λh=>A7 (!h) (Q 3) (d ())) (A7 (a0.Kind==1) (d ()) (A7 (a0.Kind==2) (d ()) (O ())))) λ_=>JH a0.Source (AJ (a0.N - 1)) λD=>A7 (!D) (Q 3) (O ())) λ_=>A7 (decide (65536<(a0.Draws.length:Int))) (Q 5) (BH a0.Draws λJ=>A7 J (Q 7) (Q 0)))))
def LA (o0:Graph) (a0:Int) (Q:Bool->Prop):Prop:=
 A7 (decide (a0<0)) (Q true) (Q (decide (o0.N<=a0)))
def OX (o1:Graph) (a0:B5) (Q:Bool->Prop):Prop:=
 LA o1 a0.From λh=>A7 h (Q true) (LA o1 a0.To λd=>Q d)
def DO (o1:Graph) (a0:List B5) (Q:Int->Prop):Prop:=
 B4 (λ(d:Int) next53=>A7 (decide (d<(a0.length:Int))) (BA a0 d λD=>OX o1 D λh=>A7 h (Q d) (next53 (AJ (d+1)))) (Q (-1))) 0
def D6 (o1:Graph) (a0:List B5) (Q:Bool->Prop):Prop:=
 DO o1 a0 λd=>Q (decide (0<=d))
def OY (a0:B5) (Q:Bool->Prop):Prop:=
 A7 (decide (a0.W<0)) (Q true) (Q (decide (2147483647<a0.W)))
def DP (a0:List B5) (Q:Int->Prop):Prop:=
 B4 (λ(d:Int) next46=>A7 (decide (d<(a0.length:Int))) (BA a0 d λD=>OY D λh=>A7 h (Q d) (next46 (AJ (d+1)))) (Q (-1))) 0
def CF (a0:List B5) (Q:Bool->Prop):Prop:=
 DP a0 λd=>Q (decide (0<=d))
def RY (a0:Graph) (Q:Int->Prop):Prop:=
 A7 (decide (a0.N<0)) (Q 3) (ES (λ(d:Bool->Prop)=>A7 (decide (4096<a0.N)) (d (decide (4096<a0.N))) (d (decide (65536<(a0.Edges.length:Int))))) λh=>A7 h (Q 5) (D6 a0 a0.Edges λJ=>A7 J (Q 3) (CF a0.Edges λD=>A7 D (Q 7) (Q 0))))
def T8 (a0:Int) (Q:Bool->Prop):Prop:=
 A7 (decide (0<a0)) (Q (decide (a0<6))) (Q false)
def OZ (a0:Int) (Q:AQ->Prop):Prop:=
 Q ({ Hi:=shr .i64 a0 63,Lo:=IntKind.wrap .u64 (a0) }:AQ)
def NY (a0:Bool) (Q:AQ->Prop):Prop:=
 A7 a0 (OZ 1 λd=>Q d) (Q NW)
def JX (a0:List Int) (Q:Int->Prop):Prop:=
 B4 (λ(d:Int) next32=>A7 (decide (d<(a0.length:Int))) (BA a0 d λh=>A7 (h != 0) (Q h) (next32 (AJ (d+1)))) (Q 0)) 0
def NR (a0:Int) (Q:Bool->Prop):Prop:=
 Q (a0 != a0)
def HT (a0:Int) (a1:Int) (Q:Int->Prop):Prop:=
 NR a0 λh=>NR a1 λd=>A7 h (A7 d (Q 0) (Q (-1))) (A7 d (Q 1) (A7 (decide (a0<a1)) (Q (-1)) (A7 (decide (a1<a0)) (Q 1) (Q 0))))
def MK (a0:Int) (Q:Bool->Prop):Prop:=
 Q (a0 != a0)
def JY (a0:Int) (a1:Int) (Q:Int->Prop):Prop:=
 MK a0 λh=>MK a1 λd=>A7 h (A7 d (Q 0) (Q (-1))) (A7 d (Q 1) (A7 (decide (a0<a1)) (Q (-1)) (A7 (decide (a1<a0)) (Q 1) (Q 0))))
def T9 (a0:AQ) (a1:AQ) (Q:Int->Prop):Prop:=
 HT a0.Hi a1.Hi λD=>JY a0.Lo a1.Lo λh=>JX ([D,h]:List Int) λd=>Q d
def RZ (a0:AQ) (a1:AQ) (Q:AQ->Prop):Prop:=
 T9 a0 a1 λd=>A7 (decide (d<=0)) (Q a0) (Q a1)
def U6 (a0:Bool) (Q:Int->Prop):Prop:=
 A7 a0 (Q 1) (Q 0)
def cM (a0:AQ) (a1:AQ) (Q:AQ->Prop):Prop:=
 U6 (decide ((IntKind.wrap .u64 (a0.Lo+a1.Lo))<a1.Lo)) λd=>Q ({ Hi:=AJ (IntKind.wrap .u64 ((IntKind.wrap .u64 ((IntKind.wrap .u64 (a0.Hi))+(IntKind.wrap .u64 (a1.Hi))))+d)),Lo:=IntKind.wrap .u64 (a0.Lo+a1.Lo) }:AQ)
def S0 (a0:Int) (a1:AQ) (J:AQ) (Q:AQ->Prop):Prop:=
 ES (λ(d:Bool->Prop)=>A7 (a0==1) (d (a0==1)) (A7 (a0==3) (d (a0==3)) (d (a0==4)))) λV=>A7 V (RZ a1 J λh=>Q h) (A7 (a0==2) (A7 (!(a1==J)) (NY true λD=>Q D) (NY (!(a1==NW)) λU=>Q U)) (A7 (a0==5) (cM a1 J λO=>Q O) (Q NW)))
def W7 (a0:AQ) (Q:(Int×Bool)->Prop):Prop:=
 OZ (AJ (a0.Lo)) λd=>A7 (!(d==a0)) (Q (0,false)) (Q (AJ (a0.Lo),true))
def S1 (a0:Int) (a1:AQ) (Q:(Int×Bool)->Prop):Prop:=
 W7 a1 λd=>Q (d.1,d.2)
def I8 (a0:Int) (Q:Bool->Prop):Prop:=
 Q (a0 != a0)
def CY (a0:Int) (a1:Int) (Q:Int->Prop):Prop:=
 I8 a0 λh=>I8 a1 λd=>A7 h (A7 d (Q 0) (Q (-1))) (A7 d (Q 1) (A7 (decide (a0<a1)) (Q (-1)) (A7 (decide (a1<a0)) (Q 1) (Q 0))))
def jP (a0:B5) (a1:B5) (Q:Int->Prop):Prop:=
 CY a0.From a1.From λD=>CY a0.To a1.To λh=>JX ([D,h]:List Int) λd=>Q d
def W8 (a0:B5) (a1:B5) (Q:Int->Prop):Prop:=
 jP a0 a1 λD=>HT a0.W a1.W λh=>JX ([D,h]:List Int) λd=>Q d
def RN (a0:Int) (a1:List B5) (Q:((List B5)×Int)->Prop):Prop:=
 T8 a0 λr12=>A7 (!r12) (Q (([]:List B5),8)) (B4 (λ(s:(List ((Int×Int)×AQ))×Int) next305=>match s with | (s303,s304)=>A7 (decide (s304<(a1.length:Int))) (BA a1 s304 λd=>OZ d.W λJ=>yQ s303 (d.From,d.To) NW λZ O=>A7 O (S0 a0 Z J λV=>next305 ((EJ (d.From,d.To) V s303),AJ (s304+1))) (next305 ((EJ (d.From,d.To) J s303),AJ (s304+1)))) (B4 (λ(s:(List B5)×(List ((Int×Int)×AQ))) next473=>match s with | (s467,s471)=>AaE s471 (AeU W8 s467 λU=>Q (U,0)) (λh l492=>S1 a0 h.2 λD=>A7 (!D.2) (Q (([]:List B5),12)) (DN 24 s467 ([({ From:=h.1.1,To:=h.1.2,W:=D.1 }:B5)]) λ_=>next473 ((s467++([({ From:=h.1.1,To:=h.1.2,W:=D.1 }:B5)])),l492)))) (([]:List B5),s303))) (([]:List ((Int×Int)×AQ)),0))
def HU (a0:Graph) (Q:Graph->Prop):Prop:=
 RN 1 a0.Edges λd=>Q ({ N:=a0.N,Edges:=d.1 }:Graph)
def NZ (a0:B5) (Q:(B5×Bool)->Prop):Prop:=
 Q (a0,a0.From != a0.To)
def U7 (a0:Graph) (Q:Graph->Prop):Prop:=
 B4 (λ(s:(List B5)×Int) next114=>match s with | (s108,s112)=>A7 (decide (s112<(a0.Edges.length:Int))) (BA a0.Edges s112 λh=>NZ h λd=>A7 d.2 (DN 24 s108 ([d.1]) λ_=>next114 ((s108++([d.1])),AJ (s112+1))) (next114 (s108,AJ (s112+1)))) (HU ({ N:=a0.N,Edges:=s108 }:Graph) λD=>Q D)) (([]:List B5),0)
def P0 (a0:Graph) (Q:Graph->Prop):Prop:=
 U7 a0 λd=>Q d
def FZ (a1:Int) (Q:(List B5)->Prop):Prop:=
 A7 (decide (a1<0)) (False) (A7 (decide (0<(AJ (a1 - (AJ (0 - 0)))))) (grP 24 (AJ (a1 - (AJ (0 - 0)))) <| Q ([]:List B5)) (Q ([]:List B5)))
def DM (a0:List (List B5)) (Q:(List B5)->Prop):Prop:=
 B4 (λ(s:Int×Int) next161=>match s with | (s159,s160)=>A7 (decide (s160<(a0.length:Int))) (BA a0 s160 λh=>A7 (decide ((AJ (s159+(h.length:Int)))<0)) (False) (next161 (AJ (s159+(h.length:Int)),AJ (s160+1)))) (FZ s159 λD=>B4 (λ(s:(List B5)×Int) next271=>match s with | (s266,s270)=>A7 (decide (s270<(a0.length:Int))) (BA a0 s270 λd=>DN 24 s266 d λ_=>next271 ((s266++d),AJ (s270+1))) (Q s266)) (D,0))) (0,0)
def ML (a0:B5) (Q:(B5×Bool)->Prop):Prop:=
 Q (({ From:=a0.To,To:=a0.From,W:=a0.W }:B5),true)
def P1 (a0:Graph) (Q:Graph->Prop):Prop:=
 B4 (λ(s:(List B5)×Int) next114=>match s with | (s108,s112)=>A7 (decide (s112<(a0.Edges.length:Int))) (BA a0.Edges s112 λh=>ML h λd=>A7 d.2 (DN 24 s108 ([d.1]) λ_=>next114 ((s108++([d.1])),AJ (s112+1))) (next114 (s108,AJ (s112+1)))) (HU ({ N:=a0.N,Edges:=s108 }:Graph) λD=>Q D)) (([]:List B5),0)
def Q6 (a0:Graph) (Q:Graph->Prop):Prop:=
 P1 a0 λd=>Q d
def O0 (a0:Graph) (Q:Graph->Prop):Prop:=
 Q6 a0 λh=>DM ([a0.Edges,h.Edges]:List (List B5)) λd=>HU ({ N:=a0.N,Edges:=d }:Graph) λD=>Q D
def P2 (a0:B5) (Q:(B5×Bool)->Prop):Prop:=
 Q (({ a0 with W:=1 }:B5),true)
def U8 (a0:Graph) (Q:Graph->Prop):Prop:=
 B4 (λ(s:(List B5)×Int) next114=>match s with | (s108,s112)=>A7 (decide (s112<(a0.Edges.length:Int))) (BA a0.Edges s112 λh=>P2 h λd=>A7 d.2 (DN 24 s108 ([d.1]) λ_=>next114 ((s108++([d.1])),AJ (s112+1))) (next114 (s108,AJ (s112+1)))) (HU ({ N:=a0.N,Edges:=s108 }:Graph) λD=>Q D)) (([]:List B5),0)
def HV (a0:Graph) (Q:Graph->Prop):Prop:=
 U8 a0 λd=>Q d
def XY (a0:Int) (a1:Int) (Q:Rows->Prop):Prop:=
 mkP 8 (AJ (a0+1)) 0 λ_=>Q ({ Rows:=a0,Cols:=a1,Start:=(List.replicate (AJ (a0+1)).toNat 0),Col:=([]:List Int),Val:=([]:List Int) }:Rows)
def TV (a0:Int) (a1:Int) (W:List A5) (Q:Rows->Prop):Prop:=
 XY a0 a1 λh=>B4 (λ(s:(List Int)×(List Int)×(List Int)×Int) next420=>match s with | (s407,s411,s415,s419)=>A7 (decide (s419<(W.length:Int))) (BA W s419 λd=>BA s407 (AJ (d.Row+1)) λD=>BA s407 (AJ (d.Row+1)) λV=>DN 8 s411 ([d.Col]) λ_=>DN 8 s415 ([d.Val]) λ_=>next420 ((s407.set ((AJ (d.Row+1)).toNat) (AJ (D+1))),(s411++([d.Col])),(s415++([d.Val])),AJ (s419+1))) (B4 (λ(s:(List Int)×Int) next528=>match s with | (s523,s527)=>A7 (decide (s527<a0)) (BA s523 (AJ (s527+1)) λJ=>BA s523 s527 λO=>BA s523 (AJ (s527+1)) λU=>next528 ((s523.set ((AJ (s527+1)).toNat) (AJ (J+O))),AJ (s527+1))) (Q ({ h with Start:=s523,Col:=s411,Val:=s415 }:Rows))) (s407,0))) (h.Start,h.Col,h.Val,0)
def Q7 (a0:Graph) (Q:(Rows×Int)->Prop):Prop:=
 RY a0 λD=>A7 (D != 0) (Q (SQ,D)) (Q6 a0 λJ=>B4 (λ(s:(List A5)×Int) next134=>match s with | (s128,s132)=>A7 (decide (s132<(J.Edges.length:Int))) (BA J.Edges s132 λd=>DN 24 s128 ([({ Row:=d.From,Col:=d.To,Val:=d.W }:A5)]) λ_=>next134 ((s128++([({ Row:=d.From,Col:=d.To,Val:=d.W }:A5)])),AJ (s132+1))) (TV a0.N a0.N s128 λh=>Q (h,0))) (([]:List A5),0))
def OB (a0:Plan) (a1:Graph) (Q:(Rows×Int)->Prop):Prop:=
 NX a0 λZ=>A7 (Z != 0) (Q (SQ,Z)) (A7 (a1.N != a0.N) (Q (SQ,4)) (RY a1 λJ=>A7 (J != 0) (Q (SQ,J)) (A7 (a0.Kind==5) (P0 a1 λr61=>O0 r61 λr71=>HV r71 λr82=>Q7 r82 λV=>Q (V.1,V.2)) (A7 (a0.Kind==3) (O0 a1 λU=>HV U λO=>Q7 O λd=>Q (d.1,d.2)) (A7 (a0.Kind==1) (HV a1 λW=>Q7 W λD=>Q (D.1,D.2)) (Q7 a1 λh=>Q (h.1,h.2)))))))
def S2 (a0:Plan) (a1:Graph) (h:Int) (Q:Int->Prop):Prop:=
 OB a0 a1 λd=>A7 (d.2 != 0) (Q d.2) (A7 (decide (h<0)) (Q 3) (A7 (decide (8192<h)) (Q 3) (Q 0)))
def IL (a0:Int) (a1:Int) (Q:Bool->Prop):Prop:=
 A7 (decide (1<=a0)) (Q (decide (a0<=a1))) (Q false)
def MM (a0:KG) (Q:Int->Prop):Prop:=
 S2 a0.Plan a0.Graph a0.Limit λJ=>A7 (J != 0) (Q J) (ES (λ(d:Bool->Prop)=>IL a0.R 8 λh=>A7 (!h) (d (!h)) (IL a0.C 8 λD=>A7 (!D) (d (!D)) (IL a0.Room 64 λU=>d (!U)))) λO=>A7 O (False) (A7 (decide (8192<(a0.Choices.length:Int))) (False) (Q 0)))
def LS (a0:Int) (a1:Int) (Q:Bool->Prop):Prop:=
 A7 (decide (0<=a0)) (Q (decide (a0<=a1))) (Q false)
def Z6 (a0:ET) (Q:Bool->Prop):Prop:=
 LS a0.A 63 λd=>A7 (!d) (Q false) (LS a0.B 63 λh=>A7 (!h) (Q false) (LS a0.K 63 λD=>A7 (!D) (Q false) (A7 (decide (0<a0.Kind)) (Q (decide (a0.Kind<=5))) (Q false))))
def Q8 (a0:ET) (Q:Bool->Prop):Prop:=
 Z6 a0 λd=>Q (!d)
def DQ (a0:List ET) (Q:Int->Prop):Prop:=
 B4 (λ(d:Int) next46=>A7 (decide (d<(a0.length:Int))) (BA a0 d λD=>Q8 D λh=>A7 h (Q d) (next46 (AJ (d+1)))) (Q (-1))) 0
def D7 (a0:List ET) (Q:Bool->Prop):Prop:=
 DQ a0 λd=>Q (decide (0<=d))
def U9 (a0:KG) (a1:List ET) (J:Int) (Q:Int->Prop):Prop:=
 MM a0 λd=>A7 (d != 0) (Q d) (A7 (decide (1048576<(a1.length:Int))) (False) (D7 a1 λD=>A7 D (False) (LS J 1048576 λh=>A7 (!h) (False) (Q 0))))
def P3 (a0:List Int) (a1:Int) (Q:Bool->Prop):Prop:=
 A7 (decide (0<=a1)) (Q (decide ((shr .i64 a1 6)<(a0.length:Int)))) (Q false)
def XZ (a0:Int) (Q:Int->Prop):Prop:=
 nnP (cC .u64 (IntKind.wrap .u64 (a0)) 63) <| Q (shl .u64 1 (cC .u64 (IntKind.wrap .u64 (a0)) 63))
def S3 (a0:Int) (Q:Int->Prop):Prop:=
 Q (shr .i64 (AJ ((if 4096<(if 0 > a0 then 0 else a0) then 4096 else (if 0 > a0 then 0 else a0))+63)) 6)
def Q9 (a0:Int) (Q:(List Int)->Prop):Prop:=
 S3 a0 λd=>mkP 8 d 0 λ_=>Q (List.replicate d.toNat 0)
def ND (a0:Int) (a1:List Int) (Q:(List Int)->Prop):Prop:=
 Q9 a0 λV=>B4 (λ(s:(List Int)×Int) next157=>match s with | (s152,s156)=>A7 (decide (s156<(a1.length:Int))) (BA a1 s156 λd=>ES (λ(h:Bool->Prop)=>A7 (decide (d<a0)) (P3 s152 d λO=>h O) (h false)) λU=>A7 U (BA s152 (shr .i64 d 6) λD=>XZ d λJ=>BA s152 (shr .i64 d 6) λW=>next157 ((s152.set ((shr .i64 d 6).toNat) (bor .u64 D J)),AJ (s156+1))) (next157 (s152,AJ (s156+1)))) (Q s152)) (V,0)
def BB (a0:List Int) (Q:(List Int)->Prop):Prop:=
 AeR a0 (Q ([]:List Int)) (DN 8 ([]:List Int) a0 λ_=>Q (([]:List Int)++a0))
def D2 (a0:List HP) (Q:(List HP)->Prop):Prop:=
 AeR a0 (Q ([]:List HP)) (DN 16 ([]:List HP) a0 λ_=>Q (([]:List HP)++a0))
def O1 (a0:Int) (a1:Int) (Q:Bool->Prop):Prop:=
 A7 (decide (0<=a0)) (Q (decide (a0<=a1))) (Q false)
def TA (a0:Int) (a1:Int) (Q:Bool->Prop):Prop:=
 I8 a0 λd=>A7 d (I8 a1 λh=>A7 (!h) (Q true) (Q (decide (a0<a1)))) (Q (decide (a0<a1)))
def G8 (a0:List Int) (Q:Bool->Prop):Prop:=
 B4 (λ(d:Int) next58=>A7 (decide (0<d)) (BA a0 d λh=>BA a0 (AJ (d - 1)) λJ=>TA h J λD=>A7 D (Q false) (next58 (AJ (d - 1)))) (Q true)) (AJ ((a0.length:Int) - 1))
def tR (a0:List Int) (a1:Int) (Q:Bool->Prop):Prop:=
 B4 (λ(d:Int) next69=>A7 (decide (d<(a0.length:Int))) (BA a0 d λh=>O1 h (AJ (a1 - 1)) λJ=>A7 (!J) (Q false) (A7 (decide (0<d)) (BA a0 (AJ (d - 1)) λD=>A7 (decide (h<=D)) (Q false) (next69 (AJ (d+1)))) (next69 (AJ (d+1))))) (Q true)) 0
def QA (a0:Rows) (Q:Bool->Prop):Prop:=
 O1 a0.Rows 4096 λO=>A7 (!O) (Q false) (O1 a0.Cols 4096 λU=>A7 (!U) (Q false) (A7 ((a0.Start.length:Int) != (AJ (a0.Rows+1))) (Q false) (A7 ((a0.Val.length:Int) != (a0.Col.length:Int)) (Q false) (A7 (decide (65536<(a0.Col.length:Int))) (Q false) (BA a0.Start 0 λV=>A7 (V != 0) (Q false) (BA a0.Start a0.Rows λW=>A7 (W != (a0.Col.length:Int)) (Q false) (G8 a0.Start λZ=>A7 (!Z) (Q false) (B4 (λ(d:Int) next157=>A7 (decide (d<a0.Rows)) (BA a0.Start d λD=>BA a0.Start (AJ (d+1)) λh=>slP a0.Col D h λ_=>tR ((a0.Col.take h.toNat).drop D.toNat) a0.Cols λJ=>A7 (!J) (Q false) (next157 (AJ (d+1)))) (Q true)) 0))))))))
def UA (a0:Int) (Q:Bool->Prop):Prop:=
 A7 (decide (1<=a0)) (Q (decide (a0<=8))) (Q false)
def QB (a0:Int) (a1:Int) (d:Int) (a3:Int) (Q:Bool->Prop):Prop:=
 UA a0 λh=>A7 h (UA a1 λD=>A7 D (A7 (decide (0<=d)) (A7 (decide (d<a0)) (A7 (decide (0<=a3)) (Q (decide (a3<a1))) (Q false)) (Q false)) (Q false)) (Q false)) (Q false)
def S4 (a0:Rows) (Q:Rows->Prop):Prop:=
 QA a0 λd=>A7 d (Q a0) (XY 0 0 λh=>Q h)
def UB (a0:Int×Int) (a1:Int) (Q:(Int×Int)->Prop):Prop:=
 A7 (decide ((if a1<a0.2 then a1 else a0.2)<=(if 0 > a0.1 then 0 else a0.1))) (Q ((if 0 > a0.1 then 0 else a0.1),0)) (Q ((if 0 > a0.1 then 0 else a0.1),AJ ((if a1<a0.2 then a1 else a0.2) - (if 0 > a0.1 then 0 else a0.1))))
def cN (a0:Rows) (a1:Int) (Q:((List Int)×(List Int))->Prop):Prop:=
 BA a0.Start a1 λd=>BA a0.Start (AJ (a1+1)) λh=>slP a0.Col d h λ_=>slP a0.Val d h λ_=>Q (((a0.Col.take h.toNat).drop d.toNat),((a0.Val.take h.toNat).drop d.toNat))
def tS (a0:Rows) (a1:Int) (Q:(List B3)->Prop):Prop:=
 S4 a0 λJ=>O1 a1 (AJ (J.Rows - 1)) λO=>A7 (!O) (Q ([]:List B3)) (cN J a1 λD=>B4 (λ(s:(List B3)×Int) next140=>match s with | (s134,s138)=>A7 (decide (s138<(D.1.length:Int))) (BA D.1 s138 λd=>BA D.2 s138 λh=>DN 16 s134 ([({ At:=d,Val:=h }:B3)]) λ_=>next140 ((s134++([({ At:=d,Val:=h }:B3)])),AJ (s138+1))) (Q s134)) (([]:List B3),0))
def W9 (a0:Rows) (a1:Int×Int) (Z:Int×Int) (Q:Rows->Prop):Prop:=
 S4 a0 λU=>UB a1 U.Rows λO=>UB Z U.Cols λh=>B4 (λ(s:(List A5)×Int) next418=>match s with | (s412,s416)=>A7 (decide (s416<O.2)) (tS U (AJ (O.1+s416)) λD=>B4 (λ(s:(List A5)×Int) next548=>match s with | (s543,s547)=>A7 (decide (s547<(D.length:Int))) (BA D s547 λd=>ES (λ(J:Bool->Prop)=>A7 (decide (h.1<=d.At)) (J (decide ((AJ (d.At - h.1))<h.2))) (J false)) λW=>A7 W (DN 24 s543 ([({ Row:=s416,Col:=AJ (d.At - h.1),Val:=d.Val }:A5)]) λ_=>next548 ((s543++([({ Row:=s416,Col:=AJ (d.At - h.1),Val:=d.Val }:A5)])),AJ (s547+1))) (next548 (s543,AJ (s547+1)))) (next418 (s543,AJ (s416+1)))) (s412,0)) (TV O.2 h.2 s412 λV=>Q V)) (([]:List A5),0)
def QC (a0:Int) (Q:Bool->Prop):Prop:=
 A7 (decide (0<a0)) (Q (decide (a0<=8))) (Q false)
def mF (a0:Int) (a1:Int) (Q:Bool->Prop):Prop:=
 A7 (decide (0<=a0)) (A7 (decide (a0<=4096)) (QC a1 λd=>Q d) (Q false)) (Q false)
def IM (a0:Int) (a1:Int) (d:Int) (Q:Int->Prop):Prop:=
 mF a0 a1 λh=>A7 (!h) (Q 0) (nzP a1 <| Q (AJ ((AJ ((if a1<(if 0 > d then 0 else d) then a1 else (if 0 > d then 0 else d))*a0)).tdiv a1)))
def GY (a0:Int) (a1:Int) (d:Int) (Q:(Int×Int)->Prop):Prop:=
 IM a0 a1 d λh=>IM a0 a1 (AJ (d+1)) λD=>Q (h,D)
def fH (a0:Rows) (a1:Int) (W:Int) (a3:Int) (Z:Int) (Q:Rows->Prop):Prop:=
 QA a0 λO=>A7 (!O) (W9 SQ (0,0) (0,0) λd=>Q d) (QB a1 W a3 Z λh=>A7 (!h) (W9 SQ (0,0) (0,0) λD=>Q D) (GY a0.Rows a1 a3 λV=>GY a0.Cols W Z λJ=>W9 a0 V J λU=>Q U))
def Y0  (Q:BE->Prop):Prop:=
 Q ({ Rows:=0,Cols:=0,At:=([]:List Int),Start:=([0]:List Int),Row:=([]:List Int),Val:=([]:List Int) }:BE)
def S5 (a0:Rows) (Q:(List A5)->Prop):Prop:=
 S4 a0 λJ=>B4 (λ(s:(List A5)×Int) next371=>match s with | (s365,s369)=>A7 (decide (s369<J.Rows)) (cN J s369 λd=>B4 (λ(s:(List A5)×Int) next497=>match s with | (s492,s496)=>A7 (decide (s496<(d.1.length:Int))) (BA d.1 s496 λh=>BA d.2 s496 λD=>DN 24 s492 ([({ Row:=s369,Col:=h,Val:=D }:A5)]) λ_=>next497 ((s492++([({ Row:=s369,Col:=h,Val:=D }:A5)])),AJ (s496+1))) (next371 (s492,AJ (s369+1)))) (s365,0)) (Q s365)) (([]:List A5),0)
def fI (a0:A5) (a1:A5) (Q:Int->Prop):Prop:=
 CY a0.Row a1.Row λD=>CY a0.Col a1.Col λh=>JX ([D,h]:List Int) λd=>Q d
def mG (a0:Rows) (Q:Rows->Prop):Prop:=
 S4 a0 λh=>S5 h λJ=>B4 (λ(s:(List A5)×Int) next202=>match s with | (s196,s201)=>A7 (decide (s201<(J.length:Int))) (BA s196 s201 λd=>BA s196 s201 λU=>next202 ((s196.set s201.toNat ({ Row:=d.Col,Col:=d.Row,Val:=d.Val }:A5)),AJ (s201+1))) (AeU fI s196 λD=>TV h.Cols h.Rows D λO=>Q O)) (J,0)
def tT (a0:Rows) (Q:BE->Prop):Prop:=
 Y0  λh=>QA a0 λr68=>A7 (!r68) (Q h) (mG a0 λZ=>S5 Z λJ=>B4 (λ(s:(List Int)×(List Int)×(List Int)×(List Int)×Int) next591=>match s with | (s574,s578,s582,s586,s590)=>A7 (decide (s590<(J.length:Int))) (BA J s590 λd=>ES (λ(O:((List Int)×(List Int))->Prop)=>ES (λ(U:Bool->Prop)=>A7 ((s574.length:Int)==0) (U true) (BA s574 (AJ ((s574.length:Int) - 1)) λW=>U (W != d.Row))) λV=>A7 V (DN 8 s574 ([d.Row]) λ_=>DN 8 s578 ([0]) λ_=>O ((s574++([d.Row])),(s578++([0])))) (O (s574,s578))) λ(D,s713)=>DN 8 s582 ([d.Col]) λ_=>DN 8 s586 ([d.Val]) λ_=>BA s713 (D.length:Int) λx790=>next591 (D,(s713.set ((D.length:Int).toNat) ((s582++([d.Col])).length:Int)),(s582++([d.Col])),(s586++([d.Val])),AJ (s590+1))) (Q ({ a0 with At:=s574,Start:=s578,Row:=s582,Val:=s586 }:BE))) (h.At,h.Start,h.Row,h.Val,0))
def LU (a0:List Int) (Q:(List Int)->Prop):Prop:=
 Q a0
def QD (o0:Nat) (o1:Int) (o2:Int) (o3:List Int) (Y:Nat->Int->Int->Int->((Bool×Nat×Int)->Prop)->Prop) (Q:(Nat×Int)->Prop):Prop:=
 B4 (λ(s:Int×Int×Nat) next193=>match s with | (s190,s191,s192)=>A7 (decide (s191<(o3.length:Int))) (BA o3 s191 λh=>B4 (λ(s:Int×Int×Int×Nat) next262=>match s with | (s258,s259,s260,s261)=>A7 (s259 != 0) (A7 ((cC .u64 s259 1)==1) (Y s261 o1 s258 s260 λd=>A7 (!d.1) (Q (d.2.1,d.2.2)) (next262 (d.2.2,shr .u64 s259 1,AJ (s260+1),d.2.1))) (next262 (s258,shr .u64 s259 1,AJ (s260+1),s261))) (next193 (s258,AJ (s191+1),s261))) (s190,h,shl .i64 s191 6,s192)) (Q (s192,s190))) (o2,0,o0)
def QE (a0:List Int) (a1:Int) (Q:Int->Prop):Prop:=
 LU a0 λD=>QD 0 a1 0 D (λ(J:Nat) (U:Int) (O:Int) (h:Int) (V:(Bool×Nat×Int)->Prop)=>eqP J 0 (A7 (decide (U<=h)) (V (false,1,h)) (V (true,0,O)))) λd=>A7 (decide (d.1=0)) (Q (-1)) (eqP d.1 1 (Q d.2))
def OC (a0:List Int) (a1:Int) (Q:Bool->Prop):Prop:=
 A7 (decide (0<=a1)) (A7 (decide (a1<=4096)) (S3 a1 λh=>A7 ((a0.length:Int)==h) (QE a0 a1 λd=>Q (decide (d<0))) (Q false)) (Q false)) (Q false)
def vD (a0:Plan) (a1:State) (Q:Bool->Prop):Prop:=
 NX a0 λd=>A7 (d != 0) (Q false) (A7 (decide (a1.Low<0)) (Q false) (A7 (decide (a1.High<a1.Low)) (Q false) (A7 (decide (a0.N<a1.High)) (Q false) (A7 ((a1.A.length:Int)==(AJ (a1.High - a1.Low))) (A7 ((a1.B.length:Int)==(AJ (a1.High - a1.Low))) (OC a1.On (AJ (a1.High - a1.Low)) λh=>Q h) (Q false)) (Q false)))))
def QF (a0:Plan) (a1:State) (Q:State->Prop):Prop:=
 vD a0 a1 λd=>A7 d (Q a1) (Q DL)
def Z7 (a0:Int) (Q:Int->Prop):Prop:=
 B4 (λ(s:Int×Int) next11=>match s with | (s9,s10)=>A7 (s9==0) (Q s10) (next11 (cC .u64 s9 (IntKind.wrap .u64 (s9 - 1)),AJ (s10+1)))) (a0,0)
def S6 (a0:List Int) (Q:Int->Prop):Prop:=
 B4 (λ(s:Int×Int) next42=>match s with | (s40,s41)=>A7 (decide (s41<(a0.length:Int))) (BA a0 s41 λd=>Z7 d λh=>next42 (AJ (s40+h),AJ (s41+1))) (Q s40)) (0,0)
def Y1 (a0:Plan) (a1:State) (O:Int) (Q:Int->Prop):Prop:=
 QF a0 a1 λd=>A7 (a0.Kind==4) (A7 (decide (a0.Length<=O)) (Q 0) (S6 d.On λJ=>Q J)) (A7 (a0.Kind==5) (B4 (λ(s:Int×Int) next71=>match s with | (s69,s70)=>A7 (decide (s70<(d.A.length:Int))) (BA d.A s70 λD=>A7 (D==0) (next71 (AJ (s69+1),AJ (s70+1))) (next71 (s69,AJ (s70+1)))) (Q s69)) (0,0)) (S6 d.On λh=>Q h))
def jQ (a0:Int) (a1:Int) (d:Int) (Q:Int->Prop):Prop:=
 QC a0 λh=>A7 (!h) (Q (-1)) (A7 (decide (a1<0)) (Q (-1)) (A7 (decide (8<=a1)) (Q (-1)) (A7 (decide (d<0)) (Q (-1)) (A7 (decide (a0<=d)) (Q (-1)) (Q (AJ ((AJ (a1*a0))+d)))))))
def Y2 (a0:Int) (a1:Int) (Q:Int->Prop):Prop:=
 QC a0 λd=>A7 (!d) (Q (-1)) (A7 (decide (a1<0)) (Q (-1)) (A7 (decide ((AJ (a0*8))<=a1)) (Q (-1)) (nzP a0 <| Q (AJ (a1.tdiv a0)))))
def UC (a0:Int) (a1:Int) (Q:Int->Prop):Prop:=
 Y2 a0 a1 λd=>A7 (decide (d<0)) (Q (-1)) (nzP a0 <| Q (a1.tmod a0))
def BT (a0:List Int) (Q:(List Int)->Prop):Prop:=
 AeR a0 (Q ([]:List Int)) (DN 8 ([]:List Int) a0 λ_=>Q (([]:List Int)++a0))
def QG (o0:Nat) (o1:List Int) (o2:List Int) (Y:Nat->(List Int)->Int->((Bool×Nat×(List Int))->Prop)->Prop) (Q:(Nat×(List Int))->Prop):Prop:=
 B4 (λ(s:(List Int)×Int×Nat) next257=>match s with | (s251,s255,s256)=>A7 (decide (s255<(o2.length:Int))) (BA o2 s255 λh=>B4 (λ(s:(List Int)×Int×Int×Nat) next346=>match s with | (s339,s343,s344,s345)=>A7 (s343 != 0) (A7 ((cC .u64 s343 1)==1) (Y s345 s339 s344 λd=>A7 (!d.1) (Q (d.2.1,d.2.2)) (next346 (d.2.2,shr .u64 s343 1,AJ (s344+1),d.2.1))) (next346 (s339,shr .u64 s343 1,AJ (s344+1),s345))) (next257 (s339,AJ (s255+1),s345))) (s251,h,shl .i64 s255 6,s256)) (Q (s256,s251))) (o1,0,o0)
def GI (o0:List Int) (Q:(List Int)->Prop):Prop:=
 QG 0 ([]:List Int) o0 (λ(J:Nat) (h:List Int) (d:Int) (O:(Bool×Nat×(List Int))->Prop)=>eqP J 0 (DN 8 h ([d]) λ_=>O (true,0,(h++([d]))))) λD=>eqP D.1 0 (Q D.2)
def JZ (o0:List Int) (Q:(List Int)->Prop):Prop:=
 GI o0 λd=>Q d
def Z8 (a0:List Int) (Q:(List Int)->Prop):Prop:=
 LU a0 λd=>JZ d λh=>Q h
def AX (a0:List B3) (Q:(List B3)->Prop):Prop:=
 AeR a0 (Q ([]:List B3)) (DN 16 ([]:List B3) a0 λ_=>Q (([]:List B3)++a0))
def D8 (a0:List BK) (Q:(List BK)->Prop):Prop:=
 AeR a0 (Q ([]:List BK)) (DN 24 ([]:List BK) a0 λ_=>Q (([]:List BK)++a0))
def Z9 (a0:AU) (Q:AU->Prop):Prop:=
 AX a0.Vec.Items λd=>D8 a0.Sums λh=>Q ({ a0 with Vec:=({ N:=a0.Vec.N,Items:=d }:Vec),Sums:=h }:AU)
def D3 (a0:List A5) (Q:(List A5)->Prop):Prop:=
 AeR a0 (Q ([]:List A5)) (DN 24 ([]:List A5) a0 λ_=>Q (([]:List A5)++a0))
def cO (a0:AU) (Q:AU->Prop):Prop:=
 AX a0.Vec.Items λh=>D8 a0.Sums λD=>D3 a0.Triples λd=>Q ({ a0 with Vec:=({ N:=a0.Vec.N,Items:=h }:Vec),Sums:=D,Triples:=d }:AU)
def TB (a0:Int) (a1:Int) (Q:Bool->Prop):Prop:=
 A7 (decide (0<=a0)) (Q (decide (a0<=a1))) (Q false)
def P4 (o0:Int) (o1:Vec) (a0:B3) (Q:(Bool×Int)->Prop):Prop:=
 A7 (decide (a0.At<=o0)) (Q (true,a0.At)) (Q (decide (o1.N<=a0.At),a0.At))
def DR (o0:Int) (o1:Vec) (a0:List B3) (Q:(Int×Int)->Prop):Prop:=
 B4 (λ(s:Int×Int) next61=>match s with | (s59,s60)=>A7 (decide (s60<(a0.length:Int))) (BA a0 s60 λh=>P4 s59 o1 h λd=>A7 d.1 (Q (s60,d.2)) (next61 (d.2,AJ (s60+1)))) (Q ((-1),s59))) (o0,0)
def D9 (o0:Int) (o1:Vec) (a0:List B3) (Q:(Bool×Int)->Prop):Prop:=
 DR o0 o1 a0 λd=>Q (decide (0<=d.1),d.2)
def FE (a0:Vec) (Q:Bool->Prop):Prop:=
 TB a0.N 4096 λd=>A7 (!d) (Q false) (D9 (-1) a0 a0.Items λh=>Q (!h.1))
def NE (a0:AU) (a1:Int) (Q:(Vec×Bool)->Prop):Prop:=
 AX a0.Vec.Items λd=>FE ({ N:=a0.Vec.N,Items:=d }:Vec) λh=>A7 h (Q (({ N:=a0.Vec.N,Items:=d }:Vec),a0.Vec.N==a1)) (Q (({ N:=a0.Vec.N,Items:=d }:Vec),false))
def P5 (a0:Int) (Q:Bool->Prop):Prop:=
 A7 (decide (0<=a0)) (Q (decide (a0<=4096))) (Q false)
def LV (a0:Vec) (Q:Vec->Prop):Prop:=
 FE a0 λd=>A7 d (Q a0) (Q CK)
def QH (o0:Int) (a0:B3) (Q:B3->Prop):Prop:=
 Q ({ At:=AJ (o0+a0.At),Val:=a0.Val }:B3)
def P6 (o0:Int) (a0:Vec) (Q:Vec->Prop):Prop:=
 LV a0 λd=>AX d.Items λD=>B4 (λ(s:(List B3)×Int) next126=>match s with | (s120,s125)=>A7 (decide (s125<(D.length:Int))) (BA s120 s125 λJ=>QH o0 J λh=>BA s120 s125 λO=>next126 ((s120.set s125.toNat h),AJ (s125+1))) (Q ({ N:=d.N,Items:=s120 }:Vec))) (D,0)
def ZA (a0:List Vec) (Q:(Vec×Int)->Prop):Prop:=
 B4 (λ(s:Int×(List B3)×Int) next161=>match s with | (s154,s155,s159)=>A7 (decide (s159<(a0.length:Int))) (BA a0 s159 λh=>P6 s154 h λd=>A7 (decide ((AJ (4096 - s154))<d.N)) (Q (CK,5)) (DN 16 s155 d.Items λ_=>next161 (AJ (s154+d.N),(s155++d.Items),AJ (s159+1)))) (Q (({ N:=s154,Items:=s155 }:Vec),0))) (0,([]:List B3),0)
def OD (a0:Int) (a1:Int) (Q:Int->Prop):Prop:=
 A7 (a0==2) (Q 1) (A7 (a0==4) (Q 5) (A7 (a0==5) (A7 ((cC .i64 a1 1)==0) (Q 2) (Q 4)) (A7 (a0==1) (Q 4) (A7 (a0==3) (Q 4) (Q 0)))))
def TC (a0:Int) (a1:Int) (d:Int) (Q:Int->Prop):Prop:=
 A7 (a0==1) (Q a0) (A7 (a0==2) (Q a0) (A7 (decide ((AJ (d.tdiv 8))<a1)) (Q 2) (Q 1)))
def QI (a0:Int) (Q:Dense->Prop):Prop:=
 A7 (decide (a0<0)) (mkP 8 0 0 λ_=>Q9 0 λh=>Q ({ N:=0,Has:=h,Vals:=(List.replicate (Int.toNat 0) (0:Int)) }:Dense)) (A7 (decide (4096<a0)) (mkP 8 0 0 λ_=>Q9 0 λD=>Q ({ N:=0,Has:=D,Vals:=(List.replicate (Int.toNat 0) (0:Int)) }:Dense)) (mkP 8 a0 0 λ_=>Q9 a0 λd=>Q ({ N:=a0,Has:=d,Vals:=(List.replicate a0.toNat (0:Int)) }:Dense)))
def P7 (a0:Vec) (Q:(List Int)->Prop):Prop:=
 LV a0 λd=>B4 (λ(s:(List Int)×Int) next91=>match s with | (s85,s89)=>A7 (decide (s89<(d.Items.length:Int))) (BA d.Items s89 λh=>DN 8 s85 ([h.At]) λ_=>next91 ((s85++([h.At])),AJ (s89+1))) (Q s85)) (([]:List Int),0)
def cP (a0:Vec) (Q:Dense->Prop):Prop:=
 FE a0 λO=>A7 (!O) (QI 0 λU=>Q U) (QI a0.N λJ=>B4 (λ(s:(List Int)×Int) next222=>match s with | (s217,s221)=>A7 (decide (s221<(a0.Items.length:Int))) (BA a0.Items s221 λd=>BA s217 d.At λV=>next222 ((s217.set d.At.toNat d.Val),AJ (s221+1))) (P7 a0 λh=>ND a0.N h λD=>Q ({ N:=J.N,Has:=D,Vals:=s217 }:Dense))) (J.Vals,0))
def WA (a0:Int) (a1:Vec) (Q:jO->Prop):Prop:=
 ES (λ(h:(Int×(List B3))->Prop)=>FE a1 λJ=>A7 (!J) (h (0,([]:List B3))) (h (a1.N,a1.Items))) λ(d,s25)=>TC a0 (s25.length:Int) d λD=>A7 (D==2) (cP ({ N:=d,Items:=s25 }:Vec) λU=>Q ({ Form:=2,Vec:=CK,Dense:=U }:jO)) (AX s25 λO=>Q ({ Form:=1,Vec:=({ N:=d,Items:=O }:Vec),Dense:=({ N:=0,Has:=([]:List Int),Vals:=([]:List Int) }:Dense) }:jO))
def MN (a0:Int) (a1:Int) (d:Int) (Q:Int->Prop):Prop:=
 A7 (a0==1) (Q a0) (A7 (a0==2) (Q a0) (A7 (decide ((AJ (d.tdiv 4))<a1)) (Q 2) (Q 1)))
def OE (a0:Int) (a1:Int) (Q:Bool->Prop):Prop:=
 A7 (decide (0<=a0)) (Q (decide (a0<=a1))) (Q false)
def OG (a0:List Int) (a1:Int) (Q:Bool->Prop):Prop:=
 B4 (λ(d:Int) next69=>A7 (decide (d<(a0.length:Int))) (BA a0 d λh=>OE h (AJ (a1 - 1)) λJ=>A7 (!J) (Q false) (A7 (decide (0<d)) (BA a0 (AJ (d - 1)) λD=>A7 (decide (h<=D)) (Q false) (next69 (AJ (d+1)))) (next69 (AJ (d+1))))) (Q true)) 0
def UD (a0:BE) (Q:Bool->Prop):Prop:=
 OE a0.Rows 4096 λO=>A7 (!O) (Q false) (OE a0.Cols 4096 λW=>A7 (!W) (Q false) (A7 ((a0.Start.length:Int) != (AJ ((a0.At.length:Int)+1))) (Q false) (A7 ((a0.Val.length:Int) != (a0.Row.length:Int)) (Q false) (A7 (decide (65536<(a0.Row.length:Int))) (Q false) (OG a0.At a0.Cols λZ=>A7 (!Z) (Q false) (OG a0.Start (AJ ((a0.Row.length:Int)+1)) λr68=>A7 (!r68) (Q false) (BA a0.Start 0 λU=>A7 (U != 0) (Q false) (BA a0.Start (a0.At.length:Int) λV=>A7 (V != (a0.Row.length:Int)) (Q false) (B4 (λ(d:Int) next167=>A7 (decide (d<(a0.At.length:Int))) (BA a0.Start d λh=>BA a0.Start (AJ (d+1)) λD=>slP a0.Row h D λ_=>OG ((a0.Row.take D.toNat).drop h.toNat) a0.Rows λJ=>A7 (!J) (Q false) (next167 (AJ (d+1)))) (Q true)) 0)))))))))
def Y3 (a0:BE) (Q:BE->Prop):Prop:=
 UD a0 λd=>A7 d (Q a0) (Y0  λh=>Q h)
def UE (a0:BE) (a1:Int) (Q:Int->Prop):Prop:=
 ES (λ(h:(Int×Int)->Prop)=>B4 (λ(s:Int×Int) next288=>match s with | (s286,s287)=>A7 (decide (s286<s287)) (BA a0.At (AJ (s286+(AJ ((AJ (s287 - s286)).tdiv 2)))) λJ=>A7 (J==a1) (h (AJ (s286+(AJ ((AJ (s287 - s286)).tdiv 2))),s287)) (BA a0.At (AJ (s286+(AJ ((AJ (s287 - s286)).tdiv 2)))) λD=>A7 (decide (D<a1)) (next288 (AJ ((AJ (s286+(AJ ((AJ (s287 - s286)).tdiv 2))))+1),s287)) (next288 (s286,AJ (s286+(AJ ((AJ (s287 - s286)).tdiv 2))))))) (h (s286,s287))) (0,(a0.At.length:Int))) λ(d,s216)=>A7 (decide (d<s216)) (Q d) (Q (-1))
def fJ (a0:BE) (a1:List Int) (Q:Int->Prop):Prop:=
 Y3 a0 λh=>B4 (λ(s:Int×Int) next130=>match s with | (s128,s129)=>A7 (decide (s129<(a1.length:Int))) (BA a1 s129 λD=>UE h D λd=>A7 (decide (0<=d)) (BA h.Start (AJ (d+1)) λO=>BA h.Start d λJ=>next130 (AJ (s128+(AJ (O - J))),AJ (s129+1))) (next130 (s128,AJ (s129+1)))) (Q s128)) (0,0)
def fK (a0:BE) (a1:Vec) (Q:Int->Prop):Prop:=
 P7 a1 λh=>fJ a0 h λd=>Q d
def KR (a0:List Int) (a1:Int) (Q:Bool->Prop):Prop:=
 P3 a0 a1 λD=>A7 D (BA a0 (shr .i64 a1 6) λd=>XZ a1 λh=>Q ((cC .u64 d h) != 0)) (Q false)
def S7 (a0:Dense) (Q:Bool->Prop):Prop:=
 OC a0.Has a0.N λh=>A7 (!h) (Q false) (A7 ((a0.Vals.length:Int) != a0.N) (Q false) (B4 (λ(d:Int) next75=>A7 (decide (d<(a0.Vals.length:Int))) (BA a0.Vals d λD=>A7 (D != 0) (KR a0.Has d λJ=>A7 (!J) (Q false) (next75 (AJ (d+1)))) (next75 (AJ (d+1)))) (Q true)) 0))
def jR (a0:Dense) (Q:Dense->Prop):Prop:=
 S7 a0 λd=>A7 d (Q a0) (QI 0 λh=>Q h)
def X8 (a0:Dense) (Q:Dense->Prop):Prop:=
 Q a0
def SS (o0:Nat) (o1:Vec) (o2:Dense) (Y:Nat->Vec->Int->Int->((Bool×Nat×Vec)->Prop)->Prop) (Q:(Nat×Vec)->Prop):Prop:=
 QE o2.Has 0 λJ=>B4 (λ(s:Int×(List B3)×Int×Nat) next117=>match s with | (s110,s111,s115,s116)=>A7 (decide (0<=s115)) (BA o2.Vals s115 λh=>Y s116 ({ N:=s110,Items:=s111 }:Vec) s115 h λd=>A7 (!d.1) (Q (d.2.1,d.2.2)) (QE o2.Has (AJ (s115+1)) λD=>next117 (d.2.2.N,d.2.2.Items,D,d.2.1))) (Q (s116,({ N:=s110,Items:=s111 }:Vec)))) (o1.N,o1.Items,J,o0)
def ZB (a0:Dense) (Q:Vec->Prop):Prop:=
 jR a0 λO=>X8 O λU=>SS 0 ({ N:=O.N,Items:=([]:List B3) }:Vec) U (λ(V:Nat) (D:Vec) (J:Int) (h:Int) (W:(Bool×Nat×Vec)->Prop)=>eqP V 0 (DN 16 D.Items ([({ At:=J,Val:=h }:B3)]) λ_=>W (true,0,({ N:=D.N,Items:=(D.Items++([({ At:=J,Val:=h }:B3)])) }:Vec)))) λd=>eqP d.1 0 (Q d.2)
def QJ (a0:jO) (Q:Vec->Prop):Prop:=
 A7 (a0.Form==2) (ZB a0.Dense λD=>Q D) (ES (λ(d:Bool->Prop)=>A7 (a0.Form==1) (FE a0.Vec λO=>d O) (d false)) λJ=>A7 J (AX a0.Vec.Items λh=>Q ({ N:=a0.Vec.N,Items:=h }:Vec)) (Q CK))
def fL (a0:Rows) (Q:Int->Prop):Prop:=
 S4 a0 λd=>Q (d.Col.length:Int)
def ZC (a0:List BK) (Q:Bool->Prop):Prop:=
 B4 (λ(d:Int) next32=>A7 (decide (d<(a0.length:Int))) (A7 (decide (0<d)) (BA a0 (AJ (d - 1)) λh=>BA a0 d λD=>A7 (decide (D.At<=h.At)) (Q false) (next32 (AJ (d+1)))) (next32 (AJ (d+1)))) (Q true)) 0
def P8 (a0:List B1) (Q:Int->Prop):Prop:=
 Q (a0.length:Int)
def QK (a0:List BK) (Q:Bool->Prop):Prop:=
 ZC a0 λd=>Q (!d)
def E7 (a0:List (List BK)) (Q:Int->Prop):Prop:=
 B4 (λ(d:Int) next52=>A7 (decide (d<(a0.length:Int))) (BA a0 d λD=>QK D λh=>A7 h (Q d) (next52 (AJ (d+1)))) (Q (-1))) 0
def CO (a0:List (List BK)) (Q:Bool->Prop):Prop:=
 E7 a0 λd=>Q (decide (0<=d))
def N4 (o0:AN) (a0:B1) (Q:AN->Prop):Prop:=
 DN 32 o0.heads ([a0]) λ_=>Q ({ o0 with heads:=(o0.heads++([a0])) }:AN)
def HB (o0:List B1) (Q:Int->Prop):Prop:=
 Q (o0.length:Int)
def FC (o0:List B1) (a0:Int) (a1:Int) (Q:Bool->Prop):Prop:=
 BA o0 a0 λW=>BA W.l 0 λx20=>BA o0 a1 λd=>BA d.l 0 λU=>BA o0 a0 λh=>BA o0 a1 λV=>CY x20.At U.At λJ=>CY h.which V.which λO=>JX ([J,O]:List Int) λD=>Q (decide (D<0))
def FD (o0:List B1) (a0:Int) (a1:Int) (Q:(List B1)->Prop):Prop:=
 BA o0 a1 λd=>BA o0 a0 λx20=>BA o0 a0 λD=>BA (o0.set a0.toNat d) a1 λh=>Q ((o0.set a0.toNat d).set a1.toNat x20)
def FK (o0:AN) (a0:Int) (Q:AN->Prop):Prop:=
 B4 (λ(s:(List B1)×Int) next61=>match s with | (s59,s60)=>A7 ((AJ ((AJ (s60 - 1)).tdiv 2))==s60) (Q ({ o0 with heads:=s59 }:AN)) (FC s59 s60 (AJ ((AJ (s60 - 1)).tdiv 2)) λd=>A7 (!d) (Q ({ o0 with heads:=s59 }:AN)) (FD s59 (AJ ((AJ (s60 - 1)).tdiv 2)) s60 λh=>next61 (h,AJ ((AJ (s60 - 1)).tdiv 2))))) (o0.heads,a0)
def IP (o0:AN) (a0:B1) (Q:AN->Prop):Prop:=
 N4 o0 a0 λd=>HB d.heads λD=>FK d (AJ (D - 1)) λh=>Q h
def GN (o0:AN) (a0:List BK) (a1:Int) (Q:AN->Prop):Prop:=
 A7 (decide (0<(a0.length:Int))) (IP o0 ({ l:=a0,which:=a1 }:B1) λd=>Q d) (Q o0)
def G9 (o0:AN) (a0:Int) (a1:Int) (Q:(Bool×AN)->Prop):Prop:=
 B4 (λ(s:(List B1)×Int) next131=>match s with | (s129,s130)=>A7 (decide (a1<=(AJ ((AJ (2*s130))+1)))) (Q (decide (a0<s130),({ o0 with heads:=s129 }:AN))) (A7 (decide ((AJ ((AJ (2*s130))+1))<0)) (Q (decide (a0<s130),({ o0 with heads:=s129 }:AN))) (ES (λ(d:Int->Prop)=>A7 (decide ((AJ ((AJ ((AJ (2*s130))+1))+1))<a1)) (FC s129 (AJ ((AJ ((AJ (2*s130))+1))+1)) (AJ ((AJ (2*s130))+1)) λO=>A7 O (d (AJ ((AJ ((AJ (2*s130))+1))+1))) (d (AJ ((AJ (2*s130))+1)))) (d (AJ ((AJ (2*s130))+1)))) λh=>FC s129 h s130 λJ=>A7 (!J) (Q (decide (a0<s130),({ o0 with heads:=s129 }:AN))) (FD s129 s130 h λD=>next131 (D,h))))) (o0.heads,a0)
def O2 (o0:AN) (Q:(B1×AN)->Prop):Prop:=
 BA o0.heads (AJ ((o0.heads.length:Int) - 1)) λd=>slP o0.heads 0 (AJ ((o0.heads.length:Int) - 1)) λ_=>Q (d,({ o0 with heads:=(o0.heads.take (AJ ((o0.heads.length:Int) - 1)).toNat) }:AN))
def GZ (o0:AN) (Q:(B1×AN)->Prop):Prop:=
 HB o0.heads λd=>FD o0.heads 0 (AJ (d - 1)) λD=>G9 ({ o0 with heads:=D }:AN) 0 (AJ (d - 1)) λJ=>O2 J.2 λh=>Q (h.1,h.2)
def G0 (o0:AN) (Q:AN->Prop):Prop:=
 BA o0.heads 0 λh=>GZ o0 λr61=>BA h.l 0 λD=>slP h.l 1 (h.l.length:Int) λ_=>GN r61.2 ((h.l.take (h.l.length:Int).toNat).drop (Int.toNat 1)) h.which λd=>ES (λ(J:Bool->Prop)=>A7 (decide (0<(d.out.length:Int))) (BA d.out (AJ ((d.out.length:Int) - 1)) λV=>J (V.At==D.At)) (J false)) λZ=>A7 Z (BA d.out (AJ ((d.out.length:Int) - 1)) λO=>S0 d.r O.Val D.Val λU=>BA d.out (AJ ((d.out.length:Int) - 1)) λW=>Q ({ d with out:=(d.out.set ((AJ ((d.out.length:Int) - 1)).toNat) ({ At:=W.At,Val:=U }:BK)) }:AN)) (DN 24 d.out ([D]) λ_=>Q ({ d with out:=(d.out++([D])) }:AN))
def UF (a0:Int) (a1:List (List BK)) (Q:((List BK)×Int)->Prop):Prop:=
 T8 a0 λO=>A7 (!O) (Q (([]:List BK),8)) (CO a1 λU=>A7 U (Q (([]:List BK),6)) (B4 (λ(s:(List B1)×Int×(List BK)×Int) next292=>match s with | (s280,s284,s285,s289)=>A7 (decide (s289<(a1.length:Int))) (BA a1 s289 λJ=>GN ({ heads:=s280,r:=s284,out:=s285 }:AN) J s289 λh=>next292 (h.heads,h.r,h.out,AJ (s289+1))) (B4 (λ(s:(List B1)×Int×(List BK)) next413=>match s with | (s404,s408,s409)=>P8 s404 λD=>A7 (decide (0<D)) (G0 ({ heads:=s404,r:=s408,out:=s409 }:AN) λd=>next413 (d.heads,d.r,d.out)) (Q (s409,0))) (s280,s284,s285))) (([]:List B1),a0,([]:List BK),0)))
def QL (a0:Plan) (a1:State) (a2:Int) (Q:((List Int)×Bool)->Prop):Prop:=
 QF a0 a1 λd=>ES (λ(h:Int->Prop)=>A7 (a0.Kind==1) (h (-1)) (A7 (a0.Kind==5) (h 0) (Q (([]:List Int),true)))) λO=>B4 (λ(s:(List Int)×Int) next230=>match s with | (s224,s228)=>A7 (decide (s228<(d.A.length:Int))) (BA d.A s228 λD=>A7 (D==O) (DN 8 s224 ([s228]) λ_=>next230 ((s224++([s228])),AJ (s228+1))) (next230 (s224,AJ (s228+1)))) (ND (AJ (d.High - d.Low)) s224 λJ=>Q (J,false))) (([]:List Int),0)
def TW (a0:Int) (Q:Int->Prop):Prop:=
 A7 (a0==1) (Q 4611686018427387904) (A7 (a0==3) (Q 4611686018427387904) (A7 (a0==4) (Q 4611686018427387904) (Q 0)))
def ST (o0:Int) (a0:BK) (Q:Bool->Prop):Prop:=
 A7 (decide (a0.At<0)) (Q true) (Q (decide (o0<=a0.At)))
def E8 (o0:Int) (a0:List BK) (Q:Int->Prop):Prop:=
 B4 (λ(d:Int) next48=>A7 (decide (d<(a0.length:Int))) (BA a0 d λD=>ST o0 D λh=>A7 h (Q d) (next48 (AJ (d+1)))) (Q (-1))) 0
def CP (o0:Int) (a0:List BK) (Q:Bool->Prop):Prop:=
 E8 o0 a0 λd=>Q (decide (0<=d))
def fM (a0:Int) (a1:Int) (J:List BK) (Q:(Vec×Int)->Prop):Prop:=
 T8 a0 λW=>A7 (!W) (Q (CK,8)) (A7 (decide (a1<0)) (Q (CK,3)) (A7 (decide (4096<a1)) (Q (CK,3)) (CP a1 J λZ=>A7 Z (Q (CK,3)) (B4 (λ(d:Int) next135=>A7 (decide (d<(J.length:Int))) (A7 (decide (0<d)) (BA J (AJ (d - 1)) λO=>BA J d λU=>A7 (decide (U.At<=O.At)) (Q (CK,6)) (next135 (AJ (d+1)))) (next135 (AJ (d+1)))) (B4 (λ(s:(List B3)×Int) next285=>match s with | (s279,s283)=>A7 (decide (s283<(J.length:Int))) (BA J s283 λD=>S1 a0 D.Val λh=>A7 (!h.2) (Q (CK,12)) (TW a0 λV=>A7 (h.1 != V) (DN 16 s279 ([({ At:=D.At,Val:=h.1 }:B3)]) λ_=>next285 ((s279++([({ At:=D.At,Val:=h.1 }:B3)])),AJ (s283+1))) (next285 (s279,AJ (s283+1))))) (Q (({ N:=a1,Items:=s279 }:Vec),0))) (([]:List B3),0))) 0))))
def JI (a0:Plan) (a1:Int) (d:Int) (Q:Int->Prop):Prop:=
 JH a1 8192 λJ=>A7 (!J) (Q 0) (JH d (AJ (a0.N - 1)) λh=>A7 (!h) (Q 0) (A7 (decide (0<(a0.Draws.length:Int))) (nzP (a0.Draws.length:Int) <| BA a0.Draws ((AJ ((AJ (a1*a0.N))+d)).tmod (a0.Draws.length:Int)) λD=>Q (bor .i64 (shl .i64 D 12) d)) (Q (bor .i64 (shl .i64 0 12) d))))
def OH (a0:Int) (Q:Int->Prop):Prop:=
 Q (shr .i64 (AJ (a0 - 1)) 1)
def UG (a0:Plan) (a1:State) (J:Int) (a3:Int) (Q:(Int×Bool)->Prop):Prop:=
 KR a1.On a3 λd=>A7 (a0.Kind==1) (Q (AJ (a1.Low+a3),d)) (A7 (a0.Kind==5) (A7 ((cC .i64 J 1)==0) (Q (1,d)) (BA a1.A a3 λx27=>OH J λh=>JI a0 h (AJ (a1.Low+a3)) λD=>Q (D,x27==0))) (BA a1.A a3 λx44=>Q (x44,d)))
def cQ (a0:Plan) (a1:State) (D:Int) (Q:Vec->Prop):Prop:=
 QF a0 a1 λh=>B4 (λ(s:(List B3)×Int) next99=>match s with | (s93,s97)=>A7 (decide (s97<(AJ (h.High - h.Low)))) (UG a0 h D s97 λd=>A7 d.2 (DN 16 s93 ([({ At:=s97,Val:=d.1 }:B3)]) λ_=>next99 ((s93++([({ At:=s97,Val:=d.1 }:B3)])),AJ (s97+1))) (next99 (s93,AJ (s97+1)))) (Q ({ N:=AJ (h.High - h.Low),Items:=s93 }:Vec))) (([]:List B3),0)
def P9 (a0:Int×Int) (a1:Int×Int) (Q:(Int×Int)->Prop):Prop:=
 Q ((if a1.1 > a0.1 then a1.1 else a0.1),(if (if a1.2<a0.2 then a1.2 else a0.2) > (if a1.1 > a0.1 then a1.1 else a0.1) then (if a1.2<a0.2 then a1.2 else a0.2) else (if a1.1 > a0.1 then a1.1 else a0.1)))
def fN (a0:Int) (a1:Int) (d:Int) (Q:Int->Prop):Prop:=
 A7 (decide (d<0)) (Q 0) (A7 (decide (a1<=d)) (Q 0) (IM a0 a1 (AJ (d+1)) λh=>IM a0 a1 d λD=>Q (AJ (h - D))))
def KH (a0:B3) (a1:Int) (Q:Int->Prop):Prop:=
 CY a0.At a1 λd=>Q d
def BP (a0:List B3) (a1:Int) (Q:(Int×Bool)->Prop):Prop:=
 B4 (λ(s:Int×Int) next119=>match s with | (s117,s118)=>A7 (decide (s117<s118)) (BA a0 (AJ (shr .u64 (IntKind.wrap .u64 (AJ (s117+s118))) 1)) λh=>KH h a1 λD=>A7 (decide (D<0)) (next119 (AJ ((AJ (shr .u64 (IntKind.wrap .u64 (AJ (s117+s118))) 1))+1),s118)) (next119 (s117,AJ (shr .u64 (IntKind.wrap .u64 (AJ (s117+s118))) 1)))) (A7 (decide (s117<(a0.length:Int))) (BA a0 s117 λJ=>KH J a1 λd=>Q (s117,d==0)) (Q (s117,false)))) (0,(a0.length:Int))
def O3 (a0:Vec) (a1:Int) (Q:(Int×Bool)->Prop):Prop:=
 BP a0.Items a1 λd=>Q (d.1,d.2)
def QM (o0:Int) (a0:B3) (Q:B3->Prop):Prop:=
 Q ({ At:=AJ (a0.At - o0),Val:=a0.Val }:B3)
def PA (o0:Int) (a0:Vec) (Q:Vec->Prop):Prop:=
 LV a0 λd=>AX d.Items λD=>B4 (λ(s:(List B3)×Int) next126=>match s with | (s120,s125)=>A7 (decide (s125<(D.length:Int))) (BA s120 s125 λJ=>QM o0 J λh=>BA s120 s125 λO=>next126 ((s120.set s125.toNat h),AJ (s125+1))) (Q ({ N:=d.N,Items:=s120 }:Vec))) (D,0)
def ZD (a0:Vec) (a1:Int) (h:Int) (Q:Vec->Prop):Prop:=
 LV a0 λd=>A7 (decide ((if d.N<h then d.N else h)<=(if 0 > a1 then 0 else a1))) (Q CK) (O3 d (if 0 > a1 then 0 else a1) λJ=>O3 d (if d.N<h then d.N else h) λD=>slP d.Items J.1 D.1 λ_=>PA (if 0 > a1 then 0 else a1) ({ N:=d.N,Items:=((d.Items.take D.1.toNat).drop J.1.toNat) }:Vec) λO=>Q ({ N:=AJ ((if d.N<h then d.N else h) - (if 0 > a1 then 0 else a1)),Items:=O.Items }:Vec))
def WB (a0:Vec) (a1:Int) (J:Int) (a3:Int) (Z:Int) (a5:Int) (Q:Vec->Prop):Prop:=
 P5 a1 λO=>A7 (!O) (Q CK) (QB J a3 Z a5 λV=>A7 (!V) (Q CK) (FE a0 λW=>A7 (!W) (Q CK) (fN a1 J Z λD=>A7 (a0.N != D) (Q CK) (GY a1 J Z λd=>GY a1 a3 a5 λr78=>P9 d r78 λh=>ZD a0 (AJ (h.1 - d.1)) (AJ (h.2 - d.1)) λU=>Q U))))
def PB (a0:Int×Int) (a1:Int×Int) (Q:Int->Prop):Prop:=
 CY a0.1 a1.1 λD=>CY a0.2 a1.2 λh=>JX ([D,h]:List Int) λd=>Q d
def K0 (a0:List Int) (Q:Int->Prop):Prop:=
 A7 (decide ((a0.length:Int)<1)) (False) (BA a0 0 λx16=>B4 (λ(s:Int×Int) next54=>match s with | (s52,s53)=>A7 (decide (s53<(a0.length:Int))) (BA a0 s53 λd=>next54 ((if d<s52 then d else s52),AJ (s53+1))) (Q s52)) (x16,1))
def DY (a0:List ET) (Q:(List ET)->Prop):Prop:=
 AeR a0 (Q ([]:List ET)) (DN 32 ([]:List ET) a0 λ_=>Q (([]:List ET)++a0))
def K1 (a0:MJ) (a1:Int) (Q:(List ET)->Prop):Prop:=
 B4 (λ(s:(List ET)×Int) next151=>match s with | (s145,s149)=>A7 (decide (s149<(a0.L.length:Int))) (A7 (decide (s149<120)) (BA a0.L s149 λd=>DX d.Kind 5 λO=>DX d.A a1 λh=>DX d.B a1 λD=>DX d.K 3 λJ=>DN 32 s145 ([({ Kind:=AJ (O+1),A:=h,B:=D,K:=J }:ET)]) λ_=>next151 ((s145++([({ Kind:=AJ (O+1),A:=h,B:=D,K:=J }:ET)])),AJ (s149+1))) (Q s145)) (Q s145)) (([]:List ET),0)
def TD (a0:Plan) (a1:Graph) (Q:Graph->Prop):Prop:=
 A7 (a0.Kind==5) (P0 a1 λd=>O0 d λO=>HV O λJ=>Q J) (A7 (a0.Kind==3) (O0 a1 λV=>HV V λD=>Q D) (A7 (a0.Kind==1) (HV a1 λU=>Q U) (HU a1 λh=>Q h)))
def TE (a0:Plan) (a1:Graph) (Q:((List B5)×Int)->Prop):Prop:=
 OB a0 a1 λd=>A7 (d.2 != 0) (Q (([]:List B5),d.2)) (TD a0 a1 λh=>Q (h.Edges,0))
def ZE (a0:Plan) (a1:State) (Q:Bool->Prop):Prop:=
 A7 (a1.Low==0) (A7 (a1.High==a0.N) (A7 ((a1.A.length:Int)==a0.N) (A7 ((a1.B.length:Int)==a0.N) (OC a1.On a0.N λd=>Q d) (Q false)) (Q false)) (Q false)) (Q false)
def O4 (o0:Plan) (a0:B5) (Q:Bool->Prop):Prop:=
 A7 (decide ((if a0.To<a0.From then a0.To else a0.From)<0)) (Q true) (Q (decide (o0.N<=(if a0.To > a0.From then a0.To else a0.From))))
def DS (o0:Plan) (a0:List B5) (Q:Int->Prop):Prop:=
 B4 (λ(d:Int) next51=>A7 (decide (d<(a0.length:Int))) (BA a0 d λD=>O4 o0 D λh=>A7 h (Q d) (next51 (AJ (d+1)))) (Q (-1))) 0
def DA (o0:Plan) (a0:List B5) (Q:Bool->Prop):Prop:=
 DS o0 a0 λd=>Q (decide (0<=d))
def TF (a0:Plan) (a1:List B5) (J:State) (Q:Int->Prop):Prop:=
 NX a0 λd=>A7 (d != 0) (Q d) (ZE a0 J λD=>A7 (!D) (Q 4) (DA a0 a1 λh=>A7 h (Q 3) (Q 0)))
def HC (a0:Plan) (a1:List B5) (J:State) (a3:Int) (Q:((List B5)×(List (Int×Int))×Int)->Prop):Prop:=
 cQ a0 J a3 λh=>B4 (λ(s:(List (Int×Int))×Int) next154=>match s with | (s152,s153)=>A7 (decide (s153<(h.Items.length:Int))) (BA h.Items s153 λd=>next154 ((EJ d.At d.Val s152),AJ (s153+1))) (OD a0.Kind a3 λD=>Q (a1,s152,D))) (([]:List (Int×Int)),0)
def PC (a0:Int) (Q:(Bool×Int×AQ)->Prop):Prop:=
 Q (false,a0,NW)
def N5 (o0:Bool) (o1:Int) (o2:AQ) (a0:AQ) (Q:(Bool×AQ)->Prop):Prop:=
 A7 o0 (S0 o1 o2 a0 λd=>Q (true,d)) (Q (true,a0))
def N6 (o0:AQ) (o1:Bool) (Q:(AQ×Bool)->Prop):Prop:=
 Q (o0,o1)
def WC (a0:Int) (a1:Int) (W:List AQ) (Q:(Int×Bool×Int)->Prop):Prop:=
 OD a0 a1 λV=>A7 (V==0) (Q (0,false,8)) (PC V λD=>B4 (λ(s:Bool×Int×Int×Int) next202=>match s with | (s198,s199,s200,s201)=>A7 (decide (s201<(W.length:Int))) (BA W s201 λO=>N5 s198 D.2.1 ({ Hi:=s199,Lo:=s200 }:AQ) O λh=>next202 (h.1,h.2.Hi,h.2.Lo,AJ (s201+1))) (N6 ({ Hi:=s199,Lo:=s200 }:AQ) s198 λJ=>A7 (!J.2) (Q (0,false,0)) (W7 J.1 λd=>A7 (!d.2) (Q (0,false,12)) (TW V λU=>A7 (d.1==U) (Q (0,false,0)) (Q (d.1,true,0)))))) (D.1,D.2.2.Hi,D.2.2.Lo,0))
def LW (a0:List Int) (a1:List Int) (Q:Bool->Prop):Prop:=
 A7 ((a0.length:Int) != (a1.length:Int)) (Q false) (B4 (λ(d:Int) next55=>A7 (decide (d<(a0.length:Int))) (BA a0 d λh=>BA a1 d λD=>A7 (h != D) (Q false) (next55 (AJ (d+1)))) (Q true)) 0)
def ZF (a0:List Int) (a1:List Int) (Q:Bool->Prop):Prop:=
 A7 ((a0.length:Int) != (a1.length:Int)) (Q false) (B4 (λ(d:Int) next55=>A7 (decide (d<(a0.length:Int))) (BA a0 d λh=>BA a1 d λD=>A7 (h != D) (Q false) (next55 (AJ (d+1)))) (Q true)) 0)
def ZG (a0:State) (a1:State) (Q:Bool->Prop):Prop:=
 A7 (a0.Low==a1.Low) (A7 (a0.High==a1.High) (LW a0.A a1.A λD=>A7 D (LW a0.B a1.B λd=>A7 d (ZF a0.On a1.On λh=>Q h) (Q false)) (Q false)) (Q false)) (Q false)
def ZH (a0:Result) (a1:Result) (Q:Bool->Prop):Prop:=
 A7 (a0.Status==a1.Status) (A7 (a0.Rounds==a1.Rounds) (ZG a0.State a1.State λd=>Q d) (Q false)) (Q false)
def UH (a0:Plan) (a1:Int) (Q:(Int×Bool)->Prop):Prop:=
 A7 (a0.Kind==3) (Q (a1,true)) (A7 (a0.Kind==5) (Q (0,false)) (ES (λ(h:Bool->Prop)=>A7 (a0.Kind==4) (h (a1==a0.Source)) (h false)) λJ=>A7 J (Q (1,true)) (ES (λ(d:(Bool×Bool)->Prop)=>A7 (a1==a0.Source) (d (true,true)) (d (false,a0.Kind==4))) λ(D,s21)=>A7 s21 (Q (0,D)) (A7 (a0.Kind==1) (Q ((-1),false)) (Q (4611686018427387904,false))))))
def HW (a0:Int) (Q:(Int×Int)->Prop):Prop:=
 Q (shr .u64 (shl .u64 a0 32) 32,shr .u64 a0 32)
def TG (a0:Int) (a1:Int) (Q:AQ->Prop):Prop:=
 HW a0 λh=>HW a1 λd=>HW (IntKind.wrap .u64 (h.1*d.1)) λU=>HW (IntKind.wrap .u64 ((IntKind.wrap .u64 (h.2*d.1))+U.2)) λJ=>HW (IntKind.wrap .u64 ((IntKind.wrap .u64 (h.1*d.2))+J.1)) λD=>HW (IntKind.wrap .u64 (h.1*d.1)) λO=>Q ({ Hi:=AJ (IntKind.wrap .u64 ((IntKind.wrap .u64 ((IntKind.wrap .u64 (h.2*d.2))+J.2))+D.2)),Lo:=bor .u64 (shl .u64 D.1 32) O.1 }:AQ)
def Y4 (a0:Int) (Q:Int->Prop):Prop:=
 A7 (decide (a0<0)) (Q (IntKind.wrap .u64 (0 - (IntKind.wrap .u64 (a0))))) (Q (IntKind.wrap .u64 (a0)))
def mH (a0:AQ) (a1:AQ) (Q:AQ->Prop):Prop:=
 U6 (decide (a0.Lo<a1.Lo)) λd=>Q ({ Hi:=AJ (IntKind.wrap .u64 ((IntKind.wrap .u64 ((IntKind.wrap .u64 (a0.Hi)) - (IntKind.wrap .u64 (a1.Hi)))) - d)),Lo:=IntKind.wrap .u64 (a0.Lo - a1.Lo) }:AQ)
def mI (a0:Int) (a1:Int) (Q:AQ->Prop):Prop:=
 Y4 a0 λh=>Y4 a1 λD=>TG h D λd=>A7 (!((decide (a0<0))==(decide (a1<0)))) (mH NW d λJ=>Q J) (Q d)
def UI (a0:Int) (a1:Int) (J:Int) (Q:AQ->Prop):Prop:=
 A7 (a0==2) (A7 (a1 != 0) (NY (J != 0) λr22=>Q r22) (NY false λr26=>Q r26)) (A7 (a0==5) (mI a1 J λZ=>Q Z) (ES (λ(U:Unit->Prop)=>T8 a0 λr56=>A7 r56 (A7 (decide (4611686018427387904<=(if J > a1 then J else a1))) (OZ 4611686018427387904 λr62=>Q r62) (U ())) (U ())) λ_=>ES (λ(O:(Int×Int)->Prop)=>A7 (a0==1) (OZ a1 λd=>O (d.Hi,d.Lo)) (A7 (a0==4) (O (0,0)) (A7 (a0==3) (OZ a1 λr99=>Q r99) (Q NW)))) λ(s88,s89)=>OZ 4611686018427387904 λh=>OZ J λV=>cM ({ Hi:=s88,Lo:=s89 }:AQ) V λD=>RZ h D λW=>Q W))
def Y5 (a0:Vec) (a1:Int) (Q:(Int×Bool)->Prop):Prop:=
 LV a0 λh=>O3 h a1 λd=>A7 (!d.2) (Q (0,false)) (BA h.Items d.1 λD=>Q (D.Val,true))
def S8 (a0:Plan) (a1:State) (V:Int) (a3:Int) (D:Int) (U:Bool) (Q:(Int×Int×Bool)->Prop):Prop:=
 BA a1.A a3 λh=>BA a1.B a3 λd=>A7 (a0.Kind==1) (A7 U (A7 (h==(-1)) (Q (V,D,true)) (Q (h,d,false))) (Q (h,d,false))) (ES (λ(J:Bool->Prop)=>A7 (a0.Kind==2) (J (a0.Kind==2)) (J (a0.Kind==3))) λs55=>A7 s55 (A7 U (A7 (decide (D<h)) (Q (D,d,true)) (Q (h,d,false))) (Q (h,d,false))) (A7 (a0.Kind==4) (Q (D,d,D != 0)) (A7 (a0.Kind==5) (A7 (h != 0) (Q (h,d,false)) (ES (λ(O:Bool->Prop)=>A7 ((cC .i64 V 1)==0) (O U) (O false)) λZ=>A7 Z (Q (2,d,false)) (A7 ((cC .i64 V 1)==1) (A7 (!U) (Q (1,d,true)) (OH V λr77=>JI a0 r77 (AJ (a1.Low+a3)) λW=>A7 (decide (W<D)) (Q (1,d,true)) (Q (h,d,false)))) (Q (h,d,false))))) (Q (h,d,false)))))
def fO (a0:BE) (a1:Vec) (Q:(BE×Vec)->Prop):Prop:=
 ES (λ(h:(Int×Int×(List Int)×(List Int)×(List Int)×(List Int))->Prop)=>UD a0 λJ=>A7 (!J) (h (0,0,([]:List Int),([0]:List Int),([]:List Int),([]:List Int))) (h (a0.Rows,a0.Cols,a0.At,a0.Start,a0.Row,a0.Val))) λ(d,s44,s45,s49,s53,s57)=>FE a1 λD=>A7 (!D) (Q (({ Rows:=d,Cols:=s44,At:=s45,Start:=s49,Row:=s53,Val:=s57 }:BE),CK)) (Q (({ Rows:=d,Cols:=s44,At:=s45,Start:=s49,Row:=s53,Val:=s57 }:BE),a1))
def WD (a0:Int) (a1:List B3) (J:Int) (a3:List Int) (O:Bool) (Q:(List BK)->Prop):Prop:=
 B4 (λ(s:(List BK)×Int) next118=>match s with | (s112,s116)=>A7 (decide (s116<(a1.length:Int))) (BA a1 s116 λd=>KR a3 d.At λD=>A7 (!(D==O)) (UI a0 d.Val J λh=>DN 24 s112 ([({ At:=d.At,Val:=h }:BK)]) λ_=>next118 ((s112++([({ At:=d.At,Val:=h }:BK)])),AJ (s116+1))) (next118 (s112,AJ (s116+1)))) (Q s112)) (([]:List BK),0)
def UJ (a0:BE) (a1:Int) (Q:(BE×Int)->Prop):Prop:=
 Q (a0,a1)
def QN (o0:Nat) (o1:List B3) (o2:BE) (o3:Int) (Y:Nat->(List B3)->B3->((Bool×Nat×(List B3))->Prop)->Prop) (Q:(Nat×(List B3))->Prop):Prop:=
 BA o2.Start o3 λO=>B4 (λ(s:(List B3)×Int×Nat) next172=>match s with | (s166,s170,s171)=>BA o2.Start (AJ (o3+1)) λh=>A7 (decide (s170<h)) (BA o2.Row s170 λJ=>BA o2.Val s170 λD=>Y s171 s166 ({ At:=J,Val:=D }:B3) λd=>A7 (!d.1) (Q (d.2.1,d.2.2)) (next172 (d.2.2,AJ (s170+1),d.2.1))) (Q (s171,s166))) (o1,O,o0)
def DT (o0:BE) (o1:Int) (Q:(List B3)->Prop):Prop:=
 QN 0 ([]:List B3) o0 o1 (λ(J:Nat) (D:List B3) (h:B3) (O:(Bool×Nat×(List B3))->Prop)=>eqP J 0 (DN 16 D ([h]) λ_=>O (true,0,(D++([h]))))) λd=>eqP d.1 0 (Q d.2)
def EX (o0:BE) (o1:Int) (Q:(List B3)->Prop):Prop:=
 DT o0 o1 λd=>Q d
def WE (a0:BE) (a1:Int) (Q:(List B3)->Prop):Prop:=
 Y3 a0 λd=>UE d a1 λD=>A7 (decide (D<0)) (Q ([]:List B3)) (UJ d D λh=>EX h.1 h.2 λJ=>Q J)
def fP (a0:Int) (a1:BE) (V:Vec) (a3:List Int) (W:Bool) (Q:((List BK)×Int)->Prop):Prop:=
 fO a1 V λd=>T8 a0 λU=>A7 (!U) (Q (([]:List BK),8)) (A7 (d.2.N != d.1.Cols) (Q (([]:List BK),4)) (B4 (λ(s:(List (List BK))×Int) next192=>match s with | (s186,s190)=>A7 (decide (s190<(d.2.Items.length:Int))) (BA d.2.Items s190 λD=>WE d.1 D.At λO=>WD a0 O D.Val a3 W λJ=>DN 24 s186 ([J]) λ_=>next192 ((s186++([J])),AJ (s190+1))) (UF a0 s186 λh=>Q (h.1,h.2))) (([]:List (List BK)),0)))
def fQ (a0:Rows) (a1:Dense) (Q:(Rows×Dense)->Prop):Prop:=
 ES (λ(d:Rows->Prop)=>QA a0 λO=>A7 (!O) (W9 a0 (0,0) (0,0) λJ=>d J) (d a0)) λh=>S7 a1 λD=>A7 (!D) (QI 0 λU=>Q (h,U)) (Q (h,a1))
def UK (a0:Int) (Q:(Bool×Int×AQ)->Prop):Prop:=
 Q (false,a0,NW)
def QO (o0:Bool) (o1:Int) (o2:AQ) (a0:AQ) (Q:(Bool×AQ)->Prop):Prop:=
 A7 o0 (S0 o1 o2 a0 λd=>Q (true,d)) (Q (true,a0))
def QP (o0:AQ) (o1:Bool) (Q:(AQ×Bool)->Prop):Prop:=
 Q (o0,o1)
def mJ (a0:Int) (a1:Rows) (a2:Int) (a3:Dense) (Q:(AQ×Bool)->Prop):Prop:=
 UK a0 λh=>BA a1.Start a2 λx53=>B4 (λ(s:Bool×Int×Int×Int) next239=>match s with | (s235,s236,s237,s238)=>BA a1.Start (AJ (a2+1)) λV=>A7 (decide (s238<V)) (BA a1.Col s238 λJ=>KR a3.Has J λO=>A7 O (BA a1.Val s238 λW=>BA a3.Vals J λU=>UI a0 W U λZ=>QO s235 h.2.1 ({ Hi:=s236,Lo:=s237 }:AQ) Z λd=>next239 (d.1,d.2.Hi,d.2.Lo,AJ (s238+1))) (next239 (s235,s236,s237,AJ (s238+1)))) (QP ({ Hi:=s236,Lo:=s237 }:AQ) s235 λD=>Q (D.1,D.2))) (h.1,h.2.2.Hi,h.2.2.Lo,x53)
def UL (a0:Int) (a1:List Int) (d:Bool) (Q:(Int×(List Int)×Bool)->Prop):Prop:=
 Q (a0,a1,d)
def QQ (o0:Nat) (o1:Int) (o2:Rows) (o3:Dense) (o4:List BK) (o5:Int) (o6:List Int) (o7:Bool) (Y:Nat->Int->Rows->Dense->(List BK)->Int->((Bool×Nat×(List BK))->Prop)->Prop) (Q:(Nat×(List BK))->Prop):Prop:=
 B4 (λ(s:(List BK)×Int×Nat) next113=>match s with | (s107,s111,s112)=>A7 (decide (s111<o5)) (KR o6 s111 λh=>A7 (!(h==o7)) (Y s112 o1 o2 o3 s107 s111 λd=>A7 (!d.1) (Q (d.2.1,d.2.2)) (next113 (d.2.2,AJ (s111+1),d.2.1))) (next113 (s107,AJ (s111+1),s112))) (Q (s112,s107))) (o4,0,o0)
def fR (a0:Int) (a1:Rows) (a2:Dense) (a3:List Int) (a4:Bool) (Q:((List BK)×Int)->Prop):Prop:=
 fQ a1 a2 λh=>T8 a0 λr59=>A7 (!r59) (Q (([]:List BK),8)) (A7 (h.2.N != h.1.Cols) (Q (([]:List BK),4)) (UL h.1.Rows a3 a4 λU=>QQ 0 a0 h.1 h.2 ([]:List BK) U.1 U.2.1 U.2.2 (λ(y179:Nat) (Z:Int) (V:Rows) (W:Dense) (D:List BK) (d:Int) (Qy:(Bool×Nat×(List BK))->Prop)=>eqP y179 0 (mJ Z V d W λJ=>A7 J.2 (DN 24 D ([({ At:=d,Val:=J.1 }:BK)]) λ_=>Qy (true,0,(D++([({ At:=d,Val:=J.1 }:BK)])))) (Qy (true,0,D)))) λO=>eqP O.1 0 (Q (O.2,0))))
def TH (a0:jO) (Q:Dense->Prop):Prop:=
 QJ a0 λh=>cP h λd=>Q d
def QR (o0:Plan) (o1:Int) (a0:Int) (Q:(Int×Int×Bool)->Prop):Prop:=
 UH o0 (AJ (o1+a0)) λd=>Q (d.1,(-1),d.2)
def QS (o0:Plan) (o1:Int) (a0:State) (a1:Int) (Q:State->Prop):Prop:=
 B4 (λ(s:(List Int)×(List Int)×(List Int)×Int) next150=>match s with | (s134,s138,s142,s146)=>A7 (decide (s146<a1)) (QR o0 o1 s146 λd=>DN 8 s134 ([d.1]) λ_=>DN 8 s138 ([d.2.1]) λ_=>A7 d.2.2 (DN 8 s142 ([s146]) λ_=>next150 ((s134++([d.1])),(s138++([d.2.1])),(s142++([s146])),AJ (s146+1))) (next150 ((s134++([d.1])),(s138++([d.2.1])),s142,AJ (s146+1)))) (ND a1 s142 λh=>Q ({ a0 with A:=s134,B:=s138,On:=h }:State))) (([]:List Int),([]:List Int),([]:List Int),0)
def UM (a0:Plan) (a1:Int) (d:Int) (Q:State->Prop):Prop:=
 NX a0 λh=>A7 (h != 0) (Q DL) (A7 (decide (a1<0)) (Q DL) (A7 (decide (d<a1)) (Q DL) (A7 (decide (a0.N<d)) (Q DL) (QS a0 a1 ({ Low:=a1,High:=d,A:=([]:List Int),B:=([]:List Int),On:=([]:List Int) }:State) (AJ (d - a1)) λD=>Q D))))
def NS (o0:Int) (o1:Int) (o2:Int) (o3:Int) (a0:Int) (Q:Int->Prop):Prop:=
 GY o0 o1 a0 λD=>GY o0 o2 o3 λh=>P9 D h λd=>Q (AJ (d.2 - d.1))
def SU (o0:Int) (o1:Int) (o2:Int) (o3:Int) (a0:List Vec) (a1:Int) (Q:(Vec×Int)->Prop):Prop:=
 A7 ((a0.length:Int) != a1) (Q (CK,4)) (B4 (λ(d:Int) next108=>A7 (decide (d<(a0.length:Int))) (BA a0 d λD=>FE D λJ=>A7 (!J) (Q (CK,4)) (NS o0 o1 o2 o3 d λO=>A7 (D.N != O) (Q (CK,4)) (next108 (AJ (d+1))))) (ZA a0 λh=>Q (h.1,h.2))) 0)
def fS (a0:Int) (a1:Int) (J:Int) (a3:Int) (O:List Vec) (Q:(Vec×Int)->Prop):Prop:=
 P5 a0 λh=>A7 (!h) (Q (CK,3)) (QB a1 J 0 a3 λD=>A7 (!D) (Q (CK,3)) (SU a0 a1 J a3 O a1 λd=>Q (d.1,d.2)))
def LX (a0:H7) (Q:((List BK)×Int)->Prop):Prop:=
 TH a0.X λh=>fR a0.Ring a0.Rows h a0.Set a0.Others λd=>Q (d.1,d.2)
def LY (a0:H7) (Q:((List BK)×Int)->Prop):Prop:=
 QJ a0.X λh=>fP a0.Ring a0.Cols h a0.Set a0.Others λd=>Q (d.1,d.2)
def WF (a0:H7) (Q:((List BK)×Int×Int)->Prop):Prop:=
 QJ a0.X λO=>fK a0.Cols O λU=>fL a0.Rows λJ=>MN a0.Way U J λD=>A7 (D==2) (LX a0 λh=>A7 (h.2 != 0) (Q (([]:List BK),0,h.2)) (Q (h.1,D,h.2))) (LY a0 λd=>A7 (d.2 != 0) (Q (([]:List BK),0,d.2)) (Q (d.1,D,d.2)))
def PD (o0:Vec) (o1:Plan) (o2:State) (o3:Int) (a0:Int) (Q:(Int×Int×Bool)->Prop):Prop:=
 Y5 o0 a0 λh=>S8 o1 o2 o3 a0 h.1 h.2 λd=>Q (d.1,d.2.1,d.2.2)
def MO (o0:Vec) (o1:Plan) (o2:State) (o3:Int) (a0:State) (a1:Int) (Q:State->Prop):Prop:=
 B4 (λ(s:(List Int)×(List Int)×(List Int)×Int) next159=>match s with | (s143,s147,s151,s155)=>A7 (decide (s155<a1)) (PD o0 o1 o2 o3 s155 λd=>DN 8 s143 ([d.1]) λ_=>DN 8 s147 ([d.2.1]) λ_=>A7 d.2.2 (DN 8 s151 ([s155]) λ_=>next159 ((s143++([d.1])),(s147++([d.2.1])),(s151++([s155])),AJ (s155+1))) (next159 ((s143++([d.1])),(s147++([d.2.1])),s151,AJ (s155+1)))) (ND a1 s151 λh=>Q ({ a0 with A:=s143,B:=s147,On:=h }:State))) (([]:List Int),([]:List Int),([]:List Int),0)
def S9 (a0:Plan) (a1:State) (Z:Int) (a3:Vec) (Q:State->Prop):Prop:=
 QF a0 a1 λd=>ES (λ(h:Bool->Prop)=>FE a3 λW=>A7 (!W) (h true) (h (a3.N != (AJ (d.High - d.Low))))) λO=>A7 O (BB d.A λJ=>BB d.B λU=>BT d.On λV=>Q ({ d with A:=J,B:=U,On:=V }:State)) (MO a3 a0 d Z d (AJ (d.High - d.Low)) λD=>Q D)
def CD (o0:A3) (a0:Int) (a1:Int) (Q:Int->Prop):Prop:=
 jQ o0.grid.j a0 a1 λd=>Q d
def CB (o0:A3) (a0:AU) (Q:A3->Prop):Prop:=
 CD o0 o0.place.i o0.place.j λd=>DN 136 o0.out ([({ a0 with From:=d }:AU)]) λ_=>Q ({ o0 with out:=(o0.out++([({ a0 with From:=d }:AU)])) }:A3)
def DC (o0:A3) (a0:Int) (a1:Bool) (Q:A3->Prop):Prop:=
 A7 (!a1) (Y1 o0.plan o0.aside a0 λd=>CB ({ o0 with waits:=true }:A3) ({ Kind:=4,From:=0,To:=0,Seq:=0,Round:=a0,Vec:=CK,Sums:=([]:List BK),Triples:=([]:List A5),N:=d,Over:=a1 }:AU) λD=>Q D) (CB ({ o0 with waits:=true }:A3) ({ Kind:=4,From:=0,To:=0,Seq:=0,Round:=a0,Vec:=CK,Sums:=([]:List BK),Triples:=([]:List A5),N:=0,Over:=a1 }:AU) λh=>Q h)
def PE (a0:KG) (a1:Int) (J:Int) (Q0:Int->Prop) (Q1:(Int×A3)->Prop) (Q2:(Int×A3)->Prop):Prop:=
 MM a0 λW=>A7 (W != 0) (Q0 W) (A7 (decide (a1<0)) (False) (A7 (decide (a0.R<=a1)) (False) (A7 (decide (J<0)) (False) (A7 (decide (a0.C<=J)) (False) (OB a0.Plan a0.Graph λr36=>D2 a0.Choices λV=>BB a0.Plan.Draws λU=>fH r36.1 a0.R a0.C a1 J λd=>tT d λh=>A7 (J==0) (IM a0.Plan.N a0.R a1 λZ=>IM a0.Plan.N a0.R (AJ (a1+1)) λr170=>UM a0.Plan Z r170 λD=>DC ({ place:=({ i:=a1,j:=J }:BC),plan:=({ Kind:=a0.Plan.Kind,N:=a0.Plan.N,Source:=a0.Plan.Source,Length:=a0.Plan.Length,Draws:=U }:Plan),grid:=({ i:=a0.R,j:=a0.C }:BC),limit:=a0.Limit,choices:=V,rows:=d,cols:=h,out:=([]:List AU),share:=1,shares:=([]:List (Int×Vec)),spread:=1,round:=0,status:=0,has:=D,aside:=D,waits:=false,begun:=false,sums:=([]:List BK),came:=([]:List (Int×Bool)),vote:=0,votes:=([]:List (Int×AU)),closed:=false }:A3) 0 false λO=>Q1 (0,O)) (Q2 (0,({ place:=({ i:=a1,j:=J }:BC),plan:=({ Kind:=a0.Plan.Kind,N:=a0.Plan.N,Source:=a0.Plan.Source,Length:=a0.Plan.Length,Draws:=U }:Plan),grid:=({ i:=a0.R,j:=a0.C }:BC),limit:=a0.Limit,choices:=V,rows:=d,cols:=h,out:=([]:List AU),share:=1,shares:=([]:List (Int×Vec)),spread:=1,round:=0,status:=0,has:=DL,aside:=DL,waits:=false,begun:=false,sums:=([]:List BK),came:=([]:List (Int×Bool)),vote:=0,votes:=([]:List (Int×AU)),closed:=false }:A3))))))))
def IQ (o0:A3) (Q:Int->Prop):Prop:=
 Q o0.round
def K2 (o0:A4) (a0:Option Nat) (Q:Int->Prop):Prop:=
 mE a0 False λb=>pU o0 b λx=>IQ x  λd=>Q d
def IR (o0:A3) (Q:State->Prop):Prop:=
 BB o0.has.A λh=>BB o0.has.B λD=>BT o0.has.On λd=>Q ({ Low:=o0.has.Low,High:=o0.has.High,A:=h,B:=D,On:=d }:State)
def K3 (o0:A4) (a0:Option Nat) (Q:State->Prop):Prop:=
 mE a0 False λb=>pU o0 b λx=>IR x  λd=>Q d
def H0 (o0:A6) (o1:A4) (Q:State->Prop):Prop:=
 B4 (λ(s:(List Int)×(List Int)×(List Int)×Int) next922=>match s with | (s906,s910,s914,s918)=>A7 (decide (s918<(o0.owners.length:Int))) (BA o0.owners s918 λO=>K3 o1 O λd=>DN 8 s906 d.A λ_=>DN 8 s910 d.B λ_=>Z8 d.On λD=>B4 (λ(s:(List Int)×Int) next1061=>match s with | (s1056,s1060)=>A7 (decide (s1060<(D.length:Int))) (BA D s1060 λh=>DN 8 s1056 ([AJ (d.Low+h)]) λ_=>next1061 ((s1056++([AJ (d.Low+h)])),AJ (s1060+1))) (next922 ((s906++d.A),(s910++d.B),s1056,AJ (s918+1)))) (s914,0)) (ND o0.setup.Plan.N s914 λJ=>Q ({ Low:=0,High:=o0.setup.Plan.N,A:=s906,B:=s910,On:=J }:State))) (([]:List Int),([]:List Int),([]:List Int),0)
def EN (o0:A6) (o1:A4) (Q:A6->Prop):Prop:=
 B4 (λ(d:Int) next164=>A7 (decide (d<(o0.owners.length:Int))) (BA o0.owners d λJ=>K2 o1 J λD=>A7 (D != (o0.history.length:Int)) (Q o0) (next164 (AJ (d+1)))) (H0 o0 o1 λh=>DN 88 o0.history ([h]) λ_=>Q ({ o0 with history:=(o0.history++([h])) }:A6))) 0
def PF (o0:A4) (o1:A8) (a0:KG) (Q0:(Int×A4)->Prop) (Q1:(Int×A4×A6)->Prop):Prop:=
 MM a0 λW=>A7 (W != 0) (Q0 (W,o0)) (B4 (λ(s:(List (Option Nat))×(List (Option Nat))×Int×A4) next761=>match s with | (s749,s753,s757,s758)=>A7 (decide (s757<(AJ (a0.R*a0.C)))) (Y2 a0.C s757 λZ=>UC a0.C s757 λr928=>PE a0 Z r928 (λ_=>False) (λD=>A7 (D.1 != 0) (Q0 (D.1,s758)) (Aw3 s758 λh=>DN 8 s749 ([(some h)]) λ_=>UC a0.C s757 λU=>A7 (U==0) (DN 8 s753 ([(some h)]) λ_=>next761 ((s749++([(some h)])),(s753++([(some h)])),AJ (s757+1),((h,D.2) :: s758))) (next761 ((s749++([(some h)])),s753,AJ (s757+1),((h,D.2) :: s758))))) (λJ=>A7 (J.1 != 0) (Q0 (J.1,s758)) (Aw3 s758 λd=>DN 8 s749 ([(some d)]) λ_=>UC a0.C s757 λV=>A7 (V==0) (DN 8 s753 ([(some d)]) λ_=>next761 ((s749++([(some d)])),(s753++([(some d)])),AJ (s757+1),((d,J.2) :: s758))) (next761 ((s749++([(some d)])),s753,AJ (s757+1),((d,J.2) :: s758)))))) (EN ({ setup:=a0,workers:=s749,boxes:=([]:List ((Int×Int)×(Option Nat))),owners:=s753,history:=([]:List State) }:A6) s758 λO=>Q1 (0,s758,O))) (([]:List (Option Nat)),([]:List (Option Nat)),0,o0))
def GA (o0:A6) (o1:A4) (a0:Int) (Q:Bool->Prop):Prop:=
 A7 (decide (0<=a0)) (Q (decide (a0<(o0.workers.length:Int)))) (Q false)
def F7 (o0:A3) (Q:Int->Prop):Prop:=
 Q (o0.out.length:Int)
def K4 (o0:A3) (Q:(AU×Bool)->Prop):Prop:=
 F7 o0 λD=>A7 (D==0) (Q (({ Kind:=0,From:=0,To:=0,Seq:=0,Round:=0,Vec:=CK,Sums:=([]:List BK),Triples:=([]:List A5),N:=0,Over:=false }:AU),false)) (BA o0.out 0 λh=>Z9 h λd=>Q (d,true))
def KU (o0:A4) (a0:Option Nat) (Q:(AU×Bool)->Prop):Prop:=
 mE a0 False λb=>pU o0 b λx=>K4 x  λd=>Q (d.1,d.2)
def ZI (a0:Int) (Q0:Int->Prop) (d:(Int×BF)->Prop):Prop:=
 A7 (decide (a0<1)) (False) (A7 (decide (64<a0)) (False) (d (0,({ room:=a0,row:=([]:List Int),by_:=([]:List (Int×AU)),often:=([]:List (Int×Int)),sent:=0,taken:=0 }:BF))))
def E9 (o0:A6) (o1:A4) (o2:A8) (a0:Int) (a1:Int) (Z:(A6×A8)->Prop) (W:((Option Nat)×A6×A8)->Prop):Prop:=
 GA o0 o1 a0 λU=>A7 (!U) (Z (o0,o2)) (GA o0 o1 a1 λV=>A7 (!V) (Z (o0,o2)) (lkP o0.boxes (a0,a1) none λO=>A7 O.isNone (ZI o0.setup.Room (λ_=>False) (λJ=>Aw3 o2 λd=>lkP (EJ (a0,a1) (some d) o0.boxes) (a0,a1) none λh=>W (h,({ o0 with boxes:=(EJ (a0,a1) (some d) o0.boxes) }:A6),((d,J.2) :: o2)))) (lkP o0.boxes (a0,a1) none λD=>W (D,o0,o2))))
def HX (o0:BF) (Q:Bool->Prop):Prop:=
 Q (decide (o0.room<=(o0.row.length:Int)))
def IU (o0:BF) (a0:Int) (Q:BF->Prop):Prop:=
 DN 8 o0.row ([a0]) λ_=>lkP o0.often a0 0 λd=>Q ({ o0 with row:=(o0.row++([a0])),often:=(EJ a0 (AJ (d+1)) o0.often) }:BF)
def LB (o0:BF) (a0:AU) (Q:(Int×BF)->Prop):Prop:=
 HX o0 λh=>A7 h (Q (9,o0)) (cO a0 λD=>IU ({ o0 with by_:=(EJ o0.sent ({ D with Seq:=o0.sent }:AU) o0.by_) }:BF) o0.sent λd=>Q (0,({ d with sent:=AJ (d.sent+1) }:BF)))
def QT (o0:A8) (a0:Option Nat) (a1:AU) (Q:(Int×A8)->Prop):Prop:=
 mE a0 False λb=>pU o0 b λx=>LB x a1 λd=>Q (d.1,(b,d.2) :: FJ b o0)
def K5 (o0:A3) (Q:A3->Prop):Prop:=
 F7 o0 λd=>A7 (decide (0<d)) (slP o0.out 1 d λ_=>Q ({ o0 with out:=((o0.out.take d.toNat).drop (Int.toNat 1)) }:A3)) (Q o0)
def KV (o0:A4) (a0:Option Nat) (Q:A4->Prop):Prop:=
 mE a0 False λb=>pU o0 b λx=>K5 x  λd=>Q ((b,d) :: FJ b o0)
def FQ (o0:A6) (o1:A4) (o2:A8) (a0:Int) (Q:(Bool×A6×A4×A8)->Prop):Prop:=
 GA o0 o1 a0 λU=>A7 (!U) (Q (false,o0,o1,o2)) (BA o0.workers a0 λO=>KU o1 O λD=>A7 (!D.2) (Q (false,o0,o1,o2)) (E9 o0 o1 o2 a0 D.1.To (λ_=>False) (λh=>QT h.2.2 h.1 D.1 λd=>A7 (d.1 != 0) (Q (false,h.2.1,o1,d.2)) (KV o1 O λJ=>Q (true,h.2.1,J,d.2)))))
def IV (o0:BF) (Q:Int->Prop):Prop:=
 Q (o0.row.length:Int)
def FF (o0:A8) (a0:Option Nat) (Q:Int->Prop):Prop:=
 mE a0 False λb=>pU o0 b λx=>IV x  λd=>Q d
def HY (o0:A6) (o1:A4) (o2:A8) (a0:Int) (a1:Int) (Q:(Int×A6×A8)->Prop):Prop:=
 E9 o0 o1 o2 a0 a1 (λ_=>False) (λd=>FF d.2.2 d.1 λh=>Q (h,d.2.1,d.2.2))
def HQ (o0:BF) (a0:Int) (Q:Int->Prop):Prop:=
 A7 (decide (a0<0)) (Q 3) (A7 (decide ((o0.row.length:Int)<=a0)) (Q 3) (Q 0))
def E0 (o0:List Int) (a0:Int) (a1:Int) (Q:(List Int)->Prop):Prop:=
 slP o0 a0 a1 λ_=>A7 (a0==a1) (Q o0) (slP o0 0 a0 λ_=>slP o0 a1 (o0.length:Int) λ_=>Q (o0.take a0.toNat++o0.drop a1.toNat))
def MP (o0:BF) (a0:Int) (Q:(AU×BF)->Prop):Prop:=
 BA o0.row a0 λx21=>lkP o0.by_ x21 ({ Kind:=0,From:=0,To:=0,Seq:=0,Round:=0,Vec:=CK,Sums:=([]:List BK),Triples:=([]:List A5),N:=0,Over:=false }:AU) λD=>E0 o0.row a0 (AJ (a0+1)) λh=>lkP o0.often x21 0 λd=>lkP (EJ x21 (AJ (d - 1)) o0.often) x21 0 λJ=>A7 (J==0) (Q (D,({ o0 with row:=h,by_:=(FJ x21 o0.by_),often:=(FJ x21 (EJ x21 (AJ (d - 1)) o0.often)) }:BF))) (Q (D,({ o0 with row:=h,often:=(EJ x21 (AJ (d - 1)) o0.often) }:BF)))
def LC (o0:BF) (a0:Int) (Q:(AU×Bool×Int×BF)->Prop):Prop:=
 HQ o0 a0 λh=>A7 (h != 0) (Q (({ Kind:=0,From:=0,To:=0,Seq:=0,Round:=0,Vec:=CK,Sums:=([]:List BK),Triples:=([]:List A5),N:=0,Over:=false }:AU),false,h,o0)) (BA o0.row a0 λJ=>A7 (decide (o0.taken<J)) (Q (({ Kind:=0,From:=0,To:=0,Seq:=0,Round:=0,Vec:=CK,Sums:=([]:List BK),Triples:=([]:List A5),N:=0,Over:=false }:AU),false,h,o0)) (MP o0 a0 λd=>A7 (decide (d.1.Seq<d.2.taken)) (Q (({ Kind:=0,From:=0,To:=0,Seq:=0,Round:=0,Vec:=CK,Sums:=([]:List BK),Triples:=([]:List A5),N:=0,Over:=false }:AU),false,0,d.2)) (cO d.1 λD=>Q (D,true,0,({ room:=d.2.room,row:=d.2.row,by_:=d.2.by_,often:=d.2.often,sent:=d.2.sent,taken:=AJ (d.2.taken+1) }:BF)))))
def QU (o0:A8) (a0:Option Nat) (a1:Int) (Q:(AU×Bool×Int×A8)->Prop):Prop:=
 mE a0 False λb=>pU o0 b λx=>LC x a1 λd=>Q (d.1,d.2.1,d.2.2.1,(b,d.2.2.2) :: FJ b o0)
def I9 (o0:A3) (Q:Int->Prop):Prop:=
 CD o0 o0.place.i o0.place.j λd=>Q d
def GB (o0:A3) (a0:Int) (Q:Int->Prop):Prop:=
 IM o0.plan.N o0.grid.i a0 λD=>IM o0.plan.N o0.grid.j o0.place.j λd=>IM o0.plan.N o0.grid.i (AJ (a0+1)) λJ=>IM o0.plan.N o0.grid.j (AJ (o0.place.j+1)) λh=>Q (if (AJ ((if h<J then h else J) - (if d > D then d else D))) > 0 then AJ ((if h<J then h else J) - (if d > D then d else D)) else 0)
def EF (o0:A3) (a0:AU) (a1:BC) (Q:(Bool×A3)->Prop):Prop:=
 GB o0 a1.i λV=>NE a0 V λd=>yQ o0.shares a1.i CK λW J=>A7 J (False) (A7 (!d.2) (False) (A7 (o0.place.i != 0) (False) (A7 (a1.j != 0) (False) (A7 (a0.Round != o0.share) (False) (A7 (decide (((EJ a1.i d.1 o0.shares).length:Int)<o0.grid.i)) (Q (true,({ o0 with shares:=(EJ a1.i d.1 o0.shares) }:A3))) (B4 (λ(s:(List Vec)×Int) next258=>match s with | (s252,s256)=>A7 (decide (s256<o0.grid.i)) (lkP (EJ a1.i d.1 o0.shares) s256 CK λh=>DN 32 s252 ([h]) λ_=>next258 ((s252++([h])),AJ (s256+1))) (fS o0.plan.N o0.grid.i o0.grid.j o0.place.j s252 λD=>B4 (λ(s:A3×Int) next614=>match s with | (s602,s613)=>A7 (decide (s613<o0.grid.i)) (CD s602 s613 s602.place.j λO=>CB s602 ({ Kind:=2,From:=0,To:=O,Seq:=0,Round:=s602.share,Vec:=D.1,Sums:=([]:List BK),Triples:=([]:List A5),N:=0,Over:=false }:AU) λU=>next614 (U,AJ (s613+1))) (Q (true,({ s602 with share:=AJ (s602.share+1),shares:=([]:List (Int×Vec)) }:A3)))) (({ o0 with shares:=(EJ a1.i d.1 o0.shares) }:A3),0))) (([]:List Vec),0)))))))
def FS (o0:A3) (a0:Int) (Q:HP->Prop):Prop:=
 A7 ((o0.choices.length:Int)==0) (Q ({ Way:=0,Form:=0 }:HP)) (nzP (o0.choices.length:Int) <| BA o0.choices ((AJ (a0 - 1)).tmod (o0.choices.length:Int)) λd=>Q d)
def E3 (o0:A3) (a0:AU) (a1:BC) (Q:(Bool×A3)->Prop):Prop:=
 NE a0 o0.rows.Cols λU=>A7 (!U.2) (False) (A7 (a1.i != 0) (False) (A7 (a1.j != o0.place.j) (False) (A7 (a0.Round != o0.spread) (False) (FS o0 a0.Round λJ=>OD o0.plan.Kind a0.Round λV=>WA J.Form U.1 λd=>WF ({ Ring:=V,Rows:=o0.rows,Cols:=o0.cols,X:=d,Set:=([]:List Int),Others:=true,Way:=J.Way }:H7) λD=>CD ({ o0 with spread:=AJ (o0.spread+1) }:A3) o0.place.i 0 λO=>CB ({ o0 with spread:=AJ (o0.spread+1) }:A3) ({ Kind:=3,From:=0,To:=O,Seq:=0,Round:=a0.Round,Vec:=CK,Sums:=D.1,Triples:=([]:List A5),N:=0,Over:=false }:AU) λh=>Q (true,h)))))
def FT (o0:A3) (a0:List BK) (Q:Bool->Prop):Prop:=
 B4 (λ(s:Int×Int) next82=>match s with | (s80,s81)=>A7 (decide (s81<(a0.length:Int))) (BA a0 s81 λd=>A7 (decide (d.At<=s80)) (Q false) (A7 (decide (o0.rows.Rows<=d.At)) (Q false) (next82 (d.At,AJ (s81+1))))) (Q true)) ((-1),0)
def DI (o0:List Int) (o1:Bool) (a0:BK) (Q:Bool->Prop):Prop:=
 KR o0 a0.At λd=>Q (d==o1)
def CW (o0:List BK) (o1:List Int) (o2:Bool) (Q:Int->Prop):Prop:=
 B4 (λ(d:Int) next45=>A7 (decide (d<(o0.length:Int))) (BA o0 d λD=>DI o1 o2 D λh=>A7 h (Q d) (next45 (AJ (d+1)))) (Q (-1))) 0
def CS (o0:List BK) (o1:List Int) (o2:Bool) (Q:(List BK)->Prop):Prop:=
 CW o0 o1 o2 λh=>A7 (h==(-1)) (Q o0) (B4 (λ(s:(List BK)×Int×Int) next239=>match s with | (s236,s237,s238)=>A7 (decide (s238<(s236.length:Int))) (BA s236 s238 λd=>DI o1 o2 d λD=>A7 (!D) (BA s236 s237 λJ=>next239 ((s236.set s237.toNat d),AJ (s237+1),AJ (s238+1))) (next239 (s236,s237,AJ (s238+1)))) (slP s236 s237 (s236.length:Int) λ_=>slP s236 0 s237 λ_=>Q (s236.take s237.toNat))) (o0,h,AJ (h+1)))
def E4 (o0:A3) (a0:Int) (Q:A3->Prop):Prop:=
 QL o0.plan o0.has a0 λD=>CS o0.sums D.1 D.2 λU=>OD o0.plan.Kind a0 λV=>fM V o0.rows.Rows U λd=>A7 (d.2==0) (S9 o0.plan o0.has a0 d.1 λJ=>DC ({ o0 with aside:=J,sums:=([]:List BK) }:A3) a0 (d.2 != 0) λh=>Q h) (DC ({ o0 with aside:=o0.has,sums:=([]:List BK) }:A3) a0 (d.2 != 0) λO=>Q O)
def E5 (o0:A3) (a0:AU) (a1:BC) (Q:(Bool×A3)->Prop):Prop:=
 A7 (o0.place.j != 0) (False) (A7 (a1.i != o0.place.i) (False) (A7 (o0.status != 0) (False) (A7 o0.waits (False) (A7 (a0.Round != (AJ (o0.round+1))) (False) (lkP o0.came a1.j false λD=>A7 D (False) (FT o0 a0.Sums λO=>A7 (!O) (False) (OD o0.plan.Kind a0.Round λJ=>UF J ([o0.sums,a0.Sums]:List (List BK)) λd=>A7 (((EJ a1.j true o0.came).length:Int)==o0.grid.j) (E4 ({ o0 with sums:=d.1,came:=(EJ a1.j true o0.came) }:A3) a0.Round λh=>Q (true,h)) (Q (true,({ o0 with sums:=d.1,came:=(EJ a1.j true o0.came) }:A3))))))))))
def FI (o0:A3) (Q:Int->Prop):Prop:=
 B4 (λ(s:(List (Int×AU))×Bool×Bool) next214=>match s with | (s211,s212,s213)=>AaE s211 (A7 s212 (Q 3) (A7 (!s213) (Q 1) (A7 (o0.vote==o0.limit) (Q 2) (Q 0)))) (λh d=>A7 s212 (A7 s213 (next214 (d,true,true)) (next214 (d,true,h.2.N != 0))) (A7 s213 (next214 (d,h.2.Over,true)) (next214 (d,h.2.Over,h.2.N != 0))))) (o0.votes,false,false)
def EU (o0:A3) (a0:AU) (a1:BC) (Q:(Bool×A3)->Prop):Prop:=
 yQ o0.votes a1.i ({ Kind:=0,From:=0,To:=0,Seq:=0,Round:=0,Vec:=CK,Sums:=([]:List BK),Triples:=([]:List A5),N:=0,Over:=false }:AU) λO J=>A7 J (False) (A7 (!(o0.place==({ i:=0,j:=0 }:BC))) (False) (A7 o0.closed (False) (A7 (a1.j != 0) (False) (A7 (a0.Round != o0.vote) (False) (A7 (decide (((EJ a1.i a0 o0.votes).length:Int)<o0.grid.i)) (Q (true,({ o0 with votes:=(EJ a1.i a0 o0.votes) }:A3))) (FI ({ o0 with votes:=(EJ a1.i a0 o0.votes) }:A3) λh=>B4 (λ(s:A3×Int) next381=>match s with | (s369,s380)=>A7 (decide (s380<o0.grid.i)) (CD s369 s380 0 λD=>CB s369 ({ Kind:=5,From:=0,To:=D,Seq:=0,Round:=s369.vote,Vec:=CK,Sums:=([]:List BK),Triples:=([]:List A5),N:=h,Over:=false }:AU) λd=>next381 (d,AJ (s380+1))) (Q (true,({ s369 with vote:=AJ (s369.vote+1),votes:=([]:List (Int×AU)),closed:=h != 0 }:A3)))) (({ o0 with votes:=(EJ a1.i a0 o0.votes) }:A3),0)))))))
def FU (o0:A3) (Q:A3->Prop):Prop:=
 cQ o0.plan o0.has (AJ (o0.round+1)) λD=>B4 (λ(s:A3×Int) next175=>match s with | (s163,s174)=>A7 (decide (s174<o0.grid.j)) (WB D s163.plan.N s163.grid.i s163.grid.j s163.place.i s174 λh=>CB s163 ({ Kind:=1,From:=0,To:=s174,Seq:=0,Round:=AJ (s163.round+1),Vec:=h,Sums:=([]:List BK),Triples:=([]:List A5),N:=0,Over:=false }:AU) λd=>next175 (d,AJ (s174+1))) (Q ({ s163 with sums:=([]:List BK),came:=([]:List (Int×Bool)) }:A3))) (o0,0)
def E6 (o0:A3) (a0:AU) (a1:BC) (Q:(Bool×A3)->Prop):Prop:=
 ES (λ(J:Int->Prop)=>A7 o0.begun (J (AJ (o0.round+1))) (J 0)) λd=>A7 (o0.place.j != 0) (False) (A7 (!(a1==({ i:=0,j:=0 }:BC))) (False) (A7 (!o0.waits) (False) (A7 (o0.status != 0) (False) (A7 (a0.Round != d) (False) (A7 (decide (a0.N<0)) (False) (A7 (decide (3<a0.N)) (False) (ES (λ(O:A3->Prop)=>ES (λ(h:Bool->Prop)=>A7 (decide (0<d)) (h (a0.N != 3)) (h false)) λV=>A7 V (O ({ o0 with round:=d,status:=a0.N,has:=o0.aside,waits:=false,begun:=true }:A3)) (O ({ o0 with status:=a0.N,waits:=false,begun:=true }:A3))) λD=>A7 (a0.N==0) (FU D λU=>Q (true,U)) (Q (true,D)))))))))
def DZ (o0:A3) (a0:AU) (Q:(Bool×A3)->Prop):Prop:=
 I9 o0 λW=>A7 (a0.To != W) (False) (A7 (decide (a0.From<0)) (False) (A7 (decide ((AJ (o0.grid.i*o0.grid.j))<=a0.From)) (False) (Y2 o0.grid.j a0.From λh=>UC o0.grid.j a0.From λd=>A7 (a0.Kind==1) (EF o0 a0 ({ i:=h,j:=d }:BC) λV=>Q (V.1,V.2)) (A7 (a0.Kind==2) (E3 o0 a0 ({ i:=h,j:=d }:BC) λU=>Q (U.1,U.2)) (A7 (a0.Kind==3) (E5 o0 a0 ({ i:=h,j:=d }:BC) λO=>Q (O.1,O.2)) (A7 (a0.Kind==4) (EU o0 a0 ({ i:=h,j:=d }:BC) λD=>Q (D.1,D.2)) (A7 (a0.Kind==5) (E6 o0 a0 ({ i:=h,j:=d }:BC) λJ=>Q (J.1,J.2)) (False))))))))
def KW (o0:A4) (a0:Option Nat) (a1:AU) (Q:(Bool×A4)->Prop):Prop:=
 mE a0 False λb=>pU o0 b λx=>DZ x a1 λd=>Q (d.1,(b,d.2) :: FJ b o0)
def ED (o0:A6) (o1:A4) (o2:A8) (a0:Int) (a1:Int) (U:Int) (Q:(Bool×A6×A4×A8)->Prop):Prop:=
 E9 o0 o1 o2 a0 a1 (λ_=>False) (λd=>QU d.2.2 d.1 U λh=>A7 (!h.2.1) (Q (false,d.2.1,o1,h.2.2.2)) (BA d.2.1.workers a1 λJ=>KW o1 J h.1 λD=>EN d.2.1 D.2 λO=>Q (true,O,D.2,h.2.2.2)))
def IE (o0:BF) (a0:Int) (Q:(Int×BF)->Prop):Prop:=
 HQ o0 a0 λd=>A7 (d != 0) (Q (d,o0)) (HX o0 λJ=>A7 J (Q (9,o0)) (BA o0.row a0 λD=>IU o0 D λh=>Q (0,h)))
def O5 (o0:A8) (a0:Option Nat) (a1:Int) (Q:(Int×A8)->Prop):Prop:=
 mE a0 False λb=>pU o0 b λx=>IE x a1 λd=>Q (d.1,(b,d.2) :: FJ b o0)
def G1 (o0:A6) (o1:A4) (o2:A8) (a0:Int) (a1:Int) (D:Int) (Q:(Int×A6×A8)->Prop):Prop:=
 E9 o0 o1 o2 a0 a1 (λ_=>False) (λd=>O5 d.2.2 d.1 D λh=>Q (h.1,d.2.1,h.2))
def LD (o0:BF) (a0:Int) (Q:(Int×BF)->Prop):Prop:=
 HQ o0 a0 λh=>A7 (h != 0) (Q (h,o0)) (BA o0.row a0 λD=>E0 o0.row a0 (AJ (a0+1)) λd=>DN 8 d ([D]) λ_=>Q (0,({ o0 with row:=(d++([D])) }:BF)))
def QV (o0:A8) (a0:Option Nat) (a1:Int) (Q:(Int×A8)->Prop):Prop:=
 mE a0 False λb=>pU o0 b λx=>LD x a1 λd=>Q (d.1,(b,d.2) :: FJ b o0)
def HD (o0:A6) (o1:A4) (o2:A8) (a0:Int) (a1:Int) (D:Int) (Q:(Int×A6×A8)->Prop):Prop:=
 E9 o0 o1 o2 a0 a1 (λ_=>False) (λd=>QV d.2.2 d.1 D λh=>Q (h.1,d.2.1,h.2))
def IF (o0:A6) (o1:A8) (Q:(List (Int×Int))->Prop):Prop:=
 B4 (λ(s:(List ((Int×Int)×(Option Nat)))×(List (Int×Int))) next114=>match s with | (s108,s109)=>AaE s108 (AeU PB s109 λD=>Q D) (λd h=>FF o1 d.2 λJ=>A7 (decide (0<J)) (DN 16 s109 ([d.1]) λ_=>next114 (h,(s109++([d.1])))) (next114 (h,s109)))) (o0.boxes,([]:List (Int×Int)))
def KX (o0:Int) (a0:Int) (Q:Bool->Prop):Prop:=
 Q (a0==o0)
def EK (o0:List Int) (o1:Int) (Q:Int->Prop):Prop:=
 B4 (λ(d:Int) next40=>A7 (decide (d<(o0.length:Int))) (BA o0 d λD=>KX o1 D λh=>A7 h (Q d) (next40 (AJ (d+1)))) (Q (-1))) 0
def IG (o0:BF) (Q:Int->Prop):Prop:=
 IV o0 λD=>A7 (D==0) (Q (-1)) (K0 o0.row λh=>EK o0.row h λd=>Q d)
def O6 (o0:A8) (a0:Option Nat) (Q:Int->Prop):Prop:=
 mE a0 False λb=>pU o0 b λx=>IG x  λd=>Q d
def D1 (o0:A6) (o1:A4) (o2:A8) (Q:(Bool×A6×A4×A8)->Prop):Prop:=
 B4 (λ(s:A6×Bool×Int×A4×A8) next215=>match s with | (s204,s211,s212,s213,s214)=>A7 (decide (s212<(o0.workers.length:Int))) (FQ s204 s213 s214 s212 λd=>A7 d.1 (next215 (d.2.1,true,AJ (s212+1),d.2.2.1,d.2.2.2)) (next215 (d.2.1,s211,AJ (s212+1),d.2.2.1,d.2.2.2))) (IF s204 s214 λO=>B4 (λ(s:A6×Bool×Int×A8×A4) next493=>match s with | (s482,s489,s490,s491,s492)=>A7 (decide (s490<(O.length:Int))) (BA O s490 λJ=>lkP s482.boxes J none λD=>FF s491 D λW=>O6 s491 D λU=>ED s482 s492 s491 J.1 J.2 U λh=>A7 s489 (next493 (h.2.1,true,AJ (s490+1),h.2.2.2,h.2.2.1)) (FF h.2.2.2 D λV=>next493 (h.2.1,decide (V<W),AJ (s490+1),h.2.2.2,h.2.2.1))) (Q (s489,s482,s492,s491))) (s204,s211,0,s214,s213))) (o0,false,0,o1,o2)
def X9 (o0:A6) (o1:A4) (o2:A8) (a0:ET) (Q:(Bool×A6×A4×A8)->Prop):Prop:=
 A7 (a0.Kind==1) (FQ o0 o1 o2 a0.A λU=>Q (U.1,U.2.1,U.2.2.1,U.2.2.2)) (A7 (a0.Kind==2) (HY o0 o1 o2 a0.A a0.B λV=>ED V.2.1 o1 V.2.2 a0.A a0.B a0.K λh=>HY h.2.1 h.2.2.1 h.2.2.2 a0.A a0.B λO=>Q (decide (O.1<V.1),O.2.1,h.2.2.1,O.2.2)) (A7 (a0.Kind==3) (G1 o0 o1 o2 a0.A a0.B a0.K λJ=>Q (J.1==0,J.2.1,o1,J.2.2)) (A7 (a0.Kind==4) (HD o0 o1 o2 a0.A a0.B a0.K λD=>Q (D.1==0,D.2.1,o1,D.2.2)) (D1 o0 o1 o2 λd=>Q (d.1,d.2.1,d.2.2.1,d.2.2.2)))))
def GO (o0:A6) (o1:A4) (o2:A8) (a0:ET) (Q:(A6×A4×A8)->Prop):Prop:=
 X9 o0 o1 o2 a0 λd=>Q (d.2.1,d.2.2.1,d.2.2.2)
def K6 (o0:A4) (o1:A8) (a0:KG) (a1:List ET) (O:(Int×A4×A8)->Prop) (U:(Int×A4×A8×A6)->Prop):Prop:=
 U9 a0 a1 0 λJ=>A7 (J != 0) (O (J,o0,o1)) (PF o0 o1 a0 (λ_=>False) (λd=>A7 (d.1 != 0) (O (d.1,d.2.1,o1)) (B4 (λ(s:A6×Int×A4×A8) next170=>match s with | (s160,s167,s168,s169)=>A7 (decide (s167<(a1.length:Int))) (BA a1 s167 λD=>GO s160 s168 s169 D λh=>next170 (h.1,AJ (s167+1),h.2.1,h.2.2)) (U (0,s168,s169,s160))) (d.2.2,0,d.2.1,o1))))
def EG (o0:A3) (Q:Int->Prop):Prop:=
 Q o0.status
def DK (o0:A4) (a0:Option Nat) (Q:Int->Prop):Prop:=
 mE a0 False λb=>pU o0 b λx=>EG x  λd=>Q d
def HJ (o0:A4) (a0:Option Nat) (Q:Bool->Prop):Prop:=
 DK o0 a0 λd=>Q (d==0)
def BQ (o0:A4) (a0:List (Option Nat)) (Q:Int->Prop):Prop:=
 B4 (λ(d:Int) next47=>A7 (decide (d<(a0.length:Int))) (BA a0 d λh=>HJ o0 h λD=>A7 D (Q d) (next47 (AJ (d+1)))) (Q (-1))) 0
def BM (o0:A4) (a0:List (Option Nat)) (Q:Bool->Prop):Prop:=
 BQ o0 a0 λd=>Q (decide (0<=d))
def CM (o0:A6) (o1:A4) (Q:Bool->Prop):Prop:=
 BM o1 o0.owners λd=>Q (!d)
def RO (a0:KG) (a1:List ET) (Q:((List ET)×Int)->Prop):Prop:=
 K6 ([]:A4) ([]:A8) a0 a1 (λ_=>False) (λd=>A7 (d.1 != 0) (Q (([]:List ET),d.1)) (DY a1 λJ=>B4 (λ(s:A6×(List ET)×A4×A8) next209=>match s with | (s196,s203,s207,s208)=>CM s196 s207 λD=>A7 (!D) (D1 s196 s207 s208 λh=>DN 32 s203 ([({ Kind:=5,A:=0,B:=0,K:=0 }:ET)]) λ_=>next209 (h.2.1,(s203++([({ Kind:=5,A:=0,B:=0,K:=0 }:ET)])),h.2.2.1,h.2.2.2)) (Q (s203,0))) (d.2.2.2,J,d.2.1,d.2.2.1)))
def SA (o0:A6) (o1:A4) (o2:A8) (a0:ET) (Q:(A6×A4×A8)->Prop):Prop:=
 A7 (a0.Kind==1) (FQ o0 o1 o2 a0.A λh=>Q (h.2.1,h.2.2.1,h.2.2.2)) (A7 (a0.Kind==3) (G1 o0 o1 o2 a0.A a0.B a0.K λO=>Q (O.2.1,o1,O.2.2)) (A7 (a0.Kind==4) (HD o0 o1 o2 a0.A a0.B a0.K λJ=>Q (J.2.1,o1,J.2.2)) (A7 (a0.Kind==2) (ED o0 o1 o2 a0.A a0.B a0.K λD=>Q (D.2.1,D.2.2.1,D.2.2.2)) (A7 (a0.Kind==5) (D1 o0 o1 o2 λd=>Q (d.2.1,d.2.2.1,d.2.2.2)) (Q (o0,o1,o2))))))
def NT (o0:A4) (o1:A8) (a0:KG) (a1:List ET) (Z:Int) (W:(Int×Int×A4×A8)->Prop) (V:(Int×Int×A4×A8×A6)->Prop):Prop:=
 U9 a0 a1 Z λO=>A7 (O != 0) (W (0,O,o0,o1)) (PF o0 o1 a0 (λ_=>False) (λd=>A7 (d.1 != 0) (W (0,d.1,d.2.1,o1)) (B4 (λ(s:A6×Int×A4×A8) next322=>match s with | (s312,s319,s320,s321)=>A7 (decide (s319<(a1.length:Int))) (BA a1 s319 λJ=>SA s312 s320 s321 J λh=>next322 (h.1,AJ (s319+1),h.2.1,h.2.2)) (B4 (λ(s:A6×Int×Int×A4×A8) next472=>match s with | (s461,s468,s469,s470,s471)=>A7 (decide (s469<Z)) (CM s461 s470 λU=>A7 U (V (s468,0,s470,s471,s461)) (D1 s461 s470 s471 λD=>next472 (D.2.1,AJ (s468+1),AJ (s469+1),D.2.2.1,D.2.2.2))) (V (s468,0,s470,s471,s461))) (s312,0,0,s320,s321))) (d.2.2,0,d.2.1,o1))))
def HZ (o0:A6) (Q:Int->Prop):Prop:=
 Q (AJ ((o0.history.length:Int) - 1))
def II (o0:A6) (a0:Int) (Q:(State×Bool)->Prop):Prop:=
 A7 (decide (a0<0)) (Q (DL,false)) (A7 (decide ((o0.history.length:Int)<=a0)) (Q (DL,false)) (BA o0.history a0 λd=>BB d.A λD=>BB d.B λJ=>BT d.On λh=>Q (({ d with A:=D,B:=J,On:=h }:State),true)))
def I3 (o0:A6) (o1:A4) (Q:Result->Prop):Prop:=
 HZ o0 λh=>ES (λ(d:Int->Prop)=>CM o0 o1 λV=>A7 V (BA o0.owners 0 λJ=>DK o1 J λU=>d U) (d 0)) λD=>II o0 h λO=>Q ({ Status:=D,Rounds:=h,State:=O.1 }:Result)
def LF (o0:BF) (Q:Int->Prop):Prop:=
 Q o0.sent
def QW (o0:A8) (a0:Option Nat) (Q:Int->Prop):Prop:=
 mE a0 False λb=>pU o0 b λx=>LF x  λd=>Q d
def K7 (o0:A6) (o1:A8) (Q:Int->Prop):Prop:=
 B4 (λ(s:(List ((Int×Int)×(Option Nat)))×Int) next78=>match s with | (s76,s77)=>AaE s76 (Q s77) (λD h=>QW o1 D.2 λd=>next78 (h,AJ (s77+d)))) (o0.boxes,0)
def mK (a0:KG) (a1:List ET) (O:Int) (Q:(Z4×Int)->Prop):Prop:=
 NT ([]:A4) ([]:A8) a0 a1 O (λ_=>False) (λd=>A7 (d.2.1 != 0) (Q (({ Result:=({ Status:=0,Rounds:=0,State:=DL }:Result),Sent:=0,Windows:=0 }:Z4),d.2.1)) (I3 d.2.2.2.2 d.2.2.1 λD=>K7 d.2.2.2.2 d.2.2.2.1 λh=>CM d.2.2.2.2 d.2.2.1 λJ=>A7 (!J) (Q (({ Result:=({ D with Status:=4 }:Result),Sent:=h,Windows:=d.1 }:Z4),d.2.1)) (Q (({ Result:=D,Sent:=h,Windows:=d.1 }:Z4),d.2.1))))
def LZ (o0:Nat) (o1:List (List AQ)) (o2:List B5) (o3:List (Int×Int)) (o4:Int) (Y:Nat->(List (List AQ))->Int->AQ->((Bool×Nat×(List (List AQ)))->Prop)->Prop) (Q:(Nat×(List (List AQ)))->Prop):Prop:=
 B4 (λ(s:(List (List AQ))×Int×Nat) next164=>match s with | (s158,s162,s163)=>A7 (decide (s162<(o2.length:Int))) (BA o2 s162 λh=>yQ o3 h.From 0 λJ O=>A7 O (UI o4 h.W J λD=>Y s163 s158 h.To D λd=>A7 (!d.1) (Q (d.2.1,d.2.2)) (next164 (d.2.2,AJ (s162+1),d.2.1))) (next164 (s158,AJ (s162+1),s163))) (Q (s163,s158))) (o1,0,o0)
def WG (a0:Plan) (a1:List B5) (Z:State) (a3:Int) (Q:((List (List AQ))×Int)->Prop):Prop:=
 TF a0 a1 Z λV=>A7 (V != 0) (Q (([]:List (List AQ)),V)) (mkP 24 a0.N ([]:List AQ) λ_=>HC a0 a1 Z a3 λU=>LZ 0 (List.replicate a0.N.toNat ([]:List AQ)) U.1 U.2.1 U.2.2 (λ(W:Nat) (d:List (List AQ)) (h:Int) (D:AQ) (Qy:(Bool×Nat×(List (List AQ)))->Prop)=>eqP W 0 (BA d h λJ=>DN 16 J ([D]) λ_=>BA d h λx184=>Qy (true,0,(d.set h.toNat (J++([D])))))) λO=>eqP O.1 0 (Q (O.2,0)))
def WH (a0:Plan) (a1:List B5) (V:State) (a3:Int) (Q:(State×Int)->Prop):Prop:=
 WG a0 a1 V a3 λh=>A7 (h.2 != 0) (Q (DL,h.2)) (QL a0 V a3 λU=>B4 (λ(s:(List B3)×Int) next199=>match s with | (s193,s197)=>A7 (decide (s197<(h.1.length:Int))) (BA h.1 s197 λJ=>KR U.1 s197 λD=>A7 (D==U.2) (next199 (s193,AJ (s197+1))) (WC a0.Kind a3 J λd=>A7 (d.2.2 != 0) (Q (DL,d.2.2)) (A7 d.2.1 (DN 16 s193 ([({ At:=s197,Val:=d.1 }:B3)]) λ_=>next199 ((s193++([({ At:=s197,Val:=d.1 }:B3)])),AJ (s197+1))) (next199 (s193,AJ (s197+1)))))) (S9 a0 V a3 ({ N:=a0.N,Items:=s193 }:Vec) λO=>Q (O,0))) (([]:List B3),0))
def I4 (o0:Nat) (o1:Int) (o2:List B5) (o3:List (Int×Int)) (o4:Int) (Y:Nat->Int->Int->AQ->((Bool×Nat×Int)->Prop)->Prop) (Q:(Nat×Int)->Prop):Prop:=
 B4 (λ(s:Int×Int×Nat) next136=>match s with | (s133,s134,s135)=>A7 (decide (s134<(o2.length:Int))) (BA o2 s134 λh=>yQ o3 h.From 0 λJ D=>A7 D (UI o4 h.W J λO=>Y s135 s133 h.To O λd=>A7 (!d.1) (Q (d.2.1,d.2.2)) (next136 (d.2.2,AJ (s134+1),d.2.1))) (next136 (s133,AJ (s134+1),s135))) (Q (s135,s133))) (o1,0,o0)
def ZJ (a0:Plan) (a1:Graph) (a2:Int) (Q:(Result×Int×Int)->Prop):Prop:=
 S2 a0 a1 a2 λW=>A7 (W != 0) (Q (({ Status:=0,Rounds:=0,State:=DL }:Result),0,W)) (TE a0 a1 λh=>A7 (h.2 != 0) (Q (({ Status:=0,Rounds:=0,State:=DL }:Result),0,h.2)) (UM a0 0 a0.N λZ=>B4 (λ(s:Result×Int) next294=>match s with | (s289,s292)=>Y1 a0 s289.State s289.Rounds λV=>A7 (V==0) (Q (({ s289 with Status:=1 }:Result),s292,0)) (A7 (s289.Rounds==a2) (Q (({ s289 with Status:=2 }:Result),s292,0)) (WH a0 h.1 s289.State (AJ (s289.Rounds+1)) λJ=>A7 (J.2 != 0) (Q (({ s289 with Status:=3 }:Result),s292,0)) (HC a0 h.1 s289.State (AJ (s289.Rounds+1)) λd=>I4 0 s292 d.1 d.2.1 d.2.2 (λ(U:Nat) (O:Int) (x380:Int) (x381:AQ) (Qy:(Bool×Nat×Int)->Prop)=>eqP U 0 (Qy (true,0,AJ (O+1)))) λD=>eqP D.1 0 (next294 (({ Status:=s289.Status,Rounds:=AJ (s289.Rounds+1),State:=J.1 }:Result),D.2)))))) (({ Status:=0,Rounds:=0,State:=Z }:Result),0)))
def jS (a0:Plan) (a1:Graph) (h:Int) (Q:(Result×Int)->Prop):Prop:=
 ZJ a0 a1 h λd=>Q (d.1,d.2.2)
def XA (a0:JV) (a1:MJ) (Q:Bool->Prop):Prop:=
 SR a0 λd=>K1 a1 (AJ (d.R*d.C)) λU=>RO d U λJ=>mK d J.1 0 λO=>jS d.Plan d.Graph d.Limit λh=>A7 (J.2==0) (A7 (O.2==0) (A7 (h.2==0) (A7 (decide (1<=h.1.Status)) (A7 (decide (h.1.Status<=3)) (ZH O.1.Result h.1 λD=>Q D) (Q false)) (Q false)) (Q false)) (Q false)) (Q false)
abbrev F0 (d:Plan) (D:Option Addr) (h:Nat):Array Value:=#[.int .i64 d.Kind,.int .i64 d.N,.int .i64 d.Source,.int .i64 d.Length,.slice D d.Draws.length h]
abbrev AeZ (d:JU) (h:aTa):Array Value:=#[.int .i64 d.P.Kind,.int .i64 d.P.N,.int .i64 d.P.Source,.int .i64 d.P.Length,.slice h.1.1 d.P.Draws.length h.1.2,.int .i64 d.G.N,.slice h.2.1 d.G.Edges.length h.2.2,.int .u8 d.Limit]
abbrev rP (d:JV) (h:aTb):Array Value:=#[.int .i64 d.Model.P.Kind,.int .i64 d.Model.P.N,.int .i64 d.Model.P.Source,.int .i64 d.Model.P.Length,.slice h.1.1.1 d.Model.P.Draws.length h.1.1.2,.int .i64 d.Model.G.N,.slice h.1.2.1 d.Model.G.Edges.length h.1.2.2,.int .u8 d.Model.Limit,.int .u8 d.R,.int .u8 d.C,.int .u8 d.Room,.slice h.2.1 d.Choices.length h.2.2]
abbrev ZK (d:KG) (h:aTc):Array Value:=#[.int .i64 d.Plan.Kind,.int .i64 d.Plan.N,.int .i64 d.Plan.Source,.int .i64 d.Plan.Length,.slice h.1.1 d.Plan.Draws.length h.1.2,.int .i64 d.Graph.N,.slice h.2.1.1 d.Graph.Edges.length h.2.1.2,.int .i64 d.R,.int .i64 d.C,.int .i64 d.Room,.int .i64 d.Limit,.slice h.2.2.1 d.Choices.length h.2.2.2]
abbrev M0 (h:Rows) (d:aTd):Array Value:=#[.int .i64 h.Rows,.int .i64 h.Cols,.slice d.1.1 h.Start.length d.1.2,.slice d.2.1.1 h.Col.length d.2.1.2,.slice d.2.2.1 h.Val.length d.2.2.2]
abbrev EO (h:State) (d:aTf):Array Value:=#[.int .i64 h.Low,.int .i64 h.High,.slice d.1.1 h.A.length d.1.2,.slice d.2.1.1 h.B.length d.2.1.2,.slice d.2.2.1 h.On.length d.2.2.2]
abbrev FL (h:BE) (d:aTg):Array Value:=#[.int .i64 h.Rows,.int .i64 h.Cols,.slice d.1.1 h.At.length d.1.2,.slice d.2.1.1 h.Start.length d.2.1.2,.slice d.2.2.1.1 h.Row.length d.2.2.1.2,.slice d.2.2.2.1 h.Val.length d.2.2.2.2]
abbrev K8 (d:AU) (h:aTj):Array Value:=#[.int .i64 d.Kind,.int .i64 d.From,.int .i64 d.To,.int .i64 d.Seq,.int .i64 d.Round,.int .i64 d.Vec.N,.slice h.1.1 d.Vec.Items.length h.1.2,.slice h.2.1.1 d.Sums.length h.2.1.2,.slice h.2.2.1 d.Triples.length h.2.2.2,.int .i64 d.N,.bool d.Over]
abbrev M2 (h:Dense) (d:aTk):Array Value:=#[.int .i64 h.N,.slice d.1.1 h.Has.length d.1.2,.slice d.2.1 h.Vals.length d.2.2]
abbrev ApM (d:jO) (h:aTl):Array Value:=#[.int .i64 d.Form,.int .i64 d.Vec.N,.slice h.1.1 d.Vec.Items.length h.1.2,.int .i64 d.Dense.N,.slice h.2.1.1 d.Dense.Has.length h.2.1.2,.slice h.2.2.1 d.Dense.Vals.length h.2.2.2]
abbrev ZL (h:H7) (d:aTm):Array Value:=#[.int .i64 h.Ring,.int .i64 h.Rows.Rows,.int .i64 h.Rows.Cols,.slice d.1.1.1 h.Rows.Start.length d.1.1.2,.slice d.1.2.1.1 h.Rows.Col.length d.1.2.1.2,.slice d.1.2.2.1 h.Rows.Val.length d.1.2.2.2,.int .i64 h.Cols.Rows,.int .i64 h.Cols.Cols,.slice d.2.1.1.1 h.Cols.At.length d.2.1.1.2,.slice d.2.1.2.1.1 h.Cols.Start.length d.2.1.2.1.2,.slice d.2.1.2.2.1.1 h.Cols.Row.length d.2.1.2.2.1.2,.slice d.2.1.2.2.2.1 h.Cols.Val.length d.2.1.2.2.2.2,.int .i64 h.X.Form,.int .i64 h.X.Vec.N,.slice d.2.2.1.1.1 h.X.Vec.Items.length d.2.2.1.1.2,.int .i64 h.X.Dense.N,.slice d.2.2.1.2.1.1 h.X.Dense.Has.length d.2.2.1.2.1.2,.slice d.2.2.1.2.2.1 h.X.Dense.Vals.length d.2.2.1.2.2.2,.slice d.2.2.2.1 h.Set.length d.2.2.2.2,.bool h.Others,.int .i64 h.Way]
abbrev pX (d:AN) (D:Option Addr) (h:Nat) (J:Option Addr) (O:Nat):Array Value:=#[.slice D d.heads.length h,.int .i64 d.r,.slice J d.out.length O]
abbrev AtE (d:Z4) (h:aTf):Array Value:=#[.int .i64 d.Result.Status,.int .i64 d.Result.Rounds,.int .i64 d.Result.State.Low,.int .i64 d.Result.State.High,.slice h.1.1 d.Result.State.A.length h.1.2,.slice h.2.1.1 d.Result.State.B.length h.2.1.2,.slice h.2.2.1 d.Result.State.On.length h.2.2.2,.int .i64 d.Sent,.int .i64 d.Windows]
abbrev fT (d:Result) (h:aTf):Array Value:=#[.int .i64 d.Status,.int .i64 d.Rounds,.int .i64 d.State.Low,.int .i64 d.State.High,.slice h.1.1 d.State.A.length h.1.2,.slice h.2.1.1 d.State.B.length h.2.1.2,.slice h.2.2.1 d.State.On.length h.2.2.2]
abbrev G2 (d:A3) (h:aTp) (J:Option Addr) (U:Nat) (Z:Nat) (V:Option Addr) (W:Nat) (O:Nat) (D:Nat):Array Value:=#[.int .i64 d.place.i,.int .i64 d.place.j,.int .i64 d.plan.Kind,.int .i64 d.plan.N,.int .i64 d.plan.Source,.int .i64 d.plan.Length,.slice h.1.1 d.plan.Draws.length h.1.2,.int .i64 d.grid.i,.int .i64 d.grid.j,.int .i64 d.limit,.slice h.2.1.1 d.choices.length h.2.1.2,.int .i64 d.rows.Rows,.int .i64 d.rows.Cols,.slice h.2.2.1.1.1 d.rows.Start.length h.2.2.1.1.2,.slice h.2.2.1.2.1.1 d.rows.Col.length h.2.2.1.2.1.2,.slice h.2.2.1.2.2.1 d.rows.Val.length h.2.2.1.2.2.2,.int .i64 d.cols.Rows,.int .i64 d.cols.Cols,.slice h.2.2.2.1.1.1 d.cols.At.length h.2.2.2.1.1.2,.slice h.2.2.2.1.2.1.1 d.cols.Start.length h.2.2.2.1.2.1.2,.slice h.2.2.2.1.2.2.1.1 d.cols.Row.length h.2.2.2.1.2.2.1.2,.slice h.2.2.2.1.2.2.2.1 d.cols.Val.length h.2.2.2.1.2.2.2.2,.slice J d.out.length U,.int .i64 d.share,.map (some Z),.int .i64 d.spread,.int .i64 d.round,.int .i64 d.status,.int .i64 d.has.Low,.int .i64 d.has.High,.slice h.2.2.2.2.1.1.1 d.has.A.length h.2.2.2.2.1.1.2,.slice h.2.2.2.2.1.2.1.1 d.has.B.length h.2.2.2.2.1.2.1.2,.slice h.2.2.2.2.1.2.2.1 d.has.On.length h.2.2.2.2.1.2.2.2,.int .i64 d.aside.Low,.int .i64 d.aside.High,.slice h.2.2.2.2.2.1.1 d.aside.A.length h.2.2.2.2.2.1.2,.slice h.2.2.2.2.2.2.1.1 d.aside.B.length h.2.2.2.2.2.2.1.2,.slice h.2.2.2.2.2.2.2.1 d.aside.On.length h.2.2.2.2.2.2.2.2,.bool d.waits,.bool d.begun,.slice V d.sums.length W,.map (some O),.int .i64 d.vote,.map (some D),.bool d.closed]
abbrev M3 (d:A3) (h:aTq) (q1:Option Addr) (q2:Nat) (q3:Nat) (q4:Option Addr) (q5:Nat) (q6:Option Addr) (q7:Nat) (q8:Option Addr) (q9:Nat) (W:Option Addr) (q11:Nat) (D:Option Addr) (U:Nat) (q14:Option Addr) (Z:Nat) (O:Option Addr) (V:Nat) (J:Nat) (q19:Nat):Array Value:=#[.int .i64 d.place.i,.int .i64 d.place.j,.int .i64 d.plan.Kind,.int .i64 d.plan.N,.int .i64 d.plan.Source,.int .i64 d.plan.Length,.slice h.1.1 d.plan.Draws.length h.1.2,.int .i64 d.grid.i,.int .i64 d.grid.j,.int .i64 d.limit,.slice h.2.1.1 d.choices.length h.2.1.2,.int .i64 d.rows.Rows,.int .i64 d.rows.Cols,.slice h.2.2.1.1.1 d.rows.Start.length h.2.2.1.1.2,.slice h.2.2.1.2.1.1 d.rows.Col.length h.2.2.1.2.1.2,.slice h.2.2.1.2.2.1 d.rows.Val.length h.2.2.1.2.2.2,.int .i64 d.cols.Rows,.int .i64 d.cols.Cols,.slice h.2.2.2.1.1 d.cols.At.length h.2.2.2.1.2,.slice h.2.2.2.2.1.1 d.cols.Start.length h.2.2.2.2.1.2,.slice h.2.2.2.2.2.1.1 d.cols.Row.length h.2.2.2.2.2.1.2,.slice h.2.2.2.2.2.2.1 d.cols.Val.length h.2.2.2.2.2.2.2,.slice q1 d.out.length q2,.int .i64 d.share,.map (some q3),.int .i64 d.spread,.int .i64 d.round,.int .i64 d.status,.int .i64 d.has.Low,.int .i64 d.has.High,.slice q4 d.has.A.length q5,.slice q6 d.has.B.length q7,.slice q8 d.has.On.length q9,.int .i64 d.aside.Low,.int .i64 d.aside.High,.slice W d.aside.A.length q11,.slice D d.aside.B.length U,.slice q14 d.aside.On.length Z,.bool d.waits,.bool d.begun,.slice O d.sums.length V,.map (some J),.int .i64 d.vote,.map (some q19),.bool d.closed]
abbrev DD (d:A6) (h:aTs) (D:Nat) (J:Option Addr) (O:Nat):Array Value:=#[.int .i64 d.setup.Plan.Kind,.int .i64 d.setup.Plan.N,.int .i64 d.setup.Plan.Source,.int .i64 d.setup.Plan.Length,.slice h.1.1.1 d.setup.Plan.Draws.length h.1.1.2,.int .i64 d.setup.Graph.N,.slice h.1.2.1.1 d.setup.Graph.Edges.length h.1.2.1.2,.int .i64 d.setup.R,.int .i64 d.setup.C,.int .i64 d.setup.Room,.int .i64 d.setup.Limit,.slice h.1.2.2.1 d.setup.Choices.length h.1.2.2.2,.slice h.2.1.1 d.workers.length h.2.1.2,.map (some D),.slice h.2.2.1 d.owners.length h.2.2.2,.slice J d.history.length O]
abbrev Af0 (d:BF) (D:Option Addr) (h:Nat) (J:Nat) (O:Nat):Array Value:=#[.int .i64 d.room,.slice D d.row.length h,.map (some J),.map (some O),.int .i64 d.sent,.int .i64 d.taken]
theorem tv:True:=trivial
def ApN (x:Plan):Prop:=(mA .i64) x.Kind∧(mA .i64) x.N∧(mA .i64) x.Source∧(mA .i64) x.Length∧(λxs=>(∀ x∈xs,(mA .i64) x)∧xs.length<=maxLen) x.Draws
def AhY (x:B5):Prop:=(mA .i64) x.From∧(mA .i64) x.To∧(mA .i64) x.W
def AkA (x:Graph):Prop:=(mA .i64) x.N∧(λxs=>(∀ x∈xs,AhY x)∧xs.length<=maxLen) x.Edges
def ZM (x:JU):Prop:=ApN x.P∧AkA x.G∧(mA .u8) x.Limit
def vE (x:HP):Prop:=(mA .i64) x.Way∧(mA .i64) x.Form
def mL (x:JV):Prop:=ZM x.Model∧(mA .u8) x.R∧(mA .u8) x.C∧(mA .u8) x.Room∧(λxs=>(∀ x∈xs,vE x)∧xs.length<=maxLen) x.Choices
def AhZ (x:ET):Prop:=(mA .i64) x.Kind∧(mA .i64) x.A∧(mA .i64) x.B∧(mA .i64) x.K
def cR (x:MJ):Prop:=(λxs=>(∀ x∈xs,AhZ x)∧xs.length<=maxLen) x.L∧(mA .u8) x.Windows
end Go.Proofs.YtcecodhleocefaaGreat
