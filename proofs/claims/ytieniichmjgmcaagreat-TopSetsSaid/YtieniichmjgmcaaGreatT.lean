import Derived.Test.YtieniichmjgmcaaGreatB
import Derived.Shelf.SlSortCmp.WholeK
import Derived.Shelf.SlSortCmp.NoneTotal
set_option linter.unusedVariables false
set_option linter.unusedSimpArgs false
set_option maxRecDepth 100000
set_option maxHeartbeats 1000000
namespace Go.Fw
open Go Go.RowKit Go.Shelf Go.Lib Go.Sort Go.Proofs
section
variable {P:Program} {α:Type}
def AeE (h:α->α->(Int->Prop)->Prop) (xs:List α) (K:List α->Prop):Prop:=
 ∃ d:α->α->Int,(∀ x y (Q:Int->Prop),Q (d x y)->h x y Q)∧SWO (ltOf d)∧xs.length<4611686018427387904∧∀ ys:List α,ys.Perm xs->ys.Pairwise (λx y=>0<=d y x)->K ys
theorem AmK {W w':World} (V:At7 W (λ_=>False) w'):∃ q Z,w'=grow (W.drewN q) Z:=by
 refine⟨w'.drawn - W.drawn,w'.heap.extract W.heap.size w'.heap.size,?_⟩;have⟨h,D,J,_,_,O⟩:=V
 have U:w'.heap=W.heap++w'.heap.extract W.heap.size w'.heap.size:=by
  apply Array.ext_getElem?;intro i;rcases ZZ i W.heap.size with hi | hi
  . rw[O i hi (λx=>x),AvA hi]
  . rw[Array.getElem?_append_right hi,Array.getElem?_extract];split
    . congr 1; omega
    . rw[Array.getElem?_eq_none (by omega)]
 have d:W.drawn+(w'.drawn - W.drawn)=w'.drawn:=by omega
 cases w';simp only at U h D J d;simp only[grow,World.drewN,d,<-h,<-D,<-J];congr 1
theorem AmL {W:World} {q:Nat} {d:Array Obj}:At7 W (λ_=>False) (grow (W.drewN q) d):=
 ⟨rfl,rfl,rfl,by simp[grow,World.drewN],by simp[grow,World.drewN],λ_ h _=>by simp[grow,World.drewN,AvA h]⟩
theorem Fun.sort [Inhabited α] {ρ:Ren} (L:SlLaysF0.n6 P ρ) {k:Nat} (aE:∀ w,(isAgg (ρ.t 24)).run P w=.ok true w) (zE:∀ w,(Go.sizeOf (ρ.t 24)).run P w=.ok k w) {enc:α->List Value} {hk:∀ x,(enc x).length=k∧NN (enc x)=true}
    {c0:α->α->(Int->Prop)->Prop} {g:Nat} (hc:∀ (x y:α) (d0:IH) (Q:Int->Prop),c0 x y Q->B3 P g [.agg (enc x).toArray,.agg (enc y).toArray] d0 λ_ v=>∃ r,v=.int .i64 r∧Q r)
    (eg:∀ args w,(callFunc g args).run P w=.ok (.enter g args) w) {I:IH} {T:TypeId} {a:Option Addr} {cap:Nat} {xs:List α} {K:List α->Prop} (hd:AeE c0 xs K) :
    Fun P (ρ.f 6) #[.slice a xs.length cap,.func (.func g) #[] #[]] I [OwnSl (KO k enc hk) T a cap xs] λ_ v l=>∃ ys,v=.tuple #[]∧ys.length=xs.length∧l=[OwnSl (KO k enc hk) T a cap ys]∧K ys:=by
  have⟨W,d6,hO,f2,hK⟩:=hd;intro w a3 hI hs hh a5;have s0:=Fun.start hI hs hh a5;have⟨g1,g2,f8,e7,e8,ha,f0⟩:=hs;rcases ha with⟨rfl,rfl,rfl⟩ | ⟨b,c,rfl,hb,c1,a4,f9⟩
  . refine(AnyF.slices_SortFunc_none L none 0 (.func (.func g) #[] #[]) w).mono λe w' V=>?_;obtain⟨rfl,rfl⟩:=V;exact⟨_,I,_,rfl,IH.le.refl _,⟨[],rfl,rfl,rfl,hK [] (.refl _) .nil⟩,s0⟩
  . have b1:Sym w (λb=>a3 b≠none) I I [pto b (.cells c T (0,0))] w:=by have⟨hB,hi,hn,q,_,hq,_,_⟩:=s0;exact⟨hB,hi,hn,a3,⟨g1,g2,f8,e7,e8,hb,f0⟩,hh,a5,λb hb=>.inl hb⟩
    have hw:=b1.pto;have f5:b<w.heap.size:=(Array.getElem?_eq_some_iff.1 hw).1;have g0:∀ j,w.cell? ⟨b,j,none⟩=c[j]?:=λj=>by rw[MB hw]
    have f7:c.size=cap*k:=a4
    have hH:HoldsK enc k w b 0 xs.toArray:=by
      intro j h;rw[size_flatK] at h;simp only[Ap3] at h
      have e6 : 0 < k := by
        rcases aL k with e | e
        . subst e; simp at h
        . exact e
      have a7:j / k<xs.length:=Nat.div_lt_of_lt_mul (by rw[AdW]; exact h);have e5:j % k<k:=Ae1 _ e6;have hx:xs[j / k]? = some xs[j / k]:=yQ a7;have⟨cs,O,U⟩:=f9 _ _ hx;have d1:cs=enc xs[j / k]:=O;subst d1;have c2:j % k<(enc xs[j / k]).length:=by rw[(hk _).1]; exact e5
      have J:=U (j % k) _ (yQ c2);have d7:j / k*k+j % k=j:=by rw[AdW]; exact ApA j k
      have d2:c[j]? = some (enc xs[j / k])[j % k]:=by
        have h3:c[j / k*k+j % k]? = some (enc xs[j / k])[j % k]:=J
        rwa [d7] at h3
      refine⟨?_,by simp[World.frozen?,hw]⟩;rw[nU,g0,d2,get_flatK _ _ _ _ (by simpa using h)];simp[a7,c2]
    have f6:CmpLays P g #[] enc k W b 0 xs.toArray.size w:=by intro m os dk g5 x y;have:=hc x y (λ_=>none) (λr=>r=W x y) (d6 x y _ rfl) (sortWorldK enc k w b 0 m dk os) (λ_=>none) (λ_ _ e=>nomatch e) trivial (λ_ _ e=>nomatch e) (λ_=>.inl rfl);refine Calls.mono (by simpa using this) λe w' V=>?_;obtain⟨v,_,_,rfl,_,⟨_,r,rfl,rfl⟩,hs'⟩:=V;exact⟨rfl,AmK ⟨hs'.base.os,hs'.base.tape,hs'.base.output,hs'.base.drawn,hs'.base.size,λb Z J=>hs'.base.block b Z (by simp)⟩⟩
    refine(AnyQ.slices_SortFunc L k aE zE enc (λx=>(hk x).1) (λx v hv=>X0 (hk x).2 v hv) W hO g #[] b 0 cap xs.toArray w eg f6 hH f5 (by simpa using f2)).mono λe w' V=>?_;obtain⟨rfl,d,n,os,hp,f1,rfl⟩:=V;have⟨e9,_,b0⟩:=hp;have a2:d.size=xs.length:=by simpa using e9
    have g3:d.toList.Perm xs:=by
      have O:d.extract 0 xs.toArray.size=d:=by rw[Av8]; simp[a2]
      have U:xs.toArray.extract 0 xs.toArray.size=xs.toArray:=by rw[Av8]; simp
      rw[O,U] at b0; simpa using b0
    have g4:d.toList.Pairwise (λx y=>0<=W y x):=by rw[AmA];intro i j hi h d9;have:=f1 i j (sU _) d9 (by simp at h; simp; omega);simp only[Ah2] at hi h;unfold ltOf at this;simp only[hi,h,getElem!_pos,decide_eq_false_iff_not] at this;simp only[Array.getElem_toList];omega
    refine⟨_,I,_,rfl,IH.le.refl _,⟨d.toList,rfl,by simpa using a2,rfl,hK _ g3 g4⟩,?_⟩
    -- memory behind the sort
    have g6:(flatK enc k d).size=xs.length*k:=by rw[size_flatK,a2]
    have g7:xs.length*k<=cap*k:=W9 _ c1
    obtain⟨D,d3,d4,d5⟩:∃ D:Array Value,(putRowK enc k w b 0 d).heap[b]? = some (.cells D T (0,0))∧D.size=c.size∧∀ j,j<(flatK enc k d).size->D[j]? = some (flatK enc k d)[j]!:=by
      refine⟨putCells id 0 (flatK enc k d) c,?_,by simp[putCells],λj h=>?_⟩
      . simp[putRowK,putRow,mapBlock,Ap0,hw,onCells]
      . have e4:j<c.size:=by rw[f7]; omega
        simp[putCells,e4];intro a3;rw[size_flatK] at h;omega
    have f3:=b1.upd (o':=.cells D T (0,0)) (w':=putRowK enc k w b 0 d) rfl rfl rfl rfl (by simp[putRowK,putRow,mapBlock])
      (λq hq=>by simp[putRowK,putRow,mapBlock,Ap0,Ne.symm hq]) d3
    have d8:=f3.grown (w':=grow ((putRowK enc k w b 0 d).drewN n) os) AmL;refine Sym.weaken (A:=pto b (.cells D T (0,0))) d8 λq hq=>.inr ⟨b,D,rfl,hq,by simp[a2]; exact c1,by rw[d4]; exact a4,λi x hx=>⟨enc x,rfl,λj v h=>?_⟩⟩;have a6:i<d.size:=by have:=(List.getElem?_eq_some_iff.1 hx).1; simpa using this
    have f4:d[i]! = x:=by rw[getElem!_pos d i a6]; have:=List.getElem?_eq_some_iff.1 hx; have⟨Z,J⟩:=this; simpa using J
    have a8:j<k:=by have:=(List.getElem?_eq_some_iff.1 h).1; rwa [(hk x).1] at this
    have a9:i*k+j<(flatK enc k d).size:=by rw[size_flatK];have:(i+1)*k<=d.size*k:=W9 _ a6;rw[WB,xB] at this; omega
    show D[i*k+j]? = some v;rw[d5 _ a9,get_flatK _ _ _ _ (by rwa [size_flatK] at a9)];have O:(i*k+j) / k=i:=by rw[AdW,AjO (by omega),AoT a8]; rfl
    have U:(i*k+j) % k=j:=by rw[AdW,Nat.mul_add_mod,Ap6 a8]
    rw[O,U,f4];have e3:=List.getElem?_eq_some_iff.1 h;have⟨Z,J⟩:=e3;rw[getElem!_pos (enc x) j Z,J]
end
end Go.Fw
namespace Go.Proofs.YtieniichmjgmcaaGreat
open Go Go.Fw
abbrev B0:EC Int:=KO 1 (λx=>[.int .i64 x]) (λ_=>⟨rfl,rfl⟩)
abbrev EH:EC Int:=KO 1 (λx=>[.int .u64 x]) (λ_=>⟨rfl,rfl⟩)
abbrev eU8:EC Int:=KO 1 (λx=>[.int .u8 x]) (λ_=>⟨rfl,rfl⟩)
abbrev eB:EC Bool:=KO 1 (λx=>[.bool x]) (λ_=>⟨rfl,rfl⟩)
structure B2 where
 From:Int
 To:Int
 W:Int
deriving DecidableEq,Inhabited
def J7 (x:B2):List Value:=[.int .i64 x.From,.int .i64 x.To,.int .i64 x.W]
abbrev CA:EC B2:=KO 3 J7 (λ_=>⟨rfl,rfl⟩)
structure Graph where
 N:Int
 Edges:List B2
deriving DecidableEq,Inhabited
def Aw1:EC Graph where
 sz:=2
 rep I cs x:=∃ a1 c1,cs=[.int .i64 x.N,.slice a1 x.Edges.length c1]∧RepSl CA I a1 c1 x.Edges
 mono hle:=λ⟨a1,c1,e,h0⟩=>⟨a1,c1,e,h0.mono hle⟩
 len:=λ⟨a1,c1,e,_⟩=>by rw[e]; rfl
 one:=λ⟨a1,c1,e,_⟩=>by rw[e]; rfl
structure MN where
 G:Graph
 V:Int
 R:Int
 C:Int
deriving DecidableEq,Inhabited
def AeG:EC MN where
 sz:=5
 rep I cs x:=∃ a1 c1,cs=[.int .i64 x.G.N,.slice a1 x.G.Edges.length c1,.int .i64 x.V,.int .u8 x.R,.int .u8 x.C]∧RepSl CA I a1 c1 x.G.Edges
 mono hle:=λ⟨a1,c1,e,h0⟩=>⟨a1,c1,e,h0.mono hle⟩
 len:=λ⟨a1,c1,e,_⟩=>by rw[e]; rfl
 one:=λ⟨a1,c1,e,_⟩=>by rw[e]; rfl
structure Plan where
 Kind:Int
 N:Int
 Source:Int
 Length:Int
 Draws:List Int
deriving DecidableEq,Inhabited
structure HR where
 Way:Int
 Form:Int
deriving DecidableEq,Inhabited
def zH (x:HR):List Value:=[.int .i64 x.Way,.int .i64 x.Form]
abbrev dI:EC HR:=KO 2 zH (λ_=>⟨rfl,rfl⟩)
structure JS where
 Plan:Plan
 Graph:Graph
 R:Int
 C:Int
 Room:Int
 Limit:Int
 Choices:List HR
deriving DecidableEq,Inhabited
abbrev aTa:Type:=(Option Addr×Nat)×(Option Addr×Nat)×(Option Addr×Nat)
def lTa (I:IH) (x:aTa) (o:JS):Prop:=RepSl B0 I x.1.1 x.1.2 o.Plan.Draws∧RepSl CA I x.2.1.1 x.2.1.2 o.Graph.Edges∧RepSl dI I x.2.2.1 x.2.2.2 o.Choices
theorem mTa {I J:IH} {x:aTa} {o:JS} (h:IH.le I J) (k:lTa I x o):lTa J x o:=⟨k.1.mono h,k.2.1.mono h,k.2.2.mono h⟩
structure AP where
 Hi:Int
 Lo:Int
deriving DecidableEq,Inhabited
abbrev GI:AP:={ Hi:=0,Lo:=0 }
def E9 (x:AP):List Value:=[.int .i64 x.Hi,.int .u64 x.Lo]
abbrev kR:EC AP:=KO 2 E9 (λ_=>⟨rfl,rfl⟩)
structure Rows where
 Rows:Int
 Cols:Int
 Start:List Int
 Col:List Int
 Val:List Int
deriving DecidableEq,Inhabited
abbrev RZ:Rows:={ Rows:=0,Cols:=0,Start:=([]:List Int),Col:=([]:List Int),Val:=([]:List Int) }
abbrev aTb:Type:=(Option Addr×Nat)×(Option Addr×Nat)×(Option Addr×Nat)
def nN (I:IH) (x:aTb) (o:Rows):Prop:=RepSl B0 I x.1.1 x.1.2 o.Start∧RepSl B0 I x.2.1.1 x.2.1.2 o.Col∧RepSl B0 I x.2.2.1 x.2.2.2 o.Val
theorem mTb {I J:IH} {x:aTb} {o:Rows} (h:IH.le I J) (k:nN I x o):nN J x o:=⟨k.1.mono h,k.2.1.mono h,k.2.2.mono h⟩
structure A2 where
 Row:Int
 Col:Int
 Val:Int
deriving DecidableEq,Inhabited
def oE (x:A2):List Value:=[.int .i64 x.Row,.int .i64 x.Col,.int .i64 x.Val]
abbrev J8:EC A2:=KO 3 oE (λ_=>⟨rfl,rfl⟩)
structure xE where
 Kind:Int
 A:Int
 B:Int
 K:Int
deriving DecidableEq,Inhabited
def Ab6 (x:xE):List Value:=[.int .i64 x.Kind,.int .i64 x.A,.int .i64 x.B,.int .i64 x.K]
abbrev AeH:EC xE:=KO 4 Ab6 (λ_=>⟨rfl,rfl⟩)
structure B9 where
 At:Int
 Val:Int
deriving DecidableEq,Inhabited
def V9 (x:B9):List Value:=[.int .i64 x.At,.int .i64 x.Val]
abbrev CB:EC B9:=KO 2 V9 (λ_=>⟨rfl,rfl⟩)
structure BF where
 Rows:Int
 Cols:Int
 At:List Int
 Start:List Int
 Row:List Int
 Val:List Int
deriving DecidableEq,Inhabited
abbrev aTd:Type:=(Option Addr×Nat)×(Option Addr×Nat)×(Option Addr×Nat)×(Option Addr×Nat)
def wU (I:IH) (x:aTd) (o:BF):Prop:=RepSl B0 I x.1.1 x.1.2 o.At∧RepSl B0 I x.2.1.1 x.2.1.2 o.Start∧RepSl B0 I x.2.2.1.1 x.2.2.1.2 o.Row∧RepSl B0 I x.2.2.2.1 x.2.2.2.2 o.Val
theorem mTd {I J:IH} {x:aTd} {o:BF} (h:IH.le I J) (k:wU I x o):wU J x o:=⟨k.1.mono h,k.2.1.mono h,k.2.2.1.mono h,k.2.2.2.mono h⟩
structure State where
 Low:Int
 High:Int
 A:List Int
 B:List Int
 On:List Int
deriving DecidableEq,Inhabited
abbrev FY:State:={ Low:=0,High:=0,A:=([]:List Int),B:=([]:List Int),On:=([]:List Int) }
abbrev aTg:Type:=(Option Addr×Nat)×(Option Addr×Nat)×(Option Addr×Nat)
def iA (I:IH) (x:aTg) (o:State):Prop:=RepSl B0 I x.1.1 x.1.2 o.A∧RepSl B0 I x.2.1.1 x.2.1.2 o.B∧RepSl EH I x.2.2.1 x.2.2.2 o.On
theorem mTg {I J:IH} {x:aTg} {o:State} (h:IH.le I J) (k:iA I x o):iA J x o:=⟨k.1.mono h,k.2.1.mono h,k.2.2.mono h⟩
def S0:EC State where
 sz:=5
 rep I cs x:=∃ a:aTg,cs=[.int .i64 x.Low,.int .i64 x.High,.slice a.1.1 x.A.length a.1.2,.slice a.2.1.1 x.B.length a.2.1.2,.slice a.2.2.1 x.On.length a.2.2.2]∧iA I a x
 mono hle:=λ⟨a,e,h⟩=>⟨a,e,mTg hle h⟩
 len:=λ⟨a,e,_⟩=>by rw[e]; rfl
 one:=λ⟨a,e,_⟩=>by rw[e]; rfl
structure BM where
 At:Int
 Val:AP
deriving DecidableEq,Inhabited
def AhN (x:BM):List Value:=[.int .i64 x.At,.int .i64 x.Val.Hi,.int .u64 x.Val.Lo]
abbrev ET:EC BM:=KO 3 AhN (λ_=>⟨rfl,rfl⟩)
structure Vec where
 N:Int
 Items:List B9
deriving DecidableEq,Inhabited
abbrev CJ:Vec:={ N:=0,Items:=([]:List B9) }
def fA:EC Vec where
 sz:=2
 rep I cs x:=∃ a1 c1,cs=[.int .i64 x.N,.slice a1 x.Items.length c1]∧RepSl CB I a1 c1 x.Items
 mono hle:=λ⟨a1,c1,e,h0⟩=>⟨a1,c1,e,h0.mono hle⟩
 len:=λ⟨a1,c1,e,_⟩=>by rw[e]; rfl
 one:=λ⟨a1,c1,e,_⟩=>by rw[e]; rfl
structure AO where
 Kind:Int
 From:Int
 To:Int
 Seq:Int
 Round:Int
 Vec:Vec
 Sums:List BM
 Triples:List A2
 N:Int
 Over:Bool
deriving DecidableEq,Inhabited
abbrev aTh:Type:=(Option Addr×Nat)×(Option Addr×Nat)×(Option Addr×Nat)
def rU (I:IH) (x:aTh) (o:AO):Prop:=RepSl CB I x.1.1 x.1.2 o.Vec.Items∧RepSl ET I x.2.1.1 x.2.1.2 o.Sums∧RepSl J8 I x.2.2.1 x.2.2.2 o.Triples
theorem mTh {I J:IH} {x:aTh} {o:AO} (h:IH.le I J) (k:rU I x o):rU J x o:=⟨k.1.mono h,k.2.1.mono h,k.2.2.mono h⟩
def G5:EC AO where
 sz:=11
 rep I cs x:=∃ a:aTh,cs=[.int .i64 x.Kind,.int .i64 x.From,.int .i64 x.To,.int .i64 x.Seq,.int .i64 x.Round,.int .i64 x.Vec.N,.slice a.1.1 x.Vec.Items.length a.1.2,.slice a.2.1.1 x.Sums.length a.2.1.2,.slice a.2.2.1 x.Triples.length a.2.2.2,.int .i64 x.N,.bool x.Over]∧rU I a x
 mono hle:=λ⟨a,e,h⟩=>⟨a,e,mTh hle h⟩
 len:=λ⟨a,e,_⟩=>by rw[e]; rfl
 one:=λ⟨a,e,_⟩=>by rw[e]; rfl
structure Dense where
 N:Int
 Has:List Int
 Vals:List Int
deriving DecidableEq,Inhabited
abbrev aTi:Type:=(Option Addr×Nat)×(Option Addr×Nat)
def lTi (I:IH) (x:aTi) (o:Dense):Prop:=RepSl EH I x.1.1 x.1.2 o.Has∧RepSl B0 I x.2.1 x.2.2 o.Vals
theorem mTi {I J:IH} {x:aTi} {o:Dense} (h:IH.le I J) (k:lTi I x o):lTi J x o:=⟨k.1.mono h,k.2.mono h⟩
structure iB where
 Form:Int
 Vec:Vec
 Dense:Dense
deriving DecidableEq,Inhabited
abbrev aTj:Type:=(Option Addr×Nat)×aTi
def lTj (I:IH) (x:aTj) (o:iB):Prop:=RepSl CB I x.1.1 x.1.2 o.Vec.Items∧lTi I x.2 o.Dense
theorem mTj {I J:IH} {x:aTj} {o:iB} (h:IH.le I J) (k:lTj I x o):lTj J x o:=⟨k.1.mono h,mTi h k.2⟩
structure GP where
 Ring:Int
 Rows:Rows
 Cols:BF
 X:iB
 Set:List Int
 Others:Bool
 Way:Int
deriving DecidableEq,Inhabited
abbrev aTk:Type:=aTb×aTd×aTj×(Option Addr×Nat)
def lTk (I:IH) (x:aTk) (o:GP):Prop:=nN I x.1 o.Rows∧wU I x.2.1 o.Cols∧lTj I x.2.2.1 o.X∧RepSl EH I x.2.2.2.1 x.2.2.2.2 o.Set
theorem mTk {I J:IH} {x:aTk} {o:GP} (h:IH.le I J) (k:lTk I x o):lTk J x o:=⟨mTb h k.1,mTd h k.2.1,mTj h k.2.2.1,k.2.2.2.mono h⟩
structure AX where
 l:List BM
 which:Int
deriving DecidableEq,Inhabited
def EL:EC AX where
 sz:=2
 rep I cs x:=∃ a0 c0,cs=[.slice a0 x.l.length c0,.int .i64 x.which]∧RepSl ET I a0 c0 x.l
 mono hle:=λ⟨a0,c0,e,h0⟩=>⟨a0,c0,e,h0.mono hle⟩
 len:=λ⟨a0,c0,e,_⟩=>by rw[e]; rfl
 one:=λ⟨a0,c0,e,_⟩=>by rw[e]; rfl
structure AJ where
 heads:List AX
 r:Int
 out:List BM
deriving DecidableEq,Inhabited
abbrev aTl:Type:=(Option Addr×Nat)×(Option Addr×Nat)
def lTl (I:IH) (x:aTl) (o:AJ):Prop:=RepSl EL I x.1.1 x.1.2 o.heads∧RepSl ET I x.2.1 x.2.2 o.out
theorem mTl {I J:IH} {x:aTl} {o:AJ} (h:IH.le I J) (k:lTl I x o):lTl J x o:=⟨k.1.mono h,k.2.mono h⟩
structure Result where
 Status:Int
 Rounds:Int
 State:State
deriving DecidableEq,Inhabited
structure YA where
 Result:Result
 Sent:Int
 Windows:Int
deriving DecidableEq,Inhabited
structure BB where
 i:Int
 j:Int
deriving DecidableEq,Inhabited
def G6 (x:BB):List Value:=[.int .i64 x.i,.int .i64 x.j]
structure A1 where
 place:BB
 plan:Plan
 grid:BB
 limit:Int
 choices:List HR
 rows:Rows
 cols:BF
 out:List AO
 share:Int
 shares:List (Int×Vec)
 spread:Int
 round:Int
 status:Int
 has:State
 aside:State
 waits:Bool
 begun:Bool
 sums:List BM
 came:List (Int×Bool)
 vote:Int
 votes:List (Int×AO)
 closed:Bool
deriving DecidableEq,Inhabited
abbrev A3:=List (Nat×A1)
structure BR where
 room:Int
 row:List Int
 by_:List (Int×AO)
 often:List (Int×Int)
 sent:Int
 taken:Int
deriving DecidableEq,Inhabited
abbrev AV:=List (Nat×BR)
structure AL where
 setup:JS
 workers:List (Option Nat)
 boxes:List ((Int×Int)×(Option Nat))
 owners:List (Option Nat)
 history:List State
deriving DecidableEq,Inhabited
abbrev aTc:Type:=(Option Addr×Nat)×(Option Addr×Nat)
def lTc (I:IH) (x:aTc) (o:Rows):Prop:=RepSl B0 I x.1.1 x.1.2 o.Col∧RepSl B0 I x.2.1 x.2.2 o.Val
theorem mTc {I J:IH} {x:aTc} {o:Rows} (h:IH.le I J) (k:lTc I x o):lTc J x o:=⟨k.1.mono h,k.2.mono h⟩
abbrev aTe:Type:=(Option Addr×Nat)×(Option Addr×Nat)×(Option Addr×Nat)
def lTe (I:IH) (x:aTe) (o:BF):Prop:=RepSl B0 I x.1.1 x.1.2 o.Start∧RepSl B0 I x.2.1.1 x.2.1.2 o.Row∧RepSl B0 I x.2.2.1 x.2.2.2 o.Val
theorem mTe {I J:IH} {x:aTe} {o:BF} (h:IH.le I J) (k:lTe I x o):lTe J x o:=⟨k.1.mono h,k.2.1.mono h,k.2.2.mono h⟩
abbrev aTf:Type:=(Option Addr×Nat)×(Option Addr×Nat)
def lTf (I:IH) (x:aTf) (o:BF):Prop:=RepSl B0 I x.1.1 x.1.2 o.Row∧RepSl B0 I x.2.1 x.2.2 o.Val
theorem mTf {I J:IH} {x:aTf} {o:BF} (h:IH.le I J) (k:lTf I x o):lTf J x o:=⟨k.1.mono h,k.2.mono h⟩
abbrev aTm:Type:=aTa×(Option Addr×Nat)×(Option Addr×Nat)×(Option Addr×Nat)
def lTm (I:IH) (x:aTm) (o:AL):Prop:=lTa I x.1 o.setup∧RepSl P6 I x.2.1.1 x.2.1.2 o.workers∧RepSl P6 I x.2.2.1.1 x.2.2.1.2 o.owners∧RepSl S0 I x.2.2.2.1 x.2.2.2.2 o.history
theorem mTm {I J:IH} {x:aTm} {o:AL} (h:IH.le I J) (k:lTm I x o):lTm J x o:=⟨mTa h k.1,k.2.1.mono h,k.2.2.1.mono h,k.2.2.2.mono h⟩
abbrev aTn:Type:=(Option Addr×Nat)×(Option Addr×Nat)×aTb×aTd×aTg×aTg
def WE (I:IH) (x:aTn) (o:A1):Prop:=RepSl B0 I x.1.1 x.1.2 o.plan.Draws∧RepSl dI I x.2.1.1 x.2.1.2 o.choices∧nN I x.2.2.1 o.rows∧wU I x.2.2.2.1 o.cols∧iA I x.2.2.2.2.1 o.has∧iA I x.2.2.2.2.2 o.aside
theorem mTn {I J:IH} {x:aTn} {o:A1} (h:IH.le I J) (k:WE I x o):WE J x o:=⟨k.1.mono h,k.2.1.mono h,mTb h k.2.2.1,mTd h k.2.2.2.1,mTg h k.2.2.2.2.1,mTg h k.2.2.2.2.2⟩
abbrev aTo:Type:=(Option Addr×Nat)×(Option Addr×Nat)×aTb×aTd
def lTo (I:IH) (x:aTo) (o:A1):Prop:=RepSl B0 I x.1.1 x.1.2 o.plan.Draws∧RepSl dI I x.2.1.1 x.2.1.2 o.choices∧nN I x.2.2.1 o.rows∧wU I x.2.2.2 o.cols
theorem mTo {I J:IH} {x:aTo} {o:A1} (h:IH.le I J) (k:lTo I x o):lTo J x o:=⟨k.1.mono h,k.2.1.mono h,mTb h k.2.2.1,mTd h k.2.2.2⟩
abbrev aTp:Type:=aTa×(Option Addr×Nat)
def lTp (I:IH) (x:aTp) (o:AL):Prop:=lTa I x.1 o.setup∧RepSl S0 I x.2.1 x.2.2 o.history
theorem mTp {I J:IH} {x:aTp} {o:AL} (h:IH.le I J) (k:lTp I x o):lTp J x o:=⟨mTa h k.1,k.2.mono h⟩
abbrev aTq:Type:=aTa×(Option Addr×Nat)×(Option Addr×Nat)
def nO (I:IH) (x:aTq) (o:AL):Prop:=lTa I x.1 o.setup∧RepSl P6 I x.2.1.1 x.2.1.2 o.workers∧RepSl P6 I x.2.2.1 x.2.2.2 o.owners
theorem mTq {I J:IH} {x:aTq} {o:AL} (h:IH.le I J) (k:nO I x o):nO J x o:=⟨mTa h k.1,k.2.1.mono h,k.2.2.mono h⟩
def A8:BoxTy A1 where
 A:=aTn×Option Addr×Nat×Nat×Option Addr×Nat×Nat×Nat
 fact I a x:=WE I (a.1) (x)
 mono:=λh h0=>mTn h h0
 obj a x:=.cells #[.int .i64 x.place.i,.int .i64 x.place.j,.int .i64 x.plan.Kind,.int .i64 x.plan.N,.int .i64 x.plan.Source,.int .i64 x.plan.Length,.slice (a.1.1.1) x.plan.Draws.length (a.1.1.2),.int .i64 x.grid.i,.int .i64 x.grid.j,.int .i64 x.limit,.slice (a.1.2.1.1) x.choices.length (a.1.2.1.2),.int .i64 x.rows.Rows,.int .i64 x.rows.Cols,.slice (a.1.2.2.1.1.1) x.rows.Start.length (a.1.2.2.1.1.2),.slice (a.1.2.2.1.2.1.1) x.rows.Col.length (a.1.2.2.1.2.1.2),.slice (a.1.2.2.1.2.2.1) x.rows.Val.length (a.1.2.2.1.2.2.2),.int .i64 x.cols.Rows,.int .i64 x.cols.Cols,.slice (a.1.2.2.2.1.1.1) x.cols.At.length (a.1.2.2.2.1.1.2),.slice (a.1.2.2.2.1.2.1.1) x.cols.Start.length (a.1.2.2.2.1.2.1.2),.slice (a.1.2.2.2.1.2.2.1.1) x.cols.Row.length (a.1.2.2.2.1.2.2.1.2),.slice (a.1.2.2.2.1.2.2.2.1) x.cols.Val.length (a.1.2.2.2.1.2.2.2.2),.slice (a.2.1) x.out.length (a.2.2.1),.int .i64 x.share,.map (some (a.2.2.2.1)),.int .i64 x.spread,.int .i64 x.round,.int .i64 x.status,.int .i64 x.has.Low,.int .i64 x.has.High,.slice (a.1.2.2.2.2.1.1.1) x.has.A.length (a.1.2.2.2.2.1.1.2),.slice (a.1.2.2.2.2.1.2.1.1) x.has.B.length (a.1.2.2.2.2.1.2.1.2),.slice (a.1.2.2.2.2.1.2.2.1) x.has.On.length (a.1.2.2.2.2.1.2.2.2),.int .i64 x.aside.Low,.int .i64 x.aside.High,.slice (a.1.2.2.2.2.2.1.1) x.aside.A.length (a.1.2.2.2.2.2.1.2),.slice (a.1.2.2.2.2.2.2.1.1) x.aside.B.length (a.1.2.2.2.2.2.2.1.2),.slice (a.1.2.2.2.2.2.2.2.1) x.aside.On.length (a.1.2.2.2.2.2.2.2.2),.bool x.waits,.bool x.begun,.slice (a.2.2.2.2.1) x.sums.length (a.2.2.2.2.2.1),.map (some (a.2.2.2.2.2.2.1)),.int .i64 x.vote,.map (some (a.2.2.2.2.2.2.2)),.bool x.closed] 196 (0,0)
 more a x:=[QSl G5 238 (a.2.1) (a.2.2.1) x.out,OwnMap (Value.int .i64) fA true (a.2.2.2.1) x.shares,OwnSl ET 314 (a.2.2.2.2.1) (a.2.2.2.2.2.1) x.sums,OwnMap (Value.int .i64) eB false (a.2.2.2.2.2.2.1) x.came,OwnMap (Value.int .i64) G5 true (a.2.2.2.2.2.2.2) x.votes]
def BV:BoxTy BR where
 A:=Option Addr×Nat×Nat×Nat
 fact I a x:=True
 mono:=λ_ _=>trivial
 obj a x:=.cells #[.int .i64 x.room,.slice (a.1) x.row.length (a.2.1),.map (some (a.2.2.1)),.map (some (a.2.2.2)),.int .i64 x.sent,.int .i64 x.taken] 200 (0,0)
 more a x:=[OwnSl B0 3 (a.1) (a.2.1) x.row,OwnMap (Value.int .i64) G5 true (a.2.2.1) x.by_,OwnMap (Value.int .i64) B0 false (a.2.2.2) x.often]
def HG (a0:Int) (a1:Int) (Q:Int->Prop):Prop:=
 A4 (decide (a1<1)) (Q 0) (A4 (decide (a0<0)) (Q 0) (nzP a1 <| Q (a0.tmod a1)))
def VA (a0:Graph) (Q:Graph->Prop):Prop:=
 HG a0.N 24 λh=>AY (λ(s:(List B2)×Int) next131=>match s with | (s125,s129)=>A4 (decide (s129<(a0.Edges.length:Int))) (A4 (decide (s129<60)) (A4 (decide (0<h)) (AU a0.Edges s129 λd=>HG d.From h λJ=>HG d.To h λD=>DA 24 s125 ([({ From:=J,To:=D,W:=Y4 .i64 d.W 2147483647 }:B2)]) λ_=>next131 ((s125++([({ From:=J,To:=D,W:=Y4 .i64 d.W 2147483647 }:B2)])),A5 (s129+1))) (Q ({ N:=h,Edges:=s125 }:Graph))) (Q ({ N:=h,Edges:=s125 }:Graph))) (Q ({ N:=h,Edges:=s125 }:Graph))) (([]:List B2),0)
def MF (a0:MN) (Q:(Graph×Int×Int×Int)->Prop):Prop:=
 VA a0.G λd=>DE (λ(D:(Int×(List B2))->Prop)=>A4 (d.N==0) (D (1,([]:List B2))) (D (d.N,d.Edges))) λ(h,s42)=>HG a0.V h λJ=>Q (({ N:=h,Edges:=s42 }:Graph),J,A5 (((A5 (a0.R)).tmod 4)+1),A5 (((A5 (a0.C)).tmod 4)+1))
def iC (a0:Graph) (a1:Int) (D:Int) (J:Int) (Q:JS->Prop):Prop:=
 DE (λ(d:Int->Prop)=>A4 (decide (0<=a0.N)) (d (A5 ((if 8191<a0.N then 8191 else a0.N)+1))) (d 0)) λh=>Q ({ Plan:=({ Kind:=1,N:=a0.N,Source:=a1,Length:=0,Draws:=([]:List Int) }:Plan),Graph:=a0,R:=D,C:=J,Room:=4,Limit:=h,Choices:=([]:List HR) }:JS)
def B8 (a0:List Int) (Q:(List Int)->Prop):Prop:=
 AhI a0 (Q ([]:List Int)) (DA 8 ([]:List Int) a0 λ_=>Q (([]:List Int)++a0))
def aV (a0:Graph) (a1:List Int) (D:Int) (J:Int) (Q:JS->Prop):Prop:=
 iC a0 0 D J λd=>B8 a1 λh=>Q ({ d with Plan:=({ Kind:=5,N:=d.Plan.N,Source:=d.Plan.Source,Length:=d.Plan.Length,Draws:=h }:Plan),Limit:=A5 (2*(if 4096<(if 0 > a0.N then 0 else a0.N) then 4096 else (if 0 > a0.N then 0 else a0.N))) }:JS)
def IU (a0:Int) (a1:Int) (Q:Bool->Prop):Prop:=
 A4 (decide (0<=a0)) (Q (decide (a0<=a1))) (Q false)
def I8 (a0:Int) (a1:Int) (Q:Bool->Prop):Prop:=
 A4 (decide (1<=a0)) (Q (decide (a0<=a1))) (Q false)
def KF (o0:Graph) (a0:Int) (Q:Bool->Prop):Prop:=
 A4 (decide (a0<0)) (Q true) (Q (decide (o0.N<=a0)))
def NQ (o1:Graph) (a0:B2) (Q:Bool->Prop):Prop:=
 KF o1 a0.From λd=>A4 d (Q true) (KF o1 a0.To λh=>Q h)
def DP (o1:Graph) (a0:List B2) (Q:Int->Prop):Prop:=
 AY (λ(d:Int) next53=>A4 (decide (d<(a0.length:Int))) (AU a0 d λh=>NQ o1 h λD=>A4 D (Q d) (next53 (A5 (d+1)))) (Q (-1))) 0
def D6 (o1:Graph) (a0:List B2) (Q:Bool->Prop):Prop:=
 DP o1 a0 λd=>Q (decide (0<=d))
def NR (a0:B2) (Q:Bool->Prop):Prop:=
 A4 (decide (a0.W<0)) (Q true) (Q (decide (2147483647<a0.W)))
def DQ (a0:List B2) (Q:Int->Prop):Prop:=
 AY (λ(d:Int) next46=>A4 (decide (d<(a0.length:Int))) (AU a0 d λD=>NR D λh=>A4 h (Q d) (next46 (A5 (d+1)))) (Q (-1))) 0
def CG (a0:List B2) (Q:Bool->Prop):Prop:=
 DQ a0 λd=>Q (decide (0<=d))
def N1 (a0:Graph) (Q:Int->Prop):Prop:=
 A4 (decide (a0.N<0)) (Q 3) (DE (λ(d:Bool->Prop)=>A4 (decide (4096<a0.N)) (d (decide (4096<a0.N))) (d (decide (65536<(a0.Edges.length:Int))))) λh=>A4 h (Q 5) (D6 a0 a0.Edges λD=>A4 D (Q 3) (CG a0.Edges λJ=>A4 J (Q 7) (Q 0))))
def SJ (a0:Int) (Q:Bool->Prop):Prop:=
 A4 (decide (0<a0)) (Q (decide (a0<6))) (Q false)
def NS (a0:Int) (Q:AP->Prop):Prop:=
 Q ({ Hi:=shr .i64 a0 63,Lo:=IntKind.wrap .u64 (a0) }:AP)
def J9 (a0:List Int) (Q:Int->Prop):Prop:=
 AY (λ(d:Int) next32=>A4 (decide (d<(a0.length:Int))) (AU a0 d λh=>A4 (h != 0) (Q h) (next32 (A5 (d+1)))) (Q 0)) 0
def MG (a0:Int) (Q:Bool->Prop):Prop:=
 Q (a0 != a0)
def HH (a0:Int) (a1:Int) (Q:Int->Prop):Prop:=
 MG a0 λh=>MG a1 λd=>A4 h (A4 d (Q 0) (Q (-1))) (A4 d (Q 1) (A4 (decide (a0<a1)) (Q (-1)) (A4 (decide (a1<a0)) (Q 1) (Q 0))))
def LG (a0:Int) (Q:Bool->Prop):Prop:=
 Q (a0 != a0)
def JA (a0:Int) (a1:Int) (Q:Int->Prop):Prop:=
 LG a0 λh=>LG a1 λd=>A4 h (A4 d (Q 0) (Q (-1))) (A4 d (Q 1) (A4 (decide (a0<a1)) (Q (-1)) (A4 (decide (a1<a0)) (Q 1) (Q 0))))
def SK (a0:AP) (a1:AP) (Q:Int->Prop):Prop:=
 HH a0.Hi a1.Hi λD=>JA a0.Lo a1.Lo λh=>J9 ([D,h]:List Int) λd=>Q d
def R8 (a0:AP) (a1:AP) (Q:AP->Prop):Prop:=
 SK a0 a1 λd=>A4 (decide (d<=0)) (Q a0) (Q a1)
def MO (a0:Bool) (Q:AP->Prop):Prop:=
 A4 a0 (NS 1 λd=>Q d) (Q GI)
def TH (a0:Bool) (Q:Int->Prop):Prop:=
 A4 a0 (Q 1) (Q 0)
def aW (a0:AP) (a1:AP) (Q:AP->Prop):Prop:=
 TH (decide ((IntKind.wrap .u64 (a0.Lo+a1.Lo))<a1.Lo)) λd=>Q ({ Hi:=A5 (IntKind.wrap .u64 ((IntKind.wrap .u64 ((IntKind.wrap .u64 (a0.Hi))+(IntKind.wrap .u64 (a1.Hi))))+d)),Lo:=IntKind.wrap .u64 (a0.Lo+a1.Lo) }:AP)
def TI (a0:Int) (a1:AP) (D:AP) (Q:AP->Prop):Prop:=
 DE (λ(d:Bool->Prop)=>A4 (a0==1) (d (a0==1)) (A4 (a0==3) (d (a0==3)) (d (a0==4)))) λh=>A4 h (R8 a1 D λJ=>Q J) (A4 (a0==2) (A4 (!(a1==D)) (MO true λU=>Q U) (MO (!(a1==GI)) λV=>Q V)) (A4 (a0==5) (aW a1 D λO=>Q O) (Q GI)))
def aX (a0:AP) (Q:(Int×Bool)->Prop):Prop:=
 NS (A5 (a0.Lo)) λd=>A4 (!(d==a0)) (Q (0,false)) (Q (A5 (a0.Lo),true))
def RA (a0:Int) (a1:AP) (Q:(Int×Bool)->Prop):Prop:=
 aX a1 λd=>Q (d.1,d.2)
def HS (a0:Int) (Q:Bool->Prop):Prop:=
 Q (a0 != a0)
def CR (a0:Int) (a1:Int) (Q:Int->Prop):Prop:=
 HS a0 λh=>HS a1 λd=>A4 h (A4 d (Q 0) (Q (-1))) (A4 d (Q 1) (A4 (decide (a0<a1)) (Q (-1)) (A4 (decide (a1<a0)) (Q 1) (Q 0))))
def iD (a0:B2) (a1:B2) (Q:Int->Prop):Prop:=
 CR a0.From a1.From λD=>CR a0.To a1.To λh=>J9 ([D,h]:List Int) λd=>Q d
def VB (a0:B2) (a1:B2) (Q:Int->Prop):Prop:=
 iD a0 a1 λD=>HH a0.W a1.W λh=>J9 ([D,h]:List Int) λd=>Q d
def QP (a0:Int) (a1:List B2) (Q:((List B2)×Int)->Prop):Prop:=
 SJ a0 λr12=>A4 (!r12) (Q (([]:List B2),8)) (AY (λ(s:(List ((Int×Int)×AP))×Int) next305=>match s with | (s303,s304)=>A4 (decide (s304<(a1.length:Int))) (AU a1 s304 λd=>NS d.W λJ=>AhH s303 (d.From,d.To) GI λr348 O=>A4 O (TI a0 r348 J λU=>next305 ((DY (d.From,d.To) U s303),A5 (s304+1))) (next305 ((DY (d.From,d.To) J s303),A5 (s304+1)))) (AY (λ(s:(List B2)×(List ((Int×Int)×AP))) next473=>match s with | (s467,s471)=>zF s471 (AeE VB s467 λZ=>Q (Z,0)) (λh V=>RA a0 h.2 λD=>A4 (!D.2) (Q (([]:List B2),12)) (DA 24 s467 ([({ From:=h.1.1,To:=h.1.2,W:=D.1 }:B2)]) λ_=>next473 ((s467++([({ From:=h.1.1,To:=h.1.2,W:=D.1 }:B2)])),V)))) (([]:List B2),s303))) (([]:List ((Int×Int)×AP)),0))
def IV (a0:Graph) (Q:Graph->Prop):Prop:=
 QP 1 a0.Edges λd=>Q ({ N:=a0.N,Edges:=d.1 }:Graph)
def FR (a1:Int) (Q:(List B2)->Prop):Prop:=
 A4 (decide (a1<0)) (False) (A4 (decide (0<(A5 (a1 - (A5 (0 - 0)))))) (grP 24 (A5 (a1 - (A5 (0 - 0)))) <| Q ([]:List B2)) (Q ([]:List B2)))
def DO (a0:List (List B2)) (Q:(List B2)->Prop):Prop:=
 AY (λ(s:Int×Int) next161=>match s with | (s159,s160)=>A4 (decide (s160<(a0.length:Int))) (AU a0 s160 λh=>A4 (decide ((A5 (s159+(h.length:Int)))<0)) (False) (next161 (A5 (s159+(h.length:Int)),A5 (s160+1)))) (FR s159 λD=>AY (λ(s:(List B2)×Int) next271=>match s with | (s266,s270)=>A4 (decide (s270<(a0.length:Int))) (AU a0 s270 λd=>DA 24 s266 d λ_=>next271 ((s266++d),A5 (s270+1))) (Q s266)) (D,0))) (0,0)
def LH (a0:B2) (Q:(B2×Bool)->Prop):Prop:=
 Q (({ From:=a0.To,To:=a0.From,W:=a0.W }:B2),true)
def NT (a0:Graph) (Q:Graph->Prop):Prop:=
 AY (λ(s:(List B2)×Int) next114=>match s with | (s108,s112)=>A4 (decide (s112<(a0.Edges.length:Int))) (AU a0.Edges s112 λh=>LH h λd=>A4 d.2 (DA 24 s108 ([d.1]) λ_=>next114 ((s108++([d.1])),A5 (s112+1))) (next114 (s108,A5 (s112+1)))) (IV ({ N:=a0.N,Edges:=s108 }:Graph) λD=>Q D)) (([]:List B2),0)
def P7 (a0:Graph) (Q:Graph->Prop):Prop:=
 NT a0 λd=>Q d
def P8 (a0:Graph) (Q:Graph->Prop):Prop:=
 P7 a0 λd=>DO ([a0.Edges,d.Edges]:List (List B2)) λh=>IV ({ N:=a0.N,Edges:=h }:Graph) λD=>Q D
def MP (a0:B2) (Q:(B2×Bool)->Prop):Prop:=
 Q (a0,a0.From != a0.To)
def TJ (a0:Graph) (Q:Graph->Prop):Prop:=
 AY (λ(s:(List B2)×Int) next114=>match s with | (s108,s112)=>A4 (decide (s112<(a0.Edges.length:Int))) (AU a0.Edges s112 λh=>MP h λd=>A4 d.2 (DA 24 s108 ([d.1]) λ_=>next114 ((s108++([d.1])),A5 (s112+1))) (next114 (s108,A5 (s112+1)))) (IV ({ N:=a0.N,Edges:=s108 }:Graph) λD=>Q D)) (([]:List B2),0)
def NU (a0:Graph) (Q:Graph->Prop):Prop:=
 TJ a0 λd=>Q d
def IW (a0:Int) (a1:Int) (Q:Bool->Prop):Prop:=
 A4 (decide (0<=a0)) (Q (decide (a0<=a1))) (Q false)
def P9 (a0:Int) (Q:Bool->Prop):Prop:=
 A4 (decide (a0<0)) (Q true) (Q (decide (2147483647<a0)))
def EV (a0:List Int) (Q:Int->Prop):Prop:=
 AY (λ(d:Int) next46=>A4 (decide (d<(a0.length:Int))) (AU a0 d λD=>P9 D λh=>A4 h (Q d) (next46 (A5 (d+1)))) (Q (-1))) 0
def BI (a0:List Int) (Q:Bool->Prop):Prop:=
 EV a0 λd=>Q (decide (0<=d))
def PA (a0:Plan) (Q:Int->Prop):Prop:=
 A4 (decide (a0.Kind<=0)) (Q 8) (A4 (decide (5<a0.Kind)) (Q 8) (IW a0.N 4096 λU=>A4 (!U) (Q 3) (DE (λ(h:Unit->Prop)=>DE (λ(d:Unit->Prop)=>A4 (a0.Kind==4) (IW a0.Length 8192 λD=>A4 (!D) (Q 3) (d ())) (A4 (a0.Kind==1) (d ()) (A4 (a0.Kind==2) (d ()) (h ())))) λ_=>IW a0.Source (A5 (a0.N - 1)) λJ=>A4 (!J) (Q 3) (h ())) λ_=>A4 (decide (65536<(a0.Draws.length:Int))) (Q 5) (BI a0.Draws λO=>A4 O (Q 7) (Q 0)))))
def NV (a0:B2) (Q:(B2×Bool)->Prop):Prop:=
 Q (({ a0 with W:=1 }:B2),true)
def TK (a0:Graph) (Q:Graph->Prop):Prop:=
 AY (λ(s:(List B2)×Int) next114=>match s with | (s108,s112)=>A4 (decide (s112<(a0.Edges.length:Int))) (AU a0.Edges s112 λh=>NV h λd=>A4 d.2 (DA 24 s108 ([d.1]) λ_=>next114 ((s108++([d.1])),A5 (s112+1))) (next114 (s108,A5 (s112+1)))) (IV ({ N:=a0.N,Edges:=s108 }:Graph) λD=>Q D)) (([]:List B2),0)
def N2 (a0:Graph) (Q:Graph->Prop):Prop:=
 TK a0 λd=>Q d
def X3 (a0:Int) (a1:Int) (Q:Rows->Prop):Prop:=
 mkP 8 (A5 (a0+1)) 0 λ_=>Q ({ Rows:=a0,Cols:=a1,Start:=(List.replicate (A5 (a0+1)).toNat 0),Col:=([]:List Int),Val:=([]:List Int) }:Rows)
def T6 (a0:Int) (a1:Int) (U:List A2) (Q:Rows->Prop):Prop:=
 X3 a0 a1 λh=>AY (λ(s:(List Int)×(List Int)×(List Int)×Int) next420=>match s with | (s407,s411,s415,s419)=>A4 (decide (s419<(U.length:Int))) (AU U s419 λd=>AU s407 (A5 (d.Row+1)) λO=>AU s407 (A5 (d.Row+1)) λV=>DA 8 s411 ([d.Col]) λ_=>DA 8 s415 ([d.Val]) λ_=>next420 ((s407.set ((A5 (d.Row+1)).toNat) (A5 (O+1))),(s411++([d.Col])),(s415++([d.Val])),A5 (s419+1))) (AY (λ(s:(List Int)×Int) next528=>match s with | (s523,s527)=>A4 (decide (s527<a0)) (AU s523 (A5 (s527+1)) λD=>AU s523 s527 λJ=>AU s523 (A5 (s527+1)) λW=>next528 ((s523.set ((A5 (s527+1)).toNat) (A5 (D+J))),A5 (s527+1))) (Q ({ h with Start:=s523,Col:=s411,Val:=s415 }:Rows))) (s407,0))) (h.Start,h.Col,h.Val,0)
def PB (a0:Graph) (Q:(Rows×Int)->Prop):Prop:=
 N1 a0 λD=>A4 (D != 0) (Q (RZ,D)) (P7 a0 λh=>AY (λ(s:(List A2)×Int) next134=>match s with | (s128,s132)=>A4 (decide (s132<(h.Edges.length:Int))) (AU h.Edges s132 λd=>DA 24 s128 ([({ Row:=d.From,Col:=d.To,Val:=d.W }:A2)]) λ_=>next134 ((s128++([({ Row:=d.From,Col:=d.To,Val:=d.W }:A2)])),A5 (s132+1))) (T6 a0.N a0.N s128 λJ=>Q (J,0))) (([]:List A2),0))
def RB (a0:Plan) (a1:Graph) (Q:(Rows×Int)->Prop):Prop:=
 PA a0 λW=>A4 (W != 0) (Q (RZ,W)) (A4 (a1.N != a0.N) (Q (RZ,4)) (N1 a1 λO=>A4 (O != 0) (Q (RZ,O)) (A4 (a0.Kind==5) (NU a1 λr61=>P8 r61 λr71=>N2 r71 λr82=>PB r82 λV=>Q (V.1,V.2)) (A4 (a0.Kind==3) (P8 a1 λU=>N2 U λJ=>PB J λD=>Q (D.1,D.2)) (A4 (a0.Kind==1) (N2 a1 λZ=>PB Z λd=>Q (d.1,d.2)) (PB a1 λh=>Q (h.1,h.2)))))))
def VC (a0:Plan) (a1:Graph) (h:Int) (Q:Int->Prop):Prop:=
 RB a0 a1 λd=>A4 (d.2 != 0) (Q d.2) (A4 (decide (h<0)) (Q 3) (A4 (decide (8192<h)) (Q 3) (Q 0)))
def JB (a0:JS) (Q:Int->Prop):Prop:=
 VC a0.Plan a0.Graph a0.Limit λJ=>A4 (J != 0) (Q J) (DE (λ(d:Bool->Prop)=>I8 a0.R 8 λh=>A4 (!h) (d (!h)) (I8 a0.C 8 λD=>A4 (!D) (d (!D)) (I8 a0.Room 64 λO=>d (!O)))) λU=>A4 U (False) (A4 (decide (8192<(a0.Choices.length:Int))) (False) (Q 0)))
def tL (a0:xE) (Q:Bool->Prop):Prop:=
 IU a0.A 63 λD=>A4 (!D) (Q false) (IU a0.B 63 λd=>A4 (!d) (Q false) (IU a0.K 63 λh=>A4 (!h) (Q false) (A4 (decide (0<a0.Kind)) (Q (decide (a0.Kind<=5))) (Q false))))
def X4 (a0:xE) (Q:Bool->Prop):Prop:=
 tL a0 λd=>Q (!d)
def DR (a0:List xE) (Q:Int->Prop):Prop:=
 AY (λ(d:Int) next46=>A4 (decide (d<(a0.length:Int))) (AU a0 d λD=>X4 D λh=>A4 h (Q d) (next46 (A5 (d+1)))) (Q (-1))) 0
def CH (a0:List xE) (Q:Bool->Prop):Prop:=
 DR a0 λd=>Q (decide (0<=d))
def iE (a0:JS) (a1:List xE) (J:Int) (Q:Int->Prop):Prop:=
 JB a0 λd=>A4 (d != 0) (Q d) (A4 (decide (1048576<(a1.length:Int))) (False) (CH a1 λh=>A4 h (False) (IU J 1048576 λD=>A4 (!D) (False) (Q 0))))
def CZ (a0:List HR) (Q:(List HR)->Prop):Prop:=
 AhI a0 (Q ([]:List HR)) (DA 16 ([]:List HR) a0 λ_=>Q (([]:List HR)++a0))
def MQ (a0:Int) (a1:Int) (Q:Bool->Prop):Prop:=
 A4 (decide (0<=a0)) (Q (decide (a0<=a1))) (Q false)
def SM (a0:Int) (a1:Int) (Q:Bool->Prop):Prop:=
 HS a0 λh=>A4 h (HS a1 λd=>A4 (!d) (Q true) (Q (decide (a0<a1)))) (Q (decide (a0<a1)))
def FZ (a0:List Int) (Q:Bool->Prop):Prop:=
 AY (λ(d:Int) next58=>A4 (decide (0<d)) (AU a0 d λD=>AU a0 (A5 (d - 1)) λh=>SM D h λJ=>A4 J (Q false) (next58 (A5 (d - 1)))) (Q true)) (A5 ((a0.length:Int) - 1))
def rV (a0:List Int) (a1:Int) (Q:Bool->Prop):Prop:=
 AY (λ(d:Int) next69=>A4 (decide (d<(a0.length:Int))) (AU a0 d λh=>MQ h (A5 (a1 - 1)) λJ=>A4 (!J) (Q false) (A4 (decide (0<d)) (AU a0 (A5 (d - 1)) λD=>A4 (decide (h<=D)) (Q false) (next69 (A5 (d+1)))) (next69 (A5 (d+1))))) (Q true)) 0
def PC (a0:Rows) (Q:Bool->Prop):Prop:=
 MQ a0.Rows 4096 λZ=>A4 (!Z) (Q false) (MQ a0.Cols 4096 λW=>A4 (!W) (Q false) (A4 ((a0.Start.length:Int) != (A5 (a0.Rows+1))) (Q false) (A4 ((a0.Val.length:Int) != (a0.Col.length:Int)) (Q false) (A4 (decide (65536<(a0.Col.length:Int))) (Q false) (AU a0.Start 0 λO=>A4 (O != 0) (Q false) (AU a0.Start a0.Rows λU=>A4 (U != (a0.Col.length:Int)) (Q false) (FZ a0.Start λV=>A4 (!V) (Q false) (AY (λ(d:Int) next157=>A4 (decide (d<a0.Rows)) (AU a0.Start d λD=>AU a0.Start (A5 (d+1)) λh=>slP a0.Col D h λ_=>rV ((a0.Col.take h.toNat).drop D.toNat) a0.Cols λJ=>A4 (!J) (Q false) (next157 (A5 (d+1)))) (Q true)) 0))))))))
def TL (a0:Int) (Q:Bool->Prop):Prop:=
 A4 (decide (1<=a0)) (Q (decide (a0<=8))) (Q false)
def PD (a0:Int) (a1:Int) (d:Int) (h:Int) (Q:Bool->Prop):Prop:=
 TL a0 λJ=>A4 J (TL a1 λD=>A4 D (A4 (decide (0<=d)) (A4 (decide (d<a0)) (A4 (decide (0<=h)) (Q (decide (h<a1))) (Q false)) (Q false)) (Q false)) (Q false)) (Q false)
def RC (a0:Rows) (Q:Rows->Prop):Prop:=
 PC a0 λd=>A4 d (Q a0) (X3 0 0 λh=>Q h)
def TM (a0:Int×Int) (a1:Int) (Q:(Int×Int)->Prop):Prop:=
 A4 (decide ((if a1<a0.2 then a1 else a0.2)<=(if 0 > a0.1 then 0 else a0.1))) (Q ((if 0 > a0.1 then 0 else a0.1),0)) (Q ((if 0 > a0.1 then 0 else a0.1),A5 ((if a1<a0.2 then a1 else a0.2) - (if 0 > a0.1 then 0 else a0.1))))
def aY (a0:Rows) (a1:Int) (Q:((List Int)×(List Int))->Prop):Prop:=
 AU a0.Start a1 λh=>AU a0.Start (A5 (a1+1)) λd=>slP a0.Col h d λ_=>slP a0.Val h d λ_=>Q (((a0.Col.take d.toNat).drop h.toNat),((a0.Val.take d.toNat).drop h.toNat))
def rW (a0:Rows) (a1:Int) (Q:(List B9)->Prop):Prop:=
 RC a0 λJ=>MQ a1 (A5 (J.Rows - 1)) λO=>A4 (!O) (Q ([]:List B9)) (aY J a1 λD=>AY (λ(s:(List B9)×Int) next140=>match s with | (s134,s138)=>A4 (decide (s138<(D.1.length:Int))) (AU D.1 s138 λd=>AU D.2 s138 λh=>DA 16 s134 ([({ At:=d,Val:=h }:B9)]) λ_=>next140 ((s134++([({ At:=d,Val:=h }:B9)])),A5 (s138+1))) (Q s134)) (([]:List B9),0))
def VD (a0:Rows) (a1:Int×Int) (Z:Int×Int) (Q:Rows->Prop):Prop:=
 RC a0 λU=>TM a1 U.Rows λO=>TM Z U.Cols λh=>AY (λ(s:(List A2)×Int) next418=>match s with | (s412,s416)=>A4 (decide (s416<O.2)) (rW U (A5 (O.1+s416)) λD=>AY (λ(s:(List A2)×Int) next548=>match s with | (s543,s547)=>A4 (decide (s547<(D.length:Int))) (AU D s547 λd=>DE (λ(J:Bool->Prop)=>A4 (decide (h.1<=d.At)) (J (decide ((A5 (d.At - h.1))<h.2))) (J false)) λV=>A4 V (DA 24 s543 ([({ Row:=s416,Col:=A5 (d.At - h.1),Val:=d.Val }:A2)]) λ_=>next548 ((s543++([({ Row:=s416,Col:=A5 (d.At - h.1),Val:=d.Val }:A2)])),A5 (s547+1))) (next548 (s543,A5 (s547+1)))) (next418 (s543,A5 (s416+1)))) (s412,0)) (T6 O.2 h.2 s412 λW=>Q W)) (([]:List A2),0)
def PE (a0:Int) (Q:Bool->Prop):Prop:=
 A4 (decide (0<a0)) (Q (decide (a0<=8))) (Q false)
def kS (a0:Int) (a1:Int) (Q:Bool->Prop):Prop:=
 A4 (decide (0<=a0)) (A4 (decide (a0<=4096)) (PE a1 λd=>Q d) (Q false)) (Q false)
def I9 (a0:Int) (a1:Int) (d:Int) (Q:Int->Prop):Prop:=
 kS a0 a1 λh=>A4 (!h) (Q 0) (nzP a1 <| Q (A5 ((A5 ((if a1<(if 0 > d then 0 else d) then a1 else (if 0 > d then 0 else d))*a0)).tdiv a1)))
def GJ (a0:Int) (a1:Int) (d:Int) (Q:(Int×Int)->Prop):Prop:=
 I9 a0 a1 d λD=>I9 a0 a1 (A5 (d+1)) λh=>Q (D,h)
def dJ (a0:Rows) (a1:Int) (W:Int) (Z:Int) (a4:Int) (Q:Rows->Prop):Prop:=
 PC a0 λJ=>A4 (!J) (VD RZ (0,0) (0,0) λV=>Q V) (PD a1 W Z a4 λh=>A4 (!h) (VD RZ (0,0) (0,0) λU=>Q U) (GJ a0.Rows a1 Z λD=>GJ a0.Cols W a4 λd=>VD a0 D d λO=>Q O))
def X5  (Q:BF->Prop):Prop:=
 Q ({ Rows:=0,Cols:=0,At:=([]:List Int),Start:=([0]:List Int),Row:=([]:List Int),Val:=([]:List Int) }:BF)
def RE (a0:Rows) (Q:(List A2)->Prop):Prop:=
 RC a0 λJ=>AY (λ(s:(List A2)×Int) next371=>match s with | (s365,s369)=>A4 (decide (s369<J.Rows)) (aY J s369 λd=>AY (λ(s:(List A2)×Int) next497=>match s with | (s492,s496)=>A4 (decide (s496<(d.1.length:Int))) (AU d.1 s496 λD=>AU d.2 s496 λh=>DA 24 s492 ([({ Row:=s369,Col:=D,Val:=h }:A2)]) λ_=>next497 ((s492++([({ Row:=s369,Col:=D,Val:=h }:A2)])),A5 (s496+1))) (next371 (s492,A5 (s369+1)))) (s365,0)) (Q s365)) (([]:List A2),0)
def dK (a0:A2) (a1:A2) (Q:Int->Prop):Prop:=
 CR a0.Row a1.Row λD=>CR a0.Col a1.Col λh=>J9 ([D,h]:List Int) λd=>Q d
def kT (a0:Rows) (Q:Rows->Prop):Prop:=
 RC a0 λh=>RE h λJ=>AY (λ(s:(List A2)×Int) next202=>match s with | (s196,s201)=>A4 (decide (s201<(J.length:Int))) (AU s196 s201 λd=>AU s196 s201 λU=>next202 ((s196.set s201.toNat ({ Row:=d.Col,Col:=d.Row,Val:=d.Val }:A2)),A5 (s201+1))) (AeE dK s196 λO=>T6 h.Cols h.Rows O λD=>Q D)) (J,0)
def rX (a0:Rows) (Q:BF->Prop):Prop:=
 X5  λD=>PC a0 λr68=>A4 (!r68) (Q D) (kT a0 λZ=>RE Z λJ=>AY (λ(s:(List Int)×(List Int)×(List Int)×(List Int)×Int) next591=>match s with | (s574,s578,s582,s586,s590)=>A4 (decide (s590<(J.length:Int))) (AU J s590 λd=>DE (λ(O:((List Int)×(List Int))->Prop)=>DE (λ(U:Bool->Prop)=>A4 ((s574.length:Int)==0) (U true) (AU s574 (A5 ((s574.length:Int) - 1)) λW=>U (W != d.Row))) λV=>A4 V (DA 8 s574 ([d.Row]) λ_=>DA 8 s578 ([0]) λ_=>O ((s574++([d.Row])),(s578++([0])))) (O (s574,s578))) λ(h,s713)=>DA 8 s582 ([d.Col]) λ_=>DA 8 s586 ([d.Val]) λ_=>AU s713 (h.length:Int) λx790=>next591 (h,(s713.set ((h.length:Int).toNat) ((s582++([d.Col])).length:Int)),(s582++([d.Col])),(s586++([d.Val])),A5 (s590+1))) (Q ({ a0 with At:=s574,Start:=s578,Row:=s582,Val:=s586 }:BF))) (D.At,D.Start,D.Row,D.Val,0))
def RF (a0:Int) (Q:Int->Prop):Prop:=
 Q (shr .i64 (A5 ((if 4096<(if 0 > a0 then 0 else a0) then 4096 else (if 0 > a0 then 0 else a0))+63)) 6)
def N3 (a0:Int) (Q:(List Int)->Prop):Prop:=
 RF a0 λd=>mkP 8 d 0 λ_=>Q (List.replicate d.toNat 0)
def NW (a0:List Int) (a1:Int) (Q:Bool->Prop):Prop:=
 A4 (decide (0<=a1)) (Q (decide ((shr .i64 a1 6)<(a0.length:Int)))) (Q false)
def X6 (a0:Int) (Q:Int->Prop):Prop:=
 nnP (Y4 .u64 (IntKind.wrap .u64 (a0)) 63) <| Q (shl .u64 1 (Y4 .u64 (IntKind.wrap .u64 (a0)) 63))
def JT (a0:Int) (a1:List Int) (Q:(List Int)->Prop):Prop:=
 N3 a0 λV=>AY (λ(s:(List Int)×Int) next157=>match s with | (s152,s156)=>A4 (decide (s156<(a1.length:Int))) (AU a1 s156 λd=>DE (λ(h:Bool->Prop)=>A4 (decide (d<a0)) (NW s152 d λJ=>h J) (h false)) λO=>A4 O (AU s152 (shr .i64 d 6) λD=>X6 d λU=>AU s152 (shr .i64 d 6) λW=>next157 ((s152.set ((shr .i64 d 6).toNat) (yX .u64 D U)),A5 (s156+1))) (next157 (s152,A5 (s156+1)))) (Q s152)) (V,0)
def YB (a0:Int) (Q:Int->Prop):Prop:=
 AY (λ(s:Int×Int) next11=>match s with | (s9,s10)=>A4 (s9==0) (Q s10) (next11 (Y4 .u64 s9 (IntKind.wrap .u64 (s9 - 1)),A5 (s10+1)))) (a0,0)
def KS (a0:List Int) (Q:Int->Prop):Prop:=
 AY (λ(s:Int×Int) next42=>match s with | (s40,s41)=>A4 (decide (s41<(a0.length:Int))) (AU a0 s41 λh=>YB h λd=>next42 (A5 (s40+d),A5 (s41+1))) (Q s40)) (0,0)
def KT (a0:List Int) (Q:(List Int)->Prop):Prop:=
 Q a0
def PF (o0:Nat) (o1:Int) (o2:Int) (o3:List Int) (Y:Nat->Int->Int->Int->((Bool×Nat×Int)->Prop)->Prop) (Q:(Nat×Int)->Prop):Prop:=
 AY (λ(s:Int×Int×Nat) next193=>match s with | (s190,s191,s192)=>A4 (decide (s191<(o3.length:Int))) (AU o3 s191 λh=>AY (λ(s:Int×Int×Int×Nat) next262=>match s with | (s258,s259,s260,s261)=>A4 (s259 != 0) (A4 ((Y4 .u64 s259 1)==1) (Y s261 o1 s258 s260 λd=>A4 (!d.1) (Q (d.2.1,d.2.2)) (next262 (d.2.2,shr .u64 s259 1,A5 (s260+1),d.2.1))) (next262 (s258,shr .u64 s259 1,A5 (s260+1),s261))) (next193 (s258,A5 (s191+1),s261))) (s190,h,shl .i64 s191 6,s192)) (Q (s192,s190))) (o2,0,o0)
def PG (a0:List Int) (a1:Int) (Q:Int->Prop):Prop:=
 KT a0 λU=>PF 0 a1 0 U (λ(J:Nat) (D:Int) (O:Int) (h:Int) (V:(Bool×Nat×Int)->Prop)=>eqP J 0 (A4 (decide (D<=h)) (V (false,1,h)) (V (true,0,O)))) λd=>A4 (decide (d.1=0)) (Q (-1)) (eqP d.1 1 (Q d.2))
def RG (a0:List Int) (a1:Int) (Q:Bool->Prop):Prop:=
 A4 (decide (0<=a1)) (A4 (decide (a1<=4096)) (RF a1 λh=>A4 ((a0.length:Int)==h) (PG a0 a1 λd=>Q (decide (d<0))) (Q false)) (Q false)) (Q false)
def tM (a0:Plan) (a1:State) (Q:Bool->Prop):Prop:=
 PA a0 λd=>A4 (d != 0) (Q false) (A4 (decide (a1.Low<0)) (Q false) (A4 (decide (a1.High<a1.Low)) (Q false) (A4 (decide (a0.N<a1.High)) (Q false) (A4 ((a1.A.length:Int)==(A5 (a1.High - a1.Low))) (A4 ((a1.B.length:Int)==(A5 (a1.High - a1.Low))) (RG a1.On (A5 (a1.High - a1.Low)) λh=>Q h) (Q false)) (Q false)))))
def PH (a0:Plan) (a1:State) (Q:State->Prop):Prop:=
 tM a0 a1 λd=>A4 d (Q a1) (Q FY)
def dL (a0:Plan) (a1:State) (O:Int) (Q:Int->Prop):Prop:=
 PH a0 a1 λd=>A4 (a0.Kind==4) (A4 (decide (a0.Length<=O)) (Q 0) (KS d.On λJ=>Q J)) (A4 (a0.Kind==5) (AY (λ(s:Int×Int) next71=>match s with | (s69,s70)=>A4 (decide (s70<(d.A.length:Int))) (AU d.A s70 λh=>A4 (h==0) (next71 (A5 (s69+1),A5 (s70+1))) (next71 (s69,A5 (s70+1)))) (Q s69)) (0,0)) (KS d.On λD=>Q D))
def iF (a0:Int) (a1:Int) (d:Int) (Q:Int->Prop):Prop:=
 PE a0 λh=>A4 (!h) (Q (-1)) (A4 (decide (a1<0)) (Q (-1)) (A4 (decide (8<=a1)) (Q (-1)) (A4 (decide (d<0)) (Q (-1)) (A4 (decide (a0<=d)) (Q (-1)) (Q (A5 ((A5 (a1*a0))+d)))))))
def X7 (a0:Int) (a1:Int) (Q:Int->Prop):Prop:=
 PE a0 λd=>A4 (!d) (Q (-1)) (A4 (decide (a1<0)) (Q (-1)) (A4 (decide ((A5 (a0*8))<=a1)) (Q (-1)) (nzP a0 <| Q (A5 (a1.tdiv a0)))))
def TN (a0:Int) (a1:Int) (Q:Int->Prop):Prop:=
 X7 a0 a1 λd=>A4 (decide (d<0)) (Q (-1)) (nzP a0 <| Q (a1.tmod a0))
def BW (a0:List Int) (Q:(List Int)->Prop):Prop:=
 AhI a0 (Q ([]:List Int)) (DA 8 ([]:List Int) a0 λ_=>Q (([]:List Int)++a0))
def PI (o0:Nat) (o1:List Int) (o2:List Int) (Y:Nat->(List Int)->Int->((Bool×Nat×(List Int))->Prop)->Prop) (Q:(Nat×(List Int))->Prop):Prop:=
 AY (λ(s:(List Int)×Int×Nat) next257=>match s with | (s251,s255,s256)=>A4 (decide (s255<(o2.length:Int))) (AU o2 s255 λh=>AY (λ(s:(List Int)×Int×Int×Nat) next346=>match s with | (s339,s343,s344,s345)=>A4 (s343 != 0) (A4 ((Y4 .u64 s343 1)==1) (Y s345 s339 s344 λd=>A4 (!d.1) (Q (d.2.1,d.2.2)) (next346 (d.2.2,shr .u64 s343 1,A5 (s344+1),d.2.1))) (next346 (s339,shr .u64 s343 1,A5 (s344+1),s345))) (next257 (s339,A5 (s255+1),s345))) (s251,h,shl .i64 s255 6,s256)) (Q (s256,s251))) (o1,0,o0)
def G7 (o0:List Int) (Q:(List Int)->Prop):Prop:=
 PI 0 ([]:List Int) o0 (λ(J:Nat) (h:List Int) (d:Int) (O:(Bool×Nat×(List Int))->Prop)=>eqP J 0 (DA 8 h ([d]) λ_=>O (true,0,(h++([d]))))) λD=>eqP D.1 0 (Q D.2)
def JC (o0:List Int) (Q:(List Int)->Prop):Prop:=
 G7 o0 λd=>Q d
def YC (a0:List Int) (Q:(List Int)->Prop):Prop:=
 KT a0 λd=>JC d λh=>Q h
def B6 (a0:List B9) (Q:(List B9)->Prop):Prop:=
 AhI a0 (Q ([]:List B9)) (DA 16 ([]:List B9) a0 λ_=>Q (([]:List B9)++a0))
def D7 (a0:List BM) (Q:(List BM)->Prop):Prop:=
 AhI a0 (Q ([]:List BM)) (DA 24 ([]:List BM) a0 λ_=>Q (([]:List BM)++a0))
def YD (a0:AO) (Q:AO->Prop):Prop:=
 B6 a0.Vec.Items λd=>D7 a0.Sums λh=>Q ({ a0 with Vec:=({ N:=a0.Vec.N,Items:=d }:Vec),Sums:=h }:AO)
def D0 (a0:List A2) (Q:(List A2)->Prop):Prop:=
 AhI a0 (Q ([]:List A2)) (DA 24 ([]:List A2) a0 λ_=>Q (([]:List A2)++a0))
def aZ (a0:AO) (Q:AO->Prop):Prop:=
 B6 a0.Vec.Items λh=>D7 a0.Sums λD=>D0 a0.Triples λd=>Q ({ a0 with Vec:=({ N:=a0.Vec.N,Items:=h }:Vec),Sums:=D,Triples:=d }:AO)
def SN (a0:Int) (a1:Int) (Q:Bool->Prop):Prop:=
 A4 (decide (0<=a0)) (Q (decide (a0<=a1))) (Q false)
def NX (o0:Int) (o1:Vec) (a0:B9) (Q:(Bool×Int)->Prop):Prop:=
 A4 (decide (a0.At<=o0)) (Q (true,a0.At)) (Q (decide (o1.N<=a0.At),a0.At))
def DS (o0:Int) (o1:Vec) (a0:List B9) (Q:(Int×Int)->Prop):Prop:=
 AY (λ(s:Int×Int) next61=>match s with | (s59,s60)=>A4 (decide (s60<(a0.length:Int))) (AU a0 s60 λh=>NX s59 o1 h λd=>A4 d.1 (Q (s60,d.2)) (next61 (d.2,A5 (s60+1)))) (Q ((-1),s59))) (o0,0)
def D8 (o0:Int) (o1:Vec) (a0:List B9) (Q:(Bool×Int)->Prop):Prop:=
 DS o0 o1 a0 λd=>Q (decide (0<=d.1),d.2)
def F7 (a0:Vec) (Q:Bool->Prop):Prop:=
 SN a0.N 4096 λd=>A4 (!d) (Q false) (D8 (-1) a0 a0.Items λh=>Q (!h.1))
def M5 (a0:AO) (a1:Int) (Q:(Vec×Bool)->Prop):Prop:=
 B6 a0.Vec.Items λd=>F7 ({ N:=a0.Vec.N,Items:=d }:Vec) λh=>A4 h (Q (({ N:=a0.Vec.N,Items:=d }:Vec),a0.Vec.N==a1)) (Q (({ N:=a0.Vec.N,Items:=d }:Vec),false))
def NY (a0:Int) (Q:Bool->Prop):Prop:=
 A4 (decide (0<=a0)) (Q (decide (a0<=4096))) (Q false)
def KU (a0:Vec) (Q:Vec->Prop):Prop:=
 F7 a0 λd=>A4 d (Q a0) (Q CJ)
def PJ (o0:Int) (a0:B9) (Q:B9->Prop):Prop:=
 Q ({ At:=A5 (o0+a0.At),Val:=a0.Val }:B9)
def NZ (o0:Int) (a0:Vec) (Q:Vec->Prop):Prop:=
 KU a0 λD=>B6 D.Items λd=>AY (λ(s:(List B9)×Int) next126=>match s with | (s120,s125)=>A4 (decide (s125<(d.length:Int))) (AU s120 s125 λJ=>PJ o0 J λh=>AU s120 s125 λO=>next126 ((s120.set s125.toNat h),A5 (s125+1))) (Q ({ N:=D.N,Items:=s120 }:Vec))) (d,0)
def YE (a0:List Vec) (Q:(Vec×Int)->Prop):Prop:=
 AY (λ(s:Int×(List B9)×Int) next161=>match s with | (s154,s155,s159)=>A4 (decide (s159<(a0.length:Int))) (AU a0 s159 λh=>NZ s154 h λd=>A4 (decide ((A5 (4096 - s154))<d.N)) (Q (CJ,5)) (DA 16 s155 d.Items λ_=>next161 (A5 (s154+d.N),(s155++d.Items),A5 (s159+1)))) (Q (({ N:=s154,Items:=s155 }:Vec),0))) (0,([]:List B9),0)
def T7 (a0:Int) (a1:Int) (Q:Int->Prop):Prop:=
 A4 (a0==2) (Q 1) (A4 (a0==4) (Q 5) (A4 (a0==5) (A4 ((Y4 .i64 a1 1)==0) (Q 2) (Q 4)) (A4 (a0==1) (Q 4) (A4 (a0==3) (Q 4) (Q 0)))))
def SO (a0:Int) (a1:Int) (d:Int) (Q:Int->Prop):Prop:=
 A4 (a0==1) (Q a0) (A4 (a0==2) (Q a0) (A4 (decide ((A5 (d.tdiv 8))<a1)) (Q 2) (Q 1)))
def PK (a0:Int) (Q:Dense->Prop):Prop:=
 A4 (decide (a0<0)) (mkP 8 0 0 λ_=>N3 0 λd=>Q ({ N:=0,Has:=d,Vals:=(List.replicate (Int.toNat 0) (0:Int)) }:Dense)) (A4 (decide (4096<a0)) (mkP 8 0 0 λ_=>N3 0 λh=>Q ({ N:=0,Has:=h,Vals:=(List.replicate (Int.toNat 0) (0:Int)) }:Dense)) (mkP 8 a0 0 λ_=>N3 a0 λD=>Q ({ N:=a0,Has:=D,Vals:=(List.replicate a0.toNat (0:Int)) }:Dense)))
def O0 (a0:Vec) (Q:(List Int)->Prop):Prop:=
 KU a0 λh=>AY (λ(s:(List Int)×Int) next91=>match s with | (s85,s89)=>A4 (decide (s89<(h.Items.length:Int))) (AU h.Items s89 λd=>DA 8 s85 ([d.At]) λ_=>next91 ((s85++([d.At])),A5 (s89+1))) (Q s85)) (([]:List Int),0)
def bA (a0:Vec) (Q:Dense->Prop):Prop:=
 F7 a0 λO=>A4 (!O) (PK 0 λU=>Q U) (PK a0.N λh=>AY (λ(s:(List Int)×Int) next222=>match s with | (s217,s221)=>A4 (decide (s221<(a0.Items.length:Int))) (AU a0.Items s221 λd=>AU s217 d.At λV=>next222 ((s217.set d.At.toNat d.Val),A5 (s221+1))) (O0 a0 λD=>JT a0.N D λJ=>Q ({ N:=h.N,Has:=J,Vals:=s217 }:Dense))) (h.Vals,0))
def VE (a0:Int) (a1:Vec) (Q:iB->Prop):Prop:=
 DE (λ(h:(Int×(List B9))->Prop)=>F7 a1 λJ=>A4 (!J) (h (0,([]:List B9))) (h (a1.N,a1.Items))) λ(d,s25)=>SO a0 (s25.length:Int) d λD=>A4 (D==2) (bA ({ N:=d,Items:=s25 }:Vec) λU=>Q ({ Form:=2,Vec:=CJ,Dense:=U }:iB)) (B6 s25 λO=>Q ({ Form:=1,Vec:=({ N:=d,Items:=O }:Vec),Dense:=({ N:=0,Has:=([]:List Int),Vals:=([]:List Int) }:Dense) }:iB))
def LI (a0:Int) (a1:Int) (d:Int) (Q:Int->Prop):Prop:=
 A4 (a0==1) (Q a0) (A4 (a0==2) (Q a0) (A4 (decide ((A5 (d.tdiv 4))<a1)) (Q 2) (Q 1)))
def N4 (a0:Int) (a1:Int) (Q:Bool->Prop):Prop:=
 A4 (decide (0<=a0)) (Q (decide (a0<=a1))) (Q false)
def N5 (a0:List Int) (a1:Int) (Q:Bool->Prop):Prop:=
 AY (λ(d:Int) next69=>A4 (decide (d<(a0.length:Int))) (AU a0 d λh=>N4 h (A5 (a1 - 1)) λJ=>A4 (!J) (Q false) (A4 (decide (0<d)) (AU a0 (A5 (d - 1)) λD=>A4 (decide (h<=D)) (Q false) (next69 (A5 (d+1)))) (next69 (A5 (d+1))))) (Q true)) 0
def TO (a0:BF) (Q:Bool->Prop):Prop:=
 N4 a0.Rows 4096 λr20=>A4 (!r20) (Q false) (N4 a0.Cols 4096 λV=>A4 (!V) (Q false) (A4 ((a0.Start.length:Int) != (A5 ((a0.At.length:Int)+1))) (Q false) (A4 ((a0.Val.length:Int) != (a0.Row.length:Int)) (Q false) (A4 (decide (65536<(a0.Row.length:Int))) (Q false) (N5 a0.At a0.Cols λO=>A4 (!O) (Q false) (N5 a0.Start (A5 ((a0.Row.length:Int)+1)) λW=>A4 (!W) (Q false) (AU a0.Start 0 λU=>A4 (U != 0) (Q false) (AU a0.Start (a0.At.length:Int) λZ=>A4 (Z != (a0.Row.length:Int)) (Q false) (AY (λ(d:Int) next167=>A4 (decide (d<(a0.At.length:Int))) (AU a0.Start d λh=>AU a0.Start (A5 (d+1)) λD=>slP a0.Row h D λ_=>N5 ((a0.Row.take D.toNat).drop h.toNat) a0.Rows λJ=>A4 (!J) (Q false) (next167 (A5 (d+1)))) (Q true)) 0)))))))))
def X8 (a0:BF) (Q:BF->Prop):Prop:=
 TO a0 λd=>A4 d (Q a0) (X5  λh=>Q h)
def TP (a0:BF) (a1:Int) (Q:Int->Prop):Prop:=
 DE (λ(h:(Int×Int)->Prop)=>AY (λ(s:Int×Int) next288=>match s with | (s286,s287)=>A4 (decide (s286<s287)) (AU a0.At (A5 (s286+(A5 ((A5 (s287 - s286)).tdiv 2)))) λD=>A4 (D==a1) (h (A5 (s286+(A5 ((A5 (s287 - s286)).tdiv 2))),s287)) (AU a0.At (A5 (s286+(A5 ((A5 (s287 - s286)).tdiv 2)))) λJ=>A4 (decide (J<a1)) (next288 (A5 ((A5 (s286+(A5 ((A5 (s287 - s286)).tdiv 2))))+1),s287)) (next288 (s286,A5 (s286+(A5 ((A5 (s287 - s286)).tdiv 2))))))) (h (s286,s287))) (0,(a0.At.length:Int))) λ(d,s216)=>A4 (decide (d<s216)) (Q d) (Q (-1))
def dM (a0:BF) (a1:List Int) (Q:Int->Prop):Prop:=
 X8 a0 λh=>AY (λ(s:Int×Int) next130=>match s with | (s128,s129)=>A4 (decide (s129<(a1.length:Int))) (AU a1 s129 λO=>TP h O λd=>A4 (decide (0<=d)) (AU h.Start (A5 (d+1)) λD=>AU h.Start d λJ=>next130 (A5 (s128+(A5 (D - J))),A5 (s129+1))) (next130 (s128,A5 (s129+1)))) (Q s128)) (0,0)
def dN (a0:BF) (a1:Vec) (Q:Int->Prop):Prop:=
 O0 a1 λd=>dM a0 d λh=>Q h
def LJ (a0:List Int) (a1:Int) (Q:Bool->Prop):Prop:=
 NW a0 a1 λD=>A4 D (AU a0 (shr .i64 a1 6) λd=>X6 a1 λh=>Q ((Y4 .u64 d h) != 0)) (Q false)
def RH (a0:Dense) (Q:Bool->Prop):Prop:=
 RG a0.Has a0.N λD=>A4 (!D) (Q false) (A4 ((a0.Vals.length:Int) != a0.N) (Q false) (AY (λ(d:Int) next75=>A4 (decide (d<(a0.Vals.length:Int))) (AU a0.Vals d λh=>A4 (h != 0) (LJ a0.Has d λJ=>A4 (!J) (Q false) (next75 (A5 (d+1)))) (next75 (A5 (d+1)))) (Q true)) 0))
def iG (a0:Dense) (Q:Dense->Prop):Prop:=
 RH a0 λd=>A4 d (Q a0) (PK 0 λh=>Q h)
def WF (a0:Dense) (Q:Dense->Prop):Prop:=
 Q a0
def S1 (o0:Nat) (o1:Vec) (o2:Dense) (Y:Nat->Vec->Int->Int->((Bool×Nat×Vec)->Prop)->Prop) (Q:(Nat×Vec)->Prop):Prop:=
 PG o2.Has 0 λJ=>AY (λ(s:Int×(List B9)×Int×Nat) next117=>match s with | (s110,s111,s115,s116)=>A4 (decide (0<=s115)) (AU o2.Vals s115 λD=>Y s116 ({ N:=s110,Items:=s111 }:Vec) s115 D λd=>A4 (!d.1) (Q (d.2.1,d.2.2)) (PG o2.Has (A5 (s115+1)) λh=>next117 (d.2.2.N,d.2.2.Items,h,d.2.1))) (Q (s116,({ N:=s110,Items:=s111 }:Vec)))) (o1.N,o1.Items,J,o0)
def YF (a0:Dense) (Q:Vec->Prop):Prop:=
 iG a0 λO=>WF O λU=>S1 0 ({ N:=O.N,Items:=([]:List B9) }:Vec) U (λ(V:Nat) (D:Vec) (J:Int) (d:Int) (W:(Bool×Nat×Vec)->Prop)=>eqP V 0 (DA 16 D.Items ([({ At:=J,Val:=d }:B9)]) λ_=>W (true,0,({ N:=D.N,Items:=(D.Items++([({ At:=J,Val:=d }:B9)])) }:Vec)))) λh=>eqP h.1 0 (Q h.2)
def PL (a0:iB) (Q:Vec->Prop):Prop:=
 A4 (a0.Form==2) (YF a0.Dense λh=>Q h) (DE (λ(d:Bool->Prop)=>A4 (a0.Form==1) (F7 a0.Vec λD=>d D) (d false)) λJ=>A4 J (B6 a0.Vec.Items λO=>Q ({ N:=a0.Vec.N,Items:=O }:Vec)) (Q CJ))
def dO (a0:Rows) (Q:Int->Prop):Prop:=
 RC a0 λd=>Q (d.Col.length:Int)
def YG (a0:List BM) (Q:Bool->Prop):Prop:=
 AY (λ(d:Int) next32=>A4 (decide (d<(a0.length:Int))) (A4 (decide (0<d)) (AU a0 (A5 (d - 1)) λD=>AU a0 d λh=>A4 (decide (h.At<=D.At)) (Q false) (next32 (A5 (d+1)))) (next32 (A5 (d+1)))) (Q true)) 0
def O1 (a0:List AX) (Q:Int->Prop):Prop:=
 Q (a0.length:Int)
def PM (a0:List BM) (Q:Bool->Prop):Prop:=
 YG a0 λd=>Q (!d)
def E7 (a0:List (List BM)) (Q:Int->Prop):Prop:=
 AY (λ(d:Int) next52=>A4 (decide (d<(a0.length:Int))) (AU a0 d λh=>PM h λD=>A4 D (Q d) (next52 (A5 (d+1)))) (Q (-1))) 0
def CK (a0:List (List BM)) (Q:Bool->Prop):Prop:=
 E7 a0 λd=>Q (decide (0<=d))
def M0 (o0:AJ) (a0:AX) (Q:AJ->Prop):Prop:=
 DA 32 o0.heads ([a0]) λ_=>Q ({ o0 with heads:=(o0.heads++([a0])) }:AJ)
def GX (o0:List AX) (Q:Int->Prop):Prop:=
 Q (o0.length:Int)
def F5 (o0:List AX) (a0:Int) (a1:Int) (Q:Bool->Prop):Prop:=
 AU o0 a0 λW=>AU W.l 0 λx20=>AU o0 a1 λJ=>AU J.l 0 λU=>AU o0 a0 λD=>AU o0 a1 λd=>CR x20.At U.At λO=>CR D.which d.which λV=>J9 ([O,V]:List Int) λh=>Q (decide (h<0))
def F6 (o0:List AX) (a0:Int) (a1:Int) (Q:(List AX)->Prop):Prop:=
 AU o0 a1 λd=>AU o0 a0 λx20=>AU o0 a0 λD=>AU (o0.set a0.toNat d) a1 λh=>Q ((o0.set a0.toNat d).set a1.toNat x20)
def FC (o0:AJ) (a0:Int) (Q:AJ->Prop):Prop:=
 AY (λ(s:(List AX)×Int) next61=>match s with | (s59,s60)=>A4 ((A5 ((A5 (s60 - 1)).tdiv 2))==s60) (Q ({ o0 with heads:=s59 }:AJ)) (F5 s59 s60 (A5 ((A5 (s60 - 1)).tdiv 2)) λd=>A4 (!d) (Q ({ o0 with heads:=s59 }:AJ)) (F6 s59 (A5 ((A5 (s60 - 1)).tdiv 2)) s60 λh=>next61 (h,A5 ((A5 (s60 - 1)).tdiv 2))))) (o0.heads,a0)
def IA (o0:AJ) (a0:AX) (Q:AJ->Prop):Prop:=
 M0 o0 a0 λd=>GX d.heads λh=>FC d (A5 (h - 1)) λD=>Q D
def GD (o0:AJ) (a0:List BM) (a1:Int) (Q:AJ->Prop):Prop:=
 A4 (decide (0<(a0.length:Int))) (IA o0 ({ l:=a0,which:=a1 }:AX) λd=>Q d) (Q o0)
def G0 (o0:AJ) (a0:Int) (a1:Int) (Q:(Bool×AJ)->Prop):Prop:=
 AY (λ(s:(List AX)×Int) next131=>match s with | (s129,s130)=>A4 (decide (a1<=(A5 ((A5 (2*s130))+1)))) (Q (decide (a0<s130),({ o0 with heads:=s129 }:AJ))) (A4 (decide ((A5 ((A5 (2*s130))+1))<0)) (Q (decide (a0<s130),({ o0 with heads:=s129 }:AJ))) (DE (λ(d:Int->Prop)=>A4 (decide ((A5 ((A5 ((A5 (2*s130))+1))+1))<a1)) (F5 s129 (A5 ((A5 ((A5 (2*s130))+1))+1)) (A5 ((A5 (2*s130))+1)) λD=>A4 D (d (A5 ((A5 ((A5 (2*s130))+1))+1))) (d (A5 ((A5 (2*s130))+1)))) (d (A5 ((A5 (2*s130))+1)))) λh=>F5 s129 h s130 λO=>A4 (!O) (Q (decide (a0<s130),({ o0 with heads:=s129 }:AJ))) (F6 s129 s130 h λJ=>next131 (J,h))))) (o0.heads,a0)
def MR (o0:AJ) (Q:(AX×AJ)->Prop):Prop:=
 AU o0.heads (A5 ((o0.heads.length:Int) - 1)) λd=>slP o0.heads 0 (A5 ((o0.heads.length:Int) - 1)) λ_=>Q (d,({ o0 with heads:=(o0.heads.take (A5 ((o0.heads.length:Int) - 1)).toNat) }:AJ))
def GK (o0:AJ) (Q:(AX×AJ)->Prop):Prop:=
 GX o0.heads λd=>F6 o0.heads 0 (A5 (d - 1)) λJ=>G0 ({ o0 with heads:=J }:AJ) 0 (A5 (d - 1)) λD=>MR D.2 λh=>Q (h.1,h.2)
def FS (o0:AJ) (Q:AJ->Prop):Prop:=
 AU o0.heads 0 λh=>GK o0 λr61=>AU h.l 0 λD=>slP h.l 1 (h.l.length:Int) λ_=>GD r61.2 ((h.l.take (h.l.length:Int).toNat).drop (Int.toNat 1)) h.which λd=>DE (λ(J:Bool->Prop)=>A4 (decide (0<(d.out.length:Int))) (AU d.out (A5 ((d.out.length:Int) - 1)) λZ=>J (Z.At==D.At)) (J false)) λO=>A4 O (AU d.out (A5 ((d.out.length:Int) - 1)) λU=>TI d.r U.Val D.Val λW=>AU d.out (A5 ((d.out.length:Int) - 1)) λV=>Q ({ d with out:=(d.out.set ((A5 ((d.out.length:Int) - 1)).toNat) ({ At:=V.At,Val:=W }:BM)) }:AJ)) (DA 24 d.out ([D]) λ_=>Q ({ d with out:=(d.out++([D])) }:AJ))
def TQ (a0:Int) (a1:List (List BM)) (Q:((List BM)×Int)->Prop):Prop:=
 SJ a0 λO=>A4 (!O) (Q (([]:List BM),8)) (CK a1 λU=>A4 U (Q (([]:List BM),6)) (AY (λ(s:(List AX)×Int×(List BM)×Int) next292=>match s with | (s280,s284,s285,s289)=>A4 (decide (s289<(a1.length:Int))) (AU a1 s289 λJ=>GD ({ heads:=s280,r:=s284,out:=s285 }:AJ) J s289 λd=>next292 (d.heads,d.r,d.out,A5 (s289+1))) (AY (λ(s:(List AX)×Int×(List BM)) next413=>match s with | (s404,s408,s409)=>O1 s404 λD=>A4 (decide (0<D)) (FS ({ heads:=s404,r:=s408,out:=s409 }:AJ) λh=>next413 (h.heads,h.r,h.out)) (Q (s409,0))) (s280,s284,s285))) (([]:List AX),a0,([]:List BM),0)))
def YH (a0:Plan) (a1:State) (a2:Int) (Q:((List Int)×Bool)->Prop):Prop:=
 PH a0 a1 λd=>DE (λ(D:Int->Prop)=>A4 (a0.Kind==1) (D (-1)) (A4 (a0.Kind==5) (D 0) (Q (([]:List Int),true)))) λO=>AY (λ(s:(List Int)×Int) next230=>match s with | (s224,s228)=>A4 (decide (s228<(d.A.length:Int))) (AU d.A s228 λJ=>A4 (J==O) (DA 8 s224 ([s228]) λ_=>next230 ((s224++([s228])),A5 (s228+1))) (next230 (s224,A5 (s228+1)))) (JT (A5 (d.High - d.Low)) s224 λh=>Q (h,false))) (([]:List Int),0)
def dP (a0:Int) (Q:Int->Prop):Prop:=
 A4 (a0==1) (Q 4611686018427387904) (A4 (a0==3) (Q 4611686018427387904) (A4 (a0==4) (Q 4611686018427387904) (Q 0)))
def S2 (o0:Int) (a0:BM) (Q:Bool->Prop):Prop:=
 A4 (decide (a0.At<0)) (Q true) (Q (decide (o0<=a0.At)))
def E8 (o0:Int) (a0:List BM) (Q:Int->Prop):Prop:=
 AY (λ(d:Int) next48=>A4 (decide (d<(a0.length:Int))) (AU a0 d λD=>S2 o0 D λh=>A4 h (Q d) (next48 (A5 (d+1)))) (Q (-1))) 0
def CL (o0:Int) (a0:List BM) (Q:Bool->Prop):Prop:=
 E8 o0 a0 λd=>Q (decide (0<=d))
def dQ (a0:Int) (a1:Int) (J:List BM) (Q:(Vec×Int)->Prop):Prop:=
 SJ a0 λW=>A4 (!W) (Q (CJ,8)) (A4 (decide (a1<0)) (Q (CJ,3)) (A4 (decide (4096<a1)) (Q (CJ,3)) (CL a1 J λZ=>A4 Z (Q (CJ,3)) (AY (λ(d:Int) next135=>A4 (decide (d<(J.length:Int))) (A4 (decide (0<d)) (AU J (A5 (d - 1)) λV=>AU J d λU=>A4 (decide (U.At<=V.At)) (Q (CJ,6)) (next135 (A5 (d+1)))) (next135 (A5 (d+1)))) (AY (λ(s:(List B9)×Int) next285=>match s with | (s279,s283)=>A4 (decide (s283<(J.length:Int))) (AU J s283 λD=>RA a0 D.Val λh=>A4 (!h.2) (Q (CJ,12)) (dP a0 λO=>A4 (h.1 != O) (DA 16 s279 ([({ At:=D.At,Val:=h.1 }:B9)]) λ_=>next285 ((s279++([({ At:=D.At,Val:=h.1 }:B9)])),A5 (s283+1))) (next285 (s279,A5 (s283+1))))) (Q (({ N:=a1,Items:=s279 }:Vec),0))) (([]:List B9),0))) 0))))
def IX (a0:Plan) (a1:Int) (d:Int) (Q:Int->Prop):Prop:=
 IW a1 8192 λD=>A4 (!D) (Q 0) (IW d (A5 (a0.N - 1)) λJ=>A4 (!J) (Q 0) (A4 (decide (0<(a0.Draws.length:Int))) (nzP (a0.Draws.length:Int) <| AU a0.Draws ((A5 ((A5 (a1*a0.N))+d)).tmod (a0.Draws.length:Int)) λh=>Q (yX .i64 (shl .i64 h 12) d)) (Q (yX .i64 (shl .i64 0 12) d))))
def N6 (a0:Int) (Q:Int->Prop):Prop:=
 Q (shr .i64 (A5 (a0 - 1)) 1)
def TR (a0:Plan) (a1:State) (U:Int) (h:Int) (Q:(Int×Bool)->Prop):Prop:=
 LJ a1.On h λd=>A4 (a0.Kind==1) (Q (A5 (a1.Low+h),d)) (A4 (a0.Kind==5) (A4 ((Y4 .i64 U 1)==0) (Q (1,d)) (AU a1.A h λO=>N6 U λJ=>IX a0 J (A5 (a1.Low+h)) λD=>Q (D,O==0))) (AU a1.A h λx44=>Q (x44,d)))
def kU (a0:Plan) (a1:State) (D:Int) (Q:Vec->Prop):Prop:=
 PH a0 a1 λd=>AY (λ(s:(List B9)×Int) next99=>match s with | (s93,s97)=>A4 (decide (s97<(A5 (d.High - d.Low)))) (TR a0 d D s97 λh=>A4 h.2 (DA 16 s93 ([({ At:=s97,Val:=h.1 }:B9)]) λ_=>next99 ((s93++([({ At:=s97,Val:=h.1 }:B9)])),A5 (s97+1))) (next99 (s93,A5 (s97+1)))) (Q ({ N:=A5 (d.High - d.Low),Items:=s93 }:Vec))) (([]:List B9),0)
def O2 (a0:Int×Int) (a1:Int×Int) (Q:(Int×Int)->Prop):Prop:=
 Q ((if a1.1 > a0.1 then a1.1 else a0.1),(if (if a1.2<a0.2 then a1.2 else a0.2) > (if a1.1 > a0.1 then a1.1 else a0.1) then (if a1.2<a0.2 then a1.2 else a0.2) else (if a1.1 > a0.1 then a1.1 else a0.1)))
def dR (a0:Int) (a1:Int) (d:Int) (Q:Int->Prop):Prop:=
 A4 (decide (d<0)) (Q 0) (A4 (decide (a1<=d)) (Q 0) (I9 a0 a1 (A5 (d+1)) λD=>I9 a0 a1 d λh=>Q (A5 (D - h))))
def JU (a0:B9) (a1:Int) (Q:Int->Prop):Prop:=
 CR a0.At a1 λd=>Q d
def BQ (a0:List B9) (a1:Int) (Q:(Int×Bool)->Prop):Prop:=
 AY (λ(s:Int×Int) next119=>match s with | (s117,s118)=>A4 (decide (s117<s118)) (AU a0 (A5 (shr .u64 (IntKind.wrap .u64 (A5 (s117+s118))) 1)) λJ=>JU J a1 λD=>A4 (decide (D<0)) (next119 (A5 ((A5 (shr .u64 (IntKind.wrap .u64 (A5 (s117+s118))) 1))+1),s118)) (next119 (s117,A5 (shr .u64 (IntKind.wrap .u64 (A5 (s117+s118))) 1)))) (A4 (decide (s117<(a0.length:Int))) (AU a0 s117 λh=>JU h a1 λd=>Q (s117,d==0)) (Q (s117,false)))) (0,(a0.length:Int))
def MS (a0:Vec) (a1:Int) (Q:(Int×Bool)->Prop):Prop:=
 BQ a0.Items a1 λd=>Q (d.1,d.2)
def PN (o0:Int) (a0:B9) (Q:B9->Prop):Prop:=
 Q ({ At:=A5 (a0.At - o0),Val:=a0.Val }:B9)
def O3 (o0:Int) (a0:Vec) (Q:Vec->Prop):Prop:=
 KU a0 λD=>B6 D.Items λd=>AY (λ(s:(List B9)×Int) next126=>match s with | (s120,s125)=>A4 (decide (s125<(d.length:Int))) (AU s120 s125 λJ=>PN o0 J λh=>AU s120 s125 λO=>next126 ((s120.set s125.toNat h),A5 (s125+1))) (Q ({ N:=D.N,Items:=s120 }:Vec))) (d,0)
def YI (a0:Vec) (a1:Int) (h:Int) (Q:Vec->Prop):Prop:=
 KU a0 λd=>A4 (decide ((if d.N<h then d.N else h)<=(if 0 > a1 then 0 else a1))) (Q CJ) (MS d (if 0 > a1 then 0 else a1) λD=>MS d (if d.N<h then d.N else h) λJ=>slP d.Items D.1 J.1 λ_=>O3 (if 0 > a1 then 0 else a1) ({ N:=d.N,Items:=((d.Items.take J.1.toNat).drop D.1.toNat) }:Vec) λO=>Q ({ N:=A5 ((if d.N<h then d.N else h) - (if 0 > a1 then 0 else a1)),Items:=O.Items }:Vec))
def VF (a0:Vec) (a1:Int) (D:Int) (a3:Int) (W:Int) (a5:Int) (Q:Vec->Prop):Prop:=
 NY a1 λV=>A4 (!V) (Q CJ) (PD D a3 W a5 λZ=>A4 (!Z) (Q CJ) (F7 a0 λJ=>A4 (!J) (Q CJ) (dR a1 D W λO=>A4 (a0.N != O) (Q CJ) (GJ a1 D W λd=>GJ a1 a3 a5 λU=>O2 d U λh=>YI a0 (A5 (h.1 - d.1)) (A5 (h.2 - d.1)) λr87=>Q r87))))
def O4 (a0:Int×Int) (a1:Int×Int) (Q:Int->Prop):Prop:=
 CR a0.1 a1.1 λD=>CR a0.2 a1.2 λh=>J9 ([D,h]:List Int) λd=>Q d
def JD (a0:List Int) (Q:Int->Prop):Prop:=
 A4 (decide ((a0.length:Int)<1)) (False) (AU a0 0 λx16=>AY (λ(s:Int×Int) next54=>match s with | (s52,s53)=>A4 (decide (s53<(a0.length:Int))) (AU a0 s53 λd=>next54 ((if d<s52 then d else s52),A5 (s53+1))) (Q s52)) (x16,1))
def iH (a0:JS) (a1:Int) (Q:Int->Prop):Prop:=
 IU a1 8192 λh=>A4 (!h) (Q 0) (JB a0 λd=>A4 (d != 0) (Q 0) (Q (A5 ((A5 (4*(A5 ((A5 (a0.R+a0.C))+4))))*(A5 (a1+2))))))
def YJ (a0:State) (Q:(List Int)->Prop):Prop:=
 AY (λ(s:(List Int)×Int) next86=>match s with | (s80,s84)=>A4 (decide (s84<(a0.A.length:Int))) (AU a0.A s84 λd=>A4 (d==1) (DA 8 s80 ([A5 (a0.Low+s84)]) λ_=>next86 ((s80++([A5 (a0.Low+s84)])),A5 (s84+1))) (next86 (s80,A5 (s84+1)))) (Q s80)) (([]:List Int),0)
def kV (a0:Int) (Q:Bool->Prop):Prop:=
 A4 (decide (1<=a0)) (Q (decide (a0<=5))) (Q false)
def RJ (a0:B2) (a1:B2) (Q:Bool->Prop):Prop:=
 A4 (decide (a0.From<a1.From)) (Q true) (A4 (a0.From==a1.From) (Q (decide (a0.To<a1.To))) (Q false))
def kW (a0:Int) (Q:AP->Prop):Prop:=
 A4 (decide (a0<0)) (Q ({ Hi:=(-1),Lo:=IntKind.wrap .u64 (a0) }:AP)) (Q ({ Hi:=0,Lo:=IntKind.wrap .u64 (a0) }:AP))
def QQ (a0:AP) (a1:AP) (Q:Int->Prop):Prop:=
 DE (λ(d:Unit->Prop)=>A4 (decide (a0.Hi<a1.Hi)) (Q (-1)) (A4 (a0.Hi==a1.Hi) (A4 (decide (a0.Lo<a1.Lo)) (Q (-1)) (d ())) (d ()))) λ_=>A4 (a0==a1) (Q 0) (Q 1)
def RK (a0:Bool) (Q:AP->Prop):Prop:=
 A4 a0 (Q ({ Hi:=0,Lo:=1 }:AP)) (Q GI)
def dS (a0:AP) (a1:AP) (Q:AP->Prop):Prop:=
 A4 (decide ((IntKind.wrap .u64 (a0.Lo+a1.Lo))<a0.Lo)) (Q ({ Hi:=A5 ((A5 (a0.Hi+a1.Hi))+1),Lo:=IntKind.wrap .u64 (a0.Lo+a1.Lo) }:AP)) (Q ({ Hi:=A5 (a0.Hi+a1.Hi),Lo:=IntKind.wrap .u64 (a0.Lo+a1.Lo) }:AP))
def dT (a0:Int) (a1:AP) (h:AP) (Q:AP->Prop):Prop:=
 DE (λ(d:Bool->Prop)=>A4 (a0==1) (d (a0==1)) (A4 (a0==3) (d (a0==3)) (d (a0==4)))) λJ=>A4 J (QQ h a1 λO=>A4 (decide (O<0)) (Q h) (Q a1)) (A4 (a0==2) (A4 (!(a1==GI)) (RK true λV=>Q V) (RK (!(h==GI)) λU=>Q U)) (A4 (a0==5) (dS a1 h λD=>Q D) (Q GI)))
def SP (a0:AP) (Q:(Int×Bool)->Prop):Prop:=
 A4 (a0.Hi==0) (A4 (decide (0<=(A5 (a0.Lo)))) (Q (A5 (a0.Lo),true)) (A4 (a0.Hi==(-1)) (A4 (decide ((A5 (a0.Lo))<0)) (Q (A5 (a0.Lo),true)) (Q (0,false))) (Q (0,false)))) (A4 (a0.Hi==(-1)) (A4 (decide ((A5 (a0.Lo))<0)) (Q (A5 (a0.Lo),true)) (Q (0,false))) (Q (0,false)))
def QR (a0:Int) (a1:List B2) (Q:((List B2)×Int)->Prop):Prop:=
 kV a0 λr12=>A4 (!r12) (Q (([]:List B2),8)) (AY (λ(s:(List B2)×(List AP)×Int) next2667=>match s with | (s2656,s2660,s2664)=>A4 (decide (s2664<(a1.length:Int))) (DE (λ(J:Int->Prop)=>AY (λ(h:Int) next2870=>A4 (decide (h<(s2656.length:Int))) (AU s2656 h λx2878=>AU a1 s2664 λx2883=>RJ x2878 x2883 λr2891=>A4 r2891 (next2870 (A5 (h+1))) (J h)) (J h)) 0) λd=>AU a1 s2664 λx2915=>kW x2915.W λU=>DE (λ(D:Bool->Prop)=>A4 (decide (d<(s2656.length:Int))) (AU a1 s2664 λx3061=>AU s2656 d λx3070=>RJ x3061 x3070 λV=>D (!V)) (D false)) λs3055=>A4 s3055 (AU s2660 d λx3086=>dT a0 x3086 U λr3090=>AU s2660 d λx3095=>next2667 (s2656,(s2660.set d.toNat r3090),A5 (s2664+1))) (DA 24 s2656 ([({ From:=0,To:=0,W:=0 }:B2)]) λ_=>DA 16 s2660 ([GI]) λ_=>AY (λ(s:(List B2)×(List AP)×Int) next3289=>match s with | (s3280,s3284,s3288)=>A4 (decide (d<s3288)) (AU s3280 (A5 (s3288 - 1)) λx3298=>AU s3280 s3288 λx3303=>AU s3284 (A5 (s3288 - 1)) λZ=>AU s3284 s3288 λx3311=>next3289 ((s3280.set s3288.toNat x3298),(s3284.set s3288.toNat Z),A5 (s3288 - 1))) (AU a1 s2664 λx3316=>AU a1 s2664 λx3325=>AU s3280 d λx3334=>AU s3284 d λx3339=>next2667 ((s3280.set d.toNat ({ From:=x3316.From,To:=x3325.To,W:=0 }:B2)),(s3284.set d.toNat U),A5 (s2664+1)))) ((s2656++([({ From:=0,To:=0,W:=0 }:B2)])),(s2660++([GI])),A5 (((s2656++([({ From:=0,To:=0,W:=0 }:B2)])).length:Int) - 1)))) (AY (λ(s:(List B2)×Int) next3415=>match s with | (s3410,s3414)=>A4 (decide (s3414<(s3410.length:Int))) (AU s2660 s3414 λx3431=>SP x3431 λO=>A4 (!O.2) (Q (([]:List B2),12)) (AU s3410 s3414 λx3441=>next3415 ((s3410.set s3414.toNat ({ x3441 with W:=O.1 }:B2)),A5 (s3414+1)))) (Q (s3410,0))) (s2656,0))) (([]:List B2),([]:List AP),0))
def VG (a0:Graph) (Q:Graph->Prop):Prop:=
 QR 1 a0.Edges λd=>Q ({ N:=a0.N,Edges:=d.1 }:Graph)
def VH (a0:Graph) (Q:Graph->Prop):Prop:=
 AY (λ(s:(List B2)×Int) next94=>match s with | (s88,s92)=>A4 (decide (s92<(a0.Edges.length:Int))) (AU a0.Edges s92 λd=>AU a0.Edges s92 λh=>DA 24 s88 ([({ From:=d.From,To:=h.To,W:=1 }:B2)]) λ_=>next94 ((s88++([({ From:=d.From,To:=h.To,W:=1 }:B2)])),A5 (s92+1))) (VG ({ N:=a0.N,Edges:=s88 }:Graph) λD=>Q D)) (([]:List B2),0)
def SQ (a0:List Int) (Q:(List (List Int))->Prop):Prop:=
 AY (λ(s:(List (List Int))×(List (Int×Int))×Int) next214=>match s with | (s207,s211,s212)=>A4 (decide (s212<(a0.length:Int))) (AU a0 s212 λJ=>AhH s211 J 0 λO U=>DE (λ(D:((List (List Int))×(List (Int×Int))×Int)->Prop)=>A4 (!U) (DA 24 s207 ([[]]:List (List Int)) λ_=>D ((s207++([[]]:List (List Int))),(DY J (s207.length:Int) s211),(s207.length:Int))) (D (s207,s211,O))) λ(d,s267,s268)=>AU d s268 λh=>DA 8 h ([s212]) λ_=>AU d s268 λV=>next214 ((d.set s268.toNat (h++([s212]))),s267,A5 (s212+1))) (Q s207)) (([]:List (List Int)),([]:List (Int×Int)),0)
def SR (a0:Graph) (Q:(List Int)->Prop):Prop:=
 AY (λ(s:(List Int)×Int) next93=>match s with | (s87,s91)=>A4 (decide (s91<a0.N)) (DA 8 s87 ([s91]) λ_=>next93 ((s87++([s91])),A5 (s91+1))) (AY (λ(s:(List Int)×Int) next463=>match s with | (s458,s462)=>A4 (decide (s462<a0.N)) (AY (λ(s:(List Int)×Int) next585=>match s with | (s580,s584)=>A4 (decide (s584<(a0.Edges.length:Int))) (AU a0.Edges s584 λd=>AU s580 d.From λD=>AU s580 d.To λh=>AU s580 d.From λO=>AU (s580.set d.From.toNat (if h<D then h else D)) d.To λJ=>next585 (((s580.set d.From.toNat (if h<D then h else D)).set d.To.toNat (if h<D then h else D)),A5 (s584+1))) (next463 (s580,A5 (s462+1)))) (s458,0)) (Q s458)) (s87,0))) (([]:List Int),0)
def O5 (a0:List Int) (a1:List Int) (Q:Bool->Prop):Prop:=
 A4 ((a0.length:Int) != (a1.length:Int)) (Q false) (AY (λ(d:Int) next55=>A4 (decide (d<(a0.length:Int))) (AU a0 d λD=>AU a1 d λh=>A4 (D != h) (Q false) (next55 (A5 (d+1)))) (Q true)) 0)
def HI (a0:Int) (a1:Int) (Q:Int->Prop):Prop:=
 Q (yX .u64 a0 a1)
def TS (a0:Int) (a1:List Int) (V:List Int) (Q:(List Int)->Prop):Prop:=
 mkP 8 a0 0 λ_=>AY (λ(s:(List Int)×Int) next177=>match s with | (s172,s176)=>A4 (decide (s176<((List.replicate a0.toNat (0:Int)).length:Int))) (DE (λ(h:Int->Prop)=>A4 (decide (s176<(a1.length:Int))) (AU a1 s176 λO=>h O) (h 0)) λd=>A4 (decide (s176<(V.length:Int))) (AU V s176 λJ=>HI d J λU=>AU s172 s176 λW=>next177 ((s172.set s176.toNat U),A5 (s176+1))) (HI d 0 λD=>AU s172 s176 λZ=>next177 ((s172.set s176.toNat D),A5 (s176+1)))) (Q s172)) ((List.replicate a0.toNat 0),0)
def RL (a0:List Int) (a1:List Int) (Q:(List Int)->Prop):Prop:=
 TS (if (a1.length:Int) > (a0.length:Int) then (a1.length:Int) else (a0.length:Int)) a0 a1 λd=>Q d
def QS (a0:Int) (a1:List (List Int)) (O:List Int) (Q:(List Int)->Prop):Prop:=
 N3 a0 λJ=>AY (λ(s:(List Int)×Int) next129=>match s with | (s120,s124)=>A4 (decide (s124<(O.length:Int))) (AU O s124 λd=>AU a1 d λD=>RL s120 D λh=>next129 (h,A5 (s124+1))) (Q s120)) (J,0)
def YK (a0:Graph) (Q:(List (List Int))->Prop):Prop:=
 mkP 24 a0.N ([]:List Int) λ_=>NU a0 λO=>P8 O λh=>AY (λ(s:(List (List Int))×Int) next388=>match s with | (s383,s387)=>A4 (decide (s387<(h.Edges.length:Int))) (AU h.Edges s387 λd=>AU s383 d.From λJ=>DA 8 J ([d.To]) λ_=>AU s383 d.From λV=>next388 ((s383.set d.From.toNat (J++([d.To]))),A5 (s387+1))) (AY (λ(s:(List (List Int))×(List (List Int))×Int) next554=>match s with | (s539,s543,s547)=>A4 (decide (s547<(s383.length:Int))) (AU s543 s547 λU=>JT a0.N U λD=>DA 24 s539 ([D]) λ_=>next554 ((s539++([D])),s543,A5 (s547+1))) (Q s539)) (([]:List (List Int)),s383,0))) ((List.replicate a0.N.toNat ([]:List Int)),0)
def IB (a0:Int) (a1:Int) (Q:Int->Prop):Prop:=
 Q (Y4 .u64 a0 a1)
def TT (a0:Int) (a1:List Int) (V:List Int) (Q:(List Int)->Prop):Prop:=
 mkP 8 a0 0 λ_=>AY (λ(s:(List Int)×Int) next177=>match s with | (s172,s176)=>A4 (decide (s176<((List.replicate a0.toNat (0:Int)).length:Int))) (DE (λ(h:Int->Prop)=>A4 (decide (s176<(a1.length:Int))) (AU a1 s176 λO=>h O) (h 0)) λd=>A4 (decide (s176<(V.length:Int))) (AU V s176 λJ=>IB d J λU=>AU s172 s176 λW=>next177 ((s172.set s176.toNat U),A5 (s176+1))) (IB d 0 λD=>AU s172 s176 λZ=>next177 ((s172.set s176.toNat D),A5 (s176+1)))) (Q s172)) ((List.replicate a0.toNat 0),0)
def YL (a0:List Int) (a1:List Int) (Q:(List Int)->Prop):Prop:=
 TT (a0.length:Int) a0 a1 λd=>Q d
def VI (a0:Graph) (a1:List Int) (Q:Bool->Prop):Prop:=
 N1 a0 λr16=>A4 (r16 != 0) (Q false) (AY (λ(d:Int) next175=>A4 (decide (d<(a1.length:Int))) (AU a1 d λh=>A4 (decide (h<0)) (Q false) (A4 (decide (a0.N<=h)) (Q false) (A4 (decide (0<d)) (AU a1 (A5 (d - 1)) λV=>A4 (decide (h<=V)) (Q false) (next175 (A5 (d+1)))) (next175 (A5 (d+1)))))) (JT a0.N a1 λJ=>YK a0 λr255=>QS a0.N r255 a1 λD=>YL J D λU=>KS U λW=>A4 (W==0) (RL J D λO=>KS O λZ=>Q (Z==a0.N)) (Q false))) 0)
def VJ (a0:Int) (Q:Int->Prop):Prop:=
 DE (λ(d:Int->Prop)=>A4 (decide (4096<a0)) (d 4096) (d a0)) λh=>A4 (decide (h<1)) (Q 0) (Q (A5 ((A5 (h+63)).tdiv 64)))
def dU (a0:Int) (Q:(List Int)->Prop):Prop:=
 VJ a0 λd=>mkP 8 d 0 λ_=>Q (List.replicate d.toNat 0)
def oF (a0:List Int) (a1:Int) (D:Bool) (Q:(List Int)->Prop):Prop:=
 DA 8 ([]:List Int) a0 λ_=>A4 (decide (a1<0)) (Q (([]:List Int)++a0)) (A4 (decide ((a0.length:Int)<=(A5 (a1.tdiv 64)))) (Q (([]:List Int)++a0)) (nnP (IntKind.wrap .u64 (a1.tmod 64)) <| A4 D (AU (([]:List Int)++a0) (A5 (a1.tdiv 64)) λd=>AU (([]:List Int)++a0) (A5 (a1.tdiv 64)) λJ=>Q ((([]:List Int)++a0).set ((A5 (a1.tdiv 64)).toNat) (yX .u64 d (shl .u64 1 (IntKind.wrap .u64 (a1.tmod 64)))))) (AU (([]:List Int)++a0) (A5 (a1.tdiv 64)) λh=>AU (([]:List Int)++a0) (A5 (a1.tdiv 64)) λO=>Q ((([]:List Int)++a0).set ((A5 (a1.tdiv 64)).toNat) (Ae2 .u64 h (shl .u64 1 (IntKind.wrap .u64 (a1.tmod 64))))))))
def dV (a0:List Int) (a1:Int) (Q:(List Int)->Prop):Prop:=
 oF a0 a1 true λd=>Q d
def kX (a0:Int) (a1:List Int) (Q:(List Int)->Prop):Prop:=
 dU a0 λU=>AY (λ(s:(List Int)×Int) next151=>match s with | (s146,s150)=>A4 (decide (s150<(a1.length:Int))) (AU a1 s150 λh=>A4 (decide (0<=h)) (AU a1 s150 λJ=>A4 (decide (J<a0)) (AU a1 s150 λO=>A4 (decide (O<4096)) (AU a1 s150 λd=>dV s146 d λD=>next151 (D,A5 (s150+1))) (next151 (s146,A5 (s150+1)))) (next151 (s146,A5 (s150+1)))) (next151 (s146,A5 (s150+1)))) (Q s146)) (U,0)
def dW (a0:List Int) (a1:Int) (Q:Bool->Prop):Prop:=
 A4 (decide (0<=a1)) (A4 (decide ((A5 (a1.tdiv 64))<(a0.length:Int))) (AU a0 (A5 (a1.tdiv 64)) λd=>nnP (IntKind.wrap .u64 (a1.tmod 64)) <| Q ((Y4 .u64 (shr .u64 d (IntKind.wrap .u64 (a1.tmod 64))) 1)==1)) (Q false)) (Q false)
def TU (a0:Plan) (a1:Int) (Q:(Int×Bool)->Prop):Prop:=
 A4 (a0.Kind==3) (Q (a1,true)) (A4 (a0.Kind==5) (Q (0,false)) (DE (λ(h:Bool->Prop)=>A4 (a0.Kind==4) (h (a1==a0.Source)) (h false)) λD=>A4 D (Q (1,true)) (DE (λ(d:(Bool×Bool)->Prop)=>A4 (a1==a0.Source) (d (true,true)) (d (false,a0.Kind==4))) λ(J,s21)=>A4 s21 (Q (0,J)) (A4 (a0.Kind==1) (Q ((-1),false)) (Q (4611686018427387904,false))))))
def dX (a0:BF) (a1:Vec) (Q:(BF×Vec)->Prop):Prop:=
 DE (λ(h:(Int×Int×(List Int)×(List Int)×(List Int)×(List Int))->Prop)=>TO a0 λJ=>A4 (!J) (h (0,0,([]:List Int),([0]:List Int),([]:List Int),([]:List Int))) (h (a0.Rows,a0.Cols,a0.At,a0.Start,a0.Row,a0.Val))) λ(d,s44,s45,s49,s53,s57)=>F7 a1 λD=>A4 (!D) (Q (({ Rows:=d,Cols:=s44,At:=s45,Start:=s49,Row:=s53,Val:=s57 }:BF),CJ)) (Q (({ Rows:=d,Cols:=s44,At:=s45,Start:=s49,Row:=s53,Val:=s57 }:BF),a1))
def HJ (a0:Int) (Q:(Int×Int)->Prop):Prop:=
 Q (shr .u64 (shl .u64 a0 32) 32,shr .u64 a0 32)
def SS (a0:Int) (a1:Int) (Q:AP->Prop):Prop:=
 HJ a0 λh=>HJ a1 λd=>HJ (IntKind.wrap .u64 (h.1*d.1)) λU=>HJ (IntKind.wrap .u64 ((IntKind.wrap .u64 (h.2*d.1))+U.2)) λJ=>HJ (IntKind.wrap .u64 ((IntKind.wrap .u64 (h.1*d.2))+J.1)) λD=>HJ (IntKind.wrap .u64 (h.1*d.1)) λO=>Q ({ Hi:=A5 (IntKind.wrap .u64 ((IntKind.wrap .u64 ((IntKind.wrap .u64 (h.2*d.2))+J.2))+D.2)),Lo:=yX .u64 (shl .u64 D.1 32) O.1 }:AP)
def X9 (a0:Int) (Q:Int->Prop):Prop:=
 A4 (decide (a0<0)) (Q (IntKind.wrap .u64 (0 - (IntKind.wrap .u64 (a0))))) (Q (IntKind.wrap .u64 (a0)))
def kY (a0:AP) (a1:AP) (Q:AP->Prop):Prop:=
 TH (decide (a0.Lo<a1.Lo)) λd=>Q ({ Hi:=A5 (IntKind.wrap .u64 ((IntKind.wrap .u64 ((IntKind.wrap .u64 (a0.Hi)) - (IntKind.wrap .u64 (a1.Hi)))) - d)),Lo:=IntKind.wrap .u64 (a0.Lo - a1.Lo) }:AP)
def kZ (a0:Int) (a1:Int) (Q:AP->Prop):Prop:=
 X9 a0 λh=>X9 a1 λJ=>SS h J λd=>A4 (!((decide (a0<0))==(decide (a1<0)))) (kY GI d λD=>Q D) (Q d)
def bB (a0:Int) (a1:Int) (O:Int) (Q:AP->Prop):Prop:=
 A4 (a0==2) (A4 (a1 != 0) (MO (O != 0) λr22=>Q r22) (MO false λr26=>Q r26)) (A4 (a0==5) (kZ a1 O λr31=>Q r31) (DE (λ(J:Unit->Prop)=>SJ a0 λZ=>A4 Z (A4 (decide (4611686018427387904<=(if O > a1 then O else a1))) (NS 4611686018427387904 λr62=>Q r62) (J ())) (J ())) λ_=>DE (λ(W:(Int×Int)->Prop)=>A4 (a0==1) (NS a1 λD=>W (D.Hi,D.Lo)) (A4 (a0==4) (W (0,0)) (A4 (a0==3) (NS a1 λr99=>Q r99) (Q GI)))) λ(s88,s89)=>NS 4611686018427387904 λh=>NS O λV=>aW ({ Hi:=s88,Lo:=s89 }:AP) V λd=>R8 h d λU=>Q U))
def VK (a0:Int) (a1:List B9) (J:Int) (O:List Int) (U:Bool) (Q:(List BM)->Prop):Prop:=
 AY (λ(s:(List BM)×Int) next118=>match s with | (s112,s116)=>A4 (decide (s116<(a1.length:Int))) (AU a1 s116 λd=>LJ O d.At λD=>A4 (!(D==U)) (bB a0 d.Val J λh=>DA 24 s112 ([({ At:=d.At,Val:=h }:BM)]) λ_=>next118 ((s112++([({ At:=d.At,Val:=h }:BM)])),A5 (s116+1))) (next118 (s112,A5 (s116+1)))) (Q s112)) (([]:List BM),0)
def TV (a0:BF) (a1:Int) (Q:(BF×Int)->Prop):Prop:=
 Q (a0,a1)
def PO (o0:Nat) (o1:List B9) (o2:BF) (o3:Int) (Y:Nat->(List B9)->B9->((Bool×Nat×(List B9))->Prop)->Prop) (Q:(Nat×(List B9))->Prop):Prop:=
 AU o2.Start o3 λO=>AY (λ(s:(List B9)×Int×Nat) next172=>match s with | (s166,s170,s171)=>AU o2.Start (A5 (o3+1)) λh=>A4 (decide (s170<h)) (AU o2.Row s170 λD=>AU o2.Val s170 λJ=>Y s171 s166 ({ At:=D,Val:=J }:B9) λd=>A4 (!d.1) (Q (d.2.1,d.2.2)) (next172 (d.2.2,A5 (s170+1),d.2.1))) (Q (s171,s166))) (o1,O,o0)
def DT (o0:BF) (o1:Int) (Q:(List B9)->Prop):Prop:=
 PO 0 ([]:List B9) o0 o1 (λ(J:Nat) (d:List B9) (D:B9) (O:(Bool×Nat×(List B9))->Prop)=>eqP J 0 (DA 16 d ([D]) λ_=>O (true,0,(d++([D]))))) λh=>eqP h.1 0 (Q h.2)
def ER (o0:BF) (o1:Int) (Q:(List B9)->Prop):Prop:=
 DT o0 o1 λd=>Q d
def VL (a0:BF) (a1:Int) (Q:(List B9)->Prop):Prop:=
 X8 a0 λh=>TP h a1 λD=>A4 (decide (D<0)) (Q ([]:List B9)) (TV h D λd=>ER d.1 d.2 λJ=>Q J)
def dY (a0:Int) (a1:BF) (V:Vec) (W:List Int) (Z:Bool) (Q:((List BM)×Int)->Prop):Prop:=
 dX a1 V λd=>SJ a0 λU=>A4 (!U) (Q (([]:List BM),8)) (A4 (d.2.N != d.1.Cols) (Q (([]:List BM),4)) (AY (λ(s:(List (List BM))×Int) next192=>match s with | (s186,s190)=>A4 (decide (s190<(d.2.Items.length:Int))) (AU d.2.Items s190 λD=>VL d.1 D.At λO=>VK a0 O D.Val W Z λh=>DA 24 s186 ([h]) λ_=>next192 ((s186++([h])),A5 (s190+1))) (TQ a0 s186 λJ=>Q (J.1,J.2))) (([]:List (List BM)),0)))
def dZ (a0:Rows) (a1:Dense) (Q:(Rows×Dense)->Prop):Prop:=
 DE (λ(d:Rows->Prop)=>PC a0 λO=>A4 (!O) (VD a0 (0,0) (0,0) λU=>d U) (d a0)) λh=>RH a1 λD=>A4 (!D) (PK 0 λJ=>Q (h,J)) (Q (h,a1))
def TW (a0:Int) (Q:(Bool×Int×AP)->Prop):Prop:=
 Q (false,a0,GI)
def PP (o0:Bool) (o1:Int) (o2:AP) (a0:AP) (Q:(Bool×AP)->Prop):Prop:=
 A4 o0 (TI o1 o2 a0 λd=>Q (true,d)) (Q (true,a0))
def PQ (o0:AP) (o1:Bool) (Q:(AP×Bool)->Prop):Prop:=
 Q (o0,o1)
def lC (a0:Int) (a1:Rows) (a2:Int) (a3:Dense) (Q:(AP×Bool)->Prop):Prop:=
 TW a0 λh=>AU a1.Start a2 λx53=>AY (λ(s:Bool×Int×Int×Int) next239=>match s with | (s235,s236,s237,s238)=>AU a1.Start (A5 (a2+1)) λO=>A4 (decide (s238<O)) (AU a1.Col s238 λJ=>LJ a3.Has J λV=>A4 V (AU a1.Val s238 λU=>AU a3.Vals J λZ=>bB a0 U Z λW=>PP s235 h.2.1 ({ Hi:=s236,Lo:=s237 }:AP) W λd=>next239 (d.1,d.2.Hi,d.2.Lo,A5 (s238+1))) (next239 (s235,s236,s237,A5 (s238+1)))) (PQ ({ Hi:=s236,Lo:=s237 }:AP) s235 λD=>Q (D.1,D.2))) (h.1,h.2.2.Hi,h.2.2.Lo,x53)
def TX (a0:Int) (a1:List Int) (d:Bool) (Q:(Int×(List Int)×Bool)->Prop):Prop:=
 Q (a0,a1,d)
def PR (o0:Nat) (o1:Int) (o2:Rows) (o3:Dense) (o4:List BM) (o5:Int) (o6:List Int) (o7:Bool) (Y:Nat->Int->Rows->Dense->(List BM)->Int->((Bool×Nat×(List BM))->Prop)->Prop) (Q:(Nat×(List BM))->Prop):Prop:=
 AY (λ(s:(List BM)×Int×Nat) next113=>match s with | (s107,s111,s112)=>A4 (decide (s111<o5)) (LJ o6 s111 λh=>A4 (!(h==o7)) (Y s112 o1 o2 o3 s107 s111 λd=>A4 (!d.1) (Q (d.2.1,d.2.2)) (next113 (d.2.2,A5 (s111+1),d.2.1))) (next113 (s107,A5 (s111+1),s112))) (Q (s112,s107))) (o4,0,o0)
def eA (a0:Int) (a1:Rows) (a2:Dense) (a3:List Int) (a4:Bool) (Q:((List BM)×Int)->Prop):Prop:=
 dZ a1 a2 λJ=>SJ a0 λr59=>A4 (!r59) (Q (([]:List BM),8)) (A4 (J.2.N != J.1.Cols) (Q (([]:List BM),4)) (TX J.1.Rows a3 a4 λU=>PR 0 a0 J.1 J.2 ([]:List BM) U.1 U.2.1 U.2.2 (λ(Z:Nat) (y180:Int) (V:Rows) (W:Dense) (d:List BM) (h:Int) (Qy:(Bool×Nat×(List BM))->Prop)=>eqP Z 0 (lC y180 V h W λD=>A4 D.2 (DA 24 d ([({ At:=h,Val:=D.1 }:BM)]) λ_=>Qy (true,0,(d++([({ At:=h,Val:=D.1 }:BM)])))) (Qy (true,0,d)))) λO=>eqP O.1 0 (Q (O.2,0))))
def ST (a0:iB) (Q:Dense->Prop):Prop:=
 PL a0 λh=>bA h λd=>Q d
def XA (a0:Vec) (a1:Int) (Q:(Int×Bool)->Prop):Prop:=
 KU a0 λd=>MS d a1 λh=>A4 (!h.2) (Q (0,false)) (AU d.Items h.1 λD=>Q (D.Val,true))
def RM (a0:Plan) (a1:State) (V:Int) (Z:Int) (D:Int) (U:Bool) (Q:(Int×Int×Bool)->Prop):Prop:=
 AU a1.A Z λh=>AU a1.B Z λd=>A4 (a0.Kind==1) (A4 U (A4 (h==(-1)) (Q (V,D,true)) (Q (h,d,false))) (Q (h,d,false))) (DE (λ(J:Bool->Prop)=>A4 (a0.Kind==2) (J (a0.Kind==2)) (J (a0.Kind==3))) λW=>A4 W (A4 U (A4 (decide (D<h)) (Q (D,d,true)) (Q (h,d,false))) (Q (h,d,false))) (A4 (a0.Kind==4) (Q (D,d,D != 0)) (A4 (a0.Kind==5) (A4 (h != 0) (Q (h,d,false)) (DE (λ(O:Bool->Prop)=>A4 ((Y4 .i64 V 1)==0) (O U) (O false)) λs68=>A4 s68 (Q (2,d,false)) (A4 ((Y4 .i64 V 1)==1) (A4 (!U) (Q (1,d,true)) (N6 V λr77=>IX a0 r77 (A5 (a1.Low+Z)) λr81=>A4 (decide (r81<D)) (Q (1,d,true)) (Q (h,d,false)))) (Q (h,d,false))))) (Q (h,d,false)))))
def PS (o0:Plan) (o1:Int) (a0:Int) (Q:(Int×Int×Bool)->Prop):Prop:=
 TU o0 (A5 (o1+a0)) λd=>Q (d.1,(-1),d.2)
def PT (o0:Plan) (o1:Int) (a0:State) (a1:Int) (Q:State->Prop):Prop:=
 AY (λ(s:(List Int)×(List Int)×(List Int)×Int) next150=>match s with | (s134,s138,s142,s146)=>A4 (decide (s146<a1)) (PS o0 o1 s146 λd=>DA 8 s134 ([d.1]) λ_=>DA 8 s138 ([d.2.1]) λ_=>A4 d.2.2 (DA 8 s142 ([s146]) λ_=>next150 ((s134++([d.1])),(s138++([d.2.1])),(s142++([s146])),A5 (s146+1))) (next150 ((s134++([d.1])),(s138++([d.2.1])),s142,A5 (s146+1)))) (JT a1 s142 λh=>Q ({ a0 with A:=s134,B:=s138,On:=h }:State))) (([]:List Int),([]:List Int),([]:List Int),0)
def YM (a0:Plan) (a1:Int) (d:Int) (Q:State->Prop):Prop:=
 PA a0 λh=>A4 (h != 0) (Q FY) (A4 (decide (a1<0)) (Q FY) (A4 (decide (d<a1)) (Q FY) (A4 (decide (a0.N<d)) (Q FY) (PT a0 a1 ({ Low:=a1,High:=d,A:=([]:List Int),B:=([]:List Int),On:=([]:List Int) }:State) (A5 (d - a1)) λD=>Q D))))
def MH (o0:Int) (o1:Int) (o2:Int) (o3:Int) (a0:Int) (Q:Int->Prop):Prop:=
 GJ o0 o1 a0 λD=>GJ o0 o2 o3 λh=>O2 D h λd=>Q (A5 (d.2 - d.1))
def S3 (o0:Int) (o1:Int) (o2:Int) (o3:Int) (a0:List Vec) (a1:Int) (Q:(Vec×Int)->Prop):Prop:=
 A4 ((a0.length:Int) != a1) (Q (CJ,4)) (AY (λ(d:Int) next108=>A4 (decide (d<(a0.length:Int))) (AU a0 d λD=>F7 D λJ=>A4 (!J) (Q (CJ,4)) (MH o0 o1 o2 o3 d λO=>A4 (D.N != O) (Q (CJ,4)) (next108 (A5 (d+1))))) (YE a0 λh=>Q (h.1,h.2))) 0)
def eD (a0:Int) (a1:Int) (J:Int) (O:Int) (U:List Vec) (Q:(Vec×Int)->Prop):Prop:=
 NY a0 λh=>A4 (!h) (Q (CJ,3)) (PD a1 J 0 O λD=>A4 (!D) (Q (CJ,3)) (S3 a0 a1 J O U a1 λd=>Q (d.1,d.2)))
def KV (a0:GP) (Q:((List BM)×Int)->Prop):Prop:=
 ST a0.X λh=>eA a0.Ring a0.Rows h a0.Set a0.Others λd=>Q (d.1,d.2)
def KW (a0:GP) (Q:((List BM)×Int)->Prop):Prop:=
 PL a0.X λh=>dY a0.Ring a0.Cols h a0.Set a0.Others λd=>Q (d.1,d.2)
def VM (a0:GP) (Q:((List BM)×Int×Int)->Prop):Prop:=
 PL a0.X λO=>dN a0.Cols O λU=>dO a0.Rows λJ=>LI a0.Way U J λD=>A4 (D==2) (KV a0 λh=>A4 (h.2 != 0) (Q (([]:List BM),0,h.2)) (Q (h.1,D,h.2))) (KW a0 λd=>A4 (d.2 != 0) (Q (([]:List BM),0,d.2)) (Q (d.1,D,d.2)))
def O6 (o0:Vec) (o1:Plan) (o2:State) (o3:Int) (a0:Int) (Q:(Int×Int×Bool)->Prop):Prop:=
 XA o0 a0 λh=>RM o1 o2 o3 a0 h.1 h.2 λd=>Q (d.1,d.2.1,d.2.2)
def LK (o0:Vec) (o1:Plan) (o2:State) (o3:Int) (a0:State) (a1:Int) (Q:State->Prop):Prop:=
 AY (λ(s:(List Int)×(List Int)×(List Int)×Int) next159=>match s with | (s143,s147,s151,s155)=>A4 (decide (s155<a1)) (O6 o0 o1 o2 o3 s155 λd=>DA 8 s143 ([d.1]) λ_=>DA 8 s147 ([d.2.1]) λ_=>A4 d.2.2 (DA 8 s151 ([s155]) λ_=>next159 ((s143++([d.1])),(s147++([d.2.1])),(s151++([s155])),A5 (s155+1))) (next159 ((s143++([d.1])),(s147++([d.2.1])),s151,A5 (s155+1)))) (JT a1 s151 λh=>Q ({ a0 with A:=s143,B:=s147,On:=h }:State))) (([]:List Int),([]:List Int),([]:List Int),0)
def VN (a0:Plan) (a1:State) (a2:Int) (J:Vec) (Q:State->Prop):Prop:=
 PH a0 a1 λd=>DE (λ(h:Bool->Prop)=>F7 J λZ=>A4 (!Z) (h true) (h (J.N != (A5 (d.High - d.Low))))) λO=>A4 O (B8 d.A λV=>B8 d.B λU=>BW d.On λW=>Q ({ d with A:=V,B:=U,On:=W }:State)) (LK J a0 d a2 d (A5 (d.High - d.Low)) λD=>Q D)
def CF (o0:A1) (a0:Int) (a1:Int) (Q:Int->Prop):Prop:=
 iF o0.grid.j a0 a1 λd=>Q d
def CE (o0:A1) (a0:AO) (Q:A1->Prop):Prop:=
 CF o0 o0.place.i o0.place.j λd=>DA 136 o0.out ([({ a0 with From:=d }:AO)]) λ_=>Q ({ o0 with out:=(o0.out++([({ a0 with From:=d }:AO)])) }:A1)
def DB (o0:A1) (a0:Int) (a1:Bool) (Q:A1->Prop):Prop:=
 A4 (!a1) (dL o0.plan o0.aside a0 λd=>CE ({ o0 with waits:=true }:A1) ({ Kind:=4,From:=0,To:=0,Seq:=0,Round:=a0,Vec:=CJ,Sums:=([]:List BM),Triples:=([]:List A2),N:=d,Over:=a1 }:AO) λD=>Q D) (CE ({ o0 with waits:=true }:A1) ({ Kind:=4,From:=0,To:=0,Seq:=0,Round:=a0,Vec:=CJ,Sums:=([]:List BM),Triples:=([]:List A2),N:=0,Over:=a1 }:AO) λh=>Q h)
def O7 (a0:JS) (a1:Int) (J:Int) (Q0:Int->Prop) (Q1:(Int×A1)->Prop) (Q2:(Int×A1)->Prop):Prop:=
 JB a0 λV=>A4 (V != 0) (Q0 V) (A4 (decide (a1<0)) (False) (A4 (decide (a0.R<=a1)) (False) (A4 (decide (J<0)) (False) (A4 (decide (a0.C<=J)) (False) (RB a0.Plan a0.Graph λr36=>CZ a0.Choices λr60=>B8 a0.Plan.Draws λU=>dJ r36.1 a0.R a0.C a1 J λd=>rX d λD=>A4 (J==0) (I9 a0.Plan.N a0.R a1 λW=>I9 a0.Plan.N a0.R (A5 (a1+1)) λZ=>YM a0.Plan W Z λh=>DB ({ place:=({ i:=a1,j:=J }:BB),plan:=({ Kind:=a0.Plan.Kind,N:=a0.Plan.N,Source:=a0.Plan.Source,Length:=a0.Plan.Length,Draws:=U }:Plan),grid:=({ i:=a0.R,j:=a0.C }:BB),limit:=a0.Limit,choices:=r60,rows:=d,cols:=D,out:=([]:List AO),share:=1,shares:=([]:List (Int×Vec)),spread:=1,round:=0,status:=0,has:=h,aside:=h,waits:=false,begun:=false,sums:=([]:List BM),came:=([]:List (Int×Bool)),vote:=0,votes:=([]:List (Int×AO)),closed:=false }:A1) 0 false λO=>Q1 (0,O)) (Q2 (0,({ place:=({ i:=a1,j:=J }:BB),plan:=({ Kind:=a0.Plan.Kind,N:=a0.Plan.N,Source:=a0.Plan.Source,Length:=a0.Plan.Length,Draws:=U }:Plan),grid:=({ i:=a0.R,j:=a0.C }:BB),limit:=a0.Limit,choices:=r60,rows:=d,cols:=D,out:=([]:List AO),share:=1,shares:=([]:List (Int×Vec)),spread:=1,round:=0,status:=0,has:=FY,aside:=FY,waits:=false,begun:=false,sums:=([]:List BM),came:=([]:List (Int×Bool)),vote:=0,votes:=([]:List (Int×AO)),closed:=false }:A1))))))))
def IC (o0:A1) (Q:Int->Prop):Prop:=
 Q o0.round
def JE (o0:A3) (a0:Option Nat) (Q:Int->Prop):Prop:=
 rG a0 False λb=>tK o0 b λx=>IC x  λd=>Q d
def ID (o0:A1) (Q:State->Prop):Prop:=
 B8 o0.has.A λh=>B8 o0.has.B λD=>BW o0.has.On λd=>Q ({ Low:=o0.has.Low,High:=o0.has.High,A:=h,B:=D,On:=d }:State)
def JG (o0:A3) (a0:Option Nat) (Q:State->Prop):Prop:=
 rG a0 False λb=>tK o0 b λx=>ID x  λd=>Q d
def GL (o0:AL) (o1:A3) (Q:State->Prop):Prop:=
 AY (λ(s:(List Int)×(List Int)×(List Int)×Int) next922=>match s with | (s906,s910,s914,s918)=>A4 (decide (s918<(o0.owners.length:Int))) (AU o0.owners s918 λO=>JG o1 O λd=>DA 8 s906 d.A λ_=>DA 8 s910 d.B λ_=>YC d.On λD=>AY (λ(s:(List Int)×Int) next1061=>match s with | (s1056,s1060)=>A4 (decide (s1060<(D.length:Int))) (AU D s1060 λh=>DA 8 s1056 ([A5 (d.Low+h)]) λ_=>next1061 ((s1056++([A5 (d.Low+h)])),A5 (s1060+1))) (next922 ((s906++d.A),(s910++d.B),s1056,A5 (s918+1)))) (s914,0)) (JT o0.setup.Plan.N s914 λJ=>Q ({ Low:=0,High:=o0.setup.Plan.N,A:=s906,B:=s910,On:=J }:State))) (([]:List Int),([]:List Int),([]:List Int),0)
def EM (o0:AL) (o1:A3) (Q:AL->Prop):Prop:=
 AY (λ(d:Int) next164=>A4 (decide (d<(o0.owners.length:Int))) (AU o0.owners d λJ=>JE o1 J λD=>A4 (D != (o0.history.length:Int)) (Q o0) (next164 (A5 (d+1)))) (GL o0 o1 λh=>DA 88 o0.history ([h]) λ_=>Q ({ o0 with history:=(o0.history++([h])) }:AL))) 0
def SU (o0:A3) (o1:AV) (a0:JS) (Q0:(Int×A3)->Prop) (Q1:(Int×A3×AL)->Prop):Prop:=
 JB a0 λZ=>A4 (Z != 0) (Q0 (Z,o0)) (AY (λ(s:(List (Option Nat))×(List (Option Nat))×Int×A3) next761=>match s with | (s749,s753,s757,s758)=>A4 (decide (s757<(A5 (a0.R*a0.C)))) (X7 a0.C s757 λW=>TN a0.C s757 λr928=>O7 a0 W r928 (λ_=>False) (λD=>A4 (D.1 != 0) (Q0 (D.1,s758)) (Aw0 s758 λh=>DA 8 s749 ([(some h)]) λ_=>TN a0.C s757 λV=>A4 (V==0) (DA 8 s753 ([(some h)]) λ_=>next761 ((s749++([(some h)])),(s753++([(some h)])),A5 (s757+1),((h,D.2) :: s758))) (next761 ((s749++([(some h)])),s753,A5 (s757+1),((h,D.2) :: s758))))) (λJ=>A4 (J.1 != 0) (Q0 (J.1,s758)) (Aw0 s758 λd=>DA 8 s749 ([(some d)]) λ_=>TN a0.C s757 λO=>A4 (O==0) (DA 8 s753 ([(some d)]) λ_=>next761 ((s749++([(some d)])),(s753++([(some d)])),A5 (s757+1),((d,J.2) :: s758))) (next761 ((s749++([(some d)])),s753,A5 (s757+1),((d,J.2) :: s758)))))) (EM ({ setup:=a0,workers:=s749,boxes:=([]:List ((Int×Int)×(Option Nat))),owners:=s753,history:=([]:List State) }:AL) s758 λU=>Q1 (0,s758,U))) (([]:List (Option Nat)),([]:List (Option Nat)),0,o0))
def ED (o0:A1) (Q:Int->Prop):Prop:=
 Q o0.status
def DM (o0:A3) (a0:Option Nat) (Q:Int->Prop):Prop:=
 rG a0 False λb=>tK o0 b λx=>ED x  λd=>Q d
def H5 (o0:A3) (a0:Option Nat) (Q:Bool->Prop):Prop:=
 DM o0 a0 λd=>Q (d==0)
def BS (o0:A3) (a0:List (Option Nat)) (Q:Int->Prop):Prop:=
 AY (λ(d:Int) next47=>A4 (decide (d<(a0.length:Int))) (AU a0 d λD=>H5 o0 D λh=>A4 h (Q d) (next47 (A5 (d+1)))) (Q (-1))) 0
def BN (o0:A3) (a0:List (Option Nat)) (Q:Bool->Prop):Prop:=
 BS o0 a0 λd=>Q (decide (0<=d))
def CP (o0:AL) (o1:A3) (Q:Bool->Prop):Prop:=
 BN o1 o0.owners λd=>Q (!d)
def G1 (o0:AL) (o1:A3) (a0:Int) (Q:Bool->Prop):Prop:=
 A4 (decide (0<=a0)) (Q (decide (a0<(o0.workers.length:Int)))) (Q false)
def EW (o0:A1) (Q:Int->Prop):Prop:=
 Q (o0.out.length:Int)
def JH (o0:A1) (Q:(AO×Bool)->Prop):Prop:=
 EW o0 λh=>A4 (h==0) (Q (({ Kind:=0,From:=0,To:=0,Seq:=0,Round:=0,Vec:=CJ,Sums:=([]:List BM),Triples:=([]:List A2),N:=0,Over:=false }:AO),false)) (AU o0.out 0 λD=>YD D λd=>Q (d,true))
def K3 (o0:A3) (a0:Option Nat) (Q:(AO×Bool)->Prop):Prop:=
 rG a0 False λb=>tK o0 b λx=>JH x  λd=>Q (d.1,d.2)
def YN (a0:Int) (Q0:Int->Prop) (d:(Int×BR)->Prop):Prop:=
 A4 (decide (a0<1)) (False) (A4 (decide (64<a0)) (False) (d (0,({ room:=a0,row:=([]:List Int),by_:=([]:List (Int×AO)),often:=([]:List (Int×Int)),sent:=0,taken:=0 }:BR))))
def EX (o0:AL) (o1:A3) (o2:AV) (a0:Int) (a1:Int) (Z:(AL×AV)->Prop) (W:((Option Nat)×AL×AV)->Prop):Prop:=
 G1 o0 o1 a0 λV=>A4 (!V) (Z (o0,o2)) (G1 o0 o1 a1 λO=>A4 (!O) (Z (o0,o2)) (lkP o0.boxes (a0,a1) none λJ=>A4 J.isNone (YN o0.setup.Room (λ_=>False) (λU=>Aw0 o2 λd=>lkP (DY (a0,a1) (some d) o0.boxes) (a0,a1) none λD=>W (D,({ o0 with boxes:=(DY (a0,a1) (some d) o0.boxes) }:AL),((d,U.2) :: o2)))) (lkP o0.boxes (a0,a1) none λh=>W (h,o0,o2))))
def O8 (o0:BR) (Q:Bool->Prop):Prop:=
 Q (decide (o0.room<=(o0.row.length:Int)))
def PU (o0:BR) (a0:Int) (Q:BR->Prop):Prop:=
 DA 8 o0.row ([a0]) λ_=>lkP o0.often a0 0 λd=>Q ({ o0 with row:=(o0.row++([a0])),often:=(DY a0 (A5 (d+1)) o0.often) }:BR)
def KG (o0:BR) (a0:AO) (Q:(Int×BR)->Prop):Prop:=
 O8 o0 λD=>A4 D (Q (9,o0)) (aZ a0 λh=>PU ({ o0 with by_:=(DY o0.sent ({ h with Seq:=o0.sent }:AO) o0.by_) }:BR) o0.sent λd=>Q (0,({ d with sent:=A5 (d.sent+1) }:BR)))
def LL (o0:AV) (a0:Option Nat) (a1:AO) (Q:(Int×AV)->Prop):Prop:=
 rG a0 False λb=>tK o0 b λx=>KG x a1 λd=>Q (d.1,(b,d.2) :: FK b o0)
def JI (o0:A1) (Q:A1->Prop):Prop:=
 EW o0 λd=>A4 (decide (0<d)) (slP o0.out 1 d λ_=>Q ({ o0 with out:=((o0.out.take d.toNat).drop (Int.toNat 1)) }:A1)) (Q o0)
def H6 (o0:A3) (a0:Option Nat) (Q:A3->Prop):Prop:=
 rG a0 False λb=>tK o0 b λx=>JI x  λd=>Q ((b,d) :: FK b o0)
def JJ (o0:AL) (o1:A3) (o2:AV) (a0:Int) (Q:(Bool×AL×A3×AV)->Prop):Prop:=
 G1 o0 o1 a0 λU=>A4 (!U) (Q (false,o0,o1,o2)) (AU o0.workers a0 λO=>K3 o1 O λD=>A4 (!D.2) (Q (false,o0,o1,o2)) (EX o0 o1 o2 a0 D.1.To (λ_=>False) (λh=>LL h.2.2 h.1 D.1 λd=>A4 (d.1 != 0) (Q (false,h.2.1,o1,d.2)) (H6 o1 O λJ=>Q (true,h.2.1,J,d.2)))))
def IE (o0:BR) (Q:Int->Prop):Prop:=
 Q (o0.row.length:Int)
def HB (o0:AV) (a0:Option Nat) (Q:Int->Prop):Prop:=
 rG a0 False λb=>tK o0 b λx=>IE x  λd=>Q d
def HY (o0:AL) (o1:AV) (Q:(List (Int×Int))->Prop):Prop:=
 AY (λ(s:(List ((Int×Int)×(Option Nat)))×(List (Int×Int))) next114=>match s with | (s108,s109)=>zF s108 (AeE O4 s109 λJ=>Q J) (λd h=>HB o1 d.2 λD=>A4 (decide (0<D)) (DA 16 s109 ([d.1]) λ_=>next114 (h,(s109++([d.1])))) (next114 (h,s109)))) (o0.boxes,([]:List (Int×Int)))
def K4 (o0:Int) (a0:Int) (Q:Bool->Prop):Prop:=
 Q (a0==o0)
def EI (o0:List Int) (o1:Int) (Q:Int->Prop):Prop:=
 AY (λ(d:Int) next40=>A4 (decide (d<(o0.length:Int))) (AU o0 d λh=>K4 o1 h λD=>A4 D (Q d) (next40 (A5 (d+1)))) (Q (-1))) 0
def HZ (o0:BR) (Q:Int->Prop):Prop:=
 IE o0 λh=>A4 (h==0) (Q (-1)) (JD o0.row λD=>EI o0.row D λd=>Q d)
def MT (o0:AV) (a0:Option Nat) (Q:Int->Prop):Prop:=
 rG a0 False λb=>tK o0 b λx=>HZ x  λd=>Q d
def S4 (o0:BR) (a0:Int) (Q:Int->Prop):Prop:=
 A4 (decide (a0<0)) (Q 3) (A4 (decide ((o0.row.length:Int)<=a0)) (Q 3) (Q 0))
def FA (o0:List Int) (a0:Int) (a1:Int) (Q:(List Int)->Prop):Prop:=
 slP o0 a0 a1 λ_=>A4 (a0==a1) (Q o0) (slP o0 0 a0 λ_=>slP o0 a1 (o0.length:Int) λ_=>Q (o0.take a0.toNat++o0.drop a1.toNat))
def PV (o0:BR) (a0:Int) (Q:(AO×BR)->Prop):Prop:=
 AU o0.row a0 λx21=>lkP o0.by_ x21 ({ Kind:=0,From:=0,To:=0,Seq:=0,Round:=0,Vec:=CJ,Sums:=([]:List BM),Triples:=([]:List A2),N:=0,Over:=false }:AO) λh=>FA o0.row a0 (A5 (a0+1)) λD=>lkP o0.often x21 0 λd=>lkP (DY x21 (A5 (d - 1)) o0.often) x21 0 λJ=>A4 (J==0) (Q (h,({ o0 with row:=D,by_:=(FK x21 o0.by_),often:=(FK x21 (DY x21 (A5 (d - 1)) o0.often)) }:BR))) (Q (h,({ o0 with row:=D,often:=(DY x21 (A5 (d - 1)) o0.often) }:BR)))
def KH (o0:BR) (a0:Int) (Q:(AO×Bool×Int×BR)->Prop):Prop:=
 S4 o0 a0 λh=>A4 (h != 0) (Q (({ Kind:=0,From:=0,To:=0,Seq:=0,Round:=0,Vec:=CJ,Sums:=([]:List BM),Triples:=([]:List A2),N:=0,Over:=false }:AO),false,h,o0)) (AU o0.row a0 λJ=>A4 (decide (o0.taken<J)) (Q (({ Kind:=0,From:=0,To:=0,Seq:=0,Round:=0,Vec:=CJ,Sums:=([]:List BM),Triples:=([]:List A2),N:=0,Over:=false }:AO),false,h,o0)) (PV o0 a0 λd=>A4 (decide (d.1.Seq<d.2.taken)) (Q (({ Kind:=0,From:=0,To:=0,Seq:=0,Round:=0,Vec:=CJ,Sums:=([]:List BM),Triples:=([]:List A2),N:=0,Over:=false }:AO),false,0,d.2)) (aZ d.1 λD=>Q (D,true,0,({ room:=d.2.room,row:=d.2.row,by_:=d.2.by_,often:=d.2.often,sent:=d.2.sent,taken:=A5 (d.2.taken+1) }:BR)))))
def PW (o0:AV) (a0:Option Nat) (a1:Int) (Q:(AO×Bool×Int×AV)->Prop):Prop:=
 rG a0 False λb=>tK o0 b λx=>KH x a1 λd=>Q (d.1,d.2.1,d.2.2.1,(b,d.2.2.2) :: FK b o0)
def HT (o0:A1) (Q:Int->Prop):Prop:=
 CF o0 o0.place.i o0.place.j λd=>Q d
def G2 (o0:A1) (a0:Int) (Q:Int->Prop):Prop:=
 I9 o0.plan.N o0.grid.i a0 λJ=>I9 o0.plan.N o0.grid.j o0.place.j λD=>I9 o0.plan.N o0.grid.i (A5 (a0+1)) λh=>I9 o0.plan.N o0.grid.j (A5 (o0.place.j+1)) λd=>Q (if (A5 ((if d<h then d else h) - (if D > J then D else J))) > 0 then A5 ((if d<h then d else h) - (if D > J then D else J)) else 0)
def EE (o0:A1) (a0:AO) (a1:BB) (Q:(Bool×A1)->Prop):Prop:=
 G2 o0 a1.i λV=>M5 a0 V λd=>AhH o0.shares a1.i CJ λW J=>A4 J (False) (A4 (!d.2) (False) (A4 (o0.place.i != 0) (False) (A4 (a1.j != 0) (False) (A4 (a0.Round != o0.share) (False) (A4 (decide (((DY a1.i d.1 o0.shares).length:Int)<o0.grid.i)) (Q (true,({ o0 with shares:=(DY a1.i d.1 o0.shares) }:A1))) (AY (λ(s:(List Vec)×Int) next258=>match s with | (s252,s256)=>A4 (decide (s256<o0.grid.i)) (lkP (DY a1.i d.1 o0.shares) s256 CJ λh=>DA 32 s252 ([h]) λ_=>next258 ((s252++([h])),A5 (s256+1))) (eD o0.plan.N o0.grid.i o0.grid.j o0.place.j s252 λO=>AY (λ(s:A1×Int) next614=>match s with | (s602,s613)=>A4 (decide (s613<o0.grid.i)) (CF s602 s613 s602.place.j λU=>CE s602 ({ Kind:=2,From:=0,To:=U,Seq:=0,Round:=s602.share,Vec:=O.1,Sums:=([]:List BM),Triples:=([]:List A2),N:=0,Over:=false }:AO) λD=>next614 (D,A5 (s613+1))) (Q (true,({ s602 with share:=A5 (s602.share+1),shares:=([]:List (Int×Vec)) }:A1)))) (({ o0 with shares:=(DY a1.i d.1 o0.shares) }:A1),0))) (([]:List Vec),0)))))))
def FM (o0:A1) (a0:Int) (Q:HR->Prop):Prop:=
 A4 ((o0.choices.length:Int)==0) (Q ({ Way:=0,Form:=0 }:HR)) (nzP (o0.choices.length:Int) <| AU o0.choices ((A5 (a0 - 1)).tmod (o0.choices.length:Int)) λd=>Q d)
def E0 (o0:A1) (a0:AO) (a1:BB) (Q:(Bool×A1)->Prop):Prop:=
 M5 a0 o0.rows.Cols λO=>A4 (!O.2) (False) (A4 (a1.i != 0) (False) (A4 (a1.j != o0.place.j) (False) (A4 (a0.Round != o0.spread) (False) (FM o0 a0.Round λh=>T7 o0.plan.Kind a0.Round λV=>VE h.Form O.1 λU=>VM ({ Ring:=V,Rows:=o0.rows,Cols:=o0.cols,X:=U,Set:=([]:List Int),Others:=true,Way:=h.Way }:GP) λd=>CF ({ o0 with spread:=A5 (o0.spread+1) }:A1) o0.place.i 0 λD=>CE ({ o0 with spread:=A5 (o0.spread+1) }:A1) ({ Kind:=3,From:=0,To:=D,Seq:=0,Round:=a0.Round,Vec:=CJ,Sums:=d.1,Triples:=([]:List A2),N:=0,Over:=false }:AO) λJ=>Q (true,J)))))
def FN (o0:A1) (a0:List BM) (Q:Bool->Prop):Prop:=
 AY (λ(s:Int×Int) next82=>match s with | (s80,s81)=>A4 (decide (s81<(a0.length:Int))) (AU a0 s81 λd=>A4 (decide (d.At<=s80)) (Q false) (A4 (decide (o0.rows.Rows<=d.At)) (Q false) (next82 (d.At,A5 (s81+1))))) (Q true)) ((-1),0)
def DI (o0:List Int) (o1:Bool) (a0:BM) (Q:Bool->Prop):Prop:=
 LJ o0 a0.At λd=>Q (d==o1)
def CQ (o0:List BM) (o1:List Int) (o2:Bool) (Q:Int->Prop):Prop:=
 AY (λ(d:Int) next45=>A4 (decide (d<(o0.length:Int))) (AU o0 d λD=>DI o1 o2 D λh=>A4 h (Q d) (next45 (A5 (d+1)))) (Q (-1))) 0
def CO (o0:List BM) (o1:List Int) (o2:Bool) (Q:(List BM)->Prop):Prop:=
 CQ o0 o1 o2 λh=>A4 (h==(-1)) (Q o0) (AY (λ(s:(List BM)×Int×Int) next239=>match s with | (s236,s237,s238)=>A4 (decide (s238<(s236.length:Int))) (AU s236 s238 λd=>DI o1 o2 d λD=>A4 (!D) (AU s236 s237 λJ=>next239 ((s236.set s237.toNat d),A5 (s237+1),A5 (s238+1))) (next239 (s236,s237,A5 (s238+1)))) (slP s236 s237 (s236.length:Int) λ_=>slP s236 0 s237 λ_=>Q (s236.take s237.toNat))) (o0,h,A5 (h+1)))
def E3 (o0:A1) (a0:Int) (Q:A1->Prop):Prop:=
 YH o0.plan o0.has a0 λD=>CO o0.sums D.1 D.2 λU=>T7 o0.plan.Kind a0 λV=>dQ V o0.rows.Rows U λd=>A4 (d.2==0) (VN o0.plan o0.has a0 d.1 λO=>DB ({ o0 with aside:=O,sums:=([]:List BM) }:A1) a0 (d.2 != 0) λh=>Q h) (DB ({ o0 with aside:=o0.has,sums:=([]:List BM) }:A1) a0 (d.2 != 0) λJ=>Q J)
def E4 (o0:A1) (a0:AO) (a1:BB) (Q:(Bool×A1)->Prop):Prop:=
 A4 (o0.place.j != 0) (False) (A4 (a1.i != o0.place.i) (False) (A4 (o0.status != 0) (False) (A4 o0.waits (False) (A4 (a0.Round != (A5 (o0.round+1))) (False) (lkP o0.came a1.j false λJ=>A4 J (False) (FN o0 a0.Sums λD=>A4 (!D) (False) (T7 o0.plan.Kind a0.Round λO=>TQ O ([o0.sums,a0.Sums]:List (List BM)) λd=>A4 (((DY a1.j true o0.came).length:Int)==o0.grid.j) (E3 ({ o0 with sums:=d.1,came:=(DY a1.j true o0.came) }:A1) a0.Round λh=>Q (true,h)) (Q (true,({ o0 with sums:=d.1,came:=(DY a1.j true o0.came) }:A1))))))))))
def FB (o0:A1) (Q:Int->Prop):Prop:=
 AY (λ(s:(List (Int×AO))×Bool×Bool) next214=>match s with | (s211,s212,s213)=>zF s211 (A4 s212 (Q 3) (A4 (!s213) (Q 1) (A4 (o0.vote==o0.limit) (Q 2) (Q 0)))) (λh d=>A4 s212 (A4 s213 (next214 (d,true,true)) (next214 (d,true,h.2.N != 0))) (A4 s213 (next214 (d,h.2.Over,true)) (next214 (d,h.2.Over,h.2.N != 0))))) (o0.votes,false,false)
def EP (o0:A1) (a0:AO) (a1:BB) (Q:(Bool×A1)->Prop):Prop:=
 AhH o0.votes a1.i ({ Kind:=0,From:=0,To:=0,Seq:=0,Round:=0,Vec:=CJ,Sums:=([]:List BM),Triples:=([]:List A2),N:=0,Over:=false }:AO) λO J=>A4 J (False) (A4 (!(o0.place==({ i:=0,j:=0 }:BB))) (False) (A4 o0.closed (False) (A4 (a1.j != 0) (False) (A4 (a0.Round != o0.vote) (False) (A4 (decide (((DY a1.i a0 o0.votes).length:Int)<o0.grid.i)) (Q (true,({ o0 with votes:=(DY a1.i a0 o0.votes) }:A1))) (FB ({ o0 with votes:=(DY a1.i a0 o0.votes) }:A1) λd=>AY (λ(s:A1×Int) next381=>match s with | (s369,s380)=>A4 (decide (s380<o0.grid.i)) (CF s369 s380 0 λD=>CE s369 ({ Kind:=5,From:=0,To:=D,Seq:=0,Round:=s369.vote,Vec:=CJ,Sums:=([]:List BM),Triples:=([]:List A2),N:=d,Over:=false }:AO) λh=>next381 (h,A5 (s380+1))) (Q (true,({ s369 with vote:=A5 (s369.vote+1),votes:=([]:List (Int×AO)),closed:=d != 0 }:A1)))) (({ o0 with votes:=(DY a1.i a0 o0.votes) }:A1),0)))))))
def FO (o0:A1) (Q:A1->Prop):Prop:=
 kU o0.plan o0.has (A5 (o0.round+1)) λD=>AY (λ(s:A1×Int) next175=>match s with | (s163,s174)=>A4 (decide (s174<o0.grid.j)) (VF D s163.plan.N s163.grid.i s163.grid.j s163.place.i s174 λd=>CE s163 ({ Kind:=1,From:=0,To:=s174,Seq:=0,Round:=A5 (s163.round+1),Vec:=d,Sums:=([]:List BM),Triples:=([]:List A2),N:=0,Over:=false }:AO) λh=>next175 (h,A5 (s174+1))) (Q ({ s163 with sums:=([]:List BM),came:=([]:List (Int×Bool)) }:A1))) (o0,0)
def E5 (o0:A1) (a0:AO) (a1:BB) (Q:(Bool×A1)->Prop):Prop:=
 DE (λ(J:Int->Prop)=>A4 o0.begun (J (A5 (o0.round+1))) (J 0)) λd=>A4 (o0.place.j != 0) (False) (A4 (!(a1==({ i:=0,j:=0 }:BB))) (False) (A4 (!o0.waits) (False) (A4 (o0.status != 0) (False) (A4 (a0.Round != d) (False) (A4 (decide (a0.N<0)) (False) (A4 (decide (3<a0.N)) (False) (DE (λ(h:A1->Prop)=>DE (λ(D:Bool->Prop)=>A4 (decide (0<d)) (D (a0.N != 3)) (D false)) λU=>A4 U (h ({ o0 with round:=d,status:=a0.N,has:=o0.aside,waits:=false,begun:=true }:A1)) (h ({ o0 with status:=a0.N,waits:=false,begun:=true }:A1))) λO=>A4 (a0.N==0) (FO O λV=>Q (true,V)) (Q (true,O)))))))))
def EY (o0:A1) (a0:AO) (Q:(Bool×A1)->Prop):Prop:=
 HT o0 λW=>A4 (a0.To != W) (False) (A4 (decide (a0.From<0)) (False) (A4 (decide ((A5 (o0.grid.i*o0.grid.j))<=a0.From)) (False) (X7 o0.grid.j a0.From λd=>TN o0.grid.j a0.From λh=>A4 (a0.Kind==1) (EE o0 a0 ({ i:=d,j:=h }:BB) λU=>Q (U.1,U.2)) (A4 (a0.Kind==2) (E0 o0 a0 ({ i:=d,j:=h }:BB) λV=>Q (V.1,V.2)) (A4 (a0.Kind==3) (E4 o0 a0 ({ i:=d,j:=h }:BB) λJ=>Q (J.1,J.2)) (A4 (a0.Kind==4) (EP o0 a0 ({ i:=d,j:=h }:BB) λD=>Q (D.1,D.2)) (A4 (a0.Kind==5) (E5 o0 a0 ({ i:=d,j:=h }:BB) λO=>Q (O.1,O.2)) (False))))))))
def K5 (o0:A3) (a0:Option Nat) (a1:AO) (Q:(Bool×A3)->Prop):Prop:=
 rG a0 False λb=>tK o0 b λx=>EY x a1 λd=>Q (d.1,(b,d.2) :: FK b o0)
def H7 (o0:AL) (o1:A3) (o2:AV) (a0:Int) (a1:Int) (U:Int) (Q:(Bool×AL×A3×AV)->Prop):Prop:=
 EX o0 o1 o2 a0 a1 (λ_=>False) (λd=>PW d.2.2 d.1 U λh=>A4 (!h.2.1) (Q (false,d.2.1,o1,h.2.2.2)) (AU d.2.1.workers a1 λO=>K5 o1 O h.1 λD=>EM d.2.1 D.2 λJ=>Q (true,J,D.2,h.2.2.2)))
def FT (o0:AL) (o1:A3) (o2:AV) (Q:(Bool×AL×A3×AV)->Prop):Prop:=
 AY (λ(s:AL×Bool×Int×A3×AV) next215=>match s with | (s204,s211,s212,s213,s214)=>A4 (decide (s212<(o0.workers.length:Int))) (JJ s204 s213 s214 s212 λd=>A4 d.1 (next215 (d.2.1,true,A5 (s212+1),d.2.2.1,d.2.2.2)) (next215 (d.2.1,s211,A5 (s212+1),d.2.2.1,d.2.2.2))) (HY s204 s214 λO=>AY (λ(s:AL×Bool×Int×AV×A3) next493=>match s with | (s482,s489,s490,s491,s492)=>A4 (decide (s490<(O.length:Int))) (AU O s490 λJ=>lkP s482.boxes J none λD=>HB s491 D λV=>MT s491 D λW=>H7 s482 s492 s491 J.1 J.2 W λh=>A4 s489 (next493 (h.2.1,true,A5 (s490+1),h.2.2.2,h.2.2.1)) (HB h.2.2.2 D λU=>next493 (h.2.1,decide (U<V),A5 (s490+1),h.2.2.2,h.2.2.1))) (Q (s489,s482,s492,s491))) (s204,s211,0,s214,s213))) (o0,false,0,o1,o2)
def MI (o0:A3) (o1:AV) (a0:JS) (a1:List xE) (U:Int) (V:(Int×Int×A3×AV)->Prop) (O:(Int×Int×A3×AV×AL)->Prop):Prop:=
 iE a0 a1 U λD=>A4 (D != 0) (V (0,D,o0,o1)) (SU o0 o1 a0 (λ_=>False) (λd=>A4 (d.1 != 0) (V (0,d.1,d.2.1,o1)) (AY (λ(_:Unit) next115=>A4 (decide (0<(a1.length:Int))) (AU a1 0 λW=>False) (AY (λ(s:AL×Int×Int×A3×AV) next244=>match s with | (s233,s240,s241,s242,s243)=>A4 (decide (s241<U)) (CP s233 s242 λJ=>A4 J (O (s240,0,s242,s243,s233)) (FT s233 s242 s243 λh=>next244 (h.2.1,A5 (s240+1),A5 (s241+1),h.2.2.1,h.2.2.2))) (O (s240,0,s242,s243,s233))) (d.2.2,0,0,d.2.1,o1))) ())))
def HK (o0:AL) (Q:Int->Prop):Prop:=
 Q (A5 ((o0.history.length:Int) - 1))
def I3 (o0:AL) (a0:Int) (Q:(State×Bool)->Prop):Prop:=
 A4 (decide (a0<0)) (Q (FY,false)) (A4 (decide ((o0.history.length:Int)<=a0)) (Q (FY,false)) (AU o0.history a0 λd=>B8 d.A λh=>B8 d.B λD=>BW d.On λJ=>Q (({ d with A:=h,B:=D,On:=J }:State),true)))
def HL (o0:AL) (o1:A3) (Q:Result->Prop):Prop:=
 HK o0 λO=>DE (λ(d:Int->Prop)=>CP o0 o1 λh=>A4 h (AU o0.owners 0 λV=>DM o1 V λU=>d U) (d 0)) λJ=>I3 o0 O λD=>Q ({ Status:=J,Rounds:=O,State:=D.1 }:Result)
def O9 (o0:BR) (Q:Int->Prop):Prop:=
 Q o0.sent
def PX (o0:AV) (a0:Option Nat) (Q:Int->Prop):Prop:=
 rG a0 False λb=>tK o0 b λx=>O9 x  λd=>Q d
def JK (o0:AL) (o1:AV) (Q:Int->Prop):Prop:=
 AY (λ(s:(List ((Int×Int)×(Option Nat)))×Int) next78=>match s with | (s76,s77)=>zF s76 (Q s77) (λD h=>PX o1 D.2 λd=>next78 (h,A5 (s77+d)))) (o0.boxes,0)
def bD (a0:JS) (a1:List xE) (O:Int) (Q:(YA×Int)->Prop):Prop:=
 MI ([]:A3) ([]:AV) a0 a1 O (λ_=>False) (λd=>A4 (d.2.1 != 0) (Q (({ Result:=({ Status:=0,Rounds:=0,State:=FY }:Result),Sent:=0,Windows:=0 }:YA),d.2.1)) (HL d.2.2.2.2 d.2.2.1 λD=>JK d.2.2.2.2 d.2.2.2.1 λh=>CP d.2.2.2.2 d.2.2.1 λJ=>A4 (!J) (Q (({ Result:=({ D with Status:=4 }:Result),Sent:=h,Windows:=d.1 }:YA),d.2.1)) (Q (({ Result:=D,Sent:=h,Windows:=d.1 }:YA),d.2.1))))
def XB (a0:Graph) (a1:List Int) (O:Int) (U:Int) (Q:((List Int)×Int×Int)->Prop):Prop:=
 aV a0 a1 O U λh=>iH h h.Limit λD=>bD h ([]:List xE) D λd=>A4 (d.2 != 0) (Q (([]:List Int),0,d.2)) (YJ d.1.Result.State λJ=>Q (J,d.1.Result.Rounds,d.2))
def bE (a0:MN) (a1:List Int) (Q:Bool->Prop):Prop:=
 MF a0 λd=>DE (λ(W:(List Int)->Prop)=>AY (λ(s:(List Int)×Int) next260=>match s with | (s254,s258)=>A4 (decide (s258<(a1.length:Int))) (A4 (decide (s258<40)) (AU a1 s258 λV=>DA 8 s254 ([Y4 .i64 V 2147483647]) λ_=>next260 ((s254++([Y4 .i64 V 2147483647])),A5 (s258+1))) (W s254)) (W s254)) (([]:List Int),0)) λU=>XB d.1 U d.2.2.1 d.2.2.2 λD=>VH d.1 λr344=>XB r344 U d.2.2.2 d.2.2.1 λO=>SR d.1 λr392=>SQ r392 λJ=>A4 (D.2.2 != 0) (Q false) (A4 (O.2.2 != 0) (Q false) (O5 D.1 O.1 λr431=>A4 (!r431) (Q false) (VI d.1 D.1 λZ=>A4 (!Z) (Q false) (A4 ((J.length:Int)==0) (Q false) (kX d.1.N D.1 λr454=>AY (λ(h:Int) next812=>A4 (decide (h<(J.length:Int))) (AY (λ(s:Bool×Int) next930=>match s with | (s928,s929)=>AU J h λx950=>A4 (decide (s929<(x950.length:Int))) (A4 s928 (next930 (true,A5 (s929+1))) (AU J h λx964=>AU x964 s929 λx976=>dW r454 x976 λr984=>next930 (r984,A5 (s929+1)))) (A4 (!s928) (Q false) (next812 (A5 (h+1))))) (false,0)) (Q true)) 0)))))
abbrev qJ (d:MN) (D:Option Addr) (h:Nat):Array Value:=#[.int .i64 d.G.N,.slice D d.G.Edges.length h,.int .i64 d.V,.int .u8 d.R,.int .u8 d.C]
abbrev YO (d:JS) (h:aTa):Array Value:=#[.int .i64 d.Plan.Kind,.int .i64 d.Plan.N,.int .i64 d.Plan.Source,.int .i64 d.Plan.Length,.slice h.1.1 d.Plan.Draws.length h.1.2,.int .i64 d.Graph.N,.slice h.2.1.1 d.Graph.Edges.length h.2.1.2,.int .i64 d.R,.int .i64 d.C,.int .i64 d.Room,.int .i64 d.Limit,.slice h.2.2.1 d.Choices.length h.2.2.2]
abbrev LU (d:Plan) (D:Option Addr) (h:Nat):Array Value:=#[.int .i64 d.Kind,.int .i64 d.N,.int .i64 d.Source,.int .i64 d.Length,.slice D d.Draws.length h]
abbrev KX (h:Rows) (d:aTb):Array Value:=#[.int .i64 h.Rows,.int .i64 h.Cols,.slice d.1.1 h.Start.length d.1.2,.slice d.2.1.1 h.Col.length d.2.1.2,.slice d.2.2.1 h.Val.length d.2.2.2]
abbrev FD (h:BF) (d:aTd):Array Value:=#[.int .i64 h.Rows,.int .i64 h.Cols,.slice d.1.1 h.At.length d.1.2,.slice d.2.1.1 h.Start.length d.2.1.2,.slice d.2.2.1.1 h.Row.length d.2.2.1.2,.slice d.2.2.2.1 h.Val.length d.2.2.2.2]
abbrev GM (h:State) (d:aTg):Array Value:=#[.int .i64 h.Low,.int .i64 h.High,.slice d.1.1 h.A.length d.1.2,.slice d.2.1.1 h.B.length d.2.1.2,.slice d.2.2.1 h.On.length d.2.2.2]
abbrev JL (d:AO) (h:aTh):Array Value:=#[.int .i64 d.Kind,.int .i64 d.From,.int .i64 d.To,.int .i64 d.Seq,.int .i64 d.Round,.int .i64 d.Vec.N,.slice h.1.1 d.Vec.Items.length h.1.2,.slice h.2.1.1 d.Sums.length h.2.1.2,.slice h.2.2.1 d.Triples.length h.2.2.2,.int .i64 d.N,.bool d.Over]
abbrev KY (h:Dense) (d:aTi):Array Value:=#[.int .i64 h.N,.slice d.1.1 h.Has.length d.1.2,.slice d.2.1 h.Vals.length d.2.2]
abbrev Aq2 (d:iB) (h:aTj):Array Value:=#[.int .i64 d.Form,.int .i64 d.Vec.N,.slice h.1.1 d.Vec.Items.length h.1.2,.int .i64 d.Dense.N,.slice h.2.1.1 d.Dense.Has.length h.2.1.2,.slice h.2.2.1 d.Dense.Vals.length h.2.2.2]
abbrev YP (h:GP) (d:aTk):Array Value:=#[.int .i64 h.Ring,.int .i64 h.Rows.Rows,.int .i64 h.Rows.Cols,.slice d.1.1.1 h.Rows.Start.length d.1.1.2,.slice d.1.2.1.1 h.Rows.Col.length d.1.2.1.2,.slice d.1.2.2.1 h.Rows.Val.length d.1.2.2.2,.int .i64 h.Cols.Rows,.int .i64 h.Cols.Cols,.slice d.2.1.1.1 h.Cols.At.length d.2.1.1.2,.slice d.2.1.2.1.1 h.Cols.Start.length d.2.1.2.1.2,.slice d.2.1.2.2.1.1 h.Cols.Row.length d.2.1.2.2.1.2,.slice d.2.1.2.2.2.1 h.Cols.Val.length d.2.1.2.2.2.2,.int .i64 h.X.Form,.int .i64 h.X.Vec.N,.slice d.2.2.1.1.1 h.X.Vec.Items.length d.2.2.1.1.2,.int .i64 h.X.Dense.N,.slice d.2.2.1.2.1.1 h.X.Dense.Has.length d.2.2.1.2.1.2,.slice d.2.2.1.2.2.1 h.X.Dense.Vals.length d.2.2.1.2.2.2,.slice d.2.2.2.1 h.Set.length d.2.2.2.2,.bool h.Others,.int .i64 h.Way]
abbrev oG (d:AJ) (J:Option Addr) (D:Nat) (h:Option Addr) (O:Nat):Array Value:=#[.slice J d.heads.length D,.int .i64 d.r,.slice h d.out.length O]
abbrev AtF (d:YA) (h:aTg):Array Value:=#[.int .i64 d.Result.Status,.int .i64 d.Result.Rounds,.int .i64 d.Result.State.Low,.int .i64 d.Result.State.High,.slice h.1.1 d.Result.State.A.length h.1.2,.slice h.2.1.1 d.Result.State.B.length h.2.1.2,.slice h.2.2.1 d.Result.State.On.length h.2.2.2,.int .i64 d.Sent,.int .i64 d.Windows]
abbrev FU (d:A1) (h:aTn) (O:Option Addr) (J:Nat) (V:Nat) (Z:Option Addr) (U:Nat) (W:Nat) (D:Nat):Array Value:=#[.int .i64 d.place.i,.int .i64 d.place.j,.int .i64 d.plan.Kind,.int .i64 d.plan.N,.int .i64 d.plan.Source,.int .i64 d.plan.Length,.slice h.1.1 d.plan.Draws.length h.1.2,.int .i64 d.grid.i,.int .i64 d.grid.j,.int .i64 d.limit,.slice h.2.1.1 d.choices.length h.2.1.2,.int .i64 d.rows.Rows,.int .i64 d.rows.Cols,.slice h.2.2.1.1.1 d.rows.Start.length h.2.2.1.1.2,.slice h.2.2.1.2.1.1 d.rows.Col.length h.2.2.1.2.1.2,.slice h.2.2.1.2.2.1 d.rows.Val.length h.2.2.1.2.2.2,.int .i64 d.cols.Rows,.int .i64 d.cols.Cols,.slice h.2.2.2.1.1.1 d.cols.At.length h.2.2.2.1.1.2,.slice h.2.2.2.1.2.1.1 d.cols.Start.length h.2.2.2.1.2.1.2,.slice h.2.2.2.1.2.2.1.1 d.cols.Row.length h.2.2.2.1.2.2.1.2,.slice h.2.2.2.1.2.2.2.1 d.cols.Val.length h.2.2.2.1.2.2.2.2,.slice O d.out.length J,.int .i64 d.share,.map (some V),.int .i64 d.spread,.int .i64 d.round,.int .i64 d.status,.int .i64 d.has.Low,.int .i64 d.has.High,.slice h.2.2.2.2.1.1.1 d.has.A.length h.2.2.2.2.1.1.2,.slice h.2.2.2.2.1.2.1.1 d.has.B.length h.2.2.2.2.1.2.1.2,.slice h.2.2.2.2.1.2.2.1 d.has.On.length h.2.2.2.2.1.2.2.2,.int .i64 d.aside.Low,.int .i64 d.aside.High,.slice h.2.2.2.2.2.1.1 d.aside.A.length h.2.2.2.2.2.1.2,.slice h.2.2.2.2.2.2.1.1 d.aside.B.length h.2.2.2.2.2.2.1.2,.slice h.2.2.2.2.2.2.2.1 d.aside.On.length h.2.2.2.2.2.2.2.2,.bool d.waits,.bool d.begun,.slice Z d.sums.length U,.map (some W),.int .i64 d.vote,.map (some D),.bool d.closed]
abbrev KZ (d:A1) (h:aTo) (q1:Option Addr) (q2:Nat) (q3:Nat) (q4:Option Addr) (q5:Nat) (q6:Option Addr) (q7:Nat) (q8:Option Addr) (q9:Nat) (J:Option Addr) (U:Nat) (O:Option Addr) (V:Nat) (q14:Option Addr) (q15:Nat) (Z:Option Addr) (D:Nat) (q18:Nat) (W:Nat):Array Value:=#[.int .i64 d.place.i,.int .i64 d.place.j,.int .i64 d.plan.Kind,.int .i64 d.plan.N,.int .i64 d.plan.Source,.int .i64 d.plan.Length,.slice h.1.1 d.plan.Draws.length h.1.2,.int .i64 d.grid.i,.int .i64 d.grid.j,.int .i64 d.limit,.slice h.2.1.1 d.choices.length h.2.1.2,.int .i64 d.rows.Rows,.int .i64 d.rows.Cols,.slice h.2.2.1.1.1 d.rows.Start.length h.2.2.1.1.2,.slice h.2.2.1.2.1.1 d.rows.Col.length h.2.2.1.2.1.2,.slice h.2.2.1.2.2.1 d.rows.Val.length h.2.2.1.2.2.2,.int .i64 d.cols.Rows,.int .i64 d.cols.Cols,.slice h.2.2.2.1.1 d.cols.At.length h.2.2.2.1.2,.slice h.2.2.2.2.1.1 d.cols.Start.length h.2.2.2.2.1.2,.slice h.2.2.2.2.2.1.1 d.cols.Row.length h.2.2.2.2.2.1.2,.slice h.2.2.2.2.2.2.1 d.cols.Val.length h.2.2.2.2.2.2.2,.slice q1 d.out.length q2,.int .i64 d.share,.map (some q3),.int .i64 d.spread,.int .i64 d.round,.int .i64 d.status,.int .i64 d.has.Low,.int .i64 d.has.High,.slice q4 d.has.A.length q5,.slice q6 d.has.B.length q7,.slice q8 d.has.On.length q9,.int .i64 d.aside.Low,.int .i64 d.aside.High,.slice J d.aside.A.length U,.slice O d.aside.B.length V,.slice q14 d.aside.On.length q15,.bool d.waits,.bool d.begun,.slice Z d.sums.length D,.map (some q18),.int .i64 d.vote,.map (some W),.bool d.closed]
abbrev FP (d:AL) (h:aTq) (J:Nat) (D:Option Addr) (O:Nat):Array Value:=#[.int .i64 d.setup.Plan.Kind,.int .i64 d.setup.Plan.N,.int .i64 d.setup.Plan.Source,.int .i64 d.setup.Plan.Length,.slice h.1.1.1 d.setup.Plan.Draws.length h.1.1.2,.int .i64 d.setup.Graph.N,.slice h.1.2.1.1 d.setup.Graph.Edges.length h.1.2.1.2,.int .i64 d.setup.R,.int .i64 d.setup.C,.int .i64 d.setup.Room,.int .i64 d.setup.Limit,.slice h.1.2.2.1 d.setup.Choices.length h.1.2.2.2,.slice h.2.1.1 d.workers.length h.2.1.2,.map (some J),.slice h.2.2.1 d.owners.length h.2.2.2,.slice D d.history.length O]
abbrev AeI (d:BR) (J:Option Addr) (D:Nat) (h:Nat) (O:Nat):Array Value:=#[.int .i64 d.room,.slice J d.row.length D,.map (some h),.map (some O),.int .i64 d.sent,.int .i64 d.taken]
abbrev AtG (d:Result) (h:aTg):Array Value:=#[.int .i64 d.Status,.int .i64 d.Rounds,.int .i64 d.State.Low,.int .i64 d.State.High,.slice h.1.1 d.State.A.length h.1.2,.slice h.2.1.1 d.State.B.length h.2.1.2,.slice h.2.2.1 d.State.On.length h.2.2.2]
theorem tv:True:=trivial
def AhO (x:B2):Prop:=(inR .i64) x.From∧(inR .i64) x.To∧(inR .i64) x.W
def AkC (x:Graph):Prop:=(inR .i64) x.N∧(λxs=>(∀ x∈xs,AhO x)∧xs.length<=maxLen) x.Edges
def YQ (x:MN):Prop:=AkC x.G∧(inR .i64) x.V∧(inR .u8) x.R∧(inR .u8) x.C
end Go.Proofs.YtieniichmjgmcaaGreat
