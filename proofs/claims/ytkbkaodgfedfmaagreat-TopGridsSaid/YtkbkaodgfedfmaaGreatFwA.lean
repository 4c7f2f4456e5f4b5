/- The engine. -/
import Derived.Below
import Derived.Tactics
import Derived.Laws.NewBlocks
import Derived.Scope
import Derived.OrdersIn
import Derived.TacticsIn
import Derived.Laws.Entries
namespace Go.Fw
open Go Go.RowKit
/-! ### Sparse frames -/
variable {id:Nat} {σ:Type}
abbrev CZ:=List (Nat×Value)
def look:CZ->Nat->Option Value
 | [],_=>none
 | p :: E,t=>bif Nat.beq p.1 t then some p.2 else look E t
def fresh:CZ->Nat->Bool
 | [],_=>true
 | p :: E,t=>bif Nat.beq p.1 t then false else fresh E t
def EnvOk:CZ->Act->Prop
 | [],_=>True
 | p :: E,a=>a.tmps[p.1]? = some p.2∧EnvOk E a
structure FrK where
 sz:Nat
 marks:List Nat
 round:Option Nat
def mkM (r:Nat):Deferred:={ target:=.collected r,args:=#[] }
abbrev FrK.defs (n:FrK):List Deferred:=n.marks.map mkM
def UT (n:FrK):Fence:={ fn:=λ_=>True,depth:=none,alive:=false,round:=n.round }
structure Ok (n:FrK) (E:CZ) (a:Act):Prop where
 size:a.tmps.size=n.sz
 defers:a.defers=n.defs
 env:EnvOk E a
def ev (E:CZ):Operand->Option Value
 | .tmp t=>look E t
 | .const c=>some c
 | .global g=>some (.pointer (some ⟨g,0,none⟩))
 | .func f=>some (.func (.func f) #[] #[])
theorem EnvOk.look {E:CZ} {a:Act} (h:EnvOk E a) {t:Nat} {v:Value} (d:look E t=some v):a.tmps[t]? = some v:=by
 induction E with
 | nil=>simp[Fw.look] at d
 | cons p E D=>
  obtain⟨K,J⟩:=h;simp only[Fw.look] at d
  cases hb:Nat.beq p.1 t with
  | true=>rw[hb] at d; simp at d; have:=Nat.eq_of_beq_eq_true hb; subst this; rw[K,d]
  | false=>rw[hb] at d; exact D J d
theorem Ok.eval {n:FrK} {E:CZ} {a:Act} (h:Ok n E a) {x:Operand} {v:Value} (d:ev E x=some v):a.eval x=v:=by
 cases x with
 | tmp t=>
  have:=h.env.look d;simp only[Act.eval,Array.getD_eq_getD_getElem?,this,Option.getD_some]
 | const c=>exact Option.some.inj d
 | global g=>exact Option.some.inj d
 | func f=>exact Option.some.inj d
theorem EnvOk.put {E:CZ} {a:Act} (h:EnvOk E a) {d:Nat} (D:fresh E d=true) (v:Value):EnvOk E (a.put (some d) v):=by
 induction E with
 | nil=>trivial
 | cons p E K=>
  obtain⟨U,O⟩:=h;simp only[fresh] at D
  cases hb:Nat.beq p.1 d with
  | true=>rw[hb] at D; simp at D
  | false=>
   rw[hb] at D;refine⟨?_,K O D⟩;have J:¬d=p.1:=λe=>by rw[e,Nat.beq_refl] at hb; exact absurd hb (by simp)
   simp only[Act.put,Array.getElem?_setIfInBounds,if_neg J,U]
theorem Ok.put {n:FrK} {E:CZ} {a:Act} (h:Ok n E a) {d:Nat} (J:Nat.blt d n.sz=true) (D:fresh E d=true) (v:Value):Ok n ((d,v) :: E) (a.put (some d) v):=by
 refine⟨by simp[Act.put,h.size],by simp[Act.put,h.defers],?_,h.env.put D v⟩;have:d<a.tmps.size:=by rw[h.size]; simpa[Nat.blt_eq] using J
 simp[Act.put,this]
theorem EnvOk.defers {E:CZ} {a:Act} (h:EnvOk E a) (d:List Deferred):EnvOk E { a with defers:=d }:=by
 induction E with
 | nil=>trivial
 | cons p E D=>exact⟨h.1,D h.2⟩
def Sub:CZ->CZ->Prop
 | [],_=>True
 | p :: E',E=>look E p.1=some p.2∧Sub E' E
theorem Ok.sub {n:FrK} {E E':CZ} {a:Act} (h:Ok n E a) (d:Sub E' E):Ok n E' a:=by
 refine⟨h.size,h.defers,?_⟩
 induction E' with
 | nil=>trivial
 | cons p E' D=>exact⟨h.env.look d.1,D d.2⟩
abbrev IH:=Nat->Option Obj
def IH.le (I J:IH):Prop:=∀ b o,I b=some o->J b=some o
theorem IH.le.refl (I:IH):I.le I:=λ_ _ h=>h
theorem IH.le.trans {I J K:IH} (h:I.le J) (k:J.le K):I.le K:=λb o x=>k b o (h b o x)
def hp (w:World):IH:=λb=>w.heap[b]?
def IH.disj (I J:IH):Prop:=∀ b,I b=none∨J b=none
theorem IH.disj.mono {I J D d:IH} (h:I.disj J) (hi:D.le I) (K:d.le J):D.disj d:=λb=>by
 rcases h b with h | h
 . left; cases h':D b with
   | none=>rfl
   | some o=>rw[hi b o h'] at h; cases h
 . right; cases h':d b with
   | none=>rfl
   | some o=>rw[K b o h'] at h; cases h
open Classical in
noncomputable def IH.union (I J:IH):IH:=λb=>match I b with | some o=>some o | none=>J b
theorem IH.le_union_left (I J:IH):I.le (I.union J):=λb o h=>by simp[IH.union,h]
theorem IH.le_union_right {I J:IH} (D:I.disj J):J.le (I.union J):=λb o h=>by
 rcases D b with d | d
 . simp[IH.union,d,h]
 . rw[d] at h; cases h
theorem IH.union_le {I J K:IH} (h:I.le K) (k:J.le K):(I.union J).le K:=λb o x=>by
 simp only[IH.union] at x
 cases hi:I b with
 | some p=>rw[hi] at x; exact h b o (by rw[hi]; exact x)
 | none=>rw[hi] at x; exact k b o x
theorem IH.union_none {I J:IH} {b:Nat} (h:I.union J b≠none):I b≠none∨J b≠none:=by
 simp only[IH.union] at h
 cases hi:I b with
 | some p=>left; simp
 | none=>rw[hi] at h; right; exact h
structure HA where
 holds:IH→IH→Prop
 mono:∀ {I J h k:IH},I.le J→h.le k→holds I h→holds J k
def QI:List HA->IH->IH->Prop
 | [],_,_=>True
 | A :: l,I,h=>∃ D d,D.disj d∧D.le h∧d.le h∧A.holds I D∧QI l I d
theorem RV {l:List HA} {I J h k:IH} (hI:I.le J) (W:h.le k) (K:QI l I h):QI l J k:=by
 cases l with
 | nil=>trivial
 | cons A l=>
  obtain⟨h1,h2,hd,d,D,ha,K⟩:=K;refine⟨h1,h2,hd,d.trans W,D.trans W,A.mono hI (IH.le.refl _) ha,?_⟩;clear ha d D hd W
  induction l generalizing h2 with
  | nil=>trivial
  | cons B l ih=>
   obtain⟨h3,h4,Z,V,O,hb,U⟩:=K;exact⟨h3,h4,Z,V,O,B.mono hI (IH.le.refl _) hb,ih _ U⟩
theorem MF {l m:List HA} {I h:IH}:QI (l++m) I h↔∃ V O,V.disj O∧V.le h∧O.le h∧QI l I V∧QI m I O:=by
 induction l generalizing h with
 | nil=>
  constructor
  . intro W; exact⟨λ_=>none,h,(λ_=>.inl rfl),(λ_ _ x=>nomatch x),IH.le.refl _,trivial,W⟩
  . rintro⟨V,O,U,K,J,_,W⟩; exact RV (IH.le.refl _) J W
 | cons A l ih=>
  constructor
  . rintro⟨V,O,U,K,J,ha,W⟩;obtain⟨h3,h4,Z,D,d,hs3,hs4⟩:=ih.1 W;refine⟨V.union h3,h4,?_,IH.union_le K (D.trans J),d.trans J,⟨V,h3,U.mono (IH.le.refl _) D,IH.le_union_left _ _,IH.le_union_right (U.mono (IH.le.refl _) D),ha,hs3⟩,hs4⟩;intro b;rcases Z b with h | h
    . rcases(U.mono (IH.le.refl _) d) b with h' | h'
      . left; simp[IH.union,h,h']
      . exact .inr h'
    . exact .inr h
  . rintro⟨V,O,U,K,J,⟨h3,h4,Z,D,d,ha,W⟩,hm⟩;refine⟨h3,h4.union O,?_,D.trans K,IH.union_le (d.trans K) J,ha,ih.2 ⟨h4,O,U.mono d (IH.le.refl _),IH.le_union_left _ _,IH.le_union_right (U.mono d (IH.le.refl _)),W,hm⟩⟩;intro b;rcases Z b with h | h
    . exact .inl h
    . rcases(U.mono D (IH.le.refl O)) b with h' | h'
      . exact .inl h'
      . right; simp[IH.union,h,h']
structure AjF (w0:World) (M:Nat→Prop) (w:World):Prop where
 os:w.os=w0.os
 tape:w.tape=w0.tape
 output:w.output=w0.output
 drawn:w0.drawn≤w.drawn
 size:w0.heap.size≤w.heap.size
 block:∀ b,b<w0.heap.size→¬M b→w.heap[b]? = w0.heap[b]?
structure Sym (w0:World) (M:Nat→Prop) (I0 I:IH) (l:List HA) (w:World):Prop where
 base:AjF w0 M w
 imm:I.le (hp w)
 new:∀ b,I b≠none→I0 b≠none∨M b∨w0.heap.size≤b
 own:∃ h,QI l I h∧h.le (hp w)∧I.disj h∧∀ b,h b≠none→M b∨w0.heap.size≤b
variable {w0 w:World} {M:Nat→Prop} {I0 I:IH} {l:List HA}
theorem S4 {b:Nat} {o:Obj} (h:hp w b=some o):b<w.heap.size:=by
 rcases Nat.lt_or_ge b w.heap.size with d | d
 . exact d
 . simp[hp,Array.getElem?_eq_none d] at h
theorem AaY {h:IH} (d:h.le (hp w)) {b:Nat} (D:h b≠none):b<w.heap.size:=by
 cases e:h b with
 | none=>exact absurd e D
 | some o=>exact S4 (d b o e)
def pto (b:Nat) (o:Obj):HA where
 holds _ h:=h b=some o
 mono:=λ_ hh h=>hh _ _ h
def FX (b:Nat) (o:Obj):IH:=λk=>if k=b then some o else none
theorem Sym.alloc (h:Sym w0 M I0 I l w) (o:Obj):Sym w0 M I0 I (pto w.heap.size o :: l) (w.alloc o):=by
 obtain⟨O,hi,Z,k,W,hk,hd,hm⟩:=h
 have D:∀ (J:IH),J.le (hp w)->J.le (hp (w.alloc o)):=λJ hJ b p e=>by have K:=hJ b p e;have:=S4 K;show(w.alloc o).heap[b]? = _;rw[Below.heap_alloc _ _ _ this]; exact K
 refine⟨⟨O.os,O.tape,O.output,O.drawn,Nat.le_trans O.size (by simp),λb V h2=>?_⟩,D I hi,Z,(FX w.heap.size o).union k,⟨FX w.heap.size o,k,?_,IH.le_union_left _ _,IH.le_union_right ?_,by simp[pto,FX],W⟩,?_,?_,?_⟩
 . rw[Below.heap_alloc _ _ _ (Nat.lt_of_lt_of_le V O.size)]; exact O.block b V h2
 . intro b;by_cases e:b=w.heap.size
   . right; subst e
     cases K:k w.heap.size with
     | none=>rfl
     | some p=>have:=S4 (hk _ _ K); omega
   . left; simp[FX,e]
 . intro b;by_cases e:b=w.heap.size
   . right; subst e
     cases K:k w.heap.size with
     | none=>rfl
     | some p=>have:=S4 (hk _ _ K); omega
   . left; simp[FX,e]
 . refine IH.union_le (λb p e=>?_) (D k hk);simp only[FX] at e;split at e
   . rename_i d; subst d; cases e;show(w.heap.push o)[w.heap.size]? = _;simp
   . cases e
 . intro b;by_cases e:b=w.heap.size
   . left; subst e
     cases K:I w.heap.size with
     | none=>rfl
     | some p=>have:=S4 (hi _ _ K); omega
   . rcases hd b with d | d
     . exact .inl d
     . right; simp[IH.union,FX,e,d]
 . intro b U;rcases IH.union_none U with d | d
   . simp only[FX] at d;split at d
     . rename_i e; subst e; exact .inr O.size
     . exact absurd rfl d
   . exact hm b d
theorem Sym.drew (h:Sym w0 M I0 I l w) (n:Nat) (d:w.drawn<=n):Sym w0 M I0 I l { w with drawn:=n }:=
 ⟨⟨h.base.os,h.base.tape,h.base.output,Nat.le_trans h.base.drawn d,h.base.size,h.base.block⟩,h.imm,h.new,h.own⟩
inductive At:List HA→HA→List HA→HA→Prop
 | z {A B:HA} {l:List HA}:At (A :: l) A (B :: l) B
 | s {A B C:HA} {l m:List HA}:At l A m B→At (C :: l) A (C :: m) B
inductive Del:List HA→HA→List HA→Prop
 | z {A:HA} {l:List HA}:Del (A :: l) A l
 | s {A C:HA} {l m:List HA}:Del l A m→Del (C :: l) A (C :: m)
theorem nC {l m:List HA} {A:HA} (U:Del l A m):∀ {h:IH},QI l I h->∃ J V,J.disj V∧J.le h∧V.le h∧A.holds I J∧QI m I V:=by
 induction U with
 | z=>exact λZ=>Z
 | s _ ih=>
  rintro h ⟨J,V,U,hl1,O,hc,Z⟩;obtain⟨h3,h4,hd',K,D,ha,hm⟩:=ih Z;refine⟨h3,J.union h4,?_,K.trans O,IH.union_le hl1 (D.trans O),ha,J,h4,U.mono (IH.le.refl _) D,IH.le_union_left _ _,IH.le_union_right (U.mono (IH.le.refl _) D),hc,hm⟩;intro b;rcases U b with W | W
  . rcases hd' b with d | d
    . exact .inl d
    . right; simp[IH.union,W,d]
  . left
    cases e:h3 b with
    | none=>rfl
    | some o=>rw[K b o e] at W; cases W
theorem At.del {l m:List HA} {A B:HA} (h:At l A m B):∃ r,Del l A r∧Del m B r:=by
 induction h with
 | z=>exact⟨_,.z,.z⟩
 | s _ d=>obtain⟨r,J,D⟩:=d; exact⟨_,.s J,.s D⟩
theorem AaZ {l m:List HA} {A:HA} (O:Del l A m):∀ {h V W:IH},V.disj W->V.le h->W.le h->A.holds I V->QI m I W->QI l I h:=by
 induction O with
 | z=>exact λO J d ha hs=>⟨_,_,O,J,d,ha,hs⟩
 | s _ ih=>
  rintro h V W O J d ha ⟨h3,h4,hd',U,K,hc,hm⟩;refine⟨h3,V.union h4,?_,U.trans d,IH.union_le J (K.trans d),hc,ih (O.mono (IH.le.refl _) K) (IH.le_union_left _ _) (IH.le_union_right (O.mono (IH.le.refl _) K)) ha hm⟩;intro b;rcases O b with Z | Z
  . rcases hd' b with D | D
    . exact .inl D
    . right; simp[IH.union,Z,D]
  . left
    cases e:h3 b with
    | none=>rfl
    | some o=>rw[U b o e] at Z; cases Z
theorem Sym.del (h:Sym w0 M I0 I l w) {m:List HA} {A:HA} (hd:Del l A m):Sym w0 M I0 I (A :: m) w:=by obtain⟨V,hi,hn,k,U,hk,d,W⟩:=h;obtain⟨h1,h2,O,D,K,Z,J⟩:=nC hd U;exact⟨V,hi,hn,k,⟨h1,h2,O,D,K,Z,J⟩,hk,d,W⟩
theorem Sym.undel {m:List HA} {A:HA} (h:Sym w0 M I0 I (A :: m) w) (D:Del l A m):Sym w0 M I0 I l w:=by obtain⟨d,hi,J,k,⟨h1,h2,hd',hl1,hl2,ha,hs'⟩,hk,hdj,hm⟩:=h;exact⟨d,hi,J,k,AaZ D hd' hl1 hl2 ha hs',hk,hdj,hm⟩
theorem Sym.drop {A:HA} (h:Sym w0 M I0 I (A :: l) w):Sym w0 M I0 I l w:=by obtain⟨D,hi,d,k,⟨h1,h2,hd',hl1,hl2,ha,hs'⟩,hk,hdj,hm⟩:=h;exact⟨D,hi,d,k,RV (IH.le.refl _) hl2 hs',hk,hdj,hm⟩
theorem Sym.get {A:HA} (h:Sym w0 M I0 I (A :: l) w):∃ k,A.holds I k∧k.le (hp w):=by obtain⟨hb,hi,hn,k,⟨h1,h2,hd',hl1,hl2,ha,hs'⟩,hk,hdj,hm⟩:=h;exact⟨h1,ha,hl1.trans hk⟩
theorem Sym.pto {b:Nat} {o:Obj} (h:Sym w0 M I0 I (pto b o :: l) w):w.heap[b]? = some o:=by obtain⟨k,hk,d⟩:=h.get;exact d _ _ hk
theorem Sym.weaken {A B:HA} (h:Sym w0 M I0 I (A :: l) w) (d:∀ k,A.holds I k->B.holds I k):Sym w0 M I0 I (B :: l) w:=by obtain⟨D,hi,J,k,⟨h1,h2,hd',hl1,hl2,ha,hs'⟩,hk,hdj,hm⟩:=h;exact⟨D,hi,J,k,⟨h1,h2,hd',hl1,hl2,d _ ha,hs'⟩,hk,hdj,hm⟩
theorem Sym.upd {b:Nat} {o o':Obj} {w':World} (h:Sym w0 M I0 I (Fw.pto b o :: l) w) (h1:w'.os=w.os) (h2:w'.tape=w.tape) (h3:w'.output=w.output) (h3':w'.drawn=w.drawn) (h4:w'.heap.size=w.heap.size)
   (h5:∀ k,k≠b->w'.heap[k]? = w.heap[k]?) (h6:w'.heap[b]? = some o'):Sym w0 M I0 I (Fw.pto b o' :: l) w':=by
 obtain⟨U,hi,hn,k,⟨g1,g2,hd',hl1,hl2,ha,hs'⟩,hk,hdj,hm⟩:=h;have O:k b=some o:=hl1 _ _ ha
 have V:I b=none:=by
   rcases hdj b with d | d
   . exact d
   . rw[O] at d; cases d
 have D:g2 b=none:=by
   rcases hd' b with d | d
   . rw[show g1 b=some o from ha] at d; cases d
   . exact d
 have K:∀ J:IH,J.le (hp w)->J b=none->J.le (hp w'):=λJ hJ hJb c p e=>by
   have hne:c≠b:=λe'=>by rw[e',hJb] at e; cases e
   show w'.heap[c]? = _;rw[h5 c hne]; exact hJ c p e
 refine⟨⟨h1.trans U.os,h2.trans U.tape,h3.trans U.output,by rw[h3']; exact U.drawn,by rw[h4]; exact U.size,λc Z W=>?_⟩,K I hi V,hn,(FX b o').union g2,⟨FX b o',g2,?_,IH.le_union_left _ _,IH.le_union_right ?_,by simp[Fw.pto,FX],hs'⟩,?_,?_,?_⟩
 . by_cases e:c=b
   . subst e;rcases hm c (by rw[O]; simp) with d | d
     . exact absurd d W
     . omega
   . rw[h5 c e]; exact U.block c Z W
 . intro c;by_cases e:c=b
   . right; rw[e]; exact D
   . left; simp[FX,e]
 . intro c;by_cases e:c=b
   . right; rw[e]; exact D
   . left; simp[FX,e]
 . refine IH.union_le (λc p e=>?_) (K g2 (hl2.trans hk) D);simp only[FX] at e;split at e
   . rename_i d; subst d; cases e; exact h6
   . cases e
 . intro c;by_cases e:c=b
   . left; rw[e]; exact V
   . rcases hdj c with d | d
     . exact .inl d
     . right
       have:g2 c=none:=by
        cases e':g2 c with
        | none=>rfl
        | some p=>rw[hl2 c p e'] at d; cases d
       simp[IH.union,FX,e,this]
 . intro c Z;rcases IH.union_none Z with d | d
   . simp only[FX] at d;split at d
     . rename_i e; subst e; exact hm c (by rw[O]; simp)
     . exact absurd rfl d
   . refine hm c ?_
     cases e:g2 c with
     | none=>exact absurd e d
     | some p=>rw[hl2 c p e]; simp
theorem Sym.publish {A:HA} (h:Sym w0 M I0 I (A :: l) w):∃ I' k,I.le I'∧A.holds I k∧k.le I'∧Sym w0 M I0 I' l w:=by
  obtain⟨hb,hi,hn,k,⟨h1,h2,hd',hl1,hl2,ha,hs'⟩,hk,hdj,hm⟩:=h;have hd1:I.disj h1:=hdj.mono (IH.le.refl _) hl1;have hle:=IH.le_union_left I h1;refine⟨I.union h1,h1,hle,ha,IH.le_union_right hd1,hb,IH.union_le hi (hl1.trans hk),?_,h2,RV hle (IH.le.refl _) hs',hl2.trans hk,?_,?_⟩
  . intro b hb';rcases IH.union_none hb' with h' | h'
    . exact hn b h'
    . rcases hm b (by cases e:h1 b with | none=>exact absurd e h' | some o=>rw[hl1 b o e]; simp) with h'' | h''
      . exact .inr (.inl h'')
      . exact .inr (.inr h'')
  . intro b;rcases hd' b with h' | h'
    . rcases hdj b with h'' | h''
      . left; simp[IH.union,h',h'']
      . right
        cases e:h2 b with
        | none=>rfl
        | some o=>rw[hl2 b o e] at h''; cases h''
    . exact .inr h'
  . intro b hb';exact hm b (by cases e:h2 b with | none=>exact absurd e hb' | some o=>rw[hl2 b o e]; simp)
def S5 (w:World) (M:Nat->Prop) (I:IH) (φ:IH->Value->List HA->Prop):Ending->World->Prop:=
 λe w'=>∃ v d h,e=.returned v∧I.le d∧φ d v h∧Sym w M I d h w'
def Fun (P:Program) (f:FuncId) (args:Array Value) (I:IH) (l:List HA) (φ:IH->Value->List HA->Prop):Prop:=
 ∀ (w:World) (h:IH),I.le (hp w)->QI l I h->h.le (hp w)->I.disj h->Calls P f args w (S5 w (λb=>h b≠none) I φ)
theorem Sym.call {w1:World} {φ:IH->Value->List HA->Prop} {m r:List HA} (h:Sym w0 M I0 I (m++r) w) {e:Ending}
   (k:IH) (hk:∃ K,k.disj K∧K.le (hp w)∧I.disj k∧I.disj K∧QI r I K∧(∀ b,k b≠none->M b∨w0.heap.size<=b)∧(∀ b,K b≠none->M b∨w0.heap.size<=b))
   (ha:S5 w (λb=>k b≠none) I φ e w1):∃ v I' l',e=.returned v∧I.le I'∧φ I' v l'∧Sym w0 M I0 I' (l'++r) w1:=by
 obtain⟨v,I',l',he,hle,hφ,hs⟩:=ha;obtain⟨K,hkd,hk2,hdk,hdk2,hr,Z,hm⟩:=hk;obtain⟨U,hi,hn,_,_,_,_,_⟩:=h;obtain⟨J,hi',hn',k1,hs1,hk1,hd1,hm1⟩:=hs
 have hk2':K.le (hp w1):=λb o eq=>by
   have W:=S4 (hk2 b o eq)
   have hnk:¬k b≠none:=by
     rcases hkd b with D | D
     . simp[D]
     . rw[eq] at D; cases D
   show w1.heap[b]? = _;rw[J.block b W hnk]; exact hk2 b o eq
 have V:∀ b,K b≠none->b<w.heap.size:=λb hb2=>AaY hk2 hb2
 have hI'k2:I'.disj K:=λb=>by
   by_cases e2:K b=none
   . exact .inr e2
   . left
     cases e1:I' b with
     | none=>rfl
     | some o=>
       exfalso;rcases hn' b (by rw[e1]; simp) with D | D | D
       . rcases hdk2 b with d | d
         . exact D d
         . exact e2 d
       . rcases hkd b with d | d
         . exact D d
         . exact e2 d
       . have:=V b e2; omega
 have O:k1.disj K:=λb=>by
   by_cases e2:K b=none
   . exact .inr e2
   . left
     cases e1:k1 b with
     | none=>rfl
     | some o=>
       exfalso;rcases hm1 b (by rw[e1]; simp) with D | D
       . rcases hkd b with d | d
         . exact D d
         . exact e2 d
       . have:=V b e2; omega
 refine⟨v,I',l',he,hle,hφ,⟨J.os.trans U.os,J.tape.trans U.tape,J.output.trans U.output,Nat.le_trans U.drawn J.drawn,Nat.le_trans U.size J.size,λb h1 h2=>?_⟩,hi',λb hbn=>?_,k1.union K,MF.2 ⟨k1,K,O,IH.le_union_left _ _,IH.le_union_right O,hs1,RV hle (IH.le.refl _) hr⟩,IH.union_le hk1 hk2',?_,?_⟩
 . have W:b<w.heap.size:=Nat.lt_of_lt_of_le h1 U.size;by_cases e:k b=none
   . rw[J.block b W (by simp[e])]; exact U.block b h1 h2
   . rcases Z b e with D | D
     . exact absurd D h2
     . omega
 . rcases hn' b hbn with D | D | D
   . exact hn b D
   . rcases Z b D with d | d
     . exact .inr (.inl d)
     . exact .inr (.inr d)
   . exact .inr (.inr (Nat.le_trans U.size D))
 . intro b;rcases hd1 b with D | D
   . exact .inl D
   . rcases hI'k2 b with d | d
     . exact .inl d
     . right; simp[IH.union,D,d]
 . intro b hbn;rcases IH.union_none hbn with D | D
   . rcases hm1 b D with d | d
     . exact Z b d
     . exact .inr (Nat.le_trans U.size d)
   . exact hm b D
theorem Fun.use {P:Program} {f:FuncId} {args:Array Value} {φ:IH->Value->List HA->Prop} {m r:List HA} (hf:Fun P f args I m φ) (h:Sym w0 M I0 I (m++r) w)
  {R:Ending->World->Prop} (hR:∀ v U Z w',I.le U->φ U v Z->Sym w0 M I0 U (Z++r) w'->R (.returned v) w'):Calls P f args w R:=by
 obtain⟨hb,hi,hn,k,hs,hk,V,hm⟩:=h;obtain⟨W,h2,hdj,D,J,hs1,hs2⟩:=MF.1 hs;refine(hf w W hi hs1 (D.trans hk) (V.mono (IH.le.refl _) D)).mono λe w' ha=>?_;have O:∀ b,W b≠none->k b≠none:=λb d=>by cases e':W b with | none=>exact absurd e' d | some o=>rw[D b o e']; simp
 have K:∀ b,h2 b≠none->k b≠none:=λb d=>by cases e':h2 b with | none=>exact absurd e' d | some o=>rw[J b o e']; simp
 obtain⟨v,U,Z,rfl,hle,hφ,hs'⟩:=Sym.call (m:=m) (r:=r) ⟨hb,hi,hn,k,hs,hk,V,hm⟩ W ⟨h2,hdj,J.trans hk,V.mono (IH.le.refl _) D,V.mono (IH.le.refl _) J,hs2,λb d=>hm b (O b d),λb d=>hm b (K b d)⟩ ha;exact hR v U Z w' hle hφ hs'
theorem Fun.start {h:IH} (hi:I.le (hp w)) (D:QI l I h) (d:h.le (hp w)) (J:I.disj h):Sym w (λb=>h b≠none) I I l w:=
 ⟨⟨rfl,rfl,rfl,Nat.le_refl _,Nat.le_refl _,λ_ _ _=>rfl⟩,hi,λ_ h=>.inl h,h,D,d,J,λ_ h=>.inl h⟩
variable {P:Program} {n:FrK} {E:CZ} {S:World→Prop} {Q:Exit→Act→World→Prop}
def Ops (P:Program) (ops:Array Oper) (l:List Oper) (n:FrK) (E:CZ) (S:World->Prop) (Q:Exit->Act->World->Prop):Prop:=
 ∀ a w,Ok n E a->S w->wpListIn (UT n) 0 P ops Q l a w
def Cod (P:Program) (c:Code) (n:FrK) (E:CZ) (S:World->Prop) (Q:Exit->Act->World->Prop):Prop:=
 ∀ a w,Ok n E a->S w->c.wpIn (UT n) 0 P Q a w
theorem MG {b:Frame} {k:List Item} {cs:List Frame} {a:Act} {c:Code}:step P (lone (b.atR a (.code (.scope c) :: k)) cs w)=.next (lone (b.atR a (.code c :: .inScope c :: k)) cs w):=
 step_lone_go (by simp[stepG,stepG.exec,Frame.atR])
theorem qR {b:Frame} {k:List Item} {cs:List Frame} {a:Act} {c:Code}:step P (lone (b.atR a (.inScope c :: k)) cs w)=.next (lone (b.atR a k) cs w):=
 step_lone_go (by simp[stepG,stepG.exec,Frame.atR])
theorem iY {F:Fence} {i:Nat} {c:Code} {a:Act} (h:c.wpIn F i P (Exit.noGoto Q) a w):(Code.scope c).wpIn F i P Q a w:=by
 intro b k cs Z W V;have J:(lone (b.atR a (.code (.scope c) :: k)) cs w).fenced P F:=fenced_calm W V rfl;obtain⟨e,K,O,D,d⟩:=h b (.inScope c :: k) cs Z W V
 cases e with
 | normal=>exact⟨.normal,K,O,D,.head J MG (StepsIn.trans d (.one (fenced_calm W V rfl) qR))⟩
 | exit id=>
  have hx:exitTo id (.inScope c :: k)=exitTo id k:=by simp[exitTo]
  exact⟨.exit id,K,O,D,λk' hk=>.head J MG (d.1 k' (by rw[hx]; exact hk)),
   λU hk=>let ⟨k₁,h1,h2⟩:=d.2 U (by rw[hx]; exact hk); ⟨k₁,h1,.head J MG h2⟩⟩
 | goto l=>exact D.elim
 | ret=>exact⟨_,K,O,D,.of_steps (.one J MG) d⟩
 | panic ch=>exact⟨_,K,O,D,.of_steps (.one J MG) d⟩
 | outgrown=>exact⟨_,K,O,D,.of_steps (.one J MG) d⟩
theorem Cod.at {c:Code} {a:Act} (D:Ok n E a) (d:S w) (h:Cod P c n E S Q):c.wpIn (UT n) 0 P Q a w:=h a w D d
theorem Ops.sub {ops:Array Oper} {l:List Oper} {E':CZ} (d:Sub E' E) (h:Ops P ops l n E' S Q):Ops P ops l n E S Q:=λa w J D=>h a w (J.sub d) D
theorem Cod.pre {c:Code} {d:World->Prop} (D:∀ w,S w->d w) (h:Cod P c n E d Q):Cod P c n E S Q:=λa w K J=>h a w K (D w J)
theorem Ops.pre {ops:Array Oper} {l:List Oper} {d:World->Prop} (D:∀ w,S w->d w) (h:Ops P ops l n E d Q):Ops P ops l n E S Q:=λa w K J=>h a w K (D w J)
theorem Cod.seq {x y:Code} (h:Cod P x n E S (Exit.then (y.wpIn (UT n) 0 P Q) Q)):Cod P (.seq x y) n E S Q:=λa w D d=>wpIn_seq (h a w D d)
theorem Cod.region {l:List Oper} (h:Ops P l.toArray l n E S Q):Cod P (.region id l.toArray false) n E S Q:=λa w D d=>wpIn_region_lit (h a w D d)
theorem Cod.block {c:Code} (h:Cod P c n E S (Exit.inBlock id Q)):Cod P (.block id c) n E S Q:=λa w D d=>wpIn_block (h a w D d)
theorem Cod.scope {c:Code} (h:Cod P c n E S (Exit.noGoto Q)):Cod P (.scope c) n E S Q:=λa w D d=>iY (h a w D d)
theorem Cod.skip' (h:∀ a w,Ok n E a->S w->Q .normal a w):Cod P .skip n E S Q:=λa w D d=>wpIn_skip (h a w D d)
theorem Cod.exit (h:∀ a w,Ok n E a->S w->Q (.exit id) a w):Cod P (.exit id) n E S Q:=λa w D d=>wpIn_exit (h a w D d)
theorem Cod.ret (h:∀ a w,Ok n E a->S w->Q .ret a w):Cod P .ret n E S Q:=λa w D d=>wpIn_ret (h a w D d)
theorem Cod.label' {k:Nat} (h:∀ a w,Ok n E a->S w->Q .normal a w):Cod P (.label k) n E S Q:=λa w D d=>wpIn_label (h a w D d)
theorem Cod.cond {c:Operand} {x y:Code} {t:Bool} (J:ev E c=some (.bool t)) (K:t=true->Cod P x n E S Q) (O:t=false->Cod P y n E S Q):Cod P (.cond c x y) n E S Q:=
 λa w d D=>wpIn_cond_split (d.eval J) (λh=>K h a w d D) (λh=>O h a w d D)
theorem Cod.condT {c:Operand} {x y:Code} (J:ev E c=some (.bool true)) (h:Cod P x n E S Q):Cod P (.cond c x y) n E S Q:=λa w d D=>wpIn_cond_true (d.eval J) (h a w d D)
theorem Cod.condF {c:Operand} {x y:Code} (J:ev E c=some (.bool false)) (h:Cod P y n E S Q):Cod P (.cond c x y) n E S Q:=λa w d D=>wpIn_cond_false (d.eval J) (h a w d D)
theorem Cod.condKT {c:Operand} {x y:Code} {t:Bool} (d:ev E c=some (.bool t)) (D:t=true) (h:Cod P x n E S Q):Cod P (.cond c x y) n E S Q:=Cod.condT (by rw[d,D]) h
theorem Cod.condKF {c:Operand} {x y:Code} {t:Bool} (d:ev E c=some (.bool t)) (D:t=false) (h:Cod P y n E S Q):Cod P (.cond c x y) n E S Q:=Cod.condF (by rw[d,D]) h
theorem Ops.nil' {ops:Array Oper} (h:∀ a w,Ok n E a->S w->Q .normal a w):Ops P ops [] n E S Q:=λa w D d=>h a w D d
theorem eV {o:Oper} {a:Act} {K:Act->World->Prop} {x:Next} {O:World} (D:(execOp a.eval o).run P w=.ok x O) (V:∀ d,x≠.defer d) (h:o.uponIn (UT n) 0 P a K Q (.ok x O)):o.wpIn (UT n) 0 P a w K Q:=by
 have J:∀ c,o.op≠.defer c:=λc U=>by
  unfold execOp at D; rw[U] at D;simp only[Sem.run_bind,Result.andThen] at D;split at D
  . simp at D; exact V _ D.1.symm
  . cases D
 refine⟨λ_ _=>trivial,?_⟩;rw[Oper.semAt_eq _ _ _ J,D]; exact h
def A8 (b:Bool) (A B:Prop):Prop:=(b=true->A)∧(b=false->B)
def PN (d:σ->(σ->Prop)->Prop):Nat->σ->Prop
 | 0,_=>False
 | k+1,s=>d s (PN d k)
def AW (d:σ->(σ->Prop)->Prop) (s:σ):Prop:=∃ k,PN d k s
theorem Cod.loop {c:Code} {d:σ->(σ->Prop)->Prop} {s0:σ} (hd:AW d s0) (J:σ->Act->World->Prop) (h0:∀ a w,Ok n E a->S w->J s0 a w)
  (U:∀ s (next:σ->Prop),d s next->∀ a w,J s a w->c.wpIn (UT n) 0 P (Exit.then (λa' w'=>∃ D,next D∧J D a' w') Q) a w):Cod P (.loop c) n E S Q:=by
 intro a w ho hs
 obtain⟨k,hk⟩:=hd
 have hst:=h0 a w ho hs
 clear h0 ho hs
 obtain⟨μ,hμ⟩:∃ μ:Act->World->Nat,∀ a w,(∃ j s,PN d j s∧J s a w)->∃ s,PN d (μ a w) s∧J s a w∧∀ j D,PN d j D->J D a w->μ a w<=j:=by
  have H:∀ a w,∃ m:Nat,(∃ j s,PN d j s∧J s a w)->∃ s,PN d m s∧J s a w∧∀ j D,PN d j D->J D a w->m<=j:=by
   intro a w
   by_cases hex:∃ j s,PN d j s∧J s a w
   . obtain⟨j,s,hjs⟩:=hex
     suffices h:∀ (b:Nat) (s:σ),PN d b s->J s a w->∃ m s,PN d m s∧J s a w∧∀ j D,PN d j D->J D a w->m<=j by
      obtain⟨m,s,K,W,V⟩:=h j s hjs.1 hjs.2
      exact⟨m,λ_=>⟨s,K,W,V⟩⟩
     intro b
     induction b using Nat.strongRecOn with
     | _ b ih=>
      intro s K W
      by_cases hlt:∃ j D,j<b∧PN d j D∧J D a w
      . obtain⟨j,D,hj,V,Z⟩:=hlt
        exact ih j hj D V Z
      . exact⟨b,s,K,W,λj D V Z=>Nat.le_of_not_lt λhjb=>hlt ⟨j,D,hjb,V,Z⟩⟩
   . exact⟨0,λh=>absurd h hex⟩
  exact⟨λa w=>Classical.choose (H a w),λa w=>Classical.choose_spec (H a w)⟩
 refine wpIn_loop (λa w=>∃ j s,PN d j s∧J s a w) μ ⟨k,s0,hk,hst⟩ λa w hI=>?_
 obtain⟨s,K,W,V⟩:=hμ a w hI
 cases hm:μ a w with
 | zero=>rw[hm] at K; exact K.elim
 | succ m=>
  rw[hm] at K
  refine Code.wpIn_mono (λe a' w' q=>?_) (U s (PN d m) K a w W)
  cases e <;> try exact q
  obtain⟨D,hn,O⟩:=q
  refine⟨⟨m,D,hn,O⟩,?_⟩
  obtain⟨_,_,_,Z⟩:=hμ a' w' ⟨m,D,hn,O⟩
  exact Nat.lt_of_le_of_lt (Z m D hn O) (by omega)
end Go.Fw
