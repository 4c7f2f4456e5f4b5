/- The engine. -/
import Derived.Below
import Derived.Tactics
import Derived.Laws.NewBlocks
import Derived.Scope
import Derived.OrdersIn
import Derived.TacticsIn
import Derived.Laws.Entries
namespace Go.Fw
open Go Go.RowKit
/-! ### Sparse frames -/
variable {id:Nat} {σ:Type}
abbrev D7:=List (Nat×Value)
def look:D7→Nat→Option Value
 | [],_=>none
 | p :: E,t=>bif Nat.beq p.1 t then some p.2 else look E t
def fresh:D7→Nat→Bool
 | [],_=>true
 | p :: E,t=>bif Nat.beq p.1 t then false else fresh E t
def EnvOk:D7→Act→Prop
 | [],_=>True
 | p :: E,a=>a.tmps[p.1]? = some p.2∧EnvOk E a
structure FrK where
 sz:Nat
 marks:List Nat
 round:Option Nat
def mkM (r:Nat):Deferred:={ target:=.collected r,args:=#[] }
abbrev FrK.defs (n:FrK):List Deferred:=n.marks.map mkM
def SP (n:FrK):Fence:={ fn:=fun _=>True,depth:=none,alive:=false,round:=n.round }
structure Ok (n:FrK) (E:D7) (a:Act):Prop where
 size:a.tmps.size=n.sz
 defers:a.defers=n.defs
 env:EnvOk E a
def ev (E:D7):Operand→Option Value
 | .tmp t=>look E t
 | .const c=>some c
 | .global g=>some (.pointer (some ⟨g,0,none⟩))
 | .func f=>some (.func (.func f) #[] #[])
theorem EnvOk.look {E:D7} {a:Act} (h:EnvOk E a) {t:Nat} {v:Value} (D:look E t=some v):a.tmps[t]? = some v:=by
 induction E with
 | nil=>simp [Fw.look] at D
 | cons p E G=>
  obtain ⟨O,J⟩:=h
  simp only [Fw.look] at D
  cases hb:Nat.beq p.1 t with
  | true=>rw [hb] at D; simp at D; have:=Nat.eq_of_beq_eq_true hb; subst this; rw [O,D]
  | false=>rw [hb] at D; exact G J D
theorem Ok.eval {n:FrK} {E:D7} {a:Act} (h:Ok n E a) {x:Operand} {v:Value} (D:ev E x=some v):a.eval x=v:=by
 cases x with
 | tmp t=>
  have:=h.env.look D
  simp only [Act.eval,Array.getD_eq_getD_getElem?,this,Option.getD_some]
 | const c=>exact Option.some.inj D
 | global g=>exact Option.some.inj D
 | func f=>exact Option.some.inj D
theorem EnvOk.put {E:D7} {a:Act} (h:EnvOk E a) {d:Nat} (D:fresh E d=true) (v:Value):EnvOk E (a.put (some d) v):=by
 induction E with
 | nil=>trivial
 | cons p E J=>
  obtain ⟨U,O⟩:=h
  simp only [fresh] at D
  cases hb:Nat.beq p.1 d with
  | true=>rw [hb] at D; simp at D
  | false=>
   rw [hb] at D
   refine ⟨?_,J O D⟩
   have G:¬d=p.1:=fun e=>by rw [e,Nat.beq_refl] at hb; exact absurd hb (by simp)
   simp only [Act.put,Array.getElem?_setIfInBounds,if_neg G,U]
theorem Ok.put {n:FrK} {E:D7} {a:Act} (h:Ok n E a) {d:Nat} (D:Nat.blt d n.sz=true) (G:fresh E d=true) (v:Value):Ok n ((d,v) :: E) (a.put (some d) v):=by
 refine ⟨by simp [Act.put,h.size],by simp [Act.put,h.defers],?_,h.env.put G v⟩
 have:d<a.tmps.size:=by rw [h.size]; simpa [Nat.blt_eq] using D
 simp [Act.put,this]
theorem EnvOk.defers {E:D7} {a:Act} (h:EnvOk E a) (G:List Deferred):EnvOk E { a with defers:=G }:=by
 induction E with
 | nil=>trivial
 | cons p E D=>exact ⟨h.1,D h.2⟩
def Sub:D7→D7→Prop
 | [],_=>True
 | p :: E',E=>look E p.1=some p.2∧Sub E' E
theorem Ok.sub {n:FrK} {E E':D7} {a:Act} (h:Ok n E a) (D:Sub E' E):Ok n E' a:=by
 refine ⟨h.size,h.defers,?_⟩
 induction E' with
 | nil=>trivial
 | cons p E' G=>exact ⟨h.env.look D.1,G D.2⟩
abbrev IH:=Nat→Option Obj
def IH.le (I J:IH):Prop:=∀ b o,I b=some o→J b=some o
theorem IH.le.refl (I:IH):I.le I:=fun _ _ h=>h
theorem IH.le.trans {I J K:IH} (h:I.le J) (k:J.le K):I.le K:=fun b o x=>k b o (h b o x)
def hp (w:World):IH:=fun b=>w.heap[b]?
def IH.disj (I J:IH):Prop:=∀ b,I b=none∨J b=none
theorem IH.disj.mono {I J D G:IH} (h:I.disj J) (hi:D.le I) (O:G.le J):D.disj G:=fun b=>by
 rcases h b with h | h
 · left; cases h':D b with
   | none=>rfl
   | some o=>rw [hi b o h'] at h; cases h
 · right; cases h':G b with
   | none=>rfl
   | some o=>rw [O b o h'] at h; cases h
open Classical in
noncomputable def IH.union (I J:IH):IH:=fun b=>match I b with | some o=>some o | none=>J b
theorem IH.le_union_left (I J:IH):I.le (I.union J):=fun b o h=>by simp [IH.union,h]
theorem IH.le_union_right {I J:IH} (G:I.disj J):J.le (I.union J):=fun b o h=>by
 rcases G b with D | D
 · simp [IH.union,D,h]
 · rw [D] at h; cases h
theorem IH.union_le {I J K:IH} (h:I.le K) (k:J.le K):(I.union J).le K:=fun b o x=>by
 simp only [IH.union] at x
 cases hi:I b with
 | some p=>rw [hi] at x; exact h b o (by rw [hi]; exact x)
 | none=>rw [hi] at x; exact k b o x
theorem IH.union_none {I J:IH} {b:Nat} (h:I.union J b≠none):I b≠none∨J b≠none:=by
 simp only [IH.union] at h
 cases hi:I b with
 | some p=>left; simp
 | none=>rw [hi] at h; right; exact h
structure HA where
 holds:IH→IH→Prop
 mono:∀ {I J h k:IH},I.le J→h.le k→holds I h→holds J k
def OV:List HA→IH→IH→Prop
 | [],_,_=>True
 | A :: l,I,h=>∃ G D,G.disj D∧G.le h∧D.le h∧A.holds I G∧OV l I D
theorem PN {l:List HA} {I J h k:IH} (hI:I.le J) (O:h.le k) (U:OV l I h):OV l J k:=by
 cases l with
 | nil=>trivial
 | cons A l=>
  obtain ⟨h1,h2,hd,D,G,ha,U⟩:=U
  refine ⟨h1,h2,hd,D.trans O,G.trans O,A.mono hI (IH.le.refl _) ha,?_⟩
  clear ha D G hd O
  induction l generalizing h2 with
  | nil=>trivial
  | cons B l ih=>
   obtain ⟨h3,h4,Z,W,Y,hb,V⟩:=U
   exact ⟨h3,h4,Z,W,Y,B.mono hI (IH.le.refl _) hb,ih _ V⟩
theorem LV {l m:List HA} {I h:IH}:OV (l++m) I h↔∃ V U,V.disj U∧V.le h∧U.le h∧OV l I V∧OV m I U:=by
 induction l generalizing h with
 | nil=>
  constructor
  · intro Z; exact ⟨fun _=>none,h,(fun _=>.inl rfl),(fun _ _ x=>nomatch x),IH.le.refl _,trivial,Z⟩
  · rintro ⟨V,U,W,O,J,_,Z⟩; exact PN (IH.le.refl _) J Z
 | cons A l ih=>
  constructor
  · rintro ⟨V,U,W,O,J,ha,Z⟩
    obtain ⟨h3,h4,hd',D,G,hs3,hs4⟩:=ih.1 Z
    refine ⟨V.union h3,h4,?_,IH.union_le O (D.trans J),G.trans J,⟨V,h3,W.mono (IH.le.refl _) D,IH.le_union_left _ _,IH.le_union_right (W.mono (IH.le.refl _) D),ha,hs3⟩,hs4⟩
    intro b
    rcases hd' b with h | h
    · rcases (W.mono (IH.le.refl _) G) b with Y | Y
      · left; simp [IH.union,h,Y]
      · exact .inr Y
    · exact .inr h
  · rintro ⟨V,U,W,O,J,⟨h3,h4,hd',D,G,ha,Z⟩,hm⟩
    refine ⟨h3,h4.union U,?_,D.trans O,IH.union_le (G.trans O) J,ha,ih.2 ⟨h4,U,W.mono G (IH.le.refl _),IH.le_union_left _ _,IH.le_union_right (W.mono G (IH.le.refl _)),Z,hm⟩⟩
    intro b
    rcases hd' b with h | h
    · exact .inl h
    · rcases (W.mono D (IH.le.refl U)) b with Y | Y
      · exact .inl Y
      · right; simp [IH.union,h,Y]
structure AaA (w0:World) (M:Nat→Prop) (w:World):Prop where
 os:w.os=w0.os
 tape:w.tape=w0.tape
 output:w.output=w0.output
 drawn:w0.drawn≤w.drawn
 size:w0.heap.size≤w.heap.size
 block:∀ b,b<w0.heap.size→¬M b→w.heap[b]? = w0.heap[b]?
structure Sym (w0:World) (M:Nat→Prop) (I0 I:IH) (l:List HA) (w:World):Prop where
 base:AaA w0 M w
 imm:I.le (hp w)
 new:∀ b,I b≠none→I0 b≠none∨M b∨w0.heap.size≤b
 own:∃ h,OV l I h∧h.le (hp w)∧I.disj h∧∀ b,h b≠none→M b∨w0.heap.size≤b
variable {w0 w:World} {M:Nat→Prop} {I0 I:IH} {l:List HA}
theorem Q3 {b:Nat} {o:Obj} (h:hp w b=some o):b<w.heap.size:=by
 rcases Nat.lt_or_ge b w.heap.size with D | D
 · exact D
 · simp [hp,Array.getElem?_eq_none D] at h
theorem qK {h:IH} (G:h.le (hp w)) {b:Nat} (D:h b≠none):b<w.heap.size:=by
 cases e:h b with
 | none=>exact absurd e D
 | some o=>exact Q3 (G b o e)
def pto (b:Nat) (o:Obj):HA where
 holds _ h:=h b=some o
 mono:=fun _ hh h=>hh _ _ h
def FM (b:Nat) (o:Obj):IH:=fun k=>if k=b then some o else none
theorem Sym.alloc (h:Sym w0 M I0 I l w) (o:Obj):Sym w0 M I0 I (pto w.heap.size o :: l) (w.alloc o):=by
 obtain ⟨O,hi,Y,k,Z,hk,hd,hm⟩:=h
 have G:∀ (J:IH),J.le (hp w)→J.le (hp (w.alloc o)):=fun J hJ b p e=>by
   have U:=hJ b p e
   have:=Q3 U
   show (w.alloc o).heap[b]? = _
   rw [Below.heap_alloc _ _ _ this]; exact U
 refine ⟨⟨O.os,O.tape,O.output,O.drawn,Nat.le_trans O.size (by simp),fun b W h2=>?_⟩,G I hi,Y,(FM w.heap.size o).union k,⟨FM w.heap.size o,k,?_,IH.le_union_left _ _,IH.le_union_right ?_,by simp [pto,FM],Z⟩,?_,?_,?_⟩
 · rw [Below.heap_alloc _ _ _ (Nat.lt_of_lt_of_le W O.size)]; exact O.block b W h2
 · intro b
   by_cases e:b=w.heap.size
   · right; subst e
     cases U:k w.heap.size with
     | none=>rfl
     | some p=>have:=Q3 (hk _ _ U); omega
   · left; simp [FM,e]
 · intro b
   by_cases e:b=w.heap.size
   · right; subst e
     cases U:k w.heap.size with
     | none=>rfl
     | some p=>have:=Q3 (hk _ _ U); omega
   · left; simp [FM,e]
 · refine IH.union_le (fun b p e=>?_) (G k hk)
   simp only [FM] at e
   split at e
   · rename_i D; subst D; cases e
     show (w.heap.push o)[w.heap.size]? = _
     simp
   · cases e
 · intro b
   by_cases e:b=w.heap.size
   · left; subst e
     cases U:I w.heap.size with
     | none=>rfl
     | some p=>have:=Q3 (hi _ _ U); omega
   · rcases hd b with D | D
     · exact .inl D
     · right; simp [IH.union,FM,e,D]
 · intro b V
   rcases IH.union_none V with D | D
   · simp only [FM] at D
     split at D
     · rename_i e; subst e; exact .inr O.size
     · exact absurd rfl D
   · exact hm b D
theorem Sym.drew (h:Sym w0 M I0 I l w) (n:Nat) (D:w.drawn≤n):Sym w0 M I0 I l { w with drawn:=n }:=
 ⟨⟨h.base.os,h.base.tape,h.base.output,Nat.le_trans h.base.drawn D,h.base.size,h.base.block⟩,h.imm,h.new,h.own⟩
inductive At:List HA→HA→List HA→HA→Prop
 | z {A B:HA} {l:List HA}:At (A :: l) A (B :: l) B
 | s {A B C:HA} {l m:List HA}:At l A m B→At (C :: l) A (C :: m) B
inductive Del:List HA→HA→List HA→Prop
 | z {A:HA} {l:List HA}:Del (A :: l) A l
 | s {A C:HA} {l m:List HA}:Del l A m→Del (C :: l) A (C :: m)
theorem eP {l m:List HA} {A:HA} (O:Del l A m):∀ {h:IH},OV l I h→∃ J Y,J.disj Y∧J.le h∧Y.le h∧A.holds I J∧OV m I Y:=by
 induction O with
 | z=>exact fun hs=>hs
 | s _ ih=>
  rintro h ⟨J,Y,O,Z,V,hc,hs⟩
  obtain ⟨h3,h4,hd',U,G,ha,hm⟩:=ih hs
  refine ⟨h3,J.union h4,?_,U.trans V,IH.union_le Z (G.trans V),ha,J,h4,O.mono (IH.le.refl _) G,IH.le_union_left _ _,IH.le_union_right (O.mono (IH.le.refl _) G),hc,hm⟩
  intro b
  rcases O b with W | W
  · rcases hd' b with D | D
    · exact .inl D
    · right; simp [IH.union,W,D]
  · left
    cases e:h3 b with
    | none=>rfl
    | some o=>rw [U b o e] at W; cases W
theorem At.del {l m:List HA} {A B:HA} (h:At l A m B):∃ r,Del l A r∧Del m B r:=by
 induction h with
 | z=>exact ⟨_,.z,.z⟩
 | s _ D=>obtain ⟨r,J,G⟩:=D; exact ⟨_,.s J,.s G⟩
theorem qL {l m:List HA} {A:HA} (O:Del l A m):∀ {h V Z:IH},V.disj Z→V.le h→Z.le h→A.holds I V→OV m I Z→OV l I h:=by
 induction O with
 | z=>exact fun O J D ha hs=>⟨_,_,O,J,D,ha,hs⟩
 | s _ ih=>
  rintro h V Z O J D ha ⟨h3,h4,hd',W,U,hc,hm⟩
  refine ⟨h3,V.union h4,?_,W.trans D,IH.union_le J (U.trans D),hc,ih (O.mono (IH.le.refl _) U) (IH.le_union_left _ _) (IH.le_union_right (O.mono (IH.le.refl _) U)) ha hm⟩
  intro b
  rcases O b with Y | Y
  · rcases hd' b with G | G
    · exact .inl G
    · right; simp [IH.union,Y,G]
  · left
    cases e:h3 b with
    | none=>rfl
    | some o=>rw [W b o e] at Y; cases Y
theorem Sym.del (h:Sym w0 M I0 I l w) {m:List HA} {A:HA} (hd:Del l A m):Sym w0 M I0 I (A :: m) w:=by
 obtain ⟨V,hi,Y,k,Z,hk,D,hm⟩:=h
 obtain ⟨W,h2,U,G,O,ha,J⟩:=eP hd Z
 exact ⟨V,hi,Y,k,⟨W,h2,U,G,O,ha,J⟩,hk,D,hm⟩
theorem Sym.undel {m:List HA} {A:HA} (h:Sym w0 M I0 I (A :: m) w) (D:Del l A m):Sym w0 M I0 I l w:=by
 obtain ⟨G,hi,J,k,⟨h1,h2,hd',hl1,hl2,ha,hs'⟩,hk,hdj,hm⟩:=h
 exact ⟨G,hi,J,k,qL D hd' hl1 hl2 ha hs',hk,hdj,hm⟩
theorem Sym.drop {A:HA} (h:Sym w0 M I0 I (A :: l) w):Sym w0 M I0 I l w:=by
 obtain ⟨D,hi,G,k,⟨h1,h2,hd',hl1,hl2,ha,hs'⟩,hk,hdj,hm⟩:=h
 exact ⟨D,hi,G,k,PN (IH.le.refl _) hl2 hs',hk,hdj,hm⟩
theorem Sym.get {A:HA} (h:Sym w0 M I0 I (A :: l) w):∃ k,A.holds I k∧k.le (hp w):=by
 obtain ⟨hb,hi,hn,k,⟨h1,h2,hd',hl1,hl2,ha,hs'⟩,hk,hdj,hm⟩:=h
 exact ⟨h1,ha,hl1.trans hk⟩
theorem Sym.pto {b:Nat} {o:Obj} (h:Sym w0 M I0 I (pto b o :: l) w):w.heap[b]? = some o:=by
 obtain ⟨k,hk,D⟩:=h.get
 exact D _ _ hk
theorem Sym.weaken {A B:HA} (h:Sym w0 M I0 I (A :: l) w) (D:∀ k,A.holds I k→B.holds I k):Sym w0 M I0 I (B :: l) w:=by
 obtain ⟨G,hi,J,k,⟨h1,h2,hd',hl1,hl2,ha,hs'⟩,hk,hdj,hm⟩:=h
 exact ⟨G,hi,J,k,⟨h1,h2,hd',hl1,hl2,D _ ha,hs'⟩,hk,hdj,hm⟩
theorem Sym.upd {b:Nat} {o o':Obj} {w':World} (h:Sym w0 M I0 I (Fw.pto b o :: l) w) (h1:w'.os=w.os) (h2:w'.tape=w.tape) (h3:w'.output=w.output) (h3':w'.drawn=w.drawn) (h4:w'.heap.size=w.heap.size)
   (h5:∀ k,k≠b→w'.heap[k]? = w.heap[k]?) (h6:w'.heap[b]? = some o'):Sym w0 M I0 I (Fw.pto b o' :: l) w':=by
 obtain ⟨V,hi,hn,k,⟨g1,g2,hd',hl1,hl2,ha,hs'⟩,hk,hdj,hm⟩:=h
 have U:k b=some o:=hl1 _ _ ha
 have Y:I b=none:=by
   rcases hdj b with D | D
   · exact D
   · rw [U] at D; cases D
 have G:g2 b=none:=by
   rcases hd' b with D | D
   · rw [show g1 b=some o from ha] at D; cases D
   · exact D
 have O:∀ J:IH,J.le (hp w)→J b=none→J.le (hp w'):=fun J hJ hJb c p e=>by
   have hne:c≠b:=fun Z=>by rw [Z,hJb] at e; cases e
   show w'.heap[c]? = _
   rw [h5 c hne]; exact hJ c p e
 refine ⟨⟨h1.trans V.os,h2.trans V.tape,h3.trans V.output,by rw [h3']; exact V.drawn,by rw [h4]; exact V.size,fun c hc W=>?_⟩,O I hi Y,hn,(FM b o').union g2,⟨FM b o',g2,?_,IH.le_union_left _ _,IH.le_union_right ?_,by simp [Fw.pto,FM],hs'⟩,?_,?_,?_⟩
 · by_cases e:c=b
   · subst e
     rcases hm c (by rw [U]; simp) with D | D
     · exact absurd D W
     · omega
   · rw [h5 c e]; exact V.block c hc W
 · intro c
   by_cases e:c=b
   · right; rw [e]; exact G
   · left; simp [FM,e]
 · intro c
   by_cases e:c=b
   · right; rw [e]; exact G
   · left; simp [FM,e]
 · refine IH.union_le (fun c p e=>?_) (O g2 (hl2.trans hk) G)
   simp only [FM] at e
   split at e
   · rename_i D; subst D; cases e; exact h6
   · cases e
 · intro c
   by_cases e:c=b
   · left; rw [e]; exact Y
   · rcases hdj c with D | D
     · exact .inl D
     · right
       have:g2 c=none:=by
        cases Z:g2 c with
        | none=>rfl
        | some p=>rw [hl2 c p Z] at D; cases D
       simp [IH.union,FM,e,this]
 · intro c hc
   rcases IH.union_none hc with D | D
   · simp only [FM] at D
     split at D
     · rename_i e; subst e; exact hm c (by rw [U]; simp)
     · exact absurd rfl D
   · refine hm c ?_
     cases e:g2 c with
     | none=>exact absurd e D
     | some p=>rw [hl2 c p e]; simp
theorem Sym.publish {A:HA} (h:Sym w0 M I0 I (A :: l) w):∃ I' k,I.le I'∧A.holds I k∧k.le I'∧Sym w0 M I0 I' l w:=by
  obtain ⟨hb,hi,hn,k,⟨h1,h2,hd',hl1,hl2,ha,hs'⟩,hk,hdj,hm⟩:=h
  have hd1:I.disj h1:=hdj.mono (IH.le.refl _) hl1
  have hle:=IH.le_union_left I h1
  refine ⟨I.union h1,h1,hle,ha,IH.le_union_right hd1,hb,IH.union_le hi (hl1.trans hk),?_,h2,PN hle (IH.le.refl _) hs',hl2.trans hk,?_,?_⟩
  · intro b hb'
    rcases IH.union_none hb' with h' | h'
    · exact hn b h'
    · rcases hm b (by cases e:h1 b with | none=>exact absurd e h' | some o=>rw [hl1 b o e]; simp) with h'' | h''
      · exact .inr (.inl h'')
      · exact .inr (.inr h'')
  · intro b
    rcases hd' b with h' | h'
    · rcases hdj b with h'' | h''
      · left; simp [IH.union,h',h'']
      · right
        cases e:h2 b with
        | none=>rfl
        | some o=>rw [hl2 b o e] at h''; cases h''
    · exact .inr h'
  · intro b hb'
    exact hm b (by cases e:h2 b with | none=>exact absurd e hb' | some o=>rw [hl2 b o e]; simp)
def RQ (w:World) (M:Nat→Prop) (I:IH) (φ:IH→Value→List HA→Prop):Ending→World→Prop:=
 fun e w'=>∃ v h D,e=.returned v∧I.le h∧φ h v D∧Sym w M I h D w'
def Fun (P:Program) (f:FuncId) (args:Array Value) (I:IH) (l:List HA) (φ:IH→Value→List HA→Prop):Prop:=
 ∀ (w:World) (h:IH),I.le (hp w)→OV l I h→h.le (hp w)→I.disj h→Calls P f args w (RQ w (fun b=>h b≠none) I φ)
theorem Sym.call {w1:World} {φ:IH→Value→List HA→Prop} {m r:List HA} (h:Sym w0 M I0 I (m++r) w) {e:Ending}
   (k:IH) (hk:∃ O,k.disj O∧O.le (hp w)∧I.disj k∧I.disj O∧OV r I O∧(∀ b,k b≠none→M b∨w0.heap.size≤b)∧(∀ b,O b≠none→M b∨w0.heap.size≤b))
   (ha:RQ w (fun b=>k b≠none) I φ e w1):∃ v I' l',e=.returned v∧I.le I'∧φ I' v l'∧Sym w0 M I0 I' (l'++r) w1:=by
 obtain ⟨v,I',l',he,hle,hφ,hs⟩:=ha
 obtain ⟨O,hkd,Y,hdk,hdk2,hr,hmk,hm⟩:=hk
 obtain ⟨V,hi,hn,_,_,_,_,_⟩:=h
 obtain ⟨J,hi',hn',k1,hs1,hk1,hd1,hm1⟩:=hs
 have hk2':O.le (hp w1):=fun b o eq=>by
   have Z:=Q3 (Y b o eq)
   have hnk:¬k b≠none:=by
     rcases hkd b with G | G
     · simp [G]
     · rw [eq] at G; cases G
   show w1.heap[b]? = _
   rw [J.block b Z hnk]; exact Y b o eq
 have W:∀ b,O b≠none→b<w.heap.size:=fun b hb2=>qK Y hb2
 have hI'k2:I'.disj O:=fun b=>by
   by_cases e2:O b=none
   · exact .inr e2
   · left
     cases e1:I' b with
     | none=>rfl
     | some o=>
       exfalso
       rcases hn' b (by rw [e1]; simp) with G | G | G
       · rcases hdk2 b with D | D
         · exact G D
         · exact e2 D
       · rcases hkd b with D | D
         · exact G D
         · exact e2 D
       · have:=W b e2; omega
 have U:k1.disj O:=fun b=>by
   by_cases e2:O b=none
   · exact .inr e2
   · left
     cases e1:k1 b with
     | none=>rfl
     | some o=>
       exfalso
       rcases hm1 b (by rw [e1]; simp) with G | G
       · rcases hkd b with D | D
         · exact G D
         · exact e2 D
       · have:=W b e2; omega
 refine ⟨v,I',l',he,hle,hφ,⟨J.os.trans V.os,J.tape.trans V.tape,J.output.trans V.output,Nat.le_trans V.drawn J.drawn,Nat.le_trans V.size J.size,fun b h1 h2=>?_⟩,hi',fun b hbn=>?_,k1.union O,LV.2 ⟨k1,O,U,IH.le_union_left _ _,IH.le_union_right U,hs1,PN hle (IH.le.refl _) hr⟩,IH.union_le hk1 hk2',?_,?_⟩
 · have Z:b<w.heap.size:=Nat.lt_of_lt_of_le h1 V.size
   by_cases e:k b=none
   · rw [J.block b Z (by simp [e])]; exact V.block b h1 h2
   · rcases hmk b e with G | G
     · exact absurd G h2
     · omega
 · rcases hn' b hbn with G | G | G
   · exact hn b G
   · rcases hmk b G with D | D
     · exact .inr (.inl D)
     · exact .inr (.inr D)
   · exact .inr (.inr (Nat.le_trans V.size G))
 · intro b
   rcases hd1 b with G | G
   · exact .inl G
   · rcases hI'k2 b with D | D
     · exact .inl D
     · right; simp [IH.union,G,D]
 · intro b hbn
   rcases IH.union_none hbn with G | G
   · rcases hm1 b G with D | D
     · exact hmk b D
     · exact .inr (Nat.le_trans V.size D)
   · exact hm b G
theorem Fun.use {P:Program} {f:FuncId} {args:Array Value} {φ:IH→Value→List HA→Prop} {m r:List HA} (hf:Fun P f args I m φ) (h:Sym w0 M I0 I (m++r) w)
  {R:Ending→World→Prop} (hR:∀ v O Z w',I.le O→φ O v Z→Sym w0 M I0 O (Z++r) w'→R (.returned v) w'):Calls P f args w R:=by
 obtain ⟨hb,hi,hn,k,hs,hk,Y,hm⟩:=h
 obtain ⟨W,h2,hdj,G,J,hs1,hs2⟩:=LV.1 hs
 refine (hf w W hi hs1 (G.trans hk) (Y.mono (IH.le.refl _) G)).mono fun e w' ha=>?_
 have V:∀ b,W b≠none→k b≠none:=fun b D=>by cases e':W b with | none=>exact absurd e' D | some o=>rw [G b o e']; simp
 have U:∀ b,h2 b≠none→k b≠none:=fun b D=>by cases e':h2 b with | none=>exact absurd e' D | some o=>rw [J b o e']; simp
 obtain ⟨v,O,Z,rfl,hle,hφ,hs'⟩:=Sym.call (m:=m) (r:=r) ⟨hb,hi,hn,k,hs,hk,Y,hm⟩ W ⟨h2,hdj,J.trans hk,Y.mono (IH.le.refl _) G,Y.mono (IH.le.refl _) J,hs2,fun b D=>hm b (V b D),fun b D=>hm b (U b D)⟩ ha
 exact hR v O Z w' hle hφ hs'
theorem Fun.start {h:IH} (hi:I.le (hp w)) (J:OV l I h) (G:h.le (hp w)) (D:I.disj h):Sym w (fun b=>h b≠none) I I l w:=
 ⟨⟨rfl,rfl,rfl,Nat.le_refl _,Nat.le_refl _,fun _ _ _=>rfl⟩,hi,fun _ h=>.inl h,h,J,G,D,fun _ h=>.inl h⟩
variable {P:Program} {n:FrK} {E:D7} {S:World→Prop} {Q:Exit→Act→World→Prop}
def Ops (P:Program) (ops:Array Oper) (l:List Oper) (n:FrK) (E:D7) (S:World→Prop) (Q:Exit→Act→World→Prop):Prop:=
 ∀ a w,Ok n E a→S w→wpListIn (SP n) 0 P ops Q l a w
def Cod (P:Program) (c:Code) (n:FrK) (E:D7) (S:World→Prop) (Q:Exit→Act→World→Prop):Prop:=
 ∀ a w,Ok n E a→S w→c.wpIn (SP n) 0 P Q a w
theorem Cod.at {c:Code} {a:Act} (D:Ok n E a) (G:S w) (h:Cod P c n E S Q):c.wpIn (SP n) 0 P Q a w:=h a w D G
theorem Cod.sub {c:Code} {E':D7} (J:Sub E' E) (h:Cod P c n E' S Q):Cod P c n E S Q:=fun a w D G=>h a w (D.sub J) G
theorem Ops.sub {ops:Array Oper} {l:List Oper} {E':D7} (J:Sub E' E) (h:Ops P ops l n E' S Q):Ops P ops l n E S Q:=fun a w D G=>h a w (D.sub J) G
theorem Cod.pre {c:Code} {D:World→Prop} (O:∀ w,S w→D w) (h:Cod P c n E D Q):Cod P c n E S Q:=fun a w G J=>h a w G (O w J)
theorem Ops.pre {ops:Array Oper} {l:List Oper} {D:World→Prop} (O:∀ w,S w→D w) (h:Ops P ops l n E D Q):Ops P ops l n E S Q:=fun a w G J=>h a w G (O w J)
theorem Cod.seq {x y:Code} (h:Cod P x n E S (Exit.then (y.wpIn (SP n) 0 P Q) Q)):Cod P (.seq x y) n E S Q:=fun a w D G=>wpIn_seq (h a w D G)
theorem Cod.region {l:List Oper} (h:Ops P l.toArray l n E S Q):Cod P (.region id l.toArray false) n E S Q:=fun a w D G=>wpIn_region_lit (h a w D G)
theorem Cod.block {c:Code} (h:Cod P c n E S (Exit.inBlock id Q)):Cod P (.block id c) n E S Q:=fun a w D G=>wpIn_block (h a w D G)
theorem Cod.skip' (h:∀ a w,Ok n E a→S w→Q .normal a w):Cod P .skip n E S Q:=fun a w D G=>wpIn_skip (h a w D G)
theorem Cod.exit (h:∀ a w,Ok n E a→S w→Q (.exit id) a w):Cod P (.exit id) n E S Q:=fun a w D G=>wpIn_exit (h a w D G)
theorem Cod.ret (h:∀ a w,Ok n E a→S w→Q .ret a w):Cod P .ret n E S Q:=fun a w D G=>wpIn_ret (h a w D G)
theorem Cod.cond {c:Operand} {x y:Code} {t:Bool} (O:ev E c=some (.bool t)) (J:t=true→Cod P x n E S Q) (U:t=false→Cod P y n E S Q):Cod P (.cond c x y) n E S Q:=
 fun a w D G=>wpIn_cond_split (D.eval O) (fun h=>J h a w D G) (fun h=>U h a w D G)
theorem Cod.condT {c:Operand} {x y:Code} (G:ev E c=some (.bool true)) (h:Cod P x n E S Q):Cod P (.cond c x y) n E S Q:=fun a w D J=>wpIn_cond_true (D.eval G) (h a w D J)
theorem Cod.condF {c:Operand} {x y:Code} (G:ev E c=some (.bool false)) (h:Cod P y n E S Q):Cod P (.cond c x y) n E S Q:=fun a w D J=>wpIn_cond_false (D.eval G) (h a w D J)
theorem Cod.condKT {c:Operand} {x y:Code} {t:Bool} (G:ev E c=some (.bool t)) (D:t=true) (h:Cod P x n E S Q):Cod P (.cond c x y) n E S Q:=Cod.condT (by rw [G,D]) h
theorem Cod.condKF {c:Operand} {x y:Code} {t:Bool} (G:ev E c=some (.bool t)) (D:t=false) (h:Cod P y n E S Q):Cod P (.cond c x y) n E S Q:=Cod.condF (by rw [G,D]) h
theorem Ops.nil' {ops:Array Oper} (h:∀ a w,Ok n E a→S w→Q .normal a w):Ops P ops [] n E S Q:=fun a w D G=>h a w D G
theorem Z3 {o:Oper} {a:Act} {K:Act→World→Prop} {x:Next} {J:World} (D:(execOp a.eval o).run P w=.ok x J) (U:∀ d,x≠.defer d) (h:o.uponIn (SP n) 0 P a K Q (.ok x J)):o.wpIn (SP n) 0 P a w K Q:=by
 have G:∀ c,o.op≠.defer c:=fun c O=>by
  unfold execOp at D; rw [O] at D
  simp only [Sem.run_bind,Result.andThen] at D
  split at D
  · simp at D; exact U _ D.1.symm
  · cases D
 refine ⟨fun _ _=>trivial,?_⟩
 rw [Oper.semAt_eq _ _ _ G,D]; exact h
def AD (b:Bool) (A B:Prop):Prop:=(b=true→A)∧(b=false→B)
def N9 (h:σ→(σ→Prop)→Prop):Nat→σ→Prop
 | 0,_=>False
 | k+1,s=>h s (N9 h k)
def B2 (h:σ→(σ→Prop)→Prop) (s:σ):Prop:=∃ k,N9 h k s
theorem Cod.loop {c:Code} {D:σ→(σ→Prop)→Prop} {s0:σ} (hd:B2 D s0) (J:σ→Act→World→Prop) (h0:∀ a w,Ok n E a→S w→J s0 a w)
  (V:∀ s (next:σ→Prop),D s next→∀ a w,J s a w→c.wpIn (SP n) 0 P (Exit.then (fun a' w'=>∃ G,next G∧J G a' w') Q) a w):Cod P (.loop c) n E S Q:=by
 intro a w ho hs
 obtain ⟨k,hk⟩:=hd
 have hst:=h0 a w ho hs
 clear h0 ho hs
 obtain ⟨μ,hμ⟩:∃ μ:Act→World→Nat,∀ a w,(∃ j s,N9 D j s∧J s a w)→∃ s,N9 D (μ a w) s∧J s a w∧∀ j G,N9 D j G→J G a w→μ a w≤j:=by
  have H:∀ a w,∃ m:Nat,(∃ j s,N9 D j s∧J s a w)→∃ s,N9 D m s∧J s a w∧∀ j G,N9 D j G→J G a w→m≤j:=by
   intro a w
   by_cases hex:∃ j s,N9 D j s∧J s a w
   · obtain ⟨j,s,Y⟩:=hex
     suffices h:∀ (b:Nat) (s:σ),N9 D b s→J s a w→∃ m s,N9 D m s∧J s a w∧∀ j G,N9 D j G→J G a w→m≤j by
      obtain ⟨m,s,O,Z,W⟩:=h j s Y.1 Y.2
      exact ⟨m,fun _=>⟨s,O,Z,W⟩⟩
     intro b
     induction b using Nat.strongRecOn with
     | _ b ih=>
      intro s O Z
      by_cases hlt:∃ j G,j<b∧N9 D j G∧J G a w
      · obtain ⟨j,G,hj,W,h4⟩:=hlt
        exact ih j hj G W h4
      · exact ⟨b,s,O,Z,fun j G W h4=>Nat.le_of_not_lt fun hjb=>hlt ⟨j,G,hjb,W,h4⟩⟩
   · exact ⟨0,fun h=>absurd h hex⟩
  exact ⟨fun a w=>Classical.choose (H a w),fun a w=>Classical.choose_spec (H a w)⟩
 refine wpIn_loop (fun a w=>∃ j s,N9 D j s∧J s a w) μ ⟨k,s0,hk,hst⟩ fun a w hI=>?_
 obtain ⟨s,O,Z,W⟩:=hμ a w hI
 cases hm:μ a w with
 | zero=>rw [hm] at O; exact O.elim
 | succ m=>
  rw [hm] at O
  refine Code.wpIn_mono (fun e a' w' q=>?_) (V s (N9 D m) O a w Z)
  cases e <;> try exact q
  obtain ⟨G,hn,U⟩:=q
  refine ⟨⟨m,G,hn,U⟩,?_⟩
  obtain ⟨_,_,_,h4⟩:=hμ a' w' ⟨m,G,hn,U⟩
  exact Nat.lt_of_le_of_lt (h4 m G hn U) (by omega)
end Go.Fw
