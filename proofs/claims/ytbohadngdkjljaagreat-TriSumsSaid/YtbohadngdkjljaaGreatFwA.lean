/- The engine, part A: sparse frames, memory in the manner of separation, and the rules of control. No program in sight. -/
import Derived.Below
import Derived.Tactics
import Derived.Laws.NewBlocks
import Derived.Scope
import Derived.OrdersIn
import Derived.TacticsIn
import Derived.Laws.Entries
namespace Go.Fw
open Go Go.RowKit
/-! ### Sparse frames -/
abbrev DH:=List (Nat×Value)
def look:DH→Nat→Option Value
  | [],_=>none
  | p :: E,t=>bif Nat.beq p.1 t then some p.2 else look E t
def fresh:DH→Nat→Bool
  | [],_=>true
  | p :: E,t=>bif Nat.beq p.1 t then false else fresh E t
def EnvOk:DH→Act→Prop
  | [],_=>True
  | p :: E,a=>a.tmps[p.1]? = some p.2∧EnvOk E a
structure FrK where
  sz:Nat
  marks:List Nat
  round:Option Nat
def mkM (r:Nat):Deferred:={ target:=.collected r,args:=#[] }
abbrev FrK.defs (n:FrK):List Deferred:=n.marks.map mkM
def RJ (n:FrK):Fence:={ fn:=fun _=>True,depth:=none,alive:=false,round:=n.round }
structure Ok (n:FrK) (E:DH) (a:Act):Prop where
  size:a.tmps.size=n.sz
  defers:a.defers=n.defs
  env:EnvOk E a
def ev (E:DH):Operand→Option Value
  | .tmp t=>look E t
  | .const c=>some c
  | .global g=>some (.pointer (some ⟨g,0,none⟩))
  | .func f=>some (.func (.func f) #[] #[])
theorem EnvOk.look {E:DH} {a:Act} (h:EnvOk E a) {t:Nat} {v:Value} (hl:look E t=some v):a.tmps[t]? = some v:=by
  induction E with
  | nil=>simp [Fw.look] at hl
  | cons p E ih=>
    obtain ⟨h1,h2⟩:=h
    simp only [Fw.look] at hl
    cases hb:Nat.beq p.1 t with
    | true=>rw [hb] at hl; simp at hl; have:=Nat.eq_of_beq_eq_true hb; subst this; rw [h1,hl]
    | false=>rw [hb] at hl; exact ih h2 hl
theorem Ok.eval {n:FrK} {E:DH} {a:Act} (h:Ok n E a) {x:Operand} {v:Value} (hl:ev E x=some v):a.eval x=v:=by
  cases x with
  | tmp t=>
    have:=h.env.look hl
    simp only [Act.eval,Array.getD_eq_getD_getElem?,this,Option.getD_some]
  | const c=>exact Option.some.inj hl
  | global g=>exact Option.some.inj hl
  | func f=>exact Option.some.inj hl
theorem EnvOk.put {E:DH} {a:Act} (h:EnvOk E a) {d:Nat} (hf:fresh E d=true) (v:Value):EnvOk E (a.put (some d) v):=by
  induction E with
  | nil=>trivial
  | cons p E ih=>
    obtain ⟨h1,h2⟩:=h
    simp only [fresh] at hf
    cases hb:Nat.beq p.1 d with
    | true=>rw [hb] at hf; simp at hf
    | false=>
      rw [hb] at hf
      refine ⟨?_,ih h2 hf⟩
      have hne:¬d=p.1:=fun e=>by rw [e,Nat.beq_refl] at hb; exact absurd hb (by simp)
      simp only [Act.put,Array.getElem?_setIfInBounds,if_neg hne,h1]
theorem Ok.put {n:FrK} {E:DH} {a:Act} (h:Ok n E a) {d:Nat} (hd:Nat.blt d n.sz=true) (hf:fresh E d=true) (v:Value):Ok n ((d,v) :: E) (a.put (some d) v):=by
  refine ⟨by simp [Act.put,h.size],by simp [Act.put,h.defers],?_,h.env.put hf v⟩
  have:d<a.tmps.size:=by rw [h.size]; simpa [Nat.blt_eq] using hd
  simp [Act.put,this]
theorem EnvOk.defers {E:DH} {a:Act} (h:EnvOk E a) (ds:List Deferred):EnvOk E { a with defers:=ds }:=by
  induction E with
  | nil=>trivial
  | cons p E ih=>exact ⟨h.1,ih h.2⟩
def Sub:DH→DH→Prop
  | [],_=>True
  | p :: E',E=>look E p.1=some p.2∧Sub E' E
theorem Ok.sub {n:FrK} {E E':DH} {a:Act} (h:Ok n E a) (hs:Sub E' E):Ok n E' a:=by
  refine ⟨h.size,h.defers,?_⟩
  induction E' with
  | nil=>trivial
  | cons p E' ih=>exact ⟨h.env.look hs.1,ih hs.2⟩
abbrev IH:=Nat→Option Obj
def IH.le (I J:IH):Prop:=∀ b o,I b=some o→J b=some o
theorem IH.le.refl (I:IH):I.le I:=fun _ _ h=>h
theorem IH.le.trans {I J K:IH} (h:I.le J) (k:J.le K):I.le K:=fun b o x=>k b o (h b o x)
def hp (w:World):IH:=fun b=>w.heap[b]?
def IH.disj (I J:IH):Prop:=∀ b,I b=none∨J b=none
theorem IH.disj.symm {I J:IH} (h:I.disj J):J.disj I:=fun b=>(h b).symm
theorem IH.disj.mono {I J I' J':IH} (h:I.disj J) (hi:I'.le I) (hj:J'.le J):I'.disj J':=fun b=>by
  rcases h b with h | h
  · left; cases h':I' b with
    | none=>rfl
    | some o=>rw [hi b o h'] at h; cases h
  · right; cases h':J' b with
    | none=>rfl
    | some o=>rw [hj b o h'] at h; cases h
open Classical in
noncomputable def IH.union (I J:IH):IH:=fun b=>match I b with | some o=>some o | none=>J b
theorem IH.le_union_left (I J:IH):I.le (I.union J):=fun b o h=>by simp [IH.union,h]
theorem IH.le_union_right {I J:IH} (hd:I.disj J):J.le (I.union J):=fun b o h=>by
  rcases hd b with h' | h'
  · simp [IH.union,h',h]
  · rw [h'] at h; cases h
theorem IH.union_le {I J K:IH} (h:I.le K) (k:J.le K):(I.union J).le K:=fun b o x=>by
  simp only [IH.union] at x
  cases hi:I b with
  | some p=>rw [hi] at x; exact h b o (by rw [hi]; exact x)
  | none=>rw [hi] at x; exact k b o x
theorem IH.union_none {I J:IH} {b:Nat} (h:I.union J b≠none):I b≠none∨J b≠none:=by
  simp only [IH.union] at h
  cases hi:I b with
  | some p=>left; simp
  | none=>rw [hi] at h; right; exact h
structure HA where
  holds:IH→IH→Prop
  mono:∀ {I J h k:IH},I.le J→h.le k→holds I h→holds J k
def MQ:List HA→IH→IH→Prop
  | [],_,_=>True
  | A :: l,I,h=>∃ h1 h2,h1.disj h2∧h1.le h∧h2.le h∧A.holds I h1∧MQ l I h2
theorem KJ {l:List HA} {I J h k:IH} (hI:I.le J) (hh:h.le k) (hs:MQ l I h):MQ l J k:=by
  cases l with
  | nil=>trivial
  | cons A l=>
    obtain ⟨h1,h2,hd,hl1,hl2,ha,hs⟩:=hs
    refine ⟨h1,h2,hd,hl1.trans hh,hl2.trans hh,A.mono hI (IH.le.refl _) ha,?_⟩
    clear ha hl1 hl2 hd hh
    induction l generalizing h2 with
    | nil=>trivial
    | cons B l ih=>
      obtain ⟨h3,h4,hd',hl3,hl4,hb,hs'⟩:=hs
      exact ⟨h3,h4,hd',hl3,hl4,B.mono hI (IH.le.refl _) hb,ih _ hs'⟩
theorem MD {l m:List HA} {I h:IH}:MQ (l++m) I h↔∃ h1 h2,h1.disj h2∧h1.le h∧h2.le h∧MQ l I h1∧MQ m I h2:=by
  induction l generalizing h with
  | nil=>
    constructor
    · intro hs; exact ⟨fun _=>none,h,(fun _=>.inl rfl),(fun _ _ x=>nomatch x),IH.le.refl _,trivial,hs⟩
    · rintro ⟨h1,h2,hd,hl1,hl2,_,hs⟩; exact KJ (IH.le.refl _) hl2 hs
  | cons A l ih=>
    constructor
    · rintro ⟨h1,h2,hd,hl1,hl2,ha,hs⟩
      obtain ⟨h3,h4,hd',hl3,hl4,hs3,hs4⟩:=ih.1 hs
      refine ⟨h1.union h3,h4,?_,IH.union_le hl1 (hl3.trans hl2),hl4.trans hl2,⟨h1,h3,hd.mono (IH.le.refl _) hl3,IH.le_union_left _ _,IH.le_union_right (hd.mono (IH.le.refl _) hl3),ha,hs3⟩,hs4⟩
      intro b
      rcases hd' b with h | h
      · rcases (hd.mono (IH.le.refl _) hl4) b with h' | h'
        · left; simp [IH.union,h,h']
        · exact .inr h'
      · exact .inr h
    · rintro ⟨h1,h2,hd,hl1,hl2,⟨h3,h4,hd',hl3,hl4,ha,hs⟩,hm⟩
      refine ⟨h3,h4.union h2,?_,hl3.trans hl1,IH.union_le (hl4.trans hl1) hl2,ha,ih.2 ⟨h4,h2,hd.mono hl4 (IH.le.refl _),IH.le_union_left _ _,IH.le_union_right (hd.mono hl4 (IH.le.refl _)),hs,hm⟩⟩
      intro b
      rcases hd' b with h | h
      · exact .inl h
      · rcases (hd.mono hl3 (IH.le.refl h2)) b with h' | h'
        · exact .inl h'
        · right; simp [IH.union,h,h']
structure Ae1 (w0:World) (M:Nat→Prop) (w:World):Prop where
  os:w.os=w0.os
  tape:w.tape=w0.tape
  output:w.output=w0.output
  drawn:w0.drawn≤w.drawn
  size:w0.heap.size≤w.heap.size
  block:∀ b,b<w0.heap.size→¬M b→w.heap[b]? = w0.heap[b]?
structure Sym (w0:World) (M:Nat→Prop) (I0 I:IH) (l:List HA) (w:World):Prop where
  base:Ae1 w0 M w
  imm:I.le (hp w)
  new:∀ b,I b≠none→I0 b≠none∨M b∨w0.heap.size≤b
  own:∃ h,MQ l I h∧h.le (hp w)∧I.disj h∧∀ b,h b≠none→M b∨w0.heap.size≤b
variable {w0 w:World} {M:Nat→Prop} {I0 I:IH} {l:List HA}
theorem RW {b:Nat} {o:Obj} (h:hp w b=some o):b<w.heap.size:=by
  rcases Nat.lt_or_ge b w.heap.size with h' | h'
  · exact h'
  · simp [hp,Array.getElem?_eq_none h'] at h
theorem uU {h:IH} (hh:h.le (hp w)) {b:Nat} (hb:h b≠none):b<w.heap.size:=by
  cases e:h b with
  | none=>exact absurd e hb
  | some o=>exact RW (hh b o e)
def pto (b:Nat) (o:Obj):HA where
  holds _ h:=h b=some o
  mono:=fun _ hh h=>hh _ _ h
def FQ (b:Nat) (o:Obj):IH:=fun k=>if k=b then some o else none
theorem Sym.alloc (h:Sym w0 M I0 I l w) (o:Obj):Sym w0 M I0 I (pto w.heap.size o :: l) (w.alloc o):=by
  obtain ⟨hb,hi,hn,k,hs,hk,hd,hm⟩:=h
  have grow:∀ (J:IH),J.le (hp w)→J.le (hp (w.alloc o)):=fun J hJ b p e=>by
    have e':=hJ b p e
    have:=RW e'
    show (w.alloc o).heap[b]? = _
    rw [Below.heap_alloc _ _ _ this]; exact e'
  refine ⟨⟨hb.os,hb.tape,hb.output,hb.drawn,Nat.le_trans hb.size (by simp),fun b h1 h2=>?_⟩,grow I hi,hn,(FQ w.heap.size o).union k,⟨FQ w.heap.size o,k,?_,IH.le_union_left _ _,IH.le_union_right ?_,by simp [pto,FQ],hs⟩,?_,?_,?_⟩
  · rw [Below.heap_alloc _ _ _ (Nat.lt_of_lt_of_le h1 hb.size)]; exact hb.block b h1 h2
  · intro b
    by_cases e:b=w.heap.size
    · right; subst e
      cases e':k w.heap.size with
      | none=>rfl
      | some p=>have:=RW (hk _ _ e'); omega
    · left; simp [FQ,e]
  · intro b
    by_cases e:b=w.heap.size
    · right; subst e
      cases e':k w.heap.size with
      | none=>rfl
      | some p=>have:=RW (hk _ _ e'); omega
    · left; simp [FQ,e]
  · refine IH.union_le (fun b p e=>?_) (grow k hk)
    simp only [FQ] at e
    split at e
    · rename_i h'; subst h'; cases e
      show (w.heap.push o)[w.heap.size]? = _
      simp
    · cases e
  · intro b
    by_cases e:b=w.heap.size
    · left; subst e
      cases e':I w.heap.size with
      | none=>rfl
      | some p=>have:=RW (hi _ _ e'); omega
    · rcases hd b with h' | h'
      · exact .inl h'
      · right; simp [IH.union,FQ,e,h']
  · intro b hb'
    rcases IH.union_none hb' with h' | h'
    · simp only [FQ] at h'
      split at h'
      · rename_i e; subst e; exact .inr hb.size
      · exact absurd rfl h'
    · exact hm b h'
theorem Sym.drew (h:Sym w0 M I0 I l w) (n:Nat) (hn:w.drawn≤n):Sym w0 M I0 I l { w with drawn:=n }:=
  ⟨⟨h.base.os,h.base.tape,h.base.output,Nat.le_trans h.base.drawn hn,h.base.size,h.base.block⟩,h.imm,h.new,h.own⟩
inductive At:List HA→HA→List HA→HA→Prop
  | z {A B:HA} {l:List HA}:At (A :: l) A (B :: l) B
  | s {A B C:HA} {l m:List HA}:At l A m B→At (C :: l) A (C :: m) B
inductive Del:List HA→HA→List HA→Prop
  | z {A:HA} {l:List HA}:Del (A :: l) A l
  | s {A C:HA} {l m:List HA}:Del l A m→Del (C :: l) A (C :: m)
theorem aL {l m:List HA} {A:HA} (hd:Del l A m):∀ {h:IH},MQ l I h→∃ h1 h2,h1.disj h2∧h1.le h∧h2.le h∧A.holds I h1∧MQ m I h2:=by
  induction hd with
  | z=>exact fun hs=>hs
  | s _ ih=>
    rintro h ⟨h1,h2,hd,hl1,hl2,hc,hs⟩
    obtain ⟨h3,h4,hd',hl3,hl4,ha,hm⟩:=ih hs
    refine ⟨h3,h1.union h4,?_,hl3.trans hl2,IH.union_le hl1 (hl4.trans hl2),ha,h1,h4,hd.mono (IH.le.refl _) hl4,IH.le_union_left _ _,IH.le_union_right (hd.mono (IH.le.refl _) hl4),hc,hm⟩
    intro b
    rcases hd b with h' | h'
    · rcases hd' b with h'' | h''
      · exact .inl h''
      · right; simp [IH.union,h',h'']
    · left
      cases e:h3 b with
      | none=>rfl
      | some o=>rw [hl3 b o e] at h'; cases h'
theorem At.del {l m:List HA} {A B:HA} (h:At l A m B):∃ r,Del l A r∧Del m B r:=by
  induction h with
  | z=>exact ⟨_,.z,.z⟩
  | s _ ih=>obtain ⟨r,h1,h2⟩:=ih; exact ⟨_,.s h1,.s h2⟩
theorem uV {l m:List HA} {A:HA} (hd:Del l A m):∀ {h h1 h2:IH},h1.disj h2→h1.le h→h2.le h→A.holds I h1→MQ m I h2→MQ l I h:=by
  induction hd with
  | z=>exact fun hd hl1 hl2 ha hs=>⟨_,_,hd,hl1,hl2,ha,hs⟩
  | s _ ih=>
    rintro h h1 h2 hd hl1 hl2 ha ⟨h3,h4,hd',hl3,hl4,hc,hm⟩
    refine ⟨h3,h1.union h4,?_,hl3.trans hl2,IH.union_le hl1 (hl4.trans hl2),hc,ih (hd.mono (IH.le.refl _) hl4) (IH.le_union_left _ _) (IH.le_union_right (hd.mono (IH.le.refl _) hl4)) ha hm⟩
    intro b
    rcases hd b with h' | h'
    · rcases hd' b with h'' | h''
      · exact .inl h''
      · right; simp [IH.union,h',h'']
    · left
      cases e:h3 b with
      | none=>rfl
      | some o=>rw [hl3 b o e] at h'; cases h'
theorem Sym.del (h:Sym w0 M I0 I l w) {m:List HA} {A:HA} (hd:Del l A m):Sym w0 M I0 I (A :: m) w:=by
  obtain ⟨hb,hi,hn,k,hs,hk,hdj,hm⟩:=h
  obtain ⟨h1,h2,hd',hl1,hl2,ha,hs'⟩:=aL hd hs
  exact ⟨hb,hi,hn,k,⟨h1,h2,hd',hl1,hl2,ha,hs'⟩,hk,hdj,hm⟩
theorem Sym.undel {m:List HA} {A:HA} (h:Sym w0 M I0 I (A :: m) w) (hd:Del l A m):Sym w0 M I0 I l w:=by
  obtain ⟨hb,hi,hn,k,⟨h1,h2,hd',hl1,hl2,ha,hs'⟩,hk,hdj,hm⟩:=h
  exact ⟨hb,hi,hn,k,uV hd hd' hl1 hl2 ha hs',hk,hdj,hm⟩
theorem Sym.drop {A:HA} (h:Sym w0 M I0 I (A :: l) w):Sym w0 M I0 I l w:=by
  obtain ⟨hb,hi,hn,k,⟨h1,h2,hd',hl1,hl2,ha,hs'⟩,hk,hdj,hm⟩:=h
  exact ⟨hb,hi,hn,k,KJ (IH.le.refl _) hl2 hs',hk,hdj,hm⟩
theorem Sym.get {A:HA} (h:Sym w0 M I0 I (A :: l) w):∃ k,A.holds I k∧k.le (hp w):=by
  obtain ⟨hb,hi,hn,k,⟨h1,h2,hd',hl1,hl2,ha,hs'⟩,hk,hdj,hm⟩:=h
  exact ⟨h1,ha,hl1.trans hk⟩
theorem Sym.pto {b:Nat} {o:Obj} (h:Sym w0 M I0 I (pto b o :: l) w):w.heap[b]? = some o:=by
  obtain ⟨k,hk,hl⟩:=h.get
  exact hl _ _ hk
theorem Sym.weaken {A B:HA} (h:Sym w0 M I0 I (A :: l) w) (hAB:∀ k,A.holds I k→B.holds I k):Sym w0 M I0 I (B :: l) w:=by
  obtain ⟨hb,hi,hn,k,⟨h1,h2,hd',hl1,hl2,ha,hs'⟩,hk,hdj,hm⟩:=h
  exact ⟨hb,hi,hn,k,⟨h1,h2,hd',hl1,hl2,hAB _ ha,hs'⟩,hk,hdj,hm⟩
theorem Sym.upd {b:Nat} {o o':Obj} {w':World} (h:Sym w0 M I0 I (Fw.pto b o :: l) w) (h1:w'.os=w.os) (h2:w'.tape=w.tape) (h3:w'.output=w.output) (h3':w'.drawn=w.drawn) (h4:w'.heap.size=w.heap.size)
    (h5:∀ k,k≠b→w'.heap[k]? = w.heap[k]?) (h6:w'.heap[b]? = some o'):Sym w0 M I0 I (Fw.pto b o' :: l) w':=by
  obtain ⟨hb,hi,hn,k,⟨g1,g2,hd',hl1,hl2,ha,hs'⟩,hk,hdj,hm⟩:=h
  have hkb:k b=some o:=hl1 _ _ ha
  have hIb:I b=none:=by
    rcases hdj b with h' | h'
    · exact h'
    · rw [hkb] at h'; cases h'
  have hg2b:g2 b=none:=by
    rcases hd' b with h' | h'
    · rw [show g1 b=some o from ha] at h'; cases h'
    · exact h'
  have keep:∀ J:IH,J.le (hp w)→J b=none→J.le (hp w'):=fun J hJ hJb c p e=>by
    have hne:c≠b:=fun e'=>by rw [e',hJb] at e; cases e
    show w'.heap[c]? = _
    rw [h5 c hne]; exact hJ c p e
  refine ⟨⟨h1.trans hb.os,h2.trans hb.tape,h3.trans hb.output,by rw [h3']; exact hb.drawn,by rw [h4]; exact hb.size,fun c hc hcm=>?_⟩,keep I hi hIb,hn,(FQ b o').union g2,⟨FQ b o',g2,?_,IH.le_union_left _ _,IH.le_union_right ?_,by simp [Fw.pto,FQ],hs'⟩,?_,?_,?_⟩
  · by_cases e:c=b
    · subst e
      rcases hm c (by rw [hkb]; simp) with h' | h'
      · exact absurd h' hcm
      · omega
    · rw [h5 c e]; exact hb.block c hc hcm
  · intro c
    by_cases e:c=b
    · right; rw [e]; exact hg2b
    · left; simp [FQ,e]
  · intro c
    by_cases e:c=b
    · right; rw [e]; exact hg2b
    · left; simp [FQ,e]
  · refine IH.union_le (fun c p e=>?_) (keep g2 (hl2.trans hk) hg2b)
    simp only [FQ] at e
    split at e
    · rename_i h'; subst h'; cases e; exact h6
    · cases e
  · intro c
    by_cases e:c=b
    · left; rw [e]; exact hIb
    · rcases hdj c with h' | h'
      · exact .inl h'
      · right
        have:g2 c=none:=by
          cases e':g2 c with
          | none=>rfl
          | some p=>rw [hl2 c p e'] at h'; cases h'
        simp [IH.union,FQ,e,this]
  · intro c hc
    rcases IH.union_none hc with h' | h'
    · simp only [FQ] at h'
      split at h'
      · rename_i e; subst e; exact hm c (by rw [hkb]; simp)
      · exact absurd rfl h'
    · refine hm c ?_
      cases e:g2 c with
      | none=>exact absurd e h'
      | some p=>rw [hl2 c p e]; simp
theorem Sym.publish {A:HA} (h:Sym w0 M I0 I (A :: l) w):∃ I' k,I.le I'∧A.holds I k∧k.le I'∧Sym w0 M I0 I' l w:=by
  obtain ⟨hb,hi,hn,k,⟨h1,h2,hd',hl1,hl2,ha,hs'⟩,hk,hdj,hm⟩:=h
  have hd1:I.disj h1:=hdj.mono (IH.le.refl _) hl1
  have hle:=IH.le_union_left I h1
  refine ⟨I.union h1,h1,hle,ha,IH.le_union_right hd1,hb,IH.union_le hi (hl1.trans hk),?_,h2,KJ hle (IH.le.refl _) hs',hl2.trans hk,?_,?_⟩
  · intro b hb'
    rcases IH.union_none hb' with h' | h'
    · exact hn b h'
    · rcases hm b (by cases e:h1 b with | none=>exact absurd e h' | some o=>rw [hl1 b o e]; simp) with h'' | h''
      · exact .inr (.inl h'')
      · exact .inr (.inr h'')
  · intro b
    rcases hd' b with h' | h'
    · rcases hdj b with h'' | h''
      · left; simp [IH.union,h',h'']
      · right
        cases e:h2 b with
        | none=>rfl
        | some o=>rw [hl2 b o e] at h''; cases h''
    · exact .inr h'
  · intro b hb'
    exact hm b (by cases e:h2 b with | none=>exact absurd e hb' | some o=>rw [hl2 b o e]; simp)
def QE (w:World) (M:Nat→Prop) (I:IH) (φ:IH→Value→List HA→Prop):Ending→World→Prop:=
  fun e w'=>∃ v I' l',e=.returned v∧I.le I'∧φ I' v l'∧Sym w M I I' l' w'
def Fun (P:Program) (f:FuncId) (args:Array Value) (I:IH) (l:List HA) (φ:IH→Value→List HA→Prop):Prop:=
  ∀ (w:World) (h:IH),I.le (hp w)→MQ l I h→h.le (hp w)→I.disj h→Calls P f args w (QE w (fun b=>h b≠none) I φ)
theorem Sym.call {w1:World} {φ:IH→Value→List HA→Prop} {m r:List HA} (h:Sym w0 M I0 I (m++r) w) {e:Ending}
    (k:IH) (hk:∃ k2,k.disj k2∧k2.le (hp w)∧I.disj k∧I.disj k2∧MQ r I k2∧(∀ b,k b≠none→M b∨w0.heap.size≤b)∧(∀ b,k2 b≠none→M b∨w0.heap.size≤b))
    (ha:QE w (fun b=>k b≠none) I φ e w1):∃ v I' l',e=.returned v∧I.le I'∧φ I' v l'∧Sym w0 M I0 I' (l'++r) w1:=by
  obtain ⟨v,I',l',he,hle,hφ,hs⟩:=ha
  obtain ⟨k2,hkd,hk2,hdk,hdk2,hr,hmk,hm⟩:=hk
  obtain ⟨hb,hi,hn,_,_,_,_,_⟩:=h
  obtain ⟨hb',hi',hn',k1,hs1,hk1,hd1,hm1⟩:=hs
  have hk2':k2.le (hp w1):=fun b o eq=>by
    have hlt:=RW (hk2 b o eq)
    have hnk:¬k b≠none:=by
      rcases hkd b with h' | h'
      · simp [h']
      · rw [eq] at h'; cases h'
    show w1.heap[b]? = _
    rw [hb'.block b hlt hnk]; exact hk2 b o eq
  have hlt2:∀ b,k2 b≠none→b<w.heap.size:=fun b hb2=>uU hk2 hb2
  have hI'k2:I'.disj k2:=fun b=>by
    by_cases e2:k2 b=none
    · exact .inr e2
    · left
      cases e1:I' b with
      | none=>rfl
      | some o=>
        exfalso
        rcases hn' b (by rw [e1]; simp) with h' | h' | h'
        · rcases hdk2 b with h'' | h''
          · exact h' h''
          · exact e2 h''
        · rcases hkd b with h'' | h''
          · exact h' h''
          · exact e2 h''
        · have:=hlt2 b e2; omega
  have hk1k2:k1.disj k2:=fun b=>by
    by_cases e2:k2 b=none
    · exact .inr e2
    · left
      cases e1:k1 b with
      | none=>rfl
      | some o=>
        exfalso
        rcases hm1 b (by rw [e1]; simp) with h' | h'
        · rcases hkd b with h'' | h''
          · exact h' h''
          · exact e2 h''
        · have:=hlt2 b e2; omega
  refine ⟨v,I',l',he,hle,hφ,⟨hb'.os.trans hb.os,hb'.tape.trans hb.tape,hb'.output.trans hb.output,Nat.le_trans hb.drawn hb'.drawn,Nat.le_trans hb.size hb'.size,fun b h1 h2=>?_⟩,hi',fun b hbn=>?_,k1.union k2,MD.2 ⟨k1,k2,hk1k2,IH.le_union_left _ _,IH.le_union_right hk1k2,hs1,KJ hle (IH.le.refl _) hr⟩,IH.union_le hk1 hk2',?_,?_⟩
  · have hlt:b<w.heap.size:=Nat.lt_of_lt_of_le h1 hb.size
    by_cases e:k b=none
    · rw [hb'.block b hlt (by simp [e])]; exact hb.block b h1 h2
    · rcases hmk b e with h' | h'
      · exact absurd h' h2
      · omega
  · rcases hn' b hbn with h' | h' | h'
    · exact hn b h'
    · rcases hmk b h' with h'' | h''
      · exact .inr (.inl h'')
      · exact .inr (.inr h'')
    · exact .inr (.inr (Nat.le_trans hb.size h'))
  · intro b
    rcases hd1 b with h' | h'
    · exact .inl h'
    · rcases hI'k2 b with h'' | h''
      · exact .inl h''
      · right; simp [IH.union,h',h'']
  · intro b hbn
    rcases IH.union_none hbn with h' | h'
    · rcases hm1 b h' with h'' | h''
      · exact hmk b h''
      · exact .inr (Nat.le_trans hb.size h'')
    · exact hm b h'
theorem Fun.use {P:Program} {f:FuncId} {args:Array Value} {φ:IH→Value→List HA→Prop} {m r:List HA} (hf:Fun P f args I m φ) (h:Sym w0 M I0 I (m++r) w)
    {R:Ending→World→Prop} (hR:∀ v I' l' w',I.le I'→φ I' v l'→Sym w0 M I0 I' (l'++r) w'→R (.returned v) w'):Calls P f args w R:=by
  obtain ⟨hb,hi,hn,k,hs,hk,hd,hm⟩:=h
  obtain ⟨h1,h2,hdj,hl1,hl2,hs1,hs2⟩:=MD.1 hs
  refine (hf w h1 hi hs1 (hl1.trans hk) (hd.mono (IH.le.refl _) hl1)).mono fun e w' ha=>?_
  have hle1:∀ b,h1 b≠none→k b≠none:=fun b hb'=>by cases e':h1 b with | none=>exact absurd e' hb' | some o=>rw [hl1 b o e']; simp
  have hle2:∀ b,h2 b≠none→k b≠none:=fun b hb'=>by cases e':h2 b with | none=>exact absurd e' hb' | some o=>rw [hl2 b o e']; simp
  obtain ⟨v,I',l',rfl,hle,hφ,hs'⟩:=Sym.call (m:=m) (r:=r) ⟨hb,hi,hn,k,hs,hk,hd,hm⟩ h1 ⟨h2,hdj,hl2.trans hk,hd.mono (IH.le.refl _) hl1,hd.mono (IH.le.refl _) hl2,hs2,fun b hb'=>hm b (hle1 b hb'),fun b hb'=>hm b (hle2 b hb')⟩ ha
  exact hR v I' l' w' hle hφ hs'
theorem Fun.start {h:IH} (hi:I.le (hp w)) (hs:MQ l I h) (hh:h.le (hp w)) (hd:I.disj h):Sym w (fun b=>h b≠none) I I l w:=
  ⟨⟨rfl,rfl,rfl,Nat.le_refl _,Nat.le_refl _,fun _ _ _=>rfl⟩,hi,fun _ h=>.inl h,h,hs,hh,hd,fun _ h=>.inl h⟩
variable {P:Program} {n:FrK} {E:DH} {S:World→Prop} {Q:Exit→Act→World→Prop}
def Ops (P:Program) (ops:Array Oper) (l:List Oper) (n:FrK) (E:DH) (S:World→Prop) (Q:Exit→Act→World→Prop):Prop:=
  ∀ a w,Ok n E a→S w→wpListIn (RJ n) 0 P ops Q l a w
def Cod (P:Program) (c:Code) (n:FrK) (E:DH) (S:World→Prop) (Q:Exit→Act→World→Prop):Prop:=
  ∀ a w,Ok n E a→S w→c.wpIn (RJ n) 0 P Q a w
theorem Cod.at {c:Code} {a:Act} (ho:Ok n E a) (hs:S w) (h:Cod P c n E S Q):c.wpIn (RJ n) 0 P Q a w:=h a w ho hs
theorem Cod.sub {c:Code} {E':DH} (hs:Sub E' E) (h:Cod P c n E' S Q):Cod P c n E S Q:=fun a w ho hw=>h a w (ho.sub hs) hw
theorem Ops.sub {ops:Array Oper} {l:List Oper} {E':DH} (hs:Sub E' E) (h:Ops P ops l n E' S Q):Ops P ops l n E S Q:=fun a w ho hw=>h a w (ho.sub hs) hw
theorem Cod.pre {c:Code} {S':World→Prop} (hs:∀ w,S w→S' w) (h:Cod P c n E S' Q):Cod P c n E S Q:=fun a w ho hw=>h a w ho (hs w hw)
theorem Ops.pre {ops:Array Oper} {l:List Oper} {S':World→Prop} (hs:∀ w,S w→S' w) (h:Ops P ops l n E S' Q):Ops P ops l n E S Q:=fun a w ho hw=>h a w ho (hs w hw)
theorem Cod.seq {x y:Code} (h:Cod P x n E S (Exit.then (y.wpIn (RJ n) 0 P Q) Q)):Cod P (.seq x y) n E S Q:=fun a w ho hs=>wpIn_seq (h a w ho hs)
theorem Cod.region {id:Nat} {l:List Oper} (h:Ops P l.toArray l n E S Q):Cod P (.region id l.toArray false) n E S Q:=fun a w ho hs=>wpIn_region_lit (h a w ho hs)
theorem Cod.block {id:Nat} {c:Code} (h:Cod P c n E S (Exit.inBlock id Q)):Cod P (.block id c) n E S Q:=fun a w ho hs=>wpIn_block (h a w ho hs)
theorem Cod.skip {y:Code} (h:Cod P y n E S Q):Cod P .skip n E S (Exit.then (y.wpIn (RJ n) 0 P Q) Q):=fun a w ho hs=>wpIn_skip (h a w ho hs)
theorem Cod.skip' (h:∀ a w,Ok n E a→S w→Q .normal a w):Cod P .skip n E S Q:=fun a w ho hs=>wpIn_skip (h a w ho hs)
theorem Cod.exit {id:Nat} (h:∀ a w,Ok n E a→S w→Q (.exit id) a w):Cod P (.exit id) n E S Q:=fun a w ho hs=>wpIn_exit (h a w ho hs)
theorem Cod.ret (h:∀ a w,Ok n E a→S w→Q .ret a w):Cod P .ret n E S Q:=fun a w ho hs=>wpIn_ret (h a w ho hs)
theorem Cod.cond {c:Operand} {x y:Code} {t:Bool} (hc:ev E c=some (.bool t)) (ht:t=true→Cod P x n E S Q) (hf:t=false→Cod P y n E S Q):Cod P (.cond c x y) n E S Q:=
  fun a w ho hs=>wpIn_cond_split (ho.eval hc) (fun h=>ht h a w ho hs) (fun h=>hf h a w ho hs)
theorem Cod.condT {c:Operand} {x y:Code} (hc:ev E c=some (.bool true)) (h:Cod P x n E S Q):Cod P (.cond c x y) n E S Q:=fun a w ho hs=>wpIn_cond_true (ho.eval hc) (h a w ho hs)
theorem Cod.condF {c:Operand} {x y:Code} (hc:ev E c=some (.bool false)) (h:Cod P y n E S Q):Cod P (.cond c x y) n E S Q:=fun a w ho hs=>wpIn_cond_false (ho.eval hc) (h a w ho hs)
theorem Cod.condKT {c:Operand} {x y:Code} {t:Bool} (hc:ev E c=some (.bool t)) (ht:t=true) (h:Cod P x n E S Q):Cod P (.cond c x y) n E S Q:=Cod.condT (by rw [hc,ht]) h
theorem Cod.condKF {c:Operand} {x y:Code} {t:Bool} (hc:ev E c=some (.bool t)) (ht:t=false) (h:Cod P y n E S Q):Cod P (.cond c x y) n E S Q:=Cod.condF (by rw [hc,ht]) h
theorem Ops.nil {ops:Array Oper} {y:Code} (h:Cod P y n E S Q):Ops P ops [] n E S (Exit.then (y.wpIn (RJ n) 0 P Q) Q):=fun a w ho hs=>h a w ho hs
theorem Ops.nil' {ops:Array Oper} (h:∀ a w,Ok n E a→S w→Q .normal a w):Ops P ops [] n E S Q:=fun a w ho hs=>h a w ho hs
theorem Cod.cut {x y:Code} (J:Act→World→Prop) (h:Cod P x n E S (Exit.then J Q)) (hy:∀ a w,J a w→y.wpIn (RJ n) 0 P Q a w):Cod P (.seq x y) n E S Q:=
  fun a w ho hs=>wpIn_seq (Code.wpIn_mono (fun e a w q=>by cases e <;> first | exact hy a w q | exact q) (h a w ho hs))
theorem aM {o:Oper} {a:Act} {K:Act→World→Prop} {x:Next} {w1:World} (hrun:(execOp a.eval o).run P w=.ok x w1) (hx:∀ d,x≠.defer d) (h:o.uponIn (RJ n) 0 P a K Q (.ok x w1)):o.wpIn (RJ n) 0 P a w K Q:=by
  have hnd:∀ c,o.op≠.defer c:=fun c hc=>by
    unfold execOp at hrun; rw [hc] at hrun
    simp only [Sem.run_bind,Result.andThen] at hrun
    split at hrun
    · simp at hrun; exact hx _ hrun.1.symm
    · cases hrun
  refine ⟨fun _ _=>trivial,?_⟩
  rw [Oper.semAt_eq _ _ _ hnd,hrun]; exact h
def AQ (b:Bool) (A B:Prop):Prop:=(b=true→A)∧(b=false→B)
def NX {σ:Type} (body:σ→(σ→Prop)→Prop):Nat→σ→Prop
  | 0,_=>False
  | k+1,s=>body s (NX body k)
def BD {σ:Type} (body:σ→(σ→Prop)→Prop) (s:σ):Prop:=∃ k,NX body k s
theorem Cod.loop {σ:Type} {c:Code} {body:σ→(σ→Prop)→Prop} {s0:σ} (hd:BD body s0) (St:σ→Act→World→Prop) (h0:∀ a w,Ok n E a→S w→St s0 a w)
    (hstep:∀ s (next:σ→Prop),body s next→∀ a w,St s a w→c.wpIn (RJ n) 0 P (Exit.then (fun a' w'=>∃ s',next s'∧St s' a' w') Q) a w):Cod P (.loop c) n E S Q:=by
  intro a w ho hs
  obtain ⟨k,hk⟩:=hd
  have hst:=h0 a w ho hs
  clear h0 ho hs
  obtain ⟨μ,hμ⟩:∃ μ:Act→World→Nat,∀ a w,(∃ j s,NX body j s∧St s a w)→∃ s,NX body (μ a w) s∧St s a w∧∀ j s',NX body j s'→St s' a w→μ a w≤j:=by
    have H:∀ a w,∃ m:Nat,(∃ j s,NX body j s∧St s a w)→∃ s,NX body m s∧St s a w∧∀ j s',NX body j s'→St s' a w→m≤j:=by
      intro a w
      by_cases hex:∃ j s,NX body j s∧St s a w
      · obtain ⟨j,s,hjs⟩:=hex
        suffices h:∀ (b:Nat) (s:σ),NX body b s→St s a w→∃ m s,NX body m s∧St s a w∧∀ j s',NX body j s'→St s' a w→m≤j by
          obtain ⟨m,s,h1,h2,h3⟩:=h j s hjs.1 hjs.2
          exact ⟨m,fun _=>⟨s,h1,h2,h3⟩⟩
        intro b
        induction b using Nat.strongRecOn with
        | _ b ih=>
          intro s h1 h2
          by_cases hlt:∃ j s',j<b∧NX body j s'∧St s' a w
          · obtain ⟨j,s',hj,h3,h4⟩:=hlt
            exact ih j hj s' h3 h4
          · exact ⟨b,s,h1,h2,fun j s' h3 h4=>Nat.le_of_not_lt fun hjb=>hlt ⟨j,s',hjb,h3,h4⟩⟩
      · exact ⟨0,fun h=>absurd h hex⟩
    exact ⟨fun a w=>Classical.choose (H a w),fun a w=>Classical.choose_spec (H a w)⟩
  refine wpIn_loop (fun a w=>∃ j s,NX body j s∧St s a w) μ ⟨k,s0,hk,hst⟩ fun a w hI=>?_
  obtain ⟨s,h1,h2,h3⟩:=hμ a w hI
  cases hm:μ a w with
  | zero=>rw [hm] at h1; exact h1.elim
  | succ m=>
    rw [hm] at h1
    refine Code.wpIn_mono (fun e a' w' q=>?_) (hstep s (NX body m) h1 a w h2)
    cases e <;> try exact q
    obtain ⟨s',hn,hs'⟩:=q
    refine ⟨⟨m,s',hn,hs'⟩,?_⟩
    obtain ⟨_,_,_,h4⟩:=hμ a' w' ⟨m,s',hn,hs'⟩
    exact Nat.lt_of_le_of_lt (h4 m s' hn hs') (by omega)
end Go.Fw
