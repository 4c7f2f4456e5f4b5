/- The engine, part N: views of own slices: shortened, moved together, cleared behind the end. -/
import Derived.Test.YtpackolbhcmomaaGreatFwM
namespace Go.Fw
set_option linter.unusedSimpArgs false
set_option linter.unusedVariables false
open Go Go.RowKit
variable {w0 w:World} {M:Nat→Prop} {I0 I:IH} {m m':List HA}
variable {P:Program} {n:FrK} {E:Env} {Q:Exit→Act→World→Prop} {ops:Array Oper} {l:List Oper}
variable {d ty:Nat} {pos:String} {af:Array Edge} {T e:TypeId} {x y z:Operand}
variable {α:Type} {El:Elem α} {xs ys:List α} {a:Option Addr} {cap:Nat}
/-! ### Elements of own slices that lead on -/
theorem OwnSl.els {T':TypeId} {b:Nat} (h:Sym w0 M I0 I m w) (hA:Del m (OwnSl El T' (some ⟨b,0,none⟩) cap xs) m') {i:Nat} {v:α} (hi:xs[i]? = some v) :
    ∃ cs,El.rep I cs v∧∀ j u,cs[j]? = some u→w.cell? ⟨b,i*El.sz+j,none⟩=some u:=by
  obtain ⟨k1,ha,hk⟩:=(h.del hA).get
  rcases ha with ⟨h1,_⟩ | ⟨b',c,h1,h2,h3,h4,h5⟩
  · cases h1
  · cases h1
    obtain ⟨cs,g1,g2⟩:=h5 i v hi
    exact ⟨cs,g1,fun j u hj=>by rw [cell_of (hk _ _ h2)]; exact g2 j u hj⟩
theorem Ops.loEW {T':TypeId} {b o i s':Nat} {v:α} (hT:∀ w,(isAgg T).run P w=.ok true w) (hS:∀ w,(sizeOf T).run P w=.ok s' w) (hA:Del m (OwnSl El T' (some ⟨b,0,none⟩) cap xs) m') (hi:xs[i]? = some v)
    (hx:ev E x=some (.pointer (some ⟨b,o,none⟩))) (ho:o=i*El.sz) (hl:El.sz=s') (hb:Nat.blt d n.sz=true) (hf:fresh E d=true) (k:∀ cs,El.rep I cs v→Ops P ops l n ((d,.agg cs.toArray) :: E) (Sym w0 M I0 I m) Q) :
    Ops P ops (⟨some d,.load T x,ty,pos,af,none⟩ :: l) n E (Sym w0 M I0 I m) Q:=
  Ops.valx (fun u w'=>(∃ cs,u=.agg cs.toArray∧El.rep I cs v)∧Sym w0 M I0 I m w') rfl rfl (fun c w hc hs=>by
    subst ho
    obtain ⟨cs,g1,g2⟩:=OwnSl.els hs hA hi
    refine ⟨.agg cs.toArray,w,?_,⟨cs,rfl,g1⟩,hs⟩
    simp [execOp,hc.eval hx,run_loadAtA (P:=P) hT hS (El.len g1 |>.trans hl) (fun i' v' hi'=>g2 i' v' hi')]) hb hf (fun u c w ho ⟨⟨cs,hu,g1⟩,hs⟩=>by subst hu; exact k cs g1 c w ho hs)
def view (a:Option Addr) (cap L s:Nat):Option Addr:=if cap=L then a else a.map (·.add (L*s))
theorem OwnSl.take {k:IH} (h:(OwnSl El T a cap xs).holds I k) (H:Nat):(OwnSl El T a cap (xs.take H)).holds I k:=by
  rcases h with ⟨h1,h2,h3⟩ | ⟨b,c,h1,h2,h3,h4,h5⟩
  · exact .inl ⟨h1,by rw [h2]; simp,h3⟩
  · refine .inr ⟨b,c,h1,h2,by simp; omega,h4,fun i x hx=>h5 i x ?_⟩
    rw [List.getElem?_take] at hx
    split at hx
    · exact hx
    · cases hx
theorem Sym.takeSl (h:Sym w0 M I0 I m w) {H:Nat} (hA:At m (OwnSl El T a cap xs) m' (OwnSl El T a cap (xs.take H))):Sym w0 M I0 I m' w:=
  Sym.reAt hA h fun _ hs=>hs.weaken fun _ hk=>OwnSl.take hk H
theorem Ops.takeSl (H:Nat) (hA:At m (OwnSl El T a cap xs) m' (OwnSl El T a cap (xs.take H))) (k:Ops P ops l n E (Sym w0 M I0 I m') Q):Ops P ops l n E (Sym w0 M I0 I m) Q:=Ops.pre (fun _ h=>h.takeSl hA) k
theorem view_zero (a:Option Addr) (cap s:Nat):view a cap 0 s=a:=by
  unfold view
  split
  · rfl
  · cases a with
    | none=>rfl
    | some p=>simp only [Option.map_some,Nat.zero_mul,Addr.add]; split <;> simp_all
theorem Ops.sliceO {lo hi:Option Operand} {vl vh:Option Value} {L H k s:Nat} (hT:P.underlying T=some (.slice e)) (hs:∀ w,(sizeOf e).run P w=.ok s w) (hx:ev E x=some (.slice a k cap)) (hk:k=xs.length)
    {T':TypeId} (hA:Del m (OwnSl El T' a cap xs) m') (hl:oev E lo=some vl) (hh:oev E hi=some vh) (hlo:vl=none∧L=0∨∃ q i,vl=some (.int q i)∧0≤i∧i.toNat=L)
    (hhi:vh=none∧H=k∨∃ q i,vh=some (.int q i)∧0≤i∧i.toNat=H) (h1:L≤H) (h2:H≤xs.length) (hb:Nat.blt d n.sz=true) (hf:fresh E d=true)
    (k':Ops P ops l n ((d,.slice (view a cap L s) (H - L) (cap - L)) :: E) (Sym w0 M I0 I m) Q) :
    Ops P ops (⟨some d,.slice T x lo hi none,ty,pos,af,none⟩ :: l) n E (Sym w0 M I0 I m) Q:=by
  subst hk
  refine Ops.val rfl rfl (fun c w ho hsym=>?_) hb hf k'
  obtain ⟨k1,ha,_⟩:=(hsym.del hA).get
  have hc:xs.length≤cap:=by
    rcases ha with ⟨_,h2,h3⟩ | ⟨b,_,_,_,h3,_⟩
    · rw [h2,h3]; exact Nat.le_refl _
    · exact h3
  have hr:=run_sliceI (P:=P) (a:=a) hT hs h1 h2 hc hlo hhi w
  simp only [execOp,ho.eval hx,oev_map ho hl,oev_map ho hh,Option.map_none,hr,Sem.run_bind,Sem.run_pure,Result.andThen_ok]
  rfl
section
variable {enc:α→List Value} {s:Nat} {he:∀ x,(enc x).length=s∧ones (enc x)=true}
end
theorem Ops.sliceT {hi:Option Operand} {H k s:Nat} {q:IntKind} {i:Int} (hT:P.underlying T=some (.slice e)) (hs:∀ w,(sizeOf e).run P w=.ok s w) (hx:ev E x=some (.slice a k cap)) (hk:k=xs.length)
    {T':TypeId} (hA:Del m (OwnSl El T' a cap xs) m') {m2:List HA} (hA2:At m (OwnSl El T' a cap xs) m2 (OwnSl El T' a cap (xs.take H))) (hh:oev E hi=some (some (.int q i))) (h0:0≤i) (h1:i.toNat=H) (h2:H≤xs.length)
    (hb:Nat.blt d n.sz=true) (hf:fresh E d=true) (k':Ops P ops l n ((d,.slice a (xs.take H).length cap) :: E) (Sym w0 M I0 I m2) Q) :
    Ops P ops (⟨some d,.slice T x none hi none,ty,pos,af,none⟩ :: l) n E (Sym w0 M I0 I m) Q:=by
  refine Ops.sliceO (L:=0) (H:=H) (s:=s) hT hs hx hk hA rfl hh (.inl ⟨rfl,rfl⟩) (.inr ⟨_,_,rfl,h0,h1⟩) (Nat.zero_le _) h2 hb hf ?_
  rw [view_zero,Nat.sub_zero,Nat.sub_zero]
  refine Ops.takeSl H hA2 ?_
  rw [List.length_take,Nat.min_eq_left h2] at k'
  exact k'
@[reducible] def RawV (sz:Nat):Type:={cs:List Value // cs.length=sz∧ones cs=true}
@[reducible] def rawEl (sz:Nat):Elem (RawV sz):=flat sz Subtype.val fun x=>x.2
structure RepR (El:Elem α) (I:IH) (css:List (RawV El.sz)) (xs:List α):Prop where
  len:css.length=xs.length
  all:∀ (i:Nat) (x:α),xs[i]? = some x→∃ c:RawV El.sz,css[i]? = some c∧El.rep I c.1 x
theorem RepR.mono {J:IH} {css:List (RawV El.sz)} (h:RepR El I css xs) (hle:I.le J):RepR El J css xs:=⟨h.len,fun i x hx=>let ⟨c,h1,h2⟩:=h.all i x hx; ⟨c,h1,El.mono hle h2⟩⟩
theorem RepR.get {css:List (RawV El.sz)} (h:RepR El I css xs) {i:Nat} {x:α} (hx:xs[i]? = some x):∃ c hc,css[i]? = some ⟨c,hc⟩∧El.rep I c x:=
  let ⟨c,h1,h2⟩:=h.all i x hx; ⟨c.1,c.2,h1,h2⟩
theorem RepR.set {css:List (RawV El.sz)} (h:RepR El I css xs) (i:Nat) {x:α} {cs:List Value} (hc:El.rep I cs x) (hp:cs.length=El.sz∧ones cs=true):RepR El I (css.set i ⟨cs,hp⟩) (xs.set i x):=by
  refine ⟨by simp only [List.length_set]; exact h.len,fun j y hy=>?_⟩
  by_cases e:i=j
  · subst e
    have hlt:i<xs.length:=by have:=(List.getElem?_eq_some_iff.1 hy).1; simpa only [List.length_set] using this
    rw [List.getElem?_set_self hlt] at hy; cases hy
    exact ⟨⟨cs,hp⟩,List.getElem?_set_self (by have:=h.len; omega),hc⟩
  · rw [List.getElem?_set_ne e] at hy
    rw [List.getElem?_set_ne e]
    exact h.all j y hy
theorem pickR {sz:Nat} {R:Nat→α→RawV sz→Prop}:∀ {xs:List α},(∀ (i:Nat) (x:α),xs[i]? = some x→∃ c,R i x c)→∃ css:List (RawV sz),css.length=xs.length∧∀ (i:Nat) (x:α),xs[i]? = some x→∃ c,css[i]? = some c∧R i x c:=by
  intro xs
  induction xs generalizing R with
  | nil=>exact fun _=>⟨[],rfl,fun i x h=>by simp at h⟩
  | cons x0 xs ih=>
    intro h
    obtain ⟨c0,h0⟩:=h 0 x0 rfl
    obtain ⟨css,h1,h2⟩:=ih (R:=fun i=>R (i+1)) fun i x hx=>h (i+1) x (by simpa using hx)
    refine ⟨c0 :: css,by simp [h1],fun i x hx=>?_⟩
    cases i with
    | zero=>simp only [List.getElem?_cons_zero,Option.some.injEq] at hx; subst hx; exact ⟨c0,rfl,h0⟩
    | succ i=>obtain ⟨c,h3,h4⟩:=h2 i x (by simpa using hx); exact ⟨c,by simpa using h3,h4⟩
theorem Sym.openS (h:Sym w0 M I0 I (OwnSl El T a cap xs :: m) w):∃ css:List (RawV El.sz),RepR El I css xs∧Sym w0 M I0 I (OwnSl (rawEl El.sz) T a cap css :: m) w:=by
  obtain ⟨hb,hi,hn,k,⟨h1,h2,hd',hl1,hl2,ha,hs'⟩,hk,hdj,hm⟩:=h
  rcases ha with ⟨g1,g2,g3⟩ | ⟨b,arr,g1,g2,g3,g4,g5⟩
  · subst g2
    exact ⟨[],⟨rfl,fun i x hx=>by simp at hx⟩,hb,hi,hn,k,⟨h1,h2,hd',hl1,hl2,.inl ⟨g1,rfl,g3⟩,hs'⟩,hk,hdj,hm⟩
  · obtain ⟨css,e1,e2⟩:=pickR (sz:=El.sz) (R:=fun i x c=>El.rep I c.1 x∧∀ (j:Nat) (v:Value),c.1[j]? = some v→arr[i*El.sz+j]? = some v) fun i x hx=>by
      obtain ⟨cs,f1,f2⟩:=g5 i x hx
      exact ⟨⟨cs,El.len f1,El.one f1⟩,f1,f2⟩
    refine ⟨css,⟨e1,fun i x hx=>let ⟨c,q1,q2⟩:=e2 i x hx; ⟨c,q1,q2.1⟩⟩,hb,hi,hn,k,⟨h1,h2,hd',hl1,hl2,.inr ⟨b,arr,g1,g2,by omega,g4,fun i c hc=>?_⟩,hs'⟩,hk,hdj,hm⟩
    have hlt:=(List.getElem?_eq_some_iff.1 hc).1
    obtain ⟨c',q1,q2⟩:=e2 i (xs[i]'(by omega)) (List.getElem?_eq_getElem _)
    rw [hc] at q1; cases q1
    exact ⟨c.1,rfl,q2.2⟩
theorem Sym.closeS {css:List (RawV El.sz)} (hr:RepR El I css xs) (h:Sym w0 M I0 I (OwnSl (rawEl El.sz) T a cap css :: m) w):Sym w0 M I0 I (OwnSl El T a cap xs :: m) w:=by
  obtain ⟨hb,hi,hn,k,⟨h1,h2,hd',hl1,hl2,ha,hs'⟩,hk,hdj,hm⟩:=h
  refine ⟨hb,hi,hn,k,⟨h1,h2,hd',hl1,hl2,?_,hs'⟩,hk,hdj,hm⟩
  rcases ha with ⟨g1,g2,g3⟩ | ⟨b,arr,g1,g2,g3,g4,g5⟩
  · have:=hr.len; rw [g2] at this
    exact .inl ⟨g1,List.eq_nil_of_length_eq_zero this.symm,g3⟩
  · refine .inr ⟨b,arr,g1,g2,by have:=hr.len; omega,g4,fun i x hx=>?_⟩
    obtain ⟨c,q1,q2⟩:=hr.all i x hx
    obtain ⟨cs,q3,q4⟩:=g5 i c q1
    cases q3
    exact ⟨c.1,q2,q4⟩
theorem Ops.openS {m2:List HA} (hA:Del m (OwnSl El T a cap xs) m2) (k:∀ css:List (RawV El.sz),RepR El I css xs→Ops P ops l n E (Sym w0 M I0 I (OwnSl (rawEl El.sz) T a cap css :: m2)) Q):Ops P ops l n E (Sym w0 M I0 I m) Q:=by
  intro c w ho hs
  obtain ⟨css,h1,h2⟩:=(hs.del hA).openS
  exact k css h1 c w ho h2
theorem Cod.openS {c:Code} {m2:List HA} (hA:Del m (OwnSl El T a cap xs) m2) (k:∀ css:List (RawV El.sz),RepR El I css xs→Cod P c n E (Sym w0 M I0 I (OwnSl (rawEl El.sz) T a cap css :: m2)) Q):Cod P c n E (Sym w0 M I0 I m) Q:=by
  intro c w ho hs
  obtain ⟨css,h1,h2⟩:=(hs.del hA).openS
  exact k css h1 c w ho h2
theorem Ops.closeS {css:List (RawV El.sz)} {m2:List HA} (hA:Del m (OwnSl (rawEl El.sz) T a cap css) m2) (hr:RepR El I css xs) (k:Ops P ops l n E (Sym w0 M I0 I (OwnSl El T a cap xs :: m2)) Q):Ops P ops l n E (Sym w0 M I0 I m) Q:=
  Ops.pre (fun _ hs=>(hs.del hA).closeS hr) k
end Go.Fw
