/- The engine, part F: entering a function, its end, calls, changes of what is known of memory. -/
import Derived.Test.YtbohadngdkjljaaGreatFwE
import Derived.Test.YtbohadngdkjljaaGreatFwR
import Derived.RangeFuncLeaves
import Derived.RangeFuncRecord
namespace Go.Fw
open Go Go.RowKit
variable {w0 w:World} {M:Nat→Prop} {I0 I:IH} {m m':List HA}
variable {P:Program} {n:FrK} {E:DH} {S:World→Prop} {Q:Exit→Act→World→Prop} {ops:Array Oper} {l:List Oper}
variable {d ty:Nat} {pos:String} {af:Array Edge} {T e:TypeId} {x y:Operand}
variable {α:Type} {El:EL α} {xs ys:List α} {a:Option Addr} {cap:Nat}
/-! ### Changes of what is known -/
theorem Ops.drop {A:HA} (hA:Del m A m') (k:Ops P ops l n E (Sym w0 M I0 I m') Q):Ops P ops l n E (Sym w0 M I0 I m) Q:=Ops.pre (fun _ h=>(h.del hA).drop) k
theorem Cod.drop {c:Code} {A:HA} (hA:Del m A m') (k:Cod P c n E (Sym w0 M I0 I m') Q):Cod P c n E (Sym w0 M I0 I m) Q:=Cod.pre (fun _ h=>(h.del hA).drop) k
theorem Ops.own0 (El:EL α) (T:TypeId) (k:Ops P ops l n E (Sym w0 M I0 I (OwnSl El T none 0 [] :: m)) Q):Ops P ops l n E (Sym w0 M I0 I m) Q:=Ops.pre (fun _ h=>h.own0 El T) k
theorem Cod.own0 {c:Code} (El:EL α) (T:TypeId) (k:Cod P c n E (Sym w0 M I0 I (OwnSl El T none 0 [] :: m)) Q):Cod P c n E (Sym w0 M I0 I m) Q:=Cod.pre (fun _ h=>h.own0 El T) k
theorem Ops.pub (hA:Del m (OwnSl El T a cap xs) m') (k:∀ I',I.le I'→RepSl El I' a cap xs→Ops P ops l n E (Sym w0 M I0 I' m') Q):Ops P ops l n E (Sym w0 M I0 I m) Q:=
  fun c w ho hs=>by obtain ⟨I',h1,h2,h3⟩:=hs.pubSl hA; exact k I' h1 h2 c w ho h3
theorem Cod.pub {c:Code} (hA:Del m (OwnSl El T a cap xs) m') (k:∀ I',I.le I'→RepSl El I' a cap xs→Cod P c n E (Sym w0 M I0 I' m') Q):Cod P c n E (Sym w0 M I0 I m) Q:=
  fun c w ho hs=>by obtain ⟨I',h1,h2,h3⟩:=hs.pubSl hA; exact k I' h1 h2 c w ho h3
theorem dJ {f:FuncId} {args:Array Value} {R:Ending→World→Prop} (h:Calls P f args w R):CallsIn (RJ n) 0 P f args w R:=callsIn_wide.2 h
def qF (E:DH):List Operand→Option (List Value)
  | []=>some []
  | x :: r=>match ev E x,qF E r with
    | some v,some vs=>some (v :: vs)
    | _,_=>none
theorem UA {c:Act} (ho:Ok n E c):∀ {xs:List Operand} {vs:List Value},qF E xs=some vs→xs.map c.eval=vs:=by
  intro xs
  induction xs with
  | nil=>intro vs h; simp [qF] at h; simp [h]
  | cons x r ih=>
    intro vs h
    simp only [qF] at h
    cases hx:ev E x with
    | none=>rw [hx] at h; simp at h
    | some v=>
      cases hr:qF E r with
      | none=>rw [hx,hr] at h; simp at h
      | some us=>rw [hx,hr] at h; simp at h; subst h; simp [ho.eval hx,ih hr]
def BW (P:Program) (f:FuncId) (vs:List Value) (I:IH) (ψ:IH→Value→Prop):Prop:=Fun P f vs.toArray I [] fun I' v l=>l=[]∧ψ I' v
theorem Ops.callF {g:FuncId} {args:List Operand} {vs:List Value} {tys:Array TypeId} {mf mr:List HA} {φ:IH→Value→List HA→Prop} (hg:∀ as w,(callFunc g as).run P w=.ok (.enter g as) w)
    (ha:qF E args=some vs) (hf:Fun P g vs.toArray I mf φ) (hb:Nat.blt d n.sz=true) (hfr:fresh E d=true)
    (k:∀ v I' l',I.le I'→φ I' v l'→Ops P ops l n ((d,v) :: E) (Sym w0 M I0 I' (l'++mr)) Q) :
    Ops P ops (⟨some d,.call ⟨.value (.func g),args.toArray,tys⟩,ty,pos,af,none⟩ :: l) n E (Sym w0 M I0 I (mf++mr)) Q:=by
  intro c w ho hs
  refine wpListIn_plain rfl fun K hK=>?_
  have hrun:(execOp c.eval ⟨some d,.call ⟨.value (.func g),args.toArray,tys⟩,ty,pos,af,none⟩).run P w=.ok (.enter g vs.toArray) w:=by
    have e:args.toArray.map c.eval=vs.toArray:=by simp [UA ho ha]
    simp only [execOp,resolve,e,Act.eval,Deferred.ofValue,Sem.run_bind,Sem.run_pure,Result.andThen_ok,invoke]
    simp [hg]
  refine aM hrun (by simp) ?_
  simp only [Oper.uponIn]
  refine ⟨fun h=>(by cases h),dJ (hf.use hs fun v I' l' w' hle hφ hs'=>hK _ _ (k v I' l' hle hφ _ _ (ho.put hb hfr v) hs'))⟩
theorem Ops.call {g:FuncId} {args:List Operand} {vs:List Value} {tys:Array TypeId} {ψ:IH→Value→Prop} (hg:∀ as w,(callFunc g as).run P w=.ok (.enter g as) w)
    (ha:qF E args=some vs) (hf:BW P g vs I ψ) (hb:Nat.blt d n.sz=true) (hfr:fresh E d=true)
    (k:∀ v I',I.le I'→ψ I' v→Ops P ops l n ((d,v) :: E) (Sym w0 M I0 I' m) Q) :
    Ops P ops (⟨some d,.call ⟨.value (.func g),args.toArray,tys⟩,ty,pos,af,none⟩ :: l) n E (Sym w0 M I0 I m) Q:=
  Ops.callF (mf:=[]) (mr:=m) hg ha hf hb hfr fun v I' l' hle hφ=>by obtain ⟨rfl,hψ⟩:=hφ; exact k v I' hle hψ
abbrev HM (P:Program) (fn:Func) (R:Ending→World→Prop):Exit→Act→World→Prop:=bodyPostM Fence.wide 0 P fn R
inductive ArgsE:Nat→List Value→DH→Prop
  | n {i:Nat}:ArgsE i [] []
  | c {i:Nat} {v:Value} {vs:List Value} {E:DH} (h:ArgsE (i+1) vs E):ArgsE i (v :: vs) ((i,v) :: E)
theorem ArgsE.ok {i:Nat} {vs:List Value} {E:DH} (h:ArgsE i vs E):∀ (us:List Value) (r:Array Value),us.length=i→EnvOk E { tmps:=(us++vs).toArray++r,defers:=[] }:=by
  induction h with
  | n=>exact fun _ _ _=>trivial
  | @c i v vs E _ ih=>
    intro us r hu
    refine ⟨?_,?_⟩
    · rw [Array.getElem?_append_left (by simp; omega)]
      simp [←hu]
    · have:=ih (us++[v]) r (by simp [hu])
      rwa [List.append_assoc] at this
theorem Fun.enter {f:FuncId} {fn:Func} {c:Code} {z:Nat} {vs:List Value} {l:List HA} {φ:IH→Value→List HA→Prop} (hf:P.funcs[f]? = some fn) (hb:fn.body=some c) (hn:fn.ntmps=z) (hl:Nat.ble vs.length z=true) (hE:ArgsE 0 vs E)
    (k:∀ w M,Cod P c ⟨z,[],none⟩ E (Sym w M I I l) (HM P fn (QE w M I φ))):Fun P f vs.toArray I l φ:=by
  intro w h hi hs hh hd
  refine callsIn_wide.1 (callsIn_of_wp_marks hf hb trivial (k w _ _ w ⟨?_,rfl,?_⟩ (Fun.start hi hs hh hd)))
  · have:vs.length≤z:=by simpa [Nat.ble_eq] using hl
    simp [hn]; omega
  · exact hE.ok [] _ rfl
inductive ResR (P:Program) (E:DH) (m:List HA):List ResultVar→List Value→Prop
  | n:ResR P E m [] []
  | t {t:Nat} {v:Value} {rs:List ResultVar} {vs:List Value} (h:look E t=some v) (k:ResR P E m rs vs):ResR P E m (.tmp t :: rs) (v :: vs)
  | w {t b s:Nat} {T:TypeId} {cs:List Value} {m':List HA} {T':TypeId} {fz:Nat×Nat} {rs:List ResultVar} {vs:List Value} (hT:∀ w,(isAgg T).run P w=.ok true w) (hS:∀ w,(sizeOf T).run P w=.ok s w)
      (h:look E t=some (.pointer (some ⟨b,0,none⟩))) (hA:Del m (pto b (.cells cs.toArray T' fz)) m') (hl:cs.length=s) (k:ResR P E m rs vs):ResR P E m (.cell t T :: rs) (.agg cs.toArray :: vs)
  | s {t b:Nat} {T:TypeId} {v:Value} {m':List HA} {T':TypeId} {fz:Nat×Nat} {rs:List ResultVar} {vs:List Value} (hT:∀ w,(isAgg T).run P w=.ok false w) (h:look E t=some (.pointer (some ⟨b,0,none⟩)))
      (hA:Del m (pto b (.cells #[v] T' fz)) m') (k:ResR P E m rs vs):ResR P E m (.cell t T :: rs) (v :: vs)
def uZ (c:Act):ResultVar→Sem Value
  | .tmp t=>pure (c.tmps.getD t undef)
  | .cell a t=>do loadVar t (←asAddr (c.tmps.getD a undef))
theorem ResR.run {rs:List ResultVar} {vs:List Value} (h:ResR P E m rs vs) {c:Act} (ho:Ok n E c) (hs:Sym w0 M I0 I m w):(rs.mapM (uZ c)).run P w=.ok vs w:=by
  induction h with
  | n=>rfl
  | t h k ih=>
    have e:=ho.env.look h
    rw [List.mapM_cons]
    simp only [uZ,Array.getD_eq_getD_getElem?,e,Option.getD_some,Sem.run_bind,Sem.run_pure,Result.andThen_ok,ih]
  | @w t b s T cs m' T' fz rs vs hT hS h hA hl k ih=>
    have e:=ho.env.look h
    have hl:(loadVar T ⟨b,0,none⟩).run P w=.ok (.agg cs.toArray) w:=by
      have:=PE (P:=P) (w:=w) (T:=T) (b:=b) (off:=0) (vs:=cs) hT hS hl (fun j v hj=>(MW (hs.del hA).pto).trans (by simpa using hj))
      simpa [Instr.loadAt,Instr.sureAddr] using this
    rw [List.mapM_cons]
    simp only [uZ,Array.getD_eq_getD_getElem?,e,Option.getD_some,Sem.run_bind,asAddr,Sem.run_pure,Result.andThen_ok,hl,ih]
  | @s t b T v m' T' fz rs vs hT h hA k ih=>
    have e:=ho.env.look h
    have hc:w.cell? ⟨b,0,none⟩=some v:=(MW (hs.del hA).pto).trans (by simp)
    have hl:(loadVar T ⟨b,0,none⟩).run P w=.ok v w:=by
      have:=TY (P:=P) (w:=w) (T:=T) (b:=b) (off:=0) hT hc
      simpa [Instr.loadAt,Instr.sureAddr] using this
    rw [List.mapM_cons]
    simp only [uZ,Array.getD_eq_getD_getElem?,e,Option.getD_some,Sem.run_bind,asAddr,Sem.run_pure,Result.andThen_ok,hl,ih]
def tup:List Value→Value
  | [v]=>v
  | vs=>.tuple vs.toArray
theorem ResR.resultsOf {rs:List ResultVar} {vs:List Value} (h:ResR P E m rs vs) {fn:Func} (hr:fn.results=rs.toArray) {c:Act} (ho:Ok n E c) (hs:Sym w0 M I0 I m w):(results fn c.tmps).run P w=.ok (tup vs) w:=by
  have hrun:=h.run ho hs
  have e:∀ f:ResultVar→Sem Value,(∀ r,f r=uZ c r)→fn.results.mapM f=(do pure (←rs.mapM (uZ c)).toArray:Sem (Array Value)):=fun f hf=>by
    rw [hr,Array.mapM_eq_mapM_toList,map_eq_pure_bind,show f=uZ c from funext hf]
  unfold Go.results
  rw [e _ (fun r=>by cases r <;> rfl)]
  simp only [Sem.run_bind,hrun,Result.andThen_ok,Sem.run_pure]
  congr 1
  match vs with
  | []=>rfl
  | [v]=>rfl
  | u :: v :: r=>simp [tup]
def AfS (A B:HA):HA where
  holds I h:=∃ h1 h2:IH,h1.disj h2∧h1.le h∧h2.le h∧A.holds I h1∧B.holds I h2
  mono hI hh:=fun ⟨h1,h2,a,b,c,d,e⟩=>⟨h1,h2,a,b.trans hh,c.trans hh,A.mono hI (IH.le.refl _) d,B.mono hI (IH.le.refl _) e⟩
def AhD:HA:=⟨fun _ _=>True,fun _ _ _=>trivial⟩
theorem Sym.emp:Sym w0 M I0 I (AhD :: m) w↔Sym w0 M I0 I m w:=by
  constructor
  · exact fun h=>h.drop
  · rintro ⟨hb,hi,hn,k,hs,hk,hd,hm⟩
    exact ⟨hb,hi,hn,k,⟨fun _=>none,k,fun _=>.inl rfl,(fun _ _ x=>nomatch x),IH.le.refl _,trivial,hs⟩,hk,hd,hm⟩
theorem Sym.star {A B:HA}:Sym w0 M I0 I (AfS A B :: m) w↔Sym w0 M I0 I (A :: B :: m) w:=by
  constructor
  · rintro ⟨hb,hi,hn,k,⟨h1,h2,hd',hl1,hl2,⟨g1,g2,a,b,c,d,e⟩,hs'⟩,hk,hdj,hm⟩
    refine ⟨hb,hi,hn,k,⟨g1,g2.union h2,?_,b.trans hl1,IH.union_le (c.trans hl1) hl2,d,g2,h2,hd'.mono c (IH.le.refl _),IH.le_union_left _ _,IH.le_union_right (hd'.mono c (IH.le.refl _)),e,hs'⟩,hk,hdj,hm⟩
    intro x
    rcases a x with h | h
    · exact .inl h
    · rcases (hd'.mono b (IH.le.refl h2)) x with h' | h'
      · exact .inl h'
      · right; simp [IH.union,h,h']
  · rintro ⟨hb,hi,hn,k,⟨h1,h2,hd',hl1,hl2,ha,h3,h4,hd2,hl3,hl4,hb2,hs'⟩,hk,hdj,hm⟩
    have d13:=hd'.mono (IH.le.refl _) hl3
    refine ⟨hb,hi,hn,k,⟨h1.union h3,h4,?_,IH.union_le hl1 (hl3.trans hl2),hl4.trans hl2,⟨h1,h3,d13,IH.le_union_left _ _,IH.le_union_right d13,ha,hb2⟩,hs'⟩,hk,hdj,hm⟩
    intro x
    rcases hd2 x with h | h
    · rcases (hd'.mono (IH.le.refl _) hl4) x with h' | h'
      · left; simp [IH.union,h,h']
      · exact .inr h'
    · exact .inr h
def MF:List Nat→HA
  | []=>AhD
  | D :: ds=>AfS (pto D (.deferred (some []))) (MF ds)
theorem Sym.marks0 (h:Sym w0 M I0 I m w):Sym w0 M I0 I (MF [] :: m) w:=Sym.emp.2 h
theorem Sym.marksCons {D:Nat} {ds:List Nat}:Sym w0 M I0 I (MF (D :: ds) :: m) w↔Sym w0 M I0 I (Fw.pto D (.deferred (some [])) :: MF ds :: m) w:=Sym.star
theorem xM {rs:List ResultVar} {vs:List Value} {fn:Func} {tmps:Array Value} {R:Ending→World→Prop} (hr:fn.results=rs.toArray) (h:ResR P E m rs vs):∀ {ds:List Nat} {w:World} {c:Act},
    EnvOk E c→c.tmps=tmps→Sym w0 M I0 I (MF ds :: m) w→(∀ w',Sym w0 M I0 I m w'→R (.returned (tup vs)) w')→LeavesInM Fence.wide 0 P fn tmps R (ds.map mkM) .returning w
  | [],w,c,ho,ht,hs,hR=>by
    have hs':=hs.drop
    have hres:=h.resultsOf (n:=⟨c.tmps.size,[],none⟩) hr (c:={ tmps:=c.tmps,defers:=[] }) ⟨rfl,rfl,by
      clear h; induction E with
      | nil=>trivial
      | cons p E ih=>exact ⟨ho.1,ih ho.2⟩⟩ hs'
    subst ht
    exact ⟨_,hres,hR _ hs'⟩
  | D :: ds,w,c,ho,ht,hs,hR=>by
    have hs':=Sym.marksCons.1 hs
    have hb:=hs'.pto
    refine ⟨by simp,.inl ⟨D,w.putObj D (.deferred none),rfl,run_takeDeferred hb,?_⟩⟩
    have hlt:D<w.heap.size:=(Array.getElem?_eq_some_iff.1 hb).1
    have hup:=hs'.upd (o':=.deferred none) (w':=w.putObj D (.deferred none)) rfl rfl rfl rfl (by simp) (fun q hq=>World.putObj_heap_other hq) (World.putObj_heap_same hlt)
    exact xM hr h ho ht hup.drop hR
theorem AbG {z:Nat} {ds:List Nat} {mm:List HA} (hM:Del mm (MF ds) m) {rs:List ResultVar} {vs:List Value} {fn:Func} {R:Ending→World→Prop} {c:Act} (ho:Ok ⟨z,ds,none⟩ E c) (h:ResR P E m rs vs) (hr:fn.results=rs.toArray) (hs:Sym w0 M I0 I mm w)
    (hR:∀ w',Sym w0 M I0 I m w'→R (.returned (tup vs)) w'):LeavesInM Fence.wide 0 P fn c.tmps R c.defers .returning w:=by
  rw [ho.defers]
  exact xM hr h ho.env rfl (hs.del hM) hR
theorem xN {z:Nat} {rs:List ResultVar} {vs:List Value} {fn:Func} {R:Ending→World→Prop} {c:Act} (ho:Ok ⟨z,[],none⟩ E c) (h:ResR P E m rs vs) (hr:fn.results=rs.toArray) (hs:Sym w0 M I0 I m w)
    (hR:∀ w',Sym w0 M I0 I m w'→R (.returned (tup vs)) w'):LeavesInM Fence.wide 0 P fn c.tmps R c.defers .returning w:=AbG .z ho h hr hs.marks0 hR
theorem ret {z:Nat} {rs:List ResultVar} {vs:List Value} {fn:Func} {φ:IH→Value→List HA→Prop} (hr:fn.results=rs.toArray) (h:ResR P E m rs vs) (hle:I0.le I) (hφ:φ I (tup vs) m) :
    ∀ c w,Ok ⟨z,[],none⟩ E c→Sym w0 M I0 I m w→HM P fn (QE w0 M I0 φ) .ret c w:=fun _ _ ho hs=>xN ho h hr hs fun _ hs=>⟨_,I,m,rfl,hle,hφ,hs⟩
theorem Sym.dropAll (h:Sym w0 M I0 I m w):Sym w0 M I0 I [] w:=by
  obtain ⟨hb,hi,hn,k,hs,hk,hd,hm⟩:=h
  exact ⟨hb,hi,hn,k,trivial,hk,hd,hm⟩
theorem BZ {z:Nat} {rs:List ResultVar} {vs:List Value} {fn:Func} {ψ:IH→Value→Prop} (hr:fn.results=rs.toArray) (h:ResR P E m rs vs) (hle:I0.le I) (hψ:ψ I (tup vs)) :
    ∀ c w,Ok ⟨z,[],none⟩ E c→Sym w0 M I0 I m w→HM P fn (QE w0 M I0 fun I' v l=>l=[]∧ψ I' v) .ret c w:=fun _ _ ho hs=>xN ho h hr hs fun _ hs=>⟨_,I,[],rfl,hle,⟨rfl,hψ⟩,hs.dropAll⟩
theorem qP {z:Nat} {ds:List Nat} {mm:List HA} (hM:Del mm (MF ds) m) {rs:List ResultVar} {vs:List Value} {fn:Func} {ψ:IH→Value→Prop} (hr:fn.results=rs.toArray) (h:ResR P E m rs vs) (hle:I0.le I) (hψ:ψ I (tup vs)) :
    ∀ c w,Ok ⟨z,ds,none⟩ E c→Sym w0 M I0 I mm w→HM P fn (QE w0 M I0 fun I' v l=>l=[]∧ψ I' v) .ret c w:=fun _ _ ho hs=>AbG hM ho h hr hs fun _ hs=>⟨_,I,[],rfl,hle,⟨rfl,hψ⟩,hs.dropAll⟩
def BA (xs:List α) (i:Int) (K:α→Prop):Prop:=0≤i∧∃ x,xs[i.toNat]? = some x∧K x
def HN (B:Nat) (xs ys:List α) (K:List α→Prop):Prop:=(xs.length+ys.length)*B≤140737488355328∧K (xs++ys)
end Go.Fw
