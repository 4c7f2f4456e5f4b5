/- The engine, part F: entering a function, its end, calls, changes of what is known of memory. -/
import Derived.Test.YtbohadngdkjljaaGreatFwE
import Derived.Test.YtbohadngdkjljaaGreatFwR
import Derived.RangeFuncLeaves
import Derived.RangeFuncRecord
namespace Go.Fw
open Go Go.RowKit
variable {w0 w:World} {M:Nat→Prop} {I0 I:IH} {m m':List HA}
variable {P:Program} {n:FrK} {E:DY} {S:World→Prop} {Q:Exit→Act→World→Prop} {ops:Array Oper} {l:List Oper}
variable {d ty:Nat} {pos:String} {af:Array Edge} {T e:TypeId} {x y:Operand}
variable {α:Type} {El:FH α} {xs ys:List α} {a:Option Addr} {cap:Nat}
/-! ### Changes of what is known -/
theorem Cod.drop {c:Code} {A:HA} (D:Del m A m') (k:Cod P c n E (Sym w0 M I0 I m') Q):Cod P c n E (Sym w0 M I0 I m) Q:=Cod.pre (fun _ h=>(h.del D).drop) k
theorem Cod.own0 {c:Code} (El:FH α) (T:TypeId) (k:Cod P c n E (Sym w0 M I0 I (OwnSl El T none 0 [] :: m)) Q):Cod P c n E (Sym w0 M I0 I m) Q:=Cod.pre (fun _ h=>h.own0 El T) k
theorem Ops.pub (G:Del m (OwnSl El T a cap xs) m') (k:∀ h,I.le h→RepSl El h a cap xs→Ops P ops l n E (Sym w0 M I0 h m') Q):Ops P ops l n E (Sym w0 M I0 I m) Q:=
  fun c w O V=>by obtain ⟨h,J,U,D⟩:=V.pubSl G; exact k h J U c w O D
theorem Cod.pub {c:Code} (G:Del m (OwnSl El T a cap xs) m') (k:∀ h,I.le h→RepSl El h a cap xs→Cod P c n E (Sym w0 M I0 h m') Q):Cod P c n E (Sym w0 M I0 I m) Q:=
  fun c w O V=>by obtain ⟨h,J,U,D⟩:=V.pubSl G; exact k h J U c w O D
theorem fC {f:FuncId} {args:Array Value} {R:Ending→World→Prop} (h:Calls P f args w R):CallsIn (UY n) 0 P f args w R:=callsIn_wide.2 h
def xT (E:DY):List Operand→Option (List Value)
  | []=>some []
  | x :: r=>match ev E x,xT E r with
    | some v,some vs=>some (v :: vs)
    | _,_=>none
theorem Z9 {c:Act} (D:Ok n E c):∀ {xs:List Operand} {vs:List Value},xT E xs=some vs→xs.map c.eval=vs:=by
  intro xs
  induction xs with
  | nil=>intro vs h; simp [xT] at h; simp [h]
  | cons x r G=>
    intro vs h
    simp only [xT] at h
    cases hx:ev E x with
    | none=>rw [hx] at h; simp at h
    | some v=>
      cases hr:xT E r with
      | none=>rw [hx,hr] at h; simp at h
      | some us=>rw [hx,hr] at h; simp at h; subst h; simp [D.eval hx,G hr]
def BR (P:Program) (f:FuncId) (vs:List Value) (I:IH) (ψ:IH→Value→Prop):Prop:=Fun P f vs.toArray I [] fun h v l=>l=[]∧ψ h v
theorem Ops.callF {g:FuncId} {args:List Operand} {vs:List Value} {J:Array TypeId} {mf mr:List HA} {φ:IH→Value→List HA→Prop} (Z:∀ as w,(callFunc g as).run P w=.ok (.enter g as) w)
    (ha:xT E args=some vs) (hf:Fun P g vs.toArray I mf φ) (hb:Nat.blt d n.sz=true) (V:fresh E d=true)
    (k:∀ v G O,I.le G→φ G v O→Ops P ops l n ((d,v) :: E) (Sym w0 M I0 G (O++mr)) Q) :
    Ops P ops (⟨some d,.call ⟨.value (.func g),args.toArray,J⟩,ty,pos,af,none⟩ :: l) n E (Sym w0 M I0 I (mf++mr)) Q:=by
  intro c w Y hs
  refine wpListIn_plain rfl fun K hK=>?_
  have D:(execOp c.eval ⟨some d,.call ⟨.value (.func g),args.toArray,J⟩,ty,pos,af,none⟩).run P w=.ok (.enter g vs.toArray) w:=by
    have e:args.toArray.map c.eval=vs.toArray:=by simp [Z9 Y ha]
    simp only [execOp,resolve,e,Act.eval,Deferred.ofValue,Sem.run_bind,Sem.run_pure,Result.andThen_ok,invoke]
    simp [Z]
  refine cG D (by simp) ?_
  simp only [Oper.uponIn]
  refine ⟨fun h=>(by cases h),fC (hf.use hs fun v G O w' W hφ U=>hK _ _ (k v G O W hφ _ _ (Y.put hb V v) U))⟩
theorem Ops.call {g:FuncId} {args:List Operand} {vs:List Value} {G:Array TypeId} {ψ:IH→Value→Prop} (O:∀ as w,(callFunc g as).run P w=.ok (.enter g as) w)
    (W:xT E args=some vs) (Z:BR P g vs I ψ) (U:Nat.blt d n.sz=true) (D:fresh E d=true)
    (k:∀ v h,I.le h→ψ h v→Ops P ops l n ((d,v) :: E) (Sym w0 M I0 h m) Q) :
    Ops P ops (⟨some d,.call ⟨.value (.func g),args.toArray,G⟩,ty,pos,af,none⟩ :: l) n E (Sym w0 M I0 I m) Q:=
  Ops.callF (mf:=[]) (mr:=m) O W Z U D fun v h l' J V=>by obtain ⟨rfl,Y⟩:=V; exact k v h J Y
abbrev JJ (P:Program) (h:Func) (R:Ending→World→Prop):Exit→Act→World→Prop:=bodyPostM Fence.wide 0 P h R
inductive ArgsE:Nat→List Value→DY→Prop
  | n {i:Nat}:ArgsE i [] []
  | c {i:Nat} {v:Value} {vs:List Value} {E:DY} (h:ArgsE (i+1) vs E):ArgsE i (v :: vs) ((i,v) :: E)
theorem ArgsE.ok {i:Nat} {vs:List Value} {E:DY} (h:ArgsE i vs E):∀ (D:List Value) (r:Array Value),D.length=i→EnvOk E { tmps:=(D++vs).toArray++r,defers:=[] }:=by
  induction h with
  | n=>exact fun _ _ _=>trivial
  | @c i v vs E _ J=>
    intro D r G
    refine ⟨?_,?_⟩
    · rw [Array.getElem?_append_left (by simp; omega)]
      simp [←G]
    · have:=J (D++[v]) r (by simp [G])
      rwa [List.append_assoc] at this
theorem Fun.enter {f:FuncId} {D:Func} {c:Code} {z:Nat} {vs:List Value} {l:List HA} {φ:IH→Value→List HA→Prop} (Y:P.funcs[f]? = some D) (U:D.body=some c) (J:D.ntmps=z) (Z:Nat.ble vs.length z=true) (V:ArgsE 0 vs E)
    (k:∀ w M,Cod P c ⟨z,[],none⟩ E (Sym w M I I l) (JJ P D (TA w M I φ))):Fun P f vs.toArray I l φ:=by
  intro w h hi W O G
  refine callsIn_wide.1 (callsIn_of_wp_marks Y U trivial (k w _ _ w ⟨?_,rfl,?_⟩ (Fun.start hi W O G)))
  · have:vs.length≤z:=by simpa [Nat.ble_eq] using Z
    simp [J]; omega
  · exact V.ok [] _ rfl
inductive ResR (P:Program) (E:DY) (m:List HA):List ResultVar→List Value→Prop
  | n:ResR P E m [] []
  | t {t:Nat} {v:Value} {rs:List ResultVar} {vs:List Value} (h:look E t=some v) (k:ResR P E m rs vs):ResR P E m (.tmp t :: rs) (v :: vs)
  | w {t b s:Nat} {T:TypeId} {cs:List Value} {m':List HA} {T':TypeId} {fz:Nat×Nat} {rs:List ResultVar} {vs:List Value} (hT:∀ w,(isAgg T).run P w=.ok true w) (hS:∀ w,(sizeOf T).run P w=.ok s w)
      (h:look E t=some (.pointer (some ⟨b,0,none⟩))) (hA:Del m (pto b (.cells cs.toArray T' fz)) m') (hl:cs.length=s) (k:ResR P E m rs vs):ResR P E m (.cell t T :: rs) (.agg cs.toArray :: vs)
  | s {t b:Nat} {T:TypeId} {v:Value} {m':List HA} {T':TypeId} {fz:Nat×Nat} {rs:List ResultVar} {vs:List Value} (hT:∀ w,(isAgg T).run P w=.ok false w) (h:look E t=some (.pointer (some ⟨b,0,none⟩)))
      (hA:Del m (pto b (.cells #[v] T' fz)) m') (k:ResR P E m rs vs):ResR P E m (.cell t T :: rs) (v :: vs)
def yB (c:Act):ResultVar→Sem Value
  | .tmp t=>pure (c.tmps.getD t undef)
  | .cell a t=>do loadVar t (←asAddr (c.tmps.getD a undef))
theorem ResR.run {J:List ResultVar} {vs:List Value} (h:ResR P E m J vs) {c:Act} (O:Ok n E c) (W:Sym w0 M I0 I m w):(J.mapM (yB c)).run P w=.ok vs w:=by
  induction h with
  | n=>rfl
  | t h k D=>
    have e:=O.env.look h
    rw [List.mapM_cons]
    simp only [yB,Array.getD_eq_getD_getElem?,e,Option.getD_some,Sem.run_bind,Sem.run_pure,Result.andThen_ok,D]
  | @w t b s T cs m' T' fz J vs V Y h U G k D=>
    have e:=O.env.look h
    have G:(loadVar T ⟨b,0,none⟩).run P w=.ok (.agg cs.toArray) w:=by
      have:=QF (P:=P) (w:=w) (T:=T) (b:=b) (off:=0) (vs:=cs) V Y G (fun j v Z=>(NM (W.del U).pto).trans (by simpa using Z))
      simpa [Instr.loadAt,Instr.sureAddr] using this
    rw [List.mapM_cons]
    simp only [yB,Array.getD_eq_getD_getElem?,e,Option.getD_some,Sem.run_bind,asAddr,Sem.run_pure,Result.andThen_ok,G,D]
  | @s t b T v m' T' fz J vs V h U k D=>
    have e:=O.env.look h
    have hc:w.cell? ⟨b,0,none⟩=some v:=(NM (W.del U).pto).trans (by simp)
    have G:(loadVar T ⟨b,0,none⟩).run P w=.ok v w:=by
      have:=UZ (P:=P) (w:=w) (T:=T) (b:=b) (off:=0) V hc
      simpa [Instr.loadAt,Instr.sureAddr] using this
    rw [List.mapM_cons]
    simp only [yB,Array.getD_eq_getD_getElem?,e,Option.getD_some,Sem.run_bind,asAddr,Sem.run_pure,Result.andThen_ok,G,D]
def tup:List Value→Value
  | [v]=>v
  | vs=>.tuple vs.toArray
theorem ResR.resultsOf {G:List ResultVar} {vs:List Value} (h:ResR P E m G vs) {J:Func} (U:J.results=G.toArray) {c:Act} (O:Ok n E c) (V:Sym w0 M I0 I m w):(results J c.tmps).run P w=.ok (tup vs) w:=by
  have D:=h.run O V
  have e:∀ f:ResultVar→Sem Value,(∀ r,f r=yB c r)→J.results.mapM f=(do pure (←G.mapM (yB c)).toArray:Sem (Array Value)):=fun f W=>by
    rw [U,Array.mapM_eq_mapM_toList,map_eq_pure_bind,show f=yB c from funext W]
  unfold Go.results
  rw [e _ (fun r=>by cases r <;> rfl)]
  simp only [Sem.run_bind,D,Result.andThen_ok,Sem.run_pure]
  congr 1
  match vs with
  | []=>rfl
  | [v]=>rfl
  | u :: v :: r=>simp [tup]
def AhA (A B:HA):HA where
  holds I h:=∃ h1 h2:IH,h1.disj h2∧h1.le h∧h2.le h∧A.holds I h1∧B.holds I h2
  mono hI hh:=fun ⟨h1,h2,a,b,c,d,e⟩=>⟨h1,h2,a,b.trans hh,c.trans hh,A.mono hI (IH.le.refl _) d,B.mono hI (IH.le.refl _) e⟩
def Aj0:HA:=⟨fun _ _=>True,fun _ _ _=>trivial⟩
theorem Sym.emp:Sym w0 M I0 I (Aj0 :: m) w↔Sym w0 M I0 I m w:=by
  constructor
  · exact fun h=>h.drop
  · rintro ⟨J,hi,U,k,G,hk,D,O⟩
    exact ⟨J,hi,U,k,⟨fun _=>none,k,fun _=>.inl rfl,(fun _ _ x=>nomatch x),IH.le.refl _,trivial,G⟩,hk,D,O⟩
theorem Sym.star {A B:HA}:Sym w0 M I0 I (AhA A B :: m) w↔Sym w0 M I0 I (A :: B :: m) w:=by
  constructor
  · rintro ⟨J,hi,O,k,⟨h1,h2,hd',hl1,hl2,⟨V,U,a,b,c,d,e⟩,hs'⟩,hk,hdj,hm⟩
    refine ⟨J,hi,O,k,⟨V,U.union h2,?_,b.trans hl1,IH.union_le (c.trans hl1) hl2,d,U,h2,hd'.mono c (IH.le.refl _),IH.le_union_left _ _,IH.le_union_right (hd'.mono c (IH.le.refl _)),e,hs'⟩,hk,hdj,hm⟩
    intro x
    rcases a x with h | h
    · exact .inl h
    · rcases (hd'.mono b (IH.le.refl h2)) x with D | D
      · exact .inl D
      · right; simp [IH.union,h,D]
  · rintro ⟨J,hi,O,k,⟨h1,h2,hd',hl1,hl2,ha,h3,h4,hd2,hl3,hl4,hb2,hs'⟩,hk,hdj,hm⟩
    have G:=hd'.mono (IH.le.refl _) hl3
    refine ⟨J,hi,O,k,⟨h1.union h3,h4,?_,IH.union_le hl1 (hl3.trans hl2),hl4.trans hl2,⟨h1,h3,G,IH.le_union_left _ _,IH.le_union_right G,ha,hb2⟩,hs'⟩,hk,hdj,hm⟩
    intro x
    rcases hd2 x with h | h
    · rcases (hd'.mono (IH.le.refl _) hl4) x with D | D
      · left; simp [IH.union,h,D]
      · exact .inr D
    · exact .inr h
def MZ:List Nat→HA
  | []=>Aj0
  | D :: ds=>AhA (pto D (.deferred (some []))) (MZ ds)
theorem Sym.marks0 (h:Sym w0 M I0 I m w):Sym w0 M I0 I (MZ [] :: m) w:=Sym.emp.2 h
theorem Sym.marksCons {D:Nat} {h:List Nat}:Sym w0 M I0 I (MZ (D :: h) :: m) w↔Sym w0 M I0 I (Fw.pto D (.deferred (some [])) :: MZ h :: m) w:=Sym.star
theorem AaC {W:List ResultVar} {vs:List Value} {fn:Func} {tmps:Array Value} {R:Ending→World→Prop} (Z:fn.results=W.toArray) (h:ResR P E m W vs):∀ {O:List Nat} {w:World} {c:Act},
    EnvOk E c→c.tmps=tmps→Sym w0 M I0 I (MZ O :: m) w→(∀ w',Sym w0 M I0 I m w'→R (.returned (tup vs)) w')→LeavesInM Fence.wide 0 P fn tmps R (O.map mkM) .returning w
  | [],w,c,ho,ht,hs,hR=>by
    have G:=hs.drop
    have J:=h.resultsOf (n:=⟨c.tmps.size,[],none⟩) Z (c:={ tmps:=c.tmps,defers:=[] }) ⟨rfl,rfl,by
      clear h; induction E with
      | nil=>trivial
      | cons p E ih=>exact ⟨ho.1,ih ho.2⟩⟩ G
    subst ht
    exact ⟨_,J,hR _ G⟩
  | D :: O,w,c,ho,ht,hs,hR=>by
    have G:=Sym.marksCons.1 hs
    have Y:=G.pto
    refine ⟨by simp,.inl ⟨D,w.putObj D (.deferred none),rfl,run_takeDeferred Y,?_⟩⟩
    have U:D<w.heap.size:=(Array.getElem?_eq_some_iff.1 Y).1
    have V:=G.upd (o':=.deferred none) (w':=w.putObj D (.deferred none)) rfl rfl rfl rfl (by simp) (fun q hq=>World.putObj_heap_other hq) (World.putObj_heap_same U)
    exact AaC Z h ho ht V.drop hR
theorem Ad4 {z:Nat} {J:List Nat} {U:List HA} (V:Del U (MZ J) m) {G:List ResultVar} {vs:List Value} {O:Func} {R:Ending→World→Prop} {c:Act} (D:Ok ⟨z,J,none⟩ E c) (h:ResR P E m G vs) (W:O.results=G.toArray) (Z:Sym w0 M I0 I U w)
    (Y:∀ w',Sym w0 M I0 I m w'→R (.returned (tup vs)) w'):LeavesInM Fence.wide 0 P O c.tmps R c.defers .returning w:=by
  rw [D.defers]
  exact AaC W h D.env rfl (Z.del V) Y
theorem Ad5 {z:Nat} {D:List ResultVar} {vs:List Value} {G:Func} {R:Ending→World→Prop} {c:Act} (J:Ok ⟨z,[],none⟩ E c) (h:ResR P E m D vs) (O:G.results=D.toArray) (V:Sym w0 M I0 I m w)
    (U:∀ w',Sym w0 M I0 I m w'→R (.returned (tup vs)) w'):LeavesInM Fence.wide 0 P G c.tmps R c.defers .returning w:=Ad4 .z J h O V.marks0 U
theorem Sym.dropAll (h:Sym w0 M I0 I m w):Sym w0 M I0 I [] w:=by
  obtain ⟨G,hi,O,k,hs,hk,D,J⟩:=h
  exact ⟨G,hi,O,k,trivial,hk,D,J⟩
theorem BS {z:Nat} {J:List ResultVar} {vs:List Value} {O:Func} {ψ:IH→Value→Prop} (V:O.results=J.toArray) (h:ResR P E m J vs) (G:I0.le I) (Y:ψ I (tup vs)) :
    ∀ c w,Ok ⟨z,[],none⟩ E c→Sym w0 M I0 I m w→JJ P O (TA w0 M I0 fun W v l=>l=[]∧ψ W v) .ret c w:=fun _ _ U D=>Ad5 U h V D fun _ D=>⟨_,I,[],rfl,G,⟨rfl,Y⟩,D.dropAll⟩
theorem tR {z:Nat} {O:List Nat} {V:List HA} (Y:Del V (MZ O) m) {J:List ResultVar} {vs:List Value} {U:Func} {ψ:IH→Value→Prop} (Z:U.results=J.toArray) (h:ResR P E m J vs) (G:I0.le I) (hψ:ψ I (tup vs)) :
    ∀ c w,Ok ⟨z,O,none⟩ E c→Sym w0 M I0 I V w→JJ P U (TA w0 M I0 fun I' v l=>l=[]∧ψ I' v) .ret c w:=fun _ _ W D=>Ad4 Y W h Z D fun _ D=>⟨_,I,[],rfl,G,⟨rfl,hψ⟩,D.dropAll⟩
def AY (xs:List α) (i:Int) (K:α→Prop):Prop:=0≤i∧∃ x,xs[i.toNat]? = some x∧K x
def FX (B:Nat) (xs ys:List α) (K:List α→Prop):Prop:=(xs.length+ys.length)*B≤140737488355328∧K (xs++ys)
end Go.Fw
