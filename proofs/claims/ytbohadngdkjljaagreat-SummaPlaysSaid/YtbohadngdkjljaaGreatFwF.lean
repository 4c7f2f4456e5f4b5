/- The engine. -/
import Derived.Test.YtbohadngdkjljaaGreatFwE
import Derived.Test.YtbohadngdkjljaaGreatFwR
import Derived.RangeFuncLeaves
import Derived.RangeFuncRecord
namespace Go.Fw
open Go Go.RowKit
variable {w0 w:World} {M:Nat→Prop} {I0 I:IH} {m m':List HA}
variable {P:Program} {n:FrK} {E:DA} {S:World→Prop} {Q:Exit→Act→World→Prop} {ops:Array Oper} {l:List Oper}
variable {d ty:Nat} {pos:String} {af:Array Edge} {T e:TypeId} {x y:Operand}
variable {α:Type} {El:F0 α} {xs ys:List α} {a:Option Addr} {cap:Nat}
/-! ### Changes of what is known -/
variable {fn:Func} {rs:List ResultVar} {ψ:IH→Value→Prop} {ds:List Nat}
theorem Cod.drop {c:Code} {A:HA} (D:Del m A m') (k:Cod P c n E (Sym w0 M I0 I m') Q):Cod P c n E (Sym w0 M I0 I m) Q:=Cod.pre (fun _ h=>(h.del D).drop) k
theorem Ops.own0 (El:F0 α) (T:TypeId) (k:Ops P ops l n E (Sym w0 M I0 I (OwnSl El T none 0 [] :: m)) Q):Ops P ops l n E (Sym w0 M I0 I m) Q:=Ops.pre (fun _ h=>h.own0 El T) k
theorem Cod.own0 {c:Code} (El:F0 α) (T:TypeId) (k:Cod P c n E (Sym w0 M I0 I (OwnSl El T none 0 [] :: m)) Q):Cod P c n E (Sym w0 M I0 I m) Q:=Cod.pre (fun _ h=>h.own0 El T) k
theorem Ops.pub (G:Del m (OwnSl El T a cap xs) m') (k:∀ h,I.le h→RepSl El h a cap xs→Ops P ops l n E (Sym w0 M I0 h m') Q):Ops P ops l n E (Sym w0 M I0 I m) Q:=
 fun c w V J=>by obtain ⟨h,U,D,O⟩:=J.pubSl G; exact k h U D c w V O
theorem Cod.pub {c:Code} (G:Del m (OwnSl El T a cap xs) m') (k:∀ h,I.le h→RepSl El h a cap xs→Cod P c n E (Sym w0 M I0 h m') Q):Cod P c n E (Sym w0 M I0 I m) Q:=
 fun c w V J=>by obtain ⟨h,U,D,O⟩:=J.pubSl G; exact k h U D c w V O
theorem bB {f:FuncId} {args:Array Value} {R:Ending→World→Prop} (h:Calls P f args w R):CallsIn (SH n) 0 P f args w R:=callsIn_wide.2 h
def qC (E:DA):List Operand→Option (List Value)
 | []=>some []
 | x :: r=>match ev E x,qC E r with
  | some v,some vs=>some (v :: vs)
  | _,_=>none
theorem WC {c:Act} (G:Ok n E c):∀ {xs:List Operand} {vs:List Value},qC E xs=some vs→xs.map c.eval=vs:=by
 intro xs
 induction xs with
 | nil=>intro vs h; simp [qC] at h; simp [h]
 | cons x r D=>
  intro vs h
  simp only [qC] at h
  cases hx:ev E x with
  | none=>rw [hx] at h; simp at h
  | some v=>
   cases hr:qC E r with
   | none=>rw [hx,hr] at h; simp at h
   | some us=>rw [hx,hr] at h; simp at h; subst h; simp [G.eval hx,D hr]
def BH (P:Program) (f:FuncId) (vs:List Value) (I:IH) (ψ:IH→Value→Prop):Prop:=Fun P f vs.toArray I [] fun h v l=>l=[]∧ψ h v
theorem Ops.callF {g:FuncId} {args:List Operand} {vs:List Value} {J:Array TypeId} {mf mr:List HA} {φ:IH→Value→List HA→Prop} (hg:∀ as w,(callFunc g as).run P w=.ok (.enter g as) w)
  (ha:qC E args=some vs) (hf:Fun P g vs.toArray I mf φ) (Z:Nat.blt d n.sz=true) (V:fresh E d=true)
  (k:∀ v D O,I.le D→φ D v O→Ops P ops l n ((d,v) :: E) (Sym w0 M I0 D (O++mr)) Q) :
  Ops P ops (⟨some d,.call ⟨.value (.func g),args.toArray,J⟩,ty,pos,af,none⟩ :: l) n E (Sym w0 M I0 I (mf++mr)) Q:=by
 intro c w Y hs
 refine wpListIn_plain rfl fun K hK=>?_
 have G:(execOp c.eval ⟨some d,.call ⟨.value (.func g),args.toArray,J⟩,ty,pos,af,none⟩).run P w=.ok (.enter g vs.toArray) w:=by
  have e:args.toArray.map c.eval=vs.toArray:=by simp [WC Y ha]
  simp only [execOp,resolve,e,Act.eval,Deferred.ofValue,Sem.run_bind,Sem.run_pure,Result.andThen_ok,invoke]
  simp [hg]
 refine YT G (by simp) ?_
 simp only [Oper.uponIn]
 refine ⟨fun h=>(by cases h),bB (hf.use hs fun v D O w' W hφ U=>hK _ _ (k v D O W hφ _ _ (Y.put Z V v) U))⟩
theorem Ops.call {g:FuncId} {args:List Operand} {vs:List Value} {G:Array TypeId} (U:∀ as w,(callFunc g as).run P w=.ok (.enter g as) w)
  (V:qC E args=some vs) (Y:BH P g vs I ψ) (O:Nat.blt d n.sz=true) (D:fresh E d=true)
  (k:∀ v h,I.le h→ψ h v→Ops P ops l n ((d,v) :: E) (Sym w0 M I0 h m) Q) :
  Ops P ops (⟨some d,.call ⟨.value (.func g),args.toArray,G⟩,ty,pos,af,none⟩ :: l) n E (Sym w0 M I0 I m) Q:=
 Ops.callF (mf:=[]) (mr:=m) U V Y O D fun v h l' J Z=>by obtain ⟨rfl,W⟩:=Z; exact k v h J W
abbrev K5 (P:Program) (fn:Func) (R:Ending→World→Prop):Exit→Act→World→Prop:=bodyPostM Fence.wide 0 P fn R
inductive ArgsE:Nat→List Value→DA→Prop
 | n {i:Nat}:ArgsE i [] []
 | c {i:Nat} {v:Value} {vs:List Value} {E:DA} (h:ArgsE (i+1) vs E):ArgsE i (v :: vs) ((i,v) :: E)
theorem ArgsE.ok {i:Nat} {vs:List Value} {E:DA} (h:ArgsE i vs E):∀ (D:List Value) (r:Array Value),D.length=i→EnvOk E { tmps:=(D++vs).toArray++r,defers:=[] }:=by
 induction h with
 | n=>exact fun _ _ _=>trivial
 | @c i v vs E _ J=>
  intro D r G
  refine ⟨?_,?_⟩
  · rw [Array.getElem?_append_left (by simp; omega)]
    simp [←G]
  · have:=J (D++[v]) r (by simp [G])
    rwa [List.append_assoc] at this
theorem Fun.enter {f:FuncId} {c:Code} {z:Nat} {vs:List Value} {l:List HA} {φ:IH→Value→List HA→Prop} (W:P.funcs[f]? = some fn) (D:fn.body=some c) (J:fn.ntmps=z) (Y:Nat.ble vs.length z=true) (U:ArgsE 0 vs E)
   (k:∀ w M,Cod P c ⟨z,[],none⟩ E (Sym w M I I l) (K5 P fn (RH w M I φ))):Fun P f vs.toArray I l φ:=by
 intro w h hi O G V
 refine callsIn_wide.1 (callsIn_of_wp_marks W D trivial (k w _ _ w ⟨?_,rfl,?_⟩ (Fun.start hi O G V)))
 · have:vs.length≤z:=by simpa [Nat.ble_eq] using Y
   simp [J]; omega
 · exact U.ok [] _ rfl
inductive ResR (P:Program) (E:DA) (m:List HA):List ResultVar→List Value→Prop
 | n:ResR P E m [] []
 | t {t:Nat} {v:Value} {rs:List ResultVar} {vs:List Value} (h:look E t=some v) (k:ResR P E m rs vs):ResR P E m (.tmp t :: rs) (v :: vs)
 | w {t b s:Nat} {T:TypeId} {cs:List Value} {m':List HA} {T':TypeId} {fz:Nat×Nat} {rs:List ResultVar} {vs:List Value} (hT:∀ w,(isAgg T).run P w=.ok true w) (hS:∀ w,(sizeOf T).run P w=.ok s w)
  (h:look E t=some (.pointer (some ⟨b,0,none⟩))) (hA:Del m (pto b (.cells cs.toArray T' fz)) m') (hl:cs.length=s) (k:ResR P E m rs vs):ResR P E m (.cell t T :: rs) (.agg cs.toArray :: vs)
 | s {t b:Nat} {T:TypeId} {v:Value} {m':List HA} {T':TypeId} {fz:Nat×Nat} {rs:List ResultVar} {vs:List Value} (hT:∀ w,(isAgg T).run P w=.ok false w) (h:look E t=some (.pointer (some ⟨b,0,none⟩)))
  (hA:Del m (pto b (.cells #[v] T' fz)) m') (k:ResR P E m rs vs):ResR P E m (.cell t T :: rs) (v :: vs)
def qQ (c:Act):ResultVar→Sem Value
 | .tmp t=>pure (c.tmps.getD t undef)
 | .cell a t=>do loadVar t (←asAddr (c.tmps.getD a undef))
theorem ResR.run {vs:List Value} (h:ResR P E m rs vs) {c:Act} (U:Ok n E c) (V:Sym w0 M I0 I m w):(rs.mapM (qQ c)).run P w=.ok vs w:=by
 induction h with
 | n=>rfl
 | t h k D=>
  have e:=U.env.look h
  rw [List.mapM_cons]
  simp only [qQ,Array.getD_eq_getD_getElem?,e,Option.getD_some,Sem.run_bind,Sem.run_pure,Result.andThen_ok,D]
 | @w t b s T cs m' T' Y rs vs O hS h J G k D=>
  have e:=U.env.look h
  have G:(loadVar T ⟨b,0,none⟩).run P w=.ok (.agg cs.toArray) w:=by
   have:=JG (P:=P) (w:=w) (T:=T) (b:=b) (off:=0) (vs:=cs) O hS G (fun j v Z=>(L9 (V.del J).pto).trans (by simpa using Z))
   simpa [Instr.loadAt,Instr.sureAddr] using this
  rw [List.mapM_cons]
  simp only [qQ,Array.getD_eq_getD_getElem?,e,Option.getD_some,Sem.run_bind,asAddr,Sem.run_pure,Result.andThen_ok,G,D]
 | @s t b T v m' T' Y rs vs O h J k D=>
  have e:=U.env.look h
  have W:w.cell? ⟨b,0,none⟩=some v:=(L9 (V.del J).pto).trans (by simp)
  have G:(loadVar T ⟨b,0,none⟩).run P w=.ok v w:=by
   have:=O9 (P:=P) (w:=w) (T:=T) (b:=b) (off:=0) O W
   simpa [Instr.loadAt,Instr.sureAddr] using this
  rw [List.mapM_cons]
  simp only [qQ,Array.getD_eq_getD_getElem?,e,Option.getD_some,Sem.run_bind,asAddr,Sem.run_pure,Result.andThen_ok,G,D]
def tup:List Value→Value
 | [v]=>v
 | vs=>.tuple vs.toArray
theorem ResR.resultsOf {vs:List Value} (h:ResR P E m rs vs) (U:fn.results=rs.toArray) {c:Act} (O:Ok n E c) (J:Sym w0 M I0 I m w):(results fn c.tmps).run P w=.ok (tup vs) w:=by
 have D:=h.run O J
 have e:∀ f:ResultVar→Sem Value,(∀ r,f r=qQ c r)→fn.results.mapM f=(do pure (←rs.mapM (qQ c)).toArray:Sem (Array Value)):=fun f G=>by
  rw [U,Array.mapM_eq_mapM_toList,map_eq_pure_bind,show f=qQ c from funext G]
 unfold Go.results
 rw [e _ (fun r=>by cases r <;> rfl)]
 simp only [Sem.run_bind,D,Result.andThen_ok,Sem.run_pure]
 congr 1
 match vs with
 | []=>rfl
 | [v]=>rfl
 | u :: v :: r=>simp [tup]
def Ac4 (A B:HA):HA where
 holds I h:=∃ h1 h2:IH,h1.disj h2∧h1.le h∧h2.le h∧A.holds I h1∧B.holds I h2
 mono hI hh:=fun ⟨h1,h2,a,b,c,d,e⟩=>⟨h1,h2,a,b.trans hh,c.trans hh,A.mono hI (IH.le.refl _) d,B.mono hI (IH.le.refl _) e⟩
def AdG:HA:=⟨fun _ _=>True,fun _ _ _=>trivial⟩
theorem Sym.emp:Sym w0 M I0 I (AdG :: m) w↔Sym w0 M I0 I m w:=by
 constructor
 · exact fun h=>h.drop
 · rintro ⟨D,hi,G,k,O,hk,J,U⟩
   exact ⟨D,hi,G,k,⟨fun _=>none,k,fun _=>.inl rfl,(fun _ _ x=>nomatch x),IH.le.refl _,trivial,O⟩,hk,J,U⟩
theorem Sym.star {A B:HA}:Sym w0 M I0 I (Ac4 A B :: m) w↔Sym w0 M I0 I (A :: B :: m) w:=by
 constructor
 · rintro ⟨J,hi,O,k,⟨h1,h2,hd',hl1,hl2,⟨V,U,a,b,c,d,e⟩,hs'⟩,hk,hdj,hm⟩
   refine ⟨J,hi,O,k,⟨V,U.union h2,?_,b.trans hl1,IH.union_le (c.trans hl1) hl2,d,U,h2,hd'.mono c (IH.le.refl _),IH.le_union_left _ _,IH.le_union_right (hd'.mono c (IH.le.refl _)),e,hs'⟩,hk,hdj,hm⟩
   intro x
   rcases a x with h | h
   · exact .inl h
   · rcases (hd'.mono b (IH.le.refl h2)) x with D | D
     · exact .inl D
     · right; simp [IH.union,h,D]
 · rintro ⟨J,hi,O,k,⟨h1,h2,hd',hl1,hl2,ha,h3,h4,hd2,hl3,hl4,hb2,hs'⟩,hk,hdj,hm⟩
   have G:=hd'.mono (IH.le.refl _) hl3
   refine ⟨J,hi,O,k,⟨h1.union h3,h4,?_,IH.union_le hl1 (hl3.trans hl2),hl4.trans hl2,⟨h1,h3,G,IH.le_union_left _ _,IH.le_union_right G,ha,hb2⟩,hs'⟩,hk,hdj,hm⟩
   intro x
   rcases hd2 x with h | h
   · rcases (hd'.mono (IH.le.refl _) hl4) x with D | D
     · left; simp [IH.union,h,D]
     · exact .inr D
   · exact .inr h
def MI:List Nat→HA
 | []=>AdG
 | D :: ds=>Ac4 (pto D (.deferred (some []))) (MI ds)
theorem Sym.marks0 (h:Sym w0 M I0 I m w):Sym w0 M I0 I (MI [] :: m) w:=Sym.emp.2 h
theorem Sym.marksCons {D:Nat} :Sym w0 M I0 I (MI (D :: ds) :: m) w↔Sym w0 M I0 I (Fw.pto D (.deferred (some [])) :: MI ds :: m) w:=Sym.star
theorem sQ {vs:List Value} {tmps:Array Value} {R:Ending→World→Prop} (W:fn.results=rs.toArray) (h:ResR P E m rs vs):∀ {ds:List Nat} {w:World} {c:Act},
  EnvOk E c→c.tmps=tmps→Sym w0 M I0 I (MI ds :: m) w→(∀ w',Sym w0 M I0 I m w'→R (.returned (tup vs)) w')→LeavesInM Fence.wide 0 P fn tmps R (ds.map mkM) .returning w
 | [],w,c,ho,ht,hs,hR=>by
  have G:=hs.drop
  have J:=h.resultsOf (n:=⟨c.tmps.size,[],none⟩) W (c:={ tmps:=c.tmps,defers:=[] }) ⟨rfl,rfl,by
   clear h; induction E with
   | nil=>trivial
   | cons p E Y=>exact ⟨ho.1,Y ho.2⟩⟩ G
  subst ht
  exact ⟨_,J,hR _ G⟩
 | D :: ds,w,c,ho,ht,hs,hR=>by
  have G:=Sym.marksCons.1 hs
  have V:=G.pto
  refine ⟨by simp,.inl ⟨D,w.putObj D (.deferred none),rfl,run_takeDeferred V,?_⟩⟩
  have U:D<w.heap.size:=(Array.getElem?_eq_some_iff.1 V).1
  have O:=G.upd (o':=.deferred none) (w':=w.putObj D (.deferred none)) rfl rfl rfl rfl (by simp) (fun q Z=>World.putObj_heap_other Z) (World.putObj_heap_same U)
  exact sQ W h ho ht O.drop hR
theorem Ac5 {z:Nat} {D:List HA} (U:Del D (MI ds) m) {vs:List Value} {R:Ending→World→Prop} {c:Act} (G:Ok ⟨z,ds,none⟩ E c) (h:ResR P E m rs vs) (V:fn.results=rs.toArray) (O:Sym w0 M I0 I D w)
  (J:∀ w',Sym w0 M I0 I m w'→R (.returned (tup vs)) w'):LeavesInM Fence.wide 0 P fn c.tmps R c.defers .returning w:=by
 rw [G.defers]
 exact sQ V h G.env rfl (O.del U) J
theorem wX {z:Nat} {vs:List Value} {R:Ending→World→Prop} {c:Act} (J:Ok ⟨z,[],none⟩ E c) (h:ResR P E m rs vs) (O:fn.results=rs.toArray) (G:Sym w0 M I0 I m w)
 (D:∀ w',Sym w0 M I0 I m w'→R (.returned (tup vs)) w'):LeavesInM Fence.wide 0 P fn c.tmps R c.defers .returning w:=Ac5 .z J h O G.marks0 D
theorem Sym.dropAll (h:Sym w0 M I0 I m w):Sym w0 M I0 I [] w:=by
 obtain ⟨D,hi,G,k,hs,hk,J,O⟩:=h
 exact ⟨D,hi,G,k,trivial,hk,J,O⟩
theorem BD {z:Nat} {vs:List Value} (V:fn.results=rs.toArray) (h:ResR P E m rs vs) (D:I0.le I) (J:ψ I (tup vs)) :
 ∀ c w,Ok ⟨z,[],none⟩ E c→Sym w0 M I0 I m w→K5 P fn (RH w0 M I0 fun O v l=>l=[]∧ψ O v) .ret c w:=fun _ _ U G=>wX U h V G fun _ G=>⟨_,I,[],rfl,D,⟨rfl,J⟩,G.dropAll⟩
theorem wY {z:Nat} {J:List HA} (V:Del J (MI ds) m) {vs:List Value} (Y:fn.results=rs.toArray) (h:ResR P E m rs vs) (G:I0.le I) (O:ψ I (tup vs)) :
 ∀ c w,Ok ⟨z,ds,none⟩ E c→Sym w0 M I0 I J w→K5 P fn (RH w0 M I0 fun U v l=>l=[]∧ψ U v) .ret c w:=fun _ _ W D=>Ac5 V W h Y D fun _ D=>⟨_,I,[],rfl,G,⟨rfl,O⟩,D.dropAll⟩
def AN (xs:List α) (i:Int) (K:α→Prop):Prop:=0≤i∧∃ x,xs[i.toNat]? = some x∧K x
def ED (B:Nat) (xs ys:List α) (K:List α→Prop):Prop:=(xs.length+ys.length)*B≤140737488355328∧K (xs++ys)
end Go.Fw
