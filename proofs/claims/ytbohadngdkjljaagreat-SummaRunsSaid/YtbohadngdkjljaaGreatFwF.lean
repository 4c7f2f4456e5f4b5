/- The engine. -/
import Derived.Test.YtbohadngdkjljaaGreatFwE
import Derived.Test.YtbohadngdkjljaaGreatFwR
import Derived.RangeFuncLeaves
import Derived.RangeFuncRecord
namespace Go.Fw
open Go Go.RowKit
variable {w0 w:World} {M:Nat→Prop} {I0 I:IH} {m m':List HA}
variable {P:Program} {n:FrK} {E:D7} {S:World→Prop} {Q:Exit→Act→World→Prop} {ops:Array Oper} {l:List Oper}
variable {d ty:Nat} {pos:String} {af:Array Edge} {T e:TypeId} {x y:Operand}
variable {α:Type} {El:ET α} {xs ys:List α} {a:Option Addr} {cap:Nat}
/-! ### Changes of what is known -/
variable {fn:Func} {rs:List ResultVar} {ψ:IH→Value→Prop} {ds:List Nat}
theorem Cod.drop {c:Code} {A:HA} (D:Del m A m') (k:Cod P c n E (Sym w0 M I0 I m') Q):Cod P c n E (Sym w0 M I0 I m) Q:=Cod.pre (fun _ h=>(h.del D).drop) k
theorem Ops.own0 (El:ET α) (T:TypeId) (k:Ops P ops l n E (Sym w0 M I0 I (OwnSl El T none 0 [] :: m)) Q):Ops P ops l n E (Sym w0 M I0 I m) Q:=Ops.pre (fun _ h=>h.own0 El T) k
theorem Cod.own0 {c:Code} (El:ET α) (T:TypeId) (k:Cod P c n E (Sym w0 M I0 I (OwnSl El T none 0 [] :: m)) Q):Cod P c n E (Sym w0 M I0 I m) Q:=Cod.pre (fun _ h=>h.own0 El T) k
theorem Ops.pub (J:Del m (OwnSl El T a cap xs) m') (k:∀ h,I.le h→RepSl El h a cap xs→Ops P ops l n E (Sym w0 M I0 h m') Q):Ops P ops l n E (Sym w0 M I0 I m) Q:=
 fun c w D V=>by obtain ⟨h,U,O,G⟩:=V.pubSl J; exact k h U O c w D G
theorem Cod.pub {c:Code} (J:Del m (OwnSl El T a cap xs) m') (k:∀ h,I.le h→RepSl El h a cap xs→Cod P c n E (Sym w0 M I0 h m') Q):Cod P c n E (Sym w0 M I0 I m) Q:=
 fun c w D V=>by obtain ⟨h,U,O,G⟩:=V.pubSl J; exact k h U O c w D G
theorem bL {f:FuncId} {args:Array Value} {R:Ending→World→Prop} (h:Calls P f args w R):CallsIn (SP n) 0 P f args w R:=callsIn_wide.2 h
def qE (E:D7):List Operand→Option (List Value)
 | []=>some []
 | x :: r=>match ev E x,qE E r with
  | some v,some vs=>some (v :: vs)
  | _,_=>none
theorem WO {c:Act} (D:Ok n E c):∀ {xs:List Operand} {vs:List Value},qE E xs=some vs→xs.map c.eval=vs:=by
 intro xs
 induction xs with
 | nil=>intro vs h; simp [qE] at h; simp [h]
 | cons x r G=>
  intro vs h
  simp only [qE] at h
  cases hx:ev E x with
  | none=>rw [hx] at h; simp at h
  | some v=>
   cases hr:qE E r with
   | none=>rw [hx,hr] at h; simp at h
   | some us=>rw [hx,hr] at h; simp at h; subst h; simp [D.eval hx,G hr]
def BH (P:Program) (f:FuncId) (vs:List Value) (I:IH) (ψ:IH→Value→Prop):Prop:=Fun P f vs.toArray I [] fun h v l=>l=[]∧ψ h v
theorem Ops.callF {g:FuncId} {args:List Operand} {vs:List Value} {G:Array TypeId} {mf mr:List HA} {φ:IH→Value→List HA→Prop} (hg:∀ as w,(callFunc g as).run P w=.ok (.enter g as) w)
  (ha:qE E args=some vs) (hf:Fun P g vs.toArray I mf φ) (hb:Nat.blt d n.sz=true) (U:fresh E d=true)
  (k:∀ v J O,I.le J→φ J v O→Ops P ops l n ((d,v) :: E) (Sym w0 M I0 J (O++mr)) Q) :
  Ops P ops (⟨some d,.call ⟨.value (.func g),args.toArray,G⟩,ty,pos,af,none⟩ :: l) n E (Sym w0 M I0 I (mf++mr)) Q:=by
 intro c w Y hs
 refine wpListIn_plain rfl fun K hK=>?_
 have D:(execOp c.eval ⟨some d,.call ⟨.value (.func g),args.toArray,G⟩,ty,pos,af,none⟩).run P w=.ok (.enter g vs.toArray) w:=by
  have e:args.toArray.map c.eval=vs.toArray:=by simp [WO Y ha]
  simp only [execOp,resolve,e,Act.eval,Deferred.ofValue,Sem.run_bind,Sem.run_pure,Result.andThen_ok,invoke]
  simp [hg]
 refine Z3 D (by simp) ?_
 simp only [Oper.uponIn]
 refine ⟨fun h=>(by cases h),bL (hf.use hs fun v J O w' W Z V=>hK _ _ (k v J O W Z _ _ (Y.put hb U v) V))⟩
theorem Ops.call {g:FuncId} {args:List Operand} {vs:List Value} {D:Array TypeId} (V:∀ as w,(callFunc g as).run P w=.ok (.enter g as) w)
  (Y:qE E args=some vs) (Z:BH P g vs I ψ) (U:Nat.blt d n.sz=true) (G:fresh E d=true)
  (k:∀ v h,I.le h→ψ h v→Ops P ops l n ((d,v) :: E) (Sym w0 M I0 h m) Q) :
  Ops P ops (⟨some d,.call ⟨.value (.func g),args.toArray,D⟩,ty,pos,af,none⟩ :: l) n E (Sym w0 M I0 I m) Q:=
 Ops.callF (mf:=[]) (mr:=m) V Y Z U G fun v h l' J O=>by obtain ⟨rfl,W⟩:=O; exact k v h J W
abbrev K4 (P:Program) (fn:Func) (R:Ending→World→Prop):Exit→Act→World→Prop:=bodyPostM Fence.wide 0 P fn R
inductive ArgsE:Nat→List Value→D7→Prop
 | n {i:Nat}:ArgsE i [] []
 | c {i:Nat} {v:Value} {vs:List Value} {E:D7} (h:ArgsE (i+1) vs E):ArgsE i (v :: vs) ((i,v) :: E)
theorem ArgsE.ok {i:Nat} {vs:List Value} {E:D7} (h:ArgsE i vs E):∀ (D:List Value) (r:Array Value),D.length=i→EnvOk E { tmps:=(D++vs).toArray++r,defers:=[] }:=by
 induction h with
 | n=>exact fun _ _ _=>trivial
 | @c i v vs E _ J=>
  intro D r G
  refine ⟨?_,?_⟩
  · rw [Array.getElem?_append_left (by simp; omega)]
    simp [←G]
  · have:=J (D++[v]) r (by simp [G])
    rwa [List.append_assoc] at this
theorem Fun.enter {f:FuncId} {c:Code} {z:Nat} {vs:List Value} {l:List HA} {φ:IH→Value→List HA→Prop} (Y:P.funcs[f]? = some fn) (D:fn.body=some c) (U:fn.ntmps=z) (O:Nat.ble vs.length z=true) (G:ArgsE 0 vs E)
   (k:∀ w M,Cod P c ⟨z,[],none⟩ E (Sym w M I I l) (K4 P fn (RQ w M I φ))):Fun P f vs.toArray I l φ:=by
 intro w h hi V J W
 refine callsIn_wide.1 (callsIn_of_wp_marks Y D trivial (k w _ _ w ⟨?_,rfl,?_⟩ (Fun.start hi V J W)))
 · have:vs.length≤z:=by simpa [Nat.ble_eq] using O
   simp [U]; omega
 · exact G.ok [] _ rfl
inductive ResR (P:Program) (E:D7) (m:List HA):List ResultVar→List Value→Prop
 | n:ResR P E m [] []
 | t {t:Nat} {v:Value} {rs:List ResultVar} {vs:List Value} (h:look E t=some v) (k:ResR P E m rs vs):ResR P E m (.tmp t :: rs) (v :: vs)
 | w {t b s:Nat} {T:TypeId} {cs:List Value} {m':List HA} {T':TypeId} {fz:Nat×Nat} {rs:List ResultVar} {vs:List Value} (hT:∀ w,(isAgg T).run P w=.ok true w) (hS:∀ w,(sizeOf T).run P w=.ok s w)
  (h:look E t=some (.pointer (some ⟨b,0,none⟩))) (hA:Del m (pto b (.cells cs.toArray T' fz)) m') (hl:cs.length=s) (k:ResR P E m rs vs):ResR P E m (.cell t T :: rs) (.agg cs.toArray :: vs)
 | s {t b:Nat} {T:TypeId} {v:Value} {m':List HA} {T':TypeId} {fz:Nat×Nat} {rs:List ResultVar} {vs:List Value} (hT:∀ w,(isAgg T).run P w=.ok false w) (h:look E t=some (.pointer (some ⟨b,0,none⟩)))
  (hA:Del m (pto b (.cells #[v] T' fz)) m') (k:ResR P E m rs vs):ResR P E m (.cell t T :: rs) (v :: vs)
def qQ (c:Act):ResultVar→Sem Value
 | .tmp t=>pure (c.tmps.getD t undef)
 | .cell a t=>do loadVar t (←asAddr (c.tmps.getD a undef))
theorem ResR.run {vs:List Value} (h:ResR P E m rs vs) {c:Act} (U:Ok n E c) (V:Sym w0 M I0 I m w):(rs.mapM (qQ c)).run P w=.ok vs w:=by
 induction h with
 | n=>rfl
 | t h k D=>
  have e:=U.env.look h
  rw [List.mapM_cons]
  simp only [qQ,Array.getD_eq_getD_getElem?,e,Option.getD_some,Sem.run_bind,Sem.run_pure,Result.andThen_ok,D]
 | @w t b s T cs m' T' Z rs vs O W h J G k D=>
  have e:=U.env.look h
  have G:(loadVar T ⟨b,0,none⟩).run P w=.ok (.agg cs.toArray) w:=by
   have:=JH (P:=P) (w:=w) (T:=T) (b:=b) (off:=0) (vs:=cs) O W G (fun j v hj=>(L9 (V.del J).pto).trans (by simpa using hj))
   simpa [Instr.loadAt,Instr.sureAddr] using this
  rw [List.mapM_cons]
  simp only [qQ,Array.getD_eq_getD_getElem?,e,Option.getD_some,Sem.run_bind,asAddr,Sem.run_pure,Result.andThen_ok,G,D]
 | @s t b T v m' T' Z rs vs O h J k D=>
  have e:=U.env.look h
  have Y:w.cell? ⟨b,0,none⟩=some v:=(L9 (V.del J).pto).trans (by simp)
  have G:(loadVar T ⟨b,0,none⟩).run P w=.ok v w:=by
   have:=O7 (P:=P) (w:=w) (T:=T) (b:=b) (off:=0) O Y
   simpa [Instr.loadAt,Instr.sureAddr] using this
  rw [List.mapM_cons]
  simp only [qQ,Array.getD_eq_getD_getElem?,e,Option.getD_some,Sem.run_bind,asAddr,Sem.run_pure,Result.andThen_ok,G,D]
def tup:List Value→Value
 | [v]=>v
 | vs=>.tuple vs.toArray
theorem ResR.resultsOf {vs:List Value} (h:ResR P E m rs vs) (O:fn.results=rs.toArray) {c:Act} (G:Ok n E c) (U:Sym w0 M I0 I m w):(results fn c.tmps).run P w=.ok (tup vs) w:=by
 have D:=h.run G U
 have e:∀ f:ResultVar→Sem Value,(∀ r,f r=qQ c r)→fn.results.mapM f=(do pure (←rs.mapM (qQ c)).toArray:Sem (Array Value)):=fun f J=>by
  rw [O,Array.mapM_eq_mapM_toList,map_eq_pure_bind,show f=qQ c from funext J]
 unfold Go.results
 rw [e _ (fun r=>by cases r <;> rfl)]
 simp only [Sem.run_bind,D,Result.andThen_ok,Sem.run_pure]
 congr 1
 match vs with
 | []=>rfl
 | [v]=>rfl
 | u :: v :: r=>simp [tup]
def Ac1 (A B:HA):HA where
 holds I h:=∃ h1 h2:IH,h1.disj h2∧h1.le h∧h2.le h∧A.holds I h1∧B.holds I h2
 mono hI hh:=fun ⟨h1,h2,a,b,c,d,e⟩=>⟨h1,h2,a,b.trans hh,c.trans hh,A.mono hI (IH.le.refl _) d,B.mono hI (IH.le.refl _) e⟩
def AdG:HA:=⟨fun _ _=>True,fun _ _ _=>trivial⟩
theorem Sym.emp:Sym w0 M I0 I (AdG :: m) w↔Sym w0 M I0 I m w:=by
 constructor
 · exact fun h=>h.drop
 · rintro ⟨G,hi,O,k,U,hk,J,D⟩
   exact ⟨G,hi,O,k,⟨fun _=>none,k,fun _=>.inl rfl,(fun _ _ x=>nomatch x),IH.le.refl _,trivial,U⟩,hk,J,D⟩
theorem Sym.star {A B:HA}:Sym w0 M I0 I (Ac1 A B :: m) w↔Sym w0 M I0 I (A :: B :: m) w:=by
 constructor
 · rintro ⟨J,hi,O,k,⟨h1,h2,hd',hl1,hl2,⟨V,U,a,b,c,d,e⟩,hs'⟩,hk,hdj,hm⟩
   refine ⟨J,hi,O,k,⟨V,U.union h2,?_,b.trans hl1,IH.union_le (c.trans hl1) hl2,d,U,h2,hd'.mono c (IH.le.refl _),IH.le_union_left _ _,IH.le_union_right (hd'.mono c (IH.le.refl _)),e,hs'⟩,hk,hdj,hm⟩
   intro x
   rcases a x with h | h
   · exact .inl h
   · rcases (hd'.mono b (IH.le.refl h2)) x with D | D
     · exact .inl D
     · right; simp [IH.union,h,D]
 · rintro ⟨J,hi,O,k,⟨h1,h2,hd',hl1,hl2,ha,h3,h4,hd2,hl3,hl4,hb2,hs'⟩,hk,hdj,hm⟩
   have G:=hd'.mono (IH.le.refl _) hl3
   refine ⟨J,hi,O,k,⟨h1.union h3,h4,?_,IH.union_le hl1 (hl3.trans hl2),hl4.trans hl2,⟨h1,h3,G,IH.le_union_left _ _,IH.le_union_right G,ha,hb2⟩,hs'⟩,hk,hdj,hm⟩
   intro x
   rcases hd2 x with h | h
   · rcases (hd'.mono (IH.le.refl _) hl4) x with D | D
     · left; simp [IH.union,h,D]
     · exact .inr D
   · exact .inr h
def MC:List Nat→HA
 | []=>AdG
 | D :: ds=>Ac1 (pto D (.deferred (some []))) (MC ds)
theorem Sym.marks0 (h:Sym w0 M I0 I m w):Sym w0 M I0 I (MC [] :: m) w:=Sym.emp.2 h
theorem Sym.marksCons {D:Nat} :Sym w0 M I0 I (MC (D :: ds) :: m) w↔Sym w0 M I0 I (Fw.pto D (.deferred (some [])) :: MC ds :: m) w:=Sym.star
theorem sN {vs:List Value} {tmps:Array Value} {R:Ending→World→Prop} (W:fn.results=rs.toArray) (h:ResR P E m rs vs):∀ {ds:List Nat} {w:World} {c:Act},
  EnvOk E c→c.tmps=tmps→Sym w0 M I0 I (MC ds :: m) w→(∀ w',Sym w0 M I0 I m w'→R (.returned (tup vs)) w')→LeavesInM Fence.wide 0 P fn tmps R (ds.map mkM) .returning w
 | [],w,c,ho,ht,hs,hR=>by
  have G:=hs.drop
  have J:=h.resultsOf (n:=⟨c.tmps.size,[],none⟩) W (c:={ tmps:=c.tmps,defers:=[] }) ⟨rfl,rfl,by
   clear h; induction E with
   | nil=>trivial
   | cons p E Z=>exact ⟨ho.1,Z ho.2⟩⟩ G
  subst ht
  exact ⟨_,J,hR _ G⟩
 | D :: ds,w,c,ho,ht,hs,hR=>by
  have G:=Sym.marksCons.1 hs
  have V:=G.pto
  refine ⟨by simp,.inl ⟨D,w.putObj D (.deferred none),rfl,run_takeDeferred V,?_⟩⟩
  have O:D<w.heap.size:=(Array.getElem?_eq_some_iff.1 V).1
  have U:=G.upd (o':=.deferred none) (w':=w.putObj D (.deferred none)) rfl rfl rfl rfl (by simp) (fun q Y=>World.putObj_heap_other Y) (World.putObj_heap_same O)
  exact sN W h ho ht U.drop hR
theorem Ac2 {z:Nat} {G:List HA} (O:Del G (MC ds) m) {vs:List Value} {R:Ending→World→Prop} {c:Act} (D:Ok ⟨z,ds,none⟩ E c) (h:ResR P E m rs vs) (U:fn.results=rs.toArray) (V:Sym w0 M I0 I G w)
  (J:∀ w',Sym w0 M I0 I m w'→R (.returned (tup vs)) w'):LeavesInM Fence.wide 0 P fn c.tmps R c.defers .returning w:=by
 rw [D.defers]
 exact sN U h D.env rfl (V.del O) J
theorem wU {z:Nat} {vs:List Value} {R:Ending→World→Prop} {c:Act} (D:Ok ⟨z,[],none⟩ E c) (h:ResR P E m rs vs) (J:fn.results=rs.toArray) (O:Sym w0 M I0 I m w)
 (G:∀ w',Sym w0 M I0 I m w'→R (.returned (tup vs)) w'):LeavesInM Fence.wide 0 P fn c.tmps R c.defers .returning w:=Ac2 .z D h J O.marks0 G
theorem Sym.dropAll (h:Sym w0 M I0 I m w):Sym w0 M I0 I [] w:=by
 obtain ⟨G,hi,O,k,hs,hk,J,D⟩:=h
 exact ⟨G,hi,O,k,trivial,hk,J,D⟩
theorem B9 {z:Nat} {vs:List Value} (V:fn.results=rs.toArray) (h:ResR P E m rs vs) (D:I0.le I) (U:ψ I (tup vs)) :
 ∀ c w,Ok ⟨z,[],none⟩ E c→Sym w0 M I0 I m w→K4 P fn (RQ w0 M I0 fun J v l=>l=[]∧ψ J v) .ret c w:=fun _ _ O G=>wU O h V G fun _ G=>⟨_,I,[],rfl,D,⟨rfl,U⟩,G.dropAll⟩
theorem wV {z:Nat} {J:List HA} (W:Del J (MC ds) m) {vs:List Value} (Y:fn.results=rs.toArray) (h:ResR P E m rs vs) (D:I0.le I) (V:ψ I (tup vs)) :
 ∀ c w,Ok ⟨z,ds,none⟩ E c→Sym w0 M I0 I J w→K4 P fn (RQ w0 M I0 fun O v l=>l=[]∧ψ O v) .ret c w:=fun _ _ U G=>Ac2 W U h Y G fun _ G=>⟨_,I,[],rfl,D,⟨rfl,V⟩,G.dropAll⟩
def AN (xs:List α) (i:Int) (K:α→Prop):Prop:=0≤i∧∃ x,xs[i.toNat]? = some x∧K x
def EA (B:Nat) (xs ys:List α) (K:List α→Prop):Prop:=(xs.length+ys.length)*B≤140737488355328∧K (xs++ys)
end Go.Fw
