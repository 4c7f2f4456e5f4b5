/- The engine. -/
import Derived.Test.YtkbkaodgfedfmaaGreatFwE
import Derived.Test.YtkbkaodgfedfmaaGreatFwR
import Derived.RangeFuncLeaves
import Derived.RangeFuncRecord
namespace Go.Fw
open Go Go.RowKit
variable {w0 w:World} {M:Nat→Prop} {I0 I:IH} {m m':List HA}
variable {P:Program} {n:FrK} {E:CZ} {S:World→Prop} {Q:Exit→Act→World→Prop} {ops:Array Oper} {l:List Oper}
variable {d ty:Nat} {pos:String} {af:Array Edge} {T e:TypeId} {x y:Operand}
variable {α:Type} {El:EP α} {xs ys:List α} {a:Option Addr} {cap:Nat}
/-! ### Changes of what is known -/
variable {fn:Func} {rs:List ResultVar} {ψ:IH→Value→Prop} {ds:List Nat}
theorem Cod.drop {c:Code} {A:HA} (D:Del m A m') (k:Cod P c n E (Sym w0 M I0 I m') Q):Cod P c n E (Sym w0 M I0 I m) Q:=Cod.pre (λ_ h=>(h.del D).drop) k
theorem Ops.own0 (El:EP α) (T:TypeId) (k:Ops P ops l n E (Sym w0 M I0 I (OwnSl El T none 0 [] :: m)) Q):Ops P ops l n E (Sym w0 M I0 I m) Q:=Ops.pre (λ_ h=>h.own0 El T) k
theorem Cod.own0 {c:Code} (El:EP α) (T:TypeId) (k:Cod P c n E (Sym w0 M I0 I (OwnSl El T none 0 [] :: m)) Q):Cod P c n E (Sym w0 M I0 I m) Q:=Cod.pre (λ_ h=>h.own0 El T) k
theorem Ops.pub (U:Del m (OwnSl El T a cap xs) m') (k:∀ h,I.le h->RepSl El h a cap xs->Ops P ops l n E (Sym w0 M I0 h m') Q):Ops P ops l n E (Sym w0 M I0 I m) Q:=
 λc w O D=>by obtain⟨h,V,K,J⟩:=D.pubSl U; exact k h V K c w O J
theorem Cod.pub {c:Code} (U:Del m (OwnSl El T a cap xs) m') (k:∀ h,I.le h->RepSl El h a cap xs->Cod P c n E (Sym w0 M I0 h m') Q):Cod P c n E (Sym w0 M I0 I m) Q:=
 λc w O D=>by obtain⟨h,V,K,J⟩:=D.pubSl U; exact k h V K c w O J
theorem jB {f:FuncId} {args:Array Value} {R:Ending->World->Prop} (h:Calls P f args w R):CallsIn (UT n) 0 P f args w R:=callsIn_wide.2 h
def xG (E:CZ):List Operand->Option (List Value)
 | []=>some []
 | x :: r=>match ev E x,xG E r with
  | some v,some vs=>some (v :: vs)
  | _,_=>none
theorem TY {c:Act} (J:Ok n E c):∀ {xs:List Operand} {vs:List Value},xG E xs=some vs->xs.map c.eval=vs:=by
 intro xs
 induction xs with
 | nil=>intro vs h; simp[xG] at h; simp[h]
 | cons x r D=>
  intro vs h;simp only[xG] at h
  cases hx:ev E x with
  | none=>rw[hx] at h; simp at h
  | some v=>
   cases hr:xG E r with
   | none=>rw[hx,hr] at h; simp at h
   | some us=>rw[hx,hr] at h; simp at h; subst h; simp[J.eval hx,D hr]
def AY (P:Program) (f:FuncId) (vs:List Value) (I:IH) (ψ:IH->Value->Prop):Prop:=Fun P f vs.toArray I [] λh v l=>l=[]∧ψ h v
theorem Ops.callF {g:FuncId} {args:List Operand} {vs:List Value} {O:Array TypeId} {mf mr:List HA} {φ:IH->Value->List HA->Prop} (hg:∀ as w,(callFunc g as).run P w=.ok (.enter g as) w)
  (ha:xG E args=some vs) (hf:Fun P g vs.toArray I mf φ) (hb:Nat.blt d n.sz=true) (Z:fresh E d=true)
  (k:∀ v D U,I.le D->φ D v U->Ops P ops l n ((d,v) :: E) (Sym w0 M I0 D (U++mr)) Q) :
  Ops P ops (⟨some d,.call ⟨.value (.func g),args.toArray,O⟩,ty,pos,af,none⟩ :: l) n E (Sym w0 M I0 I (mf++mr)) Q:=by
 intro c w ho hs;refine wpListIn_plain rfl λK hK=>?_
 have J:(execOp c.eval ⟨some d,.call ⟨.value (.func g),args.toArray,O⟩,ty,pos,af,none⟩).run P w=.ok (.enter g vs.toArray) w:=by
  have e:args.toArray.map c.eval=vs.toArray:=by simp[TY ho ha]
  simp only[execOp,resolve,e,Act.eval,Deferred.ofValue,Sem.run_bind,Sem.run_pure,Result.andThen_ok,invoke];simp[hg]
 refine eV J (by simp) ?_;simp only[Oper.uponIn];refine⟨λh=>(by cases h),jB (hf.use hs λv D U w' V hφ W=>hK _ _ (k v D U V hφ _ _ (ho.put hb Z v) W))⟩
theorem Ops.call {g:FuncId} {args:List Operand} {vs:List Value} {K:Array TypeId} (hg:∀ as w,(callFunc g as).run P w=.ok (.enter g as) w)
  (W:xG E args=some vs) (U:AY P g vs I ψ) (V:Nat.blt d n.sz=true) (J:fresh E d=true)
  (k:∀ v h,I.le h->ψ h v->Ops P ops l n ((d,v) :: E) (Sym w0 M I0 h m) Q) :
  Ops P ops (⟨some d,.call ⟨.value (.func g),args.toArray,K⟩,ty,pos,af,none⟩ :: l) n E (Sym w0 M I0 I m) Q:=
 Ops.callF (mf:=[]) (mr:=m) hg W U V J λv h l' D O=>by obtain⟨rfl,Z⟩:=O; exact k v h D Z
abbrev J7 (P:Program) (fn:Func) (R:Ending->World->Prop):Exit->Act->World->Prop:=bodyPostM Fence.wide 0 P fn R
inductive ArgsE:Nat→List Value→CZ→Prop
 | n {i:Nat}:ArgsE i [] []
 | c {i:Nat} {v:Value} {vs:List Value} {E:CZ} (h:ArgsE (i+1) vs E):ArgsE i (v :: vs) ((i,v) :: E)
theorem ArgsE.ok {i:Nat} {vs:List Value} {E:CZ} (h:ArgsE i vs E):∀ (D:List Value) (r:Array Value),D.length=i->EnvOk E { tmps:=(D++vs).toArray++r,defers:=[] }:=by
 induction h with
 | n=>exact λ_ _ _=>trivial
 | @c i v vs E _ K=>
  intro D r J;refine⟨?_,?_⟩
  . rw[Array.getElem?_append_left (by simp; omega)];simp[<-J]
  . have:=K (D++[v]) r (by simp[J])
    rwa [List.append_assoc] at this
theorem Fun.enter {f:FuncId} {c:Code} {z:Nat} {vs:List Value} {l:List HA} {φ:IH->Value->List HA->Prop} (J:P.funcs[f]? = some fn) (V:fn.body=some c) (K:fn.ntmps=z) (Z:Nat.ble vs.length z=true) (O:ArgsE 0 vs E)
   (k:∀ w M,Cod P c ⟨z,[],none⟩ E (Sym w M I I l) (J7 P fn (S5 w M I φ))):Fun P f vs.toArray I l φ:=by
 intro w h hi D U W;refine callsIn_wide.1 (callsIn_of_wp_marks J V trivial (k w _ _ w ⟨?_,rfl,?_⟩ (Fun.start hi D U W)))
 . have:vs.length<=z:=by simpa[Nat.ble_eq] using Z
   simp[K]; omega
 . exact O.ok [] _ rfl
inductive ResR (P:Program) (E:CZ) (m:List HA):List ResultVar→List Value→Prop
 | n:ResR P E m [] []
 | t {t:Nat} {v:Value} {rs:List ResultVar} {vs:List Value} (h:look E t=some v) (k:ResR P E m rs vs):ResR P E m (.tmp t :: rs) (v :: vs)
 | w {t b s:Nat} {T:TypeId} {cs:List Value} {m':List HA} {T':TypeId} {fz:Nat×Nat} {rs:List ResultVar} {vs:List Value} (hT:∀ w,(isAgg T).run P w=.ok true w) (hS:∀ w,(sizeOf T).run P w=.ok s w)
  (h:look E t=some (.pointer (some ⟨b,0,none⟩))) (hA:Del m (pto b (.cells cs.toArray T' fz)) m') (hl:cs.length=s) (k:ResR P E m rs vs):ResR P E m (.cell t T :: rs) (.agg cs.toArray :: vs)
 | s {t b:Nat} {T:TypeId} {v:Value} {m':List HA} {T':TypeId} {fz:Nat×Nat} {rs:List ResultVar} {vs:List Value} (hT:∀ w,(isAgg T).run P w=.ok false w) (h:look E t=some (.pointer (some ⟨b,0,none⟩)))
  (hA:Del m (pto b (.cells #[v] T' fz)) m') (k:ResR P E m rs vs):ResR P E m (.cell t T :: rs) (v :: vs)
def Ab4 (c:Act):ResultVar->Sem Value
 | .tmp t=>pure (c.tmps.getD t undef)
 | .cell a t=>do loadVar t (<-asAddr (c.tmps.getD a undef))
theorem ResR.run {vs:List Value} (h:ResR P E m rs vs) {c:Act} (O:Ok n E c) (V:Sym w0 M I0 I m w):(rs.mapM (Ab4 c)).run P w=.ok vs w:=by
 induction h with
 | n=>rfl
 | t h k D=>
  have e:=O.env.look h;rw[List.mapM_cons];simp only[Ab4,Array.getD_eq_getD_getElem?,e,Option.getD_some,Sem.run_bind,Sem.run_pure,Result.andThen_ok,D]
 | @w t b s T cs m' T' fz rs vs K W h U J k D=>
  have e:=O.env.look h
  have J:(loadVar T ⟨b,0,none⟩).run P w=.ok (.agg cs.toArray) w:=by have:=JY (P:=P) (w:=w) (T:=T) (b:=b) (off:=0) (vs:=cs) K W J (λj v Z=>(LU (V.del U).pto).trans (by simpa using Z));simpa[Instr.loadAt,Instr.sureAddr] using this
  rw[List.mapM_cons];simp only[Ab4,Array.getD_eq_getD_getElem?,e,Option.getD_some,Sem.run_bind,asAddr,Sem.run_pure,Result.andThen_ok,J,D]
 | @s t b T v m' T' fz rs vs K h U k D=>
  have e:=O.env.look h;have hc:w.cell? ⟨b,0,none⟩=some v:=(LU (V.del U).pto).trans (by simp)
  have J:(loadVar T ⟨b,0,none⟩).run P w=.ok v w:=by have:=PO (P:=P) (w:=w) (T:=T) (b:=b) (off:=0) K hc;simpa[Instr.loadAt,Instr.sureAddr] using this
  rw[List.mapM_cons];simp only[Ab4,Array.getD_eq_getD_getElem?,e,Option.getD_some,Sem.run_bind,asAddr,Sem.run_pure,Result.andThen_ok,J,D]
def tup:List Value->Value
 | [v]=>v
 | vs=>.tuple vs.toArray
theorem ResR.resultsOf {vs:List Value} (h:ResR P E m rs vs) (K:fn.results=rs.toArray) {c:Act} (U:Ok n E c) (J:Sym w0 M I0 I m w):(results fn c.tmps).run P w=.ok (tup vs) w:=by
 have D:=h.run U J
 have e:∀ f:ResultVar->Sem Value,(∀ r,f r=Ab4 c r)->fn.results.mapM f=(do pure (<-rs.mapM (Ab4 c)).toArray:Sem (Array Value)):=λf O=>by rw[K,Array.mapM_eq_mapM_toList,map_eq_pure_bind,show f=Ab4 c from funext O]
 unfold Go.results;rw[e _ (λr=>by cases r <;> rfl)];simp only[Sem.run_bind,D,Result.andThen_ok,Sem.run_pure];congr 1
 match vs with
 | []=>rfl
 | [v]=>rfl
 | u :: v :: r=>simp[tup]
def Al3 (A B:HA):HA where
 holds I h:=∃ h1 h2:IH,h1.disj h2∧h1.le h∧h2.le h∧A.holds I h1∧B.holds I h2
 mono hI hh:=λ⟨h1,h2,a,b,c,d,e⟩=>⟨h1,h2,a,b.trans hh,c.trans hh,A.mono hI (IH.le.refl _) d,B.mono hI (IH.le.refl _) e⟩
def AmU:HA:=⟨λ_ _=>True,λ_ _ _=>trivial⟩
theorem Sym.emp:Sym w0 M I0 I (AmU :: m) w↔Sym w0 M I0 I m w:=by
 constructor
 . exact λh=>h.drop
 . rintro⟨J,hi,U,k,D,hk,O,K⟩;exact⟨J,hi,U,k,⟨λ_=>none,k,λ_=>.inl rfl,(λ_ _ x=>nomatch x),IH.le.refl _,trivial,D⟩,hk,O,K⟩
theorem Sym.star {A B:HA}:Sym w0 M I0 I (Al3 A B :: m) w↔Sym w0 M I0 I (A :: B :: m) w:=by
 constructor
 . rintro⟨K,hi,O,k,⟨h1,h2,hd',hl1,hl2,⟨V,U,a,b,c,d,e⟩,hs'⟩,hk,hdj,hm⟩;refine⟨K,hi,O,k,⟨V,U.union h2,?_,b.trans hl1,IH.union_le (c.trans hl1) hl2,d,U,h2,hd'.mono c (IH.le.refl _),IH.le_union_left _ _,IH.le_union_right (hd'.mono c (IH.le.refl _)),e,hs'⟩,hk,hdj,hm⟩;intro x;rcases a x with h | h
   . exact .inl h
   . rcases(hd'.mono b (IH.le.refl h2)) x with D | D
     . exact .inl D
     . right; simp[IH.union,h,D]
 . rintro⟨K,hi,O,k,⟨h1,h2,hd',hl1,hl2,ha,h3,h4,hd2,hl3,hl4,hb2,hs'⟩,hk,hdj,hm⟩;have J:=hd'.mono (IH.le.refl _) hl3;refine⟨K,hi,O,k,⟨h1.union h3,h4,?_,IH.union_le hl1 (hl3.trans hl2),hl4.trans hl2,⟨h1,h3,J,IH.le_union_left _ _,IH.le_union_right J,ha,hb2⟩,hs'⟩,hk,hdj,hm⟩;intro x;rcases hd2 x with h | h
   . rcases(hd'.mono (IH.le.refl _) hl4) x with D | D
     . left; simp[IH.union,h,D]
     . exact .inr D
   . exact .inr h
def MH:List Nat->HA
 | []=>AmU
 | D :: ds=>Al3 (pto D (.deferred (some []))) (MH ds)
theorem Sym.marks0 (h:Sym w0 M I0 I m w):Sym w0 M I0 I (MH [] :: m) w:=Sym.emp.2 h
theorem Sym.marksCons {D:Nat} :Sym w0 M I0 I (MH (D :: ds) :: m) w↔Sym w0 M I0 I (Fw.pto D (.deferred (some [])) :: MH ds :: m) w:=Sym.star
theorem AcS {vs:List Value} {tmps:Array Value} {R:Ending->World->Prop} (V:fn.results=rs.toArray) (h:ResR P E m rs vs):∀ {ds:List Nat} {w:World} {c:Act},
  EnvOk E c->c.tmps=tmps->Sym w0 M I0 I (MH ds :: m) w->(∀ w',Sym w0 M I0 I m w'->R (.returned (tup vs)) w')->LeavesInM Fence.wide 0 P fn tmps R (ds.map mkM) .returning w
 | [],w,c,ho,ht,hs,hR=>by
  have J:=hs.drop
  have K:=h.resultsOf (n:=⟨c.tmps.size,[],none⟩) V (c:={ tmps:=c.tmps,defers:=[] }) ⟨rfl,rfl,by
   clear h; induction E with
   | nil=>trivial
   | cons p E Z=>exact⟨ho.1,Z ho.2⟩⟩ J
  subst ht;exact⟨_,K,hR _ J⟩
 | D :: ds,w,c,ho,ht,hs,hR=>by have J:=Sym.marksCons.1 hs;have W:=J.pto;refine⟨by simp,.inl ⟨D,w.putObj D (.deferred none),rfl,run_takeDeferred W,?_⟩⟩;have O:D<w.heap.size:=(Array.getElem?_eq_some_iff.1 W).1;have U:=J.upd (o':=.deferred none) (w':=w.putObj D (.deferred none)) rfl rfl rfl rfl (by simp) (λq hq=>World.putObj_heap_other hq) (World.putObj_heap_same O);exact AcS V h ho ht U.drop hR
theorem AgF {z:Nat} {J:List HA} (U:Del J (MH ds) m) {vs:List Value} {R:Ending->World->Prop} {c:Act} (D:Ok ⟨z,ds,none⟩ E c) (h:ResR P E m rs vs) (K:fn.results=rs.toArray) (O:Sym w0 M I0 I J w)
  (V:∀ w',Sym w0 M I0 I m w'->R (.returned (tup vs)) w'):LeavesInM Fence.wide 0 P fn c.tmps R c.defers .returning w:=by
 rw[D.defers];exact AcS K h D.env rfl (O.del U) V
theorem AgG {z:Nat} {vs:List Value} {R:Ending->World->Prop} {c:Act} (J:Ok ⟨z,[],none⟩ E c) (h:ResR P E m rs vs) (O:fn.results=rs.toArray) (D:Sym w0 M I0 I m w)
 (K:∀ w',Sym w0 M I0 I m w'->R (.returned (tup vs)) w'):LeavesInM Fence.wide 0 P fn c.tmps R c.defers .returning w:=AgF .z J h O D.marks0 K
theorem Sym.dropAll (h:Sym w0 M I0 I m w):Sym w0 M I0 I [] w:=by obtain⟨D,hi,O,k,hs,hk,K,J⟩:=h;exact⟨D,hi,O,k,trivial,hk,K,J⟩
theorem B0 {z:Nat} {vs:List Value} (V:fn.results=rs.toArray) (h:ResR P E m rs vs) (D:I0.le I) (U:ψ I (tup vs)) :
 ∀ c w,Ok ⟨z,[],none⟩ E c->Sym w0 M I0 I m w->J7 P fn (S5 w0 M I0 λK v l=>l=[]∧ψ K v) .ret c w:=λ_ _ O J=>AgG O h V J λ_ J=>⟨_,I,[],rfl,D,⟨rfl,U⟩,J.dropAll⟩
theorem sD {z:Nat} {K:List HA} (O:Del K (MH ds) m) {vs:List Value} (Z:fn.results=rs.toArray) (h:ResR P E m rs vs) (D:I0.le I) (W:ψ I (tup vs)) :
 ∀ c w,Ok ⟨z,ds,none⟩ E c->Sym w0 M I0 I K w->J7 P fn (S5 w0 M I0 λU v l=>l=[]∧ψ U v) .ret c w:=λ_ _ V J=>AgF O V h Z J λ_ J=>⟨_,I,[],rfl,D,⟨rfl,W⟩,J.dropAll⟩
def AZ (xs:List α) (i:Int) (K:α->Prop):Prop:=0<=i∧∃ x,xs[i.toNat]? = some x∧K x
def DA (B:Nat) (xs ys:List α) (K:List α->Prop):Prop:=(xs.length+ys.length)*B<=140737488355328∧K (xs++ys)
end Go.Fw
