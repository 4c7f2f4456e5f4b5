/- The engine. -/
import Derived.Test.YtkbkaodgfedfmaaGreatFwN
import Derived.RangeFuncIn
import Derived.RangeFuncRecord
namespace Go.Fw
open Go Go.RowKit
variable {w0 w:World} {M:Nat→Prop} {I0 I:IH} {m m':List HA}
variable {P:Program} {n:FrK} {E:CZ} {S:World→Prop} {Q:Exit→Act→World→Prop} {ops:Array Oper} {l:List Oper}
variable {d ty:Nat} {pos:String} {af:Array Edge} {T e:TypeId} {x y:Operand}
variable {φ:IH→Value→List HA→Prop} {body:Code} {rc:Loop}
def RFun (P:Program) (lr:Nat) (vs:List Value) (I:IH) (m:List HA) (φ:IH->Value->List HA->Prop):Prop:=
 ∀ (w:World) (h:IH),I.le (hp w)->QI m I h->h.le (hp w)->I.disj h->∃ f tmps D body,(Instr.yield lr vs.toArray).run P w=.ok (.round lr f tmps D body) w ∧
  RoundIn Fence.wide 0 P lr f tmps D body w (S5 w (λb=>h b≠none) I φ)
theorem RFun.use {lr:Nat} {vs:List Value} {mf r:List HA} (hf:RFun P lr vs I mf φ) (h:Sym w0 M I0 I (mf++r) w)
  {R:Ending->World->Prop} (hR:∀ v W l' w',I.le W->φ W v l'->Sym w0 M I0 W (l'++r) w'->R (.returned v) w') :
  ∃ f tmps D body,(Instr.yield lr vs.toArray).run P w=.ok (.round lr f tmps D body) w∧RoundIn Fence.wide 0 P lr f tmps D body w R:=by
 obtain⟨hb,hi,hn,k,hs,hk,Z,hm⟩:=h;obtain⟨h1,h2,hdj,K,O,hs1,hs2⟩:=MF.1 hs;obtain⟨f,tmps,D,body,hy,hr⟩:=hf w h1 hi hs1 (K.trans hk) (Z.mono (IH.le.refl _) K);refine⟨f,tmps,D,body,hy,hr.mono λe w' ha=>?_⟩;have V:∀ b,h1 b≠none->k b≠none:=λb J=>by cases e':h1 b with | none=>exact absurd e' J | some o=>rw[K b o e']; simp
 have U:∀ b,h2 b≠none->k b≠none:=λb J=>by cases e':h2 b with | none=>exact absurd e' J | some o=>rw[O b o e']; simp
 obtain⟨v,W,l',rfl,hle,hφ,hs'⟩:=Sym.call (m:=mf) (r:=r) ⟨hb,hi,hn,k,hs,hk,Z,hm⟩ h1 ⟨h2,hdj,O.trans hk,Z.mono (IH.le.refl _) K,Z.mono (IH.le.refl _) O,hs2,λb J=>hm b (V b J),λb J=>hm b (U b J)⟩ ha;exact hR v W l' w' hle hφ hs'
theorem Ops.callY {lr:Nat} {args:List Operand} {vs:List Value} {tys:Array TypeId} {mf mr:List HA} (hx:ev E x=some (.func (.yield lr) #[] #[])) (ha:xG E args=some vs)
    (ho:Outs m mf mr) (hf:RFun P lr vs I mf φ) (hb:Nat.blt d n.sz=true) (hfr:fresh E d=true)
    (k:∀ v I' l',I.le I'->φ I' v l'->Ops P ops l n ((d,v) :: E) (Sym w0 M I0 I' (l'++mr)) Q) :
    Ops P ops (⟨some d,.call ⟨.value x,args.toArray,tys⟩,ty,pos,af,none⟩ :: l) n E (Sym w0 M I0 I m) Q:=by
  intro c w hok hs;refine wpListIn_plain rfl λK hK=>?_
  obtain⟨f,tmps,assign,body,hy,hr⟩:=hf.use (hs.perm ho.perm) (R:=λe w'=>match e with | .returned v=>K (c.put (some d) v) w' | .panicked ch=>Q (.panic ch) c w' | .outgrown=>LetsOut Q)
    λv I' l' w' hle hφ hs'=>hK _ _ (k v I' l' hle hφ _ _ (hok.put hb hfr v) hs')
  have e:args.toArray.map c.eval=vs.toArray:=by simp[TY hok ha]
  have hrun:(execOp c.eval ⟨some d,.call ⟨.value x,args.toArray,tys⟩,ty,pos,af,none⟩).run P w=.ok (.round lr f tmps assign body) w:=by simp only[execOp,resolve,e,hok.eval hx,Deferred.ofValue,Sem.run_bind,Sem.run_pure,Result.andThen_ok,invoke];simp[hy]
  refine eV hrun (by simp) ?_;simp only[Oper.uponIn];exact⟨λh=>(by cases h),hr.mono λe w' h=>by cases e <;> exact h⟩
structure AgL (k:Nat) (E:CZ) (ps:List Nat) (assign body:Code) (rc:Loop):Prop where
 size:rc.tmps.size=k
 env:EnvOk E { tmps:=rc.tmps,defers:=[] }
 params:rc.params=ps.toArray
 assign:rc.assign=assign
 body:rc.body=body
def PQ (rc:Loop) (js:List Code) (j:Nat):Loop:={ rc with state:=if j=0 then .ready else .done,pending:=match j with | 0=>none | i+1=>js[i]? }
def bD (lr:Nat) (js:List Code) (rc:Loop) (j:Nat):HA:=pto lr (.loop (PQ rc js j))
def AmW (lr:Nat) (rc:Loop):HA:=pto lr (.loop { rc with state:=.busy,pending:=none })
def Ab7 (k:Nat):List Nat->List Value->CZ->Option CZ
 | [],[],E=>some E
 | p :: ps,v :: vs,E=>bif Nat.blt p k && fresh E p then Ab7 k ps vs ((p,v) :: E) else none
 | _,_,_=>none
theorem AcU {k:Nat}:∀ {J:List Nat} {vs:List Value} {E E':CZ} {tmps:Array Value},Ab7 k J vs E=some E'->tmps.size=k->EnvOk E { tmps,defers:=[] } ->
  J.length=vs.length∧((J.zip vs).foldl (λt (p:Nat×Value)=>t.setIfInBounds p.1 p.2) tmps).size=k∧EnvOk E' { tmps:=(J.zip vs).foldl (λt (p:Nat×Value)=>t.setIfInBounds p.1 p.2) tmps,defers:=[] }
 | [],[],E,E',tmps,h,hk,he=>by simp only[Ab7,Option.some.injEq] at h; subst h; exact⟨rfl,hk,he⟩
 | p :: J,v :: vs,E,E',tmps,h,hk,he=>by
  simp only[Ab7] at h
  cases hc:(Nat.blt p k && fresh E p) with
  | false=>rw[hc] at h; simp at h
  | true=>
   rw[hc] at h;simp only[Bool.and_eq_true] at hc;have K:Ok ⟨k,[],none⟩ E { tmps,defers:=[] }:=⟨hk,rfl,he⟩;have D:=K.put hc.1 hc.2 v;have:=AcU (tmps:=tmps.setIfInBounds p v) h D.size D.env;exact⟨by simp[this.1],this.2⟩
 | [],_ :: _,_,_,_,h,_,_=>by simp[Ab7] at h
 | _ :: _,[],_,_,_,h,_,_=>by simp[Ab7] at h
theorem RFun.mk {k lr:Nat} {E E':CZ} {O:List Nat} {D:Code} {rc:Loop} {js:List Code} {vs:List Value} {mf:List HA} (J:AgL k E O D body rc) (V:Ab7 k O vs E=some E')
  (h:∀ w0 M,Cod P D ⟨k,[],some lr⟩ E' (Sym w0 M I I (bD lr js rc 0 :: mf)) (Exit.then (λa w=>∃ U,(Instr.beginRound lr).run P w=.ok () U∧body.wpIn (UT ⟨k,[],some lr⟩) 0 P (roundPost P lr (S5 w0 M I φ)) a U) (λ_ _ _=>False))) :
  RFun P lr vs I (bD lr js rc 0 :: mf) φ:=by
 intro w h0 hi hs W hd;have K:=Fun.start hi hs W hd;have hp:=K.pto;obtain⟨h1,h2,h3⟩:=AcU V J.size J.env;have hy:=run_yield (P:=P) (args:=vs.toArray) hp (by simp[PQ,J.params,h1]);refine⟨_,_,_,_,hy,roundIn_of_wpIn (F:=Fence.wide) trivial ?_⟩;have e:(PQ rc js 0).assign=D:=J.assign;have Z:(PQ rc js 0).body=body:=J.body
 have e3:((PQ rc js 0).params.zip vs.toArray).foldl (λtmps (t,a)=>tmps.setIfInBounds t a) (PQ rc js 0).tmps=(O.zip vs).foldl (λt (p:Nat×Value)=>t.setIfInBounds p.1 p.2) rc.tmps:=by show(rc.params.zip vs.toArray).foldl _ rc.tmps=_;rw[J.params,<-Array.foldl_toList];simp
 rw[e,Z,e3];exact h w _ _ w ⟨h2,rfl,h3⟩ K
theorem nM {k lr:Nat} {E E':CZ} {js:List Code} {c:Act} {w0:World} {M:Nat->Prop} (V:Ok ⟨k,[],some lr⟩ E c) (J:Sub E' E) (U:Sym w0 M I0 I m w) (Z:At m (bD lr js rc 0) m' (AmW lr rc)) (h:Cod P body ⟨k,[],some lr⟩ E' (Sym w0 M I0 I m') Q) :
  ∃ O,(Instr.beginRound lr).run P w=.ok () O∧body.wpIn (UT ⟨k,[],some lr⟩) 0 P Q c O:=by
 obtain⟨r,h1,W⟩:=Z.del;have D:=U.del h1;have hp:=D.pto;have K:lr<w.heap.size:=(Array.getElem?_eq_some_iff.1 hp).1;refine⟨_,run_beginRound hp rfl,h _ _ (V.sub J) ?_⟩;exact(D.upd (o':=.loop { rc with state:=.busy,pending:=none }) (w':=w.putObj lr _) rfl rfl rfl rfl (by simp) (λq hq=>World.putObj_heap_other hq) (World.putObj_heap_same K)).undel W
theorem Ab8 {lr:Nat} {rc:Loop} {js:List Code} {O:List HA} (j:Nat) (hj:j=0∨(PQ rc js j).pending.isSome=true) (U:I0.le I) (hA:Del m (AmW lr rc) m') (hp:Pick m' O) (hφ:φ I (.bool (Nat.beq j 0)) (bD lr js rc j :: O)) (hs:Sym w0 M I0 I m w) :
  ∃ v w',(Instr.endRound lr (PQ rc js j).pending).run P w=.ok v w'∧S5 w0 M I0 φ (.returned v) w':=by
 have J:=hs.del hA;have W:=J.pto;have K:lr<w.heap.size:=(Array.getElem?_eq_some_iff.1 W).1;have hr:=run_endRound (P:=P) (PQ rc js j).pending W;refine⟨_,_,hr,?_⟩;have V:=J.upd (o':=.loop (PQ rc js j)) (w':=w.putObj lr (.loop (PQ rc js j))) rfl rfl rfl rfl (by simp) (λq hq=>World.putObj_heap_other hq) (World.putObj_heap_same K)
 have Z:(PQ rc js j).pending.isNone=Nat.beq j 0:=by
  rcases hj with rfl | h
  . rfl
  . cases j with
    | zero=>simp[PQ] at h
    | succ j=>cases hh:(PQ rc js (j+1)).pending with
     | none=>rw[hh] at h; cases h
     | some _=>rfl
 have e2:({ rc with state:=if (PQ rc js j).pending.isNone then .ready else .done,pending:=(PQ rc js j).pending }:Loop)=PQ rc js j:=by rw[Z]; cases j <;> rfl
 have D:Sym w0 M I0 I (bD lr js rc j :: m') (w.putObj lr (.loop (PQ rc js j))):=V;refine⟨_,I,bD lr js rc j :: O,rfl,U,by rw[Z]; exact hφ,?_⟩;have:=D.pick (.c .z hp);rw[show({ rc with state:=LoopState.busy,pending:=none }:Loop) = { rc with state:=.busy,pending:=none } from rfl];have e3:({ ({ rc with state:=LoopState.busy,pending:=none }:Loop) with state:=if (PQ rc js j).pending.isNone=true then LoopState.ready else LoopState.done,pending:=(PQ rc js j).pending }:Loop)=PQ rc js j:=e2;rw[e3];exact this
def Nrm (n:FrK) (E:CZ) (S:World->Prop) (Q:Exit->Act->World->Prop):Prop:=∀ a w,Ok n E a->S w->Q .normal a w
theorem Cod.marks0 {c:Code} (k:Cod P c n E (Sym w0 M I0 I (MH [] :: m)) Q):Cod P c n E (Sym w0 M I0 I m) Q:=Cod.pre (λ_ h=>h.marks0) k
def eqP (a b:Nat) (K:Prop):Prop:=a=b∧K
theorem Cod.rangeF {k:Nat} {ds:List Nat} {g:Operand} {ps:List Nat} {assign:Code} {gf:Nat} {first lb:List Value} {mf mr:List HA} (js:List Code) (hg:ev E g=some (.func (.func gf) first.toArray lb.toArray)) (eg:∀ as w,(callFunc gf as).run P w=.ok (.enter gf as) w)
    (hO:Outs m (MH ds :: mf) mr)
    (h:∀ lr D rc,AgL k E ps assign body rc->∃ φ:IH->Value->List HA->Prop,Fun P gf (first++[Value.func (.yield lr) #[] #[]]++lb).toArray I (bD lr js rc 0 :: mf) φ ∧
      ∀ v I' l',I.le I'->φ I' v l'->∃ j l2,l'=bD lr js rc j :: l2∧(j=0->Nrm ⟨k,D :: ds,none⟩ E (Sym w0 M I0 I' (MH (D :: ds) :: (l2++mr))) Q) ∧
        ∀ i,j=i+1->∃ c,js[i]? = some c∧Cod P c ⟨k,D :: ds,none⟩ E (Sym w0 M I0 I' (MH (D :: ds) :: (l2++mr))) Q) :
    Cod P (.rangeFunc g ps.toArray assign body) ⟨k,ds,none⟩ E (Sym w0 M I0 I m) Q:=by
  intro a w ho hs;refine wpIn_rangeFunc λfn _=>?_;obtain⟨rc,hrc⟩:∃ rc:Loop,rc = { state:=.ready,pending:=none,fn,tmps:=a.tmps,params:=ps.toArray,assign,body,defers:=w.heap.size }:=⟨_,rfl⟩;obtain⟨W1,hW1⟩:∃ W1,(w.alloc (.deferred (some []))).alloc (.loop rc)=W1:=⟨_,rfl⟩
  have hs1:Sym w0 M I0 I (pto (w.heap.size+1) (.loop rc) :: pto w.heap.size (.deferred (some [])) :: m) W1:=by have:=(hs.alloc (.deferred (some []))).alloc (.loop rc);rw[World.size_alloc] at this;rw[<-hW1]; exact this
  have hok:AgL k E ps assign body rc:=by subst hrc; exact⟨ho.size,ho.env.defers [],rfl,rfl,rfl⟩
  obtain⟨φ,hfun,hk⟩:=h (w.heap.size+1) w.heap.size rc hok;have hrec:PQ rc js 0=rc:=by subst hrc; rfl
  have hs2:Sym w0 M I0 I ((bD (w.heap.size+1) js rc 0 :: mf)++(pto w.heap.size (.deferred (some [])) :: MH ds :: mr)) W1:=by unfold bD;rw[hrec];refine hs1.perm ?_;have h1:m.Perm (MH ds :: mf++mr):=hO.perm;refine List.Perm.cons _ ?_;refine(List.Perm.cons _ h1).trans ?_;simp only[List.cons_append];have a1:=List.perm_middle (l₁:=mf) (l₂:=MH ds :: mr) (a:=pto w.heap.size (.deferred (some [])));have a2:=List.perm_middle (l₁:=mf) (l₂:=mr) (a:=MH ds);exact(a1.trans (a2.cons _)).symm
  refine⟨w.heap.size+1,[mkM w.heap.size],W1,{ target:=.fn (.func gf) lb.toArray,args:=first.toArray ++ #[.func (.yield (w.heap.size+1)) #[] #[]] },W1,gf,(first++[Value.func (.yield (w.heap.size+1)) #[] #[]]++lb).toArray,W1,?_,?_,λ_ _=>trivial,?_,λh=>(by cases h),?_⟩
  . rw[<-hW1,hrc]; exact run_enterLoop_outer _ _ _ _ _
  . simp only[resolve,ho.eval hg,Deferred.ofValue,Sem.run_pure];simp[Act.eval]
  . simp only[invoke];simp[eg]
  . refine jB (n:=⟨k,ds,none⟩) (hfun.use hs2 λv I' l' w' hle hφ hs3=>?_);obtain⟨j,l2,rfl,hn,hj⟩:=hk v I' l' hle hφ;have hs4:Sym w0 M I0 I' (bD (w.heap.size+1) js rc j :: (l2++(pto w.heap.size (.deferred (some [])) :: MH ds :: mr))) w':=hs3;have hp:=hs4.pto;have hlt:w.heap.size+1<w'.heap.size:=(Array.getElem?_eq_some_iff.1 hp).1;refine⟨_,_,run_endLoop (P:=P) hp (by unfold PQ; split <;> simp),?_⟩;have hup:=(hs4.upd (o':=.loop { PQ rc js j with state:=.exhausted }) (w':=w'.putObj (w.heap.size+1) _) rfl rfl rfl rfl (by simp) (λq hq=>World.putObj_heap_other hq) (World.putObj_heap_same hlt)).drop
    have hs5:Sym w0 M I0 I' (MH (w.heap.size :: ds) :: (l2++mr)) (w'.putObj (w.heap.size+1) (.loop { PQ rc js j with state:=.exhausted })):=by refine Sym.marksCons.2 (hup.perm ?_);have a1:=List.perm_middle (l₁:=l2) (l₂:=MH ds :: mr) (a:=pto w.heap.size (.deferred (some [])));have a2:=List.perm_middle (l₁:=l2) (l₂:=mr) (a:=MH ds);exact a1.trans (a2.cons _)
    have ho':Ok ⟨k,w.heap.size :: ds,none⟩ E { a with defers:=[mkM w.heap.size]++a.defers }:=⟨ho.size,by simp[ho.defers,FrK.defs],ho.env.defers _⟩
    cases j with
    | zero=>exact hn rfl _ _ ho' hs5
    | succ i=>
      obtain⟨c,hc,hcod⟩:=hj i rfl;have e:(PQ rc js (i+1)).pending=some c:=hc;have hcod':=hcod _ _ ho' hs5;simp only[e] at hcod' ⊢;exact hcod'
end Go.Fw
