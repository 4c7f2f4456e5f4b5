/- The engine. -/
import Derived.Test.YtbohadngdkjljaaGreatFwN
import Derived.RangeFuncIn
import Derived.RangeFuncRecord
namespace Go.Fw
open Go Go.RowKit
variable {w0 w:World} {M:Nat→Prop} {I0 I:IH} {m m':List HA}
variable {P:Program} {n:FrK} {E:D7} {S:World→Prop} {Q:Exit→Act→World→Prop} {ops:Array Oper} {l:List Oper}
variable {d ty:Nat} {pos:String} {af:Array Edge} {T e:TypeId} {x y:Operand}
variable {φ:IH→Value→List HA→Prop} {body:Code}
def RFun (P:Program) (lr:Nat) (vs:List Value) (I:IH) (m:List HA) (φ:IH→Value→List HA→Prop):Prop:=
 ∀ (w:World) (h:IH),I.le (hp w)→OV m I h→h.le (hp w)→I.disj h→∃ f tmps D body,(Instr.yield lr vs.toArray).run P w=.ok (.round lr f tmps D body) w ∧
  RoundIn Fence.wide 0 P lr f tmps D body w (RQ w (fun b=>h b≠none) I φ)
theorem RFun.use {lr:Nat} {vs:List Value} {mf r:List HA} (hf:RFun P lr vs I mf φ) (h:Sym w0 M I0 I (mf++r) w)
  {R:Ending→World→Prop} (hR:∀ v U l' w',I.le U→φ U v l'→Sym w0 M I0 U (l'++r) w'→R (.returned v) w') :
  ∃ f tmps D body,(Instr.yield lr vs.toArray).run P w=.ok (.round lr f tmps D body) w∧RoundIn Fence.wide 0 P lr f tmps D body w R:=by
 obtain ⟨hb,hi,hn,k,hs,hk,Z,hm⟩:=h
 obtain ⟨Y,h2,hdj,J,O,hs1,hs2⟩:=LV.1 hs
 obtain ⟨f,tmps,D,body,hy,hr⟩:=hf w Y hi hs1 (J.trans hk) (Z.mono (IH.le.refl _) J)
 refine ⟨f,tmps,D,body,hy,hr.mono fun e w' ha=>?_⟩
 have W:∀ b,Y b≠none→k b≠none:=fun b G=>by cases e':Y b with | none=>exact absurd e' G | some o=>rw [J b o e']; simp
 have V:∀ b,h2 b≠none→k b≠none:=fun b G=>by cases e':h2 b with | none=>exact absurd e' G | some o=>rw [O b o e']; simp
 obtain ⟨v,U,l',rfl,hle,hφ,hs'⟩:=Sym.call (m:=mf) (r:=r) ⟨hb,hi,hn,k,hs,hk,Z,hm⟩ Y ⟨h2,hdj,O.trans hk,Z.mono (IH.le.refl _) J,Z.mono (IH.le.refl _) O,hs2,fun b G=>hm b (W b G),fun b G=>hm b (V b G)⟩ ha
 exact hR v U l' w' hle hφ hs'
theorem Ops.callY {lr:Nat} {args:List Operand} {vs:List Value} {tys:Array TypeId} {mf mr:List HA} (hx:ev E x=some (.func (.yield lr) #[] #[])) (ha:qE E args=some vs)
    (ho:Outs m mf mr) (hf:RFun P lr vs I mf φ) (hb:Nat.blt d n.sz=true) (hfr:fresh E d=true)
    (k:∀ v I' l',I.le I'→φ I' v l'→Ops P ops l n ((d,v) :: E) (Sym w0 M I0 I' (l'++mr)) Q) :
    Ops P ops (⟨some d,.call ⟨.value x,args.toArray,tys⟩,ty,pos,af,none⟩ :: l) n E (Sym w0 M I0 I m) Q:=by
  intro c w hok hs
  refine wpListIn_plain rfl fun K hK=>?_
  obtain ⟨f,tmps,assign,body,hy,hr⟩:=hf.use (hs.perm ho.perm) (R:=fun e w'=>match e with | .returned v=>K (c.put (some d) v) w' | .panicked ch=>Q (.panic ch) c w' | .outgrown=>LetsOut Q)
    fun v I' l' w' hle hφ hs'=>hK _ _ (k v I' l' hle hφ _ _ (hok.put hb hfr v) hs')
  have e:args.toArray.map c.eval=vs.toArray:=by simp [WO hok ha]
  have hrun:(execOp c.eval ⟨some d,.call ⟨.value x,args.toArray,tys⟩,ty,pos,af,none⟩).run P w=.ok (.round lr f tmps assign body) w:=by
    simp only [execOp,resolve,e,hok.eval hx,Deferred.ofValue,Sem.run_bind,Sem.run_pure,Result.andThen_ok,invoke]
    simp [hy]
  refine Z3 hrun (by simp) ?_
  simp only [Oper.uponIn]
  exact ⟨fun h=>(by cases h),hr.mono fun e w' h=>by cases e <;> exact h⟩
structure xB (k:Nat) (E:D7) (ps:List Nat) (assign body:Code) (rc:Loop):Prop where
 size:rc.tmps.size=k
 env:EnvOk E { tmps:=rc.tmps,defers:=[] }
 params:rc.params=ps.toArray
 assign:rc.assign=assign
 body:rc.body=body
def O9 (rc:Loop) (js:List Code) (j:Nat):Loop:={ rc with state:=if j=0 then .ready else .done,pending:=match j with | 0=>none | i+1=>js[i]? }
def dS (lr:Nat) (js:List Code) (rc:Loop) (j:Nat):HA:=pto lr (.loop (O9 rc js j))
def AdJ (lr:Nat) (rc:Loop):HA:=pto lr (.loop { rc with state:=.busy,pending:=none })
def qS (k:Nat):List Nat→List Value→D7→Option D7
 | [],[],E=>some E
 | p :: ps,v :: vs,E=>bif Nat.blt p k && fresh E p then qS k ps vs ((p,v) :: E) else none
 | _,_,_=>none
theorem sQ {k:Nat}:∀ {G:List Nat} {vs:List Value} {E E':D7} {tmps:Array Value},qS k G vs E=some E'→tmps.size=k→EnvOk E { tmps,defers:=[] } →
  G.length=vs.length∧((G.zip vs).foldl (fun t (p:Nat×Value)=>t.setIfInBounds p.1 p.2) tmps).size=k∧EnvOk E' { tmps:=(G.zip vs).foldl (fun t (p:Nat×Value)=>t.setIfInBounds p.1 p.2) tmps,defers:=[] }
 | [],[],E,E',tmps,h,hk,he=>by simp only [qS,Option.some.injEq] at h; subst h; exact ⟨rfl,hk,he⟩
 | p :: G,v :: vs,E,E',tmps,h,hk,he=>by
  simp only [qS] at h
  cases hc:(Nat.blt p k && fresh E p) with
  | false=>rw [hc] at h; simp at h
  | true=>
   rw [hc] at h
   simp only [Bool.and_eq_true] at hc
   have J:Ok ⟨k,[],none⟩ E { tmps,defers:=[] }:=⟨hk,rfl,he⟩
   have D:=J.put hc.1 hc.2 v
   have:=sQ (tmps:=tmps.setIfInBounds p v) h D.size D.env
   exact ⟨by simp [this.1],this.2⟩
 | [],_ :: _,_,_,_,h,_,_=>by simp [qS] at h
 | _ :: _,[],_,_,_,h,_,_=>by simp [qS] at h
theorem RFun.mk {k lr:Nat} {E E':D7} {O:List Nat} {D:Code} {rc:Loop} {js:List Code} {vs:List Value} {mf:List HA} (G:xB k E O D body rc) (W:qS k O vs E=some E')
  (h:∀ w0 M,Cod P D ⟨k,[],some lr⟩ E' (Sym w0 M I I (dS lr js rc 0 :: mf)) (Exit.then (fun a w=>∃ U,(Instr.beginRound lr).run P w=.ok () U∧body.wpIn (SP ⟨k,[],some lr⟩) 0 P (roundPost P lr (RQ w0 M I φ)) a U) (fun _ _ _=>False))) :
  RFun P lr vs I (dS lr js rc 0 :: mf) φ:=by
 intro w h0 hi hs Z hd
 have J:=Fun.start hi hs Z hd
 have hp:=J.pto
 obtain ⟨h1,h2,h3⟩:=sQ W G.size G.env
 have V:=run_yield (P:=P) (args:=vs.toArray) hp (by simp [O9,G.params,h1])
 refine ⟨_,_,_,_,V,roundIn_of_wpIn (F:=Fence.wide) trivial ?_⟩
 have e:(O9 rc js 0).assign=D:=G.assign
 have e2:(O9 rc js 0).body=body:=G.body
 have Y:((O9 rc js 0).params.zip vs.toArray).foldl (fun tmps (t,a)=>tmps.setIfInBounds t a) (O9 rc js 0).tmps=(O.zip vs).foldl (fun t (p:Nat×Value)=>t.setIfInBounds p.1 p.2) rc.tmps:=by
  show (rc.params.zip vs.toArray).foldl _ rc.tmps=_
  rw [G.params,←Array.foldl_toList]
  simp
 rw [e,e2,Y]
 exact h w _ _ w ⟨h2,rfl,h3⟩ J
theorem AcI {k lr:Nat} {E E':D7} {rc:Loop} {js:List Code} {c:Act} {w0:World} {M:Nat→Prop} (Y:Ok ⟨k,[],some lr⟩ E c) (D:Sub E' E) (W:Sym w0 M I0 I m w) (Z:At m (dS lr js rc 0) m' (AdJ lr rc)) (h:Cod P body ⟨k,[],some lr⟩ E' (Sym w0 M I0 I m') Q) :
  ∃ O,(Instr.beginRound lr).run P w=.ok () O∧body.wpIn (SP ⟨k,[],some lr⟩) 0 P Q c O:=by
 obtain ⟨r,V,h2⟩:=Z.del
 have G:=W.del V
 have hp:=G.pto
 have J:lr<w.heap.size:=(Array.getElem?_eq_some_iff.1 hp).1
 refine ⟨_,run_beginRound hp rfl,h _ _ (Y.sub D) ?_⟩
 exact (G.upd (o':=.loop { rc with state:=.busy,pending:=none }) (w':=w.putObj lr _) rfl rfl rfl rfl (by simp) (fun q U=>World.putObj_heap_other U) (World.putObj_heap_same J)).undel h2
theorem AeL {lr:Nat} {rc:Loop} {js:List Code} {U:List HA} (j:Nat) (hj:j=0∨(O9 rc js j).pending.isSome=true) (O:I0.le I) (hA:Del m (AdJ lr rc) m') (hp:Pick m' U) (hφ:φ I (.bool (Nat.beq j 0)) (dS lr js rc j :: U)) (hs:Sym w0 M I0 I m w) :
  ∃ v w',(Instr.endRound lr (O9 rc js j).pending).run P w=.ok v w'∧RQ w0 M I0 φ (.returned v) w':=by
 have G:=hs.del hA
 have W:=G.pto
 have J:lr<w.heap.size:=(Array.getElem?_eq_some_iff.1 W).1
 have hr:=run_endRound (P:=P) (O9 rc js j).pending W
 refine ⟨_,_,hr,?_⟩
 have V:=G.upd (o':=.loop (O9 rc js j)) (w':=w.putObj lr (.loop (O9 rc js j))) rfl rfl rfl rfl (by simp) (fun q hq=>World.putObj_heap_other hq) (World.putObj_heap_same J)
 have Y:(O9 rc js j).pending.isNone=Nat.beq j 0:=by
  rcases hj with rfl | h
  · rfl
  · cases j with
    | zero=>simp [O9] at h
    | succ j=>cases hh:(O9 rc js (j+1)).pending with
     | none=>rw [hh] at h; cases h
     | some _=>rfl
 have e2:({ rc with state:=if (O9 rc js j).pending.isNone then .ready else .done,pending:=(O9 rc js j).pending }:Loop)=O9 rc js j:=by
  rw [Y]; cases j <;> rfl
 have D:Sym w0 M I0 I (dS lr js rc j :: m') (w.putObj lr (.loop (O9 rc js j))):=V
 refine ⟨_,I,dS lr js rc j :: U,rfl,O,by rw [Y]; exact hφ,?_⟩
 have:=D.pick (.c .z hp)
 rw [show ({ rc with state:=LoopState.busy,pending:=none }:Loop) = { rc with state:=.busy,pending:=none } from rfl]
 have Z:({ ({ rc with state:=LoopState.busy,pending:=none }:Loop) with state:=if (O9 rc js j).pending.isNone=true then LoopState.ready else LoopState.done,pending:=(O9 rc js j).pending }:Loop)=O9 rc js j:=e2
 rw [Z]
 exact this
def Nrm (n:FrK) (E:D7) (S:World→Prop) (Q:Exit→Act→World→Prop):Prop:=∀ a w,Ok n E a→S w→Q .normal a w
theorem Cod.marks0 {c:Code} (k:Cod P c n E (Sym w0 M I0 I (MC [] :: m)) Q):Cod P c n E (Sym w0 M I0 I m) Q:=Cod.pre (fun _ h=>h.marks0) k
def eqP (a b:Nat) (K:Prop):Prop:=a=b∧K
theorem Cod.rangeF {k:Nat} {ds:List Nat} {g:Operand} {ps:List Nat} {assign:Code} {gf:Nat} {first lb:List Value} {mf mr:List HA} (js:List Code) (hg:ev E g=some (.func (.func gf) first.toArray lb.toArray)) (eg:∀ as w,(callFunc gf as).run P w=.ok (.enter gf as) w)
    (hO:Outs m (MC ds :: mf) mr)
    (h:∀ lr D rc,xB k E ps assign body rc→∃ φ:IH→Value→List HA→Prop,Fun P gf (first++[Value.func (.yield lr) #[] #[]]++lb).toArray I (dS lr js rc 0 :: mf) φ ∧
      ∀ v I' l',I.le I'→φ I' v l'→∃ j l2,l'=dS lr js rc j :: l2∧(j=0→Nrm ⟨k,D :: ds,none⟩ E (Sym w0 M I0 I' (MC (D :: ds) :: (l2++mr))) Q) ∧
        ∀ i,j=i+1→∃ c,js[i]? = some c∧Cod P c ⟨k,D :: ds,none⟩ E (Sym w0 M I0 I' (MC (D :: ds) :: (l2++mr))) Q) :
    Cod P (.rangeFunc g ps.toArray assign body) ⟨k,ds,none⟩ E (Sym w0 M I0 I m) Q:=by
  intro a w ho hs
  refine wpIn_rangeFunc fun fn _=>?_
  obtain ⟨rc,hrc⟩:∃ rc:Loop,rc = { state:=.ready,pending:=none,fn,tmps:=a.tmps,params:=ps.toArray,assign,body,defers:=w.heap.size }:=⟨_,rfl⟩
  obtain ⟨W1,hW1⟩:∃ W1,(w.alloc (.deferred (some []))).alloc (.loop rc)=W1:=⟨_,rfl⟩
  have hs1:Sym w0 M I0 I (pto (w.heap.size+1) (.loop rc) :: pto w.heap.size (.deferred (some [])) :: m) W1:=by
    have:=(hs.alloc (.deferred (some []))).alloc (.loop rc)
    rw [World.size_alloc] at this
    rw [←hW1]; exact this
  have hok:xB k E ps assign body rc:=by subst hrc; exact ⟨ho.size,ho.env.defers [],rfl,rfl,rfl⟩
  obtain ⟨φ,hfun,hk⟩:=h (w.heap.size+1) w.heap.size rc hok
  have hrec:O9 rc js 0=rc:=by subst hrc; rfl
  have hs2:Sym w0 M I0 I ((dS (w.heap.size+1) js rc 0 :: mf)++(pto w.heap.size (.deferred (some [])) :: MC ds :: mr)) W1:=by
    unfold dS
    rw [hrec]
    refine hs1.perm ?_
    have h1:m.Perm (MC ds :: mf++mr):=hO.perm
    refine List.Perm.cons _ ?_
    refine (List.Perm.cons _ h1).trans ?_
    simp only [List.cons_append]
    have a1:=List.perm_middle (l₁:=mf) (l₂:=MC ds :: mr) (a:=pto w.heap.size (.deferred (some [])))
    have a2:=List.perm_middle (l₁:=mf) (l₂:=mr) (a:=MC ds)
    exact (a1.trans (a2.cons _)).symm
  refine ⟨w.heap.size+1,[mkM w.heap.size],W1,{ target:=.fn (.func gf) lb.toArray,args:=first.toArray ++ #[.func (.yield (w.heap.size+1)) #[] #[]] },W1,gf,(first++[Value.func (.yield (w.heap.size+1)) #[] #[]]++lb).toArray,W1,?_,?_,fun _ _=>trivial,?_,fun h=>(by cases h),?_⟩
  · rw [←hW1,hrc]; exact run_enterLoop_outer _ _ _ _ _
  · simp only [resolve,ho.eval hg,Deferred.ofValue,Sem.run_pure]
    simp [Act.eval]
  · simp only [invoke]
    simp [eg]
  · refine bL (n:=⟨k,ds,none⟩) (hfun.use hs2 fun v I' l' w' hle hφ hs3=>?_)
    obtain ⟨j,l2,rfl,hn,hj⟩:=hk v I' l' hle hφ
    have hs4:Sym w0 M I0 I' (dS (w.heap.size+1) js rc j :: (l2++(pto w.heap.size (.deferred (some [])) :: MC ds :: mr))) w':=hs3
    have hp:=hs4.pto
    have hlt:w.heap.size+1<w'.heap.size:=(Array.getElem?_eq_some_iff.1 hp).1
    refine ⟨_,_,run_endLoop (P:=P) hp (by unfold O9; split <;> simp),?_⟩
    have hup:=(hs4.upd (o':=.loop { O9 rc js j with state:=.exhausted }) (w':=w'.putObj (w.heap.size+1) _) rfl rfl rfl rfl (by simp) (fun q hq=>World.putObj_heap_other hq) (World.putObj_heap_same hlt)).drop
    have hs5:Sym w0 M I0 I' (MC (w.heap.size :: ds) :: (l2++mr)) (w'.putObj (w.heap.size+1) (.loop { O9 rc js j with state:=.exhausted })):=by
      refine Sym.marksCons.2 (hup.perm ?_)
      have a1:=List.perm_middle (l₁:=l2) (l₂:=MC ds :: mr) (a:=pto w.heap.size (.deferred (some [])))
      have a2:=List.perm_middle (l₁:=l2) (l₂:=mr) (a:=MC ds)
      exact a1.trans (a2.cons _)
    have ho':Ok ⟨k,w.heap.size :: ds,none⟩ E { a with defers:=[mkM w.heap.size]++a.defers }:=⟨ho.size,by simp [ho.defers,FrK.defs],ho.env.defers _⟩
    cases j with
    | zero=>exact hn rfl _ _ ho' hs5
    | succ i=>
      obtain ⟨c,hc,hcod⟩:=hj i rfl
      have e:(O9 rc js (i+1)).pending=some c:=hc
      have hcod':=hcod _ _ ho' hs5
      simp only [e] at hcod' ⊢
      exact hcod'
end Go.Fw
