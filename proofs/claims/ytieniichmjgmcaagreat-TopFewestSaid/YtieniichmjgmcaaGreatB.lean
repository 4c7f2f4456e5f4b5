import Derived.Test.YtieniichmjgmcaaGreatA
import Derived.OpenShut
import Derived.RangeFuncIn
import Derived.Sort.LoopGhostIn
namespace Go.Fw
open Go Go.RowKit
section
def inR (k:IntKind) (x:Int):Prop:=(Lit.int k x).wf=true
theorem BV {σ:Type} {d:σ->(σ->Prop)->Prop} (D:σ->Prop) (μ:σ->Nat) {s0:σ} (V:D s0) (h:∀ s next,D s->(∀ J,D J->μ J<μ s->next J)->d s next):B4 d s0:=by
 have H:∀ k s,D s->μ s<k->SB d k s:=by
  intro k
  induction k with
  | zero=>intro s _ hk; omega
  | succ k U=>intro s hi hk; exact h s _ hi λJ O _=>U J O (by omega)
 exact⟨μ s0+1,H _ _ V (by omega)⟩
theorem CE {σ:Type} {m:(σ->Prop)->Prop} {k:σ->Prop} (R:σ->Prop) (hk:∀ t,R t->k t) (h:∀ d:σ->Prop,(∀ t,R t->d t)->m d):EP m k:=h k hk
variable {α β κ:Type}
theorem B2 {b:Bool} {A B:Prop} (D:b=true) (h:A):A5 b A B:=⟨λ_=>h,λd=>by rw[D] at d; cases d⟩
theorem A8 {b:Bool} {A B:Prop} (d:b=false) (h:B):A5 b A B:=⟨λD=>absurd (D.symm.trans d) (by simp),λ_=>h⟩
theorem A0 {p:Prop} [Decidable p] {A B:Prop} (D:p->A) (d:¬p->B):A5 (decide p) A B:=⟨λh=>D (of_decide_eq_true h),λh=>d (of_decide_eq_false h)⟩
theorem B5 [BEq β] [LawfulBEq β] {x y:β} {A B:Prop} (D:x=y->A) (d:x≠y->B):A5 (x==y) A B:=⟨λh=>D (by simpa using h),λh=>d (by simpa using h)⟩
theorem BT [BEq β] [LawfulBEq β] {x y:β} {A B:Prop} (D:x≠y->A) (d:x=y->B):A5 (x != y) A B:=⟨λh=>D (by simpa using h),λh=>d (by simpa using h)⟩
theorem CB {b:Bool} {A B:Prop} (D:b=false->A) (d:b=true->B):A5 (!b) A B:=⟨λh=>D (by simpa using h),λh=>d (by simpa using h)⟩
theorem AG {xs:List α} {i:Int} {K:α->Prop} {x:α} (d:0<=i) (h:xs[i.toNat]? = some x) (hk:K x):AR xs i K:=⟨d,x,h,hk⟩
theorem AW {xs:List α} {i:Nat} {K:α->Prop} (h:i<xs.length) (hk:K xs[i]):AR xs (i:Int) K:=⟨by omega,xs[i],by simp[h],hk⟩
theorem AL {B:Nat} {xs ys:List α} {K:List α->Prop} (h:(xs.length+ys.length)*B<=140737488355328) (hk:K (xs++ys)):DW B xs ys K:=⟨h,hk⟩
theorem L7 {xs:List α} {A B:Prop} (h:xs=[]->A) (d:B):AdD xs A B:=⟨h,d⟩
theorem As8 {xs:List α} {lo hi:Nat} {K:List α->Prop} (d:lo<=hi) (h:hi<=xs.length) (hk:K ((xs.take hi).drop lo)):slP xs (lo:Int) (hi:Int) K:=⟨by omega,by omega,by omega,hk⟩
theorem A6 {x:Int} (d : -9223372036854775808<=x) (h:x<=9223372036854775807):A4 x=x:=by show IntKind.wrap .i64 x=x;rw[IntKind.wrap_i64];omega
theorem NQ {x:Int} (d:0<=x) (h:x<=18446744073709551615):IntKind.wrap .u64 x=x:=by simp only[IntKind.wrap,IntKind.bits,IntKind.signed];simp;omega
variable [DecidableEq κ]
def EU (l:List (κ×α)):Prop:=(l.map (·.1)).Nodup
theorem CO (k:κ) (v:α):∀ l:List (κ×α),BC k (DV k v l)=some v
 | []=>by simp[DV,BC]
 | p :: r=>by
  unfold DV;split
  . simp[BC]
  . rename_i h; simp[BC,h,CO k v r]
theorem CW {k d:κ} (h:d≠k) (v:α):∀ l:List (κ×α),BC d (DV k v l)=BC d l
 | []=>by simp[DV,BC,h]
 | p :: r=>by
  unfold DV;split
  . rename_i D; subst D; simp[BC,h]
  . simp only[BC]; split
    . rfl
    . exact CW h v r
theorem dJ {k:κ}:∀ {l:List (κ×α)},k ∉ l.map (·.1)->BC k l=none
 | [],_=>rfl
 | p :: r,h=>by simp only[P9,SK,not_or] at h;simp[BC,h.1,dJ h.2]
theorem AdF {k:κ} {v:α}:∀ {l:List (κ×α)},BC k l=some v->k∈l.map (·.1)
 | p :: r,h=>by
  simp only[BC] at h;split at h
  . rename_i hk; simp[hk]
  . simp[AdF h]
theorem oE (k:κ) (v:α):∀ l:List (κ×α),(DV k v l).map (·.1)=if k∈l.map (·.1) then l.map (·.1) else l.map (·.1)++[k]
 | []=>by simp[DV]
 | p :: r=>by
  unfold DV;split
  . rename_i h; simp[h]
  . rename_i h;simp only[P9,oE k v r,SK,h,false_or];split <;> simp
theorem HO {l:List (κ×α)} (h:EU l) (k:κ) (v:α):EU (DV k v l):=by grind[EU,oE]
theorem N4 {k d:κ} (h:d≠k):∀ l:List (κ×α),BC d (FL k l)=BC d l
 | []=>rfl
 | p :: r=>by
  unfold FL;split
  . rename_i D; subst D; simp[BC,h]
  . simp only[BC]; split
    . rfl
    . exact N4 h r
theorem kL (k:κ):∀ l:List (κ×α),(FL k l).Sublist l
 | []=>.slnil
 | p :: r=>by
  unfold FL;split
  . exact List.sublist_cons_self _ _
  . exact(kL k r).cons_cons p
theorem pZ {l:List (κ×α)} (h:EU l) (k:κ):EU (FL k l):=List.Sublist.nodup ((kL k l).map _) h
theorem aW {k:κ}:∀ {l:List (κ×α)},EU l->BC k (FL k l)=none
 | [],_=>rfl
 | p :: r,h=>by
  unfold EU at h;simp only[P9,sQ] at h;unfold FL;split
  . rename_i hk; subst hk; exact dJ h.1
  . rename_i hk; simp[BC,hk,aW (l:=r) h.2]
theorem IG {l:List (κ×α)} {k:κ} {z:α} {C:α->Prop} (h:C ((BC k l).getD z)):lkP l k z C:=h
end
section
variable {w0 w:World} {M:Nat→Prop} {I0 I:IH} {m m':List HA}
variable {P:Program} {n:FrK} {E:DF} {S:World→Prop} {Q:Exit→Act→World→Prop} {ops:Array Oper} {l:List Oper}
variable {d ty:Nat} {pos:String} {af:Array Edge} {T e:TypeId} {x y:Operand}
variable {φ:IH→Value→List HA→Prop} {body:Code} {rc:Loop}
def RFun (P:Program) (lr:Nat) (vs:List Value) (I:IH) (m:List HA) (φ:IH->Value->List HA->Prop):Prop:=
 ∀ (w:World) (h:IH),I.le (hp w)->O2 m I h->h.le (hp w)->I.disj h->∃ f tmps D body,(Instr.yield lr vs.toArray).run P w=.ok (.round lr f tmps D body) w ∧
  RoundIn Fence.wide 0 P lr f tmps D body w (SA w (λb=>h b≠none) I φ)
theorem RFun.use {lr:Nat} {vs:List Value} {mf r:List HA} (hf:RFun P lr vs I mf φ) (a4:Sym w0 M I0 I (mf++r) w)
  {R:Ending->World->Prop} (hR:∀ v Z l' w',I.le Z->φ Z v l'->Sym w0 M I0 Z (l'++r) w'->R (.returned v) w') :
  ∃ f tmps D body,(Instr.yield lr vs.toArray).run P w=.ok (.round lr f tmps D body) w∧RoundIn Fence.wide 0 P lr f tmps D body w R:=by
 have⟨hb,hi,hn,k,hs,hk,V,hm⟩:=a4;have⟨h,W,a5,O,U,a6,a7⟩:=NN.1 hs;have⟨f,tmps,D,body,hy,hr⟩:=hf w h hi a6 (O.trans hk) (V.mono (IH.le.refl _) O);refine⟨f,tmps,D,body,hy,hr.mono λ_ w' ha=>?_⟩;have a3:∀ b,h b≠none->k b≠none:=λb J=>by cases e':h b with | none=>exact absurd e' J | some o=>rw[O b o e']; simp
 have a2:∀ b,W b≠none->k b≠none:=λb J=>by cases e':W b with | none=>exact absurd e' J | some o=>rw[U b o e']; simp
 obtain⟨v,Z,l',rfl,_,_,_⟩:=Sym.call (m:=mf) (r:=r) ⟨hb,hi,hn,k,hs,hk,V,hm⟩ h ⟨W,a5,U.trans hk,V.mono (IH.le.refl _) O,V.mono (IH.le.refl _) U,a7,λb J=>hm b (a3 b J),λb J=>hm b (a2 b J)⟩ ha;grind
theorem Ops.callY {lr:Nat} {args:List Operand} {vs:List Value} {U:Array TypeId} {mf mr:List HA} (hx:ev E x=some (.func (.yield lr) #[] #[])) (Z:evs E args=some vs)
    (ho:Outs m mf mr) (hf:RFun P lr vs I mf φ) (hb:Nat.blt d n.sz=true) (a2:fresh E d=true)
    (k:∀ v D J,I.le D->φ D v J->Ops P ops l n ((d,v) :: E) (Sym w0 M I0 D (J++mr)) Q) :
    Ops P ops (⟨some d,.call ⟨.value x,args.toArray,U⟩,ty,pos,af,none⟩ :: l) n E (Sym w0 M I0 I m) Q:=by
  intro c w O hs;refine wpListIn_plain rfl λK W=>?_
  have⟨f,tmps,a6,body,hy,hr⟩:=hf.use (hs.perm ho.perm) (R:=λe w'=>match e with | .returned v=>K (c.put (some d) v) w' | .panicked V=>Q (.panic V) c w' | .outgrown=>LetsOut Q)
    λv D J w' a3 hφ a4=>W _ _ (k v D J a3 hφ _ _ (O.put hb a2 v) a4)
  have e:args.toArray.map c.eval=vs.toArray:=by simp[VM O Z]
  have a5:(execOp c.eval ⟨some d,.call ⟨.value x,args.toArray,U⟩,ty,pos,af,none⟩).run P w=.ok (.round lr f tmps a6 body) w:=by simp only[execOp,resolve,e,O.eval hx,Deferred.ofValue,Sem.run_bind,Sem.run_pure,Result.andThen_ok,invoke];simp[hy]
  refine kC a5 (by simp) ?_;simp only[Oper.uponIn];exact⟨λh=>(by cases h),hr.mono λe w' h=>by cases e <;> exact h⟩
structure AoI (k:Nat) (E:DF) (ps:List Nat) (assign body:Code) (rc:Loop):Prop where
 size:rc.tmps.size=k
 env:EnvOk E { tmps:=rc.tmps,defers:=[] }
 params:rc.params=ps.toArray
 assign:rc.assign=assign
 body:rc.body=body
def TN (rc:Loop) (js:List Code) (j:Nat):Loop:={ rc with state:=if j=0 then .ready else .done,pending:=match j with | 0=>none | i+1=>js[i]? }
def fD (lr:Nat) (js:List Code) (rc:Loop) (j:Nat):HA:=pto lr (.loop (TN rc js j))
def Ax1 (lr:Nat) (rc:Loop):HA:=pto lr (.loop { rc with state:=.busy,pending:=none })
def AgH (k:Nat):List Nat->List Value->DF->Option DF
 | [],[],E=>some E
 | p :: ps,v :: vs,E=>bif Nat.blt p k && fresh E p then AgH k ps vs ((p,v) :: E) else none
 | _,_,_=>none
theorem AiY {k:Nat}:∀ {J:List Nat} {vs:List Value} {E E':DF} {tmps:Array Value},AgH k J vs E=some E'->tmps.size=k->EnvOk E { tmps,defers:=[] } ->
  J.length=vs.length∧((J.zip vs).foldl (λt (p:Nat×Value)=>t.setIfInBounds p.1 p.2) tmps).size=k∧EnvOk E' { tmps:=(J.zip vs).foldl (λt (p:Nat×Value)=>t.setIfInBounds p.1 p.2) tmps,defers:=[] }
 | [],[],E,E',tmps,h,hk,he=>by simp only[AgH,Ad0] at h; subst h; exact⟨rfl,hk,he⟩
 | p :: J,v :: vs,E,E',tmps,h,hk,he=>by
  simp only[AgH] at h
  cases U:(Nat.blt p k && fresh E p) with
  | false=>rw[U] at h; simp at h
  | true=>
   rw[U] at h;simp only[aR] at U;have O:Ok ⟨k,[],none⟩ E { tmps,defers:=[] }:=⟨hk,rfl,he⟩;have D:=O.put U.1 U.2 v;have:=AiY (tmps:=tmps.setIfInBounds p v) h D.size D.env;simp_all
 | [],_ :: _,_,_,_,h,_,_=>by simp[AgH] at h
 | _ :: _,[],_,_,_,h,_,_=>by simp[AgH] at h
theorem RFun.mk {k lr:Nat} {E E':DF} {U:List Nat} {D:Code} {rc:Loop} {js:List Code} {vs:List Value} {mf:List HA} (J:AoI k E U D body rc) (hE:AgH k U vs E=some E')
  (h:∀ w0 M,Cod P D ⟨k,[],some lr⟩ E' (Sym w0 M I I (fD lr js rc 0 :: mf)) (Exit.then (λa w=>∃ V,(Instr.beginRound lr).run P w=.ok () V∧body.wpIn (WM ⟨k,[],some lr⟩) 0 P (roundPost P lr (SA w0 M I φ)) a V) (λ_ _ _=>False))) :
  RFun P lr vs I (fD lr js rc 0 :: mf) φ:=by
 intro w h0 hi hs hh hd;have O:=Fun.start hi hs hh hd;have hp:=O.pto;have⟨W,h2,h3⟩:=AiY hE J.size J.env;have hy:=run_yield (P:=P) (args:=vs.toArray) hp (by simp[TN,J.params,W]);refine⟨_,_,_,_,hy,roundIn_of_wpIn (F:=Fence.wide) trivial ?_⟩;have e:(TN rc js 0).assign=D:=J.assign;have Z:(TN rc js 0).body=body:=J.body
 have e3:((TN rc js 0).params.zip vs.toArray).foldl (λtmps (t,a)=>tmps.setIfInBounds t a) (TN rc js 0).tmps=(U.zip vs).foldl (λt (p:Nat×Value)=>t.setIfInBounds p.1 p.2) rc.tmps:=by show(rc.params.zip vs.toArray).foldl _ rc.tmps=_;rw[J.params,<-AiC];simp
 rw[e,Z,e3];exact h w _ _ w ⟨h2,rfl,h3⟩ O
theorem tD {k lr:Nat} {E E':DF} {js:List Code} {c:Act} {w0:World} {M:Nat->Prop} (W:Ok ⟨k,[],some lr⟩ E c) (J:Sub E' E) (hs:Sym w0 M I0 I m w) (Z:At m (fD lr js rc 0) m' (Ax1 lr rc)) (h:Cod P body ⟨k,[],some lr⟩ E' (Sym w0 M I0 I m') Q) :
  ∃ U,(Instr.beginRound lr).run P w=.ok () U∧body.wpIn (WM ⟨k,[],some lr⟩) 0 P Q c U:=by
 have⟨_,h1,h2⟩:=Z.del;have D:=hs.del h1;have hp:=D.pto;have O:lr<w.heap.size:=(Array.getElem?_eq_some_iff.1 hp).1;refine⟨_,run_beginRound hp rfl,h _ _ (W.sub J) ?_⟩;exact(D.upd (o':=.loop { rc with state:=.busy,pending:=none }) (w':=w.putObj lr _) rfl rfl rfl rfl (by simp) (λ_ V=>World.putObj_heap_other V) (World.putObj_heap_same O)).undel h2
theorem AgI {lr:Nat} {rc:Loop} {js:List Code} {U:List HA} (j:Nat) (hj:j=0∨(TN rc js j).pending.isSome=true) (O:I0.le I) (hA:Del m (Ax1 lr rc) m') (hp:Pick m' U) (hφ:φ I (.bool (Nat.beq j 0)) (fD lr js rc j :: U)) (hs:Sym w0 M I0 I m w) :
  ∃ v w',(Instr.endRound lr (TN rc js j).pending).run P w=.ok v w'∧SA w0 M I0 φ (.returned v) w':=by
 have J:=hs.del hA;have W:=J.pto;have a2:lr<w.heap.size:=(Array.getElem?_eq_some_iff.1 W).1;have hr:=run_endRound (P:=P) (TN rc js j).pending W;refine⟨_,_,hr,?_⟩;have V:=J.upd (o':=.loop (TN rc js j)) (w':=w.putObj lr (.loop (TN rc js j))) rfl rfl rfl rfl (by simp) (λ_ hq=>World.putObj_heap_other hq) (World.putObj_heap_same a2)
 have Z:(TN rc js j).pending.isNone=Nat.beq j 0:=by
  rcases hj with rfl | h
  . rfl
  . cases j with
    | zero=>simp[TN] at h
    | succ j=>cases hh:(TN rc js (j+1)).pending with
     | none=>rw[hh] at h; cases h
     | some _=>rfl
 have e2:({ rc with state:=if (TN rc js j).pending.isNone then .ready else .done,pending:=(TN rc js j).pending }:Loop)=TN rc js j:=by rw[Z]; cases j <;> rfl
 have D:Sym w0 M I0 I (fD lr js rc j :: m') (w.putObj lr (.loop (TN rc js j))):=V;refine⟨_,I,fD lr js rc j :: U,rfl,O,by rw[Z]; exact hφ,?_⟩;have:=D.pick (.c .z hp);grind
def Nrm (n:FrK) (E:DF) (S:World->Prop) (Q:Exit->Act->World->Prop):Prop:=∀ a w,Ok n E a->S w->Q .normal a w
theorem Cod.marks0 {c:Code} (k:Cod P c n E (Sym w0 M I0 I (NP [] :: m)) Q):Cod P c n E (Sym w0 M I0 I m) Q:=Cod.pre (λ_ h=>h.marks0) k
def eqP (a b:Nat) (K:Prop):Prop:=a=b∧K
theorem Cod.rangeF {k:Nat} {ds:List Nat} {g:Operand} {ps:List Nat} {assign:Code} {gf:Nat} {first lb:List Value} {mf mr:List HA} (js:List Code) (hg:ev E g=some (.func (.func gf) first.toArray lb.toArray)) (eg:∀ as w,(callFunc gf as).run P w=.ok (.enter gf as) w)
    (hO:Outs m (NP ds :: mf) mr)
    (h:∀ lr D rc,AoI k E ps assign body rc->∃ φ:IH->Value->List HA->Prop,Fun P gf (first++[Value.func (.yield lr) #[] #[]]++lb).toArray I (fD lr js rc 0 :: mf) φ ∧
      ∀ v I' l',I.le I'->φ I' v l'->∃ j l2,l'=fD lr js rc j :: l2∧(j=0->Nrm ⟨k,D :: ds,none⟩ E (Sym w0 M I0 I' (NP (D :: ds) :: (l2++mr))) Q) ∧
        ∀ i,j=i+1->∃ c,js[i]? = some c∧Cod P c ⟨k,D :: ds,none⟩ E (Sym w0 M I0 I' (NP (D :: ds) :: (l2++mr))) Q) :
    Cod P (.rangeFunc g ps.toArray assign body) ⟨k,ds,none⟩ E (Sym w0 M I0 I m) Q:=by
  intro a w ho hs;refine wpIn_rangeFunc λfn _=>?_;obtain⟨rc,hrc⟩:∃ rc:Loop,rc = { state:=.ready,pending:=none,fn,tmps:=a.tmps,params:=ps.toArray,assign,body,defers:=w.heap.size }:=⟨_,rfl⟩;obtain⟨W1,hW1⟩:∃ W1,(w.alloc (.deferred (some []))).alloc (.loop rc)=W1:=⟨_,rfl⟩
  have hs1:Sym w0 M I0 I (pto (w.heap.size+1) (.loop rc) :: pto w.heap.size (.deferred (some [])) :: m) W1:=by have:=(hs.alloc (.deferred (some []))).alloc (.loop rc);simp_all
  have hok:AoI k E ps assign body rc:=by subst hrc; exact⟨ho.size,ho.env.defers [],rfl,rfl,rfl⟩
  have⟨φ,hfun,hk⟩:=h (w.heap.size+1) w.heap.size rc hok;have hrec:TN rc js 0=rc:=by subst hrc; rfl
  have hs2:Sym w0 M I0 I ((fD (w.heap.size+1) js rc 0 :: mf)++(pto w.heap.size (.deferred (some [])) :: NP ds :: mr)) W1:=by unfold fD;rw[hrec];refine hs1.perm ?_;have h1:m.Perm (NP ds :: mf++mr):=hO.perm;refine Ag5 _ ?_;refine(Ag5 _ h1).trans ?_;simp only[nV];have a1:=Al1 (l₁:=mf) (l₂:=NP ds :: mr) (a:=pto w.heap.size (.deferred (some [])));have a2:=Al1 (l₁:=mf) (l₂:=mr) (a:=NP ds);exact(a1.trans (a2.cons _)).symm
  refine⟨w.heap.size+1,[mkM w.heap.size],W1,{ target:=.fn (.func gf) lb.toArray,args:=first.toArray ++ #[.func (.yield (w.heap.size+1)) #[] #[]] },W1,gf,(first++[Value.func (.yield (w.heap.size+1)) #[] #[]]++lb).toArray,W1,?_,?_,λ_ _=>trivial,?_,λh=>(by cases h),?_⟩
  . rw[<-hW1,hrc]; exact run_enterLoop_outer _ _ _ _ _
  . simp only[resolve,ho.eval hg,Deferred.ofValue,Sem.run_pure];simp[Act.eval]
  . simp only[invoke];simp[eg]
  . refine oB (n:=⟨k,ds,none⟩) (hfun.use hs2 λv I' l' w' hle hφ hs3=>?_);obtain⟨j,l2,rfl,hn,hj⟩:=hk v I' l' hle hφ;have hs4:Sym w0 M I0 I' (fD (w.heap.size+1) js rc j :: (l2++(pto w.heap.size (.deferred (some [])) :: NP ds :: mr))) w':=hs3;have hp:=hs4.pto;have hlt:w.heap.size+1<w'.heap.size:=(Array.getElem?_eq_some_iff.1 hp).1;refine⟨_,_,run_endLoop (P:=P) hp (by unfold TN; split <;> simp),?_⟩;have hup:=(hs4.upd (o':=.loop { TN rc js j with state:=.exhausted }) (w':=w'.putObj (w.heap.size+1) _) rfl rfl rfl rfl (by simp) (λq hq=>World.putObj_heap_other hq) (World.putObj_heap_same hlt)).drop
    have hs5:Sym w0 M I0 I' (NP (w.heap.size :: ds) :: (l2++mr)) (w'.putObj (w.heap.size+1) (.loop { TN rc js j with state:=.exhausted })):=by refine Sym.marksCons.2 (hup.perm ?_);have a1:=Al1 (l₁:=l2) (l₂:=NP ds :: mr) (a:=pto w.heap.size (.deferred (some [])));have a2:=Al1 (l₁:=l2) (l₂:=mr) (a:=NP ds);exact a1.trans (a2.cons _)
    have ho':Ok ⟨k,w.heap.size :: ds,none⟩ E { a with defers:=[mkM w.heap.size]++a.defers }:=⟨ho.size,by simp[ho.defers,FrK.defs],ho.env.defers _⟩
    cases j with
    | zero=>exact hn rfl _ _ ho' hs5
    | succ i=>
      have⟨c,hc,hcod⟩:=hj i rfl;have e:(TN rc js (i+1)).pending=some c:=hc;have hcod':=hcod _ _ ho' hs5;simp only[e] at hcod' ⊢;exact hcod'
end
section
variable {w0 w:World} {M:Nat→Prop} {I0 I:IH} {m m':List HA}
variable {P:Program} {n:FrK} {E:DF} {S:World→Prop} {Q:Exit→Act→World→Prop} {ops:Array Oper} {l:List Oper}
variable {d ty:Nat} {pos:String} {af:Array Edge} {T e:TypeId} {x y:Operand}
/-! ### On behind a piece -/
variable {Q':Exit→Act→World→Prop}
def AoJ:List Nat->DF->DF->Option DF
 | [],_,acc=>some acc
 | k :: ks,E,acc=>match look E k with
  | some v=>AoJ ks E ((k,v) :: acc)
  | none=>none
def Ax2 (m:Nat):Nat->Bool
 | 0=>Nat.beq (Nat.land m 1) 1
 | k+1=>Nat.beq (Nat.land (Nat.shiftRight m (k+1)) 1) 1
def selN (m:Nat):DF->DF->Option DF
 | [],acc=>some acc
 | (k,v) :: E,acc=>bif Ax2 m k then selN m E ((k,v) :: acc) else selN m E acc
theorem EnvOk.selN {m:Nat} {a:Act}:∀ {E D E':DF},selN m E D=some E'->EnvOk E a->EnvOk D a->EnvOk E' a
 | [],_,_,h,_,ha=>by simp only[Fw.selN,Ad0] at h; subst h; exact ha
 | (k,v) :: E,D,E',h,he,ha=>by
  simp only[Fw.selN] at h
  cases J:Ax2 m k with
  | true=>rw[J] at h; exact EnvOk.selN h he.2 ⟨he.1,ha⟩
  | false=>rw[J] at h; exact EnvOk.selN h he.2 ha
theorem Ok.selN {m:Nat} {E':DF} {a:Act} (D:Ok n E a) (h:selN m E []=some E'):Ok n E' a:=⟨D.size,D.defers,EnvOk.selN h D.env trivial⟩
theorem Ops.nilS {y:Code} {E':DF} (V:Nat) (D:selN V E []=some E') (O:(λa w=>Q .normal a w)=λa w=>y.wpIn (WM n) 0 P Q' a w) (h:Cod P y n E' S Q'):Ops P ops [] n E S Q:=
 Ops.nil' λa w U J=>(congrFun (congrFun O a) w).mpr (h a w (U.selN D) J)
theorem Cod.skipS {y:Code} {E':DF} (V:Nat) (D:selN V E []=some E') (O:(λa w=>Q .normal a w)=λa w=>y.wpIn (WM n) 0 P Q' a w) (h:Cod P y n E' S Q'):Cod P .skip n E S Q:=
 Cod.skip' λa w U J=>(congrFun (congrFun O a) w).mpr (h a w (U.selN D) J)
theorem Cod.labelS {y:Code} {k:Nat} {E':DF} (V:Nat) (D:selN V E []=some E') (O:(λa w=>Q .normal a w)=λa w=>y.wpIn (WM n) 0 P Q' a w) (h:Cod P y n E' S Q'):Cod P (.label k) n E S Q:=
 Cod.label' λa w U J=>(congrFun (congrFun O a) w).mpr (h a w (U.selN D) J)
theorem Cod.exitS {y:Code} {k:Nat} {E':DF} (V:Nat) (D:selN V E []=some E') (O:(λa w=>Q (.exit k) a w)=λa w=>y.wpIn (WM n) 0 P Q' a w) (h:Cod P y n E' S Q'):Cod P (.exit k) n E S Q:=
 Cod.exit λa w U J=>(congrFun (congrFun O a) w).mpr (h a w (U.selN D) J)
theorem Nrm.mkS {y:Code} {E':DF} (V:Nat) (D:selN V E []=some E') (O:(λa w=>Q .normal a w)=λa w=>y.wpIn (WM n) 0 P Q' a w) (h:Cod P y n E' S Q'):Nrm n E S Q:=
 λa w U J=>(congrFun (congrFun O a) w).mpr (h a w (U.selN D) J)
theorem CR {G:Prop} {b:Bool} {A B:Prop} (h:A5 b A B) (D:b=true->A->G) (J:b=false->B->G):G:=by
 cases b
 . exact J rfl (h.2 rfl)
 . exact D rfl (h.1 rfl)
theorem Cod.condP {c:Operand} {x y:Code} {t:Bool} {A B:Prop} (J:ev E c=some (.bool t)) (D:A5 t A B) (U:t=true->A->Cod P x n E S Q) (O:t=false->B->Cod P y n E S Q):Cod P (.cond c x y) n E S Q:=
 Cod.cond J (λh=>U h (D.1 h)) (λh=>O h (D.2 h))
def As9 (ops:Array Oper) (E:DF):Option (Nat×Bool)->Option Bool
 | none=>some true
 | some (j,b)=>match pR ops j with
  | none=>none
  | some s=>match look E s with
   | some (.bool c)=>some (!Bool.xor c b)
   | some (.tuple _)=>some false
   | _=>none
theorem Ops.callP {g:FuncId} {args:List Operand} {vs:List Value} {J:Array TypeId} {ψ:Value->Prop} (W:∀ as w,(callFunc g as).run P w=.ok (.enter g as) w)
  (ha:evs E args=some vs) (hf:B6 P g vs I λ_=>ψ) (Z:Nat.blt d n.sz=true) (U:fresh E d=true)
  (k:∀ v,ψ v->Ops P ops l n ((d,v) :: E) (Sym w0 M I0 I m) Q) :
  Ops P ops (⟨some d,.call ⟨.value (.func g),args.toArray,J⟩,ty,pos,af,none⟩ :: l) n E (Sym w0 M I0 I m) Q:=by
 intro c w D V;refine wpListIn_plain rfl λ_ hK=>?_;refine kC (Enters.f (P:=P) (n:=n) (E:=E) (S:=λ_=>True) W ha (some d) J ty pos af c w D trivial) (by simp) ?_;simp only[Oper.uponIn];refine⟨λh=>(by cases h),oB ((hf w (λ_=>none) V.imm trivial (λ_ _ x=>nomatch x) (λ_=>.inr rfl)).mono λ_ _ O=>?_)⟩;obtain⟨v,_,_,rfl,_,⟨_,hψ⟩,hs'⟩:=O;exact hK _ _ (k v hψ _ _ (D.put Z U v) (V.grown ⟨hs'.base.os,hs'.base.tape,hs'.base.output,hs'.base.drawn,hs'.base.size,λb h1 _=>hs'.base.block b h1 (by simp)⟩))
theorem r.{u} {α:Sort u} {a:α}:a=a:=rfl
end
section
variable {w0 w:World} {M:Nat→Prop} {I0 I:IH} {m m':List HA}
variable {P:Program} {n:FrK} {E:DF} {S:World→Prop} {Q:Exit→Act→World→Prop} {ops:Array Oper} {l:List Oper}
variable {d ty:Nat} {pos:String} {af:Array Edge}
/-! ### Values by reckoning -/
variable {ex l0:List HA}
def AoK (P:Program) (T i o:Nat):Prop:=∃ (h:Array Field) (f:Field) (s:Nat),P.underlying T=some (.struct h)∧h[i]? = some f∧(∀ w,(sizeOf f.type).run P w=.ok (s+1) w)∧f.offset=o
def FOk (P:Program) (T:Nat):Nat->List Nat->Prop
 | _,[]=>True
 | i,o :: os=>AoK P T i o∧FOk P T (i+1) os
def AllOk (P:Program):List (Nat×List Nat)->Prop
 | []=>True
 | p :: r=>FOk P p.1 0 p.2∧AllOk P r
def tbL:List (Nat×List Nat)->Nat->Nat->Option Nat
 | [],_,_=>none
 | p :: r,T,i=>bif Nat.beq p.1 T then p.2[i]? else tbL r T i
theorem FOk.get {P:Program} {T:Nat}:∀ {D:List Nat} {k i o:Nat},FOk P T k D->D[i]? = some o->AoK P T (k+i) o
 | [],_,_,_,_,h=>by simp at h
 | _ :: _,k,0,_,h,e=>by simp only[AnE,Ad0] at e; subst e; exact h.1
 | _ :: _,k,i+1,_,h,e=>by rw[AnN] at e;have:=FOk.get h.2 e;grind
theorem AllOk.get {P:Program}:∀ {L:List (Nat×List Nat)} {T i o:Nat},AllOk P L->tbL L T i=some o->AoK P T i o
 | [],_,_,_,_,h=>by cases h
 | p :: r,T,i,o,h,e=>by
  simp only[tbL] at e
  cases D:Nat.beq p.1 T with
  | true=>rw[D] at e; have:=FOk.get h.1 e; simp_all
  | false=>rw[D] at e; exact AllOk.get h.2 e
section
variable (tb:List (Nat×List Nat))
def pv2 (q:IntKind) (a b:Int):BinOp->Option Value
 | .add=>some (.int q (q.wrap (a+b)))
 | .sub=>some (.int q (q.wrap (a - b)))
 | .mul=>some (.int q (q.wrap (a*b)))
 | .and=>some (.int q (TI q a b))
 | .or=>some (.int q (bor q a b))
 | .xor=>some (.int q (AwY q a b))
 | .andNot=>some (.int q (AuJ q a b))
 | .eql=>some (.bool (a==b))
 | .neq=>some (.bool (a != b))
 | .lss=>some (.bool (decide (a<b)))
 | .leq=>some (.bool (decide (a<=b)))
 | .gtr=>some (.bool (decide (b<a)))
 | .geq=>some (.bool (decide (b<=a)))
 | _=>none
def pv (E:DF):Op->Option Value
 | .move x=>ev E x
 | .assign x=>ev E x
 | .pick c x y=>match ev E c with
  | some (.bool b)=>bif b then ev E x else ev E y
  | _=>none
 | .extract x i=>match ev E x with
  | some (.tuple vs)=>vs[i]?
  | _=>none
 | .binOp h _ x y _=>match ev E x with
  | some (.int q a)=>match ev E y with
   | some (.int q' b)=>if q=q' then pv2 q a b h else none
   | _=>none
  | _=>none
 | .unOp .not _ x=>match ev E x with
  | some (.bool b)=>some (.bool (!b))
  | _=>none
 | .nilCheck x=>match ev E x with
  | some (.pointer (some p))=>some (.pointer (some p))
  | _=>none
 | .fieldAddr T x i=>match tbL tb T i with
  | some o=>match ev E x with
   | some (.pointer (some ⟨b,off,none⟩))=>some (.pointer (some ⟨b,off+o,none⟩))
   | _=>none
  | none=>none
 | _=>none
end
theorem Av8 {tb:List (Nat×List Nat)} (ht:AllOk P tb) {o:Oper} {v:Value} {a:Act} (h:pv tb E o.op=some v) (D:Ok n E a):(execOp a.eval o).run P w=.ok (.value v) w:=by
 have⟨_,O,_,_,_,_⟩:=o;simp only at h;cases O <;> simp only[pv] at h
 case move x=>simp[execOp,D.eval h]
 case assign x=>simp[execOp,D.eval h]
 case pick c x y=>
  split at h
  . rename_i b V
    cases b with
    | true=>simp only[cond_true] at h; simp[execOp,D.eval V,D.eval h,asBool]
    | false=>simp only[cond_false] at h; simp[execOp,D.eval V,D.eval h,asBool]
  . cases h
 case extract x i=>
  split at h
  . rename_i vs J; simp[execOp,D.eval J,Instr.extract,h]
  . cases h
 case binOp O T x y T'=>
  split at h
  . rename_i q a J;split at h
    . rename_i q' b hy;split at h
      . rename_i W; subst W;have hg:(eqGuard O T x y (.int q a) (.int q b)).run P w=.ok () w:=by unfold eqGuard; cases O <;> rfl
        have hr:(Go.binOp O T (.int q a) (.int q b)).run P w=.ok v w:=by cases O <;> simp only[pv2] at h <;> cases h <;> simp[Go.binOp,Op.intArith,Op.intBits,Op.intCmp,TI,bor,AwY,AuJ]
        simp only[execOp,D.eval J,D.eval hy,Sem.run_bind,hg,Result.andThen_ok,hr,Sem.run_pure]
      . cases h
    . cases h
  . cases h
 case nilCheck x=>
  split at h
  . rename_i p J; cases h; simp[execOp,D.eval J]
  . cases h
 case fieldAddr T x i=>
  split at h
  . rename_i o' U;split at h
    . rename_i b off J;cases h;obtain⟨_,f,_,hT,hi,Z,rfl⟩:=ht.get U;have e:(⟨b,off,none⟩:Addr).add f.offset=⟨b,off+f.offset,none⟩:=by unfold Addr.add; split <;> simp_all
      simp[execOp,D.eval J,Instr.fieldAt,run_underlying hT,hi,Instr.sureAddr,fieldPlace,Z,e]
    . cases h
  . cases h
 case unOp O T x=>
  cases O <;> simp only at h
  case not=>
    split at h
    . rename_i b J; cases h; simp[execOp,D.eval J,Op.unary]
    . cases h
  all_goals cases h
 all_goals cases h
def rmS (d:Nat):DF->Option DF
 | []=>some []
 | p :: r=>match rmS d r with
  | some h=>bif Nat.beq p.1 d then some h else some (p :: h)
  | none=>none
theorem AoL:∀ {E E':DF},rmS d E=some E'->E'=rmE d E
 | [],_,h=>by cases h; rfl
 | p :: r,E',h=>by
  simp only[rmS] at h;split at h
  . rename_i O D;have:=AoL D; subst this;cases J:Nat.beq p.1 d <;> rw[J] at h <;> cases h <;> simp[rmE,J]
  . cases h
def AlA (n:FrK) (d:Nat) (v:Value) (E:DF):Option DF:=
 bif Nat.blt d n.sz then (bif fresh E d then some ((d,v) :: E) else match rmS d E with
  | some E'=>some ((d,v) :: E')
  | none=>none) else none
theorem AiZ {v:Value} {E':DF} {a:Act} (h:AlA n d v E=some E') (D:Ok n E a):Ok n E' (a.put (some d) v):=by
 unfold AlA at h
 cases O:Nat.blt d n.sz with
 | false=>rw[O] at h; cases h
 | true=>
  rw[O] at h
  cases U:fresh E d with
  | true=>rw[U] at h; cases h; exact D.put O U v
  | false=>
   rw[U] at h; simp only[cond_true,cond_false] at h;split at h
   . rename_i V J;cases h;have:=AoL J; subst this;exact Ok.put ⟨D.size,D.defers,AaR d D.env⟩ O (dH d E) v
   . cases h
def stepX (tb:List (Nat×List Nat)) (ops:Array Oper) (n:FrK) (o:Oper) (E:DF):Option DF:=
 match As9 ops E o.guard with
 | none=>none
 | some false=>match o.dst with
  | none=>some E
  | some d=>AlA n d undef E
 | some true=>match o.dst with
  | none=>none
  | some d=>match pv tb E o.op with
   | none=>none
   | some v=>AlA n d v E
theorem qA {o:Oper} {b:Bool} {a:Act} (h:As9 ops E o.guard=some b) (O:Ok n E a):Region.wanted o (yielded ops a.tmps)=b:=by
 unfold As9 at h;unfold Region.wanted;split at h
 . grind
 . rename_i j W V;split at h
   . cases h
   . rename_i s J;split at h
     . rename_i c D;have U:=hZ (ops:=ops) J (O.env.look D);grind
     . rename_i t D
       have U:yielded ops a.tmps j=none:=by have h:=O.env.look D;simp only[pR] at J;simp[yielded,J,h]
       cases h; simp[V,U]
     . cases h
theorem tE {tb:List (Nat×List Nat)} (W:AllOk P tb) {o:Oper} {E':DF} (h:stepX tb ops n o E=some E') (k:Ops P ops l n E' S Q):Ops P ops (o :: l) n E S Q:=by
 intro a w D O;unfold stepX at h;unfold wpListIn;split at h
 . cases h
 . rename_i U;rw[qA U D,if_neg (by simp)];split at h
   . rename_i J; cases h;refine⟨λ_ _=>trivial,?_⟩;simp only[J];exact k _ _ D O
   . rename_i d J;refine⟨λ_ _=>trivial,?_⟩;simp only[J];exact k _ _ (AiZ h D) O
 . rename_i U;rw[qA U D,if_pos rfl];split at h
   . cases h
   . rename_i d J;split at h
     . cases h
     . rename_i v V;refine kC (Av8 W V D) (by simp) ?_;simp only[Oper.uponIn,J];exact k _ _ (AiZ h D) O
def tF (tb:List (Nat×List Nat)) (ops:Array Oper) (n:FrK):Nat->List Oper->DF->Option (List Oper×DF)
 | 0,l,E=>some (l,E)
 | _+1,[],_=>none
 | k+1,o :: l,E=>match stepX tb ops n o E with | some E'=>tF tb ops n k l E' | none=>none
theorem Ops.ksT {tb:List (Nat×List Nat)} (O:AllOk P tb) {D:List Oper} {E':DF} (k:Nat) (h:tF tb ops n k l E=some (D,E')) (J:Ops P ops D n E' S Q):Ops P ops l n E S Q:=by
 induction k generalizing l E with
 | zero=>grind[tF]
 | succ k U=>
  cases l with
  | nil=>cases h
  | cons o l=>
   grind[tF,tE]
theorem Cod.sr {id:Nat} {l:List Oper} {y:Code} (h:Ops P l.toArray l n E S (Exit.then (y.wpIn (WM n) 0 P Q) Q)):Cod P (.seq (.region id l.toArray false) y) n E S Q:=Cod.seq (Cod.region h)
def Aj0 (tb:List (Nat×List Nat)) (ops:Array Oper) (n:FrK) (E:DF) (o:Oper):Option (Nat×Value):=
 match o.dst with
 | none=>none
 | some d=>bif Nat.blt d n.sz && fresh E d then (match As9 ops E o.guard with
  | none=>none
  | some false=>some (d,undef)
  | some true=>match pv tb E o.op with
   | none=>none
   | some v=>some (d,v)) else none
theorem kM {tb:List (Nat×List Nat)} (V:AllOk P tb) {o:Oper} {v:Value} (h:Aj0 tb ops n E o=some (d,v)):o.dst=some d∧Ops P ops [o] n E S (Fin n S d v):=by
 unfold Aj0 at h;split at h
 . cases h
 . rename_i J O
   cases Z:(Nat.blt J n.sz && fresh E J) with
   | false=>rw[Z] at h; cases h
   | true=>
    rw[Z] at h;rw[aR] at Z;simp only[cond_true] at h;have D:∀ u,AlA n J u E=some ((J,u) :: E):=λu=>by simp[AlA,Z.1,Z.2]
    split at h
    . cases h
    . rename_i U; cases h;exact⟨O,tE V (by unfold stepX; rw[U]; simp only[O]; exact D _) Fin.mk⟩
    . rename_i U;split at h
      . cases h
      . rename_i v' W; cases h;exact⟨O,tE V (by unfold stepX; rw[U]; simp only[O,W]; exact D _) Fin.mk⟩
def so:List Nat->List (Option Nat)
 | []=>[]
 | i :: r=>(bif Nat.beq i 999 then none else some i) :: so r
def aY:List HA->List HA->List HA
 | [],ex=>ex
 | A :: r,ex=>A :: aY r ex
theorem kN {X:HA} :∀ {r:List HA},Del (aY r (X :: ex)) X (aY r ex)
 | []=>.z
 | _ :: _=>.s kN
theorem AdH:∀ {r:List HA},r=aY r []
 | []=>rfl
 | A :: _=>congrArg (A :: ·) AdH
def AuN (P:Program) (n:FrK) (l:List Oper) (cs:List (Option Nat)) (t:Nat):Bool:=
 P.follows .mixedOrders && (iA n (l.take t) [] && (iB l 0 && (WN (l.drop t) t && (tB (T7 cs) && (Nat.ble t l.length && ((T7 cs).all (Nat.blt · t) && QZ (T7 cs) t))))))
theorem Cod.dr {id:Nat} {l:List Oper} (cs:List Nat) (t:Nat) (h:DrawD P l.toArray n Q w0 M I0 E (so cs) [] [] [] [] I (aY l0))
  (D:AuN P n l (so cs) t=true:=by kernel_rfl):Cod P (.region id l.toArray true) n E (Sym w0 M I0 I l0) Q:=by
 unfold AuN at D;simp only[aR] at D;have⟨U,h1,Z,V,h4,W,J,O⟩:=D;exact Cod.draw (so cs) t U h1 Z V h4 W J O (aY l0) (λ_ _=>kN) AdH h
section
variable {cs:List (Option Nat)} {c:Nat} {dn:HX} {X pend:List Nat} {as:List AS} {L:Sh} {o:Oper} {v:Value}
theorem DrawD.g (O:ops[c]? = some o) (J:o.dst=some d) (D:fresh E d=true) (h:∀ ex,Ops P ops [o] n (JI dn (EX o) E) (Sym w0 M I0 I (L ex)) (Fin n (Sym w0 M I0 I (L ex)) d v))
 (k:DrawD P ops n Q w0 M I0 E cs ((c,d,v) :: dn) (c :: X) (c :: pend) as I L):DrawD P ops n Q w0 M I0 E (some c :: cs) dn X pend as I L:=DrawD.f (EX o) O rfl J D h k
def AoM (tb:List (Nat×List Nat)) (ops:Array Oper) (n:FrK) (E:DF):Nat->List (Option Nat)->HX->List Nat->List Nat->Option (List (Option Nat)×HX×List Nat×List Nat)
 | 0,cs,dn,X,pd=>some (cs,dn,X,pd)
 | k+1,some c :: cs,dn,X,pd=>match ops[c]? with
  | none=>none
  | some o=>match Aj0 tb ops n (JI dn (EX o) E) o with
   | none=>none
   | some (d,v)=>bif fresh E d then AoM tb ops n E k cs ((c,d,v) :: dn) (c :: X) (c :: pd) else none
 | _+1,_,_,_,_=>none
theorem DrawD.fkT {tb:List (Nat×List Nat)} (W:AllOk P tb) {J:List (Option Nat)} {D:HX} {U O:List Nat} (k:Nat) (h:AoM tb ops n E k cs dn X pend=some (J,D,U,O)) (kk:DrawD P ops n Q w0 M I0 E J D U O as I L):DrawD P ops n Q w0 M I0 E cs dn X pend as I L:=by
 induction k generalizing cs dn X pend with
 | zero=>grind[AoM]
 | succ k ih=>
  match cs,h with
  | some c :: cs,h=>
   simp only[AoM] at h;split at h
   . cases h
   . rename_i o a2;split at h
     . cases h
     . rename_i d v V
       cases Z:fresh E d with
       | false=>rw[Z] at h; cases h
       | true=>
        rw[Z] at h;exact DrawD.g a2 (kM (P:=P) (S:=λ_=>True) W V).1 Z (λ_=>(kM W V).2) (ih h)
  | none :: _,h=>cases h
  | [],h=>cases h
def AsA (ops:Array Oper):Nat->List Nat->List Nat
 | 0,A=>A
 | i+1,A=>AsA ops i (bif L6 A i then (match ops[i]? with | some o=>EX o++A | none=>A) else A)
def Av9 (ops:Array Oper) (c:Nat):List Nat:=match ops[c]? with
 | some o=>AsA ops c (EX o)
 | none=>[]
theorem Aj1 {c:Nat}:∀ (i:Nat) {A:List Nat},(∀ f∈A,∃ k,anc ops k f c=true)->∀ f∈AsA ops i A,∃ k,anc ops k f c=true
 | 0,_,h=>h
 | i+1,A,h=>by
  unfold AsA;refine Aj1 i ?_
  cases O:L6 A i with
  | false=>exact h
  | true=>
   simp only[cond_true];split
   . rename_i o J;intro f D;rcases List.mem_append.1 D with D | D
     . have⟨k,hk⟩:=h i (EO.1 O);exact AoA (p:=i) (by unfold kE; rw[J]; exact EO.2 D) hk
     . exact h f D
   . exact h
theorem AsB {c:Nat}:∀ f∈Av9 ops c,∃ k,anc ops k f c=true:=by
 unfold Av9;split
 . rename_i o D;exact Aj1 _ λf h=>⟨1,Ad7 (by unfold kE; rw[D]; exact EO.2 h)⟩
 . intro f h; cases h
def AoN (A:List Nat):List Nat->List Nat
 | []=>[]
 | f :: r=>bif L6 A f then AoN A r else f :: AoN A r
theorem AaU {c:Nat} {A:List Nat} (J:∀ f∈A,∃ k,anc ops k f c=true):∀ {pend:List Nat},AgB ops c (AoN A pend) pend
  | [],f,D=>nomatch D
  | g :: r,f,D=>by
    unfold AoN
    cases O:L6 A g with
    | true=>
      cases D with
      | head=>exact .inr (J _ (EO.1 O))
      | tail _ D=>simp only[cond_true]; exact AaU J f D
    | false=>
      simp only[cond_false]
      cases D with
      | head=>exact .inl (by simp)
      | tail _ D =>
        rcases AaU J f D with h | h
        . exact .inl (gV _ h)
        . exact .inr h
def wB (ops:Array Oper) (as X:List Nat) (c:Nat) (o:Oper) (E:DF):Bool:=dG ops.toList (as++X) c 0 && (match o.dst with | none=>true | some d=>fresh E d)
theorem DrawD.ww (O:ops[c]? = some o) (h:∀ {ex},Ops P ops [o] n (JI dn (EX o) E) (Sym w0 M I0 I (L ex)) (WPost P ops n E Q w0 M I0 o c cs dn X (AoN (Av9 ops c) pend) as ex))
  (D:wB ops (O3 as) X c o E=true:=by kernel_rfl):DrawD P ops n Q w0 M I0 E (some c :: cs) dn X pend as I L:=by
 unfold wB at D;simp only[aR] at D
 have J:XA o E=E:=by unfold XA;grind
 exact⟨o,O,.inr (.inr ⟨D.1,.inr J,_,AaU AsB,by rw[J]; exact λ_=>h⟩)⟩
def tkL:Nat->List HA->Option (List HA)
 | 0,_=>some []
 | _+1,[]=>none
 | k+1,A :: l=>match tkL k l with
  | some r=>some (A :: r)
  | none=>none
theorem WPost.so {h:List Nat} {E':DF} {D:List HA} (O:Nat) (V:tkL O l0=.some D) (J:aY D ex=l0) (U:o.dst=.some d) (hp:PendL P ops n E ((c,d,v) :: dn) (λex=>Sym w0 M I0 I (aY D ex)) h)
  (k:DrawD P ops n Q w0 M I0 E cs ((c,d,v) :: dn) (c :: X) h as I (aY D)):Ops P ops [] n ((d,v) :: E') (Sym w0 M I0 I l0) (WPost P ops n E Q w0 M I0 o c cs dn X h as ex):=
 WPost.some (aY D) J.symm (λ_ _=>kN) U hp k
theorem WPost.sn {h:List Nat} {E':DF} {D:List HA} (O:Nat) (V:tkL O l0=.some D) (J:aY D ex=l0) (U:o.dst=.none) (hp:PendL P ops n E dn (λex=>Sym w0 M I0 I (aY D ex)) h)
  (k:DrawD P ops n Q w0 M I0 E cs dn (c :: X) h as I (aY D)):Ops P ops [] n E' (Sym w0 M I0 I l0) (WPost P ops n E Q w0 M I0 o c cs dn X h as ex):=
 WPost.none (aY D) J.symm (λ_ _=>kN) U hp k
theorem DrawD.e2 (t:Nat) (k:Ops P ops (ops.toList.drop t) n (Ao9 dn E) (Sym w0 M I0 I (L [])) Q) (h:(QZ X t && (X.all (Nat.blt · t) && WN (ops.toList.drop t) t))=true:=by kernel_rfl):DrawD P ops n Q w0 M I0 E [] dn X pend [] I L:=by simp only[aR] at h;exact DrawD.e t h.1 h.2.1 h.2.2 k
theorem PendL.cg {S:List HA->World->Prop} {f:Nat} {J:List Nat} (U:ops[f]? = some o) (V:o.dst=some d) (D:fresh E d=true) (O:I8 dn f=some (d,v)) (h:∀ ex,Ops P ops [o] n (JI dn (EX o) E) (S ex) (Fin n (S ex) d v))
 (k:PendL P ops n E dn S J):PendL P ops n E dn S (f :: J):=⟨⟨o,d,v,U,V,D,O,h⟩,k⟩
def AoO (tb:List (Nat×List Nat)) (ops:Array Oper) (n:FrK) (E:DF) (dn:HX):Nat->List Nat->Option (List Nat×List (Option (Nat×Value))×List (Option (Nat×Value)))
 | 0,fs=>some (fs,[],[])
 | k+1,f :: fs=>match ops[f]? with
  | none=>none
  | some o=>match Aj0 tb ops n (JI dn (EX o) E) o with
   | none=>none
   | some dv => bif fresh E dv.1 then (match AoO tb ops n E dn k fs with
    | none=>none
    | some (g,A,B)=>some (g,I8 dn f :: A,some dv :: B)) else none
 | _+1,[]=>none
theorem PendL.ckT {tb:List (Nat×List Nat)} (U:AllOk P tb) {S:List HA->World->Prop} {g:List Nat} {A B:List (Option (Nat×Value))} (k:Nat) {J:List Nat} (h:AoO tb ops n E dn k J=some (g,A,B)) (D:A=B) (kk:PendL P ops n E dn S g):PendL P ops n E dn S J:=by
 induction k generalizing J A B with
 | zero=>grind[AoO]
 | succ k W=>
  cases J with
  | nil=>cases h
  | cons f J=>
   simp only[AoO] at h;split at h
   . cases h
   . rename_i o V;split at h
     . cases h
     . rename_i dv O;have⟨d,_⟩:=dv
       cases Z:fresh E d with
       | false=>rw[Z] at h; cases h
       | true=>
        rw[Z] at h;simp only[cond_true] at h;split at h
        . cases h
        . rename_i g' A' B' a2;simp only[Ad0,yG] at h;obtain⟨rfl,rfl,rfl⟩:=h;simp only[Ad1] at D;exact PendL.cg V (kM (P:=P) (S:=λ_=>True) U O).1 Z D.1 (λ_=>(kM U O).2) (W a2 D.2)
end
end
section
variable {w0 w:World} {M:Nat→Prop} {I0 I:IH} {m m':List HA}
variable {P:Program} {n:FrK} {E:DF} {S:World→Prop} {Q:Exit→Act→World→Prop} {ops:Array Oper} {l:List Oper}
variable {d ty:Nat} {pos:String} {af:Array Edge} {T e:TypeId} {x y:Operand} {α:Type} {a:Option Addr} {cap:Nat}
theorem AgJ {c:Int} (h:0<=c) (D:c<=140737488355328):IntKind.i64.wrap c=c:=by rw[IntKind.wrap_i64]; omega
def grP (B:Nat) (c:Int) (K:Prop):Prop:=0<c∧c*B<=140737488355328∧K
theorem oF {U ty' sT:TypeId} {i:TypeInfo} {h:Value} {B s:Nat} {c:Int} {qk q:IntKind} (hT:P.underlying sT=some (.slice e)) (a4:P.underlying U=some (.int qk)) (hi:P.info? e=some i)
    (hs:i.size=s) (O:i.bytes=B) (hz:i.zero=some h) (h0:0<c) (a6:c*B<=140737488355328) (a9:0<B) :
    ∃ J V z,c.toNat<=J∧w.drawn<=V∧z.size=(if c.toNat*s=0 then 0 else c.toNat*h.cells.size)∧(Builtin.append_ #[sT,U] ty' #[.slice none 0 0,.int q c]).run P w =
      .ok (.slice (some ⟨w.heap.size,0,none⟩) c.toNat J) (({ w with drawn:=V }:World).alloc (.cells (z++Builtin.zeroCells h.cells (J - c.toNat)) e)):=by
  have hc:c<=140737488355328:=by have:c*1<=c*(B:Int):=AuF (by omega) (by omega);omega
  have hw:=AgJ (by omega:0<=c) hc;obtain⟨N,rfl⟩:∃ N:Nat,c=(N:Int):=⟨c.toNat,by omega⟩
  have a7 : N * B <= 140737488355328 := by
    have a8 : ((N * B : Nat) : Int) <= 140737488355328 := by rw[Int.natCast_mul]; exact a6
    omega
  have a5:∀ w,(sizeOf e).run P w=.ok s w:=λw=>by simp[sizeOf,typeInfo,hi,hs]
  have D:∀ w,(typeInfo e).run P w=.ok i w:=λw=>by simp[typeInfo,hi]
  have a2:∀ w,(zeroValue e).run P w=.ok h w:=λw=>by simp[zeroValue,D,hz]
  have b0:=growslice_fits (need:=N) (old:=0) (by omega) a7;have g0:¬((N:Int)<0):=by omega
  have W:¬(281474976710656<(N:Int)*(B:Int)):=by omega
  have Z:¬(281474976710656<Builtin.nextslicecap N 0*B):=by omega
  have g3:¬(9223372036854775807<(N:Int)):=by omega
  have g4:¬(N=0):=by omega
  have hq:(Question.appendCap N 0 e).forced=false:=rfl;refine⟨(Question.appendCap N 0 e).cut (w.tape w.drawn (Question.appendCap N 0 e)),w.drawn+1,if N*s=0 then #[] else Builtin.zeroCells h.cells N,(by show N<=_; exact Nat.le_add_right _ _),AiR _,?_,?_⟩
  . simp only[VK]; split <;> simp[Builtin.zeroCells]
  have a3:IntKind.i64.max=9223372036854775807:=rfl;simp only[Builtin.append_,AaH,AnE,AnN,Sem.run_bind,run_underlying hT,run_underlying a4,Result.andThen_ok,Sem.run_pure,a5,asInt,asIntOf,hw,g0,if_false,if_true,D,O,a3,VK,aT];by_cases hns:N*s=0
  . simp[hq,a2,newRow,W,Z,g3,g4,hns,Builtin.firstCells,D,O]
  . simp[hq,a2,newRow,W,Z,g3,g4,hns,Builtin.firstCells,D,O]
theorem Ops.growN {T' sT:TypeId} {i:TypeInfo} {Z:Value} {O:Array TypeId} {c:Int} {q qk:IntKind} (El:EB α) (B:Nat) (hT:P.underlying sT=some (.slice e)) (a6:P.underlying T'=some (.int qk)) (hi:P.info? e=some i)
  (a4:i.size=El.sz) (hB:i.bytes=B) (hz:i.zero=some Z) (a2:Z.cells.size=El.sz) (a5:Nat.blt 0 B=true) (a3:O = #[sT,T']) (V:ev E x=some (.slice none 0 0)) (hy:ev E y=some (.int q c))
  (h0:0<c) (h1:c*B<=140737488355328) (hb:Nat.blt d n.sz=true) (hf:fresh E d=true)
  (k:∀ b D,c.toNat<=D->Ops P ops l n ((d,.slice (some ⟨b,0,none⟩) c.toNat D) :: E) (Sym w0 M I0 I (OwnSl El e (some ⟨b,0,none⟩) D [] :: m)) Q) :
  Ops P ops (⟨some d,.call ⟨.builtin .append,#[x,y],O⟩,ty,pos,af,none⟩ :: l) n E (Sym w0 M I0 I m) Q:=
 Ops.valx (λv w'=>∃ b D,v=.slice (some ⟨b,0,none⟩) c.toNat D∧c.toNat<=D∧Sym w0 M I0 I (OwnSl El e (some ⟨b,0,none⟩) D [] :: m) w') rfl rfl
  (λcc w W U=>by
   have⟨D,dr,z,J,a7,a8,hr⟩:=oF (w:=w) (ty':=ty) (q:=q) hT a6 hi a4 hB hz h0 h1 (by simpa[Nat.blt_eq] using a5);subst a3;refine⟨_,_,?_,w.heap.size,D,rfl,J,((U.drew dr a7).alloc _).weaken λq hq=>.inr ⟨w.heap.size,(z++Builtin.zeroCells Z.cells (D - c.toNat)),rfl,hq,by simp,?_,λi x V=>by simp at V⟩⟩
   . have e:(#[x,y].map cc.eval) = #[.slice none 0 0,.int q c]:=by simp[W.eval V,W.eval hy]
     simp only[execOp,resolve,e,Sem.run_bind,Sem.run_pure,Result.andThen_ok,invoke,builtin,hr]
   . simp only[Array.size_append,a8,AaO _ a2,a2];split
     . rename_i h;rcases Nat.mul_eq_zero.1 h with h | h
       . omega
       . simp[h]
     . rw[<-WL]; congr 1; omega) hb hf
  (λv c w W ⟨b,D,hv,J,U⟩=>by subst hv; exact k b D J c w W U)
theorem Ops.slZ {S:World->Prop} {s k:Nat} {q:IntKind} (Z:P.underlying T=some (.slice e)) (V:∀ w,(sizeOf e).run P w=.ok s w) (U:ev E x=some (.slice a k cap)) (hy:ev E y=some (.int q 0)) (hk:k<=cap)
  (ha:a.map (·.add 0)=a) (J:Nat.blt d n.sz=true) (W:fresh E d=true) (O:Ops P ops l n ((d,.slice a 0 cap) :: E) S Q):Ops P ops (⟨some d,.slice T x none (some y) none,ty,pos,af,none⟩ :: l) n E S Q:=
 Ops.val rfl rfl (λ_ w h _=>by have D:=sV (P:=P) (a:=a) (cap:=cap) (L:=0) (H:=0) (k:=k) (lo:=none) (hi:=some (.int q 0)) Z V (YG _) (sU _) hk (.inl ⟨rfl,rfl⟩) (.inr ⟨q,0,rfl,by omega,rfl⟩) w;simp only[Ag7,Ad3,ha,ite_self] at D;simp only[execOp,h.eval U,Ag3,AiG,h.eval hy,Sem.run_bind,D,Result.andThen_ok,Sem.run_pure]) J W O
theorem AoP {b:Nat}:(some (⟨b,0,none⟩:Addr)).map (·.add 0)=some ⟨b,0,none⟩:=by simp[Addr.add]
end
section
variable {w0 w:World} {M:Nat→Prop} {I0 I:IH} {m m':List HA}
variable {P:Program} {n:FrK} {E:DF} {S:World→Prop} {Q:Exit→Act→World→Prop} {ops:Array Oper} {l:List Oper}
variable {d ty:Nat} {pos:String} {af:Array Edge} {T e:TypeId} {x y:Operand} {α:Type} {El:EB α} {a:Option Addr} {cap:Nat} {xss:List (List α)}
variable {hs:List (Option Addr×Nat)}
abbrev Hd:=Option Addr×Nat×Nat
abbrev wX:EB Hd:=EW 1 (λp=>[.slice p.1 p.2.1 p.2.2]) (λ_=>⟨rfl,rfl⟩)
def heads (hs:List (Option Addr×Nat)) (xss:List (List α)):List Hd:=List.zipWith (λp xs=>(p.1,xs.length,p.2)) hs xss
def RX (El:EB α) (T:TypeId) (hs:List (Option Addr×Nat)) (xss:List (List α)):List HA:=List.zipWith (λp xs=>OwnSl El T p.1 p.2 xs) hs xss
def O7 (El:EB α) (T e:TypeId) (a:Option Addr) (cap:Nat) (xss:List (List α)):HA where
 holds I h:=∃ hs:List (Option Addr×Nat),hs.length=xss.length∧O2 (OwnSl wX e a cap (heads hs xss) :: RX El T hs xss) I h
 mono:=λhI hh ⟨hs,h1,h2⟩=>⟨hs,h1,LV hI hh h2⟩
theorem rR:∀ {L:List HA} {v:Nat} {A:HA},L[v]? = some A->Del L A (L.eraseIdx v)
 | B :: L,0,A,h=>by simp only[AnE,Ad0] at h; subst h; exact .z
 | B :: L,v+1,A,h=>by rw[ArZ]; exact .s (rR (by simpa using h))
theorem Aj2 {L D:List HA} {A:HA} (h:Del L A D) (r:List HA):Del (L++r) A (D++r):=by
 induction h with
 | z=>exact .z
 | s _ J=>exact .s J
theorem Sym.unfoldL {A:HA} (h:Sym w0 M I0 I (A :: m) w) {X:Prop} (g:∀ k,A.holds I k->∃ L:List HA,O2 L I k∧(Sym w0 M I0 I (L++m) w->X)):X:=by have⟨U,hi,O,k,⟨h1,h2,hd',hl1,hl2,ha,hs'⟩,hk,hdj,hm⟩:=h;have⟨L,J,D⟩:=g h1 ha;exact D ⟨U,hi,O,k,NN.2 ⟨h1,h2,hd',hl1,hl2,J,hs'⟩,hk,hdj,hm⟩
theorem Sym.foldL {A:HA} {L:List HA} (h:Sym w0 M I0 I (L++m) w) (g:∀ k,O2 L I k->A.holds I k):Sym w0 M I0 I (A :: m) w:=by have⟨hb,hi,Z,k,hs,hk,J,hm⟩:=h;have⟨W,h2,U,D,O,ha,V⟩:=NN.1 hs;exact⟨hb,hi,Z,k,⟨W,h2,U,D,O,g W ha,V⟩,hk,J,hm⟩
theorem Sym.foldL2 {A B:HA} {L:List HA} (h:Sym w0 M I0 I (A :: (L++m)) w) (g:∀ k,O2 L I k->B.holds I k):Sym w0 M I0 I (A :: B :: m) w:=by have⟨hb,hi,Z,k,⟨h1,h2,hd',hl1,hl2,ha,hs'⟩,hk,hdj,hm⟩:=h;have⟨W,h4,V,U,D,J,O⟩:=NN.1 hs';exact⟨hb,hi,Z,k,⟨h1,h2,hd',hl1,hl2,ha,W,h4,V,U,D,g W J,O⟩,hk,hdj,hm⟩
theorem dK {v:Nat} {p:Option Addr×Nat} {x:List α} (h:hs[v]? = some p) (D:xss[v]? = some x):(heads hs xss)[v]? = some (p.1,x.length,p.2):=by grind[heads]
theorem tG {v:Nat} {p:Option Addr×Nat} {x:List α} (h:hs[v]? = some p) (D:xss[v]? = some x):(RX El T hs xss)[v]? = some (OwnSl El T p.1 p.2 x):=by grind[RX]
theorem AaV {α β γ:Type} (f:α->β->γ):∀ (as:List α) (bs:List β) (v:Nat) (a:α) (b:β),List.zipWith f (as.set v a) (bs.set v b)=(List.zipWith f as bs).set v (f a b)
 | [],_,_,_,_=>by simp
 | _ :: _,[],v,_,_=>by cases v <;> simp
 | a :: as,b :: bs,0,_,_=>by simp
 | a :: as,b :: bs,v+1,x,y=>by simp[AaV f as bs v x y]
theorem yR {α:Type}:∀ (l:List α) (v:Nat) (a:α),(l.set v a).eraseIdx v=l.eraseIdx v
 | [],_,_=>by simp
 | _ :: _,0,_=>by simp
 | b :: l,v+1,a=>by simp[yR l v a]
theorem AdI (El:EB α) (T:TypeId) (I:IH):∀ n:Nat,O2 (RX El T (List.replicate n (none,0)) (List.replicate n [])) I (λ_=>none)
 | 0=>trivial
 | n+1=>⟨λ_=>none,λ_=>none,λ_=>.inl rfl,IH.le.refl _,IH.le.refl _,.inl ⟨rfl,rfl,rfl⟩,AdI El T I n⟩
theorem Sym.toNest {k:Nat} (h:Sym w0 M I0 I (OwnSl wX e a cap (List.replicate k (none,0,0)) :: m) w):Sym w0 M I0 I (O7 El T e a cap (List.replicate k []) :: m) w:=by refine h.weaken λq _=>⟨List.replicate k (none,0),by simp,q,λ_=>none,λ_=>.inr rfl,IH.le.refl _,(λ_ _ x=>nomatch x),?_,AdI El T I k⟩;grind[heads]
theorem AsC:∀ {L:List HA} {I k:IH} {i:Nat} {A:HA},O2 L I k->L[i]? = some A->∃ h,h.le k∧A.holds I h:=λhs hi=>by have⟨J,_,_,D,_,O,_⟩:=kB (rR hi) hs;exact⟨J,D,O⟩
theorem OwnSl.imm {J h:IH} {xs:List α} (ha:(OwnSl El T a cap xs).holds I h) (D:I.le J) (hk:h.le J):RepSl El J a cap xs:=by
 rcases ha with⟨_,O,_⟩ | ⟨b,c,U,O,W,h4,Z⟩
 . subst O; exact .nil _ _ _
 . refine⟨W,λi x hx=>?_⟩;have⟨cs,g1,g2⟩:=Z i x hx;exact⟨b,0,cs,U,⟨c,T,(0,0),hk _ _ O,λj v V=>by rw[aT]; exact g2 j v V⟩,El.mono D g1⟩
theorem Sym.pubNest (h:Sym w0 M I0 I m w) (hA:Del m (O7 El T e a cap xss) m'):∃ J,I.le J∧RepSl (nZ El) J a cap xss∧Sym w0 M I0 J m' w:=by
 have⟨J,_,D,⟨hs,_,_,_,_,hl1,hl2,ha,hin⟩,hk,hs'⟩:=(h.del hA).publish;have V:=OwnSl.imm ha D (hl1.trans hk);have a2:(heads hs xss).length=xss.length:=by grind[heads]
 refine⟨J,D,⟨by have:=V.1; omega,λi _ Z=>?_⟩,hs'⟩;have hv:i<hs.length:=by grind
 have hp:hs[i]? = some hs[i]:=zL8 hv;have⟨b,off,cs,W,g2,g3⟩:=V.2 i _ (dK hp Z);have⟨_,U,O⟩:=AsC hin (tG (El:=El) (T:=T) hp Z);exact⟨b,off,cs,W,g2,hs[i].1,hs[i].2,g3,OwnSl.imm O D (U.trans (hl2.trans hk))⟩
theorem Sym.nestNe (h:Sym w0 M I0 I m w) (U:Del m (O7 El T e a cap xss) m') (O:xss≠[]):∃ b,a=some ⟨b,0,none⟩:=by
 have⟨_,⟨hs,_,_,_,_,_,_,ha,_⟩,_⟩:=(h.del U).get;rcases ha with⟨_,J,_⟩ | ⟨b,c,J,_⟩
 . exfalso;have D:(heads hs xss).length=xss.length:=by grind[heads]
   grind
 . exact⟨b,J⟩
theorem Ops.toNest (El:EB α) (T:TypeId) {k:Nat} (D:Del m (OwnSl wX e a cap (List.replicate k (none,0,0))) m') (g:Ops P ops l n E (Sym w0 M I0 I (O7 El T e a cap (List.replicate k []) :: m')) Q):Ops P ops l n E (Sym w0 M I0 I m) Q:=
 λc w h hs=>g c w h (hs.del D).toNest
theorem Cod.pubNest {c:Code} (U:Del m (O7 El T e a cap xss) m') (k:∀ h,I.le h->RepSl (nZ El) h a cap xss->Cod P c n E (Sym w0 M I0 h m') Q):Cod P c n E (Sym w0 M I0 I m) Q:=
 λc w J hs=>by have⟨h,V,O,D⟩:=hs.pubNest U; exact k h V O c w J D
def Ax3 (h:List Hd) (xss:List (List α)):Prop:=h.length=xss.length∧∀ (i:Nat) (x:List α),xss[i]? = some x->∃ p c,h[i]? = some (p,x.length,c)
def rS (El:EB α) (T:TypeId) (hds:List Hd) (xss:List (List α)):HA where
 holds I h:=∃ hs:List (Option Addr×Nat),hs.length=xss.length∧hds=heads hs xss∧O2 (RX El T hs xss) I h
 mono:=λhI hh ⟨hs,h1,h2,h3⟩=>⟨hs,h1,h2,LV hI hh h3⟩
def XB (El:EB α) (T:TypeId) (hds:List Hd) (xss:List (List α)) (v:Nat):HA where
 holds I h:=∃ hs:List (Option Addr×Nat),hs.length=xss.length∧hds=heads hs xss∧O2 ((RX El T hs xss).eraseIdx v) I h
 mono:=λhI hh ⟨hs,h1,h2,h3⟩=>⟨hs,h1,h2,LV hI hh h3⟩
theorem AlB (h:hs.length=xss.length):(heads hs xss).length=xss.length:=by grind[heads]
theorem Sym.nestX (h:Sym w0 M I0 I (O7 El T e a cap xss :: m) w):∃ D,Ax3 D xss∧Sym w0 M I0 I (OwnSl wX e a cap D :: rS El T D xss :: m) w:=by
 refine h.unfoldL λk ⟨hs,O,J⟩=>⟨_,J,λV=>⟨heads hs xss,⟨AlB O,λi _ W=>?_⟩,V.foldL2 (L:=RX El T hs xss) λk hk=>⟨hs,O,rfl,hk⟩⟩⟩;have U:i<hs.length:=by grind
 exact⟨_,_,dK (zL8 U) W⟩
theorem Sym.nestF {D:List Hd} {v:Nat} {x:List α} {p:Option Addr} {k c:Nat} (h:Sym w0 M I0 I (rS El T D xss :: m) w) (W:xss[v]? = some x) (hc:D[v]? = some (p,k,c)):Sym w0 M I0 I (OwnSl El T p c x :: XB El T D xss v :: m) w:=by
 refine h.unfoldL λ_ ⟨hs,hl,U,J⟩=>⟨_,J,λh'=>?_⟩;have Z:v<hs.length:=by grind
 have hp:hs[v]? = some hs[v]:=zL8 Z;have O:=dK hp W;rw[<-U,hc,Ad0,yG,yG] at O;have hd:=Aj2 (rR (tG (El:=El) (T:=T) hp W)) m;have V:=h'.del hd;rw[<-O.1,<-O.2.2] at V;exact V.foldL2 λk hk=>⟨hs,hl,U,hk⟩
theorem Sym.nestPut {U:List Hd} {v b:Nat} {x D:List α} {O:Option Addr} {J:Nat} (a4:Sym w0 M I0 I (OwnSl wX e (some ⟨b,0,none⟩) cap U :: OwnSl El T O J D :: XB El T U xss v :: m) w) (W:xss[v]? = some x) :
  ∃ w',(storeCells ⟨b,v,none⟩ [.slice O D.length J]).run P w=.ok () w'∧Sym w0 M I0 I (O7 El T e (some ⟨b,0,none⟩) cap (xss.set v D) :: m) w':=by
 have h1:Sym w0 M I0 I (XB El T U xss v :: OwnSl wX e (some ⟨b,0,none⟩) cap U :: OwnSl El T O J D :: m) w:=a4.del (.s (.s .z));refine h1.unfoldL λk ⟨hs,hl,he,a2⟩=>⟨_,a2,λh'=>?_⟩;subst he;have a7:v<xss.length:=(List.getElem?_eq_some_iff.1 W).1;have hp:hs[v]? = some hs[v]:=zL8 (by omega)
 have h:∀ (L:List HA) (A:HA) (r:List HA),Del (L++A :: r) A (L++r):=λL A r=>by
  induction L with
  | nil=>exact .z
  | cons B L ih=>exact .s ih
 have h2:=h'.del (h _ _ _);have⟨w',Z,a6⟩:=OwnSl.put (P:=P) (j:=0) (v':=(O,D.length,J)) (vs:=[.slice O D.length J]) h2 (dK hp W) (λ_ a5=>by cases a5; exact⟨_,.t .nil,rfl⟩) rfl;have Z:(storeCells ⟨b,v*1+0,none⟩ [.slice O D.length J]).run P w=.ok () w':=Z;rw[AaM,YH] at Z;refine⟨w',Z,?_⟩;have a8:(RX El T hs xss).length=xss.length:=by grind[RX]
 have a3:((RX El T hs xss).set v (OwnSl El T O J D))[v]? = some (OwnSl El T O J D):=by grind
 have V:=Aj2 (rR a3) m;rw[yR] at V;have h3:=a6.del (.s (h _ _ _));have h4:Sym w0 M I0 I ((OwnSl wX e (some ⟨b,0,none⟩) cap ((heads hs xss).set v (O,D.length,J)) :: (RX El T hs xss).set v (OwnSl El T O J D))++m) w':=h3.undel (.s V);refine h4.foldL λk _=>⟨hs.set v (O,J),by simp[hl],?_⟩;have e1:heads (hs.set v (O,J)) (xss.set v D)=(heads hs xss).set v (O,D.length,J):=AaV (λ(p:Option Addr×Nat) (xs:List α)=>((p.1,xs.length,p.2):Hd)) hs xss v (O,J) D;grind[RX,AaV]
theorem Cod.nestX {c:Code} (O:Del m (O7 El T e a cap xss) m') (k:∀ h,Ax3 h xss->Cod P c n E (Sym w0 M I0 I (OwnSl wX e a cap h :: rS El T h xss :: m')) Q):Cod P c n E (Sym w0 M I0 I m) Q:=
 λa w D hs=>by have⟨h,U,J⟩:=(hs.del O).nestX; exact k h U a w D J
theorem Cod.nestN {c:Code} (J:Del m (O7 El T e a cap xss) m') (k:(xss≠[]->∃ b,a=some ⟨b,0,none⟩)->Cod P c n E (Sym w0 M I0 I m) Q):Cod P c n E (Sym w0 M I0 I m) Q:=
 λa w D hs=>k (λh=>hs.nestNe J h) a w D hs
theorem Ops.nestF {D:List Hd} {v:Nat} {z:List α} {p:Option Addr} {k c:Nat} (U:Del m (rS El T D xss) m') (O:xss[v]? = some z) (J:D[v]? = some (p,k,c)) (g:Ops P ops l n E (Sym w0 M I0 I (OwnSl El T p c z :: XB El T D xss v :: m')) Q):Ops P ops l n E (Sym w0 M I0 I m) Q:=
 Ops.pre (λ_ h=>(h.del U).nestF O J) g
theorem Ops.nestSt {U:TypeId} {b o v k:Nat} {z h:List α} {D:List Hd} {O:Option Addr} {J v':Nat} {m1 Z m3:List HA} (hS:∀ w,(sizeOf U).run P w=.ok 1 w) (hB:Del m (XB El T D xss v') m1) (hv:v'=v) (hA:Del m1 (OwnSl El T O J h) Z) (hH:Del Z (OwnSl wX e (some ⟨b,0,none⟩) cap D) m3) (hz:xss[v]? = some z)
  (W:ev E x=some (.pointer (some ⟨b,o,none⟩))) (ho:o=v*1) (hy:ev E y=some (.slice O k J)) (hk:k=h.length) (g:Ops P ops l n E (Sym w0 M I0 I (O7 El T e (some ⟨b,0,none⟩) cap (xss.set v h) :: m3)) Q) :
  Ops P ops (⟨none,.store U x y,ty,pos,af,none⟩ :: l) n E (Sym w0 M I0 I m) Q:=
 Ops.act rfl rfl (λ_ w V hs=>by subst ho hk hv;have⟨w',hr,a4⟩:=Sym.nestPut (P:=P) ((((hs.del hB).del (.s hA)).del (.s (.s hH))).del (.s (.s .z)) |>.undel (.s (.s .z))) hz;refine⟨w',?_,a4⟩;rw[AaM] at W;have a3:(storeCells ⟨b,v',none⟩ [.slice O h.length J]).run P w=.ok () w':=hr;have a2:(Value.slice O h.length J).cells = #[.slice O h.length J]:=rfl;simp[execOp,V.eval W,V.eval hy,Instr.storeAt,Instr.sureAddr,storeVar,hS,a2,a3]) g
end
section
variable {w0 w:World} {M:Nat→Prop} {I0 I:IH} {m m':List HA}
variable {P:Program} {n:FrK} {E:DF} {S:World→Prop} {Q:Exit→Act→World→Prop} {ops:Array Oper} {l:List Oper}
variable {d ty:Nat} {pos:String} {af:Array Edge} {T e:TypeId} {x y:Operand} {α:Type}
structure BoxTy (α:Type) where
 A:Type
 fact:IH→A→α→Prop
 mono:∀ {I J:IH} {a:A} {x:α},I.le J→fact I a x→fact J a x
 obj:A→α→Obj
 more:A→α→List HA
def BoxTy.at (B:BoxTy α) (b:Nat) (x:α):HA where
 holds I h:=∃ a,B.fact I a x∧O2 (pto b (B.obj a x) :: B.more a x) I h
 mono:=λhI hh ⟨a,h1,h2⟩=>⟨a,B.mono hI h1,LV hI hh h2⟩
def D3 (B:BoxTy α) (xs:List (Nat×α)):HA where
 holds I h:=O2 (xs.map λp=>B.at p.1 p.2) I h
 mono:=λhI hh h=>LV (l:=xs.map λp=>B.at p.1 p.2) hI hh h
abbrev mkA (o:Option Nat):Option Addr:=o.map λb=>⟨b,0,none⟩
abbrev AoQ:EB (Int×Int):=EW 2 (λx=>[.int .i64 x.1,.int .i64 x.2]) (λ_=>⟨rfl,rfl⟩)
abbrev PA:EB (Option Nat):=EW 1 (λo=>[.pointer (mkA o)]) (λ_=>⟨rfl,rfl⟩)
def AvA (xs:List (Nat×α)) (K:Nat->Prop):Prop:=∀ b,BC b xs=none->K b
def tH (xs:List (Nat×α)) (b:Nat) (K:α->Prop):Prop:=∃ x,BC b xs=some x∧K x
def rH (t:Option Nat) (A:Prop) (B:Nat->Prop):Prop:=(t=none->A)∧∀ b,t=some b->B b
variable {B:BoxTy α} {xs ys:List (Nat×α)} {b:Nat} {z:α}
theorem iD:∀ {xs:List (Nat×α)},BC b xs=some z->∃ J D,xs=J++(b,z) :: D∧FL b xs=J++D
 | p :: r,h=>by
  unfold BC at h;unfold FL;split at h
  . rename_i e;subst e;cases h;rw[if_pos rfl];exact⟨[],r,rfl,rfl⟩
  . rename_i e;rw[if_neg e];have⟨J,D,_,_⟩:=iD h;grind
theorem dL {α:Type} {A:α}:∀ {D h:List HA} {A:HA},Del (D++A :: h) A (D++h)
 | [],_,_=>.z
 | _ :: _,_,_=>.s (dL (α:=α) (A:=A))
theorem Sym.bankAt (h:Sym w0 M I0 I (D3 B xs :: m) w) (U:BC b xs=some z):Sym w0 M I0 I (B.at b z :: D3 B (FL b xs) :: m) w:=by
 have⟨_,_,O,V⟩:=iD U;refine h.unfoldL λk hk=>⟨_,hk,λD=>?_⟩
 have J:Del ((xs.map λp=>B.at p.1 p.2)++m) (B.at b z) (((FL b xs).map λp=>B.at p.1 p.2)++m):=by rw[V,O,gW,P9,gW,nP,nP];exact dL (α:=Nat) (A:=0)
 exact(D.del J).foldL2 λk hk=>hk
theorem Sym.bankIn (h:Sym w0 M I0 I (B.at b z :: D3 B ys :: m) w):Sym w0 M I0 I (D3 B ((b,z) :: ys) :: m) w:=by have U:Sym w0 M I0 I (D3 B ys :: B.at b z :: m) w:=h.del (.s .z);refine U.unfoldL λk hk=>⟨_,hk,λD=>?_⟩;have J:Del ((ys.map λp=>B.at p.1 p.2)++B.at b z :: m) (B.at b z) ((ys.map λp=>B.at p.1 p.2)++m):=dL (α:=Nat) (A:=0);have O:Sym w0 M I0 I ((((b,z) :: ys).map λp=>B.at p.1 p.2)++m) w:=D.del J;exact O.foldL λk hk=>hk
theorem Sym.bankBack (h:Sym w0 M I0 I (B.at b z :: D3 B (FL b xs) :: m) w) (hx:BC b xs=some z):Sym w0 M I0 I (D3 B xs :: m) w:=by
 have⟨_,_,W,U⟩:=iD hx;have Z:Sym w0 M I0 I (D3 B (FL b xs) :: B.at b z :: m) w:=h.del (.s .z);refine Z.unfoldL λk hk=>⟨_,hk,λO=>?_⟩;have D:Del (((FL b xs).map λp=>B.at p.1 p.2)++B.at b z :: m) (B.at b z) (((FL b xs).map λp=>B.at p.1 p.2)++m):=dL (α:=Nat) (A:=0);have V:=O.del D
 have J:Del ((xs.map λp=>B.at p.1 p.2)++m) (B.at b z) (((FL b xs).map λp=>B.at p.1 p.2)++m):=by rw[U,W,gW,P9,gW,nP,nP];exact dL (α:=Nat) (A:=0)
 exact(V.undel J).foldL λk hk=>hk
theorem Sym.boxO (h:Sym w0 M I0 I (B.at b z :: m) w):∃ a,B.fact I a z∧Sym w0 M I0 I (Fw.pto b (B.obj a z) :: (B.more a z++m)) w:=by refine h.unfoldL λ_ ⟨a,D,hk⟩=>⟨_,hk,λJ=>⟨a,D,J⟩⟩
theorem Sym.boxC {a:B.A} (D:B.fact I a z) (h:Sym w0 M I0 I (Fw.pto b (B.obj a z) :: (B.more a z++m)) w):Sym w0 M I0 I (B.at b z :: m) w:=
 Sym.foldL (L:=Fw.pto b (B.obj a z) :: B.more a z) h λ_ hk=>⟨a,D,hk⟩
theorem Sym.fresh {o:Obj} (h:Sym w0 M I0 I (Fw.pto b o :: D3 B ys :: m) w):BC b ys=none:=by
 cases hg:BC b ys with
 | none=>rfl
 | some z=>
  exfalso;have h1:=(h.del (.s .z)).bankAt hg;have⟨a,_,h2⟩:=h1.boxO
  have U:Del (Fw.pto b (B.obj a z) :: (B.more a z++D3 B (FL b ys) :: Fw.pto b o :: m)) (Fw.pto b o) (Fw.pto b (B.obj a z) :: (B.more a z++D3 B (FL b ys) :: m)):=by refine .s ?_;have:=@dL Nat 0 (B.more a z++[D3 B (FL b ys)]) m (Fw.pto b o);simpa using this
  have Z:=h2.del U;have⟨_,hk,_⟩:=Z.own;have⟨O,k2,D,_,_,ha,_,_,_,J,_,V,_⟩:=hk;have e1:O b=some o:=ha;have e2:k2 b=some (B.obj a z):=J _ _ V;rcases D b with W | W
  all_goals grind
theorem Sym.bank0 (B:BoxTy α) (h:Sym w0 M I0 I m w):Sym w0 M I0 I (D3 B [] :: m) w:=Sym.foldL (L:=[]) h λ_ _=>trivial
theorem AoR {mf mr:List HA} (h:Sym w0 M I0 I m w) (D:Outs m mf mr):Sym w0 M I0 I (mf++mr) w:=h.perm D.perm
theorem Cod.bank0 {c:Code} (B:BoxTy α) (g:Cod P c n E (Sym w0 M I0 I (D3 B [] :: m)) Q):Cod P c n E (Sym w0 M I0 I m) Q:=Cod.pre (λ_ h=>h.bank0 B) g
theorem Ops.bankP {mr:List HA} (a:B.A) (z:α) (V:B.fact I a z) (O:Outs m (pto b (B.obj a z) :: (B.more a z++[D3 B ys])) mr) (g:BC b ys=none->Ops P ops l n E (Sym w0 M I0 I (D3 B ((b,z) :: ys) :: mr)) Q):Ops P ops l n E (Sym w0 M I0 I m) Q:=
 λc w D h=>by
  have W:=AoR h O;have J:Sym w0 M I0 I (Fw.pto b (B.obj a z) :: (B.more a z++D3 B ys :: mr)) w:=by simpa using W
  have U:Sym w0 M I0 I (Fw.pto b (B.obj a z) :: D3 B ys :: (B.more a z++mr)) w:=by refine J.perm (Ag5 _ ?_);exact Al1
  exact g U.fresh c w D (J.boxC V).bankIn
theorem AgK (t:Option Nat):(mkA t).isNone=t.isNone:=by cases t <;> rfl
theorem Ops.eqNilH {t:Option Nat} {h:TypeId} {u:TypeId} (O:P.underlying T=some (.pointer u)) (V:ev E x=some (.pointer (mkA t))) (U:ev E y=some (.pointer none)) (D:Nat.blt d n.sz=true) (J:fresh E d=true)
 (k:Ops P ops l n ((d,.bool t.isNone) :: E) S Q):Ops P ops (⟨some d,.binOp .eql T x y h,ty,pos,af,none⟩ :: l) n E S Q:=Ops.eqNilP O V U D J (by rw[AgK]; exact k)
theorem Fun.bank {f:FuncId} {args:Array Value} {ψ:IH->Value->List HA->Prop} {φ:B.A->IH->Value->List HA->Prop} {k:List HA} (hx:BC b xs=some z)
  (hw:∀ a,B.fact I a z->Fun P f args I (pto b (B.obj a z) :: (B.more a z++k)) (φ a))
  (a2:∀ a D v W,I.le D->φ a D v W->∃ (O:B.A) (J:α) (V:List HA),W=pto b (B.obj O J) :: (B.more O J++V)∧B.fact D O J∧ψ D v (D3 B ((b,J) :: FL b xs) :: V)):Fun P f args I (D3 B xs :: k) ψ:=by
 intro w h hi hs hk hd;have a4:=Fun.start hi hs hk hd;have⟨a,hf,h2⟩:=(a4.bankAt hx).boxO
 have h3:Sym w (λb=>h b≠none) I I ((Fw.pto b (B.obj a z) :: (B.more a z++k))++[D3 B (FL b xs)]) w:=by refine h2.perm ?_;rw[nV,nP];exact Ag5 _ (AnG _ (AkY (l₁:=[D3 B (FL b xs)]) (l₂:=k)))
 refine(hw a hf).use h3 λv D W w' U hφ Z=>?_;obtain⟨O,J,V,rfl,a3,hψ⟩:=a2 a D v W U hφ;refine⟨v,D,_,rfl,U,hψ,?_⟩
 have h4:Sym w (λb=>h b≠none) I D (Fw.pto b (B.obj O J) :: (B.more O J++D3 B (FL b xs) :: V)) w':=by refine Z.perm ?_;rw[nV,nP];exact Ag5 _ (AnG _ (AkY (l₁:=V) (l₂:=[D3 B (FL b xs)])))
 exact(h4.boxC a3).bankIn
theorem Fun.bankR {f:FuncId} {args:Array Value} {ψ:IH->Value->List HA->Prop} {φ:B.A->IH->Value->List HA->Prop} {k:List HA} (Z:BC b xs=some z)
  (hw:∀ a,B.fact I a z->Fun P f args I (pto b (B.obj a z) :: (B.more a z++k)) (φ a))
  (a4:∀ a D v V,I.le D->B.fact I a z->φ a D v V->∃ (J:B.A) (U:List HA),V=pto b (B.obj J z) :: (B.more J z++U)∧B.fact D J z∧ψ D v (D3 B xs :: U)):Fun P f args I (D3 B xs :: k) ψ:=by
 intro w h hi hs hk hd;have a5:=Fun.start hi hs hk hd;have⟨a,W,h2⟩:=(a5.bankAt Z).boxO
 have h3:Sym w (λb=>h b≠none) I I ((Fw.pto b (B.obj a z) :: (B.more a z++k))++[D3 B (FL b xs)]) w:=by refine h2.perm ?_;rw[nV,nP];exact Ag5 _ (AnG _ (AkY (l₁:=[D3 B (FL b xs)]) (l₂:=k)))
 refine(hw a W).use h3 λv D V w' O hφ a2=>?_;obtain⟨J,U,rfl,a3,hψ⟩:=a4 a D v V O W hφ;refine⟨v,D,_,rfl,O,hψ,?_⟩
 have h4:Sym w (λb=>h b≠none) I D (Fw.pto b (B.obj J z) :: (B.more J z++D3 B (FL b xs) :: U)) w':=by refine a2.perm ?_;rw[nV,nP];exact Ag5 _ (AnG _ (AkY (l₁:=U) (l₂:=[D3 B (FL b xs)])))
 exact(h4.boxC a3).bankBack Z
theorem Ops.callPc {x:Operand} {g:FuncId} {args:List Operand} {vs:List Value} {J:Array TypeId} {ψ:Value->Prop} (Z:∀ as w,(callFunc g as).run P w=.ok (.enter g as) w)
  (hx:ev E x=some (.func (.func g) #[] #[])) (ha:evs E args=some vs) (hf:B6 P g vs I λ_=>ψ) (hb:Nat.blt d n.sz=true) (U:fresh E d=true)
  (k:∀ v,ψ v->Ops P ops l n ((d,v) :: E) (Sym w0 M I0 I m) Q) :
  Ops P ops (⟨some d,.call ⟨.value x,args.toArray,J⟩,ty,pos,af,none⟩ :: l) n E (Sym w0 M I0 I m) Q:=by
 intro c w D V;refine wpListIn_plain rfl λ_ hK=>?_;have W:=Enters.c (n:=n) (S:=λ_=>True) Z hx ha (some d) J ty pos af c w D trivial;simp only[AiK,kA] at W;refine kC W (by simp) ?_;simp only[Oper.uponIn];refine⟨λh=>(by cases h),oB ((hf w (λ_=>none) V.imm trivial (λ_ _ x=>nomatch x) (λ_=>.inr rfl)).mono λ_ _ O=>?_)⟩;obtain⟨v,_,_,rfl,_,⟨_,hψ⟩,hs'⟩:=O;exact hK _ _ (k v hψ _ _ (D.put hb U v) (V.grown ⟨hs'.base.os,hs'.base.tape,hs'.base.output,hs'.base.drawn,hs'.base.size,λb h1 _=>hs'.base.block b h1 (by simp)⟩))
end
section
variable {w0 w:World} {M:Nat→Prop} {I0 I:IH} {m m':List HA}
variable {P:Program} {n:FrK} {E:DF} {Q:Exit→Act→World→Prop} {ops:Array Oper} {l:List Oper}
variable {d ty:Nat} {pos:String} {af:Array Edge} {T e:TypeId} {x y:Operand}
variable {α:Type} {El:EB α} {xs ys:List α} {a:Option Addr} {cap:Nat}
variable {T':TypeId}
def QSl (El:EB α) (T:TypeId) (a:Option Addr) (cap:Nat) (xs:List α):HA where
 holds I h:=(OwnSl El T a cap xs).holds I h∨RepSl El I a cap xs∧cap=xs.length
 mono:=λhI hh=>fun
  | .inl h=>.inl ((OwnSl El T a cap xs).mono hI hh h)
  | .inr h=>.inr ⟨h.1.mono hI,h.2⟩
theorem Sym.qCases (h:Sym w0 M I0 I (QSl El T a cap xs :: m) w):Sym w0 M I0 I (OwnSl El T a cap xs :: m) w∨(RepSl El I a cap xs∧cap=xs.length)∧Sym w0 M I0 I m w:=by
 have O:=h.drop;have⟨U,hi,J,k,⟨h1,h2,hd',hl1,hl2,D,hs'⟩,hk,hdj,hm⟩:=h;rcases D with D | D
 . exact .inl ⟨U,hi,J,k,⟨h1,h2,hd',hl1,hl2,D,hs'⟩,hk,hdj,hm⟩
 . exact .inr ⟨D,O⟩
theorem Sym.pubQ (h:Sym w0 M I0 I m w) (J:Del m (QSl El T a cap xs) m'):∃ D,I.le D∧RepSl El D a cap xs∧Sym w0 M I0 D m' w:=by
 rcases(h.del J).qCases with h | h
 . exact h.pubSl .z
 . exact⟨I,IH.le.refl I,h.1.1,h.2⟩
theorem Ops.pubQ (V:Del m (QSl El T a cap xs) m') (k:∀ h,I.le h->RepSl El h a cap xs->Ops P ops l n E (Sym w0 M I0 h m') Q):Ops P ops l n E (Sym w0 M I0 I m) Q:=
 λc w O D=>by have⟨h,W,U,J⟩:=D.pubQ V; exact k h W U c w O J
theorem Sym.qIn (h:Sym w0 M I0 I m w) (J:At m (OwnSl El T a cap xs) m' (QSl El T a cap xs)):Sym w0 M I0 I m' w:=
 Sym.reAt J h λ_ D=>D.weaken λ_ hk=>.inl hk
theorem Ops.qIn (D:At m (OwnSl El T a cap xs) m' (QSl El T a cap xs)) (k:Ops P ops l n E (Sym w0 M I0 I m') Q):Ops P ops l n E (Sym w0 M I0 I m) Q:=Ops.pre (λ_ h=>h.qIn D) k
theorem Sym.qNew (h:Sym w0 M I0 I m w) (T:TypeId) (D:RepSl El I a cap xs) (V:cap=xs.length):Sym w0 M I0 I (QSl El T a cap xs :: m) w:=by have⟨U,hi,J,k,Z,hk,O,W⟩:=h;exact⟨U,hi,J,k,⟨λ_=>none,k,λ_=>.inl rfl,(λ_ _ x=>nomatch x),IH.le.refl _,.inr ⟨D,V⟩,Z⟩,hk,O,W⟩
theorem Ops.qNew (T:TypeId) (J:RepSl El I a cap xs) (D:cap=xs.length) (k:Ops P ops l n E (Sym w0 M I0 I (QSl El T a cap xs :: m)) Q):Ops P ops l n E (Sym w0 M I0 I m) Q:=Ops.pre (λ_ h=>h.qNew T J D) k
theorem Ops.neQ (V:Del m (QSl El T a cap xs) m') (D:xs≠[]) (k:∀ b off,a=some ⟨b,off,none⟩->Ops P ops l n E (Sym w0 M I0 I m) Q):Ops P ops l n E (Sym w0 M I0 I m) Q:=by
 intro c w U J;rcases(J.del V).qCases with h | ⟨⟨h,_⟩,_⟩
 . have⟨_,Z,_⟩:=h.get;rcases Z with⟨_,W,_⟩ | ⟨b,_,O,_⟩
   . exact absurd W D
   . exact k b 0 O c w U J
 . cases xs with
   | nil=>exact absurd rfl D
   | cons x xs=>
     have⟨b,off,_,O,_⟩:=h.2 0 x rfl;exact k b off O c w U J
theorem Ops.loQW {b off o i W:Nat} {v:α} (hT:∀ w,(isAgg T).run P w=.ok true w) (hS:∀ w,(sizeOf T).run P w=.ok W w) (hA:Del m (QSl El T' (some ⟨b,off,none⟩) cap xs) m') (hi:xs[i]? = some v)
  (hx:ev E x=some (.pointer (some ⟨b,o,none⟩))) (U:o=off+i*El.sz) (hl:El.sz=W) (hb:Nat.blt d n.sz=true) (hf:fresh E d=true) (k:∀ cs,El.rep I cs v->Ops P ops l n ((d,.agg cs.toArray) :: E) (Sym w0 M I0 I m) Q) :
  Ops P ops (⟨some d,.load T x,ty,pos,af,none⟩ :: l) n E (Sym w0 M I0 I m) Q:=
 Ops.valx (λu w'=>(∃ cs,u=.agg cs.toArray∧El.rep I cs v)∧Sym w0 M I0 I m w') rfl rfl (λc w hc D=>by
  subst U
  have key:∃ cs,El.rep I cs v∧∀ j u,cs[j]? = some u->w.cell? ⟨b,off+i*El.sz+j,none⟩=some u:=by
   rcases(D.del hA).qCases with h | ⟨⟨h,_⟩,_⟩
   . have⟨_,ha,_⟩:=h.get;rcases ha with⟨O,_⟩ | ⟨b',_,O,_⟩
     . cases O
     . cases O;have⟨cs,J,Z⟩:=OwnSl.els h .z hi;grind
   . have⟨b',_,cs,O,h2,h3⟩:=h.2 i v hi;cases O;exact⟨cs,h3,λj u hj=>h2.cell D hj⟩
  have⟨cs,J,Z⟩:=key;refine⟨.agg cs.toArray,w,?_,⟨cs,rfl,J⟩,D⟩;simp[execOp,hc.eval hx,L5 (P:=P) hT hS (El.len J |>.trans hl) (λi' v' V=>Z i' v' V)]) hb hf (λu c w U ⟨⟨cs,hu,J⟩,D⟩=>by subst hu; exact k cs J c w U D)
theorem RepCs.old (J:RepSl El I a xs.length xs) (h:Sym w0 M I0 I m w):∃ old:List Value,(∀ w':World,w'.heap=w.heap->(Builtin.firstCells El.sz xs.length (.slice a xs.length xs.length)).run P w'=.ok old.toArray w')∧old.length=xs.length*El.sz ∧
  ∀ i x,xs[i]? = some x->∃ cs,El.rep I cs x∧∀ j v,cs[j]? = some v->old[i*El.sz+j]? = some v:=by
 have⟨_,src,D,O⟩:=Src.imm (P:=P) (w0:=w0) (M:=M) (I0:=I0) (m:=m) J rfl;exact⟨src,O w h,D.1,D.2.1⟩
theorem Ops.appendQ {sT e':TypeId} {i:TypeInfo} {zc v:Value} {a7:Array TypeId} {k:Nat} (B:Nat) (hA:Del m (QSl El e a cap xs) m') (hT:P.underlying sT=some (.slice e)) (a4:P.underlying T'=some (.slice e')) (hi:P.info? e=some i)
  (a3:i.size=El.sz) (hB:i.bytes=B) (hz:i.zero=some zc) (a6:zc.cells.size=El.sz) (a5:Nat.blt 0 B=true) (a9:a7 = #[sT,T']) (hx:ev E x=some (.slice a k cap)) (hk:k=xs.length) (hy:ev E y=some v) (hS:Src P El I (Sym w0 M I0 I m) v ys)
  (a8:ys≠[]) (a2:(xs.length+ys.length)*B<=140737488355328) (hb:Nat.blt d n.sz=true) (hf:fresh E d=true)
  (k':∀ J D,Ops P ops l n ((d,.slice J (xs++ys).length D) :: E) (Sym w0 M I0 I (OwnSl El e J D (xs++ys) :: m')) Q) :
  Ops P ops (⟨some d,.call ⟨.builtin .append,#[x,y],a7⟩,ty,pos,af,none⟩ :: l) n E (Sym w0 M I0 I m) Q:=
 Ops.valx (λv w'=>∃ J D,v=.slice J (xs++ys).length D∧Sym w0 M I0 I (OwnSl El e J D (xs++ys) :: m') w') rfl rfl
  (λc w U W=>by
   have⟨V,_,h1,h2⟩:=hS;subst a9;have e0:(#[x,y].map c.eval) = #[.slice a k cap,v]:=by simp[U.eval hx,U.eval hy]
   have key:∃ J D w',(Builtin.append_ #[sT,T'] ty #[.slice a k cap,v]).run P w=.ok (.slice J (xs++ys).length D) w'∧Sym w0 M I0 I (OwnSl El e J D (xs++ys) :: m') w':=by
    rcases(W.del hA).qCases with h | ⟨⟨h,hc⟩,O⟩
    . have⟨J,D,w',hr,O,_⟩:=h.append (P:=P) (ty':=ty) hT a4 hi a3 hB hz a6 V h1 (h2 w W) a2 (λZ=>by subst Z; cases a5) hk;grind
    . obtain⟨_,_,_,rfl,rfl⟩:=V;subst hk hc;have hp:=List.length_pos_iff.2 a8;exact O.appendNew (P:=P) hT a4 hi a3 hB hz a6 h1 (h2 w W) a2 (λZ=>by subst Z; cases a5) (by omega) (RepCs.old h O)
   have⟨J,D,w',hr,O⟩:=key;refine⟨_,w',?_,J,D,rfl,O⟩;simp only[execOp,resolve,e0,Sem.run_bind,Sem.run_pure,Result.andThen_ok,invoke,builtin,hr]) hb hf
  (λv c w U ⟨J,D,V,W⟩=>by subst V; exact k' J D c w U W)
theorem Ops.sliceR {hi:Option Operand} {k s:Nat} {q:IntKind} {i:Int} (hT:P.underlying T=some (.slice e)) (W:∀ w,(sizeOf e).run P w=.ok s w) (V:ev E x=some (.slice a k cap)) (O:Del m (OwnSl El T' a cap xs) m')
  (hh:oev E hi=some (some (.int q i))) (h0:0<=i) (h1:i.toNat=xs.length) (hb:Nat.blt d n.sz=true) (hf:fresh E d=true) (U:Ops P ops l n ((d,.slice a xs.length cap) :: E) (Sym w0 M I0 I m) Q) :
  Ops P ops (⟨some d,.slice T x none hi none,ty,pos,af,none⟩ :: l) n E (Sym w0 M I0 I m) Q:=by
 refine Ops.val rfl rfl (λ_ w J h=>?_) hb hf U;have⟨_,ha,_⟩:=(h.del O).get
 have hc:xs.length<=cap:=by
  rcases ha with⟨_,h2,Z⟩ | ⟨b,_,_,_,Z,_⟩
  all_goals grind
 have g1:i<=(cap:Int):=by omega
 have D:(Instr.sliceBounds true k cap none (some (.int q i)) none).run P w=.ok (0,xs.length,cap) w:=by simp[Instr.sliceBounds,Instr.sliceBound,asIntOf,h0,g1,h1]
 have hv:(if cap=0 then a else a.map (·.add (0*s)))=a:=dI a cap s;simp only[execOp,J.eval V,O6 J hh,AiG,Instr.sliceAt,Sem.run_bind,run_underlying hT,Result.andThen_ok,Instr.slice,D,W,Sem.run_pure,hv,Ad3]
section
variable {κ:Type} [DecidableEq κ] {ke:κ→Value} {ag:Bool} {b:Nat} {kvs:List (κ×α)} {kt et:TypeId}
theorem Ops.clearM {h:Array TypeId} (hT:P.underlying T=some (.map kt et)) (D:h[0]? = some T) (W:At m (OwnMap ke El ag b kvs) m' (OwnMap ke El ag b [])) (hx:ev E x=some (.map (some b)))
  (Z:Ops P ops l n E (Sym w0 M I0 I m') Q):Ops P ops (⟨none,.call ⟨.builtin .clear,#[x],h⟩,ty,pos,af,none⟩ :: l) n E (Sym w0 M I0 I m) Q:=
 Ops.val0 rfl rfl (λc _ V hs=>by
  have⟨_,h2,h3⟩:=W.del;have⟨_,clock,⟨_,O⟩,hs1⟩:=OwnMap.opn (hs.del h2);have hp:=hs1.pto;have e0:(#[x].map c.eval) = #[.map (some b)]:=by simp[V.eval hx]
  have⟨w',J,U⟩:=OwnMap.set (P:=P) (ke:=ke) (El:=El) (ag:=ag) (es':=#[]) (clock':=clock) (kvs:=([]:List (κ×α))) ⟨trivial,O.sub (List.nil_sublist _)⟩ hs1;refine⟨.tuple #[],w',?_,U.undel h3⟩;simp[execOp,resolve,e0,invoke,builtin,Builtin.clear_,D,run_underlying hT,MapKept.run_getObj_map hp,J]) Z
end
end
section
theorem A9 {τ σ:Type} (mk:σ->Int->τ) {d:τ->(τ->Prop)->Prop} (D n:Nat) {s0:σ} (hn:n<=1000000000000) (h:Nat->σ->Prop) (h0:D<=n) (W:h D s0)
  (V:∀ (i:Nat) (s:σ) (next:τ->Prop),D<=i->i<n->h i s->(∀ J,h (i+1) J->next (mk J (A4 ((i:Int)+1))))->d (mk s i) next)
  (Z:∀ (s:σ) (next:τ->Prop),h n s->d (mk s n) next):B4 d (mk s0 D):=by
 have H:∀ (k i:Nat) (s:σ),n - i<k->D<=i->i<=n->h i s->SB d k (mk s i):=by
  intro k
  induction k with
  | zero=>intro i s hk; omega
  | succ k U=>
   intro i s hk h1 h2 hi;by_cases e:i=n
   . subst e; exact Z s _ hi
   . refine V i s _ h1 (by omega) hi λJ O=>?_;have:=U (i+1) J (by omega) (by omega) (by omega) O;rw[A6 (by omega) (by omega)];simpa using this
 exact⟨n - D+1,H _ _ _ (by omega) (by omega) h0 W⟩
theorem D7 {d:Int->(Int->Prop)->Prop} (n:Nat) (O:n<=1000000000000) (R:Nat->Prop) (h0:R 0)
  (D:∀ (i:Nat) (next:Int->Prop),i<n->R i->(R (i+1)->next (A4 ((i:Int)+1)))->d i next)
  (J:∀ (next:Int->Prop),R n->d n next):B4 d 0:=
 A9 (σ:=Unit) (λ_ i=>i) 0 n O (λi _=>R i) (by omega) h0 (λi _ next _ Z V U=>D i next Z V λW=>U () W) (λ_ next h=>J next h) (s0:=())
section
variable {κ α:Type} [DecidableEq κ]
theorem K4 {k:κ} {v:α}:∀ {l:List (κ×α)},EU l->(BC k l=some v↔(k,v)∈l)
 | [],_=>by simp[BC]
 | p :: r,h=>by
  unfold EU at h;simp only[P9,sQ] at h;simp only[BC,SK];split
  . rename_i hk;subst hk;constructor
    . intro e; left; cases e; rfl
    . rintro(e | e)
      . rw[<-e]
      . exact absurd (AcY (f:=(·.1)) e) h.1
  . rename_i hk;rw[K4 (l:=r) h.2];constructor
    . exact .inr
    . rintro(e | e)
      . exact absurd (congrArg (·.1) e) hk
      . exact e
omit [DecidableEq κ] in
theorem tL {l:List (κ×α)} (h:EU l):l.Nodup:=by
 unfold EU at h
 induction l with
 | nil=>simp
 | cons p r d=>
  grind
theorem oJ {l d:List (κ×α)} (h:EU l) (D:EU d) (J:∀ k,BC k l=BC k d):l.Perm d:=by refine(AcX (tL h) (tL D)).2 λp=>?_;rw[<-Prod.eta p,<-K4 h,<-K4 D,J]
theorem AlC {l d:List (κ×α)} (h:EU l) (hp:l.Perm d) (k:κ) (v:α):(DV k v l).Perm (DV k v d):=by
 have J:EU d:=Ao3 (hp.map Prod.fst) h;refine oJ (HO h k v) (HO J k v) λD=>?_;by_cases e:D=k
 . subst e; rw[CO,CO]
 . rw[CW e,CW e]
   cases O:BC D l with
   | none=>cases hg':BC D d with
    | none=>rfl
    | some x=>grind[K4]
   | some x=>grind[K4]
theorem AlD {l d:List (κ×α)} (h:EU l) (hp:l.Perm d) (k:κ):BC k l=BC k d:=by
 have D:EU d:=Ao3 (hp.map Prod.fst) h
 cases J:BC k l with
 | none=>cases hg':BC k d with
  | none=>rfl
  | some x=>grind[K4]
 | some x=>grind[K4]
theorem AdM (k:κ) (v:α) (l:List (κ×α)):(DV k v l).length<=l.length+1:=by
 induction l with
 | nil=>simp[DV]
 | cons p r d=>unfold DV; split <;> simp; omega
omit [DecidableEq κ] in
theorem U8:∀ (l:List (κ×α)) (i:Nat) (h:i<l.length),(l[i] :: l.eraseIdx i).Perm l
 | _ :: _,0,_=>by simp
 | a :: l,i+1,h=>by have:=U8 l i (by simpa using h);simp only[List.getElem_cons_succ,ArZ];exact(List.Perm.swap _ _ _).trans (this.cons a)
omit [DecidableEq κ] in
theorem W3 {d:List (κ×α)} {A:Prop} {B:κ×α->List (κ×α)->Prop} (D:d=[]->A) (h:∀ p r,d.Perm (p :: r)->B p r):yQ d A B:=by refine⟨D,λi p hp=>h p _ ?_⟩;obtain⟨hi,rfl⟩:=List.getElem?_eq_some_iff.1 hp;exact(U8 d i hi).symm
theorem YX {l:List (κ×α)} {k:κ} {z:α} {C:α->Bool->Prop} (D:∀ v,BC k l=some v->C v true) (d:BC k l=none->C z false):AgG l k z C:=by
 unfold AgG
 cases h:BC k l with
 | none=>exact d h
 | some v=>exact D v h
end
theorem eJ {α:Type} {d:α->α->Prop} {l D:List α} (hp:l.Perm D) (h:l.Pairwise d) (V:D.Pairwise d) (U:∀ a b,a∈l->b∈l->d a b->d b a->a=b):l=D:=
 hp.eq_of_pairwise (λa b O J=>U a b O (hp.mem_iff.2 J)) h V
def AY (xs:List Int) (i:Int):Int:=xs.getD i.toNat 0
theorem AX {xs:List Int} {i:Int} {K:Int->Prop} (d:0<=i) (h:i<xs.length) (hk:K (AY xs i)):AR xs i K:=
 ⟨d,xs[i.toNat]'(by omega),by simp,by simpa[AY,rC,show i.toNat<xs.length by omega] using hk⟩
theorem rX {xs:List Int} {i:Int} (d:0<=i) (h:i<xs.length):AY xs i∈xs:=by grind[AY]
end
variable {w0 w:World} {M:Nat→Prop} {I0 I I1:IH} {m m':List HA}
variable {P:Program} {n:FrK} {E:DF} {S:World→Prop} {Q:Exit→Act→World→Prop} {ops:Array Oper} {l:List Oper}
variable {d ty:Nat} {pos:String} {af:Array Edge} {T e:TypeId} {x y:Operand}
variable {α:Type} {El:EB α} {xs ys:List α} {a:Option Addr} {cap:Nat}
/-! ### Places -/
variable {Q':Exit→Act→World→Prop} {E1:DF} {T':TypeId} {σ:Type} {tys:Array TypeId} {fn:Func} {m1:List HA} {fs:Array Field} {φ:IH→Value→List HA→Prop} {tb:List (Nat×List Nat)} {id:Nat} {fz:Nat×Nat} {parts:List (Nat×Operand)} {ψ:IH→Value→Prop}
section
variable {A B C1 C2 C3 C4 C5 C6 C7 C8 C9:HA} {q:List HA}
theorem Del.p1:Del (C1 :: A :: q) A (C1 :: q):=.s .z
theorem At.p1:At (C1 :: A :: q) A (C1 :: B :: q) B:=.s .z
theorem Del.p2:Del (C1 :: C2 :: A :: q) A (C1 :: C2 :: q):=.s (.s .z)
theorem At.p2:At (C1 :: C2 :: A :: q) A (C1 :: C2 :: B :: q) B:=.s (.s .z)
theorem Del.p3:Del (C1 :: C2 :: C3 :: A :: q) A (C1 :: C2 :: C3 :: q):=.s (.s (.s .z))
theorem At.p3:At (C1 :: C2 :: C3 :: A :: q) A (C1 :: C2 :: C3 :: B :: q) B:=.s (.s (.s .z))
theorem Del.p4:Del (C1 :: C2 :: C3 :: C4 :: A :: q) A (C1 :: C2 :: C3 :: C4 :: q):=.s (.s (.s (.s .z)))
theorem At.p4:At (C1 :: C2 :: C3 :: C4 :: A :: q) A (C1 :: C2 :: C3 :: C4 :: B :: q) B:=.s (.s (.s (.s .z)))
theorem Del.p5:Del (C1 :: C2 :: C3 :: C4 :: C5 :: A :: q) A (C1 :: C2 :: C3 :: C4 :: C5 :: q):=.s (.s (.s (.s (.s .z))))
theorem At.p5:At (C1 :: C2 :: C3 :: C4 :: C5 :: A :: q) A (C1 :: C2 :: C3 :: C4 :: C5 :: B :: q) B:=.s (.s (.s (.s (.s .z))))
theorem Del.p6:Del (C1 :: C2 :: C3 :: C4 :: C5 :: C6 :: A :: q) A (C1 :: C2 :: C3 :: C4 :: C5 :: C6 :: q):=.s (.s (.s (.s (.s (.s .z)))))
theorem At.p6:At (C1 :: C2 :: C3 :: C4 :: C5 :: C6 :: A :: q) A (C1 :: C2 :: C3 :: C4 :: C5 :: C6 :: B :: q) B:=.s (.s (.s (.s (.s (.s .z)))))
theorem Del.p7:Del (C1 :: C2 :: C3 :: C4 :: C5 :: C6 :: C7 :: A :: q) A (C1 :: C2 :: C3 :: C4 :: C5 :: C6 :: C7 :: q):=.s (.s (.s (.s (.s (.s (.s .z))))))
theorem At.p7:At (C1 :: C2 :: C3 :: C4 :: C5 :: C6 :: C7 :: A :: q) A (C1 :: C2 :: C3 :: C4 :: C5 :: C6 :: C7 :: B :: q) B:=.s (.s (.s (.s (.s (.s (.s .z))))))
theorem Del.p8:Del (C1 :: C2 :: C3 :: C4 :: C5 :: C6 :: C7 :: C8 :: A :: q) A (C1 :: C2 :: C3 :: C4 :: C5 :: C6 :: C7 :: C8 :: q):=.s (.s (.s (.s (.s (.s (.s (.s .z)))))))
theorem At.p8:At (C1 :: C2 :: C3 :: C4 :: C5 :: C6 :: C7 :: C8 :: A :: q) A (C1 :: C2 :: C3 :: C4 :: C5 :: C6 :: C7 :: C8 :: B :: q) B:=.s (.s (.s (.s (.s (.s (.s (.s .z)))))))
theorem Del.p9:Del (C1 :: C2 :: C3 :: C4 :: C5 :: C6 :: C7 :: C8 :: C9 :: A :: q) A (C1 :: C2 :: C3 :: C4 :: C5 :: C6 :: C7 :: C8 :: C9 :: q):=.s (.s (.s (.s (.s (.s (.s (.s (.s .z))))))))
theorem At.p9:At (C1 :: C2 :: C3 :: C4 :: C5 :: C6 :: C7 :: C8 :: C9 :: A :: q) A (C1 :: C2 :: C3 :: C4 :: C5 :: C6 :: C7 :: C8 :: C9 :: B :: q) B:=.s (.s (.s (.s (.s (.s (.s (.s (.s .z))))))))
end
def xD:Nat->List HA->Option (HA×List HA)
 | _,[]=>none
 | 0,A :: q=>some (A,q)
 | k+1,C :: q=>match xD k q with
  | some (A,r)=>some (A,C :: r)
  | none=>none
theorem lT:∀ {k:Nat} {q r:List HA} {A:HA},xD k q=some (A,r)->Del q A r
 | _,[],_,_,h=>by cases ‹Nat› <;> cases h
 | 0,A :: q,_,_,h=>by cases h; exact .z
 | k+1,C :: q,r,A,h=>by
  simp only[xD] at h
  cases O:xD k q with
  | none=>rw[O] at h; cases h
  | some p=>have⟨_,_⟩:=p; rw[O] at h; cases h; exact .s (lT O)
theorem Del.o {q r:List HA} {A:HA} (k:Nat) (h:xD k q=some (A,r)):Del q A r:=lT h
def pkL:List Nat->List HA->Option (List HA)
 | [],_=>some []
 | k :: ks,q=>match xD k q with
  | some (A,r)=>match pkL ks r with
   | some s=>some (A :: s)
   | none=>none
  | none=>none
theorem Pick.o {q s:List HA} (O:List Nat) (h:pkL O q=some s):Pick q s:=by
 induction O generalizing q s with
 | nil=>cases h; exact .n
 | cons k O U=>
  simp only[pkL] at h
  cases V:xD k q with
  | none=>rw[V] at h; cases h
  | some p=>
   have⟨_,r⟩:=p; rw[V] at h; simp only at h
   cases hp:pkL O r with
   | none=>rw[hp] at h; cases h
   | some t=>rw[hp] at h; cases h; exact .c (lT V) (U hp)
def AjU:List Nat->List HA->Option (List HA×List HA)
 | [],q=>some ([],q)
 | k :: ks,q=>match xD k q with
  | some (A,r)=>match AjU ks r with
   | some (s,t)=>some (A :: s,t)
   | none=>none
  | none=>none
theorem Outs.o {q s t:List HA} (O:List Nat) (h:AjU O q=some (s,t)):Outs q s t:=by
 induction O generalizing q s t with
 | nil=>cases h; exact .n
 | cons k O U=>
  simp only[AjU] at h
  cases V:xD k q with
  | none=>rw[V] at h; cases h
  | some p=>
   have⟨_,r⟩:=p; rw[V] at h; simp only at h
   cases hp:AjU O r with
   | none=>rw[hp] at h; cases h
   | some u=>have⟨_,_⟩:=u; rw[hp] at h; cases h; exact .c (lT V) (U hp)
def ApR:Nat->List HA->Option (List HA)
 | 0,q=>some q
 | k+1,A :: q=>match ApR k q with
  | some r=>some (A :: r)
  | none=>none
 | _+1,[]=>none
theorem AjV:∀ {k:Nat} {q r:List HA},ApR k q=some r->q=r
 | 0,_,_,h=>by cases h; rfl
 | k+1,A :: q,r,h=>by
  simp only[ApR] at h
  cases hp:ApR k q with
  | none=>rw[hp] at h; cases h
  | some s=>rw[hp] at h; cases h; rw[AjV hp]
 | _+1,[],_,h=>by cases h
theorem Ops.rx (k:Nat) (h:ApR k m=some m') (g:Ops P ops l n E (Sym w0 M I0 I m') Q):Ops P ops l n E (Sym w0 M I0 I m) Q:=AjV h▸g
def AhA:Nat->List HA->Option (List HA)
 | 0,[]=>some []
 | 0,_ :: _=>none
 | k+1,A :: q=>match AhA k q with
  | some r=>some (A :: r)
  | none=>none
 | _+1,[]=>none
theorem sF:∀ {k:Nat} {q r:List HA},AhA k q=some r->q=r
 | 0,[],_,h=>by cases h; rfl
 | 0,_ :: _,_,h=>by cases h
 | k+1,A :: q,r,h=>by
  simp only[AhA] at h
  cases hp:AhA k q with
  | none=>rw[hp] at h; cases h
  | some s=>rw[hp] at h; cases h; rw[sF hp]
 | _+1,[],_,h=>by cases h
theorem Ops.rn (k:Nat) (h:AhA k m=some m') (g:Ops P ops l n E (Sym w0 M I0 I m') Q):Ops P ops l n E (Sym w0 M I0 I m) Q:=sF h▸g
theorem Cod.rn {c:Code} (k:Nat) (h:AhA k m=some m') (g:Cod P c n E (Sym w0 M I0 I m') Q):Cod P c n E (Sym w0 M I0 I m) Q:=sF h▸g
theorem Nrm.rn (k:Nat) (h:AhA k m=some m') (g:Nrm n E (Sym w0 M I0 I m') Q):Nrm n E (Sym w0 M I0 I m) Q:=sF h▸g
def AbN:List Value->Nat->Nat->Option (List Value)
 | _,0,0=>some []
 | c :: cs,0,j+1=>match AbN cs 0 j with
  | some vs=>some (c :: vs)
  | none=>none
 | _ :: cs,k+1,j=>AbN cs k j
 | [],_,_=>none
theorem Cut.o:∀ {cs vs:List Value} {k:Nat} (j:Nat),AbN cs k j=some vs->Cut cs k vs
 | cs,vs,0,0,h=>by cases cs <;> (simp only[AbN] at h; cases h; exact .nil)
 | c :: cs,vs,0,j+1,h=>by
  simp only[AbN] at h
  cases hp:AbN cs 0 j with
  | none=>rw[hp] at h; cases h
  | some O=>rw[hp] at h; cases h; exact .t (Cut.o j hp)
 | c :: cs,vs,k+1,j,h=>by
  simp only[AbN] at h;exact .s (Cut.o j h)
 | [],_,0,_+1,h=>by simp[AbN] at h
 | [],_,_+1,_,h=>by simp[AbN] at h
def lU:List Value->Nat->List Value->Option (List Value)
 | cs,0,[]=>some cs
 | _ :: cs,0,v :: vs=>match lU cs 0 vs with
  | some r=>some (v :: r)
  | none=>none
 | c :: cs,k+1,vs=>match lU cs k vs with
  | some r=>some (c :: r)
  | none=>none
 | [],_,_=>none
theorem PutC.o:∀ {cs vs O:List Value} {k:Nat},lU cs k vs=some O->PutC cs k vs O
 | cs,[],O,0,h=>by cases cs <;> (simp only[lU] at h; cases h; exact .nil)
 | c :: cs,v :: vs,O,0,h=>by
  simp only[lU] at h
  cases hp:lU cs 0 vs with
  | none=>rw[hp] at h; cases h
  | some U=>rw[hp] at h; cases h; exact .t (PutC.o hp)
 | c :: cs,vs,O,k+1,h=>by
  simp only[lU] at h
  cases hp:lU cs k vs with
  | none=>rw[hp] at h; cases h
  | some U=>rw[hp] at h; cases h; exact .s (PutC.o hp)
 | [],_ :: _,_,0,h=>by simp[lU] at h
 | [],_,_,_+1,h=>by simp[lU] at h
def reE:DF->DF->Option DF
 | [],_=>some []
 | p :: A,E=>match look E p.1 with
  | some v=>match reE A E with
   | some B=>some ((p.1,v) :: B)
   | none=>none
  | none=>none
theorem AjW:∀ {A E:DF},reE A E=some A->Sub A E
 | [],_,_=>trivial
 | p :: A,E,h=>by
  simp only[reE] at h
  cases U:look E p.1 with
  | none=>rw[U] at h; cases h
  | some v=>
   rw[U] at h; simp only at h
   cases V:reE A E with
   | none=>rw[V] at h; cases h
   | some B=>
    rw[V] at h;simp only[Ad0,Ad1] at h;obtain⟨O,rfl⟩:=h;exact⟨by rw[U,<-O],AjW V⟩
theorem Ok.re {E':DF} {a:Act} (O:Ok n E a) (h:reE E' E=some E'):Ok n E' a:=O.sub (AjW h)
def Jn (w0:World) (M:Nat->Prop) (I0 I1:IH) (n:FrK) (E:DF) (q:List HA):Act->World->Prop:=λc w=>∃ I,IH.le I1 I∧Ok n E c∧Sym w0 M I0 I q w
def Jx (w0:World) (M:Nat->Prop) (I0 I1:IH) (n:FrK) (F:IH->Prop) (E:DF) (q:List HA):Act->World->Prop:=λc w=>∃ I,IH.le I1 I∧F I∧Ok n E c∧Sym w0 M I0 I q w
theorem Cod.jn {c:Code} {U:(σ->Prop)->Prop} {k:σ->Prop} (V:EP U k) (ks W:List Nat) (a2:(AoJ ks E [],pkL W m)=(some E1,some m1))
 (O:(DF->List HA->Act->World->Prop)->DF->List HA->σ->Act->World->Prop) (h:∀ k,U k->Cod P c n E (Sym w0 M I0 I m) (Exit.then (λa w=>∃ s,k s∧O (Jn w0 M I0 I n) E1 m1 s a w) Q))
 (Z:∀ s,k s->∀ a w,O (Jn w0 M I0 I n) E1 m1 s a w->Q .normal a w):Cod P c n E (Sym w0 M I0 I m) Q:=Cod.joinQ V _ h Z
theorem Cod.jx {c:Code} {U:(σ->Prop)->Prop} {k:σ->Prop} (V:EP U k) (ks W:List Nat) (a2:(AoJ ks E [],pkL W m)=(some E1,some m1))
 (O:(FrK->(IH->Prop)->DF->List HA->Act->World->Prop)->DF->List HA->σ->Act->World->Prop) (h:∀ k,U k->Cod P c n E (Sym w0 M I0 I m) (Exit.then (λa w=>∃ s,k s∧O (Jx w0 M I0 I) E1 m1 s a w) Q))
 (Z:∀ s,k s->∀ a w,O (Jx w0 M I0 I) E1 m1 s a w->Q .normal a w):Cod P c n E (Sym w0 M I0 I m) Q:=Cod.joinQ V _ h Z
theorem Cod.lp {c:Code} {O:σ->(σ->Prop)->Prop} {s0:σ} (hd:B4 O s0) (ks ps:List Nat) (a2:(AoJ ks E [],pkL ps m)=(some E1,some m1))
 (U:(DF->List HA->Act->World->Prop)->DF->List HA->σ->Act->World->Prop) (h:∀ a w,Ok n E a->Sym w0 M I0 I m w->U (Jn w0 M I0 I n) E1 m1 s0 a w)
 (Z:∀ s (next:σ->Prop),O s next->∀ a w,U (Jn w0 M I0 I n) E1 m1 s a w->c.wpIn (WM n) 0 P (Exit.then (λW w'=>∃ V,next V∧U (Jn w0 M I0 I n) E1 m1 V W w') Q) a w):Cod P (.loop c) n E (Sym w0 M I0 I m) Q:=Cod.loop hd _ h Z
theorem Cod.lx {c:Code} {O:σ->(σ->Prop)->Prop} {s0:σ} (hd:B4 O s0) (ks ps:List Nat) (a2:(AoJ ks E [],pkL ps m)=(some E1,some m1))
 (U:(FrK->(IH->Prop)->DF->List HA->Act->World->Prop)->DF->List HA->σ->Act->World->Prop) (h:∀ a w,Ok n E a->Sym w0 M I0 I m w->U (Jx w0 M I0 I) E1 m1 s0 a w)
 (Z:∀ s (next:σ->Prop),O s next->∀ a w,U (Jx w0 M I0 I) E1 m1 s a w->c.wpIn (WM n) 0 P (Exit.then (λW w'=>∃ V,next V∧U (Jx w0 M I0 I) E1 m1 V W w') Q) a w):Cod P (.loop c) n E (Sym w0 M I0 I m) Q:=Cod.loop hd _ h Z
theorem ji {U:Act->World->Prop} {E':DF} {q:List HA} (O:I1.le I) (V:List Nat) (h:(U,reE E' E,pkL V m)=(Jn w0 M I0 I1 n E' q,some E',some q)):∀ a w,Ok n E a->Sym w0 M I0 I m w->U a w:=λa w Z W=>by injection h with h1 h2; injection h2 with h2 h3;rw[h1]; exact⟨I,O,Z.re h2,W.pick (.o V h3)⟩
theorem je {k:σ->Prop} {U:σ->Act->World->Prop} {E':DF} {q:List HA} (s:σ) (hk:k s) (O:I1.le I) (V:List Nat) (h:(U s,reE E' E,pkL V m)=(Jn w0 M I0 I1 n E' q,some E',some q)):∀ a w,Ok n E a->Sym w0 M I0 I m w->∃ s,k s∧U s a w:=
 λa w Z W=>⟨s,hk,ji O V h a w Z W⟩
theorem jf {F:IH->Prop} {E':DF} {q:List HA} {a:Act} {w:World} (O:I1.le I) (Z:F I) (U:List Nat) (h:(reE E' E,pkL U m)=(some E',some q)) (W:Ok n E a) (V:Sym w0 M I0 I m w):Jx w0 M I0 I1 n F E' q a w:=by injection h with h2 h3;exact⟨I,O,Z,W.re h2,V.pick (.o U h3)⟩
theorem jq {G:Act->World->Prop} {y:Code} {q:List HA} (W:G=λa w=>y.wpIn (WM n) 0 P Q' a w) (h:∀ O,I.le O->Cod P y n E (Sym w0 M I0 O q) Q'):∀ a w,Jn w0 M I0 I n E q a w->G a w:=λa w ⟨O,U,Z,V⟩=>by rw[W]; exact h O U a w Z V
class Up (A:Prop) (I J:IH) (B:outParam Prop):Prop where
 up:I.le J→A→B
instance {I J K:IH}:Up (IH.le K I) I J (IH.le K J):=⟨λh k=>k.trans h⟩
instance {α:Type} {El:EB α} {a:Option Addr} {cap:Nat} {xs:List α} {I J:IH}:Up (RepSl El I a cap xs) I J (RepSl El J a cap xs):=⟨λh k=>k.mono h⟩
instance {b off:Nat} {cs:List Value} {I J:IH}:Up (ImC I b off cs) I J (ImC J b off cs):=⟨λh k=>k.mono h⟩
instance {α:Type} {El:EB α} {O:List (kK El.sz)} {xs:List α} {I J:IH}:Up (RepR El I O xs) I J (RepR El J O xs):=⟨λh k=>k.mono h⟩
section
variable {J:IH} {A B C D F G A' B' C' D' F' G':Prop}
theorem IH.le.u1 (h:I.le J) (a:A) [Up A I J A']:A':=Up.up h a
theorem IH.le.u2 (h:I.le J) (a:A) (b:B) [Up A I J A'] [Up B I J B']:A'∧B':=⟨h.u1 a,h.u1 b⟩
theorem IH.le.u3 (h:I.le J) (a:A) (b:B) (c:C) [Up A I J A'] [Up B I J B'] [Up C I J C']:A'∧B'∧C':=⟨h.u1 a,h.u2 b c⟩
theorem IH.le.u4 (h:I.le J) (a:A) (b:B) (c:C) (d:D) [Up A I J A'] [Up B I J B'] [Up C I J C'] [Up D I J D']:A'∧B'∧C'∧D':=⟨h.u1 a,h.u3 b c d⟩
theorem IH.le.u5 (h:I.le J) (a:A) (b:B) (c:C) (d:D) (f:F) [Up A I J A'] [Up B I J B'] [Up C I J C'] [Up D I J D'] [Up F I J F']:A'∧B'∧C'∧D'∧F':=⟨h.u1 a,h.u4 b c d f⟩
theorem IH.le.u6 (h:I.le J) (a:A) (b:B) (c:C) (d:D) (f:F) (g:G) [Up A I J A'] [Up B I J B'] [Up C I J C'] [Up D I J D'] [Up F I J F'] [Up G I J G']:A'∧B'∧C'∧D'∧F'∧G':=⟨h.u1 a,h.u5 b c d f g⟩
end
theorem rf:IH.le I I:=.refl _
def rsl (k:Nat) (h:List Nat):DF->Option (DF×List Nat)
 | []=>some ([],[])
 | (q,x) :: E=>match rsl k h E with
  | some (F,ns)=>bif L6 h q then match x with
    | .slice a j c=>some ((q,.slice a k c) :: F,j :: ns)
    | _=>none
   else some ((q,x) :: F,ns)
  | none=>none
def cps (k:Nat):List Nat->List Nat
 | []=>[]
 | _ :: r=>k :: cps k r
theorem AjX {k:Nat}:∀ {O:List Nat} {j:Nat},j∈cps k O->j=k
 | _ :: _,_,h=>by
  simp only[cps,SK] at h;rcases h with h | h
  . exact h
  . exact AjX h
theorem AhB {k:Nat} {U:List Nat} {a:Act}:∀ {E E':DF} {O:List Nat},rsl k U E=some (E',O)->(∀ j∈O,j=k)->EnvOk E a->EnvOk E' a
 | [],_,_,h,_,_=>by cases h; trivial
 | (y,x) :: E,E',O,h,hn,he=>by
  simp only[rsl] at h
  cases W:rsl k U E with
  | none=>rw[W] at h; cases h
  | some q=>
   have⟨_,_⟩:=q;rw[W] at h; simp only at h
   cases Z:L6 U y with
   | false=>rw[Z] at h; cases h; exact⟨he.1,AhB W hn he.2⟩
   | true=>
    rw[Z] at h; simp only[cond_true] at h;split at h
    . rename_i b u j c;cases h;have V:j=k:=hn j (by simp);exact⟨by rw[<-V]; exact he.1,AhB W (λi hi=>hn i (by simp[hi])) he.2⟩
    . cases h
theorem Ops.rl {k:Nat} {E':DF} (Z:Del m (OwnSl El T a cap xs) m') (U:List Nat) (h:rsl xs.length U E=some (E',cps k U)) (hk:xs.length=k) (g:Ops P ops l n E' (Sym w0 M I0 I m) Q):Ops P ops l n E (Sym w0 M I0 I m) Q:=
 λc w O V=>g c w ⟨O.size,O.defers,AhB h (λ_ W=>by rw[hk]; exact AjX W) O.env⟩ V
theorem Ops.no {z:Code} {E':DF} (O:Nat) (h:(selN O E [],λa w=>Q .normal a w)=(some E',λa w=>z.wpIn (WM n) 0 P Q' a w)) (g:Cod P z n E' S Q'):Ops P ops [] n E S Q:=by injection h with h1 h2; exact .nilS O h1 h2 g
theorem Ops.nkT (Z:AllOk P tb) {z:Code} {E' W:DF} {O U:List Oper} (V:Nat) (j:Nat)
  (h:(selN V E [],(λa w=>Q .normal a w),tF tb O.toArray n j O E')=(some E',(λa w=>(Code.seq (.region id O.toArray false) z).wpIn (WM n) 0 P Q' a w),some (U,W)))
  (g:Ops P O.toArray U n W S (Exit.then (z.wpIn (WM n) 0 P Q') Q')):Ops P ops [] n E S Q:=by
 injection h with h1 h2; injection h2 with h2 h3; exact .nilS V h1 h2 (.sr (.ksT Z j h3 g))
theorem Ops.ns {z:Code} {E':DF} {O:List Oper} (U:Nat)
  (h:(selN U E [],(λa w=>Q .normal a w))=(some E',(λa w=>(Code.seq (.region id O.toArray false) z).wpIn (WM n) 0 P Q' a w)))
  (g:Ops P O.toArray O n E' S (Exit.then (z.wpIn (WM n) 0 P Q') Q')):Ops P ops [] n E S Q:=by
 injection h with h1 h2; exact .nilS U h1 h2 (.sr g)
theorem Cod.skT (U:AllOk P tb) {l O:List Oper} {z:Code} {E':DF} (j:Nat) (h:tF tb l.toArray n j l E=some (O,E')) (g:Ops P l.toArray O n E' S (Exit.then (z.wpIn (WM n) 0 P Q) Q)):Cod P (.seq (.region id l.toArray false) z) n E S Q:=.sr (.ksT U j h g)
theorem Ops.knT (U:AllOk P tb) {z:Code} {E':DF} (j:Nat) (O:Nat) (h:(tF tb ops n j l E,selN O E1 [],λa w=>Q .normal a w)=(some ([],E1),some E',λa w=>z.wpIn (WM n) 0 P Q' a w)) (g:Cod P z n E' S Q'):Ops P ops l n E S Q:=by injection h with h1 h2; injection h2 with h2 h3; exact .ksT U j h1 (.nilS O h2 h3 g)
theorem Cod.sn {z:Code} {E':DF} (O:Nat) (h:(selN O E [],λa w=>Q .normal a w)=(some E',λa w=>z.wpIn (WM n) 0 P Q' a w)) (g:Cod P z n E' S Q'):Cod P .skip n E S Q:=by injection h with h1 h2; exact .skipS O h1 h2 g
theorem Cod.en {z:Code} {k:Nat} {E':DF} (O:Nat) (h:(selN O E [],λa w=>Q (.exit k) a w)=(some E',λa w=>z.wpIn (WM n) 0 P Q' a w)) (g:Cod P z n E' S Q'):Cod P (.exit k) n E S Q:=by injection h with h1 h2; exact .exitS O h1 h2 g
theorem Ops.fo {i:Nat} {f:Field} {b off s:Nat} (O:P.underlying T=some (.struct fs)) (o:Nat) (h:(fs[i]?,ev E x,off+f.offset,Nat.blt d n.sz,fresh E d)=(some f,some (.pointer (some ⟨b,off,none⟩)),o,true,true))
  (U:∀ w,(sizeOf f.type).run P w=.ok (s+1) w) (k:Ops P ops l n ((d,.pointer (some ⟨b,o,none⟩)) :: E) S Q):Ops P ops (⟨some d,.fieldAddr T x i,ty,pos,af,none⟩ :: l) n E S Q:=by
 injection h with h1 h; injection h with h2 h; injection h with h3 h; injection h with h4 h5; exact .fa O h1 U h2 h3 h4 h5 k
theorem Ops.lo {b off:Nat} {cs:List Value} {v:Value} (O:∀ w,(isAgg T).run P w=.ok false w) (U:Del m (pto b (.cells cs.toArray T' fz)) m')
  (h:(ev E x,cs[off]?,Nat.blt d n.sz,fresh E d)=(some (.pointer (some ⟨b,off,none⟩)),some v,true,true)) (k:Ops P ops l n ((d,v) :: E) (Sym w0 M I0 I m) Q):Ops P ops (⟨some d,.load T x,ty,pos,af,none⟩ :: l) n E (Sym w0 M I0 I m) Q:=by
 injection h with h1 h; injection h with h2 h; injection h with h3 h4; exact .load1 O h1 U h2 h3 h4 k
theorem Ops.lw {b s:Nat} {cs:List Value} (O:∀ w,(isAgg T).run P w=.ok true w) (U:∀ w,(sizeOf T).run P w=.ok s w) (V:Del m (pto b (.cells cs.toArray T' fz)) m')
  (h:(ev E x,cs.length,Nat.blt d n.sz,fresh E d)=(some (.pointer (some ⟨b,0,none⟩)),s,true,true)) (k:Ops P ops l n ((d,.agg cs.toArray) :: E) (Sym w0 M I0 I m) Q):Ops P ops (⟨some d,.load T x,ty,pos,af,none⟩ :: l) n E (Sym w0 M I0 I m) Q:=by
 injection h with h1 h; injection h with h2 h; injection h with h3 h4; exact .loadW O U h1 V h2 h3 h4 k
theorem Ops.sa {b off s:Nat} {cs vs O:List Value} (U:∀ w,(sizeOf T).run P w=.ok s w) (V:At m (pto b (.cells cs.toArray T' (0,0))) m' (pto b (.cells O.toArray T' (0,0))))
  (h:(ev E x,ev E y,lU cs off vs,vs.length,KE vs)=(some (.pointer (some ⟨b,off,none⟩)),some (.agg vs.toArray),some O,s,true)) (k:Ops P ops l n E (Sym w0 M I0 I m') Q):Ops P ops (⟨none,.store T x y,ty,pos,af,none⟩ :: l) n E (Sym w0 M I0 I m) Q:=by
 injection h with h1 h; injection h with h2 h; injection h with h3 h; injection h with h4 h5; exact .storeA U h1 h2 V (.o h3) h4 h5 k
theorem Ops.s1 {b off:Nat} {cs O:List Value} {v:Value} (U:∀ w,(sizeOf T).run P w=.ok 1 w) (V:At m (pto b (.cells cs.toArray T' (0,0))) m' (pto b (.cells O.toArray T' (0,0))))
  (h:(ev E x,ev E y,lU cs off [v],one v)=(some (.pointer (some ⟨b,off,none⟩)),some v,some O,true)) (k:Ops P ops l n E (Sym w0 M I0 I m') Q):Ops P ops (⟨none,.store T x y,ty,pos,af,none⟩ :: l) n E (Sym w0 M I0 I m) Q:=by
 injection h with h1 h; injection h with h2 h; injection h with h3 h4; exact .store1 U h1 h2 V (.o h3) h4 k
theorem Ops.yes {O:Option Nat} {U:Op} {j s:Nat} {b c:Bool} (h:(pR ops j,look E s,c)=(some s,some (.bool c),b)) (k:Ops P ops (⟨O,U,ty,pos,af,none⟩ :: l) n E S Q):Ops P ops (⟨O,U,ty,pos,af,some (j,b)⟩ :: l) n E S Q:=by injection h with h1 h; injection h with h2 h3; exact .gyes h1 h2 h3 k
theorem DrawD.h {cs:List (Option Nat)} {dn:HX} {X pend:List Nat} {as:List AS} {L:Sh} {c:Nat} {o:Oper} {v:Value} (h:(ops[c]?,o.dst,fresh E d)=(some o,some d,true)) (g:∀ {O},Ops P ops [o] n (JI dn (EX o) E) (Sym w0 M I0 I (L O)) (Fin n (Sym w0 M I0 I (L O)) d v))
  (k:DrawD P ops n Q w0 M I0 E cs ((c,d,v) :: dn) (c :: X) (c :: pend) as I L):DrawD P ops n Q w0 M I0 E (some c :: cs) dn X pend as I L:=by
 injection h with h1 h; injection h with h2 h3; exact .g h1 h2 h3 (λ_=>g) k
theorem RepSl.ix {enc:α->List Value} {s:Nat} {V:∀ x,(enc x).length=s∧KE (enc x)=true} {a:Option Addr} {cap:Nat} {xs:List α} {i:Int} {k:α->Prop} (h:RepSl (EW s enc V) I a cap xs) (U:AR xs i k) :
  ∃ (_:0<=i) (x:α) (_:xs[i.toNat]? = some x) (b off:Nat),a=some ⟨b,off,none⟩∧ImC I b (off+i.toNat*s) (enc x)∧k x:=by
 have⟨h0,x,O,hk⟩:=U;have⟨b,off,_,h1,Z,W⟩:=h.2 _ _ O;cases W;exact⟨h0,x,O,b,off,h1,Z,hk⟩
theorem Ops.ixb {S:World->Prop} {k s off b:Nat} {q:IntKind} {i:Int} {v:α} (W:P.underlying T=some (.slice e)) (U:∀ w,(sizeOf e).run P w=.ok s w) (Z:a=some ⟨b,off,none⟩) (O:0<=i) (V:xs[i.toNat]? = some v)
  (h:(ev E x,ev E y,xs.length,Nat.blt d n.sz,fresh E d)=(some (.slice a k cap),some (.int q i),k,true,true)) (g:Ops P ops l n ((d,.pointer (some ⟨b,off+i.toNat*s,none⟩)) :: E) S Q):Ops P ops (⟨some d,.indexAddr T x y,ty,pos,af,none⟩ :: l) n E S Q:=by
 injection h with h1 h; injection h with h2 h; injection h with h3 h; injection h with h4 h5; subst h3; exact .ixa W U h1 Z h2 O (BF V O) h4 h5 g
theorem Ops.ldb {b off o:Nat} {cs:List Value} {v:Value} (j:Nat) (U:∀ w,(isAgg T).run P w=.ok false w) (O:ImC I b off cs) (h:(ev E x,off+j,cs[j]?,Nat.blt d n.sz,fresh E d)=(some (.pointer (some ⟨b,o,none⟩)),o,some v,true,true))
  (k:Ops P ops l n ((d,v) :: E) (Sym w0 M I0 I m) Q):Ops P ops (⟨some d,.load T x,ty,pos,af,none⟩ :: l) n E (Sym w0 M I0 I m) Q:=by
 injection h with h1 h; injection h with h2 h; injection h with h3 h; injection h with h4 h5; exact .ld1 U O h1 h2.symm h3 h4 h5 k
def rpl (h:List Nat) (v:Value):DF->Option (DF×List Value)
 | []=>some ([],[])
 | (k,x) :: E=>match rpl h v E with
  | some (F,ns)=>bif L6 h k then some ((k,v) :: F,x :: ns) else some ((k,x) :: F,ns)
  | none=>none
def rep (v:Value):List Nat->List Value
 | []=>[]
 | _ :: r=>v :: rep v r
theorem AbO {v x:Value}:∀ {O:List Nat},x∈rep v O->x=v
 | _ :: _,h=>by
  simp only[rep,SK] at h;rcases h with h | h
  . exact h
  . exact AbO h
theorem AbP {U:List Nat} {v:Value} {a:Act}:∀ {E E':DF} {O:List Value},rpl U v E=some (E',O)->(∀ x∈O,x=v)->EnvOk E a->EnvOk E' a
 | [],_,_,h,_,_=>by cases h; trivial
 | (k,x) :: E,E',O,h,hn,he=>by
  simp only[rpl] at h
  cases V:rpl U v E with
  | none=>rw[V] at h; cases h
  | some q=>
   have⟨_,_⟩:=q;rw[V] at h; simp only at h
   cases W:L6 U k with
   | false=>rw[W] at h; cases h; exact⟨he.1,AbP V hn he.2⟩
   | true=>
    rw[W] at h; cases h;exact⟨by rw[<-hn x (by simp)]; exact he.1,AbP V (λi hi=>hn i (by simp[hi])) he.2⟩
theorem Ops.spl {t:Bool} {A B:Prop} {Z:DF} (h:A5 t A B) (U:List Nat) (a2:(rpl U (.bool true) E,rpl U (.bool false) E)=(some (E1,rep (.bool t) U),some (Z,rep (.bool t) U)))
  (h1:t=true->A->Ops P ops l n E1 S Q) (h0:t=false->B->Ops P ops l n Z S Q):Ops P ops l n E S Q:=by
 injection a2 with g1 g0
 cases t with
 | true=>exact λc w O V=>h1 rfl (h.1 rfl) c w ⟨O.size,O.defers,AbP g1 (λ_ W=>AbO W) O.env⟩ V
 | false=>exact λc w O V=>h0 rfl (h.2 rfl) c w ⟨O.size,O.defers,AbP g0 (λ_ W=>AbO W) O.env⟩ V
def At0 (fs:Array Field) (E:DF):List Value->List (Nat×Operand)->Option (List Value)
 | z,[]=>some z
 | z,p :: r=>match fs[p.1]? with
  | some f=>match ev E p.2 with
   | some v=>match lU z f.offset (cellsOf v) with
    | some h=>At0 fs E h r
    | none=>none
   | none=>none
  | none=>none
theorem AjY :∀ {r:List (Nat×Operand)} {z cs:List Value},At0 fs E z r=some cs->nY fs E z r cs
 | [],_,_,h=>by cases h; exact .n
 | p :: r,z,cs,h=>by
  simp only[At0] at h;split at h
  . rename_i f U;split at h
    . rename_i v O;split at h
      . rename_i W V; exact .c U O rfl (.o V) (AjY h)
      . cases h
    . cases h
  . cases h
def szA (P:Program) (fs:Array Field):List (Nat×Operand)->Option (List Nat)
 | []=>some []
 | p :: r=>match fs[p.1]? with
  | some f=>match szA P fs r with
   | some q=>some (P.cellsOf f.type :: q)
   | none=>none
  | none=>none
def szB (E:DF):List (Nat×Operand)->Option (List Nat)
 | []=>some []
 | p :: r=>match ev E p.2 with
  | some v=>match szB E r with
   | some q=>some ((cellsOf v).length :: q)
   | none=>none
  | none=>none
theorem AuS :∀ {r:List (Nat×Operand)} {q:List Nat},szA P fs r=some q->szB E r=some q->AaN P E fs r
 | [],_,_,_=>trivial
 | p :: r,q,h,h'=>by
  simp only[szA] at h;simp only[szB] at h';split at h
  . rename_i f U;split at h
    . rename_i Z W;split at h'
      . rename_i v O;split at h'
        . rename_i q2 V;cases h;injection h' with h';injection h' with h3 h4;subst h4;exact⟨⟨f,v,U,O,h3.symm⟩,AuS W V⟩
        . cases h'
      . cases h'
    . cases h
  . cases h
theorem Ops.bd {z:List Value} {cs:List Value} {q:List Nat} (O:∀ w,(zeroValue T).run P w=.ok (.agg z.toArray) w) (U:P.underlying T=some (.struct fs)) (V:(P.fieldsOf T).toList.all (λf=>(P.info? f.type).isSome)=true)
  (h:(At0 fs E z parts,szA P fs parts,szB E parts,Nat.blt d n.sz,fresh E d)=(some cs,some q,some q,true,true)) (k:Ops P ops l n ((d,.agg cs.toArray) :: E) S Q):Ops P ops (⟨some d,.build T parts.toArray,ty,pos,af,none⟩ :: l) n E S Q:=by
 injection h with h1 h; injection h with h2 h; injection h with h3 h; injection h with h4 h5; exact .build O U V (AjY h1) (AuS h2 h3) h4 h5 k
def At1 (E:DF) (s:Nat):List Value->List (Nat×Operand)->Option (List Value)
 | z,[]=>some z
 | z,p :: r=>match ev E p.2 with
  | some v=>bif Nat.beq (cellsOf v).length s then match lU z (p.1*s) (cellsOf v) with
    | some h=>At1 E s h r
    | none=>none
   else none
  | none=>none
theorem AjZ {s:Nat}:∀ {r:List (Nat×Operand)} {z cs:List Value},At1 E s z r=some cs->oD E s z r cs
 | [],_,_,h=>by cases h; exact .n
 | p :: r,z,cs,h=>by
  simp only[At1] at h;split at h
  . rename_i v O
    cases V:Nat.beq (cellsOf v).length s with
    | false=>rw[V] at h; cases h
    | true=>
     rw[V] at h; simp only[cond_true] at h;split at h
     . rename_i W U; exact .c O rfl (AfY V) (.o U) (AjZ h)
     . cases h
  . cases h
theorem Ops.ba {O s:Nat} {z:List Value} {cs:List Value} (W:∀ w,(zeroValue T).run P w=.ok (.agg z.toArray) w) (U:P.underlying T=some (.array O e)) (V:∀ w,(sizeOf e).run P w=.ok s w)
  (h:(At1 E s z parts,Nat.blt d n.sz,fresh E d)=(some cs,true,true)) (k:Ops P ops l n ((d,.agg cs.toArray) :: E) S Q):Ops P ops (⟨some d,.build T parts.toArray,ty,pos,af,none⟩ :: l) n E S Q:=by
 injection h with h1 h; injection h with h2 h3; exact .buildArr W U V (AjZ h1) h2 h3 k
def At2 (E:DF) (s:Nat):Nat->List (Nat×Operand)->Option (List Value)
 | _,[]=>some []
 | i,p :: r=>bif Nat.beq p.1 i then match ev E p.2 with
   | some v=>bif Nat.beq (cellsOf v).length s then match At2 E s (i+1) r with
     | some cs=>some (cellsOf v++cs)
     | none=>none
    else none
   | none=>none
  else none
theorem Ak0 {s:Nat}:∀ {r:List (Nat×Operand)} {i:Nat} {cs:List Value},At2 E s i r=some cs->oC E s i r cs
 | [],_,_,h=>by cases h; exact .n
 | p :: r,i,cs,h=>by
  simp only[At2] at h
  cases hi:Nat.beq p.1 i with
  | false=>rw[hi] at h; cases h
  | true=>
   rw[hi] at h; simp only[cond_true] at h;obtain rfl:=AfY hi;split at h
   . rename_i v O
     cases V:Nat.beq (cellsOf v).length s with
     | false=>rw[V] at h; cases h
     | true=>
      rw[V] at h; simp only[cond_true] at h;split at h
      . rename_i q U; cases h; exact .c O rfl (AfY V) (Ak0 U)
      . cases h
   . cases h
theorem Ops.bs {s:Nat} {z:Value} {cs:List Value} (k:Nat) (O:P.underlying T=some (.slice e)) (U:∀ w,(sizeOf e).run P w=.ok s w) (W:∀ w,(zeroValue e).run P w=.ok z w)
  (h:(At2 E s 0 parts,parts.length,Nat.ble (k*s) 16777216,Nat.blt d n.sz,fresh E d)=(some cs,k,true,true,true))
  (V:∀ b,Ops P ops l n ((d,.slice (some ⟨b,0,none⟩) k k) :: E) (Sym w0 M I0 I (pto b (.cells cs.toArray e) :: m)) Q) :
  Ops P ops (⟨some d,.buildSlice T k parts.toArray,ty,pos,af,none⟩ :: l) n E (Sym w0 M I0 I m) Q:=by
 injection h with h1 h; injection h with h2 h; injection h with h3 h; injection h with h4 h5; exact .buildSlice k O U W h2.symm h3 (Ak0 h1) h4 h5 V
theorem DrawD.hl {cs:List (Option Nat)} {dn:HX} {X pend:List Nat} {as:List AS} {L:Sh} {c:Nat} {v:Value} {b off:Nat} {vs:List Value} {r:List HA->List HA} (V:∀ w,(isAgg T).run P w=.ok false w) (k:Nat)
  (h:(ops[c]?,fresh E d,(λO=>xD k (L O)),ev (JI dn (EX ⟨some d,.load T x,ty,pos,af,none⟩) E) x,vs[off]?,Nat.blt d n.sz,fresh (JI dn (EX ⟨some d,.load T x,ty,pos,af,none⟩) E) d) =
   (some ⟨some d,.load T x,ty,pos,af,none⟩,true,(λO=>some (pto b (.cells vs.toArray T' fz),r O)),some (.pointer (some ⟨b,off,none⟩)),some v,true,true))
  (U:DrawD P ops n Q w0 M I0 E cs ((c,d,v) :: dn) (c :: X) (c :: pend) as I L):DrawD P ops n Q w0 M I0 E (some c :: cs) dn X pend as I L:=by
 injection h with h1 h; injection h with h2 h; injection h with h3 h; injection h with h4 h; injection h with h5 h; injection h with h6 h7;exact .g h1 rfl h2 (λO=>.load1 V h4 (lT (congrFun h3 O)) h5 h6 h7 .mk) U
theorem PendL.ch {S:List HA->World->Prop} {dn:HX} {f:Nat} {fs:List Nat} {o:Oper} {v:Value} (h:(ops[f]?,o.dst,fresh E d,I8 dn f)=(some o,some d,true,some (d,v))) (g:∀ {O},Ops P ops [o] n (JI dn (EX o) E) (S O) (Fin n (S O) d v))
  (k:PendL P ops n E dn S fs):PendL P ops n E dn S (f :: fs):=by
 injection h with h1 h; injection h with h2 h; injection h with h3 h4; exact .cg h1 h2 h3 h4 (λ_=>g) k
theorem Ops.ln {S:World->Prop} {k:Nat} (O:P.underlying T=some (.slice e)) (h:(tys[0]?,ev E x,Nat.blt d n.sz,fresh E d)=(some T,some (.slice a k cap),true,true))
  (g:Ops P ops l n ((d,.int .i64 (k:Int)) :: E) S Q):Ops P ops (⟨some d,.call ⟨.builtin .len,#[x],tys⟩,ty,pos,af,none⟩ :: l) n E S Q:=by
 injection h with h1 h; injection h with h2 h; injection h with h3 h4; exact .len O h1 h2 h3 h4 g
theorem Ops.al {z:Array Value} (O:∀ w,(zeroValue T).run P w=.ok (.agg z) w) (h:(Nat.blt d n.sz,fresh E d)=(true,true))
  (k:∀ b,Ops P ops l n ((d,.pointer (some ⟨b,0,none⟩)) :: E) (Sym w0 M I0 I (pto b (.cells z T) :: m)) Q):Ops P ops (⟨some d,.alloc T,ty,pos,af,none⟩ :: l) n E (Sym w0 M I0 I m) Q:=by
 injection h with h1 h2; exact .allocA O h1 h2 k
theorem Ops.bx {z:Array Value} (h:(ev E x,Nat.blt d n.sz,fresh E d)=(some (.agg z),true,true))
  (k:∀ b,Ops P ops l n ((d,.pointer (some ⟨b,0,none⟩)) :: E) (Sym w0 M I0 I (pto b (.cells z T) :: m)) Q):Ops P ops (⟨some d,.box T x,ty,pos,af,none⟩ :: l) n E (Sym w0 M I0 I m) Q:=by
 injection h with h1 h; injection h with h2 h3; exact .boxA h1 h2 h3 k
theorem Ops.cq {g:FuncId} {args:List Operand} {vs:List Value} {ρ:Type} {O:ρ->Value} {R:ρ->Prop} (W:∀ as w,(callFunc g as).run P w=.ok (.enter g as) w) (V:B6 P g vs I λ_ v=>∃ r,v=O r∧R r)
  (h:(evs E args,Nat.blt d n.sz,fresh E d)=(some vs,true,true)) (k:∀ r,R r->Ops P ops l n ((d,O r) :: E) (Sym w0 M I0 I m) Q):Ops P ops (⟨some d,.call ⟨.value (.func g),args.toArray,tys⟩,ty,pos,af,none⟩ :: l) n E (Sym w0 M I0 I m) Q:=by
 injection h with h1 h; injection h with h2 h3; exact .callP W h1 V h2 h3 λv ⟨r,U,Z⟩=>by subst U; exact k r Z
def zN:Nat->List Value->Option DF
 | _,[]=>some []
 | i,v :: vs=>match zN (i+1) vs with
  | some E=>some ((i,v) :: E)
  | none=>none
theorem AeD:∀ {i:Nat} {vs:List Value} {E:DF},zN i vs=some E->ArgsE i vs E
 | _,[],_,h=>by cases h; exact .n
 | i,v :: vs,E,h=>by
  simp only[zN] at h
  cases O:zN (i+1) vs with
  | none=>rw[O] at h; cases h
  | some F=>rw[O] at h; cases h; exact .c (AeD O)
theorem Fun.en {f:FuncId} {c:Code} {z:Nat} {vs:List Value} {q:List HA} (U:P.funcs[f]? = some fn) (O:fn.ntmps=z) (h:(fn.body,Nat.ble vs.length z,zN 0 vs)=(some c,true,some E))
  (k:∀ w M,Cod P c ⟨z,[],none⟩ E (Sym w M I I q) (IF P fn (SA w M I φ))):Fun P f vs.toArray I q φ:=by
 injection h with h1 h; injection h with h2 h3; exact .enter U h1 O h2 (AeD h3) k
theorem Cod.r1 {z t:Nat} {v:Value} (hr:fn.results=[ResultVar.tmp t].toArray) (h:(look E t,λa w=>Q .ret a w)=(some v,IF P fn (SA w0 M I0 λU v l=>l=[]∧ψ U v) .ret)) (O:I0.le I) (W:ψ I v) :
  Cod P .ret ⟨z,[],none⟩ E (Sym w0 M I0 I m) Q:=by
 injection h with h1 h2; exact .ret λc w Z V=>(congrFun (congrFun h2 c) w).mpr (B7 hr (.t h1 .n) O W c w Z V)
theorem Cod.r0 {z t:Nat} {v:Value} (V:fn.results=[ResultVar.tmp t].toArray) (h:(look E t,λa w=>Q .ret a w)=(some v,IF P fn (SA w0 M I λO v l=>l=[]∧ψ O v) .ret)) (U:ψ I v) :
 Cod P .ret ⟨z,[],none⟩ E (Sym w0 M I I m) Q:=.r1 V h rf U
theorem Cod.q1 {z t:Nat} {v:Value} (Z:fn.results=[ResultVar.tmp t].toArray) (O:I0.le I) (U:List Nat) (h:(look E t,pkL U m,λa w=>Q .ret a w)=(some v,some m',IF P fn (SA w0 M I0 φ) .ret)) (hφ:φ I v m') :
  Cod P .ret ⟨z,[],none⟩ E (Sym w0 M I0 I m) Q:=by
 injection h with h1 h; injection h with h2 h3; exact .ret λc w W V=>(congrFun (congrFun h3 c) w).mpr (DX Z (.t h1 .n) O (.o U h2) hφ c w W V)
theorem DrawD.gn {cs:List (Option Nat)} {dn:HX} {X pend:List Nat} {as:List AS} {L:Sh} {c j s:Nat} {b V:Bool} {O:Op} (h:(ops[c]?,pR ops j,look (JI dn (EX ⟨some d,O,ty,pos,af,some (j,b)⟩) E) s,Nat.blt d n.sz,fresh E d,fresh (JI dn (EX ⟨some d,O,ty,pos,af,some (j,b)⟩) E) d)=(some (⟨some d,O,ty,pos,af,some (j,b)⟩:Oper),some s,some (.bool V),true,true,true)) (U:V = !b)
  (k:DrawD P ops n Q w0 M I0 E cs ((c,d,undef) :: dn) (c :: X) (c :: pend) as I L):DrawD P ops n Q w0 M I0 E (some c :: cs) dn X pend as I L:=by
 injection h with h1 h; injection h with h2 h; injection h with h3 h; injection h with h4 h; injection h with h5 h6;exact .g h1 rfl h5 (λ_=>.gno h2 h3 U h4 h6 .mk) k
theorem DrawD.aP {z:Array Value} {cs:List (Option Nat)} {dn:HX} {X pend:List Nat} {as:List AS} {L:Sh} {c:Nat} (O:∀ w,(zeroValue T).run P w=.ok (.agg z) w) (h:(ops[c]?,Nat.blt d n.sz,fresh E d,fresh (JI dn (EX ⟨some d,.alloc T,ty,pos,af,none⟩) E) d,AaP X (EX ⟨some d,.alloc T,ty,pos,af,none⟩))=(some (⟨some d,.alloc T,ty,pos,af,none⟩:Oper),true,true,true,true))
  (k:DrawD P ops n Q w0 M I0 E cs dn X pend (⟨c,d,JI dn (EX ⟨some d,.alloc T,ty,pos,af,none⟩) E,λb=>.pointer (some ⟨b,0,none⟩),λb=>pto b (.cells z T (0,0))⟩ :: as) I L):DrawD P ops n Q w0 M I0 E (some c :: cs) dn X pend as I L:=by
 injection h with h1 h; injection h with h2 h; injection h with h3 h; injection h with h4 h5;exact .a (λb=>.pointer (some ⟨b,0,none⟩)) (λb=>pto b (.cells z T (0,0))) h1 rfl h3 h5 (λ_ L U _=>.al O (by rw[h2,h4]) λb=>.mk (val:=λb=>.pointer (some ⟨b,0,none⟩)) (atom:=λb=>pto b (.cells z T (0,0))) U b) k
theorem Fun.ee {f:FuncId} {c:Code} {z:Nat} {vs:List Value} {q:List HA} (U:P.funcs[f]? = some fn) (O:fn.ntmps=z) (h:(fn.body,Nat.ble vs.length z,zN 0 vs)=(some c,true,some E))
 (k:∀ {w M},Cod P c ⟨z,[],none⟩ E (Sym w M I I q) (IF P fn (SA w M I φ))):Fun P f vs.toArray I q φ:=.en U O h λ_ _=>k
theorem Ops.ap {sT e':TypeId} {i:TypeInfo} {W v:Value} {B:Nat} (hA:Del m (OwnSl El e a cap xs) m') (hT:P.underlying sT=some (.slice e)) (V:P.underlying T'=some (.slice e')) (hi:P.info? e=some i)
  (h:(i.size,i.bytes,i.zero,W.cells.size,Nat.blt 0 B,tys,ev E x,ev E y,Nat.blt d n.sz,fresh E d)=(El.sz,B,some W,El.sz,true,#[sT,T'],some (.slice a xs.length cap),some v,true,true)) (hS:Src P El I (Sym w0 M I0 I m) v ys) (U:(xs.length+ys.length)*B<=140737488355328)
  (k':∀ Z O,Ops P ops l n ((d,.slice Z (xs++ys).length O) :: E) (Sym w0 M I0 I (OwnSl El e Z O (xs++ys) :: m')) Q):Ops P ops (⟨some d,.call ⟨.builtin .append,#[x,y],tys⟩,ty,pos,af,none⟩ :: l) n E (Sym w0 M I0 I m) Q:=by
 injection h with h1 h; injection h with h2 h; injection h with h3 h; injection h with h4 h; injection h with h5 h; injection h with h6 h; injection h with h7 h; injection h with h8 h; injection h with h9 h;exact .append B hA hT V hi h1 h2 h3 h4 h5 h6 h7 rfl h8 hS U h9 h k'
theorem WPost.sp {c:Nat} {cs:List (Option Nat)} {dn:HX} {X:List Nat} {as:List AS} {o:Oper} {v:Value} {O:List Nat} {E':DF} {V W U:List HA} (Z:Nat) (h:(tkL Z W,o.dst,aY U V)=(Option.some U,Option.some d,W)) (hp:PendL P ops n E ((c,d,v) :: dn) (λV=>Sym w0 M I0 I (aY U V)) O)
  (k:DrawD P ops n Q w0 M I0 E cs ((c,d,v) :: dn) (c :: X) O as I (aY U)):Ops P ops [] n ((d,v) :: E') (Sym w0 M I0 I W) (WPost P ops n E Q w0 M I0 o c cs dn X O as V):=by
 injection h with h1 h; injection h with h2 h3; exact .so Z h1 h3 h2 hp k
theorem Ops.ca {g:FuncId} {args:List Operand} {vs:List Value} (V:∀ as w,(callFunc g as).run P w=.ok (.enter g as) w) (h:(evs E args,Nat.blt d n.sz,fresh E d)=(some vs,true,true)) (U:B6 P g vs I ψ)
  (k:∀ v O,I.le O->ψ O v->Ops P ops l n ((d,v) :: E) (Sym w0 M I0 O m) Q):Ops P ops (⟨some d,.call ⟨.value (.func g),args.toArray,tys⟩,ty,pos,af,none⟩ :: l) n E (Sym w0 M I0 I m) Q:=by
 injection h with h1 h; injection h with h2 h3; exact .call V h1 U h2 h3 k
theorem Ops.cS {x:Callee} {g:FuncId} {args:List Operand} {vs:List Value} {mf mr:List HA} (V:Enters P n E (Sym w0 M I0 I m) x args g vs) (W:Outs m mf mr) (h:(Nat.blt d n.sz,fresh E d)=(true,true)) (Z:Fun P g vs.toArray I mf φ)
  (k:∀ v O U,I.le O->φ O v U->Ops P ops l n ((d,v) :: E) (Sym w0 M I0 O (U++mr)) Q):Ops P ops (⟨some d,.call ⟨x,args.toArray,tys⟩,ty,pos,af,none⟩ :: l) n E (Sym w0 M I0 I m) Q:=by
 injection h with h1 h2; exact .callS V W Z h1 h2 k
end Go.Fw
