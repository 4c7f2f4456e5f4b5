import Derived.Test.YtcecodhleocefaaGreatM
set_option linter.unusedVariables false
set_option linter.unusedSimpArgs false
namespace Go.Proofs.YtcecodhleocefaaGreat
section
open Go Go.Fw
def AW:Nat->(Nat->Nat)->Nat
 | 0,_=>0
 | n+1,f=>AW n f+f n
theorem GL {f f':Nat->Nat}:∀ {n:Nat},(∀ i,i<n->f' i=f i)->AW n f'=AW n f
 | 0,_=>rfl
 | n+1,h=>by show AW n f'+f' n=AW n f+f n; rw[GL (n:=n) λi _=>h i (by omega),h n (by omega)]
theorem HG {f f':Nat->Nat} {i:Nat}:∀ {n:Nat},i<n->(∀ k,k<n->k≠i->f' k=f k)->AW n f'+f i=AW n f+f' i
 | n+1,hi,h=>by
  show AW n f'+f' n+f i=AW n f+f n+f' i;by_cases e:i=n
  . subst e; rw[GL (f:=f) (f':=f') λk hk=>h k (by omega) (by omega)]; omega
  . have:=HG (n:=n) (f:=f) (f':=f') (i:=i) (by omega) λk hk=>h k (by omega);rw[h n (by omega) (λd=>e d.symm)]; omega
theorem RG (n b:Nat):AW n (λ_=>b)=n*b:=by
 induction n with
 | zero=>simp[AW]
 | succ n d=>show AW n _+b=_; rw[d,AeG]
theorem BU {n b:Nat} {f:Nat->Nat} (h:∀ i,i<n->f i=b):AW n f=n*b:=by rw[<-RG]; exact GL h
theorem SG {f:Nat->Nat} {n:Nat} (h:AW n f≠0):∃ i,i<n∧f i≠0:=by
 rcases Aa6 (∃ i,i<n∧f i≠0) with d | d
 . exact d
 . refine absurd ((BU (b:=0) λi hi=>?_).trans (LM n)) h;exact At0 λD=>d ⟨i,hi,D⟩
theorem H4 {f:Nat->Nat} {i:Nat}:∀ {n:Nat},i<n->f i<=AW n f
 | n+1,hi=>by
  show _<=AW n f+f n;by_cases e:i=n
  . subst e; omega
  . have:=H4 (n:=n) (f:=f) (show i<n by omega); omega
theorem KD {f:Nat->Nat} {b:Nat}:∀ {n:Nat},(∀ i,i<n->f i<=b)->AW n f<=n*b
 | 0,_=>by simp[AW]
 | n+1,h=>by have:=KD (n:=n) (f:=f) λi _=>h i (by omega);have:=h n (by omega);show AW n f+f n<=_; rw[AeG]; omega
theorem EW {R C:Nat} {f f':Nat->Nat->Nat} {i j:Nat} (hi:i<R) (O:j<C) (h:∀ a b,a<R->b<C->¬(a=i∧b=j)->f' a b=f a b):AW R (λa=>AW C (f' a))+f i j=AW R (λa=>AW C (f a))+f' i j:=by have U:=HG (n:=R) (f:=λa=>AW C (f a)) (f':=λa=>AW C (f' a)) hi λa J d=>GL λb D=>h a b J D λe=>d e.1;have V:=HG (n:=C) (f:=f i) (f':=f' i) O λb D d=>h i b hi D λe=>d e.2;omega
def wt (φ:AU->Nat):List AU->Nat
 | []=>0
 | f :: l=>φ f+wt φ l
theorem AdE (φ:AU->Nat):∀ (l m:List AU),wt φ (l++m)=wt φ l+wt φ m
 | [],m=>by simp[wt]
 | f :: l,m=>by show φ f+wt φ (l++m)=φ f+wt φ l+wt φ m; rw[AdE φ l m]; omega
theorem AiY (φ:AU->Nat) (F:Nat->AU) (n:Nat):wt φ ((List.range n).map F)=AW n λi=>φ (F i):=by
 induction n with
 | zero=>rfl
 | succ n d=>rw[bM,iE,AdE,d]; simp[wt,AW]
theorem xD:∀ (l:List AU),wt (λ_=>1) l=l.length
 | []=>rfl
 | f :: l=>by show 1+wt _ l=_; rw[xD l,uP]; omega
theorem As7 {φ:AU->Nat} {f:AU}:∀ {l:List AU},f∈l->φ f<=wt φ l
 | x :: l,h=>by
  show _<=φ x+wt φ l;rcases List.mem_cons.1 h with rfl | h
  . omega
  . have:=As7 (φ:=φ) h; omega
section
variable (c:GC) (φ:AU→Nat) (g:Gh)
def Gh.pO (i:Nat):Nat:=if 1<=g.u∧g.O i=false then φ (c.fOrder (g.u - 1) i) else 0
def Gh.pS (i j:Nat):Nat:=if g.O i=true∧g.u<c.U∧g.S i j=false then φ (c.fShare g.u i j) else 0
def Gh.pE (j i:Nat):Nat:=if g.col c j=true∧g.E i j=false then φ (c.fSpread g.u j i) else 0
def Gh.pA (i j:Nat):Nat:=if g.E i j=true∧g.A i j=false then φ (c.fGather g.u i j) else 0
noncomputable def Gh.pV (i:Nat):Nat:=if g.row c i=true∧g.V i=false then φ (c.fVote g.u i) else 0
noncomputable def Gh.pend:Nat:=AW c.R (g.pO c φ)+AW c.R (λi=>AW c.C (g.pS c φ i))+AW c.C (λj=>AW c.R (g.pE c φ j))+AW c.R (λi=>AW c.C (g.pA c φ i))+AW c.R (g.pV c φ)
def Gh.Pend (f:AU):Prop:=
 (∃ i,i<c.R∧1<=g.u∧g.O i=false∧f=c.fOrder (g.u - 1) i)∨(∃ i j,i<c.R∧j<c.C∧g.O i=true∧g.u<c.U∧g.S i j=false∧f=c.fShare g.u i j) ∨
 (∃ j i,j<c.C∧i<c.R∧g.col c j=true∧g.E i j=false∧f=c.fSpread g.u j i)∨(∃ i j,i<c.R∧j<c.C∧g.E i j=true∧g.A i j=false∧f=c.fGather g.u i j) ∨
 ∃ i,i<c.R∧g.row c i=true∧g.V i=false∧f=c.fVote g.u i
theorem Gh.pend_in {f:AU} (h:g.pend c (λx=>if x=f then 1 else 0)≠0):g.Pend c f:=by
 have D:∀ {p:Prop} [Decidable p] {x:AU},(if p then (if x=f then 1 else 0) else 0)≠0->p∧f=x:=by
   intro p _ x d;split at d
   . rename_i hp; split at d
     . rename_i e; exact⟨hp,e.symm⟩
     . exact absurd rfl d
   . exact absurd rfl d
 unfold pend at h;rcases jF (AW c.R (g.pV c λx=>if x=f then 1 else 0)) with Z | Z
 . rcases jF (AW c.R λi=>AW c.C (g.pA c (λx=>if x=f then 1 else 0) i)) with W | W
   . rcases jF (AW c.C λj=>AW c.R (g.pE c (λx=>if x=f then 1 else 0) j)) with V | V
     . rcases jF (AW c.R λi=>AW c.C (g.pS c (λx=>if x=f then 1 else 0) i)) with J | J
       . have⟨i,hi,d⟩:=SG (by omega:AW c.R (g.pO c λx=>if x=f then 1 else 0)≠0);have⟨⟨O,J⟩,e⟩:=D d;exact .inl ⟨i,hi,O,J,e⟩
       . have⟨i,hi,d⟩:=SG (by omega:(AW c.R λi=>AW c.C (g.pS c (λx=>if x=f then 1 else 0) i))≠0);have⟨j,U,d⟩:=SG d;have⟨⟨O,J,V⟩,e⟩:=D d;exact .inr (.inl ⟨i,j,hi,U,O,J,V,e⟩)
     . have⟨j,U,d⟩:=SG (by omega:(AW c.C λj=>AW c.R (g.pE c (λx=>if x=f then 1 else 0) j))≠0);have⟨i,hi,d⟩:=SG d;have⟨⟨O,J⟩,e⟩:=D d;exact .inr (.inr (.inl ⟨j,i,U,hi,O,J,e⟩))
   . have⟨i,hi,d⟩:=SG (by omega:(AW c.R λi=>AW c.C (g.pA c (λx=>if x=f then 1 else 0) i))≠0);have⟨j,U,d⟩:=SG d;have⟨⟨O,J⟩,e⟩:=D d;exact .inr (.inr (.inr (.inl ⟨i,j,hi,U,O,J,e⟩)))
 . have⟨i,hi,d⟩:=SG (by omega:AW c.R (g.pV c λx=>if x=f then 1 else 0)≠0);have⟨⟨O,J⟩,e⟩:=D d;exact .inr (.inr (.inr (.inr ⟨i,hi,O,J,e⟩)))
def Gh.bt (b:Bool):Nat:=if b=true then 1 else 0
def Gh.T:Nat:=2*c.R+3*(c.R*c.C)
def Gh.val:Nat:=g.u*T c+(AW c.R (λi=>bt (g.O i))+AW c.R (λi=>AW c.C λj=>bt (g.S i j))+AW c.R (λi=>AW c.C λj=>bt (g.E i j))+AW c.R (λi=>AW c.C λj=>bt (g.A i j))+AW c.R λi=>bt (g.V i))
open Classical in
noncomputable def Gh.nh:Nat:=if g.u<=1 then 1 else if (∀ i,i<c.R->g.O i=true)∧c.st (g.u - 1)≠3 then g.u else g.u - 1
end
variable {c:GC} {g:Gh}
theorem As8 (b:Bool):Gh.bt b<=1:=by unfold Gh.bt; split <;> omega
theorem T_b (h:c.Ok):Gh.T c<=85∧c.R*c.C<=25:=by have D:=h.R1; have d:=h.C1;have:c.R*c.C<=5*5:=AhK D.2 d.2;unfold Gh.T; omega
theorem AvT (h:c.Ok) (D:g.Ok c):g.val c<=3570:=by
 have hb:=T_b h; have Z:=h.U_b; have hu:=D.u;have W:g.u*Gh.T c<=41*85:=AhK (by omega) (by omega);have J:=KD (n:=c.R) (f:=λi=>Gh.bt (g.O i)) (b:=1) λi _=>As8 _;have U:=KD (n:=c.R) (f:=λi=>Gh.bt (g.V i)) (b:=1) λi _=>As8 _;have d:∀ (f:Nat->Nat->Bool),AW c.R (λi=>AW c.C λj=>Gh.bt (f i j))<=c.R*c.C:=λf=>KD λi _=>by have:=KD (n:=c.C) (f:=λj=>Gh.bt (f i j)) (b:=1) λj _=>As8 _; omega
 have:=d g.S; have:=d g.E; have:=d g.A;unfold Gh.val;unfold Gh.T at *;omega
theorem AdF (h:c.Ok):g.pend c (λ_=>1)<=85:=by
 have V:=T_b h;have hi:∀ {p:Prop} [Decidable p],(if p then 1 else 0)<=1:=λ{p} _=>by split <;> omega
 have D:=KD (n:=c.R) (f:=g.pO c λ_=>1) (b:=1) λi _=>hi;have U:=KD (n:=c.R) (f:=g.pV c λ_=>1) (b:=1) λi _=>hi;have J:AW c.R (λi=>AW c.C (g.pS c (λ_=>1) i))<=c.R*c.C:=KD λi _=>by have:=KD (n:=c.C) (f:=g.pS c (λ_=>1) i) (b:=1) λj _=>hi; omega
 have O:AW c.R (λi=>AW c.C (g.pA c (λ_=>1) i))<=c.R*c.C:=KD λi _=>by have:=KD (n:=c.C) (f:=g.pA c (λ_=>1) i) (b:=1) λj _=>hi; omega
 have d:AW c.C (λj=>AW c.R (g.pE c (λ_=>1) j))<=c.C*c.R:=KD λi _=>by have:=KD (n:=c.R) (f:=g.pE c (λ_=>1) i) (b:=1) λj _=>hi; omega
 rw[pI c.C] at d;unfold Gh.pend;unfold Gh.T at *;omega
theorem Ax2 {f:Nat->Bool} {i a:Nat} (h:f a=true):IB f i a=true:=by unfold IB; split <;> simp_all
theorem AiZ {f:Nat->Nat->Bool} {i j a b:Nat} (h:f a b=true):DW f i j a b=true:=by unfold DW; split <;> simp_all
theorem xE (f:Nat->Bool) (i:Nat):IB f i i=true:=if_pos rfl
theorem kJ (f:Nat->Nat->Bool) (i j:Nat):DW f i j i j=true:=if_pos ⟨rfl,rfl⟩
theorem aF {f:Nat->Bool} {i a:Nat} (h:a≠i):IB f i a=f a:=if_neg h
theorem O7 {f:Nat->Nat->Bool} {i j a b:Nat} (h:¬(a=i∧b=j)):DW f i j a b=f a b:=if_neg h
structure AgH (c:GC) (g g':Gh) (f:AU) (N:List AU):Prop where
 ok:g'.Ok c
 w:∀ φ,g'.pend c φ+φ f=g.pend c φ+wt φ N
 v:g'.val c=g.val c+1
 h:g'.nh c=g.nh c∨g'.nh c=g.nh c+1∧∀ i,i<c.R→g'.rnd c i=g.nh c
theorem Ax3 (a5:c.Ok) (J:g.Ok c) {i:Nat} (hi:i<c.R) (hu:1<=g.u) (W:g.O i=false):AgH c g { g with O:=IB g.O i } (c.fOrder (g.u - 1) i) (if g.u<c.U then (List.range c.C).map (c.fShare g.u i) else []):=by
 have hS:∀ j,g.S i j=false:=λj=>by
   cases d:g.S i j with
   | false=>rfl
   | true=>have:=(J.S i j hi d).1; rw[W] at this; cases this
 refine⟨⟨J.u,λa b h d=>⟨Ax2 (J.S a b h d).1,(J.S a b h d).2⟩,J.E,J.A,J.V,J.no,λh0=>absurd (show g.u=0 from h0) (by omega)⟩,λφ=>?_,?_,?_⟩
 . have D:=HG (n:=c.R) (f:=g.pO c φ) (f':=({ g with O:=IB g.O i }:Gh).pO c φ) hi λk _ hk=>by unfold Gh.pO; simp only; rw[aF hk]
   have h2:=HG (n:=c.R) (f:=λa=>AW c.C (g.pS c φ a)) (f':=λa=>AW c.C (({ g with O:=IB g.O i }:Gh).pS c φ a)) hi λk _ hk=>by unfold Gh.pS; simp only; rw[aF hk]
   have e1:g.pO c φ i=φ (c.fOrder (g.u - 1) i):=if_pos ⟨hu,W⟩;have e2:({ g with O:=IB g.O i }:Gh).pO c φ i=0:=if_neg λd=>by have Z:IB g.O i i=false:=d.2; rw[xE] at Z; cases Z
   have e3:AW c.C (g.pS c φ i)=0:=(BU (b:=0) λj _=>if_neg λd=>by have Z:=d.1; rw[W] at Z; cases Z).trans (LM _)
   have e4:AW c.C (({ g with O:=IB g.O i }:Gh).pS c φ i)=wt φ (if g.u<c.U then (List.range c.C).map (c.fShare g.u i) else []):=by
     split
     . rename_i a4;rw[AiY];exact GL λj _=>if_pos ⟨xE _ _,a4,hS j⟩
     . rename_i a2;exact(BU (b:=0) λj _=>if_neg λd=>a2 d.2.1).trans (LM _)
   simp only[e1,e2,e3,e4] at D h2;show AW c.R (({ g with O:=IB g.O i }:Gh).pO c φ)+AW c.R (λa=>AW c.C (({ g with O:=IB g.O i }:Gh).pS c φ a))+AW c.C (λj=>AW c.R (g.pE c φ j))+AW c.R (λi=>AW c.C (g.pA c φ i))+AW c.R (g.pV c φ)+_=_;unfold Gh.pend;omega
 . have D:=HG (n:=c.R) (f:=λa=>Gh.bt (g.O a)) (f':=λa=>Gh.bt (IB g.O i a)) hi λk _ hk=>by rw[aF hk]
   simp only[xE,W] at D;have e1:Gh.bt false=0:=rfl;have e2:Gh.bt true=1:=rfl;unfold Gh.val;simp only;omega
 . unfold Gh.nh;rw[if_neg (c:=(∀ a,a<c.R->g.O a=true)∧c.st (g.u - 1)≠3) λd=>by have:=d.1 i hi; rw[W] at this; cases this];by_cases D:g.u<=1
   . left; rw[if_pos D,if_pos (show({ g with O:=IB g.O i }:Gh).u<=1 from D)]
   . rw[if_neg D,if_neg (show ¬({ g with O:=IB g.O i }:Gh).u<=1 from D)];split
     . rename_i d;right;refine⟨by show g.u=g.u - 1+1; omega,λa h=>?_⟩;unfold Gh.rnd;rw[if_pos (d.1 a h),if_neg d.2]
     . exact .inl rfl
theorem Ax4 (a8:c.Ok) (W:g.Ok c) {i j:Nat} (hi:i<c.R) (J:j<c.C) (hO:g.O i=true) (hu:g.u<c.U) (hS:g.S i j=false):AgH c g { g with S:=DW g.S i j } (c.fShare g.u i j) (if ({ g with S:=DW g.S i j }:Gh).col c j=true then (List.range c.R).map (c.fSpread g.u j) else []):=by
 have a2:g.col c j=false:=decide_eq_false λd=>by have:=d i hi; rw[hS] at this; cases this
 have a4:∀ b,g.col c b=true->({ g with S:=DW g.S i j }:Gh).col c b=true:=λb d=>decide_eq_true λa D=>AiZ (of_decide_eq_true d a D);have a5:∀ b,b≠j->({ g with S:=DW g.S i j }:Gh).col c b=g.col c b:=λb hb=>by unfold Gh.col; simp only[O7 (f:=g.S) (i:=i) (j:=j) (b:=b) (λe=>hb e.2)]
 have hE:∀ a,a<c.R->g.E a j=false:=λa D=>by
   cases d:g.E a j with
   | false=>rfl
   | true=>have:=W.E a j D J d; rw[a2] at this; cases this
 refine⟨⟨W.u,λa b D d=>?_,λa b D hb d=>a4 b (W.E a b D hb d),W.A,W.V,W.no,W.z⟩,λφ=>?_,?_,.inl rfl⟩
 . by_cases e:a=i∧b=j
   . rw[e.1]; exact⟨hO,hu⟩
   . exact W.S a b D (by rw[<-O7 (f:=g.S) e]; exact d)
 . have h1:=EW (f:=g.pS c φ) (f':=({ g with S:=DW g.S i j }:Gh).pS c φ) hi J λa b _ _ Z=>by unfold Gh.pS; simp only; rw[O7 Z]
   have h2:=HG (n:=c.C) (f:=λb=>AW c.R (g.pE c φ b)) (f':=λb=>AW c.R (({ g with S:=DW g.S i j }:Gh).pE c φ b)) J λk _ hk=>by unfold Gh.pE; rw[a5 k hk]
   have e1:g.pS c φ i j=φ (c.fShare g.u i j):=if_pos ⟨hO,hu,hS⟩;have e2:({ g with S:=DW g.S i j }:Gh).pS c φ i j=0:=if_neg λd=>by have h:DW g.S i j i j=false:=d.2.2; rw[kJ] at h; cases h
   have e3:AW c.R (g.pE c φ j)=0:=(BU (b:=0) λa _=>if_neg λd=>by have h:=d.1; rw[a2] at h; cases h).trans (LM _)
   have e4:AW c.R (({ g with S:=DW g.S i j }:Gh).pE c φ j)=wt φ (if ({ g with S:=DW g.S i j }:Gh).col c j=true then (List.range c.R).map (c.fSpread g.u j) else []):=by
     split
     . rename_i a7;rw[AiY];exact GL λa D=>if_pos ⟨a7,hE a D⟩
     . rename_i a6;exact(BU (b:=0) λa _=>if_neg λd=>a6 d.1).trans (LM _)
   simp only[e1,e2,e3,e4] at h1 h2;show AW c.R (g.pO c φ)+AW c.R (λa=>AW c.C (({ g with S:=DW g.S i j }:Gh).pS c φ a))+AW c.C (λb=>AW c.R (({ g with S:=DW g.S i j }:Gh).pE c φ b))+AW c.R (λi=>AW c.C (g.pA c φ i))+AW c.R (g.pV c φ)+_=_;unfold Gh.pend;omega
 . have h1:=EW (f:=λa b=>Gh.bt (g.S a b)) (f':=λa b=>Gh.bt (DW g.S i j a b)) hi J λa b _ _ Z=>by rw[O7 Z]
   simp only[kJ,hS] at h1;have e1:Gh.bt false=0:=rfl;have e2:Gh.bt true=1:=rfl;unfold Gh.val;simp only;omega
theorem Ax5 (a2:c.Ok) (J:g.Ok c) {i j:Nat} (hi:i<c.R) (W:j<c.C) (hc:g.col c j=true) (U:g.E i j=false):AgH c g { g with E:=DW g.E i j } (c.fSpread g.u j i) [c.fGather g.u i j]:=by
 have hA:g.A i j=false:=by
   cases D:g.A i j with
   | false=>rfl
   | true=>have:=J.A i j hi W D; rw[U] at this; cases this
 refine⟨⟨J.u,J.S,λa b h hb D=>?_,λa b h hb D=>AiZ (J.A a b h hb D),J.V,J.no,J.z⟩,λφ=>?_,?_,.inl rfl⟩
 . by_cases e:a=i∧b=j
   . rw[e.2]; exact hc
   . exact J.E a b h hb (by rw[<-O7 (f:=g.E) e]; exact D)
 . have Z:=EW (f:=g.pE c φ) (f':=({ g with E:=DW g.E i j }:Gh).pE c φ) W hi λb a _ _ d=>by unfold Gh.pE; simp only; rw[O7 λe=>d ⟨e.2,e.1⟩]; rfl
   have h2:=EW (f:=g.pA c φ) (f':=({ g with E:=DW g.E i j }:Gh).pA c φ) hi W λa b _ _ d=>by unfold Gh.pA; simp only; rw[O7 d]
   have e1:g.pE c φ j i=φ (c.fSpread g.u j i):=if_pos ⟨hc,U⟩;have e2:({ g with E:=DW g.E i j }:Gh).pE c φ j i=0:=if_neg λD=>by have O:DW g.E i j i j=false:=D.2; rw[kJ] at O; cases O
   have e3:g.pA c φ i j=0:=if_neg λD=>by have O:=D.1; rw[U] at O; cases O
   have e4:({ g with E:=DW g.E i j }:Gh).pA c φ i j=φ (c.fGather g.u i j):=if_pos ⟨kJ _ _ _,hA⟩;rw[e1,e2] at Z; rw[e3,e4] at h2;show AW c.R (g.pO c φ)+AW c.R (λa=>AW c.C (g.pS c φ a))+AW c.C (λb=>AW c.R (({ g with E:=DW g.E i j }:Gh).pE c φ b))+AW c.R (λi'=>AW c.C (({ g with E:=DW g.E i j }:Gh).pA c φ i'))+AW c.R (g.pV c φ)+_=_;unfold Gh.pend;simp only[wt];omega
 . have Z:=EW (f:=λa b=>Gh.bt (g.E a b)) (f':=λa b=>Gh.bt (DW g.E i j a b)) hi W λa b _ _ d=>by rw[O7 d]
   simp only[kJ,U] at Z;have e1:Gh.bt false=0:=rfl;have e2:Gh.bt true=1:=rfl;unfold Gh.val;simp only;omega
theorem Ax6 (a6:c.Ok) (J:g.Ok c) {i j:Nat} (hi:i<c.R) (hj:j<c.C) (hE:g.E i j=true) (O:g.A i j=false):AgH c g { g with A:=DW g.A i j } (c.fGather g.u i j) (if ({ g with A:=DW g.A i j }:Gh).row c i=true then [c.fVote g.u i] else []):=by
 have a2:g.row c i=false:=decide_eq_false λd=>by have:=d j hj; rw[O] at this; cases this
 have a4:∀ a,g.row c a=true->({ g with A:=DW g.A i j }:Gh).row c a=true:=λa d=>decide_eq_true λb W=>AiZ (of_decide_eq_true d b W);have a5:∀ a,a≠i->({ g with A:=DW g.A i j }:Gh).row c a=g.row c a:=λa D=>by unfold Gh.row; simp only[O7 (f:=g.A) (i:=i) (j:=j) (a:=a) (λe=>D e.1)]
 have hV:g.V i=false:=by
   cases d:g.V i with
   | false=>rfl
   | true=>have:=J.V i hi d; rw[a2] at this; cases this
 refine⟨⟨J.u,J.S,J.E,λa b D W d=>?_,λa D d=>a4 a (J.V a D d),J.no,λh0 a D=>⟨(J.z h0 a D).1,a4 a (J.z h0 a D).2⟩⟩,λφ=>?_,?_,.inl rfl⟩
 . by_cases e:a=i∧b=j
   . rw[e.1,e.2]; exact hE
   . exact J.A a b D W (by rw[<-O7 (f:=g.A) e]; exact d)
 . have h:=EW (f:=g.pA c φ) (f':=({ g with A:=DW g.A i j }:Gh).pA c φ) hi hj λa b _ _ U=>by unfold Gh.pA; simp only; rw[O7 U]
   have h2:=HG (n:=c.R) (f:=g.pV c φ) (f':=({ g with A:=DW g.A i j }:Gh).pV c φ) hi λa _ D=>by unfold Gh.pV; simp only; rw[a5 a D]
   have e1:g.pA c φ i j=φ (c.fGather g.u i j):=if_pos ⟨hE,O⟩;have e2:({ g with A:=DW g.A i j }:Gh).pA c φ i j=0:=if_neg λd=>by have Z:DW g.A i j i j=false:=d.2; rw[kJ] at Z; cases Z
   have e3:g.pV c φ i=0:=if_neg λd=>by have Z:=d.1; rw[a2] at Z; cases Z
   have e4:({ g with A:=DW g.A i j }:Gh).pV c φ i=wt φ (if ({ g with A:=DW g.A i j }:Gh).row c i=true then [c.fVote g.u i] else []):=by
     split
     . rename_i hr;exact(if_pos ⟨hr,hV⟩).trans (by simp[wt])
     . rename_i hr;exact if_neg λd=>hr d.1
   rw[e1,e2] at h; rw[e3,e4] at h2;show AW c.R (g.pO c φ)+AW c.R (λa=>AW c.C (g.pS c φ a))+AW c.C (λb=>AW c.R (g.pE c φ b))+AW c.R (λi'=>AW c.C (({ g with A:=DW g.A i j }:Gh).pA c φ i'))+AW c.R (({ g with A:=DW g.A i j }:Gh).pV c φ)+_=_;unfold Gh.pend;omega
 . have h:=EW (f:=λa b=>Gh.bt (g.A a b)) (f':=λa b=>Gh.bt (DW g.A i j a b)) hi hj λa b _ _ U=>by rw[O7 U]
   simp only[kJ,O] at h;have e1:Gh.bt false=0:=rfl;have e2:Gh.bt true=1:=rfl;unfold Gh.val;simp only;omega
theorem Ax7 (a2:c.Ok) (d:g.Ok c) {i:Nat} (hi:i<c.R) (W:g.row c i=true) (Z:g.V i=false) (O:∃ k,k<c.R∧IB g.V i k=false):AgH c g { g with V:=IB g.V i } (c.fVote g.u i) []:=by
 refine⟨⟨d.u,d.S,d.E,d.A,λa J U=>?_,O,d.z⟩,λφ=>?_,?_,.inl rfl⟩
 . by_cases e:a=i
   . rw[e]; exact W
   . exact d.V a J (by rw[<-aF (f:=g.V) e]; exact U)
 . have h2:=HG (n:=c.R) (f:=g.pV c φ) (f':=({ g with V:=IB g.V i }:Gh).pV c φ) hi λa _ J=>by unfold Gh.pV; simp only; rw[aF J]; rfl
   have e3:g.pV c φ i=φ (c.fVote g.u i):=if_pos ⟨W,Z⟩;have e4:({ g with V:=IB g.V i }:Gh).pV c φ i=0:=if_neg λU=>by have h:IB g.V i i=false:=U.2; rw[xE] at h; cases h
   rw[e3,e4] at h2;show AW c.R (g.pO c φ)+AW c.R (λa=>AW c.C (g.pS c φ a))+AW c.C (λb=>AW c.R (g.pE c φ b))+AW c.R (λi'=>AW c.C (g.pA c φ i'))+AW c.R (({ g with V:=IB g.V i }:Gh).pV c φ)+_=_;unfold Gh.pend;simp only[wt];omega
 . have h1:=HG (n:=c.R) (f:=λa=>Gh.bt (g.V a)) (f':=λa=>Gh.bt (IB g.V i a)) hi λa _ D=>by rw[aF D]
   simp only[xE,Z] at h1;have e1:Gh.bt false=0:=rfl;have e2:Gh.bt true=1:=rfl;unfold Gh.val;simp only;omega
theorem AnL (h:c.Ok) (hg:g.Ok c) (W:g.All c) {i:Nat} (hi:i<c.R) (hV:g.V i=false) (a5:∀ k,k<c.R->IB g.V i k=true):AgH c g g.next (c.fVote g.u i) ((List.range c.R).map (c.fOrder g.u)):=by
 have hR:=h.R1; have hC:=h.C1;have a2:∀ k,k<c.R->k≠i->g.V k=true:=λk hk U=>by have:=a5 k hk; rwa [aF U] at this
 have hA:∀ a b,a<c.R->b<c.C->g.A a b=true:=λa b d J=>of_decide_eq_true (W.row a d) b J;have hS:∀ a b,a<c.R->b<c.C->g.S a b=true:=λa b d J=>of_decide_eq_true (W.col b J) a d;refine⟨Gh.next_ok W h,λφ=>?_,?_,.inl ?_⟩
 . have z1:AW c.R (g.pO c φ)=0:=(BU (b:=0) λa d=>if_neg λD=>by rw[W.O a d] at D; exact nomatch D.2).trans (LM _);have z2:AW c.R (λa=>AW c.C (g.pS c φ a))=0:=(BU (b:=0) λa d=>(BU (b:=0) λb J=>if_neg λD=>by rw[hS a b d J] at D; exact nomatch D.2.2).trans (LM _)).trans (LM _);have z3:AW c.C (λb=>AW c.R (g.pE c φ b))=0:=(BU (b:=0) λb J=>(BU (b:=0) λa d=>if_neg λD=>by rw[W.E a b d J] at D; exact nomatch D.2).trans (LM _)).trans (LM _);have z4:AW c.R (λa=>AW c.C (g.pA c φ a))=0:=(BU (b:=0) λa d=>(BU (b:=0) λb J=>if_neg λD=>by rw[hA a b d J] at D; exact nomatch D.2).trans (LM _)).trans (LM _);have Z:=HG (n:=c.R) (f:=λ_=>0) (f':=g.pV c φ) hi λa d U=>if_neg λD=>by rw[a2 a d U] at D; exact nomatch D.2
   have e5:g.pV c φ i=φ (c.fVote g.u i):=if_pos ⟨W.row i hi,hV⟩;rw[RG] at Z;have y1:AW c.R (g.next.pO c φ)=AW c.R λa=>φ (c.fOrder g.u a):=GL λa _=>if_pos ⟨by show 1<=g.u+1; omega,rfl⟩;have y2:AW c.R (λa=>AW c.C (g.next.pS c φ a))=0:=(BU (b:=0) λa d=>(BU (b:=0) λb J=>if_neg λD=>nomatch D.1).trans (LM _)).trans (LM _);have y3:AW c.C (λb=>AW c.R (g.next.pE c φ b))=0:=(BU (b:=0) λb J=>(BU (b:=0) λa d=>if_neg λD=>by rw[Gh.next_col h] at D; exact nomatch D.1).trans (LM _)).trans (LM _);have y4:AW c.R (λa=>AW c.C (g.next.pA c φ a))=0:=(BU (b:=0) λa d=>(BU (b:=0) λb J=>if_neg λD=>nomatch D.1).trans (LM _)).trans (LM _);have y5:AW c.R (g.next.pV c φ)=0:=(BU (b:=0) λa d=>if_neg λD=>by rw[Gh.next_row h] at D; exact nomatch D.1).trans (LM _);rw[AiY];unfold Gh.pend;omega
 . have e1:Gh.bt false=0:=rfl;have e2:Gh.bt true=1:=rfl;have z1:AW c.R (λa=>Gh.bt (g.O a))=c.R*1:=BU λa d=>by rw[W.O a d]; rfl
   have z2:AW c.R (λa=>AW c.C λb=>Gh.bt (g.S a b))=c.R*(c.C*1):=BU λa d=>BU λb J=>by rw[hS a b d J]; rfl
   have z3:AW c.R (λa=>AW c.C λb=>Gh.bt (g.E a b))=c.R*(c.C*1):=BU λa d=>BU λb J=>by rw[W.E a b d J]; rfl
   have z4:AW c.R (λa=>AW c.C λb=>Gh.bt (g.A a b))=c.R*(c.C*1):=BU λa d=>BU λb J=>by rw[hA a b d J]; rfl
   have Z:=HG (n:=c.R) (f:=λ_=>1) (f':=λa=>Gh.bt (g.V a)) hi λa d U=>by rw[a2 a d U]; rfl
   simp only[hV] at Z;have y:∀ n,AW n (λ_=>Gh.bt false)=0:=λn=>(RG n _).trans (LM n);have y':∀ n,AW n (λ_=>0)=0:=λn=>(RG n 0).trans (LM n);unfold Gh.val;show(g.u+1)*Gh.T c+(AW c.R (λ_=>Gh.bt false)+AW c.R (λ_=>AW c.C λ_=>Gh.bt false)+AW c.R (λ_=>AW c.C λ_=>Gh.bt false)+AW c.R (λ_=>AW c.C λ_=>Gh.bt false)+AW c.R λ_=>Gh.bt false)=_;simp only[y,y'];rw[z1,z2,z3,z4,AeG];have:AW c.R (λa=>Gh.bt (g.V a))+1=c.R*1:=by rw[RG] at Z; omega
   generalize AW c.R (λa=>Gh.bt (g.V a))=q at *;have hT:Gh.T c=2*c.R+3*(c.R*c.C):=rfl;rw[Nat.mul_one c.C];omega
 . have a4:g.u>=1->c.st (g.u - 1)=0:=λh1=>AdD h W.u h1;unfold Gh.nh;show(if g.u+1<=1 then 1 else if (∀ i,i<c.R->(false:Bool)=true)∧c.st (g.u+1 - 1)≠3 then g.u+1 else g.u+1 - 1)=_;by_cases h0:g.u=0
   . rw[h0]; rfl
   . rw[if_neg (by omega),if_neg (λD=>nomatch D.1 0 (by omega))];by_cases h1:g.u=1
     . rw[h1]; rfl
     . rw[if_neg (by omega),if_pos ⟨W.O,by rw[a4 (by omega)]; omega⟩]; omega
variable {c:GC} {g:Gh}
theorem kK {i j:Nat} (hi:i<c.R) (d:j<c.C):i*c.C+j<c.R*c.C:=by have:(i+1)*c.C<=c.R*c.C:=uM _ hi;grind
theorem aG (h:c.Ok) {i j:Nat} (d:j<c.C):(i*c.C+j) / c.C=i∧(i*c.C+j) % c.C=j:=by have D:=h.C1;rw[pI,AhG (by omega),AoY,AeB d,AjM d];omega
theorem AuM (h:c.Ok) {i j D d:Nat} (O:j<c.C) (J:d<c.C) (e:i*c.C+j=D*c.C+d):i=D∧j=d:=by grind[aG]
theorem gF (h:c.Ok) {i j a b:Nat} (hi:i<c.R) (hj:j<c.C) (ha:a<c.R) (U:b<c.C) {w:A3} (J:Wst c i j w) {f:AU} (ht:f.To=c.num i j) (Z:f.From=c.num a b) {Q:Bool×A3->Prop}
  (hQ:(f.Kind=1->EF w f ⟨a,b⟩ Q)∧(f.Kind=2->E3 w f ⟨a,b⟩ Q)∧(f.Kind=3->E5 w f ⟨a,b⟩ Q)∧(f.Kind=4->EU w f ⟨a,b⟩ Q)∧(f.Kind=5->E6 w f ⟨a,b⟩ Q))
  (hk:f.Kind=1∨f.Kind=2∨f.Kind=3∨f.Kind=4∨f.Kind=5):DZ w f Q:=by
 have hR:=h.R1; have W:=h.C1; have hm:=(T_b h).2;have a2:=kK (c:=c) ha U;unfold DZ I9;rw[show w.place.i=(i:Int) by rw[J.pl],show w.place.j=(j:Int) by rw[J.pl],show w.grid.i=(c.R:Int) by rw[J.gr],show w.grid.j=(c.C:Int) by rw[J.gr],Z];refine YP (by rw[J.gr]) W (by omega) hj (BO (λO=>absurd ht O) λ_=>?_);unfold GC.num;have e1:(c.R:Int)*(c.C:Int)=((c.R*c.C:Nat):Int):=by rw[AeD]
 refine A2 (λO=>by omega) λ_=>A2 (λO=>by rw[e1,AK (by omega) (by omega)] at O; omega) λ_=>?_;have D:JK c.C:=h.mp.2.2;have V:a*c.C+b<8*c.C:=by have:(a+1)*c.C<=8*c.C:=uM _ (by omega); grind
 refine dP D V (WP D V ?_);rw[(aG h U).1,(aG h U).2];have⟨q1,q2,q3,q4,q5⟩:=hQ;refine AY (λd=>q1 d) λ_=>AY (λd=>q2 d) λ_=>AY (λd=>q3 d) λ_=>AY (λd=>q4 d) λ_=>AY (λd=>q5 d) λ_=>?_;omega
theorem As9 (h:c.Ok) (O:g.Ok c) {f:AU} (hf:g.Pend c f):∃ i j,i<c.R∧j<c.C∧f.To=c.num i j∧∃ g' N,AgH c g g' f N∧(∀ a b,a<c.R->b<c.C->¬(a=i∧b=j)->∀ w,WOk c g a b w->WOk c g' a b w) ∧
   ∀ (n:Int) w,WOk c g i j w->w.out.length<=1000->∀ Q:Bool×A3->Prop,(∀ w',WOk c g' i j w'->w'.out=w.out++N->Q (true,w'))->DZ w { f with Seq:=n } Q:=by
 have hR:=h.R1; have hC:=h.C1; have hU:=h.U_b; have c0:=O.u;have a4:(0:Int)=c.num 0 0:=by unfold GC.num; simp
 rcases hf with⟨i,hi,hu,hO,rfl⟩ | ⟨i,j,hi,W,hO,hu,hS,rfl⟩ | ⟨j,i,W,hi,hc,hE,rfl⟩ | ⟨i,j,hi,W,hE,hA,rfl⟩ | ⟨i,hi,hr,hV,rfl⟩
 . refine⟨i,0,hi,by omega,rfl,_,_,Ax3 h O hi hu hO,λa b ha hb J w D=>D.congr rfl rfl (λ_ _=>rfl) (λa2=>aF λe=>J ⟨e,a2⟩) (λ_ _=>rfl) (λ_ _ _=>rfl),λn w D hl Q Z=>?_⟩;exact gF h (a:=0) (b:=0) hi (by omega) (by omega) (by omega) D.st rfl a4 ⟨λd=>absurd d (by decide:¬(5:Int)=1),λd=>absurd d (by decide:¬(5:Int)=2),λd=>absurd d (by decide:¬(5:Int)=3),λd=>absurd d (by decide:¬(5:Int)=4),λ_=>AnF h O hi D hu hO rfl rfl hl Z⟩ (.inr (.inr (.inr (.inr rfl))))
 . refine⟨0,j,by omega,W,(dX c j).symm,_,_,Ax4 h O hi W hO hu hS,λa b ha hb J w D=>D.congr rfl rfl (λa5 k=>O7 λe=>J ⟨a5,e.2⟩) (λ_=>rfl) (λ_ _=>rfl) (λ_ _ _=>rfl),λn w D hl Q Z=>?_⟩;exact gF h (a:=i) (b:=0) (by omega) W hi (by omega) D.st (dX c j).symm rfl ⟨λ_=>As4 h hi W D (by omega) hS rfl rfl hl Z,λd=>absurd d (by decide:¬(1:Int)=2),λd=>absurd d (by decide:¬(1:Int)=3),λd=>absurd d (by decide:¬(1:Int)=4),λd=>absurd d (by decide:¬(1:Int)=5)⟩ (.inl rfl)
 . have a6:g.u<c.U:=(O.S 0 j (by omega) (of_decide_eq_true hc 0 (by omega))).2
   have hu:1<=g.u:=by
     rcases jF g.u with h0 | h0
     . have:=(O.row_all hi W (O.z h0 i hi).2).2.1; grind
     . exact h0
   refine⟨i,j,hi,W,rfl,_,_,Ax5 h O hi W hc hE,λa b ha hb J w D=>D.congr rfl (O7 J) (λ_ _=>rfl) (λ_=>rfl) (λ_ _=>rfl) (λ_ _ _=>rfl),λn w D hl Q Z=>?_⟩;exact gF h (a:=0) (b:=j) hi W (by omega) W D.st rfl (dX c j).symm ⟨λd=>absurd d (by decide:¬(2:Int)=1),λ_=>AnG h hi W D hu a6 hE rfl rfl hl Z,λd=>absurd d (by decide:¬(2:Int)=3),λd=>absurd d (by decide:¬(2:Int)=4),λd=>absurd d (by decide:¬(2:Int)=5)⟩ (.inr (.inl rfl))
 . have hc:=O.E i j hi W hE;have hS:=O.S i j hi (of_decide_eq_true hc i hi)
   have hu:1<=g.u:=by
     rcases jF g.u with h0 | h0
     . have:=(O.row_all hi W (O.z h0 i hi).2).1; grind
     . exact h0
   refine⟨i,0,hi,by omega,rfl,_,_,Ax6 h O hi W hE hA,λa b ha hb J w D=>D.congr rfl rfl (λ_ _=>rfl) (λ_=>rfl) (λa2 k=>O7 λe=>J ⟨e.1,a2⟩) (λ_ _ _=>rfl),λn w D hl Q Z=>?_⟩;exact gF h (a:=i) (b:=j) hi (by omega) hi W D.st rfl rfl ⟨λd=>absurd d (by decide:¬(3:Int)=1),λd=>absurd d (by decide:¬(3:Int)=2),λ_=>AnJ h hi W D hu hS.2 hS.1 hA rfl rfl hl Z,λd=>absurd d (by decide:¬(3:Int)=4),λd=>absurd d (by decide:¬(3:Int)=5)⟩ (.inr (.inr (.inl rfl)))
 . have a6:g.u<c.U:=by have hc:=(O.row_all hi (show 0<c.C by omega) hr).2.2;exact(O.S i 0 hi (of_decide_eq_true hc i hi)).2
   rcases Aa6 (∃ k,k<c.R∧IB g.V i k=false) with a8 | b1
   . refine⟨0,0,by omega,by omega,a4,_,_,Ax7 h O hi hr hV a8,λa b ha hb J w D=>D.congr rfl rfl (λ_ _=>rfl) (λ_=>rfl) (λ_ _=>rfl) (λa5 a2=>absurd ⟨a5,a2⟩ J),λn w D hl Q Z=>?_⟩;exact gF h (a:=i) (b:=0) (by omega) (by omega) hi (by omega) D.st a4 rfl ⟨λd=>absurd d (by decide:¬(4:Int)=1),λd=>absurd d (by decide:¬(4:Int)=2),λd=>absurd d (by decide:¬(4:Int)=3),λ_=>AlL (f:={ c.fVote g.u i with Seq:=n }) h O hi D a6 hr hV rfl rfl rfl hl (λ_ w' a7 ho=>Z w' a7 (by rw[ho,lP])) (λd=>absurd a8 λ⟨k,hk,hf⟩=>by rw[d k hk] at hf; cases hf),λd=>absurd d (by decide:¬(4:Int)=5)⟩ (.inr (.inr (.inr (.inl rfl))))
   . have a9:∀ k,k<c.R->IB g.V i k=true:=λk hk=>by grind
     have ha:g.All c:=O.all h λk hk=>by
       by_cases e:k=i
       . rw[e]; exact hr
       . exact O.V k hk (by rw[<-aF (f:=g.V) e]; exact a9 k hk)
     refine⟨0,0,by omega,by omega,a4,_,_,AnL h O ha hi hV a9,λa b b0 hb J w D=>D.bump h ha b0 hb D.st ⟨rfl,rfl,rfl,rfl,rfl,rfl,rfl,rfl,rfl⟩ (λa5 a2=>absurd ⟨a5,a2⟩ J),λn w D hl Q Z=>?_⟩;exact gF h (a:=i) (b:=0) (by omega) (by omega) hi (by omega) D.st a4 rfl ⟨λd=>absurd d (by decide:¬(4:Int)=1),λd=>absurd d (by decide:¬(4:Int)=2),λd=>absurd d (by decide:¬(4:Int)=3),λ_=>AlL (f:={ c.fVote g.u i with Seq:=n }) h O hi D a6 hr hV rfl rfl rfl hl (λd=>absurd d b1) (λ_ w' a7 ho=>Z w' a7 ho),λd=>absurd d (by decide:¬(4:Int)=5)⟩ (.inr (.inr (.inr (.inl rfl))))
variable {c:GC} {g:Gh}
theorem AdG (h:c.Ok) {f:AU} (W:g.Pend c f):xA f∧f.Seq=0:=by
 have z:([]:List B3).length<=1000000:=by simp
 have D:([]:List BK).length<=1000000:=by simp
 have d:([]:List A5).length<=1000000:=by simp
 rcases W with⟨i,hi,U,O,rfl⟩ | ⟨i,j,hi,J,O,U,hS,rfl⟩ | ⟨j,i,J,hi,hc,V,rfl⟩ | ⟨i,j,hi,J,V,hA,rfl⟩ | ⟨i,hi,hr,hV,rfl⟩
 . exact⟨⟨z,D,d⟩,rfl⟩
 . exact⟨⟨gN (h.slice_P g.u hi J).2.2 (by omega),D,d⟩,rfl⟩
 . exact⟨⟨gN (h.piece_P g.u J).2.2 (by omega),D,d⟩,rfl⟩
 . refine⟨⟨z,?_,d⟩,rfl⟩;have⟨Z,_,b3⟩:=h.blk_prop g.u hi j;have:=dW (a:=0) Z (by simpa using b3);have:=h.ln_n i hi;have:=h.n4;show(c.blk g.u i j).length<=1000000;omega
 . exact⟨⟨z,D,d⟩,rfl⟩
theorem AuN {f:AU} {Q:AU->Prop} (h:xA f) (d:Q f):Z9 f Q:=by unfold Z9;exact AgA h.1 (AgB h.2.1 d)
def uq (f:AU):AU:={ f with Seq:=0 }
theorem AuO {f:AU} (h:f.Seq=0):uq f=f:=by unfold uq; rw[<-h]
def Abs.und (s:Abs):List AU:=(s.fs.drop s.taken).map uq
structure Abs.Ok (rm:Nat) (s:Abs):Prop where
 room:s.room=rm
 cov:∀ n,s.taken≤n→n<s.fs.length→n∈s.row
 lt:∀ n∈s.row,n<s.fs.length
 tk:s.taken≤s.fs.length
 rl:s.row.length≤rm
def Abs.nil (rm:Nat):Abs:=⟨rm,[],[],0⟩
theorem Abs.nil_ok (rm:Nat):(Abs.nil rm).Ok rm:=⟨rfl,λn _ h=>by simp[Abs.nil] at h,λn h=>by simp[Abs.nil] at h,Z0 _,by simp[Abs.nil]⟩
variable {s:Abs} {rm:Nat}
theorem Abs.Ok.und_len (h:s.Ok rm):s.fs.length=s.taken+s.und.length:=by have:=h.tk; unfold Abs.und; simp; omega
theorem Abs.send_full {f:AU} (d:s.fullB=true):s.send f=(9,s):=by unfold Abs.send; rw[if_pos d]
theorem Abs.send_new {f:AU} (d:s.fullB=false):s.send f=(0,{ s with row:=s.row++[s.fs.length],fs:=s.fs++[{ f with Seq:=s.fs.length }] }):=by unfold Abs.send; grind
theorem Abs.Ok.send_ok (h:s.Ok rm) (f:AU) (D:s.fullB=false):(s.send f).2.Ok rm∧(s.send f).2.und=s.und++[uq f]∧(s.send f).2.row.length=s.row.length+1∧(s.send f).2.fs.length=s.fs.length+1:=by
 rw[Abs.send_new D];have O:s.row.length<s.room:=by unfold Abs.fullB at D; simpa using D
 refine⟨⟨h.room,λn J U=>?_,λn d=>?_,?_,?_⟩,?_,by simp,by simp⟩
 . simp only[bL,Ae7] at U;by_cases e:n=s.fs.length
   . subst e; simp
   . exact List.mem_append.2 (.inl (h.cov n J (by omega)))
 . simp only[bL,Ae7];rcases List.mem_append.1 d with d | d
   . have:=h.lt n d; omega
   all_goals grind
 . have:=h.tk; simp; omega
 . have:=h.room; simp; omega
 . unfold Abs.und;simp only;rw[Av5 h.tk,iE]; rfl
theorem Abs.Ok.double_ok (h:s.Ok rm) (k:Int):(s.double k).2.Ok rm∧(s.double k).2.und=s.und∧(s.double k).2.fs=s.fs:=by
 unfold Abs.double;split
 . exact⟨h,rfl,rfl⟩
 . rename_i V;split
   . exact⟨h,rfl,rfl⟩
   . rename_i D;obtain⟨_,rfl,hi⟩:=gE (by simpa using V);have O:s.row.length<s.room:=by unfold Abs.fullB at D; simpa using D
     refine⟨⟨h.room,λn J U=>List.mem_append.2 (.inl (h.cov n J U)),λn d=>?_,h.tk,?_⟩,rfl,rfl⟩
     . rcases List.mem_append.1 d with d | d
       . exact h.lt n d
       . rw[List.mem_singleton.1 d,aD hi]; exact h.lt _ (PW hi)
     . have:=h.room; simp; omega
theorem Aj0 {l:List Nat} {i:Nat} (hi:i<l.length) {n:Nat} (D:n∈l) (d:n≠l[i]):n∈l.eraseIdx i:=by
 obtain⟨j,h,rfl⟩:=tM D;have:j≠i:=λe=>by subst e; exact d rfl
 exact List.mem_eraseIdx_iff_getElem.2 ⟨j,h,this,rfl⟩
theorem Abs.Ok.move_ok (h:s.Ok rm) (k:Int):(s.move k).2.Ok rm∧(s.move k).2.und=s.und∧(s.move k).2.fs=s.fs:=by
 unfold Abs.move;split
 . exact⟨h,rfl,rfl⟩
 . rename_i O;obtain⟨i,rfl,hi⟩:=gE (by simpa using O);rw[aD hi];simp only[YZ];refine⟨⟨h.room,λn D J=>?_,λn d=>?_,h.tk,?_⟩,rfl,trivial⟩
   . by_cases e:n=s.row[i]
     . rw[e]; simp
     . exact List.mem_append.2 (.inl (Aj0 hi (h.cov n D J) e))
   . rcases List.mem_append.1 d with d | d
     . exact h.lt n (AoJ d)
     . rw[List.mem_singleton.1 d]; exact h.lt _ (PW hi)
   . have:=h.rl; grind
theorem Abs.Ok.take_ok (h:s.Ok rm) (k:Int):(s.take k).2.2.2.Ok rm∧(s.take k).2.2.2.fs=s.fs∧(((s.take k).2.1=false∧(s.take k).2.2.2.taken=s.taken∧(s.take k).2.2.2.row.length<=s.row.length) ∨
   ((s.take k).2.1=true∧(s.take k).2.2.2.taken=s.taken+1∧(s.take k).2.2.2.row.length+1=s.row.length∧s.und=uq (s.take k).1 :: (s.take k).2.2.2.und∧s.fs[s.taken]? = some (s.take k).1)):=by
 unfold Abs.take;split
 . grind
 . rename_i W;obtain⟨i,rfl,hi⟩:=gE (by simpa using W);rw[aD hi];simp only[YZ];have hl:=h.lt _ (PW hi);have a2:=h.rl;have O:(s.row.eraseIdx i).length+1=s.row.length:=by grind
   split
   . grind
   . split
     . rename_i V Z;exact⟨⟨h.room,λn D J=>Aj0 hi (h.cov n D J) (by simp only at D; omega),λn U=>h.lt n (AoJ U),h.tk,by simp only; omega⟩,rfl,.inl ⟨rfl,rfl,by simp only; omega⟩⟩
     . rename_i V Z;have e:s.row[i]=s.taken:=by omega
       have d:s.taken<s.fs.length:=by omega
       have hg:s.fs.getD s.row[i] zf=s.fs[s.taken]:=by rw[e]; simp[d]
       refine⟨⟨h.room,λn D J=>Aj0 hi (h.cov n (by simp only at D; omega) J) (by simp only at D; omega),λn U=>h.lt n (AoJ U),by simp only; omega,by simp only; omega⟩,rfl,.inr ⟨rfl,rfl,O,?_,?_⟩⟩
       . unfold Abs.und;simp only;rw[hg,Ao7 d,OU]
       all_goals grind
theorem Abs.Ok.take_old (h:s.Ok rm) (d:s.row≠[]):(s.take s.oldest).2.2.2.row.length+1=s.row.length:=by
 have⟨hi,D⟩:=AgC d;have U:=List.length_pos_iff.2 d;have V:s.oldest=((WQ s.row:Nat):Int):=by unfold Abs.oldest; rw[if_neg (by omega)]
 have J:s.at s.oldest=0:=by rw[V]; unfold Abs.at; omega
 have O:¬s.taken<s.row[WQ s.row]:=λ_=>by have W:=h.lt _ (PW hi);have:=D s.taken (h.cov s.taken (Z0 _) (by omega));omega
 unfold Abs.take;rw[if_neg (by rw[J]; simp),V,aD hi,if_neg O];grind
end
section
open Go Go.Fw
def oF (f:List Int) (k:Nat):List Int:=((List.range k).filter λi:Nat=>G7 f i).map λi:Nat=>(i:Int)
theorem xF (f:List Int) (k:Nat):oF f (k+1)=oF f k++if G7 f k=true then [(k:Int)] else []:=by unfold oF;rw[bM,jG,iE];grind
theorem xG {f:List Int} {a:Nat}:∀ b,a<=b->(∀ m,a<=m->m<b->G7 f m=false)->oF f b=oF f a
  | 0, h, _ => by
    have : a = 0 := by omega
    rw[this]
  | b+1,h,hz=>by
    by_cases e:a=b+1
    . rw[e]
    . rw[xF,hz b (by omega) (by omega),if_neg (by simp),lP];exact xG b (by omega) λm d _=>hz m d (by omega)
theorem AnM (f:List Int) (k:Nat):(oF f k).length<=k:=by grind[oF]
theorem zJ {f:List Int} {Q:List Int->Prop} (Z:rU f) (hl:f.length<=1000000) (hQ:Q (WN f)):Z8 f Q:=by
 unfold Z8 LU JZ GI QG;refine AL (s0:=(([]:List Int),(0:Nat))) (λ(s:List Int×Nat) i=>(s.1,i,s.2)) 0 f.length (by omega) (λk s=>s.2=0∧s.1=oF f (64*k)) (by omega) ⟨rfl,rfl⟩ (λk s next _ _ O hn=>?_) (λs next O=>?_)
 . have⟨s1,s2⟩:=s;have⟨d,D⟩:=O;simp only at d D ⊢;subst d;have h:=dD Z k;refine A2 (λ_=>BL (by omega) (by omega) ?_) (λa4=>by omega)
   have a6:shl .i64 (k:Int) 6=64*(k:Int):=by show AJ ((k:Int)*2 ^ 6)=_;rw[AK (by omega) (by omega)]; omega
   rw[a6];refine CQ (λs:List Int×Int×Int×Nat=>∃ j:Nat,j<=64∧s.2.2.1=64*k+j∧s.2.1=at0 f k / 2 ^ j∧s.2.2.2=0∧s.1=oF f (64*k+j)) (λs=>s.2.1.toNat) ⟨0,by omega,by simp,by simp,rfl,D⟩ ?_;rintro⟨t1,w,a5,_⟩ _ ⟨j,_,ha,J,h4,V⟩ hnx;simp only at ha J h4 V ⊢;subst h4
   have U:0<=w∧w<18446744073709551616:=by rw[J];have hp:(0:Int)<2 ^ j:=AjY (by omega);exact⟨AjO h.1 (Aa8 hp),Int.lt_of_le_of_lt (AoU _ h.1) h.2⟩
   have e1:AJ (a5+1)=64*(k:Int)+((j+1:Nat):Int):=by rw[ha,AK (by omega) (by omega)]; omega
   refine BO (λ_=>?_) (λhe=>?_)
   . have a2:j<64:=by grind
     have a8:=AfM Z a2 J;have ec:((64*k+j:Nat):Int)=64*(k:Int)+j:=by omega
     have a7:=xF f (64*k+j);rw[ec] at a7;rw[AkZ U.1 U.2,Al0,e1];have a9:=AnM f (64*k+j);refine AY (λd=>⟨rfl,AO (by subst V; simp; omega) (AH rfl (hnx _ ⟨j+1,by omega,rfl,fY J,rfl,?_⟩ (by simp only; omega)))⟩) (λd=>hnx _ ⟨j+1,by omega,rfl,fY J,rfl,?_⟩ (by simp only; omega))
     all_goals grind
   . refine hn (_,0) ⟨rfl,?_⟩;show t1=_;rw[V,show 64*(k+1)=64*k+64 by omega];refine(xG _ (by omega) λm d D=>?_).symm;obtain⟨q,rfl⟩:∃ q,m=64*k+q:=⟨m - 64*k,by omega⟩;have:=AaT Z (j:=j) (k:=q) (by omega) (by omega) J he;grind
 . have⟨s1,s2⟩:=s;have⟨d,D⟩:=O;simp only at d D ⊢;subst d;refine A2 (λa4=>by omega) (λ_=>⟨rfl,?_⟩);show Q s1;rw[D]; exact hQ
variable {c:GC} {g:Gh}
theorem Q3 {p:Nat} {A:Prop} {B:Nat->Prop} (h:B p):mE (some p) A B:=⟨(λe=>nomatch e),λ_ e=>by cases e; exact h⟩
theorem AgI (h:c.Ok) {o:A6} {ws:A4} {ad:Nat->Nat} (O:o.owners=(List.range c.R).map λi=>some (ad (i*c.C))) (hN:o.setup.Plan.N=c.n) {k:Nat}
   (hw:∀ i,i<c.R->∃ w,BG (ad (i*c.C)) ws=some w∧w.has=c.sg k i) {Q:State->Prop} (J:Q (CU 0 c.n (c.G k))):H0 o ws Q:=by
 have hR:=h.R1; have c1:=h.n4;unfold H0;have c2:o.owners.length=c.R:=by rw[O]; simp
 refine AL (λ(s:List Int×List Int×List Int) i=>(s.1,s.2.1,s.2.2,i)) 0 c.R (by omega) (λi s=>s=(J6 (c.ls i) λv=>(c.G k v).1,J6 (c.ls i) λv=>(c.G k v).2.1,NH (c.ls i) λv=>(c.G k v).2.2)) (by omega) (by unfold GC.ls; rw[AgD]; rfl) (λi s next _ hi U hn=>?_) (λs next U=>?_) (s0:=([],[],[]))
 . subst U;dsimp only;have⟨w,a5,a4⟩:=hw i hi;have b1:=h.ln_n i hi; have c0:=h.ls_n hi; have a8:=h.ls_ln i;refine A2 (λ_=>AP (by omega) (x:=some (ad (i*c.C))) (by rw[O]; simp[hi]) ?_) (λd=>by omega);unfold K3 IR;refine Q3 ⟨w,a5,?_⟩;dsimp only;rw[a4];have lA:(c.sg k i).A.length=c.ln i:=NI _ _;have lB:(c.sg k i).B.length=c.ln i:=NI _ _;have a9:rU (c.sg k i).On:=(IX _ _).1
   have Z:(c.sg k i).On.length<=1000000:=by have:(c.sg k i).On.length=KZ (c.ln i):=(IX _ _).2.1;have:=dE (c.ln i); omega
   refine RF (by omega) (RF (by omega) (kG Z (AO (by rw[NI,lA]; omega) (AO (by rw[NI,lB]; omega) (zJ a9 Z ?_)))));have a7:WN (c.sg k i).On=NH (c.ln i) λa=>(c.G k (c.ls i+a)).2.2:=ArJ (by omega) _;rw[a7];have d0:=V5 (c.ln i) λa=>(c.G k (c.ls i+a)).2.2;have a2:=V5 (c.ls i) λv=>(c.G k v).2.2;refine ArK (xs:=NH (c.ln i) λa=>(c.G k (c.ls i+a)).2.2) (f:=λx:Int=>x+(c.ls i:Int)) (by omega) (λ_ s nx V _ a6=>?_) (λnx=>?_)
   . have b0:=gA (PW V);have e:(c.sg k i).Low=(c.ls i:Int):=rfl;refine A2 (λ_=>B8 V (AO (by simp; omega) ?_)) (λd=>by omega);simp only[e];rw[AK (x:=(c.ls i:Int)+_) (by omega) (by omega),Int.add_comm];exact a6
   . refine A2 (λd=>by omega) λ_=>hn (_,_,_) ?_;show(_++J6 (c.ln i) (λa=>(c.G k (c.ls i+a)).1),_++J6 (c.ln i) (λa=>(c.G k (c.ls i+a)).2.1),_)=_;rw[<-Ag3,<-Ag3,<-ArH,a8]
 . subst U;have D:c.ls c.R=c.n:=uJ _ hR.1;dsimp only;rw[D,hN];have a2:=V5 c.n λv=>(c.G k v).2.2;refine A2 (λd=>by omega) λ_=>WM (by omega) (λx hx=>by have:=gA hx; unfold EA; omega) ?_;unfold CU chS at J;simp only[jH] at J;exact J
theorem Ax8 (h:c.Ok) (g:Gh):∃ i,i<c.R∧g.rnd c i≠g.nh c:=by
 have D:=h.R1;unfold Gh.nh Gh.rnd;by_cases h1:g.u<=1
 . refine⟨0,by omega,?_⟩;grind
 . rw[if_neg h1];rcases Aa6 (∀ i,i<c.R->g.O i=true) with d | d
   . refine⟨0,by omega,?_⟩;rw[if_pos (d 0 (by omega))];by_cases h3:c.st (g.u - 1)=3
     . grind
     . rw[if_neg h3,if_pos (c:=(∀ i,i<c.R->g.O i=true)∧c.st (g.u - 1)≠3) ⟨d,h3⟩]; omega
   all_goals grind
def GC.hist (c:GC) (n:Nat):List State:=(List.range n).map λk=>CU 0 c.n (c.G k)
theorem AlM (h:c.Ok) (hg:g.Ok c) {o:A6} {ws:A4} {ad:Nat->Nat} (V:o.owners=(List.range c.R).map λi=>some (ad (i*c.C))) (hN:o.setup.Plan.N=c.n)
   (hw:∀ i,i<c.R->∃ w,BG (ad (i*c.C)) ws=some w∧w.round=(g.rnd c i:Int)∧w.has=c.sg (g.rnd c i) i) {n:Nat} (J:o.history=c.hist n) (Z:g.nh c=n∨g.nh c=n+1∧∀ i,i<c.R->g.rnd c i=n)
   {Q:A6->Prop} (D:Q { o with history:=c.hist (g.nh c) }):EN o ws Q:=by
 have hR:=h.R1; have hU:=h.U_b; have a4:=hg.u;have a5:o.owners.length=c.R:=by rw[V]; simp
 have d:o.history.length=n:=by rw[J]; simp[GC.hist]
 have a2:n<=50:=by
   have:g.nh c<=50:=by unfold Gh.nh; split <;> (try split) <;> omega
   omega
 unfold EN;refine CR c.R (by omega) (λi=>∀ k,k<i->g.rnd c k=n) (λk hk=>by omega) (λi next hi hs U=>?_) (λnext hs=>?_)
 . have⟨w,w1,w2,_⟩:=hw i hi;refine A2 (λ_=>AP (by omega) (x:=some (ad (i*c.C))) (by rw[V]; simp[hi]) ?_) (λh'=>by omega);unfold K2 IQ;refine Q3 ⟨w,w1,?_⟩;dsimp only;rw[w2,d];refine BO (λO=>?_) λ_=>U λk hk=>?_
   . rcases Z with e | ⟨e,a6⟩
     . rw[e,<-J] at D; exact D
     all_goals grind
   all_goals grind
 . refine A2 (λh'=>by omega) λ_=>AgI h V hN (k:=n) (λi hi=>?_) (AO (by rw[d]; simp; omega) ?_)
   . grind
   . rcases Z with e | ⟨e,_⟩
     . have⟨i,hi,O⟩:=Ax8 h g;grind
     . rw[J];have:c.hist (g.nh c)=c.hist n++[CU 0 c.n (c.G n)]:=by rw[e]; unfold GC.hist; rw[bM,iE]; rfl
       rw[this] at D; exact D
variable {c:GC} {g:Gh}
section
variable {α:Type}
def zK (W:Nat->α) (k:Nat) (x:α):Nat->α:=λq=>if q=k then x else W q
def YQ (B:Nat->Nat->α) (a b:Nat) (l:α):Nat->Nat->α:=λx y=>if x=a∧y=b then l else B x y
theorem dY (W:Nat->α) (k:Nat) (x:α):zK W k x k=x:=if_pos rfl
theorem dZ {W:Nat->α} {k q:Nat} {x:α} (h:q≠k):zK W k x q=W q:=if_neg h
theorem KE (B:Nat->Nat->α) (a b:Nat) (l:α):YQ B a b l a b=l:=if_pos ⟨rfl,rfl⟩
theorem KF {B:Nat->Nat->α} {a b x y:Nat} {l:α} (h:¬(x=a∧y=b)):YQ B a b l x y=B x y:=if_neg h
theorem AuP (B:Nat->Nat->α) (a b:Nat):YQ B a b (B a b)=B:=by grind[YQ]
theorem aH (p:Nat) (x:α) (l:List (Nat×α)):BG p ((p,x) :: l)=some x:=if_pos rfl
theorem uL {p q:Nat} (h:q≠p) (x:α) (l:List (Nat×α)):BG q ((p,x) :: l)=BG q l:=if_neg h
theorem oG {p q:Nat} (h:q≠p) (x:α) (l:List (Nat×α)):BG q ((p,x) :: FJ p l)=BG q l:=(uL h x _).trans (NP h l)
end
abbrev qT:=Int×Int
theorem AsA {a b h d:Nat} (e:((a:Int),(b:Int))=((h:Int),(d:Int))):a=h∧b=d:=by grind
structure AG where
 g:Gh
 o:Nat→List AU
 B:Nat→Nat→Abs
structure AG.Ok (c:GC) (rm v0:Nat) (s:AG):Prop where
 gh:s.g.Ok c
 tot:∀ φ,AW (c.R*c.C) (fun k=>wt φ (s.o k))+AW (c.R*c.C) (fun a=>AW (c.R*c.C) fun b=>wt φ (s.B a b).und)=s.g.pend c φ
 to:∀ a b,a<c.R*c.C→b<c.R*c.C→∀ f∈(s.B a b).und,f.To=(b:Int)
 bx:∀ a b,a<c.R*c.C→b<c.R*c.C→(s.B a b).Ok rm
 tk:AW (c.R*c.C) (fun a=>AW (c.R*c.C) fun b=>(s.B a b).taken)+v0=s.g.val c
def AG.pick (s:AG) (k:Nat):AG:=match s.o k with
 | []=>s
 | f :: r=>if (s.B k f.To.toNat).fullB=true then s else { s with o:=zK s.o k r,B:=YQ s.B k f.To.toNat ((s.B k f.To.toNat).send f).2 }
variable {s:AG} {rm v0:Nat}
theorem AlN (f:AU) {l:List AU} (h:f∈l):1<=wt (λx=>if x=f then 1 else 0) l:=by have:=As7 (φ:=λx=>if x=f then 1 else 0) h;simpa using this
theorem AG.Ok.out_pend (H:s.Ok c rm v0) {k:Nat} (hk:k<c.R*c.C) {f:AU} (D:f∈s.o k):s.g.Pend c f:=by refine s.g.pend_in c ?_;have d:=H4 (f:=λk=>wt (λx=>if x=f then 1 else 0) (s.o k)) hk;have h:=H.tot λx=>if x=f then 1 else 0;grind[AlN]
theorem AG.Ok.box_pend (H:s.Ok c rm v0) {a b:Nat} (d:a<c.R*c.C) (D:b<c.R*c.C) {f:AU} (U:f∈(s.B a b).und):s.g.Pend c f:=by refine s.g.pend_in c ?_;have J:=H4 (f:=λa=>AW (c.R*c.C) λb=>wt (λx=>if x=f then 1 else 0) (s.B a b).und) d;have h:=H4 (f:=λb=>wt (λx=>if x=f then 1 else 0) (s.B a b).und) D;have O:=H.tot λx=>if x=f then 1 else 0;grind[AlN]
theorem AG.Ok.out_len (H:s.Ok c rm v0) (h:c.Ok) {k:Nat} (hk:k<c.R*c.C):(s.o k).length<=85:=by have d:=H4 (f:=λk=>wt (λ_=>1) (s.o k)) hk;have D:=H.tot λ_=>1;have J:=AdF (g:=s.g) h;simp only[xD] at d;simp only[xD] at D; omega
theorem AG.Ok.und_len (H:s.Ok c rm v0) (h:c.Ok) {a b:Nat} (d:a<c.R*c.C) (J:b<c.R*c.C):(s.B a b).und.length<=85∧(s.B a b).fs.length<=4000:=by have O:=H4 (f:=λa=>AW (c.R*c.C) λb=>wt (λ_=>1) (s.B a b).und) d;have D:=H4 (f:=λb=>wt (λ_=>1) (s.B a b).und) J;have U:=H.tot λ_=>1;have Z:=AdF (g:=s.g) h;have t1:=H4 (f:=λa=>AW (c.R*c.C) λb=>(s.B a b).taken) d;have V:=H4 (f:=λb=>(s.B a b).taken) J;have t2:=H.tk;have t3:=AvT h H.gh;have t4:=(H.bx a b d J).und_len;simp only[xD] at O D U;omega
theorem AdH (h:c.Ok) (D:g.Ok c) {f:AU} (J:g.Pend c f):∃ b:Nat,b<c.R*c.C∧f.To=(b:Int):=by have⟨_,_,hi,d,e,_⟩:=As9 h D J;exact⟨_,kK hi d,e⟩
theorem AG.Ok.pick (a4:c.Ok) (H:s.Ok c rm v0) {k:Nat} (hk:k<c.R*c.C):(s.pick k).Ok c rm v0:=by
 unfold AG.pick;split
 . exact H
 . rename_i f r ho;split
   . exact H
   . rename_i Z;have a2:=H.out_pend hk (f:=f) (by rw[ho]; simp);have⟨b,h,a5⟩:=AdH a4 H.gh a2;have a6:=(AdG a4 a2).2;rw[a5,YZ] at Z ⊢;have⟨_,k2,_,_⟩:=(H.bx k b hk h).send_ok f (by simpa using Z);rw[AuO a6] at k2;have a7:((s.B k b).send f).2.taken=(s.B k b).taken:=by rw[Abs.send_new (by simpa using Z)]
     refine⟨H.gh,λφ=>?_,λV U J O f' d=>?_,λV U J O=>?_,?_⟩
     . have t1:=HG (f:=λq=>wt φ (s.o q)) (f':=λq=>wt φ (zK s.o k r q)) hk λq _ D=>by rw[dZ D]
       have t2:=EW (f:=λx y=>wt φ (s.B x y).und) (f':=λx y=>wt φ (YQ s.B k b ((s.B k b).send f).2 x y).und) hk h λx y _ _ D=>by rw[KF D]
       have t3:=H.tot φ;simp only[dY,ho,wt] at t1;simp only[KE,k2,AdE,wt] at t2;simp only;omega
     . by_cases e:V=k∧U=b
       . simp only[e.1,e.2,KE,k2] at d;rcases List.mem_append.1 d with d | d
         . rw[e.2]; exact H.to k b hk h f' d
         all_goals grind
       . simp only[KF e] at d; exact H.to V U J O f' d
     . by_cases e:V=k∧U=b
       . grind[KE]
       . simp only[KF e]; exact H.bx V U J O
     . have t2:=EW (f:=λx y=>(s.B x y).taken) (f':=λx y=>(YQ s.B k b ((s.B k b).send f).2 x y).taken) hk h λx y _ _ D=>by rw[KF D]
       have t3:=H.tk;grind[KE]
structure BxV (N rm:Nat) (B:Nat→Nat→Abs) (bx:List (qT×Option Nat)) (bs:A8):Prop where
 ks:EY bx
 key:∀ k v,BG k bx=some v→∃ a b p:Nat,a<N∧b<N∧k=((a:Int),(b:Int))∧v=some p
 get:∀ a b p:Nat,BG ((a:Int),(b:Int)) bx=some (some p)→∃ x,BG p bs=some x∧iT x (B a b)
 no:∀ a b:Nat,BG ((a:Int),(b:Int)) bx=none→B a b=Abs.nil rm
 inj:∀ k k' p,BG k bx=some (some p)→BG k' bx=some (some p)→k=k'
variable {N:Nat} {B:Nat→Nat→Abs} {bx:List (qT×Option Nat)} {bs:A8}
theorem BxV.upd (h:BxV N rm B bx bs) {a b p:Nat} (hp:BG ((a:Int),(b:Int)) bx=some (some p)) {O:BF} {U:Abs} (hx:iT O U):BxV N rm (YQ B a b U) bx ((p,O) :: FJ p bs):=by
 refine⟨h.ks,h.key,λJ D V d=>?_,λJ D d=>?_,h.inj⟩
 . by_cases e:J=a∧D=b
   . grind[aH,KE]
   . have a2:V≠p:=λZ=>by subst Z;have:=h.inj _ _ _ d hp;exact e (AsA this)
     have⟨_,_,_⟩:=h.get J D V d;grind[oG,KF]
 . rw[KF]
   . exact h.no J D d
   all_goals grind
theorem BxV.new (h:BxV N rm B bx bs) (a2:rm<=64) {a b p:Nat} (ha:a<N) (hb:b<N) (a4:BG ((a:Int),(b:Int)) bx=none) (hf:BG p bs=none) :
   BxV N rm B (EJ ((a:Int),(b:Int)) (some p) bx) ((p,{ room:=(rm:Int),row:=[],by_:=[],often:=[],sent:=0,taken:=0 }) :: bs):=by
 have a5:∀ k,BG k bx≠some (some p):=λk hk=>by obtain⟨D,d,O,_,_,rfl,e⟩:=h.key _ _ hk;have⟨x,V,_⟩:=h.get D d p hk;rw[hf] at V; cases V
 have U:∀ k v,BG k (EJ ((a:Int),(b:Int)) (some p) bx)=some v->(k=((a:Int),(b:Int))∧v=some p)∨(k≠((a:Int),(b:Int))∧BG k bx=some v):=λk v hk=>by
   by_cases e:k=((a:Int),(b:Int))
   . subst e; rw[CH] at hk; grind
   . rw[CX e] at hk; exact .inr ⟨e,hk⟩
 refine⟨H6 h.ks _ _,λk v hk=>?_,λD d O hk=>?_,λD d hk=>?_,λk _ O hk J=>?_⟩
 . rcases U k v hk with⟨rfl,rfl⟩ | ⟨_,hk⟩
   . grind
   . exact h.key k v hk
 . rcases U _ _ hk with⟨e,Z⟩ | ⟨_,hk⟩
   . obtain⟨rfl,rfl⟩:D=a∧d=b:=AsA e;obtain rfl:O=p:=by simpa using Z
     exact⟨_,aH _ _ _,by rw[h.no _ _ a4]; exact AuJ rm a2⟩
   . have⟨x,V,_⟩:=h.get D d O hk;grind[uL]
 . by_cases e:((D:Int),(d:Int))=((a:Int),(b:Int))
   . rw[e,CH] at hk; cases hk
   . rw[CX e] at hk; exact h.no D d hk
 . rcases U _ _ hk with⟨rfl,e⟩ | ⟨_,hk⟩ <;> rcases U _ _ J with⟨rfl,Z⟩ | ⟨_,J⟩
   . rfl
   . grind
   . grind
   . exact h.inj _ _ _ hk J
structure GrW (c:GC) (g:Gh) (oq:Nat→List AU) (ad:Nat→Nat) (W:Nat→A3) (rm:Nat) (o:A6) (ws:A4):Prop where
 pn:o.setup.Plan.N=c.n
 room:o.setup.Room=rm
 wk:o.workers=(List.range (c.R*c.C)).map fun k=>some (ad k)
 ow:o.owners=(List.range c.R).map fun i=>some (ad (i*c.C))
 inj:∀ a b,a<c.R*c.C→b<c.R*c.C→ad a=ad b→a=b
 mem:∀ k,k<c.R*c.C→BG (ad k) ws=some (W k)
 ok:∀ i j,i<c.R→j<c.C→WOk c g i j (W (i*c.C+j))
 out:∀ k,k<c.R*c.C→(W k).out=oq k
 hist:o.history=c.hist (g.nh c)
structure qU (c:GC) (s:AG) (ad:Nat→Nat) (W:Nat→A3) (rm:Nat) (o:A6) (ws:A4) (bs:A8):Prop extends GrW c s.g s.o ad W rm o ws where
 bx:BxV (c.R*c.C) rm s.B o.boxes bs
variable {ad:Nat→Nat} {W:Nat→A3} {o:A6} {ws:A4} {oq:Nat→List AU}
theorem GrW.boxes (h:GrW c g oq ad W rm o ws) (d:List (qT×Option Nat)):GrW c g oq ad W rm { o with boxes:=d } ws:=⟨h.pn,h.room,h.wk,h.ow,h.inj,h.mem,h.ok,h.out,h.hist⟩
theorem WOk.out {i j:Nat} {w:A3} (h:WOk c g i j w) (l:List AU):WOk c g i j { w with out:=l }:=
 ⟨⟨h.st.pl,h.st.pn,h.st.gr,h.st.lm,h.st.ch,h.st.ro,h.st.co⟩,h.spread,h.share,λd=>by have o:=h.own d; exact⟨o.waits,o.begun,o.round,o.status,o.has,o.aside,o.sums,o.came⟩,λhi d=>by have o:=h.one hi d; exact⟨o.vote,o.votes,o.closed⟩⟩
theorem AsB {k:Nat} (h:o.workers.length=N) (hk:k<N) {Q:Bool->Prop} (d:Q true):GA o ws k Q:=by unfold GA;refine A2 (λ_=>?_) (λ_=>by omega);grind
theorem AgJ (Z:o.workers.length=N) (H:BxV N rm B o.boxes bs) (hr:o.setup.Room=rm) (a2:1<=rm∧rm<=64) {a b:Nat} (U:a<N) (hb:b<N) {Q0:A6×A8->Prop} {V:Option Nat×A6×A8->Prop}
  (hQ:∀ p D d x,BxV N rm B D d->(∀ q,BG ((a:Int),(b:Int)) o.boxes=some (some q)->q=p)->BG ((a:Int),(b:Int)) D=some (some p)->BG p d=some x->iT x (B a b)->V (some p,{ o with boxes:=D },d)):E9 o ws bs a b Q0 V:=by
 unfold E9;refine AsB Z U (AH rfl (AsB Z hb (AH rfl (KQ ?_))))
 cases hp:BG ((a:Int),(b:Int)) o.boxes with
 | none=>
  unfold ZI;rw[hr];refine AV rfl (A2 (λa4=>by omega) λ_=>A2 (λa4=>by omega) λ_=>λp hf=>KQ ?_);rw[CH];have h:=H.new a2.2 U hb hp hf;have⟨x,J,O⟩:=h.get a b p (CH _ _ _);exact hQ p _ _ x h (λq hq=>nomatch hp.symm.trans hq) (CH _ _ _) J O
 | some v=>
  obtain⟨_,_,p,_,_,_,rfl⟩:=H.key _ _ hp;refine AH rfl (KQ ?_);rw[hp];have⟨x,J,O⟩:=H.get a b p hp;simp_all
def Frm (c:GC) (ad:Nat->Nat) (ws d:A4):Prop:=∀ p,(∀ k,k<c.R*c.C->p≠ad k)->BG p d=BG p ws
theorem Frm.trans {h d:A4} (D:Frm c ad ws h) (J:Frm c ad h d):Frm c ad ws d:=λp hp=>(J p hp).trans (D p hp)
theorem GrW.wl (h:GrW c g oq ad W rm o ws):o.workers.length=c.R*c.C:=by rw[h.wk]; simp
theorem Aj1 (h:c.Ok) (A:s.Ok c rm v0) (H:qU c s ad W rm o ws bs) (b1:1<=rm∧rm<=64) {k:Nat} (hk:k<c.R*c.C) {Q:Bool×A6×A4×A8->Prop}
  (V:∀ r W' o' a2 J,qU c (s.pick k) ad W' rm o' a2 J->Frm c ad ws a2->Q (r,o',a2,J)):FQ o ws bs k Q:=by
 have a8:=H.wl;unfold FQ;refine AsB a8 hk (AH rfl (AP (by omega) (x:=some (ad k)) (by rw[H.wk]; simp[hk]) ?_));unfold KU K4 F7;refine Q3 ⟨W k,H.mem k hk,?_⟩;dsimp only;rw[H.out k hk];unfold AG.pick at V
 cases O:s.o k with
 | nil=>
  rw[O] at V;exact AV rfl (AV rfl (V false W o ws bs H λ_ _=>rfl))
 | cons f d=>
  rw[O] at V;have a4:=A.out_pend hk (f:=f) (by rw[O]; simp);have⟨b,hb,a7⟩:=AdH h A.gh a4;have a5:=A.out_len h hk;rw[O] at a5;simp only[uP] at a5;simp only[a7,YZ] at V;refine AY (λh0=>by simp at h0; omega) λ_=>AP (by omega) (x:=f) (by simp) (AuN (AdG h a4).1 (AH rfl ?_));rw[a7];refine AgJ a8 H.bx H.room b1 hk hb λ_ a6 J x a9 _ hp c1 c2=>?_;unfold QT;refine Q3 ⟨x,c1,send_ok c2 (AdG h a4).1 (by have:=(A.und_len h hk hb).2; omega) λ_ c0=>?_⟩;have D:=a9.upd hp c0
  cases Z:(s.B k b).fullB with
  | true=>
   rw[Abs.send_full Z] at D ⊢;simp only[AuP] at D;refine AV rfl ?_;have:=V false W { o with boxes:=a6 } ws _ (by rw[if_pos Z]; exact⟨H.boxes a6,D⟩) λ_ _=>rfl;exact this
  | false=>
   have e0:((s.B k b).send f).1=0:=by rw[Abs.send_new Z]
   rw[e0];refine AH rfl ?_;unfold KV K5 F7;refine Q3 ⟨W k,H.mem k hk,?_⟩;dsimp only;rw[H.out k hk,O];refine A2 (λ_=>⟨by omega,by simp only[uP]; omega,by omega,?_⟩) λh0=>absurd (show(0:Int)<((f :: d).length:Int) by simp only[uP]; omega) h0;have e1:(((f :: d).take ((f :: d).length:Int).toNat).drop (Int.toNat 1))=d:=by simp_all
   dsimp only;rw[e1];refine V true (zK W k { W k with out:=d }) _ _ _ ?_ λ_ b0=>oG (b0 k hk) _ _;rw[if_neg (by rw[Z]; simp)];refine⟨⟨H.pn,H.room,H.wk,H.ow,H.inj,λq U=>?_,λi j hi hj=>?_,λq U=>?_,H.hist⟩,D⟩
   . by_cases e:q=k
     . rw[e,dY,aH]
     . rw[dZ e,oG λe'=>e (H.inj _ _ U hk e')]; exact H.mem q U
   . by_cases e:i*c.C+j=k
     . rw[e,dY,<-e]; exact(H.ok i j hi hj).out _
     . rw[dZ e]; exact H.ok i j hi hj
   . by_cases e:q=k
     . simp only[e,dY]
     . simp only[dZ e]; exact H.out q U
variable {c:GC} {g:Gh} {s:AG} {rm v0:Nat} {ad:Nat→Nat} {W:Nat→A3} {o:A6} {ws:A4} {bs:A8}
def AsC (c:GC) (g:Gh) (f:AU) (r:Gh×List AU):Prop:=∃ i j,i<c.R∧j<c.C∧f.To=c.num i j∧AgH c g r.1 f r.2∧(∀ a b,a<c.R->b<c.C->¬(a=i∧b=j)->∀ w,WOk c g a b w->WOk c r.1 a b w) ∧
 ∀ (n:Int) w,WOk c g i j w->w.out.length<=1000->∀ Q:Bool×A3->Prop,(∀ w',WOk c r.1 i j w'->w'.out=w.out++r.2->Q (true,w'))->DZ w { f with Seq:=n } Q
open Classical in
noncomputable def AbN (c:GC) (g:Gh) (f:AU):Gh×List AU:=if h:∃ r,AsC c g f r then h.choose else (g,[])
theorem AgK (h:c.Ok) (hg:g.Ok c) {f:AU} (V:g.Pend c f):AsC c g f (AbN c g f):=by have⟨i,j,d,U,h3,J,N,D,O,Z⟩:=As9 h hg V;have:∃ r,AsC c g f r:=⟨(J,N),i,j,d,U,h3,D,O,Z⟩;unfold AbN;grind
noncomputable def AG.deliver (c:GC) (s:AG) (a b:Nat) (k:Int):AG:=
 if ((s.B a b).take k).2.1=true then ⟨(AbN c s.g (uq ((s.B a b).take k).1)).1,zK s.o b (s.o b++(AbN c s.g (uq ((s.B a b).take k).1)).2),YQ s.B a b ((s.B a b).take k).2.2.2⟩
 else { s with B:=YQ s.B a b ((s.B a b).take k).2.2.2 }
def AG.setB (s:AG) (a b:Nat) (x:Abs):AG:={ s with B:=YQ s.B a b x }
theorem AG.Ok.setB (H:s.Ok c rm v0) {a b:Nat} (V:a<c.R*c.C) (hb:b<c.R*c.C) {x:Abs} (hx:x.Ok rm) (hu:x.und=(s.B a b).und) (ht:x.taken=(s.B a b).taken):(s.setB a b x).Ok c rm v0:=by
 refine⟨H.gh,λφ=>?_,λU O D J f' d=>?_,λU O D J=>?_,?_⟩
 . have Z:=EW (f:=λx y=>wt φ (s.B x y).und) (f':=λp q=>wt φ (YQ s.B a b x p q).und) V hb λx y _ _ h=>by rw[KF h]
   have t3:=H.tot φ;simp only[KE,hu] at Z;unfold AG.setB;simp only;omega
 . unfold AG.setB at d;by_cases e:U=a∧O=b
   . simp only[e.1,e.2,KE,hu] at d; rw[e.2]; exact H.to a b V hb f' d
   . simp only[KF e] at d; exact H.to U O D J f' d
 . unfold AG.setB;by_cases e:U=a∧O=b
   . simp only[e.1,e.2,KE]; exact hx
   . simp only[KF e]; exact H.bx U O D J
 . have Z:=EW (f:=λx y=>(s.B x y).taken) (f':=λp q=>(YQ s.B a b x p q).taken) V hb λx y _ _ h=>by rw[KF h]
   have t3:=H.tk;simp only[KE,ht] at Z;unfold AG.setB;simp only;omega
theorem AG.Ok.took (h:c.Ok) (H:s.Ok c rm v0) {a b:Nat} (D:a<c.R*c.C) (J:b<c.R*c.C) {k:Int} (Z:((s.B a b).take k).2.1=true):(s.B a b).und=uq ((s.B a b).take k).1 :: ((s.B a b).take k).2.2.2.und∧((s.B a b).take k).2.2.2.taken=(s.B a b).taken+1 ∧
   s.g.Pend c (uq ((s.B a b).take k).1)∧(uq ((s.B a b).take k).1).To=(b:Int):=by
 have⟨_,_,d⟩:=(H.bx a b D J).take_ok k;rcases d with⟨d,_⟩ | ⟨_,V,_,O,_⟩
 . rw[Z] at d; cases d
 . have U:uq ((s.B a b).take k).1∈(s.B a b).und:=by rw[O]; simp
   exact⟨O,V,H.box_pend D J U,H.to a b D J _ U⟩
theorem AG.Ok.deliver (a4:c.Ok) (H:s.Ok c rm v0) {a b:Nat} (Z:a<c.R*c.C) (U:b<c.R*c.C) (k:Int):(s.deliver c a b k).Ok c rm v0:=by
 have⟨h1,h2,h3⟩:=(H.bx a b Z U).take_ok k;unfold AG.deliver;by_cases ht:((s.B a b).take k).2.1=true
 . rw[if_pos ht];have⟨hu,a5,hp,_⟩:=H.took a4 Z U ht;have⟨_,_,_,_,e,D,_⟩:=AgK a4 H.gh hp;generalize AbN c s.g (uq ((s.B a b).take k).1)=r at D ⊢;refine⟨D.ok,λφ=>?_,λh V O a2 f' J=>?_,λh V O a2=>?_,?_⟩
   . have t1:=HG (f:=λq=>wt φ (s.o q)) (f':=λq=>wt φ (zK s.o b (s.o b++r.2) q)) U λq _ d=>by rw[dZ d]
     have t2:=EW (f:=λx y=>wt φ (s.B x y).und) (f':=λx y=>wt φ (YQ s.B a b ((s.B a b).take k).2.2.2 x y).und) Z U λx y _ _ d=>by rw[KF d]
     have t3:=H.tot φ;have t4:=D.w φ;simp only[dY,AdE] at t1;simp only[KE,hu,wt] at t2;simp only;omega
   . by_cases e:h=a∧V=b
     . simp only[e.1,e.2,KE] at J;rw[e.2]; exact H.to a b Z U f' (by rw[hu]; exact cD _ J)
     . simp only[KF e] at J; exact H.to h V O a2 f' J
   . by_cases e:h=a∧V=b
     . simp only[e.1,e.2,KE]; exact h1
     . simp only[KF e]; exact H.bx h V O a2
   . have t2:=EW (f:=λx y=>(s.B x y).taken) (f':=λx y=>(YQ s.B a b ((s.B a b).take k).2.2.2 x y).taken) Z U λx y _ _ d=>by rw[KF d]
     have t3:=H.tk;have t4:=D.v;simp only[KE,a5] at t2;simp only;omega
 . rw[if_neg ht];rcases h3 with⟨_,h4,_⟩ | ⟨h3,_⟩
   . exact H.setB Z U h1 (by unfold Abs.und; rw[h2,h4]) h4
   . exact absurd h3 ht
theorem qV (h:c.Ok) (A:s.Ok c rm v0) (H:qU c s ad W rm o ws bs) (d5:1<=rm∧rm<=64) {a b:Nat} (ha:a<c.R*c.C) (J:b<c.R*c.C) {k:Int} {Q:Bool×A6×A4×A8->Prop}
  (V:∀ r W' o' a7 O,qU c (s.deliver c a b k) ad W' rm o' a7 O->Frm c ad ws a7->(∀ q,BG ((a:Int),(b:Int)) o.boxes=some (some q)->∃ x,BG q O=some x∧iT x ((s.deliver c a b k).B a b))->Q (r,o',a7,O)):ED o ws bs a b k Q:=by
 have d8:=H.wl;unfold ED;refine AgJ d8 H.bx H.room d5 ha J λ_ a2 O x d1 c1 hp d9 e1=>?_;unfold QU;refine Q3 ⟨x,d9,take_ok e1 λx' a6=>?_⟩;have c2:=d1.upd hp a6;unfold AG.deliver at V
 cases ht:((s.B a b).take k).2.1 with
 | false=>exact AV rfl (V false W { o with boxes:=a2 } ws _ (by rw[if_neg (by rw[ht]; simp)]; exact⟨H.boxes a2,c2⟩) (λ_ _=>rfl) λq U=>⟨x',by rw[c1 q U]; exact aH _ _ _,by rw[if_neg (by rw[ht]; simp)]; simp only[KE]; exact a6⟩)
 | true=>
  refine AH rfl (AP (by omega) (x:=some (ad b)) (by show o.workers[_]? = _; rw[H.wk]; simp[J]) ?_);unfold KW;refine Q3 ⟨W b,H.mem b J,?_⟩;have⟨_,_,d2,d6⟩:=A.took h ha J ht;have⟨i,j,hi,hj,b0,a5,d0,a8⟩:=AgK h A.gh d2;rw[if_pos ht] at V;have e2:b=i*c.C+j:=by rw[d6] at b0; unfold GC.num at b0; omega
  have e4:=A.out_len h J;generalize AbN c s.g (uq ((s.B a b).take k).1)=r at a5 d0 a8 V;subst e2;refine a8 ((s.B a (i*c.C+j)).take k).1.Seq _ (H.ok i j hi hj) (by rw[H.out _ J]; omega) _ λw' d7 e3=>?_
  have a9:∀ d D,d<c.R->D<c.C->WOk c r.1 d D (zK W (i*c.C+j) w' (d*c.C+D)):=λd D c0 a4=>by
    by_cases e:d*c.C+D=i*c.C+j
    . obtain⟨rfl,rfl⟩:=AuM h a4 hj e;rw[dY]; exact d7
    . rw[dZ e];exact d0 d D c0 a4 (λZ=>e (by rw[Z.1,Z.2])) _ (H.ok d D c0 a4)
  have b1:∀ q,q<c.R*c.C->BG (ad q) ((ad (i*c.C+j),w') :: FJ (ad (i*c.C+j)) ws)=some (zK W (i*c.C+j) w' q):=λq U=>by
    by_cases e:q=i*c.C+j
    . rw[e,dY,aH]
    . rw[dZ e,oG λZ=>e (H.inj _ _ U J Z)]; exact H.mem q U
  refine AlM (o:={ o with boxes:=a2 }) h a5.ok H.ow H.pn (n:=s.g.nh c) (λk hk=>?_) H.hist a5.h ?_
  . have hC:=h.C1;have d3:k*c.C<c.R*c.C:=by have:=kK (c:=c) hk (show 0<c.C by omega); omega
    have ow:=(a9 k 0 hk (by omega)).own rfl;rw[gM] at ow;exact⟨_,b1 _ d3,ow.round,ow.has⟩
  . refine V true (zK W (i*c.C+j) w') _ _ _ ⟨⟨H.pn,H.room,H.wk,H.ow,H.inj,b1,a9,λq U=>?_,rfl⟩,c2⟩ (λ_ d4=>oG (d4 _ J) _ _) λq U=>⟨x',by rw[c1 q U]; exact aH _ _ _,by simp only[KE]; exact a6⟩;by_cases e:q=i*c.C+j
    . simp only[e,dY,e3,H.out _ J]
    . simp only[dZ e]; exact H.out q U
theorem AvU (a2:c.Ok) (A:s.Ok c rm v0) (H:qU c s ad W rm o ws bs) (O:1<=rm∧rm<=64) {a b:Nat} (h:a<c.R*c.C) (hb:b<c.R*c.C) {Q:Int×A6×A8->Prop}
  (Z:∀ r o' d,qU c s ad W rm o' ws d->Q (r,o',d)):HY o ws bs a b Q:=by
 unfold HY;refine AgJ H.wl H.bx H.room O h hb λ_ V d x U _ _ D J=>?_;unfold FF;exact Q3 ⟨x,D,xC J (Z _ _ _ ⟨H.boxes V,U⟩)⟩
def AG.double (s:AG) (a b:Nat) (k:Int):AG:=s.setB a b ((s.B a b).double k).2
def AG.move (s:AG) (a b:Nat) (k:Int):AG:=s.setB a b ((s.B a b).move k).2
theorem Ax9 (s:Abs) (k:Int):(s.double k).2.taken=s.taken:=by unfold Abs.double; grind
theorem AxA (s:Abs) (k:Int):(s.move k).2.taken=s.taken:=by unfold Abs.move; split <;> rfl
theorem AG.Ok.double (H:s.Ok c rm v0) {a b:Nat} (d:a<c.R*c.C) (h:b<c.R*c.C) (k:Int):(s.double a b k).Ok c rm v0:=H.setB d h ((H.bx a b d h).double_ok k).1 ((H.bx a b d h).double_ok k).2.1 (Ax9 _ _)
theorem AG.Ok.move (H:s.Ok c rm v0) {a b:Nat} (d:a<c.R*c.C) (h:b<c.R*c.C) (k:Int):(s.move a b k).Ok c rm v0:=H.setB d h ((H.bx a b d h).move_ok k).1 ((H.bx a b d h).move_ok k).2.1 (AxA _ _)
theorem AgL (a2:c.Ok) (A:s.Ok c rm v0) (H:qU c s ad W rm o ws bs) (O:1<=rm∧rm<=64) {a b:Nat} (ha:a<c.R*c.C) (hb:b<c.R*c.C) {k:Int} {Q:Int×A6×A8->Prop}
  (h:∀ r o' d,qU c (s.double a b k) ad W rm o' ws d->Q (r,o',d)):G1 o ws bs a b k Q:=by
 unfold G1;refine AgJ H.wl H.bx H.room O ha hb λ_ V d x U _ hp D J=>?_;unfold O5;exact Q3 ⟨x,D,double_ok J λ_ Z=>h _ _ _ ⟨H.boxes V,U.upd hp Z⟩⟩
theorem AsD (a2:c.Ok) (A:s.Ok c rm v0) (H:qU c s ad W rm o ws bs) (O:1<=rm∧rm<=64) {a b:Nat} (ha:a<c.R*c.C) (hb:b<c.R*c.C) {k:Int} {Q:Int×A6×A8->Prop}
  (h:∀ r o' d,qU c (s.move a b k) ad W rm o' ws d->Q (r,o',d)):HD o ws bs a b k Q:=by
 unfold HD;refine AgJ H.wl H.bx H.room O ha hb λ_ V d x U _ hp D J=>?_;unfold QV;exact Q3 ⟨x,D,move_ok J λ_ Z=>h _ _ _ ⟨H.boxes V,U.upd hp Z⟩⟩
end
section
open Go Go.Fw Go.Sort Go.Shelf
variable {c:GC} {g:Gh} {s:AG} {N rm v0:Nat} {B:Nat→Nat→Abs} {bx:List (qT×Option Nat)} {ad:Nat→Nat} {W:Nat→A3} {o:A6} {ws:A4} {bs:A8}
theorem AbO:∀ (M:Nat) (l:List Nat),l.Nodup->(∀ x∈l,x<M)->l.length<=M
 | 0,l,_,h=>by cases l with
  | nil=>simp
  | cons x l=>exact absurd (h x (by simp)) (by omega)
 | M+1,l,hn,h=>by
  have h1:=AbO M (l.erase M) (hn.erase M) λx _=>by grind
  grind
theorem AsE {N a b h d:Nat} (J:b<N) (D:d<N) (e:a*N+b=h*N+d):a=h∧b=d:=by
 have O:(a*N+b) / N=a:=by rw[pI,AhG (by omega),AeB J]; rfl
 have U:(h*N+d) / N=h:=by rw[pI,AhG (by omega),AeB D]; rfl
 grind
theorem BxV.len (h:BxV N rm B bx bs):bx.length<=N*N:=by
 have U:∀ e∈bx,∃ a b p:Nat,a<N∧b<N∧e.1=((a:Int),(b:Int))∧e.2=some p:=λe D=>h.key e.1 e.2 ((KI h.ks).2 D);have:=AbO (N*N) (bx.map λe=>e.1.1.toNat*N+e.1.2.toNat) ?_ λx O=>?_
 . simpa using this
 . have J:(bx.map (·.1)).Nodup:=h.ks;unfold List.Nodup at J ⊢;rw[X3] at J ⊢;refine J.imp_of_mem λ{x y} O hy d e=>d ?_;grind[AsE]
 . obtain⟨e,D,rfl⟩:=List.mem_map.1 O;have⟨a,b,_,Z,_,V,_⟩:=U e D;rw[V];simp only[YZ];have:(a+1)*N<=N*N:=uM _ Z;grind
def lkN (N:Nat) (B:Nat->Nat->Abs):List Nat:=(List.range (N*N)).filter λq=>!(B (q / N) (q % N)).row.isEmpty
def kyN (N q:Nat):qT:=(((q / N:Nat):Int),((q % N:Nat):Int))
theorem WS {q:Nat}:q∈lkN N B↔q<N*N∧(B (q / N) (q % N)).row≠[]:=by grind[lkN]
theorem AlO {a b:Nat} (d:b<N):(a*N+b) / N=a∧(a*N+b) % N=b:=by
 constructor
 . rw[pI,AhG (by omega),AeB d]; rfl
 . rw[pI,AoY]; exact AjM d
def cfK (x y:Int×Int):Int:=cfT ⟨x.1,x.2,0⟩ ⟨y.1,y.2,0⟩
theorem AuQ:SWO (ltOf cfK):=⟨λx=>tY.irrefl ⟨x.1,x.2,0⟩,λx y z=>tY.trans ⟨x.1,x.2,0⟩ ⟨y.1,y.2,0⟩ ⟨z.1,z.2,0⟩,λx y z=>tY.ntrans ⟨x.1,x.2,0⟩ ⟨y.1,y.2,0⟩ ⟨z.1,z.2,0⟩⟩
theorem AsF {x y:Int×Int}:0<=cfK x y↔¬KY x y:=by have:=vH ⟨x.1,x.2,0⟩ ⟨y.1,y.2,0⟩;grind[cfK]
theorem AuR (D:BxV N rm B o.boxes bs) (hN:N*N<=1000000) (e7:∀ a b,¬(a<N∧b<N)->(B a b).row=[]) {Q:List qT->Prop} (hQ:Q ((lkN N B).map (kyN N))):IF o bs Q:=by
 unfold IF;have e6:=D.len;let O:qT×Option Nat->Bool:=λe=>!(B e.1.1.toNat e.1.2.toNat).row.isEmpty;have a6:∀ {a b:Nat} {e:qT×Option Nat},e.1=((a:Int),(b:Int))->(O e=true↔(B a b).row≠[]):=λ{a b e} c0=>by simp[O,c0]
 refine CQ (λs:List (qT×Option Nat)×List qT=>∃ d,o.boxes.Perm (d++s.1)∧s.2=(d.filter O).map (·.1)) (λs=>s.1.length) ⟨[],List.Perm.refl _,rfl⟩ ?_;rintro⟨_,c1⟩ next ⟨d,V,a2⟩ hnx;simp only at V a2;have c2:=V.length_eq;rw[bL] at c2;have e5:=uN O d;refine WI (λhr=>?_) (λp r hp=>?_)
 . subst hr;rw[lP] at V;refine⟨cfK,λx y _ hq=>?_,AuQ,by rw[a2,gK]; omega,λys a5 e4=>?_⟩
   . unfold PB;exact GJ (GJ (AaH hq))
   have b1:∀ e,e∈d↔BG e.1 o.boxes=some e.2:=λe=>by rw[KI D.ks]; exact V.symm.mem_iff
   rw[a2] at a5
   have d4:ys.Nodup:=by refine a5.symm.nodup (((List.filter_sublist (l:=d)).map _).nodup ?_);exact(V.map (λx:qT×Option Nat=>x.1)).nodup (show(o.boxes.map λx:qT×Option Nat=>x.1).Nodup from D.ks)
   have b0:∀ q J,q<J->J<N*N->KY (kyN N q) (kyN N J):=λq J Z h=>by
     have a8:0<N:=AoR λh0=>by subst h0; omega
     have e1:=AhH q N; have e2:=AhH J N;have m1:=rH q a8; have m2:=rH J a8;unfold KY kyN;simp only;rcases Nat.lt_trichotomy (q / N) (J / N) with hl | he | hg
     . left; omega
     . right; rw[he] at e1; omega
     . exfalso;have:N*(J / N+1)<=N*(q / N):=Nat.mul_le_mul_left _ hg;grind
   have d8:((lkN N B).map (kyN N)).Pairwise (λx y=>0<=cfK y x):=by rw[X3];have a4:(lkN N B).Pairwise (· < ·):=X2 _ AoA;refine a4.imp_of_mem λ{x y} hx hy a7=>?_;have:=b0 x y a7 (WS.1 hy).1;rw[AsF];unfold KY at *;omega
   have d6:((lkN N B).map (kyN N)).Nodup:=by unfold List.Nodup;rw[X3];have a4:(lkN N B).Pairwise (· < ·):=X2 _ AoA;refine a4.imp_of_mem λ{x y} hx hy a7 e=>?_;have:=b0 x y a7 (WS.1 hy).1;rw[e] at this;unfold KY at this;omega
   have U:ys.Perm ((lkN N B).map (kyN N)):=by
     refine(yK d4 d6).2 λ_=>⟨λhk=>?_,λhk=>?_⟩
     . obtain⟨e,he,rfl⟩:=List.mem_map.1 (a5.mem_iff.1 hk);have⟨d0,d3⟩:=List.mem_filter.1 he;have⟨a,b,p,Z,h,h3,h4⟩:=D.key _ _ ((b1 e).1 d0);have d5:=(a6 h3).1 d3;have⟨d1,d2⟩:=AlO (N:=N) (a:=a) h;refine List.mem_map.2 ⟨a*N+b,WS.2 ⟨?_,by rw[d1,d2]; exact d5⟩,by unfold kyN; rw[d1,d2,h3]⟩;have:(a+1)*N<=N*N:=uM _ Z;grind
     . obtain⟨q,hq,rfl⟩:=List.mem_map.1 hk;have⟨Z,h⟩:=WS.1 hq;refine a5.mem_iff.2 ?_
       cases hm:BG (kyN N q) o.boxes with
       | none=>exact absurd (by rw[D.no _ _ hm]; rfl) h
       | some v=>exact List.mem_map.2 ⟨(kyN N q,v),List.mem_filter.2 ⟨(b1 _).2 hm,(a6 rfl).2 h⟩,rfl⟩
   have e:ys=(lkN N B).map (kyN N):=U.eq_of_pairwise (λx y _ _ Z h=>by
     rw[AsF] at Z h;have⟨x1,x2⟩:=x; have⟨y1,y2⟩:=y;unfold KY at *;simp only at *;have:x1=y1:=by omega
     have:x2=y2:=by omega
     subst x1 x2; rfl) e4 d8
   rw[e]; exact hQ
 . have d7:=hp.length_eq;simp only[uP] at d7;have U:BG p.1 o.boxes=some p.2:=(KI D.ks).2 (V.mem_iff.2 (List.mem_append.2 (.inr (hp.mem_iff.2 (by simp)))));have⟨a,b,q,Z,h,h3,h4⟩:=D.key _ _ U;have a9:o.boxes.Perm ((d++[p])++r):=V.trans (by rw[lL]; exact(hp.append_left d));unfold FF;rw[h4];rw[h3,h4] at U;have⟨x,d9,e3⟩:=D.get a b q U;refine Q3 ⟨x,d9,xC e3 ?_⟩
   have hf:((d++[p]).filter O).map (·.1)=c1++if O p=true then [p.1] else []:=by grind
   refine A2 (λa4=>AO (by rw[a2]; simp; omega) (hnx _ ⟨d++[p],a9,?_⟩ (by simp only; omega))) (λ_=>hnx _ ⟨d++[p],a9,?_⟩ (by simp only; omega))
   . grind
   . rw[hf,if_neg (λhx=>(a6 h3).1 hx (List.length_eq_zero_iff.1 (by omega))),lP]
def AG.picks (s:AG):Nat->AG
 | 0=>s
 | k+1=>(s.picks k).pick k
noncomputable def AG.dels (c:GC) (N:Nat) (s:AG):List Nat->AG
 | []=>s
 | q :: l=>(s.deliver c (q / N) (q % N) (s.B (q / N) (q % N)).oldest).dels c N l
noncomputable def AG.window (c:GC) (s:AG):AG:=(s.picks (c.R*c.C)).dels c (c.R*c.C) (lkN (c.R*c.C) (s.picks (c.R*c.C)).B)
theorem AG.Ok.picks (h:c.Ok) (H:s.Ok c rm v0):∀ {k:Nat},k<=c.R*c.C->(s.picks k).Ok c rm v0
 | 0,_=>H
 | k+1,hk=>(AG.Ok.picks h H (by omega)).pick h (by omega)
theorem oH {q:Nat} (h:q<N*N):q / N<N∧q % N<N:=by
 have:0<N:=AoR λd=>by subst d; omega
 exact⟨AoN h,rH _ this⟩
theorem AG.Ok.dels (h:c.Ok):∀ {l:List Nat} {s:AG},s.Ok c rm v0->(∀ q∈l,q<(c.R*c.C)*(c.R*c.C))->(s.dels c (c.R*c.C) l).Ok c rm v0
 | [],s,H,_=>H
 | q :: l,s,H,hl=>AG.Ok.dels h (l:=l) (H.deliver h (oH (hl q (by simp))).1 (oH (hl q (by simp))).2 _) λD d=>hl D (cD _ d)
theorem AG.Ok.window (h:c.Ok) (H:s.Ok c rm v0):(s.window c).Ok c rm v0:=(H.picks h (Z0 _)).dels h λ_ d=>(WS.1 d).1
theorem AbP (c:GC) (s:AG) (a b:Nat) (k:Int):(s.deliver c a b k).B=YQ s.B a b ((s.B a b).take k).2.2.2:=by unfold AG.deliver; split <;> rfl
theorem AgM (c:GC) (N:Nat):∀ (l m:List Nat) (s:AG),s.dels c N (l++m)=(s.dels c N l).dels c N m
 | [],m,s=>rfl
 | q :: l,m,s=>AgM c N l m _
theorem AsG (c:GC) {N q:Nat} (d:0<N):∀ (l:List Nat) (s:AG),q ∉ l->(s.dels c N l).B (q / N) (q % N)=s.B (q / N) (q % N)
 | [],s,_=>rfl
 | q' :: l,s,hq=>by rw[AG.dels,AsG c d l _ λh=>hq (cD _ h),AbP,KF];rintro⟨_,_⟩;have h1:=AhH q N; have D:=AhH q' N;grind
theorem AxB (H:qU c s ad W rm o ws bs) (a b:Nat) (d:¬(a<c.R*c.C∧b<c.R*c.C)):(s.B a b).row=[]:=by
 cases h:BG ((a:Int),(b:Int)) o.boxes with
 | none=>rw[H.bx.no a b h]; rfl
 | some v=>
  have⟨_,_,_,_,_,_,_⟩:=H.bx.key _ _ h;grind
theorem xH (h:c.Ok) (A:s.Ok c rm v0) (H:qU c s ad W rm o ws bs) (c2:1<=rm∧rm<=64) {Q:Bool×A6×A4×A8->Prop}
   (hQ:∀ r U o' a2 a5,qU c (s.window c) ad U rm o' a2 a5->Frm c ad ws a2->Q (r,o',a2,a5)):D1 o ws bs Q:=by
 have e6:=H.wl;have c0:=(T_b h).2;have hR:=h.R1; have hC:=h.C1;have d6:0<c.R*c.C:=Nat.mul_pos (by omega) (by omega);have e4:(c.R*c.C)*(c.R*c.C)<=25*25:=AhK c0 c0;unfold AG.window at hQ;unfold D1
 refine AL (σ:=A6×Bool×A4×A8) (λs i=>(s.1,s.2.1,i,s.2.2.1,s.2.2.2)) 0 (c.R*c.C) (s0:=(o,false,ws,bs)) (by omega)
   (λk t=>∃ U,qU c (s.picks k) ad U rm t.1 t.2.2.1 t.2.2.2∧Frm c ad ws t.2.2.1) (by omega) ⟨W,H,λ_ _=>rfl⟩ (λk t next _ hk V a4=>?_) (λt next V=>?_)
 . have⟨o1,mv,d3,a9⟩:=t;have⟨W1,D,F1⟩:=V;simp only at D F1 ⊢;refine A2 (λ_=>Aj1 h (A.picks h (by omega)) D c2 hk λr U o' a2 a5 O Z=>?_) (λh'=>by omega)
   cases r with
   | true=>exact AV rfl (a4 (o',true,a2,a5) ⟨U,O,F1.trans Z⟩)
   | false=>exact AH rfl (a4 (o',mv,a2,a5) ⟨U,O,F1.trans Z⟩)
 . have⟨o1,mv,d3,a9⟩:=t;have⟨W1,D,F1⟩:=V;simp only at D F1 ⊢;refine A2 (λh'=>by omega) λ_=>AuR D.bx (by omega) (AxB D) ?_;have A1:=A.picks h (Z0 _);have a6:∀ q∈lkN (c.R*c.C) (s.picks (c.R*c.C)).B,q<(c.R*c.C)*(c.R*c.C)∧((s.picks (c.R*c.C)).B (q / (c.R*c.C)) (q % (c.R*c.C))).row≠[]:=λq hq=>WS.1 hq;have a7:(lkN (c.R*c.C) (s.picks (c.R*c.C)).B).Nodup:=X2 _ List.nodup_range;have c1:(lkN (c.R*c.C) (s.picks (c.R*c.C)).B).length<=(c.R*c.C)*(c.R*c.C):=by have:=uN (λq=>!((s.picks (c.R*c.C)).B (q / (c.R*c.C)) (q % (c.R*c.C))).row.isEmpty) (List.range ((c.R*c.C)*(c.R*c.C))); rw[AoF] at this; exact this
   generalize s.picks (c.R*c.C)=J at D A1 a6 a7 c1 hQ ⊢;generalize lkN (c.R*c.C) J.B=d at a6 a7 c1 hQ ⊢
   refine AL (σ:=A6×Bool×A8×A4) (λs i=>(s.1,s.2.1,i,s.2.2.1,s.2.2.2)) 0 d.length (s0:=(o1,mv,a9,d3)) (by omega)
     (λk t=>∃ U,qU c (J.dels c (c.R*c.C) (d.take k)) ad U rm t.1 t.2.2.2 t.2.2.1∧Frm c ad ws t.2.2.2) (by omega)
     ⟨W1,D,F1⟩ (λk t next _ hk V a4=>?_) (λt next V=>?_)
   . have⟨o2,a8,b0,d4⟩:=t;have⟨U,O,Z⟩:=V;simp only at O Z ⊢;have d7:k<(d.map (kyN (c.R*c.C))).length:=by simpa using hk
     have⟨d9,e1⟩:=a6 d[k] (PW hk);have⟨ha,hb⟩:=oH d9;refine A2 (λ_=>B8 d7 ?_) (λh'=>by simp only[gK] at h'; omega);have ek:(d.map (kyN (c.R*c.C)))[k]=kyN (c.R*c.C) d[k]:=by simp
     rw[ek]
     have d8:d[k] ∉ d.take k:=λhm=>by
      have⟨i,hi,e⟩:=tM hm;rw[AbT] at e;have e5:i<k:=by simp at hi; omega
      have:=(List.getElem?_inj (i:=i) (j:=k) (by omega) a7).1 (by rw[gJ (by omega),gJ hk,e]);omega
     have hB:=AsG c d6 (d.take k) J d8;have A':(J.dels c (c.R*c.C) (d.take k)).Ok c rm v0:=A1.dels h λq hq=>(a6 q (AjC hq)).1
     have d0:J.dels c (c.R*c.C) (d.take (k+1))=(J.dels c (c.R*c.C) (d.take k)).deliver c (d[k] / (c.R*c.C)) (d[k] % (c.R*c.C)) ((J.dels c (c.R*c.C) (d.take k)).B (d[k] / (c.R*c.C)) (d[k] % (c.R*c.C))).oldest:=by rw[eX hk,AgM]; rfl
     generalize J.dels c (c.R*c.C) (d.take k)=s2 at O A' hB d0;rw[d0] at a4;refine KQ ?_
     cases hm:BG (kyN (c.R*c.C) d[k]) o2.boxes with
     | none=>
      have:=O.bx.no _ _ hm;rw[hB] at this;exact absurd (by rw[this]; rfl) e1
     | some v=>
      obtain⟨_,_,p,_,_,_,rfl⟩:=O.bx.key _ _ hm;have⟨x,d1,d2⟩:=O.bx.get _ _ p hm;unfold FF O6;refine Q3 ⟨x,d1,xC d2 (Q3 ⟨x,d1,AnD d2 ?_⟩)⟩;refine qV h A' O c2 ha hb λr W2 o3 d5 b1 H2 F2 hx=>?_
      cases a8 with
      | true=>exact AV rfl (a4 (o3,true,b1,d5) ⟨W2,H2,Z.trans F2⟩)
      | false=>
       have⟨x',e2,e3⟩:=hx p hm;exact AH rfl (Q3 ⟨x',e2,xC e3 (a4 (o3,_,b1,d5) ⟨W2,H2,Z.trans F2⟩)⟩)
   . have⟨o2,a8,b0,d4⟩:=t;have⟨U,O,Z⟩:=V;simp only at O Z ⊢;rw[RV] at O;exact A2 (λh'=>by simp only[gK] at h'; omega) λ_=>hQ a8 U o2 d4 b0 O Z
open Go Go.Fw
variable {c:GC} {g:Gh} {s:AG} {N rm v0:Nat} {ad:Nat→Nat} {W:Nat→A3} {o:A6} {ws:A4} {bs:A8}
theorem AsH (a2:c.Ok) (hg:g.Ok c) (hz:∀ φ,g.pend c φ=0):g.u=c.U∧∀ i,i<c.R->g.O i=true:=by
 have hR:=a2.R1; have hC:=a2.C1;have a5:=hz λ_=>1;unfold Gh.pend at a5;have Z:∀ {p:Prop} [Decidable p],(if p then 1 else 0)=0->¬p:=λ{p} _ hx hp=>by rw[if_pos hp] at hx; cases hx
 have zO:∀ i,i<c.R->¬(1<=g.u∧g.O i=false):=λi hi=>Z (by have:=H4 (f:=g.pO c λ_=>1) hi; show g.pO c (λ_=>1) i=0; omega);have zV:∀ i,i<c.R->¬(g.row c i=true∧g.V i=false):=λi hi=>Z (by have:=H4 (f:=g.pV c λ_=>1) hi; show g.pV c (λ_=>1) i=0; omega)
 have zS:∀ i j,i<c.R->j<c.C->¬(g.O i=true∧g.u<c.U∧g.S i j=false):=λi j hi d=>Z (by have h1:=H4 (f:=λi=>AW c.C (g.pS c (λ_=>1) i)) hi; have h2:=H4 (f:=g.pS c (λ_=>1) i) d;show g.pS c (λ_=>1) i j=0; omega)
 have zE:∀ j i,j<c.C->i<c.R->¬(g.col c j=true∧g.E i j=false):=λj i d hi=>Z (by have h1:=H4 (f:=λj=>AW c.R (g.pE c (λ_=>1) j)) d; have h2:=H4 (f:=g.pE c (λ_=>1) j) hi;show g.pE c (λ_=>1) j i=0; omega)
 have zA:∀ i j,i<c.R->j<c.C->¬(g.E i j=true∧g.A i j=false):=λi j hi d=>Z (by have h1:=H4 (f:=λi=>AW c.C (g.pA c (λ_=>1) i)) hi; have h2:=H4 (f:=g.pA c (λ_=>1) i) d;show g.pA c (λ_=>1) i j=0; omega)
 have h:∀ {b:Bool},b≠false->b=true:=λ{b} hb=>by cases b; exact absurd rfl hb; rfl
 have hO:∀ i,i<c.R->g.O i=true:=λi hi=>by
   rcases jF g.u with J | J
   . exact(hg.z J i hi).1
   . exact h λD=>zO i hi ⟨J,D⟩
 refine⟨?_,hO⟩;have a6:=hg.u;rcases Z1 g.u c.U with hu | hu
 . have hS:∀ i j,i<c.R->j<c.C->g.S i j=true:=λi j hi d=>h λD=>zS i j hi d ⟨hO i hi,hu,D⟩;have a4:∀ j,j<c.C->g.col c j=true:=λj d=>decide_eq_true λi hi=>hS i j hi d;have hE:∀ i j,i<c.R->j<c.C->g.E i j=true:=λi j hi d=>h λD=>zE j i d hi ⟨a4 j d,D⟩;have hA:∀ i j,i<c.R->j<c.C->g.A i j=true:=λi j hi d=>h λD=>zA i j hi d ⟨hE i j hi d,D⟩;have⟨i,hi,D⟩:=hg.no;exact absurd ⟨decide_eq_true λj d=>hA i j hi d,D⟩ (zV i hi)
 . omega
def Gh.fin (c:GC) (g:Gh):Bool:=decide (g.u=c.U∧∀ i,i<c.R->g.O i=true)
theorem AuS (h:c.Ok) (H:qU c s ad W rm o ws bs) {Q:Bool->Prop} (J:Q (s.g.fin c)):CM o ws Q:=by
 have hR:=h.R1; have hC:=h.C1; have hU:=h.U_b; have a4:=h.run.en.ne;have a7:o.owners.length=c.R:=by rw[H.ow]; simp
 have a6:∀ i,i<c.R->∃ w,BG (ad (i*c.C)) ws=some w∧(w.status=0↔¬(s.g.u=c.U∧s.g.O i=true)):=λi hi=>by
   have a2:=kK (c:=c) hi (show 0<c.C by omega);rw[gM] at a2;refine⟨_,H.mem _ a2,?_⟩;have ow:=((H.ok i 0 hi (by omega)).own rfl).status;rw[gM] at ow;rw[ow];unfold GC.st;by_cases hc:1<=s.g.u∧s.g.O i=true
   . rw[if_pos hc];by_cases hu:s.g.u - 1+1=c.U
     . rw[if_pos hu];exact⟨λh0=>absurd h0 a4,λd=>absurd ⟨by omega,hc.2⟩ d⟩
     . rw[if_neg hu];exact⟨λ_ d=>hu (by omega),λ_=>rfl⟩
   . rw[if_neg hc];exact⟨λ_ d=>hc ⟨by omega,d.2⟩,λ_=>rfl⟩
 unfold CM BM BQ;refine CR c.R (by omega) (λi=>∀ k,k<i->s.g.u=c.U∧s.g.O k=true) (λk hk=>by omega) (λi next hi Z a5=>?_) (λnext Z=>?_)
 . have⟨w,w1,w2⟩:=a6 i hi;refine A2 (λ_=>AP (by omega) (x:=some (ad (i*c.C))) (by rw[H.ow]; simp[hi]) ?_) (λd=>by omega);unfold HJ DK EG;refine Q3 ⟨w,w1,?_⟩;dsimp only;refine AY (λd=>?_) λd=>a5 λk hk=>?_
   . have D:s.g.fin c=false:=decide_eq_false λV=>w2.1 d ⟨V.1,V.2 i hi⟩;rw[D] at J;rw[show decide ((0:Int)<=(i:Int))=true from decide_eq_true (by omega)];exact J
   . by_cases e:k=i
     . rw[e]; exact At0 λV=>d (w2.2 V)
     . exact Z k (by omega)
 . have D:s.g.fin c=true:=decide_eq_true ⟨(Z 0 (by omega)).1,λi hi=>(Z i hi).2⟩;rw[D] at J;exact A2 (λd=>by omega) λ_=>J
def AG.sn (N:Nat) (s:AG):Nat:=AW N λa=>AW N λb=>(s.B a b).fs.length
def AG.rw (N:Nat) (s:AG):Nat:=AW N λa=>AW N λb=>(s.B a b).row.length
def AG.ms (c:GC) (s:AG):Nat:=2*(4000 - s.sn (c.R*c.C))+s.rw (c.R*c.C)
theorem AnN (N:Nat) (f f':Nat->Nat->Nat):AW N (λa=>AW N λb=>f a b+f' a b)=AW N (λa=>AW N (f a))+AW N (λa=>AW N (f' a)):=by
 have one:∀ (u v:Nat->Nat) n,AW n (λb=>u b+v b)=AW n u+AW n v:=λu v n=>by
  induction n with
  | zero=>rfl
  | succ n d=>show AW n _+(u n+v n)=AW n u+u n+(AW n v+v n); rw[d]; omega
 rw[<-one];exact GL λa _=>one _ _ N
theorem AG.Ok.sn_le (H:s.Ok c rm v0) (h:c.Ok):s.sn (c.R*c.C)<=3700:=by
 have J:=H.tot λ_=>1;have O:=H.tk;have U:=AdF (g:=s.g) h;have V:=AvT h H.gh
 have e:s.sn (c.R*c.C)=AW (c.R*c.C) (λa=>AW (c.R*c.C) λb=>(s.B a b).taken)+AW (c.R*c.C) (λa=>AW (c.R*c.C) λb=>wt (λ_=>1) (s.B a b).und):=by rw[<-AnN];exact GL λa d=>GL λb D=>by rw[xD]; exact(H.bx a b d D).und_len
 omega
theorem AG.Ok.rw_le (H:s.Ok c rm v0) (h:c.Ok) (D:rm<=64):s.rw (c.R*c.C)<=40000:=by
 have d:=(T_b h).2;have:s.rw (c.R*c.C)<=(c.R*c.C)*((c.R*c.C)*64):=KD λa J=>KD λb O=>by have:=(H.bx a b J O).rl; omega
 have U:(c.R*c.C)*((c.R*c.C)*64)<=25*(25*64):=AhK d (uM _ d);omega
theorem AuT (h:c.Ok) (H:s.Ok c rm v0) (a2:1<=rm) {k:Nat} (hk:k<c.R*c.C):(s.pick k).rw (c.R*c.C)+s.ms c>=s.rw (c.R*c.C)+(s.pick k).ms c∧(s.pick k).ms c<=s.ms c∧s.rw (c.R*c.C)<=(s.pick k).rw (c.R*c.C)∧((s.pick k).rw (c.R*c.C)=0->s.pick k=s∧s.o k=[]):=by
 have Hp:=H.pick h hk;have D:=Hp.sn_le h;unfold AG.pick at *;split
 . rename_i U;exact⟨by omega,Z0 _,Z0 _,λ_=>⟨rfl,U⟩⟩
 . rename_i f r U;have V:=H.out_pend hk (f:=f) (by rw[U]; simp);have⟨b,O,Z⟩:=AdH h H.gh V;rw[U] at D;simp only[Z,YZ] at D ⊢;split
   . rename_i J;refine⟨by omega,Z0 _,Z0 _,λh0=>?_⟩;have h1:=H4 (f:=λa=>AW (c.R*c.C) λb=>(s.B a b).row.length) hk;have h2:=H4 (f:=λb=>(s.B k b).row.length) O;have h3:=(H.bx k b hk O).room;unfold Abs.fullB at J;have h4:s.rw (c.R*c.C)=AW (c.R*c.C) λa=>AW (c.R*c.C) λb=>(s.B a b).row.length:=rfl;have h5:=of_decide_eq_true J;omega
   . rename_i J;rw[if_neg J] at D;have⟨_,_,k3,k4⟩:=(H.bx k b hk O).send_ok f (by simpa using J);have t1:=EW (f:=λx y=>(s.B x y).fs.length) (f':=λx y=>(YQ s.B k b ((s.B k b).send f).2 x y).fs.length) hk O λx y _ _ d=>by rw[KF d]
     have t2:=EW (f:=λx y=>(s.B x y).row.length) (f':=λx y=>(YQ s.B k b ((s.B k b).send f).2 x y).row.length) hk O λx y _ _ d=>by rw[KF d]
     simp only[KE,k4] at t1;simp only[KE,k3] at t2;unfold AG.ms AG.sn AG.rw at *;simp only at *;exact⟨by omega,by omega,by omega,λh0=>by omega⟩
theorem AgN (h:c.Ok) (H:s.Ok c rm v0) (d:1<=rm):∀ {k:Nat},k<=c.R*c.C->(s.picks k).ms c<=s.ms c∧((s.picks k).rw (c.R*c.C)=0->s.picks k=s∧∀ q,q<k->s.o q=[])
 | 0,_=>⟨Z0 _,λ_=>⟨rfl,λq hq=>by omega⟩⟩
 | k+1,hk=>by
  have⟨V,h2⟩:=AgN h H d (k:=k) (by omega);have⟨_,h3,_,Z⟩:=AuT h (H.picks h (k:=k) (by omega)) d (k:=k) (by omega);refine⟨gN h3 V,λJ=>?_⟩;have⟨O,U⟩:=Z J;have⟨D,e4⟩:=h2 (by have a2:((s.picks k).pick k).rw (c.R*c.C)=0:=J; omega);rw[D] at O U;refine⟨by show(s.picks k).pick k=s; rw[D]; exact O,λq hq=>?_⟩;by_cases e:q=k
  . rw[e]; exact U
  . exact e4 q (by omega)
theorem xI (H:s.Ok c rm v0) {a b:Nat} (h:a<c.R*c.C) (D:b<c.R*c.C):(s.deliver c a b (s.B a b).oldest).ms c<=s.ms c∧((s.B a b).row≠[]->(s.deliver c a b (s.B a b).oldest).ms c<s.ms c):=by
 have⟨_,O,Z⟩:=(H.bx a b h D).take_ok (s.B a b).oldest;have U:=EW (f:=λx y=>(s.B x y).fs.length) (f':=λx y=>(YQ s.B a b ((s.B a b).take (s.B a b).oldest).2.2.2 x y).fs.length) h D λx y _ _ d=>by rw[KF d]
 have V:=EW (f:=λx y=>(s.B x y).row.length) (f':=λx y=>(YQ s.B a b ((s.B a b).take (s.B a b).oldest).2.2.2 x y).row.length) h D λx y _ _ d=>by rw[KF d]
 simp only[KE,O] at U;simp only[KE] at V;unfold AG.ms AG.sn AG.rw;rw[AbP];refine⟨?_,λd=>?_⟩
 . rcases Z with⟨_,_,J⟩ | ⟨_,_,J,_⟩ <;> omega
 . have h5:=(H.bx a b h D).take_old d;omega
theorem AlP (h:c.Ok):∀ {l:List Nat} {s:AG},s.Ok c rm v0->(∀ q∈l,q<(c.R*c.C)*(c.R*c.C))->(s.dels c (c.R*c.C) l).ms c<=s.ms c
 | [],s,H,_=>Z0 _
 | q :: l,s,H,hl=>by have⟨D,J⟩:=oH (hl q (by simp));exact gN (AlP h (l:=l) (H.deliver h D J _) λO d=>hl O (cD _ d)) (xI H D J).1
theorem AnO (h:c.Ok) (H:s.Ok c rm v0) (a8:1<=rm) (hf:s.g.fin c=false):(s.window c).ms c<s.ms c:=by
 have H1:=H.picks h (Z0 _);have⟨_,h2⟩:=AgN h H a8 (Z0 _);unfold AG.window
 cases hl:lkN (c.R*c.C) (s.picks (c.R*c.C)).B with
 | nil=>
  exfalso
  have J:∀ a b,a<c.R*c.C->b<c.R*c.C->((s.picks (c.R*c.C)).B a b).row=[]:=λa b d D=>At0 λa5=>by
   have⟨d1,d2⟩:=AlO (N:=c.R*c.C) (a:=a) D
   have U:a*(c.R*c.C)+b∈lkN (c.R*c.C) (s.picks (c.R*c.C)).B:=WS.2 ⟨by have:(a+1)*(c.R*c.C)<=(c.R*c.C)*(c.R*c.C):=uM _ d;rw[AeG] at this; omega,by rw[d1,d2]; exact a5⟩
   rw[hl] at U; cases U
  have h0:(s.picks (c.R*c.C)).rw (c.R*c.C)=0:=(BU (b:=0) λa d=>(BU (b:=0) λb D=>by rw[J a b d D]; rfl).trans (LM _)).trans (LM _);have⟨e,ho⟩:=h2 h0;rw[e] at J
  have a2:∀ a b,a<c.R*c.C->b<c.R*c.C->(s.B a b).und=[]:=λa b d D=>by
   have Z:=H.bx a b d D;have b0:=Z.und_len;rcases Z1 (s.B a b).taken (s.B a b).fs.length with a4 | a9
   . have:=Z.cov _ (Z0 _) a4;rw[J a b d D] at this; cases this
   . exact List.length_eq_zero_iff.1 (by omega)
  have hz:∀ φ,s.g.pend c φ=0:=λφ=>by
   rw[<-H.tot φ];have e1:AW (c.R*c.C) (λk=>wt φ (s.o k))=c.R*c.C*0:=BU λk hk=>by rw[ho k hk]; rfl
   have e2:AW (c.R*c.C) (λa=>AW (c.R*c.C) λb=>wt φ (s.B a b).und)=c.R*c.C*(c.R*c.C*0):=BU λa d=>BU λb D=>by rw[a2 a b d D]; rfl
   rw[e1,e2]; simp
  have:s.g.fin c=true:=decide_eq_true (AsH h H.gh hz);rw[hf] at this; cases this
 | cons q l=>
  have U:∀ V∈q :: l,V<(c.R*c.C)*(c.R*c.C)∧_:=λV O=>WS.1 (hl▸O);have⟨a6,a7⟩:=U q (by simp);have⟨d,D⟩:=oH a6;have h3:=(xI H1 d D).2 a7;have h4:=AlP h (l:=l) (H1.deliver h d D ((s.picks (c.R*c.C)).B (q / (c.R*c.C)) (q % (c.R*c.C))).oldest) λV O=>(U V (cD _ O)).1;show((s.picks (c.R*c.C)).dels c (c.R*c.C) (q :: l)).ms c<_;unfold AG.dels;omega
variable {c:GC}
def gh0:Gh:=⟨0,λ_=>true,λ_ _=>true,λ_ _=>true,λ_ _=>true,λ_=>false⟩
noncomputable def GC.w0 (c:GC) (i j:Nat):A3:=⟨⟨i,j⟩,c.p,⟨c.R,c.C⟩,c.lim,c.ch,c.rows i j,c.cols i j,if j=0 then [c.fVote 0 i] else [],1,[],1,0,0,if j=0 then c.sg 0 i else zSt,if j=0 then c.sg 0 i else zSt,decide (j=0),false,[],[],0,[],false⟩
theorem AdI (j:Nat):gh0.col c j=true:=decide_eq_true λ_ _=>rfl
theorem AdJ (i:Nat):gh0.row c i=true:=decide_eq_true λ_ _=>rfl
theorem oI (i:Nat):gh0.rnd c i=0:=by show(if (true:Bool)=true then (if c.st (0 - 1)=3 then 0 - 2 else 0 - 1) else 0 - 2)=0; grind
theorem AxC:gh0.nh c=1:=if_pos (Aa9 _)
theorem AsI (h:c.Ok):gh0.Ok c:=⟨Aa9 _,λi j _ _=>⟨rfl,by have:=h.U_b; show 0<c.U; omega⟩,λi j _ _ _=>AdI j,λ_ _ _ _ _=>rfl,(λi _ d=>nomatch d),⟨0,by have:=h.R1; omega,rfl⟩,λ_ i _=>⟨rfl,AdJ i⟩⟩
theorem ov0 (c:GC) (i:Nat):c.ov 0 i=false:=by
 cases d:c.ov 0 i with
 | false=>rfl
 | true=>exact absurd rfl (c.ov_iff.1 d).1
theorem AyU (c:GC) (i j:Nat):WOk c gh0 i j (c.w0 i j):=by
 refine⟨⟨rfl,rfl,rfl,rfl,rfl,rfl,rfl⟩,rfl,λ_=>⟨?_,MapR.nil _ _ λk _=>?_⟩,λh=>?_,λ_ _=>⟨rfl,MapR.nil _ _ λk _=>rfl,?_⟩⟩
 . rw[AdI]; rfl
 . rw[AdI]; rfl
 . subst h;refine⟨by rw[AdJ]; rfl,rfl,by rw[oI]; rfl,(if_neg λd=>absurd d.1 (by show ¬1<=0; omega)).symm,by rw[oI]; rfl,λ_=>?_,(λd=>absurd d (by show ¬1<=0; omega)),(λd=>absurd d (by show ¬1<=0; omega))⟩;show c.sg 0 i=c.asd 0 i;unfold GC.asd;rw[ov0]; rfl
 . exact(decide_eq_false λd=>absurd d.1 (by show ¬1<=0; omega)).symm
theorem AyV (φ:AU->Nat):gh0.pend c φ=AW c.R λi=>φ (c.fVote 0 i):=by have h:AW c.R (gh0.pO c φ)=0:=(BU (b:=0) λa _=>if_neg λd=>nomatch d.2).trans (LM _);have D:AW c.R (λa=>AW c.C (gh0.pS c φ a))=0:=(BU (b:=0) λa _=>(BU (b:=0) λb _=>if_neg λd=>nomatch d.2.2).trans (LM _)).trans (LM _);have J:AW c.C (λb=>AW c.R (gh0.pE c φ b))=0:=(BU (b:=0) λb _=>(BU (b:=0) λa _=>if_neg λd=>nomatch d.2).trans (LM _)).trans (LM _);have O:AW c.R (λa=>AW c.C (gh0.pA c φ a))=0:=(BU (b:=0) λa _=>(BU (b:=0) λb _=>if_neg λd=>nomatch d.2).trans (LM _)).trans (LM _);have U:AW c.R (gh0.pV c φ)=AW c.R λi=>φ (c.fVote 0 i):=GL λi _=>if_pos ⟨AdJ i,rfl⟩;unfold Gh.pend;omega
theorem AgO (f:Nat->Nat) (a:Nat):∀ b,AW (a+b) f=AW a f+AW b λj=>f (a+j)
 | 0=>rfl
 | b+1=>by show AW (a+b) f+f (a+b)=AW a f+(AW b (λj=>f (a+j))+f (a+b)); rw[AgO f a b]; omega
theorem AgP (f:Nat->Nat) (C:Nat):∀ R,AW (R*C) f=AW R λi=>AW C λj=>f (i*C+j)
 | 0=>by rw[AeH]; rfl
 | R+1=>by rw[AeG,AgO,AgP f C R]; rfl
theorem AnP {l:List HP} {Q:List HP->Prop} (h:l.length<=1000000) (d:Q l):D2 l Q:=by unfold D2;exact JR (λe=>by subst e; exact d) (AO (by simp; omega) d)
structure SuP (c:GC) (rm:Nat) (s:KG):Prop where
 pl:s.Plan=c.p
 gr:s.Graph=c.g
 R:s.R=c.R
 C:s.C=c.C
 room:s.Room=rm
 lm:s.Limit=c.lim
 ch:s.Choices=c.ch
 rm1:1≤rm∧rm≤64
theorem qW (h:c.Ok) {rm:Nat} {s:KG} (d:SuP c rm s) {Q:Int->Prop} (O:Q 0):MM s Q:=by
 have hR:=h.R1; have Z:=h.C1; have J:=h.chl; have D:=d.rm1;unfold MM;rw[d.pl,d.gr,d.lm,d.R,d.C,d.room,d.ch];refine dV ?_;rw[h.run.check];refine AH rfl (CA (λb=>b=false) (λb U=>AH U (A2 (λV=>by omega) λ_=>O)) λ_ hk=>?_)
 have one:∀ (a m:Nat) (K:Bool->Prop),1<=a∧a<=m->K true->IL (a:Int) (m:Int) K:=λa m K _ _=>by
  unfold IL;refine A2 (λ_=>?_) λV=>by omega
  grind
 exact one c.R 8 _ (by omega) (AH rfl (one c.C 8 _ (by omega) (AH rfl (one rm 64 _ D (hk _ rfl)))))
theorem AuU (h:c.Ok) {rm:Nat} {s:KG} (D:SuP c rm s) {i j:Nat} (hi:i<c.R) (hj:j<c.C) {Q0:Int->Prop} {V Q2:Int×A3->Prop} (h1:j=0->V (0,c.w0 i j)) (h2:j≠0->Q2 (0,c.w0 i j)):PE s i j Q0 V Q2:=by
 have hR:=h.R1; have hC:=h.C1; have a4:=h.chl;have O:=h.run.cn;rw[h.pn] at O;have⟨a2,d⟩:=jZ O (h.grd hi hj);have a5:=(BS h.run.rp).2.2.2.2.1;unfold PE;refine qW h D (AH rfl ?_);rw[D.pl,D.gr,D.lm,D.R,D.C,D.ch];refine A2 (λU=>by omega) λ_=>A2 (λU=>by omega) λ_=>A2 (λU=>by omega) λ_=>A2 (λU=>by omega) λ_=>V4 ?_;rw[h.run.mt,h.pn];refine AnP (by omega) (RF (by omega) (AcS O ?_));rw[a2];refine Ai4 d.sml (QZ d) (λ_=>rfl) (λU=>absurd d.right U) d ?_;refine AY (λh0=>?_) λh0=>?_
 . obtain rfl:j=0:=by omega
   have e2:(i:Int)+1=((i+1:Nat):Int):=by omega
   have hn:=h.ls_n hi;refine I5 ?_;rw[AK (x:=(i:Int)+1) (by omega) (by omega)];refine I5 (iR ?_)
   have hb:PP c.p (AZ c.n c.R i) (AZ c.n c.R ((i:Int)+1))=c.sg 0 i:=by rw[e2,h.lowR (by omega),h.lowR (by omega)];exact AbE (l:=c.ls i) (n:=c.ln i) h.run.rp rfl (by rw[h.ls_ln]) (by rw[h.pn,<-h.ls_ln]; omega)
   rw[hb];have hv:=AdC (i:=i) (k:=0) (w:={ c.w0 i 0 with out:=[],waits:=false }) (Q:=λr=>V (0,r)) h ⟨rfl,rfl,rfl,rfl,rfl,rfl,rfl⟩ hi (by simp) (λ_=>rfl) (h1 rfl);rw[ov0] at hv;have J:({ Kind:=c.p.Kind,N:=(c.n:Int),Source:=c.p.Source,Length:=c.p.Length,Draws:=c.p.Draws }:Plan)=c.p:=by rw[<-h.pn]
   rw[J];exact hv
 . have J:({ Kind:=c.p.Kind,N:=(c.n:Int),Source:=c.p.Source,Length:=c.p.Length,Draws:=c.p.Draws }:Plan)=c.p:=by rw[<-h.pn]
   rw[J];have Z:=h2 (by omega);unfold GC.w0 at Z;rw[if_neg (by omega),if_neg (by omega),decide_eq_false (by omega)] at Z;exact Z
end
section
open Go Go.Fw
variable {c:GC}
noncomputable def AG.at0 (c:GC) (rm:Nat):AG:=⟨gh0,λk=>(c.w0 (k / c.C) (k % c.C)).out,λ_ _=>Abs.nil rm⟩
theorem AdK (h:c.Ok) (rm:Nat):(AG.at0 c rm).Ok c rm (gh0.val c):=by
 have U:=h.C1;have J:∀ i j,i<c.R->j<c.C->c.w0 ((i*c.C+j) / c.C) ((i*c.C+j) % c.C)=c.w0 i j:=λi j _ d=>by rw[(aG h d).1,(aG h d).2]
 refine⟨AsI h,λφ=>?_,λa b _ _ f O=>by simp[AG.at0,Abs.nil,Abs.und] at O,λa b _ _=>Abs.nil_ok rm,?_⟩
 . unfold AG.at0;simp only;rw[AyV,AgP];have z:(AW (c.R*c.C) λa=>AW (c.R*c.C) λb=>wt φ (Abs.nil rm).und)=0:=(BU (b:=0) λa _=>(BU (b:=0) λb _=>rfl).trans (LM _)).trans (LM _);rw[z,gM];refine GL λi hi=>?_
   have:=HG (n:=c.C) (i:=0) (f:=λ_=>0) (f':=λj=>wt φ (c.w0 ((i*c.C+j) / c.C) ((i*c.C+j) % c.C)).out) (by omega) λj d D=>by rw[J i j hi d]; unfold GC.w0; rw[if_neg D]; rfl
   rw[RG,LM,J i 0 hi (by omega)] at this;have e0:wt φ (c.w0 i 0).out=φ (c.fVote 0 i):=by show φ (c.fVote 0 i)+0=_; omega
   rw[e0] at this;omega
 . have z:(AW (c.R*c.C) λa=>AW (c.R*c.C) λb=>(Abs.nil rm).taken)=0:=(BU (b:=0) λa _=>(BU (b:=0) λb _=>rfl).trans (LM _)).trans (LM _);show(AW (c.R*c.C) λa=>AW (c.R*c.C) λb=>(Abs.nil rm).taken)+_=_;rw[z,jH]; rfl
theorem AvV {C k:Nat} (h:1<=C):(k+1+C - 1) / C=k / C+1∧(k+C - 1) / C=if k % C=0 then k / C else k / C+1:=by
 have hk:=AhH k C;have O:k % C<C:=rH _ (by omega);generalize k / C=q at *; generalize k % C=r at *;have e:∀ s,s<C->(C*q+s) / C=q:=λs d=>by rw[AhG (by omega),AeB d,gM]
 have D:∀ s,s<C->(C*q+C+s) / C=q+1:=λs d=>by
   have:C*q+C+s=C*(q+1)+s:=by rw[Nat.mul_succ]
   rw[this,AhG (by omega),AeB d] <;> rfl
 refine⟨?_,?_⟩
 . have:=D r O
   rwa [show k+1+C - 1=C*q+C+r by omega]
 . split
   . rename_i J;rw[show k+C - 1=C*q+(C - 1) by omega]; exact e _ (by omega)
   . rename_i J;rw[show k+C - 1=C*q+C+(r - 1) by omega]; exact D _ (by omega)
theorem AxD {o:A6} {ws:A4} {Q:A6->Prop} (h:EN o ws Q):EN o ws Q:=h
theorem AvW (h:c.Ok) {rm:Nat} {s:KG} (Z:SuP c rm s) {d:A4} {c1:A8} {Q0:Int×A4->Prop} {Q1:Int×A4×A6->Prop}
   (hQ:∀ ad W ws o,(∀ bs,qU c (AG.at0 c rm) ad W rm o ws bs)->Q1 (0,ws,o)):PF d c1 s Q0 Q1:=by
 have hR:=h.R1; have hC:=h.C1; have d4:=(T_b h).2;unfold PF;refine qW h Z (AH rfl ?_)
 have b1:AJ (s.R*s.C)=((c.R*c.C:Nat):Int):=by
   have e1:(c.R:Int)*(c.C:Int)=((c.R*c.C:Nat):Int):=by rw[AeD]
   rw[Z.R,Z.C,e1,AK (by omega) (by omega)]
 refine AL (σ:=List (Option Nat)×List (Option Nat)×A4) (λs i=>(s.1,s.2.1,i,s.2.2)) 0 (c.R*c.C) (s0:=([],[],d)) (by omega)
   (λk t=>∃ ad:Nat->Nat,t.1=(List.range k).map (λq=>some (ad q))∧t.2.1=(List.range ((k+c.C - 1) / c.C)).map (λi=>some (ad (i*c.C)))∧(∀ a b,a<k->b<k->ad a=ad b->a=b)∧(∀ q,q<k->BG (ad q) t.2.2=some (c.w0 (q / c.C) (q % c.C)))∧(∀ q,q<k->BG (ad q) d=none)∧∀ p,BG p d≠none->BG p t.2.2=BG p d) (by omega)
   ⟨λ_=>0,rfl,by rw[show(0+c.C - 1) / c.C=0 from AeB (by omega)]; rfl,λa b _=>by omega,λq O=>by omega,λq O=>by omega,λp _=>rfl⟩ (λk t next _ hk ht d0=>?_) (λt next ht=>?_)
 . have⟨wl,ol,ws⟩:=t;have⟨ad,a1,V,a3,D,a5,U⟩:=ht;simp only at a1 V D U ⊢;have⟨r1,r2⟩:=AvV (k:=k) hC.1;have hj:k % c.C<c.C:=rH _ (by omega);have hi:k / c.C<c.R:=AoN (by rw[pI]; exact hk);have d5:=AhH k c.C;have a2:JK c.C:=h.mp.2.2;have h8:k<8*c.C:=by have:c.R*c.C<=5*c.C:=uM _ (by omega); omega
   have d6:ol.length<=100:=by rw[V]; simp only[gK,AoF]; rw[r2]; split <;> omega
   have d7:wl.length<=100:=by rw[a1]; simp only[gK,AoF]; omega
   rw[b1,Z.C]
   -- the worker put behind the others
   have c0:∀ b,BG b ws=none->∀ a9,a9=ol++(if k % c.C=0 then [some b] else [])->next (wl++[some b],a9,AJ ((k:Int)+1),(b,c.w0 (k / c.C) (k % c.C)) :: ws):=by
     intro b J a9 d1;have b0:∀ q,q<k->ad q≠b:=λq O e=>by have:=D q O; rw[e,J] at this; cases this
     have a8:∀ i,i*c.C<k->(if i*c.C=k then b else ad (i*c.C))=ad (i*c.C):=λi a7=>if_neg (by omega);refine d0 (wl++[some b],a9,(b,c.w0 (k / c.C) (k % c.C)) :: ws) ⟨λq=>if q=k then b else ad q,?_,?_,λx y hx _ e=>?_,λq O=>?_,λq O=>?_,λp hp=>?_⟩
     . rw[bM,iE,a1];refine congr (congrArg _ (yM λq O=>?_)) (by simp);have:=List.mem_range.1 O;exact congrArg some (if_neg (by omega)).symm
     . rw[d1,r1,V,r2];split
       . rename_i h0;rw[bM,iE];have ek:k / c.C*c.C=k:=by rw[pI]; omega
         refine congr (congrArg _ (yM λi a7=>?_)) (by simp[ek]);have h1:=List.mem_range.1 a7;have h2:=kK (c:={ c with R:=k / c.C }) h1 (j:=0) hC.1;simp only[gM] at h2;exact congrArg some (a8 i (by omega)).symm
       . rename_i h0;rw[lP];refine yM λi a7=>?_;have h1:=List.mem_range.1 a7;have h2:i*c.C<=k / c.C*c.C:=uM _ (by omega);rw[pI (k / c.C)] at h2;exact congrArg some (a8 i (by omega)).symm
     . by_cases ex:x=k <;> by_cases ey:y=k
       . omega
       . simp only[if_pos ex,if_neg ey] at e;exact absurd e.symm (b0 y (by omega))
       . simp only[if_neg ex,if_pos ey] at e;exact absurd e (b0 x (by omega))
       . simp only[if_neg ex,if_neg ey] at e;exact a3 x y (by omega) (by omega) e
     . by_cases e:q=k
       . subst e; simp only[if_true]; exact aH _ _ _
       . simp only[if_neg e];rw[uL (b0 q (by omega))]; exact D q (by omega)
     . by_cases e:q=k
       . subst e;simp only[if_true]
         cases hx:BG b d with
         | none=>rfl
         | some w=>have:=U b (by rw[hx]; simp); rw[J,hx] at this; cases this
       . simp only[if_neg e]; exact a5 q (by omega)
     . have c2:p≠b:=λe=>by have:=U p hp; rw[e,J,<-e] at this; exact hp this.symm
       rw[uL c2]; exact U p hp
   refine A2 (λ_=>dP a2 h8 (WP a2 h8 (AuU h Z hi hj (λh0=>AH rfl λb J=>AO (by simp; omega) (WP a2 h8 ?_)) λh0=>AH rfl λb J=>AO (by simp; omega) (WP a2 h8 ?_)))) λhx=>by omega
   . exact AV (by rw[h0]; rfl) (AO (by simp; omega) (c0 b J _ (by rw[if_pos h0])))
   . exact AY (λhx=>by omega) λ_=>c0 b J _ (by rw[if_neg h0,lP])
 . have⟨wl,ol,ws⟩:=t;have⟨ad,a1,V,a3,D,a5,U⟩:=ht;simp only at a1 V D U ⊢;rw[b1];refine A2 (λhx=>by omega) λ_=>?_
   have d3:(c.R*c.C+c.C - 1) / c.C=c.R:=by rw[(AvV (k:=c.R*c.C) hC.1).2,Nat.mul_mod_left,if_pos rfl,Nat.mul_div_cancel _ (by omega)]
   rw[d3] at V;have hW:∀ i j,i<c.R->j<c.C->c.w0 ((i*c.C+j) / c.C) ((i*c.C+j) % c.C)=c.w0 i j:=λi j _ hj=>by rw[(aG h hj).1,(aG h hj).2]
   have d2:∀ i,i<c.R->BG (ad (i*c.C)) ws=some (c.w0 i 0):=λi hi=>by
     have a8:=kK (c:=c) hi (show 0<c.C by omega);have:=D _ a8
     rwa [hW i 0 hi (by omega),gM] at this
   refine AxD (AlM (o:=⟨s,wl,[],ol,[]⟩) (n:=0) h (AsI h) V (by rw[Z.pl]; exact h.pn) (λi hi=>⟨_,d2 i hi,by rw[oI]; rfl,by rw[oI]; rfl⟩) rfl (.inr ⟨AxC,λi _=>oI i⟩) ?_);refine hQ ad (λq=>c.w0 (q / c.C) (q % c.C)) ws _ λbs=>⟨⟨by rw[Z.pl]; exact h.pn,Z.room,a1,V,a3,D,λi j hi hj=>by rw[hW i j hi hj]; exact AyU c i j,λq _=>rfl,rfl⟩,⟨Ap1,(λk _ hk=>nomatch hk),(λa b p hp=>nomatch hp),λa b _=>rfl,(λk _ p hk=>nomatch hk)⟩⟩
structure MvP (c:GC) (m:ET):Prop where
 k:1≤m.Kind∧m.Kind≤5
 a:0≤m.A∧m.A<((c.R*c.C:Nat):Int)
 b:0≤m.B∧m.B<((c.R*c.C:Nat):Int)
 kk:0≤m.K∧m.K≤63
noncomputable def AG.act (c:GC) (s:AG) (m:ET):AG:=
 if m.Kind=1 then s.pick m.A.toNat else if m.Kind=2 then s.deliver c m.A.toNat m.B.toNat m.K else if m.Kind=3 then s.double m.A.toNat m.B.toNat m.K else if m.Kind=4 then s.move m.A.toNat m.B.toNat m.K else s.window c
noncomputable def AG.acts (c:GC) (s:AG):List ET->AG
 | []=>s
 | m :: l=>(s.act c m).acts c l
theorem xJ (c:GC):∀ (l m:List ET) (s:AG),s.acts c (l++m)=(s.acts c l).acts c m
 | [],m,s=>rfl
 | x :: l,m,s=>xJ c l m _
variable {s:AG} {rm v0:Nat} {ad:Nat→Nat} {W:Nat→A3} {o:A6} {ws:A4} {bs:A8}
theorem AG.Ok.act (h:c.Ok) (H:s.Ok c rm v0) {m:ET} (d:MvP c m):(s.act c m).Ok c rm v0:=by
 have D:=d.a; have J:=d.b;unfold AG.act;split
 . exact H.pick h (by omega)
 . split
   . exact H.deliver h (by omega) (by omega) _
   . split
     . exact H.double (by omega) (by omega) _
     . split
       . exact H.move (by omega) (by omega) _
       . exact H.window h
theorem AG.Ok.acts (h:c.Ok):∀ {l:List ET} {s:AG},s.Ok c rm v0->(∀ m∈l,MvP c m)->(s.acts c l).Ok c rm v0
 | [],s,H,_=>H
 | m :: l,s,H,hl=>AG.Ok.acts h (l:=l) (H.act h (hl m (by simp))) λD d=>hl D (cD _ d)
abbrev GWB:=A6×A4×A8
def DoP (c:GC) (rm v0:Nat) (F:A6->A4->A8->ET->(GWB->Prop)->Prop):Prop:=
 ∀ (s:AG) (ad:Nat->Nat) (W:Nat->A3) o ws bs m,s.Ok c rm v0->qU c s ad W rm o ws bs->MvP c m->∀ Q:GWB->Prop,(∀ D o' h d,qU c (s.act c m) ad D rm o' h d->Q (o',h,d))->F o ws bs m Q
theorem AzF (h:c.Ok) (D:1<=rm∧rm<=64):DoP c rm v0 GO:=by
 intro s ad W o ws bs m A H V Q J;have⟨_,_⟩:=V.k;obtain⟨a,ea⟩:∃ a:Nat,m.A=a:=⟨m.A.toNat,by have:=V.a; omega⟩;obtain⟨b,eb⟩:∃ b:Nat,m.B=b:=⟨m.B.toNat,by have:=V.b; omega⟩;have U:a<c.R*c.C:=by have:=V.a; omega
 have Z:b<c.R*c.C:=by have:=V.b; omega
 unfold AG.act at J;rw[ea,eb] at J;simp only[YZ] at J;unfold GO X9;rw[ea,eb];refine AY (λe=>Aj1 h A H D U λr W' o' a2 d O _=>J W' o' a2 d (by rw[if_pos e]; exact O)) λn1=>?_;rw[if_neg n1] at J;refine AY (λe=>?_) λn2=>?_
 . rw[if_pos e] at J;exact AvU h A H D U Z λr o' d O=>qV h A O D U Z λ_ W2 _ a5 _ H2 _ _=>AvU h (A.deliver h U Z _) H2 D U Z λ_ o3 a4 H3=>J W2 o3 a5 a4 H3
 rw[if_neg n2] at J;refine AY (λe=>AgL h A H D U Z λr o' d O=>J W o' ws d (by rw[if_pos e]; exact O)) λn3=>?_;rw[if_neg n3] at J;refine AY (λe=>AsD h A H D U Z λr o' d O=>J W o' ws d (by rw[if_pos e]; exact O)) λn4=>?_;rw[if_neg n4] at J;exact xH h A H D λr W' o' a2 d O _=>J W' o' a2 d O
theorem AyW (h:c.Ok) (D:1<=rm∧rm<=64):DoP c rm v0 SA:=by
 intro s ad W o ws bs m A H V Q J;have⟨_,_⟩:=V.k;obtain⟨a,ea⟩:∃ a:Nat,m.A=a:=⟨m.A.toNat,by have:=V.a; omega⟩;obtain⟨b,eb⟩:∃ b:Nat,m.B=b:=⟨m.B.toNat,by have:=V.b; omega⟩;have Z:a<c.R*c.C:=by have:=V.a; omega
 have hb:b<c.R*c.C:=by have:=V.b; omega
 unfold AG.act at J;rw[ea,eb] at J;simp only[YZ] at J;unfold SA;rw[ea,eb];refine AY (λe=>Aj1 h A H D Z λr W' o' U d O _=>J W' o' U d (by rw[if_pos e]; exact O)) λn1=>?_;rw[if_neg n1] at J;refine AY (λe=>AgL h A H D Z hb λr o' d O=>J W o' ws d (by rw[if_neg (by omega),if_pos e]; exact O)) λn3=>?_;refine AY (λe=>AsD h A H D Z hb λr o' d O=>J W o' ws d (by rw[if_neg (by omega),if_neg (by omega),if_pos e]; exact O)) λn4=>?_;refine AY (λe=>qV h A H D Z hb λ_ W2 o2 a4 a2 H2 _ _=>J W2 o2 a4 a2 (by rw[if_pos e]; exact H2)) λn2=>?_;rw[if_neg n2,if_neg n3,if_neg n4] at J;exact AY (λe=>xH h A H D λr W' o' U d O _=>J W' o' U d O) λn5=>absurd (show m.Kind=5 by omega) n5
theorem AsJ (a2:c.Ok) {l:List ET} (hl:∀ m∈l,MvP c m) (a5:l.length<=1048576) {F:A6->A4->A8->ET->(GWB->Prop)->Prop} (hF:DoP c rm v0 F) {K:A6->A4->A8->Prop}
   (A:s.Ok c rm v0) (H:qU c s ad W rm o ws bs) (hK:∀ V o' D d,qU c (s.acts c l) ad V rm o' D d->K o' D d) :
   B4 (λ(s:A6×Int×A4×A8) next=>match s with | (g,i,w,b)=>A7 (decide (i<(l.length:Int))) (BA l i λx=>F g w b x λr=>next (r.1,AJ (i+1),r.2.1,r.2.2)) (K g w b)) (o,0,ws,bs):=by
 refine AL (σ:=GWB) (λs i=>(s.1,i,s.2.1,s.2.2)) 0 l.length (s0:=(o,ws,bs)) (by omega) (λk t=>∃ V,qU c (s.acts c (l.take k)) ad V rm t.1 t.2.1 t.2.2) (by omega) ⟨W,H⟩ (λk t next _ hk h a4=>?_) (λt next h=>?_)
 . have⟨o1,O,J⟩:=t;have⟨Z,U⟩:=h;simp only at U ⊢;refine A2 (λ_=>B8 hk ?_) (λh'=>by omega);have A1:(s.acts c (l.take k)).Ok c rm v0:=A.acts a2 λm hm=>hl m (AjC hm);refine hF _ ad Z o1 O J _ A1 U (hl _ (PW hk)) _ λV o' D d H'=>a4 (o',D,d) ⟨V,?_⟩;rw[eX hk,xJ]; exact H'
 . have⟨o1,O,J⟩:=t;have⟨Z,U⟩:=h;simp only at U ⊢;rw[RV] at U;exact A2 (λh'=>by omega) λ_=>hK Z o1 O J U
def AgQ (r:Int):Option AQ->Int×Bool×Int
 | none=>(0,false,0)
 | some w=>if (HL w).2=false then (0,false,12) else if (HL w).1=zS r then (0,false,0) else ((HL w).1,true,0)
theorem V7 (r:Int) (w:AQ):AgQ r (some w)=if (HL w).2=false then (0,false,12) else if (HL w).1=zS r then (0,false,0) else ((HL w).1,true,0):=rfl
def oJ (r:Int) (l:List AQ):Int×Bool×Int:=AgQ r (Ad9 r l)
def OO (p:Plan) (l:List B5) (s:State) (round:Int) (v:Nat):Int×Bool×Int:=
 if GK (IA p s).1 (IA p s).2 v=true then oJ (BV p.Kind round) (HO (BV p.Kind round) (FP p s round).Items l v) else (0,false,0)
def AuV (p:Plan) (l:List B5) (s:State) (round:Int):Bool:=(List.range p.N.toNat).any λv=>(OO p l s round v).2.2 != 0
def eA (p:Plan) (l:List B5) (s:State) (round:Int) (n:Nat):List B3:=KB n λv=>((OO p l s round v).1,(OO p l s round v).2.1)
def AbQ (p:Plan) (l:List B5) (s:State) (round:Int):State×Int:=
 if AuV p l s round=true then (zSt,12) else (gT p s round ⟨p.N,eA p l s round p.N.toNat⟩,0)
theorem oK {p:Plan} {l:List B5} {s:State} {round:Int}:AuV p l s round=true↔∃ v,v<p.N.toNat∧(OO p l s round v).2.2≠0:=by grind[AuV]
theorem AsK {r:Int} {l:List AQ}:(oJ r l).2.2=0∨oJ r l=(0,false,12):=by
 unfold oJ
 cases Ad9 r l with
 | none=>exact .inl rfl
 | some w=>
  grind[V7]
theorem AnQ {p:Plan} {n:Nat} {l:List B5} {T:List A5} {round:Int} {G:GV} (hp:CG p=0) (h:p.N=n) (hT:Canon n n T) (a4:Ag9 n l T):AbQ p l (CU 0 n G) round=NJ p T (CU 0 n G) round:=by
 have J:n<=4096:=by have:=(BS hp).2.1; omega
 have ht:p.N.toNat=n:=by omega
 have a2:(FP p (CU 0 n G) round).Items=KB n λi=>dU p round i (G i):=by rw[uH hp (by omega)];grind
 have O:∀ v,v<n->OO p l (CU 0 n G) round v=if bQ p (G v)=true then AgQ (BV p.Kind round) (gU p T n round G v) else (0,false,0):=λv V=>by unfold OO oJ;rw[AlF J V,a2,<-ArU (round:=round) (G:=G) hT a4 v]
 have hs:=wY (T:=T) (G:=G) (round:=round) hp h;unfold AbQ;by_cases hb:AuV p l (CU 0 n G) round=true
 . rw[if_pos hb];have⟨v,V,Z⟩:=oK.1 hb;rw[ht] at V;rw[O v V] at Z;refine(hs.1 ?_).symm;by_cases D:bQ p (G v)=true
   . rw[if_pos D] at Z
     cases U:gU p T n round G v with
     | none=>rw[U] at Z; exact absurd rfl Z
     | some w=>
      grind[V7]
   all_goals grind
 . rw[if_neg hb]
   have d:∀ v w,v<n->bQ p (G v)=true->gU p T n round G v=some w->(HL w).2=true:=λv w V D _=>by
     cases hx:(HL w).2 with
     | true=>rfl
     | false=>
      refine absurd (oK.2 ⟨v,by omega,?_⟩) hb;grind[V7]
   rw[hs.2 d,ht];rw[Ad5 (Y:=oA p T n round G) hp (by omega) (y:=⟨p.N,eA p l (CU 0 n G) round n⟩) (by rw[h]; exact wW J _) h];intro i hi;show FM (KB n _) (i:Int)=_;rw[Ad7,jH,O i hi];unfold oA;by_cases D:bQ p (G i)=true
   . rw[if_pos D,if_pos D]
     cases U:gU p T n round G i with
     | none=>simp[AgQ]
     | some w=>
      have hx:=d i w hi D U;simp only[Option.bind_some]
      have e:AgQ (BV p.Kind round) (some w)=if (HL w).1=zS (BV p.Kind round) then (0,false,0) else ((HL w).1,true,0):=by grind[V7]
      rw[e];unfold nzW;grind
   all_goals grind
def AsL:Nat->(Nat->Nat)->Nat
 | 0,_=>0
 | n+1,f=>AsL n f+f n
theorem AlQ {f:Nat->Nat} {c:Nat}:∀ {n:Nat},(∀ i,i<n->f i<=c)->AsL n f<=n*c
 | 0,_=>by simp[AsL]
 | n+1,h=>by unfold AsL;have:=AlQ (n:=n) λi _=>h i (by omega);grind
def PQ (r:Int) (x:List B3) (l:List B5):Nat:=(l.filterMap (oC r x)).length
theorem xK {r:Int} {x:List B3} {l:List B5}:PQ r x l<=l.length:=At1 _ _
def AnR (p:Plan) (T:List A5) (l:List B5) (n:Nat):Nat:=AsL n λk=>PQ (BV p.Kind ((k:Int)+1)) (FP p (MU p T k) ((k:Int)+1)).Items l
theorem AxE {p:Plan} {T:List A5} {l:List B5} {n:Nat}:AnR p T l n<=n*l.length:=AlQ λ_ _=>xK
end
open Go Go.Fw
variable {limit st:Int}
def AdL (p:Plan) (g:Graph):List B5×Int:=if (tC p g).2≠0 then ([],(tC p g).2) else (LI p g,0)
theorem AnS {g:Graph} (h:G3 g=0):∀ e∈g.Edges,EA e.W:=λe d=>by have:=(JJ h).2.2.2.2 e d;unfold wOk at this; unfold EA; omega
theorem tD {p:Plan} {g:Graph} {Q:Graph->Prop} (O:G3 g=0) (h:∀ r:Graph,r.Edges=LI p g->Q r):TD p g Q:=by
 unfold TD;have J:=(JJ O).2.2.1;have d:=AnS O;have D:=wS J d;have hb:=ZX J d;have a2:=ZX D.1 D.2;refine AY (λV=>AbA (by omega) d (uF (by omega) D.2 (YM (by omega) (h _ ?_)))) (λV=>AY (λZ=>uF (by omega) d (YM (by omega) (h _ ?_))) (λZ=>AY (λU=>YM (by omega) (h _ ?_)) (λU=>M9 (by omega) d (h _ ?_))))
 . unfold LI KC; grind
 . unfold LI KC; grind
 . unfold LI KC; grind
 . unfold LI; rw[if_neg (by omega)]
theorem tE {p:Plan} {g:Graph} {Q:List B5×Int->Prop} (d:Q (AdL p g)):TE p g Q:=by unfold TE;unfold AdL at d;refine V4 (BO (λh=>by rwa [if_pos h] at d) (λh=>?_));rw[if_neg (λD=>D h)] at d;exact tD (AyR h).2.2.1 λ_ J=>by rw[J]; exact d
theorem AsM {p:Plan} {g:Graph} (d:I6 g.N g.Edges):(LI p g).length<=2*g.Edges.length:=by
 unfold LI;split
 . exact(oB d).2.2.1
 . have:=OM (FA d); omega
theorem AuW {α:Type} (n u:Nat) (f:Nat->α) (y:α):(J6 n f).set u y=J6 n λv=>if v=u then y else f v:=by
 apply AjN
 . simp[J6]
 . intro i d h;rw[List.getElem_set];simp only[J6,List.getElem_map,List.getElem_range];grind
theorem AlR {α:Type} {n u:Nat} {f:Nat->α} (h:u<n):(J6 n f)[u]? = some (f u):=by simp[J6,h]
theorem AgR (r:Int) (x:List B3) (a b:List B5) (v:Int):HO r x (a++b) v=HO r x a v++HO r x b v:=by unfold HO; grind
theorem AsN (r:Int) (x:List B3) (l:List B5) (n:Nat):List.replicate n ([]:List AQ)=J6 n λv=>HO r x (l.take 0) v:=by
 apply AjN
 . simp[J6]
 . intro i d h;simp[J6,HO]
theorem AnT {r:Int} {x:List B3} {l:List B5} {n i:Nat} (hi:i<l.length) (h:oC r x l[i]=none):(J6 n λv=>HO r x (l.take (i+1)) v)=J6 n λv=>HO r x (l.take i) v:=by
 refine ZY λv _=>?_;rw[eX hi,AgR]
 have:HO r x [l[i]] v=[]:=by unfold HO;grind
 grind
theorem AnU {r:Int} {x:List B3} {l:List B5} {n i u:Nat} {w:AQ} (hi:i<l.length) (d:l[i].To=u) (h:oC r x l[i]=some w) :
   (J6 n λv=>HO r x (l.take i) v).set u (HO r x (l.take i) u++[w])=J6 n λv=>HO r x (l.take (i+1)) v:=by
 rw[AuW];refine ZY λv _=>?_;rw[eX hi,AgR];by_cases e:v=u
 . subst e;rw[if_pos rfl]
   have:HO r x [l[i]] v=[w]:=by unfold HO;grind
   rw[this]
 . rw[if_neg e]
   have:HO r x [l[i]] v=[]:=by unfold HO;grind
   grind
def AsO (p:Plan) (l:List B5) (s:State) (round:Int):List (List AQ):=J6 p.N.toNat λv=>HO (BV p.Kind round) (FP p s round).Items l v
theorem WT {p:Plan} {l:List B5} {s:State} {round:Int} {Q:List B5×List (Int×Int)×Int->Prop} (V:Whole p s) (Z:0<=round∧round<=1000000)
   (U:∀ d:List (Int×Int),(∀ k,BG k d=FM (FP p s round).Items k)->Q (l,d,BV p.Kind round)):HC p l s round Q:=by
 unfold HC;have O:=(V.out round).1;have D:=O.len;refine sJ V.ok Z ?_;generalize (FP p s round)=v at O D U ⊢;refine AL (λ(s:List (Int×Int)) i=>(s,i)) 0 v.Items.length (by omega) (λi s=>∀ k,BG k s=FM (v.Items.take i) k) (by omega) (s0:=[]) (λk=>rfl) (λi s next _ hi J hn=>?_) (λs next J=>?_)
 . refine A2 (λ_=>B8 hi (hn _ λk=>?_)) (λh=>by omega);rw[eX hi,RB];by_cases e:k=v.Items[i].At
   . subst e;rw[CH,PI,IZ,if_pos rfl];intro y hy;obtain⟨j,hj,rfl⟩:=List.mem_iff_getElem.1 hy;rw[VK] at hj;rw[AbT];have:=(List.pairwise_iff_getElem.1 O.inc) j i (by omega) hi (by omega);omega
   . rw[CX e,J k]
     cases FM (v.Items.take i) k with
     | some y=>rfl
     | none=>rw[IZ,if_neg e]; rfl
 . rw[RV] at J;exact A2 (λh=>by omega) (λ_=>PO (U s J))
theorem tF {p:Plan} {l:List B5} {s:State} {Q:Int->Prop} (hp:CG p=0) (d:Whole p s) (hl:l.length<=1000000) (Z:(∃ e∈l,¬rR p.N e)->Q 3) (V:(∀ e∈l,rR p.N e)->Q 0):TF p l s Q:=by
 unfold TF ZE;have hz:=BS hp;have e:GR s=p.N.toNat:=by unfold GR; have:=d.lo; have:=d.hi; omega
 have a2:=d.st.2.2.2.2.1; have a4:=d.st.2.2.2.2.2.1; have U:=d.st.2.2.2.2.2.2;rw[d.hi,d.lo,Int.sub_zero] at U;refine RS (AH (by simp[hp]) (AV (by simp[d.lo]) (AV (by simp[d.hi]) (AV (by simp only[beq_iff_eq]; omega) (AV (by simp only[beq_iff_eq]; omega) (UU d.ok.1 d.ok.2 ?_))))));rw[decide_eq_true U];refine AH rfl ?_;unfold DA DS;refine CR l.length (by omega) (λk=>∀ j (J:j<l.length),j<k->rR p.N l[j]) (λj _ h=>by omega) (λk next hk O hn=>?_) (λnext O=>?_)
 . refine A2 (λ_=>B8 hk ?_) (λh=>by omega);unfold O4;have D:¬rR p.N l[k]->A7 true (A7 (decide (0<=(k:Int))) (Q 3) (Q 0)) (next (AJ ((k:Int)+1))):=λh=>AV rfl (A2 (λ_=>Z ⟨_,PW hk,h⟩) (λh=>by omega));refine A2 (λh=>D λhi=>?_) (λh=>?_)
   . unfold rR at hi; split at h <;> omega
   . by_cases h2:p.N<=(if l[k].To > l[k].From then l[k].To else l[k].From)
     . rw[decide_eq_true h2];exact D λhi=>by unfold rR at hi; split at h2 <;> omega
     . rw[decide_eq_false h2];refine AH rfl (hn λj J _=>?_);by_cases ej:j=k
       . subst ej;unfold rR;omega
       all_goals grind
 . refine A2 (λh=>by omega) (λ_=>A2 (λh=>by omega) (λ_=>V λe he=>?_));obtain⟨j,J,rfl⟩:=List.mem_iff_getElem.1 he;exact O j J J
theorem xL {p:Plan} {l:List B5} {s:State} {round:Int} {Q:List (List AQ)×Int->Prop} (hp:CG p=0) (O:Whole p s) (hr:0<=round∧round<=1000000) (hl:l.length<=1000000) (hw:∀ e∈l,EA e.W)
   (hb:(∃ e∈l,¬rR p.N e)->Q ([],3)) (D:(∀ e∈l,rR p.N e)->Q (AsO p l s round,0)):WG p l s round Q:=by
 unfold WG;have hz:=BS hp;have ho:=O.out round;refine tF hp O hl (λh=>AV rfl (hb h)) (λd=>AH rfl ⟨by omega,by omega,WT O hr λ_ ht=>?_⟩);have D:=D d;unfold AsO at D;unfold LZ
 try dsimp only
 refine AL (λ(s:List (List AQ)) i=>(s,i,(0:Nat))) 0 l.length (by omega) (λi o=>o=J6 p.N.toNat λv=>HO (BV p.Kind round) (FP p s round).Items (l.take i) v) (by omega) ?_ (λi o next _ hi J hn=>?_) (λo next J=>?_)
 . exact AsN _ _ _ _
 . subst J
   try dsimp only
   have he:=d _ (PW hi);unfold rR at he;refine A2 (λ_=>B8 hi ?_) (λh=>by omega);unfold yQ;rw[ht]
   cases V:FM (FP p s round).Items l[i].From with
   | none=>
    refine AH rfl (hn _ ?_);rw[AnT hi (by unfold oC; rw[V]; rfl)]
   | some y=>
    refine AV rfl (WL (hw _ (PW hi)) (ho.2.1 _ (PJ V)) ⟨rfl,?_⟩);obtain⟨u,U⟩:∃ u:Nat,l[i].To=u:=⟨l[i].To.toNat,by omega⟩;rw[U];have Z:=AlR (n:=p.N.toNat) (u:=u) (f:=λv=>HO (BV p.Kind round) (FP p s round).Items (l.take i) v) (by omega)
    have a2:(HO (BV p.Kind round) (FP p s round).Items (l.take i) u).length<=1000000:=by unfold HO;grind
    refine AP (by omega) Z (AO (by rw[Ae7]; omega) (AP (by omega) Z (AH rfl (hn _ ?_))))
    try dsimp only
    rw[YZ];exact AnU hi U (by unfold oC; rw[V]; rfl)
 . subst J
   try dsimp only
   rw[RV];exact A2 (λh=>by omega) (λ_=>⟨rfl,D⟩)
theorem AgS {r:Int} {l:List AQ} {i:Nat} (h:i<l.length):Ad9 r (l.take (i+1))=jX r (Ad9 r (l.take i)) (some l[i]):=by unfold Ad9;rw[eX h,Ae9];rfl
theorem AsP {r:Int} {l:List AQ} {w:AQ} {Q:Int×Bool×Int->Prop} (J:Ad9 r l=some w) (d:Q (oJ r l)):A7 (!(HL w).2) (Q (0,false,12)) (A7 ((HL w).1==zS r) (Q (0,false,0)) (Q ((HL w).1,true,0))):=by
 unfold oJ at d;rw[J] at d;rw[V7] at d;refine BW (λh=>?_) (λh=>?_)
 . grind
 . rw[if_neg (by rw[h]; simp)] at d;refine AY (λD=>?_) (λD=>?_)
   all_goals grind
theorem AgT {r:Int} {l:List AQ} (h:∀ w∈l,PZ w):okO (Ad9 r l):=AdA h λ_ h=>by cases h
theorem xM {k round:Int} {l:List AQ} {Q:Int×Bool×Int->Prop} (hl:l.length<=100000000) (V:∀ w∈l,PZ w) (U:Q (if BV k round=0 then (0,false,8) else oJ (BV k round) l)):WC k round l Q:=by
 unfold WC;refine PO (AY (λh=>by rwa [if_pos h] at U) (λh=>?_));rw[if_neg h] at U;unfold PC
 try dsimp only
 refine AL (λ(s:Bool×AQ) i=>(s.1,s.2.Hi,s.2.Lo,i)) 0 l.length (by omega) (λi s=>(s.1=true->Ad9 (BV k round) (l.take i)=some s.2)∧(s.1=false->i=0)) (by omega) (s0:=(false,⟨0,0⟩)) ⟨λh=>(by cases h),λ_=>rfl⟩ (λi s next _ hi Z hn=>?_) (λs next Z=>?_)
 . have⟨b,a⟩:=s;have⟨D,J⟩:=Z;dsimp only at D J ⊢;refine A2 (λ_=>B8 hi ?_) (λh=>by omega);unfold N5
   cases b with
   | true=>
    have O:PZ a:=AgT (l:=l.take i) (λw hx=>V w (AjC hx)) a (D rfl);refine AV rfl (WJ O (V _ (PW hi)) (hn (true,_) ⟨λ_=>?_,λh=>by cases h⟩));rw[AgS hi,D rfl]; rfl
   | false=>
    have:=J rfl;subst this;refine AH rfl (hn (true,_) ⟨λ_=>?_,λh=>by cases h⟩);rw[AgS hi]; rfl
 . have⟨b,a⟩:=s;have⟨D,J⟩:=Z;dsimp only at D J ⊢;refine A2 (λh=>by omega) (λ_=>?_);unfold N6;rw[RV] at D
   cases b with
   | true=>
    have O:PZ a:=AgT V a (D rfl);have hf:=AsP (D rfl) U;exact AH rfl (pZ (r:=0) (Q:=λd=>A7 (!d.2) (Q (0,false,12)) (TW (BV k round) λa2=>A7 (d.1==a2) (Q (0,false,0)) (Q (d.1,true,0)))) O ⟨λh=>hf.1 h,λh=>nF (hf.2 h)⟩)
   | false=>
    have:l=[]:=List.length_eq_zero_iff.1 (J rfl);subst this;exact AV rfl U
theorem eC {p:Plan} {l:List B5} {s:State} {round:Int} {Q:State×Int->Prop} (hp:CG p=0) (hs:Whole p s) (hr:0<=round∧round<=1000000) (hl:l.length<=1000000) (hw:∀ e∈l,EA e.W)
   (a7:∀ e∈l,rR p.N e) (V:Q (AbQ p l s round)):WH p l s round Q:=by
 unfold WH;have hz:=BS hp;have b0:=wX hz.1 round;refine xL hp hs hr hl hw (λ⟨e,U,h⟩=>absurd (a7 e U) h) (λ_=>AH rfl (hs.ask ?_))
 try dsimp only
 unfold AsO;have a5:∀ i,i<p.N.toNat->GK (IA p s).1 (IA p s).2 (i:Int)=true->OO p l s round i=oJ (BV p.Kind round) (HO (BV p.Kind round) (FP p s round).Items l i):=λi _ D=>by unfold OO; rw[if_pos D]
 refine AL (λ(s:List B3) i=>(s,i)) 0 p.N.toNat (by omega) (λi o=>o=eA p l s round i∧∀ v,v<i->(OO p l s round v).2.2=0) (by omega) (s0:=[]) ⟨rfl,λv h=>by omega⟩ (λi o next _ hi O Z=>?_) (λo next O=>?_)
 . obtain⟨rfl,a2⟩:=O
   try dsimp only
   have hg:=AlR (n:=p.N.toNat) (u:=i) (f:=λv=>HO (BV p.Kind round) (FP p s round).Items l v) hi
   have a9:(HO (BV p.Kind round) (FP p s round).Items l i).length<=1000000:=by unfold HO;grind
   have a8:(eA p l s round i).length<=i:=by have:=At1 (λj=>if (OO p l s round j).2.1 then some (⟨j,(OO p l s round j).1⟩:B3) else none) (List.range i);rw[AoF] at this;exact this
   have a4:eA p l s round (i+1)=if (OO p l s round i).2.1 then eA p l s round i++[⟨i,(OO p l s round i).1⟩] else eA p l s round i:=ON i _
   have d:(OO p l s round i).2.2=0->∀ v,v<i+1->(OO p l s round v).2.2=0:=λh v hv=>by grind
   refine A2 (λ_=>AP (by omega) hg (K9 (AlH p s) (by unfold EA; omega) ?_)) (λh=>absurd (show(i:Int)<((J6 p.N.toNat _).length:Int) by rw[NI]; omega) h);by_cases D:GK (IA p s).1 (IA p s).2 (i:Int)=true
   . have U:=a5 i hi D;refine AH (by unfold GK at D; simpa using D) (xM (by omega) ArW ?_);rw[if_neg (by omega),<-U];refine BO (λh=>?_) (λh=>?_)
     . unfold AbQ at V;rw[if_pos (oK.2 ⟨i,hi,h⟩)] at V
       have a6:(OO p l s round i).2.2=12:=by
        rw[U] at h ⊢;rcases AsK (r:=BV p.Kind round) (l:=HO (BV p.Kind round) (FP p s round).Items l i) with J | J
        . exact absurd J h
        . rw[J]
       rw[a6]; exact V
     . refine⟨λhb=>AO (by rw[Ae7]; omega) (Z _ ⟨?_,d h⟩),λhb=>Z _ ⟨?_,d h⟩⟩
       all_goals grind
   . have U:OO p l s round i=(0,false,0):=by unfold OO; rw[if_neg D]
     refine AV (by unfold GK at D; simpa using D) (Z _ ⟨?_,d (by rw[U])⟩);rw[a4,U]; rfl
 . obtain⟨rfl,a2⟩:=O
   try dsimp only
   refine A2 (λh=>by rw[NI] at h; omega) (λ_=>?_);unfold AbQ at V;rw[if_neg (λh=>by have⟨v,hv,h1⟩:=oK.1 h; exact h1 (a2 v hv))] at V
   have a8:(eA p l s round p.N.toNat).length<=p.N.toNat:=by have:=At1 (λj=>if (OO p l s round j).2.1 then some (⟨j,(OO p l s round j).1⟩:B3) else none) (List.range p.N.toNat);rw[AoF] at this;exact this
   exact dS hs.ok hr (by dsimp only; omega) V
structure VRun (p:Plan) (g:Graph) (limit:Int) (n:Nat) (st:Int) (N:Nat):Prop where
 run:MRun p g limit (EP (KC p g)) n st
 hN:p.N=N
 gn:g.N=p.N
 hg:G3 g=0
 len:g.Edges.length≤60
theorem VRun.mat {p:Plan} {g:Graph} {n N:Nat} (R:VRun p g limit n st N):AyQ p N (EP (KC p g)):=AvS R.run.rp R.gn R.hN R.hg (by have:=R.len; omega)
theorem VRun.link {p:Plan} {g:Graph} {n N:Nat} (R:VRun p g limit n st N):Ag9 N (LI p g) (EP (KC p g)):=Ax0 (R.gn.trans R.hN) (aC R.hg)
theorem VRun.llen {p:Plan} {g:Graph} {n N:Nat} (R:VRun p g limit n st N):(LI p g).length<=120:=by have:=AsM (p:=p) (aC R.hg); have:=R.len; omega
theorem VRun.lw {p:Plan} {g:Graph} {n N:Nat} (R:VRun p g limit n st N):∀ e∈LI p g,EA e.W:=FA R.link.good
theorem VRun.lin {p:Plan} {g:Graph} {n N:Nat} (R:VRun p g limit n st N):∀ e∈LI p g,rR p.N e:=λe d=>by rw[R.hN]; exact(R.link.good e d).1
theorem VRun.links {p:Plan} {g:Graph} {n N:Nat} (R:VRun p g limit n st N):AdL p g=(LI p g,0):=by unfold AdL; rw[R.run.mt,if_neg (λh=>h rfl)]
theorem VRun.step {p:Plan} {g:Graph} {n N:Nat} (R:VRun p g limit n st N) {k:Nat} (hk:k<=n) (round:Int):AbQ p (LI p g) (MU p (EP (KC p g)) k) round=NJ p (EP (KC p g)) (MU p (EP (KC p g)) k) round:=by rw[Ad6 R.run.rp R.hN λj _=>R.run.en.lt j (by omega)];exact AnQ R.run.rp R.hN R.mat.can R.link
theorem AuX {p:Plan} {g:Graph} {n N:Nat} (R:VRun p g limit n st N) {k:Nat} (hk:k<=n):AnR p (EP (KC p g)) (LI p g) k<=8192*120:=by have h:=AxE (p:=p) (T:=EP (KC p g)) (l:=LI p g) (n:=k);have d:=R.llen;have D:=R.run.en.le;have J:=R.run.lm.2;have O:k*(LI p g).length<=8192*120:=AhK (by omega) d;omega
theorem AsQ (p:Plan) (T:List A5) (l:List B5) (k:Nat):AnR p T l (k+1)=AnR p T l k+PQ (BV p.Kind ((k:Int)+1)) (FP p (MU p T k) ((k:Int)+1)).Items l:=rfl
theorem AsR {p:Plan} {l:List B5} {s:State} {round:Int} {m:Nat} {d:List (Int×Int)} {Q:Nat×Int->Prop} (hs:Whole p s) (hl:l.length<=1000000) (hw:∀ e∈l,EA e.W) (hm:m<=1000000000) (ht:∀ k,BG k d=FM (FP p s round).Items k)
   (hQ:Q (0,((m+PQ (BV p.Kind round) (FP p s round).Items l:Nat):Int))) :
   I4 0 (m:Int) l d (BV p.Kind round) (λ(J:Nat) (U:Int) (a5:Int) (a4:AQ) (Qy:(Bool×Nat×Int)->Prop)=>eqP J 0 (Qy (true,0,AJ (U+1)))) Q:=by
 unfold I4;have ho:=hs.out round;refine AL (λ(s:Int) i=>(s,i,(0:Nat))) 0 l.length (by omega) (λi o=>o=((m+PQ (BV p.Kind round) (FP p s round).Items (l.take i):Nat):Int)) (by omega) (by simp[PQ]) (λi o next _ hi D Z=>?_) (λo next D=>?_)
 . subst D
   try dsimp only
   refine A2 (λ_=>B8 hi ?_) (λa2=>by omega);unfold yQ;rw[ht];have V:=xK (r:=BV p.Kind round) (x:=(FP p s round).Items) (l:=l.take i);rw[VK] at V
   have O:PQ (BV p.Kind round) (FP p s round).Items (l.take (i+1))=PQ (BV p.Kind round) (FP p s round).Items (l.take i)+(if (oC (BV p.Kind round) (FP p s round).Items l[i]).isSome then 1 else 0):=by unfold PQ;rw[eX hi,AoC,bL,AjF];grind
   cases h:FM (FP p s round).Items l[i].From with
   | none=>
    refine AH rfl (Z _ ?_);rw[O,show oC (BV p.Kind round) (FP p s round).Items l[i]=none by unfold oC; rw[h]; rfl];simp
   | some y=>
    refine AV rfl (WL (hw _ (PW hi)) (ho.2.1 _ (PJ h)) ⟨rfl,AH rfl (Z _ ?_)⟩)
    try dsimp only
    rw[O,show oC (BV p.Kind round) (FP p s round).Items l[i]=some (YE (BV p.Kind round) l[i].W y) by unfold oC; rw[h]; rfl,AK (by omega) (by omega)];grind
 . subst D
   try dsimp only
   rw[RV];exact A2 (λa2=>by omega) (λ_=>hQ)
theorem zL {p:Plan} {g:Graph} {n N:Nat} {Q:Result×Int×Int->Prop} (R:VRun p g limit n st N) (U:Q (ArS p (EP (KC p g)) n st,(AnR p (EP (KC p g)) (LI p g) n:Int),0)):ZJ p g limit Q:=by
 unfold ZJ;refine dV (AH (by simp[R.run.check]) (tE ?_));rw[R.links];refine AH rfl (iR ?_)
 try dsimp only
 have hp:=R.run.rp; have hl:=R.run.lm; have E:=R.run.en;have a4:=R.llen;show B4 _ ((⟨0,0,MU p (EP (KC p g)) 0⟩:Result),(0:Int));refine An8 (S:=Result×Int) hp hl E (enc:=λk=>((⟨0,(k:Int),MU p (EP (KC p g)) k⟩:Result),(AnR p (EP (KC p g)) (LI p g) k:Int))) (λk next _ h hv V d _=>?_) (λnext h d=>?_)
 . have Z:(k:Int)<=8192:=by have:=E.le; omega
   have D:AJ ((k:Int)+1)=(k:Int)+1:=AK (by omega) (by omega);have a2:=AuX R (k:=k) (by omega)
   try dsimp only
   refine aA h.ok (AH (by simpa using hv) (AH (by simpa using V) ?_));rw[D];refine eC hp h (by omega) (by omega) R.lw R.lin ?_;rw[R.step (by omega),d];refine AH rfl (WT h (by omega) λ_ ht=>AsR (l:=LI p g) h (by omega) R.lw (by omega) ht ⟨rfl,?_⟩);grind[AsQ]
 . have Z:(n:Int)<=8192:=by have:=E.le; omega
   have D:AJ ((n:Int)+1)=(n:Int)+1:=AK (by omega) (by omega)
   try dsimp only
   refine aA h.ok ?_;rw[D];rcases uI E.ne d with⟨J,rfl⟩ | ⟨J,O,rfl⟩ | ⟨J,O,h3,rfl⟩
   . exact AV (by simpa using J) U
   . exact AH (by simpa using J) (AV (by simpa using O) U)
   . refine AH (by simpa using J) (AH (by simpa using O) (eC hp h (by omega) (by omega) R.lw R.lin ?_));rw[R.step (Z0 _)];exact AV (by simpa using h3) U
theorem AxF {p:Plan} {g:Graph} {d:Int} (hp:CG p=0) (J:g.N=p.N) (O:g.Edges.length<=60) (D:G3 g=0) (h:0<=d∧d<=8192):∃ n st N,VRun p g d n st N:=by have⟨n,st,R⟩:=AwZ hp J O D h;exact⟨n,st,p.N.toNat,R,by have:=(BS hp).2.1; omega,J,D,O⟩
variable {c:GC} {s:AG} {rm v0:Nat} {ad:Nat→Nat} {W:Nat→A3} {o:A6} {ws:A4} {bs:A8}
structure Fin (c:GC) (ad:Nat→Nat) (o:A6) (ws:A4):Prop where
 ow:o.owners=(List.range c.R).map fun i=>some (ad (i*c.C))
 st:∀ i,i<c.R→∃ w,BG (ad (i*c.C)) ws=some w∧w.status=c.e
 hist:o.history=c.hist (c.m+1)
theorem AgU (h:c.Ok) (F:Fin c ad o ws) {Q:Bool->Prop} (U:Q true):CM o ws Q:=by
 have Z:=h.R1;have J:o.owners.length=c.R:=by rw[F.ow]; simp
 unfold CM BM BQ;refine CR c.R (by omega) (λ_=>True) trivial (λi next hi _ d=>?_) (λnext _=>?_)
 . have⟨w,V,O⟩:=F.st i hi;refine A2 (λ_=>AP (by omega) (x:=some (ad (i*c.C))) (by rw[F.ow]; simp[hi]) ?_) (λD=>by omega);unfold HJ DK EG;refine Q3 ⟨w,V,?_⟩;dsimp only;rw[O];exact AY (λD=>absurd D h.run.en.ne) λ_=>d trivial
 . exact A2 (λD=>by omega) λ_=>U
theorem AuY (h:c.Ok) (k:Nat):AbC (CU 0 c.n (c.G k)):=(nY h.run.rp (by have:=h.pn; omega)).2.2
theorem AnV (h:c.Ok) (k:Nat) {Q:State->Prop} (U:Q (CU 0 c.n (c.G k))):BB (CU 0 c.n (c.G k)).A λJ=>BB (CU 0 c.n (c.G k)).B λd=>BT (CU 0 c.n (c.G k)).On λD=>Q ({ CU 0 c.n (c.G k) with A:=J,B:=d,On:=D }:State):=by
 have V:=h.n4;have Z:(CU 0 c.n (c.G k)).A.length=c.n:=NI _ _;have lB:(CU 0 c.n (c.G k)).B.length=c.n:=NI _ _
 have O:(CU 0 c.n (c.G k)).On.length<=1000000:=by have:(CU 0 c.n (c.G k)).On.length=KZ c.n:=(IX _ _).2.1;have:=dE c.n; omega
 exact RF (by omega) (RF (by omega) (kG O U))
theorem AnW (h:c.Ok) (F:Fin c ad o ws) {k:Nat} (hk:k<=c.m) {Q:State×Bool->Prop} (J:Q (CU 0 c.n (c.G k),true)):II o k Q:=by
 have d:o.history.length=c.m+1:=by rw[F.hist]; simp[GC.hist]
 unfold II;refine A2 (λD=>by omega) λ_=>A2 (λD=>by omega) λ_=>AP (by omega) (x:=CU 0 c.n (c.G k)) ?_ (AnV h k (Q:=λs=>Q (s,true)) J);rw[F.hist]; unfold GC.hist;grind
theorem AnX (h:c.Ok) (F:Fin c ad o ws) {Q:Int->Prop} (D:Q (c.m:Int)):HZ o Q:=by
 have d:o.history.length=c.m+1:=by rw[F.hist]; simp[GC.hist]
 have:=h.run.en.le; have:=h.lm;unfold HZ;rw[d,AK (by omega) (by omega)];grind
theorem AnY (h:c.Ok) (F:Fin c ad o ws) {Q:Result->Prop} (O:Q ⟨c.e,c.m,CU 0 c.n (c.G c.m)⟩):I3 o ws Q:=by
 have U:=h.R1;unfold I3;refine AnX h F (CA (λt=>t=c.e) (λt J=>AnW h F (Z0 _) ?_) λ_ hk=>AgU h F (AV rfl ?_))
 . rw[J]; exact O
 . have⟨w,D,d⟩:=F.st 0 (by omega);refine AP (by omega) (x:=some (ad (0*c.C))) (by rw[F.ow]; show(List.map _ (List.range c.R))[0]? = _; rw[List.getElem?_map,List.getElem?_range (by omega)]; rfl) ?_;unfold DK EG;exact Q3 ⟨w,D,hk _ d⟩
theorem ms {a m:Int} (h:0<=a∧a<=255) (O:2<=m∧m<=5):∃ k:Nat,AJ (((AJ a).tmod m)+1)=k∧1<=k∧(k:Int)<=m:=by have d:AJ a=a:=AK (by omega) (by omega);rw[d,Ao6 h.1];have D:=AjP a (b:=m) (by omega); have J:=AjI a (b:=m) (by omega);rw[AK (by omega) (by omega)];exact⟨(a % m+1).toNat,by omega,by omega,by omega⟩
theorem AyX (h:c.Ok) (H:qU c s ad W rm o ws bs) (J:s.g.fin c=true):Fin c ad o ws:=by
 have hR:=h.R1; have hC:=h.C1; have hU:=h.U_b; have a2:=h.run.en.ne;have⟨_,V⟩:=of_decide_eq_true J;have d:c.st (s.g.u - 1)=c.e:=by unfold GC.st; rw[if_pos (by omega)]
 refine⟨H.ow,λi hi=>?_,?_⟩
 . have a4:=kK (c:=c) hi (show 0<c.C by omega);have o:=(H.ok i 0 hi (by omega)).own rfl;refine⟨_,H.mem _ (by omega),?_⟩;have:=o.status;grind
 . rw[H.hist];congr 1;unfold Gh.nh;have D:c.U=if c.e=3 then c.m+2 else c.m+1:=rfl;by_cases h3:c.e=3
   . rw[if_pos h3] at D;rw[if_neg (by omega),if_neg (c:=(∀ i,i<c.R->s.g.O i=true)∧c.st (s.g.u - 1)≠3) λZ=>Z.2 (by rw[d]; exact h3)]; omega
   . rw[if_neg h3] at D;by_cases h1:s.g.u<=1
     . rw[if_pos h1]; omega
     . rw[if_neg h1,if_pos (c:=(∀ i,i<c.R->s.g.O i=true)∧c.st (s.g.u - 1)≠3) ⟨V,by rw[d]; exact h3⟩]; omega
theorem oL {a m:Int} {Q:Bool->Prop} (h:0<=a∧a<=m) (d:Q true):LS a m Q:=by
 unfold LS;refine A2 (λ_=>?_) λ_=>by omega
 grind
theorem AuZ (h:c.Ok) {m:ET} (d:MvP c m) {Q:Bool->Prop} (V:Q true):Z6 m Q:=by have J:=d.a; have O:=d.b; have U:=d.k; have D:=(T_b h).2;unfold Z6;refine oL (by omega) (AH rfl (oL (by omega) (AH rfl (oL d.kk (AH rfl (A2 (λ_=>?_) λ_=>by omega))))));grind
theorem AlS (h:c.Ok) {t:KG} (U:SuP c rm t) {l:List ET} (Z:∀ m∈l,MvP c m) (J:l.length<=1048576) {n:Int} (V:0<=n∧n<=1048576) {Q:Int->Prop} (O:Q 0):U9 t l n Q:=by
 unfold U9 D7 DQ;refine qW h U (AH rfl (A2 (λD=>by omega) λ_=>CR l.length (by omega) (λ_=>True) trivial (λ_ next hi _ d=>?_) λnext _=>?_))
 . refine A2 (λ_=>B8 hi ?_) λD=>by omega
   unfold Q8;exact AuZ h (Z _ (PW hi)) (AH rfl (d trivial))
 . exact A2 (λD=>by omega) λ_=>AH rfl (oL V (AH rfl O))
def WU:ET:={ Kind:=5,A:=0,B:=0,K:=0 }
theorem AxG (h:c.Ok):MvP c WU:=by have:0<c.R*c.C:=Nat.mul_pos (by have:=h.R1; omega) (by have:=h.C1; omega);exact⟨by decide,⟨by decide,by show(0:Int)<_; omega⟩,⟨by decide,by show(0:Int)<_; omega⟩,by decide⟩
theorem AnZ (h:c.Ok) (O:1<=rm∧rm<=64) {t:KG} (V:SuP c rm t) {l:List ET} (U:∀ m∈l,MvP c m) (a2:l.length<=1000) {Q0:Int×A4×A8->Prop} {D:Int×A4×A8×A6->Prop}
  (hQ:∀ ad W o ws bs,qU c ((AG.at0 c rm).acts c l) ad W rm o ws bs->D (0,ws,bs,o)):K6 [] [] t l Q0 D:=by
 unfold K6;refine AlS h V U (by omega) (by omega) (AH rfl (AvW h V λad W ws o H=>AH rfl ?_));exact AsJ (F:=GO) (K:=λg w b=>D (0,w,b,g)) (v0:=gh0.val c) h U (by omega) (AzF h O) (AdK h rm) (H []) λW' o' J d Z=>hQ ad W' o' J d Z
theorem AsS {l:List ET} {Q:List ET->Prop} (h:l.length<=1000000) (d:Q l):DY l Q:=by unfold DY;exact JR (λe=>by subst e; exact d) (AO (by simp; omega) d)
theorem AvX (h:c.Ok) {l:List ET} (d:∀ m∈l,MvP c m) (n:Nat):∀ m∈l++List.replicate n WU,MvP c m:=λm _=>by grind[AxG]
theorem AbR (c:GC) (s:AG) (l:List ET) (n:Nat):s.acts c (l++List.replicate (n+1) WU)=(s.acts c (l++List.replicate n WU)).window c:=by rw[List.replicate_succ',<-lL,xJ];show AG.act c _ WU=_;unfold AG.act;rw[if_neg (by decide),if_neg (by decide),if_neg (by decide),if_neg (by decide)]
theorem AsT (h:c.Ok) (d:1<=rm∧rm<=64) {t:KG} (hs:SuP c rm t) {l:List ET} (J:∀ m∈l,MvP c m) (a4:l.length<=1000) {Q:List ET×Int->Prop}
  (hQ:∀ n,n<=60000->((AG.at0 c rm).acts c (l++List.replicate n WU)).g.fin c=true->Q (l++List.replicate n WU,0)):RO t l Q:=by
 unfold RO;refine AnZ h d hs J a4 λad W _ _ _ H=>AH rfl (AsS (by omega) ?_);have A0:=(AdK h rm).acts h J
 have O:((AG.at0 c rm).acts c l).ms c<=50000:=by have:=A0.rw_le h d.2;unfold AG.ms; omega
 dsimp only
 refine CQ (λt:A6×List ET×A4×A8=>∃ n W,t.2.1=l++List.replicate n WU∧qU c ((AG.at0 c rm).acts c t.2.1) ad W rm t.1 t.2.2.1 t.2.2.2∧n+((AG.at0 c rm).acts c t.2.1).ms c<=50000) (λt=>60000+l.length - t.2.1.length)
  ⟨0,W,by simp,H,by simpa using O⟩ ?_
 rintro⟨_,_,_,_⟩ next ⟨n,_,e,Z,hn⟩ hnx;simp only at e Z hn ⊢;subst e;have U:=(AdK h rm).acts h (AvX h J n);refine AuS h Z ?_
 cases V:((AG.at0 c rm).acts c (l++List.replicate n WU)).g.fin c with
 | true=>exact AH rfl (hQ n (by omega) V)
 | false=>
  have a5:=AnO h U d.1 V;refine AV rfl (xH h U Z d λ_ W2 o2 a2 D H2 _=>AO (by simp; omega) ?_);have el:(l++List.replicate n WU)++[WU]=l++List.replicate (n+1) WU:=by rw[List.replicate_succ',lL]
  show next (o2,(l++List.replicate n WU)++[WU],a2,D);rw[el];refine hnx _ ⟨n+1,W2,rfl,?_,?_⟩ ?_
  . rw[AbR]; exact H2
  . rw[AbR]; omega
  . simp only[bL,At2]; omega
theorem AxH (H:qU c s ad W rm o ws bs) {Q:Int->Prop} (hQ:∀ n,Q n):K7 o bs Q:=by unfold K7;refine CQ (λt:List (qT×Option Nat)×Int=>∃ d,o.boxes.Perm (d++t.1)) (λt=>t.1.length) ⟨[],List.Perm.refl _⟩ ?_;rintro⟨_,_⟩ next ⟨d,J⟩ hnx;simp only at J;refine WI (λ_=>hQ _) (λp r hp=>?_);have U:=hp.length_eq;simp only[uP] at U;have h:BG p.1 o.boxes=some p.2:=(KI H.bx.ks).2 (J.mem_iff.2 (List.mem_append.2 (.inr (hp.mem_iff.2 (by simp)))));have⟨a,b,q,_,_,h3,Z⟩:=H.bx.key _ _ h;have V:o.boxes.Perm ((d++[p])++r):=J.trans (by rw[lL]; exact(hp.append_left d));unfold QW;rw[Z];rw[h3,Z] at h;have⟨x,D,O⟩:=H.bx.get a b q h;exact Q3 ⟨x,D,AuK O (hnx _ ⟨d++[p],V⟩ (by simp only; omega))⟩
theorem AsU (h:c.Ok) (a2:1<=rm∧rm<=64) {t:KG} (V:SuP c rm t) {l:List ET} (Z:∀ m∈l,MvP c m) (a5:l.length<=1000000) {Q0:Int×Int×A4×A8->Prop} {J:Int×Int×A4×A8×A6->Prop}
  (hQ:∀ ad W o ws bs,qU c ((AG.at0 c rm).acts c l) ad W rm o ws bs->J (0,0,ws,bs,o)):NT [] [] t l 0 Q0 J:=by
 unfold NT;refine AlS h V Z (by omega) (by omega) (AH rfl (AvW h V λad W ws o H=>AH rfl ?_));refine AsJ (F:=SA) (v0:=gh0.val c) (K:=λg w b=>B4 (λ(s:A6×Int×Int×A4×A8) a4=>match s with | (s461,s468,s469,s470,s471)=>A7 (decide (s469<0)) (CM s461 s470 λD=>A7 D (J (s468,0,s470,s471,s461)) (D1 s461 s470 s471 λd=>a4 (d.2.1,AJ (s468+1),AJ (s469+1),d.2.2.1,d.2.2.2))) (J (s468,0,s470,s471,s461))) (g,0,0,w,b)) h Z (by omega) (AyW h a2) (AdK h rm) (H []) λ_ o' U O H'=>?_;refine CQ (λt=>t=(o',(0:Int),(0:Int),U,O)) (λ_=>0) rfl ?_;rintro _ next rfl _;dsimp only;exact A2 (λ_=>by omega) λ_=>hQ _ _ _ _ _ H'
theorem AyY (h:c.Ok) (D:1<=rm∧rm<=64) {t:KG} (V:SuP c rm t) {l:List ET} (O:∀ m∈l,MvP c m) (d:l.length<=1000000) (J:((AG.at0 c rm).acts c l).g.fin c=true) {Q:Z4×Int->Prop}
  (U:∀ n,Q (⟨⟨c.e,c.m,CU 0 c.n (c.G c.m)⟩,n,0⟩,0)):mK t l 0 Q:=by
 unfold mK;refine AsU h D V O d λ_ _ _ _ _ H=>AH rfl ?_;have F:=AyX h H J;exact AnY h F (AxH H λn=>AgU h F (AH rfl (U n)))
theorem Av0 {a:MJ} {N:Nat} (Z:1<=N∧N<=25) {Q:List ET->Prop} (J:∀ l:List ET,l.length<=120->(∀ m∈l,(1<=m.Kind∧m.Kind<=5)∧(0<=m.A∧m.A<(N:Int))∧(0<=m.B∧m.B<(N:Int))∧0<=m.K∧m.K<=63)->Q l) (D:a.L.length<=maxLen):K1 a N Q:=by unfold K1;refine CQ (λt:List ET×Int=>∃ k:Nat,t.2=k∧k<=120∧t.1.length=k∧∀ m∈t.1,(1<=m.Kind∧m.Kind<=5)∧(0<=m.A∧m.A<(N:Int))∧(0<=m.B∧m.B<(N:Int))∧0<=m.K∧m.K<=63) (λt=>120 - t.1.length) ⟨0,rfl,by omega,rfl,λm O=>by simp at O⟩ ?_;rintro⟨l,_⟩ next ⟨k,e,_,U,d⟩ hnx;simp only at e U d ⊢;subst e;refine A2 (λ_=>A2 (λ_=>B8 (by omega) ?_) λ_=>J l (by omega) d) λ_=>J l (by omega) d;refine MT (λh=>by omega) λ_ V _ _=>MT (λh=>by omega) λ_ _ _ _=>MT (λh=>by omega) λ_ _ _ _=>MT (λh=>by omega) λ_ _ _ _=>AO (by simp; omega) ?_;rw[AK (x:=V+1) (by omega) (by omega)];refine hnx _ ⟨k+1,by rw[AK (by omega) (by omega)]; omega,by omega,by simp; omega,λm O=>?_⟩ (by simp only[bL,Ae7]; omega);grind
theorem AdM (a0:JV) (a1:MJ) (h0:mL a0) (h1:cR a1):XA a0 a1 (λr=>r=true):=by
 have⟨k0,kR,kC,c0,_⟩:=h0;have bR:=bounds_u8 kR; have bC:=bounds_u8 kC; have c2:=bounds_u8 c0;have⟨J,a6,r1,_⟩:=ms (a:=a0.R) (m:=4) (by omega) (by omega);have⟨D,a4,c1,_⟩:=ms (a:=a0.C) (m:=4) (by omega) (by omega);have⟨M1,a5,_,_⟩:=ms (a:=a0.Room) (m:=5) (by omega) (by omega);unfold XA SR;refine AuI k0 λp g d hp a9 _ hl hg _=>?_;have⟨m,e,_,R⟩:=AxF hp a9 hl hg (by omega:0<=d∧d<=8192);obtain⟨n,hn⟩:∃ n:Nat,p.N=n:=⟨p.N.toNat,by omega⟩;rw[a6,a4,a5];refine CA (λU=>U.length<=8) (λU _=>?_) λk hk=>A2 (λhx=>⟨by omega,by omega,by omega,hk _ ?_⟩) λhx=>hk _ (by omega);rotate_left
 . simp; omega
 dsimp only;have h:(⟨p,g,EP (KC p g),d,m,e,n,U,J,D⟩:GC).Ok:=⟨R.run,hn,by show n<=1000; omega,by show d<=39; omega,⟨r1,by show J<=5; omega⟩,⟨c1,by show D<=5; omega⟩,by show U.length<=1000; omega⟩;have Z:SuP ⟨p,g,EP (KC p g),d,m,e,n,U,J,D⟩ M1 ⟨p,g,J,D,M1,d,U⟩:=⟨rfl,rfl,rfl,rfl,rfl,rfl,rfl,by omega⟩
 have a8:1<=J*D∧J*D<=25:=by have h1:J*D<=5*5:=AhK (by omega) (by omega);have h2:0<J*D:=Nat.mul_pos (by omega) (by omega);omega
 have a7:AJ ((J:Int)*(D:Int))=((J*D:Nat):Int):=by
   have e1:(J:Int)*(D:Int)=((J*D:Nat):Int):=by rw[AeD]
   rw[e1,AK (by omega) (by omega)]
 rw[a7];refine Av0 a8 (λl _ b0=>?_) h1.1.2;have a2:∀ V∈l,MvP ⟨p,g,EP (KC p g),d,m,e,n,U,J,D⟩ V:=λV b1=>by have⟨q1,q2,q3,q4⟩:=b0 V b1; exact⟨q1,q2,q3,q4⟩
 refine AsT h Z.rm1 Z a2 (by omega) λk hk hf=>AyY h Z.rm1 Z (AvX h a2 k) (by simp; omega) hf λ_=>?_;unfold jS;refine zL R ?_;have d0:=R.run.en.ne;have O:=h.seq (k:=m) (Z0 _);simp only at O
 have hE:1<=e∧e<=3:=by rcases uI R.run.en.ne R.run.en.at_ with⟨_,rfl⟩ | ⟨_,_,rfl⟩ | ⟨_,_,_,rfl⟩ <;> omega
 refine AV rfl (AV rfl (AV rfl (AV (decide_eq_true hE.1) (AV (decide_eq_true hE.2) (zI (AuY h _) ?_)))));show decide ((⟨e,(m:Int),CU 0 n (GC.G ⟨p,g,EP (KC p g),d,m,e,n,U,J,D⟩ m)⟩:Result)=ArS p (EP (KC p g)) m e)=true;unfold ArS;rw[O,decide_eq_true rfl]
end Go.Proofs.YtcecodhleocefaaGreat
