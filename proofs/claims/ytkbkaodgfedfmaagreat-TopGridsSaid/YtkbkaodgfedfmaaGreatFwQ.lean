/- Plain lemmas. -/
import Derived.Test.YtkbkaodgfedfmaaGreatFwP
namespace Go.Fw
open Go Go.RowKit
theorem AD {τ σ:Type} (mk:σ->Int->τ) {d:τ->(τ->Prop)->Prop} (D n:Nat) {s0:σ} (hn:n<=1000000000000) (h:Nat->σ->Prop) (h0:D<=n) (V:h D s0)
  (O:∀ (i:Nat) (s:σ) (next:τ->Prop),D<=i->i<n->h i s->(∀ J,h (i+1) J->next (mk J (A6 ((i:Int)+1))))->d (mk s i) next)
  (U:∀ (s:σ) (next:τ->Prop),h n s->d (mk s n) next):AW d (mk s0 D):=by
 have H:∀ (k i:Nat) (s:σ),n - i<k->D<=i->i<=n->h i s->PN d k (mk s i):=by
  intro k
  induction k with
  | zero=>intro i s hk; omega
  | succ k W=>
   intro i s hk Z h2 hi;by_cases e:i=n
   . subst e; exact U s _ hi
   . refine O i s _ Z (by omega) hi λJ K=>?_;have:=W (i+1) J (by omega) (by omega) (by omega) K;rw[AB (by omega) (by omega)];simpa using this
 exact⟨n - D+1,H _ _ _ (by omega) (by omega) h0 V⟩
theorem CM {d:Int->(Int->Prop)->Prop} (n:Nat) (V:n<=1000000000000) (R:Nat->Prop) (Z:R 0)
  (D:∀ (i:Nat) (next:Int->Prop),i<n->R i->(R (i+1)->next (A6 ((i:Int)+1)))->d i next)
  (J:∀ (next:Int->Prop),R n->d n next):AW d 0:=
 AD (σ:=Unit) (λ_ i=>i) 0 n V (λi _=>R i) (by omega) Z (λi _ next _ W U O=>D i next W U λK=>O () K) (λ_ next h=>J next h) (s0:=())
section
variable {κ α:Type} [DecidableEq κ]
theorem GX {k:κ} {v:α}:∀ {l:List (κ×α)},F0 l->(B9 k l=some v↔(k,v)∈l)
 | [],_=>by simp[B9]
 | p :: r,h=>by
  unfold F0 at h;simp only[List.map_cons,List.nodup_cons] at h;simp only[B9,List.mem_cons];split
  . rename_i hk;subst hk;constructor
    . intro e; left; cases e; rfl
    . rintro(e | e)
      . rw[<-e]
      . exact absurd (List.mem_map_of_mem (f:=(·.1)) e) h.1
  . rename_i hk;rw[GX (l:=r) h.2];constructor
    . exact .inr
    . rintro(e | e)
      . exact absurd (congrArg (·.1) e) hk
      . exact e
omit [DecidableEq κ] in
theorem nS {l:List (κ×α)} (h:F0 l):l.Nodup:=by
 unfold F0 at h
 induction l with
 | nil=>simp
 | cons p r d=>
  simp only[List.map_cons,List.nodup_cons] at h;rw[List.nodup_cons];exact⟨λhp=>h.1 (List.mem_map_of_mem (f:=(·.1)) hp),d h.2⟩
theorem sG {l d:List (κ×α)} (h:F0 l) (D:F0 d) (J:∀ k,B9 k l=B9 k d):l.Perm d:=by refine(List.perm_ext_iff_of_nodup (nS h) (nS D)).2 λp=>?_;rw[<-Prod.eta p,<-GX h,<-GX D,J]
theorem AeT {l d:List (κ×α)} (h:F0 l) (hp:l.Perm d) (k:κ) (v:α):(DK k v l).Perm (DK k v d):=by
 have J:F0 d:=List.Perm.nodup (hp.map Prod.fst) h;refine sG (GQ h k v) (GQ J k v) λD=>?_;by_cases e:D=k
 . subst e; rw[CO,CO]
 . rw[DJ e,DJ e]
   cases hg:B9 D l with
   | none=>cases hg':B9 D d with
    | none=>rfl
    | some x=>rw[GX J] at hg'; rw[(GX h).2 (hp.mem_iff.2 hg')] at hg; cases hg
   | some x=>rw[GX h] at hg; rw[(GX J).2 (hp.mem_iff.1 hg)]
theorem AeU {l d:List (κ×α)} (h:F0 l) (hp:l.Perm d) (k:κ):B9 k l=B9 k d:=by
 have D:F0 d:=List.Perm.nodup (hp.map Prod.fst) h
 cases hg:B9 k l with
 | none=>cases hg':B9 k d with
  | none=>rfl
  | some x=>rw[GX D] at hg'; rw[(GX h).2 (hp.mem_iff.2 hg')] at hg; cases hg
 | some x=>rw[GX h] at hg; rw[(GX D).2 (hp.mem_iff.1 hg)]
theorem yA (k:κ) (v:α) (l:List (κ×α)):(DK k v l).length<=l.length+1:=by
 induction l with
 | nil=>simp[DK]
 | cons p r ih=>unfold DK; split <;> simp; omega
omit [DecidableEq κ] in
theorem SR:∀ (l:List (κ×α)) (i:Nat) (h:i<l.length),(l[i] :: l.eraseIdx i).Perm l
 | _ :: _,0,_=>by simp
 | a :: l,i+1,h=>by have:=SR l i (by simpa using h);simp only[List.getElem_cons_succ,List.eraseIdx_cons_succ];exact(List.Perm.swap _ _ _).trans (this.cons a)
omit [DecidableEq κ] in
theorem YM {d:List (κ×α)} {A:Prop} {B:κ×α->List (κ×α)->Prop} (D:d=[]->A) (h:∀ p r,d.Perm (p :: r)->B p r):xR d A B:=by refine⟨D,λi p hp=>h p _ ?_⟩;obtain⟨hi,rfl⟩:=List.getElem?_eq_some_iff.1 hp;exact(SR d i hi).symm
theorem dD {l:List (κ×α)} {k:κ} {z:α} {C:α->Bool->Prop} (D:∀ v,B9 k l=some v->C v true) (d:B9 k l=none->C z false):AeP l k z C:=by
 unfold AeP
 cases h:B9 k l with
 | none=>exact d h
 | some v=>exact D v h
end
theorem aO {α:Type} {d:α->α->Prop} {l D:List α} (hp:l.Perm D) (h:l.Pairwise d) (U:D.Pairwise d) (J:∀ a b,a∈l->b∈l->d a b->d b a->a=b):l=D:=
 hp.eq_of_pairwise (λa b O K=>J a b O (hp.mem_iff.2 K)) h U
def BD (xs:List Int) (i:Int):Int:=xs.getD i.toNat 0
theorem BE {xs:List Int} {i:Int} {K:Int->Prop} (d:0<=i) (h1:i<xs.length) (hk:K (BD xs i)):AZ xs i K:=
 ⟨d,xs[i.toNat]'(by omega),by simp,by simpa[BD,List.getD_eq_getElem?_getD,show i.toNat<xs.length by omega] using hk⟩
theorem mQ {xs:List Int} {i:Int} (h0:0<=i) (h1:i<xs.length):BD xs i∈xs:=by
 have:i.toNat<xs.length:=by omega
 simp[BD,List.getD_eq_getElem?_getD,this]
end Go.Fw
