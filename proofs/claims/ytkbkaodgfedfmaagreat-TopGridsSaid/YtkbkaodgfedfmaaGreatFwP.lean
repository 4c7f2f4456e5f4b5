/- Plain lemmas about pure functions in continuation form. -/
import Derived.Test.YtkbkaodgfedfmaaGreatFwN
import Derived.OpenShut
namespace Go.Fw
open Go Go.RowKit
def fE (k:IntKind) (x:Int):Prop:=(Lit.int k x).wf=true
theorem DC {σ:Type} {d:σ->(σ->Prop)->Prop} (D:σ->Prop) (μ:σ->Nat) {s0:σ} (V:D s0) (h:∀ s next,D s->(∀ J,D J->μ J<μ s->next J)->d s next):AW d s0:=by
 have H:∀ k s,D s->μ s<k->PN d k s:=by
  intro k
  induction k with
  | zero=>intro s _ hk; omega
  | succ k U=>intro s hi hk; exact h s _ hi λJ K O=>U J K (by omega)
 exact⟨μ s0+1,H _ _ V (by omega)⟩
theorem BP {σ:Type} {m:(σ->Prop)->Prop} {k:σ->Prop} (R:σ->Prop) (hk:∀ t,R t->k t) (h:∀ d:σ->Prop,(∀ t,R t->d t)->m d):DB m k:=h k hk
variable {α β κ:Type}
theorem AU {b:Bool} {A B:Prop} (D:b=true) (h:A):A8 b A B:=⟨λ_=>h,λd=>by rw[D] at d; cases d⟩
theorem AC {b:Bool} {A B:Prop} (d:b=false) (h:B):A8 b A B:=⟨λD=>absurd (D.symm.trans d) (by simp),λ_=>h⟩
theorem A1 {p:Prop} [Decidable p] {A B:Prop} (D:p->A) (d:¬p->B):A8 (decide p) A B:=⟨λh=>D (of_decide_eq_true h),λh=>d (of_decide_eq_false h)⟩
theorem AV [BEq β] [LawfulBEq β] {x y:β} {A B:Prop} (D:x=y->A) (d:x≠y->B):A8 (x==y) A B:=⟨λh=>D (by simpa using h),λh=>d (by simpa using h)⟩
theorem BI [BEq β] [LawfulBEq β] {x y:β} {A B:Prop} (D:x≠y->A) (d:x=y->B):A8 (x != y) A B:=⟨λh=>D (by simpa using h),λh=>d (by simpa using h)⟩
theorem BK {b:Bool} {A B:Prop} (D:b=false->A) (d:b=true->B):A8 (!b) A B:=⟨λh=>D (by simpa using h),λh=>d (by simpa using h)⟩
theorem AK {xs:List α} {i:Int} {K:α->Prop} {x:α} (d:0<=i) (h:xs[i.toNat]? = some x) (hk:K x):AZ xs i K:=⟨d,x,h,hk⟩
theorem B3 {xs:List α} {i:Nat} {K:α->Prop} (h:i<xs.length) (hk:K xs[i]):AZ xs (i:Int) K:=⟨by omega,xs[i],by simp[h],hk⟩
theorem AH {B:Nat} {xs ys:List α} {K:List α->Prop} (h:(xs.length+ys.length)*B<=140737488355328) (hk:K (xs++ys)):DA B xs ys K:=⟨h,hk⟩
theorem M3 {xs:List α} {A B:Prop} (h:xs=[]->A) (d:B):Ab6 xs A B:=⟨h,d⟩
theorem AjI {xs:List α} {lo hi:Nat} {K:List α->Prop} (h1:lo<=hi) (h2:hi<=xs.length) (hk:K ((xs.take hi).drop lo)):slP xs (lo:Int) (hi:Int) K:=⟨by omega,by omega,by omega,hk⟩
theorem AB {x:Int} (h1 : -9223372036854775808<=x) (h2:x<=9223372036854775807):A6 x=x:=by show IntKind.wrap .i64 x=x;rw[IntKind.wrap_i64];omega
theorem U1 {x:Int} (h1:0<=x) (h2:x<=18446744073709551615):IntKind.wrap .u64 x=x:=by simp only[IntKind.wrap,IntKind.bits,IntKind.signed];simp;omega
variable [DecidableEq κ]
def F0 (l:List (κ×α)):Prop:=(l.map (·.1)).Nodup
theorem CO (k:κ) (v:α):∀ l:List (κ×α),B9 k (DK k v l)=some v
 | []=>by simp[DK,B9]
 | p :: r=>by
  unfold DK;split
  . simp[B9]
  . rename_i h; simp[B9,h,CO k v r]
theorem DJ {k d:κ} (h:d≠k) (v:α):∀ l:List (κ×α),B9 d (DK k v l)=B9 d l
 | []=>by simp[DK,B9,h]
 | p :: r=>by
  unfold DK;split
  . rename_i D; subst D; simp[B9,h]
  . simp only[B9]; split
    . rfl
    . exact DJ h v r
theorem ZX {k:κ}:∀ {l:List (κ×α)},k ∉ l.map (·.1)->B9 k l=none
 | [],_=>rfl
 | p :: r,h=>by simp only[List.map_cons,List.mem_cons,not_or] at h;simp[B9,h.1,ZX h.2]
theorem xT {k:κ} {v:α}:∀ {l:List (κ×α)},B9 k l=some v->k∈l.map (·.1)
 | p :: r,h=>by
  simp only[B9] at h;split at h
  . rename_i hk; simp[hk]
  . simp[xT h]
theorem jF (k:κ) (v:α):∀ l:List (κ×α),(DK k v l).map (·.1)=if k∈l.map (·.1) then l.map (·.1) else l.map (·.1)++[k]
 | []=>by simp[DK]
 | p :: r=>by
  unfold DK;split
  . rename_i h; simp[h]
  . rename_i h;simp only[List.map_cons,jF k v r,List.mem_cons,h,false_or];split <;> simp
theorem GQ {l:List (κ×α)} (h:F0 l) (k:κ) (v:α):F0 (DK k v l):=by
 unfold F0 at *;rw[jF];split
 . exact h
 . rename_i hk;rw[List.nodup_append];exact⟨h,by simp,λa D b d=>by simp at d; subst d; exact λe=>hk (e▸D)⟩
theorem LW {k d:κ} (h:d≠k):∀ l:List (κ×α),B9 d (F5 k l)=B9 d l
 | []=>rfl
 | p :: r=>by
  unfold F5;split
  . rename_i D; subst D; simp[B9,h]
  . simp only[B9]; split
    . rfl
    . exact LW h r
theorem fF (k:κ):∀ l:List (κ×α),(F5 k l).Sublist l
 | []=>.slnil
 | p :: r=>by
  unfold F5;split
  . exact List.sublist_cons_self _ _
  . exact(fF k r).cons_cons p
theorem kZ {l:List (κ×α)} (h:F0 l) (k:κ):F0 (F5 k l):=List.Sublist.nodup ((fF k l).map _) h
theorem YD {k:κ}:∀ {l:List (κ×α)},F0 l->B9 k (F5 k l)=none
 | [],_=>rfl
 | p :: r,h=>by
  unfold F0 at h;simp only[List.map_cons,List.nodup_cons] at h;unfold F5;split
  . rename_i hk; subst hk; exact ZX h.1
  . rename_i hk; simp[B9,hk,YD (l:=r) h.2]
theorem HH {l:List (κ×α)} {k:κ} {z:α} {C:α->Prop} (h:C ((B9 k l).getD z)):lkP l k z C:=h
end Go.Fw
