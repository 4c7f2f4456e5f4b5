/- Plain lemmas about pure functions in continuation form, numbers that wrap, and maps as lists. No program, no memory. -/
import Derived.Test.YtaefnmlbnkmahaaGreatFwN
import Derived.OpenShut
namespace Go.Fw
open Go Go.RowKit
def inR (k:IntKind) (x:Int):Prop:=(Lit.int k x).wf=true
theorem loop_intro {σ:Type} {body:σ→(σ→Prop)→Prop} (Inv:σ→Prop) (μ:σ→Nat) {s0:σ} (h0:Inv s0) (h:∀ s next,Inv s→(∀ s',Inv s'→μ s'<μ s→next s')→body s next):loopP body s0:=by
  have H:∀ k s,Inv s→μ s<k→iterP body k s:=by
    intro k
    induction k with
    | zero=>intro s _ hk; omega
    | succ k ih=>intro s hi hk; exact h s _ hi fun s' hi' hlt=>ih s' hi' (by omega)
  exact ⟨μ s0+1,H _ _ h0 (by omega)⟩
theorem join_intro {σ:Type} {m:(σ→Prop)→Prop} {k:σ→Prop} (R:σ→Prop) (hk:∀ t,R t→k t) (hm:∀ k':σ→Prop,(∀ t,R t→k' t)→m k'):joinP m k:=hm k hk
variable {α β κ:Type}
theorem ifP_iff {b:Bool} {A B:Prop}:ifP b A B↔if b=true then A else B:=by cases b <;> simp [ifP]
theorem ifP_pos {b:Bool} {A B:Prop} (hb:b=true) (h:A):ifP b A B:=⟨fun _=>h,fun h'=>by rw [hb] at h'; cases h'⟩
theorem ifP_neg {b:Bool} {A B:Prop} (hb:b=false) (h:B):ifP b A B:=⟨fun h'=>absurd (h'.symm.trans hb) (by simp),fun _=>h⟩
theorem ifP_dec {p:Prop} [Decidable p] {A B:Prop} (h1:p→A) (h2:¬p→B):ifP (decide p) A B:=⟨fun h=>h1 (of_decide_eq_true h),fun h=>h2 (of_decide_eq_false h)⟩
theorem ifP_eq [BEq β] [LawfulBEq β] {x y:β} {A B:Prop} (h1:x=y→A) (h2:x≠y→B):ifP (x==y) A B:=⟨fun h=>h1 (by simpa using h),fun h=>h2 (by simpa using h)⟩
theorem ifP_ne [BEq β] [LawfulBEq β] {x y:β} {A B:Prop} (h1:x≠y→A) (h2:x=y→B):ifP (x != y) A B:=⟨fun h=>h1 (by simpa using h),fun h=>h2 (by simpa using h)⟩
theorem ifP_not {b:Bool} {A B:Prop} (h1:b=false→A) (h2:b=true→B):ifP (!b) A B:=⟨fun h=>h1 (by simpa using h),fun h=>h2 (by simpa using h)⟩
theorem idxP_intro {xs:List α} {i:Int} {K:α→Prop} {x:α} (h0:0≤i) (h:xs[i.toNat]? = some x) (hk:K x):idxP xs i K:=⟨h0,x,h,hk⟩
theorem idxP_nat {xs:List α} {i:Nat} {K:α→Prop} (h:i<xs.length) (hk:K xs[i]):idxP xs (i:Int) K:=⟨by omega,xs[i],by simp [h],hk⟩
theorem appP_intro {B:Nat} {xs ys:List α} {K:List α→Prop} (h:(xs.length+ys.length)*B≤140737488355328) (hk:K (xs++ys)):appP B xs ys K:=⟨h,hk⟩
theorem nilP_intro {xs:List α} {A B:Prop} (h1:xs=[]→A) (h2:B):nilP xs A B:=⟨h1,h2⟩
theorem w64_id {x:Int} (h1 : -9223372036854775808≤x) (h2:x≤9223372036854775807):w64 x=x:=by
  show IntKind.wrap .i64 x=x
  rw [IntKind.wrap_i64]
  omega
theorem wrap_u64_id {x:Int} (h1:0≤x) (h2:x≤18446744073709551615):IntKind.wrap .u64 x=x:=by
  simp only [IntKind.wrap,IntKind.bits,IntKind.signed]
  simp
  omega
variable [DecidableEq κ]
def keysOk (l:List (κ×α)):Prop:=(l.map (·.1)).Nodup
theorem mget_mput_same (k:κ) (v:α):∀ l:List (κ×α),mget k (mput k v l)=some v
  | []=>by simp [mput,mget]
  | p :: r=>by
    unfold mput
    split
    · simp [mget]
    · rename_i h; simp [mget,h,mget_mput_same k v r]
theorem mget_mput_other {k k':κ} (h:k'≠k) (v:α):∀ l:List (κ×α),mget k' (mput k v l)=mget k' l
  | []=>by simp [mput,mget,h]
  | p :: r=>by
    unfold mput
    split
    · rename_i h'; subst h'; simp [mget,h]
    · simp only [mget]; split
      · rfl
      · exact mget_mput_other h v r
theorem mget_none {k:κ}:∀ {l:List (κ×α)},k ∉ l.map (·.1)→mget k l=none
  | [],_=>rfl
  | p :: r,h=>by
    simp only [List.map_cons,List.mem_cons,not_or] at h
    simp [mget,h.1,mget_none h.2]
theorem mput_keys (k:κ) (v:α):∀ l:List (κ×α),(mput k v l).map (·.1)=if k∈l.map (·.1) then l.map (·.1) else l.map (·.1)++[k]
  | []=>by simp [mput]
  | p :: r=>by
    unfold mput
    split
    · rename_i h; simp [h]
    · rename_i h
      simp only [List.map_cons,mput_keys k v r,List.mem_cons,h,false_or]
      split <;> simp
theorem keysOk_mput {l:List (κ×α)} (h:keysOk l) (k:κ) (v:α):keysOk (mput k v l):=by
  unfold keysOk at *
  rw [mput_keys]
  split
  · exact h
  · rename_i hk
    rw [List.nodup_append]
    exact ⟨h,by simp,fun a ha b hb=>by simp at hb; subst hb; exact fun e=>hk (e▸ha)⟩
end Go.Fw
