/- Plain lemmas about pure functions in continuation form, numbers that wrap, and maps as lists. No program, no memory. -/
import Derived.Test.YtbohadngdkjljaaGreatFwN
import Derived.OpenShut
namespace Go.Fw
open Go Go.RowKit
def inR (k:IntKind) (x:Int):Prop:=(Lit.int k x).wf=true
theorem EB {σ:Type} {body:σ→(σ→Prop)→Prop} (Inv:σ→Prop) (μ:σ→Nat) {s0:σ} (h0:Inv s0) (h:∀ s next,Inv s→(∀ s',Inv s'→μ s'<μ s→next s')→body s next):BD body s0:=by
  have H:∀ k s,Inv s→μ s<k→NX body k s:=by
    intro k
    induction k with
    | zero=>intro s _ hk; omega
    | succ k ih=>intro s hi hk; exact h s _ hi fun s' hi' hlt=>ih s' hi' (by omega)
  exact ⟨μ s0+1,H _ _ h0 (by omega)⟩
theorem FH {σ:Type} {m:(σ→Prop)→Prop} {k:σ→Prop} (R:σ→Prop) (hk:∀ t,R t→k t) (hm:∀ k':σ→Prop,(∀ t,R t→k' t)→m k'):FW m k:=hm k hk
variable {α β κ:Type}
theorem BF {b:Bool} {A B:Prop} (hb:b=true) (h:A):AQ b A B:=⟨fun _=>h,fun h'=>by rw [hb] at h'; cases h'⟩
theorem AN {b:Bool} {A B:Prop} (hb:b=false) (h:B):AQ b A B:=⟨fun h'=>absurd (h'.symm.trans hb) (by simp),fun _=>h⟩
theorem AC {p:Prop} [Decidable p] {A B:Prop} (h1:p→A) (h2:¬p→B):AQ (decide p) A B:=⟨fun h=>h1 (of_decide_eq_true h),fun h=>h2 (of_decide_eq_false h)⟩
theorem CU [BEq β] [LawfulBEq β] {x y:β} {A B:Prop} (h1:x=y→A) (h2:x≠y→B):AQ (x==y) A B:=⟨fun h=>h1 (by simpa using h),fun h=>h2 (by simpa using h)⟩
theorem FR [BEq β] [LawfulBEq β] {x y:β} {A B:Prop} (h1:x≠y→A) (h2:x=y→B):AQ (x != y) A B:=⟨fun h=>h1 (by simpa using h),fun h=>h2 (by simpa using h)⟩
theorem CO {b:Bool} {A B:Prop} (h1:b=false→A) (h2:b=true→B):AQ (!b) A B:=⟨fun h=>h1 (by simpa using h),fun h=>h2 (by simpa using h)⟩
theorem AO {xs:List α} {i:Int} {K:α→Prop} {x:α} (h0:0≤i) (h:xs[i.toNat]? = some x) (hk:K x):BA xs i K:=⟨h0,x,h,hk⟩
theorem AV {xs:List α} {i:Nat} {K:α→Prop} (h:i<xs.length) (hk:K xs[i]):BA xs (i:Int) K:=⟨by omega,xs[i],by simp [h],hk⟩
theorem BG {B:Nat} {xs ys:List α} {K:List α→Prop} (h:(xs.length+ys.length)*B≤140737488355328) (hk:K (xs++ys)):HN B xs ys K:=⟨h,hk⟩
theorem LW {xs:List α} {A B:Prop} (h1:xs=[]→A) (h2:B):Ae6 xs A B:=⟨h1,h2⟩
theorem AX {x:Int} (h1 : -9223372036854775808≤x) (h2:x≤9223372036854775807):AH x=x:=by
  show IntKind.wrap .i64 x=x
  rw [IntKind.wrap_i64]
  omega
theorem qX {x:Int} (h1:0≤x) (h2:x≤18446744073709551615):IntKind.wrap .u64 x=x:=by
  simp only [IntKind.wrap,IntKind.bits,IntKind.signed]
  simp
  omega
variable [DecidableEq κ]
def EM (l:List (κ×α)):Prop:=(l.map (·.1)).Nodup
theorem BN (k:κ) (v:α):∀ l:List (κ×α),BM k (EE k v l)=some v
  | []=>by simp [EE,BM]
  | p :: r=>by
    unfold EE
    split
    · simp [BM]
    · rename_i h; simp [BM,h,BN k v r]
theorem BE {k k':κ} (h:k'≠k) (v:α):∀ l:List (κ×α),BM k' (EE k v l)=BM k' l
  | []=>by simp [EE,BM,h]
  | p :: r=>by
    unfold EE
    split
    · rename_i h'; subst h'; simp [BM,h]
    · simp only [BM]; split
      · rfl
      · exact BE h v r
theorem dL {k:κ}:∀ {l:List (κ×α)},k ∉ l.map (·.1)→BM k l=none
  | [],_=>rfl
  | p :: r,h=>by
    simp only [List.map_cons,List.mem_cons,not_or] at h
    simp [BM,h.1,dL h.2]
theorem mget_mem {k:κ} {v:α}:∀ {l:List (κ×α)},BM k l=some v→k∈l.map (·.1)
  | p :: r,h=>by
    simp only [BM] at h
    split at h
    · rename_i hk; simp [hk]
    · simp [mget_mem h]
theorem dM (k:κ) (v:α):∀ l:List (κ×α),(EE k v l).map (·.1)=if k∈l.map (·.1) then l.map (·.1) else l.map (·.1)++[k]
  | []=>by simp [EE]
  | p :: r=>by
    unfold EE
    split
    · rename_i h; simp [h]
    · rename_i h
      simp only [List.map_cons,dM k v r,List.mem_cons,h,false_or]
      split <;> simp
theorem GS {l:List (κ×α)} (h:EM l) (k:κ) (v:α):EM (EE k v l):=by
  unfold EM at *
  rw [dM]
  split
  · exact h
  · rename_i hk
    rw [List.nodup_append]
    exact ⟨h,by simp,fun a ha b hb=>by simp at hb; subst hb; exact fun e=>hk (e▸ha)⟩
theorem ER {k k':κ} (h:k'≠k):∀ l:List (κ×α),BM k' (CG k l)=BM k' l
  | []=>rfl
  | p :: r=>by
    unfold CG
    split
    · rename_i h'; subst h'; simp [BM,h]
    · simp only [BM]; split
      · rfl
      · exact ER h r
theorem aX (k:κ):∀ l:List (κ×α),(CG k l).Sublist l
  | []=>.slnil
  | p :: r=>by
    unfold CG
    split
    · exact List.sublist_cons_self _ _
    · exact (aX k r).cons_cons p
theorem eZ {l:List (κ×α)} (h:EM l) (k:κ):EM (CG k l):=List.Sublist.nodup ((aX k l).map _) h
theorem X9 {k:κ}:∀ {l:List (κ×α)},EM l→BM k (CG k l)=none
  | [],_=>rfl
  | p :: r,h=>by
    unfold EM at h
    simp only [List.map_cons,List.nodup_cons] at h
    unfold CG
    split
    · rename_i hk; subst hk; exact dL h.1
    · rename_i hk; simp [BM,hk,X9 (l:=r) h.2]
theorem KK {l:List (κ×α)} {k:κ} {z:α} {C:α→Prop} (h:C ((BM k l).getD z)):zX l k z C:=h
end Go.Fw
