/- Plain lemmas about pure functions in continuation form, numbers that wrap, and maps as lists. No program, no memory. -/
import Derived.Test.YtbohadngdkjljaaGreatFwN
import Derived.OpenShut
namespace Go.Fw
open Go Go.RowKit
def inR (k:IntKind) (x:Int):Prop:=(Lit.int k x).wf=true
theorem EB {σ:Type} {body:σ→(σ→Prop)→Prop} (Inv:σ→Prop) (μ:σ→Nat) {s0:σ} (h0:Inv s0) (h:∀ s next,Inv s→(∀ s',Inv s'→μ s'<μ s→next s')→body s next):BE body s0:=by
  have H:∀ k s,Inv s→μ s<k→NY body k s:=by
    intro k
    induction k with
    | zero=>intro s _ hk; omega
    | succ k ih=>intro s hi hk; exact h s _ hi fun s' hi' hlt=>ih s' hi' (by omega)
  exact ⟨μ s0+1,H _ _ h0 (by omega)⟩
theorem FH {σ:Type} {m:(σ→Prop)→Prop} {k:σ→Prop} (R:σ→Prop) (hk:∀ t,R t→k t) (hm:∀ k':σ→Prop,(∀ t,R t→k' t)→m k'):FY m k:=hm k hk
variable {α β κ:Type}
theorem BC {b:Bool} {A B:Prop} (hb:b=true) (h:A):AQ b A B:=⟨fun _=>h,fun h'=>by rw [hb] at h'; cases h'⟩
theorem AN {b:Bool} {A B:Prop} (hb:b=false) (h:B):AQ b A B:=⟨fun h'=>absurd (h'.symm.trans hb) (by simp),fun _=>h⟩
theorem AC {p:Prop} [Decidable p] {A B:Prop} (h1:p→A) (h2:¬p→B):AQ (decide p) A B:=⟨fun h=>h1 (of_decide_eq_true h),fun h=>h2 (of_decide_eq_false h)⟩
theorem DA [BEq β] [LawfulBEq β] {x y:β} {A B:Prop} (h1:x=y→A) (h2:x≠y→B):AQ (x==y) A B:=⟨fun h=>h1 (by simpa using h),fun h=>h2 (by simpa using h)⟩
theorem FT [BEq β] [LawfulBEq β] {x y:β} {A B:Prop} (h1:x≠y→A) (h2:x=y→B):AQ (x != y) A B:=⟨fun h=>h1 (by simpa using h),fun h=>h2 (by simpa using h)⟩
theorem CO {b:Bool} {A B:Prop} (h1:b=false→A) (h2:b=true→B):AQ (!b) A B:=⟨fun h=>h1 (by simpa using h),fun h=>h2 (by simpa using h)⟩
theorem AO {xs:List α} {i:Int} {K:α→Prop} {x:α} (h0:0≤i) (h:xs[i.toNat]? = some x) (hk:K x):BF xs i K:=⟨h0,x,h,hk⟩
theorem BK {xs:List α} {i:Nat} {K:α→Prop} (h:i<xs.length) (hk:K xs[i]):BF xs (i:Int) K:=⟨by omega,xs[i],by simp [h],hk⟩
theorem BB {B:Nat} {xs ys:List α} {K:List α→Prop} (h:(xs.length+ys.length)*B≤140737488355328) (hk:K (xs++ys)):HI B xs ys K:=⟨h,hk⟩
theorem LW {xs:List α} {A B:Prop} (h1:xs=[]→A) (h2:B):Ae1 xs A B:=⟨h1,h2⟩
theorem AY {x:Int} (h1 : -9223372036854775808≤x) (h2:x≤9223372036854775807):AH x=x:=by
  show IntKind.wrap .i64 x=x
  rw [IntKind.wrap_i64]
  omega
theorem qW {x:Int} (h1:0≤x) (h2:x≤18446744073709551615):IntKind.wrap .u64 x=x:=by
  simp only [IntKind.wrap,IntKind.bits,IntKind.signed]
  simp
  omega
variable [DecidableEq κ]
def EL (l:List (κ×α)):Prop:=(l.map (·.1)).Nodup
theorem BN (k:κ) (v:α):∀ l:List (κ×α),BM k (ED k v l)=some v
  | []=>by simp [ED,BM]
  | p :: r=>by
    unfold ED
    split
    · simp [BM]
    · rename_i h; simp [BM,h,BN k v r]
theorem BD {k k':κ} (h:k'≠k) (v:α):∀ l:List (κ×α),BM k' (ED k v l)=BM k' l
  | []=>by simp [ED,BM,h]
  | p :: r=>by
    unfold ED
    split
    · rename_i h'; subst h'; simp [BM,h]
    · simp only [BM]; split
      · rfl
      · exact BD h v r
theorem dO {k:κ}:∀ {l:List (κ×α)},k ∉ l.map (·.1)→BM k l=none
  | [],_=>rfl
  | p :: r,h=>by
    simp only [List.map_cons,List.mem_cons,not_or] at h
    simp [BM,h.1,dO h.2]
theorem mget_mem {k:κ} {v:α}:∀ {l:List (κ×α)},BM k l=some v→k∈l.map (·.1)
  | p :: r,h=>by
    simp only [BM] at h
    split at h
    · rename_i hk; simp [hk]
    · simp [mget_mem h]
theorem dP (k:κ) (v:α):∀ l:List (κ×α),(ED k v l).map (·.1)=if k∈l.map (·.1) then l.map (·.1) else l.map (·.1)++[k]
  | []=>by simp [ED]
  | p :: r=>by
    unfold ED
    split
    · rename_i h; simp [h]
    · rename_i h
      simp only [List.map_cons,dP k v r,List.mem_cons,h,false_or]
      split <;> simp
theorem GS {l:List (κ×α)} (h:EL l) (k:κ) (v:α):EL (ED k v l):=by
  unfold EL at *
  rw [dP]
  split
  · exact h
  · rename_i hk
    rw [List.nodup_append]
    exact ⟨h,by simp,fun a ha b hb=>by simp at hb; subst hb; exact fun e=>hk (e▸ha)⟩
theorem EQ {k k':κ} (h:k'≠k):∀ l:List (κ×α),BM k' (CG k l)=BM k' l
  | []=>rfl
  | p :: r=>by
    unfold CG
    split
    · rename_i h'; subst h'; simp [BM,h]
    · simp only [BM]; split
      · rfl
      · exact EQ h r
theorem bB (k:κ):∀ l:List (κ×α),(CG k l).Sublist l
  | []=>.slnil
  | p :: r=>by
    unfold CG
    split
    · exact List.sublist_cons_self _ _
    · exact (bB k r).cons_cons p
theorem fA {l:List (κ×α)} (h:EL l) (k:κ):EL (CG k l):=List.Sublist.nodup ((bB k l).map _) h
theorem X9 {k:κ}:∀ {l:List (κ×α)},EL l→BM k (CG k l)=none
  | [],_=>rfl
  | p :: r,h=>by
    unfold EL at h
    simp only [List.map_cons,List.nodup_cons] at h
    unfold CG
    split
    · rename_i hk; subst hk; exact dO h.1
    · rename_i hk; simp [BM,hk,X9 (l:=r) h.2]
theorem KK {l:List (κ×α)} {k:κ} {z:α} {C:α→Prop} (h:C ((BM k l).getD z)):zL l k z C:=h
end Go.Fw
