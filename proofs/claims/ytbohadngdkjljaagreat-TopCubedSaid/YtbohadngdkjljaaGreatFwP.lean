/- Plain lemmas about pure functions in continuation form, numbers that wrap, and maps as lists. No program, no memory. -/
import Derived.Test.YtbohadngdkjljaaGreatFwN
import Derived.OpenShut
namespace Go.Fw
open Go Go.RowKit
def jA (k:IntKind) (x:Int):Prop:=(Lit.int k x).wf=true
theorem EF {σ:Type} {body:σ→(σ→Prop)→Prop} (Inv:σ→Prop) (μ:σ→Nat) {s0:σ} (h0:Inv s0) (h:∀ s next,Inv s→(∀ s',Inv s'→μ s'<μ s→next s')→body s next):BG body s0:=by
  have H:∀ k s,Inv s→μ s<k→LZ body k s:=by
    intro k
    induction k with
    | zero=>intro s _ hk; omega
    | succ k ih=>intro s hi hk; exact h s _ hi fun s' hi' hlt=>ih s' hi' (by omega)
  exact ⟨μ s0+1,H _ _ h0 (by omega)⟩
theorem FD {σ:Type} {m:(σ→Prop)→Prop} {k:σ→Prop} (R:σ→Prop) (hk:∀ t,R t→k t) (hm:∀ k':σ→Prop,(∀ t,R t→k' t)→m k'):FR m k:=hm k hk
variable {α β κ:Type}
theorem CD {b:Bool} {A B:Prop} (hb:b=true) (h:A):AP b A B:=⟨fun _=>h,fun h'=>by rw [hb] at h'; cases h'⟩
theorem AR {b:Bool} {A B:Prop} (hb:b=false) (h:B):AP b A B:=⟨fun h'=>absurd (h'.symm.trans hb) (by simp),fun _=>h⟩
theorem AB {p:Prop} [Decidable p] {A B:Prop} (h1:p→A) (h2:¬p→B):AP (decide p) A B:=⟨fun h=>h1 (of_decide_eq_true h),fun h=>h2 (of_decide_eq_false h)⟩
theorem CC [BEq β] [LawfulBEq β] {x y:β} {A B:Prop} (h1:x=y→A) (h2:x≠y→B):AP (x==y) A B:=⟨fun h=>h1 (by simpa using h),fun h=>h2 (by simpa using h)⟩
theorem EO [BEq β] [LawfulBEq β] {x y:β} {A B:Prop} (h1:x≠y→A) (h2:x=y→B):AP (x != y) A B:=⟨fun h=>h1 (by simpa using h),fun h=>h2 (by simpa using h)⟩
theorem CP {b:Bool} {A B:Prop} (h1:b=false→A) (h2:b=true→B):AP (!b) A B:=⟨fun h=>h1 (by simpa using h),fun h=>h2 (by simpa using h)⟩
theorem AM {xs:List α} {i:Int} {K:α→Prop} {x:α} (h0:0≤i) (h:xs[i.toNat]? = some x) (hk:K x):AZ xs i K:=⟨h0,x,h,hk⟩
theorem AV {xs:List α} {i:Nat} {K:α→Prop} (h:i<xs.length) (hk:K xs[i]):AZ xs (i:Int) K:=⟨by omega,xs[i],by simp [h],hk⟩
theorem BE {B:Nat} {xs ys:List α} {K:List α→Prop} (h:(xs.length+ys.length)*B≤140737488355328) (hk:K (xs++ys)):GZ B xs ys K:=⟨h,hk⟩
theorem KL {xs:List α} {A B:Prop} (h1:xs=[]→A) (h2:B):zH xs A B:=⟨h1,h2⟩
theorem AW {x:Int} (h1 : -9223372036854775808≤x) (h2:x≤9223372036854775807):AJ x=x:=by
  show IntKind.wrap .i64 x=x
  rw [IntKind.wrap_i64]
  omega
theorem lU {x:Int} (h1:0≤x) (h2:x≤18446744073709551615):IntKind.wrap .u64 x=x:=by
  simp only [IntKind.wrap,IntKind.bits,IntKind.signed]
  simp
  omega
variable [DecidableEq κ]
def EP (l:List (κ×α)):Prop:=(l.map (·.1)).Nodup
theorem BK (k:κ) (v:α):∀ l:List (κ×α),BM k (EN k v l)=some v
  | []=>by simp [EN,BM]
  | p :: r=>by
    unfold EN
    split
    · simp [BM]
    · rename_i h; simp [BM,h,BK k v r]
theorem BD {k k':κ} (h:k'≠k) (v:α):∀ l:List (κ×α),BM k' (EN k v l)=BM k' l
  | []=>by simp [EN,BM,h]
  | p :: r=>by
    unfold EN
    split
    · rename_i h'; subst h'; simp [BM,h]
    · simp only [BM]; split
      · rfl
      · exact BD h v r
theorem ZQ {k:κ}:∀ {l:List (κ×α)},k ∉ l.map (·.1)→BM k l=none
  | [],_=>rfl
  | p :: r,h=>by
    simp only [List.map_cons,List.mem_cons,not_or] at h
    simp [BM,h.1,ZQ h.2]
theorem lV {k:κ} {v:α}:∀ {l:List (κ×α)},BM k l=some v→k∈l.map (·.1)
  | p :: r,h=>by
    simp only [BM] at h
    split at h
    · rename_i hk; simp [hk]
    · simp [lV h]
theorem ZR (k:κ) (v:α):∀ l:List (κ×α),(EN k v l).map (·.1)=if k∈l.map (·.1) then l.map (·.1) else l.map (·.1)++[k]
  | []=>by simp [EN]
  | p :: r=>by
    unfold EN
    split
    · rename_i h; simp [h]
    · rename_i h
      simp only [List.map_cons,ZR k v r,List.mem_cons,h,false_or]
      split <;> simp
theorem GG {l:List (κ×α)} (h:EP l) (k:κ) (v:α):EP (EN k v l):=by
  unfold EP at *
  rw [ZR]
  split
  · exact h
  · rename_i hk
    rw [List.nodup_append]
    exact ⟨h,by simp,fun a ha b hb=>by simp at hb; subst hb; exact fun e=>hk (e▸ha)⟩
theorem EM {k k':κ} (h:k'≠k):∀ l:List (κ×α),BM k' (CF k l)=BM k' l
  | []=>rfl
  | p :: r=>by
    unfold CF
    split
    · rename_i h'; subst h'; simp [BM,h]
    · simp only [BM]; split
      · rfl
      · exact EM h r
theorem YC (k:κ):∀ l:List (κ×α),(CF k l).Sublist l
  | []=>.slnil
  | p :: r=>by
    unfold CF
    split
    · exact List.sublist_cons_self _ _
    · exact (YC k r).cons_cons p
theorem aY {l:List (κ×α)} (h:EP l) (k:κ):EP (CF k l):=List.Sublist.nodup ((YC k l).map _) h
theorem UY {k:κ}:∀ {l:List (κ×α)},EP l→BM k (CF k l)=none
  | [],_=>rfl
  | p :: r,h=>by
    unfold EP at h
    simp only [List.map_cons,List.nodup_cons] at h
    unfold CF
    split
    · rename_i hk; subst hk; exact ZQ h.1
    · rename_i hk; simp [BM,hk,UY (l:=r) h.2]
theorem JI {l:List (κ×α)} {k:κ} {z:α} {C:α→Prop} (h:C ((BM k l).getD z)):tG l k z C:=h
end Go.Fw
