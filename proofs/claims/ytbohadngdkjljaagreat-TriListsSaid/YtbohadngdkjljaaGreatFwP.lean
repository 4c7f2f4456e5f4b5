/- Plain lemmas about pure functions in continuation form, numbers that wrap, and maps as lists. No program, no memory. -/
import Derived.Test.YtbohadngdkjljaaGreatFwN
import Derived.OpenShut
namespace Go.Fw
open Go Go.RowKit
def inR (k:IntKind) (x:Int):Prop:=(Lit.int k x).wf=true
theorem EB {σ:Type} {D:σ→(σ→Prop)→Prop} (G:σ→Prop) (μ:σ→Nat) {s0:σ} (U:G s0) (h:∀ s next,G s→(∀ J,G J→μ J<μ s→next J)→D s next):BB D s0:=by
  have H:∀ k s,G s→μ s<k→OU D k s:=by
    intro k
    induction k with
    | zero=>intro s _ hk; omega
    | succ k V=>intro s hi hk; exact h s _ hi fun J O W=>V J O (by omega)
  exact ⟨μ s0+1,H _ _ U (by omega)⟩
theorem DP {σ:Type} {m:(σ→Prop)→Prop} {k:σ→Prop} (R:σ→Prop) (hk:∀ t,R t→k t) (D:∀ h:σ→Prop,(∀ t,R t→h t)→m h):FM m k:=D k hk
variable {α β κ:Type}
theorem AX {b:Bool} {A B:Prop} (G:b=true) (h:A):AR b A B:=⟨fun _=>h,fun D=>by rw [G] at D; cases D⟩
theorem AO {b:Bool} {A B:Prop} (D:b=false) (h:B):AR b A B:=⟨fun G=>absurd (G.symm.trans D) (by simp),fun _=>h⟩
theorem AB {p:Prop} [Decidable p] {A B:Prop} (D:p→A) (G:¬p→B):AR (decide p) A B:=⟨fun h=>D (of_decide_eq_true h),fun h=>G (of_decide_eq_false h)⟩
theorem CC [BEq β] [LawfulBEq β] {x y:β} {A B:Prop} (D:x=y→A) (G:x≠y→B):AR (x==y) A B:=⟨fun h=>D (by simpa using h),fun h=>G (by simpa using h)⟩
theorem FF [BEq β] [LawfulBEq β] {x y:β} {A B:Prop} (D:x≠y→A) (G:x=y→B):AR (x != y) A B:=⟨fun h=>D (by simpa using h),fun h=>G (by simpa using h)⟩
theorem CP {b:Bool} {A B:Prop} (D:b=false→A) (G:b=true→B):AR (!b) A B:=⟨fun h=>D (by simpa using h),fun h=>G (by simpa using h)⟩
theorem AP {xs:List α} {i:Int} {K:α→Prop} {x:α} (D:0≤i) (h:xs[i.toNat]? = some x) (hk:K x):AY xs i K:=⟨D,x,h,hk⟩
theorem AW {xs:List α} {i:Nat} {K:α→Prop} (h:i<xs.length) (hk:K xs[i]):AY xs (i:Int) K:=⟨by omega,xs[i],by simp [h],hk⟩
theorem BA {B:Nat} {xs ys:List α} {K:List α→Prop} (h:(xs.length+ys.length)*B≤140737488355328) (hk:K (xs++ys)):FX B xs ys K:=⟨h,hk⟩
theorem ML {xs:List α} {A B:Prop} (h:xs=[]→A) (D:B):AfO xs A B:=⟨h,D⟩
theorem BE {x:Int} (h1 : -9223372036854775808≤x) (h2:x≤9223372036854775807):AJ x=x:=by
  show IntKind.wrap .i64 x=x
  rw [IntKind.wrap_i64]
  omega
theorem tY {x:Int} (h1:0≤x) (h2:x≤18446744073709551615):IntKind.wrap .u64 x=x:=by
  simp only [IntKind.wrap,IntKind.bits,IntKind.signed]
  simp
  omega
variable [DecidableEq κ]
def EY (l:List (κ×α)):Prop:=(l.map (·.1)).Nodup
theorem BO (k:κ) (v:α):∀ l:List (κ×α),BN k (EO k v l)=some v
  | []=>by simp [EO,BN]
  | p :: r=>by
    unfold EO
    split
    · simp [BN]
    · rename_i h; simp [BN,h,BO k v r]
theorem BK {k D:κ} (h:D≠k) (v:α):∀ l:List (κ×α),BN D (EO k v l)=BN D l
  | []=>by simp [EO,BN,h]
  | p :: r=>by
    unfold EO
    split
    · rename_i G; subst G; simp [BN,h]
    · simp only [BN]; split
      · rfl
      · exact BK h v r
theorem fE {k:κ}:∀ {l:List (κ×α)},k ∉ l.map (·.1)→BN k l=none
  | [],_=>rfl
  | p :: r,h=>by
    simp only [List.map_cons,List.mem_cons,not_or] at h
    simp [BN,h.1,fE h.2]
theorem mget_mem {k:κ} {v:α}:∀ {l:List (κ×α)},BN k l=some v→k∈l.map (·.1)
  | p :: r,h=>by
    simp only [BN] at h
    split at h
    · rename_i hk; simp [hk]
    · simp [mget_mem h]
theorem fF (k:κ) (v:α):∀ l:List (κ×α),(EO k v l).map (·.1)=if k∈l.map (·.1) then l.map (·.1) else l.map (·.1)++[k]
  | []=>by simp [EO]
  | p :: r=>by
    unfold EO
    split
    · rename_i h; simp [h]
    · rename_i h
      simp only [List.map_cons,fF k v r,List.mem_cons,h,false_or]
      split <;> simp
theorem HC {l:List (κ×α)} (h:EY l) (k:κ) (v:α):EY (EO k v l):=by
  unfold EY at *
  rw [fF]
  split
  · exact h
  · rename_i hk
    rw [List.nodup_append]
    exact ⟨h,by simp,fun a G b D=>by simp at D; subst D; exact fun e=>hk (e▸G)⟩
theorem FE {k D:κ} (h:D≠k):∀ l:List (κ×α),BN D (CM k l)=BN D l
  | []=>rfl
  | p :: r=>by
    unfold CM
    split
    · rename_i G; subst G; simp [BN,h]
    · simp only [BN]; split
      · rfl
      · exact FE h r
theorem cR (k:κ):∀ l:List (κ×α),(CM k l).Sublist l
  | []=>.slnil
  | p :: r=>by
    unfold CM
    split
    · exact List.sublist_cons_self _ _
    · exact (cR k r).cons_cons p
theorem gT {l:List (κ×α)} (h:EY l) (k:κ):EY (CM k l):=List.Sublist.nodup ((cR k l).map _) h
theorem Y5 {k:κ}:∀ {l:List (κ×α)},EY l→BN k (CM k l)=none
  | [],_=>rfl
  | p :: r,h=>by
    unfold EY at h
    simp only [List.map_cons,List.nodup_cons] at h
    unfold CM
    split
    · rename_i hk; subst hk; exact fE h.1
    · rename_i hk; simp [BN,hk,Y5 (l:=r) h.2]
theorem KU {l:List (κ×α)} {k:κ} {z:α} {C:α→Prop} (h:C ((BN k l).getD z)):lkP l k z C:=h
end Go.Fw
