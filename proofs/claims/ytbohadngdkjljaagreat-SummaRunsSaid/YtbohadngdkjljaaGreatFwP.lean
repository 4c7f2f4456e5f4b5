/- Plain lemmas about pure functions in continuation form. -/
import Derived.Test.YtbohadngdkjljaaGreatFwN
import Derived.OpenShut
namespace Go.Fw
open Go Go.RowKit
def SQ (k:IntKind) (x:Int):Prop:=(Lit.int k x).wf=true
theorem DA {σ:Type} {D:σ→(σ→Prop)→Prop} (Inv:σ→Prop) (μ:σ→Nat) {s0:σ} (V:Inv s0) (h:∀ s next,Inv s→(∀ G,Inv G→μ G<μ s→next G)→D s next):B2 D s0:=by
 have H:∀ k s,Inv s→μ s<k→N9 D k s:=by
  intro k
  induction k with
  | zero=>intro s _ hk; omega
  | succ k U=>intro s hi hk; exact h s _ hi fun G J O=>U G J (by omega)
 exact ⟨μ s0+1,H _ _ V (by omega)⟩
theorem CA {σ:Type} {m:(σ→Prop)→Prop} {k:σ→Prop} (R:σ→Prop) (hk:∀ t,R t→k t) (D:∀ h:σ→Prop,(∀ t,R t→h t)→m h):DR m k:=D k hk
variable {α β κ:Type}
theorem AU {b:Bool} {A B:Prop} (G:b=true) (h:A):AD b A B:=⟨fun _=>h,fun D=>by rw [G] at D; cases D⟩
theorem AC {b:Bool} {A B:Prop} (G:b=false) (h:B):AD b A B:=⟨fun D=>absurd (D.symm.trans G) (by simp),fun _=>h⟩
theorem A0 {p:Prop} [Decidable p] {A B:Prop} (G:p→A) (D:¬p→B):AD (decide p) A B:=⟨fun h=>G (of_decide_eq_true h),fun h=>D (of_decide_eq_false h)⟩
theorem BB [BEq β] [LawfulBEq β] {x y:β} {A B:Prop} (G:x=y→A) (D:x≠y→B):AD (x==y) A B:=⟨fun h=>G (by simpa using h),fun h=>D (by simpa using h)⟩
theorem CB [BEq β] [LawfulBEq β] {x y:β} {A B:Prop} (G:x≠y→A) (D:x=y→B):AD (x != y) A B:=⟨fun h=>G (by simpa using h),fun h=>D (by simpa using h)⟩
theorem BN {b:Bool} {A B:Prop} (G:b=false→A) (D:b=true→B):AD (!b) A B:=⟨fun h=>G (by simpa using h),fun h=>D (by simpa using h)⟩
theorem AA {xs:List α} {i:Int} {K:α→Prop} {x:α} (D:0≤i) (h:xs[i.toNat]? = some x) (hk:K x):AN xs i K:=⟨D,x,h,hk⟩
theorem AJ {xs:List α} {i:Nat} {K:α→Prop} (h:i<xs.length) (hk:K xs[i]):AN xs (i:Int) K:=⟨by omega,xs[i],by simp [h],hk⟩
theorem AQ {B:Nat} {xs ys:List α} {K:List α→Prop} (h:(xs.length+ys.length)*B≤140737488355328) (hk:K (xs++ys)):EA B xs ys K:=⟨h,hk⟩
theorem LP {xs:List α} {A B:Prop} (D:xs=[]→A) (h:B):AaE xs A B:=⟨D,h⟩
theorem AH {x:Int} (h1 : -9223372036854775808≤x) (h2:x≤9223372036854775807):A7 x=x:=by
 show IntKind.wrap .i64 x=x
 rw [IntKind.wrap_i64]
 omega
theorem nQ {x:Int} (h1:0≤x) (h2:x≤18446744073709551615):IntKind.wrap .u64 x=x:=by
 simp only [IntKind.wrap,IntKind.bits,IntKind.signed]
 simp
 omega
variable [DecidableEq κ]
def FD (l:List (κ×α)):Prop:=(l.map (·.1)).Nodup
theorem BG (k:κ) (v:α):∀ l:List (κ×α),BK k (FC k v l)=some v
 | []=>by simp [FC,BK]
 | p :: r=>by
  unfold FC
  split
  · simp [BK]
  · rename_i h; simp [BK,h,BG k v r]
theorem BC {k D:κ} (h:D≠k) (v:α):∀ l:List (κ×α),BK D (FC k v l)=BK D l
 | []=>by simp [FC,BK,h]
 | p :: r=>by
  unfold FC
  split
  · rename_i G; subst G; simp [BK,h]
  · simp only [BK]; split
    · rfl
    · exact BC h v r
theorem WP {k:κ}:∀ {l:List (κ×α)},k ∉ l.map (·.1)→BK k l=none
 | [],_=>rfl
 | p :: r,h=>by
  simp only [List.map_cons,List.mem_cons,not_or] at h
  simp [BK,h.1,WP h.2]
theorem nR {k:κ} {v:α}:∀ {l:List (κ×α)},BK k l=some v→k∈l.map (·.1)
 | p :: r,h=>by
  simp only [BK] at h
  split at h
  · rename_i hk; simp [hk]
  · simp [nR h]
theorem bO (k:κ) (v:α):∀ l:List (κ×α),(FC k v l).map (·.1)=if k∈l.map (·.1) then l.map (·.1) else l.map (·.1)++[k]
 | []=>by simp [FC]
 | p :: r=>by
  unfold FC
  split
  · rename_i h; simp [h]
  · rename_i h
    simp only [List.map_cons,bO k v r,List.mem_cons,h,false_or]
    split <;> simp
theorem GA {l:List (κ×α)} (h:FD l) (k:κ) (v:α):FD (FC k v l):=by
 unfold FD at *
 rw [bO]
 split
 · exact h
 · rename_i hk
   rw [List.nodup_append]
   exact ⟨h,by simp,fun a G b D=>by simp at D; subst D; exact fun e=>hk (e▸G)⟩
theorem EG {k D:κ} (h:D≠k):∀ l:List (κ×α),BK D (BO k l)=BK D l
 | []=>rfl
 | p :: r=>by
  unfold BO
  split
  · rename_i G; subst G; simp [BK,h]
  · simp only [BK]; split
    · rfl
    · exact EG h r
theorem ZD (k:κ):∀ l:List (κ×α),(BO k l).Sublist l
 | []=>.slnil
 | p :: r=>by
  unfold BO
  split
  · exact List.sublist_cons_self _ _
  · exact (ZD k r).cons_cons p
theorem cV {l:List (κ×α)} (h:FD l) (k:κ):FD (BO k l):=List.Sublist.nodup ((ZD k l).map _) h
theorem V6 {k:κ}:∀ {l:List (κ×α)},FD l→BK k (BO k l)=none
 | [],_=>rfl
 | p :: r,h=>by
  unfold FD at h
  simp only [List.map_cons,List.nodup_cons] at h
  unfold BO
  split
  · rename_i hk; subst hk; exact WP h.1
  · rename_i hk; simp [BK,hk,V6 (l:=r) h.2]
theorem K5 {l:List (κ×α)} {k:κ} {z:α} {C:α→Prop} (h:C ((BK k l).getD z)):wK l k z C:=h
end Go.Fw
