/- Plain lemmas about pure functions in continuation form, numbers that wrap, and maps as lists. No program, no memory. -/
import Derived.Test.YtbohadngdkjljaaGreatFwN
import Derived.OpenShut
namespace Go.Fw
open Go Go.RowKit
def VS (k:IntKind) (x:Int):Prop:=(Lit.int k x).wf=true
theorem EL {σ:Type} {body:σ→(σ→Prop)→Prop} (Inv:σ→Prop) (μ:σ→Nat) {s0:σ} (h0:Inv s0) (h:∀ s next,Inv s→(∀ s',Inv s'→μ s'<μ s→next s')→body s next):BK body s0:=by
  have H:∀ k s,Inv s→μ s<k→NH body k s:=by
    intro k
    induction k with
    | zero=>intro s _ hk; omega
    | succ k ih=>intro s hi hk; exact h s _ hi fun s' hi' hlt=>ih s' hi' (by omega)
  exact ⟨μ s0+1,H _ _ h0 (by omega)⟩
theorem FM {σ:Type} {m:(σ→Prop)→Prop} {k:σ→Prop} (R:σ→Prop) (hk:∀ t,R t→k t) (hm:∀ k':σ→Prop,(∀ t,R t→k' t)→m k'):FF m k:=hm k hk
variable {α β κ:Type}
theorem BN {b:Bool} {A B:Prop} (hb:b=true) (h:A):AQ b A B:=⟨fun _=>h,fun h'=>by rw [hb] at h'; cases h'⟩
theorem AW {b:Bool} {A B:Prop} (hb:b=false) (h:B):AQ b A B:=⟨fun h'=>absurd (h'.symm.trans hb) (by simp),fun _=>h⟩
theorem AD {p:Prop} [Decidable p] {A B:Prop} (h1:p→A) (h2:¬p→B):AQ (decide p) A B:=⟨fun h=>h1 (of_decide_eq_true h),fun h=>h2 (of_decide_eq_false h)⟩
theorem CB [BEq β] [LawfulBEq β] {x y:β} {A B:Prop} (h1:x=y→A) (h2:x≠y→B):AQ (x==y) A B:=⟨fun h=>h1 (by simpa using h),fun h=>h2 (by simpa using h)⟩
theorem EW [BEq β] [LawfulBEq β] {x y:β} {A B:Prop} (h1:x≠y→A) (h2:x=y→B):AQ (x != y) A B:=⟨fun h=>h1 (by simpa using h),fun h=>h2 (by simpa using h)⟩
theorem CR {b:Bool} {A B:Prop} (h1:b=false→A) (h2:b=true→B):AQ (!b) A B:=⟨fun h=>h1 (by simpa using h),fun h=>h2 (by simpa using h)⟩
theorem AM {xs:List α} {i:Int} {K:α→Prop} {x:α} (h0:0≤i) (h:xs[i.toNat]? = some x) (hk:K x):BD xs i K:=⟨h0,x,h,hk⟩
theorem BG {xs:List α} {i:Nat} {K:α→Prop} (h:i<xs.length) (hk:K xs[i]):BD xs (i:Int) K:=⟨by omega,xs[i],by simp [h],hk⟩
theorem BI {B:Nat} {xs ys:List α} {K:List α→Prop} (h:(xs.length+ys.length)*B≤140737488355328) (hk:K (xs++ys)):HY B xs ys K:=⟨h,hk⟩
theorem LK {xs:List α} {A B:Prop} (h1:xs=[]→A) (h2:B):AaH xs A B:=⟨h1,h2⟩
theorem AV {x:Int} (h1 : -9223372036854775808≤x) (h2:x≤9223372036854775807):AJ x=x:=by
  show IntKind.wrap .i64 x=x
  rw [IntKind.wrap_i64]
  omega
theorem nW {x:Int} (h1:0≤x) (h2:x≤18446744073709551615):IntKind.wrap .u64 x=x:=by
  simp only [IntKind.wrap,IntKind.bits,IntKind.signed]
  simp
  omega
variable [DecidableEq κ]
def FN (l:List (κ×α)):Prop:=(l.map (·.1)).Nodup
theorem BM (k:κ) (v:α):∀ l:List (κ×α),BP k (ET k v l)=some v
  | []=>by simp [ET,BP]
  | p :: r=>by
    unfold ET
    split
    · simp [BP]
    · rename_i h; simp [BP,h,BM k v r]
theorem BE {k k':κ} (h:k'≠k) (v:α):∀ l:List (κ×α),BP k' (ET k v l)=BP k' l
  | []=>by simp [ET,BP,h]
  | p :: r=>by
    unfold ET
    split
    · rename_i h'; subst h'; simp [BP,h]
    · simp only [BP]; split
      · rfl
      · exact BE h v r
theorem XO {k:κ}:∀ {l:List (κ×α)},k ∉ l.map (·.1)→BP k l=none
  | [],_=>rfl
  | p :: r,h=>by
    simp only [List.map_cons,List.mem_cons,not_or] at h
    simp [BP,h.1,XO h.2]
theorem nX {k:κ} {v:α}:∀ {l:List (κ×α)},BP k l=some v→k∈l.map (·.1)
  | p :: r,h=>by
    simp only [BP] at h
    split at h
    · rename_i hk; simp [hk]
    · simp [nX h]
theorem bV (k:κ) (v:α):∀ l:List (κ×α),(ET k v l).map (·.1)=if k∈l.map (·.1) then l.map (·.1) else l.map (·.1)++[k]
  | []=>by simp [ET]
  | p :: r=>by
    unfold ET
    split
    · rename_i h; simp [h]
    · rename_i h
      simp only [List.map_cons,bV k v r,List.mem_cons,h,false_or]
      split <;> simp
theorem GP {l:List (κ×α)} (h:FN l) (k:κ) (v:α):FN (ET k v l):=by
  unfold FN at *
  rw [bV]
  split
  · exact h
  · rename_i hk
    rw [List.nodup_append]
    exact ⟨h,by simp,fun a ha b hb=>by simp at hb; subst hb; exact fun e=>hk (e▸ha)⟩
theorem ER {k k':κ} (h:k'≠k):∀ l:List (κ×α),BP k' (CI k l)=BP k' l
  | []=>rfl
  | p :: r=>by
    unfold CI
    split
    · rename_i h'; subst h'; simp [BP,h]
    · simp only [BP]; split
      · rfl
      · exact ER h r
theorem aB (k:κ):∀ l:List (κ×α),(CI k l).Sublist l
  | []=>.slnil
  | p :: r=>by
    unfold CI
    split
    · exact List.sublist_cons_self _ _
    · exact (aB k r).cons_cons p
theorem dB {l:List (κ×α)} (h:FN l) (k:κ):FN (CI k l):=List.Sublist.nodup ((aB k l).map _) h
theorem WH {k:κ}:∀ {l:List (κ×α)},FN l→BP k (CI k l)=none
  | [],_=>rfl
  | p :: r,h=>by
    unfold FN at h
    simp only [List.map_cons,List.nodup_cons] at h
    unfold CI
    split
    · rename_i hk; subst hk; exact XO h.1
    · rename_i hk; simp [BP,hk,WH (l:=r) h.2]
theorem KD {l:List (κ×α)} {k:κ} {z:α} {C:α→Prop} (h:C ((BP k l).getD z)):uR l k z C:=h
end Go.Fw
