/- Plain lemmas about pure functions in continuation form, numbers that wrap, and maps as lists. No program, no memory. -/
import Derived.Test.YtbohadngdkjljaaGreatFwN
import Derived.OpenShut
namespace Go.Fw
open Go Go.RowKit
def YC (k:IntKind) (x:Int):Prop:=(Lit.int k x).wf=true
theorem DZ {σ:Type} {body:σ→(σ→Prop)→Prop} (Inv:σ→Prop) (μ:σ→Nat) {s0:σ} (h0:Inv s0) (h:∀ s next,Inv s→(∀ s',Inv s'→μ s'<μ s→next s')→body s next):BN body s0:=by
  have H:∀ k s,Inv s→μ s<k→OB body k s:=by
    intro k
    induction k with
    | zero=>intro s _ hk; omega
    | succ k ih=>intro s hi hk; exact h s _ hi fun s' hi' hlt=>ih s' hi' (by omega)
  exact ⟨μ s0+1,H _ _ h0 (by omega)⟩
theorem EA {σ:Type} {m:(σ→Prop)→Prop} {k:σ→Prop} (R:σ→Prop) (hk:∀ t,R t→k t) (hm:∀ k':σ→Prop,(∀ t,R t→k' t)→m k'):EY m k:=hm k hk
variable {α β κ:Type}
theorem BJ {b:Bool} {A B:Prop} (hb:b=true) (h:A):AQ b A B:=⟨fun _=>h,fun h'=>by rw [hb] at h'; cases h'⟩
theorem AV {b:Bool} {A B:Prop} (hb:b=false) (h:B):AQ b A B:=⟨fun h'=>absurd (h'.symm.trans hb) (by simp),fun _=>h⟩
theorem AB {p:Prop} [Decidable p] {A B:Prop} (h1:p→A) (h2:¬p→B):AQ (decide p) A B:=⟨fun h=>h1 (of_decide_eq_true h),fun h=>h2 (of_decide_eq_false h)⟩
theorem BR [BEq β] [LawfulBEq β] {x y:β} {A B:Prop} (h1:x=y→A) (h2:x≠y→B):AQ (x==y) A B:=⟨fun h=>h1 (by simpa using h),fun h=>h2 (by simpa using h)⟩
theorem DI [BEq β] [LawfulBEq β] {x y:β} {A B:Prop} (h1:x≠y→A) (h2:x=y→B):AQ (x != y) A B:=⟨fun h=>h1 (by simpa using h),fun h=>h2 (by simpa using h)⟩
theorem CN {b:Bool} {A B:Prop} (h1:b=false→A) (h2:b=true→B):AQ (!b) A B:=⟨fun h=>h1 (by simpa using h),fun h=>h2 (by simpa using h)⟩
theorem AP {xs:List α} {i:Int} {K:α→Prop} {x:α} (h0:0≤i) (h:xs[i.toNat]? = some x) (hk:K x):AY xs i K:=⟨h0,x,h,hk⟩
theorem BA {xs:List α} {i:Nat} {K:α→Prop} (h:i<xs.length) (hk:K xs[i]):AY xs (i:Int) K:=⟨by omega,xs[i],by simp [h],hk⟩
theorem BK {B:Nat} {xs ys:List α} {K:List α→Prop} (h:(xs.length+ys.length)*B≤140737488355328) (hk:K (xs++ys)):HS B xs ys K:=⟨h,hk⟩
theorem MA {xs:List α} {A B:Prop} (h1:xs=[]→A) (h2:B):AbA xs A B:=⟨h1,h2⟩
theorem AZ {x:Int} (h1 : -9223372036854775808≤x) (h2:x≤9223372036854775807):AJ x=x:=by
  show IntKind.wrap .i64 x=x
  rw [IntKind.wrap_i64]
  omega
theorem pI {x:Int} (h1:0≤x) (h2:x≤18446744073709551615):IntKind.wrap .u64 x=x:=by
  simp only [IntKind.wrap,IntKind.bits,IntKind.signed]
  simp
  omega
variable [DecidableEq κ]
def FP (l:List (κ×α)):Prop:=(l.map (·.1)).Nodup
theorem BQ (k:κ) (v:α):∀ l:List (κ×α),BT k (ET k v l)=some v
  | []=>by simp [ET,BT]
  | p :: r=>by
    unfold ET
    split
    · simp [BT]
    · rename_i h; simp [BT,h,BQ k v r]
theorem BH {k k':κ} (h:k'≠k) (v:α):∀ l:List (κ×α),BT k' (ET k v l)=BT k' l
  | []=>by simp [ET,BT,h]
  | p :: r=>by
    unfold ET
    split
    · rename_i h'; subst h'; simp [BT,h]
    · simp only [BT]; split
      · rfl
      · exact BH h v r
theorem YD {k:κ}:∀ {l:List (κ×α)},k ∉ l.map (·.1)→BT k l=none
  | [],_=>rfl
  | p :: r,h=>by
    simp only [List.map_cons,List.mem_cons,not_or] at h
    simp [BT,h.1,YD h.2]
theorem pJ {k:κ} {v:α}:∀ {l:List (κ×α)},BT k l=some v→k∈l.map (·.1)
  | p :: r,h=>by
    simp only [BT] at h
    split at h
    · rename_i hk; simp [hk]
    · simp [pJ h]
theorem dH (k:κ) (v:α):∀ l:List (κ×α),(ET k v l).map (·.1)=if k∈l.map (·.1) then l.map (·.1) else l.map (·.1)++[k]
  | []=>by simp [ET]
  | p :: r=>by
    unfold ET
    split
    · rename_i h; simp [h]
    · rename_i h
      simp only [List.map_cons,dH k v r,List.mem_cons,h,false_or]
      split <;> simp
theorem GW {l:List (κ×α)} (h:FP l) (k:κ) (v:α):FP (ET k v l):=by
  unfold FP at *
  rw [dH]
  split
  · exact h
  · rename_i hk
    rw [List.nodup_append]
    exact ⟨h,by simp,fun a ha b hb=>by simp at hb; subst hb; exact fun e=>hk (e▸ha)⟩
theorem EQ {k k':κ} (h:k'≠k):∀ l:List (κ×α),BT k' (CH k l)=BT k' l
  | []=>rfl
  | p :: r=>by
    unfold CH
    split
    · rename_i h'; subst h'; simp [BT,h]
    · simp only [BT]; split
      · rfl
      · exact EQ h r
theorem bE (k:κ):∀ l:List (κ×α),(CH k l).Sublist l
  | []=>.slnil
  | p :: r=>by
    unfold CH
    split
    · exact List.sublist_cons_self _ _
    · exact (bE k r).cons_cons p
theorem eS {l:List (κ×α)} (h:FP l) (k:κ):FP (CH k l):=List.Sublist.nodup ((bE k l).map _) h
theorem XF {k:κ}:∀ {l:List (κ×α)},FP l→BT k (CH k l)=none
  | [],_=>rfl
  | p :: r,h=>by
    unfold FP at h
    simp only [List.map_cons,List.nodup_cons] at h
    unfold CH
    split
    · rename_i hk; subst hk; exact YD h.1
    · rename_i hk; simp [BT,hk,XF (l:=r) h.2]
theorem KM {l:List (κ×α)} {k:κ} {z:α} {C:α→Prop} (h:C ((BT k l).getD z)):wH l k z C:=h
end Go.Fw
