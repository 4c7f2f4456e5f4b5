/- Plain lemmas about pure functions in continuation form, numbers that wrap, and maps as lists. No program, no memory. -/
import Derived.Test.YtbohadngdkjljaaGreatFwN
import Derived.OpenShut
namespace Go.Fw
open Go Go.RowKit
def WS (k:IntKind) (x:Int):Prop:=(Lit.int k x).wf=true
theorem EC {σ:Type} {body:σ→(σ→Prop)→Prop} (Inv:σ→Prop) (μ:σ→Nat) {s0:σ} (h0:Inv s0) (h:∀ s next,Inv s→(∀ s',Inv s'→μ s'<μ s→next s')→body s next):BK body s0:=by
  have H:∀ k s,Inv s→μ s<k→OA body k s:=by
    intro k
    induction k with
    | zero=>intro s _ hk; omega
    | succ k ih=>intro s hi hk; exact h s _ hi fun s' hi' hlt=>ih s' hi' (by omega)
  exact ⟨μ s0+1,H _ _ h0 (by omega)⟩
theorem ED {σ:Type} {m:(σ→Prop)→Prop} {k:σ→Prop} (R:σ→Prop) (hk:∀ t,R t→k t) (hm:∀ k':σ→Prop,(∀ t,R t→k' t)→m k'):EV m k:=hm k hk
variable {α β κ:Type}
theorem BM {b:Bool} {A B:Prop} (hb:b=true) (h:A):AR b A B:=⟨fun _=>h,fun h'=>by rw [hb] at h'; cases h'⟩
theorem AV {b:Bool} {A B:Prop} (hb:b=false) (h:B):AR b A B:=⟨fun h'=>absurd (h'.symm.trans hb) (by simp),fun _=>h⟩
theorem AD {p:Prop} [Decidable p] {A B:Prop} (h1:p→A) (h2:¬p→B):AR (decide p) A B:=⟨fun h=>h1 (of_decide_eq_true h),fun h=>h2 (of_decide_eq_false h)⟩
theorem BU [BEq β] [LawfulBEq β] {x y:β} {A B:Prop} (h1:x=y→A) (h2:x≠y→B):AR (x==y) A B:=⟨fun h=>h1 (by simpa using h),fun h=>h2 (by simpa using h)⟩
theorem DW [BEq β] [LawfulBEq β] {x y:β} {A B:Prop} (h1:x≠y→A) (h2:x=y→B):AR (x != y) A B:=⟨fun h=>h1 (by simpa using h),fun h=>h2 (by simpa using h)⟩
theorem CS {b:Bool} {A B:Prop} (h1:b=false→A) (h2:b=true→B):AR (!b) A B:=⟨fun h=>h1 (by simpa using h),fun h=>h2 (by simpa using h)⟩
theorem AO {xs:List α} {i:Int} {K:α→Prop} {x:α} (h0:0≤i) (h:xs[i.toNat]? = some x) (hk:K x):BC xs i K:=⟨h0,x,h,hk⟩
theorem BH {xs:List α} {i:Nat} {K:α→Prop} (h:i<xs.length) (hk:K xs[i]):BC xs (i:Int) K:=⟨by omega,xs[i],by simp [h],hk⟩
theorem BJ {B:Nat} {xs ys:List α} {K:List α→Prop} (h:(xs.length+ys.length)*B≤140737488355328) (hk:K (xs++ys)):HV B xs ys K:=⟨h,hk⟩
theorem MD {xs:List α} {A B:Prop} (h1:xs=[]→A) (h2:B):AbF xs A B:=⟨h1,h2⟩
theorem AX {x:Int} (h1 : -9223372036854775808≤x) (h2:x≤9223372036854775807):AJ x=x:=by
  show IntKind.wrap .i64 x=x
  rw [IntKind.wrap_i64]
  omega
theorem pD {x:Int} (h1:0≤x) (h2:x≤18446744073709551615):IntKind.wrap .u64 x=x:=by
  simp only [IntKind.wrap,IntKind.bits,IntKind.signed]
  simp
  omega
variable [DecidableEq κ]
def FQ (l:List (κ×α)):Prop:=(l.map (·.1)).Nodup
theorem BP (k:κ) (v:α):∀ l:List (κ×α),BS k (EY k v l)=some v
  | []=>by simp [EY,BS]
  | p :: r=>by
    unfold EY
    split
    · simp [BS]
    · rename_i h; simp [BS,h,BP k v r]
theorem BI {k k':κ} (h:k'≠k) (v:α):∀ l:List (κ×α),BS k' (EY k v l)=BS k' l
  | []=>by simp [EY,BS,h]
  | p :: r=>by
    unfold EY
    split
    · rename_i h'; subst h'; simp [BS,h]
    · simp only [BS]; split
      · rfl
      · exact BI h v r
theorem YG {k:κ}:∀ {l:List (κ×α)},k ∉ l.map (·.1)→BS k l=none
  | [],_=>rfl
  | p :: r,h=>by
    simp only [List.map_cons,List.mem_cons,not_or] at h
    simp [BS,h.1,YG h.2]
theorem pE {k:κ} {v:α}:∀ {l:List (κ×α)},BS k l=some v→k∈l.map (·.1)
  | p :: r,h=>by
    simp only [BS] at h
    split at h
    · rename_i hk; simp [hk]
    · simp [pE h]
theorem dI (k:κ) (v:α):∀ l:List (κ×α),(EY k v l).map (·.1)=if k∈l.map (·.1) then l.map (·.1) else l.map (·.1)++[k]
  | []=>by simp [EY]
  | p :: r=>by
    unfold EY
    split
    · rename_i h; simp [h]
    · rename_i h
      simp only [List.map_cons,dI k v r,List.mem_cons,h,false_or]
      split <;> simp
theorem GW {l:List (κ×α)} (h:FQ l) (k:κ) (v:α):FQ (EY k v l):=by
  unfold FQ at *
  rw [dI]
  split
  · exact h
  · rename_i hk
    rw [List.nodup_append]
    exact ⟨h,by simp,fun a ha b hb=>by simp at hb; subst hb; exact fun e=>hk (e▸ha)⟩
theorem EW {k k':κ} (h:k'≠k):∀ l:List (κ×α),BS k' (CK k l)=BS k' l
  | []=>rfl
  | p :: r=>by
    unfold CK
    split
    · rename_i h'; subst h'; simp [BS,h]
    · simp only [BS]; split
      · rfl
      · exact EW h r
theorem bI (k:κ):∀ l:List (κ×α),(CK k l).Sublist l
  | []=>.slnil
  | p :: r=>by
    unfold CK
    split
    · exact List.sublist_cons_self _ _
    · exact (bI k r).cons_cons p
theorem eR {l:List (κ×α)} (h:FQ l) (k:κ):FQ (CK k l):=List.Sublist.nodup ((bI k l).map _) h
theorem XJ {k:κ}:∀ {l:List (κ×α)},FQ l→BS k (CK k l)=none
  | [],_=>rfl
  | p :: r,h=>by
    unfold FQ at h
    simp only [List.map_cons,List.nodup_cons] at h
    unfold CK
    split
    · rename_i hk; subst hk; exact YG h.1
    · rename_i hk; simp [BS,hk,XJ (l:=r) h.2]
theorem KP {l:List (κ×α)} {k:κ} {z:α} {C:α→Prop} (h:C ((BS k l).getD z)):wG l k z C:=h
end Go.Fw
