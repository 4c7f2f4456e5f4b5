/- Plain lemmas about pure functions in continuation form. -/
import Derived.Test.YtbohadngdkjljaaGreatFwN
import Derived.OpenShut
namespace Go.Fw
open Go Go.RowKit
def UC (k:IntKind) (x:Int):Prop:=(Lit.int k x).wf=true
theorem DE {σ:Type} {D:σ→(σ→Prop)→Prop} (Inv:σ→Prop) (μ:σ→Nat) {s0:σ} (V:Inv s0) (h:∀ s next,Inv s→(∀ G,Inv G→μ G<μ s→next G)→D s next):B1 D s0:=by
 have H:∀ k s,Inv s→μ s<k→NE D k s:=by
  intro k
  induction k with
  | zero=>intro s _ hk; omega
  | succ k U=>intro s hi hk; exact h s _ hi fun G J O=>U G J (by omega)
 exact ⟨μ s0+1,H _ _ V (by omega)⟩
theorem CJ {σ:Type} {m:(σ→Prop)→Prop} {k:σ→Prop} (R:σ→Prop) (hk:∀ t,R t→k t) (D:∀ h:σ→Prop,(∀ t,R t→h t)→m h):EC m k:=D k hk
variable {α β κ:Type}
theorem AY {b:Bool} {A B:Prop} (G:b=true) (h:A):AD b A B:=⟨fun _=>h,fun D=>by rw [G] at D; cases D⟩
theorem AC {b:Bool} {A B:Prop} (D:b=false) (h:B):AD b A B:=⟨fun G=>absurd (G.symm.trans D) (by simp),fun _=>h⟩
theorem A0 {p:Prop} [Decidable p] {A B:Prop} (G:p→A) (D:¬p→B):AD (decide p) A B:=⟨fun h=>G (of_decide_eq_true h),fun h=>D (of_decide_eq_false h)⟩
theorem BA [BEq β] [LawfulBEq β] {x y:β} {A B:Prop} (G:x=y→A) (D:x≠y→B):AD (x==y) A B:=⟨fun h=>G (by simpa using h),fun h=>D (by simpa using h)⟩
theorem CK [BEq β] [LawfulBEq β] {x y:β} {A B:Prop} (G:x≠y→A) (D:x=y→B):AD (x != y) A B:=⟨fun h=>G (by simpa using h),fun h=>D (by simpa using h)⟩
theorem CF {b:Bool} {A B:Prop} (G:b=false→A) (D:b=true→B):AD (!b) A B:=⟨fun h=>G (by simpa using h),fun h=>D (by simpa using h)⟩
theorem A9 {xs:List α} {i:Int} {K:α→Prop} {x:α} (D:0≤i) (h:xs[i.toNat]? = some x) (hk:K x):AN xs i K:=⟨D,x,h,hk⟩
theorem AK {xs:List α} {i:Nat} {K:α→Prop} (h:i<xs.length) (hk:K xs[i]):AN xs (i:Int) K:=⟨by omega,xs[i],by simp [h],hk⟩
theorem AR {B:Nat} {xs ys:List α} {K:List α→Prop} (h:(xs.length+ys.length)*B≤140737488355328) (hk:K (xs++ys)):ED B xs ys K:=⟨h,hk⟩
theorem LS {xs:List α} {A B:Prop} (D:xs=[]→A) (h:B):AaK xs A B:=⟨D,h⟩
theorem AJ {x:Int} (h1 : -9223372036854775808≤x) (h2:x≤9223372036854775807):A7 x=x:=by
 show IntKind.wrap .i64 x=x
 rw [IntKind.wrap_i64]
 omega
theorem nK {x:Int} (h1:0≤x) (h2:x≤18446744073709551615):IntKind.wrap .u64 x=x:=by
 simp only [IntKind.wrap,IntKind.bits,IntKind.signed]
 simp
 omega
variable [DecidableEq κ]
def FG (l:List (κ×α)):Prop:=(l.map (·.1)).Nodup
theorem BG (k:κ) (v:α):∀ l:List (κ×α),BK k (FF k v l)=some v
 | []=>by simp [FF,BK]
 | p :: r=>by
  unfold FF
  split
  · simp [BK]
  · rename_i h; simp [BK,h,BG k v r]
theorem BB {k D:κ} (h:D≠k) (v:α):∀ l:List (κ×α),BK D (FF k v l)=BK D l
 | []=>by simp [FF,BK,h]
 | p :: r=>by
  unfold FF
  split
  · rename_i G; subst G; simp [BK,h]
  · simp only [BK]; split
    · rfl
    · exact BB h v r
theorem WD {k:κ}:∀ {l:List (κ×α)},k ∉ l.map (·.1)→BK k l=none
 | [],_=>rfl
 | p :: r,h=>by
  simp only [List.map_cons,List.mem_cons,not_or] at h
  simp [BK,h.1,WD h.2]
theorem nL {k:κ} {v:α}:∀ {l:List (κ×α)},BK k l=some v→k∈l.map (·.1)
 | p :: r,h=>by
  simp only [BK] at h
  split at h
  · rename_i hk; simp [hk]
  · simp [nL h]
theorem bE (k:κ) (v:α):∀ l:List (κ×α),(FF k v l).map (·.1)=if k∈l.map (·.1) then l.map (·.1) else l.map (·.1)++[k]
 | []=>by simp [FF]
 | p :: r=>by
  unfold FF
  split
  · rename_i h; simp [h]
  · rename_i h
    simp only [List.map_cons,bE k v r,List.mem_cons,h,false_or]
    split <;> simp
theorem GD {l:List (κ×α)} (h:FG l) (k:κ) (v:α):FG (FF k v l):=by
 unfold FG at *
 rw [bE]
 split
 · exact h
 · rename_i hk
   rw [List.nodup_append]
   exact ⟨h,by simp,fun a G b D=>by simp at D; subst D; exact fun e=>hk (e▸G)⟩
theorem EL {k D:κ} (h:D≠k):∀ l:List (κ×α),BK D (BM k l)=BK D l
 | []=>rfl
 | p :: r=>by
  unfold BM
  split
  · rename_i G; subst G; simp [BK,h]
  · simp only [BK]; split
    · rfl
    · exact EL h r
theorem Z3 (k:κ):∀ l:List (κ×α),(BM k l).Sublist l
 | []=>.slnil
 | p :: r=>by
  unfold BM
  split
  · exact List.sublist_cons_self _ _
  · exact (Z3 k r).cons_cons p
theorem cJ {l:List (κ×α)} (h:FG l) (k:κ):FG (BM k l):=List.Sublist.nodup ((Z3 k l).map _) h
theorem UT {k:κ}:∀ {l:List (κ×α)},FG l→BK k (BM k l)=none
 | [],_=>rfl
 | p :: r,h=>by
  unfold FG at h
  simp only [List.map_cons,List.nodup_cons] at h
  unfold BM
  split
  · rename_i hk; subst hk; exact WD h.1
  · rename_i hk; simp [BK,hk,UT (l:=r) h.2]
theorem K6 {l:List (κ×α)} {k:κ} {z:α} {C:α→Prop} (h:C ((BK k l).getD z)):wN l k z C:=h
end Go.Fw
