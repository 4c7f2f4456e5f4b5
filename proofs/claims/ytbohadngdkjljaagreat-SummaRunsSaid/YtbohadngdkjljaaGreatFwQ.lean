/- Plain lemmas. -/
import Derived.Test.YtbohadngdkjljaaGreatFwP
namespace Go.Fw
open Go Go.RowKit
theorem B3 {τ σ:Type} (mk:σ→Int→τ) {h:τ→(τ→Prop)→Prop} (D n:Nat) {s0:σ} (hn:n≤1000000000000) (Inv:Nat→σ→Prop) (Y:D≤n) (O:Inv D s0)
  (V:∀ (i:Nat) (s:σ) (next:τ→Prop),D≤i→i<n→Inv i s→(∀ G,Inv (i+1) G→next (mk G (A7 ((i:Int)+1))))→h (mk s i) next)
  (he:∀ (s:σ) (next:τ→Prop),Inv n s→h (mk s n) next):B2 h (mk s0 D):=by
 have H:∀ (k i:Nat) (s:σ),n - i<k→D≤i→i≤n→Inv i s→N9 h k (mk s i):=by
  intro k
  induction k with
  | zero=>intro i s hk; omega
  | succ k W=>
   intro i s hk U h2 hi
   by_cases e:i=n
   · subst e; exact he s _ hi
   · refine V i s _ U (by omega) hi fun G J=>?_
     have:=W (i+1) G (by omega) (by omega) (by omega) J
     rw [AH (by omega) (by omega)]
     simpa using this
 exact ⟨n - D+1,H _ _ _ (by omega) (by omega) Y O⟩
theorem DF {D:Int→(Int→Prop)→Prop} (n:Nat) (W:n≤1000000000000) (R:Nat→Prop) (J:R 0)
  (Y:∀ (i:Nat) (next:Int→Prop),i<n→R i→(R (i+1)→next (A7 ((i:Int)+1)))→D i next)
  (he:∀ (next:Int→Prop),R n→D n next):B2 D 0:=
 B3 (σ:=Unit) (fun _ i=>i) 0 n W (fun i _=>R i) (by omega) J (fun i _ next _ V O U=>Y i next V O fun G=>U () G) (fun _ next h=>he next h) (s0:=())
section
variable {κ α:Type} [DecidableEq κ]
theorem HH {k:κ} {v:α}:∀ {l:List (κ×α)},FD l→(BK k l=some v↔(k,v)∈l)
 | [],_=>by simp [BK]
 | p :: r,h=>by
  unfold FD at h
  simp only [List.map_cons,List.nodup_cons] at h
  simp only [BK,List.mem_cons]
  split
  · rename_i hk
    subst hk
    constructor
    · intro e; left; cases e; rfl
    · rintro (e | e)
      · rw [←e]
      · exact absurd (List.mem_map_of_mem (f:=(·.1)) e) h.1
  · rename_i hk
    rw [HH (l:=r) h.2]
    constructor
    · exact .inr
    · rintro (e | e)
      · exact absurd (congrArg (·.1) e) hk
      · exact e
omit [DecidableEq κ] in
theorem fD {l:List (κ×α)} (h:FD l):l.Nodup:=by
 unfold FD at h
 induction l with
 | nil=>simp
 | cons p r D=>
  simp only [List.map_cons,List.nodup_cons] at h
  rw [List.nodup_cons]
  exact ⟨fun hp=>h.1 (List.mem_map_of_mem (f:=(·.1)) hp),D h.2⟩
theorem iV {l D:List (κ×α)} (h:FD l) (G:FD D) (he:∀ k,BK k l=BK k D):l.Perm D:=by
 refine (List.perm_ext_iff_of_nodup (fD h) (fD G)).2 fun p=>?_
 rw [←Prod.eta p,←HH h,←HH G,he]
theorem uS {l D:List (κ×α)} (h:FD l) (hp:l.Perm D) (k:κ) (v:α):(FC k v l).Perm (FC k v D):=by
 have J:FD D:=List.Perm.nodup (hp.map Prod.fst) h
 refine iV (GA h k v) (GA J k v) fun G=>?_
 by_cases e:G=k
 · subst e; rw [BG,BG]
 · rw [BC e,BC e]
   cases hg:BK G l with
   | none=>cases hg':BK G D with
    | none=>rfl
    | some x=>rw [HH J] at hg'; rw [(HH h).2 (hp.mem_iff.2 hg')] at hg; cases hg
   | some x=>rw [HH h] at hg; rw [(HH J).2 (hp.mem_iff.1 hg)]
theorem uT {l D:List (κ×α)} (h:FD l) (hp:l.Perm D) (k:κ):BK k l=BK k D:=by
 have G:FD D:=List.Perm.nodup (hp.map Prod.fst) h
 cases hg:BK k l with
 | none=>cases hg':BK k D with
  | none=>rfl
  | some x=>rw [HH G] at hg'; rw [(HH h).2 (hp.mem_iff.2 hg')] at hg; cases hg
 | some x=>rw [HH h] at hg; rw [(HH G).2 (hp.mem_iff.1 hg)]
omit [DecidableEq κ] in
theorem QJ:∀ (l:List (κ×α)) (i:Nat) (h:i<l.length),(l[i] :: l.eraseIdx i).Perm l
 | _ :: _,0,_=>by simp
 | a :: l,i+1,h=>by
  have:=QJ l i (by simpa using h)
  simp only [List.getElem_cons_succ,List.eraseIdx_cons_succ]
  exact (List.Perm.swap _ _ _).trans (this.cons a)
omit [DecidableEq κ] in
theorem cY {h:List (κ×α)} {A:Prop} {B:κ×α→List (κ×α)→Prop} (G:h=[]→A) (D:∀ p r,h.Perm (p :: r)→B p r):sO h A B:=by
 refine ⟨G,fun i p hp=>D p _ ?_⟩
 obtain ⟨hi,rfl⟩:=List.getElem?_eq_some_iff.1 hp
 exact (QJ h i hi).symm
theorem YG {l:List (κ×α)} {k:κ} {z:α} {C:α→Bool→Prop} (G:∀ v,BK k l=some v→C v true) (D:BK k l=none→C z false):kP l k z C:=by
 unfold kP
 cases h:BK k l with
 | none=>exact D h
 | some v=>exact G v h
end
theorem YH {α:Type} {pre post s:List α} {x:α} (hl:s.length=pre.length+post.length+1) (J:∀ i,i<pre.length→s[i]? = pre[i]?) (G:∀ i,i<post.length→s[pre.length+1+i]? = post[i]?):s.set pre.length x=pre++x :: post:=by
 apply List.ext_getElem?
 intro i
 by_cases e:i=pre.length
 · subst e
   rw [List.getElem?_set_self (by omega),List.getElem?_append_right (by omega)]
   simp
 · rw [List.getElem?_set_ne (by omega)]
   rcases Nat.lt_or_ge i pre.length with h | h
   · rw [J i h,List.getElem?_append_left h]
   · rw [List.getElem?_append_right h]
     obtain ⟨j,rfl⟩:∃ j,i=pre.length+1+j:=⟨i - pre.length - 1,by omega⟩
     rw [show pre.length+1+j - pre.length=j+1 by omega,List.getElem?_cons_succ]
     rcases Nat.lt_or_ge j post.length with D | D
     · exact G j D
     · rw [List.getElem?_eq_none (by omega),List.getElem?_eq_none D]
theorem bQ {α:Type} {le:α→α→Prop} {l D:List α} (hp:l.Perm D) (h:l.Pairwise le) (G:D.Pairwise le) (J:∀ a b,a∈l→b∈l→le a b→le b a→a=b):l=D:=
 hp.eq_of_pairwise (fun a b U O=>J a b U (hp.mem_iff.2 O)) h G
def GR (xs:List Int) (i:Int):Int:=xs.getD i.toNat 0
theorem DM {xs:List Int} {i:Int} {K:Int→Prop} (h:0≤i) (h1:i<xs.length) (hk:K (GR xs i)):AN xs i K:=
 ⟨h,xs[i.toNat]'(by omega),by simp,by simpa [GR,List.getD_eq_getElem?_getD,show i.toNat<xs.length by omega] using hk⟩
end Go.Fw
