/- Plain lemmas, second part: counted loops, maps as lists up to order, lists that are sorted by a key. No program, no memory. -/
import Derived.Test.YtbohadngdkjljaaGreatFwP
namespace Go.Fw
open Go Go.RowKit
theorem BE {τ σ:Type} (mk:σ→Int→τ) {body:τ→(τ→Prop)→Prop} (i0 n:Nat) {s0:σ} (hn:n≤1000000000000) (Inv:Nat→σ→Prop) (h0:i0≤n) (hI:Inv i0 s0)
    (hs:∀ (i:Nat) (s:σ) (next:τ→Prop),i0≤i→i<n→Inv i s→(∀ s',Inv (i+1) s'→next (mk s' (AJ ((i:Int)+1))))→body (mk s i) next)
    (he:∀ (s:σ) (next:τ→Prop),Inv n s→body (mk s n) next):BK body (mk s0 i0):=by
  have H:∀ (k i:Nat) (s:σ),n - i<k→i0≤i→i≤n→Inv i s→OA body k (mk s i):=by
    intro k
    induction k with
    | zero=>intro i s hk; omega
    | succ k ih=>
      intro i s hk h1 h2 hi
      by_cases e:i=n
      · subst e; exact he s _ hi
      · refine hs i s _ h1 (by omega) hi fun s' hi'=>?_
        have:=ih (i+1) s' (by omega) (by omega) (by omega) hi'
        rw [AX (by omega) (by omega)]
        simpa using this
  exact ⟨n - i0+1,H _ _ _ (by omega) (by omega) h0 hI⟩
theorem EO {body:Int→(Int→Prop)→Prop} (n:Nat) (hn:n≤1000000000000) (R:Nat→Prop) (h0:R 0)
    (hs:∀ (i:Nat) (next:Int→Prop),i<n→R i→(R (i+1)→next (AJ ((i:Int)+1)))→body i next)
    (he:∀ (next:Int→Prop),R n→body n next):BK body 0:=
  BE (σ:=Unit) (fun _ i=>i) 0 n hn (fun i _=>R i) (by omega) h0 (fun i _ next _ h1 h2 h3=>hs i next h1 h2 fun h4=>h3 () h4) (fun _ next h=>he next h) (s0:=())
section
variable {κ α:Type} [DecidableEq κ]
theorem HW {k:κ} {v:α}:∀ {l:List (κ×α)},FQ l→(BS k l=some v↔(k,v)∈l)
  | [],_=>by simp [BS]
  | p :: r,h=>by
    unfold FQ at h
    simp only [List.map_cons,List.nodup_cons] at h
    simp only [BS,List.mem_cons]
    split
    · rename_i hk
      subst hk
      constructor
      · intro e; left; cases e; rfl
      · rintro (e | e)
        · rw [←e]
        · exact absurd (List.mem_map_of_mem (f:=(·.1)) e) h.1
    · rename_i hk
      rw [HW (l:=r) h.2]
      constructor
      · exact .inr
      · rintro (e | e)
        · exact absurd (congrArg (·.1) e) hk
        · exact e
omit [DecidableEq κ] in
theorem gY {l:List (κ×α)} (h:FQ l):l.Nodup:=by
  unfold FQ at h
  induction l with
  | nil=>simp
  | cons p r ih=>
    simp only [List.map_cons,List.nodup_cons] at h
    rw [List.nodup_cons]
    exact ⟨fun hp=>h.1 (List.mem_map_of_mem (f:=(·.1)) hp),ih h.2⟩
theorem kP {l l':List (κ×α)} (h:FQ l) (h':FQ l') (he:∀ k,BS k l=BS k l'):l.Perm l':=by
  refine (List.perm_ext_iff_of_nodup (gY h) (gY h')).2 fun p=>?_
  rw [←Prod.eta p,←HW h,←HW h',he]
theorem wL {l l':List (κ×α)} (h:FQ l) (hp:l.Perm l') (k:κ) (v:α):(EY k v l).Perm (EY k v l'):=by
  have h':FQ l':=List.Perm.nodup (hp.map Prod.fst) h
  refine kP (GW h k v) (GW h' k v) fun k'=>?_
  by_cases e:k'=k
  · subst e; rw [BP,BP]
  · rw [BI e,BI e]
    cases hg:BS k' l with
    | none=>cases hg':BS k' l' with
      | none=>rfl
      | some x=>rw [HW h'] at hg'; rw [(HW h).2 (hp.mem_iff.2 hg')] at hg; cases hg
    | some x=>rw [HW h] at hg; rw [(HW h').2 (hp.mem_iff.1 hg)]
theorem wM {l l':List (κ×α)} (h:FQ l) (hp:l.Perm l') (k:κ):BS k l=BS k l':=by
  have h':FQ l':=List.Perm.nodup (hp.map Prod.fst) h
  cases hg:BS k l with
  | none=>cases hg':BS k l' with
    | none=>rfl
    | some x=>rw [HW h'] at hg'; rw [(HW h).2 (hp.mem_iff.2 hg')] at hg; cases hg
  | some x=>rw [HW h] at hg; rw [(HW h').2 (hp.mem_iff.1 hg)]
omit [DecidableEq κ] in
theorem RX:∀ (l:List (κ×α)) (i:Nat) (h:i<l.length),(l[i] :: l.eraseIdx i).Perm l
  | _ :: _,0,_=>by simp
  | a :: l,i+1,h=>by
    have:=RX l i (by simpa using h)
    simp only [List.getElem_cons_succ,List.eraseIdx_cons_succ]
    exact (List.Perm.swap _ _ _).trans (this.cons a)
omit [DecidableEq κ] in
theorem eS {rest:List (κ×α)} {A:Prop} {B:κ×α→List (κ×α)→Prop} (h1:rest=[]→A) (h2:∀ p r,rest.Perm (p :: r)→B p r):uM rest A B:=by
  refine ⟨h1,fun i p hp=>h2 p _ ?_⟩
  obtain ⟨hi,rfl⟩:=List.getElem?_eq_some_iff.1 hp
  exact (RX rest i hi).symm
theorem ZX {l:List (κ×α)} {k:κ} {z:α} {C:α→Bool→Prop} (h1:∀ v,BS k l=some v→C v true) (h2:BS k l=none→C z false):mC l k z C:=by
  unfold mC
  cases h:BS k l with
  | none=>exact h2 h
  | some v=>exact h1 v h
end
theorem gZ {α:Type} {pre post s:List α} {x:α} (hl:s.length=pre.length+post.length+1) (h1:∀ i,i<pre.length→s[i]? = pre[i]?) (h2:∀ i,i<post.length→s[pre.length+1+i]? = post[i]?):s.set pre.length x=pre++x :: post:=by
  apply List.ext_getElem?
  intro i
  by_cases e:i=pre.length
  · subst e
    rw [List.getElem?_set_self (by omega),List.getElem?_append_right (by omega)]
    simp
  · rw [List.getElem?_set_ne (by omega)]
    rcases Nat.lt_or_ge i pre.length with h | h
    · rw [h1 i h,List.getElem?_append_left h]
    · rw [List.getElem?_append_right h]
      obtain ⟨j,rfl⟩:∃ j,i=pre.length+1+j:=⟨i - pre.length - 1,by omega⟩
      rw [show pre.length+1+j - pre.length=j+1 by omega,List.getElem?_cons_succ]
      rcases Nat.lt_or_ge j post.length with hj | hj
      · exact h2 j hj
      · rw [List.getElem?_eq_none (by omega),List.getElem?_eq_none hj]
theorem dJ {α:Type} {le:α→α→Prop} {l l':List α} (hp:l.Perm l') (h:l.Pairwise le) (h':l'.Pairwise le) (ha:∀ a b,a∈l→b∈l→le a b→le b a→a=b):l=l':=
  hp.eq_of_pairwise (fun a b h1 h2=>ha a b h1 (hp.mem_iff.2 h2)) h h'
def HI (xs:List Int) (i:Int):Int:=xs.getD i.toNat 0
theorem DQ {xs:List Int} {i:Int} {K:Int→Prop} (h0:0≤i) (h1:i<xs.length) (hk:K (HI xs i)):BC xs i K:=
  ⟨h0,xs[i.toNat]'(by omega),by simp,by simpa [HI,List.getD_eq_getElem?_getD,show i.toNat<xs.length by omega] using hk⟩
end Go.Fw
