/- Plain lemmas, second part: counted loops, maps as lists up to order, lists that are sorted by a key. No program, no memory. -/
import Derived.Test.YtbohadngdkjljaaGreatFwP
namespace Go.Fw
open Go Go.RowKit
theorem AW {τ σ:Type} (mk:σ→Int→τ) {body:τ→(τ→Prop)→Prop} (i0 n:Nat) {s0:σ} (hn:n≤1000000000000) (Inv:Nat→σ→Prop) (h0:i0≤n) (hI:Inv i0 s0)
    (hs:∀ (i:Nat) (s:σ) (next:τ→Prop),i0≤i→i<n→Inv i s→(∀ s',Inv (i+1) s'→next (mk s' (AH ((i:Int)+1))))→body (mk s i) next)
    (he:∀ (s:σ) (next:τ→Prop),Inv n s→body (mk s n) next):BD body (mk s0 i0):=by
  have H:∀ (k i:Nat) (s:σ),n - i<k→i0≤i→i≤n→Inv i s→NX body k (mk s i):=by
    intro k
    induction k with
    | zero=>intro i s hk; omega
    | succ k ih=>
      intro i s hk h1 h2 hi
      by_cases e:i=n
      · subst e; exact he s _ hi
      · refine hs i s _ h1 (by omega) hi fun s' hi'=>?_
        have:=ih (i+1) s' (by omega) (by omega) (by omega) hi'
        rw [AX (by omega) (by omega)]
        simpa using this
  exact ⟨n - i0+1,H _ _ _ (by omega) (by omega) h0 hI⟩
theorem EC {body:Int→(Int→Prop)→Prop} (n:Nat) (hn:n≤1000000000000) (R:Nat→Prop) (h0:R 0)
    (hs:∀ (i:Nat) (next:Int→Prop),i<n→R i→(R (i+1)→next (AH ((i:Int)+1)))→body i next)
    (he:∀ (next:Int→Prop),R n→body n next):BD body 0:=
  AW (σ:=Unit) (fun _ i=>i) 0 n hn (fun i _=>R i) (by omega) h0 (fun i _ next _ h1 h2 h3=>hs i next h1 h2 fun h4=>h3 () h4) (fun _ next h=>he next h) (s0:=())
section
variable {κ α:Type} [DecidableEq κ]
theorem HO {k:κ} {v:α}:∀ {l:List (κ×α)},EM l→(BM k l=some v↔(k,v)∈l)
  | [],_=>by simp [BM]
  | p :: r,h=>by
    unfold EM at h
    simp only [List.map_cons,List.nodup_cons] at h
    simp only [BM,List.mem_cons]
    split
    · rename_i hk
      subst hk
      constructor
      · intro e; left; cases e; rfl
      · rintro (e | e)
        · rw [←e]
        · exact absurd (List.mem_map_of_mem (f:=(·.1)) e) h.1
    · rename_i hk
      rw [HO (l:=r) h.2]
      constructor
      · exact .inr
      · rintro (e | e)
        · exact absurd (congrArg (·.1) e) hk
        · exact e
omit [DecidableEq κ] in
theorem iK {l:List (κ×α)} (h:EM l):l.Nodup:=by
  unfold EM at h
  induction l with
  | nil=>simp
  | cons p r ih=>
    simp only [List.map_cons,List.nodup_cons] at h
    rw [List.nodup_cons]
    exact ⟨fun hp=>h.1 (List.mem_map_of_mem (f:=(·.1)) hp),ih h.2⟩
theorem dN {l l':List (κ×α)} (h:EM l) (h':EM l') (he:∀ k,BM k l=BM k l'):l.Perm l':=by
  refine (List.perm_ext_iff_of_nodup (iK h) (iK h')).2 fun p=>?_
  rw [←Prod.eta p,←HO h,←HO h',he]
theorem lW {l l':List (κ×α)} (h:EM l) (hp:l.Perm l') (k:κ) (v:α):(EE k v l).Perm (EE k v l'):=by
  have h':EM l':=List.Perm.nodup (hp.map Prod.fst) h
  refine dN (GS h k v) (GS h' k v) fun k'=>?_
  by_cases e:k'=k
  · subst e; rw [BN,BN]
  · rw [BE e,BE e]
    cases hg:BM k' l with
    | none=>cases hg':BM k' l' with
      | none=>rfl
      | some x=>rw [HO h'] at hg'; rw [(HO h).2 (hp.mem_iff.2 hg')] at hg; cases hg
    | some x=>rw [HO h] at hg; rw [(HO h').2 (hp.mem_iff.1 hg)]
theorem lX {l l':List (κ×α)} (h:EM l) (hp:l.Perm l') (k:κ):BM k l=BM k l':=by
  have h':EM l':=List.Perm.nodup (hp.map Prod.fst) h
  cases hg:BM k l with
  | none=>cases hg':BM k l' with
    | none=>rfl
    | some x=>rw [HO h'] at hg'; rw [(HO h).2 (hp.mem_iff.2 hg')] at hg; cases hg
  | some x=>rw [HO h] at hg; rw [(HO h').2 (hp.mem_iff.1 hg)]
omit [DecidableEq κ] in
theorem SA:∀ (l:List (κ×α)) (i:Nat) (h:i<l.length),(l[i] :: l.eraseIdx i).Perm l
  | _ :: _,0,_=>by simp
  | a :: l,i+1,h=>by
    have:=SA l i (by simpa using h)
    simp only [List.getElem_cons_succ,List.eraseIdx_cons_succ]
    exact (List.Perm.swap _ _ _).trans (this.cons a)
omit [DecidableEq κ] in
theorem fA {rest:List (κ×α)} {A:Prop} {B:κ×α→List (κ×α)→Prop} (h1:rest=[]→A) (h2:∀ p r,rest.Perm (p :: r)→B p r):xO rest A B:=by
  refine ⟨h1,fun i p hp=>h2 p _ ?_⟩
  obtain ⟨hi,rfl⟩:=List.getElem?_eq_some_iff.1 hp
  exact (SA rest i hi).symm
theorem W3 {l:List (κ×α)} {k:κ} {z:α} {C:α→Bool→Prop} (h1:∀ v,BM k l=some v→C v true) (h2:BM k l=none→C z false):kW l k z C:=by
  unfold kW
  cases h:BM k l with
  | none=>exact h2 h
  | some v=>exact h1 v h
end
theorem dO {α:Type} {le:α→α→Prop} {l l':List α} (hp:l.Perm l') (h:l.Pairwise le) (h':l'.Pairwise le) (ha:∀ a b,a∈l→b∈l→le a b→le b a→a=b):l=l':=
  hp.eq_of_pairwise (fun a b h1 h2=>ha a b h1 (hp.mem_iff.2 h2)) h h'
def EQ (xs:List Int) (i:Int):Int:=xs.getD i.toNat 0
theorem FZ {xs:List Int} {i:Int} {K:Int→Prop} (h0:0≤i) (h1:i<xs.length) (hk:K (EQ xs i)):BA xs i K:=
  ⟨h0,xs[i.toNat]'(by omega),by simp,by simpa [EQ,List.getD_eq_getElem?_getD,show i.toNat<xs.length by omega] using hk⟩
end Go.Fw
