/- Plain lemmas, second part: counted loops, maps as lists up to order, lists that are sorted by a key. No program, no memory. -/
import Derived.Test.YtbohadngdkjljaaGreatFwP
namespace Go.Fw
open Go Go.RowKit
theorem AU {τ σ:Type} (mk:σ→Int→τ) {body:τ→(τ→Prop)→Prop} (i0 n:Nat) {s0:σ} (hn:n≤1000000000000) (Inv:Nat→σ→Prop) (h0:i0≤n) (hI:Inv i0 s0)
    (hs:∀ (i:Nat) (s:σ) (next:τ→Prop),i0≤i→i<n→Inv i s→(∀ s',Inv (i+1) s'→next (mk s' (AH ((i:Int)+1))))→body (mk s i) next)
    (he:∀ (s:σ) (next:τ→Prop),Inv n s→body (mk s n) next):BE body (mk s0 i0):=by
  have H:∀ (k i:Nat) (s:σ),n - i<k→i0≤i→i≤n→Inv i s→NY body k (mk s i):=by
    intro k
    induction k with
    | zero=>intro i s hk; omega
    | succ k ih=>
      intro i s hk h1 h2 hi
      by_cases e:i=n
      · subst e; exact he s _ hi
      · refine hs i s _ h1 (by omega) hi fun s' hi'=>?_
        have:=ih (i+1) s' (by omega) (by omega) (by omega) hi'
        rw [AY (by omega) (by omega)]
        simpa using this
  exact ⟨n - i0+1,H _ _ _ (by omega) (by omega) h0 hI⟩
theorem EM {body:Int→(Int→Prop)→Prop} (n:Nat) (hn:n≤1000000000000) (R:Nat→Prop) (h0:R 0)
    (hs:∀ (i:Nat) (next:Int→Prop),i<n→R i→(R (i+1)→next (AH ((i:Int)+1)))→body i next)
    (he:∀ (next:Int→Prop),R n→body n next):BE body 0:=
  AU (σ:=Unit) (fun _ i=>i) 0 n hn (fun i _=>R i) (by omega) h0 (fun i _ next _ h1 h2 h3=>hs i next h1 h2 fun h4=>h3 () h4) (fun _ next h=>he next h) (s0:=())
section
variable {κ α:Type} [DecidableEq κ]
theorem HP {k:κ} {v:α}:∀ {l:List (κ×α)},EL l→(BM k l=some v↔(k,v)∈l)
  | [],_=>by simp [BM]
  | p :: r,h=>by
    unfold EL at h
    simp only [List.map_cons,List.nodup_cons] at h
    simp only [BM,List.mem_cons]
    split
    · rename_i hk
      subst hk
      constructor
      · intro e; left; cases e; rfl
      · rintro (e | e)
        · rw [←e]
        · exact absurd (List.mem_map_of_mem (f:=(·.1)) e) h.1
    · rename_i hk
      rw [HP (l:=r) h.2]
      constructor
      · exact .inr
      · rintro (e | e)
        · exact absurd (congrArg (·.1) e) hk
        · exact e
omit [DecidableEq κ] in
theorem iL {l:List (κ×α)} (h:EL l):l.Nodup:=by
  unfold EL at h
  induction l with
  | nil=>simp
  | cons p r ih=>
    simp only [List.map_cons,List.nodup_cons] at h
    rw [List.nodup_cons]
    exact ⟨fun hp=>h.1 (List.mem_map_of_mem (f:=(·.1)) hp),ih h.2⟩
theorem dQ {l l':List (κ×α)} (h:EL l) (h':EL l') (he:∀ k,BM k l=BM k l'):l.Perm l':=by
  refine (List.perm_ext_iff_of_nodup (iL h) (iL h')).2 fun p=>?_
  rw [←Prod.eta p,←HP h,←HP h',he]
theorem lU {l l':List (κ×α)} (h:EL l) (hp:l.Perm l') (k:κ) (v:α):(ED k v l).Perm (ED k v l'):=by
  have h':EL l':=List.Perm.nodup (hp.map Prod.fst) h
  refine dQ (GS h k v) (GS h' k v) fun k'=>?_
  by_cases e:k'=k
  · subst e; rw [BN,BN]
  · rw [BD e,BD e]
    cases hg:BM k' l with
    | none=>cases hg':BM k' l' with
      | none=>rfl
      | some x=>rw [HP h'] at hg'; rw [(HP h).2 (hp.mem_iff.2 hg')] at hg; cases hg
    | some x=>rw [HP h] at hg; rw [(HP h').2 (hp.mem_iff.1 hg)]
theorem lV {l l':List (κ×α)} (h:EL l) (hp:l.Perm l') (k:κ):BM k l=BM k l':=by
  have h':EL l':=List.Perm.nodup (hp.map Prod.fst) h
  cases hg:BM k l with
  | none=>cases hg':BM k l' with
    | none=>rfl
    | some x=>rw [HP h'] at hg'; rw [(HP h).2 (hp.mem_iff.2 hg')] at hg; cases hg
  | some x=>rw [HP h] at hg; rw [(HP h').2 (hp.mem_iff.1 hg)]
omit [DecidableEq κ] in
theorem SB:∀ (l:List (κ×α)) (i:Nat) (h:i<l.length),(l[i] :: l.eraseIdx i).Perm l
  | _ :: _,0,_=>by simp
  | a :: l,i+1,h=>by
    have:=SB l i (by simpa using h)
    simp only [List.getElem_cons_succ,List.eraseIdx_cons_succ]
    exact (List.Perm.swap _ _ _).trans (this.cons a)
omit [DecidableEq κ] in
theorem fB {rest:List (κ×α)} {A:Prop} {B:κ×α→List (κ×α)→Prop} (h1:rest=[]→A) (h2:∀ p r,rest.Perm (p :: r)→B p r):xH rest A B:=by
  refine ⟨h1,fun i p hp=>h2 p _ ?_⟩
  obtain ⟨hi,rfl⟩:=List.getElem?_eq_some_iff.1 hp
  exact (SB rest i hi).symm
theorem W3 {l:List (κ×α)} {k:κ} {z:α} {C:α→Bool→Prop} (h1:∀ v,BM k l=some v→C v true) (h2:BM k l=none→C z false):kT l k z C:=by
  unfold kT
  cases h:BM k l with
  | none=>exact h2 h
  | some v=>exact h1 v h
end
theorem dR {α:Type} {le:α→α→Prop} {l l':List α} (hp:l.Perm l') (h:l.Pairwise le) (h':l'.Pairwise le) (ha:∀ a b,a∈l→b∈l→le a b→le b a→a=b):l=l':=
  hp.eq_of_pairwise (fun a b h1 h2=>ha a b h1 (hp.mem_iff.2 h2)) h h'
def ES (xs:List Int) (i:Int):Int:=xs.getD i.toNat 0
theorem GB {xs:List Int} {i:Int} {K:Int→Prop} (h0:0≤i) (h1:i<xs.length) (hk:K (ES xs i)):BF xs i K:=
  ⟨h0,xs[i.toNat]'(by omega),by simp,by simpa [ES,List.getD_eq_getElem?_getD,show i.toNat<xs.length by omega] using hk⟩
end Go.Fw
