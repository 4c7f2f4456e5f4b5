/- Plain lemmas, second part: counted loops, maps as lists up to order, lists that are sorted by a key. No program, no memory. -/
import Derived.Test.YtaefnmlbnkmahaaGreatFwP
namespace Go.Fw
open Go Go.RowKit
theorem range_intro {τ σ:Type} (mk:σ→Int→τ) {body:τ→(τ→Prop)→Prop} (i0 n:Nat) {s0:σ} (hn:n≤1000000000000) (Inv:Nat→σ→Prop) (h0:i0≤n) (hI:Inv i0 s0)
    (hs:∀ (i:Nat) (s:σ) (next:τ→Prop),i0≤i→i<n→Inv i s→(∀ s',Inv (i+1) s'→next (mk s' (w64 ((i:Int)+1))))→body (mk s i) next)
    (he:∀ (s:σ) (next:τ→Prop),Inv n s→body (mk s n) next):loopP body (mk s0 i0):=by
  have H:∀ (k i:Nat) (s:σ),n - i<k→i0≤i→i≤n→Inv i s→iterP body k (mk s i):=by
    intro k
    induction k with
    | zero=>intro i s hk; omega
    | succ k ih=>
      intro i s hk h1 h2 hi
      by_cases e:i=n
      · subst e; exact he s _ hi
      · refine hs i s _ h1 (by omega) hi fun s' hi'=>?_
        have:=ih (i+1) s' (by omega) (by omega) (by omega) hi'
        rw [w64_id (by omega) (by omega)]
        simpa using this
  exact ⟨n - i0+1,H _ _ _ (by omega) (by omega) h0 hI⟩
theorem scan_intro {body:Int→(Int→Prop)→Prop} (n:Nat) (hn:n≤1000000000000) (R:Nat→Prop) (h0:R 0)
    (hs:∀ (i:Nat) (next:Int→Prop),i<n→R i→(R (i+1)→next (w64 ((i:Int)+1)))→body i next)
    (he:∀ (next:Int→Prop),R n→body n next):loopP body 0:=
  range_intro (σ:=Unit) (fun _ i=>i) 0 n hn (fun i _=>R i) (by omega) h0 (fun i _ next _ h1 h2 h3=>hs i next h1 h2 fun h4=>h3 () h4) (fun _ next h=>he next h) (s0:=())
section
variable {κ α:Type} [DecidableEq κ]
theorem mget_iff {k:κ} {v:α}:∀ {l:List (κ×α)},keysOk l→(mget k l=some v↔(k,v)∈l)
  | [],_=>by simp [mget]
  | p :: r,h=>by
    unfold keysOk at h
    simp only [List.map_cons,List.nodup_cons] at h
    simp only [mget,List.mem_cons]
    split
    · rename_i hk
      subst hk
      constructor
      · intro e; left; cases e; rfl
      · rintro (e | e)
        · rw [←e]
        · exact absurd (List.mem_map_of_mem (f:=(·.1)) e) h.1
    · rename_i hk
      rw [mget_iff (l:=r) h.2]
      constructor
      · exact .inr
      · rintro (e | e)
        · exact absurd (congrArg (·.1) e) hk
        · exact e
omit [DecidableEq κ] in
theorem keys_nodup {l:List (κ×α)} (h:keysOk l):l.Nodup:=by
  unfold keysOk at h
  induction l with
  | nil=>simp
  | cons p r ih=>
    simp only [List.map_cons,List.nodup_cons] at h
    rw [List.nodup_cons]
    exact ⟨fun hp=>h.1 (List.mem_map_of_mem (f:=(·.1)) hp),ih h.2⟩
theorem maps_perm {l l':List (κ×α)} (h:keysOk l) (h':keysOk l') (he:∀ k,mget k l=mget k l'):l.Perm l':=by
  refine (List.perm_ext_iff_of_nodup (keys_nodup h) (keys_nodup h')).2 fun p=>?_
  rw [←Prod.eta p,←mget_iff h,←mget_iff h',he]
theorem mput_perm {l l':List (κ×α)} (h:keysOk l) (hp:l.Perm l') (k:κ) (v:α):(mput k v l).Perm (mput k v l'):=by
  have h':keysOk l':=List.Perm.nodup (hp.map Prod.fst) h
  refine maps_perm (keysOk_mput h k v) (keysOk_mput h' k v) fun k'=>?_
  by_cases e:k'=k
  · subst e; rw [mget_mput_same,mget_mput_same]
  · rw [mget_mput_other e,mget_mput_other e]
    cases hg:mget k' l with
    | none=>cases hg':mget k' l' with
      | none=>rfl
      | some x=>rw [mget_iff h'] at hg'; rw [(mget_iff h).2 (hp.mem_iff.2 hg')] at hg; cases hg
    | some x=>rw [mget_iff h] at hg; rw [(mget_iff h').2 (hp.mem_iff.1 hg)]
theorem mget_perm {l l':List (κ×α)} (h:keysOk l) (hp:l.Perm l') (k:κ):mget k l=mget k l':=by
  have h':keysOk l':=List.Perm.nodup (hp.map Prod.fst) h
  cases hg:mget k l with
  | none=>cases hg':mget k l' with
    | none=>rfl
    | some x=>rw [mget_iff h'] at hg'; rw [(mget_iff h).2 (hp.mem_iff.2 hg')] at hg; cases hg
  | some x=>rw [mget_iff h] at hg; rw [(mget_iff h').2 (hp.mem_iff.1 hg)]
omit [DecidableEq κ] in
theorem getElem_erase_perm:∀ (l:List (κ×α)) (i:Nat) (h:i<l.length),(l[i] :: l.eraseIdx i).Perm l
  | _ :: _,0,_=>by simp
  | a :: l,i+1,h=>by
    have:=getElem_erase_perm l i (by simpa using h)
    simp only [List.getElem_cons_succ,List.eraseIdx_cons_succ]
    exact (List.Perm.swap _ _ _).trans (this.cons a)
omit [DecidableEq κ] in
theorem nextP_intro {rest:List (κ×α)} {A:Prop} {B:κ×α→List (κ×α)→Prop} (h1:rest=[]→A) (h2:∀ p r,rest.Perm (p :: r)→B p r):nextP rest A B:=by
  refine ⟨h1,fun i p hp=>h2 p _ ?_⟩
  obtain ⟨hi,rfl⟩:=List.getElem?_eq_some_iff.1 hp
  exact (getElem_erase_perm rest i hi).symm
theorem lk2P_intro {l:List (κ×α)} {k:κ} {z:α} {C:α→Bool→Prop} (h1:∀ v,mget k l=some v→C v true) (h2:mget k l=none→C z false):lk2P l k z C:=by
  unfold lk2P
  cases h:mget k l with
  | none=>exact h2 h
  | some v=>exact h1 v h
end
theorem sorted_eq {α:Type} {le:α→α→Prop} {l l':List α} (hp:l.Perm l') (h:l.Pairwise le) (h':l'.Pairwise le) (ha:∀ a b,a∈l→b∈l→le a b→le b a→a=b):l=l':=
  hp.eq_of_pairwise (fun a b h1 h2=>ha a b h1 (hp.mem_iff.2 h2)) h h'
def at0 (xs:List Int) (i:Int):Int:=xs.getD i.toNat 0
theorem idxP_at0 {xs:List Int} {i:Int} {K:Int→Prop} (h0:0≤i) (h1:i<xs.length) (hk:K (at0 xs i)):idxP xs i K:=
  ⟨h0,xs[i.toNat]'(by omega),by simp,by simpa [at0,List.getD_eq_getElem?_getD,show i.toNat<xs.length by omega] using hk⟩
theorem at0_mem {xs:List Int} {i:Int} (h0:0≤i) (h1:i<xs.length):at0 xs i∈xs:=by
  have:i.toNat<xs.length:=by omega
  simp [at0,List.getD_eq_getElem?_getD,this]
end Go.Fw
