/- Plain lemmas, second part: counted loops, maps as lists up to order, lists that are sorted by a key. No program, no memory. -/
import Derived.Test.YtbohadngdkjljaaGreatFwP
namespace Go.Fw
open Go Go.RowKit
theorem AV {τ σ:Type} (mk:σ→Int→τ) {h:τ→(τ→Prop)→Prop} (G n:Nat) {s0:σ} (hn:n≤1000000000000) (D:Nat→σ→Prop) (U:G≤n) (Y:D G s0)
    (Z:∀ (i:Nat) (s:σ) (next:τ→Prop),G≤i→i<n→D i s→(∀ J,D (i+1) J→next (mk J (AJ ((i:Int)+1))))→h (mk s i) next)
    (he:∀ (s:σ) (next:τ→Prop),D n s→h (mk s n) next):BB h (mk s0 G):=by
  have H:∀ (k i:Nat) (s:σ),n - i<k→G≤i→i≤n→D i s→OU h k (mk s i):=by
    intro k
    induction k with
    | zero=>intro i s hk; omega
    | succ k V=>
      intro i s hk W h2 hi
      by_cases e:i=n
      · subst e; exact he s _ hi
      · refine Z i s _ W (by omega) hi fun J O=>?_
        have:=V (i+1) J (by omega) (by omega) (by omega) O
        rw [BE (by omega) (by omega)]
        simpa using this
  exact ⟨n - G+1,H _ _ _ (by omega) (by omega) U Y⟩
theorem DC {D:Int→(Int→Prop)→Prop} (n:Nat) (Y:n≤1000000000000) (R:Nat→Prop) (O:R 0)
    (V:∀ (i:Nat) (next:Int→Prop),i<n→R i→(R (i+1)→next (AJ ((i:Int)+1)))→D i next)
    (he:∀ (next:Int→Prop),R n→D n next):BB D 0:=
  AV (σ:=Unit) (fun _ i=>i) 0 n Y (fun i _=>R i) (by omega) O (fun i _ next _ J U G=>V i next J U fun W=>G () W) (fun _ next h=>he next h) (s0:=())
section
variable {κ α:Type} [DecidableEq κ]
theorem HU {k:κ} {v:α}:∀ {l:List (κ×α)},EY l→(BN k l=some v↔(k,v)∈l)
  | [],_=>by simp [BN]
  | p :: r,h=>by
    unfold EY at h
    simp only [List.map_cons,List.nodup_cons] at h
    simp only [BN,List.mem_cons]
    split
    · rename_i hk
      subst hk
      constructor
      · intro e; left; cases e; rfl
      · rintro (e | e)
        · rw [←e]
        · exact absurd (List.mem_map_of_mem (f:=(·.1)) e) h.1
    · rename_i hk
      rw [HU (l:=r) h.2]
      constructor
      · exact .inr
      · rintro (e | e)
        · exact absurd (congrArg (·.1) e) hk
        · exact e
omit [DecidableEq κ] in
theorem kI {l:List (κ×α)} (h:EY l):l.Nodup:=by
  unfold EY at h
  induction l with
  | nil=>simp
  | cons p r D=>
    simp only [List.map_cons,List.nodup_cons] at h
    rw [List.nodup_cons]
    exact ⟨fun hp=>h.1 (List.mem_map_of_mem (f:=(·.1)) hp),D h.2⟩
theorem ZC {l D:List (κ×α)} (h:EY l) (G:EY D) (he:∀ k,BN k l=BN k D):l.Perm D:=by
  refine (List.perm_ext_iff_of_nodup (kI h) (kI G)).2 fun p=>?_
  rw [←Prod.eta p,←HU h,←HU G,he]
theorem oM {l D:List (κ×α)} (h:EY l) (hp:l.Perm D) (k:κ) (v:α):(EO k v l).Perm (EO k v D):=by
  have G:EY D:=List.Perm.nodup (hp.map Prod.fst) h
  refine ZC (HC h k v) (HC G k v) fun J=>?_
  by_cases e:J=k
  · subst e; rw [BO,BO]
  · rw [BK e,BK e]
    cases hg:BN J l with
    | none=>cases hg':BN J D with
      | none=>rfl
      | some x=>rw [HU G] at hg'; rw [(HU h).2 (hp.mem_iff.2 hg')] at hg; cases hg
    | some x=>rw [HU h] at hg; rw [(HU G).2 (hp.mem_iff.1 hg)]
theorem oN {l D:List (κ×α)} (h:EY l) (hp:l.Perm D) (k:κ):BN k l=BN k D:=by
  have G:EY D:=List.Perm.nodup (hp.map Prod.fst) h
  cases hg:BN k l with
  | none=>cases hg':BN k D with
    | none=>rfl
    | some x=>rw [HU G] at hg'; rw [(HU h).2 (hp.mem_iff.2 hg')] at hg; cases hg
  | some x=>rw [HU h] at hg; rw [(HU G).2 (hp.mem_iff.1 hg)]
omit [DecidableEq κ] in
theorem TD:∀ (l:List (κ×α)) (i:Nat) (h:i<l.length),(l[i] :: l.eraseIdx i).Perm l
  | _ :: _,0,_=>by simp
  | a :: l,i+1,h=>by
    have:=TD l i (by simpa using h)
    simp only [List.getElem_cons_succ,List.eraseIdx_cons_succ]
    exact (List.Perm.swap _ _ _).trans (this.cons a)
omit [DecidableEq κ] in
theorem gU {h:List (κ×α)} {A:Prop} {B:κ×α→List (κ×α)→Prop} (D:h=[]→A) (G:∀ p r,h.Perm (p :: r)→B p r):AaD h A B:=by
  refine ⟨D,fun i p hp=>G p _ ?_⟩
  obtain ⟨hi,rfl⟩:=List.getElem?_eq_some_iff.1 hp
  exact (TD h i hi).symm
theorem WX {l:List (κ×α)} {k:κ} {z:α} {C:α→Bool→Prop} (D:∀ v,BN k l=some v→C v true) (G:BN k l=none→C z false):nC l k z C:=by
  unfold nC
  cases h:BN k l with
  | none=>exact G h
  | some v=>exact D v h
end
theorem kJ {α:Type} {pre post s:List α} {x:α} (hl:s.length=pre.length+post.length+1) (G:∀ i,i<pre.length→s[i]? = pre[i]?) (J:∀ i,i<post.length→s[pre.length+1+i]? = post[i]?):s.set pre.length x=pre++x :: post:=by
  apply List.ext_getElem?
  intro i
  by_cases e:i=pre.length
  · subst e
    rw [List.getElem?_set_self (by omega),List.getElem?_append_right (by omega)]
    simp
  · rw [List.getElem?_set_ne (by omega)]
    rcases Nat.lt_or_ge i pre.length with h | h
    · rw [G i h,List.getElem?_append_left h]
    · rw [List.getElem?_append_right h]
      obtain ⟨j,rfl⟩:∃ j,i=pre.length+1+j:=⟨i - pre.length - 1,by omega⟩
      rw [show pre.length+1+j - pre.length=j+1 by omega,List.getElem?_cons_succ]
      rcases Nat.lt_or_ge j post.length with D | D
      · exact J j D
      · rw [List.getElem?_eq_none (by omega),List.getElem?_eq_none D]
theorem ZD {α:Type} {le:α→α→Prop} {l D:List α} (hp:l.Perm D) (h:l.Pairwise le) (J:D.Pairwise le) (O:∀ a b,a∈l→b∈l→le a b→le b a→a=b):l=D:=
  hp.eq_of_pairwise (fun a b G U=>O a b G (hp.mem_iff.2 U)) h J
def FG (xs:List Int) (i:Int):Int:=xs.getD i.toNat 0
theorem EF {xs:List Int} {i:Int} {K:Int→Prop} (h:0≤i) (h1:i<xs.length) (hk:K (FG xs i)):AY xs i K:=
  ⟨h,xs[i.toNat]'(by omega),by simp,by simpa [FG,List.getD_eq_getElem?_getD,show i.toNat<xs.length by omega] using hk⟩
end Go.Fw
