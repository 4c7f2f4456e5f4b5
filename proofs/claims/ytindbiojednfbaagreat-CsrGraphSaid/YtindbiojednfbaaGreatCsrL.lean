/- The statement CsrGraph, in plain Lean. -/
import Derived.Test.YtindbiojednfbaaGreatCsrK
namespace Go.Proofs.YtindbiojednfbaaGreat
open Go Go.Fw
set_option linter.unusedVariables false
set_option linter.unusedSimpArgs false
/-- what a key ends with, whatever the order of the keys -/
def endK (r : Int) (k : Key) (ts : List (Key × Int)) : Option Wide := ts.foldl (fun o t => if k = t.1 then some (match o with | some w => addW r w (ofI t.2) | none => ofI t.2) else o) none
theorem SC_get (r : Int) (k : Key) (ts : List (Key × Int)) : mget k (SC r ts) = endK r k ts := by
  suffices ∀ (ts : List (Key × Int)) (l : List (Key × Wide)), srt l → mget k (ts.foldl (fun l t => ins r t.1 (ofI t.2) l) l) = ts.foldl (fun o t => if k = t.1 then some (match o with | some w => addW r w (ofI t.2) | none => ofI t.2) else o) (mget k l) from this ts [] .nil
  intro ts
  induction ts with
  | nil => intro l _; rfl
  | cons t ts ih =>
    intro l h
    simp only [List.foldl_cons]
    rw [ih _ (ins_srt h), ins_get k h]
    congr 1
    by_cases e : k = t.1
    · subst e; rfl
    · rw [if_neg e, if_neg e]
def sw (p : Key × Wide) : Key × Wide := ((p.1.2, p.1.1), p.2)
theorem sw_get (k : Key) : ∀ l : List (Key × Wide), mget k (l.map sw) = mget (k.2, k.1) l
  | [] => rfl
  | p :: l => by
    obtain ⟨⟨a, b⟩, w⟩ := p
    obtain ⟨c, d⟩ := k
    simp only [List.map_cons, mget, sw, sw_get (c, d) l, Prod.mk.injEq]
    by_cases e : c = b ∧ d = a
    · rw [if_pos e, if_pos ⟨e.2, e.1⟩]
    · rw [if_neg e, if_neg fun h => e ⟨h.2, h.1⟩]
theorem sw_keys {l : List (Key × Wide)} (h : keysOk l) : keysOk (l.map sw) := by
  unfold keysOk at *
  rw [List.nodup_iff_pairwise_ne, List.pairwise_map] at h
  rw [List.nodup_iff_pairwise_ne, List.pairwise_map, List.pairwise_map]
  refine List.Pairwise.imp (fun {a b} hab e => hab ?_) h
  obtain ⟨⟨a1, a2⟩, w⟩ := a
  obtain ⟨⟨b1, b2⟩, v⟩ := b
  simp only [sw, Prod.mk.injEq] at *
  exact ⟨e.2, e.1⟩
theorem sw_perm (es : List Edge) : ((SC 1 (es.map kvE)).map sw).Perm (SC 1 (es.map kvF)) := by
  refine maps_perm (sw_keys (srt_keys (SC_srt _ _))) (srt_keys (SC_srt _ _)) fun k => ?_
  rw [sw_get, SC_get, SC_get]
  unfold endK
  rw [List.foldl_map, List.foldl_map]
  congr 1
  funext o e
  obtain ⟨c, d⟩ := k
  simp only [kvE, kvF, Prod.mk.injEq]
  by_cases h : d = e.From ∧ c = e.To
  · rw [if_pos h, if_pos ⟨h.2, h.1⟩]
  · rw [if_neg h, if_neg fun h' => h ⟨h'.2, h'.1⟩]
theorem nar_ofI {v : Int} (h : inI v) : narS (ofI v) = (v, true) := by
  unfold narS ofI
  unfold inI at h
  simp only
  rw [if_pos]
  · rw [w64_eq]; congr 1; omega
  · split <;> omega
theorem SC_one (ts : List (Key × Int)) (hv : ∀ t ∈ ts, inI t.2) : ∀ p ∈ SC 1 ts, ∃ v, inI v ∧ p.2 = ofI v := by
  suffices ∀ (ts : List (Key × Int)) (l : List (Key × Wide)), (∀ t ∈ ts, inI t.2) → (∀ p ∈ l, ∃ v, inI v ∧ p.2 = ofI v) → ∀ p ∈ ts.foldl (fun l t => ins 1 t.1 (ofI t.2) l) l, ∃ v, inI v ∧ p.2 = ofI v from this ts [] hv (by simp)
  have hins : ∀ (k : Key) (v : Int), inI v → ∀ l : List (Key × Wide), (∀ p ∈ l, ∃ v, inI v ∧ p.2 = ofI v) → ∀ p ∈ ins 1 k (ofI v) l, ∃ v, inI v ∧ p.2 = ofI v := by
    intro k v hv l
    induction l with
    | nil => intro _ p hp; simp [ins] at hp; exact ⟨v, hv, by rw [hp]⟩
    | cons q l ih =>
      intro h p hp
      unfold ins at hp
      split at hp
      · rcases List.mem_cons.1 hp with rfl | hp
        · exact h _ (by simp)
        · exact ih (fun x hx => h x (by simp [hx])) p hp
      · split at hp
        · rcases List.mem_cons.1 hp with rfl | hp
          · obtain ⟨u, hu, e⟩ := h q (by simp)
            unfold addW
            simp only [true_or, if_true]
            split
            · exact ⟨u, hu, e⟩
            · exact ⟨v, hv, rfl⟩
          · exact h p (by simp [hp])
        · rcases List.mem_cons.1 hp with rfl | hp
          · exact ⟨v, hv, rfl⟩
          · exact h p hp
  intro ts
  induction ts with
  | nil => intro l _ h; exact h
  | cons t ts ih => intro l ht h; exact ih _ (fun x hx => ht x (by simp [hx])) (hins _ _ (ht t (by simp)) l h)
theorem fin_one {α : Type} {mk : Key → Int → α} {ts : List (Key × Int)} (hv : ∀ t ∈ ts, inI t.2) : finS (SC 1 ts) mk = ((SC 1 ts).map (fun p => mk p.1 (narS p.2).1), 0) := by
  refine fin_perm (m := []) (.refl _) fun p hp => ?_
  obtain ⟨v, h1, h2⟩ := SC_one ts hv p hp
  rw [h2, nar_ofI h1]
theorem CsrGraph_ok (a0 : Graph) : law07_CsrGraph a0 (fun r => r = true) := by
  unfold law07_CsrGraph
  refine join_intro (fun _ => True) (fun _ _ => ?_) fun k hk => ?_
  rotate_left
  · refine ifP_dec (fun _ => ifP_dec (fun _ => live_ok rfl) (fun _ => ifP_dec (fun _ => ifP_dec (fun _ => live_ok rfl) (fun _ => hk () trivial)) (fun _ => hk () trivial))) (fun _ => ifP_dec (fun _ => ifP_dec (fun _ => live_ok rfl) (fun _ => hk () trivial)) (fun _ => hk () trivial))
  refine graph_ok (ref_graph_right_ok ?_)
  unfold graphS
  by_cases h0 : rightG a0 = 0
  · rw [if_pos h0, h0]
    refine ifP_neg (by simp) (ifP_neg (by simp) ?_)
    obtain ⟨h1, h2, h3, h4, h5⟩ := rightG_zero h0
    have hcan := graph_canon h0
    have hs := sure_built hcan
    have hvE : ∀ t ∈ a0.Edges, inI t.W := fun e he => by
      have := h5 e he
      unfold wOk at this
      unfold inI
      omega
    have hv1 : ∀ t ∈ a0.Edges.map kvE, inI t.2 := fun t ht => by obtain ⟨e, he, rfl⟩ := List.mem_map.1 ht; exact hvE e he
    have hv2 : ∀ t ∈ a0.Edges.map kvF, inI t.2 := fun t ht => by obtain ⟨e, he, rfl⟩ := List.mem_map.1 ht; exact hvE e he
    have hperm := sw_perm a0.Edges
    have hT : graphT a0 = (SC 1 (a0.Edges.map kvF)).map (fun p => mkT p.1 (narS p.2).1) := by unfold graphT; rw [fin_one hv2]
    unfold ref05_Canon
    refine ref_combine_ok (by omega) (by omega) hvE ?_
    rw [fin_one hv1]
    dsimp only
    have hlen : ((SC 1 (a0.Edges.map kvE)).map (fun p => mkE p.1 (narS p.2).1)).length = (graphT a0).length := by
      rw [hT]
      have := hperm.length_eq
      simpa using this
    have hget : ∀ e ∈ (SC 1 (a0.Edges.map kvE)).map (fun p => mkE p.1 (narS p.2).1), getS (graphT a0) e.To e.From = (e.W, true) := by
      intro e he
      obtain ⟨p, hp, rfl⟩ := List.mem_map.1 he
      have hm : mkT (sw p).1 (narS (sw p).2).1 ∈ graphT a0 := by
        rw [hT]
        exact List.mem_map_of_mem (f := fun p : Key × Wide => mkT p.1 (narS p.2).1) (hperm.mem_iff.1 (List.mem_map_of_mem hp))
      exact get_mem hcan.srt hm rfl
    generalize (SC 1 (a0.Edges.map kvE)).map (fun p => mkE p.1 (narS p.2).1) = es at hlen hget
    have hel : es.length ≤ 65536 := by have := hcan.len; omega
    refine scan_intro es.length (by omega) (fun _ => True) trivial (fun i next hi _ hn => ?_) (fun next _ => ?_)
    · refine ifP_dec (fun _ => ?_) (fun h => by omega)
      refine idxP_nat hi (idxP_nat hi (csr_get_ok hcan.sml hs hcan ?_))
      rw [hget _ (List.getElem_mem hi)]
      exact ifP_neg rfl (idxP_nat hi (ifP_neg (by simp) (hn trivial)))
    · refine ifP_dec (fun h => by omega) (fun _ => live_ok (ifP_pos rfl (right_ok hcan.sml (ifP_pos (decide_eq_true hcan.right) ?_))))
      refine ifP_pos (by simp [builtS]) (ifP_pos (by simp [builtS]) (csr_count_ok hcan.sml hs ?_))
      simp; omega
  · rw [if_neg h0]
    refine ifP_neg (by simp) (ifP_pos (by simpa using h0) (live_ok (ifP_pos rfl (same_ok small_zR ?_))))
    exact decide_eq_true rfl
end Go.Proofs.YtindbiojednfbaaGreat
