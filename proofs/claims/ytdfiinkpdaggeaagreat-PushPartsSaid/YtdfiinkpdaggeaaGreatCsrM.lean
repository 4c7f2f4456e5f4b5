/- The statements CsrBack, CsrTurns, CsrCuts, in plain Lean. -/
import Derived.Test.YtdfiinkpdaggeaaGreatCsrL
namespace Go.Proofs.YtdfiinkpdaggeaaGreat
open Go Go.Fw
set_option linter.unusedVariables false
set_option linter.unusedSimpArgs false
theorem nar_inI (a : Wide) : inI (narS a).1 := by
  unfold narS inI
  split
  · simp only [w64_eq]; omega
  · simp
theorem ins_last {r : Int} {k : Key} {v : Wide} {l : List (Key × Wide)} (h : ∀ p ∈ l, ltK p.1 k) : ins r k v l = l ++ [(k, v)] := by
  induction l with
  | nil => rfl
  | cons p l ih => unfold ins; rw [if_pos (h p (by simp)), ih fun q hq => h q (by simp [hq])]; rfl
theorem SC_self {r : Int} {T : List Triple} (h : Srt T) : SC r (T.map kvT) = T.map fun t => (key t, ofI t.Val) := by
  suffices ∀ i, i ≤ T.length → SC r ((T.take i).map kvT) = (T.take i).map fun t => (key t, ofI t.Val) by
    have := this T.length (Nat.le_refl _)
    rwa [List.take_length] at this
  intro i
  induction i with
  | zero => intro _; rfl
  | succ i ih =>
    intro hi
    rw [take_map (show i < T.length by omega), take_map (show i < T.length by omega), SC_snoc, ih (by omega), ins_last]
    · rfl
    · intro p hp
      obtain ⟨t, ht, rfl⟩ := List.mem_map.1 hp
      obtain ⟨j, hj, rfl⟩ := List.getElem_of_mem ht
      simp only [List.length_take] at hj
      rw [List.getElem_take]
      exact List.pairwise_iff_getElem.1 h j i (by omega) (by omega) (by omega)
theorem nar_of {v : Int} (h : inI v) : narS (ofI v) = (v, true) := by
  unfold narS ofI
  unfold inI at h
  simp only
  rw [if_pos]
  · rw [w64_eq]; congr 1; omega
  · split <;> omega
theorem of_self {r rows cols : Int} {T : List Triple} (h : Canon rows cols T) (hv : ∀ t ∈ T, inI t.Val) (hr : 1 ≤ r ∧ r ≤ 5) : ofS r rows cols T = (builtS rows cols T, 0) := by
  have hf : finS (SC r (T.map kvT)) mkT = (T, 0) := by
    rw [SC_self h.srt]
    rw [fin_perm (m := []) (.refl _) (fun p hp => by obtain ⟨t, ht, rfl⟩ := List.mem_map.1 hp; rw [nar_of (hv t ht)])]
    congr 1
    rw [List.map_map]
    refine (List.map_congr_left fun t ht => ?_).trans (List.map_id T)
    simp only [Function.comp_apply, nar_of (hv t ht)]
    rfl
  have h1 := h.r0; have h2 := h.r1; have h3 := h.c0; have h4 := h.c1; have h5 := h.len
  unfold ofS
  rw [if_neg (fun h => h hr), if_neg (fun h => h ⟨h1, h2, h3, h4⟩), if_neg (by omega), if_neg (fun h' => h' h.inn), hf, if_neg (by simp)]
theorem turn_turn {rows cols : Int} {T : List Triple} (h : Canon rows cols T) : turnT rows (turnT cols T) = T := by
  refine srt_ext (turn_srt _ (turn_srt _ h.srt)) h.srt fun t => ?_
  rw [turn_mem (turn_canon h), turn_mem h]; rfl
theorem cut_mem {l h c d : Int} {T : List Triple} (t : Triple) : t ∈ cutT l h c d T ↔ (⟨t.Row + l, t.Col + c, t.Val⟩ : Triple) ∈ T ∧ (0 ≤ t.Row ∧ t.Row + l < h) ∧ 0 ≤ t.Col ∧ t.Col + c < d := by
  unfold cutT
  simp only [List.mem_map, List.mem_filter, decide_eq_true_eq]
  constructor
  · rintro ⟨u, ⟨hu, hc⟩, rfl⟩
    simp only
    rw [show u.Row - l + l = u.Row by omega, show u.Col - c + c = u.Col by omega]
    exact ⟨hu, by omega, by omega, by omega⟩
  · rintro ⟨hm, hc⟩
    refine ⟨_, ⟨hm, ?_⟩, ?_⟩
    · simp only; omega
    · cases t; simp only [Triple.mk.injEq]; exact ⟨by omega, by omega, trivial⟩
end Go.Proofs.YtdfiinkpdaggeaaGreat
