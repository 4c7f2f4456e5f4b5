/- The reference's Of; what is the same; what is right. -/
import Derived.Test.YtdfiinkpdaggeaaGreatCsrD
namespace Go.Proofs.YtdfiinkpdaggeaaGreat
open Go Go.Fw
set_option linter.unusedVariables false
set_option linter.unusedSimpArgs false
def t2e (t : Triple) : Edge := ⟨t.Row, t.Col, t.Val⟩
def e2t (e : Edge) : Triple := ⟨e.From, e.To, e.W⟩
theorem finT (l : List (Key × Wide)) : (finS l mkT).1 = (finS l mkE).1.map e2t ∧ (finS l mkT).2 = (finS l mkE).2 := by
  unfold finS
  split
  · exact ⟨by simp only [List.map_map]; rfl, rfl⟩
  · exact ⟨rfl, rfl⟩
theorem ref_Of_ok {r rows cols : Int} {ts : List Triple} {Q : Rows × Int → Prop} (hl : ts.length ≤ 1000000000000) (hv : ∀ t ∈ ts, inI t.Val) (hQ : Q (ofS r rows cols ts)) : ref07_Of r rows cols ts Q := by
  unfold ref07_Of
  unfold ofS at hQ
  refine ref02_Is_ok (ifP_not (fun h => ?_) (fun h => ?_))
  · rw [if_pos (by simpa using h)] at hQ; exact hQ
  have hr : 1 ≤ r ∧ r ≤ 5 := by simpa using h
  rw [if_neg (by simpa using hr)] at hQ
  have h3 (h : ¬ (0 ≤ rows ∧ rows ≤ 4096 ∧ 0 ≤ cols ∧ cols ≤ 4096)) : Q (zR, 3) := by rw [if_pos h] at hQ; exact hQ
  refine ifP_dec (fun h => h3 (by omega)) (fun h1 => ifP_dec (fun h => h3 (by omega)) (fun h2 => ifP_dec (fun h => h3 (by omega)) (fun h4 => ifP_dec (fun h => h3 (by omega)) (fun h5 => ?_))))
  rw [if_neg (by omega)] at hQ
  refine ifP_dec (fun h => ?_) (fun h => ?_)
  · rw [if_pos (by omega)] at hQ; exact hQ
  rw [if_neg (by omega)] at hQ
  refine range_intro (fun (s : List Edge) i => (s, i)) 0 ts.length (by omega) (fun i s => s = (ts.take i).map t2e ∧ ∀ (j : Nat) (hj : j < ts.length), j < i → inT rows cols ts[j]) (by omega) ⟨rfl, by simp⟩ (fun i s next _ hi hm hn => ?_) (fun s next hm => ?_)
  · obtain ⟨rfl, hR⟩ := hm
    dsimp only
    refine ifP_dec (fun _ => ?_) (fun h => by omega)
    have hbad (h : ¬ inT rows cols ts[i]) : Q (zR, 3) := by
      rw [if_pos (fun h' => h (h' _ (List.getElem_mem hi)))] at hQ; exact hQ
    refine idxP_nat hi (ifP_dec (fun h => hbad fun h' => by unfold inT at h'; omega) (fun h6 => ?_))
    refine idxP_nat hi (ifP_dec (fun h => hbad fun h' => by unfold inT at h'; omega) (fun h7 => ?_))
    refine idxP_nat hi (ifP_dec (fun h => hbad fun h' => by unfold inT at h'; omega) (fun h8 => ?_))
    refine idxP_nat hi (ifP_dec (fun h => hbad fun h' => by unfold inT at h'; omega) (fun h9 => ?_))
    refine idxP_nat hi (idxP_nat hi (idxP_nat hi (appP_intro ?_ (hn _ ⟨?_, ?_⟩))))
    · simp; omega
    · rw [take_map hi]; rfl
    · intro j hj hji
      by_cases e : j = i
      · subst e; unfold inT; omega
      · exact hR j hj (by omega)
  · obtain ⟨rfl, hR⟩ := hm
    dsimp only
    refine ifP_dec (fun h => by omega) (fun _ => ?_)
    rw [List.take_length]
    have hall : ∀ t ∈ ts, inT rows cols t := by
      intro t ht
      obtain ⟨j, hj, rfl⟩ := List.getElem_of_mem ht
      exact hR j hj hj
    rw [if_neg (by simpa using hall)] at hQ
    have hkv : (ts.map t2e).map kvE = ts.map kvT := by rw [List.map_map]; rfl
    have hlen : (SC r (ts.map kvT)).length ≤ 65536 := by
      have := (SC_prop r (ts.map kvT) (fun t ht => by obtain ⟨x, hx, rfl⟩ := List.mem_map.1 ht; exact hv x hx)).1
      simp at this; omega
    have hfi := fin_in (r := r) hall
    refine ref_combine_ok hr (by simp; omega) (fun t ht => by obtain ⟨x, hx, rfl⟩ := List.mem_map.1 ht; exact hv x hx) ?_
    rw [hkv]
    have hf1 := (finT (SC r (ts.map kvT))).1
    have hf2 := (finT (SC r (ts.map kvT))).2
    have hfl := fin_len (mk := mkE) (SC r (ts.map kvT))
    rw [hf1] at hfi
    rw [hf1, hf2] at hQ
    generalize finS (SC r (ts.map kvT)) mkE = c at hQ hfl hfi
    obtain ⟨es, er⟩ := c
    dsimp only at *
    refine ifP_ne (fun h => ?_) (fun h => ?_)
    · rw [if_pos h] at hQ; exact hQ
    rw [if_neg (by simpa using h)] at hQ
    refine range_intro (fun (s : List Triple) i => (s, i)) 0 es.length (by omega) (fun i s => s = (es.take i).map e2t) (by omega) rfl (fun i s next _ hi hm hn => ?_) (fun s next hm => ?_)
    · subst hm
      dsimp only
      refine ifP_dec (fun _ => ?_) (fun h => by omega)
      refine idxP_nat hi (idxP_nat hi (idxP_nat hi (appP_intro ?_ (hn _ ?_))))
      · simp; omega
      · rw [take_map hi]; rfl
    · subst hm
      dsimp only
      refine ifP_dec (fun h => by omega) (fun _ => ref_built_ok (by omega) (by omega) ?_ ?_ ?_)
      · simp; omega
      · intro t ht
        have := hfi t (by simpa using ht)
        unfold inT at this; omega
      · rw [List.take_length]; exact hQ
/-! ### The same -/
theorem same_loop {α : Type} [BEq α] [LawfulBEq α] [DecidableEq α] {xs ys : List α} {Q : Bool → Prop} (hl : xs.length ≤ 1000000000000) (hQ : Q (decide (xs = ys))) :
    ifP ((xs.length : Int) != (ys.length : Int)) (Q false) (loopP (fun (s : Int) (next : Int → Prop) => ifP (decide (s < (xs.length : Int))) (idxP xs s fun x => idxP ys s fun y => ifP (x != y) (Q false) (next (w64 (s + 1)))) (Q true)) 0) := by
  refine ifP_ne (fun h => ?_) (fun h => ?_)
  · rwa [decide_eq_false (fun e => h (by rw [e]))] at hQ
  have h : xs.length = ys.length := by omega
  refine scan_intro xs.length hl (fun i => ∀ (j : Nat) (h1 : j < xs.length) (h2 : j < ys.length), j < i → xs[j] = ys[j]) (by simp) (fun i next hi hR hn => ?_) (fun next hR => ?_)
  · refine ifP_dec (fun _ => ?_) (fun h => by omega)
    refine idxP_nat hi (idxP_nat (by omega) (ifP_ne (fun e => ?_) (fun e => hn fun j h1 h2 hj => ?_)))
    · rwa [decide_eq_false (fun e' => e (by subst e'; rfl))] at hQ
    · by_cases ej : j = i
      · subst ej; exact e
      · exact hR j h1 h2 (by omega)
  · refine ifP_dec (fun h => by omega) (fun _ => ?_)
    rwa [decide_eq_true (List.ext_getElem h fun j h1 h2 => hR j h1 h2 h1)] at hQ
def small (a : Rows) : Prop := a.Start.length ≤ 1000000000000 ∧ a.Col.length ≤ 1000000000000 ∧ a.Val.length ≤ 1000000000000
end Go.Proofs.YtdfiinkpdaggeaaGreat
