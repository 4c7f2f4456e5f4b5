/- The statement CsrGraph, in plain Lean. -/
import Derived.Test.YtdfiinkpdaggeaaGreatCsrK
namespace Go.Proofs.YtdfiinkpdaggeaaGreat
open Go Go.Fw
set_option linter.unusedVariables false
set_option linter.unusedSimpArgs false
theorem nar_ofI {v : Int} (h : inI v) : narS (ofI v) = (v, true) := by
  unfold narS ofI
  unfold inI at h
  simp only
  rw [if_pos]
  · rw [w64_eq]; congr 1; omega
  · split <;> omega
theorem SC_one (ts : List (Key × Int)) (hv : ∀ t ∈ ts, inI t.2) : ∀ p ∈ SC 1 ts, ∃ v, inI v ∧ p.2 = ofI v := by
  suffices ∀ (ts : List (Key × Int)) (l : List (Key × Wide)), (∀ t ∈ ts, inI t.2) → (∀ p ∈ l, ∃ v, inI v ∧ p.2 = ofI v) → ∀ p ∈ ts.foldl (fun l t => ins 1 t.1 (ofI t.2) l) l, ∃ v, inI v ∧ p.2 = ofI v from this ts [] hv (by simp)
  have hins : ∀ (k : Key) (v : Int), inI v → ∀ l : List (Key × Wide), (∀ p ∈ l, ∃ v, inI v ∧ p.2 = ofI v) → ∀ p ∈ ins 1 k (ofI v) l, ∃ v, inI v ∧ p.2 = ofI v := by
    intro k v hv l
    induction l with
    | nil => intro _ p hp; simp [ins] at hp; exact ⟨v, hv, by rw [hp]⟩
    | cons q l ih =>
      intro h p hp
      unfold ins at hp
      split at hp
      · rcases List.mem_cons.1 hp with rfl | hp
        · exact h _ (by simp)
        · exact ih (fun x hx => h x (by simp [hx])) p hp
      · split at hp
        · rcases List.mem_cons.1 hp with rfl | hp
          · obtain ⟨u, hu, e⟩ := h q (by simp)
            unfold addW
            simp only [true_or, if_true]
            split
            · exact ⟨u, hu, e⟩
            · exact ⟨v, hv, rfl⟩
          · exact h p (by simp [hp])
        · rcases List.mem_cons.1 hp with rfl | hp
          · exact ⟨v, hv, rfl⟩
          · exact h p hp
  intro ts
  induction ts with
  | nil => intro l _ h; exact h
  | cons t ts ih => intro l ht h; exact ih _ (fun x hx => ht x (by simp [hx])) (hins _ _ (ht t (by simp)) l h)
theorem fin_one {α : Type} {mk : Key → Int → α} {ts : List (Key × Int)} (hv : ∀ t ∈ ts, inI t.2) : finS (SC 1 ts) mk = ((SC 1 ts).map (fun p => mk p.1 (narS p.2).1), 0) := by
  refine fin_perm (m := []) (.refl _) fun p hp => ?_
  obtain ⟨v, h1, h2⟩ := SC_one ts hv p hp
  rw [h2, nar_ofI h1]
end Go.Proofs.YtdfiinkpdaggeaaGreat
