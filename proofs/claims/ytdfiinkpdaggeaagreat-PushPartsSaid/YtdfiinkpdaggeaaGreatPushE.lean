/- A matrix times a vector, row by row, and sums as a vector. -/
import Derived.Test.YtdfiinkpdaggeaaGreatPushD
namespace Go.Proofs.YtdfiinkpdaggeaaGreat
open Go Go.Fw
set_option linter.unusedVariables false
set_option linter.unusedSimpArgs false
def stepI (r : Int) (B : Int → Option Int) (acc : Option Wide) (y : Item) : Option Wide := match B y.At with | some x => cmb r acc (some (mulW r y.Val x)) | none => acc
theorem stepI_okW {r : Int} {B : Int → Option Int} {acc : Option Wide} (h : ∀ w, acc = some w → okW w) (y : Item) : ∀ w, stepI r B acc y = some w → okW w := by
  intro w hw
  unfold stepI at hw
  split at hw
  · cases acc with
    | none => cases hw; exact mulW_okW _ _ _
    | some b => cases hw; exact addW_okW (h b rfl) (mulW_okW _ _ _)
  · exact h w hw
theorem foldI_okW (r : Int) (B : Int → Option Int) : ∀ (l : List Item) (acc : Option Wide), (∀ w, acc = some w → okW w) → ∀ w, l.foldl (stepI r B) acc = some w → okW w
  | [], acc, h => h
  | y :: l, acc, h => foldI_okW r B l _ (stepI_okW h y)
theorem row_fold {r : Int} {B : Int → Option Int} {n : Nat} {l : List Item} (h : IncI l) (hi : ∀ x ∈ l, 0 ≤ x.At ∧ x.At < n) : l.foldl (stepI r B) none = rowW r n (lkI l) B := by
  have := inc_fold (step := fun acc k a => match B k with | some x => cmb r acc (some (mulW r a x)) | none => acc) (a := none) h hi
  refine this.trans (foldl_same fun acc k _ => ?_)
  unfold stepW
  cases lkI l (k : Int) <;> cases B (k : Int) <;> rfl
def rowI (ts : List Triple) (i : Int) : List Item := (segS ts i.toNat).map itS
theorem rowI_colI (ts : List Triple) {i : Int} (h : 0 ≤ i) : rowI ts i = colI ts i := by
  unfold rowI colI segS
  rw [Int.toNat_of_nonneg h]
def sumsR (r rows cols : Int) (ts : List Triple) (v : Vec) (f : List Int) (o : Bool) : List Sum × Int :=
  if ¬ (1 ≤ r ∧ r ≤ 5) then ([], 8) else if v.N ≠ cols then ([], 4) else (sumsS r rows.toNat cols.toNat f o (fun i => lkI (rowI ts i)) (lkI v.Items), 0)
theorem sumsS_congr {r : Int} {n : Nat} {f : List Int} {o : Bool} {A A' : Int → Int → Option Int} {B : Int → Option Int} : ∀ {m : Nat}, (∀ (i k : Nat), i < m → k < n → A i k = A' i k) → sumsS r m n f o A B = sumsS r m n f o A' B
  | 0, _ => rfl
  | m + 1, h => by
    rw [sumsS_succ, sumsS_succ, sumsS_congr (m := m) fun i k hi hk => h i k (by omega) hk]
    have : rowW r n (A m) B = rowW r n (A' m) B := by
      unfold rowW
      refine foldl_same fun acc k hk => ?_
      unfold stepW
      rw [h m k (by omega) (List.mem_range.1 hk)]
    rw [this]
/-- the columns' sums are the rows' -/
theorem sums_turn {r rows cols : Int} {T : List Triple} (h : Canon cols rows T) (v : Vec) (f : List Int) (o : Bool) : sumsR r rows cols (turnT rows T) v f o = sumsP r rows cols T v f o := by
  unfold sumsR sumsP
  have e : sumsS r rows.toNat cols.toNat f o (fun i => lkI (rowI (turnT rows T) i)) (lkI v.Items) = sumsS r rows.toNat cols.toNat f o (fun i k => lkI (colI T k) i) (lkI v.Items) := by
    refine sumsS_congr fun i k _ _ => ?_
    rw [rowI_colI _ (by omega)]
    have hs := turn_srt rows h.srt
    have hm : ∀ a : Int, (⟨(i : Int), (k : Int), a⟩ : Triple) ∈ turnT rows T ↔ (⟨(k : Int), (i : Int), a⟩ : Triple) ∈ T := fun a => turn_mem h _
    cases h1 : lkI (colI (turnT rows T) i) k with
    | some a =>
      have := (hm a).1 (colI_mem.1 (lkI_mem h1))
      exact (mem_lkI (colI_inc h.srt k) ((colI_mem (x := ⟨i, a⟩)).2 this)).symm
    | none =>
      cases h2 : lkI (colI T k) i with
      | none => rfl
      | some a =>
        have := (hm a).2 (colI_mem.1 (lkI_mem h2))
        have := mem_lkI (colI_inc hs i) ((colI_mem (x := ⟨k, a⟩)).2 this)
        rw [h1] at this; cases this
  rw [e]
/-! ### Sums as a vector -/
def zS (r : Int) : Int := if r = 1 ∨ r = 3 ∨ r = 4 then 4611686018427387904 else 0
theorem ring_Zero_ok {r : Int} {Q : Int → Prop} (hQ : Q (zS r)) : ring_Zero r Q := by
  unfold ring_Zero; unfold zS at hQ
  refine ifP_eq (fun h => ?_) (fun h => ifP_eq (fun h3 => ?_) (fun h3 => ifP_eq (fun h4 => ?_) (fun h4 => ?_)))
  · rwa [if_pos (.inl h)] at hQ
  · rwa [if_pos (.inr (.inl h3))] at hQ
  · rwa [if_pos (.inr (.inr h4))] at hQ
  · rwa [if_neg (by omega)] at hQ
def nzI (r : Int) (s : Sum) : Option Item := if (narS s.Val).1 ≠ zS r then some ⟨s.At, (narS s.Val).1⟩ else none
def doneS (r n : Int) (l : List Sum) : Vec × Int :=
  if ¬ (1 ≤ r ∧ r ≤ 5) then (zV, 8) else if ¬ (0 ≤ n ∧ n ≤ 4096) ∨ ∃ s ∈ l, ¬ (0 ≤ s.At ∧ s.At < n) then (zV, 3) else if ¬ Rise l then (zV, 6)
  else if ∃ s ∈ l, (narS s.Val).2 = false then (zV, 12) else (⟨n, l.filterMap (nzI r)⟩, 0)
theorem out_ok {n : Int} {l : List Sum} {Q : Bool → Prop} (hl : l.length ≤ 1000000000) (hQ : Q (decide (∃ s ∈ l, ¬ (0 ≤ s.At ∧ s.At < n)))) : slices_ContainsFunc_api_Sum_api_Sum_927 n l Q := by
  unfold slices_ContainsFunc_api_Sum_api_Sum_927 slices_IndexFunc_api_Sum_api_Sum_a5e
  refine scan_intro l.length (by omega) (fun k => ∀ i (hi : i < l.length), i < k → 0 ≤ l[i].At ∧ l[i].At < n) (fun i hi h => by omega) (fun k next hk hR hn => ?_) (fun next hR => ?_)
  · refine ifP_dec (fun _ => idxP_nat hk ?_) (fun h => by omega)
    unfold pull_Done_1_ac1
    have bad : ¬ (0 ≤ l[k].At ∧ l[k].At < n) → (fun r10 : Int => Q (decide (0 ≤ r10))) (k : Int) := by
      intro hb
      rw [decide_eq_true ⟨_, List.getElem_mem hk, hb⟩] at hQ
      simpa using hQ
    refine ifP_dec (fun h => ifP_pos rfl (bad (by omega))) (fun h => ⟨fun h' => bad (by have := of_decide_eq_true h'; omega), fun h' => hn fun i hi hik => ?_⟩)
    have h' := of_decide_eq_false h'
    by_cases e : i = k
    · subst e; omega
    · exact hR i hi (by omega)
  · refine ifP_dec (fun h => by omega) (fun _ => ?_)
    have : ¬ ∃ s ∈ l, ¬ (0 ≤ s.At ∧ s.At < n) := by
      rintro ⟨s, hs, hn⟩
      obtain ⟨i, hi, rfl⟩ := List.mem_iff_getElem.1 hs
      exact hn (hR i hi hi)
    rw [decide_eq_false this] at hQ
    simpa using hQ
theorem pull_Done_ok {r n : Int} {l : List Sum} {Q : Vec × Int → Prop} (hl : l.length ≤ 1000000000) (ho : okS l) (hQ : Q (doneS r n l)) : pull_Done r n l Q := by
  unfold pull_Done
  unfold doneS at hQ
  refine ring_Is_ok (ifP_not (fun h => ?_) (fun h => ?_))
  · rw [if_pos (of_decide_eq_false h)] at hQ; exact hQ
  have hr := of_decide_eq_true h
  rw [if_neg (by omega)] at hQ
  refine ifP_dec (fun h => ?_) (fun h0 => ifP_dec (fun h => ?_) (fun h1 => out_ok hl ⟨fun h => ?_, fun h => ?_⟩))
  · rw [if_pos (.inl (by omega))] at hQ; exact hQ
  · rw [if_pos (.inl (by omega))] at hQ; exact hQ
  · rw [if_pos (.inr (of_decide_eq_true h))] at hQ; exact hQ
  have hin := of_decide_eq_false h
  rw [if_neg (by
    rintro (h' | h')
    · omega
    · exact hin h')] at hQ
  refine scan_intro l.length (by omega) (fun n => ∀ (i : Nat) (hi : i + 1 < l.length), i + 1 < n → l[i].At < l[i + 1].At) (fun i hi h => by omega) (fun i next hi hR hn => ?_) (fun next hR => ?_)
  · refine ifP_dec (fun _ => ifP_dec (fun h => ?_) (fun h => ?_)) (fun h => by omega)
    · have e : w64 ((i : Int) - 1) = ((i - 1 : Nat) : Int) := by rw [w64_id (by omega) (by omega)]; omega
      rw [e]
      refine idxP_nat (by omega) (idxP_nat hi (ifP_dec (fun h' => ?_) (fun h' => hn fun j hj hjn => ?_)))
      · have : ¬ Rise l := fun hr => by have := hr.adj hi (i := i - 1) (by omega); omega
        rw [if_pos this] at hQ; exact hQ
      · by_cases e' : j + 1 = i
        · subst e'; simp only [Nat.add_sub_cancel] at h'; omega
        · exact hR j hj (by omega)
    · exact hn fun j hj hjn => by omega
  · refine ifP_dec (fun h => by omega) (fun _ => ?_)
    rw [if_neg (fun hn => hn (rise_adj fun i hi => hR i hi (by omega)))] at hQ
    refine range_intro (s0 := ([] : List Item)) (fun (s : List Item) i => (s, i)) 0 l.length (by omega) (fun k s => s = (l.take k).filterMap (nzI r) ∧ ∀ i (hi : i < l.length), i < k → (narS l[i].Val).2 = true) (by omega) ⟨by simp, fun i hi h => by omega⟩ (fun k s next' _ hk hs hn => ?_) (fun s next' hs => ?_)
    · obtain ⟨hs, hall⟩ := hs
      have hsl : s.length ≤ k := by
        subst hs
        have := List.length_filterMap_le (nzI r) (l.take k)
        rw [List.length_take] at this; omega
      refine ifP_dec (fun _ => idxP_nat hk (narrow_ok (ho _ (List.getElem_mem hk)) (ifP_not (fun hb => ?_) (fun hb => ring_Zero_ok (ifP_ne (fun hne => appP_intro (by simp; omega) (hn _ ⟨?_, ?_⟩)) (fun he => hn _ ⟨?_, ?_⟩)))))) (fun h => by omega)
      · rw [if_pos ⟨_, List.getElem_mem hk, hb⟩] at hQ; exact hQ
      · rw [List.take_succ_eq_append_getElem hk, List.filterMap_append, ← hs]
        simp [nzI, hne]
      · intro i hi hik
        by_cases e : i = k
        · subst e; exact hb
        · exact hall i hi (by omega)
      · rw [List.take_succ_eq_append_getElem hk, List.filterMap_append, ← hs]
        simp [nzI, he]
      · intro i hi hik
        by_cases e : i = k
        · subst e; exact hb
        · exact hall i hi (by omega)
    · obtain ⟨hs, hall⟩ := hs
      rw [List.take_length] at hs
      subst hs
      refine ifP_dec (fun h => by omega) (fun _ => ?_)
      rw [if_neg] at hQ
      · exact hQ
      · rintro ⟨s, hs, hb⟩
        obtain ⟨i, hi, rfl⟩ := List.mem_iff_getElem.1 hs
        rw [hall i hi hi] at hb; cases hb
end Go.Proofs.YtdfiinkpdaggeaaGreat
