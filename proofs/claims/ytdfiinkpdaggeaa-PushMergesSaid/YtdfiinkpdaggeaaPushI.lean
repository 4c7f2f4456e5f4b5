/- The statement PushMerges in plain Lean. -/
import Derived.Test.YtdfiinkpdaggeaaOK
import Derived.Test.YtdfiinkpdaggeaaPushG
namespace Go.Proofs.Ytdfiinkpdaggeaa
open Go Go.Fw
set_option linter.unusedVariables false
set_option linter.unusedSimpArgs false
theorem both_cons (r : Int) (x y : Sum) (a b : List Sum) : bothS r (x :: a) (y :: b) = if x.At < y.At then x :: bothS r a (y :: b) else if y.At < x.At then y :: bothS r (x :: a) b else ⟨x.At, addW r x.Val y.Val⟩ :: bothS r a b := by rw [bothS]
theorem both_nil' (r : Int) (b : List Sum) : bothS r [] b = b := by rw [bothS]
theorem ref14_both_ok {r : Int} {a b : List Sum} {Q : List Sum → Prop} (ha : okS a) (hb : okS b) (hl : a.length ≤ 100000000 ∧ b.length ≤ 100000000) (hQ : Q (bothS r a b)) : ref14_both r a b Q := by
  unfold ref14_both
  refine loop_intro (fun s : List Sum × Int × Int => ∃ i k : Nat, s.2.1 = i ∧ s.2.2 = k ∧ i ≤ a.length ∧ k ≤ b.length ∧ s.1.length ≤ i + k ∧ s.1 ++ bothS r (a.drop i) (b.drop k) = bothS r a b) (fun s => (a.length - s.2.1.toNat) + (b.length - s.2.2.toNat)) ⟨0, 0, rfl, rfl, by omega, by omega, by simp, by simp⟩ ?_
  rintro ⟨out, i', k'⟩ next ⟨i, k, hi, hk, hil, hkl, hol, he⟩ hn
  simp only at hi hk hol he ⊢
  subst hi; subst hk
  have ei : w64 ((i : Int) + 1) = ((i + 1 : Nat) : Int) := by rw [w64_id (by omega) (by omega)]; omega
  have ek : w64 ((k : Int) + 1) = ((k + 1 : Nat) : Int) := by rw [w64_id (by omega) (by omega)]; omega
  simp only [ei, ek]
  refine join_intro (fun _ => i < a.length ∨ k < b.length) ?_ ?_
  · rintro _ hor
    refine join_intro (fun t : Bool => t = true ↔ (k = b.length ∨ ∃ (h1 : i < a.length) (h2 : k < b.length), a[i].At < b[k].At)) ?_ ?_
    · rintro t ht
      refine ⟨fun htt => ?_, fun htf => ?_⟩
      · have h := ht.1 htt
        have hia : i < a.length := by
          rcases h with h | ⟨h1, _, _⟩
          · omega
          · exact h1
        refine idxP_nat hia (appP_intro (by simp; omega) (hn _ ⟨i + 1, k, rfl, rfl, by omega, hkl, by simp; omega, ?_⟩ (by simp only [Int.toNat_natCast]; omega)))
        simp only
        rw [← he, List.drop_eq_getElem_cons hia]
        rcases h with h | ⟨_, h2, h3⟩
        · rw [List.drop_of_length_le (l := b) (by omega), both_nil, both_nil]; simp
        · rw [List.drop_eq_getElem_cons h2, both_cons, if_pos h3]; simp
      · have hnot : ¬ (k = b.length ∨ ∃ (h1 : i < a.length) (h2 : k < b.length), a[i].At < b[k].At) := fun h => by rw [ht.2 h] at htf; cases htf
        have hkb : k < b.length := by
          rcases Nat.lt_or_ge k b.length with h | h
          · exact h
          · exact absurd (.inl (by omega)) hnot
        refine join_intro (fun t : Bool => t = true ↔ (i = a.length ∨ ∃ (h1 : i < a.length), b[k].At < a[i].At)) ?_ ?_
        · rintro t2 ht2
          refine ⟨fun htt => ?_, fun htf2 => ?_⟩
          · have h := ht2.1 htt
            refine idxP_nat hkb (appP_intro (by simp; omega) (hn _ ⟨i, k + 1, rfl, rfl, hil, by omega, by simp; omega, ?_⟩ (by simp only [Int.toNat_natCast]; omega)))
            simp only
            rw [← he, List.drop_eq_getElem_cons hkb]
            rcases h with h | ⟨h2, h3⟩
            · rw [List.drop_of_length_le (l := a) (by omega), both_nil', both_nil']; simp
            · rw [List.drop_eq_getElem_cons h2, both_cons, if_neg (by omega), if_pos h3]; simp
          · have hnot2 : ¬ (i = a.length ∨ ∃ (h1 : i < a.length), b[k].At < a[i].At) := fun h => by rw [ht2.2 h] at htf2; cases htf2
            have hia : i < a.length := by
              rcases Nat.lt_or_ge i a.length with h | h
              · exact h
              · exact absurd (.inl (by omega)) hnot2
            refine idxP_nat hia (idxP_nat hia (idxP_nat hkb (ref02_Add_ok (ha _ (List.getElem_mem hia)) (hb _ (List.getElem_mem hkb)) (appP_intro (by simp; omega) (hn _ ⟨i + 1, k + 1, rfl, rfl, by omega, by omega, by simp; omega, ?_⟩ (by simp only [Int.toNat_natCast]; omega))))))
            simp only
            rw [← he, List.drop_eq_getElem_cons hia, List.drop_eq_getElem_cons hkb, both_cons, if_neg (fun h => hnot (.inr ⟨hia, hkb, h⟩)), if_neg (fun h => hnot2 (.inr ⟨hia, h⟩))]; simp
        · intro k' hk'
          refine ifP_eq (fun h => hk' _ ?_) (fun h => ?_)
          · simp; left; omega
          · have hia : i < a.length := by omega
            refine idxP_nat hkb (idxP_nat hia (hk' _ ?_))
            simp only [decide_eq_true_eq]
            refine ⟨fun h3 => .inr ⟨hia, h3⟩, fun h3 => ?_⟩
            rcases h3 with h3 | ⟨_, h3⟩
            · omega
            · exact h3
    · intro k' hk'
      refine ifP_eq (fun h => hk' _ ?_) (fun h => ifP_dec (fun h2 => ?_) (fun h2 => hk' _ ?_))
      · simp; left; omega
      · have hia : i < a.length := by omega
        have hkb : k < b.length := by omega
        refine idxP_nat hia (idxP_nat hkb (hk' _ ?_))
        simp only [decide_eq_true_eq]
        refine ⟨fun h3 => .inr ⟨hia, hkb, h3⟩, fun h3 => ?_⟩
        rcases h3 with h3 | ⟨_, _, h3⟩
        · omega
        · exact h3
      · refine ⟨fun h3 => (by cases h3), fun h3 => ?_⟩
        rcases h3 with h3 | ⟨h3, _, _⟩ <;> omega
  · intro k' hk'
    refine ifP_dec (fun h => hk' _ (.inl (by omega))) (fun h => ifP_dec (fun h2 => hk' _ (.inr (by omega))) (fun h2 => ?_))
    rw [List.drop_of_length_le (l := a) (by omega), List.drop_of_length_le (l := b) (by omega), both_nil, List.append_nil] at he
    rw [he]; exact hQ
theorem ref14_Merge_ok {r : Int} {L : List (List Sum)} {Q : List Sum × Int → Prop} (hL : L.length ≤ 1000) (hs : ∀ l ∈ L, l.length ≤ 1000) (hok : ∀ l ∈ L, okS l) (hQ : Q (mergeP r L)) : ref14_Merge r L Q := by
  unfold ref14_Merge
  unfold mergeP at hQ
  refine ref02_Is_ok (ifP_not (fun h => ?_) (fun h => ?_))
  · rw [if_pos (of_decide_eq_false h)] at hQ; exact hQ
  have hr := of_decide_eq_true h
  rw [if_neg (by omega)] at hQ
  refine scan_intro L.length (by omega) (fun n => ∀ i (hi : i < L.length), i < n → Rise L[i]) (fun i hi h => by omega) (fun i next hi hR hn => ?_) (fun next hR => ?_)
  · refine ifP_dec (fun _ => ?_) (fun h => by omega)
    have hli := hs _ (List.getElem_mem hi)
    have hgood : Rise L[i] → next (w64 ((i : Int) + 1)) := fun hg => hn fun j hj hjn => by
      by_cases e : j = i
      · subst e; exact hg
      · exact hR j hj (by omega)
    show loopP _ ((1 : Nat) : Int)
    by_cases hz : L[i].length = 0
    · refine ⟨1, idxP_nat hi (ifP_dec (fun h => by omega) (fun _ => hgood ?_))⟩
      rw [List.eq_nil_of_length_eq_zero hz]; exact .nil
    refine range_intro (s0 := ()) (fun (_ : Unit) i => i) 1 L[i].length (by omega) (fun k _ => ∀ (j : Nat) (hj : j + 1 < L[i].length), j + 1 < k → L[i][j].At < L[i][j + 1].At) (by omega) (fun j hj h => by omega) (fun k _ next' h1' hk hR' hn' => ?_) (fun _ next' hR' => ?_)
    · have e : w64 ((k : Int) - 1) = ((k - 1 : Nat) : Int) := by rw [w64_id (by omega) (by omega)]; omega
      rw [e]
      refine idxP_nat hi (ifP_dec (fun _ => idxP_nat hi (idxP_nat hk (idxP_nat hi (idxP_nat (by omega) (ifP_dec (fun h' => ?_) (fun h' => hn' () fun j hj hjn => ?_)))))) (fun h => by omega))
      · have : ¬ Rise L[i] := fun hr => by have := hr.adj hk (i := k - 1) (by omega); omega
        rw [if_pos ⟨_, List.getElem_mem hi, this⟩] at hQ; exact hQ
      · by_cases e' : j + 1 = k
        · subst e'; simp only [Nat.add_sub_cancel] at h'; omega
        · exact hR' j hj (by omega)
    · exact idxP_nat hi (ifP_dec (fun h => by omega) (fun _ => hgood (rise_adj fun j hj => hR' j hj (by omega))))
  · refine ifP_dec (fun h => by omega) (fun _ => ?_)
    have hrise : ∀ l ∈ L, Rise l := fun l hl => by
      obtain ⟨i, hi, rfl⟩ := List.mem_iff_getElem.1 hl
      exact hR i hi hi
    rw [if_neg (by rintro ⟨l, hl, hn⟩; exact hn (hrise l hl))] at hQ
    refine range_intro (s0 := ([] : List Sum)) (fun (s : List Sum) i => (s, i)) 0 L.length (by omega) (fun k s => s = mergeS r (L.take k)) (by omega) (by simp [mergeS]) (fun k s next' _ hk hs' hn' => ?_) (fun s next' hs' => ?_)
    · obtain ⟨p1, p2, p3, p4⟩ := merge_prop r L hrise k (by omega)
      have ht : ∀ M : List (List Sum), (∀ l ∈ M, l.length ≤ 1000) → total M ≤ M.length * 1000 := by
        intro M
        induction M with
        | nil => intro _; simp [total]
        | cons x M ih => intro hM; have h1 := ih fun l hl => hM l (by simp [hl]); have h2 := hM x (by simp); unfold total at h1 ⊢; simp only [List.map_cons, List.foldr_cons, List.length_cons]; omega
      have htk := ht (L.take k) fun l hl => hs l (List.mem_of_mem_take hl)
      rw [List.length_take] at htk
      subst hs'
      have hm1 : (mergeS r (L.take k)).length ≤ 100000000 := by
        have : min k L.length ≤ 1000 := by omega
        omega
      refine ifP_dec (fun _ => idxP_nat hk (ref14_both_ok (p3 hok) (hok _ (List.getElem_mem hk)) ⟨hm1, by have := hs _ (List.getElem_mem hk); omega⟩ (hn' _ ?_))) (fun h => by omega)
      rw [List.take_succ_eq_append_getElem hk]
      unfold mergeS
      rw [List.foldl_append]; rfl
    · rw [List.take_length] at hs'
      subst hs'
      exact ifP_dec (fun h => by omega) (fun _ => hQ)
theorem PushMerges_ok (a0 : Int) (a1 : List (List Sum)) (h1 : (∀ x ∈ a1, (∀ y ∈ x, okSum y) ∧ x.length ≤ maxLen) ∧ a1.length ≤ maxLen) : law14_PushMerges a0 a1 (fun r => r = true) := by
  unfold law14_PushMerges
  have hokW : ∀ s, okSum s → okW s.Val := fun s hs => by
    have e1 := bounds_i64 hs.2.1; have e2 := bounds_u64 hs.2.2
    unfold okW; omega
  refine join_intro (fun l : List (List Sum) => l.length ≤ 8 ∧ ∀ x ∈ l, okS x) ?_ ?_
  · rintro l ⟨hl, hlo⟩
    refine range_intro (s0 := ([] : List (List Sum))) (fun (s : List (List Sum)) i => (s, i)) 0 l.length (by omega) (fun k s => s.length ≤ k ∧ (∀ x ∈ s, okS x) ∧ ∀ x ∈ s, x.length ≤ 30) (by omega) ⟨by simp, by simp, by simp⟩ (fun k s next _ hk hs hn => ?_) (fun s next hs => ?_)
    · obtain ⟨g1, g2, g3⟩ := hs
      refine ifP_dec (fun _ => idxP_nat hk (ifP_dec (fun h => ⟨by omega, by omega, by omega, appP_intro (by simp; omega) (hn _ ⟨by simp; omega, fun x hx => ?_, fun x hx => ?_⟩)⟩) (fun h => appP_intro (by simp; omega) (hn _ ⟨by simp; omega, fun x hx => ?_, fun x hx => ?_⟩)))) (fun h => by omega)
      · rcases List.mem_append.1 hx with hx | hx
        · exact g2 x hx
        · simp only [List.mem_singleton] at hx; subst hx
          exact fun s hs => hlo _ (List.getElem_mem hk) s (List.mem_of_mem_take (List.mem_of_mem_drop hs))
      · rcases List.mem_append.1 hx with hx | hx
        · exact g3 x hx
        · simp only [List.mem_singleton] at hx; subst hx; simp; omega
      · rcases List.mem_append.1 hx with hx | hx
        · exact g2 x hx
        · simp only [List.mem_singleton] at hx; subst hx; exact hlo _ (List.getElem_mem hk)
      · rcases List.mem_append.1 hx with hx | hx
        · exact g3 x hx
        · simp only [List.mem_singleton] at hx; subst hx; omega
    · obtain ⟨g1, g2, g3⟩ := hs
      have ht : ∀ M : List (List Sum), (∀ l ∈ M, l.length ≤ 30) → total M ≤ M.length * 30 := by
        intro M
        induction M with
        | nil => intro _; simp [total]
        | cons x M ih => intro hM; have h1 := ih fun l hl => hM l (by simp [hl]); have h2 := hM x (by simp); unfold total at h1 ⊢; simp only [List.map_cons, List.foldr_cons, List.length_cons]; omega
      have hts := ht s g3
      refine ifP_dec (fun h => by omega) (fun _ => push_merge_ok (by omega) (fun x hx => by have := g3 x hx; omega) (by omega) g2 (ref14_Merge_ok (by omega) (fun x hx => by have := g3 x hx; omega) g2 (live14_ok (ifP_pos rfl (eqSum_ok ?_ (ifP_pos (by simp) (by simp)))))))
      unfold mergeP
      repeat' split
      · simp
      · simp
      · rename_i h2
        have hrise : ∀ l ∈ s, Rise l := fun l hl => by
          by_cases e : Rise l
          · exact e
          · exact absurd ⟨l, hl, e⟩ h2
        have := (merge_prop a0 s hrise _ (Nat.le_refl _)).2.1
        rw [List.take_length] at this
        simp only; omega
  · intro k hk
    have hall : ∀ x ∈ a1, okS x := fun x hx s hs => hokW s ((h1.1 x hx).1 s hs)
    refine ifP_dec (fun h => ⟨by omega, by omega, by omega, hk _ ⟨by simp; omega, fun x hx => hall x (List.mem_of_mem_take (List.mem_of_mem_drop hx))⟩⟩) (fun h => hk _ ⟨by omega, hall⟩)
end Go.Proofs.Ytdfiinkpdaggeaa
