import Derived.Test.YtmidnfbbnmigeaaGreatPushH
/- Which way and which form: the statements of policy in plain Lean. -/
namespace Go.Proofs.YtmidnfbbnmigeaaGreat
open Go Go.Fw
set_option linter.unusedVariables false
set_option linter.unusedSimpArgs false
/-! ### Dense, taken back -/
theorem next_item {v : Vec} (h : VecP v) {k : Nat} {n : Int} (h1 : ∀ j (hj : j < v.Items.length), j < k → v.Items[j].At < n) (h2 : ∀ j (hj : j < v.Items.length), k ≤ j → n ≤ v.Items[j].At) :
    nextS (denS v).Has n = if hk : k < v.Items.length then v.Items[k].At else -1 := by
  split
  · rename_i hk
    refine nextS_some ?_ (h2 k hk (Nat.le_refl _)) fun q hq hnq => ?_
    · rw [den_has h, mem_lkI h.inc (List.getElem_mem hk)]; rfl
    · rw [den_has h, lkI_none]
      · rfl
      · intro s hs e
        obtain ⟨j, hj, rfl⟩ := List.mem_iff_getElem.1 hs
        rcases Nat.lt_or_ge j k with g | g
        · have := h1 j hj g; omega
        · rcases Nat.lt_or_ge k j with g' | g'
          · have := h.inc.at hj g'; omega
          · have : j = k := by omega
            subst this; omega
  · rename_i hk
    refine nextS_none fun q hq => ?_
    rw [den_has h, lkI_none]
    · rfl
    · intro s hs e
      obtain ⟨j, hj, rfl⟩ := List.mem_iff_getElem.1 hs
      have := h1 j hj (by omega); omega
theorem devec_Back_ok {v : Vec} {Q : Vec → Prop} (h : VecP v) (hQ : Q v) : devec_Back (denS v) Q := by
  unfold devec_Back devec_sure devec_all_319 devec_all_1_7f1
  have hlen := h.len; have h0 := h.n0; have h1 := h.n1
  have hl : (denS v).Has.length ≤ 1000000 := by have := den_len v; omega
  have hVl : ((denS v).Vals.length : Int) = v.N := by simp [denS, valsS]; omega
  refine devec_Right_ok h (ifP_pos rfl (flags_Next_ok (den_okF v) hl ?_))
  rw [next_item h (k := 0) (fun j hj h => by omega) (fun j hj _ => (h.ins _ (List.getElem_mem hj)).1)]
  refine loop_intro (fun s : Int × List Item × Int × Nat => ∃ k : Nat, k ≤ v.Items.length ∧ s.1 = v.N ∧ s.2.1 = v.Items.take k ∧ s.2.2.2 = 0 ∧ s.2.2.1 = if hk : k < v.Items.length then v.Items[k].At else -1) (fun s => v.Items.length - s.2.1.length) ⟨0, by omega, rfl, by simp, rfl, rfl⟩ ?_
  rintro ⟨s1, s2, s3, s4⟩ next ⟨k, hk, g1, g2, g3, g4⟩ hn
  simp only at g1 g2 g3 g4 ⊢
  subst g1; subst g3
  have hs2 : s2.length = k := by subst g2; simp; omega
  by_cases hkl : k < v.Items.length
  · rw [dif_pos hkl] at g4
    have hin := h.ins _ (List.getElem_mem hkl)
    have hval : at0 (denS v).Vals s3 = v.Items[k].Val := by
      have : at0 (denS v).Vals s3 = (lkI v.Items s3).getD 0 := at0_valsS (by omega) (by omega)
      rw [this, g4, mem_lkI h.inc (List.getElem_mem hkl)]; rfl
    refine ifP_dec (fun _ => idxP_at0 (by omega) (by omega) ⟨rfl, appP_intro (by simp; omega) ?_⟩) (fun h' => by omega)
    refine ifP_neg rfl (flags_Next_ok (den_okF v) hl ?_)
    rw [w64_id (by omega) (by omega), next_item h (k := k + 1) (fun j hj hjk => ?_) (fun j hj hjk => ?_), hval]
    · refine hn _ ⟨k + 1, by omega, rfl, ?_, rfl, rfl⟩ (by simp only [List.length_append, List.length_singleton, hs2]; omega)
      simp only
      rw [List.take_succ_eq_append_getElem hkl, g2, g4]
    · rw [g4]
      by_cases e : j = k
      · subst e; omega
      · have := h.inc.at hkl (i := j) (by omega); omega
    · rw [g4]
      have := h.inc.at hj (i := k) (by omega); omega
  · rw [dif_neg hkl] at g4
    refine ifP_dec (fun h' => by omega) (fun _ => ⟨rfl, ?_⟩)
    rw [List.take_of_length_le (by omega)] at g2
    subst g2
    exact hQ
/-! ### Ways and forms -/
def dirS (w a b : Int) : Int := if w = 1 then 1 else if w = 2 then 2 else if w64 (b.tdiv 4) < a then 2 else 1
def shapeS (f a b : Int) : Int := if f = 1 then 1 else if f = 2 then 2 else if w64 (b.tdiv 8) < a then 2 else 1
theorem dir_ok {w a b : Int} {Q : Int → Prop} (hQ : Q (dirS w a b)) : policy_Direction w a b Q := by
  unfold policy_Direction; unfold dirS at hQ
  refine ifP_eq (fun h => ?_) (fun h => ifP_eq (fun h2 => ?_) (fun h2 => ifP_dec (fun h3 => ?_) (fun h3 => ?_)))
  · rw [if_pos h] at hQ; rwa [h]
  · rw [if_neg h, if_pos h2] at hQ; rwa [h2]
  · rwa [if_neg h, if_neg h2, if_pos h3] at hQ
  · rwa [if_neg h, if_neg h2, if_neg h3] at hQ
theorem ref_dir_ok {w a b : Int} {Q : Int → Prop} (hQ : Q (dirS w a b)) : ref16_Direction w a b Q := by
  unfold ref16_Direction; unfold dirS at hQ
  refine ifP_eq (fun h => ?_) (fun h => ifP_eq (fun h2 => ?_) (fun h2 => ifP_dec (fun h3 => ?_) (fun h3 => ?_)))
  · rw [if_pos h] at hQ; rwa [h]
  · rw [if_neg h, if_pos h2] at hQ; rwa [h2]
  · rwa [if_neg h, if_neg h2, if_neg (by omega)] at hQ
  · rwa [if_neg h, if_neg h2, if_pos (by omega)] at hQ
theorem shape_ok {w a b : Int} {Q : Int → Prop} (hQ : Q (shapeS w a b)) : policy_Shape w a b Q := by
  unfold policy_Shape; unfold shapeS at hQ
  refine ifP_eq (fun h => ?_) (fun h => ifP_eq (fun h2 => ?_) (fun h2 => ifP_dec (fun h3 => ?_) (fun h3 => ?_)))
  · rw [if_pos h] at hQ; rwa [h]
  · rw [if_neg h, if_pos h2] at hQ; rwa [h2]
  · rwa [if_neg h, if_neg h2, if_pos h3] at hQ
  · rwa [if_neg h, if_neg h2, if_neg h3] at hQ
theorem ref_shape_ok {w a b : Int} {Q : Int → Prop} (hQ : Q (shapeS w a b)) : ref16_Shape w a b Q := by
  unfold ref16_Shape; unfold shapeS at hQ
  refine ifP_eq (fun h => ?_) (fun h => ifP_eq (fun h2 => ?_) (fun h2 => ifP_dec (fun h3 => ?_) (fun h3 => ?_)))
  · rw [if_pos h] at hQ; rwa [h]
  · rw [if_neg h, if_pos h2] at hQ; rwa [h2]
  · rwa [if_neg h, if_neg h2, if_neg (by omega)] at hQ
  · rwa [if_neg h, if_neg h2, if_pos (by omega)] at hQ
theorem shape_12 (f a b : Int) : shapeS f a b = 1 ∨ shapeS f a b = 2 := by
  unfold shapeS
  repeat' split
  all_goals simp
/-! ### What is held -/
def heldF (s : Int) (u : Vec) : Held := if s = 2 then ⟨2, zV, denS u⟩ else ⟨1, u, ⟨0, [], []⟩⟩
def holdS (f : Int) (v : Vec) : Held := heldF (shapeS f (sureV v).Items.length (sureV v).N) (sureV v)
theorem clone_ok {l : List Item} {Q : List Item → Prop} (hl : l.length ≤ 1000000) (hQ : Q l) : slices_Clone_api_Item_api_Item l Q := by
  unfold slices_Clone_api_Item_api_Item
  refine nilP_intro (fun e => by subst e; exact hQ) (appP_intro (by simp; omega) ?_)
  exact hQ
theorem hold_ok {f : Int} {v : Vec} {Q : Held → Prop} (hl : v.Items.length ≤ 1000000000) (hQ : Q (holdS f v)) : policy_Hold f v Q := by
  unfold policy_Hold
  have hv := sureV_ok v
  unfold holdS heldF at hQ
  refine join_intro (fun t => (⟨t.1, t.2⟩ : Vec) = sureV v) ?_ ?_
  · rintro ⟨t1, t2⟩ ht
    simp only at ht ⊢
    rw [← ht] at hQ hv
    have hul := hv.len
    simp only at hul hQ
    refine shape_ok (ifP_eq (fun h => ?_) (fun h => ?_))
    · rw [if_pos h] at hQ
      refine devec_Of_ok (by simp only; omega) ?_
      rw [sureV_id hv]; exact hQ
    · rw [if_neg h] at hQ
      have e1 := (shape_12 f (t2.length : Int) t1).resolve_right h
      exact clone_ok (by omega) hQ
  · intro k hk
    refine spvec_Right_ok hl (ifP_not (fun h => hk _ ?_) (fun h => hk _ ?_))
    · rw [sureV, if_neg (of_decide_eq_false h)]; rfl
    · rw [sureV, if_pos (of_decide_eq_true h)]
theorem vec_ok {s : Int} {u : Vec} {Q : Vec → Prop} (hu : VecP u) (hQ : Q u) : policy_Vec (heldF s u) Q := by
  unfold policy_Vec heldF
  have hul := hu.len
  split
  · exact ifP_pos rfl (devec_Back_ok hu hQ)
  · refine ifP_neg rfl (join_intro (fun b => b = true) (fun b hb => ifP_pos hb (clone_ok (by simp only; omega) hQ)) fun k hk => ifP_pos rfl (spvec_Right_ok (by simp only; omega) (hk _ (decide_eq_true hu))))
theorem vec_none {Q : Vec → Prop} (hQ : Q zV) : policy_Vec ⟨0, zV, ⟨0, [], []⟩⟩ Q := by
  unfold policy_Vec
  exact ifP_neg rfl (join_intro (fun b => b = false) (fun b hb => ifP_neg hb hQ) fun k hk => ifP_neg rfl (hk _ rfl))
theorem dense_ok {s : Int} {u : Vec} {Q : Dense → Prop} (hu : VecP u) (hQ : Q (denS u)) : policy_Dense (heldF s u) Q := by
  unfold policy_Dense
  refine vec_ok hu (devec_Of_ok (by have := hu.len; omega) ?_)
  rw [sureV_id hu]; exact hQ
theorem size_hold_ok {s : Int} {u : Vec} {Q : Int → Prop} (hu : VecP u) (hQ : Q (if s = 2 then u.N else u.Items.length)) : policy_Size (heldF s u) Q := by
  unfold policy_Size
  refine vec_ok hu ?_
  unfold heldF
  by_cases h : s = 2
  · rw [if_pos h] at hQ ⊢; exact ifP_neg rfl hQ
  · rw [if_neg h] at hQ ⊢; exact ifP_pos rfl hQ
/-! ### Products -/
def taskS (r w : Int) (s : List Sum × Int) (d : Int) : List Sum × Int × Int := if s.2 ≠ 0 then ([], 0, s.2) else (s.1, d, 0)
theorem psums_ok {t : Policy_Task} {rows cols : Int} {ts : List Triple} {s : Int} {u : Vec} {Q : List Sum × Int × Int → Prop} (hM : Canon rows cols ts) (hMv : ∀ x ∈ ts, inI x.Val) (hR : t.Rows = builtS rows cols ts) (hC : t.Cols = colS rows cols (turnT cols ts)) (hX : t.X = heldF s u) (hu : VecP u) (huv : ∀ x ∈ u.Items, inI x.Val) (hf : okF t.Set)
    (hQ : Q (taskS t.Ring t.Way (sumsR t.Ring rows cols ts u t.Set t.Others) (dirS t.Way (workS (turnT cols ts) (placesS u)) ts.length))) : policy_Sums t Q := by
  obtain ⟨tr, tR, tC, tX, tS, tO, tW⟩ := t
  simp only at hR hC hX hf hQ
  subst hR; subst hC; subst hX
  unfold policy_Sums policy_Task_pull_afb policy_Task_push_e34
  have hT := turn_canon hM
  have hTv := turnT_vals hM hMv
  have hul : u.Items.length ≤ 1000000000 := by have := hu.len; omega
  simp only
  refine vec_ok hu (push_Work_ok hT.smlC hul (sureC_col hT) hT (csr_count_ok hM.sml (sure_built hM) (dir_ok ?_)))
  unfold taskS at hQ
  refine ifP_eq (fun h => dense_ok hu (pull_Sums_ok hM hMv hu huv hf ?_)) (fun h => vec_ok hu (push_Sums_ok hT.smlC (sureC_col hT) hT hTv hul (by rw [sureV_id hu]; exact huv) hf ?_))
  · refine ifP_ne (fun hne => ?_) (fun he => ?_)
    · rw [if_pos hne] at hQ; exact hQ
    · rw [if_neg (fun h => h he)] at hQ; rw [he]; exact hQ
  · rw [sureV_id hu, ← sums_turn hT, turn_turn hM]
    refine ifP_ne (fun hne => ?_) (fun he => ?_)
    · rw [if_pos hne] at hQ; exact hQ
    · rw [if_neg (fun h => h he)] at hQ; rw [he]; exact hQ
theorem psums_none {Q : List Sum × Int × Int → Prop} (hQ : Q ([], 0, 8)) : policy_Sums ⟨0, ⟨0, 0, [], [], []⟩, ⟨0, 0, [], [], [], []⟩, ⟨0, zV, ⟨0, [], []⟩⟩, [], false, 0⟩ Q := by
  unfold policy_Sums policy_Task_pull_afb policy_Task_push_e34
  have hc := zC_wrong
  have sm : smallC ⟨0, 0, [], [], [], []⟩ := by unfold smallC; simp
  have sc : sureC ⟨0, 0, [], [], [], []⟩ = colS 0 0 [] := if_neg hc
  have hz : small ⟨0, 0, [], [], []⟩ := small_zR
  have ez : sureS ⟨0, 0, [], [], []⟩ = builtS 0 0 [] := by
    obtain ⟨rows, cols, ts, h1, h2, h3, h4⟩ := sureS_cases zR
    obtain ⟨e1, e2, e3⟩ := h4 zR_wrong
    subst e1; subst e2; subst e3; exact h2
  simp only
  refine vec_none (push_Work_ok (x := zV) sm (by simp [zV]) sc canon_empty (csr_count_ok hz ez (dir_ok ?_)))
  have e : dirS 0 (workS [] (placesS zV)) (([] : List Triple).length : Int) = 1 := by decide +kernel
  rw [e]
  refine ifP_neg rfl (vec_none (push_Sums_ok (x := zV) sm sc canon_empty (by simp) (by simp [zV]) (by rw [sureV_id zV_ok]; simp [zV]) nil_okF ?_))
  have e2 : sumsP 0 0 0 [] (sureV zV) [] false = ([], 8) := by unfold sumsP; rw [if_pos (by omega)]
  rw [e2]
  exact ifP_pos rfl hQ
theorem den_same_ok {u : Vec} {Q : Bool → Prop} (hu : VecP u) (hQ : Q true) : ref10_Same (denS u) (denS u) Q := by
  unfold ref10_Same ref03_Same
  have h1 := den_len u
  have h2 : (denS u).Vals.length ≤ 4096 := by have := hu.n1; simp [denS, valsS]; omega
  refine ifP_pos (by simp) (ifP_neg (by simp) (scan_intro (denS u).Has.length (by omega) (fun _ => True) trivial (fun k next hk _ hn => ?_) (fun next _ => ?_)))
  · exact ifP_dec (fun _ => idxP_nat hk (idxP_nat hk (ifP_neg (by simp) (hn trivial)))) (fun h => by omega)
  · refine ifP_dec (fun h => by omega) (fun _ => ifP_pos rfl (eqV_ok (by omega) ?_))
    rw [decide_eq_true rfl]; exact hQ
def M16 : List Triple := [⟨0, 3, 2⟩]
def V16 : Vec := ⟨8, [⟨3, 5⟩]⟩
theorem M16_canon : Canon 1 8 M16 := ⟨by decide, by decide, by decide, by decide, by decide, by unfold Srt; decide, by decide⟩
theorem V16_ok : VecP V16 := by decide
theorem live16_ok {Q : Bool → Prop} (hQ : Q true) : law16_live Q := by
  unfold law16_live
  have sV : sureV V16 = V16 := sureV_id V16_ok
  have hMv : ∀ t ∈ M16, inI t.Val := by unfold inI; decide
  have hVv : ∀ y ∈ V16.Items, inI y.Val := by unfold inI; decide
  refine ref_Of_ok (by decide) (by unfold inI; decide) ?_
  rw [show ofS 1 1 8 ([({ Row := 0, Col := 3, Val := 2 } : Triple)]) = (builtS 1 8 M16, 0) by
    have := of_self (r := 1) M16_canon (by unfold inI; decide) (by omega)
    exact this]
  refine hold_ok (v := V16) (by decide) (hold_ok (v := V16) (by decide) (ref_dcsc_of_ok M16_canon.sml (sure_built M16_canon) M16_canon ?_))
  have e1 : holdS 0 V16 = heldF 1 V16 := by unfold holdS; rw [sV]; rfl
  have e2 : holdS 2 V16 = heldF 2 V16 := by unfold holdS; rw [sV]; rfl
  rw [e1, e2]
  refine psums_ok (s := 1) (u := V16) M16_canon hMv rfl rfl rfl V16_ok hVv nil_okF ?_
  have e3 : dirS 0 (workS (turnT 8 M16) (placesS V16)) M16.length = 2 := by decide +kernel
  have e4 : sumsR 1 1 8 M16 V16 [] true = ([⟨0, ⟨0, 7⟩⟩], 0) := by decide +kernel
  simp only
  rw [e3, e4]
  refine psums_none (shape_ok (ifP_pos (by decide) (shape_ok (ifP_pos (by decide) (dir_ok (ifP_pos (by decide) (dir_ok (ifP_pos (by decide) (ifP_pos (by decide) ?_)))))))))
  refine size_hold_ok V16_ok (ifP_pos (by decide) (size_hold_ok V16_ok (ifP_pos (by decide) (vec_ok V16_ok (ref09_Same_ok (v := V16) (by decide) (ifP_pos rfl (dense_ok V16_ok ?_)))))))
  refine ifP_pos (by decide) (ifP_pos (by decide) (ifP_pos (by decide) (ifP_pos (by decide) (idxP_intro (by decide) (x := ⟨0, ⟨0, 7⟩⟩) (by decide) (ifP_pos (by decide) (ifP_pos (by decide) ?_))))))
  exact hQ
theorem PolicyPicks_ok (a0 a1 : Int) (a2 : Int × Int) : law16_PolicyPicks a0 a1 a2 (fun r => r = true) := by
  unfold law16_PolicyPicks
  exact live16_ok (ifP_pos rfl (dir_ok (ref_dir_ok (ifP_pos (by simp) (shape_ok (ref_shape_ok (by simp)))))))
theorem PolicySizes_ok (a0 : Int) (a1 : List Item) (a2 : Int) (h0 : inR .u8 a0) (h1 : (∀ x ∈ a1, okItem x) ∧ a1.length ≤ maxLen) : law16_PolicySizes a0 a1 a2 (fun r => r = true) := by
  unfold law16_PolicySizes
  refine vsome_ok h0 h1.1 fun v hvn hv hvv => ?_
  have hvl := hv.len; have h0' := hv.n0; have h1' := hv.n1
  have hlN := incI_len hv.inc hv.n0 hv.ins
  refine hold_ok (by omega) (hold_ok (by omega) (live16_ok (ifP_pos rfl ?_)))
  unfold holdS
  rw [sureV_id hv]
  refine vec_ok hv (ref09_Same_ok (by omega) (ifP_pos rfl (dense_ok hv (ref10_Of_ok (by omega) ?_))))
  rw [sureV_id hv]
  refine den_same_ok hv (ifP_pos rfl (size_hold_ok hv (ifP_pos (decide_eq_true ?_) (size_hold_ok hv ?_))))
  · split <;> omega
  · rw [w64_id (x := 8 * (v.Items.length : Int)) (by omega) (by omega), w64_id (by omega) (by omega)]
    refine decide_eq_true ?_
    have hs : shapeS 0 (v.Items.length : Int) v.N = if v.N / 8 < (v.Items.length : Int) then 2 else 1 := by
      unfold shapeS
      rw [Int.tdiv_eq_ediv_of_nonneg h0', w64_id (x := v.N / 8) (by omega) (by omega)]
      simp
    rw [hs]
    by_cases h : v.N / 8 < (v.Items.length : Int)
    · rw [if_pos h, if_pos rfl]; omega
    · rw [if_neg h]
      split <;> omega
end Go.Proofs.YtmidnfbbnmigeaaGreat

