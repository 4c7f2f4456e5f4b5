/- Vectors by their items, and as words. -/
import Derived.Test.YtdfiinkpdaggeaaGreatBaseB
namespace Go.Proofs.YtdfiinkpdaggeaaGreat
open Go Go.Fw
set_option linter.unusedVariables false
set_option linter.unusedSimpArgs false
/-! ### Vectors that can be -/
def IncI (l : List Item) : Prop := l.Pairwise fun a b => a.At < b.At
instance (l : List Item) : Decidable (IncI l) := by unfold IncI; infer_instance
structure VecP (v : Vec) : Prop where
  n0 : 0 ≤ v.N
  n1 : v.N ≤ 4096
  inc : IncI v.Items
  ins : ∀ x ∈ v.Items, 0 ≤ x.At ∧ x.At < v.N
instance (v : Vec) : Decidable (VecP v) := decidable_of_iff (0 ≤ v.N ∧ v.N ≤ 4096 ∧ IncI v.Items ∧ ∀ x ∈ v.Items, 0 ≤ x.At ∧ x.At < v.N) ⟨fun ⟨a, b, c, d⟩ => ⟨a, b, c, d⟩, fun ⟨a, b, c, d⟩ => ⟨a, b, c, d⟩⟩
def zV : Vec := ⟨0, []⟩
theorem zV_ok : VecP zV := ⟨by decide, by decide, .nil, by simp [zV]⟩
def sureV (v : Vec) : Vec := if VecP v then v else zV
theorem sureV_ok (v : Vec) : VecP (sureV v) := by unfold sureV; split <;> first | assumption | exact zV_ok
theorem sureV_id {v : Vec} (h : VecP v) : sureV v = v := if_pos h
theorem inc_adj {l : List Item} (h : ∀ (i : Nat) (hi : i + 1 < l.length), l[i].At < l[i + 1].At) : IncI l := by
  unfold IncI
  rw [List.pairwise_iff_getElem]
  intro i j hi hj hij
  obtain ⟨d, rfl⟩ : ∃ d, j = i + 1 + d := ⟨j - i - 1, by omega⟩
  induction d with
  | zero => exact h i (by omega)
  | succ d ih => have h1 := ih (by omega) (by omega); have h2 := h (i + 1 + d) (by omega); exact Int.lt_trans h1 h2
theorem IncI.at {l : List Item} (h : IncI l) {i j : Nat} (hj : j < l.length) (hij : i < j) : (l[i]'(by omega)).At < l[j].At := by
  unfold IncI at h; rw [List.pairwise_iff_getElem] at h; exact h i j (by omega) hj hij
theorem incI_len {l : List Item} (h : IncI l) {n : Int} (hn : 0 ≤ n) (hi : ∀ x ∈ l, 0 ≤ x.At ∧ x.At < n) : (l.length : Int) ≤ n := by
  have : ∀ k (hk : k < l.length), (k : Int) ≤ l[k].At := by
    intro k
    induction k with
    | zero => intro hk; exact (hi _ (List.getElem_mem hk)).1
    | succ k ih => intro hk; have := ih (by omega); have := h.at hk (i := k) (by omega); omega
  rcases Nat.eq_zero_or_pos l.length with e | e
  · rw [e]; exact hn
  · have h1 := this (l.length - 1) (by omega)
    have h2 := hi _ (List.getElem_mem (show l.length - 1 < l.length by omega))
    omega
theorem VecP.len {v : Vec} (h : VecP v) : v.Items.length ≤ 4096 := by have := incI_len h.inc h.n0 h.ins; have := h.n1; omega
theorem spvec_within_ok {x y : Int} {Q : Bool → Prop} (hQ : Q (decide (0 ≤ x ∧ x ≤ y))) : spvec_within x y Q := by
  unfold spvec_within
  refine ifP_dec (fun h => ?_) (fun h => ?_)
  · simpa [h] using hQ
  · simpa [h] using hQ
theorem spvec_Right_ok {v : Vec} {Q : Bool → Prop} (hl : v.Items.length ≤ 1000000000) (hQ : Q (decide (VecP v))) : spvec_Right v Q := by
  unfold spvec_Right
  have hno : ¬ VecP v → Q false := fun h => by rwa [decide_eq_false h] at hQ
  have hyes : VecP v → Q true := fun h => by rwa [decide_eq_true h] at hQ
  refine spvec_within_ok (ifP_not (fun h => hno fun h' => of_decide_eq_false h ⟨h'.n0, h'.n1⟩) (fun h => ?_))
  have h := of_decide_eq_true h
  unfold slices_ContainsFunc_api_Item_api_Item_cd0 slices_IndexFunc_api_Item_api_Item_a3e
  refine range_intro (s0 := (-1 : Int)) (fun (s : Int) i => (s, i)) 0 v.Items.length (by omega) (fun k s => (∀ (i : Nat) (hi : i + 1 < v.Items.length), i + 1 < k → v.Items[i].At < v.Items[i + 1].At) ∧ (∀ i (hi : i < v.Items.length), i < k → 0 ≤ v.Items[i].At ∧ v.Items[i].At < v.N) ∧ (k = 0 → s = -1) ∧ (∀ (hk : 0 < k) (hl : k ≤ v.Items.length), s = (v.Items[k - 1]'(by omega)).At)) (by omega) ⟨fun i _ h => by omega, fun i _ h => by omega, fun _ => rfl, fun h => by omega⟩ (fun k s next _ hk hs hn => ?_) (fun s next hs => ?_)
  · obtain ⟨h1, h2, h3, h4⟩ := hs
    refine ifP_dec (fun _ => idxP_nat hk ?_) (fun h => by omega)
    unfold spvec_Right_1_81a
    have bad : ¬ VecP v → (fun r84 : Bool × Int => ifP r84.1 ((fun r17 : Int × Int => (fun r26 : Bool × Int => Q (!r26.1)) (decide (0 ≤ r17.1), r17.2)) ((k : Int), r84.2)) (next (r84.2, w64 ((k : Int) + 1)))) (true, v.Items[k].At) := by
      intro hn'
      refine ifP_pos rfl ?_
      simp only [show decide ((0 : Int) ≤ (k : Int)) = true by simp]
      exact hno hn'
    refine ifP_dec (fun h5 => bad fun hv => ?_) (fun h5 => ?_)
    · rcases Nat.eq_zero_or_pos k with e | e
      · subst e
        rw [h3 rfl] at h5
        have := (hv.ins _ (List.getElem_mem hk)).1; omega
      · rw [h4 e (by omega)] at h5
        have := hv.inc.at hk (i := k - 1) (by omega); omega
    · refine ⟨fun h6 => ?_, fun h6 => hn _ ⟨fun i hi hik => ?_, fun i hi hik => ?_, fun h => by omega, fun _ _ => by simp⟩⟩
      · have h6 := of_decide_eq_true h6
        simp only [show decide ((0 : Int) ≤ (k : Int)) = true by simp]
        exact hno fun hv => by have := (hv.ins _ (List.getElem_mem hk)).2; omega
      · by_cases e : i + 1 = k
        · subst e; rw [h4 (by omega) (by omega)] at h5; simp only [Nat.add_sub_cancel] at h5; omega
        · exact h1 i hi (by omega)
      · have h6 := of_decide_eq_false h6
        by_cases e : i = k
        · subst e
          refine ⟨?_, by omega⟩
          rcases Nat.eq_zero_or_pos i with e | e
          · rw [h3 e] at h5; omega
          · rw [h4 e (by omega)] at h5
            have := (h2 (i - 1) (by omega) (by omega)).1; omega
        · exact h2 i hi (by omega)
  · obtain ⟨h1, h2, h3, h4⟩ := hs
    refine ifP_dec (fun h => by omega) (fun _ => ?_)
    simp only [show decide ((0 : Int) ≤ -1) = false by decide]
    refine hyes ⟨h.1, h.2, inc_adj fun i hi => h1 i hi (by omega), fun x hx => ?_⟩
    obtain ⟨i, hi, rfl⟩ := List.mem_iff_getElem.1 hx
    exact h2 i hi hi
theorem ref09_Right_ok {v : Vec} {Q : Bool → Prop} (hl : v.Items.length ≤ 1000000000) (hQ : Q (decide (VecP v))) : ref09_Right v Q := by
  unfold ref09_Right
  have hno : ¬ VecP v → Q false := fun h => by rwa [decide_eq_false h] at hQ
  have hyes : VecP v → Q true := fun h => by rwa [decide_eq_true h] at hQ
  refine ifP_dec (fun h => hno fun h' => by have := h'.n0; omega) (fun g0 => ifP_dec (fun h => hno fun h' => by have := h'.n1; omega) (fun g1 => ?_))
  refine scan_intro v.Items.length (by omega) (fun k => (∀ (i : Nat) (hi : i + 1 < v.Items.length), i + 1 < k → v.Items[i].At < v.Items[i + 1].At) ∧ (∀ i (hi : i < v.Items.length), i < k → 0 ≤ v.Items[i].At ∧ v.Items[i].At < v.N)) ⟨fun i _ h => by omega, fun i _ h => by omega⟩ (fun k next hk hR hn => ?_) (fun next hR => ?_)
  · refine ifP_dec (fun _ => idxP_nat hk (ifP_dec (fun h => hno fun hv => ?_) (fun h1 => idxP_nat hk (ifP_dec (fun h => hno fun hv => ?_) (fun h2 => ifP_dec (fun h3 => idxP_nat hk ?_) (fun h3 => hn ⟨fun i hi hik => ?_, fun i hi hik => ?_⟩)))))) (fun h => by omega)
    · have := (hv.ins _ (List.getElem_mem hk)).1; omega
    · have := (hv.ins _ (List.getElem_mem hk)).2; omega
    · have e : w64 ((k : Int) - 1) = ((k - 1 : Nat) : Int) := by rw [w64_id (by omega) (by omega)]; omega
      rw [e]
      refine idxP_nat (by omega) (ifP_dec (fun h => hno fun hv => ?_) (fun h4 => hn ⟨fun i hi hik => ?_, fun i hi hik => ?_⟩))
      · have := hv.inc.at hk (i := k - 1) (by omega); omega
      · by_cases e : i + 1 = k
        · subst e; simp only [Nat.add_sub_cancel] at h4; omega
        · exact hR.1 i hi (by omega)
      · by_cases e : i = k
        · subst e; omega
        · exact hR.2 i hi (by omega)
    · omega
    · by_cases e : i = k
      · subst e; omega
      · exact hR.2 i hi (by omega)
  · refine ifP_dec (fun h => by omega) (fun _ => hyes ⟨by omega, by omega, inc_adj fun i hi => hR.1 i hi (by omega), fun x hx => ?_⟩)
    obtain ⟨i, hi, rfl⟩ := List.mem_iff_getElem.1 hx
    exact hR.2 i hi hi
theorem ref09_Sure_ok {v : Vec} {Q : Vec → Prop} (hl : v.Items.length ≤ 1000000000) (hQ : Q (sureV v)) : ref09_Sure v Q := by
  unfold ref09_Sure
  unfold sureV at hQ
  refine ref09_Right_ok hl (ifP_dec (fun h => ?_) (fun h => ?_))
  · rwa [if_pos h] at hQ
  · rwa [if_neg h] at hQ
theorem spvec_sure_ok {v : Vec} {Q : Vec → Prop} (hl : v.Items.length ≤ 1000000000) (hQ : Q (sureV v)) : spvec_sure v Q := by
  unfold spvec_sure
  unfold sureV at hQ
  refine spvec_Right_ok hl (ifP_dec (fun h => ?_) (fun h => ?_))
  · rwa [if_pos h] at hQ
  · rwa [if_neg h] at hQ
/-- a list made of another's elements, one by one -/
theorem map_loop {α β : Type} {xs : List α} {f : α → β} {body : List β × Int → (List β × Int → Prop) → Prop} (hl : xs.length ≤ 1000000000)
    (hs : ∀ (i : Nat) (s : List β) (next : List β × Int → Prop) (hi : i < xs.length), s.length = i → (next (s ++ [f xs[i]], w64 ((i : Int) + 1))) → body (s, (i : Int)) next)
    (he : ∀ (next : List β × Int → Prop) s, s = xs.map f → body (s, (xs.length : Int)) next) : loopP body ([], 0) := by
  refine range_intro (fun (s : List β) i => (s, i)) 0 xs.length (by omega) (fun k s => s = (xs.take k).map f) (by omega) (by simp) (fun k s next _ hk hs' hn => ?_) (fun s next hs' => ?_)
  · refine hs k s next hk (by subst hs'; simp; omega) (hn _ ?_)
    subst hs'
    rw [List.take_succ_eq_append_getElem hk, List.map_append]; rfl
  · rw [List.take_length] at hs'
    exact he next s hs'
def placesS (v : Vec) : List Int := (sureV v).Items.map (·.At)
theorem spvec_Places_ok {v : Vec} {Q : List Int → Prop} (hl : v.Items.length ≤ 1000000000) (hQ : Q (placesS v)) : spvec_Places v Q := by
  unfold spvec_Places
  have hvl := (sureV_ok v).len
  refine spvec_sure_ok hl (map_loop (xs := (sureV v).Items) (f := (·.At)) (by omega) (fun i s next hi hs hn => ifP_dec (fun _ => idxP_nat hi (appP_intro (by simp; omega) hn)) (fun h => by omega)) (fun next s hs => ifP_dec (fun h => by omega) (fun _ => ?_)))
  subst hs; exact hQ
/-! ### Values -/
def kvI (x : Item) : Int × Int := (x.At, x.Val)
def lkI (l : List Item) (i : Int) : Option Int := mget i (l.map kvI)
theorem lkI_cons (s : Item) (l : List Item) (i : Int) : lkI (s :: l) i = if i = s.At then some s.Val else lkI l i := rfl
theorem lkI_none : ∀ {l : List Item} {i : Int}, (∀ s ∈ l, s.At ≠ i) → lkI l i = none
  | [], _, _ => rfl
  | s :: l, i, h => by rw [lkI_cons, if_neg (fun e => h s (by simp) e.symm)]; exact lkI_none fun x hx => h x (by simp [hx])
theorem lkI_mem : ∀ {l : List Item} {i : Int} {v : Int}, lkI l i = some v → ⟨i, v⟩ ∈ l
  | s :: l, i, v, h => by
    rw [lkI_cons] at h
    split at h
    · rename_i e; cases h; subst e; simp
    · exact List.mem_cons_of_mem _ (lkI_mem h)
theorem mem_lkI : ∀ {l : List Item} (h : IncI l) {s : Item}, s ∈ l → lkI l s.At = some s.Val
  | x :: l, h, s, hs => by
    unfold IncI at h
    rw [List.pairwise_cons] at h
    rw [lkI_cons]
    rcases List.mem_cons.1 hs with e | hs
    · subst e; rw [if_pos rfl]
    · have := h.1 s hs
      rw [if_neg (by omega)]; exact mem_lkI h.2 hs
theorem lkI_append : ∀ (l : List Item) (m : List Item) (i : Int), lkI (l ++ m) i = match lkI l i with | some v => some v | none => lkI m i
  | [], m, i => rfl
  | s :: l, m, i => by
    rw [List.cons_append, lkI_cons, lkI_cons]
    split
    · rfl
    · exact lkI_append l m i
/-! ### As words -/
def valsS (n : Nat) (l : List Item) : List Int := (List.range n).map fun i : Nat => (lkI l i).getD 0
def denS (v : Vec) : Dense := ⟨v.N, ofF v.N (v.Items.map (·.At)), valsS v.N.toNat v.Items⟩
theorem valsS_nil (n : Nat) : valsS n [] = List.replicate n 0 := by
  unfold valsS
  apply List.ext_getElem
  · simp
  · intro i h1 h2; simp [lkI, mget]
theorem valsS_snoc {n : Nat} {l : List Item} {x : Item} (h : ∀ s ∈ l, s.At < x.At) (h0 : 0 ≤ x.At) : valsS n (l ++ [x]) = (valsS n l).set x.At.toNat x.Val := by
  unfold valsS
  rw [rm_set]
  refine List.map_congr_left fun i _ => ?_
  rw [lkI_append, lkI_cons]
  by_cases e : i = x.At.toNat
  · subst e
    rw [if_pos rfl, lkI_none (fun s hs => by have := h s hs; omega)]
    simp only
    rw [if_pos (by omega)]; rfl
  · rw [if_neg e, if_neg (by omega)]
    split
    · rename_i v hv; rw [hv]
    · rename_i hv; rw [hv]; rfl
theorem IncI.take {l : List Item} (h : IncI l) (k : Nat) : IncI (l.take k) := List.Pairwise.sublist (List.take_sublist k l) h
theorem IncI.before {l : List Item} (h : IncI l) {k : Nat} (hk : k < l.length) : ∀ s ∈ l.take k, s.At < l[k].At := by
  intro s hs
  obtain ⟨j, hj, rfl⟩ := List.mem_iff_getElem.1 hs
  rw [List.length_take] at hj
  rw [List.getElem_take]
  exact h.at hk (by omega)
theorem at0_valsS {n : Nat} {l : List Item} {i : Int} (h0 : 0 ≤ i) (h1 : i < n) : at0 (valsS n l) i = (lkI l i).getD 0 := by
  unfold valsS at0
  rw [List.getD_eq_getElem?_getD, List.getElem?_map, List.getElem?_range (by omega)]
  simp only [Option.map_some, Option.getD_some]
  rw [Int.toNat_of_nonneg h0]
theorem devec_New_ok {n : Int} {Q : Dense → Prop} (h : 0 ≤ n ∧ n ≤ 4096) (hQ : Q ⟨n, newF n, List.replicate n.toNat 0⟩) : devec_New n Q := by
  unfold devec_New
  exact ifP_dec (fun h' => by omega) (fun _ => ifP_dec (fun h' => by omega) (fun _ => ⟨by omega, by omega, flags_New_ok hQ⟩))
theorem devec_Of_ok {v : Vec} {Q : Dense → Prop} (hl : v.Items.length ≤ 1000000000) (hQ : Q (denS (sureV v))) : devec_Of v Q := by
  unfold devec_Of
  refine spvec_Right_ok hl (ifP_not (fun h => ?_) (fun h => ?_))
  · have h := of_decide_eq_false h
    rw [sureV, if_neg h] at hQ
    exact devec_New_ok ⟨by omega, by omega⟩ hQ
  · have hv := of_decide_eq_true h
    rw [sureV_id hv] at hQ
    have hul := hv.len
    have := hv.n0; have := hv.n1
    refine devec_New_ok ⟨by omega, by omega⟩ (range_intro (s0 := List.replicate v.N.toNat (0 : Int)) (fun (s : List Int) i => (s, i)) 0 v.Items.length (by omega) (fun k s => s = valsS v.N.toNat (v.Items.take k)) (by omega) (by simp [valsS_nil]) (fun k s next _ hk hs hn => ?_) (fun s next hs => ?_))
    · have hin := hv.ins _ (List.getElem_mem hk)
      refine ifP_dec (fun _ => idxP_nat hk (idxP_at0 (by omega) (by subst hs; simp [valsS]; omega) (hn _ ?_))) (fun h => by omega)
      rw [List.take_succ_eq_append_getElem hk, valsS_snoc (hv.inc.before hk) hin.1, hs]
    · rw [List.take_length] at hs
      subst hs
      refine ifP_dec (fun h => by omega) (fun _ => spvec_Places_ok hl (flags_Of_ok ?_ (fun x hx => ?_) ?_))
      · rw [placesS, sureV_id hv]; simp; omega
      · rw [placesS, sureV_id hv] at hx
        obtain ⟨y, hy, rfl⟩ := List.mem_map.1 hx
        have := hv.ins y hy; unfold inI; omega
      · rw [placesS, sureV_id hv]; exact hQ
theorem den_has {v : Vec} (h : VecP v) (i : Int) : hasF (denS v).Has i = (lkI v.Items i).isSome := by
  have hn := h.n1
  have e := (ofF_prop v.N (v.Items.map (·.At))).2.2 i
  show hasF (ofF v.N (v.Items.map (·.At))) i = _
  rw [e]
  cases hlk : lkI v.Items i with
  | none =>
    refine decide_eq_false fun h' => ?_
    obtain ⟨x, hx, e⟩ := List.mem_map.1 h'.1
    have := mem_lkI h.inc hx
    rw [e, hlk] at this; cases this
  | some y =>
    have hm := lkI_mem hlk
    have := h.ins _ hm
    simp only at this
    exact decide_eq_true ⟨List.mem_map.2 ⟨_, hm, rfl⟩, this.1, this.2, by omega⟩
theorem den_okF (v : Vec) : okF (denS v).Has := (ofF_prop _ _).1
theorem den_len (v : Vec) : (denS v).Has.length ≤ 64 := by rw [show (denS v).Has.length = wordsS v.N from (ofF_prop _ _).2.1]; exact words_le _
end Go.Proofs.YtdfiinkpdaggeaaGreat
