/- The statement PushParts in plain Lean. -/
import Derived.Test.YtdfiinkpdaggeaaGreatPushH
namespace Go.Proofs.YtdfiinkpdaggeaaGreat
open Go Go.Fw
set_option linter.unusedVariables false
set_option linter.unusedSimpArgs false
/-! ### Sums in any order -/
theorem leW_total (a b : Wide) : leW a b ∨ leW b a := by unfold leW; omega
theorem leW_anti {a b : Wide} (h : leW a b) (h' : leW b a) : a = b := by unfold leW at *; exact wide_eta (by omega) (by omega)
theorem leW_trans {a b c : Wide} (h : leW a b) (h' : leW b c) : leW a c := by unfold leW at *; omega
def minW (a b : Wide) : Wide := if leW a b then a else b
theorem minW_comm (a b : Wide) : minW a b = minW b a := by
  unfold minW
  by_cases h : leW a b <;> by_cases h' : leW b a
  · rw [if_pos h, if_pos h']; exact leW_anti h h'
  · rw [if_pos h, if_neg h']
  · rw [if_neg h, if_pos h']
  · rcases leW_total a b with e | e
    · exact absurd e h
    · exact absurd e h'
theorem minW_assoc (a b c : Wide) : minW (minW a b) c = minW a (minW b c) := by
  unfold minW
  by_cases h1 : leW a b <;> by_cases h2 : leW b c <;> by_cases h3 : leW a c <;> simp only [h1, h2, h3, if_true, if_false]
  · exact absurd (leW_trans h1 h2) h3
  · exfalso; unfold leW at *; omega
theorem addW_comm {r : Int} {a b : Wide} (ha : okW a) (hb : okW b) : addW r a b = addW r b a := by
  by_cases h : r = 1 ∨ r = 3 ∨ r = 4
  · have e : ∀ a b, addW r a b = minW a b := fun a b => by unfold addW minW; rw [if_pos h]
    rw [e, e]; exact minW_comm a b
  · by_cases h2 : r = 2
    · unfold addW
      rw [if_neg h, if_pos h2, if_neg h, if_pos h2]
      by_cases e1 : a = ⟨0, 0⟩ <;> by_cases e2 : b = ⟨0, 0⟩ <;> simp [e1, e2]
    · by_cases h5 : r = 5
      · subst h5
        rw [okW_toZ ha, okW_toZ hb, ofZ_add, ofZ_add, Int.add_comm]
      · unfold addW; rw [if_neg h, if_neg h2, if_neg h5, if_neg h, if_neg h2, if_neg h5]
theorem addW_assoc {r : Int} {a b c : Wide} (ha : okW a) (hb : okW b) (hc : okW c) : addW r (addW r a b) c = addW r a (addW r b c) := by
  by_cases h : r = 1 ∨ r = 3 ∨ r = 4
  · have e : ∀ a b, addW r a b = minW a b := fun a b => by unfold addW minW; rw [if_pos h]
    simp only [e]; exact minW_assoc a b c
  · by_cases h2 : r = 2
    · have e : ∀ a b, addW r a b = if a = ⟨0, 0⟩ ∧ b = ⟨0, 0⟩ then ⟨0, 0⟩ else ⟨0, 1⟩ := fun a b => by unfold addW; rw [if_neg h, if_pos h2]
      have n1 : (⟨0, 1⟩ : Wide) ≠ ⟨0, 0⟩ := by decide
      simp only [e]
      by_cases e1 : a = ⟨0, 0⟩ <;> by_cases e2 : b = ⟨0, 0⟩ <;> by_cases e3 : c = ⟨0, 0⟩ <;> simp [e1, e2, e3]
    · by_cases h5 : r = 5
      · subst h5
        rw [okW_toZ ha, okW_toZ hb, okW_toZ hc, ofZ_add, ofZ_add, ofZ_add, ofZ_add, Int.add_assoc]
      · unfold addW
        simp only [if_neg h, if_neg h2, if_neg h5]
def okO (o : Option Wide) : Prop := ∀ w, o = some w → okW w
theorem cmb_comm {r : Int} {a b : Option Wide} (ha : okO a) (hb : okO b) : cmb r a b = cmb r b a := by
  cases a with
  | none => cases b <;> rfl
  | some x => cases b with
    | none => rfl
    | some y => simp only [cmb]; rw [addW_comm (ha x rfl) (hb y rfl)]
theorem cmb_assoc {r : Int} {a b c : Option Wide} (ha : okO a) (hb : okO b) (hc : okO c) : cmb r (cmb r a b) c = cmb r a (cmb r b c) := by
  cases a with
  | none => cases b <;> rfl
  | some x => cases b with
    | none => cases c <;> rfl
    | some y => cases c with
      | none => rfl
      | some z => simp only [cmb]; rw [addW_assoc (ha x rfl) (hb y rfl) (hc z rfl)]
theorem rowW_succ (r : Int) (n : Nat) (A B : Int → Option Int) : rowW r (n + 1) A B = stepW r A B (rowW r n A B) n := by
  unfold rowW; rw [List.range_succ, List.foldl_append]; rfl
theorem rowW_add (r : Int) (k : Nat) (A B : Int → Option Int) : ∀ m : Nat, rowW r (k + m) A B = cmb r (rowW r k A B) (rowW r m (fun j => A (j + k)) (fun j => B (j + k)))
  | 0 => by rw [Nat.add_zero, show rowW r 0 (fun j => A (j + k)) (fun j => B (j + k)) = none from rfl, cmb_none]
  | m + 1 => by
    rw [← Nat.add_assoc, rowW_succ, rowW_succ, rowW_add r k A B m]
    have ho := rowW_okW r m (fun j => A (j + k)) (fun j => B (j + k))
    generalize rowW r m (fun j => A (j + k)) (fun j => B (j + k)) = o at ho ⊢
    unfold stepW
    rw [show (((k + m : Nat) : Int)) = (m : Int) + k by omega]
    simp only
    cases hA : A ((m : Int) + k) with
    | none => rfl
    | some a => cases hB : B ((m : Int) + k) with
      | none => rfl
      | some x =>
        have hm : okO (some (mulW r a x)) := fun w hw => by
          have := Option.some.inj hw
          subst this; exact mulW_okW _ _ _
        exact cmb_assoc (rowW_okW r k A B) ho hm
theorem rowW_congr {r : Int} {n : Nat} {A A' B B' : Int → Option Int} (hA : ∀ j : Nat, j < n → A j = A' j) (hB : ∀ j : Nat, j < n → B j = B' j) : rowW r n A B = rowW r n A' B' := by
  unfold rowW
  refine foldl_same fun acc k hk => ?_
  have hk := List.mem_range.1 hk
  unfold stepW
  rw [hA k hk, hB k hk]
/-! ### Parts -/
theorem lkI_iff {l : List Item} (h : IncI l) {i a : Int} : lkI l i = some a ↔ (⟨i, a⟩ : Item) ∈ l := ⟨lkI_mem, fun hm => mem_lkI h hm⟩
theorem opt_ext {x y : Option Int} (h : ∀ a, x = some a ↔ y = some a) : x = y := by
  cases x with
  | none => cases y with
    | none => rfl
    | some b => have := (h b).2 rfl; cases this
  | some a => exact ((h a).1 rfl).symm
def partV (u : Vec) (a b : Int) : Vec :=
  if (if u.N < b then u.N else b) ≤ (if 0 > a then 0 else a) then zV
  else ⟨(if u.N < b then u.N else b) - (if 0 > a then 0 else a), (u.Items.filter fun x => decide ((if 0 > a then 0 else a) ≤ x.At ∧ x.At < (if u.N < b then u.N else b))).map fun x => ⟨x.At - (if 0 > a then 0 else a), x.Val⟩⟩
theorem ref09_Part_ok {v : Vec} {a b : Int} {Q : Vec → Prop} (hl : v.Items.length ≤ 1000000000) (hQ : Q (partV (sureV v) a b)) : ref09_Part v a b Q := by
  unfold ref09_Part
  have hu := sureV_ok v
  refine ref09_Sure_ok hl ?_
  generalize sureV v = u at hu hQ
  have hul := hu.len; have := hu.n0; have := hu.n1
  unfold partV at hQ
  generalize hf : (if 0 > a then 0 else a) = f at *
  generalize ht : (if u.N < b then u.N else b) = t at *
  have hf0 : 0 ≤ f := by subst hf; split <;> omega
  have htN : t ≤ u.N := by subst ht; split <;> omega
  refine ifP_dec (fun h => ?_) (fun h => ?_)
  · rw [if_pos h] at hQ; exact hQ
  · rw [if_neg h] at hQ
    refine range_intro (s0 := ([] : List Item)) (fun (s : List Item) i => (s, i)) 0 u.Items.length (by omega) (fun k s => s = ((u.Items.take k).filter fun x => decide (f ≤ x.At ∧ x.At < t)).map fun x => ⟨x.At - f, x.Val⟩) (by omega) (by simp) (fun k s next _ hk hs hn => ?_) (fun s next hs => ?_)
    · have hx := hu.ins _ (List.getElem_mem hk)
      have hsl : s.length ≤ k := by
        subst hs; rw [List.length_map]
        have := List.length_filter_le (fun x : Item => decide (f ≤ x.At ∧ x.At < t)) (u.Items.take k)
        rw [List.length_take] at this; omega
      refine ifP_dec (fun _ => join_intro (fun c : Bool => c = decide (f ≤ u.Items[k].At ∧ u.Items[k].At < t)) ?_ ?_) (fun h => by omega)
      · rintro c rfl
        refine ifP_dec (fun hc => idxP_nat hk (idxP_nat hk (appP_intro (by simp; omega) (hn _ ?_)))) (fun hc => hn _ ?_)
        · rw [w64_id (by omega) (by omega), List.take_succ_eq_append_getElem hk, List.filter_append, List.map_append, hs, List.filter_cons_of_pos (by simpa using hc)]; rfl
        · rw [List.take_succ_eq_append_getElem hk, List.filter_append, List.map_append, hs, List.filter_cons_of_neg (by simpa using hc)]; simp
      · intro k' hk'
        refine idxP_nat hk (ifP_dec (fun h1 => idxP_nat hk (hk' _ ?_)) (fun h1 => hk' _ ?_))
        · simp [h1]
        · simp [h1]
    · rw [List.take_length] at hs
      subst hs
      refine ifP_dec (fun h => by omega) (fun _ => ?_)
      rw [w64_id (by omega) (by omega)]; exact hQ
theorem part_is {u : Vec} (h : VecP u) {a b : Int} (h0 : 0 ≤ a) (h1 : a ≤ b) (h2 : b ≤ u.N) : partV u a b = ⟨b - a, (u.Items.filter fun x => decide (a ≤ x.At ∧ x.At < b)).map fun x => ⟨x.At - a, x.Val⟩⟩ := by
  unfold partV
  have e1 : (if 0 > a then 0 else a) = a := if_neg (by omega)
  have e2 : (if u.N < b then u.N else b) = b := if_neg (by omega)
  rw [e1, e2]
  split
  · have : b = a := by omega
    subst this
    rw [List.filter_eq_nil_iff.2 (fun x _ => by simp only [decide_eq_true_eq]; omega)]
    simp [zV]
  · rfl
theorem part_prop {u : Vec} (h : VecP u) {a b : Int} (h0 : 0 ≤ a) (h1 : a ≤ b) (h2 : b ≤ u.N) : VecP (partV u a b) ∧ (partV u a b).N = b - a ∧ (∀ j, 0 ≤ j → j < b - a → lkI (partV u a b).Items j = lkI u.Items (j + a)) ∧ ((∀ x ∈ u.Items, inI x.Val) → ∀ x ∈ (partV u a b).Items, inI x.Val) := by
  rw [part_is h h0 h1 h2]
  have hn1 := h.n1
  have hmem : ∀ x : Item, x ∈ ((u.Items.filter fun x => decide (a ≤ x.At ∧ x.At < b)).map fun x => (⟨x.At - a, x.Val⟩ : Item)) ↔ (⟨x.At + a, x.Val⟩ : Item) ∈ u.Items ∧ 0 ≤ x.At ∧ x.At + a < b := by
    intro x
    simp only [List.mem_map, List.mem_filter, decide_eq_true_eq]
    constructor
    · rintro ⟨y, ⟨hy, hc⟩, rfl⟩
      simp only
      rw [show y.At - a + a = y.At by omega]
      exact ⟨hy, by omega, by omega⟩
    · rintro ⟨hy, hc⟩
      refine ⟨_, ⟨hy, by simp only; omega⟩, ?_⟩
      cases x; simp only [Item.mk.injEq]; exact ⟨by omega, trivial⟩
  have hinc : IncI ((u.Items.filter fun x => decide (a ≤ x.At ∧ x.At < b)).map fun x => (⟨x.At - a, x.Val⟩ : Item)) := by
    unfold IncI
    rw [List.pairwise_map]
    exact List.Pairwise.imp (fun {x y} hxy => by simp only; omega) (List.Pairwise.filter _ h.inc)
  refine ⟨⟨by simp only; omega, by simp only; omega, hinc, fun x hx => by have := (hmem x).1 hx; simp only; omega⟩, rfl, fun j hj0 hj1 => opt_ext fun w => ?_, fun hv x hx => ?_⟩
  · rw [lkI_iff hinc, lkI_iff h.inc, hmem]
    exact ⟨fun hh => hh.1, fun hh => ⟨hh, by simp only; omega⟩⟩
  · have := hv _ ((hmem x).1 hx).1
    exact this
theorem cut_col {rows cols : Int} {M : List Triple} (h : Canon rows cols M) {c d : Int} (h0 : 0 ≤ c) (h1 : c ≤ d) (h2 : d ≤ cols) :
    cutS rows cols M (0, rows) (c, d) = builtS rows (d - c) (cutT 0 rows c d M) ∧ Canon rows (d - c) (cutT 0 rows c d M) ∧ ∀ i j : Int, 0 ≤ i → i < rows → 0 ≤ j → j < d - c → lkI (colI (turnT (d - c) (cutT 0 rows c d M)) j) i = lkI (colI (turnT cols M) (j + c)) i := by
  have hr := h.r0
  have e1 : cLo 0 = 0 := by unfold cLo; omega
  have e2 : cHi rows rows = rows := by unfold cHi; split <;> omega
  have e3 : ext 0 rows rows = rows := by unfold ext; rw [e1, e2]; split <;> omega
  have e4 : cLo c = c := by unfold cLo; split <;> omega
  have e5 : cHi d cols = d := by unfold cHi; split <;> omega
  have e6 : ext c d cols = d - c := by unfold ext; rw [e4, e5]; split <;> omega
  have hc := cut_canon h (0, rows) (c, d)
  simp only [e1, e2, e3, e4, e5, e6] at hc
  refine ⟨by unfold cutS; simp only [e1, e2, e3, e4, e5, e6], hc, fun i j hi0 hi1 hj0 hj1 => opt_ext fun a => ?_⟩
  rw [lkI_iff (colI_inc (turn_srt _ hc.srt) j), lkI_iff (colI_inc (turn_srt _ h.srt) _), colI_mem, colI_mem, turn_mem hc, turn_mem h]
  simp only [flip]
  rw [cut_mem]
  simp only [Int.add_zero]
  exact ⟨fun hh => hh.1, fun hh => ⟨hh, ⟨hi0, hi1⟩, hj0, by omega⟩⟩
theorem PushParts_ok (a0 : Law13_Task) (a1 : Int) (h0 : okLaw13_Task a0) (h1 : inR .u8 a1) : law14_PushParts a0 a1 (fun r => r = true) := by
  unfold law14_PushParts
  have hb1 := bounds_u8 h1
  have hr := ringS_b a0.Ring
  refine right_is (task_mat_ok h0 fun M hM hMv => task_vec_ok h0 h0.2.2.2.1.1 fun v hvn hv hvv => ?_)
  generalize ringS a0.Ring = r at hr
  generalize sizeS a0.Size.1 = rows at hM
  have hcb := sizeS_b a0.Size.2
  generalize sizeS a0.Size.2 = cols at hM hvn hcb
  have hC : (builtS rows cols M).Cols = cols := rfl
  have hRw : (builtS rows cols M).Rows = rows := rfl
  have hr0 := hM.r0; have hr1 := hM.r1
  rw [hC, hRw]
  have ek : (w64 a1).tmod (w64 (cols + 1)) = a1 % (cols + 1) := by rw [w64_id (x := a1) (by omega) (by omega), w64_id (x := cols + 1) (by omega) (by omega), Int.tmod_eq_emod_of_nonneg (by omega)]
  rw [ek, w64_id (x := cols + 1) (by omega) (by omega)]
  refine ⟨by omega, ?_⟩
  have hk0 : 0 ≤ a1 % (cols + 1) := Int.emod_nonneg _ (by omega)
  have hk1 : a1 % (cols + 1) < cols + 1 := Int.emod_lt_of_pos _ (by omega)
  generalize a1 % (cols + 1) = k at hk0 hk1
  have hT := turn_canon hM
  have hTv := turnT_vals hM hMv
  have hvl : v.Items.length ≤ 1000000000 := by have := hv.len; omega
  have hxv : ∀ y ∈ (sureV v).Items, inI y.Val := by rw [sureV_id hv]; exact hvv
  obtain ⟨c1, cc1, cl1⟩ := cut_col hM (c := 0) (d := k) (by omega) hk0 (by omega)
  obtain ⟨c2, cc2, cl2⟩ := cut_col hM (c := k) (d := cols) hk0 (by omega) (by omega)
  obtain ⟨p1, n1, l1, v1⟩ := part_prop hv (a := 0) (b := k) (by omega) hk0 (by omega)
  obtain ⟨p2, n2, l2, v2⟩ := part_prop hv (a := k) (b := cols) hk0 (by omega) (by omega)
  have hcv : ∀ c d, ∀ t ∈ cutT 0 rows c d M, inI t.Val := fun c d t ht => by
    have := hMv _ ((cut_mem t).1 ht).1
    exact this
  have go : ∀ {c d : Int} {K : List Sum × Int → Prop}, Canon rows (d - c) (cutT 0 rows c d M) → VecP (partV v c d) → (∀ x ∈ (partV v c d).Items, inI x.Val) → (partV v c d).N = d - c → K (sumsS r rows.toNat (d - c).toNat [] true (fun i k => lkI (colI (turnT (d - c) (cutT 0 rows c d M)) k) i) (lkI (partV v c d).Items), 0) →
      push_Sums r (colS rows (d - c) (turnT (d - c) (cutT 0 rows c d M))) (partV v c d) [] true K := by
    intro c d K hc hp hpv hn hK
    have hct := turn_canon hc
    refine push_Sums_ok hct.smlC (sureC_col hct) hct (turnT_vals hc (hcv c d)) (by have := hp.len; omega) (by rw [sureV_id hp]; exact hpv) nil_okF ?_
    unfold sumsP
    rw [if_neg (by omega), sureV_id hp, if_neg (fun h => h hn)]
    exact hK
  refine ref_dcsc_of_ok hM.sml (sure_built hM) hM (push_Sums_ok hT.smlC (sureC_col hT) hT hTv hvl hxv nil_okF ?_)
  have eall : sumsP r rows cols (turnT cols M) (sureV v) [] true = (sumsS r rows.toNat cols.toNat [] true (fun i k => lkI (colI (turnT cols M) k) i) (lkI v.Items), 0) := by
    unfold sumsP
    rw [if_neg (by omega), sureV_id hv, if_neg (by omega)]
  rw [eall]
  refine ref_cut_ok hM.sml (sure_built hM) hM ?_
  rw [c1]
  refine ref_dcsc_of_ok cc1.sml (sure_built cc1) cc1 (ref09_Part_ok hvl ?_)
  rw [sureV_id hv]
  refine go cc1 p1 (v1 hvv) n1 (ref_cut_ok hM.sml (sure_built hM) hM ?_)
  rw [c2]
  refine ref_dcsc_of_ok cc2.sml (sure_built cc2) cc2 (ref09_Part_ok hvl ?_)
  rw [sureV_id hv]
  refine go cc2 p2 (v2 hvv) n2 ?_
  have q0 := sumsS_prop r cols.toNat [] true (fun i k => lkI (colI (turnT cols M) k) i) (lkI v.Items) rows.toNat
  have q1 := sumsS_prop r (k - 0).toNat [] true (fun i j => lkI (colI (turnT (k - 0) (cutT 0 rows 0 k M)) j) i) (lkI (partV v 0 k).Items) rows.toNat
  have q2 := sumsS_prop r (cols - k).toNat [] true (fun i j => lkI (colI (turnT (cols - k) (cutT 0 rows k cols M)) j) i) (lkI (partV v k cols).Items) rows.toNat
  have hrow : ∀ i : Int, 0 ≤ i → i < rows.toNat → rowW r cols.toNat (fun j => lkI (colI (turnT cols M) j) i) (lkI v.Items) = cmb r (rowW r (k - 0).toNat (fun j => lkI (colI (turnT (k - 0) (cutT 0 rows 0 k M)) j) i) (lkI (partV v 0 k).Items)) (rowW r (cols - k).toNat (fun j => lkI (colI (turnT (cols - k) (cutT 0 rows k cols M)) j) i) (lkI (partV v k cols).Items)) := by
    intro i hi0 hi1
    have ec : cols.toNat = k.toNat + (cols - k).toNat := by omega
    rw [ec, rowW_add]
    congr 1
    · rw [show (k - 0).toNat = k.toNat by omega]
      refine rowW_congr (fun j hj => ?_) (fun j hj => ?_)
      · have := cl1 i j hi0 (by omega) (by omega) (by omega)
        rw [this, Int.add_zero]
      · have := l1 j (by omega) (by omega)
        rw [this, Int.add_zero]
    · refine rowW_congr (fun j hj => ?_) (fun j hj => ?_)
      · have := cl2 i j hi0 (by omega) (by omega) (by omega)
        rw [this, Int.toNat_of_nonneg hk0]
      · have := l2 j (by omega) (by omega)
        rw [this, Int.toNat_of_nonneg hk0]
  generalize sumsS r rows.toNat cols.toNat [] true (fun i k => lkI (colI (turnT cols M) k) i) (lkI v.Items) = all at q0 ⊢
  generalize sumsS r rows.toNat (k - 0).toNat [] true (fun i j => lkI (colI (turnT (k - 0) (cutT 0 rows 0 k M)) j) i) (lkI (partV v 0 k).Items) = a at q1 ⊢
  generalize sumsS r rows.toNat (cols - k).toNat [] true (fun i j => lkI (colI (turnT (cols - k) (cutT 0 rows k cols M)) j) i) (lkI (partV v k cols).Items) = b at q2 ⊢
  have hm : ∀ x y : List Sum, Rise x → Rise y → mergeP r [x, y] = (bothS r x y, 0) := by
    intro x y hx hy
    unfold mergeP
    rw [if_neg (by omega), if_neg (by
      rintro ⟨l, hl, hn⟩
      simp only [List.mem_cons, List.not_mem_nil, or_false] at hl
      rcases hl with e | e
      · subst e; exact hn hx
      · subst e; exact hn hy)]
    simp [mergeS, bothS]
  have hab := both_prop r a b q1.1 q2.1
  have hba := both_prop r b a q2.1 q1.1
  have e1 : bothS r a b = all := rise_ext hab.1 q0.1 fun i => by
    rw [hab.2.2.2, q0.2.2.2.2, q1.2.2.2.2, q2.2.2.2.2]
    by_cases hc : 0 ≤ i ∧ i < rows.toNat ∧ askF [] true i = true
    · rw [if_pos hc, if_pos hc, if_pos hc, hrow i hc.1 hc.2.1]
    · rw [if_neg hc, if_neg hc, if_neg hc]; rfl
  have e2 : bothS r b a = all := rise_ext hba.1 q0.1 fun i => by
    rw [hba.2.2.2, q0.2.2.2.2, q1.2.2.2.2, q2.2.2.2.2]
    by_cases hc : 0 ≤ i ∧ i < rows.toNat ∧ askF [] true i = true
    · rw [if_pos hc, if_pos hc, if_pos hc, hrow i hc.1 hc.2.1]
      exact cmb_comm (rowW_okW _ _ _ _) (rowW_okW _ _ _ _)
    · rw [if_neg hc, if_neg hc, if_neg hc]; rfl
  refine push_merge_ok (by simp) (fun l hl => ?_) (by simp [total]; omega) (fun l hl => ?_) (push_merge_ok (by simp) (fun l hl => ?_) (by simp [total]; omega) (fun l hl => ?_) ?_)
  · simp only [List.mem_cons, List.not_mem_nil, or_false] at hl; rcases hl with e | e <;> subst e <;> omega
  · simp only [List.mem_cons, List.not_mem_nil, or_false] at hl
    rcases hl with e | e
    · subst e; exact q1.2.2.1
    · subst e; exact q2.2.2.1
  · simp only [List.mem_cons, List.not_mem_nil, or_false] at hl; rcases hl with e | e <;> subst e <;> omega
  · simp only [List.mem_cons, List.not_mem_nil, or_false] at hl
    rcases hl with e | e
    · subst e; exact q2.2.2.1
    · subst e; exact q1.2.2.1
  rw [hm a b q1.1 q2.1, hm b a q2.1 q1.1, e1, e2]
  refine live14_ok (ifP_pos rfl (ifP_pos rfl (ifP_pos rfl (ifP_pos rfl (ifP_pos rfl (ifP_pos rfl (eqSum_ok (by simp only; omega) (ifP_pos (by simp) (eqSum_ok (by simp only; omega) (by simp))))))))))
end Go.Proofs.YtdfiinkpdaggeaaGreat
