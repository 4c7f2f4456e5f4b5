/- A matrix times a vector, row by row, and sums as a vector. -/
import Derived.Test.YtdfiinkpdaggeaaGreatPushD
namespace Go.Proofs.YtdfiinkpdaggeaaGreat
open Go Go.Fw
set_option linter.unusedVariables false
set_option linter.unusedSimpArgs false
def stepI (r : Int) (B : Int → Option Int) (acc : Option Wide) (y : Item) : Option Wide := match B y.At with | some x => cmb r acc (some (mulW r y.Val x)) | none => acc
theorem stepI_okW {r : Int} {B : Int → Option Int} {acc : Option Wide} (h : ∀ w, acc = some w → okW w) (y : Item) : ∀ w, stepI r B acc y = some w → okW w := by
  intro w hw
  unfold stepI at hw
  split at hw
  · cases acc with
    | none => cases hw; exact mulW_okW _ _ _
    | some b => cases hw; exact addW_okW (h b rfl) (mulW_okW _ _ _)
  · exact h w hw
theorem foldI_okW (r : Int) (B : Int → Option Int) : ∀ (l : List Item) (acc : Option Wide), (∀ w, acc = some w → okW w) → ∀ w, l.foldl (stepI r B) acc = some w → okW w
  | [], acc, h => h
  | y :: l, acc, h => foldI_okW r B l _ (stepI_okW h y)
theorem row_fold {r : Int} {B : Int → Option Int} {n : Nat} {l : List Item} (h : IncI l) (hi : ∀ x ∈ l, 0 ≤ x.At ∧ x.At < n) : l.foldl (stepI r B) none = rowW r n (lkI l) B := by
  have := inc_fold (step := fun acc k a => match B k with | some x => cmb r acc (some (mulW r a x)) | none => acc) (a := none) h hi
  refine this.trans (foldl_same fun acc k _ => ?_)
  unfold stepW
  cases lkI l (k : Int) <;> cases B (k : Int) <;> rfl
def rowI (ts : List Triple) (i : Int) : List Item := (segS ts i.toNat).map itS
theorem rowI_colI (ts : List Triple) {i : Int} (h : 0 ≤ i) : rowI ts i = colI ts i := by
  unfold rowI colI segS
  rw [Int.toNat_of_nonneg h]
def sumsR (r rows cols : Int) (ts : List Triple) (v : Vec) (f : List Int) (o : Bool) : List Sum × Int :=
  if ¬ (1 ≤ r ∧ r ≤ 5) then ([], 8) else if v.N ≠ cols then ([], 4) else (sumsS r rows.toNat cols.toNat f o (fun i => lkI (rowI ts i)) (lkI v.Items), 0)
theorem sumsS_congr {r : Int} {n : Nat} {f : List Int} {o : Bool} {A A' : Int → Int → Option Int} {B : Int → Option Int} : ∀ {m : Nat}, (∀ (i k : Nat), i < m → k < n → A i k = A' i k) → sumsS r m n f o A B = sumsS r m n f o A' B
  | 0, _ => rfl
  | m + 1, h => by
    rw [sumsS_succ, sumsS_succ, sumsS_congr (m := m) fun i k hi hk => h i k (by omega) hk]
    have : rowW r n (A m) B = rowW r n (A' m) B := by
      unfold rowW
      refine foldl_same fun acc k hk => ?_
      unfold stepW
      rw [h m k (by omega) (List.mem_range.1 hk)]
    rw [this]
theorem ref13_Sums_ok {r rows cols : Int} {a : Rows} {ts : List Triple} {v : Vec} {f : List Int} {o : Bool} {Q : List Sum × Int → Prop} (hl : small a) (ha : sureS a = builtS rows cols ts) (h : Canon rows cols ts) (ht : ∀ t ∈ ts, inI t.Val) (hv : VecP v) (hvv : ∀ y ∈ v.Items, inI y.Val)
    (hf : okF f) (hQ : Q (sumsR r rows cols ts v f o)) : ref13_Sums r a (denS v) f o Q := by
  unfold ref13_Sums
  unfold sumsR at hQ
  have hr0 := h.r0; have hr1 := h.r1; have hc0 := h.c0; have hc1 := h.c1; have hlen := h.len; have hvl := hv.len
  refine ref_sure_ok hl ?_
  rw [ha]
  refine ref10_Back_ok hv (ref02_Is_ok (ifP_not (fun h' => ?_) (fun h' => ifP_ne (fun hne => ?_) (fun he => ?_))))
  · rw [if_pos (of_decide_eq_false h')] at hQ; exact hQ
  · rw [if_neg (by have := of_decide_eq_true h'; omega), if_pos (show v.N ≠ cols from hne)] at hQ; exact hQ
  have hr := of_decide_eq_true h'
  have he : v.N = cols := he
  rw [if_neg (by omega), if_neg (by omega)] at hQ
  show loopP _ (([] : List Sum), ((0 : Nat) : Int))
  refine range_intro (fun (s : List Sum) i => (s, i)) 0 rows.toNat (by omega) (fun m s => s = sumsS r m cols.toNat f o (fun i => lkI (rowI ts i)) (lkI v.Items)) (by omega) (by simp [sumsS]) (fun i s next _ hi hs hn => ?_) (fun s next hs => ?_)
  · have hB : (builtS rows cols ts).Rows = rows := rfl
    have hsl : s.length ≤ i := by subst hs; exact (sumsS_prop r cols.toNat f o (fun i => lkI (rowI ts i)) (lkI v.Items) i).2.1
    have hsucc := sumsS_succ r i cols.toNat f o (fun i => lkI (rowI ts i)) (lkI v.Items)
    rw [← hs] at hsucc
    refine ifP_dec (fun _ => ref03_Has_ok hf (by unfold inI; omega) (ifP_eq (fun hb => hn _ ?_) (fun hb => ?_))) (fun h' => by rw [hB] at h'; omega)
    · have hno : ¬ askF f o i = true := by unfold askF; rw [hb]; simp
      rw [hsucc, if_neg hno]; simp
    · have hask : askF f o i = true := by unfold askF; rw [bne_iff_ne]; exact hb
      rw [if_pos hask] at hsucc
      obtain ⟨lo, hi', sg⟩ := h.seg i
      have e1 : w64 ((i : Int) + 1) = (i + 1 : Nat) := by rw [w64_id (by omega) (by omega)]; omega
      rw [e1] at hn ⊢
      refine start_idx (by omega) ?_
      rw [sg.lo]
      have g1 := sg.le; have g2 := sg.len
      have hrow : rowI ts i = ((ts.take hi').drop lo).map itS := by rw [sg.eq]; simp [rowI]
      have hin : IncI (rowI ts i) ∧ ∀ x ∈ rowI ts i, 0 ≤ x.At ∧ x.At < cols.toNat := by
        rw [rowI_colI ts (by omega)]
        refine ⟨colI_inc h.srt _, fun x hx => ?_⟩
        have := h.inn _ (colI_mem.1 hx); unfold inT at this; simp only at this; omega
      have hfold := row_fold (r := r) (B := lkI v.Items) hin.1 hin.2
      refine range_intro (s0 := (none : Option Wide)) (fun (s : Option Wide) k => ((s.getD ⟨0, 0⟩).Hi, (s.getD ⟨0, 0⟩).Lo, s.isSome, k)) lo hi' (by omega) (fun p acc => acc = (((ts.take p).drop lo).map itS).foldl (stepI r (lkI v.Items)) none) (by omega) (by simp) (fun p acc next' hp1 hp2 hacc hn' => ?_) (fun acc next' hacc => ?_)
      · dsimp only
        have hpl : p < ts.length := by omega
        have hok : ∀ w, acc = some w → okW w := by subst hacc; exact foldI_okW r _ _ none (fun w hw => by cases hw)
        have hstep : (((ts.take (p + 1)).drop lo).map itS).foldl (stepI r (lkI v.Items)) none = stepI r (lkI v.Items) acc (itS ts[p]) := by
          rw [ext_step hp1 hpl, List.map_append, List.foldl_append, ← hacc]; rfl
        refine start_idx (by omega) ?_
        rw [sg.hi]
        refine ifP_dec (fun _ => ?_) (fun h => by omega)
        refine idxP_intro (by omega) (x := ts[p].Col) (by simp [builtS, hpl]) (ref09_Get_ok (by omega) ?_)
        rw [sureV_id hv]
        cases hB' : lkI v.Items ts[p].Col with
        | none =>
          refine ifP_pos rfl (hn' acc ?_)
          rw [hstep]; unfold stepI; simp only [itS, hB']
        | some x =>
          refine ifP_neg rfl (idxP_intro (by omega) (x := ts[p].Val) (by simp [builtS, hpl]) (ref02_Mul_ok (ht _ (List.getElem_mem hpl)) (hvv _ (lkI_mem hB')) ?_))
          have hst : stepI r (lkI v.Items) acc (itS ts[p]) = cmb r acc (some (mulW r ts[p].Val x)) := by unfold stepI; simp only [itS, hB']
          cases acc with
          | none => exact ifP_neg rfl (hn' (some (mulW r ts[p].Val x)) (by rw [hstep, hst]; rfl))
          | some w => exact ifP_pos rfl (ref02_Add_ok (hok w rfl) (mulW_okW _ _ _) (hn' (some (addW r w (mulW r ts[p].Val x))) (by rw [hstep, hst]; rfl)))
      · dsimp only
        refine start_idx (by omega) ?_
        rw [sg.hi]
        refine ifP_dec (fun h => by omega) (fun _ => ?_)
        rw [← hrow, hfold] at hacc
        cases acc with
        | none =>
          refine ifP_neg rfl (hn _ ?_)
          rw [hsucc, ← hacc]; simp
        | some w =>
          refine ifP_pos rfl (appP_intro (by simp; omega) (hn _ ?_))
          rw [hsucc, ← hacc]; rfl
  · refine ifP_dec (fun h' => by have hB : (builtS rows cols ts).Rows = rows := rfl; rw [hB] at h'; omega) (fun _ => ?_)
    subst hs; exact hQ
/-- the columns' sums are the rows' -/
theorem sums_turn {r rows cols : Int} {T : List Triple} (h : Canon cols rows T) (v : Vec) (f : List Int) (o : Bool) : sumsR r rows cols (turnT rows T) v f o = sumsP r rows cols T v f o := by
  unfold sumsR sumsP
  have e : sumsS r rows.toNat cols.toNat f o (fun i => lkI (rowI (turnT rows T) i)) (lkI v.Items) = sumsS r rows.toNat cols.toNat f o (fun i k => lkI (colI T k) i) (lkI v.Items) := by
    refine sumsS_congr fun i k _ _ => ?_
    rw [rowI_colI _ (by omega)]
    have hs := turn_srt rows h.srt
    have hm : ∀ a : Int, (⟨(i : Int), (k : Int), a⟩ : Triple) ∈ turnT rows T ↔ (⟨(k : Int), (i : Int), a⟩ : Triple) ∈ T := fun a => turn_mem h _
    cases h1 : lkI (colI (turnT rows T) i) k with
    | some a =>
      have := (hm a).1 (colI_mem.1 (lkI_mem h1))
      exact (mem_lkI (colI_inc h.srt k) ((colI_mem (x := ⟨i, a⟩)).2 this)).symm
    | none =>
      cases h2 : lkI (colI T k) i with
      | none => rfl
      | some a =>
        have := (hm a).2 (colI_mem.1 (lkI_mem h2))
        have := mem_lkI (colI_inc hs i) ((colI_mem (x := ⟨k, a⟩)).2 this)
        rw [h1] at this; cases this
  rw [e]
/-! ### Sums as a vector -/
def zS (r : Int) : Int := if r = 1 ∨ r = 3 ∨ r = 4 then 4611686018427387904 else 0
theorem ring_Zero_ok {r : Int} {Q : Int → Prop} (hQ : Q (zS r)) : ring_Zero r Q := by
  unfold ring_Zero; unfold zS at hQ
  refine ifP_eq (fun h => ?_) (fun h => ifP_eq (fun h3 => ?_) (fun h3 => ifP_eq (fun h4 => ?_) (fun h4 => ?_)))
  · rwa [if_pos (.inl h)] at hQ
  · rwa [if_pos (.inr (.inl h3))] at hQ
  · rwa [if_pos (.inr (.inr h4))] at hQ
  · rwa [if_neg (by omega)] at hQ
theorem ref02_Zero_ok {r : Int} {Q : Int → Prop} (hQ : Q (zS r)) : ref02_Zero r Q := by
  unfold ref02_Zero ref02_least; unfold zS at hQ
  have h1 : (r = 1 ∨ r = 3 ∨ r = 4) → ifP true (Q 4611686018427387904) (Q 0) := fun h => ifP_pos rfl (by rwa [if_pos h] at hQ)
  refine ifP_eq (fun h => h1 (.inl h)) (fun h => ifP_eq (fun h3 => h1 (.inr (.inl h3))) (fun h3 => ifP_eq (fun h4 => ?_) (fun h4 => ?_)))
  · rwa [if_pos (.inr (.inr h4))] at hQ
  · rwa [if_neg (by omega)] at hQ
def nzI (r : Int) (s : Sum) : Option Item := if (narS s.Val).1 ≠ zS r then some ⟨s.At, (narS s.Val).1⟩ else none
def doneS (r n : Int) (l : List Sum) : Vec × Int :=
  if ¬ (1 ≤ r ∧ r ≤ 5) then (zV, 8) else if ¬ (0 ≤ n ∧ n ≤ 4096) ∨ ∃ s ∈ l, ¬ (0 ≤ s.At ∧ s.At < n) then (zV, 3) else if ¬ Rise l then (zV, 6)
  else if ∃ s ∈ l, (narS s.Val).2 = false then (zV, 12) else (⟨n, l.filterMap (nzI r)⟩, 0)
theorem out_ok {n : Int} {l : List Sum} {Q : Bool → Prop} (hl : l.length ≤ 1000000000) (hQ : Q (decide (∃ s ∈ l, ¬ (0 ≤ s.At ∧ s.At < n)))) : slices_ContainsFunc_api_Sum_api_Sum_927 n l Q := by
  unfold slices_ContainsFunc_api_Sum_api_Sum_927 slices_IndexFunc_api_Sum_api_Sum_a5e
  refine scan_intro l.length (by omega) (fun k => ∀ i (hi : i < l.length), i < k → 0 ≤ l[i].At ∧ l[i].At < n) (fun i hi h => by omega) (fun k next hk hR hn => ?_) (fun next hR => ?_)
  · refine ifP_dec (fun _ => idxP_nat hk ?_) (fun h => by omega)
    unfold pull_Done_1_ac1
    have bad : ¬ (0 ≤ l[k].At ∧ l[k].At < n) → (fun r10 : Int => Q (decide (0 ≤ r10))) (k : Int) := by
      intro hb
      rw [decide_eq_true ⟨_, List.getElem_mem hk, hb⟩] at hQ
      simpa using hQ
    refine ifP_dec (fun h => ifP_pos rfl (bad (by omega))) (fun h => ⟨fun h' => bad (by have := of_decide_eq_true h'; omega), fun h' => hn fun i hi hik => ?_⟩)
    have h' := of_decide_eq_false h'
    by_cases e : i = k
    · subst e; omega
    · exact hR i hi (by omega)
  · refine ifP_dec (fun h => by omega) (fun _ => ?_)
    have : ¬ ∃ s ∈ l, ¬ (0 ≤ s.At ∧ s.At < n) := by
      rintro ⟨s, hs, hn⟩
      obtain ⟨i, hi, rfl⟩ := List.mem_iff_getElem.1 hs
      exact hn (hR i hi hi)
    rw [decide_eq_false this] at hQ
    simpa using hQ
theorem pull_Done_ok {r n : Int} {l : List Sum} {Q : Vec × Int → Prop} (hl : l.length ≤ 1000000000) (ho : okS l) (hQ : Q (doneS r n l)) : pull_Done r n l Q := by
  unfold pull_Done
  unfold doneS at hQ
  refine ring_Is_ok (ifP_not (fun h => ?_) (fun h => ?_))
  · rw [if_pos (of_decide_eq_false h)] at hQ; exact hQ
  have hr := of_decide_eq_true h
  rw [if_neg (by omega)] at hQ
  refine ifP_dec (fun h => ?_) (fun h0 => ifP_dec (fun h => ?_) (fun h1 => out_ok hl ⟨fun h => ?_, fun h => ?_⟩))
  · rw [if_pos (.inl (by omega))] at hQ; exact hQ
  · rw [if_pos (.inl (by omega))] at hQ; exact hQ
  · rw [if_pos (.inr (of_decide_eq_true h))] at hQ; exact hQ
  have hin := of_decide_eq_false h
  rw [if_neg (by
    rintro (h' | h')
    · omega
    · exact hin h')] at hQ
  refine scan_intro l.length (by omega) (fun n => ∀ (i : Nat) (hi : i + 1 < l.length), i + 1 < n → l[i].At < l[i + 1].At) (fun i hi h => by omega) (fun i next hi hR hn => ?_) (fun next hR => ?_)
  · refine ifP_dec (fun _ => ifP_dec (fun h => ?_) (fun h => ?_)) (fun h => by omega)
    · have e : w64 ((i : Int) - 1) = ((i - 1 : Nat) : Int) := by rw [w64_id (by omega) (by omega)]; omega
      rw [e]
      refine idxP_nat (by omega) (idxP_nat hi (ifP_dec (fun h' => ?_) (fun h' => hn fun j hj hjn => ?_)))
      · have : ¬ Rise l := fun hr => by have := hr.adj hi (i := i - 1) (by omega); omega
        rw [if_pos this] at hQ; exact hQ
      · by_cases e' : j + 1 = i
        · subst e'; simp only [Nat.add_sub_cancel] at h'; omega
        · exact hR j hj (by omega)
    · exact hn fun j hj hjn => by omega
  · refine ifP_dec (fun h => by omega) (fun _ => ?_)
    rw [if_neg (fun hn => hn (rise_adj fun i hi => hR i hi (by omega)))] at hQ
    refine range_intro (s0 := ([] : List Item)) (fun (s : List Item) i => (s, i)) 0 l.length (by omega) (fun k s => s = (l.take k).filterMap (nzI r) ∧ ∀ i (hi : i < l.length), i < k → (narS l[i].Val).2 = true) (by omega) ⟨by simp, fun i hi h => by omega⟩ (fun k s next' _ hk hs hn => ?_) (fun s next' hs => ?_)
    · obtain ⟨hs, hall⟩ := hs
      have hsl : s.length ≤ k := by
        subst hs
        have := List.length_filterMap_le (nzI r) (l.take k)
        rw [List.length_take] at this; omega
      refine ifP_dec (fun _ => idxP_nat hk (narrow_ok (ho _ (List.getElem_mem hk)) (ifP_not (fun hb => ?_) (fun hb => ring_Zero_ok (ifP_ne (fun hne => appP_intro (by simp; omega) (hn _ ⟨?_, ?_⟩)) (fun he => hn _ ⟨?_, ?_⟩)))))) (fun h => by omega)
      · rw [if_pos ⟨_, List.getElem_mem hk, hb⟩] at hQ; exact hQ
      · rw [List.take_succ_eq_append_getElem hk, List.filterMap_append, ← hs]
        simp [nzI, hne]
      · intro i hi hik
        by_cases e : i = k
        · subst e; exact hb
        · exact hall i hi (by omega)
      · rw [List.take_succ_eq_append_getElem hk, List.filterMap_append, ← hs]
        simp [nzI, he]
      · intro i hi hik
        by_cases e : i = k
        · subst e; exact hb
        · exact hall i hi (by omega)
    · obtain ⟨hs, hall⟩ := hs
      rw [List.take_length] at hs
      subst hs
      refine ifP_dec (fun h => by omega) (fun _ => ?_)
      rw [if_neg] at hQ
      · exact hQ
      · rintro ⟨s, hs, hb⟩
        obtain ⟨i, hi, rfl⟩ := List.mem_iff_getElem.1 hs
        rw [hall i hi hi] at hb; cases hb
theorem ref13_Done_ok {r n : Int} {l : List Sum} {Q : Vec × Int → Prop} (hl : l.length ≤ 1000000000) (ho : okS l) (hQ : Q (doneS r n l)) : ref13_Done r n l Q := by
  unfold ref13_Done
  unfold doneS at hQ
  refine ref02_Is_ok (ifP_not (fun h => ?_) (fun h => ?_))
  · rw [if_pos (of_decide_eq_false h)] at hQ; exact hQ
  have hr := of_decide_eq_true h
  rw [if_neg (by omega)] at hQ
  refine ifP_dec (fun h => ?_) (fun h0 => ifP_dec (fun h => ?_) (fun h1 => ?_))
  · rw [if_pos (.inl (by omega))] at hQ; exact hQ
  · rw [if_pos (.inl (by omega))] at hQ; exact hQ
  refine scan_intro l.length (by omega) (fun k => ∀ i (hi : i < l.length), i < k → 0 ≤ l[i].At ∧ l[i].At < n) (fun i hi h => by omega) (fun k next hk hR hn => ?_) (fun next hR => ?_)
  · refine ifP_dec (fun _ => idxP_nat hk (ifP_dec (fun h => ?_) (fun h2 => idxP_nat hk (ifP_dec (fun h => ?_) (fun h3 => hn fun i hi hik => ?_))))) (fun h => by omega)
    · rw [if_pos (.inr ⟨_, List.getElem_mem hk, by omega⟩)] at hQ; exact hQ
    · rw [if_pos (.inr ⟨_, List.getElem_mem hk, by omega⟩)] at hQ; exact hQ
    · by_cases e : i = k
      · subst e; omega
      · exact hR i hi (by omega)
  refine ifP_dec (fun h => by omega) (fun _ => ?_)
  rw [if_neg (by
    rintro (h' | ⟨s, hs, hn⟩)
    · omega
    · obtain ⟨i, hi, rfl⟩ := List.mem_iff_getElem.1 hs
      exact hn (hR i hi hi))] at hQ
  show loopP _ ((1 : Nat) : Int)
  by_cases hz : l.length = 0
  · have hl0 : l = [] := List.eq_nil_of_length_eq_zero hz
    subst hl0
    refine ⟨1, ifP_dec (fun h => by simp at h) (fun _ => ⟨1, ifP_dec (fun h => by simp at h) (fun _ => ?_)⟩)⟩
    rw [if_neg (fun hn => hn .nil), if_neg (by simp)] at hQ
    exact hQ
  refine range_intro (s0 := ()) (fun (_ : Unit) i => i) 1 l.length (by omega) (fun k _ => ∀ (i : Nat) (hi : i + 1 < l.length), i + 1 < k → l[i].At < l[i + 1].At) (by omega) (fun i hi h => by omega) (fun i _ next' h1' hi hR' hn => ?_) (fun _ next' hR' => ?_)
  · have e : w64 ((i : Int) - 1) = ((i - 1 : Nat) : Int) := by rw [w64_id (by omega) (by omega)]; omega
    rw [e]
    refine ifP_dec (fun _ => idxP_nat hi (idxP_nat (by omega) (ifP_dec (fun h' => ?_) (fun h' => hn () fun j hj hjn => ?_)))) (fun h => by omega)
    · have : ¬ Rise l := fun hr => by have := hr.adj hi (i := i - 1) (by omega); omega
      rw [if_pos this] at hQ; exact hQ
    · by_cases e' : j + 1 = i
      · subst e'; simp only [Nat.add_sub_cancel] at h'; omega
      · exact hR' j hj (by omega)
  · refine ifP_dec (fun h => by omega) (fun _ => ?_)
    rw [if_neg (fun hn => hn (rise_adj fun i hi => hR' i hi (by omega)))] at hQ
    refine range_intro (s0 := ([] : List Item)) (fun (s : List Item) i => (s, i)) 0 l.length (by omega) (fun k s => s = (l.take k).filterMap (nzI r) ∧ ∀ i (hi : i < l.length), i < k → (narS l[i].Val).2 = true) (by omega) ⟨by simp, fun i hi h => by omega⟩ (fun k s next' _ hk hs hn => ?_) (fun s next' hs => ?_)
    · obtain ⟨hs, hall⟩ := hs
      have hsl : s.length ≤ k := by
        subst hs
        have := List.length_filterMap_le (nzI r) (l.take k)
        rw [List.length_take] at this; omega
      refine ifP_dec (fun _ => idxP_nat hk (ref01_narrow_ok (ho _ (List.getElem_mem hk)) (ifP_not (fun hb => ?_) (fun hb => ref02_Zero_ok (ifP_ne (fun hne => idxP_nat hk (appP_intro (by simp; omega) (hn _ ⟨?_, ?_⟩))) (fun he => hn _ ⟨?_, ?_⟩)))))) (fun h => by omega)
      · rw [if_pos ⟨_, List.getElem_mem hk, hb⟩] at hQ; exact hQ
      · rw [List.take_succ_eq_append_getElem hk, List.filterMap_append, ← hs]
        simp [nzI, hne]
      · intro i hi hik
        by_cases e : i = k
        · subst e; exact hb
        · exact hall i hi (by omega)
      · rw [List.take_succ_eq_append_getElem hk, List.filterMap_append, ← hs]
        simp [nzI, he]
      · intro i hi hik
        by_cases e : i = k
        · subst e; exact hb
        · exact hall i hi (by omega)
    · obtain ⟨hs, hall⟩ := hs
      rw [List.take_length] at hs
      subst hs
      refine ifP_dec (fun h => by omega) (fun _ => ?_)
      rw [if_neg] at hQ
      · exact hQ
      · rintro ⟨s, hs, hb⟩
        obtain ⟨i, hi, rfl⟩ := List.mem_iff_getElem.1 hs
        rw [hall i hi hi] at hb; cases hb
end Go.Proofs.YtdfiinkpdaggeaaGreat
