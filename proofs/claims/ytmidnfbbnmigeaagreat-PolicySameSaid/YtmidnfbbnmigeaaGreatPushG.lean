import Derived.Test.YtmidnfbbnmigeaaGreatBaseC
/- A matrix times a vector: column by column, and row by row. -/
namespace Go.Proofs.YtmidnfbbnmigeaaGreat
open Go Go.Fw
set_option linter.unusedVariables false
set_option linter.unusedSimpArgs false
/-! ### What each row comes to -/
def askF (f : List Int) (o : Bool) (i : Int) : Bool := hasF f i != o
def stepW (r : Int) (A B : Int → Option Int) (acc : Option Wide) (k : Int) : Option Wide := match A k, B k with | some a, some x => cmb r acc (some (mulW r a x)) | _, _ => acc
def rowW (r : Int) (n : Nat) (A B : Int → Option Int) : Option Wide := (List.range n).foldl (fun acc (k : Nat) => stepW r A B acc k) none
def sumsS (r : Int) (m n : Nat) (f : List Int) (o : Bool) (A : Int → Int → Option Int) (B : Int → Option Int) : List Sum :=
  (List.range m).filterMap fun i : Nat => if askF f o i then (rowW r n (A i) B).map fun w => (⟨i, w⟩ : Sum) else none
theorem sumsS_succ (r : Int) (m n : Nat) (f : List Int) (o : Bool) (A : Int → Int → Option Int) (B : Int → Option Int) :
    sumsS r (m + 1) n f o A B = sumsS r m n f o A B ++ (if askF f o m then (rowW r n (A m) B).map fun w => (⟨m, w⟩ : Sum) else none).toList := by
  unfold sumsS
  rw [List.range_succ, List.filterMap_append]
  congr 1
theorem stepW_okW {r : Int} {A B : Int → Option Int} {acc : Option Wide} (h : ∀ w, acc = some w → okW w) (k : Int) : ∀ w, stepW r A B acc k = some w → okW w := by
  intro w hw
  unfold stepW at hw
  split at hw
  · cases acc with
    | none => cases hw; exact mulW_okW _ _ _
    | some b => cases hw; exact addW_okW (h b rfl) (mulW_okW _ _ _)
  · exact h w hw
theorem rowW_okW (r : Int) (n : Nat) (A B : Int → Option Int) : ∀ w, rowW r n A B = some w → okW w := by
  unfold rowW
  induction n with
  | zero => intro w hw; cases hw
  | succ n ih => rw [List.range_succ, List.foldl_append]; exact stepW_okW ih n
theorem sumsS_prop (r : Int) (n : Nat) (f : List Int) (o : Bool) (A : Int → Int → Option Int) (B : Int → Option Int) : ∀ m : Nat,
    Rise (sumsS r m n f o A B) ∧ (sumsS r m n f o A B).length ≤ m ∧ okS (sumsS r m n f o A B) ∧ (∀ s ∈ sumsS r m n f o A B, 0 ≤ s.At ∧ s.At < m) ∧ ∀ i : Int, lk (sumsS r m n f o A B) i = if 0 ≤ i ∧ i < m ∧ askF f o i = true then rowW r n (A i) B else none := by
  intro m
  induction m with
  | zero =>
    refine ⟨.nil, by simp [sumsS], by simp [sumsS, okS], by simp [sumsS], fun i => ?_⟩
    rw [if_neg (by omega)]; rfl
  | succ m ih =>
    obtain ⟨h1, h2, h3, h4, h5⟩ := ih
    rw [sumsS_succ]
    by_cases ha : askF f o m = true
    · rw [if_pos ha]
      cases hw : rowW r n (A m) B with
      | none =>
        simp only [Option.map_none, Option.toList_none, List.append_nil]
        refine ⟨h1, by omega, h3, fun s hs => by have := h4 s hs; omega, fun i => ?_⟩
        rw [h5]
        by_cases e : i = m
        · subst e; rw [if_neg (by omega), hw]; simp
        · by_cases hi : 0 ≤ i ∧ i < m ∧ askF f o i = true
          · rw [if_pos hi, if_pos ⟨hi.1, by omega, hi.2.2⟩]
          · rw [if_neg hi, if_neg (fun h => hi ⟨h.1, by omega, h.2.2⟩)]
      | some w =>
        simp only [Option.map_some, Option.toList_some]
        refine ⟨List.pairwise_append.2 ⟨h1, by simp, fun a ha' b hb => ?_⟩, by simp; omega, fun s hs => ?_, fun s hs => ?_, fun i => ?_⟩
        · simp only [List.mem_singleton] at hb; subst hb; exact (h4 a ha').2
        · rcases List.mem_append.1 hs with hs | hs
          · exact h3 s hs
          · simp only [List.mem_singleton] at hs; subst hs; exact rowW_okW r n _ _ w hw
        · rcases List.mem_append.1 hs with hs | hs
          · have := h4 s hs; omega
          · simp only [List.mem_singleton] at hs; subst hs; simp only; omega
        · rw [lk_append, h5, lk_cons, lk_nil]
          by_cases e : i = m
          · subst e
            have c1 : 0 ≤ (m : Int) ∧ (m : Int) < ((m + 1 : Nat) : Int) ∧ askF f o m = true := ⟨by omega, by omega, ha⟩
            rw [if_neg (fun h => by omega), if_pos c1, hw]; simp
          · rw [if_neg e]
            by_cases hi : 0 ≤ i ∧ i < m ∧ askF f o i = true
            · rw [if_pos hi, if_pos ⟨hi.1, by omega, hi.2.2⟩]; split <;> simp_all
            · rw [if_neg hi, if_neg (fun h => hi ⟨h.1, by omega, h.2.2⟩)]
    · rw [if_neg ha]
      simp only [Option.toList_none, List.append_nil]
      refine ⟨h1, by omega, h3, fun s hs => by have := h4 s hs; omega, fun i => ?_⟩
      rw [h5]
      by_cases e : i = m
      · subst e; rw [if_neg (by omega), if_neg (fun h => ha h.2.2)]
      · by_cases hi : 0 ≤ i ∧ i < m ∧ askF f o i = true
        · rw [if_pos hi, if_pos ⟨hi.1, by omega, hi.2.2⟩]
        · rw [if_neg hi, if_neg (fun h => hi ⟨h.1, by omega, h.2.2⟩)]
theorem foldl_same {β γ : Type} {f g : β → γ → β} : ∀ {l : List γ} {a : β}, (∀ acc k, k ∈ l → f acc k = g acc k) → l.foldl f a = l.foldl g a
  | [], _, _ => rfl
  | x :: l, a, h => by rw [List.foldl_cons, List.foldl_cons, h a x (by simp)]; exact foldl_same fun acc k hk => h acc k (by simp [hk])
/-- going through items that rise is going through all places -/
theorem inc_fold {β : Type} {step : β → Int → Int → β} {a : β} : ∀ {n : Nat} {l : List Item}, IncI l → (∀ x ∈ l, 0 ≤ x.At ∧ x.At < n) →
    l.foldl (fun acc x => step acc x.At x.Val) a = (List.range n).foldl (fun acc (k : Nat) => match lkI l k with | some v => step acc k v | none => acc) a
  | 0, l, h, hi => by
    cases l with
    | nil => rfl
    | cons x l => have := hi x (by simp); omega
  | n + 1, l, h, hi => by
    rw [List.range_succ, List.foldl_append]
    simp only [List.foldl_cons, List.foldl_nil]
    have hc : l = [] ∨ ∃ p y, l = p ++ [y] := by
      rcases List.eq_nil_or_concat l with h | ⟨p, y, h⟩
      · exact .inl h
      · exact .inr ⟨p, y, by rw [h, List.concat_eq_append]⟩
    have old : ∀ {l : List Item}, IncI l → (∀ x ∈ l, 0 ≤ x.At ∧ x.At < n) → lkI l n = none := fun _ hi => lkI_none fun s hs => by have := hi s hs; omega
    rcases hc with e | ⟨p, y, e⟩
    · subst e
      rw [← inc_fold (n := n) (l := []) h (by simp)]; rfl
    · subst e
      have hp : IncI p := (List.pairwise_append.1 h).1
      have hlt : ∀ x ∈ p, x.At < y.At := fun x hx => (List.pairwise_append.1 h).2.2 x hx y (by simp)
      by_cases ey : y.At = n
      · have hpin : ∀ x ∈ p, 0 ≤ x.At ∧ x.At < n := fun x hx => ⟨(hi x (by simp [hx])).1, by have := hlt x hx; omega⟩
        have e1 : lkI (p ++ [y]) n = some y.Val := by rw [lkI_append, old hp hpin, lkI_cons, if_pos ey.symm]
        rw [e1, List.foldl_append, inc_fold hp hpin]
        simp only [List.foldl_cons, List.foldl_nil, ey]
        congr 1
        refine foldl_same fun acc k hk => ?_
        have hk := List.mem_range.1 hk
        have : lkI (p ++ [y]) k = lkI p k := by rw [lkI_append, lkI_cons, if_neg (by omega)]; cases lkI p k <;> rfl
        rw [this]
      · have hin : ∀ x ∈ p ++ [y], 0 ≤ x.At ∧ x.At < n := by
          intro x hx
          have h1 := hi x hx
          refine ⟨h1.1, ?_⟩
          have hy := hi y (by simp)
          rcases List.mem_append.1 hx with hx | hx
          · have := hlt x hx; omega
          · simp only [List.mem_singleton] at hx; subst hx; omega
        rw [old h hin, inc_fold h hin]
/-! ### Columns -/
def colM (r : Int) (T : List Triple) (f : List Int) (o : Bool) (x : Item) : List Sum := ((colI T x.At).filter fun y => askF f o y.At).map fun y => ⟨y.At, mulW r y.Val x.Val⟩
theorem colI_inc {T : List Triple} (h : Srt T) (k : Int) : IncI (colI T k) := by
  unfold colI IncI
  rw [List.pairwise_map]
  have h1 : (T.filter fun t => decide (t.Row = k)).Pairwise fun a b => ltK (key a) (key b) := List.Pairwise.filter _ h
  refine List.Pairwise.imp_of_mem (fun {a b} ha hb hab => ?_) h1
  have ha := of_decide_eq_true (List.mem_filter.1 ha).2
  have hb := of_decide_eq_true (List.mem_filter.1 hb).2
  unfold ltK key at hab
  simp only [itS] at hab ⊢; omega
theorem colI_mem {T : List Triple} {k : Int} {x : Item} : x ∈ colI T k ↔ (⟨k, x.At, x.Val⟩ : Triple) ∈ T := by
  unfold colI
  simp only [List.mem_map, List.mem_filter, decide_eq_true_eq]
  constructor
  · rintro ⟨t, ⟨ht, e⟩, rfl⟩; subst e; exact ht
  · intro h; exact ⟨_, ⟨h, rfl⟩, rfl⟩
theorem colM_prop {r : Int} {T : List Triple} (h : Srt T) (f : List Int) (o : Bool) (x : Item) : Rise (colM r T f o x) ∧ okS (colM r T f o x) ∧ ∀ i, lk (colM r T f o x) i = if askF f o i = true then (lkI (colI T x.At) i).map fun a => mulW r a x.Val else none := by
  have hl := colI_inc h x.At
  unfold colM
  generalize colI T x.At = l at hl
  refine ⟨?_, ?_, fun i => ?_⟩
  · unfold Rise; rw [List.pairwise_map]; exact List.Pairwise.filter _ hl
  · intro s hs
    obtain ⟨y, _, rfl⟩ := List.mem_map.1 hs
    exact mulW_okW _ _ _
  · clear hl
    induction l with
    | nil => simp [lk, lkI, mget]
    | cons y l ih =>
      rw [lkI_cons]
      by_cases ha : askF f o y.At = true
      · rw [List.filter_cons_of_pos (by simpa using ha), List.map_cons, lk_cons]
        simp only
        by_cases e : i = y.At
        · subst e; rw [if_pos rfl, if_pos rfl, if_pos ha]; rfl
        · rw [if_neg e, if_neg e]; exact ih
      · rw [List.filter_cons_of_neg (by simpa using ha)]
        by_cases e : i = y.At
        · subst e; rw [if_pos rfl, if_neg ha, ih, if_neg ha]
        · rw [if_neg e]; exact ih
theorem foldR_list (r : Int) (i : Int) : ∀ (L : List (List Sum)) (n : Nat), n ≤ L.length → foldR r (fun w => L.getD w []) i n none = (L.take n).foldl (fun acc l => cmb r acc (lk l i)) none := by
  intro L n
  induction n with
  | zero => intro _; rfl
  | succ n ih =>
    intro hn
    rw [foldR, ih (by omega), List.take_succ_eq_append_getElem (by omega), List.foldl_append]
    simp [List.getD_eq_getElem?_getD, show n < L.length by omega]
theorem sums_merge {r : Int} {rows cols : Int} {T : List Triple} {v : Vec} (h : Canon cols rows T) (hv : VecP v) (hn : v.N = cols) (f : List Int) (o : Bool) :
    mergeS r (v.Items.map (colM r T f o)) = sumsS r rows.toNat cols.toNat f o (fun i k => lkI (colI T k) i) (lkI v.Items) := by
  have hrise : ∀ l ∈ v.Items.map (colM r T f o), Rise l := by
    intro l hl; obtain ⟨x, _, rfl⟩ := List.mem_map.1 hl; exact (colM_prop h.srt f o x).1
  have hm := merge_prop r _ hrise _ (Nat.le_refl _)
  rw [List.take_length] at hm
  obtain ⟨s1, s2, s3, s4, s5⟩ := sumsS_prop r cols.toNat f o (fun i k => lkI (colI T k) i) (lkI v.Items) rows.toNat
  refine rise_ext hm.1 s1 fun i => ?_
  rw [hm.2.2.2, s5, foldR_list r i _ _ (Nat.le_refl _), List.take_length, List.foldl_map]
  by_cases ha : askF f o i = true
  · have e1 : ∀ x : Item, lk (colM r T f o x) i = (lkI (colI T x.At) i).map fun a => mulW r a x.Val := fun x => by rw [(colM_prop h.srt f o x).2.2, if_pos ha]
    simp only [e1]
    rw [inc_fold (step := fun acc k xv => cmb r acc ((lkI (colI T k) i).map fun a => mulW r a xv)) (n := cols.toNat) hv.inc (fun x hx => by have := hv.ins x hx; omega)]
    by_cases hi : 0 ≤ i ∧ i < rows
    · rw [if_pos ⟨hi.1, by omega, ha⟩]
      unfold rowW
      refine foldl_same fun acc k _ => ?_
      unfold stepW
      simp only
      cases lkI v.Items (k : Int) <;> cases lkI (colI T (k : Int)) i <;> simp [cmb_none]
    · rw [if_neg (by omega)]
      have hnone : ∀ k, lkI (colI T k) i = none := fun k => lkI_none fun s hs => by
        have := h.inn _ (colI_mem.1 hs); unfold inT at this; simp only at this; omega
      have : ∀ (l : List Nat), l.foldl (fun acc (k : Nat) => match lkI v.Items k with | some x => cmb r acc ((lkI (colI T k) i).map fun a => mulW r a x) | none => acc) none = none := by
        intro l
        induction l with
        | nil => rfl
        | cons k l ih =>
          rw [List.foldl_cons, hnone]
          cases lkI v.Items (k : Int) <;> exact ih
      exact this _
  · rw [if_neg (fun h => ha h.2.2)]
    have e1 : ∀ x : Item, lk (colM r T f o x) i = none := fun x => by rw [(colM_prop h.srt f o x).2.2, if_neg ha]
    simp only [e1, cmb_none]
    generalize v.Items = l
    induction l with
    | nil => rfl
    | cons x l ih => exact ih
/-! ### The program: column by column -/
theorem column_ok {r : Int} {l : List Item} {val : Int} {f : List Int} {o : Bool} {Q : List Sum → Prop} (hl : l.length ≤ 1000000) (hf : okF f) (hi : ∀ x ∈ l, inI x.At ∧ inI x.Val) (hv : inI val) (hQ : Q ((l.filter fun y => askF f o y.At).map fun y => ⟨y.At, mulW r y.Val val⟩)) : push_column r l val f o Q := by
  unfold push_column
  refine range_intro (fun (s : List Sum) i => (s, i)) 0 l.length (by omega) (fun k s => s = ((l.take k).filter fun y => askF f o y.At).map fun y => ⟨y.At, mulW r y.Val val⟩) (by omega) (by simp) (fun k s next _ hk hs hn => ?_) (fun s next hs => ?_)
  · have hx := hi _ (List.getElem_mem hk)
    have hsl : s.length ≤ k := by
      subst hs; rw [List.length_map]
      have := List.length_filter_le (fun y : Item => askF f o y.At) (l.take k)
      rw [List.length_take] at this; omega
    refine ifP_dec (fun _ => idxP_nat hk (flags_Has_ok hf hx.1 ⟨fun h => ?_, fun h => hn _ ?_⟩)) (fun h => by omega)
    · refine ring_Mul_ok hx.2 hv (appP_intro (by simp; omega) (hn _ ?_))
      have ha : askF f o l[k].At = true := by unfold askF; rw [bne]; exact h
      rw [List.take_succ_eq_append_getElem hk, List.filter_append, List.map_append, hs, List.filter_cons_of_pos (by simpa using ha)]; rfl
    · have ha : ¬ askF f o l[k].At = true := by unfold askF; rw [bne, h]; simp
      rw [List.take_succ_eq_append_getElem hk, List.filter_append, List.map_append, hs, List.filter_cons_of_neg (by simpa using ha)]; simp
  · rw [List.take_length] at hs
    subst hs
    exact ifP_dec (fun h => by omega) (fun _ => hQ)
theorem push_sure_ok {c : Columns} {x : Vec} {Q : Columns × Vec → Prop} (hc : smallC c) (hx : x.Items.length ≤ 1000000000) (hQ : Q (sureC c, sureV x)) : push_sure c x Q := by
  unfold push_sure
  refine join_intro (fun t => (⟨t.1, t.2.1, t.2.2.1, t.2.2.2.1, t.2.2.2.2.1, t.2.2.2.2.2⟩ : Columns) = sureC c) ?_ ?_
  · rintro ⟨t1, t2, t3, t4, t5, t6⟩ ht
    simp only at ht ⊢
    rw [ht]
    unfold sureV at hQ
    refine spvec_Right_ok hx (ifP_not (fun h => ?_) (fun h => ?_))
    · rw [if_neg (of_decide_eq_false h)] at hQ; exact hQ
    · rw [if_pos (of_decide_eq_true h)] at hQ; exact hQ
  · intro k hk
    refine dcsc_right_ok hc (ifP_not (fun h => hk _ ?_) (fun h => hk _ ?_))
    · rw [sureC, if_neg (of_decide_eq_false h), colS_nil]
    · rw [sureC, if_pos (of_decide_eq_true h)]
def sumsP (r rows cols : Int) (T : List Triple) (v : Vec) (f : List Int) (o : Bool) : List Sum × Int :=
  if ¬ (1 ≤ r ∧ r ≤ 5) then ([], 8) else if v.N ≠ cols then ([], 4) else (sumsS r rows.toNat cols.toNat f o (fun i k => lkI (colI T k) i) (lkI v.Items), 0)
theorem push_Sums_ok {r rows cols : Int} {c : Columns} {x : Vec} {T : List Triple} {f : List Int} {o : Bool} {Q : List Sum × Int → Prop} (hc : smallC c) (hs : sureC c = colS rows cols T) (h : Canon cols rows T) (hT : ∀ t ∈ T, inI t.Val)
    (hx : x.Items.length ≤ 1000000000) (hxv : ∀ y ∈ (sureV x).Items, inI y.Val) (hf : okF f) (hQ : Q (sumsP r rows cols T (sureV x) f o)) : push_Sums r c x f o Q := by
  unfold push_Sums
  unfold sumsP at hQ
  have hv := sureV_ok x
  refine push_sure_ok hc hx ?_
  rw [hs]
  generalize sureV x = v at hv hxv hQ
  simp only
  have hvl := hv.len
  refine ring_Is_ok (ifP_not (fun h' => ?_) (fun h' => ifP_ne (fun hne => ?_) (fun he => ?_)))
  · rw [if_pos (of_decide_eq_false h')] at hQ; exact hQ
  · rw [if_neg (by have := of_decide_eq_true h'; omega), if_pos (show v.N ≠ cols from hne)] at hQ; exact hQ
  · have hr := of_decide_eq_true h'
    have he : v.N = cols := he
    rw [if_neg (by omega), if_neg (by omega)] at hQ
    have hTl := h.len
    refine map_loop (xs := v.Items) (f := colM r T f o) (by omega) (fun i s next hi hs' hn => ?_) (fun next s hs' => ?_)
    · refine ifP_dec (fun _ => idxP_nat hi (dcsc_column_ok h.smlC (sureC_col h) h (column_ok (by have := colI_len T v.Items[i].At; omega) hf (fun y hy => ?_) (hxv _ (List.getElem_mem hi)) (appP_intro (by simp; omega) hn)))) (fun h => by omega)
      have hm := colI_mem.1 hy
      have h1 := h.inn _ hm; have h2 := hT _ hm
      have := h.c1
      unfold inT at h1; simp only at h1 h2
      exact ⟨by unfold inI; omega, h2⟩
    · have hsl : s.length = v.Items.length := by subst hs'; simp
      have hsum : ∀ (l : List Item), total (l.map (colM r T f o)) ≤ l.length * 65536 := by
        intro l
        induction l with
        | nil => simp [total]
        | cons y l ih =>
          have h1 : (colM r T f o y).length ≤ 65536 := by
            unfold colM; rw [List.length_map]
            have := List.length_filter_le (fun y : Item => askF f o y.At) (colI T y.At)
            have := colI_len T y.At; omega
          unfold total at ih ⊢
          simp only [List.map_cons, List.foldr_cons, List.length_cons]; omega
      refine ifP_dec (fun h => by omega) (fun _ => push_merge_ok (by simp only; omega) (fun l hl => ?_) (by subst hs'; have := hsum v.Items; simp only; omega) (fun l hl => ?_) ?_)
      · subst hs'
        obtain ⟨y, _, rfl⟩ := List.mem_map.1 hl
        unfold colM; rw [List.length_map]
        have := List.length_filter_le (fun y : Item => askF f o y.At) (colI T y.At)
        have := colI_len T y.At; omega
      · subst hs'
        obtain ⟨y, _, rfl⟩ := List.mem_map.1 hl
        exact (colM_prop h.srt f o y).2.1
      · unfold mergeP
        rw [if_neg (by omega), if_neg (by
          rintro ⟨l, hl, hn⟩
          subst hs'
          obtain ⟨y, _, rfl⟩ := List.mem_map.1 hl
          exact hn (colM_prop h.srt f o y).1), hs', sums_merge h hv he]
        exact hQ
end Go.Proofs.YtmidnfbbnmigeaaGreat

/- A matrix times a vector, row by row, and sums as a vector. -/
namespace Go.Proofs.YtmidnfbbnmigeaaGreat
open Go Go.Fw
set_option linter.unusedVariables false
set_option linter.unusedSimpArgs false
def stepI (r : Int) (B : Int → Option Int) (acc : Option Wide) (y : Item) : Option Wide := match B y.At with | some x => cmb r acc (some (mulW r y.Val x)) | none => acc
theorem stepI_okW {r : Int} {B : Int → Option Int} {acc : Option Wide} (h : ∀ w, acc = some w → okW w) (y : Item) : ∀ w, stepI r B acc y = some w → okW w := by
  intro w hw
  unfold stepI at hw
  split at hw
  · cases acc with
    | none => cases hw; exact mulW_okW _ _ _
    | some b => cases hw; exact addW_okW (h b rfl) (mulW_okW _ _ _)
  · exact h w hw
theorem foldI_okW (r : Int) (B : Int → Option Int) : ∀ (l : List Item) (acc : Option Wide), (∀ w, acc = some w → okW w) → ∀ w, l.foldl (stepI r B) acc = some w → okW w
  | [], acc, h => h
  | y :: l, acc, h => foldI_okW r B l _ (stepI_okW h y)
theorem row_fold {r : Int} {B : Int → Option Int} {n : Nat} {l : List Item} (h : IncI l) (hi : ∀ x ∈ l, 0 ≤ x.At ∧ x.At < n) : l.foldl (stepI r B) none = rowW r n (lkI l) B := by
  have := inc_fold (step := fun acc k a => match B k with | some x => cmb r acc (some (mulW r a x)) | none => acc) (a := none) h hi
  refine this.trans (foldl_same fun acc k _ => ?_)
  unfold stepW
  cases lkI l (k : Int) <;> cases B (k : Int) <;> rfl
def rowI (ts : List Triple) (i : Int) : List Item := (segS ts i.toNat).map itS
theorem rowI_colI (ts : List Triple) {i : Int} (h : 0 ≤ i) : rowI ts i = colI ts i := by
  unfold rowI colI segS
  rw [Int.toNat_of_nonneg h]
def sumsR (r rows cols : Int) (ts : List Triple) (v : Vec) (f : List Int) (o : Bool) : List Sum × Int :=
  if ¬ (1 ≤ r ∧ r ≤ 5) then ([], 8) else if v.N ≠ cols then ([], 4) else (sumsS r rows.toNat cols.toNat f o (fun i => lkI (rowI ts i)) (lkI v.Items), 0)
theorem sumsS_congr {r : Int} {n : Nat} {f : List Int} {o : Bool} {A A' : Int → Int → Option Int} {B : Int → Option Int} : ∀ {m : Nat}, (∀ (i k : Nat), i < m → k < n → A i k = A' i k) → sumsS r m n f o A B = sumsS r m n f o A' B
  | 0, _ => rfl
  | m + 1, h => by
    rw [sumsS_succ, sumsS_succ, sumsS_congr (m := m) fun i k hi hk => h i k (by omega) hk]
    have : rowW r n (A m) B = rowW r n (A' m) B := by
      unfold rowW
      refine foldl_same fun acc k hk => ?_
      unfold stepW
      rw [h m k (by omega) (List.mem_range.1 hk)]
    rw [this]
theorem ref13_Sums_ok {r rows cols : Int} {a : Rows} {ts : List Triple} {v : Vec} {f : List Int} {o : Bool} {Q : List Sum × Int → Prop} (hl : small a) (ha : sureS a = builtS rows cols ts) (h : Canon rows cols ts) (ht : ∀ t ∈ ts, inI t.Val) (hv : VecP v) (hvv : ∀ y ∈ v.Items, inI y.Val)
    (hf : okF f) (hQ : Q (sumsR r rows cols ts v f o)) : ref13_Sums r a (denS v) f o Q := by
  unfold ref13_Sums
  unfold sumsR at hQ
  have hr0 := h.r0; have hr1 := h.r1; have hc0 := h.c0; have hc1 := h.c1; have hlen := h.len; have hvl := hv.len
  refine ref_sure_ok hl ?_
  rw [ha]
  refine ref10_Back_ok hv (ref02_Is_ok (ifP_not (fun h' => ?_) (fun h' => ifP_ne (fun hne => ?_) (fun he => ?_))))
  · rw [if_pos (of_decide_eq_false h')] at hQ; exact hQ
  · rw [if_neg (by have := of_decide_eq_true h'; omega), if_pos (show v.N ≠ cols from hne)] at hQ; exact hQ
  have hr := of_decide_eq_true h'
  have he : v.N = cols := he
  rw [if_neg (by omega), if_neg (by omega)] at hQ
  show loopP _ (([] : List Sum), ((0 : Nat) : Int))
  refine range_intro (fun (s : List Sum) i => (s, i)) 0 rows.toNat (by omega) (fun m s => s = sumsS r m cols.toNat f o (fun i => lkI (rowI ts i)) (lkI v.Items)) (by omega) (by simp [sumsS]) (fun i s next _ hi hs hn => ?_) (fun s next hs => ?_)
  · have hB : (builtS rows cols ts).Rows = rows := rfl
    have hsl : s.length ≤ i := by subst hs; exact (sumsS_prop r cols.toNat f o (fun i => lkI (rowI ts i)) (lkI v.Items) i).2.1
    have hsucc := sumsS_succ r i cols.toNat f o (fun i => lkI (rowI ts i)) (lkI v.Items)
    rw [← hs] at hsucc
    refine ifP_dec (fun _ => ref03_Has_ok hf (by unfold inI; omega) (ifP_eq (fun hb => hn _ ?_) (fun hb => ?_))) (fun h' => by rw [hB] at h'; omega)
    · have hno : ¬ askF f o i = true := by unfold askF; rw [hb]; simp
      rw [hsucc, if_neg hno]; simp
    · have hask : askF f o i = true := by unfold askF; rw [bne_iff_ne]; exact hb
      rw [if_pos hask] at hsucc
      obtain ⟨lo, hi', sg⟩ := h.seg i
      have e1 : w64 ((i : Int) + 1) = (i + 1 : Nat) := by rw [w64_id (by omega) (by omega)]; omega
      rw [e1] at hn ⊢
      refine start_idx (by omega) ?_
      rw [sg.lo]
      have g1 := sg.le; have g2 := sg.len
      have hrow : rowI ts i = ((ts.take hi').drop lo).map itS := by rw [sg.eq]; simp [rowI]
      have hin : IncI (rowI ts i) ∧ ∀ x ∈ rowI ts i, 0 ≤ x.At ∧ x.At < cols.toNat := by
        rw [rowI_colI ts (by omega)]
        refine ⟨colI_inc h.srt _, fun x hx => ?_⟩
        have := h.inn _ (colI_mem.1 hx); unfold inT at this; simp only at this; omega
      have hfold := row_fold (r := r) (B := lkI v.Items) hin.1 hin.2
      refine range_intro (s0 := (none : Option Wide)) (fun (s : Option Wide) k => ((s.getD ⟨0, 0⟩).Hi, (s.getD ⟨0, 0⟩).Lo, s.isSome, k)) lo hi' (by omega) (fun p acc => acc = (((ts.take p).drop lo).map itS).foldl (stepI r (lkI v.Items)) none) (by omega) (by simp) (fun p acc next' hp1 hp2 hacc hn' => ?_) (fun acc next' hacc => ?_)
      · dsimp only
        have hpl : p < ts.length := by omega
        have hok : ∀ w, acc = some w → okW w := by subst hacc; exact foldI_okW r _ _ none (fun w hw => by cases hw)
        have hstep : (((ts.take (p + 1)).drop lo).map itS).foldl (stepI r (lkI v.Items)) none = stepI r (lkI v.Items) acc (itS ts[p]) := by
          rw [ext_step hp1 hpl, List.map_append, List.foldl_append, ← hacc]; rfl
        refine start_idx (by omega) ?_
        rw [sg.hi]
        refine ifP_dec (fun _ => ?_) (fun h => by omega)
        refine idxP_intro (by omega) (x := ts[p].Col) (by simp [builtS, hpl]) (ref09_Get_ok (by omega) ?_)
        rw [sureV_id hv]
        cases hB' : lkI v.Items ts[p].Col with
        | none =>
          refine ifP_pos rfl (hn' acc ?_)
          rw [hstep]; unfold stepI; simp only [itS, hB']
        | some x =>
          refine ifP_neg rfl (idxP_intro (by omega) (x := ts[p].Val) (by simp [builtS, hpl]) (ref02_Mul_ok (ht _ (List.getElem_mem hpl)) (hvv _ (lkI_mem hB')) ?_))
          have hst : stepI r (lkI v.Items) acc (itS ts[p]) = cmb r acc (some (mulW r ts[p].Val x)) := by unfold stepI; simp only [itS, hB']
          cases acc with
          | none => exact ifP_neg rfl (hn' (some (mulW r ts[p].Val x)) (by rw [hstep, hst]; rfl))
          | some w => exact ifP_pos rfl (ref02_Add_ok (hok w rfl) (mulW_okW _ _ _) (hn' (some (addW r w (mulW r ts[p].Val x))) (by rw [hstep, hst]; rfl)))
      · dsimp only
        refine start_idx (by omega) ?_
        rw [sg.hi]
        refine ifP_dec (fun h => by omega) (fun _ => ?_)
        rw [← hrow, hfold] at hacc
        cases acc with
        | none =>
          refine ifP_neg rfl (hn _ ?_)
          rw [hsucc, ← hacc]; simp
        | some w =>
          refine ifP_pos rfl (appP_intro (by simp; omega) (hn _ ?_))
          rw [hsucc, ← hacc]; rfl
  · refine ifP_dec (fun h' => by have hB : (builtS rows cols ts).Rows = rows := rfl; rw [hB] at h'; omega) (fun _ => ?_)
    subst hs; exact hQ
/-- the columns' sums are the rows' -/
theorem sums_turn {r rows cols : Int} {T : List Triple} (h : Canon cols rows T) (v : Vec) (f : List Int) (o : Bool) : sumsR r rows cols (turnT rows T) v f o = sumsP r rows cols T v f o := by
  unfold sumsR sumsP
  have e : sumsS r rows.toNat cols.toNat f o (fun i => lkI (rowI (turnT rows T) i)) (lkI v.Items) = sumsS r rows.toNat cols.toNat f o (fun i k => lkI (colI T k) i) (lkI v.Items) := by
    refine sumsS_congr fun i k _ _ => ?_
    rw [rowI_colI _ (by omega)]
    have hs := turn_srt rows h.srt
    have hm : ∀ a : Int, (⟨(i : Int), (k : Int), a⟩ : Triple) ∈ turnT rows T ↔ (⟨(k : Int), (i : Int), a⟩ : Triple) ∈ T := fun a => turn_mem h _
    cases h1 : lkI (colI (turnT rows T) i) k with
    | some a =>
      have := (hm a).1 (colI_mem.1 (lkI_mem h1))
      exact (mem_lkI (colI_inc h.srt k) ((colI_mem (x := ⟨i, a⟩)).2 this)).symm
    | none =>
      cases h2 : lkI (colI T k) i with
      | none => rfl
      | some a =>
        have := (hm a).2 (colI_mem.1 (lkI_mem h2))
        have := mem_lkI (colI_inc hs i) ((colI_mem (x := ⟨k, a⟩)).2 this)
        rw [h1] at this; cases this
  rw [e]
/-! ### Sums as a vector -/
end Go.Proofs.YtmidnfbbnmigeaaGreat

/- What statements make of what they are handed: matrices and vectors that can be, of values of a ring. -/
namespace Go.Proofs.YtmidnfbbnmigeaaGreat
open Go Go.Fw
set_option linter.unusedVariables false
set_option linter.unusedSimpArgs false
def sizeS (x : Int) : Int := x % 40
theorem size_is {x : Int} {Q : Int → Prop} (h : inR .u8 x) (hQ : Q (sizeS x)) : law07_Size x Q := by
  unfold law07_Size
  have hb := bounds_u8 h
  rw [w64_id (by omega) (by omega), Int.tmod_eq_emod_of_nonneg (by omega)]
  exact hQ
theorem sizeS_b (x : Int) : 0 ≤ sizeS x ∧ sizeS x ≤ 39 := by unfold sizeS; omega
theorem some_is {a0 : Int × Int} {ts : List Triple} {Q : Rows → Prop} (h0 : inR .u8 a0.1 ∧ inR .u8 a0.2) (hv : ∀ t ∈ ts, okTriple t)
    (hQ : ∀ T, Canon (sizeS a0.1) (sizeS a0.2) T → (∀ t ∈ T, inI t.Val) → Q (builtS (sizeS a0.1) (sizeS a0.2) T)) : law07_Some a0 ts Q := by
  unfold law07_Some
  have r0 := sizeS_b a0.1; have c0 := sizeS_b a0.2
  refine size_is h0.1 (size_is h0.2 (few_ok fun ys hl hm => ?_))
  refine range_intro (fun (s : List Triple) i => (s, i)) 0 ys.length (by omega) (fun i s => s.length ≤ i ∧ ∀ t ∈ s, inI t.Val) (by omega) (s0 := []) ⟨by simp, by simp⟩ (fun i s next _ hi hm2 hn => ?_) (fun s next hm2 => ?_)
  · obtain ⟨hs1, hs2⟩ := hm2
    dsimp only
    refine ifP_dec (fun _ => ?_) (fun h => by omega)
    have hskip : next (s, w64 ((i : Int) + 1)) := hn s ⟨by omega, hs2⟩
    refine idxP_nat hi (ifP_dec (fun _ => hskip) (fun _ => ifP_dec (fun _ => hskip) (fun _ => ifP_eq (fun _ => hskip) (fun g1 => ifP_eq (fun _ => hskip) (fun g2 => ⟨g1, g2, ?_⟩)))))
    have hx : inI ys[i].Val := inR_i64 (hv _ (hm _ (List.getElem_mem hi))).2.2
    refine appP_intro (by simp only [List.length_singleton]; omega) (hn _ ⟨by simp; omega, fun t ht => ?_⟩)
    rcases List.mem_append.1 ht with ht | ht
    · exact hs2 t ht
    · simp at ht; subst ht; exact hx
  · obtain ⟨hs1, hs2⟩ := hm2
    dsimp only
    refine ifP_dec (fun h => by omega) (fun _ => ?_)
    refine ref_Of_ok (by omega) hs2 ?_
    rcases of_cases (r := 1) (rows := sizeS a0.1) (cols := sizeS a0.2) hs2 with ⟨h1, h2⟩ | ⟨T, hT, he, _, _, _, _, hTe, _⟩
    · refine ifP_pos (by simpa using h2) ?_
      unfold ref07_Empty
      have e : w64 (sizeS a0.1 + 1) = sizeS a0.1 + 1 := w64_id (by omega) (by omega)
      rw [e]
      refine ⟨by omega, by omega, ?_⟩
      have := hQ [] ⟨r0.1, by omega, c0.1, by omega, by simp, .nil, by simp⟩ (by simp)
      unfold builtS at this
      have e2 : (sizeS a0.1 + 1).toNat = (sizeS a0.1).toNat + 1 := by omega
      rw [e2, rep_range]
      exact this
    · rw [he]
      refine ifP_neg (by simp) (hQ T hT fun t ht => ?_)
      rw [hTe] at ht
      unfold finS at ht
      split at ht
      · obtain ⟨p, _, rfl⟩ := List.mem_map.1 ht
        exact nar_inI p.2
      · simp at ht
/-! ### Values of a ring -/
def valR (r x : Int) : Int := if r = 5 then x else if r = 2 then bnd .i64 x 1 else if (bnd .i64 x 4611686018427387903).tmod 5 = 0 then 4611686018427387904 else bnd .i64 x 4611686018427387903
def facR (r x : Int) : Int := if r = 5 then x.tmod 2147483648 else valR r x
theorem bnd_inI (x y : Int) : inI (bnd .i64 x y) := by
  unfold bnd inI
  show -9223372036854775808 ≤ w64 _ ∧ w64 _ ≤ 9223372036854775807
  rw [w64_eq]; omega
theorem valR_inI {r x : Int} (h : inI x) : inI (valR r x) := by
  unfold valR
  repeat' split
  · exact h
  · exact bnd_inI _ _
  · unfold inI; omega
  · exact bnd_inI _ _
theorem facR_inI {r x : Int} (h : inI x) : inI (facR r x) := by
  unfold facR
  split
  · unfold inI at *
    rcases Int.lt_or_le x 0 with h' | h'
    · have := Int.neg_tmod (a := -x) (b := 2147483648)
      rw [Int.neg_neg] at this
      rw [this, Int.tmod_eq_emod_of_nonneg (by omega)]; omega
    · rw [Int.tmod_eq_emod_of_nonneg h']; omega
  · exact valR_inI h
theorem value_ok {r x : Int} {Q : Int → Prop} (hQ : Q (valR r x)) : law02_Value r x Q := by
  unfold law02_Value; unfold valR at hQ
  refine ifP_eq (fun h => ?_) (fun h => ifP_eq (fun h2 => ?_) (fun h2 => ifP_eq (fun h3 => ?_) (fun h3 => ?_)))
  · rwa [if_pos h] at hQ
  · rwa [if_neg h, if_pos h2] at hQ
  · rwa [if_neg h, if_neg h2, if_pos h3] at hQ
  · rwa [if_neg h, if_neg h2, if_neg h3] at hQ
theorem factor_ok {r x : Int} {Q : Int → Prop} (hQ : Q (facR r x)) : law02_Factor r x Q := by
  unfold law02_Factor; unfold facR at hQ
  refine ifP_eq (fun h => ?_) (fun h => value_ok ?_)
  · rwa [if_pos h] at hQ
  · rwa [if_neg h] at hQ
def ringS (r : Int) : Int := if r < 1 ∨ 5 < r then 1 else r
theorem ringS_b (r : Int) : 1 ≤ ringS r ∧ ringS r ≤ 5 := by unfold ringS; split <;> omega
theorem right_is {r : Int} {Q : Int → Prop} (hQ : Q (ringS r)) : law13_Right r Q := by
  unfold law13_Right; unfold ringS at hQ
  refine ifP_dec (fun h => ?_) (fun h => ifP_dec (fun h2 => ?_) (fun h2 => ?_))
  · rwa [if_pos (.inl h)] at hQ
  · rwa [if_pos (.inr h2)] at hQ
  · rwa [if_neg (by omega)] at hQ
def vmap (g : Int → Int) (t : Triple) : Triple := ⟨t.Row, t.Col, g t.Val⟩
theorem vmap_canon {rows cols : Int} {T : List Triple} (h : Canon rows cols T) (g : Int → Int) : Canon rows cols (T.map (vmap g)) where
  r0 := h.r0
  r1 := h.r1
  c0 := h.c0
  c1 := h.c1
  len := by rw [List.length_map]; exact h.len
  srt := by unfold Srt; rw [List.pairwise_map]; exact h.srt
  inn := by
    intro t ht
    obtain ⟨x, hx, rfl⟩ := List.mem_map.1 ht
    exact h.inn x hx
theorem vmap_built (rows cols : Int) (T : List Triple) (g : Int → Int) : builtS rows cols (T.map (vmap g)) = { builtS rows cols T with Val := T.map fun t => g t.Val } := by
  unfold builtS
  have e : below (T.map (vmap g)) = below T := by
    funext j
    unfold below
    rw [List.countP_map]; rfl
  rw [e, List.map_map, List.map_map]; rfl
theorem task_mat_ok {a : Law13_Task} {Q : Rows → Prop} (h : okLaw13_Task a) (hQ : ∀ T, Canon (sizeS a.Size.1) (sizeS a.Size.2) T → (∀ t ∈ T, inI t.Val) → Q (builtS (sizeS a.Size.1) (sizeS a.Size.2) T)) : law13_Task_Matrix a Q := by
  unfold law13_Task_Matrix
  refine some_is h.2.1 h.2.2.1.1 fun T hT hv => right_is ?_
  have hTl := hT.len
  have hVl : (builtS (sizeS a.Size.1) (sizeS a.Size.2) T).Val = T.map (·.Val) := rfl
  refine map_loop (xs := (builtS (sizeS a.Size.1) (sizeS a.Size.2) T).Val) (f := facR (ringS a.Ring)) (by rw [hVl, List.length_map]; omega) (fun i s next hi hs hn => ?_) (fun next s hs => ?_)
  · have hi' : i < T.length := by rw [hVl, List.length_map] at hi; exact hi
    exact ifP_dec (fun _ => idxP_nat hi (factor_ok (appP_intro (by simp; omega) hn))) (fun h => by omega)
  · refine ifP_dec (fun h => by omega) (fun _ => ?_)
    have := hQ (T.map (vmap (facR (ringS a.Ring)))) (vmap_canon hT _) (fun t ht => by
      obtain ⟨x, hx, rfl⟩ := List.mem_map.1 ht
      exact facR_inI (hv x hx))
    rw [vmap_built] at this
    rw [hVl, List.map_map] at hs
    subst hs
    exact this
/-! ### Vectors -/
def kvV (x : Item) : Key × Int := ((0, x.At), x.Val)
def e0V (x : Item) : Edge := ⟨0, x.At, x.Val⟩
theorem ref09_Of_one {n : Int} {l : List Item} {Q : Vec × Int → Prop} (h0 : 0 ≤ n) (h1 : n ≤ 4096) (hl : l.length ≤ 1000000) (hi : ∀ x ∈ l, 0 ≤ x.At ∧ x.At < n) (hv : ∀ x ∈ l, inI x.Val)
    (hQ : ∀ v : Vec, v.N = n → VecP v → (∀ x ∈ v.Items, inI x.Val) → Q (v, 0)) : ref09_Of 1 n l Q := by
  unfold ref09_Of
  refine ref02_Is_ok (ifP_neg (by decide) (ifP_dec (fun h => by omega) (fun _ => ifP_dec (fun h => by omega) (fun _ => ?_))))
  refine map_loop (xs := l) (f := e0V) (by omega) (fun i s next hk hs hn => ?_) (fun next s hs => ?_)
  · have hx := hi _ (List.getElem_mem hk)
    exact ifP_dec (fun _ => idxP_nat hk (ifP_dec (fun h => by omega) (fun _ => idxP_nat hk (ifP_dec (fun h => by omega) (fun _ => idxP_nat hk (idxP_nat hk (appP_intro (by simp; omega) hn))))))) (fun h => by omega)
  · refine ifP_dec (fun h => by omega) (fun _ => ?_)
    have hk : s.map kvE = l.map kvV := by subst hs; rw [List.map_map]; rfl
    have hkv : ∀ t ∈ l.map kvV, inI t.2 := fun t ht => by obtain ⟨x, hx, rfl⟩ := List.mem_map.1 ht; exact hv x hx
    refine ref_combine_ok (by omega) (by subst hs; simp; omega) (fun t ht => by subst hs; obtain ⟨x, hx, rfl⟩ := List.mem_map.1 ht; exact hv x hx) ?_
    rw [hk, fin_one hkv]
    refine ifP_neg rfl ?_
    dsimp only
    have hsl := (SC_prop 1 (l.map kvV) hkv).1
    rw [List.length_map] at hsl
    refine map_loop (xs := (SC 1 (l.map kvV)).map fun p => mkE p.1 (narS p.2).1) (f := fun e : Edge => (⟨e.To, e.W⟩ : Item)) (by simp; omega) (fun i s' next hk hs' hn => ?_) (fun next s' hs' => ?_)
    · have hk' : i < (SC 1 (l.map kvV)).length := by simpa using hk
      exact ifP_dec (fun _ => idxP_nat hk (idxP_nat hk (appP_intro (by simp; omega) hn))) (fun h => by omega)
    · refine ifP_dec (fun h => by omega) (fun _ => hQ _ rfl ?_ ?_)
      · have hkey : ∀ p ∈ SC 1 (l.map kvV), p.1.1 = 0 ∧ 0 ≤ p.1.2 ∧ p.1.2 < n := by
          intro p hp
          obtain ⟨t, ht, e⟩ := SC_keys hp
          obtain ⟨x, hx, rfl⟩ := List.mem_map.1 ht
          rw [← e]
          have := hi x hx
          exact ⟨rfl, this.1, this.2⟩
        refine ⟨h0, h1, ?_, fun x hx => ?_⟩
        · subst hs'
          unfold IncI
          rw [List.map_map, List.pairwise_map]
          refine List.Pairwise.imp_of_mem (fun {a b} ha hb hab => ?_) (SC_srt 1 (l.map kvV))
          have := hkey a ha; have := hkey b hb
          unfold ltK at hab
          simp only [Function.comp, mkE] at hab ⊢; omega
        · subst hs'
          simp only [List.map_map, List.mem_map] at hx
          obtain ⟨p, hp, rfl⟩ := hx
          exact (hkey p hp).2
      · subst hs'
        intro x hx
        simp only [List.map_map, List.mem_map] at hx
        obtain ⟨p, hp, rfl⟩ := hx
        exact nar_inI p.2
theorem vsome_ok {n : Int} {l : List Item} {Q : Vec → Prop} (h : inR .u8 n) (hv : ∀ x ∈ l, okItem x) (hQ : ∀ v : Vec, v.N = n % 60 → VecP v → (∀ x ∈ v.Items, inI x.Val) → Q v) : law09_Some n l Q := by
  unfold law09_Some
  have hb := bounds_u8 h
  have e : (w64 n).tmod 60 = n % 60 := by rw [w64_id (by omega) (by omega), Int.tmod_eq_emod_of_nonneg (by omega)]
  rw [e]
  refine join_intro (fun s : List Item => s.length ≤ 60 ∧ ∀ x ∈ s, (0 ≤ x.At ∧ x.At < n % 60) ∧ inI x.Val) ?_ ?_
  · rintro s ⟨hs1, hs2⟩
    exact ref09_Of_one (by omega) (by omega) (by omega) (fun x hx => (hs2 x hx).1) (fun x hx => (hs2 x hx).2) fun v h1 h2 h3 => hQ v h1 h2 h3
  · intro k hk
    refine loop_intro (fun s : List Item × Int => ∃ i : Nat, s.2 = i ∧ i ≤ 60 ∧ s.1.length ≤ i ∧ ∀ x ∈ s.1, (0 ≤ x.At ∧ x.At < n % 60) ∧ inI x.Val) (fun s => 60 - s.2.toNat) ⟨0, rfl, by omega, by simp, by simp⟩ ?_
    rintro ⟨s, j⟩ next ⟨i, hj, hi60, hs1, hs2⟩ hn
    simp only at hj hs1 hs2 ⊢
    subst hj
    have hstop : k s := hk s ⟨by omega, hs2⟩
    have ei : w64 ((i : Int) + 1) = ((i + 1 : Nat) : Int) := by rw [w64_id (by omega) (by omega)]; omega
    rw [ei]
    refine ifP_dec (fun h1 => ifP_dec (fun h2 => ifP_dec (fun h3 => ?_) (fun _ => hstop)) (fun _ => hstop)) (fun _ => hstop)
    have hil : i < l.length := by omega
    refine idxP_nat hil (ifP_dec (fun h4 => idxP_nat hil ⟨by omega, idxP_nat hil (appP_intro (by simp; omega) (hn _ ⟨i + 1, rfl, by omega, by simp; omega, fun x hx => ?_⟩ (by simp only; omega)))⟩) (fun h4 => hn _ ⟨i + 1, rfl, by omega, by simp only; omega, hs2⟩ (by simp only; omega)))
    rcases List.mem_append.1 hx with hx | hx
    · exact hs2 x hx
    · simp only [List.mem_singleton] at hx
      subst hx
      simp only
      rw [Int.tmod_eq_emod_of_nonneg h4]
      exact ⟨⟨Int.emod_nonneg _ (by omega), Int.emod_lt_of_pos _ (by omega)⟩, inR_i64 (hv _ (List.getElem_mem hil)).2⟩
theorem inR_small {x : Int} (h0 : 0 ≤ x) (h1 : x ≤ 39) : inR .u8 x := by
  have : ∀ n : Fin 40, inR .u8 (n.val : Int) := by unfold inR; decide
  have := this ⟨x.toNat, by omega⟩
  simpa only [Int.toNat_of_nonneg h0] using this
theorem task_vec_ok {a : Law13_Task} {l : List Item} {Q : Vec → Prop} (h : okLaw13_Task a) (hl : ∀ x ∈ l, okItem x) (hQ : ∀ v : Vec, v.N = sizeS a.Size.2 → VecP v → (∀ x ∈ v.Items, inI x.Val) → Q v) : law13_Task_Vector a l Q := by
  unfold law13_Task_Vector
  have hb := sizeS_b a.Size.2
  have e : IntKind.wrap .u8 (sizeS a.Size.2) = sizeS a.Size.2 := by
    simp only [IntKind.wrap, IntKind.bits, IntKind.signed]; simp; omega
  refine size_is h.2.1.2 ?_
  rw [e]
  refine vsome_ok (inR_small hb.1 hb.2) hl fun v h1 h2 h3 => ?_
  have hvl := h2.len
  refine map_loop (xs := v.Items) (f := fun x => (⟨x.At, valR (ringS a.Ring) x.Val⟩ : Item)) (by omega) (fun i s next hi hs hn => ?_) (fun next s hs => ?_)
  · exact ifP_dec (fun _ => idxP_nat hi (idxP_nat hi (right_is (value_ok (appP_intro (by simp; omega) hn))))) (fun h => by omega)
  · refine ifP_dec (fun h => by omega) (fun _ => hQ _ (by rw [h1]; omega) ?_ ?_)
    · subst hs
      refine ⟨h2.n0, h2.n1, ?_, fun x hx => ?_⟩
      · unfold IncI; rw [List.pairwise_map]; exact h2.inc
      · obtain ⟨y, hy, rfl⟩ := List.mem_map.1 hx; exact h2.ins y hy
    · subst hs
      intro x hx
      obtain ⟨y, hy, rfl⟩ := List.mem_map.1 hx; exact valR_inI (h3 y hy)
theorem task_rows_ok {a : Law13_Task} {Q : List Int → Prop} (h : okLaw13_Task a) (hQ : ∀ f, okF f → Q f) : law13_Task_Rows a Q := by
  unfold law13_Task_Rows
  have hf : okF a.F := fun x hx => by have := bounds_u64 (h.2.2.2.2.2.1.1 x hx); omega
  refine ifP_dec (fun h => ⟨by omega, by omega, by omega, hQ _ fun x hx => ?_⟩) (fun h => hQ _ hf)
  exact hf x (List.mem_of_mem_take (List.mem_of_mem_drop hx))
end Go.Proofs.YtmidnfbbnmigeaaGreat

/- The statements PushTells, PushRaw in plain Lean, and what must be whatever is asked. -/
namespace Go.Proofs.YtmidnfbbnmigeaaGreat
open Go Go.Fw
set_option linter.unusedVariables false
set_option linter.unusedSimpArgs false
theorem sumsP_prop (r rows cols : Int) (T : List Triple) (v : Vec) (f : List Int) (o : Bool) (h : 0 ≤ rows ∧ rows ≤ 4096) : Rise (sumsP r rows cols T v f o).1 ∧ (sumsP r rows cols T v f o).1.length ≤ 4096 ∧ okS (sumsP r rows cols T v f o).1 ∧ ∀ s ∈ (sumsP r rows cols T v f o).1, 0 ≤ s.At ∧ s.At < rows := by
  unfold sumsP
  have hz : Rise [] ∧ ([] : List Sum).length ≤ 4096 ∧ okS [] ∧ ∀ s ∈ ([] : List Sum), 0 ≤ s.At ∧ s.At < rows := ⟨.nil, by simp, by simp [okS], by simp⟩
  split
  · exact hz
  · split
    · exact hz
    · obtain ⟨h1, h2, h3, h4, _⟩ := sumsS_prop r cols.toNat f o (fun i k => lkI (colI T k) i) (lkI v.Items) rows.toNat
      exact ⟨h1, by simp only; omega, h3, fun s hs => by have := h4 s hs; omega⟩
theorem places_len (v : Vec) : (placesS v).length ≤ 4096 := by unfold placesS; rw [List.length_map]; exact (sureV_ok v).len
theorem push_Work_ok {c : Columns} {x : Vec} {rows cols : Int} {T : List Triple} {Q : Int → Prop} (hl : smallC c) (hx : x.Items.length ≤ 1000000000) (hc : sureC c = colS rows cols T) (h : Canon cols rows T) (hQ : Q (workS T (placesS x))) : push_Work c x Q := by
  unfold push_Work
  exact spvec_Places_ok hx (dcsc_work_ok hl (by have := places_len x; omega) hc h hQ)
theorem ref14_Work_ok {c : Columns} {x : Vec} {rows cols : Int} {T : List Triple} {Q : Int → Prop} (hl : smallC c) (hx : x.Items.length ≤ 1000000000) (hc : sureC c = colS rows cols T) (h : Canon cols rows T) (hQ : Q (workS T (placesS x))) : ref14_Work c x Q := by
  unfold ref14_Work
  exact ref09_Places_ok hx (ref_dcsc_work_ok hl (by have := places_len x; omega) hc h hQ)
theorem ref09_Same_ok {v : Vec} {Q : Bool → Prop} (hl : v.Items.length ≤ 1000000000000) (hQ : Q true) : ref09_Same v v Q := by
  unfold ref09_Same
  refine ifP_pos (by simp) (eqIt_ok hl ?_)
  rw [decide_eq_true rfl]; exact hQ
theorem nil_okF : okF [] := by simp [okF]
/-! ### live -/
/-! ### PushTells, PushRaw -/
end Go.Proofs.YtmidnfbbnmigeaaGreat

