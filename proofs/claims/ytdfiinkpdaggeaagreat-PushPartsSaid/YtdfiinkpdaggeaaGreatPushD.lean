/- A matrix times a vector: column by column, and row by row. -/
import Derived.Test.YtdfiinkpdaggeaaGreatBaseC
namespace Go.Proofs.YtdfiinkpdaggeaaGreat
open Go Go.Fw
set_option linter.unusedVariables false
set_option linter.unusedSimpArgs false
/-! ### What each row comes to -/
def askF (f : List Int) (o : Bool) (i : Int) : Bool := hasF f i != o
def stepW (r : Int) (A B : Int → Option Int) (acc : Option Wide) (k : Int) : Option Wide := match A k, B k with | some a, some x => cmb r acc (some (mulW r a x)) | _, _ => acc
def rowW (r : Int) (n : Nat) (A B : Int → Option Int) : Option Wide := (List.range n).foldl (fun acc (k : Nat) => stepW r A B acc k) none
def sumsS (r : Int) (m n : Nat) (f : List Int) (o : Bool) (A : Int → Int → Option Int) (B : Int → Option Int) : List Sum :=
  (List.range m).filterMap fun i : Nat => if askF f o i then (rowW r n (A i) B).map fun w => (⟨i, w⟩ : Sum) else none
theorem sumsS_succ (r : Int) (m n : Nat) (f : List Int) (o : Bool) (A : Int → Int → Option Int) (B : Int → Option Int) :
    sumsS r (m + 1) n f o A B = sumsS r m n f o A B ++ (if askF f o m then (rowW r n (A m) B).map fun w => (⟨m, w⟩ : Sum) else none).toList := by
  unfold sumsS
  rw [List.range_succ, List.filterMap_append]
  congr 1
theorem stepW_okW {r : Int} {A B : Int → Option Int} {acc : Option Wide} (h : ∀ w, acc = some w → okW w) (k : Int) : ∀ w, stepW r A B acc k = some w → okW w := by
  intro w hw
  unfold stepW at hw
  split at hw
  · cases acc with
    | none => cases hw; exact mulW_okW _ _ _
    | some b => cases hw; exact addW_okW (h b rfl) (mulW_okW _ _ _)
  · exact h w hw
theorem rowW_okW (r : Int) (n : Nat) (A B : Int → Option Int) : ∀ w, rowW r n A B = some w → okW w := by
  unfold rowW
  induction n with
  | zero => intro w hw; cases hw
  | succ n ih => rw [List.range_succ, List.foldl_append]; exact stepW_okW ih n
theorem sumsS_prop (r : Int) (n : Nat) (f : List Int) (o : Bool) (A : Int → Int → Option Int) (B : Int → Option Int) : ∀ m : Nat,
    Rise (sumsS r m n f o A B) ∧ (sumsS r m n f o A B).length ≤ m ∧ okS (sumsS r m n f o A B) ∧ (∀ s ∈ sumsS r m n f o A B, 0 ≤ s.At ∧ s.At < m) ∧ ∀ i : Int, lk (sumsS r m n f o A B) i = if 0 ≤ i ∧ i < m ∧ askF f o i = true then rowW r n (A i) B else none := by
  intro m
  induction m with
  | zero =>
    refine ⟨.nil, by simp [sumsS], by simp [sumsS, okS], by simp [sumsS], fun i => ?_⟩
    rw [if_neg (by omega)]; rfl
  | succ m ih =>
    obtain ⟨h1, h2, h3, h4, h5⟩ := ih
    rw [sumsS_succ]
    by_cases ha : askF f o m = true
    · rw [if_pos ha]
      cases hw : rowW r n (A m) B with
      | none =>
        simp only [Option.map_none, Option.toList_none, List.append_nil]
        refine ⟨h1, by omega, h3, fun s hs => by have := h4 s hs; omega, fun i => ?_⟩
        rw [h5]
        by_cases e : i = m
        · subst e; rw [if_neg (by omega), hw]; simp
        · by_cases hi : 0 ≤ i ∧ i < m ∧ askF f o i = true
          · rw [if_pos hi, if_pos ⟨hi.1, by omega, hi.2.2⟩]
          · rw [if_neg hi, if_neg (fun h => hi ⟨h.1, by omega, h.2.2⟩)]
      | some w =>
        simp only [Option.map_some, Option.toList_some]
        refine ⟨List.pairwise_append.2 ⟨h1, by simp, fun a ha' b hb => ?_⟩, by simp; omega, fun s hs => ?_, fun s hs => ?_, fun i => ?_⟩
        · simp only [List.mem_singleton] at hb; subst hb; exact (h4 a ha').2
        · rcases List.mem_append.1 hs with hs | hs
          · exact h3 s hs
          · simp only [List.mem_singleton] at hs; subst hs; exact rowW_okW r n _ _ w hw
        · rcases List.mem_append.1 hs with hs | hs
          · have := h4 s hs; omega
          · simp only [List.mem_singleton] at hs; subst hs; simp only; omega
        · rw [lk_append, h5, lk_cons, lk_nil]
          by_cases e : i = m
          · subst e
            have c1 : 0 ≤ (m : Int) ∧ (m : Int) < ((m + 1 : Nat) : Int) ∧ askF f o m = true := ⟨by omega, by omega, ha⟩
            rw [if_neg (fun h => by omega), if_pos c1, hw]; simp
          · rw [if_neg e]
            by_cases hi : 0 ≤ i ∧ i < m ∧ askF f o i = true
            · rw [if_pos hi, if_pos ⟨hi.1, by omega, hi.2.2⟩]; split <;> simp_all
            · rw [if_neg hi, if_neg (fun h => hi ⟨h.1, by omega, h.2.2⟩)]
    · rw [if_neg ha]
      simp only [Option.toList_none, List.append_nil]
      refine ⟨h1, by omega, h3, fun s hs => by have := h4 s hs; omega, fun i => ?_⟩
      rw [h5]
      by_cases e : i = m
      · subst e; rw [if_neg (by omega), if_neg (fun h => ha h.2.2)]
      · by_cases hi : 0 ≤ i ∧ i < m ∧ askF f o i = true
        · rw [if_pos hi, if_pos ⟨hi.1, by omega, hi.2.2⟩]
        · rw [if_neg hi, if_neg (fun h => hi ⟨h.1, by omega, h.2.2⟩)]
theorem foldl_same {β γ : Type} {f g : β → γ → β} : ∀ {l : List γ} {a : β}, (∀ acc k, k ∈ l → f acc k = g acc k) → l.foldl f a = l.foldl g a
  | [], _, _ => rfl
  | x :: l, a, h => by rw [List.foldl_cons, List.foldl_cons, h a x (by simp)]; exact foldl_same fun acc k hk => h acc k (by simp [hk])
/-- going through items that rise is going through all places -/
theorem inc_fold {β : Type} {step : β → Int → Int → β} {a : β} : ∀ {n : Nat} {l : List Item}, IncI l → (∀ x ∈ l, 0 ≤ x.At ∧ x.At < n) →
    l.foldl (fun acc x => step acc x.At x.Val) a = (List.range n).foldl (fun acc (k : Nat) => match lkI l k with | some v => step acc k v | none => acc) a
  | 0, l, h, hi => by
    cases l with
    | nil => rfl
    | cons x l => have := hi x (by simp); omega
  | n + 1, l, h, hi => by
    rw [List.range_succ, List.foldl_append]
    simp only [List.foldl_cons, List.foldl_nil]
    have hc : l = [] ∨ ∃ p y, l = p ++ [y] := by
      rcases List.eq_nil_or_concat l with h | ⟨p, y, h⟩
      · exact .inl h
      · exact .inr ⟨p, y, by rw [h, List.concat_eq_append]⟩
    have old : ∀ {l : List Item}, IncI l → (∀ x ∈ l, 0 ≤ x.At ∧ x.At < n) → lkI l n = none := fun _ hi => lkI_none fun s hs => by have := hi s hs; omega
    rcases hc with e | ⟨p, y, e⟩
    · subst e
      rw [← inc_fold (n := n) (l := []) h (by simp)]; rfl
    · subst e
      have hp : IncI p := (List.pairwise_append.1 h).1
      have hlt : ∀ x ∈ p, x.At < y.At := fun x hx => (List.pairwise_append.1 h).2.2 x hx y (by simp)
      by_cases ey : y.At = n
      · have hpin : ∀ x ∈ p, 0 ≤ x.At ∧ x.At < n := fun x hx => ⟨(hi x (by simp [hx])).1, by have := hlt x hx; omega⟩
        have e1 : lkI (p ++ [y]) n = some y.Val := by rw [lkI_append, old hp hpin, lkI_cons, if_pos ey.symm]
        rw [e1, List.foldl_append, inc_fold hp hpin]
        simp only [List.foldl_cons, List.foldl_nil, ey]
        congr 1
        refine foldl_same fun acc k hk => ?_
        have hk := List.mem_range.1 hk
        have : lkI (p ++ [y]) k = lkI p k := by rw [lkI_append, lkI_cons, if_neg (by omega)]; cases lkI p k <;> rfl
        rw [this]
      · have hin : ∀ x ∈ p ++ [y], 0 ≤ x.At ∧ x.At < n := by
          intro x hx
          have h1 := hi x hx
          refine ⟨h1.1, ?_⟩
          have hy := hi y (by simp)
          rcases List.mem_append.1 hx with hx | hx
          · have := hlt x hx; omega
          · simp only [List.mem_singleton] at hx; subst hx; omega
        rw [old h hin, inc_fold h hin]
/-! ### Columns -/
def colM (r : Int) (T : List Triple) (f : List Int) (o : Bool) (x : Item) : List Sum := ((colI T x.At).filter fun y => askF f o y.At).map fun y => ⟨y.At, mulW r y.Val x.Val⟩
theorem colI_inc {T : List Triple} (h : Srt T) (k : Int) : IncI (colI T k) := by
  unfold colI IncI
  rw [List.pairwise_map]
  have h1 : (T.filter fun t => decide (t.Row = k)).Pairwise fun a b => ltK (key a) (key b) := List.Pairwise.filter _ h
  refine List.Pairwise.imp_of_mem (fun {a b} ha hb hab => ?_) h1
  have ha := of_decide_eq_true (List.mem_filter.1 ha).2
  have hb := of_decide_eq_true (List.mem_filter.1 hb).2
  unfold ltK key at hab
  simp only [itS] at hab ⊢; omega
theorem colI_mem {T : List Triple} {k : Int} {x : Item} : x ∈ colI T k ↔ (⟨k, x.At, x.Val⟩ : Triple) ∈ T := by
  unfold colI
  simp only [List.mem_map, List.mem_filter, decide_eq_true_eq]
  constructor
  · rintro ⟨t, ⟨ht, e⟩, rfl⟩; subst e; exact ht
  · intro h; exact ⟨_, ⟨h, rfl⟩, rfl⟩
theorem colM_prop {r : Int} {T : List Triple} (h : Srt T) (f : List Int) (o : Bool) (x : Item) : Rise (colM r T f o x) ∧ okS (colM r T f o x) ∧ ∀ i, lk (colM r T f o x) i = if askF f o i = true then (lkI (colI T x.At) i).map fun a => mulW r a x.Val else none := by
  have hl := colI_inc h x.At
  unfold colM
  generalize colI T x.At = l at hl
  refine ⟨?_, ?_, fun i => ?_⟩
  · unfold Rise; rw [List.pairwise_map]; exact List.Pairwise.filter _ hl
  · intro s hs
    obtain ⟨y, _, rfl⟩ := List.mem_map.1 hs
    exact mulW_okW _ _ _
  · clear hl
    induction l with
    | nil => simp [lk, lkI, mget]
    | cons y l ih =>
      rw [lkI_cons]
      by_cases ha : askF f o y.At = true
      · rw [List.filter_cons_of_pos (by simpa using ha), List.map_cons, lk_cons]
        simp only
        by_cases e : i = y.At
        · subst e; rw [if_pos rfl, if_pos rfl, if_pos ha]; rfl
        · rw [if_neg e, if_neg e]; exact ih
      · rw [List.filter_cons_of_neg (by simpa using ha)]
        by_cases e : i = y.At
        · subst e; rw [if_pos rfl, if_neg ha, ih, if_neg ha]
        · rw [if_neg e]; exact ih
theorem foldR_list (r : Int) (i : Int) : ∀ (L : List (List Sum)) (n : Nat), n ≤ L.length → foldR r (fun w => L.getD w []) i n none = (L.take n).foldl (fun acc l => cmb r acc (lk l i)) none := by
  intro L n
  induction n with
  | zero => intro _; rfl
  | succ n ih =>
    intro hn
    rw [foldR, ih (by omega), List.take_succ_eq_append_getElem (by omega), List.foldl_append]
    simp [List.getD_eq_getElem?_getD, show n < L.length by omega]
theorem sums_merge {r : Int} {rows cols : Int} {T : List Triple} {v : Vec} (h : Canon cols rows T) (hv : VecP v) (hn : v.N = cols) (f : List Int) (o : Bool) :
    mergeS r (v.Items.map (colM r T f o)) = sumsS r rows.toNat cols.toNat f o (fun i k => lkI (colI T k) i) (lkI v.Items) := by
  have hrise : ∀ l ∈ v.Items.map (colM r T f o), Rise l := by
    intro l hl; obtain ⟨x, _, rfl⟩ := List.mem_map.1 hl; exact (colM_prop h.srt f o x).1
  have hm := merge_prop r _ hrise _ (Nat.le_refl _)
  rw [List.take_length] at hm
  obtain ⟨s1, s2, s3, s4, s5⟩ := sumsS_prop r cols.toNat f o (fun i k => lkI (colI T k) i) (lkI v.Items) rows.toNat
  refine rise_ext hm.1 s1 fun i => ?_
  rw [hm.2.2.2, s5, foldR_list r i _ _ (Nat.le_refl _), List.take_length, List.foldl_map]
  by_cases ha : askF f o i = true
  · have e1 : ∀ x : Item, lk (colM r T f o x) i = (lkI (colI T x.At) i).map fun a => mulW r a x.Val := fun x => by rw [(colM_prop h.srt f o x).2.2, if_pos ha]
    simp only [e1]
    rw [inc_fold (step := fun acc k xv => cmb r acc ((lkI (colI T k) i).map fun a => mulW r a xv)) (n := cols.toNat) hv.inc (fun x hx => by have := hv.ins x hx; omega)]
    by_cases hi : 0 ≤ i ∧ i < rows
    · rw [if_pos ⟨hi.1, by omega, ha⟩]
      unfold rowW
      refine foldl_same fun acc k _ => ?_
      unfold stepW
      simp only
      cases lkI v.Items (k : Int) <;> cases lkI (colI T (k : Int)) i <;> simp [cmb_none]
    · rw [if_neg (by omega)]
      have hnone : ∀ k, lkI (colI T k) i = none := fun k => lkI_none fun s hs => by
        have := h.inn _ (colI_mem.1 hs); unfold inT at this; simp only at this; omega
      have : ∀ (l : List Nat), l.foldl (fun acc (k : Nat) => match lkI v.Items k with | some x => cmb r acc ((lkI (colI T k) i).map fun a => mulW r a x) | none => acc) none = none := by
        intro l
        induction l with
        | nil => rfl
        | cons k l ih =>
          rw [List.foldl_cons, hnone]
          cases lkI v.Items (k : Int) <;> exact ih
      exact this _
  · rw [if_neg (fun h => ha h.2.2)]
    have e1 : ∀ x : Item, lk (colM r T f o x) i = none := fun x => by rw [(colM_prop h.srt f o x).2.2, if_neg ha]
    simp only [e1, cmb_none]
    generalize v.Items = l
    induction l with
    | nil => rfl
    | cons x l ih => exact ih
/-! ### The program: column by column -/
theorem column_ok {r : Int} {l : List Item} {val : Int} {f : List Int} {o : Bool} {Q : List Sum → Prop} (hl : l.length ≤ 1000000) (hf : okF f) (hi : ∀ x ∈ l, inI x.At ∧ inI x.Val) (hv : inI val) (hQ : Q ((l.filter fun y => askF f o y.At).map fun y => ⟨y.At, mulW r y.Val val⟩)) : push_column r l val f o Q := by
  unfold push_column
  refine range_intro (fun (s : List Sum) i => (s, i)) 0 l.length (by omega) (fun k s => s = ((l.take k).filter fun y => askF f o y.At).map fun y => ⟨y.At, mulW r y.Val val⟩) (by omega) (by simp) (fun k s next _ hk hs hn => ?_) (fun s next hs => ?_)
  · have hx := hi _ (List.getElem_mem hk)
    have hsl : s.length ≤ k := by
      subst hs; rw [List.length_map]
      have := List.length_filter_le (fun y : Item => askF f o y.At) (l.take k)
      rw [List.length_take] at this; omega
    refine ifP_dec (fun _ => idxP_nat hk (flags_Has_ok hf hx.1 ⟨fun h => ?_, fun h => hn _ ?_⟩)) (fun h => by omega)
    · refine ring_Mul_ok hx.2 hv (appP_intro (by simp; omega) (hn _ ?_))
      have ha : askF f o l[k].At = true := by unfold askF; rw [bne]; exact h
      rw [List.take_succ_eq_append_getElem hk, List.filter_append, List.map_append, hs, List.filter_cons_of_pos (by simpa using ha)]; rfl
    · have ha : ¬ askF f o l[k].At = true := by unfold askF; rw [bne, h]; simp
      rw [List.take_succ_eq_append_getElem hk, List.filter_append, List.map_append, hs, List.filter_cons_of_neg (by simpa using ha)]; simp
  · rw [List.take_length] at hs
    subst hs
    exact ifP_dec (fun h => by omega) (fun _ => hQ)
theorem push_sure_ok {c : Columns} {x : Vec} {Q : Columns × Vec → Prop} (hc : smallC c) (hx : x.Items.length ≤ 1000000000) (hQ : Q (sureC c, sureV x)) : push_sure c x Q := by
  unfold push_sure
  refine join_intro (fun t => (⟨t.1, t.2.1, t.2.2.1, t.2.2.2.1, t.2.2.2.2.1, t.2.2.2.2.2⟩ : Columns) = sureC c) ?_ ?_
  · rintro ⟨t1, t2, t3, t4, t5, t6⟩ ht
    simp only at ht ⊢
    rw [ht]
    unfold sureV at hQ
    refine spvec_Right_ok hx (ifP_not (fun h => ?_) (fun h => ?_))
    · rw [if_neg (of_decide_eq_false h)] at hQ; exact hQ
    · rw [if_pos (of_decide_eq_true h)] at hQ; exact hQ
  · intro k hk
    refine dcsc_right_ok hc (ifP_not (fun h => hk _ ?_) (fun h => hk _ ?_))
    · rw [sureC, if_neg (of_decide_eq_false h), colS_nil]
    · rw [sureC, if_pos (of_decide_eq_true h)]
def sumsP (r rows cols : Int) (T : List Triple) (v : Vec) (f : List Int) (o : Bool) : List Sum × Int :=
  if ¬ (1 ≤ r ∧ r ≤ 5) then ([], 8) else if v.N ≠ cols then ([], 4) else (sumsS r rows.toNat cols.toNat f o (fun i k => lkI (colI T k) i) (lkI v.Items), 0)
theorem push_Sums_ok {r rows cols : Int} {c : Columns} {x : Vec} {T : List Triple} {f : List Int} {o : Bool} {Q : List Sum × Int → Prop} (hc : smallC c) (hs : sureC c = colS rows cols T) (h : Canon cols rows T) (hT : ∀ t ∈ T, inI t.Val)
    (hx : x.Items.length ≤ 1000000000) (hxv : ∀ y ∈ (sureV x).Items, inI y.Val) (hf : okF f) (hQ : Q (sumsP r rows cols T (sureV x) f o)) : push_Sums r c x f o Q := by
  unfold push_Sums
  unfold sumsP at hQ
  have hv := sureV_ok x
  refine push_sure_ok hc hx ?_
  rw [hs]
  generalize sureV x = v at hv hxv hQ
  simp only
  have hvl := hv.len
  refine ring_Is_ok (ifP_not (fun h' => ?_) (fun h' => ifP_ne (fun hne => ?_) (fun he => ?_)))
  · rw [if_pos (of_decide_eq_false h')] at hQ; exact hQ
  · rw [if_neg (by have := of_decide_eq_true h'; omega), if_pos (show v.N ≠ cols from hne)] at hQ; exact hQ
  · have hr := of_decide_eq_true h'
    have he : v.N = cols := he
    rw [if_neg (by omega), if_neg (by omega)] at hQ
    have hTl := h.len
    refine map_loop (xs := v.Items) (f := colM r T f o) (by omega) (fun i s next hi hs' hn => ?_) (fun next s hs' => ?_)
    · refine ifP_dec (fun _ => idxP_nat hi (dcsc_column_ok h.smlC (sureC_col h) h (column_ok (by have := colI_len T v.Items[i].At; omega) hf (fun y hy => ?_) (hxv _ (List.getElem_mem hi)) (appP_intro (by simp; omega) hn)))) (fun h => by omega)
      have hm := colI_mem.1 hy
      have h1 := h.inn _ hm; have h2 := hT _ hm
      have := h.c1
      unfold inT at h1; simp only at h1 h2
      exact ⟨by unfold inI; omega, h2⟩
    · have hsl : s.length = v.Items.length := by subst hs'; simp
      have hsum : ∀ (l : List Item), total (l.map (colM r T f o)) ≤ l.length * 65536 := by
        intro l
        induction l with
        | nil => simp [total]
        | cons y l ih =>
          have h1 : (colM r T f o y).length ≤ 65536 := by
            unfold colM; rw [List.length_map]
            have := List.length_filter_le (fun y : Item => askF f o y.At) (colI T y.At)
            have := colI_len T y.At; omega
          unfold total at ih ⊢
          simp only [List.map_cons, List.foldr_cons, List.length_cons]; omega
      refine ifP_dec (fun h => by omega) (fun _ => push_merge_ok (by simp only; omega) (fun l hl => ?_) (by subst hs'; have := hsum v.Items; simp only; omega) (fun l hl => ?_) ?_)
      · subst hs'
        obtain ⟨y, _, rfl⟩ := List.mem_map.1 hl
        unfold colM; rw [List.length_map]
        have := List.length_filter_le (fun y : Item => askF f o y.At) (colI T y.At)
        have := colI_len T y.At; omega
      · subst hs'
        obtain ⟨y, _, rfl⟩ := List.mem_map.1 hl
        exact (colM_prop h.srt f o y).2.1
      · unfold mergeP
        rw [if_neg (by omega), if_neg (by
          rintro ⟨l, hl, hn⟩
          subst hs'
          obtain ⟨y, _, rfl⟩ := List.mem_map.1 hl
          exact hn (colM_prop h.srt f o y).1), hs', sums_merge h hv he]
        exact hQ
end Go.Proofs.YtdfiinkpdaggeaaGreat
