import Derived.Test.YtjabmpfcpekpdaaGreatPushF
/- The statement PushParts in plain Lean. -/
namespace Go.Proofs.YtjabmpfcpekpdaaGreat
open Go Go.Fw
set_option linter.unusedVariables false
set_option linter.unusedSimpArgs false
/-! ### Sums in any order -/
theorem leW_total (a b : Wide) : leW a b ∨ leW b a := by unfold leW; omega
theorem leW_anti {a b : Wide} (h : leW a b) (h' : leW b a) : a = b := by unfold leW at *; exact wide_eta (by omega) (by omega)
theorem leW_trans {a b c : Wide} (h : leW a b) (h' : leW b c) : leW a c := by unfold leW at *; omega
def minW (a b : Wide) : Wide := if leW a b then a else b
theorem minW_comm (a b : Wide) : minW a b = minW b a := by
  unfold minW
  by_cases h : leW a b <;> by_cases h' : leW b a
  · rw [if_pos h, if_pos h']; exact leW_anti h h'
  · rw [if_pos h, if_neg h']
  · rw [if_neg h, if_pos h']
  · rcases leW_total a b with e | e
    · exact absurd e h
    · exact absurd e h'
theorem minW_assoc (a b c : Wide) : minW (minW a b) c = minW a (minW b c) := by
  unfold minW
  by_cases h1 : leW a b <;> by_cases h2 : leW b c <;> by_cases h3 : leW a c <;> simp only [h1, h2, h3, if_true, if_false]
  · exact absurd (leW_trans h1 h2) h3
  · exfalso; unfold leW at *; omega
theorem addW_comm {r : Int} {a b : Wide} (ha : okW a) (hb : okW b) : addW r a b = addW r b a := by
  by_cases h : r = 1 ∨ r = 3 ∨ r = 4
  · have e : ∀ a b, addW r a b = minW a b := fun a b => by unfold addW minW; rw [if_pos h]
    rw [e, e]; exact minW_comm a b
  · by_cases h2 : r = 2
    · unfold addW
      rw [if_neg h, if_pos h2, if_neg h, if_pos h2]
      by_cases e1 : a = ⟨0, 0⟩ <;> by_cases e2 : b = ⟨0, 0⟩ <;> simp [e1, e2]
    · by_cases h5 : r = 5
      · subst h5
        rw [okW_toZ ha, okW_toZ hb, ofZ_add, ofZ_add, Int.add_comm]
      · unfold addW; rw [if_neg h, if_neg h2, if_neg h5, if_neg h, if_neg h2, if_neg h5]
theorem addW_assoc {r : Int} {a b c : Wide} (ha : okW a) (hb : okW b) (hc : okW c) : addW r (addW r a b) c = addW r a (addW r b c) := by
  by_cases h : r = 1 ∨ r = 3 ∨ r = 4
  · have e : ∀ a b, addW r a b = minW a b := fun a b => by unfold addW minW; rw [if_pos h]
    simp only [e]; exact minW_assoc a b c
  · by_cases h2 : r = 2
    · have e : ∀ a b, addW r a b = if a = ⟨0, 0⟩ ∧ b = ⟨0, 0⟩ then ⟨0, 0⟩ else ⟨0, 1⟩ := fun a b => by unfold addW; rw [if_neg h, if_pos h2]
      have n1 : (⟨0, 1⟩ : Wide) ≠ ⟨0, 0⟩ := by decide
      simp only [e]
      by_cases e1 : a = ⟨0, 0⟩ <;> by_cases e2 : b = ⟨0, 0⟩ <;> by_cases e3 : c = ⟨0, 0⟩ <;> simp [e1, e2, e3]
    · by_cases h5 : r = 5
      · subst h5
        rw [okW_toZ ha, okW_toZ hb, okW_toZ hc, ofZ_add, ofZ_add, ofZ_add, ofZ_add, Int.add_assoc]
      · unfold addW
        simp only [if_neg h, if_neg h2, if_neg h5]
def okO (o : Option Wide) : Prop := ∀ w, o = some w → okW w
theorem cmb_comm {r : Int} {a b : Option Wide} (ha : okO a) (hb : okO b) : cmb r a b = cmb r b a := by
  cases a with
  | none => cases b <;> rfl
  | some x => cases b with
    | none => rfl
    | some y => simp only [cmb]; rw [addW_comm (ha x rfl) (hb y rfl)]
theorem cmb_assoc {r : Int} {a b c : Option Wide} (ha : okO a) (hb : okO b) (hc : okO c) : cmb r (cmb r a b) c = cmb r a (cmb r b c) := by
  cases a with
  | none => cases b <;> rfl
  | some x => cases b with
    | none => cases c <;> rfl
    | some y => cases c with
      | none => rfl
      | some z => simp only [cmb]; rw [addW_assoc (ha x rfl) (hb y rfl) (hc z rfl)]
theorem rowW_succ (r : Int) (n : Nat) (A B : Int → Option Int) : rowW r (n + 1) A B = stepW r A B (rowW r n A B) n := by
  unfold rowW; rw [List.range_succ, List.foldl_append]; rfl
theorem rowW_add (r : Int) (k : Nat) (A B : Int → Option Int) : ∀ m : Nat, rowW r (k + m) A B = cmb r (rowW r k A B) (rowW r m (fun j => A (j + k)) (fun j => B (j + k)))
  | 0 => by rw [Nat.add_zero, show rowW r 0 (fun j => A (j + k)) (fun j => B (j + k)) = none from rfl, cmb_none]
  | m + 1 => by
    rw [← Nat.add_assoc, rowW_succ, rowW_succ, rowW_add r k A B m]
    have ho := rowW_okW r m (fun j => A (j + k)) (fun j => B (j + k))
    generalize rowW r m (fun j => A (j + k)) (fun j => B (j + k)) = o at ho ⊢
    unfold stepW
    rw [show (((k + m : Nat) : Int)) = (m : Int) + k by omega]
    simp only
    cases hA : A ((m : Int) + k) with
    | none => rfl
    | some a => cases hB : B ((m : Int) + k) with
      | none => rfl
      | some x =>
        have hm : okO (some (mulW r a x)) := fun w hw => by
          have := Option.some.inj hw
          subst this; exact mulW_okW _ _ _
        exact cmb_assoc (rowW_okW r k A B) ho hm
theorem rowW_congr {r : Int} {n : Nat} {A A' B B' : Int → Option Int} (hA : ∀ j : Nat, j < n → A j = A' j) (hB : ∀ j : Nat, j < n → B j = B' j) : rowW r n A B = rowW r n A' B' := by
  unfold rowW
  refine foldl_same fun acc k hk => ?_
  have hk := List.mem_range.1 hk
  unfold stepW
  rw [hA k hk, hB k hk]
/-! ### Parts -/
theorem lkI_iff {l : List Item} (h : IncI l) {i a : Int} : lkI l i = some a ↔ (⟨i, a⟩ : Item) ∈ l := ⟨lkI_mem, fun hm => mem_lkI h hm⟩
theorem opt_ext {x y : Option Int} (h : ∀ a, x = some a ↔ y = some a) : x = y := by
  cases x with
  | none => cases y with
    | none => rfl
    | some b => have := (h b).2 rfl; cases this
  | some a => exact ((h a).1 rfl).symm
end Go.Proofs.YtjabmpfcpekpdaaGreat

/- A matrix times a matrix, at the places of a third: what each place comes to. -/
namespace Go.Proofs.YtjabmpfcpekpdaaGreat
open Go Go.Fw
set_option linter.unusedVariables false
set_option linter.unusedSimpArgs false
def bAt (B : List Triple) (c : Int) (k : Int) : Option Int := lkI (rowI B k) c
def cellW (r : Int) (A B : List Triple) (i c : Int) : Option Wide := (rowI A i).foldl (stepI r (bAt B c)) none
def cellO (r : Int) (A B : List Triple) (t : Triple) : Option Cell := (cellW r A B t.Row t.Col).map fun w => ⟨t.Row, t.Col, w⟩
def cellsS (r : Int) (A B M : List Triple) : List Cell := M.filterMap (cellO r A B)
/-! ### The parts of the program -/
theorem gemm_part_ok {rows cols : Int} {ts : List Triple} {i : Nat} {Q : List Int × List Int → Prop} (h : Canon rows cols ts) (hi : (i : Int) < rows) (hQ : Q ((segS ts i).map (·.Col), (segS ts i).map (·.Val))) : gemm_part (builtS rows cols ts) i Q := by
  unfold gemm_part
  have hr := h.r1
  obtain ⟨lo, hi', s⟩ := h.seg i
  have e1 : w64 ((i : Int) + 1) = (i + 1 : Nat) := by rw [w64_id (by omega) (by omega)]; omega
  rw [e1]
  refine start_idx (by omega) (start_idx (by omega) ?_)
  rw [s.lo, s.hi]
  have h1 := s.le; have h2 := s.len
  have hc : (builtS rows cols ts).Col.length = ts.length := by simp [builtS]
  have hv : (builtS rows cols ts).Val.length = ts.length := by simp [builtS]
  refine ⟨by omega, by omega, by omega, by omega, by omega, by omega, ?_⟩
  simp only [Int.toNat_natCast, builtS, ← List.map_take, ← List.map_drop, s.eq]
  exact hQ
theorem gemm_sure_ok {l : List Rows} {Q : List Rows → Prop} (hl : l.length ≤ 100) (h : ∀ a ∈ l, small a ∧ RightP a) (hQ : Q l) : gemm_sure l Q := by
  unfold gemm_sure
  refine range_intro (fun (s : List Rows) i => (s, i)) 0 l.length (by omega) (fun i s => s = l.take i) (by omega) rfl (fun i s next _ hi hm hn => ?_) (fun s next hm => ?_)
  · subst hm
    have hx := h _ (List.getElem_mem hi)
    refine ifP_dec (fun _ => idxP_nat hi (right_ok hx.1 ?_)) (fun h => by omega)
    rw [decide_eq_true hx.2]
    refine ifP_neg rfl (appP_intro (by simp; omega) (hn _ ?_))
    rw [List.take_succ_eq_append_getElem hi]
  · subst hm
    rw [List.take_length]
    exact ifP_dec (fun h => by omega) (fun _ => hQ)
theorem seg_inc {ts : List Triple} (h : Srt ts) (i : Nat) : IncI ((segS ts i).map itS) := by
  unfold IncI segS
  rw [List.pairwise_map]
  refine List.Pairwise.imp_of_mem ?_ (List.Pairwise.filter _ h)
  intro a b ha hb hab
  have h1 := of_decide_eq_true (List.mem_filter.1 ha).2
  have h2 := of_decide_eq_true (List.mem_filter.1 hb).2
  unfold ltK key at hab
  simp only [itS]
  simp only at hab
  omega
/-- Sums by columns as a map: of those that are asked. -/
def MapOk (m : List (Int × Wide)) (asked : Int → Bool) (f : Int → Option Wide) : Prop := (∀ c, asked c = true → mget c m = f c) ∧ ∀ c w, mget c m = some w → okW w
theorem lkP_of {l : List (Int × Bool)} {k : Int} {C : Bool → Prop} (h : C ((mget k l).getD false)) : lkP l k false C := lkP_intro h
theorem gemm_row_ok {r ra ca rb cb : Int} {A B : List Triple} {asked : List (Int × Bool)} {i : Nat} {Q : List (Int × Wide) → Prop} (hA : Canon ra ca A) (hB : Canon rb cb B) (hab : ca ≤ rb) (hi : (i : Int) < ra) (hr : 1 ≤ r ∧ r ≤ 5) (hvA : ∀ t ∈ A, inI t.Val) (hvB : ∀ t ∈ B, inI t.Val)
    (hQ : ∀ m, MapOk m (fun c => (mget c asked).getD false) (cellW r A B i) → Q m) : gemm_row_3a1 asked r (builtS ra ca A) (builtS rb cb B) i Q := by
  unfold gemm_row_3a1
  refine gemm_part_ok hA hi ?_
  have hsl := seg_len_le A i
  have hAl := hA.len
  have hBl := hB.len
  have hrow : ∀ t ∈ segS A i, (0 ≤ t.Col ∧ t.Col < ca) ∧ inI t.Val := fun t ht => by
    have hm := (List.mem_filter.1 ht).1
    have := hA.inn t hm
    unfold inT at this
    exact ⟨⟨this.2.2.1, this.2.2.2⟩, hvA t hm⟩
  unfold cellW at hQ
  rw [show rowI A (i : Int) = (segS A i).map itS from rfl] at hQ
  generalize segS A i = xs at hQ hsl hrow
  refine range_intro (fun (s : List (Int × Wide)) k => (s, k)) 0 xs.length (by omega) (fun k m => MapOk m (fun c => (mget c asked).getD false) fun c => ((xs.take k).map itS).foldl (stepI r (bAt B c)) none) (by omega) ⟨fun c _ => rfl, fun c w h => by simp [mget] at h⟩ (fun k m next _ hk hm hn => ?_) (fun m next hm => ?_)
  · dsimp only
    have hx := hrow _ (List.getElem_mem hk)
    refine ifP_dec (fun _ => idxP_intro (by omega) (x := xs[k].Col) (by simp [hk]) ?_) (fun h => by simp at h; omega)
    obtain ⟨c0, hc0⟩ : ∃ c0 : Nat, xs[k].Col = (c0 : Int) := ⟨xs[k].Col.toNat, by omega⟩
    rw [hc0]
    refine gemm_part_ok hB (by omega) ?_
    have hinc := seg_inc hB.srt c0
    have hsl2 := seg_len_le B c0
    have hrow2 : ∀ t ∈ segS B c0, inI t.Val := fun t ht => hvB t (List.mem_filter.1 ht).1
    have hbat : ∀ c, bAt B c xs[k].Col = lkI ((segS B c0).map itS) c := fun c => by unfold bAt rowI; rw [hc0]; rfl
    generalize segS B c0 = ys at hinc hsl2 hrow2 hbat
    -- how it is behind so many of the row's items
    let F : Nat → Int → Option Wide := fun j c => match lkI ((ys.take j).map itS) c with
      | some b => cmb r (((xs.take k).map itS).foldl (stepI r (bAt B c)) none) (some (mulW r xs[k].Val b))
      | none => ((xs.take k).map itS).foldl (stepI r (bAt B c)) none
    have hF0 : F 0 = fun c => ((xs.take k).map itS).foldl (stepI r (bAt B c)) none := rfl
    refine range_intro (fun (s : List (Int × Wide)) j => (s, j)) 0 ys.length (by omega) (fun j m => MapOk m (fun c => (mget c asked).getD false) (F j)) (by omega) (by rw [hF0]; exact hm) (fun j m' nx _ hj hm' hnx => ?_) (fun m' nx hm' => ?_)
    · dsimp only
      have htk : (ys.take (j + 1)).map itS = (ys.take j).map itS ++ [itS ys[j]] := take_map hj
      have hFs : ∀ c, F (j + 1) c = if c = ys[j].Col then F (j + 1) c else F j c := fun c => by
        by_cases e : c = ys[j].Col
        · rw [if_pos e]
        · rw [if_neg e]
          have : lkI ((ys.take (j + 1)).map itS) c = lkI ((ys.take j).map itS) c := by
            rw [htk, lkI_append]
            have h0 : lkI [itS ys[j]] c = none := lkI_none fun s hs => by simp only [List.mem_singleton] at hs; subst hs; exact fun h => e h.symm
            rw [h0]; split <;> simp_all
          show (match lkI ((ys.take (j + 1)).map itS) c with | some b => _ | none => _) = _
          rw [this]
      have hnew : lkI ((ys.take j).map itS) ys[j].Col = none := lkI_none fun s hs => by
        obtain ⟨t, ht, rfl⟩ := List.mem_map.1 hs
        obtain ⟨q, hq, rfl⟩ := List.getElem_of_mem ht
        rw [List.length_take] at hq
        rw [List.getElem_take]
        have hlen : (ys.map itS).length = ys.length := by simp
        have := hinc.at (i := q) (j := j) (by omega) (by omega)
        simp only [List.getElem_map] at this
        intro h
        simp only [itS] at this h
        omega
      have hold : F j ys[j].Col = ((xs.take k).map itS).foldl (stepI r (bAt B ys[j].Col)) none := by
        show (match lkI ((ys.take j).map itS) ys[j].Col with | some b => _ | none => _) = _
        rw [hnew]
      have hhit : F (j + 1) ys[j].Col = cmb r (F j ys[j].Col) (some (mulW r xs[k].Val ys[j].Val)) := by
        rw [hold]
        have : lkI ((ys.take (j + 1)).map itS) ys[j].Col = some ys[j].Val := by rw [htk, lkI_append, hnew]; simp [lkI_cons, itS]
        show (match lkI ((ys.take (j + 1)).map itS) ys[j].Col with | some b => _ | none => _) = _
        rw [this]
      have hy := hrow2 _ (List.getElem_mem hj)
      refine ifP_dec (fun _ => idxP_intro (by omega) (x := ys[j].Col) (by simp [hj]) (lkP_of ?_)) (fun h => by simp at h; omega)
      cases ha : (mget ys[j].Col asked).getD false with
      | false =>
        refine ifP_pos rfl (hnx _ ⟨fun c hc => ?_, hm'.2⟩)
        rw [hFs, if_neg (fun e => by subst e; simp only at hc; rw [ha] at hc; cases hc)]
        exact hm'.1 c hc
      | true =>
        have hcur := hm'.1 ys[j].Col ha
        refine ifP_neg rfl (idxP_intro (by omega) (x := xs[k].Val) (by simp [hk]) (idxP_intro (by omega) (x := ys[j].Val) (by simp [hj]) (ring_Mul_ok hx.2 hy (lk2P_intro (fun w hw => ?_) (fun hw => ?_)))))
        · refine ifP_pos rfl (ring_Add_ok (hm'.2 _ _ hw) (mulW_okW _ _ _) (hnx _ ⟨fun c hc => ?_, fun c u hu => ?_⟩))
          · by_cases e : c = ys[j].Col
            · subst e; rw [mget_mput_same, hhit, ← hcur, hw]; rfl
            · rw [mget_mput_other e, hFs, if_neg e]; exact hm'.1 c hc
          · by_cases e : c = ys[j].Col
            · subst e; rw [mget_mput_same] at hu; cases hu; exact addW_okW (hm'.2 _ _ hw) (mulW_okW _ _ _)
            · rw [mget_mput_other e] at hu; exact hm'.2 c u hu
        · refine ifP_neg rfl (hnx _ ⟨fun c hc => ?_, fun c u hu => ?_⟩)
          · by_cases e : c = ys[j].Col
            · subst e; rw [mget_mput_same, hhit, ← hcur, hw]; rfl
            · rw [mget_mput_other e, hFs, if_neg e]; exact hm'.1 c hc
          · by_cases e : c = ys[j].Col
            · subst e; rw [mget_mput_same] at hu; cases hu; exact mulW_okW _ _ _
            · rw [mget_mput_other e] at hu; exact hm'.2 c u hu
    · dsimp only
      refine ifP_dec (fun h => by simp at h) (fun _ => hn _ ⟨fun c hc => ?_, hm'.2⟩)
      rw [hm'.1 c hc, take_map hk]
      show F ys.length c = List.foldl (stepI r (bAt B c)) none ((xs.take k).map itS ++ [itS xs[k]])
      rw [List.foldl_append]
      show (match lkI ((ys.take ys.length).map itS) c with | some b => _ | none => _) = stepI r (bAt B c) _ (itS xs[k])
      rw [List.take_length, ← hbat c]
      unfold stepI
      simp only [itS]
      split <;> simp_all
  · dsimp only
    rw [List.take_length] at hm
    exact ifP_dec (fun h => by simp at h) (fun _ => hQ m hm)
end Go.Proofs.YtjabmpfcpekpdaaGreat

/- A matrix times a matrix: the program's cells, and the reference's. -/
namespace Go.Proofs.YtjabmpfcpekpdaaGreat
open Go Go.Fw
set_option linter.unusedVariables false
set_option linter.unusedSimpArgs false
def cellsR (r ra ca rb cb rm cm : Int) (A B M : List Triple) : List Cell × Int :=
  if ¬ (1 ≤ r ∧ r ≤ 5) then ([], 8) else if ca ≠ rb ∨ rm ≠ ra ∨ cm ≠ cb then ([], 4) else (cellsS r A B M, 0)
theorem cells_len (r : Int) (A B M : List Triple) : (cellsS r A B M).length ≤ M.length := List.length_filterMap_le _ _
theorem take_seg {T : List Triple} {i lo hi : Nat} (s : Seg T i lo hi) : T.take hi = T.take lo ++ segS T i := by
  have h := List.take_append_drop lo (T.take hi)
  rw [s.eq, List.take_take, Nat.min_eq_left s.le] at h
  exact h.symm
theorem gemm_Cells_ok {r ra ca rb cb rm cm : Int} {A B M : List Triple} {Q : List Cell × Int → Prop} (hA : Canon ra ca A) (hB : Canon rb cb B) (hM : Canon rm cm M) (hvA : ∀ t ∈ A, inI t.Val) (hvB : ∀ t ∈ B, inI t.Val)
    (hQ : Q (cellsR r ra ca rb cb rm cm A B M)) : gemm_Cells r (builtS ra ca A) (builtS rb cb B) (builtS rm cm M) Q := by
  unfold gemm_Cells
  refine gemm_sure_ok (by simp) (fun a ha => ?_) (idxP_intro (by omega) rfl (idxP_intro (by omega) rfl (idxP_intro (by omega) rfl (ring_Is_ok ?_))))
  · simp only [List.mem_cons, List.not_mem_nil, or_false] at ha
    rcases ha with rfl | rfl | rfl
    · exact ⟨hA.sml, hA.right⟩
    · exact ⟨hB.sml, hB.right⟩
    · exact ⟨hM.sml, hM.right⟩
  unfold cellsR at hQ
  refine ifP_not (fun h => ?_) (fun h => ?_)
  · rwa [if_pos (of_decide_eq_false h)] at hQ
  have hr := of_decide_eq_true h
  rw [if_neg (fun h => h hr)] at hQ
  have hbad (hb : ca ≠ rb ∨ rm ≠ ra ∨ cm ≠ cb) : Q ([], 4) := by rwa [if_pos hb] at hQ
  refine ifP_ne (fun h => hbad (.inl h)) (fun h1 => ifP_ne (fun h => hbad (.inr (.inl h))) (fun h2 => ifP_ne (fun h => hbad (.inr (.inr h))) (fun h3 => ?_)))
  have h1 : ca = rb := h1
  have h2 : rm = ra := h2
  have h3 : cm = cb := h3
  rw [if_neg (by omega)] at hQ
  have hrm := hM.r0; have hrm1 := hM.r1; have hMl := hM.len
  obtain ⟨n, hn⟩ : ∃ n : Nat, rm = (n : Int) := ⟨rm.toNat, by omega⟩
  have hR : (builtS rm cm M).Rows = (n : Int) := hn
  rw [hR]
  refine range_intro (fun (s : List Cell) i => (s, i)) 0 n (by omega) (fun i s => s = (M.take (below M i).toNat).filterMap (cellO r A B)) (by omega) (by rw [below_zero (fun t ht => (hM.inn t ht).1)]; rfl) (fun i s next _ hi hm hnx => ?_) (fun s next hm => ?_)
  · subst hm
    dsimp only
    obtain ⟨lo, hi', sg⟩ := hM.seg i
    have hlo := sg.lo; have hhi := sg.hi; have hle := sg.le; have hlen := sg.len
    have htk := take_seg sg
    rw [show (below M i).toNat = lo by omega]
    have hnx' := hnx ((M.take lo).filterMap (cellO r A B) ++ (segS M i).filterMap (cellO r A B)) (by rw [show (below M (i + 1)).toNat = hi' by omega, htk, List.filterMap_append])
    clear hnx
    have hrow : ∀ t ∈ segS M i, t.Row = (i : Int) := fun t ht => of_decide_eq_true (List.mem_filter.1 ht).2
    have hout : ((M.take lo).filterMap (cellO r A B)).length ≤ 65536 := by
      have := List.length_filterMap_le (cellO r A B) (M.take lo)
      rw [List.length_take] at this; omega
    have hsl := seg_len_le M i
    refine ifP_dec (fun _ => gemm_part_ok hM (by omega) ?_) (fun h => by omega)
    generalize (M.take lo).filterMap (cellO r A B) = out at hnx' hout ⊢
    generalize segS M i = xs at hnx' hrow hsl ⊢
    refine range_intro (fun (s : List (Int × Bool)) k => (s, k)) 0 xs.length (by omega) (fun k m => ∀ q (hq : q < xs.length), q < k → mget xs[q].Col m = some true) (by omega) (fun q hq h => by omega) (fun k m nx _ hk hm hnk => ?_) (fun m nx hm => ?_)
    · dsimp only
      refine ifP_dec (fun _ => idxP_intro (by omega) (x := xs[k].Col) (by simp [hk]) (hnk _ fun q hq hqk => ?_)) (fun h => by simp at h; omega)
      by_cases e : xs[q].Col = xs[k].Col
      · rw [e, mget_mput_same]
      · rw [mget_mput_other e]
        refine hm q hq ?_
        by_cases e2 : q = k
        · subst e2; exact absurd rfl e
        · omega
    · dsimp only
      refine ifP_dec (fun h => by simp at h) (fun _ => ?_)
      refine gemm_row_ok hA hB (by omega) (by omega) hr hvA hvB fun sums hsums => ?_
      refine range_intro (fun (s : List Cell) k => (s, k)) 0 xs.length (by omega) (fun k s => s = out ++ (xs.take k).filterMap (cellO r A B)) (by omega) (by simp) (fun k s ny _ hk hm2 hny => ?_) (fun s ny hm2 => ?_)
      · subst hm2
        dsimp only
        have hlk := List.length_filterMap_le (cellO r A B) (xs.take k)
        rw [List.length_take] at hlk
        have hask := hm k hk hk
        have hcur := hsums.1 xs[k].Col (by simp only [hask]; rfl)
        have hcell : cellO r A B xs[k] = (cellW r A B i xs[k].Col).map fun w => ⟨(i : Int), xs[k].Col, w⟩ := by
          unfold cellO; rw [hrow _ (List.getElem_mem hk)]
        have hstep : (xs.take (k + 1)).filterMap (cellO r A B) = (xs.take k).filterMap (cellO r A B) ++ (cellO r A B xs[k]).toList := by
          rw [List.take_succ_eq_append_getElem hk, List.filterMap_append]
          congr 1
        refine ifP_dec (fun _ => idxP_intro (by omega) (x := xs[k].Col) (by simp [hk]) (lk2P_intro (fun w hw => ?_) (fun hw => ?_))) (fun h => by simp at h; omega)
        · refine ifP_pos rfl (appP_intro (by simp; omega) (hny _ ?_))
          rw [hstep, hcell, ← hcur, hw, List.append_assoc]; rfl
        · refine ifP_neg rfl (hny _ ?_)
          rw [hstep, hcell, ← hcur, hw]; simp
      · subst hm2
        dsimp only
        rw [List.take_length]
        exact ifP_dec (fun h => by simp at h) (fun _ => hnx')
  · subst hm
    dsimp only
    refine ifP_dec (fun h => by omega) (fun _ => ?_)
    have := below_all hM
    rw [show rm.toNat = n by omega] at this
    rw [this, Int.toNat_natCast, List.take_length]
    exact hQ
theorem sameCells_ok {xs ys : List Cell} {Q : Bool → Prop} (hl : xs.length ≤ 1000000000000) (he : xs = ys) (hQ : Q true) : ref15_SameCells xs ys Q := by
  subst he
  unfold ref15_SameCells
  refine ifP_ne (fun h => absurd rfl h) (fun _ => ?_)
  refine scan_intro xs.length hl (fun _ => True) trivial (fun i next hi _ hn => ?_) (fun next _ => ?_)
  · exact ifP_dec (fun _ => idxP_nat hi (idxP_nat hi (ifP_neg (by simp) (hn trivial)))) (fun h => by omega)
  · exact ifP_dec (fun h => by omega) (fun _ => hQ)
end Go.Proofs.YtjabmpfcpekpdaaGreat

/- Cells as a matrix, the sum of all values, the statements' matrices; what must be whatever is asked. -/
namespace Go.Proofs.YtjabmpfcpekpdaaGreat
open Go Go.Fw
set_option linter.unusedVariables false
set_option linter.unusedSimpArgs false
/-! ### Cells in order -/
def ltC (a b : Cell) : Prop := ltK (a.Row, a.Col) (b.Row, b.Col)
structure CellP (rows cols : Int) (l : List Cell) : Prop where
  inc : l.Pairwise ltC
  inn : ∀ c ∈ l, (0 ≤ c.Row ∧ c.Row < rows) ∧ (0 ≤ c.Col ∧ c.Col < cols)
  ok : ∀ c ∈ l, okW c.Val
  len : l.length ≤ 65536
theorem cells_P {r ra ca rb cb rm cm : Int} {A B M : List Triple} (hM : Canon rm cm M) : CellP rm cm (cellsS r A B M) := by
  have hmem : ∀ c ∈ cellsS r A B M, ∃ t ∈ M, c.Row = t.Row ∧ c.Col = t.Col ∧ okW c.Val := fun c hc => by
    obtain ⟨t, ht, he⟩ := List.mem_filterMap.1 hc
    unfold cellO at he
    cases hw : cellW r A B t.Row t.Col with
    | none => rw [hw] at he; cases he
    | some w => rw [hw] at he; cases he; exact ⟨t, ht, rfl, rfl, foldI_okW r _ _ none (fun _ h => by cases h) w hw⟩
  refine ⟨?_, fun c hc => ?_, fun c hc => ?_, Nat.le_trans (cells_len r A B M) hM.len⟩
  · refine List.Pairwise.filterMap _ (fun a b hab c hc d hd => ?_) hM.srt
    unfold cellO at hc hd
    cases hw : cellW r A B a.Row a.Col with
    | none => rw [hw] at hc; cases hc
    | some w =>
      cases hu : cellW r A B b.Row b.Col with
      | none => rw [hu] at hd; cases hd
      | some u => rw [hw] at hc; rw [hu] at hd; cases hc; cases hd; exact hab
  · obtain ⟨t, ht, h1, h2, _⟩ := hmem c hc
    have := hM.inn t ht
    unfold inT at this
    omega
  · obtain ⟨t, _, _, _, h⟩ := hmem c hc; exact h
theorem ordC_lt (x y : Cell) : or2 (cmpc x.Row y.Row) (cmpc x.Col y.Col) < 0 ↔ ltC x y := by
  unfold ltC ltK or2 cmpc
  simp only
  split <;> split <;> (try split) <;> omega
theorem gemm_order_ok {x y : Cell} {Q : Int → Prop} (h : Q (or2 (cmpc x.Row y.Row) (cmpc x.Col y.Col))) : gemm_order x y Q := by
  unfold gemm_order
  exact cmp_int_ok (cmp_int_ok (or_ok h))
theorem gemm_rises_ok {l : List Cell} {Q : Bool → Prop} (hl : l.length ≤ 1000000) (h : l.Pairwise ltC) (hQ : Q true) : gemm_rises l Q := by
  unfold gemm_rises
  refine scan_intro l.length (by omega) (fun _ => True) trivial (fun i next hi _ hn => ?_) (fun next _ => ?_)
  · refine ifP_dec (fun _ => ifP_dec (fun hp => ?_) (fun _ => hn trivial)) (fun h => by omega)
    have e : w64 ((i : Int) - 1) = ((i - 1 : Nat) : Int) := by rw [w64_id (by omega) (by omega)]; omega
    rw [e]
    refine idxP_nat (by omega) (idxP_nat hi (gemm_order_ok (ifP_dec (fun h0 => ?_) (fun _ => hn trivial))))
    have h1 := (ordC_lt l[i - 1] l[i]).2 (List.pairwise_iff_getElem.1 h (i - 1) i (by omega) hi (by omega))
    omega
  · exact ifP_dec (fun h => by omega) (fun _ => hQ)
/-! ### Cells as a matrix -/
def nzC (r : Int) (c : Cell) : Option Triple := if (narS c.Val).1 ≠ zS r then some ⟨c.Row, c.Col, (narS c.Val).1⟩ else none
def doneC (r rows cols : Int) (l : List Cell) : Rows × Int := if l.all (fun c => (narS c.Val).2) then ofS r rows cols (l.filterMap (nzC r)) else (zR, 12)
theorem narS_inI (a : Wide) : inI (narS a).1 := by
  unfold narS inI
  split
  · rw [w64_eq]; omega
  · simp
theorem nzC_inI {r : Int} {l : List Cell} : ∀ t ∈ l.filterMap (nzC r), inI t.Val := fun t ht => by
  obtain ⟨c, _, he⟩ := List.mem_filterMap.1 ht
  unfold nzC at he
  split at he
  · cases he; exact narS_inI _
  · cases he
theorem done_step {r : Int} {l : List Cell} {i : Nat} (hi : i < l.length) : (l.take (i + 1)).filterMap (nzC r) = (l.take i).filterMap (nzC r) ++ (nzC r l[i]).toList := by
  rw [List.take_succ_eq_append_getElem hi, List.filterMap_append]
  congr 1
theorem gemm_Done_ok {r rows cols : Int} {l : List Cell} {Q : Rows × Int → Prop} (hr : 1 ≤ r ∧ r ≤ 5) (h0 : (0 ≤ rows ∧ rows ≤ 4096) ∧ (0 ≤ cols ∧ cols ≤ 4096)) (h : CellP rows cols l) (hQ : Q (doneC r rows cols l)) : gemm_Done r rows cols l Q := by
  unfold gemm_Done joinP
  have hl := h.len
  refine ring_Is_ok ?_
  rw [decide_eq_true hr]
  refine ifP_neg rfl ?_
  unfold gemm_within
  refine ifP_dec (fun _ => ifP_not (fun hn => by have := of_decide_eq_false hn; omega) (fun _ => ifP_dec (fun _ => ?_) (fun h => by omega))) (fun h => by omega)
  dsimp only
  rw [show (!decide (cols ≤ 4096)) = false by simp; omega]
  refine ifP_neg rfl ?_
  have hk : gemm_rises l fun r155 => ifP (!r155) (Q (zR, 6)) (ifP (decide (65536 < (l.length : Int))) (Q (zR, 5)) (loopP (fun (s : (List Triple) × Int) (next454 : ((List Triple) × Int) → Prop) => match s with | (s448, s452) => ifP (decide (s452 < (l.length : Int))) (idxP l s452 fun x472 => ring_Narrow r x472.Val fun r486 => ifP (!r486.2) (Q (zR, 12)) (ring_Zero r fun r496 => ifP (r486.1 != r496) (appP 24 s448 ([({ Row := x472.Row, Col := x472.Col, Val := r486.1 } : Triple)]) fun _ => next454 ((s448 ++ ([({ Row := x472.Row, Col := x472.Col, Val := r486.1 } : Triple)])), w64 (s452 + 1))) (next454 (s448, w64 (s452 + 1))))) (csr_Of r rows cols s448 fun r512 => Q (r512.1, r512.2))) (([] : List Triple), 0))) := by
    refine gemm_rises_ok (by omega) h.inc (ifP_neg rfl (ifP_dec (fun h => by omega) (fun _ => ?_)))
    refine range_intro (fun (s : List Triple) i => (s, i)) 0 l.length (by omega) (fun i s => s = (l.take i).filterMap (nzC r) ∧ ∀ q (hq : q < l.length), q < i → (narS l[q].Val).2 = true) (by omega) ⟨rfl, fun q hq h => by omega⟩ (fun i s next _ hi hm hn => ?_) (fun s next hm => ?_)
    · obtain ⟨rfl, hok⟩ := hm
      have hst := done_step (r := r) hi
      have hlk := List.length_filterMap_le (nzC r) (l.take i)
      rw [List.length_take] at hlk
      refine ifP_dec (fun _ => idxP_nat hi (narrow_ok (h.ok _ (List.getElem_mem hi)) ?_)) (fun h => by omega)
      cases hb : (narS l[i].Val).2 with
      | false =>
        refine ifP_pos rfl ?_
        unfold doneC at hQ
        rw [if_neg (fun ha => by have := List.all_eq_true.1 ha l[i] (List.getElem_mem hi); rw [hb] at this; cases this)] at hQ
        exact hQ
      | true =>
        have hok' : ∀ q (hq : q < l.length), q < i + 1 → (narS l[q].Val).2 = true := fun q hq hqi => by
          by_cases e : q = i
          · subst e; exact hb
          · exact hok q hq (by omega)
        refine ifP_neg rfl (ring_Zero_ok (ifP_ne (fun hz => appP_intro (by simp; omega) (hn _ ⟨?_, hok'⟩)) (fun hz => hn _ ⟨?_, hok'⟩)))
        · rw [hst]; unfold nzC; rw [if_pos hz]; rfl
        · rw [hst]; unfold nzC; rw [if_neg (fun h => h hz)]; simp
    · obtain ⟨rfl, hok⟩ := hm
      refine ifP_dec (fun h => by omega) (fun _ => ?_)
      rw [List.take_length]
      have hlk := List.length_filterMap_le (nzC r) l
      unfold doneC at hQ
      rw [if_pos (List.all_eq_true.2 fun c hc => by obtain ⟨q, hq, rfl⟩ := List.getElem_of_mem hc; exact hok q hq hq)] at hQ
      exact Of_ok (by omega) nzC_inI hQ
  unfold slices_ContainsFunc_api_Cell_api_Cell_72c slices_IndexFunc_api_Cell_api_Cell_05b gemm_Done_1_bab gemm_within
  have e1 : w64 (rows - 1) = rows - 1 := w64_id (by omega) (by omega)
  have e2 : w64 (cols - 1) = cols - 1 := w64_id (by omega) (by omega)
  rw [e1, e2]
  refine scan_intro l.length (by omega) (fun _ => True) trivial (fun i next hi _ hn => ?_) (fun next _ => ?_)
  · have hc := h.inn _ (List.getElem_mem hi)
    refine ifP_dec (fun _ => idxP_nat hi (ifP_dec (fun _ => ifP_not (fun hb => by have := of_decide_eq_false hb; omega) (fun _ => ifP_dec (fun _ => ?_) (fun h => by omega))) (fun h => by omega))) (fun h => by omega)
    dsimp only
    rw [show (!decide ((l[i]).Col ≤ cols - 1)) = false by simp; omega]
    exact ifP_neg rfl (hn trivial)
  · exact ifP_dec (fun h => by omega) (fun _ => ifP_neg (by decide) hk)
def timesS (r ra ca rb cb rm cm : Int) (A B M : List Triple) : Rows × Int :=
  if (cellsR r ra ca rb cb rm cm A B M).2 ≠ 0 then (zR, (cellsR r ra ca rb cb rm cm A B M).2) else doneC r ra cb (cellsR r ra ca rb cb rm cm A B M).1
theorem cellsR_zero {r ra ca rb cb rm cm : Int} {A B M : List Triple} (hM : Canon rm cm M) (h : (cellsR r ra ca rb cb rm cm A B M).2 = 0) : (1 ≤ r ∧ r ≤ 5) ∧ CellP ra cb (cellsR r ra ca rb cb rm cm A B M).1 := by
  unfold cellsR at h ⊢
  by_cases h1 : 1 ≤ r ∧ r ≤ 5
  · rw [if_neg (fun h => h h1)] at h ⊢
    by_cases h2 : ca ≠ rb ∨ rm ≠ ra ∨ cm ≠ cb
    · rw [if_pos h2] at h; cases h
    · rw [if_neg h2]
      have e1 : rm = ra := by omega
      have e2 : cm = cb := by omega
      subst e1 e2
      exact ⟨h1, cells_P (ra := rm) (ca := ca) (rb := rb) (cb := cm) hM⟩
  · rw [if_pos h1] at h; cases h
theorem gemm_Times_ok {r ra ca rb cb rm cm : Int} {A B M : List Triple} {Q : Rows × Int → Prop} (hA : Canon ra ca A) (hB : Canon rb cb B) (hM : Canon rm cm M) (hvA : ∀ t ∈ A, inI t.Val) (hvB : ∀ t ∈ B, inI t.Val)
    (hQ : Q (timesS r ra ca rb cb rm cm A B M)) : gemm_Times r (builtS ra ca A) (builtS rb cb B) (builtS rm cm M) Q := by
  unfold gemm_Times
  unfold timesS at hQ
  refine gemm_Cells_ok hA hB hM hvA hvB (ifP_ne (fun h => by rwa [if_pos h] at hQ) (fun h => ?_))
  rw [if_neg (fun h' => h' h)] at hQ
  have hz := cellsR_zero hM h
  refine gemm_sure_ok (by simp) (fun a ha => ?_) (idxP_intro (by omega) rfl (idxP_intro (by omega) rfl (gemm_Done_ok hz.1 ⟨⟨hA.r0, hA.r1⟩, hB.c0, hB.c1⟩ hz.2 hQ)))
  simp only [List.mem_cons, List.not_mem_nil, or_false] at ha
  rcases ha with rfl | rfl
  · exact ⟨hA.sml, hA.right⟩
  · exact ⟨hB.sml, hB.right⟩
/-! ### All values -/
def totS (r : Int) (ts : List Triple) : Int × Int :=
  if ¬ (1 ≤ r ∧ r ≤ 5) then (0, 8) else match ts with
    | [] => (zS r, 0)
    | t :: l => if (narS (l.foldl (fun w u => addW r w (ofI u.Val)) (ofI t.Val))).2 then ((narS (l.foldl (fun w u => addW r w (ofI u.Val)) (ofI t.Val))).1, 0) else (0, 12)
theorem fold_okW {r : Int} : ∀ {l : List Triple} {w : Wide}, (∀ t ∈ l, inI t.Val) → okW w → okW (l.foldl (fun w u => addW r w (ofI u.Val)) w)
  | [], _, _, h => h
  | t :: l, w, hv, h => fold_okW (l := l) (fun u hu => hv u (List.mem_cons_of_mem _ hu)) (addW_okW h (ofI_okW (hv t (by simp))))
theorem gemm_Total_ok {r rows cols : Int} {T : List Triple} {Q : Int × Int → Prop} (hT : Canon rows cols T) (hv : ∀ t ∈ T, inI t.Val) (hQ : Q (totS r T)) : gemm_Total r (builtS rows cols T) Q := by
  unfold gemm_Total
  unfold totS at hQ
  refine ring_Is_ok (ifP_not (fun h => ?_) (fun h => ?_))
  · rwa [if_pos (of_decide_eq_false h)] at hQ
  have hr := of_decide_eq_true h
  rw [if_neg (fun h => h hr)] at hQ
  refine csr_triples_ok hT.sml (sure_built hT) hT ?_
  have hlen := hT.len
  match T, hv, hQ, hlen with
  | [], _, hQ, _ => exact ifP_eq (fun _ => ring_Zero_ok hQ) (fun h => absurd rfl h)
  | t :: l, hv, hQ, hlen =>
    refine ifP_eq (fun h => by simp at h; omega) (fun _ => idxP_intro (by omega) rfl (wide_Of_ok (hv t (by simp)) ⟨by omega, by simp; omega, by omega, ?_⟩))
    have e : (((t :: l).take ((t :: l).length : Int).toNat).drop (Int.toNat 1)) = l := by simp
    simp only [e]
    rw [List.length_cons] at hlen
    refine range_intro (fun (w : Wide) i => (w.Hi, w.Lo, i)) 0 l.length (by omega) (fun i w => w = (l.take i).foldl (fun w u => addW r w (ofI u.Val)) (ofI t.Val)) (by omega) rfl (fun i w next _ hi hm hn => ?_) (fun w next hm => ?_) (s0 := ofI t.Val)
    · dsimp only
      have hok : okW w := by rw [hm]; exact fold_okW (fun u hu => hv u (List.mem_cons_of_mem _ (List.mem_of_mem_take hu))) (ofI_okW (hv t (by simp)))
      have hx := hv _ (List.mem_cons_of_mem _ (List.getElem_mem hi))
      refine ifP_dec (fun _ => idxP_nat hi (wide_Of_ok hx (ring_Add_ok hok (ofI_okW hx) (hn _ ?_)))) (fun h => by omega)
      rw [List.take_succ_eq_append_getElem hi, List.foldl_append, ← hm]; rfl
    · dsimp only
      rw [List.take_length] at hm
      have hok : okW w := by rw [hm]; exact fold_okW (fun u hu => hv u (List.mem_cons_of_mem _ hu)) (ofI_okW (hv t (by simp)))
      refine ifP_dec (fun h => by omega) (fun _ => narrow_ok hok ?_)
      simp only [← hm] at hQ
      cases hb : (narS w).2 with
      | true => rw [hb, if_pos rfl] at hQ; exact ifP_neg rfl hQ
      | false => rw [hb, if_neg (by simp)] at hQ; exact ifP_pos rfl hQ
end Go.Proofs.YtjabmpfcpekpdaaGreat

