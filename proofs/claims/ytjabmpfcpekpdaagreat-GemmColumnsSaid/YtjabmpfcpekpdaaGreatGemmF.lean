import Derived.Test.YtjabmpfcpekpdaaGreatGemmC
/- The statements' three matrices, what must be whatever is asked, and GemmTells. -/
namespace Go.Proofs.YtjabmpfcpekpdaaGreat
open Go Go.Fw
set_option linter.unusedVariables false
set_option linter.unusedSimpArgs false
theorem small_ok {x : Int} {Q : Int → Prop} (h : inR .u8 x) (hQ : ∀ n : Int, 0 ≤ n → n ≤ 13 → Q n) : law15_small x Q := by
  unfold law15_small
  have hb := bounds_u8 h
  refine hQ _ ?_ ?_
  · rw [Int.tmod_eq_emod_of_nonneg (by omega)]; omega
  · rw [Int.tmod_eq_emod_of_nonneg (by omega)]; omega
theorem sizeS_id {n : Int} (h0 : 0 ≤ n) (h1 : n ≤ 13) : sizeS n = n := by unfold sizeS; omega
theorem three_ok {a : Law15_Task} {Q : Rows × Rows × Rows → Prop} (hs : inR .u8 a.Size.1 ∧ inR .u8 a.Size.2.1 ∧ inR .u8 a.Size.2.2) (h1 : ∀ t ∈ a.A, okTriple t) (h2 : ∀ t ∈ a.B, okTriple t) (h3 : ∀ t ∈ a.M, okTriple t)
    (hQ : ∀ n k m A B M, (0 ≤ n ∧ n ≤ 13) → (0 ≤ k ∧ k ≤ 13) → (0 ≤ m ∧ m ≤ 13) → Canon n k A → Canon k m B → Canon n m M → (∀ t ∈ A, inI t.Val) → (∀ t ∈ B, inI t.Val) → (∀ t ∈ M, inI t.Val) → Q (builtS n k A, builtS k m B, builtS n m M)) : law15_Task_Three a Q := by
  unfold law15_Task_Three
  refine small_ok hs.1 fun n n0 n1 => small_ok hs.2.1 fun k k0 k1 => small_ok hs.2.2 fun m m0 m1 => ?_
  refine task_mat2 ⟨inR_small n0 (Int.le_trans n1 (by decide)), inR_small k0 (Int.le_trans k1 (by decide))⟩ h1 fun A hA vA => task_mat2 ⟨inR_small k0 (Int.le_trans k1 (by decide)), inR_small m0 (Int.le_trans m1 (by decide))⟩ h2 fun B hB vB => task_mat2 ⟨inR_small n0 (Int.le_trans n1 (by decide)), inR_small m0 (Int.le_trans m1 (by decide))⟩ h3 fun M hM vM => ?_
  simp only [sizeS_id n0 n1, sizeS_id k0 k1, sizeS_id m0 m1] at hA hB hM ⊢
  exact hQ n k m A B M ⟨n0, n1⟩ ⟨k0, k1⟩ ⟨m0, m1⟩ hA hB hM vA vB vM
/-! ### live -/
def T15 : List Triple := [⟨1, 0, 1⟩, ⟨2, 0, 1⟩, ⟨2, 1, 1⟩]
def R15 : List Triple := [⟨2, 0, 1⟩]
def C15 : Cell := ⟨2, 0, ⟨0, 1⟩⟩
def D15 : Cell := ⟨2, 0, ⟨0, 2⟩⟩
theorem T15_canon : Canon 3 3 T15 := ⟨by decide, by decide, by decide, by decide, by decide, by unfold Srt; decide, by decide⟩
theorem R15_canon : Canon 3 3 R15 := ⟨by decide, by decide, by decide, by decide, by decide, by unfold Srt; decide, by decide⟩
theorem concatC_ok {Q : List Cell → Prop} (hQ : Q [C15, C15]) : slices_Concat_api_Cell_api_Cell [[C15], [C15]] Q := by
  unfold slices_Concat_api_Cell_api_Cell slices_Grow_api_Cell_api_Cell
  refine ⟨3, ifP_pos (by decide) (idxP_intro (by decide) rfl (ifP_neg (by decide) (ifP_pos (by decide) (idxP_intro (by decide) rfl (ifP_neg (by decide) (ifP_neg (by decide) ?_))))))⟩
  have hk : loopP (fun (s : (List Cell) × Int) (next271 : ((List Cell) × Int) → Prop) => match s with | (s266, s270) => ifP (decide (s270 < ((([[C15], [C15]] : List (List Cell)).length : Nat) : Int))) (idxP [[C15], [C15]] s270 fun x278 => appP 32 s266 x278 fun _ => next271 ((s266 ++ x278), w64 (s270 + 1))) (Q s266)) ([], 0) :=
    ⟨3, ifP_pos (by decide) (idxP_intro (by decide) rfl (appP_intro (by decide) (ifP_pos (by decide) (idxP_intro (by decide) rfl (appP_intro (by decide) (ifP_neg (by decide) hQ))))))⟩
  exact ifP_neg (by decide) (ifP_pos (by decide) ⟨by decide, by decide, hk⟩)
theorem sortC_ok {Q : List Cell → Prop} (hQ : Q [C15, C15]) : slices_SortStableFunc_api_Cell_api_Cell_aeb [C15, C15] Q := by
  unfold slices_SortStableFunc_api_Cell_api_Cell_aeb slices_stableCmpFunc_api_Cell_3cf slices_insertionSortCmpFunc_api_Cell_116 gemm_order_1ec
  refine ⟨1, ifP_neg (by decide) ⟨2, ifP_pos (by decide) ⟨1, ifP_pos (by decide) (idxP_intro (by decide) rfl (idxP_intro (by decide) rfl (cmp_int_ok (cmp_int_ok (or_ok (ifP_neg (by decide) (ifP_neg (by decide) ?_)))))))⟩⟩⟩
  exact ⟨1, ifP_neg (by decide) hQ⟩
theorem mergeC_ok {Q : List Cell × Int → Prop} (hQ : Q ([D15], 0)) : gemm_Merge 5 [[C15], [C15]] Q := by
  unfold gemm_Merge joinP
  refine ring_Is_ok (ifP_neg (by decide) ?_)
  unfold slices_ContainsFunc_api_Cell_api_Cell_85a slices_IndexFunc_api_Cell_api_Cell_95a gemm_Merge_1_823
  have hr : ([C15] : List Cell).Pairwise ltC := by simp
  refine ⟨3, ifP_pos (by decide) (idxP_intro (by decide) rfl (gemm_rises_ok (by decide) hr (ifP_neg (by decide) (ifP_pos (by decide) (idxP_intro (by decide) rfl (gemm_rises_ok (by decide) hr (ifP_neg (by decide) (ifP_neg (by decide) (ifP_neg (by decide) ?_)))))))))⟩
  refine concatC_ok (sortC_ok ⟨3, ifP_pos (by decide) (idxP_intro (by decide) rfl (ifP_neg (by decide) (ifP_neg (by decide) (appP_intro (by decide) (ifP_pos (by decide) (idxP_intro (by decide) rfl ?_))))))⟩)
  refine ifP_pos (by decide) (idxP_intro (by decide) rfl (gemm_order_ok (ifP_pos (by decide) (idxP_intro (by decide) rfl (ring_Add_ok (by unfold okW; decide) (by unfold okW; decide) (idxP_intro (by decide) rfl (ifP_neg (by decide) ?_)))))))
  exact hQ
theorem doneC3_ok {Q : Rows × Int → Prop} (hQ : Q (zR, 3)) : gemm_Done 5 1 1 [⟨1, 0, ⟨0, 0⟩⟩] Q := by
  unfold gemm_Done joinP gemm_within slices_ContainsFunc_api_Cell_api_Cell_72c slices_IndexFunc_api_Cell_api_Cell_05b gemm_Done_1_bab gemm_within
  refine ring_Is_ok (ifP_neg (by decide) (ifP_pos (by decide) (ifP_neg (by decide) (ifP_pos (by decide) (ifP_neg (by decide) ?_)))))
  exact ⟨1, ifP_pos (by decide) (idxP_intro (by decide) rfl (ifP_pos (by decide) (ifP_pos (by decide) (ifP_pos (by decide) (ifP_pos (by decide) hQ)))))⟩
theorem live15_ok {Q : Bool → Prop} (hQ : Q true) : law15_live Q := by
  unfold law15_live
  have hT : ∀ t ∈ T15, inI t.Val := by unfold inI; decide
  refine ref_Of_ok (by decide) (by unfold inI; decide) ?_
  rw [show ofS 5 3 3 ([({ Row := 1, Col := 0, Val := 1 } : Triple), ({ Row := 2, Col := 1, Val := 1 } : Triple), ({ Row := 2, Col := 0, Val := 1 } : Triple)]) = (builtS 3 3 T15, 0) by decide +kernel]
  refine gemm_Cells_ok T15_canon T15_canon T15_canon hT hT ?_
  rw [show cellsR 5 3 3 3 3 3 3 T15 T15 T15 = ([C15], 0) by decide +kernel]
  refine gemm_Times_ok T15_canon T15_canon T15_canon hT hT ?_
  rw [show timesS 5 3 3 3 3 3 3 T15 T15 T15 = (builtS 3 3 R15, 0) by decide +kernel]
  refine gemm_Total_ok R15_canon (by unfold inI; decide) ?_
  rw [show totS 5 R15 = (1, 0) by decide +kernel]
  refine mergeC_ok (doneC3_ok ?_)
  exact ifP_pos rfl (ifP_pos rfl (idxP_intro (by decide) rfl (ifP_pos rfl (ifP_pos rfl (ifP_pos rfl (ifP_pos rfl (ifP_pos rfl (ifP_pos rfl (ifP_pos rfl (idxP_intro (by decide) rfl (ifP_pos rfl hQ)))))))))))
/-! ### GemmTells -/
end Go.Proofs.YtjabmpfcpekpdaaGreat

/- GemmTurns: the product turned is that of both turned. -/
namespace Go.Proofs.YtjabmpfcpekpdaaGreat
open Go Go.Fw
set_option linter.unusedVariables false
set_option linter.unusedSimpArgs false
theorem row_look {rows cols : Int} {T : List Triple} (h : Canon rows cols T) {i j a : Int} (hi : 0 ≤ i) : lkI (rowI T i) j = some a ↔ (⟨i, j, a⟩ : Triple) ∈ T := by
  unfold rowI
  rw [lkI_iff (seg_inc h.srt i.toNat), List.mem_map]
  unfold segS
  constructor
  · rintro ⟨t, ht, he⟩
    obtain ⟨h1, h2⟩ := List.mem_filter.1 ht
    have h3 := of_decide_eq_true h2
    unfold itS at he
    obtain ⟨tr, tc, tv⟩ := t
    simp only [Item.mk.injEq] at he h3
    obtain ⟨rfl, rfl⟩ := he
    rw [show i = tr by omega]
    exact h1
  · intro ht
    exact ⟨_, List.mem_filter.2 ⟨ht, by simp; omega⟩, rfl⟩
theorem turn_look {rows cols : Int} {T : List Triple} (h : Canon rows cols T) {i j : Int} (hi : 0 ≤ i) (hj : 0 ≤ j) : lkI (rowI (turnT cols T) j) i = lkI (rowI T i) j :=
  opt_ext fun a => by rw [row_look (turn_canon h) hj, row_look h hi, turn_mem h]; rfl
theorem cell_row {r rows cols : Int} {A B : List Triple} (h : Canon rows cols A) {i : Int} (hi : 0 ≤ i) (c : Int) : cellW r A B i c = rowW r cols.toNat (lkI (rowI A i)) (bAt B c) := by
  unfold cellW
  refine row_fold (seg_inc h.srt _) (fun x hx => ?_)
  obtain ⟨t, ht, rfl⟩ := List.mem_map.1 hx
  have := h.inn t (List.mem_filter.1 ht).1
  unfold inT at this
  unfold itS
  dsimp only
  omega
theorem filterMap_same {α β : Type} {f g : α → Option β} : ∀ {l : List α}, (∀ x ∈ l, f x = g x) → l.filterMap f = l.filterMap g
  | [], _ => rfl
  | x :: l, h => by rw [List.filterMap_cons, List.filterMap_cons, h x (by simp), filterMap_same fun y hy => h y (List.mem_cons_of_mem _ hy)]
end Go.Proofs.YtjabmpfcpekpdaaGreat

/- GemmColumns: a column of what all places come to is the matrix times that column. -/
namespace Go.Proofs.YtjabmpfcpekpdaaGreat
open Go Go.Fw
set_option linter.unusedVariables false
set_option linter.unusedSimpArgs false
def fullR (i m : Nat) : List Triple := (List.range m).map fun j : Nat => (⟨i, j, 1⟩ : Triple)
def fullT (n m : Nat) : List Triple := (List.range n).flatMap fun i : Nat => fullR i m
theorem fullR_succ (i m : Nat) : fullR i (m + 1) = fullR i m ++ [⟨i, m, 1⟩] := by unfold fullR; rw [List.range_succ, List.map_append]; rfl
theorem fullT_succ (n m : Nat) : fullT (n + 1) m = fullT n m ++ fullR n m := by unfold fullT; rw [List.range_succ, List.flatMap_append]; simp
theorem fullT_len (m : Nat) : ∀ n : Nat, (fullT n m).length = n * m
  | 0 => by simp [fullT]
  | n + 1 => by rw [fullT_succ, List.length_append, fullT_len m n, fullR, List.length_map, List.length_range, Nat.succ_mul]
theorem fullT_mem {n m : Nat} {t : Triple} (h : t ∈ fullT n m) : inT n m t ∧ t.Val = 1 := by
  obtain ⟨i, hi, h⟩ := List.mem_flatMap.1 h
  obtain ⟨j, hj, rfl⟩ := List.mem_map.1 h
  rw [List.mem_range] at hi hj
  unfold inT
  refine ⟨⟨?_, ?_, ?_, ?_⟩, rfl⟩ <;> dsimp only <;> omega
theorem fullT_canon {n m : Nat} (hn : n ≤ 13) (hm : m ≤ 13) : Canon n m (fullT n m) where
  r0 := by omega
  r1 := by omega
  c0 := by omega
  c1 := by omega
  len := by
    rw [fullT_len]
    have := Nat.mul_le_mul hn hm
    omega
  srt := by
    unfold Srt fullT
    rw [List.pairwise_flatMap]
    refine ⟨fun i _ => ?_, ?_⟩
    · unfold fullR
      rw [List.pairwise_map]
      refine List.Pairwise.imp (fun {a b} hab => ?_) (List.pairwise_lt_range (n := m))
      unfold ltK key
      dsimp only
      omega
    · refine List.Pairwise.imp (fun {a b} hab x hx y hy => ?_) (List.pairwise_lt_range (n := n))
      obtain ⟨u, hu, rfl⟩ := List.mem_map.1 hx
      obtain ⟨v, hv, rfl⟩ := List.mem_map.1 hy
      unfold ltK key
      dsimp only
      omega
  inn t ht := (fullT_mem ht).1
theorem full_ok {n m : Nat} {Q : Rows → Prop} (hn : n ≤ 13) (hm : m ≤ 13) (hQ : Q (builtS n m (fullT n m))) : law15_full n m Q := by
  unfold law15_full
  have hv : ∀ t ∈ fullT n m, inI t.Val := fun t ht => by rw [(fullT_mem ht).2]; unfold inI; omega
  have hc := fullT_canon hn hm
  refine range_intro (fun (s : List Triple) i => (s, i)) 0 n (by omega) (fun i s => s = fullT i m) (by omega) rfl (fun i s next _ hi hs hx => ?_) (fun s next hs => ?_)
  · subst hs
    refine ifP_dec (fun _ => ?_) (fun h => by omega)
    refine range_intro (fun (s : List Triple) i => (s, i)) 0 m (by omega) (fun j s => s = fullT i m ++ fullR i j) (by omega) (by simp [fullR]) (fun j s nx _ hj hs hy => ?_) (fun s nx hs => ?_)
    · subst hs
      refine ifP_dec (fun _ => appP_intro ?_ (hy _ ?_)) (fun h => by omega)
      · have h1 := Nat.mul_le_mul (show i ≤ 13 by omega) hm
        rw [List.length_append, fullT_len, fullR, List.length_map, List.length_range, List.length_singleton]
        omega
      · rw [fullR_succ, List.append_assoc]
    · subst hs
      refine ifP_dec (fun h => by omega) (fun _ => hx _ ?_)
      rw [fullT_succ]
  · subst hs
    refine ifP_dec (fun h => by omega) (fun _ => ref_Of_ok (by have := hc.len; omega) hv ?_)
    rw [of_self hc hv (by omega)]
    exact hQ
/-! ### One column of all places -/
def atC (c : Int) (x : Cell) : Bool := decide (x.Col = c)
def sumC (x : Cell) : Sum := ⟨x.Row, x.Val⟩
def sumO (r : Int) (A B : List Triple) (c : Int) (i : Nat) : Option Sum := (cellW r A B i c).map fun w => ⟨i, w⟩
theorem fullR_col (r : Int) (A B : List Triple) (i c : Nat) : ∀ m : Nat, (((fullR i m).filterMap (cellO r A B)).filter (atC c)).map sumC = if c < m then (sumO r A B c i).toList else []
  | 0 => by simp [fullR]
  | m + 1 => by
    rw [fullR_succ, List.filterMap_append, List.filter_append, List.map_append, fullR_col r A B i c m]
    unfold sumO cellO
    by_cases h1 : c < m
    · rw [if_pos h1, if_pos (by omega)]
      cases hw : cellW r A B (i : Int) (m : Int) with
      | none => simp [hw]
      | some w => simp [hw, atC]; omega
    · rw [if_neg h1]
      by_cases h2 : c = m
      · subst h2
        rw [if_pos (by omega)]
        cases hw : cellW r A B (i : Int) (c : Int) with
        | none => simp [hw]
        | some w => simp [hw, atC, sumC]
      · rw [if_neg (by omega)]
        cases hw : cellW r A B (i : Int) (m : Int) with
        | none => simp [hw]
        | some w => simp [hw, atC]; omega
theorem fullT_col (r : Int) (A B : List Triple) {c m : Nat} (hc : c < m) : ∀ n : Nat, ((cellsS r A B (fullT n m)).filter (atC c)).map sumC = (List.range n).filterMap (sumO r A B c)
  | 0 => rfl
  | n + 1 => by
    have ih := fullT_col r A B hc n
    unfold cellsS at ih ⊢
    rw [fullT_succ, List.filterMap_append, List.filter_append, List.map_append, ih, fullR_col, if_pos hc, List.range_succ, List.filterMap_append]
    congr 1
theorem col_take {c : Int} {xs : List Cell} {i : Nat} (h : i < xs.length) : ((xs.take (i + 1)).filter (atC c)).map sumC = ((xs.take i).filter (atC c)).map sumC ++ (if xs[i].Col = c then [sumC xs[i]] else []) := by
  rw [List.take_succ_eq_append_getElem h, List.filter_append, List.map_append]
  congr 1
  by_cases e : xs[i].Col = c
  · rw [if_pos e, List.filter_cons, if_pos (by unfold atC; exact decide_eq_true e)]; rfl
  · rw [if_neg e, List.filter_cons, if_neg (by unfold atC; simp [e])]; rfl
theorem col_len (c : Int) (xs : List Cell) : ((xs.filter (atC c)).map sumC).length ≤ xs.length := by rw [List.length_map]; exact List.length_filter_le _ _
theorem GemmColumns_ok (a0 : Law15_Task) (a1 : Int) (h0 : okLaw15_Task a0) (h1 : inR .u8 a1) : law15_GemmColumns a0 a1 (fun r => r = true) := by
  unfold law15_GemmColumns
  have hb1 := bounds_u8 h1
  refine three_ok h0.2.1 h0.2.2.1.1 h0.2.2.2.1.1 h0.2.2.2.2.1 fun n k m A B M hn hk hm hA hB hM vA vB vM => right_is ?_
  have hr := ringS_b a0.Ring
  generalize ringS a0.Ring = r at hr
  dsimp only
  rw [show (builtS k m B).Cols = m from rfl, show (builtS n k A).Rows = n from rfl, show (builtS k m B).Rows = k from rfl]
  refine ifP_eq (fun _ => live15_ok rfl) (fun hm0 => ⟨hm0, ?_⟩)
  obtain ⟨c, hc, e⟩ : ∃ c : Nat, (c : Int) < m ∧ (w64 a1).tmod m = c := by
    rw [w64_id (by omega) (by omega), Int.tmod_eq_emod_of_nonneg (by omega)]
    have g0 := Int.emod_nonneg a1 hm0
    have g1 := Int.emod_lt_of_pos a1 (show 0 < m by omega)
    exact ⟨(a1 % m).toNat, by omega, by omega⟩
  rw [e]
  obtain ⟨n, rfl⟩ : ∃ q : Nat, n = q := ⟨n.toNat, by omega⟩
  obtain ⟨m, rfl⟩ : ∃ q : Nat, m = q := ⟨m.toNat, by omega⟩
  have hF := fullT_canon (n := n) (m := m) (by omega) (by omega)
  refine full_ok (by omega) (by omega) (gemm_Cells_ok hA hB hF vA vB (ref_turn_ok hB.sml (sure_built hB) hB ?_))
  have hT := turn_canon hB
  refine ref_row_ok hT.sml (sure_built hT) hT ?_
  have er : rowS (m : Int) (turnT (m : Int) B) (c : Int) = rowI (turnT (m : Int) B) c := by unfold rowS rowI; rw [if_pos (by omega)]
  rw [er]
  have hseg := seg_len_le (turnT (m : Int) B) (c : Int).toNat
  have hTl := hT.len
  have hx : VecP ⟨k, rowI (turnT (m : Int) B) c⟩ := ⟨hk.1, by dsimp only; omega, seg_inc hT.srt _, fun x hx => by
    obtain ⟨t, ht, rfl⟩ := List.mem_map.1 hx
    have := hT.inn t (List.mem_filter.1 ht).1
    unfold inT at this
    exact this.2.2⟩
  have hxv : ∀ y ∈ (⟨k, rowI (turnT (m : Int) B) c⟩ : Vec).Items, inI y.Val := fun x hx => by
    obtain ⟨t, ht, rfl⟩ := List.mem_map.1 hx
    exact turnT_vals hB vB t (List.mem_filter.1 ht).1
  refine ref10_Of_ok (by unfold rowI; dsimp only; rw [List.length_map]; omega) ?_
  rw [sureV_id hx]
  refine pull_Sums_ok hA vA hx hxv nil_okF ?_
  have e1 : cellsR r n k k m n m A B (fullT n m) = (cellsS r A B (fullT n m), 0) := by unfold cellsR; rw [if_neg (by omega), if_neg (by omega)]
  have e2 : sumsR r n k A ⟨k, rowI (turnT (m : Int) B) c⟩ [] true = ((List.range n).filterMap (sumO r A B c), 0) := by
    unfold sumsR
    rw [if_neg (by omega), if_neg (by simp)]
    unfold sumsS
    rw [Int.toNat_natCast]
    congr 1
    refine filterMap_same fun i _ => ?_
    have ha : askF [] true (i : Int) = true := by unfold askF; rw [hasF_over (by simp)]; rfl
    rw [if_pos ha]
    unfold sumO
    rw [cell_row hA (by omega)]
    congr 1
    refine rowW_congr (fun j _ => rfl) (fun j _ => ?_)
    unfold bAt
    exact turn_look hB (by omega) (by omega)
  rw [e1, e2]
  have hcol := fullT_col r A B (c := c) (m := m) (by omega) n
  have hlen := Nat.le_trans (cells_len r A B (fullT n m)) hF.len
  generalize cellsS r A B (fullT n m) = xs at hcol hlen
  dsimp only
  refine range_intro (fun (s : List Sum) i => (s, i)) 0 xs.length (by omega) (fun i s => s = ((xs.take i).filter (atC c)).map sumC) (by omega) rfl (fun i s next _ hi hs hx => ?_) (fun s next hs => ?_)
  · subst hs
    have hl := col_len (c : Int) (xs.take i)
    rw [List.length_take] at hl
    have et := col_take (c := (c : Int)) hi
    refine ifP_dec (fun _ => idxP_nat hi (ifP_eq (fun h => idxP_nat hi (idxP_nat hi (appP_intro ?_ (hx _ ?_)))) (fun h => hx _ ?_))) (fun h => by omega)
    · dsimp only; rw [List.length_singleton]; omega
    · rw [et, if_pos h]; rfl
    · rw [et, if_neg h, List.append_nil]
  · subst hs
    rw [List.take_length, hcol]
    refine ifP_dec (fun h => by omega) (fun _ => live15_ok (ifP_pos rfl (ifP_pos rfl (ifP_pos rfl (eqSum_ok ?_ ?_)))))
    · dsimp only; rw [← hcol]; have := col_len (c : Int) xs; omega
    · simp
end Go.Proofs.YtjabmpfcpekpdaaGreat

