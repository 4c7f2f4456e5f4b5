import Derived.Test.YtjabmpfcpekpdaaGreatGemmB
/- Cells as a matrix, the sum of all values, the statements' matrices; what must be whatever is asked. -/
namespace Go.Proofs.YtjabmpfcpekpdaaGreat
open Go Go.Fw
set_option linter.unusedVariables false
set_option linter.unusedSimpArgs false
/-! ### Cells in order -/
def ltC (a b : Cell) : Prop := ltK (a.Row, a.Col) (b.Row, b.Col)
structure CellP (rows cols : Int) (l : List Cell) : Prop where
  inc : l.Pairwise ltC
  inn : ∀ c ∈ l, (0 ≤ c.Row ∧ c.Row < rows) ∧ (0 ≤ c.Col ∧ c.Col < cols)
  ok : ∀ c ∈ l, okW c.Val
  len : l.length ≤ 65536
theorem cells_P {r ra ca rb cb rm cm : Int} {A B M : List Triple} (hM : Canon rm cm M) : CellP rm cm (cellsS r A B M) := by
  have hmem : ∀ c ∈ cellsS r A B M, ∃ t ∈ M, c.Row = t.Row ∧ c.Col = t.Col ∧ okW c.Val := fun c hc => by
    obtain ⟨t, ht, he⟩ := List.mem_filterMap.1 hc
    unfold cellO at he
    cases hw : cellW r A B t.Row t.Col with
    | none => rw [hw] at he; cases he
    | some w => rw [hw] at he; cases he; exact ⟨t, ht, rfl, rfl, foldI_okW r _ _ none (fun _ h => by cases h) w hw⟩
  refine ⟨?_, fun c hc => ?_, fun c hc => ?_, Nat.le_trans (cells_len r A B M) hM.len⟩
  · refine List.Pairwise.filterMap _ (fun a b hab c hc d hd => ?_) hM.srt
    unfold cellO at hc hd
    cases hw : cellW r A B a.Row a.Col with
    | none => rw [hw] at hc; cases hc
    | some w =>
      cases hu : cellW r A B b.Row b.Col with
      | none => rw [hu] at hd; cases hd
      | some u => rw [hw] at hc; rw [hu] at hd; cases hc; cases hd; exact hab
  · obtain ⟨t, ht, h1, h2, _⟩ := hmem c hc
    have := hM.inn t ht
    unfold inT at this
    omega
  · obtain ⟨t, _, _, _, h⟩ := hmem c hc; exact h
theorem ordC_lt (x y : Cell) : or2 (cmpc x.Row y.Row) (cmpc x.Col y.Col) < 0 ↔ ltC x y := by
  unfold ltC ltK or2 cmpc
  simp only
  split <;> split <;> (try split) <;> omega
theorem gemm_order_ok {x y : Cell} {Q : Int → Prop} (h : Q (or2 (cmpc x.Row y.Row) (cmpc x.Col y.Col))) : gemm_order x y Q := by
  unfold gemm_order
  exact cmp_int_ok (cmp_int_ok (or_ok h))
theorem gemm_rises_ok {l : List Cell} {Q : Bool → Prop} (hl : l.length ≤ 1000000) (h : l.Pairwise ltC) (hQ : Q true) : gemm_rises l Q := by
  unfold gemm_rises
  refine scan_intro l.length (by omega) (fun _ => True) trivial (fun i next hi _ hn => ?_) (fun next _ => ?_)
  · refine ifP_dec (fun _ => ifP_dec (fun hp => ?_) (fun _ => hn trivial)) (fun h => by omega)
    have e : w64 ((i : Int) - 1) = ((i - 1 : Nat) : Int) := by rw [w64_id (by omega) (by omega)]; omega
    rw [e]
    refine idxP_nat (by omega) (idxP_nat hi (gemm_order_ok (ifP_dec (fun h0 => ?_) (fun _ => hn trivial))))
    have h1 := (ordC_lt l[i - 1] l[i]).2 (List.pairwise_iff_getElem.1 h (i - 1) i (by omega) hi (by omega))
    omega
  · exact ifP_dec (fun h => by omega) (fun _ => hQ)
theorem ref_rises_ok {l : List Cell} {Q : Bool → Prop} (hl : l.length ≤ 1000000) (h : l.Pairwise ltC) (hQ : Q true) : ref15_rises l Q := by
  unfold ref15_rises
  by_cases h0 : l.length = 0
  · refine ⟨1, ?_⟩
    exact ifP_dec (fun h => by omega) (fun _ => hQ)
  refine range_intro (σ := Unit) (fun _ i => i) 1 l.length (by omega) (fun _ _ => True) (by omega) trivial (fun i s next h1 hi _ hn => ?_) (fun s next _ => ?_) (s0 := ())
  · refine ifP_dec (fun _ => ?_) (fun h => by omega)
    have e : w64 ((i : Int) - 1) = ((i - 1 : Nat) : Int) := by rw [w64_id (by omega) (by omega)]; omega
    rw [e]
    refine idxP_nat (by omega) (idxP_nat hi ?_)
    have h2 : ltC l[i - 1] l[i] := List.pairwise_iff_getElem.1 h (i - 1) i (by omega) hi (by omega)
    unfold ltC ltK at h2
    simp only at h2
    unfold ref15_ahead
    refine ifP_dec (fun _ => ifP_neg rfl (hn () trivial)) (fun h3 => ifP_eq (fun h4 => ifP_not (fun h5 => ?_) (fun _ => hn () trivial)) (fun h4 => ?_))
    · have := of_decide_eq_false h5; omega
    · omega
  · exact ifP_dec (fun h => by omega) (fun _ => hQ)
/-! ### Cells as a matrix -/
def nzC (r : Int) (c : Cell) : Option Triple := if (narS c.Val).1 ≠ zS r then some ⟨c.Row, c.Col, (narS c.Val).1⟩ else none
def doneC (r rows cols : Int) (l : List Cell) : Rows × Int := if l.all (fun c => (narS c.Val).2) then ofS r rows cols (l.filterMap (nzC r)) else (zR, 12)
theorem narS_inI (a : Wide) : inI (narS a).1 := by
  unfold narS inI
  split
  · rw [w64_eq]; omega
  · simp
theorem nzC_inI {r : Int} {l : List Cell} : ∀ t ∈ l.filterMap (nzC r), inI t.Val := fun t ht => by
  obtain ⟨c, _, he⟩ := List.mem_filterMap.1 ht
  unfold nzC at he
  split at he
  · cases he; exact narS_inI _
  · cases he
theorem done_step {r : Int} {l : List Cell} {i : Nat} (hi : i < l.length) : (l.take (i + 1)).filterMap (nzC r) = (l.take i).filterMap (nzC r) ++ (nzC r l[i]).toList := by
  rw [List.take_succ_eq_append_getElem hi, List.filterMap_append]
  congr 1
theorem gemm_Done_ok {r rows cols : Int} {l : List Cell} {Q : Rows × Int → Prop} (hr : 1 ≤ r ∧ r ≤ 5) (h0 : (0 ≤ rows ∧ rows ≤ 4096) ∧ (0 ≤ cols ∧ cols ≤ 4096)) (h : CellP rows cols l) (hQ : Q (doneC r rows cols l)) : gemm_Done r rows cols l Q := by
  unfold gemm_Done joinP
  have hl := h.len
  refine ring_Is_ok ?_
  rw [decide_eq_true hr]
  refine ifP_neg rfl ?_
  unfold gemm_within
  refine ifP_dec (fun _ => ifP_not (fun hn => by have := of_decide_eq_false hn; omega) (fun _ => ifP_dec (fun _ => ?_) (fun h => by omega))) (fun h => by omega)
  dsimp only
  rw [show (!decide (cols ≤ 4096)) = false by simp; omega]
  refine ifP_neg rfl ?_
  have hk : gemm_rises l fun r155 => ifP (!r155) (Q (zR, 6)) (ifP (decide (65536 < (l.length : Int))) (Q (zR, 5)) (loopP (fun (s : (List Triple) × Int) (next454 : ((List Triple) × Int) → Prop) => match s with | (s448, s452) => ifP (decide (s452 < (l.length : Int))) (idxP l s452 fun x472 => ring_Narrow r x472.Val fun r486 => ifP (!r486.2) (Q (zR, 12)) (ring_Zero r fun r496 => ifP (r486.1 != r496) (appP 24 s448 ([({ Row := x472.Row, Col := x472.Col, Val := r486.1 } : Triple)]) fun _ => next454 ((s448 ++ ([({ Row := x472.Row, Col := x472.Col, Val := r486.1 } : Triple)])), w64 (s452 + 1))) (next454 (s448, w64 (s452 + 1))))) (csr_Of r rows cols s448 fun r512 => Q (r512.1, r512.2))) (([] : List Triple), 0))) := by
    refine gemm_rises_ok (by omega) h.inc (ifP_neg rfl (ifP_dec (fun h => by omega) (fun _ => ?_)))
    refine range_intro (fun (s : List Triple) i => (s, i)) 0 l.length (by omega) (fun i s => s = (l.take i).filterMap (nzC r) ∧ ∀ q (hq : q < l.length), q < i → (narS l[q].Val).2 = true) (by omega) ⟨rfl, fun q hq h => by omega⟩ (fun i s next _ hi hm hn => ?_) (fun s next hm => ?_)
    · obtain ⟨rfl, hok⟩ := hm
      have hst := done_step (r := r) hi
      have hlk := List.length_filterMap_le (nzC r) (l.take i)
      rw [List.length_take] at hlk
      refine ifP_dec (fun _ => idxP_nat hi (narrow_ok (h.ok _ (List.getElem_mem hi)) ?_)) (fun h => by omega)
      cases hb : (narS l[i].Val).2 with
      | false =>
        refine ifP_pos rfl ?_
        unfold doneC at hQ
        rw [if_neg (fun ha => by have := List.all_eq_true.1 ha l[i] (List.getElem_mem hi); rw [hb] at this; cases this)] at hQ
        exact hQ
      | true =>
        have hok' : ∀ q (hq : q < l.length), q < i + 1 → (narS l[q].Val).2 = true := fun q hq hqi => by
          by_cases e : q = i
          · subst e; exact hb
          · exact hok q hq (by omega)
        refine ifP_neg rfl (ring_Zero_ok (ifP_ne (fun hz => appP_intro (by simp; omega) (hn _ ⟨?_, hok'⟩)) (fun hz => hn _ ⟨?_, hok'⟩)))
        · rw [hst]; unfold nzC; rw [if_pos hz]; rfl
        · rw [hst]; unfold nzC; rw [if_neg (fun h => h hz)]; simp
    · obtain ⟨rfl, hok⟩ := hm
      refine ifP_dec (fun h => by omega) (fun _ => ?_)
      rw [List.take_length]
      have hlk := List.length_filterMap_le (nzC r) l
      unfold doneC at hQ
      rw [if_pos (List.all_eq_true.2 fun c hc => by obtain ⟨q, hq, rfl⟩ := List.getElem_of_mem hc; exact hok q hq hq)] at hQ
      exact Of_ok (by omega) nzC_inI hQ
  unfold slices_ContainsFunc_api_Cell_api_Cell_72c slices_IndexFunc_api_Cell_api_Cell_05b gemm_Done_1_bab gemm_within
  have e1 : w64 (rows - 1) = rows - 1 := w64_id (by omega) (by omega)
  have e2 : w64 (cols - 1) = cols - 1 := w64_id (by omega) (by omega)
  rw [e1, e2]
  refine scan_intro l.length (by omega) (fun _ => True) trivial (fun i next hi _ hn => ?_) (fun next _ => ?_)
  · have hc := h.inn _ (List.getElem_mem hi)
    refine ifP_dec (fun _ => idxP_nat hi (ifP_dec (fun _ => ifP_not (fun hb => by have := of_decide_eq_false hb; omega) (fun _ => ifP_dec (fun _ => ?_) (fun h => by omega))) (fun h => by omega))) (fun h => by omega)
    dsimp only
    rw [show (!decide ((l[i]).Col ≤ cols - 1)) = false by simp; omega]
    exact ifP_neg rfl (hn trivial)
  · exact ifP_dec (fun h => by omega) (fun _ => ifP_neg (by decide) hk)
theorem ref_Done_ok {r rows cols : Int} {l : List Cell} {Q : Rows × Int → Prop} (hr : 1 ≤ r ∧ r ≤ 5) (h0 : (0 ≤ rows ∧ rows ≤ 4096) ∧ (0 ≤ cols ∧ cols ≤ 4096)) (h : CellP rows cols l) (hQ : Q (doneC r rows cols l)) : ref15_Done r rows cols l Q := by
  unfold ref15_Done
  have hl := h.len
  refine ref02_Is_ok ?_
  rw [decide_eq_true hr]
  refine ifP_neg rfl (ifP_dec (fun h => by omega) (fun _ => ifP_dec (fun h => by omega) (fun _ => ifP_dec (fun h => by omega) (fun _ => ifP_dec (fun h => by omega) (fun _ => ?_)))))
  refine scan_intro l.length (by omega) (fun _ => True) trivial (fun i next hi _ hn => ?_) (fun next _ => ?_)
  · have hc := h.inn _ (List.getElem_mem hi)
    exact ifP_dec (fun _ => idxP_nat hi (ifP_dec (fun h => by omega) (fun _ => idxP_nat hi (ifP_dec (fun h => by omega) (fun _ => idxP_nat hi (ifP_dec (fun h => by omega) (fun _ => idxP_nat hi (ifP_dec (fun h => by omega) (fun _ => hn trivial))))))))) (fun h => by omega)
  refine ifP_dec (fun h => by omega) (fun _ => ref_rises_ok (by omega) h.inc (ifP_neg rfl (ifP_dec (fun h => by omega) (fun _ => ?_))))
  refine range_intro (fun (s : List Triple) i => (s, i)) 0 l.length (by omega) (fun i s => s = (l.take i).filterMap (nzC r) ∧ ∀ q (hq : q < l.length), q < i → (narS l[q].Val).2 = true) (by omega) ⟨rfl, fun q hq h => by omega⟩ (fun i s next _ hi hm hn => ?_) (fun s next hm => ?_)
  · obtain ⟨rfl, hok⟩ := hm
    have hst := done_step (r := r) hi
    have hlk := List.length_filterMap_le (nzC r) (l.take i)
    rw [List.length_take] at hlk
    refine ifP_dec (fun _ => idxP_nat hi (ref01_narrow_ok (h.ok _ (List.getElem_mem hi)) ?_)) (fun h => by omega)
    cases hb : (narS l[i].Val).2 with
    | false =>
      refine ifP_pos rfl ?_
      unfold doneC at hQ
      rw [if_neg (fun ha => by have := List.all_eq_true.1 ha l[i] (List.getElem_mem hi); rw [hb] at this; cases this)] at hQ
      exact hQ
    | true =>
      have hok' : ∀ q (hq : q < l.length), q < i + 1 → (narS l[q].Val).2 = true := fun q hq hqi => by
        by_cases e : q = i
        · subst e; exact hb
        · exact hok q hq (by omega)
      refine ifP_neg rfl (ref02_Zero_ok (ifP_ne (fun hz => idxP_nat hi (idxP_nat hi (appP_intro (by simp; omega) (hn _ ⟨?_, hok'⟩)))) (fun hz => hn _ ⟨?_, hok'⟩)))
      · rw [hst]; unfold nzC; rw [if_pos hz]; rfl
      · rw [hst]; unfold nzC; rw [if_neg (fun h => h hz)]; simp
  · obtain ⟨rfl, hok⟩ := hm
    refine ifP_dec (fun h => by omega) (fun _ => ?_)
    rw [List.take_length]
    have hlk := List.length_filterMap_le (nzC r) l
    unfold doneC at hQ
    rw [if_pos (List.all_eq_true.2 fun c hc => by obtain ⟨q, hq, rfl⟩ := List.getElem_of_mem hc; exact hok q hq hq)] at hQ
    exact ref_Of_ok (by omega) nzC_inI hQ
def timesS (r ra ca rb cb rm cm : Int) (A B M : List Triple) : Rows × Int :=
  if (cellsR r ra ca rb cb rm cm A B M).2 ≠ 0 then (zR, (cellsR r ra ca rb cb rm cm A B M).2) else doneC r ra cb (cellsR r ra ca rb cb rm cm A B M).1
theorem cellsR_zero {r ra ca rb cb rm cm : Int} {A B M : List Triple} (hM : Canon rm cm M) (h : (cellsR r ra ca rb cb rm cm A B M).2 = 0) : (1 ≤ r ∧ r ≤ 5) ∧ CellP ra cb (cellsR r ra ca rb cb rm cm A B M).1 := by
  unfold cellsR at h ⊢
  by_cases h1 : 1 ≤ r ∧ r ≤ 5
  · rw [if_neg (fun h => h h1)] at h ⊢
    by_cases h2 : ca ≠ rb ∨ rm ≠ ra ∨ cm ≠ cb
    · rw [if_pos h2] at h; cases h
    · rw [if_neg h2]
      have e1 : rm = ra := by omega
      have e2 : cm = cb := by omega
      subst e1 e2
      exact ⟨h1, cells_P (ra := rm) (ca := ca) (rb := rb) (cb := cm) hM⟩
  · rw [if_pos h1] at h; cases h
theorem gemm_Times_ok {r ra ca rb cb rm cm : Int} {A B M : List Triple} {Q : Rows × Int → Prop} (hA : Canon ra ca A) (hB : Canon rb cb B) (hM : Canon rm cm M) (hvA : ∀ t ∈ A, inI t.Val) (hvB : ∀ t ∈ B, inI t.Val)
    (hQ : Q (timesS r ra ca rb cb rm cm A B M)) : gemm_Times r (builtS ra ca A) (builtS rb cb B) (builtS rm cm M) Q := by
  unfold gemm_Times
  unfold timesS at hQ
  refine gemm_Cells_ok hA hB hM hvA hvB (ifP_ne (fun h => by rwa [if_pos h] at hQ) (fun h => ?_))
  rw [if_neg (fun h' => h' h)] at hQ
  have hz := cellsR_zero hM h
  refine gemm_sure_ok (by simp) (fun a ha => ?_) (idxP_intro (by omega) rfl (idxP_intro (by omega) rfl (gemm_Done_ok hz.1 ⟨⟨hA.r0, hA.r1⟩, hB.c0, hB.c1⟩ hz.2 hQ)))
  simp only [List.mem_cons, List.not_mem_nil, or_false] at ha
  rcases ha with rfl | rfl
  · exact ⟨hA.sml, hA.right⟩
  · exact ⟨hB.sml, hB.right⟩
theorem ref_Times_ok {r ra ca rb cb rm cm : Int} {A B M : List Triple} {Q : Rows × Int → Prop} (hA : Canon ra ca A) (hB : Canon rb cb B) (hM : Canon rm cm M) (hvA : ∀ t ∈ A, inI t.Val) (hvB : ∀ t ∈ B, inI t.Val)
    (hQ : Q (timesS r ra ca rb cb rm cm A B M)) : ref15_Times r (builtS ra ca A) (builtS rb cb B) (builtS rm cm M) Q := by
  unfold ref15_Times
  unfold timesS at hQ
  refine ref_Cells_ok hA hB hM hvA hvB (ifP_ne (fun h => by rwa [if_pos h] at hQ) (fun h => ?_))
  rw [if_neg (fun h' => h' h)] at hQ
  have hz := cellsR_zero hM h
  refine ref_sure_ok hA.sml ?_
  rw [sure_built hA]
  refine ref_sure_ok hB.sml ?_
  rw [sure_built hB]
  exact ref_Done_ok hz.1 ⟨⟨hA.r0, hA.r1⟩, hB.c0, hB.c1⟩ hz.2 hQ
/-! ### All values -/
def totS (r : Int) (ts : List Triple) : Int × Int :=
  if ¬ (1 ≤ r ∧ r ≤ 5) then (0, 8) else match ts with
    | [] => (zS r, 0)
    | t :: l => if (narS (l.foldl (fun w u => addW r w (ofI u.Val)) (ofI t.Val))).2 then ((narS (l.foldl (fun w u => addW r w (ofI u.Val)) (ofI t.Val))).1, 0) else (0, 12)
theorem fold_okW {r : Int} : ∀ {l : List Triple} {w : Wide}, (∀ t ∈ l, inI t.Val) → okW w → okW (l.foldl (fun w u => addW r w (ofI u.Val)) w)
  | [], _, _, h => h
  | t :: l, w, hv, h => fold_okW (l := l) (fun u hu => hv u (List.mem_cons_of_mem _ hu)) (addW_okW h (ofI_okW (hv t (by simp))))
theorem gemm_Total_ok {r rows cols : Int} {T : List Triple} {Q : Int × Int → Prop} (hT : Canon rows cols T) (hv : ∀ t ∈ T, inI t.Val) (hQ : Q (totS r T)) : gemm_Total r (builtS rows cols T) Q := by
  unfold gemm_Total
  unfold totS at hQ
  refine ring_Is_ok (ifP_not (fun h => ?_) (fun h => ?_))
  · rwa [if_pos (of_decide_eq_false h)] at hQ
  have hr := of_decide_eq_true h
  rw [if_neg (fun h => h hr)] at hQ
  refine csr_triples_ok hT.sml (sure_built hT) hT ?_
  have hlen := hT.len
  match T, hv, hQ, hlen with
  | [], _, hQ, _ => exact ifP_eq (fun _ => ring_Zero_ok hQ) (fun h => absurd rfl h)
  | t :: l, hv, hQ, hlen =>
    refine ifP_eq (fun h => by simp at h; omega) (fun _ => idxP_intro (by omega) rfl (wide_Of_ok (hv t (by simp)) ⟨by omega, by simp; omega, by omega, ?_⟩))
    have e : (((t :: l).take ((t :: l).length : Int).toNat).drop (Int.toNat 1)) = l := by simp
    simp only [e]
    rw [List.length_cons] at hlen
    refine range_intro (fun (w : Wide) i => (w.Hi, w.Lo, i)) 0 l.length (by omega) (fun i w => w = (l.take i).foldl (fun w u => addW r w (ofI u.Val)) (ofI t.Val)) (by omega) rfl (fun i w next _ hi hm hn => ?_) (fun w next hm => ?_) (s0 := ofI t.Val)
    · dsimp only
      have hok : okW w := by rw [hm]; exact fold_okW (fun u hu => hv u (List.mem_cons_of_mem _ (List.mem_of_mem_take hu))) (ofI_okW (hv t (by simp)))
      have hx := hv _ (List.mem_cons_of_mem _ (List.getElem_mem hi))
      refine ifP_dec (fun _ => idxP_nat hi (wide_Of_ok hx (ring_Add_ok hok (ofI_okW hx) (hn _ ?_)))) (fun h => by omega)
      rw [List.take_succ_eq_append_getElem hi, List.foldl_append, ← hm]; rfl
    · dsimp only
      rw [List.take_length] at hm
      have hok : okW w := by rw [hm]; exact fold_okW (fun u hu => hv u (List.mem_cons_of_mem _ hu)) (ofI_okW (hv t (by simp)))
      refine ifP_dec (fun h => by omega) (fun _ => narrow_ok hok ?_)
      simp only [← hm] at hQ
      cases hb : (narS w).2 with
      | true => rw [hb, if_pos rfl] at hQ; exact ifP_neg rfl hQ
      | false => rw [hb, if_neg (by simp)] at hQ; exact ifP_pos rfl hQ
theorem ref_Total_ok {r rows cols : Int} {T : List Triple} {Q : Int × Int → Prop} (hT : Canon rows cols T) (hv : ∀ t ∈ T, inI t.Val) (hQ : Q (totS r T)) : ref15_Total r (builtS rows cols T) Q := by
  unfold ref15_Total
  unfold totS at hQ
  refine ref_triples_ok hT.sml (sure_built hT) hT (ref02_Is_ok (ifP_not (fun h => ?_) (fun h => ?_)))
  · rwa [if_pos (of_decide_eq_false h)] at hQ
  have hr := of_decide_eq_true h
  rw [if_neg (fun h => h hr)] at hQ
  have hz : inI (zS r) := by unfold zS inI; split <;> omega
  refine ref02_Zero_ok (ref01_Of_ok hz ?_)
  have hlen := hT.len
  match T, hv, hQ, hlen with
  | [], _, hQ, _ =>
    refine ⟨1, ?_⟩
    refine ifP_dec (fun h => by simp at h) (fun _ => ref01_narrow_ok (ofI_okW hz) ?_)
    have : narS (ofI (zS r)) = (zS r, true) := by
      unfold zS
      split
      · decide
      · decide
    rw [show (⟨(ofI (zS r)).Hi, (ofI (zS r)).Lo⟩ : Wide) = ofI (zS r) from rfl, this]
    exact ifP_neg rfl hQ
  | t :: l, hv, hQ, hlen =>
    rw [List.length_cons] at hlen
    refine range_intro (fun (w : Wide) i => (w.Hi, w.Lo, i)) 0 (l.length + 1) (by omega) (fun i w => i ≠ 0 → w = (l.take (i - 1)).foldl (fun w u => addW r w (ofI u.Val)) (ofI t.Val)) (by omega) (fun h => absurd rfl h) (fun i w next _ hi hm hn => ?_) (fun w next hm => ?_) (s0 := ofI (zS r))
    · dsimp only
      refine ifP_dec (fun _ => ?_) (fun h => by simp at h; omega)
      have hi' : i < (t :: l).length := by simpa using hi
      have hx := hv _ (List.getElem_mem hi')
      refine idxP_nat hi' (ref01_Of_ok hx (ifP_eq (fun h0 => hn _ (fun _ => ?_)) (fun h0 => ?_)))
      · have : i = 0 := by omega
        subst this; rfl
      · have hi0 : i ≠ 0 := by omega
        have hw := hm hi0
        have hok : okW w := by rw [hw]; exact fold_okW (fun u hu => hv u (List.mem_cons_of_mem _ (List.mem_of_mem_take hu))) (ofI_okW (hv t (by simp)))
        refine ref02_Add_ok hok (ofI_okW hx) (hn _ fun _ => ?_)
        obtain ⟨j, rfl⟩ : ∃ j, i = j + 1 := ⟨i - 1, by omega⟩
        have hj : j < l.length := by omega
        rw [Nat.add_sub_cancel, List.take_succ_eq_append_getElem hj, List.foldl_append, hw]
        rfl
    · dsimp only
      have hw := hm (by omega)
      rw [Nat.add_sub_cancel, List.take_length] at hw
      have hok : okW w := by rw [hw]; exact fold_okW (fun u hu => hv u (List.mem_cons_of_mem _ hu)) (ofI_okW (hv t (by simp)))
      refine ifP_dec (fun h => by simp at h) (fun _ => ref01_narrow_ok hok ?_)
      simp only [← hw] at hQ
      cases hb : (narS w).2 with
      | true => rw [hb, if_pos rfl] at hQ; exact ifP_neg rfl hQ
      | false => rw [hb, if_neg (by simp)] at hQ; exact ifP_pos rfl hQ
end Go.Proofs.YtjabmpfcpekpdaaGreat

/- The statements' three matrices, what must be whatever is asked, and GemmTells. -/
namespace Go.Proofs.YtjabmpfcpekpdaaGreat
open Go Go.Fw
set_option linter.unusedVariables false
set_option linter.unusedSimpArgs false
theorem small_ok {x : Int} {Q : Int → Prop} (h : inR .u8 x) (hQ : ∀ n : Int, 0 ≤ n → n ≤ 13 → Q n) : law15_small x Q := by
  unfold law15_small
  have hb := bounds_u8 h
  refine hQ _ ?_ ?_
  · rw [Int.tmod_eq_emod_of_nonneg (by omega)]; omega
  · rw [Int.tmod_eq_emod_of_nonneg (by omega)]; omega
theorem sizeS_id {n : Int} (h0 : 0 ≤ n) (h1 : n ≤ 13) : sizeS n = n := by unfold sizeS; omega
theorem three_ok {a : Law15_Task} {Q : Rows × Rows × Rows → Prop} (hs : inR .u8 a.Size.1 ∧ inR .u8 a.Size.2.1 ∧ inR .u8 a.Size.2.2) (h1 : ∀ t ∈ a.A, okTriple t) (h2 : ∀ t ∈ a.B, okTriple t) (h3 : ∀ t ∈ a.M, okTriple t)
    (hQ : ∀ n k m A B M, (0 ≤ n ∧ n ≤ 13) → (0 ≤ k ∧ k ≤ 13) → (0 ≤ m ∧ m ≤ 13) → Canon n k A → Canon k m B → Canon n m M → (∀ t ∈ A, inI t.Val) → (∀ t ∈ B, inI t.Val) → (∀ t ∈ M, inI t.Val) → Q (builtS n k A, builtS k m B, builtS n m M)) : law15_Task_Three a Q := by
  unfold law15_Task_Three
  refine small_ok hs.1 fun n n0 n1 => small_ok hs.2.1 fun k k0 k1 => small_ok hs.2.2 fun m m0 m1 => ?_
  refine task_mat2 ⟨inR_small n0 (Int.le_trans n1 (by decide)), inR_small k0 (Int.le_trans k1 (by decide))⟩ h1 fun A hA vA => task_mat2 ⟨inR_small k0 (Int.le_trans k1 (by decide)), inR_small m0 (Int.le_trans m1 (by decide))⟩ h2 fun B hB vB => task_mat2 ⟨inR_small n0 (Int.le_trans n1 (by decide)), inR_small m0 (Int.le_trans m1 (by decide))⟩ h3 fun M hM vM => ?_
  simp only [sizeS_id n0 n1, sizeS_id k0 k1, sizeS_id m0 m1] at hA hB hM ⊢
  exact hQ n k m A B M ⟨n0, n1⟩ ⟨k0, k1⟩ ⟨m0, m1⟩ hA hB hM vA vB vM
/-! ### live -/
def T15 : List Triple := [⟨1, 0, 1⟩, ⟨2, 0, 1⟩, ⟨2, 1, 1⟩]
def R15 : List Triple := [⟨2, 0, 1⟩]
def C15 : Cell := ⟨2, 0, ⟨0, 1⟩⟩
def D15 : Cell := ⟨2, 0, ⟨0, 2⟩⟩
theorem T15_canon : Canon 3 3 T15 := ⟨by decide, by decide, by decide, by decide, by decide, by unfold Srt; decide, by decide⟩
theorem R15_canon : Canon 3 3 R15 := ⟨by decide, by decide, by decide, by decide, by decide, by unfold Srt; decide, by decide⟩
theorem concatC_ok {Q : List Cell → Prop} (hQ : Q [C15, C15]) : slices_Concat_api_Cell_api_Cell [[C15], [C15]] Q := by
  unfold slices_Concat_api_Cell_api_Cell slices_Grow_api_Cell_api_Cell
  refine ⟨3, ifP_pos (by decide) (idxP_intro (by decide) rfl (ifP_neg (by decide) (ifP_pos (by decide) (idxP_intro (by decide) rfl (ifP_neg (by decide) (ifP_neg (by decide) ?_))))))⟩
  have hk : loopP (fun (s : (List Cell) × Int) (next271 : ((List Cell) × Int) → Prop) => match s with | (s266, s270) => ifP (decide (s270 < ((([[C15], [C15]] : List (List Cell)).length : Nat) : Int))) (idxP [[C15], [C15]] s270 fun x278 => appP 32 s266 x278 fun _ => next271 ((s266 ++ x278), w64 (s270 + 1))) (Q s266)) ([], 0) :=
    ⟨3, ifP_pos (by decide) (idxP_intro (by decide) rfl (appP_intro (by decide) (ifP_pos (by decide) (idxP_intro (by decide) rfl (appP_intro (by decide) (ifP_neg (by decide) hQ))))))⟩
  exact ifP_neg (by decide) (ifP_pos (by decide) ⟨by decide, by decide, hk⟩)
theorem sortC_ok {Q : List Cell → Prop} (hQ : Q [C15, C15]) : slices_SortStableFunc_api_Cell_api_Cell_aeb [C15, C15] Q := by
  unfold slices_SortStableFunc_api_Cell_api_Cell_aeb slices_stableCmpFunc_api_Cell_3cf slices_insertionSortCmpFunc_api_Cell_116 gemm_order_1ec
  refine ⟨1, ifP_neg (by decide) ⟨2, ifP_pos (by decide) ⟨1, ifP_pos (by decide) (idxP_intro (by decide) rfl (idxP_intro (by decide) rfl (cmp_int_ok (cmp_int_ok (or_ok (ifP_neg (by decide) (ifP_neg (by decide) ?_)))))))⟩⟩⟩
  exact ⟨1, ifP_neg (by decide) hQ⟩
theorem mergeC_ok {Q : List Cell × Int → Prop} (hQ : Q ([D15], 0)) : gemm_Merge 5 [[C15], [C15]] Q := by
  unfold gemm_Merge joinP
  refine ring_Is_ok (ifP_neg (by decide) ?_)
  unfold slices_ContainsFunc_api_Cell_api_Cell_85a slices_IndexFunc_api_Cell_api_Cell_95a gemm_Merge_1_823
  have hr : ([C15] : List Cell).Pairwise ltC := by simp
  refine ⟨3, ifP_pos (by decide) (idxP_intro (by decide) rfl (gemm_rises_ok (by decide) hr (ifP_neg (by decide) (ifP_pos (by decide) (idxP_intro (by decide) rfl (gemm_rises_ok (by decide) hr (ifP_neg (by decide) (ifP_neg (by decide) (ifP_neg (by decide) ?_)))))))))⟩
  refine concatC_ok (sortC_ok ⟨3, ifP_pos (by decide) (idxP_intro (by decide) rfl (ifP_neg (by decide) (ifP_neg (by decide) (appP_intro (by decide) (ifP_pos (by decide) (idxP_intro (by decide) rfl ?_))))))⟩)
  refine ifP_pos (by decide) (idxP_intro (by decide) rfl (gemm_order_ok (ifP_pos (by decide) (idxP_intro (by decide) rfl (ring_Add_ok (by unfold okW; decide) (by unfold okW; decide) (idxP_intro (by decide) rfl (ifP_neg (by decide) ?_)))))))
  exact hQ
theorem doneC3_ok {Q : Rows × Int → Prop} (hQ : Q (zR, 3)) : gemm_Done 5 1 1 [⟨1, 0, ⟨0, 0⟩⟩] Q := by
  unfold gemm_Done joinP gemm_within slices_ContainsFunc_api_Cell_api_Cell_72c slices_IndexFunc_api_Cell_api_Cell_05b gemm_Done_1_bab gemm_within
  refine ring_Is_ok (ifP_neg (by decide) (ifP_pos (by decide) (ifP_neg (by decide) (ifP_pos (by decide) (ifP_neg (by decide) ?_)))))
  exact ⟨1, ifP_pos (by decide) (idxP_intro (by decide) rfl (ifP_pos (by decide) (ifP_pos (by decide) (ifP_pos (by decide) (ifP_pos (by decide) hQ)))))⟩
theorem live15_ok {Q : Bool → Prop} (hQ : Q true) : law15_live Q := by
  unfold law15_live
  have hT : ∀ t ∈ T15, inI t.Val := by unfold inI; decide
  refine ref_Of_ok (by decide) (by unfold inI; decide) ?_
  rw [show ofS 5 3 3 ([({ Row := 1, Col := 0, Val := 1 } : Triple), ({ Row := 2, Col := 1, Val := 1 } : Triple), ({ Row := 2, Col := 0, Val := 1 } : Triple)]) = (builtS 3 3 T15, 0) by decide +kernel]
  refine gemm_Cells_ok T15_canon T15_canon T15_canon hT hT ?_
  rw [show cellsR 5 3 3 3 3 3 3 T15 T15 T15 = ([C15], 0) by decide +kernel]
  refine gemm_Times_ok T15_canon T15_canon T15_canon hT hT ?_
  rw [show timesS 5 3 3 3 3 3 3 T15 T15 T15 = (builtS 3 3 R15, 0) by decide +kernel]
  refine gemm_Total_ok R15_canon (by unfold inI; decide) ?_
  rw [show totS 5 R15 = (1, 0) by decide +kernel]
  refine mergeC_ok (doneC3_ok ?_)
  exact ifP_pos rfl (ifP_pos rfl (idxP_intro (by decide) rfl (ifP_pos rfl (ifP_pos rfl (ifP_pos rfl (ifP_pos rfl (ifP_pos rfl (ifP_pos rfl (ifP_pos rfl (idxP_intro (by decide) rfl (ifP_pos rfl hQ)))))))))))
/-! ### GemmTells -/
theorem times_small {r ra ca rb cb rm cm : Int} {A B M : List Triple} : small (timesS r ra ca rb cb rm cm A B M).1 := by
  unfold timesS doneC
  split
  · simp [small, zR]
  · split
    · exact of_small nzC_inI
    · simp [small, zR]
theorem cellsR_len {r ra ca rb cb rm cm : Int} {A B M : List Triple} (hM : Canon rm cm M) : (cellsR r ra ca rb cb rm cm A B M).1.length ≤ 65536 := by
  have h1 := cells_len r A B M
  have h2 := hM.len
  unfold cellsR
  split
  · simp
  · split
    · simp
    · dsimp only; omega
theorem GemmTells_ok (a0 : Law15_Task) (h0 : okLaw15_Task a0) : law15_GemmTells a0 (fun r => r = true) := by
  unfold law15_GemmTells
  refine three_ok h0.2.1 h0.2.2.1.1 h0.2.2.2.1.1 h0.2.2.2.2.1 fun n k m A B M hn hk hm hA hB hM vA vB vM => ?_
  dsimp only
  refine gemm_Cells_ok hA hB hM vA vB (ref_Cells_ok hA hB hM vA vB (gemm_Times_ok hA hB hM vA vB (ref_Times_ok hA hB hM vA vB (gemm_Total_ok hA vA (ref_Total_ok hA vA (gemm_Cells_ok hA hM hB vA vM (ref_Cells_ok hA hM hB vA vM (live15_ok (ifP_pos rfl ?_)))))))))
  refine sameCells_ok (by have := cellsR_len (r := a0.Ring) (ra := n) (ca := k) (rb := k) (cb := m) (A := A) (B := B) hM; omega) rfl (ifP_pos rfl (ifP_pos (by simp) ?_))
  refine ref_same_ok times_small (ifP_pos (by simp) (ifP_pos (by simp) (ifP_pos (by simp) (ifP_pos (by simp) (by simp)))))
end Go.Proofs.YtjabmpfcpekpdaaGreat

