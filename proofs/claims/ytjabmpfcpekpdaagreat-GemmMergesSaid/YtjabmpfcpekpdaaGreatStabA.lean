import Derived.Test.YtjabmpfcpekpdaaGreatGemmB
/- Cells as a matrix, the sum of all values, the statements' matrices; what must be whatever is asked. -/
namespace Go.Proofs.YtjabmpfcpekpdaaGreat
open Go Go.Fw
set_option linter.unusedVariables false
set_option linter.unusedSimpArgs false
/-! ### Cells in order -/
def ltC (a b : Cell) : Prop := ltK (a.Row, a.Col) (b.Row, b.Col)
structure CellP (rows cols : Int) (l : List Cell) : Prop where
  inc : l.Pairwise ltC
  inn : ∀ c ∈ l, (0 ≤ c.Row ∧ c.Row < rows) ∧ (0 ≤ c.Col ∧ c.Col < cols)
  ok : ∀ c ∈ l, okW c.Val
  len : l.length ≤ 65536
theorem cells_P {r ra ca rb cb rm cm : Int} {A B M : List Triple} (hM : Canon rm cm M) : CellP rm cm (cellsS r A B M) := by
  have hmem : ∀ c ∈ cellsS r A B M, ∃ t ∈ M, c.Row = t.Row ∧ c.Col = t.Col ∧ okW c.Val := fun c hc => by
    obtain ⟨t, ht, he⟩ := List.mem_filterMap.1 hc
    unfold cellO at he
    cases hw : cellW r A B t.Row t.Col with
    | none => rw [hw] at he; cases he
    | some w => rw [hw] at he; cases he; exact ⟨t, ht, rfl, rfl, foldI_okW r _ _ none (fun _ h => by cases h) w hw⟩
  refine ⟨?_, fun c hc => ?_, fun c hc => ?_, Nat.le_trans (cells_len r A B M) hM.len⟩
  · refine List.Pairwise.filterMap _ (fun a b hab c hc d hd => ?_) hM.srt
    unfold cellO at hc hd
    cases hw : cellW r A B a.Row a.Col with
    | none => rw [hw] at hc; cases hc
    | some w =>
      cases hu : cellW r A B b.Row b.Col with
      | none => rw [hu] at hd; cases hd
      | some u => rw [hw] at hc; rw [hu] at hd; cases hc; cases hd; exact hab
  · obtain ⟨t, ht, h1, h2, _⟩ := hmem c hc
    have := hM.inn t ht
    unfold inT at this
    omega
  · obtain ⟨t, _, _, _, h⟩ := hmem c hc; exact h
theorem ordC_lt (x y : Cell) : or2 (cmpc x.Row y.Row) (cmpc x.Col y.Col) < 0 ↔ ltC x y := by
  unfold ltC ltK or2 cmpc
  simp only
  split <;> split <;> (try split) <;> omega
theorem gemm_order_ok {x y : Cell} {Q : Int → Prop} (h : Q (or2 (cmpc x.Row y.Row) (cmpc x.Col y.Col))) : gemm_order x y Q := by
  unfold gemm_order
  exact cmp_int_ok (cmp_int_ok (or_ok h))
theorem gemm_rises_ok {l : List Cell} {Q : Bool → Prop} (hl : l.length ≤ 1000000) (h : l.Pairwise ltC) (hQ : Q true) : gemm_rises l Q := by
  unfold gemm_rises
  refine scan_intro l.length (by omega) (fun _ => True) trivial (fun i next hi _ hn => ?_) (fun next _ => ?_)
  · refine ifP_dec (fun _ => ifP_dec (fun hp => ?_) (fun _ => hn trivial)) (fun h => by omega)
    have e : w64 ((i : Int) - 1) = ((i - 1 : Nat) : Int) := by rw [w64_id (by omega) (by omega)]; omega
    rw [e]
    refine idxP_nat (by omega) (idxP_nat hi (gemm_order_ok (ifP_dec (fun h0 => ?_) (fun _ => hn trivial))))
    have h1 := (ordC_lt l[i - 1] l[i]).2 (List.pairwise_iff_getElem.1 h (i - 1) i (by omega) hi (by omega))
    omega
  · exact ifP_dec (fun h => by omega) (fun _ => hQ)
theorem ref_rises_ok {l : List Cell} {Q : Bool → Prop} (hl : l.length ≤ 1000000) (h : l.Pairwise ltC) (hQ : Q true) : ref15_rises l Q := by
  unfold ref15_rises
  by_cases h0 : l.length = 0
  · refine ⟨1, ?_⟩
    exact ifP_dec (fun h => by omega) (fun _ => hQ)
  refine range_intro (σ := Unit) (fun _ i => i) 1 l.length (by omega) (fun _ _ => True) (by omega) trivial (fun i s next h1 hi _ hn => ?_) (fun s next _ => ?_) (s0 := ())
  · refine ifP_dec (fun _ => ?_) (fun h => by omega)
    have e : w64 ((i : Int) - 1) = ((i - 1 : Nat) : Int) := by rw [w64_id (by omega) (by omega)]; omega
    rw [e]
    refine idxP_nat (by omega) (idxP_nat hi ?_)
    have h2 : ltC l[i - 1] l[i] := List.pairwise_iff_getElem.1 h (i - 1) i (by omega) hi (by omega)
    unfold ltC ltK at h2
    simp only at h2
    unfold ref15_ahead
    refine ifP_dec (fun _ => ifP_neg rfl (hn () trivial)) (fun h3 => ifP_eq (fun h4 => ifP_not (fun h5 => ?_) (fun _ => hn () trivial)) (fun h4 => ?_))
    · have := of_decide_eq_false h5; omega
    · omega
  · exact ifP_dec (fun h => by omega) (fun _ => hQ)
/-! ### Cells as a matrix -/
def nzC (r : Int) (c : Cell) : Option Triple := if (narS c.Val).1 ≠ zS r then some ⟨c.Row, c.Col, (narS c.Val).1⟩ else none
def doneC (r rows cols : Int) (l : List Cell) : Rows × Int := if l.all (fun c => (narS c.Val).2) then ofS r rows cols (l.filterMap (nzC r)) else (zR, 12)
theorem narS_inI (a : Wide) : inI (narS a).1 := by
  unfold narS inI
  split
  · rw [w64_eq]; omega
  · simp
theorem nzC_inI {r : Int} {l : List Cell} : ∀ t ∈ l.filterMap (nzC r), inI t.Val := fun t ht => by
  obtain ⟨c, _, he⟩ := List.mem_filterMap.1 ht
  unfold nzC at he
  split at he
  · cases he; exact narS_inI _
  · cases he
theorem done_step {r : Int} {l : List Cell} {i : Nat} (hi : i < l.length) : (l.take (i + 1)).filterMap (nzC r) = (l.take i).filterMap (nzC r) ++ (nzC r l[i]).toList := by
  rw [List.take_succ_eq_append_getElem hi, List.filterMap_append]
  congr 1
theorem gemm_Done_ok {r rows cols : Int} {l : List Cell} {Q : Rows × Int → Prop} (hr : 1 ≤ r ∧ r ≤ 5) (h0 : (0 ≤ rows ∧ rows ≤ 4096) ∧ (0 ≤ cols ∧ cols ≤ 4096)) (h : CellP rows cols l) (hQ : Q (doneC r rows cols l)) : gemm_Done r rows cols l Q := by
  unfold gemm_Done joinP
  have hl := h.len
  refine ring_Is_ok ?_
  rw [decide_eq_true hr]
  refine ifP_neg rfl ?_
  unfold gemm_within
  refine ifP_dec (fun _ => ifP_not (fun hn => by have := of_decide_eq_false hn; omega) (fun _ => ifP_dec (fun _ => ?_) (fun h => by omega))) (fun h => by omega)
  dsimp only
  rw [show (!decide (cols ≤ 4096)) = false by simp; omega]
  refine ifP_neg rfl ?_
  have hk : gemm_rises l fun r155 => ifP (!r155) (Q (zR, 6)) (ifP (decide (65536 < (l.length : Int))) (Q (zR, 5)) (loopP (fun (s : (List Triple) × Int) (next454 : ((List Triple) × Int) → Prop) => match s with | (s448, s452) => ifP (decide (s452 < (l.length : Int))) (idxP l s452 fun x472 => ring_Narrow r x472.Val fun r486 => ifP (!r486.2) (Q (zR, 12)) (ring_Zero r fun r496 => ifP (r486.1 != r496) (appP 24 s448 ([({ Row := x472.Row, Col := x472.Col, Val := r486.1 } : Triple)]) fun _ => next454 ((s448 ++ ([({ Row := x472.Row, Col := x472.Col, Val := r486.1 } : Triple)])), w64 (s452 + 1))) (next454 (s448, w64 (s452 + 1))))) (csr_Of r rows cols s448 fun r512 => Q (r512.1, r512.2))) (([] : List Triple), 0))) := by
    refine gemm_rises_ok (by omega) h.inc (ifP_neg rfl (ifP_dec (fun h => by omega) (fun _ => ?_)))
    refine range_intro (fun (s : List Triple) i => (s, i)) 0 l.length (by omega) (fun i s => s = (l.take i).filterMap (nzC r) ∧ ∀ q (hq : q < l.length), q < i → (narS l[q].Val).2 = true) (by omega) ⟨rfl, fun q hq h => by omega⟩ (fun i s next _ hi hm hn => ?_) (fun s next hm => ?_)
    · obtain ⟨rfl, hok⟩ := hm
      have hst := done_step (r := r) hi
      have hlk := List.length_filterMap_le (nzC r) (l.take i)
      rw [List.length_take] at hlk
      refine ifP_dec (fun _ => idxP_nat hi (narrow_ok (h.ok _ (List.getElem_mem hi)) ?_)) (fun h => by omega)
      cases hb : (narS l[i].Val).2 with
      | false =>
        refine ifP_pos rfl ?_
        unfold doneC at hQ
        rw [if_neg (fun ha => by have := List.all_eq_true.1 ha l[i] (List.getElem_mem hi); rw [hb] at this; cases this)] at hQ
        exact hQ
      | true =>
        have hok' : ∀ q (hq : q < l.length), q < i + 1 → (narS l[q].Val).2 = true := fun q hq hqi => by
          by_cases e : q = i
          · subst e; exact hb
          · exact hok q hq (by omega)
        refine ifP_neg rfl (ring_Zero_ok (ifP_ne (fun hz => appP_intro (by simp; omega) (hn _ ⟨?_, hok'⟩)) (fun hz => hn _ ⟨?_, hok'⟩)))
        · rw [hst]; unfold nzC; rw [if_pos hz]; rfl
        · rw [hst]; unfold nzC; rw [if_neg (fun h => h hz)]; simp
    · obtain ⟨rfl, hok⟩ := hm
      refine ifP_dec (fun h => by omega) (fun _ => ?_)
      rw [List.take_length]
      have hlk := List.length_filterMap_le (nzC r) l
      unfold doneC at hQ
      rw [if_pos (List.all_eq_true.2 fun c hc => by obtain ⟨q, hq, rfl⟩ := List.getElem_of_mem hc; exact hok q hq hq)] at hQ
      exact Of_ok (by omega) nzC_inI hQ
  unfold slices_ContainsFunc_api_Cell_api_Cell_72c slices_IndexFunc_api_Cell_api_Cell_05b gemm_Done_1_bab gemm_within
  have e1 : w64 (rows - 1) = rows - 1 := w64_id (by omega) (by omega)
  have e2 : w64 (cols - 1) = cols - 1 := w64_id (by omega) (by omega)
  rw [e1, e2]
  refine scan_intro l.length (by omega) (fun _ => True) trivial (fun i next hi _ hn => ?_) (fun next _ => ?_)
  · have hc := h.inn _ (List.getElem_mem hi)
    refine ifP_dec (fun _ => idxP_nat hi (ifP_dec (fun _ => ifP_not (fun hb => by have := of_decide_eq_false hb; omega) (fun _ => ifP_dec (fun _ => ?_) (fun h => by omega))) (fun h => by omega))) (fun h => by omega)
    dsimp only
    rw [show (!decide ((l[i]).Col ≤ cols - 1)) = false by simp; omega]
    exact ifP_neg rfl (hn trivial)
  · exact ifP_dec (fun h => by omega) (fun _ => ifP_neg (by decide) hk)
theorem ref_Done_ok {r rows cols : Int} {l : List Cell} {Q : Rows × Int → Prop} (hr : 1 ≤ r ∧ r ≤ 5) (h0 : (0 ≤ rows ∧ rows ≤ 4096) ∧ (0 ≤ cols ∧ cols ≤ 4096)) (h : CellP rows cols l) (hQ : Q (doneC r rows cols l)) : ref15_Done r rows cols l Q := by
  unfold ref15_Done
  have hl := h.len
  refine ref02_Is_ok ?_
  rw [decide_eq_true hr]
  refine ifP_neg rfl (ifP_dec (fun h => by omega) (fun _ => ifP_dec (fun h => by omega) (fun _ => ifP_dec (fun h => by omega) (fun _ => ifP_dec (fun h => by omega) (fun _ => ?_)))))
  refine scan_intro l.length (by omega) (fun _ => True) trivial (fun i next hi _ hn => ?_) (fun next _ => ?_)
  · have hc := h.inn _ (List.getElem_mem hi)
    exact ifP_dec (fun _ => idxP_nat hi (ifP_dec (fun h => by omega) (fun _ => idxP_nat hi (ifP_dec (fun h => by omega) (fun _ => idxP_nat hi (ifP_dec (fun h => by omega) (fun _ => idxP_nat hi (ifP_dec (fun h => by omega) (fun _ => hn trivial))))))))) (fun h => by omega)
  refine ifP_dec (fun h => by omega) (fun _ => ref_rises_ok (by omega) h.inc (ifP_neg rfl (ifP_dec (fun h => by omega) (fun _ => ?_))))
  refine range_intro (fun (s : List Triple) i => (s, i)) 0 l.length (by omega) (fun i s => s = (l.take i).filterMap (nzC r) ∧ ∀ q (hq : q < l.length), q < i → (narS l[q].Val).2 = true) (by omega) ⟨rfl, fun q hq h => by omega⟩ (fun i s next _ hi hm hn => ?_) (fun s next hm => ?_)
  · obtain ⟨rfl, hok⟩ := hm
    have hst := done_step (r := r) hi
    have hlk := List.length_filterMap_le (nzC r) (l.take i)
    rw [List.length_take] at hlk
    refine ifP_dec (fun _ => idxP_nat hi (ref01_narrow_ok (h.ok _ (List.getElem_mem hi)) ?_)) (fun h => by omega)
    cases hb : (narS l[i].Val).2 with
    | false =>
      refine ifP_pos rfl ?_
      unfold doneC at hQ
      rw [if_neg (fun ha => by have := List.all_eq_true.1 ha l[i] (List.getElem_mem hi); rw [hb] at this; cases this)] at hQ
      exact hQ
    | true =>
      have hok' : ∀ q (hq : q < l.length), q < i + 1 → (narS l[q].Val).2 = true := fun q hq hqi => by
        by_cases e : q = i
        · subst e; exact hb
        · exact hok q hq (by omega)
      refine ifP_neg rfl (ref02_Zero_ok (ifP_ne (fun hz => idxP_nat hi (idxP_nat hi (appP_intro (by simp; omega) (hn _ ⟨?_, hok'⟩)))) (fun hz => hn _ ⟨?_, hok'⟩)))
      · rw [hst]; unfold nzC; rw [if_pos hz]; rfl
      · rw [hst]; unfold nzC; rw [if_neg (fun h => h hz)]; simp
  · obtain ⟨rfl, hok⟩ := hm
    refine ifP_dec (fun h => by omega) (fun _ => ?_)
    rw [List.take_length]
    have hlk := List.length_filterMap_le (nzC r) l
    unfold doneC at hQ
    rw [if_pos (List.all_eq_true.2 fun c hc => by obtain ⟨q, hq, rfl⟩ := List.getElem_of_mem hc; exact hok q hq hq)] at hQ
    exact ref_Of_ok (by omega) nzC_inI hQ
def timesS (r ra ca rb cb rm cm : Int) (A B M : List Triple) : Rows × Int :=
  if (cellsR r ra ca rb cb rm cm A B M).2 ≠ 0 then (zR, (cellsR r ra ca rb cb rm cm A B M).2) else doneC r ra cb (cellsR r ra ca rb cb rm cm A B M).1
theorem cellsR_zero {r ra ca rb cb rm cm : Int} {A B M : List Triple} (hM : Canon rm cm M) (h : (cellsR r ra ca rb cb rm cm A B M).2 = 0) : (1 ≤ r ∧ r ≤ 5) ∧ CellP ra cb (cellsR r ra ca rb cb rm cm A B M).1 := by
  unfold cellsR at h ⊢
  by_cases h1 : 1 ≤ r ∧ r ≤ 5
  · rw [if_neg (fun h => h h1)] at h ⊢
    by_cases h2 : ca ≠ rb ∨ rm ≠ ra ∨ cm ≠ cb
    · rw [if_pos h2] at h; cases h
    · rw [if_neg h2]
      have e1 : rm = ra := by omega
      have e2 : cm = cb := by omega
      subst e1 e2
      exact ⟨h1, cells_P (ra := rm) (ca := ca) (rb := rb) (cb := cm) hM⟩
  · rw [if_pos h1] at h; cases h
theorem gemm_Times_ok {r ra ca rb cb rm cm : Int} {A B M : List Triple} {Q : Rows × Int → Prop} (hA : Canon ra ca A) (hB : Canon rb cb B) (hM : Canon rm cm M) (hvA : ∀ t ∈ A, inI t.Val) (hvB : ∀ t ∈ B, inI t.Val)
    (hQ : Q (timesS r ra ca rb cb rm cm A B M)) : gemm_Times r (builtS ra ca A) (builtS rb cb B) (builtS rm cm M) Q := by
  unfold gemm_Times
  unfold timesS at hQ
  refine gemm_Cells_ok hA hB hM hvA hvB (ifP_ne (fun h => by rwa [if_pos h] at hQ) (fun h => ?_))
  rw [if_neg (fun h' => h' h)] at hQ
  have hz := cellsR_zero hM h
  refine gemm_sure_ok (by simp) (fun a ha => ?_) (idxP_intro (by omega) rfl (idxP_intro (by omega) rfl (gemm_Done_ok hz.1 ⟨⟨hA.r0, hA.r1⟩, hB.c0, hB.c1⟩ hz.2 hQ)))
  simp only [List.mem_cons, List.not_mem_nil, or_false] at ha
  rcases ha with rfl | rfl
  · exact ⟨hA.sml, hA.right⟩
  · exact ⟨hB.sml, hB.right⟩
/-! ### All values -/
def totS (r : Int) (ts : List Triple) : Int × Int :=
  if ¬ (1 ≤ r ∧ r ≤ 5) then (0, 8) else match ts with
    | [] => (zS r, 0)
    | t :: l => if (narS (l.foldl (fun w u => addW r w (ofI u.Val)) (ofI t.Val))).2 then ((narS (l.foldl (fun w u => addW r w (ofI u.Val)) (ofI t.Val))).1, 0) else (0, 12)
theorem fold_okW {r : Int} : ∀ {l : List Triple} {w : Wide}, (∀ t ∈ l, inI t.Val) → okW w → okW (l.foldl (fun w u => addW r w (ofI u.Val)) w)
  | [], _, _, h => h
  | t :: l, w, hv, h => fold_okW (l := l) (fun u hu => hv u (List.mem_cons_of_mem _ hu)) (addW_okW h (ofI_okW (hv t (by simp))))
theorem gemm_Total_ok {r rows cols : Int} {T : List Triple} {Q : Int × Int → Prop} (hT : Canon rows cols T) (hv : ∀ t ∈ T, inI t.Val) (hQ : Q (totS r T)) : gemm_Total r (builtS rows cols T) Q := by
  unfold gemm_Total
  unfold totS at hQ
  refine ring_Is_ok (ifP_not (fun h => ?_) (fun h => ?_))
  · rwa [if_pos (of_decide_eq_false h)] at hQ
  have hr := of_decide_eq_true h
  rw [if_neg (fun h => h hr)] at hQ
  refine csr_triples_ok hT.sml (sure_built hT) hT ?_
  have hlen := hT.len
  match T, hv, hQ, hlen with
  | [], _, hQ, _ => exact ifP_eq (fun _ => ring_Zero_ok hQ) (fun h => absurd rfl h)
  | t :: l, hv, hQ, hlen =>
    refine ifP_eq (fun h => by simp at h; omega) (fun _ => idxP_intro (by omega) rfl (wide_Of_ok (hv t (by simp)) ⟨by omega, by simp; omega, by omega, ?_⟩))
    have e : (((t :: l).take ((t :: l).length : Int).toNat).drop (Int.toNat 1)) = l := by simp
    simp only [e]
    rw [List.length_cons] at hlen
    refine range_intro (fun (w : Wide) i => (w.Hi, w.Lo, i)) 0 l.length (by omega) (fun i w => w = (l.take i).foldl (fun w u => addW r w (ofI u.Val)) (ofI t.Val)) (by omega) rfl (fun i w next _ hi hm hn => ?_) (fun w next hm => ?_) (s0 := ofI t.Val)
    · dsimp only
      have hok : okW w := by rw [hm]; exact fold_okW (fun u hu => hv u (List.mem_cons_of_mem _ (List.mem_of_mem_take hu))) (ofI_okW (hv t (by simp)))
      have hx := hv _ (List.mem_cons_of_mem _ (List.getElem_mem hi))
      refine ifP_dec (fun _ => idxP_nat hi (wide_Of_ok hx (ring_Add_ok hok (ofI_okW hx) (hn _ ?_)))) (fun h => by omega)
      rw [List.take_succ_eq_append_getElem hi, List.foldl_append, ← hm]; rfl
    · dsimp only
      rw [List.take_length] at hm
      have hok : okW w := by rw [hm]; exact fold_okW (fun u hu => hv u (List.mem_cons_of_mem _ hu)) (ofI_okW (hv t (by simp)))
      refine ifP_dec (fun h => by omega) (fun _ => narrow_ok hok ?_)
      simp only [← hm] at hQ
      cases hb : (narS w).2 with
      | true => rw [hb, if_pos rfl] at hQ; exact ifP_neg rfl hQ
      | false => rw [hb, if_neg (by simp)] at hQ; exact ifP_pos rfl hQ
end Go.Proofs.YtjabmpfcpekpdaaGreat

/- A stable sort within the list, by insertion and by merging in place: what comes of it is sorted, and has what there was. -/
namespace Go.Proofs.YtjabmpfcpekpdaaGreat
open Go Go.Fw
set_option linter.unusedVariables false
set_option linter.unusedSimpArgs false
def gC (s : List Cell) (i : Nat) : Cell := s.getD i ⟨0, 0, ⟨0, 0⟩⟩
theorem gC_get {s : List Cell} {i : Nat} (h : i < s.length) : s[i]? = some (gC s i) := by simp [gC, List.getD_eq_getElem?_getD, h]
theorem gC_elem {s : List Cell} {i : Nat} (h : i < s.length) : s[i] = gC s i := by have := gC_get h; rw [List.getElem?_eq_getElem h] at this; exact Option.some.inj this
def swC (s : List Cell) (i k : Nat) : List Cell := (s.set i (gC s k)).set k (gC s i)
theorem swC_len (s : List Cell) (i k : Nat) : (swC s i k).length = s.length := by simp [swC]
theorem swC_get {s : List Cell} {i k : Nat} (hi : i < s.length) (hk : k < s.length) (j : Nat) : gC (swC s i k) j = if j = k then gC s i else if j = i then gC s k else gC s j := by
  unfold swC gC
  simp only [List.getD_eq_getElem?_getD]
  by_cases e1 : j = k
  · subst e1; rw [if_pos rfl, List.getElem?_set_self (by simpa using hk)]; simp
  · rw [if_neg e1, List.getElem?_set_ne (Ne.symm e1)]
    by_cases e2 : j = i
    · subst e2; rw [if_pos rfl, List.getElem?_set_self hi]; simp
    · rw [if_neg e2, List.getElem?_set_ne (Ne.symm e2)]
theorem setC_perm : ∀ (l : List Cell) (i : Nat) (h : i < l.length) (y : Cell), (l[i] :: l.set i y).Perm (y :: l)
  | a :: l, 0, _, y => by simpa using List.Perm.swap y a l
  | a :: l, i + 1, h, y => by
    have := setC_perm l i (by simpa using h) y
    simp only [List.getElem_cons_succ, List.set_cons_succ]
    exact (List.Perm.swap _ _ _).trans ((this.cons a).trans (List.Perm.swap _ _ _))
theorem swC_perm {s : List Cell} {i k : Nat} (hi : i < s.length) (hk : k < s.length) : (swC s i k).Perm s := by
  have e1 := gC_elem hi
  have e2 := gC_elem hk
  have h1 := setC_perm s i hi (gC s k)
  have h2 := setC_perm (s.set i (gC s k)) k (by simpa using hk) (gC s i)
  have e3 : (s.set i (gC s k))[k]'(by simpa using hk) = gC s k := by
    rw [List.getElem_set]; split
    · rfl
    · exact e2
  rw [e3] at h2; rw [e1] at h1
  exact List.Perm.cons_inv (h2.trans h1)
theorem swapC_ok {s : List Cell} {i k : Nat} {K : List Cell → Prop} (hi : i < s.length) (hk : k < s.length) (h : K (swC s i k)) :
    idxP s (k : Int) fun x => idxP s (i : Int) fun y => idxP s (i : Int) fun _ => idxP (s.set (i : Int).toNat x) (k : Int) fun _ => K ((s.set (i : Int).toNat x).set (k : Int).toNat y) := by
  refine idxP_intro (x := gC s k) (by omega) (gC_get hk) (idxP_intro (x := gC s i) (by omega) (gC_get hi) (idxP_intro (x := gC s i) (by omega) (gC_get hi) ?_))
  exact idxP_nat (by simpa using hk) h
/-! ### Sorted, and what there was -/
def leC (a b : Cell) : Prop := ¬ ltC b a
theorem leC_trans {a b c : Cell} (h1 : leC a b) (h2 : leC b c) : leC a c := by unfold leC ltC ltK at *; simp only at *; omega
theorem leC_refl (a : Cell) : leC a a := by unfold leC ltC ltK; simp only; omega
theorem ltC_le {a b : Cell} (h : ltC a b) : leC a b := by unfold leC ltC ltK at *; simp only at *; omega
theorem cmpC {x y : Cell} {A B : Prop} (h1 : ltC x y → A) (h2 : ¬ ltC x y → B) : gemm_order_1ec x y fun r => ifP (decide (r < 0)) A B := by
  unfold gemm_order_1ec
  exact cmp_int_ok (cmp_int_ok (or_ok (ifP_dec (fun h => h1 ((ordC_lt x y).1 h)) (fun h => h2 fun h' => h ((ordC_lt x y).2 h')))))
theorem cmpC_not {x y : Cell} {A B : Prop} (h1 : ¬ ltC x y → A) (h2 : ltC x y → B) : gemm_order_1ec x y fun r => ifP (!(decide (r < 0))) A B := by
  unfold gemm_order_1ec
  exact cmp_int_ok (cmp_int_ok (or_ok (ifP_not (fun h => h1 fun h' => of_decide_eq_false h ((ordC_lt x y).2 h')) (fun h => h2 ((ordC_lt x y).1 (of_decide_eq_true h))))))
def SoC (s : List Cell) (a b : Nat) : Prop := ∀ i j, a ≤ i → i < j → j < b → leC (gC s i) (gC s j)
structure SpC (a b : Nat) (s t : List Cell) : Prop where
  len : t.length = s.length
  perm : t.Perm s
  out : ∀ i, i < a ∨ b ≤ i → gC t i = gC s i
  mem : ∀ i, a ≤ i → i < b → ∃ j, a ≤ j ∧ j < b ∧ gC t i = gC s j
theorem SpC.refl (a b : Nat) (s : List Cell) : SpC a b s s := ⟨rfl, .refl _, fun _ _ => rfl, fun i h1 h2 => ⟨i, h1, h2, rfl⟩⟩
theorem SpC.trans {a b : Nat} {s t u : List Cell} (h : SpC a b s t) (h' : SpC a b t u) : SpC a b s u :=
  ⟨h'.len.trans h.len, h'.perm.trans h.perm, fun i hi => (h'.out i hi).trans (h.out i hi), fun i h1 h2 => by
    obtain ⟨j, h3, h4, e⟩ := h'.mem i h1 h2
    obtain ⟨k, h5, h6, e'⟩ := h.mem j h3 h4
    exact ⟨k, h5, h6, e.trans e'⟩⟩
theorem SpC.wide {a b a' b' : Nat} {s t : List Cell} (h : SpC a b s t) (ha : a' ≤ a) (hb : b ≤ b') : SpC a' b' s t :=
  ⟨h.len, h.perm, fun i hi => h.out i (by omega), fun i h1 h2 => by
    by_cases c : a ≤ i ∧ i < b
    · obtain ⟨j, h3, h4, e⟩ := h.mem i c.1 c.2
      exact ⟨j, by omega, by omega, e⟩
    · exact ⟨i, h1, h2, h.out i (by omega)⟩⟩
theorem SpC.swap {a b i k : Nat} {s : List Cell} (hb : b ≤ s.length) (hi : a ≤ i ∧ i < b) (hk : a ≤ k ∧ k < b) : SpC a b s (swC s i k) :=
  ⟨swC_len s i k, swC_perm (by omega) (by omega), fun j hj => by
    rw [swC_get (by omega) (by omega), if_neg (by omega), if_neg (by omega)], fun j h1 h2 => by
    rw [swC_get (by omega) (by omega)]
    by_cases e : j = k
    · rw [if_pos e]; exact ⟨i, hi.1, hi.2, rfl⟩
    · rw [if_neg e]
      by_cases e' : j = i
      · rw [if_pos e']; exact ⟨k, hk.1, hk.2, rfl⟩
      · rw [if_neg e']; exact ⟨j, h1, h2, rfl⟩⟩
/-! ### By insertion -/
theorem pred_w {i : Nat} (h0 : 0 < i) (h1 : i ≤ 1000000000000) : w64 ((i : Int) - 1) = ((i - 1 : Nat) : Int) := by rw [w64_id (by omega) (by omega)]; omega
theorem succ_w {i : Nat} (h1 : i ≤ 1000000000000) : w64 ((i : Int) + 1) = ((i + 1 : Nat) : Int) := by rw [w64_id (by omega) (by omega)]; omega
theorem add_w {i k : Nat} (h1 : i ≤ 1000000000000) (h2 : k ≤ 1000000000000) : w64 ((i : Int) + (k : Int)) = ((i + k : Nat) : Int) := by rw [w64_id (by omega) (by omega)]; omega
theorem sub_w {i k : Nat} (h0 : k ≤ i) (h1 : i ≤ 1000000000000) : w64 ((i : Int) - (k : Int)) = ((i - k : Nat) : Int) := by rw [w64_id (by omega) (by omega)]; omega
theorem insC_ok {s : List Cell} {a b : Nat} {Q : List Cell → Prop} (hb : b ≤ s.length) (hl : s.length ≤ 1000000000) (ha : a ≤ b) (hQ : ∀ t, SpC a b s t → SoC t a b → Q t) : slices_insertionSortCmpFunc_api_Cell_116 s a b Q := by
  unfold slices_insertionSortCmpFunc_api_Cell_116
  rw [succ_w (by omega)]
  refine loop_intro (fun st : List Cell × Int => ∃ i : Nat, st.2 = i ∧ a + 1 ≤ i ∧ (i ≤ b ∨ i = a + 1) ∧ SpC a b s st.1 ∧ SoC st.1 a i) (fun st => b - st.2.toNat) ⟨a + 1, rfl, Nat.le_refl _, .inr rfl, .refl _ _ _, fun i j h1 h2 h3 => by omega⟩ ?_
  rintro ⟨t, _⟩ next ⟨i, rfl, h1, h2, hp, hs⟩ hn
  dsimp only at hp hs ⊢
  have hlen := hp.len
  refine ifP_dec (fun hib => ?_) (fun hib => hQ t hp fun p q g1 g2 g3 => hs p q g1 g2 (by omega))
  have fin : ∀ u : List Cell, SpC a b s u → SoC u a (i + 1) → next (u, w64 ((i : Int) + 1)) := fun u hu hsu => by
    rw [succ_w (by omega)]
    exact hn _ ⟨i + 1, rfl, by omega, .inl (by omega), hu, hsu⟩ (by dsimp only; omega)
  refine loop_intro (fun st : List Cell × Int => ∃ j : Nat, st.2 = j ∧ a ≤ j ∧ j ≤ i ∧ SpC a b s st.1 ∧ ∀ p q, a ≤ p → p < q → q ≤ i → q ≠ j → leC (gC st.1 p) (gC st.1 q)) (fun st => st.2.toNat) ⟨i, rfl, by omega, Nat.le_refl _, hp, fun p q g1 g2 g3 g4 => hs p q g1 g2 (by omega)⟩ ?_
  rintro ⟨u, _⟩ nx ⟨j, rfl, g1, g2, hu, hv⟩ hx
  dsimp only at hu hv ⊢
  have hul := hu.len
  refine ifP_dec (fun haj => ?_) (fun haj => fin u hu fun p q k1 k2 k3 => hv p q k1 k2 (by omega) (by omega))
  rw [pred_w (by omega) (by omega)]
  refine idxP_intro (x := gC u j) (by omega) (gC_get (by omega)) (idxP_intro (x := gC u (j - 1)) (by omega) (gC_get (by omega)) (cmpC (fun hlt => swapC_ok (s := u) (i := j) (k := j - 1) (K := fun l => nx (l, ((j - 1 : Nat) : Int))) (by omega) (by omega) ?_) (fun hge => fin u hu fun p q k1 k2 k3 => ?_)))
  · refine hx (swC u j (j - 1), ((j - 1 : Nat) : Int)) ⟨j - 1, rfl, by omega, by omega, hu.trans (SpC.swap (s := u) (i := j) (k := j - 1) (by omega) (by omega) (by omega)), fun p q k1 k2 k3 k4 => ?_⟩ (by dsimp only; omega)
    dsimp only
    rw [swC_get (by omega) (by omega), swC_get (by omega) (by omega)]
    rw [if_neg k4]
    by_cases e : q = j
    · rw [if_pos e]
      by_cases e' : p = j - 1
      · rw [if_pos e']; exact ltC_le hlt
      · rw [if_neg e', if_neg (by omega)]; exact hv p (j - 1) k1 (by omega) (by omega) (by omega)
    · rw [if_neg e]
      by_cases e' : p = j - 1
      · rw [if_pos e']; exact hv j q (by omega) (by omega) k3 e
      · rw [if_neg e']
        by_cases e'' : p = j
        · rw [if_pos e'']; exact hv (j - 1) q (by omega) (by omega) k3 e
        · rw [if_neg e'']; exact hv p q k1 k2 k3 e
  · by_cases e : q = j
    · subst e
      by_cases e' : p = q - 1
      · subst e'; exact hge
      · exact leC_trans (hv p (q - 1) k1 (by omega) (by omega) (by omega)) hge
    · exact hv p q k1 k2 (by omega) e
/-! ### Turned -/
theorem rangeC_ok {s : List Cell} {a b n : Nat} {Q : List Cell → Prop} (hab : a + n ≤ b) (hb : b + n ≤ s.length) (hl : s.length ≤ 1000000000)
    (hQ : ∀ t, t.length = s.length → t.Perm s → (∀ i, gC t i = if a ≤ i ∧ i < a + n then gC s (b + (i - a)) else if b ≤ i ∧ i < b + n then gC s (a + (i - b)) else gC s i) → Q t) : slices_swapRangeCmpFunc_api_Cell_ba0 s a b n Q := by
  unfold slices_swapRangeCmpFunc_api_Cell_ba0
  refine range_intro (fun (t : List Cell) k => (t, k)) 0 n (by omega) (fun k t => t.length = s.length ∧ t.Perm s ∧ ∀ i, gC t i = if a ≤ i ∧ i < a + k then gC s (b + (i - a)) else if b ≤ i ∧ i < b + k then gC s (a + (i - b)) else gC s i) (by omega) ⟨rfl, .refl _, fun i => by rw [if_neg (by omega), if_neg (by omega)]⟩ (fun k t next _ hk ht hn => ?_) (fun t next ht => ?_)
  · obtain ⟨h1, h2, h3⟩ := ht
    dsimp only
    refine ifP_dec (fun _ => ?_) (fun h => by omega)
    rw [add_w (by omega) (by omega), add_w (by omega) (by omega)]
    refine swapC_ok (s := t) (i := a + k) (k := b + k) (K := fun l => next (l, w64 ((k : Int) + 1))) (by omega) (by omega) (hn (swC t (a + k) (b + k)) ⟨(swC_len _ _ _).trans h1, (swC_perm (by omega) (by omega)).trans h2, fun i => ?_⟩)
    rw [swC_get (by omega) (by omega), h3, h3, h3]
    repeat' split
    all_goals first | with_reducible rfl | (exfalso; omega) | (congr 1; omega)
  · exact ifP_dec (fun h => by omega) (fun _ => hQ t ht.1 ht.2.1 ht.2.2)
def rotv (s : List Cell) (a m b x : Nat) : Cell := if a ≤ x ∧ x < a + (b - m) then gC s (x + (m - a)) else if a + (b - m) ≤ x ∧ x < b then gC s (x - (b - m)) else gC s x
theorem rotC_ok {s : List Cell} {a m b : Nat} {Q : List Cell → Prop} (h1 : a < m) (h2 : m < b) (hb : b ≤ s.length) (hl : s.length ≤ 1000000000)
    (hQ : ∀ t, t.length = s.length → t.Perm s → (∀ x, gC t x = rotv s a m b x) → Q t) : slices_rotateCmpFunc_api_Cell_7d1 s a m b Q := by
  unfold slices_rotateCmpFunc_api_Cell_7d1
  rw [sub_w (by omega) (by omega), sub_w (by omega) (by omega)]
  refine loop_intro (fun st : List Cell × Int × Int => ∃ i j : Nat, st.2.1 = i ∧ st.2.2 = j ∧ 0 < i ∧ 0 < j ∧ i ≤ m - a ∧ j ≤ b - m ∧ st.1.length = s.length ∧ st.1.Perm s ∧ ∀ x, rotv st.1 (m - i) m (m + j) x = rotv s a m b x) (fun st => st.2.1.toNat + st.2.2.toNat)
    ⟨m - a, b - m, rfl, rfl, by omega, by omega, Nat.le_refl _, Nat.le_refl _, rfl, .refl _, fun x => by dsimp only; rw [show m - (m - a) = a by omega, show m + (b - m) = b by omega]⟩ ?_
  rintro ⟨t, _, _⟩ next ⟨i, j, rfl, rfl, i0, j0, i1, j1, hlen, hp, hr⟩ hn
  dsimp only at hlen hp hr ⊢
  rw [sub_w (i := m) (k := i) (by omega) (by omega)]
  refine ifP_ne (fun hne => ifP_dec (fun hji => ?_) (fun hji => ?_)) (fun he => ?_)
  · refine rangeC_ok (by omega) (by omega) (by omega) fun u g1 g2 g3 => ?_
    rw [sub_w (by omega) (by omega)]
    refine hn _ ⟨i - j, j, rfl, rfl, by omega, j0, by omega, j1, g1.trans hlen, g2.trans hp, fun x => ?_⟩ (by dsimp only; omega)
    rw [← hr x]
    dsimp only
    unfold rotv
    rw [g3, g3, g3]
    repeat' split
    all_goals first | with_reducible rfl | (exfalso; omega) | (congr 1; omega)
  · rw [add_w (by omega) (by omega), sub_w (by omega) (by omega)]
    have hne' : i ≠ j := fun h => hne (by rw [h])
    refine rangeC_ok (by omega) (by omega) (by omega) fun u g1 g2 g3 => ?_
    rw [sub_w (by omega) (by omega)]
    refine hn _ ⟨i, j - i, rfl, rfl, i0, by omega, i1, by omega, g1.trans hlen, g2.trans hp, fun x => ?_⟩ (by dsimp only; omega)
    rw [← hr x]
    dsimp only
    unfold rotv
    rw [g3, g3, g3]
    repeat' split
    all_goals first | with_reducible rfl | (exfalso; omega) | (congr 1; omega)
  · have he' : i = j := by omega
    subst he'
    refine rangeC_ok (by omega) (by omega) (by omega) fun u g1 g2 g3 => hQ u (g1.trans hlen) (g2.trans hp) fun x => ?_
    rw [← hr x, g3]
    unfold rotv
    repeat' split
    all_goals first | with_reducible rfl | (exfalso; omega) | (congr 1; omega)
/-! ### Where to cut -/
theorem bsearch {T : Nat → Prop} {body : Int × Int → ((Int × Int) → Prop) → Prop} {lo hi : Nat} (h0 : lo ≤ hi)
    (hs : ∀ (i j : Nat) (next : Int × Int → Prop), lo ≤ i → i < j → j ≤ hi → (T ((i + j) / 2) → next ((((i + j) / 2 + 1 : Nat) : Int), (j : Int))) → (¬ T ((i + j) / 2) → next ((i : Int), (((i + j) / 2 : Nat) : Int))) → body ((i : Int), (j : Int)) next)
    (he : ∀ (i : Nat) (next : Int × Int → Prop), lo ≤ i → i ≤ hi → (lo < i → T (i - 1)) → (i < hi → ¬ T i) → body ((i : Int), (i : Int)) next) : loopP body ((lo : Int), (hi : Int)) := by
  refine loop_intro (fun st : Int × Int => ∃ i j : Nat, st = ((i : Int), (j : Int)) ∧ lo ≤ i ∧ i ≤ j ∧ j ≤ hi ∧ (lo < i → T (i - 1)) ∧ (j < hi → ¬ T j)) (fun st => (st.2 - st.1).toNat) ⟨lo, hi, rfl, Nat.le_refl _, h0, Nat.le_refl _, fun h => by omega, fun h => by omega⟩ ?_
  rintro _ next ⟨i, j, rfl, h1, h2, h3, h4, h5⟩ hn
  by_cases e : i = j
  · subst e; exact he i next h1 h3 h4 h5
  · refine hs i j next h1 (by omega) h3 (fun ht => hn _ ⟨(i + j) / 2 + 1, j, rfl, by omega, by omega, h3, fun _ => by rw [Nat.add_sub_cancel]; exact ht, h5⟩ (by dsimp only; omega)) (fun ht => hn _ ⟨i, (i + j) / 2, rfl, h1, by omega, by omega, h4, fun _ => ht⟩ (by dsimp only; omega))
theorem mid_w {i j : Nat} (h1 : i ≤ 1000000000000) (h2 : j ≤ 1000000000000) : w64 (shr .u64 (IntKind.wrap .u64 (w64 ((i : Int) + (j : Int)))) 1) = (((i + j) / 2 : Nat) : Int) := by
  rw [w64_id (x := (i : Int) + j) (by omega) (by omega), wrap_u64_id (by omega) (by omega)]
  have : shr .u64 ((i : Int) + j) 1 = ((i : Int) + j) / 2 := by
    show ((i : Int) + j).fdiv (2 ^ 1) = _
    rw [Int.fdiv_eq_ediv_of_nonneg _ (by decide)]; rfl
  rw [this, w64_id (by omega) (by omega)]; omega
end Go.Proofs.YtjabmpfcpekpdaaGreat

