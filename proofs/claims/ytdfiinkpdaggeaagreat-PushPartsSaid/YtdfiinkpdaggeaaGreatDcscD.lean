/- Matrices by columns: read by the program. -/
import Derived.Test.YtdfiinkpdaggeaaGreatDcscC
namespace Go.Proofs.YtdfiinkpdaggeaaGreat
open Go Go.Fw
set_option linter.unusedVariables false
set_option linter.unusedSimpArgs false
/-- a column's items -/
def colI (T : List Triple) (k : Int) : List Item := (T.filter fun t => decide (t.Row = k)).map itS
theorem colI_nat (T : List Triple) (k : Nat) : colI T k = (segS T k).map itS := rfl
theorem colI_none {T : List Triple} {n : Nat} {k : Int} (h : ∀ t ∈ T, 0 ≤ t.Row ∧ t.Row < n) (hk : ∀ j : Nat, j < (atS n T).length → at0 (atS n T) j ≠ k) : colI T k = [] := by
  unfold colI
  rw [List.filter_eq_nil_iff.2]; · rfl
  intro t ht
  simp only [decide_eq_true_eq]
  intro e
  have := h t ht
  obtain ⟨j, hj, e'⟩ := mem_at0 (l := atS n T) (x := k) (atS_mem.2 ⟨⟨by omega, by omega⟩, t, ht, e⟩)
  exact hk j hj e'
theorem Canon.rowIn {rows cols : Int} {T : List Triple} (h : Canon cols rows T) : ∀ t ∈ T, 0 ≤ t.Row ∧ t.Row < (cols.toNat : Int) := fun t ht => by
  have := h.inn t ht; unfold inT at this; omega
theorem collect_ok {rows cols : Int} {T : List Triple} (h : Canon cols rows T) {j : Nat} (hj : j < (atS cols.toNat T).length) {Q : List Item → Prop} (hQ : Q (colI T (at0 (atS cols.toNat T) j))) : slices_Collect_api_Item_d7d (colS rows cols T) j Q := by
  unfold slices_Collect_api_Item_d7d slices_AppendSeq_api_Item_api_Item_828 dcsc_items_1_1ae
  obtain ⟨x, lo, hi, h1, h2, h3, h4, h5, s⟩ := h.colseg hj
  have hs := st_len cols.toNat T
  have hlen := h.len; have hsl := s.len; have hc := h.r1; have hal := atS_len cols.toNat T
  have e1 : w64 ((j : Int) + 1) = (j : Int) + 1 := w64_id (by omega) (by omega)
  have hst : (colS rows cols T).Start = stS cols.toNat T := rfl
  rw [h1, colI_nat, ← s.eq] at hQ
  rw [hst, e1]
  refine idxP_at0 (by omega) (by omega) ?_
  rw [h3]
  refine range_intro (fun (st : List Item) (i : Int) => (st, i, 0)) lo hi (by omega) (fun p st => st = ((T.take p).drop lo).map itS) (by omega) (s0 := []) (by simp) (fun p st next hp1 hp2 hm hn => ?_) (fun st next hm => ?_)
  · subst hm
    dsimp only
    refine idxP_at0 (by omega) (by omega) ?_
    rw [h4]
    have hpl : p < T.length := by omega
    refine ifP_dec (fun _ => ?_) (fun h => by omega)
    refine idxP_intro (by omega) (x := T[p].Col) (by simp [colS, hpl]) (idxP_intro (by omega) (x := T[p].Val) (by simp [colS, hpl]) ⟨rfl, appP_intro (by simp; omega) (ifP_neg rfl (hn _ ?_))⟩)
    rw [ext_step hp1 hpl, List.map_append]; rfl
  · subst hm
    dsimp only
    refine idxP_at0 (by omega) (by omega) ?_
    rw [h4]
    exact ifP_dec (fun h => by omega) (fun _ => ⟨rfl, hQ⟩)
theorem dcsc_column_ok {c : Columns} {rows cols k : Int} {T : List Triple} {Q : List Item → Prop} (hl : smallC c) (hc : sureC c = colS rows cols T) (h : Canon cols rows T) (hQ : Q (colI T k)) : dcsc_Column c k Q := by
  unfold dcsc_Column
  refine dcsc_sure_ok hl ?_
  rw [hc]
  have hal := atS_len cols.toNat T; have hr := h.r1
  refine place_ok (atS_incr _ _) (show (atS cols.toNat T).length ≤ 1000000000 by omega) (fun j (hj : j < (atS cols.toNat T).length) (e : at0 (atS cols.toNat T) j = k) => ?_) (fun (hno : ∀ j : Nat, j < (atS cols.toNat T).length → at0 (atS cols.toNat T) j ≠ k) => ?_)
  · refine ifP_dec (fun h => by omega) (fun _ => ?_)
    unfold dcsc_items_9d2
    exact collect_ok h hj (by rw [e]; exact hQ)
  · refine ifP_pos rfl ?_
    rwa [colI_none h.rowIn hno] at hQ
/-- how many values the columns of some places have -/
def workS (T : List Triple) (at' : List Int) : Int := (at'.map fun k => ((colI T k).length : Int)).sum
theorem workS_snoc (T : List Triple) (l : List Int) (k : Int) : workS T (l ++ [k]) = workS T l + (colI T k).length := by simp [workS]
theorem colI_len (T : List Triple) (k : Int) : (colI T k).length ≤ T.length := by unfold colI; rw [List.length_map]; exact List.length_filter_le _ _
theorem workS_le (T : List Triple) : ∀ l : List Int, 0 ≤ workS T l ∧ workS T l ≤ l.length * T.length
  | [] => by simp [workS]
  | k :: l => by
    have := workS_le T l
    have h2 := colI_len T k
    have e : workS T (k :: l) = (colI T k).length + workS T l := by simp [workS]
    rw [e, List.length_cons]
    have : ((l.length + 1 : Nat) : Int) * (T.length : Int) = l.length * T.length + T.length := by rw [Int.natCast_add, Int.add_mul]; simp
    omega
theorem dcsc_work_ok {c : Columns} {rows cols : Int} {T : List Triple} {at' : List Int} {Q : Int → Prop} (hl : smallC c) (hal : at'.length ≤ 1000000) (hc : sureC c = colS rows cols T) (h : Canon cols rows T) (hQ : Q (workS T at')) : dcsc_Work c at' Q := by
  unfold dcsc_Work
  refine dcsc_sure_ok hl ?_
  rw [hc]
  have hcl := atS_len cols.toNat T; have hr := h.r1; have hlen := h.len; have hs := st_len cols.toNat T
  refine range_intro (fun (s : Int) i => (s, i)) 0 at'.length (by omega) (fun i s => s = workS T (at'.take i)) (by omega) (by simp [workS]) (fun i s next _ hi hm hn => ?_) (fun s next hm => ?_)
  · subst hm
    dsimp only
    refine ifP_dec (fun _ => ?_) (fun h => by omega)
    refine idxP_nat hi ?_
    have hb := workS_le T (at'.take i)
    have hb2 : ((at'.take i).length : Int) * (T.length : Int) ≤ 1000000 * 65536 := by
      exact Int.mul_le_mul (by simp; omega) (by omega) (by omega) (by omega)
    have hstep (v : Int) (hv : v = (colI T at'[i]).length) : next (w64 (workS T (at'.take i) + w64 v), w64 ((i : Int) + 1)) := by
      have hc2 := colI_len T at'[i]
      rw [w64_id (x := v) (by omega) (by omega), w64_id (by omega) (by omega)]
      refine hn _ ?_
      rw [List.take_succ_eq_append_getElem hi, workS_snoc, hv]
    have hzero (hz : colI T at'[i] = []) : next (workS T (at'.take i), w64 ((i : Int) + 1)) := by
      refine hn _ ?_
      rw [List.take_succ_eq_append_getElem hi, workS_snoc, hz]; simp
    refine place_ok (atS_incr _ _) (show (atS cols.toNat T).length ≤ 1000000000 by omega) (fun j (hj : j < (atS cols.toNat T).length) (e : at0 (atS cols.toNat T) j = at'[i]) => ?_) (fun (hno : ∀ j : Nat, j < (atS cols.toNat T).length → at0 (atS cols.toNat T) j ≠ at'[i]) => ?_)
    · obtain ⟨x, lo, hi', h1, h2, h3, h4, h5, s⟩ := h.colseg hj
      refine ifP_dec (fun _ => ?_) (fun h => by omega)
      have hst : (colS rows cols T).Start = stS cols.toNat T := rfl
      rw [hst, w64_id (x := (j : Int) + 1) (by omega) (by omega)]
      refine idxP_at0 (by omega) (by omega) (idxP_at0 (by omega) (by omega) (hstep _ ?_))
      rw [h3, h4, ← e, h1, colI_nat, ← s.eq]
      have := s.len
      simp; omega
    · exact ifP_dec (fun h => by omega) (fun _ => hzero (colI_none h.rowIn hno))
  · subst hm
    dsimp only
    refine ifP_dec (fun h => by omega) (fun _ => ?_)
    rw [List.take_length]; exact hQ
/-! ### Same -/
/-! ### Back -/
theorem turnT_vals {cols : Int} {T : List Triple} {rows : Int} (h : Canon rows cols T) (hv : ∀ t ∈ T, inI t.Val) : ∀ t ∈ turnT cols T, inI t.Val := fun t ht => hv (flip t) ((turn_mem h t).1 ht)
end Go.Proofs.YtdfiinkpdaggeaaGreat
