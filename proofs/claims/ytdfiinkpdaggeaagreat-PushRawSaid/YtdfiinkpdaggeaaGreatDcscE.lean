/- Matrices by columns: the reference. -/
import Derived.Test.YtdfiinkpdaggeaaGreatDcscD
namespace Go.Proofs.YtdfiinkpdaggeaaGreat
open Go Go.Fw
set_option linter.unusedVariables false
set_option linter.unusedSimpArgs false
theorem atS_succ (n : Nat) (T : List Triple) : atS (n + 1) T = if segS T n = [] then atS n T else atS n T ++ [(n : Int)] := by
  have e : anyR T n = !(segS T n).isEmpty := by
    unfold anyR segS
    rw [Bool.eq_iff_iff]
    simp only [List.any_eq_true, decide_eq_true_eq, Bool.not_eq_true', List.isEmpty_eq_false_iff, ne_eq, List.filter_eq_nil_iff, Classical.not_forall]
    simp
  unfold atS
  rw [List.range_succ, List.filter_append, List.map_append]
  by_cases h : segS T n = []
  · rw [if_pos h]
    have : anyR T n = false := by rw [e, h]; rfl
    simp [this]
  · rw [if_neg h]
    have : anyR T n = true := by rw [e]; cases hs : segS T n with
      | nil => exact absurd hs h
      | cons => rfl
    simp [this]
theorem stS_succ (n : Nat) (T : List Triple) : stS (n + 1) T = if segS T n = [] then stS n T else stS n T ++ [below T (n + 1)] := by
  unfold stS
  rw [atS_succ]
  by_cases h : segS T n = []
  · rw [if_pos h, if_pos h]
  · rw [if_neg h, if_neg h]; simp
theorem Seg.lens {T : List Triple} {x lo hi : Nat} (s : Seg T x lo hi) : (segS T x).length = hi - lo := by
  rw [← s.eq]; have := s.len; simp; omega
theorem ref_dcsc_of_ok {a : Rows} {rows cols : Int} {ts : List Triple} {Q : Columns → Prop} (hl : small a) (ha : sureS a = builtS rows cols ts) (h : Canon rows cols ts) (hQ : Q (colS rows cols (turnT cols ts))) : ref08_Of a Q := by
  unfold ref08_Of
  refine ref_turn_ok hl ha h ?_
  have hT := turn_canon h
  generalize turnT cols ts = T at hT hQ
  have hlen := hT.len; have hc0 := hT.r0; have hc1 := hT.r1
  obtain ⟨n, rfl⟩ : ∃ n : Nat, cols = n := ⟨cols.toNat, by omega⟩
  refine range_intro (fun (s : List Int × List Int × List Int × List Int) (i : Int) => (s.1, s.2.1, s.2.2.1, s.2.2.2, i)) 0 n (by omega) (fun k s => s = (atS k T, stS k T, (T.take (below T k).toNat).map (·.Col), (T.take (below T k).toNat).map (·.Val))) (by omega) (s0 := ([], [0], [], [])) (by rw [below_zero fun t ht => (hT.inn t ht).1]; rfl) (fun k s next _ hk hm hn => ?_) (fun s next hm => ?_)
  · subst hm
    dsimp only
    refine ifP_dec (fun _ => ?_) (fun (h : ¬ (k : Int) < n) => by omega)
    refine ref_row_ok hT.sml (sure_built hT) hT ?_
    unfold rowS
    rw [if_pos (by omega), Int.toNat_natCast]
    obtain ⟨lo, hi, s⟩ := hT.seg k
    have hsl := s.lens; have hsn := s.len; have hle := s.le
    have hal := atS_len k T; have hst := st_len k T
    refine ifP_eq (fun h0 => hn (_, _, _, _) ?_) (fun h0 => ?_)
    · have hnil : segS T k = [] := List.length_eq_zero_iff.1 (by simpa using h0)
      have : lo = hi := by rw [hnil] at hsl; simp at hsl; omega
      rw [atS_succ, stS_succ, if_pos hnil, if_pos hnil, s.hi, s.lo, this]; rfl
    · have hne : segS T k ≠ [] := fun e => h0 (by rw [e]; rfl)
      refine appP_intro (by simp; omega) ?_
      rw [s.lo, Int.toNat_natCast]
      have hxs : segS T k = (T.take hi).drop lo := s.eq.symm
      have htk : T.take hi = T.take lo ++ segS T k := by
        rw [hxs]
        have : T.take lo = (T.take hi).take lo := by rw [List.take_take, Nat.min_eq_left hle]
        rw [this, List.take_append_drop]
      generalize hX : segS T k = X at hsl htk hne
      refine range_intro (fun (s : List Int × List Int) (i : Int) => (s.1, s.2, i)) 0 X.length (by omega) (fun i s => s = ((T.take lo).map (·.Col) ++ (X.take i).map (·.Col), (T.take lo).map (·.Val) ++ (X.take i).map (·.Val))) (by omega) (s0 := ((T.take lo).map (·.Col), (T.take lo).map (·.Val))) (by simp) (fun i s nx _ hi2 hm hnx => ?_) (fun s nx hm => ?_)
      · subst hm
        dsimp only
        refine ifP_dec (fun _ => ?_) (fun h => by simp at h; omega)
        refine idxP_intro (by omega) (x := itS X[i]) (by simp [hi2]) (appP_intro (by simp; omega) (idxP_intro (by omega) (x := itS X[i]) (by simp [hi2]) (appP_intro (by simp; omega) (hnx (_, _) ?_))))
        rw [take_snoc hi2, List.map_append, List.map_append, ← List.append_assoc, ← List.append_assoc]; rfl
      · subst hm
        dsimp only
        refine ifP_dec (fun h => by simp at h) (fun _ => ?_)
        rw [List.take_length, ← List.map_append, ← List.map_append, ← htk]
        refine appP_intro (by simp [st_len]; omega) (hn (_, _, _, _) ?_)
        rw [atS_succ, stS_succ, hX, if_neg hne, if_neg hne, s.hi, Int.toNat_natCast]
        have : (((T.take hi).map (·.Col)).length : Int) = (hi : Int) := by simp; omega
        rw [this]
  · subst hm
    dsimp only
    refine ifP_dec (fun (h : (n : Int) < n) => by omega) (fun _ => ?_)
    have hb : below T n = T.length := by have := below_all hT; rwa [Int.toNat_natCast] at this
    rw [hb, Int.toNat_natCast, List.take_length]
    exact hQ
theorem filter_seg {T : List Triple} {x lo hi : Nat} (s : Seg T x lo hi) (k : Int) : (T.take hi).filter (fun t => decide (t.Row = k)) = (T.take lo).filter (fun t => decide (t.Row = k)) ++ if (x : Int) = k then segS T x else [] := by
  have hle := s.le
  have htk : T.take hi = T.take lo ++ segS T x := by
    rw [← s.eq]
    have : T.take lo = (T.take hi).take lo := by rw [List.take_take, Nat.min_eq_left hle]
    rw [this, List.take_append_drop]
  rw [htk, List.filter_append]
  congr 1
  have hr : ∀ t ∈ segS T x, t.Row = x := fun t ht => by simpa [segS] using (List.mem_filter.1 ht).2
  split
  · rename_i e
    rw [List.filter_eq_self]
    intro t ht; simp [hr t ht, e]
  · rename_i e
    rw [List.filter_eq_nil_iff]
    intro t ht; simp [hr t ht, e]
theorem ref_dcsc_column_ok {c : Columns} {rows cols k : Int} {T : List Triple} {Q : List Item → Prop} (hl : smallC c) (hc : sureC c = colS rows cols T) (h : Canon cols rows T) (hQ : Q (colI T k)) : ref08_Column c k Q := by
  unfold ref08_Column
  refine ref_dcsc_sure_ok hl ?_
  rw [hc]
  have hcl := atS_len cols.toNat T; have hr := h.r1; have hlen := h.len; have hs := st_len cols.toNat T
  have hst : (colS rows cols T).Start = stS cols.toNat T := rfl
  have hat : (colS rows cols T).At = atS cols.toNat T := rfl
  have hsn := h.colp.sn
  have hrl : (colS rows cols T).Row.length = T.length := by simp [colS]
  rw [hst, hat, hrl] at hsn
  rw [hst, hat]
  refine range_intro (fun (s : List Item) i => (s, i)) 0 (atS cols.toNat T).length (by omega) (fun i s => s = ((T.take (at0 (stS cols.toNat T) i).toNat).filter fun t => decide (t.Row = k)).map itS) (by omega) (by rw [show at0 (stS cols.toNat T) ((0 : Nat) : Int) = 0 from rfl]; simp) (fun i s next _ hi hm hn => ?_) (fun s next hm => ?_)
  · subst hm
    dsimp only
    refine ifP_dec (fun _ => ?_) (fun h => by omega)
    have e0 : w64 ((i : Int) + 1) = (i : Int) + 1 := w64_id (by omega) (by omega)
    rw [e0]
    refine ifP_dec (fun _ => ?_) (fun h => by omega)
    obtain ⟨x, lo, hi', h1, h2, h3, h4, h5, s⟩ := h.colseg hi
    have hsl := s.len
    refine idxP_at0 (by omega) (by omega) ?_
    have fin (l : List Item) (hl : l = ((T.take hi').filter fun t => decide (t.Row = k)).map itS) : next (l, (i : Int) + 1) := by
      have := hn l (by rw [show ((i + 1 : Nat) : Int) = (i : Int) + 1 by omega, h4, Int.toNat_natCast]; exact hl)
      rwa [e0] at this
    rw [h3, Int.toNat_natCast]
    by_cases hx : (x : Int) = k
    · refine range_intro (fun (st : List Item) (p : Int) => (st, p)) lo hi' (by omega) (fun p st => st = ((T.take p).filter fun t => decide (t.Row = k)).map itS) (by omega) rfl (fun p st nx hp1 hp2 hm hnx => ?_) (fun st nx hm => ?_)
      · subst hm
        dsimp only
        refine idxP_at0 (by omega) (by omega) ?_
        rw [h4]
        have hpl : p < T.length := by omega
        refine ifP_dec (fun _ => ?_) (fun h => by omega)
        refine idxP_at0 (by omega) (by omega) (ifP_eq (fun _ => ?_) (fun h => absurd (h1.trans hx) h))
        have hfl : (((T.take p).filter fun t => decide (t.Row = k)).map itS).length ≤ 65536 := by
          rw [List.length_map]; exact Nat.le_trans (List.length_filter_le _ _) (by simp; omega)
        refine idxP_intro (by omega) (x := T[p].Col) (by simp [colS, hpl]) (idxP_intro (by omega) (x := T[p].Val) (by simp [colS, hpl]) (appP_intro (by simp only [List.length_singleton]; omega) (hnx _ ?_)))
        have hrow := s.row p hpl hp1 hp2
        rw [take_snoc hpl, List.filter_append, List.map_append, List.filter_cons_of_pos (by simp [hrow, hx])]
        rfl
      · subst hm
        dsimp only
        refine idxP_at0 (by omega) (by omega) ?_
        rw [h4]
        exact ifP_dec (fun h => by omega) (fun _ => fin _ rfl)
    · have hnil := filter_seg s k
      rw [if_neg hx, List.append_nil] at hnil
      refine loop_intro (fun st : List Item × Int => st = (((T.take lo).filter fun t => decide (t.Row = k)).map itS, (lo : Int))) (fun _ => 0) rfl (fun st nx hst _ => ?_)
      subst hst
      dsimp only
      refine idxP_at0 (by omega) (by omega) ?_
      rw [h4]
      refine ifP_dec (fun _ => idxP_at0 (by omega) (by omega) (ifP_eq (fun e => absurd (h1.symm.trans e) hx) (fun _ => fin _ (by rw [hnil])))) (fun h => by omega)
  · subst hm
    dsimp only
    refine ifP_dec (fun h => by omega) (fun _ => ?_)
    rw [hsn, Int.toNat_natCast, List.take_length]
    exact hQ
theorem ref_dcsc_work_ok {c : Columns} {rows cols : Int} {T : List Triple} {at' : List Int} {Q : Int → Prop} (hl : smallC c) (hal : at'.length ≤ 1000000) (hc : sureC c = colS rows cols T) (h : Canon cols rows T) (hQ : Q (workS T at')) : ref08_Work c at' Q := by
  unfold ref08_Work
  have hlen := h.len
  refine range_intro (fun (s : Int) i => (s, i)) 0 at'.length (by omega) (fun i s => s = workS T (at'.take i)) (by omega) (by simp [workS]) (fun i s next _ hi hm hn => ?_) (fun s next hm => ?_)
  · subst hm
    dsimp only
    refine ifP_dec (fun _ => ?_) (fun h => by omega)
    refine idxP_nat hi (ref_dcsc_column_ok hl hc h ?_)
    have hb := workS_le T (at'.take i)
    have hb2 : ((at'.take i).length : Int) * (T.length : Int) ≤ 1000000 * 65536 := by
      exact Int.mul_le_mul (by simp; omega) (by omega) (by omega) (by omega)
    have hc2 := colI_len T at'[i]
    rw [w64_id (x := workS T (at'.take i) + _) (by omega) (by omega)]
    refine hn _ ?_
    rw [List.take_succ_eq_append_getElem hi, workS_snoc]
  · subst hm
    dsimp only
    refine ifP_dec (fun h => by omega) (fun _ => ?_)
    rw [List.take_length]; exact hQ
theorem ref_dcsc_back_ok {c : Columns} {rows cols : Int} {T : List Triple} {Q : Rows → Prop} (hl : smallC c) (hc : sureC c = colS rows cols T) (h : Canon cols rows T) (hv : ∀ t ∈ T, inI t.Val) (hQ : Q (builtS rows cols (turnT rows T))) : ref08_Back c Q := by
  unfold ref08_Back
  refine ref_dcsc_sure_ok hl ?_
  rw [hc]
  have hcl := atS_len cols.toNat T; have hr := h.r1; have hlen := h.len; have hs := st_len cols.toNat T
  have hst : (colS rows cols T).Start = stS cols.toNat T := rfl
  have hat : (colS rows cols T).At = atS cols.toNat T := rfl
  have hsn := h.colp.sn
  have hrl : (colS rows cols T).Row.length = T.length := by simp [colS]
  rw [hst, hat, hrl] at hsn
  rw [hst, hat]
  refine join_intro (fun s => s = T.map flip) (fun s hs => ?_) (fun kk hkk => ?_)
  · subst hs
    refine ref_Of_ok (by simp; omega) (fun t ht => ?_) ?_
    · obtain ⟨u, hu, rfl⟩ := List.mem_map.1 ht; exact hv u hu
    · show Q (ofS 1 rows cols (T.map flip)).1
      rw [of_flip h hv (by omega)]; exact hQ
  refine range_intro (fun (s : List Triple) i => (s, i)) 0 (atS cols.toNat T).length (by omega) (fun i s => s = (T.take (at0 (stS cols.toNat T) i).toNat).map flip) (by omega) (by rw [show at0 (stS cols.toNat T) ((0 : Nat) : Int) = 0 from rfl]; simp) (fun i s next _ hi hm hn => ?_) (fun s next hm => ?_)
  · subst hm
    dsimp only
    refine ifP_dec (fun _ => ?_) (fun h => by omega)
    have e0 : w64 ((i : Int) + 1) = (i : Int) + 1 := w64_id (by omega) (by omega)
    rw [e0]
    refine ifP_dec (fun _ => ?_) (fun h => by omega)
    obtain ⟨x, lo, hi', h1, h2, h3, h4, h5, s⟩ := h.colseg hi
    have hsl := s.len
    refine idxP_at0 (by omega) (by omega) ?_
    rw [h3, Int.toNat_natCast]
    refine range_intro (fun (st : List Triple) (p : Int) => (st, p)) lo hi' (by omega) (fun p st => st = (T.take p).map flip) (by omega) rfl (fun p st nx hp1 hp2 hm hnx => ?_) (fun st nx hm => ?_)
    · subst hm
      dsimp only
      refine idxP_at0 (by omega) (by omega) ?_
      rw [h4]
      have hpl : p < T.length := by omega
      refine ifP_dec (fun _ => ?_) (fun h => by omega)
      refine idxP_intro (by omega) (x := T[p].Col) (by simp [colS, hpl]) (idxP_at0 (by omega) (by omega) (idxP_intro (by omega) (x := T[p].Val) (by simp [colS, hpl]) (appP_intro (by simp; omega) (hnx _ ?_))))
      rw [take_snoc hpl, List.map_append]
      have := s.row p hpl hp1 hp2
      simp [flip, this, h1]
    · subst hm
      dsimp only
      refine idxP_at0 (by omega) (by omega) ?_
      rw [h4]
      refine ifP_dec (fun h => by omega) (fun _ => ?_)
      have := hn ((T.take hi').map flip) (by rw [show ((i + 1 : Nat) : Int) = (i : Int) + 1 by omega, h4, Int.toNat_natCast])
      rwa [e0] at this
  · subst hm
    dsimp only
    refine ifP_dec (fun h => by omega) (fun _ => hkk _ ?_)
    rw [hsn, Int.toNat_natCast, List.take_length]
end Go.Proofs.YtdfiinkpdaggeaaGreat
