/- Matrices by columns out of sorted triples (a triple's Row is the column), and which can be: program and reference. -/
import Derived.Test.YtdfiinkpdaggeaaGreatCsrM
namespace Go.Proofs.YtdfiinkpdaggeaaGreat
open Go Go.Fw
set_option linter.unusedVariables false
set_option linter.unusedSimpArgs false
theorem incr_ext {l l' : List Int} (h : l.Pairwise (· < ·)) (h' : l'.Pairwise (· < ·)) (he : ∀ x, x ∈ l ↔ x ∈ l') : l = l' := by
  have hn : ∀ {l : List Int}, l.Pairwise (· < ·) → l.Nodup := fun h => List.nodup_iff_pairwise_ne.2 (h.imp fun hab => by omega)
  have hp := (List.perm_ext_iff_of_nodup (hn h) (hn h')).2 he
  exact hp.eq_of_pairwise (fun a b _ _ h1 h2 => by omega) h h'
theorem incr_at {l : List Int} (h : l.Pairwise (· < ·)) {i j : Nat} (hij : i < j) (hj : j < l.length) : at0 l i < at0 l j := by
  unfold at0
  have := List.pairwise_iff_getElem.1 h i j (by omega) hj hij
  simpa [List.getD_eq_getElem?_getD, hj, show i < l.length by omega] using this
theorem mem_at0 {l : List Int} {x : Int} (h : x ∈ l) : ∃ i : Nat, i < l.length ∧ at0 l i = x := by
  obtain ⟨i, hi, rfl⟩ := List.getElem_of_mem h
  exact ⟨i, hi, by unfold at0; simp [List.getD_eq_getElem?_getD, hi]⟩
def anyR (T : List Triple) (c : Nat) : Bool := T.any fun t => decide (t.Row = (c : Int))
def atS (n : Nat) (T : List Triple) : List Int := ((List.range n).filter (anyR T)).map fun c : Nat => (c : Int)
theorem atS_incr (n : Nat) (T : List Triple) : (atS n T).Pairwise (· < ·) := by
  unfold atS
  rw [List.pairwise_map]
  exact List.Pairwise.imp (fun {a b} h => by omega) ((List.pairwise_lt_range (n := n)).filter _)
theorem atS_mem {n : Nat} {T : List Triple} {x : Int} : x ∈ atS n T ↔ (0 ≤ x ∧ x < n) ∧ ∃ t ∈ T, t.Row = x := by
  unfold atS anyR
  simp only [List.mem_map, List.mem_filter, List.mem_range, List.any_eq_true, decide_eq_true_eq]
  constructor
  · rintro ⟨c, ⟨hc, t, ht, e⟩, rfl⟩; exact ⟨⟨by omega, by omega⟩, t, ht, e⟩
  · rintro ⟨⟨h0, h1⟩, t, ht, e⟩; exact ⟨x.toNat, ⟨by omega, t, ht, by omega⟩, by omega⟩
theorem atS_len (n : Nat) (T : List Triple) : (atS n T).length ≤ n := by
  unfold atS
  rw [List.length_map]
  exact Nat.le_trans (List.length_filter_le _ _) (by simp)
def stS (n : Nat) (T : List Triple) : List Int := 0 :: (atS n T).map fun x => below T (x.toNat + 1)
def colS (rows cols : Int) (T : List Triple) : Columns := ⟨rows, cols, atS cols.toNat T, stS cols.toNat T, T.map (·.Col), T.map (·.Val)⟩
theorem st_len (n : Nat) (T : List Triple) : (stS n T).length = (atS n T).length + 1 := by simp [stS]
theorem st_hi {n : Nat} {T : List Triple} {j : Nat} (hj : j < (atS n T).length) : at0 (stS n T) ((j : Int) + 1) = below T ((at0 (atS n T) j).toNat + 1) := by
  unfold stS at0
  rw [show ((j : Int) + 1).toNat = j + 1 by omega]
  simp [List.getD_eq_getElem?_getD, hj]
theorem at_in {n : Nat} {T : List Triple} {j : Nat} (hj : j < (atS n T).length) : (0 ≤ at0 (atS n T) j ∧ at0 (atS n T) j < n) ∧ ∃ t ∈ T, t.Row = at0 (atS n T) j :=
  atS_mem.1 (at0_mem (by omega) (by omega))
theorem row_at {rows cols : Int} {T : List Triple} (h : Canon cols rows T) {t : Triple} (ht : t ∈ T) : ∃ q : Nat, q < (atS cols.toNat T).length ∧ at0 (atS cols.toNat T) q = t.Row := by
  have hin := h.inn t ht
  unfold inT at hin
  exact mem_at0 (atS_mem.2 ⟨⟨by omega, by omega⟩, t, ht, rfl⟩)
theorem st_lo {rows cols : Int} {T : List Triple} (h : Canon cols rows T) {j : Nat} (hj : j < (atS cols.toNat T).length) : at0 (stS cols.toNat T) j = below T (at0 (atS cols.toNat T) j).toNat := by
  have hinc := atS_incr cols.toNat T
  have h0 := (at_in hj).1
  cases j with
  | zero =>
    rw [show at0 (stS cols.toNat T) ((0 : Nat) : Int) = 0 from rfl]
    unfold below
    rw [List.countP_eq_zero.2]; · rfl
    intro t ht
    obtain ⟨q, hq, e⟩ := row_at h ht
    simp only [decide_eq_true_eq]
    rw [← e]
    by_cases e0 : q = 0
    · subst e0; omega
    · have := incr_at hinc (show 0 < q by omega) hq; omega
  | succ i =>
    rw [show ((i + 1 : Nat) : Int) = (i : Int) + 1 by omega, st_hi (show i < (atS cols.toNat T).length by omega)]
    unfold below
    congr 1
    apply List.countP_congr
    intro t ht
    simp only [decide_eq_true_eq]
    have hlt := incr_at hinc (show i < i + 1 by omega) hj
    rw [show ((i + 1 : Nat) : Int) = (i : Int) + 1 by omega] at hlt h0
    have h1 := (at_in (show i < (atS cols.toNat T).length by omega)).1
    constructor
    · intro hh; omega
    · intro hh
      obtain ⟨q, hq, e⟩ := row_at h ht
      have hqi : q ≤ i := by
        rcases Nat.lt_or_ge i q with hc | hc
        · exfalso
          by_cases e1 : q = i + 1
          · subst e1; rw [show ((i + 1 : Nat) : Int) = (i : Int) + 1 by omega] at e; omega
          · have := incr_at hinc (show i + 1 < q by omega) hq
            rw [show ((i + 1 : Nat) : Int) = (i : Int) + 1 by omega] at this; omega
        · exact hc
      by_cases e1 : q = i
      · subst e1; omega
      · have := incr_at hinc (show q < i by omega) (by omega); omega
/-- a column's stretch -/
theorem Canon.colseg {rows cols : Int} {T : List Triple} (h : Canon cols rows T) {j : Nat} (hj : j < (atS cols.toNat T).length) :
    ∃ x lo hi : Nat, at0 (atS cols.toNat T) j = x ∧ (x : Int) < cols ∧ at0 (stS cols.toNat T) j = lo ∧ at0 (stS cols.toNat T) ((j : Int) + 1) = hi ∧ lo < hi ∧ Seg T x lo hi := by
  obtain ⟨⟨h0, h1⟩, t, ht, e⟩ := at_in hj
  obtain ⟨x, hx⟩ : ∃ x : Nat, at0 (atS cols.toNat T) j = x := ⟨(at0 (atS cols.toNat T) j).toNat, by omega⟩
  obtain ⟨lo, hi, s⟩ := h.seg x
  have hc := h.r0
  have hlo : at0 (stS cols.toNat T) j = lo := by rw [st_lo h hj, hx, Int.toNat_natCast, s.lo]
  have hhi : at0 (stS cols.toNat T) ((j : Int) + 1) = hi := by rw [st_hi hj, hx, Int.toNat_natCast, s.hi]
  refine ⟨x, lo, hi, hx, by omega, hlo, hhi, ?_, s⟩
  obtain ⟨p, hp, rfl⟩ := List.getElem_of_mem ht
  have := (h.srt.at hp (i := x)).1 (by omega)
  have h1 := s.lo; have h2 := s.hi
  omega
/-! ### Which can be -/
def ColR (c : Columns) (i : Nat) : Prop := ∀ j : Nat, at0 c.Start i ≤ j → (j : Int) < at0 c.Start ((i : Int) + 1) → 0 ≤ at0 c.Row j ∧ at0 c.Row j < c.Rows ∧ (at0 c.Start i < j → at0 c.Row ((j : Int) - 1) < at0 c.Row j)
structure ColP (c : Columns) : Prop where
  r0 : 0 ≤ c.Rows
  r1 : c.Rows ≤ 4096
  c0 : 0 ≤ c.Cols
  c1 : c.Cols ≤ 4096
  sl : (c.Start.length : Int) = (c.At.length : Int) + 1
  vl : c.Val.length = c.Row.length
  cl : c.Row.length ≤ 65536
  s0 : at0 c.Start 0 = 0
  sn : at0 c.Start c.At.length = c.Row.length
  at_ : ∀ i : Nat, i < c.At.length → 0 ≤ at0 c.At i ∧ at0 c.At i < c.Cols ∧ (0 < i → at0 c.At ((i : Int) - 1) < at0 c.At i)
  up : ∀ i : Nat, i < c.At.length → at0 c.Start i < at0 c.Start ((i : Int) + 1)
  row : ∀ i : Nat, i < c.At.length → ColR c i
noncomputable instance (c : Columns) : Decidable (ColP c) := Classical.propDecidable _
def smallC (c : Columns) : Prop := c.At.length ≤ 1000000000 ∧ c.Start.length ≤ 1000000000 ∧ c.Row.length ≤ 1000000000000
theorem dcsc_within_ok {x y : Int} {Q : Bool → Prop} (hQ : Q (decide (0 ≤ x ∧ x ≤ y))) : dcsc_within x y Q := by
  unfold dcsc_within
  refine ifP_dec (fun h => ?_) (fun h => ?_)
  · rwa [show decide (x ≤ y) = decide (0 ≤ x ∧ x ≤ y) by apply decide_eq_decide.2; omega]
  · rwa [show decide (0 ≤ x ∧ x ≤ y) = false by apply decide_eq_false; omega] at hQ
theorem rising_ok {xs : List Int} {cols : Int} {Q : Bool → Prop} (hc0 : 0 ≤ cols) (hc1 : cols ≤ 1000000000) (hl : xs.length ≤ 1000000000)
    (h1 : (∀ j : Nat, j < xs.length → 0 ≤ at0 xs j ∧ at0 xs j < cols ∧ (0 < j → at0 xs ((j : Int) - 1) < at0 xs j)) → Q true) (h2 : (∃ j : Nat, j < xs.length ∧ ¬ (0 ≤ at0 xs j ∧ at0 xs j < cols ∧ (0 < j → at0 xs ((j : Int) - 1) < at0 xs j))) → Q false) : dcsc_rising xs cols Q := by
  unfold dcsc_rising
  rw [w64_id (by omega) (by omega)]
  refine scan_intro xs.length (by omega) (fun i => ∀ j : Nat, j < i → j < xs.length → 0 ≤ at0 xs j ∧ at0 xs j < cols ∧ (0 < j → at0 xs ((j : Int) - 1) < at0 xs j)) (by simp) (fun i next hi hR hn => ?_) (fun next hR => ?_)
  · refine ifP_dec (fun _ => ?_) (fun h => by omega)
    refine idxP_at0 (by omega) (by omega) (dcsc_within_ok (ifP_not (fun h => h2 ⟨i, hi, fun hh => ?_⟩) (fun h => ?_)))
    · simp at h; omega
    have h : 0 ≤ at0 xs i ∧ at0 xs i ≤ cols - 1 := by simpa using h
    have hstep (hx : 0 < i → at0 xs ((i : Int) - 1) < at0 xs i) : next (w64 ((i : Int) + 1)) := hn fun j hj hjl => by
      by_cases e : j = i
      · subst e; exact ⟨h.1, by omega, hx⟩
      · exact hR j (by omega) hjl
    refine ifP_dec (fun h0 => ?_) (fun h0 => hstep fun h => by omega)
    rw [w64_id (by omega) (by omega)]
    refine idxP_at0 (by omega) (by omega) (ifP_dec (fun hle => h2 ⟨i, hi, fun hh => ?_⟩) (fun hle => hstep fun _ => by omega))
    have := hh.2.2 (by omega); omega
  · exact ifP_dec (fun h => by omega) (fun _ => h1 fun j hj => hR j hj hj)
theorem lt_le {xs : List Int} {n : Nat} (h : ∀ i : Nat, i < n → at0 xs i < at0 xs ((i : Int) + 1)) {i j : Nat} (h1 : i ≤ j) (h2 : j ≤ n) : at0 xs i ≤ at0 xs j := by
  induction j with
  | zero => have : i = 0 := by omega
            subst this; exact Int.le_refl _
  | succ j ih =>
    by_cases e : i = j + 1
    · subst e; exact Int.le_refl _
    · have := ih (by omega) (by omega)
      have h3 := h j (by omega)
      have : ((j + 1 : Nat) : Int) = (j : Int) + 1 := by omega
      rw [this]; omega
theorem dcsc_right_ok {c : Columns} {Q : Bool → Prop} (hl : smallC c) (hQ : Q (decide (ColP c))) : dcsc_Right c Q := by
  unfold dcsc_Right
  have hno (h : ¬ ColP c) : Q false := by rwa [decide_eq_false h] at hQ
  have hyes (h : ColP c) : Q true := by rwa [decide_eq_true h] at hQ
  unfold smallC at hl
  refine dcsc_within_ok (ifP_not (fun h => hno fun hh => ?_) (fun h => ?_))
  · have := hh.r0; have := hh.r1; simp at h; omega
  have h1 : 0 ≤ c.Rows ∧ c.Rows ≤ 4096 := by simpa using h
  refine dcsc_within_ok (ifP_not (fun h => hno fun hh => ?_) (fun h => ?_))
  · have := hh.c0; have := hh.c1; simp at h; omega
  have h2 : 0 ≤ c.Cols ∧ c.Cols ≤ 4096 := by simpa using h
  rw [w64_id (by omega) (by omega)]
  refine ifP_ne (fun h => hno fun hh => h hh.sl) (fun h3 => ?_)
  refine ifP_ne (fun h => hno fun hh => h (by rw [hh.vl])) (fun h4 => ?_)
  refine ifP_dec (fun h => hno fun hh => by have := hh.cl; omega) (fun h5 => ?_)
  have hsl : c.Start.length = c.At.length + 1 := by omega
  refine rising_ok h2.1 (by omega) (by omega) (fun hat => ifP_neg rfl ?_) (fun hb => ifP_pos rfl (hno fun hh => ?_))
  rotate_left
  · obtain ⟨i, hi, hbad⟩ := hb
    exact hbad (hh.at_ i hi)
  rw [w64_id (by omega) (by omega)]
  refine rising_ok (by omega) (by omega) (by omega) (fun hst => ifP_neg rfl ?_) (fun hb => ifP_pos rfl (hno fun hh => ?_))
  rotate_left
  · obtain ⟨i, hi, hbad⟩ := hb
    have g0 := lt_le hh.up (i := 0) (j := i) (by omega) (by omega)
    have g1 := lt_le hh.up (i := i) (j := c.At.length) (by omega) (by omega)
    have e0 := hh.s0; have en := hh.sn
    rw [show ((0 : Nat) : Int) = 0 from rfl] at g0
    refine hbad ⟨by omega, by omega, fun hp => ?_⟩
    have := hh.up (i - 1) (by omega)
    rw [show ((i - 1 : Nat) : Int) = (i : Int) - 1 by omega, show (i : Int) - 1 + 1 = i by omega] at this
    exact this
  refine idxP_at0 (by omega) (by omega) (ifP_ne (fun h => hno fun hh => h hh.s0) (fun h6 => ?_))
  refine idxP_at0 (by omega) (by omega) (ifP_ne (fun h => hno fun hh => h hh.sn) (fun h7 => ?_))
  have hup : ∀ i : Nat, i < c.At.length → at0 c.Start i < at0 c.Start ((i : Int) + 1) := fun i hi => by
    have := (hst (i + 1) (by omega)).2.2 (by omega)
    rw [show ((i + 1 : Nat) : Int) - 1 = i by omega, show ((i + 1 : Nat) : Int) = (i : Int) + 1 by omega] at this
    exact this
  refine scan_intro c.At.length (by omega) (fun i => ∀ j : Nat, j < i → ColR c j) (by simp) (fun i next hi hR hnx => ?_) (fun next hR => ?_)
  · refine ifP_dec (fun _ => ?_) (fun h => by omega)
    have e1 : w64 ((i : Int) + 1) = (i : Int) + 1 := w64_id (by omega) (by omega)
    rw [e1] at hnx ⊢
    have hlo : 0 ≤ at0 c.Start i := (hst i (by omega)).1
    have hhi : at0 c.Start ((i : Int) + 1) ≤ c.Row.length := by
      have := (hst (i + 1) (by omega)).2.1
      rw [show ((i + 1 : Nat) : Int) = (i : Int) + 1 by omega] at this; omega
    have hm := hup i hi
    refine idxP_at0 (by omega) (by omega) (idxP_at0 (by omega) (by omega) ⟨hlo, by omega, hhi, ?_⟩)
    have hsl2 := seg_len hlo (Int.le_of_lt hm) hhi
    have heq : ∀ j : Nat, at0 c.Start i + j < at0 c.Start ((i : Int) + 1) → at0 ((c.Row.take (at0 c.Start ((i : Int) + 1)).toNat).drop (at0 c.Start i).toNat) j = at0 c.Row (at0 c.Start i + j) := fun j hj => at0_seg hlo (Int.le_of_lt hm) hhi hj
    refine rising_ok (by omega) (by omega) (by rw [hsl2]; omega) (fun hall => ifP_neg rfl (hnx fun j hj => ?_)) (fun hb => ifP_pos rfl (hno fun hh => ?_))
    · by_cases e : j = i
      · subst e
        intro p hp1 hp2
        obtain ⟨q, hq⟩ : ∃ q : Nat, (p : Int) = at0 c.Start j + q := ⟨(p - at0 c.Start j).toNat, by omega⟩
        have hr := hall q (by rw [hsl2]; omega)
        rw [heq q (by omega), ← hq] at hr
        refine ⟨hr.1, hr.2.1, fun hlt => ?_⟩
        have := hr.2.2 (by omega)
        rw [show (q : Int) - 1 = ((q - 1 : Nat) : Int) by omega, heq (q - 1) (by omega), show at0 c.Start j + ((q - 1 : Nat) : Int) = (p : Int) - 1 by omega] at this
        exact this
      · exact hR j (by omega)
    · obtain ⟨q, hq, hbad⟩ := hb
      rw [hsl2] at hq
      apply hbad
      have hr := hh.row i hi (at0 c.Start i + q).toNat (by omega) (by omega)
      have ep : (((at0 c.Start i + q).toNat : Nat) : Int) = at0 c.Start i + q := by omega
      rw [ep] at hr
      rw [heq q (by omega)]
      refine ⟨hr.1, hr.2.1, fun h0 => ?_⟩
      have := hr.2.2 (by omega)
      rw [show (q : Int) - 1 = ((q - 1 : Nat) : Int) by omega, heq (q - 1) (by omega), show at0 c.Start i + ((q - 1 : Nat) : Int) = at0 c.Start i + q - 1 by omega]
      exact this
  · refine ifP_dec (fun h => by omega) (fun _ => hyes ⟨h1.1, h1.2, h2.1, h2.2, h3, by omega, by omega, h6, h7, hat, hup, fun i hi => hR i (by omega)⟩)
end Go.Proofs.YtdfiinkpdaggeaaGreat
