/- Right columns are sorted triples, put together by columns. -/
import Derived.Test.YtdfiinkpdaggeaaGreatDcscA
namespace Go.Proofs.YtdfiinkpdaggeaaGreat
open Go Go.Fw
set_option linter.unusedVariables false
set_option linter.unusedSimpArgs false
theorem Canon.colp {rows cols : Int} {T : List Triple} (h : Canon cols rows T) : ColP (colS rows cols T) where
  r0 := h.c0
  r1 := h.c1
  c0 := h.r0
  c1 := h.r1
  sl := by simp [colS, st_len]
  vl := by simp [colS]
  cl := by simpa [colS] using h.len
  s0 := rfl
  sn := by
    show at0 (stS cols.toNat T) (atS cols.toNat T).length = ((T.map (·.Col)).length : Int)
    rw [List.length_map]
    cases hl : (atS cols.toNat T).length with
    | zero =>
      have hn : T = [] := by
        rcases T with _ | ⟨t, T⟩
        · rfl
        · obtain ⟨q, hq, _⟩ := row_at h (t := t) (by simp)
          omega
      subst hn; rfl
    | succ n =>
      have hj : n < (atS cols.toNat T).length := by omega
      rw [show ((n + 1 : Nat) : Int) = (n : Int) + 1 by omega, st_hi hj]
      unfold below
      rw [List.countP_eq_length.2]
      intro t ht
      obtain ⟨q, hq, e⟩ := row_at h ht
      simp only [decide_eq_true_eq]
      rw [← e]
      have h0 := (at_in hj).1
      by_cases e1 : q = n
      · subst e1; omega
      · have := incr_at (atS_incr cols.toNat T) (show q < n by omega) hj; omega
  at_ i hi := by
    have h0 := (at_in (T := T) (n := cols.toNat) hi).1
    refine ⟨h0.1, by have := h.r0; show at0 (atS cols.toNat T) i < cols; omega, fun hp => ?_⟩
    have := incr_at (atS_incr cols.toNat T) (show i - 1 < i by omega) hi
    rw [show ((i - 1 : Nat) : Int) = (i : Int) - 1 by omega] at this
    exact this
  up i hi := by
    obtain ⟨x, lo, hi', h1, h2, h3, h4, h5, s⟩ := h.colseg hi
    show at0 (stS cols.toNat T) i < at0 (stS cols.toNat T) ((i : Int) + 1)
    omega
  row i hi := by
    obtain ⟨x, lo, hi', h1, h2, h3, h4, h5, s⟩ := h.colseg hi
    intro j hj1 hj2
    have hj1 : at0 (stS cols.toNat T) i ≤ j := hj1
    have hj2 : (j : Int) < at0 (stS cols.toNat T) ((i : Int) + 1) := hj2
    show 0 ≤ at0 (T.map (·.Col)) j ∧ at0 (T.map (·.Col)) j < rows ∧ (at0 (stS cols.toNat T) i < j → at0 (T.map (·.Col)) ((j : Int) - 1) < at0 (T.map (·.Col)) j)
    have hl := s.len
    have hjl : j < T.length := by omega
    have hc : at0 (T.map (·.Col)) j = T[j].Col := by rw [at0_map (by omega) (by omega)]; rfl
    have hin := h.inn _ (List.getElem_mem hjl)
    unfold inT at hin
    refine ⟨by rw [hc]; omega, by rw [hc]; omega, fun hlt => ?_⟩
    obtain ⟨q, rfl⟩ : ∃ q, j = q + 1 := ⟨j - 1, by omega⟩
    have hc2 : at0 (T.map (·.Col)) (((q + 1 : Nat) : Int) - 1) = T[q].Col := by rw [at0_map (by omega) (by simp; omega)]; simp
    have r1 := s.row q (by omega) (by omega) (by omega)
    have r2 := s.row (q + 1) hjl (by omega) (by omega)
    have hs := List.pairwise_iff_getElem.1 h.srt q (q + 1) (by omega) hjl (by omega)
    unfold ltK key at hs
    simp only at hs
    rw [hc, hc2]; omega
/-! ### Back -/
def idxC (c : Columns) (p : Nat) : Nat := (List.range c.At.length).countP fun i : Nat => decide (at0 c.Start ((i : Int) + 1) ≤ p)
def tripC (c : Columns) : List Triple := (List.range c.Row.length).map fun p => ⟨at0 c.At (idxC c p), at0 c.Row p, at0 c.Val p⟩
theorem idxC_lt {c : Columns} (h : ColP c) (p v : Nat) (hv : v ≤ c.At.length) : idxC c p < v ↔ (p : Int) < at0 c.Start v := by
  cases v with
  | zero => have := h.s0; rw [show ((0 : Nat) : Int) = 0 from rfl, this]; omega
  | succ v =>
    have hm := mono_count (q := fun i : Nat => decide (at0 c.Start ((i : Int) + 1) ≤ p)) (l := List.range c.At.length) (by
      rw [List.pairwise_iff_getElem]
      intro i j hi hj hij
      simp only [List.getElem_range, decide_eq_true_eq]
      intro hh
      simp at hj
      have := lt_le h.up (i := i + 1) (j := j + 1) (by omega) (by omega)
      have e1 : ((i + 1 : Nat) : Int) = (i : Int) + 1 := by omega
      have e2 : ((j + 1 : Nat) : Int) = (j : Int) + 1 := by omega
      rw [e1, e2] at this; omega) v (by simp; omega)
    simp only [List.getElem_range, decide_eq_true_eq] at hm
    have e2 : ((v + 1 : Nat) : Int) = (v : Int) + 1 := by omega
    rw [e2]
    unfold idxC
    omega
theorem riseC {c : Columns} (h : ColP c) {i p q : Nat} (hi : i < c.At.length) (h1 : at0 c.Start i ≤ p) (h2 : (q : Int) < at0 c.Start ((i : Int) + 1)) (hpq : p < q) : at0 c.Row p < at0 c.Row q := by
  induction q with
  | zero => omega
  | succ q ih =>
    have := (h.row i hi (q + 1) (by omega) h2).2.2 (by omega)
    rw [show ((q + 1 : Nat) : Int) - 1 = q by omega] at this
    by_cases e : p = q
    · subst e; exact this
    · have := ih (by omega) (by omega); omega
theorem atC_incr {c : Columns} (h : ColP c) : c.At.Pairwise (· < ·) := by
  rw [List.pairwise_iff_getElem]
  intro i j hi hj hij
  have e : ∀ k (hk : k < c.At.length), c.At[k] = at0 c.At k := fun k hk => by unfold at0; simp [List.getD_eq_getElem?_getD, hk]
  rw [e, e]
  induction j with
  | zero => omega
  | succ j ih =>
    have := (h.at_ (j + 1) hj).2.2 (by omega)
    rw [show ((j + 1 : Nat) : Int) - 1 = j by omega] at this
    by_cases e : i = j
    · subst e; exact this
    · have := ih (by omega) (by omega); omega
theorem ColP.canon {c : Columns} (h : ColP c) : Canon c.Cols c.Rows (tripC c) ∧ c = colS c.Rows c.Cols (tripC c) := by
  have hinc := atC_incr h
  have hlt : ∀ p : Nat, p < c.Row.length → idxC c p < c.At.length := fun p hp => (idxC_lt h p _ (Nat.le_refl _)).2 (by have := h.sn; omega)
  have hst : ∀ (p : Nat), p < c.Row.length → at0 c.Start (idxC c p) ≤ p ∧ (p : Int) < at0 c.Start ((idxC c p : Nat) + 1) := fun p hp => by
    have h0 := hlt p hp
    have h1 := idxC_lt h p (idxC c p) (by omega)
    have h2 := idxC_lt h p (idxC c p + 1) (by omega)
    rw [show ((idxC c p + 1 : Nat) : Int) = (idxC c p : Int) + 1 by omega] at h2
    omega
  have hcan : Canon c.Cols c.Rows (tripC c) := by
    refine ⟨h.c0, h.c1, h.r0, h.r1, by simpa [tripC] using h.cl, ?_, ?_⟩
    · unfold Srt tripC
      rw [List.pairwise_map, List.pairwise_iff_getElem]
      intro i j hi hj hij
      have hi : i < c.Row.length := by simpa using hi
      have hj : j < c.Row.length := by simpa using hj
      simp only [List.getElem_range]
      have h1 := hst i hi
      have h2 := hst j hj
      have hri' := hlt i hi
      have hrj' := hlt j hj
      have hle : idxC c i ≤ idxC c j := by
        have := idxC_lt h i (idxC c j + 1) (by omega)
        rw [show ((idxC c j + 1 : Nat) : Int) = (idxC c j : Int) + 1 by omega] at this
        omega
      unfold ltK key
      simp only
      by_cases e : idxC c i = idxC c j
      · rw [e]
        rw [e] at h1
        exact .inr ⟨rfl, riseC h hrj' h1.1 h2.2 hij⟩
      · left; exact incr_at hinc (by omega) hrj'
    · intro t ht
      obtain ⟨p, hp, rfl⟩ := List.mem_map.1 ht
      simp only [List.mem_range] at hp
      have h0 := hlt p hp
      have h1 := hst p hp
      have h2 := h.row _ h0 p h1.1 h1.2
      have h3 := h.at_ _ h0
      unfold inT
      simp only
      omega
  refine ⟨hcan, ?_⟩
  have hat : atS c.Cols.toNat (tripC c) = c.At := by
    refine incr_ext (atS_incr _ _) hinc fun x => ?_
    rw [atS_mem]
    constructor
    · rintro ⟨_, t, ht, rfl⟩
      obtain ⟨p, hp, rfl⟩ := List.mem_map.1 ht
      simp only [List.mem_range] at hp
      exact at0_mem (by omega) (by have := hlt p hp; omega)
    · intro hx
      obtain ⟨i, hi, rfl⟩ := mem_at0 hx
      have h3 := h.at_ i hi
      have h4 := h.up i hi
      have h5 := lt_le h.up (i := 0) (j := i) (by omega) (by omega)
      have h6 := lt_le h.up (i := i + 1) (j := c.At.length) (by omega) (by omega)
      have h7 := h.s0; have h8 := h.sn
      rw [show ((0 : Nat) : Int) = 0 from rfl] at h5
      rw [show ((i + 1 : Nat) : Int) = (i : Int) + 1 by omega] at h6
      obtain ⟨p, hp⟩ : ∃ p : Nat, at0 c.Start i = p := ⟨(at0 c.Start i).toNat, by omega⟩
      have hpl : p < c.Row.length := by omega
      have e : idxC c p = i := by
        have g1 := idxC_lt h p i (by omega)
        have g2 := idxC_lt h p (i + 1) (by omega)
        rw [show ((i + 1 : Nat) : Int) = (i : Int) + 1 by omega] at g2
        omega
      have := h.c0
      exact ⟨⟨by omega, by omega⟩, _, List.mem_map.2 ⟨p, by simpa using hpl, rfl⟩, by simp only [e]⟩
  have hb : ∀ i : Nat, i < c.At.length → below (tripC c) ((at0 c.At i).toNat + 1) = at0 c.Start ((i : Int) + 1) := by
    intro i hi
    unfold below tripC
    rw [List.countP_map]
    have h3 := h.at_ i hi
    have h1 : 0 ≤ at0 c.Start ((i : Int) + 1) := by
      have := lt_le h.up (i := 0) (j := i + 1) (by omega) (by omega)
      have h0 := h.s0
      rw [show ((0 : Nat) : Int) = 0 from rfl, h0, show ((i + 1 : Nat) : Int) = (i : Int) + 1 by omega] at this; exact this
    have h2 : at0 c.Start ((i : Int) + 1) ≤ c.Row.length := by
      have := lt_le h.up (i := i + 1) (j := c.At.length) (by omega) (by omega)
      have h0 := h.sn
      rw [h0, show ((i + 1 : Nat) : Int) = (i : Int) + 1 by omega] at this; exact this
    refine Eq.trans ?_ (countP_lt (at0 c.Start ((i : Int) + 1)) h1 c.Row.length h2)
    congr 1
    apply List.countP_congr
    intro p hp
    simp only [List.mem_range] at hp
    simp only [Function.comp_apply, decide_eq_true_eq]
    have h4 := idxC_lt h p (i + 1) (by omega)
    rw [show ((i + 1 : Nat) : Int) = (i : Int) + 1 by omega] at h4
    rw [← h4]
    have h5 := hlt p hp
    have h6 := h.at_ _ h5
    constructor
    · intro hh
      rcases Nat.lt_or_ge (idxC c p) (i + 1) with hc | hc
      · exact hc
      · exfalso
        have := incr_at hinc (show i < idxC c p by omega) h5
        omega
    · intro hh
      by_cases e : idxC c p = i
      · rw [e]; omega
      · have := incr_at hinc (show idxC c p < i by omega) hi
        omega
  have hcl := h.vl
  have e1 : c.Start = stS c.Cols.toNat (tripC c) := by
    apply List.ext_getElem?
    intro i
    unfold stS
    rw [hat]
    have hsl := h.sl
    cases i with
    | zero =>
      have := h.s0
      unfold at0 at this
      rw [List.getD_eq_getElem?_getD] at this
      have hl : 0 < c.Start.length := by omega
      simp [List.getElem?_eq_getElem hl] at this ⊢
      exact this
    | succ i =>
      by_cases hi : i < c.At.length
      · have := hb i hi
        have hl : i + 1 < c.Start.length := by omega
        have e2 : at0 c.At i = c.At[i] := by unfold at0; simp [List.getD_eq_getElem?_getD, hi]
        have e3 : at0 c.Start ((i : Int) + 1) = c.Start[i + 1] := by unfold at0; rw [show ((i : Int) + 1).toNat = i + 1 by omega]; simp [List.getD_eq_getElem?_getD, hl]
        rw [e2, e3] at this
        simp [hl, hi, this]
      · rw [List.getElem?_eq_none (by omega), List.getElem?_eq_none (by simp; omega)]
  have e2 : c.Row = (tripC c).map (·.Col) := by unfold tripC; simp only [List.map_map]; exact (map_at0 c.Row _ rfl).symm
  have e3 : c.Val = (tripC c).map (·.Val) := by unfold tripC; simp only [List.map_map]; exact (map_at0 c.Val _ h.vl).symm
  cases c
  unfold colS
  simp only at hat e1 e2 e3 ⊢
  rw [hat, ← e1, ← e2, ← e3]
theorem colS_nil : colS 0 0 [] = ⟨0, 0, [], [0], [], []⟩ := by simp [colS, atS, stS]
/-- columns that are sure -/
noncomputable def sureC (c : Columns) : Columns := if ColP c then c else colS 0 0 []
theorem sureC_cases (c : Columns) : ∃ rows cols T, Canon cols rows T ∧ sureC c = colS rows cols T ∧ (ColP c → c = colS rows cols T) ∧ (¬ ColP c → rows = 0 ∧ cols = 0 ∧ T = []) := by
  unfold sureC
  by_cases h : ColP c
  · obtain ⟨h1, h2⟩ := h.canon
    exact ⟨_, _, _, h1, by rw [if_pos h]; exact h2, fun _ => h2, fun h' => absurd h h'⟩
  · exact ⟨0, 0, [], canon_empty, by rw [if_neg h], fun h' => absurd h' h, fun _ => ⟨rfl, rfl, rfl⟩⟩
theorem sureC_col {rows cols : Int} {T : List Triple} (h : Canon cols rows T) : sureC (colS rows cols T) = colS rows cols T := by
  unfold sureC; rw [if_pos h.colp]
theorem dcsc_sure_ok {c : Columns} {Q : Columns → Prop} (hl : smallC c) (hQ : Q (sureC c)) : dcsc_sure c Q := by
  unfold dcsc_sure dcsc_none
  unfold sureC at hQ
  refine dcsc_right_ok hl (ifP_dec (fun h => ?_) (fun h => ?_))
  · rwa [if_pos h] at hQ
  · rwa [if_neg h, colS_nil] at hQ
theorem ref_dcsc_sure_ok {c : Columns} {Q : Columns → Prop} (hl : smallC c) (hQ : Q (sureC c)) : ref08_Sure c Q := by
  unfold ref08_Sure
  unfold sureC at hQ
  refine ref_dcsc_right_ok hl (ifP_dec (fun h => ?_) (fun h => ?_))
  · rwa [if_pos h] at hQ
  · rwa [if_neg h, colS_nil] at hQ
theorem Canon.smlC {rows cols : Int} {T : List Triple} (h : Canon cols rows T) : smallC (colS rows cols T) := by
  have := h.r1; have := h.len; have := atS_len cols.toNat T
  unfold smallC colS
  simp only [List.length_map, st_len]
  omega
end Go.Proofs.YtdfiinkpdaggeaaGreat
