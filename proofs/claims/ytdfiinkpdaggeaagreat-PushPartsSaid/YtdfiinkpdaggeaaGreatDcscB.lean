/- Right columns are sorted triples, put together by columns. -/
import Derived.Test.YtdfiinkpdaggeaaGreatDcscA
namespace Go.Proofs.YtdfiinkpdaggeaaGreat
open Go Go.Fw
set_option linter.unusedVariables false
set_option linter.unusedSimpArgs false
theorem Canon.colp {rows cols : Int} {T : List Triple} (h : Canon cols rows T) : ColP (colS rows cols T) where
  r0 := h.c0
  r1 := h.c1
  c0 := h.r0
  c1 := h.r1
  sl := by simp [colS, st_len]
  vl := by simp [colS]
  cl := by simpa [colS] using h.len
  s0 := rfl
  sn := by
    show at0 (stS cols.toNat T) (atS cols.toNat T).length = ((T.map (·.Col)).length : Int)
    rw [List.length_map]
    cases hl : (atS cols.toNat T).length with
    | zero =>
      have hn : T = [] := by
        rcases T with _ | ⟨t, T⟩
        · rfl
        · obtain ⟨q, hq, _⟩ := row_at h (t := t) (by simp)
          omega
      subst hn; rfl
    | succ n =>
      have hj : n < (atS cols.toNat T).length := by omega
      rw [show ((n + 1 : Nat) : Int) = (n : Int) + 1 by omega, st_hi hj]
      unfold below
      rw [List.countP_eq_length.2]
      intro t ht
      obtain ⟨q, hq, e⟩ := row_at h ht
      simp only [decide_eq_true_eq]
      rw [← e]
      have h0 := (at_in hj).1
      by_cases e1 : q = n
      · subst e1; omega
      · have := incr_at (atS_incr cols.toNat T) (show q < n by omega) hj; omega
  at_ i hi := by
    have h0 := (at_in (T := T) (n := cols.toNat) hi).1
    refine ⟨h0.1, by have := h.r0; show at0 (atS cols.toNat T) i < cols; omega, fun hp => ?_⟩
    have := incr_at (atS_incr cols.toNat T) (show i - 1 < i by omega) hi
    rw [show ((i - 1 : Nat) : Int) = (i : Int) - 1 by omega] at this
    exact this
  up i hi := by
    obtain ⟨x, lo, hi', h1, h2, h3, h4, h5, s⟩ := h.colseg hi
    show at0 (stS cols.toNat T) i < at0 (stS cols.toNat T) ((i : Int) + 1)
    omega
  row i hi := by
    obtain ⟨x, lo, hi', h1, h2, h3, h4, h5, s⟩ := h.colseg hi
    intro j hj1 hj2
    have hj1 : at0 (stS cols.toNat T) i ≤ j := hj1
    have hj2 : (j : Int) < at0 (stS cols.toNat T) ((i : Int) + 1) := hj2
    show 0 ≤ at0 (T.map (·.Col)) j ∧ at0 (T.map (·.Col)) j < rows ∧ (at0 (stS cols.toNat T) i < j → at0 (T.map (·.Col)) ((j : Int) - 1) < at0 (T.map (·.Col)) j)
    have hl := s.len
    have hjl : j < T.length := by omega
    have hc : at0 (T.map (·.Col)) j = T[j].Col := by rw [at0_map (by omega) (by omega)]; rfl
    have hin := h.inn _ (List.getElem_mem hjl)
    unfold inT at hin
    refine ⟨by rw [hc]; omega, by rw [hc]; omega, fun hlt => ?_⟩
    obtain ⟨q, rfl⟩ : ∃ q, j = q + 1 := ⟨j - 1, by omega⟩
    have hc2 : at0 (T.map (·.Col)) (((q + 1 : Nat) : Int) - 1) = T[q].Col := by rw [at0_map (by omega) (by simp; omega)]; simp
    have r1 := s.row q (by omega) (by omega) (by omega)
    have r2 := s.row (q + 1) hjl (by omega) (by omega)
    have hs := List.pairwise_iff_getElem.1 h.srt q (q + 1) (by omega) hjl (by omega)
    unfold ltK key at hs
    simp only at hs
    rw [hc, hc2]; omega
/-! ### Back -/
theorem colS_nil : colS 0 0 [] = ⟨0, 0, [], [0], [], []⟩ := by simp [colS, atS, stS]
/-- columns that are sure -/
noncomputable def sureC (c : Columns) : Columns := if ColP c then c else colS 0 0 []
theorem sureC_col {rows cols : Int} {T : List Triple} (h : Canon cols rows T) : sureC (colS rows cols T) = colS rows cols T := by
  unfold sureC; rw [if_pos h.colp]
theorem dcsc_sure_ok {c : Columns} {Q : Columns → Prop} (hl : smallC c) (hQ : Q (sureC c)) : dcsc_sure c Q := by
  unfold dcsc_sure dcsc_none
  unfold sureC at hQ
  refine dcsc_right_ok hl (ifP_dec (fun h => ?_) (fun h => ?_))
  · rwa [if_pos h] at hQ
  · rwa [if_neg h, colS_nil] at hQ
theorem Canon.smlC {rows cols : Int} {T : List Triple} (h : Canon cols rows T) : smallC (colS rows cols T) := by
  have := h.r1; have := h.len; have := atS_len cols.toNat T
  unfold smallC colS
  simp only [List.length_map, st_len]
  omega
end Go.Proofs.YtdfiinkpdaggeaaGreat
