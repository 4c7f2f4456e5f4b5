/- Rows read: one row, one place, all triples. -/
import Derived.Test.YtdfiinkpdaggeaaGreatCsrG
namespace Go.Proofs.YtdfiinkpdaggeaaGreat
open Go Go.Fw
set_option linter.unusedVariables false
set_option linter.unusedSimpArgs false
def segS (ts : List Triple) (i : Nat) : List Triple := ts.filter fun t => decide (t.Row = i)
theorem seg_eq {ts : List Triple} (h : Srt ts) (i : Nat) {lo hi : Nat} (hlo : below ts i = lo) (hhi : below ts (i + 1) = hi) (hle : lo ≤ hi) (hl : hi ≤ ts.length) : (ts.take hi).drop lo = segS ts i := by
  have e : ts = ts.take lo ++ ((ts.take hi).drop lo ++ ts.drop hi) := by
    have h1 : ts.take lo = (ts.take hi).take lo := by rw [List.take_take, Nat.min_eq_left hle]
    rw [← List.append_assoc, h1, List.take_append_drop, List.take_append_drop]
  have hr : ∀ (p : Nat) (hp : p < ts.length), ts[p].Row = i ↔ lo ≤ p ∧ p < hi := fun p hp => by have := h.at (i := i) hp; omega
  unfold segS
  conv => rhs; rw [e]
  rw [List.filter_append, List.filter_append, List.filter_eq_nil_iff.2, List.filter_eq_self.2, List.filter_eq_nil_iff.2]
  · simp
  · intro t ht
    obtain ⟨j, hj, rfl⟩ := List.getElem_of_mem ht
    simp only [List.getElem_drop, decide_eq_true_eq]
    rw [hr]; omega
  · intro t ht
    obtain ⟨j, hj, rfl⟩ := List.getElem_of_mem ht
    simp only [List.getElem_drop, List.getElem_take, decide_eq_true_eq]
    simp only [List.length_drop, List.length_take] at hj
    rw [hr]; omega
  · intro t ht
    obtain ⟨j, hj, rfl⟩ := List.getElem_of_mem ht
    simp only [List.getElem_take, decide_eq_true_eq]
    simp only [List.length_take] at hj
    rw [hr]; omega
structure Seg (ts : List Triple) (i l u : Nat) : Prop where
  lo : below ts i = l
  hi : below ts (i + 1) = u
  le : l ≤ u
  len : u ≤ ts.length
  eq : (ts.take u).drop l = segS ts i
  row : ∀ (p : Nat) (hp : p < ts.length), l ≤ p → p < u → ts[p].Row = i
theorem Canon.seg {rows cols : Int} {ts : List Triple} (h : Canon rows cols ts) (i : Nat) : ∃ lo hi, Seg ts i lo hi := by
  have hs := below_succ i ts fun t ht => (h.inn t ht).1
  have ha := atRow_le ts (i + 1)
  have hb := below_le ts (i + 1)
  obtain ⟨lo, hlo⟩ : ∃ lo : Nat, below ts i = lo := ⟨_, rfl⟩
  obtain ⟨hi, hhi⟩ : ∃ hi : Nat, below ts (i + 1) = hi := ⟨_, rfl⟩
  exact ⟨lo, hi, hlo, hhi, by omega, by omega, seg_eq h.srt i hlo hhi (by omega) (by omega), fun p hp h1 h2 => by have := h.srt.at (i := i) hp; omega⟩
theorem Canon.sml {rows cols : Int} {ts : List Triple} (h : Canon rows cols ts) : small (builtS rows cols ts) := by
  have := h.r0; have := h.r1; have := h.len
  unfold small builtS; simp; omega
theorem start_idx {rows cols : Int} {ts : List Triple} {i : Nat} {K : Int → Prop} (h : (i : Int) ≤ rows) (hk : K (below ts i)) : idxP (builtS rows cols ts).Start (i : Int) K :=
  idxP_intro (by omega) (rm_get (by simp; omega)) hk
theorem part_ok {rows cols : Int} {ts : List Triple} {i : Nat} {Q : List Int × List Int → Prop} (h : Canon rows cols ts) (hi : (i : Int) < rows) (hQ : Q ((segS ts i).map (·.Col), (segS ts i).map (·.Val))) : csr_part (builtS rows cols ts) i Q := by
  unfold csr_part
  have hr := h.r1
  obtain ⟨lo, hi', s⟩ := h.seg i
  have e1 : w64 ((i : Int) + 1) = (i + 1 : Nat) := by rw [w64_id (by omega) (by omega)]; omega
  rw [e1]
  refine start_idx (by omega) (start_idx (by omega) ?_)
  rw [s.lo, s.hi]
  have h1 := s.le; have h2 := s.len
  have hc : (builtS rows cols ts).Col.length = ts.length := by simp [builtS]
  have hv : (builtS rows cols ts).Val.length = ts.length := by simp [builtS]
  refine ⟨by omega, by omega, by omega, by omega, by omega, by omega, ?_⟩
  simp only [Int.toNat_natCast, builtS, ← List.map_take, ← List.map_drop, s.eq]
  exact hQ
def itS (t : Triple) : Item := ⟨t.Col, t.Val⟩
def rowS (rows : Int) (ts : List Triple) (i : Int) : List Item := if 0 ≤ i ∧ i < rows then (segS ts i.toNat).map itS else []
theorem ext_step {ts : List Triple} {lo p : Nat} (h1 : lo ≤ p) (h2 : p < ts.length) : (ts.take (p + 1)).drop lo = (ts.take p).drop lo ++ [ts[p]] := by
  rw [List.take_succ_eq_append_getElem h2, List.drop_append_of_le_length (by simp; omega)]
theorem ref_row_ok {a : Rows} {rows cols i : Int} {ts : List Triple} {Q : List Item → Prop} (hl : small a) (ha : sureS a = builtS rows cols ts) (h : Canon rows cols ts) (hQ : Q (rowS rows ts i)) : ref07_Row a i Q := by
  unfold ref07_Row
  have hr0 := h.r0; have hr1 := h.r1; have hlen := h.len
  refine ref_sure_ok hl ?_
  rw [ha]
  unfold rowS at hQ
  refine ifP_dec (fun hn => ?_) (fun h1 => ifP_dec (fun (hn : rows ≤ i) => ?_) (fun (h2 : ¬ rows ≤ i) => ?_))
  · rw [if_neg (by omega)] at hQ; exact hQ
  · rw [if_neg (by omega)] at hQ; exact hQ
  rw [if_pos (by omega)] at hQ
  obtain ⟨n, rfl⟩ : ∃ n : Nat, i = n := ⟨i.toNat, by omega⟩
  rw [Int.toNat_natCast] at hQ
  obtain ⟨lo, hi', s⟩ := h.seg n
  have e1 : w64 ((n : Int) + 1) = (n + 1 : Nat) := by rw [w64_id (by omega) (by omega)]; omega
  rw [e1]
  refine start_idx (by omega) ?_
  rw [s.lo]
  have g1 := s.le; have g2 := s.len
  refine range_intro (fun (s : List Item) i => (s, i)) lo hi' (by omega) (fun p st => st = ((ts.take p).drop lo).map itS) (by omega) (s0 := []) (by simp) (fun p st next hp1 hp2 hm hn => ?_) (fun st next hm => ?_)
  · subst hm
    dsimp only
    refine start_idx (by omega) ?_
    rw [s.hi]
    have hpl : p < ts.length := by omega
    refine ifP_dec (fun _ => ?_) (fun h => by omega)
    refine idxP_intro (by omega) (x := ts[p].Col) (by simp [builtS, hpl]) (idxP_intro (by omega) (x := ts[p].Val) (by simp [builtS, hpl]) (appP_intro ?_ (hn _ ?_)))
    · simp; omega
    · rw [ext_step hp1 hpl, List.map_append]; rfl
  · subst hm
    dsimp only
    refine start_idx (by omega) ?_
    rw [s.hi]
    refine ifP_dec (fun h => by omega) (fun _ => ?_)
    rw [s.eq]; exact hQ
/-! ### All triples -/
theorem csr_triples_ok {a : Rows} {rows cols : Int} {ts : List Triple} {Q : List Triple → Prop} (hl : small a) (ha : sureS a = builtS rows cols ts) (h : Canon rows cols ts) (hQ : Q ts) : csr_Triples a Q := by
  unfold csr_Triples
  have hr0 := h.r0; have hr1 := h.r1; have hlen := h.len
  refine sure_ok hl ?_
  rw [ha]
  obtain ⟨n, hn⟩ : ∃ n : Nat, rows = n := ⟨rows.toNat, by omega⟩
  have hrw : (builtS rows cols ts).Rows = n := hn
  rw [hrw]
  refine range_intro (fun (s : List Triple) i => (s, i)) 0 n (by omega) (fun i s => s = ts.take (below ts i).toNat) (by omega) (s0 := []) (by rw [below_zero fun t ht => (h.inn t ht).1]; rfl) (fun i s next _ hi hm hnx => ?_) (fun s next hm => ?_)
  · subst hm
    dsimp only
    refine ifP_dec (fun _ => ?_) (fun h => by omega)
    refine part_ok h (by omega) ?_
    obtain ⟨lo, hi', s⟩ := h.seg i
    have g1 := s.le; have g2 := s.len
    rw [s.lo, Int.toNat_natCast]
    have hsl : (segS ts i).length = hi' - lo := by rw [← s.eq]; simp; omega
    have hgt : ∀ (j : Nat) (hj : j < (segS ts i).length), (segS ts i)[j] = ts[lo + j]'(by omega) := fun j hj => by simp [← s.eq]
    refine range_intro (fun (s : List Triple) i => (s, i)) 0 (segS ts i).length (by omega) (fun j st => st = ts.take (lo + j)) (by omega) (by simp) (fun j st nx _ hj hm hnj => ?_) (fun st nx hm => ?_)
    · subst hm
      dsimp only
      refine ifP_dec (fun _ => ?_) (fun h => by simp at h; omega)
      have hpl : lo + j < ts.length := by omega
      refine idxP_intro (by omega) (x := ts[lo + j].Col) (by simp [hj, hgt]) (idxP_intro (by omega) (x := ts[lo + j].Val) (by simp [hj, hgt]) (appP_intro ?_ (hnj _ ?_)))
      · simp; omega
      · rw [show lo + (j + 1) = lo + j + 1 by omega, List.take_succ_eq_append_getElem hpl]
        congr 2
        have := s.row (lo + j) hpl (by omega) (by omega)
        rw [← this]
    · subst hm
      dsimp only
      refine ifP_dec (fun h => by simp at h) (fun _ => hnx _ ?_)
      rw [s.hi, hsl, Int.toNat_natCast]; congr 1; omega
  · subst hm
    dsimp only
    refine ifP_dec (fun h => by omega) (fun _ => ?_)
    have hb := below_all h
    rw [hn, Int.toNat_natCast] at hb
    rw [hb, Int.toNat_natCast, List.take_length]; exact hQ
theorem ref_triples_ok {a : Rows} {rows cols : Int} {ts : List Triple} {Q : List Triple → Prop} (hl : small a) (ha : sureS a = builtS rows cols ts) (h : Canon rows cols ts) (hQ : Q ts) : ref07_Triples a Q := by
  unfold ref07_Triples
  have hr0 := h.r0; have hr1 := h.r1; have hlen := h.len
  refine ref_sure_ok hl ?_
  rw [ha]
  obtain ⟨n, hn⟩ : ∃ n : Nat, rows = n := ⟨rows.toNat, by omega⟩
  have hrw : (builtS rows cols ts).Rows = n := hn
  rw [hrw]
  refine range_intro (fun (s : List Triple) i => (s, i)) 0 n (by omega) (fun i s => s = ts.take (below ts i).toNat) (by omega) (s0 := []) (by rw [below_zero fun t ht => (h.inn t ht).1]; rfl) (fun i s next _ hi hm hnx => ?_) (fun s next hm => ?_)
  · subst hm
    dsimp only
    refine ifP_dec (fun _ => ?_) (fun h => by omega)
    obtain ⟨lo, hi', s⟩ := h.seg i
    have g1 := s.le; have g2 := s.len
    have e1 : w64 ((i : Int) + 1) = (i + 1 : Nat) := by rw [w64_id (by omega) (by omega)]; omega
    rw [e1] at hnx ⊢
    refine start_idx (by omega) ?_
    rw [s.lo, Int.toNat_natCast]
    refine range_intro (fun (s : List Triple) i => (s, i)) lo hi' (by omega) (fun p st => st = ts.take p) (by omega) rfl (fun p st nx hp1 hp2 hm hnj => ?_) (fun st nx hm => ?_)
    · subst hm
      dsimp only
      refine start_idx (by omega) ?_
      rw [s.hi]
      have hpl : p < ts.length := by omega
      refine ifP_dec (fun _ => ?_) (fun h => by omega)
      refine idxP_intro (by omega) (x := ts[p].Col) (by simp [builtS, hpl]) (idxP_intro (by omega) (x := ts[p].Val) (by simp [builtS, hpl]) (appP_intro ?_ (hnj _ ?_)))
      · simp; omega
      · rw [List.take_succ_eq_append_getElem hpl]
        congr 2
        have := s.row p hpl (by omega) (by omega)
        rw [← this]
    · subst hm
      dsimp only
      refine start_idx (by omega) ?_
      rw [s.hi]
      refine ifP_dec (fun h => by omega) (fun _ => hnx _ ?_)
      rw [s.hi, Int.toNat_natCast]
  · subst hm
    dsimp only
    refine ifP_dec (fun h => by omega) (fun _ => ?_)
    have hb := below_all h
    rw [hn, Int.toNat_natCast] at hb
    rw [hb, Int.toNat_natCast, List.take_length]; exact hQ
/-! ### One place -/
end Go.Proofs.YtdfiinkpdaggeaaGreat
