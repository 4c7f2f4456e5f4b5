/- Rows read: one row, one place, all triples. -/
import Derived.Test.YtindbiojednfbaaGreatCsrG
namespace Go.Proofs.YtindbiojednfbaaGreat
open Go Go.Fw
set_option linter.unusedVariables false
set_option linter.unusedSimpArgs false
def segS (ts : List Triple) (i : Nat) : List Triple := ts.filter fun t => decide (t.Row = i)
theorem seg_eq {ts : List Triple} (h : Srt ts) (i : Nat) {lo hi : Nat} (hlo : below ts i = lo) (hhi : below ts (i + 1) = hi) (hle : lo ≤ hi) (hl : hi ≤ ts.length) : (ts.take hi).drop lo = segS ts i := by
  have e : ts = ts.take lo ++ ((ts.take hi).drop lo ++ ts.drop hi) := by
    have h1 : ts.take lo = (ts.take hi).take lo := by rw [List.take_take, Nat.min_eq_left hle]
    rw [← List.append_assoc, h1, List.take_append_drop, List.take_append_drop]
  have hr : ∀ (p : Nat) (hp : p < ts.length), ts[p].Row = i ↔ lo ≤ p ∧ p < hi := fun p hp => by have := h.at (i := i) hp; omega
  unfold segS
  conv => rhs; rw [e]
  rw [List.filter_append, List.filter_append, List.filter_eq_nil_iff.2, List.filter_eq_self.2, List.filter_eq_nil_iff.2]
  · simp
  · intro t ht
    obtain ⟨j, hj, rfl⟩ := List.getElem_of_mem ht
    simp only [List.getElem_drop, decide_eq_true_eq]
    rw [hr]; omega
  · intro t ht
    obtain ⟨j, hj, rfl⟩ := List.getElem_of_mem ht
    simp only [List.getElem_drop, List.getElem_take, decide_eq_true_eq]
    simp only [List.length_drop, List.length_take] at hj
    rw [hr]; omega
  · intro t ht
    obtain ⟨j, hj, rfl⟩ := List.getElem_of_mem ht
    simp only [List.getElem_take, decide_eq_true_eq]
    simp only [List.length_take] at hj
    rw [hr]; omega
structure Seg (ts : List Triple) (i l u : Nat) : Prop where
  lo : below ts i = l
  hi : below ts (i + 1) = u
  le : l ≤ u
  len : u ≤ ts.length
  eq : (ts.take u).drop l = segS ts i
  row : ∀ (p : Nat) (hp : p < ts.length), l ≤ p → p < u → ts[p].Row = i
theorem Canon.seg {rows cols : Int} {ts : List Triple} (h : Canon rows cols ts) (i : Nat) : ∃ lo hi, Seg ts i lo hi := by
  have hs := below_succ i ts fun t ht => (h.inn t ht).1
  have ha := atRow_le ts (i + 1)
  have hb := below_le ts (i + 1)
  obtain ⟨lo, hlo⟩ : ∃ lo : Nat, below ts i = lo := ⟨_, rfl⟩
  obtain ⟨hi, hhi⟩ : ∃ hi : Nat, below ts (i + 1) = hi := ⟨_, rfl⟩
  exact ⟨lo, hi, hlo, hhi, by omega, by omega, seg_eq h.srt i hlo hhi (by omega) (by omega), fun p hp h1 h2 => by have := h.srt.at (i := i) hp; omega⟩
theorem Canon.sml {rows cols : Int} {ts : List Triple} (h : Canon rows cols ts) : small (builtS rows cols ts) := by
  have := h.r0; have := h.r1; have := h.len
  unfold small builtS; simp; omega
theorem start_idx {rows cols : Int} {ts : List Triple} {i : Nat} {K : Int → Prop} (h : (i : Int) ≤ rows) (hk : K (below ts i)) : idxP (builtS rows cols ts).Start (i : Int) K :=
  idxP_intro (by omega) (rm_get (by simp; omega)) hk
theorem part_ok {rows cols : Int} {ts : List Triple} {i : Nat} {Q : List Int × List Int → Prop} (h : Canon rows cols ts) (hi : (i : Int) < rows) (hQ : Q ((segS ts i).map (·.Col), (segS ts i).map (·.Val))) : csr_part (builtS rows cols ts) i Q := by
  unfold csr_part
  have hr := h.r1
  obtain ⟨lo, hi', s⟩ := h.seg i
  have e1 : w64 ((i : Int) + 1) = (i + 1 : Nat) := by rw [w64_id (by omega) (by omega)]; omega
  rw [e1]
  refine start_idx (by omega) (start_idx (by omega) ?_)
  rw [s.lo, s.hi]
  have h1 := s.le; have h2 := s.len
  have hc : (builtS rows cols ts).Col.length = ts.length := by simp [builtS]
  have hv : (builtS rows cols ts).Val.length = ts.length := by simp [builtS]
  refine ⟨by omega, by omega, by omega, by omega, by omega, by omega, ?_⟩
  simp only [Int.toNat_natCast, builtS, ← List.map_take, ← List.map_drop, s.eq]
  exact hQ
def itS (t : Triple) : Item := ⟨t.Col, t.Val⟩
def rowS (rows : Int) (ts : List Triple) (i : Int) : List Item := if 0 ≤ i ∧ i < rows then (segS ts i.toNat).map itS else []
theorem seg_len_le (ts : List Triple) (i : Nat) : (segS ts i).length ≤ ts.length := List.length_filter_le _ _
theorem csr_row_ok {a : Rows} {rows cols i : Int} {ts : List Triple} {Q : List Item → Prop} (hl : small a) (ha : sureS a = builtS rows cols ts) (h : Canon rows cols ts) (hQ : Q (rowS rows ts i)) : csr_Row a i Q := by
  unfold csr_Row
  have hr0 := h.r0; have hr1 := h.r1; have hlen := h.len
  refine sure_ok hl ?_
  rw [ha]
  have e : w64 ((builtS rows cols ts).Rows - 1) = rows - 1 := w64_id (by show -9223372036854775808 ≤ rows - 1; omega) (by show rows - 1 ≤ 9223372036854775807; omega)
  rw [e]
  unfold rowS at hQ
  refine within_ok (ifP_not (fun hn => ?_) (fun hy => ?_))
  · have hn : ¬ (0 ≤ i ∧ i ≤ rows - 1) := by simpa using hn
    rw [if_neg (by omega)] at hQ; exact hQ
  have hy : 0 ≤ i ∧ i ≤ rows - 1 := by simpa using hy
  rw [if_pos (by omega)] at hQ
  obtain ⟨n, rfl⟩ : ∃ n : Nat, i = n := ⟨i.toNat, by omega⟩
  rw [Int.toNat_natCast] at hQ
  refine part_ok h (by omega) ?_
  have hs := seg_len_le ts n
  generalize segS ts n = xs at hQ hs
  refine range_intro (fun (s : List Item) i => (s, i)) 0 xs.length (by omega) (fun i s => s = (xs.take i).map itS) (by omega) rfl (fun i s next _ hi hm hn => ?_) (fun s next hm => ?_)
  · subst hm
    dsimp only
    refine ifP_dec (fun _ => ?_) (fun h => by simp at h; omega)
    refine idxP_intro (by omega) (x := xs[i].Col) (by simp [hi]) (idxP_intro (by omega) (x := xs[i].Val) (by simp [hi]) (appP_intro ?_ (hn _ ?_)))
    · simp; omega
    · rw [take_map hi]; rfl
  · subst hm
    dsimp only
    refine ifP_dec (fun h => by simp at h) (fun _ => ?_)
    rw [List.take_length]; exact hQ
theorem ext_step {ts : List Triple} {lo p : Nat} (h1 : lo ≤ p) (h2 : p < ts.length) : (ts.take (p + 1)).drop lo = (ts.take p).drop lo ++ [ts[p]] := by
  rw [List.take_succ_eq_append_getElem h2, List.drop_append_of_le_length (by simp; omega)]
theorem ref_row_ok {a : Rows} {rows cols i : Int} {ts : List Triple} {Q : List Item → Prop} (hl : small a) (ha : sureS a = builtS rows cols ts) (h : Canon rows cols ts) (hQ : Q (rowS rows ts i)) : ref07_Row a i Q := by
  unfold ref07_Row
  have hr0 := h.r0; have hr1 := h.r1; have hlen := h.len
  refine ref_sure_ok hl ?_
  rw [ha]
  unfold rowS at hQ
  refine ifP_dec (fun hn => ?_) (fun h1 => ifP_dec (fun (hn : rows ≤ i) => ?_) (fun (h2 : ¬ rows ≤ i) => ?_))
  · rw [if_neg (by omega)] at hQ; exact hQ
  · rw [if_neg (by omega)] at hQ; exact hQ
  rw [if_pos (by omega)] at hQ
  obtain ⟨n, rfl⟩ : ∃ n : Nat, i = n := ⟨i.toNat, by omega⟩
  rw [Int.toNat_natCast] at hQ
  obtain ⟨lo, hi', s⟩ := h.seg n
  have e1 : w64 ((n : Int) + 1) = (n + 1 : Nat) := by rw [w64_id (by omega) (by omega)]; omega
  rw [e1]
  refine start_idx (by omega) ?_
  rw [s.lo]
  have g1 := s.le; have g2 := s.len
  refine range_intro (fun (s : List Item) i => (s, i)) lo hi' (by omega) (fun p st => st = ((ts.take p).drop lo).map itS) (by omega) (s0 := []) (by simp) (fun p st next hp1 hp2 hm hn => ?_) (fun st next hm => ?_)
  · subst hm
    dsimp only
    refine start_idx (by omega) ?_
    rw [s.hi]
    have hpl : p < ts.length := by omega
    refine ifP_dec (fun _ => ?_) (fun h => by omega)
    refine idxP_intro (by omega) (x := ts[p].Col) (by simp [builtS, hpl]) (idxP_intro (by omega) (x := ts[p].Val) (by simp [builtS, hpl]) (appP_intro ?_ (hn _ ?_)))
    · simp; omega
    · rw [ext_step hp1 hpl, List.map_append]; rfl
  · subst hm
    dsimp only
    refine start_idx (by omega) ?_
    rw [s.hi]
    refine ifP_dec (fun h => by omega) (fun _ => ?_)
    rw [s.eq]; exact hQ
/-! ### All triples -/
theorem csr_triples_ok {a : Rows} {rows cols : Int} {ts : List Triple} {Q : List Triple → Prop} (hl : small a) (ha : sureS a = builtS rows cols ts) (h : Canon rows cols ts) (hQ : Q ts) : csr_Triples a Q := by
  unfold csr_Triples
  have hr0 := h.r0; have hr1 := h.r1; have hlen := h.len
  refine sure_ok hl ?_
  rw [ha]
  obtain ⟨n, hn⟩ : ∃ n : Nat, rows = n := ⟨rows.toNat, by omega⟩
  have hrw : (builtS rows cols ts).Rows = n := hn
  rw [hrw]
  refine range_intro (fun (s : List Triple) i => (s, i)) 0 n (by omega) (fun i s => s = ts.take (below ts i).toNat) (by omega) (s0 := []) (by rw [below_zero fun t ht => (h.inn t ht).1]; rfl) (fun i s next _ hi hm hnx => ?_) (fun s next hm => ?_)
  · subst hm
    dsimp only
    refine ifP_dec (fun _ => ?_) (fun h => by omega)
    refine part_ok h (by omega) ?_
    obtain ⟨lo, hi', s⟩ := h.seg i
    have g1 := s.le; have g2 := s.len
    rw [s.lo, Int.toNat_natCast]
    have hsl : (segS ts i).length = hi' - lo := by rw [← s.eq]; simp; omega
    have hgt : ∀ (j : Nat) (hj : j < (segS ts i).length), (segS ts i)[j] = ts[lo + j]'(by omega) := fun j hj => by simp [← s.eq]
    refine range_intro (fun (s : List Triple) i => (s, i)) 0 (segS ts i).length (by omega) (fun j st => st = ts.take (lo + j)) (by omega) (by simp) (fun j st nx _ hj hm hnj => ?_) (fun st nx hm => ?_)
    · subst hm
      dsimp only
      refine ifP_dec (fun _ => ?_) (fun h => by simp at h; omega)
      have hpl : lo + j < ts.length := by omega
      refine idxP_intro (by omega) (x := ts[lo + j].Col) (by simp [hj, hgt]) (idxP_intro (by omega) (x := ts[lo + j].Val) (by simp [hj, hgt]) (appP_intro ?_ (hnj _ ?_)))
      · simp; omega
      · rw [show lo + (j + 1) = lo + j + 1 by omega, List.take_succ_eq_append_getElem hpl]
        congr 2
        have := s.row (lo + j) hpl (by omega) (by omega)
        rw [← this]
    · subst hm
      dsimp only
      refine ifP_dec (fun h => by simp at h) (fun _ => hnx _ ?_)
      rw [s.hi, hsl, Int.toNat_natCast]; congr 1; omega
  · subst hm
    dsimp only
    refine ifP_dec (fun h => by omega) (fun _ => ?_)
    have hb := below_all h
    rw [hn, Int.toNat_natCast] at hb
    rw [hb, Int.toNat_natCast, List.take_length]; exact hQ
theorem ref_triples_ok {a : Rows} {rows cols : Int} {ts : List Triple} {Q : List Triple → Prop} (hl : small a) (ha : sureS a = builtS rows cols ts) (h : Canon rows cols ts) (hQ : Q ts) : ref07_Triples a Q := by
  unfold ref07_Triples
  have hr0 := h.r0; have hr1 := h.r1; have hlen := h.len
  refine ref_sure_ok hl ?_
  rw [ha]
  obtain ⟨n, hn⟩ : ∃ n : Nat, rows = n := ⟨rows.toNat, by omega⟩
  have hrw : (builtS rows cols ts).Rows = n := hn
  rw [hrw]
  refine range_intro (fun (s : List Triple) i => (s, i)) 0 n (by omega) (fun i s => s = ts.take (below ts i).toNat) (by omega) (s0 := []) (by rw [below_zero fun t ht => (h.inn t ht).1]; rfl) (fun i s next _ hi hm hnx => ?_) (fun s next hm => ?_)
  · subst hm
    dsimp only
    refine ifP_dec (fun _ => ?_) (fun h => by omega)
    obtain ⟨lo, hi', s⟩ := h.seg i
    have g1 := s.le; have g2 := s.len
    have e1 : w64 ((i : Int) + 1) = (i + 1 : Nat) := by rw [w64_id (by omega) (by omega)]; omega
    rw [e1] at hnx ⊢
    refine start_idx (by omega) ?_
    rw [s.lo, Int.toNat_natCast]
    refine range_intro (fun (s : List Triple) i => (s, i)) lo hi' (by omega) (fun p st => st = ts.take p) (by omega) rfl (fun p st nx hp1 hp2 hm hnj => ?_) (fun st nx hm => ?_)
    · subst hm
      dsimp only
      refine start_idx (by omega) ?_
      rw [s.hi]
      have hpl : p < ts.length := by omega
      refine ifP_dec (fun _ => ?_) (fun h => by omega)
      refine idxP_intro (by omega) (x := ts[p].Col) (by simp [builtS, hpl]) (idxP_intro (by omega) (x := ts[p].Val) (by simp [builtS, hpl]) (appP_intro ?_ (hnj _ ?_)))
      · simp; omega
      · rw [List.take_succ_eq_append_getElem hpl]
        congr 2
        have := s.row p hpl (by omega) (by omega)
        rw [← this]
    · subst hm
      dsimp only
      refine start_idx (by omega) ?_
      rw [s.hi]
      refine ifP_dec (fun h => by omega) (fun _ => hnx _ ?_)
      rw [s.hi, Int.toNat_natCast]
  · subst hm
    dsimp only
    refine ifP_dec (fun h => by omega) (fun _ => ?_)
    have hb := below_all h
    rw [hn, Int.toNat_natCast] at hb
    rw [hb, Int.toNat_natCast, List.take_length]; exact hQ
theorem csr_count_ok {a : Rows} {rows cols : Int} {ts : List Triple} {Q : Int → Prop} (hl : small a) (ha : sureS a = builtS rows cols ts) (hQ : Q ts.length) : csr_Count a Q := by
  unfold csr_Count
  refine sure_ok hl ?_
  rw [ha]; simpa [builtS] using hQ
theorem ref_count_ok {a : Rows} {rows cols : Int} {ts : List Triple} {Q : Int → Prop} (hl : small a) (ha : sureS a = builtS rows cols ts) (hQ : Q ts.length) : ref07_Count a Q := by
  unfold ref07_Count
  refine ref_sure_ok hl ?_
  rw [ha]; simpa [builtS] using hQ
/-! ### One place -/
def getS (ts : List Triple) (i j : Int) : Int × Bool := match ts.find? (fun t => decide (key t = (i, j))) with
  | some t => (t.Val, true)
  | none => (0, false)
theorem get_mem {ts : List Triple} (h : Srt ts) {t : Triple} (ht : t ∈ ts) {i j : Int} (hk : key t = (i, j)) : getS ts i j = (t.Val, true) := by
  unfold getS
  cases hf : ts.find? (fun t => decide (key t = (i, j))) with
  | none =>
    have := List.find?_eq_none.1 hf t ht
    simp [hk] at this
  | some u =>
    have hu := List.mem_of_find?_eq_some hf
    have hku := List.find?_some hf
    simp only [decide_eq_true_eq] at hku
    obtain ⟨p, hp, rfl⟩ := List.getElem_of_mem ht
    obtain ⟨q, hq, rfl⟩ := List.getElem_of_mem hu
    have hs := List.pairwise_iff_getElem.1 h
    rcases Nat.lt_trichotomy p q with e | e | e
    · have := hs p q hp hq e; rw [hk, hku] at this; exact absurd this (ltK_irrefl _)
    · subst e; rfl
    · have := hs q p hq hp e; rw [hk, hku] at this; exact absurd this (ltK_irrefl _)
theorem get_none {ts : List Triple} {i j : Int} (h : ∀ t ∈ ts, key t ≠ (i, j)) : getS ts i j = (0, false) := by
  unfold getS
  rw [List.find?_eq_none.2 (by simpa using h)]
theorem search_ok {xs : List Int} {t : Int} {Q : Int × Bool → Prop} (hl : xs.length ≤ 1000000000) (hs : xs.Pairwise (· < ·)) (h1 : ∀ (k : Nat) (hk : k < xs.length), xs[k] = t → Q (k, true)) (h2 : (∀ (k : Nat) (hk : k < xs.length), xs[k] ≠ t) → ∀ x, Q (x, false)) : slices_BinarySearch_int_int xs t Q := by
  unfold slices_BinarySearch_int_int slices_isNaN_int
  have hsi := List.pairwise_iff_getElem.1 hs
  refine loop_intro (fun s : Int × Int => ∃ lo hi : Nat, s = ((lo : Int), (hi : Int)) ∧ lo ≤ hi ∧ hi ≤ xs.length ∧ (∀ (k : Nat) (hk : k < xs.length), k < lo → xs[k] < t) ∧ ∀ (k : Nat) (hk : k < xs.length), hi ≤ k → t ≤ xs[k]) (fun s => (s.2 - s.1).toNat) ⟨0, xs.length, rfl, by omega, by omega, by simp, fun k hk h => by omega⟩ ?_
  rintro _ next ⟨lo, hi, rfl, hlh, hhl, hL, hH⟩ hn
  dsimp only
  refine ifP_dec (fun h => ?_) (fun h => ?_)
  · have em : w64 (shr .u64 (IntKind.wrap .u64 (w64 ((lo : Int) + hi))) 1) = ((lo + hi) / 2 : Nat) := by
      rw [w64_id (x := (lo : Int) + hi) (by omega) (by omega), wrap_u64_id (by omega) (by omega)]
      have : shr .u64 ((lo : Int) + hi) 1 = ((lo : Int) + hi) / 2 := by
        show ((lo : Int) + hi).fdiv (2 ^ 1) = _
        rw [Int.fdiv_eq_ediv_of_nonneg _ (by decide)]; rfl
      rw [this, w64_id (by omega) (by omega)]; omega
    rw [em]
    generalize hm : (lo + hi) / 2 = m
    have hml : m < xs.length := by omega
    have e2 : w64 ((m : Int) + 1) = (m + 1 : Nat) := by rw [w64_id (by omega) (by omega)]; omega
    rw [e2]
    refine idxP_nat hml (less_ok (ifP_dec (fun hlt => hn _ ⟨m + 1, hi, rfl, by omega, hhl, fun k hk hkl => ?_, hH⟩ (by simp only; omega)) (fun hge => hn _ ⟨lo, m, rfl, by omega, by omega, hL, fun k hk hkl => ?_⟩ (by simp only; omega))))
    · by_cases e : k = m
      · subst e; exact hlt
      · have := hsi k m hk hml (by omega); omega
    · by_cases e : k = m
      · subst e; omega
      · have := hsi m k hml hk (by omega); omega
  · have e : lo = hi := by omega
    subst e
    refine ifP_dec (fun h => ?_) (fun h => ?_)
    · have hlt : lo < xs.length := by omega
      refine idxP_nat hlt (ifP_eq (fun e => h1 lo hlt e) (fun e => idxP_nat hlt (ifP_neg (by simp) ?_)))
      refine h2 (fun k hk e' => ?_) _
      rcases Nat.lt_trichotomy k lo with h | h | h
      · have := hL k hk h; omega
      · subst h; exact e e'
      · have := hsi lo k hlt hk h; have := hH lo hlt (Nat.le_refl _); omega
    · refine h2 (fun k hk e' => ?_) _
      have := hL k hk (by omega); omega
theorem csr_get_ok {a : Rows} {rows cols i j : Int} {ts : List Triple} {Q : Int × Bool → Prop} (hl : small a) (ha : sureS a = builtS rows cols ts) (h : Canon rows cols ts) (hQ : Q (getS ts i j)) : csr_Get a i j Q := by
  unfold csr_Get
  have hr0 := h.r0; have hr1 := h.r1; have hlen := h.len
  refine sure_ok hl ?_
  rw [ha]
  have e : w64 ((builtS rows cols ts).Rows - 1) = rows - 1 := w64_id (by show -9223372036854775808 ≤ rows - 1; omega) (by show rows - 1 ≤ 9223372036854775807; omega)
  rw [e]
  refine within_ok (ifP_not (fun hn => ?_) (fun hy => ?_))
  · have hn : ¬ (0 ≤ i ∧ i ≤ rows - 1) := by simpa using hn
    rw [get_none fun t ht hk => ?_] at hQ
    · exact hQ
    · have := h.inn t ht
      unfold inT at this
      unfold key at hk
      simp only [Prod.mk.injEq] at hk
      omega
  have hy : 0 ≤ i ∧ i ≤ rows - 1 := by simpa using hy
  obtain ⟨n, rfl⟩ : ∃ n : Nat, i = n := ⟨i.toNat, by omega⟩
  refine part_ok h (by omega) ?_
  have hs := seg_len_le ts n
  refine search_ok (by simp; omega) ?_ (fun k hk e => ifP_neg rfl ?_) (fun hno x => ifP_pos rfl ?_)
  · rw [List.pairwise_map]
    unfold segS
    refine List.Pairwise.imp_of_mem (fun {a b} ha hb hab => ?_) (List.Pairwise.filter (R := fun a b => ltK (key a) (key b)) (fun t => decide (t.Row = (n : Int))) h.srt)
    have h1 := (List.mem_filter.1 ha).2
    have h2 := (List.mem_filter.1 hb).2
    simp only [decide_eq_true_eq] at h1 h2
    unfold ltK key at hab
    simp only at hab
    omega
  · simp only [List.length_map] at hk
    have hm := (List.mem_filter.1 (List.getElem_mem hk))
    have hrow : (segS ts n)[k].Row = n := by simpa using hm.2
    have hcol : (segS ts n)[k].Col = j := by simpa using e
    rw [get_mem h.srt hm.1 (by unfold key; rw [hrow, hcol])] at hQ
    exact idxP_intro (by omega) (x := (segS ts n)[k].Val) (by simp [hk]) hQ
  · rw [get_none fun t ht hk => ?_] at hQ
    · exact hQ
    · unfold key at hk
      simp only [Prod.mk.injEq] at hk
      have hm : t ∈ segS ts n := List.mem_filter.2 ⟨ht, by simpa using hk.1⟩
      obtain ⟨q, hq, e⟩ := List.getElem_of_mem hm
      exact hno q (by simpa using hq) (by simp [e, hk.2])
theorem ref_get_ok {a : Rows} {rows cols i j : Int} {ts : List Triple} {Q : Int × Bool → Prop} (hl : small a) (ha : sureS a = builtS rows cols ts) (h : Canon rows cols ts) (hQ : Q (getS ts i j)) : ref07_Get a i j Q := by
  unfold ref07_Get
  have hr0 := h.r0; have hr1 := h.r1; have hlen := h.len
  refine ref_row_ok hl ha h ?_
  have hlr : (rowS rows ts i).length ≤ ts.length := by
    unfold rowS; split
    · have := seg_len_le ts i.toNat; simpa using this
    · simp
  refine scan_intro (rowS rows ts i).length (by omega) (fun q => ∀ (p : Nat) (hp : p < (rowS rows ts i).length), p < q → (rowS rows ts i)[p].At ≠ j) (by simp) (fun q next hq hR hn => ?_) (fun next hR => ?_)
  · refine ifP_dec (fun _ => ?_) (fun h => by omega)
    refine idxP_nat hq (ifP_eq (fun e => idxP_nat hq ?_) (fun e => hn fun p hp hpq => ?_))
    · have hm : (rowS rows ts i)[q] ∈ rowS rows ts i := List.getElem_mem hq
      generalize (rowS rows ts i)[q] = x at e hm
      unfold rowS at hm
      split at hm
      · rename_i hin
        obtain ⟨t, ht, rfl⟩ := List.mem_map.1 hm
        have ht2 := List.mem_filter.1 ht
        have hrow : t.Row = i := by have := ht2.2; simp only [decide_eq_true_eq] at this; omega
        have hcol : t.Col = j := e
        rw [get_mem h.srt ht2.1 (by unfold key; rw [hrow, hcol])] at hQ
        exact hQ
      · simp at hm
    · by_cases e' : p = q
      · subst e'; exact e
      · exact hR p hp (by omega)
  · refine ifP_dec (fun h => by omega) (fun _ => ?_)
    rw [get_none fun t ht hk => ?_] at hQ
    · exact hQ
    · have hin := h.inn t ht
      unfold inT at hin
      unfold key at hk
      simp only [Prod.mk.injEq] at hk
      have hm : itS t ∈ rowS rows ts i := by
        unfold rowS
        rw [if_pos (by omega)]
        exact List.mem_map_of_mem (List.mem_filter.2 ⟨ht, by simp; omega⟩)
      obtain ⟨q, hq, e⟩ := List.getElem_of_mem hm
      exact hR q hq hq (by rw [e]; exact hk.2)
end Go.Proofs.YtindbiojednfbaaGreat
