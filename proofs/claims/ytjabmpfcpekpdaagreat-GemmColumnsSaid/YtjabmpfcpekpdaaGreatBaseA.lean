import Derived.Test.YtjabmpfcpekpdaaGreatOK
import Derived.Test.YtjabmpfcpekpdaaGreatCsrG
/- Rows read: one row, one place, all triples. -/
namespace Go.Proofs.YtjabmpfcpekpdaaGreat
open Go Go.Fw
set_option linter.unusedVariables false
set_option linter.unusedSimpArgs false
def segS (ts : List Triple) (i : Nat) : List Triple := ts.filter fun t => decide (t.Row = i)
theorem seg_eq {ts : List Triple} (h : Srt ts) (i : Nat) {lo hi : Nat} (hlo : below ts i = lo) (hhi : below ts (i + 1) = hi) (hle : lo ≤ hi) (hl : hi ≤ ts.length) : (ts.take hi).drop lo = segS ts i := by
  have e : ts = ts.take lo ++ ((ts.take hi).drop lo ++ ts.drop hi) := by
    have h1 : ts.take lo = (ts.take hi).take lo := by rw [List.take_take, Nat.min_eq_left hle]
    rw [← List.append_assoc, h1, List.take_append_drop, List.take_append_drop]
  have hr : ∀ (p : Nat) (hp : p < ts.length), ts[p].Row = i ↔ lo ≤ p ∧ p < hi := fun p hp => by have := h.at (i := i) hp; omega
  unfold segS
  conv => rhs; rw [e]
  rw [List.filter_append, List.filter_append, List.filter_eq_nil_iff.2, List.filter_eq_self.2, List.filter_eq_nil_iff.2]
  · simp
  · intro t ht
    obtain ⟨j, hj, rfl⟩ := List.getElem_of_mem ht
    simp only [List.getElem_drop, decide_eq_true_eq]
    rw [hr]; omega
  · intro t ht
    obtain ⟨j, hj, rfl⟩ := List.getElem_of_mem ht
    simp only [List.getElem_drop, List.getElem_take, decide_eq_true_eq]
    simp only [List.length_drop, List.length_take] at hj
    rw [hr]; omega
  · intro t ht
    obtain ⟨j, hj, rfl⟩ := List.getElem_of_mem ht
    simp only [List.getElem_take, decide_eq_true_eq]
    simp only [List.length_take] at hj
    rw [hr]; omega
structure Seg (ts : List Triple) (i l u : Nat) : Prop where
  lo : below ts i = l
  hi : below ts (i + 1) = u
  le : l ≤ u
  len : u ≤ ts.length
  eq : (ts.take u).drop l = segS ts i
  row : ∀ (p : Nat) (hp : p < ts.length), l ≤ p → p < u → ts[p].Row = i
theorem Canon.seg {rows cols : Int} {ts : List Triple} (h : Canon rows cols ts) (i : Nat) : ∃ lo hi, Seg ts i lo hi := by
  have hs := below_succ i ts fun t ht => (h.inn t ht).1
  have ha := atRow_le ts (i + 1)
  have hb := below_le ts (i + 1)
  obtain ⟨lo, hlo⟩ : ∃ lo : Nat, below ts i = lo := ⟨_, rfl⟩
  obtain ⟨hi, hhi⟩ : ∃ hi : Nat, below ts (i + 1) = hi := ⟨_, rfl⟩
  exact ⟨lo, hi, hlo, hhi, by omega, by omega, seg_eq h.srt i hlo hhi (by omega) (by omega), fun p hp h1 h2 => by have := h.srt.at (i := i) hp; omega⟩
theorem Canon.sml {rows cols : Int} {ts : List Triple} (h : Canon rows cols ts) : small (builtS rows cols ts) := by
  have := h.r0; have := h.r1; have := h.len
  unfold small builtS; simp; omega
theorem start_idx {rows cols : Int} {ts : List Triple} {i : Nat} {K : Int → Prop} (h : (i : Int) ≤ rows) (hk : K (below ts i)) : idxP (builtS rows cols ts).Start (i : Int) K :=
  idxP_intro (by omega) (rm_get (by simp; omega)) hk
theorem part_ok {rows cols : Int} {ts : List Triple} {i : Nat} {Q : List Int × List Int → Prop} (h : Canon rows cols ts) (hi : (i : Int) < rows) (hQ : Q ((segS ts i).map (·.Col), (segS ts i).map (·.Val))) : csr_part (builtS rows cols ts) i Q := by
  unfold csr_part
  have hr := h.r1
  obtain ⟨lo, hi', s⟩ := h.seg i
  have e1 : w64 ((i : Int) + 1) = (i + 1 : Nat) := by rw [w64_id (by omega) (by omega)]; omega
  rw [e1]
  refine start_idx (by omega) (start_idx (by omega) ?_)
  rw [s.lo, s.hi]
  have h1 := s.le; have h2 := s.len
  have hc : (builtS rows cols ts).Col.length = ts.length := by simp [builtS]
  have hv : (builtS rows cols ts).Val.length = ts.length := by simp [builtS]
  refine ⟨by omega, by omega, by omega, by omega, by omega, by omega, ?_⟩
  simp only [Int.toNat_natCast, builtS, ← List.map_take, ← List.map_drop, s.eq]
  exact hQ
def itS (t : Triple) : Item := ⟨t.Col, t.Val⟩
def rowS (rows : Int) (ts : List Triple) (i : Int) : List Item := if 0 ≤ i ∧ i < rows then (segS ts i.toNat).map itS else []
theorem seg_len_le (ts : List Triple) (i : Nat) : (segS ts i).length ≤ ts.length := List.length_filter_le _ _
theorem ext_step {ts : List Triple} {lo p : Nat} (h1 : lo ≤ p) (h2 : p < ts.length) : (ts.take (p + 1)).drop lo = (ts.take p).drop lo ++ [ts[p]] := by
  rw [List.take_succ_eq_append_getElem h2, List.drop_append_of_le_length (by simp; omega)]
theorem ref_row_ok {a : Rows} {rows cols i : Int} {ts : List Triple} {Q : List Item → Prop} (hl : small a) (ha : sureS a = builtS rows cols ts) (h : Canon rows cols ts) (hQ : Q (rowS rows ts i)) : ref07_Row a i Q := by
  unfold ref07_Row
  have hr0 := h.r0; have hr1 := h.r1; have hlen := h.len
  refine ref_sure_ok hl ?_
  rw [ha]
  unfold rowS at hQ
  refine ifP_dec (fun hn => ?_) (fun h1 => ifP_dec (fun (hn : rows ≤ i) => ?_) (fun (h2 : ¬ rows ≤ i) => ?_))
  · rw [if_neg (by omega)] at hQ; exact hQ
  · rw [if_neg (by omega)] at hQ; exact hQ
  rw [if_pos (by omega)] at hQ
  obtain ⟨n, rfl⟩ : ∃ n : Nat, i = n := ⟨i.toNat, by omega⟩
  rw [Int.toNat_natCast] at hQ
  obtain ⟨lo, hi', s⟩ := h.seg n
  have e1 : w64 ((n : Int) + 1) = (n + 1 : Nat) := by rw [w64_id (by omega) (by omega)]; omega
  rw [e1]
  refine start_idx (by omega) ?_
  rw [s.lo]
  have g1 := s.le; have g2 := s.len
  refine range_intro (fun (s : List Item) i => (s, i)) lo hi' (by omega) (fun p st => st = ((ts.take p).drop lo).map itS) (by omega) (s0 := []) (by simp) (fun p st next hp1 hp2 hm hn => ?_) (fun st next hm => ?_)
  · subst hm
    dsimp only
    refine start_idx (by omega) ?_
    rw [s.hi]
    have hpl : p < ts.length := by omega
    refine ifP_dec (fun _ => ?_) (fun h => by omega)
    refine idxP_intro (by omega) (x := ts[p].Col) (by simp [builtS, hpl]) (idxP_intro (by omega) (x := ts[p].Val) (by simp [builtS, hpl]) (appP_intro ?_ (hn _ ?_)))
    · simp; omega
    · rw [ext_step hp1 hpl, List.map_append]; rfl
  · subst hm
    dsimp only
    refine start_idx (by omega) ?_
    rw [s.hi]
    refine ifP_dec (fun h => by omega) (fun _ => ?_)
    rw [s.eq]; exact hQ
/-! ### All triples -/
theorem csr_triples_ok {a : Rows} {rows cols : Int} {ts : List Triple} {Q : List Triple → Prop} (hl : small a) (ha : sureS a = builtS rows cols ts) (h : Canon rows cols ts) (hQ : Q ts) : csr_Triples a Q := by
  unfold csr_Triples
  have hr0 := h.r0; have hr1 := h.r1; have hlen := h.len
  refine sure_ok hl ?_
  rw [ha]
  obtain ⟨n, hn⟩ : ∃ n : Nat, rows = n := ⟨rows.toNat, by omega⟩
  have hrw : (builtS rows cols ts).Rows = n := hn
  rw [hrw]
  refine range_intro (fun (s : List Triple) i => (s, i)) 0 n (by omega) (fun i s => s = ts.take (below ts i).toNat) (by omega) (s0 := []) (by rw [below_zero fun t ht => (h.inn t ht).1]; rfl) (fun i s next _ hi hm hnx => ?_) (fun s next hm => ?_)
  · subst hm
    dsimp only
    refine ifP_dec (fun _ => ?_) (fun h => by omega)
    refine part_ok h (by omega) ?_
    obtain ⟨lo, hi', s⟩ := h.seg i
    have g1 := s.le; have g2 := s.len
    rw [s.lo, Int.toNat_natCast]
    have hsl : (segS ts i).length = hi' - lo := by rw [← s.eq]; simp; omega
    have hgt : ∀ (j : Nat) (hj : j < (segS ts i).length), (segS ts i)[j] = ts[lo + j]'(by omega) := fun j hj => by simp [← s.eq]
    refine range_intro (fun (s : List Triple) i => (s, i)) 0 (segS ts i).length (by omega) (fun j st => st = ts.take (lo + j)) (by omega) (by simp) (fun j st nx _ hj hm hnj => ?_) (fun st nx hm => ?_)
    · subst hm
      dsimp only
      refine ifP_dec (fun _ => ?_) (fun h => by simp at h; omega)
      have hpl : lo + j < ts.length := by omega
      refine idxP_intro (by omega) (x := ts[lo + j].Col) (by simp [hj, hgt]) (idxP_intro (by omega) (x := ts[lo + j].Val) (by simp [hj, hgt]) (appP_intro ?_ (hnj _ ?_)))
      · simp; omega
      · rw [show lo + (j + 1) = lo + j + 1 by omega, List.take_succ_eq_append_getElem hpl]
        congr 2
        have := s.row (lo + j) hpl (by omega) (by omega)
        rw [← this]
    · subst hm
      dsimp only
      refine ifP_dec (fun h => by simp at h) (fun _ => hnx _ ?_)
      rw [s.hi, hsl, Int.toNat_natCast]; congr 1; omega
  · subst hm
    dsimp only
    refine ifP_dec (fun h => by omega) (fun _ => ?_)
    have hb := below_all h
    rw [hn, Int.toNat_natCast] at hb
    rw [hb, Int.toNat_natCast, List.take_length]; exact hQ
theorem ref_triples_ok {a : Rows} {rows cols : Int} {ts : List Triple} {Q : List Triple → Prop} (hl : small a) (ha : sureS a = builtS rows cols ts) (h : Canon rows cols ts) (hQ : Q ts) : ref07_Triples a Q := by
  unfold ref07_Triples
  have hr0 := h.r0; have hr1 := h.r1; have hlen := h.len
  refine ref_sure_ok hl ?_
  rw [ha]
  obtain ⟨n, hn⟩ : ∃ n : Nat, rows = n := ⟨rows.toNat, by omega⟩
  have hrw : (builtS rows cols ts).Rows = n := hn
  rw [hrw]
  refine range_intro (fun (s : List Triple) i => (s, i)) 0 n (by omega) (fun i s => s = ts.take (below ts i).toNat) (by omega) (s0 := []) (by rw [below_zero fun t ht => (h.inn t ht).1]; rfl) (fun i s next _ hi hm hnx => ?_) (fun s next hm => ?_)
  · subst hm
    dsimp only
    refine ifP_dec (fun _ => ?_) (fun h => by omega)
    obtain ⟨lo, hi', s⟩ := h.seg i
    have g1 := s.le; have g2 := s.len
    have e1 : w64 ((i : Int) + 1) = (i + 1 : Nat) := by rw [w64_id (by omega) (by omega)]; omega
    rw [e1] at hnx ⊢
    refine start_idx (by omega) ?_
    rw [s.lo, Int.toNat_natCast]
    refine range_intro (fun (s : List Triple) i => (s, i)) lo hi' (by omega) (fun p st => st = ts.take p) (by omega) rfl (fun p st nx hp1 hp2 hm hnj => ?_) (fun st nx hm => ?_)
    · subst hm
      dsimp only
      refine start_idx (by omega) ?_
      rw [s.hi]
      have hpl : p < ts.length := by omega
      refine ifP_dec (fun _ => ?_) (fun h => by omega)
      refine idxP_intro (by omega) (x := ts[p].Col) (by simp [builtS, hpl]) (idxP_intro (by omega) (x := ts[p].Val) (by simp [builtS, hpl]) (appP_intro ?_ (hnj _ ?_)))
      · simp; omega
      · rw [List.take_succ_eq_append_getElem hpl]
        congr 2
        have := s.row p hpl (by omega) (by omega)
        rw [← this]
    · subst hm
      dsimp only
      refine start_idx (by omega) ?_
      rw [s.hi]
      refine ifP_dec (fun h => by omega) (fun _ => hnx _ ?_)
      rw [s.hi, Int.toNat_natCast]
  · subst hm
    dsimp only
    refine ifP_dec (fun h => by omega) (fun _ => ?_)
    have hb := below_all h
    rw [hn, Int.toNat_natCast] at hb
    rw [hb, Int.toNat_natCast, List.take_length]; exact hQ
/-! ### One place -/
end Go.Proofs.YtjabmpfcpekpdaaGreat

/- Rows turned, rows cut. -/
namespace Go.Proofs.YtjabmpfcpekpdaaGreat
open Go Go.Fw
set_option linter.unusedVariables false
set_option linter.unusedSimpArgs false
theorem Srt.nodup {l : List Triple} (h : Srt l) : l.Nodup := by
  rw [List.nodup_iff_pairwise_ne]
  exact List.Pairwise.imp (R := fun a b => ltK (key a) (key b)) (fun {a b} hab (e : a = b) => ltK_irrefl (key b) (by rw [e] at hab; exact hab)) h
theorem sure_built {rows cols : Int} {ts : List Triple} (h : Canon rows cols ts) : sureS (builtS rows cols ts) = builtS rows cols ts := by
  unfold sureS; rw [if_pos h.right]
/-! ### Turned -/
def flip (t : Triple) : Triple := ⟨t.Col, t.Row, t.Val⟩
def turnT (cols : Int) (ts : List Triple) : List Triple := (List.range cols.toNat).flatMap fun c : Nat => (ts.filter fun t : Triple => decide (t.Col = (c : Int))).map flip
theorem turn_mem {rows cols : Int} {ts : List Triple} (h : Canon rows cols ts) (t : Triple) : t ∈ turnT cols ts ↔ flip t ∈ ts := by
  unfold turnT
  simp only [List.mem_flatMap, List.mem_range, List.mem_map, List.mem_filter, decide_eq_true_eq]
  constructor
  · rintro ⟨c, hc, u, ⟨hu, _⟩, rfl⟩; exact hu
  · intro ht
    have := h.inn _ ht
    unfold inT flip at this
    simp only at this
    exact ⟨t.Row.toNat, by omega, flip t, ⟨ht, by show t.Row = _; omega⟩, rfl⟩
theorem turn_srt {ts : List Triple} (cols : Int) (h : Srt ts) : Srt (turnT cols ts) := by
  unfold Srt turnT
  rw [List.pairwise_flatMap]
  refine ⟨fun c _ => ?_, ?_⟩
  · rw [List.pairwise_map]
    refine List.Pairwise.imp_of_mem (fun {a b} ha hb hab => ?_) (List.Pairwise.filter (R := fun a b => ltK (key a) (key b)) (fun t => decide (t.Col = (c : Int))) h)
    have h1 := (List.mem_filter.1 ha).2
    have h2 := (List.mem_filter.1 hb).2
    simp only [decide_eq_true_eq] at h1 h2
    unfold ltK key at *
    simp only [flip] at *
    omega
  · refine List.Pairwise.imp (fun {a b} hab x hx y hy => ?_) (List.pairwise_lt_range (n := cols.toNat))
    obtain ⟨u, hu, rfl⟩ := List.mem_map.1 hx
    obtain ⟨v, hv, rfl⟩ := List.mem_map.1 hy
    have h1 := (List.mem_filter.1 hu).2
    have h2 := (List.mem_filter.1 hv).2
    simp only [decide_eq_true_eq] at h1 h2
    unfold ltK key flip
    simp only
    omega
theorem flip_nodup {ts : List Triple} (h : Srt ts) : (ts.map flip).Nodup := by
  rw [List.nodup_iff_pairwise_ne, List.pairwise_map]
  refine List.Pairwise.imp (R := fun a b => ltK (key a) (key b)) (fun {a b} hab e => ?_) h
  have : a = b := by
    cases a; cases b
    simp only [flip, Triple.mk.injEq] at e ⊢
    omega
  subst this; exact ltK_irrefl _ hab
theorem turn_perm {rows cols : Int} {ts : List Triple} (h : Canon rows cols ts) : (ts.map flip).Perm (turnT cols ts) := by
  refine (List.perm_ext_iff_of_nodup (flip_nodup h.srt) (turn_srt cols h.srt).nodup).2 fun t => ?_
  rw [turn_mem h, List.mem_map]
  exact ⟨by rintro ⟨u, hu, rfl⟩; exact hu, fun ht => ⟨flip t, ht, rfl⟩⟩
theorem turn_canon {rows cols : Int} {ts : List Triple} (h : Canon rows cols ts) : Canon cols rows (turnT cols ts) where
  r0 := h.c0
  r1 := h.c1
  c0 := h.r0
  c1 := h.r1
  len := by have := (turn_perm h).length_eq; have := h.len; simp at *; omega
  srt := turn_srt cols h.srt
  inn t ht := by
    have := h.inn _ ((turn_mem h t).1 ht)
    unfold inT flip at *
    simp only at this
    omega
theorem ref_turn_ok {a : Rows} {rows cols : Int} {ts : List Triple} {Q : Rows → Prop} (hl : small a) (ha : sureS a = builtS rows cols ts) (h : Canon rows cols ts) (hQ : Q (builtS cols rows (turnT cols ts))) : ref07_Turn a Q := by
  unfold ref07_Turn
  have hlen := h.len
  have hc1 := h.c1; have hc0 := h.c0
  refine ref_sure_ok hl ?_
  rw [ha]
  refine ref_triples_ok h.sml (sure_built h) h ?_
  obtain ⟨n, hn⟩ : ∃ n : Nat, cols = n := ⟨cols.toNat, by omega⟩
  have hcl : (builtS rows cols ts).Cols = n := hn
  have hrl : (builtS rows cols ts).Rows = rows := rfl
  rw [hcl, hrl]
  have hlen3 : ∀ i : Nat, (turnT i ts).length ≤ i * 65536 := by
    intro i
    unfold turnT
    rw [Int.toNat_natCast]
    induction i with
    | zero => simp
    | succ i ih =>
      rw [List.range_succ, List.flatMap_append, List.length_append]
      have := List.length_filter_le (fun t : Triple => decide (t.Col = (i : Int))) ts
      simp only [List.flatMap_singleton, List.length_map]
      omega
  refine range_intro (fun (s : List Triple) i => (s, i)) 0 n (by omega) (fun i s => s = turnT (i : Int) ts) (by omega) (s0 := []) rfl (fun i s next _ hi hm hnx => ?_) (fun s next hm => ?_)
  · subst hm
    dsimp only
    refine ifP_dec (fun _ => ?_) (fun h => by omega)
    have hl3 := hlen3 i
    refine range_intro (fun (s : List Triple) i => (s, i)) 0 ts.length (by omega) (fun j s => s = turnT (i : Int) ts ++ ((ts.take j).filter fun t : Triple => decide (t.Col = (i : Int))).map flip) (by omega) (by simp) (fun j s nx _ hj hm hnj => ?_) (fun s nx hm => ?_)
    · subst hm
      dsimp only
      refine ifP_dec (fun _ => ?_) (fun h => by omega)
      have hst : (ts.take (j + 1)).filter (fun t : Triple => decide (t.Col = (i : Int))) = (ts.take j).filter (fun t : Triple => decide (t.Col = (i : Int))) ++ if ts[j].Col = (i : Int) then [ts[j]] else [] := by
        rw [List.take_succ_eq_append_getElem hj, List.filter_append, List.filter_cons, List.filter_nil]; simp only [decide_eq_true_eq]
      refine idxP_nat hj (ifP_eq (fun e => idxP_nat hj (idxP_nat hj (appP_intro ?_ (hnj _ ?_)))) (fun e => hnj _ ?_))
      · have := List.length_filter_le (fun t : Triple => decide (t.Col = (i : Int))) (ts.take j)
        have h4 : (ts.take j).length ≤ ts.length := by simp; omega
        simp only [List.length_append, List.length_map, List.length_singleton]
        omega
      · rw [hst, if_pos e, List.map_append, List.append_assoc]
        have : (⟨(i : Int), ts[j].Row, ts[j].Val⟩ : Triple) = flip ts[j] := by unfold flip; rw [e]
        rw [this]; rfl
      · rw [hst, if_neg e, List.append_nil]
    · subst hm
      dsimp only
      refine ifP_dec (fun h => by omega) (fun _ => hnx _ ?_)
      rw [List.take_length]
      unfold turnT
      rw [Int.toNat_natCast, Int.toNat_natCast, List.range_succ, List.flatMap_append]
      simp
  · subst hm
    dsimp only
    refine ifP_dec (fun h => by omega) (fun _ => ?_)
    have hT := turn_canon h
    rw [hn] at hT hQ
    refine ref_built_ok (by omega) (by omega) (by have := hT.len; omega) (fun t ht => ?_) hQ
    have := hT.inn t ht
    unfold inT at this
    exact ⟨this.1, this.2.1⟩
/-! ### Cut -/
end Go.Proofs.YtjabmpfcpekpdaaGreat

/- The program's cut; graphs as rows. -/
namespace Go.Proofs.YtjabmpfcpekpdaaGreat
open Go Go.Fw
set_option linter.unusedVariables false
set_option linter.unusedSimpArgs false
/-! ### Graphs -/
theorem fin_canon {r rows cols : Int} {kvs : List (Key × Int)} (h : 0 ≤ rows ∧ rows ≤ 4096 ∧ 0 ≤ cols ∧ cols ≤ 4096) (hl : kvs.length ≤ 65536) (hk : ∀ t ∈ kvs, inT rows cols (mkT t.1 0)) (hv : ∀ t ∈ kvs, inI t.2) : Canon rows cols (finS (SC r kvs) mkT).1 := by
  refine ⟨h.1, h.2.1, h.2.2.1, h.2.2.2, ?_, ?_, ?_⟩
  · exact Nat.le_trans (fin_len _) (by have := (SC_prop r kvs hv).1; omega)
  · unfold finS
    split
    · unfold Srt
      rw [List.pairwise_map]
      exact SC_srt r kvs
    · exact .nil
  · intro t ht
    unfold finS at ht
    split at ht
    · obtain ⟨p, hp, rfl⟩ := List.mem_map.1 ht
      obtain ⟨x, hx, e⟩ := SC_keys hp
      have := hk x hx
      unfold inT mkT at *
      rw [← e]
      exact this
    · simp at ht
end Go.Proofs.YtjabmpfcpekpdaaGreat

/- What must be whatever is asked; the statements CsrOf, CsrAsks, in plain Lean. -/
namespace Go.Proofs.YtjabmpfcpekpdaaGreat
open Go Go.Fw
set_option linter.unusedVariables false
set_option linter.unusedSimpArgs false
theorem inR_i64 {x : Int} (h : inR .i64 x) : inI x := by have := bounds_i64 h; unfold inI; omega
theorem few_ok {ts : List Triple} {Q : List Triple → Prop} (hQ : ∀ ys : List Triple, ys.length ≤ 60 → (∀ t ∈ ys, t ∈ ts) → Q ys) : law07_Few ts Q := by
  unfold law07_Few
  refine ifP_dec (fun h => ⟨by decide, by decide, by omega, hQ _ ?_ fun t ht => ?_⟩) (fun h => hQ _ (by omega) fun t ht => ht)
  · simp; omega
  · exact List.mem_of_mem_take (List.mem_of_mem_drop ht)
theorem of_cases {r rows cols : Int} {ts : List Triple} (hv : ∀ t ∈ ts, inI t.Val) : ((ofS r rows cols ts).1 = zR ∧ (ofS r rows cols ts).2 ≠ 0) ∨ ∃ T, Canon rows cols T ∧ ofS r rows cols ts = (builtS rows cols T, 0) ∧ (1 ≤ r ∧ r ≤ 5) ∧ (∀ t ∈ ts, inT rows cols t) ∧ ts.length ≤ 65536 ∧ (0 ≤ rows ∧ rows ≤ 4096 ∧ 0 ≤ cols ∧ cols ≤ 4096) ∧ T = (finS (SC r (ts.map kvT)) mkT).1 ∧ (finS (SC r (ts.map kvT)) mkT).2 = 0 := by
  unfold ofS
  split
  · left; exact ⟨rfl, by simp⟩
  split
  · left; exact ⟨rfl, by simp⟩
  split
  · left; exact ⟨rfl, by simp⟩
  split
  · left; exact ⟨rfl, by simp⟩
  split
  · rename_i h; left; exact ⟨rfl, h⟩
  · rename_i h1 h2 h3 h4 h5
    right
    have h2 := Decidable.of_not_not h2
    have h4 := Decidable.of_not_not h4
    refine ⟨_, fin_canon h2 (by simpa using h3) (fun t ht => ?_) (fun t ht => ?_), rfl, Decidable.of_not_not h1, h4, by omega, h2, rfl, Decidable.of_not_not h5⟩
    · obtain ⟨x, hx, rfl⟩ := List.mem_map.1 ht
      exact h4 x hx
    · obtain ⟨x, hx, rfl⟩ := List.mem_map.1 ht
      exact hv x hx
end Go.Proofs.YtjabmpfcpekpdaaGreat

/- The statements CsrBack, CsrTurns, CsrCuts, in plain Lean. -/
namespace Go.Proofs.YtjabmpfcpekpdaaGreat
open Go Go.Fw
set_option linter.unusedVariables false
set_option linter.unusedSimpArgs false
theorem nar_inI (a : Wide) : inI (narS a).1 := by
  unfold narS inI
  split
  · simp only [w64_eq]; omega
  · simp
theorem ins_last {r : Int} {k : Key} {v : Wide} {l : List (Key × Wide)} (h : ∀ p ∈ l, ltK p.1 k) : ins r k v l = l ++ [(k, v)] := by
  induction l with
  | nil => rfl
  | cons p l ih => unfold ins; rw [if_pos (h p (by simp)), ih fun q hq => h q (by simp [hq])]; rfl
theorem SC_self {r : Int} {T : List Triple} (h : Srt T) : SC r (T.map kvT) = T.map fun t => (key t, ofI t.Val) := by
  suffices ∀ i, i ≤ T.length → SC r ((T.take i).map kvT) = (T.take i).map fun t => (key t, ofI t.Val) by
    have := this T.length (Nat.le_refl _)
    rwa [List.take_length] at this
  intro i
  induction i with
  | zero => intro _; rfl
  | succ i ih =>
    intro hi
    rw [take_map (show i < T.length by omega), take_map (show i < T.length by omega), SC_snoc, ih (by omega), ins_last]
    · rfl
    · intro p hp
      obtain ⟨t, ht, rfl⟩ := List.mem_map.1 hp
      obtain ⟨j, hj, rfl⟩ := List.getElem_of_mem ht
      simp only [List.length_take] at hj
      rw [List.getElem_take]
      exact List.pairwise_iff_getElem.1 h j i (by omega) (by omega) (by omega)
theorem nar_of {v : Int} (h : inI v) : narS (ofI v) = (v, true) := by
  unfold narS ofI
  unfold inI at h
  simp only
  rw [if_pos]
  · rw [w64_eq]; congr 1; omega
  · split <;> omega
theorem of_self {r rows cols : Int} {T : List Triple} (h : Canon rows cols T) (hv : ∀ t ∈ T, inI t.Val) (hr : 1 ≤ r ∧ r ≤ 5) : ofS r rows cols T = (builtS rows cols T, 0) := by
  have hf : finS (SC r (T.map kvT)) mkT = (T, 0) := by
    rw [SC_self h.srt]
    rw [fin_perm (m := []) (.refl _) (fun p hp => by obtain ⟨t, ht, rfl⟩ := List.mem_map.1 hp; rw [nar_of (hv t ht)])]
    congr 1
    rw [List.map_map]
    refine (List.map_congr_left fun t ht => ?_).trans (List.map_id T)
    simp only [Function.comp_apply, nar_of (hv t ht)]
    rfl
  have h1 := h.r0; have h2 := h.r1; have h3 := h.c0; have h4 := h.c1; have h5 := h.len
  unfold ofS
  rw [if_neg (fun h => h hr), if_neg (fun h => h ⟨h1, h2, h3, h4⟩), if_neg (by omega), if_neg (fun h' => h' h.inn), hf, if_neg (by simp)]
end Go.Proofs.YtjabmpfcpekpdaaGreat

/- Matrices by columns: read by the program. -/
namespace Go.Proofs.YtjabmpfcpekpdaaGreat
open Go Go.Fw
set_option linter.unusedVariables false
set_option linter.unusedSimpArgs false
/-- a column's items -/
def colI (T : List Triple) (k : Int) : List Item := (T.filter fun t => decide (t.Row = k)).map itS
/-! ### Same -/
/-! ### Back -/
theorem turnT_vals {cols : Int} {T : List Triple} {rows : Int} (h : Canon rows cols T) (hv : ∀ t ∈ T, inI t.Val) : ∀ t ∈ turnT cols T, inI t.Val := fun t ht => hv (flip t) ((turn_mem h t).1 ht)
end Go.Proofs.YtjabmpfcpekpdaaGreat

/- Lists of sums as one: by a heap, and two by two. -/
namespace Go.Proofs.YtjabmpfcpekpdaaGreat
open Go Go.Fw
set_option linter.unusedVariables false
set_option linter.unusedSimpArgs false
/-! ### Lists that rise, looked up -/
def kvM (s : Sum) : Int × Wide := (s.At, s.Val)
def lk (l : List Sum) (i : Int) : Option Wide := mget i (l.map kvM)
def Rise (l : List Sum) : Prop := l.Pairwise fun a b => a.At < b.At
instance (l : List Sum) : Decidable (Rise l) := by unfold Rise; infer_instance
def okS (l : List Sum) : Prop := ∀ s ∈ l, okW s.Val
theorem lk_nil (i : Int) : lk [] i = none := rfl
theorem lk_cons (s : Sum) (l : List Sum) (i : Int) : lk (s :: l) i = if i = s.At then some s.Val else lk l i := rfl
theorem lk_append : ∀ (l : List Sum) (m : List Sum) (i : Int), lk (l ++ m) i = match lk l i with | some v => some v | none => lk m i
  | [], m, i => rfl
  | s :: l, m, i => by
    rw [List.cons_append, lk_cons, lk_cons]
    split
    · rfl
    · exact lk_append l m i
/-! ### Two as one -/
def cmb (r : Int) : Option Wide → Option Wide → Option Wide
  | none, y => y
  | some a, none => some a
  | some a, some b => some (addW r a b)
/-! ### Many as one -/
end Go.Proofs.YtjabmpfcpekpdaaGreat

/- Lists of sums as one: the program's heap and the reference's rows come to the same. -/
namespace Go.Proofs.YtjabmpfcpekpdaaGreat
open Go Go.Fw
set_option linter.unusedVariables false
set_option linter.unusedSimpArgs false
theorem eqSum_ok {xs ys : List Sum} {Q : Bool → Prop} (hl : xs.length ≤ 1000000000000) (hQ : Q (decide (xs = ys))) : ref13_SameSums xs ys Q := by unfold ref13_SameSums; exact same_loop hl hQ
/-! ### What came of them, one more -/
/-! ### Whether places rise -/
/-! ### The whole -/
end Go.Proofs.YtjabmpfcpekpdaaGreat

/- Products at two words: by halves and by doubling, and the rings' products. -/
namespace Go.Proofs.YtjabmpfcpekpdaaGreat
open Go Go.Fw
set_option linter.unusedVariables false
set_option linter.unusedSimpArgs false
/-! ### Two words as a number -/
def ofZ (z : Int) : Wide := ⟨w64 (z / 18446744073709551616), z % 18446744073709551616⟩
theorem ofZ_okW (z : Int) : okW (ofZ z) := by unfold okW ofZ; simp only [w64_eq]; omega
theorem ofZ_add (x y : Int) : addW 5 (ofZ x) (ofZ y) = ofZ (x + y) := by
  have e : addW 5 (ofZ x) (ofZ y) = ⟨w64 ((ofZ x).Hi + (ofZ y).Hi + (if 18446744073709551616 ≤ (ofZ x).Lo + (ofZ y).Lo then 1 else 0)), ((ofZ x).Lo + (ofZ y).Lo) % 18446744073709551616⟩ := rfl
  rw [e]
  unfold ofZ
  apply wide_eta
  · simp only [w64_eq]; split <;> omega
  · simp only; omega
theorem ofI_ofZ {v : Int} (h : inI v) : ofI v = ofZ v := by
  unfold ofI ofZ inI at *
  apply wide_eta
  · simp only [w64_eq]; split <;> omega
  · rfl
theorem ofZ_nat {hi lo : Int} (h0 : 0 ≤ lo) (h1 : lo < 18446744073709551616) : (⟨w64 hi, lo⟩ : Wide) = ofZ (hi * 18446744073709551616 + lo) := by
  unfold ofZ
  apply wide_eta
  · simp only [w64_eq]; omega
  · simp only; omega
/-! ### Bits of one word -/
theorem shr_u {x : Int} (k : Nat) (hk : k ≤ 64) : shr .u64 x k = x / 2 ^ k := by
  unfold shr
  rw [Int.fdiv_eq_ediv_of_nonneg _ (Int.le_of_lt (Int.pow_pos (by omega)))]
  have : min (Int.toNat (k : Int)) (IntKind.bits .u64) = k := by simp [IntKind.bits]; omega
  rw [this]
theorem shl_u {x : Int} (k : Nat) (hk : k ≤ 64) : shl .u64 x k = (x * 2 ^ k) % 18446744073709551616 := by
  unfold shl
  rw [u64_eq]
  have : min (Int.toNat (k : Int)) (IntKind.bits .u64) = k := by simp [IntKind.bits]; omega
  rw [this]
theorem ofInt_nat (x : Int) (h0 : 0 ≤ x) (h1 : x < 18446744073709551616) : (BitVec.ofInt 64 x).toNat = x.toNat := by
  rw [BitVec.toNat_ofInt]
  congr 1
  exact Int.emod_eq_of_lt h0 (by simpa using h1)
theorem bor_nat {x y : Int} (hx0 : 0 ≤ x) (hx1 : x < 18446744073709551616) (hy0 : 0 ≤ y) (hy1 : y < 18446744073709551616) : bor .u64 x y = ((x.toNat ||| y.toNat : Nat) : Int) := by
  unfold bor
  have e : (BitVec.ofInt (IntKind.bits .u64) x ||| BitVec.ofInt (IntKind.bits .u64) y).toNat = x.toNat ||| y.toNat := by
    show (BitVec.ofInt 64 x ||| BitVec.ofInt 64 y).toNat = _
    rw [BitVec.toNat_or, ofInt_nat x hx0 hx1, ofInt_nat y hy0 hy1]
  rw [e, u64_eq]
  have : x.toNat ||| y.toNat < 2 ^ 64 := Nat.or_lt_two_pow (by omega) (by omega)
  omega
theorem bnd_nat {x y : Int} (hx0 : 0 ≤ x) (hx1 : x < 18446744073709551616) (hy0 : 0 ≤ y) (hy1 : y < 18446744073709551616) : bnd .u64 x y = ((x.toNat &&& y.toNat : Nat) : Int) := by
  unfold bnd
  have e : (BitVec.ofInt (IntKind.bits .u64) x &&& BitVec.ofInt (IntKind.bits .u64) y).toNat = x.toNat &&& y.toNat := by
    show (BitVec.ofInt 64 x &&& BitVec.ofInt 64 y).toNat = _
    rw [BitVec.toNat_and, ofInt_nat x hx0 hx1, ofInt_nat y hy0 hy1]
  rw [e, u64_eq]
  have : x.toNat &&& y.toNat < 2 ^ 64 := Nat.and_lt_two_pow _ (by omega)
  omega
theorem bor_halves {h l : Int} (hh0 : 0 ≤ h) (hh1 : h < 4294967296) (hl0 : 0 ≤ l) (hl1 : l < 4294967296) : bor .u64 (h * 4294967296) l = h * 4294967296 + l := by
  rw [bor_nat (by omega) (by omega) hl0 (by omega)]
  have e : (h * 4294967296).toNat = h.toNat <<< 32 := by rw [Nat.shiftLeft_eq]; omega
  rw [e, ← Nat.shiftLeft_add_eq_or_of_lt (by omega), Nat.shiftLeft_eq]
  omega
/-! ### Products -/
theorem halves_ok {x : Int} {Q : Int × Int → Prop} (h0 : 0 ≤ x) (h1 : x < 18446744073709551616) (hQ : Q (x % 4294967296, x / 4294967296)) : wide_halves x Q := by
  unfold wide_halves
  have e1 : shl .u64 x 32 = (x * 4294967296) % 18446744073709551616 := shl_u 32 (by omega)
  have e2 : ∀ y, shr .u64 y 32 = y / 4294967296 := fun y => shr_u 32 (by omega)
  rw [e1, e2, e2]
  rwa [show x * 4294967296 % 18446744073709551616 / 4294967296 = x % 4294967296 by omega]
theorem product_ok {a b : Int} {Q : Wide → Prop} (ha0 : 0 ≤ a) (ha1 : a < 18446744073709551616) (hb0 : 0 ≤ b) (hb1 : b < 18446744073709551616) (hQ : Q (ofZ (a * b))) : wide_product a b Q := by
  unfold wide_product
  have hlt : ∀ x y : Int, 0 ≤ x → x < 4294967296 → 0 ≤ y → y < 4294967296 → 0 ≤ x * y ∧ x * y ≤ 18446744065119617025 := by
    intro x y h1 h2 h3 h4
    refine ⟨Int.mul_nonneg h1 h3, ?_⟩
    have := Int.mul_le_mul (show x ≤ 4294967295 by omega) (show y ≤ 4294967295 by omega) h3 (by omega)
    omega
  refine halves_ok ha0 ha1 (halves_ok hb0 hb1 ?_)
  simp only
  obtain ⟨x0, hx0⟩ : ∃ x0, x0 = a % 4294967296 := ⟨_, rfl⟩
  obtain ⟨x1, hx1⟩ : ∃ x1, x1 = a / 4294967296 := ⟨_, rfl⟩
  obtain ⟨y0, hy0⟩ : ∃ y0, y0 = b % 4294967296 := ⟨_, rfl⟩
  obtain ⟨y1, hy1⟩ : ∃ y1, y1 = b / 4294967296 := ⟨_, rfl⟩
  rw [← hx0, ← hx1, ← hy0, ← hy1]
  have hab : a * b = x1 * y1 * 18446744073709551616 + (x1 * y0 + x0 * y1) * 4294967296 + x0 * y0 := by
    have e1 : a = x1 * 4294967296 + x0 := by omega
    have e2 : b = y1 * 4294967296 + y0 := by omega
    rw [e1, e2, Int.add_mul, Int.mul_add, Int.mul_add]
    have q1 : x1 * 4294967296 * (y1 * 4294967296) = x1 * y1 * 18446744073709551616 := by rw [Int.mul_assoc, Int.mul_left_comm 4294967296 y1, ← Int.mul_assoc x1]; rfl
    have q2 : x1 * 4294967296 * y0 = x1 * y0 * 4294967296 := Int.mul_right_comm _ _ _
    have q3 : x0 * (y1 * 4294967296) = x0 * y1 * 4294967296 := (Int.mul_assoc _ _ _).symm
    rw [q1, q2, q3]; omega
  obtain ⟨b00, c00⟩ := hlt x0 y0 (by omega) (by omega) (by omega) (by omega)
  obtain ⟨b01, c01⟩ := hlt x0 y1 (by omega) (by omega) (by omega) (by omega)
  obtain ⟨b10, c10⟩ := hlt x1 y0 (by omega) (by omega) (by omega) (by omega)
  obtain ⟨b11, c11⟩ := hlt x1 y1 (by omega) (by omega) (by omega) (by omega)
  generalize x0 * y0 = p00 at *
  generalize x0 * y1 = p01 at *
  generalize x1 * y0 = p10 at *
  generalize x1 * y1 = p11 at *
  simp only [u64_eq]
  refine halves_ok (by omega) (by omega) ?_
  simp only
  refine halves_ok (by omega) (by omega) ?_
  simp only
  refine halves_ok (by omega) (by omega) (halves_ok (by omega) (by omega) ?_)
  simp only
  have e3 : ∀ y, shl .u64 y 32 = (y * 4294967296) % 18446744073709551616 := fun y => shl_u 32 (by omega)
  rw [e3]
  have e4 : ∀ y : Int, (y % 4294967296 * 4294967296) % 18446744073709551616 = y % 4294967296 * 4294967296 := fun y => by omega
  rw [e4, bor_halves (by omega) (by omega) (by omega) (by omega), ofZ_nat (by omega) (by omega)]
  rw [hab] at hQ
  have hfin : ofZ (((((p11 % 18446744073709551616 + (p10 % 18446744073709551616 + p00 % 18446744073709551616 / 4294967296) % 18446744073709551616 / 4294967296) % 18446744073709551616 + (p01 % 18446744073709551616 + (p10 % 18446744073709551616 + p00 % 18446744073709551616 / 4294967296) % 18446744073709551616 % 4294967296) % 18446744073709551616 / 4294967296) % 18446744073709551616) * 18446744073709551616 + ((p01 % 18446744073709551616 + (p10 % 18446744073709551616 + p00 % 18446744073709551616 / 4294967296) % 18446744073709551616 % 4294967296) % 18446744073709551616 % 4294967296 * 4294967296 + p00 % 18446744073709551616 % 4294967296))) = ofZ (p11 * 18446744073709551616 + (p10 + p01) * 4294967296 + p00) := by
    unfold ofZ
    apply wide_eta
    · simp only [w64_eq]; omega
    · simp only; omega
  rw [hfin]; exact hQ
theorem sub_ok {x : Int} {Q : Wide → Prop} (hQ : Q (ofZ (-x))) : wide_Sub ⟨0, 0⟩ (ofZ x) Q := by
  unfold wide_Sub wide_carry
  have key : ∀ c : Int, (c = if 0 < (ofZ x).Lo then 1 else 0) → (⟨w64 ((((0 % 18446744073709551616) - ((ofZ x).Hi % 18446744073709551616)) % 18446744073709551616 - c) % 18446744073709551616), (0 - (ofZ x).Lo) % 18446744073709551616⟩ : Wide) = ofZ (-x) := by
    intro c hc
    unfold ofZ at *
    subst hc
    apply wide_eta
    · simp only [w64_eq]; split <;> omega
    · simp only; omega
  simp only [u64_eq]
  refine ifP_dec (fun h => ?_) (fun h => ?_)
  · rw [key 1 (by rw [if_pos h])]; exact hQ
  · rw [key 0 (by rw [if_neg h])]; exact hQ
theorem wide_Mul_ok {a b : Int} {Q : Wide → Prop} (ha : inI a) (hb : inI b) (hQ : Q (ofZ (a * b))) : wide_Mul a b Q := by
  unfold wide_Mul
  unfold inI at ha hb
  have hs : ∀ {x : Int} {K : Int → Prop}, -9223372036854775808 ≤ x ∧ x ≤ 9223372036854775807 → K (if x < 0 then -x else x) → wide_size x K := by
    intro x K hx hK
    unfold wide_size
    simp only [u64_eq]
    refine ifP_dec (fun h => ?_) (fun h => ?_)
    · rw [if_pos h] at hK; rwa [show (0 - x % 18446744073709551616) % 18446744073709551616 = -x by omega]
    · rw [if_neg h] at hK; rwa [show x % 18446744073709551616 = x by omega]
  refine hs ha (hs hb ?_)
  have m1 : -a * b = -(a * b) := Int.neg_mul _ _
  have m2 : a * -b = -(a * b) := Int.mul_neg _ _
  have m3 : -a * -b = a * b := Int.neg_mul_neg _ _
  refine product_ok (by split <;> omega) (by split <;> omega) (by split <;> omega) (by split <;> omega) ?_
  by_cases h1 : a < 0 <;> by_cases h2 : b < 0
  · rw [if_pos h1, if_pos h2, m3]
    exact ifP_neg (by simp [h1, h2]) hQ
  · rw [if_pos h1, if_neg h2, m1]
    exact ifP_pos (by simp [h1, h2]) (sub_ok (by rwa [Int.neg_neg]))
  · rw [if_neg h1, if_pos h2, m2]
    exact ifP_pos (by simp [h1, h2]) (sub_ok (by rwa [Int.neg_neg]))
  · rw [if_neg h1, if_neg h2]
    exact ifP_neg (by simp [h1, h2]) hQ
def mulW (r a x : Int) : Wide :=
  if r = 2 then (if a ≠ 0 ∧ x ≠ 0 then ⟨0, 1⟩ else ⟨0, 0⟩)
  else if r = 5 then ofZ (a * x)
  else if r = 1 ∨ r = 3 ∨ r = 4 then
    (if 4611686018427387904 ≤ a ∨ 4611686018427387904 ≤ x then ofZ 4611686018427387904
     else if r = 3 then ofZ a else if r = 4 then ofZ x else if leW (ofZ 4611686018427387904) (ofZ (a + x)) then ofZ 4611686018427387904 else ofZ (a + x))
  else ⟨0, 0⟩
theorem mulW_okW (r a x : Int) : okW (mulW r a x) := by
  have h0 : okW ⟨0, 0⟩ := by unfold okW; simp
  have h1 : okW ⟨0, 1⟩ := by unfold okW; simp
  unfold mulW
  repeat' split
  all_goals first | exact ofZ_okW _ | exact h0 | exact h1
theorem leW_ofZ {x y : Int} (hx : -170141183460469231731687303715884105728 ≤ x ∧ x < 170141183460469231731687303715884105728) (hy : -170141183460469231731687303715884105728 ≤ y ∧ y < 170141183460469231731687303715884105728) : leW (ofZ x) (ofZ y) ↔ x ≤ y := by
  have h : ∀ z : Int, -170141183460469231731687303715884105728 ≤ z ∧ z < 170141183460469231731687303715884105728 → w64 (z / 18446744073709551616) = z / 18446744073709551616 := by
    intro z hz; rw [w64_eq]; omega
  unfold leW ofZ
  simp only [h x hx, h y hy]
  omega
theorem ring_Mul_ok {r a x : Int} {Q : Wide → Prop} (ha : inI a) (hx : inI x) (hQ : Q (mulW r a x)) : ring_Mul r a x Q := by
  unfold ring_Mul
  unfold mulW at hQ
  have ia : inI 4611686018427387904 := by unfold inI; omega
  refine ifP_eq (fun h => ?_) (fun h => ifP_eq (fun h5 => ?_) (fun h5 => ?_))
  · rw [if_pos h] at hQ
    refine ifP_ne (fun h1 => truth_ok ?_) (fun h1 => truth_ok ?_)
    · simpa [h1] using hQ
    · simpa [h1] using hQ
  · rw [if_neg h, if_pos h5] at hQ
    exact wide_Mul_ok ha hx hQ
  · rw [if_neg h, if_neg h5] at hQ
    have emax : (if x > a then x else a) ≥ 4611686018427387904 ↔ 4611686018427387904 ≤ a ∨ 4611686018427387904 ≤ x := by split <;> omega
    refine join_intro (fun _ => ¬ ((1 ≤ r ∧ r ≤ 5) ∧ (4611686018427387904 ≤ a ∨ 4611686018427387904 ≤ x))) ?_ ?_
    · rintro _ hno
      refine join_intro (fun p : Int × Int => (⟨p.1, p.2⟩ : Wide) = ofZ (if r = 1 then a else 0) ∧ (r = 1 ∨ r = 4)) ?_ ?_
      · rintro ⟨p1, p2⟩ ⟨hp, hr⟩
        simp only at hp ⊢
        refine wide_Of_ok ia (wide_Of_ok hx ?_)
        rw [hp, ofI_ofZ ia, ofI_ofZ hx]
        refine wide_Add_ok (ofZ_okW _) (ofZ_okW _) (lesser_ok ?_)
        rw [ofZ_add]
        rw [if_pos (by omega), if_neg (by omega), if_neg (by omega)] at hQ
        rcases hr with hr | hr
        · rw [if_pos hr]; rwa [if_neg (by omega)] at hQ
        · rw [if_neg (show ¬ r = 1 by omega), show (0 : Int) + x = x by omega]
          rw [if_pos hr] at hQ
          unfold inI at hx
          rwa [if_neg (by rw [leW_ofZ (by omega) (by omega)]; omega)]
      · intro k hk
        refine ifP_eq (fun h1 => wide_Of_ok ha (hk _ ⟨?_, .inl h1⟩)) (fun h1 => ifP_eq (fun h4 => hk _ ⟨?_, .inr h4⟩) (fun h4 => ifP_eq (fun h3 => wide_Of_ok ha ?_) (fun h3 => ?_)))
        · rw [if_pos h1]; exact ofI_ofZ ha
        · rw [if_neg h1]; decide
        · rw [if_pos (by omega), if_neg (by omega), if_pos h3] at hQ
          rw [ofI_ofZ ha]; exact hQ
        · rw [if_neg (by omega)] at hQ; exact hQ
    · intro k hk
      refine ring_Is_ok ⟨fun h1 => ifP_dec (fun h2 => wide_Of_ok ia ?_) (fun h2 => hk _ ?_), fun h1 => hk _ ?_⟩
      · have h1 := of_decide_eq_true h1
        rw [if_pos (by omega), if_pos (emax.1 h2)] at hQ
        rw [ofI_ofZ ia]; exact hQ
      · exact fun h' => h2 (emax.2 h'.2)
      · exact fun h' => of_decide_eq_false h1 h'.1
end Go.Proofs.YtjabmpfcpekpdaaGreat

