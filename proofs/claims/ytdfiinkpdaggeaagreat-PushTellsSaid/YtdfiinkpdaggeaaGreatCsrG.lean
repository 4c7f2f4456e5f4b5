/- Right rows are sorted triples, built. -/
import Derived.Test.YtdfiinkpdaggeaaGreatCsrF
namespace Go.Proofs.YtdfiinkpdaggeaaGreat
open Go Go.Fw
set_option linter.unusedVariables false
set_option linter.unusedSimpArgs false
def key (t : Triple) : Key := (t.Row, t.Col)
def Srt (ts : List Triple) : Prop := ts.Pairwise fun a b => ltK (key a) (key b)
structure Canon (rows cols : Int) (ts : List Triple) : Prop where
  r0 : 0 ≤ rows
  r1 : rows ≤ 4096
  c0 : 0 ≤ cols
  c1 : cols ≤ 4096
  len : ts.length ≤ 65536
  srt : Srt ts
  inn : ∀ t ∈ ts, inT rows cols t
theorem mono_count {α : Type} {q : α → Bool} : ∀ {l : List α}, l.Pairwise (fun a b => q b = true → q a = true) → ∀ (i : Nat) (h : i < l.length), (q l[i] = true ↔ i < l.countP q)
  | [], _, i, h => by simp at h
  | a :: l, hp, i, h => by
    rw [List.pairwise_cons] at hp
    rw [List.countP_cons]
    by_cases ha : q a = true
    · rw [if_pos ha]
      cases i with
      | zero => simp [ha]
      | succ i =>
        have := mono_count hp.2 i (by simpa using h)
        simp only [List.getElem_cons_succ]
        rw [this]; omega
    · rw [if_neg ha]
      have hz : l.countP q = 0 := List.countP_eq_zero.2 fun b hb h' => ha (hp.1 b hb h')
      rw [hz]
      refine ⟨fun h' => absurd ?_ ha, fun h => by omega⟩
      cases i with
      | zero => exact h'
      | succ i => exact hp.1 _ (List.getElem_mem _) h'
theorem Srt.row {ts : List Triple} (h : Srt ts) (v : Nat) (p : Nat) (hp : p < ts.length) : ts[p].Row < v ↔ (p : Int) < below ts v := by
  have := mono_count (q := fun t : Triple => decide (t.Row < (v : Int))) (l := ts) (List.Pairwise.imp (fun {a b} hab => by
    simp only [decide_eq_true_eq]
    unfold ltK key at hab
    simp only at hab
    omega) h) p hp
  simp only [decide_eq_true_eq] at this
  rw [this]; unfold below; omega
theorem at0_rm {f : Nat → Int} {n : Nat} {i : Int} (h0 : 0 ≤ i) (h : i < n) : at0 ((List.range n).map f) i = f i.toNat := by
  unfold at0
  rw [List.getD_eq_getElem?_getD, rm_get (by omega)]; rfl
theorem at0_map {α : Type} {f : α → Int} {xs : List α} {i : Int} (h0 : 0 ≤ i) (h : i < xs.length) : at0 (xs.map f) i = f (xs[i.toNat]'(by omega)) := by
  unfold at0
  simp [List.getD_eq_getElem?_getD, show i.toNat < xs.length by omega]
theorem start_at {rows cols : Int} {ts : List Triple} {i : Int} (h0 : 0 ≤ i) (h : i ≤ rows) : at0 (builtS rows cols ts).Start i = below ts i.toNat := at0_rm h0 (by omega)
theorem below_all {rows cols : Int} {ts : List Triple} (h : Canon rows cols ts) : below ts rows.toNat = ts.length := by
  have h0 := h.r0
  unfold below
  rw [List.countP_eq_length.2]
  intro t ht
  have := h.inn t ht
  unfold inT at this
  simp; omega
theorem below_zero {ts : List Triple} (h : ∀ t ∈ ts, 0 ≤ t.Row) : below ts 0 = 0 := by
  unfold below
  rw [List.countP_eq_zero.2]; · rfl
  intro t ht
  have := h t ht
  simp; omega
/-- where a row's stretch lies -/
theorem Srt.at {ts : List Triple} (h : Srt ts) {i p : Nat} (hp : p < ts.length) : ts[p].Row = i ↔ below ts i ≤ p ∧ (p : Int) < below ts (i + 1) := by
  have h1 := h.row i p hp
  have h2 := h.row (i + 1) p hp
  omega
theorem Canon.right {rows cols : Int} {ts : List Triple} (h : Canon rows cols ts) : RightP (builtS rows cols ts) where
  r0 := h.r0
  r1 := h.r1
  c0 := h.c0
  c1 := h.c1
  sl := by have := h.r0; simp [builtS]; omega
  vl := by simp [builtS]
  cl := by simpa [builtS] using h.len
  s0 := by
    have := h.r0
    rw [start_at (by omega) (by omega)]
    exact below_zero fun t ht => (h.inn t ht).1
  sn := by
    have := h.r0
    show at0 (builtS rows cols ts).Start rows = _
    rw [start_at (by omega) (by omega), below_all h]; simp [builtS]
  up i hi := by
    have hi : (i : Int) < rows := hi
    rw [start_at (by omega) (by omega), start_at (by omega) (by omega)]
    have e1 : ((i : Int)).toNat = i := by omega
    have e2 : ((i : Int) + 1).toNat = i + 1 := by omega
    rw [e1, e2, below_succ i ts fun t ht => (h.inn t ht).1]
    have := atRow_le ts (i + 1)
    omega
  row i hi := by
    have hi : (i : Int) < rows := hi
    intro j hj1 hj2
    rw [start_at (by omega) (by omega)] at hj1 hj2 ⊢
    have e1 : ((i : Int)).toNat = i := by omega
    have e2 : ((i : Int) + 1).toNat = i + 1 := by omega
    rw [e1] at hj1 ⊢
    rw [e2] at hj2
    have hb := below_le ts (i + 1)
    have hjl : j < ts.length := by omega
    have hc : at0 (builtS rows cols ts).Col j = ts[j].Col := by
      show at0 (ts.map (·.Col)) j = _
      rw [at0_map (by omega) (by omega)]; rfl
    have hin := h.inn _ (List.getElem_mem hjl)
    have hr := (h.srt.at hjl (i := i)).2 ⟨hj1, hj2⟩
    unfold inT at hin
    refine ⟨by rw [hc]; omega, by rw [hc]; exact hin.2.2.2, fun hlt => ?_⟩
    obtain ⟨q, rfl⟩ : ∃ q, j = q + 1 := ⟨j - 1, by have := below_le ts i; omega⟩
    have hc2 : at0 (builtS rows cols ts).Col (((q + 1 : Nat) : Int) - 1) = ts[q].Col := by
      show at0 (ts.map (·.Col)) _ = _
      rw [at0_map (by omega) (by omega)]
      simp
    have hr2 := (h.srt.at (show q < ts.length by omega) (i := i)).2 ⟨by omega, by omega⟩
    have hs := List.pairwise_iff_getElem.1 h.srt q (q + 1) (by omega) hjl (by omega)
    unfold ltK key at hs
    simp only at hs
    rw [hc, hc2]; omega
/-! ### Back -/
theorem countP_lt (s : Int) (h0 : 0 ≤ s) : ∀ n : Nat, s ≤ n → (((List.range n).countP (fun p : Nat => decide ((p : Int) < s)) : Nat) : Int) = s
  | 0, h => by simp; omega
  | n + 1, h => by
    rw [List.range_succ, List.countP_append, List.countP_singleton]
    by_cases e : s ≤ n
    · rw [if_neg (by simp; omega)]
      have := countP_lt s h0 n e
      omega
    · have hs : s = n + 1 := by omega
      subst hs
      rw [if_pos (by simp; omega), List.countP_eq_length.2 (by simp; omega)]
      simp
theorem map_at0 (xs : List Int) (n : Nat) (h : xs.length = n) : (List.range n).map (fun p : Nat => at0 xs p) = xs := by
  subst h
  apply List.ext_getElem?
  intro i
  by_cases h : i < xs.length
  · rw [rm_get h]; unfold at0; simp [List.getD_eq_getElem?_getD, h]
  · rw [List.getElem?_eq_none (by simp; omega), List.getElem?_eq_none (by omega)]
def rowOf (a : Rows) (p : Nat) : Int := (((List.range a.Rows.toNat).countP (fun i : Nat => decide (at0 a.Start ((i : Int) + 1) ≤ p)) : Nat) : Int)
def trip (a : Rows) : List Triple := (List.range a.Col.length).map fun p => ⟨rowOf a p, at0 a.Col p, at0 a.Val p⟩
theorem rowOf_lt {a : Rows} (h : RightP a) (p v : Nat) (hv : (v : Int) ≤ a.Rows) : rowOf a p < v ↔ (p : Int) < at0 a.Start v := by
  obtain ⟨n, hn⟩ : ∃ n : Nat, a.Rows = n := ⟨a.Rows.toNat, by have := h.r0; omega⟩
  cases v with
  | zero => have := h.s0; unfold rowOf; simp only [Int.ofNat_zero] at *; rw [this]; omega
  | succ v =>
    have hup : ∀ i : Nat, i < n → at0 a.Start i ≤ at0 a.Start ((i : Int) + 1) := fun i hi => h.up i (by omega)
    have hm := mono_count (q := fun i : Nat => decide (at0 a.Start ((i : Int) + 1) ≤ p)) (l := List.range n) (by
      rw [List.pairwise_iff_getElem]
      intro i j hi hj hij
      simp only [List.getElem_range, decide_eq_true_eq]
      intro hh
      simp at hj
      have := up_le hup (i := i + 1) (j := j + 1) (by omega) (by omega)
      have e1 : ((i + 1 : Nat) : Int) = (i : Int) + 1 := by omega
      have e2 : ((j + 1 : Nat) : Int) = (j : Int) + 1 := by omega
      rw [e1, e2] at this; omega) v (by simp; omega)
    simp only [List.getElem_range, decide_eq_true_eq] at hm
    unfold rowOf
    rw [hn, Int.toNat_natCast]
    have e2 : ((v + 1 : Nat) : Int) = (v : Int) + 1 := by omega
    rw [e2]
    omega
theorem rise {a : Rows} (h : RightP a) {i p q : Nat} (hi : (i : Int) < a.Rows) (h1 : at0 a.Start i ≤ p) (h2 : (q : Int) < at0 a.Start ((i : Int) + 1)) (hpq : p < q) : at0 a.Col p < at0 a.Col q := by
  induction q with
  | zero => omega
  | succ q ih =>
    have := (h.row i hi (q + 1) (by omega) h2).2.2 (by omega)
    rw [show ((q + 1 : Nat) : Int) - 1 = q by omega] at this
    by_cases e : p = q
    · subst e; exact this
    · have := ih (by omega) (by omega); omega
theorem RightP.canon {a : Rows} (h : RightP a) : Canon a.Rows a.Cols (trip a) ∧ a = builtS a.Rows a.Cols (trip a) := by
  obtain ⟨n, hn⟩ : ∃ n : Nat, a.Rows = n := ⟨a.Rows.toNat, by have := h.r0; omega⟩
  have hlt : ∀ p : Nat, p < a.Col.length → rowOf a p < n := fun p hp => by
    have := (rowOf_lt h p n (by omega)).2 (by have := h.sn; rw [hn] at this; omega)
    exact this
  have hst : ∀ (p i : Nat), p < a.Col.length → rowOf a p = i → at0 a.Start i ≤ p ∧ (p : Int) < at0 a.Start ((i : Int) + 1) := fun p i hp e => by
    have h0 := hlt p hp
    have h1 := rowOf_lt h p i (by omega)
    have h2 := rowOf_lt h p (i + 1) (by omega)
    rw [show ((i + 1 : Nat) : Int) = (i : Int) + 1 by omega] at h2
    omega
  have hpos : ∀ p, ∃ i : Nat, rowOf a p = i := fun p => ⟨_, rfl⟩
  refine ⟨⟨h.r0, h.r1, h.c0, h.c1, by simpa [trip] using h.cl, ?_, ?_⟩, ?_⟩
  · unfold Srt trip
    rw [List.pairwise_map, List.pairwise_iff_getElem]
    intro i j hi hj hij
    have hi : i < a.Col.length := by simpa using hi
    have hj : j < a.Col.length := by simpa using hj
    simp only [List.getElem_range]
    obtain ⟨ri, hri⟩ := hpos i
    obtain ⟨rj, hrj⟩ := hpos j
    have h1 := hst i ri hi hri
    have h2 := hst j rj hj hrj
    have hri' := hlt i hi
    have hrj' := hlt j hj
    have hle : ri ≤ rj := by
      have := rowOf_lt h i (rj + 1) (by omega)
      rw [show ((rj + 1 : Nat) : Int) = (rj : Int) + 1 by omega] at this
      omega
    unfold ltK key
    simp only
    rw [hri, hrj]
    by_cases e : ri = rj
    · subst e
      exact .inr ⟨rfl, rise h (by omega) h1.1 h2.2 hij⟩
    · left; omega
  · intro t ht
    obtain ⟨p, hp, rfl⟩ := List.mem_map.1 ht
    simp only [List.mem_range] at hp
    obtain ⟨r, hr⟩ := hpos p
    have h0 := hlt p hp
    have h1 := hst p r hp hr
    have h2 := h.row r (by omega) p h1.1 h1.2
    unfold inT
    simp only
    omega
  · rw [rows_eq]
    refine ⟨rfl, rfl, ?_, ?_, ?_⟩
    · unfold builtS
      simp only
      have hl := h.sl
      have hb : ∀ v : Nat, v < n + 1 → below (trip a) v = at0 a.Start v := by
        intro v hv
        unfold below trip
        rw [List.countP_map]
        have h1 : 0 ≤ at0 a.Start v := by
          have := up_le (n := n) (fun i hi => h.up i (by omega)) (i := 0) (j := v) (by omega) (by omega)
          have h0 := h.s0
          rw [show ((0 : Nat) : Int) = 0 from rfl, h0] at this; exact this
        have h2 : at0 a.Start v ≤ a.Col.length := by
          have := up_le (n := n) (fun i hi => h.up i (by omega)) (i := v) (j := n) (by omega) (by omega)
          have h0 := h.sn
          rw [hn] at h0; rw [h0] at this; exact this
        refine Eq.trans ?_ (countP_lt (at0 a.Start v) h1 a.Col.length h2)
        congr 1
        apply List.countP_congr
        intro p hp
        simp only [Function.comp_apply, decide_eq_true_eq]
        exact rowOf_lt h p v (by omega)
      rw [show a.Rows.toNat + 1 = n + 1 by omega, rm_congr hb, map_at0 a.Start (n + 1) (by omega)]
    · unfold builtS trip
      simp only [List.map_map]
      exact (map_at0 a.Col _ rfl).symm
    · unfold builtS trip
      simp only [List.map_map]
      exact (map_at0 a.Val _ h.vl).symm
theorem canon_empty : Canon 0 0 [] := ⟨by omega, by omega, by omega, by omega, by simp, .nil, by simp⟩
/-- rows that are sure: right ones stay, others become empty -/
noncomputable def sureS (a : Rows) : Rows := if RightP a then a else builtS 0 0 []
theorem ref_sure_ok {a : Rows} {Q : Rows → Prop} (hl : small a) (hQ : Q (sureS a)) : ref07_Sure a Q := by
  unfold ref07_Sure ref07_Empty
  unfold sureS at hQ
  refine ref_right_ok hl (ifP_dec (fun h => ?_) (fun h => ?_))
  · rwa [if_pos h] at hQ
  · rw [if_neg h] at hQ
    exact ⟨by decide, by decide, hQ⟩
end Go.Proofs.YtdfiinkpdaggeaaGreat
