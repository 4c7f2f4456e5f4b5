/- Right rows are sorted triples, built. -/
import Derived.Test.YtdfiinkpdaggeaaGreatCsrF
namespace Go.Proofs.YtdfiinkpdaggeaaGreat
open Go Go.Fw
set_option linter.unusedVariables false
set_option linter.unusedSimpArgs false
def key (t : Triple) : Key := (t.Row, t.Col)
def Srt (ts : List Triple) : Prop := ts.Pairwise fun a b => ltK (key a) (key b)
structure Canon (rows cols : Int) (ts : List Triple) : Prop where
  r0 : 0 ≤ rows
  r1 : rows ≤ 4096
  c0 : 0 ≤ cols
  c1 : cols ≤ 4096
  len : ts.length ≤ 65536
  srt : Srt ts
  inn : ∀ t ∈ ts, inT rows cols t
theorem mono_count {α : Type} {q : α → Bool} : ∀ {l : List α}, l.Pairwise (fun a b => q b = true → q a = true) → ∀ (i : Nat) (h : i < l.length), (q l[i] = true ↔ i < l.countP q)
  | [], _, i, h => by simp at h
  | a :: l, hp, i, h => by
    rw [List.pairwise_cons] at hp
    rw [List.countP_cons]
    by_cases ha : q a = true
    · rw [if_pos ha]
      cases i with
      | zero => simp [ha]
      | succ i =>
        have := mono_count hp.2 i (by simpa using h)
        simp only [List.getElem_cons_succ]
        rw [this]; omega
    · rw [if_neg ha]
      have hz : l.countP q = 0 := List.countP_eq_zero.2 fun b hb h' => ha (hp.1 b hb h')
      rw [hz]
      refine ⟨fun h' => absurd ?_ ha, fun h => by omega⟩
      cases i with
      | zero => exact h'
      | succ i => exact hp.1 _ (List.getElem_mem _) h'
theorem Srt.row {ts : List Triple} (h : Srt ts) (v : Nat) (p : Nat) (hp : p < ts.length) : ts[p].Row < v ↔ (p : Int) < below ts v := by
  have := mono_count (q := fun t : Triple => decide (t.Row < (v : Int))) (l := ts) (List.Pairwise.imp (fun {a b} hab => by
    simp only [decide_eq_true_eq]
    unfold ltK key at hab
    simp only at hab
    omega) h) p hp
  simp only [decide_eq_true_eq] at this
  rw [this]; unfold below; omega
theorem at0_rm {f : Nat → Int} {n : Nat} {i : Int} (h0 : 0 ≤ i) (h : i < n) : at0 ((List.range n).map f) i = f i.toNat := by
  unfold at0
  rw [List.getD_eq_getElem?_getD, rm_get (by omega)]; rfl
theorem at0_map {α : Type} {f : α → Int} {xs : List α} {i : Int} (h0 : 0 ≤ i) (h : i < xs.length) : at0 (xs.map f) i = f (xs[i.toNat]'(by omega)) := by
  unfold at0
  simp [List.getD_eq_getElem?_getD, show i.toNat < xs.length by omega]
theorem start_at {rows cols : Int} {ts : List Triple} {i : Int} (h0 : 0 ≤ i) (h : i ≤ rows) : at0 (builtS rows cols ts).Start i = below ts i.toNat := at0_rm h0 (by omega)
theorem below_all {rows cols : Int} {ts : List Triple} (h : Canon rows cols ts) : below ts rows.toNat = ts.length := by
  have h0 := h.r0
  unfold below
  rw [List.countP_eq_length.2]
  intro t ht
  have := h.inn t ht
  unfold inT at this
  simp; omega
theorem below_zero {ts : List Triple} (h : ∀ t ∈ ts, 0 ≤ t.Row) : below ts 0 = 0 := by
  unfold below
  rw [List.countP_eq_zero.2]; · rfl
  intro t ht
  have := h t ht
  simp; omega
/-- where a row's stretch lies -/
theorem Srt.at {ts : List Triple} (h : Srt ts) {i p : Nat} (hp : p < ts.length) : ts[p].Row = i ↔ below ts i ≤ p ∧ (p : Int) < below ts (i + 1) := by
  have h1 := h.row i p hp
  have h2 := h.row (i + 1) p hp
  omega
theorem Canon.right {rows cols : Int} {ts : List Triple} (h : Canon rows cols ts) : RightP (builtS rows cols ts) where
  r0 := h.r0
  r1 := h.r1
  c0 := h.c0
  c1 := h.c1
  sl := by have := h.r0; simp [builtS]; omega
  vl := by simp [builtS]
  cl := by simpa [builtS] using h.len
  s0 := by
    have := h.r0
    rw [start_at (by omega) (by omega)]
    exact below_zero fun t ht => (h.inn t ht).1
  sn := by
    have := h.r0
    show at0 (builtS rows cols ts).Start rows = _
    rw [start_at (by omega) (by omega), below_all h]; simp [builtS]
  up i hi := by
    have hi : (i : Int) < rows := hi
    rw [start_at (by omega) (by omega), start_at (by omega) (by omega)]
    have e1 : ((i : Int)).toNat = i := by omega
    have e2 : ((i : Int) + 1).toNat = i + 1 := by omega
    rw [e1, e2, below_succ i ts fun t ht => (h.inn t ht).1]
    have := atRow_le ts (i + 1)
    omega
  row i hi := by
    have hi : (i : Int) < rows := hi
    intro j hj1 hj2
    rw [start_at (by omega) (by omega)] at hj1 hj2 ⊢
    have e1 : ((i : Int)).toNat = i := by omega
    have e2 : ((i : Int) + 1).toNat = i + 1 := by omega
    rw [e1] at hj1 ⊢
    rw [e2] at hj2
    have hb := below_le ts (i + 1)
    have hjl : j < ts.length := by omega
    have hc : at0 (builtS rows cols ts).Col j = ts[j].Col := by
      show at0 (ts.map (·.Col)) j = _
      rw [at0_map (by omega) (by omega)]; rfl
    have hin := h.inn _ (List.getElem_mem hjl)
    have hr := (h.srt.at hjl (i := i)).2 ⟨hj1, hj2⟩
    unfold inT at hin
    refine ⟨by rw [hc]; omega, by rw [hc]; exact hin.2.2.2, fun hlt => ?_⟩
    obtain ⟨q, rfl⟩ : ∃ q, j = q + 1 := ⟨j - 1, by have := below_le ts i; omega⟩
    have hc2 : at0 (builtS rows cols ts).Col (((q + 1 : Nat) : Int) - 1) = ts[q].Col := by
      show at0 (ts.map (·.Col)) _ = _
      rw [at0_map (by omega) (by omega)]
      simp
    have hr2 := (h.srt.at (show q < ts.length by omega) (i := i)).2 ⟨by omega, by omega⟩
    have hs := List.pairwise_iff_getElem.1 h.srt q (q + 1) (by omega) hjl (by omega)
    unfold ltK key at hs
    simp only at hs
    rw [hc, hc2]; omega
/-! ### Back -/
/-- rows that are sure: right ones stay, others become empty -/
noncomputable def sureS (a : Rows) : Rows := if RightP a then a else builtS 0 0 []
theorem sure_ok {a : Rows} {Q : Rows → Prop} (hl : small a) (hQ : Q (sureS a)) : csr_sure a Q := by
  unfold csr_sure csr_empty
  unfold sureS at hQ
  refine right_ok hl (ifP_dec (fun h => ?_) (fun h => ?_))
  · rwa [if_pos h] at hQ
  · rw [if_neg h] at hQ
    exact ⟨by decide, by decide, hQ⟩
theorem ref_sure_ok {a : Rows} {Q : Rows → Prop} (hl : small a) (hQ : Q (sureS a)) : ref07_Sure a Q := by
  unfold ref07_Sure ref07_Empty
  unfold sureS at hQ
  refine ref_right_ok hl (ifP_dec (fun h => ?_) (fun h => ?_))
  · rwa [if_pos h] at hQ
  · rw [if_neg h] at hQ
    exact ⟨by decide, by decide, hQ⟩
end Go.Proofs.YtdfiinkpdaggeaaGreat
