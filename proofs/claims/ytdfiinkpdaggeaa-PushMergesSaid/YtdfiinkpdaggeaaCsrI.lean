/- Rows turned, rows cut. -/
import Derived.Test.YtdfiinkpdaggeaaCsrH
namespace Go.Proofs.Ytdfiinkpdaggeaa
open Go Go.Fw
set_option linter.unusedVariables false
set_option linter.unusedSimpArgs false
theorem Srt.nodup {l : List Triple} (h : Srt l) : l.Nodup := by
  rw [List.nodup_iff_pairwise_ne]
  exact List.Pairwise.imp (R := fun a b => ltK (key a) (key b)) (fun {a b} hab (e : a = b) => ltK_irrefl (key b) (by rw [e] at hab; exact hab)) h
theorem sure_built {rows cols : Int} {ts : List Triple} (h : Canon rows cols ts) : sureS (builtS rows cols ts) = builtS rows cols ts := by
  unfold sureS; rw [if_pos h.right]
/-! ### Turned -/
def flip (t : Triple) : Triple := ⟨t.Col, t.Row, t.Val⟩
def turnT (cols : Int) (ts : List Triple) : List Triple := (List.range cols.toNat).flatMap fun c : Nat => (ts.filter fun t : Triple => decide (t.Col = (c : Int))).map flip
theorem turn_mem {rows cols : Int} {ts : List Triple} (h : Canon rows cols ts) (t : Triple) : t ∈ turnT cols ts ↔ flip t ∈ ts := by
  unfold turnT
  simp only [List.mem_flatMap, List.mem_range, List.mem_map, List.mem_filter, decide_eq_true_eq]
  constructor
  · rintro ⟨c, hc, u, ⟨hu, _⟩, rfl⟩; exact hu
  · intro ht
    have := h.inn _ ht
    unfold inT flip at this
    simp only at this
    exact ⟨t.Row.toNat, by omega, flip t, ⟨ht, by show t.Row = _; omega⟩, rfl⟩
theorem turn_srt {ts : List Triple} (cols : Int) (h : Srt ts) : Srt (turnT cols ts) := by
  unfold Srt turnT
  rw [List.pairwise_flatMap]
  refine ⟨fun c _ => ?_, ?_⟩
  · rw [List.pairwise_map]
    refine List.Pairwise.imp_of_mem (fun {a b} ha hb hab => ?_) (List.Pairwise.filter (R := fun a b => ltK (key a) (key b)) (fun t => decide (t.Col = (c : Int))) h)
    have h1 := (List.mem_filter.1 ha).2
    have h2 := (List.mem_filter.1 hb).2
    simp only [decide_eq_true_eq] at h1 h2
    unfold ltK key at *
    simp only [flip] at *
    omega
  · refine List.Pairwise.imp (fun {a b} hab x hx y hy => ?_) (List.pairwise_lt_range (n := cols.toNat))
    obtain ⟨u, hu, rfl⟩ := List.mem_map.1 hx
    obtain ⟨v, hv, rfl⟩ := List.mem_map.1 hy
    have h1 := (List.mem_filter.1 hu).2
    have h2 := (List.mem_filter.1 hv).2
    simp only [decide_eq_true_eq] at h1 h2
    unfold ltK key flip
    simp only
    omega
theorem flip_nodup {ts : List Triple} (h : Srt ts) : (ts.map flip).Nodup := by
  rw [List.nodup_iff_pairwise_ne, List.pairwise_map]
  refine List.Pairwise.imp (R := fun a b => ltK (key a) (key b)) (fun {a b} hab e => ?_) h
  have : a = b := by
    cases a; cases b
    simp only [flip, Triple.mk.injEq] at e ⊢
    omega
  subst this; exact ltK_irrefl _ hab
theorem turn_perm {rows cols : Int} {ts : List Triple} (h : Canon rows cols ts) : (ts.map flip).Perm (turnT cols ts) := by
  refine (List.perm_ext_iff_of_nodup (flip_nodup h.srt) (turn_srt cols h.srt).nodup).2 fun t => ?_
  rw [turn_mem h, List.mem_map]
  exact ⟨by rintro ⟨u, hu, rfl⟩; exact hu, fun ht => ⟨flip t, ht, rfl⟩⟩
theorem turn_canon {rows cols : Int} {ts : List Triple} (h : Canon rows cols ts) : Canon cols rows (turnT cols ts) where
  r0 := h.c0
  r1 := h.c1
  c0 := h.r0
  c1 := h.r1
  len := by have := (turn_perm h).length_eq; have := h.len; simp at *; omega
  srt := turn_srt cols h.srt
  inn t ht := by
    have := h.inn _ ((turn_mem h t).1 ht)
    unfold inT flip at *
    simp only at this
    omega
theorem ref_turn_ok {a : Rows} {rows cols : Int} {ts : List Triple} {Q : Rows → Prop} (hl : small a) (ha : sureS a = builtS rows cols ts) (h : Canon rows cols ts) (hQ : Q (builtS cols rows (turnT cols ts))) : ref07_Turn a Q := by
  unfold ref07_Turn
  have hlen := h.len
  have hc1 := h.c1; have hc0 := h.c0
  refine ref_sure_ok hl ?_
  rw [ha]
  refine ref_triples_ok h.sml (sure_built h) h ?_
  obtain ⟨n, hn⟩ : ∃ n : Nat, cols = n := ⟨cols.toNat, by omega⟩
  have hcl : (builtS rows cols ts).Cols = n := hn
  have hrl : (builtS rows cols ts).Rows = rows := rfl
  rw [hcl, hrl]
  have hlen3 : ∀ i : Nat, (turnT i ts).length ≤ i * 65536 := by
    intro i
    unfold turnT
    rw [Int.toNat_natCast]
    induction i with
    | zero => simp
    | succ i ih =>
      rw [List.range_succ, List.flatMap_append, List.length_append]
      have := List.length_filter_le (fun t : Triple => decide (t.Col = (i : Int))) ts
      simp only [List.flatMap_singleton, List.length_map]
      omega
  refine range_intro (fun (s : List Triple) i => (s, i)) 0 n (by omega) (fun i s => s = turnT (i : Int) ts) (by omega) (s0 := []) rfl (fun i s next _ hi hm hnx => ?_) (fun s next hm => ?_)
  · subst hm
    dsimp only
    refine ifP_dec (fun _ => ?_) (fun h => by omega)
    have hl3 := hlen3 i
    refine range_intro (fun (s : List Triple) i => (s, i)) 0 ts.length (by omega) (fun j s => s = turnT (i : Int) ts ++ ((ts.take j).filter fun t : Triple => decide (t.Col = (i : Int))).map flip) (by omega) (by simp) (fun j s nx _ hj hm hnj => ?_) (fun s nx hm => ?_)
    · subst hm
      dsimp only
      refine ifP_dec (fun _ => ?_) (fun h => by omega)
      have hst : (ts.take (j + 1)).filter (fun t : Triple => decide (t.Col = (i : Int))) = (ts.take j).filter (fun t : Triple => decide (t.Col = (i : Int))) ++ if ts[j].Col = (i : Int) then [ts[j]] else [] := by
        rw [List.take_succ_eq_append_getElem hj, List.filter_append, List.filter_cons, List.filter_nil]; simp only [decide_eq_true_eq]
      refine idxP_nat hj (ifP_eq (fun e => idxP_nat hj (idxP_nat hj (appP_intro ?_ (hnj _ ?_)))) (fun e => hnj _ ?_))
      · have := List.length_filter_le (fun t : Triple => decide (t.Col = (i : Int))) (ts.take j)
        have h4 : (ts.take j).length ≤ ts.length := by simp; omega
        simp only [List.length_append, List.length_map, List.length_singleton]
        omega
      · rw [hst, if_pos e, List.map_append, List.append_assoc]
        have : (⟨(i : Int), ts[j].Row, ts[j].Val⟩ : Triple) = flip ts[j] := by unfold flip; rw [e]
        rw [this]; rfl
      · rw [hst, if_neg e, List.append_nil]
    · subst hm
      dsimp only
      refine ifP_dec (fun h => by omega) (fun _ => hnx _ ?_)
      rw [List.take_length]
      unfold turnT
      rw [Int.toNat_natCast, Int.toNat_natCast, List.range_succ, List.flatMap_append]
      simp
  · subst hm
    dsimp only
    refine ifP_dec (fun h => by omega) (fun _ => ?_)
    have hT := turn_canon h
    rw [hn] at hT hQ
    refine ref_built_ok (by omega) (by omega) (by have := hT.len; omega) (fun t ht => ?_) hQ
    have := hT.inn t ht
    unfold inT at this
    exact ⟨this.1, this.2.1⟩
/-! ### Cut -/
end Go.Proofs.Ytdfiinkpdaggeaa
