/- Matrices by columns: the reference. -/
import Derived.Test.YtdfiinkpdaggeaaGreatDcscD
namespace Go.Proofs.YtdfiinkpdaggeaaGreat
open Go Go.Fw
set_option linter.unusedVariables false
set_option linter.unusedSimpArgs false
theorem atS_succ (n : Nat) (T : List Triple) : atS (n + 1) T = if segS T n = [] then atS n T else atS n T ++ [(n : Int)] := by
  have e : anyR T n = !(segS T n).isEmpty := by
    unfold anyR segS
    rw [Bool.eq_iff_iff]
    simp only [List.any_eq_true, decide_eq_true_eq, Bool.not_eq_true', List.isEmpty_eq_false_iff, ne_eq, List.filter_eq_nil_iff, Classical.not_forall]
    simp
  unfold atS
  rw [List.range_succ, List.filter_append, List.map_append]
  by_cases h : segS T n = []
  · rw [if_pos h]
    have : anyR T n = false := by rw [e, h]; rfl
    simp [this]
  · rw [if_neg h]
    have : anyR T n = true := by rw [e]; cases hs : segS T n with
      | nil => exact absurd hs h
      | cons => rfl
    simp [this]
theorem stS_succ (n : Nat) (T : List Triple) : stS (n + 1) T = if segS T n = [] then stS n T else stS n T ++ [below T (n + 1)] := by
  unfold stS
  rw [atS_succ]
  by_cases h : segS T n = []
  · rw [if_pos h, if_pos h]
  · rw [if_neg h, if_neg h]; simp
theorem Seg.lens {T : List Triple} {x lo hi : Nat} (s : Seg T x lo hi) : (segS T x).length = hi - lo := by
  rw [← s.eq]; have := s.len; simp; omega
theorem ref_dcsc_of_ok {a : Rows} {rows cols : Int} {ts : List Triple} {Q : Columns → Prop} (hl : small a) (ha : sureS a = builtS rows cols ts) (h : Canon rows cols ts) (hQ : Q (colS rows cols (turnT cols ts))) : ref08_Of a Q := by
  unfold ref08_Of
  refine ref_turn_ok hl ha h ?_
  have hT := turn_canon h
  generalize turnT cols ts = T at hT hQ
  have hlen := hT.len; have hc0 := hT.r0; have hc1 := hT.r1
  obtain ⟨n, rfl⟩ : ∃ n : Nat, cols = n := ⟨cols.toNat, by omega⟩
  refine range_intro (fun (s : List Int × List Int × List Int × List Int) (i : Int) => (s.1, s.2.1, s.2.2.1, s.2.2.2, i)) 0 n (by omega) (fun k s => s = (atS k T, stS k T, (T.take (below T k).toNat).map (·.Col), (T.take (below T k).toNat).map (·.Val))) (by omega) (s0 := ([], [0], [], [])) (by rw [below_zero fun t ht => (hT.inn t ht).1]; rfl) (fun k s next _ hk hm hn => ?_) (fun s next hm => ?_)
  · subst hm
    dsimp only
    refine ifP_dec (fun _ => ?_) (fun (h : ¬ (k : Int) < n) => by omega)
    refine ref_row_ok hT.sml (sure_built hT) hT ?_
    unfold rowS
    rw [if_pos (by omega), Int.toNat_natCast]
    obtain ⟨lo, hi, s⟩ := hT.seg k
    have hsl := s.lens; have hsn := s.len; have hle := s.le
    have hal := atS_len k T; have hst := st_len k T
    refine ifP_eq (fun h0 => hn (_, _, _, _) ?_) (fun h0 => ?_)
    · have hnil : segS T k = [] := List.length_eq_zero_iff.1 (by simpa using h0)
      have : lo = hi := by rw [hnil] at hsl; simp at hsl; omega
      rw [atS_succ, stS_succ, if_pos hnil, if_pos hnil, s.hi, s.lo, this]; rfl
    · have hne : segS T k ≠ [] := fun e => h0 (by rw [e]; rfl)
      refine appP_intro (by simp; omega) ?_
      rw [s.lo, Int.toNat_natCast]
      have hxs : segS T k = (T.take hi).drop lo := s.eq.symm
      have htk : T.take hi = T.take lo ++ segS T k := by
        rw [hxs]
        have : T.take lo = (T.take hi).take lo := by rw [List.take_take, Nat.min_eq_left hle]
        rw [this, List.take_append_drop]
      generalize hX : segS T k = X at hsl htk hne
      refine range_intro (fun (s : List Int × List Int) (i : Int) => (s.1, s.2, i)) 0 X.length (by omega) (fun i s => s = ((T.take lo).map (·.Col) ++ (X.take i).map (·.Col), (T.take lo).map (·.Val) ++ (X.take i).map (·.Val))) (by omega) (s0 := ((T.take lo).map (·.Col), (T.take lo).map (·.Val))) (by simp) (fun i s nx _ hi2 hm hnx => ?_) (fun s nx hm => ?_)
      · subst hm
        dsimp only
        refine ifP_dec (fun _ => ?_) (fun h => by simp at h; omega)
        refine idxP_intro (by omega) (x := itS X[i]) (by simp [hi2]) (appP_intro (by simp; omega) (idxP_intro (by omega) (x := itS X[i]) (by simp [hi2]) (appP_intro (by simp; omega) (hnx (_, _) ?_))))
        rw [take_snoc hi2, List.map_append, List.map_append, ← List.append_assoc, ← List.append_assoc]; rfl
      · subst hm
        dsimp only
        refine ifP_dec (fun h => by simp at h) (fun _ => ?_)
        rw [List.take_length, ← List.map_append, ← List.map_append, ← htk]
        refine appP_intro (by simp [st_len]; omega) (hn (_, _, _, _) ?_)
        rw [atS_succ, stS_succ, hX, if_neg hne, if_neg hne, s.hi, Int.toNat_natCast]
        have : (((T.take hi).map (·.Col)).length : Int) = (hi : Int) := by simp; omega
        rw [this]
  · subst hm
    dsimp only
    refine ifP_dec (fun (h : (n : Int) < n) => by omega) (fun _ => ?_)
    have hb : below T n = T.length := by have := below_all hT; rwa [Int.toNat_natCast] at this
    rw [hb, Int.toNat_natCast, List.take_length]
    exact hQ
end Go.Proofs.YtdfiinkpdaggeaaGreat
