/- The statements about matrices by columns, in plain Lean. -/
import Derived.Test.YtjobeiikppmidaaOK
import Derived.Test.YtjobeiikppmidaaDcscE
namespace Go.Proofs.Ytjobeiikppmidaa
open Go Go.Fw
set_option linter.unusedVariables false
set_option linter.unusedSimpArgs false
def D0 : List Triple := [⟨1, 700, 4⟩]
def D1 : List Triple := [⟨700, 1, 4⟩]
theorem D0_canon : Canon 2 1000 D0 := ⟨by decide, by decide, by decide, by decide, by decide, by unfold Srt; decide, by decide⟩
theorem D1_canon : Canon 1000 2 D1 := ⟨by decide, by decide, by decide, by decide, by decide, by unfold Srt; decide, by decide⟩
theorem D0_turn : turnT 1000 D0 = D1 := by
  refine srt_ext (turn_srt _ D0_canon.srt) D1_canon.srt fun t => ?_
  rw [turn_mem D0_canon]
  obtain ⟨a, b, c⟩ := t
  simp [D0, D1, flip]
  omega
theorem D1_turn : turnT 2 D1 = D0 := by
  refine srt_ext (turn_srt _ D1_canon.srt) D0_canon.srt fun t => ?_
  rw [turn_mem D1_canon]
  obtain ⟨a, b, c⟩ := t
  simp [D0, D1, flip]
  omega
theorem D1_at : atS 1000 D1 = [700] := by
  refine incr_ext (atS_incr _ _) (by simp) fun x => ?_
  rw [atS_mem]
  simp [D1]
  omega
theorem zC_wrong : ¬ ColP ⟨0, 0, [], [], [], []⟩ := fun h => by have := h.sl; simp at this
theorem live08_ok {Q : Bool → Prop} (hQ : Q true) : law08_live Q := by
  unfold law08_live
  have hv : ∀ t ∈ D1, inI t.Val := by unfold inI; decide
  have s1 := sureC_col (rows := 2) D1_canon
  have sm := Canon.smlC (rows := 2) D1_canon
  have e : (1000 : Int).toNat = 1000 := rfl
  refine ref_Of_ok (by decide) (by unfold inI; decide) ?_
  rw [show ofS 1 2 1000 ([({ Row := 1, Col := 700, Val := 4 } : Triple)]) = (builtS 2 1000 D0, 0) by
    have := of_self (r := 1) D0_canon (by unfold inI; decide) (by omega)
    exact this]
  refine dcsc_of_ok D0_canon.sml (sure_built D0_canon) (fun _ => rfl) (fun h => absurd D0_canon.right h) D0_canon ?_
  rw [D0_turn]
  refine dcsc_column_ok sm s1 D1_canon (dcsc_many_ok sm s1 ?_)
  rw [e, D1_at]
  refine ifP_pos (by decide) (dcsc_count_ok sm s1 (ifP_pos (by decide) (ifP_pos (by decide) ?_)))
  refine idxP_intro (by decide) (x := ⟨1, 4⟩) (by decide) (ifP_pos (by decide) ?_)
  refine dcsc_column_ok sm s1 D1_canon (ifP_pos (by decide) (dcsc_back_ok sm s1 D1_canon hv ?_))
  rw [D1_turn]
  refine ref_same_ok D0_canon.sml (ifP_pos (by simp) (dcsc_right_ok sm (ifP_pos (decide_eq_true (Canon.colp (rows := 2) D1_canon)) ?_)))
  refine dcsc_right_ok (by unfold smallC; simp) (ifP_pos (by rw [decide_eq_false zC_wrong]; rfl) ?_)
  refine dcsc_work_ok sm (by decide) s1 D1_canon (ifP_pos (by decide) (dcsc_same_ok sm (ifP_pos (by simp) (dcsc_same_ok sm ?_))))
  rw [decide_eq_false]
  · exact hQ
  · intro h
    have := congrArg Columns.Rows h
    simp [colS] at this
theorem DcscBack_ok (a0 : Int × Int) (a1 : List Triple) (h0 : inR .u8 a0.1 ∧ inR .u8 a0.2) (h1 : (∀ x ∈ a1, okTriple x) ∧ a1.length ≤ maxLen) : law08_DcscBack a0 a1 (fun r => r = true) := by
  unfold law08_DcscBack
  refine some_ok h0 h1.1 fun rows cols T r1 c1 hc hv => ?_
  have hs := sure_built hc
  have ht := turn_canon hc
  have hcs := Canon.smlC (rows := rows) ht
  have hsc := sureC_col (rows := rows) ht
  have hvt := turnT_vals hc hv
  refine dcsc_of_ok hc.sml hs (fun _ => rfl) (fun h => absurd hc.right h) hc ?_
  refine live08_ok (ifP_pos rfl (dcsc_right_ok hcs (ifP_pos (decide_eq_true ht.colp) (dcsc_back_ok hcs hsc ht hvt ?_))))
  rw [turn_turn hc]
  refine ref_same_ok hc.sml (ifP_pos (by simp) (dcsc_back_ok hcs hsc ht hvt ?_))
  rw [turn_turn hc]
  exact dcsc_of_ok hc.sml hs (fun _ => rfl) (fun h => absurd hc.right h) hc (dcsc_same_ok hcs (by simp))
theorem DcscTurns_ok (a0 : Int × Int) (a1 : List Triple) (a2 : Int) (h0 : inR .u8 a0.1 ∧ inR .u8 a0.2) (h1 : (∀ x ∈ a1, okTriple x) ∧ a1.length ≤ maxLen) (h2 : inR .u8 a2) : law08_DcscTurns a0 a1 a2 (fun r => r = true) := by
  unfold law08_DcscTurns
  generalize w64 a2 = c2
  refine some_ok h0 h1.1 fun rows cols T r1 c1 hc hv => ?_
  have hs := sure_built hc
  have ht := turn_canon hc
  have hcs := Canon.smlC (rows := rows) ht
  have hsc := sureC_col (rows := rows) ht
  refine live08_ok (ifP_pos rfl (dcsc_of_ok hc.sml hs (fun _ => rfl) (fun h => absurd hc.right h) hc ?_))
  refine dcsc_column_ok hcs hsc ht (ref_turn_ok hc.sml hs hc (ref_row_ok ht.sml (sure_built ht) ht (eqIt_ok ?_ ?_)))
  · have := colI_len (turnT cols T) c2; have := ht.len; omega
  · have e : colI (turnT cols T) c2 = rowS cols (turnT cols T) c2 := by
      unfold rowS
      split
      · rename_i h
        obtain ⟨n, rfl⟩ : ∃ n : Nat, c2 = n := ⟨c2.toNat, by omega⟩
        rw [Int.toNat_natCast, colI_nat]
      · rename_i h
        refine colI_none ht.rowIn fun j hj e => h ?_
        have := (at_in hj).1
        have := ht.r0
        omega
    rw [e]; simp
theorem work_all {rows cols : Int} {T : List Triple} (h : Canon cols rows T) : ∀ n : Nat, workS T (atS n T) = below T n ∧ ((atS n T).length : Int) ≤ below T n
  | 0 => by rw [below_zero fun t ht => (h.inn t ht).1]; simp [atS, workS]
  | n + 1 => by
    obtain ⟨ih1, ih2⟩ := work_all h n
    obtain ⟨lo, hi, s⟩ := h.seg n
    have hl := s.lens; have h1 := s.lo; have h2 := s.hi; have h3 := s.le
    rw [atS_succ]
    split
    · rename_i hn
      rw [hn] at hl; simp at hl
      omega
    · rename_i hn
      have hp : 0 < (segS T n).length := List.length_pos_iff.2 hn
      rw [workS_snoc, colI_nat, List.length_map, List.length_append, List.length_singleton]
      omega
theorem DcscFull_ok (a0 : Int × Int) (a1 : List Triple) (h0 : inR .u8 a0.1 ∧ inR .u8 a0.2) (h1 : (∀ x ∈ a1, okTriple x) ∧ a1.length ≤ maxLen) : law08_DcscFull a0 a1 (fun r => r = true) := by
  unfold law08_DcscFull
  refine some_ok h0 h1.1 fun rows cols T r1 c1 hc hv => ?_
  have hs := sure_built hc
  refine dcsc_of_ok hc.sml hs (fun _ => rfl) (fun h => absurd hc.right h) hc ?_
  have ht := turn_canon hc
  have hcs := Canon.smlC (rows := rows) ht
  have hsc := sureC_col (rows := rows) ht
  have hw := work_all ht cols.toNat
  have hb := below_all ht
  have hal := atS_len cols.toNat (turnT cols T)
  generalize turnT cols T = U at *
  have hat : (colS rows cols U).At = atS cols.toNat U := rfl
  refine scan_intro (atS cols.toNat U).length (by have := hc.c1; omega) (fun _ => True) trivial (fun i next hi _ hn => ?_) (fun next _ => ?_)
  · rw [hat]
    refine ifP_dec (fun _ => ?_) (fun h => by omega)
    refine idxP_at0 (by omega) (by omega) (dcsc_column_ok hcs hsc ht (ifP_eq (fun h => ?_) (fun _ => hn trivial)))
    obtain ⟨_, t, htm, e⟩ := at_in hi
    have : (colI U (at0 (atS cols.toNat U) i)) = [] := List.length_eq_zero_iff.1 (by omega)
    unfold colI at this
    rw [List.map_eq_nil_iff, List.filter_eq_nil_iff] at this
    exact absurd e (by simpa using this t htm)
  · rw [hat]
    refine ifP_dec (fun h => by omega) (fun _ => live08_ok (ifP_pos rfl ?_))
    refine dcsc_many_ok hcs hsc (dcsc_count_ok hcs hsc (ifP_pos (by simp; omega) (dcsc_work_ok hcs (by have := hc.c1; omega) hsc ht (dcsc_count_ok hcs hsc ?_))))
    rw [hw.1, hb]; simp
end Go.Proofs.Ytjobeiikppmidaa
