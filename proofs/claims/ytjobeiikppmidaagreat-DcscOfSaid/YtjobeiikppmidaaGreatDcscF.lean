/- The statements about matrices by columns, in plain Lean. -/
import Derived.Test.YtjobeiikppmidaaGreatOK
import Derived.Test.YtjobeiikppmidaaGreatDcscE
namespace Go.Proofs.YtjobeiikppmidaaGreat
open Go Go.Fw
set_option linter.unusedVariables false
set_option linter.unusedSimpArgs false
def D0 : List Triple := [⟨1, 700, 4⟩]
def D1 : List Triple := [⟨700, 1, 4⟩]
theorem D0_canon : Canon 2 1000 D0 := ⟨by decide, by decide, by decide, by decide, by decide, by unfold Srt; decide, by decide⟩
theorem D1_canon : Canon 1000 2 D1 := ⟨by decide, by decide, by decide, by decide, by decide, by unfold Srt; decide, by decide⟩
theorem D0_turn : turnT 1000 D0 = D1 := by
  refine srt_ext (turn_srt _ D0_canon.srt) D1_canon.srt fun t => ?_
  rw [turn_mem D0_canon]
  obtain ⟨a, b, c⟩ := t
  simp [D0, D1, flip]
  omega
theorem D1_turn : turnT 2 D1 = D0 := by
  refine srt_ext (turn_srt _ D1_canon.srt) D0_canon.srt fun t => ?_
  rw [turn_mem D1_canon]
  obtain ⟨a, b, c⟩ := t
  simp [D0, D1, flip]
  omega
theorem D1_at : atS 1000 D1 = [700] := by
  refine incr_ext (atS_incr _ _) (by simp) fun x => ?_
  rw [atS_mem]
  simp [D1]
  omega
theorem zC_wrong : ¬ ColP ⟨0, 0, [], [], [], []⟩ := fun h => by have := h.sl; simp at this
theorem live08_ok {Q : Bool → Prop} (hQ : Q true) : law08_live Q := by
  unfold law08_live
  have hv : ∀ t ∈ D1, inI t.Val := by unfold inI; decide
  have s1 := sureC_col (rows := 2) D1_canon
  have sm := Canon.smlC (rows := 2) D1_canon
  have e : (1000 : Int).toNat = 1000 := rfl
  refine ref_Of_ok (by decide) (by unfold inI; decide) ?_
  rw [show ofS 1 2 1000 ([({ Row := 1, Col := 700, Val := 4 } : Triple)]) = (builtS 2 1000 D0, 0) by
    have := of_self (r := 1) D0_canon (by unfold inI; decide) (by omega)
    exact this]
  refine dcsc_of_ok D0_canon.sml (sure_built D0_canon) (fun _ => rfl) (fun h => absurd D0_canon.right h) D0_canon ?_
  rw [D0_turn]
  refine dcsc_column_ok sm s1 D1_canon (dcsc_many_ok sm s1 ?_)
  rw [e, D1_at]
  refine ifP_pos (by decide) (dcsc_count_ok sm s1 (ifP_pos (by decide) (ifP_pos (by decide) ?_)))
  refine idxP_intro (by decide) (x := ⟨1, 4⟩) (by decide) (ifP_pos (by decide) ?_)
  refine dcsc_column_ok sm s1 D1_canon (ifP_pos (by decide) (dcsc_back_ok sm s1 D1_canon hv ?_))
  rw [D1_turn]
  refine ref_same_ok D0_canon.sml (ifP_pos (by simp) (dcsc_right_ok sm (ifP_pos (decide_eq_true (Canon.colp (rows := 2) D1_canon)) ?_)))
  refine dcsc_right_ok (by unfold smallC; simp) (ifP_pos (by rw [decide_eq_false zC_wrong]; rfl) ?_)
  refine dcsc_work_ok sm (by decide) s1 D1_canon (ifP_pos (by decide) (dcsc_same_ok sm (ifP_pos (by simp) (dcsc_same_ok sm ?_))))
  rw [decide_eq_false]
  · exact hQ
  · intro h
    have := congrArg Columns.Rows h
    simp [colS] at this
theorem colsmall {c : Columns} (h1 : c.At.length ≤ 50) (h2 : c.Start.length ≤ 50) (h3 : c.Row.length ≤ 60) (h4 : c.Val.length ≤ 60) : smallC c := ⟨by omega, by omega, by omega, by omega⟩
theorem DcscOf_ok (a0 : Rows) (a1 : Columns) (a2 : List Int) (h1 : okColumns a1) : law08_DcscOf a0 a1 a2 (fun r => r = true) := by
  unfold law08_DcscOf
  refine join_intro (fun _ => (a0.Start.length ≤ 50 ∧ a0.Col.length ≤ 60 ∧ a0.Val.length ≤ 60) ∧ (a1.At.length ≤ 50 ∧ a1.Start.length ≤ 50 ∧ a1.Row.length ≤ 60 ∧ a1.Val.length ≤ 60) ∧ a2.length ≤ 20) (fun _ hh => ?_) (fun k hk => ?_)
  rotate_left
  · refine ifP_dec (fun _ => live08_ok rfl) (fun g1 => ifP_dec (fun _ => live08_ok rfl) (fun g2 => ifP_dec (fun _ => live08_ok rfl) (fun g3 => ifP_dec (fun _ => live08_ok rfl) (fun g4 => ifP_dec (fun _ => live08_ok rfl) (fun g5 => ifP_dec (fun _ => live08_ok rfl) (fun g6 => ifP_dec (fun _ => live08_ok rfl) (fun g7 => ifP_dec (fun _ => live08_ok rfl) (fun g8 => ?_))))))))
    have hkk : k () := hk () ⟨⟨by omega, by omega, by omega⟩, ⟨by omega, by omega, by omega, by omega⟩, by omega⟩
    exact ifP_dec (fun _ => ref_right_ok ⟨by omega, by omega, by omega⟩ ⟨fun _ => live08_ok rfl, fun _ => hkk⟩) (fun _ => hkk)
  obtain ⟨⟨g1, g2, g3⟩, ⟨g4, g5, g6, g7⟩, g8⟩ := hh
  have hs : small a0 := ⟨by omega, by omega, by omega⟩
  have hsc : smallC a1 := colsmall g4 g5 g6 g7
  obtain ⟨rows, cols, T, hT, hc, hR, hN⟩ := sureC_cases a1
  have hvals : ∀ v ∈ a1.Val, inI v := fun v hv => by
    have h := h1
    unfold okColumns at h
    exact inR_i64 (h.2.2.2.2.2.1 v hv)
  have hv := colS_vals hvals hR hN
  refine scan_intro a2.length (by omega) (fun _ => True) trivial (fun i next hi _ hn => ?_) (fun next _ => ?_)
  · refine ifP_dec (fun _ => ?_) (fun h => by omega)
    refine idxP_nat hi (idxP_nat hi (dcsc_column_ok hsc hc hT (ref_dcsc_column_ok hsc hc hT (eqIt_ok ?_ (ifP_neg (by simp) (hn trivial))))))
    have := colI_len T a2[i]; have := hT.len; omega
  · refine ifP_dec (fun h => by omega) (fun _ => live08_ok (ifP_pos rfl ?_))
    obtain ⟨rows', cols', ts, hct, ha, hR', hN'⟩ := sureS_cases a0
    refine dcsc_of_ok hs ha hR' hN' hct (ref_dcsc_of_ok hs ha hct (ref_dcsc_same_ok (Canon.smlC (turn_canon hct)) (ifP_pos (by simp) ?_)))
    refine dcsc_right_ok hsc (ref_dcsc_right_ok hsc (ifP_pos (by simp) ?_))
    refine dcsc_back_ok hsc hc hT hv (ref_dcsc_back_ok hsc hc hT hv (ref_same_ok (turn_canon hT).sml (ifP_pos (by simp) ?_)))
    refine dcsc_many_ok hsc hc (ref_dcsc_sure_ok hsc ?_)
    rw [hc]
    refine ifP_pos (by show (_ == _) = true; exact beq_self_eq_true _) (dcsc_count_ok hsc hc (ref_dcsc_sure_ok hsc ?_))
    rw [hc]
    refine ifP_pos (by simp [colS]) (dcsc_work_ok hsc (by omega) hc hT (ref_dcsc_work_ok hsc (by omega) hc hT (by simp)))
end Go.Proofs.YtjobeiikppmidaaGreat
