/- What must be whatever is asked; the statements CsrOf, CsrAsks, in plain Lean. -/
import Derived.Test.YtindbiojednfbaaGreatCsrJ
import Derived.Test.YtindbiojednfbaaGreatOK
namespace Go.Proofs.YtindbiojednfbaaGreat
open Go Go.Fw
set_option linter.unusedVariables false
set_option linter.unusedSimpArgs false
theorem inR_i64 {x : Int} (h : inR .i64 x) : inI x := by have := bounds_i64 h; unfold inI; omega
theorem few_ok {ts : List Triple} {Q : List Triple → Prop} (hQ : ∀ ys : List Triple, ys.length ≤ 60 → (∀ t ∈ ys, t ∈ ts) → Q ys) : law07_Few ts Q := by
  unfold law07_Few
  refine ifP_dec (fun h => ⟨by decide, by decide, by omega, hQ _ ?_ fun t ht => ?_⟩) (fun h => hQ _ (by omega) fun t ht => ht)
  · simp; omega
  · exact List.mem_of_mem_take (List.mem_of_mem_drop ht)
theorem small_zR : small zR := ⟨by decide, by decide, by decide⟩
theorem zR_wrong : ¬ RightP zR := fun h => by have := h.sl; simp [zR] at this
theorem of_cases {r rows cols : Int} {ts : List Triple} (hv : ∀ t ∈ ts, inI t.Val) : ((ofS r rows cols ts).1 = zR ∧ (ofS r rows cols ts).2 ≠ 0) ∨ ∃ T, Canon rows cols T ∧ ofS r rows cols ts = (builtS rows cols T, 0) ∧ (1 ≤ r ∧ r ≤ 5) ∧ (∀ t ∈ ts, inT rows cols t) ∧ ts.length ≤ 65536 ∧ (0 ≤ rows ∧ rows ≤ 4096 ∧ 0 ≤ cols ∧ cols ≤ 4096) ∧ T = (finS (SC r (ts.map kvT)) mkT).1 ∧ (finS (SC r (ts.map kvT)) mkT).2 = 0 := by
  unfold ofS
  split
  · left; exact ⟨rfl, by simp⟩
  split
  · left; exact ⟨rfl, by simp⟩
  split
  · left; exact ⟨rfl, by simp⟩
  split
  · left; exact ⟨rfl, by simp⟩
  split
  · rename_i h; left; exact ⟨rfl, h⟩
  · rename_i h1 h2 h3 h4 h5
    right
    have h2 := Decidable.of_not_not h2
    have h4 := Decidable.of_not_not h4
    refine ⟨_, fin_canon h2 (by simpa using h3) (fun t ht => ?_) (fun t ht => ?_), rfl, Decidable.of_not_not h1, h4, by omega, h2, rfl, Decidable.of_not_not h5⟩
    · obtain ⟨x, hx, rfl⟩ := List.mem_map.1 ht
      exact h4 x hx
    · obtain ⟨x, hx, rfl⟩ := List.mem_map.1 ht
      exact hv x hx
theorem of_small {r rows cols : Int} {ts : List Triple} (hv : ∀ t ∈ ts, inI t.Val) : small (ofS r rows cols ts).1 := by
  rcases of_cases (r := r) (rows := rows) (cols := cols) hv with ⟨h, _⟩ | ⟨T, hT, h, _⟩
  · rw [h]; exact small_zR
  · rw [h]; exact hT.sml
def T0 : List Triple := [⟨0, 1, 3⟩, ⟨1, 2, 7⟩]
theorem T0_canon : Canon 2 3 T0 := ⟨by decide, by decide, by decide, by decide, by decide, by unfold Srt; decide, by decide⟩
theorem G0_canon : Canon 3 3 [⟨0, 2, 9⟩] := ⟨by decide, by decide, by decide, by decide, by decide, by unfold Srt; decide, by decide⟩
theorem live_ok {Q : Bool → Prop} (hQ : Q true) : law07_live Q := by
  unfold law07_live
  have s0 := sure_built T0_canon
  have sg := sure_built G0_canon
  refine Of_ok (by decide) (by unfold inI; decide) ?_
  rw [show ofS 1 2 3 ([({ Row := 0, Col := 1, Val := 5 } : Triple), ({ Row := 1, Col := 2, Val := 7 } : Triple), ({ Row := 0, Col := 1, Val := 3 } : Triple)]) = (builtS 2 3 T0, 0) by decide]
  refine csr_get_ok T0_canon.sml s0 T0_canon ?_
  rw [show getS T0 0 1 = (3, true) by decide]
  refine csr_get_ok T0_canon.sml s0 T0_canon ?_
  rw [show getS T0 0 2 = (0, false) by decide]
  refine Of_ok (by decide) (by simp) ?_
  rw [show ofS 0 1 1 [] = (zR, 8) by decide]
  refine graph_ok ?_
  rw [show graphS ({ N := 3, Edges := [({ From := 2, To := 0, W := 9 } : Edge)] } : Graph) = (builtS 3 3 [⟨0, 2, 9⟩], 0) by decide]
  refine csr_get_ok G0_canon.sml sg G0_canon ?_
  rw [show getS [⟨0, 2, 9⟩] 0 2 = (9, true) by decide]
  dsimp only
  refine ifP_pos (by decide) (ifP_pos (by decide) (ifP_pos rfl (ifP_pos rfl (ifP_pos (by decide) ?_))))
  refine csr_count_ok T0_canon.sml s0 (ifP_pos (by decide) (right_ok T0_canon.sml (ifP_pos (decide_eq_true T0_canon.right) ?_)))
  refine right_ok small_zR (ifP_pos (by show (!decide (RightP zR)) = true; rw [decide_eq_false zR_wrong]; rfl) ?_)
  refine csr_row_ok T0_canon.sml s0 T0_canon (ifP_pos (by decide) ?_)
  refine csr_triples_ok T0_canon.sml s0 T0_canon (ifP_pos (by decide) ?_)
  refine csr_turn_ok T0_canon.sml s0 T0_canon (ifP_pos (by decide) ?_)
  refine csr_cut_ok T0_canon.sml s0 T0_canon (ifP_pos (by decide) ?_)
  refine ifP_pos (by decide) (ifP_pos (by decide) (ifP_pos rfl ?_))
  refine same_ok T0_canon.sml (ifP_pos (by decide) (same_ok T0_canon.sml ?_))
  rw [decide_eq_false (by decide)]
  exact hQ
theorem CsrOf_ok (a0 : Int) (a1 : Int × Int) (a2 : List Triple) (h2 : (∀ x ∈ a2, okTriple x) ∧ a2.length ≤ maxLen) : law07_CsrOf a0 a1 a2 (fun r => r = true) := by
  unfold law07_CsrOf
  refine few_ok fun ys hl hm => ?_
  have hv : ∀ t ∈ ys, inI t.Val := fun t ht => inR_i64 (h2.1 t (hm t ht)).2.2
  refine Of_ok (by omega) hv (ref_Of_ok (by omega) hv (live_ok (ifP_pos rfl (ref_same_ok (of_small hv) (ifP_pos (by simp) (by simp))))))
theorem CsrAsks_ok (a0 : Rows) (a1 a2 : Int × Int) : law07_CsrAsks a0 a1 a2 (fun r => r = true) := by
  unfold law07_CsrAsks
  refine ifP_dec (fun _ => live_ok rfl) (fun h1 => ifP_dec (fun _ => live_ok rfl) (fun h2 => ifP_dec (fun _ => live_ok rfl) (fun h3 => ?_)))
  have hs : small a0 := ⟨by omega, by omega, by omega⟩
  obtain ⟨rows, cols, ts, hc, ha, _, _⟩ := sureS_cases a0
  refine csr_get_ok hs ha hc (ref_get_ok hs ha hc (live_ok (ifP_neg rfl (ifP_neg (by simp) (ifP_neg (by simp) ?_)))))
  refine right_ok hs (ref_right_ok hs (ifP_neg (by simp) ?_))
  refine csr_count_ok hs ha (ref_count_ok hs ha (ifP_neg (by simp) ?_))
  refine join_intro (fun _ => True) (fun _ _ => ?_) fun k hk => ?_
  · refine csr_row_ok hs ha hc (ref_row_ok hs ha hc (eqIt_ok ?_ (ifP_pos (by simp) ?_)))
    · have := hc.len
      unfold rowS; split
      · have := seg_len_le ts a1.1.toNat; simp; omega
      · simp
    refine csr_triples_ok hs ha hc (ref_triples_ok hs ha hc (eqT_ok (by have := hc.len; omega) (ifP_pos (by simp) ?_)))
    refine csr_turn_ok hs ha hc (ref_turn_ok hs ha hc (ref_same_ok (turn_canon hc).sml (ifP_pos (by simp) ?_)))
    refine csr_cut_ok hs ha hc (ref_cut_ok hs ha hc (ref_same_ok (cut_canon hc a1 a2).sml (ifP_pos (by simp) ?_)))
    exact same_ok hs (by simp)
  · exact ifP_dec (fun _ => ref_right_ok hs ⟨fun _ => rfl, fun _ => hk () trivial⟩) (fun _ => hk () trivial)
end Go.Proofs.YtindbiojednfbaaGreat
