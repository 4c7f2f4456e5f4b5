/- The statements PushTells, PushRaw in plain Lean, and what must be whatever is asked. -/
import Derived.Test.YtdfiinkpdaggeaaGreatPushF
namespace Go.Proofs.YtdfiinkpdaggeaaGreat
open Go Go.Fw
set_option linter.unusedVariables false
set_option linter.unusedSimpArgs false
theorem sumsP_prop (r rows cols : Int) (T : List Triple) (v : Vec) (f : List Int) (o : Bool) (h : 0 ≤ rows ∧ rows ≤ 4096) : Rise (sumsP r rows cols T v f o).1 ∧ (sumsP r rows cols T v f o).1.length ≤ 4096 ∧ okS (sumsP r rows cols T v f o).1 ∧ ∀ s ∈ (sumsP r rows cols T v f o).1, 0 ≤ s.At ∧ s.At < rows := by
  unfold sumsP
  have hz : Rise [] ∧ ([] : List Sum).length ≤ 4096 ∧ okS [] ∧ ∀ s ∈ ([] : List Sum), 0 ≤ s.At ∧ s.At < rows := ⟨.nil, by simp, by simp [okS], by simp⟩
  split
  · exact hz
  · split
    · exact hz
    · obtain ⟨h1, h2, h3, h4, _⟩ := sumsS_prop r cols.toNat f o (fun i k => lkI (colI T k) i) (lkI v.Items) rows.toNat
      exact ⟨h1, by simp only; omega, h3, fun s hs => by have := h4 s hs; omega⟩
def timesP (r rows cols : Int) (T : List Triple) (v : Vec) (f : List Int) (o : Bool) : Vec × Int :=
  if (sumsP r rows cols T v f o).2 ≠ 0 then (zV, (sumsP r rows cols T v f o).2) else doneS r rows (sumsP r rows cols T v f o).1
theorem push_Times_ok {r rows cols : Int} {c : Columns} {x : Vec} {T : List Triple} {f : List Int} {o : Bool} {Q : Vec × Int → Prop} (hc : smallC c) (hs : sureC c = colS rows cols T) (h : Canon cols rows T) (hT : ∀ t ∈ T, inI t.Val)
    (hx : x.Items.length ≤ 1000000000) (hxv : ∀ y ∈ (sureV x).Items, inI y.Val) (hf : okF f) (hQ : Q (timesP r rows cols T (sureV x) f o)) : push_Times r c x f o Q := by
  unfold push_Times
  unfold timesP at hQ
  have hp := sumsP_prop r rows cols T (sureV x) f o ⟨h.c0, h.c1⟩
  refine push_Sums_ok hc hs h hT hx hxv hf (ifP_ne (fun hne => ?_) (fun he => ?_))
  · rw [if_pos hne] at hQ; exact hQ
  · rw [if_neg (fun h => h he)] at hQ
    refine push_sure_ok hc hx ?_
    rw [hs]
    exact pull_Done_ok (by omega) hp.2.2.1 hQ
theorem places_len (v : Vec) : (placesS v).length ≤ 4096 := by unfold placesS; rw [List.length_map]; exact (sureV_ok v).len
theorem push_Work_ok {c : Columns} {x : Vec} {rows cols : Int} {T : List Triple} {Q : Int → Prop} (hl : smallC c) (hx : x.Items.length ≤ 1000000000) (hc : sureC c = colS rows cols T) (h : Canon cols rows T) (hQ : Q (workS T (placesS x))) : push_Work c x Q := by
  unfold push_Work
  exact spvec_Places_ok hx (dcsc_work_ok hl (by have := places_len x; omega) hc h hQ)
theorem nil_okF : okF [] := by simp [okF]
/-! ### live -/
def M14 : List Triple := [⟨0, 0, 2⟩, ⟨0, 1, 3⟩, ⟨1, 1, 9⟩]
def C14 : List Triple := [⟨0, 0, 2⟩, ⟨1, 0, 3⟩, ⟨1, 1, 9⟩]
def V14 : Vec := ⟨2, [⟨1, 1⟩]⟩
theorem M14_canon : Canon 2 2 M14 := ⟨by decide, by decide, by decide, by decide, by decide, by unfold Srt; decide, by decide⟩
theorem C14_canon : Canon 2 2 C14 := ⟨by decide, by decide, by decide, by decide, by decide, by unfold Srt; decide, by decide⟩
theorem M14_turn : turnT 2 M14 = C14 := by decide
theorem V14_ok : VecP V14 := by decide
theorem live14_ok {Q : Bool → Prop} (hQ : Q true) : law14_live Q := by
  unfold law14_live
  have sV : sureV V14 = V14 := sureV_id V14_ok
  have sc := sureC_col (rows := 2) (cols := 2) C14_canon
  have sm := Canon.smlC (rows := 2) C14_canon
  have hT : ∀ t ∈ C14, inI t.Val := by unfold inI; decide
  have hxv : ∀ y ∈ (sureV V14).Items, inI y.Val := by rw [sV]; unfold inI; decide
  refine ref_Of_ok (by decide) (by unfold inI; decide) ?_
  rw [show ofS 1 2 2 ([({ Row := 0, Col := 0, Val := 2 } : Triple), ({ Row := 0, Col := 1, Val := 3 } : Triple), ({ Row := 1, Col := 1, Val := 9 } : Triple)]) = (builtS 2 2 M14, 0) by
    have := of_self (r := 1) M14_canon (by unfold inI; decide) (by omega)
    exact this]
  refine ref_dcsc_of_ok M14_canon.sml (sure_built M14_canon) M14_canon ?_
  rw [M14_turn]
  refine push_Times_ok (x := V14) sm sc C14_canon hT (by decide) hxv nil_okF ?_
  rw [sV]
  have e1 : timesP 1 2 2 C14 V14 [] true = (⟨2, [⟨0, 4⟩, ⟨1, 10⟩]⟩, 0) := by decide +kernel
  rw [e1]
  refine push_merge_ok (by decide) (by decide) (by decide) (by unfold okS okW; decide) ?_
  have e2 : mergeP 1 [[⟨1, ⟨0, 5⟩⟩], [⟨1, ⟨0, 3⟩⟩]] = ([⟨1, ⟨0, 3⟩⟩], 0) := by
    unfold mergeP
    rw [if_neg (by omega), if_neg (by simp [Rise])]
    simp [mergeS, bothS, addW, leW]
  rw [e2]
  refine push_merge_ok (by decide) (by decide) (by decide) (by unfold okS okW; decide) ?_
  have e3 : mergeP 1 [[⟨1, ⟨0, 0⟩⟩, ⟨1, ⟨0, 0⟩⟩]] = ([], 6) := by
    unfold mergeP
    rw [if_neg (by omega), if_pos ⟨_, List.mem_singleton.2 rfl, by simp [Rise]⟩]
  rw [e3]
  refine push_Sums_ok (x := V14) sm sc C14_canon hT (by decide) hxv (by unfold okF; decide) ?_
  rw [sV]
  have e4 : sumsP 1 2 2 C14 V14 [1] false = ([⟨0, ⟨0, 4⟩⟩], 0) := by decide +kernel
  rw [e4]
  refine ifP_pos (by decide) (ifP_pos (by decide) (idxP_intro (by decide) (x := ⟨0, 4⟩) (by decide) (ifP_pos (by decide) (ifP_pos (by decide) (ifP_pos (by decide) (idxP_intro (by decide) (x := ⟨1, ⟨0, 3⟩⟩) (by decide) (ifP_pos (by decide) (ifP_pos (by decide) (ifP_pos (by decide) (ifP_pos (by decide) ?_))))))))))
  refine push_Work_ok (x := V14) sm (by decide) sc C14_canon ?_
  have e5 : workS C14 (placesS V14) = 2 := by decide +kernel
  rw [e5]; exact hQ
/-! ### PushTells, PushRaw -/
end Go.Proofs.YtdfiinkpdaggeaaGreat
