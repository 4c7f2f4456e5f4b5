/- The statements CsrBack, CsrTurns, CsrCuts, in plain Lean. -/
import Derived.Test.YtjobeiikppmidaaCsrL
namespace Go.Proofs.Ytjobeiikppmidaa
open Go Go.Fw
set_option linter.unusedVariables false
set_option linter.unusedSimpArgs false
theorem size_ok {x : Int} {Q : Int → Prop} (h : inR .u8 x) (hQ : ∀ y, 0 ≤ y → y ≤ 39 → Q y) : law07_Size x Q := by
  unfold law07_Size
  have hb := bounds_u8 h
  rw [w64_id (by omega) (by omega)]
  rw [Int.tmod_eq_emod_of_nonneg (by omega)]
  exact hQ _ (by omega) (by omega)
theorem nar_inI (a : Wide) : inI (narS a).1 := by
  unfold narS inI
  split
  · simp only [w64_eq]; omega
  · simp
theorem some_ok {a0 : Int × Int} {ts : List Triple} {Q : Rows → Prop} (h0 : inR .u8 a0.1 ∧ inR .u8 a0.2) (hv : ∀ t ∈ ts, okTriple t)
    (hQ : ∀ rows cols T, rows ≤ 39 → cols ≤ 39 → Canon rows cols T → (∀ t ∈ T, inI t.Val) → Q (builtS rows cols T)) : law07_Some a0 ts Q := by
  unfold law07_Some
  refine size_ok h0.1 fun rows r0 r1 => size_ok h0.2 fun cols c0 c1 => few_ok fun ys hl hm => ?_
  refine range_intro (fun (s : List Triple) i => (s, i)) 0 ys.length (by omega) (fun i s => s.length ≤ i ∧ ∀ t ∈ s, inI t.Val) (by omega) (s0 := []) ⟨by simp, by simp⟩ (fun i s next _ hi hm2 hn => ?_) (fun s next hm2 => ?_)
  · obtain ⟨hs1, hs2⟩ := hm2
    dsimp only
    refine ifP_dec (fun _ => ?_) (fun h => by omega)
    have hskip : next (s, w64 ((i : Int) + 1)) := hn s ⟨by omega, hs2⟩
    refine idxP_nat hi (ifP_dec (fun _ => hskip) (fun _ => ifP_dec (fun _ => hskip) (fun _ => ifP_eq (fun _ => hskip) (fun g1 => ifP_eq (fun _ => hskip) (fun g2 => ⟨g1, g2, ?_⟩)))))
    have hx : inI ys[i].Val := inR_i64 (hv _ (hm _ (List.getElem_mem hi))).2.2
    refine appP_intro (by simp only [List.length_singleton]; omega) (hn _ ⟨by simp; omega, fun t ht => ?_⟩)
    rcases List.mem_append.1 ht with ht | ht
    · exact hs2 t ht
    · simp at ht; subst ht; exact hx
  · obtain ⟨hs1, hs2⟩ := hm2
    dsimp only
    refine ifP_dec (fun h => by omega) (fun _ => ?_)
    refine ref_Of_ok (by omega) hs2 ?_
    rcases of_cases (r := 1) (rows := rows) (cols := cols) hs2 with ⟨h1, h2⟩ | ⟨T, hT, he, _, _, _, _, hTe, _⟩
    · refine ifP_pos (by simpa using h2) ?_
      unfold ref07_Empty
      have e : w64 (rows + 1) = rows + 1 := w64_id (by omega) (by omega)
      rw [e]
      refine ⟨by omega, by omega, ?_⟩
      have := hQ rows cols [] r1 c1 ⟨r0, by omega, c0, by omega, by simp, .nil, by simp⟩ (by simp)
      unfold builtS at this
      have e2 : (rows + 1).toNat = rows.toNat + 1 := by omega
      rw [e2, rep_range]
      exact this
    · rw [he]
      refine ifP_neg (by simp) (hQ rows cols T r1 c1 hT fun t ht => ?_)
      rw [hTe] at ht
      unfold finS at ht
      split at ht
      · obtain ⟨p, _, rfl⟩ := List.mem_map.1 ht
        exact nar_inI p.2
      · simp at ht
theorem ins_last {r : Int} {k : Key} {v : Wide} {l : List (Key × Wide)} (h : ∀ p ∈ l, ltK p.1 k) : ins r k v l = l ++ [(k, v)] := by
  induction l with
  | nil => rfl
  | cons p l ih => unfold ins; rw [if_pos (h p (by simp)), ih fun q hq => h q (by simp [hq])]; rfl
theorem SC_self {r : Int} {T : List Triple} (h : Srt T) : SC r (T.map kvT) = T.map fun t => (key t, ofI t.Val) := by
  suffices ∀ i, i ≤ T.length → SC r ((T.take i).map kvT) = (T.take i).map fun t => (key t, ofI t.Val) by
    have := this T.length (Nat.le_refl _)
    rwa [List.take_length] at this
  intro i
  induction i with
  | zero => intro _; rfl
  | succ i ih =>
    intro hi
    rw [take_map (show i < T.length by omega), take_map (show i < T.length by omega), SC_snoc, ih (by omega), ins_last]
    · rfl
    · intro p hp
      obtain ⟨t, ht, rfl⟩ := List.mem_map.1 hp
      obtain ⟨j, hj, rfl⟩ := List.getElem_of_mem ht
      simp only [List.length_take] at hj
      rw [List.getElem_take]
      exact List.pairwise_iff_getElem.1 h j i (by omega) (by omega) (by omega)
theorem nar_of {v : Int} (h : inI v) : narS (ofI v) = (v, true) := by
  unfold narS ofI
  unfold inI at h
  simp only
  rw [if_pos]
  · rw [w64_eq]; congr 1; omega
  · split <;> omega
theorem of_self {r rows cols : Int} {T : List Triple} (h : Canon rows cols T) (hv : ∀ t ∈ T, inI t.Val) (hr : 1 ≤ r ∧ r ≤ 5) : ofS r rows cols T = (builtS rows cols T, 0) := by
  have hf : finS (SC r (T.map kvT)) mkT = (T, 0) := by
    rw [SC_self h.srt]
    rw [fin_perm (m := []) (.refl _) (fun p hp => by obtain ⟨t, ht, rfl⟩ := List.mem_map.1 hp; rw [nar_of (hv t ht)])]
    congr 1
    rw [List.map_map]
    refine (List.map_congr_left fun t ht => ?_).trans (List.map_id T)
    simp only [Function.comp_apply, nar_of (hv t ht)]
    rfl
  have h1 := h.r0; have h2 := h.r1; have h3 := h.c0; have h4 := h.c1; have h5 := h.len
  unfold ofS
  rw [if_neg (fun h => h hr), if_neg (fun h => h ⟨h1, h2, h3, h4⟩), if_neg (by omega), if_neg (fun h' => h' h.inn), hf, if_neg (by simp)]
theorem turn_turn {rows cols : Int} {T : List Triple} (h : Canon rows cols T) : turnT rows (turnT cols T) = T := by
  refine srt_ext (turn_srt _ (turn_srt _ h.srt)) h.srt fun t => ?_
  rw [turn_mem (turn_canon h), turn_mem h]; rfl
end Go.Proofs.Ytjobeiikppmidaa
