/- The statements CsrBack, CsrTurns, CsrCuts, in plain Lean. -/
import Derived.Test.YtindbiojednfbaaGreatCsrK
namespace Go.Proofs.YtindbiojednfbaaGreat
open Go Go.Fw
set_option linter.unusedVariables false
set_option linter.unusedSimpArgs false
theorem size_ok {x : Int} {Q : Int → Prop} (h : inR .u8 x) (hQ : ∀ y, 0 ≤ y → y ≤ 39 → Q y) : law07_Size x Q := by
  unfold law07_Size
  have hb := bounds_u8 h
  rw [w64_id (by omega) (by omega)]
  rw [Int.tmod_eq_emod_of_nonneg (by omega)]
  exact hQ _ (by omega) (by omega)
theorem nar_inI (a : Wide) : inI (narS a).1 := by
  unfold narS inI
  split
  · simp only [w64_eq]; omega
  · simp
theorem some_ok {a0 : Int × Int} {ts : List Triple} {Q : Rows → Prop} (h0 : inR .u8 a0.1 ∧ inR .u8 a0.2) (hv : ∀ t ∈ ts, okTriple t)
    (hQ : ∀ rows cols T, rows ≤ 39 → cols ≤ 39 → Canon rows cols T → (∀ t ∈ T, inI t.Val) → Q (builtS rows cols T)) : law07_Some a0 ts Q := by
  unfold law07_Some
  refine size_ok h0.1 fun rows r0 r1 => size_ok h0.2 fun cols c0 c1 => few_ok fun ys hl hm => ?_
  refine range_intro (fun (s : List Triple) i => (s, i)) 0 ys.length (by omega) (fun i s => s.length ≤ i ∧ ∀ t ∈ s, inI t.Val) (by omega) (s0 := []) ⟨by simp, by simp⟩ (fun i s next _ hi hm2 hn => ?_) (fun s next hm2 => ?_)
  · obtain ⟨hs1, hs2⟩ := hm2
    dsimp only
    refine ifP_dec (fun _ => ?_) (fun h => by omega)
    have hskip : next (s, w64 ((i : Int) + 1)) := hn s ⟨by omega, hs2⟩
    refine idxP_nat hi (ifP_dec (fun _ => hskip) (fun _ => ifP_dec (fun _ => hskip) (fun _ => ifP_eq (fun _ => hskip) (fun g1 => ifP_eq (fun _ => hskip) (fun g2 => ⟨g1, g2, ?_⟩)))))
    have hx : inI ys[i].Val := inR_i64 (hv _ (hm _ (List.getElem_mem hi))).2.2
    refine appP_intro (by simp only [List.length_singleton]; omega) (hn _ ⟨by simp; omega, fun t ht => ?_⟩)
    rcases List.mem_append.1 ht with ht | ht
    · exact hs2 t ht
    · simp at ht; subst ht; exact hx
  · obtain ⟨hs1, hs2⟩ := hm2
    dsimp only
    refine ifP_dec (fun h => by omega) (fun _ => ?_)
    refine ref_Of_ok (by omega) hs2 ?_
    rcases of_cases (r := 1) (rows := rows) (cols := cols) hs2 with ⟨h1, h2⟩ | ⟨T, hT, he, _, _, _, _, hTe, _⟩
    · refine ifP_pos (by simpa using h2) ?_
      unfold ref07_Empty
      have e : w64 (rows + 1) = rows + 1 := w64_id (by omega) (by omega)
      rw [e]
      refine ⟨by omega, by omega, ?_⟩
      have := hQ rows cols [] r1 c1 ⟨r0, by omega, c0, by omega, by simp, .nil, by simp⟩ (by simp)
      unfold builtS at this
      have e2 : (rows + 1).toNat = rows.toNat + 1 := by omega
      rw [e2, rep_range]
      exact this
    · rw [he]
      refine ifP_neg (by simp) (hQ rows cols T r1 c1 hT fun t ht => ?_)
      rw [hTe] at ht
      unfold finS at ht
      split at ht
      · obtain ⟨p, _, rfl⟩ := List.mem_map.1 ht
        exact nar_inI p.2
      · simp at ht
theorem ins_last {r : Int} {k : Key} {v : Wide} {l : List (Key × Wide)} (h : ∀ p ∈ l, ltK p.1 k) : ins r k v l = l ++ [(k, v)] := by
  induction l with
  | nil => rfl
  | cons p l ih => unfold ins; rw [if_pos (h p (by simp)), ih fun q hq => h q (by simp [hq])]; rfl
theorem SC_self {r : Int} {T : List Triple} (h : Srt T) : SC r (T.map kvT) = T.map fun t => (key t, ofI t.Val) := by
  suffices ∀ i, i ≤ T.length → SC r ((T.take i).map kvT) = (T.take i).map fun t => (key t, ofI t.Val) by
    have := this T.length (Nat.le_refl _)
    rwa [List.take_length] at this
  intro i
  induction i with
  | zero => intro _; rfl
  | succ i ih =>
    intro hi
    rw [take_map (show i < T.length by omega), take_map (show i < T.length by omega), SC_snoc, ih (by omega), ins_last]
    · rfl
    · intro p hp
      obtain ⟨t, ht, rfl⟩ := List.mem_map.1 hp
      obtain ⟨j, hj, rfl⟩ := List.getElem_of_mem ht
      simp only [List.length_take] at hj
      rw [List.getElem_take]
      exact List.pairwise_iff_getElem.1 h j i (by omega) (by omega) (by omega)
theorem nar_of {v : Int} (h : inI v) : narS (ofI v) = (v, true) := by
  unfold narS ofI
  unfold inI at h
  simp only
  rw [if_pos]
  · rw [w64_eq]; congr 1; omega
  · split <;> omega
theorem of_self {r rows cols : Int} {T : List Triple} (h : Canon rows cols T) (hv : ∀ t ∈ T, inI t.Val) (hr : 1 ≤ r ∧ r ≤ 5) : ofS r rows cols T = (builtS rows cols T, 0) := by
  have hf : finS (SC r (T.map kvT)) mkT = (T, 0) := by
    rw [SC_self h.srt]
    rw [fin_perm (m := []) (.refl _) (fun p hp => by obtain ⟨t, ht, rfl⟩ := List.mem_map.1 hp; rw [nar_of (hv t ht)])]
    congr 1
    rw [List.map_map]
    refine (List.map_congr_left fun t ht => ?_).trans (List.map_id T)
    simp only [Function.comp_apply, nar_of (hv t ht)]
    rfl
  have h1 := h.r0; have h2 := h.r1; have h3 := h.c0; have h4 := h.c1; have h5 := h.len
  unfold ofS
  rw [if_neg (fun h => h hr), if_neg (fun h => h ⟨h1, h2, h3, h4⟩), if_neg (by omega), if_neg (fun h' => h' h.inn), hf, if_neg (by simp)]
theorem CsrBack_ok (a0 : Int × Int) (a1 : List Triple) (a2 : Int) (h0 : inR .u8 a0.1 ∧ inR .u8 a0.2) (h1 : (∀ x ∈ a1, okTriple x) ∧ a1.length ≤ maxLen) : law07_CsrBack a0 a1 a2 (fun r => r = true) := by
  unfold law07_CsrBack
  refine some_ok h0 h1.1 fun rows cols T r1 c1 hc hv => ?_
  have hs := sure_built hc
  have hlen := hc.len
  refine csr_triples_ok hc.sml hs hc ?_
  have hsrt := List.pairwise_iff_getElem.1 hc.srt
  refine loop_intro (fun s : Int => ∃ i : Nat, s = i ∧ 1 ≤ i ∧ i ≤ T.length + 1) (fun s => (T.length + 1 - s.toNat)) ⟨1, rfl, by omega, by omega⟩ ?_
  rintro _ next ⟨i, rfl, hi1, hi2⟩ hn
  refine ifP_dec (fun h => ?_) (fun _ => ?_)
  · obtain ⟨j, rfl⟩ : ∃ j, i = j + 1 := ⟨i - 1, by omega⟩
    have hi : j + 1 < T.length := by omega
    have e : w64 (((j + 1 : Nat) : Int) - 1) = (j : Nat) := by rw [w64_id (by omega) (by omega)]; omega
    rw [e]
    have hlt := hsrt j (j + 1) (by omega) hi (by omega)
    unfold ltK key at hlt
    simp only at hlt
    have hnx : next (w64 (((j + 1 : Nat) : Int) + 1)) := hn _ ⟨j + 2, by rw [w64_id (by omega) (by omega)]; omega, by omega, by omega⟩ (by rw [w64_id (by omega) (by omega)]; omega)
    refine idxP_nat hi (idxP_nat (by omega) (ifP_dec (fun h => by omega) (fun _ => idxP_nat hi (idxP_nat (by omega) (ifP_eq (fun e => idxP_nat hi (idxP_nat (by omega) (ifP_dec (fun h => by omega) (fun _ => hnx)))) (fun _ => hnx))))))
  · refine Of_ok (by omega) hv (live_ok (ifP_pos rfl (csr_count_ok hc.sml hs (ifP_pos (by simp) (ref02_Is_ok (ifP_not (fun _ => rfl) (fun hr => ?_)))))))
    have hr : 1 ≤ a2 ∧ a2 ≤ 5 := by simpa using hr
    have e : ofS a2 (builtS rows cols T).Rows (builtS rows cols T).Cols T = (builtS rows cols T, 0) := of_self hc hv hr
    rw [e]
    exact ifP_pos (by simp) (same_ok hc.sml (by simp))
theorem get_turn {rows cols : Int} {T : List Triple} (h : Canon rows cols T) (i j : Int) : getS (turnT cols T) j i = getS T i j := by
  by_cases hex : ∃ t ∈ T, key t = (i, j)
  · obtain ⟨t, ht, hk⟩ := hex
    rw [get_mem h.srt ht hk]
    have hk2 : t.Row = i ∧ t.Col = j := by simpa [key] using hk
    have := get_mem (turn_srt cols h.srt) (t := flip t) ((turn_mem h (flip t)).2 ht) (i := j) (j := i) (by simp [key, flip, hk2.1, hk2.2])
    exact this
  · rw [get_none (ts := T) fun t ht hk => hex ⟨t, ht, hk⟩, get_none]
    intro t ht hk
    refine hex ⟨flip t, (turn_mem h t).1 ht, ?_⟩
    have hk2 : t.Row = j ∧ t.Col = i := by simpa [key] using hk
    simp [key, flip, hk2.1, hk2.2]
theorem turn_turn {rows cols : Int} {T : List Triple} (h : Canon rows cols T) : turnT rows (turnT cols T) = T := by
  refine srt_ext (turn_srt _ (turn_srt _ h.srt)) h.srt fun t => ?_
  rw [turn_mem (turn_canon h), turn_mem h]; rfl
theorem CsrTurns_ok (a0 : Int × Int) (a1 : List Triple) (a2 : Int × Int) (h0 : inR .u8 a0.1 ∧ inR .u8 a0.2) (h1 : (∀ x ∈ a1, okTriple x) ∧ a1.length ≤ maxLen) (h2 : inR .u8 a2.1 ∧ inR .u8 a2.2) : law07_CsrTurns a0 a1 a2 (fun r => r = true) := by
  unfold law07_CsrTurns
  refine some_ok h0 h1.1 fun rows cols T r1 c1 hc hv => ?_
  have hs := sure_built hc
  have hct := turn_canon hc
  have hst := sure_built hct
  refine csr_turn_ok hc.sml hs hc ?_
  refine size_ok h2.1 fun i _ _ => size_ok h2.2 fun j _ _ => ?_
  refine csr_get_ok hc.sml hs hc (csr_get_ok hct.sml hst hct (live_ok (ifP_pos rfl (right_ok hct.sml (ifP_pos (decide_eq_true hct.right) ?_)))))
  refine csr_turn_ok hct.sml hst hct ?_
  rw [turn_turn hc, get_turn hc]
  refine same_ok hc.sml (ifP_pos (by simp) (ifP_pos (by simp) (ifP_pos (by simp) ?_)))
  refine csr_count_ok hct.sml hst (csr_count_ok hc.sml hs ?_)
  have := (turn_perm hc).length_eq
  simp at this ⊢; omega
theorem cut_mem {l h c d : Int} {T : List Triple} (t : Triple) : t ∈ cutT l h c d T ↔ (⟨t.Row + l, t.Col + c, t.Val⟩ : Triple) ∈ T ∧ (0 ≤ t.Row ∧ t.Row + l < h) ∧ 0 ≤ t.Col ∧ t.Col + c < d := by
  unfold cutT
  simp only [List.mem_map, List.mem_filter, decide_eq_true_eq]
  constructor
  · rintro ⟨u, ⟨hu, hc⟩, rfl⟩
    simp only
    rw [show u.Row - l + l = u.Row by omega, show u.Col - c + c = u.Col by omega]
    exact ⟨hu, by omega, by omega, by omega⟩
  · rintro ⟨hm, hc⟩
    refine ⟨_, ⟨hm, ?_⟩, ?_⟩
    · simp only; omega
    · cases t; simp only [Triple.mk.injEq]; exact ⟨by omega, by omega, trivial⟩
theorem CsrCuts_ok (a0 : Int × Int) (a1 : List Triple) (a2 : Int × Int × Int × Int) (h0 : inR .u8 a0.1 ∧ inR .u8 a0.2) (h1 : (∀ x ∈ a1, okTriple x) ∧ a1.length ≤ maxLen) (h2 : inR .u8 a2.1 ∧ inR .u8 a2.2.1 ∧ inR .u8 a2.2.2.1 ∧ inR .u8 a2.2.2.2) : law07_CsrCuts a0 a1 a2 (fun r => r = true) := by
  unfold law07_CsrCuts
  refine some_ok h0 h1.1 fun rows cols T r1 c1 hc hv => ?_
  have hs := sure_built hc
  have hr0 := hc.r0; have hc0 := hc.c0
  have er : w64 ((builtS rows cols T).Rows + 1) = rows + 1 := w64_id (by show -9223372036854775808 ≤ rows + 1; omega) (by show rows + 1 ≤ 9223372036854775807; omega)
  have ec : w64 ((builtS rows cols T).Cols + 1) = cols + 1 := w64_id (by show -9223372036854775808 ≤ cols + 1; omega) (by show cols + 1 ≤ 9223372036854775807; omega)
  rw [er, ec]
  refine size_ok h2.1 fun x _ _ => ⟨by omega, size_ok h2.2.1 fun y _ _ => ⟨by omega, ?_⟩⟩
  have hx := Int.emod_nonneg x (show rows + 1 ≠ 0 by omega)
  have hx2 := Int.emod_lt_of_pos x (show 0 < rows + 1 by omega)
  have hy := Int.emod_nonneg y (show cols + 1 ≠ 0 by omega)
  have hy2 := Int.emod_lt_of_pos y (show 0 < cols + 1 by omega)
  rw [Int.tmod_eq_emod_of_nonneg (by omega), Int.tmod_eq_emod_of_nonneg (by omega)]
  generalize x % (rows + 1) = i at *
  generalize y % (cols + 1) = j at *
  have eR : (builtS rows cols T).Rows = rows := rfl
  have eC : (builtS rows cols T).Cols = cols := rfl
  rw [eR, eC]
  refine csr_cut_ok hc.sml hs hc ?_
  have hk := cut_canon hc (i, rows) (j, cols)
  have e1 : ext i rows rows = rows - i := by unfold ext cLo cHi; (repeat' split) <;> omega
  have e2 : ext j cols cols = cols - j := by unfold ext cLo cHi; (repeat' split) <;> omega
  have e3 : cLo i = i := by unfold cLo; split <;> omega
  have e4 : cLo j = j := by unfold cLo; split <;> omega
  have e5 : cHi rows rows = rows := by unfold cHi; split <;> omega
  have e6 : cHi cols cols = cols := by unfold cHi; split <;> omega
  unfold cutS
  simp only [e1, e2, e3, e4, e5, e6] at hk ⊢
  have hsk := sure_built hk
  refine size_ok h2.2.2.1 fun a a1 a2' => size_ok h2.2.2.2 fun b b1 b2 => ?_
  refine csr_get_ok hk.sml hsk hk ?_
  rw [w64_id (x := i + a) (by omega) (by omega), w64_id (x := j + b) (by omega) (by omega)]
  refine csr_get_ok hc.sml hs hc ?_
  refine csr_cut_ok hk.sml hsk hk ?_
  refine live_ok (ifP_pos rfl (right_ok hk.sml (ifP_pos (decide_eq_true hk.right) ?_)))
  have hget : getS (cutT i rows j cols T) a b = getS T (i + a) (j + b) := by
    by_cases hex : ∃ t ∈ T, key t = (i + a, j + b)
    · obtain ⟨t, ht, hkk⟩ := hex
      rw [get_mem hc.srt ht hkk]
      have hk2 : t.Row = i + a ∧ t.Col = j + b := by simpa [key] using hkk
      have hin := hc.inn t ht
      unfold inT at hin
      refine get_mem hk.srt (t := ⟨a, b, t.Val⟩) ((cut_mem _).2 ⟨?_, by simp only; omega, by simp only; omega, by simp only; omega⟩) rfl
      have : (⟨a + i, b + j, t.Val⟩ : Triple) = t := by cases t; simp only [Triple.mk.injEq] at hk2 ⊢; exact ⟨by omega, by omega, trivial⟩
      simp only; rw [this]; exact ht
    · rw [get_none (ts := T) fun t ht hk => hex ⟨t, ht, hk⟩, get_none]
      intro t ht hkk
      have hm := (cut_mem t).1 ht
      have hk2 : t.Row = a ∧ t.Col = b := by simpa [key] using hkk
      exact hex ⟨_, hm.1, by simp only [key, Prod.mk.injEq]; omega⟩
  rw [hget]
  refine ifP_pos (by simp) (ifP_pos (by simp) ?_)
  refine csr_cut_ok hc.sml hs hc ?_
  have hk3 := cut_canon hk (0, a) (0, b)
  have hk4 := cut_canon hc (i, i + a) (j, j + b)
  refine same_ok hk3.sml ?_
  apply decide_eq_true
  unfold cutS
  have g1 : ext 0 a (rows - i) = ext i (i + a) rows := by unfold ext cLo cHi; (repeat' split) <;> omega
  have g2 : ext 0 b (cols - j) = ext j (j + b) cols := by unfold ext cLo cHi; (repeat' split) <;> omega
  simp only [g1, g2]
  congr 1
  refine srt_ext hk3.srt hk4.srt fun t => ?_
  simp only [cut_mem, e3, e4]
  have q1 : cLo 0 = 0 := rfl
  have q2 : t.Row + 0 = t.Row := by omega
  have q3 : t.Col + 0 = t.Col := by omega
  have q4 : cHi a (rows - i) ≤ a ∧ cHi a (rows - i) ≤ rows - i ∧ (cHi a (rows - i) = a ∨ cHi a (rows - i) = rows - i) := by unfold cHi; split <;> omega
  have q5 : cHi b (cols - j) ≤ b ∧ cHi b (cols - j) ≤ cols - j ∧ (cHi b (cols - j) = b ∨ cHi b (cols - j) = cols - j) := by unfold cHi; split <;> omega
  have q6 : cHi (i + a) rows ≤ i + a ∧ cHi (i + a) rows ≤ rows ∧ (cHi (i + a) rows = i + a ∨ cHi (i + a) rows = rows) := by unfold cHi; split <;> omega
  have q7 : cHi (j + b) cols ≤ j + b ∧ cHi (j + b) cols ≤ cols ∧ (cHi (j + b) cols = j + b ∨ cHi (j + b) cols = cols) := by unfold cHi; split <;> omega
  rw [q1, q2, q3]
  constructor
  · rintro ⟨⟨hm, h3, h4⟩, h5, h6⟩; exact ⟨hm, by omega, by omega, by omega⟩
  · rintro ⟨hm, h3, h4⟩; exact ⟨⟨hm, by omega, by omega, by omega⟩, by omega, by omega, by omega⟩
end Go.Proofs.YtindbiojednfbaaGreat
