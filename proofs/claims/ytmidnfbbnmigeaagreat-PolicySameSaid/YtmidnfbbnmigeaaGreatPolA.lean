import Derived.Test.YtmidnfbbnmigeaaGreatPushG
/- A matrix times a vector as it is pulled. -/
namespace Go.Proofs.YtmidnfbbnmigeaaGreat
open Go Go.Fw
set_option linter.unusedVariables false
set_option linter.unusedSimpArgs false
/-! ### The first place from one on -/
def nextS (f : List Int) (n : Int) : Int := ((listF f).find? fun i => decide (n ≤ i)).getD (-1)
theorem nextS_some {f : List Int} {n p : Int} (h : hasF f p = true) (hn : n ≤ p) (hm : ∀ q, q < p → n ≤ q → hasF f q = false) : nextS f n = p := by
  have hp := listF_mem.2 h
  have hinc := listF_incr f
  have hmem : ∀ q ∈ listF f, hasF f q = true := fun q hq => listF_mem.1 hq
  unfold nextS
  generalize listF f = l at hp hinc hmem
  induction l with
  | nil => simp at hp
  | cons x l ih =>
    rw [List.pairwise_cons] at hinc
    rw [List.find?_cons]
    by_cases e : n ≤ x
    · rw [decide_eq_true e]
      simp only [Option.getD_some]
      rcases List.mem_cons.1 hp with e' | hp
      · exact e'.symm
      · have := hinc.1 p hp
        have := hm x (by omega) e
        rw [hmem x (by simp)] at this; cases this
    · rw [decide_eq_false e]
      rcases List.mem_cons.1 hp with e' | hp
      · omega
      · exact ih hp hinc.2 fun q hq => hmem q (by simp [hq])
theorem nextS_none {f : List Int} {n : Int} (h : ∀ q, n ≤ q → hasF f q = false) : nextS f n = -1 := by
  unfold nextS
  rw [List.find?_eq_none.2]
  · rfl
  · intro q hq hd
    have := h q (of_decide_eq_true hd)
    rw [listF_mem.1 hq] at this; cases this
theorem bnd_one {x : Int} (h0 : 0 ≤ x) (h1 : x < 18446744073709551616) : bnd .u64 x 1 = x % 2 := by
  rw [bnd_nat h0 h1 (by omega) (by omega), show Int.toNat 1 = 1 from rfl, Nat.and_one_is_mod]; omega
theorem shr_one (x : Int) : shr .u64 x 1 = x / 2 := shr_u 1 (by omega)
/-- a word's places, one by one -/
theorem word_bit {f : List Int} (hf : okF f) {i j : Nat} (hj : j < 64) {w : Int} (hw : w = at0 f i / 2 ^ j) : (hasF f (64 * i + j) = true ↔ w % 2 = 1) := by
  have hb := okF_at hf i
  unfold hasF
  rw [show (64 * (i : Int) + j) / 64 = i by omega, show ((64 * (i : Int) + j) % 64).toNat = j by omega]
  rw [Nat.testBit_eq_decide_div_mod_eq]
  have e : w = (((at0 f i).toNat / 2 ^ j : Nat) : Int) := by
    rw [hw, Int.natCast_ediv, Int.natCast_pow, Int.toNat_of_nonneg hb.1]; rfl
  rw [e]
  simp only [show decide ((0 : Int) ≤ 64 * i + j) = true by simp; omega, Bool.true_and, decide_eq_true_eq]
  omega
theorem word_zero {f : List Int} (hf : okF f) {i j k : Nat} (hjk : j ≤ k) (hk : k < 64) {w : Int} (hw : w = at0 f i / 2 ^ j) (h0 : w = 0) : hasF f (64 * i + k) = false := by
  have hb := okF_at hf i
  unfold hasF
  rw [show (64 * (i : Int) + k) / 64 = i by omega, show ((64 * (i : Int) + k) % 64).toNat = k by omega]
  have e : w = (((at0 f i).toNat / 2 ^ j : Nat) : Int) := by
    rw [hw, Int.natCast_ediv, Int.natCast_pow, Int.toNat_of_nonneg hb.1]; rfl
  have hlt : (at0 f i).toNat < 2 ^ j := by
    have h0' : (at0 f i).toNat / 2 ^ j = 0 := by omega
    rcases Nat.div_eq_zero_iff.1 h0' with h | h
    · exact absurd h (Nat.ne_of_gt (Nat.pow_pos (by omega)))
    · exact h
  rw [Nat.testBit_lt_two_pow (Nat.lt_of_lt_of_le hlt (Nat.pow_le_pow_right (by omega) hjk))]
  simp
theorem word_half {f : List Int} {i j : Nat} {w : Int} (hw : w = at0 f i / 2 ^ j) : w / 2 = at0 f i / 2 ^ (j + 1) := by
  rw [hw, Int.ediv_ediv_of_nonneg (by exact Int.le_of_lt (Int.pow_pos (by omega))), Int.pow_succ]
theorem flags_Next_ok {f : List Int} {n : Int} {Q : Int → Prop} (hf : okF f) (hl : f.length ≤ 1000000) (hQ : Q (nextS f n)) : flags_Next f n Q := by
  unfold flags_Next flags_each_555 flags_each_1_6c7
  refine range_intro (s0 := ((0 : Int), (0 : Nat))) (fun (s : Int × Nat) i => (s.1, i, s.2)) 0 f.length (by omega) (fun k s => s.2 = 0 ∧ ∀ q, q < 64 * (k : Int) → n ≤ q → hasF f q = false) (by omega) ⟨rfl, fun q hq _ => hasF_neg (by omega)⟩ (fun k s next _ hk hs hn => ?_) (fun s next hs => ?_)
  · obtain ⟨s1, s2⟩ := s
    obtain ⟨h1, h2⟩ := hs
    simp only at h1 h2 ⊢
    subst h1
    have hb := okF_at hf k
    refine ifP_dec (fun _ => idxP_at0 (by omega) (by omega) ?_) (fun h => by omega)
    have esh : shl .i64 (k : Int) 6 = 64 * (k : Int) := by
      show w64 ((k : Int) * 2 ^ 6) = _
      rw [w64_id (by omega) (by omega)]; omega
    rw [esh]
    refine loop_intro (fun s : Int × Int × Int × Nat => ∃ j : Nat, j ≤ 64 ∧ s.2.2.1 = 64 * k + j ∧ s.2.1 = at0 f k / 2 ^ j ∧ s.2.2.2 = 0 ∧ ∀ q, q < 64 * (k : Int) + j → n ≤ q → hasF f q = false) (fun s => s.2.1.toNat) ⟨0, by omega, by simp, by simp, rfl, fun q hq => h2 q (by omega)⟩ ?_
    rintro ⟨t1, w, at', t4⟩ nx ⟨j, hj, ha, hw, h4, h5⟩ hnx
    simp only at ha hw h4 h5 ⊢
    subst h4
    have hw0 : 0 ≤ w ∧ w < 18446744073709551616 := by
      rw [hw]
      have hp : (0 : Int) < 2 ^ j := Int.pow_pos (by omega)
      exact ⟨Int.ediv_nonneg hb.1 (Int.le_of_lt hp), Int.lt_of_le_of_lt (Int.ediv_le_self _ hb.1) hb.2⟩
    have e1 : w64 (at' + 1) = 64 * (k : Int) + ((j + 1 : Nat) : Int) := by rw [ha, w64_id (by omega) (by omega)]; omega
    refine ifP_ne (fun hne => ?_) (fun he => ?_)
    · have hj64 : j < 64 := by
        rcases Nat.lt_or_ge j 64 with h | h
        · exact h
        · have : j = 64 := by omega
          subst this
          exfalso; apply hne; rw [hw]
          exact Int.ediv_eq_zero_of_lt hb.1 hb.2
      have hbit := word_bit hf hj64 hw
      rw [bnd_one hw0.1 hw0.2, shr_one, e1]
      refine ifP_eq (fun h1 => ⟨rfl, ifP_dec (fun hge => ?_) (fun hlt => ?_)⟩) (fun h1 => ?_)
      · refine ifP_pos rfl (ifP_neg (by simp) ⟨rfl, ?_⟩)
        rw [nextS_some (p := at') (by rw [ha]; exact hbit.2 h1) hge (fun q hq hnq => h5 q (by omega) hnq)] at hQ
        exact hQ
      · refine ifP_neg rfl (hnx _ ⟨j + 1, by omega, rfl, word_half hw, rfl, fun q hq hnq => ?_⟩ (by simp only; omega))
        rcases Int.lt_or_le q (64 * (k : Int) + j) with h | h
        · exact h5 q h hnq
        · omega
      · refine hnx _ ⟨j + 1, by omega, rfl, word_half hw, rfl, fun q hq hnq => ?_⟩ (by simp only; omega)
        rcases Int.lt_or_le q (64 * (k : Int) + j) with h | h
        · exact h5 q h hnq
        · have : q = 64 * (k : Int) + j := by omega
          subst this
          cases hc : hasF f (64 * (k : Int) + j) with
          | false => rfl
          | true => exact absurd (hbit.1 hc) h1
    · refine hn (_, 0) ⟨rfl, fun q hq hnq => ?_⟩
      rcases Int.lt_or_le q (64 * (k : Int) + j) with h | h
      · exact h5 q h hnq
      · obtain ⟨m, rfl⟩ : ∃ m : Nat, q = 64 * (k : Int) + m := ⟨(q - 64 * k).toNat, by omega⟩
        exact word_zero hf (j := j) (by omega) (by omega) hw he
  · obtain ⟨s1, s2⟩ := s
    obtain ⟨h1, h2⟩ := hs
    simp only at h1 h2 ⊢
    subst h1
    refine ifP_dec (fun h => by omega) (fun _ => ifP_pos rfl ?_)
    rw [nextS_none] at hQ
    · exact hQ
    · intro q hq
      rcases Int.lt_or_le q (64 * (f.length : Int)) with h | h
      · exact h2 q h hq
      · exact hasF_over h
theorem nextS_neg {f : List Int} {n : Int} (h0 : 0 ≤ n) : nextS f n < 0 ↔ ∀ i ∈ listF f, i < n := by
  unfold nextS
  cases hc : (listF f).find? fun i => decide (n ≤ i) with
  | none =>
    rw [List.find?_eq_none] at hc
    simp only [Option.getD_none]
    exact ⟨fun _ i hi => by have := hc i hi; simp at this; omega, fun _ => by omega⟩
  | some q =>
    have hq := List.find?_some hc
    have hm := List.mem_of_find?_eq_some hc
    have hq := of_decide_eq_true hq
    simp only [Option.getD_some]
    exact ⟨fun h => by omega, fun h => by have := h q hm; omega⟩
theorem flags_Right_ok {f : List Int} {n : Int} {Q : Bool → Prop} (hf : okF f) (hl : f.length ≤ 1000000) (hQ : Q (decide (rightF f n))) : flags_Right f n Q := by
  unfold flags_Right
  have hno : ¬ rightF f n → Q false := fun h => by rwa [decide_eq_false h] at hQ
  refine ifP_dec (fun h0 => ifP_dec (fun h1 => flags_words_ok (ifP_eq (fun h2 => flags_Next_ok hf hl ?_) (fun h2 => hno fun h => h2 (by rw [h.2.1])))) (fun h1 => hno fun h => h1 h.1.2)) (fun h0 => hno fun h => h0 h.1.1)
  have : decide (nextS f n < 0) = decide (rightF f n) := decide_eq_decide.2 (by
    rw [nextS_neg h0]
    exact ⟨fun h => ⟨⟨h0, h1⟩, by omega, h⟩, fun h => h.2.2⟩)
  rw [this]; exact hQ
theorem devec_Right_ok {v : Vec} {Q : Bool → Prop} (h : VecP v) (hQ : Q true) : devec_Right (denS v) Q := by
  unfold devec_Right
  have h0 := h.n0; have h1 := h.n1
  have hN : (denS v).N = v.N := rfl
  have hVl : ((denS v).Vals.length : Int) = v.N := by simp [denS, valsS]; omega
  refine flags_Right_ok (den_okF v) (by have := den_len v; omega) ?_
  rw [show decide (rightF (denS v).Has (denS v).N) = true from decide_eq_true (ofF_right ⟨h0, h1⟩ _)]
  refine ifP_neg rfl (ifP_ne (fun h' => absurd hVl h') (fun _ => ?_))
  refine scan_intro (denS v).Vals.length (by omega) (fun _ => True) trivial (fun k next hk _ hn => ?_) (fun next _ => ?_)
  · refine ifP_dec (fun _ => idxP_at0 (by omega) (by omega) (ifP_ne (fun h' => flags_Has_ok (den_okF v) (by unfold inI; omega) (ifP_not (fun hb => ?_) (fun _ => hn trivial))) (fun _ => hn trivial))) (fun h' => by omega)
    rw [den_has h] at hb
    have : at0 (denS v).Vals (k : Int) = (lkI v.Items k).getD 0 := at0_valsS (by omega) (by omega)
    rw [this] at h'
    cases hlk : lkI v.Items (k : Int) with
    | none => rw [hlk] at h'; exact absurd rfl h'
    | some y => rw [hlk] at hb; cases hb
  · exact ifP_dec (fun h' => by omega) (fun _ => hQ)
theorem pull_sure_ok {rows cols : Int} {ts : List Triple} {v : Vec} {Q : Rows × Dense → Prop} (h : Canon rows cols ts) (hv : VecP v) (hQ : Q (builtS rows cols ts, denS v)) : pull_sure (builtS rows cols ts) (denS v) Q := by
  unfold pull_sure
  refine join_intro (fun t => (⟨t.1, t.2.1, t.2.2.1, t.2.2.2.1, t.2.2.2.2⟩ : Rows) = builtS rows cols ts) ?_ ?_
  · rintro ⟨t1, t2, t3, t4, t5⟩ ht
    simp only at ht ⊢
    rw [ht]
    exact devec_Right_ok hv (ifP_neg rfl hQ)
  · intro k hk
    refine right_ok h.sml ?_
    rw [decide_eq_true h.right]
    exact ifP_neg rfl (hk _ rfl)
theorem pull_row_ok {r rows cols : Int} {ts : List Triple} {v : Vec} {i : Nat} {Q : Wide × Bool → Prop} (h : Canon rows cols ts) (ht : ∀ t ∈ ts, inI t.Val) (hv : VecP v) (hn : v.N = cols) (hvv : ∀ y ∈ v.Items, inI y.Val) (hi : (i : Int) < rows)
    (hQ : Q (((rowW r cols.toNat (lkI (rowI ts i)) (lkI v.Items)).getD ⟨0, 0⟩), (rowW r cols.toNat (lkI (rowI ts i)) (lkI v.Items)).isSome)) : pull_row r (builtS rows cols ts) i (denS v) Q := by
  unfold pull_row pull_adder_6fc pull_adder_2_cdb
  have hr1 := h.r1; have hc1 := h.c1; have hlen := h.len
  obtain ⟨lo, hi', sg⟩ := h.seg i
  have e1 : w64 ((i : Int) + 1) = (i + 1 : Nat) := by rw [w64_id (by omega) (by omega)]; omega
  rw [e1]
  refine start_idx (by omega) ?_
  rw [sg.lo]
  have g1 := sg.le; have g2 := sg.len
  have hrow : rowI ts i = ((ts.take hi').drop lo).map itS := by rw [sg.eq]; simp [rowI]
  have hin : IncI (rowI ts i) ∧ ∀ x ∈ rowI ts i, 0 ≤ x.At ∧ x.At < cols.toNat := by
    rw [rowI_colI ts (by omega)]
    refine ⟨colI_inc h.srt _, fun x hx => ?_⟩
    have := h.inn _ (colI_mem.1 hx); unfold inT at this; simp only at this; omega
  have hfold := row_fold (r := r) (B := lkI v.Items) hin.1 hin.2
  refine range_intro (s0 := (none : Option Wide)) (fun (s : Option Wide) k => (s.isSome, (s.getD ⟨0, 0⟩).Hi, (s.getD ⟨0, 0⟩).Lo, k)) lo hi' (by omega) (fun p acc => acc = (((ts.take p).drop lo).map itS).foldl (stepI r (lkI v.Items)) none) (by omega) (by simp) (fun p acc next' hp1 hp2 hacc hn' => ?_) (fun acc next' hacc => ?_)
  · dsimp only
    have hpl : p < ts.length := by omega
    have hok : ∀ w, acc = some w → okW w := by subst hacc; exact foldI_okW r _ _ none (fun w hw => by cases hw)
    have hstep : (((ts.take (p + 1)).drop lo).map itS).foldl (stepI r (lkI v.Items)) none = stepI r (lkI v.Items) acc (itS ts[p]) := by
      rw [ext_step hp1 hpl, List.map_append, List.foldl_append, ← hacc]; rfl
    have hint := h.inn _ (List.getElem_mem hpl)
    unfold inT at hint
    refine start_idx (by omega) ?_
    rw [sg.hi]
    refine ifP_dec (fun _ => ?_) (fun h => by omega)
    refine idxP_intro (by omega) (x := ts[p].Col) (by simp [builtS, hpl]) (flags_Has_ok (den_okF v) (by unfold inI; omega) ?_)
    rw [den_has hv]
    have hval : at0 (denS v).Vals ts[p].Col = (lkI v.Items ts[p].Col).getD 0 := at0_valsS hint.2.2.1 (by omega)
    have hVl : ((denS v).Vals.length : Int) = v.N := by have := hv.n0; simp [denS, valsS]; omega
    cases hB' : lkI v.Items ts[p].Col with
    | none =>
      refine ifP_neg rfl (hn' acc ?_)
      rw [hstep]; unfold stepI; simp only [itS, hB']
    | some x =>
      rw [hB'] at hval
      refine ifP_pos rfl (idxP_intro (by omega) (x := ts[p].Val) (by simp [builtS, hpl]) (idxP_at0 hint.2.2.1 (by omega) ?_))
      rw [hval]
      refine ring_Mul_ok (ht _ (List.getElem_mem hpl)) (hvv _ (lkI_mem hB')) ?_
      have hst : stepI r (lkI v.Items) acc (itS ts[p]) = cmb r acc (some (mulW r ts[p].Val x)) := by unfold stepI; simp only [itS, hB']
      unfold pull_adder_1_b72
      cases acc with
      | none => exact ifP_neg rfl (hn' (some (mulW r ts[p].Val x)) (by rw [hstep, hst]; rfl))
      | some w => exact ifP_pos rfl (ring_Add_ok (hok w rfl) (mulW_okW _ _ _) (hn' (some (addW r w (mulW r ts[p].Val x))) (by rw [hstep, hst]; rfl)))
  · dsimp only
    refine start_idx (by omega) ?_
    rw [sg.hi]
    refine ifP_dec (fun h => by omega) (fun _ => ?_)
    rw [← hrow, hfold] at hacc
    subst hacc
    exact hQ
theorem pull_Sums_ok {r rows cols : Int} {ts : List Triple} {v : Vec} {f : List Int} {o : Bool} {Q : List Sum × Int → Prop} (h : Canon rows cols ts) (ht : ∀ t ∈ ts, inI t.Val) (hv : VecP v) (hvv : ∀ y ∈ v.Items, inI y.Val)
    (hf : okF f) (hQ : Q (sumsR r rows cols ts v f o)) : pull_Sums r (builtS rows cols ts) (denS v) f o Q := by
  unfold pull_Sums
  unfold sumsR at hQ
  have hr0 := h.r0; have hr1 := h.r1
  refine pull_sure_ok h hv (ring_Is_ok (ifP_not (fun h' => ?_) (fun h' => ifP_ne (fun hne => ?_) (fun he => ?_))))
  · rw [if_pos (of_decide_eq_false h')] at hQ; exact hQ
  · rw [if_neg (by have := of_decide_eq_true h'; omega), if_pos (show v.N ≠ cols from hne)] at hQ; exact hQ
  have hr := of_decide_eq_true h'
  have he : v.N = cols := he
  rw [if_neg (by omega), if_neg (by omega)] at hQ
  unfold pull_asked_064 pull_asked_1_839
  have hB : (builtS rows cols ts).Rows = rows := rfl
  refine range_intro (s0 := (([] : List Sum), (0 : Nat))) (fun (s : List Sum × Nat) i => (s.1, i, s.2)) 0 rows.toNat (by omega) (fun m s => s.2 = 0 ∧ s.1 = sumsS r m cols.toNat f o (fun i => lkI (rowI ts i)) (lkI v.Items)) (by omega) ⟨rfl, by simp [sumsS]⟩ (fun i s next _ hi hs hn => ?_) (fun s next hs => ?_)
  · obtain ⟨s, s2⟩ := s
    obtain ⟨h2, hs⟩ := hs
    simp only at h2 hs ⊢
    subst h2
    have hsl : s.length ≤ i := by subst hs; exact (sumsS_prop r cols.toNat f o (fun i => lkI (rowI ts i)) (lkI v.Items) i).2.1
    have hsucc := sumsS_succ r i cols.toNat f o (fun i => lkI (rowI ts i)) (lkI v.Items)
    rw [← hs] at hsucc
    refine ifP_dec (fun _ => flags_Has_ok hf (by unfold inI; omega) (ifP_not (fun hb => ⟨rfl, ?_⟩) (fun hb => hn (s, 0) ⟨rfl, ?_⟩))) (fun h' => by rw [hB] at h'; omega)
    · have hask : askF f o i = true := by unfold askF; rw [bne, hb]; rfl
      rw [if_pos hask] at hsucc
      refine pull_row_ok h ht hv he hvv (by omega) ?_
      cases hw : rowW r cols.toNat (lkI (rowI ts i)) (lkI v.Items) with
      | none =>
        refine ifP_neg rfl (ifP_neg rfl (hn (s, 0) ⟨rfl, ?_⟩))
        simp only
        rw [hsucc, hw]; simp
      | some w =>
        refine ifP_pos rfl (appP_intro (by simp; omega) (ifP_neg rfl (hn (s ++ [⟨i, w⟩], 0) ⟨rfl, ?_⟩)))
        simp only
        rw [hsucc, hw]; rfl
    · have hno : ¬ askF f o i = true := by unfold askF; rw [bne, hb]; simp
      simp only
      rw [hsucc, if_neg hno]; simp
  · obtain ⟨s, s2⟩ := s
    obtain ⟨h2, hs⟩ := hs
    simp only at h2 hs ⊢
    subst h2
    refine ifP_dec (fun h' => by rw [hB] at h'; omega) (fun _ => ⟨rfl, ?_⟩)
    subst hs; exact hQ
end Go.Proofs.YtmidnfbbnmigeaaGreat

/- Which way and which form: the statements of policy in plain Lean. -/
namespace Go.Proofs.YtmidnfbbnmigeaaGreat
open Go Go.Fw
set_option linter.unusedVariables false
set_option linter.unusedSimpArgs false
/-! ### Dense, taken back -/
theorem next_item {v : Vec} (h : VecP v) {k : Nat} {n : Int} (h1 : ∀ j (hj : j < v.Items.length), j < k → v.Items[j].At < n) (h2 : ∀ j (hj : j < v.Items.length), k ≤ j → n ≤ v.Items[j].At) :
    nextS (denS v).Has n = if hk : k < v.Items.length then v.Items[k].At else -1 := by
  split
  · rename_i hk
    refine nextS_some ?_ (h2 k hk (Nat.le_refl _)) fun q hq hnq => ?_
    · rw [den_has h, mem_lkI h.inc (List.getElem_mem hk)]; rfl
    · rw [den_has h, lkI_none]
      · rfl
      · intro s hs e
        obtain ⟨j, hj, rfl⟩ := List.mem_iff_getElem.1 hs
        rcases Nat.lt_or_ge j k with g | g
        · have := h1 j hj g; omega
        · rcases Nat.lt_or_ge k j with g' | g'
          · have := h.inc.at hj g'; omega
          · have : j = k := by omega
            subst this; omega
  · rename_i hk
    refine nextS_none fun q hq => ?_
    rw [den_has h, lkI_none]
    · rfl
    · intro s hs e
      obtain ⟨j, hj, rfl⟩ := List.mem_iff_getElem.1 hs
      have := h1 j hj (by omega); omega
theorem devec_Back_ok {v : Vec} {Q : Vec → Prop} (h : VecP v) (hQ : Q v) : devec_Back (denS v) Q := by
  unfold devec_Back devec_sure devec_all_319 devec_all_1_7f1
  have hlen := h.len; have h0 := h.n0; have h1 := h.n1
  have hl : (denS v).Has.length ≤ 1000000 := by have := den_len v; omega
  have hVl : ((denS v).Vals.length : Int) = v.N := by simp [denS, valsS]; omega
  refine devec_Right_ok h (ifP_pos rfl (flags_Next_ok (den_okF v) hl ?_))
  rw [next_item h (k := 0) (fun j hj h => by omega) (fun j hj _ => (h.ins _ (List.getElem_mem hj)).1)]
  refine loop_intro (fun s : Int × List Item × Int × Nat => ∃ k : Nat, k ≤ v.Items.length ∧ s.1 = v.N ∧ s.2.1 = v.Items.take k ∧ s.2.2.2 = 0 ∧ s.2.2.1 = if hk : k < v.Items.length then v.Items[k].At else -1) (fun s => v.Items.length - s.2.1.length) ⟨0, by omega, rfl, by simp, rfl, rfl⟩ ?_
  rintro ⟨s1, s2, s3, s4⟩ next ⟨k, hk, g1, g2, g3, g4⟩ hn
  simp only at g1 g2 g3 g4 ⊢
  subst g1; subst g3
  have hs2 : s2.length = k := by subst g2; simp; omega
  by_cases hkl : k < v.Items.length
  · rw [dif_pos hkl] at g4
    have hin := h.ins _ (List.getElem_mem hkl)
    have hval : at0 (denS v).Vals s3 = v.Items[k].Val := by
      have : at0 (denS v).Vals s3 = (lkI v.Items s3).getD 0 := at0_valsS (by omega) (by omega)
      rw [this, g4, mem_lkI h.inc (List.getElem_mem hkl)]; rfl
    refine ifP_dec (fun _ => idxP_at0 (by omega) (by omega) ⟨rfl, appP_intro (by simp; omega) ?_⟩) (fun h' => by omega)
    refine ifP_neg rfl (flags_Next_ok (den_okF v) hl ?_)
    rw [w64_id (by omega) (by omega), next_item h (k := k + 1) (fun j hj hjk => ?_) (fun j hj hjk => ?_), hval]
    · refine hn _ ⟨k + 1, by omega, rfl, ?_, rfl, rfl⟩ (by simp only [List.length_append, List.length_singleton, hs2]; omega)
      simp only
      rw [List.take_succ_eq_append_getElem hkl, g2, g4]
    · rw [g4]
      by_cases e : j = k
      · subst e; omega
      · have := h.inc.at hkl (i := j) (by omega); omega
    · rw [g4]
      have := h.inc.at hj (i := k) (by omega); omega
  · rw [dif_neg hkl] at g4
    refine ifP_dec (fun h' => by omega) (fun _ => ⟨rfl, ?_⟩)
    rw [List.take_of_length_le (by omega)] at g2
    subst g2
    exact hQ
/-! ### Ways and forms -/
def dirS (w a b : Int) : Int := if w = 1 then 1 else if w = 2 then 2 else if w64 (b.tdiv 4) < a then 2 else 1
def shapeS (f a b : Int) : Int := if f = 1 then 1 else if f = 2 then 2 else if w64 (b.tdiv 8) < a then 2 else 1
theorem dir_ok {w a b : Int} {Q : Int → Prop} (hQ : Q (dirS w a b)) : policy_Direction w a b Q := by
  unfold policy_Direction; unfold dirS at hQ
  refine ifP_eq (fun h => ?_) (fun h => ifP_eq (fun h2 => ?_) (fun h2 => ifP_dec (fun h3 => ?_) (fun h3 => ?_)))
  · rw [if_pos h] at hQ; rwa [h]
  · rw [if_neg h, if_pos h2] at hQ; rwa [h2]
  · rwa [if_neg h, if_neg h2, if_pos h3] at hQ
  · rwa [if_neg h, if_neg h2, if_neg h3] at hQ
theorem ref_dir_ok {w a b : Int} {Q : Int → Prop} (hQ : Q (dirS w a b)) : ref16_Direction w a b Q := by
  unfold ref16_Direction; unfold dirS at hQ
  refine ifP_eq (fun h => ?_) (fun h => ifP_eq (fun h2 => ?_) (fun h2 => ifP_dec (fun h3 => ?_) (fun h3 => ?_)))
  · rw [if_pos h] at hQ; rwa [h]
  · rw [if_neg h, if_pos h2] at hQ; rwa [h2]
  · rwa [if_neg h, if_neg h2, if_neg (by omega)] at hQ
  · rwa [if_neg h, if_neg h2, if_pos (by omega)] at hQ
theorem shape_ok {w a b : Int} {Q : Int → Prop} (hQ : Q (shapeS w a b)) : policy_Shape w a b Q := by
  unfold policy_Shape; unfold shapeS at hQ
  refine ifP_eq (fun h => ?_) (fun h => ifP_eq (fun h2 => ?_) (fun h2 => ifP_dec (fun h3 => ?_) (fun h3 => ?_)))
  · rw [if_pos h] at hQ; rwa [h]
  · rw [if_neg h, if_pos h2] at hQ; rwa [h2]
  · rwa [if_neg h, if_neg h2, if_pos h3] at hQ
  · rwa [if_neg h, if_neg h2, if_neg h3] at hQ
theorem shape_12 (f a b : Int) : shapeS f a b = 1 ∨ shapeS f a b = 2 := by
  unfold shapeS
  repeat' split
  all_goals simp
/-! ### What is held -/
def heldF (s : Int) (u : Vec) : Held := if s = 2 then ⟨2, zV, denS u⟩ else ⟨1, u, ⟨0, [], []⟩⟩
def holdS (f : Int) (v : Vec) : Held := heldF (shapeS f (sureV v).Items.length (sureV v).N) (sureV v)
theorem clone_ok {l : List Item} {Q : List Item → Prop} (hl : l.length ≤ 1000000) (hQ : Q l) : slices_Clone_api_Item_api_Item l Q := by
  unfold slices_Clone_api_Item_api_Item
  refine nilP_intro (fun e => by subst e; exact hQ) (appP_intro (by simp; omega) ?_)
  exact hQ
theorem hold_ok {f : Int} {v : Vec} {Q : Held → Prop} (hl : v.Items.length ≤ 1000000000) (hQ : Q (holdS f v)) : policy_Hold f v Q := by
  unfold policy_Hold
  have hv := sureV_ok v
  unfold holdS heldF at hQ
  refine join_intro (fun t => (⟨t.1, t.2⟩ : Vec) = sureV v) ?_ ?_
  · rintro ⟨t1, t2⟩ ht
    simp only at ht ⊢
    rw [← ht] at hQ hv
    have hul := hv.len
    simp only at hul hQ
    refine shape_ok (ifP_eq (fun h => ?_) (fun h => ?_))
    · rw [if_pos h] at hQ
      refine devec_Of_ok (by simp only; omega) ?_
      rw [sureV_id hv]; exact hQ
    · rw [if_neg h] at hQ
      have e1 := (shape_12 f (t2.length : Int) t1).resolve_right h
      exact clone_ok (by omega) hQ
  · intro k hk
    refine spvec_Right_ok hl (ifP_not (fun h => hk _ ?_) (fun h => hk _ ?_))
    · rw [sureV, if_neg (of_decide_eq_false h)]; rfl
    · rw [sureV, if_pos (of_decide_eq_true h)]
theorem vec_ok {s : Int} {u : Vec} {Q : Vec → Prop} (hu : VecP u) (hQ : Q u) : policy_Vec (heldF s u) Q := by
  unfold policy_Vec heldF
  have hul := hu.len
  split
  · exact ifP_pos rfl (devec_Back_ok hu hQ)
  · refine ifP_neg rfl (join_intro (fun b => b = true) (fun b hb => ifP_pos hb (clone_ok (by simp only; omega) hQ)) fun k hk => ifP_pos rfl (spvec_Right_ok (by simp only; omega) (hk _ (decide_eq_true hu))))
theorem vec_none {Q : Vec → Prop} (hQ : Q zV) : policy_Vec ⟨0, zV, ⟨0, [], []⟩⟩ Q := by
  unfold policy_Vec
  exact ifP_neg rfl (join_intro (fun b => b = false) (fun b hb => ifP_neg hb hQ) fun k hk => ifP_neg rfl (hk _ rfl))
theorem dense_ok {s : Int} {u : Vec} {Q : Dense → Prop} (hu : VecP u) (hQ : Q (denS u)) : policy_Dense (heldF s u) Q := by
  unfold policy_Dense
  refine vec_ok hu (devec_Of_ok (by have := hu.len; omega) ?_)
  rw [sureV_id hu]; exact hQ
theorem size_hold_ok {s : Int} {u : Vec} {Q : Int → Prop} (hu : VecP u) (hQ : Q (if s = 2 then u.N else u.Items.length)) : policy_Size (heldF s u) Q := by
  unfold policy_Size
  refine vec_ok hu ?_
  unfold heldF
  by_cases h : s = 2
  · rw [if_pos h] at hQ ⊢; exact ifP_neg rfl hQ
  · rw [if_neg h] at hQ ⊢; exact ifP_pos rfl hQ
/-! ### Products -/
def taskS (r w : Int) (s : List Sum × Int) (d : Int) : List Sum × Int × Int := if s.2 ≠ 0 then ([], 0, s.2) else (s.1, d, 0)
theorem psums_ok {t : Policy_Task} {rows cols : Int} {ts : List Triple} {s : Int} {u : Vec} {Q : List Sum × Int × Int → Prop} (hM : Canon rows cols ts) (hMv : ∀ x ∈ ts, inI x.Val) (hR : t.Rows = builtS rows cols ts) (hC : t.Cols = colS rows cols (turnT cols ts)) (hX : t.X = heldF s u) (hu : VecP u) (huv : ∀ x ∈ u.Items, inI x.Val) (hf : okF t.Set)
    (hQ : Q (taskS t.Ring t.Way (sumsR t.Ring rows cols ts u t.Set t.Others) (dirS t.Way (workS (turnT cols ts) (placesS u)) ts.length))) : policy_Sums t Q := by
  obtain ⟨tr, tR, tC, tX, tS, tO, tW⟩ := t
  simp only at hR hC hX hf hQ
  subst hR; subst hC; subst hX
  unfold policy_Sums policy_Task_pull_afb policy_Task_push_e34
  have hT := turn_canon hM
  have hTv := turnT_vals hM hMv
  have hul : u.Items.length ≤ 1000000000 := by have := hu.len; omega
  simp only
  refine vec_ok hu (push_Work_ok hT.smlC hul (sureC_col hT) hT (csr_count_ok hM.sml (sure_built hM) (dir_ok ?_)))
  unfold taskS at hQ
  refine ifP_eq (fun h => dense_ok hu (pull_Sums_ok hM hMv hu huv hf ?_)) (fun h => vec_ok hu (push_Sums_ok hT.smlC (sureC_col hT) hT hTv hul (by rw [sureV_id hu]; exact huv) hf ?_))
  · refine ifP_ne (fun hne => ?_) (fun he => ?_)
    · rw [if_pos hne] at hQ; exact hQ
    · rw [if_neg (fun h => h he)] at hQ; rw [he]; exact hQ
  · rw [sureV_id hu, ← sums_turn hT, turn_turn hM]
    refine ifP_ne (fun hne => ?_) (fun he => ?_)
    · rw [if_pos hne] at hQ; exact hQ
    · rw [if_neg (fun h => h he)] at hQ; rw [he]; exact hQ
theorem psums_none {Q : List Sum × Int × Int → Prop} (hQ : Q ([], 0, 8)) : policy_Sums ⟨0, ⟨0, 0, [], [], []⟩, ⟨0, 0, [], [], [], []⟩, ⟨0, zV, ⟨0, [], []⟩⟩, [], false, 0⟩ Q := by
  unfold policy_Sums policy_Task_pull_afb policy_Task_push_e34
  have hc := zC_wrong
  have sm : smallC ⟨0, 0, [], [], [], []⟩ := by unfold smallC; simp
  have sc : sureC ⟨0, 0, [], [], [], []⟩ = colS 0 0 [] := if_neg hc
  have hz : small ⟨0, 0, [], [], []⟩ := small_zR
  have ez : sureS ⟨0, 0, [], [], []⟩ = builtS 0 0 [] := by
    obtain ⟨rows, cols, ts, h1, h2, h3, h4⟩ := sureS_cases zR
    obtain ⟨e1, e2, e3⟩ := h4 zR_wrong
    subst e1; subst e2; subst e3; exact h2
  simp only
  refine vec_none (push_Work_ok (x := zV) sm (by simp [zV]) sc canon_empty (csr_count_ok hz ez (dir_ok ?_)))
  have e : dirS 0 (workS [] (placesS zV)) (([] : List Triple).length : Int) = 1 := by decide +kernel
  rw [e]
  refine ifP_neg rfl (vec_none (push_Sums_ok (x := zV) sm sc canon_empty (by simp) (by simp [zV]) (by rw [sureV_id zV_ok]; simp [zV]) nil_okF ?_))
  have e2 : sumsP 0 0 0 [] (sureV zV) [] false = ([], 8) := by unfold sumsP; rw [if_pos (by omega)]
  rw [e2]
  exact ifP_pos rfl hQ
def M16 : List Triple := [⟨0, 3, 2⟩]
def V16 : Vec := ⟨8, [⟨3, 5⟩]⟩
theorem M16_canon : Canon 1 8 M16 := ⟨by decide, by decide, by decide, by decide, by decide, by unfold Srt; decide, by decide⟩
theorem V16_ok : VecP V16 := by decide
theorem live16_ok {Q : Bool → Prop} (hQ : Q true) : law16_live Q := by
  unfold law16_live
  have sV : sureV V16 = V16 := sureV_id V16_ok
  have hMv : ∀ t ∈ M16, inI t.Val := by unfold inI; decide
  have hVv : ∀ y ∈ V16.Items, inI y.Val := by unfold inI; decide
  refine ref_Of_ok (by decide) (by unfold inI; decide) ?_
  rw [show ofS 1 1 8 ([({ Row := 0, Col := 3, Val := 2 } : Triple)]) = (builtS 1 8 M16, 0) by
    have := of_self (r := 1) M16_canon (by unfold inI; decide) (by omega)
    exact this]
  refine hold_ok (v := V16) (by decide) (hold_ok (v := V16) (by decide) (ref_dcsc_of_ok M16_canon.sml (sure_built M16_canon) M16_canon ?_))
  have e1 : holdS 0 V16 = heldF 1 V16 := by unfold holdS; rw [sV]; rfl
  have e2 : holdS 2 V16 = heldF 2 V16 := by unfold holdS; rw [sV]; rfl
  rw [e1, e2]
  refine psums_ok (s := 1) (u := V16) M16_canon hMv rfl rfl rfl V16_ok hVv nil_okF ?_
  have e3 : dirS 0 (workS (turnT 8 M16) (placesS V16)) M16.length = 2 := by decide +kernel
  have e4 : sumsR 1 1 8 M16 V16 [] true = ([⟨0, ⟨0, 7⟩⟩], 0) := by decide +kernel
  simp only
  rw [e3, e4]
  refine psums_none (shape_ok (ifP_pos (by decide) (shape_ok (ifP_pos (by decide) (dir_ok (ifP_pos (by decide) (dir_ok (ifP_pos (by decide) (ifP_pos (by decide) ?_)))))))))
  refine size_hold_ok V16_ok (ifP_pos (by decide) (size_hold_ok V16_ok (ifP_pos (by decide) (vec_ok V16_ok (ref09_Same_ok (v := V16) (by decide) (ifP_pos rfl (dense_ok V16_ok ?_)))))))
  refine ifP_pos (by decide) (ifP_pos (by decide) (ifP_pos (by decide) (ifP_pos (by decide) (idxP_intro (by decide) (x := ⟨0, ⟨0, 7⟩⟩) (by decide) (ifP_pos (by decide) (ifP_pos (by decide) ?_))))))
  exact hQ
theorem PolicySame_ok (a0 : Law13_Task) (a1 a2 : Int) (h0 : okLaw13_Task a0) : law16_PolicySame a0 a1 a2 (fun r => r = true) := by
  unfold law16_PolicySame
  refine right_is (task_mat_ok h0 fun M hM hMv => task_vec_ok h0 h0.2.2.2.1.1 fun v hvn hv hvv => task_rows_ok h0 fun f hf => ?_)
  have hvl := hv.len
  have hb := ringS_b a0.Ring
  have hT := turn_canon hM
  refine ref10_Of_ok (by omega) ?_
  rw [sureV_id hv]
  refine ref13_Sums_ok hM.sml (sure_built hM) hM hMv hv hvv hf (dcsc_of_ok hM.sml (sure_built hM) (fun _ => rfl) (fun h => absurd hM.right h) hM (hold_ok (by omega) ?_))
  unfold holdS
  rw [sureV_id hv]
  refine psums_ok hM hMv rfl rfl rfl hv hvv hf (live16_ok (ifP_pos rfl ?_))
  simp only
  have e2 : (sumsR (ringS a0.Ring) (sizeS a0.Size.1) (sizeS a0.Size.2) M v f a0.Others).2 = 0 := by
    unfold sumsR
    rw [if_neg (by omega), if_neg (by omega)]
  have hlen : (sumsR (ringS a0.Ring) (sizeS a0.Size.1) (sizeS a0.Size.2) M v f a0.Others).1.length ≤ 4096 := by
    have := (sumsP_prop (ringS a0.Ring) (sizeS a0.Size.1) (sizeS a0.Size.2) (turnT (sizeS a0.Size.2) M) v f a0.Others (by have := sizeS_b a0.Size.1; omega)).2.1
    rwa [← sums_turn hT, turn_turn hM] at this
  unfold taskS
  rw [if_neg (fun h => h e2)]
  refine ifP_pos (by rw [e2]; rfl) (ifP_pos rfl (eqSum_ok (by simp only; omega) (ifP_pos (by simp) (ref_dcsc_of_ok hM.sml (sure_built hM) hM (ref14_Work_ok hT.smlC (by omega) (sureC_col hT) hT (ref_dir_ok ?_))))))
  have e3 : (builtS (sizeS a0.Size.1) (sizeS a0.Size.2) M).Col.length = M.length := by simp [builtS]
  rw [e3]
  simp
end Go.Proofs.YtmidnfbbnmigeaaGreat

