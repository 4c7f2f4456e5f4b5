/- A matrix times a vector as it is pulled. -/
import Derived.Test.YtdfiinkpdaggeaaGreatPushG
namespace Go.Proofs.YtdfiinkpdaggeaaGreat
open Go Go.Fw
set_option linter.unusedVariables false
set_option linter.unusedSimpArgs false
/-! ### The first place from one on -/
def nextS (f : List Int) (n : Int) : Int := ((listF f).find? fun i => decide (n ≤ i)).getD (-1)
theorem nextS_some {f : List Int} {n p : Int} (h : hasF f p = true) (hn : n ≤ p) (hm : ∀ q, q < p → n ≤ q → hasF f q = false) : nextS f n = p := by
  have hp := listF_mem.2 h
  have hinc := listF_incr f
  have hmem : ∀ q ∈ listF f, hasF f q = true := fun q hq => listF_mem.1 hq
  unfold nextS
  generalize listF f = l at hp hinc hmem
  induction l with
  | nil => simp at hp
  | cons x l ih =>
    rw [List.pairwise_cons] at hinc
    rw [List.find?_cons]
    by_cases e : n ≤ x
    · rw [decide_eq_true e]
      simp only [Option.getD_some]
      rcases List.mem_cons.1 hp with e' | hp
      · exact e'.symm
      · have := hinc.1 p hp
        have := hm x (by omega) e
        rw [hmem x (by simp)] at this; cases this
    · rw [decide_eq_false e]
      rcases List.mem_cons.1 hp with e' | hp
      · omega
      · exact ih hp hinc.2 fun q hq => hmem q (by simp [hq])
theorem nextS_none {f : List Int} {n : Int} (h : ∀ q, n ≤ q → hasF f q = false) : nextS f n = -1 := by
  unfold nextS
  rw [List.find?_eq_none.2]
  · rfl
  · intro q hq hd
    have := h q (of_decide_eq_true hd)
    rw [listF_mem.1 hq] at this; cases this
theorem bnd_one {x : Int} (h0 : 0 ≤ x) (h1 : x < 18446744073709551616) : bnd .u64 x 1 = x % 2 := by
  rw [bnd_nat h0 h1 (by omega) (by omega), show Int.toNat 1 = 1 from rfl, Nat.and_one_is_mod]; omega
theorem shr_one (x : Int) : shr .u64 x 1 = x / 2 := shr_u 1 (by omega)
/-- a word's places, one by one -/
theorem word_bit {f : List Int} (hf : okF f) {i j : Nat} (hj : j < 64) {w : Int} (hw : w = at0 f i / 2 ^ j) : (hasF f (64 * i + j) = true ↔ w % 2 = 1) := by
  have hb := okF_at hf i
  unfold hasF
  rw [show (64 * (i : Int) + j) / 64 = i by omega, show ((64 * (i : Int) + j) % 64).toNat = j by omega]
  rw [Nat.testBit_eq_decide_div_mod_eq]
  have e : w = (((at0 f i).toNat / 2 ^ j : Nat) : Int) := by
    rw [hw, Int.natCast_ediv, Int.natCast_pow, Int.toNat_of_nonneg hb.1]; rfl
  rw [e]
  simp only [show decide ((0 : Int) ≤ 64 * i + j) = true by simp; omega, Bool.true_and, decide_eq_true_eq]
  omega
theorem word_zero {f : List Int} (hf : okF f) {i j k : Nat} (hjk : j ≤ k) (hk : k < 64) {w : Int} (hw : w = at0 f i / 2 ^ j) (h0 : w = 0) : hasF f (64 * i + k) = false := by
  have hb := okF_at hf i
  unfold hasF
  rw [show (64 * (i : Int) + k) / 64 = i by omega, show ((64 * (i : Int) + k) % 64).toNat = k by omega]
  have e : w = (((at0 f i).toNat / 2 ^ j : Nat) : Int) := by
    rw [hw, Int.natCast_ediv, Int.natCast_pow, Int.toNat_of_nonneg hb.1]; rfl
  have hlt : (at0 f i).toNat < 2 ^ j := by
    have h0' : (at0 f i).toNat / 2 ^ j = 0 := by omega
    rcases Nat.div_eq_zero_iff.1 h0' with h | h
    · exact absurd h (Nat.ne_of_gt (Nat.pow_pos (by omega)))
    · exact h
  rw [Nat.testBit_lt_two_pow (Nat.lt_of_lt_of_le hlt (Nat.pow_le_pow_right (by omega) hjk))]
  simp
theorem word_half {f : List Int} {i j : Nat} {w : Int} (hw : w = at0 f i / 2 ^ j) : w / 2 = at0 f i / 2 ^ (j + 1) := by
  rw [hw, Int.ediv_ediv_of_nonneg (by exact Int.le_of_lt (Int.pow_pos (by omega))), Int.pow_succ]
theorem flags_Next_ok {f : List Int} {n : Int} {Q : Int → Prop} (hf : okF f) (hl : f.length ≤ 1000000) (hQ : Q (nextS f n)) : flags_Next f n Q := by
  unfold flags_Next flags_each_555 flags_each_1_6c7
  refine range_intro (s0 := ((0 : Int), (0 : Nat))) (fun (s : Int × Nat) i => (s.1, i, s.2)) 0 f.length (by omega) (fun k s => s.2 = 0 ∧ ∀ q, q < 64 * (k : Int) → n ≤ q → hasF f q = false) (by omega) ⟨rfl, fun q hq _ => hasF_neg (by omega)⟩ (fun k s next _ hk hs hn => ?_) (fun s next hs => ?_)
  · obtain ⟨s1, s2⟩ := s
    obtain ⟨h1, h2⟩ := hs
    simp only at h1 h2 ⊢
    subst h1
    have hb := okF_at hf k
    refine ifP_dec (fun _ => idxP_at0 (by omega) (by omega) ?_) (fun h => by omega)
    have esh : shl .i64 (k : Int) 6 = 64 * (k : Int) := by
      show w64 ((k : Int) * 2 ^ 6) = _
      rw [w64_id (by omega) (by omega)]; omega
    rw [esh]
    refine loop_intro (fun s : Int × Int × Int × Nat => ∃ j : Nat, j ≤ 64 ∧ s.2.2.1 = 64 * k + j ∧ s.2.1 = at0 f k / 2 ^ j ∧ s.2.2.2 = 0 ∧ ∀ q, q < 64 * (k : Int) + j → n ≤ q → hasF f q = false) (fun s => s.2.1.toNat) ⟨0, by omega, by simp, by simp, rfl, fun q hq => h2 q (by omega)⟩ ?_
    rintro ⟨t1, w, at', t4⟩ nx ⟨j, hj, ha, hw, h4, h5⟩ hnx
    simp only at ha hw h4 h5 ⊢
    subst h4
    have hw0 : 0 ≤ w ∧ w < 18446744073709551616 := by
      rw [hw]
      have hp : (0 : Int) < 2 ^ j := Int.pow_pos (by omega)
      exact ⟨Int.ediv_nonneg hb.1 (Int.le_of_lt hp), Int.lt_of_le_of_lt (Int.ediv_le_self _ hb.1) hb.2⟩
    have e1 : w64 (at' + 1) = 64 * (k : Int) + ((j + 1 : Nat) : Int) := by rw [ha, w64_id (by omega) (by omega)]; omega
    refine ifP_ne (fun hne => ?_) (fun he => ?_)
    · have hj64 : j < 64 := by
        rcases Nat.lt_or_ge j 64 with h | h
        · exact h
        · have : j = 64 := by omega
          subst this
          exfalso; apply hne; rw [hw]
          exact Int.ediv_eq_zero_of_lt hb.1 hb.2
      have hbit := word_bit hf hj64 hw
      rw [bnd_one hw0.1 hw0.2, shr_one, e1]
      refine ifP_eq (fun h1 => ⟨rfl, ifP_dec (fun hge => ?_) (fun hlt => ?_)⟩) (fun h1 => ?_)
      · refine ifP_pos rfl (ifP_neg (by simp) ⟨rfl, ?_⟩)
        rw [nextS_some (p := at') (by rw [ha]; exact hbit.2 h1) hge (fun q hq hnq => h5 q (by omega) hnq)] at hQ
        exact hQ
      · refine ifP_neg rfl (hnx _ ⟨j + 1, by omega, rfl, word_half hw, rfl, fun q hq hnq => ?_⟩ (by simp only; omega))
        rcases Int.lt_or_le q (64 * (k : Int) + j) with h | h
        · exact h5 q h hnq
        · omega
      · refine hnx _ ⟨j + 1, by omega, rfl, word_half hw, rfl, fun q hq hnq => ?_⟩ (by simp only; omega)
        rcases Int.lt_or_le q (64 * (k : Int) + j) with h | h
        · exact h5 q h hnq
        · have : q = 64 * (k : Int) + j := by omega
          subst this
          cases hc : hasF f (64 * (k : Int) + j) with
          | false => rfl
          | true => exact absurd (hbit.1 hc) h1
    · refine hn (_, 0) ⟨rfl, fun q hq hnq => ?_⟩
      rcases Int.lt_or_le q (64 * (k : Int) + j) with h | h
      · exact h5 q h hnq
      · obtain ⟨m, rfl⟩ : ∃ m : Nat, q = 64 * (k : Int) + m := ⟨(q - 64 * k).toNat, by omega⟩
        exact word_zero hf (j := j) (by omega) (by omega) hw he
  · obtain ⟨s1, s2⟩ := s
    obtain ⟨h1, h2⟩ := hs
    simp only at h1 h2 ⊢
    subst h1
    refine ifP_dec (fun h => by omega) (fun _ => ifP_pos rfl ?_)
    rw [nextS_none] at hQ
    · exact hQ
    · intro q hq
      rcases Int.lt_or_le q (64 * (f.length : Int)) with h | h
      · exact h2 q h hq
      · exact hasF_over h
theorem nextS_neg {f : List Int} {n : Int} (h0 : 0 ≤ n) : nextS f n < 0 ↔ ∀ i ∈ listF f, i < n := by
  unfold nextS
  cases hc : (listF f).find? fun i => decide (n ≤ i) with
  | none =>
    rw [List.find?_eq_none] at hc
    simp only [Option.getD_none]
    exact ⟨fun _ i hi => by have := hc i hi; simp at this; omega, fun _ => by omega⟩
  | some q =>
    have hq := List.find?_some hc
    have hm := List.mem_of_find?_eq_some hc
    have hq := of_decide_eq_true hq
    simp only [Option.getD_some]
    exact ⟨fun h => by omega, fun h => by have := h q hm; omega⟩
theorem flags_Right_ok {f : List Int} {n : Int} {Q : Bool → Prop} (hf : okF f) (hl : f.length ≤ 1000000) (hQ : Q (decide (rightF f n))) : flags_Right f n Q := by
  unfold flags_Right
  have hno : ¬ rightF f n → Q false := fun h => by rwa [decide_eq_false h] at hQ
  refine ifP_dec (fun h0 => ifP_dec (fun h1 => flags_words_ok (ifP_eq (fun h2 => flags_Next_ok hf hl ?_) (fun h2 => hno fun h => h2 (by rw [h.2.1])))) (fun h1 => hno fun h => h1 h.1.2)) (fun h0 => hno fun h => h0 h.1.1)
  have : decide (nextS f n < 0) = decide (rightF f n) := decide_eq_decide.2 (by
    rw [nextS_neg h0]
    exact ⟨fun h => ⟨⟨h0, h1⟩, by omega, h⟩, fun h => h.2.2⟩)
  rw [this]; exact hQ
theorem devec_Right_ok {v : Vec} {Q : Bool → Prop} (h : VecP v) (hQ : Q true) : devec_Right (denS v) Q := by
  unfold devec_Right
  have h0 := h.n0; have h1 := h.n1
  have hN : (denS v).N = v.N := rfl
  have hVl : ((denS v).Vals.length : Int) = v.N := by simp [denS, valsS]; omega
  refine flags_Right_ok (den_okF v) (by have := den_len v; omega) ?_
  rw [show decide (rightF (denS v).Has (denS v).N) = true from decide_eq_true (ofF_right ⟨h0, h1⟩ _)]
  refine ifP_neg rfl (ifP_ne (fun h' => absurd hVl h') (fun _ => ?_))
  refine scan_intro (denS v).Vals.length (by omega) (fun _ => True) trivial (fun k next hk _ hn => ?_) (fun next _ => ?_)
  · refine ifP_dec (fun _ => idxP_at0 (by omega) (by omega) (ifP_ne (fun h' => flags_Has_ok (den_okF v) (by unfold inI; omega) (ifP_not (fun hb => ?_) (fun _ => hn trivial))) (fun _ => hn trivial))) (fun h' => by omega)
    rw [den_has h] at hb
    have : at0 (denS v).Vals (k : Int) = (lkI v.Items k).getD 0 := at0_valsS (by omega) (by omega)
    rw [this] at h'
    cases hlk : lkI v.Items (k : Int) with
    | none => rw [hlk] at h'; exact absurd rfl h'
    | some y => rw [hlk] at hb; cases hb
  · exact ifP_dec (fun h' => by omega) (fun _ => hQ)
theorem pull_sure_ok {rows cols : Int} {ts : List Triple} {v : Vec} {Q : Rows × Dense → Prop} (h : Canon rows cols ts) (hv : VecP v) (hQ : Q (builtS rows cols ts, denS v)) : pull_sure (builtS rows cols ts) (denS v) Q := by
  unfold pull_sure
  refine join_intro (fun t => (⟨t.1, t.2.1, t.2.2.1, t.2.2.2.1, t.2.2.2.2⟩ : Rows) = builtS rows cols ts) ?_ ?_
  · rintro ⟨t1, t2, t3, t4, t5⟩ ht
    simp only at ht ⊢
    rw [ht]
    exact devec_Right_ok hv (ifP_neg rfl hQ)
  · intro k hk
    refine right_ok h.sml ?_
    rw [decide_eq_true h.right]
    exact ifP_neg rfl (hk _ rfl)
theorem pull_row_ok {r rows cols : Int} {ts : List Triple} {v : Vec} {i : Nat} {Q : Wide × Bool → Prop} (h : Canon rows cols ts) (ht : ∀ t ∈ ts, inI t.Val) (hv : VecP v) (hn : v.N = cols) (hvv : ∀ y ∈ v.Items, inI y.Val) (hi : (i : Int) < rows)
    (hQ : Q (((rowW r cols.toNat (lkI (rowI ts i)) (lkI v.Items)).getD ⟨0, 0⟩), (rowW r cols.toNat (lkI (rowI ts i)) (lkI v.Items)).isSome)) : pull_row r (builtS rows cols ts) i (denS v) Q := by
  unfold pull_row pull_adder_6fc pull_adder_2_cdb
  have hr1 := h.r1; have hc1 := h.c1; have hlen := h.len
  obtain ⟨lo, hi', sg⟩ := h.seg i
  have e1 : w64 ((i : Int) + 1) = (i + 1 : Nat) := by rw [w64_id (by omega) (by omega)]; omega
  rw [e1]
  refine start_idx (by omega) ?_
  rw [sg.lo]
  have g1 := sg.le; have g2 := sg.len
  have hrow : rowI ts i = ((ts.take hi').drop lo).map itS := by rw [sg.eq]; simp [rowI]
  have hin : IncI (rowI ts i) ∧ ∀ x ∈ rowI ts i, 0 ≤ x.At ∧ x.At < cols.toNat := by
    rw [rowI_colI ts (by omega)]
    refine ⟨colI_inc h.srt _, fun x hx => ?_⟩
    have := h.inn _ (colI_mem.1 hx); unfold inT at this; simp only at this; omega
  have hfold := row_fold (r := r) (B := lkI v.Items) hin.1 hin.2
  refine range_intro (s0 := (none : Option Wide)) (fun (s : Option Wide) k => (s.isSome, (s.getD ⟨0, 0⟩).Hi, (s.getD ⟨0, 0⟩).Lo, k)) lo hi' (by omega) (fun p acc => acc = (((ts.take p).drop lo).map itS).foldl (stepI r (lkI v.Items)) none) (by omega) (by simp) (fun p acc next' hp1 hp2 hacc hn' => ?_) (fun acc next' hacc => ?_)
  · dsimp only
    have hpl : p < ts.length := by omega
    have hok : ∀ w, acc = some w → okW w := by subst hacc; exact foldI_okW r _ _ none (fun w hw => by cases hw)
    have hstep : (((ts.take (p + 1)).drop lo).map itS).foldl (stepI r (lkI v.Items)) none = stepI r (lkI v.Items) acc (itS ts[p]) := by
      rw [ext_step hp1 hpl, List.map_append, List.foldl_append, ← hacc]; rfl
    have hint := h.inn _ (List.getElem_mem hpl)
    unfold inT at hint
    refine start_idx (by omega) ?_
    rw [sg.hi]
    refine ifP_dec (fun _ => ?_) (fun h => by omega)
    refine idxP_intro (by omega) (x := ts[p].Col) (by simp [builtS, hpl]) (flags_Has_ok (den_okF v) (by unfold inI; omega) ?_)
    rw [den_has hv]
    have hval : at0 (denS v).Vals ts[p].Col = (lkI v.Items ts[p].Col).getD 0 := at0_valsS hint.2.2.1 (by omega)
    have hVl : ((denS v).Vals.length : Int) = v.N := by have := hv.n0; simp [denS, valsS]; omega
    cases hB' : lkI v.Items ts[p].Col with
    | none =>
      refine ifP_neg rfl (hn' acc ?_)
      rw [hstep]; unfold stepI; simp only [itS, hB']
    | some x =>
      rw [hB'] at hval
      refine ifP_pos rfl (idxP_intro (by omega) (x := ts[p].Val) (by simp [builtS, hpl]) (idxP_at0 hint.2.2.1 (by omega) ?_))
      rw [hval]
      refine ring_Mul_ok (ht _ (List.getElem_mem hpl)) (hvv _ (lkI_mem hB')) ?_
      have hst : stepI r (lkI v.Items) acc (itS ts[p]) = cmb r acc (some (mulW r ts[p].Val x)) := by unfold stepI; simp only [itS, hB']
      unfold pull_adder_1_b72
      cases acc with
      | none => exact ifP_neg rfl (hn' (some (mulW r ts[p].Val x)) (by rw [hstep, hst]; rfl))
      | some w => exact ifP_pos rfl (ring_Add_ok (hok w rfl) (mulW_okW _ _ _) (hn' (some (addW r w (mulW r ts[p].Val x))) (by rw [hstep, hst]; rfl)))
  · dsimp only
    refine start_idx (by omega) ?_
    rw [sg.hi]
    refine ifP_dec (fun h => by omega) (fun _ => ?_)
    rw [← hrow, hfold] at hacc
    subst hacc
    exact hQ
theorem pull_Sums_ok {r rows cols : Int} {ts : List Triple} {v : Vec} {f : List Int} {o : Bool} {Q : List Sum × Int → Prop} (h : Canon rows cols ts) (ht : ∀ t ∈ ts, inI t.Val) (hv : VecP v) (hvv : ∀ y ∈ v.Items, inI y.Val)
    (hf : okF f) (hQ : Q (sumsR r rows cols ts v f o)) : pull_Sums r (builtS rows cols ts) (denS v) f o Q := by
  unfold pull_Sums
  unfold sumsR at hQ
  have hr0 := h.r0; have hr1 := h.r1
  refine pull_sure_ok h hv (ring_Is_ok (ifP_not (fun h' => ?_) (fun h' => ifP_ne (fun hne => ?_) (fun he => ?_))))
  · rw [if_pos (of_decide_eq_false h')] at hQ; exact hQ
  · rw [if_neg (by have := of_decide_eq_true h'; omega), if_pos (show v.N ≠ cols from hne)] at hQ; exact hQ
  have hr := of_decide_eq_true h'
  have he : v.N = cols := he
  rw [if_neg (by omega), if_neg (by omega)] at hQ
  unfold pull_asked_064 pull_asked_1_839
  have hB : (builtS rows cols ts).Rows = rows := rfl
  refine range_intro (s0 := (([] : List Sum), (0 : Nat))) (fun (s : List Sum × Nat) i => (s.1, i, s.2)) 0 rows.toNat (by omega) (fun m s => s.2 = 0 ∧ s.1 = sumsS r m cols.toNat f o (fun i => lkI (rowI ts i)) (lkI v.Items)) (by omega) ⟨rfl, by simp [sumsS]⟩ (fun i s next _ hi hs hn => ?_) (fun s next hs => ?_)
  · obtain ⟨s, s2⟩ := s
    obtain ⟨h2, hs⟩ := hs
    simp only at h2 hs ⊢
    subst h2
    have hsl : s.length ≤ i := by subst hs; exact (sumsS_prop r cols.toNat f o (fun i => lkI (rowI ts i)) (lkI v.Items) i).2.1
    have hsucc := sumsS_succ r i cols.toNat f o (fun i => lkI (rowI ts i)) (lkI v.Items)
    rw [← hs] at hsucc
    refine ifP_dec (fun _ => flags_Has_ok hf (by unfold inI; omega) (ifP_not (fun hb => ⟨rfl, ?_⟩) (fun hb => hn (s, 0) ⟨rfl, ?_⟩))) (fun h' => by rw [hB] at h'; omega)
    · have hask : askF f o i = true := by unfold askF; rw [bne, hb]; rfl
      rw [if_pos hask] at hsucc
      refine pull_row_ok h ht hv he hvv (by omega) ?_
      cases hw : rowW r cols.toNat (lkI (rowI ts i)) (lkI v.Items) with
      | none =>
        refine ifP_neg rfl (ifP_neg rfl (hn (s, 0) ⟨rfl, ?_⟩))
        simp only
        rw [hsucc, hw]; simp
      | some w =>
        refine ifP_pos rfl (appP_intro (by simp; omega) (ifP_neg rfl (hn (s ++ [⟨i, w⟩], 0) ⟨rfl, ?_⟩)))
        simp only
        rw [hsucc, hw]; rfl
    · have hno : ¬ askF f o i = true := by unfold askF; rw [bne, hb]; simp
      simp only
      rw [hsucc, if_neg hno]; simp
  · obtain ⟨s, s2⟩ := s
    obtain ⟨h2, hs⟩ := hs
    simp only at h2 hs ⊢
    subst h2
    refine ifP_dec (fun h' => by rw [hB] at h'; omega) (fun _ => ⟨rfl, ?_⟩)
    subst hs; exact hQ
theorem PushPulls_ok (a0 : Law13_Task) (h0 : okLaw13_Task a0) : law14_PushPulls a0 (fun r => r = true) := by
  unfold law14_PushPulls
  refine right_is (task_mat_ok h0 fun M hM hMv => task_vec_ok h0 h0.2.2.2.1.1 fun v hvn hvp hvv => task_rows_ok h0 fun f hf => ?_)
  have hT := turn_canon hM
  have hTv := turnT_vals hM hMv
  have hb := ringS_b a0.Ring
  have hl : v.Items.length ≤ 1000000000 := by have := hvp.len; omega
  have hxv : ∀ y ∈ (sureV v).Items, inI y.Val := by rw [sureV_id hvp]; exact hvv
  refine dcsc_of_ok hM.sml (sure_built hM) (fun _ => rfl) (fun h => absurd hM.right h) hM ?_
  refine push_Sums_ok hT.smlC (sureC_col hT) hT hTv hl hxv hf (devec_Of_ok hl ?_)
  rw [sureV_id hvp]
  refine pull_Sums_ok hM hMv hvp hvv hf (live14_ok (ifP_pos rfl ?_))
  have e1 : sumsR (ringS a0.Ring) (sizeS a0.Size.1) (sizeS a0.Size.2) M v f a0.Others = sumsP (ringS a0.Ring) (sizeS a0.Size.1) (sizeS a0.Size.2) (turnT (sizeS a0.Size.2) M) v f a0.Others := by
    rw [← sums_turn hT, turn_turn hM]
  rw [e1]
  have hp := sumsP_prop (ringS a0.Ring) (sizeS a0.Size.1) (sizeS a0.Size.2) (turnT (sizeS a0.Size.2) M) v f a0.Others (by have := sizeS_b a0.Size.1; omega)
  have e2 : (sumsP (ringS a0.Ring) (sizeS a0.Size.1) (sizeS a0.Size.2) (turnT (sizeS a0.Size.2) M) v f a0.Others).2 = 0 := by
    unfold sumsP
    rw [if_neg (by omega), if_neg (by omega)]
  refine ifP_pos (by rw [e2]; rfl) (ifP_pos (by rw [e2]; rfl) (eqSum_ok (by omega) (by simp)))
end Go.Proofs.YtdfiinkpdaggeaaGreat
