import Derived.Test.YtjabmpfcpekpdaaGreatPushE
/- What statements make of what they are handed: matrices and vectors that can be, of values of a ring. -/
namespace Go.Proofs.YtjabmpfcpekpdaaGreat
open Go Go.Fw
set_option linter.unusedVariables false
set_option linter.unusedSimpArgs false
def sizeS (x : Int) : Int := x % 40
theorem size_is {x : Int} {Q : Int → Prop} (h : inR .u8 x) (hQ : Q (sizeS x)) : law07_Size x Q := by
  unfold law07_Size
  have hb := bounds_u8 h
  rw [w64_id (by omega) (by omega), Int.tmod_eq_emod_of_nonneg (by omega)]
  exact hQ
theorem sizeS_b (x : Int) : 0 ≤ sizeS x ∧ sizeS x ≤ 39 := by unfold sizeS; omega
theorem some_is {a0 : Int × Int} {ts : List Triple} {Q : Rows → Prop} (h0 : inR .u8 a0.1 ∧ inR .u8 a0.2) (hv : ∀ t ∈ ts, okTriple t)
    (hQ : ∀ T, Canon (sizeS a0.1) (sizeS a0.2) T → (∀ t ∈ T, inI t.Val) → Q (builtS (sizeS a0.1) (sizeS a0.2) T)) : law07_Some a0 ts Q := by
  unfold law07_Some
  have r0 := sizeS_b a0.1; have c0 := sizeS_b a0.2
  refine size_is h0.1 (size_is h0.2 (few_ok fun ys hl hm => ?_))
  refine range_intro (fun (s : List Triple) i => (s, i)) 0 ys.length (by omega) (fun i s => s.length ≤ i ∧ ∀ t ∈ s, inI t.Val) (by omega) (s0 := []) ⟨by simp, by simp⟩ (fun i s next _ hi hm2 hn => ?_) (fun s next hm2 => ?_)
  · obtain ⟨hs1, hs2⟩ := hm2
    dsimp only
    refine ifP_dec (fun _ => ?_) (fun h => by omega)
    have hskip : next (s, w64 ((i : Int) + 1)) := hn s ⟨by omega, hs2⟩
    refine idxP_nat hi (ifP_dec (fun _ => hskip) (fun _ => ifP_dec (fun _ => hskip) (fun _ => ifP_eq (fun _ => hskip) (fun g1 => ifP_eq (fun _ => hskip) (fun g2 => ⟨g1, g2, ?_⟩)))))
    have hx : inI ys[i].Val := inR_i64 (hv _ (hm _ (List.getElem_mem hi))).2.2
    refine appP_intro (by simp only [List.length_singleton]; omega) (hn _ ⟨by simp; omega, fun t ht => ?_⟩)
    rcases List.mem_append.1 ht with ht | ht
    · exact hs2 t ht
    · simp at ht; subst ht; exact hx
  · obtain ⟨hs1, hs2⟩ := hm2
    dsimp only
    refine ifP_dec (fun h => by omega) (fun _ => ?_)
    refine ref_Of_ok (by omega) hs2 ?_
    rcases of_cases (r := 1) (rows := sizeS a0.1) (cols := sizeS a0.2) hs2 with ⟨h1, h2⟩ | ⟨T, hT, he, _, _, _, _, hTe, _⟩
    · refine ifP_pos (by simpa using h2) ?_
      unfold ref07_Empty
      have e : w64 (sizeS a0.1 + 1) = sizeS a0.1 + 1 := w64_id (by omega) (by omega)
      rw [e]
      refine ⟨by omega, by omega, ?_⟩
      have := hQ [] ⟨r0.1, by omega, c0.1, by omega, by simp, .nil, by simp⟩ (by simp)
      unfold builtS at this
      have e2 : (sizeS a0.1 + 1).toNat = (sizeS a0.1).toNat + 1 := by omega
      rw [e2, rep_range]
      exact this
    · rw [he]
      refine ifP_neg (by simp) (hQ T hT fun t ht => ?_)
      rw [hTe] at ht
      unfold finS at ht
      split at ht
      · obtain ⟨p, _, rfl⟩ := List.mem_map.1 ht
        exact nar_inI p.2
      · simp at ht
/-! ### Values of a ring -/
def valR (r x : Int) : Int := if r = 5 then x else if r = 2 then bnd .i64 x 1 else if (bnd .i64 x 4611686018427387903).tmod 5 = 0 then 4611686018427387904 else bnd .i64 x 4611686018427387903
def facR (r x : Int) : Int := if r = 5 then x.tmod 2147483648 else valR r x
theorem bnd_inI (x y : Int) : inI (bnd .i64 x y) := by
  unfold bnd inI
  show -9223372036854775808 ≤ w64 _ ∧ w64 _ ≤ 9223372036854775807
  rw [w64_eq]; omega
theorem valR_inI {r x : Int} (h : inI x) : inI (valR r x) := by
  unfold valR
  repeat' split
  · exact h
  · exact bnd_inI _ _
  · unfold inI; omega
  · exact bnd_inI _ _
theorem facR_inI {r x : Int} (h : inI x) : inI (facR r x) := by
  unfold facR
  split
  · unfold inI at *
    rcases Int.lt_or_le x 0 with h' | h'
    · have := Int.neg_tmod (a := -x) (b := 2147483648)
      rw [Int.neg_neg] at this
      rw [this, Int.tmod_eq_emod_of_nonneg (by omega)]; omega
    · rw [Int.tmod_eq_emod_of_nonneg h']; omega
  · exact valR_inI h
theorem value_ok {r x : Int} {Q : Int → Prop} (hQ : Q (valR r x)) : law02_Value r x Q := by
  unfold law02_Value; unfold valR at hQ
  refine ifP_eq (fun h => ?_) (fun h => ifP_eq (fun h2 => ?_) (fun h2 => ifP_eq (fun h3 => ?_) (fun h3 => ?_)))
  · rwa [if_pos h] at hQ
  · rwa [if_neg h, if_pos h2] at hQ
  · rwa [if_neg h, if_neg h2, if_pos h3] at hQ
  · rwa [if_neg h, if_neg h2, if_neg h3] at hQ
theorem factor_ok {r x : Int} {Q : Int → Prop} (hQ : Q (facR r x)) : law02_Factor r x Q := by
  unfold law02_Factor; unfold facR at hQ
  refine ifP_eq (fun h => ?_) (fun h => value_ok ?_)
  · rwa [if_pos h] at hQ
  · rwa [if_neg h] at hQ
def ringS (r : Int) : Int := if r < 1 ∨ 5 < r then 1 else r
theorem right_is {r : Int} {Q : Int → Prop} (hQ : Q (ringS r)) : law13_Right r Q := by
  unfold law13_Right; unfold ringS at hQ
  refine ifP_dec (fun h => ?_) (fun h => ifP_dec (fun h2 => ?_) (fun h2 => ?_))
  · rwa [if_pos (.inl h)] at hQ
  · rwa [if_pos (.inr h2)] at hQ
  · rwa [if_neg (by omega)] at hQ
def vmap (g : Int → Int) (t : Triple) : Triple := ⟨t.Row, t.Col, g t.Val⟩
theorem vmap_canon {rows cols : Int} {T : List Triple} (h : Canon rows cols T) (g : Int → Int) : Canon rows cols (T.map (vmap g)) where
  r0 := h.r0
  r1 := h.r1
  c0 := h.c0
  c1 := h.c1
  len := by rw [List.length_map]; exact h.len
  srt := by unfold Srt; rw [List.pairwise_map]; exact h.srt
  inn := by
    intro t ht
    obtain ⟨x, hx, rfl⟩ := List.mem_map.1 ht
    exact h.inn x hx
theorem vmap_built (rows cols : Int) (T : List Triple) (g : Int → Int) : builtS rows cols (T.map (vmap g)) = { builtS rows cols T with Val := T.map fun t => g t.Val } := by
  unfold builtS
  have e : below (T.map (vmap g)) = below T := by
    funext j
    unfold below
    rw [List.countP_map]; rfl
  rw [e, List.map_map, List.map_map]; rfl
theorem task_mat2 {a : Law13_Task} {Q : Rows → Prop} (h1 : inR .u8 a.Size.1 ∧ inR .u8 a.Size.2) (h2 : ∀ t ∈ a.L, okTriple t) (hQ : ∀ T, Canon (sizeS a.Size.1) (sizeS a.Size.2) T → (∀ t ∈ T, inI t.Val) → Q (builtS (sizeS a.Size.1) (sizeS a.Size.2) T)) : law13_Task_Matrix a Q := by
  unfold law13_Task_Matrix
  refine some_is h1 h2 fun T hT hv => right_is ?_
  have hTl := hT.len
  have hVl : (builtS (sizeS a.Size.1) (sizeS a.Size.2) T).Val = T.map (·.Val) := rfl
  refine map_loop (xs := (builtS (sizeS a.Size.1) (sizeS a.Size.2) T).Val) (f := facR (ringS a.Ring)) (by rw [hVl, List.length_map]; omega) (fun i s next hi hs hn => ?_) (fun next s hs => ?_)
  · have hi' : i < T.length := by rw [hVl, List.length_map] at hi; exact hi
    exact ifP_dec (fun _ => idxP_nat hi (factor_ok (appP_intro (by simp; omega) hn))) (fun h => by omega)
  · refine ifP_dec (fun h => by omega) (fun _ => ?_)
    have := hQ (T.map (vmap (facR (ringS a.Ring)))) (vmap_canon hT _) (fun t ht => by
      obtain ⟨x, hx, rfl⟩ := List.mem_map.1 ht
      exact facR_inI (hv x hx))
    rw [vmap_built] at this
    rw [hVl, List.map_map] at hs
    subst hs
    exact this
/-! ### Vectors -/
theorem inR_small {x : Int} (h0 : 0 ≤ x) (h1 : x ≤ 39) : inR .u8 x := by
  have : ∀ n : Fin 40, inR .u8 (n.val : Int) := by unfold inR; decide
  have := this ⟨x.toNat, by omega⟩
  simpa only [Int.toNat_of_nonneg h0] using this
end Go.Proofs.YtjabmpfcpekpdaaGreat

/- A matrix times a matrix, at the places of a third: what each place comes to. -/
namespace Go.Proofs.YtjabmpfcpekpdaaGreat
open Go Go.Fw
set_option linter.unusedVariables false
set_option linter.unusedSimpArgs false
def bAt (B : List Triple) (c : Int) (k : Int) : Option Int := lkI (rowI B k) c
def cellW (r : Int) (A B : List Triple) (i c : Int) : Option Wide := (rowI A i).foldl (stepI r (bAt B c)) none
def cellO (r : Int) (A B : List Triple) (t : Triple) : Option Cell := (cellW r A B t.Row t.Col).map fun w => ⟨t.Row, t.Col, w⟩
def cellsS (r : Int) (A B M : List Triple) : List Cell := M.filterMap (cellO r A B)
/-! ### The parts of the program -/
theorem gemm_part_ok {rows cols : Int} {ts : List Triple} {i : Nat} {Q : List Int × List Int → Prop} (h : Canon rows cols ts) (hi : (i : Int) < rows) (hQ : Q ((segS ts i).map (·.Col), (segS ts i).map (·.Val))) : gemm_part (builtS rows cols ts) i Q := by
  unfold gemm_part
  have hr := h.r1
  obtain ⟨lo, hi', s⟩ := h.seg i
  have e1 : w64 ((i : Int) + 1) = (i + 1 : Nat) := by rw [w64_id (by omega) (by omega)]; omega
  rw [e1]
  refine start_idx (by omega) (start_idx (by omega) ?_)
  rw [s.lo, s.hi]
  have h1 := s.le; have h2 := s.len
  have hc : (builtS rows cols ts).Col.length = ts.length := by simp [builtS]
  have hv : (builtS rows cols ts).Val.length = ts.length := by simp [builtS]
  refine ⟨by omega, by omega, by omega, by omega, by omega, by omega, ?_⟩
  simp only [Int.toNat_natCast, builtS, ← List.map_take, ← List.map_drop, s.eq]
  exact hQ
theorem gemm_sure_ok {l : List Rows} {Q : List Rows → Prop} (hl : l.length ≤ 100) (h : ∀ a ∈ l, small a ∧ RightP a) (hQ : Q l) : gemm_sure l Q := by
  unfold gemm_sure
  refine range_intro (fun (s : List Rows) i => (s, i)) 0 l.length (by omega) (fun i s => s = l.take i) (by omega) rfl (fun i s next _ hi hm hn => ?_) (fun s next hm => ?_)
  · subst hm
    have hx := h _ (List.getElem_mem hi)
    refine ifP_dec (fun _ => idxP_nat hi (right_ok hx.1 ?_)) (fun h => by omega)
    rw [decide_eq_true hx.2]
    refine ifP_neg rfl (appP_intro (by simp; omega) (hn _ ?_))
    rw [List.take_succ_eq_append_getElem hi]
  · subst hm
    rw [List.take_length]
    exact ifP_dec (fun h => by omega) (fun _ => hQ)
theorem seg_inc {ts : List Triple} (h : Srt ts) (i : Nat) : IncI ((segS ts i).map itS) := by
  unfold IncI segS
  rw [List.pairwise_map]
  refine List.Pairwise.imp_of_mem ?_ (List.Pairwise.filter _ h)
  intro a b ha hb hab
  have h1 := of_decide_eq_true (List.mem_filter.1 ha).2
  have h2 := of_decide_eq_true (List.mem_filter.1 hb).2
  unfold ltK key at hab
  simp only [itS]
  simp only at hab
  omega
/-- Sums by columns as a map: of those that are asked. -/
def MapOk (m : List (Int × Wide)) (asked : Int → Bool) (f : Int → Option Wide) : Prop := (∀ c, asked c = true → mget c m = f c) ∧ ∀ c w, mget c m = some w → okW w
theorem lkP_of {l : List (Int × Bool)} {k : Int} {C : Bool → Prop} (h : C ((mget k l).getD false)) : lkP l k false C := lkP_intro h
theorem stepI_miss {r : Int} {B : Int → Option Int} {acc : Option Wide} {y : Item} (h : B y.At = none) : stepI r B acc y = acc := by unfold stepI; rw [h]
theorem stepI_hit {r : Int} {B : Int → Option Int} {acc : Option Wide} {y : Item} {x : Int} (h : B y.At = some x) : stepI r B acc y = cmb r acc (some (mulW r y.Val x)) := by unfold stepI; rw [h]
theorem gemm_row_ok {r ra ca rb cb : Int} {A B : List Triple} {asked : List (Int × Bool)} {i : Nat} {Q : List (Int × Wide) → Prop} (hA : Canon ra ca A) (hB : Canon rb cb B) (hab : ca ≤ rb) (hi : (i : Int) < ra) (hr : 1 ≤ r ∧ r ≤ 5) (hvA : ∀ t ∈ A, inI t.Val) (hvB : ∀ t ∈ B, inI t.Val)
    (hQ : ∀ m, MapOk m (fun c => (mget c asked).getD false) (cellW r A B i) → Q m) : gemm_row_3a1 asked r (builtS ra ca A) (builtS rb cb B) i Q := by
  unfold gemm_row_3a1
  refine gemm_part_ok hA hi ?_
  have hsl := seg_len_le A i
  have hAl := hA.len
  have hBl := hB.len
  have hrow : ∀ t ∈ segS A i, (0 ≤ t.Col ∧ t.Col < ca) ∧ inI t.Val := fun t ht => by
    have hm := (List.mem_filter.1 ht).1
    have := hA.inn t hm
    unfold inT at this
    exact ⟨⟨this.2.2.1, this.2.2.2⟩, hvA t hm⟩
  unfold cellW at hQ
  rw [show rowI A (i : Int) = (segS A i).map itS from rfl] at hQ
  generalize segS A i = xs at hQ hsl hrow
  refine range_intro (fun (s : List (Int × Wide)) k => (s, k)) 0 xs.length (by omega) (fun k m => MapOk m (fun c => (mget c asked).getD false) fun c => ((xs.take k).map itS).foldl (stepI r (bAt B c)) none) (by omega) ⟨fun c _ => rfl, fun c w h => by simp [mget] at h⟩ (fun k m next _ hk hm hn => ?_) (fun m next hm => ?_)
  · dsimp only
    have hx := hrow _ (List.getElem_mem hk)
    refine ifP_dec (fun _ => idxP_intro (by omega) (x := xs[k].Col) (by simp [hk]) ?_) (fun h => by simp at h; omega)
    obtain ⟨c0, hc0⟩ : ∃ c0 : Nat, xs[k].Col = (c0 : Int) := ⟨xs[k].Col.toNat, by omega⟩
    rw [hc0]
    refine gemm_part_ok hB (by omega) ?_
    have hinc := seg_inc hB.srt c0
    have hsl2 := seg_len_le B c0
    have hrow2 : ∀ t ∈ segS B c0, inI t.Val := fun t ht => hvB t (List.mem_filter.1 ht).1
    have hbat : ∀ c, bAt B c xs[k].Col = lkI ((segS B c0).map itS) c := fun c => by unfold bAt rowI; rw [hc0]; rfl
    generalize segS B c0 = ys at hinc hsl2 hrow2 hbat
    -- how it is behind so many of the row's items
    let F : Nat → Int → Option Wide := fun j c => match lkI ((ys.take j).map itS) c with
      | some b => cmb r (((xs.take k).map itS).foldl (stepI r (bAt B c)) none) (some (mulW r xs[k].Val b))
      | none => ((xs.take k).map itS).foldl (stepI r (bAt B c)) none
    have hF0 : F 0 = fun c => ((xs.take k).map itS).foldl (stepI r (bAt B c)) none := rfl
    refine range_intro (fun (s : List (Int × Wide)) j => (s, j)) 0 ys.length (by omega) (fun j m => MapOk m (fun c => (mget c asked).getD false) (F j)) (by omega) (by rw [hF0]; exact hm) (fun j m' nx _ hj hm' hnx => ?_) (fun m' nx hm' => ?_)
    · dsimp only
      have htk : (ys.take (j + 1)).map itS = (ys.take j).map itS ++ [itS ys[j]] := take_map hj
      have hFs : ∀ c, F (j + 1) c = if c = ys[j].Col then F (j + 1) c else F j c := fun c => by
        by_cases e : c = ys[j].Col
        · rw [if_pos e]
        · rw [if_neg e]
          have : lkI ((ys.take (j + 1)).map itS) c = lkI ((ys.take j).map itS) c := by
            rw [htk, lkI_append]
            have h0 : lkI [itS ys[j]] c = none := lkI_none fun s hs => by simp only [List.mem_singleton] at hs; subst hs; exact fun h => e h.symm
            rw [h0]; split <;> simp_all
          show (match lkI ((ys.take (j + 1)).map itS) c with | some b => _ | none => _) = _
          rw [this]
      have hnew : lkI ((ys.take j).map itS) ys[j].Col = none := lkI_none fun s hs => by
        obtain ⟨t, ht, rfl⟩ := List.mem_map.1 hs
        obtain ⟨q, hq, rfl⟩ := List.getElem_of_mem ht
        rw [List.length_take] at hq
        rw [List.getElem_take]
        have hlen : (ys.map itS).length = ys.length := by simp
        have := hinc.at (i := q) (j := j) (by omega) (by omega)
        simp only [List.getElem_map] at this
        intro h
        simp only [itS] at this h
        omega
      have hold : F j ys[j].Col = ((xs.take k).map itS).foldl (stepI r (bAt B ys[j].Col)) none := by
        show (match lkI ((ys.take j).map itS) ys[j].Col with | some b => _ | none => _) = _
        rw [hnew]
      have hhit : F (j + 1) ys[j].Col = cmb r (F j ys[j].Col) (some (mulW r xs[k].Val ys[j].Val)) := by
        rw [hold]
        have : lkI ((ys.take (j + 1)).map itS) ys[j].Col = some ys[j].Val := by rw [htk, lkI_append, hnew]; simp [lkI_cons, itS]
        show (match lkI ((ys.take (j + 1)).map itS) ys[j].Col with | some b => _ | none => _) = _
        rw [this]
      have hy := hrow2 _ (List.getElem_mem hj)
      refine ifP_dec (fun _ => idxP_intro (by omega) (x := ys[j].Col) (by simp [hj]) (lkP_of ?_)) (fun h => by simp at h; omega)
      cases ha : (mget ys[j].Col asked).getD false with
      | false =>
        refine ifP_pos rfl (hnx _ ⟨fun c hc => ?_, hm'.2⟩)
        rw [hFs, if_neg (fun e => by subst e; simp only at hc; rw [ha] at hc; cases hc)]
        exact hm'.1 c hc
      | true =>
        have hcur := hm'.1 ys[j].Col ha
        refine ifP_neg rfl (idxP_intro (by omega) (x := xs[k].Val) (by simp [hk]) (idxP_intro (by omega) (x := ys[j].Val) (by simp [hj]) (ring_Mul_ok hx.2 hy (lk2P_intro (fun w hw => ?_) (fun hw => ?_)))))
        · refine ifP_pos rfl (ring_Add_ok (hm'.2 _ _ hw) (mulW_okW _ _ _) (hnx _ ⟨fun c hc => ?_, fun c u hu => ?_⟩))
          · by_cases e : c = ys[j].Col
            · subst e; rw [mget_mput_same, hhit, ← hcur, hw]; rfl
            · rw [mget_mput_other e, hFs, if_neg e]; exact hm'.1 c hc
          · by_cases e : c = ys[j].Col
            · subst e; rw [mget_mput_same] at hu; cases hu; exact addW_okW (hm'.2 _ _ hw) (mulW_okW _ _ _)
            · rw [mget_mput_other e] at hu; exact hm'.2 c u hu
        · refine ifP_neg rfl (hnx _ ⟨fun c hc => ?_, fun c u hu => ?_⟩)
          · by_cases e : c = ys[j].Col
            · subst e; rw [mget_mput_same, hhit, ← hcur, hw]; rfl
            · rw [mget_mput_other e, hFs, if_neg e]; exact hm'.1 c hc
          · by_cases e : c = ys[j].Col
            · subst e; rw [mget_mput_same] at hu; cases hu; exact mulW_okW _ _ _
            · rw [mget_mput_other e] at hu; exact hm'.2 c u hu
    · dsimp only
      refine ifP_dec (fun h => by simp at h) (fun _ => hn _ ⟨fun c hc => ?_, hm'.2⟩)
      rw [hm'.1 c hc, take_map hk]
      show F ys.length c = List.foldl (stepI r (bAt B c)) none ((xs.take k).map itS ++ [itS xs[k]])
      rw [List.foldl_append]
      show (match lkI ((ys.take ys.length).map itS) c with | some b => _ | none => _) = stepI r (bAt B c) _ (itS xs[k])
      rw [List.take_length, ← hbat c]
      unfold stepI
      simp only [itS]
      split <;> simp_all
  · dsimp only
    rw [List.take_length] at hm
    exact ifP_dec (fun h => by simp at h) (fun _ => hQ m hm)
end Go.Proofs.YtjabmpfcpekpdaaGreat

/- A matrix times a matrix: the program's cells, and the reference's. -/
namespace Go.Proofs.YtjabmpfcpekpdaaGreat
open Go Go.Fw
set_option linter.unusedVariables false
set_option linter.unusedSimpArgs false
def cellsR (r ra ca rb cb rm cm : Int) (A B M : List Triple) : List Cell × Int :=
  if ¬ (1 ≤ r ∧ r ≤ 5) then ([], 8) else if ca ≠ rb ∨ rm ≠ ra ∨ cm ≠ cb then ([], 4) else (cellsS r A B M, 0)
theorem cells_len (r : Int) (A B M : List Triple) : (cellsS r A B M).length ≤ M.length := List.length_filterMap_le _ _
theorem take_seg {T : List Triple} {i lo hi : Nat} (s : Seg T i lo hi) : T.take hi = T.take lo ++ segS T i := by
  have h := List.take_append_drop lo (T.take hi)
  rw [s.eq, List.take_take, Nat.min_eq_left s.le] at h
  exact h.symm
theorem gemm_Cells_ok {r ra ca rb cb rm cm : Int} {A B M : List Triple} {Q : List Cell × Int → Prop} (hA : Canon ra ca A) (hB : Canon rb cb B) (hM : Canon rm cm M) (hvA : ∀ t ∈ A, inI t.Val) (hvB : ∀ t ∈ B, inI t.Val)
    (hQ : Q (cellsR r ra ca rb cb rm cm A B M)) : gemm_Cells r (builtS ra ca A) (builtS rb cb B) (builtS rm cm M) Q := by
  unfold gemm_Cells
  refine gemm_sure_ok (by simp) (fun a ha => ?_) (idxP_intro (by omega) rfl (idxP_intro (by omega) rfl (idxP_intro (by omega) rfl (ring_Is_ok ?_))))
  · simp only [List.mem_cons, List.not_mem_nil, or_false] at ha
    rcases ha with rfl | rfl | rfl
    · exact ⟨hA.sml, hA.right⟩
    · exact ⟨hB.sml, hB.right⟩
    · exact ⟨hM.sml, hM.right⟩
  unfold cellsR at hQ
  refine ifP_not (fun h => ?_) (fun h => ?_)
  · rwa [if_pos (of_decide_eq_false h)] at hQ
  have hr := of_decide_eq_true h
  rw [if_neg (fun h => h hr)] at hQ
  have hbad (hb : ca ≠ rb ∨ rm ≠ ra ∨ cm ≠ cb) : Q ([], 4) := by rwa [if_pos hb] at hQ
  refine ifP_ne (fun h => hbad (.inl h)) (fun h1 => ifP_ne (fun h => hbad (.inr (.inl h))) (fun h2 => ifP_ne (fun h => hbad (.inr (.inr h))) (fun h3 => ?_)))
  have h1 : ca = rb := h1
  have h2 : rm = ra := h2
  have h3 : cm = cb := h3
  rw [if_neg (by omega)] at hQ
  have hrm := hM.r0; have hrm1 := hM.r1; have hMl := hM.len
  obtain ⟨n, hn⟩ : ∃ n : Nat, rm = (n : Int) := ⟨rm.toNat, by omega⟩
  have hR : (builtS rm cm M).Rows = (n : Int) := hn
  rw [hR]
  refine range_intro (fun (s : List Cell) i => (s, i)) 0 n (by omega) (fun i s => s = (M.take (below M i).toNat).filterMap (cellO r A B)) (by omega) (by rw [below_zero (fun t ht => (hM.inn t ht).1)]; rfl) (fun i s next _ hi hm hnx => ?_) (fun s next hm => ?_)
  · subst hm
    dsimp only
    obtain ⟨lo, hi', sg⟩ := hM.seg i
    have hlo := sg.lo; have hhi := sg.hi; have hle := sg.le; have hlen := sg.len
    have htk := take_seg sg
    rw [show (below M i).toNat = lo by omega]
    have hnx' := hnx ((M.take lo).filterMap (cellO r A B) ++ (segS M i).filterMap (cellO r A B)) (by rw [show (below M (i + 1)).toNat = hi' by omega, htk, List.filterMap_append])
    clear hnx
    have hrow : ∀ t ∈ segS M i, t.Row = (i : Int) := fun t ht => of_decide_eq_true (List.mem_filter.1 ht).2
    have hout : ((M.take lo).filterMap (cellO r A B)).length ≤ 65536 := by
      have := List.length_filterMap_le (cellO r A B) (M.take lo)
      rw [List.length_take] at this; omega
    have hsl := seg_len_le M i
    refine ifP_dec (fun _ => gemm_part_ok hM (by omega) ?_) (fun h => by omega)
    generalize (M.take lo).filterMap (cellO r A B) = out at hnx' hout ⊢
    generalize segS M i = xs at hnx' hrow hsl ⊢
    refine range_intro (fun (s : List (Int × Bool)) k => (s, k)) 0 xs.length (by omega) (fun k m => ∀ q (hq : q < xs.length), q < k → mget xs[q].Col m = some true) (by omega) (fun q hq h => by omega) (fun k m nx _ hk hm hnk => ?_) (fun m nx hm => ?_)
    · dsimp only
      refine ifP_dec (fun _ => idxP_intro (by omega) (x := xs[k].Col) (by simp [hk]) (hnk _ fun q hq hqk => ?_)) (fun h => by simp at h; omega)
      by_cases e : xs[q].Col = xs[k].Col
      · rw [e, mget_mput_same]
      · rw [mget_mput_other e]
        refine hm q hq ?_
        by_cases e2 : q = k
        · subst e2; exact absurd rfl e
        · omega
    · dsimp only
      refine ifP_dec (fun h => by simp at h) (fun _ => ?_)
      refine gemm_row_ok hA hB (by omega) (by omega) hr hvA hvB fun sums hsums => ?_
      refine range_intro (fun (s : List Cell) k => (s, k)) 0 xs.length (by omega) (fun k s => s = out ++ (xs.take k).filterMap (cellO r A B)) (by omega) (by simp) (fun k s ny _ hk hm2 hny => ?_) (fun s ny hm2 => ?_)
      · subst hm2
        dsimp only
        have hlk := List.length_filterMap_le (cellO r A B) (xs.take k)
        rw [List.length_take] at hlk
        have hask := hm k hk hk
        have hcur := hsums.1 xs[k].Col (by simp only [hask]; rfl)
        have hcell : cellO r A B xs[k] = (cellW r A B i xs[k].Col).map fun w => ⟨(i : Int), xs[k].Col, w⟩ := by
          unfold cellO; rw [hrow _ (List.getElem_mem hk)]
        have hstep : (xs.take (k + 1)).filterMap (cellO r A B) = (xs.take k).filterMap (cellO r A B) ++ (cellO r A B xs[k]).toList := by
          rw [List.take_succ_eq_append_getElem hk, List.filterMap_append]
          congr 1
        refine ifP_dec (fun _ => idxP_intro (by omega) (x := xs[k].Col) (by simp [hk]) (lk2P_intro (fun w hw => ?_) (fun hw => ?_))) (fun h => by simp at h; omega)
        · refine ifP_pos rfl (appP_intro (by simp; omega) (hny _ ?_))
          rw [hstep, hcell, ← hcur, hw, List.append_assoc]; rfl
        · refine ifP_neg rfl (hny _ ?_)
          rw [hstep, hcell, ← hcur, hw]; simp
      · subst hm2
        dsimp only
        rw [List.take_length]
        exact ifP_dec (fun h => by simp at h) (fun _ => hnx')
  · subst hm
    dsimp only
    refine ifP_dec (fun h => by omega) (fun _ => ?_)
    have := below_all hM
    rw [show rm.toNat = n by omega] at this
    rw [this, Int.toNat_natCast, List.take_length]
    exact hQ
theorem get_bAt (B : List Triple) {k c : Int} (hk : 0 ≤ k) : getS B k c = getO (bAt B c k) := by
  unfold getS bAt rowI segS
  induction B with
  | nil => rfl
  | cons t B ih =>
    rw [List.find?_cons, List.filter_cons]
    by_cases h1 : t.Row = k
    · rw [show decide (t.Row = ((k.toNat : Nat) : Int)) = true from decide_eq_true (by omega)]
      by_cases h2 : t.Col = c
      · rw [show decide (key t = (k, c)) = true from decide_eq_true (by unfold key; rw [h1, h2])]
        simp [lkI_cons, itS, h2, getO]
      · rw [show decide (key t = (k, c)) = false from decide_eq_false (fun h => h2 (by unfold key at h; simp_all))]
        simp only [if_true, List.map_cons, lkI_cons, itS]
        rw [if_neg (fun h => h2 h.symm)]
        exact ih
    · rw [show decide (t.Row = ((k.toNat : Nat) : Int)) = false from decide_eq_false (by omega), show decide (key t = (k, c)) = false from decide_eq_false (fun h => h1 (by unfold key at h; simp_all))]
      exact ih
theorem ref_Cells_ok {r ra ca rb cb rm cm : Int} {A B M : List Triple} {Q : List Cell × Int → Prop} (hA : Canon ra ca A) (hB : Canon rb cb B) (hM : Canon rm cm M) (hvA : ∀ t ∈ A, inI t.Val) (hvB : ∀ t ∈ B, inI t.Val)
    (hQ : Q (cellsR r ra ca rb cb rm cm A B M)) : ref15_Cells r (builtS ra ca A) (builtS rb cb B) (builtS rm cm M) Q := by
  unfold ref15_Cells
  refine ref_sure_ok hA.sml ?_
  rw [sure_built hA]
  refine ref_sure_ok hB.sml ?_
  rw [sure_built hB]
  refine ref_sure_ok hM.sml ?_
  rw [sure_built hM]
  unfold cellsR at hQ
  refine ref02_Is_ok (ifP_not (fun h => ?_) (fun h => ?_))
  · rwa [if_pos (of_decide_eq_false h)] at hQ
  have hr := of_decide_eq_true h
  rw [if_neg (fun h => h hr)] at hQ
  have hbad (hb : ca ≠ rb ∨ rm ≠ ra ∨ cm ≠ cb) : Q ([], 4) := by rwa [if_pos hb] at hQ
  refine ifP_ne (fun h => hbad (.inl h)) (fun h1 => ifP_ne (fun h => hbad (.inr (.inl h))) (fun h2 => ifP_ne (fun h => hbad (.inr (.inr h))) (fun h3 => ?_)))
  have h1 : ca = rb := h1
  have h2 : rm = ra := h2
  have h3 : cm = cb := h3
  rw [if_neg (by omega)] at hQ
  have hMl := hM.len; have hAl := hA.len; have hAr := hA.r1
  refine ref_triples_ok hM.sml (sure_built hM) hM ?_
  refine range_intro (fun (s : List Cell) i => (s, i)) 0 M.length (by omega) (fun i s => s = (M.take i).filterMap (cellO r A B)) (by omega) rfl (fun i s next _ hi hm hnx => ?_) (fun s next hm => ?_)
  · subst hm
    dsimp only
    have hin := hM.inn _ (List.getElem_mem hi)
    unfold inT at hin
    have hlk := List.length_filterMap_le (cellO r A B) (M.take i)
    rw [List.length_take] at hlk
    have hstep : (M.take (i + 1)).filterMap (cellO r A B) = (M.take i).filterMap (cellO r A B) ++ (cellO r A B M[i]).toList := by
      rw [List.take_succ_eq_append_getElem hi, List.filterMap_append]
      congr 1
    rw [hstep] at hnx
    generalize (M.take i).filterMap (cellO r A B) = out at hnx hlk ⊢
    refine ifP_dec (fun _ => idxP_nat hi ?_) (fun h => by omega)
    have hidx : ∀ {K : Triple → Prop}, K M[i] → idxP M (i : Int) K := fun hK => idxP_nat hi hK
    generalize M[i] = t at hin hnx hidx ⊢
    obtain ⟨n, hn⟩ : ∃ n : Nat, t.Row = (n : Int) := ⟨t.Row.toNat, by omega⟩
    obtain ⟨lo, hi', sg⟩ := hA.seg n
    have hlo := sg.lo; have hhi := sg.hi; have hle := sg.le; have hlen := sg.len
    rw [hn]
    refine start_idx (by omega) ?_
    rw [hlo]
    have e1 : w64 ((n : Int) + 1) = (n + 1 : Nat) := by rw [w64_id (by omega) (by omega)]; omega
    refine range_intro (s0 := (none : Option Wide)) (fun (s : Option Wide) k => ((s.getD ⟨0, 0⟩).Hi, (s.getD ⟨0, 0⟩).Lo, s.isSome, k)) lo hi' (by omega) (fun p acc => acc = (((A.take p).drop lo).map itS).foldl (stepI r (bAt B t.Col)) none) (by omega) (by rw [List.drop_eq_nil_of_le (by rw [List.length_take]; omega)]; rfl) (fun p acc nx h4 h5 hacc hnp => ?_) (fun acc nx hacc => ?_)
    · dsimp only
      refine hidx ?_
      rw [hn, e1]
      refine start_idx (by omega) ?_
      rw [hhi]
      have hpA : p < A.length := by omega
      have hat : 0 ≤ A[p].Col := (hA.inn _ (List.getElem_mem hpA)).2.2.1
      have hokA : ∀ w, acc = some w → okW w := fun w hw => by rw [hacc] at hw; exact foldI_okW r _ _ none (fun _ h => by cases h) w hw
      have hstp : (((A.take (p + 1)).drop lo).map itS).foldl (stepI r (bAt B t.Col)) none = stepI r (bAt B t.Col) acc (itS A[p]) := by
        rw [ext_step h4 hpA, List.map_append, List.foldl_append, ← hacc]; rfl
      rw [hstp] at hnp
      refine ifP_dec (fun _ => idxP_intro (by omega) (x := A[p].Col) (by simp [builtS, hpA]) (hidx (ref_get_ok hB.sml (sure_built hB) hB ?_))) (fun h => by omega)
      rw [get_bAt B hat]
      cases hb : bAt B t.Col A[p].Col with
      | none =>
        refine ifP_pos rfl ?_
        have := hnp acc (stepI_miss (y := itS A[p]) hb).symm
        exact this
      | some x =>
        have hx : inI x := by
          unfold bAt rowI at hb
          have := lkI_mem hb
          obtain ⟨u, hu, he⟩ := List.mem_map.1 this
          have hv := hvB u (List.mem_filter.1 hu).1
          unfold itS at he
          simp only [Item.mk.injEq] at he
          rw [← he.2]; exact hv
        refine ifP_neg rfl (idxP_intro (by omega) (x := A[p].Val) (by simp [builtS, hpA]) (ref02_Mul_ok (hvA _ (List.getElem_mem hpA)) hx ?_))
        have hs := stepI_hit (r := r) (acc := acc) (y := itS A[p]) hb
        cases hac : acc with
        | none =>
          rw [hac] at hs
          refine ifP_neg rfl ?_
          exact hnp (some (mulW r A[p].Val x)) (by rw [hac, hs]; rfl)
        | some w =>
          rw [hac] at hs
          refine ifP_pos rfl (ref02_Add_ok (hokA w hac) (mulW_okW _ _ _) ?_)
          exact hnp (some (addW r w (mulW r A[p].Val x))) (by rw [hac, hs]; rfl)
    · dsimp only
      refine hidx ?_
      rw [hn, e1]
      refine start_idx (by omega) ?_
      rw [hhi]
      refine ifP_dec (fun h => by omega) (fun _ => ?_)
      have hw : acc = cellW r A B t.Row t.Col := by
        rw [hacc, sg.eq]
        unfold cellW rowI
        rw [hn]; rfl
      have hc : cellO r A B t = acc.map fun w => ⟨t.Row, t.Col, w⟩ := by unfold cellO; rw [← hw]
      cases hac : acc with
      | none =>
        refine ifP_neg rfl (hnx _ ?_)
        rw [hc, hac]; simp
      | some w =>
        refine ifP_pos rfl (hidx (hidx (appP_intro (by simp; omega) (hnx _ ?_))))
        rw [hc, hac]; rfl
  · subst hm
    dsimp only
    rw [List.take_length]
    exact ifP_dec (fun h => by omega) (fun _ => hQ)
theorem sameCells_ok {xs ys : List Cell} {Q : Bool → Prop} (hl : xs.length ≤ 1000000000000) (he : xs = ys) (hQ : Q true) : ref15_SameCells xs ys Q := by
  subst he
  unfold ref15_SameCells
  refine ifP_ne (fun h => absurd rfl h) (fun _ => ?_)
  refine scan_intro xs.length hl (fun _ => True) trivial (fun i next hi _ hn => ?_) (fun next _ => ?_)
  · exact ifP_dec (fun _ => idxP_nat hi (idxP_nat hi (ifP_neg (by simp) (hn trivial)))) (fun h => by omega)
  · exact ifP_dec (fun h => by omega) (fun _ => hQ)
end Go.Proofs.YtjabmpfcpekpdaaGreat

