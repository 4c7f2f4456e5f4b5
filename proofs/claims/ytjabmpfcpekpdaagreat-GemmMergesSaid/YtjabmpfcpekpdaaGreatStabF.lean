import Derived.Test.YtjabmpfcpekpdaaGreatGemmD
/- GemmMerges: any lists of cells as one, and as a matrix. -/
namespace Go.Proofs.YtjabmpfcpekpdaaGreat
open Go Go.Fw
set_option linter.unusedVariables false
set_option linter.unusedSimpArgs false
theorem ahead_ok {x y : Cell} {Q : Bool → Prop} (h1 : ltC x y → Q true) (h2 : ¬ ltC x y → Q false) : ref15_ahead x y Q := by
  unfold ref15_ahead
  unfold ltC ltK at h1 h2
  simp only at h1 h2
  refine ifP_dec (fun h => h1 (.inl h)) (fun h => ifP_eq (fun h' => ?_) (fun h' => h2 (by omega)))
  by_cases c : x.Col < y.Col
  · rw [decide_eq_true c]; exact h1 (.inr ⟨h', c⟩)
  · rw [decide_eq_false c]; exact h2 (by omega)
theorem ref_rises_is {l : List Cell} {Q : Bool → Prop} (hl : l.length ≤ 1000000) (h1 : StrC l → Q true) (h2 : ¬ StrC l → Q false) : ref15_rises l Q := by
  unfold ref15_rises
  by_cases h0 : l.length = 0
  · refine ⟨1, ?_⟩
    exact ifP_dec (fun h => by omega) (fun _ => h1 (adj_str fun j hj => by omega))
  refine range_intro (σ := Unit) (fun _ i => i) 1 l.length (by omega) (fun i _ => ∀ (j : Nat) (h1 : j + 1 < l.length), j + 1 < i → ltC l[j] l[j + 1]) (by omega) (fun j _ h => by omega) (fun i s next h3 hi hm hn => ?_) (fun s next hm => ?_) (s0 := ())
  · refine ifP_dec (fun _ => ?_) (fun h => by omega)
    obtain ⟨i, rfl⟩ : ∃ q, i = q + 1 := ⟨i - 1, by omega⟩
    rw [pred_w (by omega) (by omega), Nat.add_sub_cancel]
    refine idxP_nat (by omega) (idxP_nat hi (ahead_ok (fun h => ifP_neg rfl (hn () fun j hj hji => ?_)) (fun h => ifP_pos rfl (h2 fun hs => h (List.pairwise_iff_getElem.1 hs i (i + 1) (by omega) hi (by omega))))))
    by_cases e : j = i
    · subst e; exact h
    · exact hm j hj (by omega)
  · exact ifP_dec (fun h => by omega) (fun _ => h1 (adj_str fun j hj => hm j hj hj))
/-! ### The reference's way -/
/-- one more cell, put where it belongs -/
def InsC (r : Int) (s : List Cell) (x : Cell) (t : List Cell) : Prop := StrC t ∧ okC t ∧ t.length ≤ s.length + 1 ∧ ∀ k, endC r k t = endC r k (s ++ [x])
theorem insC_eq {r : Int} {p q : List Cell} {y x : Cell} (hs : StrC (p ++ y :: q)) (ho : okC (p ++ y :: q)) (hx : okW x.Val) (hk : keyC y = keyC x) : InsC r (p ++ y :: q) x (p ++ ⟨y.Row, y.Col, addW r y.Val x.Val⟩ :: q) := by
  have hp : okC p := fun c hc => ho c (by simp [hc])
  have hy : okW y.Val := ho y (by simp)
  have hq : okC q := fun c hc => ho c (by simp [hc])
  have hy1 : okC (y :: q) := fun c hc => ho c (by simp at hc ⊢; exact .inr hc)
  have hw : okW (addW r y.Val x.Val) := addW_okW hy hx
  have hx1 : okC [x] := fun c hc => by rw [List.mem_singleton] at hc; subst hc; exact hx
  have hy2 : okC (⟨y.Row, y.Col, addW r y.Val x.Val⟩ :: q) := fun c hc => by
    rcases List.mem_cons.1 hc with rfl | h
    · exact hw
    · exact hq c h
  refine ⟨?_, fun c hc => ?_, by simp, fun k => ?_⟩
  · unfold StrC at hs ⊢
    rw [List.pairwise_append, List.pairwise_cons] at hs ⊢
    refine ⟨hs.1, ⟨fun a ha => hs.2.1.1 a ha, hs.2.1.2⟩, fun a ha b hb => ?_⟩
    rcases List.mem_cons.1 hb with rfl | h
    · exact hs.2.2 a ha y (by simp)
    · exact hs.2.2 a ha b (by simp [h])
  · rcases List.mem_append.1 hc with h | h
    · exact hp c h
    · exact hy2 c h
  · rw [end_append ho hx1, end_append hp hy2, end_append hp hy1, cmb_assoc (end_okO hp) (end_okO hy1) (end_okO hx1)]
    congr 1
    have e1 : endC r k [x] = oneC k x := by rw [endC, endC, cmb_none]
    rw [endC, endC, e1, cmb_assoc (one_ok hy) (end_okO hq) (one_ok hx), cmb_comm (end_okO hq) (one_ok hx), ← cmb_assoc (one_ok hy) (one_ok hx) (end_okO hq)]
    congr 1
    unfold oneC
    by_cases ek : keyC y = k
    · rw [if_pos (show keyC ⟨y.Row, y.Col, addW r y.Val x.Val⟩ = k from ek), if_pos ek, if_pos (hk.symm.trans ek)]; rfl
    · rw [if_neg (show ¬ keyC ⟨y.Row, y.Col, addW r y.Val x.Val⟩ = k from ek), if_neg ek, if_neg (fun h => ek (hk.trans h))]; rfl
theorem insC_new {r : Int} {p q : List Cell} {x : Cell} (hs : StrC (p ++ q)) (ho : okC (p ++ q)) (hx : okW x.Val) (h1 : ∀ c ∈ p, ltC c x) (h2 : ∀ c ∈ q, ltC x c) : InsC r (p ++ q) x (p ++ x :: q) := by
  have hok : okC (p ++ x :: q) := fun c hc => by
    rcases List.mem_append.1 hc with h | h
    · exact ho c (by simp [h])
    · rcases List.mem_cons.1 h with rfl | h
      · exact hx
      · exact ho c (by simp [h])
  refine ⟨?_, hok, by simp; omega, fun k => end_perm ?_ hok⟩
  · unfold StrC at hs ⊢
    rw [List.pairwise_append] at hs ⊢
    rw [List.pairwise_cons]
    refine ⟨hs.1, ⟨h2, hs.2.1⟩, fun a ha b hb => ?_⟩
    rcases List.mem_cons.1 hb with rfl | h
    · exact h1 a ha
    · exact hs.2.2 a ha b h
  · have : (p ++ x :: q).Perm (x :: (p ++ q)) := List.perm_middle
    refine this.trans ?_
    have h := (List.perm_append_comm (l₁ := [x]) (l₂ := p ++ q))
    exact h
theorem ref_Merge_ok {r : Int} {L : List (List Cell)} {Q : List Cell × Int → Prop} (hl : L.length ≤ 1000000) (hf : L.flatten.length ≤ 1000000) (hok : okC L.flatten) (h8 : ¬ (1 ≤ r ∧ r ≤ 5) → Q ([], 8)) (h6 : (1 ≤ r ∧ r ≤ 5) → ¬ (∀ l ∈ L, StrC l) → Q ([], 6))
    (h0 : (1 ≤ r ∧ r ≤ 5) → (∀ l ∈ L, StrC l) → ∀ s, StrC s → okC s → s.length ≤ L.flatten.length → (∀ k, endC r k s = endC r k L.flatten) → Q (s, 0)) : ref15_Merge r L Q := by
  unfold ref15_Merge
  refine ref02_Is_ok (ifP_not (fun h => h8 (of_decide_eq_false h)) (fun h => ?_))
  have hr := of_decide_eq_true h
  have elen : ∀ l ∈ L, l.length ≤ 1000000 := fun l hm => by
    have := (List.sublist_flatten_of_mem hm).length_le
    omega
  refine scan_intro L.length (by omega) (fun i => ∀ (q : Nat) (hq : q < L.length), q < i → StrC L[q]) (fun q _ h => by omega) (fun i next hi hm hn => ?_) (fun next hm => ?_)
  · refine ifP_dec (fun _ => idxP_nat hi (ref_rises_is (elen _ (List.getElem_mem hi)) (fun hs => ifP_neg rfl (hn fun q hq hqi => ?_)) (fun hs => ifP_pos rfl (h6 hr fun ha => hs (ha _ (List.getElem_mem hi)))))) (fun h => by omega)
    by_cases e : q = i
    · subst e; exact hs
    · exact hm q hq (by omega)
  refine ifP_dec (fun h => by omega) (fun _ => ?_)
  have hall : ∀ l ∈ L, StrC l := fun l hm' => by obtain ⟨q, hq, rfl⟩ := List.getElem_of_mem hm'; exact hm q hq hq
  have hfin := h0 hr hall
  clear h8 h6 h0 hm
  have tk : ∀ {i : Nat} (h : i < L.length), (L.take (i + 1)).flatten = (L.take i).flatten ++ L[i] := fun h => by rw [List.take_succ_eq_append_getElem h, List.flatten_append]; simp
  have tl : ∀ i : Nat, (L.take i).flatten.length ≤ L.flatten.length := fun i => by
    conv => rhs; rw [← List.take_append_drop i L, List.flatten_append, List.length_append]
    omega
  have tok : ∀ i : Nat, okC (L.take i).flatten := fun i c hc => hok c (by
    rw [← List.take_append_drop i L, List.flatten_append]; simp only [List.mem_append]; exact .inl hc)
  refine range_intro (fun (s : List Cell) i => (s, i)) 0 L.length (by omega) (fun i s => StrC s ∧ okC s ∧ s.length ≤ (L.take i).flatten.length ∧ ∀ k, endC r k s = endC r k (L.take i).flatten) (by omega) ⟨.nil, (fun c hc => by cases hc), by simp, fun k => by simp⟩ (fun i s next _ hi hm hn => ?_) (fun s next hm => ?_)
  · obtain ⟨m1, m2, m3, m4⟩ := hm
    have hxs := tk hi
    have hti := tl (i + 1)
    rw [hxs, List.length_append] at hti
    have hokx : okC L[i] := fun c hc => tok (i + 1) c (by rw [hxs]; simp [hc])
    have hoi := tok i
    refine ifP_dec (fun _ => ?_) (fun h => by omega)
    refine range_intro (fun (s : List Cell) q => (s, q)) 0 L[i].length (by omega) (fun q s => StrC s ∧ okC s ∧ s.length ≤ (L.take i).flatten.length + q ∧ ∀ k, endC r k s = endC r k ((L.take i).flatten ++ L[i].take q)) (by omega) ⟨m1, m2, m3, fun k => by rw [m4]; simp⟩ (fun q s nx _ hq hm hx => ?_) (fun s nx hm => ?_)
    · obtain ⟨g1, g2, g3, g4⟩ := hm
      have hxq : okW (L[i][q]).Val := hokx _ (List.getElem_mem hq)
      have hotq : okC ((L.take i).flatten ++ L[i].take q) := fun c hc => by
        rcases List.mem_append.1 hc with h | h
        · exact hoi c h
        · exact hokx c (List.mem_of_mem_take h)
      have hx1 : okC [L[i][q]] := fun c hc => by rw [List.mem_singleton] at hc; subst hc; exact hxq
      have go : ∀ t, InsC r s L[i][q] t → nx (t, w64 ((q : Int) + 1)) := fun t ht => hx t ⟨ht.1, ht.2.1, by have := ht.2.2.1; omega, fun k => by
        rw [ht.2.2.2, List.take_succ_eq_append_getElem hq, ← List.append_assoc, end_append g2 hx1, end_append hotq hx1, g4]⟩
      refine idxP_nat hi (ifP_dec (fun _ => idxP_nat hi (idxP_nat hq ?_)) (fun h => by omega))
      generalize L[i][q] = x at hxq go
      refine join_intro (fun t : Int => ∃ j : Nat, t = j ∧ j ≤ s.length ∧ (∀ (p : Nat) (hp : p < s.length), p < j → ltC s[p] x) ∧ ∀ h : j < s.length, ¬ ltC s[j] x) (fun t ht => ?_) fun k hk => ?_
      · obtain ⟨j, rfl, j1, j2, j3⟩ := ht
        have hlow : ∀ c ∈ s.take j, ltC c x := fun c hc => by
          obtain ⟨p, hp, rfl⟩ := List.getElem_of_mem hc
          rw [List.length_take] at hp
          rw [List.getElem_take]
          exact j2 p (by omega) (by omega)
        refine join_intro (fun b : Bool => (b = true → ∃ h : j < s.length, keyC s[j] = keyC x) ∧ (b = false → ∀ h : j < s.length, ltC x s[j])) (fun b hb => ?_) fun k hk => ?_
        · cases b with
          | true =>
            obtain ⟨hj, hkey⟩ := hb.1 rfl
            refine ifP_pos rfl (idxP_nat hj (ref02_Add_ok (g2 _ (List.getElem_mem hj)) hxq (idxP_nat hj ?_)))
            have es : s = s.take j ++ s[j] :: s.drop (j + 1) := by rw [← List.drop_eq_getElem_cons hj, List.take_append_drop]
            have hins := insC_eq (r := r) (p := s.take j) (q := s.drop (j + 1)) (y := s[j]) (x := x) (by rw [← es]; exact g1) (by rw [← es]; exact g2) hxq hkey
            rw [← es] at hins
            have e2 : s.set ((j : Nat) : Int).toNat (⟨s[j].Row, s[j].Col, addW r s[j].Val x.Val⟩ : Cell) = s.take j ++ ⟨s[j].Row, s[j].Col, addW r s[j].Val x.Val⟩ :: s.drop (j + 1) := by
              rw [Int.toNat_natCast, List.set_eq_take_append_cons_drop, if_pos hj]
            rw [e2]
            exact go _ hins
          | false =>
            have hnot := hb.2 rfl
            refine ifP_neg rfl (appP_intro (by simp; omega) ?_)
            have hhigh : ∀ c ∈ s.drop j, ltC x c := fun c hc => by
              obtain ⟨p, hp, rfl⟩ := List.getElem_of_mem hc
              rw [List.length_drop] at hp
              rw [List.getElem_drop]
              have h1 := hnot (by omega)
              by_cases e : p = 0
              · subst e; exact h1
              · exact ltK_trans h1 (List.pairwise_iff_getElem.1 g1 j (j + p) (by omega) (by omega) (by omega))
            have hins := insC_new (r := r) (p := s.take j) (q := s.drop j) (x := x) (by rw [List.take_append_drop]; exact g1) (by rw [List.take_append_drop]; exact g2) hxq hlow hhigh
            rw [List.take_append_drop] at hins
            have e1 : w64 ((((s ++ [(⟨0, 0, ⟨0, 0⟩⟩ : Cell)]).length : Nat) : Int) - 1) = ((s.length : Nat) : Int) := by
              rw [List.length_append, List.length_singleton, pred_w (by omega) (by omega), Nat.add_sub_cancel]
            rw [e1]
            refine loop_intro (fun st : List Cell × Int => ∃ m : Nat, st.2 = m ∧ j ≤ m ∧ m ≤ s.length ∧ st.1.length = s.length + 1 ∧ (∀ a, a < m → st.1[a]? = s[a]?) ∧ ∀ a, m ≤ a → a < s.length → st.1[a + 1]? = s[a]?) (fun st => st.2.toNat)
              ⟨s.length, rfl, j1, Nat.le_refl _, by simp, fun a ha => by dsimp only; rw [List.getElem?_append_left ha], fun a h1 h2 => by omega⟩ ?_
            rintro ⟨v, _⟩ ny ⟨m, rfl, k1, k2, k3, k4, k5⟩ hy
            dsimp only at k3 k4 k5 ⊢
            refine ifP_dec (fun hjm => ?_) (fun hjm => ?_)
            · rw [pred_w (i := m) (by omega) (by omega)]
              refine idxP_nat (i := m - 1) (by omega) (idxP_nat (i := m) (by omega) (hy _ ⟨m - 1, rfl, by omega, by omega, by simpa using k3, fun a ha => ?_, fun a h1 h2 => ?_⟩ (by dsimp only; omega)))
              · dsimp only
                rw [Int.toNat_natCast, List.getElem?_set_ne (by omega)]; exact k4 a (by omega)
              · dsimp only
                rw [Int.toNat_natCast, List.getElem?_set]
                by_cases e : a = m - 1
                · subst e
                  rw [if_pos (by omega), if_pos (by omega), ← k4 (m - 1) (by omega), List.getElem?_eq_getElem (by omega)]
                · rw [if_neg (by omega)]; exact k5 a (by omega) h2
            · have hjm' : m = j := by omega
              subst hjm'
              refine idxP_nat (i := m) (by omega) ?_
              have := shift_done (pre := s.take m) (post := s.drop m) (s := v) (x := x) (by rw [List.length_take, List.length_drop]; omega) (fun a ha => ?_) (fun a ha => ?_)
              · rw [List.length_take, Nat.min_eq_left k2] at this
                rw [Int.toNat_natCast, this]
                exact go _ hins
              · rw [List.length_take] at ha
                rw [k4 a (by omega), List.getElem?_take, if_pos (by omega)]
              · rw [List.length_drop] at ha
                rw [List.length_take, Nat.min_eq_left k2, show m + 1 + a = m + a + 1 by omega, k5 (m + a) (by omega) (by omega), List.getElem?_drop]
        · refine ifP_dec (fun hj => ?_) (fun hj => hk _ ⟨(fun h => by cases h), fun _ h => by omega⟩)
          have hj' : j < s.length := by omega
          refine idxP_nat hj' (ahead_ok (fun h => hk _ ⟨(fun h => by cases h), fun _ _ => h⟩) (fun h => hk _ ⟨fun _ => ⟨hj', ?_⟩, fun h => by cases h⟩))
          have h3 := j3 hj'
          by_cases e : keyC s[j] = keyC x
          · exact e
          · exact absurd (ltK_tri (a := keyC s[j]) (b := keyC x) h3 e) h
      · refine scan_intro s.length (by omega) (fun j => ∀ (p : Nat) (hp : p < s.length), p < j → ltC s[p] x) (fun p _ h => by omega) (fun j ny hj hm hy => ?_) (fun ny hm => ?_)
        · refine ifP_dec (fun _ => idxP_nat hj (ahead_ok (fun h => ifP_pos rfl (hy fun p hp hpj => ?_)) (fun h => ifP_neg rfl (hk _ ⟨j, rfl, by omega, hm, fun _ => h⟩)))) (fun h => by omega)
          by_cases e : p = j
          · subst e; exact h
          · exact hm p hp (by omega)
        · exact ifP_dec (fun h => by omega) (fun _ => hk _ ⟨s.length, rfl, Nat.le_refl _, fun p hp _ => hm p hp hp, fun h => by omega⟩)
    · obtain ⟨g1, g2, g3, g4⟩ := hm
      refine idxP_nat hi (ifP_dec (fun h => by omega) (fun _ => hn _ ⟨g1, g2, by rw [hxs, List.length_append]; exact g3, fun k => ?_⟩))
      rw [g4, hxs, List.take_length]
  · obtain ⟨m1, m2, m3, m4⟩ := hm
    rw [List.take_length] at m3
    refine ifP_dec (fun h => by omega) (fun _ => hfin s m1 m2 m3 fun k => ?_)
    rw [m4, List.take_length]
/-! ### Cells as a matrix, whatever they are -/
def inC2 (rows cols : Int) (c : Cell) : Prop := (0 ≤ c.Row ∧ c.Row < rows) ∧ (0 ≤ c.Col ∧ c.Col < cols)
open Classical in
noncomputable def doneG (r rows cols : Int) (l : List Cell) : Rows × Int :=
  if ¬ (1 ≤ r ∧ r ≤ 5) then (zR, 8) else if ¬ ((0 ≤ rows ∧ rows ≤ 4096) ∧ (0 ≤ cols ∧ cols ≤ 4096)) then (zR, 3) else if ∃ c ∈ l, ¬ inC2 rows cols c then (zR, 3) else if ¬ StrC l then (zR, 6) else doneC r rows cols l
theorem doneG_small {r rows cols : Int} {l : List Cell} : small (doneG r rows cols l).1 := by
  unfold doneG doneC
  repeat' split
  all_goals first | exact of_small nzC_inI | simp [small, zR]
theorem cellin_ok {rows cols : Int} {l : List Cell} {Q : Bool → Prop} (h0 : (0 ≤ rows ∧ rows ≤ 4096) ∧ (0 ≤ cols ∧ cols ≤ 4096)) (hl : l.length ≤ 65536) (h1 : (∃ c ∈ l, ¬ inC2 rows cols c) → Q true) (h2 : ¬ (∃ c ∈ l, ¬ inC2 rows cols c) → Q false) : slices_ContainsFunc_api_Cell_api_Cell_72c rows cols l Q := by
  unfold slices_ContainsFunc_api_Cell_api_Cell_72c slices_IndexFunc_api_Cell_api_Cell_05b gemm_Done_1_bab gemm_within
  have e1 : w64 (rows - 1) = rows - 1 := w64_id (by omega) (by omega)
  have e2 : w64 (cols - 1) = cols - 1 := w64_id (by omega) (by omega)
  rw [e1, e2]
  refine scan_intro l.length (by omega) (fun i => ∀ (q : Nat) (hq : q < l.length), q < i → inC2 rows cols l[q]) (fun q _ h => by omega) (fun i next hi hm hn => ?_) (fun next hm => ?_)
  · have hbad : ¬ inC2 rows cols l[i] → Q (decide (0 ≤ (i : Int))) := fun hb => by
      rw [decide_eq_true (by omega)]
      exact h1 ⟨l[i], List.getElem_mem hi, hb⟩
    have hgood : inC2 rows cols l[i] → next (w64 ((i : Int) + 1)) := fun hg => hn fun q hq hqi => by
      by_cases e : q = i
      · subst e; exact hg
      · exact hm q hq (by omega)
    refine ifP_dec (fun _ => idxP_nat hi ?_) (fun h => by omega)
    generalize l[i] = c at hbad hgood
    unfold inC2 at hbad hgood
    exact ifP_dec (fun a => ifP_not (fun hb => ifP_pos rfl (hbad (by have := of_decide_eq_false hb; omega))) (fun hb => ifP_dec (fun d => ifP_not (fun e => hbad (by have := of_decide_eq_false e; omega)) (fun e => hgood (by have := of_decide_eq_true hb; have := of_decide_eq_true e; omega))) (fun d => ifP_pos rfl (hbad (by omega))))) (fun a => ifP_pos rfl (ifP_pos rfl (hbad (by omega))))
  · refine ifP_dec (fun h => by omega) (fun _ => h2 ?_)
    rintro ⟨c, hc, hb⟩
    obtain ⟨q, hq, rfl⟩ := List.getElem_of_mem hc
    exact hb (hm q hq hq)
theorem gemm_Done_any {r rows cols : Int} {l : List Cell} {Q : Rows × Int → Prop} (hl : l.length ≤ 65536) (hok : okC l) (hQ : Q (doneG r rows cols l)) : gemm_Done r rows cols l Q := by
  unfold doneG at hQ
  by_cases hr : 1 ≤ r ∧ r ≤ 5
  rotate_left
  · rw [if_pos hr] at hQ
    unfold gemm_Done
    refine ring_Is_ok ?_
    rw [decide_eq_false hr]
    exact ifP_pos rfl hQ
  rw [if_neg (fun h => h hr)] at hQ
  by_cases h0 : (0 ≤ rows ∧ rows ≤ 4096) ∧ (0 ≤ cols ∧ cols ≤ 4096)
  rotate_left
  · rw [if_pos h0] at hQ
    unfold gemm_Done joinP gemm_within
    refine ring_Is_ok ?_
    rw [decide_eq_true hr]
    exact ifP_neg rfl (ifP_dec (fun a => ifP_not (fun b => ifP_pos rfl hQ) (fun b => ifP_dec (fun c => ifP_not (fun d => hQ) (fun d => absurd (by have := of_decide_eq_true b; have := of_decide_eq_true d; omega) h0)) (fun c => ifP_pos rfl hQ))) (fun a => ifP_pos rfl (ifP_pos rfl hQ)))
  rw [if_neg (fun h => h h0)] at hQ
  by_cases hin : ∃ c ∈ l, ¬ inC2 rows cols c
  · rw [if_pos hin] at hQ
    unfold gemm_Done joinP gemm_within
    refine ring_Is_ok ?_
    rw [decide_eq_true hr]
    refine ifP_neg rfl (ifP_dec (fun _ => ifP_not (fun hn => by have := of_decide_eq_false hn; omega) (fun _ => ifP_dec (fun _ => ifP_not (fun d => by have := of_decide_eq_false d; omega) (fun _ => cellin_ok h0 hl (fun _ => ifP_pos rfl hQ) (fun h => absurd hin h))) (fun h => by omega))) (fun h => by omega))
  rw [if_neg hin] at hQ
  by_cases hs : StrC l
  rotate_left
  · rw [if_pos hs] at hQ
    unfold gemm_Done joinP gemm_within
    refine ring_Is_ok ?_
    rw [decide_eq_true hr]
    refine ifP_neg rfl (ifP_dec (fun _ => ifP_not (fun hn => by have := of_decide_eq_false hn; omega) (fun _ => ifP_dec (fun _ => ifP_not (fun d => by have := of_decide_eq_false d; omega) (fun _ => cellin_ok h0 hl (fun h => absurd h hin) (fun _ => ifP_neg rfl (gemm_rises_is (by omega) (fun h => absurd h hs) (fun _ => ifP_pos rfl hQ))))) (fun h => by omega))) (fun h => by omega))
  rw [if_neg (fun h => h hs)] at hQ
  exact gemm_Done_ok hr h0 ⟨hs, fun c hc => by by_cases e : inC2 rows cols c; exact e; exact absurd ⟨c, hc, e⟩ hin, hok, hl⟩ hQ
theorem ref_Done_any {r rows cols : Int} {l : List Cell} {Q : Rows × Int → Prop} (hl : l.length ≤ 65536) (hok : okC l) (hQ : Q (doneG r rows cols l)) : ref15_Done r rows cols l Q := by
  unfold doneG at hQ
  by_cases hr : 1 ≤ r ∧ r ≤ 5
  rotate_left
  · rw [if_pos hr] at hQ
    unfold ref15_Done
    refine ref02_Is_ok ?_
    rw [decide_eq_false hr]
    exact ifP_pos rfl hQ
  rw [if_neg (fun h => h hr)] at hQ
  by_cases h0 : (0 ≤ rows ∧ rows ≤ 4096) ∧ (0 ≤ cols ∧ cols ≤ 4096)
  rotate_left
  · rw [if_pos h0] at hQ
    unfold ref15_Done
    refine ref02_Is_ok ?_
    rw [decide_eq_true hr]
    exact ifP_neg rfl (ifP_dec (fun _ => hQ) (fun _ => ifP_dec (fun _ => hQ) (fun _ => ifP_dec (fun _ => hQ) (fun _ => ifP_dec (fun _ => hQ) (fun _ => absurd (by omega) h0)))))
  rw [if_neg (fun h => h h0)] at hQ
  by_cases hin : ∃ c ∈ l, ¬ inC2 rows cols c
  · rw [if_pos hin] at hQ
    unfold ref15_Done
    refine ref02_Is_ok ?_
    rw [decide_eq_true hr]
    refine ifP_neg rfl (ifP_dec (fun h => by omega) (fun _ => ifP_dec (fun h => by omega) (fun _ => ifP_dec (fun h => by omega) (fun _ => ifP_dec (fun h => by omega) (fun _ => ?_)))))
    refine scan_intro l.length (by omega) (fun i => ∀ (q : Nat) (hq : q < l.length), q < i → inC2 rows cols l[q]) (fun q _ h => by omega) (fun i next hi hm hn => ?_) (fun next hm => ?_)
    · have hgood : inC2 rows cols l[i] → next (w64 ((i : Int) + 1)) := fun hg => hn fun q hq hqi => by
        by_cases e : q = i
        · subst e; exact hg
        · exact hm q hq (by omega)
      unfold inC2 at hgood
      exact ifP_dec (fun _ => idxP_nat hi (ifP_dec (fun _ => hQ) (fun a => idxP_nat hi (ifP_dec (fun _ => hQ) (fun b => idxP_nat hi (ifP_dec (fun _ => hQ) (fun c => idxP_nat hi (ifP_dec (fun _ => hQ) (fun d => hgood (by omega)))))))))) (fun h => by omega)
    · obtain ⟨c, hc, hb⟩ := hin
      obtain ⟨q, hq, rfl⟩ := List.getElem_of_mem hc
      exact absurd (hm q hq hq) hb
  rw [if_neg hin] at hQ
  have hinn : ∀ c ∈ l, inC2 rows cols c := fun c hc => by by_cases e : inC2 rows cols c; exact e; exact absurd ⟨c, hc, e⟩ hin
  by_cases hs : StrC l
  rotate_left
  · rw [if_pos hs] at hQ
    unfold ref15_Done
    refine ref02_Is_ok ?_
    rw [decide_eq_true hr]
    refine ifP_neg rfl (ifP_dec (fun h => by omega) (fun _ => ifP_dec (fun h => by omega) (fun _ => ifP_dec (fun h => by omega) (fun _ => ifP_dec (fun h => by omega) (fun _ => ?_)))))
    refine scan_intro l.length (by omega) (fun _ => True) trivial (fun i next hi _ hn => ?_) (fun next _ => ?_)
    · have hc := hinn _ (List.getElem_mem hi)
      unfold inC2 at hc
      exact ifP_dec (fun _ => idxP_nat hi (ifP_dec (fun h => by omega) (fun _ => idxP_nat hi (ifP_dec (fun h => by omega) (fun _ => idxP_nat hi (ifP_dec (fun h => by omega) (fun _ => idxP_nat hi (ifP_dec (fun h => by omega) (fun _ => hn trivial))))))))) (fun h => by omega)
    exact ifP_dec (fun h => by omega) (fun _ => ref_rises_is (by omega) (fun h => absurd h hs) (fun _ => ifP_pos rfl hQ))
  rw [if_neg (fun h => h hs)] at hQ
  exact ref_Done_ok hr h0 ⟨hs, hinn, hok, hl⟩ hQ
theorem merge_both {r : Int} {L : List (List Cell)} {B : List Cell × Int → List Cell × Int → Prop} (hl : L.length ≤ 1000000) (hf : L.flatten.length ≤ 1000000) (hok : okC L.flatten) (hB : ∀ (a : List Cell) (e : Int), a.length ≤ 1000000 → B (a, e) (a, e)) : gemm_Merge r L fun x => ref15_Merge r L fun y => B x y :=
  gemm_Merge_ok hl hf hok (fun h => ref_Merge_ok hl hf hok (fun _ => hB _ _ (by simp)) (fun h' => absurd h' h) (fun h' => absurd h' h))
    (fun h1 h => ref_Merge_ok hl hf hok (fun h' => absurd h1 h') (fun _ _ => hB _ _ (by simp)) (fun _ h' => absurd h' h))
    (fun h1 h s hs ho hle hk => ref_Merge_ok hl hf hok (fun h' => absurd h1 h') (fun _ h' => absurd h h') (fun _ _ t ht hot htl hkt => by
      have e : s = t := str_uniq (r := r) hs ht fun k => (hk k).trans (hkt k).symm
      subst e; exact hB _ _ (by omega)))
theorem flat_len {α : Type} {m : Nat} : ∀ {L : List (List α)}, (∀ l ∈ L, l.length ≤ m) → L.flatten.length ≤ L.length * m
  | [], _ => by simp
  | x :: L, h => by
    have h1 := flat_len fun l hl => h l (List.mem_cons_of_mem _ hl)
    have h2 := h x List.mem_cons_self
    rw [List.flatten_cons, List.length_append, List.length_cons, Nat.succ_mul]; omega
theorem GemmMerges_ok (a0 : Int) (a1 : List (List Cell)) (a2 : Int × Int) (h1 : (∀ x ∈ a1, (∀ y ∈ x, okCell y) ∧ x.length ≤ maxLen) ∧ a1.length ≤ maxLen) : law15_GemmMerges a0 a1 a2 (fun r => r = true) := by
  unfold law15_GemmMerges
  have hokW : ∀ c, okCell c → okW c.Val := fun c hc => by
    have e1 := bounds_i64 hc.2.2.1; have e2 := bounds_u64 hc.2.2.2
    unfold okW; omega
  refine join_intro (fun l : List (List Cell) => l.length ≤ 6 ∧ ∀ x ∈ l, okC x) ?_ ?_
  · rintro l ⟨hl, hlo⟩
    refine range_intro (s0 := ([] : List (List Cell))) (fun (s : List (List Cell)) i => (s, i)) 0 l.length (by omega) (fun k s => s.length ≤ k ∧ (∀ x ∈ s, okC x) ∧ ∀ x ∈ s, x.length ≤ 25) (by omega) ⟨by simp, by simp, by simp⟩ (fun k s next _ hk hs hn => ?_) (fun s next hs => ?_)
    · obtain ⟨g1, g2, g3⟩ := hs
      refine ifP_dec (fun _ => idxP_nat hk (ifP_dec (fun h => ⟨by omega, by omega, by omega, appP_intro (by simp; omega) (hn _ ⟨by simp; omega, fun x hx => ?_, fun x hx => ?_⟩)⟩) (fun h => appP_intro (by simp; omega) (hn _ ⟨by simp; omega, fun x hx => ?_, fun x hx => ?_⟩)))) (fun h => by omega)
      · rcases List.mem_append.1 hx with hx | hx
        · exact g2 x hx
        · simp only [List.mem_singleton] at hx; subst hx
          exact fun s hs => hlo _ (List.getElem_mem hk) s (List.mem_of_mem_take (List.mem_of_mem_drop hs))
      · rcases List.mem_append.1 hx with hx | hx
        · exact g3 x hx
        · simp only [List.mem_singleton] at hx; subst hx; simp; omega
      · rcases List.mem_append.1 hx with hx | hx
        · exact g2 x hx
        · simp only [List.mem_singleton] at hx; subst hx; exact hlo _ (List.getElem_mem hk)
      · rcases List.mem_append.1 hx with hx | hx
        · exact g3 x hx
        · simp only [List.mem_singleton] at hx; subst hx; omega
    · obtain ⟨g1, g2, g3⟩ := hs
      have hfl := flat_len g3
      refine ifP_dec (fun h => by omega) (fun _ => merge_both (by omega) (by omega) (fun c hc => by
        obtain ⟨x, hx, hcx⟩ := List.mem_flatten.1 hc
        exact g2 x hx c hcx) fun a e ha => live15_ok (ifP_neg rfl (sameCells_ok (by show a.length ≤ _; omega) rfl (ifP_neg rfl (ifP_ne (fun h => absurd rfl h) (fun _ => ?_))))))
      refine scan_intro s.length (by omega) (fun _ => True) trivial (fun i next hi _ hn => ?_) (fun next _ => ?_)
      · have hx := List.getElem_mem hi
        have h25 := g3 _ hx
        exact ifP_dec (fun _ => idxP_nat hi (gemm_Done_any (by omega) (g2 _ hx) (idxP_nat hi (ref_Done_any (by omega) (g2 _ hx) (ref_same_ok doneG_small (ifP_not (fun h => by simp at h) (fun _ => ifP_ne (fun h => absurd rfl h) (fun _ => hn trivial)))))))) (fun h => by omega)
      · exact ifP_dec (fun h => by omega) (fun _ => rfl)
  · intro k hk
    have hall : ∀ x ∈ a1, okC x := fun x hx s hs => hokW s ((h1.1 x hx).1 s hs)
    refine ifP_dec (fun h => ⟨by omega, by omega, by omega, hk _ ⟨by simp; omega, fun x hx => hall x (List.mem_of_mem_take (List.mem_of_mem_drop hx))⟩⟩) (fun h => hk _ ⟨by omega, hall⟩)
end Go.Proofs.YtjabmpfcpekpdaaGreat

