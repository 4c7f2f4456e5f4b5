import Derived.Test.YtjabmpfcpekpdaaGreatStabC
/- Lists of cells as one. -/
namespace Go.Proofs.YtjabmpfcpekpdaaGreat
open Go Go.Fw
set_option linter.unusedVariables false
set_option linter.unusedSimpArgs false
def keyC (c : Cell) : Key := (c.Row, c.Col)
def oneC (k : Key) (c : Cell) : Option Wide := if keyC c = k then some c.Val else none
def endC (r : Int) (k : Key) : List Cell → Option Wide
  | [] => none
  | c :: l => cmb r (oneC k c) (endC r k l)
def okC (l : List Cell) : Prop := ∀ c ∈ l, okW c.Val
def StrC (l : List Cell) : Prop := l.Pairwise ltC
theorem one_ok {k : Key} {c : Cell} (h : okW c.Val) : okO (oneC k c) := fun w hw => by unfold oneC at hw; split at hw <;> cases hw; exact h
theorem cmb_okO {r : Int} {a b : Option Wide} (ha : okO a) (hb : okO b) : okO (cmb r a b) := by
  intro w hw
  cases a with
  | none => exact hb w hw
  | some x => cases b with
    | none => exact ha w hw
    | some y => cases hw; exact addW_okW (ha x rfl) (hb y rfl)
theorem end_okO {r : Int} {k : Key} : ∀ {l : List Cell}, okC l → okO (endC r k l)
  | [], _ => fun w hw => by cases hw
  | c :: l, h => cmb_okO (one_ok (h c (by simp))) (end_okO fun d hd => h d (List.mem_cons_of_mem _ hd))
theorem end_append {r : Int} {k : Key} : ∀ {xs ys : List Cell}, okC xs → okC ys → endC r k (xs ++ ys) = cmb r (endC r k xs) (endC r k ys)
  | [], ys, _, _ => rfl
  | c :: l, ys, h, h' => by
    have hl : okC l := fun d hd => h d (List.mem_cons_of_mem _ hd)
    rw [List.cons_append, endC, endC, end_append hl h', cmb_assoc (one_ok (h c (by simp))) (end_okO hl) (end_okO h')]
theorem okC_perm {xs ys : List Cell} (h : xs.Perm ys) (ho : okC xs) : okC ys := fun c hc => ho c (h.mem_iff.2 hc)
theorem end_perm {r : Int} {k : Key} {xs ys : List Cell} (h : xs.Perm ys) (ho : okC xs) : endC r k xs = endC r k ys := by
  induction h with
  | nil => rfl
  | cons c h ih => rw [endC, endC, ih fun d hd => ho d (List.mem_cons_of_mem _ hd)]
  | swap a b l =>
    have h1 := one_ok (k := k) (ho a (by simp))
    have h2 := one_ok (k := k) (ho b (by simp))
    have h3 := end_okO (r := r) (k := k) (l := l) fun d hd => ho d (by simp [hd])
    rw [endC, endC, endC, endC, ← cmb_assoc h2 h1 h3, ← cmb_assoc h1 h2 h3, cmb_comm h1 h2]
  | trans h1 h2 ih1 ih2 => exact (ih1 ho).trans (ih2 (okC_perm h1 ho))
theorem end_none {r : Int} {k : Key} : ∀ {l : List Cell}, (∀ c ∈ l, keyC c ≠ k) → endC r k l = none
  | [], _ => rfl
  | c :: l, h => by
    rw [endC, end_none fun d hd => h d (List.mem_cons_of_mem _ hd)]
    unfold oneC
    rw [if_neg (h c (by simp))]; rfl
theorem ltC_ne {a b : Cell} (h : ltC a b) : keyC a ≠ keyC b := fun e => by unfold ltC at h; unfold keyC at e; rw [e] at h; exact ltK_irrefl _ h
theorem end_mem {r : Int} : ∀ {l : List Cell}, StrC l → ∀ {c : Cell}, c ∈ l ↔ endC r (keyC c) l = some c.Val
  | [], _, c => by simp [endC]
  | d :: l, h, c => by
    unfold StrC at h
    rw [List.pairwise_cons] at h
    rw [endC, List.mem_cons]
    by_cases e : keyC d = keyC c
    · rw [end_none (fun x hx => by rw [← e]; exact (ltC_ne (h.1 x hx)).symm)]
      unfold oneC
      rw [if_pos e, cmb_none]
      constructor
      · rintro (rfl | hc)
        · rfl
        · exact absurd e (ltC_ne (h.1 c hc))
      · intro hv
        left
        have hv' := Option.some.inj hv
        clear hv
        unfold keyC at e
        cases c; cases d
        simp only [Prod.mk.injEq] at e hv'
        obtain ⟨rfl, rfl⟩ := e
        rw [hv']
    · unfold oneC
      rw [if_neg e]
      show _ ↔ endC r (keyC c) l = some c.Val
      rw [← end_mem h.2]
      constructor
      · rintro (rfl | hc)
        · exact absurd rfl e
        · exact hc
      · exact .inr
theorem StrC.nodup {l : List Cell} (h : StrC l) : l.Nodup := by
  rw [List.nodup_iff_pairwise_ne]
  exact List.Pairwise.imp (R := ltC) (fun {a b} hab (e : a = b) => ltC_ne hab (by rw [e])) h
theorem str_uniq {r : Int} {s t : List Cell} (hs : StrC s) (ht : StrC t) (h : ∀ k, endC r k s = endC r k t) : s = t :=
  sorted_eq ((List.perm_ext_iff_of_nodup hs.nodup ht.nodup).2 fun c => by rw [end_mem (r := r) hs, end_mem (r := r) ht, h]) hs ht fun a b _ _ h1 h2 => absurd (ltK_trans h1 h2) (ltK_irrefl _)
/-! ### Whether cells rise -/
theorem adj_str {l : List Cell} (h : ∀ (j : Nat) (h1 : j + 1 < l.length), ltC l[j] l[j + 1]) : StrC l := by
  unfold StrC
  rw [List.pairwise_iff_getElem]
  intro i j hi hj hij
  obtain ⟨d, rfl⟩ : ∃ d, j = i + 1 + d := ⟨j - i - 1, by omega⟩
  clear hij
  induction d with
  | zero => exact h i hj
  | succ d ih => exact ltK_trans (ih (by omega)) (h (i + 1 + d) hj)
theorem gemm_rises_is {l : List Cell} {Q : Bool → Prop} (hl : l.length ≤ 1000000) (h1 : StrC l → Q true) (h2 : ¬ StrC l → Q false) : gemm_rises l Q := by
  unfold gemm_rises
  refine scan_intro l.length (by omega) (fun i => ∀ (j : Nat) (h1 : j + 1 < l.length), j + 1 < i → ltC l[j] l[j + 1]) (fun j _ h => by omega) (fun i next hi hm hn => ?_) (fun next hm => ?_)
  · refine ifP_dec (fun _ => ifP_dec (fun hp => ?_) (fun hp => hn fun j _ h => by omega)) (fun h => by omega)
    obtain ⟨i, rfl⟩ : ∃ q, i = q + 1 := ⟨i - 1, by omega⟩
    rw [pred_w (by omega) (by omega), Nat.add_sub_cancel]
    refine idxP_nat (by omega) (idxP_nat hi (gemm_order_ok (ifP_dec (fun h0 => h2 fun hs => ?_) (fun h0 => hn fun j hj h => ?_))))
    · have := (ordC_lt l[i] l[i + 1]).2 (List.pairwise_iff_getElem.1 hs i (i + 1) (by omega) hi (by omega))
      omega
    · by_cases e : j = i
      · subst e; exact (ordC_lt l[j] l[j + 1]).1 (by omega)
      · exact hm j hj (by omega)
  · exact ifP_dec (fun h => by omega) (fun _ => h1 (adj_str fun j hj => hm j hj hj))
/-! ### The program's way -/
theorem ord_zero {x y : Cell} : or2 (cmpc x.Row y.Row) (cmpc x.Col y.Col) = 0 ↔ keyC x = keyC y := by
  unfold or2 cmpc keyC
  simp only [Prod.mk.injEq]
  split <;> split <;> (try split) <;> (try split) <;> omega
theorem concatL_ok {L : List (List Cell)} {Q : List Cell → Prop} (hl : L.length ≤ 1000000) (hf : L.flatten.length ≤ 100000000) (hQ : Q L.flatten) : slices_Concat_api_Cell_api_Cell L Q := by
  unfold slices_Concat_api_Cell_api_Cell slices_Grow_api_Cell_api_Cell
  have tk : ∀ {i : Nat} (h : i < L.length), (L.take (i + 1)).flatten = (L.take i).flatten ++ L[i] := fun h => by rw [List.take_succ_eq_append_getElem h, List.flatten_append]; simp
  have tl : ∀ i : Nat, (L.take i).flatten.length ≤ L.flatten.length := fun i => by
    conv => rhs; rw [← List.take_append_drop i L, List.flatten_append, List.length_append]
    omega
  refine range_intro (fun (s : Int) i => (s, i)) 0 L.length (by omega) (fun i s => s = ((L.take i).flatten.length : Nat)) (by omega) rfl (fun i s next _ hi hm hn => ?_) (fun s next hm => ?_)
  · subst hm
    have h1 := tl (i + 1)
    have h2 := tk hi
    rw [h2, List.length_append] at h1
    refine ifP_dec (fun _ => idxP_nat hi ?_) (fun h => by omega)
    rw [add_w (by omega) (by omega)]
    exact ifP_dec (fun h => by omega) (fun _ => hn _ (by rw [h2, List.length_append]))
  · subst hm
    refine ifP_dec (fun h => by omega) (fun _ => ?_)
    rw [List.take_length, w64_id (x := 0 - 0) (by omega) (by omega), w64_id (x := ((L.flatten.length : Nat) : Int) - (0 - 0)) (by omega) (by omega)]
    have hk : loopP (fun (s : (List Cell) × Int) (next271 : ((List Cell) × Int) → Prop) => match s with | (s266, s270) => ifP (decide (s270 < (L.length : Int))) (idxP L s270 fun x278 => appP 32 s266 x278 fun _ => next271 ((s266 ++ x278), w64 (s270 + 1))) (Q s266)) ([], 0) := by
      refine range_intro (fun (s : List Cell) i => (s, i)) 0 L.length (by omega) (fun i s => s = (L.take i).flatten) (by omega) rfl (fun i s next _ hi hm hn => ?_) (fun s next hm => ?_)
      · subst hm
        have h1 := tl (i + 1)
        have h2 := tk hi
        rw [h2, List.length_append] at h1
        refine ifP_dec (fun _ => idxP_nat hi (appP_intro (by omega) (hn _ h2.symm))) (fun h => by omega)
      · subst hm
        refine ifP_dec (fun h => by omega) (fun _ => ?_)
        rw [List.take_length]; exact hQ
    exact ifP_dec (fun h => by omega) (fun _ => ifP_dec (fun h => ⟨by omega, by omega, hk⟩) (fun h => hk))
theorem gemm_Merge_ok {r : Int} {L : List (List Cell)} {Q : List Cell × Int → Prop} (hl : L.length ≤ 1000000) (hf : L.flatten.length ≤ 1000000) (hok : okC L.flatten) (h8 : ¬ (1 ≤ r ∧ r ≤ 5) → Q ([], 8)) (h6 : (1 ≤ r ∧ r ≤ 5) → ¬ (∀ l ∈ L, StrC l) → Q ([], 6))
    (h0 : (1 ≤ r ∧ r ≤ 5) → (∀ l ∈ L, StrC l) → ∀ s, StrC s → okC s → s.length ≤ L.flatten.length → (∀ k, endC r k s = endC r k L.flatten) → Q (s, 0)) : gemm_Merge r L Q := by
  unfold gemm_Merge
  refine ring_Is_ok (ifP_not (fun h => h8 (of_decide_eq_false h)) (fun h => ?_))
  have hr := of_decide_eq_true h
  unfold slices_ContainsFunc_api_Cell_api_Cell_85a slices_IndexFunc_api_Cell_api_Cell_95a gemm_Merge_1_823
  have elen : ∀ l ∈ L, l.length ≤ 1000000 := fun l hm => by
    have := (List.sublist_flatten_of_mem hm).length_le
    omega
  refine scan_intro L.length (by omega) (fun i => ∀ (q : Nat) (hq : q < L.length), q < i → StrC L[q]) (fun q _ h => by omega) (fun i next hi hm hn => ?_) (fun next hm => ?_)
  · refine ifP_dec (fun _ => idxP_nat hi (gemm_rises_is (elen _ (List.getElem_mem hi)) (fun hs => ifP_neg rfl (hn fun q hq hqi => ?_)) (fun hs => ifP_pos rfl (ifP_pos (decide_eq_true (by omega)) (h6 hr fun ha => hs (ha _ (List.getElem_mem hi))))))) (fun h => by omega)
    by_cases e : q = i
    · subst e; exact hs
    · exact hm q hq (by omega)
  refine ifP_dec (fun h => by omega) (fun _ => ifP_neg (by decide) (concatL_ok hl (by omega) (stabC_ok (by omega) fun t hp hs => ?_)))
  have hall : ∀ l ∈ L, StrC l := fun l hm' => by obtain ⟨q, hq, rfl⟩ := List.getElem_of_mem hm'; exact hm q hq hq
  have hot : okC t := okC_perm hp.symm hok
  have htl := hp.length_eq
  have hfin := h0 hr hall
  refine range_intro (fun (s : List Cell) i => (s, i)) 0 t.length (by omega) (fun i s => StrC s ∧ okC s ∧ s.length ≤ i ∧ (∀ k, endC r k s = endC r k (t.take i)) ∧ (s = [] ∧ i = 0 ∨ ∃ p y, s = p ++ [y] ∧ 0 < i ∧ keyC y = keyC (gC t (i - 1)))) (by omega) ⟨.nil, (fun c hc => by cases hc), Nat.le_refl _, fun _ => rfl, .inl ⟨rfl, rfl⟩⟩ (fun i s next _ hi hm' hn => ?_) (fun s next hm' => ?_)
  · obtain ⟨m1, m2, m3, m4, m5⟩ := hm'
    have hx : okW t[i].Val := hot _ (List.getElem_mem hi)
    have hok1 : okC [t[i]] := fun c hc => by rw [List.mem_singleton] at hc; subst hc; exact hx
    have hoti : okC (t.take i) := fun c hc => hot c (List.mem_of_mem_take hc)
    have htk : ∀ k, endC r k (t.take (i + 1)) = cmb r (endC r k s) (oneC k t[i]) := fun k => by
      rw [List.take_succ_eq_append_getElem hi, end_append hoti hok1, ← m4 k, endC, endC, cmb_none]
    have hgi := gC_elem hi
    refine ifP_dec (fun _ => idxP_nat hi ?_) (fun h => by omega)
    have app : StrC (s ++ [t[i]]) → appP 32 s [t[i]] fun _ => next (s ++ [t[i]], w64 ((i : Int) + 1)) := fun hstr => appP_intro (by simp; omega) (hn _ ⟨hstr, fun c hc => by
        rcases List.mem_append.1 hc with h | h
        · exact m2 c h
        · exact hok1 c h, by simp; omega, fun k => by rw [htk, end_append m2 hok1, endC, endC, cmb_none], .inr ⟨s, t[i], rfl, by omega, by rw [Nat.add_sub_cancel, ← hgi]⟩⟩)
    unfold joinP
    rcases m5 with ⟨rfl, rfl⟩ | ⟨p, y, rfl, i0, hy⟩
    · exact ifP_dec (fun h => by simp at h) (fun _ => ifP_neg rfl (app (by simp [StrC])))
    · have m3' : p.length + 1 ≤ i := by simpa using m3
      have hlast : (w64 ((((p ++ [y]).length : Nat) : Int) - 1)) = ((p.length : Nat) : Int) := by
        rw [List.length_append, List.length_singleton, pred_w (by omega) (by omega), Nat.add_sub_cancel]
      rw [hlast]
      have hget : (p ++ [y])[p.length]? = some y := by simp
      refine ifP_dec (fun _ => idxP_intro (x := y) (by omega) hget (gemm_order_ok (ifP_eq (fun he => ?_) (fun he => ?_)))) (fun h => by simp at h)
      · have hkey := ord_zero.1 he
        have hyo : okW y.Val := m2 y (by simp)
        refine idxP_intro (x := y) (by omega) hget (ring_Add_ok hyo hx (idxP_intro (x := y) (by omega) hget ?_))
        rw [show (p ++ [y]).set ((p.length : Nat) : Int).toNat (⟨y.Row, y.Col, addW r y.Val t[i].Val⟩ : Cell) = p ++ [⟨y.Row, y.Col, addW r y.Val t[i].Val⟩] by simp]
        have hp2 : okC p := fun c hc => m2 c (by simp [hc])
        have hy1 : okC [y] := fun c hc => by rw [List.mem_singleton] at hc; subst hc; exact hyo
        have hy2 : okC [⟨y.Row, y.Col, addW r y.Val t[i].Val⟩] := fun c hc => by rw [List.mem_singleton] at hc; subst hc; exact addW_okW hyo hx
        refine hn _ ⟨?_, fun c hc => ?_, by simp at m3 ⊢; omega, fun k => ?_, .inr ⟨p, _, rfl, by omega, ?_⟩⟩
        · unfold StrC at m1 ⊢
          rw [List.pairwise_append] at m1 ⊢
          refine ⟨m1.1, by simp, fun a ha b hb => ?_⟩
          rw [List.mem_singleton] at hb; subst hb
          exact m1.2.2 a ha y (by simp)
        · rcases List.mem_append.1 hc with h | h
          · exact hp2 c h
          · exact hy2 c h
        · rw [htk, end_append hp2 hy2, end_append hp2 hy1, cmb_assoc (end_okO hp2) (end_okO hy1) (one_ok hx)]
          congr 1
          rw [endC, endC, cmb_none, endC, endC, cmb_none]
          unfold oneC
          by_cases ek : keyC y = k
          · rw [if_pos (show keyC ⟨y.Row, y.Col, addW r y.Val t[i].Val⟩ = k from ek), if_pos ek, if_pos (hkey.symm.trans ek)]; rfl
          · rw [if_neg (show ¬ keyC ⟨y.Row, y.Col, addW r y.Val t[i].Val⟩ = k from ek), if_neg ek, if_neg (fun h => ek (hkey.trans h))]; rfl
        · rw [Nat.add_sub_cancel, ← hgi]; exact hkey
      · have hne : keyC y ≠ keyC t[i] := fun h => he (ord_zero.2 h)
        refine app ?_
        have hle : leC (gC t (i - 1)) (gC t i) := hs _ _ (by omega) (by omega) (by omega)
        rw [← hgi] at hle
        have hyx : ltC y t[i] := ltK_tri (a := keyC t[i]) (b := keyC y) (by rw [hy]; exact hle) fun e => hne e.symm
        unfold StrC at m1 ⊢
        rw [List.pairwise_append]
        refine ⟨m1, by simp, fun a ha b hb => ?_⟩
        rw [List.mem_singleton] at hb; subst hb
        rcases List.mem_append.1 ha with h | h
        · rw [List.pairwise_append] at m1
          exact ltK_trans (m1.2.2 a h y (by simp)) hyx
        · rw [List.mem_singleton] at h; subst h; exact hyx
  · obtain ⟨m1, m2, m3, m4, m5⟩ := hm'
    refine ifP_dec (fun h => by omega) (fun _ => hfin s m1 m2 (by omega) fun k => ?_)
    rw [m4, List.take_length]
    exact end_perm hp hot
end Go.Proofs.YtjabmpfcpekpdaaGreat

/- The statements' three matrices, what must be whatever is asked, and GemmTells. -/
namespace Go.Proofs.YtjabmpfcpekpdaaGreat
open Go Go.Fw
set_option linter.unusedVariables false
set_option linter.unusedSimpArgs false
theorem small_ok {x : Int} {Q : Int → Prop} (h : inR .u8 x) (hQ : ∀ n : Int, 0 ≤ n → n ≤ 13 → Q n) : law15_small x Q := by
  unfold law15_small
  have hb := bounds_u8 h
  refine hQ _ ?_ ?_
  · rw [Int.tmod_eq_emod_of_nonneg (by omega)]; omega
  · rw [Int.tmod_eq_emod_of_nonneg (by omega)]; omega
theorem sizeS_id {n : Int} (h0 : 0 ≤ n) (h1 : n ≤ 13) : sizeS n = n := by unfold sizeS; omega
theorem three_ok {a : Law15_Task} {Q : Rows × Rows × Rows → Prop} (hs : inR .u8 a.Size.1 ∧ inR .u8 a.Size.2.1 ∧ inR .u8 a.Size.2.2) (h1 : ∀ t ∈ a.A, okTriple t) (h2 : ∀ t ∈ a.B, okTriple t) (h3 : ∀ t ∈ a.M, okTriple t)
    (hQ : ∀ n k m A B M, (0 ≤ n ∧ n ≤ 13) → (0 ≤ k ∧ k ≤ 13) → (0 ≤ m ∧ m ≤ 13) → Canon n k A → Canon k m B → Canon n m M → (∀ t ∈ A, inI t.Val) → (∀ t ∈ B, inI t.Val) → (∀ t ∈ M, inI t.Val) → Q (builtS n k A, builtS k m B, builtS n m M)) : law15_Task_Three a Q := by
  unfold law15_Task_Three
  refine small_ok hs.1 fun n n0 n1 => small_ok hs.2.1 fun k k0 k1 => small_ok hs.2.2 fun m m0 m1 => ?_
  refine task_mat2 ⟨inR_small n0 (Int.le_trans n1 (by decide)), inR_small k0 (Int.le_trans k1 (by decide))⟩ h1 fun A hA vA => task_mat2 ⟨inR_small k0 (Int.le_trans k1 (by decide)), inR_small m0 (Int.le_trans m1 (by decide))⟩ h2 fun B hB vB => task_mat2 ⟨inR_small n0 (Int.le_trans n1 (by decide)), inR_small m0 (Int.le_trans m1 (by decide))⟩ h3 fun M hM vM => ?_
  simp only [sizeS_id n0 n1, sizeS_id k0 k1, sizeS_id m0 m1] at hA hB hM ⊢
  exact hQ n k m A B M ⟨n0, n1⟩ ⟨k0, k1⟩ ⟨m0, m1⟩ hA hB hM vA vB vM
/-! ### live -/
def T15 : List Triple := [⟨1, 0, 1⟩, ⟨2, 0, 1⟩, ⟨2, 1, 1⟩]
def R15 : List Triple := [⟨2, 0, 1⟩]
def C15 : Cell := ⟨2, 0, ⟨0, 1⟩⟩
def D15 : Cell := ⟨2, 0, ⟨0, 2⟩⟩
theorem T15_canon : Canon 3 3 T15 := ⟨by decide, by decide, by decide, by decide, by decide, by unfold Srt; decide, by decide⟩
theorem R15_canon : Canon 3 3 R15 := ⟨by decide, by decide, by decide, by decide, by decide, by unfold Srt; decide, by decide⟩
theorem concatC_ok {Q : List Cell → Prop} (hQ : Q [C15, C15]) : slices_Concat_api_Cell_api_Cell [[C15], [C15]] Q := by
  unfold slices_Concat_api_Cell_api_Cell slices_Grow_api_Cell_api_Cell
  refine ⟨3, ifP_pos (by decide) (idxP_intro (by decide) rfl (ifP_neg (by decide) (ifP_pos (by decide) (idxP_intro (by decide) rfl (ifP_neg (by decide) (ifP_neg (by decide) ?_))))))⟩
  have hk : loopP (fun (s : (List Cell) × Int) (next271 : ((List Cell) × Int) → Prop) => match s with | (s266, s270) => ifP (decide (s270 < ((([[C15], [C15]] : List (List Cell)).length : Nat) : Int))) (idxP [[C15], [C15]] s270 fun x278 => appP 32 s266 x278 fun _ => next271 ((s266 ++ x278), w64 (s270 + 1))) (Q s266)) ([], 0) :=
    ⟨3, ifP_pos (by decide) (idxP_intro (by decide) rfl (appP_intro (by decide) (ifP_pos (by decide) (idxP_intro (by decide) rfl (appP_intro (by decide) (ifP_neg (by decide) hQ))))))⟩
  exact ifP_neg (by decide) (ifP_pos (by decide) ⟨by decide, by decide, hk⟩)
theorem sortC_ok {Q : List Cell → Prop} (hQ : Q [C15, C15]) : slices_SortStableFunc_api_Cell_api_Cell_90a [C15, C15] Q := by
  unfold slices_SortStableFunc_api_Cell_api_Cell_90a slices_stableCmpFunc_api_Cell_076 slices_insertionSortCmpFunc_api_Cell_116 gemm_order_1ec
  refine ⟨1, ifP_neg (by decide) ⟨2, ifP_pos (by decide) ⟨1, ifP_pos (by decide) (idxP_intro (by decide) rfl (idxP_intro (by decide) rfl (cmp_int_ok (cmp_int_ok (or_ok (ifP_neg (by decide) (ifP_neg (by decide) ?_)))))))⟩⟩⟩
  exact ⟨1, ifP_neg (by decide) hQ⟩
theorem mergeC_ok {Q : List Cell × Int → Prop} (hQ : Q ([D15], 0)) : gemm_Merge 5 [[C15], [C15]] Q := by
  unfold gemm_Merge joinP
  refine ring_Is_ok (ifP_neg (by decide) ?_)
  unfold slices_ContainsFunc_api_Cell_api_Cell_85a slices_IndexFunc_api_Cell_api_Cell_95a gemm_Merge_1_823
  have hr : ([C15] : List Cell).Pairwise ltC := by simp
  refine ⟨3, ifP_pos (by decide) (idxP_intro (by decide) rfl (gemm_rises_ok (by decide) hr (ifP_neg (by decide) (ifP_pos (by decide) (idxP_intro (by decide) rfl (gemm_rises_ok (by decide) hr (ifP_neg (by decide) (ifP_neg (by decide) (ifP_neg (by decide) ?_)))))))))⟩
  refine concatC_ok (sortC_ok ⟨3, ifP_pos (by decide) (idxP_intro (by decide) rfl (ifP_neg (by decide) (ifP_neg (by decide) (appP_intro (by decide) (ifP_pos (by decide) (idxP_intro (by decide) rfl ?_))))))⟩)
  refine ifP_pos (by decide) (idxP_intro (by decide) rfl (gemm_order_ok (ifP_pos (by decide) (idxP_intro (by decide) rfl (ring_Add_ok (by unfold okW; decide) (by unfold okW; decide) (idxP_intro (by decide) rfl (ifP_neg (by decide) ?_)))))))
  exact hQ
theorem doneC3_ok {Q : Rows × Int → Prop} (hQ : Q (zR, 3)) : gemm_Done 5 1 1 [⟨1, 0, ⟨0, 0⟩⟩] Q := by
  unfold gemm_Done joinP gemm_within slices_ContainsFunc_api_Cell_api_Cell_72c slices_IndexFunc_api_Cell_api_Cell_05b gemm_Done_1_bab gemm_within
  refine ring_Is_ok (ifP_neg (by decide) (ifP_pos (by decide) (ifP_neg (by decide) (ifP_pos (by decide) (ifP_neg (by decide) ?_)))))
  exact ⟨1, ifP_pos (by decide) (idxP_intro (by decide) rfl (ifP_pos (by decide) (ifP_pos (by decide) (ifP_pos (by decide) (ifP_pos (by decide) hQ)))))⟩
theorem live15_ok {Q : Bool → Prop} (hQ : Q true) : law15_live Q := by
  unfold law15_live
  have hT : ∀ t ∈ T15, inI t.Val := by unfold inI; decide
  refine ref_Of_ok (by decide) (by unfold inI; decide) ?_
  rw [show ofS 5 3 3 ([({ Row := 1, Col := 0, Val := 1 } : Triple), ({ Row := 2, Col := 1, Val := 1 } : Triple), ({ Row := 2, Col := 0, Val := 1 } : Triple)]) = (builtS 3 3 T15, 0) by decide +kernel]
  refine gemm_Cells_ok T15_canon T15_canon T15_canon hT hT ?_
  rw [show cellsR 5 3 3 3 3 3 3 T15 T15 T15 = ([C15], 0) by decide +kernel]
  refine gemm_Times_ok T15_canon T15_canon T15_canon hT hT ?_
  rw [show timesS 5 3 3 3 3 3 3 T15 T15 T15 = (builtS 3 3 R15, 0) by decide +kernel]
  refine gemm_Total_ok R15_canon (by unfold inI; decide) ?_
  rw [show totS 5 R15 = (1, 0) by decide +kernel]
  refine mergeC_ok (doneC3_ok ?_)
  exact ifP_pos rfl (ifP_pos rfl (idxP_intro (by decide) rfl (ifP_pos rfl (ifP_pos rfl (ifP_pos rfl (ifP_pos rfl (ifP_pos rfl (ifP_pos rfl (ifP_pos rfl (idxP_intro (by decide) rfl (ifP_pos rfl hQ)))))))))))
/-! ### GemmTells -/
end Go.Proofs.YtjabmpfcpekpdaaGreat

/- GemmTurns: the product turned is that of both turned. -/
namespace Go.Proofs.YtjabmpfcpekpdaaGreat
open Go Go.Fw
set_option linter.unusedVariables false
set_option linter.unusedSimpArgs false
theorem row_look {rows cols : Int} {T : List Triple} (h : Canon rows cols T) {i j a : Int} (hi : 0 ≤ i) : lkI (rowI T i) j = some a ↔ (⟨i, j, a⟩ : Triple) ∈ T := by
  unfold rowI
  rw [lkI_iff (seg_inc h.srt i.toNat), List.mem_map]
  unfold segS
  constructor
  · rintro ⟨t, ht, he⟩
    obtain ⟨h1, h2⟩ := List.mem_filter.1 ht
    have h3 := of_decide_eq_true h2
    unfold itS at he
    obtain ⟨tr, tc, tv⟩ := t
    simp only [Item.mk.injEq] at he h3
    obtain ⟨rfl, rfl⟩ := he
    rw [show i = tr by omega]
    exact h1
  · intro ht
    exact ⟨_, List.mem_filter.2 ⟨ht, by simp; omega⟩, rfl⟩
theorem cell_row {r rows cols : Int} {A B : List Triple} (h : Canon rows cols A) {i : Int} (hi : 0 ≤ i) (c : Int) : cellW r A B i c = rowW r cols.toNat (lkI (rowI A i)) (bAt B c) := by
  unfold cellW
  refine row_fold (seg_inc h.srt _) (fun x hx => ?_)
  obtain ⟨t, ht, rfl⟩ := List.mem_map.1 hx
  have := h.inn t (List.mem_filter.1 ht).1
  unfold inT at this
  unfold itS
  dsimp only
  omega
end Go.Proofs.YtjabmpfcpekpdaaGreat

/- GemmParts: what both parts of two matrices come to, merged, is what the whole ones do. -/
namespace Go.Proofs.YtjabmpfcpekpdaaGreat
open Go Go.Fw
set_option linter.unusedVariables false
set_option linter.unusedSimpArgs false
theorem cut_any {rows cols : Int} {T : List Triple} (h : Canon rows cols T) {l u c d : Int} (l0 : 0 ≤ l) (l1 : l ≤ u) (l2 : u ≤ rows) (h0 : 0 ≤ c) (h1 : c ≤ d) (h2 : d ≤ cols) :
    cutS rows cols T (l, u) (c, d) = builtS (u - l) (d - c) (cutT l u c d T) ∧ Canon (u - l) (d - c) (cutT l u c d T) ∧ ∀ i j : Int, 0 ≤ i → i < u - l → 0 ≤ j → j < d - c → lkI (rowI (cutT l u c d T) i) j = lkI (rowI T (i + l)) (j + c) := by
  have e1 : cLo l = l := by unfold cLo; split <;> omega
  have e2 : cHi u rows = u := by unfold cHi; split <;> omega
  have e3 : ext l u rows = u - l := by unfold ext; rw [e1, e2]; split <;> omega
  have e4 : cLo c = c := by unfold cLo; split <;> omega
  have e5 : cHi d cols = d := by unfold cHi; split <;> omega
  have e6 : ext c d cols = d - c := by unfold ext; rw [e4, e5]; split <;> omega
  have hc := cut_canon h (l, u) (c, d)
  simp only [e1, e2, e3, e4, e5, e6] at hc
  refine ⟨by unfold cutS; simp only [e1, e2, e3, e4, e5, e6], hc, fun i j hi0 hi1 hj0 hj1 => opt_ext fun a => ?_⟩
  rw [row_look hc hi0, row_look h (by omega), cut_mem]
  exact ⟨fun hh => hh.1, fun hh => ⟨hh, ⟨hi0, by dsimp only; omega⟩, hj0, by dsimp only; omega⟩⟩
theorem cut_vals {l u c d : Int} {T : List Triple} (h : ∀ t ∈ T, inI t.Val) : ∀ t ∈ cutT l u c d T, inI t.Val := fun t ht => by
  have := h _ ((cut_mem t).1 ht).1
  exact this
theorem end_cells {r : Int} {k : Key} {A B : List Triple} {t : Triple} {M : List Triple} : endC r k (cellsS r A B (t :: M)) = cmb r (if (t.Row, t.Col) = k then cellW r A B t.Row t.Col else none) (endC r k (cellsS r A B M)) := by
  unfold cellsS
  rw [List.filterMap_cons]
  unfold cellO
  cases hw : cellW r A B t.Row t.Col with
  | none => simp [cmb]
  | some w =>
    simp only [Option.map_some, endC]
    rfl
theorem end_cells_none {r : Int} {k : Key} {A B : List Triple} : ∀ {M : List Triple}, (∀ t ∈ M, (t.Row, t.Col) ≠ k) → endC r k (cellsS r A B M) = none
  | [], _ => rfl
  | t :: M, h => by rw [end_cells, if_neg (h t (by simp)), end_cells_none fun u hu => h u (List.mem_cons_of_mem _ hu)]; rfl
theorem end_split {r : Int} {k : Key} {A B A1 B1 A2 B2 : List Triple} : ∀ {M : List Triple}, Srt M → (∀ t ∈ M, cellW r A B t.Row t.Col = cmb r (cellW r A1 B1 t.Row t.Col) (cellW r A2 B2 t.Row t.Col)) →
    endC r k (cellsS r A B M) = cmb r (endC r k (cellsS r A1 B1 M)) (endC r k (cellsS r A2 B2 M))
  | [], _, _ => rfl
  | t :: M, hs, h => by
    unfold Srt at hs
    rw [List.pairwise_cons] at hs
    rw [end_cells, end_cells, end_cells]
    by_cases e : (t.Row, t.Col) = k
    · have hn : ∀ u ∈ M, (u.Row, u.Col) ≠ k := fun u hu e' => by
        have := hs.1 u hu
        unfold key at this
        rw [e, e'] at this
        exact ltK_irrefl _ this
      rw [if_pos e, if_pos e, if_pos e, end_cells_none hn, end_cells_none hn, end_cells_none hn, cmb_none, cmb_none, cmb_none]
      exact h t (by simp)
    · rw [if_neg e, if_neg e, if_neg e]
      exact end_split hs.2 fun u hu => h u (List.mem_cons_of_mem _ hu)
theorem cells_ok2 {r : Int} {A B M : List Triple} {rm cm : Int} (hM : Canon rm cm M) : StrC (cellsS r A B M) ∧ okC (cellsS r A B M) ∧ (cellsS r A B M).length ≤ 65536 := by
  have h := cells_P (r := r) (ra := 0) (ca := 0) (rb := 0) (cb := 0) (A := A) (B := B) hM
  exact ⟨h.inc, h.ok, h.len⟩
theorem GemmParts_ok (a0 : Law15_Task) (a1 : Int) (h0 : okLaw15_Task a0) (h1 : inR .u8 a1) : law15_GemmParts a0 a1 (fun r => r = true) := by
  unfold law15_GemmParts
  have hb1 := bounds_u8 h1
  refine three_ok h0.2.1 h0.2.2.1.1 h0.2.2.2.1.1 h0.2.2.2.2.1 fun n k m A B M hn hk hm hA hB hM vA vB vM => right_is ?_
  have hr := ringS_b a0.Ring
  generalize ringS a0.Ring = r at hr
  dsimp only
  rw [show (builtS k m B).Cols = m from rfl, show (builtS n k A).Rows = n from rfl, show (builtS n k A).Cols = k from rfl]
  have ek : (w64 a1).tmod (w64 (k + 1)) = a1 % (k + 1) := by rw [w64_id (x := a1) (by omega) (by omega), w64_id (x := k + 1) (by omega) (by omega), Int.tmod_eq_emod_of_nonneg (by omega)]
  rw [ek, w64_id (x := k + 1) (by omega) (by omega)]
  refine ⟨by omega, ?_⟩
  have hx0 : 0 ≤ a1 % (k + 1) := Int.emod_nonneg _ (by omega)
  have hx1 : a1 % (k + 1) < k + 1 := Int.emod_lt_of_pos _ (by omega)
  generalize a1 % (k + 1) = x at hx0 hx1
  refine gemm_Cells_ok hA hB hM vA vB ?_
  have ec : ∀ (q : Int) (A' B' : List Triple), cellsR r n q q m n m A' B' M = (cellsS r A' B' M, 0) := fun q A' B' => by unfold cellsR; rw [if_neg (by omega), if_neg (by omega)]
  rw [ec]
  dsimp only
  have triv : ∀ {P : Bool → Prop}, P true → law15_live fun b => ifP b (P ((0 : Int) == 0)) (P false) := fun h => live15_ok (ifP_pos rfl h)
  refine ifP_eq (fun _ => live15_ok (ifP_pos rfl rfl)) (fun _ => ifP_eq (fun _ => live15_ok (ifP_pos rfl rfl)) (fun _ => ifP_eq (fun _ => live15_ok (ifP_pos rfl rfl)) (fun _ => ifP_eq (fun _ => live15_ok (ifP_pos rfl rfl)) (fun _ => ifP_eq (fun _ => live15_ok (ifP_pos rfl rfl)) (fun _ => ?_)))))
  obtain ⟨c1, cA1, lA1⟩ := cut_any hA (l := 0) (u := n) (c := 0) (d := x) (by omega) hn.1 (by omega) (by omega) hx0 (by omega)
  obtain ⟨c2, cB1, lB1⟩ := cut_any hB (l := 0) (u := x) (c := 0) (d := m) (by omega) hx0 (by omega) (by omega) hm.1 (by omega)
  obtain ⟨c3, cA2, lA2⟩ := cut_any hA (l := 0) (u := n) (c := x) (d := k) (by omega) hn.1 (by omega) hx0 (by omega) (by omega)
  obtain ⟨c4, cB2, lB2⟩ := cut_any hB (l := x) (u := k) (c := 0) (d := m) hx0 (by omega) (by omega) (by omega) hm.1 (by omega)
  simp only [Int.sub_zero, Int.add_zero] at c1 cA1 lA1 c2 cB1 lB1 c3 cA2 lA2 c4 cB2 lB2
  refine csr_cut_ok hA.sml (sure_built hA) hA (csr_cut_ok hB.sml (sure_built hB) hB ?_)
  rw [c1, c2]
  refine gemm_Cells_ok cA1 cB1 hM (cut_vals vA) (cut_vals vB) ?_
  rw [ec]
  refine csr_cut_ok hA.sml (sure_built hA) hA (csr_cut_ok hB.sml (sure_built hB) hB ?_)
  rw [c3, c4]
  refine gemm_Cells_ok cA2 cB2 hM (cut_vals vA) (cut_vals vB) ?_
  rw [ec]
  dsimp only
  generalize hA1 : cutT 0 n 0 x A = A1 at cA1 lA1
  generalize hB1 : cutT 0 x 0 m B = B1 at cB1 lB1
  generalize hA2 : cutT 0 n x k A = A2 at cA2 lA2
  generalize hB2 : cutT x k 0 m B = B2 at cB2 lB2
  obtain ⟨s0, o0, z0⟩ := cells_ok2 (r := r) (A := A) (B := B) hM
  obtain ⟨s1, o1, z1⟩ := cells_ok2 (r := r) (A := A1) (B := B1) hM
  obtain ⟨s2, o2, z2⟩ := cells_ok2 (r := r) (A := A2) (B := B2) hM
  have hcell : ∀ t ∈ M, cellW r A B t.Row t.Col = cmb r (cellW r A1 B1 t.Row t.Col) (cellW r A2 B2 t.Row t.Col) := fun t ht => by
    have hin := hM.inn t ht
    unfold inT at hin
    rw [cell_row hA hin.1, cell_row cA1 hin.1, cell_row cA2 hin.1, show k.toNat = x.toNat + (k - x).toNat by omega, rowW_add]
    congr 1
    · refine rowW_congr (fun j hj => ?_) (fun j hj => ?_)
      · exact (lA1 _ _ hin.1 hin.2.1 (by omega) (by omega)).symm
      · unfold bAt; exact (lB1 _ _ (by omega) (by omega) hin.2.2.1 hin.2.2.2).symm
    · refine rowW_congr (fun j hj => ?_) (fun j hj => ?_)
      · rw [Int.toNat_of_nonneg hx0]; exact (lA2 _ _ hin.1 hin.2.1 (by omega) (by omega)).symm
      · rw [Int.toNat_of_nonneg hx0]; unfold bAt; exact (lB2 _ _ (by omega) (by omega) hin.2.2.1 hin.2.2.2).symm
  have efl : ([cellsS r A1 B1 M, cellsS r A2 B2 M] : List (List Cell)).flatten = cellsS r A1 B1 M ++ cellsS r A2 B2 M := by simp
  refine gemm_Merge_ok (by simp) (by rw [efl, List.length_append]; omega) (by rw [efl]; exact fun c hc => (List.mem_append.1 hc).elim (o1 c) (o2 c)) (fun h => absurd hr h) (fun _ h => absurd (fun l hl => ?_) h) (fun _ _ s hs ho hsl he => ?_)
  · simp only [List.mem_cons, List.not_mem_nil, or_false] at hl
    rcases hl with rfl | rfl
    · exact s1
    · exact s2
  · have hall : s = cellsS r A B M := str_uniq (r := r) hs s0 fun key => by rw [he, efl, end_append o1 o2, end_split hM.srt hcell]
    subst hall
    dsimp only
    exact live15_ok (ifP_pos rfl (ifP_pos rfl (ifP_pos rfl (ifP_pos rfl (ifP_pos rfl (sameCells_ok (by omega) rfl rfl))))))
end Go.Proofs.YtjabmpfcpekpdaaGreat

