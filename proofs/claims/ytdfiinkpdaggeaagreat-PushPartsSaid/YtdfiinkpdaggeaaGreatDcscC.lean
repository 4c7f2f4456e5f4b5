/- Matrices by columns: put together, read, taken back. -/
import Derived.Test.YtdfiinkpdaggeaaGreatDcscB
namespace Go.Proofs.YtdfiinkpdaggeaaGreat
open Go Go.Fw
set_option linter.unusedVariables false
set_option linter.unusedSimpArgs false
/-! ### One triple more -/
theorem atS_old {n : Nat} {T : List Triple} {t : Triple} (h : ∃ u ∈ T, u.Row = t.Row) : atS n (T ++ [t]) = atS n T := by
  refine incr_ext (atS_incr _ _) (atS_incr _ _) fun x => ?_
  rw [atS_mem, atS_mem]
  obtain ⟨u, hu, e⟩ := h
  constructor
  · rintro ⟨h1, v, hv, rfl⟩
    rcases List.mem_append.1 hv with hv | hv
    · exact ⟨h1, v, hv, rfl⟩
    · simp at hv; subst hv; exact ⟨h1, u, hu, e⟩
  · rintro ⟨h1, v, hv, e'⟩; exact ⟨h1, v, by simp [hv], e'⟩
theorem atS_new {n : Nat} {T : List Triple} {t : Triple} (h0 : 0 ≤ t.Row) (h1 : t.Row < n) (h : ∀ u ∈ T, u.Row < t.Row) : atS n (T ++ [t]) = atS n T ++ [t.Row] := by
  refine incr_ext (atS_incr _ _) ?_ fun x => ?_
  · rw [List.pairwise_append]
    refine ⟨atS_incr _ _, by simp, fun a ha b hb => ?_⟩
    simp at hb; subst hb
    obtain ⟨_, u, hu, rfl⟩ := atS_mem.1 ha
    exact h u hu
  · rw [List.mem_append, atS_mem, atS_mem]
    constructor
    · rintro ⟨g, v, hv, rfl⟩
      rcases List.mem_append.1 hv with hv | hv
      · exact .inl ⟨g, v, hv, rfl⟩
      · simp at hv; subst hv; simp
    · rintro (⟨g, v, hv, e⟩ | hx)
      · exact ⟨g, v, by simp [hv], e⟩
      · simp at hx; subst hx; exact ⟨⟨h0, h1⟩, t, by simp, rfl⟩
theorem atS_nil (n : Nat) : atS n [] = [] := by unfold atS; rw [List.filter_eq_nil_iff.2 (by simp [anyR])]; rfl
theorem stS_nil (n : Nat) : stS n [] = [0] := by unfold stS; rw [atS_nil]; rfl
theorem below_full {T : List Triple} {x : Nat} (h : ∀ u ∈ T, u.Row < (x : Int)) : below T x = T.length := by
  unfold below; rw [List.countP_eq_length.2]; intro t ht; simpa using h t ht
theorem stS_new {n : Nat} {T : List Triple} {t : Triple} (h0 : 0 ≤ t.Row) (h1 : t.Row < n) (h : ∀ u ∈ T, u.Row < t.Row) : stS n (T ++ [t]) = stS n T ++ [(T.length : Int) + 1] := by
  unfold stS
  rw [atS_new h0 h1 h, List.map_append, List.cons_append]
  congr 2
  · refine List.map_congr_left fun x hx => ?_
    obtain ⟨_, u, hu, e⟩ := atS_mem.1 hx
    have := h u hu
    rw [below_snoc, if_neg (by omega)]; omega
  · simp only [List.map_cons, List.map_nil]
    rw [below_full (fun u hu => ?_)]
    · simp
    · rcases List.mem_append.1 hu with hu | hu
      · have := h u hu; omega
      · simp at hu; subst hu; omega
theorem last_is {l : List Int} (hl : l.Pairwise (· < ·)) {x : Int} (hx : x ∈ l) (hm : ∀ y ∈ l, y ≤ x) : at0 l ((l.length : Int) - 1) = x := by
  obtain ⟨q, hq, e⟩ := mem_at0 hx
  by_cases h : q = l.length - 1
  · subst h; rw [← e]; congr 1; omega
  · have h1 := incr_at hl (show q < l.length - 1 by omega) (by omega)
    have h2 := hm _ (at0_mem (xs := l) (i := ((l.length - 1 : Nat) : Int)) (by omega) (by omega))
    omega
theorem stS_old {n : Nat} {T : List Triple} {t : Triple} (h0 : 0 ≤ t.Row) (h1 : t.Row < n) (h : ∃ u ∈ T, u.Row = t.Row) (hm : ∀ u ∈ T, u.Row ≤ t.Row) : stS n (T ++ [t]) = (stS n T).set (atS n T).length ((T.length : Int) + 1) := by
  obtain ⟨u, hu, eu⟩ := h
  have hmem : t.Row ∈ atS n T := atS_mem.2 ⟨⟨h0, h1⟩, u, hu, eu⟩
  have hmax : ∀ y ∈ atS n T, y ≤ t.Row := fun y hy => by obtain ⟨_, v, hv, rfl⟩ := atS_mem.1 hy; exact hm v hv
  have hlast := last_is (atS_incr n T) hmem hmax
  have hpos : 0 < (atS n T).length := List.length_pos_of_mem hmem
  unfold stS
  rw [atS_old ⟨u, hu, eu⟩]
  obtain ⟨m, hm'⟩ : ∃ m, (atS n T).length = m + 1 := ⟨(atS n T).length - 1, by omega⟩
  rw [hm', List.set_cons_succ]
  congr 1
  apply List.ext_getElem?
  intro i
  by_cases hi : i < m + 1
  · have hil : i < (atS n T).length := by omega
    have ei : (atS n T)[i] = at0 (atS n T) i := by unfold at0; simp [List.getD_eq_getElem?_getD, hil]
    by_cases e : m = i
    · subst e
      rw [List.getElem?_set_self (by simp; omega)]
      simp only [List.getElem?_map, List.getElem?_eq_getElem hil, Option.map_some, ei]
      rw [hm', show ((m + 1 : Nat) : Int) - 1 = (m : Int) by omega] at hlast
      rw [hlast, below_full (fun v hv => ?_)]
      · simp
      · rcases List.mem_append.1 hv with hv | hv
        · have := hm v hv; omega
        · simp at hv; subst hv; omega
    · rw [List.getElem?_set_ne e]
      simp only [List.getElem?_map, List.getElem?_eq_getElem hil, Option.map_some, ei]
      have h2 := incr_at (atS_incr n T) (show i < m by omega) (by omega)
      rw [hm', show ((m + 1 : Nat) : Int) - 1 = (m : Int) by omega] at hlast
      rw [hlast] at h2
      have h3 := (at_in hil).1
      rw [below_snoc, if_neg (by omega)]; simp
  · rw [List.getElem?_eq_none (by simp; omega), List.getElem?_eq_none (by simp; omega)]
theorem srt_le {T : List Triple} (h : Srt T) {i : Nat} (hi : i < T.length) : ∀ u ∈ T.take i, u.Row ≤ T[i].Row := by
  intro u hu
  obtain ⟨j, hj, rfl⟩ := List.getElem_of_mem hu
  simp only [List.length_take] at hj
  rw [List.getElem_take]
  have := List.pairwise_iff_getElem.1 h j i (by omega) hi (by omega)
  unfold ltK key at this
  simp only at this; omega
/-! ### Of -/
theorem take_snoc {T : List Triple} {i : Nat} (hi : i < T.length) : T.take (i + 1) = T.take i ++ [T[i]] := List.take_succ_eq_append_getElem hi
theorem dcsc_of_ok {a : Rows} {rows cols : Int} {ts : List Triple} {Q : Columns → Prop} (hl : small a) (hb : sureS a = builtS rows cols ts) (hR : RightP a → a = builtS rows cols ts) (hN : ¬ RightP a → rows = 0 ∧ cols = 0 ∧ ts = []) (h : Canon rows cols ts) (hQ : Q (colS rows cols (turnT cols ts))) : dcsc_Of a Q := by
  unfold dcsc_Of dcsc_none
  refine right_ok hl (ifP_not (fun hr => ?_) (fun hr => ?_))
  · obtain ⟨rfl, rfl, rfl⟩ := hN (by simpa using hr)
    rw [show turnT 0 ([] : List Triple) = [] from rfl, colS_nil] at hQ
    exact hQ
  have hr : RightP a := by simpa using hr
  have hT := turn_canon h
  refine csr_turn_ok hl hb h (csr_triples_ok hT.sml (sure_built hT) hT ?_)
  generalize turnT cols ts = T at hT hQ
  have hlen := hT.len; have hc0 := hT.r0; have hc1 := hT.r1
  have hat := fun i => atS_len cols.toNat (T.take i)
  refine range_intro (fun (s : List Int × List Int × List Int × List Int) (i : Int) => (s.1, s.2.1, s.2.2.1, s.2.2.2, i)) 0 T.length (by omega) (fun i s => s = (atS cols.toNat (T.take i), stS cols.toNat (T.take i), (T.take i).map (·.Col), (T.take i).map (·.Val))) (by omega) (s0 := ([], [0], [], [])) (by simp [atS_nil, stS_nil]) (fun i s next _ hi hm hn => ?_) (fun s next hm => ?_)
  · subst hm
    dsimp only
    have hin := hT.inn _ (List.getElem_mem hi)
    unfold inT at hin
    have hle := srt_le hT.srt hi
    refine ifP_dec (fun _ => ?_) (fun h => by omega)
    refine idxP_nat hi ?_
    have hlt : (T.take i).length = i := by simp; omega
    have hln := hat i
    have fin : ∀ (at' st' : List Int), at' = atS cols.toNat (T.take (i + 1)) → st'.set at'.length ((i : Int) + 1) = stS cols.toNat (T.take (i + 1)) → at'.length < st'.length →
        appP 8 ((T.take i).map (·.Col)) [T[i].Col] fun _ => appP 8 ((T.take i).map (·.Val)) [T[i].Val] fun _ => idxP st' (at'.length : Int) fun _ => next (at', st'.set (at'.length : Int).toNat (((T.take i).map (·.Col) ++ [T[i].Col]).length : Int), (T.take i).map (·.Col) ++ [T[i].Col], (T.take i).map (·.Val) ++ [T[i].Val], w64 ((i : Int) + 1)) := fun at' st' e1 e2 e3 => by
      refine appP_intro (by simp; omega) (appP_intro (by simp; omega) (idxP_nat e3 (hn (at', st'.set _ _, _, _) ?_)))
      have e4 : (((T.take i).map (·.Col) ++ [T[i].Col]).length : Int) = (i : Int) + 1 := by simp; omega
      rw [e4, Int.toNat_natCast, e2, e1, take_snoc hi, List.map_append, List.map_append]; rfl
    refine join_intro (fun s : List Int × List Int => s.1 = atS cols.toNat (T.take (i + 1)) ∧ s.2.set s.1.length ((i : Int) + 1) = stS cols.toNat (T.take (i + 1)) ∧ s.1.length < s.2.length) (fun s hs => fin s.1 s.2 hs.1 hs.2.1 hs.2.2) (fun k hk => ?_)
    by_cases hnew : ∃ u ∈ T.take i, u.Row = T[i].Row
    · have e1 := atS_old (n := cols.toNat) hnew
      have e2 := stS_old (n := cols.toNat) (by omega) (by omega) hnew hle
      rw [← take_snoc hi] at e1 e2
      rw [hlt] at e2
      obtain ⟨u, hu, eu⟩ := hnew
      have hmem : T[i].Row ∈ atS cols.toNat (T.take i) := atS_mem.2 ⟨⟨by omega, by omega⟩, u, hu, eu⟩
      have hpos := List.length_pos_of_mem hmem
      have hlast := last_is (atS_incr _ _) hmem (fun y hy => by obtain ⟨_, v, hv, rfl⟩ := atS_mem.1 hy; exact hle v hv)
      refine join_intro (fun b => b = false) (fun b hb => by subst hb; exact ifP_neg rfl (hk _ ⟨e1.symm, e2.symm, by rw [st_len]; exact Nat.lt_succ_self _⟩)) (fun k2 hk2 => ?_)
      refine ifP_eq (fun h => by omega) (fun _ => ?_)
      rw [w64_id (by omega) (by omega)]
      refine idxP_at0 (by omega) (by omega) (hk2 _ ?_)
      rw [hlast]; simp
    · have hlts : ∀ u ∈ T.take i, u.Row < T[i].Row := fun u hu => by
        have h1 := hle u hu
        have h2 : u.Row ≠ T[i].Row := fun e => hnew ⟨u, hu, e⟩
        omega
      have e1 := atS_new (n := cols.toNat) (by omega) (by omega) hlts
      have e2 := stS_new (n := cols.toNat) (by omega) (by omega) hlts
      rw [← take_snoc hi] at e1 e2
      rw [hlt] at e2
      refine join_intro (fun b => b = true) (fun b hb => ?_) (fun k2 hk2 => ?_)
      · subst hb
        refine ifP_pos rfl (appP_intro (by simp; omega) (appP_intro (by simp [st_len]; omega) (hk _ ⟨e1.symm, ?_, ?_⟩)))
        · rw [e2, List.length_append, List.length_singleton, ← st_len, List.set_append_right _ _ (Nat.le_refl _)]; simp
        · simp [st_len]
      · refine ifP_eq (fun _ => hk2 _ rfl) (fun h0 => ?_)
        rw [w64_id (by omega) (by omega)]
        refine idxP_at0 (by omega) (by omega) (hk2 _ ?_)
        have hne : at0 (atS cols.toNat (T.take i)) (((atS cols.toNat (T.take i)).length : Int) - 1) ≠ T[i].Row := fun e => by
          obtain ⟨_, u, hu, e'⟩ := atS_mem.1 (at0_mem (xs := atS cols.toNat (T.take i)) (i := ((atS cols.toNat (T.take i)).length : Int) - 1) (by omega) (by omega))
          exact hnew ⟨u, hu, e'.trans e⟩
        simpa using hne
  · subst hm
    dsimp only
    refine ifP_dec (fun h => by omega) (fun _ => ?_)
    rw [List.take_length, hR hr]
    exact hQ
/-! ### A column's place -/
theorem place_ok {c : Columns} {k : Int} {Q : Int → Prop} (hs : c.At.Pairwise (· < ·)) (hl : c.At.length ≤ 1000000000) (h1 : ∀ j : Nat, j < c.At.length → at0 c.At j = k → Q j) (h2 : (∀ j : Nat, j < c.At.length → at0 c.At j ≠ k) → Q (-1)) : dcsc_place c k Q := by
  unfold dcsc_place
  refine join_intro (fun s : Int × Int => (s.1 < s.2 ∧ ∃ j : Nat, s.1 = j ∧ j < c.At.length ∧ at0 c.At j = k) ∨ (¬ s.1 < s.2 ∧ ∀ j : Nat, j < c.At.length → at0 c.At j ≠ k)) (fun s hs => ?_) (fun kk hkk => ?_)
  · obtain ⟨s1, s2⟩ := s
    dsimp only
    rcases hs with ⟨hlt, j, rfl, hj, e⟩ | ⟨hge, hno⟩
    · exact ifP_dec (fun _ => h1 j hj e) (fun h => absurd hlt h)
    · exact ifP_dec (fun h => absurd h hge) (fun _ => h2 hno)
  refine loop_intro (fun s : Int × Int => ∃ lo hi : Nat, s = ((lo : Int), (hi : Int)) ∧ lo ≤ hi ∧ hi ≤ c.At.length ∧ (∀ j : Nat, j < lo → at0 c.At j < k) ∧ ∀ j : Nat, hi ≤ j → j < c.At.length → k < at0 c.At j) (fun s => (s.2 - s.1).toNat) ⟨0, c.At.length, rfl, by omega, by omega, by omega, by omega⟩ ?_
  rintro _ next ⟨lo, hi, rfl, hlh, hhl, hL, hH⟩ hn
  dsimp only
  refine ifP_dec (fun h => ?_) (fun h => hkk _ (.inr ⟨h, fun j hj e => ?_⟩))
  · obtain ⟨m, hm⟩ : ∃ m : Nat, m = lo + (hi - lo) / 2 := ⟨_, rfl⟩
    have em : w64 ((lo : Int) + (w64 ((w64 ((hi : Int) - lo)).tdiv 2))) = (m : Int) := by
      rw [w64_id (x := (hi : Int) - lo) (by omega) (by omega), Int.tdiv_eq_ediv_of_nonneg (by omega), w64_id (x := ((hi : Int) - lo) / 2) (by omega) (by omega), w64_id (by omega) (by omega)]
      omega
    rw [em]
    have e2 : w64 ((m : Int) + 1) = ((m + 1 : Nat) : Int) := by rw [w64_id (by omega) (by omega)]; omega
    rw [e2]
    refine idxP_at0 (by omega) (by omega) (ifP_eq (fun e => hkk _ (.inl ⟨by dsimp only; omega, m, rfl, by omega, e⟩)) (fun e => ?_))
    refine idxP_at0 (by omega) (by omega) (ifP_dec (fun hlt => hn _ ⟨m + 1, hi, rfl, by omega, hhl, fun j hj => ?_, hH⟩ (by simp only; omega)) (fun hge => hn _ ⟨lo, m, rfl, by omega, by omega, hL, fun j hj hjl => ?_⟩ (by simp only; omega)))
    · by_cases e' : j = m
      · subst e'; exact hlt
      · have := incr_at hs (show j < m by omega) (by omega); omega
    · by_cases e' : j = m
      · subst e'; omega
      · have := incr_at hs (show m < j by omega) hjl; omega
  · rcases Nat.lt_or_ge j lo with hc | hc
    · have := hL j hc; omega
    · have := hH j (by omega) hj; omega
end Go.Proofs.YtdfiinkpdaggeaaGreat
