/- The statement PostOrder, in plain Lean: each frame is handed over once, one behind the other. -/
import Derived.Test.YtjpmbedipdkakaaPostB
namespace Go.Proofs.Ytjpmbedipdkakaa
open Go Go.Fw
set_option linter.unusedVariables false
set_option linter.unusedSimpArgs false
variable {b : Post_Box} {s : Abs}
/-- what was sent and not handed over is in the box -/
def Ord (s : Abs) : Prop := ∀ k, s.taken ≤ k → k < s.fs.length → k ∈ s.row
theorem mem_erase {l : List Nat} {i m : Nat} (hi : i < l.length) (hm : m ∈ l) (hne : m ≠ l[i]) : m ∈ l.eraseIdx i := by
  rw [← List.count_pos_iff, count_erase hi, if_neg hne, List.count_pos_iff]; exact hm
theorem send_full {s : Abs} (f : Frame) (h : s.full = true) : s.send f = (9, s) := by simp [Abs.send, h]
theorem ord_send {s : Abs} (f : Frame) (h : Ord s) : Ord (s.send f).2 := by
  cases hf : s.full with
  | true => rw [send_full f hf]; exact h
  | false =>
    rw [full_send f hf]
    intro k h1 h2
    simp only [List.length_append, List.length_singleton] at h2
    simp only [List.mem_append, List.mem_singleton]
    by_cases e : k = s.fs.length
    · exact .inr e
    · exact .inl (h k h1 (by omega))
theorem double_cases (s : Abs) (k : Int) : ∃ r, (s.double k).2 = { s with row := r } ∧ (∀ m ∈ s.row, m ∈ r) := by
  unfold Abs.double
  split
  · exact ⟨s.row, rfl, fun _ h => h⟩
  · split
    · exact ⟨s.row, rfl, fun _ h => h⟩
    · exact ⟨_, rfl, fun m h => List.mem_append_left _ h⟩
theorem move_cases (s : Abs) (k : Int) : ∃ r, (s.move k).2 = { s with row := r } ∧ (∀ m ∈ s.row, m ∈ r) := by
  unfold Abs.move
  by_cases h0 : s.at k ≠ 0
  · rw [if_pos h0]; exact ⟨s.row, rfl, fun _ h => h⟩
  · rw [if_neg h0]
    refine ⟨_, rfl, fun m h => ?_⟩
    obtain ⟨i, rfl, hi⟩ := at_zero (by simpa using h0)
    rw [num_nat hi]
    simp only [List.mem_append, List.mem_singleton, Int.toNat_natCast]
    by_cases e : m = s.row[i]
    · exact .inr e
    · exact .inl (mem_erase hi h e)
theorem take_cases (s : Abs) (k : Int) (hlt : ∀ n ∈ s.row, n < s.fs.length) (ho : Ord s) :
    ((s.take k).2.1 = false ∧ ∃ r, (s.take k).2.2.2 = { s with row := r } ∧ Ord { s with row := r } ∧ r.length ≤ s.row.length) ∨
    ((s.take k).2.1 = true ∧ (s.take k).2.2.1 = 0 ∧ s.taken < s.fs.length ∧ (s.take k).1 = s.fs.getD s.taken zf ∧ ∃ r, (s.take k).2.2.2 = { s with row := r, taken := s.taken + 1 } ∧ Ord { s with row := r, taken := s.taken + 1 } ∧ r.length ≤ s.row.length) := by
  unfold Abs.take
  by_cases h0 : s.at k ≠ 0
  · rw [if_pos h0]; exact .inl ⟨rfl, s.row, rfl, ho, Nat.le_refl _⟩
  · rw [if_neg h0]
    obtain ⟨i, rfl, hi⟩ := at_zero (by simpa using h0)
    rw [num_nat hi]
    have hm : s.row[i] ∈ s.row := List.getElem_mem hi
    have hl : (s.row.eraseIdx i).length ≤ s.row.length := by rw [List.length_eraseIdx]; split <;> omega
    by_cases h1 : s.taken < s.row[i]
    · rw [if_pos h1]; exact .inl ⟨rfl, s.row, rfl, ho, Nat.le_refl _⟩
    · rw [if_neg h1]
      simp only [Int.toNat_natCast]
      by_cases h2 : s.row[i] < s.taken
      · rw [if_pos h2]
        exact .inl ⟨rfl, _, rfl, fun m h3 h4 => mem_erase hi (ho m h3 h4) (by simp only at h3; omega), hl⟩
      · rw [if_neg h2]
        have he : s.row[i] = s.taken := by omega
        refine .inr ⟨rfl, rfl, by rw [← he]; exact hlt _ hm, by rw [he], _, rfl, fun m h3 h4 => ?_, hl⟩
        simp only at h3 h4
        exact mem_erase hi (ho m (by omega) h4) (by omega)
/-- the oldest one is taken -/
theorem take_oldest (s : Abs) (hlt : ∀ n ∈ s.row, n < s.fs.length) (htk : s.taken ≤ s.fs.length) (ho : Ord s) (hne : s.row ≠ []) : (s.take s.oldest).2.2.1 = 0 ∧ (s.take s.oldest).2.2.2.row.length + 1 = s.row.length := by
  obtain ⟨hi, hmin⟩ := oldest_spec hne
  have hlen : 0 < s.row.length := List.length_pos_iff.2 hne
  have eo : s.oldest = (oldestN s.row : Int) := by unfold Abs.oldest; rw [if_neg (by omega)]
  rw [eo]
  have ha : s.at (oldestN s.row : Int) = 0 := by unfold Abs.at; rw [if_neg (by omega), if_neg (by omega)]
  have hm : s.row[oldestN s.row] ∈ s.row := List.getElem_mem hi
  have hle : s.row[oldestN s.row] ≤ s.taken := by
    by_cases h : s.taken < s.fs.length
    · exact hmin _ (ho _ (Nat.le_refl _) h)
    · have := hlt _ hm; omega
  have hl : (s.row.eraseIdx (oldestN s.row)).length + 1 = s.row.length := by rw [List.length_eraseIdx, if_pos hi]; omega
  unfold Abs.take
  rw [if_neg (by rw [ha]; simp), num_nat hi, if_neg (by omega)]
  simp only [Int.toNat_natCast]
  split
  · exact ⟨rfl, hl⟩
  · exact ⟨rfl, hl⟩
theorem near_ok {k n : Int} {Q : Int → Prop} (hQ : ∀ x, Q x) : law20_Near k n Q := by
  unfold law20_Near
  refine ifP_dec (fun _ => hQ _) (fun _ => ifP_dec (fun _ => hQ _) (fun h => ifP_eq (fun _ => hQ _) (fun _ => ⟨by omega, hQ _⟩)))
theorem row_le (h : Inv b s) : (s.row.length : Int) ≤ s.room := by have := h.rlen; omega
theorem PostOrder_ok (a : Int) (l : List Law20_Act) (h : inR .u8 a) : law20_PostOrder a l (fun r => r = true) := by
  obtain ⟨h1, h2⟩ := bounds_u8 h
  unfold law20_PostOrder
  have hm : a.tmod 64 = a % 64 := Int.tmod_eq_emod_of_nonneg h1
  have hn : w64 ((w64 a).tmod 64 + 1) = a % 64 + 1 := by
    have e0 : w64 a = a := w64_id (by omega) (by omega)
    rw [e0, hm, w64_id (by omega) (by omega)]
  rw [hn]
  refine new_ok (fun hno => absurd ⟨by omega, by omega⟩ hno) fun n b hb hn1 hn64 hinv => ?_
  rw [hb]
  refine ifP_ne (fun h0 => absurd rfl h0) (fun _ => ?_)
  refine join_intro (fun t : Int × List Int × List (Int × Frame) × List (Int × Int) × Int × Int × List Int × Int => ∃ s : Abs, Inv ⟨t.1, t.2.1, t.2.2.1, t.2.2.2.1, t.2.2.2.2.1, t.2.2.2.2.2.1⟩ s ∧ Ord s ∧ s.room = n ∧ s.fs.length ≤ 80 ∧ t.2.2.2.2.2.2.1 = s.fs.map (·.N) ∧ t.2.2.2.2.2.2.2 = s.taken) ?_ fun k' hk' => ?_
  · -- what is left comes by taking the oldest one
    rintro ⟨t1, t2, t3, t4, t5, t6, t7, t8⟩ ⟨s, hI, hO, hr, hf, hs, hg⟩
    simp only at hI hs hg
    subst hs hg
    refine loop_intro (fun u : Int × List Int × List (Int × Frame) × List (Int × Int) × Int × Int × Int => ∃ s' : Abs, Inv ⟨u.1, u.2.1, u.2.2.1, u.2.2.2.1, u.2.2.2.2.1, u.2.2.2.2.2.1⟩ s' ∧ Ord s' ∧ s'.fs = s.fs ∧ u.2.2.2.2.2.2 = s'.taken) (fun u => u.2.1.length) ⟨s, hI, hO, rfl, rfl⟩ ?_
    rintro ⟨u1, u2, u3, u4, u5, u6, u7⟩ next ⟨s', hI', hO', hfs, hg'⟩ hnext
    simp only at hI' hg'
    subst hg'
    have hrow2 : u2.length = s'.row.length := by have := hI'.row; simp only at this; rw [this]; simp
    refine len_ok hI' (ifP_dec (fun hpos => len_ok hI' (oldest_ok hI' (take_ok hI' fun b2 hI2 => ?_))) (fun hnp => live_ok (ifP_pos rfl ?_)))
    · have hne : s'.row ≠ [] := fun e => by rw [e] at hpos; simp at hpos
      obtain ⟨he, hshort⟩ := take_oldest s' hI'.lt hI'.tk hO' hne
      have hrow3 : b2.row.length = (s'.take s'.oldest).2.2.2.row.length := by rw [hI2.row]; simp
      rcases take_cases s' s'.oldest hI'.lt hO' with ⟨hok, r, hs2, hO2, _⟩ | ⟨hok, _, hlt, hfr, r, hs2, hO2, _⟩
      · rw [hok, he]
        refine ifP_neg rfl (ifP_ne (fun h0 => absurd rfl h0) (fun _ => len_ok hI2 (ifP_dec (fun hge => by omega) (fun _ => hnext _ ⟨_, hI2, ?_, ?_, ?_⟩ ?_))))
        · rw [hs2]; exact hO2
        · rw [hs2]; exact hfs
        · rw [hs2]
        · simp only; omega
      · rw [hok, he, hfr]
        have hlt2 : s'.taken < s.fs.length := by rw [← hfs]; exact hlt
        have hgd : s'.fs.getD s'.taken zf = s.fs[s'.taken] := by simp [hfs, hlt2]
        rw [hgd]
        refine ifP_pos rfl (ifP_dec (fun hge => by simp at hge; omega) (fun _ => idxP_intro (by omega) (x := (s.fs[s'.taken]).N) (by simp [hlt2]) (ifP_ne (fun h0 => absurd rfl h0) (fun _ => ifP_ne (fun h0 => absurd rfl h0) (fun _ => len_ok hI2 (ifP_dec (fun hge => by omega) (fun _ => hnext _ ⟨_, hI2, ?_, ?_, ?_⟩ ?_)))))))
        · rw [hs2]; exact hO2
        · rw [hs2]; exact hfs
        · rw [hs2]; simp only
          rw [w64_id (by omega) (by omega)]; simp
        · simp only; omega
    · have hnil : s'.row = [] := List.eq_nil_of_length_eq_zero (by omega)
      have htk := hI'.tk
      have : s'.taken = s'.fs.length := by
        by_cases h : s'.taken < s'.fs.length
        · have := hO' _ (Nat.le_refl _) h; rw [hnil] at this; simp at this
        · omega
      rw [this, hfs]; simp
  · refine loop_intro (fun t : Int × List Int × List (Int × Frame) × List (Int × Int) × Int × Int × List Int × Int × Int => ∃ (i : Nat) (s : Abs), t.2.2.2.2.2.2.2.2 = i ∧ Inv ⟨t.1, t.2.1, t.2.2.1, t.2.2.2.1, t.2.2.2.2.1, t.2.2.2.2.2.1⟩ s ∧ Ord s ∧ s.room = n ∧ s.fs.length ≤ i ∧ i ≤ 80 ∧ t.2.2.2.2.2.2.1 = s.fs.map (·.N) ∧ t.2.2.2.2.2.2.2.1 = s.taken) (fun t => 80 - t.2.2.2.2.2.2.2.2.toNat) ⟨0, _, rfl, hinv, fun k h1 h2 => by simp at h2, rfl, by simp, by omega, rfl, rfl⟩ ?_
    rintro ⟨t1, t2, t3, t4, t5, t6, t7, t8, t9⟩ next ⟨i, s, hi, hI, hO, hr, hfi, hi80, hs, hg⟩ hnext
    simp only at hi hI hs hg
    subst hi hs hg
    have hfin : k' (t1, t2, t3, t4, t5, t6, s.fs.map (·.N), (s.taken : Int)) := hk' _ ⟨s, hI, hO, hr, by omega, rfl, rfl⟩
    refine ifP_dec (fun hlen => ifP_dec (fun h80 => ?_) (fun _ => hfin)) (fun _ => hfin)
    have hil : i < l.length := by omega
    have ew : w64 ((i : Int) + 1) = ((i + 1 : Nat) : Int) := by rw [w64_id (by omega) (by omega)]; simp
    -- behind each act
    have goon : ∀ (b2 : Post_Box) (s2 : Abs) (sent : List Int) (got : Int), Inv b2 s2 → Ord s2 → s2.room = n → s2.fs.length ≤ i + 1 → sent = s2.fs.map (·.N) → got = s2.taken →
        post_Box_Len_i10 b2 fun r => ifP (decide ((n : Int) < r)) (false = true) (next (b2.room, b2.row, b2.by_, b2.often, b2.sent, b2.taken, sent, got, w64 ((i : Int) + 1))) := by
      intro b2 s2 sent got hI2 hO2 hr2 hf2 hs2 hg2
      have := row_le hI2
      refine len_ok hI2 (ifP_dec (fun hbig => by omega) (fun _ => hnext _ ⟨i + 1, s2, ew, hI2, hO2, hr2, hf2, by omega, hs2, hg2⟩ ?_))
      simp only [ew]; omega
    refine idxP_intro (by omega) (x := l[i]) (by simp [hil]) (len_ok hI (near_ok fun k => ifP_eq (fun _ => ?_) (fun _ => ifP_eq (fun _ => ?_) (fun _ => ifP_eq (fun _ => ?_) (fun _ => ?_)))))
    · refine len_ok hI (send_ok (f := fr l[i].N) hI (small_fr _) (by omega) fun b2 hI2 => ?_)
      cases hf : s.full with
      | true =>
        have hfl : s.row.length = n := by have := hI.rlen; unfold Abs.full at hf; simp at hf; omega
        rw [send_full _ hf] at hI2
        rw [send_full _ hf]
        refine join_intro (fun t => t = false) (fun t ht => ?_) fun k2 hk2 => ?_
        · subst ht
          exact ifP_neg rfl (ifP_neg rfl (goon b2 s _ _ hI2 hO hr (by omega) rfl rfl))
        · refine ifP_neg ?_ (ifP_neg rfl (hk2 _ rfl))
          rw [hfl]; simp
      | false =>
        have hfl : s.row.length ≠ n := by unfold Abs.full at hf; simp at hf; omega
        have hO2 := ord_send (fr l[i].N) hO
        rw [full_send _ hf] at hI2 hO2
        rw [full_send _ hf]
        have hne : ((s.row.length : Int) == (n : Int)) = false := by rw [beq_eq_false_iff_ne]; omega
        refine join_intro (fun t => t = false) (fun t ht => ?_) fun k2 hk2 => ?_
        · subst ht
          refine ifP_neg rfl (ifP_pos rfl (appP_intro (by simp; omega) (goon b2 _ _ _ hI2 hO2 hr (by simp; omega) ?_ rfl)))
          simp [fr]
        · refine ifP_neg ?_ (ifP_pos rfl ?_)
          · rw [hne]; rfl
          · rw [hne]; exact hk2 _ rfl
    · refine double_ok hI fun b2 hI2 => ?_
      obtain ⟨r, hd, hsub⟩ := double_cases s k
      rw [hd] at hI2
      exact goon b2 _ _ _ hI2 (fun m h3 h4 => hsub m (hO m h3 h4)) hr (by simp only; omega) rfl rfl
    · refine move_ok hI fun b2 hI2 => ?_
      obtain ⟨r, hd, hsub⟩ := move_cases s k
      rw [hd] at hI2
      exact goon b2 _ _ _ hI2 (fun m h3 h4 => hsub m (hO m h3 h4)) hr (by simp only; omega) rfl rfl
    · refine take_ok hI fun b2 hI2 => ?_
      rcases take_cases s k hI.lt hO with ⟨hok, r, hs2, hO2, _⟩ | ⟨hok, _, hlt, hfr, r, hs2, hO2, _⟩
      · rw [hok]
        rw [hs2] at hI2
        exact ifP_neg rfl (goon b2 _ _ _ hI2 hO2 hr (by simp only; omega) rfl rfl)
      · rw [hok, hfr]
        rw [hs2] at hI2
        have hgd : s.fs.getD s.taken zf = s.fs[s.taken] := by simp [hlt]
        have hsq := (hI.seq _ _ (List.getElem?_eq_getElem hlt)).1
        rw [hgd]
        refine ifP_pos rfl (ifP_dec (fun hge => by simp at hge; omega) (fun _ => idxP_intro (by omega) (x := (s.fs[s.taken]).N) (by simp [hlt]) (ifP_ne (fun h0 => absurd rfl h0) (fun _ => ifP_ne (fun h0 => absurd hsq h0) (fun _ => goon b2 _ _ _ hI2 hO2 hr (by simp only; omega) rfl ?_)))))
        simp only; rw [w64_id (by omega) (by omega)]; simp
end Go.Proofs.Ytjpmbedipdkakaa
