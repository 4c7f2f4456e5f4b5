/- The oldest frame, all frames, what must be whatever is asked; the statement PostFull, in plain Lean. -/
import Derived.Test.YtjpmbedipdkakaaPostA
namespace Go.Proofs.Ytjpmbedipdkakaa
open Go Go.Fw
set_option linter.unusedVariables false
set_option linter.unusedSimpArgs false
variable {b : Post_Box} {s : Abs}
theorem min_ok {xs : List Int} {Q : Int → Prop} (h0 : xs ≠ []) (hl : xs.length ≤ 1000000) (hQ : ∀ m, m ∈ xs → (∀ x ∈ xs, m ≤ x) → Q m) : slices_Min_int_int xs Q := by
  unfold slices_Min_int_int
  have hlen : 0 < xs.length := List.length_pos_iff.2 h0
  refine ifP_dec (fun h => by omega) (fun _ => idxP_intro (by omega) (x := xs[0]) (by simp [hlen]) ?_)
  refine loop_intro (fun s : Int × Int => ∃ i : Nat, s.2 = i ∧ 1 ≤ i ∧ i ≤ xs.length ∧ s.1 ∈ xs ∧ ∀ (j : Nat) (hj : j < i) (hjl : j < xs.length), s.1 ≤ xs[j]) (fun s => xs.length - s.2.toNat) ⟨1, rfl, by omega, by omega, List.getElem_mem _, fun j hj hjl => by
    have : j = 0 := by omega
    subst this; exact Int.le_refl _⟩ ?_
  rintro ⟨s1, s2⟩ next ⟨i, hi, h1, hil, hmem, hle⟩ hnext
  simp only at hi hmem hle
  subst hi
  refine ifP_dec (fun h => ?_) (fun h => hQ s1 hmem fun x hx => ?_)
  · have hlt : i < xs.length := by omega
    refine idxP_intro (by omega) (x := xs[i]) (by simp [hlt]) (hnext _ ⟨i + 1, ?_, by omega, by omega, ?_, ?_⟩ ?_)
    · simp only; rw [w64_id (by omega) (by omega)]; simp
    · simp only; split
      · exact List.getElem_mem _
      · exact hmem
    · intro j hj hjl
      simp only
      by_cases e : j = i
      · subst e; split <;> omega
      · have := hle j (by omega) hjl
        split <;> omega
    · simp only; rw [w64_id (by omega) (by omega)]; omega
  · obtain ⟨j, hj, rfl⟩ := List.getElem_of_mem hx
    exact hle j (by omega) hj
theorem index_ok {xs : List Int} {m : Int} {Q : Int → Prop} (hl : xs.length ≤ 1000000) (hm : m ∈ xs) (hQ : ∀ (i : Nat) (hi : i < xs.length), xs[i] = m → (∀ (j : Nat) (hj : j < i) (hjl : j < xs.length), xs[j] ≠ m) → Q i) : slices_IndexFunc_int_int_i11 xs m Q := by
  unfold slices_IndexFunc_int_int_i11 post_Box_Oldest_1_i12
  refine loop_intro (fun s : Int => ∃ i : Nat, s = i ∧ i ≤ xs.length ∧ ∀ (j : Nat) (hj : j < i) (hjl : j < xs.length), xs[j] ≠ m) (fun s => xs.length - s.toNat) ⟨0, rfl, by omega, fun j hj => by omega⟩ ?_
  rintro _ next ⟨i, rfl, hil, hne⟩ hnext
  refine ifP_dec (fun h => ?_) (fun h => ?_)
  · have hlt : i < xs.length := by omega
    refine idxP_intro (by omega) (x := xs[i]) (by simp [hlt]) (ifP_eq (fun e => hQ i hlt e hne) (fun e => hnext _ ⟨i + 1, by rw [w64_id (by omega) (by omega)]; simp, by omega, ?_⟩ ?_))
    · intro j hj hjl
      by_cases ej : j = i
      · subst ej; exact e
      · exact hne j (by omega) hjl
    · rw [w64_id (by omega) (by omega)]; omega
  · exfalso
    obtain ⟨j, hj, rfl⟩ := List.getElem_of_mem hm
    exact hne j (by omega) hj rfl
theorem len_ok {Q : Int → Prop} (h : Inv b s) (hQ : Q (s.row.length : Int)) : post_Box_Len_i10 b Q := by
  unfold post_Box_Len_i10; rw [h.row]; simpa using hQ
/-- where the least number is, first -/
theorem oldest_at {l : List Nat} {i : Nat} (hi : i < l.length) (h1 : ∀ n ∈ l, l[i] ≤ n) (h2 : ∀ (j : Nat) (hj : j < i) (hjl : j < l.length), l[j] ≠ l[i]) : oldestN l = i := by
  unfold oldestN
  rw [List.findIdx_eq hi]
  refine ⟨by simpa using h1, fun j hj => ?_⟩
  have := h2 j hj (by omega)
  have h3 := h1 l[j] (List.getElem_mem _)
  rw [Bool.eq_false_iff]
  intro h4
  have h5 := List.all_eq_true.1 h4 l[i] (List.getElem_mem _)
  simp at h5
  omega
theorem oldest_spec {l : List Nat} (h : l ≠ []) : ∃ hi : oldestN l < l.length, (∀ n ∈ l, l[oldestN l] ≤ n) := by
  have hex : ∃ m ∈ l, ∀ n ∈ l, m ≤ n := by
    induction l with
    | nil => exact absurd rfl h
    | cons x r ih =>
      by_cases hr : r = []
      · subst hr; exact ⟨x, by simp, by simp⟩
      · obtain ⟨m, hm, hmin⟩ := ih hr
        rcases Nat.le_total x m with hx | hx
        · exact ⟨x, by simp, fun n hn => by rcases List.mem_cons.1 hn with rfl | hn; · exact Nat.le_refl _
                                            · exact Nat.le_trans hx (hmin n hn)⟩
        · exact ⟨m, by simp [hm], fun n hn => by rcases List.mem_cons.1 hn with rfl | hn; · exact hx
                                                 · exact hmin n hn⟩
  obtain ⟨m, hm, hmin⟩ := hex
  have hp : l.findIdx (fun n => l.all fun m => decide (n ≤ m)) < l.length := List.findIdx_lt_length_of_exists ⟨m, hm, by simpa using hmin⟩
  refine ⟨hp, fun n hn => ?_⟩
  have := List.findIdx_getElem (w := hp)
  have := List.all_eq_true.1 this n hn
  simpa [oldestN] using this
theorem oldest_ok {Q : Int → Prop} (h : Inv b s) (hQ : Q s.oldest) : post_Box_Oldest_i9 b Q := by
  unfold post_Box_Oldest_i9
  have hrl := h.rlen
  have h64 := h.r64
  have hbl : b.row.length = s.row.length := by rw [h.row]; simp
  unfold Abs.oldest at hQ
  refine len_ok h (ifP_eq (fun h0 => ?_) (fun h0 => min_ok (fun e => ?_) (by omega) fun m hm hmin => index_ok (by omega) hm fun i hi hxi hfirst => ?_))
  · rwa [if_pos (by omega)] at hQ
  · rw [e] at hbl; simp at hbl; omega
  · rw [if_neg (by omega)] at hQ
    have hi' : i < s.row.length := by omega
    have hget : ∀ (j : Nat) (hj : j < b.row.length) (hj' : j < s.row.length), b.row[j] = ((s.row[j] : Nat) : Int) := by
      intro j hj hj'
      have := row_get h hj'
      rw [List.getElem?_eq_getElem hj] at this
      exact Option.some.inj this
    rw [oldest_at hi' (fun n hn => ?_) (fun j hj hjl => ?_)] at hQ
    · exact hQ
    · obtain ⟨j, hj, rfl⟩ := List.getElem_of_mem hn
      have := hmin _ (List.getElem_mem (show j < b.row.length by omega))
      rw [← hxi, hget i hi hi', hget j (by omega) hj] at this
      omega
    · have := hfirst j hj (by omega)
      rw [hget j (by omega) hjl, ← hxi, hget i hi hi'] at this
      omega
theorem frames_ok {Q : List Frame → Prop} (h : Inv b s) (hQ : Q (s.row.map fun n => s.fs.getD n zf)) : post_Box_Frames_i16 b Q := by
  unfold post_Box_Frames_i16
  have hrl := h.rlen
  have h64 := h.r64
  have hbl : b.row.length = s.row.length := by rw [h.row]; simp
  refine loop_intro (fun t : List Frame × Int => ∃ i : Nat, t.2 = i ∧ i ≤ s.row.length ∧ t.1 = (s.row.take i).map fun n => s.fs.getD n zf) (fun t => s.row.length - t.2.toNat) ⟨0, rfl, by omega, rfl⟩ ?_
  rintro ⟨t1, t2⟩ next ⟨i, hi, hil, ht⟩ hnext
  simp only at hi ht
  subst hi ht
  refine ifP_dec (fun h1 => ?_) (fun h1 => ?_)
  · have hlt : i < s.row.length := by omega
    have hm : s.row[i] ∈ s.row := List.getElem_mem hlt
    have hfl := h.lt _ hm
    have hg : s.fs[s.row[i]]? = some s.fs[s.row[i]] := List.getElem?_eq_getElem hfl
    refine idxP_intro (by omega) (x := ((s.row[i] : Nat) : Int)) (by simpa using row_get h hlt) (lkP_intro ?_)
    rw [h.by_ _ hm, hg]
    refine own_ok (h.seq _ _ hg).2 (appP_intro (by simp; omega) (hnext _ ⟨i + 1, ?_, by omega, ?_⟩ ?_))
    · simp only; rw [w64_id (by omega) (by omega)]; simp
    · simp only [Option.getD_some]
      rw [List.take_add_one, List.map_append]
      simp [hlt, hfl]
    · simp only; rw [w64_id (by omega) (by omega)]; omega
  · have : i = s.row.length := by omega
    subst this
    simpa using hQ
theorem inv_new (n : Nat) (h : n ≤ 64) : Inv { room := (n : Int), row := ([] : List Int), by_ := ([] : List (Int × Frame)), often := ([] : List (Int × Int)), sent := 0, taken := 0 } ⟨n, [], [], 0⟩ :=
  ⟨⟨rfl, rfl, rfl, by simp, by simp, by simp [keysOk], by simp [mget], by simp [keysOk], by simp, h, by simp, by simp, by simp⟩, rfl⟩
theorem new_ok {a : Int} {Q0 : Int → Prop} {Q1 : (Int × Post_Box) → Prop} (h0 : ¬ (1 ≤ a ∧ a ≤ 64) → Q0 3) (h1 : ∀ (n : Nat) b, a = n → 1 ≤ n → n ≤ 64 → Inv b ⟨n, [], [], 0⟩ → Q1 (0, b)) : post_New_i17 a Q0 Q1 := by
  unfold post_New_i17
  refine ifP_dec (fun h => h0 (by omega)) (fun h => ifP_dec (fun h' => h0 (by omega)) (fun h' => ?_))
  refine h1 a.toNat _ (by omega) (by omega) (by omega) ?_
  have := inv_new a.toNat (by omega)
  rwa [show ((a.toNat : Nat) : Int) = a by omega] at this
theorem sent_ok {Q : Int → Prop} (h : Inv b s) (hQ : Q (s.fs.length : Int)) : post_Box_Sent_i14 b Q := by unfold post_Box_Sent_i14; rw [h.sent]; exact hQ
theorem room_ok {Q : Int → Prop} (h : Inv b s) (hQ : Q (s.room : Int)) : post_Box_Room_i13 b Q := by unfold post_Box_Room_i13; rw [h.room]; exact hQ
theorem taken_ok {Q : Int → Prop} (h : Inv b s) (hQ : Q (s.taken : Int)) : post_Box_Taken_i15 b Q := by unfold post_Box_Taken_i15; rw [h.taken]; exact hQ
def fr (n : Int) : Frame := { Kind := 0, From := 0, To := 0, Seq := 0, Round := 0, Vec := { N := 0, Items := [] }, Sums := [], Triples := [], N := n, Over := false }
theorem small_fr (n : Int) : small (fr n) := ⟨by simp [fr], rfl, rfl⟩
theorem live_ok {Q : Bool → Prop} (hQ : Q true) : law20_live Q := by
  unfold law20_live post_New_i0 post_New_i1
  refine send_ok (f := fr 7) (inv_new 2 (by omega)) (small_fr 7) (by simp) fun b1 h1 => ?_
  refine send_ok (f := fr 8) h1 (small_fr 8) (by decide) fun b2 h2 => ?_
  refine send_ok (f := fr 9) h2 (small_fr 9) (by decide) fun b3 h3 => ?_
  refine take_ok h3 fun b4 h4 => ?_
  refine take_ok h4 fun b5 h5 => ?_
  refine take_ok h5 fun b6 h6 => ?_
  refine oldest_ok h6 (take_ok h6 fun b7 h7 => ?_)
  iterate 13 refine ifP_pos rfl ?_
  refine len_ok h7 (ifP_pos rfl (room_ok h7 (ifP_pos rfl (sent_ok h7 (ifP_pos rfl (taken_ok h7 (ifP_pos rfl (oldest_ok h7 (ifP_pos rfl (frames_ok h7 ?_))))))))))
  exact hQ
theorem full_send {s : Abs} (f : Frame) (h : s.full = false) : s.send f = (0, { s with row := s.row ++ [s.fs.length], fs := s.fs ++ [{ f with Seq := s.fs.length }] }) := by simp [Abs.send, h]
/-- PostFull, in plain Lean. -/
theorem PostFull_ok (a : Int) (h : inR .u8 a) : law20_PostFull a (fun r => r = true) := by
  obtain ⟨h1, h2⟩ := bounds_u8 h
  unfold law20_PostFull
  have hm : a.tmod 64 = a % 64 := Int.tmod_eq_emod_of_nonneg h1
  have hn : w64 ((w64 a).tmod 64 + 1) = a % 64 + 1 := by
    have e0 : w64 a = a := w64_id (by omega) (by omega)
    rw [e0, hm, w64_id (by omega) (by omega)]
  rw [hn]
  refine new_ok (fun hno => absurd ⟨by omega, by omega⟩ hno) fun n b hb hn1 hn64 hinv => ?_
  rw [hb]
  refine send_ok (f := fr 5) hinv (small_fr 5) (by simp) fun b1 hi1 => ?_
  have e1 : (⟨n, [], [], 0⟩ : Abs).send (fr 5) = (0, ⟨n, [0], [fr 5], 0⟩) := full_send _ (by unfold Abs.full; simp; omega)
  rw [e1] at hi1
  rw [e1]
  refine ifP_ne (fun h0 => absurd rfl h0) (fun _ => ?_)
  refine loop_intro (fun t : Int × List Int × List (Int × Frame) × List (Int × Int) × Int × Int × Int => ∃ i : Nat, t.2.2.2.2.2.2 = i ∧ 1 ≤ i ∧ i ≤ n ∧ Inv ⟨t.1, t.2.1, t.2.2.1, t.2.2.2.1, t.2.2.2.2.1, t.2.2.2.2.2.1⟩ ⟨n, List.replicate i 0, [fr 5], 0⟩) (fun t => n - t.2.2.2.2.2.2.toNat) ⟨1, rfl, by omega, hn1, hi1⟩ ?_
  rintro ⟨t1, t2, t3, t4, t5, t6, t7⟩ next ⟨i, hi, hi1, hin, hI⟩ hnext
  simp only at hi hI
  subst hi
  refine ifP_dec (fun hlt => ?_) (fun hlt => ?_)
  · refine double_ok hI fun b2 hb2 => ?_
    have e2 : (⟨n, List.replicate i 0, [fr 5], 0⟩ : Abs).double 0 = (0, ⟨n, List.replicate (i + 1) 0, [fr 5], 0⟩) := by
      have ha : (⟨n, List.replicate i 0, [fr 5], 0⟩ : Abs).at 0 = 0 := by unfold Abs.at; rw [if_neg (by omega), if_neg (by simp; omega)]
      have hf : (⟨n, List.replicate i 0, [fr 5], 0⟩ : Abs).full = false := by unfold Abs.full; simp; omega
      have hnum : (⟨n, List.replicate i 0, [fr 5], 0⟩ : Abs).num 0 = 0 := by unfold Abs.num; simp [show 0 < i by omega]
      unfold Abs.double
      rw [if_neg (by rw [ha]; simp), hf, hnum]
      simp [List.replicate_succ']
    rw [e2] at hb2
    rw [e2]
    refine ifP_ne (fun h0 => absurd rfl h0) (fun _ => hnext _ ⟨i + 1, ?_, by omega, by omega, hb2⟩ ?_)
    · simp only; rw [w64_id (by omega) (by omega)]; simp
    · simp only; rw [w64_id (by omega) (by omega)]; omega
  · have hin' : i = n := by omega
    subst hin'
    have ha : (⟨i, List.replicate i 0, [fr 5], 0⟩ : Abs).at 0 = 0 := by unfold Abs.at; rw [if_neg (by omega), if_neg (by simp; omega)]
    have hf : (⟨i, List.replicate i 0, [fr 5], 0⟩ : Abs).full = true := by unfold Abs.full; simp
    refine double_ok hI fun b2 hb2 => ?_
    have e2 : (⟨i, List.replicate i 0, [fr 5], 0⟩ : Abs).double 0 = (9, ⟨i, List.replicate i 0, [fr 5], 0⟩) := by unfold Abs.double; rw [if_neg (by rw [ha]; simp), if_pos hf]
    rw [e2] at hb2
    rw [e2]
    refine ifP_ne (fun h0 => absurd rfl h0) (fun _ => send_ok (f := fr 0) hb2 (small_fr 0) (by simp) fun b3 hb3 => ?_)
    have e3 : (⟨i, List.replicate i 0, [fr 5], 0⟩ : Abs).send (fr 0) = (9, ⟨i, List.replicate i 0, [fr 5], 0⟩) := by unfold Abs.send; rw [if_pos hf]
    rw [e3] at hb3
    rw [e3]
    refine ifP_ne (fun h0 => absurd rfl h0) (fun _ => ?_)
    refine loop_intro (fun t : Int × List Int × List (Int × Frame) × List (Int × Int) × Int × Int × Int × Int => ∃ j : Nat, t.2.2.2.2.2.2.2 = j ∧ j ≤ i ∧ t.2.2.2.2.2.2.1 = (if j = 0 then 0 else 1) ∧ Inv ⟨t.1, t.2.1, t.2.2.1, t.2.2.2.1, t.2.2.2.2.1, t.2.2.2.2.2.1⟩ ⟨i, List.replicate (i - j) 0, [fr 5], if j = 0 then 0 else 1⟩) (fun t => i - t.2.2.2.2.2.2.2.toNat) ⟨0, rfl, by omega, rfl, by simpa using hb3⟩ ?_
    rintro ⟨t1, t2, t3, t4, t5, t6, t7, t8⟩ next ⟨j, hj, hji, hmany, hJ⟩ hnext
    simp only at hj hJ hmany
    subst hj
    refine ifP_dec (fun hlt => ?_) (fun hlt => ?_)
    · have hjlt : j < i := by omega
      refine oldest_ok hJ ?_
      have e4 : (⟨i, List.replicate (i - j) 0, [fr 5], if j = 0 then 0 else 1⟩ : Abs).oldest = 0 := by
        unfold Abs.oldest
        rw [if_neg (by simp; omega)]
        have := oldest_at (l := List.replicate (i - j) 0) (i := 0) (by simp; omega) (fun n hn => by simp) (fun j hj => by omega)
        simp only [this]; rfl
      rw [e4]
      refine take_ok hJ fun b4 hb4 => ?_
      have ha4 : (⟨i, List.replicate (i - j) 0, [fr 5], if j = 0 then 0 else 1⟩ : Abs).at 0 = 0 := by unfold Abs.at; rw [if_neg (by omega), if_neg (by simp; omega)]
      have hnum4 : (⟨i, List.replicate (i - j) 0, [fr 5], if j = 0 then 0 else 1⟩ : Abs).num 0 = 0 := by unfold Abs.num; simp [show 0 < i - j by omega]
      have her : (List.replicate (i - j) (0 : Nat)).eraseIdx 0 = List.replicate (i - (j + 1)) 0 := by
        rw [show i - j = (i - (j + 1)) + 1 by omega, List.replicate_succ]; rfl
      unfold Abs.take at hb4
      unfold Abs.take
      rw [if_neg (by rw [ha4]; simp), hnum4, if_neg (by omega)] at hb4
      rw [if_neg (by rw [ha4]; simp), hnum4, if_neg (by omega)]
      by_cases h0 : j = 0
      · subst h0
        rw [if_neg (by simp)] at hb4
        rw [if_neg (by simp)]
        refine ifP_pos rfl (hnext _ ⟨1, ?_, by omega, ?_, ?_⟩ ?_)
        · simp only; rw [w64_id (by omega) (by omega)]; simp
        · simp only; rw [hmany]; decide
        · simp only [Int.toNat_zero, her] at hb4
          exact hb4
        · simp only; rw [w64_id (by omega) (by omega)]; omega
      · rw [if_neg h0, if_pos (by simp)] at hb4
        rw [if_neg h0, if_pos (by simp)]
        rw [if_neg h0] at hmany
        refine ifP_neg rfl (hnext _ ⟨j + 1, ?_, by omega, ?_, ?_⟩ ?_)
        · simp only; rw [w64_id (by omega) (by omega)]; simp
        · simp only; rw [if_neg (by omega)]; exact hmany
        · rw [if_neg (by omega)]
          simp only [Int.toNat_zero, her] at hb4
          exact hb4
        · simp only; rw [w64_id (by omega) (by omega)]; omega
    · have hji' : j = i := by omega
      subst hji'
      rw [if_neg (by omega)] at hmany
      refine live_ok (ifP_pos rfl ?_)
      rw [hmany]
      refine ifP_pos rfl (len_ok hJ (ifP_pos (by simp) (sent_ok hJ rfl)))
end Go.Proofs.Ytjpmbedipdkakaa
