/- The statement PostPlays, in plain Lean: whatever is sent, doubled, moved and taken, the program's box and the document's answer alike. -/
import Derived.Test.YtjpmbedipdkakaaPostC
namespace Go.Proofs.Ytjpmbedipdkakaa
open Go Go.Fw
set_option linter.unusedVariables false
set_option linter.unusedSimpArgs false
variable {b : Post_Box} {s : Abs} {o : Ref20_Box}
def Abs.L (s : Abs) : List Frame := s.row.map fun n => s.fs.getD n zf
structure RInv (o : Ref20_Box) (s : Abs) : Prop where
  many : o.Many = s.room
  out : o.Out = s.fs.length
  inn : o.In = s.taken
  l : o.L = s.L
theorem L_len (s : Abs) : s.L.length = s.row.length := by simp [Abs.L]
theorem L_get (h : Inv b s) {i : Nat} (hi : i < s.row.length) : ∃ f, s.L[i]? = some f ∧ f = s.fs.getD s.row[i] zf ∧ f.Seq = s.row[i] ∧ small f := by
  have hlt := h.lt _ (List.getElem_mem hi)
  have hg := List.getElem?_eq_getElem hlt
  have hs := h.seq _ _ hg
  have e : s.fs.getD s.row[i] zf = s.fs[s.row[i]] := by simp [hlt]
  exact ⟨_, by simp [Abs.L, hi], rfl, by rw [e]; exact hs.1, by rw [e]; exact hs.2⟩
theorem rown_ok {f : Frame} {Q : Frame → Prop} (h : small f) (hQ : Q f) : ref20_own f Q := by
  obtain ⟨h1, h2, h3⟩ := h
  unfold ref20_own
  obtain ⟨K, F, T, S, R, ⟨VN, VI⟩, Su, Tr, N, O⟩ := f
  simp only at h1 h2 h3
  subst h2 h3
  exact appP_intro (by simp only [List.length_nil]; omega) (appP_intro (by simp) (appP_intro (by simp) hQ))
theorem rlen_ok {Q : Int → Prop} (r : RInv o s) (hQ : Q (s.row.length : Int)) : ref20_Box_Len_i31 o Q := by
  unfold ref20_Box_Len_i31; rw [r.l, L_len]; exact hQ
theorem has_ok {k : Int} {Q : Int → Prop} (r : RInv o s) (hQ : Q (s.at k)) : ref20_Box_has_i34 o k Q := by
  unfold ref20_Box_has_i34
  rw [r.l, L_len]
  unfold Abs.at at hQ
  refine ifP_dec (fun h1 => ?_) (fun h1 => ifP_dec (fun h2 => ?_) (fun h2 => ?_))
  · rwa [if_pos h1] at hQ
  · rwa [if_neg h1, if_pos h2] at hQ
  · rwa [if_neg h1, if_neg h2] at hQ
theorem full_iff (s : Abs) : s.full = true ↔ (s.room : Int) ≤ (s.row.length : Int) := by unfold Abs.full; simp
theorem rsend_ok {f : Frame} {Q : (Int × Ref20_Box) → Prop} (h : Inv b s) (r : RInv o s) (hs : small f) (hQ : ∀ o', RInv o' (s.send f).2 → Q ((s.send f).1, o')) : ref20_Box_Send_i32 o f Q := by
  unfold ref20_Box_Send_i32
  have hrl := h.rlen
  have h64 := h.r64
  have hfl := h.flen
  rw [r.many, r.l, L_len]
  refine ifP_dec (fun hf => ?_) (fun hf => ?_)
  · have hf' : s.full = true := (full_iff s).2 hf
    have := hQ o; rw [send_full _ hf'] at this; exact this r
  · have hf' : s.full = false := by
      cases e : s.full with
      | false => rfl
      | true => exact absurd ((full_iff s).1 e) hf
    rw [full_send _ hf'] at hQ
    have hout := r.out
    refine rown_ok hs (appP_intro (by rw [L_len]; simp; omega) (hQ _ ⟨rfl, ?_, r.inn, ?_⟩))
    · simp only; rw [hout, w64_id (by omega) (by omega)]; simp
    · rw [hout]
      simp only [Abs.L, List.map_append, List.map_cons, List.map_nil]
      congr 1
      · refine List.map_congr_left fun n hn => ?_
        have := h.lt n hn
        simp [List.getElem?_append_left this]
      · simp
theorem rdouble_ok {k : Int} {Q : (Int × Ref20_Box) → Prop} (h : Inv b s) (r : RInv o s) (hQ : ∀ o', RInv o' (s.double k).2 → Q ((s.double k).1, o')) : ref20_Box_Double_i33 o k Q := by
  unfold ref20_Box_Double_i33
  have hrl := h.rlen
  have h64 := h.r64
  refine has_ok r (ifP_ne (fun h0 => ?_) (fun h0 => ?_))
  · have := hQ o; unfold Abs.double at this; rw [if_pos h0] at this; exact this r
  · unfold Abs.double at hQ
    rw [if_neg (by rw [h0]; simp)] at hQ
    rw [r.many, r.l, L_len]
    refine ifP_dec (fun hf => ?_) (fun hf => ?_)
    · have := hQ o; rw [if_pos ((full_iff s).2 hf)] at this; exact this r
    · rw [if_neg (fun e => hf ((full_iff s).1 e))] at hQ
      obtain ⟨i, rfl, hi⟩ := at_zero h0
      rw [num_nat hi] at hQ
      obtain ⟨f, hf1, hf2, hf3, hf4⟩ := L_get h hi
      refine idxP_intro (by omega) (x := f) (by simpa using hf1) (rown_ok hf4 (appP_intro (by rw [L_len]; simp; omega) (hQ _ ⟨rfl, r.out, r.inn, ?_⟩)))
      simp [Abs.L, hf2]
theorem L_erase (s : Abs) (i : Nat) : s.L.eraseIdx i = (s.row.eraseIdx i).map fun n => s.fs.getD n zf := eraseIdx_map' _ _ _
theorem remove_ok {i : Nat} {Q : (Frame × Ref20_Box) → Prop} (h : Inv b s) (r : RInv o s) (hi : i < s.row.length) (hQ : ∀ f o', f = s.fs.getD s.row[i] zf → f.Seq = s.row[i] → small f → RInv o' { s with row := s.row.eraseIdx i } → Q (f, o')) : ref20_Box_remove_i37 o (i : Int) Q := by
  unfold ref20_Box_remove_i37
  have hrl := h.rlen
  have h64 := h.r64
  obtain ⟨f, hf1, hf2, hf3, hf4⟩ := L_get h hi
  have hll := L_len s
  have e1 : w64 ((i : Int) + 1) = ((i + 1 : Nat) : Int) := by rw [w64_id (by omega) (by omega)]; simp
  rw [e1, r.l]
  refine idxP_intro (by omega) (x := f) (by simpa using hf1) ⟨by omega, by omega, by omega, appP_intro ?_ (slP_nat (by omega) (by omega) (appP_intro ?_ (hQ _ _ hf2 hf3 hf4 ⟨r.many, r.out, r.inn, ?_⟩)))⟩
  · simp; omega
  · simp; omega
  · show _ = (s.row.eraseIdx i).map fun n => s.fs.getD n zf
    rw [← L_erase, List.eraseIdx_eq_take_drop_succ]
    simp [← hll]
theorem rmove_ok {k : Int} {Q : (Int × Ref20_Box) → Prop} (h : Inv b s) (r : RInv o s) (hQ : ∀ o', RInv o' (s.move k).2 → Q ((s.move k).1, o')) : ref20_Box_Move_i36 o k Q := by
  unfold ref20_Box_Move_i36
  have hrl := h.rlen
  have h64 := h.r64
  refine has_ok r (ifP_ne (fun h0 => ?_) (fun h0 => ?_))
  · have := hQ o; unfold Abs.move at this; rw [if_pos h0] at this; exact this r
  · unfold Abs.move at hQ
    rw [if_neg (by rw [h0]; simp)] at hQ
    obtain ⟨i, rfl, hi⟩ := at_zero h0
    rw [num_nat hi] at hQ
    simp only [Int.toNat_natCast] at hQ
    refine remove_ok h r hi fun f o' hf1 _ _ r' => appP_intro ?_ (hQ _ ⟨r'.many, r'.out, r'.inn, ?_⟩)
    · rw [r'.l, L_len]; simp only [List.length_eraseIdx]; split <;> (simp; omega)
    · simp only
      rw [r'.l, hf1]
      simp [Abs.L]
theorem rtake_ok {k : Int} {Q : (Frame × Bool × Int × Ref20_Box) → Prop} (h : Inv b s) (r : RInv o s) (hQ : ∀ o', RInv o' (s.take k).2.2.2 → Q ((s.take k).1, (s.take k).2.1, (s.take k).2.2.1, o')) : ref20_Box_Take_i39 o k Q := by
  unfold ref20_Box_Take_i39
  refine has_ok r (ifP_ne (fun h0 => ?_) (fun h0 => ?_))
  · have := hQ o; unfold Abs.take at this; rw [if_pos h0] at this; exact this r
  · unfold Abs.take at hQ
    rw [if_neg (by rw [h0]; simp)] at hQ
    obtain ⟨i, rfl, hi⟩ := at_zero h0
    rw [num_nat hi] at hQ
    have hlt := h.lt _ (List.getElem_mem hi)
    have hfl := h.flen
    have hin := r.inn
    obtain ⟨f, hf1, hf2, hf3, hf4⟩ := L_get h hi
    rw [r.l, hin]
    refine idxP_intro (by omega) (x := f) (by simpa using hf1) ?_
    rw [hf3]
    refine ifP_dec (fun h1 => ?_) (fun h1 => remove_ok h r hi fun g o' hg1 hg2 hg3 r' => ?_)
    · have := hQ o; rw [if_pos (by omega)] at this; exact this r
    · rw [if_neg (by omega)] at hQ
      simp only [Int.toNat_natCast] at hQ
      have hin' := r'.inn
      simp only at hin'
      rw [hg2, hin']
      refine ifP_dec (fun h2 => ?_) (fun h2 => ?_)
      · have := hQ o'
        rw [if_pos (by omega)] at this
        exact this r'
      · rw [if_neg (by omega)] at hQ
        rw [hg1]
        refine hQ _ ⟨r'.many, r'.out, ?_, r'.l⟩
        simp only; rw [w64_id (by omega) (by omega)]; simp
theorem roldest_ok {Q : Int → Prop} (h : Inv b s) (r : RInv o s) (hQ : Q s.oldest) : ref20_Box_Oldest_i38 o Q := by
  unfold ref20_Box_Oldest_i38
  have hrl := h.rlen
  have h64 := h.r64
  have hll := L_len s
  rw [r.l]
  refine loop_intro (fun t : Int × Int => ∃ i : Nat, t.2 = i ∧ i ≤ s.row.length ∧ (i = 0 ∧ t.1 = -1 ∨ ∃ (j : Nat) (hj : j < s.row.length), t.1 = j ∧ j < i ∧ (∀ (m : Nat) (hm : m < s.row.length), m < i → s.row[j] ≤ s.row[m]) ∧ ∀ (m : Nat) (hm : m < s.row.length), m < j → s.row[m] ≠ s.row[j])) (fun t => s.row.length - t.2.toNat) ⟨0, rfl, by omega, .inl ⟨rfl, rfl⟩⟩ ?_
  rintro ⟨t1, t2⟩ next ⟨i, hi, hil, hc⟩ hnext
  simp only at hi hc
  subst hi
  have ew : i < s.row.length → w64 ((i : Int) + 1) = ((i + 1 : Nat) : Int) := fun hlt => by rw [w64_id (by omega) (by omega)]; simp
  rw [L_len]
  refine ifP_dec (fun hlt => ?_) (fun hge => ?_)
  · have hlt' : i < s.row.length := by omega
    rw [ew hlt']
    refine ifP_dec (fun hneg => ?_) (fun hpos => ?_)
    · rcases hc with ⟨h0, _⟩ | ⟨j, hj, hj1, _⟩
      · subst h0
        refine hnext _ ⟨1, rfl, by omega, .inr ⟨0, hlt', rfl, by omega, fun m hm hm1 => ?_, fun m hm hm1 => by omega⟩⟩ (by simp only; omega)
        have : m = 0 := by omega
        subst this; exact Nat.le_refl _
      · omega
    · rcases hc with ⟨h0, h1⟩ | ⟨j, hj, hj1, hji, hmin, hfirst⟩
      · omega
      · subst hj1
        obtain ⟨f, hf1, _, hf3, _⟩ := L_get h hlt'
        obtain ⟨g, hg1, _, hg3, _⟩ := L_get h hj
        refine idxP_intro (by omega) (x := f) (by simpa using hf1) (idxP_intro (by omega) (x := g) (by simpa using hg1) ?_)
        rw [hf3, hg3]
        refine ifP_dec (fun hless => hnext _ ⟨i + 1, rfl, by omega, .inr ⟨i, hlt', rfl, by omega, fun m hm hm1 => ?_, fun m hm hm1 e => ?_⟩⟩ (by simp only; omega)) (fun hnl => hnext _ ⟨i + 1, rfl, by omega, .inr ⟨j, hj, rfl, by omega, fun m hm hm1 => ?_, hfirst⟩⟩ (by simp only; omega))
        · by_cases e : m = i
          · subst e; exact Nat.le_refl _
          · have := hmin m hm (by omega); omega
        · have := hmin m hm (by omega); omega
        · by_cases e : m = i
          · subst e; omega
          · exact hmin m hm (by omega)
  · have : i = s.row.length := by omega
    subst this
    unfold Abs.oldest at hQ
    rcases hc with ⟨h0, h1⟩ | ⟨j, hj, hj1, hji, hmin, hfirst⟩
    · rw [if_pos h0] at hQ; rw [h1]; exact hQ
    · rw [if_neg (by omega), oldest_at hj (fun n hn => ?_) (fun m hm hml => hfirst m hml hm)] at hQ
      · rw [hj1]; exact hQ
      · obtain ⟨m, hm, rfl⟩ := List.getElem_of_mem hn
        exact hmin m hm hm
theorem rframes_ok {Q : List Frame → Prop} (h : Inv b s) (r : RInv o s) (hQ : Q s.L) : ref20_Box_Frames_i41 o Q := by
  unfold ref20_Box_Frames_i41
  have hrl := h.rlen
  have h64 := h.r64
  have hll := L_len s
  rw [r.l]
  refine loop_intro (fun t : List Frame × Int => ∃ i : Nat, t.2 = i ∧ i ≤ s.row.length ∧ t.1 = s.L.take i) (fun t => s.row.length - t.2.toNat) ⟨0, rfl, by omega, rfl⟩ ?_
  rintro ⟨t1, t2⟩ next ⟨i, hi, hil, ht⟩ hnext
  simp only at hi ht
  subst hi ht
  rw [L_len]
  refine ifP_dec (fun h1 => ?_) (fun h1 => ?_)
  · have hlt : i < s.row.length := by omega
    obtain ⟨f, hf1, _, hf3, hf4⟩ := L_get h hlt
    refine idxP_intro (by omega) (x := f) (by simpa using hf1) (rown_ok hf4 (appP_intro (by simp; omega) (hnext _ ⟨i + 1, ?_, by omega, ?_⟩ ?_)))
    · simp only; rw [w64_id (by omega) (by omega)]; simp
    · simp only; rw [List.take_add_one, hf1]; rfl
    · simp only; rw [w64_id (by omega) (by omega)]; omega
  · have : s.L.take i = s.L := List.take_of_length_le (by omega)
    rw [this]; exact hQ
/-! ### What is the same -/
theorem same_same {α : Type} [DecidableEq α] {l : List α} {Q : Bool → Prop} (hl : l.length ≤ 1000000) (hQ : Q true) :
    ifP ((l.length : Int) != (l.length : Int)) (Q false) (loopP (fun (t : Int) (next : Int → Prop) => ifP (decide (t < (l.length : Int))) (idxP l t fun x => idxP l t fun y => ifP (!(x == y)) (Q false) (next (w64 (t + 1)))) (Q true)) 0) := by
  refine ifP_ne (fun h => absurd rfl h) (fun _ => ?_)
  refine loop_intro (fun t : Int => ∃ i : Nat, t = i ∧ i ≤ l.length) (fun t => l.length - t.toNat) ⟨0, rfl, by omega⟩ ?_
  rintro _ next ⟨i, rfl, hil⟩ hnext
  refine ifP_dec (fun h => ?_) (fun _ => hQ)
  have hlt : i < l.length := by omega
  refine idxP_intro (by omega) (x := l[i]) (by simp [hlt]) (idxP_intro (by omega) (x := l[i]) (by simp [hlt]) (ifP_neg (by simp) (hnext _ ⟨i + 1, by rw [w64_id (by omega) (by omega)]; simp, by omega⟩ (by rw [w64_id (by omega) (by omega)]; omega))))
theorem sameI_ok {l : List Item} {Q : Bool → Prop} (hl : l.length ≤ 1000000) (hQ : Q true) : ref07_SameItems l l Q := same_same hl hQ
theorem sameS_ok {l : List Sum} {Q : Bool → Prop} (hl : l.length ≤ 1000000) (hQ : Q true) : ref13_SameSums l l Q := same_same hl hQ
theorem sameT_ok {l : List Triple} {Q : Bool → Prop} (hl : l.length ≤ 1000000) (hQ : Q true) : ref06_SameTriples l l Q := same_same hl hQ
theorem sameF_ok {f : Frame} {Q : Bool → Prop} (h : small f) (hQ : Q true) : ref19_Same f f Q := by
  obtain ⟨h1, h2, h3⟩ := h
  unfold ref19_Same ref09_Same
  iterate 5 refine ifP_pos (by simp) ?_
  refine ifP_pos (by simp) (sameI_ok (by omega) (ifP_pos rfl ?_))
  refine sameS_ok (by rw [h2]; simp) (ifP_pos rfl ?_)
  refine sameT_ok (by rw [h3]; simp) (ifP_pos rfl (ifP_pos (by simp) ?_))
  simpa using hQ
theorem sameFs_ok {l : List Frame} {Q : Bool → Prop} (hl : l.length ≤ 1000000) (h : ∀ f ∈ l, small f) (hQ : Q true) : ref19_SameFrames l l Q := by
  unfold ref19_SameFrames
  refine ifP_ne (fun h => absurd rfl h) (fun _ => ?_)
  refine loop_intro (fun t : Int => ∃ i : Nat, t = i ∧ i ≤ l.length) (fun t => l.length - t.toNat) ⟨0, rfl, by omega⟩ ?_
  rintro _ next ⟨i, rfl, hil⟩ hnext
  refine ifP_dec (fun hi => ?_) (fun _ => hQ)
  have hlt : i < l.length := by omega
  refine idxP_intro (by omega) (x := l[i]) (by simp [hlt]) (idxP_intro (by omega) (x := l[i]) (by simp [hlt]) (sameF_ok (h _ (List.getElem_mem _)) (ifP_neg rfl (hnext _ ⟨i + 1, by rw [w64_id (by omega) (by omega)]; simp, by omega⟩ (by rw [w64_id (by omega) (by omega)]; omega)))))
theorem small_take (h : Inv b s) (k : Int) : small (s.take k).1 := by
  unfold Abs.take
  split
  · exact small_zf
  · rename_i h0
    split
    · exact small_zf
    · split
      · exact small_zf
      · obtain ⟨i, rfl, hi⟩ := at_zero (by simpa using h0)
        rw [num_nat hi]
        have hlt := h.lt _ (List.getElem_mem hi)
        have e : s.fs.getD s.row[i] zf = s.fs[s.row[i]] := by simp [hlt]
        simp only [e]
        exact (h.seq _ _ (List.getElem?_eq_getElem hlt)).2
theorem small_L (h : Inv b s) : ∀ f ∈ s.L, small f := by
  intro f hf
  obtain ⟨i, hi⟩ := List.getElem?_of_mem hf
  have hil : i < s.row.length := by have := (List.getElem?_eq_some_iff.1 hi).1; rwa [L_len] at this
  obtain ⟨g, hg1, _, _, hg4⟩ := L_get h hil
  rw [hi] at hg1; cases hg1; exact hg4
def act (n : Int) : Frame := { Kind := 4, From := 0, To := 0, Seq := 0, Round := 0, Vec := { N := 9, Items := [{ At := 3, Val := n }] }, Sums := [], Triples := [], N := n, Over := false }
theorem small_act (n : Int) : small (act n) := ⟨by simp [act], rfl, rfl⟩
theorem fs_send (s : Abs) (f : Frame) : (s.send f).2.fs.length ≤ s.fs.length + 1 := by unfold Abs.send; split <;> simp
theorem fs_take (s : Abs) (k : Int) : (s.take k).2.2.2.fs = s.fs := by unfold Abs.take; (repeat' split) <;> rfl
theorem room_send (s : Abs) (f : Frame) : (s.send f).2.room = s.room := by unfold Abs.send; split <;> rfl
theorem room_take (s : Abs) (k : Int) : (s.take k).2.2.2.room = s.room := by unfold Abs.take; (repeat' split) <;> rfl
theorem do_ok {a : Law20_Act} {Q : (Bool × Post_Box × Ref20_Box) → Prop} (h : Inv b s) (r : RInv o s) (hlt : s.fs.length < 1000000) (hQ : ∀ s' b' o', Inv b' s' → RInv o' s' → s'.fs.length ≤ s.fs.length + 1 → s'.room = s.room → Q (true, b', o')) : law20_both_do_i30 b o a Q := by
  unfold law20_both_do_i30
  refine rlen_ok r (near_ok fun k => join_intro (fun _ => True) (fun k1 _ => ?_) fun k' hk' => ?_)
  · refine take_ok h fun b' hb' => rtake_ok h r fun o' ho' => sameF_ok (small_take h k1) (ifP_pos rfl (ifP_pos (by simp) ?_))
    have := hQ _ b' o' hb' ho' (by rw [fs_take]; omega) (room_take _ _)
    simpa using this
  · refine ifP_eq (fun _ => ?_) (fun _ => ifP_eq (fun _ => ?_) (fun _ => ifP_eq (fun _ => ?_) (fun _ => ifP_eq (fun _ => hk' _ trivial) (fun _ => roldest_ok h r (hk' _ trivial)))))
    · refine send_ok (f := act a.N) h (small_act _) hlt fun b' hb' => rsend_ok (f := act a.N) h r (small_act _) fun o' ho' => ?_
      have := hQ _ b' o' hb' ho' (fs_send _ _) (room_send _ _)
      simpa using this
    · refine double_ok h fun b' hb' => rdouble_ok h r fun o' ho' => ?_
      obtain ⟨rr, hd, _⟩ := double_cases s k
      have := hQ _ b' o' hb' ho' (by rw [hd]; simp) (by rw [hd])
      simpa using this
    · refine move_ok h fun b' hb' => rmove_ok h r fun o' ho' => ?_
      obtain ⟨rr, hd, _⟩ := move_cases s k
      have := hQ _ b' o' hb' ho' (by rw [hd]; simp) (by rw [hd])
      simpa using this
theorem same_ok {Q : Bool → Prop} (h : Inv b s) (r : RInv o s) (hQ : Q true) : law20_both_same_i40 b o Q := by
  unfold law20_both_same_i40
  have hrl := h.rlen
  have h64 := h.r64
  refine len_ok h (rlen_ok r (ifP_pos (by simp) (oldest_ok h (roldest_ok h r (ifP_pos (by simp) (sent_ok h (ifP_pos (by rw [r.out]; simp) (taken_ok h (ifP_pos (by rw [r.inn]; simp) (frames_ok h (rframes_ok h r ?_)))))))))))
  exact sameFs_ok (l := s.L) (by rw [L_len]; omega) (small_L h) hQ
theorem rnew_ok {a : Int} {Q0 : Int → Prop} {Q1 : (Int × Ref20_Box) → Prop} (h0 : ¬ (1 ≤ a ∧ a ≤ 64) → Q0 3) (h1 : ∀ (n : Nat) o, a = n → 1 ≤ n → n ≤ 64 → RInv o ⟨n, [], [], 0⟩ → Q1 (0, o)) : ref20_New_i19 a Q0 Q1 := by
  unfold ref20_New_i19
  refine ifP_dec (fun h => h0 (by omega)) (fun h => ifP_dec (fun h' => h0 (by omega)) (fun h' => ?_))
  exact h1 a.toNat _ (by omega) (by omega) (by omega) ⟨by simp only; omega, rfl, rfl, rfl⟩
theorem PostPlays_ok (a : Int) (l : List Law20_Act) : law20_PostPlays a l (fun r => r = true) := by
  unfold law20_PostPlays
  refine new_ok (fun hno => rnew_ok (fun _ => ?_) (fun n o ha h1 h2 _ => absurd ⟨by omega, by omega⟩ hno)) (fun n b ha h1 h2 hI => rnew_ok (fun hno => absurd ⟨by omega, by omega⟩ hno) (fun n' o ha' _ _ hR => ?_))
  · refine ifP_ne (fun h => absurd rfl h) (fun _ => live_ok (ifP_pos rfl ?_))
    unfold post_Box_Send_i20 post_Box_Double_i21 post_Box_at_i22 post_Box_Move_i23 post_Box_at_i22 post_Box_Oldest_i24 post_Box_Len_i25 post_Box_Room_i26 post_Box_Sent_i27 post_Box_Taken_i28 post_Box_Frames_i29
    simp [ifP]
  · have hnn : n' = n := by omega
    subst hnn
    refine ifP_ne (fun h => absurd rfl h) (fun _ => ?_)
    refine loop_intro (fun t : Int × List Int × List (Int × Frame) × List (Int × Int) × Int × Int × Int × Int × Int × List Frame × Int => ∃ (i : Nat) (s : Abs), t.2.2.2.2.2.2.2.2.2.2 = i ∧ i ≤ 80 ∧ Inv ⟨t.1, t.2.1, t.2.2.1, t.2.2.2.1, t.2.2.2.2.1, t.2.2.2.2.2.1⟩ s ∧ RInv ⟨t.2.2.2.2.2.2.1, t.2.2.2.2.2.2.2.1, t.2.2.2.2.2.2.2.2.1, t.2.2.2.2.2.2.2.2.2.1⟩ s ∧ s.fs.length ≤ i ∧ t.1 = a) (fun t => 80 - t.2.2.2.2.2.2.2.2.2.2.toNat) ⟨0, _, rfl, by omega, hI, hR, by simp, ?_⟩ ?_
    · have := hI.room; rw [ha, this]
    · rintro ⟨t1, t2, t3, t4, t5, t6, t7, t8, t9, t10, t11⟩ next ⟨i, s, hi, hi80, hI, hR, hf, hroom⟩ hnext
      simp only at hi hI hR hroom
      subst hi hroom
      have hfin : post_Box_Room_i13 ⟨t1, t2, t3, t4, t5, t6⟩ fun r => (r == t1) = true := by unfold post_Box_Room_i13; simp
      refine ifP_dec (fun hlen => ifP_dec (fun h80 => ?_) (fun _ => live_ok (ifP_pos rfl hfin))) (fun _ => live_ok (ifP_pos rfl hfin))
      have hil : i < l.length := by omega
      refine idxP_intro (by omega) (x := l[i]) (by simp [hil]) (do_ok hI hR (by omega) fun s' b' o' hI' hR' hf' hr' => ifP_neg rfl (same_ok hI' hR' (ifP_neg rfl (hnext _ ⟨i + 1, s', ?_, by omega, hI', hR', by omega, ?_⟩ ?_))))
      · simp only; rw [w64_id (by omega) (by omega)]; simp
      · have e1 := hI.room
        have e2 := hI'.room
        simp only at e1 ⊢
        rw [e2, hr', e1]
      · simp only; rw [w64_id (by omega) (by omega)]; omega
end Go.Proofs.Ytjpmbedipdkakaa
