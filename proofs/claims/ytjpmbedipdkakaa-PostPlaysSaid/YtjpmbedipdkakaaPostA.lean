/- The program's box (package post), as a plain machine: numbers in a row, frames as they were sent; each method does what the machine does. -/
import Derived.Test.YtjpmbedipdkakaaT
import Derived.Test.YtjpmbedipdkakaaFwP
namespace Go.Proofs.Ytjpmbedipdkakaa
open Go Go.Fw
set_option linter.unusedVariables false
set_option linter.unusedSimpArgs false
structure Abs where
  room : Nat
  row : List Nat
  fs : List Frame
  taken : Nat
def small (f : Frame) : Prop := f.Vec.Items.length ≤ 4 ∧ f.Sums = [] ∧ f.Triples = []
structure Inv0 (b : Post_Box) (s : Abs) : Prop where
  room : b.room = s.room
  row : b.row = s.row.map (fun n : Nat => (n : Int))
  taken : b.taken = s.taken
  lt : ∀ n ∈ s.row, n < s.fs.length
  by_ : ∀ n ∈ s.row, mget (n : Int) b.by_ = s.fs[n]?
  byk : keysOk b.by_
  often : ∀ n : Nat, mget (n : Int) b.often = if s.row.count n = 0 then none else some (s.row.count n : Int)
  oftk : keysOk b.often
  rlen : s.row.length ≤ s.room
  r64 : s.room ≤ 64
  seq : ∀ (i : Nat) (f : Frame), s.fs[i]? = some f → f.Seq = i ∧ small f
  flen : s.fs.length ≤ 1000000
  tk : s.taken ≤ s.fs.length
structure Inv (b : Post_Box) (s : Abs) : Prop extends Inv0 b s where
  sent : b.sent = s.fs.length
def zf : Frame := { Kind := 0, From := 0, To := 0, Seq := 0, Round := 0, Vec := { N := 0, Items := [] }, Sums := [], Triples := [], N := 0, Over := false }
theorem small_zf : small zf := ⟨by decide, rfl, rfl⟩

/-! ### The machine -/
def Abs.full (s : Abs) : Bool := decide (s.room ≤ s.row.length)
def Abs.send (s : Abs) (f : Frame) : Int × Abs := if s.full then (9, s) else (0, { s with row := s.row ++ [s.fs.length], fs := s.fs ++ [{ f with Seq := s.fs.length }] })
def Abs.at (s : Abs) (k : Int) : Int := if k < 0 then 3 else if (s.row.length : Int) ≤ k then 3 else 0
def Abs.num (s : Abs) (k : Int) : Nat := s.row.getD k.toNat 0
def Abs.double (s : Abs) (k : Int) : Int × Abs := if s.at k ≠ 0 then (s.at k, s) else if s.full then (9, s) else (0, { s with row := s.row ++ [s.num k] })
def Abs.move (s : Abs) (k : Int) : Int × Abs := if s.at k ≠ 0 then (s.at k, s) else (0, { s with row := s.row.eraseIdx k.toNat ++ [s.num k] })
def Abs.take (s : Abs) (k : Int) : Frame × Bool × Int × Abs :=
  if s.at k ≠ 0 then (zf, false, s.at k, s)
  else if s.taken < s.num k then (zf, false, 0, s)
  else if s.num k < s.taken then (zf, false, 0, { s with row := s.row.eraseIdx k.toNat })
  else (s.fs.getD (s.num k) zf, true, 0, { s with row := s.row.eraseIdx k.toNat, taken := s.taken + 1 })
def oldestN (l : List Nat) : Nat := l.findIdx fun n => l.all fun m => decide (n ≤ m)
def Abs.oldest (s : Abs) : Int := if s.row.length = 0 then -1 else oldestN s.row
variable {b : Post_Box} {s : Abs}

/-! ### Small functions -/
theorem own_ok {f : Frame} {Q : Frame → Prop} (h : small f) (hQ : Q f) : post_own f Q := by
  obtain ⟨h1, h2, h3⟩ := h
  unfold post_own slices_Clone_api_Item_api_Item slices_Clone_api_Sum_api_Sum slices_Clone_api_Triple_api_Triple
  obtain ⟨K, F, T, S, R, ⟨VN, VI⟩, Su, Tr, N, O⟩ := f
  simp only at h1 h2 h3
  subst h2 h3
  have e : ∀ (X : List Item), ([] : List Item) ++ X = X := fun _ => rfl
  refine nilP_intro (fun h0 => ?_) (appP_intro (by simp only [List.length_nil]; omega) ?_)
  · subst h0
    exact nilP_intro (fun _ => nilP_intro (fun _ => hQ) (appP_intro (by simp) hQ)) (appP_intro (by simp) (nilP_intro (fun _ => hQ) (appP_intro (by simp) hQ)))
  · exact nilP_intro (fun _ => nilP_intro (fun _ => hQ) (appP_intro (by simp) hQ)) (appP_intro (by simp) (nilP_intro (fun _ => hQ) (appP_intro (by simp) hQ)))
theorem full_ok {Q : Bool → Prop} (h : Inv b s) (hQ : Q s.full) : post_Box_full_i3 b Q := by
  unfold post_Box_full_i3
  rw [h.room, h.row]
  simp only [List.length_map]
  have : decide ((s.room : Int) ≤ (s.row.length : Int)) = s.full := by unfold Abs.full; congr 1; simp
  rw [this]; exact hQ
theorem at_ok {k : Int} {Q : Int → Prop} (h : Inv b s) (hQ : Q (s.at k)) : post_Box_at_i6 b k Q := by
  unfold post_Box_at_i6
  rw [h.row]
  simp only [List.length_map]
  unfold Abs.at at hQ
  refine ifP_dec (fun h1 => ?_) (fun h1 => ifP_dec (fun h2 => ?_) (fun h2 => ?_))
  · rwa [if_pos h1] at hQ
  · rwa [if_neg h1, if_pos h2] at hQ
  · rwa [if_neg h1, if_neg h2] at hQ
theorem at_zero {k : Int} (h : s.at k = 0) : ∃ i : Nat, k = i ∧ i < s.row.length := by
  unfold Abs.at at h
  split at h
  · cases h
  · split at h
    · cases h
    · exact ⟨k.toNat, by omega, by omega⟩
theorem num_nat {i : Nat} (hi : i < s.row.length) : s.num (i : Int) = s.row[i] := by
  simp [Abs.num, hi]
theorem row_get (h : Inv b s) {i : Nat} (hi : i < s.row.length) : b.row[i]? = some ((s.row[i] : Nat) : Int) := by
  rw [h.row]; simp [hi]

/-- a number is put behind the others: the frame of that number is there -/
theorem put_ok {n : Nat} {Q : Post_Box → Prop} (h : Inv0 b s) (hf : s.full = false) (hn : n < s.fs.length) (hby : mget (n : Int) b.by_ = s.fs[n]?) (hQ : ∀ b', Inv0 b' { s with row := s.row ++ [n] } → b'.sent = b.sent → Q b') : post_Box_put_i4 b (n : Int) Q := by
  unfold post_Box_put_i4
  have hlen : s.row.length < s.room := by unfold Abs.full at hf; simpa using hf
  have h64 := h.r64
  refine appP_intro (by rw [h.row]; simp; omega) (lkP_intro (hQ _ ?_ rfl))
  have hc : s.row.count n ≤ s.row.length := List.count_le_length
  refine ⟨h.room, by rw [h.row]; simp, h.taken, ?_, ?_, h.byk, ?_, keysOk_mput h.oftk _ _, by simp; omega, h.r64, h.seq, h.flen, h.tk⟩
  · intro m hm
    rcases List.mem_append.1 hm with hm | hm
    · exact h.lt m hm
    · rw [List.mem_singleton] at hm; subst hm; exact hn
  · intro m hm
    rcases List.mem_append.1 hm with hm | hm
    · exact h.by_ m hm
    · rw [List.mem_singleton] at hm; subst hm; exact hby
  · intro m
    by_cases e : m = n
    · subst e
      rw [mget_mput_same, h.often m]
      simp only [List.count_append, List.count_singleton_self]
      by_cases h0 : s.row.count m = 0
      · rw [h0]; decide
      · rw [if_neg h0, if_neg (by omega)]
        simp only [Option.getD_some]
        rw [w64_id (by omega) (by omega)]; simp
    · rw [mget_mput_other (by omega), h.often m]
      simp only [List.count_append, List.count_singleton]
      have : (n == m) = false := by simpa using fun e' : n = m => e e'.symm
      simp [this]
theorem send_ok {f : Frame} {Q : (Int × Post_Box) → Prop} (h : Inv b s) (hs : small f) (hlt : s.fs.length < 1000000) (hQ : ∀ b', Inv b' (s.send f).2 → Q ((s.send f).1, b')) : post_Box_Send_i2 b f Q := by
  unfold post_Box_Send_i2
  refine full_ok h ?_
  cases hf : s.full with
  | true => refine ifP_pos rfl ?_; have := hQ b; unfold Abs.send at this; rw [if_pos hf] at this; exact this h
  | false =>
    refine ifP_neg rfl (own_ok hs ?_)
    unfold Abs.send at hQ
    rw [hf] at hQ
    simp only [Bool.false_eq_true, if_false] at hQ
    have hsent := h.sent
    rw [hsent]
    refine put_ok (s := { s with fs := s.fs ++ [{ f with Seq := s.fs.length }] }) ?_ hf (by simp) ?_ ?_
    · refine ⟨h.room, h.row, h.taken, ?_, ?_, keysOk_mput h.byk _ _, h.often, h.oftk, h.rlen, h.r64, ?_, ?_, ?_⟩
      · intro n hn; have := h.lt n hn; simp; omega
      · intro n hn
        have hn' := h.lt n hn
        rw [mget_mput_other (by omega), h.by_ n hn, List.getElem?_append_left hn']
      · intro i g hg
        rcases Nat.lt_or_ge i s.fs.length with hi | hi
        · rw [List.getElem?_append_left hi] at hg; exact h.seq i g hg
        · rw [List.getElem?_append_right hi] at hg
          cases hk : i - s.fs.length with
          | zero => rw [hk] at hg; cases hg; exact ⟨by simp; omega, hs⟩
          | succ q => rw [hk] at hg; simp at hg
      · simp; omega
      · have := h.tk; simp; omega
    · simp [mget_mput_same]
    · intro b' h' hs'
      refine hQ _ ⟨⟨h'.room, h'.row, h'.taken, h'.lt, h'.by_, h'.byk, h'.often, h'.oftk, h'.rlen, h'.r64, h'.seq, h'.flen, h'.tk⟩, ?_⟩
      have hs2 : b'.sent = (s.fs.length : Int) := hs'
      show w64 (b'.sent + 1) = _
      rw [hs2, w64_id (by omega) (by omega)]
      simp
theorem Inv.by0 (h : Inv b s) {n : Nat} (hn : n ∈ s.row) : mget (n : Int) b.by_ = s.fs[n]? := h.by_ n hn
theorem double_ok {k : Int} {Q : (Int × Post_Box) → Prop} (h : Inv b s) (hQ : ∀ b', Inv b' (s.double k).2 → Q ((s.double k).1, b')) : post_Box_Double_i18 b k Q := by
  unfold post_Box_Double_i18
  refine at_ok h (ifP_ne (fun h0 => ?_) (fun h0 => full_ok h ?_))
  · have := hQ b; unfold Abs.double at this; rw [if_pos h0] at this; exact this h
  · unfold Abs.double at hQ
    rw [if_neg (by rw [h0]; simp)] at hQ
    cases hf : s.full with
    | true => refine ifP_pos rfl ?_; have := hQ b; rw [if_pos hf] at this; exact this h
    | false =>
      rw [hf] at hQ
      simp only [Bool.false_eq_true, if_false] at hQ
      obtain ⟨i, rfl, hi⟩ := at_zero h0
      have hm : s.row[i] ∈ s.row := List.getElem_mem hi
      rw [num_nat hi] at hQ
      refine ifP_neg rfl (idxP_intro (by omega) (x := ((s.row[i] : Nat) : Int)) (by simpa using row_get h hi) (put_ok h.toInv0 hf (h.lt _ hm) (h.by_ _ hm) fun b' h' hs => hQ b' ⟨h', hs.trans h.sent⟩))
theorem eraseIdx_map' {α β : Type} (f : α → β) : ∀ (l : List α) (i : Nat), (l.map f).eraseIdx i = (l.eraseIdx i).map f
  | [], _ => rfl
  | _ :: _, 0 => rfl
  | x :: r, i + 1 => by simp [List.eraseIdx_cons_succ, eraseIdx_map' f r i]
theorem delete_ok {xs : List Int} {i : Nat} {Q : List Int → Prop} (hi : i < xs.length) (hl : xs.length ≤ 64) (hQ : Q (xs.eraseIdx i)) : slices_Delete_int_int_i8 xs (i : Int) (w64 ((i : Int) + 1)) Q := by
  unfold slices_Delete_int_int_i8
  rw [w64_id (by omega) (by omega)]
  have e1 : ((i : Int) + 1).toNat = i + 1 := by omega
  refine ⟨by omega, by omega, by omega, ifP_eq (fun h => by omega) (fun _ => ⟨by omega, by omega, by omega, ⟨by omega, by omega, by omega, ?_⟩⟩)⟩
  simp only [Int.toNat_natCast, e1]
  rwa [← List.eraseIdx_eq_take_drop_succ]
theorem count_erase {l : List Nat} {i : Nat} (hi : i < l.length) (m : Nat) : (l.eraseIdx i).count m = if m = l[i] then l.count m - 1 else l.count m := by
  have e : l = l.take i ++ l[i] :: l.drop (i + 1) := by simp
  have h1 : (l.eraseIdx i).count m = (l.take i).count m + (l.drop (i + 1)).count m := by rw [List.eraseIdx_eq_take_drop_succ, List.count_append]
  have h2 : l.count m = (l.take i).count m + (l[i] :: l.drop (i + 1)).count m := by rw [← List.count_append, ← e]
  rw [h1, h2, List.count_cons]
  by_cases hm : m = l[i]
  · subst hm; simp
  · have : (l[i] == m) = false := by simpa using fun e' : l[i] = m => hm e'.symm
    simp [this, hm]
/-- a place is taken out of the row -/
theorem out_ok {i : Nat} {Q : (Frame × Post_Box) → Prop} (h : Inv b s) (hi : i < s.row.length) (hQ : ∀ b', Inv b' { s with row := s.row.eraseIdx i } → Q (s.fs.getD s.row[i] zf, b')) : post_Box_out_i7 b (i : Int) Q := by
  unfold post_Box_out_i7
  have hm : s.row[i] ∈ s.row := List.getElem_mem hi
  have hlt := h.lt _ hm
  have hcp : 0 < s.row.count s.row[i] := List.count_pos_iff.2 hm
  have hcl : s.row.count s.row[i] ≤ s.row.length := List.count_le_length
  have hrl := h.rlen
  have h64 := h.r64
  refine idxP_intro (by omega) (x := ((s.row[i] : Nat) : Int)) (by simpa using row_get h hi) (lkP_intro ?_)
  rw [h.by_ _ hm]
  refine delete_ok (by rw [h.row]; simpa using hi) (by rw [h.row]; simp; omega) (lkP_intro (lkP_intro ?_))
  rw [mget_mput_same, h.often, if_neg (by omega)]
  simp only [Option.getD_some]
  rw [w64_id (by omega) (by omega)]
  have hrow : (b.row.eraseIdx i) = (s.row.eraseIdx i).map (fun n : Nat => (n : Int)) := by rw [h.row, eraseIdx_map']
  have hlen : (s.row.eraseIdx i).length ≤ s.room := by rw [List.length_eraseIdx]; split <;> omega
  have hsub : ∀ m ∈ s.row.eraseIdx i, m ∈ s.row := fun m hm => (List.eraseIdx_sublist s.row i).mem hm
  have hfs : (s.fs[s.row[i]]?).getD zf = s.fs.getD s.row[i] zf := by simp
  rw [show ({ Kind := 0, From := 0, To := 0, Seq := 0, Round := 0, Vec := ({ N := 0, Items := ([] : List Item) } : Vec), Sums := ([] : List Sum), Triples := ([] : List Triple), N := 0, Over := false } : Frame) = zf from rfl, hfs]
  refine ifP_eq (fun h0 => ?_) (fun h0 => ?_)
  · have hone : s.row.count s.row[i] = 1 := by omega
    refine hQ _ ⟨⟨h.room, hrow, h.taken, fun m hm' => h.lt m (hsub m hm'), ?_, keysOk_mdel h.byk _, ?_, keysOk_mdel (keysOk_mput h.oftk _ _) _, hlen, h.r64, h.seq, h.flen, h.tk⟩, h.sent⟩
    · intro m hm'
      have hne : m ≠ s.row[i] := by
        intro e
        have h1 := List.count_pos_iff.2 hm'
        rw [count_erase hi, if_pos e, e, hone] at h1
        omega
      rw [mget_mdel_other (by omega)]
      exact h.by_ m (hsub m hm')
    · intro m
      rw [count_erase hi]
      by_cases e : m = s.row[i]
      · subst e
        rw [mget_mdel_same (keysOk_mput h.oftk _ _), if_pos rfl, hone]; rfl
      · rw [mget_mdel_other (by omega), mget_mput_other (by omega), h.often m, if_neg e]
  · have hne1 : s.row.count s.row[i] ≠ 1 := by omega
    refine hQ _ ⟨⟨h.room, hrow, h.taken, fun m hm' => h.lt m (hsub m hm'), fun m hm' => h.by_ m (hsub m hm'), h.byk, ?_, keysOk_mput h.oftk _ _, hlen, h.r64, h.seq, h.flen, h.tk⟩, h.sent⟩
    intro m
    rw [count_erase hi]
    by_cases e : m = s.row[i]
    · subst e
      rw [mget_mput_same, if_pos rfl, if_neg (by omega)]
      congr 1; omega
    · rw [mget_mput_other (by omega), h.often m, if_neg e]
theorem take_ok {k : Int} {Q : (Frame × Bool × Int × Post_Box) → Prop} (h : Inv b s) (hQ : ∀ b', Inv b' (s.take k).2.2.2 → Q ((s.take k).1, (s.take k).2.1, (s.take k).2.2.1, b')) : post_Box_Take_i5 b k Q := by
  unfold post_Box_Take_i5
  refine at_ok h (ifP_ne (fun h0 => ?_) (fun h0 => ?_))
  · have := hQ b; unfold Abs.take at this; rw [if_pos h0] at this; exact this h
  · unfold Abs.take at hQ
    rw [if_neg (by rw [h0]; simp)] at hQ
    obtain ⟨i, rfl, hi⟩ := at_zero h0
    rw [num_nat hi] at hQ
    have hm : s.row[i] ∈ s.row := List.getElem_mem hi
    have hlt := h.lt _ hm
    have htk := h.taken
    have hfl := h.flen
    refine idxP_intro (by omega) (x := ((s.row[i] : Nat) : Int)) (by simpa using row_get h hi) (ifP_dec (fun h1 => ?_) (fun h1 => out_ok h hi fun b' h' => ?_))
    · have := hQ b; rw [if_pos (by omega)] at this; rw [h0]; exact this h
    · rw [if_neg (by omega)] at hQ
      have hg : s.fs[s.row[i]]? = some s.fs[s.row[i]] := List.getElem?_eq_getElem hlt
      have hsq := h.seq _ _ hg
      have hgd : s.fs.getD s.row[i] zf = s.fs[s.row[i]] := by simp [hlt]
      simp only [Int.toNat_natCast] at hQ
      rw [hgd]
      rw [hgd] at hQ
      have htk' := h'.taken
      simp only at htk'
      refine ifP_dec (fun h2 => ?_) (fun h2 => own_ok hsq.2 ?_)
      · have := hQ b'
        rw [hsq.1, htk'] at h2
        rw [if_pos (by omega)] at this
        exact this h'
      · rw [hsq.1, htk'] at h2
        rw [if_neg (by omega)] at hQ
        refine hQ _ ⟨⟨h'.room, h'.row, ?_, h'.lt, h'.by_, h'.byk, h'.often, h'.oftk, h'.rlen, h'.r64, h'.seq, h'.flen, ?_⟩, h'.sent⟩
        · simp only; rw [htk', w64_id (by omega) (by omega)]; simp
        · simp only; omega
theorem move_ok {k : Int} {Q : (Int × Post_Box) → Prop} (h : Inv b s) (hQ : ∀ b', Inv b' (s.move k).2 → Q ((s.move k).1, b')) : post_Box_Move_i35 b k Q := by
  unfold post_Box_Move_i35
  refine at_ok h (ifP_ne (fun h0 => ?_) (fun h0 => ?_))
  · have := hQ b; unfold Abs.move at this; rw [if_pos h0] at this; exact this h
  · unfold Abs.move at hQ
    rw [if_neg (by rw [h0]; simp)] at hQ
    obtain ⟨i, rfl, hi⟩ := at_zero h0
    rw [num_nat hi] at hQ
    have hrl := h.rlen
    have h64 := h.r64
    have hm : s.row[i] ∈ s.row := List.getElem_mem hi
    simp only [Int.toNat_natCast] at hQ
    have hperm : ∀ m, (s.row.eraseIdx i ++ [s.row[i]]).count m = s.row.count m := by
      intro m
      rw [List.count_append, count_erase hi, List.count_singleton]
      by_cases e : m = s.row[i]
      · subst e
        have := List.count_pos_iff.2 hm
        simp
      · have : (s.row[i] == m) = false := by simpa using fun e' : s.row[i] = m => e e'.symm
        simp [this, e]
    have hmem : ∀ m ∈ s.row.eraseIdx i ++ [s.row[i]], m ∈ s.row := fun m hm' => by
      rw [← List.count_pos_iff, ← hperm m, List.count_pos_iff]; exact hm'
    have hlen : (s.row.eraseIdx i ++ [s.row[i]]).length = s.row.length := by simp only [List.length_append, List.length_eraseIdx, hi, if_true, List.length_singleton]; omega
    refine idxP_intro (by omega) (x := ((s.row[i] : Nat) : Int)) (by simpa using row_get h hi) (delete_ok (by rw [h.row]; simpa using hi) (by rw [h.row]; simp; omega) (appP_intro ?_ ?_))
    · rw [h.row]; simp [List.length_eraseIdx, hi]; omega
    · refine hQ _ ⟨⟨h.room, ?_, h.taken, fun m hm' => h.lt m (hmem m hm'), fun m hm' => h.by_ m (hmem m hm'), h.byk, fun m => by rw [hperm]; exact h.often m, h.oftk, by rw [hlen]; exact h.rlen, h.r64, h.seq, h.flen, h.tk⟩, h.sent⟩
      simp only
      rw [h.row, eraseIdx_map']; simp
end Go.Proofs.Ytjpmbedipdkakaa
