/- Sets of places as words of bits. -/
import Derived.Test.YtdfiinkpdaggeaaGreatBaseA
namespace Go.Proofs.YtdfiinkpdaggeaaGreat
open Go Go.Fw
set_option linter.unusedVariables false
set_option linter.unusedSimpArgs false
def okF (f : List Int) : Prop := ∀ x ∈ f, 0 ≤ x ∧ x < 18446744073709551616
def hasF (f : List Int) (i : Int) : Bool := decide (0 ≤ i) && (at0 f (i / 64)).toNat.testBit (i % 64).toNat
theorem at0_over {f : List Int} {i : Int} (h : (f.length : Int) ≤ i) : at0 f i = 0 := by
  unfold at0
  rw [List.getD_eq_getElem?_getD, List.getElem?_eq_none (by omega)]; rfl
theorem okF_at {f : List Int} (h : okF f) (i : Int) : 0 ≤ at0 f i ∧ at0 f i < 18446744073709551616 := by
  by_cases e : i.toNat < f.length
  · have : at0 f i = f[i.toNat] := by simp [at0, List.getD_eq_getElem?_getD, e]
    rw [this]; exact h _ (List.getElem_mem e)
  · have : at0 f i = 0 := by unfold at0; rw [List.getD_eq_getElem?_getD, List.getElem?_eq_none (by omega)]; rfl
    rw [this]; omega
theorem hasF_over {f : List Int} {i : Int} (h : 64 * (f.length : Int) ≤ i) : hasF f i = false := by
  unfold hasF; rw [at0_over (by omega)]; simp
theorem hasF_neg {f : List Int} {i : Int} (h : i < 0) : hasF f i = false := by
  unfold hasF; simp [show ¬ 0 ≤ i by omega]
theorem hasF_in {f : List Int} {i : Int} (h : hasF f i = true) : 0 ≤ i ∧ i < 64 * (f.length : Int) := by
  rcases Int.lt_or_le i 0 with h' | h'
  · rw [hasF_neg h'] at h; cases h
  · rcases Int.lt_or_le i (64 * (f.length : Int)) with h2 | h2
    · exact ⟨h', h2⟩
    · rw [hasF_over h2] at h; cases h
theorem shr6 (i : Int) : shr .i64 i 6 = i / 64 := by
  unfold shr
  rw [Int.fdiv_eq_ediv_of_nonneg _ (by decide)]; rfl
theorem within_f_ok {f : List Int} {i : Int} {Q : Bool → Prop} (hQ : Q (decide (0 ≤ i ∧ i / 64 < f.length))) : flags_within f i Q := by
  unfold flags_within
  rw [shr6]
  refine ifP_dec (fun h => ?_) (fun h => ?_)
  · simpa [h] using hQ
  · simpa [h] using hQ
theorem pw_int (k : Nat) : (2 : Int) ^ k = ((2 ^ k : Nat) : Int) := by rw [Int.natCast_pow]; rfl
theorem pw_lt {k : Nat} (hk : k < 64) : (2 : Nat) ^ k < 18446744073709551616 := Nat.pow_lt_pow_right (n := 64) (a := 2) (by omega) hk
theorem one_shl {k : Nat} (hk : k < 64) : shl .u64 1 k = ((2 ^ k : Nat) : Int) := by
  rw [shl_u _ (by omega), Int.one_mul, pw_int]
  have hp := pw_lt hk
  generalize 2 ^ k = p at *
  omega
theorem and_pw (x k : Nat) : x &&& 2 ^ k = if x.testBit k then 2 ^ k else 0 := by
  apply Nat.eq_of_testBit_eq
  intro j
  rw [Nat.testBit_and, Nat.testBit_two_pow]
  by_cases e : k = j
  · subst e
    cases h : x.testBit k
    · simp
    · simp [Nat.testBit_two_pow]
  · cases h : x.testBit k
    · simp [e]
    · simp [e, Nat.testBit_two_pow]
theorem bit_ok {i : Int} {Q : Int → Prop} (h0 : 0 ≤ i) (h1 : i < 18446744073709551616) (hQ : Q ((2 ^ (i % 64).toNat : Nat) : Int)) : flags_bit i Q := by
  unfold flags_bit
  have e : bnd .u64 (IntKind.wrap .u64 i) 63 = (((i % 64).toNat : Nat) : Int) := by
    rw [u64_eq, show i % 18446744073709551616 = i by omega, bnd_nat h0 h1 (by omega) (by omega)]
    congr 1
    rw [show Int.toNat 63 = 2 ^ 6 - 1 from rfl, Nat.and_two_pow_sub_one_eq_mod]
    omega
  rw [e]
  refine ⟨by omega, ?_⟩
  rw [one_shl (by omega)]; exact hQ
theorem flags_Has_ok {f : List Int} {i : Int} {Q : Bool → Prop} (hf : okF f) (hi : inI i) (hQ : Q (hasF f i)) : flags_Has f i Q := by
  unfold flags_Has
  unfold inI at hi
  refine within_f_ok ⟨fun h => ?_, fun h => ?_⟩
  · have h := of_decide_eq_true h
    rw [shr6]
    have hx := okF_at hf (i / 64)
    refine idxP_at0 (by omega) h.2 (bit_ok h.1 (by omega) ?_)
    have hp := pw_lt (k := (i % 64).toNat) (by omega)
    have e : hasF f i = (at0 f (i / 64)).toNat.testBit (i % 64).toNat := by unfold hasF; simp [h.1]
    rw [e] at hQ
    have hpos : 0 < (2 : Nat) ^ (i % 64).toNat := Nat.pow_pos (by omega)
    have ha := and_pw (at0 f (i / 64)).toNat (i % 64).toNat
    generalize (i % 64).toNat = k at *
    rw [bnd_nat hx.1 hx.2 (Int.natCast_nonneg _) (by generalize 2 ^ k = p at *; omega), Int.toNat_natCast, ha]
    cases hb : (at0 f (i / 64)).toNat.testBit k with
    | false => rw [hb] at hQ; simpa using hQ
    | true =>
      rw [hb] at hQ
      have e2 : (((if (true : Bool) = true then 2 ^ k else 0 : Nat) : Int) != 0) = true := by
        rw [if_pos rfl, bne_iff_ne]
        generalize 2 ^ k = p at *; omega
      rw [e2]; exact hQ
  · have h := of_decide_eq_false h
    have e : hasF f i = false := by
      rcases Int.lt_or_le i 0 with h' | h'
      · exact hasF_neg h'
      · exact hasF_over (by omega)
    rw [e] at hQ; exact hQ
/-! ### Sets made -/
def wordsS (n : Int) : Nat := ((if 4096 < (if n < 0 then 0 else n) then 4096 else (if n < 0 then 0 else n)) + 63).toNat / 64
def newF (n : Int) : List Int := List.replicate (wordsS n) 0
theorem words_le (n : Int) : wordsS n ≤ 64 := by unfold wordsS; split <;> split <;> omega
theorem words_in {n i : Int} (h0 : 0 ≤ i) (hn : i < n) (h : i < 4096) : i / 64 < wordsS n := by unfold wordsS; split <;> split <;> omega
theorem words_out {n i : Int} (hn : i / 64 < wordsS n) : i < 4096 := by unfold wordsS at hn; split at hn <;> split at hn <;> omega
theorem newF_ok (n : Int) : okF (newF n) := by intro x hx; rw [newF, List.mem_replicate] at hx; omega
theorem newF_has (n i : Int) : hasF (newF n) i = false := by
  have : ∀ k, at0 (newF n) k = 0 := by
    intro k; unfold at0 newF
    rw [List.getD_eq_getElem?_getD, List.getElem?_replicate]; split <;> rfl
  unfold hasF; rw [this]; simp
theorem flags_words_ok {n : Int} {Q : Int → Prop} (hQ : Q (wordsS n)) : flags_words n Q := by
  unfold flags_words
  rw [shr6]
  have e : w64 ((if 4096 < (if 0 > n then 0 else n) then 4096 else (if 0 > n then 0 else n)) + 63) / 64 = (wordsS n : Int) := by
    unfold wordsS
    rw [w64_eq]
    split <;> split <;> omega
  rw [e]; exact hQ
theorem flags_New_ok {n : Int} {Q : List Int → Prop} (hQ : Q (newF n)) : flags_New n Q := by
  unfold flags_New
  refine flags_words_ok ⟨by omega, by have := words_le n; omega, ?_⟩
  simpa [newF] using hQ
def putF (f : List Int) (i : Int) : List Int := if 0 ≤ i ∧ i / 64 < f.length then f.set (i / 64).toNat (((at0 f (i / 64)).toNat ||| 2 ^ (i % 64).toNat : Nat) : Int) else f
theorem putF_len (f : List Int) (i : Int) : (putF f i).length = f.length := by unfold putF; split <;> simp
theorem putF_ok {f : List Int} (h : okF f) (i : Int) : okF (putF f i) := by
  unfold putF
  split
  · intro x hx
    rcases List.mem_or_eq_of_mem_set hx with hx | hx
    · exact h x hx
    · have hb := okF_at h (i / 64)
      have hp : (2 : Nat) ^ (i % 64).toNat < 2 ^ 64 := Nat.pow_lt_pow_right (by omega) (by omega)
      have := Nat.or_lt_two_pow (x := (at0 f (i / 64)).toNat) (y := 2 ^ (i % 64).toNat) (n := 64) (by omega) hp
      omega
  · exact h
theorem putF_has {f : List Int} (i j : Int) : hasF (putF f i) j = if j = i ∧ 0 ≤ i ∧ i / 64 < f.length then true else hasF f j := by
  unfold putF
  by_cases hc : 0 ≤ i ∧ i / 64 < f.length
  · rw [if_pos hc]
    rcases Int.lt_or_le j 0 with hj | hj
    · rw [hasF_neg hj, if_neg (by omega), hasF_neg hj]
    · have hset : ∀ v : Int, at0 (f.set (i / 64).toNat v) (j / 64) = if j / 64 = i / 64 then v else at0 f (j / 64) := by
        intro v
        unfold at0
        rw [List.getD_eq_getElem?_getD, List.getD_eq_getElem?_getD]
        by_cases e : j / 64 = i / 64
        · rw [if_pos e, e, List.getElem?_set_self (by omega)]; rfl
        · rw [if_neg e, List.getElem?_set_ne (by omega)]
      unfold hasF
      rw [hset]
      by_cases e : j / 64 = i / 64
      · rw [if_pos e, Int.toNat_natCast, Nat.testBit_or, Nat.testBit_two_pow, e]
        by_cases e2 : j = i
        · subst e2; simp [hc, hj]
        · have : ¬ (i % 64).toNat = (j % 64).toNat := by omega
          simp [e2, this]
      · rw [if_neg e, if_neg (by intro h; exact e (by rw [h.1]))]
  · rw [if_neg hc, if_neg (fun h => hc h.2)]
def ofF (n : Int) (l : List Int) : List Int := l.foldl (fun f i => if 0 ≤ i ∧ i < n ∧ i < 4096 then putF f i else f) (newF n)
theorem ofF_snoc (n : Int) (l : List Int) (i : Int) : ofF n (l ++ [i]) = if 0 ≤ i ∧ i < n ∧ i < 4096 then putF (ofF n l) i else ofF n l := by simp [ofF]
theorem ofF_prop (n : Int) (l : List Int) : okF (ofF n l) ∧ (ofF n l).length = wordsS n ∧ ∀ j, hasF (ofF n l) j = decide (j ∈ l ∧ 0 ≤ j ∧ j < n ∧ j < 4096) := by
  suffices H : ∀ k, k ≤ l.length → okF (ofF n (l.take k)) ∧ (ofF n (l.take k)).length = wordsS n ∧ ∀ j, hasF (ofF n (l.take k)) j = decide (j ∈ l.take k ∧ 0 ≤ j ∧ j < n ∧ j < 4096) by
    have := H l.length (by omega); rwa [List.take_length] at this
  intro k
  induction k with
  | zero => intro _; exact ⟨newF_ok n, by simp [ofF, newF], fun j => by simp [ofF, newF_has]⟩
  | succ k ih =>
    intro hk
    obtain ⟨h1, h2, h3⟩ := ih (by omega)
    rw [List.take_succ_eq_append_getElem (by omega), ofF_snoc]
    split
    · rename_i hc
      refine ⟨putF_ok h1 _, by rw [putF_len, h2], fun j => ?_⟩
      rw [putF_has, h2, h3]
      have hw := words_in hc.1 hc.2.1 hc.2.2
      by_cases e : j = l[k]
      · subst e
        rw [if_pos ⟨rfl, hc.1, hw⟩]
        exact (decide_eq_true ⟨List.mem_append.2 (.inr (by simp)), hc⟩).symm
      · rw [if_neg (fun h => e h.1)]
        refine decide_eq_decide.2 ?_
        rw [List.mem_append, List.mem_singleton]
        simp only [e, or_false]
    · rename_i hc
      refine ⟨h1, h2, fun j => ?_⟩
      rw [h3]
      refine decide_eq_decide.2 ?_
      rw [List.mem_append, List.mem_singleton]
      by_cases e : j = l[k]
      · subst e
        constructor
        · rintro ⟨q1, q2⟩; exact ⟨.inl q1, q2⟩
        · rintro ⟨_, q2⟩; exact absurd q2 hc
      · simp only [e, or_false]
theorem flags_Of_ok {n : Int} {l : List Int} {Q : List Int → Prop} (hl : l.length ≤ 1000000000) (hi : ∀ x ∈ l, inI x) (hQ : Q (ofF n l)) : flags_Of n l Q := by
  unfold flags_Of
  refine flags_New_ok (range_intro (fun (s : List Int) i => (s, i)) 0 l.length (by omega) (fun k s => s = ofF n (l.take k)) (by omega) (by simp [ofF]) (fun k s next _ hk hs hn => ?_) (fun s next hs => ?_))
  · subst hs
    have hsn := ofF_snoc n (l.take k) l[k]
    rw [← List.take_succ_eq_append_getElem hk] at hsn
    obtain ⟨p1, p2, _⟩ := ofF_prop n (l.take k)
    have hik := hi _ (List.getElem_mem hk)
    unfold inI at hik
    refine ifP_dec (fun _ => idxP_nat hk ?_) (fun h => by omega)
    refine join_intro (fun b => b = decide (l[k] < n ∧ 0 ≤ l[k] ∧ l[k] / 64 < wordsS n)) ?_ ?_
    · rintro b rfl
      refine ifP_dec (fun h => ?_) (fun h => hn _ ?_)
      · rw [shr6]
        refine idxP_at0 (by omega) (by rw [p2]; omega) (bit_ok h.2.1 (by omega) (idxP_at0 (by omega) (by rw [p2]; omega) (hn _ ?_)))
        have hb := okF_at p1 (l[k] / 64)
        have hp := pw_lt (k := (l[k] % 64).toNat) (by omega)
        rw [hsn, if_pos ⟨h.2.1, h.1, words_out h.2.2⟩, putF, if_pos ⟨h.2.1, by rw [p2]; exact h.2.2⟩, bor_nat hb.1 hb.2 (Int.natCast_nonneg _) (by generalize 2 ^ (l[k] % 64).toNat = p at *; omega), Int.toNat_natCast]
      · rw [hsn, if_neg]
        intro h'
        exact h ⟨h'.2.1, h'.1, words_in h'.1 h'.2.1 h'.2.2⟩
    · intro k' hk'
      refine ifP_dec (fun h => within_f_ok (hk' _ ?_)) (fun h => hk' _ ?_)
      · rw [p2]; simp [h]
      · simp [h]
  · subst hs
    refine ifP_dec (fun h => by omega) (fun _ => ?_)
    rw [List.take_length]; exact hQ
/-! ### What is in a set -/
def listF (f : List Int) : List Int := ((List.range (64 * f.length)).filter fun i : Nat => hasF f i).map fun i : Nat => (i : Int)
theorem listF_mem {f : List Int} {i : Int} : i ∈ listF f ↔ hasF f i = true := by
  unfold listF
  simp only [List.mem_map, List.mem_filter, List.mem_range]
  constructor
  · rintro ⟨k, ⟨_, h⟩, rfl⟩; exact h
  · intro h
    obtain ⟨h1, h2⟩ := hasF_in h
    exact ⟨i.toNat, ⟨by omega, by rw [Int.toNat_of_nonneg h1]; exact h⟩, by omega⟩
theorem listF_incr (f : List Int) : (listF f).Pairwise (· < ·) := by
  unfold listF
  rw [List.pairwise_map]
  exact List.Pairwise.imp (fun h => by omega) (List.Pairwise.filter _ List.pairwise_lt_range)
def rightF (f : List Int) (n : Int) : Prop := (0 ≤ n ∧ n ≤ 4096) ∧ f.length = wordsS n ∧ ∀ i ∈ listF f, i < n
instance (f : List Int) (n : Int) : Decidable (rightF f n) := by unfold rightF; infer_instance
theorem ofF_right {n : Int} (h : 0 ≤ n ∧ n ≤ 4096) (l : List Int) : rightF (ofF n l) n := by
  obtain ⟨h1, h2, h3⟩ := ofF_prop n l
  refine ⟨h, h2, fun i hi => ?_⟩
  rw [listF_mem, h3] at hi
  exact (of_decide_eq_true hi).2.2.1
end Go.Proofs.YtdfiinkpdaggeaaGreat
