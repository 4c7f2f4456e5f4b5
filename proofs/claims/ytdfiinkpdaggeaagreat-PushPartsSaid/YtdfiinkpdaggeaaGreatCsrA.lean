/- Rings at two words, and edges put together: the program's maps and sorts, and the reference's rows, against one plain function. -/
import Derived.Test.YtdfiinkpdaggeaaGreatT
import Derived.Test.YtdfiinkpdaggeaaGreatFwQ
namespace Go.Proofs.YtdfiinkpdaggeaaGreat
open Go Go.Fw
set_option linter.unusedVariables false
set_option linter.unusedSimpArgs false
/-! ### Comparing -/
def cmpc (x y : Int) : Int := if x < y then -1 else if y < x then 1 else 0
theorem cmp_int_ok {x y : Int} {Q : Int → Prop} (h : Q (cmpc x y)) : cmp_Compare_int x y Q := by
  unfold cmp_Compare_int cmp_isNaN_int
  unfold cmpc at h
  refine ifP_neg (by simp) (ifP_neg (by simp) (ifP_dec (fun h1 => ?_) (fun h1 => ifP_dec (fun h2 => ?_) (fun h2 => ?_))))
  · rwa [if_pos h1] at h
  · rwa [if_neg h1, if_pos h2] at h
  · rwa [if_neg h1, if_neg h2] at h
theorem cmp_int64_ok {x y : Int} {Q : Int → Prop} (h : Q (cmpc x y)) : cmp_Compare_int64 x y Q := by
  unfold cmp_Compare_int64 cmp_isNaN_int64
  unfold cmpc at h
  refine ifP_neg (by simp) (ifP_neg (by simp) (ifP_dec (fun h1 => ?_) (fun h1 => ifP_dec (fun h2 => ?_) (fun h2 => ?_))))
  · rwa [if_pos h1] at h
  · rwa [if_neg h1, if_pos h2] at h
  · rwa [if_neg h1, if_neg h2] at h
theorem cmp_uint64_ok {x y : Int} {Q : Int → Prop} (h : Q (cmpc x y)) : cmp_Compare_uint64 x y Q := by
  unfold cmp_Compare_uint64 cmp_isNaN_uint64
  unfold cmpc at h
  refine ifP_neg (by simp) (ifP_neg (by simp) (ifP_dec (fun h1 => ?_) (fun h1 => ifP_dec (fun h2 => ?_) (fun h2 => ?_))))
  · rwa [if_pos h1] at h
  · rwa [if_neg h1, if_pos h2] at h
  · rwa [if_neg h1, if_neg h2] at h
def or2 (x y : Int) : Int := if x = 0 then y else x
theorem or_ok {x y : Int} {Q : Int → Prop} (h : Q (or2 x y)) : cmp_Or_int [x, y] Q := by
  unfold cmp_Or_int
  unfold or2 at h
  refine scan_intro 2 (by omega) (fun i => (0 < i → x = 0) ∧ (1 < i → y = 0)) ⟨by omega, by omega⟩ (fun i next hi hR hn => ?_) (fun next hR => ?_)
  · refine ifP_dec (fun _ => ?_) (fun h => by simp at h; omega)
    match i, hi with
    | 0, _ => exact idxP_intro (by omega) (x := x) rfl (ifP_ne (fun e => by rwa [if_neg e] at h) (fun e => hn ⟨fun _ => e, by omega⟩))
    | 1, _ => exact idxP_intro (by omega) (x := y) rfl (ifP_ne (fun e => by rwa [if_pos (hR.1 (by omega))] at h) (fun e => hn ⟨fun _ => hR.1 (by omega), fun _ => e⟩))
  · refine ifP_dec (fun h => by simp at h) (fun _ => ?_)
    rwa [if_pos (hR.1 (by omega)), hR.2 (by omega)] at h
/-! ### Two words -/
def okW (a : Wide) : Prop := -9223372036854775808 ≤ a.Hi ∧ a.Hi ≤ 9223372036854775807 ∧ 0 ≤ a.Lo ∧ a.Lo ≤ 18446744073709551615
def inI (x : Int) : Prop := -9223372036854775808 ≤ x ∧ x ≤ 9223372036854775807
def leW (a b : Wide) : Prop := a.Hi < b.Hi ∨ (a.Hi = b.Hi ∧ a.Lo ≤ b.Lo)
instance (a b : Wide) : Decidable (leW a b) := by unfold leW; infer_instance
theorem u64_eq (x : Int) : IntKind.wrap .u64 x = x % 18446744073709551616 := by
  simp [IntKind.wrap, IntKind.bits, IntKind.signed]
theorem w64_eq (x : Int) : w64 x = (x + 9223372036854775808) % 18446744073709551616 - 9223372036854775808 := by
  show IntKind.wrap .i64 x = _
  rw [IntKind.wrap_i64]
def ofI (v : Int) : Wide := ⟨if v < 0 then -1 else 0, v % 18446744073709551616⟩
theorem ofI_okW {v : Int} (h : inI v) : okW (ofI v) := by unfold ofI okW; unfold inI at h; simp only; split <;> omega
theorem shr63 {v : Int} (h : inI v) : shr .i64 v 63 = if v < 0 then -1 else 0 := by
  unfold inI at h
  show v.fdiv (2 ^ 63) = _
  rw [Int.fdiv_eq_ediv_of_nonneg _ (by decide)]
  split
  · rw [show (2 : Int) ^ 63 = 9223372036854775808 from rfl]; omega
  · rw [show (2 : Int) ^ 63 = 9223372036854775808 from rfl]; omega
theorem wide_Of_ok {v : Int} {Q : Wide → Prop} (h : inI v) (hQ : Q (ofI v)) : wide_Of v Q := by
  unfold wide_Of; rw [shr63 h, u64_eq]; exact hQ
theorem ref01_Of_ok {v : Int} {Q : Wide → Prop} (h : inI v) (hQ : Q (ofI v)) : ref01_Of v Q := by
  unfold ref01_Of; unfold ofI at hQ
  refine ifP_dec (fun h1 => ?_) (fun h1 => ?_)
  · rw [if_pos h1] at hQ; rwa [u64_eq]
  · rw [if_neg h1] at hQ; rwa [u64_eq]
theorem wide_cmp_ok {a b : Wide} {Q : Int → Prop} (hQ : Q (or2 (cmpc a.Hi b.Hi) (cmpc a.Lo b.Lo))) : wide_Compare a b Q := by
  unfold wide_Compare
  exact cmp_int64_ok (cmp_uint64_ok (or_ok hQ))
theorem lesser_ok {a b : Wide} {Q : Wide → Prop} (hQ : Q (if leW a b then a else b)) : ring_lesser a b Q := by
  unfold ring_lesser
  refine wide_cmp_ok (ifP_dec (fun h => ?_) (fun h => ?_))
  · rwa [if_pos] at hQ
    unfold leW; unfold or2 cmpc at h
    (repeat' split at h) <;> omega
  · rwa [if_neg] at hQ
    unfold leW; unfold or2 cmpc at h
    (repeat' split at h) <;> omega
theorem wide_eta {a b : Wide} (h1 : a.Hi = b.Hi) (h2 : a.Lo = b.Lo) : a = b := by cases a; cases b; simp_all
theorem ref01_cmp_ok {a b : Wide} {Q : Int → Prop} (h1 : ¬ leW b a → Q (-1)) (h2 : leW b a → ∀ x : Int, 0 ≤ x → Q x) : ref01_Compare a b Q := by
  unfold ref01_Compare
  refine join_intro (fun _ => leW b a) (fun _ hb => ifP_eq (fun _ => h2 hb 0 (by omega)) (fun _ => h2 hb 1 (by omega))) fun k hk => ?_
  refine ifP_dec (fun h => h1 ?_) (fun h => ifP_eq (fun e => ifP_dec (fun h' => h1 ?_) (fun h' => hk () ?_)) (fun e => hk () ?_))
  all_goals (unfold leW; omega)
def addW (r : Int) (a b : Wide) : Wide :=
  if r = 1 ∨ r = 3 ∨ r = 4 then (if leW a b then a else b)
  else if r = 2 then (if a = ⟨0, 0⟩ ∧ b = ⟨0, 0⟩ then ⟨0, 0⟩ else ⟨0, 1⟩)
  else if r = 5 then ⟨w64 (a.Hi + b.Hi + (if 18446744073709551616 ≤ a.Lo + b.Lo then 1 else 0)), (a.Lo + b.Lo) % 18446744073709551616⟩
  else ⟨0, 0⟩
theorem addW_okW {r : Int} {a b : Wide} (ha : okW a) (hb : okW b) : okW (addW r a b) := by
  unfold addW
  split
  · split <;> assumption
  · split
    · split <;> (unfold okW; simp)
    · split
      · unfold okW at *; simp only [w64_eq]; omega
      · unfold okW; simp
theorem truth_ok {b : Bool} {Q : Wide → Prop} (hQ : Q (if b then ⟨0, 1⟩ else ⟨0, 0⟩)) : ring_truth b Q := by
  unfold ring_truth
  refine ⟨fun h => wide_Of_ok (by unfold inI; omega) ?_, fun h => ?_⟩
  · subst h; exact hQ
  · subst h; exact hQ
theorem ref02_truth_ok {b : Bool} {Q : Wide → Prop} (hQ : Q (if b then ⟨0, 1⟩ else ⟨0, 0⟩)) : ref02_truth b Q := by
  unfold ref02_truth
  refine ⟨fun h => ?_, fun h => ?_⟩
  · subst h; exact hQ
  · subst h; exact hQ
theorem wide_Add_ok {a b : Wide} {Q : Wide → Prop} (ha : okW a) (hb : okW b) (hQ : Q (addW 5 a b)) : wide_Add a b Q := by
  unfold wide_Add wide_carry
  have e : addW 5 a b = ⟨w64 (a.Hi + b.Hi + (if 18446744073709551616 ≤ a.Lo + b.Lo then 1 else 0)), (a.Lo + b.Lo) % 18446744073709551616⟩ := rfl
  rw [e] at hQ
  unfold okW at ha hb
  simp only [u64_eq, w64_eq] at hQ ⊢
  refine ifP_dec (fun h => ?_) (fun h => ?_)
  · rw [if_pos (by omega)] at hQ
    have : ((a.Hi % 18446744073709551616 + b.Hi % 18446744073709551616) % 18446744073709551616 + 1) % 18446744073709551616 = (a.Hi + b.Hi + 1) % 18446744073709551616 := by omega
    rw [this]
    have : ((a.Hi + b.Hi + 1) % 18446744073709551616 + 9223372036854775808) % 18446744073709551616 = (a.Hi + b.Hi + 1 + 9223372036854775808) % 18446744073709551616 := by omega
    rw [this]; exact hQ
  · rw [if_neg (by omega)] at hQ
    have : ((a.Hi % 18446744073709551616 + b.Hi % 18446744073709551616) % 18446744073709551616 + 0) % 18446744073709551616 = (a.Hi + b.Hi + 0) % 18446744073709551616 := by omega
    rw [this]
    have : ((a.Hi + b.Hi + 0) % 18446744073709551616 + 9223372036854775808) % 18446744073709551616 = (a.Hi + b.Hi + 0 + 9223372036854775808) % 18446744073709551616 := by omega
    rw [this]; exact hQ
theorem ref01_Add_ok {a b : Wide} {Q : Wide → Prop} (ha : okW a) (hb : okW b) (hQ : Q (addW 5 a b)) : ref01_Add a b Q := by
  unfold ref01_Add
  have e : addW 5 a b = ⟨w64 (a.Hi + b.Hi + (if 18446744073709551616 ≤ a.Lo + b.Lo then 1 else 0)), (a.Lo + b.Lo) % 18446744073709551616⟩ := rfl
  rw [e] at hQ
  unfold okW at ha hb
  simp only [u64_eq, w64_eq] at hQ ⊢
  refine ifP_dec (fun h => ?_) (fun h => ?_)
  · rw [if_pos (by omega)] at hQ
    have : ((a.Hi + b.Hi + 9223372036854775808) % 18446744073709551616 - 9223372036854775808 + 1 + 9223372036854775808) % 18446744073709551616 = (a.Hi + b.Hi + 1 + 9223372036854775808) % 18446744073709551616 := by omega
    rw [this]; exact hQ
  · rw [if_neg (by omega)] at hQ
    rwa [show a.Hi + b.Hi + 0 = a.Hi + b.Hi by omega] at hQ
theorem ring_Add_ok {r : Int} {a b : Wide} {Q : Wide → Prop} (ha : okW a) (hb : okW b) (hQ : Q (addW r a b)) : ring_Add r a b Q := by
  unfold ring_Add
  refine join_intro (fun t => t = decide (r = 1 ∨ r = 3 ∨ r = 4)) (fun t ht => ?_) fun k hk => ?_
  · subst ht
    refine ifP_dec (fun h => lesser_ok ?_) (fun h => ifP_eq (fun h2 => ?_) (fun h2 => ifP_eq (fun h5 => wide_Add_ok ha hb ?_) (fun h5 => ?_)))
    · unfold addW at hQ; rwa [if_pos h] at hQ
    · subst h2
      unfold addW at hQ
      rw [if_neg h, if_pos rfl] at hQ
      refine ifP_not (fun hne => truth_ok ?_) (fun he => truth_ok ?_)
      · rw [if_neg] at hQ
        · exact hQ
        · rintro ⟨e1, e2⟩; subst e1 e2; simp at hne
      · have he : a = b := by simpa using he
        subst he
        by_cases e : a = ⟨0, 0⟩
        · rw [if_pos ⟨e, e⟩] at hQ; simpa [e] using hQ
        · rw [if_neg (fun h => e h.1)] at hQ; simpa [e] using hQ
    · subst h5; exact hQ
    · unfold addW at hQ; rwa [if_neg h, if_neg h2, if_neg h5] at hQ
  · refine ifP_eq (fun h => hk _ ?_) (fun h => ifP_eq (fun h3 => hk _ ?_) (fun h3 => hk _ ?_))
    · simp [h]
    · simp [h3]
    · by_cases h4 : r = 4 <;> simp [h, h3, h4]
theorem ref02_Add_ok {r : Int} {a b : Wide} {Q : Wide → Prop} (ha : okW a) (hb : okW b) (hQ : Q (addW r a b)) : ref02_Add r a b Q := by
  unfold ref02_Add
  refine join_intro (fun t => t = decide (r = 1 ∨ r = 3 ∨ r = 4)) (fun t ht => ?_) fun k hk => ?_
  · subst ht
    refine ifP_dec (fun h => ref01_cmp_ok (fun h1 => ifP_dec (fun _ => ?_) (fun h => by omega)) (fun h1 x hx => ifP_dec (fun h => by omega) (fun _ => ?_))) (fun h => ifP_eq (fun h2 => ?_) (fun h2 => ifP_eq (fun h5 => ref01_Add_ok ha hb ?_) (fun h5 => ?_)))
    · unfold addW at hQ; rwa [if_pos h, if_neg h1] at hQ
    · unfold addW at hQ; rwa [if_pos h, if_pos h1] at hQ
    · subst h2
      unfold addW at hQ
      rw [if_neg h, if_pos rfl] at hQ
      refine ifP_not (fun hne => ref02_truth_ok ?_) (fun he => ref02_truth_ok ?_)
      · rw [if_neg] at hQ
        · exact hQ
        · rintro ⟨e1, e2⟩; subst e1; simp at hne
      · have he : a = ⟨0, 0⟩ := by simpa using he
        subst he
        by_cases e : b = ⟨0, 0⟩
        · rw [if_pos ⟨rfl, e⟩] at hQ; simpa [e] using hQ
        · rw [if_neg (fun h => e h.2)] at hQ; simpa [e] using hQ
    · subst h5; exact hQ
    · unfold addW at hQ; rwa [if_neg h, if_neg h2, if_neg h5] at hQ
  · refine ifP_eq (fun h => hk _ ?_) (fun h => ifP_eq (fun h3 => hk _ ?_) (fun h3 => hk _ ?_))
    · simp [h]
    · simp [h3]
    · by_cases h4 : r = 4 <;> simp [h, h3, h4]
/-! ### Back to one word -/
def narS (a : Wide) : Int × Bool := if (a.Hi = 0 ∧ a.Lo ≤ 9223372036854775807) ∨ (a.Hi = -1 ∧ 9223372036854775808 ≤ a.Lo) then (w64 a.Lo, true) else (0, false)
theorem narrow_ok {r : Int} {a : Wide} {Q : Int × Bool → Prop} (ha : okW a) (hQ : Q (narS a)) : ring_Narrow r a Q := by
  unfold ring_Narrow wide_Narrow
  unfold okW at ha
  unfold narS at hQ
  refine wide_Of_ok (by unfold inI; rw [w64_eq]; omega) (ifP_not (fun h => ?_) (fun h => ?_))
  · rw [if_neg] at hQ
    · exact hQ
    · intro h'
      simp only [beq_eq_false_iff_ne, ne_eq] at h
      apply h
      apply wide_eta <;> simp only [ofI, w64_eq] <;> (try split) <;> omega
  · have h : ofI (w64 a.Lo) = a := by simpa using h
    rw [if_pos] at hQ
    · exact hQ
    · rw [← h]
      simp only [ofI, w64_eq]
      split <;> omega
theorem ref01_narrow_ok {a : Wide} {Q : Int × Bool → Prop} (ha : okW a) (hQ : Q (narS a)) : ref01_Narrow a Q := by
  unfold ref01_Narrow
  unfold okW at ha
  have hy (h : (a.Hi = 0 ∧ a.Lo ≤ 9223372036854775807) ∨ (a.Hi = -1 ∧ 9223372036854775808 ≤ a.Lo)) : Q (w64 a.Lo, true) := by unfold narS at hQ; rwa [if_pos h] at hQ
  have hn (h : ¬ ((a.Hi = 0 ∧ a.Lo ≤ 9223372036854775807) ∨ (a.Hi = -1 ∧ 9223372036854775808 ≤ a.Lo))) : Q (0, false) := by unfold narS at hQ; rwa [if_neg h] at hQ
  refine ifP_eq (fun h => ifP_dec (fun h1 => hy ?_) (fun h1 => ifP_eq (fun h2 => by omega) (fun h2 => hn ?_))) (fun h => ifP_eq (fun h1 => ifP_dec (fun h2 => hy ?_) (fun h2 => hn ?_)) (fun h1 => hn ?_))
  all_goals (try rw [w64_eq] at h1); (try rw [w64_eq] at h2); omega
theorem ring_Is_ok {r : Int} {Q : Bool → Prop} (hQ : Q (decide (1 ≤ r ∧ r ≤ 5))) : ring_Is r Q := by
  unfold ring_Is
  refine ifP_dec (fun h => ?_) (fun h => ?_)
  · rwa [show decide (r < 6) = decide (1 ≤ r ∧ r ≤ 5) by apply decide_eq_decide.2; omega]
  · rwa [show decide (1 ≤ r ∧ r ≤ 5) = false by apply decide_eq_false; omega] at hQ
theorem ref02_Is_ok {r : Int} {Q : Bool → Prop} (hQ : Q (decide (1 ≤ r ∧ r ≤ 5))) : ref02_Is r Q := by
  unfold ref02_Is
  refine ifP_dec (fun h => ?_) (fun h => ?_)
  · rwa [show decide (r ≤ 5) = decide (1 ≤ r ∧ r ≤ 5) by apply decide_eq_decide.2; omega]
  · rwa [show decide (1 ≤ r ∧ r ≤ 5) = false by apply decide_eq_false; omega] at hQ
end Go.Proofs.YtdfiinkpdaggeaaGreat
