/- Products at two words: by halves and by doubling, and the rings' products. -/
import Derived.Test.YtdfiinkpdaggeaaGreatPushC
namespace Go.Proofs.YtdfiinkpdaggeaaGreat
open Go Go.Fw
set_option linter.unusedVariables false
set_option linter.unusedSimpArgs false
/-! ### Two words as a number -/
def ofZ (z : Int) : Wide := ⟨w64 (z / 18446744073709551616), z % 18446744073709551616⟩
theorem ofZ_okW (z : Int) : okW (ofZ z) := by unfold okW ofZ; simp only [w64_eq]; omega
theorem ofZ_add (x y : Int) : addW 5 (ofZ x) (ofZ y) = ofZ (x + y) := by
  have e : addW 5 (ofZ x) (ofZ y) = ⟨w64 ((ofZ x).Hi + (ofZ y).Hi + (if 18446744073709551616 ≤ (ofZ x).Lo + (ofZ y).Lo then 1 else 0)), ((ofZ x).Lo + (ofZ y).Lo) % 18446744073709551616⟩ := rfl
  rw [e]
  unfold ofZ
  apply wide_eta
  · simp only [w64_eq]; split <;> omega
  · simp only; omega
theorem ofI_ofZ {v : Int} (h : inI v) : ofI v = ofZ v := by
  unfold ofI ofZ inI at *
  apply wide_eta
  · simp only [w64_eq]; split <;> omega
  · rfl
theorem ofZ_nat {hi lo : Int} (h0 : 0 ≤ lo) (h1 : lo < 18446744073709551616) : (⟨w64 hi, lo⟩ : Wide) = ofZ (hi * 18446744073709551616 + lo) := by
  unfold ofZ
  apply wide_eta
  · simp only [w64_eq]; omega
  · simp only; omega
/-! ### Bits of one word -/
theorem shr_u {x : Int} (k : Nat) (hk : k ≤ 64) : shr .u64 x k = x / 2 ^ k := by
  unfold shr
  rw [Int.fdiv_eq_ediv_of_nonneg _ (Int.le_of_lt (Int.pow_pos (by omega)))]
  have : min (Int.toNat (k : Int)) (IntKind.bits .u64) = k := by simp [IntKind.bits]; omega
  rw [this]
theorem shl_u {x : Int} (k : Nat) (hk : k ≤ 64) : shl .u64 x k = (x * 2 ^ k) % 18446744073709551616 := by
  unfold shl
  rw [u64_eq]
  have : min (Int.toNat (k : Int)) (IntKind.bits .u64) = k := by simp [IntKind.bits]; omega
  rw [this]
theorem ofInt_nat (x : Int) (h0 : 0 ≤ x) (h1 : x < 18446744073709551616) : (BitVec.ofInt 64 x).toNat = x.toNat := by
  rw [BitVec.toNat_ofInt]
  congr 1
  exact Int.emod_eq_of_lt h0 (by simpa using h1)
theorem bor_nat {x y : Int} (hx0 : 0 ≤ x) (hx1 : x < 18446744073709551616) (hy0 : 0 ≤ y) (hy1 : y < 18446744073709551616) : bor .u64 x y = ((x.toNat ||| y.toNat : Nat) : Int) := by
  unfold bor
  have e : (BitVec.ofInt (IntKind.bits .u64) x ||| BitVec.ofInt (IntKind.bits .u64) y).toNat = x.toNat ||| y.toNat := by
    show (BitVec.ofInt 64 x ||| BitVec.ofInt 64 y).toNat = _
    rw [BitVec.toNat_or, ofInt_nat x hx0 hx1, ofInt_nat y hy0 hy1]
  rw [e, u64_eq]
  have : x.toNat ||| y.toNat < 2 ^ 64 := Nat.or_lt_two_pow (by omega) (by omega)
  omega
theorem bnd_nat {x y : Int} (hx0 : 0 ≤ x) (hx1 : x < 18446744073709551616) (hy0 : 0 ≤ y) (hy1 : y < 18446744073709551616) : bnd .u64 x y = ((x.toNat &&& y.toNat : Nat) : Int) := by
  unfold bnd
  have e : (BitVec.ofInt (IntKind.bits .u64) x &&& BitVec.ofInt (IntKind.bits .u64) y).toNat = x.toNat &&& y.toNat := by
    show (BitVec.ofInt 64 x &&& BitVec.ofInt 64 y).toNat = _
    rw [BitVec.toNat_and, ofInt_nat x hx0 hx1, ofInt_nat y hy0 hy1]
  rw [e, u64_eq]
  have : x.toNat &&& y.toNat < 2 ^ 64 := Nat.and_lt_two_pow _ (by omega)
  omega
theorem bor_halves {h l : Int} (hh0 : 0 ≤ h) (hh1 : h < 4294967296) (hl0 : 0 ≤ l) (hl1 : l < 4294967296) : bor .u64 (h * 4294967296) l = h * 4294967296 + l := by
  rw [bor_nat (by omega) (by omega) hl0 (by omega)]
  have e : (h * 4294967296).toNat = h.toNat <<< 32 := by rw [Nat.shiftLeft_eq]; omega
  rw [e, ← Nat.shiftLeft_add_eq_or_of_lt (by omega), Nat.shiftLeft_eq]
  omega
/-! ### Products -/
theorem halves_ok {x : Int} {Q : Int × Int → Prop} (h0 : 0 ≤ x) (h1 : x < 18446744073709551616) (hQ : Q (x % 4294967296, x / 4294967296)) : wide_halves x Q := by
  unfold wide_halves
  have e1 : shl .u64 x 32 = (x * 4294967296) % 18446744073709551616 := shl_u 32 (by omega)
  have e2 : ∀ y, shr .u64 y 32 = y / 4294967296 := fun y => shr_u 32 (by omega)
  rw [e1, e2, e2]
  rwa [show x * 4294967296 % 18446744073709551616 / 4294967296 = x % 4294967296 by omega]
theorem product_ok {a b : Int} {Q : Wide → Prop} (ha0 : 0 ≤ a) (ha1 : a < 18446744073709551616) (hb0 : 0 ≤ b) (hb1 : b < 18446744073709551616) (hQ : Q (ofZ (a * b))) : wide_product a b Q := by
  unfold wide_product
  have hlt : ∀ x y : Int, 0 ≤ x → x < 4294967296 → 0 ≤ y → y < 4294967296 → 0 ≤ x * y ∧ x * y ≤ 18446744065119617025 := by
    intro x y h1 h2 h3 h4
    refine ⟨Int.mul_nonneg h1 h3, ?_⟩
    have := Int.mul_le_mul (show x ≤ 4294967295 by omega) (show y ≤ 4294967295 by omega) h3 (by omega)
    omega
  refine halves_ok ha0 ha1 (halves_ok hb0 hb1 ?_)
  simp only
  obtain ⟨x0, hx0⟩ : ∃ x0, x0 = a % 4294967296 := ⟨_, rfl⟩
  obtain ⟨x1, hx1⟩ : ∃ x1, x1 = a / 4294967296 := ⟨_, rfl⟩
  obtain ⟨y0, hy0⟩ : ∃ y0, y0 = b % 4294967296 := ⟨_, rfl⟩
  obtain ⟨y1, hy1⟩ : ∃ y1, y1 = b / 4294967296 := ⟨_, rfl⟩
  rw [← hx0, ← hx1, ← hy0, ← hy1]
  have hab : a * b = x1 * y1 * 18446744073709551616 + (x1 * y0 + x0 * y1) * 4294967296 + x0 * y0 := by
    have e1 : a = x1 * 4294967296 + x0 := by omega
    have e2 : b = y1 * 4294967296 + y0 := by omega
    rw [e1, e2, Int.add_mul, Int.mul_add, Int.mul_add]
    have q1 : x1 * 4294967296 * (y1 * 4294967296) = x1 * y1 * 18446744073709551616 := by rw [Int.mul_assoc, Int.mul_left_comm 4294967296 y1, ← Int.mul_assoc x1]; rfl
    have q2 : x1 * 4294967296 * y0 = x1 * y0 * 4294967296 := Int.mul_right_comm _ _ _
    have q3 : x0 * (y1 * 4294967296) = x0 * y1 * 4294967296 := (Int.mul_assoc _ _ _).symm
    rw [q1, q2, q3]; omega
  obtain ⟨b00, c00⟩ := hlt x0 y0 (by omega) (by omega) (by omega) (by omega)
  obtain ⟨b01, c01⟩ := hlt x0 y1 (by omega) (by omega) (by omega) (by omega)
  obtain ⟨b10, c10⟩ := hlt x1 y0 (by omega) (by omega) (by omega) (by omega)
  obtain ⟨b11, c11⟩ := hlt x1 y1 (by omega) (by omega) (by omega) (by omega)
  generalize x0 * y0 = p00 at *
  generalize x0 * y1 = p01 at *
  generalize x1 * y0 = p10 at *
  generalize x1 * y1 = p11 at *
  simp only [u64_eq]
  refine halves_ok (by omega) (by omega) ?_
  simp only
  refine halves_ok (by omega) (by omega) ?_
  simp only
  refine halves_ok (by omega) (by omega) (halves_ok (by omega) (by omega) ?_)
  simp only
  have e3 : ∀ y, shl .u64 y 32 = (y * 4294967296) % 18446744073709551616 := fun y => shl_u 32 (by omega)
  rw [e3]
  have e4 : ∀ y : Int, (y % 4294967296 * 4294967296) % 18446744073709551616 = y % 4294967296 * 4294967296 := fun y => by omega
  rw [e4, bor_halves (by omega) (by omega) (by omega) (by omega), ofZ_nat (by omega) (by omega)]
  rw [hab] at hQ
  have hfin : ofZ (((((p11 % 18446744073709551616 + (p10 % 18446744073709551616 + p00 % 18446744073709551616 / 4294967296) % 18446744073709551616 / 4294967296) % 18446744073709551616 + (p01 % 18446744073709551616 + (p10 % 18446744073709551616 + p00 % 18446744073709551616 / 4294967296) % 18446744073709551616 % 4294967296) % 18446744073709551616 / 4294967296) % 18446744073709551616) * 18446744073709551616 + ((p01 % 18446744073709551616 + (p10 % 18446744073709551616 + p00 % 18446744073709551616 / 4294967296) % 18446744073709551616 % 4294967296) % 18446744073709551616 % 4294967296 * 4294967296 + p00 % 18446744073709551616 % 4294967296))) = ofZ (p11 * 18446744073709551616 + (p10 + p01) * 4294967296 + p00) := by
    unfold ofZ
    apply wide_eta
    · simp only [w64_eq]; omega
    · simp only; omega
  rw [hfin]; exact hQ
theorem okW_toZ {a : Wide} (h : okW a) : a = ofZ (a.Hi * 18446744073709551616 + a.Lo) := by
  unfold okW at h
  rw [← ofZ_nat (by omega) (by omega)]
  apply wide_eta
  · simp only [w64_eq]; omega
  · rfl
theorem sub_ok {x : Int} {Q : Wide → Prop} (hQ : Q (ofZ (-x))) : wide_Sub ⟨0, 0⟩ (ofZ x) Q := by
  unfold wide_Sub wide_carry
  have key : ∀ c : Int, (c = if 0 < (ofZ x).Lo then 1 else 0) → (⟨w64 ((((0 % 18446744073709551616) - ((ofZ x).Hi % 18446744073709551616)) % 18446744073709551616 - c) % 18446744073709551616), (0 - (ofZ x).Lo) % 18446744073709551616⟩ : Wide) = ofZ (-x) := by
    intro c hc
    unfold ofZ at *
    subst hc
    apply wide_eta
    · simp only [w64_eq]; split <;> omega
    · simp only; omega
  simp only [u64_eq]
  refine ifP_dec (fun h => ?_) (fun h => ?_)
  · rw [key 1 (by rw [if_pos h])]; exact hQ
  · rw [key 0 (by rw [if_neg h])]; exact hQ
theorem wide_Mul_ok {a b : Int} {Q : Wide → Prop} (ha : inI a) (hb : inI b) (hQ : Q (ofZ (a * b))) : wide_Mul a b Q := by
  unfold wide_Mul
  unfold inI at ha hb
  have hs : ∀ {x : Int} {K : Int → Prop}, -9223372036854775808 ≤ x ∧ x ≤ 9223372036854775807 → K (if x < 0 then -x else x) → wide_size x K := by
    intro x K hx hK
    unfold wide_size
    simp only [u64_eq]
    refine ifP_dec (fun h => ?_) (fun h => ?_)
    · rw [if_pos h] at hK; rwa [show (0 - x % 18446744073709551616) % 18446744073709551616 = -x by omega]
    · rw [if_neg h] at hK; rwa [show x % 18446744073709551616 = x by omega]
  refine hs ha (hs hb ?_)
  have m1 : -a * b = -(a * b) := Int.neg_mul _ _
  have m2 : a * -b = -(a * b) := Int.mul_neg _ _
  have m3 : -a * -b = a * b := Int.neg_mul_neg _ _
  refine product_ok (by split <;> omega) (by split <;> omega) (by split <;> omega) (by split <;> omega) ?_
  by_cases h1 : a < 0 <;> by_cases h2 : b < 0
  · rw [if_pos h1, if_pos h2, m3]
    exact ifP_neg (by simp [h1, h2]) hQ
  · rw [if_pos h1, if_neg h2, m1]
    exact ifP_pos (by simp [h1, h2]) (sub_ok (by rwa [Int.neg_neg]))
  · rw [if_neg h1, if_pos h2, m2]
    exact ifP_pos (by simp [h1, h2]) (sub_ok (by rwa [Int.neg_neg]))
  · rw [if_neg h1, if_neg h2]
    exact ifP_neg (by simp [h1, h2]) hQ
def mulW (r a x : Int) : Wide :=
  if r = 2 then (if a ≠ 0 ∧ x ≠ 0 then ⟨0, 1⟩ else ⟨0, 0⟩)
  else if r = 5 then ofZ (a * x)
  else if r = 1 ∨ r = 3 ∨ r = 4 then
    (if 4611686018427387904 ≤ a ∨ 4611686018427387904 ≤ x then ofZ 4611686018427387904
     else if r = 3 then ofZ a else if r = 4 then ofZ x else if leW (ofZ 4611686018427387904) (ofZ (a + x)) then ofZ 4611686018427387904 else ofZ (a + x))
  else ⟨0, 0⟩
theorem mulW_okW (r a x : Int) : okW (mulW r a x) := by
  have h0 : okW ⟨0, 0⟩ := by unfold okW; simp
  have h1 : okW ⟨0, 1⟩ := by unfold okW; simp
  unfold mulW
  repeat' split
  all_goals first | exact ofZ_okW _ | exact h0 | exact h1
theorem leW_ofZ {x y : Int} (hx : -170141183460469231731687303715884105728 ≤ x ∧ x < 170141183460469231731687303715884105728) (hy : -170141183460469231731687303715884105728 ≤ y ∧ y < 170141183460469231731687303715884105728) : leW (ofZ x) (ofZ y) ↔ x ≤ y := by
  have h : ∀ z : Int, -170141183460469231731687303715884105728 ≤ z ∧ z < 170141183460469231731687303715884105728 → w64 (z / 18446744073709551616) = z / 18446744073709551616 := by
    intro z hz; rw [w64_eq]; omega
  unfold leW ofZ
  simp only [h x hx, h y hy]
  omega
theorem ring_Mul_ok {r a x : Int} {Q : Wide → Prop} (ha : inI a) (hx : inI x) (hQ : Q (mulW r a x)) : ring_Mul r a x Q := by
  unfold ring_Mul
  unfold mulW at hQ
  have ia : inI 4611686018427387904 := by unfold inI; omega
  refine ifP_eq (fun h => ?_) (fun h => ifP_eq (fun h5 => ?_) (fun h5 => ?_))
  · rw [if_pos h] at hQ
    refine ifP_ne (fun h1 => truth_ok ?_) (fun h1 => truth_ok ?_)
    · simpa [h1] using hQ
    · simpa [h1] using hQ
  · rw [if_neg h, if_pos h5] at hQ
    exact wide_Mul_ok ha hx hQ
  · rw [if_neg h, if_neg h5] at hQ
    have emax : (if x > a then x else a) ≥ 4611686018427387904 ↔ 4611686018427387904 ≤ a ∨ 4611686018427387904 ≤ x := by split <;> omega
    refine join_intro (fun _ => ¬ ((1 ≤ r ∧ r ≤ 5) ∧ (4611686018427387904 ≤ a ∨ 4611686018427387904 ≤ x))) ?_ ?_
    · rintro _ hno
      refine join_intro (fun p : Int × Int => (⟨p.1, p.2⟩ : Wide) = ofZ (if r = 1 then a else 0) ∧ (r = 1 ∨ r = 4)) ?_ ?_
      · rintro ⟨p1, p2⟩ ⟨hp, hr⟩
        simp only at hp ⊢
        refine wide_Of_ok ia (wide_Of_ok hx ?_)
        rw [hp, ofI_ofZ ia, ofI_ofZ hx]
        refine wide_Add_ok (ofZ_okW _) (ofZ_okW _) (lesser_ok ?_)
        rw [ofZ_add]
        rw [if_pos (by omega), if_neg (by omega), if_neg (by omega)] at hQ
        rcases hr with hr | hr
        · rw [if_pos hr]; rwa [if_neg (by omega)] at hQ
        · rw [if_neg (show ¬ r = 1 by omega), show (0 : Int) + x = x by omega]
          rw [if_pos hr] at hQ
          unfold inI at hx
          rwa [if_neg (by rw [leW_ofZ (by omega) (by omega)]; omega)]
      · intro k hk
        refine ifP_eq (fun h1 => wide_Of_ok ha (hk _ ⟨?_, .inl h1⟩)) (fun h1 => ifP_eq (fun h4 => hk _ ⟨?_, .inr h4⟩) (fun h4 => ifP_eq (fun h3 => wide_Of_ok ha ?_) (fun h3 => ?_)))
        · rw [if_pos h1]; exact ofI_ofZ ha
        · rw [if_neg h1]; decide
        · rw [if_pos (by omega), if_neg (by omega), if_pos h3] at hQ
          rw [ofI_ofZ ha]; exact hQ
        · rw [if_neg (by omega)] at hQ; exact hQ
    · intro k hk
      refine ring_Is_ok ⟨fun h1 => ifP_dec (fun h2 => wide_Of_ok ia ?_) (fun h2 => hk _ ?_), fun h1 => hk _ ?_⟩
      · have h1 := of_decide_eq_true h1
        rw [if_pos (by omega), if_pos (emax.1 h2)] at hQ
        rw [ofI_ofZ ia]; exact hQ
      · exact fun h' => h2 (emax.2 h'.2)
      · exact fun h' => of_decide_eq_false h1 h'.1
end Go.Proofs.YtdfiinkpdaggeaaGreat
