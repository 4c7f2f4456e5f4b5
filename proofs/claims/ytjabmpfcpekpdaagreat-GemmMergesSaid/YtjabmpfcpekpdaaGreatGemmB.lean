import Derived.Test.YtjabmpfcpekpdaaGreatOK
import Derived.Test.YtjabmpfcpekpdaaGreatCsrH
/- Rows turned, rows cut. -/
namespace Go.Proofs.YtjabmpfcpekpdaaGreat
open Go Go.Fw
set_option linter.unusedVariables false
set_option linter.unusedSimpArgs false
theorem Srt.nodup {l : List Triple} (h : Srt l) : l.Nodup := by
  rw [List.nodup_iff_pairwise_ne]
  exact List.Pairwise.imp (R := fun a b => ltK (key a) (key b)) (fun {a b} hab (e : a = b) => ltK_irrefl (key b) (by rw [e] at hab; exact hab)) h
theorem sure_built {rows cols : Int} {ts : List Triple} (h : Canon rows cols ts) : sureS (builtS rows cols ts) = builtS rows cols ts := by
  unfold sureS; rw [if_pos h.right]
/-! ### Turned -/
/-! ### Cut -/
end Go.Proofs.YtjabmpfcpekpdaaGreat

/- The program's cut; graphs as rows. -/
namespace Go.Proofs.YtjabmpfcpekpdaaGreat
open Go Go.Fw
set_option linter.unusedVariables false
set_option linter.unusedSimpArgs false
/-! ### Graphs -/
theorem fin_canon {r rows cols : Int} {kvs : List (Key × Int)} (h : 0 ≤ rows ∧ rows ≤ 4096 ∧ 0 ≤ cols ∧ cols ≤ 4096) (hl : kvs.length ≤ 65536) (hk : ∀ t ∈ kvs, inT rows cols (mkT t.1 0)) (hv : ∀ t ∈ kvs, inI t.2) : Canon rows cols (finS (SC r kvs) mkT).1 := by
  refine ⟨h.1, h.2.1, h.2.2.1, h.2.2.2, ?_, ?_, ?_⟩
  · exact Nat.le_trans (fin_len _) (by have := (SC_prop r kvs hv).1; omega)
  · unfold finS
    split
    · unfold Srt
      rw [List.pairwise_map]
      exact SC_srt r kvs
    · exact .nil
  · intro t ht
    unfold finS at ht
    split at ht
    · obtain ⟨p, hp, rfl⟩ := List.mem_map.1 ht
      obtain ⟨x, hx, e⟩ := SC_keys hp
      have := hk x hx
      unfold inT mkT at *
      rw [← e]
      exact this
    · simp at ht
end Go.Proofs.YtjabmpfcpekpdaaGreat

/- What must be whatever is asked; the statements CsrOf, CsrAsks, in plain Lean. -/
namespace Go.Proofs.YtjabmpfcpekpdaaGreat
open Go Go.Fw
set_option linter.unusedVariables false
set_option linter.unusedSimpArgs false
theorem small_zR : small zR := ⟨by decide, by decide, by decide⟩
theorem of_cases {r rows cols : Int} {ts : List Triple} (hv : ∀ t ∈ ts, inI t.Val) : ((ofS r rows cols ts).1 = zR ∧ (ofS r rows cols ts).2 ≠ 0) ∨ ∃ T, Canon rows cols T ∧ ofS r rows cols ts = (builtS rows cols T, 0) ∧ (1 ≤ r ∧ r ≤ 5) ∧ (∀ t ∈ ts, inT rows cols t) ∧ ts.length ≤ 65536 ∧ (0 ≤ rows ∧ rows ≤ 4096 ∧ 0 ≤ cols ∧ cols ≤ 4096) ∧ T = (finS (SC r (ts.map kvT)) mkT).1 ∧ (finS (SC r (ts.map kvT)) mkT).2 = 0 := by
  unfold ofS
  split
  · left; exact ⟨rfl, by simp⟩
  split
  · left; exact ⟨rfl, by simp⟩
  split
  · left; exact ⟨rfl, by simp⟩
  split
  · left; exact ⟨rfl, by simp⟩
  split
  · rename_i h; left; exact ⟨rfl, h⟩
  · rename_i h1 h2 h3 h4 h5
    right
    have h2 := Decidable.of_not_not h2
    have h4 := Decidable.of_not_not h4
    refine ⟨_, fin_canon h2 (by simpa using h3) (fun t ht => ?_) (fun t ht => ?_), rfl, Decidable.of_not_not h1, h4, by omega, h2, rfl, Decidable.of_not_not h5⟩
    · obtain ⟨x, hx, rfl⟩ := List.mem_map.1 ht
      exact h4 x hx
    · obtain ⟨x, hx, rfl⟩ := List.mem_map.1 ht
      exact hv x hx
theorem of_small {r rows cols : Int} {ts : List Triple} (hv : ∀ t ∈ ts, inI t.Val) : small (ofS r rows cols ts).1 := by
  rcases of_cases (r := r) (rows := rows) (cols := cols) hv with ⟨h, _⟩ | ⟨T, hT, h, _⟩
  · rw [h]; exact small_zR
  · rw [h]; exact hT.sml
end Go.Proofs.YtjabmpfcpekpdaaGreat

/- Lists of sums as one: by a heap, and two by two. -/
namespace Go.Proofs.YtjabmpfcpekpdaaGreat
open Go Go.Fw
set_option linter.unusedVariables false
set_option linter.unusedSimpArgs false
/-! ### Lists that rise, looked up -/
/-! ### Two as one -/
def cmb (r : Int) : Option Wide → Option Wide → Option Wide
  | none, y => y
  | some a, none => some a
  | some a, some b => some (addW r a b)
theorem cmb_none (r : Int) (a : Option Wide) : cmb r a none = a := by cases a <;> rfl
/-! ### Many as one -/
end Go.Proofs.YtjabmpfcpekpdaaGreat

/- Products at two words: by halves and by doubling, and the rings' products. -/
namespace Go.Proofs.YtjabmpfcpekpdaaGreat
open Go Go.Fw
set_option linter.unusedVariables false
set_option linter.unusedSimpArgs false
/-! ### Two words as a number -/
def ofZ (z : Int) : Wide := ⟨w64 (z / 18446744073709551616), z % 18446744073709551616⟩
theorem ofZ_okW (z : Int) : okW (ofZ z) := by unfold okW ofZ; simp only [w64_eq]; omega
theorem ofZ_add (x y : Int) : addW 5 (ofZ x) (ofZ y) = ofZ (x + y) := by
  have e : addW 5 (ofZ x) (ofZ y) = ⟨w64 ((ofZ x).Hi + (ofZ y).Hi + (if 18446744073709551616 ≤ (ofZ x).Lo + (ofZ y).Lo then 1 else 0)), ((ofZ x).Lo + (ofZ y).Lo) % 18446744073709551616⟩ := rfl
  rw [e]
  unfold ofZ
  apply wide_eta
  · simp only [w64_eq]; split <;> omega
  · simp only; omega
theorem ofI_ofZ {v : Int} (h : inI v) : ofI v = ofZ v := by
  unfold ofI ofZ inI at *
  apply wide_eta
  · simp only [w64_eq]; split <;> omega
  · rfl
theorem ofZ_nat {hi lo : Int} (h0 : 0 ≤ lo) (h1 : lo < 18446744073709551616) : (⟨w64 hi, lo⟩ : Wide) = ofZ (hi * 18446744073709551616 + lo) := by
  unfold ofZ
  apply wide_eta
  · simp only [w64_eq]; omega
  · simp only; omega
/-! ### Bits of one word -/
theorem shr_u {x : Int} (k : Nat) (hk : k ≤ 64) : shr .u64 x k = x / 2 ^ k := by
  unfold shr
  rw [Int.fdiv_eq_ediv_of_nonneg _ (Int.le_of_lt (Int.pow_pos (by omega)))]
  have : min (Int.toNat (k : Int)) (IntKind.bits .u64) = k := by simp [IntKind.bits]; omega
  rw [this]
theorem shl_u {x : Int} (k : Nat) (hk : k ≤ 64) : shl .u64 x k = (x * 2 ^ k) % 18446744073709551616 := by
  unfold shl
  rw [u64_eq]
  have : min (Int.toNat (k : Int)) (IntKind.bits .u64) = k := by simp [IntKind.bits]; omega
  rw [this]
theorem ofInt_nat (x : Int) (h0 : 0 ≤ x) (h1 : x < 18446744073709551616) : (BitVec.ofInt 64 x).toNat = x.toNat := by
  rw [BitVec.toNat_ofInt]
  congr 1
  exact Int.emod_eq_of_lt h0 (by simpa using h1)
theorem bor_nat {x y : Int} (hx0 : 0 ≤ x) (hx1 : x < 18446744073709551616) (hy0 : 0 ≤ y) (hy1 : y < 18446744073709551616) : bor .u64 x y = ((x.toNat ||| y.toNat : Nat) : Int) := by
  unfold bor
  have e : (BitVec.ofInt (IntKind.bits .u64) x ||| BitVec.ofInt (IntKind.bits .u64) y).toNat = x.toNat ||| y.toNat := by
    show (BitVec.ofInt 64 x ||| BitVec.ofInt 64 y).toNat = _
    rw [BitVec.toNat_or, ofInt_nat x hx0 hx1, ofInt_nat y hy0 hy1]
  rw [e, u64_eq]
  have : x.toNat ||| y.toNat < 2 ^ 64 := Nat.or_lt_two_pow (by omega) (by omega)
  omega
theorem bor_halves {h l : Int} (hh0 : 0 ≤ h) (hh1 : h < 4294967296) (hl0 : 0 ≤ l) (hl1 : l < 4294967296) : bor .u64 (h * 4294967296) l = h * 4294967296 + l := by
  rw [bor_nat (by omega) (by omega) hl0 (by omega)]
  have e : (h * 4294967296).toNat = h.toNat <<< 32 := by rw [Nat.shiftLeft_eq]; omega
  rw [e, ← Nat.shiftLeft_add_eq_or_of_lt (by omega), Nat.shiftLeft_eq]
  omega
/-! ### Products -/
theorem halves_ok {x : Int} {Q : Int × Int → Prop} (h0 : 0 ≤ x) (h1 : x < 18446744073709551616) (hQ : Q (x % 4294967296, x / 4294967296)) : wide_halves x Q := by
  unfold wide_halves
  have e1 : shl .u64 x 32 = (x * 4294967296) % 18446744073709551616 := shl_u 32 (by omega)
  have e2 : ∀ y, shr .u64 y 32 = y / 4294967296 := fun y => shr_u 32 (by omega)
  rw [e1, e2, e2]
  rwa [show x * 4294967296 % 18446744073709551616 / 4294967296 = x % 4294967296 by omega]
theorem product_ok {a b : Int} {Q : Wide → Prop} (ha0 : 0 ≤ a) (ha1 : a < 18446744073709551616) (hb0 : 0 ≤ b) (hb1 : b < 18446744073709551616) (hQ : Q (ofZ (a * b))) : wide_product a b Q := by
  unfold wide_product
  have hlt : ∀ x y : Int, 0 ≤ x → x < 4294967296 → 0 ≤ y → y < 4294967296 → 0 ≤ x * y ∧ x * y ≤ 18446744065119617025 := by
    intro x y h1 h2 h3 h4
    refine ⟨Int.mul_nonneg h1 h3, ?_⟩
    have := Int.mul_le_mul (show x ≤ 4294967295 by omega) (show y ≤ 4294967295 by omega) h3 (by omega)
    omega
  refine halves_ok ha0 ha1 (halves_ok hb0 hb1 ?_)
  simp only
  obtain ⟨x0, hx0⟩ : ∃ x0, x0 = a % 4294967296 := ⟨_, rfl⟩
  obtain ⟨x1, hx1⟩ : ∃ x1, x1 = a / 4294967296 := ⟨_, rfl⟩
  obtain ⟨y0, hy0⟩ : ∃ y0, y0 = b % 4294967296 := ⟨_, rfl⟩
  obtain ⟨y1, hy1⟩ : ∃ y1, y1 = b / 4294967296 := ⟨_, rfl⟩
  rw [← hx0, ← hx1, ← hy0, ← hy1]
  have hab : a * b = x1 * y1 * 18446744073709551616 + (x1 * y0 + x0 * y1) * 4294967296 + x0 * y0 := by
    have e1 : a = x1 * 4294967296 + x0 := by omega
    have e2 : b = y1 * 4294967296 + y0 := by omega
    rw [e1, e2, Int.add_mul, Int.mul_add, Int.mul_add]
    have q1 : x1 * 4294967296 * (y1 * 4294967296) = x1 * y1 * 18446744073709551616 := by rw [Int.mul_assoc, Int.mul_left_comm 4294967296 y1, ← Int.mul_assoc x1]; rfl
    have q2 : x1 * 4294967296 * y0 = x1 * y0 * 4294967296 := Int.mul_right_comm _ _ _
    have q3 : x0 * (y1 * 4294967296) = x0 * y1 * 4294967296 := (Int.mul_assoc _ _ _).symm
    rw [q1, q2, q3]; omega
  obtain ⟨b00, c00⟩ := hlt x0 y0 (by omega) (by omega) (by omega) (by omega)
  obtain ⟨b01, c01⟩ := hlt x0 y1 (by omega) (by omega) (by omega) (by omega)
  obtain ⟨b10, c10⟩ := hlt x1 y0 (by omega) (by omega) (by omega) (by omega)
  obtain ⟨b11, c11⟩ := hlt x1 y1 (by omega) (by omega) (by omega) (by omega)
  generalize x0 * y0 = p00 at *
  generalize x0 * y1 = p01 at *
  generalize x1 * y0 = p10 at *
  generalize x1 * y1 = p11 at *
  simp only [u64_eq]
  refine halves_ok (by omega) (by omega) ?_
  simp only
  refine halves_ok (by omega) (by omega) ?_
  simp only
  refine halves_ok (by omega) (by omega) (halves_ok (by omega) (by omega) ?_)
  simp only
  have e3 : ∀ y, shl .u64 y 32 = (y * 4294967296) % 18446744073709551616 := fun y => shl_u 32 (by omega)
  rw [e3]
  have e4 : ∀ y : Int, (y % 4294967296 * 4294967296) % 18446744073709551616 = y % 4294967296 * 4294967296 := fun y => by omega
  rw [e4, bor_halves (by omega) (by omega) (by omega) (by omega), ofZ_nat (by omega) (by omega)]
  rw [hab] at hQ
  have hfin : ofZ (((((p11 % 18446744073709551616 + (p10 % 18446744073709551616 + p00 % 18446744073709551616 / 4294967296) % 18446744073709551616 / 4294967296) % 18446744073709551616 + (p01 % 18446744073709551616 + (p10 % 18446744073709551616 + p00 % 18446744073709551616 / 4294967296) % 18446744073709551616 % 4294967296) % 18446744073709551616 / 4294967296) % 18446744073709551616) * 18446744073709551616 + ((p01 % 18446744073709551616 + (p10 % 18446744073709551616 + p00 % 18446744073709551616 / 4294967296) % 18446744073709551616 % 4294967296) % 18446744073709551616 % 4294967296 * 4294967296 + p00 % 18446744073709551616 % 4294967296))) = ofZ (p11 * 18446744073709551616 + (p10 + p01) * 4294967296 + p00) := by
    unfold ofZ
    apply wide_eta
    · simp only [w64_eq]; omega
    · simp only; omega
  rw [hfin]; exact hQ
theorem okW_toZ {a : Wide} (h : okW a) : a = ofZ (a.Hi * 18446744073709551616 + a.Lo) := by
  unfold okW at h
  rw [← ofZ_nat (by omega) (by omega)]
  apply wide_eta
  · simp only [w64_eq]; omega
  · rfl
theorem sub_ok {x : Int} {Q : Wide → Prop} (hQ : Q (ofZ (-x))) : wide_Sub ⟨0, 0⟩ (ofZ x) Q := by
  unfold wide_Sub wide_carry
  have key : ∀ c : Int, (c = if 0 < (ofZ x).Lo then 1 else 0) → (⟨w64 ((((0 % 18446744073709551616) - ((ofZ x).Hi % 18446744073709551616)) % 18446744073709551616 - c) % 18446744073709551616), (0 - (ofZ x).Lo) % 18446744073709551616⟩ : Wide) = ofZ (-x) := by
    intro c hc
    unfold ofZ at *
    subst hc
    apply wide_eta
    · simp only [w64_eq]; split <;> omega
    · simp only; omega
  simp only [u64_eq]
  refine ifP_dec (fun h => ?_) (fun h => ?_)
  · rw [key 1 (by rw [if_pos h])]; exact hQ
  · rw [key 0 (by rw [if_neg h])]; exact hQ
theorem wide_Mul_ok {a b : Int} {Q : Wide → Prop} (ha : inI a) (hb : inI b) (hQ : Q (ofZ (a * b))) : wide_Mul a b Q := by
  unfold wide_Mul
  unfold inI at ha hb
  have hs : ∀ {x : Int} {K : Int → Prop}, -9223372036854775808 ≤ x ∧ x ≤ 9223372036854775807 → K (if x < 0 then -x else x) → wide_size x K := by
    intro x K hx hK
    unfold wide_size
    simp only [u64_eq]
    refine ifP_dec (fun h => ?_) (fun h => ?_)
    · rw [if_pos h] at hK; rwa [show (0 - x % 18446744073709551616) % 18446744073709551616 = -x by omega]
    · rw [if_neg h] at hK; rwa [show x % 18446744073709551616 = x by omega]
  refine hs ha (hs hb ?_)
  have m1 : -a * b = -(a * b) := Int.neg_mul _ _
  have m2 : a * -b = -(a * b) := Int.mul_neg _ _
  have m3 : -a * -b = a * b := Int.neg_mul_neg _ _
  refine product_ok (by split <;> omega) (by split <;> omega) (by split <;> omega) (by split <;> omega) ?_
  by_cases h1 : a < 0 <;> by_cases h2 : b < 0
  · rw [if_pos h1, if_pos h2, m3]
    exact ifP_neg (by simp [h1, h2]) hQ
  · rw [if_pos h1, if_neg h2, m1]
    exact ifP_pos (by simp [h1, h2]) (sub_ok (by rwa [Int.neg_neg]))
  · rw [if_neg h1, if_pos h2, m2]
    exact ifP_pos (by simp [h1, h2]) (sub_ok (by rwa [Int.neg_neg]))
  · rw [if_neg h1, if_neg h2]
    exact ifP_neg (by simp [h1, h2]) hQ
def mulW (r a x : Int) : Wide :=
  if r = 2 then (if a ≠ 0 ∧ x ≠ 0 then ⟨0, 1⟩ else ⟨0, 0⟩)
  else if r = 5 then ofZ (a * x)
  else if r = 1 ∨ r = 3 ∨ r = 4 then
    (if 4611686018427387904 ≤ a ∨ 4611686018427387904 ≤ x then ofZ 4611686018427387904
     else if r = 3 then ofZ a else if r = 4 then ofZ x else if leW (ofZ 4611686018427387904) (ofZ (a + x)) then ofZ 4611686018427387904 else ofZ (a + x))
  else ⟨0, 0⟩
theorem mulW_okW (r a x : Int) : okW (mulW r a x) := by
  have h0 : okW ⟨0, 0⟩ := by unfold okW; simp
  have h1 : okW ⟨0, 1⟩ := by unfold okW; simp
  unfold mulW
  repeat' split
  all_goals first | exact ofZ_okW _ | exact h0 | exact h1
theorem leW_ofZ {x y : Int} (hx : -170141183460469231731687303715884105728 ≤ x ∧ x < 170141183460469231731687303715884105728) (hy : -170141183460469231731687303715884105728 ≤ y ∧ y < 170141183460469231731687303715884105728) : leW (ofZ x) (ofZ y) ↔ x ≤ y := by
  have h : ∀ z : Int, -170141183460469231731687303715884105728 ≤ z ∧ z < 170141183460469231731687303715884105728 → w64 (z / 18446744073709551616) = z / 18446744073709551616 := by
    intro z hz; rw [w64_eq]; omega
  unfold leW ofZ
  simp only [h x hx, h y hy]
  omega
theorem ring_Mul_ok {r a x : Int} {Q : Wide → Prop} (ha : inI a) (hx : inI x) (hQ : Q (mulW r a x)) : ring_Mul r a x Q := by
  unfold ring_Mul
  unfold mulW at hQ
  have ia : inI 4611686018427387904 := by unfold inI; omega
  refine ifP_eq (fun h => ?_) (fun h => ifP_eq (fun h5 => ?_) (fun h5 => ?_))
  · rw [if_pos h] at hQ
    refine ifP_ne (fun h1 => truth_ok ?_) (fun h1 => truth_ok ?_)
    · simpa [h1] using hQ
    · simpa [h1] using hQ
  · rw [if_neg h, if_pos h5] at hQ
    exact wide_Mul_ok ha hx hQ
  · rw [if_neg h, if_neg h5] at hQ
    have emax : (if x > a then x else a) ≥ 4611686018427387904 ↔ 4611686018427387904 ≤ a ∨ 4611686018427387904 ≤ x := by split <;> omega
    refine join_intro (fun _ => ¬ ((1 ≤ r ∧ r ≤ 5) ∧ (4611686018427387904 ≤ a ∨ 4611686018427387904 ≤ x))) ?_ ?_
    · rintro _ hno
      refine join_intro (fun p : Int × Int => (⟨p.1, p.2⟩ : Wide) = ofZ (if r = 1 then a else 0) ∧ (r = 1 ∨ r = 4)) ?_ ?_
      · rintro ⟨p1, p2⟩ ⟨hp, hr⟩
        simp only at hp ⊢
        refine wide_Of_ok ia (wide_Of_ok hx ?_)
        rw [hp, ofI_ofZ ia, ofI_ofZ hx]
        refine wide_Add_ok (ofZ_okW _) (ofZ_okW _) (lesser_ok ?_)
        rw [ofZ_add]
        rw [if_pos (by omega), if_neg (by omega), if_neg (by omega)] at hQ
        rcases hr with hr | hr
        · rw [if_pos hr]; rwa [if_neg (by omega)] at hQ
        · rw [if_neg (show ¬ r = 1 by omega), show (0 : Int) + x = x by omega]
          rw [if_pos hr] at hQ
          unfold inI at hx
          rwa [if_neg (by rw [leW_ofZ (by omega) (by omega)]; omega)]
      · intro k hk
        refine ifP_eq (fun h1 => wide_Of_ok ha (hk _ ⟨?_, .inl h1⟩)) (fun h1 => ifP_eq (fun h4 => hk _ ⟨?_, .inr h4⟩) (fun h4 => ifP_eq (fun h3 => wide_Of_ok ha ?_) (fun h3 => ?_)))
        · rw [if_pos h1]; exact ofI_ofZ ha
        · rw [if_neg h1]; decide
        · rw [if_pos (by omega), if_neg (by omega), if_pos h3] at hQ
          rw [ofI_ofZ ha]; exact hQ
        · rw [if_neg (by omega)] at hQ; exact hQ
    · intro k hk
      refine ring_Is_ok ⟨fun h1 => ifP_dec (fun h2 => wide_Of_ok ia ?_) (fun h2 => hk _ ?_), fun h1 => hk _ ?_⟩
      · have h1 := of_decide_eq_true h1
        rw [if_pos (by omega), if_pos (emax.1 h2)] at hQ
        rw [ofI_ofZ ia]; exact hQ
      · exact fun h' => h2 (emax.2 h'.2)
      · exact fun h' => of_decide_eq_false h1 h'.1
end Go.Proofs.YtjabmpfcpekpdaaGreat

/- Vectors by their items, and as words. -/
namespace Go.Proofs.YtjabmpfcpekpdaaGreat
open Go Go.Fw
set_option linter.unusedVariables false
set_option linter.unusedSimpArgs false
/-! ### Vectors that can be -/
def IncI (l : List Item) : Prop := l.Pairwise fun a b => a.At < b.At
instance (l : List Item) : Decidable (IncI l) := by unfold IncI; infer_instance
structure VecP (v : Vec) : Prop where
  n0 : 0 ≤ v.N
  n1 : v.N ≤ 4096
  inc : IncI v.Items
  ins : ∀ x ∈ v.Items, 0 ≤ x.At ∧ x.At < v.N
instance (v : Vec) : Decidable (VecP v) := decidable_of_iff (0 ≤ v.N ∧ v.N ≤ 4096 ∧ IncI v.Items ∧ ∀ x ∈ v.Items, 0 ≤ x.At ∧ x.At < v.N) ⟨fun ⟨a, b, c, d⟩ => ⟨a, b, c, d⟩, fun ⟨a, b, c, d⟩ => ⟨a, b, c, d⟩⟩
theorem IncI.at {l : List Item} (h : IncI l) {i j : Nat} (hj : j < l.length) (hij : i < j) : (l[i]'(by omega)).At < l[j].At := by
  unfold IncI at h; rw [List.pairwise_iff_getElem] at h; exact h i j (by omega) hj hij
theorem incI_len {l : List Item} (h : IncI l) {n : Int} (hn : 0 ≤ n) (hi : ∀ x ∈ l, 0 ≤ x.At ∧ x.At < n) : (l.length : Int) ≤ n := by
  have : ∀ k (hk : k < l.length), (k : Int) ≤ l[k].At := by
    intro k
    induction k with
    | zero => intro hk; exact (hi _ (List.getElem_mem hk)).1
    | succ k ih => intro hk; have := ih (by omega); have := h.at hk (i := k) (by omega); omega
  rcases Nat.eq_zero_or_pos l.length with e | e
  · rw [e]; exact hn
  · have h1 := this (l.length - 1) (by omega)
    have h2 := hi _ (List.getElem_mem (show l.length - 1 < l.length by omega))
    omega
theorem VecP.len {v : Vec} (h : VecP v) : v.Items.length ≤ 4096 := by have := incI_len h.inc h.n0 h.ins; have := h.n1; omega
/-! ### Values -/
def kvI (x : Item) : Int × Int := (x.At, x.Val)
def lkI (l : List Item) (i : Int) : Option Int := mget i (l.map kvI)
theorem lkI_cons (s : Item) (l : List Item) (i : Int) : lkI (s :: l) i = if i = s.At then some s.Val else lkI l i := rfl
theorem lkI_none : ∀ {l : List Item} {i : Int}, (∀ s ∈ l, s.At ≠ i) → lkI l i = none
  | [], _, _ => rfl
  | s :: l, i, h => by rw [lkI_cons, if_neg (fun e => h s (by simp) e.symm)]; exact lkI_none fun x hx => h x (by simp [hx])
theorem lkI_append : ∀ (l : List Item) (m : List Item) (i : Int), lkI (l ++ m) i = match lkI l i with | some v => some v | none => lkI m i
  | [], m, i => rfl
  | s :: l, m, i => by
    rw [List.cons_append, lkI_cons, lkI_cons]
    split
    · rfl
    · exact lkI_append l m i
/-! ### As words -/
theorem IncI.take {l : List Item} (h : IncI l) (k : Nat) : IncI (l.take k) := List.Pairwise.sublist (List.take_sublist k l) h
end Go.Proofs.YtjabmpfcpekpdaaGreat

/- A matrix times a vector, row by row, and sums as a vector. -/
namespace Go.Proofs.YtjabmpfcpekpdaaGreat
open Go Go.Fw
set_option linter.unusedVariables false
set_option linter.unusedSimpArgs false
def stepI (r : Int) (B : Int → Option Int) (acc : Option Wide) (y : Item) : Option Wide := match B y.At with | some x => cmb r acc (some (mulW r y.Val x)) | none => acc
theorem stepI_okW {r : Int} {B : Int → Option Int} {acc : Option Wide} (h : ∀ w, acc = some w → okW w) (y : Item) : ∀ w, stepI r B acc y = some w → okW w := by
  intro w hw
  unfold stepI at hw
  split at hw
  · cases acc with
    | none => cases hw; exact mulW_okW _ _ _
    | some b => cases hw; exact addW_okW (h b rfl) (mulW_okW _ _ _)
  · exact h w hw
theorem foldI_okW (r : Int) (B : Int → Option Int) : ∀ (l : List Item) (acc : Option Wide), (∀ w, acc = some w → okW w) → ∀ w, l.foldl (stepI r B) acc = some w → okW w
  | [], acc, h => h
  | y :: l, acc, h => foldI_okW r B l _ (stepI_okW h y)
def rowI (ts : List Triple) (i : Int) : List Item := (segS ts i.toNat).map itS
/-! ### Sums as a vector -/
def zS (r : Int) : Int := if r = 1 ∨ r = 3 ∨ r = 4 then 4611686018427387904 else 0
theorem ring_Zero_ok {r : Int} {Q : Int → Prop} (hQ : Q (zS r)) : ring_Zero r Q := by
  unfold ring_Zero; unfold zS at hQ
  refine ifP_eq (fun h => ?_) (fun h => ifP_eq (fun h3 => ?_) (fun h3 => ifP_eq (fun h4 => ?_) (fun h4 => ?_)))
  · rwa [if_pos (.inl h)] at hQ
  · rwa [if_pos (.inr (.inl h3))] at hQ
  · rwa [if_pos (.inr (.inr h4))] at hQ
  · rwa [if_neg (by omega)] at hQ
theorem ref02_Zero_ok {r : Int} {Q : Int → Prop} (hQ : Q (zS r)) : ref02_Zero r Q := by
  unfold ref02_Zero ref02_least; unfold zS at hQ
  have h1 : (r = 1 ∨ r = 3 ∨ r = 4) → ifP true (Q 4611686018427387904) (Q 0) := fun h => ifP_pos rfl (by rwa [if_pos h] at hQ)
  refine ifP_eq (fun h => h1 (.inl h)) (fun h => ifP_eq (fun h3 => h1 (.inr (.inl h3))) (fun h3 => ifP_eq (fun h4 => ?_) (fun h4 => ?_)))
  · rwa [if_pos (.inr (.inr h4))] at hQ
  · rwa [if_neg (by omega)] at hQ
end Go.Proofs.YtjabmpfcpekpdaaGreat

/- The statement PushParts in plain Lean. -/
namespace Go.Proofs.YtjabmpfcpekpdaaGreat
open Go Go.Fw
set_option linter.unusedVariables false
set_option linter.unusedSimpArgs false
/-! ### Sums in any order -/
theorem leW_total (a b : Wide) : leW a b ∨ leW b a := by unfold leW; omega
theorem leW_anti {a b : Wide} (h : leW a b) (h' : leW b a) : a = b := by unfold leW at *; exact wide_eta (by omega) (by omega)
theorem leW_trans {a b c : Wide} (h : leW a b) (h' : leW b c) : leW a c := by unfold leW at *; omega
def minW (a b : Wide) : Wide := if leW a b then a else b
theorem minW_comm (a b : Wide) : minW a b = minW b a := by
  unfold minW
  by_cases h : leW a b <;> by_cases h' : leW b a
  · rw [if_pos h, if_pos h']; exact leW_anti h h'
  · rw [if_pos h, if_neg h']
  · rw [if_neg h, if_pos h']
  · rcases leW_total a b with e | e
    · exact absurd e h
    · exact absurd e h'
theorem minW_assoc (a b c : Wide) : minW (minW a b) c = minW a (minW b c) := by
  unfold minW
  by_cases h1 : leW a b <;> by_cases h2 : leW b c <;> by_cases h3 : leW a c <;> simp only [h1, h2, h3, if_true, if_false]
  · exact absurd (leW_trans h1 h2) h3
  · exfalso; unfold leW at *; omega
theorem addW_comm {r : Int} {a b : Wide} (ha : okW a) (hb : okW b) : addW r a b = addW r b a := by
  by_cases h : r = 1 ∨ r = 3 ∨ r = 4
  · have e : ∀ a b, addW r a b = minW a b := fun a b => by unfold addW minW; rw [if_pos h]
    rw [e, e]; exact minW_comm a b
  · by_cases h2 : r = 2
    · unfold addW
      rw [if_neg h, if_pos h2, if_neg h, if_pos h2]
      by_cases e1 : a = ⟨0, 0⟩ <;> by_cases e2 : b = ⟨0, 0⟩ <;> simp [e1, e2]
    · by_cases h5 : r = 5
      · subst h5
        rw [okW_toZ ha, okW_toZ hb, ofZ_add, ofZ_add, Int.add_comm]
      · unfold addW; rw [if_neg h, if_neg h2, if_neg h5, if_neg h, if_neg h2, if_neg h5]
theorem addW_assoc {r : Int} {a b c : Wide} (ha : okW a) (hb : okW b) (hc : okW c) : addW r (addW r a b) c = addW r a (addW r b c) := by
  by_cases h : r = 1 ∨ r = 3 ∨ r = 4
  · have e : ∀ a b, addW r a b = minW a b := fun a b => by unfold addW minW; rw [if_pos h]
    simp only [e]; exact minW_assoc a b c
  · by_cases h2 : r = 2
    · have e : ∀ a b, addW r a b = if a = ⟨0, 0⟩ ∧ b = ⟨0, 0⟩ then ⟨0, 0⟩ else ⟨0, 1⟩ := fun a b => by unfold addW; rw [if_neg h, if_pos h2]
      have n1 : (⟨0, 1⟩ : Wide) ≠ ⟨0, 0⟩ := by decide
      simp only [e]
      by_cases e1 : a = ⟨0, 0⟩ <;> by_cases e2 : b = ⟨0, 0⟩ <;> by_cases e3 : c = ⟨0, 0⟩ <;> simp [e1, e2, e3]
    · by_cases h5 : r = 5
      · subst h5
        rw [okW_toZ ha, okW_toZ hb, okW_toZ hc, ofZ_add, ofZ_add, ofZ_add, ofZ_add, Int.add_assoc]
      · unfold addW
        simp only [if_neg h, if_neg h2, if_neg h5]
def okO (o : Option Wide) : Prop := ∀ w, o = some w → okW w
theorem cmb_comm {r : Int} {a b : Option Wide} (ha : okO a) (hb : okO b) : cmb r a b = cmb r b a := by
  cases a with
  | none => cases b <;> rfl
  | some x => cases b with
    | none => rfl
    | some y => simp only [cmb]; rw [addW_comm (ha x rfl) (hb y rfl)]
theorem cmb_assoc {r : Int} {a b c : Option Wide} (ha : okO a) (hb : okO b) (hc : okO c) : cmb r (cmb r a b) c = cmb r a (cmb r b c) := by
  cases a with
  | none => cases b <;> rfl
  | some x => cases b with
    | none => cases c <;> rfl
    | some y => cases c with
      | none => rfl
      | some z => simp only [cmb]; rw [addW_assoc (ha x rfl) (hb y rfl) (hc z rfl)]
/-! ### Parts -/
end Go.Proofs.YtjabmpfcpekpdaaGreat

/- A matrix times a matrix, at the places of a third: what each place comes to. -/
namespace Go.Proofs.YtjabmpfcpekpdaaGreat
open Go Go.Fw
set_option linter.unusedVariables false
set_option linter.unusedSimpArgs false
def bAt (B : List Triple) (c : Int) (k : Int) : Option Int := lkI (rowI B k) c
def cellW (r : Int) (A B : List Triple) (i c : Int) : Option Wide := (rowI A i).foldl (stepI r (bAt B c)) none
def cellO (r : Int) (A B : List Triple) (t : Triple) : Option Cell := (cellW r A B t.Row t.Col).map fun w => ⟨t.Row, t.Col, w⟩
def cellsS (r : Int) (A B M : List Triple) : List Cell := M.filterMap (cellO r A B)
/-! ### The parts of the program -/
theorem gemm_part_ok {rows cols : Int} {ts : List Triple} {i : Nat} {Q : List Int × List Int → Prop} (h : Canon rows cols ts) (hi : (i : Int) < rows) (hQ : Q ((segS ts i).map (·.Col), (segS ts i).map (·.Val))) : gemm_part (builtS rows cols ts) i Q := by
  unfold gemm_part
  have hr := h.r1
  obtain ⟨lo, hi', s⟩ := h.seg i
  have e1 : w64 ((i : Int) + 1) = (i + 1 : Nat) := by rw [w64_id (by omega) (by omega)]; omega
  rw [e1]
  refine start_idx (by omega) (start_idx (by omega) ?_)
  rw [s.lo, s.hi]
  have h1 := s.le; have h2 := s.len
  have hc : (builtS rows cols ts).Col.length = ts.length := by simp [builtS]
  have hv : (builtS rows cols ts).Val.length = ts.length := by simp [builtS]
  refine ⟨by omega, by omega, by omega, by omega, by omega, by omega, ?_⟩
  simp only [Int.toNat_natCast, builtS, ← List.map_take, ← List.map_drop, s.eq]
  exact hQ
theorem gemm_sure_ok {l : List Rows} {Q : List Rows → Prop} (hl : l.length ≤ 100) (h : ∀ a ∈ l, small a ∧ RightP a) (hQ : Q l) : gemm_sure l Q := by
  unfold gemm_sure
  refine range_intro (fun (s : List Rows) i => (s, i)) 0 l.length (by omega) (fun i s => s = l.take i) (by omega) rfl (fun i s next _ hi hm hn => ?_) (fun s next hm => ?_)
  · subst hm
    have hx := h _ (List.getElem_mem hi)
    refine ifP_dec (fun _ => idxP_nat hi (right_ok hx.1 ?_)) (fun h => by omega)
    rw [decide_eq_true hx.2]
    refine ifP_neg rfl (appP_intro (by simp; omega) (hn _ ?_))
    rw [List.take_succ_eq_append_getElem hi]
  · subst hm
    rw [List.take_length]
    exact ifP_dec (fun h => by omega) (fun _ => hQ)
theorem seg_inc {ts : List Triple} (h : Srt ts) (i : Nat) : IncI ((segS ts i).map itS) := by
  unfold IncI segS
  rw [List.pairwise_map]
  refine List.Pairwise.imp_of_mem ?_ (List.Pairwise.filter _ h)
  intro a b ha hb hab
  have h1 := of_decide_eq_true (List.mem_filter.1 ha).2
  have h2 := of_decide_eq_true (List.mem_filter.1 hb).2
  unfold ltK key at hab
  simp only [itS]
  simp only at hab
  omega
/-- Sums by columns as a map: of those that are asked. -/
def MapOk (m : List (Int × Wide)) (asked : Int → Bool) (f : Int → Option Wide) : Prop := (∀ c, asked c = true → mget c m = f c) ∧ ∀ c w, mget c m = some w → okW w
theorem lkP_of {l : List (Int × Bool)} {k : Int} {C : Bool → Prop} (h : C ((mget k l).getD false)) : lkP l k false C := lkP_intro h
theorem gemm_row_ok {r ra ca rb cb : Int} {A B : List Triple} {asked : List (Int × Bool)} {i : Nat} {Q : List (Int × Wide) → Prop} (hA : Canon ra ca A) (hB : Canon rb cb B) (hab : ca ≤ rb) (hi : (i : Int) < ra) (hr : 1 ≤ r ∧ r ≤ 5) (hvA : ∀ t ∈ A, inI t.Val) (hvB : ∀ t ∈ B, inI t.Val)
    (hQ : ∀ m, MapOk m (fun c => (mget c asked).getD false) (cellW r A B i) → Q m) : gemm_row_3a1 asked r (builtS ra ca A) (builtS rb cb B) i Q := by
  unfold gemm_row_3a1
  refine gemm_part_ok hA hi ?_
  have hsl := seg_len_le A i
  have hAl := hA.len
  have hBl := hB.len
  have hrow : ∀ t ∈ segS A i, (0 ≤ t.Col ∧ t.Col < ca) ∧ inI t.Val := fun t ht => by
    have hm := (List.mem_filter.1 ht).1
    have := hA.inn t hm
    unfold inT at this
    exact ⟨⟨this.2.2.1, this.2.2.2⟩, hvA t hm⟩
  unfold cellW at hQ
  rw [show rowI A (i : Int) = (segS A i).map itS from rfl] at hQ
  generalize segS A i = xs at hQ hsl hrow
  refine range_intro (fun (s : List (Int × Wide)) k => (s, k)) 0 xs.length (by omega) (fun k m => MapOk m (fun c => (mget c asked).getD false) fun c => ((xs.take k).map itS).foldl (stepI r (bAt B c)) none) (by omega) ⟨fun c _ => rfl, fun c w h => by simp [mget] at h⟩ (fun k m next _ hk hm hn => ?_) (fun m next hm => ?_)
  · dsimp only
    have hx := hrow _ (List.getElem_mem hk)
    refine ifP_dec (fun _ => idxP_intro (by omega) (x := xs[k].Col) (by simp [hk]) ?_) (fun h => by simp at h; omega)
    obtain ⟨c0, hc0⟩ : ∃ c0 : Nat, xs[k].Col = (c0 : Int) := ⟨xs[k].Col.toNat, by omega⟩
    rw [hc0]
    refine gemm_part_ok hB (by omega) ?_
    have hinc := seg_inc hB.srt c0
    have hsl2 := seg_len_le B c0
    have hrow2 : ∀ t ∈ segS B c0, inI t.Val := fun t ht => hvB t (List.mem_filter.1 ht).1
    have hbat : ∀ c, bAt B c xs[k].Col = lkI ((segS B c0).map itS) c := fun c => by unfold bAt rowI; rw [hc0]; rfl
    generalize segS B c0 = ys at hinc hsl2 hrow2 hbat
    -- how it is behind so many of the row's items
    let F : Nat → Int → Option Wide := fun j c => match lkI ((ys.take j).map itS) c with
      | some b => cmb r (((xs.take k).map itS).foldl (stepI r (bAt B c)) none) (some (mulW r xs[k].Val b))
      | none => ((xs.take k).map itS).foldl (stepI r (bAt B c)) none
    have hF0 : F 0 = fun c => ((xs.take k).map itS).foldl (stepI r (bAt B c)) none := rfl
    refine range_intro (fun (s : List (Int × Wide)) j => (s, j)) 0 ys.length (by omega) (fun j m => MapOk m (fun c => (mget c asked).getD false) (F j)) (by omega) (by rw [hF0]; exact hm) (fun j m' nx _ hj hm' hnx => ?_) (fun m' nx hm' => ?_)
    · dsimp only
      have htk : (ys.take (j + 1)).map itS = (ys.take j).map itS ++ [itS ys[j]] := take_map hj
      have hFs : ∀ c, F (j + 1) c = if c = ys[j].Col then F (j + 1) c else F j c := fun c => by
        by_cases e : c = ys[j].Col
        · rw [if_pos e]
        · rw [if_neg e]
          have : lkI ((ys.take (j + 1)).map itS) c = lkI ((ys.take j).map itS) c := by
            rw [htk, lkI_append]
            have h0 : lkI [itS ys[j]] c = none := lkI_none fun s hs => by simp only [List.mem_singleton] at hs; subst hs; exact fun h => e h.symm
            rw [h0]; split <;> simp_all
          show (match lkI ((ys.take (j + 1)).map itS) c with | some b => _ | none => _) = _
          rw [this]
      have hnew : lkI ((ys.take j).map itS) ys[j].Col = none := lkI_none fun s hs => by
        obtain ⟨t, ht, rfl⟩ := List.mem_map.1 hs
        obtain ⟨q, hq, rfl⟩ := List.getElem_of_mem ht
        rw [List.length_take] at hq
        rw [List.getElem_take]
        have hlen : (ys.map itS).length = ys.length := by simp
        have := hinc.at (i := q) (j := j) (by omega) (by omega)
        simp only [List.getElem_map] at this
        intro h
        simp only [itS] at this h
        omega
      have hold : F j ys[j].Col = ((xs.take k).map itS).foldl (stepI r (bAt B ys[j].Col)) none := by
        show (match lkI ((ys.take j).map itS) ys[j].Col with | some b => _ | none => _) = _
        rw [hnew]
      have hhit : F (j + 1) ys[j].Col = cmb r (F j ys[j].Col) (some (mulW r xs[k].Val ys[j].Val)) := by
        rw [hold]
        have : lkI ((ys.take (j + 1)).map itS) ys[j].Col = some ys[j].Val := by rw [htk, lkI_append, hnew]; simp [lkI_cons, itS]
        show (match lkI ((ys.take (j + 1)).map itS) ys[j].Col with | some b => _ | none => _) = _
        rw [this]
      have hy := hrow2 _ (List.getElem_mem hj)
      refine ifP_dec (fun _ => idxP_intro (by omega) (x := ys[j].Col) (by simp [hj]) (lkP_of ?_)) (fun h => by simp at h; omega)
      cases ha : (mget ys[j].Col asked).getD false with
      | false =>
        refine ifP_pos rfl (hnx _ ⟨fun c hc => ?_, hm'.2⟩)
        rw [hFs, if_neg (fun e => by subst e; simp only at hc; rw [ha] at hc; cases hc)]
        exact hm'.1 c hc
      | true =>
        have hcur := hm'.1 ys[j].Col ha
        refine ifP_neg rfl (idxP_intro (by omega) (x := xs[k].Val) (by simp [hk]) (idxP_intro (by omega) (x := ys[j].Val) (by simp [hj]) (ring_Mul_ok hx.2 hy (lk2P_intro (fun w hw => ?_) (fun hw => ?_)))))
        · refine ifP_pos rfl (ring_Add_ok (hm'.2 _ _ hw) (mulW_okW _ _ _) (hnx _ ⟨fun c hc => ?_, fun c u hu => ?_⟩))
          · by_cases e : c = ys[j].Col
            · subst e; rw [mget_mput_same, hhit, ← hcur, hw]; rfl
            · rw [mget_mput_other e, hFs, if_neg e]; exact hm'.1 c hc
          · by_cases e : c = ys[j].Col
            · subst e; rw [mget_mput_same] at hu; cases hu; exact addW_okW (hm'.2 _ _ hw) (mulW_okW _ _ _)
            · rw [mget_mput_other e] at hu; exact hm'.2 c u hu
        · refine ifP_neg rfl (hnx _ ⟨fun c hc => ?_, fun c u hu => ?_⟩)
          · by_cases e : c = ys[j].Col
            · subst e; rw [mget_mput_same, hhit, ← hcur, hw]; rfl
            · rw [mget_mput_other e, hFs, if_neg e]; exact hm'.1 c hc
          · by_cases e : c = ys[j].Col
            · subst e; rw [mget_mput_same] at hu; cases hu; exact mulW_okW _ _ _
            · rw [mget_mput_other e] at hu; exact hm'.2 c u hu
    · dsimp only
      refine ifP_dec (fun h => by simp at h) (fun _ => hn _ ⟨fun c hc => ?_, hm'.2⟩)
      rw [hm'.1 c hc, take_map hk]
      show F ys.length c = List.foldl (stepI r (bAt B c)) none ((xs.take k).map itS ++ [itS xs[k]])
      rw [List.foldl_append]
      show (match lkI ((ys.take ys.length).map itS) c with | some b => _ | none => _) = stepI r (bAt B c) _ (itS xs[k])
      rw [List.take_length, ← hbat c]
      unfold stepI
      simp only [itS]
      all_goals (split <;> simp_all)
  · dsimp only
    rw [List.take_length] at hm
    exact ifP_dec (fun h => by simp at h) (fun _ => hQ m hm)
end Go.Proofs.YtjabmpfcpekpdaaGreat

/- A matrix times a matrix: the program's cells, and the reference's. -/
namespace Go.Proofs.YtjabmpfcpekpdaaGreat
open Go Go.Fw
set_option linter.unusedVariables false
set_option linter.unusedSimpArgs false
def cellsR (r ra ca rb cb rm cm : Int) (A B M : List Triple) : List Cell × Int :=
  if ¬ (1 ≤ r ∧ r ≤ 5) then ([], 8) else if ca ≠ rb ∨ rm ≠ ra ∨ cm ≠ cb then ([], 4) else (cellsS r A B M, 0)
theorem cells_len (r : Int) (A B M : List Triple) : (cellsS r A B M).length ≤ M.length := List.length_filterMap_le _ _
theorem take_seg {T : List Triple} {i lo hi : Nat} (s : Seg T i lo hi) : T.take hi = T.take lo ++ segS T i := by
  have h := List.take_append_drop lo (T.take hi)
  rw [s.eq, List.take_take, Nat.min_eq_left s.le] at h
  exact h.symm
theorem gemm_Cells_ok {r ra ca rb cb rm cm : Int} {A B M : List Triple} {Q : List Cell × Int → Prop} (hA : Canon ra ca A) (hB : Canon rb cb B) (hM : Canon rm cm M) (hvA : ∀ t ∈ A, inI t.Val) (hvB : ∀ t ∈ B, inI t.Val)
    (hQ : Q (cellsR r ra ca rb cb rm cm A B M)) : gemm_Cells r (builtS ra ca A) (builtS rb cb B) (builtS rm cm M) Q := by
  unfold gemm_Cells
  refine gemm_sure_ok (by simp) (fun a ha => ?_) (idxP_intro (by omega) rfl (idxP_intro (by omega) rfl (idxP_intro (by omega) rfl (ring_Is_ok ?_))))
  · simp only [List.mem_cons, List.not_mem_nil, or_false] at ha
    rcases ha with rfl | rfl | rfl
    · exact ⟨hA.sml, hA.right⟩
    · exact ⟨hB.sml, hB.right⟩
    · exact ⟨hM.sml, hM.right⟩
  unfold cellsR at hQ
  refine ifP_not (fun h => ?_) (fun h => ?_)
  · rwa [if_pos (of_decide_eq_false h)] at hQ
  have hr := of_decide_eq_true h
  rw [if_neg (fun h => h hr)] at hQ
  have hbad (hb : ca ≠ rb ∨ rm ≠ ra ∨ cm ≠ cb) : Q ([], 4) := by rwa [if_pos hb] at hQ
  refine ifP_ne (fun h => hbad (.inl h)) (fun h1 => ifP_ne (fun h => hbad (.inr (.inl h))) (fun h2 => ifP_ne (fun h => hbad (.inr (.inr h))) (fun h3 => ?_)))
  have h1 : ca = rb := h1
  have h2 : rm = ra := h2
  have h3 : cm = cb := h3
  rw [if_neg (by omega)] at hQ
  have hrm := hM.r0; have hrm1 := hM.r1; have hMl := hM.len
  obtain ⟨n, hn⟩ : ∃ n : Nat, rm = (n : Int) := ⟨rm.toNat, by omega⟩
  have hR : (builtS rm cm M).Rows = (n : Int) := hn
  rw [hR]
  refine range_intro (fun (s : List Cell) i => (s, i)) 0 n (by omega) (fun i s => s = (M.take (below M i).toNat).filterMap (cellO r A B)) (by omega) (by rw [below_zero (fun t ht => (hM.inn t ht).1)]; rfl) (fun i s next _ hi hm hnx => ?_) (fun s next hm => ?_)
  · subst hm
    dsimp only
    obtain ⟨lo, hi', sg⟩ := hM.seg i
    have hlo := sg.lo; have hhi := sg.hi; have hle := sg.le; have hlen := sg.len
    have htk := take_seg sg
    rw [show (below M i).toNat = lo by omega]
    have hnx' := hnx ((M.take lo).filterMap (cellO r A B) ++ (segS M i).filterMap (cellO r A B)) (by rw [show (below M (i + 1)).toNat = hi' by omega, htk, List.filterMap_append])
    clear hnx
    have hrow : ∀ t ∈ segS M i, t.Row = (i : Int) := fun t ht => of_decide_eq_true (List.mem_filter.1 ht).2
    have hout : ((M.take lo).filterMap (cellO r A B)).length ≤ 65536 := by
      have := List.length_filterMap_le (cellO r A B) (M.take lo)
      rw [List.length_take] at this; omega
    have hsl := seg_len_le M i
    refine ifP_dec (fun _ => gemm_part_ok hM (by omega) ?_) (fun h => by omega)
    generalize (M.take lo).filterMap (cellO r A B) = out at hnx' hout ⊢
    generalize segS M i = xs at hnx' hrow hsl ⊢
    refine range_intro (fun (s : List (Int × Bool)) k => (s, k)) 0 xs.length (by omega) (fun k m => ∀ q (hq : q < xs.length), q < k → mget xs[q].Col m = some true) (by omega) (fun q hq h => by omega) (fun k m nx _ hk hm hnk => ?_) (fun m nx hm => ?_)
    · dsimp only
      refine ifP_dec (fun _ => idxP_intro (by omega) (x := xs[k].Col) (by simp [hk]) (hnk _ fun q hq hqk => ?_)) (fun h => by simp at h; omega)
      by_cases e : xs[q].Col = xs[k].Col
      · rw [e, mget_mput_same]
      · rw [mget_mput_other e]
        refine hm q hq ?_
        by_cases e2 : q = k
        · subst e2; exact absurd rfl e
        · omega
    · dsimp only
      refine ifP_dec (fun h => by simp at h) (fun _ => ?_)
      refine gemm_row_ok hA hB (by omega) (by omega) hr hvA hvB fun sums hsums => ?_
      refine range_intro (fun (s : List Cell) k => (s, k)) 0 xs.length (by omega) (fun k s => s = out ++ (xs.take k).filterMap (cellO r A B)) (by omega) (by simp) (fun k s ny _ hk hm2 hny => ?_) (fun s ny hm2 => ?_)
      · subst hm2
        dsimp only
        have hlk := List.length_filterMap_le (cellO r A B) (xs.take k)
        rw [List.length_take] at hlk
        have hask := hm k hk hk
        have hcur := hsums.1 xs[k].Col (by simp only [hask]; rfl)
        have hcell : cellO r A B xs[k] = (cellW r A B i xs[k].Col).map fun w => ⟨(i : Int), xs[k].Col, w⟩ := by
          unfold cellO; rw [hrow _ (List.getElem_mem hk)]
        have hstep : (xs.take (k + 1)).filterMap (cellO r A B) = (xs.take k).filterMap (cellO r A B) ++ (cellO r A B xs[k]).toList := by
          rw [List.take_succ_eq_append_getElem hk, List.filterMap_append]
          congr 1
        refine ifP_dec (fun _ => idxP_intro (by omega) (x := xs[k].Col) (by simp [hk]) (lk2P_intro (fun w hw => ?_) (fun hw => ?_))) (fun h => by simp at h; omega)
        · refine ifP_pos rfl (appP_intro (by simp; omega) (hny _ ?_))
          rw [hstep, hcell, ← hcur, hw, List.append_assoc]; rfl
        · refine ifP_neg rfl (hny _ ?_)
          rw [hstep, hcell, ← hcur, hw]; simp
      · subst hm2
        dsimp only
        rw [List.take_length]
        exact ifP_dec (fun h => by simp at h) (fun _ => hnx')
  · subst hm
    dsimp only
    refine ifP_dec (fun h => by omega) (fun _ => ?_)
    have := below_all hM
    rw [show rm.toNat = n by omega] at this
    rw [this, Int.toNat_natCast, List.take_length]
    exact hQ
theorem sameCells_ok {xs ys : List Cell} {Q : Bool → Prop} (hl : xs.length ≤ 1000000000000) (he : xs = ys) (hQ : Q true) : ref15_SameCells xs ys Q := by
  subst he
  unfold ref15_SameCells
  refine ifP_ne (fun h => absurd rfl h) (fun _ => ?_)
  refine scan_intro xs.length hl (fun _ => True) trivial (fun i next hi _ hn => ?_) (fun next _ => ?_)
  · exact ifP_dec (fun _ => idxP_nat hi (idxP_nat hi (ifP_neg (by simp) (hn trivial)))) (fun h => by omega)
  · exact ifP_dec (fun h => by omega) (fun _ => hQ)
end Go.Proofs.YtjabmpfcpekpdaaGreat

