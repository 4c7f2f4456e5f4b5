import Derived.Test.YtggmiaebkplnlaaGreatPlnF
/- Plans and what is got, as the statements make them; ProgSteps, ProgFalls. -/
namespace Go.Proofs.YtggmiaebkplnlaaGreat
open Go Go.Fw
set_option linter.unusedVariables false
set_option linter.unusedSimpArgs false
theorem inR_u8 {x : Int} (h0 : 0 ≤ x) (h1 : x ≤ 63) : inR .u8 x := by
  have : ∀ n : Fin 64, inR .u8 (n.val : Int) := by unfold inR; decide
  have := this ⟨x.toNat, by omega⟩
  simpa only [Int.toNat_of_nonneg h0] using this
theorem bnd_le (x : Int) {m : Nat} (hm : m < 9223372036854775808) : 0 ≤ bnd .i64 x m ∧ bnd .i64 x m ≤ m := by
  have h : (BitVec.ofInt 64 x &&& BitVec.ofInt 64 (m : Int)).toNat ≤ m := by
    rw [BitVec.toNat_and, BitVec.toNat_ofInt (n := 64) (i := (m : Int))]
    have hp : ((2 ^ 64 : Nat) : Int) = 18446744073709551616 := by decide
    rw [hp, show ((m : Int) % 18446744073709551616).toNat = m by omega]
    exact Nat.and_le_right
  unfold bnd
  rw [show IntKind.i64.bits = 64 from rfl]
  generalize (BitVec.ofInt 64 x &&& BitVec.ofInt 64 (m : Int)).toNat = k at h
  have e : IntKind.i64.wrap (k : Int) = k := w64_id (by omega) (by omega)
  rw [e]; omega
theorem Within_ok {k n : Int} {Q : Int → Prop} (h0 : n < 1 → Q 0) (h1 : 1 ≤ n → ∀ r, 0 ≤ r → r < n → Q r) : law21_Within k n Q := by
  unfold law21_Within
  refine ifP_dec (fun h => h0 h) (fun h => ifP_dec (fun h2 => h1 (by omega) 0 (by omega) (by omega)) (fun h2 => ⟨by omega, ?_⟩))
  rw [Int.tmod_eq_emod_of_nonneg (by omega)]
  exact h1 (by omega) _ (Int.emod_nonneg _ (by omega)) (Int.emod_lt_of_pos _ (by omega))
theorem plan_ok {p : Plan} {n : Int} {Q : Plan → Prop} (hn : 0 ≤ n ∧ n ≤ 59) (hQ : ∀ r : Plan, rightPl r = 0 → r.N = n → Q r) : law21_Plan p n Q := by
  unfold law21_Plan
  have hk : ∀ (k src len : Int) (ds : List Int), (1 ≤ k ∧ k ≤ 5) → ((n < 1 → src = 0) ∧ 0 ≤ src ∧ (1 ≤ n → src < n)) → (0 ≤ len ∧ len < 12) → (ds.length ≤ 40 ∧ ∀ d ∈ ds, 0 ≤ d ∧ d ≤ 2147483647) →
      ifP (n == 0) (ifP (k != 5) (Q ({ Kind := 3, N := n, Source := src, Length := len, Draws := ds } : Plan)) (Q ({ Kind := k, N := n, Source := src, Length := len, Draws := ds } : Plan))) (Q ({ Kind := k, N := n, Source := src, Length := len, Draws := ds } : Plan)) := by
    intro k src len ds hk hs hl hd
    have hr : ∀ k', (1 ≤ k' ∧ k' ≤ 5) → (n = 0 → k' = 3 ∨ k' = 5) → rightPl ⟨k', n, src, len, ds⟩ = 0 := by
      intro k' h1 h2
      unfold rightPl
      simp only
      rw [if_neg (by omega), if_neg (by omega), if_neg (by omega), if_neg]
      rintro ⟨d, hdm, hb⟩
      have := hd.2 d hdm
      omega
    refine ifP_eq (fun h => ifP_ne (fun h5 => hQ _ (hr 3 (by omega) (fun _ => .inl rfl)) rfl) (fun h5 => hQ _ (hr k hk (fun _ => .inr h5)) rfl)) (fun h => hQ _ (hr k hk (fun h' => absurd h' h)) rfl)
  refine join_intro (fun k => 1 ≤ k ∧ k ≤ 5) (fun k hk1 => ?_) (fun k' hk1 => ifP_dec (fun h => hk1 _ (by omega)) (fun h => ifP_dec (fun h => hk1 _ (by omega)) (fun h => hk1 _ (by omega))))
  have hrest : ∀ src, ((n < 1 → src = 0) ∧ 0 ≤ src ∧ (1 ≤ n → src < n)) → law21_Within p.Length 12 fun r37 => joinP (fun (k207 : (List Int) → Prop) => loopP (fun (s : (List Int) × Int) (next266 : ((List Int) × Int) → Prop) => match s with | (s260, s264) => ifP (decide (s264 < (p.Draws.length : Int))) (ifP (decide (s264 < 40)) (idxP p.Draws s264 fun x275 => appP 8 s260 ([bnd .i64 x275 2147483647]) fun _ => next266 ((s260 ++ ([bnd .i64 x275 2147483647])), w64 (s264 + 1))) (k207 s260)) (k207 s260)) (([] : List Int), 0)) fun s203 => ifP (n == 0) (ifP (k != 5) (Q ({ Kind := 3, N := n, Source := src, Length := r37, Draws := s203 } : Plan)) (Q ({ Kind := k, N := n, Source := src, Length := r37, Draws := s203 } : Plan))) (Q ({ Kind := k, N := n, Source := src, Length := r37, Draws := s203 } : Plan)) := by
    intro src hs
    refine Within_ok (fun h => by omega) (fun _ len h0 h1 => ?_)
    refine join_intro (fun ds : List Int => ds.length ≤ 40 ∧ ∀ d ∈ ds, 0 ≤ d ∧ d ≤ 2147483647) (fun ds hd => hk _ _ _ _ hk1 hs ⟨h0, h1⟩ hd) (fun k' hk' => ?_)
    refine range_intro (fun (s : List Int) i => (s, i)) 0 (min p.Draws.length 40) (by omega) (fun i s => s.length ≤ i ∧ ∀ d ∈ s, 0 ≤ d ∧ d ≤ 2147483647) (by omega) (by simp) (fun i s next _ hi hm hn => ?_) (fun s next hm => ?_)
    · refine ifP_dec (fun _ => ifP_dec (fun _ => idxP_nat (by omega) (appP_intro (by simp; omega) (hn _ ⟨by simp; omega, fun d hd => ?_⟩))) (fun h => by omega)) (fun h => by omega)
      rcases List.mem_append.1 hd with h | h
      · exact hm.2 d h
      · simp only [List.mem_singleton] at h
        subst h
        exact bnd_le _ (m := 2147483647) (by omega)
    · exact ifP_dec (fun _ => ifP_dec (fun _ => by omega) (fun _ => hk' _ ⟨by omega, hm.2⟩)) (fun h => hk' _ ⟨by omega, hm.2⟩)
  exact Within_ok (fun h => hrest 0 ⟨fun _ => rfl, by omega, fun h' => by omega⟩) (fun h r h0 h1 => hrest r ⟨fun h' => by omega, h0, fun _ => h1⟩)
theorem got_ok {p : Plan} {l : List Item} {Q : Vec → Prop} (hn : 0 ≤ p.N ∧ p.N ≤ 59) (hv : ∀ x ∈ l, okItem x) (hQ : ∀ y : Vec, VecP y → y.N = p.N → (∀ x ∈ y.Items, inI x.Val) → Q y) : law21_got p l Q := by
  unfold law21_got
  have e : IntKind.wrap .u8 p.N = p.N := by
    simp only [IntKind.wrap, IntKind.bits, IntKind.signed]
    simp
    omega
  rw [e]
  refine vsome_ok (inR_u8 (by omega) (by omega)) hv fun v h1 h2 h3 => ?_
  have hl := h2.len
  refine map_loop (xs := v.Items) (f := fun x : Item => (⟨x.At, bnd .i64 x.Val 255⟩ : Item)) (by omega) (fun i s next hi hs hn => ?_) (fun next s hs => ?_)
  · exact ifP_dec (fun _ => idxP_nat hi (idxP_nat hi (appP_intro (by simp; omega) hn))) (fun h => by omega)
  · refine ifP_dec (fun h => by omega) (fun _ => ?_)
    subst hs
    refine hQ _ ⟨h2.n0, h2.n1, ?_, fun x hx => ?_⟩ (by simp only; omega) (fun x hx => ?_)
    · show IncI (v.Items.map _)
      unfold IncI
      rw [List.pairwise_map]
      exact h2.inc
    · obtain ⟨z, hz, rfl⟩ := List.mem_map.1 hx
      exact h2.ins z hz
    · obtain ⟨z, hz, rfl⟩ := List.mem_map.1 hx
      have := bnd_le z.Val (m := 255) (by omega)
      rw [show ((255 : Nat) : Int) = 255 from rfl] at this
      unfold inI
      simp only
      omega
/-! ### What never comes back -/
theorem beh_falls (p : Plan) (s : State) (round : Int) (i : Nat) (o : Option Int) :
    (p.Kind = 1 → at0 s.A i ≠ -1 → (behS p s round i o).1 = at0 s.A i) ∧ (p.Kind = 2 ∨ p.Kind = 3 → (behS p s round i o).1 ≤ at0 s.A i) ∧
    (p.Kind = 5 → (at0 s.A i ≠ 0 → (behS p s round i o).1 = at0 s.A i) ∧ (0 ≤ at0 s.A i ∧ at0 s.A i ≤ 2 → 0 ≤ (behS p s round i o).1 ∧ (behS p s round i o).1 ≤ 2)) := by
  unfold behS
  simp only
  refine ⟨fun h1 h2 => ?_, fun h1 => ?_, fun h1 => ⟨fun h2 => ?_, fun h2 => ?_⟩⟩
  · rw [if_pos h1, if_neg (fun h => h2 h.2)]
  · rw [if_neg (by omega), if_pos h1]
    split <;> simp only <;> omega
  · rw [if_neg (by omega), if_neg (by omega), if_neg (by omega), if_pos h2]
  · rw [if_neg (by omega), if_neg (by omega), if_neg (by omega)]
    repeat' split
    all_goals (simp only; omega)
theorem ProgFalls_ok (a0 : Plan) (a1 : Int) (a2 : List (List Item)) (h1 : inR .u8 a1) (h2 : (∀ x ∈ a2, (∀ y ∈ x, okItem y) ∧ x.length ≤ maxLen) ∧ a2.length ≤ maxLen) : law21_ProgFalls a0 a1 a2 (fun r => r = true) := by
  unfold law21_ProgFalls
  have hb := bounds_u8 h1
  have e : (w64 a1).tmod 60 = a1 % 60 := by rw [w64_id (by omega) (by omega), Int.tmod_eq_emod_of_nonneg (by omega)]
  rw [e]
  refine plan_ok (by omega) fun p hp hN => ?_
  have hst := begin_St (p := p) (low := 0) (high := p.N) hp (by omega) (by omega) (by omega)
  have hfirst : p.Kind = 5 → ∀ v : Nat, (v : Int) < p.N → 0 ≤ at0 (beginS p 0 p.N).A v ∧ at0 (beginS p 0 p.N).A v ≤ 2 := by
    intro h5 v hv
    unfold beginS
    rw [if_pos ⟨hp, by omega, by omega, by omega⟩]
    unfold chS
    simp only
    rw [mapN_at (by omega)]
    unfold firstS
    rw [if_neg (by omega), if_pos h5]
    simp
  have hsz : (beginS p 0 p.N).Low = 0 ∧ (beginS p 0 p.N).High = p.N := by
    unfold beginS
    rw [if_pos ⟨hp, by omega, by omega, by omega⟩]
    exact ⟨rfl, rfl⟩
  refine prog_Begin_ok ?_
  refine range_intro (fun (s : State) i => (s.Low, s.High, s.A, s.B, s.On, i)) 0 (min a2.length 6) (by omega) (fun i s => StP p s ∧ okSt s ∧ (s.Low = 0 ∧ s.High = p.N) ∧ (p.Kind = 5 → ∀ v : Nat, (v : Int) < p.N → 0 ≤ at0 s.A v ∧ at0 s.A v ≤ 2)) (by omega) ⟨hst.1, hst.2, hsz, hfirst⟩ (fun i s next _ hi hm hn => ?_) (fun s next hm => ?_)
  · refine ifP_dec (fun _ => ifP_dec (fun _ => idxP_nat (by omega) ?_) (fun h => by omega)) (fun h => by omega)
    have hx := (h2.1 _ (List.getElem_mem (show i < a2.length by omega))).1
    refine got_ok (by omega) hx fun y hy hyn hyv => ?_
    have hyl := hy.len
    have er : w64 ((i : Int) + 1) = (i : Int) + 1 := w64_id (by omega) (by omega)
    rw [er] at hn ⊢
    have hu := upd_St (round := (i : Int) + 1) (y := y) hm.1 hm.2.1
    refine prog_Update_ok (s := s) hm.2.1 (by omega) (by omega) ?_
    have hA : ∀ v : Nat, (v : Int) < p.N → at0 (updS p s ((i : Int) + 1) y).A v = (behS p s ((i : Int) + 1) v (lkI y.Items v)).1 := by
      intro v hv
      unfold updS
      rw [show sureSt p s = s from if_pos hm.1, if_pos ⟨hy, by omega⟩]
      unfold chS
      simp only
      rw [mapN_at (by unfold sizN; omega)]
      rfl
    have hsl : (s.A.length : Int) = p.N := by have := hm.1.2.2.2.2.1; unfold sizN at this; omega
    have htl : ((updS p s ((i : Int) + 1) y).A.length : Int) = p.N := by have := hu.1.2.2.2.2.1; unfold sizN at this; omega
    have hnext := hn (updS p s ((i : Int) + 1) y) ⟨hu.1, hu.2.1, by omega, fun h5 v hv => by rw [hA v hv]; exact ((beh_falls p s _ v _).2.2 h5).2 (hm.2.2.2 h5 v hv)⟩
    clear hn
    refine ifP_ne (fun h => absurd htl h) (fun _ => ifP_ne (fun h => absurd hsl h) (fun _ => ?_))
    generalize updS p s ((i : Int) + 1) y = t at hA htl hnext ⊢
    have hlim : p.N.toNat ≤ 1000000000000 := by omega
    refine scan_intro p.N.toNat hlim (fun _ => True) trivial (fun v nx hv _ hnx => ?_) (fun nx _ => ?_)
    · have hvN : (v : Int) < p.N := by omega
      have hf := beh_falls p s ((i : Int) + 1) v (lkI y.Items v)
      rw [← hA v hvN] at hf
      have ht : ∀ {K : Int → Prop}, K (at0 t.A v) → idxP t.A v K := fun hK => idxP_at0 (by omega) (by omega) hK
      have hs : ∀ {K : Int → Prop}, K (at0 s.A v) → idxP s.A v K := fun hK => idxP_at0 (by omega) (by omega) hK
      refine ifP_dec (fun _ => ?_) (fun h => by omega)
      refine ifP_eq (fun hk => hs (ifP_ne (fun ha => ht (hs (ifP_ne (fun h => absurd (hf.1 hk ha) h) (fun _ => hnx trivial)))) (fun _ => hnx trivial))) (fun hk1 => ?_)
      unfold joinP
      have h23 (hk : p.Kind = 2 ∨ p.Kind = 3) : idxP t.A v fun x1536 => idxP s.A v fun x1545 => ifP (decide (x1545 < x1536)) (false = true) (nx (w64 ((v : Int) + 1))) :=
        ht (hs (ifP_dec (fun h => by have := hf.2.1 hk; omega) (fun _ => hnx trivial)))
      by_cases hk : p.Kind = 2 ∨ p.Kind = 3
      · refine ifP_eq (fun h2 => ?_) (fun h2 => ?_)
        · have hb2 : (p.Kind == 2) = true := by simpa using h2
          rw [hb2]; exact ifP_pos rfl (h23 hk)
        · have hb3 : (p.Kind == 3) = true := by simp; omega
          rw [hb3]; exact ifP_pos rfl (h23 hk)
      refine ifP_eq (fun h2 => absurd (.inl h2) hk) (fun h2 => ?_)
      have hb3 : (p.Kind == 3) = false := by simp; omega
      rw [hb3]
      refine ifP_neg rfl (ifP_eq (fun h5 => ?_) (fun _ => hnx trivial))
      have hin := (hf.2.2 h5).2 (hm.2.2.2 h5 v hvN)
      have hrest : idxP t.A v fun x1605 => ifP (decide (x1605 < 0)) (false = true) (idxP t.A v fun x1615 => ifP (decide (2 < x1615)) (false = true) (nx (w64 ((v : Int) + 1)))) :=
        ht (ifP_dec (fun h => by omega) (fun _ => ht (ifP_dec (fun h => by omega) (fun _ => hnx trivial))))
      exact hs (ifP_ne (fun ha => ht (hs (ifP_ne (fun h => absurd ((hf.2.2 h5).1 ha) h) (fun _ => hrest)))) (fun _ => hrest))
    · exact ifP_dec (fun h => by omega) (fun _ => hnext)
  · have hl : law21_live fun r => r = true := live21_ok rfl
    exact ifP_dec (fun _ => ifP_dec (fun _ => by omega) (fun _ => hl)) (fun _ => hl)
end Go.Proofs.YtggmiaebkplnlaaGreat

