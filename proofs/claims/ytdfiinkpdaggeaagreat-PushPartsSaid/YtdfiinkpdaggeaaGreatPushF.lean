/- What statements make of what they are handed: matrices and vectors that can be, of values of a ring. -/
import Derived.Test.YtdfiinkpdaggeaaGreatPushE
namespace Go.Proofs.YtdfiinkpdaggeaaGreat
open Go Go.Fw
set_option linter.unusedVariables false
set_option linter.unusedSimpArgs false
def sizeS (x : Int) : Int := x % 40
theorem size_is {x : Int} {Q : Int → Prop} (h : inR .u8 x) (hQ : Q (sizeS x)) : law07_Size x Q := by
  unfold law07_Size
  have hb := bounds_u8 h
  rw [w64_id (by omega) (by omega), Int.tmod_eq_emod_of_nonneg (by omega)]
  exact hQ
theorem sizeS_b (x : Int) : 0 ≤ sizeS x ∧ sizeS x ≤ 39 := by unfold sizeS; omega
theorem some_is {a0 : Int × Int} {ts : List Triple} {Q : Rows → Prop} (h0 : inR .u8 a0.1 ∧ inR .u8 a0.2) (hv : ∀ t ∈ ts, okTriple t)
    (hQ : ∀ T, Canon (sizeS a0.1) (sizeS a0.2) T → (∀ t ∈ T, inI t.Val) → Q (builtS (sizeS a0.1) (sizeS a0.2) T)) : law07_Some a0 ts Q := by
  unfold law07_Some
  have r0 := sizeS_b a0.1; have c0 := sizeS_b a0.2
  refine size_is h0.1 (size_is h0.2 (few_ok fun ys hl hm => ?_))
  refine range_intro (fun (s : List Triple) i => (s, i)) 0 ys.length (by omega) (fun i s => s.length ≤ i ∧ ∀ t ∈ s, inI t.Val) (by omega) (s0 := []) ⟨by simp, by simp⟩ (fun i s next _ hi hm2 hn => ?_) (fun s next hm2 => ?_)
  · obtain ⟨hs1, hs2⟩ := hm2
    dsimp only
    refine ifP_dec (fun _ => ?_) (fun h => by omega)
    have hskip : next (s, w64 ((i : Int) + 1)) := hn s ⟨by omega, hs2⟩
    refine idxP_nat hi (ifP_dec (fun _ => hskip) (fun _ => ifP_dec (fun _ => hskip) (fun _ => ifP_eq (fun _ => hskip) (fun g1 => ifP_eq (fun _ => hskip) (fun g2 => ⟨g1, g2, ?_⟩)))))
    have hx : inI ys[i].Val := inR_i64 (hv _ (hm _ (List.getElem_mem hi))).2.2
    refine appP_intro (by simp only [List.length_singleton]; omega) (hn _ ⟨by simp; omega, fun t ht => ?_⟩)
    rcases List.mem_append.1 ht with ht | ht
    · exact hs2 t ht
    · simp at ht; subst ht; exact hx
  · obtain ⟨hs1, hs2⟩ := hm2
    dsimp only
    refine ifP_dec (fun h => by omega) (fun _ => ?_)
    refine ref_Of_ok (by omega) hs2 ?_
    rcases of_cases (r := 1) (rows := sizeS a0.1) (cols := sizeS a0.2) hs2 with ⟨h1, h2⟩ | ⟨T, hT, he, _, _, _, _, hTe, _⟩
    · refine ifP_pos (by simpa using h2) ?_
      unfold ref07_Empty
      have e : w64 (sizeS a0.1 + 1) = sizeS a0.1 + 1 := w64_id (by omega) (by omega)
      rw [e]
      refine ⟨by omega, by omega, ?_⟩
      have := hQ [] ⟨r0.1, by omega, c0.1, by omega, by simp, .nil, by simp⟩ (by simp)
      unfold builtS at this
      have e2 : (sizeS a0.1 + 1).toNat = (sizeS a0.1).toNat + 1 := by omega
      rw [e2, rep_range]
      exact this
    · rw [he]
      refine ifP_neg (by simp) (hQ T hT fun t ht => ?_)
      rw [hTe] at ht
      unfold finS at ht
      split at ht
      · obtain ⟨p, _, rfl⟩ := List.mem_map.1 ht
        exact nar_inI p.2
      · simp at ht
/-! ### Values of a ring -/
def valR (r x : Int) : Int := if r = 5 then x else if r = 2 then bnd .i64 x 1 else if (bnd .i64 x 4611686018427387903).tmod 5 = 0 then 4611686018427387904 else bnd .i64 x 4611686018427387903
def facR (r x : Int) : Int := if r = 5 then x.tmod 2147483648 else valR r x
theorem bnd_inI (x y : Int) : inI (bnd .i64 x y) := by
  unfold bnd inI
  show -9223372036854775808 ≤ w64 _ ∧ w64 _ ≤ 9223372036854775807
  rw [w64_eq]; omega
theorem valR_inI {r x : Int} (h : inI x) : inI (valR r x) := by
  unfold valR
  repeat' split
  · exact h
  · exact bnd_inI _ _
  · unfold inI; omega
  · exact bnd_inI _ _
theorem facR_inI {r x : Int} (h : inI x) : inI (facR r x) := by
  unfold facR
  split
  · unfold inI at *
    rcases Int.lt_or_le x 0 with h' | h'
    · have := Int.neg_tmod (a := -x) (b := 2147483648)
      rw [Int.neg_neg] at this
      rw [this, Int.tmod_eq_emod_of_nonneg (by omega)]; omega
    · rw [Int.tmod_eq_emod_of_nonneg h']; omega
  · exact valR_inI h
theorem value_ok {r x : Int} {Q : Int → Prop} (hQ : Q (valR r x)) : law02_Value r x Q := by
  unfold law02_Value; unfold valR at hQ
  refine ifP_eq (fun h => ?_) (fun h => ifP_eq (fun h2 => ?_) (fun h2 => ifP_eq (fun h3 => ?_) (fun h3 => ?_)))
  · rwa [if_pos h] at hQ
  · rwa [if_neg h, if_pos h2] at hQ
  · rwa [if_neg h, if_neg h2, if_pos h3] at hQ
  · rwa [if_neg h, if_neg h2, if_neg h3] at hQ
theorem factor_ok {r x : Int} {Q : Int → Prop} (hQ : Q (facR r x)) : law02_Factor r x Q := by
  unfold law02_Factor; unfold facR at hQ
  refine ifP_eq (fun h => ?_) (fun h => value_ok ?_)
  · rwa [if_pos h] at hQ
  · rwa [if_neg h] at hQ
def ringS (r : Int) : Int := if r < 1 ∨ 5 < r then 1 else r
theorem ringS_b (r : Int) : 1 ≤ ringS r ∧ ringS r ≤ 5 := by unfold ringS; split <;> omega
theorem right_is {r : Int} {Q : Int → Prop} (hQ : Q (ringS r)) : law13_Right r Q := by
  unfold law13_Right; unfold ringS at hQ
  refine ifP_dec (fun h => ?_) (fun h => ifP_dec (fun h2 => ?_) (fun h2 => ?_))
  · rwa [if_pos (.inl h)] at hQ
  · rwa [if_pos (.inr h2)] at hQ
  · rwa [if_neg (by omega)] at hQ
def vmap (g : Int → Int) (t : Triple) : Triple := ⟨t.Row, t.Col, g t.Val⟩
theorem vmap_canon {rows cols : Int} {T : List Triple} (h : Canon rows cols T) (g : Int → Int) : Canon rows cols (T.map (vmap g)) where
  r0 := h.r0
  r1 := h.r1
  c0 := h.c0
  c1 := h.c1
  len := by rw [List.length_map]; exact h.len
  srt := by unfold Srt; rw [List.pairwise_map]; exact h.srt
  inn := by
    intro t ht
    obtain ⟨x, hx, rfl⟩ := List.mem_map.1 ht
    exact h.inn x hx
theorem vmap_built (rows cols : Int) (T : List Triple) (g : Int → Int) : builtS rows cols (T.map (vmap g)) = { builtS rows cols T with Val := T.map fun t => g t.Val } := by
  unfold builtS
  have e : below (T.map (vmap g)) = below T := by
    funext j
    unfold below
    rw [List.countP_map]; rfl
  rw [e, List.map_map, List.map_map]; rfl
theorem task_mat_ok {a : Law13_Task} {Q : Rows → Prop} (h : okLaw13_Task a) (hQ : ∀ T, Canon (sizeS a.Size.1) (sizeS a.Size.2) T → (∀ t ∈ T, inI t.Val) → Q (builtS (sizeS a.Size.1) (sizeS a.Size.2) T)) : law13_Task_Matrix a Q := by
  unfold law13_Task_Matrix
  refine some_is h.2.1 h.2.2.1.1 fun T hT hv => right_is ?_
  have hTl := hT.len
  have hVl : (builtS (sizeS a.Size.1) (sizeS a.Size.2) T).Val = T.map (·.Val) := rfl
  refine map_loop (xs := (builtS (sizeS a.Size.1) (sizeS a.Size.2) T).Val) (f := facR (ringS a.Ring)) (by rw [hVl, List.length_map]; omega) (fun i s next hi hs hn => ?_) (fun next s hs => ?_)
  · have hi' : i < T.length := by rw [hVl, List.length_map] at hi; exact hi
    exact ifP_dec (fun _ => idxP_nat hi (factor_ok (appP_intro (by simp; omega) hn))) (fun h => by omega)
  · refine ifP_dec (fun h => by omega) (fun _ => ?_)
    have := hQ (T.map (vmap (facR (ringS a.Ring)))) (vmap_canon hT _) (fun t ht => by
      obtain ⟨x, hx, rfl⟩ := List.mem_map.1 ht
      exact facR_inI (hv x hx))
    rw [vmap_built] at this
    rw [hVl, List.map_map] at hs
    subst hs
    exact this
/-! ### Vectors -/
def kvV (x : Item) : Key × Int := ((0, x.At), x.Val)
def e0V (x : Item) : Edge := ⟨0, x.At, x.Val⟩
theorem ref09_Of_one {n : Int} {l : List Item} {Q : Vec × Int → Prop} (h0 : 0 ≤ n) (h1 : n ≤ 4096) (hl : l.length ≤ 1000000) (hi : ∀ x ∈ l, 0 ≤ x.At ∧ x.At < n) (hv : ∀ x ∈ l, inI x.Val)
    (hQ : ∀ v : Vec, v.N = n → VecP v → (∀ x ∈ v.Items, inI x.Val) → Q (v, 0)) : ref09_Of 1 n l Q := by
  unfold ref09_Of
  refine ref02_Is_ok (ifP_neg (by decide) (ifP_dec (fun h => by omega) (fun _ => ifP_dec (fun h => by omega) (fun _ => ?_))))
  refine map_loop (xs := l) (f := e0V) (by omega) (fun i s next hk hs hn => ?_) (fun next s hs => ?_)
  · have hx := hi _ (List.getElem_mem hk)
    exact ifP_dec (fun _ => idxP_nat hk (ifP_dec (fun h => by omega) (fun _ => idxP_nat hk (ifP_dec (fun h => by omega) (fun _ => idxP_nat hk (idxP_nat hk (appP_intro (by simp; omega) hn))))))) (fun h => by omega)
  · refine ifP_dec (fun h => by omega) (fun _ => ?_)
    have hk : s.map kvE = l.map kvV := by subst hs; rw [List.map_map]; rfl
    have hkv : ∀ t ∈ l.map kvV, inI t.2 := fun t ht => by obtain ⟨x, hx, rfl⟩ := List.mem_map.1 ht; exact hv x hx
    refine ref_combine_ok (by omega) (by subst hs; simp; omega) (fun t ht => by subst hs; obtain ⟨x, hx, rfl⟩ := List.mem_map.1 ht; exact hv x hx) ?_
    rw [hk, fin_one hkv]
    refine ifP_neg rfl ?_
    dsimp only
    have hsl := (SC_prop 1 (l.map kvV) hkv).1
    rw [List.length_map] at hsl
    refine map_loop (xs := (SC 1 (l.map kvV)).map fun p => mkE p.1 (narS p.2).1) (f := fun e : Edge => (⟨e.To, e.W⟩ : Item)) (by simp; omega) (fun i s' next hk hs' hn => ?_) (fun next s' hs' => ?_)
    · have hk' : i < (SC 1 (l.map kvV)).length := by simpa using hk
      exact ifP_dec (fun _ => idxP_nat hk (idxP_nat hk (appP_intro (by simp; omega) hn))) (fun h => by omega)
    · refine ifP_dec (fun h => by omega) (fun _ => hQ _ rfl ?_ ?_)
      · have hkey : ∀ p ∈ SC 1 (l.map kvV), p.1.1 = 0 ∧ 0 ≤ p.1.2 ∧ p.1.2 < n := by
          intro p hp
          obtain ⟨t, ht, e⟩ := SC_keys hp
          obtain ⟨x, hx, rfl⟩ := List.mem_map.1 ht
          rw [← e]
          have := hi x hx
          exact ⟨rfl, this.1, this.2⟩
        refine ⟨h0, h1, ?_, fun x hx => ?_⟩
        · subst hs'
          unfold IncI
          rw [List.map_map, List.pairwise_map]
          refine List.Pairwise.imp_of_mem (fun {a b} ha hb hab => ?_) (SC_srt 1 (l.map kvV))
          have := hkey a ha; have := hkey b hb
          unfold ltK at hab
          simp only [Function.comp, mkE] at hab ⊢; omega
        · subst hs'
          simp only [List.map_map, List.mem_map] at hx
          obtain ⟨p, hp, rfl⟩ := hx
          exact (hkey p hp).2
      · subst hs'
        intro x hx
        simp only [List.map_map, List.mem_map] at hx
        obtain ⟨p, hp, rfl⟩ := hx
        exact nar_inI p.2
theorem vsome_ok {n : Int} {l : List Item} {Q : Vec → Prop} (h : inR .u8 n) (hv : ∀ x ∈ l, okItem x) (hQ : ∀ v : Vec, v.N = n % 60 → VecP v → (∀ x ∈ v.Items, inI x.Val) → Q v) : law09_Some n l Q := by
  unfold law09_Some
  have hb := bounds_u8 h
  have e : (w64 n).tmod 60 = n % 60 := by rw [w64_id (by omega) (by omega), Int.tmod_eq_emod_of_nonneg (by omega)]
  rw [e]
  refine join_intro (fun s : List Item => s.length ≤ 60 ∧ ∀ x ∈ s, (0 ≤ x.At ∧ x.At < n % 60) ∧ inI x.Val) ?_ ?_
  · rintro s ⟨hs1, hs2⟩
    exact ref09_Of_one (by omega) (by omega) (by omega) (fun x hx => (hs2 x hx).1) (fun x hx => (hs2 x hx).2) fun v h1 h2 h3 => hQ v h1 h2 h3
  · intro k hk
    refine loop_intro (fun s : List Item × Int => ∃ i : Nat, s.2 = i ∧ i ≤ 60 ∧ s.1.length ≤ i ∧ ∀ x ∈ s.1, (0 ≤ x.At ∧ x.At < n % 60) ∧ inI x.Val) (fun s => 60 - s.2.toNat) ⟨0, rfl, by omega, by simp, by simp⟩ ?_
    rintro ⟨s, j⟩ next ⟨i, hj, hi60, hs1, hs2⟩ hn
    simp only at hj hs1 hs2 ⊢
    subst hj
    have hstop : k s := hk s ⟨by omega, hs2⟩
    have ei : w64 ((i : Int) + 1) = ((i + 1 : Nat) : Int) := by rw [w64_id (by omega) (by omega)]; omega
    rw [ei]
    refine ifP_dec (fun h1 => ifP_dec (fun h2 => ifP_dec (fun h3 => ?_) (fun _ => hstop)) (fun _ => hstop)) (fun _ => hstop)
    have hil : i < l.length := by omega
    refine idxP_nat hil (ifP_dec (fun h4 => idxP_nat hil ⟨by omega, idxP_nat hil (appP_intro (by simp; omega) (hn _ ⟨i + 1, rfl, by omega, by simp; omega, fun x hx => ?_⟩ (by simp only; omega)))⟩) (fun h4 => hn _ ⟨i + 1, rfl, by omega, by simp only; omega, hs2⟩ (by simp only; omega)))
    rcases List.mem_append.1 hx with hx | hx
    · exact hs2 x hx
    · simp only [List.mem_singleton] at hx
      subst hx
      simp only
      rw [Int.tmod_eq_emod_of_nonneg h4]
      exact ⟨⟨Int.emod_nonneg _ (by omega), Int.emod_lt_of_pos _ (by omega)⟩, inR_i64 (hv _ (List.getElem_mem hil)).2⟩
theorem inR_small {x : Int} (h0 : 0 ≤ x) (h1 : x ≤ 39) : inR .u8 x := by
  have : ∀ n : Fin 40, inR .u8 (n.val : Int) := by unfold inR; decide
  have := this ⟨x.toNat, by omega⟩
  simpa only [Int.toNat_of_nonneg h0] using this
theorem task_vec_ok {a : Law13_Task} {l : List Item} {Q : Vec → Prop} (h : okLaw13_Task a) (hl : ∀ x ∈ l, okItem x) (hQ : ∀ v : Vec, v.N = sizeS a.Size.2 → VecP v → (∀ x ∈ v.Items, inI x.Val) → Q v) : law13_Task_Vector a l Q := by
  unfold law13_Task_Vector
  have hb := sizeS_b a.Size.2
  have e : IntKind.wrap .u8 (sizeS a.Size.2) = sizeS a.Size.2 := by
    simp only [IntKind.wrap, IntKind.bits, IntKind.signed]; simp; omega
  refine size_is h.2.1.2 ?_
  rw [e]
  refine vsome_ok (inR_small hb.1 hb.2) hl fun v h1 h2 h3 => ?_
  have hvl := h2.len
  refine map_loop (xs := v.Items) (f := fun x => (⟨x.At, valR (ringS a.Ring) x.Val⟩ : Item)) (by omega) (fun i s next hi hs hn => ?_) (fun next s hs => ?_)
  · exact ifP_dec (fun _ => idxP_nat hi (idxP_nat hi (right_is (value_ok (appP_intro (by simp; omega) hn))))) (fun h => by omega)
  · refine ifP_dec (fun h => by omega) (fun _ => hQ _ (by rw [h1]; omega) ?_ ?_)
    · subst hs
      refine ⟨h2.n0, h2.n1, ?_, fun x hx => ?_⟩
      · unfold IncI; rw [List.pairwise_map]; exact h2.inc
      · obtain ⟨y, hy, rfl⟩ := List.mem_map.1 hx; exact h2.ins y hy
    · subst hs
      intro x hx
      obtain ⟨y, hy, rfl⟩ := List.mem_map.1 hx; exact valR_inI (h3 y hy)
theorem task_rows_ok {a : Law13_Task} {Q : List Int → Prop} (h : okLaw13_Task a) (hQ : ∀ f, okF f → Q f) : law13_Task_Rows a Q := by
  unfold law13_Task_Rows
  have hf : okF a.F := fun x hx => by have := bounds_u64 (h.2.2.2.2.2.1.1 x hx); omega
  refine ifP_dec (fun h => ⟨by omega, by omega, by omega, hQ _ fun x hx => ?_⟩) (fun h => hQ _ hf)
  exact hf x (List.mem_of_mem_take (List.mem_of_mem_drop hx))
end Go.Proofs.YtdfiinkpdaggeaaGreat
