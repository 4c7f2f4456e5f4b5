/- Rows that are built, and Of: program and reference against one plain function. -/
import Derived.Test.YtdfiinkpdaggeaaGreatCsrC
namespace Go.Proofs.YtdfiinkpdaggeaaGreat
open Go Go.Fw
set_option linter.unusedVariables false
set_option linter.unusedSimpArgs false
theorem rm_get {f : Nat → Int} {n j : Nat} (h : j < n) : ((List.range n).map f)[j]? = some (f j) := by simp [h]
theorem rm_set {f : Nat → Int} {n j : Nat} {v : Int} : ((List.range n).map f).set j v = (List.range n).map (fun i => if i = j then v else f i) := by
  apply List.ext_getElem?
  intro i
  rw [List.getElem?_set]
  simp only [List.length_map, List.length_range]
  by_cases e : j = i
  · subst e
    by_cases h : j < n
    · rw [if_pos rfl, if_pos h, rm_get h, if_pos rfl]
    · rw [if_pos rfl, if_neg h, List.getElem?_eq_none (by simp; omega)]
  · rw [if_neg e]
    by_cases h : i < n
    · rw [rm_get h, rm_get h, if_neg (fun h => e h.symm)]
    · rw [List.getElem?_eq_none (by simp; omega), List.getElem?_eq_none (by simp; omega)]
theorem rm_congr {f g : Nat → Int} {n : Nat} (h : ∀ j, j < n → f j = g j) : (List.range n).map f = (List.range n).map g := List.map_congr_left fun j hj => h j (by simpa using hj)
def below (ts : List Triple) (j : Nat) : Int := ((ts.countP (fun t : Triple => decide (t.Row < (j : Int))) : Nat) : Int)
def atRow (ts : List Triple) (j : Nat) : Int := ((ts.countP (fun t : Triple => decide (t.Row + 1 = (j : Int))) : Nat) : Int)
theorem below_snoc (ts : List Triple) (t : Triple) (j : Nat) : below (ts ++ [t]) j = below ts j + if t.Row < j then 1 else 0 := by
  unfold below; rw [List.countP_append, List.countP_singleton]; simp only [decide_eq_true_eq]; split <;> simp
theorem atRow_snoc (ts : List Triple) (t : Triple) (j : Nat) : atRow (ts ++ [t]) j = atRow ts j + if t.Row + 1 = j then 1 else 0 := by
  unfold atRow; rw [List.countP_append, List.countP_singleton]; simp only [decide_eq_true_eq]; split <;> simp
theorem below_le (ts : List Triple) (j : Nat) : 0 ≤ below ts j ∧ below ts j ≤ ts.length := by
  unfold below; have := List.countP_le_length (p := fun t : Triple => decide (t.Row < (j : Int))) (l := ts); omega
theorem atRow_le (ts : List Triple) (j : Nat) : 0 ≤ atRow ts j ∧ atRow ts j ≤ ts.length := by
  unfold atRow; have := List.countP_le_length (p := fun t : Triple => decide (t.Row + 1 = (j : Int))) (l := ts); omega
theorem below_succ (j : Nat) : ∀ (ts : List Triple), (∀ t ∈ ts, 0 ≤ t.Row) → below ts (j + 1) = below ts j + atRow ts (j + 1)
  | [], _ => rfl
  | t :: ts, h => by
    have := below_succ j ts fun x hx => h x (by simp [hx])
    unfold below atRow at *
    simp only [List.countP_cons]
    have h0 := h t (by simp)
    by_cases h1 : t.Row < j
    · have h2 : t.Row < (j + 1 : Nat) := by omega
      have h3 : ¬ t.Row + 1 = ((j + 1 : Nat) : Int) := by omega
      simp only [h1, h2, h3, decide_true, decide_false, if_true, if_false]; simp only [Bool.false_eq_true, if_false]; omega
    · by_cases h4 : t.Row + 1 = ((j + 1 : Nat) : Int)
      · have h2 : t.Row < (j + 1 : Nat) := by omega
        simp only [h1, h2, h4, decide_true, decide_false, if_true, if_false]; simp only [Bool.false_eq_true, if_false]; omega
      · have h2 : ¬ t.Row < (j + 1 : Nat) := by omega
        simp only [h1, h2, h4, decide_true, decide_false, if_true, if_false]; simp only [Bool.false_eq_true, if_false]; omega
def builtS (rows cols : Int) (ts : List Triple) : Rows := ⟨rows, cols, (List.range (rows.toNat + 1)).map (below ts), ts.map (·.Col), ts.map (·.Val)⟩
theorem rep_range (n : Nat) : List.replicate n (0 : Int) = (List.range n).map fun _ => 0 := by
  apply List.ext_getElem?
  intro i
  by_cases h : i < n
  · rw [rm_get h]; simp [h]
  · rw [List.getElem?_eq_none (by simp; omega), List.getElem?_eq_none (by simp; omega)]
theorem built_ok {rows cols : Int} {ts : List Triple} {Q : Rows → Prop} (h0 : 0 ≤ rows) (h1 : rows ≤ 1000000) (hl : ts.length ≤ 1000000) (ht : ∀ t ∈ ts, 0 ≤ t.Row ∧ t.Row < rows) (hQ : Q (builtS rows cols ts)) : csr_built rows cols ts Q := by
  unfold csr_built csr_empty
  obtain ⟨n, rfl⟩ : ∃ n : Nat, rows = n := ⟨rows.toNat, by omega⟩
  have e : w64 ((n : Int) + 1) = (n + 1 : Nat) := by rw [w64_id (by omega) (by omega)]; omega
  rw [e]
  refine ⟨by omega, by omega, ?_⟩
  simp only [Int.toNat_natCast]
  rw [rep_range]
  refine range_intro (fun (s : List Int × List Int × List Int) i => (s.1, s.2.1, s.2.2, i)) 0 ts.length (s0 := ((List.range (n + 1)).map fun _ => 0, [], [])) (by omega) (fun i s => s = ((List.range (n + 1)).map (atRow (ts.take i)), (ts.take i).map (·.Col), (ts.take i).map (·.Val))) (by omega) (by simp [atRow]) (fun i s next _ hi hm hn => ?_) (fun s next hm => ?_)
  · subst hm
    dsimp only
    have hr := ht _ (List.getElem_mem hi)
    refine ifP_dec (fun _ => ?_) (fun h => by omega)
    refine idxP_nat hi ?_
    obtain ⟨q, hq⟩ : ∃ q : Nat, ts[i].Row = q := ⟨ts[i].Row.toNat, by omega⟩
    have e2 : w64 (ts[i].Row + 1) = (q + 1 : Nat) := by rw [w64_id (by omega) (by omega)]; omega
    rw [e2]
    have hc := atRow_le (ts.take i) (q + 1)
    have htl : (ts.take i).length ≤ ts.length := by simp; omega
    refine idxP_intro (by omega) (rm_get (by omega)) (idxP_intro (by omega) (rm_get (by omega)) (appP_intro (by simp; omega) (appP_intro (by simp; omega) (hn ((List.range (n + 1)).map (atRow (ts.take (i + 1))), (ts.take (i + 1)).map (·.Col), (ts.take (i + 1)).map (·.Val)) rfl |> cast ?_))))
    congr 1
    simp only [Int.toNat_natCast]
    rw [rm_set, take_map hi, take_map hi]
    refine Prod.ext (rm_congr fun j hj => ?_) rfl
    rw [List.take_succ_eq_append_getElem hi, atRow_snoc]
    by_cases ej : j = q + 1
    · subst ej; rw [if_pos (by omega), if_pos rfl, w64_id (by omega) (by omega)]
    · rw [if_neg (by omega), if_neg ej]; omega
  · subst hm
    dsimp only
    refine ifP_dec (fun h => by omega) (fun _ => ?_)
    simp only [List.take_length]
    refine range_intro (fun (s : List Int) i => (s, i)) 0 n (by omega) (fun i s => s = (List.range (n + 1)).map fun j => if j ≤ i then below ts j else atRow ts j) (by omega) (rm_congr fun j hj => ?_) (fun i s next _ hi hm hn => ?_) (fun s next hm => ?_)
    · by_cases ej : j ≤ 0
      · rw [if_pos ej, show j = 0 by omega]
        have : ∀ t ∈ ts, ¬ t.Row < ((0 : Nat) : Int) := fun t h => by have := ht t h; omega
        have h2 : ∀ t ∈ ts, ¬ t.Row + 1 = ((0 : Nat) : Int) := fun t h => by have := ht t h; omega
        unfold atRow below
        rw [List.countP_eq_zero.2 (by simpa using h2), List.countP_eq_zero.2 (by simpa using this)]
      · rw [if_neg ej]
    · subst hm
      refine ifP_dec (fun _ => ?_) (fun h => by omega)
      have e2 : w64 ((i : Int) + 1) = (i + 1 : Nat) := by rw [w64_id (by omega) (by omega)]; omega
      rw [e2] at hn ⊢
      refine idxP_intro (by omega) (rm_get (by omega)) (idxP_intro (by omega) (rm_get (by omega)) (idxP_intro (by omega) (rm_get (by omega)) (hn _ ?_)))
      simp only [Int.toNat_natCast]
      rw [rm_set]
      refine rm_congr fun j hj => ?_
      have hb1 := below_le ts i
      have hb2 := atRow_le ts (i + 1)
      rw [if_neg (show ¬ i + 1 ≤ i by omega), if_pos (Nat.le_refl i), w64_id (by omega) (by omega)]
      by_cases ej : j = i + 1
      · subst ej; rw [if_pos rfl, if_pos (Nat.le_refl _), below_succ i ts fun t h => (ht t h).1]; omega
      · rw [if_neg ej]
        by_cases h : j ≤ i
        · rw [if_pos h, if_pos (by omega)]
        · rw [if_neg h, if_neg (by omega)]
    · subst hm
      refine ifP_dec (fun h => by omega) (fun _ => ?_)
      rw [rm_congr (g := below ts) fun j hj => if_pos (by omega)]
      exact hQ
theorem ref_built_ok {rows cols : Int} {ts : List Triple} {Q : Rows → Prop} (h0 : 0 ≤ rows) (h1 : rows ≤ 1000000) (hl : ts.length ≤ 1000000) (ht : ∀ t ∈ ts, 0 ≤ t.Row ∧ t.Row < rows) (hQ : Q (builtS rows cols ts)) : ref07_built rows cols ts Q := by
  unfold ref07_built ref07_Empty
  obtain ⟨n, rfl⟩ : ∃ n : Nat, rows = n := ⟨rows.toNat, by omega⟩
  have e : w64 ((n : Int) + 1) = (n + 1 : Nat) := by rw [w64_id (by omega) (by omega)]; omega
  rw [e]
  refine ⟨by omega, by omega, ?_⟩
  simp only [Int.toNat_natCast]
  rw [rep_range]
  refine range_intro (fun (s : List Int × List Int × List Int) i => (s.1, s.2.1, s.2.2, i)) 0 ts.length (s0 := ((List.range (n + 1)).map fun _ => 0, [], [])) (by omega) (fun i s => s = ((List.range (n + 1)).map (below (ts.take i)), (ts.take i).map (·.Col), (ts.take i).map (·.Val))) (by omega) (by simp [below]) (fun i s next _ hi hm hn => ?_) (fun s next hm => ?_)
  · subst hm
    dsimp only
    have hr := ht _ (List.getElem_mem hi)
    refine ifP_dec (fun _ => ?_) (fun h => by omega)
    refine idxP_nat hi (appP_intro (by simp; omega) (idxP_nat hi (appP_intro (by simp; omega) (idxP_nat hi ?_))))
    obtain ⟨q, hq⟩ : ∃ q : Nat, ts[i].Row = q := ⟨ts[i].Row.toNat, by omega⟩
    have e2 : w64 (ts[i].Row + 1) = (q + 1 : Nat) := by rw [w64_id (by omega) (by omega)]; omega
    rw [e2]
    have htl : (ts.take i).length ≤ ts.length := by simp; omega
    refine range_intro (fun (s : List Int) j => (s, j)) (q + 1) (n + 1) (by omega) (fun j s => s = (List.range (n + 1)).map fun p => below (ts.take i) p + if q + 1 ≤ p ∧ p < j then 1 else 0) (by omega) (rm_congr fun j hj => by rw [if_neg (by omega)]; omega) (fun j s next hj1 hj2 hm hnx => ?_) (fun s next hm => ?_)
    · subst hm
      refine ifP_dec (fun _ => ?_) (fun h => by omega)
      have hb := below_le (ts.take i) j
      refine idxP_intro (by omega) (rm_get (by omega)) (idxP_intro (by omega) (rm_get (by omega)) (hnx _ ?_))
      simp only [Int.toNat_natCast]
      rw [rm_set]
      refine rm_congr fun p hp => ?_
      rw [if_neg (show ¬ (q + 1 ≤ j ∧ j < j) by omega), w64_id (by omega) (by omega)]
      by_cases ep : p = j
      · subst ep; rw [if_pos rfl, if_pos (by omega)]; omega
      · rw [if_neg ep]
        by_cases h : q + 1 ≤ p ∧ p < j
        · rw [if_pos h, if_pos (by omega)]
        · rw [if_neg h, if_neg (by omega)]
    · subst hm
      refine ifP_dec (fun h => by omega) (fun _ => ?_)
      refine hn ((List.range (n + 1)).map (below (ts.take (i + 1))), (ts.take (i + 1)).map (·.Col), (ts.take (i + 1)).map (·.Val)) rfl |> cast ?_
      congr 1
      simp only
      rw [take_map hi, take_map hi]
      refine Prod.ext (rm_congr fun p hp => ?_) rfl
      rw [List.take_succ_eq_append_getElem hi, below_snoc]
      by_cases h : q + 1 ≤ p
      · rw [if_pos (by omega), if_pos (by omega)]
      · rw [if_neg (by omega), if_neg (by omega)]
  · subst hm
    dsimp only
    refine ifP_dec (fun h => by omega) (fun _ => ?_)
    simp only [List.take_length]
    exact hQ
/-! ### Of -/
def zR : Rows := ⟨0, 0, [], [], []⟩
def inT (rows cols : Int) (t : Triple) : Prop := 0 ≤ t.Row ∧ t.Row < rows ∧ 0 ≤ t.Col ∧ t.Col < cols
instance (rows cols : Int) (t : Triple) : Decidable (inT rows cols t) := by unfold inT; infer_instance
def ofS (r rows cols : Int) (ts : List Triple) : Rows × Int :=
  if ¬ (1 ≤ r ∧ r ≤ 5) then (zR, 8)
  else if ¬ (0 ≤ rows ∧ rows ≤ 4096 ∧ 0 ≤ cols ∧ cols ≤ 4096) then (zR, 3)
  else if 65536 < ts.length then (zR, 5)
  else if ¬ ∀ t ∈ ts, inT rows cols t then (zR, 3)
  else if (finS (SC r (ts.map kvT)) mkT).2 ≠ 0 then (zR, (finS (SC r (ts.map kvT)) mkT).2)
  else (builtS rows cols (finS (SC r (ts.map kvT)) mkT).1, 0)
theorem SC_keys {r : Int} : ∀ {ts : List (Key × Int)} {p : Key × Wide}, p ∈ SC r ts → ∃ t ∈ ts, t.1 = p.1 := by
  suffices ∀ (ts : List (Key × Int)) (l : List (Key × Wide)) p, p ∈ ts.foldl (fun l t => ins r t.1 (ofI t.2) l) l → (∃ t ∈ ts, t.1 = p.1) ∨ ∃ q ∈ l, q.1 = p.1 from fun {ts p} h => by
    rcases this ts [] p h with h | ⟨q, hq, _⟩
    · exact h
    · simp at hq
  intro ts
  induction ts with
  | nil => intro l p h; exact .inr ⟨p, h, rfl⟩
  | cons t ts ih =>
    intro l p h
    rcases ih _ _ h with ⟨x, hx, e⟩ | ⟨q, hq, e⟩
    · exact .inl ⟨x, by simp [hx], e⟩
    · rcases ins_keys hq with e2 | ⟨y, hy, e2⟩
      · exact .inl ⟨t, by simp, by rw [← e, e2]⟩
      · exact .inr ⟨y, hy, by rw [e2, e]⟩
theorem fin_in {r rows cols : Int} {ts : List Triple} (h : ∀ t ∈ ts, inT rows cols t) : ∀ t ∈ (finS (SC r (ts.map kvT)) mkT).1, inT rows cols t := by
  intro t ht
  unfold finS at ht
  split at ht
  · obtain ⟨p, hp, rfl⟩ := List.mem_map.1 ht
    obtain ⟨x, hx, e⟩ := SC_keys hp
    obtain ⟨y, hy, rfl⟩ := List.mem_map.1 hx
    have := h y hy
    unfold inT mkT at *
    rw [← e]
    exact this
  · simp at ht
theorem fin_len {α : Type} {mk : Key → Int → α} (l : List (Key × Wide)) : (finS l mk).1.length ≤ l.length := by
  unfold finS; split <;> simp
theorem within_ok {x y : Int} {Q : Bool → Prop} (hQ : Q (decide (0 ≤ x ∧ x ≤ y))) : csr_within x y Q := by
  unfold csr_within
  refine ifP_dec (fun h => ?_) (fun h => ?_)
  · rwa [show decide (x ≤ y) = decide (0 ≤ x ∧ x ≤ y) by apply decide_eq_decide.2; omega]
  · rwa [show decide (0 ≤ x ∧ x ≤ y) = false by apply decide_eq_false; omega] at hQ
end Go.Proofs.YtdfiinkpdaggeaaGreat
