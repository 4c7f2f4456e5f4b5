import Derived.Test.YtggmiaebkplnlaaGreatOK
import Derived.Test.YtggmiaebkplnlaaGreatCsrC
/- Rows that are built, and Of: program and reference against one plain function. -/
namespace Go.Proofs.YtggmiaebkplnlaaGreat
open Go Go.Fw
set_option linter.unusedVariables false
set_option linter.unusedSimpArgs false
theorem rm_get {f : Nat → Int} {n j : Nat} (h : j < n) : ((List.range n).map f)[j]? = some (f j) := by simp [h]
theorem rm_set {f : Nat → Int} {n j : Nat} {v : Int} : ((List.range n).map f).set j v = (List.range n).map (fun i => if i = j then v else f i) := by
  apply List.ext_getElem?
  intro i
  rw [List.getElem?_set]
  simp only [List.length_map, List.length_range]
  by_cases e : j = i
  · subst e
    by_cases h : j < n
    · rw [if_pos rfl, if_pos h, rm_get h, if_pos rfl]
    · rw [if_pos rfl, if_neg h, List.getElem?_eq_none (by simp; omega)]
  · rw [if_neg e]
    by_cases h : i < n
    · rw [rm_get h, rm_get h, if_neg (fun h => e h.symm)]
    · rw [List.getElem?_eq_none (by simp; omega), List.getElem?_eq_none (by simp; omega)]
theorem rm_congr {f g : Nat → Int} {n : Nat} (h : ∀ j, j < n → f j = g j) : (List.range n).map f = (List.range n).map g := List.map_congr_left fun j hj => h j (by simpa using hj)
def below (ts : List Triple) (j : Nat) : Int := ((ts.countP (fun t : Triple => decide (t.Row < (j : Int))) : Nat) : Int)
def atRow (ts : List Triple) (j : Nat) : Int := ((ts.countP (fun t : Triple => decide (t.Row + 1 = (j : Int))) : Nat) : Int)
theorem atRow_snoc (ts : List Triple) (t : Triple) (j : Nat) : atRow (ts ++ [t]) j = atRow ts j + if t.Row + 1 = j then 1 else 0 := by
  unfold atRow; rw [List.countP_append, List.countP_singleton]; simp only [decide_eq_true_eq]; split <;> simp
theorem below_le (ts : List Triple) (j : Nat) : 0 ≤ below ts j ∧ below ts j ≤ ts.length := by
  unfold below; have := List.countP_le_length (p := fun t : Triple => decide (t.Row < (j : Int))) (l := ts); omega
theorem atRow_le (ts : List Triple) (j : Nat) : 0 ≤ atRow ts j ∧ atRow ts j ≤ ts.length := by
  unfold atRow; have := List.countP_le_length (p := fun t : Triple => decide (t.Row + 1 = (j : Int))) (l := ts); omega
theorem below_succ (j : Nat) : ∀ (ts : List Triple), (∀ t ∈ ts, 0 ≤ t.Row) → below ts (j + 1) = below ts j + atRow ts (j + 1)
  | [], _ => rfl
  | t :: ts, h => by
    have := below_succ j ts fun x hx => h x (by simp [hx])
    unfold below atRow at *
    simp only [List.countP_cons]
    have h0 := h t (by simp)
    by_cases h1 : t.Row < j
    · have h2 : t.Row < (j + 1 : Nat) := by omega
      have h3 : ¬ t.Row + 1 = ((j + 1 : Nat) : Int) := by omega
      simp only [h1, h2, h3, decide_true, decide_false, if_true, if_false]; simp only [Bool.false_eq_true, if_false]; omega
    · by_cases h4 : t.Row + 1 = ((j + 1 : Nat) : Int)
      · have h2 : t.Row < (j + 1 : Nat) := by omega
        simp only [h1, h2, h4, decide_true, decide_false, if_true, if_false]; simp only [Bool.false_eq_true, if_false]; omega
      · have h2 : ¬ t.Row < (j + 1 : Nat) := by omega
        simp only [h1, h2, h4, decide_true, decide_false, if_true, if_false]; simp only [Bool.false_eq_true, if_false]; omega
def builtS (rows cols : Int) (ts : List Triple) : Rows := ⟨rows, cols, (List.range (rows.toNat + 1)).map (below ts), ts.map (·.Col), ts.map (·.Val)⟩
theorem rep_range (n : Nat) : List.replicate n (0 : Int) = (List.range n).map fun _ => 0 := by
  apply List.ext_getElem?
  intro i
  by_cases h : i < n
  · rw [rm_get h]; simp [h]
  · rw [List.getElem?_eq_none (by simp; omega), List.getElem?_eq_none (by simp; omega)]
theorem built_ok {rows cols : Int} {ts : List Triple} {Q : Rows → Prop} (h0 : 0 ≤ rows) (h1 : rows ≤ 1000000) (hl : ts.length ≤ 1000000) (ht : ∀ t ∈ ts, 0 ≤ t.Row ∧ t.Row < rows) (hQ : Q (builtS rows cols ts)) : csr_built rows cols ts Q := by
  unfold csr_built csr_empty
  obtain ⟨n, rfl⟩ : ∃ n : Nat, rows = n := ⟨rows.toNat, by omega⟩
  have e : w64 ((n : Int) + 1) = (n + 1 : Nat) := by rw [w64_id (by omega) (by omega)]; omega
  rw [e]
  refine ⟨by omega, by omega, ?_⟩
  simp only [Int.toNat_natCast]
  rw [rep_range]
  refine range_intro (fun (s : List Int × List Int × List Int) i => (s.1, s.2.1, s.2.2, i)) 0 ts.length (s0 := ((List.range (n + 1)).map fun _ => 0, [], [])) (by omega) (fun i s => s = ((List.range (n + 1)).map (atRow (ts.take i)), (ts.take i).map (·.Col), (ts.take i).map (·.Val))) (by omega) (by simp [atRow]) (fun i s next _ hi hm hn => ?_) (fun s next hm => ?_)
  · subst hm
    dsimp only
    have hr := ht _ (List.getElem_mem hi)
    refine ifP_dec (fun _ => ?_) (fun h => by omega)
    refine idxP_nat hi ?_
    obtain ⟨q, hq⟩ : ∃ q : Nat, ts[i].Row = q := ⟨ts[i].Row.toNat, by omega⟩
    have e2 : w64 (ts[i].Row + 1) = (q + 1 : Nat) := by rw [w64_id (by omega) (by omega)]; omega
    rw [e2]
    have hc := atRow_le (ts.take i) (q + 1)
    have htl : (ts.take i).length ≤ ts.length := by simp; omega
    refine idxP_intro (by omega) (rm_get (by omega)) (idxP_intro (by omega) (rm_get (by omega)) (appP_intro (by simp; omega) (appP_intro (by simp; omega) (hn ((List.range (n + 1)).map (atRow (ts.take (i + 1))), (ts.take (i + 1)).map (·.Col), (ts.take (i + 1)).map (·.Val)) rfl |> cast ?_))))
    congr 1
    simp only [Int.toNat_natCast]
    rw [rm_set, take_map hi, take_map hi]
    refine Prod.ext (rm_congr fun j hj => ?_) rfl
    rw [List.take_succ_eq_append_getElem hi, atRow_snoc]
    by_cases ej : j = q + 1
    · subst ej; rw [if_pos (by omega), if_pos rfl, w64_id (by omega) (by omega)]
    · rw [if_neg (by omega), if_neg ej]; omega
  · subst hm
    dsimp only
    refine ifP_dec (fun h => by omega) (fun _ => ?_)
    simp only [List.take_length]
    refine range_intro (fun (s : List Int) i => (s, i)) 0 n (by omega) (fun i s => s = (List.range (n + 1)).map fun j => if j ≤ i then below ts j else atRow ts j) (by omega) (rm_congr fun j hj => ?_) (fun i s next _ hi hm hn => ?_) (fun s next hm => ?_)
    · by_cases ej : j ≤ 0
      · rw [if_pos ej, show j = 0 by omega]
        have : ∀ t ∈ ts, ¬ t.Row < ((0 : Nat) : Int) := fun t h => by have := ht t h; omega
        have h2 : ∀ t ∈ ts, ¬ t.Row + 1 = ((0 : Nat) : Int) := fun t h => by have := ht t h; omega
        unfold atRow below
        rw [List.countP_eq_zero.2 (by simpa using h2), List.countP_eq_zero.2 (by simpa using this)]
      · rw [if_neg ej]
    · subst hm
      refine ifP_dec (fun _ => ?_) (fun h => by omega)
      have e2 : w64 ((i : Int) + 1) = (i + 1 : Nat) := by rw [w64_id (by omega) (by omega)]; omega
      rw [e2] at hn ⊢
      refine idxP_intro (by omega) (rm_get (by omega)) (idxP_intro (by omega) (rm_get (by omega)) (idxP_intro (by omega) (rm_get (by omega)) (hn _ ?_)))
      simp only [Int.toNat_natCast]
      rw [rm_set]
      refine rm_congr fun j hj => ?_
      have hb1 := below_le ts i
      have hb2 := atRow_le ts (i + 1)
      rw [if_neg (show ¬ i + 1 ≤ i by omega), if_pos (Nat.le_refl i), w64_id (by omega) (by omega)]
      by_cases ej : j = i + 1
      · subst ej; rw [if_pos rfl, if_pos (Nat.le_refl _), below_succ i ts fun t h => (ht t h).1]; omega
      · rw [if_neg ej]
        by_cases h : j ≤ i
        · rw [if_pos h, if_pos (by omega)]
        · rw [if_neg h, if_neg (by omega)]
    · subst hm
      refine ifP_dec (fun h => by omega) (fun _ => ?_)
      rw [rm_congr (g := below ts) fun j hj => if_pos (by omega)]
      exact hQ
/-! ### Of -/
def zR : Rows := ⟨0, 0, [], [], []⟩
def inT (rows cols : Int) (t : Triple) : Prop := 0 ≤ t.Row ∧ t.Row < rows ∧ 0 ≤ t.Col ∧ t.Col < cols
instance (rows cols : Int) (t : Triple) : Decidable (inT rows cols t) := by unfold inT; infer_instance
theorem SC_keys {r : Int} : ∀ {ts : List (Key × Int)} {p : Key × Wide}, p ∈ SC r ts → ∃ t ∈ ts, t.1 = p.1 := by
  suffices ∀ (ts : List (Key × Int)) (l : List (Key × Wide)) p, p ∈ ts.foldl (fun l t => ins r t.1 (ofI t.2) l) l → (∃ t ∈ ts, t.1 = p.1) ∨ ∃ q ∈ l, q.1 = p.1 from fun {ts p} h => by
    rcases this ts [] p h with h | ⟨q, hq, _⟩
    · exact h
    · simp at hq
  intro ts
  induction ts with
  | nil => intro l p h; exact .inr ⟨p, h, rfl⟩
  | cons t ts ih =>
    intro l p h
    rcases ih _ _ h with ⟨x, hx, e⟩ | ⟨q, hq, e⟩
    · exact .inl ⟨x, by simp [hx], e⟩
    · rcases ins_keys hq with e2 | ⟨y, hy, e2⟩
      · exact .inl ⟨t, by simp, by rw [← e, e2]⟩
      · exact .inr ⟨y, hy, by rw [e2, e]⟩
theorem fin_len {α : Type} {mk : Key → Int → α} (l : List (Key × Wide)) : (finS l mk).1.length ≤ l.length := by
  unfold finS; split <;> simp
end Go.Proofs.YtggmiaebkplnlaaGreat

/- The reference's Of; what is the same; what is right. -/
namespace Go.Proofs.YtggmiaebkplnlaaGreat
open Go Go.Fw
set_option linter.unusedVariables false
set_option linter.unusedSimpArgs false
def e2t (e : Edge) : Triple := ⟨e.From, e.To, e.W⟩
theorem finT (l : List (Key × Wide)) : (finS l mkT).1 = (finS l mkE).1.map e2t ∧ (finS l mkT).2 = (finS l mkE).2 := by
  unfold finS
  split
  · exact ⟨by simp only [List.map_map]; rfl, rfl⟩
  · exact ⟨rfl, rfl⟩
/-! ### The same -/
theorem same_loop {α : Type} [BEq α] [LawfulBEq α] [DecidableEq α] {xs ys : List α} {Q : Bool → Prop} (hl : xs.length ≤ 1000000000000) (hQ : Q (decide (xs = ys))) :
    ifP ((xs.length : Int) != (ys.length : Int)) (Q false) (loopP (fun (s : Int) (next : Int → Prop) => ifP (decide (s < (xs.length : Int))) (idxP xs s fun x => idxP ys s fun y => ifP (x != y) (Q false) (next (w64 (s + 1)))) (Q true)) 0) := by
  refine ifP_ne (fun h => ?_) (fun h => ?_)
  · rwa [decide_eq_false (fun e => h (by rw [e]))] at hQ
  have h : xs.length = ys.length := by omega
  refine scan_intro xs.length hl (fun i => ∀ (j : Nat) (h1 : j < xs.length) (h2 : j < ys.length), j < i → xs[j] = ys[j]) (by simp) (fun i next hi hR hn => ?_) (fun next hR => ?_)
  · refine ifP_dec (fun _ => ?_) (fun h => by omega)
    refine idxP_nat hi (idxP_nat (by omega) (ifP_ne (fun e => ?_) (fun e => hn fun j h1 h2 hj => ?_)))
    · rwa [decide_eq_false (fun e' => e (by subst e'; rfl))] at hQ
    · by_cases ej : j = i
      · subst ej; exact e
      · exact hR j h1 h2 (by omega)
  · refine ifP_dec (fun h => by omega) (fun _ => ?_)
    rwa [decide_eq_true (List.ext_getElem h fun j h1 h2 => hR j h1 h2 h1)] at hQ
theorem eqI64_ok {xs ys : List Int} {Q : Bool → Prop} (hl : xs.length ≤ 1000000000000) (hQ : Q (decide (xs = ys))) : slices_Equal_int64_int64 xs ys Q := by unfold slices_Equal_int64_int64; exact same_loop hl hQ
theorem eqR_ok {xs ys : List Int} {Q : Bool → Prop} (hl : xs.length ≤ 1000000000000) (hQ : Q (decide (xs = ys))) : ref03_SameInts xs ys Q := by unfold ref03_SameInts; exact same_loop hl hQ
theorem eqV_ok {xs ys : List Int} {Q : Bool → Prop} (hl : xs.length ≤ 1000000000000) (hQ : Q (decide (xs = ys))) : ref07_SameVals xs ys Q := by unfold ref07_SameVals; exact same_loop hl hQ
theorem eqIt_ok {xs ys : List Item} {Q : Bool → Prop} (hl : xs.length ≤ 1000000000000) (hQ : Q (decide (xs = ys))) : ref07_SameItems xs ys Q := by unfold ref07_SameItems; exact same_loop hl hQ
end Go.Proofs.YtggmiaebkplnlaaGreat

/- Right rows are sorted triples, built. -/
namespace Go.Proofs.YtggmiaebkplnlaaGreat
open Go Go.Fw
set_option linter.unusedVariables false
set_option linter.unusedSimpArgs false
def key (t : Triple) : Key := (t.Row, t.Col)
def Srt (ts : List Triple) : Prop := ts.Pairwise fun a b => ltK (key a) (key b)
structure Canon (rows cols : Int) (ts : List Triple) : Prop where
  r0 : 0 ≤ rows
  r1 : rows ≤ 4096
  c0 : 0 ≤ cols
  c1 : cols ≤ 4096
  len : ts.length ≤ 65536
  srt : Srt ts
  inn : ∀ t ∈ ts, inT rows cols t
theorem mono_count {α : Type} {q : α → Bool} : ∀ {l : List α}, l.Pairwise (fun a b => q b = true → q a = true) → ∀ (i : Nat) (h : i < l.length), (q l[i] = true ↔ i < l.countP q)
  | [], _, i, h => by simp at h
  | a :: l, hp, i, h => by
    rw [List.pairwise_cons] at hp
    rw [List.countP_cons]
    by_cases ha : q a = true
    · rw [if_pos ha]
      cases i with
      | zero => simp [ha]
      | succ i =>
        have := mono_count hp.2 i (by simpa using h)
        simp only [List.getElem_cons_succ]
        rw [this]; omega
    · rw [if_neg ha]
      have hz : l.countP q = 0 := List.countP_eq_zero.2 fun b hb h' => ha (hp.1 b hb h')
      rw [hz]
      refine ⟨fun h' => absurd ?_ ha, fun h => by omega⟩
      cases i with
      | zero => exact h'
      | succ i => exact hp.1 _ (List.getElem_mem _) h'
theorem Srt.row {ts : List Triple} (h : Srt ts) (v : Nat) (p : Nat) (hp : p < ts.length) : ts[p].Row < v ↔ (p : Int) < below ts v := by
  have := mono_count (q := fun t : Triple => decide (t.Row < (v : Int))) (l := ts) (List.Pairwise.imp (fun {a b} hab => by
    simp only [decide_eq_true_eq]
    unfold ltK key at hab
    simp only at hab
    omega) h) p hp
  simp only [decide_eq_true_eq] at this
  rw [this]; unfold below; omega
/-- where a row's stretch lies -/
theorem Srt.at {ts : List Triple} (h : Srt ts) {i p : Nat} (hp : p < ts.length) : ts[p].Row = i ↔ below ts i ≤ p ∧ (p : Int) < below ts (i + 1) := by
  have h1 := h.row i p hp
  have h2 := h.row (i + 1) p hp
  omega
/-! ### Back -/
end Go.Proofs.YtggmiaebkplnlaaGreat

/- The program's cut; graphs as rows. -/
namespace Go.Proofs.YtggmiaebkplnlaaGreat
open Go Go.Fw
set_option linter.unusedVariables false
set_option linter.unusedSimpArgs false
/-! ### Graphs -/
theorem fin_canon {r rows cols : Int} {kvs : List (Key × Int)} (h : 0 ≤ rows ∧ rows ≤ 4096 ∧ 0 ≤ cols ∧ cols ≤ 4096) (hl : kvs.length ≤ 65536) (hk : ∀ t ∈ kvs, inT rows cols (mkT t.1 0)) (hv : ∀ t ∈ kvs, inI t.2) : Canon rows cols (finS (SC r kvs) mkT).1 := by
  refine ⟨h.1, h.2.1, h.2.2.1, h.2.2.2, ?_, ?_, ?_⟩
  · exact Nat.le_trans (fin_len _) (by have := (SC_prop r kvs hv).1; omega)
  · unfold finS
    split
    · unfold Srt
      rw [List.pairwise_map]
      exact SC_srt r kvs
    · exact .nil
  · intro t ht
    unfold finS at ht
    split at ht
    · obtain ⟨p, hp, rfl⟩ := List.mem_map.1 ht
      obtain ⟨x, hx, e⟩ := SC_keys hp
      have := hk x hx
      unfold inT mkT at *
      rw [← e]
      exact this
    · simp at ht
def inE (n : Int) (e : Edge) : Prop := (0 ≤ e.From ∧ e.From < n) ∧ (0 ≤ e.To ∧ e.To < n)
instance (n : Int) (e : Edge) : Decidable (inE n e) := by unfold inE; infer_instance
def wOk (e : Edge) : Prop := 0 ≤ e.W ∧ e.W ≤ 2147483647
instance (e : Edge) : Decidable (wOk e) := by unfold wOk; infer_instance
def rightG (g : Graph) : Int :=
  if g.N < 0 then 3 else if 4096 < g.N ∨ 65536 < g.Edges.length then 5 else if ¬ ∀ e ∈ g.Edges, inE g.N e then 3 else if ¬ ∀ e ∈ g.Edges, wOk e then 7 else 0
theorem rightG_zero {g : Graph} (h : rightG g = 0) : 0 ≤ g.N ∧ g.N ≤ 4096 ∧ g.Edges.length ≤ 65536 ∧ (∀ e ∈ g.Edges, inE g.N e) ∧ ∀ e ∈ g.Edges, wOk e := by
  unfold rightG at h
  split at h
  · omega
  · split at h
    · omega
    · split at h
      · omega
      · split at h
        · omega
        · rename_i h1 h2 h3 h4
          exact ⟨by omega, by omega, by omega, Decidable.of_not_not h3, Decidable.of_not_not h4⟩
theorem graph_right_ok {g : Graph} {Q : Int → Prop} (hQ : Q (rightG g)) : edges_Right g Q := by
  unfold edges_Right
  unfold rightG at hQ
  refine ifP_dec (fun h => ?_) (fun h => ?_)
  · rwa [if_pos h] at hQ
  rw [if_neg h] at hQ
  refine join_intro (fun b => b = decide (4096 < g.N ∨ 65536 < g.Edges.length)) ?_ fun k hk => ?_
  · rintro _ rfl
    refine ifP_dec (fun h5 => ?_) (fun h5 => ?_)
    · rwa [if_pos h5] at hQ
    rw [if_neg h5] at hQ
    unfold slices_ContainsFunc_api_Edge_api_Edge_87a slices_IndexFunc_api_Edge_api_Edge_a86 edges_Right_2_f7d edges_Right_1_b08
    refine scan_intro g.Edges.length (by omega) (fun i => ∀ (j : Nat) (hj : j < g.Edges.length), j < i → inE g.N g.Edges[j]) (by simp) (fun i next hi hR hn => ?_) (fun next hR => ?_)
    · refine ifP_dec (fun _ => ?_) (fun h => by omega)
      have hbad (hb : ¬ inE g.N g.Edges[i]) : ifP (decide (0 ≤ (i : Int))) (Q 3) (slices_ContainsFunc_api_Edge_api_Edge_126 g.Edges fun r45 => ifP r45 (Q 7) (Q 0)) := by
        refine ifP_dec (fun _ => ?_) (fun h => by omega)
        rwa [if_pos (fun h' => hb (h' _ (List.getElem_mem hi)))] at hQ
      refine idxP_nat hi ?_
      refine ifP_dec (fun h1 => ifP_pos rfl (ifP_pos rfl (hbad fun hh => by unfold inE at hh; omega))) (fun h1 => ?_)
      refine ifP_dec (fun h2 => ifP_pos rfl (hbad fun hh => by unfold inE at hh; omega)) (fun h2 => ?_)
      refine ifP_dec (fun h3 => ifP_pos rfl (hbad fun hh => by unfold inE at hh; omega)) (fun h3 => ?_)
      refine ifP_dec (fun h4 => hbad fun hh => by unfold inE at hh; omega) (fun h4 => hn fun j hj hji => ?_)
      by_cases e : j = i
      · subst e; unfold inE; omega
      · exact hR j hj (by omega)
    · refine ifP_dec (fun h => by omega) (fun _ => ifP_neg (by decide) ?_)
      have hall : ∀ e ∈ g.Edges, inE g.N e := fun e he => by
        obtain ⟨j, hj, rfl⟩ := List.getElem_of_mem he
        exact hR j hj hj
      rw [if_neg (fun h => h hall)] at hQ
      unfold slices_ContainsFunc_api_Edge_api_Edge_126 slices_IndexFunc_api_Edge_api_Edge_122 edges_Right_3_b50
      refine scan_intro g.Edges.length (by omega) (fun i => ∀ (j : Nat) (hj : j < g.Edges.length), j < i → wOk g.Edges[j]) (by simp) (fun i next hi hR hn => ?_) (fun next hR => ?_)
      · refine ifP_dec (fun _ => ?_) (fun h => by omega)
        have hbad (hb : ¬ wOk g.Edges[i]) : ifP (decide (0 ≤ (i : Int))) (Q 7) (Q 0) := by
          refine ifP_dec (fun _ => ?_) (fun h => by omega)
          rwa [if_pos (fun h' => hb (h' _ (List.getElem_mem hi)))] at hQ
        refine idxP_nat hi (ifP_dec (fun h1 => ifP_pos rfl (hbad fun hh => by unfold wOk at hh; omega)) (fun h1 => ifP_dec (fun h2 => hbad fun hh => by unfold wOk at hh; omega) (fun h2 => hn fun j hj hji => ?_)))
        by_cases e : j = i
        · subst e; unfold wOk; omega
        · exact hR j hj (by omega)
      · refine ifP_dec (fun h => by omega) (fun _ => ifP_neg (by decide) ?_)
        rwa [if_neg (fun h => h fun e he => by
          obtain ⟨j, hj, rfl⟩ := List.getElem_of_mem he
          exact hR j hj hj)] at hQ
  · refine ifP_dec (fun h1 => hk _ ?_) (fun h1 => hk _ ?_)
    · rw [decide_eq_true h1, decide_eq_true (.inl h1)]
    · apply decide_eq_decide.2; omega
def kvF (e : Edge) : Key × Int := ((e.To, e.From), e.W)
def flipE (e : Edge) : Edge := ⟨e.To, e.From, e.W⟩
def graphT (g : Graph) : List Triple := (finS (SC 1 (g.Edges.map kvF)) mkT).1
theorem graph_canon {g : Graph} (h : rightG g = 0) : Canon g.N g.N (graphT g) := by
  obtain ⟨h1, h2, h3, h4, h5⟩ := rightG_zero h
  refine fin_canon ⟨h1, h2, h1, h2⟩ (by simpa using h3) (fun t ht => ?_) (fun t ht => ?_)
  · obtain ⟨e, he, rfl⟩ := List.mem_map.1 ht
    have := h4 e he
    unfold inE at this
    unfold inT mkT kvF
    simp only
    omega
  · obtain ⟨e, he, rfl⟩ := List.mem_map.1 ht
    have := h5 e he
    unfold wOk at this
    unfold inI kvF
    simp only
    omega
def graphS (g : Graph) : Rows × Int := if rightG g = 0 then (builtS g.N g.N (graphT g), 0) else (zR, rightG g)
theorem graph_ok {g : Graph} {Q : Rows × Int → Prop} (hQ : Q (graphS g)) : csr_Graph g Q := by
  unfold csr_Graph
  unfold graphS at hQ
  refine graph_right_ok (ifP_ne (fun h => ?_) (fun h => ?_))
  · rwa [if_neg h] at hQ
  rw [if_pos h] at hQ
  have hcan := graph_canon h
  obtain ⟨h1, h2, h3, h4, h5⟩ := rightG_zero h
  have hv : ∀ t ∈ g.Edges.map flipE, inI t.W := fun t ht => by
    obtain ⟨e, he, rfl⟩ := List.mem_map.1 ht
    have := h5 e he
    unfold wOk at this
    unfold inI flipE
    simp only
    omega
  unfold edges_Turn edges_made_7c5 edges_turned_87e
  refine range_intro (fun (s : List Edge) i => (s, i)) 0 g.Edges.length (by omega) (fun i s => s = (g.Edges.take i).map flipE) (by omega) rfl (fun i s next _ hi hm hn => ?_) (fun s next hm => ?_)
  · subst hm
    dsimp only
    refine ifP_dec (fun _ => ?_) (fun h => by omega)
    refine idxP_nat hi (ifP_pos rfl (appP_intro ?_ (hn _ ?_)))
    · simp; omega
    · rw [take_map hi]; rfl
  · subst hm
    dsimp only
    refine ifP_dec (fun h => by omega) (fun _ => ?_)
    rw [List.take_length]
    unfold edges_Canon
    refine combine_ok (by omega) (by simp; omega) hv ?_
    dsimp only
    have hkv : (g.Edges.map flipE).map kvE = g.Edges.map kvF := by rw [List.map_map]; rfl
    rw [hkv]
    have hf1 := (finT (SC 1 (g.Edges.map kvF))).1
    have hgl := hcan.len
    have hgi := hcan.inn
    unfold graphT at hQ hgl hgi
    rw [hf1] at hQ hgl hgi
    generalize (finS (SC 1 (g.Edges.map kvF)) mkE).1 = es at hQ hgl hgi
    have hel : es.length ≤ 65536 := by simpa using hgl
    refine range_intro (fun (s : List Triple) i => (s, i)) 0 es.length (by omega) (fun i s => s = (es.take i).map e2t) (by omega) rfl (fun i s next _ hi hm hn => ?_) (fun s next hm => ?_)
    · subst hm
      dsimp only
      refine ifP_dec (fun _ => ?_) (fun h => by omega)
      refine idxP_nat hi (appP_intro ?_ (hn _ ?_))
      · simp; omega
      · rw [take_map hi]; rfl
    · subst hm
      dsimp only
      refine ifP_dec (fun h => by omega) (fun _ => ?_)
      rw [List.take_length]
      refine built_ok h1 (by omega) (by simp; omega) (fun t ht => ?_) hQ
      have := hgi t ht
      unfold inT at this
      exact ⟨this.1, this.2.1⟩
end Go.Proofs.YtggmiaebkplnlaaGreat

/- What must be whatever is asked; the statements CsrOf, CsrAsks, in plain Lean. -/
namespace Go.Proofs.YtggmiaebkplnlaaGreat
open Go Go.Fw
set_option linter.unusedVariables false
set_option linter.unusedSimpArgs false
theorem inR_i64 {x : Int} (h : inR .i64 x) : inI x := by have := bounds_i64 h; unfold inI; omega
end Go.Proofs.YtggmiaebkplnlaaGreat

/- The statement CsrGraph, in plain Lean. -/
namespace Go.Proofs.YtggmiaebkplnlaaGreat
open Go Go.Fw
set_option linter.unusedVariables false
set_option linter.unusedSimpArgs false
theorem nar_ofI {v : Int} (h : inI v) : narS (ofI v) = (v, true) := by
  unfold narS ofI
  unfold inI at h
  simp only
  rw [if_pos]
  · rw [w64_eq]; congr 1; omega
  · split <;> omega
theorem SC_one (ts : List (Key × Int)) (hv : ∀ t ∈ ts, inI t.2) : ∀ p ∈ SC 1 ts, ∃ v, inI v ∧ p.2 = ofI v := by
  suffices ∀ (ts : List (Key × Int)) (l : List (Key × Wide)), (∀ t ∈ ts, inI t.2) → (∀ p ∈ l, ∃ v, inI v ∧ p.2 = ofI v) → ∀ p ∈ ts.foldl (fun l t => ins 1 t.1 (ofI t.2) l) l, ∃ v, inI v ∧ p.2 = ofI v from this ts [] hv (by simp)
  have hins : ∀ (k : Key) (v : Int), inI v → ∀ l : List (Key × Wide), (∀ p ∈ l, ∃ v, inI v ∧ p.2 = ofI v) → ∀ p ∈ ins 1 k (ofI v) l, ∃ v, inI v ∧ p.2 = ofI v := by
    intro k v hv l
    induction l with
    | nil => intro _ p hp; simp [ins] at hp; exact ⟨v, hv, by rw [hp]⟩
    | cons q l ih =>
      intro h p hp
      unfold ins at hp
      split at hp
      · rcases List.mem_cons.1 hp with rfl | hp
        · exact h _ (by simp)
        · exact ih (fun x hx => h x (by simp [hx])) p hp
      · split at hp
        · rcases List.mem_cons.1 hp with rfl | hp
          · obtain ⟨u, hu, e⟩ := h q (by simp)
            unfold addW
            simp only [true_or, if_true]
            split
            · exact ⟨u, hu, e⟩
            · exact ⟨v, hv, rfl⟩
          · exact h p (by simp [hp])
        · rcases List.mem_cons.1 hp with rfl | hp
          · exact ⟨v, hv, rfl⟩
          · exact h p hp
  intro ts
  induction ts with
  | nil => intro l _ h; exact h
  | cons t ts ih => intro l ht h; exact ih _ (fun x hx => ht x (by simp [hx])) (hins _ _ (ht t (by simp)) l h)
theorem fin_one {α : Type} {mk : Key → Int → α} {ts : List (Key × Int)} (hv : ∀ t ∈ ts, inI t.2) : finS (SC 1 ts) mk = ((SC 1 ts).map (fun p => mk p.1 (narS p.2).1), 0) := by
  refine fin_perm (m := []) (.refl _) fun p hp => ?_
  obtain ⟨v, h1, h2⟩ := SC_one ts hv p hp
  rw [h2, nar_ofI h1]
end Go.Proofs.YtggmiaebkplnlaaGreat

/- The statements CsrBack, CsrTurns, CsrCuts, in plain Lean. -/
namespace Go.Proofs.YtggmiaebkplnlaaGreat
open Go Go.Fw
set_option linter.unusedVariables false
set_option linter.unusedSimpArgs false
theorem nar_inI (a : Wide) : inI (narS a).1 := by
  unfold narS inI
  split
  · simp only [w64_eq]; omega
  · simp
end Go.Proofs.YtggmiaebkplnlaaGreat

/- Products at two words: by halves and by doubling, and the rings' products. -/
namespace Go.Proofs.YtggmiaebkplnlaaGreat
open Go Go.Fw
set_option linter.unusedVariables false
set_option linter.unusedSimpArgs false
/-! ### Two words as a number -/
/-! ### Bits of one word -/
theorem shr_u {x : Int} (k : Nat) (hk : k ≤ 64) : shr .u64 x k = x / 2 ^ k := by
  unfold shr
  rw [Int.fdiv_eq_ediv_of_nonneg _ (Int.le_of_lt (Int.pow_pos (by omega)))]
  have : min (Int.toNat (k : Int)) (IntKind.bits .u64) = k := by simp [IntKind.bits]; omega
  rw [this]
theorem shl_u {x : Int} (k : Nat) (hk : k ≤ 64) : shl .u64 x k = (x * 2 ^ k) % 18446744073709551616 := by
  unfold shl
  rw [u64_eq]
  have : min (Int.toNat (k : Int)) (IntKind.bits .u64) = k := by simp [IntKind.bits]; omega
  rw [this]
theorem ofInt_nat (x : Int) (h0 : 0 ≤ x) (h1 : x < 18446744073709551616) : (BitVec.ofInt 64 x).toNat = x.toNat := by
  rw [BitVec.toNat_ofInt]
  congr 1
  exact Int.emod_eq_of_lt h0 (by simpa using h1)
theorem bor_nat {x y : Int} (hx0 : 0 ≤ x) (hx1 : x < 18446744073709551616) (hy0 : 0 ≤ y) (hy1 : y < 18446744073709551616) : bor .u64 x y = ((x.toNat ||| y.toNat : Nat) : Int) := by
  unfold bor
  have e : (BitVec.ofInt (IntKind.bits .u64) x ||| BitVec.ofInt (IntKind.bits .u64) y).toNat = x.toNat ||| y.toNat := by
    show (BitVec.ofInt 64 x ||| BitVec.ofInt 64 y).toNat = _
    rw [BitVec.toNat_or, ofInt_nat x hx0 hx1, ofInt_nat y hy0 hy1]
  rw [e, u64_eq]
  have : x.toNat ||| y.toNat < 2 ^ 64 := Nat.or_lt_two_pow (by omega) (by omega)
  omega
theorem bnd_nat {x y : Int} (hx0 : 0 ≤ x) (hx1 : x < 18446744073709551616) (hy0 : 0 ≤ y) (hy1 : y < 18446744073709551616) : bnd .u64 x y = ((x.toNat &&& y.toNat : Nat) : Int) := by
  unfold bnd
  have e : (BitVec.ofInt (IntKind.bits .u64) x &&& BitVec.ofInt (IntKind.bits .u64) y).toNat = x.toNat &&& y.toNat := by
    show (BitVec.ofInt 64 x &&& BitVec.ofInt 64 y).toNat = _
    rw [BitVec.toNat_and, ofInt_nat x hx0 hx1, ofInt_nat y hy0 hy1]
  rw [e, u64_eq]
  have : x.toNat &&& y.toNat < 2 ^ 64 := Nat.and_lt_two_pow _ (by omega)
  omega
/-! ### Products -/
end Go.Proofs.YtggmiaebkplnlaaGreat

