/- Edges put together: one plain function for the program's map and sort and for the reference's rows. -/
import Derived.Test.YtdfiinkpdaggeaaGreatCsrA
namespace Go.Proofs.YtdfiinkpdaggeaaGreat
open Go Go.Fw Go.Sort Go.Shelf
set_option linter.unusedVariables false
set_option linter.unusedSimpArgs false
abbrev Key := Int × Int
def ltK (a b : Key) : Prop := a.1 < b.1 ∨ (a.1 = b.1 ∧ a.2 < b.2)
instance (a b : Key) : Decidable (ltK a b) := by unfold ltK; infer_instance
theorem ltK_trans {a b c : Key} (h1 : ltK a b) (h2 : ltK b c) : ltK a c := by unfold ltK at *; omega
theorem ltK_irrefl (a : Key) : ¬ ltK a a := by unfold ltK; omega
theorem ltK_tri {a b : Key} (h1 : ¬ ltK a b) (h2 : a ≠ b) : ltK b a := by
  obtain ⟨a1, a2⟩ := a; obtain ⟨b1, b2⟩ := b
  unfold ltK at *
  simp only [ne_eq, Prod.mk.injEq] at *
  omega
def ins (r : Int) (k : Key) (v : Wide) : List (Key × Wide) → List (Key × Wide)
  | [] => [(k, v)]
  | p :: l => if ltK p.1 k then p :: ins r k v l else if p.1 = k then (k, addW r p.2 v) :: l else (k, v) :: p :: l
def SC (r : Int) (ts : List (Key × Int)) : List (Key × Wide) := ts.foldl (fun l t => ins r t.1 (ofI t.2) l) []
theorem SC_snoc (r : Int) (ts : List (Key × Int)) (t : Key × Int) : SC r (ts ++ [t]) = ins r t.1 (ofI t.2) (SC r ts) := by simp [SC]
def srt (l : List (Key × Wide)) : Prop := l.Pairwise fun a b => ltK a.1 b.1
theorem ins_keys {r : Int} {k : Key} {v : Wide} : ∀ {l : List (Key × Wide)} {p : Key × Wide}, p ∈ ins r k v l → p.1 = k ∨ ∃ q ∈ l, q.1 = p.1
  | [], p, h => by simp [ins] at h; simp [h]
  | q :: l, p, h => by
    unfold ins at h
    split at h
    · rcases List.mem_cons.1 h with rfl | h
      · exact .inr ⟨p, by simp, rfl⟩
      · rcases ins_keys h with h | ⟨x, hx, e⟩
        · exact .inl h
        · exact .inr ⟨x, by simp [hx], e⟩
    · split at h
      · rcases List.mem_cons.1 h with rfl | h
        · exact .inl rfl
        · exact .inr ⟨p, by simp [h], rfl⟩
      · rcases List.mem_cons.1 h with rfl | h
        · exact .inl rfl
        · exact .inr ⟨p, h, rfl⟩
theorem ins_srt {r : Int} {k : Key} {v : Wide} : ∀ {l : List (Key × Wide)}, srt l → srt (ins r k v l)
  | [], _ => by simp [ins, srt]
  | p :: l, h => by
    unfold srt at h
    rw [List.pairwise_cons] at h
    unfold ins
    split
    · rename_i hk
      refine List.pairwise_cons.2 ⟨fun q hq => ?_, ins_srt h.2⟩
      rcases ins_keys hq with e | ⟨x, hx, e⟩
      · rw [e]; exact hk
      · rw [← e]; exact h.1 x hx
    · rename_i hk
      split
      · rename_i e
        subst e
        exact List.pairwise_cons.2 ⟨fun q hq => h.1 q hq, h.2⟩
      · rename_i e
        have := ltK_tri hk e
        exact List.pairwise_cons.2 ⟨fun q hq => by
          rcases List.mem_cons.1 hq with rfl | hq
          · exact this
          · exact ltK_trans this (h.1 q hq), List.pairwise_cons.2 h⟩
theorem SC_srt (r : Int) (ts : List (Key × Int)) : srt (SC r ts) := by
  unfold SC
  suffices ∀ (ts : List (Key × Int)) (l : List (Key × Wide)), srt l → srt (ts.foldl (fun l t => ins r t.1 (ofI t.2) l) l) from this ts [] .nil
  intro ts
  induction ts with
  | nil => intro l h; exact h
  | cons t ts ih => intro l h; exact ih _ (ins_srt h)
theorem ins_len (r : Int) (k : Key) (v : Wide) : ∀ l : List (Key × Wide), (ins r k v l).length ≤ l.length + 1
  | [] => by simp [ins]
  | p :: l => by
    unfold ins
    have := ins_len r k v l
    split
    · simp; omega
    · split <;> simp
theorem ins_okW {r : Int} {k : Key} {v : Wide} (hv : okW v) : ∀ {l : List (Key × Wide)}, (∀ p ∈ l, okW p.2) → ∀ p ∈ ins r k v l, okW p.2
  | [], _, p, h => by simp [ins] at h; rw [h]; exact hv
  | q :: l, hl, p, h => by
    unfold ins at h
    split at h
    · rcases List.mem_cons.1 h with rfl | h
      · exact hl _ (by simp)
      · exact ins_okW hv (fun x hx => hl x (by simp [hx])) p h
    · split at h
      · rcases List.mem_cons.1 h with rfl | h
        · exact addW_okW (hl q (by simp)) hv
        · exact hl p (by simp [h])
      · rcases List.mem_cons.1 h with rfl | h
        · exact hv
        · exact hl p h
theorem SC_prop (r : Int) : ∀ (ts : List (Key × Int)), (∀ t ∈ ts, inI t.2) → (SC r ts).length ≤ ts.length ∧ ∀ p ∈ SC r ts, okW p.2 := by
  suffices ∀ (ts : List (Key × Int)) (l : List (Key × Wide)), (∀ t ∈ ts, inI t.2) → (∀ p ∈ l, okW p.2) → (ts.foldl (fun l t => ins r t.1 (ofI t.2) l) l).length ≤ l.length + ts.length ∧ ∀ p ∈ ts.foldl (fun l t => ins r t.1 (ofI t.2) l) l, okW p.2 from
    fun ts h => by simpa [SC] using this ts [] h (by simp)
  intro ts
  induction ts with
  | nil => intro l _ h; exact ⟨by simp, h⟩
  | cons t ts ih =>
    intro l ht h
    have := ih (ins r t.1 (ofI t.2) l) (fun x hx => ht x (by simp [hx])) (ins_okW (ofI_okW (ht t (by simp))) h)
    have h2 := ins_len r t.1 (ofI t.2) l
    exact ⟨by simp only [List.foldl_cons, List.length_cons]; omega, this.2⟩
/-! ### At the end -/
def finS {α : Type} (l : List (Key × Wide)) (mk : Key → Int → α) : List α × Int := if l.all (fun p => (narS p.2).2) then (l.map (fun p => mk p.1 (narS p.2).1), 0) else ([], 12)
def kvT (t : Triple) : Key × Int := ((t.Row, t.Col), t.Val)
def mkT (k : Key) (v : Int) : Triple := ⟨k.1, k.2, v⟩
def kvE (t : Edge) : Key × Int := ((t.From, t.To), t.W)
def mkE (k : Key) (v : Int) : Edge := ⟨k.1, k.2, v⟩
theorem sort_ok {α : Type} {ord : α → α → (Int → Prop) → Prop} (cf : α → α → Int) (hc : ∀ x y Q, Q (cf x y) → ord x y Q) (hO : SWO (ltOf cf)) {xs zs : List α} {K : List α → Prop} (hl : xs.length ≤ 1000000000000) (hp : xs.Perm zs) (hz : zs.Pairwise fun x y => cf x y < 0) (hK : K zs) : sortP ord xs K := by
  refine ⟨cf, fun x y Q => hc x y Q, hO, by omega, fun ys hys hsorted => ?_⟩
  have hasym : ∀ x y, cf x y < 0 → 0 ≤ cf y x := by
    intro x y h
    rcases Int.lt_or_le (cf y x) 0 with h' | h'
    · have := hO.trans x y x (by simpa [ltOf] using h) (by simpa [ltOf] using h')
      rw [hO.irrefl] at this; cases this
    · exact h'
  have : ys = zs := sorted_eq (hys.trans hp) hsorted (hz.imp fun {a b} h => hasym a b h) fun a b ha hb h1 h2 => by
    have ha := (hys.trans hp).mem_iff.1 ha
    have hb := (hys.trans hp).mem_iff.1 hb
    obtain ⟨i, hi, rfl⟩ := List.getElem_of_mem ha
    obtain ⟨j, hj, rfl⟩ := List.getElem_of_mem hb
    rw [List.pairwise_iff_getElem] at hz
    rcases Nat.lt_trichotomy i j with h | h | h
    · have := hz i j hi hj h; omega
    · subst h; rfl
    · have := hz j i hj hi h; omega
  rw [this]; exact hK
def cfT (x y : Triple) : Int := or2 (cmpc x.Row y.Row) (cmpc x.Col y.Col)
theorem cfT_lt (x y : Triple) : cfT x y < 0 ↔ ltK (x.Row, x.Col) (y.Row, y.Col) := by
  unfold cfT or2 cmpc ltK
  (repeat' split) <;> simp only <;> omega
theorem cfT_ok {x y : Triple} {Q : Int → Prop} (h : Q (cfT x y)) : csr_order x y Q := by
  unfold csr_order
  exact cmp_int_ok (cmp_int_ok (or_ok h))
theorem cfT_SWO : SWO (ltOf cfT) where
  irrefl x := by unfold ltOf; simp only [cfT_lt]; simp [ltK]
  trans x y z h1 h2 := by unfold ltOf at *; simp only [cfT_lt, decide_eq_true_eq] at *; exact ltK_trans h1 h2
  ntrans x y z h1 h2 := by unfold ltOf at *; simp only [cfT_lt, decide_eq_false_iff_not, ltK] at *; omega
theorem fin_perm {m d : List (Key × Wide)} {l : List (Key × Wide)} {α : Type} {mk : Key → Int → α} (hp : d.Perm l) (hd : ∀ p ∈ d, (narS p.2).2 = true) : finS l mk = (l.map (fun p => mk p.1 (narS p.2).1), 0) := by
  unfold finS
  rw [if_pos]
  rw [List.all_eq_true]
  exact fun p hpm => hd p (hp.mem_iff.2 hpm)
theorem fin_bad {l : List (Key × Wide)} {α : Type} {mk : Key → Int → α} {p : Key × Wide} (hp : p ∈ l) (hd : (narS p.2).2 = false) : finS l mk = ([], 12) := by
  unfold finS
  rw [if_neg]
  rw [List.all_eq_true]
  intro h
  rw [h p hp] at hd; cases hd
theorem take_map {α β : Type} {f : α → β} {xs : List α} {i : Nat} (h : i < xs.length) : (xs.take (i + 1)).map f = (xs.take i).map f ++ [f xs[i]] := by
  rw [List.take_succ_eq_append_getElem h, List.map_append]; rfl
end Go.Proofs.YtdfiinkpdaggeaaGreat
