/- Lists of sums as one: by a heap, and two by two. -/
import Derived.Test.YtdfiinkpdaggeaaGreatPushA
namespace Go.Proofs.YtdfiinkpdaggeaaGreat
open Go Go.Fw
set_option linter.unusedVariables false
set_option linter.unusedSimpArgs false
/-! ### Lists that rise, looked up -/
def kvM (s : Sum) : Int × Wide := (s.At, s.Val)
def lk (l : List Sum) (i : Int) : Option Wide := mget i (l.map kvM)
def Rise (l : List Sum) : Prop := l.Pairwise fun a b => a.At < b.At
instance (l : List Sum) : Decidable (Rise l) := by unfold Rise; infer_instance
def okS (l : List Sum) : Prop := ∀ s ∈ l, okW s.Val
theorem lk_nil (i : Int) : lk [] i = none := rfl
theorem lk_cons (s : Sum) (l : List Sum) (i : Int) : lk (s :: l) i = if i = s.At then some s.Val else lk l i := rfl
theorem lk_none : ∀ {l : List Sum} {i : Int}, (∀ s ∈ l, s.At ≠ i) → lk l i = none
  | [], _, _ => rfl
  | s :: l, i, h => by rw [lk_cons, if_neg (fun e => h s (by simp) e.symm)]; exact lk_none fun x hx => h x (by simp [hx])
theorem lk_mem : ∀ {l : List Sum} {i : Int} {v : Wide}, lk l i = some v → ⟨i, v⟩ ∈ l
  | s :: l, i, v, h => by
    rw [lk_cons] at h
    split at h
    · rename_i e; cases h; subst e; simp
    · exact List.mem_cons_of_mem _ (lk_mem h)
theorem mem_lk : ∀ {l : List Sum} (h : Rise l) {s : Sum}, s ∈ l → lk l s.At = some s.Val
  | x :: l, h, s, hs => by
    unfold Rise at h
    rw [List.pairwise_cons] at h
    rw [lk_cons]
    rcases List.mem_cons.1 hs with e | hs
    · subst e; rw [if_pos rfl]
    · have := h.1 s hs
      rw [if_neg (by omega)]; exact mem_lk h.2 hs
theorem lk_append : ∀ (l : List Sum) (m : List Sum) (i : Int), lk (l ++ m) i = match lk l i with | some v => some v | none => lk m i
  | [], m, i => rfl
  | s :: l, m, i => by
    rw [List.cons_append, lk_cons, lk_cons]
    split
    · rfl
    · exact lk_append l m i
theorem rise_ext {l m : List Sum} (h : Rise l) (h' : Rise m) (he : ∀ i, lk l i = lk m i) : l = m := by
  have nd : ∀ {l : List Sum}, Rise l → l.Nodup := fun h => h.imp fun hab e => by subst e; omega
  have hp : l.Perm m := (List.perm_ext_iff_of_nodup (nd h) (nd h')).2 fun s => ⟨fun hs => by
    have := mem_lk h hs; rw [he] at this; exact lk_mem this, fun hs => by
    have := mem_lk h' hs; rw [← he] at this; exact lk_mem this⟩
  exact sorted_eq hp h h' fun a b _ _ h1 h2 => by omega
theorem rise_adj {l : List Sum} (h : ∀ (i : Nat) (hi : i + 1 < l.length), l[i].At < l[i + 1].At) : Rise l := by
  unfold Rise
  rw [List.pairwise_iff_getElem]
  intro i j hi hj hij
  obtain ⟨d, rfl⟩ : ∃ d, j = i + 1 + d := ⟨j - i - 1, by omega⟩
  induction d with
  | zero => exact h i (by omega)
  | succ d ih => have h1 := ih (by omega) (by omega); have h2 := h (i + 1 + d) (by omega); exact Int.lt_trans h1 h2
theorem Rise.adj {l : List Sum} (h : Rise l) {i j : Nat} (hj : j < l.length) (hij : i < j) : (l[i]'(by omega)).At < l[j].At := by
  unfold Rise at h; rw [List.pairwise_iff_getElem] at h; exact h i j (by omega) hj hij
/-! ### Two as one -/
def cmb (r : Int) : Option Wide → Option Wide → Option Wide
  | none, y => y
  | some a, none => some a
  | some a, some b => some (addW r a b)
theorem cmb_none (r : Int) (a : Option Wide) : cmb r a none = a := by cases a <;> rfl
def bothS (r : Int) (a b : List Sum) : List Sum :=
  match a, b with
  | [], b => b
  | x :: a, [] => x :: a
  | x :: a, y :: b => if x.At < y.At then x :: bothS r a (y :: b) else if y.At < x.At then y :: bothS r (x :: a) b else ⟨x.At, addW r x.Val y.Val⟩ :: bothS r a b
termination_by a.length + b.length
theorem both_nil (r : Int) (a : List Sum) : bothS r a [] = a := by cases a <;> simp [bothS]
theorem both_at (r : Int) : ∀ (a b : List Sum) (s : Sum), s ∈ bothS r a b → (∃ x ∈ a, x.At = s.At) ∨ ∃ x ∈ b, x.At = s.At
  | [], b, s, h => .inr ⟨s, by simpa [bothS] using h, rfl⟩
  | x :: a, [], s, h => .inl ⟨s, by simpa [bothS] using h, rfl⟩
  | x :: a, y :: b, s, h => by
    rw [bothS] at h
    split at h
    · rcases List.mem_cons.1 h with e | h
      · exact .inl ⟨x, by simp, by rw [e]⟩
      · rcases both_at r a (y :: b) s h with ⟨z, hz, e⟩ | ⟨z, hz, e⟩
        · exact .inl ⟨z, by simp [hz], e⟩
        · exact .inr ⟨z, hz, e⟩
    · split at h
      · rcases List.mem_cons.1 h with e | h
        · exact .inr ⟨y, by simp, by rw [e]⟩
        · rcases both_at r (x :: a) b s h with ⟨z, hz, e⟩ | ⟨z, hz, e⟩
          · exact .inl ⟨z, hz, e⟩
          · exact .inr ⟨z, by simp [hz], e⟩
      · rcases List.mem_cons.1 h with e | h
        · exact .inl ⟨x, by simp, by rw [e]⟩
        · rcases both_at r a b s h with ⟨z, hz, e⟩ | ⟨z, hz, e⟩
          · exact .inl ⟨z, by simp [hz], e⟩
          · exact .inr ⟨z, by simp [hz], e⟩
termination_by a b => a.length + b.length
theorem both_prop (r : Int) : ∀ (a b : List Sum), Rise a → Rise b → Rise (bothS r a b) ∧ (bothS r a b).length ≤ a.length + b.length ∧ (okS a → okS b → okS (bothS r a b)) ∧ ∀ i, lk (bothS r a b) i = cmb r (lk a i) (lk b i)
  | [], b, _, hb => by simp only [bothS]; exact ⟨hb, by simp, fun _ h => h, fun i => rfl⟩
  | x :: a, [], ha, _ => by rw [both_nil]; exact ⟨ha, by simp, fun h _ => h, fun i => by rw [lk_nil, cmb_none]⟩
  | x :: a, y :: b, ha, hb => by
    have ha' := ha; have hb' := hb
    unfold Rise at ha' hb'
    rw [List.pairwise_cons] at ha' hb'
    rw [bothS]
    split
    · rename_i hlt
      obtain ⟨h1, h2, h3, h4⟩ := both_prop r a (y :: b) ha'.2 hb
      refine ⟨List.pairwise_cons.2 ⟨fun s hs => ?_, h1⟩, by simp at h2 ⊢; omega, fun q1 q2 s hs => ?_, fun i => ?_⟩
      · rcases both_at r a (y :: b) s hs with ⟨z, hz, e⟩ | ⟨z, hz, e⟩
        · rw [← e]; exact ha'.1 z hz
        · rw [← e]; rcases List.mem_cons.1 hz with e' | hz
          · rw [e']; exact hlt
          · have := hb'.1 z hz; omega
      · rcases List.mem_cons.1 hs with e | hs
        · subst e; exact q1 _ (by simp)
        · exact h3 (fun s hs => q1 s (by simp [hs])) q2 s hs
      · rw [lk_cons, lk_cons x a]
        split
        · rename_i e; subst e
          rw [lk_none (l := y :: b) (fun s hs => by rcases List.mem_cons.1 hs with e | hs
                                                    · subst e; omega
                                                    · have := hb'.1 s hs; omega)]
          rfl
        · exact h4 i
    · rename_i hlt
      split
      · rename_i hlt'
        obtain ⟨h1, h2, h3, h4⟩ := both_prop r (x :: a) b ha hb'.2
        refine ⟨List.pairwise_cons.2 ⟨fun s hs => ?_, h1⟩, by simp at h2 ⊢; omega, fun q1 q2 s hs => ?_, fun i => ?_⟩
        · rcases both_at r (x :: a) b s hs with ⟨z, hz, e⟩ | ⟨z, hz, e⟩
          · rw [← e]; rcases List.mem_cons.1 hz with e' | hz
            · rw [e']; exact hlt'
            · have := ha'.1 z hz; omega
          · rw [← e]; exact hb'.1 z hz
        · rcases List.mem_cons.1 hs with e | hs
          · subst e; exact q2 _ (by simp)
          · exact h3 q1 (fun s hs => q2 s (by simp [hs])) s hs
        · rw [lk_cons, lk_cons y b]
          split
          · rename_i e; subst e
            rw [lk_none (l := x :: a) (fun s hs => by rcases List.mem_cons.1 hs with e | hs
                                                      · subst e; omega
                                                      · have := ha'.1 s hs; omega)]
            rfl
          · exact h4 i
      · rename_i hlt'
        have exy : x.At = y.At := by omega
        obtain ⟨h1, h2, h3, h4⟩ := both_prop r a b ha'.2 hb'.2
        refine ⟨List.pairwise_cons.2 ⟨fun s hs => ?_, h1⟩, by simp at h2 ⊢; omega, fun q1 q2 s hs => ?_, fun i => ?_⟩
        · rcases both_at r a b s hs with ⟨z, hz, e⟩ | ⟨z, hz, e⟩
          · rw [← e]; exact ha'.1 z hz
          · rw [← e]; have := hb'.1 z hz; show x.At < z.At; omega
        · rcases List.mem_cons.1 hs with e | hs
          · subst e; exact addW_okW (q1 _ (by simp)) (q2 _ (by simp))
          · exact h3 (fun s hs => q1 s (by simp [hs])) (fun s hs => q2 s (by simp [hs])) s hs
        · rw [lk_cons, lk_cons x a, lk_cons y b, ← exy]
          split
          · rfl
          · exact h4 i
termination_by a b => a.length + b.length
/-! ### Many as one -/
def foldR (r : Int) (R : Nat → List Sum) (i : Int) : Nat → Option Wide → Option Wide
  | 0, a => a
  | n + 1, a => cmb r (foldR r R i n a) (lk (R n) i)
def mergeS (r : Int) (L : List (List Sum)) : List Sum := L.foldl (bothS r) []
def total (L : List (List Sum)) : Nat := (L.map List.length).foldr (· + ·) 0
theorem merge_prop (r : Int) : ∀ (L : List (List Sum)), (∀ l ∈ L, Rise l) → ∀ n, n ≤ L.length →
    Rise (mergeS r (L.take n)) ∧ (mergeS r (L.take n)).length ≤ total (L.take n) ∧ ((∀ l ∈ L, okS l) → okS (mergeS r (L.take n))) ∧ ∀ i, lk (mergeS r (L.take n)) i = foldR r (fun w => L.getD w []) i n none := by
  intro L hL n
  induction n with
  | zero => intro _; simp [mergeS, Rise, total, okS, lk_nil, foldR]
  | succ n ih =>
    intro hn
    obtain ⟨h1, h2, h3, h4⟩ := ih (by omega)
    have e : L.take (n + 1) = L.take n ++ [L[n]] := List.take_succ_eq_append_getElem (by omega)
    have em : mergeS r (L.take (n + 1)) = bothS r (mergeS r (L.take n)) L[n] := by unfold mergeS; rw [e, List.foldl_append]; rfl
    have et : total (L.take (n + 1)) = total (L.take n) + L[n].length := by
      rw [e]; unfold total
      induction (L.take n) with
      | nil => simp
      | cons a l ih => simp only [List.cons_append, List.map_cons, List.foldr_cons, ih]; omega
    obtain ⟨g1, g2, g3, g4⟩ := both_prop r (mergeS r (L.take n)) L[n] h1 (hL _ (List.getElem_mem _))
    rw [em, et]
    refine ⟨g1, by omega, fun q => g3 (h3 q) (q _ (List.getElem_mem _)), fun i => ?_⟩
    rw [g4, h4]
    simp [foldR, List.getD_eq_getElem?_getD, show n < L.length by omega]
theorem foldR_none {r : Int} {R : Nat → List Sum} {i : Int} {a : Option Wide} : ∀ {n : Nat}, (∀ w, w < n → lk (R w) i = none) → foldR r R i n a = a
  | 0, _ => rfl
  | n + 1, h => by rw [foldR, foldR_none (fun w hw => h w (by omega)), h n (by omega), cmb_none]
theorem foldR_congr {r : Int} {R R' : Nat → List Sum} {i : Int} {a : Option Wide} : ∀ {n : Nat}, (∀ w, w < n → lk (R w) i = lk (R' w) i) → foldR r R i n a = foldR r R' i n a
  | 0, _ => rfl
  | n + 1, h => by rw [foldR, foldR, foldR_congr (fun w hw => h w (by omega)), h n (by omega)]
def upd (R : Nat → List Sum) (w : Nat) (l : List Sum) : Nat → List Sum := fun k => if k = w then l else R k
theorem foldR_step {r : Int} {R : Nat → List Sum} {i : Int} {a : Option Wide} {w : Nat} {v : Wide} {t : List Sum} (h0 : ∀ k, k < w → lk (R k) i = none) (h1 : lk (R w) i = some v) (h2 : lk t i = none) :
    ∀ {n : Nat}, w < n → foldR r (upd R w t) i n (cmb r a (some v)) = foldR r R i n a
  | 0, h => by omega
  | n + 1, h => by
    rw [foldR, foldR]
    by_cases e : n = w
    · subst e
      rw [foldR_none (fun k hk => by rw [upd, if_neg (by omega)]; exact h0 k hk), foldR_none h0, upd, if_pos rfl, h1, h2, cmb_none]
    · rw [foldR_step h0 h1 h2 (by omega), upd, if_neg e]
/-- the lists that are left, as a heap has them -/
def hs (R : Nat → List Sum) : Nat → List Push_head
  | 0 => []
  | n + 1 => if R n = [] then hs R n else ⟨R n, n⟩ :: hs R n
theorem hs_mem {R : Nat → List Sum} {h : Push_head} : ∀ {n : Nat}, h ∈ hs R n ↔ ∃ w, w < n ∧ R w ≠ [] ∧ h = ⟨R w, w⟩
  | 0 => by simp [hs]
  | n + 1 => by
    rw [hs]
    split
    · rename_i e; rw [hs_mem (n := n)]
      constructor
      · rintro ⟨w, h1, h2⟩; exact ⟨w, by omega, h2⟩
      · rintro ⟨w, h1, h2, h3⟩
        refine ⟨w, ?_, h2, h3⟩
        rcases Nat.lt_or_ge w n with g | g
        · exact g
        · have : w = n := by omega
          subst this; exact absurd e h2
    · rename_i e; rw [List.mem_cons, hs_mem (n := n)]
      constructor
      · rintro (h1 | ⟨w, h1, h2⟩)
        · exact ⟨n, by omega, e, h1⟩
        · exact ⟨w, by omega, h2⟩
      · rintro ⟨w, h1, h2, h3⟩
        rcases Nat.lt_or_ge w n with g | g
        · exact .inr ⟨w, g, h2, h3⟩
        · have : w = n := by omega
          subst this; exact .inl h3
theorem hs_congr {R R' : Nat → List Sum} : ∀ {n : Nat}, (∀ w, w < n → R w = R' w) → hs R n = hs R' n
  | 0, _ => rfl
  | n + 1, h => by rw [hs, hs, h n (by omega), hs_congr fun w hw => h w (by omega)]
theorem hs_len (R : Nat → List Sum) : ∀ n, (hs R n).length ≤ n
  | 0 => by simp [hs]
  | n + 1 => by rw [hs]; have := hs_len R n; split <;> simp <;> omega
theorem hs_upd {R : Nat → List Sum} {w : Nat} {l : List Sum} : ∀ {n : Nat}, w < n → (hs (upd R w l) n).Perm (if l = [] then hs (upd R w []) n else ⟨l, w⟩ :: hs (upd R w []) n)
  | 0, h => by omega
  | n + 1, h => by
    by_cases e : n = w
    · subst e
      rw [hs, hs]
      have e1 : hs (upd R n l) n = hs (upd R n []) n := hs_congr fun k hk => by rw [upd, upd, if_neg (by omega), if_neg (by omega)]
      simp only [upd, if_true, e1]
      split
      · exact .refl _
      · rw [← e1]
    · have ih := hs_upd (R := R) (l := l) (n := n) (w := w) (by omega)
      rw [hs, hs]
      have e1 : upd R w l n = R n := by rw [upd, if_neg e]
      have e2 : upd R w [] n = R n := by rw [upd, if_neg e]
      rw [e1, e2]
      split
      · exact ih
      · split at ih
        · rename_i e3; rw [if_pos e3]; exact ih.cons _
        · rename_i e3; rw [if_neg e3]; exact (ih.cons _).trans (List.Perm.swap _ _ _)
theorem upd_same (R : Nat → List Sum) (w : Nat) : upd R w (R w) = R := by funext k; unfold upd; split <;> simp_all
def sumR (R : Nat → List Sum) : Nat → Nat
  | 0 => 0
  | n + 1 => sumR R n + (R n).length
theorem sumR_upd {R : Nat → List Sum} {w : Nat} {s : Sum} {t : List Sum} (h : R w = s :: t) : ∀ {n : Nat}, w < n → sumR R n = sumR (upd R w t) n + 1
  | 0, h' => by omega
  | n + 1, h' => by
    rw [sumR, sumR]
    by_cases e : n = w
    · subst e
      have e1 : ∀ k, k ≤ n → sumR (upd R n t) k = sumR R k := by
        intro k
        induction k with
        | zero => intro _; rfl
        | succ k ih => intro hk; rw [sumR, sumR, ih (by omega), upd, if_neg (by omega)]
      rw [e1 n (by omega), upd, if_pos rfl, h]; simp; omega
    · rw [sumR_upd h (n := n) (by omega), upd, if_neg e]; omega
end Go.Proofs.YtdfiinkpdaggeaaGreat
