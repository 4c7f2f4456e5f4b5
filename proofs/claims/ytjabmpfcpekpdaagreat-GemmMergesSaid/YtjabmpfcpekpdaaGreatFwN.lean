/- The engine, part N: views of own slices: shortened, moved together, cleared behind the end. -/
import Derived.Test.YtjabmpfcpekpdaaGreatFwM
namespace Go.Fw
set_option linter.unusedSimpArgs false
set_option linter.unusedVariables false
open Go Go.RowKit
variable {w0 w : World} {M : Nat → Prop} {I0 I : IH} {m m' : List HA}
variable {P : Program} {n : FrK} {E : Env} {Q : Exit → Act → World → Prop} {ops : Array Oper} {l : List Oper}
variable {d ty : Nat} {pos : String} {af : Array Edge} {T e : TypeId} {x y z : Operand}
variable {α : Type} {El : Elem α} {xs ys : List α} {a : Option Addr} {cap : Nat}
/-! ### Elements of own slices that lead on -/
theorem OwnSl.take {k : IH} (h : (OwnSl El T a cap xs).holds I k) (H : Nat) : (OwnSl El T a cap (xs.take H)).holds I k := by
  rcases h with ⟨h1, h2, h3⟩ | ⟨b, c, h1, h2, h3, h4, h5⟩
  · exact .inl ⟨h1, by rw [h2]; simp, h3⟩
  · refine .inr ⟨b, c, h1, h2, by simp; omega, h4, fun i x hx => h5 i x ?_⟩
    rw [List.getElem?_take] at hx
    split at hx
    · exact hx
    · cases hx
section
variable {enc : α → List Value} {s : Nat} {he : ∀ x, (enc x).length = s ∧ ones (enc x) = true}
end
@[reducible] def RawV (sz : Nat) : Type := {cs : List Value // cs.length = sz ∧ ones cs = true}
structure RepR (El : Elem α) (I : IH) (css : List (RawV El.sz)) (xs : List α) : Prop where
  len : css.length = xs.length
  all : ∀ (i : Nat) (x : α), xs[i]? = some x → ∃ c : RawV El.sz, css[i]? = some c ∧ El.rep I c.1 x
theorem RepR.mono {J : IH} {css : List (RawV El.sz)} (h : RepR El I css xs) (hle : I.le J) : RepR El J css xs := ⟨h.len, fun i x hx => let ⟨c, h1, h2⟩ := h.all i x hx; ⟨c, h1, El.mono hle h2⟩⟩
theorem RepR.set {css : List (RawV El.sz)} (h : RepR El I css xs) (i : Nat) {x : α} {cs : List Value} (hc : El.rep I cs x) (hp : cs.length = El.sz ∧ ones cs = true) : RepR El I (css.set i ⟨cs, hp⟩) (xs.set i x) := by
  refine ⟨by simp only [List.length_set]; exact h.len, fun j y hy => ?_⟩
  by_cases e : i = j
  · subst e
    have hlt : i < xs.length := by have := (List.getElem?_eq_some_iff.1 hy).1; simpa only [List.length_set] using this
    rw [List.getElem?_set_self hlt] at hy; cases hy
    exact ⟨⟨cs, hp⟩, List.getElem?_set_self (by have := h.len; omega), hc⟩
  · rw [List.getElem?_set_ne e] at hy
    rw [List.getElem?_set_ne e]
    exact h.all j y hy
end Go.Fw
