/- The engine, part Y: ranges over functions: rounds, calls of yield, the statement. -/
import Derived.Test.YtjabmpfcpekpdaaGreatFwN
import Derived.RangeFuncIn
import Derived.RangeFuncRecord
namespace Go.Fw
open Go Go.RowKit
variable {w0 w : World} {M : Nat → Prop} {I0 I : IH} {m m' : List HA}
variable {P : Program} {n : FrK} {E : Env} {S : World → Prop} {Q : Exit → Act → World → Prop} {ops : Array Oper} {l : List Oper}
variable {d ty : Nat} {pos : String} {af : Array Edge} {T e : TypeId} {x y : Operand}

def RFun (P : Program) (lr : Nat) (vs : List Value) (I : IH) (m : List HA) (φ : IH → Value → List HA → Prop) : Prop :=
  ∀ (w : World) (h : IH), I.le (hp w) → sepL m I h → h.le (hp w) → I.disj h → ∃ f tmps assign body, (Instr.yield lr vs.toArray).run P w = .ok (.round lr f tmps assign body) w ∧
    RoundIn Fence.wide 0 P lr f tmps assign body w (After w (fun b => h b ≠ none) I φ)
structure RecOk (k : Nat) (E : Env) (ps : List Nat) (assign body : Code) (rc : Loop) : Prop where
  size : rc.tmps.size = k
  env : EnvOk E { tmps := rc.tmps, defers := [] }
  params : rc.params = ps.toArray
  assign : rc.assign = assign
  body : rc.body = body
def recO (rc : Loop) (js : List Code) (j : Nat) : Loop := { rc with state := if j = 0 then .ready else .done, pending := match j with | 0 => none | i + 1 => js[i]? }
def recA (lr : Nat) (js : List Code) (rc : Loop) (j : Nat) : HA := pto lr (.loop (recO rc js j))
def parE (k : Nat) : List Nat → List Value → Env → Option Env
  | [], [], E => some E
  | p :: ps, v :: vs, E => bif Nat.blt p k && fresh E p then parE k ps vs ((p, v) :: E) else none
  | _, _, _ => none
theorem parE_ok {k : Nat} : ∀ {ps : List Nat} {vs : List Value} {E E' : Env} {tmps : Array Value}, parE k ps vs E = some E' → tmps.size = k → EnvOk E { tmps, defers := [] } →
    ps.length = vs.length ∧ ((ps.zip vs).foldl (fun t (p : Nat × Value) => t.setIfInBounds p.1 p.2) tmps).size = k ∧ EnvOk E' { tmps := (ps.zip vs).foldl (fun t (p : Nat × Value) => t.setIfInBounds p.1 p.2) tmps, defers := [] }
  | [], [], E, E', tmps, h, hk, he => by simp only [parE, Option.some.injEq] at h; subst h; exact ⟨rfl, hk, he⟩
  | p :: ps, v :: vs, E, E', tmps, h, hk, he => by
    simp only [parE] at h
    cases hc : (Nat.blt p k && fresh E p) with
    | false => rw [hc] at h; simp at h
    | true =>
      rw [hc] at h
      simp only [Bool.and_eq_true] at hc
      have hok : Ok ⟨k, [], none⟩ E { tmps, defers := [] } := ⟨hk, rfl, he⟩
      have hput := hok.put hc.1 hc.2 v
      have := parE_ok (tmps := tmps.setIfInBounds p v) h hput.size hput.env
      exact ⟨by simp [this.1], this.2⟩
  | [], _ :: _, _, _, _, h, _, _ => by simp [parE] at h
  | _ :: _, [], _, _, _, h, _, _ => by simp [parE] at h
theorem RFun.mk {k lr : Nat} {E E' : Env} {ps : List Nat} {assign body : Code} {rc : Loop} {js : List Code} {vs : List Value} {mf : List HA} {φ : IH → Value → List HA → Prop} (hrc : RecOk k E ps assign body rc) (hE : parE k ps vs E = some E')
    (h : ∀ w0 M, Cod P assign ⟨k, [], some lr⟩ E' (Sym w0 M I I (recA lr js rc 0 :: mf)) (Exit.then (fun a w => ∃ w2, (Instr.beginRound lr).run P w = .ok () w2 ∧ body.wpIn (fen ⟨k, [], some lr⟩) 0 P (roundPost P lr (After w0 M I φ)) a w2) (fun _ _ _ => False))) :
    RFun P lr vs I (recA lr js rc 0 :: mf) φ := by
  intro w h0 hi hs hh hd
  have hsym := Fun.start hi hs hh hd
  have hp := hsym.pto
  obtain ⟨h1, h2, h3⟩ := parE_ok hE hrc.size hrc.env
  have hy := run_yield (P := P) (args := vs.toArray) hp (by simp [recO, hrc.params, h1])
  refine ⟨_, _, _, _, hy, roundIn_of_wpIn (F := Fence.wide) trivial ?_⟩
  have e : (recO rc js 0).assign = assign := hrc.assign
  have e2 : (recO rc js 0).body = body := hrc.body
  have e3 : ((recO rc js 0).params.zip vs.toArray).foldl (fun tmps (t, a) => tmps.setIfInBounds t a) (recO rc js 0).tmps = (ps.zip vs).foldl (fun t (p : Nat × Value) => t.setIfInBounds p.1 p.2) rc.tmps := by
    show (rc.params.zip vs.toArray).foldl _ rc.tmps = _
    rw [hrc.params, ← Array.foldl_toList]
    simp
  rw [e, e2, e3]
  exact h w _ _ w ⟨h2, rfl, h3⟩ hsym
def Nrm (n : FrK) (E : Env) (S : World → Prop) (Q : Exit → Act → World → Prop) : Prop := ∀ a w, Ok n E a → S w → Q .normal a w
theorem Nrm.drop {A : HA} (hA : Del m A m') (k : Nrm n E (Sym w0 M I0 I m') Q) : Nrm n E (Sym w0 M I0 I m) Q := fun a w ho hs => k a w ho (hs.del hA).drop
theorem Nrm.sub {E' : Env} (hs : Sub E' E) (h : Nrm n E' S Q) : Nrm n E S Q := fun a w ho hw => h a w (ho.sub hs) hw
theorem Cod.re {c : Code} (h : m = m') (k : Cod P c n E (Sym w0 M I0 I m') Q) : Cod P c n E (Sym w0 M I0 I m) Q := h ▸ k
theorem Nrm.re (h : m = m') (k : Nrm n E (Sym w0 M I0 I m') Q) : Nrm n E (Sym w0 M I0 I m) Q := h ▸ k
def eqP (a b : Nat) (K : Prop) : Prop := a = b ∧ K
end Go.Fw
