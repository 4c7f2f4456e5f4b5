/- The engine, part M: maps of the call's own. -/
import Derived.Test.YtmidnfbbnmigeaaGreatFwH
import Derived.MapKept
import Derived.Maps.RangeRun
import Derived.ChangeKeysEq
set_option linter.unusedSectionVars false
namespace Go.Fw
set_option linter.unusedSimpArgs false
set_option linter.unusedVariables false
open Go Go.RowKit
variable {w0 w : World} {M : Nat → Prop} {I0 I : IH} {m m' : List HA}
variable {P : Program} {n : FrK} {E : Env} {Q : Exit → Act → World → Prop} {ops : Array Oper} {l : List Oper}
variable {d ty : Nat} {pos : String} {af : Array Edge} {T e : TypeId} {x y z : Operand}
section
variable {κ α : Type} [DecidableEq κ]
/-! ### Maps as lists of pairs -/
def mget (k : κ) : List (κ × α) → Option α
  | [] => none
  | p :: r => if k = p.1 then some p.2 else mget k r
inductive ofC : Bool → List Value → Value → Prop
  | a {cs : List Value} : ofC true cs (.agg cs.toArray)
  | s {v : Value} : ofC false [v] v
variable {ke : κ → Value} {El : Elem α} {ag : Bool}
def EntsR (ke : κ → Value) (El : Elem α) (ag : Bool) (I : IH) : List MapEntry → List (κ × α) → Prop
  | [], [] => True
  | e :: es, p :: l => e.key = ke p.1 ∧ (∃ cs, El.rep I cs p.2 ∧ ofC ag cs e.val) ∧ EntsR ke El ag I es l
  | _, _ => False
theorem EntsR.mono {J : IH} (hle : I.le J) : ∀ {es : List MapEntry} {l : List (κ × α)}, EntsR ke El ag I es l → EntsR ke El ag J es l
  | [], [], _ => trivial
  | _ :: _, _ :: _, ⟨h1, ⟨cs, h2, h3⟩, h4⟩ => ⟨h1, ⟨cs, El.mono hle h2, h3⟩, h4.mono hle⟩
  | [], _ :: _, h => h.elim
  | _ :: _, [], h => h.elim
def Stamped (l : List MapEntry) (clock : Nat) : Prop := (l.map (·.born)).Nodup ∧ ∀ e ∈ l, e.born < clock
theorem Stamped.sub {l m : List MapEntry} {clock : Nat} (h : Stamped l clock) (hs : m.Sublist l) : Stamped m clock := ⟨(hs.map _).nodup h.1, fun x hx => h.2 x (hs.mem hx)⟩
def OwnMap (ke : κ → Value) (El : Elem α) (ag : Bool) (b : Nat) (kvs : List (κ × α)) : HA where
  holds I h := ∃ es clock, h b = some (.map es clock) ∧ EntsR ke El ag I es.toList kvs ∧ Stamped es.toList clock
  mono := fun hI hh ⟨es, clock, h1, h2, h3⟩ => ⟨es, clock, hh _ _ h1, h2.mono hI, h3⟩
def findP (k : κ) : List MapEntry → List κ → Nat → Option (Nat × Value)
  | e :: es, x :: ks, j => if k = x then some (j, e.val) else findP k es ks (j + 1)
  | _, _, _ => none
structure KeyOk (P : Program) (kt : TypeId) (ke : κ → Value) : Prop where
  chk : ∀ e k w, (Instr.checkKey e 10000 kt (ke k)).run P w = .ok () w
  find : ∀ (k : κ) (es : List MapEntry) (ks : List κ) (w : World), es.map (·.key) = ks.map ke → (Instr.findKey kt (ke k) es).run P w = .ok (findP k es ks 0) w
  same : ∀ k, Instr.sameBits 10000 (ke k) (ke k) = true
theorem EntsR.length : ∀ {es : List MapEntry} {l : List (κ × α)}, EntsR ke El ag I es l → es.length = l.length
  | [], [], _ => rfl
  | _ :: _, _ :: _, ⟨_, _, h⟩ => by simp [h.length]
  | [], _ :: _, h => h.elim
  | _ :: _, [], h => h.elim
variable {b : Nat} {kvs : List (κ × α)} {kt et : TypeId} {k : κ}
theorem OwnMap.cls {r : List HA} {es : Array MapEntry} {clock : Nat} (hE : EntsR ke El ag I es.toList kvs ∧ Stamped es.toList clock) (h : Sym w0 M I0 I (pto b (.map es clock) :: r) w) : Sym w0 M I0 I (OwnMap ke El ag b kvs :: r) w :=
  h.weaken fun _ hk => ⟨es, clock, hk, hE.1, hE.2⟩
theorem OwnMap.set {r : List HA} {es es' : Array MapEntry} {clock clock' : Nat} (hE : EntsR ke El ag I es'.toList kvs ∧ Stamped es'.toList clock') (h : Sym w0 M I0 I (pto b (.map es clock) :: r) w) :
    ∃ w', (setObj b (.map es' clock')).run P w = .ok () w' ∧ Sym w0 M I0 I (OwnMap ke El ag b kvs :: r) w' := by
  have hp := h.pto
  refine ⟨_, MapKept.run_setObj_map _ hp, OwnMap.cls (clock := clock') hE (h.upd rfl rfl rfl rfl (by simp) (fun q hq => ?_) ?_)⟩
  · show (w.heap.setIfInBounds b _)[q]? = _
    rw [Array.getElem?_setIfInBounds, if_neg (by omega)]
  · show (w.heap.setIfInBounds b _)[b]? = _
    have := (Array.getElem?_eq_some_iff.1 hp).1
    rw [Array.getElem?_setIfInBounds, if_pos rfl, if_pos this]
theorem EntsR.get : ∀ {es : List MapEntry} {l : List (κ × α)} {i : Nat} {e : MapEntry}, EntsR ke El ag I es l → es[i]? = some e → ∃ p, l[i]? = some p ∧ e.key = ke p.1 ∧ ∃ cs, El.rep I cs p.2 ∧ ofC ag cs e.val
  | _ :: _, p :: _, 0, _, ⟨h1, h2, _⟩, he => by cases he; exact ⟨p, rfl, h1, h2⟩
  | _ :: _, _ :: _, i + 1, _, ⟨_, _, h⟩, he => by
    obtain ⟨p, g⟩ := EntsR.get (i := i) h (by simpa using he)
    exact ⟨p, by simpa using g.1, g.2⟩
  | [], [], _, _, _, he => by simp at he
  | [], _ :: _, _, _, h, _ => h.elim
  | _ :: _, [], _, _, h, _ => h.elim
variable {r : Nat} {rest : List (κ × α)}
end
theorem RepSl.ofNone {α : Type} {El : Elem α} {cap : Nat} {xs : List α} {a : Option Addr} (h : RepSl El I a cap xs) (hb : a.isNone = true) : xs = [] := by
  cases xs with
  | nil => rfl
  | cons x r => obtain ⟨b, off, cs, h1, _⟩ := h.2 0 x rfl; subst h1; cases hb
def nilP {α : Type} (xs : List α) (A B : Prop) : Prop := (xs = [] → A) ∧ B
theorem eq_slice_nil' (w : World) (d : Nat) (t e : TypeId) (a : Option Addr) (l c : Nat) (h : P.underlying t = some (.slice e)) : (Op.equalIn (d + 1) t (.slice a l c) (.slice none 0 0)).run P w = .ok a.isNone w := by
  cases a <;> simp [Op.equalIn, run_underlying h]
theorem eq_slice_nil (w : World) (t e : TypeId) (a : Option Addr) (l c : Nat) (h : P.underlying t = some (.slice e)) : (Op.equal t (.slice a l c) (.slice none 0 0)).run P w = .ok a.isNone w := eq_slice_nil' w 9999 t e a l c h
theorem Ops.eqNilS {S : World → Prop} {T' : TypeId} {a : Option Addr} {k cap : Nat} (hT : P.underlying T = some (.slice e)) (hx : ev E x = some (.slice a k cap)) (hy : ev E y = some (.slice none 0 0)) (hb : Nat.blt d n.sz = true) (hf : fresh E d = true)
    (k' : Ops P ops l n ((d, .bool a.isNone) :: E) S Q) : Ops P ops (⟨some d, .binOp .eql T x y T', ty, pos, af, none⟩ :: l) n E S Q :=
  Ops.val rfl rfl (fun c w ho _ => by
    have hg : (eqGuard .eql T x y (.slice a k cap) (.slice none 0 0)).run P w = .ok () w := by unfold eqGuard; rfl
    simp only [execOp, ho.eval hx, ho.eval hy, Sem.run_bind, hg, Result.andThen_ok, binOp]
    simp [eq_slice_nil w T e a k cap hT]) hb hf k'
end Go.Fw
