/- The engine, part H: calls that are handed memory of the caller's own; calls of function values. -/
import Derived.Test.YtjabmpfcpekpdaaGreatFwG
namespace Go.Fw
open Go Go.RowKit
variable {w0 w : World} {M : Nat → Prop} {I0 I : IH} {m m' : List HA}
variable {P : Program} {n : FrK} {E : Env} {S : World → Prop} {Q : Exit → Act → World → Prop} {ops : Array Oper} {l : List Oper}
variable {d ty : Nat} {pos : String} {af : Array Edge} {T e : TypeId} {x y : Operand}
inductive Outs : List HA → List HA → List HA → Prop
  | n {m : List HA} : Outs m [] m
  | c {m m' r mr : List HA} {A : HA} (h : Del m A m') (k : Outs m' r mr) : Outs m (A :: r) mr
theorem Outs.perm {mf mr : List HA} (h : Outs m mf mr) : m.Perm (mf ++ mr) := by
  induction h with
  | n => exact .refl _
  | c h _ ih => exact h.perm.trans (ih.cons _)
def Enters (P : Program) (n : FrK) (E : Env) (S : World → Prop) (x : Callee) (args : List Operand) (g : FuncId) (vs : List Value) : Prop :=
  ∀ (dst : Option Nat) (tys : Array TypeId) (ty : TypeId) (pos : String) (af : Array Edge) (c : Act) (w : World), Ok n E c → S w → (execOp c.eval ⟨dst, .call ⟨x, args.toArray, tys⟩, ty, pos, af, none⟩).run P w = .ok (.enter g vs.toArray) w
theorem Enters.f {g : FuncId} {args : List Operand} {vs : List Value} (hg : ∀ as w, (callFunc g as).run P w = .ok (.enter g as) w) (ha : evs E args = some vs) : Enters P n E S (.value (.func g)) args g vs := by
  intro dst tys ty pos af c w ho _
  have e : args.toArray.map c.eval = vs.toArray := by simp [evs_map ho ha]
  simp only [execOp, resolve, e, Act.eval, Deferred.ofValue, Sem.run_bind, Sem.run_pure, Result.andThen_ok, invoke]
  simp [hg]
theorem Enters.c {g : FuncId} {args : List Operand} {us : List Value} {first cap : Array Value} (hg : ∀ as w, (callFunc g as).run P w = .ok (.enter g as) w) (hx : ev E x = some (.func (.func g) first cap)) (ha : evs E args = some us) :
    Enters P n E S (.value x) args g (first.toList ++ us ++ cap.toList) := by
  intro dst tys ty pos af c w ho _
  have e : args.toArray.map c.eval = us.toArray := by simp [evs_map ho ha]
  simp only [execOp, resolve, e, ho.eval hx, Deferred.ofValue, Sem.run_bind, Sem.run_pure, Result.andThen_ok, invoke, hg]
  simp
theorem Ops.callS {x : Callee} {g : FuncId} {args : List Operand} {vs : List Value} {tys : Array TypeId} {mf mr : List HA} {φ : IH → Value → List HA → Prop} (he : Enters P n E (Sym w0 M I0 I m) x args g vs)
    (ho : Outs m mf mr) (hf : Fun P g vs.toArray I mf φ) (hb : Nat.blt d n.sz = true) (hfr : fresh E d = true)
    (k : ∀ v I' l', I.le I' → φ I' v l' → Ops P ops l n ((d, v) :: E) (Sym w0 M I0 I' (l' ++ mr)) Q) :
    Ops P ops (⟨some d, .call ⟨x, args.toArray, tys⟩, ty, pos, af, none⟩ :: l) n E (Sym w0 M I0 I m) Q := by
  intro c w hok hs
  refine wpListIn_plain rfl fun K hK => ?_
  refine opIn (he _ _ _ _ _ c w hok hs) (by simp) ?_
  simp only [Oper.uponIn]
  refine ⟨fun h => (by cases h), callsF (hf.use (hs.perm ho.perm) fun v I' l' w' hle hφ hs' => hK _ _ (k v I' l' hle hφ _ _ (hok.put hb hfr v) hs'))⟩
theorem Ops.mkFn {fn : Fn} {first cap : List Operand} {vs us : List Value} (h1 : evs E first = some vs) (h2 : evs E cap = some us) (hb : Nat.blt d n.sz = true) (hf : fresh E d = true)
    (k : Ops P ops l n ((d, .func fn vs.toArray us.toArray) :: E) S Q) : Ops P ops (⟨some d, .makeFunc fn first.toArray cap.toArray, ty, pos, af, none⟩ :: l) n E S Q :=
  Ops.makeFunc (fun a ha => by simp [evs_map ha h1]) (fun a ha => by simp [evs_map ha h2]) hb hf k
theorem Sym.grown (h : Sym w0 M I0 I m w) {w' : World} (hb : Base w (fun _ => False) w') : Sym w0 M I0 I m w' := by
  obtain ⟨hB, hi, hn, k, hs, hk, hd, hm⟩ := h
  have hp' : ∀ {J : IH}, J.le (hp w) → J.le (hp w') := fun hJ b o e => by
    have e' := hJ b o e
    have := hb.block b (lt_of_hp e') (fun x => x)
    show w'.heap[b]? = some o
    rw [this]; exact e'
  exact ⟨⟨hb.os.trans hB.os, hb.tape.trans hB.tape, hb.output.trans hB.output, Nat.le_trans hB.drawn hb.drawn, Nat.le_trans hB.size hb.size, fun b h1 h2 => (hb.block b (Nat.lt_of_lt_of_le h1 hB.size) (fun x => x)).trans (hB.block b h1 h2)⟩, hp' hi, hn, k, hs, hp' hk, hd, hm⟩
theorem Enters.i {g : FuncId} {args : List Operand} {us : List Value} {recv : Operand} {name : String} {t : TypeId} {v r : Value} (hg : ∀ as w, (callFunc g as).run P w = .ok (.enter g as) w)
    (hm : ∀ w, (method (P.types.size + Made.depth) t v name).run P w = .ok (g, r) w) (hx : ev E recv = some (.iface t v)) (ha : evs E args = some us) :
    Enters P n E S (.invoke recv name) args g (r :: us) := by
  intro dst tys ty pos af c w ho _
  have e : args.toArray.map c.eval = us.toArray := by simp [evs_map ho ha]
  simp only [execOp, resolve, e, ho.eval hx, Sem.run_bind, Sem.run_pure, Result.andThen_ok, invoke]
  simp [callMethod, hm, hg]
theorem Enters.iv {g : FuncId} {args : List Operand} {us : List Value} {recv : Operand} {name : String} {t : TypeId} {v r : Value} (hg : ∀ as w, (callFunc g as).run P w = .ok (.enter g as) w)
    (hm : ∀ w, S w → (method (P.types.size + Made.depth) t v name).run P w = .ok (g, r) w) (hx : ev E recv = some (.iface t v)) (ha : evs E args = some us) :
    Enters P n E S (.invoke recv name) args g (r :: us) := by
  intro dst tys ty pos af c w ho hs
  have e : args.toArray.map c.eval = us.toArray := by simp [evs_map ho ha]
  simp only [execOp, resolve, e, ho.eval hx, Sem.run_bind, Sem.run_pure, Result.andThen_ok, invoke]
  simp [callMethod, hm w hs, hg]
end Go.Fw
