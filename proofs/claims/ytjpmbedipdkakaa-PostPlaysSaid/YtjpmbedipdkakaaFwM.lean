/- The engine, part M: maps of the call's own. -/
import Derived.Test.YtjpmbedipdkakaaFwH
import Derived.MapKept
set_option linter.unusedSectionVars false
namespace Go.Fw
open Go Go.RowKit
variable {w0 w : World} {M : Nat → Prop} {I0 I : IH} {m m' : List HA}
variable {P : Program} {n : Nat} {E : Env} {Q : Exit → Act → World → Prop} {ops : Array Oper} {l : List Oper}
variable {d ty : Nat} {pos : String} {af : Array Edge} {T e : TypeId} {x y z : Operand}
section
variable {κ α : Type} [DecidableEq κ]
/-! ### Maps as lists of pairs -/
def mget (k : κ) : List (κ × α) → Option α
  | [] => none
  | p :: r => if k = p.1 then some p.2 else mget k r
def mput (k : κ) (v : α) : List (κ × α) → List (κ × α)
  | [] => [(k, v)]
  | p :: r => if k = p.1 then (k, v) :: r else p :: mput k v r
def mdel (k : κ) : List (κ × α) → List (κ × α)
  | [] => []
  | p :: r => if k = p.1 then r else p :: mdel k r
def lkP (l : List (κ × α)) (k : κ) (z : α) (C : α → Prop) : Prop := C ((mget k l).getD z)
def lk2P (l : List (κ × α)) (k : κ) (z : α) (C : α → Bool → Prop) : Prop := C ((mget k l).getD z) (mget k l).isSome

inductive ofC : Bool → List Value → Value → Prop
  | a {cs : List Value} : ofC true cs (.agg cs.toArray)
  | s {v : Value} : ofC false [v] v
variable {ke : κ → Value} {El : Elem α} {ag : Bool}
def EntsR (ke : κ → Value) (El : Elem α) (ag : Bool) (I : IH) : List MapEntry → List (κ × α) → Prop
  | [], [] => True
  | e :: es, p :: l => e.key = ke p.1 ∧ (∃ cs, El.rep I cs p.2 ∧ ofC ag cs e.val) ∧ EntsR ke El ag I es l
  | _, _ => False
theorem EntsR.mono {J : IH} (hle : I.le J) : ∀ {es : List MapEntry} {l : List (κ × α)}, EntsR ke El ag I es l → EntsR ke El ag J es l
  | [], [], _ => trivial
  | _ :: _, _ :: _, ⟨h1, ⟨cs, h2, h3⟩, h4⟩ => ⟨h1, ⟨cs, El.mono hle h2, h3⟩, h4.mono hle⟩
  | [], _ :: _, h => h.elim
  | _ :: _, [], h => h.elim
/-- A map of the call's own. -/
def OwnMap (ke : κ → Value) (El : Elem α) (ag : Bool) (b : Nat) (kvs : List (κ × α)) : HA where
  holds I h := ∃ es clock, h b = some (.map es clock) ∧ EntsR ke El ag I es.toList kvs
  mono := fun hI hh ⟨es, clock, h1, h2⟩ => ⟨es, clock, hh _ _ h1, h2.mono hI⟩
def findP (k : κ) : List MapEntry → List κ → Nat → Option (Nat × Value)
  | e :: es, x :: ks, j => if k = x then some (j, e.val) else findP k es ks (j + 1)
  | _, _, _ => none
/-- what is asked of a type of keys -/
structure KeyOk (P : Program) (kt : TypeId) (ke : κ → Value) : Prop where
  chk : ∀ e k w, (Instr.checkKey e 10000 kt (ke k)).run P w = .ok () w
  find : ∀ (k : κ) (es : List MapEntry) (ks : List κ) (w : World), es.map (·.key) = ks.map ke → (Instr.findKey kt (ke k) es).run P w = .ok (findP k es ks 0) w
  same : ∀ k, Instr.sameBits 10000 (ke k) (ke k) = true
theorem findNow_int {q : IntKind} (k : Int) : ∀ (es : List MapEntry) (ks : List Int) (j : Nat), es.map (·.key) = ks.map (Value.int q) → Instr.findNow (.int q) (.int q k) es j = some (findP k es ks j)
  | [], [], _, _ => rfl
  | e :: es, x :: ks, j, h => by
    simp only [List.map_cons, List.cons.injEq] at h
    simp only [Instr.findNow, h.1, Instr.sameNow, if_true]
    by_cases hk : k = x
    · subst hk; simp [findP]
    · have : (k == x) = false := by simpa using hk
      simp only [this, findP, hk, if_false]
      exact findNow_int k es ks (j + 1) h.2
  | [], _ :: _, _, h => by simp at h
  | _ :: _, [], _, h => by simp at h
theorem keyInt {q : IntKind} {kt : TypeId} (hd : P.underlying kt = some (.int q)) : KeyOk P kt (Value.int q) where
  chk e k w := by
    show (Instr.checkKey e (9999 + 1) kt _).run P w = _
    unfold Instr.checkKey
    simp only [Sem.run_bind, run_underlying hd, Result.andThen_ok]
    rfl
  find k es ks w h := by simp [Instr.findKey, run_underlying hd, findNow_int k es ks 0 h]
  same k := by simp [Instr.sameBits]
theorem EntsR.keys : ∀ {es : List MapEntry} {l : List (κ × α)}, EntsR ke El ag I es l → es.map (·.key) = (l.map (·.1)).map ke
  | [], [], _ => rfl
  | _ :: _, _ :: _, ⟨h1, _, h2⟩ => by simp only [List.map_cons, h1]; rw [h2.keys]
  | [], _ :: _, h => h.elim
  | _ :: _, [], h => h.elim
theorem EntsR.none (k : κ) : ∀ {es : List MapEntry} {l : List (κ × α)} {j : Nat}, EntsR ke El ag I es l → findP k es (l.map (·.1)) j = none → mget k l = none ∧ (∀ v, mput k v l = l ++ [(k, v)]) ∧ mdel k l = l
  | [], [], _, _, _ => ⟨rfl, fun _ => rfl, rfl⟩
  | _ :: _, p :: _, j, ⟨_, _, h⟩, hf => by
    simp only [List.map_cons, findP] at hf
    split at hf
    · cases hf
    · rename_i hk
      obtain ⟨g1, g2, g3⟩ := EntsR.none k h hf
      exact ⟨by simp [mget, hk, g1], fun v => by simp [mput, hk, g2], by simp [mdel, hk, g3]⟩
  | [], _ :: _, _, h, _ => h.elim
  | _ :: _, [], _, h, _ => h.elim
theorem EntsR.some (k : κ) : ∀ {es : List MapEntry} {l : List (κ × α)} {j i : Nat} {v : Value}, EntsR ke El ag I es l → findP k es (l.map (·.1)) j = some (i, v) →
    ∃ i', i = j + i' ∧ (∃ e, es[i']? = some e ∧ e.key = ke k ∧ e.val = v) ∧ (∃ x cs, mget k l = some x ∧ El.rep I cs x ∧ ofC ag cs v) ∧
      (∀ (f : MapEntry → MapEntry) (x : α), (∀ e, e.key = ke k → (f e).key = ke k) → (∀ e, ∃ cs, El.rep I cs x ∧ ofC ag cs (f e).val) → EntsR ke El ag I (es.modify i' f) (mput k x l)) ∧ EntsR ke El ag I (es.eraseIdx i') (mdel k l)
  | [], [], _, _, _, _, hf => by cases hf
  | e :: es, p :: l, j, i, v, ⟨h1, h2, h⟩, hf => by
    simp only [List.map_cons, findP] at hf
    split at hf
    · rename_i hk
      cases hf
      refine ⟨0, rfl, ⟨e, rfl, by rw [h1, hk], rfl⟩, ?_, ?_, ?_⟩
      · obtain ⟨cs, g1, g2⟩ := h2
        exact ⟨p.2, cs, by simp [mget, hk], g1, g2⟩
      · intro f x hf1 hf2
        simp only [List.modify_zero_cons, mput, hk, if_true]
        exact ⟨by rw [hf1 e (by rw [h1, hk]), hk], hf2 e, h⟩
      · simp only [List.eraseIdx_cons_zero, mdel, hk, if_true]; exact h
    · rename_i hk
      obtain ⟨i', g0, g1, g2, g3, g4⟩ := EntsR.some k h hf
      refine ⟨i' + 1, by omega, by simpa using g1, ?_, ?_, ?_⟩
      · obtain ⟨x, cs, e1, e2, e3⟩ := g2
        exact ⟨x, cs, by simp [mget, hk, e1], e2, e3⟩
      · intro f x hf1 hf2
        simp only [List.modify_succ_cons, mput, hk, if_false]
        exact ⟨h1, h2, g3 f x hf1 hf2⟩
      · simp only [List.eraseIdx_cons_succ, mdel, hk, if_false]; exact ⟨h1, h2, g4⟩
  | [], _ :: _, _, _, _, h, _ => h.elim
  | _ :: _, [], _, _, _, h, _ => h.elim
theorem EntsR.push {k : κ} {x : α} {e : MapEntry} (hk : e.key = ke k) (hv : ∃ cs, El.rep I cs x ∧ ofC ag cs e.val) : ∀ {es : List MapEntry} {l : List (κ × α)}, EntsR ke El ag I es l → EntsR ke El ag I (es ++ [e]) (l ++ [(k, x)])
  | [], [], _ => ⟨hk, hv, trivial⟩
  | _ :: _, _ :: _, ⟨h1, h2, h⟩ => ⟨h1, h2, EntsR.push hk hv h⟩
  | [], _ :: _, h => h.elim
  | _ :: _, [], h => h.elim
theorem EntsR.length : ∀ {es : List MapEntry} {l : List (κ × α)}, EntsR ke El ag I es l → es.length = l.length
  | [], [], _ => rfl
  | _ :: _, _ :: _, ⟨_, _, h⟩ => by simp [h.length]
  | [], _ :: _, h => h.elim
  | _ :: _, [], h => h.elim
variable {b : Nat} {kvs : List (κ × α)} {kt et : TypeId} {k : κ}
theorem OwnMap.opn {r : List HA} (h : Sym w0 M I0 I (OwnMap ke El ag b kvs :: r) w) : ∃ es clock, EntsR ke El ag I es.toList kvs ∧ Sym w0 M I0 I (pto b (.map es clock) :: r) w := by
  obtain ⟨hb, hi, hn, q, ⟨h1, h2, hd', hl1, hl2, ⟨es, clock, ha, hE⟩, hs'⟩, hk, hdj, hm⟩ := h
  exact ⟨es, clock, hE, hb, hi, hn, q, ⟨h1, h2, hd', hl1, hl2, ha, hs'⟩, hk, hdj, hm⟩
theorem OwnMap.cls {r : List HA} {es : Array MapEntry} {clock : Nat} (hE : EntsR ke El ag I es.toList kvs) (h : Sym w0 M I0 I (pto b (.map es clock) :: r) w) : Sym w0 M I0 I (OwnMap ke El ag b kvs :: r) w :=
  h.weaken fun _ hk => ⟨es, clock, hk, hE⟩
theorem OwnMap.set {r : List HA} {es es' : Array MapEntry} {clock clock' : Nat} (hE : EntsR ke El ag I es'.toList kvs) (h : Sym w0 M I0 I (pto b (.map es clock) :: r) w) :
    ∃ w', (setObj b (.map es' clock')).run P w = .ok () w' ∧ Sym w0 M I0 I (OwnMap ke El ag b kvs :: r) w' := by
  have hp := h.pto
  refine ⟨_, MapKept.run_setObj_map _ hp, OwnMap.cls (clock := clock') hE (h.upd rfl rfl rfl rfl (by simp) (fun q hq => ?_) ?_)⟩
  · show (w.heap.setIfInBounds b _)[q]? = _
    rw [Array.getElem?_setIfInBounds, if_neg (by omega)]
  · show (w.heap.setIfInBounds b _)[b]? = _
    have := (Array.getElem?_eq_some_iff.1 hp).1
    rw [Array.getElem?_setIfInBounds, if_pos rfl, if_pos this]
theorem Ops.mkMap (ke : κ → Value) (El : Elem α) (ag : Bool) (hb : Nat.blt d n = true) (hf : fresh E d = true)
    (k' : ∀ b, Ops P ops l n ((d, .map (some b)) :: E) (Sym w0 M I0 I (OwnMap ke El ag b [] :: m)) Q) : Ops P ops (⟨some d, .makeMap T none, ty, pos, af, none⟩ :: l) n E (Sym w0 M I0 I m) Q :=
  Ops.valx (fun v w' => ∃ b, v = .map (some b) ∧ Sym w0 M I0 I (OwnMap ke El ag b [] :: m) w') rfl rfl
    (fun c w ho hs' => ⟨.map (some w.heap.size), w.alloc (.map #[] 0), by simp [execOp, Instr.makeMap], _, rfl, OwnMap.cls (by trivial) (hs'.alloc _)⟩) hb hf
    (fun v c w ho ⟨b, hv, hs'⟩ => by subst hv; exact k' b c w ho hs')
theorem run_lookup_own {r : List HA} (K : KeyOk P kt ke) (hT : P.underlying T = some (.map kt et)) {zv : Value} {z : α} (hz : ∀ w, (zeroValue et).run P w = .ok zv w) (hzr : ∃ cs, El.rep I cs z ∧ ofC ag cs zv)
    (h : Sym w0 M I0 I (OwnMap ke El ag b kvs :: r) w) (ok : Bool) :
    ∃ v cs, El.rep I cs ((mget k kvs).getD z) ∧ ofC ag cs v ∧ (Instr.lookup T (.map (some b)) (ke k) ok).run P w = .ok (if ok then .tuple #[v, .bool (mget k kvs).isSome] else v) w := by
  obtain ⟨es, clock, hE, hs⟩ := OwnMap.opn h
  have hp := hs.pto
  have hfd := K.find k es.toList (kvs.map (·.1)) w hE.keys
  cases hf : findP k es.toList (kvs.map (·.1)) 0 with
  | none =>
    obtain ⟨g1, _, _⟩ := hE.none k hf
    obtain ⟨cs, g2, g3⟩ := hzr
    refine ⟨zv, cs, by rw [g1]; exact g2, g3, ?_⟩
    rw [g1]
    simp only [Instr.lookup, Sem.run_bind, run_underlying hT, Result.andThen_ok, MapKept.run_getObj_map hp, Sem.run_pure, K.chk, hfd, hf, hz]
    cases ok <;> rfl
  | some iv =>
    obtain ⟨i, v⟩ := iv
    obtain ⟨i', _, _, ⟨x, cs, g1, g2, g3⟩, _, _⟩ := hE.some k hf
    refine ⟨v, cs, by rw [g1]; exact g2, g3, ?_⟩
    rw [g1]
    simp only [Instr.lookup, Sem.run_bind, run_underlying hT, Result.andThen_ok, MapKept.run_getObj_map hp, Sem.run_pure, K.chk, hfd, hf]
    cases ok <;> rfl
theorem Ops.lookM {zv : Value} {z : α} {C : α → Prop} (K : KeyOk P kt ke) (hT : P.underlying T = some (.map kt et)) (hz : ∀ w, (zeroValue et).run P w = .ok zv w) (hzr : ∃ cs, El.rep I cs z ∧ ofC ag cs zv)
    (hA : Del m (OwnMap ke El ag b kvs) m') (hx : ev E x = some (.map (some b))) (hy : ev E y = some (ke k)) (hd : lkP kvs k z C) (hb : Nat.blt d n = true) (hf : fresh E d = true)
    (k' : ∀ v r cs, C r → El.rep I cs r → ofC ag cs v → Ops P ops l n ((d, v) :: E) (Sym w0 M I0 I m) Q) : Ops P ops (⟨some d, .lookup T x y false, ty, pos, af, none⟩ :: l) n E (Sym w0 M I0 I m) Q :=
  Ops.valx (fun v w' => (∃ cs, El.rep I cs ((mget k kvs).getD z) ∧ ofC ag cs v) ∧ Sym w0 M I0 I m w') rfl rfl
    (fun c w ho hs => by
      obtain ⟨v, cs, g1, g2, g3⟩ := run_lookup_own (k := k) K hT hz hzr (hs.del hA) false
      refine ⟨v, w, ?_, ⟨cs, g1, g2⟩, hs⟩
      simp [execOp, ho.eval hx, ho.eval hy, g3]) hb hf
    (fun v c w ho ⟨⟨cs, g1, g2⟩, hs⟩ => k' v _ cs hd g1 g2 c w ho hs)
theorem Ops.lookM2 {zv : Value} {z : α} {C : α → Bool → Prop} (K : KeyOk P kt ke) (hT : P.underlying T = some (.map kt et)) (hz : ∀ w, (zeroValue et).run P w = .ok zv w) (hzr : ∃ cs, El.rep I cs z ∧ ofC ag cs zv)
    (hA : Del m (OwnMap ke El ag b kvs) m') (hx : ev E x = some (.map (some b))) (hy : ev E y = some (ke k)) (hd : lk2P kvs k z C) (hb : Nat.blt d n = true) (hf : fresh E d = true)
    (k' : ∀ v r t cs, C r t → El.rep I cs r → ofC ag cs v → Ops P ops l n ((d, .tuple #[v, .bool t]) :: E) (Sym w0 M I0 I m) Q) : Ops P ops (⟨some d, .lookup T x y true, ty, pos, af, none⟩ :: l) n E (Sym w0 M I0 I m) Q :=
  Ops.valx (fun u w' => (∃ v cs, u = .tuple #[v, .bool (mget k kvs).isSome] ∧ El.rep I cs ((mget k kvs).getD z) ∧ ofC ag cs v) ∧ Sym w0 M I0 I m w') rfl rfl
    (fun c w ho hs => by
      obtain ⟨v, cs, g1, g2, g3⟩ := run_lookup_own (k := k) K hT hz hzr (hs.del hA) true
      refine ⟨_, w, ?_, ⟨v, cs, rfl, g1, g2⟩, hs⟩
      simp [execOp, ho.eval hx, ho.eval hy, g3]) hb hf
    (fun u c w ho ⟨⟨v, cs, hu, g1, g2⟩, hs⟩ => by subst hu; exact k' v _ _ cs hd g1 g2 c w ho hs)
theorem Ops.updM {v : α} {u : Value} (K : KeyOk P kt ke) (hT : P.underlying T = some (.map kt et)) (hA : At m (OwnMap ke El ag b kvs) m' (OwnMap ke El ag b (mput k v kvs))) (hx : ev E x = some (.map (some b))) (hy : ev E y = some (ke k)) (hv : ev E z = some u)
    (hr : ∃ cs, El.rep I cs v ∧ ofC ag cs u) (k' : Ops P ops l n E (Sym w0 M I0 I m') Q) : Ops P ops (⟨none, .mapUpdate T x y z, ty, pos, af, none⟩ :: l) n E (Sym w0 M I0 I m) Q :=
  Ops.act rfl rfl (fun c w ho hs => by
    obtain ⟨r, h2, h3⟩ := hA.del
    obtain ⟨es, clock, hE, hs1⟩ := OwnMap.opn (hs.del h2)
    have hp := hs1.pto
    have hfd := K.find k es.toList (kvs.map (·.1)) w hE.keys
    cases hf : findP k es.toList (kvs.map (·.1)) 0 with
    | none =>
      obtain ⟨_, g2, _⟩ := hE.none k hf
      obtain ⟨w', hr', hs'⟩ := OwnMap.set (P := P) (es' := es.push { key := ke k, val := u, born := clock }) (clock' := clock + 1) (kvs := mput k v kvs) (by rw [g2, Array.toList_push]; exact EntsR.push (ke := ke) (e := { key := ke k, val := u, born := clock }) rfl hr hE) hs1
      refine ⟨w', ?_, hs'.undel h3⟩
      simp only [execOp, ho.eval hx, ho.eval hy, ho.eval hv, Instr.mapUpdate, Sem.run_bind, run_underlying hT, Result.andThen_ok, MapKept.run_getObj_map hp, K.chk, hfd, hf, hr', Sem.run_pure]
    | some iv =>
      obtain ⟨i, u'⟩ := iv
      obtain ⟨i', hi, ⟨e0, q1, q2, q3⟩, _, g3, _⟩ := hE.some k hf
      have hi' : i' = i := by omega
      subst hi'
      have hkey : ((es[i']?.map (·.key)).getD (ke k)) = ke k := by
        rw [← Array.getElem?_toList, q1]; simp [q2]
      obtain ⟨w', hr', hs'⟩ := OwnMap.set (P := P) (es' := es.modify i' fun e => { e with key := ke k, val := u }) (clock' := clock) (kvs := mput k v kvs) (by rw [Array.toList_modify]; exact g3 _ _ (fun _ _ => rfl) (fun _ => hr)) hs1
      refine ⟨w', ?_, hs'.undel h3⟩
      simp only [execOp, ho.eval hx, ho.eval hy, ho.eval hv, Instr.mapUpdate, Sem.run_bind, run_underlying hT, Result.andThen_ok, MapKept.run_getObj_map hp, K.chk, hfd, hf, hkey, Instr.keyThatStays, K.same, if_true, hr', Sem.run_pure]) k'
theorem Ops.delM {tys : Array TypeId} (K : KeyOk P kt ke) (hT : P.underlying T = some (.map kt et)) (htys : tys[0]? = some T) (hA : At m (OwnMap ke El ag b kvs) m' (OwnMap ke El ag b (mdel k kvs))) (hx : ev E x = some (.map (some b))) (hy : ev E y = some (ke k))
    (k' : Ops P ops l n E (Sym w0 M I0 I m') Q) : Ops P ops (⟨none, .call ⟨.builtin .delete, #[x, y], tys⟩, ty, pos, af, none⟩ :: l) n E (Sym w0 M I0 I m) Q :=
  Ops.val0 rfl rfl (fun c w ho hs => by
    obtain ⟨r, h2, h3⟩ := hA.del
    obtain ⟨es, clock, hE, hs1⟩ := OwnMap.opn (hs.del h2)
    have hp := hs1.pto
    have hfd := K.find k es.toList (kvs.map (·.1)) w hE.keys
    have e0 : (#[x, y].map c.eval) = #[.map (some b), ke k] := by simp [ho.eval hx, ho.eval hy]
    cases hf : findP k es.toList (kvs.map (·.1)) 0 with
    | none =>
      obtain ⟨_, _, g3⟩ := hE.none k hf
      obtain ⟨w', hr', hs'⟩ := OwnMap.set (P := P) (es' := es) (clock' := clock) (kvs := mdel k kvs) (by rw [g3]; exact hE) hs1
      refine ⟨.tuple #[], w', ?_, hs'.undel h3⟩
      simp [execOp, resolve, e0, invoke, builtin, Builtin.delete_, htys, run_underlying hT, MapKept.run_getObj_map hp, K.chk, hfd, hf, hr']
    | some iv =>
      obtain ⟨i, u'⟩ := iv
      obtain ⟨i', hi, _, _, _, g4⟩ := hE.some k hf
      have hi' : i' = i := by omega
      subst hi'
      obtain ⟨w', hr', hs'⟩ := OwnMap.set (P := P) (es' := es.eraseIdxIfInBounds i') (clock' := clock) (kvs := mdel k kvs) (by
        have e1 : (es.eraseIdxIfInBounds i').toList = es.toList.eraseIdx i' := by
          unfold Array.eraseIdxIfInBounds
          split
          · simp
          · rw [List.eraseIdx_of_length_le (by simp; omega)]
        rw [e1]; exact g4) hs1
      refine ⟨.tuple #[], w', ?_, hs'.undel h3⟩
      simp [execOp, resolve, e0, invoke, builtin, Builtin.delete_, htys, run_underlying hT, MapKept.run_getObj_map hp, K.chk, hfd, hf, hr']) k'
theorem Ops.lenM {tys : Array TypeId} (hT : P.underlying T = some (.map kt et)) (htys : tys[0]? = some T) (hA : Del m (OwnMap ke El ag b kvs) m') (hx : ev E x = some (.map (some b))) (hb : Nat.blt d n = true) (hf : fresh E d = true)
    (k' : Ops P ops l n ((d, .int .i64 (kvs.length : Int)) :: E) (Sym w0 M I0 I m) Q) : Ops P ops (⟨some d, .call ⟨.builtin .len, #[x], tys⟩, ty, pos, af, none⟩ :: l) n E (Sym w0 M I0 I m) Q :=
  Ops.val rfl rfl (fun c w ho hs => by
    obtain ⟨es, clock, hE, hs1⟩ := OwnMap.opn (hs.del hA)
    have e1 : es.size = kvs.length := by have := hE.length; simpa using this
    simp [execOp, resolve, invoke, builtin, Builtin.len_, ho.eval hx, htys, run_underlying hT, MapKept.run_getObj_map hs1.pto, goInt, e1]) hb hf k'
end
theorem RepSl.ofNone {α : Type} {El : Elem α} {cap : Nat} {xs : List α} {a : Option Addr} (h : RepSl El I a cap xs) (hb : a.isNone = true) : xs = [] := by
  cases xs with
  | nil => rfl
  | cons x r => obtain ⟨b, off, cs, h1, _⟩ := h.2 0 x rfl; subst h1; cases hb
/-! ### A panic that is not come to; a slice that may be nil -/
def nilP {α : Type} (xs : List α) (A B : Prop) : Prop := (xs = [] → A) ∧ B
theorem eq_slice_nil' (w : World) (d : Nat) (t e : TypeId) (a : Option Addr) (l c : Nat) (h : P.underlying t = some (.slice e)) : (Op.equalIn (d + 1) t (.slice a l c) (.slice none 0 0)).run P w = .ok a.isNone w := by
  cases a <;> simp [Op.equalIn, run_underlying h]
theorem eq_slice_nil (w : World) (t e : TypeId) (a : Option Addr) (l c : Nat) (h : P.underlying t = some (.slice e)) : (Op.equal t (.slice a l c) (.slice none 0 0)).run P w = .ok a.isNone w := eq_slice_nil' w 9999 t e a l c h
theorem Ops.eqNilS {S : World → Prop} {T' : TypeId} {a : Option Addr} {k cap : Nat} (hT : P.underlying T = some (.slice e)) (hx : ev E x = some (.slice a k cap)) (hy : ev E y = some (.slice none 0 0)) (hb : Nat.blt d n = true) (hf : fresh E d = true)
    (k' : Ops P ops l n ((d, .bool a.isNone) :: E) S Q) : Ops P ops (⟨some d, .binOp .eql T x y T', ty, pos, af, none⟩ :: l) n E S Q :=
  Ops.val rfl rfl (fun c w ho _ => by
    have hg : (eqGuard .eql T x y (.slice a k cap) (.slice none 0 0)).run P w = .ok () w := by unfold eqGuard; rfl
    simp only [execOp, ho.eval hx, ho.eval hy, Sem.run_bind, hg, Result.andThen_ok, binOp]
    simp [eq_slice_nil w T e a k cap hT]) hb hf k'
theorem Ops.neNilS {S : World → Prop} {T' : TypeId} {a : Option Addr} {k cap : Nat} (hT : P.underlying T = some (.slice e)) (hx : ev E x = some (.slice a k cap)) (hy : ev E y = some (.slice none 0 0)) (hb : Nat.blt d n = true) (hf : fresh E d = true)
    (k' : Ops P ops l n ((d, .bool !a.isNone) :: E) S Q) : Ops P ops (⟨some d, .binOp .neq T x y T', ty, pos, af, none⟩ :: l) n E S Q :=
  Ops.val rfl rfl (fun c w ho _ => by
    have hg : (eqGuard .neq T x y (.slice a k cap) (.slice none 0 0)).run P w = .ok () w := by unfold eqGuard; rfl
    simp only [execOp, ho.eval hx, ho.eval hy, Sem.run_bind, hg, Result.andThen_ok, binOp]
    simp [eq_slice_nil w T e a k cap hT]) hb hf k'
end Go.Fw
