import Derived.Test.YtggmiaebkplnlaaGreatPlnG
/- Whether all vertices are taken together, or part by part. -/
namespace Go.Proofs.YtggmiaebkplnlaaGreat
open Go Go.Fw
set_option linter.unusedVariables false
set_option linter.unusedSimpArgs false
abbrev GV := Nat → Int × Int × Bool
/-- The state of some vertices, of what each of all has. -/
def segV (l n : Nat) (G : GV) : State := chS (l : Int) ((l + n : Nat) : Int) n fun i => G (l + i)
theorem seg_StP {p : Plan} {l n : Nat} {G : GV} (hp : rightPl p = 0) (h : ((l + n : Nat) : Int) ≤ p.N) : StP p (segV l n G) ∧ okSt (segV l n G) ∧ lenSt (segV l n G) := by
  have h1 := chS_StP (p := p) (low := (l : Int)) (high := ((l + n : Nat) : Int)) (g := fun i => G (l + i)) hp (by omega) (by omega) h
  rw [show (((l + n : Nat) : Int) - (l : Int)).toNat = n by omega] at h1
  have h2 := chS_ok (l : Int) ((l + n : Nat) : Int) n fun i => G (l + i)
  exact ⟨h1, h2, lenSt_of h1 h2⟩
def gV0 (p : Plan) : GV := fun v => ((firstS p v).1, -1, (firstS p v).2)
theorem begin_seg {p : Plan} {l n : Nat} {a b : Int} (hp : rightPl p = 0) (ha : a = l) (hb : b = ((l + n : Nat) : Int)) (h : b ≤ p.N) : beginS p a b = segV l n (gV0 p) := by
  subst ha hb
  unfold beginS segV
  rw [if_pos ⟨hp, by omega, by omega, h⟩, show (((l + n : Nat) : Int) - (l : Int)).toNat = n by omega]
  refine congrArg _ (funext fun i => ?_)
  unfold gV0
  rw [show ((l + i : Nat) : Int) = (l : Int) + i by omega]
def behG (p : Plan) (round : Int) (v : Nat) (g : Int × Int × Bool) (o : Option Int) : Int × Int × Bool :=
  if p.Kind = 1 then (if (getO o).2 = true ∧ g.1 = -1 then (round, (getO o).1, true) else (g.1, g.2.1, false))
  else if p.Kind = 2 ∨ p.Kind = 3 then (if (getO o).2 = true ∧ (getO o).1 < g.1 then ((getO o).1, g.2.1, true) else (g.1, g.2.1, false))
  else if p.Kind = 4 then ((getO o).1, g.2.1, (getO o).1 != 0)
  else if g.1 ≠ 0 then (g.1, g.2.1, false)
  else if round % 2 = 0 then (if (getO o).2 = true then (2, g.2.1, false) else (g.1, g.2.1, false))
  else if (getO o).2 = false ∨ dnum p round v < (getO o).1 then (1, g.2.1, true) else (g.1, g.2.1, false)
theorem beh_seg {p : Plan} {l n i : Nat} {G : GV} {round : Int} {o : Option Int} (hi : i < n) : behS p (segV l n G) round i o = behG p round (l + i) (G (l + i)) o := by
  have e1 : at0 (segV l n G).A i = (G (l + i)).1 := mapN_at hi
  have e2 : at0 (segV l n G).B i = (G (l + i)).2.1 := mapN_at hi
  have e3 : (segV l n G).Low + (i : Int) = ((l + i : Nat) : Int) := by show (l : Int) + i = _; omega
  unfold behS behG
  simp only [e1, e2, e3]
def nextG (p : Plan) (round : Int) (G : GV) (Y : Nat → Option Int) : GV := fun v => behG p round v (G v) (Y v)
theorem chS_congr {low high : Int} {n : Nat} {g g' : Nat → Int × Int × Bool} (h : ∀ i, i < n → g i = g' i) : chS low high n g = chS low high n g' := by
  unfold chS
  rw [mapN_congr fun i hi => congrArg (·.1) (h i hi), mapN_congr fun i hi => congrArg (·.2.1) (h i hi), onsN_congr fun i hi => congrArg (·.2.2) (h i hi)]
theorem upd_seg {p : Plan} {l n : Nat} {G : GV} {round : Int} {y : Vec} {Y : Nat → Option Int} (hp : rightPl p = 0) (h : ((l + n : Nat) : Int) ≤ p.N) (hy : VecP y) (hn : y.N = n) (hY : ∀ i, i < n → lkI y.Items i = Y (l + i)) :
    updS p (segV l n G) round y = segV l n (nextG p round G Y) := by
  have hs : sureSt p (segV l n G) = segV l n G := if_pos (seg_StP hp h).1
  have e : (segV l n G).High - (segV l n G).Low = (n : Int) := by show ((l + n : Nat) : Int) - (l : Int) = n; omega
  have e2 : sizN (segV l n G) = n := by unfold sizN; rw [e]; omega
  unfold updS
  rw [hs, if_pos ⟨hy, by rw [hn, e]⟩, e2]
  have hg : ∀ i, i < n → newS p (segV l n G) round y i = nextG p round G Y (l + i) := fun i hi => by
    unfold newS nextG
    rw [beh_seg hi, hY i hi]
  show chS (l : Int) ((l + n : Nat) : Int) n _ = chS (l : Int) ((l + n : Nat) : Int) n _
  exact chS_congr hg
theorem onsN_mem {n i : Nat} {f : Nat → Bool} : (i : Int) ∈ onsN n f ↔ i < n ∧ f i = true := by
  unfold onsN
  simp only [List.mem_map, List.mem_filter, List.mem_range]
  constructor
  · rintro ⟨j, ⟨h1, h2⟩, h3⟩
    have : j = i := by omega
    subst this; exact ⟨h1, h2⟩
  · rintro ⟨h1, h2⟩; exact ⟨i, ⟨h1, h2⟩, rfl⟩
theorem of_ons {n i : Nat} {f : Nat → Bool} (hi : i < n) (hn : n ≤ 4096) : hasF (ofF n (onsN n f)) i = f i := by
  rw [(ofF_prop _ _).2.2]
  cases hb : f i with
  | true => exact decide_eq_true ⟨onsN_mem.2 ⟨hi, hb⟩, by omega, by omega, by omega⟩
  | false => exact decide_eq_false fun h => by have := (onsN_mem.1 h.1).2; rw [hb] at this; cases this
def tellG (p : Plan) (round : Int) (v : Nat) (g : Int × Int × Bool) : Int × Bool :=
  if p.Kind = 1 then ((v : Int), g.2.2) else if p.Kind = 5 then (if round % 2 = 0 then (1, g.2.2) else (dnum p round v, g.1 == 0)) else (g.1, g.2.2)
theorem outI_congr {n : Nat} {f g : Nat → Int × Bool} (h : ∀ i, i < n → f i = g i) : outI n f = outI n g := by
  induction n with
  | zero => rfl
  | succ n ih => rw [outI_succ, outI_succ, ih fun i hi => h i (by omega), h n (by omega)]
theorem out_seg {p : Plan} {l n : Nat} {G : GV} {round : Int} (hp : rightPl p = 0) (h : ((l + n : Nat) : Int) ≤ p.N) : outVS p (segV l n G) round = ⟨n, outI n fun i => tellG p round (l + i) (G (l + i))⟩ := by
  have hs : sureSt p (segV l n G) = segV l n G := if_pos (seg_StP hp h).1
  have hn := (rightPl_zero hp).2.1
  have e : (segV l n G).High - (segV l n G).Low = (n : Int) := by show ((l + n : Nat) : Int) - (l : Int) = n; omega
  have e2 : sizN (segV l n G) = n := by unfold sizN; rw [e]; omega
  unfold outVS
  rw [hs, e, e2]
  congr 1
  refine outI_congr fun i hi => ?_
  have e1 : at0 (segV l n G).A i = (G (l + i)).1 := mapN_at hi
  have e3 : (segV l n G).Low + (i : Int) = ((l + i : Nat) : Int) := by show (l : Int) + i = _; omega
  have e4 : hasF (segV l n G).On i = (G (l + i)).2.2 := of_ons hi (by omega)
  unfold tellsS tellG
  rw [e1, e3, e4]
theorem live_seg {p : Plan} {l n : Nat} {G : GV} {round : Int} (hp : rightPl p = 0) (h : ((l + n : Nat) : Int) ≤ p.N) :
    liveS p (segV l n G) round = if p.Kind = 4 ∧ p.Length ≤ round then 0 else ((cntN n fun i => if p.Kind = 5 then (G (l + i)).1 == 0 else (G (l + i)).2.2 : Nat) : Int) := by
  have hs : sureSt p (segV l n G) = segV l n G := if_pos (seg_StP hp h).1
  have hn := (rightPl_zero hp).2.1
  have e : (segV l n G).High - (segV l n G).Low = (n : Int) := by show ((l + n : Nat) : Int) - (l : Int) = n; omega
  have e2 : sizN (segV l n G) = n := by unfold sizN; rw [e]; omega
  unfold liveS liveN
  rw [hs, e2]
  have : cntN n (goesS p (segV l n G)) = cntN n fun i => if p.Kind = 5 then (G (l + i)).1 == 0 else (G (l + i)).2.2 := cntN_congr fun i hi => by
    have e1 : at0 (segV l n G).A i = (G (l + i)).1 := mapN_at hi
    have e4 : hasF (segV l n G).On i = (G (l + i)).2.2 := of_ons hi (by omega)
    unfold goesS
    rw [e1, e4]
  rw [this]
/-! ### One behind the other -/
theorem mapN_add {β : Type} (a b : Nat) (f : Nat → β) : mapN (a + b) f = mapN a f ++ mapN b fun j => f (a + j) := by
  induction b with
  | zero => simp [mapN]
  | succ b ih => rw [← Nat.add_assoc, mapN_succ, ih, mapN_succ, List.append_assoc]
theorem onsN_add (a b : Nat) (f : Nat → Bool) : onsN (a + b) f = onsN a f ++ (onsN b fun j => f (a + j)).map fun x : Int => x + (a : Int) := by
  induction b with
  | zero => simp [onsN]
  | succ b ih =>
    rw [← Nat.add_assoc, onsN_succ, ih, onsN_succ]
    split
    · rw [List.map_append, List.append_assoc]
      simp
      omega
    · rfl
theorem outI_add (a b : Nat) (f : Nat → Int × Bool) : outI (a + b) f = outI a f ++ (outI b fun j => f (a + j)).map fun x => (⟨a + x.At, x.Val⟩ : Item) := by
  induction b with
  | zero => simp [outI]
  | succ b ih =>
    rw [← Nat.add_assoc, outI_succ, ih, outI_succ]
    split
    · rw [List.map_append, List.append_assoc]
      simp
    · rfl
theorem onsN_incr (n : Nat) (f : Nat → Bool) : (onsN n f).Pairwise (· < ·) := by
  induction n with
  | zero => simp [onsN]
  | succ n ih =>
    rw [onsN_succ]
    split
    · rw [List.pairwise_append]
      refine ⟨ih, by simp, fun x hx y hy => ?_⟩
      simp only [List.mem_singleton] at hy
      have := onsN_in hx
      omega
    · exact ih
theorem outI_in {n : Nat} {f : Nat → Int × Bool} {x : Item} (h : x ∈ outI n f) : 0 ≤ x.At ∧ x.At < n := by
  unfold outI at h
  obtain ⟨i, hi, he⟩ := List.mem_filterMap.1 h
  have := List.mem_range.1 hi
  split at he
  · cases he; simp only; omega
  · cases he
theorem outI_inc (n : Nat) (f : Nat → Int × Bool) : IncI (outI n f) := by
  induction n with
  | zero => exact List.Pairwise.nil
  | succ n ih =>
    rw [outI_succ]
    split
    · unfold IncI
      rw [List.pairwise_append]
      refine ⟨ih, by simp, fun x hx y hy => ?_⟩
      simp only [List.mem_singleton] at hy
      subst hy
      exact (outI_in hx).2
    · exact ih
theorem out_vecP {n : Nat} (hn : n ≤ 4096) (f : Nat → Int × Bool) : VecP ⟨n, outI n f⟩ := ⟨by simp only; omega, by simp only; omega, outI_inc n f, fun x hx => outI_in hx⟩
theorem list_ons {n : Nat} (hn : n ≤ 4096) (f : Nat → Bool) : listF (ofF n (onsN n f)) = onsN n f := ofF_list (by omega) (onsN_incr n f) fun i hi => onsN_in hi
theorem app_loop {α β : Type} {xs : List α} {ys : List β} {f : α → β} {body : List β × Int → (List β × Int → Prop) → Prop} (hl : xs.length ≤ 1000000000)
    (hs : ∀ (i : Nat) (s : List β) (next : List β × Int → Prop) (hi : i < xs.length), s.length = ys.length + i → next (s ++ [f xs[i]], w64 ((i : Int) + 1)) → body (s, (i : Int)) next)
    (he : ∀ (next : List β × Int → Prop), body (ys ++ xs.map f, (xs.length : Int)) next) : loopP body (ys, 0) := by
  refine range_intro (fun (s : List β) i => (s, i)) 0 xs.length (by omega) (fun k s => s = ys ++ (xs.take k).map f) (by omega) (by simp) (fun k s next _ hk hs' hn => ?_) (fun s next hs' => ?_)
  · refine hs k s next hk (by subst hs'; simp; omega) (hn _ ?_)
    subst hs'
    rw [List.take_succ_eq_append_getElem hk, List.map_append, List.append_assoc]; rfl
  · rw [List.take_length] at hs'
    subst hs'
    exact he next
theorem ref_VGlue_ok {k m : Nat} {T : Nat → Int × Bool} {Q : Vec × Int → Prop} (h : k + m ≤ 1000) (hQ : Q (⟨((k + m : Nat) : Int), outI (k + m) T⟩, 0)) :
    ref09_Glue [(⟨(k : Int), outI k T⟩ : Vec), ⟨(m : Int), outI m fun j => T (k + j)⟩] Q := by
  unfold ref09_Glue
  have hl1 := outI_len k T
  have hl2 := outI_len m fun j => T (k + j)
  have stp : ∀ (a b : Nat) (S : List Item) (g : Nat → Int × Bool) (nx : Int × List Item × Int → Prop) (i : Int), a + b ≤ 1000 → S.length ≤ a → nx (((a + b : Nat) : Int), S ++ (outI b g).map (fun x => (⟨a + x.At, x.Val⟩ : Item)), i) →
      loopP (fun (s : (List Item) × Int) (next808 : ((List Item) × Int) → Prop) => match s with | (s803, s807) => ifP (decide (s807 < ((outI b g).length : Int))) (idxP (outI b g) s807 fun x817 => idxP (outI b g) s807 fun x826 => appP 16 s803 ([({ At := w64 ((a : Int) + x817.At), Val := x826.Val } : Item)]) fun _ => next808 ((s803 ++ ([({ At := w64 ((a : Int) + x817.At), Val := x826.Val } : Item)])), w64 (s807 + 1))) (ifP (decide (4096 < (w64 ((a : Int) + (b : Int))))) (Q (({ N := 0, Items := ([] : List Item) } : Vec), 5)) (nx (w64 ((a : Int) + (b : Int)), s803, i)))) (S, 0) := by
    intro a b S g nx i hab hS hnx
    have hlb := outI_len b g
    refine app_loop (xs := outI b g) (f := fun x : Item => (⟨a + x.At, x.Val⟩ : Item)) (by omega) (fun j s next hj hs hn => ?_) (fun next => ?_)
    · have hin := outI_in (List.getElem_mem hj)
      refine ifP_dec (fun _ => idxP_nat hj (idxP_nat hj (appP_intro (by simp; omega) ?_))) (fun h => by omega)
      rw [w64_id (x := (a : Int) + ((outI b g)[j]).At) (by omega) (by omega)]
      exact hn
    · refine ifP_dec (fun h => by omega) (fun _ => ?_)
      rw [w64_id (x := (a : Int) + (b : Int)) (by omega) (by omega)]
      refine ifP_dec (fun h => by omega) (fun _ => ?_)
      rw [show (a : Int) + (b : Int) = ((a + b : Nat) : Int) by omega]
      exact hnx
  refine range_intro (fun (s : Int × List Item) i => (s.1, s.2, i)) 0 2 (by omega) (fun i s => s = if i = 0 then (0, []) else if i = 1 then ((k : Int), outI k T) else (((k + m : Nat) : Int), outI (k + m) T)) (by omega) rfl (fun i s next _ hi hm hn => ?_) (fun s next hm => ?_) (s0 := (0, []))
  · match i, hi, hm, hn with
    | 0, _, hm, hn =>
      subst hm
      refine ifP_dec (fun _ => idxP_intro (by omega) rfl (ref09_Sure_ok (by simp only; omega) ?_)) (fun h => by simp at h)
      rw [sureV_id (out_vecP (by omega) T)]
      refine stp 0 k [] T next _ (by omega) (by simp) ?_
      have := hn (((0 + k : Nat) : Int), [] ++ (outI k T).map fun x => (⟨((0 : Nat) : Int) + x.At, x.Val⟩ : Item)) (by simp)
      exact this
    | 1, _, hm, hn =>
      subst hm
      refine ifP_dec (fun _ => idxP_intro (by omega) rfl (ref09_Sure_ok (by simp only; omega) ?_)) (fun h => by simp at h)
      rw [sureV_id (out_vecP (by omega) _)]
      refine stp k m (outI k T) (fun j => T (k + j)) next _ (by omega) hl1 ?_
      exact hn (_, _) (by simp [outI_add])
  · subst hm
    exact ifP_dec (fun h => by simp at h) (fun _ => hQ)
theorem ref_Glue_ok {k m : Nat} {G : GV} {Q : State → Prop} (h : k + m ≤ 1000) (hQ : Q (segV 0 (k + m) G)) : ref21_Glue [segV 0 k G, segV k m G] Q := by
  unfold ref21_Glue
  have hk1 := onsN_len k fun i => (G i).2.2
  have hm1 := onsN_len m fun i => (G (k + i)).2.2
  refine range_intro (fun (s : Int × Int × List Int × List Int × List Int) i => (s.1, s.2.1, s.2.2.1, s.2.2.2.1, s.2.2.2.2, i)) 0 2 (by omega)
    (fun i s => s = if i = 0 then (0, 0, [], [], []) else if i = 1 then (0, (k : Int), mapN k (fun i => (G i).1), mapN k (fun i => (G i).2.1), onsN k fun i => (G i).2.2) else (0, ((k + m : Nat) : Int), mapN (k + m) (fun i => (G i).1), mapN (k + m) (fun i => (G i).2.1), onsN (k + m) fun i => (G i).2.2)) (by omega) rfl (fun i s next _ hi hm hn => ?_) (fun s next hm => ?_) (s0 := (0, 0, [], [], []))
  · have facts : ∀ (l n : Nat), n ≤ 1000 → (segV l n G).Low = l ∧ (segV l n G).High = ((l + n : Nat) : Int) ∧ (segV l n G).A = mapN n (fun i => (G (l + i)).1) ∧ (segV l n G).B = mapN n (fun i => (G (l + i)).2.1) ∧ okF (segV l n G).On ∧ (segV l n G).On.length ≤ 1000000 ∧ listF (segV l n G).On = onsN n fun i => (G (l + i)).2.2 := fun l n hn =>
      ⟨rfl, rfl, rfl, rfl, (ofF_prop _ _).1, (by show (ofF _ _).length ≤ _; rw [(ofF_prop _ _).2.1]; have := words_le (n : Int); omega), list_ons (by omega) _⟩
    obtain ⟨a1, a2, a3, a4, a5, a6, a7⟩ := facts 0 k (by omega)
    obtain ⟨b1, b2, b3, b4, b5, b6, b7⟩ := facts k m (by omega)
    simp only [Nat.zero_add] at a1 a2 a3 a4 a7
    generalize segV 0 k G = SA at *
    generalize segV k m G = SB at *
    match i, hi, hm, hn with
    | 0, _, hm, hn =>
      obtain rfl : s = (0, 0, [], [], []) := by simpa using hm
      have hx : ∀ {K' : State → Prop}, K' SA → idxP [SA, SB] ((0 : Nat) : Int) K' := fun hK => idxP_intro (by omega) rfl hK
      have hx0 : ∀ {K' : State → Prop}, K' SA → idxP [SA, SB] 0 K' := fun hK => idxP_intro (by omega) rfl hK
      unfold joinP
      refine ifP_dec (fun _ => ifP_pos rfl (hx0 (hx (hx ?_)))) (fun h => by simp at h)
      refine ref03_List_ok a5 a6 ?_
      rw [a7, a1]
      refine app_loop (xs := onsN k fun i => (G i).2.2) (ys := ([] : List Int)) (f := fun x : Int => x + ((0 : Nat) : Int)) (by omega) (fun j s nx hj hs hnx => ?_) (fun nx => ifP_dec (fun h => by omega) (fun _ => ?_))
      · have hin := onsN_in (List.getElem_mem hj)
        refine ifP_dec (fun _ => idxP_nat hj (hx ?_)) (fun h => by omega)
        rw [a1]
        have e : w64 (w64 ((onsN k fun i => (G i).2.2)[j] + (((0 : Nat) : Int))) - 0) = (onsN k fun i => (G i).2.2)[j] + (((0 : Nat) : Int)) := by rw [w64_id (x := (onsN k fun i => (G i).2.2)[j] + (((0 : Nat) : Int))) (by omega) (by omega), Int.sub_zero, w64_id (by omega) (by omega)]
        rw [← e] at hnx
        exact appP_intro (by simp at hs ⊢; omega) hnx
      refine hx (appP_intro (by rw [a3]; simp [mapN_len]; omega) (hx (appP_intro (by rw [a4]; simp [mapN_len]; omega) ?_)))
      rw [a2, a3, a4]
      refine hn (_, _, _, _, _) ?_
      simp
    | 1, _, hm, hn =>
      obtain rfl : s = (0, (k : Int), mapN k (fun i => (G i).1), mapN k (fun i => (G i).2.1), onsN k fun i => (G i).2.2) := by simpa using hm
      have hx : ∀ {K' : State → Prop}, K' SB → idxP [SA, SB] ((1 : Nat) : Int) K' := fun hK => idxP_intro (by omega) rfl hK
      unfold joinP
      refine ifP_dec (fun _ => ifP_neg rfl (hx (hx ?_))) (fun h => by simp at h)
      refine ref03_List_ok b5 b6 ?_
      rw [b7]
      refine app_loop (xs := onsN m fun i => (G (k + i)).2.2) (ys := onsN k fun i => (G i).2.2) (f := fun x : Int => x + (k : Int)) (by omega) (fun j s nx hj hs hnx => ?_) (fun nx => ifP_dec (fun h => by omega) (fun _ => ?_))
      · have hin := onsN_in (List.getElem_mem hj)
        refine ifP_dec (fun _ => idxP_nat hj (hx ?_)) (fun h => by omega)
        rw [b1]
        have e : w64 (w64 ((onsN m fun i => (G (k + i)).2.2)[j] + ((k : Int))) - 0) = (onsN m fun i => (G (k + i)).2.2)[j] + ((k : Int)) := by rw [w64_id (x := (onsN m fun i => (G (k + i)).2.2)[j] + ((k : Int))) (by omega) (by omega), Int.sub_zero, w64_id (by omega) (by omega)]
        rw [← e] at hnx
        exact appP_intro (by simp at hs ⊢; omega) hnx
      refine hx (appP_intro (by rw [b3]; simp [mapN_len]; omega) (hx (appP_intro (by rw [b4]; simp [mapN_len]; omega) ?_)))
      rw [b2, b3, b4]
      exact hn (0, ((k + m : Nat) : Int), (mapN k fun i => (G i).1) ++ (mapN m fun i => (G (k + i)).1), (mapN k fun i => (G i).2.1) ++ (mapN m fun i => (G (k + i)).2.1), (onsN k fun i => (G i).2.2) ++ (onsN m fun i => (G (k + i)).2.2).map fun x => x + (k : Int)) (by simp [mapN_add, onsN_add])
  · subst hm
    refine ifP_dec (fun h => by simp at h) (fun _ => ?_)
    have hl := onsN_len (k + m) fun i => (G i).2.2
    have e : w64 (((k + m : Nat) : Int) - 0) = ((k + m : Nat) : Int) := by rw [w64_id (by omega) (by omega)]; omega
    have e2 : segV 0 (k + m) G = ⟨0, ((k + m : Nat) : Int), mapN (k + m) (fun i => (G i).1), mapN (k + m) (fun i => (G i).2.1), ofF ((k + m : Nat) : Int) (onsN (k + m) fun i => (G i).2.2)⟩ := by unfold segV chS; simp
    rw [e2] at hQ
    show ref03_Of (w64 (((k + m : Nat) : Int) - 0)) (onsN (k + m) fun i => (G i).2.2) _
    rw [e]
    exact ref03_Of_ok (by omega) (fun x hx => by have := onsN_in hx; unfold inI; omega) hQ
theorem ProgParts_ok (a0 : Plan) (a1 : List Item × List Item) (a2 : Int × Int) (h1 : ((∀ x ∈ a1.1, okItem x) ∧ a1.1.length ≤ maxLen) ∧ ((∀ x ∈ a1.2, okItem x) ∧ a1.2.length ≤ maxLen)) (h2 : inR .u8 a2.1 ∧ inR .u8 a2.2) : law21_ProgParts a0 a1 a2 (fun r => r = true) := by
  unfold law21_ProgParts
  have hb := bounds_u8 h2.1
  have hb2 := bounds_u8 h2.2
  have e : (w64 a2.1).tmod 60 = a2.1 % 60 := by rw [w64_id (by omega) (by omega), Int.tmod_eq_emod_of_nonneg (by omega)]
  rw [e]
  refine plan_ok (by omega) fun p hp hN => ?_
  rw [w64_id (x := p.N + 1) (by omega) (by omega)]
  refine Within_ok (fun h => by omega) (fun _ r h0 h3 => ?_)
  obtain ⟨k, rfl⟩ : ∃ k : Nat, r = (k : Int) := ⟨r.toNat, by omega⟩
  obtain ⟨m, hm⟩ : ∃ m : Nat, p.N = ((k + m : Nat) : Int) := ⟨(p.N - k).toNat, by omega⟩
  refine got_ok (by omega) h1.1.1 fun y hy hyn hyv => got_ok (by omega) h1.2.1 fun z hz hzn hzv => ?_
  have hyl := hy.len
  have hzl := hz.len
  have gA : ((0 + (k + m) : Nat) : Int) ≤ p.N := by omega
  have ga : ((0 + k : Nat) : Int) ≤ p.N := by omega
  have gb : ((k + m : Nat) : Int) ≤ p.N := by omega
  have bA : beginS p 0 p.N = segV 0 (k + m) (gV0 p) := begin_seg hp rfl (by omega) (by omega)
  have ba : beginS p 0 k = segV 0 k (gV0 p) := begin_seg hp rfl (by omega) (by omega)
  have bb : beginS p k p.N = segV k m (gV0 p) := begin_seg hp rfl (by omega) (by omega)
  have py := part_prop hy (a := 0) (b := k) (by omega) (by omega) (by omega)
  have py' := part_prop hy (a := k) (b := p.N) (by omega) (by omega) (by omega)
  have pz := part_prop hz (a := 0) (b := k) (by omega) (by omega) (by omega)
  have pz' := part_prop hz (a := k) (b := p.N) (by omega) (by omega) (by omega)
  have upA : ∀ (G : GV) (r : Int) (v : Vec), VecP v → v.N = p.N → updS p (segV 0 (k + m) G) r v = segV 0 (k + m) (nextG p r G fun i => lkI v.Items i) := fun G r v hv hvn => upd_seg hp gA hv (by omega) (fun i hi => by rw [Nat.zero_add])
  have upa : ∀ (G : GV) (r : Int) (v : Vec), VecP v → v.N = p.N → updS p (segV 0 k G) r (partV v 0 k) = segV 0 k (nextG p r G fun i => lkI v.Items i) := fun G r v hv hvn => by
    have q := part_prop hv (a := 0) (b := k) (by omega) (by omega) (by omega)
    exact upd_seg hp ga q.1 (by omega) (fun i hi => by rw [q.2.2.1 i (by omega) (by omega), Int.add_zero, Nat.zero_add])
  have upb : ∀ (G : GV) (r : Int) (v : Vec), VecP v → v.N = p.N → updS p (segV k m G) r (partV v k p.N) = segV k m (nextG p r G fun i => lkI v.Items i) := fun G r v hv hvn => by
    have q := part_prop hv (a := k) (b := p.N) (by omega) (by omega) (by omega)
    exact upd_seg hp gb q.1 (by omega) (fun i hi => by rw [q.2.2.1 i (by omega) (by omega), show (i : Int) + k = ((k + i : Nat) : Int) by omega])
  have okA : ∀ G, okSt (segV 0 (k + m) G) := fun G => (seg_StP hp gA).2.1
  have oka : ∀ G, okSt (segV 0 k G) := fun G => (seg_StP hp ga).2.1
  have okb : ∀ G, okSt (segV k m G) := fun G => (seg_StP hp gb).2.1
  refine prog_Begin_ok ?_
  rw [bA]
  refine prog_Update_ok (okA _) (by omega) (by omega) ?_
  rw [upA _ _ _ hy hyn]
  generalize hG1 : nextG p 1 (gV0 p) (fun i => lkI y.Items i) = G1
  refine prog_Begin_ok ?_
  rw [ba]
  refine ref09_Part_ok (by omega) ?_
  rw [sureV_id hy]
  refine prog_Update_ok (oka _) (by omega) (by have := py.1.len; omega) ?_
  rw [upa _ _ _ hy hyn, hG1]
  refine prog_Begin_ok ?_
  rw [bb]
  refine ref09_Part_ok (by omega) ?_
  rw [sureV_id hy]
  refine prog_Update_ok (okb _) (by omega) (by have := py'.1.len; omega) ?_
  rw [upb _ _ _ hy hyn, hG1]
  refine prog_Out_ok (oka _) (by omega) (prog_Out_ok (okb _) (by omega) ?_)
  rw [out_seg hp ga, out_seg hp gb]
  have oe : ∀ i, tellG p 2 (0 + i) (G1 (0 + i)) = tellG p 2 i (G1 i) := fun i => by rw [Nat.zero_add]
  simp only [oe]
  refine ref_VGlue_ok (T := fun i => tellG p 2 i (G1 i)) (by omega) ?_
  refine ref09_Part_ok (by omega) ?_
  rw [sureV_id hz]
  refine prog_Update_ok (oka _) (by omega) (by have := pz.1.len; omega) ?_
  rw [upa _ _ _ hz hzn]
  refine ref09_Part_ok (by omega) ?_
  rw [sureV_id hz]
  refine prog_Update_ok (okb _) (by omega) (by have := pz'.1.len; omega) ?_
  rw [upb _ _ _ hz hzn]
  refine live21_ok (ifP_pos rfl (ifP_pos rfl (ref_Glue_ok (by omega) (prog_Same_ok (seg_StP hp gA).2.2 (ifP_pos (by simp) ?_)))))
  refine prog_Out_ok (okA _) (by omega) ?_
  rw [out_seg hp gA]
  simp only [oe]
  have hol := outI_len (k + m) fun i => tellG p 2 i (G1 i)
  refine ref09_Same_ok (by simp only; omega) (ifP_pos rfl (ref_Glue_ok (by omega) (prog_Update_ok (okA _) (by omega) (by omega) ?_)))
  rw [upA _ _ _ hz hzn]
  refine prog_Same_ok (seg_StP hp gA).2.2 (ifP_pos (by simp) (prog_Live_ok (oka _) (prog_Live_ok (okb _) (prog_Live_ok (okA _) ?_))))
  rw [live_seg hp ga, live_seg hp gb, live_seg hp gA]
  simp only [Nat.zero_add]
  have c1 := cntN_le k fun i => if p.Kind = 5 then (G1 i).1 == 0 else (G1 i).2.2
  have c2 := cntN_le m fun i => if p.Kind = 5 then (G1 (k + i)).1 == 0 else (G1 (k + i)).2.2
  rw [cntN_add k m]
  split
  · rfl
  · rw [w64_id (by omega) (by omega)]; simp
end Go.Proofs.YtggmiaebkplnlaaGreat

