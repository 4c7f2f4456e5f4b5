/- Edges put together: the reference's rows. -/
import Derived.Test.YtdfiinkpdaggeaaGreatCsrB
namespace Go.Proofs.YtdfiinkpdaggeaaGreat
open Go Go.Fw
set_option linter.unusedVariables false
set_option linter.unusedSimpArgs false
theorem ins_old {r : Int} {k : Key} {v : Wide} : ∀ {l : List (Key × Wide)} {n : Nat} (hn : n < l.length), (∀ j (hj : j < n), ltK (l[j]'(by omega)).1 k) → l[n].1 = k → ins r k v l = l.set n (k, addW r l[n].2 v)
  | [], n, hn, _, _ => by simp at hn
  | p :: l, 0, hn, _, he => by
    have he : p.1 = k := he
    subst he
    simp [ins, ltK_irrefl]
  | p :: l, n + 1, hn, hl, he => by
    have h0 : ltK p.1 k := hl 0 (by omega)
    have := ins_old (r := r) (v := v) (l := l) (n := n) (by simpa using hn) (fun j hj => hl (j + 1) (by omega)) he
    simp [ins, h0, this]
theorem ins_new {r : Int} {k : Key} {v : Wide} : ∀ {l : List (Key × Wide)} {n : Nat} (hn : n ≤ l.length), (∀ j (hj : j < n), ltK (l[j]'(by omega)).1 k) → (∀ h : n < l.length, ¬ ltK l[n].1 k ∧ l[n].1 ≠ k) → ins r k v l = l.take n ++ (k, v) :: l.drop n
  | [], n, hn, _, _ => by simp [ins]
  | p :: l, 0, hn, _, he => by
    have := he (by simp)
    simp only [List.getElem_cons_zero] at this
    simp [ins, this.1, this.2]
  | p :: l, n + 1, hn, hl, he => by
    have h0 : ltK p.1 k := hl 0 (by omega)
    have := ins_new (r := r) (v := v) (l := l) (n := n) (by simpa using hn) (fun j hj => hl (j + 1) (by omega)) (fun h => he (by simpa using h))
    simp [ins, h0, this]
theorem below_ok {a b : Edge} {Q : Bool → Prop} (h : Q (decide (ltK (a.From, a.To) (b.From, b.To)))) : ref05_below a b Q := by
  unfold ref05_below
  refine ifP_dec (fun h1 => ?_) (fun h1 => ifP_eq (fun h2 => ?_) (fun h2 => ?_))
  · rwa [decide_eq_true (by unfold ltK; exact .inl h1)] at h
  · rwa [show decide (ltK (a.From, a.To) (b.From, b.To)) = decide (a.To < b.To) by apply decide_eq_decide.2; simp only [ltK]; omega] at h
  · rwa [decide_eq_false (by simp only [ltK]; omega)] at h
def e0 (p : Key × Wide) : Edge := mkE p.1 0
theorem ref_combine_ok {r : Int} {ts : List Edge} {Q : List Edge × Int → Prop} (hr : 1 ≤ r ∧ r ≤ 5) (hl : ts.length ≤ 1000000) (hv : ∀ t ∈ ts, inI t.W) (hQ : Q (finS (SC r (ts.map kvE)) mkE)) : ref05_Combine r ts Q := by
  unfold ref05_Combine
  refine ref02_Is_ok (ifP_neg (by simp [hr]) ?_)
  have hvk : ∀ (i : Nat) t, t ∈ (ts.take i).map kvE → inI t.2 := by
    intro i t ht
    obtain ⟨x, hx, rfl⟩ := List.mem_map.1 ht
    exact hv x (List.mem_of_mem_take hx)
  refine range_intro (fun (s : List Edge × List Wide) i => (s.1, s.2, i)) 0 ts.length (by omega) (fun i s => s.1 = (SC r ((ts.take i).map kvE)).map e0 ∧ s.2 = (SC r ((ts.take i).map kvE)).map (·.2)) (s0 := ([], [])) (by omega) ⟨rfl, rfl⟩ (fun i s next _ hi hm hn => ?_) (fun s next hm => ?_)
  · obtain ⟨es, ws⟩ := s
    obtain ⟨he, hw⟩ := hm
    simp only at he hw
    have hx : inI ts[i].W := hv _ (List.getElem_mem hi)
    have hpr := SC_prop r _ (hvk i)
    have hstep : SC r ((ts.take (i + 1)).map kvE) = ins r (ts[i].From, ts[i].To) (ofI ts[i].W) (SC r ((ts.take i).map kvE)) := by rw [take_map hi, SC_snoc]; rfl
    simp only [hstep] at hn
    generalize SC r ((ts.take i).map kvE) = l at he hw hpr hn
    subst he hw
    have hll : l.length ≤ 1000000 := by have := hpr.1; simp at this; omega
    refine ifP_dec (fun _ => ?_) (fun h => by omega)
    have hel : ∀ (j : Nat) (h : j < l.length), (l.map e0)[j]? = some (e0 l[j]) := fun j h => by simp [h]
    -- where it goes
    refine join_intro (fun a : Int => ∃ n : Nat, a = n ∧ n ≤ l.length ∧ (∀ (j : Nat) (hj : j < n) (hjl : j < l.length), ltK l[j].1 (ts[i].From, ts[i].To)) ∧ ∀ h : n < l.length, ¬ ltK l[n].1 (ts[i].From, ts[i].To)) ?_ fun k hk => ?_
    · rintro _ ⟨n, rfl, hnl, hlt, hge⟩
      have hlt' : ∀ j (hj : j < n), ltK (l[j]'(by omega)).1 (ts[i].From, ts[i].To) := fun j hj => hlt j hj (by omega)
      refine idxP_nat hi (ref01_Of_ok hx ?_)
      refine join_intro (fun b => b = decide (∃ h : n < l.length, l[n].1 = (ts[i].From, ts[i].To))) ?_ fun k hk => ?_
      · rintro _ rfl
        refine ifP_dec (fun hb => ?_) (fun hb => ?_)
        · obtain ⟨h, hb⟩ := hb
          refine idxP_intro (by omega) (x := l[n].2) (by simp [h]) (ref02_Add_ok (hpr.2 _ (List.getElem_mem h)) (ofI_okW hx) (idxP_intro (by omega) (x := l[n].2) (by simp [h]) (hn (l.map e0, (l.map (·.2)).set n (addW r l[n].2 (ofI ts[i].W))) ⟨?_, ?_⟩)))
          · rw [ins_old h hlt' hb, List.map_set]
            apply List.ext_getElem?
            intro j
            rw [List.getElem?_set]
            split
            · rename_i e; subst e; simp [h, e0, hb]
            · rfl
          · rw [ins_old h hlt' hb, List.map_set]
        · have hins := ins_new (r := r) (v := ofI ts[i].W) hnl hlt' (fun h => ⟨hge h, fun e => hb ⟨h, e⟩⟩)
          rw [hins] at hn
          refine appP_intro (by simp; omega) (appP_intro (by simp; omega) ?_)
          refine loop_intro (fun s : List Edge × List Wide × Int => ∃ j : Nat, s.2.2 = j ∧ n ≤ j ∧ j ≤ l.length ∧ s.1.length = l.length + 1 ∧ s.2.1.length = l.length + 1 ∧ (∀ q, q < j → s.1[q]? = (l.map e0)[q]? ∧ s.2.1[q]? = (l.map (·.2))[q]?) ∧ ∀ q, j ≤ q → q < l.length → s.1[q + 1]? = (l.map e0)[q]? ∧ s.2.1[q + 1]? = (l.map (·.2))[q]?)
            (fun s => s.2.2.toNat) ⟨l.length, ?_, hnl, Nat.le_refl _, by simp, by simp, fun q hq => ?_, fun q h1 h2 => by omega⟩ ?_
          · simp only; rw [w64_id (by simp <;> omega) (by simp <;> omega)]; simp
          · simp only; rw [List.getElem?_append_left (by simpa using hq), List.getElem?_append_left (by simpa using hq)]; exact ⟨rfl, rfl⟩
          rintro ⟨s1, s2, s3⟩ next ⟨j, hj, hnj, hjl, hl1, hl2, hlo, hhi⟩ hnx
          simp only at hj hl1 hl2 hlo hhi
          subst hj
          refine ifP_dec (fun h => ?_) (fun h => ?_)
          · obtain ⟨j, rfl⟩ : ∃ m, j = m + 1 := ⟨j - 1, by omega⟩
            have hjm : j < l.length := by omega
            have ej : w64 (((j + 1 : Nat) : Int) - 1) = (j : Int) := by rw [w64_id (by omega) (by omega)]; omega
            rw [ej]
            refine idxP_intro (by omega) (x := e0 l[j]) (by simp only [Int.toNat_natCast]; rw [(hlo j (by omega)).1, hel j hjm]) (idxP_nat (i := j + 1) (by omega) (idxP_intro (by omega) (x := l[j].2) (by simp only [Int.toNat_natCast]; rw [(hlo j (by omega)).2]; simp [hjm]) (idxP_nat (i := j + 1) (by omega) (hnx _ ⟨j, rfl, by omega, by omega, by simp [hl1], by simp [hl2], fun q hq => ?_, fun q h1 h2 => ?_⟩ ?_))))
            · simp only [Int.toNat_natCast]
              rw [List.getElem?_set_ne (by omega), List.getElem?_set_ne (by omega)]
              exact hlo q (by omega)
            · simp only [Int.toNat_natCast]
              rw [List.getElem?_set, List.getElem?_set]
              by_cases e : q = j
              · subst e; rw [if_pos rfl, if_pos (by omega), if_pos rfl, if_pos (by omega)]; simp [hjm]
              · rw [if_neg (by omega), if_neg (by omega)]; exact hhi q (by omega) h2
            · simp only; omega
          · have hjn : j = n := by omega
            subst hjn
            refine idxP_nat hi (idxP_nat hi (idxP_nat (by omega) (idxP_nat (by omega) (hn (s1.set j (mkE (ts[i].From, ts[i].To) 0), s2.set j (ofI ts[i].W)) ⟨?_, ?_⟩))))
            · simp only [Int.toNat_natCast, List.map_append, List.map_cons]
              have := shift_done (pre := (l.take j).map e0) (post := (l.drop j).map e0) (s := s1) (x := e0 ((ts[i].From, ts[i].To), ofI ts[i].W)) (by simp [hl1]; omega) (fun q hq => ?_) (fun q hq => ?_)
              · simp only [List.length_map, List.length_take, Nat.min_eq_left hnl] at this; exact this
              · simp only [List.length_map, List.length_take, Nat.min_eq_left hnl] at hq
                rw [(hlo q hq).1]; simp [hq]
              · simp only [List.length_map, List.length_take, List.length_drop, Nat.min_eq_left hnl] at hq ⊢
                rw [show j + 1 + q = j + q + 1 by omega, (hhi (j + q) (by omega) (by omega)).1]; simp
            · simp only [Int.toNat_natCast, List.map_append, List.map_cons]
              have := shift_done (pre := (l.take j).map (·.2)) (post := (l.drop j).map (·.2)) (s := s2) (x := ofI ts[i].W) (by simp [hl2]; omega) (fun q hq => ?_) (fun q hq => ?_)
              · simp only [List.length_map, List.length_take, Nat.min_eq_left hnl] at this; exact this
              · simp only [List.length_map, List.length_take, Nat.min_eq_left hnl] at hq
                rw [(hlo q hq).2]; simp [hq]
              · simp only [List.length_map, List.length_take, List.length_drop, Nat.min_eq_left hnl] at hq ⊢
                rw [show j + 1 + q = j + q + 1 by omega, (hhi (j + q) (by omega) (by omega)).2]; simp
      · refine ifP_dec (fun h => ?_) (fun h => hk _ ?_)
        · have h : n < l.length := by simpa using h
          refine idxP_nat hi (idxP_intro (by omega) (x := e0 l[n]) (by simpa using hel n h) (below_ok (hk _ ?_)))
          have hg := hge h
          have e1 : ((e0 l[n]).From, (e0 l[n]).To) = l[n].1 := rfl
          rw [e1]
          by_cases e : l[n].1 = (ts[i].From, ts[i].To)
          · rw [decide_eq_true (p := ∃ h : n < l.length, l[n].1 = _) ⟨h, e⟩, e, decide_eq_false (ltK_irrefl _)]; rfl
          · rw [decide_eq_false (p := ∃ h : n < l.length, l[n].1 = _) (fun ⟨_, e'⟩ => e e'), decide_eq_true (ltK_tri hg e)]; rfl
        · rw [decide_eq_false]
          rintro ⟨h', _⟩
          simp at h; omega
    · refine scan_intro l.length (by omega) (fun n => ∀ (j : Nat) (hj : j < n) (hjl : j < l.length), ltK l[j].1 (ts[i].From, ts[i].To)) (by simp) (fun j next hj hR hnx => ?_) (fun next hR => ?_)
      · refine ifP_dec (fun _ => ?_) (fun h => by simp at h; omega)
        refine idxP_intro (by omega) (x := e0 l[j]) (by simpa using hel j hj) (idxP_nat hi (below_ok (ifP_dec (fun h => hnx fun q hq hql => ?_) (fun h => hk _ ⟨j, rfl, by omega, hR, fun _ => h⟩))))
        by_cases e : q = j
        · subst e; exact h
        · exact hR q (by omega) hql
      · refine ifP_dec (fun h => by simp at h) (fun _ => hk _ ⟨l.length, rfl, Nat.le_refl _, hR, fun h => by omega⟩)
  · obtain ⟨es, ws⟩ := s
    obtain ⟨he, hw⟩ := hm
    simp only at he hw
    rw [List.take_length] at he hw
    refine ifP_dec (fun h => by omega) (fun _ => ?_)
    have hpr := SC_prop r (ts.map kvE) (by simpa using hvk ts.length)
    generalize SC r (ts.map kvE) = l at he hw hpr hQ
    subst he hw
    have hll : l.length ≤ 1000000 := by have := hpr.1; simp at this; omega
    refine range_intro (fun (s : List Edge) i => (s, i)) 0 l.length (by omega) (fun i s => s = (l.take i).map (fun p => mkE p.1 (narS p.2).1) ++ (l.drop i).map e0 ∧ ∀ p ∈ l.take i, (narS p.2).2 = true) (by omega) ⟨by simp, by simp⟩ (fun i s next _ hi hm hn => ?_) (fun s next hm => ?_)
    · obtain ⟨rfl, hnar⟩ := hm
      refine ifP_dec (fun _ => ?_) (fun h => by simp at h; omega)
      refine idxP_intro (by omega) (x := l[i].2) (by simp [hi]) (ref01_narrow_ok (hpr.2 _ (List.getElem_mem hi)) (ifP_not (fun h => ?_) (fun h => ?_)))
      · rw [fin_bad (List.getElem_mem hi) h] at hQ; exact hQ
      · have hdr : l.drop i = l[i] :: l.drop (i + 1) := by rw [List.drop_eq_getElem_cons hi]
        have hlen : ((l.take i).map (fun p => mkE p.1 (narS p.2).1)).length = i := by simp; omega
        refine idxP_intro (by omega) (x := e0 l[i]) ?_ (hn _ ⟨?_, ?_⟩)
        · rw [hdr, Int.toNat_natCast, List.getElem?_append_right (by omega), hlen, Nat.sub_self]; rfl
        · rw [hdr, Int.toNat_natCast, List.set_append, if_neg (by omega), hlen, take_map hi, Nat.sub_self, List.append_assoc]; rfl
        · intro p hp
          rw [List.take_succ_eq_append_getElem hi] at hp
          rcases List.mem_append.1 hp with hp | hp
          · exact hnar p hp
          · simp at hp; subst hp; exact h
    · obtain ⟨rfl, hnar⟩ := hm
      refine ifP_dec (fun h => by simp at h) (fun _ => ?_)
      rw [fin_perm (m := []) (.refl l) (by simpa using hnar)] at hQ
      simpa using hQ
end Go.Proofs.YtdfiinkpdaggeaaGreat
