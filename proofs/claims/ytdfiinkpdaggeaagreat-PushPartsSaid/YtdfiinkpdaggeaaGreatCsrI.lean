/- Rows turned, rows cut. -/
import Derived.Test.YtdfiinkpdaggeaaGreatCsrH
namespace Go.Proofs.YtdfiinkpdaggeaaGreat
open Go Go.Fw
set_option linter.unusedVariables false
set_option linter.unusedSimpArgs false
theorem Srt.nodup {l : List Triple} (h : Srt l) : l.Nodup := by
  rw [List.nodup_iff_pairwise_ne]
  exact List.Pairwise.imp (R := fun a b => ltK (key a) (key b)) (fun {a b} hab (e : a = b) => ltK_irrefl (key b) (by rw [e] at hab; exact hab)) h
theorem srt_ext {l l' : List Triple} (h : Srt l) (h' : Srt l') (he : ∀ t, t ∈ l ↔ t ∈ l') : l = l' :=
  sorted_eq ((List.perm_ext_iff_of_nodup h.nodup h'.nodup).2 he) h h' fun a b _ _ h1 h2 => absurd (ltK_trans h1 h2) (ltK_irrefl _)
theorem sure_built {rows cols : Int} {ts : List Triple} (h : Canon rows cols ts) : sureS (builtS rows cols ts) = builtS rows cols ts := by
  unfold sureS; rw [if_pos h.right]
/-! ### Turned -/
def flip (t : Triple) : Triple := ⟨t.Col, t.Row, t.Val⟩
def turnT (cols : Int) (ts : List Triple) : List Triple := (List.range cols.toNat).flatMap fun c : Nat => (ts.filter fun t : Triple => decide (t.Col = (c : Int))).map flip
theorem turn_mem {rows cols : Int} {ts : List Triple} (h : Canon rows cols ts) (t : Triple) : t ∈ turnT cols ts ↔ flip t ∈ ts := by
  unfold turnT
  simp only [List.mem_flatMap, List.mem_range, List.mem_map, List.mem_filter, decide_eq_true_eq]
  constructor
  · rintro ⟨c, hc, u, ⟨hu, _⟩, rfl⟩; exact hu
  · intro ht
    have := h.inn _ ht
    unfold inT flip at this
    simp only at this
    exact ⟨t.Row.toNat, by omega, flip t, ⟨ht, by show t.Row = _; omega⟩, rfl⟩
theorem turn_srt {ts : List Triple} (cols : Int) (h : Srt ts) : Srt (turnT cols ts) := by
  unfold Srt turnT
  rw [List.pairwise_flatMap]
  refine ⟨fun c _ => ?_, ?_⟩
  · rw [List.pairwise_map]
    refine List.Pairwise.imp_of_mem (fun {a b} ha hb hab => ?_) (List.Pairwise.filter (R := fun a b => ltK (key a) (key b)) (fun t => decide (t.Col = (c : Int))) h)
    have h1 := (List.mem_filter.1 ha).2
    have h2 := (List.mem_filter.1 hb).2
    simp only [decide_eq_true_eq] at h1 h2
    unfold ltK key at *
    simp only [flip] at *
    omega
  · refine List.Pairwise.imp (fun {a b} hab x hx y hy => ?_) (List.pairwise_lt_range (n := cols.toNat))
    obtain ⟨u, hu, rfl⟩ := List.mem_map.1 hx
    obtain ⟨v, hv, rfl⟩ := List.mem_map.1 hy
    have h1 := (List.mem_filter.1 hu).2
    have h2 := (List.mem_filter.1 hv).2
    simp only [decide_eq_true_eq] at h1 h2
    unfold ltK key flip
    simp only
    omega
theorem flip_nodup {ts : List Triple} (h : Srt ts) : (ts.map flip).Nodup := by
  rw [List.nodup_iff_pairwise_ne, List.pairwise_map]
  refine List.Pairwise.imp (R := fun a b => ltK (key a) (key b)) (fun {a b} hab e => ?_) h
  have : a = b := by
    cases a; cases b
    simp only [flip, Triple.mk.injEq] at e ⊢
    omega
  subst this; exact ltK_irrefl _ hab
theorem turn_perm {rows cols : Int} {ts : List Triple} (h : Canon rows cols ts) : (ts.map flip).Perm (turnT cols ts) := by
  refine (List.perm_ext_iff_of_nodup (flip_nodup h.srt) (turn_srt cols h.srt).nodup).2 fun t => ?_
  rw [turn_mem h, List.mem_map]
  exact ⟨by rintro ⟨u, hu, rfl⟩; exact hu, fun ht => ⟨flip t, ht, rfl⟩⟩
theorem turn_canon {rows cols : Int} {ts : List Triple} (h : Canon rows cols ts) : Canon cols rows (turnT cols ts) where
  r0 := h.c0
  r1 := h.c1
  c0 := h.r0
  c1 := h.r1
  len := by have := (turn_perm h).length_eq; have := h.len; simp at *; omega
  srt := turn_srt cols h.srt
  inn t ht := by
    have := h.inn _ ((turn_mem h t).1 ht)
    unfold inT flip at *
    simp only at this
    omega
theorem csr_turn_ok {a : Rows} {rows cols : Int} {ts : List Triple} {Q : Rows → Prop} (hl : small a) (ha : sureS a = builtS rows cols ts) (h : Canon rows cols ts) (hQ : Q (builtS cols rows (turnT cols ts))) : csr_Turn a Q := by
  unfold csr_Turn
  have hlen := h.len
  have hc1 := h.c1; have hc0 := h.c0
  refine sure_ok hl ?_
  rw [ha]
  refine csr_triples_ok h.sml (sure_built h) h ?_
  refine range_intro (fun (s : List Triple) i => (s, i)) 0 ts.length (by omega) (fun i s => s = (ts.take i).map flip ++ ts.drop i) (by omega) (by simp) (fun i s next _ hi hm hn => ?_) (fun s next hm => ?_)
  · subst hm
    dsimp only
    have hdr : ts.drop i = ts[i] :: ts.drop (i + 1) := List.drop_eq_getElem_cons hi
    have hlen2 : ((ts.take i).map flip).length = i := by simp; omega
    have hx : ((ts.take i).map flip ++ ts.drop i)[i]? = some ts[i] := by rw [List.getElem?_append_right (by omega), hlen2, hdr, Nat.sub_self]; rfl
    refine ifP_dec (fun _ => ?_) (fun h => by omega)
    refine idxP_intro (by omega) (by simpa using hx) (idxP_intro (by omega) (by simpa using hx) (hn _ ?_))
    rw [Int.toNat_natCast, List.set_append, if_neg (by omega), hlen2, Nat.sub_self, hdr, take_map hi, List.append_assoc]; rfl
  · subst hm
    dsimp only
    refine ifP_dec (fun h => by omega) (fun _ => ?_)
    rw [List.take_length, List.drop_length, List.append_nil]
    have hT := turn_canon h
    refine sort_ok cfT (fun _ _ _ => cfT_ok) cfT_SWO (by simp; omega) (turn_perm h) ?_ ?_
    · exact List.Pairwise.imp (R := fun a b => ltK (key a) (key b)) (fun {a b} hab => (cfT_lt _ _).2 hab) hT.srt
    · refine built_ok (show 0 ≤ cols by omega) (show cols ≤ 1000000 by omega) (by have := hT.len; omega) (fun t ht => ?_) hQ
      have := hT.inn t ht
      unfold inT at this
      exact ⟨this.1, this.2.1⟩
theorem ref_turn_ok {a : Rows} {rows cols : Int} {ts : List Triple} {Q : Rows → Prop} (hl : small a) (ha : sureS a = builtS rows cols ts) (h : Canon rows cols ts) (hQ : Q (builtS cols rows (turnT cols ts))) : ref07_Turn a Q := by
  unfold ref07_Turn
  have hlen := h.len
  have hc1 := h.c1; have hc0 := h.c0
  refine ref_sure_ok hl ?_
  rw [ha]
  refine ref_triples_ok h.sml (sure_built h) h ?_
  obtain ⟨n, hn⟩ : ∃ n : Nat, cols = n := ⟨cols.toNat, by omega⟩
  have hcl : (builtS rows cols ts).Cols = n := hn
  have hrl : (builtS rows cols ts).Rows = rows := rfl
  rw [hcl, hrl]
  have hlen3 : ∀ i : Nat, (turnT i ts).length ≤ i * 65536 := by
    intro i
    unfold turnT
    rw [Int.toNat_natCast]
    induction i with
    | zero => simp
    | succ i ih =>
      rw [List.range_succ, List.flatMap_append, List.length_append]
      have := List.length_filter_le (fun t : Triple => decide (t.Col = (i : Int))) ts
      simp only [List.flatMap_singleton, List.length_map]
      omega
  refine range_intro (fun (s : List Triple) i => (s, i)) 0 n (by omega) (fun i s => s = turnT (i : Int) ts) (by omega) (s0 := []) rfl (fun i s next _ hi hm hnx => ?_) (fun s next hm => ?_)
  · subst hm
    dsimp only
    refine ifP_dec (fun _ => ?_) (fun h => by omega)
    have hl3 := hlen3 i
    refine range_intro (fun (s : List Triple) i => (s, i)) 0 ts.length (by omega) (fun j s => s = turnT (i : Int) ts ++ ((ts.take j).filter fun t : Triple => decide (t.Col = (i : Int))).map flip) (by omega) (by simp) (fun j s nx _ hj hm hnj => ?_) (fun s nx hm => ?_)
    · subst hm
      dsimp only
      refine ifP_dec (fun _ => ?_) (fun h => by omega)
      have hst : (ts.take (j + 1)).filter (fun t : Triple => decide (t.Col = (i : Int))) = (ts.take j).filter (fun t : Triple => decide (t.Col = (i : Int))) ++ if ts[j].Col = (i : Int) then [ts[j]] else [] := by
        rw [List.take_succ_eq_append_getElem hj, List.filter_append, List.filter_cons, List.filter_nil]; simp only [decide_eq_true_eq]
      refine idxP_nat hj (ifP_eq (fun e => idxP_nat hj (idxP_nat hj (appP_intro ?_ (hnj _ ?_)))) (fun e => hnj _ ?_))
      · have := List.length_filter_le (fun t : Triple => decide (t.Col = (i : Int))) (ts.take j)
        have h4 : (ts.take j).length ≤ ts.length := by simp; omega
        simp only [List.length_append, List.length_map, List.length_singleton]
        omega
      · rw [hst, if_pos e, List.map_append, List.append_assoc]
        have : (⟨(i : Int), ts[j].Row, ts[j].Val⟩ : Triple) = flip ts[j] := by unfold flip; rw [e]
        rw [this]; rfl
      · rw [hst, if_neg e, List.append_nil]
    · subst hm
      dsimp only
      refine ifP_dec (fun h => by omega) (fun _ => hnx _ ?_)
      rw [List.take_length]
      unfold turnT
      rw [Int.toNat_natCast, Int.toNat_natCast, List.range_succ, List.flatMap_append]
      simp
  · subst hm
    dsimp only
    refine ifP_dec (fun h => by omega) (fun _ => ?_)
    have hT := turn_canon h
    rw [hn] at hT hQ
    refine ref_built_ok (by omega) (by omega) (by have := hT.len; omega) (fun t ht => ?_) hQ
    have := hT.inn t ht
    unfold inT at this
    exact ⟨this.1, this.2.1⟩
/-! ### Cut -/
def cLo (l : Int) : Int := if 0 > l then 0 else l
def cHi (h n : Int) : Int := if n < h then n else h
def ext (l h n : Int) : Int := if cLo l < cHi h n then cHi h n - cLo l else 0
def cutT (l h c d : Int) (ts : List Triple) : List Triple := (ts.filter fun t => decide ((l ≤ t.Row ∧ t.Row < h) ∧ (c ≤ t.Col ∧ t.Col < d))).map fun t => ⟨t.Row - l, t.Col - c, t.Val⟩
def cutS (rows cols : Int) (ts : List Triple) (p q : Int × Int) : Rows := builtS (ext p.1 p.2 rows) (ext q.1 q.2 cols) (cutT (cLo p.1) (cHi p.2 rows) (cLo q.1) (cHi q.2 cols) ts)
theorem ext_le (l h n : Int) (hn : 0 ≤ n) (h1 : n ≤ 4096) : 0 ≤ ext l h n ∧ ext l h n ≤ n ∧ 0 ≤ cLo l ∧ cHi h n ≤ n := by
  unfold ext cLo cHi; (repeat' split) <;> omega
theorem cut_canon {rows cols : Int} {ts : List Triple} (h : Canon rows cols ts) (p q : Int × Int) : Canon (ext p.1 p.2 rows) (ext q.1 q.2 cols) (cutT (cLo p.1) (cHi p.2 rows) (cLo q.1) (cHi q.2 cols) ts) := by
  have h1 := ext_le p.1 p.2 rows h.r0 h.r1
  have h2 := ext_le q.1 q.2 cols h.c0 h.c1
  have h3 := h.r1; have h4 := h.c1
  refine ⟨by omega, by omega, by omega, by omega, ?_, ?_, ?_⟩
  · have := h.len
    unfold cutT
    rw [List.length_map]
    exact Nat.le_trans (List.length_filter_le _ _) this
  · unfold Srt cutT
    rw [List.pairwise_map]
    refine List.Pairwise.imp (fun {a b} hab => ?_) (List.Pairwise.filter (R := fun a b => ltK (key a) (key b)) _ h.srt)
    unfold ltK key at *
    simp only at *
    omega
  · intro t ht
    obtain ⟨u, hu, rfl⟩ := List.mem_map.1 ht
    have hc := (List.mem_filter.1 hu).2
    simp only [decide_eq_true_eq] at hc
    have e1 : ext p.1 p.2 rows = cHi p.2 rows - cLo p.1 := by unfold ext; rw [if_pos (by omega)]
    have e2 : ext q.1 q.2 cols = cHi q.2 cols - cLo q.1 := by unfold ext; rw [if_pos (by omega)]
    unfold inT
    simp only
    omega
theorem ref_cut_ok {a : Rows} {rows cols : Int} {ts : List Triple} {p q : Int × Int} {Q : Rows → Prop} (hl : small a) (ha : sureS a = builtS rows cols ts) (h : Canon rows cols ts) (hQ : Q (cutS rows cols ts p q)) : ref07_Cut a p q Q := by
  unfold ref07_Cut
  have hlen := h.len
  refine ref_sure_ok hl ?_
  rw [ha]
  refine ref_triples_ok h.sml (sure_built h) h ?_
  have hrl : (builtS rows cols ts).Rows = rows := rfl
  have hcl : (builtS rows cols ts).Cols = cols := rfl
  rw [hcl, hrl]
  have b1 := ext_le p.1 p.2 rows h.r0 h.r1
  have b2 := ext_le q.1 q.2 cols h.c0 h.c1
  have hr1 := h.r1; have hc1 := h.c1
  have hcan := cut_canon h p q
  have hbuilt (xs : List Triple) (hxs : cutT (cLo p.1) (cHi p.2 rows) (cLo q.1) (cHi q.2 cols) ts = xs) : ref07_built (ext p.1 p.2 rows) (ext q.1 q.2 cols) xs Q := by
    subst hxs
    refine ref_built_ok (by omega) (by omega) (by have := hcan.len; omega) (fun t ht => ?_) hQ
    have := hcan.inn t ht
    unfold inT at this
    exact ⟨this.1, this.2.1⟩
  have hf : ∀ x : Int, (if 0 > x then 0 else x) = cLo x := fun _ => rfl
  have hg : ∀ x n : Int, (if n < x then n else x) = cHi x n := fun _ _ => rfl
  simp only [hf, hg]
  refine range_intro (fun (s : List Triple) i => (s, i)) 0 ts.length (by omega) (fun i s => s = cutT (cLo p.1) (cHi p.2 rows) (cLo q.1) (cHi q.2 cols) (ts.take i)) (by omega) (s0 := []) rfl (fun i s next _ hi hm hn => ?_) (fun s next hm => ?_)
  · subst hm
    dsimp only
    refine ifP_dec (fun _ => ?_) (fun h => by omega)
    have hin := h.inn _ (List.getElem_mem hi)
    unfold inT at hin
    have hst : cutT (cLo p.1) (cHi p.2 rows) (cLo q.1) (cHi q.2 cols) (ts.take (i + 1)) = cutT (cLo p.1) (cHi p.2 rows) (cLo q.1) (cHi q.2 cols) (ts.take i) ++ if (cLo p.1 ≤ ts[i].Row ∧ ts[i].Row < cHi p.2 rows) ∧ (cLo q.1 ≤ ts[i].Col ∧ ts[i].Col < cHi q.2 cols) then [⟨ts[i].Row - cLo p.1, ts[i].Col - cLo q.1, ts[i].Val⟩] else [] := by
      unfold cutT
      rw [List.take_succ_eq_append_getElem hi, List.filter_append, List.filter_cons, List.filter_nil, List.map_append]
      simp only [decide_eq_true_eq]
      congr 1
      split <;> rfl
    refine join_intro (fun b => b = decide ((cLo p.1 ≤ ts[i].Row ∧ ts[i].Row < cHi p.2 rows) ∧ (cLo q.1 ≤ ts[i].Col ∧ ts[i].Col < cHi q.2 cols))) ?_ fun k hk => ?_
    · rintro _ rfl
      refine ifP_dec (fun hc => idxP_nat hi (idxP_nat hi (idxP_nat hi (appP_intro ?_ (hn _ ?_))))) (fun hc => hn _ ?_)
      · have h2 : (cutT (cLo p.1) (cHi p.2 rows) (cLo q.1) (cHi q.2 cols) (ts.take i)).length ≤ ts.length := by
          unfold cutT
          rw [List.length_map]
          exact Nat.le_trans (List.length_filter_le _ _) (by simp; omega)
        simp only [List.length_singleton]; omega
      · rw [hst, if_pos hc, w64_id (by omega) (by omega), w64_id (by omega) (by omega)]
      · rw [hst, if_neg hc, List.append_nil]
    · refine idxP_nat hi (ifP_dec (fun h1 => idxP_nat hi (ifP_dec (fun h2 => idxP_nat hi (ifP_dec (fun h3 => idxP_nat hi (hk _ ?_)) (fun h3 => hk _ ?_))) (fun h2 => hk _ ?_))) (fun h1 => hk _ ?_))
      · apply decide_eq_decide.2; simp [h1, h2, h3]
      all_goals (symm; apply decide_eq_false; intro hh; omega)
  · subst hm
    dsimp only
    rw [List.take_length]
    refine ifP_dec (fun h => by omega) (fun _ => ?_)
    refine join_intro (fun x => x = ext p.1 p.2 rows) ?_ fun k hk => ?_
    · rintro _ rfl
      refine join_intro (fun x => x = ext q.1 q.2 cols) ?_ fun k hk => ?_
      · rintro _ rfl
        refine ifP_eq (fun e => hbuilt _ ?_) (fun e1 => ifP_eq (fun e => hbuilt _ ?_) (fun e2 => hbuilt _ rfl))
        · apply List.eq_nil_iff_forall_not_mem.2
          intro t ht
          have := hcan.inn t ht
          unfold inT at this; omega
        · apply List.eq_nil_iff_forall_not_mem.2
          intro t ht
          have := hcan.inn t ht
          unfold inT at this; omega
      · refine ifP_dec (fun hh => hk _ ?_) (fun hh => hk _ ?_)
        · unfold ext at b2 ⊢; rw [if_pos hh] at b2 ⊢; exact w64_id (by omega) (by omega)
        · unfold ext; rw [if_neg hh]
    · refine ifP_dec (fun hh => hk _ ?_) (fun hh => hk _ ?_)
      · unfold ext at b1 ⊢; rw [if_pos hh] at b1 ⊢; exact w64_id (by omega) (by omega)
      · unfold ext; rw [if_neg hh]
end Go.Proofs.YtdfiinkpdaggeaaGreat
