/- The program's cut; graphs as rows. -/
import Derived.Test.YtindbiojednfbaaGreatCsrI
namespace Go.Proofs.YtindbiojednfbaaGreat
open Go Go.Fw
set_option linter.unusedVariables false
set_option linter.unusedSimpArgs false
def colc (c d : Int) (t : Triple) : Bool := decide (c ≤ t.Col ∧ t.Col < d)
def shf (l c : Int) (t : Triple) : Triple := ⟨t.Row - l, t.Col - c, t.Val⟩
theorem cut_step {ts : List Triple} (h : Srt ts) (l c d : Int) (v : Nat) (hv : l ≤ v) : cutT l ((v : Int) + 1) c d ts = cutT l v c d ts ++ ((segS ts v).filter (colc c d)).map (shf l c) := by
  unfold cutT
  rw [show (fun t : Triple => (⟨t.Row - l, t.Col - c, t.Val⟩ : Triple)) = shf l c from rfl, ← List.map_append]
  congr 1
  refine srt_ext (List.Pairwise.filter _ h) (List.pairwise_append.2 ⟨List.Pairwise.filter _ h, List.Pairwise.filter _ (List.Pairwise.filter _ h), fun a ha b hb => ?_⟩) fun t => ?_
  · have h1 := (List.mem_filter.1 ha).2
    have h2 := (List.mem_filter.1 (List.mem_filter.1 hb).1).2
    simp only [decide_eq_true_eq] at h1 h2
    unfold ltK key
    simp only
    omega
  · unfold segS colc
    simp only [List.mem_append, List.mem_filter, decide_eq_true_eq]
    constructor
    · rintro ⟨h1, h2⟩
      by_cases e : t.Row = v
      · exact .inr ⟨⟨h1, e⟩, h2.2⟩
      · exact .inl ⟨h1, by omega, h2.2⟩
    · rintro (⟨h1, h2⟩ | ⟨⟨h1, h2⟩, h3⟩)
      · exact ⟨h1, by omega, h2.2⟩
      · exact ⟨h1, by omega, h3⟩
theorem cut_nil {ts : List Triple} {l h c d : Int} (hh : h ≤ l) : cutT l h c d ts = [] := by
  unfold cutT
  rw [List.filter_eq_nil_iff.2]; · rfl
  intro t ht
  simp only [decide_eq_true_eq]; omega
theorem csr_cut_ok {a : Rows} {rows cols : Int} {ts : List Triple} {p q : Int × Int} {Q : Rows → Prop} (hl : small a) (ha : sureS a = builtS rows cols ts) (h : Canon rows cols ts) (hQ : Q (cutS rows cols ts p q)) : csr_Cut a p q Q := by
  unfold csr_Cut
  have hlen := h.len
  have hr1 := h.r1; have hc1 := h.c1
  have b1 := ext_le p.1 p.2 rows h.r0 h.r1
  have b2 := ext_le q.1 q.2 cols h.c0 h.c1
  refine sure_ok hl ?_
  rw [ha]
  refine bounds_ok h.r0 h.r1 (bounds_ok h.c0 h.c1 ?_)
  show loopP _ _
  have hcan := cut_canon h p q
  unfold cutS at hQ
  have hrl : (builtS rows cols ts).Rows = rows := rfl
  have hcl : (builtS rows cols ts).Cols = cols := rfl
  rw [hcl, hrl]
  generalize hL : cLo p.1 = L at *
  generalize hH : cHi p.2 rows = H at *
  generalize hC : cLo q.1 = C at *
  generalize hD : cHi q.2 cols = D at *
  have eE : ext p.1 p.2 rows = if L < H then H - L else 0 := by unfold ext; rw [hL, hH]
  have eF : ext q.1 q.2 cols = if C < D then D - C else 0 := by unfold ext; rw [hC, hD]
  generalize ext p.1 p.2 rows = E at *
  generalize ext q.1 q.2 cols = F at *
  dsimp only
  obtain ⟨n, hn⟩ : ∃ n : Nat, E = n := ⟨E.toNat, by omega⟩
  rw [hn]
  refine range_intro (fun (s : List Triple) i => (s, i)) 0 n (by omega) (fun i s => s = cutT L (L + (i : Nat)) C D ts) (by omega) (s0 := []) (by rw [cut_nil (by omega)]) (fun i s next _ hi hm hnx => ?_) (fun s next hm => ?_)
  · subst hm
    dsimp only
    have hLH : L < H ∧ E = H - L := by
      by_cases e : L < H
      · rw [if_pos e] at eE; exact ⟨e, eE⟩
      · rw [if_neg e] at eE; omega
    obtain ⟨v, hv⟩ : ∃ v : Nat, L + (i : Int) = v := ⟨(L + i).toNat, by omega⟩
    have e1 : w64 (L + (i : Int)) = v := by rw [w64_id (by omega) (by omega)]; exact hv
    rw [e1]
    refine ifP_dec (fun _ => ?_) (fun h => by omega)
    refine csr_row_ok h.sml (sure_built h) h ?_
    have erow : rowS rows ts v = (segS ts v).map itS := by unfold rowS; rw [if_pos (by omega), Int.toNat_natCast]
    rw [erow]
    have hsl := seg_len_le ts v
    have hrow : ∀ t ∈ segS ts v, t.Row = v := fun t ht => by simpa using (List.mem_filter.1 ht).2
    have hin : ∀ t ∈ segS ts v, inT rows cols t := fun t ht => h.inn t (List.mem_filter.1 ht).1
    have hcut := cut_step h.srt L C D v (by omega)
    rw [show (v : Int) + 1 = L + ((i + 1 : Nat) : Int) by omega] at hcut
    rw [hcut] at hnx
    have hacc : (cutT L v C D ts).length ≤ ts.length := by
      unfold cutT
      rw [List.length_map]
      exact List.length_filter_le _ _
    rw [hv]
    generalize cutT L v C D ts = acc at hnx hacc
    generalize segS ts v = xs at *
    refine range_intro (fun (s : List Triple) i => (s, i)) 0 xs.length (by omega) (fun j s => s = acc ++ ((xs.take j).filter (colc C D)).map (shf L C)) (by omega) (by simp) (fun j s nx _ hj hm hnj => ?_) (fun s nx hm => ?_)
    · subst hm
      dsimp only
      refine ifP_dec (fun _ => ?_) (fun h => by simp at h; omega)
      have hm := List.getElem_mem hj
      have hi1 := hin _ hm
      have hr := hrow _ hm
      unfold inT at hi1
      have hst : (xs.take (j + 1)).filter (colc C D) = (xs.take j).filter (colc C D) ++ if colc C D xs[j] = true then [xs[j]] else [] := by
        rw [List.take_succ_eq_append_getElem hj, List.filter_append, List.filter_cons, List.filter_nil]
      refine idxP_intro (by omega) (x := itS xs[j]) (by simp [hj]) ?_
      have eAt : (itS xs[j]).At = xs[j].Col := rfl
      have eVal : (itS xs[j]).Val = xs[j].Val := rfl
      rw [eAt, eVal]
      refine join_intro (fun b => b = colc C D xs[j]) ?_ fun k hk => ?_
      · rintro _ rfl
        refine ⟨fun hc => appP_intro ?_ (hnj _ ?_), fun hc => hnj _ ?_⟩
        · have := List.length_filter_le (colc C D) (xs.take j)
          have h4 : (xs.take j).length ≤ xs.length := by simp; omega
          simp only [List.length_append, List.length_map, List.length_singleton]
          omega
        · have hc' : C ≤ xs[j].Col ∧ xs[j].Col < D := by simpa [colc] using hc
          rw [hst, if_pos hc, List.map_append, List.append_assoc, w64_id (x := xs[j].Col - C) (by omega) (by omega)]
          have : (⟨(i : Int), xs[j].Col - C, xs[j].Val⟩ : Triple) = shf L C xs[j] := by unfold shf; rw [show (i : Int) = xs[j].Row - L by omega]
          rw [this]; rfl
        · rw [hst, if_neg (by simp [hc]), List.append_nil]
      · refine ifP_dec (fun hc => hk _ ?_) (fun hc => hk _ ?_)
        · unfold colc
          apply decide_eq_decide.2
          rw [eF, w64_id (x := xs[j].Col - C) (by omega) (by omega)]
          split <;> omega
        · unfold colc; symm; apply decide_eq_false; omega
    · subst hm
      dsimp only
      refine ifP_dec (fun h => by simp at h) (fun _ => hnx _ ?_)
      rw [List.take_length]
  · subst hm
    dsimp only
    refine ifP_dec (fun h => by omega) (fun _ => ?_)
    have e : cutT L (L + (n : Int)) C D ts = cutT L H C D ts := by
      by_cases e : L < H
      · rw [if_pos e] at eE; rw [show L + (n : Int) = H by omega]
      · rw [if_neg e] at eE; rw [cut_nil (by omega), cut_nil (by omega)]
    rw [e]
    rw [hn] at hcan hQ
    refine built_ok (by omega) (by omega) (by have := hcan.len; omega) (fun t ht => ?_) hQ
    have := hcan.inn t ht
    unfold inT at this
    exact ⟨this.1, this.2.1⟩
/-! ### Graphs -/
theorem fin_canon {r rows cols : Int} {kvs : List (Key × Int)} (h : 0 ≤ rows ∧ rows ≤ 4096 ∧ 0 ≤ cols ∧ cols ≤ 4096) (hl : kvs.length ≤ 65536) (hk : ∀ t ∈ kvs, inT rows cols (mkT t.1 0)) (hv : ∀ t ∈ kvs, inI t.2) : Canon rows cols (finS (SC r kvs) mkT).1 := by
  refine ⟨h.1, h.2.1, h.2.2.1, h.2.2.2, ?_, ?_, ?_⟩
  · exact Nat.le_trans (fin_len _) (by have := (SC_prop r kvs hv).1; omega)
  · unfold finS
    split
    · unfold Srt
      rw [List.pairwise_map]
      exact SC_srt r kvs
    · exact .nil
  · intro t ht
    unfold finS at ht
    split at ht
    · obtain ⟨p, hp, rfl⟩ := List.mem_map.1 ht
      obtain ⟨x, hx, e⟩ := SC_keys hp
      have := hk x hx
      unfold inT mkT at *
      rw [← e]
      exact this
    · simp at ht
def inE (n : Int) (e : Edge) : Prop := (0 ≤ e.From ∧ e.From < n) ∧ (0 ≤ e.To ∧ e.To < n)
instance (n : Int) (e : Edge) : Decidable (inE n e) := by unfold inE; infer_instance
def wOk (e : Edge) : Prop := 0 ≤ e.W ∧ e.W ≤ 2147483647
instance (e : Edge) : Decidable (wOk e) := by unfold wOk; infer_instance
def rightG (g : Graph) : Int :=
  if g.N < 0 then 3 else if 4096 < g.N ∨ 65536 < g.Edges.length then 5 else if ¬ ∀ e ∈ g.Edges, inE g.N e then 3 else if ¬ ∀ e ∈ g.Edges, wOk e then 7 else 0
theorem rightG_zero {g : Graph} (h : rightG g = 0) : 0 ≤ g.N ∧ g.N ≤ 4096 ∧ g.Edges.length ≤ 65536 ∧ (∀ e ∈ g.Edges, inE g.N e) ∧ ∀ e ∈ g.Edges, wOk e := by
  unfold rightG at h
  split at h
  · omega
  · split at h
    · omega
    · split at h
      · omega
      · split at h
        · omega
        · rename_i h1 h2 h3 h4
          exact ⟨by omega, by omega, by omega, Decidable.of_not_not h3, Decidable.of_not_not h4⟩
theorem graph_right_ok {g : Graph} {Q : Int → Prop} (hQ : Q (rightG g)) : edges_Right g Q := by
  unfold edges_Right
  unfold rightG at hQ
  refine ifP_dec (fun h => ?_) (fun h => ?_)
  · rwa [if_pos h] at hQ
  rw [if_neg h] at hQ
  refine join_intro (fun b => b = decide (4096 < g.N ∨ 65536 < g.Edges.length)) ?_ fun k hk => ?_
  · rintro _ rfl
    refine ifP_dec (fun h5 => ?_) (fun h5 => ?_)
    · rwa [if_pos h5] at hQ
    rw [if_neg h5] at hQ
    unfold slices_ContainsFunc_api_Edge_api_Edge_i3 slices_IndexFunc_api_Edge_api_Edge_i4 edges_Right_2_i5 edges_Right_1_i6
    refine scan_intro g.Edges.length (by omega) (fun i => ∀ (j : Nat) (hj : j < g.Edges.length), j < i → inE g.N g.Edges[j]) (by simp) (fun i next hi hR hn => ?_) (fun next hR => ?_)
    · refine ifP_dec (fun _ => ?_) (fun h => by omega)
      have hbad (hb : ¬ inE g.N g.Edges[i]) : ifP (decide (0 ≤ (i : Int))) (Q 3) (slices_ContainsFunc_api_Edge_api_Edge_i7 g.Edges fun r45 => ifP r45 (Q 7) (Q 0)) := by
        refine ifP_dec (fun _ => ?_) (fun h => by omega)
        rwa [if_pos (fun h' => hb (h' _ (List.getElem_mem hi)))] at hQ
      refine idxP_nat hi ?_
      refine ifP_dec (fun h1 => ifP_pos rfl (ifP_pos rfl (hbad fun hh => by unfold inE at hh; omega))) (fun h1 => ?_)
      refine ifP_dec (fun h2 => ifP_pos rfl (hbad fun hh => by unfold inE at hh; omega)) (fun h2 => ?_)
      refine ifP_dec (fun h3 => ifP_pos rfl (hbad fun hh => by unfold inE at hh; omega)) (fun h3 => ?_)
      refine ifP_dec (fun h4 => hbad fun hh => by unfold inE at hh; omega) (fun h4 => hn fun j hj hji => ?_)
      by_cases e : j = i
      · subst e; unfold inE; omega
      · exact hR j hj (by omega)
    · refine ifP_dec (fun h => by omega) (fun _ => ifP_neg (by decide) ?_)
      have hall : ∀ e ∈ g.Edges, inE g.N e := fun e he => by
        obtain ⟨j, hj, rfl⟩ := List.getElem_of_mem he
        exact hR j hj hj
      rw [if_neg (fun h => h hall)] at hQ
      unfold slices_ContainsFunc_api_Edge_api_Edge_i7 slices_IndexFunc_api_Edge_api_Edge_i8 edges_Right_3_i9
      refine scan_intro g.Edges.length (by omega) (fun i => ∀ (j : Nat) (hj : j < g.Edges.length), j < i → wOk g.Edges[j]) (by simp) (fun i next hi hR hn => ?_) (fun next hR => ?_)
      · refine ifP_dec (fun _ => ?_) (fun h => by omega)
        have hbad (hb : ¬ wOk g.Edges[i]) : ifP (decide (0 ≤ (i : Int))) (Q 7) (Q 0) := by
          refine ifP_dec (fun _ => ?_) (fun h => by omega)
          rwa [if_pos (fun h' => hb (h' _ (List.getElem_mem hi)))] at hQ
        refine idxP_nat hi (ifP_dec (fun h1 => ifP_pos rfl (hbad fun hh => by unfold wOk at hh; omega)) (fun h1 => ifP_dec (fun h2 => hbad fun hh => by unfold wOk at hh; omega) (fun h2 => hn fun j hj hji => ?_)))
        by_cases e : j = i
        · subst e; unfold wOk; omega
        · exact hR j hj (by omega)
      · refine ifP_dec (fun h => by omega) (fun _ => ifP_neg (by decide) ?_)
        rwa [if_neg (fun h => h fun e he => by
          obtain ⟨j, hj, rfl⟩ := List.getElem_of_mem he
          exact hR j hj hj)] at hQ
  · refine ifP_dec (fun h1 => hk _ ?_) (fun h1 => hk _ ?_)
    · rw [decide_eq_true h1, decide_eq_true (.inl h1)]
    · apply decide_eq_decide.2; omega
theorem ref_graph_right_ok {g : Graph} {Q : Int → Prop} (hQ : Q (rightG g)) : ref05_Right g Q := by
  unfold ref05_Right
  unfold rightG at hQ
  refine ifP_dec (fun h => ?_) (fun h => ?_)
  · rwa [if_pos h] at hQ
  rw [if_neg h] at hQ
  have h5 (h : 4096 < g.N ∨ 65536 < g.Edges.length) : Q 5 := by rwa [if_pos h] at hQ
  refine ifP_dec (fun h => h5 (.inl h)) (fun h1 => ifP_dec (fun h => h5 (.inr (by omega))) (fun h2 => ?_))
  rw [if_neg (by omega)] at hQ
  refine scan_intro g.Edges.length (by omega) (fun i => ∀ (j : Nat) (hj : j < g.Edges.length), j < i → inE g.N g.Edges[j]) (by simp) (fun i next hi hR hn => ?_) (fun next hR => ?_)
  · refine ifP_dec (fun _ => ?_) (fun h => by omega)
    have hbad (hb : ¬ inE g.N g.Edges[i]) : Q 3 := by rwa [if_pos (fun h' => hb (h' _ (List.getElem_mem hi)))] at hQ
    refine idxP_nat hi ?_
    refine ifP_dec (fun h1 => hbad fun hh => by unfold inE at hh; omega) (fun h1 => ?_)
    refine ifP_dec (fun h2 => hbad fun hh => by unfold inE at hh; omega) (fun h2 => ?_)
    refine ifP_dec (fun h3 => hbad fun hh => by unfold inE at hh; omega) (fun h3 => ?_)
    refine ifP_dec (fun h4 => hbad fun hh => by unfold inE at hh; omega) (fun h4 => hn fun j hj hji => ?_)
    by_cases e : j = i
    · subst e; unfold inE; omega
    · exact hR j hj (by omega)
  · refine ifP_dec (fun h => by omega) (fun _ => ?_)
    have hall : ∀ e ∈ g.Edges, inE g.N e := fun e he => by
      obtain ⟨j, hj, rfl⟩ := List.getElem_of_mem he
      exact hR j hj hj
    rw [if_neg (fun h => h hall)] at hQ
    refine scan_intro g.Edges.length (by omega) (fun i => ∀ (j : Nat) (hj : j < g.Edges.length), j < i → wOk g.Edges[j]) (by simp) (fun i next hi hR hn => ?_) (fun next hR => ?_)
    · refine ifP_dec (fun _ => ?_) (fun h => by omega)
      have hbad (hb : ¬ wOk g.Edges[i]) : Q 7 := by rwa [if_pos (fun h' => hb (h' _ (List.getElem_mem hi)))] at hQ
      refine idxP_nat hi (ifP_dec (fun h1 => hbad fun hh => by unfold wOk at hh; omega) (fun h1 => idxP_nat hi (ifP_dec (fun h2 => hbad fun hh => by unfold wOk at hh; omega) (fun h2 => hn fun j hj hji => ?_))))
      by_cases e : j = i
      · subst e; unfold wOk; omega
      · exact hR j hj (by omega)
    · refine ifP_dec (fun h => by omega) (fun _ => ?_)
      rwa [if_neg (fun h => h fun e he => by
        obtain ⟨j, hj, rfl⟩ := List.getElem_of_mem he
        exact hR j hj hj)] at hQ
def kvF (e : Edge) : Key × Int := ((e.To, e.From), e.W)
def flipE (e : Edge) : Edge := ⟨e.To, e.From, e.W⟩
def graphT (g : Graph) : List Triple := (finS (SC 1 (g.Edges.map kvF)) mkT).1
theorem graph_canon {g : Graph} (h : rightG g = 0) : Canon g.N g.N (graphT g) := by
  obtain ⟨h1, h2, h3, h4, h5⟩ := rightG_zero h
  refine fin_canon ⟨h1, h2, h1, h2⟩ (by simpa using h3) (fun t ht => ?_) (fun t ht => ?_)
  · obtain ⟨e, he, rfl⟩ := List.mem_map.1 ht
    have := h4 e he
    unfold inE at this
    unfold inT mkT kvF
    simp only
    omega
  · obtain ⟨e, he, rfl⟩ := List.mem_map.1 ht
    have := h5 e he
    unfold wOk at this
    unfold inI kvF
    simp only
    omega
def graphS (g : Graph) : Rows × Int := if rightG g = 0 then (builtS g.N g.N (graphT g), 0) else (zR, rightG g)
theorem graph_ok {g : Graph} {Q : Rows × Int → Prop} (hQ : Q (graphS g)) : csr_Graph g Q := by
  unfold csr_Graph
  unfold graphS at hQ
  refine graph_right_ok (ifP_ne (fun h => ?_) (fun h => ?_))
  · rwa [if_neg h] at hQ
  rw [if_pos h] at hQ
  have hcan := graph_canon h
  obtain ⟨h1, h2, h3, h4, h5⟩ := rightG_zero h
  have hv : ∀ t ∈ g.Edges.map flipE, inI t.W := fun t ht => by
    obtain ⟨e, he, rfl⟩ := List.mem_map.1 ht
    have := h5 e he
    unfold wOk at this
    unfold inI flipE
    simp only
    omega
  unfold edges_Turn edges_made_i10 edges_turned_i11
  refine range_intro (fun (s : List Edge) i => (s, i)) 0 g.Edges.length (by omega) (fun i s => s = (g.Edges.take i).map flipE) (by omega) rfl (fun i s next _ hi hm hn => ?_) (fun s next hm => ?_)
  · subst hm
    dsimp only
    refine ifP_dec (fun _ => ?_) (fun h => by omega)
    refine idxP_nat hi (ifP_pos rfl (appP_intro ?_ (hn _ ?_)))
    · simp; omega
    · rw [take_map hi]; rfl
  · subst hm
    dsimp only
    refine ifP_dec (fun h => by omega) (fun _ => ?_)
    rw [List.take_length]
    unfold edges_Canon
    refine combine_ok (by omega) (by simp; omega) hv ?_
    dsimp only
    have hkv : (g.Edges.map flipE).map kvE = g.Edges.map kvF := by rw [List.map_map]; rfl
    rw [hkv]
    have hf1 := (finT (SC 1 (g.Edges.map kvF))).1
    have hgl := hcan.len
    have hgi := hcan.inn
    unfold graphT at hQ hgl hgi
    rw [hf1] at hQ hgl hgi
    generalize (finS (SC 1 (g.Edges.map kvF)) mkE).1 = es at hQ hgl hgi
    have hel : es.length ≤ 65536 := by simpa using hgl
    refine range_intro (fun (s : List Triple) i => (s, i)) 0 es.length (by omega) (fun i s => s = (es.take i).map e2t) (by omega) rfl (fun i s next _ hi hm hn => ?_) (fun s next hm => ?_)
    · subst hm
      dsimp only
      refine ifP_dec (fun _ => ?_) (fun h => by omega)
      refine idxP_nat hi (appP_intro ?_ (hn _ ?_))
      · simp; omega
      · rw [take_map hi]; rfl
    · subst hm
      dsimp only
      refine ifP_dec (fun h => by omega) (fun _ => ?_)
      rw [List.take_length]
      refine built_ok h1 (by omega) (by simp; omega) (fun t ht => ?_) hQ
      have := hgi t ht
      unfold inT at this
      exact ⟨this.1, this.2.1⟩
end Go.Proofs.YtindbiojednfbaaGreat
