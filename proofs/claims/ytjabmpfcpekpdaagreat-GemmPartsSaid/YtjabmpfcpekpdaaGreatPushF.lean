import Derived.Test.YtjabmpfcpekpdaaGreatOK
import Derived.Test.YtjabmpfcpekpdaaGreatCsrH
/- Rows turned, rows cut. -/
namespace Go.Proofs.YtjabmpfcpekpdaaGreat
open Go Go.Fw
set_option linter.unusedVariables false
set_option linter.unusedSimpArgs false
theorem Srt.nodup {l : List Triple} (h : Srt l) : l.Nodup := by
  rw [List.nodup_iff_pairwise_ne]
  exact List.Pairwise.imp (R := fun a b => ltK (key a) (key b)) (fun {a b} hab (e : a = b) => ltK_irrefl (key b) (by rw [e] at hab; exact hab)) h
theorem srt_ext {l l' : List Triple} (h : Srt l) (h' : Srt l') (he : ∀ t, t ∈ l ↔ t ∈ l') : l = l' :=
  sorted_eq ((List.perm_ext_iff_of_nodup h.nodup h'.nodup).2 he) h h' fun a b _ _ h1 h2 => absurd (ltK_trans h1 h2) (ltK_irrefl _)
theorem sure_built {rows cols : Int} {ts : List Triple} (h : Canon rows cols ts) : sureS (builtS rows cols ts) = builtS rows cols ts := by
  unfold sureS; rw [if_pos h.right]
/-! ### Turned -/
/-! ### Cut -/
def cLo (l : Int) : Int := if 0 > l then 0 else l
def cHi (h n : Int) : Int := if n < h then n else h
def ext (l h n : Int) : Int := if cLo l < cHi h n then cHi h n - cLo l else 0
def cutT (l h c d : Int) (ts : List Triple) : List Triple := (ts.filter fun t => decide ((l ≤ t.Row ∧ t.Row < h) ∧ (c ≤ t.Col ∧ t.Col < d))).map fun t => ⟨t.Row - l, t.Col - c, t.Val⟩
def cutS (rows cols : Int) (ts : List Triple) (p q : Int × Int) : Rows := builtS (ext p.1 p.2 rows) (ext q.1 q.2 cols) (cutT (cLo p.1) (cHi p.2 rows) (cLo q.1) (cHi q.2 cols) ts)
theorem ext_le (l h n : Int) (hn : 0 ≤ n) (h1 : n ≤ 4096) : 0 ≤ ext l h n ∧ ext l h n ≤ n ∧ 0 ≤ cLo l ∧ cHi h n ≤ n := by
  unfold ext cLo cHi; (repeat' split) <;> omega
theorem cut_canon {rows cols : Int} {ts : List Triple} (h : Canon rows cols ts) (p q : Int × Int) : Canon (ext p.1 p.2 rows) (ext q.1 q.2 cols) (cutT (cLo p.1) (cHi p.2 rows) (cLo q.1) (cHi q.2 cols) ts) := by
  have h1 := ext_le p.1 p.2 rows h.r0 h.r1
  have h2 := ext_le q.1 q.2 cols h.c0 h.c1
  have h3 := h.r1; have h4 := h.c1
  refine ⟨by omega, by omega, by omega, by omega, ?_, ?_, ?_⟩
  · have := h.len
    unfold cutT
    rw [List.length_map]
    exact Nat.le_trans (List.length_filter_le _ _) this
  · unfold Srt cutT
    rw [List.pairwise_map]
    refine List.Pairwise.imp (fun {a b} hab => ?_) (List.Pairwise.filter (R := fun a b => ltK (key a) (key b)) _ h.srt)
    unfold ltK key at *
    simp only at *
    omega
  · intro t ht
    obtain ⟨u, hu, rfl⟩ := List.mem_map.1 ht
    have hc := (List.mem_filter.1 hu).2
    simp only [decide_eq_true_eq] at hc
    have e1 : ext p.1 p.2 rows = cHi p.2 rows - cLo p.1 := by unfold ext; rw [if_pos (by omega)]
    have e2 : ext q.1 q.2 cols = cHi q.2 cols - cLo q.1 := by unfold ext; rw [if_pos (by omega)]
    unfold inT
    simp only
    omega
theorem bounds_ok {p : Int × Int} {n : Int} {Q : Int × Int → Prop} (h0 : 0 ≤ n) (h1 : n ≤ 4096) (hQ : Q (cLo p.1, ext p.1 p.2 n)) : csr_bounds p n Q := by
  unfold csr_bounds
  show ifP (decide (cHi p.2 n ≤ cLo p.1)) (Q (cLo p.1, 0)) (Q (cLo p.1, w64 (cHi p.2 n - cLo p.1)))
  have hb := ext_le p.1 p.2 n h0 h1
  unfold ext at hQ
  refine ifP_dec (fun h => ?_) (fun h => ?_)
  · rwa [if_neg (by omega)] at hQ
  · rw [if_pos (by omega)] at hQ
    rwa [w64_id (by omega) (by omega)]
end Go.Proofs.YtjabmpfcpekpdaaGreat

/- The program's cut; graphs as rows. -/
namespace Go.Proofs.YtjabmpfcpekpdaaGreat
open Go Go.Fw
set_option linter.unusedVariables false
set_option linter.unusedSimpArgs false
def colc (c d : Int) (t : Triple) : Bool := decide (c ≤ t.Col ∧ t.Col < d)
def shf (l c : Int) (t : Triple) : Triple := ⟨t.Row - l, t.Col - c, t.Val⟩
theorem cut_step {ts : List Triple} (h : Srt ts) (l c d : Int) (v : Nat) (hv : l ≤ v) : cutT l ((v : Int) + 1) c d ts = cutT l v c d ts ++ ((segS ts v).filter (colc c d)).map (shf l c) := by
  unfold cutT
  rw [show (fun t : Triple => (⟨t.Row - l, t.Col - c, t.Val⟩ : Triple)) = shf l c from rfl, ← List.map_append]
  congr 1
  refine srt_ext (List.Pairwise.filter _ h) (List.pairwise_append.2 ⟨List.Pairwise.filter _ h, List.Pairwise.filter _ (List.Pairwise.filter _ h), fun a ha b hb => ?_⟩) fun t => ?_
  · have h1 := (List.mem_filter.1 ha).2
    have h2 := (List.mem_filter.1 (List.mem_filter.1 hb).1).2
    simp only [decide_eq_true_eq] at h1 h2
    unfold ltK key
    simp only
    omega
  · unfold segS colc
    simp only [List.mem_append, List.mem_filter, decide_eq_true_eq]
    constructor
    · rintro ⟨h1, h2⟩
      by_cases e : t.Row = v
      · exact .inr ⟨⟨h1, e⟩, h2.2⟩
      · exact .inl ⟨h1, by omega, h2.2⟩
    · rintro (⟨h1, h2⟩ | ⟨⟨h1, h2⟩, h3⟩)
      · exact ⟨h1, by omega, h2.2⟩
      · exact ⟨h1, by omega, h3⟩
theorem cut_nil {ts : List Triple} {l h c d : Int} (hh : h ≤ l) : cutT l h c d ts = [] := by
  unfold cutT
  rw [List.filter_eq_nil_iff.2]; · rfl
  intro t ht
  simp only [decide_eq_true_eq]; omega
theorem csr_cut_ok {a : Rows} {rows cols : Int} {ts : List Triple} {p q : Int × Int} {Q : Rows → Prop} (hl : small a) (ha : sureS a = builtS rows cols ts) (h : Canon rows cols ts) (hQ : Q (cutS rows cols ts p q)) : csr_Cut a p q Q := by
  unfold csr_Cut
  have hlen := h.len
  have hr1 := h.r1; have hc1 := h.c1
  have b1 := ext_le p.1 p.2 rows h.r0 h.r1
  have b2 := ext_le q.1 q.2 cols h.c0 h.c1
  refine sure_ok hl ?_
  rw [ha]
  refine bounds_ok h.r0 h.r1 (bounds_ok h.c0 h.c1 ?_)
  show loopP _ _
  have hcan := cut_canon h p q
  unfold cutS at hQ
  have hrl : (builtS rows cols ts).Rows = rows := rfl
  have hcl : (builtS rows cols ts).Cols = cols := rfl
  rw [hcl, hrl]
  generalize hL : cLo p.1 = L at *
  generalize hH : cHi p.2 rows = H at *
  generalize hC : cLo q.1 = C at *
  generalize hD : cHi q.2 cols = D at *
  have eE : ext p.1 p.2 rows = if L < H then H - L else 0 := by unfold ext; rw [hL, hH]
  have eF : ext q.1 q.2 cols = if C < D then D - C else 0 := by unfold ext; rw [hC, hD]
  generalize ext p.1 p.2 rows = E at *
  generalize ext q.1 q.2 cols = F at *
  dsimp only
  obtain ⟨n, hn⟩ : ∃ n : Nat, E = n := ⟨E.toNat, by omega⟩
  rw [hn]
  refine range_intro (fun (s : List Triple) i => (s, i)) 0 n (by omega) (fun i s => s = cutT L (L + (i : Nat)) C D ts) (by omega) (s0 := []) (by rw [cut_nil (by omega)]) (fun i s next _ hi hm hnx => ?_) (fun s next hm => ?_)
  · subst hm
    dsimp only
    have hLH : L < H ∧ E = H - L := by
      by_cases e : L < H
      · rw [if_pos e] at eE; exact ⟨e, eE⟩
      · rw [if_neg e] at eE; omega
    obtain ⟨v, hv⟩ : ∃ v : Nat, L + (i : Int) = v := ⟨(L + i).toNat, by omega⟩
    have e1 : w64 (L + (i : Int)) = v := by rw [w64_id (by omega) (by omega)]; exact hv
    rw [e1]
    refine ifP_dec (fun _ => ?_) (fun h => by omega)
    refine csr_row_ok h.sml (sure_built h) h ?_
    have erow : rowS rows ts v = (segS ts v).map itS := by unfold rowS; rw [if_pos (by omega), Int.toNat_natCast]
    rw [erow]
    have hsl := seg_len_le ts v
    have hrow : ∀ t ∈ segS ts v, t.Row = v := fun t ht => by simpa using (List.mem_filter.1 ht).2
    have hin : ∀ t ∈ segS ts v, inT rows cols t := fun t ht => h.inn t (List.mem_filter.1 ht).1
    have hcut := cut_step h.srt L C D v (by omega)
    rw [show (v : Int) + 1 = L + ((i + 1 : Nat) : Int) by omega] at hcut
    rw [hcut] at hnx
    have hacc : (cutT L v C D ts).length ≤ ts.length := by
      unfold cutT
      rw [List.length_map]
      exact List.length_filter_le _ _
    rw [hv]
    generalize cutT L v C D ts = acc at hnx hacc
    generalize segS ts v = xs at *
    refine range_intro (fun (s : List Triple) i => (s, i)) 0 xs.length (by omega) (fun j s => s = acc ++ ((xs.take j).filter (colc C D)).map (shf L C)) (by omega) (by simp) (fun j s nx _ hj hm hnj => ?_) (fun s nx hm => ?_)
    · subst hm
      dsimp only
      refine ifP_dec (fun _ => ?_) (fun h => by simp at h; omega)
      have hm := List.getElem_mem hj
      have hi1 := hin _ hm
      have hr := hrow _ hm
      unfold inT at hi1
      have hst : (xs.take (j + 1)).filter (colc C D) = (xs.take j).filter (colc C D) ++ if colc C D xs[j] = true then [xs[j]] else [] := by
        rw [List.take_succ_eq_append_getElem hj, List.filter_append, List.filter_cons, List.filter_nil]
      refine idxP_intro (by omega) (x := itS xs[j]) (by simp [hj]) ?_
      have eAt : (itS xs[j]).At = xs[j].Col := rfl
      have eVal : (itS xs[j]).Val = xs[j].Val := rfl
      rw [eAt, eVal]
      refine join_intro (fun b => b = colc C D xs[j]) ?_ fun k hk => ?_
      · rintro _ rfl
        refine ⟨fun hc => appP_intro ?_ (hnj _ ?_), fun hc => hnj _ ?_⟩
        · have := List.length_filter_le (colc C D) (xs.take j)
          have h4 : (xs.take j).length ≤ xs.length := by simp; omega
          simp only [List.length_append, List.length_map, List.length_singleton]
          omega
        · have hc' : C ≤ xs[j].Col ∧ xs[j].Col < D := by simpa [colc] using hc
          rw [hst, if_pos hc, List.map_append, List.append_assoc, w64_id (x := xs[j].Col - C) (by omega) (by omega)]
          have : (⟨(i : Int), xs[j].Col - C, xs[j].Val⟩ : Triple) = shf L C xs[j] := by unfold shf; rw [show (i : Int) = xs[j].Row - L by omega]
          rw [this]; rfl
        · rw [hst, if_neg (by simp [hc]), List.append_nil]
      · refine ifP_dec (fun hc => hk _ ?_) (fun hc => hk _ ?_)
        · unfold colc
          apply decide_eq_decide.2
          rw [eF, w64_id (x := xs[j].Col - C) (by omega) (by omega)]
          split <;> omega
        · unfold colc; symm; apply decide_eq_false; omega
    · subst hm
      dsimp only
      refine ifP_dec (fun h => by simp at h) (fun _ => hnx _ ?_)
      rw [List.take_length]
  · subst hm
    dsimp only
    refine ifP_dec (fun h => by omega) (fun _ => ?_)
    have e : cutT L (L + (n : Int)) C D ts = cutT L H C D ts := by
      by_cases e : L < H
      · rw [if_pos e] at eE; rw [show L + (n : Int) = H by omega]
      · rw [if_neg e] at eE; rw [cut_nil (by omega), cut_nil (by omega)]
    rw [e]
    rw [hn] at hcan hQ
    refine built_ok (by omega) (by omega) (by have := hcan.len; omega) (fun t ht => ?_) hQ
    have := hcan.inn t ht
    unfold inT at this
    exact ⟨this.1, this.2.1⟩
/-! ### Graphs -/
theorem fin_canon {r rows cols : Int} {kvs : List (Key × Int)} (h : 0 ≤ rows ∧ rows ≤ 4096 ∧ 0 ≤ cols ∧ cols ≤ 4096) (hl : kvs.length ≤ 65536) (hk : ∀ t ∈ kvs, inT rows cols (mkT t.1 0)) (hv : ∀ t ∈ kvs, inI t.2) : Canon rows cols (finS (SC r kvs) mkT).1 := by
  refine ⟨h.1, h.2.1, h.2.2.1, h.2.2.2, ?_, ?_, ?_⟩
  · exact Nat.le_trans (fin_len _) (by have := (SC_prop r kvs hv).1; omega)
  · unfold finS
    split
    · unfold Srt
      rw [List.pairwise_map]
      exact SC_srt r kvs
    · exact .nil
  · intro t ht
    unfold finS at ht
    split at ht
    · obtain ⟨p, hp, rfl⟩ := List.mem_map.1 ht
      obtain ⟨x, hx, e⟩ := SC_keys hp
      have := hk x hx
      unfold inT mkT at *
      rw [← e]
      exact this
    · simp at ht
end Go.Proofs.YtjabmpfcpekpdaaGreat

/- What must be whatever is asked; the statements CsrOf, CsrAsks, in plain Lean. -/
namespace Go.Proofs.YtjabmpfcpekpdaaGreat
open Go Go.Fw
set_option linter.unusedVariables false
set_option linter.unusedSimpArgs false
theorem inR_i64 {x : Int} (h : inR .i64 x) : inI x := by have := bounds_i64 h; unfold inI; omega
theorem few_ok {ts : List Triple} {Q : List Triple → Prop} (hQ : ∀ ys : List Triple, ys.length ≤ 60 → (∀ t ∈ ys, t ∈ ts) → Q ys) : law07_Few ts Q := by
  unfold law07_Few
  refine ifP_dec (fun h => ⟨by decide, by decide, by omega, hQ _ ?_ fun t ht => ?_⟩) (fun h => hQ _ (by omega) fun t ht => ht)
  · simp; omega
  · exact List.mem_of_mem_take (List.mem_of_mem_drop ht)
theorem of_cases {r rows cols : Int} {ts : List Triple} (hv : ∀ t ∈ ts, inI t.Val) : ((ofS r rows cols ts).1 = zR ∧ (ofS r rows cols ts).2 ≠ 0) ∨ ∃ T, Canon rows cols T ∧ ofS r rows cols ts = (builtS rows cols T, 0) ∧ (1 ≤ r ∧ r ≤ 5) ∧ (∀ t ∈ ts, inT rows cols t) ∧ ts.length ≤ 65536 ∧ (0 ≤ rows ∧ rows ≤ 4096 ∧ 0 ≤ cols ∧ cols ≤ 4096) ∧ T = (finS (SC r (ts.map kvT)) mkT).1 ∧ (finS (SC r (ts.map kvT)) mkT).2 = 0 := by
  unfold ofS
  split
  · left; exact ⟨rfl, by simp⟩
  split
  · left; exact ⟨rfl, by simp⟩
  split
  · left; exact ⟨rfl, by simp⟩
  split
  · left; exact ⟨rfl, by simp⟩
  split
  · rename_i h; left; exact ⟨rfl, h⟩
  · rename_i h1 h2 h3 h4 h5
    right
    have h2 := Decidable.of_not_not h2
    have h4 := Decidable.of_not_not h4
    refine ⟨_, fin_canon h2 (by simpa using h3) (fun t ht => ?_) (fun t ht => ?_), rfl, Decidable.of_not_not h1, h4, by omega, h2, rfl, Decidable.of_not_not h5⟩
    · obtain ⟨x, hx, rfl⟩ := List.mem_map.1 ht
      exact h4 x hx
    · obtain ⟨x, hx, rfl⟩ := List.mem_map.1 ht
      exact hv x hx
end Go.Proofs.YtjabmpfcpekpdaaGreat

/- The statements CsrBack, CsrTurns, CsrCuts, in plain Lean. -/
namespace Go.Proofs.YtjabmpfcpekpdaaGreat
open Go Go.Fw
set_option linter.unusedVariables false
set_option linter.unusedSimpArgs false
theorem nar_inI (a : Wide) : inI (narS a).1 := by
  unfold narS inI
  split
  · simp only [w64_eq]; omega
  · simp
theorem cut_mem {l h c d : Int} {T : List Triple} (t : Triple) : t ∈ cutT l h c d T ↔ (⟨t.Row + l, t.Col + c, t.Val⟩ : Triple) ∈ T ∧ (0 ≤ t.Row ∧ t.Row + l < h) ∧ 0 ≤ t.Col ∧ t.Col + c < d := by
  unfold cutT
  simp only [List.mem_map, List.mem_filter, decide_eq_true_eq]
  constructor
  · rintro ⟨u, ⟨hu, hc⟩, rfl⟩
    simp only
    rw [show u.Row - l + l = u.Row by omega, show u.Col - c + c = u.Col by omega]
    exact ⟨hu, by omega, by omega, by omega⟩
  · rintro ⟨hm, hc⟩
    refine ⟨_, ⟨hm, ?_⟩, ?_⟩
    · simp only; omega
    · cases t; simp only [Triple.mk.injEq]; exact ⟨by omega, by omega, trivial⟩
end Go.Proofs.YtjabmpfcpekpdaaGreat

/- Lists of sums as one: by a heap, and two by two. -/
namespace Go.Proofs.YtjabmpfcpekpdaaGreat
open Go Go.Fw
set_option linter.unusedVariables false
set_option linter.unusedSimpArgs false
/-! ### Lists that rise, looked up -/
/-! ### Two as one -/
def cmb (r : Int) : Option Wide → Option Wide → Option Wide
  | none, y => y
  | some a, none => some a
  | some a, some b => some (addW r a b)
theorem cmb_none (r : Int) (a : Option Wide) : cmb r a none = a := by cases a <;> rfl
/-! ### Many as one -/
end Go.Proofs.YtjabmpfcpekpdaaGreat

/- Products at two words: by halves and by doubling, and the rings' products. -/
namespace Go.Proofs.YtjabmpfcpekpdaaGreat
open Go Go.Fw
set_option linter.unusedVariables false
set_option linter.unusedSimpArgs false
/-! ### Two words as a number -/
def ofZ (z : Int) : Wide := ⟨w64 (z / 18446744073709551616), z % 18446744073709551616⟩
theorem ofZ_okW (z : Int) : okW (ofZ z) := by unfold okW ofZ; simp only [w64_eq]; omega
theorem ofZ_add (x y : Int) : addW 5 (ofZ x) (ofZ y) = ofZ (x + y) := by
  have e : addW 5 (ofZ x) (ofZ y) = ⟨w64 ((ofZ x).Hi + (ofZ y).Hi + (if 18446744073709551616 ≤ (ofZ x).Lo + (ofZ y).Lo then 1 else 0)), ((ofZ x).Lo + (ofZ y).Lo) % 18446744073709551616⟩ := rfl
  rw [e]
  unfold ofZ
  apply wide_eta
  · simp only [w64_eq]; split <;> omega
  · simp only; omega
theorem ofI_ofZ {v : Int} (h : inI v) : ofI v = ofZ v := by
  unfold ofI ofZ inI at *
  apply wide_eta
  · simp only [w64_eq]; split <;> omega
  · rfl
theorem ofZ_nat {hi lo : Int} (h0 : 0 ≤ lo) (h1 : lo < 18446744073709551616) : (⟨w64 hi, lo⟩ : Wide) = ofZ (hi * 18446744073709551616 + lo) := by
  unfold ofZ
  apply wide_eta
  · simp only [w64_eq]; omega
  · simp only; omega
/-! ### Bits of one word -/
theorem shr_u {x : Int} (k : Nat) (hk : k ≤ 64) : shr .u64 x k = x / 2 ^ k := by
  unfold shr
  rw [Int.fdiv_eq_ediv_of_nonneg _ (Int.le_of_lt (Int.pow_pos (by omega)))]
  have : min (Int.toNat (k : Int)) (IntKind.bits .u64) = k := by simp [IntKind.bits]; omega
  rw [this]
theorem shl_u {x : Int} (k : Nat) (hk : k ≤ 64) : shl .u64 x k = (x * 2 ^ k) % 18446744073709551616 := by
  unfold shl
  rw [u64_eq]
  have : min (Int.toNat (k : Int)) (IntKind.bits .u64) = k := by simp [IntKind.bits]; omega
  rw [this]
theorem ofInt_nat (x : Int) (h0 : 0 ≤ x) (h1 : x < 18446744073709551616) : (BitVec.ofInt 64 x).toNat = x.toNat := by
  rw [BitVec.toNat_ofInt]
  congr 1
  exact Int.emod_eq_of_lt h0 (by simpa using h1)
theorem bor_nat {x y : Int} (hx0 : 0 ≤ x) (hx1 : x < 18446744073709551616) (hy0 : 0 ≤ y) (hy1 : y < 18446744073709551616) : bor .u64 x y = ((x.toNat ||| y.toNat : Nat) : Int) := by
  unfold bor
  have e : (BitVec.ofInt (IntKind.bits .u64) x ||| BitVec.ofInt (IntKind.bits .u64) y).toNat = x.toNat ||| y.toNat := by
    show (BitVec.ofInt 64 x ||| BitVec.ofInt 64 y).toNat = _
    rw [BitVec.toNat_or, ofInt_nat x hx0 hx1, ofInt_nat y hy0 hy1]
  rw [e, u64_eq]
  have : x.toNat ||| y.toNat < 2 ^ 64 := Nat.or_lt_two_pow (by omega) (by omega)
  omega
theorem bor_halves {h l : Int} (hh0 : 0 ≤ h) (hh1 : h < 4294967296) (hl0 : 0 ≤ l) (hl1 : l < 4294967296) : bor .u64 (h * 4294967296) l = h * 4294967296 + l := by
  rw [bor_nat (by omega) (by omega) hl0 (by omega)]
  have e : (h * 4294967296).toNat = h.toNat <<< 32 := by rw [Nat.shiftLeft_eq]; omega
  rw [e, ← Nat.shiftLeft_add_eq_or_of_lt (by omega), Nat.shiftLeft_eq]
  omega
/-! ### Products -/
theorem halves_ok {x : Int} {Q : Int × Int → Prop} (h0 : 0 ≤ x) (h1 : x < 18446744073709551616) (hQ : Q (x % 4294967296, x / 4294967296)) : wide_halves x Q := by
  unfold wide_halves
  have e1 : shl .u64 x 32 = (x * 4294967296) % 18446744073709551616 := shl_u 32 (by omega)
  have e2 : ∀ y, shr .u64 y 32 = y / 4294967296 := fun y => shr_u 32 (by omega)
  rw [e1, e2, e2]
  rwa [show x * 4294967296 % 18446744073709551616 / 4294967296 = x % 4294967296 by omega]
theorem product_ok {a b : Int} {Q : Wide → Prop} (ha0 : 0 ≤ a) (ha1 : a < 18446744073709551616) (hb0 : 0 ≤ b) (hb1 : b < 18446744073709551616) (hQ : Q (ofZ (a * b))) : wide_product a b Q := by
  unfold wide_product
  have hlt : ∀ x y : Int, 0 ≤ x → x < 4294967296 → 0 ≤ y → y < 4294967296 → 0 ≤ x * y ∧ x * y ≤ 18446744065119617025 := by
    intro x y h1 h2 h3 h4
    refine ⟨Int.mul_nonneg h1 h3, ?_⟩
    have := Int.mul_le_mul (show x ≤ 4294967295 by omega) (show y ≤ 4294967295 by omega) h3 (by omega)
    omega
  refine halves_ok ha0 ha1 (halves_ok hb0 hb1 ?_)
  simp only
  obtain ⟨x0, hx0⟩ : ∃ x0, x0 = a % 4294967296 := ⟨_, rfl⟩
  obtain ⟨x1, hx1⟩ : ∃ x1, x1 = a / 4294967296 := ⟨_, rfl⟩
  obtain ⟨y0, hy0⟩ : ∃ y0, y0 = b % 4294967296 := ⟨_, rfl⟩
  obtain ⟨y1, hy1⟩ : ∃ y1, y1 = b / 4294967296 := ⟨_, rfl⟩
  rw [← hx0, ← hx1, ← hy0, ← hy1]
  have hab : a * b = x1 * y1 * 18446744073709551616 + (x1 * y0 + x0 * y1) * 4294967296 + x0 * y0 := by
    have e1 : a = x1 * 4294967296 + x0 := by omega
    have e2 : b = y1 * 4294967296 + y0 := by omega
    rw [e1, e2, Int.add_mul, Int.mul_add, Int.mul_add]
    have q1 : x1 * 4294967296 * (y1 * 4294967296) = x1 * y1 * 18446744073709551616 := by rw [Int.mul_assoc, Int.mul_left_comm 4294967296 y1, ← Int.mul_assoc x1]; rfl
    have q2 : x1 * 4294967296 * y0 = x1 * y0 * 4294967296 := Int.mul_right_comm _ _ _
    have q3 : x0 * (y1 * 4294967296) = x0 * y1 * 4294967296 := (Int.mul_assoc _ _ _).symm
    rw [q1, q2, q3]; omega
  obtain ⟨b00, c00⟩ := hlt x0 y0 (by omega) (by omega) (by omega) (by omega)
  obtain ⟨b01, c01⟩ := hlt x0 y1 (by omega) (by omega) (by omega) (by omega)
  obtain ⟨b10, c10⟩ := hlt x1 y0 (by omega) (by omega) (by omega) (by omega)
  obtain ⟨b11, c11⟩ := hlt x1 y1 (by omega) (by omega) (by omega) (by omega)
  generalize x0 * y0 = p00 at *
  generalize x0 * y1 = p01 at *
  generalize x1 * y0 = p10 at *
  generalize x1 * y1 = p11 at *
  simp only [u64_eq]
  refine halves_ok (by omega) (by omega) ?_
  simp only
  refine halves_ok (by omega) (by omega) ?_
  simp only
  refine halves_ok (by omega) (by omega) (halves_ok (by omega) (by omega) ?_)
  simp only
  have e3 : ∀ y, shl .u64 y 32 = (y * 4294967296) % 18446744073709551616 := fun y => shl_u 32 (by omega)
  rw [e3]
  have e4 : ∀ y : Int, (y % 4294967296 * 4294967296) % 18446744073709551616 = y % 4294967296 * 4294967296 := fun y => by omega
  rw [e4, bor_halves (by omega) (by omega) (by omega) (by omega), ofZ_nat (by omega) (by omega)]
  rw [hab] at hQ
  have hfin : ofZ (((((p11 % 18446744073709551616 + (p10 % 18446744073709551616 + p00 % 18446744073709551616 / 4294967296) % 18446744073709551616 / 4294967296) % 18446744073709551616 + (p01 % 18446744073709551616 + (p10 % 18446744073709551616 + p00 % 18446744073709551616 / 4294967296) % 18446744073709551616 % 4294967296) % 18446744073709551616 / 4294967296) % 18446744073709551616) * 18446744073709551616 + ((p01 % 18446744073709551616 + (p10 % 18446744073709551616 + p00 % 18446744073709551616 / 4294967296) % 18446744073709551616 % 4294967296) % 18446744073709551616 % 4294967296 * 4294967296 + p00 % 18446744073709551616 % 4294967296))) = ofZ (p11 * 18446744073709551616 + (p10 + p01) * 4294967296 + p00) := by
    unfold ofZ
    apply wide_eta
    · simp only [w64_eq]; omega
    · simp only; omega
  rw [hfin]; exact hQ
theorem okW_toZ {a : Wide} (h : okW a) : a = ofZ (a.Hi * 18446744073709551616 + a.Lo) := by
  unfold okW at h
  rw [← ofZ_nat (by omega) (by omega)]
  apply wide_eta
  · simp only [w64_eq]; omega
  · rfl
theorem sub_ok {x : Int} {Q : Wide → Prop} (hQ : Q (ofZ (-x))) : wide_Sub ⟨0, 0⟩ (ofZ x) Q := by
  unfold wide_Sub wide_carry
  have key : ∀ c : Int, (c = if 0 < (ofZ x).Lo then 1 else 0) → (⟨w64 ((((0 % 18446744073709551616) - ((ofZ x).Hi % 18446744073709551616)) % 18446744073709551616 - c) % 18446744073709551616), (0 - (ofZ x).Lo) % 18446744073709551616⟩ : Wide) = ofZ (-x) := by
    intro c hc
    unfold ofZ at *
    subst hc
    apply wide_eta
    · simp only [w64_eq]; split <;> omega
    · simp only; omega
  simp only [u64_eq]
  refine ifP_dec (fun h => ?_) (fun h => ?_)
  · rw [key 1 (by rw [if_pos h])]; exact hQ
  · rw [key 0 (by rw [if_neg h])]; exact hQ
theorem wide_Mul_ok {a b : Int} {Q : Wide → Prop} (ha : inI a) (hb : inI b) (hQ : Q (ofZ (a * b))) : wide_Mul a b Q := by
  unfold wide_Mul
  unfold inI at ha hb
  have hs : ∀ {x : Int} {K : Int → Prop}, -9223372036854775808 ≤ x ∧ x ≤ 9223372036854775807 → K (if x < 0 then -x else x) → wide_size x K := by
    intro x K hx hK
    unfold wide_size
    simp only [u64_eq]
    refine ifP_dec (fun h => ?_) (fun h => ?_)
    · rw [if_pos h] at hK; rwa [show (0 - x % 18446744073709551616) % 18446744073709551616 = -x by omega]
    · rw [if_neg h] at hK; rwa [show x % 18446744073709551616 = x by omega]
  refine hs ha (hs hb ?_)
  have m1 : -a * b = -(a * b) := Int.neg_mul _ _
  have m2 : a * -b = -(a * b) := Int.mul_neg _ _
  have m3 : -a * -b = a * b := Int.neg_mul_neg _ _
  refine product_ok (by split <;> omega) (by split <;> omega) (by split <;> omega) (by split <;> omega) ?_
  by_cases h1 : a < 0 <;> by_cases h2 : b < 0
  · rw [if_pos h1, if_pos h2, m3]
    exact ifP_neg (by simp [h1, h2]) hQ
  · rw [if_pos h1, if_neg h2, m1]
    exact ifP_pos (by simp [h1, h2]) (sub_ok (by rwa [Int.neg_neg]))
  · rw [if_neg h1, if_pos h2, m2]
    exact ifP_pos (by simp [h1, h2]) (sub_ok (by rwa [Int.neg_neg]))
  · rw [if_neg h1, if_neg h2]
    exact ifP_neg (by simp [h1, h2]) hQ
def mulW (r a x : Int) : Wide :=
  if r = 2 then (if a ≠ 0 ∧ x ≠ 0 then ⟨0, 1⟩ else ⟨0, 0⟩)
  else if r = 5 then ofZ (a * x)
  else if r = 1 ∨ r = 3 ∨ r = 4 then
    (if 4611686018427387904 ≤ a ∨ 4611686018427387904 ≤ x then ofZ 4611686018427387904
     else if r = 3 then ofZ a else if r = 4 then ofZ x else if leW (ofZ 4611686018427387904) (ofZ (a + x)) then ofZ 4611686018427387904 else ofZ (a + x))
  else ⟨0, 0⟩
theorem mulW_okW (r a x : Int) : okW (mulW r a x) := by
  have h0 : okW ⟨0, 0⟩ := by unfold okW; simp
  have h1 : okW ⟨0, 1⟩ := by unfold okW; simp
  unfold mulW
  repeat' split
  all_goals first | exact ofZ_okW _ | exact h0 | exact h1
theorem leW_ofZ {x y : Int} (hx : -170141183460469231731687303715884105728 ≤ x ∧ x < 170141183460469231731687303715884105728) (hy : -170141183460469231731687303715884105728 ≤ y ∧ y < 170141183460469231731687303715884105728) : leW (ofZ x) (ofZ y) ↔ x ≤ y := by
  have h : ∀ z : Int, -170141183460469231731687303715884105728 ≤ z ∧ z < 170141183460469231731687303715884105728 → w64 (z / 18446744073709551616) = z / 18446744073709551616 := by
    intro z hz; rw [w64_eq]; omega
  unfold leW ofZ
  simp only [h x hx, h y hy]
  omega
theorem ring_Mul_ok {r a x : Int} {Q : Wide → Prop} (ha : inI a) (hx : inI x) (hQ : Q (mulW r a x)) : ring_Mul r a x Q := by
  unfold ring_Mul
  unfold mulW at hQ
  have ia : inI 4611686018427387904 := by unfold inI; omega
  refine ifP_eq (fun h => ?_) (fun h => ifP_eq (fun h5 => ?_) (fun h5 => ?_))
  · rw [if_pos h] at hQ
    refine ifP_ne (fun h1 => truth_ok ?_) (fun h1 => truth_ok ?_)
    · simpa [h1] using hQ
    · simpa [h1] using hQ
  · rw [if_neg h, if_pos h5] at hQ
    exact wide_Mul_ok ha hx hQ
  · rw [if_neg h, if_neg h5] at hQ
    have emax : (if x > a then x else a) ≥ 4611686018427387904 ↔ 4611686018427387904 ≤ a ∨ 4611686018427387904 ≤ x := by split <;> omega
    refine join_intro (fun _ => ¬ ((1 ≤ r ∧ r ≤ 5) ∧ (4611686018427387904 ≤ a ∨ 4611686018427387904 ≤ x))) ?_ ?_
    · rintro _ hno
      refine join_intro (fun p : Int × Int => (⟨p.1, p.2⟩ : Wide) = ofZ (if r = 1 then a else 0) ∧ (r = 1 ∨ r = 4)) ?_ ?_
      · rintro ⟨p1, p2⟩ ⟨hp, hr⟩
        simp only at hp ⊢
        refine wide_Of_ok ia (wide_Of_ok hx ?_)
        rw [hp, ofI_ofZ ia, ofI_ofZ hx]
        refine wide_Add_ok (ofZ_okW _) (ofZ_okW _) (lesser_ok ?_)
        rw [ofZ_add]
        rw [if_pos (by omega), if_neg (by omega), if_neg (by omega)] at hQ
        rcases hr with hr | hr
        · rw [if_pos hr]; rwa [if_neg (by omega)] at hQ
        · rw [if_neg (show ¬ r = 1 by omega), show (0 : Int) + x = x by omega]
          rw [if_pos hr] at hQ
          unfold inI at hx
          rwa [if_neg (by rw [leW_ofZ (by omega) (by omega)]; omega)]
      · intro k hk
        refine ifP_eq (fun h1 => wide_Of_ok ha (hk _ ⟨?_, .inl h1⟩)) (fun h1 => ifP_eq (fun h4 => hk _ ⟨?_, .inr h4⟩) (fun h4 => ifP_eq (fun h3 => wide_Of_ok ha ?_) (fun h3 => ?_)))
        · rw [if_pos h1]; exact ofI_ofZ ha
        · rw [if_neg h1]; decide
        · rw [if_pos (by omega), if_neg (by omega), if_pos h3] at hQ
          rw [ofI_ofZ ha]; exact hQ
        · rw [if_neg (by omega)] at hQ; exact hQ
    · intro k hk
      refine ring_Is_ok ⟨fun h1 => ifP_dec (fun h2 => wide_Of_ok ia ?_) (fun h2 => hk _ ?_), fun h1 => hk _ ?_⟩
      · have h1 := of_decide_eq_true h1
        rw [if_pos (by omega), if_pos (emax.1 h2)] at hQ
        rw [ofI_ofZ ia]; exact hQ
      · exact fun h' => h2 (emax.2 h'.2)
      · exact fun h' => of_decide_eq_false h1 h'.1
end Go.Proofs.YtjabmpfcpekpdaaGreat

/- Vectors by their items, and as words. -/
namespace Go.Proofs.YtjabmpfcpekpdaaGreat
open Go Go.Fw
set_option linter.unusedVariables false
set_option linter.unusedSimpArgs false
/-! ### Vectors that can be -/
def IncI (l : List Item) : Prop := l.Pairwise fun a b => a.At < b.At
instance (l : List Item) : Decidable (IncI l) := by unfold IncI; infer_instance
structure VecP (v : Vec) : Prop where
  n0 : 0 ≤ v.N
  n1 : v.N ≤ 4096
  inc : IncI v.Items
  ins : ∀ x ∈ v.Items, 0 ≤ x.At ∧ x.At < v.N
instance (v : Vec) : Decidable (VecP v) := decidable_of_iff (0 ≤ v.N ∧ v.N ≤ 4096 ∧ IncI v.Items ∧ ∀ x ∈ v.Items, 0 ≤ x.At ∧ x.At < v.N) ⟨fun ⟨a, b, c, d⟩ => ⟨a, b, c, d⟩, fun ⟨a, b, c, d⟩ => ⟨a, b, c, d⟩⟩
theorem IncI.at {l : List Item} (h : IncI l) {i j : Nat} (hj : j < l.length) (hij : i < j) : (l[i]'(by omega)).At < l[j].At := by
  unfold IncI at h; rw [List.pairwise_iff_getElem] at h; exact h i j (by omega) hj hij
theorem incI_len {l : List Item} (h : IncI l) {n : Int} (hn : 0 ≤ n) (hi : ∀ x ∈ l, 0 ≤ x.At ∧ x.At < n) : (l.length : Int) ≤ n := by
  have : ∀ k (hk : k < l.length), (k : Int) ≤ l[k].At := by
    intro k
    induction k with
    | zero => intro hk; exact (hi _ (List.getElem_mem hk)).1
    | succ k ih => intro hk; have := ih (by omega); have := h.at hk (i := k) (by omega); omega
  rcases Nat.eq_zero_or_pos l.length with e | e
  · rw [e]; exact hn
  · have h1 := this (l.length - 1) (by omega)
    have h2 := hi _ (List.getElem_mem (show l.length - 1 < l.length by omega))
    omega
theorem VecP.len {v : Vec} (h : VecP v) : v.Items.length ≤ 4096 := by have := incI_len h.inc h.n0 h.ins; have := h.n1; omega
/-- a list made of another's elements, one by one -/
theorem map_loop {α β : Type} {xs : List α} {f : α → β} {body : List β × Int → (List β × Int → Prop) → Prop} (hl : xs.length ≤ 1000000000)
    (hs : ∀ (i : Nat) (s : List β) (next : List β × Int → Prop) (hi : i < xs.length), s.length = i → (next (s ++ [f xs[i]], w64 ((i : Int) + 1))) → body (s, (i : Int)) next)
    (he : ∀ (next : List β × Int → Prop) s, s = xs.map f → body (s, (xs.length : Int)) next) : loopP body ([], 0) := by
  refine range_intro (fun (s : List β) i => (s, i)) 0 xs.length (by omega) (fun k s => s = (xs.take k).map f) (by omega) (by simp) (fun k s next _ hk hs' hn => ?_) (fun s next hs' => ?_)
  · refine hs k s next hk (by subst hs'; simp; omega) (hn _ ?_)
    subst hs'
    rw [List.take_succ_eq_append_getElem hk, List.map_append]; rfl
  · rw [List.take_length] at hs'
    exact he next s hs'
/-! ### Values -/
def kvI (x : Item) : Int × Int := (x.At, x.Val)
def lkI (l : List Item) (i : Int) : Option Int := mget i (l.map kvI)
theorem lkI_cons (s : Item) (l : List Item) (i : Int) : lkI (s :: l) i = if i = s.At then some s.Val else lkI l i := rfl
theorem lkI_none : ∀ {l : List Item} {i : Int}, (∀ s ∈ l, s.At ≠ i) → lkI l i = none
  | [], _, _ => rfl
  | s :: l, i, h => by rw [lkI_cons, if_neg (fun e => h s (by simp) e.symm)]; exact lkI_none fun x hx => h x (by simp [hx])
theorem lkI_mem : ∀ {l : List Item} {i : Int} {v : Int}, lkI l i = some v → ⟨i, v⟩ ∈ l
  | s :: l, i, v, h => by
    rw [lkI_cons] at h
    split at h
    · rename_i e; cases h; subst e; simp
    · exact List.mem_cons_of_mem _ (lkI_mem h)
theorem mem_lkI : ∀ {l : List Item} (h : IncI l) {s : Item}, s ∈ l → lkI l s.At = some s.Val
  | x :: l, h, s, hs => by
    unfold IncI at h
    rw [List.pairwise_cons] at h
    rw [lkI_cons]
    rcases List.mem_cons.1 hs with e | hs
    · subst e; rw [if_pos rfl]
    · have := h.1 s hs
      rw [if_neg (by omega)]; exact mem_lkI h.2 hs
theorem lkI_append : ∀ (l : List Item) (m : List Item) (i : Int), lkI (l ++ m) i = match lkI l i with | some v => some v | none => lkI m i
  | [], m, i => rfl
  | s :: l, m, i => by
    rw [List.cons_append, lkI_cons, lkI_cons]
    split
    · rfl
    · exact lkI_append l m i
/-! ### As words -/
theorem IncI.take {l : List Item} (h : IncI l) (k : Nat) : IncI (l.take k) := List.Pairwise.sublist (List.take_sublist k l) h
end Go.Proofs.YtjabmpfcpekpdaaGreat

/- A matrix times a vector: column by column, and row by row. -/
namespace Go.Proofs.YtjabmpfcpekpdaaGreat
open Go Go.Fw
set_option linter.unusedVariables false
set_option linter.unusedSimpArgs false
/-! ### What each row comes to -/
def stepW (r : Int) (A B : Int → Option Int) (acc : Option Wide) (k : Int) : Option Wide := match A k, B k with | some a, some x => cmb r acc (some (mulW r a x)) | _, _ => acc
def rowW (r : Int) (n : Nat) (A B : Int → Option Int) : Option Wide := (List.range n).foldl (fun acc (k : Nat) => stepW r A B acc k) none
theorem stepW_okW {r : Int} {A B : Int → Option Int} {acc : Option Wide} (h : ∀ w, acc = some w → okW w) (k : Int) : ∀ w, stepW r A B acc k = some w → okW w := by
  intro w hw
  unfold stepW at hw
  split at hw
  · cases acc with
    | none => cases hw; exact mulW_okW _ _ _
    | some b => cases hw; exact addW_okW (h b rfl) (mulW_okW _ _ _)
  · exact h w hw
theorem rowW_okW (r : Int) (n : Nat) (A B : Int → Option Int) : ∀ w, rowW r n A B = some w → okW w := by
  unfold rowW
  induction n with
  | zero => intro w hw; cases hw
  | succ n ih => rw [List.range_succ, List.foldl_append]; exact stepW_okW ih n
theorem foldl_same {β γ : Type} {f g : β → γ → β} : ∀ {l : List γ} {a : β}, (∀ acc k, k ∈ l → f acc k = g acc k) → l.foldl f a = l.foldl g a
  | [], _, _ => rfl
  | x :: l, a, h => by rw [List.foldl_cons, List.foldl_cons, h a x (by simp)]; exact foldl_same fun acc k hk => h acc k (by simp [hk])
/-- going through items that rise is going through all places -/
theorem inc_fold {β : Type} {step : β → Int → Int → β} {a : β} : ∀ {n : Nat} {l : List Item}, IncI l → (∀ x ∈ l, 0 ≤ x.At ∧ x.At < n) →
    l.foldl (fun acc x => step acc x.At x.Val) a = (List.range n).foldl (fun acc (k : Nat) => match lkI l k with | some v => step acc k v | none => acc) a
  | 0, l, h, hi => by
    cases l with
    | nil => rfl
    | cons x l => have := hi x (by simp); omega
  | n + 1, l, h, hi => by
    rw [List.range_succ, List.foldl_append]
    simp only [List.foldl_cons, List.foldl_nil]
    have hc : l = [] ∨ ∃ p y, l = p ++ [y] := by
      rcases List.eq_nil_or_concat l with h | ⟨p, y, h⟩
      · exact .inl h
      · exact .inr ⟨p, y, by rw [h, List.concat_eq_append]⟩
    have old : ∀ {l : List Item}, IncI l → (∀ x ∈ l, 0 ≤ x.At ∧ x.At < n) → lkI l n = none := fun _ hi => lkI_none fun s hs => by have := hi s hs; omega
    rcases hc with e | ⟨p, y, e⟩
    · subst e
      rw [← inc_fold (n := n) (l := []) h (by simp)]; rfl
    · subst e
      have hp : IncI p := (List.pairwise_append.1 h).1
      have hlt : ∀ x ∈ p, x.At < y.At := fun x hx => (List.pairwise_append.1 h).2.2 x hx y (by simp)
      by_cases ey : y.At = n
      · have hpin : ∀ x ∈ p, 0 ≤ x.At ∧ x.At < n := fun x hx => ⟨(hi x (by simp [hx])).1, by have := hlt x hx; omega⟩
        have e1 : lkI (p ++ [y]) n = some y.Val := by rw [lkI_append, old hp hpin, lkI_cons, if_pos ey.symm]
        rw [e1, List.foldl_append, inc_fold hp hpin]
        simp only [List.foldl_cons, List.foldl_nil, ey]
        congr 1
        refine foldl_same fun acc k hk => ?_
        have hk := List.mem_range.1 hk
        have : lkI (p ++ [y]) k = lkI p k := by rw [lkI_append, lkI_cons, if_neg (by omega)]; cases lkI p k <;> rfl
        rw [this]
      · have hin : ∀ x ∈ p ++ [y], 0 ≤ x.At ∧ x.At < n := by
          intro x hx
          have h1 := hi x hx
          refine ⟨h1.1, ?_⟩
          have hy := hi y (by simp)
          rcases List.mem_append.1 hx with hx | hx
          · have := hlt x hx; omega
          · simp only [List.mem_singleton] at hx; subst hx; omega
        rw [old h hin, inc_fold h hin]
/-! ### Columns -/
/-! ### The program: column by column -/
end Go.Proofs.YtjabmpfcpekpdaaGreat

/- A matrix times a vector, row by row, and sums as a vector. -/
namespace Go.Proofs.YtjabmpfcpekpdaaGreat
open Go Go.Fw
set_option linter.unusedVariables false
set_option linter.unusedSimpArgs false
def stepI (r : Int) (B : Int → Option Int) (acc : Option Wide) (y : Item) : Option Wide := match B y.At with | some x => cmb r acc (some (mulW r y.Val x)) | none => acc
theorem stepI_okW {r : Int} {B : Int → Option Int} {acc : Option Wide} (h : ∀ w, acc = some w → okW w) (y : Item) : ∀ w, stepI r B acc y = some w → okW w := by
  intro w hw
  unfold stepI at hw
  split at hw
  · cases acc with
    | none => cases hw; exact mulW_okW _ _ _
    | some b => cases hw; exact addW_okW (h b rfl) (mulW_okW _ _ _)
  · exact h w hw
theorem foldI_okW (r : Int) (B : Int → Option Int) : ∀ (l : List Item) (acc : Option Wide), (∀ w, acc = some w → okW w) → ∀ w, l.foldl (stepI r B) acc = some w → okW w
  | [], acc, h => h
  | y :: l, acc, h => foldI_okW r B l _ (stepI_okW h y)
theorem row_fold {r : Int} {B : Int → Option Int} {n : Nat} {l : List Item} (h : IncI l) (hi : ∀ x ∈ l, 0 ≤ x.At ∧ x.At < n) : l.foldl (stepI r B) none = rowW r n (lkI l) B := by
  have := inc_fold (step := fun acc k a => match B k with | some x => cmb r acc (some (mulW r a x)) | none => acc) (a := none) h hi
  refine this.trans (foldl_same fun acc k _ => ?_)
  unfold stepW
  cases lkI l (k : Int) <;> cases B (k : Int) <;> rfl
def rowI (ts : List Triple) (i : Int) : List Item := (segS ts i.toNat).map itS
/-! ### Sums as a vector -/
def zS (r : Int) : Int := if r = 1 ∨ r = 3 ∨ r = 4 then 4611686018427387904 else 0
theorem ring_Zero_ok {r : Int} {Q : Int → Prop} (hQ : Q (zS r)) : ring_Zero r Q := by
  unfold ring_Zero; unfold zS at hQ
  refine ifP_eq (fun h => ?_) (fun h => ifP_eq (fun h3 => ?_) (fun h3 => ifP_eq (fun h4 => ?_) (fun h4 => ?_)))
  · rwa [if_pos (.inl h)] at hQ
  · rwa [if_pos (.inr (.inl h3))] at hQ
  · rwa [if_pos (.inr (.inr h4))] at hQ
  · rwa [if_neg (by omega)] at hQ
end Go.Proofs.YtjabmpfcpekpdaaGreat

/- What statements make of what they are handed: matrices and vectors that can be, of values of a ring. -/
namespace Go.Proofs.YtjabmpfcpekpdaaGreat
open Go Go.Fw
set_option linter.unusedVariables false
set_option linter.unusedSimpArgs false
def sizeS (x : Int) : Int := x % 40
theorem size_is {x : Int} {Q : Int → Prop} (h : inR .u8 x) (hQ : Q (sizeS x)) : law07_Size x Q := by
  unfold law07_Size
  have hb := bounds_u8 h
  rw [w64_id (by omega) (by omega), Int.tmod_eq_emod_of_nonneg (by omega)]
  exact hQ
theorem sizeS_b (x : Int) : 0 ≤ sizeS x ∧ sizeS x ≤ 39 := by unfold sizeS; omega
theorem some_is {a0 : Int × Int} {ts : List Triple} {Q : Rows → Prop} (h0 : inR .u8 a0.1 ∧ inR .u8 a0.2) (hv : ∀ t ∈ ts, okTriple t)
    (hQ : ∀ T, Canon (sizeS a0.1) (sizeS a0.2) T → (∀ t ∈ T, inI t.Val) → Q (builtS (sizeS a0.1) (sizeS a0.2) T)) : law07_Some a0 ts Q := by
  unfold law07_Some
  have r0 := sizeS_b a0.1; have c0 := sizeS_b a0.2
  refine size_is h0.1 (size_is h0.2 (few_ok fun ys hl hm => ?_))
  refine range_intro (fun (s : List Triple) i => (s, i)) 0 ys.length (by omega) (fun i s => s.length ≤ i ∧ ∀ t ∈ s, inI t.Val) (by omega) (s0 := []) ⟨by simp, by simp⟩ (fun i s next _ hi hm2 hn => ?_) (fun s next hm2 => ?_)
  · obtain ⟨hs1, hs2⟩ := hm2
    dsimp only
    refine ifP_dec (fun _ => ?_) (fun h => by omega)
    have hskip : next (s, w64 ((i : Int) + 1)) := hn s ⟨by omega, hs2⟩
    refine idxP_nat hi (ifP_dec (fun _ => hskip) (fun _ => ifP_dec (fun _ => hskip) (fun _ => ifP_eq (fun _ => hskip) (fun g1 => ifP_eq (fun _ => hskip) (fun g2 => ⟨g1, g2, ?_⟩)))))
    have hx : inI ys[i].Val := inR_i64 (hv _ (hm _ (List.getElem_mem hi))).2.2
    refine appP_intro (by simp only [List.length_singleton]; omega) (hn _ ⟨by simp; omega, fun t ht => ?_⟩)
    rcases List.mem_append.1 ht with ht | ht
    · exact hs2 t ht
    · simp at ht; subst ht; exact hx
  · obtain ⟨hs1, hs2⟩ := hm2
    dsimp only
    refine ifP_dec (fun h => by omega) (fun _ => ?_)
    refine ref_Of_ok (by omega) hs2 ?_
    rcases of_cases (r := 1) (rows := sizeS a0.1) (cols := sizeS a0.2) hs2 with ⟨h1, h2⟩ | ⟨T, hT, he, _, _, _, _, hTe, _⟩
    · refine ifP_pos (by simpa using h2) ?_
      unfold ref07_Empty
      have e : w64 (sizeS a0.1 + 1) = sizeS a0.1 + 1 := w64_id (by omega) (by omega)
      rw [e]
      refine ⟨by omega, by omega, ?_⟩
      have := hQ [] ⟨r0.1, by omega, c0.1, by omega, by simp, .nil, by simp⟩ (by simp)
      unfold builtS at this
      have e2 : (sizeS a0.1 + 1).toNat = (sizeS a0.1).toNat + 1 := by omega
      rw [e2, rep_range]
      exact this
    · rw [he]
      refine ifP_neg (by simp) (hQ T hT fun t ht => ?_)
      rw [hTe] at ht
      unfold finS at ht
      split at ht
      · obtain ⟨p, _, rfl⟩ := List.mem_map.1 ht
        exact nar_inI p.2
      · simp at ht
/-! ### Values of a ring -/
def valR (r x : Int) : Int := if r = 5 then x else if r = 2 then bnd .i64 x 1 else if (bnd .i64 x 4611686018427387903).tmod 5 = 0 then 4611686018427387904 else bnd .i64 x 4611686018427387903
def facR (r x : Int) : Int := if r = 5 then x.tmod 2147483648 else valR r x
theorem bnd_inI (x y : Int) : inI (bnd .i64 x y) := by
  unfold bnd inI
  show -9223372036854775808 ≤ w64 _ ∧ w64 _ ≤ 9223372036854775807
  rw [w64_eq]; omega
theorem valR_inI {r x : Int} (h : inI x) : inI (valR r x) := by
  unfold valR
  repeat' split
  · exact h
  · exact bnd_inI _ _
  · unfold inI; omega
  · exact bnd_inI _ _
theorem facR_inI {r x : Int} (h : inI x) : inI (facR r x) := by
  unfold facR
  split
  · unfold inI at *
    rcases Int.lt_or_le x 0 with h' | h'
    · have := Int.neg_tmod (a := -x) (b := 2147483648)
      rw [Int.neg_neg] at this
      rw [this, Int.tmod_eq_emod_of_nonneg (by omega)]; omega
    · rw [Int.tmod_eq_emod_of_nonneg h']; omega
  · exact valR_inI h
theorem value_ok {r x : Int} {Q : Int → Prop} (hQ : Q (valR r x)) : law02_Value r x Q := by
  unfold law02_Value; unfold valR at hQ
  refine ifP_eq (fun h => ?_) (fun h => ifP_eq (fun h2 => ?_) (fun h2 => ifP_eq (fun h3 => ?_) (fun h3 => ?_)))
  · rwa [if_pos h] at hQ
  · rwa [if_neg h, if_pos h2] at hQ
  · rwa [if_neg h, if_neg h2, if_pos h3] at hQ
  · rwa [if_neg h, if_neg h2, if_neg h3] at hQ
theorem factor_ok {r x : Int} {Q : Int → Prop} (hQ : Q (facR r x)) : law02_Factor r x Q := by
  unfold law02_Factor; unfold facR at hQ
  refine ifP_eq (fun h => ?_) (fun h => value_ok ?_)
  · rwa [if_pos h] at hQ
  · rwa [if_neg h] at hQ
def ringS (r : Int) : Int := if r < 1 ∨ 5 < r then 1 else r
theorem ringS_b (r : Int) : 1 ≤ ringS r ∧ ringS r ≤ 5 := by unfold ringS; split <;> omega
theorem right_is {r : Int} {Q : Int → Prop} (hQ : Q (ringS r)) : law13_Right r Q := by
  unfold law13_Right; unfold ringS at hQ
  refine ifP_dec (fun h => ?_) (fun h => ifP_dec (fun h2 => ?_) (fun h2 => ?_))
  · rwa [if_pos (.inl h)] at hQ
  · rwa [if_pos (.inr h2)] at hQ
  · rwa [if_neg (by omega)] at hQ
def vmap (g : Int → Int) (t : Triple) : Triple := ⟨t.Row, t.Col, g t.Val⟩
theorem vmap_canon {rows cols : Int} {T : List Triple} (h : Canon rows cols T) (g : Int → Int) : Canon rows cols (T.map (vmap g)) where
  r0 := h.r0
  r1 := h.r1
  c0 := h.c0
  c1 := h.c1
  len := by rw [List.length_map]; exact h.len
  srt := by unfold Srt; rw [List.pairwise_map]; exact h.srt
  inn := by
    intro t ht
    obtain ⟨x, hx, rfl⟩ := List.mem_map.1 ht
    exact h.inn x hx
theorem vmap_built (rows cols : Int) (T : List Triple) (g : Int → Int) : builtS rows cols (T.map (vmap g)) = { builtS rows cols T with Val := T.map fun t => g t.Val } := by
  unfold builtS
  have e : below (T.map (vmap g)) = below T := by
    funext j
    unfold below
    rw [List.countP_map]; rfl
  rw [e, List.map_map, List.map_map]; rfl
theorem task_mat2 {a : Law13_Task} {Q : Rows → Prop} (h1 : inR .u8 a.Size.1 ∧ inR .u8 a.Size.2) (h2 : ∀ t ∈ a.L, okTriple t) (hQ : ∀ T, Canon (sizeS a.Size.1) (sizeS a.Size.2) T → (∀ t ∈ T, inI t.Val) → Q (builtS (sizeS a.Size.1) (sizeS a.Size.2) T)) : law13_Task_Matrix a Q := by
  unfold law13_Task_Matrix
  refine some_is h1 h2 fun T hT hv => right_is ?_
  have hTl := hT.len
  have hVl : (builtS (sizeS a.Size.1) (sizeS a.Size.2) T).Val = T.map (·.Val) := rfl
  refine map_loop (xs := (builtS (sizeS a.Size.1) (sizeS a.Size.2) T).Val) (f := facR (ringS a.Ring)) (by rw [hVl, List.length_map]; omega) (fun i s next hi hs hn => ?_) (fun next s hs => ?_)
  · have hi' : i < T.length := by rw [hVl, List.length_map] at hi; exact hi
    exact ifP_dec (fun _ => idxP_nat hi (factor_ok (appP_intro (by simp; omega) hn))) (fun h => by omega)
  · refine ifP_dec (fun h => by omega) (fun _ => ?_)
    have := hQ (T.map (vmap (facR (ringS a.Ring)))) (vmap_canon hT _) (fun t ht => by
      obtain ⟨x, hx, rfl⟩ := List.mem_map.1 ht
      exact facR_inI (hv x hx))
    rw [vmap_built] at this
    rw [hVl, List.map_map] at hs
    subst hs
    exact this
/-! ### Vectors -/
theorem inR_small {x : Int} (h0 : 0 ≤ x) (h1 : x ≤ 39) : inR .u8 x := by
  have : ∀ n : Fin 40, inR .u8 (n.val : Int) := by unfold inR; decide
  have := this ⟨x.toNat, by omega⟩
  simpa only [Int.toNat_of_nonneg h0] using this
end Go.Proofs.YtjabmpfcpekpdaaGreat

