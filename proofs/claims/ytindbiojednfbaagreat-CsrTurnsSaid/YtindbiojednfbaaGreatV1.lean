/- The walks (printed by a program of ours). -/
import Derived.Test.YtindbiojednfbaaGreatSL
namespace Go.Proofs.YtindbiojednfbaaGreat
open Go Go.Fw
set_option linter.unusedVariables false
set_option linter.unusedSimpArgs false
set_option maxRecDepth 8000
set_option maxHeartbeats 1000000
theorem W_ring_Is {I : IH} {a0 : Int}  {Q : Bool → Prop}  (hd : ring_Is a0 Q) :
    PFun Tryz.prog 37 [.int .i64 a0] I (fun I_ v => ∃ r, v = .bool r ∧ Q r) := by
  refine Fun.enter Tryz.func37 rfl Tryz.ntmps37 rfl (.c .n) fun w0 M => ?_
  refine .seq ?_
  refine .region ?_
  refine .skips 1 rfl ?_
  refine .nil' fun c w ho hs => Cod.at (E := [(0, _)]) (ho.sub ⟨rfl, trivial⟩) hs ?_
  refine .seq ?_
  refine .region ?_
  refine .skips 1 rfl ?_
  refine .gt rfl rfl rfl rfl ?_
  refine .skips 1 rfl ?_
  refine split (decide (0 < a0)) (fun hb1 => ?_) (fun hb1 => ?_)
  · have hd := hd.1 hb1
    rw [hb1]
    refine .gyes rfl rfl rfl (.move rfl rfl rfl ?_)
    refine .gyes rfl rfl rfl (.lt rfl rfl rfl rfl ?_)
    refine .skips 2 rfl ?_
    refine .nil' fun c w ho hs => Cod.at (E := [(2, _)]) (ho.sub ⟨rfl, trivial⟩) hs ?_
    exact .ret (pret Tryz.results37 (.t rfl .n) (.refl _) ⟨(decide (a0 < 6)), rfl, hd⟩)
  · have hd := hd.2 hb1
    rw [hb1]
    refine .skips 4 rfl ?_
    refine .nil' fun c w ho hs => Cod.at (E := [(2, _)]) (ho.sub ⟨rfl, trivial⟩) hs ?_
    exact .ret (pret Tryz.results37 (.t rfl .n) (.refl _) ⟨false, rfl, hd⟩)

theorem W_csr_within {I : IH} {a0 : Int} {a1 : Int}  {Q : Bool → Prop}  (hd : csr_within a0 a1 Q) :
    PFun Tryz.prog 38 [.int .i64 a0, .int .i64 a1] I (fun I_ v => ∃ r, v = .bool r ∧ Q r) := by
  refine Fun.enter Tryz.func38 rfl Tryz.ntmps38 rfl (.c (.c .n)) fun w0 M => ?_
  refine .seq ?_
  refine .region ?_
  refine .skips 1 rfl ?_
  refine .nil' fun c w ho hs => Cod.at (E := [(0, _), (1, _)]) (ho.sub ⟨rfl, rfl, trivial⟩) hs ?_
  refine .seq ?_
  refine .region ?_
  refine .skips 1 rfl ?_
  refine .ge rfl rfl rfl rfl ?_
  refine .skips 1 rfl ?_
  refine split (decide (0 ≤ a0)) (fun hb1 => ?_) (fun hb1 => ?_)
  · have hd := hd.1 hb1
    rw [hb1]
    refine .gyes rfl rfl rfl (.move rfl rfl rfl ?_)
    refine .gyes rfl rfl rfl (.move rfl rfl rfl ?_)
    refine .gyes rfl rfl rfl (.le' rfl rfl rfl rfl ?_)
    refine .skips 2 rfl ?_
    refine .nil' fun c w ho hs => Cod.at (E := [(4, _)]) (ho.sub ⟨rfl, trivial⟩) hs ?_
    exact .ret (pret Tryz.results38 (.t rfl .n) (.refl _) ⟨(decide (a0 ≤ a1)), rfl, hd⟩)
  · have hd := hd.2 hb1
    rw [hb1]
    refine .skips 5 rfl ?_
    refine .nil' fun c w ho hs => Cod.at (E := [(4, _)]) (ho.sub ⟨rfl, trivial⟩) hs ?_
    exact .ret (pret Tryz.results38 (.t rfl .n) (.refl _) ⟨false, rfl, hd⟩)

theorem W_cmp_Or_int {I : IH} {a0 : List Int} {p1 : Option Addr} {c2 : Nat} {Q : Int → Prop} (R3 : RepSl eI64 I p1 c2 a0) (hd : cmp_Or_int a0 Q) :
    PFun Tryz.prog 74 [.slice p1 a0.length c2] I (fun I_ v => ∃ r, v = .int .i64 r ∧ Q r) := by
  refine Fun.enter Tryz.func74 rfl Tryz.ntmps74 rfl (.c .n) fun w0 M => ?_
  refine .seq ?_
  refine .region ?_
  refine .skips 1 rfl ?_
  refine .nil' fun c w ho hs => Cod.at (E := [(0, _)]) (ho.sub ⟨rfl, trivial⟩) hs ?_
  refine .seq ?_
  refine .region ?_
  refine .skips 1 rfl ?_
  refine .nil' fun c w ho hs => Cod.at (E := [(0, _), (3, _)]) (ho.sub ⟨rfl, rfl, trivial⟩) hs ?_
  refine .seq ?_
  refine .seq ?_
  refine .region ?_
  refine .skips 1 rfl ?_
  refine .len Tryz.underlying26 rfl rfl rfl rfl ?_
  refine .skips 1 rfl ?_
  refine .nil' fun c w ho hs => Cod.at (E := [(3, _), (6, _), (7, _), (8, _)]) (ho.sub ⟨rfl, rfl, rfl, rfl, trivial⟩) hs ?_
  refine .block ?_
  refine .loop hd (fun (s31 : Int) c w => ∃ I_, IH.le I I_ ∧ Ok 18 [(3, .int .i64 0), (6, .slice p1 a0.length c2), (7, .int .i64 (a0.length : Int)), (8, .int .i64 s31)] c ∧ Sym w0 M I I_ [] w) (fun c w ho hs => ⟨I, (.refl _), ho.sub ⟨rfl, rfl, rfl, rfl, trivial⟩, hs.pick .n⟩) ?_
  rintro s31 next32 hd c w hst
  obtain ⟨I33, hl34, hok, hsym⟩ := hst
  have le35 := IH.le.trans (.refl _) hl34
  replace R3 := R3.mono hl34
  refine Cod.at hok hsym ?_
  refine .seq ?_
  refine .region ?_
  refine .lt rfl rfl rfl rfl ?_
  refine .nil' fun c w ho hs => Cod.at (E := [(3, _), (6, _), (7, _), (8, _), (9, _)]) (ho.sub ⟨rfl, rfl, rfl, rfl, rfl, trivial⟩) hs ?_
  refine .seq ?_
  refine .cond rfl (fun hb37 => ?_) (fun hb37 => ?_)
  · have hd := hd.1 hb37
    refine .skip' fun c w ho hs => Cod.at (E := [(3, _), (6, _), (7, _), (8, _)]) (ho.sub ⟨rfl, rfl, rfl, rfl, trivial⟩) hs ?_
    refine .seq ?_
    refine .block ?_
    refine .seq ?_
    refine .region ?_
    obtain ⟨h38, x39, hx40, hd⟩ := hd
    obtain ⟨b41, o42, cs43, e44, hC45, hr46⟩ := R3.2 _ _ hx40
    cases hr46
    refine .ixa Tryz.underlying26 Tryz.sizeOf3 rfl e44 rfl h38 (idx_lt hx40 h38) rfl rfl ?_
    refine .ld1 (j := 0) Tryz.isAgg3 hC45 rfl rfl rfl rfl rfl ?_
    refine .skips 1 rfl ?_
    refine .nil' fun c w ho hs => Cod.at (E := [(3, _), (6, _), (7, _), (8, _), (5, _)]) (ho.sub ⟨rfl, rfl, rfl, rfl, rfl, trivial⟩) hs ?_
    refine .seq ?_
    refine .region ?_
    refine .skips 2 rfl ?_
    refine .ne rfl rfl rfl rfl ?_
    refine .nil' fun c w ho hs => Cod.at (E := [(3, _), (6, _), (7, _), (8, _), (5, _), (14, _)]) (ho.sub ⟨rfl, rfl, rfl, rfl, rfl, rfl, trivial⟩) hs ?_
    refine .cond rfl (fun hb47 => ?_) (fun hb47 => ?_)
    · have hd := hd.1 hb47
      refine .seq ?_
      refine .region ?_
      refine .skips 2 rfl ?_
      refine .nil' fun c w ho hs => Cod.at (E := [(2, _)]) (ho.sub ⟨rfl, trivial⟩) hs ?_
      exact .ret (pret Tryz.results74 (.t rfl .n) le35 ⟨x39, rfl, hd⟩)
    · have hd := hd.2 hb47
      refine .skip' fun c w ho hs => Cod.at (E := [(3, _), (6, _), (7, _), (8, _)]) (ho.sub ⟨rfl, rfl, rfl, rfl, trivial⟩) hs ?_
      refine .region ?_
      refine .add rfl rfl rfl rfl ?_
      refine .sub (E' := [(3, _), (6, _), (7, _), (16, _)]) ⟨rfl, rfl, rfl, rfl, trivial⟩ ?_
      refine .skips 1 rfl ?_
      exact .nil' fun c w ho hs => ⟨(w64 (s31 + 1)), hd, I33, le35, ho.sub ⟨rfl, rfl, rfl, rfl, trivial⟩, hs.pick .n⟩
  · have hd := hd.2 hb37
    refine .exit fun c w ho hs => Cod.at (E := [(3, _)]) (ho.sub ⟨rfl, trivial⟩) hs ?_
    refine .seq ?_
    refine .region ?_
    refine .skips 2 rfl ?_
    refine .nil' fun c w ho hs => Cod.at (E := [(2, _)]) (ho.sub ⟨rfl, trivial⟩) hs ?_
    exact .ret (pret Tryz.results74 (.t rfl .n) le35 ⟨0, rfl, hd⟩)

theorem W_cmp_isNaN_int {I : IH} {a0 : Int}  {Q : Bool → Prop}  (hd : cmp_isNaN_int a0 Q) :
    PFun Tryz.prog 89 [.int .i64 a0] I (fun I_ v => ∃ r, v = .bool r ∧ Q r) := by
  refine Fun.enter Tryz.func89 rfl Tryz.ntmps89 rfl (.c .n) fun w0 M => ?_
  refine .seq ?_
  refine .region ?_
  refine .skips 1 rfl ?_
  refine .nil' fun c w ho hs => Cod.at (E := [(0, _)]) (ho.sub ⟨rfl, trivial⟩) hs ?_
  refine .seq ?_
  refine .region ?_
  refine .skips 2 rfl ?_
  refine .ne rfl rfl rfl rfl ?_
  refine .skips 1 rfl ?_
  refine .nil' fun c w ho hs => Cod.at (E := [(2, _)]) (ho.sub ⟨rfl, trivial⟩) hs ?_
  exact .ret (pret Tryz.results89 (.t rfl .n) (.refl _) ⟨(a0 != a0), rfl, hd⟩)

theorem W_cmp_Compare_int {I : IH} {a0 : Int} {a1 : Int}  {Q : Int → Prop}  (hd : cmp_Compare_int a0 a1 Q) :
    PFun Tryz.prog 75 [.int .i64 a0, .int .i64 a1] I (fun I_ v => ∃ r, v = .int .i64 r ∧ Q r) := by
  refine Fun.enter Tryz.func75 rfl Tryz.ntmps75 rfl (.c (.c .n)) fun w0 M => ?_
  refine .seq ?_
  refine .region ?_
  refine .skips 1 rfl ?_
  refine .nil' fun c w ho hs => Cod.at (E := [(0, _), (1, _)]) (ho.sub ⟨rfl, rfl, trivial⟩) hs ?_
  refine .seq ?_
  refine .region ?_
  refine .skips 1 rfl ?_
  have hw15 := W_cmp_isNaN_int (I := I) hd
  refine .call Tryz.call89 rfl hw15 rfl rfl fun v13 I10 hl11 hv12 => ?_
  obtain ⟨r9, rfl, hd⟩ := hv12
  have le16 := IH.le.trans (.refl _) hl11
  refine .skips 1 rfl ?_
  refine .nil' fun c w ho hs => Cod.at (E := [(0, _), (1, _), (5, _)]) (ho.sub ⟨rfl, rfl, rfl, trivial⟩) hs ?_
  refine .seq ?_
  refine .region ?_
  refine .skips 1 rfl ?_
  have hw31 := W_cmp_isNaN_int (I := I10) hd
  refine .call Tryz.call89 rfl hw31 rfl rfl fun v29 I26 hl27 hv28 => ?_
  obtain ⟨r25, rfl, hd⟩ := hv28
  have le32 := IH.le.trans le16 hl27
  refine .skips 1 rfl ?_
  refine .nil' fun c w ho hs => Cod.at (E := [(0, _), (1, _), (5, _), (6, _)]) (ho.sub ⟨rfl, rfl, rfl, rfl, trivial⟩) hs ?_
  refine .seq ?_
  refine .seq ?_
  refine .region ?_
  refine .skips 1 rfl ?_
  refine .nil' fun c w ho hs => Cod.at (E := [(0, _), (1, _), (6, _), (11, _)]) (ho.sub ⟨rfl, rfl, rfl, rfl, trivial⟩) hs ?_
  refine .cond rfl (fun hb35 => ?_) (fun hb35 => ?_)
  · have hd := hd.1 hb35
    refine .seq ?_
    refine .seq ?_
    refine .region ?_
    refine .skips 1 rfl ?_
    refine .nil' fun c w ho hs => Cod.at (E := [(12, _)]) (ho.sub ⟨rfl, trivial⟩) hs ?_
    refine .cond rfl (fun hb36 => ?_) (fun hb36 => ?_)
    · have hd := hd.1 hb36
      refine .seq ?_
      refine .region ?_
      refine .skips 1 rfl ?_
      refine .nil' fun c w ho hs => Cod.at (E := [(4, _)]) (ho.sub ⟨rfl, trivial⟩) hs ?_
      exact .ret (pret Tryz.results75 (.t rfl .n) le32 ⟨0, rfl, hd⟩)
    · have hd := hd.2 hb36
      refine .skip' fun c w ho hs => Cod.at (E := []) (ho.sub trivial) hs ?_
      refine .seq ?_
      refine .region ?_
      refine .skips 1 rfl ?_
      refine .nil' fun c w ho hs => Cod.at (E := [(4, _)]) (ho.sub ⟨rfl, trivial⟩) hs ?_
      exact .ret (pret Tryz.results75 (.t rfl .n) le32 ⟨(-1), rfl, hd⟩)
  · have hd := hd.2 hb35
    refine .skip' fun c w ho hs => Cod.at (E := [(0, _), (1, _), (6, _)]) (ho.sub ⟨rfl, rfl, rfl, trivial⟩) hs ?_
    refine .seq ?_
    refine .seq ?_
    refine .region ?_
    refine .skips 1 rfl ?_
    refine .nil' fun c w ho hs => Cod.at (E := [(0, _), (1, _), (13, _)]) (ho.sub ⟨rfl, rfl, rfl, trivial⟩) hs ?_
    refine .cond rfl (fun hb38 => ?_) (fun hb38 => ?_)
    · have hd := hd.1 hb38
      refine .seq ?_
      refine .region ?_
      refine .skips 1 rfl ?_
      refine .nil' fun c w ho hs => Cod.at (E := [(4, _)]) (ho.sub ⟨rfl, trivial⟩) hs ?_
      exact .ret (pret Tryz.results75 (.t rfl .n) le32 ⟨1, rfl, hd⟩)
    · have hd := hd.2 hb38
      refine .skip' fun c w ho hs => Cod.at (E := [(0, _), (1, _)]) (ho.sub ⟨rfl, rfl, trivial⟩) hs ?_
      refine .seq ?_
      refine .seq ?_
      refine .region ?_
      refine .skips 2 rfl ?_
      refine .lt rfl rfl rfl rfl ?_
      refine .nil' fun c w ho hs => Cod.at (E := [(0, _), (1, _), (16, _)]) (ho.sub ⟨rfl, rfl, rfl, trivial⟩) hs ?_
      refine .cond rfl (fun hb40 => ?_) (fun hb40 => ?_)
      · have hd := hd.1 hb40
        refine .seq ?_
        refine .region ?_
        refine .skips 1 rfl ?_
        refine .nil' fun c w ho hs => Cod.at (E := [(4, _)]) (ho.sub ⟨rfl, trivial⟩) hs ?_
        exact .ret (pret Tryz.results75 (.t rfl .n) le32 ⟨(-1), rfl, hd⟩)
      · have hd := hd.2 hb40
        refine .skip' fun c w ho hs => Cod.at (E := [(0, _), (1, _)]) (ho.sub ⟨rfl, rfl, trivial⟩) hs ?_
        refine .seq ?_
        refine .seq ?_
        refine .region ?_
        refine .skips 2 rfl ?_
        refine .gt rfl rfl rfl rfl ?_
        refine .nil' fun c w ho hs => Cod.at (E := [(19, _)]) (ho.sub ⟨rfl, trivial⟩) hs ?_
        refine .cond rfl (fun hb41 => ?_) (fun hb41 => ?_)
        · have hd := hd.1 hb41
          refine .seq ?_
          refine .region ?_
          refine .skips 1 rfl ?_
          refine .nil' fun c w ho hs => Cod.at (E := [(4, _)]) (ho.sub ⟨rfl, trivial⟩) hs ?_
          exact .ret (pret Tryz.results75 (.t rfl .n) le32 ⟨1, rfl, hd⟩)
        · have hd := hd.2 hb41
          refine .skip' fun c w ho hs => Cod.at (E := []) (ho.sub trivial) hs ?_
          refine .seq ?_
          refine .region ?_
          refine .skips 1 rfl ?_
          refine .nil' fun c w ho hs => Cod.at (E := [(4, _)]) (ho.sub ⟨rfl, trivial⟩) hs ?_
          exact .ret (pret Tryz.results75 (.t rfl .n) le32 ⟨0, rfl, hd⟩)

theorem W_csr_order {I : IH} {a0 : Triple} {a1 : Triple}  {Q : Int → Prop}  (hd : csr_order a0 a1 Q) :
    PFun Tryz.prog 54 [.agg (encTriple a0).toArray, .agg (encTriple a1).toArray] I (fun I_ v => ∃ r, v = .int .i64 r ∧ Q r) := by
  refine Fun.enter Tryz.func54 rfl Tryz.ntmps54 rfl (.c (.c .n)) fun w0 M => ?_
  refine .seq ?_
  refine .region ?_
  refine .boxA rfl rfl rfl fun b5 => ?_
  refine .boxA rfl rfl rfl fun b7 => ?_
  refine .skips 1 rfl ?_
  refine .nil' fun c w ho hs => Cod.at (E := [(2, _), (3, _)]) (ho.sub ⟨rfl, rfl, trivial⟩) hs ?_
  refine .seq ?_
  refine .draw [some 0, some 1, some 2, some 3, some 5, some 6, some 7, some 8, some 4, some 9, some 10, some 11] 12 MX (by kernel_rfl) (by kernel_rfl) (by kernel_rfl) (by kernel_rfl) (by kernel_rfl) (by kernel_rfl) (by kernel_rfl) (fun ex => (pto b7 (.cells #[.int .i64 a1.Row, .int .i64 a1.Col, .int .i64 a1.Val] 60 (0, 0))) :: (pto b5 (.cells #[.int .i64 a0.Row, .int .i64 a0.Col, .int .i64 a0.Val] 60 (0, 0))) :: ex) (fun _ _ => (.s (.s .z))) rfl ?_
  refine .f [] rfl (by kernel_rfl) rfl rfl (fun ex => .fieldAddr Tryz.underlying60 rfl Tryz.sizeOf3 rfl (o := 0) rfl rfl rfl .mk) ?_
  refine .f [0] rfl (by kernel_rfl) rfl rfl (fun ex => .load1 Tryz.isAgg3 rfl (.s .z) rfl rfl rfl .mk) ?_
  refine .f [] rfl (by kernel_rfl) rfl rfl (fun ex => .fieldAddr Tryz.underlying60 rfl Tryz.sizeOf3 rfl (o := 0) rfl rfl rfl .mk) ?_
  refine .f [2] rfl (by kernel_rfl) rfl rfl (fun ex => .load1 Tryz.isAgg3 rfl .z rfl rfl rfl .mk) ?_
  refine .f [] rfl (by kernel_rfl) rfl rfl (fun ex => .fieldAddr Tryz.underlying60 rfl Tryz.sizeOf3 rfl (o := 1) rfl rfl rfl .mk) ?_
  refine .f [5] rfl (by kernel_rfl) rfl rfl (fun ex => .load1 Tryz.isAgg3 rfl (.s .z) rfl rfl rfl .mk) ?_
  refine .f [] rfl (by kernel_rfl) rfl rfl (fun ex => .fieldAddr Tryz.underlying60 rfl Tryz.sizeOf3 rfl (o := 1) rfl rfl rfl .mk) ?_
  refine .f [7] rfl (by kernel_rfl) rfl rfl (fun ex => .load1 Tryz.isAgg3 rfl .z rfl rfl rfl .mk) ?_
  refine .w [8, 7, 6, 5] [[], [3], [], [1]] [1, 3] rfl (by kernel_rfl) (by kernel_rfl) (by kernel_rfl) ((dropE_kept rfl rfl)) (.inr (dropE_kept rfl rfl)) fun ex => ?_
  have hw15 := W_cmp_Compare_int (I := I) hd
  refine .call Tryz.call75 rfl hw15 rfl rfl fun v13 I10 hl11 hv12 => ?_
  obtain ⟨r9, rfl, hd⟩ := hv12
  have le16 := IH.le.trans (.refl _) hl11
  refine .some (fun ex => (pto b7 (.cells #[.int .i64 a1.Row, .int .i64 a1.Col, .int .i64 a1.Val] 60 (0, 0))) :: (pto b5 (.cells #[.int .i64 a0.Row, .int .i64 a0.Col, .int .i64 a0.Val] 60 (0, 0))) :: ex) rfl (fun _ _ => (.s (.s .z))) rfl (.cc [7] rfl (by kernel_rfl) rfl rfl rfl (fun ex => .load1 Tryz.isAgg3 rfl .z rfl rfl rfl .mk) (.cc [] rfl (by kernel_rfl) rfl rfl rfl (fun ex => .fieldAddr Tryz.underlying60 rfl Tryz.sizeOf3 rfl (o := 1) rfl rfl rfl .mk) (.cc [5] rfl (by kernel_rfl) rfl rfl rfl (fun ex => .load1 Tryz.isAgg3 rfl (.s .z) rfl rfl rfl .mk) (.cc [] rfl (by kernel_rfl) rfl rfl rfl (fun ex => .fieldAddr Tryz.underlying60 rfl Tryz.sizeOf3 rfl (o := 1) rfl rfl rfl .mk) trivial)))) ?_
  refine .w [] [[], [8], [], [6]] [6, 8, 4] rfl (by kernel_rfl) (by kernel_rfl) (by kernel_rfl) ((dropE_kept rfl rfl)) (.inr (dropE_kept rfl rfl)) fun ex => ?_
  have hw23 := W_cmp_Compare_int (I := I10) hd
  refine .call Tryz.call75 rfl hw23 rfl rfl fun v21 I18 hl19 hv20 => ?_
  obtain ⟨r17, rfl, hd⟩ := hv20
  have le24 := IH.le.trans le16 hl19
  refine .some (fun ex => (pto b7 (.cells #[.int .i64 a1.Row, .int .i64 a1.Col, .int .i64 a1.Val] 60 (0, 0))) :: (pto b5 (.cells #[.int .i64 a0.Row, .int .i64 a0.Col, .int .i64 a0.Val] 60 (0, 0))) :: ex) rfl (fun _ _ => (.s (.s .z))) rfl trivial ?_
  refine .w [] [] [4, 9] rfl (by kernel_rfl) (by kernel_rfl) (by kernel_rfl) ((dropE_kept rfl rfl)) (.inr (dropE_kept rfl rfl)) fun ex => ?_
  refine .buildSlice 2 Tryz.underlying26 Tryz.sizeOf3 Tryz.zeroValue3 rfl rfl (.c rfl rfl rfl (.c rfl rfl rfl .n)) rfl rfl fun b25 => ?_
  refine .some (fun ex => (pto b25 (.cells #[.int .i64 r9, .int .i64 r17] 3 (0, 0))) :: (pto b7 (.cells #[.int .i64 a1.Row, .int .i64 a1.Col, .int .i64 a1.Val] 60 (0, 0))) :: (pto b5 (.cells #[.int .i64 a0.Row, .int .i64 a0.Col, .int .i64 a0.Val] 60 (0, 0))) :: ex) rfl (fun _ _ => (.s (.s (.s .z)))) rfl trivial ?_
  refine .w [] [] [10, 9] rfl (by kernel_rfl) (by kernel_rfl) (by kernel_rfl) ((dropE_kept rfl rfl)) (.inr (dropE_kept rfl rfl)) fun ex => ?_
  refine .pubB (El := eI64) (ys := ([r9, r17] : List Int)) (k := 2) .z (RepCs.cons (cs := [.int .i64 r9]) rfl (RepCs.cons (cs := [.int .i64 r17]) rfl .nil)) rfl fun I27 hl28 R29 => ?_
  have le30 := IH.le.trans le24 hl28
  have hw37 := W_cmp_Or_int (I := I27) R29 hd
  refine .call Tryz.call74 rfl hw37 rfl rfl fun v35 I32 hl33 hv34 => ?_
  obtain ⟨r31, rfl, hd⟩ := hv34
  have le38 := IH.le.trans le30 hl33
  replace R29 := R29.mono hl33
  refine .some (fun ex => (pto b7 (.cells #[.int .i64 a1.Row, .int .i64 a1.Col, .int .i64 a1.Val] 60 (0, 0))) :: (pto b5 (.cells #[.int .i64 a0.Row, .int .i64 a0.Col, .int .i64 a0.Val] 60 (0, 0))) :: ex) rfl (fun _ _ => (.s (.s .z))) rfl trivial ?_
  refine .e 12 (by kernel_rfl) (by kernel_rfl) (by kernel_rfl) ?_
  refine .skips 1 rfl ?_
  refine .nil' fun c w ho hs => Cod.at (E := [(4, _)]) (ho.sub ⟨rfl, trivial⟩) hs ?_
  refine .drop .z ?_
  refine .drop .z ?_
  exact .ret (pret Tryz.results54 (.t rfl .n) le38 ⟨r31, rfl, hd⟩)

theorem W_wide_Of {I : IH} {a0 : Int}  {Q : Wide → Prop}  (hd : wide_Of a0 Q) :
    PFun Tryz.prog 62 [.int .i64 a0] I (fun I_ v => ∃ r, v = .agg (encWide r).toArray ∧ Q r) := by
  refine Fun.enter Tryz.func62 rfl Tryz.ntmps62 rfl (.c .n) fun w0 M => ?_
  refine .seq ?_
  refine .region ?_
  refine .allocA Tryz.zeroValue94 rfl rfl fun b1 => ?_
  refine .nil' fun c w ho hs => Cod.at (E := [(0, _), (2, _)]) (ho.sub ⟨rfl, rfl, trivial⟩) hs ?_
  refine .seq ?_
  refine .region ?_
  refine .skips 1 rfl ?_
  refine .shr' rfl rfl (by decide) rfl rfl ?_
  refine .skips 1 rfl ?_
  refine .conv Tryz.underlying2 Tryz.underlying92 rfl rfl rfl ?_
  refine .build Tryz.zeroValue94 Tryz.underlying94 BI94 (.c rfl rfl rfl (.t .nil) (.c rfl rfl rfl (.s (.t .nil)) .n)) (by exact ⟨⟨_, _, rfl, rfl, rfl⟩, ⟨⟨_, _, rfl, rfl, rfl⟩, trivial⟩⟩) rfl rfl ?_
  refine .storeA Tryz.sizeOf94 rfl rfl .z (.t (.t .nil)) rfl rfl ?_
  refine .nil' fun c w ho hs => Cod.at (E := [(2, _)]) (ho.sub ⟨rfl, trivial⟩) hs ?_
  exact .ret (pret Tryz.results62 (.w Tryz.isAgg94 Tryz.sizeOf94 rfl .z rfl .n) (.refl _) ⟨({ Hi := shr .i64 a0 63, Lo := IntKind.wrap .u64 (a0) } : Wide), rfl, hd⟩)

theorem W_cmp_isNaN_int64 {I : IH} {a0 : Int}  {Q : Bool → Prop}  (hd : cmp_isNaN_int64 a0 Q) :
    PFun Tryz.prog 115 [.int .i64 a0] I (fun I_ v => ∃ r, v = .bool r ∧ Q r) := by
  refine Fun.enter Tryz.func115 rfl Tryz.ntmps115 rfl (.c .n) fun w0 M => ?_
  refine .seq ?_
  refine .region ?_
  refine .skips 1 rfl ?_
  refine .nil' fun c w ho hs => Cod.at (E := [(0, _)]) (ho.sub ⟨rfl, trivial⟩) hs ?_
  refine .seq ?_
  refine .region ?_
  refine .skips 2 rfl ?_
  refine .ne rfl rfl rfl rfl ?_
  refine .skips 1 rfl ?_
  refine .nil' fun c w ho hs => Cod.at (E := [(2, _)]) (ho.sub ⟨rfl, trivial⟩) hs ?_
  exact .ret (pret Tryz.results115 (.t rfl .n) (.refl _) ⟨(a0 != a0), rfl, hd⟩)

theorem W_cmp_Compare_int64 {I : IH} {a0 : Int} {a1 : Int}  {Q : Int → Prop}  (hd : cmp_Compare_int64 a0 a1 Q) :
    PFun Tryz.prog 110 [.int .i64 a0, .int .i64 a1] I (fun I_ v => ∃ r, v = .int .i64 r ∧ Q r) := by
  refine Fun.enter Tryz.func110 rfl Tryz.ntmps110 rfl (.c (.c .n)) fun w0 M => ?_
  refine .seq ?_
  refine .region ?_
  refine .skips 1 rfl ?_
  refine .nil' fun c w ho hs => Cod.at (E := [(0, _), (1, _)]) (ho.sub ⟨rfl, rfl, trivial⟩) hs ?_
  refine .seq ?_
  refine .region ?_
  refine .skips 1 rfl ?_
  have hw15 := W_cmp_isNaN_int64 (I := I) hd
  refine .call Tryz.call115 rfl hw15 rfl rfl fun v13 I10 hl11 hv12 => ?_
  obtain ⟨r9, rfl, hd⟩ := hv12
  have le16 := IH.le.trans (.refl _) hl11
  refine .skips 1 rfl ?_
  refine .nil' fun c w ho hs => Cod.at (E := [(0, _), (1, _), (5, _)]) (ho.sub ⟨rfl, rfl, rfl, trivial⟩) hs ?_
  refine .seq ?_
  refine .region ?_
  refine .skips 1 rfl ?_
  have hw31 := W_cmp_isNaN_int64 (I := I10) hd
  refine .call Tryz.call115 rfl hw31 rfl rfl fun v29 I26 hl27 hv28 => ?_
  obtain ⟨r25, rfl, hd⟩ := hv28
  have le32 := IH.le.trans le16 hl27
  refine .skips 1 rfl ?_
  refine .nil' fun c w ho hs => Cod.at (E := [(0, _), (1, _), (5, _), (6, _)]) (ho.sub ⟨rfl, rfl, rfl, rfl, trivial⟩) hs ?_
  refine .seq ?_
  refine .seq ?_
  refine .region ?_
  refine .skips 1 rfl ?_
  refine .nil' fun c w ho hs => Cod.at (E := [(0, _), (1, _), (6, _), (11, _)]) (ho.sub ⟨rfl, rfl, rfl, rfl, trivial⟩) hs ?_
  refine .cond rfl (fun hb35 => ?_) (fun hb35 => ?_)
  · have hd := hd.1 hb35
    refine .seq ?_
    refine .seq ?_
    refine .region ?_
    refine .skips 1 rfl ?_
    refine .nil' fun c w ho hs => Cod.at (E := [(12, _)]) (ho.sub ⟨rfl, trivial⟩) hs ?_
    refine .cond rfl (fun hb36 => ?_) (fun hb36 => ?_)
    · have hd := hd.1 hb36
      refine .seq ?_
      refine .region ?_
      refine .skips 1 rfl ?_
      refine .nil' fun c w ho hs => Cod.at (E := [(4, _)]) (ho.sub ⟨rfl, trivial⟩) hs ?_
      exact .ret (pret Tryz.results110 (.t rfl .n) le32 ⟨0, rfl, hd⟩)
    · have hd := hd.2 hb36
      refine .skip' fun c w ho hs => Cod.at (E := []) (ho.sub trivial) hs ?_
      refine .seq ?_
      refine .region ?_
      refine .skips 1 rfl ?_
      refine .nil' fun c w ho hs => Cod.at (E := [(4, _)]) (ho.sub ⟨rfl, trivial⟩) hs ?_
      exact .ret (pret Tryz.results110 (.t rfl .n) le32 ⟨(-1), rfl, hd⟩)
  · have hd := hd.2 hb35
    refine .skip' fun c w ho hs => Cod.at (E := [(0, _), (1, _), (6, _)]) (ho.sub ⟨rfl, rfl, rfl, trivial⟩) hs ?_
    refine .seq ?_
    refine .seq ?_
    refine .region ?_
    refine .skips 1 rfl ?_
    refine .nil' fun c w ho hs => Cod.at (E := [(0, _), (1, _), (13, _)]) (ho.sub ⟨rfl, rfl, rfl, trivial⟩) hs ?_
    refine .cond rfl (fun hb38 => ?_) (fun hb38 => ?_)
    · have hd := hd.1 hb38
      refine .seq ?_
      refine .region ?_
      refine .skips 1 rfl ?_
      refine .nil' fun c w ho hs => Cod.at (E := [(4, _)]) (ho.sub ⟨rfl, trivial⟩) hs ?_
      exact .ret (pret Tryz.results110 (.t rfl .n) le32 ⟨1, rfl, hd⟩)
    · have hd := hd.2 hb38
      refine .skip' fun c w ho hs => Cod.at (E := [(0, _), (1, _)]) (ho.sub ⟨rfl, rfl, trivial⟩) hs ?_
      refine .seq ?_
      refine .seq ?_
      refine .region ?_
      refine .skips 2 rfl ?_
      refine .lt rfl rfl rfl rfl ?_
      refine .nil' fun c w ho hs => Cod.at (E := [(0, _), (1, _), (16, _)]) (ho.sub ⟨rfl, rfl, rfl, trivial⟩) hs ?_
      refine .cond rfl (fun hb40 => ?_) (fun hb40 => ?_)
      · have hd := hd.1 hb40
        refine .seq ?_
        refine .region ?_
        refine .skips 1 rfl ?_
        refine .nil' fun c w ho hs => Cod.at (E := [(4, _)]) (ho.sub ⟨rfl, trivial⟩) hs ?_
        exact .ret (pret Tryz.results110 (.t rfl .n) le32 ⟨(-1), rfl, hd⟩)
      · have hd := hd.2 hb40
        refine .skip' fun c w ho hs => Cod.at (E := [(0, _), (1, _)]) (ho.sub ⟨rfl, rfl, trivial⟩) hs ?_
        refine .seq ?_
        refine .seq ?_
        refine .region ?_
        refine .skips 2 rfl ?_
        refine .gt rfl rfl rfl rfl ?_
        refine .nil' fun c w ho hs => Cod.at (E := [(19, _)]) (ho.sub ⟨rfl, trivial⟩) hs ?_
        refine .cond rfl (fun hb41 => ?_) (fun hb41 => ?_)
        · have hd := hd.1 hb41
          refine .seq ?_
          refine .region ?_
          refine .skips 1 rfl ?_
          refine .nil' fun c w ho hs => Cod.at (E := [(4, _)]) (ho.sub ⟨rfl, trivial⟩) hs ?_
          exact .ret (pret Tryz.results110 (.t rfl .n) le32 ⟨1, rfl, hd⟩)
        · have hd := hd.2 hb41
          refine .skip' fun c w ho hs => Cod.at (E := []) (ho.sub trivial) hs ?_
          refine .seq ?_
          refine .region ?_
          refine .skips 1 rfl ?_
          refine .nil' fun c w ho hs => Cod.at (E := [(4, _)]) (ho.sub ⟨rfl, trivial⟩) hs ?_
          exact .ret (pret Tryz.results110 (.t rfl .n) le32 ⟨0, rfl, hd⟩)

theorem W_cmp_isNaN_uint64 {I : IH} {a0 : Int}  {Q : Bool → Prop}  (hd : cmp_isNaN_uint64 a0 Q) :
    PFun Tryz.prog 116 [.int .u64 a0] I (fun I_ v => ∃ r, v = .bool r ∧ Q r) := by
  refine Fun.enter Tryz.func116 rfl Tryz.ntmps116 rfl (.c .n) fun w0 M => ?_
  refine .seq ?_
  refine .region ?_
  refine .skips 1 rfl ?_
  refine .nil' fun c w ho hs => Cod.at (E := [(0, _)]) (ho.sub ⟨rfl, trivial⟩) hs ?_
  refine .seq ?_
  refine .region ?_
  refine .skips 2 rfl ?_
  refine .ne rfl rfl rfl rfl ?_
  refine .skips 1 rfl ?_
  refine .nil' fun c w ho hs => Cod.at (E := [(2, _)]) (ho.sub ⟨rfl, trivial⟩) hs ?_
  exact .ret (pret Tryz.results116 (.t rfl .n) (.refl _) ⟨(a0 != a0), rfl, hd⟩)

theorem W_cmp_Compare_uint64 {I : IH} {a0 : Int} {a1 : Int}  {Q : Int → Prop}  (hd : cmp_Compare_uint64 a0 a1 Q) :
    PFun Tryz.prog 111 [.int .u64 a0, .int .u64 a1] I (fun I_ v => ∃ r, v = .int .i64 r ∧ Q r) := by
  refine Fun.enter Tryz.func111 rfl Tryz.ntmps111 rfl (.c (.c .n)) fun w0 M => ?_
  refine .seq ?_
  refine .region ?_
  refine .skips 1 rfl ?_
  refine .nil' fun c w ho hs => Cod.at (E := [(0, _), (1, _)]) (ho.sub ⟨rfl, rfl, trivial⟩) hs ?_
  refine .seq ?_
  refine .region ?_
  refine .skips 1 rfl ?_
  have hw15 := W_cmp_isNaN_uint64 (I := I) hd
  refine .call Tryz.call116 rfl hw15 rfl rfl fun v13 I10 hl11 hv12 => ?_
  obtain ⟨r9, rfl, hd⟩ := hv12
  have le16 := IH.le.trans (.refl _) hl11
  refine .skips 1 rfl ?_
  refine .nil' fun c w ho hs => Cod.at (E := [(0, _), (1, _), (5, _)]) (ho.sub ⟨rfl, rfl, rfl, trivial⟩) hs ?_
  refine .seq ?_
  refine .region ?_
  refine .skips 1 rfl ?_
  have hw31 := W_cmp_isNaN_uint64 (I := I10) hd
  refine .call Tryz.call116 rfl hw31 rfl rfl fun v29 I26 hl27 hv28 => ?_
  obtain ⟨r25, rfl, hd⟩ := hv28
  have le32 := IH.le.trans le16 hl27
  refine .skips 1 rfl ?_
  refine .nil' fun c w ho hs => Cod.at (E := [(0, _), (1, _), (5, _), (6, _)]) (ho.sub ⟨rfl, rfl, rfl, rfl, trivial⟩) hs ?_
  refine .seq ?_
  refine .seq ?_
  refine .region ?_
  refine .skips 1 rfl ?_
  refine .nil' fun c w ho hs => Cod.at (E := [(0, _), (1, _), (6, _), (11, _)]) (ho.sub ⟨rfl, rfl, rfl, rfl, trivial⟩) hs ?_
  refine .cond rfl (fun hb35 => ?_) (fun hb35 => ?_)
  · have hd := hd.1 hb35
    refine .seq ?_
    refine .seq ?_
    refine .region ?_
    refine .skips 1 rfl ?_
    refine .nil' fun c w ho hs => Cod.at (E := [(12, _)]) (ho.sub ⟨rfl, trivial⟩) hs ?_
    refine .cond rfl (fun hb36 => ?_) (fun hb36 => ?_)
    · have hd := hd.1 hb36
      refine .seq ?_
      refine .region ?_
      refine .skips 1 rfl ?_
      refine .nil' fun c w ho hs => Cod.at (E := [(4, _)]) (ho.sub ⟨rfl, trivial⟩) hs ?_
      exact .ret (pret Tryz.results111 (.t rfl .n) le32 ⟨0, rfl, hd⟩)
    · have hd := hd.2 hb36
      refine .skip' fun c w ho hs => Cod.at (E := []) (ho.sub trivial) hs ?_
      refine .seq ?_
      refine .region ?_
      refine .skips 1 rfl ?_
      refine .nil' fun c w ho hs => Cod.at (E := [(4, _)]) (ho.sub ⟨rfl, trivial⟩) hs ?_
      exact .ret (pret Tryz.results111 (.t rfl .n) le32 ⟨(-1), rfl, hd⟩)
  · have hd := hd.2 hb35
    refine .skip' fun c w ho hs => Cod.at (E := [(0, _), (1, _), (6, _)]) (ho.sub ⟨rfl, rfl, rfl, trivial⟩) hs ?_
    refine .seq ?_
    refine .seq ?_
    refine .region ?_
    refine .skips 1 rfl ?_
    refine .nil' fun c w ho hs => Cod.at (E := [(0, _), (1, _), (13, _)]) (ho.sub ⟨rfl, rfl, rfl, trivial⟩) hs ?_
    refine .cond rfl (fun hb38 => ?_) (fun hb38 => ?_)
    · have hd := hd.1 hb38
      refine .seq ?_
      refine .region ?_
      refine .skips 1 rfl ?_
      refine .nil' fun c w ho hs => Cod.at (E := [(4, _)]) (ho.sub ⟨rfl, trivial⟩) hs ?_
      exact .ret (pret Tryz.results111 (.t rfl .n) le32 ⟨1, rfl, hd⟩)
    · have hd := hd.2 hb38
      refine .skip' fun c w ho hs => Cod.at (E := [(0, _), (1, _)]) (ho.sub ⟨rfl, rfl, trivial⟩) hs ?_
      refine .seq ?_
      refine .seq ?_
      refine .region ?_
      refine .skips 2 rfl ?_
      refine .lt rfl rfl rfl rfl ?_
      refine .nil' fun c w ho hs => Cod.at (E := [(0, _), (1, _), (16, _)]) (ho.sub ⟨rfl, rfl, rfl, trivial⟩) hs ?_
      refine .cond rfl (fun hb40 => ?_) (fun hb40 => ?_)
      · have hd := hd.1 hb40
        refine .seq ?_
        refine .region ?_
        refine .skips 1 rfl ?_
        refine .nil' fun c w ho hs => Cod.at (E := [(4, _)]) (ho.sub ⟨rfl, trivial⟩) hs ?_
        exact .ret (pret Tryz.results111 (.t rfl .n) le32 ⟨(-1), rfl, hd⟩)
      · have hd := hd.2 hb40
        refine .skip' fun c w ho hs => Cod.at (E := [(0, _), (1, _)]) (ho.sub ⟨rfl, rfl, trivial⟩) hs ?_
        refine .seq ?_
        refine .seq ?_
        refine .region ?_
        refine .skips 2 rfl ?_
        refine .gt rfl rfl rfl rfl ?_
        refine .nil' fun c w ho hs => Cod.at (E := [(19, _)]) (ho.sub ⟨rfl, trivial⟩) hs ?_
        refine .cond rfl (fun hb41 => ?_) (fun hb41 => ?_)
        · have hd := hd.1 hb41
          refine .seq ?_
          refine .region ?_
          refine .skips 1 rfl ?_
          refine .nil' fun c w ho hs => Cod.at (E := [(4, _)]) (ho.sub ⟨rfl, trivial⟩) hs ?_
          exact .ret (pret Tryz.results111 (.t rfl .n) le32 ⟨1, rfl, hd⟩)
        · have hd := hd.2 hb41
          refine .skip' fun c w ho hs => Cod.at (E := []) (ho.sub trivial) hs ?_
          refine .seq ?_
          refine .region ?_
          refine .skips 1 rfl ?_
          refine .nil' fun c w ho hs => Cod.at (E := [(4, _)]) (ho.sub ⟨rfl, trivial⟩) hs ?_
          exact .ret (pret Tryz.results111 (.t rfl .n) le32 ⟨0, rfl, hd⟩)

theorem W_wide_Compare {I : IH} {a0 : Wide} {a1 : Wide}  {Q : Int → Prop}  (hd : wide_Compare a0 a1 Q) :
    PFun Tryz.prog 102 [.agg (encWide a0).toArray, .agg (encWide a1).toArray] I (fun I_ v => ∃ r, v = .int .i64 r ∧ Q r) := by
  refine Fun.enter Tryz.func102 rfl Tryz.ntmps102 rfl (.c (.c .n)) fun w0 M => ?_
  refine .seq ?_
  refine .region ?_
  refine .boxA rfl rfl rfl fun b5 => ?_
  refine .boxA rfl rfl rfl fun b7 => ?_
  refine .skips 1 rfl ?_
  refine .nil' fun c w ho hs => Cod.at (E := [(2, _), (3, _)]) (ho.sub ⟨rfl, rfl, trivial⟩) hs ?_
  refine .seq ?_
  refine .draw [some 0, some 1, some 2, some 3, some 5, some 6, some 7, some 8, some 4, some 9, some 10, some 11] 12 MX (by kernel_rfl) (by kernel_rfl) (by kernel_rfl) (by kernel_rfl) (by kernel_rfl) (by kernel_rfl) (by kernel_rfl) (fun ex => (pto b7 (.cells #[.int .i64 a1.Hi, .int .u64 a1.Lo] 94 (0, 0))) :: (pto b5 (.cells #[.int .i64 a0.Hi, .int .u64 a0.Lo] 94 (0, 0))) :: ex) (fun _ _ => (.s (.s .z))) rfl ?_
  refine .f [] rfl (by kernel_rfl) rfl rfl (fun ex => .fieldAddr Tryz.underlying94 rfl Tryz.sizeOf2 rfl (o := 0) rfl rfl rfl .mk) ?_
  refine .f [0] rfl (by kernel_rfl) rfl rfl (fun ex => .load1 Tryz.isAgg2 rfl (.s .z) rfl rfl rfl .mk) ?_
  refine .f [] rfl (by kernel_rfl) rfl rfl (fun ex => .fieldAddr Tryz.underlying94 rfl Tryz.sizeOf2 rfl (o := 0) rfl rfl rfl .mk) ?_
  refine .f [2] rfl (by kernel_rfl) rfl rfl (fun ex => .load1 Tryz.isAgg2 rfl .z rfl rfl rfl .mk) ?_
  refine .f [] rfl (by kernel_rfl) rfl rfl (fun ex => .fieldAddr Tryz.underlying94 rfl Tryz.sizeOf92 rfl (o := 1) rfl rfl rfl .mk) ?_
  refine .f [5] rfl (by kernel_rfl) rfl rfl (fun ex => .load1 Tryz.isAgg92 rfl (.s .z) rfl rfl rfl .mk) ?_
  refine .f [] rfl (by kernel_rfl) rfl rfl (fun ex => .fieldAddr Tryz.underlying94 rfl Tryz.sizeOf92 rfl (o := 1) rfl rfl rfl .mk) ?_
  refine .f [7] rfl (by kernel_rfl) rfl rfl (fun ex => .load1 Tryz.isAgg92 rfl .z rfl rfl rfl .mk) ?_
  refine .w [8, 7, 6, 5] [[], [3], [], [1]] [1, 3] rfl (by kernel_rfl) (by kernel_rfl) (by kernel_rfl) ((dropE_kept rfl rfl)) (.inr (dropE_kept rfl rfl)) fun ex => ?_
  have hw15 := W_cmp_Compare_int64 (I := I) hd
  refine .call Tryz.call110 rfl hw15 rfl rfl fun v13 I10 hl11 hv12 => ?_
  obtain ⟨r9, rfl, hd⟩ := hv12
  have le16 := IH.le.trans (.refl _) hl11
  refine .some (fun ex => (pto b7 (.cells #[.int .i64 a1.Hi, .int .u64 a1.Lo] 94 (0, 0))) :: (pto b5 (.cells #[.int .i64 a0.Hi, .int .u64 a0.Lo] 94 (0, 0))) :: ex) rfl (fun _ _ => (.s (.s .z))) rfl (.cc [7] rfl (by kernel_rfl) rfl rfl rfl (fun ex => .load1 Tryz.isAgg92 rfl .z rfl rfl rfl .mk) (.cc [] rfl (by kernel_rfl) rfl rfl rfl (fun ex => .fieldAddr Tryz.underlying94 rfl Tryz.sizeOf92 rfl (o := 1) rfl rfl rfl .mk) (.cc [5] rfl (by kernel_rfl) rfl rfl rfl (fun ex => .load1 Tryz.isAgg92 rfl (.s .z) rfl rfl rfl .mk) (.cc [] rfl (by kernel_rfl) rfl rfl rfl (fun ex => .fieldAddr Tryz.underlying94 rfl Tryz.sizeOf92 rfl (o := 1) rfl rfl rfl .mk) trivial)))) ?_
  refine .w [] [[], [8], [], [6]] [6, 8, 4] rfl (by kernel_rfl) (by kernel_rfl) (by kernel_rfl) ((dropE_kept rfl rfl)) (.inr (dropE_kept rfl rfl)) fun ex => ?_
  have hw23 := W_cmp_Compare_uint64 (I := I10) hd
  refine .call Tryz.call111 rfl hw23 rfl rfl fun v21 I18 hl19 hv20 => ?_
  obtain ⟨r17, rfl, hd⟩ := hv20
  have le24 := IH.le.trans le16 hl19
  refine .some (fun ex => (pto b7 (.cells #[.int .i64 a1.Hi, .int .u64 a1.Lo] 94 (0, 0))) :: (pto b5 (.cells #[.int .i64 a0.Hi, .int .u64 a0.Lo] 94 (0, 0))) :: ex) rfl (fun _ _ => (.s (.s .z))) rfl trivial ?_
  refine .w [] [] [4, 9] rfl (by kernel_rfl) (by kernel_rfl) (by kernel_rfl) ((dropE_kept rfl rfl)) (.inr (dropE_kept rfl rfl)) fun ex => ?_
  refine .buildSlice 2 Tryz.underlying26 Tryz.sizeOf3 Tryz.zeroValue3 rfl rfl (.c rfl rfl rfl (.c rfl rfl rfl .n)) rfl rfl fun b25 => ?_
  refine .some (fun ex => (pto b25 (.cells #[.int .i64 r9, .int .i64 r17] 3 (0, 0))) :: (pto b7 (.cells #[.int .i64 a1.Hi, .int .u64 a1.Lo] 94 (0, 0))) :: (pto b5 (.cells #[.int .i64 a0.Hi, .int .u64 a0.Lo] 94 (0, 0))) :: ex) rfl (fun _ _ => (.s (.s (.s .z)))) rfl trivial ?_
  refine .w [] [] [10, 9] rfl (by kernel_rfl) (by kernel_rfl) (by kernel_rfl) ((dropE_kept rfl rfl)) (.inr (dropE_kept rfl rfl)) fun ex => ?_
  refine .pubB (El := eI64) (ys := ([r9, r17] : List Int)) (k := 2) .z (RepCs.cons (cs := [.int .i64 r9]) rfl (RepCs.cons (cs := [.int .i64 r17]) rfl .nil)) rfl fun I27 hl28 R29 => ?_
  have le30 := IH.le.trans le24 hl28
  have hw37 := W_cmp_Or_int (I := I27) R29 hd
  refine .call Tryz.call74 rfl hw37 rfl rfl fun v35 I32 hl33 hv34 => ?_
  obtain ⟨r31, rfl, hd⟩ := hv34
  have le38 := IH.le.trans le30 hl33
  replace R29 := R29.mono hl33
  refine .some (fun ex => (pto b7 (.cells #[.int .i64 a1.Hi, .int .u64 a1.Lo] 94 (0, 0))) :: (pto b5 (.cells #[.int .i64 a0.Hi, .int .u64 a0.Lo] 94 (0, 0))) :: ex) rfl (fun _ _ => (.s (.s .z))) rfl trivial ?_
  refine .e 12 (by kernel_rfl) (by kernel_rfl) (by kernel_rfl) ?_
  refine .skips 1 rfl ?_
  refine .nil' fun c w ho hs => Cod.at (E := [(4, _)]) (ho.sub ⟨rfl, trivial⟩) hs ?_
  refine .drop .z ?_
  refine .drop .z ?_
  exact .ret (pret Tryz.results102 (.t rfl .n) le38 ⟨r31, rfl, hd⟩)

theorem W_ring_lesser {I : IH} {a0 : Wide} {a1 : Wide}  {Q : Wide → Prop}  (hd : ring_lesser a0 a1 Q) :
    PFun Tryz.prog 82 [.agg (encWide a0).toArray, .agg (encWide a1).toArray] I (fun I_ v => ∃ r, v = .agg (encWide r).toArray ∧ Q r) := by
  refine Fun.enter Tryz.func82 rfl Tryz.ntmps82 rfl (.c (.c .n)) fun w0 M => ?_
  refine .seq ?_
  refine .region ?_
  refine .boxA rfl rfl rfl fun b7 => ?_
  refine .boxA rfl rfl rfl fun b9 => ?_
  refine .allocA Tryz.zeroValue94 rfl rfl fun b11 => ?_
  refine .nil' fun c w ho hs => Cod.at (E := [(2, _), (3, _), (4, _)]) (ho.sub ⟨rfl, rfl, rfl, trivial⟩) hs ?_
  refine .seq ?_
  refine .seq ?_
  refine .region ?_
  refine .loadW Tryz.isAgg94 Tryz.sizeOf94 rfl (.s (.s .z)) rfl rfl rfl ?_
  refine .loadW Tryz.isAgg94 Tryz.sizeOf94 rfl (.s .z) rfl rfl rfl ?_
  have hw19 := W_wide_Compare (I := I) hd
  refine .call Tryz.call102 rfl hw19 rfl rfl fun v17 I14 hl15 hv16 => ?_
  obtain ⟨r13, rfl, hd⟩ := hv16
  have le20 := IH.le.trans (.refl _) hl15
  refine .le' rfl rfl rfl rfl ?_
  refine .nil' fun c w ho hs => Cod.at (E := [(2, _), (3, _), (4, _), (8, _)]) (ho.sub ⟨rfl, rfl, rfl, rfl, trivial⟩) hs ?_
  refine .cond rfl (fun hb21 => ?_) (fun hb21 => ?_)
  · have hd := hd.1 hb21
    refine .seq ?_
    refine .region ?_
    refine .loadW Tryz.isAgg94 Tryz.sizeOf94 rfl (.s (.s .z)) rfl rfl rfl ?_
    refine .storeA Tryz.sizeOf94 rfl rfl .z (.t (.t .nil)) rfl rfl ?_
    refine .nil' fun c w ho hs => Cod.at (E := [(4, _)]) (ho.sub ⟨rfl, trivial⟩) hs ?_
    refine .drop (.s .z) ?_
    refine .drop (.s .z) ?_
    exact .ret (pret Tryz.results82 (.w Tryz.isAgg94 Tryz.sizeOf94 rfl .z rfl .n) le20 ⟨a0, rfl, hd⟩)
  · have hd := hd.2 hb21
    refine .skip' fun c w ho hs => Cod.at (E := [(3, _), (4, _)]) (ho.sub ⟨rfl, rfl, trivial⟩) hs ?_
    refine .drop (.s (.s .z)) ?_
    refine .seq ?_
    refine .region ?_
    refine .loadW Tryz.isAgg94 Tryz.sizeOf94 rfl (.s .z) rfl rfl rfl ?_
    refine .storeA Tryz.sizeOf94 rfl rfl .z (.t (.t .nil)) rfl rfl ?_
    refine .nil' fun c w ho hs => Cod.at (E := [(4, _)]) (ho.sub ⟨rfl, trivial⟩) hs ?_
    refine .drop (.s .z) ?_
    exact .ret (pret Tryz.results82 (.w Tryz.isAgg94 Tryz.sizeOf94 rfl .z rfl .n) le20 ⟨a1, rfl, hd⟩)

theorem W_ring_truth {I : IH} {a0 : Bool}  {Q : Wide → Prop}  (hd : ring_truth a0 Q) :
    PFun Tryz.prog 83 [.bool a0] I (fun I_ v => ∃ r, v = .agg (encWide r).toArray ∧ Q r) := by
  refine Fun.enter Tryz.func83 rfl Tryz.ntmps83 rfl (.c .n) fun w0 M => ?_
  refine .seq ?_
  refine .region ?_
  refine .allocA Tryz.zeroValue94 rfl rfl fun b3 => ?_
  refine .nil' fun c w ho hs => Cod.at (E := [(0, _), (2, _)]) (ho.sub ⟨rfl, rfl, trivial⟩) hs ?_
  refine .seq ?_
  refine .seq ?_
  refine .region ?_
  refine .skips 1 rfl ?_
  refine .nil' fun c w ho hs => Cod.at (E := [(2, _), (3, _)]) (ho.sub ⟨rfl, rfl, trivial⟩) hs ?_
  refine .cond rfl (fun hb5 => ?_) (fun hb5 => ?_)
  · have hd := hd.1 hb5
    refine .seq ?_
    refine .region ?_
    have hw12 := W_wide_Of (I := I) hd
    refine .call Tryz.call62 rfl hw12 rfl rfl fun v10 I7 hl8 hv9 => ?_
    obtain ⟨r6, rfl, hd⟩ := hv9
    have le13 := IH.le.trans (.refl _) hl8
    refine .storeA Tryz.sizeOf94 rfl rfl .z (.t (.t .nil)) rfl rfl ?_
    refine .nil' fun c w ho hs => Cod.at (E := [(2, _)]) (ho.sub ⟨rfl, trivial⟩) hs ?_
    exact .ret (pret Tryz.results83 (.w Tryz.isAgg94 Tryz.sizeOf94 rfl .z rfl .n) le13 ⟨r6, rfl, hd⟩)
  · have hd := hd.2 hb5
    refine .skip' fun c w ho hs => Cod.at (E := [(2, _)]) (ho.sub ⟨rfl, trivial⟩) hs ?_
    refine .seq ?_
    refine .region ?_
    refine .build Tryz.zeroValue94 Tryz.underlying94 BI94 .n (by exact trivial) rfl rfl ?_
    refine .storeA Tryz.sizeOf94 rfl rfl .z (.t (.t .nil)) rfl rfl ?_
    refine .nil' fun c w ho hs => Cod.at (E := [(2, _)]) (ho.sub ⟨rfl, trivial⟩) hs ?_
    exact .ret (pret Tryz.results83 (.w Tryz.isAgg94 Tryz.sizeOf94 rfl .z rfl .n) (.refl _) ⟨({ Hi := 0, Lo := 0 } : Wide), rfl, hd⟩)

theorem W_wide_carry {I : IH} {a0 : Bool}  {Q : Int → Prop}  (hd : wide_carry a0 Q) :
    PFun Tryz.prog 103 [.bool a0] I (fun I_ v => ∃ r, v = .int .u64 r ∧ Q r) := by
  refine Fun.enter Tryz.func103 rfl Tryz.ntmps103 rfl (.c .n) fun w0 M => ?_
  refine .seq ?_
  refine .region ?_
  refine .skips 1 rfl ?_
  refine .nil' fun c w ho hs => Cod.at (E := [(0, _)]) (ho.sub ⟨rfl, trivial⟩) hs ?_
  refine .seq ?_
  refine .seq ?_
  refine .region ?_
  refine .skips 1 rfl ?_
  refine .nil' fun c w ho hs => Cod.at (E := [(3, _)]) (ho.sub ⟨rfl, trivial⟩) hs ?_
  refine .cond rfl (fun hb1 => ?_) (fun hb1 => ?_)
  · have hd := hd.1 hb1
    refine .seq ?_
    refine .region ?_
    refine .skips 1 rfl ?_
    refine .nil' fun c w ho hs => Cod.at (E := [(2, _)]) (ho.sub ⟨rfl, trivial⟩) hs ?_
    exact .ret (pret Tryz.results103 (.t rfl .n) (.refl _) ⟨1, rfl, hd⟩)
  · have hd := hd.2 hb1
    refine .skip' fun c w ho hs => Cod.at (E := []) (ho.sub trivial) hs ?_
    refine .seq ?_
    refine .region ?_
    refine .skips 1 rfl ?_
    refine .nil' fun c w ho hs => Cod.at (E := [(2, _)]) (ho.sub ⟨rfl, trivial⟩) hs ?_
    exact .ret (pret Tryz.results103 (.t rfl .n) (.refl _) ⟨0, rfl, hd⟩)

theorem W_wide_Add {I : IH} {a0 : Wide} {a1 : Wide}  {Q : Wide → Prop}  (hd : wide_Add a0 a1 Q) :
    PFun Tryz.prog 84 [.agg (encWide a0).toArray, .agg (encWide a1).toArray] I (fun I_ v => ∃ r, v = .agg (encWide r).toArray ∧ Q r) := by
  refine Fun.enter Tryz.func84 rfl Tryz.ntmps84 rfl (.c (.c .n)) fun w0 M => ?_
  refine .seq ?_
  refine .region ?_
  refine .boxA rfl rfl rfl fun b7 => ?_
  refine .boxA rfl rfl rfl fun b9 => ?_
  refine .allocA Tryz.zeroValue94 rfl rfl fun b11 => ?_
  refine .nil' fun c w ho hs => Cod.at (E := [(2, _), (3, _), (4, _)]) (ho.sub ⟨rfl, rfl, rfl, trivial⟩) hs ?_
  refine .seq ?_
  refine .region ?_
  refine .fieldAddr Tryz.underlying94 rfl Tryz.sizeOf92 rfl (o := 1) rfl rfl rfl ?_
  refine .load1 Tryz.isAgg92 rfl (.s (.s .z)) rfl rfl rfl ?_
  refine .fieldAddr Tryz.underlying94 rfl Tryz.sizeOf92 rfl (o := 1) rfl rfl rfl ?_
  refine .load1 Tryz.isAgg92 rfl (.s .z) rfl rfl rfl ?_
  refine .add rfl rfl rfl rfl ?_
  refine .skips 1 rfl ?_
  refine .nil' fun c w ho hs => Cod.at (E := [(2, _), (3, _), (4, _), (5, _)]) (ho.sub ⟨rfl, rfl, rfl, rfl, trivial⟩) hs ?_
  refine .seq ?_
  refine .draw [some 0, some 1, some 2, some 3, some 4, some 5, some 6, some 7, some 8, some 9, some 10, some 14, some 11, some 12, some 13, some 15] 16 MX (by kernel_rfl) (by kernel_rfl) (by kernel_rfl) (by kernel_rfl) (by kernel_rfl) (by kernel_rfl) (by kernel_rfl) (fun ex => (pto b11 (.cells #[.int .i64 0, .int .u64 0] 94 (0, 0))) :: (pto b9 (.cells #[.int .i64 a1.Hi, .int .u64 a1.Lo] 94 (0, 0))) :: (pto b7 (.cells #[.int .i64 a0.Hi, .int .u64 a0.Lo] 94 (0, 0))) :: ex) (fun _ _ => (.s (.s (.s .z)))) rfl ?_
  refine .f [] rfl (by kernel_rfl) rfl rfl (fun ex => .fieldAddr Tryz.underlying94 rfl Tryz.sizeOf2 rfl (o := 0) rfl rfl rfl .mk) ?_
  refine .f [0] rfl (by kernel_rfl) rfl rfl (fun ex => .load1 Tryz.isAgg2 rfl (.s (.s .z)) rfl rfl rfl .mk) ?_
  refine .f [1] rfl (by kernel_rfl) rfl rfl (fun ex => .conv Tryz.underlying2 Tryz.underlying92 rfl rfl rfl .mk) ?_
  refine .f [] rfl (by kernel_rfl) rfl rfl (fun ex => .fieldAddr Tryz.underlying94 rfl Tryz.sizeOf2 rfl (o := 0) rfl rfl rfl .mk) ?_
  refine .f [3] rfl (by kernel_rfl) rfl rfl (fun ex => .load1 Tryz.isAgg2 rfl (.s .z) rfl rfl rfl .mk) ?_
  refine .f [4] rfl (by kernel_rfl) rfl rfl (fun ex => .conv Tryz.underlying2 Tryz.underlying92 rfl rfl rfl .mk) ?_
  refine .f [2, 5] rfl (by kernel_rfl) rfl rfl (fun ex => .add rfl rfl rfl rfl .mk) ?_
  refine .f [] rfl (by kernel_rfl) rfl rfl (fun ex => .move rfl rfl rfl .mk) ?_
  refine .f [] rfl (by kernel_rfl) rfl rfl (fun ex => .fieldAddr Tryz.underlying94 rfl Tryz.sizeOf92 rfl (o := 1) rfl rfl rfl .mk) ?_
  refine .f [8] rfl (by kernel_rfl) rfl rfl (fun ex => .load1 Tryz.isAgg92 rfl (.s .z) rfl rfl rfl .mk) ?_
  refine .f [7, 9] rfl (by kernel_rfl) rfl rfl (fun ex => .lt rfl rfl rfl rfl .mk) ?_
  refine .f [] rfl (by kernel_rfl) rfl rfl (fun ex => .move rfl rfl rfl .mk) ?_
  refine .w [14, 6, 5, 4, 3, 2, 1, 0] [[], [10], [9, 10], [10]] [10] rfl (by kernel_rfl) (by kernel_rfl) (by kernel_rfl) ((dropE_kept rfl rfl)) (.inr (dropE_kept rfl rfl)) fun ex => ?_
  have hw19 := W_wide_carry (I := I) hd
  refine .call Tryz.call103 rfl hw19 rfl rfl fun v17 I14 hl15 hv16 => ?_
  obtain ⟨r13, rfl, hd⟩ := hv16
  have le20 := IH.le.trans (.refl _) hl15
  refine .some (fun ex => (pto b11 (.cells #[.int .i64 0, .int .u64 0] 94 (0, 0))) :: (pto b9 (.cells #[.int .i64 a1.Hi, .int .u64 a1.Lo] 94 (0, 0))) :: (pto b7 (.cells #[.int .i64 a0.Hi, .int .u64 a0.Lo] 94 (0, 0))) :: ex) rfl (fun _ _ => (.s (.s (.s .z)))) rfl (.cc [] rfl (by kernel_rfl) rfl rfl rfl (fun ex => .move rfl rfl rfl .mk) (.cc [2, 5] rfl (by kernel_rfl) rfl rfl rfl (fun ex => .add rfl rfl rfl rfl .mk) (.cc [4] rfl (by kernel_rfl) rfl rfl rfl (fun ex => .conv Tryz.underlying2 Tryz.underlying92 rfl rfl rfl .mk) (.cc [3] rfl (by kernel_rfl) rfl rfl rfl (fun ex => .load1 Tryz.isAgg2 rfl (.s .z) rfl rfl rfl .mk) (.cc [] rfl (by kernel_rfl) rfl rfl rfl (fun ex => .fieldAddr Tryz.underlying94 rfl Tryz.sizeOf2 rfl (o := 0) rfl rfl rfl .mk) (.cc [1] rfl (by kernel_rfl) rfl rfl rfl (fun ex => .conv Tryz.underlying2 Tryz.underlying92 rfl rfl rfl .mk) (.cc [0] rfl (by kernel_rfl) rfl rfl rfl (fun ex => .load1 Tryz.isAgg2 rfl (.s (.s .z)) rfl rfl rfl .mk) (.cc [] rfl (by kernel_rfl) rfl rfl rfl (fun ex => .fieldAddr Tryz.underlying94 rfl Tryz.sizeOf2 rfl (o := 0) rfl rfl rfl .mk) trivial)))))))) ?_
  refine .f [6, 11] rfl (by kernel_rfl) rfl rfl (fun ex => .add rfl rfl rfl rfl .mk) ?_
  refine .f [12] rfl (by kernel_rfl) rfl rfl (fun ex => .conv Tryz.underlying92 Tryz.underlying2 rfl rfl rfl .mk) ?_
  refine .f [13, 14] rfl (by kernel_rfl) rfl rfl (fun ex => .build Tryz.zeroValue94 Tryz.underlying94 BI94 (.c rfl rfl rfl (.t .nil) (.c rfl rfl rfl (.s (.t .nil)) .n)) (by exact ⟨⟨_, _, rfl, rfl, rfl⟩, ⟨⟨_, _, rfl, rfl, rfl⟩, trivial⟩⟩) rfl rfl .mk) ?_
  refine .e 16 (by kernel_rfl) (by kernel_rfl) (by kernel_rfl) ?_
  refine .storeA Tryz.sizeOf94 rfl rfl .z (.t (.t .nil)) rfl rfl ?_
  refine .nil' fun c w ho hs => Cod.at (E := [(4, _)]) (ho.sub ⟨rfl, trivial⟩) hs ?_
  refine .drop (.s .z) ?_
  refine .drop (.s .z) ?_
  exact .ret (pret Tryz.results84 (.w Tryz.isAgg94 Tryz.sizeOf94 rfl .z rfl .n) le20 ⟨({ Hi := w64 (IntKind.wrap .u64 ((IntKind.wrap .u64 ((IntKind.wrap .u64 (a0.Hi)) + (IntKind.wrap .u64 (a1.Hi)))) + r13)), Lo := IntKind.wrap .u64 (a0.Lo + a1.Lo) } : Wide), rfl, hd⟩)

theorem W_ring_Add {I : IH} {a0 : Int} {a1 : Wide} {a2 : Wide}  {Q : Wide → Prop}  (hd : ring_Add a0 a1 a2 Q) :
    PFun Tryz.prog 63 [.int .i64 a0, .agg (encWide a1).toArray, .agg (encWide a2).toArray] I (fun I_ v => ∃ r, v = .agg (encWide r).toArray ∧ Q r) := by
  refine Fun.enter Tryz.func63 rfl Tryz.ntmps63 rfl (.c (.c (.c .n))) fun w0 M => ?_
  refine .seq ?_
  refine .region ?_
  refine .boxA rfl rfl rfl fun b7 => ?_
  refine .boxA rfl rfl rfl fun b9 => ?_
  refine .allocA Tryz.zeroValue94 rfl rfl fun b11 => ?_
  refine .nil' fun c w ho hs => Cod.at (E := [(0, _), (4, _), (5, _), (6, _)]) (ho.sub ⟨rfl, rfl, rfl, rfl, trivial⟩) hs ?_
  refine .seq ?_
  refine .seq ?_
  refine .region ?_
  refine .skips 1 rfl ?_
  refine .nil' fun c w ho hs => Cod.at (E := [(4, _), (5, _), (6, _), (7, _)]) (ho.sub ⟨rfl, rfl, rfl, rfl, trivial⟩) hs ?_
  refine .block ?_
  refine .seq ?_
  refine Cod.joinQ (σ := Bool) hd (fun (s17 : Bool) c w => ∃ I_, IH.le I I_ ∧ Ok 32 [(4, .pointer (some ⟨b7, 0, none⟩)), (5, .pointer (some ⟨b9, 0, none⟩)), (6, .pointer (some ⟨b11, 0, none⟩)), (7, .int .i64 a0), (8, .bool s17)] c ∧ Sym w0 M I I_ [pto b7 (.cells #[.int .i64 a1.Hi, .int .u64 a1.Lo] 94 (0, 0)), pto b9 (.cells #[.int .i64 a2.Hi, .int .u64 a2.Lo] 94 (0, 0)), pto b11 (.cells #[.int .i64 0, .int .u64 0] 94 (0, 0))] w) (fun k18 hd => ?_) ?_
  · skip
    refine .seq ?_
    refine .region ?_
    refine .eq rfl rfl rfl rfl ?_
    refine .skips 1 rfl ?_
    refine .nil' fun c w ho hs => Cod.at (E := [(4, _), (5, _), (6, _), (7, _), (8, _)]) (ho.sub ⟨rfl, rfl, rfl, rfl, rfl, trivial⟩) hs ?_
    refine .cond rfl (fun hb19 => ?_) (fun hb19 => ?_)
    · have hd := hd.1 hb19
      exact .skip' fun c w ho hs => ⟨(a0 == 1), hd, I, (.refl _), ho.sub ⟨rfl, rfl, rfl, rfl, rfl, trivial⟩, hs.pick (.c (.s (.s .z)) (.c (.s .z) (.c .z .n)))⟩
    · have hd := hd.2 hb19
      refine .seq ?_
      refine .region ?_
      refine .eq rfl rfl rfl rfl ?_
      refine .sub (E' := [(4, _), (5, _), (6, _), (7, _), (10, _)]) ⟨rfl, rfl, rfl, rfl, rfl, trivial⟩ ?_
      refine .skips 1 rfl ?_
      refine .nil' fun c w ho hs => Cod.at (E := [(4, _), (5, _), (6, _), (7, _), (8, _)]) (ho.sub ⟨rfl, rfl, rfl, rfl, rfl, trivial⟩) hs ?_
      refine .cond rfl (fun hb20 => ?_) (fun hb20 => ?_)
      · have hd := hd.1 hb20
        exact .skip' fun c w ho hs => ⟨(a0 == 3), hd, I, (.refl _), ho.sub ⟨rfl, rfl, rfl, rfl, rfl, trivial⟩, hs.pick (.c (.s (.s .z)) (.c (.s .z) (.c .z .n)))⟩
      · have hd := hd.2 hb20
        refine .region ?_
        refine .eq rfl rfl rfl rfl ?_
        refine .sub (E' := [(4, _), (5, _), (6, _), (7, _), (11, _)]) ⟨rfl, rfl, rfl, rfl, rfl, trivial⟩ ?_
        refine .skips 1 rfl ?_
        exact .nil' fun c w ho hs => ⟨(a0 == 4), hd, I, (.refl _), ho.sub ⟨rfl, rfl, rfl, rfl, rfl, trivial⟩, hs.pick (.c (.s (.s .z)) (.c (.s .z) (.c .z .n)))⟩
  · rintro s17 hd c w hst
    obtain ⟨I21, hl22, hok, hsym⟩ := hst
    have le23 := IH.le.trans (.refl _) hl22
    refine Cod.at hok hsym ?_
    refine .cond rfl (fun hb24 => ?_) (fun hb24 => ?_)
    · have hd := hd.1 hb24
      refine .seq ?_
      refine .region ?_
      refine .loadW Tryz.isAgg94 Tryz.sizeOf94 rfl .z rfl rfl rfl ?_
      refine .loadW Tryz.isAgg94 Tryz.sizeOf94 rfl (.s .z) rfl rfl rfl ?_
      have hw31 := W_ring_lesser (I := I21) hd
      refine .call Tryz.call82 rfl hw31 rfl rfl fun v29 I26 hl27 hv28 => ?_
      obtain ⟨r25, rfl, hd⟩ := hv28
      have le32 := IH.le.trans le23 hl27
      refine .storeA Tryz.sizeOf94 rfl rfl (.s (.s .z)) (.t (.t .nil)) rfl rfl ?_
      refine .nil' fun c w ho hs => Cod.at (E := [(6, _)]) (ho.sub ⟨rfl, trivial⟩) hs ?_
      refine .drop .z ?_
      refine .drop .z ?_
      exact .ret (pret Tryz.results63 (.w Tryz.isAgg94 Tryz.sizeOf94 rfl .z rfl .n) le32 ⟨r25, rfl, hd⟩)
    · have hd := hd.2 hb24
      refine .seq ?_
      refine .region ?_
      refine .eq rfl rfl rfl rfl ?_
      refine .skips 1 rfl ?_
      refine .nil' fun c w ho hs => Cod.at (E := [(4, _), (5, _), (6, _), (7, _), (15, _)]) (ho.sub ⟨rfl, rfl, rfl, rfl, rfl, trivial⟩) hs ?_
      refine .cond rfl (fun hb33 => ?_) (fun hb33 => ?_)
      · have hd := hd.1 hb33
        refine .seq ?_
        refine .region ?_
        refine .loadW Tryz.isAgg94 Tryz.sizeOf94 rfl .z rfl rfl rfl ?_
        refine .loadW Tryz.isAgg94 Tryz.sizeOf94 rfl (.s .z) rfl rfl rfl ?_
        refine .neV rfl rfl (EQ94 a1 a2) (EG94 _ _ _ _ _) rfl rfl rfl ?_
        refine .skips 1 rfl ?_
        refine split (!(a1 == a2)) (fun hb34 => ?_) (fun hb34 => ?_)
        · have hd := hd.1 hb34
          rw [hb34]
          refine .skips 4 rfl ?_
          have hw41 := W_ring_truth (I := I21) hd
          refine .call Tryz.call83 rfl hw41 rfl rfl fun v39 I36 hl37 hv38 => ?_
          obtain ⟨r35, rfl, hd⟩ := hv38
          have le42 := IH.le.trans le23 hl37
          refine .storeA Tryz.sizeOf94 rfl rfl (.s (.s .z)) (.t (.t .nil)) rfl rfl ?_
          refine .nil' fun c w ho hs => Cod.at (E := [(6, _)]) (ho.sub ⟨rfl, trivial⟩) hs ?_
          refine .drop .z ?_
          refine .drop .z ?_
          exact .ret (pret Tryz.results63 (.w Tryz.isAgg94 Tryz.sizeOf94 rfl .z rfl .n) le42 ⟨r35, rfl, hd⟩)
        · have hd := hd.2 hb34
          rw [hb34]
          refine .gyes rfl rfl rfl (.loadW Tryz.isAgg94 Tryz.sizeOf94 rfl .z rfl rfl rfl ?_)
          refine .gyes rfl rfl rfl (.build Tryz.zeroValue94 Tryz.underlying94 BI94 .n (by exact trivial) rfl rfl ?_)
          refine .gyes rfl rfl rfl (.neV rfl rfl (EQ94 a1 ({ Hi := 0, Lo := 0 } : Wide)) (EG94 _ _ _ _ _) rfl rfl rfl ?_)
          refine .skips 1 rfl ?_
          have hw49 := W_ring_truth (I := I21) hd
          refine .call Tryz.call83 rfl hw49 rfl rfl fun v47 I44 hl45 hv46 => ?_
          obtain ⟨r43, rfl, hd⟩ := hv46
          have le50 := IH.le.trans le23 hl45
          refine .storeA Tryz.sizeOf94 rfl rfl (.s (.s .z)) (.t (.t .nil)) rfl rfl ?_
          refine .nil' fun c w ho hs => Cod.at (E := [(6, _)]) (ho.sub ⟨rfl, trivial⟩) hs ?_
          refine .drop .z ?_
          refine .drop .z ?_
          exact .ret (pret Tryz.results63 (.w Tryz.isAgg94 Tryz.sizeOf94 rfl .z rfl .n) le50 ⟨r43, rfl, hd⟩)
      · have hd := hd.2 hb33
        refine .seq ?_
        refine .region ?_
        refine .eq rfl rfl rfl rfl ?_
        refine .skips 1 rfl ?_
        refine .nil' fun c w ho hs => Cod.at (E := [(4, _), (5, _), (6, _), (26, _)]) (ho.sub ⟨rfl, rfl, rfl, rfl, trivial⟩) hs ?_
        refine .cond rfl (fun hb51 => ?_) (fun hb51 => ?_)
        · have hd := hd.1 hb51
          refine .seq ?_
          refine .region ?_
          refine .loadW Tryz.isAgg94 Tryz.sizeOf94 rfl .z rfl rfl rfl ?_
          refine .loadW Tryz.isAgg94 Tryz.sizeOf94 rfl (.s .z) rfl rfl rfl ?_
          have hw58 := W_wide_Add (I := I21) hd
          refine .call Tryz.call84 rfl hw58 rfl rfl fun v56 I53 hl54 hv55 => ?_
          obtain ⟨r52, rfl, hd⟩ := hv55
          have le59 := IH.le.trans le23 hl54
          refine .storeA Tryz.sizeOf94 rfl rfl (.s (.s .z)) (.t (.t .nil)) rfl rfl ?_
          refine .nil' fun c w ho hs => Cod.at (E := [(6, _)]) (ho.sub ⟨rfl, trivial⟩) hs ?_
          refine .drop .z ?_
          refine .drop .z ?_
          exact .ret (pret Tryz.results63 (.w Tryz.isAgg94 Tryz.sizeOf94 rfl .z rfl .n) le59 ⟨r52, rfl, hd⟩)
        · have hd := hd.2 hb51
          refine .skip' fun c w ho hs => Cod.at (E := [(6, _)]) (ho.sub ⟨rfl, trivial⟩) hs ?_
          refine .drop .z ?_
          refine .drop .z ?_
          refine .seq ?_
          refine .region ?_
          refine .build Tryz.zeroValue94 Tryz.underlying94 BI94 .n (by exact trivial) rfl rfl ?_
          refine .storeA Tryz.sizeOf94 rfl rfl .z (.t (.t .nil)) rfl rfl ?_
          refine .nil' fun c w ho hs => Cod.at (E := [(6, _)]) (ho.sub ⟨rfl, trivial⟩) hs ?_
          exact .ret (pret Tryz.results63 (.w Tryz.isAgg94 Tryz.sizeOf94 rfl .z rfl .n) le23 ⟨({ Hi := 0, Lo := 0 } : Wide), rfl, hd⟩)

theorem W_wide_Narrow {I : IH} {a0 : Wide}  {Q : (Int × Bool) → Prop}  (hd : wide_Narrow a0 Q) :
    PFun Tryz.prog 85 [.agg (encWide a0).toArray] I (fun I_ v => ∃ r, v = .tuple #[.int .i64 r.1, .bool r.2] ∧ Q r) := by
  refine Fun.enter Tryz.func85 rfl Tryz.ntmps85 rfl (.c .n) fun w0 M => ?_
  refine .seq ?_
  refine .region ?_
  refine .boxA rfl rfl rfl fun b3 => ?_
  refine .skips 2 rfl ?_
  refine .nil' fun c w ho hs => Cod.at (E := [(1, _)]) (ho.sub ⟨rfl, trivial⟩) hs ?_
  refine .seq ?_
  refine .region ?_
  refine .fieldAddr Tryz.underlying94 rfl Tryz.sizeOf92 rfl (o := 1) rfl rfl rfl ?_
  refine .load1 Tryz.isAgg92 rfl .z rfl rfl rfl ?_
  refine .conv Tryz.underlying92 Tryz.underlying2 rfl rfl rfl ?_
  refine .skips 1 rfl ?_
  refine .nil' fun c w ho hs => Cod.at (E := [(1, _), (4, _)]) (ho.sub ⟨rfl, rfl, trivial⟩) hs ?_
  refine .seq ?_
  refine .seq ?_
  refine .draw [some 0, some 2, some 1, some 3] 4 MX (by kernel_rfl) (by kernel_rfl) (by kernel_rfl) (by kernel_rfl) (by kernel_rfl) (by kernel_rfl) (by kernel_rfl) (fun ex => (pto b3 (.cells #[.int .i64 a0.Hi, .int .u64 a0.Lo] 94 (0, 0))) :: ex) (fun _ _ => (.s .z)) rfl ?_
  refine .f [] rfl (by kernel_rfl) rfl rfl (fun ex => .move rfl rfl rfl .mk) ?_
  refine .f [] rfl (by kernel_rfl) rfl rfl (fun ex => .loadW Tryz.isAgg94 Tryz.sizeOf94 rfl .z rfl rfl rfl .mk) ?_
  refine .w [2] [[]] [0] rfl (by kernel_rfl) (by kernel_rfl) (by kernel_rfl) ((dropE_kept rfl rfl)) (.inr (dropE_kept rfl rfl)) fun ex => ?_
  have hw11 := W_wide_Of (I := I) hd
  refine .call Tryz.call62 rfl hw11 rfl rfl fun v9 I6 hl7 hv8 => ?_
  obtain ⟨r5, rfl, hd⟩ := hv8
  have le12 := IH.le.trans (.refl _) hl7
  refine .some (fun ex => (pto b3 (.cells #[.int .i64 a0.Hi, .int .u64 a0.Lo] 94 (0, 0))) :: ex) rfl (fun _ _ => (.s .z)) rfl (.cc [] rfl (by kernel_rfl) rfl rfl rfl (fun ex => .loadW Tryz.isAgg94 Tryz.sizeOf94 rfl .z rfl rfl rfl .mk) trivial) ?_
  refine .f [1, 2] rfl (by kernel_rfl) rfl rfl (fun ex => .neV rfl rfl (EQ94 r5 a0) (EG94 _ _ _ _ _) rfl rfl rfl .mk) ?_
  refine .e 4 (by kernel_rfl) (by kernel_rfl) (by kernel_rfl) ?_
  refine .nil' fun c w ho hs => Cod.at (E := [(4, _), (11, _)]) (ho.sub ⟨rfl, rfl, trivial⟩) hs ?_
  refine .drop .z ?_
  refine .cond rfl (fun hb13 => ?_) (fun hb13 => ?_)
  · have hd := hd.1 hb13
    refine .seq ?_
    refine .region ?_
    refine .skips 2 rfl ?_
    refine .nil' fun c w ho hs => Cod.at (E := [(2, _), (3, _)]) (ho.sub ⟨rfl, rfl, trivial⟩) hs ?_
    exact .ret (pret Tryz.results85 (.t rfl (.t rfl .n)) le12 ⟨(0, false), rfl, hd⟩)
  · have hd := hd.2 hb13
    refine .skip' fun c w ho hs => Cod.at (E := [(4, _)]) (ho.sub ⟨rfl, trivial⟩) hs ?_
    refine .seq ?_
    refine .region ?_
    refine .skips 3 rfl ?_
    refine .nil' fun c w ho hs => Cod.at (E := [(2, _), (3, _)]) (ho.sub ⟨rfl, rfl, trivial⟩) hs ?_
    exact .ret (pret Tryz.results85 (.t rfl (.t rfl .n)) le12 ⟨(w64 (a0.Lo), true), rfl, hd⟩)

theorem W_ring_Narrow {I : IH} {a0 : Int} {a1 : Wide}  {Q : (Int × Bool) → Prop}  (hd : ring_Narrow a0 a1 Q) :
    PFun Tryz.prog 64 [.int .i64 a0, .agg (encWide a1).toArray] I (fun I_ v => ∃ r, v = .tuple #[.int .i64 r.1, .bool r.2] ∧ Q r) := by
  refine Fun.enter Tryz.func64 rfl Tryz.ntmps64 rfl (.c (.c .n)) fun w0 M => ?_
  refine .seq ?_
  refine .region ?_
  refine .boxA rfl rfl rfl fun b1 => ?_
  refine .skips 2 rfl ?_
  refine .nil' fun c w ho hs => Cod.at (E := [(3, _)]) (ho.sub ⟨rfl, trivial⟩) hs ?_
  refine .seq ?_
  refine .region ?_
  refine .loadW Tryz.isAgg94 Tryz.sizeOf94 rfl .z rfl rfl rfl ?_
  have hw9 := W_wide_Narrow (I := I) hd
  refine .call Tryz.call85 rfl hw9 rfl rfl fun v7 I4 hl5 hv6 => ?_
  obtain ⟨r3, rfl, hd⟩ := hv6
  have le10 := IH.le.trans (.refl _) hl5
  refine .extract rfl rfl rfl rfl ?_
  refine .extract rfl rfl rfl rfl ?_
  refine .skips 2 rfl ?_
  refine .nil' fun c w ho hs => Cod.at (E := [(4, _), (5, _)]) (ho.sub ⟨rfl, rfl, trivial⟩) hs ?_
  refine .drop .z ?_
  exact .ret (pret Tryz.results64 (.t rfl (.t rfl .n)) le10 ⟨(r3.1, r3.2), rfl, hd⟩)

theorem W_csr_summed {I : IH} {a0 : Int} {a1 : List Triple} {p1 : Option Addr} {c2 : Nat} {Q : ((List Triple) × Int) → Prop} (R3 : RepSl eTriple I p1 c2 a1) (hd : csr_summed a0 a1 Q) :
    PFun Tryz.prog 41 [.int .i64 a0, .slice p1 a1.length c2] I (fun I_ v => ∃ r p4 c5, v = .tuple #[.slice p4 r.1.length c5, .int .i64 r.2] ∧ RepSl eTriple I_ p4 c5 r.1 ∧ Q r) := by
  refine Fun.enter Tryz.func41 rfl Tryz.ntmps41 rfl (.c (.c .n)) fun w0 M => ?_
  refine .seq ?_
  refine .region ?_
  refine .skips 2 rfl ?_
  refine .nil' fun c w ho hs => Cod.at (E := [(0, _), (1, _)]) (ho.sub ⟨rfl, rfl, trivial⟩) hs ?_
  refine .seq ?_
  refine .region ?_
  refine .mkMap kArr2 eWide true rfl rfl fun b9 => ?_
  refine .skips 1 rfl ?_
  refine .nil' fun c w ho hs => Cod.at (E := [(0, _), (1, _), (6, _)]) (ho.sub ⟨rfl, rfl, rfl, trivial⟩) hs ?_
  refine .seq ?_
  refine .seq ?_
  refine .region ?_
  refine .skips 1 rfl ?_
  refine .len Tryz.underlying24 rfl rfl rfl rfl ?_
  refine .skips 1 rfl ?_
  refine .nil' fun c w ho hs => Cod.at (E := [(0, _), (6, _), (19, _), (20, _), (21, _)]) (ho.sub ⟨rfl, rfl, rfl, rfl, rfl, trivial⟩) hs ?_
  refine .block ?_
  refine .loop hd (fun (s : (List ((Int × Int) × Wide)) × Int) c w => match s with | (s354, s355) => ∃ I_, IH.le I I_ ∧ Ok 75 [(0, .int .i64 a0), (6, .map (some b9)), (19, .slice p1 a1.length c2), (20, .int .i64 (a1.length : Int)), (21, .int .i64 s355)] c ∧ Sym w0 M I I_ [OwnMap kArr2 eWide true b9 s354] w) (fun c w ho hs => ⟨I, (.refl _), ho.sub ⟨rfl, rfl, rfl, rfl, rfl, trivial⟩, hs.pick (.c .z .n)⟩) ?_
  rintro ⟨s354, s355⟩ next356 hd c w hst
  obtain ⟨I357, hl358, hok, hsym⟩ := hst
  have le359 := IH.le.trans (.refl _) hl358
  replace R3 := R3.mono hl358
  refine Cod.at hok hsym ?_
  refine .seq ?_
  refine .region ?_
  refine .lt rfl rfl rfl rfl ?_
  refine .nil' fun c w ho hs => Cod.at (E := [(0, _), (6, _), (19, _), (20, _), (21, _), (22, _)]) (ho.sub ⟨rfl, rfl, rfl, rfl, rfl, rfl, trivial⟩) hs ?_
  refine .seq ?_
  refine .cond rfl (fun hb361 => ?_) (fun hb361 => ?_)
  · have hd := hd.1 hb361
    refine .skip' fun c w ho hs => Cod.at (E := [(0, _), (6, _), (19, _), (20, _), (21, _)]) (ho.sub ⟨rfl, rfl, rfl, rfl, rfl, trivial⟩) hs ?_
    refine .seq ?_
    refine .block ?_
    refine .seq ?_
    refine .region ?_
    obtain ⟨h373, x374, hx375, hd⟩ := hd
    obtain ⟨b376, o377, cs378, e379, hC380, hr381⟩ := R3.2 _ _ hx375
    cases hr381
    refine .ixa Tryz.underlying24 Tryz.sizeOf60 rfl e379 rfl h373 (idx_lt hx375 h373) rfl rfl ?_
    refine .ldW Tryz.isAgg60 Tryz.sizeOf60 hC380 rfl rfl rfl rfl ?_
    refine .allocA Tryz.zeroValue60 rfl rfl fun b382 => ?_
    refine .storeA Tryz.sizeOf60 rfl rfl .z (.t (.t (.t .nil))) rfl rfl ?_
    refine .nil' fun c w ho hs => Cod.at (E := [(0, _), (6, _), (19, _), (20, _), (21, _), (8, _)]) (ho.sub ⟨rfl, rfl, rfl, rfl, rfl, rfl, trivial⟩) hs ?_
    refine .seq ?_
    refine .region ?_
    refine .fieldAddr Tryz.underlying60 rfl Tryz.sizeOf3 rfl (o := 0) rfl rfl rfl ?_
    refine .load1 Tryz.isAgg3 rfl .z rfl rfl rfl ?_
    refine .fieldAddr Tryz.underlying60 rfl Tryz.sizeOf3 rfl (o := 1) rfl rfl rfl ?_
    refine .load1 Tryz.isAgg3 rfl .z rfl rfl rfl ?_
    refine .buildArr Tryz.zeroValue23 Tryz.underlying23 Tryz.sizeOf3 (.c rfl rfl rfl (.t .nil) (.c rfl rfl rfl (.s (.t .nil)) .n)) rfl rfl ?_
    refine .allocA Tryz.zeroValue23 rfl rfl fun b386 => ?_
    refine .storeA Tryz.sizeOf23 rfl rfl .z (.t (.t .nil)) rfl rfl ?_
    refine .nil' fun c w ho hs => Cod.at (E := [(0, _), (6, _), (19, _), (20, _), (21, _), (8, _), (9, _)]) (ho.sub ⟨rfl, rfl, rfl, rfl, rfl, rfl, rfl, trivial⟩) hs ?_
    refine .seq ?_
    refine .region ?_
    refine .fieldAddr Tryz.underlying60 rfl Tryz.sizeOf2 rfl (o := 2) rfl rfl rfl ?_
    refine .load1 Tryz.isAgg2 rfl (.s .z) rfl rfl rfl ?_
    have hw404 := W_wide_Of (I := I357) hd
    refine .call Tryz.call62 rfl hw404 rfl rfl fun v402 I399 hl400 hv401 => ?_
    obtain ⟨r398, rfl, hd⟩ := hv401
    have le405 := IH.le.trans le359 hl400
    replace R3 := R3.mono hl400
    refine .allocA Tryz.zeroValue94 rfl rfl fun b406 => ?_
    refine .storeA Tryz.sizeOf94 rfl rfl .z (.t (.t .nil)) rfl rfl ?_
    refine .nil' fun c w ho hs => Cod.at (E := [(0, _), (6, _), (19, _), (20, _), (21, _), (9, _), (10, _)]) (ho.sub ⟨rfl, rfl, rfl, rfl, rfl, rfl, rfl, trivial⟩) hs ?_
    refine .drop (.s (.s .z)) ?_
    refine .seq ?_
    refine .seq ?_
    refine .region ?_
    refine .skips 1 rfl ?_
    refine .loadW Tryz.isAgg23 Tryz.sizeOf23 rfl (.s .z) rfl rfl rfl ?_
    refine .lookM2 (k := (x374.Row, x374.Col)) (El := eWide) (ag := true) (zv := .agg #[.int .i64 0, .int .u64 0]) (z := ({ Hi := 0, Lo := 0 } : Wide)) KA23 Tryz.underlying91 Tryz.zeroValue94 ⟨[.int .i64 0, .int .u64 0], rfl, .a⟩ (.s (.s .z)) rfl rfl hd rfl rfl fun v411 r408 t413 cs412 hd hr409 hv410 => ?_
    cases hr409
    cases hv410
    refine .skips 1 rfl ?_
    refine .extract rfl rfl rfl rfl ?_
    refine .extract rfl rfl rfl rfl ?_
    refine .allocA Tryz.zeroValue94 rfl rfl fun b414 => ?_
    refine .storeA Tryz.sizeOf94 rfl rfl .z (.t (.t .nil)) rfl rfl ?_
    refine .skips 1 rfl ?_
    refine .nil' fun c w ho hs => Cod.at (E := [(0, _), (6, _), (19, _), (20, _), (21, _), (9, _), (10, _), (11, _), (12, _)]) (ho.sub ⟨rfl, rfl, rfl, rfl, rfl, rfl, rfl, rfl, rfl, trivial⟩) hs ?_
    refine .seq ?_
    refine .region ?_
    refine .skips 1 rfl ?_
    refine .nil' fun c w ho hs => Cod.at (E := [(0, _), (6, _), (19, _), (20, _), (21, _), (9, _), (10, _), (11, _), (39, _)]) (ho.sub ⟨rfl, rfl, rfl, rfl, rfl, rfl, rfl, rfl, rfl, trivial⟩) hs ?_
    refine .cond rfl (fun hb416 => ?_) (fun hb416 => ?_)
    · have hd := hd.1 hb416
      refine .region ?_
      refine .skips 1 rfl ?_
      refine .loadW Tryz.isAgg94 Tryz.sizeOf94 rfl .z rfl rfl rfl ?_
      refine .loadW Tryz.isAgg94 Tryz.sizeOf94 rfl (.s .z) rfl rfl rfl ?_
      have hw423 := W_ring_Add (I := I399) hd
      refine .call Tryz.call63 rfl hw423 rfl rfl fun v421 I418 hl419 hv420 => ?_
      obtain ⟨r417, rfl, hd⟩ := hv420
      have le424 := IH.le.trans le405 hl419
      replace R3 := R3.mono hl419
      refine .storeA Tryz.sizeOf94 rfl rfl (.s .z) (.t (.t .nil)) rfl rfl ?_
      refine .nil' fun c w ho hs => Cod.at (E := [(0, _), (6, _), (19, _), (20, _), (21, _), (9, _), (10, _)]) (ho.sub ⟨rfl, rfl, rfl, rfl, rfl, rfl, rfl, trivial⟩) hs ?_
      refine .drop .z ?_
      refine .region ?_
      refine .skips 1 rfl ?_
      refine .loadW Tryz.isAgg23 Tryz.sizeOf23 rfl (.s .z) rfl rfl rfl ?_
      refine .loadW Tryz.isAgg94 Tryz.sizeOf94 rfl .z rfl rfl rfl ?_
      refine .updM (k := (x374.Row, x374.Col)) (El := eWide) (ag := true) (v := r417) KA23 Tryz.underlying91 (.s (.s .z)) rfl rfl rfl ⟨[.int .i64 r417.Hi, .int .u64 r417.Lo], rfl, .a⟩ ?_
      refine .nil' fun c w ho hs => Cod.at (E := [(0, _), (6, _), (19, _), (20, _), (21, _)]) (ho.sub ⟨rfl, rfl, rfl, rfl, rfl, trivial⟩) hs ?_
      refine .drop .z ?_
      refine .drop .z ?_
      refine .region ?_
      refine .add rfl rfl rfl rfl ?_
      refine .sub (E' := [(0, _), (6, _), (19, _), (20, _), (47, _)]) ⟨rfl, rfl, rfl, rfl, rfl, trivial⟩ ?_
      refine .skips 1 rfl ?_
      exact .nil' fun c w ho hs => ⟨((mput (x374.Row, x374.Col) r417 s354), w64 (s355 + 1)), hd, I418, le424, ho.sub ⟨rfl, rfl, rfl, rfl, rfl, trivial⟩, hs.pick (.c .z .n)⟩
    · have hd := hd.2 hb416
      refine .skip' fun c w ho hs => Cod.at (E := [(0, _), (6, _), (19, _), (20, _), (21, _), (9, _), (10, _)]) (ho.sub ⟨rfl, rfl, rfl, rfl, rfl, rfl, rfl, trivial⟩) hs ?_
      refine .drop .z ?_
      refine .region ?_
      refine .skips 1 rfl ?_
      refine .loadW Tryz.isAgg23 Tryz.sizeOf23 rfl (.s .z) rfl rfl rfl ?_
      refine .loadW Tryz.isAgg94 Tryz.sizeOf94 rfl .z rfl rfl rfl ?_
      refine .updM (k := (x374.Row, x374.Col)) (El := eWide) (ag := true) (v := r398) KA23 Tryz.underlying91 (.s (.s .z)) rfl rfl rfl ⟨[.int .i64 r398.Hi, .int .u64 r398.Lo], rfl, .a⟩ ?_
      refine .nil' fun c w ho hs => Cod.at (E := [(0, _), (6, _), (19, _), (20, _), (21, _)]) (ho.sub ⟨rfl, rfl, rfl, rfl, rfl, trivial⟩) hs ?_
      refine .drop .z ?_
      refine .drop .z ?_
      refine .region ?_
      refine .add rfl rfl rfl rfl ?_
      refine .sub (E' := [(0, _), (6, _), (19, _), (20, _), (47, _)]) ⟨rfl, rfl, rfl, rfl, rfl, trivial⟩ ?_
      refine .skips 1 rfl ?_
      exact .nil' fun c w ho hs => ⟨((mput (x374.Row, x374.Col) r398 s354), w64 (s355 + 1)), hd, I399, le405, ho.sub ⟨rfl, rfl, rfl, rfl, rfl, trivial⟩, hs.pick (.c .z .n)⟩
  · have hd := hd.2 hb361
    refine .exit fun c w ho hs => Cod.at (E := [(0, _), (6, _)]) (ho.sub ⟨rfl, rfl, trivial⟩) hs ?_
    refine .seq ?_
    refine .region ?_
    refine .skips 1 rfl ?_
    refine .nil' fun c w ho hs => Cod.at (E := [(0, _), (6, _), (13, _)]) (ho.sub ⟨rfl, rfl, rfl, trivial⟩) hs ?_
    refine .seq ?_
    refine .seq ?_
    refine .region ?_
    refine .skips 1 rfl ?_
    refine .rangeM Tryz.underlying91 .z rfl rfl rfl fun b426 => ?_
    refine .nil' fun c w ho hs => Cod.at (E := [(0, _), (13, _), (49, _)]) (ho.sub ⟨rfl, rfl, rfl, trivial⟩) hs ?_
    refine .block ?_
    refine .own0 eTriple 60 ?_
    refine .loop hd (fun (s : (List Triple) × (List ((Int × Int) × Wide))) c w => match s with | (s551, s555) => ∃ I_ p552 c553, IH.le I357 I_ ∧ Ok 75 [(0, .int .i64 a0), (13, .slice p552 s551.length c553), (49, .pointer (some ⟨b426, 0, none⟩))] c ∧ Sym w0 M I I_ [OwnSl eTriple 60 p552 c553 s551, OwnIt kArr2 eWide true b9 b426 s354 s555 none] w) (fun c w ho hs => ⟨I357, _, _, (.refl _), ho.sub ⟨rfl, rfl, rfl, trivial⟩, hs.pick (.c .z (.c .z .n))⟩) ?_
    rintro ⟨s551, s555⟩ next557 hd c w hst
    obtain ⟨I558, p552, c553, hl559, hok, hsym⟩ := hst
    have le560 := IH.le.trans le359 hl559
    have le561 := IH.le.trans (.refl _) hl559
    refine Cod.at hok hsym ?_
    refine .seq ?_
    refine .region ?_
    refine .nextM (.s .z) rfl hd rfl rfl (fun hd hn582 => ?_) (fun p576 l577 v578 cs579 hd hr580 hv581 hn582 => ?_)
    · skip
      refine .extract rfl rfl rfl rfl ?_
      refine .nil' fun c w ho hs => Cod.at (E := [(0, _), (13, _), (49, _), (51, _)]) (ho.sub ⟨rfl, rfl, rfl, rfl, trivial⟩) hs ?_
      refine .seq ?_
      refine .condKF rfl rfl ?_
      refine .exit fun c w ho hs => Cod.at (E := [(13, _)]) (ho.sub ⟨rfl, trivial⟩) hs ?_
      refine .drop (.s .z) ?_
      refine .seq ?_
      refine .region ?_
      refine .skips 1 rfl ?_
      have hw583 := Fun.sort (hk := fun _ => ⟨rfl, rfl⟩) SL53 Tryz.isAgg60 Tryz.sizeOf60 (fun x y J Q hq => W_csr_order (I := J) (a0 := x) (a1 := y) (Q := Q) hq) Tryz.call54 (I := I558) (T := 60) (a := p552) (cap := c553) hd
      refine .callS (.f Tryz.call53 rfl) (.c .z .n) hw583 rfl rfl fun v584 I585 l586 hl587 hv588 => ?_
      obtain ⟨y589, rfl, hlen590, rfl, hd⟩ := hv588
      have le591 := IH.le.trans le560 hl587
      have le592 := IH.le.trans le561 hl587
      refine .sub (E' := [(13, .slice p552 y589.length c553), (72, .slice p552 y589.length c553), (73, _)]) ⟨(by rw [hlen590]; rfl), (by rw [hlen590]; rfl), rfl, trivial⟩ ?_
      refine .nil' fun c w ho hs => Cod.at (E := [(13, _)]) (ho.sub ⟨rfl, trivial⟩) hs ?_
      refine .seq ?_
      refine .region ?_
      refine .skips 3 rfl ?_
      refine .nil' fun c w ho hs => Cod.at (E := [(4, _), (5, _)]) (ho.sub ⟨rfl, rfl, trivial⟩) hs ?_
      refine .pub .z fun I593 hl594 R595 => ?_
      have le596 := IH.le.trans le591 hl594
      have le597 := IH.le.trans le592 hl594
      exact .ret (pret Tryz.results41 (.t rfl (.t rfl .n)) le596 ⟨(y589, 0), _, _, rfl, R595, hd⟩)
    · skip
      cases hr580
      cases hv581
      refine .extract rfl rfl rfl rfl ?_
      refine .nil' fun c w ho hs => Cod.at (E := [(0, _), (13, _), (49, _), (51, _)]) (ho.sub ⟨rfl, rfl, rfl, rfl, trivial⟩) hs ?_
      refine .seq ?_
      refine .condKT rfl rfl ?_
      refine .skip' fun c w ho hs => Cod.at (E := [(0, _), (13, _), (49, _)]) (ho.sub ⟨rfl, rfl, rfl, trivial⟩) hs ?_
      refine .block ?_
      refine .seq ?_
      refine .region ?_
      refine .entryM .z rfl rfl rfl ?_
      refine .extract rfl rfl rfl rfl ?_
      refine .extract rfl rfl rfl rfl ?_
      refine .allocA Tryz.zeroValue23 rfl rfl fun b602 => ?_
      refine .allocA Tryz.zeroValue94 rfl rfl fun b604 => ?_
      refine .storeA Tryz.sizeOf23 rfl rfl (.s .z) (.t (.t .nil)) rfl rfl ?_
      refine .storeA Tryz.sizeOf94 rfl rfl .z (.t (.t .nil)) rfl rfl ?_
      refine .nil' fun c w ho hs => Cod.at (E := [(0, _), (13, _), (49, _), (14, _), (15, _)]) (ho.sub ⟨rfl, rfl, rfl, rfl, rfl, trivial⟩) hs ?_
      refine .seq ?_
      refine .region ?_
      refine .skips 1 rfl ?_
      refine .loadW Tryz.isAgg94 Tryz.sizeOf94 rfl .z rfl rfl rfl ?_
      have hw621 := W_ring_Narrow (I := I558) hd
      refine .call Tryz.call64 rfl hw621 rfl rfl fun v619 I616 hl617 hv618 => ?_
      obtain ⟨r615, rfl, hd⟩ := hv618
      have le622 := IH.le.trans le560 hl617
      have le623 := IH.le.trans le561 hl617
      refine .skips 1 rfl ?_
      refine .extract rfl rfl rfl rfl ?_
      refine .extract rfl rfl rfl rfl ?_
      refine .skips 2 rfl ?_
      refine .nil' fun c w ho hs => Cod.at (E := [(0, _), (13, _), (49, _), (14, _), (16, _), (17, _)]) (ho.sub ⟨rfl, rfl, rfl, rfl, rfl, rfl, trivial⟩) hs ?_
      refine .drop .z ?_
      refine .seq ?_
      refine .seq ?_
      refine .region ?_
      refine .skips 1 rfl ?_
      refine .not rfl rfl rfl ?_
      refine .nil' fun c w ho hs => Cod.at (E := [(0, _), (13, _), (49, _), (14, _), (16, _), (62, _)]) (ho.sub ⟨rfl, rfl, rfl, rfl, rfl, rfl, trivial⟩) hs ?_
      refine .cond rfl (fun hb624 => ?_) (fun hb624 => ?_)
      · have hd := hd.1 hb624
        refine .seq ?_
        refine .region ?_
        refine .skips 2 rfl ?_
        refine .nil' fun c w ho hs => Cod.at (E := [(4, _), (5, _)]) (ho.sub ⟨rfl, rfl, trivial⟩) hs ?_
        refine .drop .z ?_
        refine .drop .z ?_
        refine .drop .z ?_
        exact .ret (pret Tryz.results41 (.t rfl (.t rfl .n)) le622 ⟨(([] : List Triple), 12), _, _, rfl, (.nil _ _ _), hd⟩)
      · have hd := hd.2 hb624
        refine .skip' fun c w ho hs => Cod.at (E := [(0, _), (13, _), (49, _), (14, _), (16, _)]) (ho.sub ⟨rfl, rfl, rfl, rfl, rfl, trivial⟩) hs ?_
        refine .region ?_
        refine .skips 1 rfl ?_
        refine .ixArr (i := 0) Tryz.underlying23 Tryz.sizeOf3 rfl rfl (by decide) (o := 0) rfl rfl rfl ?_
        refine .load1 Tryz.isAgg3 rfl .z rfl rfl rfl ?_
        refine .ixArr (i := 1) Tryz.underlying23 Tryz.sizeOf3 rfl rfl (by decide) (o := 1) rfl rfl rfl ?_
        refine .load1 Tryz.isAgg3 rfl .z rfl rfl rfl ?_
        refine .skips 1 rfl ?_
        refine .build Tryz.zeroValue60 Tryz.underlying60 BI60 (.c rfl rfl rfl (.t .nil) (.c rfl rfl rfl (.s (.t .nil)) (.c rfl rfl rfl (.s (.s (.t .nil))) .n))) (by exact ⟨⟨_, _, rfl, rfl, rfl⟩, ⟨⟨_, _, rfl, rfl, rfl⟩, ⟨⟨_, _, rfl, rfl, rfl⟩, trivial⟩⟩⟩) rfl rfl ?_
        refine .buildSlice 1 Tryz.underlying24 Tryz.sizeOf60 Tryz.zeroValue60 rfl rfl (.c rfl rfl rfl .n) rfl rfl fun b625 => ?_
        obtain ⟨hl627, hd⟩ := hd
        refine .append (ys := [({ Row := p576.1.1, Col := p576.1.2, Val := r615.1 } : Triple)]) 24 (.s (.s (.s .z))) Tryz.underlying24 Tryz.underlying24 IN60 rfl rfl rfl rfl rfl rfl rfl rfl rfl (.box .z (.one rfl) rfl) hl627 rfl rfl fun p628 c629 => ?_
        refine .sub (E' := [(0, _), (49, _), (14, _), (16, _), (63, _), (64, _), (65, _), (66, _), (67, _), (68, _), (69, _), (70, _), (71, _)]) ⟨rfl, rfl, rfl, rfl, rfl, rfl, rfl, rfl, rfl, rfl, rfl, rfl, rfl, trivial⟩ ?_
        refine .skips 1 rfl ?_
        exact .nil' fun c w ho hs => ⟨((s551 ++ ([({ Row := p576.1.1, Col := p576.1.2, Val := r615.1 } : Triple)])), l577), hd, I616, _, _, le623, ho.sub ⟨rfl, rfl, rfl, trivial⟩, hs.pick (.c .z (.c (.s (.s .z)) .n))⟩

theorem W_csr_empty {I : IH} {a0 : Int} {a1 : Int}  {Q : Rows → Prop}  (hd : csr_empty a0 a1 Q) :
    OFun Tryz.prog 65 [.int .i64 a0, .int .i64 a1] I (fun I_ v l => ∃ r p1 c2 p4 c5 p7 c8, v = .agg #[.int .i64 r.Rows, .int .i64 r.Cols, .slice p1 r.Start.length c2, .slice p4 r.Col.length c5, .slice p7 r.Val.length c8] ∧ l = [OwnSl eI64 3 p1 c2 r.Start, OwnSl eI64 3 p4 c5 r.Col, OwnSl eI64 2 p7 c8 r.Val] ∧ Q r) := by
  refine Fun.enter Tryz.func65 rfl Tryz.ntmps65 rfl (.c (.c .n)) fun w0 M => ?_
  refine .seq ?_
  refine .region ?_
  refine .allocA Tryz.zeroValue29 rfl rfl fun b10 => ?_
  refine .nil' fun c w ho hs => Cod.at (E := [(0, _), (1, _), (4, _)]) (ho.sub ⟨rfl, rfl, rfl, trivial⟩) hs ?_
  refine .seq ?_
  refine .region ?_
  refine .skips 3 rfl ?_
  refine .add rfl rfl rfl rfl ?_
  obtain ⟨h12, h13, hd⟩ := hd
  refine .make (El := eI64) (zv := 0) 8 Tryz.underlying26 IN3 rfl rfl rfl rfl rfl rfl h12 h13 rfl rfl rfl fun b14 => ?_
  refine .build Tryz.zeroValue29 Tryz.underlying29 BI29 (.c rfl rfl rfl (.t .nil) (.c rfl rfl rfl (.s (.t .nil)) (.c rfl rfl rfl (.s (.s (.t .nil))) .n))) (by exact ⟨⟨_, _, rfl, rfl, rfl⟩, ⟨⟨_, _, rfl, rfl, rfl⟩, ⟨⟨_, _, rfl, rfl, rfl⟩, trivial⟩⟩⟩) rfl rfl ?_
  refine .storeA Tryz.sizeOf29 rfl rfl (.s .z) (.t (.t (.t (.t (.t .nil))))) rfl rfl ?_
  refine .nil' fun c w ho hs => Cod.at (E := [(4, _)]) (ho.sub ⟨rfl, trivial⟩) hs ?_
  refine .own0 eI64 3 ?_
  refine .own0 eI64 2 ?_
  exact .ret (oret Tryz.results65 (.w Tryz.isAgg29 Tryz.sizeOf29 rfl (.s (.s (.s .z))) rfl .n) (.refl _) (.c (.s (.s .z)) (.c (.s .z) (.c .z .n))) ⟨({ Rows := a0, Cols := a1, Start := (List.replicate (w64 (a0 + 1)).toNat 0), Col := ([] : List Int), Val := ([] : List Int) } : Rows), _, _, _, _, _, _, rfl, rfl, hd⟩)

theorem W_csr_built {I : IH} {a0 : Int} {a1 : Int} {a2 : List Triple} {p1 : Option Addr} {c2 : Nat} {Q : Rows → Prop} (R3 : RepSl eTriple I p1 c2 a2) (hd : csr_built a0 a1 a2 Q) :
    PFun Tryz.prog 42 [.int .i64 a0, .int .i64 a1, .slice p1 a2.length c2] I (fun I_ v => ∃ r p4 c5 p7 c8 p10 c11, v = .agg #[.int .i64 r.Rows, .int .i64 r.Cols, .slice p4 r.Start.length c5, .slice p7 r.Col.length c8, .slice p10 r.Val.length c11] ∧ RepSl eI64 I_ p4 c5 r.Start ∧ RepSl eI64 I_ p7 c8 r.Col ∧ RepSl eI64 I_ p10 c11 r.Val ∧ Q r) := by
  refine Fun.enter Tryz.func42 rfl Tryz.ntmps42 rfl (.c (.c (.c .n))) fun w0 M => ?_
  refine .seq ?_
  refine .region ?_
  refine .allocA Tryz.zeroValue29 rfl rfl fun b15 => ?_
  refine .nil' fun c w ho hs => Cod.at (E := [(0, _), (1, _), (2, _), (6, _)]) (ho.sub ⟨rfl, rfl, rfl, rfl, trivial⟩) hs ?_
  refine .seq ?_
  refine .region ?_
  refine .skips 2 rfl ?_
  have hw57 := W_csr_empty (I := I) hd
  refine .callO Tryz.call65 rfl hw57 rfl rfl fun v43 I40 l44 hl41 hv42 => ?_
  obtain ⟨r39, p45, c46, p48, c49, p51, c52, rfl, rfl, hd⟩ := hv42
  have le58 := IH.le.trans (.refl _) hl41
  replace R3 := R3.mono hl41
  refine .allocA Tryz.zeroValue29 rfl rfl fun b59 => ?_
  refine .storeA Tryz.sizeOf29 rfl rfl .z (.t (.t (.t (.t (.t .nil))))) rfl rfl ?_
  refine .nil' fun c w ho hs => Cod.at (E := [(0, _), (2, _), (6, _), (7, _)]) (ho.sub ⟨rfl, rfl, rfl, rfl, trivial⟩) hs ?_
  refine .seq ?_
  refine .seq ?_
  refine .region ?_
  refine .skips 1 rfl ?_
  refine .len Tryz.underlying24 rfl rfl rfl rfl ?_
  refine .skips 1 rfl ?_
  refine .nil' fun c w ho hs => Cod.at (E := [(0, _), (6, _), (7, _), (14, _), (15, _), (16, _)]) (ho.sub ⟨rfl, rfl, rfl, rfl, rfl, rfl, trivial⟩) hs ?_
  refine .block ?_
  refine .loop hd (fun (s : (List Int) × (List Int) × (List Int) × Int) c w => match s with | (s417, s421, s425, s429) => ∃ I_ p418 c419 p422 c423 p426 c427, IH.le I40 I_ ∧ Ok 63 [(0, .int .i64 a0), (6, .pointer (some ⟨b15, 0, none⟩)), (7, .pointer (some ⟨b59, 0, none⟩)), (14, .slice p1 a2.length c2), (15, .int .i64 (a2.length : Int)), (16, .int .i64 s429)] c ∧ Sym w0 M I I_ [pto b15 (.cells #[.int .i64 0, .int .i64 0, .slice none 0 0, .slice none 0 0, .slice none 0 0] 29 (0, 0)), pto b59 (.cells #[.int .i64 r39.Rows, .int .i64 r39.Cols, .slice p418 s417.length c419, .slice p422 s421.length c423, .slice p426 s425.length c427] 29 (0, 0)), OwnSl eI64 3 p418 c419 s417, OwnSl eI64 3 p422 c423 s421, OwnSl eI64 2 p426 c427 s425] w) (fun c w ho hs => ⟨I40, _, _, _, _, _, _, (.refl _), ho.sub ⟨rfl, rfl, rfl, rfl, rfl, rfl, trivial⟩, hs.pick (.c (.s (.s (.s (.s .z)))) (.c .z (.c .z (.c .z (.c .z .n)))))⟩) ?_
  rintro ⟨s417, s421, s425, s429⟩ next430 hd c w hst
  obtain ⟨I431, p418, c419, p422, c423, p426, c427, hl432, hok, hsym⟩ := hst
  have le433 := IH.le.trans le58 hl432
  have le434 := IH.le.trans (.refl _) hl432
  replace R3 := R3.mono hl432
  refine Cod.at hok hsym ?_
  refine .seq ?_
  refine .region ?_
  refine .lt rfl rfl rfl rfl ?_
  refine .nil' fun c w ho hs => Cod.at (E := [(0, _), (6, _), (7, _), (14, _), (15, _), (16, _), (17, _)]) (ho.sub ⟨rfl, rfl, rfl, rfl, rfl, rfl, rfl, trivial⟩) hs ?_
  refine .seq ?_
  refine .cond rfl (fun hb436 => ?_) (fun hb436 => ?_)
  · have hd := hd.1 hb436
    refine .skip' fun c w ho hs => Cod.at (E := [(0, _), (6, _), (7, _), (14, _), (15, _), (16, _)]) (ho.sub ⟨rfl, rfl, rfl, rfl, rfl, rfl, trivial⟩) hs ?_
    refine .seq ?_
    refine .block ?_
    refine .seq ?_
    refine .region ?_
    obtain ⟨h448, x449, hx450, hd⟩ := hd
    obtain ⟨b451, o452, cs453, e454, hC455, hr456⟩ := R3.2 _ _ hx450
    cases hr456
    refine .ixa Tryz.underlying24 Tryz.sizeOf60 rfl e454 rfl h448 (idx_lt hx450 h448) rfl rfl ?_
    refine .ldW Tryz.isAgg60 Tryz.sizeOf60 hC455 rfl rfl rfl rfl ?_
    refine .allocA Tryz.zeroValue60 rfl rfl fun b457 => ?_
    refine .storeA Tryz.sizeOf60 rfl rfl .z (.t (.t (.t .nil))) rfl rfl ?_
    refine .nil' fun c w ho hs => Cod.at (E := [(0, _), (6, _), (7, _), (14, _), (15, _), (16, _), (9, _)]) (ho.sub ⟨rfl, rfl, rfl, rfl, rfl, rfl, rfl, trivial⟩) hs ?_
    refine .seq ?_
    refine .region ?_
    refine .fieldAddr Tryz.underlying29 rfl Tryz.sizeOf26 rfl (o := 2) rfl rfl rfl ?_
    refine .load1 Tryz.isAgg26 rfl (.s (.s .z)) rfl rfl rfl ?_
    refine .fieldAddr Tryz.underlying60 rfl Tryz.sizeOf3 rfl (o := 0) rfl rfl rfl ?_
    refine .load1 Tryz.isAgg3 rfl .z rfl rfl rfl ?_
    refine .add rfl rfl rfl rfl ?_
    obtain ⟨h467, x468, hx469, hd⟩ := hd
    refine .ownNe (.s (.s (.s .z))) (idx_ne hx469) fun b470 e471 => ?_
    cases e471
    refine .ixa0 Tryz.underlying26 Tryz.sizeOf3 rfl rfl h467 (idx_lt hx469 h467) rfl rfl ?_
    refine .lo1 (j := 0) Tryz.isAgg3 (.s (.s (.s .z))) hx469 rfl rfl rfl rfl rfl ?_
    refine .add rfl rfl rfl rfl ?_
    obtain ⟨h472, x473, hx474, hd⟩ := hd
    refine .ixa0 Tryz.underlying26 Tryz.sizeOf3 rfl rfl h472 (idx_lt hx474 h472) rfl rfl ?_
    refine .stO1 (j := 0) (v' := (w64 (x468 + 1))) Tryz.sizeOf3 (.s (.s (.s .z))) hx474 rfl rfl rfl (.t .nil) rfl ?_
    refine .sub (E' := [(0, _), (6, _), (7, _), (14, _), (15, _), (16, _), (9, _), (20, _), (21, .slice (some ⟨b470, 0, none⟩) (s417.set ((w64 (x449.Row + 1)).toNat) (w64 (x468 + 1))).length c419), (22, _), (23, _), (24, _), (25, _), (26, _), (27, _), (28, _)]) ⟨rfl, rfl, rfl, rfl, rfl, rfl, rfl, rfl, (by simp only [List.length_set]; rfl), rfl, rfl, rfl, rfl, rfl, rfl, rfl, trivial⟩ ?_
    refine .reat (.s (.s .z)) (B := pto b59 (.cells #[.int .i64 r39.Rows, .int .i64 r39.Cols, .slice (some ⟨b470, 0, none⟩) (s417.set ((w64 (x449.Row + 1)).toNat) (w64 (x468 + 1))).length c419, .slice p422 s421.length c423, .slice p426 s425.length c427] 29 (0, 0))) (by simp only [List.length_set]) ?_
    refine .nil' fun c w ho hs => Cod.at (E := [(0, _), (6, _), (7, _), (14, _), (15, _), (16, _), (9, _)]) (ho.sub ⟨rfl, rfl, rfl, rfl, rfl, rfl, rfl, trivial⟩) hs ?_
    refine .seq ?_
    refine .region ?_
    refine .fieldAddr Tryz.underlying29 rfl Tryz.sizeOf26 rfl (o := 3) rfl rfl rfl ?_
    refine .load1 Tryz.isAgg26 rfl (.s (.s .z)) rfl rfl rfl ?_
    refine .fieldAddr Tryz.underlying60 rfl Tryz.sizeOf3 rfl (o := 1) rfl rfl rfl ?_
    refine .load1 Tryz.isAgg3 rfl .z rfl rfl rfl ?_
    refine .buildSlice 1 Tryz.underlying26 Tryz.sizeOf3 Tryz.zeroValue3 rfl rfl (.c rfl rfl rfl .n) rfl rfl fun b475 => ?_
    obtain ⟨hl477, hd⟩ := hd
    refine .append (ys := [x449.Col]) 8 (.s (.s (.s (.s (.s .z))))) Tryz.underlying26 Tryz.underlying26 IN3 rfl rfl rfl rfl rfl rfl rfl rfl rfl (.box .z (.one rfl) rfl) hl477 rfl rfl fun p478 c479 => ?_
    refine .fieldAddr Tryz.underlying29 rfl Tryz.sizeOf26 rfl (o := 3) rfl rfl rfl ?_
    refine .store1 Tryz.sizeOf26 rfl rfl (.s (.s (.s (.s .z)))) (.s (.s (.s (.t .nil)))) rfl ?_
    refine .nil' fun c w ho hs => Cod.at (E := [(0, _), (6, _), (7, _), (14, _), (15, _), (16, _), (9, _)]) (ho.sub ⟨rfl, rfl, rfl, rfl, rfl, rfl, rfl, trivial⟩) hs ?_
    refine .drop (.s .z) ?_
    refine .region ?_
    refine .fieldAddr Tryz.underlying29 rfl Tryz.sizeOf27 rfl (o := 4) rfl rfl rfl ?_
    refine .load1 Tryz.isAgg27 rfl (.s (.s (.s .z))) rfl rfl rfl ?_
    refine .fieldAddr Tryz.underlying60 rfl Tryz.sizeOf2 rfl (o := 2) rfl rfl rfl ?_
    refine .load1 Tryz.isAgg2 rfl (.s .z) rfl rfl rfl ?_
    refine .buildSlice 1 Tryz.underlying27 Tryz.sizeOf2 Tryz.zeroValue2 rfl rfl (.c rfl rfl rfl .n) rfl rfl fun b481 => ?_
    obtain ⟨hl483, hd⟩ := hd
    refine .append (ys := [x449.Val]) 8 (.s (.s (.s (.s (.s (.s .z)))))) Tryz.underlying27 Tryz.underlying27 IN2 rfl rfl rfl rfl rfl rfl rfl rfl rfl (.box .z (.one rfl) rfl) hl483 rfl rfl fun p484 c485 => ?_
    refine .fieldAddr Tryz.underlying29 rfl Tryz.sizeOf27 rfl (o := 4) rfl rfl rfl ?_
    refine .store1 Tryz.sizeOf27 rfl rfl (.s (.s (.s (.s (.s .z))))) (.s (.s (.s (.s (.t .nil))))) rfl ?_
    refine .nil' fun c w ho hs => Cod.at (E := [(0, _), (6, _), (7, _), (14, _), (15, _), (16, _)]) (ho.sub ⟨rfl, rfl, rfl, rfl, rfl, rfl, trivial⟩) hs ?_
    refine .drop (.s .z) ?_
    refine .drop (.s (.s .z)) ?_
    refine .region ?_
    refine .add rfl rfl rfl rfl ?_
    refine .sub (E' := [(0, _), (6, _), (7, _), (14, _), (15, _), (43, _)]) ⟨rfl, rfl, rfl, rfl, rfl, rfl, trivial⟩ ?_
    refine .skips 1 rfl ?_
    exact .nil' fun c w ho hs => ⟨((s417.set ((w64 (x449.Row + 1)).toNat) (w64 (x468 + 1))), (s421 ++ ([x449.Col])), (s425 ++ ([x449.Val])), w64 (s429 + 1)), hd, I431, _, _, _, _, _, _, le434, ho.sub ⟨rfl, rfl, rfl, rfl, rfl, rfl, trivial⟩, hs.pick (.c (.s (.s .z)) (.c (.s (.s .z)) (.c (.s (.s .z)) (.c (.s .z) (.c .z .n)))))⟩
  · have hd := hd.2 hb436
    refine .exit fun c w ho hs => Cod.at (E := [(0, _), (6, _), (7, _)]) (ho.sub ⟨rfl, rfl, rfl, trivial⟩) hs ?_
    refine .seq ?_
    refine .seq ?_
    refine .region ?_
    refine .skips 2 rfl ?_
    refine .nil' fun c w ho hs => Cod.at (E := [(6, _), (7, _), (44, _), (45, _)]) (ho.sub ⟨rfl, rfl, rfl, rfl, trivial⟩) hs ?_
    refine .block ?_
    refine .loop hd (fun (s : (List Int) × Int) c w => match s with | (s534, s538) => ∃ I_ p535 c536, IH.le I431 I_ ∧ Ok 63 [(6, .pointer (some ⟨b15, 0, none⟩)), (7, .pointer (some ⟨b59, 0, none⟩)), (44, .int .i64 a0), (45, .int .i64 s538)] c ∧ Sym w0 M I I_ [pto b15 (.cells #[.int .i64 0, .int .i64 0, .slice none 0 0, .slice none 0 0, .slice none 0 0] 29 (0, 0)), pto b59 (.cells #[.int .i64 r39.Rows, .int .i64 r39.Cols, .slice p535 s534.length c536, .slice p422 s421.length c423, .slice p426 s425.length c427] 29 (0, 0)), OwnSl eI64 3 p535 c536 s534, OwnSl eI64 3 p422 c423 s421, OwnSl eI64 2 p426 c427 s425] w) (fun c w ho hs => ⟨I431, _, _, (.refl _), ho.sub ⟨rfl, rfl, rfl, rfl, trivial⟩, hs.pick (.c .z (.c .z (.c .z (.c .z (.c .z .n)))))⟩) ?_
    rintro ⟨s534, s538⟩ next539 hd c w hst
    obtain ⟨I540, p535, c536, hl541, hok, hsym⟩ := hst
    have le542 := IH.le.trans le433 hl541
    have le543 := IH.le.trans le434 hl541
    have le544 := IH.le.trans (.refl _) hl541
    refine Cod.at hok hsym ?_
    refine .seq ?_
    refine .region ?_
    refine .lt rfl rfl rfl rfl ?_
    refine .nil' fun c w ho hs => Cod.at (E := [(6, _), (7, _), (44, _), (45, _), (46, _)]) (ho.sub ⟨rfl, rfl, rfl, rfl, rfl, trivial⟩) hs ?_
    refine .seq ?_
    refine .cond rfl (fun hb546 => ?_) (fun hb546 => ?_)
    · have hd := hd.1 hb546
      refine .skip' fun c w ho hs => Cod.at (E := [(6, _), (7, _), (44, _), (45, _)]) (ho.sub ⟨rfl, rfl, rfl, rfl, trivial⟩) hs ?_
      refine .seq ?_
      refine .block ?_
      refine .seq ?_
      refine .region ?_
      refine .skips 2 rfl ?_
      refine .nil' fun c w ho hs => Cod.at (E := [(6, _), (7, _), (44, _), (45, _), (10, _)]) (ho.sub ⟨rfl, rfl, rfl, rfl, rfl, trivial⟩) hs ?_
      refine .ownF (.s (.s .z)) fun hne547 => ?_
      refine .ownF (.s (.s (.s .z))) fun hne548 => ?_
      refine .ownF (.s (.s (.s (.s .z)))) fun hne549 => ?_
      refine .draw [some 0, some 1, some 2, some 3, some 4, some 5, some 6, some 7, some 8, some 9, some 10, some 11] 12 MX (by kernel_rfl) (by kernel_rfl) (by kernel_rfl) (by kernel_rfl) (by kernel_rfl) (by kernel_rfl) (by kernel_rfl) (fun ex => (pto b15 (.cells #[.int .i64 0, .int .i64 0, .slice none 0 0, .slice none 0 0, .slice none 0 0] 29 (0, 0))) :: (pto b59 (.cells #[.int .i64 r39.Rows, .int .i64 r39.Cols, .slice p535 s534.length c536, .slice p422 s421.length c423, .slice p426 s425.length c427] 29 (0, 0))) :: (OwnSl eI64 3 p535 c536 s534) :: (OwnSl eI64 3 p422 c423 s421) :: (OwnSl eI64 2 p426 c427 s425) :: ex) (fun _ _ => (.s (.s (.s (.s (.s .z)))))) rfl ?_
      refine .f [] rfl (by kernel_rfl) rfl rfl (fun ex => .fieldAddr Tryz.underlying29 rfl Tryz.sizeOf26 rfl (o := 2) rfl rfl rfl .mk) ?_
      refine .f [0] rfl (by kernel_rfl) rfl rfl (fun ex => .load1 Tryz.isAgg26 rfl (.s .z) rfl rfl rfl .mk) ?_
      refine .f [] rfl (by kernel_rfl) rfl rfl (fun ex => .move rfl rfl rfl .mk) ?_
      refine .f [2] rfl (by kernel_rfl) rfl rfl (fun ex => .add rfl rfl rfl rfl .mk) ?_
      obtain ⟨h550, x551, hx552, hd⟩ := hd
      obtain ⟨b553, e554⟩ := hne547 (idx_ne hx552)
      cases e554
      refine .f [1, 3] rfl (by kernel_rfl) rfl rfl (fun ex => .ixa0 Tryz.underlying26 Tryz.sizeOf3 rfl rfl h550 (idx_lt hx552 h550) rfl rfl .mk) ?_
      refine .f [4] rfl (by kernel_rfl) rfl rfl (fun ex => .lo1 (j := 0) Tryz.isAgg3 (.s (.s .z)) hx552 rfl rfl rfl rfl rfl .mk) ?_
      refine .f [] rfl (by kernel_rfl) rfl rfl (fun ex => .fieldAddr Tryz.underlying29 rfl Tryz.sizeOf26 rfl (o := 2) rfl rfl rfl .mk) ?_
      refine .f [6] rfl (by kernel_rfl) rfl rfl (fun ex => .load1 Tryz.isAgg26 rfl (.s .z) rfl rfl rfl .mk) ?_
      refine .f [] rfl (by kernel_rfl) rfl rfl (fun ex => .move rfl rfl rfl .mk) ?_
      obtain ⟨h555, x556, hx557, hd⟩ := hd
      refine .f [7, 8] rfl (by kernel_rfl) rfl rfl (fun ex => .ixa0 Tryz.underlying26 Tryz.sizeOf3 rfl rfl h555 (idx_lt hx557 h555) rfl rfl .mk) ?_
      refine .f [9] rfl (by kernel_rfl) rfl rfl (fun ex => .lo1 (j := 0) Tryz.isAgg3 (.s (.s .z)) hx557 rfl rfl rfl rfl rfl .mk) ?_
      refine .f [5, 10] rfl (by kernel_rfl) rfl rfl (fun ex => .add rfl rfl rfl rfl .mk) ?_
      refine .e 12 (by kernel_rfl) (by kernel_rfl) (by kernel_rfl) ?_
      obtain ⟨h558, x559, hx560, hd⟩ := hd
      refine .ixa0 Tryz.underlying26 Tryz.sizeOf3 rfl rfl h558 (idx_lt hx560 h558) rfl rfl ?_
      refine .stO1 (j := 0) (v' := (w64 (x551 + x556))) Tryz.sizeOf3 (.s (.s .z)) hx560 rfl rfl rfl (.t .nil) rfl ?_
      refine .sub (E' := [(6, _), (7, _), (44, _), (45, _), (10, _), (48, _), (49, .slice (some ⟨b553, 0, none⟩) (s534.set ((w64 (s538 + 1)).toNat) (w64 (x551 + x556))).length c536), (50, _), (51, _), (52, _), (53, _), (54, _), (55, .slice (some ⟨b553, 0, none⟩) (s534.set ((w64 (s538 + 1)).toNat) (w64 (x551 + x556))).length c536), (56, _), (57, _), (58, _), (59, _), (60, _)]) ⟨rfl, rfl, rfl, rfl, rfl, rfl, (by simp only [List.length_set]; rfl), rfl, rfl, rfl, rfl, rfl, (by simp only [List.length_set]; rfl), rfl, rfl, rfl, rfl, rfl, trivial⟩ ?_
      refine .reat (.s .z) (B := pto b59 (.cells #[.int .i64 r39.Rows, .int .i64 r39.Cols, .slice (some ⟨b553, 0, none⟩) (s534.set ((w64 (s538 + 1)).toNat) (w64 (x551 + x556))).length c536, .slice p422 s421.length c423, .slice p426 s425.length c427] 29 (0, 0))) (by simp only [List.length_set]) ?_
      refine .nil' fun c w ho hs => Cod.at (E := [(6, _), (7, _), (44, _), (45, _)]) (ho.sub ⟨rfl, rfl, rfl, rfl, trivial⟩) hs ?_
      refine .region ?_
      refine .add rfl rfl rfl rfl ?_
      refine .sub (E' := [(6, _), (7, _), (44, _), (61, _)]) ⟨rfl, rfl, rfl, rfl, trivial⟩ ?_
      refine .skips 1 rfl ?_
      exact .nil' fun c w ho hs => ⟨((s534.set ((w64 (s538 + 1)).toNat) (w64 (x551 + x556))), w64 (s538 + 1)), hd, I540, _, _, le544, ho.sub ⟨rfl, rfl, rfl, rfl, trivial⟩, hs.pick (.c .z (.c .z (.c .z (.c .z (.c .z .n)))))⟩
    · have hd := hd.2 hb546
      refine .exit fun c w ho hs => Cod.at (E := [(6, _), (7, _)]) (ho.sub ⟨rfl, rfl, trivial⟩) hs ?_
      refine .seq ?_
      refine .region ?_
      refine .loadW Tryz.isAgg29 Tryz.sizeOf29 rfl (.s .z) rfl rfl rfl ?_
      refine .storeA Tryz.sizeOf29 rfl rfl .z (.t (.t (.t (.t (.t .nil))))) rfl rfl ?_
      refine .nil' fun c w ho hs => Cod.at (E := [(6, _)]) (ho.sub ⟨rfl, trivial⟩) hs ?_
      refine .drop (.s .z) ?_
      refine .pub (.s .z) fun I561 hl562 R563 => ?_
      have le564 := IH.le.trans le542 hl562
      have le565 := IH.le.trans le543 hl562
      have le566 := IH.le.trans le544 hl562
      refine .pub (.s .z) fun I567 hl568 R569 => ?_
      have le570 := IH.le.trans le564 hl568
      have le571 := IH.le.trans le565 hl568
      have le572 := IH.le.trans le566 hl568
      replace R563 := R563.mono hl568
      refine .pub (.s .z) fun I573 hl574 R575 => ?_
      have le576 := IH.le.trans le570 hl574
      have le577 := IH.le.trans le571 hl574
      have le578 := IH.le.trans le572 hl574
      replace R563 := R563.mono hl574
      replace R569 := R569.mono hl574
      exact .ret (pret Tryz.results42 (.w Tryz.isAgg29 Tryz.sizeOf29 rfl .z rfl .n) le576 ⟨({ Rows := r39.Rows, Cols := r39.Cols, Start := s534, Col := s421, Val := s425 } : Rows), _, _, _, _, _, _, rfl, R563, R569, R575, hd⟩)

theorem W_csr_Of_1_i2 {I : IH} {o0 : Int} {o1 : Int} {a0 : Triple} {b3 : Nat} {b4 : Nat} {Q : Bool → Prop}  (hd : csr_Of_1_i2 o0 o1 a0 Q) :
    Fun Tryz.prog 40 #[.agg (encTriple a0).toArray, .pointer (some ⟨b3, 0, none⟩), .pointer (some ⟨b4, 0, none⟩)] I [pto b3 (.cells #[.int .i64 o0] 3 (0, 0)), pto b4 (.cells #[.int .i64 o1] 3 (0, 0))] (fun I_ v l => ∃ r, v = .bool r ∧ l = [pto b3 (.cells #[.int .i64 o0] 3 (0, 0)), pto b4 (.cells #[.int .i64 o1] 3 (0, 0))] ∧ Q r) := by
  refine Fun.enter (vs := [.agg (encTriple a0).toArray, .pointer (some ⟨b3, 0, none⟩), .pointer (some ⟨b4, 0, none⟩)]) Tryz.func40 rfl Tryz.ntmps40 rfl (.c (.c (.c .n))) fun w0 M => ?_
  refine .seq ?_
  refine .region ?_
  refine .boxA rfl rfl rfl fun b7 => ?_
  refine .skips 1 rfl ?_
  refine .nil' fun c w ho hs => Cod.at (E := [(1, _), (2, _), (3, _)]) (ho.sub ⟨rfl, rfl, rfl, trivial⟩) hs ?_
  refine .seq ?_
  refine .region ?_
  refine .fieldAddr Tryz.underlying60 rfl Tryz.sizeOf3 rfl (o := 0) rfl rfl rfl ?_
  refine .load1 Tryz.isAgg3 rfl .z rfl rfl rfl ?_
  refine .load1 Tryz.isAgg3 rfl (.s .z) rfl rfl rfl ?_
  refine .sub' rfl rfl rfl rfl ?_
  have hw15 := W_csr_within (I := I) hd
  refine .call Tryz.call38 rfl hw15 rfl rfl fun v13 I10 hl11 hv12 => ?_
  obtain ⟨r9, rfl, hd⟩ := hv12
  have le16 := IH.le.trans (.refl _) hl11
  refine .not rfl rfl rfl ?_
  refine .skips 1 rfl ?_
  refine split (!r9) (fun hb17 => ?_) (fun hb17 => ?_)
  · have hd := hd.1 hb17
    rw [hb17]
    refine .skips 8 rfl ?_
    refine .nil' fun c w ho hs => Cod.at (E := [(1, _), (2, _), (4, _)]) (ho.sub ⟨rfl, rfl, rfl, trivial⟩) hs ?_
    refine .drop .z ?_
    exact .ret (oret Tryz.results40 (.t rfl .n) le16 (.c .z (.c .z .n)) ⟨true, rfl, rfl, hd⟩)
  · have hd := hd.2 hb17
    rw [hb17]
    refine .gyes rfl rfl rfl (.fieldAddr Tryz.underlying60 rfl Tryz.sizeOf3 rfl (o := 1) rfl rfl rfl ?_)
    refine .gyes rfl rfl rfl (.load1 Tryz.isAgg3 rfl .z rfl rfl rfl ?_)
    refine .gyes rfl rfl rfl (.load1 Tryz.isAgg3 rfl (.s (.s .z)) rfl rfl rfl ?_)
    refine .gyes rfl rfl rfl (.sub' rfl rfl rfl rfl ?_)
    have hw24 := W_csr_within (I := I10) hd
    refine .gyes rfl rfl rfl (.call Tryz.call38 rfl hw24 rfl rfl fun v22 I19 hl20 hv21 => ?_)
    obtain ⟨r18, rfl, hd⟩ := hv21
    have le25 := IH.le.trans le16 hl20
    refine .gyes rfl rfl rfl (.not rfl rfl rfl ?_)
    refine .skips 2 rfl ?_
    refine .nil' fun c w ho hs => Cod.at (E := [(1, _), (2, _), (4, _)]) (ho.sub ⟨rfl, rfl, rfl, trivial⟩) hs ?_
    refine .drop .z ?_
    exact .ret (oret Tryz.results40 (.t rfl .n) le25 (.c .z (.c .z .n)) ⟨(!r18), rfl, rfl, hd⟩)

theorem W_slices_IndexFunc_api_Triple_api_Triple_i1 {I : IH} {o0 : Int} {o1 : Int} {a0 : List Triple} {b3 : Nat} {b4 : Nat} {p5 : Option Addr} {c6 : Nat} {Q : Int → Prop} (R7 : RepSl eTriple I p5 c6 a0) (hd : slices_IndexFunc_api_Triple_api_Triple_i1 o0 o1 a0 Q) :
    Fun Tryz.prog 61 #[.slice p5 a0.length c6, .func (.func 40) #[] #[.pointer (some ⟨b3, 0, none⟩), .pointer (some ⟨b4, 0, none⟩)]] I [pto b3 (.cells #[.int .i64 o0] 3 (0, 0)), pto b4 (.cells #[.int .i64 o1] 3 (0, 0))] (fun I_ v l => ∃ r, v = .int .i64 r ∧ l = [pto b3 (.cells #[.int .i64 o0] 3 (0, 0)), pto b4 (.cells #[.int .i64 o1] 3 (0, 0))] ∧ Q r) := by
  refine Fun.enter (vs := [.slice p5 a0.length c6, .func (.func 40) #[] #[.pointer (some ⟨b3, 0, none⟩), .pointer (some ⟨b4, 0, none⟩)]]) Tryz.func61 rfl Tryz.ntmps61 rfl (.c (.c .n)) fun w0 M => ?_
  refine .seq ?_
  refine .region ?_
  refine .skips 1 rfl ?_
  refine .nil' fun c w ho hs => Cod.at (E := [(0, _), (1, _)]) (ho.sub ⟨rfl, rfl, trivial⟩) hs ?_
  refine .seq ?_
  refine .seq ?_
  refine .region ?_
  refine .skips 1 rfl ?_
  refine .len Tryz.underlying24 rfl rfl rfl rfl ?_
  refine .skips 1 rfl ?_
  refine .nil' fun c w ho hs => Cod.at (E := [(0, _), (1, _), (7, _), (8, _)]) (ho.sub ⟨rfl, rfl, rfl, rfl, trivial⟩) hs ?_
  refine .block ?_
  refine .loop hd (fun (s51 : Int) c w => ∃ I_, IH.le I I_ ∧ Ok 19 [(0, .slice p5 a0.length c6), (1, .func (.func 40) #[] #[.pointer (some ⟨b3, 0, none⟩), .pointer (some ⟨b4, 0, none⟩)]), (7, .int .i64 (a0.length : Int)), (8, .int .i64 s51)] c ∧ Sym w0 M I I_ [pto b3 (.cells #[.int .i64 o0] 3 (0, 0)), pto b4 (.cells #[.int .i64 o1] 3 (0, 0))] w) (fun c w ho hs => ⟨I, (.refl _), ho.sub ⟨rfl, rfl, rfl, rfl, trivial⟩, hs.pick (.c .z (.c .z .n))⟩) ?_
  rintro s51 next52 hd c w hst
  obtain ⟨I53, hl54, hok, hsym⟩ := hst
  have le55 := IH.le.trans (.refl _) hl54
  replace R7 := R7.mono hl54
  refine Cod.at hok hsym ?_
  refine .seq ?_
  refine .region ?_
  refine .lt rfl rfl rfl rfl ?_
  refine .nil' fun c w ho hs => Cod.at (E := [(0, _), (1, _), (7, _), (8, _), (9, _)]) (ho.sub ⟨rfl, rfl, rfl, rfl, rfl, trivial⟩) hs ?_
  refine .seq ?_
  refine .cond rfl (fun hb57 => ?_) (fun hb57 => ?_)
  · have hd := hd.1 hb57
    refine .skip' fun c w ho hs => Cod.at (E := [(0, _), (1, _), (7, _), (8, _)]) (ho.sub ⟨rfl, rfl, rfl, rfl, trivial⟩) hs ?_
    refine .seq ?_
    refine .block ?_
    refine .seq ?_
    refine .region ?_
    refine .skips 2 rfl ?_
    refine .nil' fun c w ho hs => Cod.at (E := [(0, _), (1, _), (7, _), (8, _), (5, _)]) (ho.sub ⟨rfl, rfl, rfl, rfl, rfl, trivial⟩) hs ?_
    refine .seq ?_
    refine .region ?_
    refine .skips 3 rfl ?_
    obtain ⟨h58, x59, hx60, hd⟩ := hd
    obtain ⟨b61, o62, cs63, e64, hC65, hr66⟩ := R7.2 _ _ hx60
    cases hr66
    refine .ixa Tryz.underlying24 Tryz.sizeOf60 rfl e64 rfl h58 (idx_lt hx60 h58) rfl rfl ?_
    refine .ldW Tryz.isAgg60 Tryz.sizeOf60 hC65 rfl rfl rfl rfl ?_
    have hw67 := W_csr_Of_1_i2 (I := I53) (o0 := o0) (o1 := o1) (a0 := x59) (b3 := b3) (b4 := b4) hd
    refine .callS (.c Tryz.call40 rfl rfl) (.c .z (.c .z .n)) hw67 rfl rfl fun v71 I68 l72 hl69 hv70 => ?_
    obtain ⟨r73, rfl, rfl, hd⟩ := hv70
    have le74 := IH.le.trans le55 hl69
    replace R7 := R7.mono hl69
    replace hC65 := hC65.mono hl69
    refine .re (m' := [pto b3 (.cells #[.int .i64 o0] 3 (0, 0)), pto b4 (.cells #[.int .i64 o1] 3 (0, 0))]) rfl ?_
    refine .nil' fun c w ho hs => Cod.at (E := [(0, _), (1, _), (7, _), (8, _), (5, _), (16, _)]) (ho.sub ⟨rfl, rfl, rfl, rfl, rfl, rfl, trivial⟩) hs ?_
    refine .cond rfl (fun hb75 => ?_) (fun hb75 => ?_)
    · have hd := hd.1 hb75
      refine .seq ?_
      refine .region ?_
      refine .skips 2 rfl ?_
      refine .nil' fun c w ho hs => Cod.at (E := [(1, _), (4, _)]) (ho.sub ⟨rfl, rfl, trivial⟩) hs ?_
      exact .ret (oret Tryz.results61 (.t rfl .n) le74 (.c .z (.c .z .n)) ⟨s51, rfl, rfl, hd⟩)
    · have hd := hd.2 hb75
      refine .skip' fun c w ho hs => Cod.at (E := [(0, _), (1, _), (7, _), (8, _)]) (ho.sub ⟨rfl, rfl, rfl, rfl, trivial⟩) hs ?_
      refine .region ?_
      refine .add rfl rfl rfl rfl ?_
      refine .sub (E' := [(0, _), (1, _), (7, _), (18, _)]) ⟨rfl, rfl, rfl, rfl, trivial⟩ ?_
      refine .skips 1 rfl ?_
      exact .nil' fun c w ho hs => ⟨(w64 (s51 + 1)), hd, I68, le74, ho.sub ⟨rfl, rfl, rfl, rfl, trivial⟩, hs.pick (.c .z (.c .z .n))⟩
  · have hd := hd.2 hb57
    refine .exit fun c w ho hs => Cod.at (E := [(1, _)]) (ho.sub ⟨rfl, trivial⟩) hs ?_
    refine .seq ?_
    refine .region ?_
    refine .skips 1 rfl ?_
    refine .nil' fun c w ho hs => Cod.at (E := [(1, _), (4, _)]) (ho.sub ⟨rfl, rfl, trivial⟩) hs ?_
    exact .ret (oret Tryz.results61 (.t rfl .n) le55 (.c .z (.c .z .n)) ⟨(-1), rfl, rfl, hd⟩)

theorem W_slices_ContainsFunc_api_Triple_api_Triple_i0 {I : IH} {o0 : Int} {o1 : Int} {a0 : List Triple} {b3 : Nat} {b4 : Nat} {p5 : Option Addr} {c6 : Nat} {Q : Bool → Prop} (R7 : RepSl eTriple I p5 c6 a0) (hd : slices_ContainsFunc_api_Triple_api_Triple_i0 o0 o1 a0 Q) :
    Fun Tryz.prog 39 #[.slice p5 a0.length c6, .func (.func 40) #[] #[.pointer (some ⟨b3, 0, none⟩), .pointer (some ⟨b4, 0, none⟩)]] I [pto b3 (.cells #[.int .i64 o0] 3 (0, 0)), pto b4 (.cells #[.int .i64 o1] 3 (0, 0))] (fun I_ v l => ∃ r, v = .bool r ∧ l = [pto b3 (.cells #[.int .i64 o0] 3 (0, 0)), pto b4 (.cells #[.int .i64 o1] 3 (0, 0))] ∧ Q r) := by
  refine Fun.enter (vs := [.slice p5 a0.length c6, .func (.func 40) #[] #[.pointer (some ⟨b3, 0, none⟩), .pointer (some ⟨b4, 0, none⟩)]]) Tryz.func39 rfl Tryz.ntmps39 rfl (.c (.c .n)) fun w0 M => ?_
  refine .seq ?_
  refine .region ?_
  refine .skips 1 rfl ?_
  refine .nil' fun c w ho hs => Cod.at (E := [(0, _), (1, _)]) (ho.sub ⟨rfl, rfl, trivial⟩) hs ?_
  refine .seq ?_
  refine .region ?_
  refine .skips 2 rfl ?_
  have hw8 := W_slices_IndexFunc_api_Triple_api_Triple_i1 (I := I) (o0 := o0) (o1 := o1) (a0 := a0) (b3 := b3) (b4 := b4) R7 hd
  refine .callS (.f Tryz.call61 rfl) (.c .z (.c .z .n)) hw8 rfl rfl fun v12 I9 l13 hl10 hv11 => ?_
  obtain ⟨r14, rfl, rfl, hd⟩ := hv11
  have le15 := IH.le.trans (.refl _) hl10
  replace R7 := R7.mono hl10
  refine .re (m' := [pto b3 (.cells #[.int .i64 o0] 3 (0, 0)), pto b4 (.cells #[.int .i64 o1] 3 (0, 0))]) rfl ?_
  refine .ge rfl rfl rfl rfl ?_
  refine .skips 1 rfl ?_
  refine .nil' fun c w ho hs => Cod.at (E := [(1, _), (4, _)]) (ho.sub ⟨rfl, rfl, trivial⟩) hs ?_
  exact .ret (oret Tryz.results39 (.t rfl .n) le15 (.c .z (.c .z .n)) ⟨(decide (0 ≤ r14)), rfl, rfl, hd⟩)

theorem W_csr_Of {I : IH} {a0 : Int} {a1 : Int} {a2 : Int} {a3 : List Triple} {p1 : Option Addr} {c2 : Nat} {Q : (Rows × Int) → Prop} (R3 : RepSl eTriple I p1 c2 a3) (hd : csr_Of a0 a1 a2 a3 Q) :
    PFun Tryz.prog 10 [.int .i64 a0, .int .i64 a1, .int .i64 a2, .slice p1 a3.length c2] I (fun I_ v => ∃ r p4 c5 p7 c8 p10 c11, v = .tuple #[.agg #[.int .i64 r.1.Rows, .int .i64 r.1.Cols, .slice p4 r.1.Start.length c5, .slice p7 r.1.Col.length c8, .slice p10 r.1.Val.length c11], .int .i64 r.2] ∧ RepSl eI64 I_ p4 c5 r.1.Start ∧ RepSl eI64 I_ p7 c8 r.1.Col ∧ RepSl eI64 I_ p10 c11 r.1.Val ∧ Q r) := by
  refine Fun.enter Tryz.func10 rfl Tryz.ntmps10 rfl (.c (.c (.c (.c .n)))) fun w0 M => ?_
  refine .seq ?_
  refine .region ?_
  refine .box1 rfl rfl rfl rfl fun b19 => ?_
  refine .box1 rfl rfl rfl rfl fun b21 => ?_
  refine .allocA Tryz.zeroValue29 rfl rfl fun b23 => ?_
  refine .skips 1 rfl ?_
  refine .nil' fun c w ho hs => Cod.at (E := [(0, _), (3, _), (5, _), (6, _), (8, _)]) (ho.sub ⟨rfl, rfl, rfl, rfl, rfl, trivial⟩) hs ?_
  refine .seq ?_
  refine .block ?_
  refine .seq ?_
  refine .region ?_
  refine .skips 1 rfl ?_
  have hw127 := W_ring_Is (I := I) hd
  refine .call Tryz.call37 rfl hw127 rfl rfl fun v125 I122 hl123 hv124 => ?_
  obtain ⟨r121, rfl, hd⟩ := hv124
  have le128 := IH.le.trans (.refl _) hl123
  replace R3 := R3.mono hl123
  refine .not rfl rfl rfl ?_
  refine .skips 1 rfl ?_
  refine .nil' fun c w ho hs => Cod.at (E := [(0, _), (3, _), (5, _), (6, _), (8, _), (12, _)]) (ho.sub ⟨rfl, rfl, rfl, rfl, rfl, rfl, trivial⟩) hs ?_
  refine .cond rfl (fun hb129 => ?_) (fun hb129 => ?_)
  · have hd := hd.1 hb129
    refine .seq ?_
    refine .region ?_
    refine .build Tryz.zeroValue29 Tryz.underlying29 BI29 .n (by exact trivial) rfl rfl ?_
    refine .storeA Tryz.sizeOf29 rfl rfl .z (.t (.t (.t (.t (.t .nil))))) rfl rfl ?_
    refine .skips 1 rfl ?_
    refine .nil' fun c w ho hs => Cod.at (E := [(8, _), (9, _)]) (ho.sub ⟨rfl, rfl, trivial⟩) hs ?_
    refine .drop (.s .z) ?_
    refine .drop (.s .z) ?_
    exact .ret (pret Tryz.results10 (.w Tryz.isAgg29 Tryz.sizeOf29 rfl .z rfl (.t rfl .n)) le128 ⟨(({ Rows := 0, Cols := 0, Start := ([] : List Int), Col := ([] : List Int), Val := ([] : List Int) } : Rows), 8), _, _, _, _, _, _, rfl, (.nil _ _ _), (.nil _ _ _), (.nil _ _ _), hd⟩)
  · have hd := hd.2 hb129
    refine .seq ?_
    refine Cod.joinQ (σ := Bool) hd (fun (s164 : Bool) c w => ∃ I_, IH.le I122 I_ ∧ Ok 51 [(0, .int .i64 a0), (3, .slice p1 a3.length c2), (5, .pointer (some ⟨b19, 0, none⟩)), (6, .pointer (some ⟨b21, 0, none⟩)), (8, .pointer (some ⟨b23, 0, none⟩)), (17, .bool s164)] c ∧ Sym w0 M I I_ [pto b19 (.cells #[.int .i64 a1] 3 (0, 0)), pto b21 (.cells #[.int .i64 a2] 3 (0, 0)), pto b23 (.cells #[.int .i64 0, .int .i64 0, .slice none 0 0, .slice none 0 0, .slice none 0 0] 29 (0, 0))] w) (fun k165 hd => ?_) ?_
    · skip
      refine .region ?_
      refine .load1 Tryz.isAgg3 rfl (.s (.s .z)) rfl rfl rfl ?_
      have hw172 := W_csr_within (I := I122) hd
      refine .call Tryz.call38 rfl hw172 rfl rfl fun v170 I167 hl168 hv169 => ?_
      obtain ⟨r166, rfl, hd⟩ := hv169
      have le173 := IH.le.trans le128 hl168
      have le174 := IH.le.trans (.refl _) hl168
      replace R3 := R3.mono hl168
      refine .not rfl rfl rfl ?_
      refine .skips 1 rfl ?_
      refine split (!r166) (fun hb175 => ?_) (fun hb175 => ?_)
      · have hd := hd.1 hb175
        rw [hb175]
        refine .skips 5 rfl ?_
        exact .nil' fun c w ho hs => ⟨true, hd, I167, le174, ho.sub ⟨rfl, rfl, rfl, rfl, rfl, rfl, trivial⟩, hs.pick (.c (.s (.s .z)) (.c (.s .z) (.c .z .n)))⟩
      · have hd := hd.2 hb175
        rw [hb175]
        refine .gyes rfl rfl rfl (.load1 Tryz.isAgg3 rfl (.s .z) rfl rfl rfl ?_)
        have hw182 := W_csr_within (I := I167) hd
        refine .gyes rfl rfl rfl (.call Tryz.call38 rfl hw182 rfl rfl fun v180 I177 hl178 hv179 => ?_)
        obtain ⟨r176, rfl, hd⟩ := hv179
        have le183 := IH.le.trans le173 hl178
        have le184 := IH.le.trans le174 hl178
        replace R3 := R3.mono hl178
        refine .gyes rfl rfl rfl (.not rfl rfl rfl ?_)
        refine .skips 2 rfl ?_
        exact .nil' fun c w ho hs => ⟨(!r176), hd, I177, le184, ho.sub ⟨rfl, rfl, rfl, rfl, rfl, rfl, trivial⟩, hs.pick (.c (.s (.s .z)) (.c (.s .z) (.c .z .n)))⟩
    · rintro s164 hd c w hst
      obtain ⟨I185, hl186, hok, hsym⟩ := hst
      have le187 := IH.le.trans le128 hl186
      have le188 := IH.le.trans (.refl _) hl186
      replace R3 := R3.mono hl186
      refine Cod.at hok hsym ?_
      refine .cond rfl (fun hb189 => ?_) (fun hb189 => ?_)
      · have hd := hd.1 hb189
        refine .seq ?_
        refine .region ?_
        refine .build Tryz.zeroValue29 Tryz.underlying29 BI29 .n (by exact trivial) rfl rfl ?_
        refine .storeA Tryz.sizeOf29 rfl rfl (.s (.s .z)) (.t (.t (.t (.t (.t .nil))))) rfl rfl ?_
        refine .skips 1 rfl ?_
        refine .nil' fun c w ho hs => Cod.at (E := [(8, _), (9, _)]) (ho.sub ⟨rfl, rfl, trivial⟩) hs ?_
        refine .drop .z ?_
        refine .drop .z ?_
        exact .ret (pret Tryz.results10 (.w Tryz.isAgg29 Tryz.sizeOf29 rfl .z rfl (.t rfl .n)) le187 ⟨(({ Rows := 0, Cols := 0, Start := ([] : List Int), Col := ([] : List Int), Val := ([] : List Int) } : Rows), 3), _, _, _, _, _, _, rfl, (.nil _ _ _), (.nil _ _ _), (.nil _ _ _), hd⟩)
      · have hd := hd.2 hb189
        refine .seq ?_
        refine .region ?_
        refine .skips 1 rfl ?_
        refine .len Tryz.underlying24 rfl rfl rfl rfl ?_
        refine .gt rfl rfl rfl rfl ?_
        refine .skips 1 rfl ?_
        refine .nil' fun c w ho hs => Cod.at (E := [(0, _), (3, _), (5, _), (6, _), (8, _), (27, _)]) (ho.sub ⟨rfl, rfl, rfl, rfl, rfl, rfl, trivial⟩) hs ?_
        refine .cond rfl (fun hb190 => ?_) (fun hb190 => ?_)
        · have hd := hd.1 hb190
          refine .seq ?_
          refine .region ?_
          refine .build Tryz.zeroValue29 Tryz.underlying29 BI29 .n (by exact trivial) rfl rfl ?_
          refine .storeA Tryz.sizeOf29 rfl rfl (.s (.s .z)) (.t (.t (.t (.t (.t .nil))))) rfl rfl ?_
          refine .skips 1 rfl ?_
          refine .nil' fun c w ho hs => Cod.at (E := [(8, _), (9, _)]) (ho.sub ⟨rfl, rfl, trivial⟩) hs ?_
          refine .drop .z ?_
          refine .drop .z ?_
          exact .ret (pret Tryz.results10 (.w Tryz.isAgg29 Tryz.sizeOf29 rfl .z rfl (.t rfl .n)) le187 ⟨(({ Rows := 0, Cols := 0, Start := ([] : List Int), Col := ([] : List Int), Val := ([] : List Int) } : Rows), 5), _, _, _, _, _, _, rfl, (.nil _ _ _), (.nil _ _ _), (.nil _ _ _), hd⟩)
        · have hd := hd.2 hb190
          refine .seq ?_
          refine .region ?_
          refine .skips 1 rfl ?_
          refine .mkFn rfl rfl rfl rfl ?_
          have hw191 := W_slices_ContainsFunc_api_Triple_api_Triple_i0 (I := I185) (o0 := a1) (o1 := a2) (a0 := a3) (b3 := b19) (b4 := b21) R3 hd
          refine .callS (.f Tryz.call39 rfl) (.c .z (.c .z .n)) hw191 rfl rfl fun v195 I192 l196 hl193 hv194 => ?_
          obtain ⟨r197, rfl, rfl, hd⟩ := hv194
          have le198 := IH.le.trans le187 hl193
          have le199 := IH.le.trans le188 hl193
          replace R3 := R3.mono hl193
          refine .re (m' := [pto b19 (.cells #[.int .i64 a1] 3 (0, 0)), pto b21 (.cells #[.int .i64 a2] 3 (0, 0)), pto b23 (.cells #[.int .i64 0, .int .i64 0, .slice none 0 0, .slice none 0 0, .slice none 0 0] 29 (0, 0))]) rfl ?_
          refine .skips 1 rfl ?_
          refine .nil' fun c w ho hs => Cod.at (E := [(0, _), (3, _), (5, _), (6, _), (8, _), (32, _)]) (ho.sub ⟨rfl, rfl, rfl, rfl, rfl, rfl, trivial⟩) hs ?_
          refine .cond rfl (fun hb200 => ?_) (fun hb200 => ?_)
          · have hd := hd.1 hb200
            refine .seq ?_
            refine .region ?_
            refine .build Tryz.zeroValue29 Tryz.underlying29 BI29 .n (by exact trivial) rfl rfl ?_
            refine .storeA Tryz.sizeOf29 rfl rfl (.s (.s .z)) (.t (.t (.t (.t (.t .nil))))) rfl rfl ?_
            refine .skips 1 rfl ?_
            refine .nil' fun c w ho hs => Cod.at (E := [(8, _), (9, _)]) (ho.sub ⟨rfl, rfl, trivial⟩) hs ?_
            refine .drop .z ?_
            refine .drop .z ?_
            exact .ret (pret Tryz.results10 (.w Tryz.isAgg29 Tryz.sizeOf29 rfl .z rfl (.t rfl .n)) le198 ⟨(({ Rows := 0, Cols := 0, Start := ([] : List Int), Col := ([] : List Int), Val := ([] : List Int) } : Rows), 3), _, _, _, _, _, _, rfl, (.nil _ _ _), (.nil _ _ _), (.nil _ _ _), hd⟩)
          · have hd := hd.2 hb200
            refine .skip' fun c w ho hs => Cod.at (E := [(0, _), (3, _), (5, _), (6, _), (8, _)]) (ho.sub ⟨rfl, rfl, rfl, rfl, rfl, trivial⟩) hs ?_
            refine .seq ?_
            refine .region ?_
            refine .skips 2 rfl ?_
            have hw222 := W_csr_summed (I := I192) R3 hd
            refine .call Tryz.call41 rfl hw222 rfl rfl fun v217 I214 hl215 hv216 => ?_
            obtain ⟨r213, p219, c220, rfl, R221, hd⟩ := hv216
            have le223 := IH.le.trans le198 hl215
            have le224 := IH.le.trans le199 hl215
            replace R3 := R3.mono hl215
            refine .skips 1 rfl ?_
            refine .extract rfl rfl rfl rfl ?_
            refine .extract rfl rfl rfl rfl ?_
            refine .skips 2 rfl ?_
            refine .nil' fun c w ho hs => Cod.at (E := [(5, _), (6, _), (8, _), (10, _), (11, _)]) (ho.sub ⟨rfl, rfl, rfl, rfl, rfl, trivial⟩) hs ?_
            refine .seq ?_
            refine .seq ?_
            refine .region ?_
            refine .skips 1 rfl ?_
            refine .ne rfl rfl rfl rfl ?_
            refine .nil' fun c w ho hs => Cod.at (E := [(5, _), (6, _), (8, _), (10, _), (11, _), (44, _)]) (ho.sub ⟨rfl, rfl, rfl, rfl, rfl, rfl, trivial⟩) hs ?_
            refine .cond rfl (fun hb225 => ?_) (fun hb225 => ?_)
            · have hd := hd.1 hb225
              refine .seq ?_
              refine .region ?_
              refine .build Tryz.zeroValue29 Tryz.underlying29 BI29 .n (by exact trivial) rfl rfl ?_
              refine .skips 1 rfl ?_
              refine .storeA Tryz.sizeOf29 rfl rfl (.s (.s .z)) (.t (.t (.t (.t (.t .nil))))) rfl rfl ?_
              refine .skips 1 rfl ?_
              refine .nil' fun c w ho hs => Cod.at (E := [(8, _), (9, _)]) (ho.sub ⟨rfl, rfl, trivial⟩) hs ?_
              refine .drop .z ?_
              refine .drop .z ?_
              exact .ret (pret Tryz.results10 (.w Tryz.isAgg29 Tryz.sizeOf29 rfl .z rfl (.t rfl .n)) le223 ⟨(({ Rows := 0, Cols := 0, Start := ([] : List Int), Col := ([] : List Int), Val := ([] : List Int) } : Rows), r213.2), _, _, _, _, _, _, rfl, (.nil _ _ _), (.nil _ _ _), (.nil _ _ _), hd⟩)
            · have hd := hd.2 hb225
              refine .skip' fun c w ho hs => Cod.at (E := [(5, _), (6, _), (8, _), (10, _)]) (ho.sub ⟨rfl, rfl, rfl, rfl, trivial⟩) hs ?_
              refine .seq ?_
              refine .region ?_
              refine .load1 Tryz.isAgg3 rfl .z rfl rfl rfl ?_
              refine .load1 Tryz.isAgg3 rfl (.s .z) rfl rfl rfl ?_
              refine .skips 1 rfl ?_
              have hw241 := W_csr_built (I := I214) R221 hd
              refine .call Tryz.call42 rfl hw241 rfl rfl fun v230 I227 hl228 hv229 => ?_
              obtain ⟨r226, p232, c233, p235, c236, p238, c239, rfl, R234, R237, R240, hd⟩ := hv229
              have le242 := IH.le.trans le223 hl228
              have le243 := IH.le.trans le224 hl228
              replace R221 := R221.mono hl228
              refine .storeA Tryz.sizeOf29 rfl rfl (.s (.s .z)) (.t (.t (.t (.t (.t .nil))))) rfl rfl ?_
              refine .skips 1 rfl ?_
              refine .nil' fun c w ho hs => Cod.at (E := [(8, _), (9, _)]) (ho.sub ⟨rfl, rfl, trivial⟩) hs ?_
              refine .drop .z ?_
              refine .drop .z ?_
              exact .ret (pret Tryz.results10 (.w Tryz.isAgg29 Tryz.sizeOf29 rfl .z rfl (.t rfl .n)) le242 ⟨(r226, 0), _, _, _, _, _, _, rfl, R234, R237, R240, hd⟩)

theorem W_cmp_Less_int {I : IH} {a0 : Int} {a1 : Int}  {Q : Bool → Prop}  (hd : cmp_Less_int a0 a1 Q) :
    PFun Tryz.prog 70 [.int .i64 a0, .int .i64 a1] I (fun I_ v => ∃ r, v = .bool r ∧ Q r) := by
  refine Fun.enter Tryz.func70 rfl Tryz.ntmps70 rfl (.c (.c .n)) fun w0 M => ?_
  refine .seq ?_
  refine .region ?_
  refine .skips 1 rfl ?_
  refine .nil' fun c w ho hs => Cod.at (E := [(0, _), (1, _)]) (ho.sub ⟨rfl, rfl, trivial⟩) hs ?_
  refine .seq ?_
  refine .region ?_
  refine .skips 1 rfl ?_
  have hw7 := W_cmp_isNaN_int (I := I) hd
  refine .call Tryz.call89 rfl hw7 rfl rfl fun v5 I2 hl3 hv4 => ?_
  obtain ⟨r1, rfl, hd⟩ := hv4
  have le8 := IH.le.trans (.refl _) hl3
  refine .skips 1 rfl ?_
  refine split r1 (fun hb9 => ?_) (fun hb9 => ?_)
  · have hd := hd.1 hb9
    rw [hb9]
    refine .gyes rfl rfl rfl (.move rfl rfl rfl ?_)
    have hw16 := W_cmp_isNaN_int (I := I2) hd
    refine .gyes rfl rfl rfl (.call Tryz.call89 rfl hw16 rfl rfl fun v14 I11 hl12 hv13 => ?_)
    obtain ⟨r10, rfl, hd⟩ := hv13
    have le17 := IH.le.trans le8 hl12
    refine .gyes rfl rfl rfl (.not rfl rfl rfl ?_)
    refine .skips 2 rfl ?_
    refine split (!r10) (fun hb18 => ?_) (fun hb18 => ?_)
    · have hd := hd.1 hb18
      rw [hb18]
      refine .skips 5 rfl ?_
      refine .nil' fun c w ho hs => Cod.at (E := [(4, _)]) (ho.sub ⟨rfl, trivial⟩) hs ?_
      exact .ret (pret Tryz.results70 (.t rfl .n) le17 ⟨true, rfl, hd⟩)
    · have hd := hd.2 hb18
      rw [hb18]
      refine .gyes rfl rfl rfl (.move rfl rfl rfl ?_)
      refine .gyes rfl rfl rfl (.move rfl rfl rfl ?_)
      refine .gyes rfl rfl rfl (.lt rfl rfl rfl rfl ?_)
      refine .skips 2 rfl ?_
      refine .nil' fun c w ho hs => Cod.at (E := [(4, _)]) (ho.sub ⟨rfl, trivial⟩) hs ?_
      exact .ret (pret Tryz.results70 (.t rfl .n) le17 ⟨(decide (a0 < a1)), rfl, hd⟩)
  · have hd := hd.2 hb9
    rw [hb9]
    refine .skips 5 rfl ?_
    refine .gyes rfl rfl rfl (.move rfl rfl rfl ?_)
    refine .gyes rfl rfl rfl (.move rfl rfl rfl ?_)
    refine .gyes rfl rfl rfl (.lt rfl rfl rfl rfl ?_)
    refine .skips 2 rfl ?_
    refine .nil' fun c w ho hs => Cod.at (E := [(4, _)]) (ho.sub ⟨rfl, trivial⟩) hs ?_
    exact .ret (pret Tryz.results70 (.t rfl .n) le8 ⟨(decide (a0 < a1)), rfl, hd⟩)

theorem W_slices_IsSorted_int_int {I : IH} {a0 : List Int} {p1 : Option Addr} {c2 : Nat} {Q : Bool → Prop} (R3 : RepSl eI64 I p1 c2 a0) (hd : slices_IsSorted_int_int a0 Q) :
    PFun Tryz.prog 50 [.slice p1 a0.length c2] I (fun I_ v => ∃ r, v = .bool r ∧ Q r) := by
  refine Fun.enter Tryz.func50 rfl Tryz.ntmps50 rfl (.c .n) fun w0 M => ?_
  refine .seq ?_
  refine .region ?_
  refine .skips 1 rfl ?_
  refine .nil' fun c w ho hs => Cod.at (E := [(0, _)]) (ho.sub ⟨rfl, trivial⟩) hs ?_
  refine .seq ?_
  refine .seq ?_
  refine .region ?_
  refine .skips 1 rfl ?_
  refine .len Tryz.underlying26 rfl rfl rfl rfl ?_
  refine .sub' rfl rfl rfl rfl ?_
  refine .skips 1 rfl ?_
  refine .nil' fun c w ho hs => Cod.at (E := [(0, _), (3, _)]) (ho.sub ⟨rfl, rfl, trivial⟩) hs ?_
  refine .block ?_
  refine .loop hd (fun (s65 : Int) c w => ∃ I_, IH.le I I_ ∧ Ok 21 [(0, .slice p1 a0.length c2), (3, .int .i64 s65)] c ∧ Sym w0 M I I_ [] w) (fun c w ho hs => ⟨I, (.refl _), ho.sub ⟨rfl, rfl, trivial⟩, hs.pick .n⟩) ?_
  rintro s65 next66 hd c w hst
  obtain ⟨I67, hl68, hok, hsym⟩ := hst
  have le69 := IH.le.trans (.refl _) hl68
  replace R3 := R3.mono hl68
  refine Cod.at hok hsym ?_
  refine .seq ?_
  refine .seq ?_
  refine .region ?_
  refine .skips 1 rfl ?_
  refine .gt rfl rfl rfl rfl ?_
  refine .nil' fun c w ho hs => Cod.at (E := [(0, _), (3, _), (8, _)]) (ho.sub ⟨rfl, rfl, rfl, trivial⟩) hs ?_
  refine .cond rfl (fun hb71 => ?_) (fun hb71 => ?_)
  · have hd := hd.1 hb71
    refine .skip' fun c w ho hs => Cod.at (E := [(0, _), (3, _)]) (ho.sub ⟨rfl, rfl, trivial⟩) hs ?_
    refine .seq ?_
    refine .block ?_
    refine .seq ?_
    refine .draw [some 0, some 1, some 2, some 3, some 4, some 5, some 6, some 7, some 8, some 9] 10 MX (by kernel_rfl) (by kernel_rfl) (by kernel_rfl) (by kernel_rfl) (by kernel_rfl) (by kernel_rfl) (by kernel_rfl) (fun ex => ex) (fun _ _ => .z) rfl ?_
    refine .f [] rfl (by kernel_rfl) rfl rfl (fun ex => .move rfl rfl rfl .mk) ?_
    refine .f [] rfl (by kernel_rfl) rfl rfl (fun ex => .move rfl rfl rfl .mk) ?_
    obtain ⟨h72, x73, hx74, hd⟩ := hd
    obtain ⟨b75, o76, cs77, e78, hC79, hr80⟩ := R3.2 _ _ hx74
    cases hr80
    refine .f [0, 1] rfl (by kernel_rfl) rfl rfl (fun ex => .ixa Tryz.underlying26 Tryz.sizeOf3 rfl e78 rfl h72 (idx_lt hx74 h72) rfl rfl .mk) ?_
    refine .f [2] rfl (by kernel_rfl) rfl rfl (fun ex => .ld1 (j := 0) Tryz.isAgg3 hC79 rfl rfl rfl rfl rfl .mk) ?_
    refine .f [] rfl (by kernel_rfl) rfl rfl (fun ex => .move rfl rfl rfl .mk) ?_
    refine .f [] rfl (by kernel_rfl) rfl rfl (fun ex => .move rfl rfl rfl .mk) ?_
    refine .f [5] rfl (by kernel_rfl) rfl rfl (fun ex => .sub' rfl rfl rfl rfl .mk) ?_
    obtain ⟨h81, x82, hx83, hd⟩ := hd
    obtain ⟨b84, o85, cs86, e87, hC88, hr89⟩ := R3.2 _ _ hx83
    cases hr89
    refine .f [4, 6] rfl (by kernel_rfl) rfl rfl (fun ex => .ixa Tryz.underlying26 Tryz.sizeOf3 rfl e87 rfl h81 (idx_lt hx83 h81) rfl rfl .mk) ?_
    refine .f [7] rfl (by kernel_rfl) rfl rfl (fun ex => .ld1 (j := 0) Tryz.isAgg3 hC88 rfl rfl rfl rfl rfl .mk) ?_
    refine .w [] [[], [8], [7, 8], [6, 7, 8], [7, 8], [], [3], [2, 3], [2, 3]] [3, 8] rfl (by kernel_rfl) (by kernel_rfl) (by kernel_rfl) ((dropE_kept rfl rfl)) (.inr (dropE_kept rfl rfl)) fun ex => ?_
    have hw96 := W_cmp_Less_int (I := I67) hd
    refine .call Tryz.call70 rfl hw96 rfl rfl fun v94 I91 hl92 hv93 => ?_
    obtain ⟨r90, rfl, hd⟩ := hv93
    have le97 := IH.le.trans le69 hl92
    replace R3 := R3.mono hl92
    replace hC79 := hC79.mono hl92
    replace hC88 := hC88.mono hl92
    refine .some (fun ex => ex) rfl (fun _ _ => .z) rfl trivial ?_
    refine .e 10 (by kernel_rfl) (by kernel_rfl) (by kernel_rfl) ?_
    refine .nil' fun c w ho hs => Cod.at (E := [(0, _), (3, _), (20, _)]) (ho.sub ⟨rfl, rfl, rfl, trivial⟩) hs ?_
    refine .cond rfl (fun hb98 => ?_) (fun hb98 => ?_)
    · have hd := hd.1 hb98
      refine .seq ?_
      refine .region ?_
      refine .skips 1 rfl ?_
      refine .nil' fun c w ho hs => Cod.at (E := [(2, _)]) (ho.sub ⟨rfl, trivial⟩) hs ?_
      exact .ret (pret Tryz.results50 (.t rfl .n) le97 ⟨false, rfl, hd⟩)
    · have hd := hd.2 hb98
      refine .skip' fun c w ho hs => Cod.at (E := [(0, _), (3, _)]) (ho.sub ⟨rfl, rfl, trivial⟩) hs ?_
      refine .region ?_
      refine .skips 1 rfl ?_
      refine .sub' rfl rfl rfl rfl ?_
      refine .sub (E' := [(0, _), (9, _), (10, _)]) ⟨rfl, rfl, rfl, trivial⟩ ?_
      refine .skips 1 rfl ?_
      exact .nil' fun c w ho hs => ⟨(w64 (s65 - 1)), hd, I91, le97, ho.sub ⟨rfl, rfl, trivial⟩, hs.pick .n⟩
  · have hd := hd.2 hb71
    refine .exit fun c w ho hs => Cod.at (E := []) (ho.sub trivial) hs ?_
    refine .seq ?_
    refine .region ?_
    refine .skips 1 rfl ?_
    refine .nil' fun c w ho hs => Cod.at (E := [(2, _)]) (ho.sub ⟨rfl, trivial⟩) hs ?_
    exact .ret (pret Tryz.results50 (.t rfl .n) le69 ⟨true, rfl, hd⟩)

theorem W_csr_row {I : IH} {a0 : List Int} {a1 : Int} {p1 : Option Addr} {c2 : Nat} {Q : Bool → Prop} (R3 : RepSl eI64 I p1 c2 a0) (hd : csr_row a0 a1 Q) :
    PFun Tryz.prog 51 [.slice p1 a0.length c2, .int .i64 a1] I (fun I_ v => ∃ r, v = .bool r ∧ Q r) := by
  refine Fun.enter Tryz.func51 rfl Tryz.ntmps51 rfl (.c (.c .n)) fun w0 M => ?_
  refine .seq ?_
  refine .region ?_
  refine .skips 1 rfl ?_
  refine .nil' fun c w ho hs => Cod.at (E := [(0, _), (1, _)]) (ho.sub ⟨rfl, rfl, trivial⟩) hs ?_
  refine .seq ?_
  refine .seq ?_
  refine .region ?_
  refine .skips 1 rfl ?_
  refine .len Tryz.underlying26 rfl rfl rfl rfl ?_
  refine .skips 1 rfl ?_
  refine .nil' fun c w ho hs => Cod.at (E := [(0, _), (1, _), (7, _), (8, _), (9, _)]) (ho.sub ⟨rfl, rfl, rfl, rfl, rfl, trivial⟩) hs ?_
  refine .block ?_
  refine .loop hd (fun (s76 : Int) c w => ∃ I_, IH.le I I_ ∧ Ok 33 [(0, .slice p1 a0.length c2), (1, .int .i64 a1), (7, .slice p1 a0.length c2), (8, .int .i64 (a0.length : Int)), (9, .int .i64 s76)] c ∧ Sym w0 M I I_ [] w) (fun c w ho hs => ⟨I, (.refl _), ho.sub ⟨rfl, rfl, rfl, rfl, rfl, trivial⟩, hs.pick .n⟩) ?_
  rintro s76 next77 hd c w hst
  obtain ⟨I78, hl79, hok, hsym⟩ := hst
  have le80 := IH.le.trans (.refl _) hl79
  replace R3 := R3.mono hl79
  refine Cod.at hok hsym ?_
  refine .seq ?_
  refine .region ?_
  refine .lt rfl rfl rfl rfl ?_
  refine .nil' fun c w ho hs => Cod.at (E := [(0, _), (1, _), (7, _), (8, _), (9, _), (10, _)]) (ho.sub ⟨rfl, rfl, rfl, rfl, rfl, rfl, trivial⟩) hs ?_
  refine .seq ?_
  refine .cond rfl (fun hb82 => ?_) (fun hb82 => ?_)
  · have hd := hd.1 hb82
    refine .skip' fun c w ho hs => Cod.at (E := [(0, _), (1, _), (7, _), (8, _), (9, _)]) (ho.sub ⟨rfl, rfl, rfl, rfl, rfl, trivial⟩) hs ?_
    refine .seq ?_
    refine .block ?_
    refine .seq ?_
    refine .region ?_
    refine .skips 1 rfl ?_
    obtain ⟨h92, x93, hx94, hd⟩ := hd
    obtain ⟨b95, o96, cs97, e98, hC99, hr100⟩ := R3.2 _ _ hx94
    cases hr100
    refine .ixa Tryz.underlying26 Tryz.sizeOf3 rfl e98 rfl h92 (idx_lt hx94 h92) rfl rfl ?_
    refine .ld1 (j := 0) Tryz.isAgg3 hC99 rfl rfl rfl rfl rfl ?_
    refine .skips 2 rfl ?_
    refine .nil' fun c w ho hs => Cod.at (E := [(0, _), (1, _), (7, _), (8, _), (9, _), (5, _), (6, _)]) (ho.sub ⟨rfl, rfl, rfl, rfl, rfl, rfl, rfl, trivial⟩) hs ?_
    refine .seq ?_
    refine .region ?_
    refine .skips 2 rfl ?_
    refine .sub' rfl rfl rfl rfl ?_
    have hw107 := W_csr_within (I := I78) hd
    refine .call Tryz.call38 rfl hw107 rfl rfl fun v105 I102 hl103 hv104 => ?_
    obtain ⟨r101, rfl, hd⟩ := hv104
    have le108 := IH.le.trans le80 hl103
    replace R3 := R3.mono hl103
    refine .not rfl rfl rfl ?_
    refine .skips 1 rfl ?_
    refine split (!r101) (fun hb109 => ?_) (fun hb109 => ?_)
    · have hd := hd.1 hb109
      rw [hb109]
      refine .skips 3 rfl ?_
      refine .gnoU rfl rfl rfl rfl ?_
      refine .gnoU rfl rfl rfl rfl ?_
      refine .gnoU rfl rfl rfl rfl ?_
      refine .gnoU rfl rfl rfl rfl ?_
      refine .gnoU rfl rfl rfl rfl ?_
      refine .gnoU rfl rfl rfl rfl ?_
      refine .gnoU rfl rfl rfl rfl ?_
      refine .skips 2 rfl ?_
      refine .nil' fun c w ho hs => Cod.at (E := [(0, _), (1, _), (7, _), (8, _), (9, _), (31, _)]) (ho.sub ⟨rfl, rfl, rfl, rfl, rfl, rfl, trivial⟩) hs ?_
      refine .condKT rfl rfl ?_
      refine .seq ?_
      refine .region ?_
      refine .skips 1 rfl ?_
      refine .nil' fun c w ho hs => Cod.at (E := [(4, _)]) (ho.sub ⟨rfl, trivial⟩) hs ?_
      exact .ret (pret Tryz.results51 (.t rfl .n) le108 ⟨false, rfl, hd⟩)
    · have hd := hd.2 hb109
      rw [hb109]
      refine .gyes rfl rfl rfl (.move rfl rfl rfl ?_)
      refine .gyes rfl rfl rfl (.gt rfl rfl rfl rfl ?_)
      refine .gyes rfl rfl rfl (.move rfl rfl rfl ?_)
      refine split (decide (0 < s76)) (fun hb110 => ?_) (fun hb110 => ?_)
      · have hd := hd.1 hb110
        rw [hb110]
        refine .gyes rfl rfl rfl (.move rfl rfl rfl ?_)
        refine .gyes rfl rfl rfl (.move rfl rfl rfl ?_)
        refine .gyes rfl rfl rfl (.sub' rfl rfl rfl rfl ?_)
        obtain ⟨h111, x112, hx113, hd⟩ := hd
        obtain ⟨b114, o115, cs116, e117, hC118, hr119⟩ := R3.2 _ _ hx113
        cases hr119
        refine .gyes rfl rfl rfl (.ixa Tryz.underlying26 Tryz.sizeOf3 rfl e117 rfl h111 (idx_lt hx113 h111) rfl rfl ?_)
        refine .gyes rfl rfl rfl (.ld1 (j := 0) Tryz.isAgg3 hC118 rfl rfl rfl rfl rfl ?_)
        refine .gyes rfl rfl rfl (.move rfl rfl rfl ?_)
        refine .gyes rfl rfl rfl (.ge rfl rfl rfl rfl ?_)
        refine .gyes rfl rfl rfl (.pickT rfl rfl rfl rfl rfl ?_)
        refine .skips 1 rfl ?_
        refine .nil' fun c w ho hs => Cod.at (E := [(0, _), (1, _), (7, _), (8, _), (9, _), (31, _)]) (ho.sub ⟨rfl, rfl, rfl, rfl, rfl, rfl, trivial⟩) hs ?_
        refine .cond rfl (fun hb120 => ?_) (fun hb120 => ?_)
        · have hd := hd.1 hb120
          refine .seq ?_
          refine .region ?_
          refine .skips 1 rfl ?_
          refine .nil' fun c w ho hs => Cod.at (E := [(4, _)]) (ho.sub ⟨rfl, trivial⟩) hs ?_
          exact .ret (pret Tryz.results51 (.t rfl .n) le108 ⟨false, rfl, hd⟩)
        · have hd := hd.2 hb120
          refine .skip' fun c w ho hs => Cod.at (E := [(0, _), (1, _), (7, _), (8, _), (9, _)]) (ho.sub ⟨rfl, rfl, rfl, rfl, rfl, trivial⟩) hs ?_
          refine .region ?_
          refine .add rfl rfl rfl rfl ?_
          refine .sub (E' := [(0, _), (1, _), (7, _), (8, _), (32, _)]) ⟨rfl, rfl, rfl, rfl, rfl, trivial⟩ ?_
          refine .skips 1 rfl ?_
          exact .nil' fun c w ho hs => ⟨(w64 (s76 + 1)), hd, I102, le108, ho.sub ⟨rfl, rfl, rfl, rfl, rfl, trivial⟩, hs.pick .n⟩
      · have hd := hd.2 hb110
        rw [hb110]
        refine .skips 7 rfl ?_
        refine .gyes rfl rfl rfl (.pickF rfl rfl rfl rfl rfl ?_)
        refine .skips 1 rfl ?_
        refine .nil' fun c w ho hs => Cod.at (E := [(0, _), (1, _), (7, _), (8, _), (9, _), (31, _)]) (ho.sub ⟨rfl, rfl, rfl, rfl, rfl, rfl, trivial⟩) hs ?_
        refine .condKF rfl rfl ?_
        refine .skip' fun c w ho hs => Cod.at (E := [(0, _), (1, _), (7, _), (8, _), (9, _)]) (ho.sub ⟨rfl, rfl, rfl, rfl, rfl, trivial⟩) hs ?_
        refine .region ?_
        refine .add rfl rfl rfl rfl ?_
        refine .sub (E' := [(0, _), (1, _), (7, _), (8, _), (32, _)]) ⟨rfl, rfl, rfl, rfl, rfl, trivial⟩ ?_
        refine .skips 1 rfl ?_
        exact .nil' fun c w ho hs => ⟨(w64 (s76 + 1)), hd, I102, le108, ho.sub ⟨rfl, rfl, rfl, rfl, rfl, trivial⟩, hs.pick .n⟩
  · have hd := hd.2 hb82
    refine .exit fun c w ho hs => Cod.at (E := []) (ho.sub trivial) hs ?_
    refine .seq ?_
    refine .region ?_
    refine .skips 1 rfl ?_
    refine .nil' fun c w ho hs => Cod.at (E := [(4, _)]) (ho.sub ⟨rfl, trivial⟩) hs ?_
    exact .ret (pret Tryz.results51 (.t rfl .n) le80 ⟨true, rfl, hd⟩)

theorem W_csr_Right {I : IH} {a0 : Rows} {p1 : Option Addr} {c2 : Nat} {p4 : Option Addr} {c5 : Nat} {p7 : Option Addr} {c8 : Nat} {Q : Bool → Prop} (R3 : RepSl eI64 I p1 c2 a0.Start) (R6 : RepSl eI64 I p4 c5 a0.Col) (R9 : RepSl eI64 I p7 c8 a0.Val) (hd : csr_Right a0 Q) :
    PFun Tryz.prog 16 [.agg #[.int .i64 a0.Rows, .int .i64 a0.Cols, .slice p1 a0.Start.length c2, .slice p4 a0.Col.length c5, .slice p7 a0.Val.length c8]] I (fun I_ v => ∃ r, v = .bool r ∧ Q r) := by
  refine Fun.enter Tryz.func16 rfl Tryz.ntmps16 rfl (.c .n) fun w0 M => ?_
  refine .seq ?_
  refine .region ?_
  refine .boxA rfl rfl rfl fun b12 => ?_
  refine .skips 1 rfl ?_
  refine .nil' fun c w ho hs => Cod.at (E := [(1, _)]) (ho.sub ⟨rfl, trivial⟩) hs ?_
  refine .seq ?_
  refine .region ?_
  refine .fieldAddr Tryz.underlying29 rfl Tryz.sizeOf26 rfl (o := 3) rfl rfl rfl ?_
  refine .load1 Tryz.isAgg26 rfl .z rfl rfl rfl ?_
  refine .len Tryz.underlying26 rfl rfl rfl rfl ?_
  refine .skips 1 rfl ?_
  refine .nil' fun c w ho hs => Cod.at (E := [(1, _), (3, _)]) (ho.sub ⟨rfl, rfl, trivial⟩) hs ?_
  refine .seq ?_
  refine .seq ?_
  refine .region ?_
  refine .fieldAddr Tryz.underlying29 rfl Tryz.sizeOf3 rfl (o := 0) rfl rfl rfl ?_
  refine .load1 Tryz.isAgg3 rfl .z rfl rfl rfl ?_
  have hw41 := W_csr_within (I := I) hd
  refine .call Tryz.call38 rfl hw41 rfl rfl fun v39 I36 hl37 hv38 => ?_
  obtain ⟨r35, rfl, hd⟩ := hv38
  have le42 := IH.le.trans (.refl _) hl37
  replace R3 := R3.mono hl37
  replace R6 := R6.mono hl37
  replace R9 := R9.mono hl37
  refine .not rfl rfl rfl ?_
  refine .skips 1 rfl ?_
  refine split (!r35) (fun hb43 => ?_) (fun hb43 => ?_)
  · have hd := hd.1 hb43
    rw [hb43]
    refine .skips 25 rfl ?_
    refine .nil' fun c w ho hs => Cod.at (E := [(1, _), (3, _), (37, _)]) (ho.sub ⟨rfl, rfl, rfl, trivial⟩) hs ?_
    refine .condKT rfl rfl ?_
    refine .seq ?_
    refine .region ?_
    refine .skips 1 rfl ?_
    refine .nil' fun c w ho hs => Cod.at (E := [(2, _)]) (ho.sub ⟨rfl, trivial⟩) hs ?_
    refine .drop .z ?_
    exact .ret (pret Tryz.results16 (.t rfl .n) le42 ⟨false, rfl, hd⟩)
  · have hd := hd.2 hb43
    rw [hb43]
    refine .gyes rfl rfl rfl (.fieldAddr Tryz.underlying29 rfl Tryz.sizeOf3 rfl (o := 1) rfl rfl rfl ?_)
    refine .gyes rfl rfl rfl (.load1 Tryz.isAgg3 rfl .z rfl rfl rfl ?_)
    have hw50 := W_csr_within (I := I36) hd
    refine .gyes rfl rfl rfl (.call Tryz.call38 rfl hw50 rfl rfl fun v48 I45 hl46 hv47 => ?_)
    obtain ⟨r44, rfl, hd⟩ := hv47
    have le51 := IH.le.trans le42 hl46
    replace R3 := R3.mono hl46
    replace R6 := R6.mono hl46
    replace R9 := R9.mono hl46
    refine .gyes rfl rfl rfl (.not rfl rfl rfl ?_)
    refine .skips 2 rfl ?_
    refine split (!r44) (fun hb52 => ?_) (fun hb52 => ?_)
    · have hd := hd.1 hb52
      rw [hb52]
      refine .skips 19 rfl ?_
      refine .nil' fun c w ho hs => Cod.at (E := [(1, _), (3, _), (37, _)]) (ho.sub ⟨rfl, rfl, rfl, trivial⟩) hs ?_
      refine .condKT rfl rfl ?_
      refine .seq ?_
      refine .region ?_
      refine .skips 1 rfl ?_
      refine .nil' fun c w ho hs => Cod.at (E := [(2, _)]) (ho.sub ⟨rfl, trivial⟩) hs ?_
      refine .drop .z ?_
      exact .ret (pret Tryz.results16 (.t rfl .n) le51 ⟨false, rfl, hd⟩)
    · have hd := hd.2 hb52
      rw [hb52]
      refine .gyes rfl rfl rfl (.fieldAddr Tryz.underlying29 rfl Tryz.sizeOf26 rfl (o := 2) rfl rfl rfl ?_)
      refine .gyes rfl rfl rfl (.load1 Tryz.isAgg26 rfl .z rfl rfl rfl ?_)
      refine .gyes rfl rfl rfl (.len Tryz.underlying26 rfl rfl rfl rfl ?_)
      refine .gyes rfl rfl rfl (.fieldAddr Tryz.underlying29 rfl Tryz.sizeOf3 rfl (o := 0) rfl rfl rfl ?_)
      refine .gyes rfl rfl rfl (.load1 Tryz.isAgg3 rfl .z rfl rfl rfl ?_)
      refine .gyes rfl rfl rfl (.add rfl rfl rfl rfl ?_)
      refine .gyes rfl rfl rfl (.ne rfl rfl rfl rfl ?_)
      refine .skips 2 rfl ?_
      refine split ((a0.Start.length : Int) != (w64 (a0.Rows + 1))) (fun hb53 => ?_) (fun hb53 => ?_)
      · have hd := hd.1 hb53
        rw [hb53]
        refine .skips 10 rfl ?_
        refine .nil' fun c w ho hs => Cod.at (E := [(1, _), (3, _), (37, _)]) (ho.sub ⟨rfl, rfl, rfl, trivial⟩) hs ?_
        refine .condKT rfl rfl ?_
        refine .seq ?_
        refine .region ?_
        refine .skips 1 rfl ?_
        refine .nil' fun c w ho hs => Cod.at (E := [(2, _)]) (ho.sub ⟨rfl, trivial⟩) hs ?_
        refine .drop .z ?_
        exact .ret (pret Tryz.results16 (.t rfl .n) le51 ⟨false, rfl, hd⟩)
      · have hd := hd.2 hb53
        rw [hb53]
        refine .gyes rfl rfl rfl (.fieldAddr Tryz.underlying29 rfl Tryz.sizeOf27 rfl (o := 4) rfl rfl rfl ?_)
        refine .gyes rfl rfl rfl (.load1 Tryz.isAgg27 rfl .z rfl rfl rfl ?_)
        refine .gyes rfl rfl rfl (.len Tryz.underlying27 rfl rfl rfl rfl ?_)
        refine .gyes rfl rfl rfl (.move rfl rfl rfl ?_)
        refine .gyes rfl rfl rfl (.ne rfl rfl rfl rfl ?_)
        refine .skips 2 rfl ?_
        refine split ((a0.Val.length : Int) != (a0.Col.length : Int)) (fun hb54 => ?_) (fun hb54 => ?_)
        · have hd := hd.1 hb54
          rw [hb54]
          refine .skips 3 rfl ?_
          refine .nil' fun c w ho hs => Cod.at (E := [(1, _), (3, _), (37, _)]) (ho.sub ⟨rfl, rfl, rfl, trivial⟩) hs ?_
          refine .condKT rfl rfl ?_
          refine .seq ?_
          refine .region ?_
          refine .skips 1 rfl ?_
          refine .nil' fun c w ho hs => Cod.at (E := [(2, _)]) (ho.sub ⟨rfl, trivial⟩) hs ?_
          refine .drop .z ?_
          exact .ret (pret Tryz.results16 (.t rfl .n) le51 ⟨false, rfl, hd⟩)
        · have hd := hd.2 hb54
          rw [hb54]
          refine .gyes rfl rfl rfl (.move rfl rfl rfl ?_)
          refine .gyes rfl rfl rfl (.gt rfl rfl rfl rfl ?_)
          refine .skips 1 rfl ?_
          refine .nil' fun c w ho hs => Cod.at (E := [(1, _), (3, _), (37, _)]) (ho.sub ⟨rfl, rfl, rfl, trivial⟩) hs ?_
          refine .cond rfl (fun hb55 => ?_) (fun hb55 => ?_)
          · have hd := hd.1 hb55
            refine .seq ?_
            refine .region ?_
            refine .skips 1 rfl ?_
            refine .nil' fun c w ho hs => Cod.at (E := [(2, _)]) (ho.sub ⟨rfl, trivial⟩) hs ?_
            refine .drop .z ?_
            exact .ret (pret Tryz.results16 (.t rfl .n) le51 ⟨false, rfl, hd⟩)
          · have hd := hd.2 hb55
            refine .skip' fun c w ho hs => Cod.at (E := [(1, _), (3, _)]) (ho.sub ⟨rfl, rfl, trivial⟩) hs ?_
            refine .seq ?_
            refine .seq ?_
            refine .region ?_
            refine .fieldAddr Tryz.underlying29 rfl Tryz.sizeOf26 rfl (o := 2) rfl rfl rfl ?_
            refine .load1 Tryz.isAgg26 rfl .z rfl rfl rfl ?_
            obtain ⟨h85, x86, hx87, hd⟩ := hd
            obtain ⟨b88, o89, cs90, e91, hC92, hr93⟩ := R3.2 _ _ hx87
            cases hr93
            refine .ixa Tryz.underlying26 Tryz.sizeOf3 rfl e91 rfl h85 (idx_lt hx87 h85) rfl rfl ?_
            refine .ld1 (j := 0) Tryz.isAgg3 hC92 rfl rfl rfl rfl rfl ?_
            refine .ne rfl rfl rfl rfl ?_
            refine .skips 1 rfl ?_
            refine split (x86 != 0) (fun hb94 => ?_) (fun hb94 => ?_)
            · have hd := hd.1 hb94
              rw [hb94]
              refine .skips 15 rfl ?_
              refine .nil' fun c w ho hs => Cod.at (E := [(1, _), (58, _)]) (ho.sub ⟨rfl, rfl, trivial⟩) hs ?_
              refine .condKT rfl rfl ?_
              refine .seq ?_
              refine .region ?_
              refine .skips 1 rfl ?_
              refine .nil' fun c w ho hs => Cod.at (E := [(2, _)]) (ho.sub ⟨rfl, trivial⟩) hs ?_
              refine .drop .z ?_
              exact .ret (pret Tryz.results16 (.t rfl .n) le51 ⟨false, rfl, hd⟩)
            · have hd := hd.2 hb94
              rw [hb94]
              refine .gyes rfl rfl rfl (.fieldAddr Tryz.underlying29 rfl Tryz.sizeOf26 rfl (o := 2) rfl rfl rfl ?_)
              refine .gyes rfl rfl rfl (.load1 Tryz.isAgg26 rfl .z rfl rfl rfl ?_)
              refine .gyes rfl rfl rfl (.fieldAddr Tryz.underlying29 rfl Tryz.sizeOf3 rfl (o := 0) rfl rfl rfl ?_)
              refine .gyes rfl rfl rfl (.load1 Tryz.isAgg3 rfl .z rfl rfl rfl ?_)
              obtain ⟨h95, x96, hx97, hd⟩ := hd
              obtain ⟨b98, o99, cs100, e101, hC102, hr103⟩ := R3.2 _ _ hx97
              cases hr103
              refine .gyes rfl rfl rfl (.ixa Tryz.underlying26 Tryz.sizeOf3 rfl e101 rfl h95 (idx_lt hx97 h95) rfl rfl ?_)
              refine .gyes rfl rfl rfl (.ld1 (j := 0) Tryz.isAgg3 hC102 rfl rfl rfl rfl rfl ?_)
              refine .gyes rfl rfl rfl (.move rfl rfl rfl ?_)
              refine .gyes rfl rfl rfl (.ne rfl rfl rfl rfl ?_)
              refine .skips 2 rfl ?_
              refine split (x96 != (a0.Col.length : Int)) (fun hb104 => ?_) (fun hb104 => ?_)
              · have hd := hd.1 hb104
                rw [hb104]
                refine .skips 5 rfl ?_
                refine .nil' fun c w ho hs => Cod.at (E := [(1, _), (58, _)]) (ho.sub ⟨rfl, rfl, trivial⟩) hs ?_
                refine .condKT rfl rfl ?_
                refine .seq ?_
                refine .region ?_
                refine .skips 1 rfl ?_
                refine .nil' fun c w ho hs => Cod.at (E := [(2, _)]) (ho.sub ⟨rfl, trivial⟩) hs ?_
                refine .drop .z ?_
                exact .ret (pret Tryz.results16 (.t rfl .n) le51 ⟨false, rfl, hd⟩)
              · have hd := hd.2 hb104
                rw [hb104]
                refine .gyes rfl rfl rfl (.fieldAddr Tryz.underlying29 rfl Tryz.sizeOf26 rfl (o := 2) rfl rfl rfl ?_)
                refine .gyes rfl rfl rfl (.load1 Tryz.isAgg26 rfl .z rfl rfl rfl ?_)
                have hw111 := W_slices_IsSorted_int_int (I := I45) R3 hd
                refine .gyes rfl rfl rfl (.call Tryz.call50 rfl hw111 rfl rfl fun v109 I106 hl107 hv108 => ?_)
                obtain ⟨r105, rfl, hd⟩ := hv108
                have le112 := IH.le.trans le51 hl107
                replace R3 := R3.mono hl107
                replace R6 := R6.mono hl107
                replace R9 := R9.mono hl107
                replace hC92 := hC92.mono hl107
                replace hC102 := hC102.mono hl107
                refine .gyes rfl rfl rfl (.not rfl rfl rfl ?_)
                refine .skips 1 rfl ?_
                refine .nil' fun c w ho hs => Cod.at (E := [(1, _), (58, _)]) (ho.sub ⟨rfl, rfl, trivial⟩) hs ?_
                refine .cond rfl (fun hb113 => ?_) (fun hb113 => ?_)
                · have hd := hd.1 hb113
                  refine .seq ?_
                  refine .region ?_
                  refine .skips 1 rfl ?_
                  refine .nil' fun c w ho hs => Cod.at (E := [(2, _)]) (ho.sub ⟨rfl, trivial⟩) hs ?_
                  refine .drop .z ?_
                  exact .ret (pret Tryz.results16 (.t rfl .n) le112 ⟨false, rfl, hd⟩)
                · have hd := hd.2 hb113
                  refine .skip' fun c w ho hs => Cod.at (E := [(1, _)]) (ho.sub ⟨rfl, trivial⟩) hs ?_
                  refine .seq ?_
                  refine .seq ?_
                  refine .region ?_
                  refine .fieldAddr Tryz.underlying29 rfl Tryz.sizeOf3 rfl (o := 0) rfl rfl rfl ?_
                  refine .load1 Tryz.isAgg3 rfl .z rfl rfl rfl ?_
                  refine .skips 1 rfl ?_
                  refine .nil' fun c w ho hs => Cod.at (E := [(1, _), (60, _), (61, _)]) (ho.sub ⟨rfl, rfl, rfl, trivial⟩) hs ?_
                  refine .block ?_
                  refine .loop hd (fun (s197 : Int) c w => ∃ I_, IH.le I106 I_ ∧ Ok 83 [(1, .pointer (some ⟨b12, 0, none⟩)), (60, .int .i64 a0.Rows), (61, .int .i64 s197)] c ∧ Sym w0 M I I_ [pto b12 (.cells #[.int .i64 a0.Rows, .int .i64 a0.Cols, .slice p1 a0.Start.length c2, .slice p4 a0.Col.length c5, .slice p7 a0.Val.length c8] 29 (0, 0))] w) (fun c w ho hs => ⟨I106, (.refl _), ho.sub ⟨rfl, rfl, rfl, trivial⟩, hs.pick (.c .z .n)⟩) ?_
                  rintro s197 next198 hd c w hst
                  obtain ⟨I199, hl200, hok, hsym⟩ := hst
                  have le201 := IH.le.trans le112 hl200
                  have le202 := IH.le.trans (.refl _) hl200
                  replace R3 := R3.mono hl200
                  replace R6 := R6.mono hl200
                  replace R9 := R9.mono hl200
                  refine Cod.at hok hsym ?_
                  refine .seq ?_
                  refine .region ?_
                  refine .lt rfl rfl rfl rfl ?_
                  refine .nil' fun c w ho hs => Cod.at (E := [(1, _), (60, _), (61, _), (62, _)]) (ho.sub ⟨rfl, rfl, rfl, rfl, trivial⟩) hs ?_
                  refine .seq ?_
                  refine .cond rfl (fun hb204 => ?_) (fun hb204 => ?_)
                  · have hd := hd.1 hb204
                    refine .skip' fun c w ho hs => Cod.at (E := [(1, _), (60, _), (61, _)]) (ho.sub ⟨rfl, rfl, rfl, trivial⟩) hs ?_
                    refine .seq ?_
                    refine .block ?_
                    refine .seq ?_
                    refine .region ?_
                    refine .skips 2 rfl ?_
                    refine .nil' fun c w ho hs => Cod.at (E := [(1, _), (60, _), (61, _), (4, _)]) (ho.sub ⟨rfl, rfl, rfl, rfl, trivial⟩) hs ?_
                    refine .seq ?_
                    refine .draw [some 0, some 1, some 2, some 3, some 4, some 5, some 6, some 7, some 8, some 9, some 10, some 11, some 12, some 13, some 14, some 15, some 16, some 17] 18 MX (by kernel_rfl) (by kernel_rfl) (by kernel_rfl) (by kernel_rfl) (by kernel_rfl) (by kernel_rfl) (by kernel_rfl) (fun ex => (pto b12 (.cells #[.int .i64 a0.Rows, .int .i64 a0.Cols, .slice p1 a0.Start.length c2, .slice p4 a0.Col.length c5, .slice p7 a0.Val.length c8] 29 (0, 0))) :: ex) (fun _ _ => (.s .z)) rfl ?_
                    refine .f [] rfl (by kernel_rfl) rfl rfl (fun ex => .fieldAddr Tryz.underlying29 rfl Tryz.sizeOf26 rfl (o := 3) rfl rfl rfl .mk) ?_
                    refine .f [0] rfl (by kernel_rfl) rfl rfl (fun ex => .load1 Tryz.isAgg26 rfl .z rfl rfl rfl .mk) ?_
                    refine .f [] rfl (by kernel_rfl) rfl rfl (fun ex => .fieldAddr Tryz.underlying29 rfl Tryz.sizeOf26 rfl (o := 2) rfl rfl rfl .mk) ?_
                    refine .f [2] rfl (by kernel_rfl) rfl rfl (fun ex => .load1 Tryz.isAgg26 rfl .z rfl rfl rfl .mk) ?_
                    refine .f [] rfl (by kernel_rfl) rfl rfl (fun ex => .move rfl rfl rfl .mk) ?_
                    obtain ⟨h205, x206, hx207, hd⟩ := hd
                    obtain ⟨b208, o209, cs210, e211, hC212, hr213⟩ := R3.2 _ _ hx207
                    cases hr213
                    refine .f [3, 4] rfl (by kernel_rfl) rfl rfl (fun ex => .ixa Tryz.underlying26 Tryz.sizeOf3 rfl e211 rfl h205 (idx_lt hx207 h205) rfl rfl .mk) ?_
                    refine .f [5] rfl (by kernel_rfl) rfl rfl (fun ex => .ld1 (j := 0) Tryz.isAgg3 hC212 rfl rfl rfl rfl rfl .mk) ?_
                    refine .f [] rfl (by kernel_rfl) rfl rfl (fun ex => .fieldAddr Tryz.underlying29 rfl Tryz.sizeOf26 rfl (o := 2) rfl rfl rfl .mk) ?_
                    refine .f [7] rfl (by kernel_rfl) rfl rfl (fun ex => .load1 Tryz.isAgg26 rfl .z rfl rfl rfl .mk) ?_
                    refine .f [] rfl (by kernel_rfl) rfl rfl (fun ex => .move rfl rfl rfl .mk) ?_
                    refine .f [9] rfl (by kernel_rfl) rfl rfl (fun ex => .add rfl rfl rfl rfl .mk) ?_
                    obtain ⟨h214, x215, hx216, hd⟩ := hd
                    obtain ⟨b217, o218, cs219, e220, hC221, hr222⟩ := R3.2 _ _ hx216
                    cases hr222
                    refine .f [8, 10] rfl (by kernel_rfl) rfl rfl (fun ex => .ixa Tryz.underlying26 Tryz.sizeOf3 rfl e220 rfl h214 (idx_lt hx216 h214) rfl rfl .mk) ?_
                    refine .f [11] rfl (by kernel_rfl) rfl rfl (fun ex => .ld1 (j := 0) Tryz.isAgg3 hC221 rfl rfl rfl rfl rfl .mk) ?_
                    obtain ⟨h223, h224, h225, hd⟩ := hd
                    have h231 : Int.toNat x206 ≤ Int.toNat x215 := by omega
                    have h232 : Int.toNat x215 ≤ a0.Col.length := by omega
                    obtain ⟨p226, c227, e229, e230, R228⟩ := RepSl.sliceW R6 (Int.toNat x206) (Int.toNat x215) c5 h231 h232 (.inl rfl)
                    refine .f [1, 6, 12] rfl (by kernel_rfl) rfl rfl (fun ex => .sliceW (L := Int.toNat x206) (H := Int.toNat x215) (cm := c5) Tryz.underlying26 Tryz.sizeOf3 rfl rfl R6.1 rfl rfl rfl (.inr ⟨_, _, rfl, h223, rfl⟩) (.inr ⟨_, _, rfl, (by omega), rfl⟩) (.inl rfl) h231 h232 rfl e229 e230 rfl rfl .mk) ?_
                    refine .f [] rfl (by kernel_rfl) rfl rfl (fun ex => .fieldAddr Tryz.underlying29 rfl Tryz.sizeOf3 rfl (o := 1) rfl rfl rfl .mk) ?_
                    refine .f [14] rfl (by kernel_rfl) rfl rfl (fun ex => .load1 Tryz.isAgg3 rfl .z rfl rfl rfl .mk) ?_
                    refine .w [] [[], [15], [], [13], [12, 13], [11, 12, 13], [10, 11, 12, 13], [11, 12, 13], [8, 11, 12, 13], [13], [6, 13], [5, 6, 13], [5, 6, 13], [3, 5, 6, 13], [13], [1, 13]] [13, 15] rfl (by kernel_rfl) (by kernel_rfl) (by kernel_rfl) ((dropE_kept rfl rfl)) (.inr (dropE_kept rfl rfl)) fun ex => ?_
                    have hw239 := W_csr_row (I := I199) R228 hd
                    refine .call Tryz.call51 rfl hw239 rfl rfl fun v237 I234 hl235 hv236 => ?_
                    obtain ⟨r233, rfl, hd⟩ := hv236
                    have le240 := IH.le.trans le201 hl235
                    have le241 := IH.le.trans le202 hl235
                    replace R3 := R3.mono hl235
                    replace R6 := R6.mono hl235
                    replace R9 := R9.mono hl235
                    replace hC212 := hC212.mono hl235
                    replace hC221 := hC221.mono hl235
                    replace R228 := R228.mono hl235
                    refine .some (fun ex => (pto b12 (.cells #[.int .i64 a0.Rows, .int .i64 a0.Cols, .slice p1 a0.Start.length c2, .slice p4 a0.Col.length c5, .slice p7 a0.Val.length c8] 29 (0, 0))) :: ex) rfl (fun _ _ => (.s .z)) rfl trivial ?_
                    refine .f [16] rfl (by kernel_rfl) rfl rfl (fun ex => .not rfl rfl rfl .mk) ?_
                    refine .e 18 (by kernel_rfl) (by kernel_rfl) (by kernel_rfl) ?_
                    refine .nil' fun c w ho hs => Cod.at (E := [(1, _), (60, _), (61, _), (81, _)]) (ho.sub ⟨rfl, rfl, rfl, rfl, trivial⟩) hs ?_
                    refine .cond rfl (fun hb242 => ?_) (fun hb242 => ?_)
                    · have hd := hd.1 hb242
                      refine .seq ?_
                      refine .region ?_
                      refine .skips 1 rfl ?_
                      refine .nil' fun c w ho hs => Cod.at (E := [(2, _)]) (ho.sub ⟨rfl, trivial⟩) hs ?_
                      refine .drop .z ?_
                      exact .ret (pret Tryz.results16 (.t rfl .n) le240 ⟨false, rfl, hd⟩)
                    · have hd := hd.2 hb242
                      refine .skip' fun c w ho hs => Cod.at (E := [(1, _), (60, _), (61, _)]) (ho.sub ⟨rfl, rfl, rfl, trivial⟩) hs ?_
                      refine .region ?_
                      refine .add rfl rfl rfl rfl ?_
                      refine .sub (E' := [(1, _), (60, _), (82, _)]) ⟨rfl, rfl, rfl, trivial⟩ ?_
                      refine .skips 1 rfl ?_
                      exact .nil' fun c w ho hs => ⟨(w64 (s197 + 1)), hd, I234, le241, ho.sub ⟨rfl, rfl, rfl, trivial⟩, hs.pick (.c .z .n)⟩
                  · have hd := hd.2 hb204
                    refine .exit fun c w ho hs => Cod.at (E := []) (ho.sub trivial) hs ?_
                    refine .drop .z ?_
                    refine .seq ?_
                    refine .region ?_
                    refine .skips 1 rfl ?_
                    refine .nil' fun c w ho hs => Cod.at (E := [(2, _)]) (ho.sub ⟨rfl, trivial⟩) hs ?_
                    exact .ret (pret Tryz.results16 (.t rfl .n) le201 ⟨true, rfl, hd⟩)

theorem W_csr_sure {I : IH} {a0 : Rows} {p1 : Option Addr} {c2 : Nat} {p4 : Option Addr} {c5 : Nat} {p7 : Option Addr} {c8 : Nat} {Q : Rows → Prop} (R3 : RepSl eI64 I p1 c2 a0.Start) (R6 : RepSl eI64 I p4 c5 a0.Col) (R9 : RepSl eI64 I p7 c8 a0.Val) (hd : csr_sure a0 Q) :
    PFun Tryz.prog 47 [.agg #[.int .i64 a0.Rows, .int .i64 a0.Cols, .slice p1 a0.Start.length c2, .slice p4 a0.Col.length c5, .slice p7 a0.Val.length c8]] I (fun I_ v => ∃ r p10 c11 p13 c14 p16 c17, v = .agg #[.int .i64 r.Rows, .int .i64 r.Cols, .slice p10 r.Start.length c11, .slice p13 r.Col.length c14, .slice p16 r.Val.length c17] ∧ RepSl eI64 I_ p10 c11 r.Start ∧ RepSl eI64 I_ p13 c14 r.Col ∧ RepSl eI64 I_ p16 c17 r.Val ∧ Q r) := by
  refine Fun.enter Tryz.func47 rfl Tryz.ntmps47 rfl (.c .n) fun w0 M => ?_
  refine .seq ?_
  refine .region ?_
  refine .boxA rfl rfl rfl fun b23 => ?_
  refine .allocA Tryz.zeroValue29 rfl rfl fun b25 => ?_
  refine .nil' fun c w ho hs => Cod.at (E := [(1, _), (2, _)]) (ho.sub ⟨rfl, rfl, trivial⟩) hs ?_
  refine .seq ?_
  refine .seq ?_
  refine .region ?_
  refine .loadW Tryz.isAgg29 Tryz.sizeOf29 rfl (.s .z) rfl rfl rfl ?_
  have hw33 := W_csr_Right (I := I) R3 R6 R9 hd
  refine .call Tryz.call16 rfl hw33 rfl rfl fun v31 I28 hl29 hv30 => ?_
  obtain ⟨r27, rfl, hd⟩ := hv30
  have le34 := IH.le.trans (.refl _) hl29
  replace R3 := R3.mono hl29
  replace R6 := R6.mono hl29
  replace R9 := R9.mono hl29
  refine .nil' fun c w ho hs => Cod.at (E := [(1, _), (2, _), (4, _)]) (ho.sub ⟨rfl, rfl, rfl, trivial⟩) hs ?_
  refine .cond rfl (fun hb35 => ?_) (fun hb35 => ?_)
  · have hd := hd.1 hb35
    refine .seq ?_
    refine .region ?_
    refine .loadW Tryz.isAgg29 Tryz.sizeOf29 rfl (.s .z) rfl rfl rfl ?_
    refine .storeA Tryz.sizeOf29 rfl rfl .z (.t (.t (.t (.t (.t .nil))))) rfl rfl ?_
    refine .nil' fun c w ho hs => Cod.at (E := [(2, _)]) (ho.sub ⟨rfl, trivial⟩) hs ?_
    refine .drop (.s .z) ?_
    exact .ret (pret Tryz.results47 (.w Tryz.isAgg29 Tryz.sizeOf29 rfl .z rfl .n) le34 ⟨a0, _, _, _, _, _, _, rfl, R3, R6, R9, hd⟩)
  · have hd := hd.2 hb35
    refine .skip' fun c w ho hs => Cod.at (E := [(2, _)]) (ho.sub ⟨rfl, trivial⟩) hs ?_
    refine .drop (.s .z) ?_
    refine .seq ?_
    refine .region ?_
    have hw54 := W_csr_empty (I := I28) hd
    refine .callO Tryz.call65 rfl hw54 rfl rfl fun v40 I37 l41 hl38 hv39 => ?_
    obtain ⟨r36, p42, c43, p45, c46, p48, c49, rfl, rfl, hd⟩ := hv39
    have le55 := IH.le.trans le34 hl38
    refine .storeA Tryz.sizeOf29 rfl rfl (.s (.s (.s .z))) (.t (.t (.t (.t (.t .nil))))) rfl rfl ?_
    refine .nil' fun c w ho hs => Cod.at (E := [(2, _)]) (ho.sub ⟨rfl, trivial⟩) hs ?_
    refine .pub .z fun I56 hl57 R58 => ?_
    have le59 := IH.le.trans le55 hl57
    refine .pub .z fun I60 hl61 R62 => ?_
    have le63 := IH.le.trans le59 hl61
    replace R58 := R58.mono hl61
    refine .pub .z fun I64 hl65 R66 => ?_
    have le67 := IH.le.trans le63 hl65
    replace R58 := R58.mono hl65
    replace R62 := R62.mono hl65
    exact .ret (pret Tryz.results47 (.w Tryz.isAgg29 Tryz.sizeOf29 rfl .z rfl .n) le67 ⟨r36, _, _, _, _, _, _, rfl, R58, R62, R66, hd⟩)

theorem W_csr_part {I : IH} {a0 : Rows} {a1 : Int} {p1 : Option Addr} {c2 : Nat} {p4 : Option Addr} {c5 : Nat} {p7 : Option Addr} {c8 : Nat} {Q : ((List Int) × (List Int)) → Prop} (R3 : RepSl eI64 I p1 c2 a0.Start) (R6 : RepSl eI64 I p4 c5 a0.Col) (R9 : RepSl eI64 I p7 c8 a0.Val) (hd : csr_part a0 a1 Q) :
    PFun Tryz.prog 48 [.agg #[.int .i64 a0.Rows, .int .i64 a0.Cols, .slice p1 a0.Start.length c2, .slice p4 a0.Col.length c5, .slice p7 a0.Val.length c8], .int .i64 a1] I (fun I_ v => ∃ r p10 c11 p13 c14, v = .tuple #[.slice p10 r.1.length c11, .slice p13 r.2.length c14] ∧ RepSl eI64 I_ p10 c11 r.1 ∧ RepSl eI64 I_ p13 c14 r.2 ∧ Q r) := by
  refine Fun.enter Tryz.func48 rfl Tryz.ntmps48 rfl (.c (.c .n)) fun w0 M => ?_
  refine .seq ?_
  refine .region ?_
  refine .boxA rfl rfl rfl fun b18 => ?_
  refine .skips 2 rfl ?_
  refine .nil' fun c w ho hs => Cod.at (E := [(1, _), (2, _)]) (ho.sub ⟨rfl, rfl, trivial⟩) hs ?_
  refine .seq ?_
  refine .draw [some 0, some 1, some 2, some 3, some 4, some 5, some 6, some 7, some 8, some 9, some 10, some 11] 12 MX (by kernel_rfl) (by kernel_rfl) (by kernel_rfl) (by kernel_rfl) (by kernel_rfl) (by kernel_rfl) (by kernel_rfl) (fun ex => (pto b18 (.cells #[.int .i64 a0.Rows, .int .i64 a0.Cols, .slice p1 a0.Start.length c2, .slice p4 a0.Col.length c5, .slice p7 a0.Val.length c8] 29 (0, 0))) :: ex) (fun _ _ => (.s .z)) rfl ?_
  refine .f [] rfl (by kernel_rfl) rfl rfl (fun ex => .fieldAddr Tryz.underlying29 rfl Tryz.sizeOf26 rfl (o := 2) rfl rfl rfl .mk) ?_
  refine .f [0] rfl (by kernel_rfl) rfl rfl (fun ex => .load1 Tryz.isAgg26 rfl .z rfl rfl rfl .mk) ?_
  refine .f [] rfl (by kernel_rfl) rfl rfl (fun ex => .move rfl rfl rfl .mk) ?_
  obtain ⟨h38, x39, hx40, hd⟩ := hd
  obtain ⟨b41, o42, cs43, e44, hC45, hr46⟩ := R3.2 _ _ hx40
  cases hr46
  refine .f [1, 2] rfl (by kernel_rfl) rfl rfl (fun ex => .ixa Tryz.underlying26 Tryz.sizeOf3 rfl e44 rfl h38 (idx_lt hx40 h38) rfl rfl .mk) ?_
  refine .f [3] rfl (by kernel_rfl) rfl rfl (fun ex => .ld1 (j := 0) Tryz.isAgg3 hC45 rfl rfl rfl rfl rfl .mk) ?_
  refine .f [] rfl (by kernel_rfl) rfl rfl (fun ex => .fieldAddr Tryz.underlying29 rfl Tryz.sizeOf26 rfl (o := 2) rfl rfl rfl .mk) ?_
  refine .f [5] rfl (by kernel_rfl) rfl rfl (fun ex => .load1 Tryz.isAgg26 rfl .z rfl rfl rfl .mk) ?_
  refine .f [] rfl (by kernel_rfl) rfl rfl (fun ex => .move rfl rfl rfl .mk) ?_
  refine .f [7] rfl (by kernel_rfl) rfl rfl (fun ex => .add rfl rfl rfl rfl .mk) ?_
  obtain ⟨h47, x48, hx49, hd⟩ := hd
  obtain ⟨b50, o51, cs52, e53, hC54, hr55⟩ := R3.2 _ _ hx49
  cases hr55
  refine .f [6, 8] rfl (by kernel_rfl) rfl rfl (fun ex => .ixa Tryz.underlying26 Tryz.sizeOf3 rfl e53 rfl h47 (idx_lt hx49 h47) rfl rfl .mk) ?_
  refine .f [9] rfl (by kernel_rfl) rfl rfl (fun ex => .ld1 (j := 0) Tryz.isAgg3 hC54 rfl rfl rfl rfl rfl .mk) ?_
  refine .f [4, 0, 1, 2, 3, 4] rfl (by kernel_rfl) rfl rfl (fun ex => .assign rfl rfl rfl .mk) ?_
  refine .e 12 (by kernel_rfl) (by kernel_rfl) (by kernel_rfl) ?_
  refine .skips 1 rfl ?_
  refine .nil' fun c w ho hs => Cod.at (E := [(2, _), (6, _), (7, _)]) (ho.sub ⟨rfl, rfl, rfl, trivial⟩) hs ?_
  refine .seq ?_
  refine .draw [some 0, some 1, some 2, some 3, some 4, some 5, some 6, some 7, some 8, some 9, some 10, some 11, some 12] 13 MX (by kernel_rfl) (by kernel_rfl) (by kernel_rfl) (by kernel_rfl) (by kernel_rfl) (by kernel_rfl) (by kernel_rfl) (fun ex => (pto b18 (.cells #[.int .i64 a0.Rows, .int .i64 a0.Cols, .slice p1 a0.Start.length c2, .slice p4 a0.Col.length c5, .slice p7 a0.Val.length c8] 29 (0, 0))) :: ex) (fun _ _ => (.s .z)) rfl ?_
  refine .f [] rfl (by kernel_rfl) rfl rfl (fun ex => .fieldAddr Tryz.underlying29 rfl Tryz.sizeOf26 rfl (o := 3) rfl rfl rfl .mk) ?_
  refine .f [0] rfl (by kernel_rfl) rfl rfl (fun ex => .load1 Tryz.isAgg26 rfl .z rfl rfl rfl .mk) ?_
  refine .f [] rfl (by kernel_rfl) rfl rfl (fun ex => .move rfl rfl rfl .mk) ?_
  refine .f [] rfl (by kernel_rfl) rfl rfl (fun ex => .move rfl rfl rfl .mk) ?_
  refine .f [] rfl (by kernel_rfl) rfl rfl (fun ex => .move rfl rfl rfl .mk) ?_
  obtain ⟨h56, h57, h58, hd⟩ := hd
  have h64 : Int.toNat x39 ≤ Int.toNat x48 := by omega
  have h65 : Int.toNat x48 ≤ a0.Col.length := by omega
  obtain ⟨p59, c60, e62, e63, R61⟩ := RepSl.sliceW R6 (Int.toNat x39) (Int.toNat x48) (Int.toNat x48) h64 h65 (.inr rfl)
  refine .f [1, 2, 3, 4] rfl (by kernel_rfl) rfl rfl (fun ex => .sliceW (L := Int.toNat x39) (H := Int.toNat x48) (cm := Int.toNat x48) Tryz.underlying26 Tryz.sizeOf3 rfl rfl R6.1 rfl rfl rfl (.inr ⟨_, _, rfl, h56, rfl⟩) (.inr ⟨_, _, rfl, (by omega), rfl⟩) (.inr rfl) h64 h65 rfl e62 e63 rfl rfl .mk) ?_
  refine .f [] rfl (by kernel_rfl) rfl rfl (fun ex => .fieldAddr Tryz.underlying29 rfl Tryz.sizeOf27 rfl (o := 4) rfl rfl rfl .mk) ?_
  refine .f [6] rfl (by kernel_rfl) rfl rfl (fun ex => .load1 Tryz.isAgg27 rfl .z rfl rfl rfl .mk) ?_
  refine .f [] rfl (by kernel_rfl) rfl rfl (fun ex => .move rfl rfl rfl .mk) ?_
  refine .f [] rfl (by kernel_rfl) rfl rfl (fun ex => .move rfl rfl rfl .mk) ?_
  refine .f [] rfl (by kernel_rfl) rfl rfl (fun ex => .move rfl rfl rfl .mk) ?_
  obtain ⟨h66, h67, h68, hd⟩ := hd
  have h74 : Int.toNat x39 ≤ Int.toNat x48 := by omega
  have h75 : Int.toNat x48 ≤ a0.Val.length := by omega
  obtain ⟨p69, c70, e72, e73, R71⟩ := RepSl.sliceW R9 (Int.toNat x39) (Int.toNat x48) (Int.toNat x48) h74 h75 (.inr rfl)
  refine .f [7, 8, 9, 10] rfl (by kernel_rfl) rfl rfl (fun ex => .sliceW (L := Int.toNat x39) (H := Int.toNat x48) (cm := Int.toNat x48) Tryz.underlying27 Tryz.sizeOf2 rfl rfl R9.1 rfl rfl rfl (.inr ⟨_, _, rfl, h66, rfl⟩) (.inr ⟨_, _, rfl, (by omega), rfl⟩) (.inr rfl) h74 h75 rfl e72 e73 rfl rfl .mk) ?_
  refine .f [5, 0, 1, 2, 3, 4, 5] rfl (by kernel_rfl) rfl rfl (fun ex => .assign rfl rfl rfl .mk) ?_
  refine .e 13 (by kernel_rfl) (by kernel_rfl) (by kernel_rfl) ?_
  refine .skips 1 rfl ?_
  refine .nil' fun c w ho hs => Cod.at (E := [(4, _), (5, _)]) (ho.sub ⟨rfl, rfl, trivial⟩) hs ?_
  refine .drop .z ?_
  exact .ret (pret Tryz.results48 (.t rfl (.t rfl .n)) (.refl _) ⟨(((a0.Col.take x48.toNat).drop x39.toNat), ((a0.Val.take x48.toNat).drop x39.toNat)), _, _, _, _, rfl, R61, R71, hd⟩)

theorem W_slices_isNaN_int {I : IH} {a0 : Int}  {Q : Bool → Prop}  (hd : slices_isNaN_int a0 Q) :
    PFun Tryz.prog 71 [.int .i64 a0] I (fun I_ v => ∃ r, v = .bool r ∧ Q r) := by
  refine Fun.enter Tryz.func71 rfl Tryz.ntmps71 rfl (.c .n) fun w0 M => ?_
  refine .seq ?_
  refine .region ?_
  refine .skips 1 rfl ?_
  refine .nil' fun c w ho hs => Cod.at (E := [(0, _)]) (ho.sub ⟨rfl, trivial⟩) hs ?_
  refine .seq ?_
  refine .region ?_
  refine .skips 2 rfl ?_
  refine .ne rfl rfl rfl rfl ?_
  refine .skips 1 rfl ?_
  refine .nil' fun c w ho hs => Cod.at (E := [(2, _)]) (ho.sub ⟨rfl, trivial⟩) hs ?_
  exact .ret (pret Tryz.results71 (.t rfl .n) (.refl _) ⟨(a0 != a0), rfl, hd⟩)

theorem W_slices_BinarySearch_int_int {I : IH} {a0 : List Int} {a1 : Int} {p1 : Option Addr} {c2 : Nat} {Q : (Int × Bool) → Prop} (R3 : RepSl eI64 I p1 c2 a0) (hd : slices_BinarySearch_int_int a0 a1 Q) :
    PFun Tryz.prog 49 [.slice p1 a0.length c2, .int .i64 a1] I (fun I_ v => ∃ r, v = .tuple #[.int .i64 r.1, .bool r.2] ∧ Q r) := by
  refine Fun.enter Tryz.func49 rfl Tryz.ntmps49 rfl (.c (.c .n)) fun w0 M => ?_
  refine .seq ?_
  refine .region ?_
  refine .skips 2 rfl ?_
  refine .nil' fun c w ho hs => Cod.at (E := [(0, _), (1, _)]) (ho.sub ⟨rfl, rfl, trivial⟩) hs ?_
  refine .seq ?_
  refine .region ?_
  refine .skips 1 rfl ?_
  refine .len Tryz.underlying26 rfl rfl rfl rfl ?_
  refine .skips 1 rfl ?_
  refine .nil' fun c w ho hs => Cod.at (E := [(0, _), (1, _), (6, _)]) (ho.sub ⟨rfl, rfl, rfl, trivial⟩) hs ?_
  refine .seq ?_
  refine .region ?_
  refine .skips 3 rfl ?_
  refine .nil' fun c w ho hs => Cod.at (E := [(0, _), (1, _), (6, _), (7, _), (8, _)]) (ho.sub ⟨rfl, rfl, rfl, rfl, rfl, trivial⟩) hs ?_
  refine .seq ?_
  refine .block ?_
  refine .loop hd (fun (s : Int × Int) c w => match s with | (s122, s123) => ∃ I_, IH.le I I_ ∧ Ok 54 [(0, .slice p1 a0.length c2), (1, .int .i64 a1), (6, .int .i64 (a0.length : Int)), (7, .int .i64 s122), (8, .int .i64 s123)] c ∧ Sym w0 M I I_ [] w) (fun c w ho hs => ⟨I, (.refl _), ho.sub ⟨rfl, rfl, rfl, rfl, rfl, trivial⟩, hs.pick .n⟩) ?_
  rintro ⟨s122, s123⟩ next124 hd c w hst
  obtain ⟨I125, hl126, hok, hsym⟩ := hst
  have le127 := IH.le.trans (.refl _) hl126
  replace R3 := R3.mono hl126
  refine Cod.at hok hsym ?_
  refine .seq ?_
  refine .seq ?_
  refine .region ?_
  refine .skips 2 rfl ?_
  refine .lt rfl rfl rfl rfl ?_
  refine .nil' fun c w ho hs => Cod.at (E := [(0, _), (1, _), (6, _), (7, _), (8, _), (15, _)]) (ho.sub ⟨rfl, rfl, rfl, rfl, rfl, rfl, trivial⟩) hs ?_
  refine .cond rfl (fun hb129 => ?_) (fun hb129 => ?_)
  · have hd := hd.1 hb129
    refine .skip' fun c w ho hs => Cod.at (E := [(0, _), (1, _), (6, _), (7, _), (8, _)]) (ho.sub ⟨rfl, rfl, rfl, rfl, rfl, trivial⟩) hs ?_
    refine .block ?_
    refine .seq ?_
    refine .region ?_
    refine .skips 2 rfl ?_
    refine .add rfl rfl rfl rfl ?_
    refine .conv Tryz.underlying3 Tryz.underlying102 rfl rfl rfl ?_
    refine .shr' rfl rfl (by decide) rfl rfl ?_
    refine .conv Tryz.underlying102 Tryz.underlying3 rfl rfl rfl ?_
    refine .skips 1 rfl ?_
    refine .nil' fun c w ho hs => Cod.at (E := [(0, _), (1, _), (6, _), (7, _), (8, _), (9, _)]) (ho.sub ⟨rfl, rfl, rfl, rfl, rfl, rfl, trivial⟩) hs ?_
    refine .seq ?_
    refine .region ?_
    refine .skips 2 rfl ?_
    obtain ⟨h130, x131, hx132, hd⟩ := hd
    obtain ⟨b133, o134, cs135, e136, hC137, hr138⟩ := R3.2 _ _ hx132
    cases hr138
    refine .ixa Tryz.underlying26 Tryz.sizeOf3 rfl e136 rfl h130 (idx_lt hx132 h130) rfl rfl ?_
    refine .ld1 (j := 0) Tryz.isAgg3 hC137 rfl rfl rfl rfl rfl ?_
    refine .skips 1 rfl ?_
    have hw145 := W_cmp_Less_int (I := I125) hd
    refine .call Tryz.call70 rfl hw145 rfl rfl fun v143 I140 hl141 hv142 => ?_
    obtain ⟨r139, rfl, hd⟩ := hv142
    have le146 := IH.le.trans le127 hl141
    replace R3 := R3.mono hl141
    replace hC137 := hC137.mono hl141
    refine .nil' fun c w ho hs => Cod.at (E := [(0, _), (1, _), (6, _), (7, _), (8, _), (9, _), (27, _)]) (ho.sub ⟨rfl, rfl, rfl, rfl, rfl, rfl, rfl, trivial⟩) hs ?_
    refine .cond rfl (fun hb147 => ?_) (fun hb147 => ?_)
    · have hd := hd.1 hb147
      refine .region ?_
      refine .skips 1 rfl ?_
      refine .add rfl rfl rfl rfl ?_
      refine .sub (E' := [(0, _), (1, _), (6, _), (8, _), (9, _), (27, _), (28, _), (29, _)]) ⟨rfl, rfl, rfl, rfl, rfl, rfl, rfl, rfl, trivial⟩ ?_
      refine .skips 1 rfl ?_
      exact .nil' fun c w ho hs => ⟨(w64 ((w64 (shr .u64 (IntKind.wrap .u64 (w64 (s122 + s123))) 1)) + 1), s123), hd, I140, le146, ho.sub ⟨rfl, rfl, rfl, rfl, rfl, trivial⟩, hs.pick .n⟩
    · have hd := hd.2 hb147
      refine .region ?_
      refine .skips 1 rfl ?_
      refine .sub (E' := [(0, _), (1, _), (6, _), (7, _), (9, _), (27, _), (30, _)]) ⟨rfl, rfl, rfl, rfl, rfl, rfl, rfl, trivial⟩ ?_
      refine .skips 1 rfl ?_
      exact .nil' fun c w ho hs => ⟨(s122, w64 (shr .u64 (IntKind.wrap .u64 (w64 (s122 + s123))) 1)), hd, I140, le146, ho.sub ⟨rfl, rfl, rfl, rfl, rfl, trivial⟩, hs.pick .n⟩
  · have hd := hd.2 hb129
    refine .exit fun c w ho hs => Cod.at (E := [(0, _), (1, _), (6, _), (7, _)]) (ho.sub ⟨rfl, rfl, rfl, rfl, trivial⟩) hs ?_
    refine .seq ?_
    refine .region ?_
    refine .skips 3 rfl ?_
    refine .lt rfl rfl rfl rfl ?_
    refine .skips 1 rfl ?_
    refine split (decide (s122 < (a0.length : Int))) (fun hb148 => ?_) (fun hb148 => ?_)
    · have hd := hd.1 hb148
      rw [hb148]
      refine .gyes rfl rfl rfl (.move rfl rfl rfl ?_)
      refine .gyes rfl rfl rfl (.move rfl rfl rfl ?_)
      obtain ⟨h149, x150, hx151, hd⟩ := hd
      obtain ⟨b152, o153, cs154, e155, hC156, hr157⟩ := R3.2 _ _ hx151
      cases hr157
      refine .gyes rfl rfl rfl (.ixa Tryz.underlying26 Tryz.sizeOf3 rfl e155 rfl h149 (idx_lt hx151 h149) rfl rfl ?_)
      refine .gyes rfl rfl rfl (.ld1 (j := 0) Tryz.isAgg3 hC156 rfl rfl rfl rfl rfl ?_)
      refine .gyes rfl rfl rfl (.move rfl rfl rfl ?_)
      refine .gyes rfl rfl rfl (.eq rfl rfl rfl rfl ?_)
      refine .gyes rfl rfl rfl (.move rfl rfl rfl ?_)
      refine split (x150 == a1) (fun hb158 => ?_) (fun hb158 => ?_)
      · have hd := hd.1 hb158
        rw [hb158]
        refine .skips 6 rfl ?_
        refine .gnoU rfl rfl rfl rfl ?_
        refine .gnoU rfl rfl rfl rfl ?_
        refine .skips 1 rfl ?_
        refine .gyes rfl rfl rfl (.pickT rfl rfl rfl rfl rfl ?_)
        refine .skips 3 rfl ?_
        refine .nil' fun c w ho hs => Cod.at (E := [(4, _), (5, _)]) (ho.sub ⟨rfl, rfl, trivial⟩) hs ?_
        exact .ret (pret Tryz.results49 (.t rfl (.t rfl .n)) le127 ⟨(s122, true), rfl, hd⟩)
      · have hd := hd.2 hb158
        rw [hb158]
        refine .gyes rfl rfl rfl (.move rfl rfl rfl ?_)
        refine .gyes rfl rfl rfl (.move rfl rfl rfl ?_)
        obtain ⟨h159, x160, hx161, hd⟩ := hd
        obtain ⟨b162, o163, cs164, e165, hC166, hr167⟩ := R3.2 _ _ hx161
        cases hr167
        refine .gyes rfl rfl rfl (.ixa Tryz.underlying26 Tryz.sizeOf3 rfl e165 rfl h159 (idx_lt hx161 h159) rfl rfl ?_)
        refine .gyes rfl rfl rfl (.ld1 (j := 0) Tryz.isAgg3 hC166 rfl rfl rfl rfl rfl ?_)
        have hw174 := W_slices_isNaN_int (I := I125) hd
        refine .gyes rfl rfl rfl (.call Tryz.call71 rfl hw174 rfl rfl fun v172 I169 hl170 hv171 => ?_)
        obtain ⟨r168, rfl, hd⟩ := hv171
        have le175 := IH.le.trans le127 hl170
        replace R3 := R3.mono hl170
        replace hC156 := hC156.mono hl170
        replace hC166 := hC166.mono hl170
        refine .gyes rfl rfl rfl (.move rfl rfl rfl ?_)
        refine split r168 (fun hb176 => ?_) (fun hb176 => ?_)
        · have hd := hd.1 hb176
          rw [hb176]
          refine .gyes rfl rfl rfl (.move rfl rfl rfl ?_)
          have hw183 := W_slices_isNaN_int (I := I169) hd
          refine .gyes rfl rfl rfl (.call Tryz.call71 rfl hw183 rfl rfl fun v181 I178 hl179 hv180 => ?_)
          obtain ⟨r177, rfl, hd⟩ := hv180
          have le184 := IH.le.trans le175 hl179
          replace R3 := R3.mono hl179
          replace hC156 := hC156.mono hl179
          replace hC166 := hC166.mono hl179
          refine .gyes rfl rfl rfl (.pickT rfl rfl rfl rfl rfl ?_)
          refine .gyes rfl rfl rfl (.pickF rfl rfl rfl rfl rfl ?_)
          refine .skips 3 rfl ?_
          refine .nil' fun c w ho hs => Cod.at (E := [(4, _), (5, _)]) (ho.sub ⟨rfl, rfl, trivial⟩) hs ?_
          exact .ret (pret Tryz.results49 (.t rfl (.t rfl .n)) le184 ⟨(s122, r177), rfl, hd⟩)
        · have hd := hd.2 hb176
          rw [hb176]
          refine .skips 2 rfl ?_
          refine .gyes rfl rfl rfl (.pickF rfl rfl rfl rfl rfl ?_)
          refine .gyes rfl rfl rfl (.pickF rfl rfl rfl rfl rfl ?_)
          refine .skips 3 rfl ?_
          refine .nil' fun c w ho hs => Cod.at (E := [(4, _), (5, _)]) (ho.sub ⟨rfl, rfl, trivial⟩) hs ?_
          exact .ret (pret Tryz.results49 (.t rfl (.t rfl .n)) le175 ⟨(s122, false), rfl, hd⟩)
    · have hd := hd.2 hb148
      rw [hb148]
      refine .skips 7 rfl ?_
      refine .gnoU rfl rfl rfl rfl ?_
      refine .gnoU rfl rfl rfl rfl ?_
      refine .gnoU rfl rfl rfl rfl ?_
      refine .gnoU rfl rfl rfl rfl ?_
      refine .gnoU rfl rfl rfl rfl ?_
      refine .gnoU rfl rfl rfl rfl ?_
      refine .gnoU rfl rfl rfl rfl ?_
      refine .gnoU rfl rfl rfl rfl ?_
      refine .gnoU rfl rfl rfl rfl ?_
      refine .skips 4 rfl ?_
      refine .nil' fun c w ho hs => Cod.at (E := [(4, _), (5, _)]) (ho.sub ⟨rfl, rfl, trivial⟩) hs ?_
      exact .ret (pret Tryz.results49 (.t rfl (.t rfl .n)) le127 ⟨(s122, false), rfl, hd⟩)

theorem W_csr_Get {I : IH} {a0 : Rows} {a1 : Int} {a2 : Int} {p1 : Option Addr} {c2 : Nat} {p4 : Option Addr} {c5 : Nat} {p7 : Option Addr} {c8 : Nat} {Q : (Int × Bool) → Prop} (R3 : RepSl eI64 I p1 c2 a0.Start) (R6 : RepSl eI64 I p4 c5 a0.Col) (R9 : RepSl eI64 I p7 c8 a0.Val) (hd : csr_Get a0 a1 a2 Q) :
    PFun Tryz.prog 14 [.agg #[.int .i64 a0.Rows, .int .i64 a0.Cols, .slice p1 a0.Start.length c2, .slice p4 a0.Col.length c5, .slice p7 a0.Val.length c8], .int .i64 a1, .int .i64 a2] I (fun I_ v => ∃ r, v = .tuple #[.int .i64 r.1, .bool r.2] ∧ Q r) := by
  refine Fun.enter Tryz.func14 rfl Tryz.ntmps14 rfl (.c (.c (.c .n))) fun w0 M => ?_
  refine .seq ?_
  refine .region ?_
  refine .boxA rfl rfl rfl fun b12 => ?_
  refine .skips 2 rfl ?_
  refine .nil' fun c w ho hs => Cod.at (E := [(1, _), (2, _), (3, _)]) (ho.sub ⟨rfl, rfl, rfl, trivial⟩) hs ?_
  refine .seq ?_
  refine .region ?_
  refine .loadW Tryz.isAgg29 Tryz.sizeOf29 rfl .z rfl rfl rfl ?_
  have hw46 := W_csr_sure (I := I) R3 R6 R9 hd
  refine .call Tryz.call47 rfl hw46 rfl rfl fun v35 I32 hl33 hv34 => ?_
  obtain ⟨r31, p37, c38, p40, c41, p43, c44, rfl, R39, R42, R45, hd⟩ := hv34
  have le47 := IH.le.trans (.refl _) hl33
  replace R3 := R3.mono hl33
  replace R6 := R6.mono hl33
  replace R9 := R9.mono hl33
  refine .storeA Tryz.sizeOf29 rfl rfl .z (.t (.t (.t (.t (.t .nil))))) rfl rfl ?_
  refine .nil' fun c w ho hs => Cod.at (E := [(1, _), (2, _), (3, _)]) (ho.sub ⟨rfl, rfl, rfl, trivial⟩) hs ?_
  refine .seq ?_
  refine .seq ?_
  refine .region ?_
  refine .skips 1 rfl ?_
  refine .fieldAddr Tryz.underlying29 rfl Tryz.sizeOf3 rfl (o := 0) rfl rfl rfl ?_
  refine .load1 Tryz.isAgg3 rfl .z rfl rfl rfl ?_
  refine .sub' rfl rfl rfl rfl ?_
  have hw63 := W_csr_within (I := I32) hd
  refine .call Tryz.call38 rfl hw63 rfl rfl fun v61 I58 hl59 hv60 => ?_
  obtain ⟨r57, rfl, hd⟩ := hv60
  have le64 := IH.le.trans le47 hl59
  replace R39 := R39.mono hl59
  replace R42 := R42.mono hl59
  replace R45 := R45.mono hl59
  refine .not rfl rfl rfl ?_
  refine .nil' fun c w ho hs => Cod.at (E := [(1, _), (2, _), (3, _), (19, _)]) (ho.sub ⟨rfl, rfl, rfl, rfl, trivial⟩) hs ?_
  refine .cond rfl (fun hb65 => ?_) (fun hb65 => ?_)
  · have hd := hd.1 hb65
    refine .seq ?_
    refine .region ?_
    refine .skips 2 rfl ?_
    refine .nil' fun c w ho hs => Cod.at (E := [(6, _), (7, _)]) (ho.sub ⟨rfl, rfl, trivial⟩) hs ?_
    refine .drop .z ?_
    exact .ret (pret Tryz.results14 (.t rfl (.t rfl .n)) le64 ⟨(0, false), rfl, hd⟩)
  · have hd := hd.2 hb65
    refine .skip' fun c w ho hs => Cod.at (E := [(1, _), (2, _), (3, _)]) (ho.sub ⟨rfl, rfl, rfl, trivial⟩) hs ?_
    refine .seq ?_
    refine .region ?_
    refine .loadW Tryz.isAgg29 Tryz.sizeOf29 rfl .z rfl rfl rfl ?_
    refine .skips 1 rfl ?_
    have hw92 := W_csr_part (I := I58) R39 R42 R45 hd
    refine .call Tryz.call48 rfl hw92 rfl rfl fun v84 I81 hl82 hv83 => ?_
    obtain ⟨r80, p86, c87, p89, c90, rfl, R88, R91, hd⟩ := hv83
    have le93 := IH.le.trans le64 hl82
    replace R39 := R39.mono hl82
    replace R42 := R42.mono hl82
    replace R45 := R45.mono hl82
    refine .skips 1 rfl ?_
    refine .extract rfl rfl rfl rfl ?_
    refine .extract rfl rfl rfl rfl ?_
    refine .skips 2 rfl ?_
    refine .nil' fun c w ho hs => Cod.at (E := [(2, _), (8, _), (9, _)]) (ho.sub ⟨rfl, rfl, rfl, trivial⟩) hs ?_
    refine .drop .z ?_
    refine .seq ?_
    refine .region ?_
    refine .skips 2 rfl ?_
    have hw108 := W_slices_BinarySearch_int_int (I := I81) R88 hd
    refine .call Tryz.call49 rfl hw108 rfl rfl fun v106 I103 hl104 hv105 => ?_
    obtain ⟨r102, rfl, hd⟩ := hv105
    have le109 := IH.le.trans le93 hl104
    replace R88 := R88.mono hl104
    replace R91 := R91.mono hl104
    refine .skips 1 rfl ?_
    refine .extract rfl rfl rfl rfl ?_
    refine .extract rfl rfl rfl rfl ?_
    refine .skips 2 rfl ?_
    refine .nil' fun c w ho hs => Cod.at (E := [(9, _), (10, _), (11, _)]) (ho.sub ⟨rfl, rfl, rfl, trivial⟩) hs ?_
    refine .seq ?_
    refine .seq ?_
    refine .region ?_
    refine .skips 1 rfl ?_
    refine .not rfl rfl rfl ?_
    refine .nil' fun c w ho hs => Cod.at (E := [(9, _), (10, _), (33, _)]) (ho.sub ⟨rfl, rfl, rfl, trivial⟩) hs ?_
    refine .cond rfl (fun hb110 => ?_) (fun hb110 => ?_)
    · have hd := hd.1 hb110
      refine .seq ?_
      refine .region ?_
      refine .skips 2 rfl ?_
      refine .nil' fun c w ho hs => Cod.at (E := [(6, _), (7, _)]) (ho.sub ⟨rfl, rfl, trivial⟩) hs ?_
      exact .ret (pret Tryz.results14 (.t rfl (.t rfl .n)) le109 ⟨(0, false), rfl, hd⟩)
    · have hd := hd.2 hb110
      refine .skip' fun c w ho hs => Cod.at (E := [(9, _), (10, _)]) (ho.sub ⟨rfl, rfl, trivial⟩) hs ?_
      refine .seq ?_
      refine .region ?_
      refine .skips 2 rfl ?_
      obtain ⟨h111, x112, hx113, hd⟩ := hd
      obtain ⟨b114, o115, cs116, e117, hC118, hr119⟩ := R91.2 _ _ hx113
      cases hr119
      refine .ixa Tryz.underlying27 Tryz.sizeOf2 rfl e117 rfl h111 (idx_lt hx113 h111) rfl rfl ?_
      refine .ld1 (j := 0) Tryz.isAgg2 hC118 rfl rfl rfl rfl rfl ?_
      refine .skips 2 rfl ?_
      refine .nil' fun c w ho hs => Cod.at (E := [(6, _), (7, _)]) (ho.sub ⟨rfl, rfl, trivial⟩) hs ?_
      exact .ret (pret Tryz.results14 (.t rfl (.t rfl .n)) le109 ⟨(x112, true), rfl, hd⟩)

theorem W_csr_Count {I : IH} {a0 : Rows} {p1 : Option Addr} {c2 : Nat} {p4 : Option Addr} {c5 : Nat} {p7 : Option Addr} {c8 : Nat} {Q : Int → Prop} (R3 : RepSl eI64 I p1 c2 a0.Start) (R6 : RepSl eI64 I p4 c5 a0.Col) (R9 : RepSl eI64 I p7 c8 a0.Val) (hd : csr_Count a0 Q) :
    PFun Tryz.prog 18 [.agg #[.int .i64 a0.Rows, .int .i64 a0.Cols, .slice p1 a0.Start.length c2, .slice p4 a0.Col.length c5, .slice p7 a0.Val.length c8]] I (fun I_ v => ∃ r, v = .int .i64 r ∧ Q r) := by
  refine Fun.enter Tryz.func18 rfl Tryz.ntmps18 rfl (.c .n) fun w0 M => ?_
  refine .seq ?_
  refine .region ?_
  refine .boxA rfl rfl rfl fun b10 => ?_
  refine .skips 1 rfl ?_
  refine .nil' fun c w ho hs => Cod.at (E := [(1, _)]) (ho.sub ⟨rfl, trivial⟩) hs ?_
  refine .seq ?_
  refine .region ?_
  refine .loadW Tryz.isAgg29 Tryz.sizeOf29 rfl .z rfl rfl rfl ?_
  have hw27 := W_csr_sure (I := I) R3 R6 R9 hd
  refine .call Tryz.call47 rfl hw27 rfl rfl fun v16 I13 hl14 hv15 => ?_
  obtain ⟨r12, p18, c19, p21, c22, p24, c25, rfl, R20, R23, R26, hd⟩ := hv15
  have le28 := IH.le.trans (.refl _) hl14
  replace R3 := R3.mono hl14
  replace R6 := R6.mono hl14
  replace R9 := R9.mono hl14
  refine .field1 Tryz.underlying29 rfl Tryz.isAgg26 rfl rfl rfl rfl ?_
  refine .len Tryz.underlying26 rfl rfl rfl rfl ?_
  refine .skips 1 rfl ?_
  refine .nil' fun c w ho hs => Cod.at (E := [(2, _)]) (ho.sub ⟨rfl, trivial⟩) hs ?_
  refine .drop .z ?_
  exact .ret (pret Tryz.results18 (.t rfl .n) le28 ⟨(r12.Col.length : Int), rfl, hd⟩)

theorem W_csr_Row {I : IH} {a0 : Rows} {a1 : Int} {p1 : Option Addr} {c2 : Nat} {p4 : Option Addr} {c5 : Nat} {p7 : Option Addr} {c8 : Nat} {Q : (List Item) → Prop} (R3 : RepSl eI64 I p1 c2 a0.Start) (R6 : RepSl eI64 I p4 c5 a0.Col) (R9 : RepSl eI64 I p7 c8 a0.Val) (hd : csr_Row a0 a1 Q) :
    PFun Tryz.prog 21 [.agg #[.int .i64 a0.Rows, .int .i64 a0.Cols, .slice p1 a0.Start.length c2, .slice p4 a0.Col.length c5, .slice p7 a0.Val.length c8], .int .i64 a1] I (fun I_ v => ∃ r p10 c11, v = .slice p10 r.length c11 ∧ RepSl eItem I_ p10 c11 r ∧ Q r) := by
  refine Fun.enter Tryz.func21 rfl Tryz.ntmps21 rfl (.c (.c .n)) fun w0 M => ?_
  refine .seq ?_
  refine .region ?_
  refine .boxA rfl rfl rfl fun b15 => ?_
  refine .skips 1 rfl ?_
  refine .nil' fun c w ho hs => Cod.at (E := [(1, _), (2, _)]) (ho.sub ⟨rfl, rfl, trivial⟩) hs ?_
  refine .seq ?_
  refine .region ?_
  refine .loadW Tryz.isAgg29 Tryz.sizeOf29 rfl .z rfl rfl rfl ?_
  have hw49 := W_csr_sure (I := I) R3 R6 R9 hd
  refine .call Tryz.call47 rfl hw49 rfl rfl fun v38 I35 hl36 hv37 => ?_
  obtain ⟨r34, p40, c41, p43, c44, p46, c47, rfl, R42, R45, R48, hd⟩ := hv37
  have le50 := IH.le.trans (.refl _) hl36
  replace R3 := R3.mono hl36
  replace R6 := R6.mono hl36
  replace R9 := R9.mono hl36
  refine .storeA Tryz.sizeOf29 rfl rfl .z (.t (.t (.t (.t (.t .nil))))) rfl rfl ?_
  refine .nil' fun c w ho hs => Cod.at (E := [(1, _), (2, _)]) (ho.sub ⟨rfl, rfl, trivial⟩) hs ?_
  refine .seq ?_
  refine .seq ?_
  refine .region ?_
  refine .skips 1 rfl ?_
  refine .fieldAddr Tryz.underlying29 rfl Tryz.sizeOf3 rfl (o := 0) rfl rfl rfl ?_
  refine .load1 Tryz.isAgg3 rfl .z rfl rfl rfl ?_
  refine .sub' rfl rfl rfl rfl ?_
  have hw66 := W_csr_within (I := I35) hd
  refine .call Tryz.call38 rfl hw66 rfl rfl fun v64 I61 hl62 hv63 => ?_
  obtain ⟨r60, rfl, hd⟩ := hv63
  have le67 := IH.le.trans le50 hl62
  replace R42 := R42.mono hl62
  replace R45 := R45.mono hl62
  replace R48 := R48.mono hl62
  refine .not rfl rfl rfl ?_
  refine .nil' fun c w ho hs => Cod.at (E := [(1, _), (2, _), (17, _)]) (ho.sub ⟨rfl, rfl, rfl, trivial⟩) hs ?_
  refine .cond rfl (fun hb68 => ?_) (fun hb68 => ?_)
  · have hd := hd.1 hb68
    refine .seq ?_
    refine .region ?_
    refine .skips 1 rfl ?_
    refine .nil' fun c w ho hs => Cod.at (E := [(4, _)]) (ho.sub ⟨rfl, trivial⟩) hs ?_
    refine .drop .z ?_
    exact .ret (pret Tryz.results21 (.t rfl .n) le67 ⟨([] : List Item), _, _, rfl, (.nil _ _ _), hd⟩)
  · have hd := hd.2 hb68
    refine .skip' fun c w ho hs => Cod.at (E := [(1, _), (2, _)]) (ho.sub ⟨rfl, rfl, trivial⟩) hs ?_
    refine .seq ?_
    refine .region ?_
    refine .skips 1 rfl ?_
    refine .nil' fun c w ho hs => Cod.at (E := [(1, _), (2, _), (5, _)]) (ho.sub ⟨rfl, rfl, rfl, trivial⟩) hs ?_
    refine .seq ?_
    refine .region ?_
    refine .loadW Tryz.isAgg29 Tryz.sizeOf29 rfl .z rfl rfl rfl ?_
    refine .skips 1 rfl ?_
    have hw95 := W_csr_part (I := I61) R42 R45 R48 hd
    refine .call Tryz.call48 rfl hw95 rfl rfl fun v87 I84 hl85 hv86 => ?_
    obtain ⟨r83, p89, c90, p92, c93, rfl, R91, R94, hd⟩ := hv86
    have le96 := IH.le.trans le67 hl85
    replace R42 := R42.mono hl85
    replace R45 := R45.mono hl85
    replace R48 := R48.mono hl85
    refine .skips 1 rfl ?_
    refine .extract rfl rfl rfl rfl ?_
    refine .extract rfl rfl rfl rfl ?_
    refine .skips 2 rfl ?_
    refine .nil' fun c w ho hs => Cod.at (E := [(5, _), (6, _), (7, _)]) (ho.sub ⟨rfl, rfl, rfl, trivial⟩) hs ?_
    refine .drop .z ?_
    refine .seq ?_
    refine .seq ?_
    refine .region ?_
    refine .skips 1 rfl ?_
    refine .len Tryz.underlying26 rfl rfl rfl rfl ?_
    refine .skips 1 rfl ?_
    refine .nil' fun c w ho hs => Cod.at (E := [(5, _), (7, _), (24, _), (25, _), (26, _)]) (ho.sub ⟨rfl, rfl, rfl, rfl, rfl, trivial⟩) hs ?_
    refine .block ?_
    refine .own0 eItem 82 ?_
    refine .loop hd (fun (s : (List Item) × Int) c w => match s with | (s165, s169) => ∃ I_ p166 c167, IH.le I84 I_ ∧ Ok 42 [(5, .slice p166 s165.length c167), (7, .slice p92 r83.2.length c93), (24, .slice p89 r83.1.length c90), (25, .int .i64 (r83.1.length : Int)), (26, .int .i64 s169)] c ∧ Sym w0 M I I_ [OwnSl eItem 82 p166 c167 s165] w) (fun c w ho hs => ⟨I84, _, _, (.refl _), ho.sub ⟨rfl, rfl, rfl, rfl, rfl, trivial⟩, hs.pick (.c .z .n)⟩) ?_
    rintro ⟨s165, s169⟩ next171 hd c w hst
    obtain ⟨I172, p166, c167, hl173, hok, hsym⟩ := hst
    have le174 := IH.le.trans le96 hl173
    have le175 := IH.le.trans (.refl _) hl173
    replace R91 := R91.mono hl173
    replace R94 := R94.mono hl173
    refine Cod.at hok hsym ?_
    refine .seq ?_
    refine .region ?_
    refine .lt rfl rfl rfl rfl ?_
    refine .nil' fun c w ho hs => Cod.at (E := [(5, _), (7, _), (24, _), (25, _), (26, _), (27, _)]) (ho.sub ⟨rfl, rfl, rfl, rfl, rfl, rfl, trivial⟩) hs ?_
    refine .seq ?_
    refine .cond rfl (fun hb177 => ?_) (fun hb177 => ?_)
    · have hd := hd.1 hb177
      refine .skip' fun c w ho hs => Cod.at (E := [(5, _), (7, _), (24, _), (25, _), (26, _)]) (ho.sub ⟨rfl, rfl, rfl, rfl, rfl, trivial⟩) hs ?_
      refine .seq ?_
      refine .block ?_
      refine .seq ?_
      refine .region ?_
      refine .skips 1 rfl ?_
      obtain ⟨h178, x179, hx180, hd⟩ := hd
      obtain ⟨b181, o182, cs183, e184, hC185, hr186⟩ := R91.2 _ _ hx180
      cases hr186
      refine .ixa Tryz.underlying26 Tryz.sizeOf3 rfl e184 rfl h178 (idx_lt hx180 h178) rfl rfl ?_
      refine .ld1 (j := 0) Tryz.isAgg3 hC185 rfl rfl rfl rfl rfl ?_
      refine .skips 2 rfl ?_
      refine .nil' fun c w ho hs => Cod.at (E := [(5, _), (7, _), (24, _), (25, _), (26, _), (8, _), (9, _)]) (ho.sub ⟨rfl, rfl, rfl, rfl, rfl, rfl, rfl, trivial⟩) hs ?_
      refine .region ?_
      refine .skips 4 rfl ?_
      obtain ⟨h187, x188, hx189, hd⟩ := hd
      obtain ⟨b190, o191, cs192, e193, hC194, hr195⟩ := R94.2 _ _ hx189
      cases hr195
      refine .ixa Tryz.underlying27 Tryz.sizeOf2 rfl e193 rfl h187 (idx_lt hx189 h187) rfl rfl ?_
      refine .ld1 (j := 0) Tryz.isAgg2 hC194 rfl rfl rfl rfl rfl ?_
      refine .build Tryz.zeroValue82 Tryz.underlying82 BI82 (.c rfl rfl rfl (.t .nil) (.c rfl rfl rfl (.s (.t .nil)) .n)) (by exact ⟨⟨_, _, rfl, rfl, rfl⟩, ⟨⟨_, _, rfl, rfl, rfl⟩, trivial⟩⟩) rfl rfl ?_
      refine .buildSlice 1 Tryz.underlying41 Tryz.sizeOf82 Tryz.zeroValue82 rfl rfl (.c rfl rfl rfl .n) rfl rfl fun b196 => ?_
      obtain ⟨hl198, hd⟩ := hd
      refine .append (ys := [({ At := x179, Val := x188 } : Item)]) 16 (.s .z) Tryz.underlying41 Tryz.underlying41 IN82 rfl rfl rfl rfl rfl rfl rfl rfl rfl (.box .z (.one rfl) rfl) hl198 rfl rfl fun p199 c200 => ?_
      refine .sub (E' := [(7, _), (24, _), (25, _), (26, _), (8, _), (9, _), (31, _), (32, _), (33, _), (34, _), (35, _), (36, _), (37, _), (38, _), (39, _)]) ⟨rfl, rfl, rfl, rfl, rfl, rfl, rfl, rfl, rfl, rfl, rfl, rfl, rfl, rfl, rfl, trivial⟩ ?_
      refine .skips 1 rfl ?_
      refine .nil' fun c w ho hs => Cod.at (E := [(7, _), (24, _), (25, _), (26, _), (5, _)]) (ho.sub ⟨rfl, rfl, rfl, rfl, rfl, trivial⟩) hs ?_
      refine .drop (.s .z) ?_
      refine .region ?_
      refine .add rfl rfl rfl rfl ?_
      refine .sub (E' := [(7, _), (24, _), (25, _), (5, _), (40, _)]) ⟨rfl, rfl, rfl, rfl, rfl, trivial⟩ ?_
      refine .skips 1 rfl ?_
      exact .nil' fun c w ho hs => ⟨((s165 ++ ([({ At := x179, Val := x188 } : Item)])), w64 (s169 + 1)), hd, I172, _, _, le175, ho.sub ⟨rfl, rfl, rfl, rfl, rfl, trivial⟩, hs.pick (.c .z .n)⟩
    · have hd := hd.2 hb177
      refine .exit fun c w ho hs => Cod.at (E := [(5, _)]) (ho.sub ⟨rfl, trivial⟩) hs ?_
      refine .seq ?_
      refine .region ?_
      refine .skips 2 rfl ?_
      refine .nil' fun c w ho hs => Cod.at (E := [(4, _)]) (ho.sub ⟨rfl, trivial⟩) hs ?_
      refine .pub .z fun I202 hl203 R204 => ?_
      have le205 := IH.le.trans le174 hl203
      have le206 := IH.le.trans le175 hl203
      exact .ret (pret Tryz.results21 (.t rfl .n) le205 ⟨s165, _, _, rfl, R204, hd⟩)

theorem W_csr_Triples {I : IH} {a0 : Rows} {p1 : Option Addr} {c2 : Nat} {p4 : Option Addr} {c5 : Nat} {p7 : Option Addr} {c8 : Nat} {Q : (List Triple) → Prop} (R3 : RepSl eI64 I p1 c2 a0.Start) (R6 : RepSl eI64 I p4 c5 a0.Col) (R9 : RepSl eI64 I p7 c8 a0.Val) (hd : csr_Triples a0 Q) :
    OFun Tryz.prog 24 [.agg #[.int .i64 a0.Rows, .int .i64 a0.Cols, .slice p1 a0.Start.length c2, .slice p4 a0.Col.length c5, .slice p7 a0.Val.length c8]] I (fun I_ v l => ∃ r p10 c11, v = .slice p10 r.length c11 ∧ l = [OwnSl eTriple 60 p10 c11 r] ∧ Q r) := by
  refine Fun.enter Tryz.func24 rfl Tryz.ntmps24 rfl (.c .n) fun w0 M => ?_
  refine .seq ?_
  refine .region ?_
  refine .boxA rfl rfl rfl fun b15 => ?_
  refine .skips 1 rfl ?_
  refine .nil' fun c w ho hs => Cod.at (E := [(1, _)]) (ho.sub ⟨rfl, trivial⟩) hs ?_
  refine .seq ?_
  refine .region ?_
  refine .loadW Tryz.isAgg29 Tryz.sizeOf29 rfl .z rfl rfl rfl ?_
  have hw49 := W_csr_sure (I := I) R3 R6 R9 hd
  refine .call Tryz.call47 rfl hw49 rfl rfl fun v38 I35 hl36 hv37 => ?_
  obtain ⟨r34, p40, c41, p43, c44, p46, c47, rfl, R42, R45, R48, hd⟩ := hv37
  have le50 := IH.le.trans (.refl _) hl36
  replace R3 := R3.mono hl36
  replace R6 := R6.mono hl36
  replace R9 := R9.mono hl36
  refine .storeA Tryz.sizeOf29 rfl rfl .z (.t (.t (.t (.t (.t .nil))))) rfl rfl ?_
  refine .nil' fun c w ho hs => Cod.at (E := [(1, _)]) (ho.sub ⟨rfl, trivial⟩) hs ?_
  refine .seq ?_
  refine .region ?_
  refine .skips 1 rfl ?_
  refine .nil' fun c w ho hs => Cod.at (E := [(1, _), (3, _)]) (ho.sub ⟨rfl, rfl, trivial⟩) hs ?_
  refine .seq ?_
  refine .seq ?_
  refine .region ?_
  refine .fieldAddr Tryz.underlying29 rfl Tryz.sizeOf3 rfl (o := 0) rfl rfl rfl ?_
  refine .load1 Tryz.isAgg3 rfl .z rfl rfl rfl ?_
  refine .skips 1 rfl ?_
  refine .nil' fun c w ho hs => Cod.at (E := [(1, _), (3, _), (12, _), (13, _)]) (ho.sub ⟨rfl, rfl, rfl, rfl, trivial⟩) hs ?_
  refine .block ?_
  refine .own0 eTriple 60 ?_
  refine .loop hd (fun (s : (List Triple) × Int) c w => match s with | (s394, s398) => ∃ I_ p395 c396, IH.le I35 I_ ∧ Ok 42 [(1, .pointer (some ⟨b15, 0, none⟩)), (3, .slice p395 s394.length c396), (12, .int .i64 r34.Rows), (13, .int .i64 s398)] c ∧ Sym w0 M I I_ [pto b15 (.cells #[.int .i64 r34.Rows, .int .i64 r34.Cols, .slice p40 r34.Start.length c41, .slice p43 r34.Col.length c44, .slice p46 r34.Val.length c47] 29 (0, 0)), OwnSl eTriple 60 p395 c396 s394] w) (fun c w ho hs => ⟨I35, _, _, (.refl _), ho.sub ⟨rfl, rfl, rfl, rfl, trivial⟩, hs.pick (.c (.s .z) (.c .z .n))⟩) ?_
  rintro ⟨s394, s398⟩ next400 hd c w hst
  obtain ⟨I401, p395, c396, hl402, hok, hsym⟩ := hst
  have le403 := IH.le.trans le50 hl402
  have le404 := IH.le.trans (.refl _) hl402
  replace R42 := R42.mono hl402
  replace R45 := R45.mono hl402
  replace R48 := R48.mono hl402
  refine Cod.at hok hsym ?_
  refine .seq ?_
  refine .region ?_
  refine .lt rfl rfl rfl rfl ?_
  refine .nil' fun c w ho hs => Cod.at (E := [(1, _), (3, _), (12, _), (13, _), (14, _)]) (ho.sub ⟨rfl, rfl, rfl, rfl, rfl, trivial⟩) hs ?_
  refine .seq ?_
  refine .cond rfl (fun hb406 => ?_) (fun hb406 => ?_)
  · have hd := hd.1 hb406
    refine .skip' fun c w ho hs => Cod.at (E := [(1, _), (3, _), (12, _), (13, _)]) (ho.sub ⟨rfl, rfl, rfl, rfl, trivial⟩) hs ?_
    refine .seq ?_
    refine .block ?_
    refine .seq ?_
    refine .region ?_
    refine .skips 2 rfl ?_
    refine .nil' fun c w ho hs => Cod.at (E := [(1, _), (3, _), (12, _), (13, _), (4, _)]) (ho.sub ⟨rfl, rfl, rfl, rfl, rfl, trivial⟩) hs ?_
    refine .seq ?_
    refine .region ?_
    refine .loadW Tryz.isAgg29 Tryz.sizeOf29 rfl .z rfl rfl rfl ?_
    refine .skips 1 rfl ?_
    have hw434 := W_csr_part (I := I401) R42 R45 R48 hd
    refine .call Tryz.call48 rfl hw434 rfl rfl fun v426 I423 hl424 hv425 => ?_
    obtain ⟨r422, p428, c429, p431, c432, rfl, R430, R433, hd⟩ := hv425
    have le435 := IH.le.trans le403 hl424
    have le436 := IH.le.trans le404 hl424
    replace R42 := R42.mono hl424
    replace R45 := R45.mono hl424
    replace R48 := R48.mono hl424
    refine .skips 1 rfl ?_
    refine .extract rfl rfl rfl rfl ?_
    refine .extract rfl rfl rfl rfl ?_
    refine .skips 2 rfl ?_
    refine .nil' fun c w ho hs => Cod.at (E := [(1, _), (3, _), (12, _), (13, _), (4, _), (5, _), (6, _)]) (ho.sub ⟨rfl, rfl, rfl, rfl, rfl, rfl, rfl, trivial⟩) hs ?_
    refine .seq ?_
    refine .region ?_
    refine .skips 1 rfl ?_
    refine .len Tryz.underlying26 rfl rfl rfl rfl ?_
    refine .skips 1 rfl ?_
    refine .nil' fun c w ho hs => Cod.at (E := [(1, _), (3, _), (12, _), (13, _), (4, _), (6, _), (22, _), (23, _), (24, _)]) (ho.sub ⟨rfl, rfl, rfl, rfl, rfl, rfl, rfl, rfl, rfl, trivial⟩) hs ?_
    refine .block ?_
    refine .loop hd (fun (s : (List Triple) × Int) c w => match s with | (s522, s526) => ∃ I_ p523 c524, IH.le I423 I_ ∧ Ok 42 [(1, .pointer (some ⟨b15, 0, none⟩)), (3, .slice p523 s522.length c524), (4, .int .i64 s398), (6, .slice p431 r422.2.length c432), (12, .int .i64 r34.Rows), (13, .int .i64 s398), (22, .slice p428 r422.1.length c429), (23, .int .i64 (r422.1.length : Int)), (24, .int .i64 s526)] c ∧ Sym w0 M I I_ [pto b15 (.cells #[.int .i64 r34.Rows, .int .i64 r34.Cols, .slice p40 r34.Start.length c41, .slice p43 r34.Col.length c44, .slice p46 r34.Val.length c47] 29 (0, 0)), OwnSl eTriple 60 p523 c524 s522] w) (fun c w ho hs => ⟨I423, _, _, (.refl _), ho.sub ⟨rfl, rfl, rfl, rfl, rfl, rfl, rfl, rfl, rfl, trivial⟩, hs.pick (.c .z (.c .z .n))⟩) ?_
    rintro ⟨s522, s526⟩ next527 hd c w hst
    obtain ⟨I528, p523, c524, hl529, hok, hsym⟩ := hst
    have le530 := IH.le.trans le435 hl529
    have le531 := IH.le.trans le436 hl529
    have le532 := IH.le.trans (.refl _) hl529
    replace R42 := R42.mono hl529
    replace R45 := R45.mono hl529
    replace R48 := R48.mono hl529
    replace R430 := R430.mono hl529
    replace R433 := R433.mono hl529
    refine Cod.at hok hsym ?_
    refine .seq ?_
    refine .region ?_
    refine .lt rfl rfl rfl rfl ?_
    refine .nil' fun c w ho hs => Cod.at (E := [(1, _), (3, _), (4, _), (6, _), (12, _), (13, _), (22, _), (23, _), (24, _), (25, _)]) (ho.sub ⟨rfl, rfl, rfl, rfl, rfl, rfl, rfl, rfl, rfl, rfl, trivial⟩) hs ?_
    refine .seq ?_
    refine .cond rfl (fun hb534 => ?_) (fun hb534 => ?_)
    · have hd := hd.1 hb534
      refine .skip' fun c w ho hs => Cod.at (E := [(1, _), (3, _), (4, _), (6, _), (12, _), (13, _), (22, _), (23, _), (24, _)]) (ho.sub ⟨rfl, rfl, rfl, rfl, rfl, rfl, rfl, rfl, rfl, trivial⟩) hs ?_
      refine .seq ?_
      refine .block ?_
      refine .seq ?_
      refine .region ?_
      refine .skips 1 rfl ?_
      obtain ⟨h544, x545, hx546, hd⟩ := hd
      obtain ⟨b547, o548, cs549, e550, hC551, hr552⟩ := R430.2 _ _ hx546
      cases hr552
      refine .ixa Tryz.underlying26 Tryz.sizeOf3 rfl e550 rfl h544 (idx_lt hx546 h544) rfl rfl ?_
      refine .ld1 (j := 0) Tryz.isAgg3 hC551 rfl rfl rfl rfl rfl ?_
      refine .skips 2 rfl ?_
      refine .nil' fun c w ho hs => Cod.at (E := [(1, _), (3, _), (4, _), (6, _), (12, _), (13, _), (22, _), (23, _), (24, _), (7, _), (8, _)]) (ho.sub ⟨rfl, rfl, rfl, rfl, rfl, rfl, rfl, rfl, rfl, rfl, rfl, trivial⟩) hs ?_
      refine .region ?_
      refine .skips 5 rfl ?_
      obtain ⟨h553, x554, hx555, hd⟩ := hd
      obtain ⟨b556, o557, cs558, e559, hC560, hr561⟩ := R433.2 _ _ hx555
      cases hr561
      refine .ixa Tryz.underlying27 Tryz.sizeOf2 rfl e559 rfl h553 (idx_lt hx555 h553) rfl rfl ?_
      refine .ld1 (j := 0) Tryz.isAgg2 hC560 rfl rfl rfl rfl rfl ?_
      refine .build Tryz.zeroValue60 Tryz.underlying60 BI60 (.c rfl rfl rfl (.t .nil) (.c rfl rfl rfl (.s (.t .nil)) (.c rfl rfl rfl (.s (.s (.t .nil))) .n))) (by exact ⟨⟨_, _, rfl, rfl, rfl⟩, ⟨⟨_, _, rfl, rfl, rfl⟩, ⟨⟨_, _, rfl, rfl, rfl⟩, trivial⟩⟩⟩) rfl rfl ?_
      refine .buildSlice 1 Tryz.underlying24 Tryz.sizeOf60 Tryz.zeroValue60 rfl rfl (.c rfl rfl rfl .n) rfl rfl fun b562 => ?_
      obtain ⟨hl564, hd⟩ := hd
      refine .append (ys := [({ Row := s398, Col := x545, Val := x554 } : Triple)]) 24 (.s (.s .z)) Tryz.underlying24 Tryz.underlying24 IN60 rfl rfl rfl rfl rfl rfl rfl rfl rfl (.box .z (.one rfl) rfl) hl564 rfl rfl fun p565 c566 => ?_
      refine .sub (E' := [(1, _), (4, _), (6, _), (12, _), (13, _), (22, _), (23, _), (24, _), (7, _), (8, _), (29, _), (30, _), (31, _), (32, _), (33, _), (34, _), (35, _), (36, _), (37, _), (38, _)]) ⟨rfl, rfl, rfl, rfl, rfl, rfl, rfl, rfl, rfl, rfl, rfl, rfl, rfl, rfl, rfl, rfl, rfl, rfl, rfl, rfl, trivial⟩ ?_
      refine .skips 1 rfl ?_
      refine .nil' fun c w ho hs => Cod.at (E := [(1, _), (4, _), (6, _), (12, _), (13, _), (22, _), (23, _), (24, _), (3, _)]) (ho.sub ⟨rfl, rfl, rfl, rfl, rfl, rfl, rfl, rfl, rfl, trivial⟩) hs ?_
      refine .drop (.s .z) ?_
      refine .region ?_
      refine .add rfl rfl rfl rfl ?_
      refine .sub (E' := [(1, _), (4, _), (6, _), (12, _), (13, _), (22, _), (23, _), (3, _), (39, _)]) ⟨rfl, rfl, rfl, rfl, rfl, rfl, rfl, rfl, rfl, trivial⟩ ?_
      refine .skips 1 rfl ?_
      exact .nil' fun c w ho hs => ⟨((s522 ++ ([({ Row := s398, Col := x545, Val := x554 } : Triple)])), w64 (s526 + 1)), hd, I528, _, _, le532, ho.sub ⟨rfl, rfl, rfl, rfl, rfl, rfl, rfl, rfl, rfl, trivial⟩, hs.pick (.c (.s .z) (.c .z .n))⟩
    · have hd := hd.2 hb534
      refine .exit fun c w ho hs => Cod.at (E := [(1, _), (3, _), (12, _), (13, _)]) (ho.sub ⟨rfl, rfl, rfl, rfl, trivial⟩) hs ?_
      refine .region ?_
      refine .add rfl rfl rfl rfl ?_
      refine .sub (E' := [(1, _), (3, _), (12, _), (40, _)]) ⟨rfl, rfl, rfl, rfl, trivial⟩ ?_
      refine .skips 1 rfl ?_
      exact .nil' fun c w ho hs => ⟨(s522, w64 (s398 + 1)), hd, I528, _, _, le531, ho.sub ⟨rfl, rfl, rfl, rfl, trivial⟩, hs.pick (.c .z (.c .z .n))⟩
  · have hd := hd.2 hb406
    refine .exit fun c w ho hs => Cod.at (E := [(3, _)]) (ho.sub ⟨rfl, trivial⟩) hs ?_
    refine .drop .z ?_
    refine .seq ?_
    refine .region ?_
    refine .skips 2 rfl ?_
    refine .nil' fun c w ho hs => Cod.at (E := [(2, _)]) (ho.sub ⟨rfl, trivial⟩) hs ?_
    exact .ret (oret Tryz.results24 (.t rfl .n) le403 (.c .z .n) ⟨s394, _, _, rfl, rfl, hd⟩)

theorem W_csr_Turn {I : IH} {a0 : Rows} {p1 : Option Addr} {c2 : Nat} {p4 : Option Addr} {c5 : Nat} {p7 : Option Addr} {c8 : Nat} {Q : Rows → Prop} (R3 : RepSl eI64 I p1 c2 a0.Start) (R6 : RepSl eI64 I p4 c5 a0.Col) (R9 : RepSl eI64 I p7 c8 a0.Val) (hd : csr_Turn a0 Q) :
    PFun Tryz.prog 26 [.agg #[.int .i64 a0.Rows, .int .i64 a0.Cols, .slice p1 a0.Start.length c2, .slice p4 a0.Col.length c5, .slice p7 a0.Val.length c8]] I (fun I_ v => ∃ r p10 c11 p13 c14 p16 c17, v = .agg #[.int .i64 r.Rows, .int .i64 r.Cols, .slice p10 r.Start.length c11, .slice p13 r.Col.length c14, .slice p16 r.Val.length c17] ∧ RepSl eI64 I_ p10 c11 r.Start ∧ RepSl eI64 I_ p13 c14 r.Col ∧ RepSl eI64 I_ p16 c17 r.Val ∧ Q r) := by
  refine Fun.enter Tryz.func26 rfl Tryz.ntmps26 rfl (.c .n) fun w0 M => ?_
  refine .seq ?_
  refine .region ?_
  refine .boxA rfl rfl rfl fun b23 => ?_
  refine .allocA Tryz.zeroValue29 rfl rfl fun b25 => ?_
  refine .nil' fun c w ho hs => Cod.at (E := [(1, _), (2, _)]) (ho.sub ⟨rfl, rfl, trivial⟩) hs ?_
  refine .seq ?_
  refine .region ?_
  refine .loadW Tryz.isAgg29 Tryz.sizeOf29 rfl (.s .z) rfl rfl rfl ?_
  have hw59 := W_csr_sure (I := I) R3 R6 R9 hd
  refine .call Tryz.call47 rfl hw59 rfl rfl fun v48 I45 hl46 hv47 => ?_
  obtain ⟨r44, p50, c51, p53, c54, p56, c57, rfl, R52, R55, R58, hd⟩ := hv47
  have le60 := IH.le.trans (.refl _) hl46
  replace R3 := R3.mono hl46
  replace R6 := R6.mono hl46
  replace R9 := R9.mono hl46
  refine .storeA Tryz.sizeOf29 rfl rfl (.s .z) (.t (.t (.t (.t (.t .nil))))) rfl rfl ?_
  refine .nil' fun c w ho hs => Cod.at (E := [(1, _), (2, _)]) (ho.sub ⟨rfl, rfl, trivial⟩) hs ?_
  refine .seq ?_
  refine .region ?_
  refine .loadW Tryz.isAgg29 Tryz.sizeOf29 rfl (.s .z) rfl rfl rfl ?_
  have hw83 := W_csr_Triples (I := I45) R52 R55 R58 hd
  refine .callO Tryz.call24 rfl hw83 rfl rfl fun v77 I74 l78 hl75 hv76 => ?_
  obtain ⟨r73, p79, c80, rfl, rfl, hd⟩ := hv76
  have le84 := IH.le.trans le60 hl75
  replace R52 := R52.mono hl75
  replace R55 := R55.mono hl75
  replace R58 := R58.mono hl75
  refine .skips 1 rfl ?_
  refine .nil' fun c w ho hs => Cod.at (E := [(1, _), (2, _), (3, _)]) (ho.sub ⟨rfl, rfl, rfl, trivial⟩) hs ?_
  refine .seq ?_
  refine .seq ?_
  refine .region ?_
  refine .skips 1 rfl ?_
  refine .len Tryz.underlying24 rfl rfl rfl rfl ?_
  refine .skips 1 rfl ?_
  refine .nil' fun c w ho hs => Cod.at (E := [(1, _), (2, _), (3, _), (10, _), (11, _), (12, _)]) (ho.sub ⟨rfl, rfl, rfl, rfl, rfl, rfl, trivial⟩) hs ?_
  refine .block ?_
  refine .loop hd (fun (s : (List Triple) × Int) c w => match s with | (s227, s232) => ∃ I_ p228 c229, IH.le I74 I_ ∧ Ok 36 [(1, .pointer (some ⟨b23, 0, none⟩)), (2, .pointer (some ⟨b25, 0, none⟩)), (3, .slice p228 s227.length c229), (10, .slice p228 s227.length c229), (11, .int .i64 (r73.length : Int)), (12, .int .i64 s232)] c ∧ Sym w0 M I I_ [pto b23 (.cells #[.int .i64 r44.Rows, .int .i64 r44.Cols, .slice p50 r44.Start.length c51, .slice p53 r44.Col.length c54, .slice p56 r44.Val.length c57] 29 (0, 0)), pto b25 (.cells #[.int .i64 0, .int .i64 0, .slice none 0 0, .slice none 0 0, .slice none 0 0] 29 (0, 0)), OwnSl eTriple 60 p228 c229 s227] w) (fun c w ho hs => ⟨I74, _, _, (.refl _), ho.sub ⟨rfl, rfl, rfl, rfl, rfl, rfl, trivial⟩, hs.pick (.c (.s (.s .z)) (.c (.s .z) (.c .z .n)))⟩) ?_
  rintro ⟨s227, s232⟩ next233 hd c w hst
  obtain ⟨I234, p228, c229, hl235, hok, hsym⟩ := hst
  have le236 := IH.le.trans le84 hl235
  have le237 := IH.le.trans (.refl _) hl235
  replace R52 := R52.mono hl235
  replace R55 := R55.mono hl235
  replace R58 := R58.mono hl235
  refine Cod.at hok hsym ?_
  refine .seq ?_
  refine .region ?_
  refine .lt rfl rfl rfl rfl ?_
  refine .nil' fun c w ho hs => Cod.at (E := [(1, _), (2, _), (3, _), (10, _), (11, _), (12, _), (13, _)]) (ho.sub ⟨rfl, rfl, rfl, rfl, rfl, rfl, rfl, trivial⟩) hs ?_
  refine .seq ?_
  refine .cond rfl (fun hb239 => ?_) (fun hb239 => ?_)
  · have hd := hd.1 hb239
    refine .skip' fun c w ho hs => Cod.at (E := [(1, _), (2, _), (3, _), (10, _), (11, _), (12, _)]) (ho.sub ⟨rfl, rfl, rfl, rfl, rfl, rfl, trivial⟩) hs ?_
    refine .seq ?_
    refine .block ?_
    refine .seq ?_
    refine .region ?_
    refine .skips 1 rfl ?_
    obtain ⟨h247, x248, hx249, hd⟩ := hd
    refine .ownNe (.s (.s .z)) (idx_ne hx249) fun b250 e251 => ?_
    cases e251
    refine .ixa0 Tryz.underlying24 Tryz.sizeOf60 rfl rfl h247 (idx_lt hx249 h247) rfl rfl ?_
    refine .loA (j := 0) Tryz.isAgg60 Tryz.sizeOf60 (.s (.s .z)) hx249 rfl rfl (.t (.t (.t .nil))) rfl rfl rfl ?_
    refine .allocA Tryz.zeroValue60 rfl rfl fun b252 => ?_
    refine .skips 1 rfl ?_
    refine .storeA Tryz.sizeOf60 rfl rfl .z (.t (.t (.t .nil))) rfl rfl ?_
    refine .nil' fun c w ho hs => Cod.at (E := [(1, _), (2, _), (3, _), (10, _), (11, _), (12, _), (5, _), (4, _)]) (ho.sub ⟨rfl, rfl, rfl, rfl, rfl, rfl, rfl, rfl, trivial⟩) hs ?_
    refine .region ?_
    refine .skips 2 rfl ?_
    refine .fieldAddr Tryz.underlying60 rfl Tryz.sizeOf3 rfl (o := 1) rfl rfl rfl ?_
    refine .load1 Tryz.isAgg3 rfl .z rfl rfl rfl ?_
    refine .fieldAddr Tryz.underlying60 rfl Tryz.sizeOf3 rfl (o := 0) rfl rfl rfl ?_
    refine .load1 Tryz.isAgg3 rfl .z rfl rfl rfl ?_
    refine .fieldAddr Tryz.underlying60 rfl Tryz.sizeOf2 rfl (o := 2) rfl rfl rfl ?_
    refine .load1 Tryz.isAgg2 rfl .z rfl rfl rfl ?_
    refine .build Tryz.zeroValue60 Tryz.underlying60 BI60 (.c rfl rfl rfl (.t .nil) (.c rfl rfl rfl (.s (.t .nil)) (.c rfl rfl rfl (.s (.s (.t .nil))) .n))) (by exact ⟨⟨_, _, rfl, rfl, rfl⟩, ⟨⟨_, _, rfl, rfl, rfl⟩, ⟨⟨_, _, rfl, rfl, rfl⟩, trivial⟩⟩⟩) rfl rfl ?_
    obtain ⟨h254, x255, hx256, hd⟩ := hd
    refine .ixa0 Tryz.underlying24 Tryz.sizeOf60 rfl rfl h254 (idx_lt hx256 h254) rfl rfl ?_
    refine .stOA (j := 0) (v' := ({ Row := x248.Col, Col := x248.Row, Val := x248.Val } : Triple)) Tryz.sizeOf60 (.s (.s (.s .z))) hx256 rfl rfl rfl (.t (.t (.t .nil))) rfl rfl ?_
    refine .sub (E' := [(1, _), (2, _), (3, .slice (some ⟨b250, 0, none⟩) (s227.set s232.toNat ({ Row := x248.Col, Col := x248.Row, Val := x248.Val } : Triple)).length c229), (10, .slice (some ⟨b250, 0, none⟩) (s227.set s232.toNat ({ Row := x248.Col, Col := x248.Row, Val := x248.Val } : Triple)).length c229), (11, _), (12, _), (5, _), (4, _), (17, .slice (some ⟨b250, 0, none⟩) (s227.set s232.toNat ({ Row := x248.Col, Col := x248.Row, Val := x248.Val } : Triple)).length c229), (18, _), (19, _), (20, _), (21, _), (22, _), (23, _), (24, _), (25, _), (26, _)]) ⟨rfl, rfl, (by simp only [List.length_set]; rfl), (by simp only [List.length_set]; rfl), rfl, rfl, rfl, rfl, (by simp only [List.length_set]; rfl), rfl, rfl, rfl, rfl, rfl, rfl, rfl, rfl, rfl, trivial⟩ ?_
    refine .nil' fun c w ho hs => Cod.at (E := [(1, _), (2, _), (3, _), (10, _), (11, _), (12, _)]) (ho.sub ⟨rfl, rfl, rfl, rfl, rfl, rfl, trivial⟩) hs ?_
    refine .drop .z ?_
    refine .region ?_
    refine .add rfl rfl rfl rfl ?_
    refine .sub (E' := [(1, _), (2, _), (3, _), (10, _), (11, _), (27, _)]) ⟨rfl, rfl, rfl, rfl, rfl, rfl, trivial⟩ ?_
    refine .skips 1 rfl ?_
    exact .nil' fun c w ho hs => ⟨((s227.set s232.toNat ({ Row := x248.Col, Col := x248.Row, Val := x248.Val } : Triple)), w64 (s232 + 1)), hd, I234, _, _, le237, ho.sub ⟨rfl, rfl, rfl, rfl, rfl, rfl, trivial⟩, hs.pick (.c .z (.c .z (.c .z .n)))⟩
  · have hd := hd.2 hb239
    refine .exit fun c w ho hs => Cod.at (E := [(1, _), (2, _), (3, _)]) (ho.sub ⟨rfl, rfl, rfl, trivial⟩) hs ?_
    refine .seq ?_
    refine .region ?_
    refine .skips 1 rfl ?_
    have hw257 := Fun.sort (hk := fun _ => ⟨rfl, rfl⟩) SL53 Tryz.isAgg60 Tryz.sizeOf60 (fun x y J Q hq => W_csr_order (I := J) (a0 := x) (a1 := y) (Q := Q) hq) Tryz.call54 (I := I234) (T := 60) (a := p228) (cap := c229) hd
    refine .callS (.f Tryz.call53 rfl) (.c (.s (.s .z)) .n) hw257 rfl rfl fun v258 I259 l260 hl261 hv262 => ?_
    obtain ⟨y263, rfl, hlen264, rfl, hd⟩ := hv262
    have le265 := IH.le.trans le236 hl261
    have le266 := IH.le.trans le237 hl261
    replace R52 := R52.mono hl261
    replace R55 := R55.mono hl261
    replace R58 := R58.mono hl261
    refine .sub (E' := [(1, _), (2, _), (3, .slice p228 y263.length c229), (28, .slice p228 y263.length c229), (29, _)]) ⟨rfl, rfl, (by rw [hlen264]; rfl), (by rw [hlen264]; rfl), rfl, trivial⟩ ?_
    refine .nil' fun c w ho hs => Cod.at (E := [(1, _), (2, _), (3, _)]) (ho.sub ⟨rfl, rfl, rfl, trivial⟩) hs ?_
    refine .seq ?_
    refine .region ?_
    refine .fieldAddr Tryz.underlying29 rfl Tryz.sizeOf3 rfl (o := 1) rfl rfl rfl ?_
    refine .load1 Tryz.isAgg3 rfl (.s .z) rfl rfl rfl ?_
    refine .fieldAddr Tryz.underlying29 rfl Tryz.sizeOf3 rfl (o := 0) rfl rfl rfl ?_
    refine .load1 Tryz.isAgg3 rfl (.s .z) rfl rfl rfl ?_
    refine .skips 1 rfl ?_
    refine .pub .z fun I267 hl268 R269 => ?_
    have le270 := IH.le.trans le265 hl268
    have le271 := IH.le.trans le266 hl268
    replace R52 := R52.mono hl268
    replace R55 := R55.mono hl268
    replace R58 := R58.mono hl268
    have hw287 := W_csr_built (I := I267) R269 hd
    refine .call Tryz.call42 rfl hw287 rfl rfl fun v276 I273 hl274 hv275 => ?_
    obtain ⟨r272, p278, c279, p281, c282, p284, c285, rfl, R280, R283, R286, hd⟩ := hv275
    have le288 := IH.le.trans le270 hl274
    have le289 := IH.le.trans le271 hl274
    replace R52 := R52.mono hl274
    replace R55 := R55.mono hl274
    replace R58 := R58.mono hl274
    replace R269 := R269.mono hl274
    refine .storeA Tryz.sizeOf29 rfl rfl (.s .z) (.t (.t (.t (.t (.t .nil))))) rfl rfl ?_
    refine .nil' fun c w ho hs => Cod.at (E := [(2, _)]) (ho.sub ⟨rfl, trivial⟩) hs ?_
    refine .drop .z ?_
    exact .ret (pret Tryz.results26 (.w Tryz.isAgg29 Tryz.sizeOf29 rfl .z rfl .n) le288 ⟨r272, _, _, _, _, _, _, rfl, R280, R283, R286, hd⟩)

end Go.Proofs.YtindbiojednfbaaGreat
