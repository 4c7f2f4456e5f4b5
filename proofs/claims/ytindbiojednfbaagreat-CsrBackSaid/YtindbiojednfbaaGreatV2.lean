/- The walks (printed by a program of ours). -/
import Derived.Test.YtindbiojednfbaaGreatV1
namespace Go.Proofs.YtindbiojednfbaaGreat
open Go Go.Fw
set_option linter.unusedVariables false
set_option linter.unusedSimpArgs false
set_option maxRecDepth 8000
set_option maxHeartbeats 1000000
theorem W_csr_bounds {I : IH} {a0 : Int × Int} {a1 : Int}  {Q : (Int × Int) → Prop}  (hd : csr_bounds a0 a1 Q) :
    PFun Tryz.prog 55 [.agg #[.int .i64 a0.1, .int .i64 a0.2], .int .i64 a1] I (fun I_ v => ∃ r, v = .tuple #[.int .i64 r.1, .int .i64 r.2] ∧ Q r) := by
  refine Fun.enter Tryz.func55 rfl Tryz.ntmps55 rfl (.c (.c .n)) fun w0 M => ?_
  refine .seq ?_
  refine .region ?_
  refine .boxA rfl rfl rfl fun b3 => ?_
  refine .skips 2 rfl ?_
  refine .nil' fun c w ho hs => Cod.at (E := [(1, _), (2, _)]) (ho.sub ⟨rfl, rfl, trivial⟩) hs ?_
  refine .seq ?_
  refine .region ?_
  refine .ixArr (i := 0) Tryz.underlying23 Tryz.sizeOf3 rfl rfl (by decide) (o := 0) rfl rfl rfl ?_
  refine .load1 Tryz.isAgg3 rfl .z rfl rfl rfl ?_
  refine .maxI rfl rfl rfl rfl ?_
  refine .skips 1 rfl ?_
  refine .nil' fun c w ho hs => Cod.at (E := [(1, _), (2, _), (6, _)]) (ho.sub ⟨rfl, rfl, rfl, trivial⟩) hs ?_
  refine .seq ?_
  refine .region ?_
  refine .ixArr (i := 1) Tryz.underlying23 Tryz.sizeOf3 rfl rfl (by decide) (o := 1) rfl rfl rfl ?_
  refine .load1 Tryz.isAgg3 rfl .z rfl rfl rfl ?_
  refine .skips 1 rfl ?_
  refine .minI rfl rfl rfl rfl ?_
  refine .skips 1 rfl ?_
  refine .nil' fun c w ho hs => Cod.at (E := [(6, _), (7, _)]) (ho.sub ⟨rfl, rfl, trivial⟩) hs ?_
  refine .drop .z ?_
  refine .seq ?_
  refine .seq ?_
  refine .region ?_
  refine .skips 2 rfl ?_
  refine .le' rfl rfl rfl rfl ?_
  refine .nil' fun c w ho hs => Cod.at (E := [(6, _), (7, _), (17, _)]) (ho.sub ⟨rfl, rfl, rfl, trivial⟩) hs ?_
  refine .cond rfl (fun hb5 => ?_) (fun hb5 => ?_)
  · have hd := hd.1 hb5
    refine .seq ?_
    refine .region ?_
    refine .skips 3 rfl ?_
    refine .nil' fun c w ho hs => Cod.at (E := [(4, _), (5, _)]) (ho.sub ⟨rfl, rfl, trivial⟩) hs ?_
    exact .ret (pret Tryz.results55 (.t rfl (.t rfl .n)) (.refl _) ⟨((if 0 > a0.1 then 0 else a0.1), 0), rfl, hd⟩)
  · have hd := hd.2 hb5
    refine .skip' fun c w ho hs => Cod.at (E := [(6, _), (7, _)]) (ho.sub ⟨rfl, rfl, trivial⟩) hs ?_
    refine .seq ?_
    refine .region ?_
    refine .skips 3 rfl ?_
    refine .sub' rfl rfl rfl rfl ?_
    refine .skips 2 rfl ?_
    refine .nil' fun c w ho hs => Cod.at (E := [(4, _), (5, _)]) (ho.sub ⟨rfl, rfl, trivial⟩) hs ?_
    exact .ret (pret Tryz.results55 (.t rfl (.t rfl .n)) (.refl _) ⟨((if 0 > a0.1 then 0 else a0.1), w64 ((if a1 < a0.2 then a1 else a0.2) - (if 0 > a0.1 then 0 else a0.1))), rfl, hd⟩)

theorem W_csr_Cut {I : IH} {a0 : Rows} {a1 : Int × Int} {a2 : Int × Int} {p1 : Option Addr} {c2 : Nat} {p4 : Option Addr} {c5 : Nat} {p7 : Option Addr} {c8 : Nat} {Q : Rows → Prop} (R3 : RepSl eI64 I p1 c2 a0.Start) (R6 : RepSl eI64 I p4 c5 a0.Col) (R9 : RepSl eI64 I p7 c8 a0.Val) (hd : csr_Cut a0 a1 a2 Q) :
    PFun Tryz.prog 28 [.agg #[.int .i64 a0.Rows, .int .i64 a0.Cols, .slice p1 a0.Start.length c2, .slice p4 a0.Col.length c5, .slice p7 a0.Val.length c8], .agg #[.int .i64 a1.1, .int .i64 a1.2], .agg #[.int .i64 a2.1, .int .i64 a2.2]] I (fun I_ v => ∃ r p10 c11 p13 c14 p16 c17, v = .agg #[.int .i64 r.Rows, .int .i64 r.Cols, .slice p10 r.Start.length c11, .slice p13 r.Col.length c14, .slice p16 r.Val.length c17] ∧ RepSl eI64 I_ p10 c11 r.Start ∧ RepSl eI64 I_ p13 c14 r.Col ∧ RepSl eI64 I_ p16 c17 r.Val ∧ Q r) := by
  refine Fun.enter Tryz.func28 rfl Tryz.ntmps28 rfl (.c (.c (.c .n))) fun w0 M => ?_
  refine .seq ?_
  refine .region ?_
  refine .boxA rfl rfl rfl fun b27 => ?_
  refine .boxA rfl rfl rfl fun b29 => ?_
  refine .boxA rfl rfl rfl fun b31 => ?_
  refine .allocA Tryz.zeroValue29 rfl rfl fun b33 => ?_
  refine .nil' fun c w ho hs => Cod.at (E := [(3, _), (4, _), (5, _), (6, _)]) (ho.sub ⟨rfl, rfl, rfl, rfl, trivial⟩) hs ?_
  refine .seq ?_
  refine .region ?_
  refine .loadW Tryz.isAgg29 Tryz.sizeOf29 rfl (.s (.s (.s .z))) rfl rfl rfl ?_
  have hw67 := W_csr_sure (I := I) R3 R6 R9 hd
  refine .call Tryz.call47 rfl hw67 rfl rfl fun v56 I53 hl54 hv55 => ?_
  obtain ⟨r52, p58, c59, p61, c62, p64, c65, rfl, R60, R63, R66, hd⟩ := hv55
  have le68 := IH.le.trans (.refl _) hl54
  replace R3 := R3.mono hl54
  replace R6 := R6.mono hl54
  replace R9 := R9.mono hl54
  refine .storeA Tryz.sizeOf29 rfl rfl (.s (.s (.s .z))) (.t (.t (.t (.t (.t .nil))))) rfl rfl ?_
  refine .nil' fun c w ho hs => Cod.at (E := [(3, _), (4, _), (5, _), (6, _)]) (ho.sub ⟨rfl, rfl, rfl, rfl, trivial⟩) hs ?_
  refine .seq ?_
  refine .region ?_
  refine .loadW Tryz.isAgg23 Tryz.sizeOf23 rfl (.s (.s .z)) rfl rfl rfl ?_
  refine .fieldAddr Tryz.underlying29 rfl Tryz.sizeOf3 rfl (o := 0) rfl rfl rfl ?_
  refine .load1 Tryz.isAgg3 rfl (.s (.s (.s .z))) rfl rfl rfl ?_
  have hw83 := W_csr_bounds (I := I53) hd
  refine .call Tryz.call55 rfl hw83 rfl rfl fun v81 I78 hl79 hv80 => ?_
  obtain ⟨r77, rfl, hd⟩ := hv80
  have le84 := IH.le.trans le68 hl79
  replace R60 := R60.mono hl79
  replace R63 := R63.mono hl79
  replace R66 := R66.mono hl79
  refine .skips 1 rfl ?_
  refine .extract rfl rfl rfl rfl ?_
  refine .extract rfl rfl rfl rfl ?_
  refine .skips 2 rfl ?_
  refine .nil' fun c w ho hs => Cod.at (E := [(3, _), (5, _), (6, _), (7, _), (8, _)]) (ho.sub ⟨rfl, rfl, rfl, rfl, rfl, trivial⟩) hs ?_
  refine .drop (.s (.s .z)) ?_
  refine .seq ?_
  refine .region ?_
  refine .loadW Tryz.isAgg23 Tryz.sizeOf23 rfl (.s .z) rfl rfl rfl ?_
  refine .fieldAddr Tryz.underlying29 rfl Tryz.sizeOf3 rfl (o := 1) rfl rfl rfl ?_
  refine .load1 Tryz.isAgg3 rfl (.s (.s .z)) rfl rfl rfl ?_
  have hw99 := W_csr_bounds (I := I78) hd
  refine .call Tryz.call55 rfl hw99 rfl rfl fun v97 I94 hl95 hv96 => ?_
  obtain ⟨r93, rfl, hd⟩ := hv96
  have le100 := IH.le.trans le84 hl95
  replace R60 := R60.mono hl95
  replace R63 := R63.mono hl95
  replace R66 := R66.mono hl95
  refine .skips 1 rfl ?_
  refine .extract rfl rfl rfl rfl ?_
  refine .extract rfl rfl rfl rfl ?_
  refine .skips 2 rfl ?_
  refine .nil' fun c w ho hs => Cod.at (E := [(3, _), (6, _), (7, _), (8, _), (9, _), (10, _)]) (ho.sub ⟨rfl, rfl, rfl, rfl, rfl, rfl, trivial⟩) hs ?_
  refine .drop (.s .z) ?_
  refine .seq ?_
  refine .region ?_
  refine .skips 1 rfl ?_
  refine .nil' fun c w ho hs => Cod.at (E := [(3, _), (6, _), (7, _), (8, _), (9, _), (10, _), (11, _)]) (ho.sub ⟨rfl, rfl, rfl, rfl, rfl, rfl, rfl, trivial⟩) hs ?_
  refine .seq ?_
  refine .seq ?_
  refine .region ?_
  refine .skips 2 rfl ?_
  refine .nil' fun c w ho hs => Cod.at (E := [(3, _), (6, _), (7, _), (8, _), (9, _), (10, _), (11, _), (31, _), (32, _)]) (ho.sub ⟨rfl, rfl, rfl, rfl, rfl, rfl, rfl, rfl, rfl, trivial⟩) hs ?_
  refine .block ?_
  refine .own0 eTriple 60 ?_
  refine .loop hd (fun (s : (List Triple) × Int) c w => match s with | (s470, s474) => ∃ I_ p471 c472, IH.le I94 I_ ∧ Ok 74 [(3, .pointer (some ⟨b27, 0, none⟩)), (6, .pointer (some ⟨b33, 0, none⟩)), (7, .int .i64 r77.1), (8, .int .i64 r77.2), (9, .int .i64 r93.1), (10, .int .i64 r93.2), (11, .slice p471 s470.length c472), (31, .int .i64 r77.2), (32, .int .i64 s474)] c ∧ Sym w0 M I I_ [pto b27 (.cells #[.int .i64 r52.Rows, .int .i64 r52.Cols, .slice p58 r52.Start.length c59, .slice p61 r52.Col.length c62, .slice p64 r52.Val.length c65] 29 (0, 0)), pto b33 (.cells #[.int .i64 0, .int .i64 0, .slice none 0 0, .slice none 0 0, .slice none 0 0] 29 (0, 0)), OwnSl eTriple 60 p471 c472 s470] w) (fun c w ho hs => ⟨I94, _, _, (.refl _), ho.sub ⟨rfl, rfl, rfl, rfl, rfl, rfl, rfl, rfl, rfl, trivial⟩, hs.pick (.c (.s (.s .z)) (.c (.s .z) (.c .z .n)))⟩) ?_
  rintro ⟨s470, s474⟩ next476 hd c w hst
  obtain ⟨I477, p471, c472, hl478, hok, hsym⟩ := hst
  have le479 := IH.le.trans le100 hl478
  have le480 := IH.le.trans (.refl _) hl478
  replace R60 := R60.mono hl478
  replace R63 := R63.mono hl478
  replace R66 := R66.mono hl478
  refine Cod.at hok hsym ?_
  refine .seq ?_
  refine .region ?_
  refine .lt rfl rfl rfl rfl ?_
  refine .nil' fun c w ho hs => Cod.at (E := [(3, _), (6, _), (7, _), (8, _), (9, _), (10, _), (11, _), (31, _), (32, _), (33, _)]) (ho.sub ⟨rfl, rfl, rfl, rfl, rfl, rfl, rfl, rfl, rfl, rfl, trivial⟩) hs ?_
  refine .seq ?_
  refine .cond rfl (fun hb482 => ?_) (fun hb482 => ?_)
  · have hd := hd.1 hb482
    refine .skip' fun c w ho hs => Cod.at (E := [(3, _), (6, _), (7, _), (8, _), (9, _), (10, _), (11, _), (31, _), (32, _)]) (ho.sub ⟨rfl, rfl, rfl, rfl, rfl, rfl, rfl, rfl, rfl, trivial⟩) hs ?_
    refine .seq ?_
    refine .block ?_
    refine .seq ?_
    refine .region ?_
    refine .skips 2 rfl ?_
    refine .nil' fun c w ho hs => Cod.at (E := [(3, _), (6, _), (7, _), (8, _), (9, _), (10, _), (11, _), (31, _), (32, _), (12, _)]) (ho.sub ⟨rfl, rfl, rfl, rfl, rfl, rfl, rfl, rfl, rfl, rfl, trivial⟩) hs ?_
    refine .seq ?_
    refine .region ?_
    refine .loadW Tryz.isAgg29 Tryz.sizeOf29 rfl .z rfl rfl rfl ?_
    refine .skips 2 rfl ?_
    refine .add rfl rfl rfl rfl ?_
    have hw504 := W_csr_Row (I := I477) R60 R63 R66 hd
    refine .call Tryz.call21 rfl hw504 rfl rfl fun v499 I496 hl497 hv498 => ?_
    obtain ⟨r495, p501, c502, rfl, R503, hd⟩ := hv498
    have le505 := IH.le.trans le479 hl497
    have le506 := IH.le.trans le480 hl497
    replace R60 := R60.mono hl497
    replace R63 := R63.mono hl497
    replace R66 := R66.mono hl497
    refine .len Tryz.underlying41 rfl rfl rfl rfl ?_
    refine .skips 1 rfl ?_
    refine .nil' fun c w ho hs => Cod.at (E := [(3, _), (6, _), (7, _), (8, _), (9, _), (10, _), (11, _), (31, _), (32, _), (12, _), (39, _), (40, _), (41, _)]) (ho.sub ⟨rfl, rfl, rfl, rfl, rfl, rfl, rfl, rfl, rfl, rfl, rfl, rfl, rfl, trivial⟩) hs ?_
    refine .block ?_
    refine .loop hd (fun (s : (List Triple) × Int) c w => match s with | (s604, s608) => ∃ I_ p605 c606, IH.le I496 I_ ∧ Ok 74 [(3, .pointer (some ⟨b27, 0, none⟩)), (6, .pointer (some ⟨b33, 0, none⟩)), (7, .int .i64 r77.1), (8, .int .i64 r77.2), (9, .int .i64 r93.1), (10, .int .i64 r93.2), (11, .slice p605 s604.length c606), (12, .int .i64 s474), (31, .int .i64 r77.2), (32, .int .i64 s474), (39, .slice p501 r495.length c502), (40, .int .i64 (r495.length : Int)), (41, .int .i64 s608)] c ∧ Sym w0 M I I_ [pto b27 (.cells #[.int .i64 r52.Rows, .int .i64 r52.Cols, .slice p58 r52.Start.length c59, .slice p61 r52.Col.length c62, .slice p64 r52.Val.length c65] 29 (0, 0)), pto b33 (.cells #[.int .i64 0, .int .i64 0, .slice none 0 0, .slice none 0 0, .slice none 0 0] 29 (0, 0)), OwnSl eTriple 60 p605 c606 s604] w) (fun c w ho hs => ⟨I496, _, _, (.refl _), ho.sub ⟨rfl, rfl, rfl, rfl, rfl, rfl, rfl, rfl, rfl, rfl, rfl, rfl, rfl, trivial⟩, hs.pick (.c .z (.c .z (.c .z .n)))⟩) ?_
    rintro ⟨s604, s608⟩ next609 hd c w hst
    obtain ⟨I610, p605, c606, hl611, hok, hsym⟩ := hst
    have le612 := IH.le.trans le505 hl611
    have le613 := IH.le.trans le506 hl611
    have le614 := IH.le.trans (.refl _) hl611
    replace R60 := R60.mono hl611
    replace R63 := R63.mono hl611
    replace R66 := R66.mono hl611
    replace R503 := R503.mono hl611
    refine Cod.at hok hsym ?_
    refine .seq ?_
    refine .region ?_
    refine .lt rfl rfl rfl rfl ?_
    refine .nil' fun c w ho hs => Cod.at (E := [(3, _), (6, _), (7, _), (8, _), (9, _), (10, _), (11, _), (12, _), (31, _), (32, _), (39, _), (40, _), (41, _), (42, _)]) (ho.sub ⟨rfl, rfl, rfl, rfl, rfl, rfl, rfl, rfl, rfl, rfl, rfl, rfl, rfl, rfl, trivial⟩) hs ?_
    refine .seq ?_
    refine .cond rfl (fun hb616 => ?_) (fun hb616 => ?_)
    · have hd := hd.1 hb616
      refine .skip' fun c w ho hs => Cod.at (E := [(3, _), (6, _), (7, _), (8, _), (9, _), (10, _), (11, _), (12, _), (31, _), (32, _), (39, _), (40, _), (41, _)]) (ho.sub ⟨rfl, rfl, rfl, rfl, rfl, rfl, rfl, rfl, rfl, rfl, rfl, rfl, rfl, trivial⟩) hs ?_
      refine .seq ?_
      refine .block ?_
      refine .seq ?_
      refine .region ?_
      obtain ⟨h628, x629, hx630, hd⟩ := hd
      obtain ⟨b631, o632, cs633, e634, hC635, hr636⟩ := R503.2 _ _ hx630
      cases hr636
      refine .ixa Tryz.underlying41 Tryz.sizeOf82 rfl e634 rfl h628 (idx_lt hx630 h628) rfl rfl ?_
      refine .ldW Tryz.isAgg82 Tryz.sizeOf82 hC635 rfl rfl rfl rfl ?_
      refine .allocA Tryz.zeroValue82 rfl rfl fun b637 => ?_
      refine .storeA Tryz.sizeOf82 rfl rfl .z (.t (.t .nil)) rfl rfl ?_
      refine .nil' fun c w ho hs => Cod.at (E := [(3, _), (6, _), (7, _), (8, _), (9, _), (10, _), (11, _), (12, _), (31, _), (32, _), (39, _), (40, _), (41, _), (14, _)]) (ho.sub ⟨rfl, rfl, rfl, rfl, rfl, rfl, rfl, rfl, rfl, rfl, rfl, rfl, rfl, rfl, trivial⟩) hs ?_
      refine .seq ?_
      refine Cod.joinQ (σ := Bool) hd (fun (s641 : Bool) c w => ∃ I_, IH.le I610 I_ ∧ Ok 74 [(3, .pointer (some ⟨b27, 0, none⟩)), (6, .pointer (some ⟨b33, 0, none⟩)), (7, .int .i64 r77.1), (8, .int .i64 r77.2), (9, .int .i64 r93.1), (10, .int .i64 r93.2), (11, .slice p605 s604.length c606), (12, .int .i64 s474), (14, .pointer (some ⟨b637, 0, none⟩)), (31, .int .i64 r77.2), (32, .int .i64 s474), (39, .slice p501 r495.length c502), (40, .int .i64 (r495.length : Int)), (41, .int .i64 s608), (56, .bool s641)] c ∧ Sym w0 M I I_ [pto b27 (.cells #[.int .i64 r52.Rows, .int .i64 r52.Cols, .slice p58 r52.Start.length c59, .slice p61 r52.Col.length c62, .slice p64 r52.Val.length c65] 29 (0, 0)), pto b33 (.cells #[.int .i64 0, .int .i64 0, .slice none 0 0, .slice none 0 0, .slice none 0 0] 29 (0, 0)), OwnSl eTriple 60 p605 c606 s604, pto b637 (.cells #[.int .i64 x629.At, .int .i64 x629.Val] 82 (0, 0))] w) (fun k642 hd => ?_) ?_
      · skip
        refine .region ?_
        refine .fieldAddr Tryz.underlying82 rfl Tryz.sizeOf3 rfl (o := 0) rfl rfl rfl ?_
        refine .load1 Tryz.isAgg3 rfl .z rfl rfl rfl ?_
        refine .skips 1 rfl ?_
        refine .ge rfl rfl rfl rfl ?_
        refine .skips 1 rfl ?_
        refine split (decide (r93.1 ≤ x629.At)) (fun hb643 => ?_) (fun hb643 => ?_)
        · have hd := hd.1 hb643
          rw [hb643]
          refine .gyes rfl rfl rfl (.fieldAddr Tryz.underlying82 rfl Tryz.sizeOf3 rfl (o := 0) rfl rfl rfl ?_)
          refine .gyes rfl rfl rfl (.load1 Tryz.isAgg3 rfl .z rfl rfl rfl ?_)
          refine .gyes rfl rfl rfl (.move rfl rfl rfl ?_)
          refine .gyes rfl rfl rfl (.sub' rfl rfl rfl rfl ?_)
          refine .gyes rfl rfl rfl (.move rfl rfl rfl ?_)
          refine .gyes rfl rfl rfl (.lt rfl rfl rfl rfl ?_)
          refine .skips 1 rfl ?_
          exact .nil' fun c w ho hs => ⟨(decide ((w64 (x629.At - r93.1)) < r93.2)), hd, I610, (.refl _), ho.sub ⟨rfl, rfl, rfl, rfl, rfl, rfl, rfl, rfl, rfl, rfl, rfl, rfl, rfl, rfl, rfl, trivial⟩, hs.pick (.c (.s .z) (.c (.s .z) (.c (.s .z) (.c .z .n))))⟩
        · have hd := hd.2 hb643
          rw [hb643]
          refine .skips 7 rfl ?_
          exact .nil' fun c w ho hs => ⟨false, hd, I610, (.refl _), ho.sub ⟨rfl, rfl, rfl, rfl, rfl, rfl, rfl, rfl, rfl, rfl, rfl, rfl, rfl, rfl, rfl, trivial⟩, hs.pick (.c (.s .z) (.c (.s .z) (.c (.s .z) (.c .z .n))))⟩
      · rintro s641 hd c w hst
        obtain ⟨I644, hl645, hok, hsym⟩ := hst
        have le646 := IH.le.trans le612 hl645
        have le647 := IH.le.trans le613 hl645
        have le648 := IH.le.trans le614 hl645
        have le649 := IH.le.trans (.refl _) hl645
        replace R60 := R60.mono hl645
        replace R63 := R63.mono hl645
        replace R66 := R66.mono hl645
        replace R503 := R503.mono hl645
        refine Cod.at hok hsym ?_
        refine .cond rfl (fun hb650 => ?_) (fun hb650 => ?_)
        · have hd := hd.1 hb650
          refine .region ?_
          refine .skips 2 rfl ?_
          refine .fieldAddr Tryz.underlying82 rfl Tryz.sizeOf3 rfl (o := 0) rfl rfl rfl ?_
          refine .load1 Tryz.isAgg3 rfl (.s (.s (.s .z))) rfl rfl rfl ?_
          refine .skips 1 rfl ?_
          refine .sub' rfl rfl rfl rfl ?_
          refine .fieldAddr Tryz.underlying82 rfl Tryz.sizeOf2 rfl (o := 1) rfl rfl rfl ?_
          refine .load1 Tryz.isAgg2 rfl (.s (.s (.s .z))) rfl rfl rfl ?_
          refine .build Tryz.zeroValue60 Tryz.underlying60 BI60 (.c rfl rfl rfl (.t .nil) (.c rfl rfl rfl (.s (.t .nil)) (.c rfl rfl rfl (.s (.s (.t .nil))) .n))) (by exact ⟨⟨_, _, rfl, rfl, rfl⟩, ⟨⟨_, _, rfl, rfl, rfl⟩, ⟨⟨_, _, rfl, rfl, rfl⟩, trivial⟩⟩⟩) rfl rfl ?_
          refine .buildSlice 1 Tryz.underlying24 Tryz.sizeOf60 Tryz.zeroValue60 rfl rfl (.c rfl rfl rfl .n) rfl rfl fun b651 => ?_
          obtain ⟨hl653, hd⟩ := hd
          refine .append (ys := [({ Row := s474, Col := w64 (x629.At - r93.1), Val := x629.Val } : Triple)]) 24 (.s (.s (.s .z))) Tryz.underlying24 Tryz.underlying24 IN60 rfl rfl rfl rfl rfl rfl rfl rfl rfl (.box .z (.one rfl) rfl) hl653 rfl rfl fun p654 c655 => ?_
          refine .sub (E' := [(3, _), (6, _), (7, _), (8, _), (9, _), (10, _), (12, _), (14, _), (31, _), (32, _), (39, _), (40, _), (41, _), (56, _), (57, _), (58, _), (59, _), (60, _), (61, _), (62, _), (63, _), (64, _), (65, _), (66, _), (67, _)]) ⟨rfl, rfl, rfl, rfl, rfl, rfl, rfl, rfl, rfl, rfl, rfl, rfl, rfl, rfl, rfl, rfl, rfl, rfl, rfl, rfl, rfl, rfl, rfl, rfl, rfl, trivial⟩ ?_
          refine .skips 1 rfl ?_
          refine .nil' fun c w ho hs => Cod.at (E := [(3, _), (6, _), (7, _), (8, _), (9, _), (10, _), (12, _), (31, _), (32, _), (39, _), (40, _), (41, _), (11, _)]) (ho.sub ⟨rfl, rfl, rfl, rfl, rfl, rfl, rfl, rfl, rfl, rfl, rfl, rfl, rfl, trivial⟩) hs ?_
          refine .drop (.s .z) ?_
          refine .drop (.s (.s (.s .z))) ?_
          refine .region ?_
          refine .add rfl rfl rfl rfl ?_
          refine .sub (E' := [(3, _), (6, _), (7, _), (8, _), (9, _), (10, _), (12, _), (31, _), (32, _), (39, _), (40, _), (11, _), (68, _)]) ⟨rfl, rfl, rfl, rfl, rfl, rfl, rfl, rfl, rfl, rfl, rfl, rfl, rfl, trivial⟩ ?_
          refine .skips 1 rfl ?_
          exact .nil' fun c w ho hs => ⟨((s604 ++ ([({ Row := s474, Col := w64 (x629.At - r93.1), Val := x629.Val } : Triple)])), w64 (s608 + 1)), hd, I644, _, _, le648, ho.sub ⟨rfl, rfl, rfl, rfl, rfl, rfl, rfl, rfl, rfl, rfl, rfl, rfl, rfl, trivial⟩, hs.pick (.c (.s .z) (.c (.s .z) (.c .z .n)))⟩
        · have hd := hd.2 hb650
          refine .skip' fun c w ho hs => Cod.at (E := [(3, _), (6, _), (7, _), (8, _), (9, _), (10, _), (11, _), (12, _), (31, _), (32, _), (39, _), (40, _), (41, _)]) (ho.sub ⟨rfl, rfl, rfl, rfl, rfl, rfl, rfl, rfl, rfl, rfl, rfl, rfl, rfl, trivial⟩) hs ?_
          refine .drop (.s (.s (.s .z))) ?_
          refine .region ?_
          refine .add rfl rfl rfl rfl ?_
          refine .sub (E' := [(3, _), (6, _), (7, _), (8, _), (9, _), (10, _), (11, _), (12, _), (31, _), (32, _), (39, _), (40, _), (68, _)]) ⟨rfl, rfl, rfl, rfl, rfl, rfl, rfl, rfl, rfl, rfl, rfl, rfl, rfl, trivial⟩ ?_
          refine .skips 1 rfl ?_
          exact .nil' fun c w ho hs => ⟨(s604, w64 (s608 + 1)), hd, I644, _, _, le648, ho.sub ⟨rfl, rfl, rfl, rfl, rfl, rfl, rfl, rfl, rfl, rfl, rfl, rfl, rfl, trivial⟩, hs.pick (.c .z (.c .z (.c .z .n)))⟩
    · have hd := hd.2 hb616
      refine .exit fun c w ho hs => Cod.at (E := [(3, _), (6, _), (7, _), (8, _), (9, _), (10, _), (11, _), (31, _), (32, _)]) (ho.sub ⟨rfl, rfl, rfl, rfl, rfl, rfl, rfl, rfl, rfl, trivial⟩) hs ?_
      refine .region ?_
      refine .add rfl rfl rfl rfl ?_
      refine .sub (E' := [(3, _), (6, _), (7, _), (8, _), (9, _), (10, _), (11, _), (31, _), (69, _)]) ⟨rfl, rfl, rfl, rfl, rfl, rfl, rfl, rfl, rfl, trivial⟩ ?_
      refine .skips 1 rfl ?_
      exact .nil' fun c w ho hs => ⟨(s604, w64 (s474 + 1)), hd, I610, _, _, le613, ho.sub ⟨rfl, rfl, rfl, rfl, rfl, rfl, rfl, rfl, rfl, trivial⟩, hs.pick (.c .z (.c .z (.c .z .n)))⟩
  · have hd := hd.2 hb482
    refine .exit fun c w ho hs => Cod.at (E := [(6, _), (8, _), (10, _), (11, _)]) (ho.sub ⟨rfl, rfl, rfl, rfl, trivial⟩) hs ?_
    refine .drop .z ?_
    refine .seq ?_
    refine .region ?_
    refine .skips 3 rfl ?_
    refine .pub (.s .z) fun I657 hl658 R659 => ?_
    have le660 := IH.le.trans le479 hl658
    have le661 := IH.le.trans le480 hl658
    have hw677 := W_csr_built (I := I657) R659 hd
    refine .call Tryz.call42 rfl hw677 rfl rfl fun v666 I663 hl664 hv665 => ?_
    obtain ⟨r662, p668, c669, p671, c672, p674, c675, rfl, R670, R673, R676, hd⟩ := hv665
    have le678 := IH.le.trans le660 hl664
    have le679 := IH.le.trans le661 hl664
    replace R659 := R659.mono hl664
    refine .storeA Tryz.sizeOf29 rfl rfl .z (.t (.t (.t (.t (.t .nil))))) rfl rfl ?_
    refine .nil' fun c w ho hs => Cod.at (E := [(6, _)]) (ho.sub ⟨rfl, trivial⟩) hs ?_
    exact .ret (pret Tryz.results28 (.w Tryz.isAgg29 Tryz.sizeOf29 rfl .z rfl .n) le678 ⟨r662, _, _, _, _, _, _, rfl, R670, R673, R676, hd⟩)

theorem W_slices_Equal_int_int {I : IH} {a0 : List Int} {a1 : List Int} {p1 : Option Addr} {c2 : Nat} {p4 : Option Addr} {c5 : Nat} {Q : Bool → Prop} (R3 : RepSl eI64 I p1 c2 a0) (R6 : RepSl eI64 I p4 c5 a1) (hd : slices_Equal_int_int a0 a1 Q) :
    PFun Tryz.prog 56 [.slice p1 a0.length c2, .slice p4 a1.length c5] I (fun I_ v => ∃ r, v = .bool r ∧ Q r) := by
  refine Fun.enter Tryz.func56 rfl Tryz.ntmps56 rfl (.c (.c .n)) fun w0 M => ?_
  refine .seq ?_
  refine .region ?_
  refine .skips 1 rfl ?_
  refine .nil' fun c w ho hs => Cod.at (E := [(0, _), (1, _)]) (ho.sub ⟨rfl, rfl, trivial⟩) hs ?_
  refine .seq ?_
  refine .seq ?_
  refine .region ?_
  refine .skips 1 rfl ?_
  refine .len Tryz.underlying26 rfl rfl rfl rfl ?_
  refine .skips 1 rfl ?_
  refine .len Tryz.underlying26 rfl rfl rfl rfl ?_
  refine .ne rfl rfl rfl rfl ?_
  refine .nil' fun c w ho hs => Cod.at (E := [(0, _), (1, _), (10, _)]) (ho.sub ⟨rfl, rfl, rfl, trivial⟩) hs ?_
  refine .cond rfl (fun hb8 => ?_) (fun hb8 => ?_)
  · have hd := hd.1 hb8
    refine .seq ?_
    refine .region ?_
    refine .skips 1 rfl ?_
    refine .nil' fun c w ho hs => Cod.at (E := [(4, _)]) (ho.sub ⟨rfl, trivial⟩) hs ?_
    exact .ret (pret Tryz.results56 (.t rfl .n) (.refl _) ⟨false, rfl, hd⟩)
  · have hd := hd.2 hb8
    refine .skip' fun c w ho hs => Cod.at (E := [(0, _), (1, _)]) (ho.sub ⟨rfl, rfl, trivial⟩) hs ?_
    refine .seq ?_
    refine .seq ?_
    refine .region ?_
    refine .skips 1 rfl ?_
    refine .len Tryz.underlying26 rfl rfl rfl rfl ?_
    refine .skips 1 rfl ?_
    refine .nil' fun c w ho hs => Cod.at (E := [(0, _), (1, _), (12, _), (13, _)]) (ho.sub ⟨rfl, rfl, rfl, rfl, trivial⟩) hs ?_
    refine .block ?_
    refine .loop hd (fun (s54 : Int) c w => ∃ I_, IH.le I I_ ∧ Ok 26 [(0, .slice p1 a0.length c2), (1, .slice p4 a1.length c5), (12, .int .i64 (a0.length : Int)), (13, .int .i64 s54)] c ∧ Sym w0 M I I_ [] w) (fun c w ho hs => ⟨I, (.refl _), ho.sub ⟨rfl, rfl, rfl, rfl, trivial⟩, hs.pick .n⟩) ?_
    rintro s54 next55 hd c w hst
    obtain ⟨I56, hl57, hok, hsym⟩ := hst
    have le58 := IH.le.trans (.refl _) hl57
    replace R3 := R3.mono hl57
    replace R6 := R6.mono hl57
    refine Cod.at hok hsym ?_
    refine .seq ?_
    refine .region ?_
    refine .lt rfl rfl rfl rfl ?_
    refine .nil' fun c w ho hs => Cod.at (E := [(0, _), (1, _), (12, _), (13, _), (14, _)]) (ho.sub ⟨rfl, rfl, rfl, rfl, rfl, trivial⟩) hs ?_
    refine .seq ?_
    refine .cond rfl (fun hb60 => ?_) (fun hb60 => ?_)
    · have hd := hd.1 hb60
      refine .skip' fun c w ho hs => Cod.at (E := [(0, _), (1, _), (12, _), (13, _)]) (ho.sub ⟨rfl, rfl, rfl, rfl, trivial⟩) hs ?_
      refine .seq ?_
      refine .block ?_
      refine .seq ?_
      refine .region ?_
      refine .skips 2 rfl ?_
      refine .nil' fun c w ho hs => Cod.at (E := [(0, _), (1, _), (12, _), (13, _), (5, _)]) (ho.sub ⟨rfl, rfl, rfl, rfl, rfl, trivial⟩) hs ?_
      refine .seq ?_
      refine .draw [some 0, some 1, some 2, some 3, some 4, some 5, some 6, some 7, some 8] 9 MX (by kernel_rfl) (by kernel_rfl) (by kernel_rfl) (by kernel_rfl) (by kernel_rfl) (by kernel_rfl) (by kernel_rfl) (fun ex => ex) (fun _ _ => .z) rfl ?_
      refine .f [] rfl (by kernel_rfl) rfl rfl (fun ex => .move rfl rfl rfl .mk) ?_
      refine .f [] rfl (by kernel_rfl) rfl rfl (fun ex => .move rfl rfl rfl .mk) ?_
      obtain ⟨h61, x62, hx63, hd⟩ := hd
      obtain ⟨b64, o65, cs66, e67, hC68, hr69⟩ := R3.2 _ _ hx63
      cases hr69
      refine .f [0, 1] rfl (by kernel_rfl) rfl rfl (fun ex => .ixa Tryz.underlying26 Tryz.sizeOf3 rfl e67 rfl h61 (idx_lt hx63 h61) rfl rfl .mk) ?_
      refine .f [2] rfl (by kernel_rfl) rfl rfl (fun ex => .ld1 (j := 0) Tryz.isAgg3 hC68 rfl rfl rfl rfl rfl .mk) ?_
      refine .f [] rfl (by kernel_rfl) rfl rfl (fun ex => .move rfl rfl rfl .mk) ?_
      refine .f [] rfl (by kernel_rfl) rfl rfl (fun ex => .move rfl rfl rfl .mk) ?_
      obtain ⟨h70, x71, hx72, hd⟩ := hd
      obtain ⟨b73, o74, cs75, e76, hC77, hr78⟩ := R6.2 _ _ hx72
      cases hr78
      refine .f [4, 5] rfl (by kernel_rfl) rfl rfl (fun ex => .ixa Tryz.underlying26 Tryz.sizeOf3 rfl e76 rfl h70 (idx_lt hx72 h70) rfl rfl .mk) ?_
      refine .f [6] rfl (by kernel_rfl) rfl rfl (fun ex => .ld1 (j := 0) Tryz.isAgg3 hC77 rfl rfl rfl rfl rfl .mk) ?_
      refine .f [3, 7] rfl (by kernel_rfl) rfl rfl (fun ex => .ne rfl rfl rfl rfl .mk) ?_
      refine .e 9 (by kernel_rfl) (by kernel_rfl) (by kernel_rfl) ?_
      refine .nil' fun c w ho hs => Cod.at (E := [(0, _), (1, _), (12, _), (13, _), (24, _)]) (ho.sub ⟨rfl, rfl, rfl, rfl, rfl, trivial⟩) hs ?_
      refine .cond rfl (fun hb79 => ?_) (fun hb79 => ?_)
      · have hd := hd.1 hb79
        refine .seq ?_
        refine .region ?_
        refine .skips 1 rfl ?_
        refine .nil' fun c w ho hs => Cod.at (E := [(4, _)]) (ho.sub ⟨rfl, trivial⟩) hs ?_
        exact .ret (pret Tryz.results56 (.t rfl .n) le58 ⟨false, rfl, hd⟩)
      · have hd := hd.2 hb79
        refine .skip' fun c w ho hs => Cod.at (E := [(0, _), (1, _), (12, _), (13, _)]) (ho.sub ⟨rfl, rfl, rfl, rfl, trivial⟩) hs ?_
        refine .region ?_
        refine .add rfl rfl rfl rfl ?_
        refine .sub (E' := [(0, _), (1, _), (12, _), (25, _)]) ⟨rfl, rfl, rfl, rfl, trivial⟩ ?_
        refine .skips 1 rfl ?_
        exact .nil' fun c w ho hs => ⟨(w64 (s54 + 1)), hd, I56, le58, ho.sub ⟨rfl, rfl, rfl, rfl, trivial⟩, hs.pick .n⟩
    · have hd := hd.2 hb60
      refine .exit fun c w ho hs => Cod.at (E := []) (ho.sub trivial) hs ?_
      refine .seq ?_
      refine .region ?_
      refine .skips 1 rfl ?_
      refine .nil' fun c w ho hs => Cod.at (E := [(4, _)]) (ho.sub ⟨rfl, trivial⟩) hs ?_
      exact .ret (pret Tryz.results56 (.t rfl .n) le58 ⟨true, rfl, hd⟩)

theorem W_slices_Equal_int64_int64 {I : IH} {a0 : List Int} {a1 : List Int} {p1 : Option Addr} {c2 : Nat} {p4 : Option Addr} {c5 : Nat} {Q : Bool → Prop} (R3 : RepSl eI64 I p1 c2 a0) (R6 : RepSl eI64 I p4 c5 a1) (hd : slices_Equal_int64_int64 a0 a1 Q) :
    PFun Tryz.prog 57 [.slice p1 a0.length c2, .slice p4 a1.length c5] I (fun I_ v => ∃ r, v = .bool r ∧ Q r) := by
  refine Fun.enter Tryz.func57 rfl Tryz.ntmps57 rfl (.c (.c .n)) fun w0 M => ?_
  refine .seq ?_
  refine .region ?_
  refine .skips 1 rfl ?_
  refine .nil' fun c w ho hs => Cod.at (E := [(0, _), (1, _)]) (ho.sub ⟨rfl, rfl, trivial⟩) hs ?_
  refine .seq ?_
  refine .seq ?_
  refine .region ?_
  refine .skips 1 rfl ?_
  refine .len Tryz.underlying27 rfl rfl rfl rfl ?_
  refine .skips 1 rfl ?_
  refine .len Tryz.underlying27 rfl rfl rfl rfl ?_
  refine .ne rfl rfl rfl rfl ?_
  refine .nil' fun c w ho hs => Cod.at (E := [(0, _), (1, _), (10, _)]) (ho.sub ⟨rfl, rfl, rfl, trivial⟩) hs ?_
  refine .cond rfl (fun hb8 => ?_) (fun hb8 => ?_)
  · have hd := hd.1 hb8
    refine .seq ?_
    refine .region ?_
    refine .skips 1 rfl ?_
    refine .nil' fun c w ho hs => Cod.at (E := [(4, _)]) (ho.sub ⟨rfl, trivial⟩) hs ?_
    exact .ret (pret Tryz.results57 (.t rfl .n) (.refl _) ⟨false, rfl, hd⟩)
  · have hd := hd.2 hb8
    refine .skip' fun c w ho hs => Cod.at (E := [(0, _), (1, _)]) (ho.sub ⟨rfl, rfl, trivial⟩) hs ?_
    refine .seq ?_
    refine .seq ?_
    refine .region ?_
    refine .skips 1 rfl ?_
    refine .len Tryz.underlying27 rfl rfl rfl rfl ?_
    refine .skips 1 rfl ?_
    refine .nil' fun c w ho hs => Cod.at (E := [(0, _), (1, _), (12, _), (13, _)]) (ho.sub ⟨rfl, rfl, rfl, rfl, trivial⟩) hs ?_
    refine .block ?_
    refine .loop hd (fun (s54 : Int) c w => ∃ I_, IH.le I I_ ∧ Ok 26 [(0, .slice p1 a0.length c2), (1, .slice p4 a1.length c5), (12, .int .i64 (a0.length : Int)), (13, .int .i64 s54)] c ∧ Sym w0 M I I_ [] w) (fun c w ho hs => ⟨I, (.refl _), ho.sub ⟨rfl, rfl, rfl, rfl, trivial⟩, hs.pick .n⟩) ?_
    rintro s54 next55 hd c w hst
    obtain ⟨I56, hl57, hok, hsym⟩ := hst
    have le58 := IH.le.trans (.refl _) hl57
    replace R3 := R3.mono hl57
    replace R6 := R6.mono hl57
    refine Cod.at hok hsym ?_
    refine .seq ?_
    refine .region ?_
    refine .lt rfl rfl rfl rfl ?_
    refine .nil' fun c w ho hs => Cod.at (E := [(0, _), (1, _), (12, _), (13, _), (14, _)]) (ho.sub ⟨rfl, rfl, rfl, rfl, rfl, trivial⟩) hs ?_
    refine .seq ?_
    refine .cond rfl (fun hb60 => ?_) (fun hb60 => ?_)
    · have hd := hd.1 hb60
      refine .skip' fun c w ho hs => Cod.at (E := [(0, _), (1, _), (12, _), (13, _)]) (ho.sub ⟨rfl, rfl, rfl, rfl, trivial⟩) hs ?_
      refine .seq ?_
      refine .block ?_
      refine .seq ?_
      refine .region ?_
      refine .skips 2 rfl ?_
      refine .nil' fun c w ho hs => Cod.at (E := [(0, _), (1, _), (12, _), (13, _), (5, _)]) (ho.sub ⟨rfl, rfl, rfl, rfl, rfl, trivial⟩) hs ?_
      refine .seq ?_
      refine .draw [some 0, some 1, some 2, some 3, some 4, some 5, some 6, some 7, some 8] 9 MX (by kernel_rfl) (by kernel_rfl) (by kernel_rfl) (by kernel_rfl) (by kernel_rfl) (by kernel_rfl) (by kernel_rfl) (fun ex => ex) (fun _ _ => .z) rfl ?_
      refine .f [] rfl (by kernel_rfl) rfl rfl (fun ex => .move rfl rfl rfl .mk) ?_
      refine .f [] rfl (by kernel_rfl) rfl rfl (fun ex => .move rfl rfl rfl .mk) ?_
      obtain ⟨h61, x62, hx63, hd⟩ := hd
      obtain ⟨b64, o65, cs66, e67, hC68, hr69⟩ := R3.2 _ _ hx63
      cases hr69
      refine .f [0, 1] rfl (by kernel_rfl) rfl rfl (fun ex => .ixa Tryz.underlying27 Tryz.sizeOf2 rfl e67 rfl h61 (idx_lt hx63 h61) rfl rfl .mk) ?_
      refine .f [2] rfl (by kernel_rfl) rfl rfl (fun ex => .ld1 (j := 0) Tryz.isAgg2 hC68 rfl rfl rfl rfl rfl .mk) ?_
      refine .f [] rfl (by kernel_rfl) rfl rfl (fun ex => .move rfl rfl rfl .mk) ?_
      refine .f [] rfl (by kernel_rfl) rfl rfl (fun ex => .move rfl rfl rfl .mk) ?_
      obtain ⟨h70, x71, hx72, hd⟩ := hd
      obtain ⟨b73, o74, cs75, e76, hC77, hr78⟩ := R6.2 _ _ hx72
      cases hr78
      refine .f [4, 5] rfl (by kernel_rfl) rfl rfl (fun ex => .ixa Tryz.underlying27 Tryz.sizeOf2 rfl e76 rfl h70 (idx_lt hx72 h70) rfl rfl .mk) ?_
      refine .f [6] rfl (by kernel_rfl) rfl rfl (fun ex => .ld1 (j := 0) Tryz.isAgg2 hC77 rfl rfl rfl rfl rfl .mk) ?_
      refine .f [3, 7] rfl (by kernel_rfl) rfl rfl (fun ex => .ne rfl rfl rfl rfl .mk) ?_
      refine .e 9 (by kernel_rfl) (by kernel_rfl) (by kernel_rfl) ?_
      refine .nil' fun c w ho hs => Cod.at (E := [(0, _), (1, _), (12, _), (13, _), (24, _)]) (ho.sub ⟨rfl, rfl, rfl, rfl, rfl, trivial⟩) hs ?_
      refine .cond rfl (fun hb79 => ?_) (fun hb79 => ?_)
      · have hd := hd.1 hb79
        refine .seq ?_
        refine .region ?_
        refine .skips 1 rfl ?_
        refine .nil' fun c w ho hs => Cod.at (E := [(4, _)]) (ho.sub ⟨rfl, trivial⟩) hs ?_
        exact .ret (pret Tryz.results57 (.t rfl .n) le58 ⟨false, rfl, hd⟩)
      · have hd := hd.2 hb79
        refine .skip' fun c w ho hs => Cod.at (E := [(0, _), (1, _), (12, _), (13, _)]) (ho.sub ⟨rfl, rfl, rfl, rfl, trivial⟩) hs ?_
        refine .region ?_
        refine .add rfl rfl rfl rfl ?_
        refine .sub (E' := [(0, _), (1, _), (12, _), (25, _)]) ⟨rfl, rfl, rfl, rfl, trivial⟩ ?_
        refine .skips 1 rfl ?_
        exact .nil' fun c w ho hs => ⟨(w64 (s54 + 1)), hd, I56, le58, ho.sub ⟨rfl, rfl, rfl, rfl, trivial⟩, hs.pick .n⟩
    · have hd := hd.2 hb60
      refine .exit fun c w ho hs => Cod.at (E := []) (ho.sub trivial) hs ?_
      refine .seq ?_
      refine .region ?_
      refine .skips 1 rfl ?_
      refine .nil' fun c w ho hs => Cod.at (E := [(4, _)]) (ho.sub ⟨rfl, trivial⟩) hs ?_
      exact .ret (pret Tryz.results57 (.t rfl .n) le58 ⟨true, rfl, hd⟩)

theorem W_csr_Same {I : IH} {a0 : Rows} {a1 : Rows} {p1 : Option Addr} {c2 : Nat} {p4 : Option Addr} {c5 : Nat} {p7 : Option Addr} {c8 : Nat} {p10 : Option Addr} {c11 : Nat} {p13 : Option Addr} {c14 : Nat} {p16 : Option Addr} {c17 : Nat} {Q : Bool → Prop} (R3 : RepSl eI64 I p1 c2 a0.Start) (R6 : RepSl eI64 I p4 c5 a0.Col) (R9 : RepSl eI64 I p7 c8 a0.Val) (R12 : RepSl eI64 I p10 c11 a1.Start) (R15 : RepSl eI64 I p13 c14 a1.Col) (R18 : RepSl eI64 I p16 c17 a1.Val) (hd : csr_Same a0 a1 Q) :
    PFun Tryz.prog 30 [.agg #[.int .i64 a0.Rows, .int .i64 a0.Cols, .slice p1 a0.Start.length c2, .slice p4 a0.Col.length c5, .slice p7 a0.Val.length c8], .agg #[.int .i64 a1.Rows, .int .i64 a1.Cols, .slice p10 a1.Start.length c11, .slice p13 a1.Col.length c14, .slice p16 a1.Val.length c17]] I (fun I_ v => ∃ r, v = .bool r ∧ Q r) := by
  refine Fun.enter Tryz.func30 rfl Tryz.ntmps30 rfl (.c (.c .n)) fun w0 M => ?_
  refine .seq ?_
  refine .region ?_
  refine .boxA rfl rfl rfl fun b23 => ?_
  refine .boxA rfl rfl rfl fun b25 => ?_
  refine .skips 1 rfl ?_
  refine .nil' fun c w ho hs => Cod.at (E := [(2, _), (3, _)]) (ho.sub ⟨rfl, rfl, trivial⟩) hs ?_
  refine .seq ?_
  refine .region ?_
  refine .fieldAddr Tryz.underlying29 rfl Tryz.sizeOf3 rfl (o := 0) rfl rfl rfl ?_
  refine .load1 Tryz.isAgg3 rfl (.s .z) rfl rfl rfl ?_
  refine .fieldAddr Tryz.underlying29 rfl Tryz.sizeOf3 rfl (o := 0) rfl rfl rfl ?_
  refine .load1 Tryz.isAgg3 rfl .z rfl rfl rfl ?_
  refine .eq rfl rfl rfl rfl ?_
  refine .skips 1 rfl ?_
  refine split (a0.Rows == a1.Rows) (fun hb27 => ?_) (fun hb27 => ?_)
  · have hd := hd.1 hb27
    rw [hb27]
    refine .gyes rfl rfl rfl (.fieldAddr Tryz.underlying29 rfl Tryz.sizeOf3 rfl (o := 1) rfl rfl rfl ?_)
    refine .gyes rfl rfl rfl (.load1 Tryz.isAgg3 rfl (.s .z) rfl rfl rfl ?_)
    refine .gyes rfl rfl rfl (.fieldAddr Tryz.underlying29 rfl Tryz.sizeOf3 rfl (o := 1) rfl rfl rfl ?_)
    refine .gyes rfl rfl rfl (.load1 Tryz.isAgg3 rfl .z rfl rfl rfl ?_)
    refine .gyes rfl rfl rfl (.eq rfl rfl rfl rfl ?_)
    refine .skips 2 rfl ?_
    refine split (a0.Cols == a1.Cols) (fun hb28 => ?_) (fun hb28 => ?_)
    · have hd := hd.1 hb28
      rw [hb28]
      refine .gyes rfl rfl rfl (.fieldAddr Tryz.underlying29 rfl Tryz.sizeOf26 rfl (o := 2) rfl rfl rfl ?_)
      refine .gyes rfl rfl rfl (.load1 Tryz.isAgg26 rfl (.s .z) rfl rfl rfl ?_)
      refine .gyes rfl rfl rfl (.fieldAddr Tryz.underlying29 rfl Tryz.sizeOf26 rfl (o := 2) rfl rfl rfl ?_)
      refine .gyes rfl rfl rfl (.load1 Tryz.isAgg26 rfl .z rfl rfl rfl ?_)
      have hw35 := W_slices_Equal_int_int (I := I) R3 R12 hd
      refine .gyes rfl rfl rfl (.call Tryz.call56 rfl hw35 rfl rfl fun v33 I30 hl31 hv32 => ?_)
      obtain ⟨r29, rfl, hd⟩ := hv32
      have le36 := IH.le.trans (.refl _) hl31
      replace R3 := R3.mono hl31
      replace R6 := R6.mono hl31
      replace R9 := R9.mono hl31
      replace R12 := R12.mono hl31
      replace R15 := R15.mono hl31
      replace R18 := R18.mono hl31
      refine .skips 2 rfl ?_
      refine split r29 (fun hb37 => ?_) (fun hb37 => ?_)
      · have hd := hd.1 hb37
        rw [hb37]
        refine .gyes rfl rfl rfl (.fieldAddr Tryz.underlying29 rfl Tryz.sizeOf26 rfl (o := 3) rfl rfl rfl ?_)
        refine .gyes rfl rfl rfl (.load1 Tryz.isAgg26 rfl (.s .z) rfl rfl rfl ?_)
        refine .gyes rfl rfl rfl (.fieldAddr Tryz.underlying29 rfl Tryz.sizeOf26 rfl (o := 3) rfl rfl rfl ?_)
        refine .gyes rfl rfl rfl (.load1 Tryz.isAgg26 rfl .z rfl rfl rfl ?_)
        have hw44 := W_slices_Equal_int_int (I := I30) R6 R15 hd
        refine .gyes rfl rfl rfl (.call Tryz.call56 rfl hw44 rfl rfl fun v42 I39 hl40 hv41 => ?_)
        obtain ⟨r38, rfl, hd⟩ := hv41
        have le45 := IH.le.trans le36 hl40
        replace R3 := R3.mono hl40
        replace R6 := R6.mono hl40
        replace R9 := R9.mono hl40
        replace R12 := R12.mono hl40
        replace R15 := R15.mono hl40
        replace R18 := R18.mono hl40
        refine .skips 2 rfl ?_
        refine split r38 (fun hb46 => ?_) (fun hb46 => ?_)
        · have hd := hd.1 hb46
          rw [hb46]
          refine .gyes rfl rfl rfl (.fieldAddr Tryz.underlying29 rfl Tryz.sizeOf27 rfl (o := 4) rfl rfl rfl ?_)
          refine .gyes rfl rfl rfl (.load1 Tryz.isAgg27 rfl (.s .z) rfl rfl rfl ?_)
          refine .gyes rfl rfl rfl (.fieldAddr Tryz.underlying29 rfl Tryz.sizeOf27 rfl (o := 4) rfl rfl rfl ?_)
          refine .gyes rfl rfl rfl (.load1 Tryz.isAgg27 rfl .z rfl rfl rfl ?_)
          have hw53 := W_slices_Equal_int64_int64 (I := I39) R9 R18 hd
          refine .gyes rfl rfl rfl (.call Tryz.call57 rfl hw53 rfl rfl fun v51 I48 hl49 hv50 => ?_)
          obtain ⟨r47, rfl, hd⟩ := hv50
          have le54 := IH.le.trans le45 hl49
          replace R3 := R3.mono hl49
          replace R6 := R6.mono hl49
          replace R9 := R9.mono hl49
          replace R12 := R12.mono hl49
          replace R15 := R15.mono hl49
          replace R18 := R18.mono hl49
          refine .skips 2 rfl ?_
          refine .nil' fun c w ho hs => Cod.at (E := [(4, _)]) (ho.sub ⟨rfl, trivial⟩) hs ?_
          refine .drop .z ?_
          refine .drop .z ?_
          exact .ret (pret Tryz.results30 (.t rfl .n) le54 ⟨r47, rfl, hd⟩)
        · have hd := hd.2 hb46
          rw [hb46]
          refine .skips 7 rfl ?_
          refine .nil' fun c w ho hs => Cod.at (E := [(4, _)]) (ho.sub ⟨rfl, trivial⟩) hs ?_
          refine .drop .z ?_
          refine .drop .z ?_
          exact .ret (pret Tryz.results30 (.t rfl .n) le45 ⟨false, rfl, hd⟩)
      · have hd := hd.2 hb37
        rw [hb37]
        refine .skips 14 rfl ?_
        refine .nil' fun c w ho hs => Cod.at (E := [(4, _)]) (ho.sub ⟨rfl, trivial⟩) hs ?_
        refine .drop .z ?_
        refine .drop .z ?_
        exact .ret (pret Tryz.results30 (.t rfl .n) le36 ⟨false, rfl, hd⟩)
    · have hd := hd.2 hb28
      rw [hb28]
      refine .skips 21 rfl ?_
      refine .nil' fun c w ho hs => Cod.at (E := [(4, _)]) (ho.sub ⟨rfl, trivial⟩) hs ?_
      refine .drop .z ?_
      refine .drop .z ?_
      exact .ret (pret Tryz.results30 (.t rfl .n) (.refl _) ⟨false, rfl, hd⟩)
  · have hd := hd.2 hb27
    rw [hb27]
    refine .skips 28 rfl ?_
    refine .nil' fun c w ho hs => Cod.at (E := [(4, _)]) (ho.sub ⟨rfl, trivial⟩) hs ?_
    refine .drop .z ?_
    refine .drop .z ?_
    exact .ret (pret Tryz.results30 (.t rfl .n) (.refl _) ⟨false, rfl, hd⟩)

theorem W_edges_Right_1_i6 {I : IH} {o0 : Graph} {a0 : Int} {b2 : Nat} {p3 : Option Addr} {c4 : Nat} {Q : Bool → Prop} (R5 : RepSl eEdge I p3 c4 o0.Edges) (hd : edges_Right_1_i6 o0 a0 Q) :
    Fun Tryz.prog 76 #[.int .i64 a0, .pointer (some ⟨b2, 0, none⟩)] I [pto b2 (.cells #[.int .i64 o0.N, .slice p3 o0.Edges.length c4] 50 (0, 0))] (fun I_ v l => ∃ r, v = .bool r ∧ l = [pto b2 (.cells #[.int .i64 o0.N, .slice p3 o0.Edges.length c4] 50 (0, 0))] ∧ Q r) := by
  refine Fun.enter (vs := [.int .i64 a0, .pointer (some ⟨b2, 0, none⟩)]) Tryz.func76 rfl Tryz.ntmps76 rfl (.c (.c .n)) fun w0 M => ?_
  refine .seq ?_
  refine .region ?_
  refine .skips 1 rfl ?_
  refine .nil' fun c w ho hs => Cod.at (E := [(0, _), (1, _)]) (ho.sub ⟨rfl, rfl, trivial⟩) hs ?_
  refine .seq ?_
  refine .region ?_
  refine .skips 1 rfl ?_
  refine .lt rfl rfl rfl rfl ?_
  refine .skips 1 rfl ?_
  refine split (decide (a0 < 0)) (fun hb6 => ?_) (fun hb6 => ?_)
  · have hd := hd.1 hb6
    rw [hb6]
    refine .skips 6 rfl ?_
    refine .nil' fun c w ho hs => Cod.at (E := [(1, _), (3, _)]) (ho.sub ⟨rfl, rfl, trivial⟩) hs ?_
    exact .ret (oret Tryz.results76 (.t rfl .n) (.refl _) (.c .z .n) ⟨true, rfl, rfl, hd⟩)
  · have hd := hd.2 hb6
    rw [hb6]
    refine .gyes rfl rfl rfl (.move rfl rfl rfl ?_)
    refine .gyes rfl rfl rfl (.fieldAddr Tryz.underlying50 rfl Tryz.sizeOf3 rfl (o := 0) rfl rfl rfl ?_)
    refine .gyes rfl rfl rfl (.load1 Tryz.isAgg3 rfl .z rfl rfl rfl ?_)
    refine .gyes rfl rfl rfl (.ge rfl rfl rfl rfl ?_)
    refine .skips 2 rfl ?_
    refine .nil' fun c w ho hs => Cod.at (E := [(1, _), (3, _)]) (ho.sub ⟨rfl, rfl, trivial⟩) hs ?_
    exact .ret (oret Tryz.results76 (.t rfl .n) (.refl _) (.c .z .n) ⟨(decide (o0.N ≤ a0)), rfl, rfl, hd⟩)

theorem W_edges_Right_2_i5 {I : IH} {o1 : Graph} {a0 : Edge} {b3 : Nat} {b4 : Nat} {p5 : Option Addr} {c6 : Nat} {Q : Bool → Prop} (R7 : RepSl eEdge I p5 c6 o1.Edges) (hd : edges_Right_2_i5 o1 a0 Q) :
    Fun Tryz.prog 78 #[.agg (encEdge a0).toArray, .pointer (some ⟨b3, 0, none⟩)] I [pto b3 (.cells #[.func (.func 76) #[] #[.pointer (some ⟨b4, 0, none⟩)]] 103 (0, 0)), pto b4 (.cells #[.int .i64 o1.N, .slice p5 o1.Edges.length c6] 50 (0, 0))] (fun I_ v l => ∃ r, v = .bool r ∧ l = [pto b3 (.cells #[.func (.func 76) #[] #[.pointer (some ⟨b4, 0, none⟩)]] 103 (0, 0)), pto b4 (.cells #[.int .i64 o1.N, .slice p5 o1.Edges.length c6] 50 (0, 0))] ∧ Q r) := by
  refine Fun.enter (vs := [.agg (encEdge a0).toArray, .pointer (some ⟨b3, 0, none⟩)]) Tryz.func78 rfl Tryz.ntmps78 rfl (.c (.c .n)) fun w0 M => ?_
  refine .seq ?_
  refine .region ?_
  refine .boxA rfl rfl rfl fun b10 => ?_
  refine .skips 1 rfl ?_
  refine .nil' fun c w ho hs => Cod.at (E := [(1, _), (2, _)]) (ho.sub ⟨rfl, rfl, trivial⟩) hs ?_
  refine .seq ?_
  refine .region ?_
  refine .load1 Tryz.isAgg103 rfl (.s .z) rfl rfl rfl ?_
  refine .fieldAddr Tryz.underlying55 rfl Tryz.sizeOf3 rfl (o := 0) rfl rfl rfl ?_
  refine .load1 Tryz.isAgg3 rfl .z rfl rfl rfl ?_
  have hw12 := W_edges_Right_1_i6 (I := I) (o0 := o1) (a0 := a0.From) (b2 := b4) (p3 := p5) (c4 := c6) R7 hd
  refine .callS (.c Tryz.call76 rfl rfl) (.c (.s (.s .z)) .n) hw12 rfl rfl fun v16 I13 l17 hl14 hv15 => ?_
  obtain ⟨r18, rfl, rfl, hd⟩ := hv15
  have le19 := IH.le.trans (.refl _) hl14
  replace R7 := R7.mono hl14
  refine .re (m' := [pto b4 (.cells #[.int .i64 o1.N, .slice p5 o1.Edges.length c6] 50 (0, 0)), pto b10 (.cells #[.int .i64 a0.From, .int .i64 a0.To, .int .i64 a0.W] 55 (0, 0)), pto b3 (.cells #[.func (.func 76) #[] #[.pointer (some ⟨b4, 0, none⟩)]] 103 (0, 0))]) rfl ?_
  refine .skips 1 rfl ?_
  refine split r18 (fun hb20 => ?_) (fun hb20 => ?_)
  · have hd := hd.1 hb20
    rw [hb20]
    refine .skips 6 rfl ?_
    refine .nil' fun c w ho hs => Cod.at (E := [(1, _), (3, _)]) (ho.sub ⟨rfl, rfl, trivial⟩) hs ?_
    refine .drop (.s .z) ?_
    exact .ret (oret Tryz.results78 (.t rfl .n) le19 (.c (.s .z) (.c .z .n)) ⟨true, rfl, rfl, hd⟩)
  · have hd := hd.2 hb20
    rw [hb20]
    refine .gyes rfl rfl rfl (.load1 Tryz.isAgg103 rfl (.s (.s .z)) rfl rfl rfl ?_)
    refine .gyes rfl rfl rfl (.fieldAddr Tryz.underlying55 rfl Tryz.sizeOf3 rfl (o := 1) rfl rfl rfl ?_)
    refine .gyes rfl rfl rfl (.load1 Tryz.isAgg3 rfl (.s .z) rfl rfl rfl ?_)
    have hw21 := W_edges_Right_1_i6 (I := I13) (o0 := o1) (a0 := a0.To) (b2 := b4) (p3 := p5) (c4 := c6) R7 hd
    refine .gyes rfl rfl rfl (.callS (.c Tryz.call76 rfl rfl) (.c .z .n) hw21 rfl rfl fun v25 I22 l26 hl23 hv24 => ?_)
    obtain ⟨r27, rfl, rfl, hd⟩ := hv24
    have le28 := IH.le.trans le19 hl23
    replace R7 := R7.mono hl23
    refine .re (m' := [pto b4 (.cells #[.int .i64 o1.N, .slice p5 o1.Edges.length c6] 50 (0, 0)), pto b10 (.cells #[.int .i64 a0.From, .int .i64 a0.To, .int .i64 a0.W] 55 (0, 0)), pto b3 (.cells #[.func (.func 76) #[] #[.pointer (some ⟨b4, 0, none⟩)]] 103 (0, 0))]) rfl ?_
    refine .skips 2 rfl ?_
    refine .nil' fun c w ho hs => Cod.at (E := [(1, _), (3, _)]) (ho.sub ⟨rfl, rfl, trivial⟩) hs ?_
    refine .drop (.s .z) ?_
    exact .ret (oret Tryz.results78 (.t rfl .n) le28 (.c (.s .z) (.c .z .n)) ⟨r27, rfl, rfl, hd⟩)

theorem W_slices_IndexFunc_api_Edge_api_Edge_i4 {I : IH} {o1 : Graph} {a0 : List Edge} {b3 : Nat} {b4 : Nat} {p5 : Option Addr} {c6 : Nat} {p8 : Option Addr} {c9 : Nat} {Q : Int → Prop} (R7 : RepSl eEdge I p5 c6 o1.Edges) (R10 : RepSl eEdge I p8 c9 a0) (hd : slices_IndexFunc_api_Edge_api_Edge_i4 o1 a0 Q) :
    Fun Tryz.prog 100 #[.slice p8 a0.length c9, .func (.func 78) #[] #[.pointer (some ⟨b3, 0, none⟩)]] I [pto b3 (.cells #[.func (.func 76) #[] #[.pointer (some ⟨b4, 0, none⟩)]] 103 (0, 0)), pto b4 (.cells #[.int .i64 o1.N, .slice p5 o1.Edges.length c6] 50 (0, 0))] (fun I_ v l => ∃ r, v = .int .i64 r ∧ l = [pto b3 (.cells #[.func (.func 76) #[] #[.pointer (some ⟨b4, 0, none⟩)]] 103 (0, 0)), pto b4 (.cells #[.int .i64 o1.N, .slice p5 o1.Edges.length c6] 50 (0, 0))] ∧ Q r) := by
  refine Fun.enter (vs := [.slice p8 a0.length c9, .func (.func 78) #[] #[.pointer (some ⟨b3, 0, none⟩)]]) Tryz.func100 rfl Tryz.ntmps100 rfl (.c (.c .n)) fun w0 M => ?_
  refine .seq ?_
  refine .region ?_
  refine .skips 1 rfl ?_
  refine .nil' fun c w ho hs => Cod.at (E := [(0, _), (1, _)]) (ho.sub ⟨rfl, rfl, trivial⟩) hs ?_
  refine .seq ?_
  refine .seq ?_
  refine .region ?_
  refine .skips 1 rfl ?_
  refine .len Tryz.underlying48 rfl rfl rfl rfl ?_
  refine .skips 1 rfl ?_
  refine .nil' fun c w ho hs => Cod.at (E := [(0, _), (1, _), (7, _), (8, _)]) (ho.sub ⟨rfl, rfl, rfl, rfl, trivial⟩) hs ?_
  refine .block ?_
  refine .loop hd (fun (s54 : Int) c w => ∃ I_, IH.le I I_ ∧ Ok 19 [(0, .slice p8 a0.length c9), (1, .func (.func 78) #[] #[.pointer (some ⟨b3, 0, none⟩)]), (7, .int .i64 (a0.length : Int)), (8, .int .i64 s54)] c ∧ Sym w0 M I I_ [pto b3 (.cells #[.func (.func 76) #[] #[.pointer (some ⟨b4, 0, none⟩)]] 103 (0, 0)), pto b4 (.cells #[.int .i64 o1.N, .slice p5 o1.Edges.length c6] 50 (0, 0))] w) (fun c w ho hs => ⟨I, (.refl _), ho.sub ⟨rfl, rfl, rfl, rfl, trivial⟩, hs.pick (.c .z (.c .z .n))⟩) ?_
  rintro s54 next55 hd c w hst
  obtain ⟨I56, hl57, hok, hsym⟩ := hst
  have le58 := IH.le.trans (.refl _) hl57
  replace R7 := R7.mono hl57
  replace R10 := R10.mono hl57
  refine Cod.at hok hsym ?_
  refine .seq ?_
  refine .region ?_
  refine .lt rfl rfl rfl rfl ?_
  refine .nil' fun c w ho hs => Cod.at (E := [(0, _), (1, _), (7, _), (8, _), (9, _)]) (ho.sub ⟨rfl, rfl, rfl, rfl, rfl, trivial⟩) hs ?_
  refine .seq ?_
  refine .cond rfl (fun hb60 => ?_) (fun hb60 => ?_)
  · have hd := hd.1 hb60
    refine .skip' fun c w ho hs => Cod.at (E := [(0, _), (1, _), (7, _), (8, _)]) (ho.sub ⟨rfl, rfl, rfl, rfl, trivial⟩) hs ?_
    refine .seq ?_
    refine .block ?_
    refine .seq ?_
    refine .region ?_
    refine .skips 2 rfl ?_
    refine .nil' fun c w ho hs => Cod.at (E := [(0, _), (1, _), (7, _), (8, _), (5, _)]) (ho.sub ⟨rfl, rfl, rfl, rfl, rfl, trivial⟩) hs ?_
    refine .seq ?_
    refine .region ?_
    refine .skips 3 rfl ?_
    obtain ⟨h61, x62, hx63, hd⟩ := hd
    obtain ⟨b64, o65, cs66, e67, hC68, hr69⟩ := R10.2 _ _ hx63
    cases hr69
    refine .ixa Tryz.underlying48 Tryz.sizeOf55 rfl e67 rfl h61 (idx_lt hx63 h61) rfl rfl ?_
    refine .ldW Tryz.isAgg55 Tryz.sizeOf55 hC68 rfl rfl rfl rfl ?_
    have hw70 := W_edges_Right_2_i5 (I := I56) (o1 := o1) (a0 := x62) (b3 := b3) (b4 := b4) (p5 := p5) (c6 := c6) R7 hd
    refine .callS (.c Tryz.call78 rfl rfl) (.c .z (.c .z .n)) hw70 rfl rfl fun v74 I71 l75 hl72 hv73 => ?_
    obtain ⟨r76, rfl, rfl, hd⟩ := hv73
    have le77 := IH.le.trans le58 hl72
    replace R7 := R7.mono hl72
    replace R10 := R10.mono hl72
    replace hC68 := hC68.mono hl72
    refine .re (m' := [pto b3 (.cells #[.func (.func 76) #[] #[.pointer (some ⟨b4, 0, none⟩)]] 103 (0, 0)), pto b4 (.cells #[.int .i64 o1.N, .slice p5 o1.Edges.length c6] 50 (0, 0))]) rfl ?_
    refine .nil' fun c w ho hs => Cod.at (E := [(0, _), (1, _), (7, _), (8, _), (5, _), (16, _)]) (ho.sub ⟨rfl, rfl, rfl, rfl, rfl, rfl, trivial⟩) hs ?_
    refine .cond rfl (fun hb78 => ?_) (fun hb78 => ?_)
    · have hd := hd.1 hb78
      refine .seq ?_
      refine .region ?_
      refine .skips 2 rfl ?_
      refine .nil' fun c w ho hs => Cod.at (E := [(1, _), (4, _)]) (ho.sub ⟨rfl, rfl, trivial⟩) hs ?_
      exact .ret (oret Tryz.results100 (.t rfl .n) le77 (.c .z (.c .z .n)) ⟨s54, rfl, rfl, hd⟩)
    · have hd := hd.2 hb78
      refine .skip' fun c w ho hs => Cod.at (E := [(0, _), (1, _), (7, _), (8, _)]) (ho.sub ⟨rfl, rfl, rfl, rfl, trivial⟩) hs ?_
      refine .region ?_
      refine .add rfl rfl rfl rfl ?_
      refine .sub (E' := [(0, _), (1, _), (7, _), (18, _)]) ⟨rfl, rfl, rfl, rfl, trivial⟩ ?_
      refine .skips 1 rfl ?_
      exact .nil' fun c w ho hs => ⟨(w64 (s54 + 1)), hd, I71, le77, ho.sub ⟨rfl, rfl, rfl, rfl, trivial⟩, hs.pick (.c .z (.c .z .n))⟩
  · have hd := hd.2 hb60
    refine .exit fun c w ho hs => Cod.at (E := [(1, _)]) (ho.sub ⟨rfl, trivial⟩) hs ?_
    refine .seq ?_
    refine .region ?_
    refine .skips 1 rfl ?_
    refine .nil' fun c w ho hs => Cod.at (E := [(1, _), (4, _)]) (ho.sub ⟨rfl, rfl, trivial⟩) hs ?_
    exact .ret (oret Tryz.results100 (.t rfl .n) le58 (.c .z (.c .z .n)) ⟨(-1), rfl, rfl, hd⟩)

theorem W_slices_ContainsFunc_api_Edge_api_Edge_i3 {I : IH} {o1 : Graph} {a0 : List Edge} {b3 : Nat} {b4 : Nat} {p5 : Option Addr} {c6 : Nat} {p8 : Option Addr} {c9 : Nat} {Q : Bool → Prop} (R7 : RepSl eEdge I p5 c6 o1.Edges) (R10 : RepSl eEdge I p8 c9 a0) (hd : slices_ContainsFunc_api_Edge_api_Edge_i3 o1 a0 Q) :
    Fun Tryz.prog 77 #[.slice p8 a0.length c9, .func (.func 78) #[] #[.pointer (some ⟨b3, 0, none⟩)]] I [pto b3 (.cells #[.func (.func 76) #[] #[.pointer (some ⟨b4, 0, none⟩)]] 103 (0, 0)), pto b4 (.cells #[.int .i64 o1.N, .slice p5 o1.Edges.length c6] 50 (0, 0))] (fun I_ v l => ∃ r, v = .bool r ∧ l = [pto b3 (.cells #[.func (.func 76) #[] #[.pointer (some ⟨b4, 0, none⟩)]] 103 (0, 0)), pto b4 (.cells #[.int .i64 o1.N, .slice p5 o1.Edges.length c6] 50 (0, 0))] ∧ Q r) := by
  refine Fun.enter (vs := [.slice p8 a0.length c9, .func (.func 78) #[] #[.pointer (some ⟨b3, 0, none⟩)]]) Tryz.func77 rfl Tryz.ntmps77 rfl (.c (.c .n)) fun w0 M => ?_
  refine .seq ?_
  refine .region ?_
  refine .skips 1 rfl ?_
  refine .nil' fun c w ho hs => Cod.at (E := [(0, _), (1, _)]) (ho.sub ⟨rfl, rfl, trivial⟩) hs ?_
  refine .seq ?_
  refine .region ?_
  refine .skips 2 rfl ?_
  have hw11 := W_slices_IndexFunc_api_Edge_api_Edge_i4 (I := I) (o1 := o1) (a0 := a0) (b3 := b3) (b4 := b4) (p5 := p5) (c6 := c6) R7 R10 hd
  refine .callS (.f Tryz.call100 rfl) (.c .z (.c .z .n)) hw11 rfl rfl fun v15 I12 l16 hl13 hv14 => ?_
  obtain ⟨r17, rfl, rfl, hd⟩ := hv14
  have le18 := IH.le.trans (.refl _) hl13
  replace R7 := R7.mono hl13
  replace R10 := R10.mono hl13
  refine .re (m' := [pto b3 (.cells #[.func (.func 76) #[] #[.pointer (some ⟨b4, 0, none⟩)]] 103 (0, 0)), pto b4 (.cells #[.int .i64 o1.N, .slice p5 o1.Edges.length c6] 50 (0, 0))]) rfl ?_
  refine .ge rfl rfl rfl rfl ?_
  refine .skips 1 rfl ?_
  refine .nil' fun c w ho hs => Cod.at (E := [(1, _), (4, _)]) (ho.sub ⟨rfl, rfl, trivial⟩) hs ?_
  exact .ret (oret Tryz.results77 (.t rfl .n) le18 (.c .z (.c .z .n)) ⟨(decide (0 ≤ r17)), rfl, rfl, hd⟩)

theorem W_edges_Right_3_i9 {I : IH} {a0 : Edge}  {Q : Bool → Prop}  (hd : edges_Right_3_i9 a0 Q) :
    Fun Tryz.prog 79 #[.agg (encEdge a0).toArray] I [] (fun I_ v l => ∃ r, v = .bool r ∧ l = [] ∧ Q r) := by
  refine Fun.enter (vs := [.agg (encEdge a0).toArray]) Tryz.func79 rfl Tryz.ntmps79 rfl (.c .n) fun w0 M => ?_
  refine .seq ?_
  refine .region ?_
  refine .boxA rfl rfl rfl fun b3 => ?_
  refine .skips 1 rfl ?_
  refine .nil' fun c w ho hs => Cod.at (E := [(1, _)]) (ho.sub ⟨rfl, trivial⟩) hs ?_
  refine .seq ?_
  refine .region ?_
  refine .fieldAddr Tryz.underlying55 rfl Tryz.sizeOf2 rfl (o := 2) rfl rfl rfl ?_
  refine .load1 Tryz.isAgg2 rfl .z rfl rfl rfl ?_
  refine .lt rfl rfl rfl rfl ?_
  refine .skips 1 rfl ?_
  refine split (decide (a0.W < 0)) (fun hb5 => ?_) (fun hb5 => ?_)
  · have hd := hd.1 hb5
    rw [hb5]
    refine .skips 5 rfl ?_
    refine .nil' fun c w ho hs => Cod.at (E := [(2, _)]) (ho.sub ⟨rfl, trivial⟩) hs ?_
    refine .drop .z ?_
    exact .ret (oret Tryz.results79 (.t rfl .n) (.refl _) .n ⟨true, rfl, rfl, hd⟩)
  · have hd := hd.2 hb5
    rw [hb5]
    refine .gyes rfl rfl rfl (.fieldAddr Tryz.underlying55 rfl Tryz.sizeOf2 rfl (o := 2) rfl rfl rfl ?_)
    refine .gyes rfl rfl rfl (.load1 Tryz.isAgg2 rfl .z rfl rfl rfl ?_)
    refine .gyes rfl rfl rfl (.gt rfl rfl rfl rfl ?_)
    refine .skips 2 rfl ?_
    refine .nil' fun c w ho hs => Cod.at (E := [(2, _)]) (ho.sub ⟨rfl, trivial⟩) hs ?_
    refine .drop .z ?_
    exact .ret (oret Tryz.results79 (.t rfl .n) (.refl _) .n ⟨(decide (2147483647 < a0.W)), rfl, rfl, hd⟩)

theorem W_slices_IndexFunc_api_Edge_api_Edge_i8 {I : IH} {a0 : List Edge} {p1 : Option Addr} {c2 : Nat} {Q : Int → Prop} (R3 : RepSl eEdge I p1 c2 a0) (hd : slices_IndexFunc_api_Edge_api_Edge_i8 a0 Q) :
    Fun Tryz.prog 100 #[.slice p1 a0.length c2, .func (.func 79) #[] #[]] I [] (fun I_ v l => ∃ r, v = .int .i64 r ∧ l = [] ∧ Q r) := by
  refine Fun.enter (vs := [.slice p1 a0.length c2, .func (.func 79) #[] #[]]) Tryz.func100 rfl Tryz.ntmps100 rfl (.c (.c .n)) fun w0 M => ?_
  refine .seq ?_
  refine .region ?_
  refine .skips 1 rfl ?_
  refine .nil' fun c w ho hs => Cod.at (E := [(0, _), (1, _)]) (ho.sub ⟨rfl, rfl, trivial⟩) hs ?_
  refine .seq ?_
  refine .seq ?_
  refine .region ?_
  refine .skips 1 rfl ?_
  refine .len Tryz.underlying48 rfl rfl rfl rfl ?_
  refine .skips 1 rfl ?_
  refine .nil' fun c w ho hs => Cod.at (E := [(0, _), (1, _), (7, _), (8, _)]) (ho.sub ⟨rfl, rfl, rfl, rfl, trivial⟩) hs ?_
  refine .block ?_
  refine .loop hd (fun (s47 : Int) c w => ∃ I_, IH.le I I_ ∧ Ok 19 [(0, .slice p1 a0.length c2), (1, .func (.func 79) #[] #[]), (7, .int .i64 (a0.length : Int)), (8, .int .i64 s47)] c ∧ Sym w0 M I I_ [] w) (fun c w ho hs => ⟨I, (.refl _), ho.sub ⟨rfl, rfl, rfl, rfl, trivial⟩, hs.pick .n⟩) ?_
  rintro s47 next48 hd c w hst
  obtain ⟨I49, hl50, hok, hsym⟩ := hst
  have le51 := IH.le.trans (.refl _) hl50
  replace R3 := R3.mono hl50
  refine Cod.at hok hsym ?_
  refine .seq ?_
  refine .region ?_
  refine .lt rfl rfl rfl rfl ?_
  refine .nil' fun c w ho hs => Cod.at (E := [(0, _), (1, _), (7, _), (8, _), (9, _)]) (ho.sub ⟨rfl, rfl, rfl, rfl, rfl, trivial⟩) hs ?_
  refine .seq ?_
  refine .cond rfl (fun hb53 => ?_) (fun hb53 => ?_)
  · have hd := hd.1 hb53
    refine .skip' fun c w ho hs => Cod.at (E := [(0, _), (1, _), (7, _), (8, _)]) (ho.sub ⟨rfl, rfl, rfl, rfl, trivial⟩) hs ?_
    refine .seq ?_
    refine .block ?_
    refine .seq ?_
    refine .region ?_
    refine .skips 2 rfl ?_
    refine .nil' fun c w ho hs => Cod.at (E := [(0, _), (1, _), (7, _), (8, _), (5, _)]) (ho.sub ⟨rfl, rfl, rfl, rfl, rfl, trivial⟩) hs ?_
    refine .seq ?_
    refine .region ?_
    refine .skips 3 rfl ?_
    obtain ⟨h54, x55, hx56, hd⟩ := hd
    obtain ⟨b57, o58, cs59, e60, hC61, hr62⟩ := R3.2 _ _ hx56
    cases hr62
    refine .ixa Tryz.underlying48 Tryz.sizeOf55 rfl e60 rfl h54 (idx_lt hx56 h54) rfl rfl ?_
    refine .ldW Tryz.isAgg55 Tryz.sizeOf55 hC61 rfl rfl rfl rfl ?_
    have hw63 := W_edges_Right_3_i9 (I := I49) (a0 := x55) hd
    refine .callS (.c Tryz.call79 rfl rfl) .n hw63 rfl rfl fun v67 I64 l68 hl65 hv66 => ?_
    obtain ⟨r69, rfl, rfl, hd⟩ := hv66
    have le70 := IH.le.trans le51 hl65
    replace R3 := R3.mono hl65
    replace hC61 := hC61.mono hl65
    refine .re (m' := []) rfl ?_
    refine .nil' fun c w ho hs => Cod.at (E := [(0, _), (1, _), (7, _), (8, _), (5, _), (16, _)]) (ho.sub ⟨rfl, rfl, rfl, rfl, rfl, rfl, trivial⟩) hs ?_
    refine .cond rfl (fun hb71 => ?_) (fun hb71 => ?_)
    · have hd := hd.1 hb71
      refine .seq ?_
      refine .region ?_
      refine .skips 2 rfl ?_
      refine .nil' fun c w ho hs => Cod.at (E := [(1, _), (4, _)]) (ho.sub ⟨rfl, rfl, trivial⟩) hs ?_
      exact .ret (oret Tryz.results100 (.t rfl .n) le70 .n ⟨s47, rfl, rfl, hd⟩)
    · have hd := hd.2 hb71
      refine .skip' fun c w ho hs => Cod.at (E := [(0, _), (1, _), (7, _), (8, _)]) (ho.sub ⟨rfl, rfl, rfl, rfl, trivial⟩) hs ?_
      refine .region ?_
      refine .add rfl rfl rfl rfl ?_
      refine .sub (E' := [(0, _), (1, _), (7, _), (18, _)]) ⟨rfl, rfl, rfl, rfl, trivial⟩ ?_
      refine .skips 1 rfl ?_
      exact .nil' fun c w ho hs => ⟨(w64 (s47 + 1)), hd, I64, le70, ho.sub ⟨rfl, rfl, rfl, rfl, trivial⟩, hs.pick .n⟩
  · have hd := hd.2 hb53
    refine .exit fun c w ho hs => Cod.at (E := [(1, _)]) (ho.sub ⟨rfl, trivial⟩) hs ?_
    refine .seq ?_
    refine .region ?_
    refine .skips 1 rfl ?_
    refine .nil' fun c w ho hs => Cod.at (E := [(1, _), (4, _)]) (ho.sub ⟨rfl, rfl, trivial⟩) hs ?_
    exact .ret (oret Tryz.results100 (.t rfl .n) le51 .n ⟨(-1), rfl, rfl, hd⟩)

theorem W_slices_ContainsFunc_api_Edge_api_Edge_i7 {I : IH} {a0 : List Edge} {p1 : Option Addr} {c2 : Nat} {Q : Bool → Prop} (R3 : RepSl eEdge I p1 c2 a0) (hd : slices_ContainsFunc_api_Edge_api_Edge_i7 a0 Q) :
    Fun Tryz.prog 77 #[.slice p1 a0.length c2, .func (.func 79) #[] #[]] I [] (fun I_ v l => ∃ r, v = .bool r ∧ l = [] ∧ Q r) := by
  refine Fun.enter (vs := [.slice p1 a0.length c2, .func (.func 79) #[] #[]]) Tryz.func77 rfl Tryz.ntmps77 rfl (.c (.c .n)) fun w0 M => ?_
  refine .seq ?_
  refine .region ?_
  refine .skips 1 rfl ?_
  refine .nil' fun c w ho hs => Cod.at (E := [(0, _), (1, _)]) (ho.sub ⟨rfl, rfl, trivial⟩) hs ?_
  refine .seq ?_
  refine .region ?_
  refine .skips 2 rfl ?_
  have hw4 := W_slices_IndexFunc_api_Edge_api_Edge_i8 (I := I) (a0 := a0) R3 hd
  refine .callS (.f Tryz.call100 rfl) .n hw4 rfl rfl fun v8 I5 l9 hl6 hv7 => ?_
  obtain ⟨r10, rfl, rfl, hd⟩ := hv7
  have le11 := IH.le.trans (.refl _) hl6
  replace R3 := R3.mono hl6
  refine .re (m' := []) rfl ?_
  refine .ge rfl rfl rfl rfl ?_
  refine .skips 1 rfl ?_
  refine .nil' fun c w ho hs => Cod.at (E := [(1, _), (4, _)]) (ho.sub ⟨rfl, rfl, trivial⟩) hs ?_
  exact .ret (oret Tryz.results77 (.t rfl .n) le11 .n ⟨(decide (0 ≤ r10)), rfl, rfl, hd⟩)

theorem W_edges_Right {I : IH} {a0 : Graph} {p1 : Option Addr} {c2 : Nat} {Q : Int → Prop} (R3 : RepSl eEdge I p1 c2 a0.Edges) (hd : edges_Right a0 Q) :
    PFun Tryz.prog 58 [.agg #[.int .i64 a0.N, .slice p1 a0.Edges.length c2]] I (fun I_ v => ∃ r, v = .int .i64 r ∧ Q r) := by
  refine Fun.enter Tryz.func58 rfl Tryz.ntmps58 rfl (.c .n) fun w0 M => ?_
  refine .seq ?_
  refine .region ?_
  refine .boxA rfl rfl rfl fun b6 => ?_
  refine .skips 1 rfl ?_
  refine .nil' fun c w ho hs => Cod.at (E := [(1, _)]) (ho.sub ⟨rfl, trivial⟩) hs ?_
  refine .seq ?_
  refine .region ?_
  refine .mkFn rfl rfl rfl rfl ?_
  refine .alloc1 Tryz.zeroValue103 rfl rfl rfl fun b10 => ?_
  refine .store1 Tryz.sizeOf103 rfl rfl .z (.t .nil) rfl ?_
  refine .nil' fun c w ho hs => Cod.at (E := [(1, _), (3, _)]) (ho.sub ⟨rfl, rfl, trivial⟩) hs ?_
  refine .seq ?_
  refine .block ?_
  refine .seq ?_
  refine .region ?_
  refine .fieldAddr Tryz.underlying50 rfl Tryz.sizeOf3 rfl (o := 0) rfl rfl rfl ?_
  refine .load1 Tryz.isAgg3 rfl (.s .z) rfl rfl rfl ?_
  refine .lt rfl rfl rfl rfl ?_
  refine .skips 1 rfl ?_
  refine .nil' fun c w ho hs => Cod.at (E := [(1, _), (3, _), (5, _)]) (ho.sub ⟨rfl, rfl, rfl, trivial⟩) hs ?_
  refine .cond rfl (fun hb12 => ?_) (fun hb12 => ?_)
  · have hd := hd.1 hb12
    refine .seq ?_
    refine .region ?_
    refine .skips 1 rfl ?_
    refine .nil' fun c w ho hs => Cod.at (E := [(2, _)]) (ho.sub ⟨rfl, trivial⟩) hs ?_
    refine .drop .z ?_
    refine .drop .z ?_
    exact .ret (pret Tryz.results58 (.t rfl .n) (.refl _) ⟨3, rfl, hd⟩)
  · have hd := hd.2 hb12
    refine .seq ?_
    refine Cod.joinQ (σ := Bool) hd (fun (s15 : Bool) c w => ∃ I_, IH.le I I_ ∧ Ok 26 [(1, .pointer (some ⟨b6, 0, none⟩)), (3, .pointer (some ⟨b10, 0, none⟩)), (9, .bool s15)] c ∧ Sym w0 M I I_ [pto b6 (.cells #[.int .i64 a0.N, .slice p1 a0.Edges.length c2] 50 (0, 0)), pto b10 (.cells #[.func (.func 76) #[] #[.pointer (some ⟨b6, 0, none⟩)]] 103 (0, 0))] w) (fun k16 hd => ?_) ?_
    · skip
      refine .seq ?_
      refine .region ?_
      refine .fieldAddr Tryz.underlying50 rfl Tryz.sizeOf3 rfl (o := 0) rfl rfl rfl ?_
      refine .load1 Tryz.isAgg3 rfl (.s .z) rfl rfl rfl ?_
      refine .gt rfl rfl rfl rfl ?_
      refine .skips 1 rfl ?_
      refine .nil' fun c w ho hs => Cod.at (E := [(1, _), (3, _), (9, _)]) (ho.sub ⟨rfl, rfl, rfl, trivial⟩) hs ?_
      refine .cond rfl (fun hb17 => ?_) (fun hb17 => ?_)
      · have hd := hd.1 hb17
        exact .skip' fun c w ho hs => ⟨(decide (4096 < a0.N)), hd, I, (.refl _), ho.sub ⟨rfl, rfl, rfl, trivial⟩, hs.pick (.c (.s .z) (.c .z .n))⟩
      · have hd := hd.2 hb17
        refine .region ?_
        refine .fieldAddr Tryz.underlying50 rfl Tryz.sizeOf48 rfl (o := 1) rfl rfl rfl ?_
        refine .load1 Tryz.isAgg48 rfl (.s .z) rfl rfl rfl ?_
        refine .len Tryz.underlying48 rfl rfl rfl rfl ?_
        refine .gt rfl rfl rfl rfl ?_
        refine .sub (E' := [(1, _), (3, _), (13, _), (14, _), (15, _), (16, _)]) ⟨rfl, rfl, rfl, rfl, rfl, rfl, trivial⟩ ?_
        refine .skips 1 rfl ?_
        exact .nil' fun c w ho hs => ⟨(decide (65536 < (a0.Edges.length : Int))), hd, I, (.refl _), ho.sub ⟨rfl, rfl, rfl, trivial⟩, hs.pick (.c (.s .z) (.c .z .n))⟩
    · rintro s15 hd c w hst
      obtain ⟨I18, hl19, hok, hsym⟩ := hst
      have le20 := IH.le.trans (.refl _) hl19
      replace R3 := R3.mono hl19
      refine Cod.at hok hsym ?_
      refine .cond rfl (fun hb21 => ?_) (fun hb21 => ?_)
      · have hd := hd.1 hb21
        refine .seq ?_
        refine .region ?_
        refine .skips 1 rfl ?_
        refine .nil' fun c w ho hs => Cod.at (E := [(2, _)]) (ho.sub ⟨rfl, trivial⟩) hs ?_
        refine .drop .z ?_
        refine .drop .z ?_
        exact .ret (pret Tryz.results58 (.t rfl .n) le20 ⟨5, rfl, hd⟩)
      · have hd := hd.2 hb21
        refine .seq ?_
        refine .region ?_
        refine .fieldAddr Tryz.underlying50 rfl Tryz.sizeOf48 rfl (o := 1) rfl rfl rfl ?_
        refine .load1 Tryz.isAgg48 rfl .z rfl rfl rfl ?_
        refine .mkFn rfl rfl rfl rfl ?_
        have hw30 := W_slices_ContainsFunc_api_Edge_api_Edge_i3 (I := I18) (o1 := a0) (a0 := a0.Edges) (b3 := b10) (b4 := b6) (p5 := p1) (c6 := c2) R3 R3 hd
        refine .callS (.f Tryz.call77 rfl) (.c (.s .z) (.c .z .n)) hw30 rfl rfl fun v34 I31 l35 hl32 hv33 => ?_
        obtain ⟨r36, rfl, rfl, hd⟩ := hv33
        have le37 := IH.le.trans le20 hl32
        replace R3 := R3.mono hl32
        refine .re (m' := [pto b10 (.cells #[.func (.func 76) #[] #[.pointer (some ⟨b6, 0, none⟩)]] 103 (0, 0)), pto b6 (.cells #[.int .i64 a0.N, .slice p1 a0.Edges.length c2] 50 (0, 0))]) rfl ?_
        refine .skips 1 rfl ?_
        refine .nil' fun c w ho hs => Cod.at (E := [(1, _), (17, _)]) (ho.sub ⟨rfl, rfl, trivial⟩) hs ?_
        refine .drop .z ?_
        refine .cond rfl (fun hb38 => ?_) (fun hb38 => ?_)
        · have hd := hd.1 hb38
          refine .seq ?_
          refine .region ?_
          refine .skips 1 rfl ?_
          refine .nil' fun c w ho hs => Cod.at (E := [(2, _)]) (ho.sub ⟨rfl, trivial⟩) hs ?_
          refine .drop .z ?_
          exact .ret (pret Tryz.results58 (.t rfl .n) le37 ⟨3, rfl, hd⟩)
        · have hd := hd.2 hb38
          refine .seq ?_
          refine .region ?_
          refine .fieldAddr Tryz.underlying50 rfl Tryz.sizeOf48 rfl (o := 1) rfl rfl rfl ?_
          refine .load1 Tryz.isAgg48 rfl .z rfl rfl rfl ?_
          have hw39 := W_slices_ContainsFunc_api_Edge_api_Edge_i7 (I := I31) (a0 := a0.Edges) R3 hd
          refine .callS (.f Tryz.call77 rfl) .n hw39 rfl rfl fun v43 I40 l44 hl41 hv42 => ?_
          obtain ⟨r45, rfl, rfl, hd⟩ := hv42
          have le46 := IH.le.trans le37 hl41
          replace R3 := R3.mono hl41
          refine .re (m' := [pto b6 (.cells #[.int .i64 a0.N, .slice p1 a0.Edges.length c2] 50 (0, 0))]) rfl ?_
          refine .skips 1 rfl ?_
          refine .nil' fun c w ho hs => Cod.at (E := [(22, _)]) (ho.sub ⟨rfl, trivial⟩) hs ?_
          refine .drop .z ?_
          refine .cond rfl (fun hb47 => ?_) (fun hb47 => ?_)
          · have hd := hd.1 hb47
            refine .seq ?_
            refine .region ?_
            refine .skips 1 rfl ?_
            refine .nil' fun c w ho hs => Cod.at (E := [(2, _)]) (ho.sub ⟨rfl, trivial⟩) hs ?_
            exact .ret (pret Tryz.results58 (.t rfl .n) le46 ⟨7, rfl, hd⟩)
          · have hd := hd.2 hb47
            refine .skip' fun c w ho hs => Cod.at (E := []) (ho.sub trivial) hs ?_
            refine .seq ?_
            refine .region ?_
            refine .skips 1 rfl ?_
            refine .nil' fun c w ho hs => Cod.at (E := [(2, _)]) (ho.sub ⟨rfl, trivial⟩) hs ?_
            exact .ret (pret Tryz.results58 (.t rfl .n) le46 ⟨0, rfl, hd⟩)

theorem W_edges_ends {I : IH} {a0 : Edge} {a1 : Edge}  {Q : Int → Prop}  (hd : edges_ends a0 a1 Q) :
    PFun Tryz.prog 118 [.agg (encEdge a0).toArray, .agg (encEdge a1).toArray] I (fun I_ v => ∃ r, v = .int .i64 r ∧ Q r) := by
  refine Fun.enter Tryz.func118 rfl Tryz.ntmps118 rfl (.c (.c .n)) fun w0 M => ?_
  refine .seq ?_
  refine .region ?_
  refine .boxA rfl rfl rfl fun b5 => ?_
  refine .boxA rfl rfl rfl fun b7 => ?_
  refine .skips 1 rfl ?_
  refine .nil' fun c w ho hs => Cod.at (E := [(2, _), (3, _)]) (ho.sub ⟨rfl, rfl, trivial⟩) hs ?_
  refine .seq ?_
  refine .draw [some 0, some 1, some 2, some 3, some 5, some 6, some 7, some 8, some 4, some 9, some 10, some 11] 12 MX (by kernel_rfl) (by kernel_rfl) (by kernel_rfl) (by kernel_rfl) (by kernel_rfl) (by kernel_rfl) (by kernel_rfl) (fun ex => (pto b7 (.cells #[.int .i64 a1.From, .int .i64 a1.To, .int .i64 a1.W] 55 (0, 0))) :: (pto b5 (.cells #[.int .i64 a0.From, .int .i64 a0.To, .int .i64 a0.W] 55 (0, 0))) :: ex) (fun _ _ => (.s (.s .z))) rfl ?_
  refine .f [] rfl (by kernel_rfl) rfl rfl (fun ex => .fieldAddr Tryz.underlying55 rfl Tryz.sizeOf3 rfl (o := 0) rfl rfl rfl .mk) ?_
  refine .f [0] rfl (by kernel_rfl) rfl rfl (fun ex => .load1 Tryz.isAgg3 rfl (.s .z) rfl rfl rfl .mk) ?_
  refine .f [] rfl (by kernel_rfl) rfl rfl (fun ex => .fieldAddr Tryz.underlying55 rfl Tryz.sizeOf3 rfl (o := 0) rfl rfl rfl .mk) ?_
  refine .f [2] rfl (by kernel_rfl) rfl rfl (fun ex => .load1 Tryz.isAgg3 rfl .z rfl rfl rfl .mk) ?_
  refine .f [] rfl (by kernel_rfl) rfl rfl (fun ex => .fieldAddr Tryz.underlying55 rfl Tryz.sizeOf3 rfl (o := 1) rfl rfl rfl .mk) ?_
  refine .f [5] rfl (by kernel_rfl) rfl rfl (fun ex => .load1 Tryz.isAgg3 rfl (.s .z) rfl rfl rfl .mk) ?_
  refine .f [] rfl (by kernel_rfl) rfl rfl (fun ex => .fieldAddr Tryz.underlying55 rfl Tryz.sizeOf3 rfl (o := 1) rfl rfl rfl .mk) ?_
  refine .f [7] rfl (by kernel_rfl) rfl rfl (fun ex => .load1 Tryz.isAgg3 rfl .z rfl rfl rfl .mk) ?_
  refine .w [8, 7, 6, 5] [[], [3], [], [1]] [1, 3] rfl (by kernel_rfl) (by kernel_rfl) (by kernel_rfl) ((dropE_kept rfl rfl)) (.inr (dropE_kept rfl rfl)) fun ex => ?_
  have hw15 := W_cmp_Compare_int (I := I) hd
  refine .call Tryz.call75 rfl hw15 rfl rfl fun v13 I10 hl11 hv12 => ?_
  obtain ⟨r9, rfl, hd⟩ := hv12
  have le16 := IH.le.trans (.refl _) hl11
  refine .some (fun ex => (pto b7 (.cells #[.int .i64 a1.From, .int .i64 a1.To, .int .i64 a1.W] 55 (0, 0))) :: (pto b5 (.cells #[.int .i64 a0.From, .int .i64 a0.To, .int .i64 a0.W] 55 (0, 0))) :: ex) rfl (fun _ _ => (.s (.s .z))) rfl (.cc [7] rfl (by kernel_rfl) rfl rfl rfl (fun ex => .load1 Tryz.isAgg3 rfl .z rfl rfl rfl .mk) (.cc [] rfl (by kernel_rfl) rfl rfl rfl (fun ex => .fieldAddr Tryz.underlying55 rfl Tryz.sizeOf3 rfl (o := 1) rfl rfl rfl .mk) (.cc [5] rfl (by kernel_rfl) rfl rfl rfl (fun ex => .load1 Tryz.isAgg3 rfl (.s .z) rfl rfl rfl .mk) (.cc [] rfl (by kernel_rfl) rfl rfl rfl (fun ex => .fieldAddr Tryz.underlying55 rfl Tryz.sizeOf3 rfl (o := 1) rfl rfl rfl .mk) trivial)))) ?_
  refine .w [] [[], [8], [], [6]] [6, 8, 4] rfl (by kernel_rfl) (by kernel_rfl) (by kernel_rfl) ((dropE_kept rfl rfl)) (.inr (dropE_kept rfl rfl)) fun ex => ?_
  have hw23 := W_cmp_Compare_int (I := I10) hd
  refine .call Tryz.call75 rfl hw23 rfl rfl fun v21 I18 hl19 hv20 => ?_
  obtain ⟨r17, rfl, hd⟩ := hv20
  have le24 := IH.le.trans le16 hl19
  refine .some (fun ex => (pto b7 (.cells #[.int .i64 a1.From, .int .i64 a1.To, .int .i64 a1.W] 55 (0, 0))) :: (pto b5 (.cells #[.int .i64 a0.From, .int .i64 a0.To, .int .i64 a0.W] 55 (0, 0))) :: ex) rfl (fun _ _ => (.s (.s .z))) rfl trivial ?_
  refine .w [] [] [4, 9] rfl (by kernel_rfl) (by kernel_rfl) (by kernel_rfl) ((dropE_kept rfl rfl)) (.inr (dropE_kept rfl rfl)) fun ex => ?_
  refine .buildSlice 2 Tryz.underlying26 Tryz.sizeOf3 Tryz.zeroValue3 rfl rfl (.c rfl rfl rfl (.c rfl rfl rfl .n)) rfl rfl fun b25 => ?_
  refine .some (fun ex => (pto b25 (.cells #[.int .i64 r9, .int .i64 r17] 3 (0, 0))) :: (pto b7 (.cells #[.int .i64 a1.From, .int .i64 a1.To, .int .i64 a1.W] 55 (0, 0))) :: (pto b5 (.cells #[.int .i64 a0.From, .int .i64 a0.To, .int .i64 a0.W] 55 (0, 0))) :: ex) rfl (fun _ _ => (.s (.s (.s .z)))) rfl trivial ?_
  refine .w [] [] [10, 9] rfl (by kernel_rfl) (by kernel_rfl) (by kernel_rfl) ((dropE_kept rfl rfl)) (.inr (dropE_kept rfl rfl)) fun ex => ?_
  refine .pubB (El := eI64) (ys := ([r9, r17] : List Int)) (k := 2) .z (RepCs.cons (cs := [.int .i64 r9]) rfl (RepCs.cons (cs := [.int .i64 r17]) rfl .nil)) rfl fun I27 hl28 R29 => ?_
  have le30 := IH.le.trans le24 hl28
  have hw37 := W_cmp_Or_int (I := I27) R29 hd
  refine .call Tryz.call74 rfl hw37 rfl rfl fun v35 I32 hl33 hv34 => ?_
  obtain ⟨r31, rfl, hd⟩ := hv34
  have le38 := IH.le.trans le30 hl33
  replace R29 := R29.mono hl33
  refine .some (fun ex => (pto b7 (.cells #[.int .i64 a1.From, .int .i64 a1.To, .int .i64 a1.W] 55 (0, 0))) :: (pto b5 (.cells #[.int .i64 a0.From, .int .i64 a0.To, .int .i64 a0.W] 55 (0, 0))) :: ex) rfl (fun _ _ => (.s (.s .z))) rfl trivial ?_
  refine .e 12 (by kernel_rfl) (by kernel_rfl) (by kernel_rfl) ?_
  refine .skips 1 rfl ?_
  refine .nil' fun c w ho hs => Cod.at (E := [(4, _)]) (ho.sub ⟨rfl, trivial⟩) hs ?_
  refine .drop .z ?_
  refine .drop .z ?_
  exact .ret (pret Tryz.results118 (.t rfl .n) le38 ⟨r31, rfl, hd⟩)

theorem W_edges_order {I : IH} {a0 : Edge} {a1 : Edge}  {Q : Int → Prop}  (hd : edges_order a0 a1 Q) :
    PFun Tryz.prog 114 [.agg (encEdge a0).toArray, .agg (encEdge a1).toArray] I (fun I_ v => ∃ r, v = .int .i64 r ∧ Q r) := by
  refine Fun.enter Tryz.func114 rfl Tryz.ntmps114 rfl (.c (.c .n)) fun w0 M => ?_
  refine .seq ?_
  refine .region ?_
  refine .boxA rfl rfl rfl fun b5 => ?_
  refine .boxA rfl rfl rfl fun b7 => ?_
  refine .skips 1 rfl ?_
  refine .nil' fun c w ho hs => Cod.at (E := [(2, _), (3, _)]) (ho.sub ⟨rfl, rfl, trivial⟩) hs ?_
  refine .seq ?_
  refine .draw [some 0, some 1, some 3, some 4, some 5, some 6, some 2, some 7, some 8, some 9] 10 MX (by kernel_rfl) (by kernel_rfl) (by kernel_rfl) (by kernel_rfl) (by kernel_rfl) (by kernel_rfl) (by kernel_rfl) (fun ex => (pto b7 (.cells #[.int .i64 a1.From, .int .i64 a1.To, .int .i64 a1.W] 55 (0, 0))) :: (pto b5 (.cells #[.int .i64 a0.From, .int .i64 a0.To, .int .i64 a0.W] 55 (0, 0))) :: ex) (fun _ _ => (.s (.s .z))) rfl ?_
  refine .f [] rfl (by kernel_rfl) rfl rfl (fun ex => .loadW Tryz.isAgg55 Tryz.sizeOf55 rfl (.s .z) rfl rfl rfl .mk) ?_
  refine .f [] rfl (by kernel_rfl) rfl rfl (fun ex => .loadW Tryz.isAgg55 Tryz.sizeOf55 rfl .z rfl rfl rfl .mk) ?_
  refine .f [] rfl (by kernel_rfl) rfl rfl (fun ex => .fieldAddr Tryz.underlying55 rfl Tryz.sizeOf2 rfl (o := 2) rfl rfl rfl .mk) ?_
  refine .f [3] rfl (by kernel_rfl) rfl rfl (fun ex => .load1 Tryz.isAgg2 rfl (.s .z) rfl rfl rfl .mk) ?_
  refine .f [] rfl (by kernel_rfl) rfl rfl (fun ex => .fieldAddr Tryz.underlying55 rfl Tryz.sizeOf2 rfl (o := 2) rfl rfl rfl .mk) ?_
  refine .f [5] rfl (by kernel_rfl) rfl rfl (fun ex => .load1 Tryz.isAgg2 rfl .z rfl rfl rfl .mk) ?_
  refine .w [6, 5, 4, 3] [[], []] [0, 1] rfl (by kernel_rfl) (by kernel_rfl) (by kernel_rfl) ((dropE_kept rfl rfl)) (.inr (dropE_kept rfl rfl)) fun ex => ?_
  have hw15 := W_edges_ends (I := I) hd
  refine .call Tryz.call118 rfl hw15 rfl rfl fun v13 I10 hl11 hv12 => ?_
  obtain ⟨r9, rfl, hd⟩ := hv12
  have le16 := IH.le.trans (.refl _) hl11
  refine .some (fun ex => (pto b7 (.cells #[.int .i64 a1.From, .int .i64 a1.To, .int .i64 a1.W] 55 (0, 0))) :: (pto b5 (.cells #[.int .i64 a0.From, .int .i64 a0.To, .int .i64 a0.W] 55 (0, 0))) :: ex) rfl (fun _ _ => (.s (.s .z))) rfl (.cc [5] rfl (by kernel_rfl) rfl rfl rfl (fun ex => .load1 Tryz.isAgg2 rfl .z rfl rfl rfl .mk) (.cc [] rfl (by kernel_rfl) rfl rfl rfl (fun ex => .fieldAddr Tryz.underlying55 rfl Tryz.sizeOf2 rfl (o := 2) rfl rfl rfl .mk) (.cc [3] rfl (by kernel_rfl) rfl rfl rfl (fun ex => .load1 Tryz.isAgg2 rfl (.s .z) rfl rfl rfl .mk) (.cc [] rfl (by kernel_rfl) rfl rfl rfl (fun ex => .fieldAddr Tryz.underlying55 rfl Tryz.sizeOf2 rfl (o := 2) rfl rfl rfl .mk) trivial)))) ?_
  refine .w [] [[], [6], [], [4]] [4, 6, 2] rfl (by kernel_rfl) (by kernel_rfl) (by kernel_rfl) ((dropE_kept rfl rfl)) (.inr (dropE_kept rfl rfl)) fun ex => ?_
  have hw23 := W_cmp_Compare_int64 (I := I10) hd
  refine .call Tryz.call110 rfl hw23 rfl rfl fun v21 I18 hl19 hv20 => ?_
  obtain ⟨r17, rfl, hd⟩ := hv20
  have le24 := IH.le.trans le16 hl19
  refine .some (fun ex => (pto b7 (.cells #[.int .i64 a1.From, .int .i64 a1.To, .int .i64 a1.W] 55 (0, 0))) :: (pto b5 (.cells #[.int .i64 a0.From, .int .i64 a0.To, .int .i64 a0.W] 55 (0, 0))) :: ex) rfl (fun _ _ => (.s (.s .z))) rfl trivial ?_
  refine .w [] [] [2, 7] rfl (by kernel_rfl) (by kernel_rfl) (by kernel_rfl) ((dropE_kept rfl rfl)) (.inr (dropE_kept rfl rfl)) fun ex => ?_
  refine .buildSlice 2 Tryz.underlying26 Tryz.sizeOf3 Tryz.zeroValue3 rfl rfl (.c rfl rfl rfl (.c rfl rfl rfl .n)) rfl rfl fun b25 => ?_
  refine .some (fun ex => (pto b25 (.cells #[.int .i64 r9, .int .i64 r17] 3 (0, 0))) :: (pto b7 (.cells #[.int .i64 a1.From, .int .i64 a1.To, .int .i64 a1.W] 55 (0, 0))) :: (pto b5 (.cells #[.int .i64 a0.From, .int .i64 a0.To, .int .i64 a0.W] 55 (0, 0))) :: ex) rfl (fun _ _ => (.s (.s (.s .z)))) rfl trivial ?_
  refine .w [] [] [8, 7] rfl (by kernel_rfl) (by kernel_rfl) (by kernel_rfl) ((dropE_kept rfl rfl)) (.inr (dropE_kept rfl rfl)) fun ex => ?_
  refine .pubB (El := eI64) (ys := ([r9, r17] : List Int)) (k := 2) .z (RepCs.cons (cs := [.int .i64 r9]) rfl (RepCs.cons (cs := [.int .i64 r17]) rfl .nil)) rfl fun I27 hl28 R29 => ?_
  have le30 := IH.le.trans le24 hl28
  have hw37 := W_cmp_Or_int (I := I27) R29 hd
  refine .call Tryz.call74 rfl hw37 rfl rfl fun v35 I32 hl33 hv34 => ?_
  obtain ⟨r31, rfl, hd⟩ := hv34
  have le38 := IH.le.trans le30 hl33
  replace R29 := R29.mono hl33
  refine .some (fun ex => (pto b7 (.cells #[.int .i64 a1.From, .int .i64 a1.To, .int .i64 a1.W] 55 (0, 0))) :: (pto b5 (.cells #[.int .i64 a0.From, .int .i64 a0.To, .int .i64 a0.W] 55 (0, 0))) :: ex) rfl (fun _ _ => (.s (.s .z))) rfl trivial ?_
  refine .e 10 (by kernel_rfl) (by kernel_rfl) (by kernel_rfl) ?_
  refine .skips 1 rfl ?_
  refine .nil' fun c w ho hs => Cod.at (E := [(4, _)]) (ho.sub ⟨rfl, trivial⟩) hs ?_
  refine .drop .z ?_
  refine .drop .z ?_
  exact .ret (pret Tryz.results114 (.t rfl .n) le38 ⟨r31, rfl, hd⟩)

theorem W_edges_Combine {I : IH} {a0 : Int} {a1 : List Edge} {p1 : Option Addr} {c2 : Nat} {Q : ((List Edge) × Int) → Prop} (R3 : RepSl eEdge I p1 c2 a1) (hd : edges_Combine a0 a1 Q) :
    PFun Tryz.prog 109 [.int .i64 a0, .slice p1 a1.length c2] I (fun I_ v => ∃ r p4 c5, v = .tuple #[.slice p4 r.1.length c5, .int .i64 r.2] ∧ RepSl eEdge I_ p4 c5 r.1 ∧ Q r) := by
  refine Fun.enter Tryz.func109 rfl Tryz.ntmps109 rfl (.c (.c .n)) fun w0 M => ?_
  refine .seq ?_
  refine .region ?_
  refine .skips 2 rfl ?_
  refine .nil' fun c w ho hs => Cod.at (E := [(0, _), (1, _)]) (ho.sub ⟨rfl, rfl, trivial⟩) hs ?_
  refine .seq ?_
  refine .seq ?_
  refine .region ?_
  refine .skips 1 rfl ?_
  have hw22 := W_ring_Is (I := I) hd
  refine .call Tryz.call37 rfl hw22 rfl rfl fun v20 I17 hl18 hv19 => ?_
  obtain ⟨r16, rfl, hd⟩ := hv19
  have le23 := IH.le.trans (.refl _) hl18
  replace R3 := R3.mono hl18
  refine .not rfl rfl rfl ?_
  refine .nil' fun c w ho hs => Cod.at (E := [(0, _), (1, _), (20, _)]) (ho.sub ⟨rfl, rfl, rfl, trivial⟩) hs ?_
  refine .cond rfl (fun hb24 => ?_) (fun hb24 => ?_)
  · have hd := hd.1 hb24
    refine .seq ?_
    refine .region ?_
    refine .skips 2 rfl ?_
    refine .nil' fun c w ho hs => Cod.at (E := [(4, _), (5, _)]) (ho.sub ⟨rfl, rfl, trivial⟩) hs ?_
    exact .ret (pret Tryz.results109 (.t rfl (.t rfl .n)) le23 ⟨(([] : List Edge), 8), _, _, rfl, (.nil _ _ _), hd⟩)
  · have hd := hd.2 hb24
    refine .skip' fun c w ho hs => Cod.at (E := [(0, _), (1, _)]) (ho.sub ⟨rfl, rfl, trivial⟩) hs ?_
    refine .seq ?_
    refine .region ?_
    refine .mkMap kArr2 eWide true rfl rfl fun b27 => ?_
    refine .skips 1 rfl ?_
    refine .nil' fun c w ho hs => Cod.at (E := [(0, _), (1, _), (6, _)]) (ho.sub ⟨rfl, rfl, rfl, trivial⟩) hs ?_
    refine .seq ?_
    refine .seq ?_
    refine .region ?_
    refine .skips 1 rfl ?_
    refine .len Tryz.underlying48 rfl rfl rfl rfl ?_
    refine .skips 1 rfl ?_
    refine .nil' fun c w ho hs => Cod.at (E := [(0, _), (6, _), (22, _), (23, _), (24, _)]) (ho.sub ⟨rfl, rfl, rfl, rfl, rfl, trivial⟩) hs ?_
    refine .block ?_
    refine .loop hd (fun (s : (List ((Int × Int) × Wide)) × Int) c w => match s with | (s388, s389) => ∃ I_, IH.le I17 I_ ∧ Ok 78 [(0, .int .i64 a0), (6, .map (some b27)), (22, .slice p1 a1.length c2), (23, .int .i64 (a1.length : Int)), (24, .int .i64 s389)] c ∧ Sym w0 M I I_ [OwnMap kArr2 eWide true b27 s388] w) (fun c w ho hs => ⟨I17, (.refl _), ho.sub ⟨rfl, rfl, rfl, rfl, rfl, trivial⟩, hs.pick (.c .z .n)⟩) ?_
    rintro ⟨s388, s389⟩ next390 hd c w hst
    obtain ⟨I391, hl392, hok, hsym⟩ := hst
    have le393 := IH.le.trans le23 hl392
    have le394 := IH.le.trans (.refl _) hl392
    replace R3 := R3.mono hl392
    refine Cod.at hok hsym ?_
    refine .seq ?_
    refine .region ?_
    refine .lt rfl rfl rfl rfl ?_
    refine .nil' fun c w ho hs => Cod.at (E := [(0, _), (6, _), (22, _), (23, _), (24, _), (25, _)]) (ho.sub ⟨rfl, rfl, rfl, rfl, rfl, rfl, trivial⟩) hs ?_
    refine .seq ?_
    refine .cond rfl (fun hb396 => ?_) (fun hb396 => ?_)
    · have hd := hd.1 hb396
      refine .skip' fun c w ho hs => Cod.at (E := [(0, _), (6, _), (22, _), (23, _), (24, _)]) (ho.sub ⟨rfl, rfl, rfl, rfl, rfl, trivial⟩) hs ?_
      refine .seq ?_
      refine .block ?_
      refine .seq ?_
      refine .region ?_
      obtain ⟨h408, x409, hx410, hd⟩ := hd
      obtain ⟨b411, o412, cs413, e414, hC415, hr416⟩ := R3.2 _ _ hx410
      cases hr416
      refine .ixa Tryz.underlying48 Tryz.sizeOf55 rfl e414 rfl h408 (idx_lt hx410 h408) rfl rfl ?_
      refine .ldW Tryz.isAgg55 Tryz.sizeOf55 hC415 rfl rfl rfl rfl ?_
      refine .allocA Tryz.zeroValue55 rfl rfl fun b417 => ?_
      refine .storeA Tryz.sizeOf55 rfl rfl .z (.t (.t (.t .nil))) rfl rfl ?_
      refine .nil' fun c w ho hs => Cod.at (E := [(0, _), (6, _), (22, _), (23, _), (24, _), (8, _)]) (ho.sub ⟨rfl, rfl, rfl, rfl, rfl, rfl, trivial⟩) hs ?_
      refine .seq ?_
      refine .region ?_
      refine .fieldAddr Tryz.underlying55 rfl Tryz.sizeOf3 rfl (o := 0) rfl rfl rfl ?_
      refine .load1 Tryz.isAgg3 rfl .z rfl rfl rfl ?_
      refine .fieldAddr Tryz.underlying55 rfl Tryz.sizeOf3 rfl (o := 1) rfl rfl rfl ?_
      refine .load1 Tryz.isAgg3 rfl .z rfl rfl rfl ?_
      refine .buildArr Tryz.zeroValue23 Tryz.underlying23 Tryz.sizeOf3 (.c rfl rfl rfl (.t .nil) (.c rfl rfl rfl (.s (.t .nil)) .n)) rfl rfl ?_
      refine .allocA Tryz.zeroValue23 rfl rfl fun b421 => ?_
      refine .storeA Tryz.sizeOf23 rfl rfl .z (.t (.t .nil)) rfl rfl ?_
      refine .nil' fun c w ho hs => Cod.at (E := [(0, _), (6, _), (22, _), (23, _), (24, _), (8, _), (9, _)]) (ho.sub ⟨rfl, rfl, rfl, rfl, rfl, rfl, rfl, trivial⟩) hs ?_
      refine .seq ?_
      refine .region ?_
      refine .fieldAddr Tryz.underlying55 rfl Tryz.sizeOf2 rfl (o := 2) rfl rfl rfl ?_
      refine .load1 Tryz.isAgg2 rfl (.s .z) rfl rfl rfl ?_
      have hw440 := W_wide_Of (I := I391) hd
      refine .call Tryz.call62 rfl hw440 rfl rfl fun v438 I435 hl436 hv437 => ?_
      obtain ⟨r434, rfl, hd⟩ := hv437
      have le441 := IH.le.trans le393 hl436
      have le442 := IH.le.trans le394 hl436
      replace R3 := R3.mono hl436
      refine .allocA Tryz.zeroValue94 rfl rfl fun b443 => ?_
      refine .storeA Tryz.sizeOf94 rfl rfl .z (.t (.t .nil)) rfl rfl ?_
      refine .nil' fun c w ho hs => Cod.at (E := [(0, _), (6, _), (22, _), (23, _), (24, _), (9, _), (10, _)]) (ho.sub ⟨rfl, rfl, rfl, rfl, rfl, rfl, rfl, trivial⟩) hs ?_
      refine .drop (.s (.s .z)) ?_
      refine .seq ?_
      refine .seq ?_
      refine .region ?_
      refine .skips 1 rfl ?_
      refine .loadW Tryz.isAgg23 Tryz.sizeOf23 rfl (.s .z) rfl rfl rfl ?_
      refine .lookM2 (k := (x409.From, x409.To)) (El := eWide) (ag := true) (zv := .agg #[.int .i64 0, .int .u64 0]) (z := ({ Hi := 0, Lo := 0 } : Wide)) KA23 Tryz.underlying91 Tryz.zeroValue94 ⟨[.int .i64 0, .int .u64 0], rfl, .a⟩ (.s (.s .z)) rfl rfl hd rfl rfl fun v448 r445 t450 cs449 hd hr446 hv447 => ?_
      cases hr446
      cases hv447
      refine .skips 1 rfl ?_
      refine .extract rfl rfl rfl rfl ?_
      refine .extract rfl rfl rfl rfl ?_
      refine .allocA Tryz.zeroValue94 rfl rfl fun b451 => ?_
      refine .storeA Tryz.sizeOf94 rfl rfl .z (.t (.t .nil)) rfl rfl ?_
      refine .skips 1 rfl ?_
      refine .nil' fun c w ho hs => Cod.at (E := [(0, _), (6, _), (22, _), (23, _), (24, _), (9, _), (10, _), (11, _), (12, _)]) (ho.sub ⟨rfl, rfl, rfl, rfl, rfl, rfl, rfl, rfl, rfl, trivial⟩) hs ?_
      refine .seq ?_
      refine .region ?_
      refine .skips 1 rfl ?_
      refine .nil' fun c w ho hs => Cod.at (E := [(0, _), (6, _), (22, _), (23, _), (24, _), (9, _), (10, _), (11, _), (42, _)]) (ho.sub ⟨rfl, rfl, rfl, rfl, rfl, rfl, rfl, rfl, rfl, trivial⟩) hs ?_
      refine .cond rfl (fun hb453 => ?_) (fun hb453 => ?_)
      · have hd := hd.1 hb453
        refine .region ?_
        refine .skips 1 rfl ?_
        refine .loadW Tryz.isAgg94 Tryz.sizeOf94 rfl .z rfl rfl rfl ?_
        refine .loadW Tryz.isAgg94 Tryz.sizeOf94 rfl (.s .z) rfl rfl rfl ?_
        have hw460 := W_ring_Add (I := I435) hd
        refine .call Tryz.call63 rfl hw460 rfl rfl fun v458 I455 hl456 hv457 => ?_
        obtain ⟨r454, rfl, hd⟩ := hv457
        have le461 := IH.le.trans le441 hl456
        have le462 := IH.le.trans le442 hl456
        replace R3 := R3.mono hl456
        refine .storeA Tryz.sizeOf94 rfl rfl (.s .z) (.t (.t .nil)) rfl rfl ?_
        refine .nil' fun c w ho hs => Cod.at (E := [(0, _), (6, _), (22, _), (23, _), (24, _), (9, _), (10, _)]) (ho.sub ⟨rfl, rfl, rfl, rfl, rfl, rfl, rfl, trivial⟩) hs ?_
        refine .drop .z ?_
        refine .region ?_
        refine .skips 1 rfl ?_
        refine .loadW Tryz.isAgg23 Tryz.sizeOf23 rfl (.s .z) rfl rfl rfl ?_
        refine .loadW Tryz.isAgg94 Tryz.sizeOf94 rfl .z rfl rfl rfl ?_
        refine .updM (k := (x409.From, x409.To)) (El := eWide) (ag := true) (v := r454) KA23 Tryz.underlying91 (.s (.s .z)) rfl rfl rfl ⟨[.int .i64 r454.Hi, .int .u64 r454.Lo], rfl, .a⟩ ?_
        refine .nil' fun c w ho hs => Cod.at (E := [(0, _), (6, _), (22, _), (23, _), (24, _)]) (ho.sub ⟨rfl, rfl, rfl, rfl, rfl, trivial⟩) hs ?_
        refine .drop .z ?_
        refine .drop .z ?_
        refine .region ?_
        refine .add rfl rfl rfl rfl ?_
        refine .sub (E' := [(0, _), (6, _), (22, _), (23, _), (50, _)]) ⟨rfl, rfl, rfl, rfl, rfl, trivial⟩ ?_
        refine .skips 1 rfl ?_
        exact .nil' fun c w ho hs => ⟨((mput (x409.From, x409.To) r454 s388), w64 (s389 + 1)), hd, I455, le462, ho.sub ⟨rfl, rfl, rfl, rfl, rfl, trivial⟩, hs.pick (.c .z .n)⟩
      · have hd := hd.2 hb453
        refine .skip' fun c w ho hs => Cod.at (E := [(0, _), (6, _), (22, _), (23, _), (24, _), (9, _), (10, _)]) (ho.sub ⟨rfl, rfl, rfl, rfl, rfl, rfl, rfl, trivial⟩) hs ?_
        refine .drop .z ?_
        refine .region ?_
        refine .skips 1 rfl ?_
        refine .loadW Tryz.isAgg23 Tryz.sizeOf23 rfl (.s .z) rfl rfl rfl ?_
        refine .loadW Tryz.isAgg94 Tryz.sizeOf94 rfl .z rfl rfl rfl ?_
        refine .updM (k := (x409.From, x409.To)) (El := eWide) (ag := true) (v := r434) KA23 Tryz.underlying91 (.s (.s .z)) rfl rfl rfl ⟨[.int .i64 r434.Hi, .int .u64 r434.Lo], rfl, .a⟩ ?_
        refine .nil' fun c w ho hs => Cod.at (E := [(0, _), (6, _), (22, _), (23, _), (24, _)]) (ho.sub ⟨rfl, rfl, rfl, rfl, rfl, trivial⟩) hs ?_
        refine .drop .z ?_
        refine .drop .z ?_
        refine .region ?_
        refine .add rfl rfl rfl rfl ?_
        refine .sub (E' := [(0, _), (6, _), (22, _), (23, _), (50, _)]) ⟨rfl, rfl, rfl, rfl, rfl, trivial⟩ ?_
        refine .skips 1 rfl ?_
        exact .nil' fun c w ho hs => ⟨((mput (x409.From, x409.To) r434 s388), w64 (s389 + 1)), hd, I435, le442, ho.sub ⟨rfl, rfl, rfl, rfl, rfl, trivial⟩, hs.pick (.c .z .n)⟩
    · have hd := hd.2 hb396
      refine .exit fun c w ho hs => Cod.at (E := [(0, _), (6, _)]) (ho.sub ⟨rfl, rfl, trivial⟩) hs ?_
      refine .seq ?_
      refine .region ?_
      refine .skips 1 rfl ?_
      refine .nil' fun c w ho hs => Cod.at (E := [(0, _), (6, _), (13, _)]) (ho.sub ⟨rfl, rfl, rfl, trivial⟩) hs ?_
      refine .seq ?_
      refine .seq ?_
      refine .region ?_
      refine .skips 1 rfl ?_
      refine .rangeM Tryz.underlying91 .z rfl rfl rfl fun b464 => ?_
      refine .nil' fun c w ho hs => Cod.at (E := [(0, _), (13, _), (52, _)]) (ho.sub ⟨rfl, rfl, rfl, trivial⟩) hs ?_
      refine .block ?_
      refine .own0 eEdge 55 ?_
      refine .loop hd (fun (s : (List Edge) × (List ((Int × Int) × Wide))) c w => match s with | (s593, s597) => ∃ I_ p594 c595, IH.le I391 I_ ∧ Ok 78 [(0, .int .i64 a0), (13, .slice p594 s593.length c595), (52, .pointer (some ⟨b464, 0, none⟩))] c ∧ Sym w0 M I I_ [OwnSl eEdge 55 p594 c595 s593, OwnIt kArr2 eWide true b27 b464 s388 s597 none] w) (fun c w ho hs => ⟨I391, _, _, (.refl _), ho.sub ⟨rfl, rfl, rfl, trivial⟩, hs.pick (.c .z (.c .z .n))⟩) ?_
      rintro ⟨s593, s597⟩ next599 hd c w hst
      obtain ⟨I600, p594, c595, hl601, hok, hsym⟩ := hst
      have le602 := IH.le.trans le393 hl601
      have le603 := IH.le.trans le394 hl601
      have le604 := IH.le.trans (.refl _) hl601
      refine Cod.at hok hsym ?_
      refine .seq ?_
      refine .region ?_
      refine .nextM (.s .z) rfl hd rfl rfl (fun hd hn625 => ?_) (fun p619 l620 v621 cs622 hd hr623 hv624 hn625 => ?_)
      · skip
        refine .extract rfl rfl rfl rfl ?_
        refine .nil' fun c w ho hs => Cod.at (E := [(0, _), (13, _), (52, _), (54, _)]) (ho.sub ⟨rfl, rfl, rfl, rfl, trivial⟩) hs ?_
        refine .seq ?_
        refine .condKF rfl rfl ?_
        refine .exit fun c w ho hs => Cod.at (E := [(13, _)]) (ho.sub ⟨rfl, trivial⟩) hs ?_
        refine .drop (.s .z) ?_
        refine .seq ?_
        refine .region ?_
        refine .skips 1 rfl ?_
        have hw626 := Fun.sort (hk := fun _ => ⟨rfl, rfl⟩) SL113 Tryz.isAgg55 Tryz.sizeOf55 (fun x y J Q hq => W_edges_order (I := J) (a0 := x) (a1 := y) (Q := Q) hq) Tryz.call114 (I := I600) (T := 55) (a := p594) (cap := c595) hd
        refine .callS (.f Tryz.call113 rfl) (.c .z .n) hw626 rfl rfl fun v627 I628 l629 hl630 hv631 => ?_
        obtain ⟨y632, rfl, hlen633, rfl, hd⟩ := hv631
        have le634 := IH.le.trans le602 hl630
        have le635 := IH.le.trans le603 hl630
        have le636 := IH.le.trans le604 hl630
        refine .sub (E' := [(13, .slice p594 y632.length c595), (75, .slice p594 y632.length c595), (76, _)]) ⟨(by rw [hlen633]; rfl), (by rw [hlen633]; rfl), rfl, trivial⟩ ?_
        refine .nil' fun c w ho hs => Cod.at (E := [(13, _)]) (ho.sub ⟨rfl, trivial⟩) hs ?_
        refine .seq ?_
        refine .region ?_
        refine .skips 3 rfl ?_
        refine .nil' fun c w ho hs => Cod.at (E := [(4, _), (5, _)]) (ho.sub ⟨rfl, rfl, trivial⟩) hs ?_
        refine .pub .z fun I637 hl638 R639 => ?_
        have le640 := IH.le.trans le634 hl638
        have le641 := IH.le.trans le635 hl638
        have le642 := IH.le.trans le636 hl638
        exact .ret (pret Tryz.results109 (.t rfl (.t rfl .n)) le640 ⟨(y632, 0), _, _, rfl, R639, hd⟩)
      · skip
        cases hr623
        cases hv624
        refine .extract rfl rfl rfl rfl ?_
        refine .nil' fun c w ho hs => Cod.at (E := [(0, _), (13, _), (52, _), (54, _)]) (ho.sub ⟨rfl, rfl, rfl, rfl, trivial⟩) hs ?_
        refine .seq ?_
        refine .condKT rfl rfl ?_
        refine .skip' fun c w ho hs => Cod.at (E := [(0, _), (13, _), (52, _)]) (ho.sub ⟨rfl, rfl, rfl, trivial⟩) hs ?_
        refine .block ?_
        refine .seq ?_
        refine .region ?_
        refine .entryM .z rfl rfl rfl ?_
        refine .extract rfl rfl rfl rfl ?_
        refine .extract rfl rfl rfl rfl ?_
        refine .allocA Tryz.zeroValue23 rfl rfl fun b647 => ?_
        refine .allocA Tryz.zeroValue94 rfl rfl fun b649 => ?_
        refine .storeA Tryz.sizeOf23 rfl rfl (.s .z) (.t (.t .nil)) rfl rfl ?_
        refine .storeA Tryz.sizeOf94 rfl rfl .z (.t (.t .nil)) rfl rfl ?_
        refine .nil' fun c w ho hs => Cod.at (E := [(0, _), (13, _), (52, _), (14, _), (15, _)]) (ho.sub ⟨rfl, rfl, rfl, rfl, rfl, trivial⟩) hs ?_
        refine .seq ?_
        refine .region ?_
        refine .skips 1 rfl ?_
        refine .loadW Tryz.isAgg94 Tryz.sizeOf94 rfl .z rfl rfl rfl ?_
        have hw667 := W_ring_Narrow (I := I600) hd
        refine .call Tryz.call64 rfl hw667 rfl rfl fun v665 I662 hl663 hv664 => ?_
        obtain ⟨r661, rfl, hd⟩ := hv664
        have le668 := IH.le.trans le602 hl663
        have le669 := IH.le.trans le603 hl663
        have le670 := IH.le.trans le604 hl663
        refine .skips 1 rfl ?_
        refine .extract rfl rfl rfl rfl ?_
        refine .extract rfl rfl rfl rfl ?_
        refine .skips 2 rfl ?_
        refine .nil' fun c w ho hs => Cod.at (E := [(0, _), (13, _), (52, _), (14, _), (16, _), (17, _)]) (ho.sub ⟨rfl, rfl, rfl, rfl, rfl, rfl, trivial⟩) hs ?_
        refine .drop .z ?_
        refine .seq ?_
        refine .seq ?_
        refine .region ?_
        refine .skips 1 rfl ?_
        refine .not rfl rfl rfl ?_
        refine .nil' fun c w ho hs => Cod.at (E := [(0, _), (13, _), (52, _), (14, _), (16, _), (65, _)]) (ho.sub ⟨rfl, rfl, rfl, rfl, rfl, rfl, trivial⟩) hs ?_
        refine .cond rfl (fun hb671 => ?_) (fun hb671 => ?_)
        · have hd := hd.1 hb671
          refine .seq ?_
          refine .region ?_
          refine .skips 2 rfl ?_
          refine .nil' fun c w ho hs => Cod.at (E := [(4, _), (5, _)]) (ho.sub ⟨rfl, rfl, trivial⟩) hs ?_
          refine .drop .z ?_
          refine .drop .z ?_
          refine .drop .z ?_
          exact .ret (pret Tryz.results109 (.t rfl (.t rfl .n)) le668 ⟨(([] : List Edge), 12), _, _, rfl, (.nil _ _ _), hd⟩)
        · have hd := hd.2 hb671
          refine .skip' fun c w ho hs => Cod.at (E := [(0, _), (13, _), (52, _), (14, _), (16, _)]) (ho.sub ⟨rfl, rfl, rfl, rfl, rfl, trivial⟩) hs ?_
          refine .region ?_
          refine .skips 1 rfl ?_
          refine .ixArr (i := 0) Tryz.underlying23 Tryz.sizeOf3 rfl rfl (by decide) (o := 0) rfl rfl rfl ?_
          refine .load1 Tryz.isAgg3 rfl .z rfl rfl rfl ?_
          refine .ixArr (i := 1) Tryz.underlying23 Tryz.sizeOf3 rfl rfl (by decide) (o := 1) rfl rfl rfl ?_
          refine .load1 Tryz.isAgg3 rfl .z rfl rfl rfl ?_
          refine .skips 1 rfl ?_
          refine .build Tryz.zeroValue55 Tryz.underlying55 BI55 (.c rfl rfl rfl (.t .nil) (.c rfl rfl rfl (.s (.t .nil)) (.c rfl rfl rfl (.s (.s (.t .nil))) .n))) (by exact ⟨⟨_, _, rfl, rfl, rfl⟩, ⟨⟨_, _, rfl, rfl, rfl⟩, ⟨⟨_, _, rfl, rfl, rfl⟩, trivial⟩⟩⟩) rfl rfl ?_
          refine .buildSlice 1 Tryz.underlying48 Tryz.sizeOf55 Tryz.zeroValue55 rfl rfl (.c rfl rfl rfl .n) rfl rfl fun b672 => ?_
          obtain ⟨hl674, hd⟩ := hd
          refine .append (ys := [({ From := p619.1.1, To := p619.1.2, W := r661.1 } : Edge)]) 24 (.s (.s (.s .z))) Tryz.underlying48 Tryz.underlying48 IN55 rfl rfl rfl rfl rfl rfl rfl rfl rfl (.box .z (.one rfl) rfl) hl674 rfl rfl fun p675 c676 => ?_
          refine .sub (E' := [(0, _), (52, _), (14, _), (16, _), (66, _), (67, _), (68, _), (69, _), (70, _), (71, _), (72, _), (73, _), (74, _)]) ⟨rfl, rfl, rfl, rfl, rfl, rfl, rfl, rfl, rfl, rfl, rfl, rfl, rfl, trivial⟩ ?_
          refine .skips 1 rfl ?_
          exact .nil' fun c w ho hs => ⟨((s593 ++ ([({ From := p619.1.1, To := p619.1.2, W := r661.1 } : Edge)])), l620), hd, I662, _, _, le670, ho.sub ⟨rfl, rfl, rfl, trivial⟩, hs.pick (.c .z (.c (.s (.s .z)) .n))⟩

theorem W_edges_Canon {I : IH} {a0 : Graph} {p1 : Option Addr} {c2 : Nat} {Q : Graph → Prop} (R3 : RepSl eEdge I p1 c2 a0.Edges) (hd : edges_Canon a0 Q) :
    PFun Tryz.prog 101 [.agg #[.int .i64 a0.N, .slice p1 a0.Edges.length c2]] I (fun I_ v => ∃ r p4 c5, v = .agg #[.int .i64 r.N, .slice p4 r.Edges.length c5] ∧ RepSl eEdge I_ p4 c5 r.Edges ∧ Q r) := by
  refine Fun.enter Tryz.func101 rfl Tryz.ntmps101 rfl (.c .n) fun w0 M => ?_
  refine .seq ?_
  refine .region ?_
  refine .boxA rfl rfl rfl fun b11 => ?_
  refine .allocA Tryz.zeroValue50 rfl rfl fun b13 => ?_
  refine .nil' fun c w ho hs => Cod.at (E := [(1, _), (2, _)]) (ho.sub ⟨rfl, rfl, trivial⟩) hs ?_
  refine .seq ?_
  refine .region ?_
  refine .fieldAddr Tryz.underlying50 rfl Tryz.sizeOf48 rfl (o := 1) rfl rfl rfl ?_
  refine .load1 Tryz.isAgg48 rfl (.s .z) rfl rfl rfl ?_
  have hw24 := W_edges_Combine (I := I) R3 hd
  refine .call Tryz.call109 rfl hw24 rfl rfl fun v19 I16 hl17 hv18 => ?_
  obtain ⟨r15, p21, c22, rfl, R23, hd⟩ := hv18
  have le25 := IH.le.trans (.refl _) hl17
  replace R3 := R3.mono hl17
  refine .skips 1 rfl ?_
  refine .extract rfl rfl rfl rfl ?_
  refine .extract rfl rfl rfl rfl ?_
  refine .skips 2 rfl ?_
  refine .nil' fun c w ho hs => Cod.at (E := [(1, _), (2, _), (3, _)]) (ho.sub ⟨rfl, rfl, rfl, trivial⟩) hs ?_
  refine .seq ?_
  refine .region ?_
  refine .fieldAddr Tryz.underlying50 rfl Tryz.sizeOf3 rfl (o := 0) rfl rfl rfl ?_
  refine .load1 Tryz.isAgg3 rfl (.s .z) rfl rfl rfl ?_
  refine .skips 1 rfl ?_
  refine .build Tryz.zeroValue50 Tryz.underlying50 BI50 (.c rfl rfl rfl (.t .nil) (.c rfl rfl rfl (.s (.t .nil)) .n)) (by exact ⟨⟨_, _, rfl, rfl, rfl⟩, ⟨⟨_, _, rfl, rfl, rfl⟩, trivial⟩⟩) rfl rfl ?_
  refine .storeA Tryz.sizeOf50 rfl rfl .z (.t (.t .nil)) rfl rfl ?_
  refine .nil' fun c w ho hs => Cod.at (E := [(2, _)]) (ho.sub ⟨rfl, trivial⟩) hs ?_
  refine .drop (.s .z) ?_
  exact .ret (pret Tryz.results101 (.w Tryz.isAgg50 Tryz.sizeOf50 rfl .z rfl .n) le25 ⟨({ N := a0.N, Edges := r15.1 } : Graph), _, _, rfl, R23, hd⟩)

theorem W_edges_turned_i11 {I : IH} {a0 : Edge}  {Q : (Edge × Bool) → Prop}  (hd : edges_turned_i11 a0 Q) :
    Fun Tryz.prog 81 #[.agg (encEdge a0).toArray] I [] (fun I_ v l => ∃ r, v = .tuple #[.agg (encEdge r.1).toArray, .bool r.2] ∧ l = [] ∧ Q r) := by
  refine Fun.enter (vs := [.agg (encEdge a0).toArray]) Tryz.func81 rfl Tryz.ntmps81 rfl (.c .n) fun w0 M => ?_
  refine .seq ?_
  refine .region ?_
  refine .boxA rfl rfl rfl fun b5 => ?_
  refine .allocA Tryz.zeroValue55 rfl rfl fun b7 => ?_
  refine .skips 1 rfl ?_
  refine .nil' fun c w ho hs => Cod.at (E := [(1, _), (2, _)]) (ho.sub ⟨rfl, rfl, trivial⟩) hs ?_
  refine .seq ?_
  refine .region ?_
  refine .fieldAddr Tryz.underlying55 rfl Tryz.sizeOf3 rfl (o := 1) rfl rfl rfl ?_
  refine .load1 Tryz.isAgg3 rfl (.s .z) rfl rfl rfl ?_
  refine .fieldAddr Tryz.underlying55 rfl Tryz.sizeOf3 rfl (o := 0) rfl rfl rfl ?_
  refine .load1 Tryz.isAgg3 rfl (.s .z) rfl rfl rfl ?_
  refine .fieldAddr Tryz.underlying55 rfl Tryz.sizeOf2 rfl (o := 2) rfl rfl rfl ?_
  refine .load1 Tryz.isAgg2 rfl (.s .z) rfl rfl rfl ?_
  refine .build Tryz.zeroValue55 Tryz.underlying55 BI55 (.c rfl rfl rfl (.t .nil) (.c rfl rfl rfl (.s (.t .nil)) (.c rfl rfl rfl (.s (.s (.t .nil))) .n))) (by exact ⟨⟨_, _, rfl, rfl, rfl⟩, ⟨⟨_, _, rfl, rfl, rfl⟩, ⟨⟨_, _, rfl, rfl, rfl⟩, trivial⟩⟩⟩) rfl rfl ?_
  refine .storeA Tryz.sizeOf55 rfl rfl .z (.t (.t (.t .nil))) rfl rfl ?_
  refine .skips 1 rfl ?_
  refine .nil' fun c w ho hs => Cod.at (E := [(2, _), (3, _)]) (ho.sub ⟨rfl, rfl, trivial⟩) hs ?_
  refine .drop (.s .z) ?_
  exact .ret (oret Tryz.results81 (.w Tryz.isAgg55 Tryz.sizeOf55 rfl .z rfl (.t rfl .n)) (.refl _) .n ⟨(({ From := a0.To, To := a0.From, W := a0.W } : Edge), true), rfl, rfl, hd⟩)

theorem W_edges_made_i10 {I : IH} {a0 : Graph} {p1 : Option Addr} {c2 : Nat} {Q : Graph → Prop} (R3 : RepSl eEdge I p1 c2 a0.Edges) (hd : edges_made_i10 a0 Q) :
    Fun Tryz.prog 80 #[.agg #[.int .i64 a0.N, .slice p1 a0.Edges.length c2], .func (.func 81) #[] #[]] I [] (fun I_ v l => ∃ r p4 c5, v = .agg #[.int .i64 r.N, .slice p4 r.Edges.length c5] ∧ RepSl eEdge I_ p4 c5 r.Edges ∧ l = [] ∧ Q r) := by
  refine Fun.enter (vs := [.agg #[.int .i64 a0.N, .slice p1 a0.Edges.length c2], .func (.func 81) #[] #[]]) Tryz.func80 rfl Tryz.ntmps80 rfl (.c (.c .n)) fun w0 M => ?_
  refine .seq ?_
  refine .region ?_
  refine .boxA rfl rfl rfl fun b8 => ?_
  refine .allocA Tryz.zeroValue50 rfl rfl fun b10 => ?_
  refine .nil' fun c w ho hs => Cod.at (E := [(1, _), (2, _), (4, _)]) (ho.sub ⟨rfl, rfl, rfl, trivial⟩) hs ?_
  refine .seq ?_
  refine .region ?_
  refine .skips 1 rfl ?_
  refine .nil' fun c w ho hs => Cod.at (E := [(1, _), (2, _), (4, _), (5, _)]) (ho.sub ⟨rfl, rfl, rfl, rfl, trivial⟩) hs ?_
  refine .seq ?_
  refine .seq ?_
  refine .region ?_
  refine .fieldAddr Tryz.underlying50 rfl Tryz.sizeOf48 rfl (o := 1) rfl rfl rfl ?_
  refine .load1 Tryz.isAgg48 rfl (.s .z) rfl rfl rfl ?_
  refine .len Tryz.underlying48 rfl rfl rfl rfl ?_
  refine .skips 1 rfl ?_
  refine .nil' fun c w ho hs => Cod.at (E := [(1, _), (2, _), (4, _), (5, _), (11, _), (12, _), (13, _)]) (ho.sub ⟨rfl, rfl, rfl, rfl, rfl, rfl, rfl, trivial⟩) hs ?_
  refine .block ?_
  refine .own0 eEdge 55 ?_
  refine .loop hd (fun (s : (List Edge) × Int) c w => match s with | (s110, s114) => ∃ I_ p111 c112, IH.le I I_ ∧ Ok 34 [(1, .func (.func 81) #[] #[]), (2, .pointer (some ⟨b8, 0, none⟩)), (4, .pointer (some ⟨b10, 0, none⟩)), (5, .slice p111 s110.length c112), (11, .slice p1 a0.Edges.length c2), (12, .int .i64 (a0.Edges.length : Int)), (13, .int .i64 s114)] c ∧ Sym w0 M I I_ [pto b8 (.cells #[.int .i64 a0.N, .slice p1 a0.Edges.length c2] 50 (0, 0)), pto b10 (.cells #[.int .i64 0, .slice none 0 0] 50 (0, 0)), OwnSl eEdge 55 p111 c112 s110] w) (fun c w ho hs => ⟨I, _, _, (.refl _), ho.sub ⟨rfl, rfl, rfl, rfl, rfl, rfl, rfl, trivial⟩, hs.pick (.c (.s (.s .z)) (.c (.s .z) (.c .z .n)))⟩) ?_
  rintro ⟨s110, s114⟩ next116 hd c w hst
  obtain ⟨I117, p111, c112, hl118, hok, hsym⟩ := hst
  have le119 := IH.le.trans (.refl _) hl118
  replace R3 := R3.mono hl118
  refine Cod.at hok hsym ?_
  refine .seq ?_
  refine .region ?_
  refine .lt rfl rfl rfl rfl ?_
  refine .nil' fun c w ho hs => Cod.at (E := [(1, _), (2, _), (4, _), (5, _), (11, _), (12, _), (13, _), (14, _)]) (ho.sub ⟨rfl, rfl, rfl, rfl, rfl, rfl, rfl, rfl, trivial⟩) hs ?_
  refine .seq ?_
  refine .cond rfl (fun hb121 => ?_) (fun hb121 => ?_)
  · have hd := hd.1 hb121
    refine .skip' fun c w ho hs => Cod.at (E := [(1, _), (2, _), (4, _), (5, _), (11, _), (12, _), (13, _)]) (ho.sub ⟨rfl, rfl, rfl, rfl, rfl, rfl, rfl, trivial⟩) hs ?_
    refine .seq ?_
    refine .block ?_
    refine .seq ?_
    refine .region ?_
    obtain ⟨h133, x134, hx135, hd⟩ := hd
    obtain ⟨b136, o137, cs138, e139, hC140, hr141⟩ := R3.2 _ _ hx135
    cases hr141
    refine .ixa Tryz.underlying48 Tryz.sizeOf55 rfl e139 rfl h133 (idx_lt hx135 h133) rfl rfl ?_
    refine .ldW Tryz.isAgg55 Tryz.sizeOf55 hC140 rfl rfl rfl rfl ?_
    refine .allocA Tryz.zeroValue55 rfl rfl fun b142 => ?_
    refine .storeA Tryz.sizeOf55 rfl rfl .z (.t (.t (.t .nil))) rfl rfl ?_
    refine .nil' fun c w ho hs => Cod.at (E := [(1, _), (2, _), (4, _), (5, _), (11, _), (12, _), (13, _), (7, _)]) (ho.sub ⟨rfl, rfl, rfl, rfl, rfl, rfl, rfl, rfl, trivial⟩) hs ?_
    refine .seq ?_
    refine .region ?_
    refine .skips 1 rfl ?_
    refine .loadW Tryz.isAgg55 Tryz.sizeOf55 rfl .z rfl rfl rfl ?_
    have hw144 := W_edges_turned_i11 (I := I117) (a0 := x134) hd
    refine .callS (.c Tryz.call81 rfl rfl) .n hw144 rfl rfl fun v148 I145 l149 hl146 hv147 => ?_
    obtain ⟨r150, rfl, rfl, hd⟩ := hv147
    have le151 := IH.le.trans le119 hl146
    replace R3 := R3.mono hl146
    refine .re (m' := [pto b142 (.cells #[.int .i64 x134.From, .int .i64 x134.To, .int .i64 x134.W] 55 (0, 0)), pto b8 (.cells #[.int .i64 a0.N, .slice p1 a0.Edges.length c2] 50 (0, 0)), pto b10 (.cells #[.int .i64 0, .slice none 0 0] 50 (0, 0)), OwnSl eEdge 55 p111 c112 s110]) rfl ?_
    refine .skips 1 rfl ?_
    refine .extract rfl rfl rfl rfl ?_
    refine .extract rfl rfl rfl rfl ?_
    refine .allocA Tryz.zeroValue55 rfl rfl fun b152 => ?_
    refine .storeA Tryz.sizeOf55 rfl rfl .z (.t (.t (.t .nil))) rfl rfl ?_
    refine .skips 1 rfl ?_
    refine .nil' fun c w ho hs => Cod.at (E := [(1, _), (2, _), (4, _), (5, _), (11, _), (12, _), (13, _), (8, _), (9, _)]) (ho.sub ⟨rfl, rfl, rfl, rfl, rfl, rfl, rfl, rfl, rfl, trivial⟩) hs ?_
    refine .drop (.s .z) ?_
    refine .seq ?_
    refine .region ?_
    refine .skips 1 rfl ?_
    refine .nil' fun c w ho hs => Cod.at (E := [(1, _), (2, _), (4, _), (5, _), (11, _), (12, _), (13, _), (8, _), (23, _)]) (ho.sub ⟨rfl, rfl, rfl, rfl, rfl, rfl, rfl, rfl, rfl, trivial⟩) hs ?_
    refine .cond rfl (fun hb154 => ?_) (fun hb154 => ?_)
    · have hd := hd.1 hb154
      refine .region ?_
      refine .skips 1 rfl ?_
      refine .loadW Tryz.isAgg55 Tryz.sizeOf55 rfl .z rfl rfl rfl ?_
      refine .buildSlice 1 Tryz.underlying48 Tryz.sizeOf55 Tryz.zeroValue55 rfl rfl (.c rfl rfl rfl .n) rfl rfl fun b155 => ?_
      obtain ⟨hl157, hd⟩ := hd
      refine .append (ys := [r150.1]) 24 (.s (.s (.s (.s .z)))) Tryz.underlying48 Tryz.underlying48 IN55 rfl rfl rfl rfl rfl rfl rfl rfl rfl (.box .z (.one rfl) rfl) hl157 rfl rfl fun p158 c159 => ?_
      refine .sub (E' := [(1, _), (2, _), (4, _), (11, _), (12, _), (13, _), (8, _), (23, _), (24, _), (25, _), (26, _), (27, _)]) ⟨rfl, rfl, rfl, rfl, rfl, rfl, rfl, rfl, rfl, rfl, rfl, rfl, trivial⟩ ?_
      refine .skips 1 rfl ?_
      refine .nil' fun c w ho hs => Cod.at (E := [(1, _), (2, _), (4, _), (11, _), (12, _), (13, _), (5, _)]) (ho.sub ⟨rfl, rfl, rfl, rfl, rfl, rfl, rfl, trivial⟩) hs ?_
      refine .drop (.s .z) ?_
      refine .drop (.s .z) ?_
      refine .region ?_
      refine .add rfl rfl rfl rfl ?_
      refine .sub (E' := [(1, _), (2, _), (4, _), (11, _), (12, _), (5, _), (28, _)]) ⟨rfl, rfl, rfl, rfl, rfl, rfl, rfl, trivial⟩ ?_
      refine .skips 1 rfl ?_
      exact .nil' fun c w ho hs => ⟨((s110 ++ ([r150.1])), w64 (s114 + 1)), hd, I145, _, _, le151, ho.sub ⟨rfl, rfl, rfl, rfl, rfl, rfl, rfl, trivial⟩, hs.pick (.c (.s .z) (.c (.s .z) (.c .z .n)))⟩
    · have hd := hd.2 hb154
      refine .skip' fun c w ho hs => Cod.at (E := [(1, _), (2, _), (4, _), (5, _), (11, _), (12, _), (13, _)]) (ho.sub ⟨rfl, rfl, rfl, rfl, rfl, rfl, rfl, trivial⟩) hs ?_
      refine .drop .z ?_
      refine .region ?_
      refine .add rfl rfl rfl rfl ?_
      refine .sub (E' := [(1, _), (2, _), (4, _), (5, _), (11, _), (12, _), (28, _)]) ⟨rfl, rfl, rfl, rfl, rfl, rfl, rfl, trivial⟩ ?_
      refine .skips 1 rfl ?_
      exact .nil' fun c w ho hs => ⟨(s110, w64 (s114 + 1)), hd, I145, _, _, le151, ho.sub ⟨rfl, rfl, rfl, rfl, rfl, rfl, rfl, trivial⟩, hs.pick (.c .z (.c .z (.c .z .n)))⟩
  · have hd := hd.2 hb121
    refine .exit fun c w ho hs => Cod.at (E := [(1, _), (2, _), (4, _), (5, _)]) (ho.sub ⟨rfl, rfl, rfl, rfl, trivial⟩) hs ?_
    refine .seq ?_
    refine .region ?_
    refine .fieldAddr Tryz.underlying50 rfl Tryz.sizeOf3 rfl (o := 0) rfl rfl rfl ?_
    refine .load1 Tryz.isAgg3 rfl .z rfl rfl rfl ?_
    refine .skips 1 rfl ?_
    refine .build Tryz.zeroValue50 Tryz.underlying50 BI50 (.c rfl rfl rfl (.t .nil) (.c rfl rfl rfl (.s (.t .nil)) .n)) (by exact ⟨⟨_, _, rfl, rfl, rfl⟩, ⟨⟨_, _, rfl, rfl, rfl⟩, trivial⟩⟩) rfl rfl ?_
    refine .pub (.s (.s .z)) fun I161 hl162 R163 => ?_
    have le164 := IH.le.trans le119 hl162
    replace R3 := R3.mono hl162
    have hw174 := W_edges_Canon (I := I161) R163 hd
    refine .call Tryz.call101 rfl hw174 rfl rfl fun v169 I166 hl167 hv168 => ?_
    obtain ⟨r165, p171, c172, rfl, R173, hd⟩ := hv168
    have le175 := IH.le.trans le164 hl167
    replace R3 := R3.mono hl167
    replace R163 := R163.mono hl167
    refine .storeA Tryz.sizeOf50 rfl rfl (.s .z) (.t (.t .nil)) rfl rfl ?_
    refine .nil' fun c w ho hs => Cod.at (E := [(1, _), (4, _)]) (ho.sub ⟨rfl, rfl, trivial⟩) hs ?_
    refine .drop .z ?_
    exact .ret (oret Tryz.results80 (.w Tryz.isAgg50 Tryz.sizeOf50 rfl .z rfl .n) le175 .n ⟨r165, _, _, rfl, R173, rfl, hd⟩)

theorem W_edges_Turn {I : IH} {a0 : Graph} {p1 : Option Addr} {c2 : Nat} {Q : Graph → Prop} (R3 : RepSl eEdge I p1 c2 a0.Edges) (hd : edges_Turn a0 Q) :
    PFun Tryz.prog 59 [.agg #[.int .i64 a0.N, .slice p1 a0.Edges.length c2]] I (fun I_ v => ∃ r p4 c5, v = .agg #[.int .i64 r.N, .slice p4 r.Edges.length c5] ∧ RepSl eEdge I_ p4 c5 r.Edges ∧ Q r) := by
  refine Fun.enter Tryz.func59 rfl Tryz.ntmps59 rfl (.c .n) fun w0 M => ?_
  refine .seq ?_
  refine .region ?_
  refine .boxA rfl rfl rfl fun b7 => ?_
  refine .allocA Tryz.zeroValue50 rfl rfl fun b9 => ?_
  refine .nil' fun c w ho hs => Cod.at (E := [(1, _), (2, _)]) (ho.sub ⟨rfl, rfl, trivial⟩) hs ?_
  refine .seq ?_
  refine .region ?_
  refine .loadW Tryz.isAgg50 Tryz.sizeOf50 rfl (.s .z) rfl rfl rfl ?_
  have hw11 := W_edges_made_i10 (I := I) (a0 := a0) R3 hd
  refine .callS (.f Tryz.call80 rfl) .n hw11 rfl rfl fun v15 I12 l16 hl13 hv14 => ?_
  obtain ⟨r17, p18, c19, rfl, R20, rfl, hd⟩ := hv14
  have le21 := IH.le.trans (.refl _) hl13
  replace R3 := R3.mono hl13
  refine .re (m' := [pto b9 (.cells #[.int .i64 0, .slice none 0 0] 50 (0, 0)), pto b7 (.cells #[.int .i64 a0.N, .slice p1 a0.Edges.length c2] 50 (0, 0))]) rfl ?_
  refine .storeA Tryz.sizeOf50 rfl rfl .z (.t (.t .nil)) rfl rfl ?_
  refine .nil' fun c w ho hs => Cod.at (E := [(2, _)]) (ho.sub ⟨rfl, trivial⟩) hs ?_
  refine .drop (.s .z) ?_
  exact .ret (pret Tryz.results59 (.w Tryz.isAgg50 Tryz.sizeOf50 rfl .z rfl .n) le21 ⟨r17, _, _, rfl, R20, hd⟩)

theorem W_csr_Graph {I : IH} {a0 : Graph} {p1 : Option Addr} {c2 : Nat} {Q : (Rows × Int) → Prop} (R3 : RepSl eEdge I p1 c2 a0.Edges) (hd : csr_Graph a0 Q) :
    PFun Tryz.prog 31 [.agg #[.int .i64 a0.N, .slice p1 a0.Edges.length c2]] I (fun I_ v => ∃ r p4 c5 p7 c8 p10 c11, v = .tuple #[.agg #[.int .i64 r.1.Rows, .int .i64 r.1.Cols, .slice p4 r.1.Start.length c5, .slice p7 r.1.Col.length c8, .slice p10 r.1.Val.length c11], .int .i64 r.2] ∧ RepSl eI64 I_ p4 c5 r.1.Start ∧ RepSl eI64 I_ p7 c8 r.1.Col ∧ RepSl eI64 I_ p10 c11 r.1.Val ∧ Q r) := by
  refine Fun.enter Tryz.func31 rfl Tryz.ntmps31 rfl (.c .n) fun w0 M => ?_
  refine .seq ?_
  refine .region ?_
  refine .boxA rfl rfl rfl fun b17 => ?_
  refine .allocA Tryz.zeroValue29 rfl rfl fun b19 => ?_
  refine .skips 1 rfl ?_
  refine .nil' fun c w ho hs => Cod.at (E := [(1, _), (2, _)]) (ho.sub ⟨rfl, rfl, trivial⟩) hs ?_
  refine .seq ?_
  refine .seq ?_
  refine .region ?_
  refine .loadW Tryz.isAgg50 Tryz.sizeOf50 rfl (.s .z) rfl rfl rfl ?_
  have hw52 := W_edges_Right (I := I) R3 hd
  refine .call Tryz.call58 rfl hw52 rfl rfl fun v50 I47 hl48 hv49 => ?_
  obtain ⟨r46, rfl, hd⟩ := hv49
  have le53 := IH.le.trans (.refl _) hl48
  replace R3 := R3.mono hl48
  refine .skips 1 rfl ?_
  refine .nil' fun c w ho hs => Cod.at (E := [(1, _), (2, _), (4, _)]) (ho.sub ⟨rfl, rfl, rfl, trivial⟩) hs ?_
  refine .seq ?_
  refine .region ?_
  refine .skips 1 rfl ?_
  refine .ne rfl rfl rfl rfl ?_
  refine .nil' fun c w ho hs => Cod.at (E := [(1, _), (2, _), (4, _), (11, _)]) (ho.sub ⟨rfl, rfl, rfl, rfl, trivial⟩) hs ?_
  refine .cond rfl (fun hb54 => ?_) (fun hb54 => ?_)
  · have hd := hd.1 hb54
    refine .seq ?_
    refine .region ?_
    refine .build Tryz.zeroValue29 Tryz.underlying29 BI29 .n (by exact trivial) rfl rfl ?_
    refine .skips 1 rfl ?_
    refine .storeA Tryz.sizeOf29 rfl rfl .z (.t (.t (.t (.t (.t .nil))))) rfl rfl ?_
    refine .skips 1 rfl ?_
    refine .nil' fun c w ho hs => Cod.at (E := [(2, _), (3, _)]) (ho.sub ⟨rfl, rfl, trivial⟩) hs ?_
    refine .drop (.s .z) ?_
    exact .ret (pret Tryz.results31 (.w Tryz.isAgg29 Tryz.sizeOf29 rfl .z rfl (.t rfl .n)) le53 ⟨(({ Rows := 0, Cols := 0, Start := ([] : List Int), Col := ([] : List Int), Val := ([] : List Int) } : Rows), r46), _, _, _, _, _, _, rfl, (.nil _ _ _), (.nil _ _ _), (.nil _ _ _), hd⟩)
  · have hd := hd.2 hb54
    refine .skip' fun c w ho hs => Cod.at (E := [(1, _), (2, _)]) (ho.sub ⟨rfl, rfl, trivial⟩) hs ?_
    refine .seq ?_
    refine .region ?_
    refine .skips 1 rfl ?_
    refine .nil' fun c w ho hs => Cod.at (E := [(1, _), (2, _), (5, _)]) (ho.sub ⟨rfl, rfl, rfl, trivial⟩) hs ?_
    refine .seq ?_
    refine .seq ?_
    refine .region ?_
    refine .loadW Tryz.isAgg50 Tryz.sizeOf50 rfl (.s .z) rfl rfl rfl ?_
    have hw75 := W_edges_Turn (I := I47) R3 hd
    refine .call Tryz.call59 rfl hw75 rfl rfl fun v70 I67 hl68 hv69 => ?_
    obtain ⟨r66, p72, c73, rfl, R74, hd⟩ := hv69
    have le76 := IH.le.trans le53 hl68
    replace R3 := R3.mono hl68
    refine .field1 Tryz.underlying50 rfl Tryz.isAgg48 rfl rfl rfl rfl ?_
    refine .len Tryz.underlying48 rfl rfl rfl rfl ?_
    refine .skips 1 rfl ?_
    refine .nil' fun c w ho hs => Cod.at (E := [(1, _), (2, _), (5, _), (16, _), (17, _), (18, _)]) (ho.sub ⟨rfl, rfl, rfl, rfl, rfl, rfl, trivial⟩) hs ?_
    refine .block ?_
    refine .own0 eTriple 60 ?_
    refine .loop hd (fun (s : (List Triple) × Int) c w => match s with | (s153, s157) => ∃ I_ p154 c155, IH.le I67 I_ ∧ Ok 39 [(1, .pointer (some ⟨b17, 0, none⟩)), (2, .pointer (some ⟨b19, 0, none⟩)), (5, .slice p154 s153.length c155), (16, .slice p72 r66.Edges.length c73), (17, .int .i64 (r66.Edges.length : Int)), (18, .int .i64 s157)] c ∧ Sym w0 M I I_ [pto b17 (.cells #[.int .i64 a0.N, .slice p1 a0.Edges.length c2] 50 (0, 0)), pto b19 (.cells #[.int .i64 0, .int .i64 0, .slice none 0 0, .slice none 0 0, .slice none 0 0] 29 (0, 0)), OwnSl eTriple 60 p154 c155 s153] w) (fun c w ho hs => ⟨I67, _, _, (.refl _), ho.sub ⟨rfl, rfl, rfl, rfl, rfl, rfl, trivial⟩, hs.pick (.c (.s (.s .z)) (.c (.s .z) (.c .z .n)))⟩) ?_
    rintro ⟨s153, s157⟩ next159 hd c w hst
    obtain ⟨I160, p154, c155, hl161, hok, hsym⟩ := hst
    have le162 := IH.le.trans le76 hl161
    have le163 := IH.le.trans (.refl _) hl161
    replace R3 := R3.mono hl161
    replace R74 := R74.mono hl161
    refine Cod.at hok hsym ?_
    refine .seq ?_
    refine .region ?_
    refine .lt rfl rfl rfl rfl ?_
    refine .nil' fun c w ho hs => Cod.at (E := [(1, _), (2, _), (5, _), (16, _), (17, _), (18, _), (19, _)]) (ho.sub ⟨rfl, rfl, rfl, rfl, rfl, rfl, rfl, trivial⟩) hs ?_
    refine .seq ?_
    refine .cond rfl (fun hb165 => ?_) (fun hb165 => ?_)
    · have hd := hd.1 hb165
      refine .skip' fun c w ho hs => Cod.at (E := [(1, _), (2, _), (5, _), (16, _), (17, _), (18, _)]) (ho.sub ⟨rfl, rfl, rfl, rfl, rfl, rfl, trivial⟩) hs ?_
      refine .seq ?_
      refine .block ?_
      refine .seq ?_
      refine .region ?_
      obtain ⟨h177, x178, hx179, hd⟩ := hd
      obtain ⟨b180, o181, cs182, e183, hC184, hr185⟩ := R74.2 _ _ hx179
      cases hr185
      refine .ixa Tryz.underlying48 Tryz.sizeOf55 rfl e183 rfl h177 (idx_lt hx179 h177) rfl rfl ?_
      refine .ldW Tryz.isAgg55 Tryz.sizeOf55 hC184 rfl rfl rfl rfl ?_
      refine .allocA Tryz.zeroValue55 rfl rfl fun b186 => ?_
      refine .storeA Tryz.sizeOf55 rfl rfl .z (.t (.t (.t .nil))) rfl rfl ?_
      refine .nil' fun c w ho hs => Cod.at (E := [(1, _), (2, _), (5, _), (16, _), (17, _), (18, _), (7, _)]) (ho.sub ⟨rfl, rfl, rfl, rfl, rfl, rfl, rfl, trivial⟩) hs ?_
      refine .region ?_
      refine .skips 1 rfl ?_
      refine .fieldAddr Tryz.underlying55 rfl Tryz.sizeOf3 rfl (o := 0) rfl rfl rfl ?_
      refine .load1 Tryz.isAgg3 rfl .z rfl rfl rfl ?_
      refine .fieldAddr Tryz.underlying55 rfl Tryz.sizeOf3 rfl (o := 1) rfl rfl rfl ?_
      refine .load1 Tryz.isAgg3 rfl .z rfl rfl rfl ?_
      refine .fieldAddr Tryz.underlying55 rfl Tryz.sizeOf2 rfl (o := 2) rfl rfl rfl ?_
      refine .load1 Tryz.isAgg2 rfl .z rfl rfl rfl ?_
      refine .build Tryz.zeroValue60 Tryz.underlying60 BI60 (.c rfl rfl rfl (.t .nil) (.c rfl rfl rfl (.s (.t .nil)) (.c rfl rfl rfl (.s (.s (.t .nil))) .n))) (by exact ⟨⟨_, _, rfl, rfl, rfl⟩, ⟨⟨_, _, rfl, rfl, rfl⟩, ⟨⟨_, _, rfl, rfl, rfl⟩, trivial⟩⟩⟩) rfl rfl ?_
      refine .buildSlice 1 Tryz.underlying24 Tryz.sizeOf60 Tryz.zeroValue60 rfl rfl (.c rfl rfl rfl .n) rfl rfl fun b188 => ?_
      obtain ⟨hl190, hd⟩ := hd
      refine .append (ys := [({ Row := x178.From, Col := x178.To, Val := x178.W } : Triple)]) 24 (.s (.s (.s (.s .z)))) Tryz.underlying24 Tryz.underlying24 IN60 rfl rfl rfl rfl rfl rfl rfl rfl rfl (.box .z (.one rfl) rfl) hl190 rfl rfl fun p191 c192 => ?_
      refine .sub (E' := [(1, _), (2, _), (16, _), (17, _), (18, _), (7, _), (22, _), (23, _), (24, _), (25, _), (26, _), (27, _), (28, _), (29, _), (30, _), (31, _)]) ⟨rfl, rfl, rfl, rfl, rfl, rfl, rfl, rfl, rfl, rfl, rfl, rfl, rfl, rfl, rfl, rfl, trivial⟩ ?_
      refine .skips 1 rfl ?_
      refine .nil' fun c w ho hs => Cod.at (E := [(1, _), (2, _), (16, _), (17, _), (18, _), (5, _)]) (ho.sub ⟨rfl, rfl, rfl, rfl, rfl, rfl, trivial⟩) hs ?_
      refine .drop (.s .z) ?_
      refine .drop (.s .z) ?_
      refine .region ?_
      refine .add rfl rfl rfl rfl ?_
      refine .sub (E' := [(1, _), (2, _), (16, _), (17, _), (5, _), (32, _)]) ⟨rfl, rfl, rfl, rfl, rfl, rfl, trivial⟩ ?_
      refine .skips 1 rfl ?_
      exact .nil' fun c w ho hs => ⟨((s153 ++ ([({ Row := x178.From, Col := x178.To, Val := x178.W } : Triple)])), w64 (s157 + 1)), hd, I160, _, _, le163, ho.sub ⟨rfl, rfl, rfl, rfl, rfl, rfl, trivial⟩, hs.pick (.c (.s .z) (.c (.s .z) (.c .z .n)))⟩
    · have hd := hd.2 hb165
      refine .exit fun c w ho hs => Cod.at (E := [(1, _), (2, _), (5, _)]) (ho.sub ⟨rfl, rfl, rfl, trivial⟩) hs ?_
      refine .seq ?_
      refine .region ?_
      refine .fieldAddr Tryz.underlying50 rfl Tryz.sizeOf3 rfl (o := 0) rfl rfl rfl ?_
      refine .load1 Tryz.isAgg3 rfl .z rfl rfl rfl ?_
      refine .fieldAddr Tryz.underlying50 rfl Tryz.sizeOf3 rfl (o := 0) rfl rfl rfl ?_
      refine .load1 Tryz.isAgg3 rfl .z rfl rfl rfl ?_
      refine .skips 1 rfl ?_
      refine .pub (.s (.s .z)) fun I194 hl195 R196 => ?_
      have le197 := IH.le.trans le162 hl195
      have le198 := IH.le.trans le163 hl195
      replace R3 := R3.mono hl195
      have hw214 := W_csr_built (I := I194) R196 hd
      refine .call Tryz.call42 rfl hw214 rfl rfl fun v203 I200 hl201 hv202 => ?_
      obtain ⟨r199, p205, c206, p208, c209, p211, c212, rfl, R207, R210, R213, hd⟩ := hv202
      have le215 := IH.le.trans le197 hl201
      have le216 := IH.le.trans le198 hl201
      replace R3 := R3.mono hl201
      replace R196 := R196.mono hl201
      refine .storeA Tryz.sizeOf29 rfl rfl (.s .z) (.t (.t (.t (.t (.t .nil))))) rfl rfl ?_
      refine .skips 1 rfl ?_
      refine .nil' fun c w ho hs => Cod.at (E := [(2, _), (3, _)]) (ho.sub ⟨rfl, rfl, trivial⟩) hs ?_
      refine .drop .z ?_
      exact .ret (pret Tryz.results31 (.w Tryz.isAgg29 Tryz.sizeOf29 rfl .z rfl (.t rfl .n)) le215 ⟨(r199, 0), _, _, _, _, _, _, rfl, R207, R210, R213, hd⟩)

theorem W_law07_live {I : IH}   {Q : Bool → Prop}  (hd : law07_live Q) :
    PFun Tryz.prog 12 [] I (fun I_ v => ∃ r, v = .bool r ∧ Q r) := by
  refine Fun.enter Tryz.func12 rfl Tryz.ntmps12 rfl .n fun w0 M => ?_
  refine .seq ?_
  refine .region ?_
  refine .skips 1 rfl ?_
  refine .nil' fun c w ho hs => Cod.at (E := []) (ho.sub trivial) hs ?_
  refine .seq ?_
  refine .region ?_
  refine .build Tryz.zeroValue60 Tryz.underlying60 BI60 (.c rfl rfl rfl (.t .nil) (.c rfl rfl rfl (.s (.t .nil)) (.c rfl rfl rfl (.s (.s (.t .nil))) .n))) (by exact ⟨⟨_, _, rfl, rfl, rfl⟩, ⟨⟨_, _, rfl, rfl, rfl⟩, ⟨⟨_, _, rfl, rfl, rfl⟩, trivial⟩⟩⟩) rfl rfl ?_
  refine .build Tryz.zeroValue60 Tryz.underlying60 BI60 (.c rfl rfl rfl (.t .nil) (.c rfl rfl rfl (.s (.t .nil)) (.c rfl rfl rfl (.s (.s (.t .nil))) .n))) (by exact ⟨⟨_, _, rfl, rfl, rfl⟩, ⟨⟨_, _, rfl, rfl, rfl⟩, ⟨⟨_, _, rfl, rfl, rfl⟩, trivial⟩⟩⟩) rfl rfl ?_
  refine .build Tryz.zeroValue60 Tryz.underlying60 BI60 (.c rfl rfl rfl (.t .nil) (.c rfl rfl rfl (.s (.t .nil)) (.c rfl rfl rfl (.s (.s (.t .nil))) .n))) (by exact ⟨⟨_, _, rfl, rfl, rfl⟩, ⟨⟨_, _, rfl, rfl, rfl⟩, ⟨⟨_, _, rfl, rfl, rfl⟩, trivial⟩⟩⟩) rfl rfl ?_
  refine .buildSlice 3 Tryz.underlying24 Tryz.sizeOf60 Tryz.zeroValue60 rfl rfl (.c rfl rfl rfl (.c rfl rfl rfl (.c rfl rfl rfl .n))) rfl rfl fun b26 => ?_
  refine .pubB (El := eTriple) (ys := ([({ Row := 0, Col := 1, Val := 5 } : Triple), ({ Row := 1, Col := 2, Val := 7 } : Triple), ({ Row := 0, Col := 1, Val := 3 } : Triple)] : List Triple)) (k := 3) .z (RepCs.cons (cs := [.int .i64 0, .int .i64 1, .int .i64 5]) rfl (RepCs.cons (cs := [.int .i64 1, .int .i64 2, .int .i64 7]) rfl (RepCs.cons (cs := [.int .i64 0, .int .i64 1, .int .i64 3]) rfl .nil))) rfl fun I28 hl29 R30 => ?_
  have le31 := IH.le.trans (.refl _) hl29
  have hw47 := W_csr_Of (I := I28) R30 hd
  refine .call Tryz.call10 rfl hw47 rfl rfl fun v36 I33 hl34 hv35 => ?_
  obtain ⟨r32, p38, c39, p41, c42, p44, c45, rfl, R40, R43, R46, hd⟩ := hv35
  have le48 := IH.le.trans le31 hl34
  replace R30 := R30.mono hl34
  refine .skips 1 rfl ?_
  refine .extract rfl rfl rfl rfl ?_
  refine .extract rfl rfl rfl rfl ?_
  refine .allocA Tryz.zeroValue29 rfl rfl fun b49 => ?_
  refine .storeA Tryz.sizeOf29 rfl rfl .z (.t (.t (.t (.t (.t .nil))))) rfl rfl ?_
  refine .skips 1 rfl ?_
  refine .nil' fun c w ho hs => Cod.at (E := [(1, _), (2, _)]) (ho.sub ⟨rfl, rfl, trivial⟩) hs ?_
  refine .seq ?_
  refine .region ?_
  refine .loadW Tryz.isAgg29 Tryz.sizeOf29 rfl .z rfl rfl rfl ?_
  have hw65 := W_csr_Get (I := I33) R40 R43 R46 hd
  refine .call Tryz.call14 rfl hw65 rfl rfl fun v63 I60 hl61 hv62 => ?_
  obtain ⟨r59, rfl, hd⟩ := hv62
  have le66 := IH.le.trans le48 hl61
  replace R40 := R40.mono hl61
  replace R43 := R43.mono hl61
  replace R46 := R46.mono hl61
  refine .skips 1 rfl ?_
  refine .extract rfl rfl rfl rfl ?_
  refine .extract rfl rfl rfl rfl ?_
  refine .skips 2 rfl ?_
  refine .nil' fun c w ho hs => Cod.at (E := [(1, _), (2, _), (3, _), (4, _)]) (ho.sub ⟨rfl, rfl, rfl, rfl, trivial⟩) hs ?_
  refine .seq ?_
  refine .region ?_
  refine .loadW Tryz.isAgg29 Tryz.sizeOf29 rfl .z rfl rfl rfl ?_
  have hw81 := W_csr_Get (I := I60) R40 R43 R46 hd
  refine .call Tryz.call14 rfl hw81 rfl rfl fun v79 I76 hl77 hv78 => ?_
  obtain ⟨r75, rfl, hd⟩ := hv78
  have le82 := IH.le.trans le66 hl77
  replace R40 := R40.mono hl77
  replace R43 := R43.mono hl77
  replace R46 := R46.mono hl77
  refine .skips 1 rfl ?_
  refine .extract rfl rfl rfl rfl ?_
  refine .extract rfl rfl rfl rfl ?_
  refine .skips 2 rfl ?_
  refine .nil' fun c w ho hs => Cod.at (E := [(1, _), (2, _), (3, _), (4, _), (6, _)]) (ho.sub ⟨rfl, rfl, rfl, rfl, rfl, trivial⟩) hs ?_
  refine .seq ?_
  refine .region ?_
  have hw117 := W_csr_Of (I := I76) (.nil _ none 0) hd
  refine .call Tryz.call10 rfl hw117 rfl rfl fun v106 I103 hl104 hv105 => ?_
  obtain ⟨r102, p108, c109, p111, c112, p114, c115, rfl, R110, R113, R116, hd⟩ := hv105
  have le118 := IH.le.trans le82 hl104
  replace R40 := R40.mono hl104
  replace R43 := R43.mono hl104
  replace R46 := R46.mono hl104
  refine .skips 1 rfl ?_
  refine .extract rfl rfl rfl rfl ?_
  refine .extract rfl rfl rfl rfl ?_
  refine .allocA Tryz.zeroValue29 rfl rfl fun b119 => ?_
  refine .storeA Tryz.sizeOf29 rfl rfl .z (.t (.t (.t (.t (.t .nil))))) rfl rfl ?_
  refine .skips 1 rfl ?_
  refine .nil' fun c w ho hs => Cod.at (E := [(1, _), (2, _), (3, _), (4, _), (6, _), (8, _)]) (ho.sub ⟨rfl, rfl, rfl, rfl, rfl, rfl, trivial⟩) hs ?_
  refine .drop .z ?_
  refine .seq ?_
  refine .region ?_
  refine .build Tryz.zeroValue55 Tryz.underlying55 BI55 (.c rfl rfl rfl (.t .nil) (.c rfl rfl rfl (.s (.t .nil)) (.c rfl rfl rfl (.s (.s (.t .nil))) .n))) (by exact ⟨⟨_, _, rfl, rfl, rfl⟩, ⟨⟨_, _, rfl, rfl, rfl⟩, ⟨⟨_, _, rfl, rfl, rfl⟩, trivial⟩⟩⟩) rfl rfl ?_
  refine .buildSlice 1 Tryz.underlying48 Tryz.sizeOf55 Tryz.zeroValue55 rfl rfl (.c rfl rfl rfl .n) rfl rfl fun b147 => ?_
  refine .ownB (El := eEdge) (ys := ([({ From := 2, To := 0, W := 9 } : Edge)] : List Edge)) .z (.one rfl) rfl ?_
  refine .build Tryz.zeroValue50 Tryz.underlying50 BI50 (.c rfl rfl rfl (.t .nil) (.c rfl rfl rfl (.s (.t .nil)) .n)) (by exact ⟨⟨_, _, rfl, rfl, rfl⟩, ⟨⟨_, _, rfl, rfl, rfl⟩, trivial⟩⟩) rfl rfl ?_
  refine .pub .z fun I150 hl151 R152 => ?_
  have le153 := IH.le.trans le118 hl151
  replace R40 := R40.mono hl151
  replace R43 := R43.mono hl151
  replace R46 := R46.mono hl151
  have hw169 := W_csr_Graph (I := I150) R152 hd
  refine .call Tryz.call31 rfl hw169 rfl rfl fun v158 I155 hl156 hv157 => ?_
  obtain ⟨r154, p160, c161, p163, c164, p166, c167, rfl, R162, R165, R168, hd⟩ := hv157
  have le170 := IH.le.trans le153 hl156
  replace R40 := R40.mono hl156
  replace R43 := R43.mono hl156
  replace R46 := R46.mono hl156
  replace R152 := R152.mono hl156
  refine .skips 1 rfl ?_
  refine .extract rfl rfl rfl rfl ?_
  refine .extract rfl rfl rfl rfl ?_
  refine .allocA Tryz.zeroValue29 rfl rfl fun b171 => ?_
  refine .storeA Tryz.sizeOf29 rfl rfl .z (.t (.t (.t (.t (.t .nil))))) rfl rfl ?_
  refine .skips 1 rfl ?_
  refine .nil' fun c w ho hs => Cod.at (E := [(1, _), (2, _), (3, _), (4, _), (6, _), (8, _), (9, _), (10, _)]) (ho.sub ⟨rfl, rfl, rfl, rfl, rfl, rfl, rfl, rfl, trivial⟩) hs ?_
  refine .seq ?_
  refine .region ?_
  refine .loadW Tryz.isAgg29 Tryz.sizeOf29 rfl .z rfl rfl rfl ?_
  have hw187 := W_csr_Get (I := I155) R162 R165 R168 hd
  refine .call Tryz.call14 rfl hw187 rfl rfl fun v185 I182 hl183 hv184 => ?_
  obtain ⟨r181, rfl, hd⟩ := hv184
  have le188 := IH.le.trans le170 hl183
  replace R40 := R40.mono hl183
  replace R43 := R43.mono hl183
  replace R46 := R46.mono hl183
  replace R162 := R162.mono hl183
  replace R165 := R165.mono hl183
  replace R168 := R168.mono hl183
  refine .skips 1 rfl ?_
  refine .extract rfl rfl rfl rfl ?_
  refine .extract rfl rfl rfl rfl ?_
  refine .skips 2 rfl ?_
  refine .nil' fun c w ho hs => Cod.at (E := [(1, _), (2, _), (3, _), (4, _), (6, _), (8, _), (9, _), (10, _), (11, _), (12, _)]) (ho.sub ⟨rfl, rfl, rfl, rfl, rfl, rfl, rfl, rfl, rfl, rfl, trivial⟩) hs ?_
  refine .seq ?_
  refine .region ?_
  refine .skips 1 rfl ?_
  refine .eq rfl rfl rfl rfl ?_
  refine .skips 1 rfl ?_
  refine split (r32.2 == 0) (fun hb189 => ?_) (fun hb189 => ?_)
  · have hd := hd.1 hb189
    rw [hb189]
    refine .gyes rfl rfl rfl (.move rfl rfl rfl ?_)
    refine .gyes rfl rfl rfl (.eq rfl rfl rfl rfl ?_)
    refine .skips 2 rfl ?_
    refine split (r59.1 == 3) (fun hb190 => ?_) (fun hb190 => ?_)
    · have hd := hd.1 hb190
      rw [hb190]
      refine .gyes rfl rfl rfl (.move rfl rfl rfl ?_)
      refine .skips 2 rfl ?_
      refine split r59.2 (fun hb191 => ?_) (fun hb191 => ?_)
      · have hd := hd.1 hb191
        rw [hb191]
        refine .gyes rfl rfl rfl (.move rfl rfl rfl ?_)
        refine .gyes rfl rfl rfl (.not rfl rfl rfl ?_)
        refine .skips 2 rfl ?_
        refine split (!r75.2) (fun hb192 => ?_) (fun hb192 => ?_)
        · have hd := hd.1 hb192
          rw [hb192]
          refine .gyes rfl rfl rfl (.move rfl rfl rfl ?_)
          refine .gyes rfl rfl rfl (.eq rfl rfl rfl rfl ?_)
          refine .skips 2 rfl ?_
          refine split (r102.2 == 8) (fun hb193 => ?_) (fun hb193 => ?_)
          · have hd := hd.1 hb193
            rw [hb193]
            refine .gyes rfl rfl rfl (.loadW Tryz.isAgg29 Tryz.sizeOf29 rfl (.s .z) rfl rfl rfl ?_)
            have hw200 := W_csr_Count (I := I182) R40 R43 R46 hd
            refine .gyes rfl rfl rfl (.call Tryz.call18 rfl hw200 rfl rfl fun v198 I195 hl196 hv197 => ?_)
            obtain ⟨r194, rfl, hd⟩ := hv197
            have le201 := IH.le.trans le188 hl196
            replace R40 := R40.mono hl196
            replace R43 := R43.mono hl196
            replace R46 := R46.mono hl196
            replace R162 := R162.mono hl196
            replace R165 := R165.mono hl196
            replace R168 := R168.mono hl196
            refine .gyes rfl rfl rfl (.eq rfl rfl rfl rfl ?_)
            refine .skips 2 rfl ?_
            refine split (r194 == 2) (fun hb202 => ?_) (fun hb202 => ?_)
            · have hd := hd.1 hb202
              rw [hb202]
              refine .gyes rfl rfl rfl (.loadW Tryz.isAgg29 Tryz.sizeOf29 rfl (.s .z) rfl rfl rfl ?_)
              have hw209 := W_csr_Right (I := I195) R40 R43 R46 hd
              refine .gyes rfl rfl rfl (.call Tryz.call16 rfl hw209 rfl rfl fun v207 I204 hl205 hv206 => ?_)
              obtain ⟨r203, rfl, hd⟩ := hv206
              have le210 := IH.le.trans le201 hl205
              replace R40 := R40.mono hl205
              replace R43 := R43.mono hl205
              replace R46 := R46.mono hl205
              replace R162 := R162.mono hl205
              replace R165 := R165.mono hl205
              replace R168 := R168.mono hl205
              refine .skips 2 rfl ?_
              refine split r203 (fun hb211 => ?_) (fun hb211 => ?_)
              · have hd := hd.1 hb211
                rw [hb211]
                refine .gyes rfl rfl rfl (.build Tryz.zeroValue29 Tryz.underlying29 BI29 .n (by exact trivial) rfl rfl ?_)
                have hw218 := W_csr_Right (I := I204) (.nil _ none 0) (.nil _ none 0) (.nil _ none 0) hd
                refine .gyes rfl rfl rfl (.call Tryz.call16 rfl hw218 rfl rfl fun v216 I213 hl214 hv215 => ?_)
                obtain ⟨r212, rfl, hd⟩ := hv215
                have le219 := IH.le.trans le210 hl214
                replace R40 := R40.mono hl214
                replace R43 := R43.mono hl214
                replace R46 := R46.mono hl214
                replace R162 := R162.mono hl214
                replace R165 := R165.mono hl214
                replace R168 := R168.mono hl214
                refine .gyes rfl rfl rfl (.not rfl rfl rfl ?_)
                refine .skips 2 rfl ?_
                refine split (!r212) (fun hb220 => ?_) (fun hb220 => ?_)
                · have hd := hd.1 hb220
                  rw [hb220]
                  refine .gyes rfl rfl rfl (.loadW Tryz.isAgg29 Tryz.sizeOf29 rfl (.s .z) rfl rfl rfl ?_)
                  have hw230 := W_csr_Row (I := I213) R40 R43 R46 hd
                  refine .gyes rfl rfl rfl (.call Tryz.call21 rfl hw230 rfl rfl fun v225 I222 hl223 hv224 => ?_)
                  obtain ⟨r221, p227, c228, rfl, R229, hd⟩ := hv224
                  have le231 := IH.le.trans le219 hl223
                  replace R40 := R40.mono hl223
                  replace R43 := R43.mono hl223
                  replace R46 := R46.mono hl223
                  replace R162 := R162.mono hl223
                  replace R165 := R165.mono hl223
                  replace R168 := R168.mono hl223
                  refine .gyes rfl rfl rfl (.len Tryz.underlying41 rfl rfl rfl rfl ?_)
                  refine .gyes rfl rfl rfl (.eq rfl rfl rfl rfl ?_)
                  refine .skips 2 rfl ?_
                  refine split ((r221.length : Int) == 1) (fun hb232 => ?_) (fun hb232 => ?_)
                  · have hd := hd.1 hb232
                    rw [hb232]
                    refine .gyes rfl rfl rfl (.loadW Tryz.isAgg29 Tryz.sizeOf29 rfl (.s .z) rfl rfl rfl ?_)
                    have hw243 := W_csr_Triples (I := I222) R40 R43 R46 hd
                    refine .gyes rfl rfl rfl (.callO Tryz.call24 rfl hw243 rfl rfl fun v237 I234 l238 hl235 hv236 => ?_)
                    obtain ⟨r233, p239, c240, rfl, rfl, hd⟩ := hv236
                    have le244 := IH.le.trans le231 hl235
                    replace R40 := R40.mono hl235
                    replace R43 := R43.mono hl235
                    replace R46 := R46.mono hl235
                    replace R162 := R162.mono hl235
                    replace R165 := R165.mono hl235
                    replace R168 := R168.mono hl235
                    replace R229 := R229.mono hl235
                    refine .gyes rfl rfl rfl (.len Tryz.underlying24 rfl rfl rfl rfl ?_)
                    refine .gyes rfl rfl rfl (.eq rfl rfl rfl rfl ?_)
                    refine .skips 2 rfl ?_
                    refine split ((r233.length : Int) == 2) (fun hb245 => ?_) (fun hb245 => ?_)
                    · have hd := hd.1 hb245
                      rw [hb245]
                      refine .gyes rfl rfl rfl (.loadW Tryz.isAgg29 Tryz.sizeOf29 rfl (.s (.s .z)) rfl rfl rfl ?_)
                      have hw261 := W_csr_Turn (I := I234) R40 R43 R46 hd
                      refine .gyes rfl rfl rfl (.call Tryz.call26 rfl hw261 rfl rfl fun v250 I247 hl248 hv249 => ?_)
                      obtain ⟨r246, p252, c253, p255, c256, p258, c259, rfl, R254, R257, R260, hd⟩ := hv249
                      have le262 := IH.le.trans le244 hl248
                      replace R40 := R40.mono hl248
                      replace R43 := R43.mono hl248
                      replace R46 := R46.mono hl248
                      replace R162 := R162.mono hl248
                      replace R165 := R165.mono hl248
                      replace R168 := R168.mono hl248
                      replace R229 := R229.mono hl248
                      refine .gyes rfl rfl rfl (.field1 Tryz.underlying29 rfl Tryz.isAgg3 rfl rfl rfl rfl ?_)
                      refine .gyes rfl rfl rfl (.eq rfl rfl rfl rfl ?_)
                      refine .skips 2 rfl ?_
                      refine split (r246.Rows == 3) (fun hb263 => ?_) (fun hb263 => ?_)
                      · have hd := hd.1 hb263
                        rw [hb263]
                        refine .gyes rfl rfl rfl (.loadW Tryz.isAgg29 Tryz.sizeOf29 rfl (.s (.s .z)) rfl rfl rfl ?_)
                        refine .gyes rfl rfl rfl (.buildArr Tryz.zeroValue23 Tryz.underlying23 Tryz.sizeOf3 (.c rfl rfl rfl (.t .nil) (.c rfl rfl rfl (.s (.t .nil)) .n)) rfl rfl ?_)
                        refine .gyes rfl rfl rfl (.buildArr Tryz.zeroValue23 Tryz.underlying23 Tryz.sizeOf3 (.c rfl rfl rfl (.t .nil) (.c rfl rfl rfl (.s (.t .nil)) .n)) rfl rfl ?_)
                        have hw279 := W_csr_Cut (I := I247) R40 R43 R46 hd
                        refine .gyes rfl rfl rfl (.call Tryz.call28 rfl hw279 rfl rfl fun v268 I265 hl266 hv267 => ?_)
                        obtain ⟨r264, p270, c271, p273, c274, p276, c277, rfl, R272, R275, R278, hd⟩ := hv267
                        have le280 := IH.le.trans le262 hl266
                        replace R40 := R40.mono hl266
                        replace R43 := R43.mono hl266
                        replace R46 := R46.mono hl266
                        replace R162 := R162.mono hl266
                        replace R165 := R165.mono hl266
                        replace R168 := R168.mono hl266
                        replace R229 := R229.mono hl266
                        replace R254 := R254.mono hl266
                        replace R257 := R257.mono hl266
                        replace R260 := R260.mono hl266
                        refine .gyes rfl rfl rfl (.field1 Tryz.underlying29 rfl Tryz.isAgg3 rfl rfl rfl rfl ?_)
                        refine .gyes rfl rfl rfl (.eq rfl rfl rfl rfl ?_)
                        refine .skips 2 rfl ?_
                        refine split (r264.Cols == 2) (fun hb281 => ?_) (fun hb281 => ?_)
                        · have hd := hd.1 hb281
                          rw [hb281]
                          refine .gyes rfl rfl rfl (.move rfl rfl rfl ?_)
                          refine .gyes rfl rfl rfl (.eq rfl rfl rfl rfl ?_)
                          refine .skips 2 rfl ?_
                          refine split (r154.2 == 0) (fun hb282 => ?_) (fun hb282 => ?_)
                          · have hd := hd.1 hb282
                            rw [hb282]
                            refine .gyes rfl rfl rfl (.move rfl rfl rfl ?_)
                            refine .gyes rfl rfl rfl (.eq rfl rfl rfl rfl ?_)
                            refine .skips 2 rfl ?_
                            refine split (r181.1 == 9) (fun hb283 => ?_) (fun hb283 => ?_)
                            · have hd := hd.1 hb283
                              rw [hb283]
                              refine .gyes rfl rfl rfl (.move rfl rfl rfl ?_)
                              refine .skips 2 rfl ?_
                              refine split r181.2 (fun hb284 => ?_) (fun hb284 => ?_)
                              · have hd := hd.1 hb284
                                rw [hb284]
                                refine .gyes rfl rfl rfl (.loadW Tryz.isAgg29 Tryz.sizeOf29 rfl (.s (.s .z)) rfl rfl rfl ?_)
                                refine .gyes rfl rfl rfl (.loadW Tryz.isAgg29 Tryz.sizeOf29 rfl (.s (.s .z)) rfl rfl rfl ?_)
                                have hw291 := W_csr_Same (I := I265) R40 R43 R46 R40 R43 R46 hd
                                refine .gyes rfl rfl rfl (.call Tryz.call30 rfl hw291 rfl rfl fun v289 I286 hl287 hv288 => ?_)
                                obtain ⟨r285, rfl, hd⟩ := hv288
                                have le292 := IH.le.trans le280 hl287
                                replace R40 := R40.mono hl287
                                replace R43 := R43.mono hl287
                                replace R46 := R46.mono hl287
                                replace R162 := R162.mono hl287
                                replace R165 := R165.mono hl287
                                replace R168 := R168.mono hl287
                                replace R229 := R229.mono hl287
                                replace R254 := R254.mono hl287
                                replace R257 := R257.mono hl287
                                replace R260 := R260.mono hl287
                                replace R272 := R272.mono hl287
                                replace R275 := R275.mono hl287
                                replace R278 := R278.mono hl287
                                refine .skips 2 rfl ?_
                                refine split r285 (fun hb293 => ?_) (fun hb293 => ?_)
                                · have hd := hd.1 hb293
                                  rw [hb293]
                                  refine .gyes rfl rfl rfl (.loadW Tryz.isAgg29 Tryz.sizeOf29 rfl (.s (.s .z)) rfl rfl rfl ?_)
                                  refine .gyes rfl rfl rfl (.loadW Tryz.isAgg29 Tryz.sizeOf29 rfl (.s .z) rfl rfl rfl ?_)
                                  have hw300 := W_csr_Same (I := I286) R40 R43 R46 R162 R165 R168 hd
                                  refine .gyes rfl rfl rfl (.call Tryz.call30 rfl hw300 rfl rfl fun v298 I295 hl296 hv297 => ?_)
                                  obtain ⟨r294, rfl, hd⟩ := hv297
                                  have le301 := IH.le.trans le292 hl296
                                  replace R40 := R40.mono hl296
                                  replace R43 := R43.mono hl296
                                  replace R46 := R46.mono hl296
                                  replace R162 := R162.mono hl296
                                  replace R165 := R165.mono hl296
                                  replace R168 := R168.mono hl296
                                  replace R229 := R229.mono hl296
                                  replace R254 := R254.mono hl296
                                  replace R257 := R257.mono hl296
                                  replace R260 := R260.mono hl296
                                  replace R272 := R272.mono hl296
                                  replace R275 := R275.mono hl296
                                  replace R278 := R278.mono hl296
                                  refine .gyes rfl rfl rfl (.not rfl rfl rfl ?_)
                                  refine .skips 2 rfl ?_
                                  refine .nil' fun c w ho hs => Cod.at (E := [(0, _)]) (ho.sub ⟨rfl, trivial⟩) hs ?_
                                  refine .drop .z ?_
                                  refine .drop .z ?_
                                  refine .drop .z ?_
                                  exact .ret (pret Tryz.results12 (.t rfl .n) le301 ⟨(!r294), rfl, hd⟩)
                                · have hd := hd.2 hb293
                                  rw [hb293]
                                  refine .skips 6 rfl ?_
                                  refine .nil' fun c w ho hs => Cod.at (E := [(0, _)]) (ho.sub ⟨rfl, trivial⟩) hs ?_
                                  refine .drop .z ?_
                                  refine .drop .z ?_
                                  refine .drop .z ?_
                                  exact .ret (pret Tryz.results12 (.t rfl .n) le292 ⟨false, rfl, hd⟩)
                              · have hd := hd.2 hb284
                                rw [hb284]
                                refine .skips 11 rfl ?_
                                refine .nil' fun c w ho hs => Cod.at (E := [(0, _)]) (ho.sub ⟨rfl, trivial⟩) hs ?_
                                refine .drop .z ?_
                                refine .drop .z ?_
                                refine .drop .z ?_
                                exact .ret (pret Tryz.results12 (.t rfl .n) le280 ⟨false, rfl, hd⟩)
                            · have hd := hd.2 hb283
                              rw [hb283]
                              refine .skips 14 rfl ?_
                              refine .nil' fun c w ho hs => Cod.at (E := [(0, _)]) (ho.sub ⟨rfl, trivial⟩) hs ?_
                              refine .drop .z ?_
                              refine .drop .z ?_
                              refine .drop .z ?_
                              exact .ret (pret Tryz.results12 (.t rfl .n) le280 ⟨false, rfl, hd⟩)
                          · have hd := hd.2 hb282
                            rw [hb282]
                            refine .skips 18 rfl ?_
                            refine .nil' fun c w ho hs => Cod.at (E := [(0, _)]) (ho.sub ⟨rfl, trivial⟩) hs ?_
                            refine .drop .z ?_
                            refine .drop .z ?_
                            refine .drop .z ?_
                            exact .ret (pret Tryz.results12 (.t rfl .n) le280 ⟨false, rfl, hd⟩)
                        · have hd := hd.2 hb281
                          rw [hb281]
                          refine .skips 22 rfl ?_
                          refine .nil' fun c w ho hs => Cod.at (E := [(0, _)]) (ho.sub ⟨rfl, trivial⟩) hs ?_
                          refine .drop .z ?_
                          refine .drop .z ?_
                          refine .drop .z ?_
                          exact .ret (pret Tryz.results12 (.t rfl .n) le280 ⟨false, rfl, hd⟩)
                      · have hd := hd.2 hb263
                        rw [hb263]
                        refine .skips 30 rfl ?_
                        refine .nil' fun c w ho hs => Cod.at (E := [(0, _)]) (ho.sub ⟨rfl, trivial⟩) hs ?_
                        refine .drop .z ?_
                        refine .drop .z ?_
                        refine .drop .z ?_
                        exact .ret (pret Tryz.results12 (.t rfl .n) le262 ⟨false, rfl, hd⟩)
                    · have hd := hd.2 hb245
                      rw [hb245]
                      refine .skips 36 rfl ?_
                      refine .nil' fun c w ho hs => Cod.at (E := [(0, _)]) (ho.sub ⟨rfl, trivial⟩) hs ?_
                      refine .drop .z ?_
                      refine .drop .z ?_
                      refine .drop .z ?_
                      exact .ret (pret Tryz.results12 (.t rfl .n) le244 ⟨false, rfl, hd⟩)
                  · have hd := hd.2 hb232
                    rw [hb232]
                    refine .skips 42 rfl ?_
                    refine .nil' fun c w ho hs => Cod.at (E := [(0, _)]) (ho.sub ⟨rfl, trivial⟩) hs ?_
                    refine .drop .z ?_
                    refine .drop .z ?_
                    exact .ret (pret Tryz.results12 (.t rfl .n) le231 ⟨false, rfl, hd⟩)
                · have hd := hd.2 hb220
                  rw [hb220]
                  refine .skips 48 rfl ?_
                  refine .nil' fun c w ho hs => Cod.at (E := [(0, _)]) (ho.sub ⟨rfl, trivial⟩) hs ?_
                  refine .drop .z ?_
                  refine .drop .z ?_
                  exact .ret (pret Tryz.results12 (.t rfl .n) le219 ⟨false, rfl, hd⟩)
              · have hd := hd.2 hb211
                rw [hb211]
                refine .skips 53 rfl ?_
                refine .nil' fun c w ho hs => Cod.at (E := [(0, _)]) (ho.sub ⟨rfl, trivial⟩) hs ?_
                refine .drop .z ?_
                refine .drop .z ?_
                exact .ret (pret Tryz.results12 (.t rfl .n) le210 ⟨false, rfl, hd⟩)
            · have hd := hd.2 hb202
              rw [hb202]
              refine .skips 57 rfl ?_
              refine .nil' fun c w ho hs => Cod.at (E := [(0, _)]) (ho.sub ⟨rfl, trivial⟩) hs ?_
              refine .drop .z ?_
              refine .drop .z ?_
              exact .ret (pret Tryz.results12 (.t rfl .n) le201 ⟨false, rfl, hd⟩)
          · have hd := hd.2 hb193
            rw [hb193]
            refine .skips 62 rfl ?_
            refine .nil' fun c w ho hs => Cod.at (E := [(0, _)]) (ho.sub ⟨rfl, trivial⟩) hs ?_
            refine .drop .z ?_
            refine .drop .z ?_
            exact .ret (pret Tryz.results12 (.t rfl .n) le188 ⟨false, rfl, hd⟩)
        · have hd := hd.2 hb192
          rw [hb192]
          refine .skips 66 rfl ?_
          refine .nil' fun c w ho hs => Cod.at (E := [(0, _)]) (ho.sub ⟨rfl, trivial⟩) hs ?_
          refine .drop .z ?_
          refine .drop .z ?_
          exact .ret (pret Tryz.results12 (.t rfl .n) le188 ⟨false, rfl, hd⟩)
      · have hd := hd.2 hb191
        rw [hb191]
        refine .skips 70 rfl ?_
        refine .nil' fun c w ho hs => Cod.at (E := [(0, _)]) (ho.sub ⟨rfl, trivial⟩) hs ?_
        refine .drop .z ?_
        refine .drop .z ?_
        exact .ret (pret Tryz.results12 (.t rfl .n) le188 ⟨false, rfl, hd⟩)
    · have hd := hd.2 hb190
      rw [hb190]
      refine .skips 73 rfl ?_
      refine .nil' fun c w ho hs => Cod.at (E := [(0, _)]) (ho.sub ⟨rfl, trivial⟩) hs ?_
      refine .drop .z ?_
      refine .drop .z ?_
      exact .ret (pret Tryz.results12 (.t rfl .n) le188 ⟨false, rfl, hd⟩)
  · have hd := hd.2 hb189
    rw [hb189]
    refine .skips 77 rfl ?_
    refine .nil' fun c w ho hs => Cod.at (E := [(0, _)]) (ho.sub ⟨rfl, trivial⟩) hs ?_
    refine .drop .z ?_
    refine .drop .z ?_
    exact .ret (pret Tryz.results12 (.t rfl .n) le188 ⟨false, rfl, hd⟩)

end Go.Proofs.YtindbiojednfbaaGreat
