/- The walks (printed by a program of ours). -/
import Derived.Test.YtindbiojednfbaaGreatV2
namespace Go.Proofs.YtindbiojednfbaaGreat
open Go Go.Fw
set_option linter.unusedVariables false
set_option linter.unusedSimpArgs false
set_option maxRecDepth 8000
set_option maxHeartbeats 1000000
theorem W_ref02_Is {I : IH} {a0 : Int}  {Q : Bool → Prop}  (hd : ref02_Is a0 Q) :
    PFun Tryz.prog 35 [.int .i64 a0] I (fun I_ v => ∃ r, v = .bool r ∧ Q r) := by
  refine Fun.enter Tryz.func35 rfl Tryz.ntmps35 rfl (.c .n) fun w0 M => ?_
  refine .seq ?_
  refine .region ?_
  refine .skips 1 rfl ?_
  refine .nil' fun c w ho hs => Cod.at (E := [(0, _)]) (ho.sub ⟨rfl, trivial⟩) hs ?_
  refine .seq ?_
  refine .region ?_
  refine .skips 1 rfl ?_
  refine .ge rfl rfl rfl rfl ?_
  refine .skips 1 rfl ?_
  refine split (decide (1 ≤ a0)) (fun hb1 => ?_) (fun hb1 => ?_)
  · have hd := hd.1 hb1
    rw [hb1]
    refine .gyes rfl rfl rfl (.move rfl rfl rfl ?_)
    refine .gyes rfl rfl rfl (.le' rfl rfl rfl rfl ?_)
    refine .skips 2 rfl ?_
    refine .nil' fun c w ho hs => Cod.at (E := [(2, _)]) (ho.sub ⟨rfl, trivial⟩) hs ?_
    exact .ret (pret Tryz.results35 (.t rfl .n) (.refl _) ⟨(decide (a0 ≤ 5)), rfl, hd⟩)
  · have hd := hd.2 hb1
    rw [hb1]
    refine .skips 4 rfl ?_
    refine .nil' fun c w ho hs => Cod.at (E := [(2, _)]) (ho.sub ⟨rfl, trivial⟩) hs ?_
    exact .ret (pret Tryz.results35 (.t rfl .n) (.refl _) ⟨false, rfl, hd⟩)

theorem W_ref05_below {I : IH} {a0 : Edge} {a1 : Edge}  {Q : Bool → Prop}  (hd : ref05_below a0 a1 Q) :
    PFun Tryz.prog 66 [.agg (encEdge a0).toArray, .agg (encEdge a1).toArray] I (fun I_ v => ∃ r, v = .bool r ∧ Q r) := by
  refine Fun.enter Tryz.func66 rfl Tryz.ntmps66 rfl (.c (.c .n)) fun w0 M => ?_
  refine .seq ?_
  refine .region ?_
  refine .boxA rfl rfl rfl fun b5 => ?_
  refine .boxA rfl rfl rfl fun b7 => ?_
  refine .skips 1 rfl ?_
  refine .nil' fun c w ho hs => Cod.at (E := [(2, _), (3, _)]) (ho.sub ⟨rfl, rfl, trivial⟩) hs ?_
  refine .seq ?_
  refine .region ?_
  refine .fieldAddr Tryz.underlying55 rfl Tryz.sizeOf3 rfl (o := 0) rfl rfl rfl ?_
  refine .load1 Tryz.isAgg3 rfl (.s .z) rfl rfl rfl ?_
  refine .fieldAddr Tryz.underlying55 rfl Tryz.sizeOf3 rfl (o := 0) rfl rfl rfl ?_
  refine .load1 Tryz.isAgg3 rfl .z rfl rfl rfl ?_
  refine .lt rfl rfl rfl rfl ?_
  refine .skips 1 rfl ?_
  refine split (decide (a0.From < a1.From)) (fun hb9 => ?_) (fun hb9 => ?_)
  · have hd := hd.1 hb9
    rw [hb9]
    refine .skips 6 rfl ?_
    refine .gnoU rfl rfl rfl rfl ?_
    refine .gnoU rfl rfl rfl rfl ?_
    refine .gnoU rfl rfl rfl rfl ?_
    refine .gnoU rfl rfl rfl rfl ?_
    refine .gnoU rfl rfl rfl rfl ?_
    refine .skips 3 rfl ?_
    refine .nil' fun c w ho hs => Cod.at (E := [(4, _)]) (ho.sub ⟨rfl, trivial⟩) hs ?_
    refine .drop .z ?_
    refine .drop .z ?_
    exact .ret (pret Tryz.results66 (.t rfl .n) (.refl _) ⟨true, rfl, hd⟩)
  · have hd := hd.2 hb9
    rw [hb9]
    refine .gyes rfl rfl rfl (.fieldAddr Tryz.underlying55 rfl Tryz.sizeOf3 rfl (o := 0) rfl rfl rfl ?_)
    refine .gyes rfl rfl rfl (.load1 Tryz.isAgg3 rfl (.s .z) rfl rfl rfl ?_)
    refine .gyes rfl rfl rfl (.fieldAddr Tryz.underlying55 rfl Tryz.sizeOf3 rfl (o := 0) rfl rfl rfl ?_)
    refine .gyes rfl rfl rfl (.load1 Tryz.isAgg3 rfl .z rfl rfl rfl ?_)
    refine .gyes rfl rfl rfl (.eq rfl rfl rfl rfl ?_)
    refine .gyes rfl rfl rfl (.move rfl rfl rfl ?_)
    refine split (a0.From == a1.From) (fun hb10 => ?_) (fun hb10 => ?_)
    · have hd := hd.1 hb10
      rw [hb10]
      refine .gyes rfl rfl rfl (.fieldAddr Tryz.underlying55 rfl Tryz.sizeOf3 rfl (o := 1) rfl rfl rfl ?_)
      refine .gyes rfl rfl rfl (.load1 Tryz.isAgg3 rfl (.s .z) rfl rfl rfl ?_)
      refine .gyes rfl rfl rfl (.fieldAddr Tryz.underlying55 rfl Tryz.sizeOf3 rfl (o := 1) rfl rfl rfl ?_)
      refine .gyes rfl rfl rfl (.load1 Tryz.isAgg3 rfl .z rfl rfl rfl ?_)
      refine .gyes rfl rfl rfl (.lt rfl rfl rfl rfl ?_)
      refine .gyes rfl rfl rfl (.pickT rfl rfl rfl rfl rfl ?_)
      refine .skips 2 rfl ?_
      refine .nil' fun c w ho hs => Cod.at (E := [(4, _)]) (ho.sub ⟨rfl, trivial⟩) hs ?_
      refine .drop .z ?_
      refine .drop .z ?_
      exact .ret (pret Tryz.results66 (.t rfl .n) (.refl _) ⟨(decide (a0.To < a1.To)), rfl, hd⟩)
    · have hd := hd.2 hb10
      rw [hb10]
      refine .skips 5 rfl ?_
      refine .gyes rfl rfl rfl (.pickF rfl rfl rfl rfl rfl ?_)
      refine .skips 2 rfl ?_
      refine .nil' fun c w ho hs => Cod.at (E := [(4, _)]) (ho.sub ⟨rfl, trivial⟩) hs ?_
      refine .drop .z ?_
      refine .drop .z ?_
      exact .ret (pret Tryz.results66 (.t rfl .n) (.refl _) ⟨false, rfl, hd⟩)

theorem W_ref01_Of {I : IH} {a0 : Int}  {Q : Wide → Prop}  (hd : ref01_Of a0 Q) :
    PFun Tryz.prog 67 [.int .i64 a0] I (fun I_ v => ∃ r, v = .agg (encWide r).toArray ∧ Q r) := by
  refine Fun.enter Tryz.func67 rfl Tryz.ntmps67 rfl (.c .n) fun w0 M => ?_
  refine .seq ?_
  refine .region ?_
  refine .allocA Tryz.zeroValue94 rfl rfl fun b3 => ?_
  refine .nil' fun c w ho hs => Cod.at (E := [(0, _), (2, _)]) (ho.sub ⟨rfl, rfl, trivial⟩) hs ?_
  refine .seq ?_
  refine .seq ?_
  refine .region ?_
  refine .skips 1 rfl ?_
  refine .lt rfl rfl rfl rfl ?_
  refine .nil' fun c w ho hs => Cod.at (E := [(0, _), (2, _), (4, _)]) (ho.sub ⟨rfl, rfl, rfl, trivial⟩) hs ?_
  refine .cond rfl (fun hb5 => ?_) (fun hb5 => ?_)
  · have hd := hd.1 hb5
    refine .seq ?_
    refine .region ?_
    refine .skips 1 rfl ?_
    refine .conv Tryz.underlying2 Tryz.underlying92 rfl rfl rfl ?_
    refine .build Tryz.zeroValue94 Tryz.underlying94 BI94 (.c rfl rfl rfl (.t .nil) (.c rfl rfl rfl (.s (.t .nil)) .n)) (by exact ⟨⟨_, _, rfl, rfl, rfl⟩, ⟨⟨_, _, rfl, rfl, rfl⟩, trivial⟩⟩) rfl rfl ?_
    refine .storeA Tryz.sizeOf94 rfl rfl .z (.t (.t .nil)) rfl rfl ?_
    refine .nil' fun c w ho hs => Cod.at (E := [(2, _)]) (ho.sub ⟨rfl, trivial⟩) hs ?_
    exact .ret (pret Tryz.results67 (.w Tryz.isAgg94 Tryz.sizeOf94 rfl .z rfl .n) (.refl _) ⟨({ Hi := (-1), Lo := IntKind.wrap .u64 (a0) } : Wide), rfl, hd⟩)
  · have hd := hd.2 hb5
    refine .skip' fun c w ho hs => Cod.at (E := [(0, _), (2, _)]) (ho.sub ⟨rfl, rfl, trivial⟩) hs ?_
    refine .seq ?_
    refine .region ?_
    refine .skips 1 rfl ?_
    refine .conv Tryz.underlying2 Tryz.underlying92 rfl rfl rfl ?_
    refine .build Tryz.zeroValue94 Tryz.underlying94 BI94 (.c rfl rfl rfl (.s (.t .nil)) .n) (by exact ⟨⟨_, _, rfl, rfl, rfl⟩, trivial⟩) rfl rfl ?_
    refine .storeA Tryz.sizeOf94 rfl rfl .z (.t (.t .nil)) rfl rfl ?_
    refine .nil' fun c w ho hs => Cod.at (E := [(2, _)]) (ho.sub ⟨rfl, trivial⟩) hs ?_
    exact .ret (pret Tryz.results67 (.w Tryz.isAgg94 Tryz.sizeOf94 rfl .z rfl .n) (.refl _) ⟨({ Hi := 0, Lo := IntKind.wrap .u64 (a0) } : Wide), rfl, hd⟩)

theorem W_ref01_Compare {I : IH} {a0 : Wide} {a1 : Wide}  {Q : Int → Prop}  (hd : ref01_Compare a0 a1 Q) :
    PFun Tryz.prog 86 [.agg (encWide a0).toArray, .agg (encWide a1).toArray] I (fun I_ v => ∃ r, v = .int .i64 r ∧ Q r) := by
  refine Fun.enter Tryz.func86 rfl Tryz.ntmps86 rfl (.c (.c .n)) fun w0 M => ?_
  refine .seq ?_
  refine .region ?_
  refine .boxA rfl rfl rfl fun b5 => ?_
  refine .boxA rfl rfl rfl fun b7 => ?_
  refine .skips 1 rfl ?_
  refine .nil' fun c w ho hs => Cod.at (E := [(2, _), (3, _)]) (ho.sub ⟨rfl, rfl, trivial⟩) hs ?_
  refine .seq ?_
  refine Cod.joinQ (σ := Unit) hd (fun (_ : Unit) c w => ∃ I_, IH.le I I_ ∧ Ok 27 [(2, .pointer (some ⟨b5, 0, none⟩)), (3, .pointer (some ⟨b7, 0, none⟩))] c ∧ Sym w0 M I I_ [pto b5 (.cells #[.int .i64 a0.Hi, .int .u64 a0.Lo] 94 (0, 0)), pto b7 (.cells #[.int .i64 a1.Hi, .int .u64 a1.Lo] 94 (0, 0))] w) (fun k15 hd => ?_) ?_
  · skip
    refine .seq ?_
    refine .region ?_
    refine .fieldAddr Tryz.underlying94 rfl Tryz.sizeOf2 rfl (o := 0) rfl rfl rfl ?_
    refine .load1 Tryz.isAgg2 rfl (.s .z) rfl rfl rfl ?_
    refine .fieldAddr Tryz.underlying94 rfl Tryz.sizeOf2 rfl (o := 0) rfl rfl rfl ?_
    refine .load1 Tryz.isAgg2 rfl .z rfl rfl rfl ?_
    refine .lt rfl rfl rfl rfl ?_
    refine .skips 1 rfl ?_
    refine split (decide (a0.Hi < a1.Hi)) (fun hb16 => ?_) (fun hb16 => ?_)
    · have hd := hd.1 hb16
      rw [hb16]
      refine .skips 6 rfl ?_
      refine .gnoU rfl rfl rfl rfl ?_
      refine .gnoU rfl rfl rfl rfl ?_
      refine .gnoU rfl rfl rfl rfl ?_
      refine .gnoU rfl rfl rfl rfl ?_
      refine .gnoU rfl rfl rfl rfl ?_
      refine .skips 2 rfl ?_
      refine .nil' fun c w ho hs => Cod.at (E := [(2, _), (3, _), (23, _)]) (ho.sub ⟨rfl, rfl, rfl, trivial⟩) hs ?_
      refine .condKT rfl rfl ?_
      refine .seq ?_
      refine .region ?_
      refine .skips 1 rfl ?_
      refine .nil' fun c w ho hs => Cod.at (E := [(4, _)]) (ho.sub ⟨rfl, trivial⟩) hs ?_
      refine .drop .z ?_
      refine .drop .z ?_
      exact .ret (pret Tryz.results86 (.t rfl .n) (.refl _) ⟨(-1), rfl, hd⟩)
    · have hd := hd.2 hb16
      rw [hb16]
      refine .gyes rfl rfl rfl (.fieldAddr Tryz.underlying94 rfl Tryz.sizeOf2 rfl (o := 0) rfl rfl rfl ?_)
      refine .gyes rfl rfl rfl (.load1 Tryz.isAgg2 rfl (.s .z) rfl rfl rfl ?_)
      refine .gyes rfl rfl rfl (.fieldAddr Tryz.underlying94 rfl Tryz.sizeOf2 rfl (o := 0) rfl rfl rfl ?_)
      refine .gyes rfl rfl rfl (.load1 Tryz.isAgg2 rfl .z rfl rfl rfl ?_)
      refine .gyes rfl rfl rfl (.eq rfl rfl rfl rfl ?_)
      refine .gyes rfl rfl rfl (.move rfl rfl rfl ?_)
      refine split (a0.Hi == a1.Hi) (fun hb17 => ?_) (fun hb17 => ?_)
      · have hd := hd.1 hb17
        rw [hb17]
        refine .gyes rfl rfl rfl (.fieldAddr Tryz.underlying94 rfl Tryz.sizeOf92 rfl (o := 1) rfl rfl rfl ?_)
        refine .gyes rfl rfl rfl (.load1 Tryz.isAgg92 rfl (.s .z) rfl rfl rfl ?_)
        refine .gyes rfl rfl rfl (.fieldAddr Tryz.underlying94 rfl Tryz.sizeOf92 rfl (o := 1) rfl rfl rfl ?_)
        refine .gyes rfl rfl rfl (.load1 Tryz.isAgg92 rfl .z rfl rfl rfl ?_)
        refine .gyes rfl rfl rfl (.lt rfl rfl rfl rfl ?_)
        refine .gyes rfl rfl rfl (.pickT rfl rfl rfl rfl rfl ?_)
        refine .skips 1 rfl ?_
        refine .nil' fun c w ho hs => Cod.at (E := [(2, _), (3, _), (23, _)]) (ho.sub ⟨rfl, rfl, rfl, trivial⟩) hs ?_
        refine .cond rfl (fun hb18 => ?_) (fun hb18 => ?_)
        · have hd := hd.1 hb18
          refine .seq ?_
          refine .region ?_
          refine .skips 1 rfl ?_
          refine .nil' fun c w ho hs => Cod.at (E := [(4, _)]) (ho.sub ⟨rfl, trivial⟩) hs ?_
          refine .drop .z ?_
          refine .drop .z ?_
          exact .ret (pret Tryz.results86 (.t rfl .n) (.refl _) ⟨(-1), rfl, hd⟩)
        · have hd := hd.2 hb18
          exact .skip' fun c w ho hs => ⟨(), hd, I, (.refl _), ho.sub ⟨rfl, rfl, trivial⟩, hs.pick (.c (.s .z) (.c .z .n))⟩
      · have hd := hd.2 hb17
        rw [hb17]
        refine .skips 5 rfl ?_
        refine .gyes rfl rfl rfl (.pickF rfl rfl rfl rfl rfl ?_)
        refine .skips 1 rfl ?_
        refine .nil' fun c w ho hs => Cod.at (E := [(2, _), (3, _), (23, _)]) (ho.sub ⟨rfl, rfl, rfl, trivial⟩) hs ?_
        refine .condKF rfl rfl ?_
        exact .skip' fun c w ho hs => ⟨(), hd, I, (.refl _), ho.sub ⟨rfl, rfl, trivial⟩, hs.pick (.c (.s .z) (.c .z .n))⟩
  · rintro ⟨⟩ hd c w hst
    obtain ⟨I19, hl20, hok, hsym⟩ := hst
    have le21 := IH.le.trans (.refl _) hl20
    refine Cod.at hok hsym ?_
    refine .seq ?_
    refine .seq ?_
    refine .region ?_
    refine .loadW Tryz.isAgg94 Tryz.sizeOf94 rfl .z rfl rfl rfl ?_
    refine .loadW Tryz.isAgg94 Tryz.sizeOf94 rfl (.s .z) rfl rfl rfl ?_
    refine .eqV rfl rfl (EQ94 a0 a1) (EG94 _ _ _ _ _) rfl rfl rfl ?_
    refine .nil' fun c w ho hs => Cod.at (E := [(26, _)]) (ho.sub ⟨rfl, trivial⟩) hs ?_
    refine .drop .z ?_
    refine .drop .z ?_
    refine .cond rfl (fun hb22 => ?_) (fun hb22 => ?_)
    · have hd := hd.1 hb22
      refine .seq ?_
      refine .region ?_
      refine .skips 1 rfl ?_
      refine .nil' fun c w ho hs => Cod.at (E := [(4, _)]) (ho.sub ⟨rfl, trivial⟩) hs ?_
      exact .ret (pret Tryz.results86 (.t rfl .n) le21 ⟨0, rfl, hd⟩)
    · have hd := hd.2 hb22
      refine .skip' fun c w ho hs => Cod.at (E := []) (ho.sub trivial) hs ?_
      refine .seq ?_
      refine .region ?_
      refine .skips 1 rfl ?_
      refine .nil' fun c w ho hs => Cod.at (E := [(4, _)]) (ho.sub ⟨rfl, trivial⟩) hs ?_
      exact .ret (pret Tryz.results86 (.t rfl .n) le21 ⟨1, rfl, hd⟩)

theorem W_ref02_truth {I : IH} {a0 : Bool}  {Q : Wide → Prop}  (hd : ref02_truth a0 Q) :
    PFun Tryz.prog 87 [.bool a0] I (fun I_ v => ∃ r, v = .agg (encWide r).toArray ∧ Q r) := by
  refine Fun.enter Tryz.func87 rfl Tryz.ntmps87 rfl (.c .n) fun w0 M => ?_
  refine .seq ?_
  refine .region ?_
  refine .allocA Tryz.zeroValue94 rfl rfl fun b3 => ?_
  refine .nil' fun c w ho hs => Cod.at (E := [(0, _), (2, _)]) (ho.sub ⟨rfl, rfl, trivial⟩) hs ?_
  refine .seq ?_
  refine .seq ?_
  refine .region ?_
  refine .skips 1 rfl ?_
  refine .nil' fun c w ho hs => Cod.at (E := [(2, _), (3, _)]) (ho.sub ⟨rfl, rfl, trivial⟩) hs ?_
  refine .cond rfl (fun hb5 => ?_) (fun hb5 => ?_)
  · have hd := hd.1 hb5
    refine .seq ?_
    refine .region ?_
    refine .build Tryz.zeroValue94 Tryz.underlying94 BI94 (.c rfl rfl rfl (.s (.t .nil)) .n) (by exact ⟨⟨_, _, rfl, rfl, rfl⟩, trivial⟩) rfl rfl ?_
    refine .storeA Tryz.sizeOf94 rfl rfl .z (.t (.t .nil)) rfl rfl ?_
    refine .nil' fun c w ho hs => Cod.at (E := [(2, _)]) (ho.sub ⟨rfl, trivial⟩) hs ?_
    exact .ret (pret Tryz.results87 (.w Tryz.isAgg94 Tryz.sizeOf94 rfl .z rfl .n) (.refl _) ⟨({ Hi := 0, Lo := 1 } : Wide), rfl, hd⟩)
  · have hd := hd.2 hb5
    refine .skip' fun c w ho hs => Cod.at (E := [(2, _)]) (ho.sub ⟨rfl, trivial⟩) hs ?_
    refine .seq ?_
    refine .region ?_
    refine .build Tryz.zeroValue94 Tryz.underlying94 BI94 .n (by exact trivial) rfl rfl ?_
    refine .storeA Tryz.sizeOf94 rfl rfl .z (.t (.t .nil)) rfl rfl ?_
    refine .nil' fun c w ho hs => Cod.at (E := [(2, _)]) (ho.sub ⟨rfl, trivial⟩) hs ?_
    exact .ret (pret Tryz.results87 (.w Tryz.isAgg94 Tryz.sizeOf94 rfl .z rfl .n) (.refl _) ⟨({ Hi := 0, Lo := 0 } : Wide), rfl, hd⟩)

theorem W_ref01_Add {I : IH} {a0 : Wide} {a1 : Wide}  {Q : Wide → Prop}  (hd : ref01_Add a0 a1 Q) :
    PFun Tryz.prog 88 [.agg (encWide a0).toArray, .agg (encWide a1).toArray] I (fun I_ v => ∃ r, v = .agg (encWide r).toArray ∧ Q r) := by
  refine Fun.enter Tryz.func88 rfl Tryz.ntmps88 rfl (.c (.c .n)) fun w0 M => ?_
  refine .seq ?_
  refine .region ?_
  refine .boxA rfl rfl rfl fun b7 => ?_
  refine .boxA rfl rfl rfl fun b9 => ?_
  refine .allocA Tryz.zeroValue94 rfl rfl fun b11 => ?_
  refine .nil' fun c w ho hs => Cod.at (E := [(2, _), (3, _), (4, _)]) (ho.sub ⟨rfl, rfl, rfl, trivial⟩) hs ?_
  refine .seq ?_
  refine .region ?_
  refine .fieldAddr Tryz.underlying94 rfl Tryz.sizeOf92 rfl (o := 1) rfl rfl rfl ?_
  refine .load1 Tryz.isAgg92 rfl (.s (.s .z)) rfl rfl rfl ?_
  refine .fieldAddr Tryz.underlying94 rfl Tryz.sizeOf92 rfl (o := 1) rfl rfl rfl ?_
  refine .load1 Tryz.isAgg92 rfl (.s .z) rfl rfl rfl ?_
  refine .add rfl rfl rfl rfl ?_
  refine .skips 1 rfl ?_
  refine .nil' fun c w ho hs => Cod.at (E := [(2, _), (3, _), (4, _), (5, _)]) (ho.sub ⟨rfl, rfl, rfl, rfl, trivial⟩) hs ?_
  refine .seq ?_
  refine .region ?_
  refine .fieldAddr Tryz.underlying94 rfl Tryz.sizeOf2 rfl (o := 0) rfl rfl rfl ?_
  refine .load1 Tryz.isAgg2 rfl (.s (.s .z)) rfl rfl rfl ?_
  refine .fieldAddr Tryz.underlying94 rfl Tryz.sizeOf2 rfl (o := 0) rfl rfl rfl ?_
  refine .load1 Tryz.isAgg2 rfl (.s .z) rfl rfl rfl ?_
  refine .add rfl rfl rfl rfl ?_
  refine .skips 1 rfl ?_
  refine .nil' fun c w ho hs => Cod.at (E := [(2, _), (4, _), (5, _), (6, _)]) (ho.sub ⟨rfl, rfl, rfl, rfl, trivial⟩) hs ?_
  refine .drop (.s .z) ?_
  refine .seq ?_
  refine .seq ?_
  refine .region ?_
  refine .skips 1 rfl ?_
  refine .fieldAddr Tryz.underlying94 rfl Tryz.sizeOf92 rfl (o := 1) rfl rfl rfl ?_
  refine .load1 Tryz.isAgg92 rfl (.s .z) rfl rfl rfl ?_
  refine .lt rfl rfl rfl rfl ?_
  refine .nil' fun c w ho hs => Cod.at (E := [(4, _), (5, _), (6, _), (20, _)]) (ho.sub ⟨rfl, rfl, rfl, rfl, trivial⟩) hs ?_
  refine .drop (.s .z) ?_
  refine .cond rfl (fun hb13 => ?_) (fun hb13 => ?_)
  · have hd := hd.1 hb13
    refine .region ?_
    refine .skips 1 rfl ?_
    refine .add rfl rfl rfl rfl ?_
    refine .sub (E' := [(4, _), (5, _), (20, _), (21, _), (22, _)]) ⟨rfl, rfl, rfl, rfl, rfl, trivial⟩ ?_
    refine .skips 1 rfl ?_
    refine .nil' fun c w ho hs => Cod.at (E := [(4, _), (5, _), (6, _)]) (ho.sub ⟨rfl, rfl, rfl, trivial⟩) hs ?_
    refine .seq ?_
    refine .region ?_
    refine .skips 2 rfl ?_
    refine .build Tryz.zeroValue94 Tryz.underlying94 BI94 (.c rfl rfl rfl (.t .nil) (.c rfl rfl rfl (.s (.t .nil)) .n)) (by exact ⟨⟨_, _, rfl, rfl, rfl⟩, ⟨⟨_, _, rfl, rfl, rfl⟩, trivial⟩⟩) rfl rfl ?_
    refine .storeA Tryz.sizeOf94 rfl rfl .z (.t (.t .nil)) rfl rfl ?_
    refine .nil' fun c w ho hs => Cod.at (E := [(4, _)]) (ho.sub ⟨rfl, trivial⟩) hs ?_
    exact .ret (pret Tryz.results88 (.w Tryz.isAgg94 Tryz.sizeOf94 rfl .z rfl .n) (.refl _) ⟨({ Hi := w64 ((w64 (a0.Hi + a1.Hi)) + 1), Lo := IntKind.wrap .u64 (a0.Lo + a1.Lo) } : Wide), rfl, hd⟩)
  · have hd := hd.2 hb13
    refine .skip' fun c w ho hs => Cod.at (E := [(4, _), (5, _), (6, _)]) (ho.sub ⟨rfl, rfl, rfl, trivial⟩) hs ?_
    refine .seq ?_
    refine .region ?_
    refine .skips 2 rfl ?_
    refine .build Tryz.zeroValue94 Tryz.underlying94 BI94 (.c rfl rfl rfl (.t .nil) (.c rfl rfl rfl (.s (.t .nil)) .n)) (by exact ⟨⟨_, _, rfl, rfl, rfl⟩, ⟨⟨_, _, rfl, rfl, rfl⟩, trivial⟩⟩) rfl rfl ?_
    refine .storeA Tryz.sizeOf94 rfl rfl .z (.t (.t .nil)) rfl rfl ?_
    refine .nil' fun c w ho hs => Cod.at (E := [(4, _)]) (ho.sub ⟨rfl, trivial⟩) hs ?_
    exact .ret (pret Tryz.results88 (.w Tryz.isAgg94 Tryz.sizeOf94 rfl .z rfl .n) (.refl _) ⟨({ Hi := w64 (a0.Hi + a1.Hi), Lo := IntKind.wrap .u64 (a0.Lo + a1.Lo) } : Wide), rfl, hd⟩)

theorem W_ref02_Add {I : IH} {a0 : Int} {a1 : Wide} {a2 : Wide}  {Q : Wide → Prop}  (hd : ref02_Add a0 a1 a2 Q) :
    PFun Tryz.prog 68 [.int .i64 a0, .agg (encWide a1).toArray, .agg (encWide a2).toArray] I (fun I_ v => ∃ r, v = .agg (encWide r).toArray ∧ Q r) := by
  refine Fun.enter Tryz.func68 rfl Tryz.ntmps68 rfl (.c (.c (.c .n))) fun w0 M => ?_
  refine .seq ?_
  refine .region ?_
  refine .boxA rfl rfl rfl fun b7 => ?_
  refine .boxA rfl rfl rfl fun b9 => ?_
  refine .allocA Tryz.zeroValue94 rfl rfl fun b11 => ?_
  refine .nil' fun c w ho hs => Cod.at (E := [(0, _), (4, _), (5, _), (6, _)]) (ho.sub ⟨rfl, rfl, rfl, rfl, trivial⟩) hs ?_
  refine .seq ?_
  refine .region ?_
  refine .skips 1 rfl ?_
  refine .nil' fun c w ho hs => Cod.at (E := [(4, _), (5, _), (6, _), (7, _)]) (ho.sub ⟨rfl, rfl, rfl, rfl, trivial⟩) hs ?_
  refine .block ?_
  refine .seq ?_
  refine Cod.joinQ (σ := Bool) hd (fun (s17 : Bool) c w => ∃ I_, IH.le I I_ ∧ Ok 35 [(4, .pointer (some ⟨b7, 0, none⟩)), (5, .pointer (some ⟨b9, 0, none⟩)), (6, .pointer (some ⟨b11, 0, none⟩)), (7, .int .i64 a0), (9, .bool s17)] c ∧ Sym w0 M I I_ [pto b7 (.cells #[.int .i64 a1.Hi, .int .u64 a1.Lo] 94 (0, 0)), pto b9 (.cells #[.int .i64 a2.Hi, .int .u64 a2.Lo] 94 (0, 0)), pto b11 (.cells #[.int .i64 0, .int .u64 0] 94 (0, 0))] w) (fun k18 hd => ?_) ?_
  · skip
    refine .seq ?_
    refine .region ?_
    refine .eq rfl rfl rfl rfl ?_
    refine .skips 1 rfl ?_
    refine .nil' fun c w ho hs => Cod.at (E := [(4, _), (5, _), (6, _), (7, _), (9, _)]) (ho.sub ⟨rfl, rfl, rfl, rfl, rfl, trivial⟩) hs ?_
    refine .cond rfl (fun hb19 => ?_) (fun hb19 => ?_)
    · have hd := hd.1 hb19
      exact .skip' fun c w ho hs => ⟨(a0 == 1), hd, I, (.refl _), ho.sub ⟨rfl, rfl, rfl, rfl, rfl, trivial⟩, hs.pick (.c (.s (.s .z)) (.c (.s .z) (.c .z .n)))⟩
    · have hd := hd.2 hb19
      refine .seq ?_
      refine .region ?_
      refine .eq rfl rfl rfl rfl ?_
      refine .sub (E' := [(4, _), (5, _), (6, _), (7, _), (11, _)]) ⟨rfl, rfl, rfl, rfl, rfl, trivial⟩ ?_
      refine .skips 1 rfl ?_
      refine .nil' fun c w ho hs => Cod.at (E := [(4, _), (5, _), (6, _), (7, _), (9, _)]) (ho.sub ⟨rfl, rfl, rfl, rfl, rfl, trivial⟩) hs ?_
      refine .cond rfl (fun hb20 => ?_) (fun hb20 => ?_)
      · have hd := hd.1 hb20
        exact .skip' fun c w ho hs => ⟨(a0 == 3), hd, I, (.refl _), ho.sub ⟨rfl, rfl, rfl, rfl, rfl, trivial⟩, hs.pick (.c (.s (.s .z)) (.c (.s .z) (.c .z .n)))⟩
      · have hd := hd.2 hb20
        refine .region ?_
        refine .eq rfl rfl rfl rfl ?_
        refine .sub (E' := [(4, _), (5, _), (6, _), (7, _), (12, _)]) ⟨rfl, rfl, rfl, rfl, rfl, trivial⟩ ?_
        refine .skips 1 rfl ?_
        exact .nil' fun c w ho hs => ⟨(a0 == 4), hd, I, (.refl _), ho.sub ⟨rfl, rfl, rfl, rfl, rfl, trivial⟩, hs.pick (.c (.s (.s .z)) (.c (.s .z) (.c .z .n)))⟩
  · rintro s17 hd c w hst
    obtain ⟨I21, hl22, hok, hsym⟩ := hst
    have le23 := IH.le.trans (.refl _) hl22
    refine Cod.at hok hsym ?_
    refine .cond rfl (fun hb24 => ?_) (fun hb24 => ?_)
    · have hd := hd.1 hb24
      refine .seq ?_
      refine .seq ?_
      refine .region ?_
      refine .loadW Tryz.isAgg94 Tryz.sizeOf94 rfl (.s .z) rfl rfl rfl ?_
      refine .loadW Tryz.isAgg94 Tryz.sizeOf94 rfl .z rfl rfl rfl ?_
      have hw31 := W_ref01_Compare (I := I21) hd
      refine .call Tryz.call86 rfl hw31 rfl rfl fun v29 I26 hl27 hv28 => ?_
      obtain ⟨r25, rfl, hd⟩ := hv28
      have le32 := IH.le.trans le23 hl27
      refine .lt rfl rfl rfl rfl ?_
      refine .nil' fun c w ho hs => Cod.at (E := [(4, _), (5, _), (6, _), (16, _)]) (ho.sub ⟨rfl, rfl, rfl, rfl, trivial⟩) hs ?_
      refine .cond rfl (fun hb33 => ?_) (fun hb33 => ?_)
      · have hd := hd.1 hb33
        refine .seq ?_
        refine .region ?_
        refine .loadW Tryz.isAgg94 Tryz.sizeOf94 rfl (.s .z) rfl rfl rfl ?_
        refine .storeA Tryz.sizeOf94 rfl rfl (.s (.s .z)) (.t (.t .nil)) rfl rfl ?_
        refine .nil' fun c w ho hs => Cod.at (E := [(6, _)]) (ho.sub ⟨rfl, trivial⟩) hs ?_
        refine .drop .z ?_
        refine .drop .z ?_
        exact .ret (pret Tryz.results68 (.w Tryz.isAgg94 Tryz.sizeOf94 rfl .z rfl .n) le32 ⟨a2, rfl, hd⟩)
      · have hd := hd.2 hb33
        refine .skip' fun c w ho hs => Cod.at (E := [(4, _), (6, _)]) (ho.sub ⟨rfl, rfl, trivial⟩) hs ?_
        refine .drop (.s .z) ?_
        refine .seq ?_
        refine .region ?_
        refine .loadW Tryz.isAgg94 Tryz.sizeOf94 rfl .z rfl rfl rfl ?_
        refine .storeA Tryz.sizeOf94 rfl rfl (.s .z) (.t (.t .nil)) rfl rfl ?_
        refine .nil' fun c w ho hs => Cod.at (E := [(6, _)]) (ho.sub ⟨rfl, trivial⟩) hs ?_
        refine .drop .z ?_
        exact .ret (pret Tryz.results68 (.w Tryz.isAgg94 Tryz.sizeOf94 rfl .z rfl .n) le32 ⟨a1, rfl, hd⟩)
    · have hd := hd.2 hb24
      refine .seq ?_
      refine .region ?_
      refine .eq rfl rfl rfl rfl ?_
      refine .skips 1 rfl ?_
      refine .nil' fun c w ho hs => Cod.at (E := [(4, _), (5, _), (6, _), (7, _), (19, _)]) (ho.sub ⟨rfl, rfl, rfl, rfl, rfl, trivial⟩) hs ?_
      refine .cond rfl (fun hb34 => ?_) (fun hb34 => ?_)
      · have hd := hd.1 hb34
        refine .seq ?_
        refine .region ?_
        refine .loadW Tryz.isAgg94 Tryz.sizeOf94 rfl .z rfl rfl rfl ?_
        refine .build Tryz.zeroValue94 Tryz.underlying94 BI94 .n (by exact trivial) rfl rfl ?_
        refine .neV rfl rfl (EQ94 a1 ({ Hi := 0, Lo := 0 } : Wide)) (EG94 _ _ _ _ _) rfl rfl rfl ?_
        refine .skips 1 rfl ?_
        refine split (!(a1 == ({ Hi := 0, Lo := 0 } : Wide))) (fun hb35 => ?_) (fun hb35 => ?_)
        · have hd := hd.1 hb35
          rw [hb35]
          refine .skips 4 rfl ?_
          have hw42 := W_ref02_truth (I := I21) hd
          refine .call Tryz.call87 rfl hw42 rfl rfl fun v40 I37 hl38 hv39 => ?_
          obtain ⟨r36, rfl, hd⟩ := hv39
          have le43 := IH.le.trans le23 hl38
          refine .storeA Tryz.sizeOf94 rfl rfl (.s (.s .z)) (.t (.t .nil)) rfl rfl ?_
          refine .nil' fun c w ho hs => Cod.at (E := [(6, _)]) (ho.sub ⟨rfl, trivial⟩) hs ?_
          refine .drop .z ?_
          refine .drop .z ?_
          exact .ret (pret Tryz.results68 (.w Tryz.isAgg94 Tryz.sizeOf94 rfl .z rfl .n) le43 ⟨r36, rfl, hd⟩)
        · have hd := hd.2 hb35
          rw [hb35]
          refine .gyes rfl rfl rfl (.loadW Tryz.isAgg94 Tryz.sizeOf94 rfl (.s .z) rfl rfl rfl ?_)
          refine .gyes rfl rfl rfl (.build Tryz.zeroValue94 Tryz.underlying94 BI94 .n (by exact trivial) rfl rfl ?_)
          refine .gyes rfl rfl rfl (.neV rfl rfl (EQ94 a2 ({ Hi := 0, Lo := 0 } : Wide)) (EG94 _ _ _ _ _) rfl rfl rfl ?_)
          refine .skips 1 rfl ?_
          have hw50 := W_ref02_truth (I := I21) hd
          refine .call Tryz.call87 rfl hw50 rfl rfl fun v48 I45 hl46 hv47 => ?_
          obtain ⟨r44, rfl, hd⟩ := hv47
          have le51 := IH.le.trans le23 hl46
          refine .storeA Tryz.sizeOf94 rfl rfl (.s (.s .z)) (.t (.t .nil)) rfl rfl ?_
          refine .nil' fun c w ho hs => Cod.at (E := [(6, _)]) (ho.sub ⟨rfl, trivial⟩) hs ?_
          refine .drop .z ?_
          refine .drop .z ?_
          exact .ret (pret Tryz.results68 (.w Tryz.isAgg94 Tryz.sizeOf94 rfl .z rfl .n) le51 ⟨r44, rfl, hd⟩)
      · have hd := hd.2 hb34
        refine .seq ?_
        refine .region ?_
        refine .eq rfl rfl rfl rfl ?_
        refine .skips 1 rfl ?_
        refine .nil' fun c w ho hs => Cod.at (E := [(4, _), (5, _), (6, _), (30, _)]) (ho.sub ⟨rfl, rfl, rfl, rfl, trivial⟩) hs ?_
        refine .cond rfl (fun hb52 => ?_) (fun hb52 => ?_)
        · have hd := hd.1 hb52
          refine .seq ?_
          refine .region ?_
          refine .loadW Tryz.isAgg94 Tryz.sizeOf94 rfl .z rfl rfl rfl ?_
          refine .loadW Tryz.isAgg94 Tryz.sizeOf94 rfl (.s .z) rfl rfl rfl ?_
          have hw59 := W_ref01_Add (I := I21) hd
          refine .call Tryz.call88 rfl hw59 rfl rfl fun v57 I54 hl55 hv56 => ?_
          obtain ⟨r53, rfl, hd⟩ := hv56
          have le60 := IH.le.trans le23 hl55
          refine .storeA Tryz.sizeOf94 rfl rfl (.s (.s .z)) (.t (.t .nil)) rfl rfl ?_
          refine .nil' fun c w ho hs => Cod.at (E := [(6, _)]) (ho.sub ⟨rfl, trivial⟩) hs ?_
          refine .drop .z ?_
          refine .drop .z ?_
          exact .ret (pret Tryz.results68 (.w Tryz.isAgg94 Tryz.sizeOf94 rfl .z rfl .n) le60 ⟨r53, rfl, hd⟩)
        · have hd := hd.2 hb52
          refine .seq ?_
          refine .region ?_
          refine .build Tryz.zeroValue94 Tryz.underlying94 BI94 .n (by exact trivial) rfl rfl ?_
          refine .storeA Tryz.sizeOf94 rfl rfl (.s (.s .z)) (.t (.t .nil)) rfl rfl ?_
          refine .nil' fun c w ho hs => Cod.at (E := [(6, _)]) (ho.sub ⟨rfl, trivial⟩) hs ?_
          refine .drop .z ?_
          refine .drop .z ?_
          exact .ret (pret Tryz.results68 (.w Tryz.isAgg94 Tryz.sizeOf94 rfl .z rfl .n) le23 ⟨({ Hi := 0, Lo := 0 } : Wide), rfl, hd⟩)

theorem W_ref01_Narrow {I : IH} {a0 : Wide}  {Q : (Int × Bool) → Prop}  (hd : ref01_Narrow a0 Q) :
    PFun Tryz.prog 69 [.agg (encWide a0).toArray] I (fun I_ v => ∃ r, v = .tuple #[.int .i64 r.1, .bool r.2] ∧ Q r) := by
  refine Fun.enter Tryz.func69 rfl Tryz.ntmps69 rfl (.c .n) fun w0 M => ?_
  refine .seq ?_
  refine .region ?_
  refine .boxA rfl rfl rfl fun b3 => ?_
  refine .skips 2 rfl ?_
  refine .nil' fun c w ho hs => Cod.at (E := [(1, _)]) (ho.sub ⟨rfl, trivial⟩) hs ?_
  refine .seq ?_
  refine .region ?_
  refine .fieldAddr Tryz.underlying94 rfl Tryz.sizeOf92 rfl (o := 1) rfl rfl rfl ?_
  refine .load1 Tryz.isAgg92 rfl .z rfl rfl rfl ?_
  refine .conv Tryz.underlying92 Tryz.underlying2 rfl rfl rfl ?_
  refine .skips 1 rfl ?_
  refine .nil' fun c w ho hs => Cod.at (E := [(1, _), (4, _)]) (ho.sub ⟨rfl, rfl, trivial⟩) hs ?_
  refine .seq ?_
  refine .seq ?_
  refine .region ?_
  refine .fieldAddr Tryz.underlying94 rfl Tryz.sizeOf2 rfl (o := 0) rfl rfl rfl ?_
  refine .load1 Tryz.isAgg2 rfl .z rfl rfl rfl ?_
  refine .eq rfl rfl rfl rfl ?_
  refine .skips 1 rfl ?_
  refine split (a0.Hi == 0) (fun hb5 => ?_) (fun hb5 => ?_)
  · have hd := hd.1 hb5
    rw [hb5]
    refine .gyes rfl rfl rfl (.move rfl rfl rfl ?_)
    refine .gyes rfl rfl rfl (.ge rfl rfl rfl rfl ?_)
    refine .skips 2 rfl ?_
    refine split (decide (0 ≤ (w64 (a0.Lo)))) (fun hb6 => ?_) (fun hb6 => ?_)
    · have hd := hd.1 hb6
      rw [hb6]
      refine .skips 4 rfl ?_
      refine .gnoU rfl rfl rfl rfl ?_
      refine .gnoU rfl rfl rfl rfl ?_
      refine .skips 2 rfl ?_
      refine .nil' fun c w ho hs => Cod.at (E := [(4, _), (23, _)]) (ho.sub ⟨rfl, rfl, trivial⟩) hs ?_
      refine .drop .z ?_
      refine .condKT rfl rfl ?_
      refine .seq ?_
      refine .region ?_
      refine .skips 3 rfl ?_
      refine .nil' fun c w ho hs => Cod.at (E := [(2, _), (3, _)]) (ho.sub ⟨rfl, rfl, trivial⟩) hs ?_
      exact .ret (pret Tryz.results69 (.t rfl (.t rfl .n)) (.refl _) ⟨(w64 (a0.Lo), true), rfl, hd⟩)
    · have hd := hd.2 hb6
      rw [hb6]
      refine .gyes rfl rfl rfl (.fieldAddr Tryz.underlying94 rfl Tryz.sizeOf2 rfl (o := 0) rfl rfl rfl ?_)
      refine .gyes rfl rfl rfl (.load1 Tryz.isAgg2 rfl .z rfl rfl rfl ?_)
      refine .gyes rfl rfl rfl (.eq rfl rfl rfl rfl ?_)
      refine .gyes rfl rfl rfl (.move rfl rfl rfl ?_)
      refine split (a0.Hi == (-1)) (fun hb7 => ?_) (fun hb7 => ?_)
      · have hd := hd.1 hb7
        rw [hb7]
        refine .gyes rfl rfl rfl (.move rfl rfl rfl ?_)
        refine .gyes rfl rfl rfl (.lt rfl rfl rfl rfl ?_)
        refine .gyes rfl rfl rfl (.pickT rfl rfl rfl rfl rfl ?_)
        refine .skips 1 rfl ?_
        refine .nil' fun c w ho hs => Cod.at (E := [(4, _), (23, _)]) (ho.sub ⟨rfl, rfl, trivial⟩) hs ?_
        refine .drop .z ?_
        refine .cond rfl (fun hb8 => ?_) (fun hb8 => ?_)
        · have hd := hd.1 hb8
          refine .seq ?_
          refine .region ?_
          refine .skips 3 rfl ?_
          refine .nil' fun c w ho hs => Cod.at (E := [(2, _), (3, _)]) (ho.sub ⟨rfl, rfl, trivial⟩) hs ?_
          exact .ret (pret Tryz.results69 (.t rfl (.t rfl .n)) (.refl _) ⟨(w64 (a0.Lo), true), rfl, hd⟩)
        · have hd := hd.2 hb8
          refine .skip' fun c w ho hs => Cod.at (E := []) (ho.sub trivial) hs ?_
          refine .seq ?_
          refine .region ?_
          refine .skips 2 rfl ?_
          refine .nil' fun c w ho hs => Cod.at (E := [(2, _), (3, _)]) (ho.sub ⟨rfl, rfl, trivial⟩) hs ?_
          exact .ret (pret Tryz.results69 (.t rfl (.t rfl .n)) (.refl _) ⟨(0, false), rfl, hd⟩)
      · have hd := hd.2 hb7
        rw [hb7]
        refine .skips 2 rfl ?_
        refine .gyes rfl rfl rfl (.pickF rfl rfl rfl rfl rfl ?_)
        refine .skips 1 rfl ?_
        refine .nil' fun c w ho hs => Cod.at (E := [(4, _), (23, _)]) (ho.sub ⟨rfl, rfl, trivial⟩) hs ?_
        refine .drop .z ?_
        refine .condKF rfl rfl ?_
        refine .skip' fun c w ho hs => Cod.at (E := []) (ho.sub trivial) hs ?_
        refine .seq ?_
        refine .region ?_
        refine .skips 2 rfl ?_
        refine .nil' fun c w ho hs => Cod.at (E := [(2, _), (3, _)]) (ho.sub ⟨rfl, rfl, trivial⟩) hs ?_
        exact .ret (pret Tryz.results69 (.t rfl (.t rfl .n)) (.refl _) ⟨(0, false), rfl, hd⟩)
  · have hd := hd.2 hb5
    rw [hb5]
    refine .skips 4 rfl ?_
    refine .gyes rfl rfl rfl (.fieldAddr Tryz.underlying94 rfl Tryz.sizeOf2 rfl (o := 0) rfl rfl rfl ?_)
    refine .gyes rfl rfl rfl (.load1 Tryz.isAgg2 rfl .z rfl rfl rfl ?_)
    refine .gyes rfl rfl rfl (.eq rfl rfl rfl rfl ?_)
    refine .gyes rfl rfl rfl (.move rfl rfl rfl ?_)
    refine split (a0.Hi == (-1)) (fun hb9 => ?_) (fun hb9 => ?_)
    · have hd := hd.1 hb9
      rw [hb9]
      refine .gyes rfl rfl rfl (.move rfl rfl rfl ?_)
      refine .gyes rfl rfl rfl (.lt rfl rfl rfl rfl ?_)
      refine .gyes rfl rfl rfl (.pickT rfl rfl rfl rfl rfl ?_)
      refine .skips 1 rfl ?_
      refine .nil' fun c w ho hs => Cod.at (E := [(4, _), (23, _)]) (ho.sub ⟨rfl, rfl, trivial⟩) hs ?_
      refine .drop .z ?_
      refine .cond rfl (fun hb10 => ?_) (fun hb10 => ?_)
      · have hd := hd.1 hb10
        refine .seq ?_
        refine .region ?_
        refine .skips 3 rfl ?_
        refine .nil' fun c w ho hs => Cod.at (E := [(2, _), (3, _)]) (ho.sub ⟨rfl, rfl, trivial⟩) hs ?_
        exact .ret (pret Tryz.results69 (.t rfl (.t rfl .n)) (.refl _) ⟨(w64 (a0.Lo), true), rfl, hd⟩)
      · have hd := hd.2 hb10
        refine .skip' fun c w ho hs => Cod.at (E := []) (ho.sub trivial) hs ?_
        refine .seq ?_
        refine .region ?_
        refine .skips 2 rfl ?_
        refine .nil' fun c w ho hs => Cod.at (E := [(2, _), (3, _)]) (ho.sub ⟨rfl, rfl, trivial⟩) hs ?_
        exact .ret (pret Tryz.results69 (.t rfl (.t rfl .n)) (.refl _) ⟨(0, false), rfl, hd⟩)
    · have hd := hd.2 hb9
      rw [hb9]
      refine .skips 2 rfl ?_
      refine .gyes rfl rfl rfl (.pickF rfl rfl rfl rfl rfl ?_)
      refine .skips 1 rfl ?_
      refine .nil' fun c w ho hs => Cod.at (E := [(4, _), (23, _)]) (ho.sub ⟨rfl, rfl, trivial⟩) hs ?_
      refine .drop .z ?_
      refine .condKF rfl rfl ?_
      refine .skip' fun c w ho hs => Cod.at (E := []) (ho.sub trivial) hs ?_
      refine .seq ?_
      refine .region ?_
      refine .skips 2 rfl ?_
      refine .nil' fun c w ho hs => Cod.at (E := [(2, _), (3, _)]) (ho.sub ⟨rfl, rfl, trivial⟩) hs ?_
      exact .ret (pret Tryz.results69 (.t rfl (.t rfl .n)) (.refl _) ⟨(0, false), rfl, hd⟩)

theorem W_ref05_Combine {I : IH} {a0 : Int} {a1 : List Edge} {p1 : Option Addr} {c2 : Nat} {Q : ((List Edge) × Int) → Prop} (R3 : RepSl eEdge I p1 c2 a1) (hd : ref05_Combine a0 a1 Q) :
    PFun Tryz.prog 43 [.int .i64 a0, .slice p1 a1.length c2] I (fun I_ v => ∃ r p4 c5, v = .tuple #[.slice p4 r.1.length c5, .int .i64 r.2] ∧ RepSl eEdge I_ p4 c5 r.1 ∧ Q r) := by
  refine Fun.enter Tryz.func43 rfl Tryz.ntmps43 rfl (.c (.c .n)) fun w0 M => ?_
  refine .seq ?_
  refine .region ?_
  refine .skips 2 rfl ?_
  refine .nil' fun c w ho hs => Cod.at (E := [(0, _), (1, _)]) (ho.sub ⟨rfl, rfl, trivial⟩) hs ?_
  refine .seq ?_
  refine .seq ?_
  refine .region ?_
  refine .skips 1 rfl ?_
  have hw22 := W_ref02_Is (I := I) hd
  refine .call Tryz.call35 rfl hw22 rfl rfl fun v20 I17 hl18 hv19 => ?_
  obtain ⟨r16, rfl, hd⟩ := hv19
  have le23 := IH.le.trans (.refl _) hl18
  replace R3 := R3.mono hl18
  refine .not rfl rfl rfl ?_
  refine .nil' fun c w ho hs => Cod.at (E := [(0, _), (1, _), (17, _)]) (ho.sub ⟨rfl, rfl, rfl, trivial⟩) hs ?_
  refine .cond rfl (fun hb24 => ?_) (fun hb24 => ?_)
  · have hd := hd.1 hb24
    refine .seq ?_
    refine .region ?_
    refine .skips 2 rfl ?_
    refine .nil' fun c w ho hs => Cod.at (E := [(4, _), (5, _)]) (ho.sub ⟨rfl, rfl, trivial⟩) hs ?_
    exact .ret (pret Tryz.results43 (.t rfl (.t rfl .n)) le23 ⟨(([] : List Edge), 8), _, _, rfl, (.nil _ _ _), hd⟩)
  · have hd := hd.2 hb24
    refine .skip' fun c w ho hs => Cod.at (E := [(0, _), (1, _)]) (ho.sub ⟨rfl, rfl, trivial⟩) hs ?_
    refine .seq ?_
    refine .region ?_
    refine .skips 1 rfl ?_
    refine .nil' fun c w ho hs => Cod.at (E := [(0, _), (1, _), (6, _)]) (ho.sub ⟨rfl, rfl, rfl, trivial⟩) hs ?_
    refine .seq ?_
    refine .region ?_
    refine .skips 1 rfl ?_
    refine .nil' fun c w ho hs => Cod.at (E := [(0, _), (1, _), (6, _), (7, _)]) (ho.sub ⟨rfl, rfl, rfl, rfl, trivial⟩) hs ?_
    refine .seq ?_
    refine .seq ?_
    refine .region ?_
    refine .skips 1 rfl ?_
    refine .nil' fun c w ho hs => Cod.at (E := [(0, _), (1, _), (6, _), (7, _), (8, _)]) (ho.sub ⟨rfl, rfl, rfl, rfl, rfl, trivial⟩) hs ?_
    refine .block ?_
    refine .own0 eEdge 55 ?_
    refine .own0 eWide 94 ?_
    refine .loop hd (fun (s : (List Edge) × (List Wide) × Int) c w => match s with | (s3066, s3070, s3074) => ∃ I_ p3067 c3068 p3071 c3072, IH.le I17 I_ ∧ Ok 145 [(0, .int .i64 a0), (1, .slice p1 a1.length c2), (6, .slice p3067 s3066.length c3068), (7, .slice p3071 s3070.length c3072), (8, .int .i64 s3074)] c ∧ Sym w0 M I I_ [OwnSl eEdge 55 p3067 c3068 s3066, OwnSl eWide 94 p3071 c3072 s3070] w) (fun c w ho hs => ⟨I17, _, _, _, _, (.refl _), ho.sub ⟨rfl, rfl, rfl, rfl, rfl, trivial⟩, hs.pick (.c (.s .z) (.c .z .n))⟩) ?_
    rintro ⟨s3066, s3070, s3074⟩ next3077 hd c w hst
    obtain ⟨I3078, p3067, c3068, p3071, c3072, hl3079, hok, hsym⟩ := hst
    have le3080 := IH.le.trans le23 hl3079
    have le3081 := IH.le.trans (.refl _) hl3079
    replace R3 := R3.mono hl3079
    refine Cod.at hok hsym ?_
    refine .seq ?_
    refine .seq ?_
    refine .region ?_
    refine .skips 2 rfl ?_
    refine .len Tryz.underlying48 rfl rfl rfl rfl ?_
    refine .lt rfl rfl rfl rfl ?_
    refine .nil' fun c w ho hs => Cod.at (E := [(0, _), (1, _), (6, _), (7, _), (8, _), (21, _)]) (ho.sub ⟨rfl, rfl, rfl, rfl, rfl, rfl, trivial⟩) hs ?_
    refine .cond rfl (fun hb3083 => ?_) (fun hb3083 => ?_)
    · have hd := hd.1 hb3083
      refine .skip' fun c w ho hs => Cod.at (E := [(0, _), (1, _), (6, _), (7, _), (8, _)]) (ho.sub ⟨rfl, rfl, rfl, rfl, rfl, trivial⟩) hs ?_
      refine .seq ?_
      refine .block ?_
      refine .seq ?_
      refine .region ?_
      refine .skips 1 rfl ?_
      refine .nil' fun c w ho hs => Cod.at (E := [(0, _), (1, _), (6, _), (7, _), (8, _), (9, _)]) (ho.sub ⟨rfl, rfl, rfl, rfl, rfl, rfl, trivial⟩) hs ?_
      refine .seq ?_
      refine Cod.joinQ (σ := Int) hd (fun (s3272 : Int) c w => ∃ I_, IH.le I3078 I_ ∧ Ok 145 [(0, .int .i64 a0), (1, .slice p1 a1.length c2), (6, .slice p3067 s3066.length c3068), (7, .slice p3071 s3070.length c3072), (8, .int .i64 s3074), (9, .int .i64 s3272)] c ∧ Sym w0 M I I_ [OwnSl eEdge 55 p3067 c3068 s3066, OwnSl eWide 94 p3071 c3072 s3070] w) (fun k3273 hd => ?_) ?_
      · skip
        refine .block ?_
        refine .loop hd (fun (s3333 : Int) c w => ∃ I_, IH.le I3078 I_ ∧ Ok 145 [(0, .int .i64 a0), (1, .slice p1 a1.length c2), (6, .slice p3067 s3066.length c3068), (7, .slice p3071 s3070.length c3072), (8, .int .i64 s3074), (9, .int .i64 s3333)] c ∧ Sym w0 M I I_ [OwnSl eEdge 55 p3067 c3068 s3066, OwnSl eWide 94 p3071 c3072 s3070] w) (fun c w ho hs => ⟨I3078, (.refl _), ho.sub ⟨rfl, rfl, rfl, rfl, rfl, rfl, trivial⟩, hs.pick (.c .z (.c .z .n))⟩) ?_
        rintro s3333 next3334 hd c w hst
        obtain ⟨I3335, hl3336, hok, hsym⟩ := hst
        have le3337 := IH.le.trans le3080 hl3336
        have le3338 := IH.le.trans le3081 hl3336
        have le3339 := IH.le.trans (.refl _) hl3336
        replace R3 := R3.mono hl3336
        refine Cod.at hok hsym ?_
        refine .seq ?_
        refine .seq ?_
        refine .ownF .z fun hne3340 => ?_
        refine .ownF (.s .z) fun hne3341 => ?_
        refine .draw [some 0, some 1, some 2, some 3, some 4, some 5, some 6, some 7, some 8, some 9, some 10, some 11, some 12, some 13, some 14] 15 MX (by kernel_rfl) (by kernel_rfl) (by kernel_rfl) (by kernel_rfl) (by kernel_rfl) (by kernel_rfl) (by kernel_rfl) (fun ex => (OwnSl eEdge 55 p3067 c3068 s3066) :: (OwnSl eWide 94 p3071 c3072 s3070) :: ex) (fun _ _ => (.s (.s .z))) rfl ?_
        refine .f [] rfl (by kernel_rfl) rfl rfl (fun ex => .move rfl rfl rfl .mk) ?_
        refine .f [] rfl (by kernel_rfl) rfl rfl (fun ex => .move rfl rfl rfl .mk) ?_
        refine .f [1] rfl (by kernel_rfl) rfl rfl (fun ex => .len Tryz.underlying48 rfl rfl rfl rfl .mk) ?_
        refine .f [0, 2] rfl (by kernel_rfl) rfl rfl (fun ex => .lt rfl rfl rfl rfl .mk) ?_
        refine .f [3] rfl (by kernel_rfl) rfl rfl (fun ex => .move rfl rfl rfl .mk) ?_
        refine split (decide (s3333 < (s3066.length : Int))) (fun hb3342 => ?_) (fun hb3342 => ?_)
        · have hd := hd.1 hb3342
          refine .f [4] rfl (by kernel_rfl) rfl rfl (fun ex => .gyes rfl rfl hb3342 (.move rfl rfl rfl .mk)) ?_
          refine .f [4] rfl (by kernel_rfl) rfl rfl (fun ex => .gyes rfl rfl hb3342 (.move rfl rfl rfl .mk)) ?_
          obtain ⟨h3343, x3344, hx3345, hd⟩ := hd
          obtain ⟨b3346, e3347⟩ := hne3340 (idx_ne hx3345)
          cases e3347
          refine .f [5, 6, 4] rfl (by kernel_rfl) rfl rfl (fun ex => .gyes rfl rfl hb3342 (.ixa0 Tryz.underlying48 Tryz.sizeOf55 rfl rfl h3343 (idx_lt hx3345 h3343) rfl rfl .mk)) ?_
          refine .f [7, 4] rfl (by kernel_rfl) rfl rfl (fun ex => .gyes rfl rfl hb3342 (.loA (j := 0) Tryz.isAgg55 Tryz.sizeOf55 .z hx3345 rfl rfl (.t (.t (.t .nil))) rfl rfl rfl .mk)) ?_
          refine .f [4] rfl (by kernel_rfl) rfl rfl (fun ex => .gyes rfl rfl hb3342 (.move rfl rfl rfl .mk)) ?_
          refine .f [4] rfl (by kernel_rfl) rfl rfl (fun ex => .gyes rfl rfl hb3342 (.move rfl rfl rfl .mk)) ?_
          obtain ⟨h3348, x3349, hx3350, hd⟩ := hd
          obtain ⟨b3351, o3352, cs3353, e3354, hC3355, hr3356⟩ := R3.2 _ _ hx3350
          cases hr3356
          refine .f [9, 10, 4] rfl (by kernel_rfl) rfl rfl (fun ex => .gyes rfl rfl hb3342 (.ixa Tryz.underlying48 Tryz.sizeOf55 rfl e3354 rfl h3348 (idx_lt hx3350 h3348) rfl rfl .mk)) ?_
          refine .f [11, 4] rfl (by kernel_rfl) rfl rfl (fun ex => .gyes rfl rfl hb3342 (.ldW Tryz.isAgg55 Tryz.sizeOf55 hC3355 rfl rfl rfl rfl .mk)) ?_
          refine .w [] [[], [12], [11, 12], [11, 12], [], [8], [7, 8], [7, 8], [], [4], [3, 4], [2, 3, 4], [3, 4]] [8, 12, 4, 4] rfl (by kernel_rfl) (by kernel_rfl) (by kernel_rfl) ((dropE_kept rfl rfl)) (.inr (dropE_kept rfl rfl)) fun ex => ?_
          have hw3363 := W_ref05_below (I := I3335) hd
          refine .gyes rfl rfl hb3342 (.call Tryz.call66 rfl hw3363 rfl rfl fun v3361 I3358 hl3359 hv3360 => ?_)
          obtain ⟨r3357, rfl, hd⟩ := hv3360
          have le3364 := IH.le.trans le3337 hl3359
          have le3365 := IH.le.trans le3338 hl3359
          have le3366 := IH.le.trans le3339 hl3359
          replace R3 := R3.mono hl3359
          replace hC3355 := hC3355.mono hl3359
          refine .some (fun ex => (OwnSl eEdge 55 (some ⟨b3346, 0, none⟩) c3068 s3066) :: (OwnSl eWide 94 p3071 c3072 s3070) :: ex) rfl (fun _ _ => (.s (.s .z))) rfl trivial ?_
          refine .f [4, 13] rfl (by kernel_rfl) rfl rfl (fun ex => .pickT rfl hb3342 rfl rfl rfl .mk) ?_
          refine .e 15 (by kernel_rfl) (by kernel_rfl) (by kernel_rfl) ?_
          refine .nil' fun c w ho hs => Cod.at (E := [(0, _), (1, _), (6, _), (7, _), (8, _), (9, _), (38, _)]) (ho.sub ⟨rfl, rfl, rfl, rfl, rfl, rfl, rfl, trivial⟩) hs ?_
          refine .cond rfl (fun hb3367 => ?_) (fun hb3367 => ?_)
          · have hd := hd.1 hb3367
            refine .skip' fun c w ho hs => Cod.at (E := [(0, _), (1, _), (6, _), (7, _), (8, _), (9, _)]) (ho.sub ⟨rfl, rfl, rfl, rfl, rfl, rfl, trivial⟩) hs ?_
            refine .block ?_
            refine .region ?_
            refine .skips 1 rfl ?_
            refine .add rfl rfl rfl rfl ?_
            refine .sub (E' := [(0, _), (1, _), (6, _), (7, _), (8, _), (39, _), (40, _)]) ⟨rfl, rfl, rfl, rfl, rfl, rfl, rfl, trivial⟩ ?_
            refine .skips 1 rfl ?_
            exact .nil' fun c w ho hs => ⟨(w64 (s3333 + 1)), hd, I3358, le3366, ho.sub ⟨rfl, rfl, rfl, rfl, rfl, rfl, trivial⟩, hs.pick (.c .z (.c .z .n))⟩
          · have hd := hd.2 hb3367
            exact .exit fun c w ho hs => ⟨s3333, hd, I3358, le3366, ho.sub ⟨rfl, rfl, rfl, rfl, rfl, rfl, trivial⟩, hs.pick (.c .z (.c .z .n))⟩
        · have hd := hd.2 hb3342
          refine .f [4] rfl (by kernel_rfl) rfl rfl (fun ex => .gno rfl rfl hb3342 rfl rfl .mk) ?_
          refine .f [4] rfl (by kernel_rfl) rfl rfl (fun ex => .gno rfl rfl hb3342 rfl rfl .mk) ?_
          refine .f [5, 6, 4] rfl (by kernel_rfl) rfl rfl (fun ex => .gno rfl rfl hb3342 rfl rfl .mk) ?_
          refine .f [7, 4] rfl (by kernel_rfl) rfl rfl (fun ex => .gno rfl rfl hb3342 rfl rfl .mk) ?_
          refine .f [4] rfl (by kernel_rfl) rfl rfl (fun ex => .gno rfl rfl hb3342 rfl rfl .mk) ?_
          refine .f [4] rfl (by kernel_rfl) rfl rfl (fun ex => .gno rfl rfl hb3342 rfl rfl .mk) ?_
          refine .f [9, 10, 4] rfl (by kernel_rfl) rfl rfl (fun ex => .gno rfl rfl hb3342 rfl rfl .mk) ?_
          refine .f [11, 4] rfl (by kernel_rfl) rfl rfl (fun ex => .gno rfl rfl hb3342 rfl rfl .mk) ?_
          refine .f [8, 12, 4, 4] rfl (by kernel_rfl) rfl rfl (fun ex => .gno rfl rfl hb3342 rfl rfl .mk) ?_
          refine .f [4, 13] rfl (by kernel_rfl) rfl rfl (fun ex => .pickF rfl hb3342 rfl rfl rfl .mk) ?_
          refine .e 15 (by kernel_rfl) (by kernel_rfl) (by kernel_rfl) ?_
          refine .nil' fun c w ho hs => Cod.at (E := [(0, _), (1, _), (6, _), (7, _), (8, _), (9, _), (38, _)]) (ho.sub ⟨rfl, rfl, rfl, rfl, rfl, rfl, rfl, trivial⟩) hs ?_
          refine .condKF rfl rfl ?_
          exact .exit fun c w ho hs => ⟨s3333, hd, I3335, le3339, ho.sub ⟨rfl, rfl, rfl, rfl, rfl, rfl, trivial⟩, hs.pick (.c .z (.c .z .n))⟩
      · rintro s3272 hd c w hst
        obtain ⟨I3368, hl3369, hok, hsym⟩ := hst
        have le3370 := IH.le.trans le3080 hl3369
        have le3371 := IH.le.trans le3081 hl3369
        have le3372 := IH.le.trans (.refl _) hl3369
        replace R3 := R3.mono hl3369
        refine Cod.at hok hsym ?_
        refine .seq ?_
        refine .region ?_
        refine .skips 2 rfl ?_
        obtain ⟨h3394, x3395, hx3396, hd⟩ := hd
        obtain ⟨b3397, o3398, cs3399, e3400, hC3401, hr3402⟩ := R3.2 _ _ hx3396
        cases hr3402
        refine .ixa Tryz.underlying48 Tryz.sizeOf55 rfl e3400 rfl h3394 (idx_lt hx3396 h3394) rfl rfl ?_
        refine .fieldAddr Tryz.underlying55 rfl Tryz.sizeOf2 rfl (o := o3398 + s3074.toNat * 3 + 2) rfl rfl rfl ?_
        refine .ld1 (j := 2) Tryz.isAgg2 hC3401 rfl rfl rfl rfl rfl ?_
        have hw3409 := W_ref01_Of (I := I3368) hd
        refine .call Tryz.call67 rfl hw3409 rfl rfl fun v3407 I3404 hl3405 hv3406 => ?_
        obtain ⟨r3403, rfl, hd⟩ := hv3406
        have le3410 := IH.le.trans le3370 hl3405
        have le3411 := IH.le.trans le3371 hl3405
        have le3412 := IH.le.trans le3372 hl3405
        replace R3 := R3.mono hl3405
        replace hC3401 := hC3401.mono hl3405
        refine .allocA Tryz.zeroValue94 rfl rfl fun b3413 => ?_
        refine .storeA Tryz.sizeOf94 rfl rfl .z (.t (.t .nil)) rfl rfl ?_
        refine .nil' fun c w ho hs => Cod.at (E := [(0, _), (1, _), (6, _), (7, _), (8, _), (9, _), (10, _)]) (ho.sub ⟨rfl, rfl, rfl, rfl, rfl, rfl, rfl, trivial⟩) hs ?_
        refine .seq ?_
        refine .seq ?_
        refine Cod.joinQ (σ := Bool) hd (fun (s3581 : Bool) c w => ∃ I_, IH.le I3404 I_ ∧ Ok 145 [(0, .int .i64 a0), (1, .slice p1 a1.length c2), (6, .slice p3067 s3066.length c3068), (7, .slice p3071 s3070.length c3072), (8, .int .i64 s3074), (9, .int .i64 s3272), (10, .pointer (some ⟨b3413, 0, none⟩)), (62, .bool s3581)] c ∧ Sym w0 M I I_ [OwnSl eEdge 55 p3067 c3068 s3066, OwnSl eWide 94 p3071 c3072 s3070, pto b3413 (.cells #[.int .i64 r3403.Hi, .int .u64 r3403.Lo] 94 (0, 0))] w) (fun k3582 hd => ?_) ?_
        · skip
          refine .ownF (.s .z) fun hne3583 => ?_
          refine .ownF (.s (.s .z)) fun hne3584 => ?_
          refine .draw [some 0, some 1, some 2, some 3, some 4, some 5, some 6, some 7, some 8, some 9, some 10, some 11, some 12, some 13, some 14, some 15] 16 MX (by kernel_rfl) (by kernel_rfl) (by kernel_rfl) (by kernel_rfl) (by kernel_rfl) (by kernel_rfl) (by kernel_rfl) (fun ex => (pto b3413 (.cells #[.int .i64 r3403.Hi, .int .u64 r3403.Lo] 94 (0, 0))) :: (OwnSl eEdge 55 p3067 c3068 s3066) :: (OwnSl eWide 94 p3071 c3072 s3070) :: ex) (fun _ _ => (.s (.s (.s .z)))) rfl ?_
          refine .f [] rfl (by kernel_rfl) rfl rfl (fun ex => .move rfl rfl rfl .mk) ?_
          refine .f [] rfl (by kernel_rfl) rfl rfl (fun ex => .move rfl rfl rfl .mk) ?_
          refine .f [1] rfl (by kernel_rfl) rfl rfl (fun ex => .len Tryz.underlying48 rfl rfl rfl rfl .mk) ?_
          refine .f [0, 2] rfl (by kernel_rfl) rfl rfl (fun ex => .lt rfl rfl rfl rfl .mk) ?_
          refine .f [3] rfl (by kernel_rfl) rfl rfl (fun ex => .move rfl rfl rfl .mk) ?_
          refine split (decide (s3272 < (s3066.length : Int))) (fun hb3585 => ?_) (fun hb3585 => ?_)
          · have hd := hd.1 hb3585
            refine .f [4] rfl (by kernel_rfl) rfl rfl (fun ex => .gyes rfl rfl hb3585 (.move rfl rfl rfl .mk)) ?_
            refine .f [4] rfl (by kernel_rfl) rfl rfl (fun ex => .gyes rfl rfl hb3585 (.move rfl rfl rfl .mk)) ?_
            obtain ⟨h3586, x3587, hx3588, hd⟩ := hd
            obtain ⟨b3589, o3590, cs3591, e3592, hC3593, hr3594⟩ := R3.2 _ _ hx3588
            cases hr3594
            refine .f [5, 6, 4] rfl (by kernel_rfl) rfl rfl (fun ex => .gyes rfl rfl hb3585 (.ixa Tryz.underlying48 Tryz.sizeOf55 rfl e3592 rfl h3586 (idx_lt hx3588 h3586) rfl rfl .mk)) ?_
            refine .f [7, 4] rfl (by kernel_rfl) rfl rfl (fun ex => .gyes rfl rfl hb3585 (.ldW Tryz.isAgg55 Tryz.sizeOf55 hC3593 rfl rfl rfl rfl .mk)) ?_
            refine .f [4] rfl (by kernel_rfl) rfl rfl (fun ex => .gyes rfl rfl hb3585 (.move rfl rfl rfl .mk)) ?_
            refine .f [4] rfl (by kernel_rfl) rfl rfl (fun ex => .gyes rfl rfl hb3585 (.move rfl rfl rfl .mk)) ?_
            obtain ⟨h3595, x3596, hx3597, hd⟩ := hd
            obtain ⟨b3598, e3599⟩ := hne3583 (idx_ne hx3597)
            cases e3599
            refine .f [9, 10, 4] rfl (by kernel_rfl) rfl rfl (fun ex => .gyes rfl rfl hb3585 (.ixa0 Tryz.underlying48 Tryz.sizeOf55 rfl rfl h3595 (idx_lt hx3597 h3595) rfl rfl .mk)) ?_
            refine .f [11, 4] rfl (by kernel_rfl) rfl rfl (fun ex => .gyes rfl rfl hb3585 (.loA (j := 0) Tryz.isAgg55 Tryz.sizeOf55 (.s .z) hx3597 rfl rfl (.t (.t (.t .nil))) rfl rfl rfl .mk)) ?_
            refine .w [] [[], [12], [11, 12], [11, 12], [], [8], [7, 8], [7, 8], [], [4], [3, 4], [2, 3, 4], [3, 4]] [8, 12, 4, 4] rfl (by kernel_rfl) (by kernel_rfl) (by kernel_rfl) ((dropE_kept rfl rfl)) (.inr (dropE_kept rfl rfl)) fun ex => ?_
            have hw3606 := W_ref05_below (I := I3404) hd
            refine .gyes rfl rfl hb3585 (.call Tryz.call66 rfl hw3606 rfl rfl fun v3604 I3601 hl3602 hv3603 => ?_)
            obtain ⟨r3600, rfl, hd⟩ := hv3603
            have le3607 := IH.le.trans le3410 hl3602
            have le3608 := IH.le.trans le3411 hl3602
            have le3609 := IH.le.trans le3412 hl3602
            have le3610 := IH.le.trans (.refl _) hl3602
            replace R3 := R3.mono hl3602
            replace hC3593 := hC3593.mono hl3602
            refine .some (fun ex => (pto b3413 (.cells #[.int .i64 r3403.Hi, .int .u64 r3403.Lo] 94 (0, 0))) :: (OwnSl eEdge 55 (some ⟨b3598, 0, none⟩) c3068 s3066) :: (OwnSl eWide 94 p3071 c3072 s3070) :: ex) rfl (fun _ _ => (.s (.s (.s .z)))) rfl trivial ?_
            refine .f [13, 4] rfl (by kernel_rfl) rfl rfl (fun ex => .gyes rfl rfl hb3585 (.not rfl rfl rfl .mk)) ?_
            refine .f [4, 14] rfl (by kernel_rfl) rfl rfl (fun ex => .pickT rfl hb3585 rfl rfl rfl .mk) ?_
            refine .e 16 (by kernel_rfl) (by kernel_rfl) (by kernel_rfl) ?_
            exact .nil' fun c w ho hs => ⟨(!r3600), hd, I3601, le3610, ho.sub ⟨rfl, rfl, rfl, rfl, rfl, rfl, rfl, rfl, trivial⟩, hs.pick (.c (.s .z) (.c (.s .z) (.c .z .n)))⟩
          · have hd := hd.2 hb3585
            refine .f [4] rfl (by kernel_rfl) rfl rfl (fun ex => .gno rfl rfl hb3585 rfl rfl .mk) ?_
            refine .f [4] rfl (by kernel_rfl) rfl rfl (fun ex => .gno rfl rfl hb3585 rfl rfl .mk) ?_
            refine .f [5, 6, 4] rfl (by kernel_rfl) rfl rfl (fun ex => .gno rfl rfl hb3585 rfl rfl .mk) ?_
            refine .f [7, 4] rfl (by kernel_rfl) rfl rfl (fun ex => .gno rfl rfl hb3585 rfl rfl .mk) ?_
            refine .f [4] rfl (by kernel_rfl) rfl rfl (fun ex => .gno rfl rfl hb3585 rfl rfl .mk) ?_
            refine .f [4] rfl (by kernel_rfl) rfl rfl (fun ex => .gno rfl rfl hb3585 rfl rfl .mk) ?_
            refine .f [9, 10, 4] rfl (by kernel_rfl) rfl rfl (fun ex => .gno rfl rfl hb3585 rfl rfl .mk) ?_
            refine .f [11, 4] rfl (by kernel_rfl) rfl rfl (fun ex => .gno rfl rfl hb3585 rfl rfl .mk) ?_
            refine .f [8, 12, 4, 4] rfl (by kernel_rfl) rfl rfl (fun ex => .gno rfl rfl hb3585 rfl rfl .mk) ?_
            refine .f [13, 4] rfl (by kernel_rfl) rfl rfl (fun ex => .gno rfl rfl hb3585 rfl rfl .mk) ?_
            refine .f [4, 14] rfl (by kernel_rfl) rfl rfl (fun ex => .pickF rfl hb3585 rfl rfl rfl .mk) ?_
            refine .e 16 (by kernel_rfl) (by kernel_rfl) (by kernel_rfl) ?_
            exact .nil' fun c w ho hs => ⟨false, hd, I3404, (.refl _), ho.sub ⟨rfl, rfl, rfl, rfl, rfl, rfl, rfl, rfl, trivial⟩, hs.pick (.c (.s .z) (.c (.s .z) (.c .z .n)))⟩
        · rintro s3581 hd c w hst
          obtain ⟨I3611, hl3612, hok, hsym⟩ := hst
          have le3613 := IH.le.trans le3410 hl3612
          have le3614 := IH.le.trans le3411 hl3612
          have le3615 := IH.le.trans le3412 hl3612
          have le3616 := IH.le.trans (.refl _) hl3612
          replace R3 := R3.mono hl3612
          refine Cod.at hok hsym ?_
          refine .cond rfl (fun hb3617 => ?_) (fun hb3617 => ?_)
          · have hd := hd.1 hb3617
            refine .seq ?_
            refine .ownF .z fun hne3618 => ?_
            refine .ownF (.s .z) fun hne3619 => ?_
            refine .draw [some 0, some 1, some 2, some 3, some 4, some 5, some 6, some 7, some 8] 9 MX (by kernel_rfl) (by kernel_rfl) (by kernel_rfl) (by kernel_rfl) (by kernel_rfl) (by kernel_rfl) (by kernel_rfl) (fun ex => (OwnSl eEdge 55 p3067 c3068 s3066) :: (OwnSl eWide 94 p3071 c3072 s3070) :: (pto b3413 (.cells #[.int .i64 r3403.Hi, .int .u64 r3403.Lo] 94 (0, 0))) :: ex) (fun _ _ => (.s (.s (.s .z)))) rfl ?_
            refine .f [] rfl (by kernel_rfl) rfl rfl (fun ex => .move rfl rfl rfl .mk) ?_
            refine .f [] rfl (by kernel_rfl) rfl rfl (fun ex => .move rfl rfl rfl .mk) ?_
            refine .f [] rfl (by kernel_rfl) rfl rfl (fun ex => .move rfl rfl rfl .mk) ?_
            refine .f [] rfl (by kernel_rfl) rfl rfl (fun ex => .move rfl rfl rfl .mk) ?_
            refine .f [] rfl (by kernel_rfl) rfl rfl (fun ex => .move rfl rfl rfl .mk) ?_
            obtain ⟨h3620, x3621, hx3622, hd⟩ := hd
            obtain ⟨b3623, e3624⟩ := hne3619 (idx_ne hx3622)
            cases e3624
            refine .f [3, 4] rfl (by kernel_rfl) rfl rfl (fun ex => .ixa0 Tryz.underlying99 Tryz.sizeOf94 rfl rfl h3620 (idx_lt hx3622 h3620) rfl rfl .mk) ?_
            refine .f [5] rfl (by kernel_rfl) rfl rfl (fun ex => .loA (j := 0) Tryz.isAgg94 Tryz.sizeOf94 (.s .z) hx3622 rfl rfl (.t (.t .nil)) rfl rfl rfl .mk) ?_
            refine .f [] rfl (by kernel_rfl) rfl rfl (fun ex => .loadW Tryz.isAgg94 Tryz.sizeOf94 rfl (.s (.s .z)) rfl rfl rfl .mk) ?_
            refine .w [1, 0] [[], [], [6], [5, 6], [5, 6], []] [2, 6, 7] rfl (by kernel_rfl) (by kernel_rfl) (by kernel_rfl) ((dropE_kept rfl rfl)) (.inr (dropE_kept rfl rfl)) fun ex => ?_
            have hw3631 := W_ref02_Add (I := I3611) hd
            refine .call Tryz.call68 rfl hw3631 rfl rfl fun v3629 I3626 hl3627 hv3628 => ?_
            obtain ⟨r3625, rfl, hd⟩ := hv3628
            have le3632 := IH.le.trans le3613 hl3627
            have le3633 := IH.le.trans le3614 hl3627
            have le3634 := IH.le.trans le3615 hl3627
            have le3635 := IH.le.trans le3616 hl3627
            replace R3 := R3.mono hl3627
            refine .some (fun ex => (OwnSl eEdge 55 p3067 c3068 s3066) :: (OwnSl eWide 94 (some ⟨b3623, 0, none⟩) c3072 s3070) :: (pto b3413 (.cells #[.int .i64 r3403.Hi, .int .u64 r3403.Lo] 94 (0, 0))) :: ex) rfl (fun _ _ => (.s (.s (.s .z)))) rfl (.cc [] rfl (by kernel_rfl) rfl rfl rfl (fun ex => .move rfl rfl rfl .mk) (.cc [] rfl (by kernel_rfl) rfl rfl rfl (fun ex => .move rfl rfl rfl .mk) trivial)) ?_
            refine .e 9 (by kernel_rfl) (by kernel_rfl) (by kernel_rfl) ?_
            obtain ⟨h3636, x3637, hx3638, hd⟩ := hd
            refine .ixa0 Tryz.underlying99 Tryz.sizeOf94 rfl rfl h3636 (idx_lt hx3638 h3636) rfl rfl ?_
            refine .stOA (j := 0) (v' := r3625) Tryz.sizeOf94 (.s .z) hx3638 rfl rfl rfl (.t (.t .nil)) rfl rfl ?_
            refine .sub (E' := [(0, _), (1, _), (6, _), (7, .slice (some ⟨b3623, 0, none⟩) (s3070.set s3272.toNat r3625).length c3072), (8, _), (9, _), (10, _), (62, _), (63, .slice (some ⟨b3623, 0, none⟩) (s3070.set s3272.toNat r3625).length c3072), (64, _), (65, _), (66, .slice (some ⟨b3623, 0, none⟩) (s3070.set s3272.toNat r3625).length c3072), (67, _), (68, _), (69, _), (70, _), (71, _), (72, _)]) ⟨rfl, rfl, rfl, (by simp only [List.length_set]; rfl), rfl, rfl, rfl, rfl, (by simp only [List.length_set]; rfl), rfl, rfl, (by simp only [List.length_set]; rfl), rfl, rfl, rfl, rfl, rfl, rfl, trivial⟩ ?_
            refine .nil' fun c w ho hs => Cod.at (E := [(0, _), (1, _), (6, _), (7, _), (8, _)]) (ho.sub ⟨rfl, rfl, rfl, rfl, rfl, trivial⟩) hs ?_
            refine .drop (.s (.s .z)) ?_
            refine .exit fun c w ho hs => Cod.at (E := [(0, _), (1, _), (6, _), (7, _), (8, _)]) (ho.sub ⟨rfl, rfl, rfl, rfl, rfl, trivial⟩) hs ?_
            refine .region ?_
            refine .skips 1 rfl ?_
            refine .add rfl rfl rfl rfl ?_
            refine .sub (E' := [(0, _), (1, _), (6, _), (7, _), (22, _), (23, _)]) ⟨rfl, rfl, rfl, rfl, rfl, rfl, trivial⟩ ?_
            refine .skips 1 rfl ?_
            exact .nil' fun c w ho hs => ⟨(s3066, (s3070.set s3272.toNat r3625), w64 (s3074 + 1)), hd, I3626, _, _, _, _, le3633, ho.sub ⟨rfl, rfl, rfl, rfl, rfl, trivial⟩, hs.pick (.c .z (.c .z .n))⟩
          · have hd := hd.2 hb3617
            refine .skip' fun c w ho hs => Cod.at (E := [(0, _), (1, _), (6, _), (7, _), (8, _), (9, _), (10, _)]) (ho.sub ⟨rfl, rfl, rfl, rfl, rfl, rfl, rfl, trivial⟩) hs ?_
            refine .seq ?_
            refine .region ?_
            refine .skips 1 rfl ?_
            refine .build Tryz.zeroValue55 Tryz.underlying55 BI55 .n (by exact trivial) rfl rfl ?_
            refine .buildSlice 1 Tryz.underlying48 Tryz.sizeOf55 Tryz.zeroValue55 rfl rfl (.c rfl rfl rfl .n) rfl rfl fun b3645 => ?_
            obtain ⟨hl3647, hd⟩ := hd
            refine .append (ys := [({ From := 0, To := 0, W := 0 } : Edge)]) 24 (.s .z) Tryz.underlying48 Tryz.underlying48 IN55 rfl rfl rfl rfl rfl rfl rfl rfl rfl (.box .z (.one rfl) rfl) hl3647 rfl rfl fun p3648 c3649 => ?_
            refine .sub (E' := [(0, _), (1, _), (7, _), (8, _), (9, _), (10, _), (73, _), (74, _), (75, _), (76, _)]) ⟨rfl, rfl, rfl, rfl, rfl, rfl, rfl, rfl, rfl, rfl, trivial⟩ ?_
            refine .skips 1 rfl ?_
            refine .nil' fun c w ho hs => Cod.at (E := [(0, _), (1, _), (7, _), (8, _), (9, _), (10, _), (6, _)]) (ho.sub ⟨rfl, rfl, rfl, rfl, rfl, rfl, rfl, trivial⟩) hs ?_
            refine .drop (.s .z) ?_
            refine .seq ?_
            refine .region ?_
            refine .skips 1 rfl ?_
            refine .build Tryz.zeroValue94 Tryz.underlying94 BI94 .n (by exact trivial) rfl rfl ?_
            refine .buildSlice 1 Tryz.underlying99 Tryz.sizeOf94 Tryz.zeroValue94 rfl rfl (.c rfl rfl rfl .n) rfl rfl fun b3657 => ?_
            obtain ⟨hl3659, hd⟩ := hd
            refine .append (ys := [({ Hi := 0, Lo := 0 } : Wide)]) 16 (.s (.s .z)) Tryz.underlying99 Tryz.underlying99 IN94 rfl rfl rfl rfl rfl rfl rfl rfl rfl (.box .z (.one rfl) rfl) hl3659 rfl rfl fun p3660 c3661 => ?_
            refine .sub (E' := [(0, _), (1, _), (8, _), (9, _), (10, _), (6, _), (77, _), (78, _), (79, _), (80, _)]) ⟨rfl, rfl, rfl, rfl, rfl, rfl, rfl, rfl, rfl, rfl, trivial⟩ ?_
            refine .skips 1 rfl ?_
            refine .nil' fun c w ho hs => Cod.at (E := [(0, _), (1, _), (8, _), (9, _), (10, _), (6, _), (7, _)]) (ho.sub ⟨rfl, rfl, rfl, rfl, rfl, rfl, rfl, trivial⟩) hs ?_
            refine .drop (.s .z) ?_
            refine .seq ?_
            refine .seq ?_
            refine .region ?_
            refine .skips 1 rfl ?_
            refine .len Tryz.underlying48 rfl rfl rfl rfl ?_
            refine .sub' rfl rfl rfl rfl ?_
            refine .skips 1 rfl ?_
            refine .nil' fun c w ho hs => Cod.at (E := [(0, _), (1, _), (8, _), (9, _), (10, _), (6, _), (7, _), (11, _)]) (ho.sub ⟨rfl, rfl, rfl, rfl, rfl, rfl, rfl, rfl, trivial⟩) hs ?_
            refine .block ?_
            refine .loop hd (fun (s : (List Edge) × (List Wide) × Int) c w => match s with | (s3824, s3828, s3832) => ∃ I_ p3825 c3826 p3829 c3830, IH.le I3611 I_ ∧ Ok 145 [(0, .int .i64 a0), (1, .slice p1 a1.length c2), (6, .slice p3825 s3824.length c3826), (7, .slice p3829 s3828.length c3830), (8, .int .i64 s3074), (9, .int .i64 s3272), (10, .pointer (some ⟨b3413, 0, none⟩)), (11, .int .i64 s3832)] c ∧ Sym w0 M I I_ [OwnSl eEdge 55 p3825 c3826 s3824, OwnSl eWide 94 p3829 c3830 s3828, pto b3413 (.cells #[.int .i64 r3403.Hi, .int .u64 r3403.Lo] 94 (0, 0))] w) (fun c w ho hs => ⟨I3611, _, _, _, _, (.refl _), ho.sub ⟨rfl, rfl, rfl, rfl, rfl, rfl, rfl, rfl, trivial⟩, hs.pick (.c (.s .z) (.c .z (.c .z .n)))⟩) ?_
            rintro ⟨s3824, s3828, s3832⟩ next3833 hd c w hst
            obtain ⟨I3834, p3825, c3826, p3829, c3830, hl3835, hok, hsym⟩ := hst
            have le3836 := IH.le.trans le3613 hl3835
            have le3837 := IH.le.trans le3614 hl3835
            have le3838 := IH.le.trans le3615 hl3835
            have le3839 := IH.le.trans le3616 hl3835
            have le3840 := IH.le.trans (.refl _) hl3835
            replace R3 := R3.mono hl3835
            refine Cod.at hok hsym ?_
            refine .seq ?_
            refine .seq ?_
            refine .region ?_
            refine .skips 2 rfl ?_
            refine .gt rfl rfl rfl rfl ?_
            refine .nil' fun c w ho hs => Cod.at (E := [(0, _), (1, _), (6, _), (7, _), (8, _), (9, _), (10, _), (11, _), (86, _)]) (ho.sub ⟨rfl, rfl, rfl, rfl, rfl, rfl, rfl, rfl, rfl, trivial⟩) hs ?_
            refine .cond rfl (fun hb3842 => ?_) (fun hb3842 => ?_)
            · have hd := hd.1 hb3842
              refine .skip' fun c w ho hs => Cod.at (E := [(0, _), (1, _), (6, _), (7, _), (8, _), (9, _), (10, _), (11, _)]) (ho.sub ⟨rfl, rfl, rfl, rfl, rfl, rfl, rfl, rfl, trivial⟩) hs ?_
              refine .seq ?_
              refine .block ?_
              refine .seq ?_
              refine .region ?_
              refine .skips 4 rfl ?_
              refine .sub' rfl rfl rfl rfl ?_
              obtain ⟨h3843, x3844, hx3845, hd⟩ := hd
              refine .ownNe .z (idx_ne hx3845) fun b3846 e3847 => ?_
              cases e3847
              refine .ixa0 Tryz.underlying48 Tryz.sizeOf55 rfl rfl h3843 (idx_lt hx3845 h3843) rfl rfl ?_
              refine .loA (j := 0) Tryz.isAgg55 Tryz.sizeOf55 .z hx3845 rfl rfl (.t (.t (.t .nil))) rfl rfl rfl ?_
              obtain ⟨h3848, x3849, hx3850, hd⟩ := hd
              refine .ixa0 Tryz.underlying48 Tryz.sizeOf55 rfl rfl h3848 (idx_lt hx3850 h3848) rfl rfl ?_
              refine .stOA (j := 0) (v' := x3844) Tryz.sizeOf55 .z hx3850 rfl rfl rfl (.t (.t (.t .nil))) rfl rfl ?_
              refine .sub (E' := [(0, _), (1, _), (6, .slice (some ⟨b3846, 0, none⟩) (s3824.set s3832.toNat x3844).length c3826), (7, _), (8, _), (9, _), (10, _), (11, _), (89, .slice (some ⟨b3846, 0, none⟩) (s3824.set s3832.toNat x3844).length c3826), (90, _), (91, .slice (some ⟨b3846, 0, none⟩) (s3824.set s3832.toNat x3844).length c3826), (92, _), (93, _), (94, _), (95, _), (96, _)]) ⟨rfl, rfl, (by simp only [List.length_set]; rfl), rfl, rfl, rfl, rfl, rfl, (by simp only [List.length_set]; rfl), rfl, (by simp only [List.length_set]; rfl), rfl, rfl, rfl, rfl, rfl, trivial⟩ ?_
              refine .nil' fun c w ho hs => Cod.at (E := [(0, _), (1, _), (6, _), (7, _), (8, _), (9, _), (10, _), (11, _)]) (ho.sub ⟨rfl, rfl, rfl, rfl, rfl, rfl, rfl, rfl, trivial⟩) hs ?_
              refine .region ?_
              refine .skips 4 rfl ?_
              refine .sub' rfl rfl rfl rfl ?_
              obtain ⟨h3851, x3852, hx3853, hd⟩ := hd
              refine .ownNe (.s .z) (idx_ne hx3853) fun b3854 e3855 => ?_
              cases e3855
              refine .ixa0 Tryz.underlying99 Tryz.sizeOf94 rfl rfl h3851 (idx_lt hx3853 h3851) rfl rfl ?_
              refine .loA (j := 0) Tryz.isAgg94 Tryz.sizeOf94 (.s .z) hx3853 rfl rfl (.t (.t .nil)) rfl rfl rfl ?_
              obtain ⟨h3856, x3857, hx3858, hd⟩ := hd
              refine .ixa0 Tryz.underlying99 Tryz.sizeOf94 rfl rfl h3856 (idx_lt hx3858 h3856) rfl rfl ?_
              refine .stOA (j := 0) (v' := x3852) Tryz.sizeOf94 (.s .z) hx3858 rfl rfl rfl (.t (.t .nil)) rfl rfl ?_
              refine .sub (E' := [(0, _), (1, _), (6, _), (7, .slice (some ⟨b3854, 0, none⟩) (s3828.set s3832.toNat x3852).length c3830), (8, _), (9, _), (10, _), (11, _), (97, .slice (some ⟨b3854, 0, none⟩) (s3828.set s3832.toNat x3852).length c3830), (98, _), (99, .slice (some ⟨b3854, 0, none⟩) (s3828.set s3832.toNat x3852).length c3830), (100, _), (101, _), (102, _), (103, _), (104, _)]) ⟨rfl, rfl, rfl, (by simp only [List.length_set]; rfl), rfl, rfl, rfl, rfl, (by simp only [List.length_set]; rfl), rfl, (by simp only [List.length_set]; rfl), rfl, rfl, rfl, rfl, rfl, trivial⟩ ?_
              refine .nil' fun c w ho hs => Cod.at (E := [(0, _), (1, _), (6, _), (7, _), (8, _), (9, _), (10, _), (11, _)]) (ho.sub ⟨rfl, rfl, rfl, rfl, rfl, rfl, rfl, rfl, trivial⟩) hs ?_
              refine .region ?_
              refine .skips 1 rfl ?_
              refine .sub' rfl rfl rfl rfl ?_
              refine .sub (E' := [(0, _), (1, _), (6, _), (7, _), (8, _), (9, _), (10, _), (87, _), (88, _)]) ⟨rfl, rfl, rfl, rfl, rfl, rfl, rfl, rfl, rfl, trivial⟩ ?_
              refine .skips 1 rfl ?_
              exact .nil' fun c w ho hs => ⟨((s3824.set s3832.toNat x3844), (s3828.set s3832.toNat x3852), w64 (s3832 - 1)), hd, I3834, _, _, _, _, le3840, ho.sub ⟨rfl, rfl, rfl, rfl, rfl, rfl, rfl, rfl, trivial⟩, hs.pick (.c .z (.c .z (.c .z .n)))⟩
            · have hd := hd.2 hb3842
              refine .exit fun c w ho hs => Cod.at (E := [(0, _), (1, _), (6, _), (7, _), (8, _), (9, _), (10, _)]) (ho.sub ⟨rfl, rfl, rfl, rfl, rfl, rfl, rfl, trivial⟩) hs ?_
              refine .seq ?_
              refine .ownF .z fun hne3859 => ?_
              refine .ownF (.s .z) fun hne3860 => ?_
              refine .draw [some 0, some 1, some 2, some 3, some 4, some 5, some 6, some 7, some 8, some 9, some 10, some 11, some 12] 13 MX (by kernel_rfl) (by kernel_rfl) (by kernel_rfl) (by kernel_rfl) (by kernel_rfl) (by kernel_rfl) (by kernel_rfl) (fun ex => (OwnSl eEdge 55 p3825 c3826 s3824) :: (OwnSl eWide 94 p3829 c3830 s3828) :: (pto b3413 (.cells #[.int .i64 r3403.Hi, .int .u64 r3403.Lo] 94 (0, 0))) :: ex) (fun _ _ => (.s (.s (.s .z)))) rfl ?_
              refine .f [] rfl (by kernel_rfl) rfl rfl (fun ex => .move rfl rfl rfl .mk) ?_
              refine .f [] rfl (by kernel_rfl) rfl rfl (fun ex => .move rfl rfl rfl .mk) ?_
              refine .f [] rfl (by kernel_rfl) rfl rfl (fun ex => .move rfl rfl rfl .mk) ?_
              refine .f [] rfl (by kernel_rfl) rfl rfl (fun ex => .move rfl rfl rfl .mk) ?_
              obtain ⟨h3861, x3862, hx3863, hd⟩ := hd
              obtain ⟨b3864, o3865, cs3866, e3867, hC3868, hr3869⟩ := R3.2 _ _ hx3863
              cases hr3869
              refine .f [2, 3] rfl (by kernel_rfl) rfl rfl (fun ex => .ixa Tryz.underlying48 Tryz.sizeOf55 rfl e3867 rfl h3861 (idx_lt hx3863 h3861) rfl rfl .mk) ?_
              refine .f [4] rfl (by kernel_rfl) rfl rfl (fun ex => .fieldAddr Tryz.underlying55 rfl Tryz.sizeOf3 rfl (o := o3865 + s3074.toNat * 3) rfl rfl rfl .mk) ?_
              refine .f [5] rfl (by kernel_rfl) rfl rfl (fun ex => .ld1 (j := 0) Tryz.isAgg3 hC3868 rfl rfl rfl rfl rfl .mk) ?_
              refine .f [] rfl (by kernel_rfl) rfl rfl (fun ex => .move rfl rfl rfl .mk) ?_
              refine .f [] rfl (by kernel_rfl) rfl rfl (fun ex => .move rfl rfl rfl .mk) ?_
              obtain ⟨h3870, x3871, hx3872, hd⟩ := hd
              obtain ⟨b3873, o3874, cs3875, e3876, hC3877, hr3878⟩ := R3.2 _ _ hx3872
              cases hr3878
              refine .f [7, 8] rfl (by kernel_rfl) rfl rfl (fun ex => .ixa Tryz.underlying48 Tryz.sizeOf55 rfl e3876 rfl h3870 (idx_lt hx3872 h3870) rfl rfl .mk) ?_
              refine .f [9] rfl (by kernel_rfl) rfl rfl (fun ex => .fieldAddr Tryz.underlying55 rfl Tryz.sizeOf3 rfl (o := o3874 + s3074.toNat * 3 + 1) rfl rfl rfl .mk) ?_
              refine .f [10] rfl (by kernel_rfl) rfl rfl (fun ex => .ld1 (j := 1) Tryz.isAgg3 hC3877 rfl rfl rfl rfl rfl .mk) ?_
              refine .f [6, 11] rfl (by kernel_rfl) rfl rfl (fun ex => .build Tryz.zeroValue55 Tryz.underlying55 BI55 (.c rfl rfl rfl (.t .nil) (.c rfl rfl rfl (.s (.t .nil)) .n)) (by exact ⟨⟨_, _, rfl, rfl, rfl⟩, ⟨⟨_, _, rfl, rfl, rfl⟩, trivial⟩⟩) rfl rfl .mk) ?_
              refine .e 13 (by kernel_rfl) (by kernel_rfl) (by kernel_rfl) ?_
              obtain ⟨h3879, x3880, hx3881, hd⟩ := hd
              obtain ⟨b3882, e3883⟩ := hne3859 (idx_ne hx3881)
              cases e3883
              refine .ixa0 Tryz.underlying48 Tryz.sizeOf55 rfl rfl h3879 (idx_lt hx3881 h3879) rfl rfl ?_
              refine .stOA (j := 0) (v' := ({ From := x3862.From, To := x3871.To, W := 0 } : Edge)) Tryz.sizeOf55 .z hx3881 rfl rfl rfl (.t (.t (.t .nil))) rfl rfl ?_
              refine .sub (E' := [(0, _), (1, _), (6, .slice (some ⟨b3882, 0, none⟩) (s3824.set s3272.toNat ({ From := x3862.From, To := x3871.To, W := 0 } : Edge)).length c3826), (7, _), (8, _), (9, _), (10, _), (105, .slice (some ⟨b3882, 0, none⟩) (s3824.set s3272.toNat ({ From := x3862.From, To := x3871.To, W := 0 } : Edge)).length c3826), (106, _), (107, _), (108, _), (109, _), (110, _), (111, _), (112, _), (113, _), (114, _), (115, _), (116, _), (117, _), (118, _)]) ⟨rfl, rfl, (by simp only [List.length_set]; rfl), rfl, rfl, rfl, rfl, (by simp only [List.length_set]; rfl), rfl, rfl, rfl, rfl, rfl, rfl, rfl, rfl, rfl, rfl, rfl, rfl, rfl, trivial⟩ ?_
              refine .nil' fun c w ho hs => Cod.at (E := [(0, _), (1, _), (6, _), (7, _), (8, _), (9, _), (10, _)]) (ho.sub ⟨rfl, rfl, rfl, rfl, rfl, rfl, rfl, trivial⟩) hs ?_
              refine .region ?_
              refine .skips 2 rfl ?_
              refine .loadW Tryz.isAgg94 Tryz.sizeOf94 rfl (.s (.s .z)) rfl rfl rfl ?_
              obtain ⟨h3884, x3885, hx3886, hd⟩ := hd
              obtain ⟨b3887, e3888⟩ := hne3860 (idx_ne hx3886)
              cases e3888
              refine .ixa0 Tryz.underlying99 Tryz.sizeOf94 rfl rfl h3884 (idx_lt hx3886 h3884) rfl rfl ?_
              refine .stOA (j := 0) (v' := r3403) Tryz.sizeOf94 (.s .z) hx3886 rfl rfl rfl (.t (.t .nil)) rfl rfl ?_
              refine .sub (E' := [(0, _), (1, _), (6, _), (7, .slice (some ⟨b3887, 0, none⟩) (s3828.set s3272.toNat r3403).length c3830), (8, _), (9, _), (10, _), (119, .slice (some ⟨b3887, 0, none⟩) (s3828.set s3272.toNat r3403).length c3830), (120, _), (121, _), (122, _)]) ⟨rfl, rfl, rfl, (by simp only [List.length_set]; rfl), rfl, rfl, rfl, (by simp only [List.length_set]; rfl), rfl, rfl, rfl, trivial⟩ ?_
              refine .nil' fun c w ho hs => Cod.at (E := [(0, _), (1, _), (6, _), (7, _), (8, _)]) (ho.sub ⟨rfl, rfl, rfl, rfl, rfl, trivial⟩) hs ?_
              refine .drop (.s (.s .z)) ?_
              refine .region ?_
              refine .skips 1 rfl ?_
              refine .add rfl rfl rfl rfl ?_
              refine .sub (E' := [(0, _), (1, _), (6, _), (7, _), (22, _), (23, _)]) ⟨rfl, rfl, rfl, rfl, rfl, rfl, trivial⟩ ?_
              refine .skips 1 rfl ?_
              exact .nil' fun c w ho hs => ⟨((s3824.set s3272.toNat ({ From := x3862.From, To := x3871.To, W := 0 } : Edge)), (s3828.set s3272.toNat r3403), w64 (s3074 + 1)), hd, I3834, _, _, _, _, le3837, ho.sub ⟨rfl, rfl, rfl, rfl, rfl, trivial⟩, hs.pick (.c .z (.c .z .n))⟩
    · have hd := hd.2 hb3083
      refine .exit fun c w ho hs => Cod.at (E := [(6, _), (7, _)]) (ho.sub ⟨rfl, rfl, trivial⟩) hs ?_
      refine .seq ?_
      refine .seq ?_
      refine .region ?_
      refine .skips 1 rfl ?_
      refine .nil' fun c w ho hs => Cod.at (E := [(6, _), (7, _), (12, _)]) (ho.sub ⟨rfl, rfl, rfl, trivial⟩) hs ?_
      refine .block ?_
      refine .loop hd (fun (s : (List Edge) × Int) c w => match s with | (s3980, s3984) => ∃ I_ p3981 c3982, IH.le I3078 I_ ∧ Ok 145 [(6, .slice p3981 s3980.length c3982), (7, .slice p3071 s3070.length c3072), (12, .int .i64 s3984)] c ∧ Sym w0 M I I_ [OwnSl eEdge 55 p3981 c3982 s3980, OwnSl eWide 94 p3071 c3072 s3070] w) (fun c w ho hs => ⟨I3078, _, _, (.refl _), ho.sub ⟨rfl, rfl, rfl, trivial⟩, hs.pick (.c .z (.c .z .n))⟩) ?_
      rintro ⟨s3980, s3984⟩ next3985 hd c w hst
      obtain ⟨I3986, p3981, c3982, hl3987, hok, hsym⟩ := hst
      have le3988 := IH.le.trans le3080 hl3987
      have le3989 := IH.le.trans le3081 hl3987
      have le3990 := IH.le.trans (.refl _) hl3987
      refine Cod.at hok hsym ?_
      refine .seq ?_
      refine .seq ?_
      refine .region ?_
      refine .skips 2 rfl ?_
      refine .len Tryz.underlying48 rfl rfl rfl rfl ?_
      refine .lt rfl rfl rfl rfl ?_
      refine .nil' fun c w ho hs => Cod.at (E := [(6, _), (7, _), (12, _), (126, _)]) (ho.sub ⟨rfl, rfl, rfl, rfl, trivial⟩) hs ?_
      refine .cond rfl (fun hb3992 => ?_) (fun hb3992 => ?_)
      · have hd := hd.1 hb3992
        refine .skip' fun c w ho hs => Cod.at (E := [(6, _), (7, _), (12, _)]) (ho.sub ⟨rfl, rfl, rfl, trivial⟩) hs ?_
        refine .seq ?_
        refine .block ?_
        refine .seq ?_
        refine .region ?_
        refine .skips 2 rfl ?_
        obtain ⟨h4008, x4009, hx4010, hd⟩ := hd
        refine .ownNe (.s .z) (idx_ne hx4010) fun b4011 e4012 => ?_
        cases e4012
        refine .ixa0 Tryz.underlying99 Tryz.sizeOf94 rfl rfl h4008 (idx_lt hx4010 h4008) rfl rfl ?_
        refine .loA (j := 0) Tryz.isAgg94 Tryz.sizeOf94 (.s .z) hx4010 rfl rfl (.t (.t .nil)) rfl rfl rfl ?_
        have hw4019 := W_ref01_Narrow (I := I3986) hd
        refine .call Tryz.call69 rfl hw4019 rfl rfl fun v4017 I4014 hl4015 hv4016 => ?_
        obtain ⟨r4013, rfl, hd⟩ := hv4016
        have le4020 := IH.le.trans le3988 hl4015
        have le4021 := IH.le.trans le3989 hl4015
        have le4022 := IH.le.trans le3990 hl4015
        refine .skips 1 rfl ?_
        refine .extract rfl rfl rfl rfl ?_
        refine .extract rfl rfl rfl rfl ?_
        refine .skips 2 rfl ?_
        refine .nil' fun c w ho hs => Cod.at (E := [(6, _), (7, _), (12, _), (13, _), (14, _)]) (ho.sub ⟨rfl, rfl, rfl, rfl, rfl, trivial⟩) hs ?_
        refine .seq ?_
        refine .seq ?_
        refine .region ?_
        refine .skips 1 rfl ?_
        refine .not rfl rfl rfl ?_
        refine .nil' fun c w ho hs => Cod.at (E := [(6, _), (7, _), (12, _), (13, _), (138, _)]) (ho.sub ⟨rfl, rfl, rfl, rfl, rfl, trivial⟩) hs ?_
        refine .cond rfl (fun hb4023 => ?_) (fun hb4023 => ?_)
        · have hd := hd.1 hb4023
          refine .seq ?_
          refine .region ?_
          refine .skips 2 rfl ?_
          refine .nil' fun c w ho hs => Cod.at (E := [(4, _), (5, _)]) (ho.sub ⟨rfl, rfl, trivial⟩) hs ?_
          refine .drop .z ?_
          refine .drop .z ?_
          exact .ret (pret Tryz.results43 (.t rfl (.t rfl .n)) le4020 ⟨(([] : List Edge), 12), _, _, rfl, (.nil _ _ _), hd⟩)
        · have hd := hd.2 hb4023
          refine .skip' fun c w ho hs => Cod.at (E := [(6, _), (7, _), (12, _), (13, _)]) (ho.sub ⟨rfl, rfl, rfl, rfl, trivial⟩) hs ?_
          refine .region ?_
          refine .skips 3 rfl ?_
          obtain ⟨h4024, x4025, hx4026, hd⟩ := hd
          refine .ownNe .z (idx_ne hx4026) fun b4027 e4028 => ?_
          cases e4028
          refine .ixa0 Tryz.underlying48 Tryz.sizeOf55 rfl rfl h4024 (idx_lt hx4026 h4024) rfl rfl ?_
          refine .fieldAddr Tryz.underlying55 rfl Tryz.sizeOf2 rfl (o := s3984.toNat * 3 + 2) rfl rfl rfl ?_
          refine .stO1 (j := 2) (v' := ({ From := x4025.From, To := x4025.To, W := r4013.1 } : Edge)) Tryz.sizeOf2 .z hx4026 rfl rfl rfl (.s (.s (.t .nil))) rfl ?_
          refine .sub (E' := [(6, .slice (some ⟨b4027, 0, none⟩) (s3980.set s3984.toNat ({ From := x4025.From, To := x4025.To, W := r4013.1 } : Edge)).length c3982), (7, _), (12, _), (13, _), (139, .slice (some ⟨b4027, 0, none⟩) (s3980.set s3984.toNat ({ From := x4025.From, To := x4025.To, W := r4013.1 } : Edge)).length c3982), (140, _), (141, _), (142, _), (143, _)]) ⟨(by simp only [List.length_set]; rfl), rfl, rfl, rfl, (by simp only [List.length_set]; rfl), rfl, rfl, rfl, rfl, trivial⟩ ?_
          refine .nil' fun c w ho hs => Cod.at (E := [(6, _), (7, _), (12, _)]) (ho.sub ⟨rfl, rfl, rfl, trivial⟩) hs ?_
          refine .region ?_
          refine .skips 1 rfl ?_
          refine .add rfl rfl rfl rfl ?_
          refine .sub (E' := [(6, _), (7, _), (127, _), (128, _)]) ⟨rfl, rfl, rfl, rfl, trivial⟩ ?_
          refine .skips 1 rfl ?_
          exact .nil' fun c w ho hs => ⟨((s3980.set s3984.toNat ({ From := x4025.From, To := x4025.To, W := r4013.1 } : Edge)), w64 (s3984 + 1)), hd, I4014, _, _, le4022, ho.sub ⟨rfl, rfl, rfl, trivial⟩, hs.pick (.c .z (.c .z .n))⟩
      · have hd := hd.2 hb3992
        refine .exit fun c w ho hs => Cod.at (E := [(6, _)]) (ho.sub ⟨rfl, trivial⟩) hs ?_
        refine .drop (.s .z) ?_
        refine .seq ?_
        refine .region ?_
        refine .skips 3 rfl ?_
        refine .nil' fun c w ho hs => Cod.at (E := [(4, _), (5, _)]) (ho.sub ⟨rfl, rfl, trivial⟩) hs ?_
        refine .pub .z fun I4029 hl4030 R4031 => ?_
        have le4032 := IH.le.trans le3988 hl4030
        have le4033 := IH.le.trans le3989 hl4030
        have le4034 := IH.le.trans le3990 hl4030
        exact .ret (pret Tryz.results43 (.t rfl (.t rfl .n)) le4032 ⟨(s3980, 0), _, _, rfl, R4031, hd⟩)

theorem W_ref05_Right {I : IH} {a0 : Graph} {p1 : Option Addr} {c2 : Nat} {Q : Int → Prop} (R3 : RepSl eEdge I p1 c2 a0.Edges) (hd : ref05_Right a0 Q) :
    PFun Tryz.prog 32 [.agg #[.int .i64 a0.N, .slice p1 a0.Edges.length c2]] I (fun I_ v => ∃ r, v = .int .i64 r ∧ Q r) := by
  refine Fun.enter Tryz.func32 rfl Tryz.ntmps32 rfl (.c .n) fun w0 M => ?_
  refine .seq ?_
  refine .region ?_
  refine .boxA rfl rfl rfl fun b6 => ?_
  refine .skips 1 rfl ?_
  refine .nil' fun c w ho hs => Cod.at (E := [(1, _)]) (ho.sub ⟨rfl, trivial⟩) hs ?_
  refine .seq ?_
  refine .seq ?_
  refine .region ?_
  refine .fieldAddr Tryz.underlying50 rfl Tryz.sizeOf3 rfl (o := 0) rfl rfl rfl ?_
  refine .load1 Tryz.isAgg3 rfl .z rfl rfl rfl ?_
  refine .lt rfl rfl rfl rfl ?_
  refine .nil' fun c w ho hs => Cod.at (E := [(1, _), (8, _)]) (ho.sub ⟨rfl, rfl, trivial⟩) hs ?_
  refine .cond rfl (fun hb9 => ?_) (fun hb9 => ?_)
  · have hd := hd.1 hb9
    refine .seq ?_
    refine .region ?_
    refine .skips 1 rfl ?_
    refine .nil' fun c w ho hs => Cod.at (E := [(2, _)]) (ho.sub ⟨rfl, trivial⟩) hs ?_
    refine .drop .z ?_
    exact .ret (pret Tryz.results32 (.t rfl .n) (.refl _) ⟨3, rfl, hd⟩)
  · have hd := hd.2 hb9
    refine .skip' fun c w ho hs => Cod.at (E := [(1, _)]) (ho.sub ⟨rfl, trivial⟩) hs ?_
    refine .seq ?_
    refine .seq ?_
    refine .region ?_
    refine .fieldAddr Tryz.underlying50 rfl Tryz.sizeOf3 rfl (o := 0) rfl rfl rfl ?_
    refine .load1 Tryz.isAgg3 rfl .z rfl rfl rfl ?_
    refine .gt rfl rfl rfl rfl ?_
    refine .skips 1 rfl ?_
    refine split (decide (4096 < a0.N)) (fun hb12 => ?_) (fun hb12 => ?_)
    · have hd := hd.1 hb12
      rw [hb12]
      refine .skips 5 rfl ?_
      refine .nil' fun c w ho hs => Cod.at (E := [(1, _), (17, _)]) (ho.sub ⟨rfl, rfl, trivial⟩) hs ?_
      refine .condKT rfl rfl ?_
      refine .seq ?_
      refine .region ?_
      refine .skips 1 rfl ?_
      refine .nil' fun c w ho hs => Cod.at (E := [(2, _)]) (ho.sub ⟨rfl, trivial⟩) hs ?_
      refine .drop .z ?_
      exact .ret (pret Tryz.results32 (.t rfl .n) (.refl _) ⟨5, rfl, hd⟩)
    · have hd := hd.2 hb12
      rw [hb12]
      refine .gyes rfl rfl rfl (.fieldAddr Tryz.underlying50 rfl Tryz.sizeOf48 rfl (o := 1) rfl rfl rfl ?_)
      refine .gyes rfl rfl rfl (.load1 Tryz.isAgg48 rfl .z rfl rfl rfl ?_)
      refine .gyes rfl rfl rfl (.len Tryz.underlying48 rfl rfl rfl rfl ?_)
      refine .gyes rfl rfl rfl (.gt rfl rfl rfl rfl ?_)
      refine .skips 1 rfl ?_
      refine .nil' fun c w ho hs => Cod.at (E := [(1, _), (17, _)]) (ho.sub ⟨rfl, rfl, trivial⟩) hs ?_
      refine .cond rfl (fun hb13 => ?_) (fun hb13 => ?_)
      · have hd := hd.1 hb13
        refine .seq ?_
        refine .region ?_
        refine .skips 1 rfl ?_
        refine .nil' fun c w ho hs => Cod.at (E := [(2, _)]) (ho.sub ⟨rfl, trivial⟩) hs ?_
        refine .drop .z ?_
        exact .ret (pret Tryz.results32 (.t rfl .n) (.refl _) ⟨5, rfl, hd⟩)
      · have hd := hd.2 hb13
        refine .skip' fun c w ho hs => Cod.at (E := [(1, _)]) (ho.sub ⟨rfl, trivial⟩) hs ?_
        refine .seq ?_
        refine .seq ?_
        refine .region ?_
        refine .skips 1 rfl ?_
        refine .nil' fun c w ho hs => Cod.at (E := [(1, _), (3, _)]) (ho.sub ⟨rfl, rfl, trivial⟩) hs ?_
        refine .block ?_
        refine .loop hd (fun (s165 : Int) c w => ∃ I_, IH.le I I_ ∧ Ok 75 [(1, .pointer (some ⟨b6, 0, none⟩)), (3, .int .i64 s165)] c ∧ Sym w0 M I I_ [pto b6 (.cells #[.int .i64 a0.N, .slice p1 a0.Edges.length c2] 50 (0, 0))] w) (fun c w ho hs => ⟨I, (.refl _), ho.sub ⟨rfl, rfl, trivial⟩, hs.pick (.c .z .n)⟩) ?_
        rintro s165 next166 hd c w hst
        obtain ⟨I167, hl168, hok, hsym⟩ := hst
        have le169 := IH.le.trans (.refl _) hl168
        replace R3 := R3.mono hl168
        refine Cod.at hok hsym ?_
        refine .seq ?_
        refine .seq ?_
        refine .region ?_
        refine .skips 1 rfl ?_
        refine .fieldAddr Tryz.underlying50 rfl Tryz.sizeOf48 rfl (o := 1) rfl rfl rfl ?_
        refine .load1 Tryz.isAgg48 rfl .z rfl rfl rfl ?_
        refine .len Tryz.underlying48 rfl rfl rfl rfl ?_
        refine .lt rfl rfl rfl rfl ?_
        refine .nil' fun c w ho hs => Cod.at (E := [(1, _), (3, _), (22, _)]) (ho.sub ⟨rfl, rfl, rfl, trivial⟩) hs ?_
        refine .cond rfl (fun hb171 => ?_) (fun hb171 => ?_)
        · have hd := hd.1 hb171
          refine .skip' fun c w ho hs => Cod.at (E := [(1, _), (3, _)]) (ho.sub ⟨rfl, rfl, trivial⟩) hs ?_
          refine .seq ?_
          refine .block ?_
          refine .seq ?_
          refine .region ?_
          refine .fieldAddr Tryz.underlying50 rfl Tryz.sizeOf48 rfl (o := 1) rfl rfl rfl ?_
          refine .load1 Tryz.isAgg48 rfl .z rfl rfl rfl ?_
          refine .skips 1 rfl ?_
          obtain ⟨h183, x184, hx185, hd⟩ := hd
          obtain ⟨b186, o187, cs188, e189, hC190, hr191⟩ := R3.2 _ _ hx185
          cases hr191
          refine .ixa Tryz.underlying48 Tryz.sizeOf55 rfl e189 rfl h183 (idx_lt hx185 h183) rfl rfl ?_
          refine .ldW Tryz.isAgg55 Tryz.sizeOf55 hC190 rfl rfl rfl rfl ?_
          refine .allocA Tryz.zeroValue55 rfl rfl fun b192 => ?_
          refine .storeA Tryz.sizeOf55 rfl rfl .z (.t (.t (.t .nil))) rfl rfl ?_
          refine .nil' fun c w ho hs => Cod.at (E := [(1, _), (3, _), (4, _)]) (ho.sub ⟨rfl, rfl, rfl, trivial⟩) hs ?_
          refine .seq ?_
          refine .region ?_
          refine .fieldAddr Tryz.underlying55 rfl Tryz.sizeOf3 rfl (o := 0) rfl rfl rfl ?_
          refine .load1 Tryz.isAgg3 rfl .z rfl rfl rfl ?_
          refine .lt rfl rfl rfl rfl ?_
          refine .skips 1 rfl ?_
          refine split (decide (x184.From < 0)) (fun hb194 => ?_) (fun hb194 => ?_)
          · have hd := hd.1 hb194
            rw [hb194]
            refine .skips 18 rfl ?_
            refine .nil' fun c w ho hs => Cod.at (E := [(1, _), (3, _), (51, _)]) (ho.sub ⟨rfl, rfl, rfl, trivial⟩) hs ?_
            refine .drop .z ?_
            refine .condKT rfl rfl ?_
            refine .seq ?_
            refine .region ?_
            refine .skips 1 rfl ?_
            refine .nil' fun c w ho hs => Cod.at (E := [(2, _)]) (ho.sub ⟨rfl, trivial⟩) hs ?_
            refine .drop .z ?_
            exact .ret (pret Tryz.results32 (.t rfl .n) le169 ⟨3, rfl, hd⟩)
          · have hd := hd.2 hb194
            rw [hb194]
            refine .gyes rfl rfl rfl (.fieldAddr Tryz.underlying55 rfl Tryz.sizeOf3 rfl (o := 0) rfl rfl rfl ?_)
            refine .gyes rfl rfl rfl (.load1 Tryz.isAgg3 rfl .z rfl rfl rfl ?_)
            refine .gyes rfl rfl rfl (.fieldAddr Tryz.underlying50 rfl Tryz.sizeOf3 rfl (o := 0) rfl rfl rfl ?_)
            refine .gyes rfl rfl rfl (.load1 Tryz.isAgg3 rfl (.s .z) rfl rfl rfl ?_)
            refine .gyes rfl rfl rfl (.ge rfl rfl rfl rfl ?_)
            refine .skips 2 rfl ?_
            refine split (decide (a0.N ≤ x184.From)) (fun hb195 => ?_) (fun hb195 => ?_)
            · have hd := hd.1 hb195
              rw [hb195]
              refine .skips 11 rfl ?_
              refine .nil' fun c w ho hs => Cod.at (E := [(1, _), (3, _), (51, _)]) (ho.sub ⟨rfl, rfl, rfl, trivial⟩) hs ?_
              refine .drop .z ?_
              refine .condKT rfl rfl ?_
              refine .seq ?_
              refine .region ?_
              refine .skips 1 rfl ?_
              refine .nil' fun c w ho hs => Cod.at (E := [(2, _)]) (ho.sub ⟨rfl, trivial⟩) hs ?_
              refine .drop .z ?_
              exact .ret (pret Tryz.results32 (.t rfl .n) le169 ⟨3, rfl, hd⟩)
            · have hd := hd.2 hb195
              rw [hb195]
              refine .gyes rfl rfl rfl (.fieldAddr Tryz.underlying55 rfl Tryz.sizeOf3 rfl (o := 1) rfl rfl rfl ?_)
              refine .gyes rfl rfl rfl (.load1 Tryz.isAgg3 rfl .z rfl rfl rfl ?_)
              refine .gyes rfl rfl rfl (.lt rfl rfl rfl rfl ?_)
              refine .skips 2 rfl ?_
              refine split (decide (x184.To < 0)) (fun hb196 => ?_) (fun hb196 => ?_)
              · have hd := hd.1 hb196
                rw [hb196]
                refine .skips 6 rfl ?_
                refine .nil' fun c w ho hs => Cod.at (E := [(1, _), (3, _), (51, _)]) (ho.sub ⟨rfl, rfl, rfl, trivial⟩) hs ?_
                refine .drop .z ?_
                refine .condKT rfl rfl ?_
                refine .seq ?_
                refine .region ?_
                refine .skips 1 rfl ?_
                refine .nil' fun c w ho hs => Cod.at (E := [(2, _)]) (ho.sub ⟨rfl, trivial⟩) hs ?_
                refine .drop .z ?_
                exact .ret (pret Tryz.results32 (.t rfl .n) le169 ⟨3, rfl, hd⟩)
              · have hd := hd.2 hb196
                rw [hb196]
                refine .gyes rfl rfl rfl (.fieldAddr Tryz.underlying55 rfl Tryz.sizeOf3 rfl (o := 1) rfl rfl rfl ?_)
                refine .gyes rfl rfl rfl (.load1 Tryz.isAgg3 rfl .z rfl rfl rfl ?_)
                refine .gyes rfl rfl rfl (.fieldAddr Tryz.underlying50 rfl Tryz.sizeOf3 rfl (o := 0) rfl rfl rfl ?_)
                refine .gyes rfl rfl rfl (.load1 Tryz.isAgg3 rfl (.s .z) rfl rfl rfl ?_)
                refine .gyes rfl rfl rfl (.ge rfl rfl rfl rfl ?_)
                refine .skips 1 rfl ?_
                refine .nil' fun c w ho hs => Cod.at (E := [(1, _), (3, _), (51, _)]) (ho.sub ⟨rfl, rfl, rfl, trivial⟩) hs ?_
                refine .drop .z ?_
                refine .cond rfl (fun hb197 => ?_) (fun hb197 => ?_)
                · have hd := hd.1 hb197
                  refine .seq ?_
                  refine .region ?_
                  refine .skips 1 rfl ?_
                  refine .nil' fun c w ho hs => Cod.at (E := [(2, _)]) (ho.sub ⟨rfl, trivial⟩) hs ?_
                  refine .drop .z ?_
                  exact .ret (pret Tryz.results32 (.t rfl .n) le169 ⟨3, rfl, hd⟩)
                · have hd := hd.2 hb197
                  refine .skip' fun c w ho hs => Cod.at (E := [(1, _), (3, _)]) (ho.sub ⟨rfl, rfl, trivial⟩) hs ?_
                  refine .region ?_
                  refine .skips 1 rfl ?_
                  refine .add rfl rfl rfl rfl ?_
                  refine .sub (E' := [(1, _), (23, _), (24, _)]) ⟨rfl, rfl, rfl, trivial⟩ ?_
                  refine .skips 1 rfl ?_
                  exact .nil' fun c w ho hs => ⟨(w64 (s165 + 1)), hd, I167, le169, ho.sub ⟨rfl, rfl, trivial⟩, hs.pick (.c .z .n)⟩
        · have hd := hd.2 hb171
          refine .exit fun c w ho hs => Cod.at (E := [(1, _)]) (ho.sub ⟨rfl, trivial⟩) hs ?_
          refine .seq ?_
          refine .seq ?_
          refine .region ?_
          refine .skips 1 rfl ?_
          refine .nil' fun c w ho hs => Cod.at (E := [(1, _), (5, _)]) (ho.sub ⟨rfl, rfl, trivial⟩) hs ?_
          refine .block ?_
          refine .loop hd (fun (s245 : Int) c w => ∃ I_, IH.le I167 I_ ∧ Ok 75 [(1, .pointer (some ⟨b6, 0, none⟩)), (5, .int .i64 s245)] c ∧ Sym w0 M I I_ [pto b6 (.cells #[.int .i64 a0.N, .slice p1 a0.Edges.length c2] 50 (0, 0))] w) (fun c w ho hs => ⟨I167, (.refl _), ho.sub ⟨rfl, rfl, trivial⟩, hs.pick (.c .z .n)⟩) ?_
          rintro s245 next246 hd c w hst
          obtain ⟨I247, hl248, hok, hsym⟩ := hst
          have le249 := IH.le.trans le169 hl248
          have le250 := IH.le.trans (.refl _) hl248
          replace R3 := R3.mono hl248
          refine Cod.at hok hsym ?_
          refine .seq ?_
          refine .seq ?_
          refine .region ?_
          refine .skips 1 rfl ?_
          refine .fieldAddr Tryz.underlying50 rfl Tryz.sizeOf48 rfl (o := 1) rfl rfl rfl ?_
          refine .load1 Tryz.isAgg48 rfl .z rfl rfl rfl ?_
          refine .len Tryz.underlying48 rfl rfl rfl rfl ?_
          refine .lt rfl rfl rfl rfl ?_
          refine .nil' fun c w ho hs => Cod.at (E := [(1, _), (5, _), (56, _)]) (ho.sub ⟨rfl, rfl, rfl, trivial⟩) hs ?_
          refine .cond rfl (fun hb252 => ?_) (fun hb252 => ?_)
          · have hd := hd.1 hb252
            refine .skip' fun c w ho hs => Cod.at (E := [(1, _), (5, _)]) (ho.sub ⟨rfl, rfl, trivial⟩) hs ?_
            refine .seq ?_
            refine .block ?_
            refine .seq ?_
            refine .region ?_
            refine .fieldAddr Tryz.underlying50 rfl Tryz.sizeOf48 rfl (o := 1) rfl rfl rfl ?_
            refine .load1 Tryz.isAgg48 rfl .z rfl rfl rfl ?_
            refine .skips 1 rfl ?_
            obtain ⟨h253, x254, hx255, hd⟩ := hd
            obtain ⟨b256, o257, cs258, e259, hC260, hr261⟩ := R3.2 _ _ hx255
            cases hr261
            refine .ixa Tryz.underlying48 Tryz.sizeOf55 rfl e259 rfl h253 (idx_lt hx255 h253) rfl rfl ?_
            refine .fieldAddr Tryz.underlying55 rfl Tryz.sizeOf2 rfl (o := o257 + s245.toNat * 3 + 2) rfl rfl rfl ?_
            refine .ld1 (j := 2) Tryz.isAgg2 hC260 rfl rfl rfl rfl rfl ?_
            refine .lt rfl rfl rfl rfl ?_
            refine .skips 1 rfl ?_
            refine split (decide (x254.W < 0)) (fun hb262 => ?_) (fun hb262 => ?_)
            · have hd := hd.1 hb262
              rw [hb262]
              refine .skips 8 rfl ?_
              refine .nil' fun c w ho hs => Cod.at (E := [(1, _), (5, _), (74, _)]) (ho.sub ⟨rfl, rfl, rfl, trivial⟩) hs ?_
              refine .condKT rfl rfl ?_
              refine .seq ?_
              refine .region ?_
              refine .skips 1 rfl ?_
              refine .nil' fun c w ho hs => Cod.at (E := [(2, _)]) (ho.sub ⟨rfl, trivial⟩) hs ?_
              refine .drop .z ?_
              exact .ret (pret Tryz.results32 (.t rfl .n) le249 ⟨7, rfl, hd⟩)
            · have hd := hd.2 hb262
              rw [hb262]
              refine .gyes rfl rfl rfl (.fieldAddr Tryz.underlying50 rfl Tryz.sizeOf48 rfl (o := 1) rfl rfl rfl ?_)
              refine .gyes rfl rfl rfl (.load1 Tryz.isAgg48 rfl .z rfl rfl rfl ?_)
              refine .gyes rfl rfl rfl (.move rfl rfl rfl ?_)
              obtain ⟨h263, x264, hx265, hd⟩ := hd
              obtain ⟨b266, o267, cs268, e269, hC270, hr271⟩ := R3.2 _ _ hx265
              cases hr271
              refine .gyes rfl rfl rfl (.ixa Tryz.underlying48 Tryz.sizeOf55 rfl e269 rfl h263 (idx_lt hx265 h263) rfl rfl ?_)
              refine .gyes rfl rfl rfl (.fieldAddr Tryz.underlying55 rfl Tryz.sizeOf2 rfl (o := o267 + s245.toNat * 3 + 2) rfl rfl rfl ?_)
              refine .gyes rfl rfl rfl (.ld1 (j := 2) Tryz.isAgg2 hC270 rfl rfl rfl rfl rfl ?_)
              refine .gyes rfl rfl rfl (.gt rfl rfl rfl rfl ?_)
              refine .skips 1 rfl ?_
              refine .nil' fun c w ho hs => Cod.at (E := [(1, _), (5, _), (74, _)]) (ho.sub ⟨rfl, rfl, rfl, trivial⟩) hs ?_
              refine .cond rfl (fun hb272 => ?_) (fun hb272 => ?_)
              · have hd := hd.1 hb272
                refine .seq ?_
                refine .region ?_
                refine .skips 1 rfl ?_
                refine .nil' fun c w ho hs => Cod.at (E := [(2, _)]) (ho.sub ⟨rfl, trivial⟩) hs ?_
                refine .drop .z ?_
                exact .ret (pret Tryz.results32 (.t rfl .n) le249 ⟨7, rfl, hd⟩)
              · have hd := hd.2 hb272
                refine .skip' fun c w ho hs => Cod.at (E := [(1, _), (5, _)]) (ho.sub ⟨rfl, rfl, trivial⟩) hs ?_
                refine .region ?_
                refine .skips 1 rfl ?_
                refine .add rfl rfl rfl rfl ?_
                refine .sub (E' := [(1, _), (57, _), (58, _)]) ⟨rfl, rfl, rfl, trivial⟩ ?_
                refine .skips 1 rfl ?_
                exact .nil' fun c w ho hs => ⟨(w64 (s245 + 1)), hd, I247, le250, ho.sub ⟨rfl, rfl, trivial⟩, hs.pick (.c .z .n)⟩
          · have hd := hd.2 hb252
            refine .exit fun c w ho hs => Cod.at (E := []) (ho.sub trivial) hs ?_
            refine .drop .z ?_
            refine .seq ?_
            refine .region ?_
            refine .skips 1 rfl ?_
            refine .nil' fun c w ho hs => Cod.at (E := [(2, _)]) (ho.sub ⟨rfl, trivial⟩) hs ?_
            exact .ret (pret Tryz.results32 (.t rfl .n) le249 ⟨0, rfl, hd⟩)

theorem W_ref05_Canon {I : IH} {a0 : Graph} {p1 : Option Addr} {c2 : Nat} {Q : Graph → Prop} (R3 : RepSl eEdge I p1 c2 a0.Edges) (hd : ref05_Canon a0 Q) :
    PFun Tryz.prog 33 [.agg #[.int .i64 a0.N, .slice p1 a0.Edges.length c2]] I (fun I_ v => ∃ r p4 c5, v = .agg #[.int .i64 r.N, .slice p4 r.Edges.length c5] ∧ RepSl eEdge I_ p4 c5 r.Edges ∧ Q r) := by
  refine Fun.enter Tryz.func33 rfl Tryz.ntmps33 rfl (.c .n) fun w0 M => ?_
  refine .seq ?_
  refine .region ?_
  refine .boxA rfl rfl rfl fun b11 => ?_
  refine .allocA Tryz.zeroValue50 rfl rfl fun b13 => ?_
  refine .nil' fun c w ho hs => Cod.at (E := [(1, _), (2, _)]) (ho.sub ⟨rfl, rfl, trivial⟩) hs ?_
  refine .seq ?_
  refine .region ?_
  refine .fieldAddr Tryz.underlying50 rfl Tryz.sizeOf48 rfl (o := 1) rfl rfl rfl ?_
  refine .load1 Tryz.isAgg48 rfl (.s .z) rfl rfl rfl ?_
  have hw24 := W_ref05_Combine (I := I) R3 hd
  refine .call Tryz.call43 rfl hw24 rfl rfl fun v19 I16 hl17 hv18 => ?_
  obtain ⟨r15, p21, c22, rfl, R23, hd⟩ := hv18
  have le25 := IH.le.trans (.refl _) hl17
  replace R3 := R3.mono hl17
  refine .skips 1 rfl ?_
  refine .extract rfl rfl rfl rfl ?_
  refine .extract rfl rfl rfl rfl ?_
  refine .skips 2 rfl ?_
  refine .nil' fun c w ho hs => Cod.at (E := [(1, _), (2, _), (3, _)]) (ho.sub ⟨rfl, rfl, rfl, trivial⟩) hs ?_
  refine .seq ?_
  refine .region ?_
  refine .fieldAddr Tryz.underlying50 rfl Tryz.sizeOf3 rfl (o := 0) rfl rfl rfl ?_
  refine .load1 Tryz.isAgg3 rfl (.s .z) rfl rfl rfl ?_
  refine .skips 1 rfl ?_
  refine .build Tryz.zeroValue50 Tryz.underlying50 BI50 (.c rfl rfl rfl (.t .nil) (.c rfl rfl rfl (.s (.t .nil)) .n)) (by exact ⟨⟨_, _, rfl, rfl, rfl⟩, ⟨⟨_, _, rfl, rfl, rfl⟩, trivial⟩⟩) rfl rfl ?_
  refine .storeA Tryz.sizeOf50 rfl rfl .z (.t (.t .nil)) rfl rfl ?_
  refine .nil' fun c w ho hs => Cod.at (E := [(2, _)]) (ho.sub ⟨rfl, trivial⟩) hs ?_
  refine .drop (.s .z) ?_
  exact .ret (pret Tryz.results33 (.w Tryz.isAgg50 Tryz.sizeOf50 rfl .z rfl .n) le25 ⟨({ N := a0.N, Edges := r15.1 } : Graph), _, _, rfl, R23, hd⟩)

theorem W_law07_CsrGraph {I : IH} {a0 : Graph} {p1 : Option Addr} {c2 : Nat} {Q : Bool → Prop} (R3 : RepSl eEdge I p1 c2 a0.Edges) (hd : law07_CsrGraph a0 Q) :
    PFun Tryz.prog 5 [.agg #[.int .i64 a0.N, .slice p1 a0.Edges.length c2]] I (fun I_ v => ∃ r, v = .bool r ∧ Q r) := by
  refine Fun.enter Tryz.func5 rfl Tryz.ntmps5 rfl (.c .n) fun w0 M => ?_
  refine .seq ?_
  refine .region ?_
  refine .boxA rfl rfl rfl fun b6 => ?_
  refine .skips 1 rfl ?_
  refine .nil' fun c w ho hs => Cod.at (E := [(1, _)]) (ho.sub ⟨rfl, trivial⟩) hs ?_
  refine .seq ?_
  refine Cod.joinQ (σ := Unit) hd (fun (_ : Unit) c w => ∃ I_, IH.le I I_ ∧ Ok 112 [(1, .pointer (some ⟨b6, 0, none⟩))] c ∧ Sym w0 M I I_ [pto b6 (.cells #[.int .i64 a0.N, .slice p1 a0.Edges.length c2] 50 (0, 0))] w) (fun k68 hd => ?_) ?_
  · skip
    refine .seq ?_
    refine .region ?_
    refine .fieldAddr Tryz.underlying50 rfl Tryz.sizeOf48 rfl (o := 1) rfl rfl rfl ?_
    refine .load1 Tryz.isAgg48 rfl .z rfl rfl rfl ?_
    refine .len Tryz.underlying48 rfl rfl rfl rfl ?_
    refine .gt rfl rfl rfl rfl ?_
    refine .skips 1 rfl ?_
    refine split (decide (60 < (a0.Edges.length : Int))) (fun hb69 => ?_) (fun hb69 => ?_)
    · have hd := hd.1 hb69
      rw [hb69]
      refine .gyes rfl rfl rfl (.fieldAddr Tryz.underlying50 rfl Tryz.sizeOf48 rfl (o := 1) rfl rfl rfl ?_)
      refine .gyes rfl rfl rfl (.load1 Tryz.isAgg48 rfl .z rfl rfl rfl ?_)
      refine .gyes rfl rfl rfl (.len Tryz.underlying48 rfl rfl rfl rfl ?_)
      refine .gyes rfl rfl rfl (.le' rfl rfl rfl rfl ?_)
      refine .skips 2 rfl ?_
      refine split (decide ((a0.Edges.length : Int) ≤ 65536)) (fun hb70 => ?_) (fun hb70 => ?_)
      · have hd := hd.1 hb70
        rw [hb70]
        refine .skips 4 rfl ?_
        refine .gnoU rfl rfl rfl rfl ?_
        refine .gnoU rfl rfl rfl rfl ?_
        refine .gnoU rfl rfl rfl rfl ?_
        refine .skips 2 rfl ?_
        refine .nil' fun c w ho hs => Cod.at (E := [(1, _), (28, _)]) (ho.sub ⟨rfl, rfl, trivial⟩) hs ?_
        refine .condKT rfl rfl ?_
        refine .seq ?_
        refine .region ?_
        have hw77 := W_law07_live (I := I) hd
        refine .call Tryz.call12 rfl hw77 rfl rfl fun v75 I72 hl73 hv74 => ?_
        obtain ⟨r71, rfl, hd⟩ := hv74
        have le78 := IH.le.trans (.refl _) hl73
        replace R3 := R3.mono hl73
        refine .skips 1 rfl ?_
        refine .nil' fun c w ho hs => Cod.at (E := [(2, _)]) (ho.sub ⟨rfl, trivial⟩) hs ?_
        refine .drop .z ?_
        exact .ret (pret Tryz.results5 (.t rfl .n) le78 ⟨r71, rfl, hd⟩)
      · have hd := hd.2 hb70
        rw [hb70]
        refine .gyes rfl rfl rfl (.fieldAddr Tryz.underlying50 rfl Tryz.sizeOf3 rfl (o := 0) rfl rfl rfl ?_)
        refine .gyes rfl rfl rfl (.load1 Tryz.isAgg3 rfl .z rfl rfl rfl ?_)
        refine .gyes rfl rfl rfl (.gt rfl rfl rfl rfl ?_)
        refine .gyes rfl rfl rfl (.move rfl rfl rfl ?_)
        refine split (decide (200 < a0.N)) (fun hb79 => ?_) (fun hb79 => ?_)
        · have hd := hd.1 hb79
          rw [hb79]
          refine .gyes rfl rfl rfl (.fieldAddr Tryz.underlying50 rfl Tryz.sizeOf3 rfl (o := 0) rfl rfl rfl ?_)
          refine .gyes rfl rfl rfl (.load1 Tryz.isAgg3 rfl .z rfl rfl rfl ?_)
          refine .gyes rfl rfl rfl (.le' rfl rfl rfl rfl ?_)
          refine .gyes rfl rfl rfl (.pickT rfl rfl rfl rfl rfl ?_)
          refine .skips 1 rfl ?_
          refine .nil' fun c w ho hs => Cod.at (E := [(1, _), (28, _)]) (ho.sub ⟨rfl, rfl, trivial⟩) hs ?_
          refine .cond rfl (fun hb80 => ?_) (fun hb80 => ?_)
          · have hd := hd.1 hb80
            refine .seq ?_
            refine .region ?_
            have hw87 := W_law07_live (I := I) hd
            refine .call Tryz.call12 rfl hw87 rfl rfl fun v85 I82 hl83 hv84 => ?_
            obtain ⟨r81, rfl, hd⟩ := hv84
            have le88 := IH.le.trans (.refl _) hl83
            replace R3 := R3.mono hl83
            refine .skips 1 rfl ?_
            refine .nil' fun c w ho hs => Cod.at (E := [(2, _)]) (ho.sub ⟨rfl, trivial⟩) hs ?_
            refine .drop .z ?_
            exact .ret (pret Tryz.results5 (.t rfl .n) le88 ⟨r81, rfl, hd⟩)
          · have hd := hd.2 hb80
            exact .skip' fun c w ho hs => ⟨(), hd, I, (.refl _), ho.sub ⟨rfl, trivial⟩, hs.pick (.c .z .n)⟩
        · have hd := hd.2 hb79
          rw [hb79]
          refine .skips 3 rfl ?_
          refine .gyes rfl rfl rfl (.pickF rfl rfl rfl rfl rfl ?_)
          refine .skips 1 rfl ?_
          refine .nil' fun c w ho hs => Cod.at (E := [(1, _), (28, _)]) (ho.sub ⟨rfl, rfl, trivial⟩) hs ?_
          refine .condKF rfl rfl ?_
          exact .skip' fun c w ho hs => ⟨(), hd, I, (.refl _), ho.sub ⟨rfl, trivial⟩, hs.pick (.c .z .n)⟩
    · have hd := hd.2 hb69
      rw [hb69]
      refine .skips 6 rfl ?_
      refine .gyes rfl rfl rfl (.fieldAddr Tryz.underlying50 rfl Tryz.sizeOf3 rfl (o := 0) rfl rfl rfl ?_)
      refine .gyes rfl rfl rfl (.load1 Tryz.isAgg3 rfl .z rfl rfl rfl ?_)
      refine .gyes rfl rfl rfl (.gt rfl rfl rfl rfl ?_)
      refine .gyes rfl rfl rfl (.move rfl rfl rfl ?_)
      refine split (decide (200 < a0.N)) (fun hb89 => ?_) (fun hb89 => ?_)
      · have hd := hd.1 hb89
        rw [hb89]
        refine .gyes rfl rfl rfl (.fieldAddr Tryz.underlying50 rfl Tryz.sizeOf3 rfl (o := 0) rfl rfl rfl ?_)
        refine .gyes rfl rfl rfl (.load1 Tryz.isAgg3 rfl .z rfl rfl rfl ?_)
        refine .gyes rfl rfl rfl (.le' rfl rfl rfl rfl ?_)
        refine .gyes rfl rfl rfl (.pickT rfl rfl rfl rfl rfl ?_)
        refine .skips 1 rfl ?_
        refine .nil' fun c w ho hs => Cod.at (E := [(1, _), (28, _)]) (ho.sub ⟨rfl, rfl, trivial⟩) hs ?_
        refine .cond rfl (fun hb90 => ?_) (fun hb90 => ?_)
        · have hd := hd.1 hb90
          refine .seq ?_
          refine .region ?_
          have hw97 := W_law07_live (I := I) hd
          refine .call Tryz.call12 rfl hw97 rfl rfl fun v95 I92 hl93 hv94 => ?_
          obtain ⟨r91, rfl, hd⟩ := hv94
          have le98 := IH.le.trans (.refl _) hl93
          replace R3 := R3.mono hl93
          refine .skips 1 rfl ?_
          refine .nil' fun c w ho hs => Cod.at (E := [(2, _)]) (ho.sub ⟨rfl, trivial⟩) hs ?_
          refine .drop .z ?_
          exact .ret (pret Tryz.results5 (.t rfl .n) le98 ⟨r91, rfl, hd⟩)
        · have hd := hd.2 hb90
          exact .skip' fun c w ho hs => ⟨(), hd, I, (.refl _), ho.sub ⟨rfl, trivial⟩, hs.pick (.c .z .n)⟩
      · have hd := hd.2 hb89
        rw [hb89]
        refine .skips 3 rfl ?_
        refine .gyes rfl rfl rfl (.pickF rfl rfl rfl rfl rfl ?_)
        refine .skips 1 rfl ?_
        refine .nil' fun c w ho hs => Cod.at (E := [(1, _), (28, _)]) (ho.sub ⟨rfl, rfl, trivial⟩) hs ?_
        refine .condKF rfl rfl ?_
        exact .skip' fun c w ho hs => ⟨(), hd, I, (.refl _), ho.sub ⟨rfl, trivial⟩, hs.pick (.c .z .n)⟩
  · rintro ⟨⟩ hd c w hst
    obtain ⟨I99, hl100, hok, hsym⟩ := hst
    have le101 := IH.le.trans (.refl _) hl100
    replace R3 := R3.mono hl100
    refine Cod.at hok hsym ?_
    refine .seq ?_
    refine .region ?_
    refine .loadW Tryz.isAgg50 Tryz.sizeOf50 rfl .z rfl rfl rfl ?_
    have hw136 := W_csr_Graph (I := I99) R3 hd
    refine .call Tryz.call31 rfl hw136 rfl rfl fun v125 I122 hl123 hv124 => ?_
    obtain ⟨r121, p127, c128, p130, c131, p133, c134, rfl, R129, R132, R135, hd⟩ := hv124
    have le137 := IH.le.trans le101 hl123
    replace R3 := R3.mono hl123
    refine .skips 1 rfl ?_
    refine .extract rfl rfl rfl rfl ?_
    refine .extract rfl rfl rfl rfl ?_
    refine .allocA Tryz.zeroValue29 rfl rfl fun b138 => ?_
    refine .storeA Tryz.sizeOf29 rfl rfl .z (.t (.t (.t (.t (.t .nil))))) rfl rfl ?_
    refine .skips 1 rfl ?_
    refine .nil' fun c w ho hs => Cod.at (E := [(1, _), (3, _), (4, _)]) (ho.sub ⟨rfl, rfl, rfl, trivial⟩) hs ?_
    refine .seq ?_
    refine .seq ?_
    refine .region ?_
    refine .skips 1 rfl ?_
    refine .loadW Tryz.isAgg50 Tryz.sizeOf50 rfl (.s .z) rfl rfl rfl ?_
    have hw155 := W_ref05_Right (I := I122) R3 hd
    refine .call Tryz.call32 rfl hw155 rfl rfl fun v153 I150 hl151 hv152 => ?_
    obtain ⟨r149, rfl, hd⟩ := hv152
    have le156 := IH.le.trans le137 hl151
    replace R3 := R3.mono hl151
    replace R129 := R129.mono hl151
    replace R132 := R132.mono hl151
    replace R135 := R135.mono hl151
    refine .ne rfl rfl rfl rfl ?_
    refine .nil' fun c w ho hs => Cod.at (E := [(1, _), (3, _), (4, _), (38, _)]) (ho.sub ⟨rfl, rfl, rfl, rfl, trivial⟩) hs ?_
    refine .cond rfl (fun hb157 => ?_) (fun hb157 => ?_)
    · have hd := hd.1 hb157
      refine .seq ?_
      refine .region ?_
      refine .skips 1 rfl ?_
      refine .nil' fun c w ho hs => Cod.at (E := [(2, _)]) (ho.sub ⟨rfl, trivial⟩) hs ?_
      refine .drop .z ?_
      refine .drop .z ?_
      exact .ret (pret Tryz.results5 (.t rfl .n) le156 ⟨false, rfl, hd⟩)
    · have hd := hd.2 hb157
      refine .skip' fun c w ho hs => Cod.at (E := [(1, _), (3, _), (4, _)]) (ho.sub ⟨rfl, rfl, rfl, trivial⟩) hs ?_
      refine .seq ?_
      refine .seq ?_
      refine .region ?_
      refine .skips 1 rfl ?_
      refine .ne rfl rfl rfl rfl ?_
      refine .nil' fun c w ho hs => Cod.at (E := [(1, _), (3, _), (40, _)]) (ho.sub ⟨rfl, rfl, rfl, trivial⟩) hs ?_
      refine .cond rfl (fun hb176 => ?_) (fun hb176 => ?_)
      · have hd := hd.1 hb176
        refine .seq ?_
        refine .region ?_
        have hw183 := W_law07_live (I := I150) hd
        refine .call Tryz.call12 rfl hw183 rfl rfl fun v181 I178 hl179 hv180 => ?_
        obtain ⟨r177, rfl, hd⟩ := hv180
        have le184 := IH.le.trans le156 hl179
        replace R3 := R3.mono hl179
        replace R129 := R129.mono hl179
        replace R132 := R132.mono hl179
        replace R135 := R135.mono hl179
        refine .skips 1 rfl ?_
        refine split r177 (fun hb185 => ?_) (fun hb185 => ?_)
        · have hd := hd.1 hb185
          rw [hb185]
          refine .gyes rfl rfl rfl (.loadW Tryz.isAgg29 Tryz.sizeOf29 rfl .z rfl rfl rfl ?_)
          refine .gyes rfl rfl rfl (.build Tryz.zeroValue29 Tryz.underlying29 BI29 .n (by exact trivial) rfl rfl ?_)
          have hw192 := W_csr_Same (I := I178) R129 R132 R135 (.nil _ none 0) (.nil _ none 0) (.nil _ none 0) hd
          refine .gyes rfl rfl rfl (.call Tryz.call30 rfl hw192 rfl rfl fun v190 I187 hl188 hv189 => ?_)
          obtain ⟨r186, rfl, hd⟩ := hv189
          have le193 := IH.le.trans le184 hl188
          replace R3 := R3.mono hl188
          replace R129 := R129.mono hl188
          replace R132 := R132.mono hl188
          replace R135 := R135.mono hl188
          refine .skips 2 rfl ?_
          refine .nil' fun c w ho hs => Cod.at (E := [(2, _)]) (ho.sub ⟨rfl, trivial⟩) hs ?_
          refine .drop .z ?_
          refine .drop .z ?_
          exact .ret (pret Tryz.results5 (.t rfl .n) le193 ⟨r186, rfl, hd⟩)
        · have hd := hd.2 hb185
          rw [hb185]
          refine .skips 5 rfl ?_
          refine .nil' fun c w ho hs => Cod.at (E := [(2, _)]) (ho.sub ⟨rfl, trivial⟩) hs ?_
          refine .drop .z ?_
          refine .drop .z ?_
          exact .ret (pret Tryz.results5 (.t rfl .n) le184 ⟨false, rfl, hd⟩)
      · have hd := hd.2 hb176
        refine .skip' fun c w ho hs => Cod.at (E := [(1, _), (3, _)]) (ho.sub ⟨rfl, rfl, trivial⟩) hs ?_
        refine .seq ?_
        refine .region ?_
        refine .loadW Tryz.isAgg50 Tryz.sizeOf50 rfl (.s .z) rfl rfl rfl ?_
        have hw216 := W_ref05_Canon (I := I150) R3 hd
        refine .call Tryz.call33 rfl hw216 rfl rfl fun v211 I208 hl209 hv210 => ?_
        obtain ⟨r207, p213, c214, rfl, R215, hd⟩ := hv210
        have le217 := IH.le.trans le156 hl209
        replace R3 := R3.mono hl209
        replace R129 := R129.mono hl209
        replace R132 := R132.mono hl209
        replace R135 := R135.mono hl209
        refine .allocA Tryz.zeroValue50 rfl rfl fun b218 => ?_
        refine .storeA Tryz.sizeOf50 rfl rfl .z (.t (.t .nil)) rfl rfl ?_
        refine .nil' fun c w ho hs => Cod.at (E := [(1, _), (3, _), (5, _)]) (ho.sub ⟨rfl, rfl, rfl, trivial⟩) hs ?_
        refine .seq ?_
        refine .seq ?_
        refine .region ?_
        refine .skips 1 rfl ?_
        refine .nil' fun c w ho hs => Cod.at (E := [(1, _), (3, _), (5, _), (6, _)]) (ho.sub ⟨rfl, rfl, rfl, rfl, trivial⟩) hs ?_
        refine .block ?_
        refine .loop hd (fun (s567 : Int) c w => ∃ I_, IH.le I208 I_ ∧ Ok 112 [(1, .pointer (some ⟨b6, 0, none⟩)), (3, .pointer (some ⟨b138, 0, none⟩)), (5, .pointer (some ⟨b218, 0, none⟩)), (6, .int .i64 s567)] c ∧ Sym w0 M I I_ [pto b6 (.cells #[.int .i64 a0.N, .slice p1 a0.Edges.length c2] 50 (0, 0)), pto b138 (.cells #[.int .i64 r121.1.Rows, .int .i64 r121.1.Cols, .slice p127 r121.1.Start.length c128, .slice p130 r121.1.Col.length c131, .slice p133 r121.1.Val.length c134] 29 (0, 0)), pto b218 (.cells #[.int .i64 r207.N, .slice p213 r207.Edges.length c214] 50 (0, 0))] w) (fun c w ho hs => ⟨I208, (.refl _), ho.sub ⟨rfl, rfl, rfl, rfl, trivial⟩, hs.pick (.c (.s (.s .z)) (.c (.s .z) (.c .z .n)))⟩) ?_
        rintro s567 next568 hd c w hst
        obtain ⟨I569, hl570, hok, hsym⟩ := hst
        have le571 := IH.le.trans le217 hl570
        have le572 := IH.le.trans (.refl _) hl570
        replace R3 := R3.mono hl570
        replace R129 := R129.mono hl570
        replace R132 := R132.mono hl570
        replace R135 := R135.mono hl570
        replace R215 := R215.mono hl570
        refine Cod.at hok hsym ?_
        refine .seq ?_
        refine .seq ?_
        refine .region ?_
        refine .skips 1 rfl ?_
        refine .fieldAddr Tryz.underlying50 rfl Tryz.sizeOf48 rfl (o := 1) rfl rfl rfl ?_
        refine .load1 Tryz.isAgg48 rfl (.s (.s .z)) rfl rfl rfl ?_
        refine .len Tryz.underlying48 rfl rfl rfl rfl ?_
        refine .lt rfl rfl rfl rfl ?_
        refine .nil' fun c w ho hs => Cod.at (E := [(1, _), (3, _), (5, _), (6, _), (53, _)]) (ho.sub ⟨rfl, rfl, rfl, rfl, rfl, trivial⟩) hs ?_
        refine .cond rfl (fun hb574 => ?_) (fun hb574 => ?_)
        · have hd := hd.1 hb574
          refine .skip' fun c w ho hs => Cod.at (E := [(1, _), (3, _), (5, _), (6, _)]) (ho.sub ⟨rfl, rfl, rfl, rfl, trivial⟩) hs ?_
          refine .seq ?_
          refine .block ?_
          refine .seq ?_
          refine .draw [some 0, some 1, some 2, some 3, some 4, some 5, some 6, some 7, some 8, some 9, some 10, some 11, some 12, some 13, some 14, some 15, some 16, some 17] 18 MX (by kernel_rfl) (by kernel_rfl) (by kernel_rfl) (by kernel_rfl) (by kernel_rfl) (by kernel_rfl) (by kernel_rfl) (fun ex => (pto b6 (.cells #[.int .i64 a0.N, .slice p1 a0.Edges.length c2] 50 (0, 0))) :: (pto b138 (.cells #[.int .i64 r121.1.Rows, .int .i64 r121.1.Cols, .slice p127 r121.1.Start.length c128, .slice p130 r121.1.Col.length c131, .slice p133 r121.1.Val.length c134] 29 (0, 0))) :: (pto b218 (.cells #[.int .i64 r207.N, .slice p213 r207.Edges.length c214] 50 (0, 0))) :: ex) (fun _ _ => (.s (.s (.s .z)))) rfl ?_
          refine .f [] rfl (by kernel_rfl) rfl rfl (fun ex => .loadW Tryz.isAgg29 Tryz.sizeOf29 rfl (.s .z) rfl rfl rfl .mk) ?_
          refine .f [] rfl (by kernel_rfl) rfl rfl (fun ex => .fieldAddr Tryz.underlying50 rfl Tryz.sizeOf48 rfl (o := 1) rfl rfl rfl .mk) ?_
          refine .f [1] rfl (by kernel_rfl) rfl rfl (fun ex => .load1 Tryz.isAgg48 rfl (.s (.s .z)) rfl rfl rfl .mk) ?_
          refine .f [] rfl (by kernel_rfl) rfl rfl (fun ex => .move rfl rfl rfl .mk) ?_
          obtain ⟨h602, x603, hx604, hd⟩ := hd
          obtain ⟨b605, o606, cs607, e608, hC609, hr610⟩ := R215.2 _ _ hx604
          cases hr610
          refine .f [2, 3] rfl (by kernel_rfl) rfl rfl (fun ex => .ixa Tryz.underlying48 Tryz.sizeOf55 rfl e608 rfl h602 (idx_lt hx604 h602) rfl rfl .mk) ?_
          refine .f [4] rfl (by kernel_rfl) rfl rfl (fun ex => .fieldAddr Tryz.underlying55 rfl Tryz.sizeOf3 rfl (o := o606 + s567.toNat * 3 + 1) rfl rfl rfl .mk) ?_
          refine .f [5] rfl (by kernel_rfl) rfl rfl (fun ex => .ld1 (j := 1) Tryz.isAgg3 hC609 rfl rfl rfl rfl rfl .mk) ?_
          refine .f [] rfl (by kernel_rfl) rfl rfl (fun ex => .fieldAddr Tryz.underlying50 rfl Tryz.sizeOf48 rfl (o := 1) rfl rfl rfl .mk) ?_
          refine .f [7] rfl (by kernel_rfl) rfl rfl (fun ex => .load1 Tryz.isAgg48 rfl (.s (.s .z)) rfl rfl rfl .mk) ?_
          refine .f [] rfl (by kernel_rfl) rfl rfl (fun ex => .move rfl rfl rfl .mk) ?_
          obtain ⟨h611, x612, hx613, hd⟩ := hd
          obtain ⟨b614, o615, cs616, e617, hC618, hr619⟩ := R215.2 _ _ hx613
          cases hr619
          refine .f [8, 9] rfl (by kernel_rfl) rfl rfl (fun ex => .ixa Tryz.underlying48 Tryz.sizeOf55 rfl e617 rfl h611 (idx_lt hx613 h611) rfl rfl .mk) ?_
          refine .f [10] rfl (by kernel_rfl) rfl rfl (fun ex => .fieldAddr Tryz.underlying55 rfl Tryz.sizeOf3 rfl (o := o615 + s567.toNat * 3) rfl rfl rfl .mk) ?_
          refine .f [11] rfl (by kernel_rfl) rfl rfl (fun ex => .ld1 (j := 0) Tryz.isAgg3 hC618 rfl rfl rfl rfl rfl .mk) ?_
          refine .w [] [[], [12], [11, 12], [10, 11, 12], [10, 11, 12], [8, 10, 11, 12], [], [6], [5, 6], [4, 5, 6], [4, 5, 6], [2, 4, 5, 6], []] [0, 6, 12] rfl (by kernel_rfl) (by kernel_rfl) (by kernel_rfl) ((dropE_kept rfl rfl)) (.inr (dropE_kept rfl rfl)) fun ex => ?_
          have hw626 := W_csr_Get (I := I569) R129 R132 R135 hd
          refine .call Tryz.call14 rfl hw626 rfl rfl fun v624 I621 hl622 hv623 => ?_
          obtain ⟨r620, rfl, hd⟩ := hv623
          have le627 := IH.le.trans le571 hl622
          have le628 := IH.le.trans le572 hl622
          replace R3 := R3.mono hl622
          replace R129 := R129.mono hl622
          replace R132 := R132.mono hl622
          replace R135 := R135.mono hl622
          replace R215 := R215.mono hl622
          replace hC609 := hC609.mono hl622
          replace hC618 := hC618.mono hl622
          refine .some (fun ex => (pto b6 (.cells #[.int .i64 a0.N, .slice p1 a0.Edges.length c2] 50 (0, 0))) :: (pto b138 (.cells #[.int .i64 r121.1.Rows, .int .i64 r121.1.Cols, .slice p127 r121.1.Start.length c128, .slice p130 r121.1.Col.length c131, .slice p133 r121.1.Val.length c134] 29 (0, 0))) :: (pto b218 (.cells #[.int .i64 r207.N, .slice p213 r207.Edges.length c214] 50 (0, 0))) :: ex) rfl (fun _ _ => (.s (.s (.s .z)))) rfl trivial ?_
          refine .f [13] rfl (by kernel_rfl) rfl rfl (fun ex => .move rfl rfl rfl .mk) ?_
          refine .f [14] rfl (by kernel_rfl) rfl rfl (fun ex => .extract rfl rfl rfl rfl .mk) ?_
          refine .f [14] rfl (by kernel_rfl) rfl rfl (fun ex => .extract rfl rfl rfl rfl .mk) ?_
          refine .f [15, 13, 0, 1, 2, 3, 4, 5, 6, 7, 8, 9, 10, 11, 12, 13, 14, 15] rfl (by kernel_rfl) rfl rfl (fun ex => .assign rfl rfl rfl .mk) ?_
          refine .e 18 (by kernel_rfl) (by kernel_rfl) (by kernel_rfl) ?_
          refine .skips 1 rfl ?_
          refine .nil' fun c w ho hs => Cod.at (E := [(1, _), (3, _), (5, _), (6, _), (7, _), (8, _)]) (ho.sub ⟨rfl, rfl, rfl, rfl, rfl, rfl, trivial⟩) hs ?_
          refine .seq ?_
          refine .region ?_
          refine .skips 1 rfl ?_
          refine .not rfl rfl rfl ?_
          refine .skips 1 rfl ?_
          refine split (!r620.2) (fun hb629 => ?_) (fun hb629 => ?_)
          · have hd := hd.1 hb629
            rw [hb629]
            refine .skips 9 rfl ?_
            refine .nil' fun c w ho hs => Cod.at (E := [(1, _), (3, _), (5, _), (6, _), (84, _)]) (ho.sub ⟨rfl, rfl, rfl, rfl, rfl, trivial⟩) hs ?_
            refine .condKT rfl rfl ?_
            refine .seq ?_
            refine .region ?_
            refine .skips 1 rfl ?_
            refine .nil' fun c w ho hs => Cod.at (E := [(2, _)]) (ho.sub ⟨rfl, trivial⟩) hs ?_
            refine .drop .z ?_
            refine .drop .z ?_
            refine .drop .z ?_
            exact .ret (pret Tryz.results5 (.t rfl .n) le627 ⟨false, rfl, hd⟩)
          · have hd := hd.2 hb629
            rw [hb629]
            refine .gyes rfl rfl rfl (.move rfl rfl rfl ?_)
            refine .gyes rfl rfl rfl (.fieldAddr Tryz.underlying50 rfl Tryz.sizeOf48 rfl (o := 1) rfl rfl rfl ?_)
            refine .gyes rfl rfl rfl (.load1 Tryz.isAgg48 rfl (.s (.s .z)) rfl rfl rfl ?_)
            refine .gyes rfl rfl rfl (.move rfl rfl rfl ?_)
            obtain ⟨h630, x631, hx632, hd⟩ := hd
            obtain ⟨b633, o634, cs635, e636, hC637, hr638⟩ := R215.2 _ _ hx632
            cases hr638
            refine .gyes rfl rfl rfl (.ixa Tryz.underlying48 Tryz.sizeOf55 rfl e636 rfl h630 (idx_lt hx632 h630) rfl rfl ?_)
            refine .gyes rfl rfl rfl (.fieldAddr Tryz.underlying55 rfl Tryz.sizeOf2 rfl (o := o634 + s567.toNat * 3 + 2) rfl rfl rfl ?_)
            refine .gyes rfl rfl rfl (.ld1 (j := 2) Tryz.isAgg2 hC637 rfl rfl rfl rfl rfl ?_)
            refine .gyes rfl rfl rfl (.ne rfl rfl rfl rfl ?_)
            refine .skips 1 rfl ?_
            refine .nil' fun c w ho hs => Cod.at (E := [(1, _), (3, _), (5, _), (6, _), (84, _)]) (ho.sub ⟨rfl, rfl, rfl, rfl, rfl, trivial⟩) hs ?_
            refine .cond rfl (fun hb639 => ?_) (fun hb639 => ?_)
            · have hd := hd.1 hb639
              refine .seq ?_
              refine .region ?_
              refine .skips 1 rfl ?_
              refine .nil' fun c w ho hs => Cod.at (E := [(2, _)]) (ho.sub ⟨rfl, trivial⟩) hs ?_
              refine .drop .z ?_
              refine .drop .z ?_
              refine .drop .z ?_
              exact .ret (pret Tryz.results5 (.t rfl .n) le627 ⟨false, rfl, hd⟩)
            · have hd := hd.2 hb639
              refine .skip' fun c w ho hs => Cod.at (E := [(1, _), (3, _), (5, _), (6, _)]) (ho.sub ⟨rfl, rfl, rfl, rfl, trivial⟩) hs ?_
              refine .region ?_
              refine .skips 1 rfl ?_
              refine .add rfl rfl rfl rfl ?_
              refine .sub (E' := [(1, _), (3, _), (5, _), (54, _), (55, _)]) ⟨rfl, rfl, rfl, rfl, rfl, trivial⟩ ?_
              refine .skips 1 rfl ?_
              exact .nil' fun c w ho hs => ⟨(w64 (s567 + 1)), hd, I621, le628, ho.sub ⟨rfl, rfl, rfl, rfl, trivial⟩, hs.pick (.c .z (.c .z (.c .z .n)))⟩
        · have hd := hd.2 hb574
          refine .exit fun c w ho hs => Cod.at (E := [(1, _), (3, _), (5, _)]) (ho.sub ⟨rfl, rfl, rfl, trivial⟩) hs ?_
          refine .seq ?_
          refine .draw [some 0, some 1, some 2, some 3, some 4, some 5, some 6, some 7, some 8, some 9, some 10, some 11, some 12, some 13, some 14, some 15, some 16, some 17, some 18, some 19, some 20, some 22, some 23, some 24, some 21, some 25, some 26] 27 MX (by kernel_rfl) (by kernel_rfl) (by kernel_rfl) (by kernel_rfl) (by kernel_rfl) (by kernel_rfl) (by kernel_rfl) (fun ex => (pto b6 (.cells #[.int .i64 a0.N, .slice p1 a0.Edges.length c2] 50 (0, 0))) :: (pto b138 (.cells #[.int .i64 r121.1.Rows, .int .i64 r121.1.Cols, .slice p127 r121.1.Start.length c128, .slice p130 r121.1.Col.length c131, .slice p133 r121.1.Val.length c134] 29 (0, 0))) :: (pto b218 (.cells #[.int .i64 r207.N, .slice p213 r207.Edges.length c214] 50 (0, 0))) :: ex) (fun _ _ => (.s (.s (.s .z)))) rfl ?_
          refine .w [] [] [] rfl (by kernel_rfl) (by kernel_rfl) (by kernel_rfl) ((dropE_kept rfl rfl)) (.inr (dropE_kept rfl rfl)) fun ex => ?_
          have hw646 := W_law07_live (I := I569) hd
          refine .call Tryz.call12 rfl hw646 rfl rfl fun v644 I641 hl642 hv643 => ?_
          obtain ⟨r640, rfl, hd⟩ := hv643
          have le647 := IH.le.trans le571 hl642
          have le648 := IH.le.trans le572 hl642
          replace R3 := R3.mono hl642
          replace R129 := R129.mono hl642
          replace R132 := R132.mono hl642
          replace R135 := R135.mono hl642
          replace R215 := R215.mono hl642
          refine .some (fun ex => (pto b6 (.cells #[.int .i64 a0.N, .slice p1 a0.Edges.length c2] 50 (0, 0))) :: (pto b138 (.cells #[.int .i64 r121.1.Rows, .int .i64 r121.1.Cols, .slice p127 r121.1.Start.length c128, .slice p130 r121.1.Col.length c131, .slice p133 r121.1.Val.length c134] 29 (0, 0))) :: (pto b218 (.cells #[.int .i64 r207.N, .slice p213 r207.Edges.length c214] 50 (0, 0))) :: ex) rfl (fun _ _ => (.s (.s (.s .z)))) rfl trivial ?_
          refine .f [0, 0] rfl (by kernel_rfl) rfl rfl (fun ex => .move rfl rfl rfl .mk) ?_
          refine split r640 (fun hb649 => ?_) (fun hb649 => ?_)
          · have hd := hd.1 hb649
            refine .f [1] rfl (by kernel_rfl) rfl rfl (fun ex => .gyes rfl rfl hb649 (.loadW Tryz.isAgg29 Tryz.sizeOf29 rfl (.s .z) rfl rfl rfl .mk)) ?_
            refine .w [] [[], []] [2, 1, 1] rfl (by kernel_rfl) (by kernel_rfl) (by kernel_rfl) ((dropE_kept rfl rfl)) (.inr (dropE_kept rfl rfl)) fun ex => ?_
            have hw656 := W_csr_Right (I := I641) R129 R132 R135 hd
            refine .gyes rfl rfl hb649 (.call Tryz.call16 rfl hw656 rfl rfl fun v654 I651 hl652 hv653 => ?_)
            obtain ⟨r650, rfl, hd⟩ := hv653
            have le657 := IH.le.trans le647 hl652
            have le658 := IH.le.trans le648 hl652
            replace R3 := R3.mono hl652
            replace R129 := R129.mono hl652
            replace R132 := R132.mono hl652
            replace R135 := R135.mono hl652
            replace R215 := R215.mono hl652
            refine .some (fun ex => (pto b6 (.cells #[.int .i64 a0.N, .slice p1 a0.Edges.length c2] 50 (0, 0))) :: (pto b138 (.cells #[.int .i64 r121.1.Rows, .int .i64 r121.1.Cols, .slice p127 r121.1.Start.length c128, .slice p130 r121.1.Col.length c131, .slice p133 r121.1.Val.length c134] 29 (0, 0))) :: (pto b218 (.cells #[.int .i64 r207.N, .slice p213 r207.Edges.length c214] 50 (0, 0))) :: ex) rfl (fun _ _ => (.s (.s (.s .z)))) rfl trivial ?_
            refine .f [1, 3] rfl (by kernel_rfl) rfl rfl (fun ex => .pickT rfl hb649 rfl rfl rfl .mk) ?_
            refine .f [4, 3] rfl (by kernel_rfl) rfl rfl (fun ex => .move rfl rfl rfl .mk) ?_
            refine split r650 (fun hb659 => ?_) (fun hb659 => ?_)
            · have hd := hd.1 hb659
              refine .f [5] rfl (by kernel_rfl) rfl rfl (fun ex => .gyes rfl rfl hb659 (.fieldAddr Tryz.underlying29 rfl Tryz.sizeOf3 rfl (o := 0) rfl rfl rfl .mk)) ?_
              refine .f [6, 5] rfl (by kernel_rfl) rfl rfl (fun ex => .gyes rfl rfl hb659 (.load1 Tryz.isAgg3 rfl (.s .z) rfl rfl rfl .mk)) ?_
              refine .f [5] rfl (by kernel_rfl) rfl rfl (fun ex => .gyes rfl rfl hb659 (.fieldAddr Tryz.underlying50 rfl Tryz.sizeOf3 rfl (o := 0) rfl rfl rfl .mk)) ?_
              refine .f [8, 5] rfl (by kernel_rfl) rfl rfl (fun ex => .gyes rfl rfl hb659 (.load1 Tryz.isAgg3 rfl .z rfl rfl rfl .mk)) ?_
              refine .f [7, 9, 5] rfl (by kernel_rfl) rfl rfl (fun ex => .gyes rfl rfl hb659 (.eq rfl rfl rfl rfl .mk)) ?_
              refine .f [5, 10] rfl (by kernel_rfl) rfl rfl (fun ex => .pickT rfl hb659 rfl rfl rfl .mk) ?_
              refine .f [11, 5] rfl (by kernel_rfl) rfl rfl (fun ex => .move rfl rfl rfl .mk) ?_
              refine split (r121.1.Rows == a0.N) (fun hb660 => ?_) (fun hb660 => ?_)
              · have hd := hd.1 hb660
                refine .f [12] rfl (by kernel_rfl) rfl rfl (fun ex => .gyes rfl rfl hb660 (.fieldAddr Tryz.underlying29 rfl Tryz.sizeOf3 rfl (o := 1) rfl rfl rfl .mk)) ?_
                refine .f [13, 12] rfl (by kernel_rfl) rfl rfl (fun ex => .gyes rfl rfl hb660 (.load1 Tryz.isAgg3 rfl (.s .z) rfl rfl rfl .mk)) ?_
                refine .f [12] rfl (by kernel_rfl) rfl rfl (fun ex => .gyes rfl rfl hb660 (.fieldAddr Tryz.underlying50 rfl Tryz.sizeOf3 rfl (o := 0) rfl rfl rfl .mk)) ?_
                refine .f [15, 12] rfl (by kernel_rfl) rfl rfl (fun ex => .gyes rfl rfl hb660 (.load1 Tryz.isAgg3 rfl .z rfl rfl rfl .mk)) ?_
                refine .f [14, 16, 12] rfl (by kernel_rfl) rfl rfl (fun ex => .gyes rfl rfl hb660 (.eq rfl rfl rfl rfl .mk)) ?_
                refine .f [12, 17] rfl (by kernel_rfl) rfl rfl (fun ex => .pickT rfl hb660 rfl rfl rfl .mk) ?_
                refine .f [18, 12] rfl (by kernel_rfl) rfl rfl (fun ex => .move rfl rfl rfl .mk) ?_
                refine split (r121.1.Cols == a0.N) (fun hb661 => ?_) (fun hb661 => ?_)
                · have hd := hd.1 hb661
                  refine .f [19] rfl (by kernel_rfl) rfl rfl (fun ex => .gyes rfl rfl hb661 (.loadW Tryz.isAgg29 Tryz.sizeOf29 rfl (.s .z) rfl rfl rfl .mk)) ?_
                  refine .f [19] rfl (by kernel_rfl) rfl rfl (fun ex => .gyes rfl rfl hb661 (.fieldAddr Tryz.underlying50 rfl Tryz.sizeOf48 rfl (o := 1) rfl rfl rfl .mk)) ?_
                  refine .f [22, 19] rfl (by kernel_rfl) rfl rfl (fun ex => .gyes rfl rfl hb661 (.load1 Tryz.isAgg48 rfl (.s (.s .z)) rfl rfl rfl .mk)) ?_
                  refine .f [23, 19] rfl (by kernel_rfl) rfl rfl (fun ex => .gyes rfl rfl hb661 (.len Tryz.underlying48 rfl rfl rfl rfl .mk)) ?_
                  refine .w [24, 23, 22] [[], [], [19], [18, 19], [17, 18, 19], [16, 17, 18, 19], [17, 18, 19], [14, 17, 18, 19], [19], [12, 19], [11, 12, 19], [10, 11, 12, 19], [9, 10, 11, 12, 19], [10, 11, 12, 19], [7, 10, 11, 12, 19], [12, 19], [5, 12, 19]] [20, 19, 19] rfl (by kernel_rfl) (by kernel_rfl) (by kernel_rfl) ((dropE_kept rfl rfl)) (.inr (dropE_kept rfl rfl)) fun ex => ?_
                  have hw668 := W_csr_Count (I := I651) R129 R132 R135 hd
                  refine .gyes rfl rfl hb661 (.call Tryz.call18 rfl hw668 rfl rfl fun v666 I663 hl664 hv665 => ?_)
                  obtain ⟨r662, rfl, hd⟩ := hv665
                  have le669 := IH.le.trans le657 hl664
                  have le670 := IH.le.trans le658 hl664
                  replace R3 := R3.mono hl664
                  replace R129 := R129.mono hl664
                  replace R132 := R132.mono hl664
                  replace R135 := R135.mono hl664
                  replace R215 := R215.mono hl664
                  refine .some (fun ex => (pto b6 (.cells #[.int .i64 a0.N, .slice p1 a0.Edges.length c2] 50 (0, 0))) :: (pto b138 (.cells #[.int .i64 r121.1.Rows, .int .i64 r121.1.Cols, .slice p127 r121.1.Start.length c128, .slice p130 r121.1.Col.length c131, .slice p133 r121.1.Val.length c134] 29 (0, 0))) :: (pto b218 (.cells #[.int .i64 r207.N, .slice p213 r207.Edges.length c214] 50 (0, 0))) :: ex) rfl (fun _ _ => (.s (.s (.s .z)))) rfl (.cc [23, 19] rfl (by kernel_rfl) rfl rfl rfl (fun ex => .gyes rfl rfl hb661 (.len Tryz.underlying48 rfl rfl rfl rfl .mk)) (.cc [22, 19] rfl (by kernel_rfl) rfl rfl rfl (fun ex => .gyes rfl rfl hb661 (.load1 Tryz.isAgg48 rfl (.s (.s .z)) rfl rfl rfl .mk)) (.cc [19] rfl (by kernel_rfl) rfl rfl rfl (fun ex => .gyes rfl rfl hb661 (.fieldAddr Tryz.underlying50 rfl Tryz.sizeOf48 rfl (o := 1) rfl rfl rfl .mk)) trivial))) ?_
                  refine .f [21, 24, 19] rfl (by kernel_rfl) rfl rfl (fun ex => .gyes rfl rfl hb661 (.eq rfl rfl rfl rfl .mk)) ?_
                  refine .f [19, 25] rfl (by kernel_rfl) rfl rfl (fun ex => .pickT rfl hb661 rfl rfl rfl .mk) ?_
                  refine .e 27 (by kernel_rfl) (by kernel_rfl) (by kernel_rfl) ?_
                  refine .skips 1 rfl ?_
                  refine .nil' fun c w ho hs => Cod.at (E := [(2, _)]) (ho.sub ⟨rfl, trivial⟩) hs ?_
                  refine .drop .z ?_
                  refine .drop .z ?_
                  refine .drop .z ?_
                  exact .ret (pret Tryz.results5 (.t rfl .n) le669 ⟨(r662 == (r207.Edges.length : Int)), rfl, hd⟩)
                · have hd := hd.2 hb661
                  refine .f [19] rfl (by kernel_rfl) rfl rfl (fun ex => .gno rfl rfl hb661 rfl rfl .mk) ?_
                  refine .f [19] rfl (by kernel_rfl) rfl rfl (fun ex => .gno rfl rfl hb661 rfl rfl .mk) ?_
                  refine .f [22, 19] rfl (by kernel_rfl) rfl rfl (fun ex => .gno rfl rfl hb661 rfl rfl .mk) ?_
                  refine .f [23, 19] rfl (by kernel_rfl) rfl rfl (fun ex => .gno rfl rfl hb661 rfl rfl .mk) ?_
                  refine .f [20, 19, 19] rfl (by kernel_rfl) rfl rfl (fun ex => .gno rfl rfl hb661 rfl rfl .mk) ?_
                  refine .f [21, 24, 19] rfl (by kernel_rfl) rfl rfl (fun ex => .gno rfl rfl hb661 rfl rfl .mk) ?_
                  refine .f [19, 25] rfl (by kernel_rfl) rfl rfl (fun ex => .pickF rfl hb661 rfl rfl rfl .mk) ?_
                  refine .e 27 (by kernel_rfl) (by kernel_rfl) (by kernel_rfl) ?_
                  refine .skips 1 rfl ?_
                  refine .nil' fun c w ho hs => Cod.at (E := [(2, _)]) (ho.sub ⟨rfl, trivial⟩) hs ?_
                  refine .drop .z ?_
                  refine .drop .z ?_
                  refine .drop .z ?_
                  exact .ret (pret Tryz.results5 (.t rfl .n) le657 ⟨false, rfl, hd⟩)
              · have hd := hd.2 hb660
                refine .f [12] rfl (by kernel_rfl) rfl rfl (fun ex => .gno rfl rfl hb660 rfl rfl .mk) ?_
                refine .f [13, 12] rfl (by kernel_rfl) rfl rfl (fun ex => .gno rfl rfl hb660 rfl rfl .mk) ?_
                refine .f [12] rfl (by kernel_rfl) rfl rfl (fun ex => .gno rfl rfl hb660 rfl rfl .mk) ?_
                refine .f [15, 12] rfl (by kernel_rfl) rfl rfl (fun ex => .gno rfl rfl hb660 rfl rfl .mk) ?_
                refine .f [14, 16, 12] rfl (by kernel_rfl) rfl rfl (fun ex => .gno rfl rfl hb660 rfl rfl .mk) ?_
                refine .f [12, 17] rfl (by kernel_rfl) rfl rfl (fun ex => .pickF rfl hb660 rfl rfl rfl .mk) ?_
                refine .f [18, 12] rfl (by kernel_rfl) rfl rfl (fun ex => .move rfl rfl rfl .mk) ?_
                refine .f [19] rfl (by kernel_rfl) rfl rfl (fun ex => .gno rfl rfl rfl rfl rfl .mk) ?_
                refine .f [19] rfl (by kernel_rfl) rfl rfl (fun ex => .gno rfl rfl rfl rfl rfl .mk) ?_
                refine .f [22, 19] rfl (by kernel_rfl) rfl rfl (fun ex => .gno rfl rfl rfl rfl rfl .mk) ?_
                refine .f [23, 19] rfl (by kernel_rfl) rfl rfl (fun ex => .gno rfl rfl rfl rfl rfl .mk) ?_
                refine .f [20, 19, 19] rfl (by kernel_rfl) rfl rfl (fun ex => .gno rfl rfl rfl rfl rfl .mk) ?_
                refine .f [21, 24, 19] rfl (by kernel_rfl) rfl rfl (fun ex => .gno rfl rfl rfl rfl rfl .mk) ?_
                refine .f [19, 25] rfl (by kernel_rfl) rfl rfl (fun ex => .pickF rfl rfl rfl rfl rfl .mk) ?_
                refine .e 27 (by kernel_rfl) (by kernel_rfl) (by kernel_rfl) ?_
                refine .skips 1 rfl ?_
                refine .nil' fun c w ho hs => Cod.at (E := [(2, _)]) (ho.sub ⟨rfl, trivial⟩) hs ?_
                refine .drop .z ?_
                refine .drop .z ?_
                refine .drop .z ?_
                exact .ret (pret Tryz.results5 (.t rfl .n) le657 ⟨false, rfl, hd⟩)
            · have hd := hd.2 hb659
              refine .f [5] rfl (by kernel_rfl) rfl rfl (fun ex => .gno rfl rfl hb659 rfl rfl .mk) ?_
              refine .f [6, 5] rfl (by kernel_rfl) rfl rfl (fun ex => .gno rfl rfl hb659 rfl rfl .mk) ?_
              refine .f [5] rfl (by kernel_rfl) rfl rfl (fun ex => .gno rfl rfl hb659 rfl rfl .mk) ?_
              refine .f [8, 5] rfl (by kernel_rfl) rfl rfl (fun ex => .gno rfl rfl hb659 rfl rfl .mk) ?_
              refine .f [7, 9, 5] rfl (by kernel_rfl) rfl rfl (fun ex => .gno rfl rfl hb659 rfl rfl .mk) ?_
              refine .f [5, 10] rfl (by kernel_rfl) rfl rfl (fun ex => .pickF rfl hb659 rfl rfl rfl .mk) ?_
              refine .f [11, 5] rfl (by kernel_rfl) rfl rfl (fun ex => .move rfl rfl rfl .mk) ?_
              refine .f [12] rfl (by kernel_rfl) rfl rfl (fun ex => .gno rfl rfl rfl rfl rfl .mk) ?_
              refine .f [13, 12] rfl (by kernel_rfl) rfl rfl (fun ex => .gno rfl rfl rfl rfl rfl .mk) ?_
              refine .f [12] rfl (by kernel_rfl) rfl rfl (fun ex => .gno rfl rfl rfl rfl rfl .mk) ?_
              refine .f [15, 12] rfl (by kernel_rfl) rfl rfl (fun ex => .gno rfl rfl rfl rfl rfl .mk) ?_
              refine .f [14, 16, 12] rfl (by kernel_rfl) rfl rfl (fun ex => .gno rfl rfl rfl rfl rfl .mk) ?_
              refine .f [12, 17] rfl (by kernel_rfl) rfl rfl (fun ex => .pickF rfl rfl rfl rfl rfl .mk) ?_
              refine .f [18, 12] rfl (by kernel_rfl) rfl rfl (fun ex => .move rfl rfl rfl .mk) ?_
              refine .f [19] rfl (by kernel_rfl) rfl rfl (fun ex => .gno rfl rfl rfl rfl rfl .mk) ?_
              refine .f [19] rfl (by kernel_rfl) rfl rfl (fun ex => .gno rfl rfl rfl rfl rfl .mk) ?_
              refine .f [22, 19] rfl (by kernel_rfl) rfl rfl (fun ex => .gno rfl rfl rfl rfl rfl .mk) ?_
              refine .f [23, 19] rfl (by kernel_rfl) rfl rfl (fun ex => .gno rfl rfl rfl rfl rfl .mk) ?_
              refine .f [20, 19, 19] rfl (by kernel_rfl) rfl rfl (fun ex => .gno rfl rfl rfl rfl rfl .mk) ?_
              refine .f [21, 24, 19] rfl (by kernel_rfl) rfl rfl (fun ex => .gno rfl rfl rfl rfl rfl .mk) ?_
              refine .f [19, 25] rfl (by kernel_rfl) rfl rfl (fun ex => .pickF rfl rfl rfl rfl rfl .mk) ?_
              refine .e 27 (by kernel_rfl) (by kernel_rfl) (by kernel_rfl) ?_
              refine .skips 1 rfl ?_
              refine .nil' fun c w ho hs => Cod.at (E := [(2, _)]) (ho.sub ⟨rfl, trivial⟩) hs ?_
              refine .drop .z ?_
              refine .drop .z ?_
              refine .drop .z ?_
              exact .ret (pret Tryz.results5 (.t rfl .n) le657 ⟨false, rfl, hd⟩)
          · have hd := hd.2 hb649
            refine .f [1] rfl (by kernel_rfl) rfl rfl (fun ex => .gno rfl rfl hb649 rfl rfl .mk) ?_
            refine .f [2, 1, 1] rfl (by kernel_rfl) rfl rfl (fun ex => .gno rfl rfl hb649 rfl rfl .mk) ?_
            refine .f [1, 3] rfl (by kernel_rfl) rfl rfl (fun ex => .pickF rfl hb649 rfl rfl rfl .mk) ?_
            refine .f [4, 3] rfl (by kernel_rfl) rfl rfl (fun ex => .move rfl rfl rfl .mk) ?_
            refine .f [5] rfl (by kernel_rfl) rfl rfl (fun ex => .gno rfl rfl rfl rfl rfl .mk) ?_
            refine .f [6, 5] rfl (by kernel_rfl) rfl rfl (fun ex => .gno rfl rfl rfl rfl rfl .mk) ?_
            refine .f [5] rfl (by kernel_rfl) rfl rfl (fun ex => .gno rfl rfl rfl rfl rfl .mk) ?_
            refine .f [8, 5] rfl (by kernel_rfl) rfl rfl (fun ex => .gno rfl rfl rfl rfl rfl .mk) ?_
            refine .f [7, 9, 5] rfl (by kernel_rfl) rfl rfl (fun ex => .gno rfl rfl rfl rfl rfl .mk) ?_
            refine .f [5, 10] rfl (by kernel_rfl) rfl rfl (fun ex => .pickF rfl rfl rfl rfl rfl .mk) ?_
            refine .f [11, 5] rfl (by kernel_rfl) rfl rfl (fun ex => .move rfl rfl rfl .mk) ?_
            refine .f [12] rfl (by kernel_rfl) rfl rfl (fun ex => .gno rfl rfl rfl rfl rfl .mk) ?_
            refine .f [13, 12] rfl (by kernel_rfl) rfl rfl (fun ex => .gno rfl rfl rfl rfl rfl .mk) ?_
            refine .f [12] rfl (by kernel_rfl) rfl rfl (fun ex => .gno rfl rfl rfl rfl rfl .mk) ?_
            refine .f [15, 12] rfl (by kernel_rfl) rfl rfl (fun ex => .gno rfl rfl rfl rfl rfl .mk) ?_
            refine .f [14, 16, 12] rfl (by kernel_rfl) rfl rfl (fun ex => .gno rfl rfl rfl rfl rfl .mk) ?_
            refine .f [12, 17] rfl (by kernel_rfl) rfl rfl (fun ex => .pickF rfl rfl rfl rfl rfl .mk) ?_
            refine .f [18, 12] rfl (by kernel_rfl) rfl rfl (fun ex => .move rfl rfl rfl .mk) ?_
            refine .f [19] rfl (by kernel_rfl) rfl rfl (fun ex => .gno rfl rfl rfl rfl rfl .mk) ?_
            refine .f [19] rfl (by kernel_rfl) rfl rfl (fun ex => .gno rfl rfl rfl rfl rfl .mk) ?_
            refine .f [22, 19] rfl (by kernel_rfl) rfl rfl (fun ex => .gno rfl rfl rfl rfl rfl .mk) ?_
            refine .f [23, 19] rfl (by kernel_rfl) rfl rfl (fun ex => .gno rfl rfl rfl rfl rfl .mk) ?_
            refine .f [20, 19, 19] rfl (by kernel_rfl) rfl rfl (fun ex => .gno rfl rfl rfl rfl rfl .mk) ?_
            refine .f [21, 24, 19] rfl (by kernel_rfl) rfl rfl (fun ex => .gno rfl rfl rfl rfl rfl .mk) ?_
            refine .f [19, 25] rfl (by kernel_rfl) rfl rfl (fun ex => .pickF rfl rfl rfl rfl rfl .mk) ?_
            refine .e 27 (by kernel_rfl) (by kernel_rfl) (by kernel_rfl) ?_
            refine .skips 1 rfl ?_
            refine .nil' fun c w ho hs => Cod.at (E := [(2, _)]) (ho.sub ⟨rfl, trivial⟩) hs ?_
            refine .drop .z ?_
            refine .drop .z ?_
            refine .drop .z ?_
            exact .ret (pret Tryz.results5 (.t rfl .n) le647 ⟨false, rfl, hd⟩)

end Go.Proofs.YtindbiojednfbaaGreat
