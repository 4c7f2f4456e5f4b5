/- The walks (printed by a program of ours). -/
import Derived.Test.YtindbiojednfbaaGreatV2
namespace Go.Proofs.YtindbiojednfbaaGreat
open Go Go.Fw
set_option linter.unusedVariables false
set_option linter.unusedSimpArgs false
set_option maxRecDepth 8000
set_option maxHeartbeats 1000000
theorem W_law07_Few {I : IH} {a0 : List Triple} {p1 : Option Addr} {c2 : Nat} {Q : (List Triple) → Prop} (R3 : RepSl eTriple I p1 c2 a0) (hd : law07_Few a0 Q) :
    PFun Tryz.prog 9 [.slice p1 a0.length c2] I (fun I_ v => ∃ r p4 c5, v = .slice p4 r.length c5 ∧ RepSl eTriple I_ p4 c5 r ∧ Q r) := by
  refine Fun.enter Tryz.func9 rfl Tryz.ntmps9 rfl (.c .n) fun w0 M => ?_
  refine .seq ?_
  refine .region ?_
  refine .skips 1 rfl ?_
  refine .nil' fun c w ho hs => Cod.at (E := [(0, _)]) (ho.sub ⟨rfl, trivial⟩) hs ?_
  refine .seq ?_
  refine .seq ?_
  refine .region ?_
  refine .skips 1 rfl ?_
  refine .len Tryz.underlying24 rfl rfl rfl rfl ?_
  refine .gt rfl rfl rfl rfl ?_
  refine .nil' fun c w ho hs => Cod.at (E := [(0, _), (5, _)]) (ho.sub ⟨rfl, rfl, trivial⟩) hs ?_
  refine .cond rfl (fun hb7 => ?_) (fun hb7 => ?_)
  · have hd := hd.1 hb7
    refine .region ?_
    refine .skips 1 rfl ?_
    obtain ⟨h8, h9, h10, hd⟩ := hd
    have h16 : Int.toNat 0 ≤ Int.toNat 60 := by omega
    have h17 : Int.toNat 60 ≤ a0.length := by omega
    obtain ⟨p11, c12, e14, e15, R13⟩ := RepSl.sliceW R3 (Int.toNat 0) (Int.toNat 60) c2 h16 h17 (.inl rfl)
    refine .sliceW (L := Int.toNat 0) (H := Int.toNat 60) (cm := c2) Tryz.underlying24 Tryz.sizeOf60 rfl rfl R3.1 rfl rfl rfl (.inl ⟨rfl, rfl⟩) (.inr ⟨_, _, rfl, (by omega), rfl⟩) (.inl rfl) h16 h17 rfl e14 e15 rfl rfl ?_
    refine .sub (E' := [(5, _), (6, _), (7, _)]) ⟨rfl, rfl, rfl, trivial⟩ ?_
    refine .skips 1 rfl ?_
    refine .nil' fun c w ho hs => Cod.at (E := [(0, _)]) (ho.sub ⟨rfl, trivial⟩) hs ?_
    refine .seq ?_
    refine .region ?_
    refine .skips 2 rfl ?_
    refine .nil' fun c w ho hs => Cod.at (E := [(2, _)]) (ho.sub ⟨rfl, trivial⟩) hs ?_
    exact .ret (pret Tryz.results9 (.t rfl .n) (.refl _) ⟨((a0.take (Int.toNat 60)).drop (Int.toNat 0)), _, _, rfl, R13, hd⟩)
  · have hd := hd.2 hb7
    refine .skip' fun c w ho hs => Cod.at (E := [(0, _)]) (ho.sub ⟨rfl, trivial⟩) hs ?_
    refine .seq ?_
    refine .region ?_
    refine .skips 2 rfl ?_
    refine .nil' fun c w ho hs => Cod.at (E := [(2, _)]) (ho.sub ⟨rfl, trivial⟩) hs ?_
    exact .ret (pret Tryz.results9 (.t rfl .n) (.refl _) ⟨a0, _, _, rfl, R3, hd⟩)

theorem W_ref02_Is {I : IH} {a0 : Int}  {Q : Bool → Prop}  (hd : ref02_Is a0 Q) :
    PFun Tryz.prog 35 [.int .i64 a0] I (fun I_ v => ∃ r, v = .bool r ∧ Q r) := by
  refine Fun.enter Tryz.func35 rfl Tryz.ntmps35 rfl (.c .n) fun w0 M => ?_
  refine .seq ?_
  refine .region ?_
  refine .skips 1 rfl ?_
  refine .nil' fun c w ho hs => Cod.at (E := [(0, _)]) (ho.sub ⟨rfl, trivial⟩) hs ?_
  refine .seq ?_
  refine .region ?_
  refine .skips 1 rfl ?_
  refine .ge rfl rfl rfl rfl ?_
  refine .skips 1 rfl ?_
  refine split (decide (1 ≤ a0)) (fun hb1 => ?_) (fun hb1 => ?_)
  · have hd := hd.1 hb1
    rw [hb1]
    refine .gyes rfl rfl rfl (.move rfl rfl rfl ?_)
    refine .gyes rfl rfl rfl (.le' rfl rfl rfl rfl ?_)
    refine .skips 2 rfl ?_
    refine .nil' fun c w ho hs => Cod.at (E := [(2, _)]) (ho.sub ⟨rfl, trivial⟩) hs ?_
    exact .ret (pret Tryz.results35 (.t rfl .n) (.refl _) ⟨(decide (a0 ≤ 5)), rfl, hd⟩)
  · have hd := hd.2 hb1
    rw [hb1]
    refine .skips 4 rfl ?_
    refine .nil' fun c w ho hs => Cod.at (E := [(2, _)]) (ho.sub ⟨rfl, trivial⟩) hs ?_
    exact .ret (pret Tryz.results35 (.t rfl .n) (.refl _) ⟨false, rfl, hd⟩)

theorem W_ref05_below {I : IH} {a0 : Edge} {a1 : Edge}  {Q : Bool → Prop}  (hd : ref05_below a0 a1 Q) :
    PFun Tryz.prog 66 [.agg (encEdge a0).toArray, .agg (encEdge a1).toArray] I (fun I_ v => ∃ r, v = .bool r ∧ Q r) := by
  refine Fun.enter Tryz.func66 rfl Tryz.ntmps66 rfl (.c (.c .n)) fun w0 M => ?_
  refine .seq ?_
  refine .region ?_
  refine .boxA rfl rfl rfl fun b5 => ?_
  refine .boxA rfl rfl rfl fun b7 => ?_
  refine .skips 1 rfl ?_
  refine .nil' fun c w ho hs => Cod.at (E := [(2, _), (3, _)]) (ho.sub ⟨rfl, rfl, trivial⟩) hs ?_
  refine .seq ?_
  refine .region ?_
  refine .fieldAddr Tryz.underlying55 rfl Tryz.sizeOf3 rfl (o := 0) rfl rfl rfl ?_
  refine .load1 Tryz.isAgg3 rfl (.s .z) rfl rfl rfl ?_
  refine .fieldAddr Tryz.underlying55 rfl Tryz.sizeOf3 rfl (o := 0) rfl rfl rfl ?_
  refine .load1 Tryz.isAgg3 rfl .z rfl rfl rfl ?_
  refine .lt rfl rfl rfl rfl ?_
  refine .skips 1 rfl ?_
  refine split (decide (a0.From < a1.From)) (fun hb9 => ?_) (fun hb9 => ?_)
  · have hd := hd.1 hb9
    rw [hb9]
    refine .skips 6 rfl ?_
    refine .gnoU rfl rfl rfl rfl ?_
    refine .gnoU rfl rfl rfl rfl ?_
    refine .gnoU rfl rfl rfl rfl ?_
    refine .gnoU rfl rfl rfl rfl ?_
    refine .gnoU rfl rfl rfl rfl ?_
    refine .skips 3 rfl ?_
    refine .nil' fun c w ho hs => Cod.at (E := [(4, _)]) (ho.sub ⟨rfl, trivial⟩) hs ?_
    refine .drop .z ?_
    refine .drop .z ?_
    exact .ret (pret Tryz.results66 (.t rfl .n) (.refl _) ⟨true, rfl, hd⟩)
  · have hd := hd.2 hb9
    rw [hb9]
    refine .gyes rfl rfl rfl (.fieldAddr Tryz.underlying55 rfl Tryz.sizeOf3 rfl (o := 0) rfl rfl rfl ?_)
    refine .gyes rfl rfl rfl (.load1 Tryz.isAgg3 rfl (.s .z) rfl rfl rfl ?_)
    refine .gyes rfl rfl rfl (.fieldAddr Tryz.underlying55 rfl Tryz.sizeOf3 rfl (o := 0) rfl rfl rfl ?_)
    refine .gyes rfl rfl rfl (.load1 Tryz.isAgg3 rfl .z rfl rfl rfl ?_)
    refine .gyes rfl rfl rfl (.eq rfl rfl rfl rfl ?_)
    refine .gyes rfl rfl rfl (.move rfl rfl rfl ?_)
    refine split (a0.From == a1.From) (fun hb10 => ?_) (fun hb10 => ?_)
    · have hd := hd.1 hb10
      rw [hb10]
      refine .gyes rfl rfl rfl (.fieldAddr Tryz.underlying55 rfl Tryz.sizeOf3 rfl (o := 1) rfl rfl rfl ?_)
      refine .gyes rfl rfl rfl (.load1 Tryz.isAgg3 rfl (.s .z) rfl rfl rfl ?_)
      refine .gyes rfl rfl rfl (.fieldAddr Tryz.underlying55 rfl Tryz.sizeOf3 rfl (o := 1) rfl rfl rfl ?_)
      refine .gyes rfl rfl rfl (.load1 Tryz.isAgg3 rfl .z rfl rfl rfl ?_)
      refine .gyes rfl rfl rfl (.lt rfl rfl rfl rfl ?_)
      refine .gyes rfl rfl rfl (.pickT rfl rfl rfl rfl rfl ?_)
      refine .skips 2 rfl ?_
      refine .nil' fun c w ho hs => Cod.at (E := [(4, _)]) (ho.sub ⟨rfl, trivial⟩) hs ?_
      refine .drop .z ?_
      refine .drop .z ?_
      exact .ret (pret Tryz.results66 (.t rfl .n) (.refl _) ⟨(decide (a0.To < a1.To)), rfl, hd⟩)
    · have hd := hd.2 hb10
      rw [hb10]
      refine .skips 5 rfl ?_
      refine .gyes rfl rfl rfl (.pickF rfl rfl rfl rfl rfl ?_)
      refine .skips 2 rfl ?_
      refine .nil' fun c w ho hs => Cod.at (E := [(4, _)]) (ho.sub ⟨rfl, trivial⟩) hs ?_
      refine .drop .z ?_
      refine .drop .z ?_
      exact .ret (pret Tryz.results66 (.t rfl .n) (.refl _) ⟨false, rfl, hd⟩)

theorem W_ref01_Of {I : IH} {a0 : Int}  {Q : Wide → Prop}  (hd : ref01_Of a0 Q) :
    PFun Tryz.prog 67 [.int .i64 a0] I (fun I_ v => ∃ r, v = .agg (encWide r).toArray ∧ Q r) := by
  refine Fun.enter Tryz.func67 rfl Tryz.ntmps67 rfl (.c .n) fun w0 M => ?_
  refine .seq ?_
  refine .region ?_
  refine .allocA Tryz.zeroValue94 rfl rfl fun b3 => ?_
  refine .nil' fun c w ho hs => Cod.at (E := [(0, _), (2, _)]) (ho.sub ⟨rfl, rfl, trivial⟩) hs ?_
  refine .seq ?_
  refine .seq ?_
  refine .region ?_
  refine .skips 1 rfl ?_
  refine .lt rfl rfl rfl rfl ?_
  refine .nil' fun c w ho hs => Cod.at (E := [(0, _), (2, _), (4, _)]) (ho.sub ⟨rfl, rfl, rfl, trivial⟩) hs ?_
  refine .cond rfl (fun hb5 => ?_) (fun hb5 => ?_)
  · have hd := hd.1 hb5
    refine .seq ?_
    refine .region ?_
    refine .skips 1 rfl ?_
    refine .conv Tryz.underlying2 Tryz.underlying92 rfl rfl rfl ?_
    refine .build Tryz.zeroValue94 Tryz.underlying94 BI94 (.c rfl rfl rfl (.t .nil) (.c rfl rfl rfl (.s (.t .nil)) .n)) (by exact ⟨⟨_, _, rfl, rfl, rfl⟩, ⟨⟨_, _, rfl, rfl, rfl⟩, trivial⟩⟩) rfl rfl ?_
    refine .storeA Tryz.sizeOf94 rfl rfl .z (.t (.t .nil)) rfl rfl ?_
    refine .nil' fun c w ho hs => Cod.at (E := [(2, _)]) (ho.sub ⟨rfl, trivial⟩) hs ?_
    exact .ret (pret Tryz.results67 (.w Tryz.isAgg94 Tryz.sizeOf94 rfl .z rfl .n) (.refl _) ⟨({ Hi := (-1), Lo := IntKind.wrap .u64 (a0) } : Wide), rfl, hd⟩)
  · have hd := hd.2 hb5
    refine .skip' fun c w ho hs => Cod.at (E := [(0, _), (2, _)]) (ho.sub ⟨rfl, rfl, trivial⟩) hs ?_
    refine .seq ?_
    refine .region ?_
    refine .skips 1 rfl ?_
    refine .conv Tryz.underlying2 Tryz.underlying92 rfl rfl rfl ?_
    refine .build Tryz.zeroValue94 Tryz.underlying94 BI94 (.c rfl rfl rfl (.s (.t .nil)) .n) (by exact ⟨⟨_, _, rfl, rfl, rfl⟩, trivial⟩) rfl rfl ?_
    refine .storeA Tryz.sizeOf94 rfl rfl .z (.t (.t .nil)) rfl rfl ?_
    refine .nil' fun c w ho hs => Cod.at (E := [(2, _)]) (ho.sub ⟨rfl, trivial⟩) hs ?_
    exact .ret (pret Tryz.results67 (.w Tryz.isAgg94 Tryz.sizeOf94 rfl .z rfl .n) (.refl _) ⟨({ Hi := 0, Lo := IntKind.wrap .u64 (a0) } : Wide), rfl, hd⟩)

theorem W_ref01_Compare {I : IH} {a0 : Wide} {a1 : Wide}  {Q : Int → Prop}  (hd : ref01_Compare a0 a1 Q) :
    PFun Tryz.prog 86 [.agg (encWide a0).toArray, .agg (encWide a1).toArray] I (fun I_ v => ∃ r, v = .int .i64 r ∧ Q r) := by
  refine Fun.enter Tryz.func86 rfl Tryz.ntmps86 rfl (.c (.c .n)) fun w0 M => ?_
  refine .seq ?_
  refine .region ?_
  refine .boxA rfl rfl rfl fun b5 => ?_
  refine .boxA rfl rfl rfl fun b7 => ?_
  refine .skips 1 rfl ?_
  refine .nil' fun c w ho hs => Cod.at (E := [(2, _), (3, _)]) (ho.sub ⟨rfl, rfl, trivial⟩) hs ?_
  refine .seq ?_
  refine Cod.joinQ (σ := Unit) hd (fun (_ : Unit) c w => ∃ I_, IH.le I I_ ∧ Ok 27 [(2, .pointer (some ⟨b5, 0, none⟩)), (3, .pointer (some ⟨b7, 0, none⟩))] c ∧ Sym w0 M I I_ [pto b5 (.cells #[.int .i64 a0.Hi, .int .u64 a0.Lo] 94 (0, 0)), pto b7 (.cells #[.int .i64 a1.Hi, .int .u64 a1.Lo] 94 (0, 0))] w) (fun k15 hd => ?_) ?_
  · skip
    refine .seq ?_
    refine .region ?_
    refine .fieldAddr Tryz.underlying94 rfl Tryz.sizeOf2 rfl (o := 0) rfl rfl rfl ?_
    refine .load1 Tryz.isAgg2 rfl (.s .z) rfl rfl rfl ?_
    refine .fieldAddr Tryz.underlying94 rfl Tryz.sizeOf2 rfl (o := 0) rfl rfl rfl ?_
    refine .load1 Tryz.isAgg2 rfl .z rfl rfl rfl ?_
    refine .lt rfl rfl rfl rfl ?_
    refine .skips 1 rfl ?_
    refine split (decide (a0.Hi < a1.Hi)) (fun hb16 => ?_) (fun hb16 => ?_)
    · have hd := hd.1 hb16
      rw [hb16]
      refine .skips 6 rfl ?_
      refine .gnoU rfl rfl rfl rfl ?_
      refine .gnoU rfl rfl rfl rfl ?_
      refine .gnoU rfl rfl rfl rfl ?_
      refine .gnoU rfl rfl rfl rfl ?_
      refine .gnoU rfl rfl rfl rfl ?_
      refine .skips 2 rfl ?_
      refine .nil' fun c w ho hs => Cod.at (E := [(2, _), (3, _), (23, _)]) (ho.sub ⟨rfl, rfl, rfl, trivial⟩) hs ?_
      refine .condKT rfl rfl ?_
      refine .seq ?_
      refine .region ?_
      refine .skips 1 rfl ?_
      refine .nil' fun c w ho hs => Cod.at (E := [(4, _)]) (ho.sub ⟨rfl, trivial⟩) hs ?_
      refine .drop .z ?_
      refine .drop .z ?_
      exact .ret (pret Tryz.results86 (.t rfl .n) (.refl _) ⟨(-1), rfl, hd⟩)
    · have hd := hd.2 hb16
      rw [hb16]
      refine .gyes rfl rfl rfl (.fieldAddr Tryz.underlying94 rfl Tryz.sizeOf2 rfl (o := 0) rfl rfl rfl ?_)
      refine .gyes rfl rfl rfl (.load1 Tryz.isAgg2 rfl (.s .z) rfl rfl rfl ?_)
      refine .gyes rfl rfl rfl (.fieldAddr Tryz.underlying94 rfl Tryz.sizeOf2 rfl (o := 0) rfl rfl rfl ?_)
      refine .gyes rfl rfl rfl (.load1 Tryz.isAgg2 rfl .z rfl rfl rfl ?_)
      refine .gyes rfl rfl rfl (.eq rfl rfl rfl rfl ?_)
      refine .gyes rfl rfl rfl (.move rfl rfl rfl ?_)
      refine split (a0.Hi == a1.Hi) (fun hb17 => ?_) (fun hb17 => ?_)
      · have hd := hd.1 hb17
        rw [hb17]
        refine .gyes rfl rfl rfl (.fieldAddr Tryz.underlying94 rfl Tryz.sizeOf92 rfl (o := 1) rfl rfl rfl ?_)
        refine .gyes rfl rfl rfl (.load1 Tryz.isAgg92 rfl (.s .z) rfl rfl rfl ?_)
        refine .gyes rfl rfl rfl (.fieldAddr Tryz.underlying94 rfl Tryz.sizeOf92 rfl (o := 1) rfl rfl rfl ?_)
        refine .gyes rfl rfl rfl (.load1 Tryz.isAgg92 rfl .z rfl rfl rfl ?_)
        refine .gyes rfl rfl rfl (.lt rfl rfl rfl rfl ?_)
        refine .gyes rfl rfl rfl (.pickT rfl rfl rfl rfl rfl ?_)
        refine .skips 1 rfl ?_
        refine .nil' fun c w ho hs => Cod.at (E := [(2, _), (3, _), (23, _)]) (ho.sub ⟨rfl, rfl, rfl, trivial⟩) hs ?_
        refine .cond rfl (fun hb18 => ?_) (fun hb18 => ?_)
        · have hd := hd.1 hb18
          refine .seq ?_
          refine .region ?_
          refine .skips 1 rfl ?_
          refine .nil' fun c w ho hs => Cod.at (E := [(4, _)]) (ho.sub ⟨rfl, trivial⟩) hs ?_
          refine .drop .z ?_
          refine .drop .z ?_
          exact .ret (pret Tryz.results86 (.t rfl .n) (.refl _) ⟨(-1), rfl, hd⟩)
        · have hd := hd.2 hb18
          exact .skip' fun c w ho hs => ⟨(), hd, I, (.refl _), ho.sub ⟨rfl, rfl, trivial⟩, hs.pick (.c (.s .z) (.c .z .n))⟩
      · have hd := hd.2 hb17
        rw [hb17]
        refine .skips 5 rfl ?_
        refine .gyes rfl rfl rfl (.pickF rfl rfl rfl rfl rfl ?_)
        refine .skips 1 rfl ?_
        refine .nil' fun c w ho hs => Cod.at (E := [(2, _), (3, _), (23, _)]) (ho.sub ⟨rfl, rfl, rfl, trivial⟩) hs ?_
        refine .condKF rfl rfl ?_
        exact .skip' fun c w ho hs => ⟨(), hd, I, (.refl _), ho.sub ⟨rfl, rfl, trivial⟩, hs.pick (.c (.s .z) (.c .z .n))⟩
  · rintro ⟨⟩ hd c w hst
    obtain ⟨I19, hl20, hok, hsym⟩ := hst
    have le21 := IH.le.trans (.refl _) hl20
    refine Cod.at hok hsym ?_
    refine .seq ?_
    refine .seq ?_
    refine .region ?_
    refine .loadW Tryz.isAgg94 Tryz.sizeOf94 rfl .z rfl rfl rfl ?_
    refine .loadW Tryz.isAgg94 Tryz.sizeOf94 rfl (.s .z) rfl rfl rfl ?_
    refine .eqV rfl rfl (EQ94 a0 a1) (EG94 _ _ _ _ _) rfl rfl rfl ?_
    refine .nil' fun c w ho hs => Cod.at (E := [(26, _)]) (ho.sub ⟨rfl, trivial⟩) hs ?_
    refine .drop .z ?_
    refine .drop .z ?_
    refine .cond rfl (fun hb22 => ?_) (fun hb22 => ?_)
    · have hd := hd.1 hb22
      refine .seq ?_
      refine .region ?_
      refine .skips 1 rfl ?_
      refine .nil' fun c w ho hs => Cod.at (E := [(4, _)]) (ho.sub ⟨rfl, trivial⟩) hs ?_
      exact .ret (pret Tryz.results86 (.t rfl .n) le21 ⟨0, rfl, hd⟩)
    · have hd := hd.2 hb22
      refine .skip' fun c w ho hs => Cod.at (E := []) (ho.sub trivial) hs ?_
      refine .seq ?_
      refine .region ?_
      refine .skips 1 rfl ?_
      refine .nil' fun c w ho hs => Cod.at (E := [(4, _)]) (ho.sub ⟨rfl, trivial⟩) hs ?_
      exact .ret (pret Tryz.results86 (.t rfl .n) le21 ⟨1, rfl, hd⟩)

theorem W_ref02_truth {I : IH} {a0 : Bool}  {Q : Wide → Prop}  (hd : ref02_truth a0 Q) :
    PFun Tryz.prog 87 [.bool a0] I (fun I_ v => ∃ r, v = .agg (encWide r).toArray ∧ Q r) := by
  refine Fun.enter Tryz.func87 rfl Tryz.ntmps87 rfl (.c .n) fun w0 M => ?_
  refine .seq ?_
  refine .region ?_
  refine .allocA Tryz.zeroValue94 rfl rfl fun b3 => ?_
  refine .nil' fun c w ho hs => Cod.at (E := [(0, _), (2, _)]) (ho.sub ⟨rfl, rfl, trivial⟩) hs ?_
  refine .seq ?_
  refine .seq ?_
  refine .region ?_
  refine .skips 1 rfl ?_
  refine .nil' fun c w ho hs => Cod.at (E := [(2, _), (3, _)]) (ho.sub ⟨rfl, rfl, trivial⟩) hs ?_
  refine .cond rfl (fun hb5 => ?_) (fun hb5 => ?_)
  · have hd := hd.1 hb5
    refine .seq ?_
    refine .region ?_
    refine .build Tryz.zeroValue94 Tryz.underlying94 BI94 (.c rfl rfl rfl (.s (.t .nil)) .n) (by exact ⟨⟨_, _, rfl, rfl, rfl⟩, trivial⟩) rfl rfl ?_
    refine .storeA Tryz.sizeOf94 rfl rfl .z (.t (.t .nil)) rfl rfl ?_
    refine .nil' fun c w ho hs => Cod.at (E := [(2, _)]) (ho.sub ⟨rfl, trivial⟩) hs ?_
    exact .ret (pret Tryz.results87 (.w Tryz.isAgg94 Tryz.sizeOf94 rfl .z rfl .n) (.refl _) ⟨({ Hi := 0, Lo := 1 } : Wide), rfl, hd⟩)
  · have hd := hd.2 hb5
    refine .skip' fun c w ho hs => Cod.at (E := [(2, _)]) (ho.sub ⟨rfl, trivial⟩) hs ?_
    refine .seq ?_
    refine .region ?_
    refine .build Tryz.zeroValue94 Tryz.underlying94 BI94 .n (by exact trivial) rfl rfl ?_
    refine .storeA Tryz.sizeOf94 rfl rfl .z (.t (.t .nil)) rfl rfl ?_
    refine .nil' fun c w ho hs => Cod.at (E := [(2, _)]) (ho.sub ⟨rfl, trivial⟩) hs ?_
    exact .ret (pret Tryz.results87 (.w Tryz.isAgg94 Tryz.sizeOf94 rfl .z rfl .n) (.refl _) ⟨({ Hi := 0, Lo := 0 } : Wide), rfl, hd⟩)

theorem W_ref01_Add {I : IH} {a0 : Wide} {a1 : Wide}  {Q : Wide → Prop}  (hd : ref01_Add a0 a1 Q) :
    PFun Tryz.prog 88 [.agg (encWide a0).toArray, .agg (encWide a1).toArray] I (fun I_ v => ∃ r, v = .agg (encWide r).toArray ∧ Q r) := by
  refine Fun.enter Tryz.func88 rfl Tryz.ntmps88 rfl (.c (.c .n)) fun w0 M => ?_
  refine .seq ?_
  refine .region ?_
  refine .boxA rfl rfl rfl fun b7 => ?_
  refine .boxA rfl rfl rfl fun b9 => ?_
  refine .allocA Tryz.zeroValue94 rfl rfl fun b11 => ?_
  refine .nil' fun c w ho hs => Cod.at (E := [(2, _), (3, _), (4, _)]) (ho.sub ⟨rfl, rfl, rfl, trivial⟩) hs ?_
  refine .seq ?_
  refine .region ?_
  refine .fieldAddr Tryz.underlying94 rfl Tryz.sizeOf92 rfl (o := 1) rfl rfl rfl ?_
  refine .load1 Tryz.isAgg92 rfl (.s (.s .z)) rfl rfl rfl ?_
  refine .fieldAddr Tryz.underlying94 rfl Tryz.sizeOf92 rfl (o := 1) rfl rfl rfl ?_
  refine .load1 Tryz.isAgg92 rfl (.s .z) rfl rfl rfl ?_
  refine .add rfl rfl rfl rfl ?_
  refine .skips 1 rfl ?_
  refine .nil' fun c w ho hs => Cod.at (E := [(2, _), (3, _), (4, _), (5, _)]) (ho.sub ⟨rfl, rfl, rfl, rfl, trivial⟩) hs ?_
  refine .seq ?_
  refine .region ?_
  refine .fieldAddr Tryz.underlying94 rfl Tryz.sizeOf2 rfl (o := 0) rfl rfl rfl ?_
  refine .load1 Tryz.isAgg2 rfl (.s (.s .z)) rfl rfl rfl ?_
  refine .fieldAddr Tryz.underlying94 rfl Tryz.sizeOf2 rfl (o := 0) rfl rfl rfl ?_
  refine .load1 Tryz.isAgg2 rfl (.s .z) rfl rfl rfl ?_
  refine .add rfl rfl rfl rfl ?_
  refine .skips 1 rfl ?_
  refine .nil' fun c w ho hs => Cod.at (E := [(2, _), (4, _), (5, _), (6, _)]) (ho.sub ⟨rfl, rfl, rfl, rfl, trivial⟩) hs ?_
  refine .drop (.s .z) ?_
  refine .seq ?_
  refine .seq ?_
  refine .region ?_
  refine .skips 1 rfl ?_
  refine .fieldAddr Tryz.underlying94 rfl Tryz.sizeOf92 rfl (o := 1) rfl rfl rfl ?_
  refine .load1 Tryz.isAgg92 rfl (.s .z) rfl rfl rfl ?_
  refine .lt rfl rfl rfl rfl ?_
  refine .nil' fun c w ho hs => Cod.at (E := [(4, _), (5, _), (6, _), (20, _)]) (ho.sub ⟨rfl, rfl, rfl, rfl, trivial⟩) hs ?_
  refine .drop (.s .z) ?_
  refine .cond rfl (fun hb13 => ?_) (fun hb13 => ?_)
  · have hd := hd.1 hb13
    refine .region ?_
    refine .skips 1 rfl ?_
    refine .add rfl rfl rfl rfl ?_
    refine .sub (E' := [(4, _), (5, _), (20, _), (21, _), (22, _)]) ⟨rfl, rfl, rfl, rfl, rfl, trivial⟩ ?_
    refine .skips 1 rfl ?_
    refine .nil' fun c w ho hs => Cod.at (E := [(4, _), (5, _), (6, _)]) (ho.sub ⟨rfl, rfl, rfl, trivial⟩) hs ?_
    refine .seq ?_
    refine .region ?_
    refine .skips 2 rfl ?_
    refine .build Tryz.zeroValue94 Tryz.underlying94 BI94 (.c rfl rfl rfl (.t .nil) (.c rfl rfl rfl (.s (.t .nil)) .n)) (by exact ⟨⟨_, _, rfl, rfl, rfl⟩, ⟨⟨_, _, rfl, rfl, rfl⟩, trivial⟩⟩) rfl rfl ?_
    refine .storeA Tryz.sizeOf94 rfl rfl .z (.t (.t .nil)) rfl rfl ?_
    refine .nil' fun c w ho hs => Cod.at (E := [(4, _)]) (ho.sub ⟨rfl, trivial⟩) hs ?_
    exact .ret (pret Tryz.results88 (.w Tryz.isAgg94 Tryz.sizeOf94 rfl .z rfl .n) (.refl _) ⟨({ Hi := w64 ((w64 (a0.Hi + a1.Hi)) + 1), Lo := IntKind.wrap .u64 (a0.Lo + a1.Lo) } : Wide), rfl, hd⟩)
  · have hd := hd.2 hb13
    refine .skip' fun c w ho hs => Cod.at (E := [(4, _), (5, _), (6, _)]) (ho.sub ⟨rfl, rfl, rfl, trivial⟩) hs ?_
    refine .seq ?_
    refine .region ?_
    refine .skips 2 rfl ?_
    refine .build Tryz.zeroValue94 Tryz.underlying94 BI94 (.c rfl rfl rfl (.t .nil) (.c rfl rfl rfl (.s (.t .nil)) .n)) (by exact ⟨⟨_, _, rfl, rfl, rfl⟩, ⟨⟨_, _, rfl, rfl, rfl⟩, trivial⟩⟩) rfl rfl ?_
    refine .storeA Tryz.sizeOf94 rfl rfl .z (.t (.t .nil)) rfl rfl ?_
    refine .nil' fun c w ho hs => Cod.at (E := [(4, _)]) (ho.sub ⟨rfl, trivial⟩) hs ?_
    exact .ret (pret Tryz.results88 (.w Tryz.isAgg94 Tryz.sizeOf94 rfl .z rfl .n) (.refl _) ⟨({ Hi := w64 (a0.Hi + a1.Hi), Lo := IntKind.wrap .u64 (a0.Lo + a1.Lo) } : Wide), rfl, hd⟩)

theorem W_ref02_Add {I : IH} {a0 : Int} {a1 : Wide} {a2 : Wide}  {Q : Wide → Prop}  (hd : ref02_Add a0 a1 a2 Q) :
    PFun Tryz.prog 68 [.int .i64 a0, .agg (encWide a1).toArray, .agg (encWide a2).toArray] I (fun I_ v => ∃ r, v = .agg (encWide r).toArray ∧ Q r) := by
  refine Fun.enter Tryz.func68 rfl Tryz.ntmps68 rfl (.c (.c (.c .n))) fun w0 M => ?_
  refine .seq ?_
  refine .region ?_
  refine .boxA rfl rfl rfl fun b7 => ?_
  refine .boxA rfl rfl rfl fun b9 => ?_
  refine .allocA Tryz.zeroValue94 rfl rfl fun b11 => ?_
  refine .nil' fun c w ho hs => Cod.at (E := [(0, _), (4, _), (5, _), (6, _)]) (ho.sub ⟨rfl, rfl, rfl, rfl, trivial⟩) hs ?_
  refine .seq ?_
  refine .region ?_
  refine .skips 1 rfl ?_
  refine .nil' fun c w ho hs => Cod.at (E := [(4, _), (5, _), (6, _), (7, _)]) (ho.sub ⟨rfl, rfl, rfl, rfl, trivial⟩) hs ?_
  refine .block ?_
  refine .seq ?_
  refine Cod.joinQ (σ := Bool) hd (fun (s17 : Bool) c w => ∃ I_, IH.le I I_ ∧ Ok 35 [(4, .pointer (some ⟨b7, 0, none⟩)), (5, .pointer (some ⟨b9, 0, none⟩)), (6, .pointer (some ⟨b11, 0, none⟩)), (7, .int .i64 a0), (9, .bool s17)] c ∧ Sym w0 M I I_ [pto b7 (.cells #[.int .i64 a1.Hi, .int .u64 a1.Lo] 94 (0, 0)), pto b9 (.cells #[.int .i64 a2.Hi, .int .u64 a2.Lo] 94 (0, 0)), pto b11 (.cells #[.int .i64 0, .int .u64 0] 94 (0, 0))] w) (fun k18 hd => ?_) ?_
  · skip
    refine .seq ?_
    refine .region ?_
    refine .eq rfl rfl rfl rfl ?_
    refine .skips 1 rfl ?_
    refine .nil' fun c w ho hs => Cod.at (E := [(4, _), (5, _), (6, _), (7, _), (9, _)]) (ho.sub ⟨rfl, rfl, rfl, rfl, rfl, trivial⟩) hs ?_
    refine .cond rfl (fun hb19 => ?_) (fun hb19 => ?_)
    · have hd := hd.1 hb19
      exact .skip' fun c w ho hs => ⟨(a0 == 1), hd, I, (.refl _), ho.sub ⟨rfl, rfl, rfl, rfl, rfl, trivial⟩, hs.pick (.c (.s (.s .z)) (.c (.s .z) (.c .z .n)))⟩
    · have hd := hd.2 hb19
      refine .seq ?_
      refine .region ?_
      refine .eq rfl rfl rfl rfl ?_
      refine .sub (E' := [(4, _), (5, _), (6, _), (7, _), (11, _)]) ⟨rfl, rfl, rfl, rfl, rfl, trivial⟩ ?_
      refine .skips 1 rfl ?_
      refine .nil' fun c w ho hs => Cod.at (E := [(4, _), (5, _), (6, _), (7, _), (9, _)]) (ho.sub ⟨rfl, rfl, rfl, rfl, rfl, trivial⟩) hs ?_
      refine .cond rfl (fun hb20 => ?_) (fun hb20 => ?_)
      · have hd := hd.1 hb20
        exact .skip' fun c w ho hs => ⟨(a0 == 3), hd, I, (.refl _), ho.sub ⟨rfl, rfl, rfl, rfl, rfl, trivial⟩, hs.pick (.c (.s (.s .z)) (.c (.s .z) (.c .z .n)))⟩
      · have hd := hd.2 hb20
        refine .region ?_
        refine .eq rfl rfl rfl rfl ?_
        refine .sub (E' := [(4, _), (5, _), (6, _), (7, _), (12, _)]) ⟨rfl, rfl, rfl, rfl, rfl, trivial⟩ ?_
        refine .skips 1 rfl ?_
        exact .nil' fun c w ho hs => ⟨(a0 == 4), hd, I, (.refl _), ho.sub ⟨rfl, rfl, rfl, rfl, rfl, trivial⟩, hs.pick (.c (.s (.s .z)) (.c (.s .z) (.c .z .n)))⟩
  · rintro s17 hd c w hst
    obtain ⟨I21, hl22, hok, hsym⟩ := hst
    have le23 := IH.le.trans (.refl _) hl22
    refine Cod.at hok hsym ?_
    refine .cond rfl (fun hb24 => ?_) (fun hb24 => ?_)
    · have hd := hd.1 hb24
      refine .seq ?_
      refine .seq ?_
      refine .region ?_
      refine .loadW Tryz.isAgg94 Tryz.sizeOf94 rfl (.s .z) rfl rfl rfl ?_
      refine .loadW Tryz.isAgg94 Tryz.sizeOf94 rfl .z rfl rfl rfl ?_
      have hw31 := W_ref01_Compare (I := I21) hd
      refine .call Tryz.call86 rfl hw31 rfl rfl fun v29 I26 hl27 hv28 => ?_
      obtain ⟨r25, rfl, hd⟩ := hv28
      have le32 := IH.le.trans le23 hl27
      refine .lt rfl rfl rfl rfl ?_
      refine .nil' fun c w ho hs => Cod.at (E := [(4, _), (5, _), (6, _), (16, _)]) (ho.sub ⟨rfl, rfl, rfl, rfl, trivial⟩) hs ?_
      refine .cond rfl (fun hb33 => ?_) (fun hb33 => ?_)
      · have hd := hd.1 hb33
        refine .seq ?_
        refine .region ?_
        refine .loadW Tryz.isAgg94 Tryz.sizeOf94 rfl (.s .z) rfl rfl rfl ?_
        refine .storeA Tryz.sizeOf94 rfl rfl (.s (.s .z)) (.t (.t .nil)) rfl rfl ?_
        refine .nil' fun c w ho hs => Cod.at (E := [(6, _)]) (ho.sub ⟨rfl, trivial⟩) hs ?_
        refine .drop .z ?_
        refine .drop .z ?_
        exact .ret (pret Tryz.results68 (.w Tryz.isAgg94 Tryz.sizeOf94 rfl .z rfl .n) le32 ⟨a2, rfl, hd⟩)
      · have hd := hd.2 hb33
        refine .skip' fun c w ho hs => Cod.at (E := [(4, _), (6, _)]) (ho.sub ⟨rfl, rfl, trivial⟩) hs ?_
        refine .drop (.s .z) ?_
        refine .seq ?_
        refine .region ?_
        refine .loadW Tryz.isAgg94 Tryz.sizeOf94 rfl .z rfl rfl rfl ?_
        refine .storeA Tryz.sizeOf94 rfl rfl (.s .z) (.t (.t .nil)) rfl rfl ?_
        refine .nil' fun c w ho hs => Cod.at (E := [(6, _)]) (ho.sub ⟨rfl, trivial⟩) hs ?_
        refine .drop .z ?_
        exact .ret (pret Tryz.results68 (.w Tryz.isAgg94 Tryz.sizeOf94 rfl .z rfl .n) le32 ⟨a1, rfl, hd⟩)
    · have hd := hd.2 hb24
      refine .seq ?_
      refine .region ?_
      refine .eq rfl rfl rfl rfl ?_
      refine .skips 1 rfl ?_
      refine .nil' fun c w ho hs => Cod.at (E := [(4, _), (5, _), (6, _), (7, _), (19, _)]) (ho.sub ⟨rfl, rfl, rfl, rfl, rfl, trivial⟩) hs ?_
      refine .cond rfl (fun hb34 => ?_) (fun hb34 => ?_)
      · have hd := hd.1 hb34
        refine .seq ?_
        refine .region ?_
        refine .loadW Tryz.isAgg94 Tryz.sizeOf94 rfl .z rfl rfl rfl ?_
        refine .build Tryz.zeroValue94 Tryz.underlying94 BI94 .n (by exact trivial) rfl rfl ?_
        refine .neV rfl rfl (EQ94 a1 ({ Hi := 0, Lo := 0 } : Wide)) (EG94 _ _ _ _ _) rfl rfl rfl ?_
        refine .skips 1 rfl ?_
        refine split (!(a1 == ({ Hi := 0, Lo := 0 } : Wide))) (fun hb35 => ?_) (fun hb35 => ?_)
        · have hd := hd.1 hb35
          rw [hb35]
          refine .skips 4 rfl ?_
          have hw42 := W_ref02_truth (I := I21) hd
          refine .call Tryz.call87 rfl hw42 rfl rfl fun v40 I37 hl38 hv39 => ?_
          obtain ⟨r36, rfl, hd⟩ := hv39
          have le43 := IH.le.trans le23 hl38
          refine .storeA Tryz.sizeOf94 rfl rfl (.s (.s .z)) (.t (.t .nil)) rfl rfl ?_
          refine .nil' fun c w ho hs => Cod.at (E := [(6, _)]) (ho.sub ⟨rfl, trivial⟩) hs ?_
          refine .drop .z ?_
          refine .drop .z ?_
          exact .ret (pret Tryz.results68 (.w Tryz.isAgg94 Tryz.sizeOf94 rfl .z rfl .n) le43 ⟨r36, rfl, hd⟩)
        · have hd := hd.2 hb35
          rw [hb35]
          refine .gyes rfl rfl rfl (.loadW Tryz.isAgg94 Tryz.sizeOf94 rfl (.s .z) rfl rfl rfl ?_)
          refine .gyes rfl rfl rfl (.build Tryz.zeroValue94 Tryz.underlying94 BI94 .n (by exact trivial) rfl rfl ?_)
          refine .gyes rfl rfl rfl (.neV rfl rfl (EQ94 a2 ({ Hi := 0, Lo := 0 } : Wide)) (EG94 _ _ _ _ _) rfl rfl rfl ?_)
          refine .skips 1 rfl ?_
          have hw50 := W_ref02_truth (I := I21) hd
          refine .call Tryz.call87 rfl hw50 rfl rfl fun v48 I45 hl46 hv47 => ?_
          obtain ⟨r44, rfl, hd⟩ := hv47
          have le51 := IH.le.trans le23 hl46
          refine .storeA Tryz.sizeOf94 rfl rfl (.s (.s .z)) (.t (.t .nil)) rfl rfl ?_
          refine .nil' fun c w ho hs => Cod.at (E := [(6, _)]) (ho.sub ⟨rfl, trivial⟩) hs ?_
          refine .drop .z ?_
          refine .drop .z ?_
          exact .ret (pret Tryz.results68 (.w Tryz.isAgg94 Tryz.sizeOf94 rfl .z rfl .n) le51 ⟨r44, rfl, hd⟩)
      · have hd := hd.2 hb34
        refine .seq ?_
        refine .region ?_
        refine .eq rfl rfl rfl rfl ?_
        refine .skips 1 rfl ?_
        refine .nil' fun c w ho hs => Cod.at (E := [(4, _), (5, _), (6, _), (30, _)]) (ho.sub ⟨rfl, rfl, rfl, rfl, trivial⟩) hs ?_
        refine .cond rfl (fun hb52 => ?_) (fun hb52 => ?_)
        · have hd := hd.1 hb52
          refine .seq ?_
          refine .region ?_
          refine .loadW Tryz.isAgg94 Tryz.sizeOf94 rfl .z rfl rfl rfl ?_
          refine .loadW Tryz.isAgg94 Tryz.sizeOf94 rfl (.s .z) rfl rfl rfl ?_
          have hw59 := W_ref01_Add (I := I21) hd
          refine .call Tryz.call88 rfl hw59 rfl rfl fun v57 I54 hl55 hv56 => ?_
          obtain ⟨r53, rfl, hd⟩ := hv56
          have le60 := IH.le.trans le23 hl55
          refine .storeA Tryz.sizeOf94 rfl rfl (.s (.s .z)) (.t (.t .nil)) rfl rfl ?_
          refine .nil' fun c w ho hs => Cod.at (E := [(6, _)]) (ho.sub ⟨rfl, trivial⟩) hs ?_
          refine .drop .z ?_
          refine .drop .z ?_
          exact .ret (pret Tryz.results68 (.w Tryz.isAgg94 Tryz.sizeOf94 rfl .z rfl .n) le60 ⟨r53, rfl, hd⟩)
        · have hd := hd.2 hb52
          refine .seq ?_
          refine .region ?_
          refine .build Tryz.zeroValue94 Tryz.underlying94 BI94 .n (by exact trivial) rfl rfl ?_
          refine .storeA Tryz.sizeOf94 rfl rfl (.s (.s .z)) (.t (.t .nil)) rfl rfl ?_
          refine .nil' fun c w ho hs => Cod.at (E := [(6, _)]) (ho.sub ⟨rfl, trivial⟩) hs ?_
          refine .drop .z ?_
          refine .drop .z ?_
          exact .ret (pret Tryz.results68 (.w Tryz.isAgg94 Tryz.sizeOf94 rfl .z rfl .n) le23 ⟨({ Hi := 0, Lo := 0 } : Wide), rfl, hd⟩)

theorem W_ref01_Narrow {I : IH} {a0 : Wide}  {Q : (Int × Bool) → Prop}  (hd : ref01_Narrow a0 Q) :
    PFun Tryz.prog 69 [.agg (encWide a0).toArray] I (fun I_ v => ∃ r, v = .tuple #[.int .i64 r.1, .bool r.2] ∧ Q r) := by
  refine Fun.enter Tryz.func69 rfl Tryz.ntmps69 rfl (.c .n) fun w0 M => ?_
  refine .seq ?_
  refine .region ?_
  refine .boxA rfl rfl rfl fun b3 => ?_
  refine .skips 2 rfl ?_
  refine .nil' fun c w ho hs => Cod.at (E := [(1, _)]) (ho.sub ⟨rfl, trivial⟩) hs ?_
  refine .seq ?_
  refine .region ?_
  refine .fieldAddr Tryz.underlying94 rfl Tryz.sizeOf92 rfl (o := 1) rfl rfl rfl ?_
  refine .load1 Tryz.isAgg92 rfl .z rfl rfl rfl ?_
  refine .conv Tryz.underlying92 Tryz.underlying2 rfl rfl rfl ?_
  refine .skips 1 rfl ?_
  refine .nil' fun c w ho hs => Cod.at (E := [(1, _), (4, _)]) (ho.sub ⟨rfl, rfl, trivial⟩) hs ?_
  refine .seq ?_
  refine .seq ?_
  refine .region ?_
  refine .fieldAddr Tryz.underlying94 rfl Tryz.sizeOf2 rfl (o := 0) rfl rfl rfl ?_
  refine .load1 Tryz.isAgg2 rfl .z rfl rfl rfl ?_
  refine .eq rfl rfl rfl rfl ?_
  refine .skips 1 rfl ?_
  refine split (a0.Hi == 0) (fun hb5 => ?_) (fun hb5 => ?_)
  · have hd := hd.1 hb5
    rw [hb5]
    refine .gyes rfl rfl rfl (.move rfl rfl rfl ?_)
    refine .gyes rfl rfl rfl (.ge rfl rfl rfl rfl ?_)
    refine .skips 2 rfl ?_
    refine split (decide (0 ≤ (w64 (a0.Lo)))) (fun hb6 => ?_) (fun hb6 => ?_)
    · have hd := hd.1 hb6
      rw [hb6]
      refine .skips 4 rfl ?_
      refine .gnoU rfl rfl rfl rfl ?_
      refine .gnoU rfl rfl rfl rfl ?_
      refine .skips 2 rfl ?_
      refine .nil' fun c w ho hs => Cod.at (E := [(4, _), (23, _)]) (ho.sub ⟨rfl, rfl, trivial⟩) hs ?_
      refine .drop .z ?_
      refine .condKT rfl rfl ?_
      refine .seq ?_
      refine .region ?_
      refine .skips 3 rfl ?_
      refine .nil' fun c w ho hs => Cod.at (E := [(2, _), (3, _)]) (ho.sub ⟨rfl, rfl, trivial⟩) hs ?_
      exact .ret (pret Tryz.results69 (.t rfl (.t rfl .n)) (.refl _) ⟨(w64 (a0.Lo), true), rfl, hd⟩)
    · have hd := hd.2 hb6
      rw [hb6]
      refine .gyes rfl rfl rfl (.fieldAddr Tryz.underlying94 rfl Tryz.sizeOf2 rfl (o := 0) rfl rfl rfl ?_)
      refine .gyes rfl rfl rfl (.load1 Tryz.isAgg2 rfl .z rfl rfl rfl ?_)
      refine .gyes rfl rfl rfl (.eq rfl rfl rfl rfl ?_)
      refine .gyes rfl rfl rfl (.move rfl rfl rfl ?_)
      refine split (a0.Hi == (-1)) (fun hb7 => ?_) (fun hb7 => ?_)
      · have hd := hd.1 hb7
        rw [hb7]
        refine .gyes rfl rfl rfl (.move rfl rfl rfl ?_)
        refine .gyes rfl rfl rfl (.lt rfl rfl rfl rfl ?_)
        refine .gyes rfl rfl rfl (.pickT rfl rfl rfl rfl rfl ?_)
        refine .skips 1 rfl ?_
        refine .nil' fun c w ho hs => Cod.at (E := [(4, _), (23, _)]) (ho.sub ⟨rfl, rfl, trivial⟩) hs ?_
        refine .drop .z ?_
        refine .cond rfl (fun hb8 => ?_) (fun hb8 => ?_)
        · have hd := hd.1 hb8
          refine .seq ?_
          refine .region ?_
          refine .skips 3 rfl ?_
          refine .nil' fun c w ho hs => Cod.at (E := [(2, _), (3, _)]) (ho.sub ⟨rfl, rfl, trivial⟩) hs ?_
          exact .ret (pret Tryz.results69 (.t rfl (.t rfl .n)) (.refl _) ⟨(w64 (a0.Lo), true), rfl, hd⟩)
        · have hd := hd.2 hb8
          refine .skip' fun c w ho hs => Cod.at (E := []) (ho.sub trivial) hs ?_
          refine .seq ?_
          refine .region ?_
          refine .skips 2 rfl ?_
          refine .nil' fun c w ho hs => Cod.at (E := [(2, _), (3, _)]) (ho.sub ⟨rfl, rfl, trivial⟩) hs ?_
          exact .ret (pret Tryz.results69 (.t rfl (.t rfl .n)) (.refl _) ⟨(0, false), rfl, hd⟩)
      · have hd := hd.2 hb7
        rw [hb7]
        refine .skips 2 rfl ?_
        refine .gyes rfl rfl rfl (.pickF rfl rfl rfl rfl rfl ?_)
        refine .skips 1 rfl ?_
        refine .nil' fun c w ho hs => Cod.at (E := [(4, _), (23, _)]) (ho.sub ⟨rfl, rfl, trivial⟩) hs ?_
        refine .drop .z ?_
        refine .condKF rfl rfl ?_
        refine .skip' fun c w ho hs => Cod.at (E := []) (ho.sub trivial) hs ?_
        refine .seq ?_
        refine .region ?_
        refine .skips 2 rfl ?_
        refine .nil' fun c w ho hs => Cod.at (E := [(2, _), (3, _)]) (ho.sub ⟨rfl, rfl, trivial⟩) hs ?_
        exact .ret (pret Tryz.results69 (.t rfl (.t rfl .n)) (.refl _) ⟨(0, false), rfl, hd⟩)
  · have hd := hd.2 hb5
    rw [hb5]
    refine .skips 4 rfl ?_
    refine .gyes rfl rfl rfl (.fieldAddr Tryz.underlying94 rfl Tryz.sizeOf2 rfl (o := 0) rfl rfl rfl ?_)
    refine .gyes rfl rfl rfl (.load1 Tryz.isAgg2 rfl .z rfl rfl rfl ?_)
    refine .gyes rfl rfl rfl (.eq rfl rfl rfl rfl ?_)
    refine .gyes rfl rfl rfl (.move rfl rfl rfl ?_)
    refine split (a0.Hi == (-1)) (fun hb9 => ?_) (fun hb9 => ?_)
    · have hd := hd.1 hb9
      rw [hb9]
      refine .gyes rfl rfl rfl (.move rfl rfl rfl ?_)
      refine .gyes rfl rfl rfl (.lt rfl rfl rfl rfl ?_)
      refine .gyes rfl rfl rfl (.pickT rfl rfl rfl rfl rfl ?_)
      refine .skips 1 rfl ?_
      refine .nil' fun c w ho hs => Cod.at (E := [(4, _), (23, _)]) (ho.sub ⟨rfl, rfl, trivial⟩) hs ?_
      refine .drop .z ?_
      refine .cond rfl (fun hb10 => ?_) (fun hb10 => ?_)
      · have hd := hd.1 hb10
        refine .seq ?_
        refine .region ?_
        refine .skips 3 rfl ?_
        refine .nil' fun c w ho hs => Cod.at (E := [(2, _), (3, _)]) (ho.sub ⟨rfl, rfl, trivial⟩) hs ?_
        exact .ret (pret Tryz.results69 (.t rfl (.t rfl .n)) (.refl _) ⟨(w64 (a0.Lo), true), rfl, hd⟩)
      · have hd := hd.2 hb10
        refine .skip' fun c w ho hs => Cod.at (E := []) (ho.sub trivial) hs ?_
        refine .seq ?_
        refine .region ?_
        refine .skips 2 rfl ?_
        refine .nil' fun c w ho hs => Cod.at (E := [(2, _), (3, _)]) (ho.sub ⟨rfl, rfl, trivial⟩) hs ?_
        exact .ret (pret Tryz.results69 (.t rfl (.t rfl .n)) (.refl _) ⟨(0, false), rfl, hd⟩)
    · have hd := hd.2 hb9
      rw [hb9]
      refine .skips 2 rfl ?_
      refine .gyes rfl rfl rfl (.pickF rfl rfl rfl rfl rfl ?_)
      refine .skips 1 rfl ?_
      refine .nil' fun c w ho hs => Cod.at (E := [(4, _), (23, _)]) (ho.sub ⟨rfl, rfl, trivial⟩) hs ?_
      refine .drop .z ?_
      refine .condKF rfl rfl ?_
      refine .skip' fun c w ho hs => Cod.at (E := []) (ho.sub trivial) hs ?_
      refine .seq ?_
      refine .region ?_
      refine .skips 2 rfl ?_
      refine .nil' fun c w ho hs => Cod.at (E := [(2, _), (3, _)]) (ho.sub ⟨rfl, rfl, trivial⟩) hs ?_
      exact .ret (pret Tryz.results69 (.t rfl (.t rfl .n)) (.refl _) ⟨(0, false), rfl, hd⟩)

theorem W_ref05_Combine {I : IH} {a0 : Int} {a1 : List Edge} {p1 : Option Addr} {c2 : Nat} {Q : ((List Edge) × Int) → Prop} (R3 : RepSl eEdge I p1 c2 a1) (hd : ref05_Combine a0 a1 Q) :
    PFun Tryz.prog 43 [.int .i64 a0, .slice p1 a1.length c2] I (fun I_ v => ∃ r p4 c5, v = .tuple #[.slice p4 r.1.length c5, .int .i64 r.2] ∧ RepSl eEdge I_ p4 c5 r.1 ∧ Q r) := by
  refine Fun.enter Tryz.func43 rfl Tryz.ntmps43 rfl (.c (.c .n)) fun w0 M => ?_
  refine .seq ?_
  refine .region ?_
  refine .skips 2 rfl ?_
  refine .nil' fun c w ho hs => Cod.at (E := [(0, _), (1, _)]) (ho.sub ⟨rfl, rfl, trivial⟩) hs ?_
  refine .seq ?_
  refine .seq ?_
  refine .region ?_
  refine .skips 1 rfl ?_
  have hw22 := W_ref02_Is (I := I) hd
  refine .call Tryz.call35 rfl hw22 rfl rfl fun v20 I17 hl18 hv19 => ?_
  obtain ⟨r16, rfl, hd⟩ := hv19
  have le23 := IH.le.trans (.refl _) hl18
  replace R3 := R3.mono hl18
  refine .not rfl rfl rfl ?_
  refine .nil' fun c w ho hs => Cod.at (E := [(0, _), (1, _), (17, _)]) (ho.sub ⟨rfl, rfl, rfl, trivial⟩) hs ?_
  refine .cond rfl (fun hb24 => ?_) (fun hb24 => ?_)
  · have hd := hd.1 hb24
    refine .seq ?_
    refine .region ?_
    refine .skips 2 rfl ?_
    refine .nil' fun c w ho hs => Cod.at (E := [(4, _), (5, _)]) (ho.sub ⟨rfl, rfl, trivial⟩) hs ?_
    exact .ret (pret Tryz.results43 (.t rfl (.t rfl .n)) le23 ⟨(([] : List Edge), 8), _, _, rfl, (.nil _ _ _), hd⟩)
  · have hd := hd.2 hb24
    refine .skip' fun c w ho hs => Cod.at (E := [(0, _), (1, _)]) (ho.sub ⟨rfl, rfl, trivial⟩) hs ?_
    refine .seq ?_
    refine .region ?_
    refine .skips 1 rfl ?_
    refine .nil' fun c w ho hs => Cod.at (E := [(0, _), (1, _), (6, _)]) (ho.sub ⟨rfl, rfl, rfl, trivial⟩) hs ?_
    refine .seq ?_
    refine .region ?_
    refine .skips 1 rfl ?_
    refine .nil' fun c w ho hs => Cod.at (E := [(0, _), (1, _), (6, _), (7, _)]) (ho.sub ⟨rfl, rfl, rfl, rfl, trivial⟩) hs ?_
    refine .seq ?_
    refine .seq ?_
    refine .region ?_
    refine .skips 1 rfl ?_
    refine .nil' fun c w ho hs => Cod.at (E := [(0, _), (1, _), (6, _), (7, _), (8, _)]) (ho.sub ⟨rfl, rfl, rfl, rfl, rfl, trivial⟩) hs ?_
    refine .block ?_
    refine .own0 eEdge 55 ?_
    refine .own0 eWide 94 ?_
    refine .loop hd (fun (s : (List Edge) × (List Wide) × Int) c w => match s with | (s3066, s3070, s3074) => ∃ I_ p3067 c3068 p3071 c3072, IH.le I17 I_ ∧ Ok 145 [(0, .int .i64 a0), (1, .slice p1 a1.length c2), (6, .slice p3067 s3066.length c3068), (7, .slice p3071 s3070.length c3072), (8, .int .i64 s3074)] c ∧ Sym w0 M I I_ [OwnSl eEdge 55 p3067 c3068 s3066, OwnSl eWide 94 p3071 c3072 s3070] w) (fun c w ho hs => ⟨I17, _, _, _, _, (.refl _), ho.sub ⟨rfl, rfl, rfl, rfl, rfl, trivial⟩, hs.pick (.c (.s .z) (.c .z .n))⟩) ?_
    rintro ⟨s3066, s3070, s3074⟩ next3077 hd c w hst
    obtain ⟨I3078, p3067, c3068, p3071, c3072, hl3079, hok, hsym⟩ := hst
    have le3080 := IH.le.trans le23 hl3079
    have le3081 := IH.le.trans (.refl _) hl3079
    replace R3 := R3.mono hl3079
    refine Cod.at hok hsym ?_
    refine .seq ?_
    refine .seq ?_
    refine .region ?_
    refine .skips 2 rfl ?_
    refine .len Tryz.underlying48 rfl rfl rfl rfl ?_
    refine .lt rfl rfl rfl rfl ?_
    refine .nil' fun c w ho hs => Cod.at (E := [(0, _), (1, _), (6, _), (7, _), (8, _), (21, _)]) (ho.sub ⟨rfl, rfl, rfl, rfl, rfl, rfl, trivial⟩) hs ?_
    refine .cond rfl (fun hb3083 => ?_) (fun hb3083 => ?_)
    · have hd := hd.1 hb3083
      refine .skip' fun c w ho hs => Cod.at (E := [(0, _), (1, _), (6, _), (7, _), (8, _)]) (ho.sub ⟨rfl, rfl, rfl, rfl, rfl, trivial⟩) hs ?_
      refine .seq ?_
      refine .block ?_
      refine .seq ?_
      refine .region ?_
      refine .skips 1 rfl ?_
      refine .nil' fun c w ho hs => Cod.at (E := [(0, _), (1, _), (6, _), (7, _), (8, _), (9, _)]) (ho.sub ⟨rfl, rfl, rfl, rfl, rfl, rfl, trivial⟩) hs ?_
      refine .seq ?_
      refine Cod.joinQ (σ := Int) hd (fun (s3272 : Int) c w => ∃ I_, IH.le I3078 I_ ∧ Ok 145 [(0, .int .i64 a0), (1, .slice p1 a1.length c2), (6, .slice p3067 s3066.length c3068), (7, .slice p3071 s3070.length c3072), (8, .int .i64 s3074), (9, .int .i64 s3272)] c ∧ Sym w0 M I I_ [OwnSl eEdge 55 p3067 c3068 s3066, OwnSl eWide 94 p3071 c3072 s3070] w) (fun k3273 hd => ?_) ?_
      · skip
        refine .block ?_
        refine .loop hd (fun (s3333 : Int) c w => ∃ I_, IH.le I3078 I_ ∧ Ok 145 [(0, .int .i64 a0), (1, .slice p1 a1.length c2), (6, .slice p3067 s3066.length c3068), (7, .slice p3071 s3070.length c3072), (8, .int .i64 s3074), (9, .int .i64 s3333)] c ∧ Sym w0 M I I_ [OwnSl eEdge 55 p3067 c3068 s3066, OwnSl eWide 94 p3071 c3072 s3070] w) (fun c w ho hs => ⟨I3078, (.refl _), ho.sub ⟨rfl, rfl, rfl, rfl, rfl, rfl, trivial⟩, hs.pick (.c .z (.c .z .n))⟩) ?_
        rintro s3333 next3334 hd c w hst
        obtain ⟨I3335, hl3336, hok, hsym⟩ := hst
        have le3337 := IH.le.trans le3080 hl3336
        have le3338 := IH.le.trans le3081 hl3336
        have le3339 := IH.le.trans (.refl _) hl3336
        replace R3 := R3.mono hl3336
        refine Cod.at hok hsym ?_
        refine .seq ?_
        refine .seq ?_
        refine .ownF .z fun hne3340 => ?_
        refine .ownF (.s .z) fun hne3341 => ?_
        refine .draw [some 0, some 1, some 2, some 3, some 4, some 5, some 6, some 7, some 8, some 9, some 10, some 11, some 12, some 13, some 14] 15 MX (by kernel_rfl) (by kernel_rfl) (by kernel_rfl) (by kernel_rfl) (by kernel_rfl) (by kernel_rfl) (by kernel_rfl) (fun ex => (OwnSl eEdge 55 p3067 c3068 s3066) :: (OwnSl eWide 94 p3071 c3072 s3070) :: ex) (fun _ _ => (.s (.s .z))) rfl ?_
        refine .f [] rfl (by kernel_rfl) rfl rfl (fun ex => .move rfl rfl rfl .mk) ?_
        refine .f [] rfl (by kernel_rfl) rfl rfl (fun ex => .move rfl rfl rfl .mk) ?_
        refine .f [1] rfl (by kernel_rfl) rfl rfl (fun ex => .len Tryz.underlying48 rfl rfl rfl rfl .mk) ?_
        refine .f [0, 2] rfl (by kernel_rfl) rfl rfl (fun ex => .lt rfl rfl rfl rfl .mk) ?_
        refine .f [3] rfl (by kernel_rfl) rfl rfl (fun ex => .move rfl rfl rfl .mk) ?_
        refine split (decide (s3333 < (s3066.length : Int))) (fun hb3342 => ?_) (fun hb3342 => ?_)
        · have hd := hd.1 hb3342
          refine .f [4] rfl (by kernel_rfl) rfl rfl (fun ex => .gyes rfl rfl hb3342 (.move rfl rfl rfl .mk)) ?_
          refine .f [4] rfl (by kernel_rfl) rfl rfl (fun ex => .gyes rfl rfl hb3342 (.move rfl rfl rfl .mk)) ?_
          obtain ⟨h3343, x3344, hx3345, hd⟩ := hd
          obtain ⟨b3346, e3347⟩ := hne3340 (idx_ne hx3345)
          cases e3347
          refine .f [5, 6, 4] rfl (by kernel_rfl) rfl rfl (fun ex => .gyes rfl rfl hb3342 (.ixa0 Tryz.underlying48 Tryz.sizeOf55 rfl rfl h3343 (idx_lt hx3345 h3343) rfl rfl .mk)) ?_
          refine .f [7, 4] rfl (by kernel_rfl) rfl rfl (fun ex => .gyes rfl rfl hb3342 (.loA (j := 0) Tryz.isAgg55 Tryz.sizeOf55 .z hx3345 rfl rfl (.t (.t (.t .nil))) rfl rfl rfl .mk)) ?_
          refine .f [4] rfl (by kernel_rfl) rfl rfl (fun ex => .gyes rfl rfl hb3342 (.move rfl rfl rfl .mk)) ?_
          refine .f [4] rfl (by kernel_rfl) rfl rfl (fun ex => .gyes rfl rfl hb3342 (.move rfl rfl rfl .mk)) ?_
          obtain ⟨h3348, x3349, hx3350, hd⟩ := hd
          obtain ⟨b3351, o3352, cs3353, e3354, hC3355, hr3356⟩ := R3.2 _ _ hx3350
          cases hr3356
          refine .f [9, 10, 4] rfl (by kernel_rfl) rfl rfl (fun ex => .gyes rfl rfl hb3342 (.ixa Tryz.underlying48 Tryz.sizeOf55 rfl e3354 rfl h3348 (idx_lt hx3350 h3348) rfl rfl .mk)) ?_
          refine .f [11, 4] rfl (by kernel_rfl) rfl rfl (fun ex => .gyes rfl rfl hb3342 (.ldW Tryz.isAgg55 Tryz.sizeOf55 hC3355 rfl rfl rfl rfl .mk)) ?_
          refine .w [] [[], [12], [11, 12], [11, 12], [], [8], [7, 8], [7, 8], [], [4], [3, 4], [2, 3, 4], [3, 4]] [8, 12, 4, 4] rfl (by kernel_rfl) (by kernel_rfl) (by kernel_rfl) ((dropE_kept rfl rfl)) (.inr (dropE_kept rfl rfl)) fun ex => ?_
          have hw3363 := W_ref05_below (I := I3335) hd
          refine .gyes rfl rfl hb3342 (.call Tryz.call66 rfl hw3363 rfl rfl fun v3361 I3358 hl3359 hv3360 => ?_)
          obtain ⟨r3357, rfl, hd⟩ := hv3360
          have le3364 := IH.le.trans le3337 hl3359
          have le3365 := IH.le.trans le3338 hl3359
          have le3366 := IH.le.trans le3339 hl3359
          replace R3 := R3.mono hl3359
          replace hC3355 := hC3355.mono hl3359
          refine .some (fun ex => (OwnSl eEdge 55 (some ⟨b3346, 0, none⟩) c3068 s3066) :: (OwnSl eWide 94 p3071 c3072 s3070) :: ex) rfl (fun _ _ => (.s (.s .z))) rfl trivial ?_
          refine .f [4, 13] rfl (by kernel_rfl) rfl rfl (fun ex => .pickT rfl hb3342 rfl rfl rfl .mk) ?_
          refine .e 15 (by kernel_rfl) (by kernel_rfl) (by kernel_rfl) ?_
          refine .nil' fun c w ho hs => Cod.at (E := [(0, _), (1, _), (6, _), (7, _), (8, _), (9, _), (38, _)]) (ho.sub ⟨rfl, rfl, rfl, rfl, rfl, rfl, rfl, trivial⟩) hs ?_
          refine .cond rfl (fun hb3367 => ?_) (fun hb3367 => ?_)
          · have hd := hd.1 hb3367
            refine .skip' fun c w ho hs => Cod.at (E := [(0, _), (1, _), (6, _), (7, _), (8, _), (9, _)]) (ho.sub ⟨rfl, rfl, rfl, rfl, rfl, rfl, trivial⟩) hs ?_
            refine .block ?_
            refine .region ?_
            refine .skips 1 rfl ?_
            refine .add rfl rfl rfl rfl ?_
            refine .sub (E' := [(0, _), (1, _), (6, _), (7, _), (8, _), (39, _), (40, _)]) ⟨rfl, rfl, rfl, rfl, rfl, rfl, rfl, trivial⟩ ?_
            refine .skips 1 rfl ?_
            exact .nil' fun c w ho hs => ⟨(w64 (s3333 + 1)), hd, I3358, le3366, ho.sub ⟨rfl, rfl, rfl, rfl, rfl, rfl, trivial⟩, hs.pick (.c .z (.c .z .n))⟩
          · have hd := hd.2 hb3367
            exact .exit fun c w ho hs => ⟨s3333, hd, I3358, le3366, ho.sub ⟨rfl, rfl, rfl, rfl, rfl, rfl, trivial⟩, hs.pick (.c .z (.c .z .n))⟩
        · have hd := hd.2 hb3342
          refine .f [4] rfl (by kernel_rfl) rfl rfl (fun ex => .gno rfl rfl hb3342 rfl rfl .mk) ?_
          refine .f [4] rfl (by kernel_rfl) rfl rfl (fun ex => .gno rfl rfl hb3342 rfl rfl .mk) ?_
          refine .f [5, 6, 4] rfl (by kernel_rfl) rfl rfl (fun ex => .gno rfl rfl hb3342 rfl rfl .mk) ?_
          refine .f [7, 4] rfl (by kernel_rfl) rfl rfl (fun ex => .gno rfl rfl hb3342 rfl rfl .mk) ?_
          refine .f [4] rfl (by kernel_rfl) rfl rfl (fun ex => .gno rfl rfl hb3342 rfl rfl .mk) ?_
          refine .f [4] rfl (by kernel_rfl) rfl rfl (fun ex => .gno rfl rfl hb3342 rfl rfl .mk) ?_
          refine .f [9, 10, 4] rfl (by kernel_rfl) rfl rfl (fun ex => .gno rfl rfl hb3342 rfl rfl .mk) ?_
          refine .f [11, 4] rfl (by kernel_rfl) rfl rfl (fun ex => .gno rfl rfl hb3342 rfl rfl .mk) ?_
          refine .f [8, 12, 4, 4] rfl (by kernel_rfl) rfl rfl (fun ex => .gno rfl rfl hb3342 rfl rfl .mk) ?_
          refine .f [4, 13] rfl (by kernel_rfl) rfl rfl (fun ex => .pickF rfl hb3342 rfl rfl rfl .mk) ?_
          refine .e 15 (by kernel_rfl) (by kernel_rfl) (by kernel_rfl) ?_
          refine .nil' fun c w ho hs => Cod.at (E := [(0, _), (1, _), (6, _), (7, _), (8, _), (9, _), (38, _)]) (ho.sub ⟨rfl, rfl, rfl, rfl, rfl, rfl, rfl, trivial⟩) hs ?_
          refine .condKF rfl rfl ?_
          exact .exit fun c w ho hs => ⟨s3333, hd, I3335, le3339, ho.sub ⟨rfl, rfl, rfl, rfl, rfl, rfl, trivial⟩, hs.pick (.c .z (.c .z .n))⟩
      · rintro s3272 hd c w hst
        obtain ⟨I3368, hl3369, hok, hsym⟩ := hst
        have le3370 := IH.le.trans le3080 hl3369
        have le3371 := IH.le.trans le3081 hl3369
        have le3372 := IH.le.trans (.refl _) hl3369
        replace R3 := R3.mono hl3369
        refine Cod.at hok hsym ?_
        refine .seq ?_
        refine .region ?_
        refine .skips 2 rfl ?_
        obtain ⟨h3394, x3395, hx3396, hd⟩ := hd
        obtain ⟨b3397, o3398, cs3399, e3400, hC3401, hr3402⟩ := R3.2 _ _ hx3396
        cases hr3402
        refine .ixa Tryz.underlying48 Tryz.sizeOf55 rfl e3400 rfl h3394 (idx_lt hx3396 h3394) rfl rfl ?_
        refine .fieldAddr Tryz.underlying55 rfl Tryz.sizeOf2 rfl (o := o3398 + s3074.toNat * 3 + 2) rfl rfl rfl ?_
        refine .ld1 (j := 2) Tryz.isAgg2 hC3401 rfl rfl rfl rfl rfl ?_
        have hw3409 := W_ref01_Of (I := I3368) hd
        refine .call Tryz.call67 rfl hw3409 rfl rfl fun v3407 I3404 hl3405 hv3406 => ?_
        obtain ⟨r3403, rfl, hd⟩ := hv3406
        have le3410 := IH.le.trans le3370 hl3405
        have le3411 := IH.le.trans le3371 hl3405
        have le3412 := IH.le.trans le3372 hl3405
        replace R3 := R3.mono hl3405
        replace hC3401 := hC3401.mono hl3405
        refine .allocA Tryz.zeroValue94 rfl rfl fun b3413 => ?_
        refine .storeA Tryz.sizeOf94 rfl rfl .z (.t (.t .nil)) rfl rfl ?_
        refine .nil' fun c w ho hs => Cod.at (E := [(0, _), (1, _), (6, _), (7, _), (8, _), (9, _), (10, _)]) (ho.sub ⟨rfl, rfl, rfl, rfl, rfl, rfl, rfl, trivial⟩) hs ?_
        refine .seq ?_
        refine .seq ?_
        refine Cod.joinQ (σ := Bool) hd (fun (s3581 : Bool) c w => ∃ I_, IH.le I3404 I_ ∧ Ok 145 [(0, .int .i64 a0), (1, .slice p1 a1.length c2), (6, .slice p3067 s3066.length c3068), (7, .slice p3071 s3070.length c3072), (8, .int .i64 s3074), (9, .int .i64 s3272), (10, .pointer (some ⟨b3413, 0, none⟩)), (62, .bool s3581)] c ∧ Sym w0 M I I_ [OwnSl eEdge 55 p3067 c3068 s3066, OwnSl eWide 94 p3071 c3072 s3070, pto b3413 (.cells #[.int .i64 r3403.Hi, .int .u64 r3403.Lo] 94 (0, 0))] w) (fun k3582 hd => ?_) ?_
        · skip
          refine .ownF (.s .z) fun hne3583 => ?_
          refine .ownF (.s (.s .z)) fun hne3584 => ?_
          refine .draw [some 0, some 1, some 2, some 3, some 4, some 5, some 6, some 7, some 8, some 9, some 10, some 11, some 12, some 13, some 14, some 15] 16 MX (by kernel_rfl) (by kernel_rfl) (by kernel_rfl) (by kernel_rfl) (by kernel_rfl) (by kernel_rfl) (by kernel_rfl) (fun ex => (pto b3413 (.cells #[.int .i64 r3403.Hi, .int .u64 r3403.Lo] 94 (0, 0))) :: (OwnSl eEdge 55 p3067 c3068 s3066) :: (OwnSl eWide 94 p3071 c3072 s3070) :: ex) (fun _ _ => (.s (.s (.s .z)))) rfl ?_
          refine .f [] rfl (by kernel_rfl) rfl rfl (fun ex => .move rfl rfl rfl .mk) ?_
          refine .f [] rfl (by kernel_rfl) rfl rfl (fun ex => .move rfl rfl rfl .mk) ?_
          refine .f [1] rfl (by kernel_rfl) rfl rfl (fun ex => .len Tryz.underlying48 rfl rfl rfl rfl .mk) ?_
          refine .f [0, 2] rfl (by kernel_rfl) rfl rfl (fun ex => .lt rfl rfl rfl rfl .mk) ?_
          refine .f [3] rfl (by kernel_rfl) rfl rfl (fun ex => .move rfl rfl rfl .mk) ?_
          refine split (decide (s3272 < (s3066.length : Int))) (fun hb3585 => ?_) (fun hb3585 => ?_)
          · have hd := hd.1 hb3585
            refine .f [4] rfl (by kernel_rfl) rfl rfl (fun ex => .gyes rfl rfl hb3585 (.move rfl rfl rfl .mk)) ?_
            refine .f [4] rfl (by kernel_rfl) rfl rfl (fun ex => .gyes rfl rfl hb3585 (.move rfl rfl rfl .mk)) ?_
            obtain ⟨h3586, x3587, hx3588, hd⟩ := hd
            obtain ⟨b3589, o3590, cs3591, e3592, hC3593, hr3594⟩ := R3.2 _ _ hx3588
            cases hr3594
            refine .f [5, 6, 4] rfl (by kernel_rfl) rfl rfl (fun ex => .gyes rfl rfl hb3585 (.ixa Tryz.underlying48 Tryz.sizeOf55 rfl e3592 rfl h3586 (idx_lt hx3588 h3586) rfl rfl .mk)) ?_
            refine .f [7, 4] rfl (by kernel_rfl) rfl rfl (fun ex => .gyes rfl rfl hb3585 (.ldW Tryz.isAgg55 Tryz.sizeOf55 hC3593 rfl rfl rfl rfl .mk)) ?_
            refine .f [4] rfl (by kernel_rfl) rfl rfl (fun ex => .gyes rfl rfl hb3585 (.move rfl rfl rfl .mk)) ?_
            refine .f [4] rfl (by kernel_rfl) rfl rfl (fun ex => .gyes rfl rfl hb3585 (.move rfl rfl rfl .mk)) ?_
            obtain ⟨h3595, x3596, hx3597, hd⟩ := hd
            obtain ⟨b3598, e3599⟩ := hne3583 (idx_ne hx3597)
            cases e3599
            refine .f [9, 10, 4] rfl (by kernel_rfl) rfl rfl (fun ex => .gyes rfl rfl hb3585 (.ixa0 Tryz.underlying48 Tryz.sizeOf55 rfl rfl h3595 (idx_lt hx3597 h3595) rfl rfl .mk)) ?_
            refine .f [11, 4] rfl (by kernel_rfl) rfl rfl (fun ex => .gyes rfl rfl hb3585 (.loA (j := 0) Tryz.isAgg55 Tryz.sizeOf55 (.s .z) hx3597 rfl rfl (.t (.t (.t .nil))) rfl rfl rfl .mk)) ?_
            refine .w [] [[], [12], [11, 12], [11, 12], [], [8], [7, 8], [7, 8], [], [4], [3, 4], [2, 3, 4], [3, 4]] [8, 12, 4, 4] rfl (by kernel_rfl) (by kernel_rfl) (by kernel_rfl) ((dropE_kept rfl rfl)) (.inr (dropE_kept rfl rfl)) fun ex => ?_
            have hw3606 := W_ref05_below (I := I3404) hd
            refine .gyes rfl rfl hb3585 (.call Tryz.call66 rfl hw3606 rfl rfl fun v3604 I3601 hl3602 hv3603 => ?_)
            obtain ⟨r3600, rfl, hd⟩ := hv3603
            have le3607 := IH.le.trans le3410 hl3602
            have le3608 := IH.le.trans le3411 hl3602
            have le3609 := IH.le.trans le3412 hl3602
            have le3610 := IH.le.trans (.refl _) hl3602
            replace R3 := R3.mono hl3602
            replace hC3593 := hC3593.mono hl3602
            refine .some (fun ex => (pto b3413 (.cells #[.int .i64 r3403.Hi, .int .u64 r3403.Lo] 94 (0, 0))) :: (OwnSl eEdge 55 (some ⟨b3598, 0, none⟩) c3068 s3066) :: (OwnSl eWide 94 p3071 c3072 s3070) :: ex) rfl (fun _ _ => (.s (.s (.s .z)))) rfl trivial ?_
            refine .f [13, 4] rfl (by kernel_rfl) rfl rfl (fun ex => .gyes rfl rfl hb3585 (.not rfl rfl rfl .mk)) ?_
            refine .f [4, 14] rfl (by kernel_rfl) rfl rfl (fun ex => .pickT rfl hb3585 rfl rfl rfl .mk) ?_
            refine .e 16 (by kernel_rfl) (by kernel_rfl) (by kernel_rfl) ?_
            exact .nil' fun c w ho hs => ⟨(!r3600), hd, I3601, le3610, ho.sub ⟨rfl, rfl, rfl, rfl, rfl, rfl, rfl, rfl, trivial⟩, hs.pick (.c (.s .z) (.c (.s .z) (.c .z .n)))⟩
          · have hd := hd.2 hb3585
            refine .f [4] rfl (by kernel_rfl) rfl rfl (fun ex => .gno rfl rfl hb3585 rfl rfl .mk) ?_
            refine .f [4] rfl (by kernel_rfl) rfl rfl (fun ex => .gno rfl rfl hb3585 rfl rfl .mk) ?_
            refine .f [5, 6, 4] rfl (by kernel_rfl) rfl rfl (fun ex => .gno rfl rfl hb3585 rfl rfl .mk) ?_
            refine .f [7, 4] rfl (by kernel_rfl) rfl rfl (fun ex => .gno rfl rfl hb3585 rfl rfl .mk) ?_
            refine .f [4] rfl (by kernel_rfl) rfl rfl (fun ex => .gno rfl rfl hb3585 rfl rfl .mk) ?_
            refine .f [4] rfl (by kernel_rfl) rfl rfl (fun ex => .gno rfl rfl hb3585 rfl rfl .mk) ?_
            refine .f [9, 10, 4] rfl (by kernel_rfl) rfl rfl (fun ex => .gno rfl rfl hb3585 rfl rfl .mk) ?_
            refine .f [11, 4] rfl (by kernel_rfl) rfl rfl (fun ex => .gno rfl rfl hb3585 rfl rfl .mk) ?_
            refine .f [8, 12, 4, 4] rfl (by kernel_rfl) rfl rfl (fun ex => .gno rfl rfl hb3585 rfl rfl .mk) ?_
            refine .f [13, 4] rfl (by kernel_rfl) rfl rfl (fun ex => .gno rfl rfl hb3585 rfl rfl .mk) ?_
            refine .f [4, 14] rfl (by kernel_rfl) rfl rfl (fun ex => .pickF rfl hb3585 rfl rfl rfl .mk) ?_
            refine .e 16 (by kernel_rfl) (by kernel_rfl) (by kernel_rfl) ?_
            exact .nil' fun c w ho hs => ⟨false, hd, I3404, (.refl _), ho.sub ⟨rfl, rfl, rfl, rfl, rfl, rfl, rfl, rfl, trivial⟩, hs.pick (.c (.s .z) (.c (.s .z) (.c .z .n)))⟩
        · rintro s3581 hd c w hst
          obtain ⟨I3611, hl3612, hok, hsym⟩ := hst
          have le3613 := IH.le.trans le3410 hl3612
          have le3614 := IH.le.trans le3411 hl3612
          have le3615 := IH.le.trans le3412 hl3612
          have le3616 := IH.le.trans (.refl _) hl3612
          replace R3 := R3.mono hl3612
          refine Cod.at hok hsym ?_
          refine .cond rfl (fun hb3617 => ?_) (fun hb3617 => ?_)
          · have hd := hd.1 hb3617
            refine .seq ?_
            refine .ownF .z fun hne3618 => ?_
            refine .ownF (.s .z) fun hne3619 => ?_
            refine .draw [some 0, some 1, some 2, some 3, some 4, some 5, some 6, some 7, some 8] 9 MX (by kernel_rfl) (by kernel_rfl) (by kernel_rfl) (by kernel_rfl) (by kernel_rfl) (by kernel_rfl) (by kernel_rfl) (fun ex => (OwnSl eEdge 55 p3067 c3068 s3066) :: (OwnSl eWide 94 p3071 c3072 s3070) :: (pto b3413 (.cells #[.int .i64 r3403.Hi, .int .u64 r3403.Lo] 94 (0, 0))) :: ex) (fun _ _ => (.s (.s (.s .z)))) rfl ?_
            refine .f [] rfl (by kernel_rfl) rfl rfl (fun ex => .move rfl rfl rfl .mk) ?_
            refine .f [] rfl (by kernel_rfl) rfl rfl (fun ex => .move rfl rfl rfl .mk) ?_
            refine .f [] rfl (by kernel_rfl) rfl rfl (fun ex => .move rfl rfl rfl .mk) ?_
            refine .f [] rfl (by kernel_rfl) rfl rfl (fun ex => .move rfl rfl rfl .mk) ?_
            refine .f [] rfl (by kernel_rfl) rfl rfl (fun ex => .move rfl rfl rfl .mk) ?_
            obtain ⟨h3620, x3621, hx3622, hd⟩ := hd
            obtain ⟨b3623, e3624⟩ := hne3619 (idx_ne hx3622)
            cases e3624
            refine .f [3, 4] rfl (by kernel_rfl) rfl rfl (fun ex => .ixa0 Tryz.underlying99 Tryz.sizeOf94 rfl rfl h3620 (idx_lt hx3622 h3620) rfl rfl .mk) ?_
            refine .f [5] rfl (by kernel_rfl) rfl rfl (fun ex => .loA (j := 0) Tryz.isAgg94 Tryz.sizeOf94 (.s .z) hx3622 rfl rfl (.t (.t .nil)) rfl rfl rfl .mk) ?_
            refine .f [] rfl (by kernel_rfl) rfl rfl (fun ex => .loadW Tryz.isAgg94 Tryz.sizeOf94 rfl (.s (.s .z)) rfl rfl rfl .mk) ?_
            refine .w [1, 0] [[], [], [6], [5, 6], [5, 6], []] [2, 6, 7] rfl (by kernel_rfl) (by kernel_rfl) (by kernel_rfl) ((dropE_kept rfl rfl)) (.inr (dropE_kept rfl rfl)) fun ex => ?_
            have hw3631 := W_ref02_Add (I := I3611) hd
            refine .call Tryz.call68 rfl hw3631 rfl rfl fun v3629 I3626 hl3627 hv3628 => ?_
            obtain ⟨r3625, rfl, hd⟩ := hv3628
            have le3632 := IH.le.trans le3613 hl3627
            have le3633 := IH.le.trans le3614 hl3627
            have le3634 := IH.le.trans le3615 hl3627
            have le3635 := IH.le.trans le3616 hl3627
            replace R3 := R3.mono hl3627
            refine .some (fun ex => (OwnSl eEdge 55 p3067 c3068 s3066) :: (OwnSl eWide 94 (some ⟨b3623, 0, none⟩) c3072 s3070) :: (pto b3413 (.cells #[.int .i64 r3403.Hi, .int .u64 r3403.Lo] 94 (0, 0))) :: ex) rfl (fun _ _ => (.s (.s (.s .z)))) rfl (.cc [] rfl (by kernel_rfl) rfl rfl rfl (fun ex => .move rfl rfl rfl .mk) (.cc [] rfl (by kernel_rfl) rfl rfl rfl (fun ex => .move rfl rfl rfl .mk) trivial)) ?_
            refine .e 9 (by kernel_rfl) (by kernel_rfl) (by kernel_rfl) ?_
            obtain ⟨h3636, x3637, hx3638, hd⟩ := hd
            refine .ixa0 Tryz.underlying99 Tryz.sizeOf94 rfl rfl h3636 (idx_lt hx3638 h3636) rfl rfl ?_
            refine .stOA (j := 0) (v' := r3625) Tryz.sizeOf94 (.s .z) hx3638 rfl rfl rfl (.t (.t .nil)) rfl rfl ?_
            refine .sub (E' := [(0, _), (1, _), (6, _), (7, .slice (some ⟨b3623, 0, none⟩) (s3070.set s3272.toNat r3625).length c3072), (8, _), (9, _), (10, _), (62, _), (63, .slice (some ⟨b3623, 0, none⟩) (s3070.set s3272.toNat r3625).length c3072), (64, _), (65, _), (66, .slice (some ⟨b3623, 0, none⟩) (s3070.set s3272.toNat r3625).length c3072), (67, _), (68, _), (69, _), (70, _), (71, _), (72, _)]) ⟨rfl, rfl, rfl, (by simp only [List.length_set]; rfl), rfl, rfl, rfl, rfl, (by simp only [List.length_set]; rfl), rfl, rfl, (by simp only [List.length_set]; rfl), rfl, rfl, rfl, rfl, rfl, rfl, trivial⟩ ?_
            refine .nil' fun c w ho hs => Cod.at (E := [(0, _), (1, _), (6, _), (7, _), (8, _)]) (ho.sub ⟨rfl, rfl, rfl, rfl, rfl, trivial⟩) hs ?_
            refine .drop (.s (.s .z)) ?_
            refine .exit fun c w ho hs => Cod.at (E := [(0, _), (1, _), (6, _), (7, _), (8, _)]) (ho.sub ⟨rfl, rfl, rfl, rfl, rfl, trivial⟩) hs ?_
            refine .region ?_
            refine .skips 1 rfl ?_
            refine .add rfl rfl rfl rfl ?_
            refine .sub (E' := [(0, _), (1, _), (6, _), (7, _), (22, _), (23, _)]) ⟨rfl, rfl, rfl, rfl, rfl, rfl, trivial⟩ ?_
            refine .skips 1 rfl ?_
            exact .nil' fun c w ho hs => ⟨(s3066, (s3070.set s3272.toNat r3625), w64 (s3074 + 1)), hd, I3626, _, _, _, _, le3633, ho.sub ⟨rfl, rfl, rfl, rfl, rfl, trivial⟩, hs.pick (.c .z (.c .z .n))⟩
          · have hd := hd.2 hb3617
            refine .skip' fun c w ho hs => Cod.at (E := [(0, _), (1, _), (6, _), (7, _), (8, _), (9, _), (10, _)]) (ho.sub ⟨rfl, rfl, rfl, rfl, rfl, rfl, rfl, trivial⟩) hs ?_
            refine .seq ?_
            refine .region ?_
            refine .skips 1 rfl ?_
            refine .build Tryz.zeroValue55 Tryz.underlying55 BI55 .n (by exact trivial) rfl rfl ?_
            refine .buildSlice 1 Tryz.underlying48 Tryz.sizeOf55 Tryz.zeroValue55 rfl rfl (.c rfl rfl rfl .n) rfl rfl fun b3645 => ?_
            obtain ⟨hl3647, hd⟩ := hd
            refine .append (ys := [({ From := 0, To := 0, W := 0 } : Edge)]) 24 (.s .z) Tryz.underlying48 Tryz.underlying48 IN55 rfl rfl rfl rfl rfl rfl rfl rfl rfl (.box .z (.one rfl) rfl) hl3647 rfl rfl fun p3648 c3649 => ?_
            refine .sub (E' := [(0, _), (1, _), (7, _), (8, _), (9, _), (10, _), (73, _), (74, _), (75, _), (76, _)]) ⟨rfl, rfl, rfl, rfl, rfl, rfl, rfl, rfl, rfl, rfl, trivial⟩ ?_
            refine .skips 1 rfl ?_
            refine .nil' fun c w ho hs => Cod.at (E := [(0, _), (1, _), (7, _), (8, _), (9, _), (10, _), (6, _)]) (ho.sub ⟨rfl, rfl, rfl, rfl, rfl, rfl, rfl, trivial⟩) hs ?_
            refine .drop (.s .z) ?_
            refine .seq ?_
            refine .region ?_
            refine .skips 1 rfl ?_
            refine .build Tryz.zeroValue94 Tryz.underlying94 BI94 .n (by exact trivial) rfl rfl ?_
            refine .buildSlice 1 Tryz.underlying99 Tryz.sizeOf94 Tryz.zeroValue94 rfl rfl (.c rfl rfl rfl .n) rfl rfl fun b3657 => ?_
            obtain ⟨hl3659, hd⟩ := hd
            refine .append (ys := [({ Hi := 0, Lo := 0 } : Wide)]) 16 (.s (.s .z)) Tryz.underlying99 Tryz.underlying99 IN94 rfl rfl rfl rfl rfl rfl rfl rfl rfl (.box .z (.one rfl) rfl) hl3659 rfl rfl fun p3660 c3661 => ?_
            refine .sub (E' := [(0, _), (1, _), (8, _), (9, _), (10, _), (6, _), (77, _), (78, _), (79, _), (80, _)]) ⟨rfl, rfl, rfl, rfl, rfl, rfl, rfl, rfl, rfl, rfl, trivial⟩ ?_
            refine .skips 1 rfl ?_
            refine .nil' fun c w ho hs => Cod.at (E := [(0, _), (1, _), (8, _), (9, _), (10, _), (6, _), (7, _)]) (ho.sub ⟨rfl, rfl, rfl, rfl, rfl, rfl, rfl, trivial⟩) hs ?_
            refine .drop (.s .z) ?_
            refine .seq ?_
            refine .seq ?_
            refine .region ?_
            refine .skips 1 rfl ?_
            refine .len Tryz.underlying48 rfl rfl rfl rfl ?_
            refine .sub' rfl rfl rfl rfl ?_
            refine .skips 1 rfl ?_
            refine .nil' fun c w ho hs => Cod.at (E := [(0, _), (1, _), (8, _), (9, _), (10, _), (6, _), (7, _), (11, _)]) (ho.sub ⟨rfl, rfl, rfl, rfl, rfl, rfl, rfl, rfl, trivial⟩) hs ?_
            refine .block ?_
            refine .loop hd (fun (s : (List Edge) × (List Wide) × Int) c w => match s with | (s3824, s3828, s3832) => ∃ I_ p3825 c3826 p3829 c3830, IH.le I3611 I_ ∧ Ok 145 [(0, .int .i64 a0), (1, .slice p1 a1.length c2), (6, .slice p3825 s3824.length c3826), (7, .slice p3829 s3828.length c3830), (8, .int .i64 s3074), (9, .int .i64 s3272), (10, .pointer (some ⟨b3413, 0, none⟩)), (11, .int .i64 s3832)] c ∧ Sym w0 M I I_ [OwnSl eEdge 55 p3825 c3826 s3824, OwnSl eWide 94 p3829 c3830 s3828, pto b3413 (.cells #[.int .i64 r3403.Hi, .int .u64 r3403.Lo] 94 (0, 0))] w) (fun c w ho hs => ⟨I3611, _, _, _, _, (.refl _), ho.sub ⟨rfl, rfl, rfl, rfl, rfl, rfl, rfl, rfl, trivial⟩, hs.pick (.c (.s .z) (.c .z (.c .z .n)))⟩) ?_
            rintro ⟨s3824, s3828, s3832⟩ next3833 hd c w hst
            obtain ⟨I3834, p3825, c3826, p3829, c3830, hl3835, hok, hsym⟩ := hst
            have le3836 := IH.le.trans le3613 hl3835
            have le3837 := IH.le.trans le3614 hl3835
            have le3838 := IH.le.trans le3615 hl3835
            have le3839 := IH.le.trans le3616 hl3835
            have le3840 := IH.le.trans (.refl _) hl3835
            replace R3 := R3.mono hl3835
            refine Cod.at hok hsym ?_
            refine .seq ?_
            refine .seq ?_
            refine .region ?_
            refine .skips 2 rfl ?_
            refine .gt rfl rfl rfl rfl ?_
            refine .nil' fun c w ho hs => Cod.at (E := [(0, _), (1, _), (6, _), (7, _), (8, _), (9, _), (10, _), (11, _), (86, _)]) (ho.sub ⟨rfl, rfl, rfl, rfl, rfl, rfl, rfl, rfl, rfl, trivial⟩) hs ?_
            refine .cond rfl (fun hb3842 => ?_) (fun hb3842 => ?_)
            · have hd := hd.1 hb3842
              refine .skip' fun c w ho hs => Cod.at (E := [(0, _), (1, _), (6, _), (7, _), (8, _), (9, _), (10, _), (11, _)]) (ho.sub ⟨rfl, rfl, rfl, rfl, rfl, rfl, rfl, rfl, trivial⟩) hs ?_
              refine .seq ?_
              refine .block ?_
              refine .seq ?_
              refine .region ?_
              refine .skips 4 rfl ?_
              refine .sub' rfl rfl rfl rfl ?_
              obtain ⟨h3843, x3844, hx3845, hd⟩ := hd
              refine .ownNe .z (idx_ne hx3845) fun b3846 e3847 => ?_
              cases e3847
              refine .ixa0 Tryz.underlying48 Tryz.sizeOf55 rfl rfl h3843 (idx_lt hx3845 h3843) rfl rfl ?_
              refine .loA (j := 0) Tryz.isAgg55 Tryz.sizeOf55 .z hx3845 rfl rfl (.t (.t (.t .nil))) rfl rfl rfl ?_
              obtain ⟨h3848, x3849, hx3850, hd⟩ := hd
              refine .ixa0 Tryz.underlying48 Tryz.sizeOf55 rfl rfl h3848 (idx_lt hx3850 h3848) rfl rfl ?_
              refine .stOA (j := 0) (v' := x3844) Tryz.sizeOf55 .z hx3850 rfl rfl rfl (.t (.t (.t .nil))) rfl rfl ?_
              refine .sub (E' := [(0, _), (1, _), (6, .slice (some ⟨b3846, 0, none⟩) (s3824.set s3832.toNat x3844).length c3826), (7, _), (8, _), (9, _), (10, _), (11, _), (89, .slice (some ⟨b3846, 0, none⟩) (s3824.set s3832.toNat x3844).length c3826), (90, _), (91, .slice (some ⟨b3846, 0, none⟩) (s3824.set s3832.toNat x3844).length c3826), (92, _), (93, _), (94, _), (95, _), (96, _)]) ⟨rfl, rfl, (by simp only [List.length_set]; rfl), rfl, rfl, rfl, rfl, rfl, (by simp only [List.length_set]; rfl), rfl, (by simp only [List.length_set]; rfl), rfl, rfl, rfl, rfl, rfl, trivial⟩ ?_
              refine .nil' fun c w ho hs => Cod.at (E := [(0, _), (1, _), (6, _), (7, _), (8, _), (9, _), (10, _), (11, _)]) (ho.sub ⟨rfl, rfl, rfl, rfl, rfl, rfl, rfl, rfl, trivial⟩) hs ?_
              refine .region ?_
              refine .skips 4 rfl ?_
              refine .sub' rfl rfl rfl rfl ?_
              obtain ⟨h3851, x3852, hx3853, hd⟩ := hd
              refine .ownNe (.s .z) (idx_ne hx3853) fun b3854 e3855 => ?_
              cases e3855
              refine .ixa0 Tryz.underlying99 Tryz.sizeOf94 rfl rfl h3851 (idx_lt hx3853 h3851) rfl rfl ?_
              refine .loA (j := 0) Tryz.isAgg94 Tryz.sizeOf94 (.s .z) hx3853 rfl rfl (.t (.t .nil)) rfl rfl rfl ?_
              obtain ⟨h3856, x3857, hx3858, hd⟩ := hd
              refine .ixa0 Tryz.underlying99 Tryz.sizeOf94 rfl rfl h3856 (idx_lt hx3858 h3856) rfl rfl ?_
              refine .stOA (j := 0) (v' := x3852) Tryz.sizeOf94 (.s .z) hx3858 rfl rfl rfl (.t (.t .nil)) rfl rfl ?_
              refine .sub (E' := [(0, _), (1, _), (6, _), (7, .slice (some ⟨b3854, 0, none⟩) (s3828.set s3832.toNat x3852).length c3830), (8, _), (9, _), (10, _), (11, _), (97, .slice (some ⟨b3854, 0, none⟩) (s3828.set s3832.toNat x3852).length c3830), (98, _), (99, .slice (some ⟨b3854, 0, none⟩) (s3828.set s3832.toNat x3852).length c3830), (100, _), (101, _), (102, _), (103, _), (104, _)]) ⟨rfl, rfl, rfl, (by simp only [List.length_set]; rfl), rfl, rfl, rfl, rfl, (by simp only [List.length_set]; rfl), rfl, (by simp only [List.length_set]; rfl), rfl, rfl, rfl, rfl, rfl, trivial⟩ ?_
              refine .nil' fun c w ho hs => Cod.at (E := [(0, _), (1, _), (6, _), (7, _), (8, _), (9, _), (10, _), (11, _)]) (ho.sub ⟨rfl, rfl, rfl, rfl, rfl, rfl, rfl, rfl, trivial⟩) hs ?_
              refine .region ?_
              refine .skips 1 rfl ?_
              refine .sub' rfl rfl rfl rfl ?_
              refine .sub (E' := [(0, _), (1, _), (6, _), (7, _), (8, _), (9, _), (10, _), (87, _), (88, _)]) ⟨rfl, rfl, rfl, rfl, rfl, rfl, rfl, rfl, rfl, trivial⟩ ?_
              refine .skips 1 rfl ?_
              exact .nil' fun c w ho hs => ⟨((s3824.set s3832.toNat x3844), (s3828.set s3832.toNat x3852), w64 (s3832 - 1)), hd, I3834, _, _, _, _, le3840, ho.sub ⟨rfl, rfl, rfl, rfl, rfl, rfl, rfl, rfl, trivial⟩, hs.pick (.c .z (.c .z (.c .z .n)))⟩
            · have hd := hd.2 hb3842
              refine .exit fun c w ho hs => Cod.at (E := [(0, _), (1, _), (6, _), (7, _), (8, _), (9, _), (10, _)]) (ho.sub ⟨rfl, rfl, rfl, rfl, rfl, rfl, rfl, trivial⟩) hs ?_
              refine .seq ?_
              refine .ownF .z fun hne3859 => ?_
              refine .ownF (.s .z) fun hne3860 => ?_
              refine .draw [some 0, some 1, some 2, some 3, some 4, some 5, some 6, some 7, some 8, some 9, some 10, some 11, some 12] 13 MX (by kernel_rfl) (by kernel_rfl) (by kernel_rfl) (by kernel_rfl) (by kernel_rfl) (by kernel_rfl) (by kernel_rfl) (fun ex => (OwnSl eEdge 55 p3825 c3826 s3824) :: (OwnSl eWide 94 p3829 c3830 s3828) :: (pto b3413 (.cells #[.int .i64 r3403.Hi, .int .u64 r3403.Lo] 94 (0, 0))) :: ex) (fun _ _ => (.s (.s (.s .z)))) rfl ?_
              refine .f [] rfl (by kernel_rfl) rfl rfl (fun ex => .move rfl rfl rfl .mk) ?_
              refine .f [] rfl (by kernel_rfl) rfl rfl (fun ex => .move rfl rfl rfl .mk) ?_
              refine .f [] rfl (by kernel_rfl) rfl rfl (fun ex => .move rfl rfl rfl .mk) ?_
              refine .f [] rfl (by kernel_rfl) rfl rfl (fun ex => .move rfl rfl rfl .mk) ?_
              obtain ⟨h3861, x3862, hx3863, hd⟩ := hd
              obtain ⟨b3864, o3865, cs3866, e3867, hC3868, hr3869⟩ := R3.2 _ _ hx3863
              cases hr3869
              refine .f [2, 3] rfl (by kernel_rfl) rfl rfl (fun ex => .ixa Tryz.underlying48 Tryz.sizeOf55 rfl e3867 rfl h3861 (idx_lt hx3863 h3861) rfl rfl .mk) ?_
              refine .f [4] rfl (by kernel_rfl) rfl rfl (fun ex => .fieldAddr Tryz.underlying55 rfl Tryz.sizeOf3 rfl (o := o3865 + s3074.toNat * 3) rfl rfl rfl .mk) ?_
              refine .f [5] rfl (by kernel_rfl) rfl rfl (fun ex => .ld1 (j := 0) Tryz.isAgg3 hC3868 rfl rfl rfl rfl rfl .mk) ?_
              refine .f [] rfl (by kernel_rfl) rfl rfl (fun ex => .move rfl rfl rfl .mk) ?_
              refine .f [] rfl (by kernel_rfl) rfl rfl (fun ex => .move rfl rfl rfl .mk) ?_
              obtain ⟨h3870, x3871, hx3872, hd⟩ := hd
              obtain ⟨b3873, o3874, cs3875, e3876, hC3877, hr3878⟩ := R3.2 _ _ hx3872
              cases hr3878
              refine .f [7, 8] rfl (by kernel_rfl) rfl rfl (fun ex => .ixa Tryz.underlying48 Tryz.sizeOf55 rfl e3876 rfl h3870 (idx_lt hx3872 h3870) rfl rfl .mk) ?_
              refine .f [9] rfl (by kernel_rfl) rfl rfl (fun ex => .fieldAddr Tryz.underlying55 rfl Tryz.sizeOf3 rfl (o := o3874 + s3074.toNat * 3 + 1) rfl rfl rfl .mk) ?_
              refine .f [10] rfl (by kernel_rfl) rfl rfl (fun ex => .ld1 (j := 1) Tryz.isAgg3 hC3877 rfl rfl rfl rfl rfl .mk) ?_
              refine .f [6, 11] rfl (by kernel_rfl) rfl rfl (fun ex => .build Tryz.zeroValue55 Tryz.underlying55 BI55 (.c rfl rfl rfl (.t .nil) (.c rfl rfl rfl (.s (.t .nil)) .n)) (by exact ⟨⟨_, _, rfl, rfl, rfl⟩, ⟨⟨_, _, rfl, rfl, rfl⟩, trivial⟩⟩) rfl rfl .mk) ?_
              refine .e 13 (by kernel_rfl) (by kernel_rfl) (by kernel_rfl) ?_
              obtain ⟨h3879, x3880, hx3881, hd⟩ := hd
              obtain ⟨b3882, e3883⟩ := hne3859 (idx_ne hx3881)
              cases e3883
              refine .ixa0 Tryz.underlying48 Tryz.sizeOf55 rfl rfl h3879 (idx_lt hx3881 h3879) rfl rfl ?_
              refine .stOA (j := 0) (v' := ({ From := x3862.From, To := x3871.To, W := 0 } : Edge)) Tryz.sizeOf55 .z hx3881 rfl rfl rfl (.t (.t (.t .nil))) rfl rfl ?_
              refine .sub (E' := [(0, _), (1, _), (6, .slice (some ⟨b3882, 0, none⟩) (s3824.set s3272.toNat ({ From := x3862.From, To := x3871.To, W := 0 } : Edge)).length c3826), (7, _), (8, _), (9, _), (10, _), (105, .slice (some ⟨b3882, 0, none⟩) (s3824.set s3272.toNat ({ From := x3862.From, To := x3871.To, W := 0 } : Edge)).length c3826), (106, _), (107, _), (108, _), (109, _), (110, _), (111, _), (112, _), (113, _), (114, _), (115, _), (116, _), (117, _), (118, _)]) ⟨rfl, rfl, (by simp only [List.length_set]; rfl), rfl, rfl, rfl, rfl, (by simp only [List.length_set]; rfl), rfl, rfl, rfl, rfl, rfl, rfl, rfl, rfl, rfl, rfl, rfl, rfl, rfl, trivial⟩ ?_
              refine .nil' fun c w ho hs => Cod.at (E := [(0, _), (1, _), (6, _), (7, _), (8, _), (9, _), (10, _)]) (ho.sub ⟨rfl, rfl, rfl, rfl, rfl, rfl, rfl, trivial⟩) hs ?_
              refine .region ?_
              refine .skips 2 rfl ?_
              refine .loadW Tryz.isAgg94 Tryz.sizeOf94 rfl (.s (.s .z)) rfl rfl rfl ?_
              obtain ⟨h3884, x3885, hx3886, hd⟩ := hd
              obtain ⟨b3887, e3888⟩ := hne3860 (idx_ne hx3886)
              cases e3888
              refine .ixa0 Tryz.underlying99 Tryz.sizeOf94 rfl rfl h3884 (idx_lt hx3886 h3884) rfl rfl ?_
              refine .stOA (j := 0) (v' := r3403) Tryz.sizeOf94 (.s .z) hx3886 rfl rfl rfl (.t (.t .nil)) rfl rfl ?_
              refine .sub (E' := [(0, _), (1, _), (6, _), (7, .slice (some ⟨b3887, 0, none⟩) (s3828.set s3272.toNat r3403).length c3830), (8, _), (9, _), (10, _), (119, .slice (some ⟨b3887, 0, none⟩) (s3828.set s3272.toNat r3403).length c3830), (120, _), (121, _), (122, _)]) ⟨rfl, rfl, rfl, (by simp only [List.length_set]; rfl), rfl, rfl, rfl, (by simp only [List.length_set]; rfl), rfl, rfl, rfl, trivial⟩ ?_
              refine .nil' fun c w ho hs => Cod.at (E := [(0, _), (1, _), (6, _), (7, _), (8, _)]) (ho.sub ⟨rfl, rfl, rfl, rfl, rfl, trivial⟩) hs ?_
              refine .drop (.s (.s .z)) ?_
              refine .region ?_
              refine .skips 1 rfl ?_
              refine .add rfl rfl rfl rfl ?_
              refine .sub (E' := [(0, _), (1, _), (6, _), (7, _), (22, _), (23, _)]) ⟨rfl, rfl, rfl, rfl, rfl, rfl, trivial⟩ ?_
              refine .skips 1 rfl ?_
              exact .nil' fun c w ho hs => ⟨((s3824.set s3272.toNat ({ From := x3862.From, To := x3871.To, W := 0 } : Edge)), (s3828.set s3272.toNat r3403), w64 (s3074 + 1)), hd, I3834, _, _, _, _, le3837, ho.sub ⟨rfl, rfl, rfl, rfl, rfl, trivial⟩, hs.pick (.c .z (.c .z .n))⟩
    · have hd := hd.2 hb3083
      refine .exit fun c w ho hs => Cod.at (E := [(6, _), (7, _)]) (ho.sub ⟨rfl, rfl, trivial⟩) hs ?_
      refine .seq ?_
      refine .seq ?_
      refine .region ?_
      refine .skips 1 rfl ?_
      refine .nil' fun c w ho hs => Cod.at (E := [(6, _), (7, _), (12, _)]) (ho.sub ⟨rfl, rfl, rfl, trivial⟩) hs ?_
      refine .block ?_
      refine .loop hd (fun (s : (List Edge) × Int) c w => match s with | (s3980, s3984) => ∃ I_ p3981 c3982, IH.le I3078 I_ ∧ Ok 145 [(6, .slice p3981 s3980.length c3982), (7, .slice p3071 s3070.length c3072), (12, .int .i64 s3984)] c ∧ Sym w0 M I I_ [OwnSl eEdge 55 p3981 c3982 s3980, OwnSl eWide 94 p3071 c3072 s3070] w) (fun c w ho hs => ⟨I3078, _, _, (.refl _), ho.sub ⟨rfl, rfl, rfl, trivial⟩, hs.pick (.c .z (.c .z .n))⟩) ?_
      rintro ⟨s3980, s3984⟩ next3985 hd c w hst
      obtain ⟨I3986, p3981, c3982, hl3987, hok, hsym⟩ := hst
      have le3988 := IH.le.trans le3080 hl3987
      have le3989 := IH.le.trans le3081 hl3987
      have le3990 := IH.le.trans (.refl _) hl3987
      refine Cod.at hok hsym ?_
      refine .seq ?_
      refine .seq ?_
      refine .region ?_
      refine .skips 2 rfl ?_
      refine .len Tryz.underlying48 rfl rfl rfl rfl ?_
      refine .lt rfl rfl rfl rfl ?_
      refine .nil' fun c w ho hs => Cod.at (E := [(6, _), (7, _), (12, _), (126, _)]) (ho.sub ⟨rfl, rfl, rfl, rfl, trivial⟩) hs ?_
      refine .cond rfl (fun hb3992 => ?_) (fun hb3992 => ?_)
      · have hd := hd.1 hb3992
        refine .skip' fun c w ho hs => Cod.at (E := [(6, _), (7, _), (12, _)]) (ho.sub ⟨rfl, rfl, rfl, trivial⟩) hs ?_
        refine .seq ?_
        refine .block ?_
        refine .seq ?_
        refine .region ?_
        refine .skips 2 rfl ?_
        obtain ⟨h4008, x4009, hx4010, hd⟩ := hd
        refine .ownNe (.s .z) (idx_ne hx4010) fun b4011 e4012 => ?_
        cases e4012
        refine .ixa0 Tryz.underlying99 Tryz.sizeOf94 rfl rfl h4008 (idx_lt hx4010 h4008) rfl rfl ?_
        refine .loA (j := 0) Tryz.isAgg94 Tryz.sizeOf94 (.s .z) hx4010 rfl rfl (.t (.t .nil)) rfl rfl rfl ?_
        have hw4019 := W_ref01_Narrow (I := I3986) hd
        refine .call Tryz.call69 rfl hw4019 rfl rfl fun v4017 I4014 hl4015 hv4016 => ?_
        obtain ⟨r4013, rfl, hd⟩ := hv4016
        have le4020 := IH.le.trans le3988 hl4015
        have le4021 := IH.le.trans le3989 hl4015
        have le4022 := IH.le.trans le3990 hl4015
        refine .skips 1 rfl ?_
        refine .extract rfl rfl rfl rfl ?_
        refine .extract rfl rfl rfl rfl ?_
        refine .skips 2 rfl ?_
        refine .nil' fun c w ho hs => Cod.at (E := [(6, _), (7, _), (12, _), (13, _), (14, _)]) (ho.sub ⟨rfl, rfl, rfl, rfl, rfl, trivial⟩) hs ?_
        refine .seq ?_
        refine .seq ?_
        refine .region ?_
        refine .skips 1 rfl ?_
        refine .not rfl rfl rfl ?_
        refine .nil' fun c w ho hs => Cod.at (E := [(6, _), (7, _), (12, _), (13, _), (138, _)]) (ho.sub ⟨rfl, rfl, rfl, rfl, rfl, trivial⟩) hs ?_
        refine .cond rfl (fun hb4023 => ?_) (fun hb4023 => ?_)
        · have hd := hd.1 hb4023
          refine .seq ?_
          refine .region ?_
          refine .skips 2 rfl ?_
          refine .nil' fun c w ho hs => Cod.at (E := [(4, _), (5, _)]) (ho.sub ⟨rfl, rfl, trivial⟩) hs ?_
          refine .drop .z ?_
          refine .drop .z ?_
          exact .ret (pret Tryz.results43 (.t rfl (.t rfl .n)) le4020 ⟨(([] : List Edge), 12), _, _, rfl, (.nil _ _ _), hd⟩)
        · have hd := hd.2 hb4023
          refine .skip' fun c w ho hs => Cod.at (E := [(6, _), (7, _), (12, _), (13, _)]) (ho.sub ⟨rfl, rfl, rfl, rfl, trivial⟩) hs ?_
          refine .region ?_
          refine .skips 3 rfl ?_
          obtain ⟨h4024, x4025, hx4026, hd⟩ := hd
          refine .ownNe .z (idx_ne hx4026) fun b4027 e4028 => ?_
          cases e4028
          refine .ixa0 Tryz.underlying48 Tryz.sizeOf55 rfl rfl h4024 (idx_lt hx4026 h4024) rfl rfl ?_
          refine .fieldAddr Tryz.underlying55 rfl Tryz.sizeOf2 rfl (o := s3984.toNat * 3 + 2) rfl rfl rfl ?_
          refine .stO1 (j := 2) (v' := ({ From := x4025.From, To := x4025.To, W := r4013.1 } : Edge)) Tryz.sizeOf2 .z hx4026 rfl rfl rfl (.s (.s (.t .nil))) rfl ?_
          refine .sub (E' := [(6, .slice (some ⟨b4027, 0, none⟩) (s3980.set s3984.toNat ({ From := x4025.From, To := x4025.To, W := r4013.1 } : Edge)).length c3982), (7, _), (12, _), (13, _), (139, .slice (some ⟨b4027, 0, none⟩) (s3980.set s3984.toNat ({ From := x4025.From, To := x4025.To, W := r4013.1 } : Edge)).length c3982), (140, _), (141, _), (142, _), (143, _)]) ⟨(by simp only [List.length_set]; rfl), rfl, rfl, rfl, (by simp only [List.length_set]; rfl), rfl, rfl, rfl, rfl, trivial⟩ ?_
          refine .nil' fun c w ho hs => Cod.at (E := [(6, _), (7, _), (12, _)]) (ho.sub ⟨rfl, rfl, rfl, trivial⟩) hs ?_
          refine .region ?_
          refine .skips 1 rfl ?_
          refine .add rfl rfl rfl rfl ?_
          refine .sub (E' := [(6, _), (7, _), (127, _), (128, _)]) ⟨rfl, rfl, rfl, rfl, trivial⟩ ?_
          refine .skips 1 rfl ?_
          exact .nil' fun c w ho hs => ⟨((s3980.set s3984.toNat ({ From := x4025.From, To := x4025.To, W := r4013.1 } : Edge)), w64 (s3984 + 1)), hd, I4014, _, _, le4022, ho.sub ⟨rfl, rfl, rfl, trivial⟩, hs.pick (.c .z (.c .z .n))⟩
      · have hd := hd.2 hb3992
        refine .exit fun c w ho hs => Cod.at (E := [(6, _)]) (ho.sub ⟨rfl, trivial⟩) hs ?_
        refine .drop (.s .z) ?_
        refine .seq ?_
        refine .region ?_
        refine .skips 3 rfl ?_
        refine .nil' fun c w ho hs => Cod.at (E := [(4, _), (5, _)]) (ho.sub ⟨rfl, rfl, trivial⟩) hs ?_
        refine .pub .z fun I4029 hl4030 R4031 => ?_
        have le4032 := IH.le.trans le3988 hl4030
        have le4033 := IH.le.trans le3989 hl4030
        have le4034 := IH.le.trans le3990 hl4030
        exact .ret (pret Tryz.results43 (.t rfl (.t rfl .n)) le4032 ⟨(s3980, 0), _, _, rfl, R4031, hd⟩)

theorem W_ref07_Empty {I : IH} {a0 : Int} {a1 : Int}  {Q : Rows → Prop}  (hd : ref07_Empty a0 a1 Q) :
    OFun Tryz.prog 60 [.int .i64 a0, .int .i64 a1] I (fun I_ v l => ∃ r p1 c2 p4 c5 p7 c8, v = .agg #[.int .i64 r.Rows, .int .i64 r.Cols, .slice p1 r.Start.length c2, .slice p4 r.Col.length c5, .slice p7 r.Val.length c8] ∧ l = [OwnSl eI64 3 p1 c2 r.Start, OwnSl eI64 3 p4 c5 r.Col, OwnSl eI64 2 p7 c8 r.Val] ∧ Q r) := by
  refine Fun.enter Tryz.func60 rfl Tryz.ntmps60 rfl (.c (.c .n)) fun w0 M => ?_
  refine .seq ?_
  refine .region ?_
  refine .allocA Tryz.zeroValue29 rfl rfl fun b10 => ?_
  refine .nil' fun c w ho hs => Cod.at (E := [(0, _), (1, _), (4, _)]) (ho.sub ⟨rfl, rfl, rfl, trivial⟩) hs ?_
  refine .seq ?_
  refine .region ?_
  refine .skips 3 rfl ?_
  refine .add rfl rfl rfl rfl ?_
  obtain ⟨h12, h13, hd⟩ := hd
  refine .make (El := eI64) (zv := 0) 8 Tryz.underlying26 IN3 rfl rfl rfl rfl rfl rfl h12 h13 rfl rfl rfl fun b14 => ?_
  refine .build Tryz.zeroValue29 Tryz.underlying29 BI29 (.c rfl rfl rfl (.t .nil) (.c rfl rfl rfl (.s (.t .nil)) (.c rfl rfl rfl (.s (.s (.t .nil))) .n))) (by exact ⟨⟨_, _, rfl, rfl, rfl⟩, ⟨⟨_, _, rfl, rfl, rfl⟩, ⟨⟨_, _, rfl, rfl, rfl⟩, trivial⟩⟩⟩) rfl rfl ?_
  refine .storeA Tryz.sizeOf29 rfl rfl (.s .z) (.t (.t (.t (.t (.t .nil))))) rfl rfl ?_
  refine .nil' fun c w ho hs => Cod.at (E := [(4, _)]) (ho.sub ⟨rfl, trivial⟩) hs ?_
  refine .own0 eI64 3 ?_
  refine .own0 eI64 2 ?_
  exact .ret (oret Tryz.results60 (.w Tryz.isAgg29 Tryz.sizeOf29 rfl (.s (.s (.s .z))) rfl .n) (.refl _) (.c (.s (.s .z)) (.c (.s .z) (.c .z .n))) ⟨({ Rows := a0, Cols := a1, Start := (List.replicate (w64 (a0 + 1)).toNat 0), Col := ([] : List Int), Val := ([] : List Int) } : Rows), _, _, _, _, _, _, rfl, rfl, hd⟩)

theorem W_ref07_built {I : IH} {a0 : Int} {a1 : Int} {a2 : List Triple} {p1 : Option Addr} {c2 : Nat} {Q : Rows → Prop} (R3 : RepSl eTriple I p1 c2 a2) (hd : ref07_built a0 a1 a2 Q) :
    PFun Tryz.prog 44 [.int .i64 a0, .int .i64 a1, .slice p1 a2.length c2] I (fun I_ v => ∃ r p4 c5 p7 c8 p10 c11, v = .agg #[.int .i64 r.Rows, .int .i64 r.Cols, .slice p4 r.Start.length c5, .slice p7 r.Col.length c8, .slice p10 r.Val.length c11] ∧ RepSl eI64 I_ p4 c5 r.Start ∧ RepSl eI64 I_ p7 c8 r.Col ∧ RepSl eI64 I_ p10 c11 r.Val ∧ Q r) := by
  refine Fun.enter Tryz.func44 rfl Tryz.ntmps44 rfl (.c (.c (.c .n))) fun w0 M => ?_
  refine .seq ?_
  refine .region ?_
  refine .allocA Tryz.zeroValue29 rfl rfl fun b15 => ?_
  refine .nil' fun c w ho hs => Cod.at (E := [(0, _), (1, _), (2, _), (6, _)]) (ho.sub ⟨rfl, rfl, rfl, rfl, trivial⟩) hs ?_
  refine .seq ?_
  refine .region ?_
  refine .skips 2 rfl ?_
  have hw57 := W_ref07_Empty (I := I) hd
  refine .callO Tryz.call60 rfl hw57 rfl rfl fun v43 I40 l44 hl41 hv42 => ?_
  obtain ⟨r39, p45, c46, p48, c49, p51, c52, rfl, rfl, hd⟩ := hv42
  have le58 := IH.le.trans (.refl _) hl41
  replace R3 := R3.mono hl41
  refine .allocA Tryz.zeroValue29 rfl rfl fun b59 => ?_
  refine .storeA Tryz.sizeOf29 rfl rfl .z (.t (.t (.t (.t (.t .nil))))) rfl rfl ?_
  refine .nil' fun c w ho hs => Cod.at (E := [(0, _), (2, _), (6, _), (7, _)]) (ho.sub ⟨rfl, rfl, rfl, rfl, trivial⟩) hs ?_
  refine .seq ?_
  refine .seq ?_
  refine .region ?_
  refine .skips 1 rfl ?_
  refine .nil' fun c w ho hs => Cod.at (E := [(0, _), (2, _), (6, _), (7, _), (8, _)]) (ho.sub ⟨rfl, rfl, rfl, rfl, rfl, trivial⟩) hs ?_
  refine .block ?_
  refine .loop hd (fun (s : (List Int) × (List Int) × (List Int) × Int) c w => match s with | (s394, s398, s402, s406) => ∃ I_ p395 c396 p399 c400 p403 c404, IH.le I40 I_ ∧ Ok 58 [(0, .int .i64 a0), (2, .slice p1 a2.length c2), (6, .pointer (some ⟨b15, 0, none⟩)), (7, .pointer (some ⟨b59, 0, none⟩)), (8, .int .i64 s406)] c ∧ Sym w0 M I I_ [pto b15 (.cells #[.int .i64 0, .int .i64 0, .slice none 0 0, .slice none 0 0, .slice none 0 0] 29 (0, 0)), pto b59 (.cells #[.int .i64 r39.Rows, .int .i64 r39.Cols, .slice p395 s394.length c396, .slice p399 s398.length c400, .slice p403 s402.length c404] 29 (0, 0)), OwnSl eI64 3 p395 c396 s394, OwnSl eI64 3 p399 c400 s398, OwnSl eI64 2 p403 c404 s402] w) (fun c w ho hs => ⟨I40, _, _, _, _, _, _, (.refl _), ho.sub ⟨rfl, rfl, rfl, rfl, rfl, trivial⟩, hs.pick (.c (.s (.s (.s (.s .z)))) (.c .z (.c .z (.c .z (.c .z .n)))))⟩) ?_
  rintro ⟨s394, s398, s402, s406⟩ next407 hd c w hst
  obtain ⟨I408, p395, c396, p399, c400, p403, c404, hl409, hok, hsym⟩ := hst
  have le410 := IH.le.trans le58 hl409
  have le411 := IH.le.trans (.refl _) hl409
  replace R3 := R3.mono hl409
  refine Cod.at hok hsym ?_
  refine .seq ?_
  refine .seq ?_
  refine .region ?_
  refine .skips 2 rfl ?_
  refine .len Tryz.underlying24 rfl rfl rfl rfl ?_
  refine .lt rfl rfl rfl rfl ?_
  refine .nil' fun c w ho hs => Cod.at (E := [(0, _), (2, _), (6, _), (7, _), (8, _), (16, _)]) (ho.sub ⟨rfl, rfl, rfl, rfl, rfl, rfl, trivial⟩) hs ?_
  refine .cond rfl (fun hb413 => ?_) (fun hb413 => ?_)
  · have hd := hd.1 hb413
    refine .skip' fun c w ho hs => Cod.at (E := [(0, _), (2, _), (6, _), (7, _), (8, _)]) (ho.sub ⟨rfl, rfl, rfl, rfl, rfl, trivial⟩) hs ?_
    refine .seq ?_
    refine .block ?_
    refine .seq ?_
    refine .ownF (.s (.s .z)) fun hne432 => ?_
    refine .ownF (.s (.s (.s .z))) fun hne433 => ?_
    refine .ownF (.s (.s (.s (.s .z)))) fun hne434 => ?_
    refine .draw [some 0, some 1, some 2, some 3, some 4, some 5, some 6, some 7, some 8] 9 MX (by kernel_rfl) (by kernel_rfl) (by kernel_rfl) (by kernel_rfl) (by kernel_rfl) (by kernel_rfl) (by kernel_rfl) (fun ex => (pto b15 (.cells #[.int .i64 0, .int .i64 0, .slice none 0 0, .slice none 0 0, .slice none 0 0] 29 (0, 0))) :: (pto b59 (.cells #[.int .i64 r39.Rows, .int .i64 r39.Cols, .slice p395 s394.length c396, .slice p399 s398.length c400, .slice p403 s402.length c404] 29 (0, 0))) :: (OwnSl eI64 3 p395 c396 s394) :: (OwnSl eI64 3 p399 c400 s398) :: (OwnSl eI64 2 p403 c404 s402) :: ex) (fun _ _ => (.s (.s (.s (.s (.s .z)))))) rfl ?_
    refine .f [] rfl (by kernel_rfl) rfl rfl (fun ex => .fieldAddr Tryz.underlying29 rfl Tryz.sizeOf26 rfl (o := 3) rfl rfl rfl .mk) ?_
    refine .f [0] rfl (by kernel_rfl) rfl rfl (fun ex => .load1 Tryz.isAgg26 rfl (.s .z) rfl rfl rfl .mk) ?_
    refine .f [] rfl (by kernel_rfl) rfl rfl (fun ex => .move rfl rfl rfl .mk) ?_
    refine .f [] rfl (by kernel_rfl) rfl rfl (fun ex => .move rfl rfl rfl .mk) ?_
    obtain ⟨h435, x436, hx437, hd⟩ := hd
    obtain ⟨b438, o439, cs440, e441, hC442, hr443⟩ := R3.2 _ _ hx437
    cases hr443
    refine .f [2, 3] rfl (by kernel_rfl) rfl rfl (fun ex => .ixa Tryz.underlying24 Tryz.sizeOf60 rfl e441 rfl h435 (idx_lt hx437 h435) rfl rfl .mk) ?_
    refine .f [4] rfl (by kernel_rfl) rfl rfl (fun ex => .fieldAddr Tryz.underlying60 rfl Tryz.sizeOf3 rfl (o := o439 + s406.toNat * 3 + 1) rfl rfl rfl .mk) ?_
    refine .f [5] rfl (by kernel_rfl) rfl rfl (fun ex => .ld1 (j := 1) Tryz.isAgg3 hC442 rfl rfl rfl rfl rfl .mk) ?_
    refine .w [1, 0] [[], [6], [5, 6], [4, 5, 6], [4, 5, 6]] [6] rfl (by kernel_rfl) (by kernel_rfl) (by kernel_rfl) ((dropE_kept rfl rfl)) (.inr (dropE_kept rfl rfl)) fun ex => ?_
    refine .buildSlice 1 Tryz.underlying26 Tryz.sizeOf3 Tryz.zeroValue3 rfl rfl (.c rfl rfl rfl .n) rfl rfl fun b444 => ?_
    refine .some (fun ex => (pto b444 (.cells #[.int .i64 x436.Col] 3 (0, 0))) :: (pto b15 (.cells #[.int .i64 0, .int .i64 0, .slice none 0 0, .slice none 0 0, .slice none 0 0] 29 (0, 0))) :: (pto b59 (.cells #[.int .i64 r39.Rows, .int .i64 r39.Cols, .slice p395 s394.length c396, .slice p399 s398.length c400, .slice p403 s402.length c404] 29 (0, 0))) :: (OwnSl eI64 3 p395 c396 s394) :: (OwnSl eI64 3 p399 c400 s398) :: (OwnSl eI64 2 p403 c404 s402) :: ex) rfl (fun _ _ => (.s (.s (.s (.s (.s (.s .z))))))) rfl (.cc [0] rfl (by kernel_rfl) rfl rfl rfl (fun ex => .load1 Tryz.isAgg26 rfl (.s (.s .z)) rfl rfl rfl .mk) (.cc [] rfl (by kernel_rfl) rfl rfl rfl (fun ex => .fieldAddr Tryz.underlying29 rfl Tryz.sizeOf26 rfl (o := 3) rfl rfl rfl .mk) trivial)) ?_
    refine .w [] [[], [1]] [1, 7] rfl (by kernel_rfl) (by kernel_rfl) (by kernel_rfl) ((dropE_kept rfl rfl)) (.inr (dropE_kept rfl rfl)) fun ex => ?_
    obtain ⟨hl446, hd⟩ := hd
    refine .append (ys := [x436.Col]) 8 (.s (.s (.s (.s .z)))) Tryz.underlying26 Tryz.underlying26 IN3 rfl rfl rfl rfl rfl rfl rfl rfl rfl (.box .z (.one rfl) rfl) hl446 rfl rfl fun p447 c448 => ?_
    refine .some (fun ex => (OwnSl eI64 3 p447 c448 (s398 ++ ([x436.Col]))) :: (pto b444 (.cells #[.int .i64 x436.Col] 3 (0, 0))) :: (pto b15 (.cells #[.int .i64 0, .int .i64 0, .slice none 0 0, .slice none 0 0, .slice none 0 0] 29 (0, 0))) :: (pto b59 (.cells #[.int .i64 r39.Rows, .int .i64 r39.Cols, .slice p395 s394.length c396, .slice p399 s398.length c400, .slice p403 s402.length c404] 29 (0, 0))) :: (OwnSl eI64 3 p395 c396 s394) :: (OwnSl eI64 2 p403 c404 s402) :: ex) rfl (fun _ _ => (.s (.s (.s (.s (.s (.s .z))))))) rfl trivial ?_
    refine .e 9 (by kernel_rfl) (by kernel_rfl) (by kernel_rfl) ?_
    refine .fieldAddr Tryz.underlying29 rfl Tryz.sizeOf26 rfl (o := 3) rfl rfl rfl ?_
    refine .store1 Tryz.sizeOf26 rfl rfl (.s (.s (.s .z))) (.s (.s (.s (.t .nil)))) rfl ?_
    refine .nil' fun c w ho hs => Cod.at (E := [(0, _), (2, _), (6, _), (7, _), (8, _)]) (ho.sub ⟨rfl, rfl, rfl, rfl, rfl, trivial⟩) hs ?_
    refine .drop (.s .z) ?_
    refine .seq ?_
    refine .ownF .z fun hne468 => ?_
    refine .ownF (.s (.s (.s .z))) fun hne469 => ?_
    refine .ownF (.s (.s (.s (.s .z)))) fun hne470 => ?_
    refine .draw [some 0, some 1, some 2, some 3, some 4, some 5, some 6, some 7, some 8] 9 MX (by kernel_rfl) (by kernel_rfl) (by kernel_rfl) (by kernel_rfl) (by kernel_rfl) (by kernel_rfl) (by kernel_rfl) (fun ex => (OwnSl eI64 3 p447 c448 (s398 ++ ([x436.Col]))) :: (pto b15 (.cells #[.int .i64 0, .int .i64 0, .slice none 0 0, .slice none 0 0, .slice none 0 0] 29 (0, 0))) :: (pto b59 (.cells #[.int .i64 r39.Rows, .int .i64 r39.Cols, .slice p395 s394.length c396, .slice p447 (s398 ++ ([x436.Col])).length c448, .slice p403 s402.length c404] 29 (0, 0))) :: (OwnSl eI64 3 p395 c396 s394) :: (OwnSl eI64 2 p403 c404 s402) :: ex) (fun _ _ => (.s (.s (.s (.s (.s .z)))))) rfl ?_
    refine .f [] rfl (by kernel_rfl) rfl rfl (fun ex => .fieldAddr Tryz.underlying29 rfl Tryz.sizeOf27 rfl (o := 4) rfl rfl rfl .mk) ?_
    refine .f [0] rfl (by kernel_rfl) rfl rfl (fun ex => .load1 Tryz.isAgg27 rfl (.s (.s .z)) rfl rfl rfl .mk) ?_
    refine .f [] rfl (by kernel_rfl) rfl rfl (fun ex => .move rfl rfl rfl .mk) ?_
    refine .f [] rfl (by kernel_rfl) rfl rfl (fun ex => .move rfl rfl rfl .mk) ?_
    obtain ⟨h471, x472, hx473, hd⟩ := hd
    obtain ⟨b474, o475, cs476, e477, hC478, hr479⟩ := R3.2 _ _ hx473
    cases hr479
    refine .f [2, 3] rfl (by kernel_rfl) rfl rfl (fun ex => .ixa Tryz.underlying24 Tryz.sizeOf60 rfl e477 rfl h471 (idx_lt hx473 h471) rfl rfl .mk) ?_
    refine .f [4] rfl (by kernel_rfl) rfl rfl (fun ex => .fieldAddr Tryz.underlying60 rfl Tryz.sizeOf2 rfl (o := o475 + s406.toNat * 3 + 2) rfl rfl rfl .mk) ?_
    refine .f [5] rfl (by kernel_rfl) rfl rfl (fun ex => .ld1 (j := 2) Tryz.isAgg2 hC478 rfl rfl rfl rfl rfl .mk) ?_
    refine .w [1, 0] [[], [6], [5, 6], [4, 5, 6], [4, 5, 6]] [6] rfl (by kernel_rfl) (by kernel_rfl) (by kernel_rfl) ((dropE_kept rfl rfl)) (.inr (dropE_kept rfl rfl)) fun ex => ?_
    refine .buildSlice 1 Tryz.underlying27 Tryz.sizeOf2 Tryz.zeroValue2 rfl rfl (.c rfl rfl rfl .n) rfl rfl fun b480 => ?_
    refine .some (fun ex => (pto b480 (.cells #[.int .i64 x472.Val] 2 (0, 0))) :: (OwnSl eI64 3 p447 c448 (s398 ++ ([x436.Col]))) :: (pto b15 (.cells #[.int .i64 0, .int .i64 0, .slice none 0 0, .slice none 0 0, .slice none 0 0] 29 (0, 0))) :: (pto b59 (.cells #[.int .i64 r39.Rows, .int .i64 r39.Cols, .slice p395 s394.length c396, .slice p447 (s398 ++ ([x436.Col])).length c448, .slice p403 s402.length c404] 29 (0, 0))) :: (OwnSl eI64 3 p395 c396 s394) :: (OwnSl eI64 2 p403 c404 s402) :: ex) rfl (fun _ _ => (.s (.s (.s (.s (.s (.s .z))))))) rfl (.cc [0] rfl (by kernel_rfl) rfl rfl rfl (fun ex => .load1 Tryz.isAgg27 rfl (.s (.s (.s .z))) rfl rfl rfl .mk) (.cc [] rfl (by kernel_rfl) rfl rfl rfl (fun ex => .fieldAddr Tryz.underlying29 rfl Tryz.sizeOf27 rfl (o := 4) rfl rfl rfl .mk) trivial)) ?_
    refine .w [] [[], [1]] [1, 7] rfl (by kernel_rfl) (by kernel_rfl) (by kernel_rfl) ((dropE_kept rfl rfl)) (.inr (dropE_kept rfl rfl)) fun ex => ?_
    obtain ⟨hl482, hd⟩ := hd
    refine .append (ys := [x472.Val]) 8 (.s (.s (.s (.s (.s .z))))) Tryz.underlying27 Tryz.underlying27 IN2 rfl rfl rfl rfl rfl rfl rfl rfl rfl (.box .z (.one rfl) rfl) hl482 rfl rfl fun p483 c484 => ?_
    refine .some (fun ex => (OwnSl eI64 2 p483 c484 (s402 ++ ([x472.Val]))) :: (pto b480 (.cells #[.int .i64 x472.Val] 2 (0, 0))) :: (OwnSl eI64 3 p447 c448 (s398 ++ ([x436.Col]))) :: (pto b15 (.cells #[.int .i64 0, .int .i64 0, .slice none 0 0, .slice none 0 0, .slice none 0 0] 29 (0, 0))) :: (pto b59 (.cells #[.int .i64 r39.Rows, .int .i64 r39.Cols, .slice p395 s394.length c396, .slice p447 (s398 ++ ([x436.Col])).length c448, .slice p403 s402.length c404] 29 (0, 0))) :: (OwnSl eI64 3 p395 c396 s394) :: ex) rfl (fun _ _ => (.s (.s (.s (.s (.s (.s .z))))))) rfl trivial ?_
    refine .e 9 (by kernel_rfl) (by kernel_rfl) (by kernel_rfl) ?_
    refine .fieldAddr Tryz.underlying29 rfl Tryz.sizeOf27 rfl (o := 4) rfl rfl rfl ?_
    refine .store1 Tryz.sizeOf27 rfl rfl (.s (.s (.s (.s .z)))) (.s (.s (.s (.s (.t .nil))))) rfl ?_
    refine .nil' fun c w ho hs => Cod.at (E := [(0, _), (2, _), (6, _), (7, _), (8, _)]) (ho.sub ⟨rfl, rfl, rfl, rfl, rfl, trivial⟩) hs ?_
    refine .drop (.s .z) ?_
    refine .seq ?_
    refine .region ?_
    refine .skips 2 rfl ?_
    obtain ⟨h495, x496, hx497, hd⟩ := hd
    obtain ⟨b498, o499, cs500, e501, hC502, hr503⟩ := R3.2 _ _ hx497
    cases hr503
    refine .ixa Tryz.underlying24 Tryz.sizeOf60 rfl e501 rfl h495 (idx_lt hx497 h495) rfl rfl ?_
    refine .fieldAddr Tryz.underlying60 rfl Tryz.sizeOf3 rfl (o := o499 + s406.toNat * 3) rfl rfl rfl ?_
    refine .ld1 (j := 0) Tryz.isAgg3 hC502 rfl rfl rfl rfl rfl ?_
    refine .add rfl rfl rfl rfl ?_
    refine .skips 1 rfl ?_
    refine .nil' fun c w ho hs => Cod.at (E := [(0, _), (2, _), (6, _), (7, _), (8, _), (9, _)]) (ho.sub ⟨rfl, rfl, rfl, rfl, rfl, rfl, trivial⟩) hs ?_
    refine .block ?_
    refine .loop hd (fun (s : (List Int) × Int) c w => match s with | (s539, s543) => ∃ I_ p540 c541, IH.le I408 I_ ∧ Ok 58 [(0, .int .i64 a0), (2, .slice p1 a2.length c2), (6, .pointer (some ⟨b15, 0, none⟩)), (7, .pointer (some ⟨b59, 0, none⟩)), (8, .int .i64 s406), (9, .int .i64 s543)] c ∧ Sym w0 M I I_ [pto b15 (.cells #[.int .i64 0, .int .i64 0, .slice none 0 0, .slice none 0 0, .slice none 0 0] 29 (0, 0)), pto b59 (.cells #[.int .i64 r39.Rows, .int .i64 r39.Cols, .slice p540 s539.length c541, .slice p447 (s398 ++ ([x436.Col])).length c448, .slice p483 (s402 ++ ([x472.Val])).length c484] 29 (0, 0)), OwnSl eI64 3 p540 c541 s539, OwnSl eI64 3 p447 c448 (s398 ++ ([x436.Col])), OwnSl eI64 2 p483 c484 (s402 ++ ([x472.Val]))] w) (fun c w ho hs => ⟨I408, _, _, (.refl _), ho.sub ⟨rfl, rfl, rfl, rfl, rfl, rfl, trivial⟩, hs.pick (.c (.s (.s .z)) (.c (.s (.s .z)) (.c (.s (.s .z)) (.c (.s .z) (.c .z .n)))))⟩) ?_
    rintro ⟨s539, s543⟩ next544 hd c w hst
    obtain ⟨I545, p540, c541, hl546, hok, hsym⟩ := hst
    have le547 := IH.le.trans le410 hl546
    have le548 := IH.le.trans le411 hl546
    have le549 := IH.le.trans (.refl _) hl546
    replace R3 := R3.mono hl546
    refine Cod.at hok hsym ?_
    refine .seq ?_
    refine .seq ?_
    refine .region ?_
    refine .skips 2 rfl ?_
    refine .le' rfl rfl rfl rfl ?_
    refine .nil' fun c w ho hs => Cod.at (E := [(0, _), (2, _), (6, _), (7, _), (8, _), (9, _), (47, _)]) (ho.sub ⟨rfl, rfl, rfl, rfl, rfl, rfl, rfl, trivial⟩) hs ?_
    refine .cond rfl (fun hb551 => ?_) (fun hb551 => ?_)
    · have hd := hd.1 hb551
      refine .skip' fun c w ho hs => Cod.at (E := [(0, _), (2, _), (6, _), (7, _), (8, _), (9, _)]) (ho.sub ⟨rfl, rfl, rfl, rfl, rfl, rfl, trivial⟩) hs ?_
      refine .seq ?_
      refine .block ?_
      refine .region ?_
      refine .fieldAddr Tryz.underlying29 rfl Tryz.sizeOf26 rfl (o := 2) rfl rfl rfl ?_
      refine .load1 Tryz.isAgg26 rfl (.s .z) rfl rfl rfl ?_
      refine .skips 1 rfl ?_
      obtain ⟨h552, x553, hx554, hd⟩ := hd
      refine .ownNe (.s (.s .z)) (idx_ne hx554) fun b555 e556 => ?_
      cases e556
      refine .ixa0 Tryz.underlying26 Tryz.sizeOf3 rfl rfl h552 (idx_lt hx554 h552) rfl rfl ?_
      refine .lo1 (j := 0) Tryz.isAgg3 (.s (.s .z)) hx554 rfl rfl rfl rfl rfl ?_
      refine .add rfl rfl rfl rfl ?_
      obtain ⟨h557, x558, hx559, hd⟩ := hd
      refine .ixa0 Tryz.underlying26 Tryz.sizeOf3 rfl rfl h557 (idx_lt hx559 h557) rfl rfl ?_
      refine .stO1 (j := 0) (v' := (w64 (x553 + 1))) Tryz.sizeOf3 (.s (.s .z)) hx559 rfl rfl rfl (.t .nil) rfl ?_
      refine .sub (E' := [(0, _), (2, _), (6, _), (7, _), (8, _), (9, _), (50, _), (51, .slice (some ⟨b555, 0, none⟩) (s539.set s543.toNat (w64 (x553 + 1))).length c541), (52, _), (53, _), (54, _), (55, _), (56, _)]) ⟨rfl, rfl, rfl, rfl, rfl, rfl, rfl, (by simp only [List.length_set]; rfl), rfl, rfl, rfl, rfl, rfl, trivial⟩ ?_
      refine .reat (.s .z) (B := pto b59 (.cells #[.int .i64 r39.Rows, .int .i64 r39.Cols, .slice (some ⟨b555, 0, none⟩) (s539.set s543.toNat (w64 (x553 + 1))).length c541, .slice p447 (s398 ++ ([x436.Col])).length c448, .slice p483 (s402 ++ ([x472.Val])).length c484] 29 (0, 0))) (by simp only [List.length_set]) ?_
      refine .nil' fun c w ho hs => Cod.at (E := [(0, _), (2, _), (6, _), (7, _), (8, _), (9, _)]) (ho.sub ⟨rfl, rfl, rfl, rfl, rfl, rfl, trivial⟩) hs ?_
      refine .region ?_
      refine .skips 1 rfl ?_
      refine .add rfl rfl rfl rfl ?_
      refine .sub (E' := [(0, _), (2, _), (6, _), (7, _), (8, _), (48, _), (49, _)]) ⟨rfl, rfl, rfl, rfl, rfl, rfl, rfl, trivial⟩ ?_
      refine .skips 1 rfl ?_
      exact .nil' fun c w ho hs => ⟨((s539.set s543.toNat (w64 (x553 + 1))), w64 (s543 + 1)), hd, I545, _, _, le549, ho.sub ⟨rfl, rfl, rfl, rfl, rfl, rfl, trivial⟩, hs.pick (.c .z (.c .z (.c .z (.c .z (.c .z .n)))))⟩
    · have hd := hd.2 hb551
      refine .exit fun c w ho hs => Cod.at (E := [(0, _), (2, _), (6, _), (7, _), (8, _)]) (ho.sub ⟨rfl, rfl, rfl, rfl, rfl, trivial⟩) hs ?_
      refine .region ?_
      refine .skips 1 rfl ?_
      refine .add rfl rfl rfl rfl ?_
      refine .sub (E' := [(0, _), (2, _), (6, _), (7, _), (17, _), (18, _)]) ⟨rfl, rfl, rfl, rfl, rfl, rfl, trivial⟩ ?_
      refine .skips 1 rfl ?_
      exact .nil' fun c w ho hs => ⟨(s539, (s398 ++ ([x436.Col])), (s402 ++ ([x472.Val])), w64 (s406 + 1)), hd, I545, _, _, _, _, _, _, le548, ho.sub ⟨rfl, rfl, rfl, rfl, rfl, trivial⟩, hs.pick (.c .z (.c .z (.c .z (.c .z (.c .z .n)))))⟩
  · have hd := hd.2 hb413
    refine .exit fun c w ho hs => Cod.at (E := [(6, _), (7, _)]) (ho.sub ⟨rfl, rfl, trivial⟩) hs ?_
    refine .seq ?_
    refine .region ?_
    refine .loadW Tryz.isAgg29 Tryz.sizeOf29 rfl (.s .z) rfl rfl rfl ?_
    refine .storeA Tryz.sizeOf29 rfl rfl .z (.t (.t (.t (.t (.t .nil))))) rfl rfl ?_
    refine .nil' fun c w ho hs => Cod.at (E := [(6, _)]) (ho.sub ⟨rfl, trivial⟩) hs ?_
    refine .drop (.s .z) ?_
    refine .pub (.s .z) fun I560 hl561 R562 => ?_
    have le563 := IH.le.trans le410 hl561
    have le564 := IH.le.trans le411 hl561
    refine .pub (.s .z) fun I565 hl566 R567 => ?_
    have le568 := IH.le.trans le563 hl566
    have le569 := IH.le.trans le564 hl566
    replace R562 := R562.mono hl566
    refine .pub (.s .z) fun I570 hl571 R572 => ?_
    have le573 := IH.le.trans le568 hl571
    have le574 := IH.le.trans le569 hl571
    replace R562 := R562.mono hl571
    replace R567 := R567.mono hl571
    exact .ret (pret Tryz.results44 (.w Tryz.isAgg29 Tryz.sizeOf29 rfl .z rfl .n) le573 ⟨({ Rows := r39.Rows, Cols := r39.Cols, Start := s394, Col := s398, Val := s402 } : Rows), _, _, _, _, _, _, rfl, R562, R567, R572, hd⟩)

theorem W_ref07_Of {I : IH} {a0 : Int} {a1 : Int} {a2 : Int} {a3 : List Triple} {p1 : Option Addr} {c2 : Nat} {Q : (Rows × Int) → Prop} (R3 : RepSl eTriple I p1 c2 a3) (hd : ref07_Of a0 a1 a2 a3 Q) :
    PFun Tryz.prog 11 [.int .i64 a0, .int .i64 a1, .int .i64 a2, .slice p1 a3.length c2] I (fun I_ v => ∃ r p4 c5 p7 c8 p10 c11, v = .tuple #[.agg #[.int .i64 r.1.Rows, .int .i64 r.1.Cols, .slice p4 r.1.Start.length c5, .slice p7 r.1.Col.length c8, .slice p10 r.1.Val.length c11], .int .i64 r.2] ∧ RepSl eI64 I_ p4 c5 r.1.Start ∧ RepSl eI64 I_ p7 c8 r.1.Col ∧ RepSl eI64 I_ p10 c11 r.1.Val ∧ Q r) := by
  refine Fun.enter Tryz.func11 rfl Tryz.ntmps11 rfl (.c (.c (.c (.c .n)))) fun w0 M => ?_
  refine .seq ?_
  refine .region ?_
  refine .allocA Tryz.zeroValue29 rfl rfl fun b15 => ?_
  refine .skips 1 rfl ?_
  refine .nil' fun c w ho hs => Cod.at (E := [(0, _), (1, _), (2, _), (3, _), (8, _)]) (ho.sub ⟨rfl, rfl, rfl, rfl, rfl, trivial⟩) hs ?_
  refine .seq ?_
  refine .seq ?_
  refine .region ?_
  refine .skips 1 rfl ?_
  have hw32 := W_ref02_Is (I := I) hd
  refine .call Tryz.call35 rfl hw32 rfl rfl fun v30 I27 hl28 hv29 => ?_
  obtain ⟨r26, rfl, hd⟩ := hv29
  have le33 := IH.le.trans (.refl _) hl28
  replace R3 := R3.mono hl28
  refine .not rfl rfl rfl ?_
  refine .nil' fun c w ho hs => Cod.at (E := [(0, _), (1, _), (2, _), (3, _), (8, _), (17, _)]) (ho.sub ⟨rfl, rfl, rfl, rfl, rfl, rfl, trivial⟩) hs ?_
  refine .cond rfl (fun hb34 => ?_) (fun hb34 => ?_)
  · have hd := hd.1 hb34
    refine .seq ?_
    refine .region ?_
    refine .build Tryz.zeroValue29 Tryz.underlying29 BI29 .n (by exact trivial) rfl rfl ?_
    refine .storeA Tryz.sizeOf29 rfl rfl .z (.t (.t (.t (.t (.t .nil))))) rfl rfl ?_
    refine .skips 1 rfl ?_
    refine .nil' fun c w ho hs => Cod.at (E := [(8, _), (9, _)]) (ho.sub ⟨rfl, rfl, trivial⟩) hs ?_
    exact .ret (pret Tryz.results11 (.w Tryz.isAgg29 Tryz.sizeOf29 rfl .z rfl (.t rfl .n)) le33 ⟨(({ Rows := 0, Cols := 0, Start := ([] : List Int), Col := ([] : List Int), Val := ([] : List Int) } : Rows), 8), _, _, _, _, _, _, rfl, (.nil _ _ _), (.nil _ _ _), (.nil _ _ _), hd⟩)
  · have hd := hd.2 hb34
    refine .skip' fun c w ho hs => Cod.at (E := [(0, _), (1, _), (2, _), (3, _), (8, _)]) (ho.sub ⟨rfl, rfl, rfl, rfl, rfl, trivial⟩) hs ?_
    refine .seq ?_
    refine .seq ?_
    refine .region ?_
    refine .skips 1 rfl ?_
    refine .lt rfl rfl rfl rfl ?_
    refine .skips 1 rfl ?_
    refine split (decide (a1 < 0)) (fun hb39 => ?_) (fun hb39 => ?_)
    · have hd := hd.1 hb39
      rw [hb39]
      refine .skips 11 rfl ?_
      refine .nil' fun c w ho hs => Cod.at (E := [(0, _), (1, _), (2, _), (3, _), (8, _), (32, _)]) (ho.sub ⟨rfl, rfl, rfl, rfl, rfl, rfl, trivial⟩) hs ?_
      refine .condKT rfl rfl ?_
      refine .seq ?_
      refine .region ?_
      refine .build Tryz.zeroValue29 Tryz.underlying29 BI29 .n (by exact trivial) rfl rfl ?_
      refine .storeA Tryz.sizeOf29 rfl rfl .z (.t (.t (.t (.t (.t .nil))))) rfl rfl ?_
      refine .skips 1 rfl ?_
      refine .nil' fun c w ho hs => Cod.at (E := [(8, _), (9, _)]) (ho.sub ⟨rfl, rfl, trivial⟩) hs ?_
      exact .ret (pret Tryz.results11 (.w Tryz.isAgg29 Tryz.sizeOf29 rfl .z rfl (.t rfl .n)) le33 ⟨(({ Rows := 0, Cols := 0, Start := ([] : List Int), Col := ([] : List Int), Val := ([] : List Int) } : Rows), 3), _, _, _, _, _, _, rfl, (.nil _ _ _), (.nil _ _ _), (.nil _ _ _), hd⟩)
    · have hd := hd.2 hb39
      rw [hb39]
      refine .gyes rfl rfl rfl (.move rfl rfl rfl ?_)
      refine .gyes rfl rfl rfl (.gt rfl rfl rfl rfl ?_)
      refine .skips 2 rfl ?_
      refine split (decide (4096 < a1)) (fun hb40 => ?_) (fun hb40 => ?_)
      · have hd := hd.1 hb40
        rw [hb40]
        refine .skips 7 rfl ?_
        refine .nil' fun c w ho hs => Cod.at (E := [(0, _), (1, _), (2, _), (3, _), (8, _), (32, _)]) (ho.sub ⟨rfl, rfl, rfl, rfl, rfl, rfl, trivial⟩) hs ?_
        refine .condKT rfl rfl ?_
        refine .seq ?_
        refine .region ?_
        refine .build Tryz.zeroValue29 Tryz.underlying29 BI29 .n (by exact trivial) rfl rfl ?_
        refine .storeA Tryz.sizeOf29 rfl rfl .z (.t (.t (.t (.t (.t .nil))))) rfl rfl ?_
        refine .skips 1 rfl ?_
        refine .nil' fun c w ho hs => Cod.at (E := [(8, _), (9, _)]) (ho.sub ⟨rfl, rfl, trivial⟩) hs ?_
        exact .ret (pret Tryz.results11 (.w Tryz.isAgg29 Tryz.sizeOf29 rfl .z rfl (.t rfl .n)) le33 ⟨(({ Rows := 0, Cols := 0, Start := ([] : List Int), Col := ([] : List Int), Val := ([] : List Int) } : Rows), 3), _, _, _, _, _, _, rfl, (.nil _ _ _), (.nil _ _ _), (.nil _ _ _), hd⟩)
      · have hd := hd.2 hb40
        rw [hb40]
        refine .gyes rfl rfl rfl (.move rfl rfl rfl ?_)
        refine .gyes rfl rfl rfl (.lt rfl rfl rfl rfl ?_)
        refine .skips 2 rfl ?_
        refine split (decide (a2 < 0)) (fun hb41 => ?_) (fun hb41 => ?_)
        · have hd := hd.1 hb41
          rw [hb41]
          refine .skips 3 rfl ?_
          refine .nil' fun c w ho hs => Cod.at (E := [(0, _), (1, _), (2, _), (3, _), (8, _), (32, _)]) (ho.sub ⟨rfl, rfl, rfl, rfl, rfl, rfl, trivial⟩) hs ?_
          refine .condKT rfl rfl ?_
          refine .seq ?_
          refine .region ?_
          refine .build Tryz.zeroValue29 Tryz.underlying29 BI29 .n (by exact trivial) rfl rfl ?_
          refine .storeA Tryz.sizeOf29 rfl rfl .z (.t (.t (.t (.t (.t .nil))))) rfl rfl ?_
          refine .skips 1 rfl ?_
          refine .nil' fun c w ho hs => Cod.at (E := [(8, _), (9, _)]) (ho.sub ⟨rfl, rfl, trivial⟩) hs ?_
          exact .ret (pret Tryz.results11 (.w Tryz.isAgg29 Tryz.sizeOf29 rfl .z rfl (.t rfl .n)) le33 ⟨(({ Rows := 0, Cols := 0, Start := ([] : List Int), Col := ([] : List Int), Val := ([] : List Int) } : Rows), 3), _, _, _, _, _, _, rfl, (.nil _ _ _), (.nil _ _ _), (.nil _ _ _), hd⟩)
        · have hd := hd.2 hb41
          rw [hb41]
          refine .gyes rfl rfl rfl (.move rfl rfl rfl ?_)
          refine .gyes rfl rfl rfl (.gt rfl rfl rfl rfl ?_)
          refine .skips 1 rfl ?_
          refine .nil' fun c w ho hs => Cod.at (E := [(0, _), (1, _), (2, _), (3, _), (8, _), (32, _)]) (ho.sub ⟨rfl, rfl, rfl, rfl, rfl, rfl, trivial⟩) hs ?_
          refine .cond rfl (fun hb42 => ?_) (fun hb42 => ?_)
          · have hd := hd.1 hb42
            refine .seq ?_
            refine .region ?_
            refine .build Tryz.zeroValue29 Tryz.underlying29 BI29 .n (by exact trivial) rfl rfl ?_
            refine .storeA Tryz.sizeOf29 rfl rfl .z (.t (.t (.t (.t (.t .nil))))) rfl rfl ?_
            refine .skips 1 rfl ?_
            refine .nil' fun c w ho hs => Cod.at (E := [(8, _), (9, _)]) (ho.sub ⟨rfl, rfl, trivial⟩) hs ?_
            exact .ret (pret Tryz.results11 (.w Tryz.isAgg29 Tryz.sizeOf29 rfl .z rfl (.t rfl .n)) le33 ⟨(({ Rows := 0, Cols := 0, Start := ([] : List Int), Col := ([] : List Int), Val := ([] : List Int) } : Rows), 3), _, _, _, _, _, _, rfl, (.nil _ _ _), (.nil _ _ _), (.nil _ _ _), hd⟩)
          · have hd := hd.2 hb42
            refine .skip' fun c w ho hs => Cod.at (E := [(0, _), (1, _), (2, _), (3, _), (8, _)]) (ho.sub ⟨rfl, rfl, rfl, rfl, rfl, trivial⟩) hs ?_
            refine .seq ?_
            refine .seq ?_
            refine .region ?_
            refine .skips 1 rfl ?_
            refine .len Tryz.underlying24 rfl rfl rfl rfl ?_
            refine .gt rfl rfl rfl rfl ?_
            refine .nil' fun c w ho hs => Cod.at (E := [(0, _), (1, _), (2, _), (3, _), (8, _), (36, _)]) (ho.sub ⟨rfl, rfl, rfl, rfl, rfl, rfl, trivial⟩) hs ?_
            refine .cond rfl (fun hb44 => ?_) (fun hb44 => ?_)
            · have hd := hd.1 hb44
              refine .seq ?_
              refine .region ?_
              refine .build Tryz.zeroValue29 Tryz.underlying29 BI29 .n (by exact trivial) rfl rfl ?_
              refine .storeA Tryz.sizeOf29 rfl rfl .z (.t (.t (.t (.t (.t .nil))))) rfl rfl ?_
              refine .skips 1 rfl ?_
              refine .nil' fun c w ho hs => Cod.at (E := [(8, _), (9, _)]) (ho.sub ⟨rfl, rfl, trivial⟩) hs ?_
              exact .ret (pret Tryz.results11 (.w Tryz.isAgg29 Tryz.sizeOf29 rfl .z rfl (.t rfl .n)) le33 ⟨(({ Rows := 0, Cols := 0, Start := ([] : List Int), Col := ([] : List Int), Val := ([] : List Int) } : Rows), 5), _, _, _, _, _, _, rfl, (.nil _ _ _), (.nil _ _ _), (.nil _ _ _), hd⟩)
            · have hd := hd.2 hb44
              refine .skip' fun c w ho hs => Cod.at (E := [(0, _), (1, _), (2, _), (3, _), (8, _)]) (ho.sub ⟨rfl, rfl, rfl, rfl, rfl, trivial⟩) hs ?_
              refine .seq ?_
              refine .region ?_
              refine .skips 1 rfl ?_
              refine .nil' fun c w ho hs => Cod.at (E := [(0, _), (1, _), (2, _), (3, _), (8, _), (10, _)]) (ho.sub ⟨rfl, rfl, rfl, rfl, rfl, rfl, trivial⟩) hs ?_
              refine .seq ?_
              refine .seq ?_
              refine .region ?_
              refine .skips 1 rfl ?_
              refine .nil' fun c w ho hs => Cod.at (E := [(0, _), (1, _), (2, _), (3, _), (8, _), (10, _), (11, _)]) (ho.sub ⟨rfl, rfl, rfl, rfl, rfl, rfl, rfl, trivial⟩) hs ?_
              refine .block ?_
              refine .own0 eEdge 55 ?_
              refine .loop hd (fun (s : (List Edge) × Int) c w => match s with | (s666, s670) => ∃ I_ p667 c668, IH.le I27 I_ ∧ Ok 135 [(0, .int .i64 a0), (1, .int .i64 a1), (2, .int .i64 a2), (3, .slice p1 a3.length c2), (8, .pointer (some ⟨b15, 0, none⟩)), (10, .slice p667 s666.length c668), (11, .int .i64 s670)] c ∧ Sym w0 M I I_ [pto b15 (.cells #[.int .i64 0, .int .i64 0, .slice none 0 0, .slice none 0 0, .slice none 0 0] 29 (0, 0)), OwnSl eEdge 55 p667 c668 s666] w) (fun c w ho hs => ⟨I27, _, _, (.refl _), ho.sub ⟨rfl, rfl, rfl, rfl, rfl, rfl, rfl, trivial⟩, hs.pick (.c (.s .z) (.c .z .n))⟩) ?_
              rintro ⟨s666, s670⟩ next672 hd c w hst
              obtain ⟨I673, p667, c668, hl674, hok, hsym⟩ := hst
              have le675 := IH.le.trans le33 hl674
              have le676 := IH.le.trans (.refl _) hl674
              replace R3 := R3.mono hl674
              refine Cod.at hok hsym ?_
              refine .seq ?_
              refine .seq ?_
              refine .region ?_
              refine .skips 2 rfl ?_
              refine .len Tryz.underlying24 rfl rfl rfl rfl ?_
              refine .lt rfl rfl rfl rfl ?_
              refine .nil' fun c w ho hs => Cod.at (E := [(0, _), (1, _), (2, _), (3, _), (8, _), (10, _), (11, _), (41, _)]) (ho.sub ⟨rfl, rfl, rfl, rfl, rfl, rfl, rfl, rfl, trivial⟩) hs ?_
              refine .cond rfl (fun hb678 => ?_) (fun hb678 => ?_)
              · have hd := hd.1 hb678
                refine .skip' fun c w ho hs => Cod.at (E := [(0, _), (1, _), (2, _), (3, _), (8, _), (10, _), (11, _)]) (ho.sub ⟨rfl, rfl, rfl, rfl, rfl, rfl, rfl, trivial⟩) hs ?_
                refine .seq ?_
                refine .block ?_
                refine .seq ?_
                refine .seq ?_
                refine .region ?_
                refine .skips 2 rfl ?_
                obtain ⟨h719, x720, hx721, hd⟩ := hd
                obtain ⟨b722, o723, cs724, e725, hC726, hr727⟩ := R3.2 _ _ hx721
                cases hr727
                refine .ixa Tryz.underlying24 Tryz.sizeOf60 rfl e725 rfl h719 (idx_lt hx721 h719) rfl rfl ?_
                refine .fieldAddr Tryz.underlying60 rfl Tryz.sizeOf3 rfl (o := o723 + s670.toNat * 3) rfl rfl rfl ?_
                refine .ld1 (j := 0) Tryz.isAgg3 hC726 rfl rfl rfl rfl rfl ?_
                refine .lt rfl rfl rfl rfl ?_
                refine .skips 1 rfl ?_
                refine split (decide (x720.Row < 0)) (fun hb728 => ?_) (fun hb728 => ?_)
                · have hd := hd.1 hb728
                  rw [hb728]
                  refine .skips 25 rfl ?_
                  refine .nil' fun c w ho hs => Cod.at (E := [(0, _), (1, _), (2, _), (3, _), (8, _), (10, _), (11, _), (75, _)]) (ho.sub ⟨rfl, rfl, rfl, rfl, rfl, rfl, rfl, rfl, trivial⟩) hs ?_
                  refine .condKT rfl rfl ?_
                  refine .seq ?_
                  refine .region ?_
                  refine .build Tryz.zeroValue29 Tryz.underlying29 BI29 .n (by exact trivial) rfl rfl ?_
                  refine .storeA Tryz.sizeOf29 rfl rfl .z (.t (.t (.t (.t (.t .nil))))) rfl rfl ?_
                  refine .skips 1 rfl ?_
                  refine .nil' fun c w ho hs => Cod.at (E := [(8, _), (9, _)]) (ho.sub ⟨rfl, rfl, trivial⟩) hs ?_
                  refine .drop (.s .z) ?_
                  exact .ret (pret Tryz.results11 (.w Tryz.isAgg29 Tryz.sizeOf29 rfl .z rfl (.t rfl .n)) le675 ⟨(({ Rows := 0, Cols := 0, Start := ([] : List Int), Col := ([] : List Int), Val := ([] : List Int) } : Rows), 3), _, _, _, _, _, _, rfl, (.nil _ _ _), (.nil _ _ _), (.nil _ _ _), hd⟩)
                · have hd := hd.2 hb728
                  rw [hb728]
                  refine .gyes rfl rfl rfl (.move rfl rfl rfl ?_)
                  refine .gyes rfl rfl rfl (.move rfl rfl rfl ?_)
                  obtain ⟨h729, x730, hx731, hd⟩ := hd
                  obtain ⟨b732, o733, cs734, e735, hC736, hr737⟩ := R3.2 _ _ hx731
                  cases hr737
                  refine .gyes rfl rfl rfl (.ixa Tryz.underlying24 Tryz.sizeOf60 rfl e735 rfl h729 (idx_lt hx731 h729) rfl rfl ?_)
                  refine .gyes rfl rfl rfl (.fieldAddr Tryz.underlying60 rfl Tryz.sizeOf3 rfl (o := o733 + s670.toNat * 3) rfl rfl rfl ?_)
                  refine .gyes rfl rfl rfl (.ld1 (j := 0) Tryz.isAgg3 hC736 rfl rfl rfl rfl rfl ?_)
                  refine .gyes rfl rfl rfl (.move rfl rfl rfl ?_)
                  refine .gyes rfl rfl rfl (.ge rfl rfl rfl rfl ?_)
                  refine .skips 2 rfl ?_
                  refine split (decide (a1 ≤ x730.Row)) (fun hb738 => ?_) (fun hb738 => ?_)
                  · have hd := hd.1 hb738
                    rw [hb738]
                    refine .skips 16 rfl ?_
                    refine .nil' fun c w ho hs => Cod.at (E := [(0, _), (1, _), (2, _), (3, _), (8, _), (10, _), (11, _), (75, _)]) (ho.sub ⟨rfl, rfl, rfl, rfl, rfl, rfl, rfl, rfl, trivial⟩) hs ?_
                    refine .condKT rfl rfl ?_
                    refine .seq ?_
                    refine .region ?_
                    refine .build Tryz.zeroValue29 Tryz.underlying29 BI29 .n (by exact trivial) rfl rfl ?_
                    refine .storeA Tryz.sizeOf29 rfl rfl .z (.t (.t (.t (.t (.t .nil))))) rfl rfl ?_
                    refine .skips 1 rfl ?_
                    refine .nil' fun c w ho hs => Cod.at (E := [(8, _), (9, _)]) (ho.sub ⟨rfl, rfl, trivial⟩) hs ?_
                    refine .drop (.s .z) ?_
                    exact .ret (pret Tryz.results11 (.w Tryz.isAgg29 Tryz.sizeOf29 rfl .z rfl (.t rfl .n)) le675 ⟨(({ Rows := 0, Cols := 0, Start := ([] : List Int), Col := ([] : List Int), Val := ([] : List Int) } : Rows), 3), _, _, _, _, _, _, rfl, (.nil _ _ _), (.nil _ _ _), (.nil _ _ _), hd⟩)
                  · have hd := hd.2 hb738
                    rw [hb738]
                    refine .gyes rfl rfl rfl (.move rfl rfl rfl ?_)
                    refine .gyes rfl rfl rfl (.move rfl rfl rfl ?_)
                    obtain ⟨h739, x740, hx741, hd⟩ := hd
                    obtain ⟨b742, o743, cs744, e745, hC746, hr747⟩ := R3.2 _ _ hx741
                    cases hr747
                    refine .gyes rfl rfl rfl (.ixa Tryz.underlying24 Tryz.sizeOf60 rfl e745 rfl h739 (idx_lt hx741 h739) rfl rfl ?_)
                    refine .gyes rfl rfl rfl (.fieldAddr Tryz.underlying60 rfl Tryz.sizeOf3 rfl (o := o743 + s670.toNat * 3 + 1) rfl rfl rfl ?_)
                    refine .gyes rfl rfl rfl (.ld1 (j := 1) Tryz.isAgg3 hC746 rfl rfl rfl rfl rfl ?_)
                    refine .gyes rfl rfl rfl (.lt rfl rfl rfl rfl ?_)
                    refine .skips 2 rfl ?_
                    refine split (decide (x740.Col < 0)) (fun hb748 => ?_) (fun hb748 => ?_)
                    · have hd := hd.1 hb748
                      rw [hb748]
                      refine .skips 8 rfl ?_
                      refine .nil' fun c w ho hs => Cod.at (E := [(0, _), (1, _), (2, _), (3, _), (8, _), (10, _), (11, _), (75, _)]) (ho.sub ⟨rfl, rfl, rfl, rfl, rfl, rfl, rfl, rfl, trivial⟩) hs ?_
                      refine .condKT rfl rfl ?_
                      refine .seq ?_
                      refine .region ?_
                      refine .build Tryz.zeroValue29 Tryz.underlying29 BI29 .n (by exact trivial) rfl rfl ?_
                      refine .storeA Tryz.sizeOf29 rfl rfl .z (.t (.t (.t (.t (.t .nil))))) rfl rfl ?_
                      refine .skips 1 rfl ?_
                      refine .nil' fun c w ho hs => Cod.at (E := [(8, _), (9, _)]) (ho.sub ⟨rfl, rfl, trivial⟩) hs ?_
                      refine .drop (.s .z) ?_
                      exact .ret (pret Tryz.results11 (.w Tryz.isAgg29 Tryz.sizeOf29 rfl .z rfl (.t rfl .n)) le675 ⟨(({ Rows := 0, Cols := 0, Start := ([] : List Int), Col := ([] : List Int), Val := ([] : List Int) } : Rows), 3), _, _, _, _, _, _, rfl, (.nil _ _ _), (.nil _ _ _), (.nil _ _ _), hd⟩)
                    · have hd := hd.2 hb748
                      rw [hb748]
                      refine .gyes rfl rfl rfl (.move rfl rfl rfl ?_)
                      refine .gyes rfl rfl rfl (.move rfl rfl rfl ?_)
                      obtain ⟨h749, x750, hx751, hd⟩ := hd
                      obtain ⟨b752, o753, cs754, e755, hC756, hr757⟩ := R3.2 _ _ hx751
                      cases hr757
                      refine .gyes rfl rfl rfl (.ixa Tryz.underlying24 Tryz.sizeOf60 rfl e755 rfl h749 (idx_lt hx751 h749) rfl rfl ?_)
                      refine .gyes rfl rfl rfl (.fieldAddr Tryz.underlying60 rfl Tryz.sizeOf3 rfl (o := o753 + s670.toNat * 3 + 1) rfl rfl rfl ?_)
                      refine .gyes rfl rfl rfl (.ld1 (j := 1) Tryz.isAgg3 hC756 rfl rfl rfl rfl rfl ?_)
                      refine .gyes rfl rfl rfl (.move rfl rfl rfl ?_)
                      refine .gyes rfl rfl rfl (.ge rfl rfl rfl rfl ?_)
                      refine .skips 1 rfl ?_
                      refine .nil' fun c w ho hs => Cod.at (E := [(0, _), (1, _), (2, _), (3, _), (8, _), (10, _), (11, _), (75, _)]) (ho.sub ⟨rfl, rfl, rfl, rfl, rfl, rfl, rfl, rfl, trivial⟩) hs ?_
                      refine .cond rfl (fun hb758 => ?_) (fun hb758 => ?_)
                      · have hd := hd.1 hb758
                        refine .seq ?_
                        refine .region ?_
                        refine .build Tryz.zeroValue29 Tryz.underlying29 BI29 .n (by exact trivial) rfl rfl ?_
                        refine .storeA Tryz.sizeOf29 rfl rfl .z (.t (.t (.t (.t (.t .nil))))) rfl rfl ?_
                        refine .skips 1 rfl ?_
                        refine .nil' fun c w ho hs => Cod.at (E := [(8, _), (9, _)]) (ho.sub ⟨rfl, rfl, trivial⟩) hs ?_
                        refine .drop (.s .z) ?_
                        exact .ret (pret Tryz.results11 (.w Tryz.isAgg29 Tryz.sizeOf29 rfl .z rfl (.t rfl .n)) le675 ⟨(({ Rows := 0, Cols := 0, Start := ([] : List Int), Col := ([] : List Int), Val := ([] : List Int) } : Rows), 3), _, _, _, _, _, _, rfl, (.nil _ _ _), (.nil _ _ _), (.nil _ _ _), hd⟩)
                      · have hd := hd.2 hb758
                        refine .skip' fun c w ho hs => Cod.at (E := [(0, _), (1, _), (2, _), (3, _), (8, _), (10, _), (11, _)]) (ho.sub ⟨rfl, rfl, rfl, rfl, rfl, rfl, rfl, trivial⟩) hs ?_
                        refine .ownF (.s .z) fun hne759 => ?_
                        refine .draw [some 0, some 1, some 2, some 3, some 4, some 5, some 6, some 7, some 8, some 9, some 10, some 11, some 12, some 13, some 14, some 15, some 16, some 17, some 18] 19 MX (by kernel_rfl) (by kernel_rfl) (by kernel_rfl) (by kernel_rfl) (by kernel_rfl) (by kernel_rfl) (by kernel_rfl) (fun ex => (pto b15 (.cells #[.int .i64 0, .int .i64 0, .slice none 0 0, .slice none 0 0, .slice none 0 0] 29 (0, 0))) :: (OwnSl eEdge 55 p667 c668 s666) :: ex) (fun _ _ => (.s (.s .z))) rfl ?_
                        refine .f [] rfl (by kernel_rfl) rfl rfl (fun ex => .move rfl rfl rfl .mk) ?_
                        refine .f [] rfl (by kernel_rfl) rfl rfl (fun ex => .move rfl rfl rfl .mk) ?_
                        refine .f [] rfl (by kernel_rfl) rfl rfl (fun ex => .move rfl rfl rfl .mk) ?_
                        obtain ⟨h760, x761, hx762, hd⟩ := hd
                        obtain ⟨b763, o764, cs765, e766, hC767, hr768⟩ := R3.2 _ _ hx762
                        cases hr768
                        refine .f [1, 2] rfl (by kernel_rfl) rfl rfl (fun ex => .ixa Tryz.underlying24 Tryz.sizeOf60 rfl e766 rfl h760 (idx_lt hx762 h760) rfl rfl .mk) ?_
                        refine .f [3] rfl (by kernel_rfl) rfl rfl (fun ex => .fieldAddr Tryz.underlying60 rfl Tryz.sizeOf3 rfl (o := o764 + s670.toNat * 3) rfl rfl rfl .mk) ?_
                        refine .f [4] rfl (by kernel_rfl) rfl rfl (fun ex => .ld1 (j := 0) Tryz.isAgg3 hC767 rfl rfl rfl rfl rfl .mk) ?_
                        refine .f [] rfl (by kernel_rfl) rfl rfl (fun ex => .move rfl rfl rfl .mk) ?_
                        refine .f [] rfl (by kernel_rfl) rfl rfl (fun ex => .move rfl rfl rfl .mk) ?_
                        obtain ⟨h769, x770, hx771, hd⟩ := hd
                        obtain ⟨b772, o773, cs774, e775, hC776, hr777⟩ := R3.2 _ _ hx771
                        cases hr777
                        refine .f [6, 7] rfl (by kernel_rfl) rfl rfl (fun ex => .ixa Tryz.underlying24 Tryz.sizeOf60 rfl e775 rfl h769 (idx_lt hx771 h769) rfl rfl .mk) ?_
                        refine .f [8] rfl (by kernel_rfl) rfl rfl (fun ex => .fieldAddr Tryz.underlying60 rfl Tryz.sizeOf3 rfl (o := o773 + s670.toNat * 3 + 1) rfl rfl rfl .mk) ?_
                        refine .f [9] rfl (by kernel_rfl) rfl rfl (fun ex => .ld1 (j := 1) Tryz.isAgg3 hC776 rfl rfl rfl rfl rfl .mk) ?_
                        refine .f [] rfl (by kernel_rfl) rfl rfl (fun ex => .move rfl rfl rfl .mk) ?_
                        refine .f [] rfl (by kernel_rfl) rfl rfl (fun ex => .move rfl rfl rfl .mk) ?_
                        obtain ⟨h778, x779, hx780, hd⟩ := hd
                        obtain ⟨b781, o782, cs783, e784, hC785, hr786⟩ := R3.2 _ _ hx780
                        cases hr786
                        refine .f [11, 12] rfl (by kernel_rfl) rfl rfl (fun ex => .ixa Tryz.underlying24 Tryz.sizeOf60 rfl e784 rfl h778 (idx_lt hx780 h778) rfl rfl .mk) ?_
                        refine .f [13] rfl (by kernel_rfl) rfl rfl (fun ex => .fieldAddr Tryz.underlying60 rfl Tryz.sizeOf2 rfl (o := o782 + s670.toNat * 3 + 2) rfl rfl rfl .mk) ?_
                        refine .f [14] rfl (by kernel_rfl) rfl rfl (fun ex => .ld1 (j := 2) Tryz.isAgg2 hC785 rfl rfl rfl rfl rfl .mk) ?_
                        refine .f [5, 10, 15] rfl (by kernel_rfl) rfl rfl (fun ex => .build Tryz.zeroValue55 Tryz.underlying55 BI55 (.c rfl rfl rfl (.t .nil) (.c rfl rfl rfl (.s (.t .nil)) (.c rfl rfl rfl (.s (.s (.t .nil))) .n))) (by exact ⟨⟨_, _, rfl, rfl, rfl⟩, ⟨⟨_, _, rfl, rfl, rfl⟩, ⟨⟨_, _, rfl, rfl, rfl⟩, trivial⟩⟩⟩) rfl rfl .mk) ?_
                        refine .w [0] [[], [16], [15, 16], [14, 15, 16], [13, 14, 15, 16], [13, 14, 15, 16], [16], [10, 16], [9, 10, 16], [8, 9, 10, 16], [8, 9, 10, 16], [16], [5, 16], [4, 5, 16], [3, 4, 5, 16], [3, 4, 5, 16]] [16] rfl (by kernel_rfl) (by kernel_rfl) (by kernel_rfl) ((dropE_kept rfl rfl)) (.inr (dropE_kept rfl rfl)) fun ex => ?_
                        refine .buildSlice 1 Tryz.underlying48 Tryz.sizeOf55 Tryz.zeroValue55 rfl rfl (.c rfl rfl rfl .n) rfl rfl fun b787 => ?_
                        refine .some (fun ex => (pto b787 (.cells #[.int .i64 x761.Row, .int .i64 x770.Col, .int .i64 x779.Val] 55 (0, 0))) :: (pto b15 (.cells #[.int .i64 0, .int .i64 0, .slice none 0 0, .slice none 0 0, .slice none 0 0] 29 (0, 0))) :: (OwnSl eEdge 55 p667 c668 s666) :: ex) rfl (fun _ _ => (.s (.s (.s .z)))) rfl (.cc [] rfl (by kernel_rfl) rfl rfl rfl (fun ex => .move rfl rfl rfl .mk) trivial) ?_
                        refine .w [] [[]] [0, 17] rfl (by kernel_rfl) (by kernel_rfl) (by kernel_rfl) ((dropE_kept rfl rfl)) (.inr (dropE_kept rfl rfl)) fun ex => ?_
                        obtain ⟨hl789, hd⟩ := hd
                        refine .append (ys := [({ From := x761.Row, To := x770.Col, W := x779.Val } : Edge)]) 24 (.s (.s .z)) Tryz.underlying48 Tryz.underlying48 IN55 rfl rfl rfl rfl rfl rfl rfl rfl rfl (.box .z (.one rfl) rfl) hl789 rfl rfl fun p790 c791 => ?_
                        refine .some (fun ex => (OwnSl eEdge 55 p790 c791 (s666 ++ ([({ From := x761.Row, To := x770.Col, W := x779.Val } : Edge)]))) :: (pto b787 (.cells #[.int .i64 x761.Row, .int .i64 x770.Col, .int .i64 x779.Val] 55 (0, 0))) :: (pto b15 (.cells #[.int .i64 0, .int .i64 0, .slice none 0 0, .slice none 0 0, .slice none 0 0] 29 (0, 0))) :: ex) rfl (fun _ _ => (.s (.s (.s .z)))) rfl trivial ?_
                        refine .e 19 (by kernel_rfl) (by kernel_rfl) (by kernel_rfl) ?_
                        refine .sub (E' := [(0, _), (1, _), (2, _), (3, _), (8, _), (11, _), (77, _), (78, _), (79, _), (80, _), (81, _), (82, _), (83, _), (84, _), (85, _), (86, _), (87, _), (88, _), (89, _), (90, _), (91, _), (92, _), (93, _), (94, _), (95, _)]) ⟨rfl, rfl, rfl, rfl, rfl, rfl, rfl, rfl, rfl, rfl, rfl, rfl, rfl, rfl, rfl, rfl, rfl, rfl, rfl, rfl, rfl, rfl, rfl, rfl, rfl, trivial⟩ ?_
                        refine .skips 1 rfl ?_
                        refine .nil' fun c w ho hs => Cod.at (E := [(0, _), (1, _), (2, _), (3, _), (8, _), (11, _), (10, _)]) (ho.sub ⟨rfl, rfl, rfl, rfl, rfl, rfl, rfl, trivial⟩) hs ?_
                        refine .drop (.s .z) ?_
                        refine .region ?_
                        refine .skips 1 rfl ?_
                        refine .add rfl rfl rfl rfl ?_
                        refine .sub (E' := [(0, _), (1, _), (2, _), (3, _), (8, _), (10, _), (42, _), (43, _)]) ⟨rfl, rfl, rfl, rfl, rfl, rfl, rfl, rfl, trivial⟩ ?_
                        refine .skips 1 rfl ?_
                        exact .nil' fun c w ho hs => ⟨((s666 ++ ([({ From := x761.Row, To := x770.Col, W := x779.Val } : Edge)])), w64 (s670 + 1)), hd, I673, _, _, le676, ho.sub ⟨rfl, rfl, rfl, rfl, rfl, rfl, rfl, trivial⟩, hs.pick (.c (.s .z) (.c .z .n))⟩
              · have hd := hd.2 hb678
                refine .exit fun c w ho hs => Cod.at (E := [(0, _), (1, _), (2, _), (8, _), (10, _)]) (ho.sub ⟨rfl, rfl, rfl, rfl, rfl, trivial⟩) hs ?_
                refine .seq ?_
                refine .region ?_
                refine .skips 2 rfl ?_
                refine .pub (.s .z) fun I810 hl811 R812 => ?_
                have le813 := IH.le.trans le675 hl811
                have le814 := IH.le.trans le676 hl811
                have hw824 := W_ref05_Combine (I := I810) R812 hd
                refine .call Tryz.call43 rfl hw824 rfl rfl fun v819 I816 hl817 hv818 => ?_
                obtain ⟨r815, p821, c822, rfl, R823, hd⟩ := hv818
                have le825 := IH.le.trans le813 hl817
                have le826 := IH.le.trans le814 hl817
                replace R812 := R812.mono hl817
                refine .skips 1 rfl ?_
                refine .extract rfl rfl rfl rfl ?_
                refine .extract rfl rfl rfl rfl ?_
                refine .sub (E' := [(0, _), (1, _), (2, _), (8, _), (97, _), (98, _), (99, _), (96, _), (100, _), (101, _)]) ⟨rfl, rfl, rfl, rfl, rfl, rfl, rfl, rfl, rfl, rfl, trivial⟩ ?_
                refine .skips 2 rfl ?_
                refine .nil' fun c w ho hs => Cod.at (E := [(1, _), (2, _), (8, _), (10, _), (12, _)]) (ho.sub ⟨rfl, rfl, rfl, rfl, rfl, trivial⟩) hs ?_
                refine .seq ?_
                refine .seq ?_
                refine .region ?_
                refine .skips 1 rfl ?_
                refine .ne rfl rfl rfl rfl ?_
                refine .nil' fun c w ho hs => Cod.at (E := [(1, _), (2, _), (8, _), (10, _), (12, _), (103, _)]) (ho.sub ⟨rfl, rfl, rfl, rfl, rfl, rfl, trivial⟩) hs ?_
                refine .cond rfl (fun hb828 => ?_) (fun hb828 => ?_)
                · have hd := hd.1 hb828
                  refine .seq ?_
                  refine .region ?_
                  refine .build Tryz.zeroValue29 Tryz.underlying29 BI29 .n (by exact trivial) rfl rfl ?_
                  refine .skips 1 rfl ?_
                  refine .storeA Tryz.sizeOf29 rfl rfl .z (.t (.t (.t (.t (.t .nil))))) rfl rfl ?_
                  refine .skips 1 rfl ?_
                  refine .nil' fun c w ho hs => Cod.at (E := [(8, _), (9, _)]) (ho.sub ⟨rfl, rfl, trivial⟩) hs ?_
                  exact .ret (pret Tryz.results11 (.w Tryz.isAgg29 Tryz.sizeOf29 rfl .z rfl (.t rfl .n)) le825 ⟨(({ Rows := 0, Cols := 0, Start := ([] : List Int), Col := ([] : List Int), Val := ([] : List Int) } : Rows), r815.2), _, _, _, _, _, _, rfl, (.nil _ _ _), (.nil _ _ _), (.nil _ _ _), hd⟩)
                · have hd := hd.2 hb828
                  refine .skip' fun c w ho hs => Cod.at (E := [(1, _), (2, _), (8, _), (10, _)]) (ho.sub ⟨rfl, rfl, rfl, rfl, trivial⟩) hs ?_
                  refine .seq ?_
                  refine .region ?_
                  refine .skips 1 rfl ?_
                  refine .nil' fun c w ho hs => Cod.at (E := [(1, _), (2, _), (8, _), (10, _), (13, _)]) (ho.sub ⟨rfl, rfl, rfl, rfl, rfl, trivial⟩) hs ?_
                  refine .seq ?_
                  refine .seq ?_
                  refine .region ?_
                  refine .skips 1 rfl ?_
                  refine .nil' fun c w ho hs => Cod.at (E := [(1, _), (2, _), (8, _), (10, _), (13, _), (14, _)]) (ho.sub ⟨rfl, rfl, rfl, rfl, rfl, rfl, trivial⟩) hs ?_
                  refine .block ?_
                  refine .own0 eTriple 60 ?_
                  refine .loop hd (fun (s : (List Triple) × Int) c w => match s with | (s916, s920) => ∃ I_ p917 c918, IH.le I816 I_ ∧ Ok 135 [(1, .int .i64 a1), (2, .int .i64 a2), (8, .pointer (some ⟨b15, 0, none⟩)), (10, .slice p821 r815.1.length c822), (13, .slice p917 s916.length c918), (14, .int .i64 s920)] c ∧ Sym w0 M I I_ [pto b15 (.cells #[.int .i64 0, .int .i64 0, .slice none 0 0, .slice none 0 0, .slice none 0 0] 29 (0, 0)), OwnSl eTriple 60 p917 c918 s916] w) (fun c w ho hs => ⟨I816, _, _, (.refl _), ho.sub ⟨rfl, rfl, rfl, rfl, rfl, rfl, trivial⟩, hs.pick (.c (.s .z) (.c .z .n))⟩) ?_
                  rintro ⟨s916, s920⟩ next922 hd c w hst
                  obtain ⟨I923, p917, c918, hl924, hok, hsym⟩ := hst
                  have le925 := IH.le.trans le825 hl924
                  have le926 := IH.le.trans le826 hl924
                  have le927 := IH.le.trans (.refl _) hl924
                  replace R823 := R823.mono hl924
                  refine Cod.at hok hsym ?_
                  refine .seq ?_
                  refine .seq ?_
                  refine .region ?_
                  refine .skips 2 rfl ?_
                  refine .len Tryz.underlying48 rfl rfl rfl rfl ?_
                  refine .lt rfl rfl rfl rfl ?_
                  refine .nil' fun c w ho hs => Cod.at (E := [(1, _), (2, _), (8, _), (10, _), (13, _), (14, _), (109, _)]) (ho.sub ⟨rfl, rfl, rfl, rfl, rfl, rfl, rfl, trivial⟩) hs ?_
                  refine .cond rfl (fun hb929 => ?_) (fun hb929 => ?_)
                  · have hd := hd.1 hb929
                    refine .skip' fun c w ho hs => Cod.at (E := [(1, _), (2, _), (8, _), (10, _), (13, _), (14, _)]) (ho.sub ⟨rfl, rfl, rfl, rfl, rfl, rfl, trivial⟩) hs ?_
                    refine .seq ?_
                    refine .block ?_
                    refine .ownF (.s .z) fun hne930 => ?_
                    refine .draw [some 0, some 1, some 2, some 3, some 4, some 5, some 6, some 7, some 8, some 9, some 10, some 11, some 12, some 13, some 14, some 15, some 16, some 17, some 18] 19 MX (by kernel_rfl) (by kernel_rfl) (by kernel_rfl) (by kernel_rfl) (by kernel_rfl) (by kernel_rfl) (by kernel_rfl) (fun ex => (pto b15 (.cells #[.int .i64 0, .int .i64 0, .slice none 0 0, .slice none 0 0, .slice none 0 0] 29 (0, 0))) :: (OwnSl eTriple 60 p917 c918 s916) :: ex) (fun _ _ => (.s (.s .z))) rfl ?_
                    refine .f [] rfl (by kernel_rfl) rfl rfl (fun ex => .move rfl rfl rfl .mk) ?_
                    refine .f [] rfl (by kernel_rfl) rfl rfl (fun ex => .move rfl rfl rfl .mk) ?_
                    refine .f [] rfl (by kernel_rfl) rfl rfl (fun ex => .move rfl rfl rfl .mk) ?_
                    obtain ⟨h931, x932, hx933, hd⟩ := hd
                    obtain ⟨b934, o935, cs936, e937, hC938, hr939⟩ := R823.2 _ _ hx933
                    cases hr939
                    refine .f [1, 2] rfl (by kernel_rfl) rfl rfl (fun ex => .ixa Tryz.underlying48 Tryz.sizeOf55 rfl e937 rfl h931 (idx_lt hx933 h931) rfl rfl .mk) ?_
                    refine .f [3] rfl (by kernel_rfl) rfl rfl (fun ex => .fieldAddr Tryz.underlying55 rfl Tryz.sizeOf3 rfl (o := o935 + s920.toNat * 3) rfl rfl rfl .mk) ?_
                    refine .f [4] rfl (by kernel_rfl) rfl rfl (fun ex => .ld1 (j := 0) Tryz.isAgg3 hC938 rfl rfl rfl rfl rfl .mk) ?_
                    refine .f [] rfl (by kernel_rfl) rfl rfl (fun ex => .move rfl rfl rfl .mk) ?_
                    refine .f [] rfl (by kernel_rfl) rfl rfl (fun ex => .move rfl rfl rfl .mk) ?_
                    obtain ⟨h940, x941, hx942, hd⟩ := hd
                    obtain ⟨b943, o944, cs945, e946, hC947, hr948⟩ := R823.2 _ _ hx942
                    cases hr948
                    refine .f [6, 7] rfl (by kernel_rfl) rfl rfl (fun ex => .ixa Tryz.underlying48 Tryz.sizeOf55 rfl e946 rfl h940 (idx_lt hx942 h940) rfl rfl .mk) ?_
                    refine .f [8] rfl (by kernel_rfl) rfl rfl (fun ex => .fieldAddr Tryz.underlying55 rfl Tryz.sizeOf3 rfl (o := o944 + s920.toNat * 3 + 1) rfl rfl rfl .mk) ?_
                    refine .f [9] rfl (by kernel_rfl) rfl rfl (fun ex => .ld1 (j := 1) Tryz.isAgg3 hC947 rfl rfl rfl rfl rfl .mk) ?_
                    refine .f [] rfl (by kernel_rfl) rfl rfl (fun ex => .move rfl rfl rfl .mk) ?_
                    refine .f [] rfl (by kernel_rfl) rfl rfl (fun ex => .move rfl rfl rfl .mk) ?_
                    obtain ⟨h949, x950, hx951, hd⟩ := hd
                    obtain ⟨b952, o953, cs954, e955, hC956, hr957⟩ := R823.2 _ _ hx951
                    cases hr957
                    refine .f [11, 12] rfl (by kernel_rfl) rfl rfl (fun ex => .ixa Tryz.underlying48 Tryz.sizeOf55 rfl e955 rfl h949 (idx_lt hx951 h949) rfl rfl .mk) ?_
                    refine .f [13] rfl (by kernel_rfl) rfl rfl (fun ex => .fieldAddr Tryz.underlying55 rfl Tryz.sizeOf2 rfl (o := o953 + s920.toNat * 3 + 2) rfl rfl rfl .mk) ?_
                    refine .f [14] rfl (by kernel_rfl) rfl rfl (fun ex => .ld1 (j := 2) Tryz.isAgg2 hC956 rfl rfl rfl rfl rfl .mk) ?_
                    refine .f [5, 10, 15] rfl (by kernel_rfl) rfl rfl (fun ex => .build Tryz.zeroValue60 Tryz.underlying60 BI60 (.c rfl rfl rfl (.t .nil) (.c rfl rfl rfl (.s (.t .nil)) (.c rfl rfl rfl (.s (.s (.t .nil))) .n))) (by exact ⟨⟨_, _, rfl, rfl, rfl⟩, ⟨⟨_, _, rfl, rfl, rfl⟩, ⟨⟨_, _, rfl, rfl, rfl⟩, trivial⟩⟩⟩) rfl rfl .mk) ?_
                    refine .w [0] [[], [16], [15, 16], [14, 15, 16], [13, 14, 15, 16], [13, 14, 15, 16], [16], [10, 16], [9, 10, 16], [8, 9, 10, 16], [8, 9, 10, 16], [16], [5, 16], [4, 5, 16], [3, 4, 5, 16], [3, 4, 5, 16]] [16] rfl (by kernel_rfl) (by kernel_rfl) (by kernel_rfl) ((dropE_kept rfl rfl)) (.inr (dropE_kept rfl rfl)) fun ex => ?_
                    refine .buildSlice 1 Tryz.underlying24 Tryz.sizeOf60 Tryz.zeroValue60 rfl rfl (.c rfl rfl rfl .n) rfl rfl fun b958 => ?_
                    refine .some (fun ex => (pto b958 (.cells #[.int .i64 x932.From, .int .i64 x941.To, .int .i64 x950.W] 60 (0, 0))) :: (pto b15 (.cells #[.int .i64 0, .int .i64 0, .slice none 0 0, .slice none 0 0, .slice none 0 0] 29 (0, 0))) :: (OwnSl eTriple 60 p917 c918 s916) :: ex) rfl (fun _ _ => (.s (.s (.s .z)))) rfl (.cc [] rfl (by kernel_rfl) rfl rfl rfl (fun ex => .move rfl rfl rfl .mk) trivial) ?_
                    refine .w [] [[]] [0, 17] rfl (by kernel_rfl) (by kernel_rfl) (by kernel_rfl) ((dropE_kept rfl rfl)) (.inr (dropE_kept rfl rfl)) fun ex => ?_
                    obtain ⟨hl960, hd⟩ := hd
                    refine .append (ys := [({ Row := x932.From, Col := x941.To, Val := x950.W } : Triple)]) 24 (.s (.s .z)) Tryz.underlying24 Tryz.underlying24 IN60 rfl rfl rfl rfl rfl rfl rfl rfl rfl (.box .z (.one rfl) rfl) hl960 rfl rfl fun p961 c962 => ?_
                    refine .some (fun ex => (OwnSl eTriple 60 p961 c962 (s916 ++ ([({ Row := x932.From, Col := x941.To, Val := x950.W } : Triple)]))) :: (pto b958 (.cells #[.int .i64 x932.From, .int .i64 x941.To, .int .i64 x950.W] 60 (0, 0))) :: (pto b15 (.cells #[.int .i64 0, .int .i64 0, .slice none 0 0, .slice none 0 0, .slice none 0 0] 29 (0, 0))) :: ex) rfl (fun _ _ => (.s (.s (.s .z)))) rfl trivial ?_
                    refine .e 19 (by kernel_rfl) (by kernel_rfl) (by kernel_rfl) ?_
                    refine .sub (E' := [(1, _), (2, _), (8, _), (10, _), (14, _), (112, _), (113, _), (114, _), (115, _), (116, _), (117, _), (118, _), (119, _), (120, _), (121, _), (122, _), (123, _), (124, _), (125, _), (126, _), (127, _), (128, _), (129, _), (130, _)]) ⟨rfl, rfl, rfl, rfl, rfl, rfl, rfl, rfl, rfl, rfl, rfl, rfl, rfl, rfl, rfl, rfl, rfl, rfl, rfl, rfl, rfl, rfl, rfl, rfl, trivial⟩ ?_
                    refine .skips 1 rfl ?_
                    refine .nil' fun c w ho hs => Cod.at (E := [(1, _), (2, _), (8, _), (10, _), (14, _), (13, _)]) (ho.sub ⟨rfl, rfl, rfl, rfl, rfl, rfl, trivial⟩) hs ?_
                    refine .drop (.s .z) ?_
                    refine .region ?_
                    refine .skips 1 rfl ?_
                    refine .add rfl rfl rfl rfl ?_
                    refine .sub (E' := [(1, _), (2, _), (8, _), (10, _), (13, _), (110, _), (111, _)]) ⟨rfl, rfl, rfl, rfl, rfl, rfl, rfl, trivial⟩ ?_
                    refine .skips 1 rfl ?_
                    exact .nil' fun c w ho hs => ⟨((s916 ++ ([({ Row := x932.From, Col := x941.To, Val := x950.W } : Triple)])), w64 (s920 + 1)), hd, I923, _, _, le927, ho.sub ⟨rfl, rfl, rfl, rfl, rfl, rfl, trivial⟩, hs.pick (.c (.s .z) (.c .z .n))⟩
                  · have hd := hd.2 hb929
                    refine .exit fun c w ho hs => Cod.at (E := [(1, _), (2, _), (8, _), (13, _)]) (ho.sub ⟨rfl, rfl, rfl, rfl, trivial⟩) hs ?_
                    refine .seq ?_
                    refine .region ?_
                    refine .skips 3 rfl ?_
                    refine .pub (.s .z) fun I964 hl965 R966 => ?_
                    have le967 := IH.le.trans le925 hl965
                    have le968 := IH.le.trans le926 hl965
                    have le969 := IH.le.trans le927 hl965
                    have hw985 := W_ref07_built (I := I964) R966 hd
                    refine .call Tryz.call44 rfl hw985 rfl rfl fun v974 I971 hl972 hv973 => ?_
                    obtain ⟨r970, p976, c977, p979, c980, p982, c983, rfl, R978, R981, R984, hd⟩ := hv973
                    have le986 := IH.le.trans le967 hl972
                    have le987 := IH.le.trans le968 hl972
                    have le988 := IH.le.trans le969 hl972
                    replace R966 := R966.mono hl972
                    refine .storeA Tryz.sizeOf29 rfl rfl .z (.t (.t (.t (.t (.t .nil))))) rfl rfl ?_
                    refine .skips 1 rfl ?_
                    refine .nil' fun c w ho hs => Cod.at (E := [(8, _), (9, _)]) (ho.sub ⟨rfl, rfl, trivial⟩) hs ?_
                    exact .ret (pret Tryz.results11 (.w Tryz.isAgg29 Tryz.sizeOf29 rfl .z rfl (.t rfl .n)) le986 ⟨(r970, 0), _, _, _, _, _, _, rfl, R978, R981, R984, hd⟩)

theorem W_law07_Size {I : IH} {a0 : Int}  {Q : Int → Prop}  (hd : law07_Size a0 Q) :
    PFun Tryz.prog 36 [.int .u8 a0] I (fun I_ v => ∃ r, v = .int .i64 r ∧ Q r) := by
  refine Fun.enter Tryz.func36 rfl Tryz.ntmps36 rfl (.c .n) fun w0 M => ?_
  refine .seq ?_
  refine .region ?_
  refine .skips 1 rfl ?_
  refine .nil' fun c w ho hs => Cod.at (E := [(0, _)]) (ho.sub ⟨rfl, trivial⟩) hs ?_
  refine .seq ?_
  refine .region ?_
  refine .skips 1 rfl ?_
  refine .conv Tryz.underlying5 Tryz.underlying3 rfl rfl rfl ?_
  refine .rem rfl rfl (by decide) rfl rfl ?_
  refine .skips 1 rfl ?_
  refine .nil' fun c w ho hs => Cod.at (E := [(2, _)]) (ho.sub ⟨rfl, trivial⟩) hs ?_
  exact .ret (pret Tryz.results36 (.t rfl .n) (.refl _) ⟨((w64 (a0)).tmod 40), rfl, hd⟩)

theorem W_law07_Some {I : IH} {a0 : Int × Int} {a1 : List Triple} {p1 : Option Addr} {c2 : Nat} {Q : Rows → Prop} (R3 : RepSl eTriple I p1 c2 a1) (hd : law07_Some a0 a1 Q) :
    PFun Tryz.prog 34 [.agg #[.int .u8 a0.1, .int .u8 a0.2], .slice p1 a1.length c2] I (fun I_ v => ∃ r p4 c5 p7 c8 p10 c11, v = .agg #[.int .i64 r.Rows, .int .i64 r.Cols, .slice p4 r.Start.length c5, .slice p7 r.Col.length c8, .slice p10 r.Val.length c11] ∧ RepSl eI64 I_ p4 c5 r.Start ∧ RepSl eI64 I_ p7 c8 r.Col ∧ RepSl eI64 I_ p10 c11 r.Val ∧ Q r) := by
  refine Fun.enter Tryz.func34 rfl Tryz.ntmps34 rfl (.c (.c .n)) fun w0 M => ?_
  refine .seq ?_
  refine .region ?_
  refine .boxA rfl rfl rfl fun b17 => ?_
  refine .allocA Tryz.zeroValue29 rfl rfl fun b19 => ?_
  refine .nil' fun c w ho hs => Cod.at (E := [(1, _), (2, _), (4, _)]) (ho.sub ⟨rfl, rfl, rfl, trivial⟩) hs ?_
  refine .seq ?_
  refine .draw [some 0, some 1, some 3, some 4, some 2, some 5, some 6] 7 MX (by kernel_rfl) (by kernel_rfl) (by kernel_rfl) (by kernel_rfl) (by kernel_rfl) (by kernel_rfl) (by kernel_rfl) (fun ex => (pto b19 (.cells #[.int .i64 0, .int .i64 0, .slice none 0 0, .slice none 0 0, .slice none 0 0] 29 (0, 0))) :: (pto b17 (.cells #[.int .u8 a0.1, .int .u8 a0.2] 57 (0, 0))) :: ex) (fun _ _ => (.s (.s .z))) rfl ?_
  refine .f [] rfl (by kernel_rfl) rfl rfl (fun ex => .ixArr (i := 0) Tryz.underlying57 Tryz.sizeOf5 rfl rfl (by decide) (o := 0) rfl rfl rfl .mk) ?_
  refine .f [0] rfl (by kernel_rfl) rfl rfl (fun ex => .load1 Tryz.isAgg5 rfl (.s .z) rfl rfl rfl .mk) ?_
  refine .f [] rfl (by kernel_rfl) rfl rfl (fun ex => .ixArr (i := 1) Tryz.underlying57 Tryz.sizeOf5 rfl rfl (by decide) (o := 1) rfl rfl rfl .mk) ?_
  refine .f [3] rfl (by kernel_rfl) rfl rfl (fun ex => .load1 Tryz.isAgg5 rfl (.s .z) rfl rfl rfl .mk) ?_
  refine .w [4, 3] [[], [1]] [1] rfl (by kernel_rfl) (by kernel_rfl) (by kernel_rfl) ((dropE_kept rfl rfl)) (.inr (dropE_kept rfl rfl)) fun ex => ?_
  have hw43 := W_law07_Size (I := I) hd
  refine .call Tryz.call36 rfl hw43 rfl rfl fun v41 I38 hl39 hv40 => ?_
  obtain ⟨r37, rfl, hd⟩ := hv40
  have le44 := IH.le.trans (.refl _) hl39
  replace R3 := R3.mono hl39
  refine .some (fun ex => (pto b19 (.cells #[.int .i64 0, .int .i64 0, .slice none 0 0, .slice none 0 0, .slice none 0 0] 29 (0, 0))) :: (pto b17 (.cells #[.int .u8 a0.1, .int .u8 a0.2] 57 (0, 0))) :: ex) rfl (fun _ _ => (.s (.s .z))) rfl (.cc [3] rfl (by kernel_rfl) rfl rfl rfl (fun ex => .load1 Tryz.isAgg5 rfl (.s .z) rfl rfl rfl .mk) (.cc [] rfl (by kernel_rfl) rfl rfl rfl (fun ex => .ixArr (i := 1) Tryz.underlying57 Tryz.sizeOf5 rfl rfl (by decide) (o := 1) rfl rfl rfl .mk) trivial)) ?_
  refine .w [] [[], [4]] [4, 2] rfl (by kernel_rfl) (by kernel_rfl) (by kernel_rfl) ((dropE_kept rfl rfl)) (.inr (dropE_kept rfl rfl)) fun ex => ?_
  have hw51 := W_law07_Size (I := I38) hd
  refine .call Tryz.call36 rfl hw51 rfl rfl fun v49 I46 hl47 hv48 => ?_
  obtain ⟨r45, rfl, hd⟩ := hv48
  have le52 := IH.le.trans le44 hl47
  replace R3 := R3.mono hl47
  refine .some (fun ex => (pto b19 (.cells #[.int .i64 0, .int .i64 0, .slice none 0 0, .slice none 0 0, .slice none 0 0] 29 (0, 0))) :: (pto b17 (.cells #[.int .u8 a0.1, .int .u8 a0.2] 57 (0, 0))) :: ex) rfl (fun _ _ => (.s (.s .z))) rfl trivial ?_
  refine .f [2, 5, 0, 1, 2] rfl (by kernel_rfl) rfl rfl (fun ex => .assign rfl rfl rfl .mk) ?_
  refine .e 7 (by kernel_rfl) (by kernel_rfl) (by kernel_rfl) ?_
  refine .skips 1 rfl ?_
  refine .nil' fun c w ho hs => Cod.at (E := [(1, _), (4, _), (5, _), (6, _)]) (ho.sub ⟨rfl, rfl, rfl, rfl, trivial⟩) hs ?_
  refine .drop (.s .z) ?_
  refine .seq ?_
  refine .region ?_
  refine .skips 1 rfl ?_
  refine .nil' fun c w ho hs => Cod.at (E := [(1, _), (4, _), (5, _), (6, _), (7, _)]) (ho.sub ⟨rfl, rfl, rfl, rfl, rfl, trivial⟩) hs ?_
  refine .seq ?_
  refine .region ?_
  refine .skips 1 rfl ?_
  have hw73 := W_law07_Few (I := I46) R3 hd
  refine .call Tryz.call9 rfl hw73 rfl rfl fun v68 I65 hl66 hv67 => ?_
  obtain ⟨r64, p70, c71, rfl, R72, hd⟩ := hv67
  have le74 := IH.le.trans le52 hl66
  replace R3 := R3.mono hl66
  refine .sub (E' := [(4, _), (5, _), (6, _), (7, _), (18, _), (19, _)]) ⟨rfl, rfl, rfl, rfl, rfl, rfl, trivial⟩ ?_
  refine .skips 1 rfl ?_
  refine .nil' fun c w ho hs => Cod.at (E := [(4, _), (5, _), (6, _), (7, _), (1, _)]) (ho.sub ⟨rfl, rfl, rfl, rfl, rfl, trivial⟩) hs ?_
  refine .seq ?_
  refine .seq ?_
  refine .region ?_
  refine .skips 1 rfl ?_
  refine .nil' fun c w ho hs => Cod.at (E := [(4, _), (5, _), (6, _), (7, _), (1, _), (8, _)]) (ho.sub ⟨rfl, rfl, rfl, rfl, rfl, rfl, trivial⟩) hs ?_
  refine .block ?_
  refine .own0 eTriple 60 ?_
  refine .loop hd (fun (s : (List Triple) × Int) c w => match s with | (s323, s327) => ∃ I_ p324 c325, IH.le I65 I_ ∧ Ok 73 [(1, .slice p70 r64.length c71), (4, .pointer (some ⟨b19, 0, none⟩)), (5, .int .i64 r37), (6, .int .i64 r45), (7, .slice p324 s323.length c325), (8, .int .i64 s327)] c ∧ Sym w0 M I I_ [pto b19 (.cells #[.int .i64 0, .int .i64 0, .slice none 0 0, .slice none 0 0, .slice none 0 0] 29 (0, 0)), OwnSl eTriple 60 p324 c325 s323] w) (fun c w ho hs => ⟨I65, _, _, (.refl _), ho.sub ⟨rfl, rfl, rfl, rfl, rfl, rfl, trivial⟩, hs.pick (.c (.s .z) (.c .z .n))⟩) ?_
  rintro ⟨s323, s327⟩ next329 hd c w hst
  obtain ⟨I330, p324, c325, hl331, hok, hsym⟩ := hst
  have le332 := IH.le.trans le74 hl331
  have le333 := IH.le.trans (.refl _) hl331
  replace R72 := R72.mono hl331
  refine Cod.at hok hsym ?_
  refine .seq ?_
  refine .seq ?_
  refine .region ?_
  refine .skips 2 rfl ?_
  refine .len Tryz.underlying24 rfl rfl rfl rfl ?_
  refine .lt rfl rfl rfl rfl ?_
  refine .nil' fun c w ho hs => Cod.at (E := [(1, _), (4, _), (5, _), (6, _), (7, _), (8, _), (23, _)]) (ho.sub ⟨rfl, rfl, rfl, rfl, rfl, rfl, rfl, trivial⟩) hs ?_
  refine .cond rfl (fun hb335 => ?_) (fun hb335 => ?_)
  · have hd := hd.1 hb335
    refine .skip' fun c w ho hs => Cod.at (E := [(1, _), (4, _), (5, _), (6, _), (7, _), (8, _)]) (ho.sub ⟨rfl, rfl, rfl, rfl, rfl, rfl, trivial⟩) hs ?_
    refine .seq ?_
    refine .block ?_
    refine .seq ?_
    refine .region ?_
    refine .skips 2 rfl ?_
    obtain ⟨h347, x348, hx349, hd⟩ := hd
    obtain ⟨b350, o351, cs352, e353, hC354, hr355⟩ := R72.2 _ _ hx349
    cases hr355
    refine .ixa Tryz.underlying24 Tryz.sizeOf60 rfl e353 rfl h347 (idx_lt hx349 h347) rfl rfl ?_
    refine .ldW Tryz.isAgg60 Tryz.sizeOf60 hC354 rfl rfl rfl rfl ?_
    refine .allocA Tryz.zeroValue60 rfl rfl fun b356 => ?_
    refine .storeA Tryz.sizeOf60 rfl rfl .z (.t (.t (.t .nil))) rfl rfl ?_
    refine .nil' fun c w ho hs => Cod.at (E := [(1, _), (4, _), (5, _), (6, _), (7, _), (8, _), (9, _)]) (ho.sub ⟨rfl, rfl, rfl, rfl, rfl, rfl, rfl, trivial⟩) hs ?_
    refine .seq ?_
    refine .seq ?_
    refine .region ?_
    refine .fieldAddr Tryz.underlying60 rfl Tryz.sizeOf3 rfl (o := 0) rfl rfl rfl ?_
    refine .load1 Tryz.isAgg3 rfl .z rfl rfl rfl ?_
    refine .lt rfl rfl rfl rfl ?_
    refine .skips 1 rfl ?_
    refine split (decide (x348.Row < 0)) (fun hb362 => ?_) (fun hb362 => ?_)
    · have hd := hd.1 hb362
      rw [hb362]
      refine .skips 12 rfl ?_
      refine .nil' fun c w ho hs => Cod.at (E := [(1, _), (4, _), (5, _), (6, _), (7, _), (8, _), (9, _), (45, _)]) (ho.sub ⟨rfl, rfl, rfl, rfl, rfl, rfl, rfl, rfl, trivial⟩) hs ?_
      refine .condKT rfl rfl ?_
      refine .exit fun c w ho hs => Cod.at (E := [(1, _), (4, _), (5, _), (6, _), (7, _), (8, _)]) (ho.sub ⟨rfl, rfl, rfl, rfl, rfl, rfl, trivial⟩) hs ?_
      refine .drop .z ?_
      refine .region ?_
      refine .skips 1 rfl ?_
      refine .add rfl rfl rfl rfl ?_
      refine .sub (E' := [(1, _), (4, _), (5, _), (6, _), (7, _), (24, _), (25, _)]) ⟨rfl, rfl, rfl, rfl, rfl, rfl, rfl, trivial⟩ ?_
      refine .skips 1 rfl ?_
      exact .nil' fun c w ho hs => ⟨(s323, w64 (s327 + 1)), hd, I330, _, _, le333, ho.sub ⟨rfl, rfl, rfl, rfl, rfl, rfl, trivial⟩, hs.pick (.c .z (.c .z .n))⟩
    · have hd := hd.2 hb362
      rw [hb362]
      refine .gyes rfl rfl rfl (.fieldAddr Tryz.underlying60 rfl Tryz.sizeOf3 rfl (o := 1) rfl rfl rfl ?_)
      refine .gyes rfl rfl rfl (.load1 Tryz.isAgg3 rfl .z rfl rfl rfl ?_)
      refine .gyes rfl rfl rfl (.lt rfl rfl rfl rfl ?_)
      refine .skips 2 rfl ?_
      refine split (decide (x348.Col < 0)) (fun hb363 => ?_) (fun hb363 => ?_)
      · have hd := hd.1 hb363
        rw [hb363]
        refine .skips 7 rfl ?_
        refine .nil' fun c w ho hs => Cod.at (E := [(1, _), (4, _), (5, _), (6, _), (7, _), (8, _), (9, _), (45, _)]) (ho.sub ⟨rfl, rfl, rfl, rfl, rfl, rfl, rfl, rfl, trivial⟩) hs ?_
        refine .condKT rfl rfl ?_
        refine .exit fun c w ho hs => Cod.at (E := [(1, _), (4, _), (5, _), (6, _), (7, _), (8, _)]) (ho.sub ⟨rfl, rfl, rfl, rfl, rfl, rfl, trivial⟩) hs ?_
        refine .drop .z ?_
        refine .region ?_
        refine .skips 1 rfl ?_
        refine .add rfl rfl rfl rfl ?_
        refine .sub (E' := [(1, _), (4, _), (5, _), (6, _), (7, _), (24, _), (25, _)]) ⟨rfl, rfl, rfl, rfl, rfl, rfl, rfl, trivial⟩ ?_
        refine .skips 1 rfl ?_
        exact .nil' fun c w ho hs => ⟨(s323, w64 (s327 + 1)), hd, I330, _, _, le333, ho.sub ⟨rfl, rfl, rfl, rfl, rfl, rfl, trivial⟩, hs.pick (.c .z (.c .z .n))⟩
      · have hd := hd.2 hb363
        rw [hb363]
        refine .gyes rfl rfl rfl (.move rfl rfl rfl ?_)
        refine .gyes rfl rfl rfl (.eq rfl rfl rfl rfl ?_)
        refine .skips 2 rfl ?_
        refine split (r37 == 0) (fun hb364 => ?_) (fun hb364 => ?_)
        · have hd := hd.1 hb364
          rw [hb364]
          refine .skips 3 rfl ?_
          refine .nil' fun c w ho hs => Cod.at (E := [(1, _), (4, _), (5, _), (6, _), (7, _), (8, _), (9, _), (45, _)]) (ho.sub ⟨rfl, rfl, rfl, rfl, rfl, rfl, rfl, rfl, trivial⟩) hs ?_
          refine .condKT rfl rfl ?_
          refine .exit fun c w ho hs => Cod.at (E := [(1, _), (4, _), (5, _), (6, _), (7, _), (8, _)]) (ho.sub ⟨rfl, rfl, rfl, rfl, rfl, rfl, trivial⟩) hs ?_
          refine .drop .z ?_
          refine .region ?_
          refine .skips 1 rfl ?_
          refine .add rfl rfl rfl rfl ?_
          refine .sub (E' := [(1, _), (4, _), (5, _), (6, _), (7, _), (24, _), (25, _)]) ⟨rfl, rfl, rfl, rfl, rfl, rfl, rfl, trivial⟩ ?_
          refine .skips 1 rfl ?_
          exact .nil' fun c w ho hs => ⟨(s323, w64 (s327 + 1)), hd, I330, _, _, le333, ho.sub ⟨rfl, rfl, rfl, rfl, rfl, rfl, trivial⟩, hs.pick (.c .z (.c .z .n))⟩
        · have hd := hd.2 hb364
          rw [hb364]
          refine .gyes rfl rfl rfl (.move rfl rfl rfl ?_)
          refine .gyes rfl rfl rfl (.eq rfl rfl rfl rfl ?_)
          refine .skips 1 rfl ?_
          refine .nil' fun c w ho hs => Cod.at (E := [(1, _), (4, _), (5, _), (6, _), (7, _), (8, _), (9, _), (45, _)]) (ho.sub ⟨rfl, rfl, rfl, rfl, rfl, rfl, rfl, rfl, trivial⟩) hs ?_
          refine .cond rfl (fun hb365 => ?_) (fun hb365 => ?_)
          · have hd := hd.1 hb365
            refine .exit fun c w ho hs => Cod.at (E := [(1, _), (4, _), (5, _), (6, _), (7, _), (8, _)]) (ho.sub ⟨rfl, rfl, rfl, rfl, rfl, rfl, trivial⟩) hs ?_
            refine .drop .z ?_
            refine .region ?_
            refine .skips 1 rfl ?_
            refine .add rfl rfl rfl rfl ?_
            refine .sub (E' := [(1, _), (4, _), (5, _), (6, _), (7, _), (24, _), (25, _)]) ⟨rfl, rfl, rfl, rfl, rfl, rfl, rfl, trivial⟩ ?_
            refine .skips 1 rfl ?_
            exact .nil' fun c w ho hs => ⟨(s323, w64 (s327 + 1)), hd, I330, _, _, le333, ho.sub ⟨rfl, rfl, rfl, rfl, rfl, rfl, trivial⟩, hs.pick (.c .z (.c .z .n))⟩
          · have hd := hd.2 hb365
            refine .skip' fun c w ho hs => Cod.at (E := [(1, _), (4, _), (5, _), (6, _), (7, _), (8, _), (9, _)]) (ho.sub ⟨rfl, rfl, rfl, rfl, rfl, rfl, rfl, trivial⟩) hs ?_
            refine .seq ?_
            refine .region ?_
            refine .fieldAddr Tryz.underlying60 rfl Tryz.sizeOf3 rfl (o := 0) rfl rfl rfl ?_
            refine .load1 Tryz.isAgg3 rfl .z rfl rfl rfl ?_
            refine .skips 1 rfl ?_
            obtain ⟨hz367, hd⟩ := hd
            refine .rem rfl rfl hz367 rfl rfl ?_
            refine .fieldAddr Tryz.underlying60 rfl Tryz.sizeOf3 rfl (o := 0) rfl rfl rfl ?_
            refine .store1 Tryz.sizeOf3 rfl rfl .z (.t .nil) rfl ?_
            refine .nil' fun c w ho hs => Cod.at (E := [(1, _), (4, _), (5, _), (6, _), (7, _), (8, _), (9, _)]) (ho.sub ⟨rfl, rfl, rfl, rfl, rfl, rfl, rfl, trivial⟩) hs ?_
            refine .seq ?_
            refine .region ?_
            refine .fieldAddr Tryz.underlying60 rfl Tryz.sizeOf3 rfl (o := 1) rfl rfl rfl ?_
            refine .load1 Tryz.isAgg3 rfl .z rfl rfl rfl ?_
            refine .skips 1 rfl ?_
            obtain ⟨hz368, hd⟩ := hd
            refine .rem rfl rfl hz368 rfl rfl ?_
            refine .fieldAddr Tryz.underlying60 rfl Tryz.sizeOf3 rfl (o := 1) rfl rfl rfl ?_
            refine .store1 Tryz.sizeOf3 rfl rfl .z (.s (.t .nil)) rfl ?_
            refine .nil' fun c w ho hs => Cod.at (E := [(1, _), (4, _), (5, _), (6, _), (7, _), (8, _), (9, _)]) (ho.sub ⟨rfl, rfl, rfl, rfl, rfl, rfl, rfl, trivial⟩) hs ?_
            refine .region ?_
            refine .skips 1 rfl ?_
            refine .loadW Tryz.isAgg60 Tryz.sizeOf60 rfl .z rfl rfl rfl ?_
            refine .buildSlice 1 Tryz.underlying24 Tryz.sizeOf60 Tryz.zeroValue60 rfl rfl (.c rfl rfl rfl .n) rfl rfl fun b369 => ?_
            obtain ⟨hl371, hd⟩ := hd
            refine .append (ys := [({ Row := x348.Row.tmod r37, Col := x348.Col.tmod r45, Val := x348.Val } : Triple)]) 24 (.s (.s (.s .z))) Tryz.underlying24 Tryz.underlying24 IN60 rfl rfl rfl rfl rfl rfl rfl rfl rfl (.box .z (.one rfl) rfl) hl371 rfl rfl fun p372 c373 => ?_
            refine .sub (E' := [(1, _), (4, _), (5, _), (6, _), (8, _), (9, _), (56, _), (57, _), (58, _), (59, _)]) ⟨rfl, rfl, rfl, rfl, rfl, rfl, rfl, rfl, rfl, rfl, trivial⟩ ?_
            refine .skips 1 rfl ?_
            refine .nil' fun c w ho hs => Cod.at (E := [(1, _), (4, _), (5, _), (6, _), (8, _), (7, _)]) (ho.sub ⟨rfl, rfl, rfl, rfl, rfl, rfl, trivial⟩) hs ?_
            refine .drop (.s .z) ?_
            refine .drop (.s .z) ?_
            refine .region ?_
            refine .skips 1 rfl ?_
            refine .add rfl rfl rfl rfl ?_
            refine .sub (E' := [(1, _), (4, _), (5, _), (6, _), (7, _), (24, _), (25, _)]) ⟨rfl, rfl, rfl, rfl, rfl, rfl, rfl, trivial⟩ ?_
            refine .skips 1 rfl ?_
            exact .nil' fun c w ho hs => ⟨((s323 ++ ([({ Row := x348.Row.tmod r37, Col := x348.Col.tmod r45, Val := x348.Val } : Triple)])), w64 (s327 + 1)), hd, I330, _, _, le333, ho.sub ⟨rfl, rfl, rfl, rfl, rfl, rfl, trivial⟩, hs.pick (.c (.s .z) (.c .z .n))⟩
  · have hd := hd.2 hb335
    refine .exit fun c w ho hs => Cod.at (E := [(4, _), (5, _), (6, _), (7, _)]) (ho.sub ⟨rfl, rfl, rfl, rfl, trivial⟩) hs ?_
    refine .seq ?_
    refine .region ?_
    refine .skips 3 rfl ?_
    refine .pub (.s .z) fun I400 hl401 R402 => ?_
    have le403 := IH.le.trans le332 hl401
    have le404 := IH.le.trans le333 hl401
    have hw420 := W_ref07_Of (I := I400) R402 hd
    refine .call Tryz.call11 rfl hw420 rfl rfl fun v409 I406 hl407 hv408 => ?_
    obtain ⟨r405, p411, c412, p414, c415, p417, c418, rfl, R413, R416, R419, hd⟩ := hv408
    have le421 := IH.le.trans le403 hl407
    have le422 := IH.le.trans le404 hl407
    replace R402 := R402.mono hl407
    refine .skips 1 rfl ?_
    refine .extract rfl rfl rfl rfl ?_
    refine .extract rfl rfl rfl rfl ?_
    refine .allocA Tryz.zeroValue29 rfl rfl fun b423 => ?_
    refine .storeA Tryz.sizeOf29 rfl rfl .z (.t (.t (.t (.t (.t .nil))))) rfl rfl ?_
    refine .skips 1 rfl ?_
    refine .nil' fun c w ho hs => Cod.at (E := [(4, _), (5, _), (6, _), (10, _), (11, _)]) (ho.sub ⟨rfl, rfl, rfl, rfl, rfl, trivial⟩) hs ?_
    refine .seq ?_
    refine .seq ?_
    refine .region ?_
    refine .skips 1 rfl ?_
    refine .ne rfl rfl rfl rfl ?_
    refine .nil' fun c w ho hs => Cod.at (E := [(4, _), (5, _), (6, _), (10, _), (68, _)]) (ho.sub ⟨rfl, rfl, rfl, rfl, rfl, trivial⟩) hs ?_
    refine .cond rfl (fun hb425 => ?_) (fun hb425 => ?_)
    · have hd := hd.1 hb425
      refine .seq ?_
      refine .region ?_
      refine .skips 2 rfl ?_
      have hw444 := W_ref07_Empty (I := I406) hd
      refine .callO Tryz.call60 rfl hw444 rfl rfl fun v430 I427 l431 hl428 hv429 => ?_
      obtain ⟨r426, p432, c433, p435, c436, p438, c439, rfl, rfl, hd⟩ := hv429
      have le445 := IH.le.trans le421 hl428
      have le446 := IH.le.trans le422 hl428
      replace R413 := R413.mono hl428
      replace R416 := R416.mono hl428
      replace R419 := R419.mono hl428
      refine .storeA Tryz.sizeOf29 rfl rfl (.s (.s (.s (.s .z)))) (.t (.t (.t (.t (.t .nil))))) rfl rfl ?_
      refine .nil' fun c w ho hs => Cod.at (E := [(4, _)]) (ho.sub ⟨rfl, trivial⟩) hs ?_
      refine .drop (.s (.s (.s .z))) ?_
      refine .pub .z fun I447 hl448 R449 => ?_
      have le450 := IH.le.trans le445 hl448
      have le451 := IH.le.trans le446 hl448
      refine .pub .z fun I452 hl453 R454 => ?_
      have le455 := IH.le.trans le450 hl453
      have le456 := IH.le.trans le451 hl453
      replace R449 := R449.mono hl453
      refine .pub .z fun I457 hl458 R459 => ?_
      have le460 := IH.le.trans le455 hl458
      have le461 := IH.le.trans le456 hl458
      replace R449 := R449.mono hl458
      replace R454 := R454.mono hl458
      exact .ret (pret Tryz.results34 (.w Tryz.isAgg29 Tryz.sizeOf29 rfl .z rfl .n) le460 ⟨r426, _, _, _, _, _, _, rfl, R449, R454, R459, hd⟩)
    · have hd := hd.2 hb425
      refine .skip' fun c w ho hs => Cod.at (E := [(4, _), (10, _)]) (ho.sub ⟨rfl, rfl, trivial⟩) hs ?_
      refine .seq ?_
      refine .region ?_
      refine .loadW Tryz.isAgg29 Tryz.sizeOf29 rfl .z rfl rfl rfl ?_
      refine .storeA Tryz.sizeOf29 rfl rfl (.s .z) (.t (.t (.t (.t (.t .nil))))) rfl rfl ?_
      refine .nil' fun c w ho hs => Cod.at (E := [(4, _)]) (ho.sub ⟨rfl, trivial⟩) hs ?_
      refine .drop .z ?_
      exact .ret (pret Tryz.results34 (.w Tryz.isAgg29 Tryz.sizeOf29 rfl .z rfl .n) le421 ⟨r405.1, _, _, _, _, _, _, rfl, R413, R416, R419, hd⟩)

theorem W_law07_CsrTurns {I : IH} {a0 : Int × Int} {a1 : List Triple} {a2 : Int × Int} {p1 : Option Addr} {c2 : Nat} {Q : Bool → Prop} (R3 : RepSl eTriple I p1 c2 a1) (hd : law07_CsrTurns a0 a1 a2 Q) :
    PFun Tryz.prog 7 [.agg #[.int .u8 a0.1, .int .u8 a0.2], .slice p1 a1.length c2, .agg #[.int .u8 a2.1, .int .u8 a2.2]] I (fun I_ v => ∃ r, v = .bool r ∧ Q r) := by
  refine Fun.enter Tryz.func7 rfl Tryz.ntmps7 rfl (.c (.c (.c .n))) fun w0 M => ?_
  refine .seq ?_
  refine .region ?_
  refine .boxA rfl rfl rfl fun b8 => ?_
  refine .boxA rfl rfl rfl fun b10 => ?_
  refine .skips 1 rfl ?_
  refine .nil' fun c w ho hs => Cod.at (E := [(1, _), (3, _), (5, _)]) (ho.sub ⟨rfl, rfl, rfl, trivial⟩) hs ?_
  refine .seq ?_
  refine .region ?_
  refine .loadW Tryz.isAgg57 Tryz.sizeOf57 rfl (.s .z) rfl rfl rfl ?_
  refine .skips 1 rfl ?_
  have hw46 := W_law07_Some (I := I) R3 hd
  refine .call Tryz.call34 rfl hw46 rfl rfl fun v35 I32 hl33 hv34 => ?_
  obtain ⟨r31, p37, c38, p40, c41, p43, c44, rfl, R39, R42, R45, hd⟩ := hv34
  have le47 := IH.le.trans (.refl _) hl33
  replace R3 := R3.mono hl33
  refine .allocA Tryz.zeroValue29 rfl rfl fun b48 => ?_
  refine .storeA Tryz.sizeOf29 rfl rfl .z (.t (.t (.t (.t (.t .nil))))) rfl rfl ?_
  refine .nil' fun c w ho hs => Cod.at (E := [(5, _), (7, _)]) (ho.sub ⟨rfl, rfl, trivial⟩) hs ?_
  refine .drop (.s (.s .z)) ?_
  refine .seq ?_
  refine .region ?_
  refine .loadW Tryz.isAgg29 Tryz.sizeOf29 rfl .z rfl rfl rfl ?_
  have hw84 := W_csr_Turn (I := I32) R39 R42 R45 hd
  refine .call Tryz.call26 rfl hw84 rfl rfl fun v73 I70 hl71 hv72 => ?_
  obtain ⟨r69, p75, c76, p78, c79, p81, c82, rfl, R77, R80, R83, hd⟩ := hv72
  have le85 := IH.le.trans le47 hl71
  replace R39 := R39.mono hl71
  replace R42 := R42.mono hl71
  replace R45 := R45.mono hl71
  refine .allocA Tryz.zeroValue29 rfl rfl fun b86 => ?_
  refine .storeA Tryz.sizeOf29 rfl rfl .z (.t (.t (.t (.t (.t .nil))))) rfl rfl ?_
  refine .nil' fun c w ho hs => Cod.at (E := [(5, _), (7, _), (8, _)]) (ho.sub ⟨rfl, rfl, rfl, trivial⟩) hs ?_
  refine .seq ?_
  refine .draw [some 0, some 1, some 3, some 4, some 2, some 5, some 6] 7 MX (by kernel_rfl) (by kernel_rfl) (by kernel_rfl) (by kernel_rfl) (by kernel_rfl) (by kernel_rfl) (by kernel_rfl) (fun ex => (pto b86 (.cells #[.int .i64 r69.Rows, .int .i64 r69.Cols, .slice p75 r69.Start.length c76, .slice p78 r69.Col.length c79, .slice p81 r69.Val.length c82] 29 (0, 0))) :: (pto b48 (.cells #[.int .i64 r31.Rows, .int .i64 r31.Cols, .slice p37 r31.Start.length c38, .slice p40 r31.Col.length c41, .slice p43 r31.Val.length c44] 29 (0, 0))) :: (pto b10 (.cells #[.int .u8 a2.1, .int .u8 a2.2] 57 (0, 0))) :: ex) (fun _ _ => (.s (.s (.s .z)))) rfl ?_
  refine .f [] rfl (by kernel_rfl) rfl rfl (fun ex => .ixArr (i := 0) Tryz.underlying57 Tryz.sizeOf5 rfl rfl (by decide) (o := 0) rfl rfl rfl .mk) ?_
  refine .f [0] rfl (by kernel_rfl) rfl rfl (fun ex => .load1 Tryz.isAgg5 rfl (.s (.s .z)) rfl rfl rfl .mk) ?_
  refine .f [] rfl (by kernel_rfl) rfl rfl (fun ex => .ixArr (i := 1) Tryz.underlying57 Tryz.sizeOf5 rfl rfl (by decide) (o := 1) rfl rfl rfl .mk) ?_
  refine .f [3] rfl (by kernel_rfl) rfl rfl (fun ex => .load1 Tryz.isAgg5 rfl (.s (.s .z)) rfl rfl rfl .mk) ?_
  refine .w [4, 3] [[], [1]] [1] rfl (by kernel_rfl) (by kernel_rfl) (by kernel_rfl) ((dropE_kept rfl rfl)) (.inr (dropE_kept rfl rfl)) fun ex => ?_
  have hw110 := W_law07_Size (I := I70) hd
  refine .call Tryz.call36 rfl hw110 rfl rfl fun v108 I105 hl106 hv107 => ?_
  obtain ⟨r104, rfl, hd⟩ := hv107
  have le111 := IH.le.trans le85 hl106
  replace R39 := R39.mono hl106
  replace R42 := R42.mono hl106
  replace R45 := R45.mono hl106
  replace R77 := R77.mono hl106
  replace R80 := R80.mono hl106
  replace R83 := R83.mono hl106
  refine .some (fun ex => (pto b86 (.cells #[.int .i64 r69.Rows, .int .i64 r69.Cols, .slice p75 r69.Start.length c76, .slice p78 r69.Col.length c79, .slice p81 r69.Val.length c82] 29 (0, 0))) :: (pto b48 (.cells #[.int .i64 r31.Rows, .int .i64 r31.Cols, .slice p37 r31.Start.length c38, .slice p40 r31.Col.length c41, .slice p43 r31.Val.length c44] 29 (0, 0))) :: (pto b10 (.cells #[.int .u8 a2.1, .int .u8 a2.2] 57 (0, 0))) :: ex) rfl (fun _ _ => (.s (.s (.s .z)))) rfl (.cc [3] rfl (by kernel_rfl) rfl rfl rfl (fun ex => .load1 Tryz.isAgg5 rfl (.s (.s .z)) rfl rfl rfl .mk) (.cc [] rfl (by kernel_rfl) rfl rfl rfl (fun ex => .ixArr (i := 1) Tryz.underlying57 Tryz.sizeOf5 rfl rfl (by decide) (o := 1) rfl rfl rfl .mk) trivial)) ?_
  refine .w [] [[], [4]] [4, 2] rfl (by kernel_rfl) (by kernel_rfl) (by kernel_rfl) ((dropE_kept rfl rfl)) (.inr (dropE_kept rfl rfl)) fun ex => ?_
  have hw118 := W_law07_Size (I := I105) hd
  refine .call Tryz.call36 rfl hw118 rfl rfl fun v116 I113 hl114 hv115 => ?_
  obtain ⟨r112, rfl, hd⟩ := hv115
  have le119 := IH.le.trans le111 hl114
  replace R39 := R39.mono hl114
  replace R42 := R42.mono hl114
  replace R45 := R45.mono hl114
  replace R77 := R77.mono hl114
  replace R80 := R80.mono hl114
  replace R83 := R83.mono hl114
  refine .some (fun ex => (pto b86 (.cells #[.int .i64 r69.Rows, .int .i64 r69.Cols, .slice p75 r69.Start.length c76, .slice p78 r69.Col.length c79, .slice p81 r69.Val.length c82] 29 (0, 0))) :: (pto b48 (.cells #[.int .i64 r31.Rows, .int .i64 r31.Cols, .slice p37 r31.Start.length c38, .slice p40 r31.Col.length c41, .slice p43 r31.Val.length c44] 29 (0, 0))) :: (pto b10 (.cells #[.int .u8 a2.1, .int .u8 a2.2] 57 (0, 0))) :: ex) rfl (fun _ _ => (.s (.s (.s .z)))) rfl trivial ?_
  refine .f [2, 5, 0, 1, 2] rfl (by kernel_rfl) rfl rfl (fun ex => .assign rfl rfl rfl .mk) ?_
  refine .e 7 (by kernel_rfl) (by kernel_rfl) (by kernel_rfl) ?_
  refine .skips 1 rfl ?_
  refine .nil' fun c w ho hs => Cod.at (E := [(7, _), (8, _), (9, _), (10, _)]) (ho.sub ⟨rfl, rfl, rfl, rfl, trivial⟩) hs ?_
  refine .drop (.s (.s .z)) ?_
  refine .seq ?_
  refine .region ?_
  refine .loadW Tryz.isAgg29 Tryz.sizeOf29 rfl (.s .z) rfl rfl rfl ?_
  refine .skips 2 rfl ?_
  have hw134 := W_csr_Get (I := I113) R39 R42 R45 hd
  refine .call Tryz.call14 rfl hw134 rfl rfl fun v132 I129 hl130 hv131 => ?_
  obtain ⟨r128, rfl, hd⟩ := hv131
  have le135 := IH.le.trans le119 hl130
  replace R39 := R39.mono hl130
  replace R42 := R42.mono hl130
  replace R45 := R45.mono hl130
  replace R77 := R77.mono hl130
  replace R80 := R80.mono hl130
  replace R83 := R83.mono hl130
  refine .skips 1 rfl ?_
  refine .extract rfl rfl rfl rfl ?_
  refine .extract rfl rfl rfl rfl ?_
  refine .skips 2 rfl ?_
  refine .nil' fun c w ho hs => Cod.at (E := [(7, _), (8, _), (9, _), (10, _), (11, _), (12, _)]) (ho.sub ⟨rfl, rfl, rfl, rfl, rfl, rfl, trivial⟩) hs ?_
  refine .seq ?_
  refine .region ?_
  refine .loadW Tryz.isAgg29 Tryz.sizeOf29 rfl .z rfl rfl rfl ?_
  refine .skips 2 rfl ?_
  have hw150 := W_csr_Get (I := I129) R77 R80 R83 hd
  refine .call Tryz.call14 rfl hw150 rfl rfl fun v148 I145 hl146 hv147 => ?_
  obtain ⟨r144, rfl, hd⟩ := hv147
  have le151 := IH.le.trans le135 hl146
  replace R39 := R39.mono hl146
  replace R42 := R42.mono hl146
  replace R45 := R45.mono hl146
  replace R77 := R77.mono hl146
  replace R80 := R80.mono hl146
  replace R83 := R83.mono hl146
  refine .skips 1 rfl ?_
  refine .extract rfl rfl rfl rfl ?_
  refine .extract rfl rfl rfl rfl ?_
  refine .skips 2 rfl ?_
  refine .nil' fun c w ho hs => Cod.at (E := [(7, _), (8, _), (11, _), (12, _), (13, _), (14, _)]) (ho.sub ⟨rfl, rfl, rfl, rfl, rfl, rfl, trivial⟩) hs ?_
  refine .seq ?_
  refine .draw [some 0, some 1, some 2, some 3, some 4, some 5, some 6, some 8, some 7, some 9, some 10, some 11, some 12, some 13, some 14, some 15, some 16, some 17, some 18, some 19, some 20, some 21, some 22, some 24, some 23, some 25, some 26, some 27] 28 MX (by kernel_rfl) (by kernel_rfl) (by kernel_rfl) (by kernel_rfl) (by kernel_rfl) (by kernel_rfl) (by kernel_rfl) (fun ex => (pto b86 (.cells #[.int .i64 r69.Rows, .int .i64 r69.Cols, .slice p75 r69.Start.length c76, .slice p78 r69.Col.length c79, .slice p81 r69.Val.length c82] 29 (0, 0))) :: (pto b48 (.cells #[.int .i64 r31.Rows, .int .i64 r31.Cols, .slice p37 r31.Start.length c38, .slice p40 r31.Col.length c41, .slice p43 r31.Val.length c44] 29 (0, 0))) :: ex) (fun _ _ => (.s (.s .z))) rfl ?_
  refine .w [] [] [] rfl (by kernel_rfl) (by kernel_rfl) (by kernel_rfl) ((dropE_kept rfl rfl)) (.inr (dropE_kept rfl rfl)) fun ex => ?_
  have hw158 := W_law07_live (I := I145) hd
  refine .call Tryz.call12 rfl hw158 rfl rfl fun v156 I153 hl154 hv155 => ?_
  obtain ⟨r152, rfl, hd⟩ := hv155
  have le159 := IH.le.trans le151 hl154
  replace R39 := R39.mono hl154
  replace R42 := R42.mono hl154
  replace R45 := R45.mono hl154
  replace R77 := R77.mono hl154
  replace R80 := R80.mono hl154
  replace R83 := R83.mono hl154
  refine .some (fun ex => (pto b86 (.cells #[.int .i64 r69.Rows, .int .i64 r69.Cols, .slice p75 r69.Start.length c76, .slice p78 r69.Col.length c79, .slice p81 r69.Val.length c82] 29 (0, 0))) :: (pto b48 (.cells #[.int .i64 r31.Rows, .int .i64 r31.Cols, .slice p37 r31.Start.length c38, .slice p40 r31.Col.length c41, .slice p43 r31.Val.length c44] 29 (0, 0))) :: ex) rfl (fun _ _ => (.s (.s .z))) rfl trivial ?_
  refine .f [0, 0] rfl (by kernel_rfl) rfl rfl (fun ex => .move rfl rfl rfl .mk) ?_
  refine split r152 (fun hb160 => ?_) (fun hb160 => ?_)
  · have hd := hd.1 hb160
    refine .f [1] rfl (by kernel_rfl) rfl rfl (fun ex => .gyes rfl rfl hb160 (.loadW Tryz.isAgg29 Tryz.sizeOf29 rfl .z rfl rfl rfl .mk)) ?_
    refine .w [] [[], []] [2, 1, 1] rfl (by kernel_rfl) (by kernel_rfl) (by kernel_rfl) ((dropE_kept rfl rfl)) (.inr (dropE_kept rfl rfl)) fun ex => ?_
    have hw167 := W_csr_Right (I := I153) R77 R80 R83 hd
    refine .gyes rfl rfl hb160 (.call Tryz.call16 rfl hw167 rfl rfl fun v165 I162 hl163 hv164 => ?_)
    obtain ⟨r161, rfl, hd⟩ := hv164
    have le168 := IH.le.trans le159 hl163
    replace R39 := R39.mono hl163
    replace R42 := R42.mono hl163
    replace R45 := R45.mono hl163
    replace R77 := R77.mono hl163
    replace R80 := R80.mono hl163
    replace R83 := R83.mono hl163
    refine .some (fun ex => (pto b86 (.cells #[.int .i64 r69.Rows, .int .i64 r69.Cols, .slice p75 r69.Start.length c76, .slice p78 r69.Col.length c79, .slice p81 r69.Val.length c82] 29 (0, 0))) :: (pto b48 (.cells #[.int .i64 r31.Rows, .int .i64 r31.Cols, .slice p37 r31.Start.length c38, .slice p40 r31.Col.length c41, .slice p43 r31.Val.length c44] 29 (0, 0))) :: ex) rfl (fun _ _ => (.s (.s .z))) rfl trivial ?_
    refine .f [1, 3] rfl (by kernel_rfl) rfl rfl (fun ex => .pickT rfl hb160 rfl rfl rfl .mk) ?_
    refine .f [4, 3] rfl (by kernel_rfl) rfl rfl (fun ex => .move rfl rfl rfl .mk) ?_
    refine split r161 (fun hb169 => ?_) (fun hb169 => ?_)
    · have hd := hd.1 hb169
      refine .f [5] rfl (by kernel_rfl) rfl rfl (fun ex => .gyes rfl rfl hb169 (.loadW Tryz.isAgg29 Tryz.sizeOf29 rfl .z rfl rfl rfl .mk)) ?_
      refine .f [5] rfl (by kernel_rfl) rfl rfl (fun ex => .gyes rfl rfl hb169 (.loadW Tryz.isAgg29 Tryz.sizeOf29 rfl (.s .z) rfl rfl rfl .mk)) ?_
      refine .w [8] [[], [], [5]] [6, 5, 5] rfl (by kernel_rfl) (by kernel_rfl) (by kernel_rfl) ((dropE_kept rfl rfl)) (.inr (dropE_kept rfl rfl)) fun ex => ?_
      have hw185 := W_csr_Turn (I := I162) R77 R80 R83 hd
      refine .gyes rfl rfl hb169 (.call Tryz.call26 rfl hw185 rfl rfl fun v174 I171 hl172 hv173 => ?_)
      obtain ⟨r170, p176, c177, p179, c180, p182, c183, rfl, R178, R181, R184, hd⟩ := hv173
      have le186 := IH.le.trans le168 hl172
      replace R39 := R39.mono hl172
      replace R42 := R42.mono hl172
      replace R45 := R45.mono hl172
      replace R77 := R77.mono hl172
      replace R80 := R80.mono hl172
      replace R83 := R83.mono hl172
      refine .some (fun ex => (pto b86 (.cells #[.int .i64 r69.Rows, .int .i64 r69.Cols, .slice p75 r69.Start.length c76, .slice p78 r69.Col.length c79, .slice p81 r69.Val.length c82] 29 (0, 0))) :: (pto b48 (.cells #[.int .i64 r31.Rows, .int .i64 r31.Cols, .slice p37 r31.Start.length c38, .slice p40 r31.Col.length c41, .slice p43 r31.Val.length c44] 29 (0, 0))) :: ex) rfl (fun _ _ => (.s (.s .z))) rfl (.cc [5] rfl (by kernel_rfl) rfl rfl rfl (fun ex => .gyes rfl rfl hb169 (.loadW Tryz.isAgg29 Tryz.sizeOf29 rfl (.s .z) rfl rfl rfl .mk)) trivial) ?_
      refine .w [] [[]] [7, 8, 7, 5] rfl (by kernel_rfl) (by kernel_rfl) (by kernel_rfl) ((dropE_kept rfl rfl)) (.inr (dropE_kept rfl rfl)) fun ex => ?_
      have hw193 := W_csr_Same (I := I171) R178 R181 R184 R39 R42 R45 hd
      refine .gyes rfl rfl hb169 (.call Tryz.call30 rfl hw193 rfl rfl fun v191 I188 hl189 hv190 => ?_)
      obtain ⟨r187, rfl, hd⟩ := hv190
      have le194 := IH.le.trans le186 hl189
      replace R39 := R39.mono hl189
      replace R42 := R42.mono hl189
      replace R45 := R45.mono hl189
      replace R77 := R77.mono hl189
      replace R80 := R80.mono hl189
      replace R83 := R83.mono hl189
      replace R178 := R178.mono hl189
      replace R181 := R181.mono hl189
      replace R184 := R184.mono hl189
      refine .some (fun ex => (pto b86 (.cells #[.int .i64 r69.Rows, .int .i64 r69.Cols, .slice p75 r69.Start.length c76, .slice p78 r69.Col.length c79, .slice p81 r69.Val.length c82] 29 (0, 0))) :: (pto b48 (.cells #[.int .i64 r31.Rows, .int .i64 r31.Cols, .slice p37 r31.Start.length c38, .slice p40 r31.Col.length c41, .slice p43 r31.Val.length c44] 29 (0, 0))) :: ex) rfl (fun _ _ => (.s (.s .z))) rfl trivial ?_
      refine .f [5, 9] rfl (by kernel_rfl) rfl rfl (fun ex => .pickT rfl hb169 rfl rfl rfl .mk) ?_
      refine .f [10, 9] rfl (by kernel_rfl) rfl rfl (fun ex => .move rfl rfl rfl .mk) ?_
      refine split r187 (fun hb195 => ?_) (fun hb195 => ?_)
      · have hd := hd.1 hb195
        refine .f [11] rfl (by kernel_rfl) rfl rfl (fun ex => .gyes rfl rfl hb195 (.move rfl rfl rfl .mk)) ?_
        refine .f [11] rfl (by kernel_rfl) rfl rfl (fun ex => .gyes rfl rfl hb195 (.move rfl rfl rfl .mk)) ?_
        refine .f [12, 13, 11] rfl (by kernel_rfl) rfl rfl (fun ex => .gyes rfl rfl hb195 (.eq rfl rfl rfl rfl .mk)) ?_
        refine .f [11, 14] rfl (by kernel_rfl) rfl rfl (fun ex => .pickT rfl hb195 rfl rfl rfl .mk) ?_
        refine .f [15, 11] rfl (by kernel_rfl) rfl rfl (fun ex => .move rfl rfl rfl .mk) ?_
        refine split (r128.1 == r144.1) (fun hb196 => ?_) (fun hb196 => ?_)
        · have hd := hd.1 hb196
          refine .f [16] rfl (by kernel_rfl) rfl rfl (fun ex => .gyes rfl rfl hb196 (.move rfl rfl rfl .mk)) ?_
          refine .f [16] rfl (by kernel_rfl) rfl rfl (fun ex => .gyes rfl rfl hb196 (.move rfl rfl rfl .mk)) ?_
          refine .f [17, 18, 16] rfl (by kernel_rfl) rfl rfl (fun ex => .gyes rfl rfl hb196 (.eqB Tryz.underlying4 rfl rfl rfl rfl .mk)) ?_
          refine .f [16, 19] rfl (by kernel_rfl) rfl rfl (fun ex => .pickT rfl hb196 rfl rfl rfl .mk) ?_
          refine .f [20, 16] rfl (by kernel_rfl) rfl rfl (fun ex => .move rfl rfl rfl .mk) ?_
          refine split (r128.2 == r144.2) (fun hb197 => ?_) (fun hb197 => ?_)
          · have hd := hd.1 hb197
            refine .f [21] rfl (by kernel_rfl) rfl rfl (fun ex => .gyes rfl rfl hb197 (.loadW Tryz.isAgg29 Tryz.sizeOf29 rfl .z rfl rfl rfl .mk)) ?_
            refine .f [21] rfl (by kernel_rfl) rfl rfl (fun ex => .gyes rfl rfl hb197 (.loadW Tryz.isAgg29 Tryz.sizeOf29 rfl (.s .z) rfl rfl rfl .mk)) ?_
            refine .w [24] [[], [], [21], [20, 21], [19, 20, 21], [19, 20, 21], [21], [16, 21], [15, 16, 21], [14, 15, 16, 21], [14, 15, 16, 21], [16, 21], [11, 16, 21]] [22, 21, 21] rfl (by kernel_rfl) (by kernel_rfl) (by kernel_rfl) ((dropE_kept rfl rfl)) (.inr (dropE_kept rfl rfl)) fun ex => ?_
            have hw204 := W_csr_Count (I := I188) R77 R80 R83 hd
            refine .gyes rfl rfl hb197 (.call Tryz.call18 rfl hw204 rfl rfl fun v202 I199 hl200 hv201 => ?_)
            obtain ⟨r198, rfl, hd⟩ := hv201
            have le205 := IH.le.trans le194 hl200
            replace R39 := R39.mono hl200
            replace R42 := R42.mono hl200
            replace R45 := R45.mono hl200
            replace R77 := R77.mono hl200
            replace R80 := R80.mono hl200
            replace R83 := R83.mono hl200
            replace R178 := R178.mono hl200
            replace R181 := R181.mono hl200
            replace R184 := R184.mono hl200
            refine .some (fun ex => (pto b86 (.cells #[.int .i64 r69.Rows, .int .i64 r69.Cols, .slice p75 r69.Start.length c76, .slice p78 r69.Col.length c79, .slice p81 r69.Val.length c82] 29 (0, 0))) :: (pto b48 (.cells #[.int .i64 r31.Rows, .int .i64 r31.Cols, .slice p37 r31.Start.length c38, .slice p40 r31.Col.length c41, .slice p43 r31.Val.length c44] 29 (0, 0))) :: ex) rfl (fun _ _ => (.s (.s .z))) rfl (.cc [21] rfl (by kernel_rfl) rfl rfl rfl (fun ex => .gyes rfl rfl hb197 (.loadW Tryz.isAgg29 Tryz.sizeOf29 rfl (.s .z) rfl rfl rfl .mk)) trivial) ?_
            refine .w [] [[]] [24, 23, 21] rfl (by kernel_rfl) (by kernel_rfl) (by kernel_rfl) ((dropE_kept rfl rfl)) (.inr (dropE_kept rfl rfl)) fun ex => ?_
            have hw212 := W_csr_Count (I := I199) R39 R42 R45 hd
            refine .gyes rfl rfl hb197 (.call Tryz.call18 rfl hw212 rfl rfl fun v210 I207 hl208 hv209 => ?_)
            obtain ⟨r206, rfl, hd⟩ := hv209
            have le213 := IH.le.trans le205 hl208
            replace R39 := R39.mono hl208
            replace R42 := R42.mono hl208
            replace R45 := R45.mono hl208
            replace R77 := R77.mono hl208
            replace R80 := R80.mono hl208
            replace R83 := R83.mono hl208
            replace R178 := R178.mono hl208
            replace R181 := R181.mono hl208
            replace R184 := R184.mono hl208
            refine .some (fun ex => (pto b86 (.cells #[.int .i64 r69.Rows, .int .i64 r69.Cols, .slice p75 r69.Start.length c76, .slice p78 r69.Col.length c79, .slice p81 r69.Val.length c82] 29 (0, 0))) :: (pto b48 (.cells #[.int .i64 r31.Rows, .int .i64 r31.Cols, .slice p37 r31.Start.length c38, .slice p40 r31.Col.length c41, .slice p43 r31.Val.length c44] 29 (0, 0))) :: ex) rfl (fun _ _ => (.s (.s .z))) rfl trivial ?_
            refine .f [23, 25, 21] rfl (by kernel_rfl) rfl rfl (fun ex => .gyes rfl rfl hb197 (.eq rfl rfl rfl rfl .mk)) ?_
            refine .f [21, 26] rfl (by kernel_rfl) rfl rfl (fun ex => .pickT rfl hb197 rfl rfl rfl .mk) ?_
            refine .e 28 (by kernel_rfl) (by kernel_rfl) (by kernel_rfl) ?_
            refine .skips 1 rfl ?_
            refine .nil' fun c w ho hs => Cod.at (E := [(6, _)]) (ho.sub ⟨rfl, trivial⟩) hs ?_
            refine .drop .z ?_
            refine .drop .z ?_
            exact .ret (pret Tryz.results7 (.t rfl .n) le213 ⟨(r198 == r206), rfl, hd⟩)
          · have hd := hd.2 hb197
            refine .f [21] rfl (by kernel_rfl) rfl rfl (fun ex => .gno rfl rfl hb197 rfl rfl .mk) ?_
            refine .f [21] rfl (by kernel_rfl) rfl rfl (fun ex => .gno rfl rfl hb197 rfl rfl .mk) ?_
            refine .f [22, 21, 21] rfl (by kernel_rfl) rfl rfl (fun ex => .gno rfl rfl hb197 rfl rfl .mk) ?_
            refine .f [24, 23, 21] rfl (by kernel_rfl) rfl rfl (fun ex => .gno rfl rfl hb197 rfl rfl .mk) ?_
            refine .f [23, 25, 21] rfl (by kernel_rfl) rfl rfl (fun ex => .gno rfl rfl hb197 rfl rfl .mk) ?_
            refine .f [21, 26] rfl (by kernel_rfl) rfl rfl (fun ex => .pickF rfl hb197 rfl rfl rfl .mk) ?_
            refine .e 28 (by kernel_rfl) (by kernel_rfl) (by kernel_rfl) ?_
            refine .skips 1 rfl ?_
            refine .nil' fun c w ho hs => Cod.at (E := [(6, _)]) (ho.sub ⟨rfl, trivial⟩) hs ?_
            refine .drop .z ?_
            refine .drop .z ?_
            exact .ret (pret Tryz.results7 (.t rfl .n) le194 ⟨false, rfl, hd⟩)
        · have hd := hd.2 hb196
          refine .f [16] rfl (by kernel_rfl) rfl rfl (fun ex => .gno rfl rfl hb196 rfl rfl .mk) ?_
          refine .f [16] rfl (by kernel_rfl) rfl rfl (fun ex => .gno rfl rfl hb196 rfl rfl .mk) ?_
          refine .f [17, 18, 16] rfl (by kernel_rfl) rfl rfl (fun ex => .gno rfl rfl hb196 rfl rfl .mk) ?_
          refine .f [16, 19] rfl (by kernel_rfl) rfl rfl (fun ex => .pickF rfl hb196 rfl rfl rfl .mk) ?_
          refine .f [20, 16] rfl (by kernel_rfl) rfl rfl (fun ex => .move rfl rfl rfl .mk) ?_
          refine .f [21] rfl (by kernel_rfl) rfl rfl (fun ex => .gno rfl rfl rfl rfl rfl .mk) ?_
          refine .f [21] rfl (by kernel_rfl) rfl rfl (fun ex => .gno rfl rfl rfl rfl rfl .mk) ?_
          refine .f [22, 21, 21] rfl (by kernel_rfl) rfl rfl (fun ex => .gno rfl rfl rfl rfl rfl .mk) ?_
          refine .f [24, 23, 21] rfl (by kernel_rfl) rfl rfl (fun ex => .gno rfl rfl rfl rfl rfl .mk) ?_
          refine .f [23, 25, 21] rfl (by kernel_rfl) rfl rfl (fun ex => .gno rfl rfl rfl rfl rfl .mk) ?_
          refine .f [21, 26] rfl (by kernel_rfl) rfl rfl (fun ex => .pickF rfl rfl rfl rfl rfl .mk) ?_
          refine .e 28 (by kernel_rfl) (by kernel_rfl) (by kernel_rfl) ?_
          refine .skips 1 rfl ?_
          refine .nil' fun c w ho hs => Cod.at (E := [(6, _)]) (ho.sub ⟨rfl, trivial⟩) hs ?_
          refine .drop .z ?_
          refine .drop .z ?_
          exact .ret (pret Tryz.results7 (.t rfl .n) le194 ⟨false, rfl, hd⟩)
      · have hd := hd.2 hb195
        refine .f [11] rfl (by kernel_rfl) rfl rfl (fun ex => .gno rfl rfl hb195 rfl rfl .mk) ?_
        refine .f [11] rfl (by kernel_rfl) rfl rfl (fun ex => .gno rfl rfl hb195 rfl rfl .mk) ?_
        refine .f [12, 13, 11] rfl (by kernel_rfl) rfl rfl (fun ex => .gno rfl rfl hb195 rfl rfl .mk) ?_
        refine .f [11, 14] rfl (by kernel_rfl) rfl rfl (fun ex => .pickF rfl hb195 rfl rfl rfl .mk) ?_
        refine .f [15, 11] rfl (by kernel_rfl) rfl rfl (fun ex => .move rfl rfl rfl .mk) ?_
        refine .f [16] rfl (by kernel_rfl) rfl rfl (fun ex => .gno rfl rfl rfl rfl rfl .mk) ?_
        refine .f [16] rfl (by kernel_rfl) rfl rfl (fun ex => .gno rfl rfl rfl rfl rfl .mk) ?_
        refine .f [17, 18, 16] rfl (by kernel_rfl) rfl rfl (fun ex => .gno rfl rfl rfl rfl rfl .mk) ?_
        refine .f [16, 19] rfl (by kernel_rfl) rfl rfl (fun ex => .pickF rfl rfl rfl rfl rfl .mk) ?_
        refine .f [20, 16] rfl (by kernel_rfl) rfl rfl (fun ex => .move rfl rfl rfl .mk) ?_
        refine .f [21] rfl (by kernel_rfl) rfl rfl (fun ex => .gno rfl rfl rfl rfl rfl .mk) ?_
        refine .f [21] rfl (by kernel_rfl) rfl rfl (fun ex => .gno rfl rfl rfl rfl rfl .mk) ?_
        refine .f [22, 21, 21] rfl (by kernel_rfl) rfl rfl (fun ex => .gno rfl rfl rfl rfl rfl .mk) ?_
        refine .f [24, 23, 21] rfl (by kernel_rfl) rfl rfl (fun ex => .gno rfl rfl rfl rfl rfl .mk) ?_
        refine .f [23, 25, 21] rfl (by kernel_rfl) rfl rfl (fun ex => .gno rfl rfl rfl rfl rfl .mk) ?_
        refine .f [21, 26] rfl (by kernel_rfl) rfl rfl (fun ex => .pickF rfl rfl rfl rfl rfl .mk) ?_
        refine .e 28 (by kernel_rfl) (by kernel_rfl) (by kernel_rfl) ?_
        refine .skips 1 rfl ?_
        refine .nil' fun c w ho hs => Cod.at (E := [(6, _)]) (ho.sub ⟨rfl, trivial⟩) hs ?_
        refine .drop .z ?_
        refine .drop .z ?_
        exact .ret (pret Tryz.results7 (.t rfl .n) le194 ⟨false, rfl, hd⟩)
    · have hd := hd.2 hb169
      refine .f [5] rfl (by kernel_rfl) rfl rfl (fun ex => .gno rfl rfl hb169 rfl rfl .mk) ?_
      refine .f [5] rfl (by kernel_rfl) rfl rfl (fun ex => .gno rfl rfl hb169 rfl rfl .mk) ?_
      refine .f [6, 5, 5] rfl (by kernel_rfl) rfl rfl (fun ex => .gno rfl rfl hb169 rfl rfl .mk) ?_
      refine .f [7, 8, 7, 5] rfl (by kernel_rfl) rfl rfl (fun ex => .gno rfl rfl hb169 rfl rfl .mk) ?_
      refine .f [5, 9] rfl (by kernel_rfl) rfl rfl (fun ex => .pickF rfl hb169 rfl rfl rfl .mk) ?_
      refine .f [10, 9] rfl (by kernel_rfl) rfl rfl (fun ex => .move rfl rfl rfl .mk) ?_
      refine .f [11] rfl (by kernel_rfl) rfl rfl (fun ex => .gno rfl rfl rfl rfl rfl .mk) ?_
      refine .f [11] rfl (by kernel_rfl) rfl rfl (fun ex => .gno rfl rfl rfl rfl rfl .mk) ?_
      refine .f [12, 13, 11] rfl (by kernel_rfl) rfl rfl (fun ex => .gno rfl rfl rfl rfl rfl .mk) ?_
      refine .f [11, 14] rfl (by kernel_rfl) rfl rfl (fun ex => .pickF rfl rfl rfl rfl rfl .mk) ?_
      refine .f [15, 11] rfl (by kernel_rfl) rfl rfl (fun ex => .move rfl rfl rfl .mk) ?_
      refine .f [16] rfl (by kernel_rfl) rfl rfl (fun ex => .gno rfl rfl rfl rfl rfl .mk) ?_
      refine .f [16] rfl (by kernel_rfl) rfl rfl (fun ex => .gno rfl rfl rfl rfl rfl .mk) ?_
      refine .f [17, 18, 16] rfl (by kernel_rfl) rfl rfl (fun ex => .gno rfl rfl rfl rfl rfl .mk) ?_
      refine .f [16, 19] rfl (by kernel_rfl) rfl rfl (fun ex => .pickF rfl rfl rfl rfl rfl .mk) ?_
      refine .f [20, 16] rfl (by kernel_rfl) rfl rfl (fun ex => .move rfl rfl rfl .mk) ?_
      refine .f [21] rfl (by kernel_rfl) rfl rfl (fun ex => .gno rfl rfl rfl rfl rfl .mk) ?_
      refine .f [21] rfl (by kernel_rfl) rfl rfl (fun ex => .gno rfl rfl rfl rfl rfl .mk) ?_
      refine .f [22, 21, 21] rfl (by kernel_rfl) rfl rfl (fun ex => .gno rfl rfl rfl rfl rfl .mk) ?_
      refine .f [24, 23, 21] rfl (by kernel_rfl) rfl rfl (fun ex => .gno rfl rfl rfl rfl rfl .mk) ?_
      refine .f [23, 25, 21] rfl (by kernel_rfl) rfl rfl (fun ex => .gno rfl rfl rfl rfl rfl .mk) ?_
      refine .f [21, 26] rfl (by kernel_rfl) rfl rfl (fun ex => .pickF rfl rfl rfl rfl rfl .mk) ?_
      refine .e 28 (by kernel_rfl) (by kernel_rfl) (by kernel_rfl) ?_
      refine .skips 1 rfl ?_
      refine .nil' fun c w ho hs => Cod.at (E := [(6, _)]) (ho.sub ⟨rfl, trivial⟩) hs ?_
      refine .drop .z ?_
      refine .drop .z ?_
      exact .ret (pret Tryz.results7 (.t rfl .n) le168 ⟨false, rfl, hd⟩)
  · have hd := hd.2 hb160
    refine .f [1] rfl (by kernel_rfl) rfl rfl (fun ex => .gno rfl rfl hb160 rfl rfl .mk) ?_
    refine .f [2, 1, 1] rfl (by kernel_rfl) rfl rfl (fun ex => .gno rfl rfl hb160 rfl rfl .mk) ?_
    refine .f [1, 3] rfl (by kernel_rfl) rfl rfl (fun ex => .pickF rfl hb160 rfl rfl rfl .mk) ?_
    refine .f [4, 3] rfl (by kernel_rfl) rfl rfl (fun ex => .move rfl rfl rfl .mk) ?_
    refine .f [5] rfl (by kernel_rfl) rfl rfl (fun ex => .gno rfl rfl rfl rfl rfl .mk) ?_
    refine .f [5] rfl (by kernel_rfl) rfl rfl (fun ex => .gno rfl rfl rfl rfl rfl .mk) ?_
    refine .f [6, 5, 5] rfl (by kernel_rfl) rfl rfl (fun ex => .gno rfl rfl rfl rfl rfl .mk) ?_
    refine .f [7, 8, 7, 5] rfl (by kernel_rfl) rfl rfl (fun ex => .gno rfl rfl rfl rfl rfl .mk) ?_
    refine .f [5, 9] rfl (by kernel_rfl) rfl rfl (fun ex => .pickF rfl rfl rfl rfl rfl .mk) ?_
    refine .f [10, 9] rfl (by kernel_rfl) rfl rfl (fun ex => .move rfl rfl rfl .mk) ?_
    refine .f [11] rfl (by kernel_rfl) rfl rfl (fun ex => .gno rfl rfl rfl rfl rfl .mk) ?_
    refine .f [11] rfl (by kernel_rfl) rfl rfl (fun ex => .gno rfl rfl rfl rfl rfl .mk) ?_
    refine .f [12, 13, 11] rfl (by kernel_rfl) rfl rfl (fun ex => .gno rfl rfl rfl rfl rfl .mk) ?_
    refine .f [11, 14] rfl (by kernel_rfl) rfl rfl (fun ex => .pickF rfl rfl rfl rfl rfl .mk) ?_
    refine .f [15, 11] rfl (by kernel_rfl) rfl rfl (fun ex => .move rfl rfl rfl .mk) ?_
    refine .f [16] rfl (by kernel_rfl) rfl rfl (fun ex => .gno rfl rfl rfl rfl rfl .mk) ?_
    refine .f [16] rfl (by kernel_rfl) rfl rfl (fun ex => .gno rfl rfl rfl rfl rfl .mk) ?_
    refine .f [17, 18, 16] rfl (by kernel_rfl) rfl rfl (fun ex => .gno rfl rfl rfl rfl rfl .mk) ?_
    refine .f [16, 19] rfl (by kernel_rfl) rfl rfl (fun ex => .pickF rfl rfl rfl rfl rfl .mk) ?_
    refine .f [20, 16] rfl (by kernel_rfl) rfl rfl (fun ex => .move rfl rfl rfl .mk) ?_
    refine .f [21] rfl (by kernel_rfl) rfl rfl (fun ex => .gno rfl rfl rfl rfl rfl .mk) ?_
    refine .f [21] rfl (by kernel_rfl) rfl rfl (fun ex => .gno rfl rfl rfl rfl rfl .mk) ?_
    refine .f [22, 21, 21] rfl (by kernel_rfl) rfl rfl (fun ex => .gno rfl rfl rfl rfl rfl .mk) ?_
    refine .f [24, 23, 21] rfl (by kernel_rfl) rfl rfl (fun ex => .gno rfl rfl rfl rfl rfl .mk) ?_
    refine .f [23, 25, 21] rfl (by kernel_rfl) rfl rfl (fun ex => .gno rfl rfl rfl rfl rfl .mk) ?_
    refine .f [21, 26] rfl (by kernel_rfl) rfl rfl (fun ex => .pickF rfl rfl rfl rfl rfl .mk) ?_
    refine .e 28 (by kernel_rfl) (by kernel_rfl) (by kernel_rfl) ?_
    refine .skips 1 rfl ?_
    refine .nil' fun c w ho hs => Cod.at (E := [(6, _)]) (ho.sub ⟨rfl, trivial⟩) hs ?_
    refine .drop .z ?_
    refine .drop .z ?_
    exact .ret (pret Tryz.results7 (.t rfl .n) le159 ⟨false, rfl, hd⟩)

end Go.Proofs.YtindbiojednfbaaGreat
