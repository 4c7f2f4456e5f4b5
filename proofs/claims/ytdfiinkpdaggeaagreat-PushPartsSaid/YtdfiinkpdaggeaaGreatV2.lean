/- The walks (printed by a program of ours). -/
import Derived.Test.YtdfiinkpdaggeaaGreatV1
namespace Go.Proofs.YtdfiinkpdaggeaaGreat
open Go Go.Fw
set_option linter.unusedVariables false
set_option linter.unusedSimpArgs false
set_option maxRecDepth 8000
set_option maxHeartbeats 1000000
open Tryz
theorem W_wide_Sub {I : IH} {a0 : Wide} {a1 : Wide}  {Q : Wide → Prop}  (hd : wide_Sub a0 a1 Q) :
    PFun Tryz.prog 162 [.agg (encWide a0).toArray, .agg (encWide a1).toArray] I (fun I_ v => ∃ r, v = .agg (encWide r).toArray ∧ Q r) := by
 refine Fun.enter func162 r ntmps162 r (.c (.c .n)) fun w0 M => ?_
 refine .seq (.region (.boxA r r r fun b7 => ?_))
 refine .boxA r r r fun b9 => ?_
 refine .allocA zeroValue87 r r fun b11 => ?_
 refine .nilS [4, 3, 2] r r (.seq (.draw [some 0, some 1, some 2, some 3, some 4, some 5, some 6, some 7, some 8, some 9, some 10, some 11, some 15, some 16, some 17, some 18, some 19, some 12, some 13, some 14, some 20] 21 MX (by kernel_rfl) (by kernel_rfl) (by kernel_rfl) (by kernel_rfl) (by kernel_rfl) (by kernel_rfl) (by kernel_rfl) (fun ex => (pto b11 (.cells #[.int .i64 0, .int .u64 0] 87 (0, 0))) :: (pto b9 (.cells #[.int .i64 a1.Hi, .int .u64 a1.Lo] 87 (0, 0))) :: (pto b7 (.cells #[.int .i64 a0.Hi, .int .u64 a0.Lo] 87 (0, 0))) :: ex) (fun _ _ => (.s (.s (.s .z)))) r (.f [] r (by kernel_rfl) r r (fun ex => .fieldAddr underlying87 r sizeOf2 r (o := 0) r r r .mk) (.f [0] r (by kernel_rfl) r r (fun ex => .load1 isAgg2 r (.s (.s .z)) r r r .mk) (.f [1] r (by kernel_rfl) r r (fun ex => .conv underlying2 underlying85 r r r .mk) (.f [] r (by kernel_rfl) r r (fun ex => .fieldAddr underlying87 r sizeOf2 r (o := 0) r r r .mk) (.f [3] r (by kernel_rfl) r r (fun ex => .load1 isAgg2 r (.s .z) r r r .mk) (.f [4] r (by kernel_rfl) r r (fun ex => .conv underlying2 underlying85 r r r .mk) (.f [2, 5] r (by kernel_rfl) r r (fun ex => .sub' r r r r .mk) ?_)))))))))
 refine .f [] r (by kernel_rfl) r r (fun ex => .fieldAddr underlying87 r sizeOf85 r (o := 1) r r r .mk) (.f [7] r (by kernel_rfl) r r (fun ex => .load1 isAgg85 r (.s (.s .z)) r r r .mk) (.f [] r (by kernel_rfl) r r (fun ex => .fieldAddr underlying87 r sizeOf85 r (o := 1) r r r .mk) (.f [9] r (by kernel_rfl) r r (fun ex => .load1 isAgg85 r (.s .z) r r r .mk) (.f [8, 10] r (by kernel_rfl) r r (fun ex => .lt r r r r .mk) (.f [] r (by kernel_rfl) r r (fun ex => .fieldAddr underlying87 r sizeOf85 r (o := 1) r r r .mk) (.f [15] r (by kernel_rfl) r r (fun ex => .load1 isAgg85 r (.s (.s .z)) r r r .mk) (.f [] r (by kernel_rfl) r r (fun ex => .fieldAddr underlying87 r sizeOf85 r (o := 1) r r r .mk) (.f [17] r (by kernel_rfl) r r (fun ex => .load1 isAgg85 r (.s .z) r r r .mk) (.f [16, 18] r (by kernel_rfl) r r (fun ex => .sub' r r r r .mk) ?_)))))))))
 refine .w [19, 18, 17, 16, 15, 6, 5, 4, 3, 2, 1, 0] [[], [11], [10, 11], [11], [8, 11]] [11] r (by kernel_rfl) (by kernel_rfl) (by kernel_rfl) ((dropE_kept r r)) (.inr (dropE_kept r r)) fun ex => ?_
 have hw14 := W_wide_carry (I := I) hd
 refine .callP call164 r hw14 r r fun v15 hv16 => ?_
 obtain ⟨r13, rfl, hd⟩ := hv16
 exact .some (fun ex => (pto b11 (.cells #[.int .i64 0, .int .u64 0] 87 (0, 0))) :: (pto b9 (.cells #[.int .i64 a1.Hi, .int .u64 a1.Lo] 87 (0, 0))) :: (pto b7 (.cells #[.int .i64 a0.Hi, .int .u64 a0.Lo] 87 (0, 0))) :: ex) r (fun _ _ => (.s (.s (.s .z)))) r (.cc [16, 18] r (by kernel_rfl) r r r (fun ex => .sub' r r r r .mk) (.cc [17] r (by kernel_rfl) r r r (fun ex => .load1 isAgg85 r (.s .z) r r r .mk) (.cc [] r (by kernel_rfl) r r r (fun ex => .fieldAddr underlying87 r sizeOf85 r (o := 1) r r r .mk) (.cc [15] r (by kernel_rfl) r r r (fun ex => .load1 isAgg85 r (.s (.s .z)) r r r .mk) (.cc [] r (by kernel_rfl) r r r (fun ex => .fieldAddr underlying87 r sizeOf85 r (o := 1) r r r .mk) (.cc [2, 5] r (by kernel_rfl) r r r (fun ex => .sub' r r r r .mk) (.cc [4] r (by kernel_rfl) r r r (fun ex => .conv underlying2 underlying85 r r r .mk) (.cc [3] r (by kernel_rfl) r r r (fun ex => .load1 isAgg2 r (.s .z) r r r .mk) (.cc [] r (by kernel_rfl) r r r (fun ex => .fieldAddr underlying87 r sizeOf2 r (o := 0) r r r .mk) (.cc [1] r (by kernel_rfl) r r r (fun ex => .conv underlying2 underlying85 r r r .mk) (.cc [0] r (by kernel_rfl) r r r (fun ex => .load1 isAgg2 r (.s (.s .z)) r r r .mk) (.cc [] r (by kernel_rfl) r r r (fun ex => .fieldAddr underlying87 r sizeOf2 r (o := 0) r r r .mk) trivial)))))))))))) (.f [6, 12] r (by kernel_rfl) r r (fun ex => .sub' r r r r .mk) (.f [13] r (by kernel_rfl) r r (fun ex => .conv underlying85 underlying2 r r r .mk) (.f [14, 19] r (by kernel_rfl) r r (fun ex => .build zeroValue87 underlying87 BI87 (.c r r r (.t .nil) (.c r r r (.s (.t .nil)) .n)) (by exact ⟨⟨_, _, r, r, r⟩, ⟨⟨_, _, r, r, r⟩, trivial⟩⟩) r r .mk) (.e 21 (by kernel_rfl) (by kernel_rfl) (by kernel_rfl) (.storeA sizeOf87 r r .z (.t (.t .nil)) r r (.nilS [4] r r (.drop (.s .z) (.drop (.s .z) (.ret (pret results162 (.w isAgg87 sizeOf87 r .z r .n) (.refl _) ⟨({ Hi := w64 (IntKind.wrap .u64 ((IntKind.wrap .u64 ((IntKind.wrap .u64 (a0.Hi)) - (IntKind.wrap .u64 (a1.Hi)))) - r13)), Lo := IntKind.wrap .u64 (a0.Lo - a1.Lo) } : Wide), r, hd⟩))))))))))

theorem W_wide_Mul {I : IH} {a0 : Int} {a1 : Int}  {Q : Wide → Prop}  (hd : wide_Mul a0 a1 Q) :
    PFun Tryz.prog 124 [.int .i64 a0, .int .i64 a1] I (fun I_ v => ∃ r, v = .agg (encWide r).toArray ∧ Q r) := by
 refine Fun.enter func124 r ntmps124 r (.c (.c .n)) fun w0 M => ?_
 refine .seq (.region (.allocA zeroValue87 r r fun b3 => ?_))
 refine .nilS [4, 1, 0] r r (.seq (.region (.skips 1 r ?_)))
 have hw20 := W_wide_size (I := I) hd
 refine .callP call161 r hw20 r r fun v21 hv22 => ?_
 obtain ⟨r19, rfl, hd⟩ := hv22
 refine .skips 1 r ?_
 have hw24 := W_wide_size (I := I) hd
 refine .callP call161 r hw24 r r fun v25 hv26 => ?_
 obtain ⟨r23, rfl, hd⟩ := hv26
 have hw28 := W_wide_product (I := I) hd
 refine .callP call160 r hw28 r r fun v29 hv30 => ?_
 obtain ⟨r27, rfl, hd⟩ := hv30
 refine .allocA zeroValue87 r r fun b31 => ?_
 refine .storeA sizeOf87 r r .z (.t (.t .nil)) r r (.nilS [5, 4, 1, 0] r r (.seq (.seq (.region (.skips 1 r (.lt r r r r (.skips 1 r (.lt r r r r (.neB underlying4 r r r r ?_)))))))))
 refine .nilS [15, 5, 4] r r (.condP r hd (fun hb33 hd => ?_) fun hb33 hd => ?_)
 · refine .seq (.region (.build zeroValue87 underlying87 BI87 .n (by exact trivial) r r (.loadW isAgg87 sizeOf87 r .z r r r ?_)))
   have hw35 := W_wide_Sub (I := I) hd
   refine .callP call162 r hw35 r r fun v36 hv37 => ?_
   obtain ⟨r34, rfl, hd⟩ := hv37
   exact .storeA sizeOf87 r r (.s .z) (.t (.t .nil)) r r (.nilS [4] r r (.drop .z (.ret (pret results124 (.w isAgg87 sizeOf87 r .z r .n) (.refl _) ⟨r34, r, hd⟩))))
 exact .skipS [5, 4] r r (.seq (.region (.loadW isAgg87 sizeOf87 r .z r r r (.storeA sizeOf87 r r (.s .z) (.t (.t .nil)) r r (.nilS [4] r r (.drop .z (.ret (pret results124 (.w isAgg87 sizeOf87 r .z r .n) (.refl _) ⟨r27, r, hd⟩))))))))

theorem W_ring_Mul {I : IH} {a0 : Int} {a1 : Int} {a2 : Int}  {Q : Wide → Prop}  (hd : ring_Mul a0 a1 a2 Q) :
    PFun Tryz.prog 75 [.int .i64 a0, .int .i64 a1, .int .i64 a2] I (fun I_ v => ∃ r, v = .agg (encWide r).toArray ∧ Q r) := by
 refine Fun.enter func75 r ntmps75 r (.c (.c (.c .n))) fun w0 M => ?_
 refine .seq (.region (.allocA zeroValue87 r r fun b3 => ?_))
 refine .nilS [6, 2, 1, 0] r r (.seq (.seq (.region (.skips 1 r (.nilS [8, 6, 2, 1, 0] r r (.block (.seq (.region (.eq r r r r ?_)))))))))
 refine .skips 1 r (.nilS [9, 8, 6, 2, 1, 0] r r (.condP r hd (fun hb20 hd => ?_) fun hb20 hd => ?_))
 · refine .seq (.region (.skips 1 r (.ne r r r r (.skips 1 r ?_))))
   refine splitP hd (fun hb21 hd => ?_) fun hb21 hd => ?_
   · rw [hb21]
     refine .gyes r r r (.move r r r (.gyes r r r (.ne r r r r (.skips 1 r ?_))))
     have hw23 := W_ring_truth (I := I) hd
     refine .callP call123 r hw23 r r fun v24 hv25 => ?_
     obtain ⟨r22, rfl, hd⟩ := hv25
     exact .storeA sizeOf87 r r .z (.t (.t .nil)) r r (.nilS [6] r r (.ret (pret results75 (.w isAgg87 sizeOf87 r .z r .n) (.refl _) ⟨r22, r, hd⟩)))
   rw [hb21]
   refine .skips 3 r ?_
   have hw27 := W_ring_truth (I := I) hd
   refine .callP call123 r hw27 r r fun v28 hv29 => ?_
   obtain ⟨r26, rfl, hd⟩ := hv29
   exact .storeA sizeOf87 r r .z (.t (.t .nil)) r r (.nilS [6] r r (.ret (pret results75 (.w isAgg87 sizeOf87 r .z r .n) (.refl _) ⟨r26, r, hd⟩)))
 refine .seq (.region (.eq r r r r (.skips 1 r (.nilS [18, 6, 2, 1, 0] r r (.condP r hd (fun hb30 hd => ?_) fun hb30 hd => ?_)))))
 · refine .seq (.region (.skips 2 r ?_))
   have hw32 := W_wide_Mul (I := I) hd
   refine .callP call124 r hw32 r r fun v33 hv34 => ?_
   obtain ⟨r31, rfl, hd⟩ := hv34
   exact .storeA sizeOf87 r r .z (.t (.t .nil)) r r (.nilS [6] r r (.ret (pret results75 (.w isAgg87 sizeOf87 r .z r .n) (.refl _) ⟨r31, r, hd⟩)))
 refine .skipS [6, 2, 1, 0] r r (.seq ?_)
 refine Cod.joinQ (σ := Unit) hd (fun (_ : Unit) c w => ∃ I_, IH.le I I_ ∧ Ok ⟨51, [], none⟩ [(0, .int .i64 a0), (1, .int .i64 a1), (2, .int .i64 a2), (6, .pointer (some ⟨b3, 0, none⟩))] c ∧ Sym w0 M I I_ [pto b3 (.cells #[.int .i64 0, .int .u64 0] 87 (0, 0))] w) (fun k55 hd => ?_) ?_
 · skip
   refine .seq (.region (.skips 1 r ?_))
   have hw57 := W_ring_Is (I := I) hd
   refine .callP call36 r hw57 r r fun v58 hv59 => ?_
   obtain ⟨r56, rfl, hd⟩ := hv59
   refine .skips 1 r ?_
   refine splitP hd (fun hb60 hd => ?_) fun hb60 hd => ?_
   · rw [hb60]
     refine .gyes r r r (.move r r r (.gyes r r r (.move r r r (.gyes r r r (.maxI r r r r (.gyes r r r (.ge r r r r (.skips 1 r (.nilS [30, 6, 2, 1, 0] r r (.condP r hd (fun hb61 hd => ?_) fun hb61 hd => ?_))))))))))
     · refine .seq (.region ?_)
       have hw63 := W_wide_Of (I := I) hd
       refine .callP call125 r hw63 r r fun v64 hv65 => ?_
       obtain ⟨r62, rfl, hd⟩ := hv65
       exact .storeA sizeOf87 r r .z (.t (.t .nil)) r r (.nilS [6] r r (.ret (pret results75 (.w isAgg87 sizeOf87 r .z r .n) (.refl _) ⟨r62, r, hd⟩)))
     exact .skip' fun c w ho hs => ⟨(), hd, I, (.refl _), ho.sub ⟨r, r, r, r, trivial⟩, hs.pick (.c .z .n)⟩
   rw [hb60]
   exact .skips 5 r (.nilS [30, 6, 2, 1, 0] r r (.condKF r r (.skip' fun c w ho hs => ⟨(), hd, I, (.refl _), ho.sub ⟨r, r, r, r, trivial⟩, hs.pick (.c .z .n)⟩)))
 rintro ⟨⟩ hd c w hst
 obtain ⟨I66, hl67, hok, hsym⟩ := hst
 have le68 := IH.le.trans (.refl _) hl67
 refine Cod.at hok hsym (.seq (.region (.build zeroValue87 underlying87 BI87 .n (by exact trivial) r r (.allocA zeroValue87 r r fun b71 => ?_))))
 refine .storeA sizeOf87 r r .z (.t (.t .nil)) r r (.nilS [7, 6, 2, 1, 0] r r (.seq (.seq (.region (.skips 1 r (.nilS [33, 7, 6, 2, 1] r r (.block (.seq (.block ?_)))))))))
 refine .seq ?_
 refine Cod.joinQ (σ := Int × Int) hd (fun (s : Int × Int) c w => match s with | (s89, s90) => ∃ I_, IH.le I66 I_ ∧ Ok ⟨51, [], none⟩ [(2, .int .i64 a2), (6, .pointer (some ⟨b3, 0, none⟩)), (7, .pointer (some ⟨b71, 0, none⟩))] c ∧ Sym w0 M I I_ [pto b3 (.cells #[.int .i64 0, .int .u64 0] 87 (0, 0)), pto b71 (.cells #[.int .i64 s89, .int .u64 s90] 87 (0, 0))] w) (fun k91 hd => ?_) ?_
 · skip
   refine .block (.seq (.block (.seq (.seq (.seq (.region (.eq r r r r (.skips 1 r (.nilS [34, 33, 7, 6, 2, 1] r r ?_)))))))))
   refine .condP r hd (fun hb93 hd => ?_) fun hb93 hd => ?_
   · refine .exitS [7, 6, 2, 1] r r (.region (.skips 1 r ?_))
     have hw95 := W_wide_Of (I := I66) hd
     refine .callP call125 r hw95 r r fun v96 hv97 => ?_
     obtain ⟨r94, rfl, hd⟩ := hv97
     exact .storeA sizeOf87 r r .z (.t (.t .nil)) r r (.nil' fun c w ho hs => ⟨(r94.Hi, r94.Lo), hd, I66, (.refl _), ho.sub ⟨r, r, r, trivial⟩, hs.pick (.c (.s .z) (.c .z .n))⟩)
   refine .skipS [33, 7, 6, 2, 1] r r (.seq (.seq (.region (.eq r r r r (.skips 1 r (.nilS [36, 33, 7, 6, 2, 1] r r (.condP r hd (fun hb98 hd => ?_) fun hb98 hd => ?_)))))))
   · exact .exit fun c w ho hs => ⟨(0, 0), hd, I66, (.refl _), ho.sub ⟨r, r, r, trivial⟩, hs.pick (.c (.s .z) (.c .z .n))⟩
   refine .skipS [33, 7, 6, 1] r r (.seq (.region (.eq r r r r (.skips 1 r (.nilS [38, 7, 6, 1] r r (.condP r hd (fun hb99 hd => ?_) fun hb99 hd => ?_))))))
   · refine .exitS [6, 1] r r (.drop .z (.seq (.seq (.region (.skips 1 r ?_)))))
     have hw101 := W_wide_Of (I := I66) hd
     refine .callP call125 r hw101 r r fun v102 hv103 => ?_
     obtain ⟨r100, rfl, hd⟩ := hv103
     exact .storeA sizeOf87 r r .z (.t (.t .nil)) r r (.nilS [6] r r (.ret (pret results75 (.w isAgg87 sizeOf87 r .z r .n) le68 ⟨r100, r, hd⟩)))
   exact .skipS [7, 6] r r (.exitS [7, 6] r r (.seq (.region (.loadW isAgg87 sizeOf87 r .z r r r (.storeA sizeOf87 r r (.s .z) (.t (.t .nil)) r r (.nilS [6] r r (.drop .z (.ret (pret results75 (.w isAgg87 sizeOf87 r .z r .n) le68 ⟨({ Hi := 0, Lo := 0 } : Wide), r, hd⟩)))))))))
 rintro ⟨s89, s90⟩ hd c w hst
 obtain ⟨I104, hl105, hok, hsym⟩ := hst
 have le106 := IH.le.trans le68 hl105
 have le107 := IH.le.trans (.refl _) hl105
 refine Cod.at hok hsym (.seq (.seq (.draw [some 1, some 2, some 0, some 3, some 4, some 5] 6 MX (by kernel_rfl) (by kernel_rfl) (by kernel_rfl) (by kernel_rfl) (by kernel_rfl) (by kernel_rfl) (by kernel_rfl) (fun ex => (pto b3 (.cells #[.int .i64 0, .int .u64 0] 87 (0, 0))) :: (pto b71 (.cells #[.int .i64 s89, .int .u64 s90] 87 (0, 0))) :: ex) (fun _ _ => (.s (.s .z))) r (.f [] r (by kernel_rfl) r r (fun ex => .loadW isAgg87 sizeOf87 r (.s .z) r r r .mk) (.fs [[]] r (by kernel_rfl) (.w [2, 1] [] [] r (by kernel_rfl) (by kernel_rfl) (by kernel_rfl) ((dropE_kept r r)) (.inr (dropE_kept r r)) fun ex => ?_))))))
 have hw109 := W_wide_Of (I := I104) hd
 refine .callP call125 r hw109 r r fun v110 hv111 => ?_
 obtain ⟨r108, rfl, hd⟩ := hv111
 refine .some (fun ex => (pto b3 (.cells #[.int .i64 0, .int .u64 0] 87 (0, 0))) :: (pto b71 (.cells #[.int .i64 s89, .int .u64 s90] 87 (0, 0))) :: ex) r (fun _ _ => (.s (.s .z))) r (.ccs [[]] r r (by kernel_rfl) (.cc [] r (by kernel_rfl) r r r (fun ex => .loadW isAgg87 sizeOf87 r (.s .z) r r r .mk) trivial)) (.w [1] [[]] [2, 0] r (by kernel_rfl) (by kernel_rfl) (by kernel_rfl) ((dropE_kept r r)) (.inr (dropE_kept r r)) fun ex => ?_)
 have hw113 := W_wide_Of (I := I104) hd
 refine .callP call125 r hw113 r r fun v114 hv115 => ?_
 obtain ⟨r112, rfl, hd⟩ := hv115
 refine .some (fun ex => (pto b3 (.cells #[.int .i64 0, .int .u64 0] 87 (0, 0))) :: (pto b71 (.cells #[.int .i64 s89, .int .u64 s90] 87 (0, 0))) :: ex) r (fun _ _ => (.s (.s .z))) r (.cc [] r (by kernel_rfl) r r r (fun ex => .loadW isAgg87 sizeOf87 r (.s .z) r r r .mk) trivial) (.w [] [[]] [1, 3, 3] r (by kernel_rfl) (by kernel_rfl) (by kernel_rfl) ((dropE_kept r r)) (.inr (dropE_kept r r)) fun ex => ?_)
 have hw117 := W_wide_Add (I := I104) hd
 refine .callP call127 r hw117 r r fun v118 hv119 => ?_
 obtain ⟨r116, rfl, hd⟩ := hv119
 refine .some (fun ex => (pto b3 (.cells #[.int .i64 0, .int .u64 0] 87 (0, 0))) :: (pto b71 (.cells #[.int .i64 s89, .int .u64 s90] 87 (0, 0))) :: ex) r (fun _ _ => (.s (.s .z))) r trivial (.w [] [] [0, 4, 4] r (by kernel_rfl) (by kernel_rfl) (by kernel_rfl) ((dropE_kept r r)) (.inr (dropE_kept r r)) fun ex => ?_)
 have hw121 := W_ring_lesser (I := I104) hd
 refine .callP call126 r hw121 r r fun v122 hv123 => ?_
 obtain ⟨r120, rfl, hd⟩ := hv123
 exact .some (fun ex => (pto b3 (.cells #[.int .i64 0, .int .u64 0] 87 (0, 0))) :: (pto b71 (.cells #[.int .i64 s89, .int .u64 s90] 87 (0, 0))) :: ex) r (fun _ _ => (.s (.s .z))) r trivial (.e 6 (by kernel_rfl) (by kernel_rfl) (by kernel_rfl) (.storeA sizeOf87 r r .z (.t (.t .nil)) r r (.nilS [6] r r (.drop (.s .z) (.ret (pret results75 (.w isAgg87 sizeOf87 r .z r .n) le106 ⟨r120, r, hd⟩))))))

theorem W_push_column {I : IH} {a0 : Int} {a1 : List Item} {a2 : Int} {a3 : List Int} {a4 : Bool} {p1 : Option Addr} {c2 : Nat} {p4 : Option Addr} {c5 : Nat} {Q : (List Sum) → Prop} (R3 : RepSl eItem I p1 c2 a1) (R6 : RepSl eU64 I p4 c5 a3) (hd : push_column a0 a1 a2 a3 a4 Q) :
    PFun Tryz.prog 37 [.int .i64 a0, .slice p1 a1.length c2, .int .i64 a2, .slice p4 a3.length c5, .bool a4] I (fun I_ v => ∃ r p7 c8, v = .slice p7 r.length c8 ∧ RepSl eSum I_ p7 c8 r ∧ Q r) := by
 refine Fun.enter func37 r ntmps37 r (.c (.c (.c (.c (.c .n))))) fun w0 M => ?_
 refine .seq (.region (.skips 1 r (.nilS [4, 3, 2, 1, 0] r r (.seq (.region (.skips 1 r (.nilS [11, 4, 3, 2, 1, 0] r r (.seq (.seq ?_)))))))))
 refine .region (.skips 1 r (.len underlying25 r r r r (.skips 1 r (.nilS [16, 15, 14, 11, 4, 3, 2, 0] r r (.block (.own0 eSum 89 (.loop hd (fun (s : (List Sum) × Int) c w => match s with | (s112, s116) => ∃ I_ p113 c114, IH.le I I_ ∧ Ok ⟨39, [], none⟩ [(0, .int .i64 a0), (2, .int .i64 a2), (3, .slice p4 a3.length c5), (4, .bool a4), (11, .slice p113 s112.length c114), (14, .slice p1 a1.length c2), (15, .int .i64 (a1.length : Int)), (16, .int .i64 s116)] c ∧ Sym w0 M I I_ [OwnSl eSum 89 p113 c114 s112] w) (fun c w ho hs => ⟨I, _, _, (.refl _), ho.sub ⟨r, r, r, r, r, r, r, r, trivial⟩, hs.pick (.c .z .n)⟩) ?_)))))))
 rintro ⟨s112, s116⟩ next118 hd c w hst
 obtain ⟨I119, p113, c114, hl120, hok, hsym⟩ := hst
 have le121 := IH.le.trans (.refl _) hl120
 replace R3 := R3.mono hl120
 replace R6 := R6.mono hl120
 refine Cod.at hok hsym (.seq (.region (.lt r r r r (.nilS [17, 16, 15, 14, 11, 4, 3, 2, 0] r r (.seq (.condP r hd (fun hb123 hd => ?_) fun hb123 hd => ?_))))))
 · refine .skipS [16, 15, 14, 11, 4, 3, 2, 0] r r (.seq (.block (.seq (.region ?_))))
   obtain ⟨h135, x136, hx137, hd⟩ := hd
   obtain ⟨b138, o139, cs140, e141, hC142, hr143⟩ := R3.2 _ _ hx137
   cases hr143
   refine .ixa underlying25 sizeOf67 r e141 r h135 (idx_lt hx137 h135) r r (.ldW isAgg67 sizeOf67 hC142 r r r r (.allocA zeroValue67 r r fun b144 => ?_))
   refine .storeA sizeOf67 r r .z (.t (.t .nil)) r r (.nilS [13, 16, 15, 14, 11, 4, 3, 2, 0] r r (.seq (.region (.skips 1 r (.fieldAddr underlying67 r sizeOf3 r (o := 0) r r r (.load1 isAgg3 r .z r r r ?_))))))
   have hw151 := W_flags_Has (I := I119) R6 hd
   refine .callP call74 r hw151 r r fun v152 hv153 => ?_
   obtain ⟨r150, rfl, hd⟩ := hv153
   refine .skips 1 r (.neB underlying4 r r r r (.nilS [25, 13, 16, 15, 14, 11, 4, 3, 2, 0] r r (.condP r hd (fun hb154 hd => ?_) fun hb154 hd => ?_)))
   · refine .draw [some 0, some 1, some 2, some 3, some 4, some 5, some 6, some 7, some 8, some 9, some 10] 11 MX (by kernel_rfl) (by kernel_rfl) (by kernel_rfl) (by kernel_rfl) (by kernel_rfl) (by kernel_rfl) (by kernel_rfl) (fun ex => (pto b144 (.cells #[.int .i64 x136.At, .int .i64 x136.Val] 67 (0, 0))) :: (OwnSl eSum 89 p113 c114 s112) :: ex) (fun _ _ => (.s (.s .z))) r (.fs [[]] r (by kernel_rfl) (.f [] r (by kernel_rfl) r r (fun ex => .fieldAddr underlying67 r sizeOf3 r (o := 0) r r r .mk) (.f [1] r (by kernel_rfl) r r (fun ex => .load1 isAgg3 r .z r r r .mk) (.fs [[]] r (by kernel_rfl) (.f [] r (by kernel_rfl) r r (fun ex => .fieldAddr underlying67 r sizeOf2 r (o := 1) r r r .mk) (.f [4] r (by kernel_rfl) r r (fun ex => .load1 isAgg2 r .z r r r .mk) (.fs [[]] r (by kernel_rfl) (.w [2, 1, 0] [[], [], [5], []] [3, 5, 6] r (by kernel_rfl) (by kernel_rfl) (by kernel_rfl) ((dropE_kept r r)) (.inr (dropE_kept r r)) fun ex => ?_))))))))
     have hw156 := W_ring_Mul (I := I119) hd
     refine .callP call75 r hw156 r r fun v157 hv158 => ?_
     obtain ⟨r155, rfl, hd⟩ := hv158
     refine .some (fun ex => (pto b144 (.cells #[.int .i64 x136.At, .int .i64 x136.Val] 67 (0, 0))) :: (OwnSl eSum 89 p113 c114 s112) :: ex) r (fun _ _ => (.s (.s .z))) r (.cc [1] r (by kernel_rfl) r r r (fun ex => .load1 isAgg3 r .z r r r .mk) (.cc [] r (by kernel_rfl) r r r (fun ex => .fieldAddr underlying67 r sizeOf3 r (o := 0) r r r .mk) (.ccs [[]] r r (by kernel_rfl) trivial))) (.f [2, 7] r (by kernel_rfl) r r (fun ex => .build zeroValue89 underlying89 BI89 (.c r r r (.t .nil) (.c r r r (.s (.t (.t .nil))) .n)) (by exact ⟨⟨_, _, r, r, r⟩, ⟨⟨_, _, r, r, r⟩, trivial⟩⟩) r r .mk) (.w [0] [[], [8], [2, 8]] [8] r (by kernel_rfl) (by kernel_rfl) (by kernel_rfl) ((dropE_kept r r)) (.inr (dropE_kept r r)) fun ex => ?_))
     refine .buildSlice 1 underlying41 sizeOf89 zeroValue89 r r (.c r r r .n) r r fun b159 => ?_
     refine .some (fun ex => (pto b159 (.cells #[.int .i64 x136.At, .int .i64 r155.Hi, .int .u64 r155.Lo] 89 (0, 0))) :: (pto b144 (.cells #[.int .i64 x136.At, .int .i64 x136.Val] 67 (0, 0))) :: (OwnSl eSum 89 p113 c114 s112) :: ex) r (fun _ _ => (.s (.s (.s .z)))) r (.ccs [[]] r r (by kernel_rfl) trivial) (.w [] [[]] [0, 9, 7] r (by kernel_rfl) (by kernel_rfl) (by kernel_rfl) ((dropE_kept r r)) (.inr (dropE_kept r r)) fun ex => ?_)
     obtain ⟨hl161, hd⟩ := hd
     refine .append (ys := [({ At := x136.At, Val := r155 } : Sum)]) 24 (.s (.s .z)) underlying41 underlying41 IN89 r r r r r r r r r (.box .z (.one r) r) hl161 r r fun p162 c163 => ?_
     refine .some (fun ex => (OwnSl eSum 89 p162 c163 (s112 ++ ([({ At := x136.At, Val := r155 } : Sum)]))) :: (pto b159 (.cells #[.int .i64 x136.At, .int .i64 r155.Hi, .int .u64 r155.Lo] 89 (0, 0))) :: (pto b144 (.cells #[.int .i64 x136.At, .int .i64 x136.Val] 67 (0, 0))) :: ex) r (fun _ _ => (.s (.s (.s .z)))) r trivial (.e 11 (by kernel_rfl) (by kernel_rfl) (by kernel_rfl) (.sub (E' := [(0, _), (2, _), (3, _), (4, _), (14, _), (15, _), (16, _), (13, _), (25, _), (26, _), (27, _), (28, _), (29, _), (30, _), (31, _), (32, _), (33, _), (34, _), (35, _), (36, _)]) ⟨r, r, r, r, r, r, r, r, r, r, r, r, r, r, r, r, r, r, r, r, trivial⟩ (.skips 1 r (.nilS [11, 16, 15, 14, 4, 3, 2, 0] r r (.drop (.s .z) (.drop (.s .z) (.region (.add r r r r (.sub (E' := [(0, _), (2, _), (3, _), (4, _), (14, _), (15, _), (11, _), (37, _)]) ⟨r, r, r, r, r, r, r, r, trivial⟩ ?_)))))))))
     exact .skips 1 r (.nil' fun c w ho hs => ⟨((s112 ++ ([({ At := x136.At, Val := r155 } : Sum)])), w64 (s116 + 1)), hd, I119, _, _, le121, ho.sub ⟨r, r, r, r, r, r, r, r, trivial⟩, hs.pick (.c .z .n)⟩)
   exact .skipS [16, 15, 14, 11, 4, 3, 2, 0] r r (.drop .z (.region (.add r r r r (.sub (E' := [(0, _), (2, _), (3, _), (4, _), (11, _), (14, _), (15, _), (37, _)]) ⟨r, r, r, r, r, r, r, r, trivial⟩ (.skips 1 r (.nil' fun c w ho hs => ⟨(s112, w64 (s116 + 1)), hd, I119, _, _, le121, ho.sub ⟨r, r, r, r, r, r, r, r, trivial⟩, hs.pick (.c .z .n)⟩))))))
 refine .exitS [11] r r (.seq (.region (.skips 2 r (.nilS [10] r r (.pub .z fun I165 hl166 R167 => ?_)))))
 have le168 := IH.le.trans le121 hl166
 exact .ret (pret results37 (.t r .n) le168 ⟨s112, _, _, r, R167, hd⟩)

theorem W_dcsc_none {I : IH}   {Q : Columns → Prop}  (hd : dcsc_none Q) :
    OFun Tryz.prog 60 [] I (fun I_ v l => ∃ r p1 c2 p4 c5 p7 c8 p10 c11, v = .agg #[.int .i64 r.Rows, .int .i64 r.Cols, .slice p1 r.At.length c2, .slice p4 r.Start.length c5, .slice p7 r.Row.length c8, .slice p10 r.Val.length c11] ∧ l = [OwnSl eI64 3 p1 c2 r.At, OwnSl eI64 3 p4 c5 r.Start, OwnSl eI64 3 p7 c8 r.Row, OwnSl eI64 2 p10 c11 r.Val] ∧ Q r) := by
 refine Fun.enter func60 r ntmps60 r .n fun w0 M => ?_
 refine .seq (.region (.allocA zeroValue32 r r fun b13 => ?_))
 refine .nilS [0] r r (.seq (.region (.buildSlice 1 underlying29 sizeOf3 zeroValue3 r r (.c r r r .n) r r fun b15 => ?_)))
 exact .ownB (El := eI64) (ys := ([0] : List Int)) .z (.one r) r (.build zeroValue32 underlying32 BI32 (.c r r r (.s (.s (.s (.t .nil)))) .n) (by exact ⟨⟨_, _, r, r, r⟩, trivial⟩) r r (.storeA sizeOf32 r r (.s .z) (.t (.t (.t (.t (.t (.t .nil)))))) r r (.nilS [0] r r (.own0 eI64 3 (.own0 eI64 3 (.own0 eI64 2 (.ret (oret results60 (.w isAgg32 sizeOf32 r (.s (.s (.s (.s .z)))) r .n) (.refl _) (.c (.s (.s .z)) (.c (.s (.s .z)) (.c (.s .z) (.c .z .n)))) ⟨({ Rows := 0, Cols := 0, At := ([] : List Int), Start := ([0] : List Int), Row := ([] : List Int), Val := ([] : List Int) } : Columns), _, _, _, _, _, _, _, _, r, r, hd⟩))))))))

theorem W_dcsc_sure {I : IH} {a0 : Columns} {p1 : Option Addr} {c2 : Nat} {p4 : Option Addr} {c5 : Nat} {p7 : Option Addr} {c8 : Nat} {p10 : Option Addr} {c11 : Nat} {Q : Columns → Prop} (R3 : RepSl eI64 I p1 c2 a0.At) (R6 : RepSl eI64 I p4 c5 a0.Start) (R9 : RepSl eI64 I p7 c8 a0.Row) (R12 : RepSl eI64 I p10 c11 a0.Val) (hd : dcsc_sure a0 Q) :
    PFun Tryz.prog 76 [.agg #[.int .i64 a0.Rows, .int .i64 a0.Cols, .slice p1 a0.At.length c2, .slice p4 a0.Start.length c5, .slice p7 a0.Row.length c8, .slice p10 a0.Val.length c11]] I (fun I_ v => ∃ r p13 c14 p16 c17 p19 c20 p22 c23, v = .agg #[.int .i64 r.Rows, .int .i64 r.Cols, .slice p13 r.At.length c14, .slice p16 r.Start.length c17, .slice p19 r.Row.length c20, .slice p22 r.Val.length c23] ∧ RepSl eI64 I_ p13 c14 r.At ∧ RepSl eI64 I_ p16 c17 r.Start ∧ RepSl eI64 I_ p19 c20 r.Row ∧ RepSl eI64 I_ p22 c23 r.Val ∧ Q r) := by
 refine Fun.enter func76 r ntmps76 r (.c .n) fun w0 M => ?_
 refine .seq (.region (.boxA r r r fun b29 => ?_))
 refine .allocA zeroValue32 r r fun b31 => ?_
 refine .nilS [2, 1] r r (.seq (.seq (.region (.loadW isAgg32 sizeOf32 r (.s .z) r r r ?_))))
 have hw34 := W_dcsc_Right (I := I) R3 R6 R9 R12 hd
 refine .callP call73 r hw34 r r fun v35 hv36 => ?_
 obtain ⟨r33, rfl, hd⟩ := hv36
 refine .nilS [4, 2, 1] r r (.condP r hd (fun hb37 hd => ?_) fun hb37 hd => ?_)
 · exact .seq (.region (.loadW isAgg32 sizeOf32 r (.s .z) r r r (.storeA sizeOf32 r r .z (.t (.t (.t (.t (.t (.t .nil)))))) r r (.nilS [2] r r (.drop (.s .z) (.ret (pret results76 (.w isAgg32 sizeOf32 r .z r .n) (.refl _) ⟨a0, _, _, _, _, _, _, _, _, r, R3, R6, R9, R12, hd⟩)))))))
 refine .skipS [2] r r (.drop (.s .z) (.seq (.region ?_)))
 have hw60 := W_dcsc_none (I := I) hd
 refine .callO call60 r hw60 r r fun v42 I39 l43 hl40 hv41 => ?_
 obtain ⟨r38, p44, c45, p47, c48, p50, c51, p53, c54, rfl, rfl, hd⟩ := hv41
 have le61 := IH.le.trans (.refl _) hl40
 refine .storeA sizeOf32 r r (.s (.s (.s (.s .z)))) (.t (.t (.t (.t (.t (.t .nil)))))) r r (.nilS [2] r r (.pub .z fun I62 hl63 R64 => ?_))
 have le65 := IH.le.trans le61 hl63
 refine .pub .z fun I66 hl67 R68 => ?_
 have le69 := IH.le.trans le65 hl67
 replace R64 := R64.mono hl67
 refine .pub .z fun I70 hl71 R72 => ?_
 have le73 := IH.le.trans le69 hl71
 replace R64 := R64.mono hl71
 replace R68 := R68.mono hl71
 refine .pub .z fun I74 hl75 R76 => ?_
 have le77 := IH.le.trans le73 hl75
 replace R64 := R64.mono hl75
 replace R68 := R68.mono hl75
 replace R72 := R72.mono hl75
 exact .ret (pret results76 (.w isAgg32 sizeOf32 r .z r .n) le77 ⟨r38, _, _, _, _, _, _, _, _, r, R64, R68, R72, R76, hd⟩)

theorem W_dcsc_place {I : IH} {a0 : Columns} {a1 : Int} {p1 : Option Addr} {c2 : Nat} {p4 : Option Addr} {c5 : Nat} {p7 : Option Addr} {c8 : Nat} {p10 : Option Addr} {c11 : Nat} {Q : Int → Prop} (R3 : RepSl eI64 I p1 c2 a0.At) (R6 : RepSl eI64 I p4 c5 a0.Start) (R9 : RepSl eI64 I p7 c8 a0.Row) (R12 : RepSl eI64 I p10 c11 a0.Val) (hd : dcsc_place a0 a1 Q) :
    PFun Tryz.prog 77 [.agg #[.int .i64 a0.Rows, .int .i64 a0.Cols, .slice p1 a0.At.length c2, .slice p4 a0.Start.length c5, .slice p7 a0.Row.length c8, .slice p10 a0.Val.length c11], .int .i64 a1] I (fun I_ v => ∃ r, v = .int .i64 r ∧ Q r) := by
 refine Fun.enter func77 r ntmps77 r (.c (.c .n)) fun w0 M => ?_
 refine .seq (.region (.boxA r r r fun b15 => ?_))
 refine .skips 1 r (.nilS [2, 1] r r (.scope (.seq (.draw [some 0, some 1, some 2, some 3] 4 MX (by kernel_rfl) (by kernel_rfl) (by kernel_rfl) (by kernel_rfl) (by kernel_rfl) (by kernel_rfl) (by kernel_rfl) (fun ex => (pto b15 (.cells #[.int .i64 a0.Rows, .int .i64 a0.Cols, .slice p1 a0.At.length c2, .slice p4 a0.Start.length c5, .slice p7 a0.Row.length c8, .slice p10 a0.Val.length c11] 32 (0, 0))) :: ex) (fun _ _ => (.s .z)) r (.f [] r (by kernel_rfl) r r (fun ex => .fieldAddr underlying32 r sizeOf29 r (o := 2) r r r .mk) (.f [0] r (by kernel_rfl) r r (fun ex => .load1 isAgg29 r .z r r r .mk) (.f [1] r (by kernel_rfl) r r (fun ex => .len underlying29 r r r r .mk) (.fs [[]] r (by kernel_rfl) (.e 4 (by kernel_rfl) (by kernel_rfl) (by kernel_rfl) ?_)))))))))
 refine .skips 1 r (.nilS [6, 5, 2, 1] r r (.seq (.labelS [6, 5, 2, 1] r r (.seq ?_))))
 refine Cod.joinQ (σ := Int × Int) hd (fun (s : Int × Int) c w => match s with | (s227, s228) => ∃ I_, IH.le I I_ ∧ Ok ⟨44, [], none⟩ [(5, .int .i64 s227), (6, .int .i64 s228)] c ∧ Sym w0 M I I_ [] w) (fun k229 hd => ?_) ?_
 · skip
   refine .block (.loop hd (fun (s : Int × Int) c w => match s with | (s298, s299) => ∃ I_, IH.le I I_ ∧ Ok ⟨44, [], none⟩ [(1, .int .i64 a1), (2, .pointer (some ⟨b15, 0, none⟩)), (5, .int .i64 s298), (6, .int .i64 s299)] c ∧ Sym w0 M I I_ [pto b15 (.cells #[.int .i64 a0.Rows, .int .i64 a0.Cols, .slice p1 a0.At.length c2, .slice p4 a0.Start.length c5, .slice p7 a0.Row.length c8, .slice p10 a0.Val.length c11] 32 (0, 0))] w) (fun c w ho hs => ⟨I, (.refl _), ho.sub ⟨r, r, r, r, trivial⟩, hs.pick (.c .z .n)⟩) ?_)
   rintro ⟨s298, s299⟩ next300 hd c w hst
   obtain ⟨I301, hl302, hok, hsym⟩ := hst
   have le303 := IH.le.trans (.refl _) hl302
   replace R3 := R3.mono hl302
   replace R6 := R6.mono hl302
   replace R9 := R9.mono hl302
   replace R12 := R12.mono hl302
   refine Cod.at hok hsym (.seq (.seq (.region (.skips 2 r (.lt r r r r (.nilS [13, 6, 5, 2, 1] r r (.condP r hd (fun hb305 hd => ?_) fun hb305 hd => ?_)))))))
   · refine .skipS [6, 5, 2, 1] r r (.block (.seq (.region (.skips 3 r (.sub' r r r r (.quo r r (by decide) r r (.add r r r r (.skips 1 r (.nilS [7, 6, 5, 2, 1] r r ?_)))))))))
     refine .block (.seq (.region (.fieldAddr underlying32 r sizeOf29 r (o := 2) r r r (.load1 isAgg29 r .z r r r (.skips 1 r ?_)))))
     obtain ⟨h315, x316, hx317, hd⟩ := hd
     obtain ⟨b318, o319, cs320, e321, hC322, hr323⟩ := R3.2 _ _ hx317
     cases hr323
     refine .ixa underlying29 sizeOf3 r e321 r h315 (idx_lt hx317 h315) r r (.ld1 (j := 0) isAgg3 hC322 r r r r r (.skips 1 r (.eq r r r r (.skips 1 r (.nilS [21, 7, 6, 5, 2, 1] r r (.condP r hd (fun hb324 hd => ?_) fun hb324 hd => ?_))))))
     · exact .seq (.region (.skips 1 r (.sub (E' := [(1, _), (2, _), (6, _), (7, _), (21, _), (29, _)]) ⟨r, r, r, r, r, r, trivial⟩ (.skips 1 r (.nilS [5, 6] r r (.drop .z (.exit fun c w ho hs => ⟨(w64 (s298 + (w64 ((w64 (s299 - s298)).tdiv 2))), s299), hd, I301, le303, ho.sub ⟨r, r, trivial⟩, hs.pick .n⟩)))))))
     refine .seq (.region (.fieldAddr underlying32 r sizeOf29 r (o := 2) r r r (.load1 isAgg29 r .z r r r (.skips 1 r ?_))))
     obtain ⟨h325, x326, hx327, hd⟩ := hd
     obtain ⟨b328, o329, cs330, e331, hC332, hr333⟩ := R3.2 _ _ hx327
     cases hr333
     refine .ixa underlying29 sizeOf3 r e331 r h325 (idx_lt hx327 h325) r r (.ld1 (j := 0) isAgg3 hC332 r r r r r (.skips 1 r (.lt r r r r (.skips 1 r (.nilS [30, 7, 6, 5, 2, 1] r r (.condP r hd (fun hb334 hd => ?_) fun hb334 hd => ?_))))))
     · exact .region (.skips 1 r (.add r r r r (.sub (E' := [(1, _), (2, _), (6, _), (7, _), (30, _), (38, _), (39, _)]) ⟨r, r, r, r, r, r, r, trivial⟩ (.skips 1 r (.nil' fun c w ho hs => ⟨(w64 ((w64 (s298 + (w64 ((w64 (s299 - s298)).tdiv 2)))) + 1), s299), hd, I301, le303, ho.sub ⟨r, r, r, r, trivial⟩, hs.pick (.c .z .n)⟩)))))
     exact .region (.skips 1 r (.sub (E' := [(1, _), (2, _), (5, _), (7, _), (30, _), (20, _)]) ⟨r, r, r, r, r, r, trivial⟩ (.skips 1 r (.nil' fun c w ho hs => ⟨(s298, w64 (s298 + (w64 ((w64 (s299 - s298)).tdiv 2)))), hd, I301, le303, ho.sub ⟨r, r, r, r, trivial⟩, hs.pick (.c .z .n)⟩))))
   exact .exit fun c w ho hs => ⟨(s298, s299), hd, I301, le303, ho.sub ⟨r, r, trivial⟩, hs.pick .n⟩
 rintro ⟨s227, s228⟩ hd c w hst
 obtain ⟨I335, hl336, hok, hsym⟩ := hst
 have le337 := IH.le.trans (.refl _) hl336
 refine Cod.at hok hsym (.seq (.seq (.region (.skips 2 r (.lt r r r r (.nilS [42, 5] r r (.condP r hd (fun hb338 hd => ?_) fun hb338 hd => ?_)))))))
 · exact .seq (.region (.skips 2 r (.nilS [4] r r (.ret (pret results77 (.t r .n) le337 ⟨s227, r, hd⟩)))))
 exact .skipS [] r r (.seq (.region (.skips 1 r (.nilS [4] r r (.ret (pret results77 (.t r .n) le337 ⟨(-1), r, hd⟩))))))

theorem W_dcsc_items_9d2 {I : IH} {a0 : Columns} {a1 : Int} {p1 : Option Addr} {c2 : Nat} {p4 : Option Addr} {c5 : Nat} {p7 : Option Addr} {c8 : Nat} {p10 : Option Addr} {c11 : Nat} {Q : (Columns × Int) → Prop} (R3 : RepSl eI64 I p1 c2 a0.At) (R6 : RepSl eI64 I p4 c5 a0.Start) (R9 : RepSl eI64 I p7 c8 a0.Row) (R12 : RepSl eI64 I p10 c11 a0.Val) (hd : dcsc_items_9d2 a0 a1 Q) :
    Fun Tryz.prog 79 #[.agg #[.int .i64 a0.Rows, .int .i64 a0.Cols, .slice p1 a0.At.length c2, .slice p4 a0.Start.length c5, .slice p7 a0.Row.length c8, .slice p10 a0.Val.length c11], .int .i64 a1] I [] (fun I_ v l => ∃ r b13 p14 c15 p17 c18 p20 c21 p23 c24 b26, v = .func (.func 129) #[] #[.pointer (some ⟨b13, 0, none⟩), .pointer (some ⟨b26, 0, none⟩)] ∧ RepSl eI64 I_ p14 c15 r.1.At ∧ RepSl eI64 I_ p17 c18 r.1.Start ∧ RepSl eI64 I_ p20 c21 r.1.Row ∧ RepSl eI64 I_ p23 c24 r.1.Val ∧ l = [pto b13 (.cells #[.int .i64 r.1.Rows, .int .i64 r.1.Cols, .slice p14 r.1.At.length c15, .slice p17 r.1.Start.length c18, .slice p20 r.1.Row.length c21, .slice p23 r.1.Val.length c24] 32 (0, 0)), pto b26 (.cells #[.int .i64 r.2] 3 (0, 0))] ∧ Q r) := by
 refine Fun.enter (vs := [.agg #[.int .i64 a0.Rows, .int .i64 a0.Cols, .slice p1 a0.At.length c2, .slice p4 a0.Start.length c5, .slice p7 a0.Row.length c8, .slice p10 a0.Val.length c11], .int .i64 a1]) func79 r ntmps79 r (.c (.c .n)) fun w0 M => ?_
 refine .seq (.region (.boxA r r r fun b13 => ?_))
 refine .box1 r r r r fun b15 => ?_
 exact .skips 1 r (.nilS [3, 2] r r (.seq (.region (.mkFn r r r r (.skips 1 r (.nilS [4] r r (.ret (oret results79 (.t r .n) (.refl _) (.c (.s .z) (.c .z .n)) ⟨(a0, a1), _, _, _, _, _, _, _, _, _, _, r, R3, R6, R9, R12, r, hd⟩))))))))

theorem W_dcsc_items_1_1ae {I : IH} {o0 : Nat} {o1 : List Item} {o2 : Columns} {o3 : Int} {Y : Nat → (List Item) → Item → ((Bool × Nat × (List Item)) → Prop) → Prop} {b5 : Nat} {p6 : Option Addr} {c7 : Nat} {b10 : Nat} {p11 : Option Addr} {c12 : Nat} {p14 : Option Addr} {c15 : Nat} {p17 : Option Addr} {c18 : Nat} {p20 : Option Addr} {c21 : Nat} {b23 : Nat} {lr : Nat} {Rr : Nat → HA} {Q : (Nat × (List Item)) → Prop} (hY : ∀ {J_ : IH}, I.le J_ → ∀ {y24 : Nat} {y25 : List Item} {x31 : Item} {p27 : Option Addr} {c28 : Nat} {Qy : (Bool × Nat × (List Item)) → Prop}, Y y24 y25 x31 Qy → RFun Tryz.prog lr [.agg (encItem x31).toArray] J_ [Rr y24, pto b5 (.cells #[.slice p27 y25.length c28] 25 (0, 0)), OwnSl eItem 67 p27 c28 y25] (fun I_ v l => ∃ r p33 c34, v = .bool r.1 ∧ l = [Rr r.2.1, pto b5 (.cells #[.slice p33 r.2.2.length c34] 25 (0, 0)), OwnSl eItem 67 p33 c34 r.2.2] ∧ Qy r)) (R13 : RepSl eI64 I p11 c12 o2.At) (R16 : RepSl eI64 I p14 c15 o2.Start) (R19 : RepSl eI64 I p17 c18 o2.Row) (R22 : RepSl eI64 I p20 c21 o2.Val) (hd : dcsc_items_1_1ae o0 o1 o2 o3 Y Q) :
    Fun Tryz.prog 129 #[.func (.yield lr) #[] #[], .pointer (some ⟨b10, 0, none⟩), .pointer (some ⟨b23, 0, none⟩)] I [Rr o0, pto b5 (.cells #[.slice p6 o1.length c7] 25 (0, 0)), OwnSl eItem 67 p6 c7 o1, pto b10 (.cells #[.int .i64 o2.Rows, .int .i64 o2.Cols, .slice p11 o2.At.length c12, .slice p14 o2.Start.length c15, .slice p17 o2.Row.length c18, .slice p20 o2.Val.length c21] 32 (0, 0)), pto b23 (.cells #[.int .i64 o3] 3 (0, 0))] (fun I_ v l => ∃ r p25 c26, v = .tuple #[] ∧ l = [Rr r.1, pto b5 (.cells #[.slice p25 r.2.length c26] 25 (0, 0)), OwnSl eItem 67 p25 c26 r.2, pto b10 (.cells #[.int .i64 o2.Rows, .int .i64 o2.Cols, .slice p11 o2.At.length c12, .slice p14 o2.Start.length c15, .slice p17 o2.Row.length c18, .slice p20 o2.Val.length c21] 32 (0, 0)), pto b23 (.cells #[.int .i64 o3] 3 (0, 0))] ∧ Q r) := by
 refine Fun.enter (vs := [.func (.yield lr) #[] #[], .pointer (some ⟨b10, 0, none⟩), .pointer (some ⟨b23, 0, none⟩)]) func129 r ntmps129 r (.c (.c (.c .n))) fun w0 M => ?_
 refine .seq (.region (.fieldAddr underlying32 r sizeOf29 r (o := 3) r r r (.load1 isAgg29 r (.s (.s (.s .z))) r r r (.load1 isAgg3 r (.s (.s (.s (.s .z)))) r r r ?_))))
 obtain ⟨h41, x42, hx43, hd⟩ := hd
 obtain ⟨b44, o45, cs46, e47, hC48, hr49⟩ := R16.2 _ _ hx43
 cases hr49
 refine .ixa underlying29 sizeOf3 r e47 r h41 (idx_lt hx43 h41) r r (.ld1 (j := 0) isAgg3 hC48 r r r r r (.skips 1 r (.nilS [4, 2, 1, 0] r r (.block (.loop hd (fun (s : (List Item) × Int × Nat) c w => match s with | (s178, s182, s183) => ∃ I_ p179 c180, IH.le I I_ ∧ Ok ⟨34, [], none⟩ [(0, .func (.yield lr) #[] #[]), (1, .pointer (some ⟨b10, 0, none⟩)), (2, .pointer (some ⟨b23, 0, none⟩)), (4, .int .i64 s182)] c ∧ Sym w0 M I I_ [pto b5 (.cells #[.slice p179 s178.length c180] 25 (0, 0)), OwnSl eItem 67 p179 c180 s178, pto b10 (.cells #[.int .i64 o2.Rows, .int .i64 o2.Cols, .slice p11 o2.At.length c12, .slice p14 o2.Start.length c15, .slice p17 o2.Row.length c18, .slice p20 o2.Val.length c21] 32 (0, 0)), pto b23 (.cells #[.int .i64 o3] 3 (0, 0)), Rr s183] w) (fun c w ho hs => ⟨I, _, _, (.refl _), ho.sub ⟨r, r, r, r, trivial⟩, hs.pick (.c (.s .z) (.c (.s .z) (.c (.s .z) (.c (.s .z) (.c .z .n)))))⟩) ?_)))))
 rintro ⟨s178, s182, s183⟩ next184 hd c w hst
 obtain ⟨I185, p179, c180, hl186, hok, hsym⟩ := hst
 have le187 := IH.le.trans (.refl _) hl186
 replace R13 := R13.mono hl186
 replace R16 := R16.mono hl186
 replace R19 := R19.mono hl186
 replace R22 := R22.mono hl186
 refine Cod.at hok hsym (.seq (.seq (.region (.skips 1 r (.fieldAddr underlying32 r sizeOf29 r (o := 3) r r r (.load1 isAgg29 r (.s (.s .z)) r r r (.load1 isAgg3 r (.s (.s (.s .z))) r r r (.add r r r r ?_))))))))
 obtain ⟨h198, x199, hx200, hd⟩ := hd
 obtain ⟨b201, o202, cs203, e204, hC205, hr206⟩ := R16.2 _ _ hx200
 cases hr206
 refine .ixa underlying29 sizeOf3 r e204 r h198 (idx_lt hx200 h198) r r (.ld1 (j := 0) isAgg3 hC205 r r r r r (.lt r r r r (.nilS [17, 4, 2, 1, 0] r r (.condP r hd (fun hb207 hd => ?_) fun hb207 hd => ?_))))
 · refine .skipS [4, 2, 1, 0] r r (.seq (.block (.seq (.ownF (.s .z) fun hne208 => ?_))))
   refine .draw [some 0, some 1, some 2, some 3, some 4, some 5, some 6, some 7, some 8, some 9, some 10, some 11, some 12, some 13] 14 MX (by kernel_rfl) (by kernel_rfl) (by kernel_rfl) (by kernel_rfl) (by kernel_rfl) (by kernel_rfl) (by kernel_rfl) (fun ex => (pto b5 (.cells #[.slice p179 s178.length c180] 25 (0, 0))) :: (OwnSl eItem 67 p179 c180 s178) :: (pto b10 (.cells #[.int .i64 o2.Rows, .int .i64 o2.Cols, .slice p11 o2.At.length c12, .slice p14 o2.Start.length c15, .slice p17 o2.Row.length c18, .slice p20 o2.Val.length c21] 32 (0, 0))) :: (pto b23 (.cells #[.int .i64 o3] 3 (0, 0))) :: (Rr s183) :: ex) (fun _ _ => (.s (.s (.s (.s (.s .z)))))) r (.fs [[]] r (by kernel_rfl) (.f [] r (by kernel_rfl) r r (fun ex => .fieldAddr underlying32 r sizeOf29 r (o := 4) r r r .mk) (.f [1] r (by kernel_rfl) r r (fun ex => .load1 isAgg29 r (.s (.s .z)) r r r .mk) (.fs [[]] r (by kernel_rfl) ?_))))
   obtain ⟨h209, x210, hx211, hd⟩ := hd
   obtain ⟨b212, o213, cs214, e215, hC216, hr217⟩ := R19.2 _ _ hx211
   cases hr217
   refine .f [2, 3] r (by kernel_rfl) r r (fun ex => .ixa underlying29 sizeOf3 r e215 r h209 (idx_lt hx211 h209) r r .mk) (.f [4] r (by kernel_rfl) r r (fun ex => .ld1 (j := 0) isAgg3 hC216 r r r r r .mk) (.f [] r (by kernel_rfl) r r (fun ex => .fieldAddr underlying32 r sizeOf30 r (o := 5) r r r .mk) (.f [6] r (by kernel_rfl) r r (fun ex => .load1 isAgg30 r (.s (.s .z)) r r r .mk) (.fs [[]] r (by kernel_rfl) ?_))))
   obtain ⟨h218, x219, hx220, hd⟩ := hd
   obtain ⟨b221, o222, cs223, e224, hC225, hr226⟩ := R22.2 _ _ hx220
   cases hr226
   refine .f [7, 8] r (by kernel_rfl) r r (fun ex => .ixa underlying30 sizeOf2 r e224 r h218 (idx_lt hx220 h218) r r .mk) (.f [9] r (by kernel_rfl) r r (fun ex => .ld1 (j := 0) isAgg2 hC225 r r r r r .mk) (.f [5, 10] r (by kernel_rfl) r r (fun ex => .build zeroValue67 underlying67 BI67 (.c r r r (.t .nil) (.c r r r (.s (.t .nil)) .n)) (by exact ⟨⟨_, _, r, r, r⟩, ⟨⟨_, _, r, r, r⟩, trivial⟩⟩) r r .mk) (.w [] [[], [11], [10, 11], [9, 10, 11], [9, 10, 11], [7, 9, 10, 11], [11], [5, 11], [4, 5, 11], [4, 5, 11], [2, 4, 5, 11], []] [0, 11] r (by kernel_rfl) (by kernel_rfl) (by kernel_rfl) ((dropE_kept r r)) (.inr (dropE_kept r r)) fun ex => ?_)))
   have hw227 := hY (J_ := I185) le187 (y24 := s183) (y25 := s178) (x31 := ({ At := x210, Val := x219 } : Item)) (p27 := p179) (c28 := c180) hd
   refine .callY r r (.c (.s (.s (.s (.s .z)))) (.c .z (.c .z .n))) hw227 r r fun v231 I228 l232 hl229 hv230 => ?_
   obtain ⟨r233, p237, c238, rfl, rfl, hd⟩ := hv230
   have le241 := IH.le.trans le187 hl229
   replace R13 := R13.mono hl229
   replace R16 := R16.mono hl229
   replace R19 := R19.mono hl229
   replace R22 := R22.mono hl229
   replace hC216 := hC216.mono hl229
   replace hC225 := hC225.mono hl229
   refine .re (m' := (Rr r233.2.1) :: (pto b5 (.cells #[.slice p237 r233.2.2.length c238] 25 (0, 0))) :: (OwnSl eItem 67 p237 c238 r233.2.2) :: (pto b10 (.cells #[.int .i64 o2.Rows, .int .i64 o2.Cols, .slice p11 o2.At.length c12, .slice p14 o2.Start.length c15, .slice p17 o2.Row.length c18, .slice p20 o2.Val.length c21] 32 (0, 0))) :: (pto b23 (.cells #[.int .i64 o3] 3 (0, 0))) :: ex) r (.some (fun ex => (Rr r233.2.1) :: (pto b5 (.cells #[.slice p237 r233.2.2.length c238] 25 (0, 0))) :: (OwnSl eItem 67 p237 c238 r233.2.2) :: (pto b10 (.cells #[.int .i64 o2.Rows, .int .i64 o2.Cols, .slice p11 o2.At.length c12, .slice p14 o2.Start.length c15, .slice p17 o2.Row.length c18, .slice p20 o2.Val.length c21] 32 (0, 0))) :: (pto b23 (.cells #[.int .i64 o3] 3 (0, 0))) :: ex) r (fun _ _ => (.s (.s (.s (.s (.s .z)))))) r trivial (.f [12] r (by kernel_rfl) r r (fun ex => .not r r r .mk) (.e 14 (by kernel_rfl) (by kernel_rfl) (by kernel_rfl) (.nilS [33, 4, 2, 1, 0] r r (.condP r hd (fun hb242 hd => ?_) fun hb242 hd => ?_)))))
   · exact .ret (oret results129 .n le241 (.c .z (.c .z (.c .z (.c .z (.c .z .n))))) ⟨(r233.2.1, r233.2.2), _, _, r, r, hd⟩)
   exact .skipS [4, 2, 1, 0] r r (.region (.skips 1 r (.add r r r r (.sub (E' := [(0, _), (1, _), (2, _), (18, _), (19, _)]) ⟨r, r, r, r, r, trivial⟩ (.skips 1 r (.nil' fun c w ho hs => ⟨(r233.2.2, w64 (s182 + 1), r233.2.1), hd, I228, _, _, le241, ho.sub ⟨r, r, r, r, trivial⟩, hs.pick (.c (.s .z) (.c (.s .z) (.c (.s .z) (.c (.s .z) (.c .z .n)))))⟩))))))
 exact .exit (oretN results129 .n le187 (.c (.s (.s (.s (.s .z)))) (.c .z (.c .z (.c .z (.c .z .n))))) ⟨(s183, s178), _, _, r, r, hd⟩)

theorem W_slices_AppendSeq_api_Item_api_Item_828 {I : IH} {o0 : Columns} {o1 : Int} {b3 : Nat} {p4 : Option Addr} {c5 : Nat} {p7 : Option Addr} {c8 : Nat} {p10 : Option Addr} {c11 : Nat} {p13 : Option Addr} {c14 : Nat} {b16 : Nat} {Q : (List Item) → Prop} (R6 : RepSl eI64 I p4 c5 o0.At) (R9 : RepSl eI64 I p7 c8 o0.Start) (R12 : RepSl eI64 I p10 c11 o0.Row) (R15 : RepSl eI64 I p13 c14 o0.Val) (hd : slices_AppendSeq_api_Item_api_Item_828 o0 o1 Q) :
    Fun Tryz.prog 128 #[.slice none 0 0, .func (.func 129) #[] #[.pointer (some ⟨b3, 0, none⟩), .pointer (some ⟨b16, 0, none⟩)]] I [pto b3 (.cells #[.int .i64 o0.Rows, .int .i64 o0.Cols, .slice p4 o0.At.length c5, .slice p7 o0.Start.length c8, .slice p10 o0.Row.length c11, .slice p13 o0.Val.length c14] 32 (0, 0)), pto b16 (.cells #[.int .i64 o1] 3 (0, 0))] (fun I_ v l => ∃ r p17 c18, v = .slice p17 r.length c18 ∧ RepSl eItem I_ p17 c18 r ∧ l = [pto b3 (.cells #[.int .i64 o0.Rows, .int .i64 o0.Cols, .slice p4 o0.At.length c5, .slice p7 o0.Start.length c8, .slice p10 o0.Row.length c11, .slice p13 o0.Val.length c14] 32 (0, 0)), pto b16 (.cells #[.int .i64 o1] 3 (0, 0))] ∧ Q r) := by
 refine Fun.enter (vs := [.slice none 0 0, .func (.func 129) #[] #[.pointer (some ⟨b3, 0, none⟩), .pointer (some ⟨b16, 0, none⟩)]]) func128 r ntmps128 r (.c (.c .n)) fun w0 M => ?_
 refine .marks0 (.seq (.region (.box1 r r r r fun b19 => ?_)))
 refine .skips 1 r (.nilS [2, 1] r r (.seq (.seq (.region (.skips 1 r (.nilS [6, 2, 1] r r (.block (.own0 eItem 67 (.rangeF [] r call129 (.c (.s (.s .z)) (.c (.s .z) (.c .z (.c .z (.c .z .n))))) fun lr D rc hrc => ?_)))))))))
 refine ⟨_, W_dcsc_items_1_1ae (I := I) (lr := lr) (Rr := recA lr [] rc) (o0 := 0) (o1 := ([] : List Item)) (o2 := o0) (o3 := o1) (b5 := b19) (p6 := none) (c7 := 0) (b10 := b3) (p11 := p4) (c12 := c5) (p14 := p7) (c15 := c8) (p17 := p10) (c18 := c11) (p20 := p13) (c21 := c14) (b23 := b16) ?_ R6 R9 R12 R15 hd, ?_⟩
 · skip
   intro I hJ y55 y56 x62 p58 c59 Qy  hd
   replace R6 := R6.mono hJ
   replace R9 := R9.mono hJ
   replace R12 := R12.mono hJ
   replace R15 := R15.mono hJ
   obtain ⟨rfl, hd⟩ := hd
   refine RFun.mk hrc r fun w0 M => ?_
   refine .region (.allocA zeroValue67 r r fun b63 => ?_)
   refine .storeA sizeOf67 r r .z (.t (.t .nil)) r r (.nil' fun c w ho hs => beginR (E' := [(2, _), (5, _)]) ho ⟨r, r, trivial⟩ hs (.s .z) (.block (.region (.load1 isAgg25 r (.s (.s .z)) r r r (.loadW isAgg67 sizeOf67 r .z r r r (.buildSlice 1 underlying25 sizeOf67 zeroValue67 r r (.c r r r .n) r r fun b65 => ?_))))))
   obtain ⟨hl67, hd⟩ := hd
   refine .append (ys := [x62]) 16 (.s (.s (.s (.s .z)))) underlying25 underlying25 IN67 r r r r r r r r r (.box .z (.one r) r) hl67 r r fun p68 c69 => ?_
   refine .store1 sizeOf25 r r (.s (.s (.s (.s .z)))) (.t .nil) r ?_
   exact .nil' fun c w ho hs => endR 0 (.inl rfl) (.refl _) (.s (.s (.s .z))) (.c (.s (.s (.s .z))) (.c .z .n)) ⟨(true, 0, (y56 ++ ([x62]))), _, _, rfl, rfl, hd⟩ hs
 intro v74 I71 l' hl72 hv73
 obtain ⟨r75, p79, c80, rfl, rfl, hd⟩ := hv73
 have le83 := IH.le.trans (.refl _) hl72
 replace R6 := R6.mono hl72
 replace R9 := R9.mono hl72
 replace R12 := R12.mono hl72
 replace R15 := R15.mono hl72
 obtain ⟨hz, hd⟩ := hd
 refine ⟨_, _, r, fun hj => ?_, fun i hj => absurd (hz.symm.trans hj) (by simp)⟩
 refine .re (m' := [Marks (D :: []), pto b19 (.cells #[.slice p79 r75.2.length c80] 25 (0, 0)), OwnSl eItem 67 p79 c80 r75.2, pto b3 (.cells #[.int .i64 o0.Rows, .int .i64 o0.Cols, .slice p4 o0.At.length c5, .slice p7 o0.Start.length c8, .slice p10 o0.Row.length c11, .slice p13 o0.Val.length c14] 32 (0, 0)), pto b16 (.cells #[.int .i64 o1] 3 (0, 0))]) r (.mkS [2, 1] r r (.seq (.region (.load1 isAgg25 r (.s .z) r r r (.skips 1 r (.nilS [4, 1] r r (.drop (.s .z) (.pub (.s .z) fun I84 hl85 R86 => ?_))))))))
 have le87 := IH.le.trans le83 hl85
 replace R6 := R6.mono hl85
 replace R9 := R9.mono hl85
 replace R12 := R12.mono hl85
 replace R15 := R15.mono hl85
 exact .ret (oretM .z results128 (.t r .n) le87 (.c .z (.c .z .n)) ⟨r75.2, _, _, r, R86, r, hd⟩)

theorem W_slices_Collect_api_Item_d7d {I : IH} {o0 : Columns} {o1 : Int} {b3 : Nat} {p4 : Option Addr} {c5 : Nat} {p7 : Option Addr} {c8 : Nat} {p10 : Option Addr} {c11 : Nat} {p13 : Option Addr} {c14 : Nat} {b16 : Nat} {Q : (List Item) → Prop} (R6 : RepSl eI64 I p4 c5 o0.At) (R9 : RepSl eI64 I p7 c8 o0.Start) (R12 : RepSl eI64 I p10 c11 o0.Row) (R15 : RepSl eI64 I p13 c14 o0.Val) (hd : slices_Collect_api_Item_d7d o0 o1 Q) :
    Fun Tryz.prog 78 #[.func (.func 129) #[] #[.pointer (some ⟨b3, 0, none⟩), .pointer (some ⟨b16, 0, none⟩)]] I [pto b3 (.cells #[.int .i64 o0.Rows, .int .i64 o0.Cols, .slice p4 o0.At.length c5, .slice p7 o0.Start.length c8, .slice p10 o0.Row.length c11, .slice p13 o0.Val.length c14] 32 (0, 0)), pto b16 (.cells #[.int .i64 o1] 3 (0, 0))] (fun I_ v l => ∃ r p17 c18, v = .slice p17 r.length c18 ∧ RepSl eItem I_ p17 c18 r ∧ l = [pto b3 (.cells #[.int .i64 o0.Rows, .int .i64 o0.Cols, .slice p4 o0.At.length c5, .slice p7 o0.Start.length c8, .slice p10 o0.Row.length c11, .slice p13 o0.Val.length c14] 32 (0, 0)), pto b16 (.cells #[.int .i64 o1] 3 (0, 0))] ∧ Q r) := by
 refine Fun.enter (vs := [.func (.func 129) #[] #[.pointer (some ⟨b3, 0, none⟩), .pointer (some ⟨b16, 0, none⟩)]]) func78 r ntmps78 r (.c .n) fun w0 M => ?_
 refine .seq (.region (.skips 1 r (.nilS [0] r r (.seq (.region (.skips 1 r ?_))))))
 have hw17 := W_slices_AppendSeq_api_Item_api_Item_828 (I := I) (o0 := o0) (o1 := o1) (b3 := b3) (p4 := p4) (c5 := c5) (p7 := p7) (c8 := c8) (p10 := p10) (c11 := c11) (p13 := p13) (c14 := c14) (b16 := b16) R6 R9 R12 R15 hd
 refine .callS (.f call128 r) (.c .z (.c .z .n)) hw17 r r fun v21 I18 l22 hl19 hv20 => ?_
 obtain ⟨r23, p24, c25, rfl, R26, rfl, hd⟩ := hv20
 have le27 := IH.le.trans (.refl _) hl19
 replace R6 := R6.mono hl19
 replace R9 := R9.mono hl19
 replace R12 := R12.mono hl19
 replace R15 := R15.mono hl19
 exact .re (m' := [pto b3 (.cells #[.int .i64 o0.Rows, .int .i64 o0.Cols, .slice p4 o0.At.length c5, .slice p7 o0.Start.length c8, .slice p10 o0.Row.length c11, .slice p13 o0.Val.length c14] 32 (0, 0)), pto b16 (.cells #[.int .i64 o1] 3 (0, 0))]) r (.skips 1 r (.nilS [2, 0] r r (.ret (oret results78 (.t r .n) le27 (.c .z (.c .z .n)) ⟨r23, _, _, r, R26, r, hd⟩))))

theorem W_dcsc_Column {I : IH} {a0 : Columns} {a1 : Int} {p1 : Option Addr} {c2 : Nat} {p4 : Option Addr} {c5 : Nat} {p7 : Option Addr} {c8 : Nat} {p10 : Option Addr} {c11 : Nat} {Q : (List Item) → Prop} (R3 : RepSl eI64 I p1 c2 a0.At) (R6 : RepSl eI64 I p4 c5 a0.Start) (R9 : RepSl eI64 I p7 c8 a0.Row) (R12 : RepSl eI64 I p10 c11 a0.Val) (hd : dcsc_Column a0 a1 Q) :
    PFun Tryz.prog 38 [.agg #[.int .i64 a0.Rows, .int .i64 a0.Cols, .slice p1 a0.At.length c2, .slice p4 a0.Start.length c5, .slice p7 a0.Row.length c8, .slice p10 a0.Val.length c11], .int .i64 a1] I (fun I_ v => ∃ r p13 c14, v = .slice p13 r.length c14 ∧ RepSl eItem I_ p13 c14 r ∧ Q r) := by
 refine Fun.enter func38 r ntmps38 r (.c (.c .n)) fun w0 M => ?_
 refine .seq (.region (.boxA r r r fun b18 => ?_))
 refine .skips 1 r (.nilS [2, 1] r r (.seq (.region (.loadW isAgg32 sizeOf32 r .z r r r ?_))))
 have hw58 := W_dcsc_sure (I := I) R3 R6 R9 R12 hd
 refine .call call76 r hw58 r r fun v44 I41 hl42 hv43 => ?_
 obtain ⟨r40, p46, c47, p49, c50, p52, c53, p55, c56, rfl, R48, R51, R54, R57, hd⟩ := hv43
 have le59 := IH.le.trans (.refl _) hl42
 replace R3 := R3.mono hl42
 replace R6 := R6.mono hl42
 replace R9 := R9.mono hl42
 replace R12 := R12.mono hl42
 refine .storeA sizeOf32 r r .z (.t (.t (.t (.t (.t (.t .nil)))))) r r (.nilS [2, 1] r r (.seq (.region (.loadW isAgg32 sizeOf32 r .z r r r (.skips 1 r ?_)))))
 have hw65 := W_dcsc_place (I := I41) R48 R51 R54 R57 hd
 refine .callP call77 r hw65 r r fun v66 hv67 => ?_
 obtain ⟨r64, rfl, hd⟩ := hv67
 refine .skips 1 r (.nilS [5, 2] r r (.seq (.seq (.region (.skips 1 r (.lt r r r r (.nilS [12, 5, 2] r r (.condP r hd (fun hb68 hd => ?_) fun hb68 hd => ?_))))))))
 · exact .seq (.region (.skips 1 r (.nilS [4] r r (.drop .z (.ret (pret results38 (.t r .n) le59 ⟨([] : List Item), _, _, r, (.nil _ _ _), hd⟩))))))
 refine .skipS [5, 2] r r (.seq (.region (.loadW isAgg32 sizeOf32 r .z r r r (.skips 1 r ?_))))
 have hw69 := W_dcsc_items_9d2 (I := I41) (a0 := r40) (a1 := r64) R48 R51 R54 R57 hd
 refine .callS (.f call79 r) .n hw69 r r fun v73 I70 l74 hl71 hv72 => ?_
 obtain ⟨r75, b78, p79, c80, p82, c83, p85, c86, p88, c89, b91, rfl, R81, R84, R87, R90, rfl, hd⟩ := hv72
 have le92 := IH.le.trans le59 hl71
 replace R48 := R48.mono hl71
 replace R51 := R51.mono hl71
 replace R54 := R54.mono hl71
 replace R57 := R57.mono hl71
 refine .re (m' := [pto b78 (.cells #[.int .i64 r75.1.Rows, .int .i64 r75.1.Cols, .slice p79 r75.1.At.length c80, .slice p82 r75.1.Start.length c83, .slice p85 r75.1.Row.length c86, .slice p88 r75.1.Val.length c89] 32 (0, 0)), pto b91 (.cells #[.int .i64 r75.2] 3 (0, 0)), pto b18 (.cells #[.int .i64 r40.Rows, .int .i64 r40.Cols, .slice p46 r40.At.length c47, .slice p49 r40.Start.length c50, .slice p52 r40.Row.length c53, .slice p55 r40.Val.length c56] 32 (0, 0))]) r ?_
 have hw93 := W_slices_Collect_api_Item_d7d (I := I70) (o0 := r75.1) (o1 := r75.2) (b3 := b78) (p4 := p79) (c5 := c80) (p7 := p82) (c8 := c83) (p10 := p85) (c11 := c86) (p13 := p88) (c14 := c89) (b16 := b91) R81 R84 R87 R90 hd
 refine .callS (.f call78 r) (.c .z (.c .z .n)) hw93 r r fun v97 I94 l98 hl95 hv96 => ?_
 obtain ⟨r99, p100, c101, rfl, R102, rfl, hd⟩ := hv96
 have le103 := IH.le.trans le92 hl95
 replace R48 := R48.mono hl95
 replace R51 := R51.mono hl95
 replace R54 := R54.mono hl95
 replace R57 := R57.mono hl95
 replace R81 := R81.mono hl95
 replace R84 := R84.mono hl95
 replace R87 := R87.mono hl95
 replace R90 := R90.mono hl95
 exact .re (m' := [pto b78 (.cells #[.int .i64 r75.1.Rows, .int .i64 r75.1.Cols, .slice p79 r75.1.At.length c80, .slice p82 r75.1.Start.length c83, .slice p85 r75.1.Row.length c86, .slice p88 r75.1.Val.length c89] 32 (0, 0)), pto b91 (.cells #[.int .i64 r75.2] 3 (0, 0)), pto b18 (.cells #[.int .i64 r40.Rows, .int .i64 r40.Cols, .slice p46 r40.At.length c47, .slice p49 r40.Start.length c50, .slice p52 r40.Row.length c53, .slice p55 r40.Val.length c56] 32 (0, 0))]) r (.skips 1 r (.nilS [4] r r (.drop .z (.drop .z (.drop .z (.ret (pret results38 (.t r .n) le103 ⟨r99, _, _, r, R102, hd⟩)))))))

theorem W_wide_Narrow {I : IH} {a0 : Wide}  {Q : (Int × Bool) → Prop}  (hd : wide_Narrow a0 Q) :
    PFun Tryz.prog 141 [.agg (encWide a0).toArray] I (fun I_ v => ∃ r, v = .tuple #[.int .i64 r.1, .bool r.2] ∧ Q r) := by
 refine Fun.enter func141 r ntmps141 r (.c .n) fun w0 M => ?_
 refine .seq (.region (.boxA r r r fun b3 => ?_))
 refine .skips 2 r (.nilS [1] r r (.seq (.region (.fieldAddr underlying87 r sizeOf85 r (o := 1) r r r (.load1 isAgg85 r .z r r r (.conv underlying85 underlying2 r r r (.skips 1 r (.nilS [4, 1] r r (.seq ?_)))))))))
 refine .seq (.draw [some 0, some 2, some 1, some 3] 4 MX (by kernel_rfl) (by kernel_rfl) (by kernel_rfl) (by kernel_rfl) (by kernel_rfl) (by kernel_rfl) (by kernel_rfl) (fun ex => (pto b3 (.cells #[.int .i64 a0.Hi, .int .u64 a0.Lo] 87 (0, 0))) :: ex) (fun _ _ => (.s .z)) r (.fs [[]] r (by kernel_rfl) (.f [] r (by kernel_rfl) r r (fun ex => .loadW isAgg87 sizeOf87 r .z r r r .mk) (.w [2] [[]] [0] r (by kernel_rfl) (by kernel_rfl) (by kernel_rfl) ((dropE_kept r r)) (.inr (dropE_kept r r)) fun ex => ?_))))
 have hw6 := W_wide_Of (I := I) hd
 refine .callP call125 r hw6 r r fun v7 hv8 => ?_
 obtain ⟨r5, rfl, hd⟩ := hv8
 refine .some (fun ex => (pto b3 (.cells #[.int .i64 a0.Hi, .int .u64 a0.Lo] 87 (0, 0))) :: ex) r (fun _ _ => (.s .z)) r (.cc [] r (by kernel_rfl) r r r (fun ex => .loadW isAgg87 sizeOf87 r .z r r r .mk) trivial) (.f [1, 2] r (by kernel_rfl) r r (fun ex => .neV r r (EQ87 r5 a0) (EG87 _ _ _ _ _) r r r .mk) (.e 4 (by kernel_rfl) (by kernel_rfl) (by kernel_rfl) (.nilS [11, 4] r r (.drop .z (.condP r hd (fun hb9 hd => ?_) fun hb9 hd => ?_)))))
 · exact .seq (.region (.skips 2 r (.nilS [3, 2] r r (.ret (pret results141 (.t r (.t r .n)) (.refl _) ⟨(0, false), r, hd⟩)))))
 exact .skipS [4] r r (.seq (.region (.skips 3 r (.nilS [3, 2] r r (.ret (pret results141 (.t r (.t r .n)) (.refl _) ⟨(w64 (a0.Lo), true), r, hd⟩))))))

theorem W_ring_Narrow {I : IH} {a0 : Int} {a1 : Wide}  {Q : (Int × Bool) → Prop}  (hd : ring_Narrow a0 a1 Q) :
    PFun Tryz.prog 91 [.int .i64 a0, .agg (encWide a1).toArray] I (fun I_ v => ∃ r, v = .tuple #[.int .i64 r.1, .bool r.2] ∧ Q r) := by
 refine Fun.enter func91 r ntmps91 r (.c (.c .n)) fun w0 M => ?_
 refine .seq (.region (.boxA r r r fun b1 => ?_))
 refine .skips 2 r (.nilS [3] r r (.seq (.region (.loadW isAgg87 sizeOf87 r .z r r r ?_))))
 have hw4 := W_wide_Narrow (I := I) hd
 refine .callP call141 r hw4 r r fun v5 hv6 => ?_
 obtain ⟨r3, rfl, hd⟩ := hv6
 exact .extract r r r r (.extract r r r r (.skips 2 r (.nilS [5, 4] r r (.drop .z (.ret (pret results91 (.t r (.t r .n)) (.refl _) ⟨(r3.1, r3.2), r, hd⟩))))))

theorem W_ring_Zero {I : IH} {a0 : Int}  {Q : Int → Prop}  (hd : ring_Zero a0 Q) :
    PFun Tryz.prog 92 [.int .i64 a0] I (fun I_ v => ∃ r, v = .int .i64 r ∧ Q r) := by
 refine Fun.enter func92 r ntmps92 r (.c .n) fun w0 M => ?_
 refine .seq (.region (.skips 1 r (.nilS [0] r r (.seq (.seq (.region (.skips 1 r (.nilS [3] r r (.block ?_)))))))))
 refine .seq (.seq (.region (.eq r r r r (.skips 1 r (.nilS [4, 3] r r (.condP r hd (fun hb1 hd => ?_) fun hb1 hd => ?_))))))
 · exact .skipS [4] r r (.condKT r hb1 (.seq (.region (.skips 1 r (.nilS [2] r r (.ret (pret results92 (.t r .n) (.refl _) ⟨4611686018427387904, r, hd⟩)))))))
 refine .seq (.region (.eq r r r r (.sub (E' := [(3, _), (6, _)]) ⟨r, r, trivial⟩ (.skips 1 r (.nilS [4, 3] r r (.condP r hd (fun hb2 hd => ?_) fun hb2 hd => ?_))))))
 · exact .skipS [4] r r (.condKT r hb2 (.seq (.region (.skips 1 r (.nilS [2] r r (.ret (pret results92 (.t r .n) (.refl _) ⟨4611686018427387904, r, hd⟩)))))))
 refine .region (.eq r r r r (.sub (E' := [(3, _), (7, _)]) ⟨r, r, trivial⟩ (.skips 1 r (.nilS [4] r r (.condP r hd (fun hb3 hd => ?_) fun hb3 hd => ?_)))))
 · exact .seq (.region (.skips 1 r (.nilS [2] r r (.ret (pret results92 (.t r .n) (.refl _) ⟨4611686018427387904, r, hd⟩)))))
 exact .skipS [] r r (.seq (.region (.skips 1 r (.nilS [2] r r (.ret (pret results92 (.t r .n) (.refl _) ⟨0, r, hd⟩))))))

theorem W_pull_Done_1_ac1 {I : IH} {o0 : Int} {a0 : Sum} {b2 : Nat} {Q : Bool → Prop}  (hd : pull_Done_1_ac1 o0 a0 Q) :
    Fun Tryz.prog 90 #[.agg (encSum a0).toArray, .pointer (some ⟨b2, 0, none⟩)] I [pto b2 (.cells #[.int .i64 o0] 3 (0, 0))] (fun I_ v l => ∃ r, v = .bool r ∧ l = [pto b2 (.cells #[.int .i64 o0] 3 (0, 0))] ∧ Q r) := by
 refine Fun.enter (vs := [.agg (encSum a0).toArray, .pointer (some ⟨b2, 0, none⟩)]) func90 r ntmps90 r (.c (.c .n)) fun w0 M => ?_
 refine .seq (.region (.boxA r r r fun b5 => ?_))
 refine .skips 1 r (.nilS [2, 1] r r (.seq (.region (.fieldAddr underlying89 r sizeOf3 r (o := 0) r r r (.load1 isAgg3 r .z r r r (.lt r r r r (.skips 1 r ?_)))))))
 refine splitP hd (fun hb7 hd => ?_) fun hb7 hd => ?_
 · rw [hb7]
   exact .skips 6 r (.nilS [3, 1] r r (.drop .z (.ret (oret results90 (.t r .n) (.refl _) (.c .z .n) ⟨true, r, r, hd⟩))))
 rw [hb7]
 exact .gyes r r r (.fieldAddr underlying89 r sizeOf3 r (o := 0) r r r (.gyes r r r (.load1 isAgg3 r .z r r r (.gyes r r r (.load1 isAgg3 r (.s .z) r r r (.gyes r r r (.ge r r r r (.skips 2 r (.nilS [3, 1] r r (.drop .z (.ret (oret results90 (.t r .n) (.refl _) (.c .z .n) ⟨(decide (o0 ≤ a0.At)), r, r, hd⟩))))))))))))

theorem W_slices_IndexFunc_api_Sum_api_Sum_a5e {I : IH} {o0 : Int} {a0 : List Sum} {b2 : Nat} {p3 : Option Addr} {c4 : Nat} {Q : Int → Prop} (R5 : RepSl eSum I p3 c4 a0) (hd : slices_IndexFunc_api_Sum_api_Sum_a5e o0 a0 Q) :
    Fun Tryz.prog 140 #[.slice p3 a0.length c4, .func (.func 90) #[] #[.pointer (some ⟨b2, 0, none⟩)]] I [pto b2 (.cells #[.int .i64 o0] 3 (0, 0))] (fun I_ v l => ∃ r, v = .int .i64 r ∧ l = [pto b2 (.cells #[.int .i64 o0] 3 (0, 0))] ∧ Q r) := by
 refine Fun.enter (vs := [.slice p3 a0.length c4, .func (.func 90) #[] #[.pointer (some ⟨b2, 0, none⟩)]]) func140 r ntmps140 r (.c (.c .n)) fun w0 M => ?_
 refine .seq (.region (.skips 1 r (.nilS [1, 0] r r (.seq (.seq (.region (.skips 1 r (.len underlying41 r r r r (.skips 1 r ?_)))))))))
 refine .nilS [8, 7, 1, 0] r r (.block (.loop hd (fun (s49 : Int) c w => ∃ I_, IH.le I I_ ∧ Ok ⟨19, [], none⟩ [(0, .slice p3 a0.length c4), (1, .func (.func 90) #[] #[.pointer (some ⟨b2, 0, none⟩)]), (7, .int .i64 (a0.length : Int)), (8, .int .i64 s49)] c ∧ Sym w0 M I I_ [pto b2 (.cells #[.int .i64 o0] 3 (0, 0))] w) (fun c w ho hs => ⟨I, (.refl _), ho.sub ⟨r, r, r, r, trivial⟩, hs.pick (.c .z .n)⟩) ?_))
 rintro s49 next50 hd c w hst
 obtain ⟨I51, hl52, hok, hsym⟩ := hst
 have le53 := IH.le.trans (.refl _) hl52
 replace R5 := R5.mono hl52
 refine Cod.at hok hsym (.seq (.region (.lt r r r r (.nilS [9, 8, 7, 1, 0] r r (.seq (.condP r hd (fun hb55 hd => ?_) fun hb55 hd => ?_))))))
 · refine .skipS [8, 7, 1, 0] r r (.seq (.block (.seq (.region (.skips 2 r (.nilS [5, 8, 7, 1, 0] r r (.seq (.region (.skips 3 r ?_)))))))))
   obtain ⟨h56, x57, hx58, hd⟩ := hd
   obtain ⟨b59, o60, cs61, e62, hC63, hr64⟩ := R5.2 _ _ hx58
   cases hr64
   refine .ixa underlying41 sizeOf89 r e62 r h56 (idx_lt hx58 h56) r r (.ldW isAgg89 sizeOf89 hC63 r r r r ?_)
   have hw65 := W_pull_Done_1_ac1 (I := I51) (o0 := o0) (a0 := x57) (b2 := b2) hd
   refine .callS (.c call90 r r) (.c .z .n) hw65 r r fun v69 I66 l70 hl67 hv68 => ?_
   obtain ⟨r71, rfl, rfl, hd⟩ := hv68
   have le72 := IH.le.trans le53 hl67
   replace R5 := R5.mono hl67
   replace hC63 := hC63.mono hl67
   refine .re (m' := [pto b2 (.cells #[.int .i64 o0] 3 (0, 0))]) r (.nilS [16, 5, 8, 7, 1, 0] r r (.condP r hd (fun hb73 hd => ?_) fun hb73 hd => ?_))
   · exact .seq (.region (.skips 2 r (.nilS [4, 1] r r (.ret (oret results140 (.t r .n) le72 (.c .z .n) ⟨s49, r, r, hd⟩)))))
   exact .skipS [8, 7, 1, 0] r r (.region (.add r r r r (.sub (E' := [(0, _), (1, _), (7, _), (18, _)]) ⟨r, r, r, r, trivial⟩ (.skips 1 r (.nil' fun c w ho hs => ⟨(w64 (s49 + 1)), hd, I66, le72, ho.sub ⟨r, r, r, r, trivial⟩, hs.pick (.c .z .n)⟩)))))
 exact .exitS [1] r r (.seq (.region (.skips 1 r (.nilS [4, 1] r r (.ret (oret results140 (.t r .n) le53 (.c .z .n) ⟨(-1), r, r, hd⟩))))))

theorem W_slices_ContainsFunc_api_Sum_api_Sum_927 {I : IH} {o0 : Int} {a0 : List Sum} {b2 : Nat} {p3 : Option Addr} {c4 : Nat} {Q : Bool → Prop} (R5 : RepSl eSum I p3 c4 a0) (hd : slices_ContainsFunc_api_Sum_api_Sum_927 o0 a0 Q) :
    Fun Tryz.prog 89 #[.slice p3 a0.length c4, .func (.func 90) #[] #[.pointer (some ⟨b2, 0, none⟩)]] I [pto b2 (.cells #[.int .i64 o0] 3 (0, 0))] (fun I_ v l => ∃ r, v = .bool r ∧ l = [pto b2 (.cells #[.int .i64 o0] 3 (0, 0))] ∧ Q r) := by
 refine Fun.enter (vs := [.slice p3 a0.length c4, .func (.func 90) #[] #[.pointer (some ⟨b2, 0, none⟩)]]) func89 r ntmps89 r (.c (.c .n)) fun w0 M => ?_
 refine .seq (.region (.skips 1 r (.nilS [1, 0] r r (.seq (.region (.skips 2 r ?_))))))
 have hw6 := W_slices_IndexFunc_api_Sum_api_Sum_a5e (I := I) (o0 := o0) (a0 := a0) (b2 := b2) R5 hd
 refine .callS (.f call140 r) (.c .z .n) hw6 r r fun v10 I7 l11 hl8 hv9 => ?_
 obtain ⟨r12, rfl, rfl, hd⟩ := hv9
 have le13 := IH.le.trans (.refl _) hl8
 replace R5 := R5.mono hl8
 exact .re (m' := [pto b2 (.cells #[.int .i64 o0] 3 (0, 0))]) r (.ge r r r r (.skips 1 r (.nilS [4, 1] r r (.ret (oret results89 (.t r .n) le13 (.c .z .n) ⟨(decide (0 ≤ r12)), r, r, hd⟩)))))

theorem W_pull_Done {I : IH} {a0 : Int} {a1 : Int} {a2 : List Sum} {p1 : Option Addr} {c2 : Nat} {Q : (Vec × Int) → Prop} (R3 : RepSl eSum I p1 c2 a2) (hd : pull_Done a0 a1 a2 Q) :
    PFun Tryz.prog 42 [.int .i64 a0, .int .i64 a1, .slice p1 a2.length c2] I (fun I_ v => ∃ r p4 c5, v = .tuple #[.agg #[.int .i64 r.1.N, .slice p4 r.1.Items.length c5], .int .i64 r.2] ∧ RepSl eItem I_ p4 c5 r.1.Items ∧ Q r) := by
 refine Fun.enter func42 r ntmps42 r (.c (.c (.c .n))) fun w0 M => ?_
 refine .seq (.region (.box1 r r r r fun b11 => ?_))
 refine .allocA zeroValue38 r r fun b13 => ?_
 refine .skips 1 r (.nilS [6, 4, 2, 0] r r (.seq (.block (.seq (.region (.skips 1 r ?_))))))
 have hw40 := W_ring_Is (I := I) hd
 refine .callP call36 r hw40 r r fun v41 hv42 => ?_
 obtain ⟨r39, rfl, hd⟩ := hv42
 refine .not r r r (.skips 1 r (.nilS [14, 6, 4, 2, 0] r r (.condP r hd (fun hb43 hd => ?_) fun hb43 hd => ?_)))
 · exact .seq (.region (.build zeroValue38 underlying38 BI38 .n (by exact trivial) r r (.storeA sizeOf38 r r .z (.t (.t .nil)) r r (.skips 1 r (.nilS [7, 6] r r (.drop (.s .z) (.ret (pret results42 (.w isAgg38 sizeOf38 r .z r (.t r .n)) (.refl _) ⟨(({ N := 0, Items := ([] : List Item) } : Vec), 8), _, _, r, (.nil _ _ _), hd⟩))))))))
 refine .seq (.seq (.region (.load1 isAgg3 r (.s .z) r r r (.lt r r r r (.skips 1 r ?_)))))
 refine splitP hd (fun hb44 hd => ?_) fun hb44 hd => ?_
 · rw [hb44]
   refine .skips 4 r (.nilS [19, 6, 4, 2, 0] r r (.condKT r r (.skipS [19, 6, 4, 2, 0] r r (.condKT r r (.seq (.region (.build zeroValue38 underlying38 BI38 .n (by exact trivial) r r (.storeA sizeOf38 r r .z (.t (.t .nil)) r r (.skips 1 r ?_)))))))))
   exact .nilS [7, 6] r r (.drop (.s .z) (.ret (pret results42 (.w isAgg38 sizeOf38 r .z r (.t r .n)) (.refl _) ⟨(({ N := 0, Items := ([] : List Item) } : Vec), 3), _, _, r, (.nil _ _ _), hd⟩)))
 rw [hb44]
 refine .gyes r r r (.load1 isAgg3 r (.s .z) r r r (.gyes r r r (.gt r r r r (.skips 2 r (.nilS [19, 6, 4, 2, 0] r r (.condP r hd (fun hb45 hd => ?_) fun hb45 hd => ?_))))))
 · exact .skipS [19, 6, 4, 2, 0] r r (.condKT r hb45 (.seq (.region (.build zeroValue38 underlying38 BI38 .n (by exact trivial) r r (.storeA sizeOf38 r r .z (.t (.t .nil)) r r (.skips 1 r (.nilS [7, 6] r r (.drop (.s .z) (.ret (pret results42 (.w isAgg38 sizeOf38 r .z r (.t r .n)) (.refl _) ⟨(({ N := 0, Items := ([] : List Item) } : Vec), 3), _, _, r, (.nil _ _ _), hd⟩))))))))))
 refine .region (.skips 1 r (.mkFn r r r r ?_))
 have hw46 := W_slices_ContainsFunc_api_Sum_api_Sum_927 (I := I) (o0 := a1) (a0 := a2) (b2 := b11) R3 hd
 refine .callS (.f call89 r) (.c (.s .z) .n) hw46 r r fun v50 I47 l51 hl48 hv49 => ?_
 obtain ⟨r52, rfl, rfl, hd⟩ := hv49
 have le53 := IH.le.trans (.refl _) hl48
 replace R3 := R3.mono hl48
 refine .re (m' := [pto b11 (.cells #[.int .i64 a1] 3 (0, 0)), pto b13 (.cells #[.int .i64 0, .slice none 0 0] 38 (0, 0))]) r (.sub (E' := [(0, _), (2, _), (4, _), (6, _), (26, _), (27, _), (28, _)]) ⟨r, r, r, r, r, r, r, trivial⟩ (.skips 1 r (.nilS [19, 6, 4, 2, 0] r r (.condP r hd (fun hb54 hd => ?_) fun hb54 hd => ?_))))
 · exact .seq (.region (.build zeroValue38 underlying38 BI38 .n (by exact trivial) r r (.storeA sizeOf38 r r (.s .z) (.t (.t .nil)) r r (.skips 1 r (.nilS [7, 6] r r (.drop .z (.ret (pret results42 (.w isAgg38 sizeOf38 r .z r (.t r .n)) le53 ⟨(({ N := 0, Items := ([] : List Item) } : Vec), 3), _, _, r, (.nil _ _ _), hd⟩))))))))
 refine .skipS [6, 4, 2, 0] r r (.seq (.seq (.region (.skips 1 r (.len underlying41 r r r r (.skips 1 r (.nilS [32, 31, 6, 4, 2, 0] r r (.block (.loop hd (fun (s137 : Int) c w => ∃ I_, IH.le I47 I_ ∧ Ok ⟨86, [], none⟩ [(0, .int .i64 a0), (2, .slice p1 a2.length c2), (4, .pointer (some ⟨b11, 0, none⟩)), (6, .pointer (some ⟨b13, 0, none⟩)), (31, .int .i64 (a2.length : Int)), (32, .int .i64 s137)] c ∧ Sym w0 M I I_ [pto b11 (.cells #[.int .i64 a1] 3 (0, 0)), pto b13 (.cells #[.int .i64 0, .slice none 0 0] 38 (0, 0))] w) (fun c w ho hs => ⟨I47, (.refl _), ho.sub ⟨r, r, r, r, r, r, trivial⟩, hs.pick (.c .z (.c .z .n))⟩) ?_)))))))))
 rintro s137 next138 hd c w hst
 obtain ⟨I139, hl140, hok, hsym⟩ := hst
 have le141 := IH.le.trans le53 hl140
 have le142 := IH.le.trans (.refl _) hl140
 replace R3 := R3.mono hl140
 refine Cod.at hok hsym (.seq (.region (.lt r r r r (.nilS [33, 32, 31, 6, 4, 2, 0] r r (.seq (.condP r hd (fun hb144 hd => ?_) fun hb144 hd => ?_))))))
 · refine .skipS [32, 31, 6, 4, 2, 0] r r (.seq (.block (.seq (.region (.skips 2 r (.nilS [8, 32, 31, 6, 4, 2, 0] r r (.seq (.draw [some 0, some 1, some 2, some 3, some 4, some 5, some 6, some 7, some 8, some 9, some 10, some 11, some 12, some 13, some 14, some 15] 16 MX (by kernel_rfl) (by kernel_rfl) (by kernel_rfl) (by kernel_rfl) (by kernel_rfl) (by kernel_rfl) (by kernel_rfl) (fun ex => (pto b11 (.cells #[.int .i64 a1] 3 (0, 0))) :: (pto b13 (.cells #[.int .i64 0, .slice none 0 0] 38 (0, 0))) :: ex) (fun _ _ => (.s (.s .z))) r (.fs [[]] r (by kernel_rfl) ?_)))))))))
   refine .f [0] r (by kernel_rfl) r r (fun ex => .gt r r r r .mk) (.fs [[1]] r (by kernel_rfl) ?_)
   refine splitP hd (fun hb145 hd => ?_) fun hb145 hd => ?_
   · rw [hb145]
     refine .fs [[2], [2]] r (by kernel_rfl) (.f [4, 2] r (by kernel_rfl) r r (fun ex => .gyes r r r (.sub' r r r r .mk)) ?_)
     obtain ⟨h146, x147, hx148, hd⟩ := hd
     obtain ⟨b149, o150, cs151, e152, hC153, hr154⟩ := R3.2 _ _ hx148
     cases hr154
     refine .f [3, 5, 2] r (by kernel_rfl) r r (fun ex => .gyes r r r (.ixa underlying41 sizeOf89 r e152 r h146 (idx_lt hx148 h146) r r .mk)) (.f [6, 2] r (by kernel_rfl) r r (fun ex => .gyes r r r (.fieldAddr underlying89 r sizeOf3 r (o := o150 + (w64 (s137 - 1)).toNat * 3) r r r .mk)) (.f [7, 2] r (by kernel_rfl) r r (fun ex => .gyes r r r (.ld1 (j := 0) isAgg3 hC153 r r r r r .mk)) (.fs [[2], [2]] r (by kernel_rfl) ?_)))
     obtain ⟨h155, x156, hx157, hd⟩ := hd
     obtain ⟨b158, o159, cs160, e161, hC162, hr163⟩ := R3.2 _ _ hx157
     cases hr163
     refine .f [9, 10, 2] r (by kernel_rfl) r r (fun ex => .gyes r r r (.ixa underlying41 sizeOf89 r e161 r h155 (idx_lt hx157 h155) r r .mk)) (.f [11, 2] r (by kernel_rfl) r r (fun ex => .gyes r r r (.fieldAddr underlying89 r sizeOf3 r (o := o159 + s137.toNat * 3) r r r .mk)) (.f [12, 2] r (by kernel_rfl) r r (fun ex => .gyes r r r (.ld1 (j := 0) isAgg3 hC162 r r r r r .mk)) (.f [8, 13, 2] r (by kernel_rfl) r r (fun ex => .gyes r r r (.ge r r r r .mk)) (.fs [[2, 14]] r (by kernel_rfl) (.e 16 (by kernel_rfl) (by kernel_rfl) (by kernel_rfl) (.nilS [50, 32, 31, 6, 4, 2, 0] r r (.condP r hd (fun hb164 hd => ?_) fun hb164 hd => ?_)))))))
     · exact .seq (.region (.build zeroValue38 underlying38 BI38 .n (by exact trivial) r r (.storeA sizeOf38 r r (.s .z) (.t (.t .nil)) r r (.skips 1 r (.nilS [7, 6] r r (.drop .z (.ret (pret results42 (.w isAgg38 sizeOf38 r .z r (.t r .n)) le141 ⟨(({ N := 0, Items := ([] : List Item) } : Vec), 6), _, _, r, (.nil _ _ _), hd⟩))))))))
     exact .skipS [32, 31, 6, 4, 2, 0] r r (.region (.add r r r r (.sub (E' := [(0, _), (2, _), (4, _), (6, _), (31, _), (52, _)]) ⟨r, r, r, r, r, r, trivial⟩ (.skips 1 r (.nil' fun c w ho hs => ⟨(w64 (s137 + 1)), hd, I139, le142, ho.sub ⟨r, r, r, r, r, r, trivial⟩, hs.pick (.c .z (.c .z .n))⟩)))))
   rw [hb145]
   exact .fs [[2], [2], [4, 2], [3, 5, 2], [6, 2], [7, 2], [2], [2], [9, 10, 2], [11, 2], [12, 2], [8, 13, 2], [2, 14]] r (by kernel_rfl) (.e 16 (by kernel_rfl) (by kernel_rfl) (by kernel_rfl) (.nilS [50, 32, 31, 6, 4, 2, 0] r r (.condKF r r (.skipS [32, 31, 6, 4, 2, 0] r r (.region (.add r r r r (.sub (E' := [(0, _), (2, _), (4, _), (6, _), (31, _), (52, _)]) ⟨r, r, r, r, r, r, trivial⟩ (.skips 1 r (.nil' fun c w ho hs => ⟨(w64 (s137 + 1)), hd, I139, le142, ho.sub ⟨r, r, r, r, r, r, trivial⟩, hs.pick (.c .z (.c .z .n))⟩)))))))))
 refine .exitS [6, 4, 2, 0] r r (.seq (.region (.load1 isAgg3 r .z r r r (.build zeroValue38 underlying38 BI38 (.c r r r (.t .nil) .n) (by exact ⟨⟨_, _, r, r, r⟩, trivial⟩) r r (.allocA zeroValue38 r r fun b167 => ?_)))))
 refine .storeA sizeOf38 r r .z (.t (.t .nil)) r r (.nilS [9, 6, 2, 0] r r (.drop (.s .z) (.seq (.seq (.region (.skips 1 r (.len underlying41 r r r r (.skips 1 r (.nilS [57, 56, 55, 9, 6, 0] r r ?_)))))))))
 refine .block (.own0 eItem 67 (.loop hd (fun (s : (List Item) × Int) c w => match s with | (s283, s287) => ∃ I_ p284 c285, IH.le I139 I_ ∧ Ok ⟨86, [], none⟩ [(0, .int .i64 a0), (6, .pointer (some ⟨b13, 0, none⟩)), (9, .pointer (some ⟨b167, 0, none⟩)), (55, .slice p1 a2.length c2), (56, .int .i64 (a2.length : Int)), (57, .int .i64 s287)] c ∧ Sym w0 M I I_ [pto b13 (.cells #[.int .i64 0, .slice none 0 0] 38 (0, 0)), pto b167 (.cells #[.int .i64 a1, .slice p284 s283.length c285] 38 (0, 0)), OwnSl eItem 67 p284 c285 s283] w) (fun c w ho hs => ⟨I139, _, _, (.refl _), ho.sub ⟨r, r, r, r, r, r, trivial⟩, hs.pick (.c (.s (.s .z)) (.c (.s .z) (.c .z .n)))⟩) ?_))
 rintro ⟨s283, s287⟩ next289 hd c w hst
 obtain ⟨I290, p284, c285, hl291, hok, hsym⟩ := hst
 have le292 := IH.le.trans le141 hl291
 have le293 := IH.le.trans le142 hl291
 have le294 := IH.le.trans (.refl _) hl291
 replace R3 := R3.mono hl291
 refine Cod.at hok hsym (.seq (.region (.lt r r r r (.nilS [58, 57, 56, 55, 9, 6, 0] r r (.seq (.condP r hd (fun hb296 hd => ?_) fun hb296 hd => ?_))))))
 · refine .skipS [57, 56, 55, 9, 6, 0] r r (.seq (.block (.seq (.region ?_))))
   obtain ⟨h308, x309, hx310, hd⟩ := hd
   obtain ⟨b311, o312, cs313, e314, hC315, hr316⟩ := R3.2 _ _ hx310
   cases hr316
   refine .ixa underlying41 sizeOf89 r e314 r h308 (idx_lt hx310 h308) r r (.ldW isAgg89 sizeOf89 hC315 r r r r (.allocA zeroValue89 r r fun b317 => ?_))
   refine .storeA sizeOf89 r r .z (.t (.t (.t .nil))) r r (.nilS [11, 57, 56, 55, 9, 6, 0] r r (.seq (.region (.skips 1 r (.fieldAddr underlying89 r sizeOf87 r (o := 1) r r r (.loadA isAgg87 sizeOf87 r .z (.s (.t (.t .nil))) r r r ?_))))))
   have hw324 := W_ring_Narrow (I := I290) hd
   refine .callP call91 r hw324 r r fun v325 hv326 => ?_
   obtain ⟨r323, rfl, hd⟩ := hv326
   refine .skips 1 r (.extract r r r r (.extract r r r r (.skips 2 r (.nilS [13, 12, 11, 57, 56, 55, 9, 6, 0] r r (.seq (.seq (.region (.skips 1 r (.not r r r ?_)))))))))
   refine .nilS [69, 12, 11, 57, 56, 55, 9, 6, 0] r r (.condP r hd (fun hb328 hd => ?_) fun hb328 hd => ?_)
   · exact .seq (.region (.build zeroValue38 underlying38 BI38 .n (by exact trivial) r r (.storeA sizeOf38 r r (.s .z) (.t (.t .nil)) r r (.skips 1 r (.nilS [7, 6] r r (.drop .z (.drop (.s .z) (.drop (.s .z) (.ret (pret results42 (.w isAgg38 sizeOf38 r .z r (.t r .n)) le292 ⟨(({ N := 0, Items := ([] : List Item) } : Vec), 12), _, _, r, (.nil _ _ _), hd⟩))))))))))
   refine .skipS [12, 11, 57, 56, 55, 9, 6, 0] r r (.seq (.region (.skips 2 r ?_)))
   have hw334 := W_ring_Zero (I := I290) hd
   refine .callP call92 r hw334 r r fun v335 hv336 => ?_
   obtain ⟨r333, rfl, hd⟩ := hv336
   refine .ne r r r r (.nilS [74, 12, 11, 57, 56, 55, 9, 6, 0] r r (.condP r hd (fun hb337 hd => ?_) fun hb337 hd => ?_))
   · refine .region (.fieldAddr underlying38 r sizeOf25 r (o := 1) r r r (.load1 isAgg25 r (.s (.s .z)) r r r (.fieldAddr underlying89 r sizeOf3 r (o := 0) r r r (.load1 isAgg3 r .z r r r (.skips 1 r (.build zeroValue67 underlying67 BI67 (.c r r r (.t .nil) (.c r r r (.s (.t .nil)) .n)) (by exact ⟨⟨_, _, r, r, r⟩, ⟨⟨_, _, r, r, r⟩, trivial⟩⟩) r r (.buildSlice 1 underlying25 sizeOf67 zeroValue67 r r (.c r r r .n) r r fun b338 => ?_)))))))
     obtain ⟨hl340, hd⟩ := hd
     refine .append (ys := [({ At := x309.At, Val := r323.1 } : Item)]) 16 (.s (.s (.s (.s .z)))) underlying25 underlying25 IN67 r r r r r r r r r (.box .z (.one r) r) hl340 r r fun p341 c342 => ?_
     exact .fieldAddr underlying38 r sizeOf25 r (o := 1) r r r (.store1 sizeOf25 r r (.s (.s (.s (.s .z)))) (.s (.t .nil)) r (.nilS [57, 56, 55, 9, 6, 0] r r (.drop (.s .z) (.drop (.s .z) (.region (.add r r r r (.sub (E' := [(0, _), (6, _), (9, _), (55, _), (56, _), (84, _)]) ⟨r, r, r, r, r, r, trivial⟩ (.skips 1 r (.nil' fun c w ho hs => ⟨((s283 ++ ([({ At := x309.At, Val := r323.1 } : Item)])), w64 (s287 + 1)), hd, I290, _, _, le294, ho.sub ⟨r, r, r, r, r, r, trivial⟩, hs.pick (.c (.s .z) (.c (.s .z) (.c .z .n)))⟩)))))))))
   exact .skipS [57, 56, 55, 9, 6, 0] r r (.drop .z (.region (.add r r r r (.sub (E' := [(0, _), (6, _), (9, _), (55, _), (56, _), (84, _)]) ⟨r, r, r, r, r, r, trivial⟩ (.skips 1 r (.nil' fun c w ho hs => ⟨(s283, w64 (s287 + 1)), hd, I290, _, _, le294, ho.sub ⟨r, r, r, r, r, r, trivial⟩, hs.pick (.c .z (.c .z (.c .z .n)))⟩))))))
 refine .exitS [9, 6] r r (.seq (.region (.loadW isAgg38 sizeOf38 r (.s .z) r r r (.storeA sizeOf38 r r .z (.t (.t .nil)) r r (.skips 1 r (.nilS [7, 6] r r (.drop (.s .z) (.pub (.s .z) fun I344 hl345 R346 => ?_))))))))
 have le347 := IH.le.trans le292 hl345
 have le348 := IH.le.trans le293 hl345
 have le349 := IH.le.trans le294 hl345
 exact .ret (pret results42 (.w isAgg38 sizeOf38 r .z r (.t r .n)) le347 ⟨(({ N := a1, Items := s283 } : Vec), 0), _, _, r, R346, hd⟩)

theorem W_dcsc_Work {I : IH} {a0 : Columns} {a1 : List Int} {p1 : Option Addr} {c2 : Nat} {p4 : Option Addr} {c5 : Nat} {p7 : Option Addr} {c8 : Nat} {p10 : Option Addr} {c11 : Nat} {p13 : Option Addr} {c14 : Nat} {Q : Int → Prop} (R3 : RepSl eI64 I p1 c2 a0.At) (R6 : RepSl eI64 I p4 c5 a0.Start) (R9 : RepSl eI64 I p7 c8 a0.Row) (R12 : RepSl eI64 I p10 c11 a0.Val) (R15 : RepSl eI64 I p13 c14 a1) (hd : dcsc_Work a0 a1 Q) :
    PFun Tryz.prog 46 [.agg #[.int .i64 a0.Rows, .int .i64 a0.Cols, .slice p1 a0.At.length c2, .slice p4 a0.Start.length c5, .slice p7 a0.Row.length c8, .slice p10 a0.Val.length c11], .slice p13 a1.length c14] I (fun I_ v => ∃ r, v = .int .i64 r ∧ Q r) := by
 refine Fun.enter func46 r ntmps46 r (.c (.c .n)) fun w0 M => ?_
 refine .seq (.region (.boxA r r r fun b18 => ?_))
 refine .skips 1 r (.nilS [2, 1] r r (.seq (.region (.loadW isAgg32 sizeOf32 r .z r r r ?_))))
 have hw58 := W_dcsc_sure (I := I) R3 R6 R9 R12 hd
 refine .call call76 r hw58 r r fun v44 I41 hl42 hv43 => ?_
 obtain ⟨r40, p46, c47, p49, c50, p52, c53, p55, c56, rfl, R48, R51, R54, R57, hd⟩ := hv43
 have le59 := IH.le.trans (.refl _) hl42
 replace R3 := R3.mono hl42
 replace R6 := R6.mono hl42
 replace R9 := R9.mono hl42
 replace R12 := R12.mono hl42
 replace R15 := R15.mono hl42
 refine .storeA sizeOf32 r r .z (.t (.t (.t (.t (.t (.t .nil)))))) r r (.nilS [2, 1] r r (.seq (.region (.skips 1 r (.nilS [5, 2, 1] r r (.seq (.seq (.region (.skips 1 r ?_)))))))))
 refine .len underlying29 r r r r (.skips 1 r (.nilS [13, 12, 11, 5, 2] r r (.block (.loop hd (fun (s : Int × Int) c w => match s with | (s160, s161) => ∃ I_, IH.le I41 I_ ∧ Ok ⟨38, [], none⟩ [(2, .pointer (some ⟨b18, 0, none⟩)), (5, .int .i64 s160), (11, .slice p13 a1.length c14), (12, .int .i64 (a1.length : Int)), (13, .int .i64 s161)] c ∧ Sym w0 M I I_ [pto b18 (.cells #[.int .i64 r40.Rows, .int .i64 r40.Cols, .slice p46 r40.At.length c47, .slice p49 r40.Start.length c50, .slice p52 r40.Row.length c53, .slice p55 r40.Val.length c56] 32 (0, 0))] w) (fun c w ho hs => ⟨I41, (.refl _), ho.sub ⟨r, r, r, r, r, trivial⟩, hs.pick (.c .z .n)⟩) ?_))))
 rintro ⟨s160, s161⟩ next162 hd c w hst
 obtain ⟨I163, hl164, hok, hsym⟩ := hst
 have le165 := IH.le.trans le59 hl164
 have le166 := IH.le.trans (.refl _) hl164
 replace R15 := R15.mono hl164
 replace R48 := R48.mono hl164
 replace R51 := R51.mono hl164
 replace R54 := R54.mono hl164
 replace R57 := R57.mono hl164
 refine Cod.at hok hsym (.seq (.region (.lt r r r r (.nilS [14, 13, 12, 11, 5, 2] r r (.seq (.condP r hd (fun hb168 hd => ?_) fun hb168 hd => ?_))))))
 · refine .skipS [13, 12, 11, 5, 2] r r (.seq (.block (.seq (.region ?_))))
   obtain ⟨h178, x179, hx180, hd⟩ := hd
   obtain ⟨b181, o182, cs183, e184, hC185, hr186⟩ := R15.2 _ _ hx180
   cases hr186
   refine .ixa underlying29 sizeOf3 r e184 r h178 (idx_lt hx180 h178) r r (.ld1 (j := 0) isAgg3 hC185 r r r r r (.skips 1 r (.nilS [7, 13, 12, 11, 5, 2] r r (.seq (.region (.loadW isAgg32 sizeOf32 r .z r r r (.skips 1 r ?_)))))))
   have hw192 := W_dcsc_place (I := I163) R48 R51 R54 R57 hd
   refine .callP call77 r hw192 r r fun v193 hv194 => ?_
   obtain ⟨r191, rfl, hd⟩ := hv194
   refine .skips 1 r (.nilS [8, 13, 12, 11, 5, 2] r r (.seq (.region (.skips 1 r (.ge r r r r (.nilS [21, 8, 13, 12, 11, 5, 2] r r (.condP r hd (fun hb195 hd => ?_) fun hb195 hd => ?_)))))))
   · refine .draw [some 0, some 1, some 2, some 3, some 4, some 5, some 6, some 7, some 8, some 9, some 10, some 11, some 12, some 13] 14 MX (by kernel_rfl) (by kernel_rfl) (by kernel_rfl) (by kernel_rfl) (by kernel_rfl) (by kernel_rfl) (by kernel_rfl) (fun ex => (pto b18 (.cells #[.int .i64 r40.Rows, .int .i64 r40.Cols, .slice p46 r40.At.length c47, .slice p49 r40.Start.length c50, .slice p52 r40.Row.length c53, .slice p55 r40.Val.length c56] 32 (0, 0))) :: ex) (fun _ _ => (.s .z)) r (.fs [[]] r (by kernel_rfl) (.f [] r (by kernel_rfl) r r (fun ex => .fieldAddr underlying32 r sizeOf29 r (o := 3) r r r .mk) (.f [1] r (by kernel_rfl) r r (fun ex => .load1 isAgg29 r .z r r r .mk) (.fs [[]] r (by kernel_rfl) (.f [3] r (by kernel_rfl) r r (fun ex => .add r r r r .mk) ?_)))))
     obtain ⟨h196, x197, hx198, hd⟩ := hd
     obtain ⟨b199, o200, cs201, e202, hC203, hr204⟩ := R51.2 _ _ hx198
     cases hr204
     refine .f [2, 4] r (by kernel_rfl) r r (fun ex => .ixa underlying29 sizeOf3 r e202 r h196 (idx_lt hx198 h196) r r .mk) (.f [5] r (by kernel_rfl) r r (fun ex => .ld1 (j := 0) isAgg3 hC203 r r r r r .mk) (.f [] r (by kernel_rfl) r r (fun ex => .fieldAddr underlying32 r sizeOf29 r (o := 3) r r r .mk) (.f [7] r (by kernel_rfl) r r (fun ex => .load1 isAgg29 r .z r r r .mk) (.fs [[]] r (by kernel_rfl) ?_))))
     obtain ⟨h205, x206, hx207, hd⟩ := hd
     obtain ⟨b208, o209, cs210, e211, hC212, hr213⟩ := R51.2 _ _ hx207
     cases hr213
     refine .f [8, 9] r (by kernel_rfl) r r (fun ex => .ixa underlying29 sizeOf3 r e211 r h205 (idx_lt hx207 h205) r r .mk) (.f [10] r (by kernel_rfl) r r (fun ex => .ld1 (j := 0) isAgg3 hC212 r r r r r .mk) (.f [6, 11] r (by kernel_rfl) r r (fun ex => .sub' r r r r .mk) (.f [0, 12] r (by kernel_rfl) r r (fun ex => .add r r r r .mk) (.e 14 (by kernel_rfl) (by kernel_rfl) (by kernel_rfl) (.sub (E' := [(2, _), (11, _), (12, _), (13, _), (8, _), (21, _), (22, _), (23, _), (24, _), (25, _), (26, _), (27, _), (28, _), (29, _), (30, _), (31, _), (32, _), (33, _), (34, _), (35, _)]) ⟨r, r, r, r, r, r, r, r, r, r, r, r, r, r, r, r, r, r, r, r, trivial⟩ (.skips 1 r (.nilS [5, 13, 12, 11, 2] r r (.region (.add r r r r ?_)))))))))
     exact .sub (E' := [(2, _), (11, _), (12, _), (5, _), (36, _)]) ⟨r, r, r, r, r, trivial⟩ (.skips 1 r (.nil' fun c w ho hs => ⟨(w64 (s160 + (w64 (x197 - x206))), w64 (s161 + 1)), hd, I163, le166, ho.sub ⟨r, r, r, r, r, trivial⟩, hs.pick (.c .z .n)⟩))
   exact .skipS [13, 12, 11, 5, 2] r r (.region (.add r r r r (.sub (E' := [(2, _), (5, _), (11, _), (12, _), (36, _)]) ⟨r, r, r, r, r, trivial⟩ (.skips 1 r (.nil' fun c w ho hs => ⟨(s160, w64 (s161 + 1)), hd, I163, le166, ho.sub ⟨r, r, r, r, r, trivial⟩, hs.pick (.c .z .n)⟩)))))
 exact .exitS [5] r r (.drop .z (.seq (.region (.skips 2 r (.nilS [4] r r (.ret (pret results46 (.t r .n) le165 ⟨s160, r, hd⟩)))))))

theorem W_spvec_sure {I : IH} {a0 : Vec} {p1 : Option Addr} {c2 : Nat} {Q : Vec → Prop} (R3 : RepSl eItem I p1 c2 a0.Items) (hd : spvec_sure a0 Q) :
    PFun Tryz.prog 95 [.agg #[.int .i64 a0.N, .slice p1 a0.Items.length c2]] I (fun I_ v => ∃ r p4 c5, v = .agg #[.int .i64 r.N, .slice p4 r.Items.length c5] ∧ RepSl eItem I_ p4 c5 r.Items ∧ Q r) := by
 refine Fun.enter func95 r ntmps95 r (.c .n) fun w0 M => ?_
 refine .seq (.region (.boxA r r r fun b11 => ?_))
 refine .allocA zeroValue38 r r fun b13 => ?_
 refine .nilS [2, 1] r r (.seq (.seq (.region (.loadW isAgg38 sizeOf38 r (.s .z) r r r ?_))))
 have hw16 := W_spvec_Right (I := I) R3 hd
 refine .callP call67 r hw16 r r fun v17 hv18 => ?_
 obtain ⟨r15, rfl, hd⟩ := hv18
 refine .nilS [4, 2, 1] r r (.condP r hd (fun hb19 hd => ?_) fun hb19 hd => ?_)
 · exact .seq (.region (.loadW isAgg38 sizeOf38 r (.s .z) r r r (.storeA sizeOf38 r r .z (.t (.t .nil)) r r (.nilS [2] r r (.drop (.s .z) (.ret (pret results95 (.w isAgg38 sizeOf38 r .z r .n) (.refl _) ⟨a0, _, _, r, R3, hd⟩)))))))
 exact .skipS [2] r r (.drop (.s .z) (.seq (.region (.build zeroValue38 underlying38 BI38 .n (by exact trivial) r r (.storeA sizeOf38 r r .z (.t (.t .nil)) r r (.nilS [2] r r (.ret (pret results95 (.w isAgg38 sizeOf38 r .z r .n) (.refl _) ⟨({ N := 0, Items := ([] : List Item) } : Vec), _, _, r, (.nil _ _ _), hd⟩))))))))

theorem W_spvec_Places {I : IH} {a0 : Vec} {p1 : Option Addr} {c2 : Nat} {Q : (List Int) → Prop} (R3 : RepSl eItem I p1 c2 a0.Items) (hd : spvec_Places a0 Q) :
    PFun Tryz.prog 47 [.agg #[.int .i64 a0.N, .slice p1 a0.Items.length c2]] I (fun I_ v => ∃ r p4 c5, v = .slice p4 r.length c5 ∧ RepSl eI64 I_ p4 c5 r ∧ Q r) := by
 refine Fun.enter func47 r ntmps47 r (.c .n) fun w0 M => ?_
 refine .seq (.region (.boxA r r r fun b9 => ?_))
 refine .skips 1 r (.nilS [1] r r (.seq (.region (.skips 1 r (.nilS [3, 1] r r (.seq (.seq (.region (.loadW isAgg38 sizeOf38 r .z r r r ?_)))))))))
 have hw31 := W_spvec_sure (I := I) R3 hd
 refine .call call95 r hw31 r r fun v26 I23 hl24 hv25 => ?_
 obtain ⟨r22, p28, c29, rfl, R30, hd⟩ := hv25
 have le32 := IH.le.trans (.refl _) hl24
 replace R3 := R3.mono hl24
 refine .field1 underlying38 r isAgg25 r r r r (.len underlying25 r r r r (.skips 1 r (.nilS [10, 9, 8, 3] r r (.drop .z (.block (.own0 eI64 3 (.loop hd (fun (s : (List Int) × Int) c w => match s with | (s87, s91) => ∃ I_ p88 c89, IH.le I23 I_ ∧ Ok ⟨21, [], none⟩ [(3, .slice p88 s87.length c89), (8, .slice p28 r22.Items.length c29), (9, .int .i64 (r22.Items.length : Int)), (10, .int .i64 s91)] c ∧ Sym w0 M I I_ [OwnSl eI64 3 p88 c89 s87] w) (fun c w ho hs => ⟨I23, _, _, (.refl _), ho.sub ⟨r, r, r, r, trivial⟩, hs.pick (.c .z .n)⟩) ?_)))))))
 rintro ⟨s87, s91⟩ next93 hd c w hst
 obtain ⟨I94, p88, c89, hl95, hok, hsym⟩ := hst
 have le96 := IH.le.trans le32 hl95
 have le97 := IH.le.trans (.refl _) hl95
 replace R30 := R30.mono hl95
 refine Cod.at hok hsym (.seq (.region (.lt r r r r (.nilS [11, 10, 9, 8, 3] r r (.seq (.condP r hd (fun hb99 hd => ?_) fun hb99 hd => ?_))))))
 · refine .skipS [10, 9, 8, 3] r r (.seq (.block (.seq (.region ?_))))
   obtain ⟨h100, x101, hx102, hd⟩ := hd
   obtain ⟨b103, o104, cs105, e106, hC107, hr108⟩ := R30.2 _ _ hx102
   cases hr108
   refine .ixa underlying25 sizeOf67 r e106 r h100 (idx_lt hx102 h100) r r (.ldW isAgg67 sizeOf67 hC107 r r r r (.allocA zeroValue67 r r fun b109 => ?_))
   refine .storeA sizeOf67 r r .z (.t (.t .nil)) r r (.nilS [5, 10, 9, 8, 3] r r (.region (.skips 1 r (.fieldAddr underlying67 r sizeOf3 r (o := 0) r r r (.load1 isAgg3 r .z r r r (.buildSlice 1 underlying29 sizeOf3 zeroValue3 r r (.c r r r .n) r r fun b111 => ?_))))))
   obtain ⟨hl113, hd⟩ := hd
   refine .append (ys := [x101.At]) 8 (.s (.s .z)) underlying29 underlying29 IN3 r r r r r r r r r (.box .z (.one r) r) hl113 r r fun p114 c115 => ?_
   exact .sub (E' := [(8, _), (9, _), (10, _), (5, _), (14, _), (15, _), (16, _), (17, _), (18, _)]) ⟨r, r, r, r, r, r, r, r, r, trivial⟩ (.skips 1 r (.nilS [3, 10, 9, 8] r r (.drop (.s .z) (.drop (.s .z) (.region (.add r r r r (.sub (E' := [(8, _), (9, _), (3, _), (19, _)]) ⟨r, r, r, r, trivial⟩ (.skips 1 r (.nil' fun c w ho hs => ⟨((s87 ++ ([x101.At])), w64 (s91 + 1)), hd, I94, _, _, le97, ho.sub ⟨r, r, r, r, trivial⟩, hs.pick (.c .z .n)⟩)))))))))
 refine .exitS [3] r r (.seq (.region (.skips 2 r (.nilS [2] r r (.pub .z fun I117 hl118 R119 => ?_)))))
 have le120 := IH.le.trans le96 hl118
 have le121 := IH.le.trans le97 hl118
 exact .ret (pret results47 (.t r .n) le120 ⟨s87, _, _, r, R119, hd⟩)

theorem W_push_Work {I : IH} {a0 : Columns} {a1 : Vec} {p1 : Option Addr} {c2 : Nat} {p4 : Option Addr} {c5 : Nat} {p7 : Option Addr} {c8 : Nat} {p10 : Option Addr} {c11 : Nat} {p13 : Option Addr} {c14 : Nat} {Q : Int → Prop} (R3 : RepSl eI64 I p1 c2 a0.At) (R6 : RepSl eI64 I p4 c5 a0.Start) (R9 : RepSl eI64 I p7 c8 a0.Row) (R12 : RepSl eI64 I p10 c11 a0.Val) (R15 : RepSl eItem I p13 c14 a1.Items) (hd : push_Work a0 a1 Q) :
    PFun Tryz.prog 18 [.agg #[.int .i64 a0.Rows, .int .i64 a0.Cols, .slice p1 a0.At.length c2, .slice p4 a0.Start.length c5, .slice p7 a0.Row.length c8, .slice p10 a0.Val.length c11], .agg #[.int .i64 a1.N, .slice p13 a1.Items.length c14]] I (fun I_ v => ∃ r, v = .int .i64 r ∧ Q r) := by
 refine Fun.enter func18 r ntmps18 r (.c (.c .n)) fun w0 M => ?_
 refine .seq (.region (.boxA r r r fun b16 => ?_))
 refine .boxA r r r fun b18 => ?_
 refine .skips 1 r (.nilS [3, 2] r r (.seq (.draw [some 0, some 1, some 2, some 3] 4 MX (by kernel_rfl) (by kernel_rfl) (by kernel_rfl) (by kernel_rfl) (by kernel_rfl) (by kernel_rfl) (by kernel_rfl) (fun ex => (pto b18 (.cells #[.int .i64 a1.N, .slice p13 a1.Items.length c14] 38 (0, 0))) :: (pto b16 (.cells #[.int .i64 a0.Rows, .int .i64 a0.Cols, .slice p1 a0.At.length c2, .slice p4 a0.Start.length c5, .slice p7 a0.Row.length c8, .slice p10 a0.Val.length c11] 32 (0, 0))) :: ex) (fun _ _ => (.s (.s .z))) r (.f [] r (by kernel_rfl) r r (fun ex => .loadW isAgg32 sizeOf32 r (.s .z) r r r .mk) (.f [] r (by kernel_rfl) r r (fun ex => .loadW isAgg38 sizeOf38 r .z r r r .mk) (.w [0] [[]] [1] r (by kernel_rfl) (by kernel_rfl) (by kernel_rfl) ((dropE_kept r r)) (.inr (dropE_kept r r)) fun ex => ?_))))))
 have hw29 := W_spvec_Places (I := I) R15 hd
 refine .call call47 r hw29 r r fun v24 I21 hl22 hv23 => ?_
 obtain ⟨r20, p26, c27, rfl, R28, hd⟩ := hv23
 have le30 := IH.le.trans (.refl _) hl22
 replace R3 := R3.mono hl22
 replace R6 := R6.mono hl22
 replace R9 := R9.mono hl22
 replace R12 := R12.mono hl22
 replace R15 := R15.mono hl22
 refine .some (fun ex => (pto b18 (.cells #[.int .i64 a1.N, .slice p13 a1.Items.length c14] 38 (0, 0))) :: (pto b16 (.cells #[.int .i64 a0.Rows, .int .i64 a0.Cols, .slice p1 a0.At.length c2, .slice p4 a0.Start.length c5, .slice p7 a0.Row.length c8, .slice p10 a0.Val.length c11] 32 (0, 0))) :: ex) r (fun _ _ => (.s (.s .z))) r (.cc [] r (by kernel_rfl) r r r (fun ex => .loadW isAgg32 sizeOf32 r (.s .z) r r r .mk) trivial) (.w [] [[]] [0, 2, 2] r (by kernel_rfl) (by kernel_rfl) (by kernel_rfl) ((dropE_kept r r)) (.inr (dropE_kept r r)) fun ex => ?_)
 have hw32 := W_dcsc_Work (I := I21) R3 R6 R9 R12 R28 hd
 refine .callP call46 r hw32 r r fun v33 hv34 => ?_
 obtain ⟨r31, rfl, hd⟩ := hv34
 exact .some (fun ex => (pto b18 (.cells #[.int .i64 a1.N, .slice p13 a1.Items.length c14] 38 (0, 0))) :: (pto b16 (.cells #[.int .i64 a0.Rows, .int .i64 a0.Cols, .slice p1 a0.At.length c2, .slice p4 a0.Start.length c5, .slice p7 a0.Row.length c8, .slice p10 a0.Val.length c11] 32 (0, 0))) :: ex) r (fun _ _ => (.s (.s .z))) r trivial (.e 4 (by kernel_rfl) (by kernel_rfl) (by kernel_rfl) (.skips 1 r (.nilS [4] r r (.drop .z (.drop .z (.ret (pret results18 (.t r .n) le30 ⟨r31, r, hd⟩)))))))

theorem W_cmp_isNaN_int {I : IH} {a0 : Int}  {Q : Bool → Prop}  (hd : cmp_isNaN_int a0 Q) :
    PFun Tryz.prog 170 [.int .i64 a0] I (fun I_ v => ∃ r, v = .bool r ∧ Q r) := by
 refine Fun.enter func170 r ntmps170 r (.c .n) fun w0 M => ?_
 refine .seq (.region (.skips 1 r (.nilS [0] r r (.seq (.region (.skips 2 r (.ne r r r r (.skips 1 r (.nilS [2] r r ?_)))))))))
 exact .ret (pret results170 (.t r .n) (.refl _) ⟨(a0 != a0), r, hd⟩)

theorem W_cmp_Compare_int {I : IH} {a0 : Int} {a1 : Int}  {Q : Int → Prop}  (hd : cmp_Compare_int a0 a1 Q) :
    PFun Tryz.prog 152 [.int .i64 a0, .int .i64 a1] I (fun I_ v => ∃ r, v = .int .i64 r ∧ Q r) := by
 refine Fun.enter func152 r ntmps152 r (.c (.c .n)) fun w0 M => ?_
 refine .seq (.region (.skips 1 r (.nilS [1, 0] r r (.seq (.region (.skips 1 r ?_))))))
 have hw6 := W_cmp_isNaN_int (I := I) hd
 refine .callP call170 r hw6 r r fun v7 hv8 => ?_
 obtain ⟨r5, rfl, hd⟩ := hv8
 refine .skips 1 r (.nilS [5, 1, 0] r r (.seq (.region (.skips 1 r ?_))))
 have hw14 := W_cmp_isNaN_int (I := I) hd
 refine .callP call170 r hw14 r r fun v15 hv16 => ?_
 obtain ⟨r13, rfl, hd⟩ := hv16
 refine .skips 1 r (.nilS [6, 5, 1, 0] r r (.seq (.seq (.region (.skips 1 r (.nilS [11, 6, 1, 0] r r (.condP r hd (fun hb19 hd => ?_) fun hb19 hd => ?_)))))))
 · refine .seq (.seq (.region (.skips 1 r (.nilS [12] r r (.condP r hd (fun hb20 hd => ?_) fun hb20 hd => ?_)))))
   · exact .seq (.region (.skips 1 r (.nilS [4] r r (.ret (pret results152 (.t r .n) (.refl _) ⟨0, r, hd⟩)))))
   exact .skipS [] r r (.seq (.region (.skips 1 r (.nilS [4] r r (.ret (pret results152 (.t r .n) (.refl _) ⟨(-1), r, hd⟩))))))
 refine .skipS [6, 1, 0] r r (.seq (.seq (.region (.skips 1 r (.nilS [13, 1, 0] r r (.condP r hd (fun hb22 hd => ?_) fun hb22 hd => ?_))))))
 · exact .seq (.region (.skips 1 r (.nilS [4] r r (.ret (pret results152 (.t r .n) (.refl _) ⟨1, r, hd⟩)))))
 refine .skipS [1, 0] r r (.seq (.seq (.region (.skips 2 r (.lt r r r r (.nilS [16, 1, 0] r r (.condP r hd (fun hb24 hd => ?_) fun hb24 hd => ?_)))))))
 · exact .seq (.region (.skips 1 r (.nilS [4] r r (.ret (pret results152 (.t r .n) (.refl _) ⟨(-1), r, hd⟩)))))
 refine .skipS [1, 0] r r (.seq (.seq (.region (.skips 2 r (.gt r r r r (.nilS [19] r r (.condP r hd (fun hb25 hd => ?_) fun hb25 hd => ?_)))))))
 · exact .seq (.region (.skips 1 r (.nilS [4] r r (.ret (pret results152 (.t r .n) (.refl _) ⟨1, r, hd⟩)))))
 exact .skipS [] r r (.seq (.region (.skips 1 r (.nilS [4] r r (.ret (pret results152 (.t r .n) (.refl _) ⟨0, r, hd⟩))))))

theorem W_push_heads_Less_706 {I : IH} {o0 : List Push_head} {a0 : Int} {a1 : Int} {p2 : Option Addr} {c3 : Nat} {Q : Bool → Prop}  (hd : push_heads_Less_706 o0 a0 a1 Q) :
    Fun Tryz.prog 211 #[.slice p2 o0.length c3, .int .i64 a0, .int .i64 a1] I [OwnSl ePush_head 146 p2 c3 o0] (fun I_ v l => ∃ r, v = .bool r ∧ l = [OwnSl ePush_head 146 p2 c3 o0] ∧ Q r) := by
 refine Fun.enter (vs := [.slice p2 o0.length c3, .int .i64 a0, .int .i64 a1]) func211 r ntmps211 r (.c (.c (.c .n))) fun w0 M => ?_
 refine .seq (.region (.skips 1 r (.nilS [2, 1, 0] r r (.seq (.ownF .z fun hne4 => ?_)))))
 refine .openS .z fun css5 hrep6 => ?_
 refine .draw [some 0, some 1, some 2, some 3, some 4, some 5, some 6, some 7, some 8, some 9, some 10, some 11, some 12, some 13, some 14, some 15, some 17, some 18, some 19, some 20, some 21, some 22, some 23, some 24, some 25, some 26, some 16, some 27, some 28, some 29, some 30] 31 MX (by kernel_rfl) (by kernel_rfl) (by kernel_rfl) (by kernel_rfl) (by kernel_rfl) (by kernel_rfl) (by kernel_rfl) (fun ex => (OwnSl (rawEl (ePush_head).sz) 146 p2 c3 css5) :: ex) (fun _ _ => (.s .z)) r (.fs [[], []] r (by kernel_rfl) ?_)
 obtain ⟨h7, x8, hx9, hd⟩ := hd
 obtain ⟨b10, e11⟩ := hne4 (idx_ne hx9)
 cases e11
 obtain ⟨cs12, hc13, hcs14, hr15⟩ := hrep6.get hx9
 obtain ⟨p16, c17, rfl, R18⟩ := hr15
 refine .f [0, 1] r (by kernel_rfl) r r (fun ex => .ixa0 underlying99 sizeOf146 r r h7 (idx_lt hx9 h7) r r .mk) (.f [2] r (by kernel_rfl) r r (fun ex => .fieldAddr underlying146 r sizeOf41 r (o := a0.toNat * 2) r r r .mk) (.f [3] r (by kernel_rfl) r r (fun ex => .lo1 (j := 0) isAgg41 .z hcs14 r r r r r .mk) ?_))
 obtain ⟨h19, x20, hx21, hd⟩ := hd
 obtain ⟨b22, o23, cs24, e25, hC26, hr27⟩ := R18.2 _ _ hx21
 cases hr27
 refine .f [4] r (by kernel_rfl) r r (fun ex => .ixa underlying41 sizeOf89 r e25 r h19 (idx_lt hx21 h19) r r .mk) (.f [5] r (by kernel_rfl) r r (fun ex => .fieldAddr underlying89 r sizeOf3 r (o := o23 + (Int.toNat 0) * 3) r r r .mk) (.f [6] r (by kernel_rfl) r r (fun ex => .ld1 (j := 0) isAgg3 hC26 r r r r r .mk) (.fs [[], []] r (by kernel_rfl) ?_)))
 obtain ⟨h28, x29, hx30, hd⟩ := hd
 obtain ⟨cs31, hc32, hcs33, hr34⟩ := hrep6.get hx30
 obtain ⟨p35, c36, rfl, R37⟩ := hr34
 refine .f [8, 9] r (by kernel_rfl) r r (fun ex => .ixa0 underlying99 sizeOf146 r r h28 (idx_lt hx30 h28) r r .mk) (.f [10] r (by kernel_rfl) r r (fun ex => .fieldAddr underlying146 r sizeOf41 r (o := a1.toNat * 2) r r r .mk) (.f [11] r (by kernel_rfl) r r (fun ex => .lo1 (j := 0) isAgg41 .z hcs33 r r r r r .mk) ?_))
 obtain ⟨h38, x39, hx40, hd⟩ := hd
 obtain ⟨b41, o42, cs43, e44, hC45, hr46⟩ := R37.2 _ _ hx40
 cases hr46
 refine .f [12] r (by kernel_rfl) r r (fun ex => .ixa underlying41 sizeOf89 r e44 r h38 (idx_lt hx40 h38) r r .mk) (.f [13] r (by kernel_rfl) r r (fun ex => .fieldAddr underlying89 r sizeOf3 r (o := o42 + (Int.toNat 0) * 3) r r r .mk) (.f [14] r (by kernel_rfl) r r (fun ex => .ld1 (j := 0) isAgg3 hC45 r r r r r .mk) (.fs [[], []] r (by kernel_rfl) ?_)))
 obtain ⟨h47, x48, hx49, hd⟩ := hd
 obtain ⟨cs50, hc51, hcs52, hr53⟩ := hrep6.get hx49
 obtain ⟨p54, c55, rfl, R56⟩ := hr53
 refine .f [17, 18] r (by kernel_rfl) r r (fun ex => .ixa0 underlying99 sizeOf146 r r h47 (idx_lt hx49 h47) r r .mk) (.f [19] r (by kernel_rfl) r r (fun ex => .fieldAddr underlying146 r sizeOf3 r (o := a0.toNat * 2 + 1) r r r .mk) (.f [20] r (by kernel_rfl) r r (fun ex => .lo1 (j := 1) isAgg3 .z hcs52 r r r r r .mk) (.fs [[], []] r (by kernel_rfl) ?_)))
 obtain ⟨h57, x58, hx59, hd⟩ := hd
 obtain ⟨cs60, hc61, hcs62, hr63⟩ := hrep6.get hx59
 obtain ⟨p64, c65, rfl, R66⟩ := hr63
 refine .f [22, 23] r (by kernel_rfl) r r (fun ex => .ixa0 underlying99 sizeOf146 r r h57 (idx_lt hx59 h57) r r .mk) (.f [24] r (by kernel_rfl) r r (fun ex => .fieldAddr underlying146 r sizeOf3 r (o := a1.toNat * 2 + 1) r r r .mk) (.f [25] r (by kernel_rfl) r r (fun ex => .lo1 (j := 1) isAgg3 .z hcs62 r r r r r .mk) (.w [26, 25, 24, 23, 22, 21, 20, 19, 18, 17] [[], [15], [14, 15], [13, 14, 15], [12, 13, 14, 15], [11, 12, 13, 14, 15], [10, 11, 12, 13, 14, 15], [10, 11, 12, 13, 14, 15], [], [7], [6, 7], [5, 6, 7], [4, 5, 6, 7], [3, 4, 5, 6, 7], [2, 3, 4, 5, 6, 7], [2, 3, 4, 5, 6, 7]] [7, 15] r (by kernel_rfl) (by kernel_rfl) (by kernel_rfl) ((dropE_kept r r)) (.inr (dropE_kept r r)) fun ex => ?_)))
 have hw68 := W_cmp_Compare_int (I := I) hd
 refine .callP call152 r hw68 r r fun v69 hv70 => ?_
 obtain ⟨r67, rfl, hd⟩ := hv70
 refine .some (fun ex => (OwnSl (rawEl (ePush_head).sz) 146 (some ⟨b10, 0, none⟩) c3 css5) :: ex) r (fun _ _ => (.s .z)) r (.cc [25] r (by kernel_rfl) r r r (fun ex => .lo1 (j := 1) isAgg3 .z hcs62 r r r r r .mk) (.cc [24] r (by kernel_rfl) r r r (fun ex => .fieldAddr underlying146 r sizeOf3 r (o := a1.toNat * 2 + 1) r r r .mk) (.cc [22, 23] r (by kernel_rfl) r r r (fun ex => .ixa0 underlying99 sizeOf146 r r h57 (idx_lt hx59 h57) r r .mk) (.ccs [[], []] r r (by kernel_rfl) (.cc [20] r (by kernel_rfl) r r r (fun ex => .lo1 (j := 1) isAgg3 .z hcs52 r r r r r .mk) (.cc [19] r (by kernel_rfl) r r r (fun ex => .fieldAddr underlying146 r sizeOf3 r (o := a0.toNat * 2 + 1) r r r .mk) (.cc [17, 18] r (by kernel_rfl) r r r (fun ex => .ixa0 underlying99 sizeOf146 r r h47 (idx_lt hx49 h47) r r .mk) (.ccs [[], []] r r (by kernel_rfl) trivial)))))))) (.w [] [[], [26], [25, 26], [24, 25, 26], [24, 25, 26], [], [21], [20, 21], [19, 20, 21], [19, 20, 21]] [21, 26, 16] r (by kernel_rfl) (by kernel_rfl) (by kernel_rfl) ((dropE_kept r r)) (.inr (dropE_kept r r)) fun ex => ?_)
 have hw72 := W_cmp_Compare_int (I := I) hd
 refine .callP call152 r hw72 r r fun v73 hv74 => ?_
 obtain ⟨r71, rfl, hd⟩ := hv74
 refine .some (fun ex => (OwnSl (rawEl (ePush_head).sz) 146 (some ⟨b10, 0, none⟩) c3 css5) :: ex) r (fun _ _ => (.s .z)) r trivial (.w [] [] [16, 27] r (by kernel_rfl) (by kernel_rfl) (by kernel_rfl) ((dropE_kept r r)) (.inr (dropE_kept r r)) fun ex => ?_)
 refine .buildSlice 2 underlying29 sizeOf3 zeroValue3 r r (.c r r r (.c r r r .n)) r r fun b75 => ?_
 refine .some (fun ex => (pto b75 (.cells #[.int .i64 r67, .int .i64 r71] 3 (0, 0))) :: (OwnSl (rawEl (ePush_head).sz) 146 (some ⟨b10, 0, none⟩) c3 css5) :: ex) r (fun _ _ => (.s (.s .z))) r trivial (.w [] [] [28, 27] r (by kernel_rfl) (by kernel_rfl) (by kernel_rfl) ((dropE_kept r r)) (.inr (dropE_kept r r)) fun ex => ?_)
 refine .pubB (El := eI64) (ys := ([r67, r71] : List Int)) (k := 2) .z (RepCs.cons (cs := [.int .i64 r67]) r (RepCs.cons (cs := [.int .i64 r71]) r .nil)) r fun I77 hl78 R79 => ?_
 have le80 := IH.le.trans (.refl _) hl78
 replace hrep6 := hrep6.mono hl78
 replace R18 := R18.mono hl78
 replace hC26 := hC26.mono hl78
 replace R37 := R37.mono hl78
 replace hC45 := hC45.mono hl78
 have hw82 := W_cmp_Or_int (I := I77) R79 hd
 refine .callP call151 r hw82 r r fun v83 hv84 => ?_
 obtain ⟨r81, rfl, hd⟩ := hv84
 exact .some (fun ex => (OwnSl (rawEl (ePush_head).sz) 146 (some ⟨b10, 0, none⟩) c3 css5) :: ex) r (fun _ _ => (.s .z)) r trivial (.f [29] r (by kernel_rfl) r r (fun ex => .lt r r r r .mk) (.e 31 (by kernel_rfl) (by kernel_rfl) (by kernel_rfl) (.closeS .z hrep6 (.skips 1 r (.nilS [6, 0] r r (.ret (oret results211 (.t r .n) le80 (.c .z .n) ⟨(decide (r81 < 0)), r, r, hd⟩)))))))

theorem W_push_heads_Swap_c73 {I : IH} {o0 : List Push_head} {a0 : Int} {a1 : Int} {p2 : Option Addr} {c3 : Nat} {Q : (List Push_head) → Prop}  (hd : push_heads_Swap_c73 o0 a0 a1 Q) :
    Fun Tryz.prog 214 #[.slice p2 o0.length c3, .int .i64 a0, .int .i64 a1] I [OwnSl ePush_head 146 p2 c3 o0] (fun I_ v l => ∃ r, v = .tuple #[] ∧ r.length = o0.length ∧ l = [OwnSl ePush_head 146 p2 c3 r] ∧ Q r) := by
 refine Fun.enter (vs := [.slice p2 o0.length c3, .int .i64 a0, .int .i64 a1]) func214 r ntmps214 r (.c (.c (.c .n))) fun w0 M => ?_
 refine .ownF .z fun hne4 => ?_
 refine .openS .z fun css5 hrep6 => ?_
 refine .draw [some 0, some 1, some 2, some 3, some 4, some 5, some 6, some 7, some 8, some 9, some 10, some 11, some 12, some 13] 14 MX (by kernel_rfl) (by kernel_rfl) (by kernel_rfl) (by kernel_rfl) (by kernel_rfl) (by kernel_rfl) (by kernel_rfl) (fun ex => (OwnSl (rawEl (ePush_head).sz) 146 p2 c3 css5) :: ex) (fun _ _ => (.s .z)) r (.fs [[], [], [], [], [], []] r (by kernel_rfl) ?_)
 obtain ⟨h7, x8, hx9, hd⟩ := hd
 obtain ⟨b10, e11⟩ := hne4 (idx_ne hx9)
 cases e11
 obtain ⟨cs12, hc13, hcs14, hr15⟩ := hrep6.get hx9
 obtain ⟨p16, c17, rfl, R18⟩ := hr15
 refine .f [4, 5] r (by kernel_rfl) r r (fun ex => .ixa0 underlying99 sizeOf146 r r h7 (idx_lt hx9 h7) r r .mk) (.f [6] r (by kernel_rfl) r r (fun ex => .loA (j := 0) isAgg146 sizeOf146 .z hcs14 r r (.t (.t .nil)) r r r .mk) (.fs [[], []] r (by kernel_rfl) ?_))
 obtain ⟨h19, x20, hx21, hd⟩ := hd
 obtain ⟨cs22, hc23, hcs24, hr25⟩ := hrep6.get hx21
 obtain ⟨p26, c27, rfl, R28⟩ := hr25
 refine .f [8, 9] r (by kernel_rfl) r r (fun ex => .ixa0 underlying99 sizeOf146 r r h19 (idx_lt hx21 h19) r r .mk) (.f [10] r (by kernel_rfl) r r (fun ex => .loA (j := 0) isAgg146 sizeOf146 .z hcs24 r r (.t (.t .nil)) r r r .mk) ?_)
 obtain ⟨h29, x30, hx31, hd⟩ := hd
 obtain ⟨cs32, hc33, hcs34, hr35⟩ := hrep6.get hx31
 obtain ⟨p36, c37, rfl, R38⟩ := hr35
 refine .f [0, 1, 0, 1, 4, 5, 6, 7, 11] r (by kernel_rfl) r r (fun ex => .ixa0 underlying99 sizeOf146 r r h29 (idx_lt hx31 h29) r r .mk) (.w [3, 2] [[], [], [11], [10, 11], [10, 11], [], [], [], [], [], []] [12, 7, 0, 1, 4, 5, 6, 7, 11] r (by kernel_rfl) (by kernel_rfl) (by kernel_rfl) ((dropE_none r)) (.inr (dropE_none r)) fun ex => ?_)
 have hrep39 := hrep6.set (x := x8) a0.toNat (cs := [.slice p16 x8.l.length c17, .int .i64 x8.which]) ⟨_, _, r, R18⟩ ⟨r, r⟩
 refine .stOA (j := 0) (v' := ⟨[.slice p16 x8.l.length c17, .int .i64 x8.which], r, r⟩) sizeOf146 .z hcs34 r r r (.t (.t .nil)) r r (.none (fun ex => (OwnSl (rawEl (ePush_head).sz) 146 (some ⟨b10, 0, none⟩) c3 (css5.set a0.toNat ⟨[.slice p16 x8.l.length c17, .int .i64 x8.which], r, r⟩)) :: ex) r (fun _ _ => (.s .z)) r (.ccs [[], []] r r (by kernel_rfl) trivial) (.e 14 (by kernel_rfl) (by kernel_rfl) (by kernel_rfl) (.sub (E' := [(0, .slice (some ⟨b10, 0, none⟩) (o0.set a0.toNat x8).length c3), (1, _), (2, _), (6, .slice (some ⟨b10, 0, none⟩) (o0.set a0.toNat x8).length c3), (7, _), (8, .slice (some ⟨b10, 0, none⟩) (o0.set a0.toNat x8).length c3), (9, _), (10, .slice (some ⟨b10, 0, none⟩) (o0.set a0.toNat x8).length c3), (11, _), (12, _), (13, _), (14, .slice (some ⟨b10, 0, none⟩) (o0.set a0.toNat x8).length c3), (15, _), (16, _), (17, _), (18, _)]) ⟨(by simp only [List.length_set]; rfl), r, r, (by simp only [List.length_set]; rfl), r, (by simp only [List.length_set]; rfl), r, (by simp only [List.length_set]; rfl), r, r, r, (by simp only [List.length_set]; rfl), r, r, r, r, trivial⟩ (.closeS .z hrep39 ?_))))
 obtain ⟨h40, x41, hx42, hd⟩ := hd
 refine .ixa0 underlying99 sizeOf146 r r h40 (idx_lt hx42 h40) r r (.openS .z fun css43 hrep44 => ?_)
 obtain ⟨cs45, hc46, hcs47, hr48⟩ := hrep44.get hx42
 obtain ⟨p49, c50, rfl, R51⟩ := hr48
 have hrep52 := hrep44.set (x := x20) a1.toNat (cs := [.slice p26 x20.l.length c27, .int .i64 x20.which]) ⟨_, _, r, R28⟩ ⟨r, r⟩
 exact .stOA (j := 0) (v' := ⟨[.slice p26 x20.l.length c27, .int .i64 x20.which], r, r⟩) sizeOf146 .z hcs47 r r r (.t (.t .nil)) r r (.closeS .z hrep52 (.sub (E' := [(0, .slice (some ⟨b10, 0, none⟩) ((o0.set a0.toNat x8).set a1.toNat x20).length c3), (1, _), (2, _), (6, .slice (some ⟨b10, 0, none⟩) ((o0.set a0.toNat x8).set a1.toNat x20).length c3), (7, _), (8, .slice (some ⟨b10, 0, none⟩) ((o0.set a0.toNat x8).set a1.toNat x20).length c3), (9, _), (10, .slice (some ⟨b10, 0, none⟩) ((o0.set a0.toNat x8).set a1.toNat x20).length c3), (11, _), (12, _), (13, _), (14, .slice (some ⟨b10, 0, none⟩) ((o0.set a0.toNat x8).set a1.toNat x20).length c3), (15, _), (16, _), (17, _), (18, _), (19, _)]) ⟨(by simp only [List.length_set]; rfl), r, r, (by simp only [List.length_set]; rfl), r, (by simp only [List.length_set]; rfl), r, (by simp only [List.length_set]; rfl), r, r, r, (by simp only [List.length_set]; rfl), r, r, r, r, r, trivial⟩ (.nil' (oretN results214 .n (.refl _) (.c .z .n) ⟨((o0.set a0.toNat x8).set a1.toNat x20), r, (by simp only [List.length_set]), r, hd⟩))))

theorem W_container_heap_up_248 {I : IH} {o0 : Push_merger} {a0 : Int} {b2 : Nat} {p3 : Option Addr} {c4 : Nat} {p6 : Option Addr} {c7 : Nat} {Q : Push_merger → Prop}  (hd : container_heap_up_248 o0 a0 Q) :
    Fun Tryz.prog 145 #[.iface 144 (.pointer (some ⟨b2, 0, none⟩)), .int .i64 a0] I [pto b2 (.cells #[.slice p3 o0.heads.length c4, .int .i64 o0.r, .slice p6 o0.out.length c7] 101 (0, 0)), OwnSl ePush_head 146 p3 c4 o0.heads, OwnSl eSum 89 p6 c7 o0.out] (fun I_ v l => ∃ r p12 c13 p15 c16, v = .tuple #[] ∧ l = [pto b2 (.cells #[.slice p12 r.heads.length c13, .int .i64 r.r, .slice p15 r.out.length c16] 101 (0, 0)), OwnSl ePush_head 146 p12 c13 r.heads, OwnSl eSum 89 p15 c16 r.out] ∧ Q r) := by
 refine Fun.enter (vs := [.iface 144 (.pointer (some ⟨b2, 0, none⟩)), .int .i64 a0]) func145 r ntmps145 r (.c (.c .n)) fun w0 M => ?_
 refine .block (.loop hd (fun (s : (List Push_head) × Int) c w => match s with | (s70, s74) => ∃ I_ p71 c72, IH.le I I_ ∧ Ok ⟨23, [], none⟩ [(0, .iface 144 (.pointer (some ⟨b2, 0, none⟩))), (1, .int .i64 s74)] c ∧ Sym w0 M I I_ [pto b2 (.cells #[.slice p71 s70.length c72, .int .i64 o0.r, .slice p6 o0.out.length c7] 101 (0, 0)), OwnSl ePush_head 146 p71 c72 s70, OwnSl eSum 89 p6 c7 o0.out] w) (fun c w ho hs => ⟨I, _, _, (.refl _), ho.sub ⟨r, r, trivial⟩, hs.pick (.c .z (.c .z (.c .z .n)))⟩) ?_)
 rintro ⟨s70, s74⟩ next75 hd c w hst
 obtain ⟨I76, p71, c72, hl77, hok, hsym⟩ := hst
 have le78 := IH.le.trans (.refl _) hl77
 refine Cod.at hok hsym (.block (.seq (.region (.skips 1 r (.sub' r r r r (.quo r r (by decide) r r (.skips 1 r (.nilS [4, 1, 0] r r (.seq ?_)))))))))
 refine .seq (.region (.skips 2 r (.eq r r r r (.skips 1 r ?_))))
 refine splitP hd (fun hb79 hd => ?_) fun hb79 hd => ?_
 · rw [hb79]
   exact .skips 6 r (.nilS [17, 4, 1, 0] r r (.condKT r r (.exit (oretN results145 .n le78 (.c .z (.c .z (.c .z .n))) ⟨({ heads := s70, r := o0.r, out := o0.out } : Push_merger), _, _, _, _, r, r, hd⟩))))
 rw [hb79]
 refine .gyes r r r (.move r r r (.gyes r r r (.move r r r (.gyes r r r (.move r r r ?_)))))
 have hw80 := W_push_heads_Less_706 (I := I76) (o0 := s70) (a0 := s74) (a1 := (w64 ((w64 (s74 - 1)).tdiv 2))) (p2 := p71) (c3 := c72) hd
 refine .gyes r r r (.callS (.iv call211 (methodV (method_val MD IN144 r r r underlying144) isAgg99 .z r) r r) (.c (.s .z) .n) hw80 r r fun v84 I81 l85 hl82 hv83 => ?_)
 obtain ⟨r86, rfl, rfl, hd⟩ := hv83
 have le87 := IH.le.trans le78 hl82
 refine .re (m' := [OwnSl ePush_head 146 p71 c72 s70, pto b2 (.cells #[.slice p71 s70.length c72, .int .i64 o0.r, .slice p6 o0.out.length c7] 101 (0, 0)), OwnSl eSum 89 p6 c7 o0.out]) r (.gyes r r r (.not r r r (.skips 1 r (.nilS [17, 4, 1, 0] r r (.condP r hd (fun hb88 hd => ?_) fun hb88 hd => ?_)))))
 · exact .exit (oretN results145 .n le87 (.c (.s .z) (.c .z (.c .z .n))) ⟨({ heads := s70, r := o0.r, out := o0.out } : Push_merger), _, _, _, _, r, r, hd⟩)
 refine .skipS [4, 1, 0] r r (.seq (.region (.skips 3 r ?_)))
 have hw89 := W_push_heads_Swap_c73 (I := I81) (o0 := s70) (a0 := (w64 ((w64 (s74 - 1)).tdiv 2))) (a1 := s74) (p2 := p71) (c3 := c72) hd
 refine .callS (.iv call214 (methodV (method_val MD IN144 r r r underlying144) isAgg99 (.s .z) r) r r) (.c .z .n) hw89 r r fun v93 I90 l94 hl91 hv92 => ?_
 obtain ⟨r95, rfl, hlen99, rfl, hd⟩ := hv92
 have le100 := IH.le.trans le87 hl91
 exact .reat (.s .z) (B := pto b2 (.cells #[.slice p71 r95.length c72, .int .i64 o0.r, .slice p6 o0.out.length c7] 101 (0, 0))) (by rw [hlen99]) (.nilS [4, 0] r r (.region (.skips 2 r (.nil' fun c w ho hs => ⟨(r95, w64 ((w64 (s74 - 1)).tdiv 2)), hd, I90, _, _, le100, ho.sub ⟨r, r, trivial⟩, hs.pick (.c (.s .z) (.c .z (.c .z .n)))⟩))))

theorem W_container_heap_Push_f07 {I : IH} {o0 : Push_merger} {a0 : Push_head} {b2 : Nat} {p3 : Option Addr} {c4 : Nat} {p6 : Option Addr} {c7 : Nat} {p11 : Option Addr} {c12 : Nat} {Q : Push_merger → Prop} (R13 : RepSl eSum I p11 c12 a0.l) (hd : container_heap_Push_f07 o0 a0 Q) :
    Fun Tryz.prog 100 #[.iface 144 (.pointer (some ⟨b2, 0, none⟩)), .iface 146 (.agg #[.slice p11 a0.l.length c12, .int .i64 a0.which])] I [pto b2 (.cells #[.slice p3 o0.heads.length c4, .int .i64 o0.r, .slice p6 o0.out.length c7] 101 (0, 0)), OwnSl ePush_head 146 p3 c4 o0.heads, OwnSl eSum 89 p6 c7 o0.out] (fun I_ v l => ∃ r p15 c16 p18 c19, v = .tuple #[] ∧ l = [pto b2 (.cells #[.slice p15 r.heads.length c16, .int .i64 r.r, .slice p18 r.out.length c19] 101 (0, 0)), OwnSl ePush_head 146 p15 c16 r.heads, OwnSl eSum 89 p18 c19 r.out] ∧ Q r) := by
 refine Fun.enter (vs := [.iface 144 (.pointer (some ⟨b2, 0, none⟩)), .iface 146 (.agg #[.slice p11 a0.l.length c12, .int .i64 a0.which])]) func100 r ntmps100 r (.c (.c .n)) fun w0 M => ?_
 refine .seq (.region (.skips 2 r ?_))
 have hw14 := W_push_heads_Push_5fa (I := I) (o0 := o0) (a0 := a0) (b2 := b2) (p3 := p3) (c4 := c4) (p6 := p6) (c7 := c7) R13 hd
 refine .callS (.i call213 (method_ptr MD IN144 r r r underlying144) r r) (.c .z (.c .z (.c .z .n))) hw14 r r fun v18 I15 l19 hl16 hv17 => ?_
 obtain ⟨r20, p23, c24, p26, c27, rfl, rfl, hd⟩ := hv17
 have le31 := IH.le.trans (.refl _) hl16
 replace R13 := R13.mono hl16
 refine .re (m' := [pto b2 (.cells #[.slice p23 r20.heads.length c24, .int .i64 r20.r, .slice p26 r20.out.length c27] 101 (0, 0)), OwnSl ePush_head 146 p23 c24 r20.heads, OwnSl eSum 89 p26 c27 r20.out]) r (.nilS [0] r r (.region (.skips 2 r ?_)))
 have hw32 := W_push_heads_Len_66a (I := I15) (o0 := r20.heads) (p2 := p23) (c3 := c24) hd
 refine .callS (.iv call58 (methodV (method_val MD IN144 r r r underlying144) isAgg99 .z r) r r) (.c (.s .z) .n) hw32 r r fun v36 I33 l37 hl34 hv35 => ?_
 obtain ⟨r38, rfl, rfl, hd⟩ := hv35
 have le39 := IH.le.trans le31 hl34
 refine .re (m' := [OwnSl ePush_head 146 p23 c24 r20.heads, pto b2 (.cells #[.slice p23 r20.heads.length c24, .int .i64 r20.r, .slice p26 r20.out.length c27] 101 (0, 0)), OwnSl eSum 89 p26 c27 r20.out]) r (.sub' r r r r ?_)
 have hw40 := W_container_heap_up_248 (I := I33) (o0 := r20) (a0 := (w64 (r38 - 1))) (b2 := b2) (p3 := p23) (c4 := c24) (p6 := p26) (c7 := c27) hd
 refine .callS (.f call145 r) (.c (.s .z) (.c .z (.c .z .n))) hw40 r r fun v44 I41 l45 hl42 hv43 => ?_
 obtain ⟨r46, p49, c50, p52, c53, rfl, rfl, hd⟩ := hv43
 have le57 := IH.le.trans le39 hl42
 exact .re (m' := [pto b2 (.cells #[.slice p49 r46.heads.length c50, .int .i64 r46.r, .slice p52 r46.out.length c53] 101 (0, 0)), OwnSl ePush_head 146 p49 c50 r46.heads, OwnSl eSum 89 p52 c53 r46.out]) r (.nil' (oretN results100 .n le57 (.c .z (.c .z (.c .z .n))) ⟨r46, _, _, _, _, r, r, hd⟩))

theorem W_push_merger_put_46e {I : IH} {o0 : Push_merger} {a0 : List Sum} {a1 : Int} {b2 : Nat} {p3 : Option Addr} {c4 : Nat} {p6 : Option Addr} {c7 : Nat} {p11 : Option Addr} {c12 : Nat} {Q : Push_merger → Prop} (R13 : RepSl eSum I p11 c12 a0) (hd : push_merger_put_46e o0 a0 a1 Q) :
    Fun Tryz.prog 57 #[.pointer (some ⟨b2, 0, none⟩), .slice p11 a0.length c12, .int .i64 a1] I [pto b2 (.cells #[.slice p3 o0.heads.length c4, .int .i64 o0.r, .slice p6 o0.out.length c7] 101 (0, 0)), OwnSl ePush_head 146 p3 c4 o0.heads, OwnSl eSum 89 p6 c7 o0.out] (fun I_ v l => ∃ r p15 c16 p18 c19, v = .tuple #[] ∧ l = [pto b2 (.cells #[.slice p15 r.heads.length c16, .int .i64 r.r, .slice p18 r.out.length c19] 101 (0, 0)), OwnSl ePush_head 146 p15 c16 r.heads, OwnSl eSum 89 p18 c19 r.out] ∧ Q r) := by
 refine Fun.enter (vs := [.pointer (some ⟨b2, 0, none⟩), .slice p11 a0.length c12, .int .i64 a1]) func57 r ntmps57 r (.c (.c (.c .n))) fun w0 M => ?_
 refine .seq (.region (.skips 1 r (.len underlying41 r r r r (.gt r r r r (.nilS [8, 2, 1, 0] r r (.condP r hd (fun hb14 hd => ?_) fun hb14 hd => ?_))))))
 · refine .region (.skips 1 r (.nilCheckP r r r (.fieldAddr underlying101 r sizeOf99 r (o := 0) r r r (.mkIface underlying144 r r r r (.skips 2 r (.build zeroValue146 underlying146 BI146 (.c r r r (.t .nil) (.c r r r (.s (.t .nil)) .n)) (by exact ⟨⟨_, _, r, r, r⟩, ⟨⟨_, _, r, r, r⟩, trivial⟩⟩) r r (.mkIface underlying146 r r r r ?_)))))))
   have hw15 := W_container_heap_Push_f07 (I := I) (o0 := o0) (a0 := ({ l := a0, which := a1 } : Push_head)) (b2 := b2) (p3 := p3) (c4 := c4) (p6 := p6) (c7 := c7) R13 hd
   refine .callS (.f call100 r) (.c .z (.c .z (.c .z .n))) hw15 r r fun v19 I16 l20 hl17 hv18 => ?_
   obtain ⟨r21, p24, c25, p27, c28, rfl, rfl, hd⟩ := hv18
   have le32 := IH.le.trans (.refl _) hl17
   replace R13 := R13.mono hl17
   exact .re (m' := [pto b2 (.cells #[.slice p24 r21.heads.length c25, .int .i64 r21.r, .slice p27 r21.out.length c28] 101 (0, 0)), OwnSl ePush_head 146 p24 c25 r21.heads, OwnSl eSum 89 p27 c28 r21.out]) r (.nil' (oretN results57 .n le32 (.c .z (.c .z (.c .z .n))) ⟨r21, _, _, _, _, r, r, hd⟩))
 exact .skip' (oretN results57 .n (.refl _) (.c .z (.c .z (.c .z .n))) ⟨o0, _, _, _, _, r, r, hd⟩)

theorem W_container_heap_down_206 {I : IH} {o0 : Push_merger} {a0 : Int} {a1 : Int} {b2 : Nat} {p3 : Option Addr} {c4 : Nat} {p6 : Option Addr} {c7 : Nat} {Q : (Bool × Push_merger) → Prop}  (hd : container_heap_down_206 o0 a0 a1 Q) :
    Fun Tryz.prog 146 #[.iface 144 (.pointer (some ⟨b2, 0, none⟩)), .int .i64 a0, .int .i64 a1] I [pto b2 (.cells #[.slice p3 o0.heads.length c4, .int .i64 o0.r, .slice p6 o0.out.length c7] 101 (0, 0)), OwnSl ePush_head 146 p3 c4 o0.heads, OwnSl eSum 89 p6 c7 o0.out] (fun I_ v l => ∃ r p12 c13 p15 c16, v = .bool r.1 ∧ l = [pto b2 (.cells #[.slice p12 r.2.heads.length c13, .int .i64 r.2.r, .slice p15 r.2.out.length c16] 101 (0, 0)), OwnSl ePush_head 146 p12 c13 r.2.heads, OwnSl eSum 89 p15 c16 r.2.out] ∧ Q r) := by
 refine Fun.enter (vs := [.iface 144 (.pointer (some ⟨b2, 0, none⟩)), .int .i64 a0, .int .i64 a1]) func146 r ntmps146 r (.c (.c (.c .n))) fun w0 M => ?_
 refine .seq (.region (.skips 1 r (.nilS [2, 1, 0] r r (.seq (.region (.skips 2 r (.nilS [7, 2, 1, 0] r r (.seq (.block ?_)))))))))
 refine .loop hd (fun (s : (List Push_head) × Int) c w => match s with | (s146, s150) => ∃ I_ p147 c148, IH.le I I_ ∧ Ok ⟨48, [], none⟩ [(0, .iface 144 (.pointer (some ⟨b2, 0, none⟩))), (1, .int .i64 a0), (2, .int .i64 a1), (7, .int .i64 s150)] c ∧ Sym w0 M I I_ [pto b2 (.cells #[.slice p147 s146.length c148, .int .i64 o0.r, .slice p6 o0.out.length c7] 101 (0, 0)), OwnSl ePush_head 146 p147 c148 s146, OwnSl eSum 89 p6 c7 o0.out] w) (fun c w ho hs => ⟨I, _, _, (.refl _), ho.sub ⟨r, r, r, r, trivial⟩, hs.pick (.c .z (.c .z (.c .z .n)))⟩) ?_
 rintro ⟨s146, s150⟩ next151 hd c w hst
 obtain ⟨I152, p147, c148, hl153, hok, hsym⟩ := hst
 have le154 := IH.le.trans (.refl _) hl153
 refine Cod.at hok hsym (.block (.seq (.region (.skips 1 r (.mul r r r r (.add r r r r (.skips 1 r (.nilS [8, 7, 2, 1, 0] r r (.seq ?_)))))))))
 refine .seq (.region (.skips 2 r (.ge r r r r (.skips 1 r ?_))))
 refine splitP hd (fun hb157 hd => ?_) fun hb157 hd => ?_
 · rw [hb157]
   refine .skips 3 r (.nilS [21, 8, 7, 2, 1, 0] r r (.condKT r r (.exitS [7, 1, 0] r r (.seq (.region (.skips 2 r (.gt r r r r (.skips 1 r (.nilS [6, 0] r r ?_)))))))))
   exact .ret (oret results146 (.t r .n) le154 (.c .z (.c .z (.c .z .n))) ⟨(decide (a0 < s150), ({ heads := s146, r := o0.r, out := o0.out } : Push_merger)), _, _, _, _, r, r, hd⟩)
 rw [hb157]
 refine .gyes r r r (.move r r r (.gyes r r r (.lt r r r r (.skips 1 r (.nilS [21, 8, 7, 2, 1, 0] r r (.condP r hd (fun hb158 hd => ?_) fun hb158 hd => ?_))))))
 · exact .exitS [7, 1, 0] r r (.seq (.region (.skips 2 r (.gt r r r r (.skips 1 r (.nilS [6, 0] r r (.ret (oret results146 (.t r .n) le154 (.c .z (.c .z (.c .z .n))) ⟨(decide (a0 < s150), ({ heads := s146, r := o0.r, out := o0.out } : Push_merger)), _, _, _, _, r, r, hd⟩))))))))
 refine .skipS [8, 7, 2, 1, 0] r r (.seq (.region (.skips 2 r (.nilS [9, 8, 7, 2, 1, 0] r r (.seq ?_)))))
 refine Cod.joinQ (σ := Int) hd (fun (s179 : Int) c w => ∃ I_, IH.le I152 I_ ∧ Ok ⟨48, [], none⟩ [(0, .iface 144 (.pointer (some ⟨b2, 0, none⟩))), (1, .int .i64 a0), (2, .int .i64 a1), (7, .int .i64 s150), (9, .int .i64 s179)] c ∧ Sym w0 M I I_ [pto b2 (.cells #[.slice p147 s146.length c148, .int .i64 o0.r, .slice p6 o0.out.length c7] 101 (0, 0)), OwnSl ePush_head 146 p147 c148 s146, OwnSl eSum 89 p6 c7 o0.out] w) (fun k180 hd => ?_) ?_
 · skip
   refine .seq (.region (.skips 1 r (.add r r r r (.skips 1 r (.nilS [10, 9, 8, 7, 2, 1, 0] r r (.seq (.region (.skips 2 r (.lt r r r r ?_)))))))))
   refine .skips 1 r ?_
   refine splitP hd (fun hb181 hd => ?_) fun hb181 hd => ?_
   · rw [hb181]
     refine .gyes r r r (.move r r r (.gyes r r r (.move r r r (.gyes r r r (.move r r r ?_)))))
     have hw182 := W_push_heads_Less_706 (I := I152) (o0 := s146) (a0 := (w64 ((w64 ((w64 (2 * s150)) + 1)) + 1))) (a1 := (w64 ((w64 (2 * s150)) + 1))) (p2 := p147) (c3 := c148) hd
     refine .gyes r r r (.callS (.iv call211 (methodV (method_val MD IN144 r r r underlying144) isAgg99 .z r) r r) (.c (.s .z) .n) hw182 r r fun v186 I183 l187 hl184 hv185 => ?_)
     obtain ⟨r188, rfl, rfl, hd⟩ := hv185
     have le189 := IH.le.trans le154 hl184
     have le190 := IH.le.trans (.refl _) hl184
     refine .re (m' := [OwnSl ePush_head 146 p147 c148 s146, pto b2 (.cells #[.slice p147 s146.length c148, .int .i64 o0.r, .slice p6 o0.out.length c7] 101 (0, 0)), OwnSl eSum 89 p6 c7 o0.out]) r (.skips 1 r (.nilS [33, 10, 9, 7, 2, 1, 0] r r (.condP r hd (fun hb191 hd => ?_) fun hb191 hd => ?_)))
     · exact .region (.skips 1 r (.sub (E' := [(0, _), (1, _), (2, _), (7, _), (10, _), (33, _), (34, _)]) ⟨r, r, r, r, r, r, r, trivial⟩ (.skips 1 r (.nil' fun c w ho hs => ⟨(w64 ((w64 ((w64 (2 * s150)) + 1)) + 1)), hd, I183, le190, ho.sub ⟨r, r, r, r, r, trivial⟩, hs.pick (.c (.s .z) (.c .z (.c .z .n)))⟩))))
     exact .skip' fun c w ho hs => ⟨(w64 ((w64 (2 * s150)) + 1)), hd, I183, le190, ho.sub ⟨r, r, r, r, r, trivial⟩, hs.pick (.c (.s .z) (.c .z (.c .z .n)))⟩
   rw [hb181]
   exact .skips 5 r (.nilS [33, 10, 9, 7, 2, 1, 0] r r (.condKF r r (.skip' fun c w ho hs => ⟨(w64 ((w64 (2 * s150)) + 1)), hd, I152, (.refl _), ho.sub ⟨r, r, r, r, r, trivial⟩, hs.pick (.c .z (.c .z (.c .z .n)))⟩)))
 rintro s179 hd c w hst
 obtain ⟨I192, hl193, hok, hsym⟩ := hst
 have le194 := IH.le.trans le154 hl193
 have le195 := IH.le.trans (.refl _) hl193
 refine Cod.at hok hsym (.seq (.seq (.region (.skips 3 r ?_))))
 have hw196 := W_push_heads_Less_706 (I := I192) (o0 := s146) (a0 := s179) (a1 := s150) (p2 := p147) (c3 := c148) hd
 refine .callS (.iv call211 (methodV (method_val MD IN144 r r r underlying144) isAgg99 .z r) r r) (.c (.s .z) .n) hw196 r r fun v200 I197 l201 hl198 hv199 => ?_
 obtain ⟨r202, rfl, rfl, hd⟩ := hv199
 have le203 := IH.le.trans le194 hl198
 have le204 := IH.le.trans le195 hl198
 refine .re (m' := [OwnSl ePush_head 146 p147 c148 s146, pto b2 (.cells #[.slice p147 s146.length c148, .int .i64 o0.r, .slice p6 o0.out.length c7] 101 (0, 0)), OwnSl eSum 89 p6 c7 o0.out]) r (.not r r r (.nilS [39, 9, 7, 2, 1, 0] r r (.condP r hd (fun hb205 hd => ?_) fun hb205 hd => ?_)))
 · exact .exitS [7, 1, 0] r r (.seq (.region (.skips 2 r (.gt r r r r (.skips 1 r (.nilS [6, 0] r r (.ret (oret results146 (.t r .n) le203 (.c (.s .z) (.c .z (.c .z .n))) ⟨(decide (a0 < s150), ({ heads := s146, r := o0.r, out := o0.out } : Push_merger)), _, _, _, _, r, r, hd⟩))))))))
 refine .skipS [9, 7, 2, 1, 0] r r (.seq (.region (.skips 3 r ?_)))
 have hw206 := W_push_heads_Swap_c73 (I := I197) (o0 := s146) (a0 := s150) (a1 := s179) (p2 := p147) (c3 := c148) hd
 refine .callS (.iv call214 (methodV (method_val MD IN144 r r r underlying144) isAgg99 (.s .z) r) r r) (.c .z .n) hw206 r r fun v210 I207 l211 hl208 hv209 => ?_
 obtain ⟨r212, rfl, hlen216, rfl, hd⟩ := hv209
 have le217 := IH.le.trans le203 hl208
 have le218 := IH.le.trans le204 hl208
 exact .reat (.s .z) (B := pto b2 (.cells #[.slice p147 r212.length c148, .int .i64 o0.r, .slice p6 o0.out.length c7] 101 (0, 0))) (by rw [hlen216]) (.nilS [9, 2, 1, 0] r r (.region (.skips 2 r (.nil' fun c w ho hs => ⟨(r212, s179), hd, I207, _, _, le217, ho.sub ⟨r, r, r, r, trivial⟩, hs.pick (.c (.s .z) (.c .z (.c .z .n)))⟩))))

theorem W_push_heads_Pop_df2 {I : IH} {o0 : Push_merger} {b2 : Nat} {p3 : Option Addr} {c4 : Nat} {p6 : Option Addr} {c7 : Nat} {Q : (Push_head × Push_merger) → Prop}  (hd : push_heads_Pop_df2 o0 Q) :
    Fun Tryz.prog 212 #[.pointer (some ⟨b2, 0, none⟩)] I [pto b2 (.cells #[.slice p3 o0.heads.length c4, .int .i64 o0.r, .slice p6 o0.out.length c7] 101 (0, 0)), OwnSl ePush_head 146 p3 c4 o0.heads, OwnSl eSum 89 p6 c7 o0.out] (fun I_ v l => ∃ r p20 c21 p12 c13 p15 c16, v = .iface 146 (.agg #[.slice p20 r.1.l.length c21, .int .i64 r.1.which]) ∧ RepSl eSum I_ p20 c21 r.1.l ∧ l = [pto b2 (.cells #[.slice p12 r.2.heads.length c13, .int .i64 r.2.r, .slice p15 r.2.out.length c16] 101 (0, 0)), OwnSl ePush_head 146 p12 c13 r.2.heads, OwnSl eSum 89 p15 c16 r.2.out] ∧ Q r) := by
 refine Fun.enter (vs := [.pointer (some ⟨b2, 0, none⟩)]) func212 r ntmps212 r (.c .n) fun w0 M => ?_
 refine .seq (.region (.skips 1 r (.nilS [0] r r (.seq (.region (.skips 1 r (.nilCheckP r r r (.load1 isAgg99 r .z r r r (.len underlying99 r r r r ?_)))))))))
 refine .sub' r r r r (.skips 1 r (.nilS [3, 0] r r (.seq (.region (.skips 1 r (.nilCheckP r r r (.load1 isAgg99 r .z r r r (.skips 1 r ?_))))))))
 obtain ⟨h23, x24, hx25, hd⟩ := hd
 refine .ownNe (.s .z) (idx_ne hx25) fun b26 e27 => ?_
 cases e27
 refine .ixa0 underlying99 sizeOf146 r r h23 (idx_lt hx25 h23) r r (.loEW isAgg146 sizeOf146 (.s .z) hx25 r r r r r fun cs31 hr32 => ?_)
 obtain ⟨p28, c29, rfl, R30⟩ := hr32
 refine .allocA zeroValue146 r r fun b33 => ?_
 refine .storeA sizeOf146 r r .z (.t (.t .nil)) r r (.nilS [4, 3, 0] r r (.seq (.region (.skips 2 r (.nilCheckP r r r (.load1 isAgg99 r (.s .z) r r r (.skips 1 r ?_)))))))
 obtain ⟨h35, h36, h37, hd⟩ := hd
 refine .sliceT (H := (w64 ((o0.heads.length : Int) - 1)).toNat) underlying99 sizeOf146 r r (.s (.s .z)) (.s (.s .z)) r (by omega) r (by omega) r r (.nilCheckP r r r (.store1 sizeOf99 r r (.s .z) (.t .nil) r (.nilS [4, 0] r r (.seq (.region (.loadW isAgg146 sizeOf146 r .z r r r (.mkIface underlying146 r r r r (.skips 1 r (.nilS [2, 0] r r ?_)))))))))
 exact .drop .z (.ret (oret results212 (.t r .n) (.refl _) (.c .z (.c .z (.c .z .n))) ⟨(x24, ({ heads := (o0.heads.take (w64 ((o0.heads.length : Int) - 1)).toNat), r := o0.r, out := o0.out } : Push_merger)), _, _, _, _, _, _, r, R30, r, hd⟩))

theorem W_container_heap_Pop_4c3 {I : IH} {o0 : Push_merger} {b2 : Nat} {p3 : Option Addr} {c4 : Nat} {p6 : Option Addr} {c7 : Nat} {Q : (Push_head × Push_merger) → Prop}  (hd : container_heap_Pop_4c3 o0 Q) :
    Fun Tryz.prog 101 #[.iface 144 (.pointer (some ⟨b2, 0, none⟩))] I [pto b2 (.cells #[.slice p3 o0.heads.length c4, .int .i64 o0.r, .slice p6 o0.out.length c7] 101 (0, 0)), OwnSl ePush_head 146 p3 c4 o0.heads, OwnSl eSum 89 p6 c7 o0.out] (fun I_ v l => ∃ r p20 c21 p12 c13 p15 c16, v = .iface 146 (.agg #[.slice p20 r.1.l.length c21, .int .i64 r.1.which]) ∧ RepSl eSum I_ p20 c21 r.1.l ∧ l = [pto b2 (.cells #[.slice p12 r.2.heads.length c13, .int .i64 r.2.r, .slice p15 r.2.out.length c16] 101 (0, 0)), OwnSl ePush_head 146 p12 c13 r.2.heads, OwnSl eSum 89 p15 c16 r.2.out] ∧ Q r) := by
 refine Fun.enter (vs := [.iface 144 (.pointer (some ⟨b2, 0, none⟩))]) func101 r ntmps101 r (.c .n) fun w0 M => ?_
 refine .seq (.region (.skips 1 r (.nilS [0] r r (.seq (.region (.skips 1 r ?_))))))
 have hw19 := W_push_heads_Len_66a (I := I) (o0 := o0.heads) (p2 := p3) (c3 := c4) hd
 refine .callS (.iv call58 (methodV (method_val MD IN144 r r r underlying144) isAgg99 .z r) r r) (.c (.s .z) .n) hw19 r r fun v23 I20 l24 hl21 hv22 => ?_
 obtain ⟨r25, rfl, rfl, hd⟩ := hv22
 have le26 := IH.le.trans (.refl _) hl21
 refine .re (m' := [OwnSl ePush_head 146 p3 c4 o0.heads, pto b2 (.cells #[.slice p3 o0.heads.length c4, .int .i64 o0.r, .slice p6 o0.out.length c7] 101 (0, 0)), OwnSl eSum 89 p6 c7 o0.out]) r (.sub' r r r r (.skips 1 r (.nilS [3, 0] r r (.seq (.region (.skips 2 r ?_))))))
 have hw27 := W_push_heads_Swap_c73 (I := I20) (o0 := o0.heads) (a0 := 0) (a1 := (w64 (r25 - 1))) (p2 := p3) (c3 := c4) hd
 refine .callS (.iv call214 (methodV (method_val MD IN144 r r r underlying144) isAgg99 (.s .z) r) r r) (.c .z .n) hw27 r r fun v31 I28 l32 hl29 hv30 => ?_
 obtain ⟨r33, rfl, hlen37, rfl, hd⟩ := hv30
 have le38 := IH.le.trans le26 hl29
 refine .reat (.s .z) (B := pto b2 (.cells #[.slice p3 r33.length c4, .int .i64 o0.r, .slice p6 o0.out.length c7] 101 (0, 0))) (by rw [hlen37]) (.nilS [3, 0] r r (.seq (.region (.skips 2 r ?_))))
 have hw39 := W_container_heap_down_206 (I := I28) (o0 := ({ heads := r33, r := o0.r, out := o0.out } : Push_merger)) (a0 := 0) (a1 := (w64 (r25 - 1))) (b2 := b2) (p3 := p3) (c4 := c4) (p6 := p6) (c7 := c7) hd
 refine .callS (.f call146 r) (.c (.s .z) (.c .z (.c .z .n))) hw39 r r fun v43 I40 l44 hl41 hv42 => ?_
 obtain ⟨r45, p48, c49, p51, c52, rfl, rfl, hd⟩ := hv42
 have le56 := IH.le.trans le38 hl41
 refine .re (m' := [pto b2 (.cells #[.slice p48 r45.2.heads.length c49, .int .i64 r45.2.r, .slice p51 r45.2.out.length c52] 101 (0, 0)), OwnSl ePush_head 146 p48 c49 r45.2.heads, OwnSl eSum 89 p51 c52 r45.2.out]) r (.nilS [0] r r (.seq (.region (.skips 1 r ?_))))
 have hw57 := W_push_heads_Pop_df2 (I := I40) (o0 := r45.2) (b2 := b2) (p3 := p48) (c4 := c49) (p6 := p51) (c7 := c52) hd
 refine .callS (.i call212 (method_ptr MD IN144 r r r underlying144) r r) (.c .z (.c .z (.c .z .n))) hw57 r r fun v61 I58 l62 hl59 hv60 => ?_
 obtain ⟨r63, p64, c65, p69, c70, p72, c73, rfl, R66, rfl, hd⟩ := hv60
 have le77 := IH.le.trans le56 hl59
 exact .re (m' := [pto b2 (.cells #[.slice p69 r63.2.heads.length c70, .int .i64 r63.2.r, .slice p72 r63.2.out.length c73] 101 (0, 0)), OwnSl ePush_head 146 p69 c70 r63.2.heads, OwnSl eSum 89 p72 c73 r63.2.out]) r (.skips 1 r (.nilS [2, 0] r r (.ret (oret results101 (.t r .n) le77 (.c .z (.c .z (.c .z .n))) ⟨(r63.1, r63.2), _, _, _, _, _, _, r, R66, r, hd⟩))))

theorem W_push_merger_next_d58 {I : IH} {o0 : Push_merger} {b2 : Nat} {p3 : Option Addr} {c4 : Nat} {p6 : Option Addr} {c7 : Nat} {Q : Push_merger → Prop}  (hd : push_merger_next_d58 o0 Q) :
    Fun Tryz.prog 59 #[.pointer (some ⟨b2, 0, none⟩)] I [pto b2 (.cells #[.slice p3 o0.heads.length c4, .int .i64 o0.r, .slice p6 o0.out.length c7] 101 (0, 0)), OwnSl ePush_head 146 p3 c4 o0.heads, OwnSl eSum 89 p6 c7 o0.out] (fun I_ v l => ∃ r p12 c13 p15 c16, v = .tuple #[] ∧ l = [pto b2 (.cells #[.slice p12 r.heads.length c13, .int .i64 r.r, .slice p15 r.out.length c16] 101 (0, 0)), OwnSl ePush_head 146 p12 c13 r.heads, OwnSl eSum 89 p15 c16 r.out] ∧ Q r) := by
 refine Fun.enter (vs := [.pointer (some ⟨b2, 0, none⟩)]) func59 r ntmps59 r (.c .n) fun w0 M => ?_
 refine .seq (.region (.skips 1 r (.nilCheckP r r r (.fieldAddr underlying101 r sizeOf99 r (o := 0) r r r (.load1 isAgg99 r .z r r r ?_)))))
 obtain ⟨h23, x24, hx25, hd⟩ := hd
 refine .ownNe (.s .z) (idx_ne hx25) fun b26 e27 => ?_
 cases e27
 refine .ixa0 underlying99 sizeOf146 r r h23 (idx_lt hx25 h23) r r (.loEW isAgg146 sizeOf146 (.s .z) hx25 r r r r r fun cs31 hr32 => ?_)
 obtain ⟨p28, c29, rfl, R30⟩ := hr32
 refine .allocA zeroValue146 r r fun b33 => ?_
 refine .storeA sizeOf146 r r .z (.t (.t .nil)) r r (.nilS [2, 0] r r (.seq (.region (.skips 1 r (.nilCheckP r r r (.fieldAddr underlying101 r sizeOf99 r (o := 0) r r r (.mkIface underlying144 r r r r ?_)))))))
 have hw56 := W_container_heap_Pop_4c3 (I := I) (o0 := o0) (b2 := b2) (p3 := some ⟨b26, 0, none⟩) (c4 := c4) (p6 := p6) (c7 := c7) hd
 refine .callS (.f call101 r) (.c (.s .z) (.c (.s .z) (.c (.s .z) .n))) hw56 r r fun v60 I57 l61 hl58 hv59 => ?_
 obtain ⟨r62, p63, c64, p68, c69, p71, c72, rfl, R65, rfl, hd⟩ := hv59
 have le76 := IH.le.trans (.refl _) hl58
 replace R30 := R30.mono hl58
 refine .re (m' := [pto b2 (.cells #[.slice p68 r62.2.heads.length c69, .int .i64 r62.2.r, .slice p71 r62.2.out.length c72] 101 (0, 0)), OwnSl ePush_head 146 p68 c69 r62.2.heads, OwnSl eSum 89 p71 c72 r62.2.out, pto b33 (.cells #[.slice p28 x24.l.length c29, .int .i64 x24.which] 146 (0, 0))]) r (.nilS [2, 0] r r (.seq (.region (.fieldAddr underlying146 r sizeOf41 r (o := 0) r r r (.load1 isAgg41 r (.s (.s (.s .z))) r r r ?_)))))
 obtain ⟨h88, x89, hx90, hd⟩ := hd
 obtain ⟨b91, o92, cs93, e94, hC95, hr96⟩ := R30.2 _ _ hx90
 cases hr96
 refine .ixa underlying41 sizeOf89 r e94 r h88 (idx_lt hx90 h88) r r (.ldW isAgg89 sizeOf89 hC95 r r r r (.allocA zeroValue89 r r fun b97 => ?_))
 refine .storeA sizeOf89 r r .z (.t (.t (.t .nil))) r r (.nilS [3, 2, 0] r r (.seq (.draw [some 0, some 1, some 2, some 3, some 4, some 5, some 6] 7 MX (by kernel_rfl) (by kernel_rfl) (by kernel_rfl) (by kernel_rfl) (by kernel_rfl) (by kernel_rfl) (by kernel_rfl) (fun ex => (pto b97 (.cells #[.int .i64 x89.At, .int .i64 x89.Val.Hi, .int .u64 x89.Val.Lo] 89 (0, 0))) :: (pto b2 (.cells #[.slice p68 r62.2.heads.length c69, .int .i64 r62.2.r, .slice p71 r62.2.out.length c72] 101 (0, 0))) :: (OwnSl ePush_head 146 p68 c69 r62.2.heads) :: (OwnSl eSum 89 p71 c72 r62.2.out) :: (pto b33 (.cells #[.slice p28 x24.l.length c29, .int .i64 x24.which] 146 (0, 0))) :: ex) (fun _ _ => (.s (.s (.s (.s (.s .z)))))) r (.fs [[]] r (by kernel_rfl) (.f [] r (by kernel_rfl) r r (fun ex => .fieldAddr underlying146 r sizeOf41 r (o := 0) r r r .mk) (.f [1] r (by kernel_rfl) r r (fun ex => .load1 isAgg41 r (.s (.s (.s (.s .z)))) r r r .mk) ?_))))))
 obtain ⟨h127, h128, h129, hd⟩ := hd
 have h135 : Int.toNat 1 ≤ Int.toNat (x24.l.length : Int) := by omega
 have h136 : Int.toNat (x24.l.length : Int) ≤ x24.l.length := by omega
 obtain ⟨p130, c131, e133, e134, R132⟩ := RepSl.sliceW R30 (Int.toNat 1) (Int.toNat (x24.l.length : Int)) c29 h135 h136 (.inl rfl)
 refine .f [2] r (by kernel_rfl) r r (fun ex => .sliceW (L := Int.toNat 1) (H := Int.toNat (x24.l.length : Int)) (cm := c29) underlying41 sizeOf89 r r R30.1 r r r (.inr ⟨_, _, r, h127, r⟩) (.inl ⟨r, r, r⟩) (.inl r) h135 h136 r e133 e134 r r .mk) (.f [] r (by kernel_rfl) r r (fun ex => .fieldAddr underlying146 r sizeOf3 r (o := 1) r r r .mk) (.f [4] r (by kernel_rfl) r r (fun ex => .load1 isAgg3 r (.s (.s (.s (.s .z)))) r r r .mk) (.w [] [[], [5], [], [3], [2, 3], []] [0, 3, 5] r (by kernel_rfl) (by kernel_rfl) (by kernel_rfl) ((dropE_kept r r)) (.inr (dropE_kept r r)) fun ex => ?_)))
 have hw137 := W_push_merger_put_46e (I := I57) (o0 := r62.2) (a0 := ((x24.l.take (x24.l.length : Int).toNat).drop (Int.toNat 1))) (a1 := x24.which) (b2 := b2) (p3 := p68) (c4 := c69) (p6 := p71) (c7 := c72) R132 hd
 refine .callS (.f call57 r) (.c (.s .z) (.c (.s .z) (.c (.s .z) .n))) hw137 r r fun v141 I138 l142 hl139 hv140 => ?_
 obtain ⟨r143, p146, c147, p149, c150, rfl, rfl, hd⟩ := hv140
 have le154 := IH.le.trans le76 hl139
 replace R30 := R30.mono hl139
 replace R132 := R132.mono hl139
 refine .re (m' := (pto b2 (.cells #[.slice p146 r143.heads.length c147, .int .i64 r143.r, .slice p149 r143.out.length c150] 101 (0, 0))) :: (OwnSl ePush_head 146 p146 c147 r143.heads) :: (OwnSl eSum 89 p149 c150 r143.out) :: (pto b97 (.cells #[.int .i64 x89.At, .int .i64 x89.Val.Hi, .int .u64 x89.Val.Lo] 89 (0, 0))) :: (pto b33 (.cells #[.slice p28 x24.l.length c29, .int .i64 x24.which] 146 (0, 0))) :: ex) r (.some (fun ex => (pto b2 (.cells #[.slice p146 r143.heads.length c147, .int .i64 r143.r, .slice p149 r143.out.length c150] 101 (0, 0))) :: (OwnSl ePush_head 146 p146 c147 r143.heads) :: (OwnSl eSum 89 p149 c150 r143.out) :: (pto b97 (.cells #[.int .i64 x89.At, .int .i64 x89.Val.Hi, .int .u64 x89.Val.Lo] 89 (0, 0))) :: (pto b33 (.cells #[.slice p28 x24.l.length c29, .int .i64 x24.which] 146 (0, 0))) :: ex) r (fun _ _ => (.s (.s (.s (.s (.s .z)))))) r trivial (.e 7 (by kernel_rfl) (by kernel_rfl) (by kernel_rfl) (.nilS [3, 0] r r (.drop (.s (.s (.s (.s .z)))) (.seq (.seq (.region (.skips 1 r (.nilCheckP r r r ?_)))))))))
 refine .fieldAddr underlying101 r sizeOf41 r (o := 2) r r r (.load1 isAgg41 r .z r r r (.len underlying41 r r r r (.skips 1 r (.nilS [4, 3, 0] r r (.seq ?_)))))
 refine Cod.joinQ (σ := Bool) hd (fun (s216 : Bool) c w => ∃ I_, IH.le I138 I_ ∧ Ok ⟨82, [], none⟩ [(0, .pointer (some ⟨b2, 0, none⟩)), (3, .pointer (some ⟨b97, 0, none⟩)), (4, .int .i64 (r143.out.length : Int)), (47, .bool s216)] c ∧ Sym w0 M I I_ [pto b2 (.cells #[.slice p146 r143.heads.length c147, .int .i64 r143.r, .slice p149 r143.out.length c150] 101 (0, 0)), OwnSl ePush_head 146 p146 c147 r143.heads, OwnSl eSum 89 p149 c150 r143.out, pto b97 (.cells #[.int .i64 x89.At, .int .i64 x89.Val.Hi, .int .u64 x89.Val.Lo] 89 (0, 0))] w) (fun k217 hd => ?_) ?_
 · skip
   refine .ownF (.s .z) fun hne218 => ?_
   refine .ownF (.s (.s .z)) fun hne219 => ?_
   refine .draw [some 0, some 1, some 2, some 3, some 4, some 5, some 6, some 7, some 8, some 9, some 10, some 11, some 12, some 13, some 14, some 15] 16 MX (by kernel_rfl) (by kernel_rfl) (by kernel_rfl) (by kernel_rfl) (by kernel_rfl) (by kernel_rfl) (by kernel_rfl) (fun ex => (pto b2 (.cells #[.slice p146 r143.heads.length c147, .int .i64 r143.r, .slice p149 r143.out.length c150] 101 (0, 0))) :: (OwnSl ePush_head 146 p146 c147 r143.heads) :: (OwnSl eSum 89 p149 c150 r143.out) :: (pto b97 (.cells #[.int .i64 x89.At, .int .i64 x89.Val.Hi, .int .u64 x89.Val.Lo] 89 (0, 0))) :: ex) (fun _ _ => (.s (.s (.s (.s .z))))) r (.fs [[]] r (by kernel_rfl) (.f [0] r (by kernel_rfl) r r (fun ex => .gt r r r r .mk) (.fs [[1]] r (by kernel_rfl) ?_)))
   refine splitP hd (fun hb220 hd => ?_) fun hb220 hd => ?_
   · rw [hb220]
     refine .fs [[2]] r (by kernel_rfl) (.f [3, 2] r (by kernel_rfl) r r (fun ex => .gyes r r r (.nilCheckP r r r .mk)) (.f [4, 2] r (by kernel_rfl) r r (fun ex => .gyes r r r (.fieldAddr underlying101 r sizeOf41 r (o := 2) r r r .mk)) (.f [5, 2] r (by kernel_rfl) r r (fun ex => .gyes r r r (.load1 isAgg41 r .z r r r .mk)) (.fs [[2]] r (by kernel_rfl) (.f [7, 2] r (by kernel_rfl) r r (fun ex => .gyes r r r (.sub' r r r r .mk)) ?_)))))
     obtain ⟨h221, x222, hx223, hd⟩ := hd
     obtain ⟨b224, e225⟩ := hne219 (idx_ne hx223)
     cases e225
     exact .f [6, 8, 2] r (by kernel_rfl) r r (fun ex => .gyes r r r (.ixa0 underlying41 sizeOf89 r r h221 (idx_lt hx223 h221) r r .mk)) (.f [9, 2] r (by kernel_rfl) r r (fun ex => .gyes r r r (.fieldAddr underlying89 r sizeOf3 r (o := ((w64 ((r143.out.length : Int) - 1)).toNat) * 3) r r r .mk)) (.f [10, 2] r (by kernel_rfl) r r (fun ex => .gyes r r r (.lo1 (j := 0) isAgg3 (.s (.s .z)) hx223 r r r r r .mk)) (.f [2] r (by kernel_rfl) r r (fun ex => .gyes r r r (.fieldAddr underlying89 r sizeOf3 r (o := 0) r r r .mk)) (.f [12, 2] r (by kernel_rfl) r r (fun ex => .gyes r r r (.load1 isAgg3 r (.s (.s (.s .z))) r r r .mk)) (.f [11, 13, 2] r (by kernel_rfl) r r (fun ex => .gyes r r r (.eq r r r r .mk)) (.fs [[2, 14]] r (by kernel_rfl) (.e 16 (by kernel_rfl) (by kernel_rfl) (by kernel_rfl) (.nil' fun c w ho hs => ⟨(x222.At == x89.At), hd, I138, (.refl _), ho.sub ⟨r, r, r, r, trivial⟩, hs.pick (.c .z (.c .z (.c .z (.c .z .n))))⟩))))))))
   rw [hb220]
   exact .fs [[2], [3, 2], [4, 2], [5, 2], [2], [7, 2], [6, 8, 2], [9, 2], [10, 2], [2], [12, 2], [11, 13, 2], [2, 14]] r (by kernel_rfl) (.e 16 (by kernel_rfl) (by kernel_rfl) (by kernel_rfl) (.nil' fun c w ho hs => ⟨false, hd, I138, (.refl _), ho.sub ⟨r, r, r, r, trivial⟩, hs.pick (.c .z (.c .z (.c .z (.c .z .n))))⟩))
 rintro s216 hd c w hst
 obtain ⟨I226, hl227, hok, hsym⟩ := hst
 have le228 := IH.le.trans le154 hl227
 have le229 := IH.le.trans (.refl _) hl227
 refine Cod.at hok hsym (.condP r hd (fun hb230 hd => ?_) fun hb230 hd => ?_)
 · refine .seq (.ownF (.s .z) fun hne231 => ?_)
   refine .ownF (.s (.s .z)) fun hne232 => ?_
   refine .draw [some 0, some 1, some 2, some 3, some 4, some 5, some 6, some 7, some 8, some 9, some 10, some 11, some 12, some 13, some 14, some 15, some 16, some 17, some 18, some 19, some 20, some 21, some 22, some 23, some 24] 25 MX (by kernel_rfl) (by kernel_rfl) (by kernel_rfl) (by kernel_rfl) (by kernel_rfl) (by kernel_rfl) (by kernel_rfl) (fun ex => (pto b2 (.cells #[.slice p146 r143.heads.length c147, .int .i64 r143.r, .slice p149 r143.out.length c150] 101 (0, 0))) :: (OwnSl ePush_head 146 p146 c147 r143.heads) :: (OwnSl eSum 89 p149 c150 r143.out) :: (pto b97 (.cells #[.int .i64 x89.At, .int .i64 x89.Val.Hi, .int .u64 x89.Val.Lo] 89 (0, 0))) :: ex) (fun _ _ => (.s (.s (.s (.s .z))))) r (.fs [[]] r (by kernel_rfl) (.f [0] r (by kernel_rfl) r r (fun ex => .nilCheckP r r r .mk) (.f [1] r (by kernel_rfl) r r (fun ex => .fieldAddr underlying101 r sizeOf41 r (o := 2) r r r .mk) (.f [2] r (by kernel_rfl) r r (fun ex => .load1 isAgg41 r .z r r r .mk) (.fs [[]] r (by kernel_rfl) (.f [4] r (by kernel_rfl) r r (fun ex => .sub' r r r r .mk) (.fs [[]] r (by kernel_rfl) (.f [6] r (by kernel_rfl) r r (fun ex => .nilCheckP r r r .mk) (.f [7] r (by kernel_rfl) r r (fun ex => .fieldAddr underlying101 r sizeOf22 r (o := 1) r r r .mk) ?_)))))))))
   refine .f [8] r (by kernel_rfl) r r (fun ex => .load1 isAgg22 r .z r r r .mk) (.fs [[]] r (by kernel_rfl) (.f [10] r (by kernel_rfl) r r (fun ex => .nilCheckP r r r .mk) (.f [11] r (by kernel_rfl) r r (fun ex => .fieldAddr underlying101 r sizeOf41 r (o := 2) r r r .mk) (.f [12] r (by kernel_rfl) r r (fun ex => .load1 isAgg41 r .z r r r .mk) (.fs [[]] r (by kernel_rfl) (.f [14] r (by kernel_rfl) r r (fun ex => .sub' r r r r .mk) ?_))))))
   obtain ⟨h233, x234, hx235, hd⟩ := hd
   obtain ⟨b236, e237⟩ := hne232 (idx_ne hx235)
   cases e237
   refine .f [13, 15] r (by kernel_rfl) r r (fun ex => .ixa0 underlying41 sizeOf89 r r h233 (idx_lt hx235 h233) r r .mk) (.f [16] r (by kernel_rfl) r r (fun ex => .fieldAddr underlying89 r sizeOf87 r (o := ((w64 ((r143.out.length : Int) - 1)).toNat) * 3 + 1) r r r .mk) (.f [17] r (by kernel_rfl) r r (fun ex => .loA (j := 1) isAgg87 sizeOf87 (.s (.s .z)) hx235 r r (.s (.t (.t .nil))) r r r .mk) (.f [] r (by kernel_rfl) r r (fun ex => .fieldAddr underlying89 r sizeOf87 r (o := 1) r r r .mk) (.f [19] r (by kernel_rfl) r r (fun ex => .loadA isAgg87 sizeOf87 r (.s (.s (.s .z))) (.s (.t (.t .nil))) r r r .mk) (.w [5, 4, 3, 2, 1, 0] [[], [20], [], [18], [17, 18], [16, 17, 18], [15, 16, 17, 18], [16, 17, 18], [13, 16, 17, 18], [12, 13, 16, 17, 18], [11, 12, 13, 16, 17, 18], [], [9], [8, 9], [7, 8, 9]] [9, 18, 20] r (by kernel_rfl) (by kernel_rfl) (by kernel_rfl) ((dropE_kept r r)) (.inr (dropE_kept r r)) fun ex => ?_)))))
   have hw239 := W_ring_Add (I := I226) hd
   refine .callP call102 r hw239 r r fun v240 hv241 => ?_
   obtain ⟨r238, rfl, hd⟩ := hv241
   refine .some (fun ex => (pto b2 (.cells #[.slice p146 r143.heads.length c147, .int .i64 r143.r, .slice (some ⟨b236, 0, none⟩) r143.out.length c150] 101 (0, 0))) :: (OwnSl ePush_head 146 p146 c147 r143.heads) :: (OwnSl eSum 89 (some ⟨b236, 0, none⟩) c150 r143.out) :: (pto b97 (.cells #[.int .i64 x89.At, .int .i64 x89.Val.Hi, .int .u64 x89.Val.Lo] 89 (0, 0))) :: ex) r (fun _ _ => (.s (.s (.s (.s .z))))) r (.cc [4] r (by kernel_rfl) r r r (fun ex => .sub' r r r r .mk) (.ccs [[]] r r (by kernel_rfl) (.cc [2] r (by kernel_rfl) r r r (fun ex => .load1 isAgg41 r .z r r r .mk) (.cc [1] r (by kernel_rfl) r r r (fun ex => .fieldAddr underlying101 r sizeOf41 r (o := 2) r r r .mk) (.cc [0] r (by kernel_rfl) r r r (fun ex => .nilCheckP r r r .mk) (.ccs [[]] r r (by kernel_rfl) trivial)))))) ?_
   obtain ⟨h242, x243, hx244, hd⟩ := hd
   refine .f [3, 5, 0, 1, 2, 3, 4, 5, 6, 7, 8, 9, 10, 11, 12, 13, 14, 15, 16, 17, 18, 19, 20, 21] r (by kernel_rfl) r r (fun ex => .ixa0 underlying41 sizeOf89 r r h242 (idx_lt hx244 h242) r r .mk) (.f [22, 0, 1, 2, 3, 4, 5, 6, 7, 8, 9, 10, 11, 12, 13, 14, 15, 16, 17, 18, 19, 20, 21] r (by kernel_rfl) r r (fun ex => .fieldAddr underlying89 r sizeOf87 r (o := ((w64 ((r143.out.length : Int) - 1)).toNat) * 3 + 1) r r r .mk) (.w [] [[], [23], [], [], [], [], [], []] [23, 21, 21, 0, 1, 2, 3, 4, 5, 6, 7, 8, 9, 10, 11, 12, 13, 14, 15, 16, 17, 18, 19, 20, 21] r (by kernel_rfl) (by kernel_rfl) (by kernel_rfl) ((dropE_none r)) (.inr (dropE_none r)) fun ex => ?_))
   exact .stOA (j := 1) (v' := ({ At := x243.At, Val := r238 } : Sum)) sizeOf87 (.s (.s .z)) hx244 r r r (.s (.t (.t .nil))) r r (.reat .z (B := pto b2 (.cells #[.slice p146 r143.heads.length c147, .int .i64 r143.r, .slice (some ⟨b236, 0, none⟩) (r143.out.set ((w64 ((r143.out.length : Int) - 1)).toNat) ({ At := x243.At, Val := r238 } : Sum)).length c150] 101 (0, 0))) (by simp only [List.length_set]) (.none (fun ex => (pto b2 (.cells #[.slice p146 r143.heads.length c147, .int .i64 r143.r, .slice (some ⟨b236, 0, none⟩) (r143.out.set ((w64 ((r143.out.length : Int) - 1)).toNat) ({ At := x243.At, Val := r238 } : Sum)).length c150] 101 (0, 0))) :: (OwnSl ePush_head 146 p146 c147 r143.heads) :: (OwnSl eSum 89 (some ⟨b236, 0, none⟩) c150 (r143.out.set ((w64 ((r143.out.length : Int) - 1)).toNat) ({ At := x243.At, Val := r238 } : Sum))) :: (pto b97 (.cells #[.int .i64 x89.At, .int .i64 x89.Val.Hi, .int .u64 x89.Val.Lo] 89 (0, 0))) :: ex) r (fun _ _ => (.s (.s (.s (.s .z))))) r trivial (.e 25 (by kernel_rfl) (by kernel_rfl) (by kernel_rfl) (.sub (E' := [(0, _), (3, _), (4, _), (47, _), (48, _), (49, _), (50, _), (51, .slice (some ⟨b236, 0, none⟩) (r143.out.set ((w64 ((r143.out.length : Int) - 1)).toNat) ({ At := x243.At, Val := r238 } : Sum)).length c150), (52, _), (53, _), (54, _), (55, _), (56, _), (57, _), (58, _), (59, _), (60, _), (61, .slice (some ⟨b236, 0, none⟩) (r143.out.set ((w64 ((r143.out.length : Int) - 1)).toNat) ({ At := x243.At, Val := r238 } : Sum)).length c150), (62, _), (63, _), (64, _), (65, _), (66, _), (67, _), (68, _), (69, _), (70, _), (71, _)]) ⟨r, r, r, r, r, r, r, (by simp only [List.length_set]; rfl), r, r, r, r, r, r, r, r, r, (by simp only [List.length_set]; rfl), r, r, r, r, r, r, r, r, r, r, trivial⟩ (.reat .z (B := pto b2 (.cells #[.slice p146 r143.heads.length c147, .int .i64 r143.r, .slice (some ⟨b236, 0, none⟩) (r143.out.set ((w64 ((r143.out.length : Int) - 1)).toNat) ({ At := x243.At, Val := r238 } : Sum)).length c150] 101 (0, 0))) (by simp only [List.length_set]) (.nilS [0] r r (.drop (.s (.s (.s .z))) (.ret (oret results59 .n le228 (.c .z (.c .z (.c .z .n))) ⟨({ heads := r143.heads, r := r143.r, out := (r143.out.set ((w64 ((r143.out.length : Int) - 1)).toNat) ({ At := x243.At, Val := r238 } : Sum)) } : Push_merger), _, _, _, _, r, r, hd⟩)))))))))
 refine .skipS [3, 0] r r (.draw [some 0, some 1, some 2, some 3, some 4, some 5, some 6, some 7, some 8, some 9, some 10] 11 MX (by kernel_rfl) (by kernel_rfl) (by kernel_rfl) (by kernel_rfl) (by kernel_rfl) (by kernel_rfl) (by kernel_rfl) (fun ex => (pto b2 (.cells #[.slice p146 r143.heads.length c147, .int .i64 r143.r, .slice p149 r143.out.length c150] 101 (0, 0))) :: (OwnSl ePush_head 146 p146 c147 r143.heads) :: (OwnSl eSum 89 p149 c150 r143.out) :: (pto b97 (.cells #[.int .i64 x89.At, .int .i64 x89.Val.Hi, .int .u64 x89.Val.Lo] 89 (0, 0))) :: ex) (fun _ _ => (.s (.s (.s (.s .z))))) r (.fs [[], []] r (by kernel_rfl) (.f [1] r (by kernel_rfl) r r (fun ex => .nilCheckP r r r .mk) (.f [2] r (by kernel_rfl) r r (fun ex => .fieldAddr underlying101 r sizeOf41 r (o := 2) r r r .mk) (.f [3] r (by kernel_rfl) r r (fun ex => .load1 isAgg41 r .z r r r .mk) (.f [] r (by kernel_rfl) r r (fun ex => .loadW isAgg89 sizeOf89 r (.s (.s (.s .z))) r r r .mk) (.w [4, 3, 2, 1, 0] [[]] [5] r (by kernel_rfl) (by kernel_rfl) (by kernel_rfl) ((dropE_kept r r)) (.inr (dropE_kept r r)) fun ex => ?_)))))))
 refine .buildSlice 1 underlying41 sizeOf89 zeroValue89 r r (.c r r r .n) r r fun b245 => ?_
 refine .some (fun ex => (pto b245 (.cells #[.int .i64 x89.At, .int .i64 x89.Val.Hi, .int .u64 x89.Val.Lo] 89 (0, 0))) :: (pto b2 (.cells #[.slice p146 r143.heads.length c147, .int .i64 r143.r, .slice p149 r143.out.length c150] 101 (0, 0))) :: (OwnSl ePush_head 146 p146 c147 r143.heads) :: (OwnSl eSum 89 p149 c150 r143.out) :: (pto b97 (.cells #[.int .i64 x89.At, .int .i64 x89.Val.Hi, .int .u64 x89.Val.Lo] 89 (0, 0))) :: ex) r (fun _ _ => (.s (.s (.s (.s (.s .z)))))) r (.cc [3] r (by kernel_rfl) r r r (fun ex => .load1 isAgg41 r (.s .z) r r r .mk) (.cc [2] r (by kernel_rfl) r r r (fun ex => .fieldAddr underlying101 r sizeOf41 r (o := 2) r r r .mk) (.cc [1] r (by kernel_rfl) r r r (fun ex => .nilCheckP r r r .mk) (.ccs [[], []] r r (by kernel_rfl) trivial)))) (.w [0] [[], [4], [3, 4], [2, 3, 4]] [4, 6] r (by kernel_rfl) (by kernel_rfl) (by kernel_rfl) ((dropE_kept r r)) (.inr (dropE_kept r r)) fun ex => ?_)
 obtain ⟨hl247, hd⟩ := hd
 refine .append (ys := [x89]) 24 (.s (.s (.s .z))) underlying41 underlying41 IN89 r r r r r r r r r (.box .z (.one r) r) hl247 r r fun p248 c249 => ?_
 refine .some (fun ex => (OwnSl eSum 89 p248 c249 (r143.out ++ ([x89]))) :: (pto b245 (.cells #[.int .i64 x89.At, .int .i64 x89.Val.Hi, .int .u64 x89.Val.Lo] 89 (0, 0))) :: (pto b2 (.cells #[.slice p146 r143.heads.length c147, .int .i64 r143.r, .slice p149 r143.out.length c150] 101 (0, 0))) :: (OwnSl ePush_head 146 p146 c147 r143.heads) :: (pto b97 (.cells #[.int .i64 x89.At, .int .i64 x89.Val.Hi, .int .u64 x89.Val.Lo] 89 (0, 0))) :: ex) r (fun _ _ => (.s (.s (.s (.s (.s .z)))))) r (.ccs [[]] r r (by kernel_rfl) trivial) (.f [0, 0, 1, 2, 3, 4, 5, 6, 7] r (by kernel_rfl) r r (fun ex => .nilCheckP r r r .mk) (.f [8, 0, 1, 2, 3, 4, 5, 6, 7] r (by kernel_rfl) r r (fun ex => .fieldAddr underlying101 r sizeOf41 r (o := 2) r r r .mk) (.w [] [[], [9], []] [9, 7, 7, 0, 1, 2, 3, 4, 5, 6, 7] r (by kernel_rfl) (by kernel_rfl) (by kernel_rfl) ((dropE_none r)) (.inr (dropE_none r)) fun ex => ?_)))
 exact .store1 sizeOf41 r r (.s (.s .z)) (.s (.s (.t .nil))) r (.none (fun ex => (OwnSl eSum 89 p248 c249 (r143.out ++ ([x89]))) :: (pto b245 (.cells #[.int .i64 x89.At, .int .i64 x89.Val.Hi, .int .u64 x89.Val.Lo] 89 (0, 0))) :: (pto b2 (.cells #[.slice p146 r143.heads.length c147, .int .i64 r143.r, .slice p248 (r143.out ++ ([x89])).length c249] 101 (0, 0))) :: (OwnSl ePush_head 146 p146 c147 r143.heads) :: (pto b97 (.cells #[.int .i64 x89.At, .int .i64 x89.Val.Hi, .int .u64 x89.Val.Lo] 89 (0, 0))) :: ex) r (fun _ _ => (.s (.s (.s (.s (.s .z)))))) r trivial (.e 11 (by kernel_rfl) (by kernel_rfl) (by kernel_rfl) (.nil' (oretN results59 .n le228 (.c (.s (.s .z)) (.c (.s (.s .z)) (.c .z .n))) ⟨({ heads := r143.heads, r := r143.r, out := (r143.out ++ ([x89])) } : Push_merger), _, _, _, _, r, r, hd⟩))))

theorem W_push_Merge {I : IH} {a0 : Int} {a1 : List (List Sum)} {p1 : Option Addr} {c2 : Nat} {Q : ((List Sum) × Int) → Prop} (R3 : RepSl (slEl eSum) I p1 c2 a1) (hd : push_Merge a0 a1 Q) :
    PFun Tryz.prog 24 [.int .i64 a0, .slice p1 a1.length c2] I (fun I_ v => ∃ r p4 c5, v = .tuple #[.slice p4 r.1.length c5, .int .i64 r.2] ∧ RepSl eSum I_ p4 c5 r.1 ∧ Q r) := by
 refine Fun.enter func24 r ntmps24 r (.c (.c .n)) fun w0 M => ?_
 refine .seq (.region (.skips 2 r (.nilS [1, 0] r r (.seq (.seq (.region (.skips 1 r ?_)))))))
 have hw13 := W_ring_Is (I := I) hd
 refine .callP call36 r hw13 r r fun v14 hv15 => ?_
 obtain ⟨r12, rfl, hd⟩ := hv15
 refine .not r r r (.nilS [11, 1, 0] r r (.condP r hd (fun hb16 hd => ?_) fun hb16 hd => ?_))
 · exact .seq (.region (.skips 2 r (.nilS [5, 4] r r (.ret (pret results24 (.t r (.t r .n)) (.refl _) ⟨(([] : List Sum), 8), _, _, r, (.nil _ _ _), hd⟩)))))
 refine .skipS [1, 0] r r (.seq (.seq (.region (.skips 1 r ?_))))
 have hw26 := W_slices_ContainsFunc_api_Sum_api_Sum_bfd (I := I) (a0 := a1) R3 hd
 refine .callS (.f call54 r) .n hw26 r r fun v30 I27 l31 hl28 hv29 => ?_
 obtain ⟨r32, rfl, rfl, hd⟩ := hv29
 have le33 := IH.le.trans (.refl _) hl28
 replace R3 := R3.mono hl28
 refine .re (m' := []) r (.nilS [13, 1, 0] r r (.condP r hd (fun hb34 hd => ?_) fun hb34 hd => ?_))
 · exact .seq (.region (.skips 2 r (.nilS [5, 4] r r (.ret (pret results24 (.t r (.t r .n)) le33 ⟨(([] : List Sum), 6), _, _, r, (.nil _ _ _), hd⟩)))))
 refine .skipS [1, 0] r r (.seq (.region (.skips 1 r (.build zeroValue101 underlying101 BI101 (.c r r r (.s (.t .nil)) .n) (by exact ⟨⟨_, _, r, r, r⟩, trivial⟩) r r (.boxA r r r fun b37 => ?_)))))
 refine .skips 1 r (.nilS [6, 1] r r (.seq (.seq (.region (.skips 1 r (.len underlying75 r r r r (.skips 1 r (.nilS [19, 18, 17, 6] r r (.block ?_)))))))))
 refine .own0 ePush_head 146 (.own0 eSum 89 (.loop hd (fun (s : (List Push_head) × Int × (List Sum) × Int) c w => match s with | (s285, s289, s290, s294) => ∃ I_ p286 c287 p291 c292, IH.le I27 I_ ∧ Ok ⟨41, [], none⟩ [(6, .pointer (some ⟨b37, 0, none⟩)), (17, .slice p1 a1.length c2), (18, .int .i64 (a1.length : Int)), (19, .int .i64 s294)] c ∧ Sym w0 M I I_ [pto b37 (.cells #[.slice p286 s285.length c287, .int .i64 s289, .slice p291 s290.length c292] 101 (0, 0)), OwnSl ePush_head 146 p286 c287 s285, OwnSl eSum 89 p291 c292 s290] w) (fun c w ho hs => ⟨I27, _, _, _, _, (.refl _), ho.sub ⟨r, r, r, r, trivial⟩, hs.pick (.c (.s (.s .z)) (.c (.s .z) (.c .z .n)))⟩) ?_))
 rintro ⟨s285, s289, s290, s294⟩ next297 hd c w hst
 obtain ⟨I298, p286, c287, p291, c292, hl299, hok, hsym⟩ := hst
 have le300 := IH.le.trans le33 hl299
 have le301 := IH.le.trans (.refl _) hl299
 replace R3 := R3.mono hl299
 refine Cod.at hok hsym (.seq (.region (.lt r r r r (.nilS [20, 19, 18, 17, 6] r r (.seq (.condP r hd (fun hb303 hd => ?_) fun hb303 hd => ?_))))))
 · refine .skipS [19, 18, 17, 6] r r (.seq (.block (.seq (.region (.skips 1 r ?_)))))
   obtain ⟨h304, x305, hx306, hd⟩ := hd
   obtain ⟨b307, o308, cs309, e310, hC311, hr312⟩ := R3.2 _ _ hx306
   obtain ⟨p313, c314, rfl, R315⟩ := hr312
   refine .ixa underlying75 sizeOf41 r e310 r h304 (idx_lt hx306 h304) r r (.ld1 (j := 0) isAgg41 hC311 r r r r r (.skips 2 r (.nilS [8, 7, 19, 18, 17, 6] r r (.region (.skips 3 r ?_)))))
   have hw316 := W_push_merger_put_46e (I := I298) (o0 := ({ heads := s285, r := s289, out := s290 } : Push_merger)) (a0 := x305) (a1 := s294) (b2 := b37) (p3 := p286) (c4 := c287) (p6 := p291) (c7 := c292) R315 hd
   refine .callS (.f call57 r) (.c .z (.c .z (.c .z .n))) hw316 r r fun v320 I317 l321 hl318 hv319 => ?_
   obtain ⟨r322, p325, c326, p328, c329, rfl, rfl, hd⟩ := hv319
   have le333 := IH.le.trans le300 hl318
   have le334 := IH.le.trans le301 hl318
   replace R3 := R3.mono hl318
   replace R315 := R315.mono hl318
   exact .re (m' := [pto b37 (.cells #[.slice p325 r322.heads.length c326, .int .i64 r322.r, .slice p328 r322.out.length c329] 101 (0, 0)), OwnSl ePush_head 146 p325 c326 r322.heads, OwnSl eSum 89 p328 c329 r322.out]) r (.nilS [19, 18, 17, 6] r r (.region (.add r r r r (.sub (E' := [(6, _), (17, _), (18, _), (28, _)]) ⟨r, r, r, r, trivial⟩ (.skips 1 r (.nil' fun c w ho hs => ⟨(r322.heads, r322.r, r322.out, w64 (s294 + 1)), hd, I317, _, _, _, _, le334, ho.sub ⟨r, r, r, r, trivial⟩, hs.pick (.c .z (.c .z (.c .z .n)))⟩))))))
 refine .exitS [6] r r (.seq (.block (.loop hd (fun (s : (List Push_head) × Int × (List Sum)) c w => match s with | (s412, s416, s417) => ∃ I_ p413 c414 p418 c419, IH.le I298 I_ ∧ Ok ⟨41, [], none⟩ [(6, .pointer (some ⟨b37, 0, none⟩))] c ∧ Sym w0 M I I_ [pto b37 (.cells #[.slice p413 s412.length c414, .int .i64 s416, .slice p418 s417.length c419] 101 (0, 0)), OwnSl ePush_head 146 p413 c414 s412, OwnSl eSum 89 p418 c419 s417] w) (fun c w ho hs => ⟨I298, _, _, _, _, (.refl _), ho.sub ⟨r, trivial⟩, hs.pick (.c .z (.c .z (.c .z .n)))⟩) ?_)))
 rintro ⟨s412, s416, s417⟩ next421 hd c w hst
 obtain ⟨I422, p413, c414, p418, c419, hl423, hok, hsym⟩ := hst
 have le424 := IH.le.trans le300 hl423
 have le425 := IH.le.trans le301 hl423
 have le426 := IH.le.trans (.refl _) hl423
 refine Cod.at hok hsym (.seq (.seq (.region (.skips 1 r (.nilCheckP r r r (.fieldAddr underlying101 r sizeOf99 r (o := 0) r r r (.load1 isAgg99 r .z r r r ?_)))))))
 have hw428 := fun (J : IH) (hJ : IH.le I422 J) (hL : lentAll J [OwnSl ePush_head 146 p413 c414 s412]) => W_push_heads_Len (I := J) (lent hL.1) hd
 refine .callB (.f call58 r) (.c (.s .z) .n) hw428 r r fun v429 _ hv430 => ?_
 obtain ⟨r427, rfl, hd⟩ := hv430
 refine .gt r r r r (.nilS [34, 6] r r (.condP r hd (fun hb431 hd => ?_) fun hb431 hd => ?_))
 · refine .skipS [6] r r (.block (.region (.skips 1 r ?_)))
   have hw432 := W_push_merger_next_d58 (I := I422) (o0 := ({ heads := s412, r := s416, out := s417 } : Push_merger)) (b2 := b37) (p3 := p413) (c4 := c414) (p6 := p418) (c7 := c419) hd
   refine .callS (.f call59 r) (.c .z (.c .z (.c .z .n))) hw432 r r fun v436 I433 l437 hl434 hv435 => ?_
   obtain ⟨r438, p441, c442, p444, c445, rfl, rfl, hd⟩ := hv435
   have le449 := IH.le.trans le424 hl434
   have le450 := IH.le.trans le425 hl434
   have le451 := IH.le.trans le426 hl434
   exact .re (m' := [pto b37 (.cells #[.slice p441 r438.heads.length c442, .int .i64 r438.r, .slice p444 r438.out.length c445] 101 (0, 0)), OwnSl ePush_head 146 p441 c442 r438.heads, OwnSl eSum 89 p444 c445 r438.out]) r (.nil' fun c w ho hs => ⟨(r438.heads, r438.r, r438.out), hd, I433, _, _, _, _, le451, ho.sub ⟨r, trivial⟩, hs.pick (.c .z (.c .z (.c .z .n)))⟩)
 refine .exitS [6] r r (.seq (.region (.skips 1 r (.nilCheckP r r r (.fieldAddr underlying101 r sizeOf41 r (o := 2) r r r (.load1 isAgg41 r .z r r r (.skips 2 r (.nilS [5, 4] r r (.drop .z ?_)))))))))
 refine .drop .z (.pub .z fun I452 hl453 R454 => ?_)
 have le455 := IH.le.trans le424 hl453
 have le456 := IH.le.trans le425 hl453
 have le457 := IH.le.trans le426 hl453
 exact .ret (pret results24 (.t r (.t r .n)) le455 ⟨(s417, 0), _, _, r, R454, hd⟩)

theorem W_push_Sums {I : IH} {a0 : Int} {a1 : Columns} {a2 : Vec} {a3 : List Int} {a4 : Bool} {p1 : Option Addr} {c2 : Nat} {p4 : Option Addr} {c5 : Nat} {p7 : Option Addr} {c8 : Nat} {p10 : Option Addr} {c11 : Nat} {p13 : Option Addr} {c14 : Nat} {p16 : Option Addr} {c17 : Nat} {Q : ((List Sum) × Int) → Prop} (R3 : RepSl eI64 I p1 c2 a1.At) (R6 : RepSl eI64 I p4 c5 a1.Start) (R9 : RepSl eI64 I p7 c8 a1.Row) (R12 : RepSl eI64 I p10 c11 a1.Val) (R15 : RepSl eItem I p13 c14 a2.Items) (R18 : RepSl eU64 I p16 c17 a3) (hd : push_Sums a0 a1 a2 a3 a4 Q) :
    PFun Tryz.prog 11 [.int .i64 a0, .agg #[.int .i64 a1.Rows, .int .i64 a1.Cols, .slice p1 a1.At.length c2, .slice p4 a1.Start.length c5, .slice p7 a1.Row.length c8, .slice p10 a1.Val.length c11], .agg #[.int .i64 a2.N, .slice p13 a2.Items.length c14], .slice p16 a3.length c17, .bool a4] I (fun I_ v => ∃ r p19 c20, v = .tuple #[.slice p19 r.1.length c20, .int .i64 r.2] ∧ RepSl eSum I_ p19 c20 r.1 ∧ Q r) := by
 refine Fun.enter func11 r ntmps11 r (.c (.c (.c (.c (.c .n))))) fun w0 M => ?_
 refine .seq (.region (.boxA r r r fun b26 => ?_))
 refine .boxA r r r fun b28 => ?_
 refine .skips 2 r (.nilS [7, 6, 4, 3, 0] r r (.seq (.region (.loadW isAgg32 sizeOf32 r (.s .z) r r r (.loadW isAgg38 sizeOf38 r .z r r r ?_)))))
 have hw74 := W_push_sure (I := I) R3 R6 R9 R12 R15 hd
 refine .call call35 r hw74 r r fun v57 I54 hl55 hv56 => ?_
 obtain ⟨r53, p59, c60, p62, c63, p65, c66, p68, c69, p71, c72, rfl, R61, R64, R67, R70, R73, hd⟩ := hv56
 have le75 := IH.le.trans (.refl _) hl55
 replace R3 := R3.mono hl55
 replace R6 := R6.mono hl55
 replace R9 := R9.mono hl55
 replace R12 := R12.mono hl55
 replace R15 := R15.mono hl55
 replace R18 := R18.mono hl55
 refine .skips 1 r (.extract r r r r (.extract r r r r (.storeA sizeOf32 r r (.s .z) (.t (.t (.t (.t (.t (.t .nil)))))) r r (.storeA sizeOf38 r r .z (.t (.t .nil)) r r (.nilS [7, 6, 4, 3, 0] r r (.seq (.block (.seq (.region ?_)))))))))
 refine .skips 1 r ?_
 have hw91 := W_ring_Is (I := I54) hd
 refine .callP call36 r hw91 r r fun v92 hv93 => ?_
 obtain ⟨r90, rfl, hd⟩ := hv93
 refine .not r r r (.skips 1 r (.nilS [21, 7, 6, 4, 3, 0] r r (.condP r hd (fun hb94 hd => ?_) fun hb94 hd => ?_)))
 · exact .seq (.region (.skips 2 r (.nilS [11, 10] r r (.drop .z (.drop .z (.ret (pret results11 (.t r (.t r .n)) le75 ⟨(([] : List Sum), 8), _, _, r, (.nil _ _ _), hd⟩)))))))
 refine .seq (.region (.fieldAddr underlying38 r sizeOf3 r (o := 0) r r r (.load1 isAgg3 r .z r r r (.fieldAddr underlying32 r sizeOf3 r (o := 1) r r r (.load1 isAgg3 r (.s .z) r r r (.ne r r r r (.skips 1 r (.nilS [25, 7, 6, 4, 3, 0] r r (.condP r hd (fun hb95 hd => ?_) fun hb95 hd => ?_)))))))))
 · exact .seq (.region (.skips 2 r (.nilS [11, 10] r r (.drop .z (.drop .z (.ret (pret results11 (.t r (.t r .n)) le75 ⟨(([] : List Sum), 4), _, _, r, (.nil _ _ _), hd⟩)))))))
 refine .skipS [7, 6, 4, 3, 0] r r (.seq (.region (.skips 1 r (.nilS [12, 7, 6, 4, 3, 0] r r (.seq (.seq (.region (.fieldAddr underlying38 r sizeOf25 r (o := 1) r r r (.load1 isAgg25 r .z r r r ?_)))))))))
 refine .len underlying25 r r r r (.skips 1 r (.nilS [34, 33, 32, 12, 6, 4, 3, 0] r r (.drop .z (.block (.own0 (slEl eSum) 41 (.loop hd (fun (s : (List (List Sum)) × Int) c w => match s with | (s220, s224) => ∃ I_ p221 c222, IH.le I54 I_ ∧ Ok ⟨57, [], none⟩ [(0, .int .i64 a0), (3, .slice p16 a3.length c17), (4, .bool a4), (6, .pointer (some ⟨b26, 0, none⟩)), (12, .slice p221 s220.length c222), (32, .slice p71 r53.2.Items.length c72), (33, .int .i64 (r53.2.Items.length : Int)), (34, .int .i64 s224)] c ∧ Sym w0 M I I_ [pto b26 (.cells #[.int .i64 r53.1.Rows, .int .i64 r53.1.Cols, .slice p59 r53.1.At.length c60, .slice p62 r53.1.Start.length c63, .slice p65 r53.1.Row.length c66, .slice p68 r53.1.Val.length c69] 32 (0, 0)), OwnSl (slEl eSum) 41 p221 c222 s220] w) (fun c w ho hs => ⟨I54, _, _, (.refl _), ho.sub ⟨r, r, r, r, r, r, r, r, trivial⟩, hs.pick (.c (.s .z) (.c .z .n))⟩) ?_))))))
 rintro ⟨s220, s224⟩ next226 hd c w hst
 obtain ⟨I227, p221, c222, hl228, hok, hsym⟩ := hst
 have le229 := IH.le.trans le75 hl228
 have le230 := IH.le.trans (.refl _) hl228
 replace R18 := R18.mono hl228
 replace R61 := R61.mono hl228
 replace R64 := R64.mono hl228
 replace R67 := R67.mono hl228
 replace R70 := R70.mono hl228
 replace R73 := R73.mono hl228
 refine Cod.at hok hsym (.seq (.region (.lt r r r r (.nilS [35, 34, 33, 32, 12, 6, 4, 3, 0] r r (.seq (.condP r hd (fun hb232 hd => ?_) fun hb232 hd => ?_))))))
 · refine .skipS [34, 33, 32, 12, 6, 4, 3, 0] r r (.seq (.block (.seq (.region ?_))))
   obtain ⟨h244, x245, hx246, hd⟩ := hd
   obtain ⟨b247, o248, cs249, e250, hC251, hr252⟩ := R73.2 _ _ hx246
   cases hr252
   refine .ixa underlying25 sizeOf67 r e250 r h244 (idx_lt hx246 h244) r r (.ldW isAgg67 sizeOf67 hC251 r r r r (.allocA zeroValue67 r r fun b253 => ?_))
   refine .storeA sizeOf67 r r .z (.t (.t .nil)) r r (.nilS [14, 34, 33, 32, 12, 6, 4, 3, 0] r r (.draw [some 0, some 1, some 2, some 3, some 4, some 6, some 7, some 8, some 9, some 5, some 10, some 11, some 12] 13 MX (by kernel_rfl) (by kernel_rfl) (by kernel_rfl) (by kernel_rfl) (by kernel_rfl) (by kernel_rfl) (by kernel_rfl) (fun ex => (pto b253 (.cells #[.int .i64 x245.At, .int .i64 x245.Val] 67 (0, 0))) :: (pto b26 (.cells #[.int .i64 r53.1.Rows, .int .i64 r53.1.Cols, .slice p59 r53.1.At.length c60, .slice p62 r53.1.Start.length c63, .slice p65 r53.1.Row.length c66, .slice p68 r53.1.Val.length c69] 32 (0, 0))) :: (OwnSl (slEl eSum) 41 p221 c222 s220) :: ex) (fun _ _ => (.s (.s (.s .z)))) r (.fs [[], []] r (by kernel_rfl) (.f [] r (by kernel_rfl) r r (fun ex => .loadW isAgg32 sizeOf32 r (.s .z) r r r .mk) (.f [] r (by kernel_rfl) r r (fun ex => .fieldAddr underlying67 r sizeOf3 r (o := 0) r r r .mk) (.f [3] r (by kernel_rfl) r r (fun ex => .load1 isAgg3 r .z r r r .mk) (.f [] r (by kernel_rfl) r r (fun ex => .fieldAddr underlying67 r sizeOf2 r (o := 1) r r r .mk) (.f [6] r (by kernel_rfl) r r (fun ex => .load1 isAgg2 r .z r r r .mk) (.fs [[], []] r (by kernel_rfl) ?_)))))))))
   refine .w [9, 8, 7, 6, 1, 0] [[], [4], []] [2, 4] r (by kernel_rfl) (by kernel_rfl) (by kernel_rfl) ((dropE_kept r r)) (.inr (dropE_kept r r)) fun ex => ?_
   have hw264 := W_dcsc_Column (I := I227) R61 R64 R67 R70 hd
   refine .call call38 r hw264 r r fun v259 I256 hl257 hv258 => ?_
   obtain ⟨r255, p261, c262, rfl, R263, hd⟩ := hv258
   have le265 := IH.le.trans le229 hl257
   have le266 := IH.le.trans le230 hl257
   replace R18 := R18.mono hl257
   replace R61 := R61.mono hl257
   replace R64 := R64.mono hl257
   replace R67 := R67.mono hl257
   replace R70 := R70.mono hl257
   replace R73 := R73.mono hl257
   refine .some (fun ex => (pto b253 (.cells #[.int .i64 x245.At, .int .i64 x245.Val] 67 (0, 0))) :: (pto b26 (.cells #[.int .i64 r53.1.Rows, .int .i64 r53.1.Cols, .slice p59 r53.1.At.length c60, .slice p62 r53.1.Start.length c63, .slice p65 r53.1.Row.length c66, .slice p68 r53.1.Val.length c69] 32 (0, 0))) :: (OwnSl (slEl eSum) 41 p221 c222 s220) :: ex) r (fun _ _ => (.s (.s (.s .z)))) r (.ccs [[], []] r r (by kernel_rfl) (.cc [6] r (by kernel_rfl) r r r (fun ex => .load1 isAgg2 r .z r r r .mk) (.cc [] r (by kernel_rfl) r r r (fun ex => .fieldAddr underlying67 r sizeOf2 r (o := 1) r r r .mk) (.ccs [[], []] r r (by kernel_rfl) trivial)))) (.w [0] [[], [], [], [7], []] [1, 5, 7, 8, 9, 5] r (by kernel_rfl) (by kernel_rfl) (by kernel_rfl) ((dropE_kept r r)) (.inr (dropE_kept r r)) fun ex => ?_)
   have hw276 := W_push_column (I := I256) R263 R18 hd
   refine .call call37 r hw276 r r fun v271 I268 hl269 hv270 => ?_
   obtain ⟨r267, p273, c274, rfl, R275, hd⟩ := hv270
   have le277 := IH.le.trans le265 hl269
   have le278 := IH.le.trans le266 hl269
   replace R18 := R18.mono hl269
   replace R61 := R61.mono hl269
   replace R64 := R64.mono hl269
   replace R67 := R67.mono hl269
   replace R70 := R70.mono hl269
   replace R73 := R73.mono hl269
   replace R263 := R263.mono hl269
   refine .some (fun ex => (pto b253 (.cells #[.int .i64 x245.At, .int .i64 x245.Val] 67 (0, 0))) :: (pto b26 (.cells #[.int .i64 r53.1.Rows, .int .i64 r53.1.Cols, .slice p59 r53.1.At.length c60, .slice p62 r53.1.Start.length c63, .slice p65 r53.1.Row.length c66, .slice p68 r53.1.Val.length c69] 32 (0, 0))) :: (OwnSl (slEl eSum) 41 p221 c222 s220) :: ex) r (fun _ _ => (.s (.s (.s .z)))) r (.ccs [[]] r r (by kernel_rfl) trivial) (.w [0] [] [10] r (by kernel_rfl) (by kernel_rfl) (by kernel_rfl) ((dropE_kept r r)) (.inr (dropE_kept r r)) fun ex => ?_)
   refine .buildSlice 1 underlying75 sizeOf41 zeroValue41 r r (.c r r r .n) r r fun b279 => ?_
   refine .some (fun ex => (pto b279 (.cells #[.slice p273 r267.length c274] 41 (0, 0))) :: (pto b253 (.cells #[.int .i64 x245.At, .int .i64 x245.Val] 67 (0, 0))) :: (pto b26 (.cells #[.int .i64 r53.1.Rows, .int .i64 r53.1.Cols, .slice p59 r53.1.At.length c60, .slice p62 r53.1.Start.length c63, .slice p65 r53.1.Row.length c66, .slice p68 r53.1.Val.length c69] 32 (0, 0))) :: (OwnSl (slEl eSum) 41 p221 c222 s220) :: ex) r (fun _ _ => (.s (.s (.s (.s .z))))) r (.ccs [[]] r r (by kernel_rfl) trivial) (.w [] [[]] [0, 11, 10] r (by kernel_rfl) (by kernel_rfl) (by kernel_rfl) ((dropE_kept r r)) (.inr (dropE_kept r r)) fun ex => ?_)
   obtain ⟨hl281, hd⟩ := hd
   refine .append (ys := [r267]) 24 (.s (.s (.s .z))) underlying75 underlying75 IN41 r r r r r r r r r (.box .z (.one ⟨_, _, r, R275⟩) r) hl281 r r fun p282 c283 => ?_
   refine .some (fun ex => (OwnSl (slEl eSum) 41 p282 c283 (s220 ++ ([r267]))) :: (pto b279 (.cells #[.slice p273 r267.length c274] 41 (0, 0))) :: (pto b253 (.cells #[.int .i64 x245.At, .int .i64 x245.Val] 67 (0, 0))) :: (pto b26 (.cells #[.int .i64 r53.1.Rows, .int .i64 r53.1.Cols, .slice p59 r53.1.At.length c60, .slice p62 r53.1.Start.length c63, .slice p65 r53.1.Row.length c66, .slice p68 r53.1.Val.length c69] 32 (0, 0))) :: ex) r (fun _ _ => (.s (.s (.s (.s .z))))) r trivial (.e 13 (by kernel_rfl) (by kernel_rfl) (by kernel_rfl) (.sub (E' := [(0, _), (3, _), (4, _), (6, _), (32, _), (33, _), (34, _), (14, _), (38, _), (39, _), (40, _), (41, _), (42, _), (44, _), (45, _), (46, _), (47, _), (43, _), (48, _), (49, _), (50, _)]) ⟨r, r, r, r, r, r, r, r, r, r, r, r, r, r, r, r, r, r, r, r, r, trivial⟩ (.skips 1 r (.nilS [12, 34, 33, 32, 6, 4, 3, 0] r r (.drop (.s .z) (.drop (.s .z) (.region (.add r r r r (.sub (E' := [(0, _), (3, _), (4, _), (6, _), (32, _), (33, _), (12, _), (51, _)]) ⟨r, r, r, r, r, r, r, r, trivial⟩ ?_)))))))))
   exact .skips 1 r (.nil' fun c w ho hs => ⟨((s220 ++ ([r267])), w64 (s224 + 1)), hd, I268, _, _, le278, ho.sub ⟨r, r, r, r, r, r, r, r, trivial⟩, hs.pick (.c (.s .z) (.c .z .n))⟩)
 refine .exitS [12, 0] r r (.drop .z (.seq (.region (.skips 2 r (.pub .z fun I285 hl286 R287 => ?_)))))
 have le288 := IH.le.trans le229 hl286
 have le289 := IH.le.trans le230 hl286
 have hw299 := W_push_Merge (I := I285) R287 hd
 refine .call call24 r hw299 r r fun v294 I291 hl292 hv293 => ?_
 obtain ⟨r290, p296, c297, rfl, R298, hd⟩ := hv293
 have le300 := IH.le.trans le288 hl292
 have le301 := IH.le.trans le289 hl292
 replace R287 := R287.mono hl292
 exact .extract r r r r (.extract r r r r (.skips 2 r (.nilS [11, 10] r r (.ret (pret results11 (.t r (.t r .n)) le300 ⟨(r290.1, r290.2), _, _, r, R298, hd⟩)))))

theorem W_push_Times {I : IH} {a0 : Int} {a1 : Columns} {a2 : Vec} {a3 : List Int} {a4 : Bool} {p1 : Option Addr} {c2 : Nat} {p4 : Option Addr} {c5 : Nat} {p7 : Option Addr} {c8 : Nat} {p10 : Option Addr} {c11 : Nat} {p13 : Option Addr} {c14 : Nat} {p16 : Option Addr} {c17 : Nat} {Q : (Vec × Int) → Prop} (R3 : RepSl eI64 I p1 c2 a1.At) (R6 : RepSl eI64 I p4 c5 a1.Start) (R9 : RepSl eI64 I p7 c8 a1.Row) (R12 : RepSl eI64 I p10 c11 a1.Val) (R15 : RepSl eItem I p13 c14 a2.Items) (R18 : RepSl eU64 I p16 c17 a3) (hd : push_Times a0 a1 a2 a3 a4 Q) :
    PFun Tryz.prog 13 [.int .i64 a0, .agg #[.int .i64 a1.Rows, .int .i64 a1.Cols, .slice p1 a1.At.length c2, .slice p4 a1.Start.length c5, .slice p7 a1.Row.length c8, .slice p10 a1.Val.length c11], .agg #[.int .i64 a2.N, .slice p13 a2.Items.length c14], .slice p16 a3.length c17, .bool a4] I (fun I_ v => ∃ r p19 c20, v = .tuple #[.agg #[.int .i64 r.1.N, .slice p19 r.1.Items.length c20], .int .i64 r.2] ∧ RepSl eItem I_ p19 c20 r.1.Items ∧ Q r) := by
 refine Fun.enter func13 r ntmps13 r (.c (.c (.c (.c (.c .n))))) fun w0 M => ?_
 refine .seq (.region (.boxA r r r fun b28 => ?_))
 refine .boxA r r r fun b30 => ?_
 refine .allocA zeroValue38 r r fun b32 => ?_
 refine .skips 1 r (.nilS [10, 7, 6, 4, 3, 0] r r (.seq (.region (.skips 1 r (.loadW isAgg32 sizeOf32 r (.s (.s .z)) r r r (.loadW isAgg38 sizeOf38 r (.s .z) r r r (.skips 2 r ?_)))))))
 have hw54 := W_push_Sums (I := I) R3 R6 R9 R12 R15 R18 hd
 refine .call call11 r hw54 r r fun v49 I46 hl47 hv48 => ?_
 obtain ⟨r45, p51, c52, rfl, R53, hd⟩ := hv48
 have le55 := IH.le.trans (.refl _) hl47
 replace R3 := R3.mono hl47
 replace R6 := R6.mono hl47
 replace R9 := R9.mono hl47
 replace R12 := R12.mono hl47
 replace R15 := R15.mono hl47
 replace R18 := R18.mono hl47
 refine .skips 1 r (.extract r r r r (.extract r r r r (.skips 2 r (.nilS [13, 12, 10, 7, 6, 0] r r (.seq (.seq (.region (.skips 1 r (.ne r r r r ?_)))))))))
 refine .nilS [24, 13, 12, 10, 7, 6, 0] r r (.condP r hd (fun hb57 hd => ?_) fun hb57 hd => ?_)
 · exact .seq (.region (.build zeroValue38 underlying38 BI38 .n (by exact trivial) r r (.skips 1 r (.storeA sizeOf38 r r .z (.t (.t .nil)) r r (.skips 1 r (.nilS [11, 10] r r (.drop (.s .z) (.drop (.s .z) (.ret (pret results13 (.w isAgg38 sizeOf38 r .z r (.t r .n)) le55 ⟨(({ N := 0, Items := ([] : List Item) } : Vec), r45.2), _, _, r, (.nil _ _ _), hd⟩))))))))))
 refine .skipS [12, 10, 7, 6, 0] r r (.seq (.region (.loadW isAgg32 sizeOf32 r (.s (.s .z)) r r r (.loadW isAgg38 sizeOf38 r (.s .z) r r r ?_))))
 have hw102 := W_push_sure (I := I46) R3 R6 R9 R12 R15 hd
 refine .call call35 r hw102 r r fun v85 I82 hl83 hv84 => ?_
 obtain ⟨r81, p87, c88, p90, c91, p93, c94, p96, c97, p99, c100, rfl, R89, R92, R95, R98, R101, hd⟩ := hv84
 have le103 := IH.le.trans le55 hl83
 replace R3 := R3.mono hl83
 replace R6 := R6.mono hl83
 replace R9 := R9.mono hl83
 replace R12 := R12.mono hl83
 replace R15 := R15.mono hl83
 replace R53 := R53.mono hl83
 refine .skips 1 r (.extract r r r r (.extract r r r r (.storeA sizeOf32 r r (.s (.s .z)) (.t (.t (.t (.t (.t (.t .nil)))))) r r (.nilS [12, 10, 6, 0] r r (.drop (.s .z) (.seq (.region (.skips 1 r (.fieldAddr underlying32 r sizeOf3 r (o := 0) r r r ?_)))))))))
 refine .load1 isAgg3 r (.s .z) r r r (.skips 1 r ?_)
 have hw113 := W_pull_Done (I := I82) R53 hd
 refine .call call42 r hw113 r r fun v108 I105 hl106 hv107 => ?_
 obtain ⟨r104, p110, c111, rfl, R112, hd⟩ := hv107
 have le114 := IH.le.trans le103 hl106
 replace R53 := R53.mono hl106
 replace R89 := R89.mono hl106
 replace R92 := R92.mono hl106
 replace R95 := R95.mono hl106
 replace R98 := R98.mono hl106
 exact .extract r r r r (.extract r r r r (.storeA sizeOf38 r r .z (.t (.t .nil)) r r (.skips 1 r (.nilS [11, 10] r r (.drop (.s .z) (.ret (pret results13 (.w isAgg38 sizeOf38 r .z r (.t r .n)) le114 ⟨(r104.1, r104.2), _, _, r, R112, hd⟩)))))))

theorem W_law14_live {I : IH}   {Q : Bool → Prop}  (hd : law14_live Q) :
    PFun Tryz.prog 15 [] I (fun I_ v => ∃ r, v = .bool r ∧ Q r) := by
 refine Fun.enter func15 r ntmps15 r .n fun w0 M => ?_
 refine .seq (.region (.skips 1 r (.nilS [] r r (.seq (.region (.build zeroValue84 underlying84 BI84 (.c r r r (.s (.t .nil)) (.c r r r (.s (.s (.t .nil))) .n)) (by exact ⟨⟨_, _, r, r, r⟩, ⟨⟨_, _, r, r, r⟩, trivial⟩⟩) r r (.build zeroValue84 underlying84 BI84 (.c r r r (.s (.t .nil)) (.c r r r (.s (.s (.t .nil))) .n)) (by exact ⟨⟨_, _, r, r, r⟩, ⟨⟨_, _, r, r, r⟩, trivial⟩⟩) r r (.build zeroValue84 underlying84 BI84 (.c r r r (.t .nil) (.c r r r (.s (.t .nil)) (.c r r r (.s (.s (.t .nil))) .n))) (by exact ⟨⟨_, _, r, r, r⟩, ⟨⟨_, _, r, r, r⟩, ⟨⟨_, _, r, r, r⟩, trivial⟩⟩⟩) r r (.buildSlice 3 underlying24 sizeOf84 zeroValue84 r r (.c r r r (.c r r r (.c r r r .n))) r r fun b26 => ?_)))))))))
 refine .pubB (El := eTriple) (ys := ([({ Row := 0, Col := 0, Val := 2 } : Triple), ({ Row := 0, Col := 1, Val := 3 } : Triple), ({ Row := 1, Col := 1, Val := 9 } : Triple)] : List Triple)) (k := 3) .z (RepCs.cons (cs := [.int .i64 0, .int .i64 0, .int .i64 2]) r (RepCs.cons (cs := [.int .i64 0, .int .i64 1, .int .i64 3]) r (RepCs.cons (cs := [.int .i64 1, .int .i64 1, .int .i64 9]) r .nil))) r fun I28 hl29 R30 => ?_
 have le31 := IH.le.trans (.refl _) hl29
 have hw47 := W_ref07_Of (I := I28) R30 hd
 refine .call call44 r hw47 r r fun v36 I33 hl34 hv35 => ?_
 obtain ⟨r32, p38, c39, p41, c42, p44, c45, rfl, R40, R43, R46, hd⟩ := hv35
 have le48 := IH.le.trans le31 hl34
 replace R30 := R30.mono hl34
 refine .skips 1 r (.extract r r r r (.extract r r r r (.allocA zeroValue35 r r fun b49 => ?_)))
 refine .storeA sizeOf35 r r .z (.t (.t (.t (.t (.t .nil))))) r r (.skips 1 r (.nilS [1] r r (.seq (.region (.loadW isAgg35 sizeOf35 r .z r r r ?_)))))
 have hw91 := W_ref08_Of (I := I33) R40 R43 R46 hd
 refine .call call7 r hw91 r r fun v77 I74 hl75 hv76 => ?_
 obtain ⟨r73, p79, c80, p82, c83, p85, c86, p88, c89, rfl, R81, R84, R87, R90, hd⟩ := hv76
 have le92 := IH.le.trans le48 hl75
 replace R40 := R40.mono hl75
 replace R43 := R43.mono hl75
 replace R46 := R46.mono hl75
 refine .allocA zeroValue32 r r fun b93 => ?_
 refine .storeA sizeOf32 r r .z (.t (.t (.t (.t (.t (.t .nil)))))) r r (.nilS [3] r r (.drop (.s .z) (.seq (.region (.build zeroValue67 underlying67 BI67 (.c r r r (.t .nil) (.c r r r (.s (.t .nil)) .n)) (by exact ⟨⟨_, _, r, r, r⟩, ⟨⟨_, _, r, r, r⟩, trivial⟩⟩) r r (.buildSlice 1 underlying25 sizeOf67 zeroValue67 r r (.c r r r .n) r r fun b100 => ?_))))))
 refine .ownB (El := eItem) (ys := ([({ At := 1, Val := 1 } : Item)] : List Item)) .z (.one r) r (.build zeroValue38 underlying38 BI38 (.c r r r (.t .nil) (.c r r r (.s (.t .nil)) .n)) (by exact ⟨⟨_, _, r, r, r⟩, ⟨⟨_, _, r, r, r⟩, trivial⟩⟩) r r (.allocA zeroValue38 r r fun b103 => ?_))
 refine .storeA sizeOf38 r r .z (.t (.t .nil)) r r (.nilS [4, 3] r r (.seq (.region (.loadW isAgg32 sizeOf32 r (.s (.s .z)) r r r (.loadW isAgg38 sizeOf38 r .z r r r (.pub (.s .z) fun I122 hl123 R124 => ?_))))))
 have le125 := IH.le.trans le92 hl123
 replace R81 := R81.mono hl123
 replace R84 := R84.mono hl123
 replace R87 := R87.mono hl123
 replace R90 := R90.mono hl123
 have hw135 := W_push_Times (I := I122) R81 R84 R87 R90 R124 (.nil _ none 0) hd
 refine .call call13 r hw135 r r fun v130 I127 hl128 hv129 => ?_
 obtain ⟨r126, p132, c133, rfl, R134, hd⟩ := hv129
 have le136 := IH.le.trans le125 hl128
 replace R81 := R81.mono hl128
 replace R84 := R84.mono hl128
 replace R87 := R87.mono hl128
 replace R90 := R90.mono hl128
 replace R124 := R124.mono hl128
 refine .skips 1 r (.extract r r r r (.extract r r r r (.allocA zeroValue38 r r fun b137 => ?_)))
 refine .storeA sizeOf38 r r .z (.t (.t .nil)) r r (.skips 1 r (.nilS [6, 5, 4, 3] r r (.seq (.region (.build zeroValue87 underlying87 BI87 (.c r r r (.s (.t .nil)) .n) (by exact ⟨⟨_, _, r, r, r⟩, trivial⟩) r r (.build zeroValue89 underlying89 BI89 (.c r r r (.t .nil) (.c r r r (.s (.t (.t .nil))) .n)) (by exact ⟨⟨_, _, r, r, r⟩, ⟨⟨_, _, r, r, r⟩, trivial⟩⟩) r r (.buildSlice 1 underlying41 sizeOf89 zeroValue89 r r (.c r r r .n) r r fun b168 => ?_)))))))
 refine .build zeroValue87 underlying87 BI87 (.c r r r (.s (.t .nil)) .n) (by exact ⟨⟨_, _, r, r, r⟩, trivial⟩) r r (.build zeroValue89 underlying89 BI89 (.c r r r (.t .nil) (.c r r r (.s (.t (.t .nil))) .n)) (by exact ⟨⟨_, _, r, r, r⟩, ⟨⟨_, _, r, r, r⟩, trivial⟩⟩) r r (.buildSlice 1 underlying41 sizeOf89 zeroValue89 r r (.c r r r .n) r r fun b170 => ?_))
 refine .buildSlice 2 underlying75 sizeOf41 zeroValue41 r r (.c r r r (.c r r r .n)) r r fun b172 => ?_
 refine .pubB (El := eSum) (ys := ([({ At := 1, Val := ({ Hi := 0, Lo := 5 } : Wide) } : Sum)] : List Sum)) (k := 1) (.s (.s .z)) (.one r) r fun I174 hl175 R176 => ?_
 have le177 := IH.le.trans le136 hl175
 replace R81 := R81.mono hl175
 replace R84 := R84.mono hl175
 replace R87 := R87.mono hl175
 replace R90 := R90.mono hl175
 replace R124 := R124.mono hl175
 replace R134 := R134.mono hl175
 refine .pubB (El := eSum) (ys := ([({ At := 1, Val := ({ Hi := 0, Lo := 3 } : Wide) } : Sum)] : List Sum)) (k := 1) (.s .z) (.one r) r fun I178 hl179 R180 => ?_
 have le181 := IH.le.trans le177 hl179
 replace R81 := R81.mono hl179
 replace R84 := R84.mono hl179
 replace R87 := R87.mono hl179
 replace R90 := R90.mono hl179
 replace R124 := R124.mono hl179
 replace R134 := R134.mono hl179
 replace R176 := R176.mono hl179
 refine .pubB (El := (slEl eSum)) (ys := ([([({ At := 1, Val := ({ Hi := 0, Lo := 5 } : Wide) } : Sum)] : List Sum), ([({ At := 1, Val := ({ Hi := 0, Lo := 3 } : Wide) } : Sum)] : List Sum)] : List (List Sum))) (k := 2) .z (RepCs.cons (cs := [.slice (some ⟨b168, 0, none⟩) ([({ At := 1, Val := ({ Hi := 0, Lo := 5 } : Wide) } : Sum)] : List Sum).length 1]) ⟨_, _, r, R176⟩ (RepCs.cons (cs := [.slice (some ⟨b170, 0, none⟩) ([({ At := 1, Val := ({ Hi := 0, Lo := 3 } : Wide) } : Sum)] : List Sum).length 1]) ⟨_, _, r, R180⟩ .nil)) r fun I182 hl183 R184 => ?_
 have le185 := IH.le.trans le181 hl183
 replace R81 := R81.mono hl183
 replace R84 := R84.mono hl183
 replace R87 := R87.mono hl183
 replace R90 := R90.mono hl183
 replace R124 := R124.mono hl183
 replace R134 := R134.mono hl183
 replace R176 := R176.mono hl183
 replace R180 := R180.mono hl183
 have hw195 := W_push_Merge (I := I182) R184 hd
 refine .call call24 r hw195 r r fun v190 I187 hl188 hv189 => ?_
 obtain ⟨r186, p192, c193, rfl, R194, hd⟩ := hv189
 have le196 := IH.le.trans le185 hl188
 replace R81 := R81.mono hl188
 replace R84 := R84.mono hl188
 replace R87 := R87.mono hl188
 replace R90 := R90.mono hl188
 replace R124 := R124.mono hl188
 replace R134 := R134.mono hl188
 replace R176 := R176.mono hl188
 replace R180 := R180.mono hl188
 replace R184 := R184.mono hl188
 refine .skips 1 r (.extract r r r r (.extract r r r r (.skips 2 r (.nilS [8, 7, 6, 5, 4, 3] r r (.seq (.region (.build zeroValue89 underlying89 BI89 (.c r r r (.t .nil) .n) (by exact ⟨⟨_, _, r, r, r⟩, trivial⟩) r r (.build zeroValue89 underlying89 BI89 (.c r r r (.t .nil) .n) (by exact ⟨⟨_, _, r, r, r⟩, trivial⟩) r r (.buildSlice 2 underlying41 sizeOf89 zeroValue89 r r (.c r r r (.c r r r .n)) r r fun b220 => ?_)))))))))
 refine .buildSlice 1 underlying75 sizeOf41 zeroValue41 r r (.c r r r .n) r r fun b222 => ?_
 refine .pubB (El := eSum) (ys := ([({ At := 1, Val := ({ Hi := 0, Lo := 0 } : Wide) } : Sum), ({ At := 1, Val := ({ Hi := 0, Lo := 0 } : Wide) } : Sum)] : List Sum)) (k := 2) (.s .z) (RepCs.cons (cs := [.int .i64 1, .int .i64 0, .int .u64 0]) r (RepCs.cons (cs := [.int .i64 1, .int .i64 0, .int .u64 0]) r .nil)) r fun I224 hl225 R226 => ?_
 have le227 := IH.le.trans le196 hl225
 replace R81 := R81.mono hl225
 replace R84 := R84.mono hl225
 replace R87 := R87.mono hl225
 replace R90 := R90.mono hl225
 replace R124 := R124.mono hl225
 replace R134 := R134.mono hl225
 replace R194 := R194.mono hl225
 refine .pubB (El := (slEl eSum)) (ys := ([([({ At := 1, Val := ({ Hi := 0, Lo := 0 } : Wide) } : Sum), ({ At := 1, Val := ({ Hi := 0, Lo := 0 } : Wide) } : Sum)] : List Sum)] : List (List Sum))) (k := 1) .z (.one ⟨_, _, r, R226⟩) r fun I228 hl229 R230 => ?_
 have le231 := IH.le.trans le227 hl229
 replace R81 := R81.mono hl229
 replace R84 := R84.mono hl229
 replace R87 := R87.mono hl229
 replace R90 := R90.mono hl229
 replace R124 := R124.mono hl229
 replace R134 := R134.mono hl229
 replace R194 := R194.mono hl229
 replace R226 := R226.mono hl229
 have hw241 := W_push_Merge (I := I228) R230 hd
 refine .call call24 r hw241 r r fun v236 I233 hl234 hv235 => ?_
 obtain ⟨r232, p238, c239, rfl, R240, hd⟩ := hv235
 have le242 := IH.le.trans le231 hl234
 replace R81 := R81.mono hl234
 replace R84 := R84.mono hl234
 replace R87 := R87.mono hl234
 replace R90 := R90.mono hl234
 replace R124 := R124.mono hl234
 replace R134 := R134.mono hl234
 replace R194 := R194.mono hl234
 replace R226 := R226.mono hl234
 replace R230 := R230.mono hl234
 refine .skips 1 r (.extract r r r r (.extract r r r r (.skips 2 r (.nilS [10, 8, 7, 6, 5, 4, 3] r r (.seq (.region (.loadW isAgg32 sizeOf32 r (.s (.s .z)) r r r (.loadW isAgg38 sizeOf38 r (.s .z) r r r (.buildSlice 1 underlying26 sizeOf85 zeroValue85 r r (.c r r r .n) r r fun b260 => ?_)))))))))
 refine .pubB (El := eU64) (ys := ([1] : List Int)) (k := 1) .z (.one r) r fun I262 hl263 R264 => ?_
 have le265 := IH.le.trans le242 hl263
 replace R81 := R81.mono hl263
 replace R84 := R84.mono hl263
 replace R87 := R87.mono hl263
 replace R90 := R90.mono hl263
 replace R124 := R124.mono hl263
 replace R134 := R134.mono hl263
 replace R194 := R194.mono hl263
 have hw275 := W_push_Sums (I := I262) R81 R84 R87 R90 R124 R264 hd
 refine .call call11 r hw275 r r fun v270 I267 hl268 hv269 => ?_
 obtain ⟨r266, p272, c273, rfl, R274, hd⟩ := hv269
 have le276 := IH.le.trans le265 hl268
 replace R81 := R81.mono hl268
 replace R84 := R84.mono hl268
 replace R87 := R87.mono hl268
 replace R90 := R90.mono hl268
 replace R124 := R124.mono hl268
 replace R134 := R134.mono hl268
 replace R194 := R194.mono hl268
 replace R264 := R264.mono hl268
 refine .skips 1 r (.extract r r r r (.extract r r r r (.skips 2 r (.nilS [12, 11, 10, 8, 7, 6, 5, 4, 3] r r (.seq (.region (.skips 1 r (.eq r r r r (.skips 1 r ?_)))))))))
 refine splitP hd (fun hb277 hd => ?_) fun hb277 hd => ?_
 · rw [hb277]
   refine .gyes r r r (.fieldAddr underlying38 r sizeOf25 r (o := 1) r r r (.gyes r r r (.load1 isAgg25 r .z r r r (.gyes r r r (.len underlying25 r r r r (.gyes r r r (.eq r r r r (.skips 2 r ?_))))))))
   refine splitP hd (fun hb278 hd => ?_) fun hb278 hd => ?_
   · rw [hb278]
     refine .gyes r r r (.fieldAddr underlying38 r sizeOf25 r (o := 1) r r r (.gyes r r r (.load1 isAgg25 r .z r r r ?_)))
     obtain ⟨h279, x280, hx281, hd⟩ := hd
     obtain ⟨b282, o283, cs284, e285, hC286, hr287⟩ := R134.2 _ _ hx281
     cases hr287
     refine .gyes r r r (.ixa underlying25 sizeOf67 r e285 r h279 (idx_lt hx281 h279) r r (.gyes r r r (.fieldAddr underlying67 r sizeOf2 r (o := o283 + (Int.toNat 0) * 2 + 1) r r r (.gyes r r r (.ld1 (j := 1) isAgg2 hC286 r r r r r (.gyes r r r (.eq r r r r (.skips 2 r ?_))))))))
     refine splitP hd (fun hb288 hd => ?_) fun hb288 hd => ?_
     · rw [hb288]
       refine .gyes r r r (.move r r r (.gyes r r r (.eq r r r r (.skips 2 r ?_))))
       refine splitP hd (fun hb289 hd => ?_) fun hb289 hd => ?_
       · rw [hb289]
         refine .gyes r r r (.move r r r (.gyes r r r (.len underlying41 r r r r (.gyes r r r (.eq r r r r (.skips 2 r ?_))))))
         refine splitP hd (fun hb290 hd => ?_) fun hb290 hd => ?_
         · rw [hb290]
           refine .gyes r r r (.move r r r ?_)
           obtain ⟨h291, x292, hx293, hd⟩ := hd
           obtain ⟨b294, o295, cs296, e297, hC298, hr299⟩ := R194.2 _ _ hx293
           cases hr299
           refine .gyes r r r (.ixa underlying41 sizeOf89 r e297 r h291 (idx_lt hx293 h291) r r (.gyes r r r (.fieldAddr underlying89 r sizeOf87 r (o := o295 + (Int.toNat 0) * 3 + 1) r r r (.gyes r r r (.ldA (j := 1) isAgg87 sizeOf87 hC298 r r (.s (.t (.t .nil))) r r r (.gyes r r r (.build zeroValue87 underlying87 BI87 (.c r r r (.s (.t .nil)) .n) (by exact ⟨⟨_, _, r, r, r⟩, trivial⟩) r r (.gyes r r r (.eqV r r (EQ87 x292.Val ({ Hi := 0, Lo := 3 } : Wide)) (EG87 _ _ _ _ _) r r r (.skips 2 r ?_))))))))))
           refine splitP hd (fun hb300 hd => ?_) fun hb300 hd => ?_
           · rw [hb300]
             refine .gyes r r r (.move r r r (.gyes r r r (.eq r r r r (.skips 2 r ?_))))
             refine splitP hd (fun hb301 hd => ?_) fun hb301 hd => ?_
             · rw [hb301]
               refine .gyes r r r (.move r r r (.gyes r r r (.eq r r r r (.skips 2 r ?_))))
               refine splitP hd (fun hb302 hd => ?_) fun hb302 hd => ?_
               · rw [hb302]
                 refine .gyes r r r (.move r r r (.gyes r r r (.len underlying41 r r r r (.gyes r r r (.eq r r r r (.skips 2 r ?_))))))
                 refine splitP hd (fun hb303 hd => ?_) fun hb303 hd => ?_
                 · rw [hb303]
                   refine .gyes r r r (.loadW isAgg32 sizeOf32 r (.s (.s .z)) r r r (.gyes r r r (.loadW isAgg38 sizeOf38 r (.s .z) r r r ?_)))
                   have hw305 := W_push_Work (I := I267) R81 R84 R87 R90 R124 hd
                   refine .gyes r r r (.callP call18 r hw305 r r fun v306 hv307 => ?_)
                   obtain ⟨r304, rfl, hd⟩ := hv307
                   exact .gyes r r r (.eq r r r r (.skips 2 r (.nilS [0] r r (.drop .z (.drop .z (.drop .z (.ret (pret results15 (.t r .n) le276 ⟨(r304 == 2), r, hd⟩))))))))
                 rw [hb303]
                 exact .skips 6 r (.nilS [0] r r (.drop .z (.drop .z (.drop .z (.ret (pret results15 (.t r .n) le276 ⟨false, r, hd⟩))))))
               rw [hb302]
               exact .skips 11 r (.nilS [0] r r (.drop .z (.drop .z (.drop .z (.ret (pret results15 (.t r .n) le276 ⟨false, r, hd⟩))))))
             rw [hb301]
             exact .skips 15 r (.nilS [0] r r (.drop .z (.drop .z (.drop .z (.ret (pret results15 (.t r .n) le276 ⟨false, r, hd⟩))))))
           rw [hb300]
           exact .skips 19 r (.nilS [0] r r (.drop .z (.drop .z (.drop .z (.ret (pret results15 (.t r .n) le276 ⟨false, r, hd⟩))))))
         rw [hb290]
         exact .skips 27 r (.nilS [0] r r (.drop .z (.drop .z (.drop .z (.ret (pret results15 (.t r .n) le276 ⟨false, r, hd⟩))))))
       rw [hb289]
       exact .skips 32 r (.nilS [0] r r (.drop .z (.drop .z (.drop .z (.ret (pret results15 (.t r .n) le276 ⟨false, r, hd⟩))))))
     rw [hb288]
     exact .skips 36 r (.nilS [0] r r (.drop .z (.drop .z (.drop .z (.ret (pret results15 (.t r .n) le276 ⟨false, r, hd⟩))))))
   rw [hb278]
   exact .skips 44 r (.nilS [0] r r (.drop .z (.drop .z (.drop .z (.ret (pret results15 (.t r .n) le276 ⟨false, r, hd⟩))))))
 rw [hb277]
 exact .skips 50 r (.nilS [0] r r (.drop .z (.drop .z (.drop .z (.ret (pret results15 (.t r .n) le276 ⟨false, r, hd⟩))))))

end Go.Proofs.YtdfiinkpdaggeaaGreat
