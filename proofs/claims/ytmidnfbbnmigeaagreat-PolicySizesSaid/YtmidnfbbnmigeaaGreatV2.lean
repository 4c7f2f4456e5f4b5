/- The walks (printed by a program of ours). -/
import Derived.Test.YtmidnfbbnmigeaaGreatV1
namespace Go.Proofs.YtmidnfbbnmigeaaGreat
open Go Go.Fw
set_option linter.unusedVariables false
set_option linter.unusedSimpArgs false
set_option maxRecDepth 8000
set_option maxHeartbeats 1000000
open Tryz
theorem W_ref02_Add {I : IH} {a0 : Int} {a1 : Wide} {a2 : Wide}  {Q : Wide → Prop}  (hd : ref02_Add a0 a1 a2 Q) :
    PFun Tryz.prog 50 [.int .i64 a0, .agg (encWide a1).toArray, .agg (encWide a2).toArray] I (fun I_ v => ∃ r, v = .agg (encWide r).toArray ∧ Q r) := by
 refine Fun.enter func50 r ntmps50 r (.c (.c (.c .n))) fun w0 M => ?_
 refine .seq (.region (.boxA r r r fun b7 => ?_))
 refine .boxA r r r fun b9 => ?_
 refine .allocA zeroValue83 r r fun b11 => ?_
 refine .nilS [6, 5, 4, 0] r r (.seq (.region (.skips 1 r (.nilS [7, 6, 5, 4] r r (.block (.seq ?_))))))
 refine Cod.joinQ (σ := Bool) hd (fun (s17 : Bool) c w => ∃ I_, IH.le I I_ ∧ Ok ⟨35, [], none⟩ [(4, .pointer (some ⟨b7, 0, none⟩)), (5, .pointer (some ⟨b9, 0, none⟩)), (6, .pointer (some ⟨b11, 0, none⟩)), (7, .int .i64 a0), (9, .bool s17)] c ∧ Sym w0 M I I_ [pto b7 (.cells #[.int .i64 a1.Hi, .int .u64 a1.Lo] 83 (0, 0)), pto b9 (.cells #[.int .i64 a2.Hi, .int .u64 a2.Lo] 83 (0, 0)), pto b11 (.cells #[.int .i64 0, .int .u64 0] 83 (0, 0))] w) (fun k18 hd => ?_) ?_
 · skip
   refine .seq (.region (.eq r r r r (.skips 1 r (.nilS [9, 7, 6, 5, 4] r r (.condP r hd (fun hb19 hd => ?_) fun hb19 hd => ?_)))))
   · exact .skip' fun c w ho hs => ⟨(a0 == 1), hd, I, (.refl _), ho.sub ⟨r, r, r, r, r, trivial⟩, hs.pick (.c (.s (.s .z)) (.c (.s .z) (.c .z .n)))⟩
   refine .seq (.region (.eq r r r r (.sub (E' := [(4, _), (5, _), (6, _), (7, _), (11, _)]) ⟨r, r, r, r, r, trivial⟩ (.skips 1 r (.nilS [9, 7, 6, 5, 4] r r (.condP r hd (fun hb20 hd => ?_) fun hb20 hd => ?_))))))
   · exact .skip' fun c w ho hs => ⟨(a0 == 3), hd, I, (.refl _), ho.sub ⟨r, r, r, r, r, trivial⟩, hs.pick (.c (.s (.s .z)) (.c (.s .z) (.c .z .n)))⟩
   exact .region (.eq r r r r (.sub (E' := [(4, _), (5, _), (6, _), (7, _), (12, _)]) ⟨r, r, r, r, r, trivial⟩ (.skips 1 r (.nil' fun c w ho hs => ⟨(a0 == 4), hd, I, (.refl _), ho.sub ⟨r, r, r, r, r, trivial⟩, hs.pick (.c (.s (.s .z)) (.c (.s .z) (.c .z .n)))⟩))))
 rintro s17 hd c w hst
 obtain ⟨I21, hl22, hok, hsym⟩ := hst
 have le23 := IH.le.trans (.refl _) hl22
 refine Cod.at hok hsym (.condP r hd (fun hb24 hd => ?_) fun hb24 hd => ?_)
 · refine .seq (.seq (.region (.loadW isAgg83 sizeOf83 r (.s .z) r r r (.loadW isAgg83 sizeOf83 r .z r r r ?_))))
   have hw26 := W_ref01_Compare (I := I21) hd
   refine .callP call82 r hw26 r r fun v27 hv28 => ?_
   obtain ⟨r25, rfl, hd⟩ := hv28
   refine .lt r r r r (.nilS [16, 6, 5, 4] r r (.condP r hd (fun hb29 hd => ?_) fun hb29 hd => ?_))
   · exact .seq (.region (.loadW isAgg83 sizeOf83 r (.s .z) r r r (.storeA sizeOf83 r r (.s (.s .z)) (.t (.t .nil)) r r (.nilS [6] r r (.drop .z (.drop .z (.ret (pret results50 (.w isAgg83 sizeOf83 r .z r .n) le23 ⟨a2, r, hd⟩))))))))
   exact .skipS [6, 4] r r (.drop (.s .z) (.seq (.region (.loadW isAgg83 sizeOf83 r .z r r r (.storeA sizeOf83 r r (.s .z) (.t (.t .nil)) r r (.nilS [6] r r (.drop .z (.ret (pret results50 (.w isAgg83 sizeOf83 r .z r .n) le23 ⟨a1, r, hd⟩)))))))))
 refine .seq (.region (.eq r r r r (.skips 1 r (.nilS [19, 7, 6, 5, 4] r r (.condP r hd (fun hb30 hd => ?_) fun hb30 hd => ?_)))))
 · refine .seq (.region (.loadW isAgg83 sizeOf83 r .z r r r (.build zeroValue83 underlying83 BI83 .n (by exact trivial) r r (.neV r r (EQ83 a1 ({ Hi := 0, Lo := 0 } : Wide)) (EG83 _ _ _ _ _) r r r (.skips 1 r ?_)))))
   refine splitP hd (fun hb31 hd => ?_) fun hb31 hd => ?_
   · rw [hb31]
     refine .skips 4 r ?_
     have hw33 := W_ref02_truth (I := I21) hd
     refine .callP call83 r hw33 r r fun v34 hv35 => ?_
     obtain ⟨r32, rfl, hd⟩ := hv35
     exact .storeA sizeOf83 r r (.s (.s .z)) (.t (.t .nil)) r r (.nilS [6] r r (.drop .z (.drop .z (.ret (pret results50 (.w isAgg83 sizeOf83 r .z r .n) le23 ⟨r32, r, hd⟩)))))
   rw [hb31]
   refine .gyes r r r (.loadW isAgg83 sizeOf83 r (.s .z) r r r (.gyes r r r (.build zeroValue83 underlying83 BI83 .n (by exact trivial) r r (.gyes r r r (.neV r r (EQ83 a2 ({ Hi := 0, Lo := 0 } : Wide)) (EG83 _ _ _ _ _) r r r (.skips 1 r ?_))))))
   have hw37 := W_ref02_truth (I := I21) hd
   refine .callP call83 r hw37 r r fun v38 hv39 => ?_
   obtain ⟨r36, rfl, hd⟩ := hv39
   exact .storeA sizeOf83 r r (.s (.s .z)) (.t (.t .nil)) r r (.nilS [6] r r (.drop .z (.drop .z (.ret (pret results50 (.w isAgg83 sizeOf83 r .z r .n) le23 ⟨r36, r, hd⟩)))))
 refine .seq (.region (.eq r r r r (.skips 1 r (.nilS [30, 6, 5, 4] r r (.condP r hd (fun hb40 hd => ?_) fun hb40 hd => ?_)))))
 · refine .seq (.region (.loadW isAgg83 sizeOf83 r .z r r r (.loadW isAgg83 sizeOf83 r (.s .z) r r r ?_)))
   have hw42 := W_ref01_Add (I := I21) hd
   refine .callP call80 r hw42 r r fun v43 hv44 => ?_
   obtain ⟨r41, rfl, hd⟩ := hv44
   exact .storeA sizeOf83 r r (.s (.s .z)) (.t (.t .nil)) r r (.nilS [6] r r (.drop .z (.drop .z (.ret (pret results50 (.w isAgg83 sizeOf83 r .z r .n) le23 ⟨r41, r, hd⟩)))))
 exact .seq (.region (.build zeroValue83 underlying83 BI83 .n (by exact trivial) r r (.storeA sizeOf83 r r (.s (.s .z)) (.t (.t .nil)) r r (.nilS [6] r r (.drop .z (.drop .z (.ret (pret results50 (.w isAgg83 sizeOf83 r .z r .n) le23 ⟨({ Hi := 0, Lo := 0 } : Wide), r, hd⟩))))))))

theorem W_ref01_Of {I : IH} {a0 : Int}  {Q : Wide → Prop}  (hd : ref01_Of a0 Q) :
    PFun Tryz.prog 81 [.int .i64 a0] I (fun I_ v => ∃ r, v = .agg (encWide r).toArray ∧ Q r) := by
 refine Fun.enter func81 r ntmps81 r (.c .n) fun w0 M => ?_
 refine .seq (.region (.allocA zeroValue83 r r fun b3 => ?_))
 refine .nilS [2, 0] r r (.seq (.seq (.region (.skips 1 r (.lt r r r r (.nilS [4, 2, 0] r r (.condP r hd (fun hb5 hd => ?_) fun hb5 hd => ?_)))))))
 · exact .seq (.region (.skips 1 r (.conv underlying2 underlying81 r r r (.build zeroValue83 underlying83 BI83 (.c r r r (.t .nil) (.c r r r (.s (.t .nil)) .n)) (by exact ⟨⟨_, _, r, r, r⟩, ⟨⟨_, _, r, r, r⟩, trivial⟩⟩) r r (.storeA sizeOf83 r r .z (.t (.t .nil)) r r (.nilS [2] r r (.ret (pret results81 (.w isAgg83 sizeOf83 r .z r .n) (.refl _) ⟨({ Hi := (-1), Lo := IntKind.wrap .u64 (a0) } : Wide), r, hd⟩))))))))
 exact .skipS [2, 0] r r (.seq (.region (.skips 1 r (.conv underlying2 underlying81 r r r (.build zeroValue83 underlying83 BI83 (.c r r r (.s (.t .nil)) .n) (by exact ⟨⟨_, _, r, r, r⟩, trivial⟩) r r (.storeA sizeOf83 r r .z (.t (.t .nil)) r r (.nilS [2] r r (.ret (pret results81 (.w isAgg83 sizeOf83 r .z r .n) (.refl _) ⟨({ Hi := 0, Lo := IntKind.wrap .u64 (a0) } : Wide), r, hd⟩)))))))))

theorem W_ref05_below {I : IH} {a0 : Edge} {a1 : Edge}  {Q : Bool → Prop}  (hd : ref05_below a0 a1 Q) :
    PFun Tryz.prog 102 [.agg (encEdge a0).toArray, .agg (encEdge a1).toArray] I (fun I_ v => ∃ r, v = .bool r ∧ Q r) := by
 refine Fun.enter func102 r ntmps102 r (.c (.c .n)) fun w0 M => ?_
 refine .seq (.region (.boxA r r r fun b5 => ?_))
 refine .boxA r r r fun b7 => ?_
 refine .skips 1 r (.nilS [3, 2] r r (.seq (.region (.fieldAddr underlying116 r sizeOf3 r (o := 0) r r r (.load1 isAgg3 r (.s .z) r r r (.fieldAddr underlying116 r sizeOf3 r (o := 0) r r r (.load1 isAgg3 r .z r r r (.lt r r r r (.skips 1 r ?_)))))))))
 refine splitP hd (fun hb9 hd => ?_) fun hb9 hd => ?_
 · rw [hb9]
   refine .skips 6 r (.gnoU r r r r (.gnoU r r r r (.gnoU r r r r (.gnoU r r r r (.gnoU r r r r (.skips 3 r (.nilS [4] r r (.drop .z (.drop .z ?_)))))))))
   exact .ret (pret results102 (.t r .n) (.refl _) ⟨true, r, hd⟩)
 rw [hb9]
 refine .gyes r r r (.fieldAddr underlying116 r sizeOf3 r (o := 0) r r r (.gyes r r r (.load1 isAgg3 r (.s .z) r r r (.gyes r r r (.fieldAddr underlying116 r sizeOf3 r (o := 0) r r r (.gyes r r r (.load1 isAgg3 r .z r r r (.gyes r r r (.eq r r r r (.gyes r r r (.move r r r ?_)))))))))))
 refine splitP hd (fun hb10 hd => ?_) fun hb10 hd => ?_
 · rw [hb10]
   refine .gyes r r r (.fieldAddr underlying116 r sizeOf3 r (o := 1) r r r (.gyes r r r (.load1 isAgg3 r (.s .z) r r r (.gyes r r r (.fieldAddr underlying116 r sizeOf3 r (o := 1) r r r (.gyes r r r (.load1 isAgg3 r .z r r r (.gyes r r r (.lt r r r r (.gyes r r r (.pickT r r r r r (.skips 2 r (.nilS [4] r r (.drop .z (.drop .z ?_)))))))))))))))
   exact .ret (pret results102 (.t r .n) (.refl _) ⟨(decide (a0.To < a1.To)), r, hd⟩)
 rw [hb10]
 exact .skips 5 r (.gyes r r r (.pickF r r r r r (.skips 2 r (.nilS [4] r r (.drop .z (.drop .z (.ret (pret results102 (.t r .n) (.refl _) ⟨false, r, hd⟩))))))))

theorem W_ref01_Narrow {I : IH} {a0 : Wide}  {Q : (Int × Bool) → Prop}  (hd : ref01_Narrow a0 Q) :
    PFun Tryz.prog 103 [.agg (encWide a0).toArray] I (fun I_ v => ∃ r, v = .tuple #[.int .i64 r.1, .bool r.2] ∧ Q r) := by
 refine Fun.enter func103 r ntmps103 r (.c .n) fun w0 M => ?_
 refine .seq (.region (.boxA r r r fun b3 => ?_))
 refine .skips 2 r (.nilS [1] r r (.seq (.region (.fieldAddr underlying83 r sizeOf81 r (o := 1) r r r (.load1 isAgg81 r .z r r r (.conv underlying81 underlying2 r r r (.skips 1 r (.nilS [4, 1] r r (.seq ?_)))))))))
 refine .seq (.region (.fieldAddr underlying83 r sizeOf2 r (o := 0) r r r (.load1 isAgg2 r .z r r r (.eq r r r r (.skips 1 r ?_)))))
 refine splitP hd (fun hb5 hd => ?_) fun hb5 hd => ?_
 · rw [hb5]
   refine .gyes r r r (.move r r r (.gyes r r r (.ge r r r r (.skips 2 r ?_))))
   refine splitP hd (fun hb6 hd => ?_) fun hb6 hd => ?_
   · rw [hb6]
     refine .skips 4 r (.gnoU r r r r (.gnoU r r r r (.skips 2 r (.nilS [23, 4] r r (.drop .z (.condKT r r (.seq (.region (.skips 3 r ?_)))))))))
     exact .nilS [3, 2] r r (.ret (pret results103 (.t r (.t r .n)) (.refl _) ⟨(w64 (a0.Lo), true), r, hd⟩))
   rw [hb6]
   refine .gyes r r r (.fieldAddr underlying83 r sizeOf2 r (o := 0) r r r (.gyes r r r (.load1 isAgg2 r .z r r r (.gyes r r r (.eq r r r r (.gyes r r r (.move r r r ?_)))))))
   refine splitP hd (fun hb7 hd => ?_) fun hb7 hd => ?_
   · rw [hb7]
     refine .gyes r r r (.move r r r (.gyes r r r (.lt r r r r (.gyes r r r (.pickT r r r r r (.skips 1 r (.nilS [23, 4] r r (.drop .z (.condP r hd (fun hb8 hd => ?_) fun hb8 hd => ?_)))))))))
     · exact .seq (.region (.skips 3 r (.nilS [3, 2] r r (.ret (pret results103 (.t r (.t r .n)) (.refl _) ⟨(w64 (a0.Lo), true), r, hd⟩)))))
     exact .skipS [] r r (.seq (.region (.skips 2 r (.nilS [3, 2] r r (.ret (pret results103 (.t r (.t r .n)) (.refl _) ⟨(0, false), r, hd⟩))))))
   rw [hb7]
   refine .skips 2 r (.gyes r r r (.pickF r r r r r (.skips 1 r (.nilS [23, 4] r r (.drop .z (.condKF r r (.skipS [] r r (.seq (.region (.skips 2 r ?_))))))))))
   exact .nilS [3, 2] r r (.ret (pret results103 (.t r (.t r .n)) (.refl _) ⟨(0, false), r, hd⟩))
 rw [hb5]
 refine .skips 4 r (.gyes r r r (.fieldAddr underlying83 r sizeOf2 r (o := 0) r r r (.gyes r r r (.load1 isAgg2 r .z r r r (.gyes r r r (.eq r r r r (.gyes r r r (.move r r r ?_))))))))
 refine splitP hd (fun hb9 hd => ?_) fun hb9 hd => ?_
 · rw [hb9]
   refine .gyes r r r (.move r r r (.gyes r r r (.lt r r r r (.gyes r r r (.pickT r r r r r (.skips 1 r (.nilS [23, 4] r r (.drop .z (.condP r hd (fun hb10 hd => ?_) fun hb10 hd => ?_)))))))))
   · exact .seq (.region (.skips 3 r (.nilS [3, 2] r r (.ret (pret results103 (.t r (.t r .n)) (.refl _) ⟨(w64 (a0.Lo), true), r, hd⟩)))))
   exact .skipS [] r r (.seq (.region (.skips 2 r (.nilS [3, 2] r r (.ret (pret results103 (.t r (.t r .n)) (.refl _) ⟨(0, false), r, hd⟩))))))
 rw [hb9]
 refine .skips 2 r (.gyes r r r (.pickF r r r r r (.skips 1 r (.nilS [23, 4] r r (.drop .z (.condKF r r (.skipS [] r r (.seq (.region (.skips 2 r ?_))))))))))
 exact .nilS [3, 2] r r (.ret (pret results103 (.t r (.t r .n)) (.refl _) ⟨(0, false), r, hd⟩))

theorem W_ref05_Combine {I : IH} {a0 : Int} {a1 : List Edge} {p1 : Option Addr} {c2 : Nat} {Q : ((List Edge) × Int) → Prop} (R3 : RepSl eEdge I p1 c2 a1) (hd : ref05_Combine a0 a1 Q) :
    PFun Tryz.prog 67 [.int .i64 a0, .slice p1 a1.length c2] I (fun I_ v => ∃ r p4 c5, v = .tuple #[.slice p4 r.1.length c5, .int .i64 r.2] ∧ RepSl eEdge I_ p4 c5 r.1 ∧ Q r) := by
 refine Fun.enter func67 r ntmps67 r (.c (.c .n)) fun w0 M => ?_
 refine .seq (.region (.skips 2 r (.nilS [1, 0] r r (.seq (.seq (.region (.skips 1 r ?_)))))))
 have hw13 := W_ref02_Is (I := I) hd
 refine .callP call46 r hw13 r r fun v14 hv15 => ?_
 obtain ⟨r12, rfl, hd⟩ := hv15
 refine .not r r r (.nilS [17, 1, 0] r r (.condP r hd (fun hb16 hd => ?_) fun hb16 hd => ?_))
 · exact .seq (.region (.skips 2 r (.nilS [5, 4] r r (.ret (pret results67 (.t r (.t r .n)) (.refl _) ⟨(([] : List Edge), 8), _, _, r, (.nil _ _ _), hd⟩)))))
 refine .skipS [1, 0] r r (.seq (.region (.skips 1 r (.nilS [6, 1, 0] r r (.seq (.region (.skips 1 r (.nilS [7, 6, 1, 0] r r (.seq ?_)))))))))
 refine .seq (.region (.skips 1 r (.nilS [8, 7, 6, 1, 0] r r (.block (.own0 eEdge 116 (.own0 eWide 83 (.loop hd (fun (s : (List Edge) × (List Wide) × Int) c w => match s with | (s2689, s2693, s2697) => ∃ I_ p2690 c2691 p2694 c2695, IH.le I I_ ∧ Ok ⟨145, [], none⟩ [(0, .int .i64 a0), (1, .slice p1 a1.length c2), (6, .slice p2690 s2689.length c2691), (7, .slice p2694 s2693.length c2695), (8, .int .i64 s2697)] c ∧ Sym w0 M I I_ [OwnSl eEdge 116 p2690 c2691 s2689, OwnSl eWide 83 p2694 c2695 s2693] w) (fun c w ho hs => ⟨I, _, _, _, _, (.refl _), ho.sub ⟨r, r, r, r, r, trivial⟩, hs.pick (.c (.s .z) (.c .z .n))⟩) ?_)))))))
 rintro ⟨s2689, s2693, s2697⟩ next2700 hd c w hst
 obtain ⟨I2701, p2690, c2691, p2694, c2695, hl2702, hok, hsym⟩ := hst
 have le2703 := IH.le.trans (.refl _) hl2702
 replace R3 := R3.mono hl2702
 refine Cod.at hok hsym (.seq (.seq (.region (.skips 2 r (.len underlying114 r r r r (.lt r r r r (.nilS [21, 8, 7, 6, 1, 0] r r (.condP r hd (fun hb2705 hd => ?_) fun hb2705 hd => ?_))))))))
 · refine .skipS [8, 7, 6, 1, 0] r r (.seq (.block (.seq (.region (.skips 1 r (.nilS [9, 8, 7, 6, 1, 0] r r (.seq ?_)))))))
   refine Cod.joinQ (σ := Int) hd (fun (s2856 : Int) c w => ∃ I_, IH.le I2701 I_ ∧ Ok ⟨145, [], none⟩ [(0, .int .i64 a0), (1, .slice p1 a1.length c2), (6, .slice p2690 s2689.length c2691), (7, .slice p2694 s2693.length c2695), (8, .int .i64 s2697), (9, .int .i64 s2856)] c ∧ Sym w0 M I I_ [OwnSl eEdge 116 p2690 c2691 s2689, OwnSl eWide 83 p2694 c2695 s2693] w) (fun k2857 hd => ?_) ?_
   · skip
     refine .block (.loop hd (fun (s2905 : Int) c w => ∃ I_, IH.le I2701 I_ ∧ Ok ⟨145, [], none⟩ [(0, .int .i64 a0), (1, .slice p1 a1.length c2), (6, .slice p2690 s2689.length c2691), (7, .slice p2694 s2693.length c2695), (8, .int .i64 s2697), (9, .int .i64 s2905)] c ∧ Sym w0 M I I_ [OwnSl eEdge 116 p2690 c2691 s2689, OwnSl eWide 83 p2694 c2695 s2693] w) (fun c w ho hs => ⟨I2701, (.refl _), ho.sub ⟨r, r, r, r, r, r, trivial⟩, hs.pick (.c .z (.c .z .n))⟩) ?_)
     rintro s2905 next2906 hd c w hst
     obtain ⟨I2907, hl2908, hok, hsym⟩ := hst
     have le2909 := IH.le.trans le2703 hl2908
     have le2910 := IH.le.trans (.refl _) hl2908
     replace R3 := R3.mono hl2908
     refine Cod.at hok hsym (.seq (.seq (.ownF .z fun hne2911 => ?_)))
     refine .ownF (.s .z) fun hne2912 => ?_
     refine .draw [some 0, some 1, some 2, some 3, some 4, some 5, some 6, some 7, some 8, some 9, some 10, some 11, some 12, some 13, some 14] 15 MX (by kernel_rfl) (by kernel_rfl) (by kernel_rfl) (by kernel_rfl) (by kernel_rfl) (by kernel_rfl) (by kernel_rfl) (fun ex => (OwnSl eEdge 116 p2690 c2691 s2689) :: (OwnSl eWide 83 p2694 c2695 s2693) :: ex) (fun _ _ => (.s (.s .z))) r (.fs [[], []] r (by kernel_rfl) (.f [1] r (by kernel_rfl) r r (fun ex => .len underlying114 r r r r .mk) (.f [0, 2] r (by kernel_rfl) r r (fun ex => .lt r r r r .mk) (.fs [[3]] r (by kernel_rfl) ?_))))
     refine splitP hd (fun hb2913 hd => ?_) fun hb2913 hd => ?_
     · refine .f [4] r (by kernel_rfl) r r (fun ex => .gyes r r hb2913 (.move r r r .mk)) (.f [4] r (by kernel_rfl) r r (fun ex => .gyes r r hb2913 (.move r r r .mk)) ?_)
       obtain ⟨h2914, x2915, hx2916, hd⟩ := hd
       obtain ⟨b2917, e2918⟩ := hne2911 (idx_ne hx2916)
       cases e2918
       refine .f [5, 6, 4] r (by kernel_rfl) r r (fun ex => .gyes r r hb2913 (.ixa0 underlying114 sizeOf116 r r h2914 (idx_lt hx2916 h2914) r r .mk)) (.f [7, 4] r (by kernel_rfl) r r (fun ex => .gyes r r hb2913 (.loA (j := 0) isAgg116 sizeOf116 .z hx2916 r r (.t (.t (.t .nil))) r r r .mk)) (.f [4] r (by kernel_rfl) r r (fun ex => .gyes r r hb2913 (.move r r r .mk)) (.f [4] r (by kernel_rfl) r r (fun ex => .gyes r r hb2913 (.move r r r .mk)) ?_)))
       obtain ⟨h2919, x2920, hx2921, hd⟩ := hd
       obtain ⟨b2922, o2923, cs2924, e2925, hC2926, hr2927⟩ := R3.2 _ _ hx2921
       cases hr2927
       refine .f [9, 10, 4] r (by kernel_rfl) r r (fun ex => .gyes r r hb2913 (.ixa underlying114 sizeOf116 r e2925 r h2919 (idx_lt hx2921 h2919) r r .mk)) (.f [11, 4] r (by kernel_rfl) r r (fun ex => .gyes r r hb2913 (.ldW isAgg116 sizeOf116 hC2926 r r r r .mk)) (.w [] [[], [12], [11, 12], [11, 12], [], [8], [7, 8], [7, 8], [], [4], [3, 4], [2, 3, 4], [3, 4]] [8, 12, 4, 4] r (by kernel_rfl) (by kernel_rfl) (by kernel_rfl) ((dropE_kept r r)) (.inr (dropE_kept r r)) fun ex => ?_))
       have hw2929 := W_ref05_below (I := I2907) hd
       refine .gyes r r hb2913 (.callP call102 r hw2929 r r fun v2930 hv2931 => ?_)
       obtain ⟨r2928, rfl, hd⟩ := hv2931
       refine .some (fun ex => (OwnSl eEdge 116 (some ⟨b2917, 0, none⟩) c2691 s2689) :: (OwnSl eWide 83 p2694 c2695 s2693) :: ex) r (fun _ _ => (.s (.s .z))) r trivial (.f [4, 13] r (by kernel_rfl) r r (fun ex => .pickT r hb2913 r r r .mk) (.e 15 (by kernel_rfl) (by kernel_rfl) (by kernel_rfl) (.nilS [38, 9, 8, 7, 6, 1, 0] r r (.condP r hd (fun hb2932 hd => ?_) fun hb2932 hd => ?_))))
       · exact .skipS [9, 8, 7, 6, 1, 0] r r (.block (.region (.skips 1 r (.add r r r r (.sub (E' := [(0, _), (1, _), (6, _), (7, _), (8, _), (39, _), (40, _)]) ⟨r, r, r, r, r, r, r, trivial⟩ (.skips 1 r (.nil' fun c w ho hs => ⟨(w64 (s2905 + 1)), hd, I2907, le2910, ho.sub ⟨r, r, r, r, r, r, trivial⟩, hs.pick (.c .z (.c .z .n))⟩)))))))
       exact .exit fun c w ho hs => ⟨s2905, hd, I2907, le2910, ho.sub ⟨r, r, r, r, r, r, trivial⟩, hs.pick (.c .z (.c .z .n))⟩
     refine .f [4] r (by kernel_rfl) r r (fun ex => .gno r r hb2913 r r .mk) (.f [4] r (by kernel_rfl) r r (fun ex => .gno r r hb2913 r r .mk) (.f [5, 6, 4] r (by kernel_rfl) r r (fun ex => .gno r r hb2913 r r .mk) (.f [7, 4] r (by kernel_rfl) r r (fun ex => .gno r r hb2913 r r .mk) (.f [4] r (by kernel_rfl) r r (fun ex => .gno r r hb2913 r r .mk) (.f [4] r (by kernel_rfl) r r (fun ex => .gno r r hb2913 r r .mk) (.f [9, 10, 4] r (by kernel_rfl) r r (fun ex => .gno r r hb2913 r r .mk) (.f [11, 4] r (by kernel_rfl) r r (fun ex => .gno r r hb2913 r r .mk) (.f [8, 12, 4, 4] r (by kernel_rfl) r r (fun ex => .gno r r hb2913 r r .mk) (.f [4, 13] r (by kernel_rfl) r r (fun ex => .pickF r hb2913 r r r .mk) ?_)))))))))
     exact .e 15 (by kernel_rfl) (by kernel_rfl) (by kernel_rfl) (.nilS [38, 9, 8, 7, 6, 1, 0] r r (.condKF r r (.exit fun c w ho hs => ⟨s2905, hd, I2907, le2910, ho.sub ⟨r, r, r, r, r, r, trivial⟩, hs.pick (.c .z (.c .z .n))⟩)))
   rintro s2856 hd c w hst
   obtain ⟨I2933, hl2934, hok, hsym⟩ := hst
   have le2935 := IH.le.trans le2703 hl2934
   have le2936 := IH.le.trans (.refl _) hl2934
   replace R3 := R3.mono hl2934
   refine Cod.at hok hsym (.seq (.region (.skips 2 r ?_)))
   obtain ⟨h2952, x2953, hx2954, hd⟩ := hd
   obtain ⟨b2955, o2956, cs2957, e2958, hC2959, hr2960⟩ := R3.2 _ _ hx2954
   cases hr2960
   refine .ixa underlying114 sizeOf116 r e2958 r h2952 (idx_lt hx2954 h2952) r r (.fieldAddr underlying116 r sizeOf2 r (o := o2956 + s2697.toNat * 3 + 2) r r r (.ld1 (j := 2) isAgg2 hC2959 r r r r r ?_))
   have hw2962 := W_ref01_Of (I := I2933) hd
   refine .callP call81 r hw2962 r r fun v2963 hv2964 => ?_
   obtain ⟨r2961, rfl, hd⟩ := hv2964
   refine .allocA zeroValue83 r r fun b2965 => ?_
   refine .storeA sizeOf83 r r .z (.t (.t .nil)) r r (.nilS [10, 9, 8, 7, 6, 1, 0] r r (.seq (.seq ?_)))
   refine Cod.joinQ (σ := Bool) hd (fun (s3094 : Bool) c w => ∃ I_, IH.le I2933 I_ ∧ Ok ⟨145, [], none⟩ [(0, .int .i64 a0), (1, .slice p1 a1.length c2), (6, .slice p2690 s2689.length c2691), (7, .slice p2694 s2693.length c2695), (8, .int .i64 s2697), (9, .int .i64 s2856), (10, .pointer (some ⟨b2965, 0, none⟩)), (62, .bool s3094)] c ∧ Sym w0 M I I_ [OwnSl eEdge 116 p2690 c2691 s2689, OwnSl eWide 83 p2694 c2695 s2693, pto b2965 (.cells #[.int .i64 r2961.Hi, .int .u64 r2961.Lo] 83 (0, 0))] w) (fun k3095 hd => ?_) ?_
   · skip
     refine .ownF (.s .z) fun hne3096 => ?_
     refine .ownF (.s (.s .z)) fun hne3097 => ?_
     refine .draw [some 0, some 1, some 2, some 3, some 4, some 5, some 6, some 7, some 8, some 9, some 10, some 11, some 12, some 13, some 14, some 15] 16 MX (by kernel_rfl) (by kernel_rfl) (by kernel_rfl) (by kernel_rfl) (by kernel_rfl) (by kernel_rfl) (by kernel_rfl) (fun ex => (pto b2965 (.cells #[.int .i64 r2961.Hi, .int .u64 r2961.Lo] 83 (0, 0))) :: (OwnSl eEdge 116 p2690 c2691 s2689) :: (OwnSl eWide 83 p2694 c2695 s2693) :: ex) (fun _ _ => (.s (.s (.s .z)))) r (.fs [[], []] r (by kernel_rfl) (.f [1] r (by kernel_rfl) r r (fun ex => .len underlying114 r r r r .mk) (.f [0, 2] r (by kernel_rfl) r r (fun ex => .lt r r r r .mk) (.fs [[3]] r (by kernel_rfl) ?_))))
     refine splitP hd (fun hb3098 hd => ?_) fun hb3098 hd => ?_
     · refine .f [4] r (by kernel_rfl) r r (fun ex => .gyes r r hb3098 (.move r r r .mk)) (.f [4] r (by kernel_rfl) r r (fun ex => .gyes r r hb3098 (.move r r r .mk)) ?_)
       obtain ⟨h3099, x3100, hx3101, hd⟩ := hd
       obtain ⟨b3102, o3103, cs3104, e3105, hC3106, hr3107⟩ := R3.2 _ _ hx3101
       cases hr3107
       refine .f [5, 6, 4] r (by kernel_rfl) r r (fun ex => .gyes r r hb3098 (.ixa underlying114 sizeOf116 r e3105 r h3099 (idx_lt hx3101 h3099) r r .mk)) (.f [7, 4] r (by kernel_rfl) r r (fun ex => .gyes r r hb3098 (.ldW isAgg116 sizeOf116 hC3106 r r r r .mk)) (.f [4] r (by kernel_rfl) r r (fun ex => .gyes r r hb3098 (.move r r r .mk)) (.f [4] r (by kernel_rfl) r r (fun ex => .gyes r r hb3098 (.move r r r .mk)) ?_)))
       obtain ⟨h3108, x3109, hx3110, hd⟩ := hd
       obtain ⟨b3111, e3112⟩ := hne3096 (idx_ne hx3110)
       cases e3112
       refine .f [9, 10, 4] r (by kernel_rfl) r r (fun ex => .gyes r r hb3098 (.ixa0 underlying114 sizeOf116 r r h3108 (idx_lt hx3110 h3108) r r .mk)) (.f [11, 4] r (by kernel_rfl) r r (fun ex => .gyes r r hb3098 (.loA (j := 0) isAgg116 sizeOf116 (.s .z) hx3110 r r (.t (.t (.t .nil))) r r r .mk)) (.w [] [[], [12], [11, 12], [11, 12], [], [8], [7, 8], [7, 8], [], [4], [3, 4], [2, 3, 4], [3, 4]] [8, 12, 4, 4] r (by kernel_rfl) (by kernel_rfl) (by kernel_rfl) ((dropE_kept r r)) (.inr (dropE_kept r r)) fun ex => ?_))
       have hw3114 := W_ref05_below (I := I2933) hd
       refine .gyes r r hb3098 (.callP call102 r hw3114 r r fun v3115 hv3116 => ?_)
       obtain ⟨r3113, rfl, hd⟩ := hv3116
       exact .some (fun ex => (pto b2965 (.cells #[.int .i64 r2961.Hi, .int .u64 r2961.Lo] 83 (0, 0))) :: (OwnSl eEdge 116 (some ⟨b3111, 0, none⟩) c2691 s2689) :: (OwnSl eWide 83 p2694 c2695 s2693) :: ex) r (fun _ _ => (.s (.s (.s .z)))) r trivial (.f [13, 4] r (by kernel_rfl) r r (fun ex => .gyes r r hb3098 (.not r r r .mk)) (.f [4, 14] r (by kernel_rfl) r r (fun ex => .pickT r hb3098 r r r .mk) (.e 16 (by kernel_rfl) (by kernel_rfl) (by kernel_rfl) (.nil' fun c w ho hs => ⟨(!r3113), hd, I2933, (.refl _), ho.sub ⟨r, r, r, r, r, r, r, r, trivial⟩, hs.pick (.c (.s .z) (.c (.s .z) (.c .z .n)))⟩))))
     refine .f [4] r (by kernel_rfl) r r (fun ex => .gno r r hb3098 r r .mk) (.f [4] r (by kernel_rfl) r r (fun ex => .gno r r hb3098 r r .mk) (.f [5, 6, 4] r (by kernel_rfl) r r (fun ex => .gno r r hb3098 r r .mk) (.f [7, 4] r (by kernel_rfl) r r (fun ex => .gno r r hb3098 r r .mk) (.f [4] r (by kernel_rfl) r r (fun ex => .gno r r hb3098 r r .mk) (.f [4] r (by kernel_rfl) r r (fun ex => .gno r r hb3098 r r .mk) (.f [9, 10, 4] r (by kernel_rfl) r r (fun ex => .gno r r hb3098 r r .mk) (.f [11, 4] r (by kernel_rfl) r r (fun ex => .gno r r hb3098 r r .mk) (.f [8, 12, 4, 4] r (by kernel_rfl) r r (fun ex => .gno r r hb3098 r r .mk) (.f [13, 4] r (by kernel_rfl) r r (fun ex => .gno r r hb3098 r r .mk) ?_)))))))))
     exact .f [4, 14] r (by kernel_rfl) r r (fun ex => .pickF r hb3098 r r r .mk) (.e 16 (by kernel_rfl) (by kernel_rfl) (by kernel_rfl) (.nil' fun c w ho hs => ⟨false, hd, I2933, (.refl _), ho.sub ⟨r, r, r, r, r, r, r, r, trivial⟩, hs.pick (.c (.s .z) (.c (.s .z) (.c .z .n)))⟩))
   rintro s3094 hd c w hst
   obtain ⟨I3117, hl3118, hok, hsym⟩ := hst
   have le3119 := IH.le.trans le2935 hl3118
   have le3120 := IH.le.trans le2936 hl3118
   have le3121 := IH.le.trans (.refl _) hl3118
   replace R3 := R3.mono hl3118
   refine Cod.at hok hsym (.condP r hd (fun hb3122 hd => ?_) fun hb3122 hd => ?_)
   · refine .seq (.ownF .z fun hne3123 => ?_)
     refine .ownF (.s .z) fun hne3124 => ?_
     refine .draw [some 0, some 1, some 2, some 3, some 4, some 5, some 6, some 7, some 8] 9 MX (by kernel_rfl) (by kernel_rfl) (by kernel_rfl) (by kernel_rfl) (by kernel_rfl) (by kernel_rfl) (by kernel_rfl) (fun ex => (OwnSl eEdge 116 p2690 c2691 s2689) :: (OwnSl eWide 83 p2694 c2695 s2693) :: (pto b2965 (.cells #[.int .i64 r2961.Hi, .int .u64 r2961.Lo] 83 (0, 0))) :: ex) (fun _ _ => (.s (.s (.s .z)))) r (.fs [[], [], [], [], []] r (by kernel_rfl) ?_)
     obtain ⟨h3125, x3126, hx3127, hd⟩ := hd
     obtain ⟨b3128, e3129⟩ := hne3124 (idx_ne hx3127)
     cases e3129
     refine .f [3, 4] r (by kernel_rfl) r r (fun ex => .ixa0 underlying148 sizeOf83 r r h3125 (idx_lt hx3127 h3125) r r .mk) (.f [5] r (by kernel_rfl) r r (fun ex => .loA (j := 0) isAgg83 sizeOf83 (.s .z) hx3127 r r (.t (.t .nil)) r r r .mk) (.f [] r (by kernel_rfl) r r (fun ex => .loadW isAgg83 sizeOf83 r (.s (.s .z)) r r r .mk) (.w [1, 0] [[], [], [6], [5, 6], [5, 6], []] [2, 6, 7] r (by kernel_rfl) (by kernel_rfl) (by kernel_rfl) ((dropE_kept r r)) (.inr (dropE_kept r r)) fun ex => ?_)))
     have hw3131 := W_ref02_Add (I := I3117) hd
     refine .callP call50 r hw3131 r r fun v3132 hv3133 => ?_
     obtain ⟨r3130, rfl, hd⟩ := hv3133
     refine .some (fun ex => (OwnSl eEdge 116 p2690 c2691 s2689) :: (OwnSl eWide 83 (some ⟨b3128, 0, none⟩) c2695 s2693) :: (pto b2965 (.cells #[.int .i64 r2961.Hi, .int .u64 r2961.Lo] 83 (0, 0))) :: ex) r (fun _ _ => (.s (.s (.s .z)))) r (.ccs [[], []] r r (by kernel_rfl) trivial) (.e 9 (by kernel_rfl) (by kernel_rfl) (by kernel_rfl) ?_)
     obtain ⟨h3134, x3135, hx3136, hd⟩ := hd
     refine .ixa0 underlying148 sizeOf83 r r h3134 (idx_lt hx3136 h3134) r r (.stOA (j := 0) (v' := r3130) sizeOf83 (.s .z) hx3136 r r r (.t (.t .nil)) r r (.sub (E' := [(0, _), (1, _), (6, _), (7, .slice (some ⟨b3128, 0, none⟩) (s2693.set s2856.toNat r3130).length c2695), (8, _), (9, _), (10, _), (62, _), (63, .slice (some ⟨b3128, 0, none⟩) (s2693.set s2856.toNat r3130).length c2695), (64, _), (65, _), (66, .slice (some ⟨b3128, 0, none⟩) (s2693.set s2856.toNat r3130).length c2695), (67, _), (68, _), (69, _), (70, _), (71, _), (72, _)]) ⟨r, r, r, (by simp only [List.length_set]; rfl), r, r, r, r, (by simp only [List.length_set]; rfl), r, r, (by simp only [List.length_set]; rfl), r, r, r, r, r, r, trivial⟩ (.nilS [8, 7, 6, 1, 0] r r (.drop (.s (.s .z)) (.exitS [8, 7, 6, 1, 0] r r (.region (.skips 1 r (.add r r r r (.sub (E' := [(0, _), (1, _), (6, _), (7, _), (22, _), (23, _)]) ⟨r, r, r, r, r, r, trivial⟩ ?_)))))))))
     exact .skips 1 r (.nil' fun c w ho hs => ⟨(s2689, (s2693.set s2856.toNat r3130), w64 (s2697 + 1)), hd, I3117, _, _, _, _, le3119, ho.sub ⟨r, r, r, r, r, trivial⟩, hs.pick (.c .z (.c .z .n))⟩)
   refine .skipS [10, 9, 8, 7, 6, 1, 0] r r (.seq (.region (.skips 1 r (.build zeroValue116 underlying116 BI116 .n (by exact trivial) r r (.buildSlice 1 underlying114 sizeOf116 zeroValue116 r r (.c r r r .n) r r fun b3143 => ?_)))))
   obtain ⟨hl3145, hd⟩ := hd
   refine .append (ys := [({ From := 0, To := 0, W := 0 } : Edge)]) 24 (.s .z) underlying114 underlying114 IN116 r r r r r r r r r (.box .z (.one r) r) hl3145 r r fun p3146 c3147 => ?_
   refine .sub (E' := [(0, _), (1, _), (7, _), (8, _), (9, _), (10, _), (73, _), (74, _), (75, _), (76, _)]) ⟨r, r, r, r, r, r, r, r, r, r, trivial⟩ (.skips 1 r (.nilS [6, 10, 9, 8, 7, 1, 0] r r (.drop (.s .z) (.seq (.region (.skips 1 r (.build zeroValue83 underlying83 BI83 .n (by exact trivial) r r (.buildSlice 1 underlying148 sizeOf83 zeroValue83 r r (.c r r r .n) r r fun b3155 => ?_))))))))
   obtain ⟨hl3157, hd⟩ := hd
   refine .append (ys := [({ Hi := 0, Lo := 0 } : Wide)]) 16 (.s (.s .z)) underlying148 underlying148 IN83 r r r r r r r r r (.box .z (.one r) r) hl3157 r r fun p3158 c3159 => ?_
   refine .sub (E' := [(0, _), (1, _), (8, _), (9, _), (10, _), (6, _), (77, _), (78, _), (79, _), (80, _)]) ⟨r, r, r, r, r, r, r, r, r, r, trivial⟩ (.skips 1 r (.nilS [7, 6, 10, 9, 8, 1, 0] r r (.drop (.s .z) (.seq (.seq (.region (.skips 1 r (.len underlying114 r r r r (.sub' r r r r ?_)))))))))
   refine .skips 1 r (.nilS [11, 7, 6, 10, 9, 8, 1, 0] r r (.block (.loop hd (fun (s : (List Edge) × (List Wide) × Int) c w => match s with | (s3321, s3325, s3329) => ∃ I_ p3322 c3323 p3326 c3327, IH.le I3117 I_ ∧ Ok ⟨145, [], none⟩ [(0, .int .i64 a0), (1, .slice p1 a1.length c2), (6, .slice p3322 s3321.length c3323), (7, .slice p3326 s3325.length c3327), (8, .int .i64 s2697), (9, .int .i64 s2856), (10, .pointer (some ⟨b2965, 0, none⟩)), (11, .int .i64 s3329)] c ∧ Sym w0 M I I_ [OwnSl eEdge 116 p3322 c3323 s3321, OwnSl eWide 83 p3326 c3327 s3325, pto b2965 (.cells #[.int .i64 r2961.Hi, .int .u64 r2961.Lo] 83 (0, 0))] w) (fun c w ho hs => ⟨I3117, _, _, _, _, (.refl _), ho.sub ⟨r, r, r, r, r, r, r, r, trivial⟩, hs.pick (.c (.s .z) (.c .z (.c .z .n)))⟩) ?_)))
   rintro ⟨s3321, s3325, s3329⟩ next3330 hd c w hst
   obtain ⟨I3331, p3322, c3323, p3326, c3327, hl3332, hok, hsym⟩ := hst
   have le3333 := IH.le.trans le3119 hl3332
   have le3334 := IH.le.trans le3120 hl3332
   have le3335 := IH.le.trans le3121 hl3332
   have le3336 := IH.le.trans (.refl _) hl3332
   replace R3 := R3.mono hl3332
   refine Cod.at hok hsym (.seq (.seq (.region (.skips 2 r (.gt r r r r (.nilS [86, 11, 10, 9, 8, 7, 6, 1, 0] r r (.condP r hd (fun hb3338 hd => ?_) fun hb3338 hd => ?_)))))))
   · refine .skipS [11, 10, 9, 8, 7, 6, 1, 0] r r (.seq (.block (.seq (.region (.skips 4 r (.sub' r r r r ?_))))))
     obtain ⟨h3339, x3340, hx3341, hd⟩ := hd
     refine .ownNe .z (idx_ne hx3341) fun b3342 e3343 => ?_
     cases e3343
     refine .ixa0 underlying114 sizeOf116 r r h3339 (idx_lt hx3341 h3339) r r (.loA (j := 0) isAgg116 sizeOf116 .z hx3341 r r (.t (.t (.t .nil))) r r r ?_)
     obtain ⟨h3344, x3345, hx3346, hd⟩ := hd
     refine .ixa0 underlying114 sizeOf116 r r h3344 (idx_lt hx3346 h3344) r r (.stOA (j := 0) (v' := x3340) sizeOf116 .z hx3346 r r r (.t (.t (.t .nil))) r r (.sub (E' := [(0, _), (1, _), (6, .slice (some ⟨b3342, 0, none⟩) (s3321.set s3329.toNat x3340).length c3323), (7, _), (8, _), (9, _), (10, _), (11, _), (89, .slice (some ⟨b3342, 0, none⟩) (s3321.set s3329.toNat x3340).length c3323), (90, _), (91, .slice (some ⟨b3342, 0, none⟩) (s3321.set s3329.toNat x3340).length c3323), (92, _), (93, _), (94, _), (95, _), (96, _)]) ⟨r, r, (by simp only [List.length_set]; rfl), r, r, r, r, r, (by simp only [List.length_set]; rfl), r, (by simp only [List.length_set]; rfl), r, r, r, r, r, trivial⟩ (.nilS [11, 10, 9, 8, 7, 6, 1, 0] r r (.region (.skips 4 r (.sub' r r r r ?_))))))
     obtain ⟨h3347, x3348, hx3349, hd⟩ := hd
     refine .ownNe (.s .z) (idx_ne hx3349) fun b3350 e3351 => ?_
     cases e3351
     refine .ixa0 underlying148 sizeOf83 r r h3347 (idx_lt hx3349 h3347) r r (.loA (j := 0) isAgg83 sizeOf83 (.s .z) hx3349 r r (.t (.t .nil)) r r r ?_)
     obtain ⟨h3352, x3353, hx3354, hd⟩ := hd
     exact .ixa0 underlying148 sizeOf83 r r h3352 (idx_lt hx3354 h3352) r r (.stOA (j := 0) (v' := x3348) sizeOf83 (.s .z) hx3354 r r r (.t (.t .nil)) r r (.sub (E' := [(0, _), (1, _), (6, _), (7, .slice (some ⟨b3350, 0, none⟩) (s3325.set s3329.toNat x3348).length c3327), (8, _), (9, _), (10, _), (11, _), (97, .slice (some ⟨b3350, 0, none⟩) (s3325.set s3329.toNat x3348).length c3327), (98, _), (99, .slice (some ⟨b3350, 0, none⟩) (s3325.set s3329.toNat x3348).length c3327), (100, _), (101, _), (102, _), (103, _), (104, _)]) ⟨r, r, r, (by simp only [List.length_set]; rfl), r, r, r, r, (by simp only [List.length_set]; rfl), r, (by simp only [List.length_set]; rfl), r, r, r, r, r, trivial⟩ (.nilS [11, 10, 9, 8, 7, 6, 1, 0] r r (.region (.skips 1 r (.sub' r r r r (.sub (E' := [(0, _), (1, _), (6, _), (7, _), (8, _), (9, _), (10, _), (87, _), (88, _)]) ⟨r, r, r, r, r, r, r, r, r, trivial⟩ (.skips 1 r (.nil' fun c w ho hs => ⟨((s3321.set s3329.toNat x3340), (s3325.set s3329.toNat x3348), w64 (s3329 - 1)), hd, I3331, _, _, _, _, le3336, ho.sub ⟨r, r, r, r, r, r, r, r, trivial⟩, hs.pick (.c .z (.c .z (.c .z .n)))⟩)))))))))
   refine .exitS [10, 9, 8, 7, 6, 1, 0] r r (.seq (.ownF .z fun hne3355 => ?_))
   refine .ownF (.s .z) fun hne3356 => ?_
   refine .draw [some 0, some 1, some 2, some 3, some 4, some 5, some 6, some 7, some 8, some 9, some 10, some 11, some 12] 13 MX (by kernel_rfl) (by kernel_rfl) (by kernel_rfl) (by kernel_rfl) (by kernel_rfl) (by kernel_rfl) (by kernel_rfl) (fun ex => (OwnSl eEdge 116 p3322 c3323 s3321) :: (OwnSl eWide 83 p3326 c3327 s3325) :: (pto b2965 (.cells #[.int .i64 r2961.Hi, .int .u64 r2961.Lo] 83 (0, 0))) :: ex) (fun _ _ => (.s (.s (.s .z)))) r (.fs [[], [], [], []] r (by kernel_rfl) ?_)
   obtain ⟨h3357, x3358, hx3359, hd⟩ := hd
   obtain ⟨b3360, o3361, cs3362, e3363, hC3364, hr3365⟩ := R3.2 _ _ hx3359
   cases hr3365
   refine .f [2, 3] r (by kernel_rfl) r r (fun ex => .ixa underlying114 sizeOf116 r e3363 r h3357 (idx_lt hx3359 h3357) r r .mk) (.f [4] r (by kernel_rfl) r r (fun ex => .fieldAddr underlying116 r sizeOf3 r (o := o3361 + s2697.toNat * 3) r r r .mk) (.f [5] r (by kernel_rfl) r r (fun ex => .ld1 (j := 0) isAgg3 hC3364 r r r r r .mk) (.fs [[], []] r (by kernel_rfl) ?_)))
   obtain ⟨h3366, x3367, hx3368, hd⟩ := hd
   obtain ⟨b3369, o3370, cs3371, e3372, hC3373, hr3374⟩ := R3.2 _ _ hx3368
   cases hr3374
   refine .f [7, 8] r (by kernel_rfl) r r (fun ex => .ixa underlying114 sizeOf116 r e3372 r h3366 (idx_lt hx3368 h3366) r r .mk) (.f [9] r (by kernel_rfl) r r (fun ex => .fieldAddr underlying116 r sizeOf3 r (o := o3370 + s2697.toNat * 3 + 1) r r r .mk) (.f [10] r (by kernel_rfl) r r (fun ex => .ld1 (j := 1) isAgg3 hC3373 r r r r r .mk) (.f [6, 11] r (by kernel_rfl) r r (fun ex => .build zeroValue116 underlying116 BI116 (.c r r r (.t .nil) (.c r r r (.s (.t .nil)) .n)) (by exact ⟨⟨_, _, r, r, r⟩, ⟨⟨_, _, r, r, r⟩, trivial⟩⟩) r r .mk) (.e 13 (by kernel_rfl) (by kernel_rfl) (by kernel_rfl) ?_))))
   obtain ⟨h3375, x3376, hx3377, hd⟩ := hd
   obtain ⟨b3378, e3379⟩ := hne3355 (idx_ne hx3377)
   cases e3379
   refine .ixa0 underlying114 sizeOf116 r r h3375 (idx_lt hx3377 h3375) r r (.stOA (j := 0) (v' := ({ From := x3358.From, To := x3367.To, W := 0 } : Edge)) sizeOf116 .z hx3377 r r r (.t (.t (.t .nil))) r r (.sub (E' := [(0, _), (1, _), (6, .slice (some ⟨b3378, 0, none⟩) (s3321.set s2856.toNat ({ From := x3358.From, To := x3367.To, W := 0 } : Edge)).length c3323), (7, _), (8, _), (9, _), (10, _), (105, .slice (some ⟨b3378, 0, none⟩) (s3321.set s2856.toNat ({ From := x3358.From, To := x3367.To, W := 0 } : Edge)).length c3323), (106, _), (107, _), (108, _), (109, _), (110, _), (111, _), (112, _), (113, _), (114, _), (115, _), (116, _), (117, _), (118, _)]) ⟨r, r, (by simp only [List.length_set]; rfl), r, r, r, r, (by simp only [List.length_set]; rfl), r, r, r, r, r, r, r, r, r, r, r, r, r, trivial⟩ (.nilS [10, 9, 8, 7, 6, 1, 0] r r (.region (.skips 2 r (.loadW isAgg83 sizeOf83 r (.s (.s .z)) r r r ?_))))))
   obtain ⟨h3380, x3381, hx3382, hd⟩ := hd
   obtain ⟨b3383, e3384⟩ := hne3356 (idx_ne hx3382)
   cases e3384
   refine .ixa0 underlying148 sizeOf83 r r h3380 (idx_lt hx3382 h3380) r r (.stOA (j := 0) (v' := r2961) sizeOf83 (.s .z) hx3382 r r r (.t (.t .nil)) r r (.sub (E' := [(0, _), (1, _), (6, _), (7, .slice (some ⟨b3383, 0, none⟩) (s3325.set s2856.toNat r2961).length c3327), (8, _), (9, _), (10, _), (119, .slice (some ⟨b3383, 0, none⟩) (s3325.set s2856.toNat r2961).length c3327), (120, _), (121, _), (122, _)]) ⟨r, r, r, (by simp only [List.length_set]; rfl), r, r, r, (by simp only [List.length_set]; rfl), r, r, r, trivial⟩ (.nilS [8, 7, 6, 1, 0] r r (.drop (.s (.s .z)) (.region (.skips 1 r (.add r r r r (.sub (E' := [(0, _), (1, _), (6, _), (7, _), (22, _), (23, _)]) ⟨r, r, r, r, r, r, trivial⟩ (.skips 1 r ?_)))))))))
   exact .nil' fun c w ho hs => ⟨((s3321.set s2856.toNat ({ From := x3358.From, To := x3367.To, W := 0 } : Edge)), (s3325.set s2856.toNat r2961), w64 (s2697 + 1)), hd, I3331, _, _, _, _, le3333, ho.sub ⟨r, r, r, r, r, trivial⟩, hs.pick (.c .z (.c .z .n))⟩
 refine .exitS [7, 6] r r (.seq (.seq (.region (.skips 1 r (.nilS [12, 7, 6] r r (.block (.loop hd (fun (s : (List Edge) × Int) c w => match s with | (s3452, s3456) => ∃ I_ p3453 c3454, IH.le I2701 I_ ∧ Ok ⟨145, [], none⟩ [(6, .slice p3453 s3452.length c3454), (7, .slice p2694 s2693.length c2695), (12, .int .i64 s3456)] c ∧ Sym w0 M I I_ [OwnSl eEdge 116 p3453 c3454 s3452, OwnSl eWide 83 p2694 c2695 s2693] w) (fun c w ho hs => ⟨I2701, _, _, (.refl _), ho.sub ⟨r, r, r, trivial⟩, hs.pick (.c .z (.c .z .n))⟩) ?_)))))))
 rintro ⟨s3452, s3456⟩ next3457 hd c w hst
 obtain ⟨I3458, p3453, c3454, hl3459, hok, hsym⟩ := hst
 have le3460 := IH.le.trans le2703 hl3459
 have le3461 := IH.le.trans (.refl _) hl3459
 refine Cod.at hok hsym (.seq (.seq (.region (.skips 2 r (.len underlying114 r r r r (.lt r r r r (.nilS [126, 12, 7, 6] r r (.condP r hd (fun hb3463 hd => ?_) fun hb3463 hd => ?_))))))))
 · refine .skipS [12, 7, 6] r r (.seq (.block (.seq (.region (.skips 2 r ?_)))))
   obtain ⟨h3473, x3474, hx3475, hd⟩ := hd
   refine .ownNe (.s .z) (idx_ne hx3475) fun b3476 e3477 => ?_
   cases e3477
   refine .ixa0 underlying148 sizeOf83 r r h3473 (idx_lt hx3475 h3473) r r (.loA (j := 0) isAgg83 sizeOf83 (.s .z) hx3475 r r (.t (.t .nil)) r r r ?_)
   have hw3479 := W_ref01_Narrow (I := I3458) hd
   refine .callP call103 r hw3479 r r fun v3480 hv3481 => ?_
   obtain ⟨r3478, rfl, hd⟩ := hv3481
   refine .skips 1 r (.extract r r r r (.extract r r r r (.skips 2 r (.nilS [14, 13, 12, 7, 6] r r (.seq (.seq (.region (.skips 1 r (.not r r r ?_)))))))))
   refine .nilS [138, 13, 12, 7, 6] r r (.condP r hd (fun hb3482 hd => ?_) fun hb3482 hd => ?_)
   · exact .seq (.region (.skips 2 r (.nilS [5, 4] r r (.drop .z (.drop .z (.ret (pret results67 (.t r (.t r .n)) le3460 ⟨(([] : List Edge), 12), _, _, r, (.nil _ _ _), hd⟩)))))))
   refine .skipS [13, 12, 7, 6] r r (.region (.skips 3 r ?_))
   obtain ⟨h3483, x3484, hx3485, hd⟩ := hd
   refine .ownNe .z (idx_ne hx3485) fun b3486 e3487 => ?_
   cases e3487
   refine .ixa0 underlying114 sizeOf116 r r h3483 (idx_lt hx3485 h3483) r r (.fieldAddr underlying116 r sizeOf2 r (o := s3456.toNat * 3 + 2) r r r (.stO1 (j := 2) (v' := ({ From := x3484.From, To := x3484.To, W := r3478.1 } : Edge)) sizeOf2 .z hx3485 r r r (.s (.s (.t .nil))) r (.sub (E' := [(6, .slice (some ⟨b3486, 0, none⟩) (s3452.set s3456.toNat ({ From := x3484.From, To := x3484.To, W := r3478.1 } : Edge)).length c3454), (7, _), (12, _), (13, _), (139, .slice (some ⟨b3486, 0, none⟩) (s3452.set s3456.toNat ({ From := x3484.From, To := x3484.To, W := r3478.1 } : Edge)).length c3454), (140, _), (141, _), (142, _), (143, _)]) ⟨(by simp only [List.length_set]; rfl), r, r, r, (by simp only [List.length_set]; rfl), r, r, r, r, trivial⟩ (.nilS [12, 7, 6] r r (.region (.skips 1 r (.add r r r r (.sub (E' := [(6, _), (7, _), (127, _), (128, _)]) ⟨r, r, r, r, trivial⟩ (.skips 1 r ?_)))))))))
   exact .nil' fun c w ho hs => ⟨((s3452.set s3456.toNat ({ From := x3484.From, To := x3484.To, W := r3478.1 } : Edge)), w64 (s3456 + 1)), hd, I3458, _, _, le3461, ho.sub ⟨r, r, r, trivial⟩, hs.pick (.c .z (.c .z .n))⟩
 refine .exitS [6] r r (.drop (.s .z) (.seq (.region (.skips 3 r (.nilS [5, 4] r r (.pub .z fun I3488 hl3489 R3490 => ?_))))))
 have le3491 := IH.le.trans le3460 hl3489
 have le3492 := IH.le.trans le3461 hl3489
 exact .ret (pret results67 (.t r (.t r .n)) le3491 ⟨(s3452, 0), _, _, r, R3490, hd⟩)

theorem W_ref07_Of {I : IH} {a0 : Int} {a1 : Int} {a2 : Int} {a3 : List Triple} {p1 : Option Addr} {c2 : Nat} {Q : (Rows × Int) → Prop} (R3 : RepSl eTriple I p1 c2 a3) (hd : ref07_Of a0 a1 a2 a3 Q) :
    PFun Tryz.prog 32 [.int .i64 a0, .int .i64 a1, .int .i64 a2, .slice p1 a3.length c2] I (fun I_ v => ∃ r p4 c5 p7 c8 p10 c11, v = .tuple #[.agg #[.int .i64 r.1.Rows, .int .i64 r.1.Cols, .slice p4 r.1.Start.length c5, .slice p7 r.1.Col.length c8, .slice p10 r.1.Val.length c11], .int .i64 r.2] ∧ RepSl eI64 I_ p4 c5 r.1.Start ∧ RepSl eI64 I_ p7 c8 r.1.Col ∧ RepSl eI64 I_ p10 c11 r.1.Val ∧ Q r) := by
 refine Fun.enter func32 r ntmps32 r (.c (.c (.c (.c .n)))) fun w0 M => ?_
 refine .seq (.region (.allocA zeroValue39 r r fun b15 => ?_))
 refine .skips 1 r (.nilS [8, 3, 2, 1, 0] r r (.seq (.seq (.region (.skips 1 r ?_)))))
 have hw23 := W_ref02_Is (I := I) hd
 refine .callP call46 r hw23 r r fun v24 hv25 => ?_
 obtain ⟨r22, rfl, hd⟩ := hv25
 refine .not r r r (.nilS [17, 8, 3, 2, 1, 0] r r (.condP r hd (fun hb26 hd => ?_) fun hb26 hd => ?_))
 · exact .seq (.region (.build zeroValue39 underlying39 BI39 .n (by exact trivial) r r (.storeA sizeOf39 r r .z (.t (.t (.t (.t (.t .nil))))) r r (.skips 1 r (.nilS [9, 8] r r (.ret (pret results32 (.w isAgg39 sizeOf39 r .z r (.t r .n)) (.refl _) ⟨(({ Rows := 0, Cols := 0, Start := ([] : List Int), Col := ([] : List Int), Val := ([] : List Int) } : Rows), 8), _, _, _, _, _, _, r, (.nil _ _ _), (.nil _ _ _), (.nil _ _ _), hd⟩)))))))
 refine .skipS [8, 3, 2, 1, 0] r r (.seq (.seq (.region (.skips 1 r (.lt r r r r (.skips 1 r ?_))))))
 refine splitP hd (fun hb31 hd => ?_) fun hb31 hd => ?_
 · rw [hb31]
   exact .skips 11 r (.nilS [32, 8, 3, 2, 1, 0] r r (.condKT r r (.seq (.region (.build zeroValue39 underlying39 BI39 .n (by exact trivial) r r (.storeA sizeOf39 r r .z (.t (.t (.t (.t (.t .nil))))) r r (.skips 1 r (.nilS [9, 8] r r (.ret (pret results32 (.w isAgg39 sizeOf39 r .z r (.t r .n)) (.refl _) ⟨(({ Rows := 0, Cols := 0, Start := ([] : List Int), Col := ([] : List Int), Val := ([] : List Int) } : Rows), 3), _, _, _, _, _, _, r, (.nil _ _ _), (.nil _ _ _), (.nil _ _ _), hd⟩))))))))))
 rw [hb31]
 refine .gyes r r r (.move r r r (.gyes r r r (.gt r r r r (.skips 2 r ?_))))
 refine splitP hd (fun hb32 hd => ?_) fun hb32 hd => ?_
 · rw [hb32]
   exact .skips 7 r (.nilS [32, 8, 3, 2, 1, 0] r r (.condKT r r (.seq (.region (.build zeroValue39 underlying39 BI39 .n (by exact trivial) r r (.storeA sizeOf39 r r .z (.t (.t (.t (.t (.t .nil))))) r r (.skips 1 r (.nilS [9, 8] r r (.ret (pret results32 (.w isAgg39 sizeOf39 r .z r (.t r .n)) (.refl _) ⟨(({ Rows := 0, Cols := 0, Start := ([] : List Int), Col := ([] : List Int), Val := ([] : List Int) } : Rows), 3), _, _, _, _, _, _, r, (.nil _ _ _), (.nil _ _ _), (.nil _ _ _), hd⟩))))))))))
 rw [hb32]
 refine .gyes r r r (.move r r r (.gyes r r r (.lt r r r r (.skips 2 r ?_))))
 refine splitP hd (fun hb33 hd => ?_) fun hb33 hd => ?_
 · rw [hb33]
   exact .skips 3 r (.nilS [32, 8, 3, 2, 1, 0] r r (.condKT r r (.seq (.region (.build zeroValue39 underlying39 BI39 .n (by exact trivial) r r (.storeA sizeOf39 r r .z (.t (.t (.t (.t (.t .nil))))) r r (.skips 1 r (.nilS [9, 8] r r (.ret (pret results32 (.w isAgg39 sizeOf39 r .z r (.t r .n)) (.refl _) ⟨(({ Rows := 0, Cols := 0, Start := ([] : List Int), Col := ([] : List Int), Val := ([] : List Int) } : Rows), 3), _, _, _, _, _, _, r, (.nil _ _ _), (.nil _ _ _), (.nil _ _ _), hd⟩))))))))))
 rw [hb33]
 refine .gyes r r r (.move r r r (.gyes r r r (.gt r r r r (.skips 1 r (.nilS [32, 8, 3, 2, 1, 0] r r (.condP r hd (fun hb34 hd => ?_) fun hb34 hd => ?_))))))
 · exact .seq (.region (.build zeroValue39 underlying39 BI39 .n (by exact trivial) r r (.storeA sizeOf39 r r .z (.t (.t (.t (.t (.t .nil))))) r r (.skips 1 r (.nilS [9, 8] r r (.ret (pret results32 (.w isAgg39 sizeOf39 r .z r (.t r .n)) (.refl _) ⟨(({ Rows := 0, Cols := 0, Start := ([] : List Int), Col := ([] : List Int), Val := ([] : List Int) } : Rows), 3), _, _, _, _, _, _, r, (.nil _ _ _), (.nil _ _ _), (.nil _ _ _), hd⟩)))))))
 refine .skipS [8, 3, 2, 1, 0] r r (.seq (.seq (.region (.skips 1 r (.len underlying31 r r r r (.gt r r r r (.nilS [36, 8, 3, 2, 1, 0] r r (.condP r hd (fun hb36 hd => ?_) fun hb36 hd => ?_))))))))
 · exact .seq (.region (.build zeroValue39 underlying39 BI39 .n (by exact trivial) r r (.storeA sizeOf39 r r .z (.t (.t (.t (.t (.t .nil))))) r r (.skips 1 r (.nilS [9, 8] r r (.ret (pret results32 (.w isAgg39 sizeOf39 r .z r (.t r .n)) (.refl _) ⟨(({ Rows := 0, Cols := 0, Start := ([] : List Int), Col := ([] : List Int), Val := ([] : List Int) } : Rows), 5), _, _, _, _, _, _, r, (.nil _ _ _), (.nil _ _ _), (.nil _ _ _), hd⟩)))))))
 refine .skipS [8, 3, 2, 1, 0] r r (.seq (.region (.skips 1 r (.nilS [10, 8, 3, 2, 1, 0] r r (.seq (.seq (.region (.skips 1 r (.nilS [11, 10, 8, 3, 2, 1, 0] r r ?_)))))))))
 refine .block (.own0 eEdge 116 (.loop hd (fun (s : (List Edge) × Int) c w => match s with | (s657, s661) => ∃ I_ p658 c659, IH.le I I_ ∧ Ok ⟨135, [], none⟩ [(0, .int .i64 a0), (1, .int .i64 a1), (2, .int .i64 a2), (3, .slice p1 a3.length c2), (8, .pointer (some ⟨b15, 0, none⟩)), (10, .slice p658 s657.length c659), (11, .int .i64 s661)] c ∧ Sym w0 M I I_ [pto b15 (.cells #[.int .i64 0, .int .i64 0, .slice none 0 0, .slice none 0 0, .slice none 0 0] 39 (0, 0)), OwnSl eEdge 116 p658 c659 s657] w) (fun c w ho hs => ⟨I, _, _, (.refl _), ho.sub ⟨r, r, r, r, r, r, r, trivial⟩, hs.pick (.c (.s .z) (.c .z .n))⟩) ?_))
 rintro ⟨s657, s661⟩ next663 hd c w hst
 obtain ⟨I664, p658, c659, hl665, hok, hsym⟩ := hst
 have le666 := IH.le.trans (.refl _) hl665
 replace R3 := R3.mono hl665
 refine Cod.at hok hsym (.seq (.seq (.region (.skips 2 r (.len underlying31 r r r r (.lt r r r r (.nilS [41, 11, 10, 8, 3, 2, 1, 0] r r (.condP r hd (fun hb668 hd => ?_) fun hb668 hd => ?_))))))))
 · refine .skipS [11, 10, 8, 3, 2, 1, 0] r r (.seq (.block (.seq (.seq (.region (.skips 2 r ?_))))))
   obtain ⟨h709, x710, hx711, hd⟩ := hd
   obtain ⟨b712, o713, cs714, e715, hC716, hr717⟩ := R3.2 _ _ hx711
   cases hr717
   refine .ixa underlying31 sizeOf78 r e715 r h709 (idx_lt hx711 h709) r r (.fieldAddr underlying78 r sizeOf3 r (o := o713 + s661.toNat * 3) r r r (.ld1 (j := 0) isAgg3 hC716 r r r r r (.lt r r r r (.skips 1 r ?_))))
   refine splitP hd (fun hb718 hd => ?_) fun hb718 hd => ?_
   · rw [hb718]
     refine .skips 25 r (.nilS [75, 11, 10, 8, 3, 2, 1, 0] r r (.condKT r r (.seq (.region (.build zeroValue39 underlying39 BI39 .n (by exact trivial) r r (.storeA sizeOf39 r r .z (.t (.t (.t (.t (.t .nil))))) r r (.skips 1 r (.nilS [9, 8] r r (.drop (.s .z) ?_)))))))))
     exact .ret (pret results32 (.w isAgg39 sizeOf39 r .z r (.t r .n)) le666 ⟨(({ Rows := 0, Cols := 0, Start := ([] : List Int), Col := ([] : List Int), Val := ([] : List Int) } : Rows), 3), _, _, _, _, _, _, r, (.nil _ _ _), (.nil _ _ _), (.nil _ _ _), hd⟩)
   rw [hb718]
   refine .gyes r r r (.move r r r (.gyes r r r (.move r r r ?_)))
   obtain ⟨h719, x720, hx721, hd⟩ := hd
   obtain ⟨b722, o723, cs724, e725, hC726, hr727⟩ := R3.2 _ _ hx721
   cases hr727
   refine .gyes r r r (.ixa underlying31 sizeOf78 r e725 r h719 (idx_lt hx721 h719) r r (.gyes r r r (.fieldAddr underlying78 r sizeOf3 r (o := o723 + s661.toNat * 3) r r r (.gyes r r r (.ld1 (j := 0) isAgg3 hC726 r r r r r (.gyes r r r (.move r r r (.gyes r r r (.ge r r r r (.skips 2 r ?_))))))))))
   refine splitP hd (fun hb728 hd => ?_) fun hb728 hd => ?_
   · rw [hb728]
     refine .skips 16 r (.nilS [75, 11, 10, 8, 3, 2, 1, 0] r r (.condKT r r (.seq (.region (.build zeroValue39 underlying39 BI39 .n (by exact trivial) r r (.storeA sizeOf39 r r .z (.t (.t (.t (.t (.t .nil))))) r r (.skips 1 r (.nilS [9, 8] r r (.drop (.s .z) ?_)))))))))
     exact .ret (pret results32 (.w isAgg39 sizeOf39 r .z r (.t r .n)) le666 ⟨(({ Rows := 0, Cols := 0, Start := ([] : List Int), Col := ([] : List Int), Val := ([] : List Int) } : Rows), 3), _, _, _, _, _, _, r, (.nil _ _ _), (.nil _ _ _), (.nil _ _ _), hd⟩)
   rw [hb728]
   refine .gyes r r r (.move r r r (.gyes r r r (.move r r r ?_)))
   obtain ⟨h729, x730, hx731, hd⟩ := hd
   obtain ⟨b732, o733, cs734, e735, hC736, hr737⟩ := R3.2 _ _ hx731
   cases hr737
   refine .gyes r r r (.ixa underlying31 sizeOf78 r e735 r h729 (idx_lt hx731 h729) r r (.gyes r r r (.fieldAddr underlying78 r sizeOf3 r (o := o733 + s661.toNat * 3 + 1) r r r (.gyes r r r (.ld1 (j := 1) isAgg3 hC736 r r r r r (.gyes r r r (.lt r r r r (.skips 2 r ?_))))))))
   refine splitP hd (fun hb738 hd => ?_) fun hb738 hd => ?_
   · rw [hb738]
     refine .skips 8 r (.nilS [75, 11, 10, 8, 3, 2, 1, 0] r r (.condKT r r (.seq (.region (.build zeroValue39 underlying39 BI39 .n (by exact trivial) r r (.storeA sizeOf39 r r .z (.t (.t (.t (.t (.t .nil))))) r r (.skips 1 r (.nilS [9, 8] r r (.drop (.s .z) ?_)))))))))
     exact .ret (pret results32 (.w isAgg39 sizeOf39 r .z r (.t r .n)) le666 ⟨(({ Rows := 0, Cols := 0, Start := ([] : List Int), Col := ([] : List Int), Val := ([] : List Int) } : Rows), 3), _, _, _, _, _, _, r, (.nil _ _ _), (.nil _ _ _), (.nil _ _ _), hd⟩)
   rw [hb738]
   refine .gyes r r r (.move r r r (.gyes r r r (.move r r r ?_)))
   obtain ⟨h739, x740, hx741, hd⟩ := hd
   obtain ⟨b742, o743, cs744, e745, hC746, hr747⟩ := R3.2 _ _ hx741
   cases hr747
   refine .gyes r r r (.ixa underlying31 sizeOf78 r e745 r h739 (idx_lt hx741 h739) r r (.gyes r r r (.fieldAddr underlying78 r sizeOf3 r (o := o743 + s661.toNat * 3 + 1) r r r (.gyes r r r (.ld1 (j := 1) isAgg3 hC746 r r r r r (.gyes r r r (.move r r r (.gyes r r r (.ge r r r r (.skips 1 r (.nilS [75, 11, 10, 8, 3, 2, 1, 0] r r (.condP r hd (fun hb748 hd => ?_) fun hb748 hd => ?_))))))))))))
   · exact .seq (.region (.build zeroValue39 underlying39 BI39 .n (by exact trivial) r r (.storeA sizeOf39 r r .z (.t (.t (.t (.t (.t .nil))))) r r (.skips 1 r (.nilS [9, 8] r r (.drop (.s .z) (.ret (pret results32 (.w isAgg39 sizeOf39 r .z r (.t r .n)) le666 ⟨(({ Rows := 0, Cols := 0, Start := ([] : List Int), Col := ([] : List Int), Val := ([] : List Int) } : Rows), 3), _, _, _, _, _, _, r, (.nil _ _ _), (.nil _ _ _), (.nil _ _ _), hd⟩))))))))
   refine .skipS [11, 10, 8, 3, 2, 1, 0] r r (.ownF (.s .z) fun hne749 => ?_)
   refine .draw [some 0, some 1, some 2, some 3, some 4, some 5, some 6, some 7, some 8, some 9, some 10, some 11, some 12, some 13, some 14, some 15, some 16, some 17, some 18] 19 MX (by kernel_rfl) (by kernel_rfl) (by kernel_rfl) (by kernel_rfl) (by kernel_rfl) (by kernel_rfl) (by kernel_rfl) (fun ex => (pto b15 (.cells #[.int .i64 0, .int .i64 0, .slice none 0 0, .slice none 0 0, .slice none 0 0] 39 (0, 0))) :: (OwnSl eEdge 116 p658 c659 s657) :: ex) (fun _ _ => (.s (.s .z))) r (.fs [[], [], []] r (by kernel_rfl) ?_)
   obtain ⟨h750, x751, hx752, hd⟩ := hd
   obtain ⟨b753, o754, cs755, e756, hC757, hr758⟩ := R3.2 _ _ hx752
   cases hr758
   refine .f [1, 2] r (by kernel_rfl) r r (fun ex => .ixa underlying31 sizeOf78 r e756 r h750 (idx_lt hx752 h750) r r .mk) (.f [3] r (by kernel_rfl) r r (fun ex => .fieldAddr underlying78 r sizeOf3 r (o := o754 + s661.toNat * 3) r r r .mk) (.f [4] r (by kernel_rfl) r r (fun ex => .ld1 (j := 0) isAgg3 hC757 r r r r r .mk) (.fs [[], []] r (by kernel_rfl) ?_)))
   obtain ⟨h759, x760, hx761, hd⟩ := hd
   obtain ⟨b762, o763, cs764, e765, hC766, hr767⟩ := R3.2 _ _ hx761
   cases hr767
   refine .f [6, 7] r (by kernel_rfl) r r (fun ex => .ixa underlying31 sizeOf78 r e765 r h759 (idx_lt hx761 h759) r r .mk) (.f [8] r (by kernel_rfl) r r (fun ex => .fieldAddr underlying78 r sizeOf3 r (o := o763 + s661.toNat * 3 + 1) r r r .mk) (.f [9] r (by kernel_rfl) r r (fun ex => .ld1 (j := 1) isAgg3 hC766 r r r r r .mk) (.fs [[], []] r (by kernel_rfl) ?_)))
   obtain ⟨h768, x769, hx770, hd⟩ := hd
   obtain ⟨b771, o772, cs773, e774, hC775, hr776⟩ := R3.2 _ _ hx770
   cases hr776
   refine .f [11, 12] r (by kernel_rfl) r r (fun ex => .ixa underlying31 sizeOf78 r e774 r h768 (idx_lt hx770 h768) r r .mk) (.f [13] r (by kernel_rfl) r r (fun ex => .fieldAddr underlying78 r sizeOf2 r (o := o772 + s661.toNat * 3 + 2) r r r .mk) (.f [14] r (by kernel_rfl) r r (fun ex => .ld1 (j := 2) isAgg2 hC775 r r r r r .mk) (.f [5, 10, 15] r (by kernel_rfl) r r (fun ex => .build zeroValue116 underlying116 BI116 (.c r r r (.t .nil) (.c r r r (.s (.t .nil)) (.c r r r (.s (.s (.t .nil))) .n))) (by exact ⟨⟨_, _, r, r, r⟩, ⟨⟨_, _, r, r, r⟩, ⟨⟨_, _, r, r, r⟩, trivial⟩⟩⟩) r r .mk) (.w [0] [[], [16], [15, 16], [14, 15, 16], [13, 14, 15, 16], [13, 14, 15, 16], [16], [10, 16], [9, 10, 16], [8, 9, 10, 16], [8, 9, 10, 16], [16], [5, 16], [4, 5, 16], [3, 4, 5, 16], [3, 4, 5, 16]] [16] r (by kernel_rfl) (by kernel_rfl) (by kernel_rfl) ((dropE_kept r r)) (.inr (dropE_kept r r)) fun ex => ?_))))
   refine .buildSlice 1 underlying114 sizeOf116 zeroValue116 r r (.c r r r .n) r r fun b777 => ?_
   refine .some (fun ex => (pto b777 (.cells #[.int .i64 x751.Row, .int .i64 x760.Col, .int .i64 x769.Val] 116 (0, 0))) :: (pto b15 (.cells #[.int .i64 0, .int .i64 0, .slice none 0 0, .slice none 0 0, .slice none 0 0] 39 (0, 0))) :: (OwnSl eEdge 116 p658 c659 s657) :: ex) r (fun _ _ => (.s (.s (.s .z)))) r (.ccs [[]] r r (by kernel_rfl) trivial) (.w [] [[]] [0, 17] r (by kernel_rfl) (by kernel_rfl) (by kernel_rfl) ((dropE_kept r r)) (.inr (dropE_kept r r)) fun ex => ?_)
   obtain ⟨hl779, hd⟩ := hd
   refine .append (ys := [({ From := x751.Row, To := x760.Col, W := x769.Val } : Edge)]) 24 (.s (.s .z)) underlying114 underlying114 IN116 r r r r r r r r r (.box .z (.one r) r) hl779 r r fun p780 c781 => ?_
   refine .some (fun ex => (OwnSl eEdge 116 p780 c781 (s657 ++ ([({ From := x751.Row, To := x760.Col, W := x769.Val } : Edge)]))) :: (pto b777 (.cells #[.int .i64 x751.Row, .int .i64 x760.Col, .int .i64 x769.Val] 116 (0, 0))) :: (pto b15 (.cells #[.int .i64 0, .int .i64 0, .slice none 0 0, .slice none 0 0, .slice none 0 0] 39 (0, 0))) :: ex) r (fun _ _ => (.s (.s (.s .z)))) r trivial (.e 19 (by kernel_rfl) (by kernel_rfl) (by kernel_rfl) (.sub (E' := [(0, _), (1, _), (2, _), (3, _), (8, _), (11, _), (77, _), (78, _), (79, _), (80, _), (81, _), (82, _), (83, _), (84, _), (85, _), (86, _), (87, _), (88, _), (89, _), (90, _), (91, _), (92, _), (93, _), (94, _), (95, _)]) ⟨r, r, r, r, r, r, r, r, r, r, r, r, r, r, r, r, r, r, r, r, r, r, r, r, r, trivial⟩ (.skips 1 r (.nilS [10, 11, 8, 3, 2, 1, 0] r r (.drop (.s .z) (.region (.skips 1 r (.add r r r r (.sub (E' := [(0, _), (1, _), (2, _), (3, _), (8, _), (10, _), (42, _), (43, _)]) ⟨r, r, r, r, r, r, r, r, trivial⟩ ?_)))))))))
   exact .skips 1 r (.nil' fun c w ho hs => ⟨((s657 ++ ([({ From := x751.Row, To := x760.Col, W := x769.Val } : Edge)])), w64 (s661 + 1)), hd, I664, _, _, le666, ho.sub ⟨r, r, r, r, r, r, r, trivial⟩, hs.pick (.c (.s .z) (.c .z .n))⟩)
 refine .exitS [10, 8, 2, 1, 0] r r (.seq (.region (.skips 2 r (.pub (.s .z) fun I798 hl799 R800 => ?_))))
 have le801 := IH.le.trans le666 hl799
 have hw811 := W_ref05_Combine (I := I798) R800 hd
 refine .call call67 r hw811 r r fun v806 I803 hl804 hv805 => ?_
 obtain ⟨r802, p808, c809, rfl, R810, hd⟩ := hv805
 have le812 := IH.le.trans le801 hl804
 replace R800 := R800.mono hl804
 refine .skips 1 r (.extract r r r r (.extract r r r r (.sub (E' := [(0, _), (1, _), (2, _), (8, _), (97, _), (98, _), (99, _), (96, _), (100, _), (101, _)]) ⟨r, r, r, r, r, r, r, r, r, r, trivial⟩ (.skips 2 r (.nilS [12, 10, 8, 2, 1] r r (.seq (.seq (.region (.skips 1 r ?_)))))))))
 refine .ne r r r r (.nilS [103, 12, 10, 8, 2, 1] r r (.condP r hd (fun hb814 hd => ?_) fun hb814 hd => ?_))
 · exact .seq (.region (.build zeroValue39 underlying39 BI39 .n (by exact trivial) r r (.skips 1 r (.storeA sizeOf39 r r .z (.t (.t (.t (.t (.t .nil))))) r r (.skips 1 r (.nilS [9, 8] r r (.ret (pret results32 (.w isAgg39 sizeOf39 r .z r (.t r .n)) le812 ⟨(({ Rows := 0, Cols := 0, Start := ([] : List Int), Col := ([] : List Int), Val := ([] : List Int) } : Rows), r802.2), _, _, _, _, _, _, r, (.nil _ _ _), (.nil _ _ _), (.nil _ _ _), hd⟩))))))))
 refine .skipS [10, 8, 2, 1] r r (.seq (.region (.skips 1 r (.nilS [13, 10, 8, 2, 1] r r (.seq (.seq (.region (.skips 1 r (.nilS [14, 13, 10, 8, 2, 1] r r ?_)))))))))
 refine .block (.own0 eTriple 78 (.loop hd (fun (s : (List Triple) × Int) c w => match s with | (s902, s906) => ∃ I_ p903 c904, IH.le I803 I_ ∧ Ok ⟨135, [], none⟩ [(1, .int .i64 a1), (2, .int .i64 a2), (8, .pointer (some ⟨b15, 0, none⟩)), (10, .slice p808 r802.1.length c809), (13, .slice p903 s902.length c904), (14, .int .i64 s906)] c ∧ Sym w0 M I I_ [pto b15 (.cells #[.int .i64 0, .int .i64 0, .slice none 0 0, .slice none 0 0, .slice none 0 0] 39 (0, 0)), OwnSl eTriple 78 p903 c904 s902] w) (fun c w ho hs => ⟨I803, _, _, (.refl _), ho.sub ⟨r, r, r, r, r, r, trivial⟩, hs.pick (.c (.s .z) (.c .z .n))⟩) ?_))
 rintro ⟨s902, s906⟩ next908 hd c w hst
 obtain ⟨I909, p903, c904, hl910, hok, hsym⟩ := hst
 have le911 := IH.le.trans le812 hl910
 have le912 := IH.le.trans (.refl _) hl910
 replace R810 := R810.mono hl910
 refine Cod.at hok hsym (.seq (.seq (.region (.skips 2 r (.len underlying114 r r r r (.lt r r r r (.nilS [109, 14, 13, 10, 8, 2, 1] r r (.condP r hd (fun hb914 hd => ?_) fun hb914 hd => ?_))))))))
 · refine .skipS [14, 13, 10, 8, 2, 1] r r (.seq (.block (.ownF (.s .z) fun hne915 => ?_)))
   refine .draw [some 0, some 1, some 2, some 3, some 4, some 5, some 6, some 7, some 8, some 9, some 10, some 11, some 12, some 13, some 14, some 15, some 16, some 17, some 18] 19 MX (by kernel_rfl) (by kernel_rfl) (by kernel_rfl) (by kernel_rfl) (by kernel_rfl) (by kernel_rfl) (by kernel_rfl) (fun ex => (pto b15 (.cells #[.int .i64 0, .int .i64 0, .slice none 0 0, .slice none 0 0, .slice none 0 0] 39 (0, 0))) :: (OwnSl eTriple 78 p903 c904 s902) :: ex) (fun _ _ => (.s (.s .z))) r (.fs [[], [], []] r (by kernel_rfl) ?_)
   obtain ⟨h916, x917, hx918, hd⟩ := hd
   obtain ⟨b919, o920, cs921, e922, hC923, hr924⟩ := R810.2 _ _ hx918
   cases hr924
   refine .f [1, 2] r (by kernel_rfl) r r (fun ex => .ixa underlying114 sizeOf116 r e922 r h916 (idx_lt hx918 h916) r r .mk) (.f [3] r (by kernel_rfl) r r (fun ex => .fieldAddr underlying116 r sizeOf3 r (o := o920 + s906.toNat * 3) r r r .mk) (.f [4] r (by kernel_rfl) r r (fun ex => .ld1 (j := 0) isAgg3 hC923 r r r r r .mk) (.fs [[], []] r (by kernel_rfl) ?_)))
   obtain ⟨h925, x926, hx927, hd⟩ := hd
   obtain ⟨b928, o929, cs930, e931, hC932, hr933⟩ := R810.2 _ _ hx927
   cases hr933
   refine .f [6, 7] r (by kernel_rfl) r r (fun ex => .ixa underlying114 sizeOf116 r e931 r h925 (idx_lt hx927 h925) r r .mk) (.f [8] r (by kernel_rfl) r r (fun ex => .fieldAddr underlying116 r sizeOf3 r (o := o929 + s906.toNat * 3 + 1) r r r .mk) (.f [9] r (by kernel_rfl) r r (fun ex => .ld1 (j := 1) isAgg3 hC932 r r r r r .mk) (.fs [[], []] r (by kernel_rfl) ?_)))
   obtain ⟨h934, x935, hx936, hd⟩ := hd
   obtain ⟨b937, o938, cs939, e940, hC941, hr942⟩ := R810.2 _ _ hx936
   cases hr942
   refine .f [11, 12] r (by kernel_rfl) r r (fun ex => .ixa underlying114 sizeOf116 r e940 r h934 (idx_lt hx936 h934) r r .mk) (.f [13] r (by kernel_rfl) r r (fun ex => .fieldAddr underlying116 r sizeOf2 r (o := o938 + s906.toNat * 3 + 2) r r r .mk) (.f [14] r (by kernel_rfl) r r (fun ex => .ld1 (j := 2) isAgg2 hC941 r r r r r .mk) (.f [5, 10, 15] r (by kernel_rfl) r r (fun ex => .build zeroValue78 underlying78 BI78 (.c r r r (.t .nil) (.c r r r (.s (.t .nil)) (.c r r r (.s (.s (.t .nil))) .n))) (by exact ⟨⟨_, _, r, r, r⟩, ⟨⟨_, _, r, r, r⟩, ⟨⟨_, _, r, r, r⟩, trivial⟩⟩⟩) r r .mk) (.w [0] [[], [16], [15, 16], [14, 15, 16], [13, 14, 15, 16], [13, 14, 15, 16], [16], [10, 16], [9, 10, 16], [8, 9, 10, 16], [8, 9, 10, 16], [16], [5, 16], [4, 5, 16], [3, 4, 5, 16], [3, 4, 5, 16]] [16] r (by kernel_rfl) (by kernel_rfl) (by kernel_rfl) ((dropE_kept r r)) (.inr (dropE_kept r r)) fun ex => ?_))))
   refine .buildSlice 1 underlying31 sizeOf78 zeroValue78 r r (.c r r r .n) r r fun b943 => ?_
   refine .some (fun ex => (pto b943 (.cells #[.int .i64 x917.From, .int .i64 x926.To, .int .i64 x935.W] 78 (0, 0))) :: (pto b15 (.cells #[.int .i64 0, .int .i64 0, .slice none 0 0, .slice none 0 0, .slice none 0 0] 39 (0, 0))) :: (OwnSl eTriple 78 p903 c904 s902) :: ex) r (fun _ _ => (.s (.s (.s .z)))) r (.ccs [[]] r r (by kernel_rfl) trivial) (.w [] [[]] [0, 17] r (by kernel_rfl) (by kernel_rfl) (by kernel_rfl) ((dropE_kept r r)) (.inr (dropE_kept r r)) fun ex => ?_)
   obtain ⟨hl945, hd⟩ := hd
   refine .append (ys := [({ Row := x917.From, Col := x926.To, Val := x935.W } : Triple)]) 24 (.s (.s .z)) underlying31 underlying31 IN78 r r r r r r r r r (.box .z (.one r) r) hl945 r r fun p946 c947 => ?_
   refine .some (fun ex => (OwnSl eTriple 78 p946 c947 (s902 ++ ([({ Row := x917.From, Col := x926.To, Val := x935.W } : Triple)]))) :: (pto b943 (.cells #[.int .i64 x917.From, .int .i64 x926.To, .int .i64 x935.W] 78 (0, 0))) :: (pto b15 (.cells #[.int .i64 0, .int .i64 0, .slice none 0 0, .slice none 0 0, .slice none 0 0] 39 (0, 0))) :: ex) r (fun _ _ => (.s (.s (.s .z)))) r trivial (.e 19 (by kernel_rfl) (by kernel_rfl) (by kernel_rfl) (.sub (E' := [(1, _), (2, _), (8, _), (10, _), (14, _), (112, _), (113, _), (114, _), (115, _), (116, _), (117, _), (118, _), (119, _), (120, _), (121, _), (122, _), (123, _), (124, _), (125, _), (126, _), (127, _), (128, _), (129, _), (130, _)]) ⟨r, r, r, r, r, r, r, r, r, r, r, r, r, r, r, r, r, r, r, r, r, r, r, r, trivial⟩ (.skips 1 r (.nilS [13, 14, 10, 8, 2, 1] r r (.drop (.s .z) (.region (.skips 1 r (.add r r r r (.sub (E' := [(1, _), (2, _), (8, _), (10, _), (13, _), (110, _), (111, _)]) ⟨r, r, r, r, r, r, r, trivial⟩ ?_)))))))))
   exact .skips 1 r (.nil' fun c w ho hs => ⟨((s902 ++ ([({ Row := x917.From, Col := x926.To, Val := x935.W } : Triple)])), w64 (s906 + 1)), hd, I909, _, _, le912, ho.sub ⟨r, r, r, r, r, r, trivial⟩, hs.pick (.c (.s .z) (.c .z .n))⟩)
 refine .exitS [13, 8, 2, 1] r r (.seq (.region (.skips 3 r (.pub (.s .z) fun I949 hl950 R951 => ?_))))
 have le952 := IH.le.trans le911 hl950
 have le953 := IH.le.trans le912 hl950
 have hw969 := W_ref07_built (I := I949) R951 hd
 refine .call call68 r hw969 r r fun v958 I955 hl956 hv957 => ?_
 obtain ⟨r954, p960, c961, p963, c964, p966, c967, rfl, R962, R965, R968, hd⟩ := hv957
 have le970 := IH.le.trans le952 hl956
 have le971 := IH.le.trans le953 hl956
 replace R951 := R951.mono hl956
 exact .storeA sizeOf39 r r .z (.t (.t (.t (.t (.t .nil))))) r r (.skips 1 r (.nilS [9, 8] r r (.ret (pret results32 (.w isAgg39 sizeOf39 r .z r (.t r .n)) le970 ⟨(r954, 0), _, _, _, _, _, _, r, R962, R965, R968, hd⟩))))

theorem W_csr_part {I : IH} {a0 : Rows} {a1 : Int} {p1 : Option Addr} {c2 : Nat} {p4 : Option Addr} {c5 : Nat} {p7 : Option Addr} {c8 : Nat} {Q : ((List Int) × (List Int)) → Prop} (R3 : RepSl eI64 I p1 c2 a0.Start) (R6 : RepSl eI64 I p4 c5 a0.Col) (R9 : RepSl eI64 I p7 c8 a0.Val) (hd : csr_part a0 a1 Q) :
    PFun Tryz.prog 97 [.agg #[.int .i64 a0.Rows, .int .i64 a0.Cols, .slice p1 a0.Start.length c2, .slice p4 a0.Col.length c5, .slice p7 a0.Val.length c8], .int .i64 a1] I (fun I_ v => ∃ r p10 c11 p13 c14, v = .tuple #[.slice p10 r.1.length c11, .slice p13 r.2.length c14] ∧ RepSl eI64 I_ p10 c11 r.1 ∧ RepSl eI64 I_ p13 c14 r.2 ∧ Q r) := by
 refine Fun.enter func97 r ntmps97 r (.c (.c .n)) fun w0 M => ?_
 refine .seq (.region (.boxA r r r fun b18 => ?_))
 refine .skips 2 r (.nilS [2, 1] r r (.seq (.draw [some 0, some 1, some 2, some 3, some 4, some 5, some 6, some 7, some 8, some 9, some 10, some 11] 12 MX (by kernel_rfl) (by kernel_rfl) (by kernel_rfl) (by kernel_rfl) (by kernel_rfl) (by kernel_rfl) (by kernel_rfl) (fun ex => (pto b18 (.cells #[.int .i64 a0.Rows, .int .i64 a0.Cols, .slice p1 a0.Start.length c2, .slice p4 a0.Col.length c5, .slice p7 a0.Val.length c8] 39 (0, 0))) :: ex) (fun _ _ => (.s .z)) r (.f [] r (by kernel_rfl) r r (fun ex => .fieldAddr underlying39 r sizeOf36 r (o := 2) r r r .mk) (.f [0] r (by kernel_rfl) r r (fun ex => .load1 isAgg36 r .z r r r .mk) (.fs [[]] r (by kernel_rfl) ?_))))))
 obtain ⟨h38, x39, hx40, hd⟩ := hd
 obtain ⟨b41, o42, cs43, e44, hC45, hr46⟩ := R3.2 _ _ hx40
 cases hr46
 refine .f [1, 2] r (by kernel_rfl) r r (fun ex => .ixa underlying36 sizeOf3 r e44 r h38 (idx_lt hx40 h38) r r .mk) (.f [3] r (by kernel_rfl) r r (fun ex => .ld1 (j := 0) isAgg3 hC45 r r r r r .mk) (.f [] r (by kernel_rfl) r r (fun ex => .fieldAddr underlying39 r sizeOf36 r (o := 2) r r r .mk) (.f [5] r (by kernel_rfl) r r (fun ex => .load1 isAgg36 r .z r r r .mk) (.fs [[]] r (by kernel_rfl) (.f [7] r (by kernel_rfl) r r (fun ex => .add r r r r .mk) ?_)))))
 obtain ⟨h47, x48, hx49, hd⟩ := hd
 obtain ⟨b50, o51, cs52, e53, hC54, hr55⟩ := R3.2 _ _ hx49
 cases hr55
 refine .f [6, 8] r (by kernel_rfl) r r (fun ex => .ixa underlying36 sizeOf3 r e53 r h47 (idx_lt hx49 h47) r r .mk) (.f [9] r (by kernel_rfl) r r (fun ex => .ld1 (j := 0) isAgg3 hC54 r r r r r .mk) (.fs [[4, 0, 1, 2, 3, 4]] r (by kernel_rfl) (.e 12 (by kernel_rfl) (by kernel_rfl) (by kernel_rfl) (.skips 1 r (.nilS [7, 6, 2] r r (.seq (.draw [some 0, some 1, some 2, some 3, some 4, some 5, some 6, some 7, some 8, some 9, some 10, some 11, some 12] 13 MX (by kernel_rfl) (by kernel_rfl) (by kernel_rfl) (by kernel_rfl) (by kernel_rfl) (by kernel_rfl) (by kernel_rfl) (fun ex => (pto b18 (.cells #[.int .i64 a0.Rows, .int .i64 a0.Cols, .slice p1 a0.Start.length c2, .slice p4 a0.Col.length c5, .slice p7 a0.Val.length c8] 39 (0, 0))) :: ex) (fun _ _ => (.s .z)) r (.f [] r (by kernel_rfl) r r (fun ex => .fieldAddr underlying39 r sizeOf36 r (o := 3) r r r .mk) (.f [0] r (by kernel_rfl) r r (fun ex => .load1 isAgg36 r .z r r r .mk) ?_)))))))))
 refine .fs [[], [], []] r (by kernel_rfl) ?_
 obtain ⟨h56, h57, h58, hd⟩ := hd
 have h64 : Int.toNat x39 ≤ Int.toNat x48 := by omega
 have h65 : Int.toNat x48 ≤ a0.Col.length := by omega
 obtain ⟨p59, c60, e62, e63, R61⟩ := RepSl.sliceW R6 (Int.toNat x39) (Int.toNat x48) (Int.toNat x48) h64 h65 (.inr rfl)
 refine .f [1, 2, 3, 4] r (by kernel_rfl) r r (fun ex => .sliceW (L := Int.toNat x39) (H := Int.toNat x48) (cm := Int.toNat x48) underlying36 sizeOf3 r r R6.1 r r r (.inr ⟨_, _, r, h56, r⟩) (.inr ⟨_, _, r, (by omega), r⟩) (.inr r) h64 h65 r e62 e63 r r .mk) (.f [] r (by kernel_rfl) r r (fun ex => .fieldAddr underlying39 r sizeOf37 r (o := 4) r r r .mk) (.f [6] r (by kernel_rfl) r r (fun ex => .load1 isAgg37 r .z r r r .mk) (.fs [[], [], []] r (by kernel_rfl) ?_)))
 obtain ⟨h66, h67, h68, hd⟩ := hd
 have h74 : Int.toNat x39 ≤ Int.toNat x48 := by omega
 have h75 : Int.toNat x48 ≤ a0.Val.length := by omega
 obtain ⟨p69, c70, e72, e73, R71⟩ := RepSl.sliceW R9 (Int.toNat x39) (Int.toNat x48) (Int.toNat x48) h74 h75 (.inr rfl)
 exact .f [7, 8, 9, 10] r (by kernel_rfl) r r (fun ex => .sliceW (L := Int.toNat x39) (H := Int.toNat x48) (cm := Int.toNat x48) underlying37 sizeOf2 r r R9.1 r r r (.inr ⟨_, _, r, h66, r⟩) (.inr ⟨_, _, r, (by omega), r⟩) (.inr r) h74 h75 r e72 e73 r r .mk) (.fs [[5, 0, 1, 2, 3, 4, 5]] r (by kernel_rfl) (.e 13 (by kernel_rfl) (by kernel_rfl) (by kernel_rfl) (.skips 1 r (.nilS [5, 4] r r (.drop .z (.ret (pret results97 (.t r (.t r .n)) (.refl _) ⟨(((a0.Col.take x48.toNat).drop x39.toNat), ((a0.Val.take x48.toNat).drop x39.toNat)), _, _, _, _, r, R61, R71, hd⟩)))))))

theorem W_cmp_Or_int {I : IH} {a0 : List Int} {p1 : Option Addr} {c2 : Nat} {Q : Int → Prop} (R3 : RepSl eI64 I p1 c2 a0) (hd : cmp_Or_int a0 Q) :
    PFun Tryz.prog 130 [.slice p1 a0.length c2] I (fun I_ v => ∃ r, v = .int .i64 r ∧ Q r) := by
 refine Fun.enter func130 r ntmps130 r (.c .n) fun w0 M => ?_
 refine .seq (.region (.skips 1 r (.nilS [0] r r (.seq (.region (.skips 1 r (.nilS [3, 0] r r (.seq (.seq ?_)))))))))
 refine .region (.skips 1 r (.len underlying36 r r r r (.skips 1 r (.nilS [8, 7, 6, 3] r r (.block (.loop hd (fun (s31 : Int) c w => ∃ I_, IH.le I I_ ∧ Ok ⟨18, [], none⟩ [(3, .int .i64 0), (6, .slice p1 a0.length c2), (7, .int .i64 (a0.length : Int)), (8, .int .i64 s31)] c ∧ Sym w0 M I I_ [] w) (fun c w ho hs => ⟨I, (.refl _), ho.sub ⟨r, r, r, r, trivial⟩, hs.pick .n⟩) ?_))))))
 rintro s31 next32 hd c w hst
 obtain ⟨I33, hl34, hok, hsym⟩ := hst
 have le35 := IH.le.trans (.refl _) hl34
 replace R3 := R3.mono hl34
 refine Cod.at hok hsym (.seq (.region (.lt r r r r (.nilS [9, 8, 7, 6, 3] r r (.seq (.condP r hd (fun hb37 hd => ?_) fun hb37 hd => ?_))))))
 · refine .skipS [8, 7, 6, 3] r r (.seq (.block (.seq (.region ?_))))
   obtain ⟨h38, x39, hx40, hd⟩ := hd
   obtain ⟨b41, o42, cs43, e44, hC45, hr46⟩ := R3.2 _ _ hx40
   cases hr46
   refine .ixa underlying36 sizeOf3 r e44 r h38 (idx_lt hx40 h38) r r (.ld1 (j := 0) isAgg3 hC45 r r r r r (.skips 1 r (.nilS [5, 8, 7, 6, 3] r r (.seq (.region (.skips 2 r (.ne r r r r (.nilS [14, 5, 8, 7, 6, 3] r r (.condP r hd (fun hb47 hd => ?_) fun hb47 hd => ?_)))))))))
   · exact .seq (.region (.skips 2 r (.nilS [2] r r (.ret (pret results130 (.t r .n) le35 ⟨x39, r, hd⟩)))))
   exact .skipS [8, 7, 6, 3] r r (.region (.add r r r r (.sub (E' := [(3, _), (6, _), (7, _), (16, _)]) ⟨r, r, r, r, trivial⟩ (.skips 1 r (.nil' fun c w ho hs => ⟨(w64 (s31 + 1)), hd, I33, le35, ho.sub ⟨r, r, r, r, trivial⟩, hs.pick .n⟩)))))
 exact .exitS [3] r r (.seq (.region (.skips 2 r (.nilS [2] r r (.ret (pret results130 (.t r .n) le35 ⟨0, r, hd⟩))))))

theorem W_cmp_Compare_int {I : IH} {a0 : Int} {a1 : Int}  {Q : Int → Prop}  (hd : cmp_Compare_int a0 a1 Q) :
    PFun Tryz.prog 131 [.int .i64 a0, .int .i64 a1] I (fun I_ v => ∃ r, v = .int .i64 r ∧ Q r) := by
 refine Fun.enter func131 r ntmps131 r (.c (.c .n)) fun w0 M => ?_
 refine .seq (.region (.skips 1 r (.nilS [1, 0] r r (.seq (.region (.skips 1 r ?_))))))
 have hw6 := W_cmp_isNaN_int (I := I) hd
 refine .callP call150 r hw6 r r fun v7 hv8 => ?_
 obtain ⟨r5, rfl, hd⟩ := hv8
 refine .skips 1 r (.nilS [5, 1, 0] r r (.seq (.region (.skips 1 r ?_))))
 have hw14 := W_cmp_isNaN_int (I := I) hd
 refine .callP call150 r hw14 r r fun v15 hv16 => ?_
 obtain ⟨r13, rfl, hd⟩ := hv16
 refine .skips 1 r (.nilS [6, 5, 1, 0] r r (.seq (.seq (.region (.skips 1 r (.nilS [11, 6, 1, 0] r r (.condP r hd (fun hb19 hd => ?_) fun hb19 hd => ?_)))))))
 · refine .seq (.seq (.region (.skips 1 r (.nilS [12] r r (.condP r hd (fun hb20 hd => ?_) fun hb20 hd => ?_)))))
   · exact .seq (.region (.skips 1 r (.nilS [4] r r (.ret (pret results131 (.t r .n) (.refl _) ⟨0, r, hd⟩)))))
   exact .skipS [] r r (.seq (.region (.skips 1 r (.nilS [4] r r (.ret (pret results131 (.t r .n) (.refl _) ⟨(-1), r, hd⟩))))))
 refine .skipS [6, 1, 0] r r (.seq (.seq (.region (.skips 1 r (.nilS [13, 1, 0] r r (.condP r hd (fun hb22 hd => ?_) fun hb22 hd => ?_))))))
 · exact .seq (.region (.skips 1 r (.nilS [4] r r (.ret (pret results131 (.t r .n) (.refl _) ⟨1, r, hd⟩)))))
 refine .skipS [1, 0] r r (.seq (.seq (.region (.skips 2 r (.lt r r r r (.nilS [16, 1, 0] r r (.condP r hd (fun hb24 hd => ?_) fun hb24 hd => ?_)))))))
 · exact .seq (.region (.skips 1 r (.nilS [4] r r (.ret (pret results131 (.t r .n) (.refl _) ⟨(-1), r, hd⟩)))))
 refine .skipS [1, 0] r r (.seq (.seq (.region (.skips 2 r (.gt r r r r (.nilS [19] r r (.condP r hd (fun hb25 hd => ?_) fun hb25 hd => ?_)))))))
 · exact .seq (.region (.skips 1 r (.nilS [4] r r (.ret (pret results131 (.t r .n) (.refl _) ⟨1, r, hd⟩)))))
 exact .skipS [] r r (.seq (.region (.skips 1 r (.nilS [4] r r (.ret (pret results131 (.t r .n) (.refl _) ⟨0, r, hd⟩))))))

theorem W_csr_built {I : IH} {a0 : Int} {a1 : Int} {a2 : List Triple} {p1 : Option Addr} {c2 : Nat} {Q : Rows → Prop} (R3 : RepSl eTriple I p1 c2 a2) (hd : csr_built a0 a1 a2 Q) :
    PFun Tryz.prog 100 [.int .i64 a0, .int .i64 a1, .slice p1 a2.length c2] I (fun I_ v => ∃ r p4 c5 p7 c8 p10 c11, v = .agg #[.int .i64 r.Rows, .int .i64 r.Cols, .slice p4 r.Start.length c5, .slice p7 r.Col.length c8, .slice p10 r.Val.length c11] ∧ RepSl eI64 I_ p4 c5 r.Start ∧ RepSl eI64 I_ p7 c8 r.Col ∧ RepSl eI64 I_ p10 c11 r.Val ∧ Q r) := by
 refine Fun.enter func100 r ntmps100 r (.c (.c (.c .n))) fun w0 M => ?_
 refine .seq (.region (.allocA zeroValue39 r r fun b15 => ?_))
 refine .nilS [6, 2, 1, 0] r r (.seq (.region (.skips 2 r ?_)))
 have hw57 := W_csr_empty (I := I) hd
 refine .callO call107 r hw57 r r fun v43 I40 l44 hl41 hv42 => ?_
 obtain ⟨r39, p45, c46, p48, c49, p51, c52, rfl, rfl, hd⟩ := hv42
 have le58 := IH.le.trans (.refl _) hl41
 replace R3 := R3.mono hl41
 refine .allocA zeroValue39 r r fun b59 => ?_
 refine .storeA sizeOf39 r r .z (.t (.t (.t (.t (.t .nil))))) r r (.nilS [7, 6, 2, 0] r r (.seq (.seq (.region (.skips 1 r (.len underlying31 r r r r (.skips 1 r (.nilS [16, 15, 14, 7, 6, 0] r r (.block ?_)))))))))
 refine .loop hd (fun (s : (List Int) × (List Int) × (List Int) × Int) c w => match s with | (s417, s421, s425, s429) => ∃ I_ p418 c419 p422 c423 p426 c427, IH.le I40 I_ ∧ Ok ⟨63, [], none⟩ [(0, .int .i64 a0), (6, .pointer (some ⟨b15, 0, none⟩)), (7, .pointer (some ⟨b59, 0, none⟩)), (14, .slice p1 a2.length c2), (15, .int .i64 (a2.length : Int)), (16, .int .i64 s429)] c ∧ Sym w0 M I I_ [pto b15 (.cells #[.int .i64 0, .int .i64 0, .slice none 0 0, .slice none 0 0, .slice none 0 0] 39 (0, 0)), pto b59 (.cells #[.int .i64 r39.Rows, .int .i64 r39.Cols, .slice p418 s417.length c419, .slice p422 s421.length c423, .slice p426 s425.length c427] 39 (0, 0)), OwnSl eI64 3 p418 c419 s417, OwnSl eI64 3 p422 c423 s421, OwnSl eI64 2 p426 c427 s425] w) (fun c w ho hs => ⟨I40, _, _, _, _, _, _, (.refl _), ho.sub ⟨r, r, r, r, r, r, trivial⟩, hs.pick (.c (.s (.s (.s (.s .z)))) (.c .z (.c .z (.c .z (.c .z .n)))))⟩) ?_
 rintro ⟨s417, s421, s425, s429⟩ next430 hd c w hst
 obtain ⟨I431, p418, c419, p422, c423, p426, c427, hl432, hok, hsym⟩ := hst
 have le433 := IH.le.trans le58 hl432
 have le434 := IH.le.trans (.refl _) hl432
 replace R3 := R3.mono hl432
 refine Cod.at hok hsym (.seq (.region (.lt r r r r (.nilS [17, 16, 15, 14, 7, 6, 0] r r (.seq (.condP r hd (fun hb436 hd => ?_) fun hb436 hd => ?_))))))
 · refine .skipS [16, 15, 14, 7, 6, 0] r r (.seq (.block (.seq (.region ?_))))
   obtain ⟨h448, x449, hx450, hd⟩ := hd
   obtain ⟨b451, o452, cs453, e454, hC455, hr456⟩ := R3.2 _ _ hx450
   cases hr456
   refine .ixa underlying31 sizeOf78 r e454 r h448 (idx_lt hx450 h448) r r (.ldW isAgg78 sizeOf78 hC455 r r r r (.allocA zeroValue78 r r fun b457 => ?_))
   refine .storeA sizeOf78 r r .z (.t (.t (.t .nil))) r r (.nilS [9, 16, 15, 14, 7, 6, 0] r r (.seq (.region (.fieldAddr underlying39 r sizeOf36 r (o := 2) r r r (.load1 isAgg36 r (.s (.s .z)) r r r (.fieldAddr underlying78 r sizeOf3 r (o := 0) r r r (.load1 isAgg3 r .z r r r (.add r r r r ?_))))))))
   obtain ⟨h467, x468, hx469, hd⟩ := hd
   refine .ownNe (.s (.s (.s .z))) (idx_ne hx469) fun b470 e471 => ?_
   cases e471
   refine .ixa0 underlying36 sizeOf3 r r h467 (idx_lt hx469 h467) r r (.lo1 (j := 0) isAgg3 (.s (.s (.s .z))) hx469 r r r r r (.add r r r r ?_))
   obtain ⟨h472, x473, hx474, hd⟩ := hd
   refine .ixa0 underlying36 sizeOf3 r r h472 (idx_lt hx474 h472) r r (.stO1 (j := 0) (v' := (w64 (x468 + 1))) sizeOf3 (.s (.s (.s .z))) hx474 r r r (.t .nil) r (.sub (E' := [(0, _), (6, _), (7, _), (14, _), (15, _), (16, _), (9, _), (20, _), (21, .slice (some ⟨b470, 0, none⟩) (s417.set ((w64 (x449.Row + 1)).toNat) (w64 (x468 + 1))).length c419), (22, _), (23, _), (24, _), (25, _), (26, _), (27, _), (28, _)]) ⟨r, r, r, r, r, r, r, r, (by simp only [List.length_set]; rfl), r, r, r, r, r, r, r, trivial⟩ (.reat (.s (.s .z)) (B := pto b59 (.cells #[.int .i64 r39.Rows, .int .i64 r39.Cols, .slice (some ⟨b470, 0, none⟩) (s417.set ((w64 (x449.Row + 1)).toNat) (w64 (x468 + 1))).length c419, .slice p422 s421.length c423, .slice p426 s425.length c427] 39 (0, 0))) (by simp only [List.length_set]) (.nilS [9, 16, 15, 14, 7, 6, 0] r r (.seq (.region (.fieldAddr underlying39 r sizeOf36 r (o := 3) r r r (.load1 isAgg36 r (.s (.s .z)) r r r (.fieldAddr underlying78 r sizeOf3 r (o := 1) r r r ?_)))))))))
   refine .load1 isAgg3 r .z r r r (.buildSlice 1 underlying36 sizeOf3 zeroValue3 r r (.c r r r .n) r r fun b475 => ?_)
   obtain ⟨hl477, hd⟩ := hd
   refine .append (ys := [x449.Col]) 8 (.s (.s (.s (.s (.s .z))))) underlying36 underlying36 IN3 r r r r r r r r r (.box .z (.one r) r) hl477 r r fun p478 c479 => ?_
   refine .fieldAddr underlying39 r sizeOf36 r (o := 3) r r r (.store1 sizeOf36 r r (.s (.s (.s (.s .z)))) (.s (.s (.s (.t .nil)))) r (.nilS [9, 16, 15, 14, 7, 6, 0] r r (.drop (.s .z) (.region (.fieldAddr underlying39 r sizeOf37 r (o := 4) r r r (.load1 isAgg37 r (.s (.s (.s .z))) r r r (.fieldAddr underlying78 r sizeOf2 r (o := 2) r r r (.load1 isAgg2 r (.s .z) r r r (.buildSlice 1 underlying37 sizeOf2 zeroValue2 r r (.c r r r .n) r r fun b481 => ?_)))))))))
   obtain ⟨hl483, hd⟩ := hd
   refine .append (ys := [x449.Val]) 8 (.s (.s (.s (.s (.s (.s .z)))))) underlying37 underlying37 IN2 r r r r r r r r r (.box .z (.one r) r) hl483 r r fun p484 c485 => ?_
   exact .fieldAddr underlying39 r sizeOf37 r (o := 4) r r r (.store1 sizeOf37 r r (.s (.s (.s (.s (.s .z))))) (.s (.s (.s (.s (.t .nil))))) r (.nilS [16, 15, 14, 7, 6, 0] r r (.drop (.s .z) (.drop (.s (.s .z)) (.region (.add r r r r (.sub (E' := [(0, _), (6, _), (7, _), (14, _), (15, _), (43, _)]) ⟨r, r, r, r, r, r, trivial⟩ (.skips 1 r (.nil' fun c w ho hs => ⟨((s417.set ((w64 (x449.Row + 1)).toNat) (w64 (x468 + 1))), (s421 ++ ([x449.Col])), (s425 ++ ([x449.Val])), w64 (s429 + 1)), hd, I431, _, _, _, _, _, _, le434, ho.sub ⟨r, r, r, r, r, r, trivial⟩, hs.pick (.c (.s (.s .z)) (.c (.s (.s .z)) (.c (.s (.s .z)) (.c (.s .z) (.c .z .n)))))⟩)))))))))
 refine .exitS [7, 6, 0] r r (.seq (.seq (.region (.skips 2 r (.nilS [45, 44, 7, 6] r r (.block (.loop hd (fun (s : (List Int) × Int) c w => match s with | (s534, s538) => ∃ I_ p535 c536, IH.le I431 I_ ∧ Ok ⟨63, [], none⟩ [(6, .pointer (some ⟨b15, 0, none⟩)), (7, .pointer (some ⟨b59, 0, none⟩)), (44, .int .i64 a0), (45, .int .i64 s538)] c ∧ Sym w0 M I I_ [pto b15 (.cells #[.int .i64 0, .int .i64 0, .slice none 0 0, .slice none 0 0, .slice none 0 0] 39 (0, 0)), pto b59 (.cells #[.int .i64 r39.Rows, .int .i64 r39.Cols, .slice p535 s534.length c536, .slice p422 s421.length c423, .slice p426 s425.length c427] 39 (0, 0)), OwnSl eI64 3 p535 c536 s534, OwnSl eI64 3 p422 c423 s421, OwnSl eI64 2 p426 c427 s425] w) (fun c w ho hs => ⟨I431, _, _, (.refl _), ho.sub ⟨r, r, r, r, trivial⟩, hs.pick (.c .z (.c .z (.c .z (.c .z (.c .z .n)))))⟩) ?_)))))))
 rintro ⟨s534, s538⟩ next539 hd c w hst
 obtain ⟨I540, p535, c536, hl541, hok, hsym⟩ := hst
 have le542 := IH.le.trans le433 hl541
 have le543 := IH.le.trans le434 hl541
 have le544 := IH.le.trans (.refl _) hl541
 refine Cod.at hok hsym (.seq (.region (.lt r r r r (.nilS [46, 45, 44, 7, 6] r r (.seq (.condP r hd (fun hb546 hd => ?_) fun hb546 hd => ?_))))))
 · refine .skipS [45, 44, 7, 6] r r (.seq (.block (.seq (.region (.skips 2 r (.nilS [10, 45, 44, 7, 6] r r (.ownF (.s (.s .z)) fun hne547 => ?_)))))))
   refine .ownF (.s (.s (.s .z))) fun hne548 => ?_
   refine .ownF (.s (.s (.s (.s .z)))) fun hne549 => ?_
   refine .draw [some 0, some 1, some 2, some 3, some 4, some 5, some 6, some 7, some 8, some 9, some 10, some 11] 12 MX (by kernel_rfl) (by kernel_rfl) (by kernel_rfl) (by kernel_rfl) (by kernel_rfl) (by kernel_rfl) (by kernel_rfl) (fun ex => (pto b15 (.cells #[.int .i64 0, .int .i64 0, .slice none 0 0, .slice none 0 0, .slice none 0 0] 39 (0, 0))) :: (pto b59 (.cells #[.int .i64 r39.Rows, .int .i64 r39.Cols, .slice p535 s534.length c536, .slice p422 s421.length c423, .slice p426 s425.length c427] 39 (0, 0))) :: (OwnSl eI64 3 p535 c536 s534) :: (OwnSl eI64 3 p422 c423 s421) :: (OwnSl eI64 2 p426 c427 s425) :: ex) (fun _ _ => (.s (.s (.s (.s (.s .z)))))) r (.f [] r (by kernel_rfl) r r (fun ex => .fieldAddr underlying39 r sizeOf36 r (o := 2) r r r .mk) (.f [0] r (by kernel_rfl) r r (fun ex => .load1 isAgg36 r (.s .z) r r r .mk) (.fs [[]] r (by kernel_rfl) (.f [2] r (by kernel_rfl) r r (fun ex => .add r r r r .mk) ?_))))
   obtain ⟨h550, x551, hx552, hd⟩ := hd
   obtain ⟨b553, e554⟩ := hne547 (idx_ne hx552)
   cases e554
   refine .f [1, 3] r (by kernel_rfl) r r (fun ex => .ixa0 underlying36 sizeOf3 r r h550 (idx_lt hx552 h550) r r .mk) (.f [4] r (by kernel_rfl) r r (fun ex => .lo1 (j := 0) isAgg3 (.s (.s .z)) hx552 r r r r r .mk) (.f [] r (by kernel_rfl) r r (fun ex => .fieldAddr underlying39 r sizeOf36 r (o := 2) r r r .mk) (.f [6] r (by kernel_rfl) r r (fun ex => .load1 isAgg36 r (.s .z) r r r .mk) (.fs [[]] r (by kernel_rfl) ?_))))
   obtain ⟨h555, x556, hx557, hd⟩ := hd
   refine .f [7, 8] r (by kernel_rfl) r r (fun ex => .ixa0 underlying36 sizeOf3 r r h555 (idx_lt hx557 h555) r r .mk) (.f [9] r (by kernel_rfl) r r (fun ex => .lo1 (j := 0) isAgg3 (.s (.s .z)) hx557 r r r r r .mk) (.f [5, 10] r (by kernel_rfl) r r (fun ex => .add r r r r .mk) (.e 12 (by kernel_rfl) (by kernel_rfl) (by kernel_rfl) ?_)))
   obtain ⟨h558, x559, hx560, hd⟩ := hd
   exact .ixa0 underlying36 sizeOf3 r r h558 (idx_lt hx560 h558) r r (.stO1 (j := 0) (v' := (w64 (x551 + x556))) sizeOf3 (.s (.s .z)) hx560 r r r (.t .nil) r (.sub (E' := [(6, _), (7, _), (44, _), (45, _), (10, _), (48, _), (49, .slice (some ⟨b553, 0, none⟩) (s534.set ((w64 (s538 + 1)).toNat) (w64 (x551 + x556))).length c536), (50, _), (51, _), (52, _), (53, _), (54, _), (55, .slice (some ⟨b553, 0, none⟩) (s534.set ((w64 (s538 + 1)).toNat) (w64 (x551 + x556))).length c536), (56, _), (57, _), (58, _), (59, _), (60, _)]) ⟨r, r, r, r, r, r, (by simp only [List.length_set]; rfl), r, r, r, r, r, (by simp only [List.length_set]; rfl), r, r, r, r, r, trivial⟩ (.reat (.s .z) (B := pto b59 (.cells #[.int .i64 r39.Rows, .int .i64 r39.Cols, .slice (some ⟨b553, 0, none⟩) (s534.set ((w64 (s538 + 1)).toNat) (w64 (x551 + x556))).length c536, .slice p422 s421.length c423, .slice p426 s425.length c427] 39 (0, 0))) (by simp only [List.length_set]) (.nilS [45, 44, 7, 6] r r (.region (.add r r r r (.sub (E' := [(6, _), (7, _), (44, _), (61, _)]) ⟨r, r, r, r, trivial⟩ (.skips 1 r (.nil' fun c w ho hs => ⟨((s534.set ((w64 (s538 + 1)).toNat) (w64 (x551 + x556))), w64 (s538 + 1)), hd, I540, _, _, le544, ho.sub ⟨r, r, r, r, trivial⟩, hs.pick (.c .z (.c .z (.c .z (.c .z (.c .z .n)))))⟩)))))))))
 refine .exitS [7, 6] r r (.seq (.region (.loadW isAgg39 sizeOf39 r (.s .z) r r r (.storeA sizeOf39 r r .z (.t (.t (.t (.t (.t .nil))))) r r (.nilS [6] r r (.drop (.s .z) (.pub (.s .z) fun I561 hl562 R563 => ?_)))))))
 have le564 := IH.le.trans le542 hl562
 have le565 := IH.le.trans le543 hl562
 have le566 := IH.le.trans le544 hl562
 refine .pub (.s .z) fun I567 hl568 R569 => ?_
 have le570 := IH.le.trans le564 hl568
 have le571 := IH.le.trans le565 hl568
 have le572 := IH.le.trans le566 hl568
 replace R563 := R563.mono hl568
 refine .pub (.s .z) fun I573 hl574 R575 => ?_
 have le576 := IH.le.trans le570 hl574
 have le577 := IH.le.trans le571 hl574
 have le578 := IH.le.trans le572 hl574
 replace R563 := R563.mono hl574
 replace R569 := R569.mono hl574
 exact .ret (pret results100 (.w isAgg39 sizeOf39 r .z r .n) le576 ⟨({ Rows := r39.Rows, Cols := r39.Cols, Start := s534, Col := s421, Val := s425 } : Rows), _, _, _, _, _, _, r, R563, R569, R575, hd⟩)

theorem W_push_sure {I : IH} {a0 : Columns} {a1 : Vec} {p1 : Option Addr} {c2 : Nat} {p4 : Option Addr} {c5 : Nat} {p7 : Option Addr} {c8 : Nat} {p10 : Option Addr} {c11 : Nat} {p13 : Option Addr} {c14 : Nat} {Q : (Columns × Vec) → Prop} (R3 : RepSl eI64 I p1 c2 a0.At) (R6 : RepSl eI64 I p4 c5 a0.Start) (R9 : RepSl eI64 I p7 c8 a0.Row) (R12 : RepSl eI64 I p10 c11 a0.Val) (R15 : RepSl eItem I p13 c14 a1.Items) (hd : push_sure a0 a1 Q) :
    PFun Tryz.prog 108 [.agg #[.int .i64 a0.Rows, .int .i64 a0.Cols, .slice p1 a0.At.length c2, .slice p4 a0.Start.length c5, .slice p7 a0.Row.length c8, .slice p10 a0.Val.length c11], .agg #[.int .i64 a1.N, .slice p13 a1.Items.length c14]] I (fun I_ v => ∃ r p16 c17 p19 c20 p22 c23 p25 c26 p28 c29, v = .tuple #[.agg #[.int .i64 r.1.Rows, .int .i64 r.1.Cols, .slice p16 r.1.At.length c17, .slice p19 r.1.Start.length c20, .slice p22 r.1.Row.length c23, .slice p25 r.1.Val.length c26], .agg #[.int .i64 r.2.N, .slice p28 r.2.Items.length c29]] ∧ RepSl eI64 I_ p16 c17 r.1.At ∧ RepSl eI64 I_ p19 c20 r.1.Start ∧ RepSl eI64 I_ p22 c23 r.1.Row ∧ RepSl eI64 I_ p25 c26 r.1.Val ∧ RepSl eItem I_ p28 c29 r.2.Items ∧ Q r) := by
 refine Fun.enter func108 r ntmps108 r (.c (.c .n)) fun w0 M => ?_
 refine .seq (.region (.boxA r r r fun b39 => ?_))
 refine .boxA r r r fun b41 => ?_
 refine .allocA zeroValue50 r r fun b43 => ?_
 refine .allocA zeroValue42 r r fun b45 => ?_
 refine .nilS [5, 4, 3, 2] r r (.seq ?_)
 refine Cod.joinQ (σ := Int × Int × (List Int) × (List Int) × (List Int) × (List Int)) hd (fun (s : Int × Int × (List Int) × (List Int) × (List Int) × (List Int)) c w => match s with | (s63, s64, s65, s69, s73, s77) => ∃ I_ p66 c67 p70 c71 p74 c75 p78 c79, IH.le I I_ ∧ RepSl eI64 I_ p66 c67 s65 ∧ RepSl eI64 I_ p70 c71 s69 ∧ RepSl eI64 I_ p74 c75 s73 ∧ RepSl eI64 I_ p78 c79 s77 ∧ Ok ⟨17, [], none⟩ [(2, .pointer (some ⟨b39, 0, none⟩)), (3, .pointer (some ⟨b41, 0, none⟩)), (4, .pointer (some ⟨b43, 0, none⟩)), (5, .pointer (some ⟨b45, 0, none⟩))] c ∧ Sym w0 M I I_ [pto b39 (.cells #[.int .i64 s63, .int .i64 s64, .slice p66 s65.length c67, .slice p70 s69.length c71, .slice p74 s73.length c75, .slice p78 s77.length c79] 50 (0, 0)), pto b41 (.cells #[.int .i64 a1.N, .slice p13 a1.Items.length c14] 42 (0, 0)), pto b43 (.cells #[.int .i64 0, .int .i64 0, .slice none 0 0, .slice none 0 0, .slice none 0 0, .slice none 0 0] 50 (0, 0)), pto b45 (.cells #[.int .i64 0, .slice none 0 0] 42 (0, 0))] w) (fun k81 hd => ?_) ?_
 · skip
   refine .seq (.region (.loadW isAgg50 sizeOf50 r (.s (.s (.s .z))) r r r ?_))
   have hw83 := W_dcsc_Right (I := I) R3 R6 R9 R12 hd
   refine .callP call133 r hw83 r r fun v84 hv85 => ?_
   obtain ⟨r82, rfl, hd⟩ := hv85
   refine .not r r r (.nilS [8, 5, 4, 3, 2] r r (.condP r hd (fun hb86 hd => ?_) fun hb86 hd => ?_))
   · refine .region (.buildSlice 1 underlying36 sizeOf3 zeroValue3 r r (.c r r r .n) r r fun b87 => ?_)
     refine .ownB (El := eI64) (ys := ([0] : List Int)) .z (.one r) r (.build zeroValue50 underlying50 BI50 (.c r r r (.s (.s (.s (.t .nil)))) .n) (by exact ⟨⟨_, _, r, r, r⟩, trivial⟩) r r (.storeA sizeOf50 r r (.s (.s (.s (.s .z)))) (.t (.t (.t (.t (.t (.t .nil)))))) r r (.pub .z fun I90 hl91 R92 => ?_)))
     have le93 := IH.le.trans (.refl _) hl91
     replace R15 := R15.mono hl91
     exact .nil' fun c w ho hs => ⟨(0, 0, ([] : List Int), ([0] : List Int), ([] : List Int), ([] : List Int)), hd, I90, _, _, _, _, _, _, _, _, le93, .nil _ _ _, R92, .nil _ _ _, .nil _ _ _, ho.sub ⟨r, r, r, r, trivial⟩, hs.pick (.c (.s (.s (.s .z))) (.c (.s (.s .z)) (.c (.s .z) (.c .z .n))))⟩
   exact .skip' fun c w ho hs => ⟨(a0.Rows, a0.Cols, a0.At, a0.Start, a0.Row, a0.Val), hd, I, _, _, _, _, _, _, _, _, (.refl _), R3, R6, R9, R12, ho.sub ⟨r, r, r, r, trivial⟩, hs.pick (.c (.s (.s (.s .z))) (.c (.s (.s .z)) (.c (.s .z) (.c .z .n))))⟩
 rintro ⟨s63, s64, s65, s69, s73, s77⟩ hd c w hst
 obtain ⟨I94, p66, c67, p70, c71, p74, c75, p78, c79, hl95, R68, R72, R76, R80, hok, hsym⟩ := hst
 have le96 := IH.le.trans (.refl _) hl95
 replace R15 := R15.mono hl95
 refine Cod.at hok hsym (.seq (.seq (.region (.loadW isAgg42 sizeOf42 r (.s .z) r r r ?_))))
 have hw98 := W_spvec_Right (I := I94) R15 hd
 refine .callP call54 r hw98 r r fun v99 hv100 => ?_
 obtain ⟨r97, rfl, hd⟩ := hv100
 refine .not r r r (.nilS [13, 5, 4, 3, 2] r r (.condP r hd (fun hb101 hd => ?_) fun hb101 hd => ?_))
 · refine .region (.build zeroValue42 underlying42 BI42 .n (by exact trivial) r r (.storeA sizeOf42 r r (.s .z) (.t (.t .nil)) r r (.nilS [5, 4, 3, 2] r r (.seq (.draw [some 0, some 1, some 2] 3 MX (by kernel_rfl) (by kernel_rfl) (by kernel_rfl) (by kernel_rfl) (by kernel_rfl) (by kernel_rfl) (by kernel_rfl) (fun ex => (pto b39 (.cells #[.int .i64 s63, .int .i64 s64, .slice p66 s65.length c67, .slice p70 s69.length c71, .slice p74 s73.length c75, .slice p78 s77.length c79] 50 (0, 0))) :: (pto b41 (.cells #[.int .i64 0, .slice none 0 0] 42 (0, 0))) :: (pto b43 (.cells #[.int .i64 0, .int .i64 0, .slice none 0 0, .slice none 0 0, .slice none 0 0, .slice none 0 0] 50 (0, 0))) :: (pto b45 (.cells #[.int .i64 0, .slice none 0 0] 42 (0, 0))) :: ex) (fun _ _ => (.s (.s (.s (.s .z))))) r (.f [] r (by kernel_rfl) r r (fun ex => .loadW isAgg50 sizeOf50 r .z r r r .mk) (.f [] r (by kernel_rfl) r r (fun ex => .loadW isAgg42 sizeOf42 r (.s .z) r r r .mk) (.w [1] [[]] [0, 0] r (by kernel_rfl) (by kernel_rfl) (by kernel_rfl) ((dropE_none r)) (.inr (dropE_none r)) fun ex => ?_))))))))
   exact .storeA sizeOf50 r r (.s (.s .z)) (.t (.t (.t (.t (.t (.t .nil)))))) r r (.none (fun ex => (pto b39 (.cells #[.int .i64 s63, .int .i64 s64, .slice p66 s65.length c67, .slice p70 s69.length c71, .slice p74 s73.length c75, .slice p78 s77.length c79] 50 (0, 0))) :: (pto b41 (.cells #[.int .i64 0, .slice none 0 0] 42 (0, 0))) :: (pto b43 (.cells #[.int .i64 s63, .int .i64 s64, .slice p66 s65.length c67, .slice p70 s69.length c71, .slice p74 s73.length c75, .slice p78 s77.length c79] 50 (0, 0))) :: (pto b45 (.cells #[.int .i64 0, .slice none 0 0] 42 (0, 0))) :: ex) r (fun _ _ => (.s (.s (.s (.s .z))))) r (.cc [] r (by kernel_rfl) r r r (fun ex => .loadW isAgg42 sizeOf42 r (.s .z) r r r .mk) trivial) (.e 3 (by kernel_rfl) (by kernel_rfl) (by kernel_rfl) (.storeA sizeOf42 r r (.s (.s (.s .z))) (.t (.t .nil)) r r (.nilS [5, 4] r r (.drop .z (.drop .z (.ret (pret results108 (.w isAgg50 sizeOf50 r .z r (.w isAgg42 sizeOf42 r (.s .z) r .n)) le96 ⟨(({ Rows := s63, Cols := s64, At := s65, Start := s69, Row := s73, Val := s77 } : Columns), ({ N := 0, Items := ([] : List Item) } : Vec)), _, _, _, _, _, _, _, _, _, _, r, R68, R72, R76, R80, (.nil _ _ _), hd⟩))))))))
 refine .skipS [5, 4, 3, 2] r r (.seq (.draw [some 0, some 1, some 2] 3 MX (by kernel_rfl) (by kernel_rfl) (by kernel_rfl) (by kernel_rfl) (by kernel_rfl) (by kernel_rfl) (by kernel_rfl) (fun ex => (pto b39 (.cells #[.int .i64 s63, .int .i64 s64, .slice p66 s65.length c67, .slice p70 s69.length c71, .slice p74 s73.length c75, .slice p78 s77.length c79] 50 (0, 0))) :: (pto b41 (.cells #[.int .i64 a1.N, .slice p13 a1.Items.length c14] 42 (0, 0))) :: (pto b43 (.cells #[.int .i64 0, .int .i64 0, .slice none 0 0, .slice none 0 0, .slice none 0 0, .slice none 0 0] 50 (0, 0))) :: (pto b45 (.cells #[.int .i64 0, .slice none 0 0] 42 (0, 0))) :: ex) (fun _ _ => (.s (.s (.s (.s .z))))) r (.f [] r (by kernel_rfl) r r (fun ex => .loadW isAgg50 sizeOf50 r .z r r r .mk) (.f [] r (by kernel_rfl) r r (fun ex => .loadW isAgg42 sizeOf42 r (.s .z) r r r .mk) (.w [1] [[]] [0, 0] r (by kernel_rfl) (by kernel_rfl) (by kernel_rfl) ((dropE_none r)) (.inr (dropE_none r)) fun ex => ?_)))))
 exact .storeA sizeOf50 r r (.s (.s .z)) (.t (.t (.t (.t (.t (.t .nil)))))) r r (.none (fun ex => (pto b39 (.cells #[.int .i64 s63, .int .i64 s64, .slice p66 s65.length c67, .slice p70 s69.length c71, .slice p74 s73.length c75, .slice p78 s77.length c79] 50 (0, 0))) :: (pto b41 (.cells #[.int .i64 a1.N, .slice p13 a1.Items.length c14] 42 (0, 0))) :: (pto b43 (.cells #[.int .i64 s63, .int .i64 s64, .slice p66 s65.length c67, .slice p70 s69.length c71, .slice p74 s73.length c75, .slice p78 s77.length c79] 50 (0, 0))) :: (pto b45 (.cells #[.int .i64 0, .slice none 0 0] 42 (0, 0))) :: ex) r (fun _ _ => (.s (.s (.s (.s .z))))) r (.cc [] r (by kernel_rfl) r r r (fun ex => .loadW isAgg42 sizeOf42 r (.s .z) r r r .mk) trivial) (.e 3 (by kernel_rfl) (by kernel_rfl) (by kernel_rfl) (.storeA sizeOf42 r r (.s (.s (.s .z))) (.t (.t .nil)) r r (.nilS [5, 4] r r (.drop .z (.drop .z (.ret (pret results108 (.w isAgg50 sizeOf50 r .z r (.w isAgg42 sizeOf42 r (.s .z) r .n)) le96 ⟨(({ Rows := s63, Cols := s64, At := s65, Start := s69, Row := s73, Val := s77 } : Columns), a1), _, _, _, _, _, _, _, _, _, _, r, R68, R72, R76, R80, R15, hd⟩))))))))

theorem W_ring_Is {I : IH} {a0 : Int}  {Q : Bool → Prop}  (hd : ring_Is a0 Q) :
    PFun Tryz.prog 109 [.int .i64 a0] I (fun I_ v => ∃ r, v = .bool r ∧ Q r) := by
 refine Fun.enter func109 r ntmps109 r (.c .n) fun w0 M => ?_
 refine .seq (.region (.skips 1 r (.nilS [0] r r (.seq (.region (.skips 1 r (.gt r r r r (.skips 1 r ?_))))))))
 refine splitP hd (fun hb1 hd => ?_) fun hb1 hd => ?_
 · rw [hb1]
   exact .gyes r r r (.move r r r (.gyes r r r (.lt r r r r (.skips 2 r (.nilS [2] r r (.ret (pret results109 (.t r .n) (.refl _) ⟨(decide (a0 < 6)), r, hd⟩)))))))
 rw [hb1]
 exact .skips 4 r (.nilS [2] r r (.ret (pret results109 (.t r .n) (.refl _) ⟨false, r, hd⟩)))

theorem W_wide_Of {I : IH} {a0 : Int}  {Q : Wide → Prop}  (hd : wide_Of a0 Q) :
    PFun Tryz.prog 166 [.int .i64 a0] I (fun I_ v => ∃ r, v = .agg (encWide r).toArray ∧ Q r) := by
 refine Fun.enter func166 r ntmps166 r (.c .n) fun w0 M => ?_
 refine .seq (.region (.allocA zeroValue83 r r fun b1 => ?_))
 refine .nilS [2, 0] r r (.seq (.region (.skips 1 r (.shr' r r (by decide) r r (.skips 1 r (.conv underlying2 underlying81 r r r (.build zeroValue83 underlying83 BI83 (.c r r r (.t .nil) (.c r r r (.s (.t .nil)) .n)) (by exact ⟨⟨_, _, r, r, r⟩, ⟨⟨_, _, r, r, r⟩, trivial⟩⟩) r r (.storeA sizeOf83 r r .z (.t (.t .nil)) r r (.nilS [2] r r ?_)))))))))
 exact .ret (pret results166 (.w isAgg83 sizeOf83 r .z r .n) (.refl _) ⟨({ Hi := shr .i64 a0 63, Lo := IntKind.wrap .u64 (a0) } : Wide), r, hd⟩)

theorem W_ring_truth {I : IH} {a0 : Bool}  {Q : Wide → Prop}  (hd : ring_truth a0 Q) :
    PFun Tryz.prog 164 [.bool a0] I (fun I_ v => ∃ r, v = .agg (encWide r).toArray ∧ Q r) := by
 refine Fun.enter func164 r ntmps164 r (.c .n) fun w0 M => ?_
 refine .seq (.region (.allocA zeroValue83 r r fun b3 => ?_))
 refine .nilS [2, 0] r r (.seq (.seq (.region (.skips 1 r (.nilS [3, 2] r r (.condP r hd (fun hb5 hd => ?_) fun hb5 hd => ?_))))))
 · refine .seq (.region ?_)
   have hw7 := W_wide_Of (I := I) hd
   refine .callP call166 r hw7 r r fun v8 hv9 => ?_
   obtain ⟨r6, rfl, hd⟩ := hv9
   exact .storeA sizeOf83 r r .z (.t (.t .nil)) r r (.nilS [2] r r (.ret (pret results164 (.w isAgg83 sizeOf83 r .z r .n) (.refl _) ⟨r6, r, hd⟩)))
 exact .skipS [2] r r (.seq (.region (.build zeroValue83 underlying83 BI83 .n (by exact trivial) r r (.storeA sizeOf83 r r .z (.t (.t .nil)) r r (.nilS [2] r r (.ret (pret results164 (.w isAgg83 sizeOf83 r .z r .n) (.refl _) ⟨({ Hi := 0, Lo := 0 } : Wide), r, hd⟩)))))))

theorem W_wide_halves {I : IH} {a0 : Int}  {Q : (Int × Int) → Prop}  (hd : wide_halves a0 Q) :
    PFun Tryz.prog 193 [.int .u64 a0] I (fun I_ v => ∃ r, v = .agg #[.int .u64 r.1, .int .u64 r.2] ∧ Q r) := by
 refine Fun.enter func193 r ntmps193 r (.c .n) fun w0 M => ?_
 refine .seq (.region (.allocA zeroValue235 r r fun b1 => ?_))
 refine .nilS [2, 0] r r (.seq (.region (.skips 1 r (.shl' r r (by decide) r r (.shr' r r (by decide) r r (.skips 1 r (.shr' r r (by decide) r r (.buildArr zeroValue235 underlying235 sizeOf81 (.c r r r (.t .nil) (.c r r r (.s (.t .nil)) .n)) r r (.storeA sizeOf235 r r .z (.t (.t .nil)) r r ?_)))))))))
 exact .nilS [2] r r (.ret (pret results193 (.w isAgg235 sizeOf235 r .z r .n) (.refl _) ⟨(shr .u64 (shl .u64 a0 32) 32, shr .u64 a0 32), r, hd⟩))

theorem W_wide_product {I : IH} {a0 : Int} {a1 : Int}  {Q : Wide → Prop}  (hd : wide_product a0 a1 Q) :
    PFun Tryz.prog 185 [.int .u64 a0, .int .u64 a1] I (fun I_ v => ∃ r, v = .agg (encWide r).toArray ∧ Q r) := by
 refine Fun.enter func185 r ntmps185 r (.c (.c .n)) fun w0 M => ?_
 refine .seq (.region (.allocA zeroValue83 r r fun b3 => ?_))
 refine .nilS [4, 1, 0] r r (.seq (.region (.skips 1 r ?_)))
 have hw18 := W_wide_halves (I := I) hd
 refine .callP call193 r hw18 r r fun v19 hv20 => ?_
 obtain ⟨r17, rfl, hd⟩ := hv20
 refine .skips 1 r ?_
 have hw22 := W_wide_halves (I := I) hd
 refine .callP call193 r hw22 r r fun v23 hv24 => ?_
 obtain ⟨r21, rfl, hd⟩ := hv24
 refine .allocA zeroValue235 r r fun b25 => ?_
 refine .allocA zeroValue235 r r fun b27 => ?_
 refine .storeA sizeOf235 r r (.s .z) (.t (.t .nil)) r r (.storeA sizeOf235 r r .z (.t (.t .nil)) r r (.nilS [6, 5, 4] r r (.seq (.region (.ixArr (i := 0) underlying235 sizeOf81 r r (by decide) (o := 0) r r r (.load1 isAgg81 r (.s .z) r r r (.ixArr (i := 0) underlying235 sizeOf81 r r (by decide) (o := 0) r r r (.load1 isAgg81 r .z r r r (.mul r r r r ?_)))))))))
 refine .skips 1 r (.nilS [7, 6, 5, 4] r r (.seq (.draw [some 0, some 1, some 2, some 3, some 4, some 5, some 10, some 6, some 7, some 8, some 9, none] 11 MX (by kernel_rfl) (by kernel_rfl) (by kernel_rfl) (by kernel_rfl) (by kernel_rfl) (by kernel_rfl) (by kernel_rfl) (fun ex => (pto b27 (.cells #[.int .u64 r21.1, .int .u64 r21.2] 235 (0, 0))) :: (pto b25 (.cells #[.int .u64 r17.1, .int .u64 r17.2] 235 (0, 0))) :: (pto b3 (.cells #[.int .i64 0, .int .u64 0] 83 (0, 0))) :: ex) (fun _ _ => (.s (.s (.s .z)))) r (.f [] r (by kernel_rfl) r r (fun ex => .ixArr (i := 1) underlying235 sizeOf81 r r (by decide) (o := 1) r r r .mk) (.f [0] r (by kernel_rfl) r r (fun ex => .load1 isAgg81 r (.s .z) r r r .mk) (.f [] r (by kernel_rfl) r r (fun ex => .ixArr (i := 0) underlying235 sizeOf81 r r (by decide) (o := 0) r r r .mk) (.f [2] r (by kernel_rfl) r r (fun ex => .load1 isAgg81 r .z r r r .mk) (.f [1, 3] r (by kernel_rfl) r r (fun ex => .mul r r r r .mk) (.fs [[]] r (by kernel_rfl) ?_)))))))))
 refine .a (fun b => .pointer (some ⟨b, 0, none⟩)) (fun b => pto b (.cells #[.int .u64 0, .int .u64 0] 235 (0, 0))) r r r r (fun _ L hL ex => .allocA zeroValue235 r r fun b => .mk (val := fun b => .pointer (some ⟨b, 0, none⟩)) (atom := fun b => pto b (.cells #[.int .u64 0, .int .u64 0] 235 (0, 0))) hL b) (.w [4, 3, 2, 1, 0] [[]] [5] r (by kernel_rfl) (by kernel_rfl) (by kernel_rfl) ((dropE_kept r r)) (.inr (dropE_kept r r)) fun ex => ?_)
 have hw41 := W_wide_halves (I := I) hd
 refine .callP call193 r hw41 r r fun v42 hv43 => ?_
 obtain ⟨r40, rfl, hd⟩ := hv43
 refine .some (fun ex => (pto b27 (.cells #[.int .u64 r21.1, .int .u64 r21.2] 235 (0, 0))) :: (pto b25 (.cells #[.int .u64 r17.1, .int .u64 r17.2] 235 (0, 0))) :: (pto b3 (.cells #[.int .i64 0, .int .u64 0] 83 (0, 0))) :: ex) r (fun _ _ => (.s (.s (.s .z)))) r (.cc [1, 3] r (by kernel_rfl) r r r (fun ex => .mul r r r r .mk) (.cc [2] r (by kernel_rfl) r r r (fun ex => .load1 isAgg81 r .z r r r .mk) (.cc [] r (by kernel_rfl) r r r (fun ex => .ixArr (i := 0) underlying235 sizeOf81 r r (by decide) (o := 0) r r r .mk) (.cc [0] r (by kernel_rfl) r r r (fun ex => .load1 isAgg81 r (.s .z) r r r .mk) (.cc [] r (by kernel_rfl) r r r (fun ex => .ixArr (i := 1) underlying235 sizeOf81 r r (by decide) (o := 1) r r r .mk) trivial))))) (.f [6] r (by kernel_rfl) r r (fun ex => .index1 (i := 1) underlying235 sizeOf81 isAgg81 r r (by decide) r r r .mk) (.f [4, 7] r (by kernel_rfl) r r (fun ex => .add r r r r .mk) (.w [] [[], [8], [8], [4, 8], [3, 4, 8], [4, 8], [1, 4, 8]] [8, 6] r (by kernel_rfl) (by kernel_rfl) (by kernel_rfl) ((dropE_kept r r)) (.inr (dropE_kept r r)) fun ex => ?_)))
 have hw45 := W_wide_halves (I := I) hd
 refine .callP call193 r hw45 r r fun v46 hv47 => ?_
 obtain ⟨r44, rfl, hd⟩ := hv47
 refine .some (fun ex => (pto b27 (.cells #[.int .u64 r21.1, .int .u64 r21.2] 235 (0, 0))) :: (pto b25 (.cells #[.int .u64 r17.1, .int .u64 r17.2] 235 (0, 0))) :: (pto b3 (.cells #[.int .i64 0, .int .u64 0] 83 (0, 0))) :: ex) r (fun _ _ => (.s (.s (.s .z)))) r trivial (.b r fun b48 => DrawD.nop (.e 11 (by kernel_rfl) (by kernel_rfl) (by kernel_rfl) (.storeA sizeOf235 r r (.s (.s (.s .z))) (.t (.t .nil)) r r (.nilS [8, 7, 6, 5, 4] r r (.seq (.region (.ixArr (i := 0) underlying235 sizeOf81 r r (by decide) (o := 0) r r r (.load1 isAgg81 r (.s .z) r r r (.ixArr (i := 1) underlying235 sizeOf81 r r (by decide) (o := 1) r r r ?_)))))))))
 refine .load1 isAgg81 r .z r r r (.mul r r r r (.ixArr (i := 0) underlying235 sizeOf81 r r (by decide) (o := 0) r r r (.load1 isAgg81 r (.s (.s (.s .z))) r r r (.add r r r r ?_))))
 have hw56 := W_wide_halves (I := I) hd
 refine .callP call193 r hw56 r r fun v57 hv58 => ?_
 obtain ⟨r55, rfl, hd⟩ := hv58
 refine .allocA zeroValue235 r r fun b59 => ?_
 refine .storeA sizeOf235 r r .z (.t (.t .nil)) r r (.nilS [9, 8, 7, 6, 5, 4] r r (.seq (.draw [some 0, some 1, some 2, some 3, some 4, some 5, some 6, some 7, some 8, some 9, some 10, some 11, some 12, some 13, some 14, some 15, some 16, some 17, some 18, some 19] 20 MX (by kernel_rfl) (by kernel_rfl) (by kernel_rfl) (by kernel_rfl) (by kernel_rfl) (by kernel_rfl) (by kernel_rfl) (fun ex => (pto b59 (.cells #[.int .u64 r55.1, .int .u64 r55.2] 235 (0, 0))) :: (pto b27 (.cells #[.int .u64 r21.1, .int .u64 r21.2] 235 (0, 0))) :: (pto b25 (.cells #[.int .u64 r17.1, .int .u64 r17.2] 235 (0, 0))) :: (pto b3 (.cells #[.int .i64 0, .int .u64 0] 83 (0, 0))) :: (pto b48 (.cells #[.int .u64 r44.1, .int .u64 r44.2] 235 (0, 0))) :: ex) (fun _ _ => (.s (.s (.s (.s (.s .z)))))) r (.f [] r (by kernel_rfl) r r (fun ex => .ixArr (i := 1) underlying235 sizeOf81 r r (by decide) (o := 1) r r r .mk) (.f [0] r (by kernel_rfl) r r (fun ex => .load1 isAgg81 r (.s (.s .z)) r r r .mk) (.f [] r (by kernel_rfl) r r (fun ex => .ixArr (i := 1) underlying235 sizeOf81 r r (by decide) (o := 1) r r r .mk) (.f [2] r (by kernel_rfl) r r (fun ex => .load1 isAgg81 r (.s .z) r r r .mk) (.f [1, 3] r (by kernel_rfl) r r (fun ex => .mul r r r r .mk) (.f [] r (by kernel_rfl) r r (fun ex => .ixArr (i := 1) underlying235 sizeOf81 r r (by decide) (o := 1) r r r .mk) ?_)))))))))
 refine .f [5] r (by kernel_rfl) r r (fun ex => .load1 isAgg81 r (.s (.s (.s (.s .z)))) r r r .mk) (.f [4, 6] r (by kernel_rfl) r r (fun ex => .add r r r r .mk) (.f [] r (by kernel_rfl) r r (fun ex => .ixArr (i := 1) underlying235 sizeOf81 r r (by decide) (o := 1) r r r .mk) (.f [8] r (by kernel_rfl) r r (fun ex => .load1 isAgg81 r .z r r r .mk) (.f [7, 9] r (by kernel_rfl) r r (fun ex => .add r r r r .mk) (.f [10] r (by kernel_rfl) r r (fun ex => .conv underlying81 underlying2 r r r .mk) (.f [] r (by kernel_rfl) r r (fun ex => .ixArr (i := 0) underlying235 sizeOf81 r r (by decide) (o := 0) r r r .mk) (.f [12] r (by kernel_rfl) r r (fun ex => .load1 isAgg81 r .z r r r .mk) (.f [13] r (by kernel_rfl) r r (fun ex => .shl' r r (by decide) r r .mk) (.fs [[]] r (by kernel_rfl) ?_)))))))))
 refine .w [14, 13, 12, 11, 10, 9, 8, 7, 6, 5, 4, 3, 2, 1, 0] [[]] [15] r (by kernel_rfl) (by kernel_rfl) (by kernel_rfl) ((dropE_kept r r)) (.inr (dropE_kept r r)) fun ex => ?_
 have hw62 := W_wide_halves (I := I) hd
 refine .callP call193 r hw62 r r fun v63 hv64 => ?_
 obtain ⟨r61, rfl, hd⟩ := hv64
 refine .some (fun ex => (pto b59 (.cells #[.int .u64 r55.1, .int .u64 r55.2] 235 (0, 0))) :: (pto b27 (.cells #[.int .u64 r21.1, .int .u64 r21.2] 235 (0, 0))) :: (pto b25 (.cells #[.int .u64 r17.1, .int .u64 r17.2] 235 (0, 0))) :: (pto b3 (.cells #[.int .i64 0, .int .u64 0] 83 (0, 0))) :: (pto b48 (.cells #[.int .u64 r44.1, .int .u64 r44.2] 235 (0, 0))) :: ex) r (fun _ _ => (.s (.s (.s (.s (.s .z)))))) r (.cc [13] r (by kernel_rfl) r r r (fun ex => .shl' r r (by decide) r r .mk) (.cc [12] r (by kernel_rfl) r r r (fun ex => .load1 isAgg81 r .z r r r .mk) (.cc [] r (by kernel_rfl) r r r (fun ex => .ixArr (i := 0) underlying235 sizeOf81 r r (by decide) (o := 0) r r r .mk) (.cc [10] r (by kernel_rfl) r r r (fun ex => .conv underlying81 underlying2 r r r .mk) (.cc [7, 9] r (by kernel_rfl) r r r (fun ex => .add r r r r .mk) (.cc [8] r (by kernel_rfl) r r r (fun ex => .load1 isAgg81 r .z r r r .mk) (.cc [] r (by kernel_rfl) r r r (fun ex => .ixArr (i := 1) underlying235 sizeOf81 r r (by decide) (o := 1) r r r .mk) (.cc [4, 6] r (by kernel_rfl) r r r (fun ex => .add r r r r .mk) (.cc [5] r (by kernel_rfl) r r r (fun ex => .load1 isAgg81 r (.s (.s (.s (.s .z)))) r r r .mk) (.cc [] r (by kernel_rfl) r r r (fun ex => .ixArr (i := 1) underlying235 sizeOf81 r r (by decide) (o := 1) r r r .mk) (.cc [1, 3] r (by kernel_rfl) r r r (fun ex => .mul r r r r .mk) (.cc [2] r (by kernel_rfl) r r r (fun ex => .load1 isAgg81 r (.s .z) r r r .mk) (.cc [] r (by kernel_rfl) r r r (fun ex => .ixArr (i := 1) underlying235 sizeOf81 r r (by decide) (o := 1) r r r .mk) (.cc [0] r (by kernel_rfl) r r r (fun ex => .load1 isAgg81 r (.s (.s .z)) r r r .mk) (.cc [] r (by kernel_rfl) r r r (fun ex => .ixArr (i := 1) underlying235 sizeOf81 r r (by decide) (o := 1) r r r .mk) trivial))))))))))))))) (.f [16] r (by kernel_rfl) r r (fun ex => .index1 (i := 0) underlying235 sizeOf81 isAgg81 r r (by decide) r r r .mk) (.f [14, 17] r (by kernel_rfl) r r (fun ex => .or r r r r .mk) (.f [11, 18] r (by kernel_rfl) r r (fun ex => .build zeroValue83 underlying83 BI83 (.c r r r (.t .nil) (.c r r r (.s (.t .nil)) .n)) (by exact ⟨⟨_, _, r, r, r⟩, ⟨⟨_, _, r, r, r⟩, trivial⟩⟩) r r .mk) (.e 20 (by kernel_rfl) (by kernel_rfl) (by kernel_rfl) (.storeA sizeOf83 r r (.s (.s (.s .z))) (.t (.t .nil)) r r (.nilS [4] r r (.drop .z (.drop .z (.drop .z ?_)))))))))
 exact .drop (.s .z) (.ret (pret results185 (.w isAgg83 sizeOf83 r .z r .n) (.refl _) ⟨({ Hi := w64 (IntKind.wrap .u64 ((IntKind.wrap .u64 ((IntKind.wrap .u64 (r17.2 * r21.2)) + r44.2)) + r55.2)), Lo := bor .u64 (shl .u64 r55.1 32) r61.1 } : Wide), r, hd⟩))

theorem W_wide_size {I : IH} {a0 : Int}  {Q : Int → Prop}  (hd : wide_size a0 Q) :
    PFun Tryz.prog 186 [.int .i64 a0] I (fun I_ v => ∃ r, v = .int .u64 r ∧ Q r) := by
 refine Fun.enter func186 r ntmps186 r (.c .n) fun w0 M => ?_
 refine .seq (.region (.skips 1 r (.nilS [0] r r (.seq (.seq (.region (.skips 1 r (.lt r r r r (.nilS [4, 0] r r ?_)))))))))
 refine .condP r hd (fun hb1 hd => ?_) fun hb1 hd => ?_
 · exact .seq (.region (.skips 1 r (.conv underlying2 underlying81 r r r (.neg r r r (.skips 1 r (.nilS [2] r r (.ret (pret results186 (.t r .n) (.refl _) ⟨(IntKind.wrap .u64 (0 - (IntKind.wrap .u64 (a0)))), r, hd⟩))))))))
 exact .skipS [0] r r (.seq (.region (.skips 1 r (.conv underlying2 underlying81 r r r (.skips 1 r (.nilS [2] r r (.ret (pret results186 (.t r .n) (.refl _) ⟨(IntKind.wrap .u64 (a0)), r, hd⟩))))))))

theorem W_wide_carry {I : IH} {a0 : Bool}  {Q : Int → Prop}  (hd : wide_carry a0 Q) :
    PFun Tryz.prog 189 [.bool a0] I (fun I_ v => ∃ r, v = .int .u64 r ∧ Q r) := by
 refine Fun.enter func189 r ntmps189 r (.c .n) fun w0 M => ?_
 refine .seq (.region (.skips 1 r (.nilS [0] r r (.seq (.seq (.region (.skips 1 r (.nilS [3] r r (.condP r hd (fun hb1 hd => ?_) fun hb1 hd => ?_)))))))))
 · exact .seq (.region (.skips 1 r (.nilS [2] r r (.ret (pret results189 (.t r .n) (.refl _) ⟨1, r, hd⟩)))))
 exact .skipS [] r r (.seq (.region (.skips 1 r (.nilS [2] r r (.ret (pret results189 (.t r .n) (.refl _) ⟨0, r, hd⟩))))))

theorem W_wide_Sub {I : IH} {a0 : Wide} {a1 : Wide}  {Q : Wide → Prop}  (hd : wide_Sub a0 a1 Q) :
    PFun Tryz.prog 187 [.agg (encWide a0).toArray, .agg (encWide a1).toArray] I (fun I_ v => ∃ r, v = .agg (encWide r).toArray ∧ Q r) := by
 refine Fun.enter func187 r ntmps187 r (.c (.c .n)) fun w0 M => ?_
 refine .seq (.region (.boxA r r r fun b7 => ?_))
 refine .boxA r r r fun b9 => ?_
 refine .allocA zeroValue83 r r fun b11 => ?_
 refine .nilS [4, 3, 2] r r (.seq (.draw [some 0, some 1, some 2, some 3, some 4, some 5, some 6, some 7, some 8, some 9, some 10, some 11, some 15, some 16, some 17, some 18, some 19, some 12, some 13, some 14, some 20] 21 MX (by kernel_rfl) (by kernel_rfl) (by kernel_rfl) (by kernel_rfl) (by kernel_rfl) (by kernel_rfl) (by kernel_rfl) (fun ex => (pto b11 (.cells #[.int .i64 0, .int .u64 0] 83 (0, 0))) :: (pto b9 (.cells #[.int .i64 a1.Hi, .int .u64 a1.Lo] 83 (0, 0))) :: (pto b7 (.cells #[.int .i64 a0.Hi, .int .u64 a0.Lo] 83 (0, 0))) :: ex) (fun _ _ => (.s (.s (.s .z)))) r (.f [] r (by kernel_rfl) r r (fun ex => .fieldAddr underlying83 r sizeOf2 r (o := 0) r r r .mk) (.f [0] r (by kernel_rfl) r r (fun ex => .load1 isAgg2 r (.s (.s .z)) r r r .mk) (.f [1] r (by kernel_rfl) r r (fun ex => .conv underlying2 underlying81 r r r .mk) (.f [] r (by kernel_rfl) r r (fun ex => .fieldAddr underlying83 r sizeOf2 r (o := 0) r r r .mk) (.f [3] r (by kernel_rfl) r r (fun ex => .load1 isAgg2 r (.s .z) r r r .mk) (.f [4] r (by kernel_rfl) r r (fun ex => .conv underlying2 underlying81 r r r .mk) (.f [2, 5] r (by kernel_rfl) r r (fun ex => .sub' r r r r .mk) ?_)))))))))
 refine .f [] r (by kernel_rfl) r r (fun ex => .fieldAddr underlying83 r sizeOf81 r (o := 1) r r r .mk) (.f [7] r (by kernel_rfl) r r (fun ex => .load1 isAgg81 r (.s (.s .z)) r r r .mk) (.f [] r (by kernel_rfl) r r (fun ex => .fieldAddr underlying83 r sizeOf81 r (o := 1) r r r .mk) (.f [9] r (by kernel_rfl) r r (fun ex => .load1 isAgg81 r (.s .z) r r r .mk) (.f [8, 10] r (by kernel_rfl) r r (fun ex => .lt r r r r .mk) (.f [] r (by kernel_rfl) r r (fun ex => .fieldAddr underlying83 r sizeOf81 r (o := 1) r r r .mk) (.f [15] r (by kernel_rfl) r r (fun ex => .load1 isAgg81 r (.s (.s .z)) r r r .mk) (.f [] r (by kernel_rfl) r r (fun ex => .fieldAddr underlying83 r sizeOf81 r (o := 1) r r r .mk) (.f [17] r (by kernel_rfl) r r (fun ex => .load1 isAgg81 r (.s .z) r r r .mk) (.f [16, 18] r (by kernel_rfl) r r (fun ex => .sub' r r r r .mk) ?_)))))))))
 refine .w [19, 18, 17, 16, 15, 6, 5, 4, 3, 2, 1, 0] [[], [11], [10, 11], [11], [8, 11]] [11] r (by kernel_rfl) (by kernel_rfl) (by kernel_rfl) ((dropE_kept r r)) (.inr (dropE_kept r r)) fun ex => ?_
 have hw14 := W_wide_carry (I := I) hd
 refine .callP call189 r hw14 r r fun v15 hv16 => ?_
 obtain ⟨r13, rfl, hd⟩ := hv16
 exact .some (fun ex => (pto b11 (.cells #[.int .i64 0, .int .u64 0] 83 (0, 0))) :: (pto b9 (.cells #[.int .i64 a1.Hi, .int .u64 a1.Lo] 83 (0, 0))) :: (pto b7 (.cells #[.int .i64 a0.Hi, .int .u64 a0.Lo] 83 (0, 0))) :: ex) r (fun _ _ => (.s (.s (.s .z)))) r (.cc [16, 18] r (by kernel_rfl) r r r (fun ex => .sub' r r r r .mk) (.cc [17] r (by kernel_rfl) r r r (fun ex => .load1 isAgg81 r (.s .z) r r r .mk) (.cc [] r (by kernel_rfl) r r r (fun ex => .fieldAddr underlying83 r sizeOf81 r (o := 1) r r r .mk) (.cc [15] r (by kernel_rfl) r r r (fun ex => .load1 isAgg81 r (.s (.s .z)) r r r .mk) (.cc [] r (by kernel_rfl) r r r (fun ex => .fieldAddr underlying83 r sizeOf81 r (o := 1) r r r .mk) (.cc [2, 5] r (by kernel_rfl) r r r (fun ex => .sub' r r r r .mk) (.cc [4] r (by kernel_rfl) r r r (fun ex => .conv underlying2 underlying81 r r r .mk) (.cc [3] r (by kernel_rfl) r r r (fun ex => .load1 isAgg2 r (.s .z) r r r .mk) (.cc [] r (by kernel_rfl) r r r (fun ex => .fieldAddr underlying83 r sizeOf2 r (o := 0) r r r .mk) (.cc [1] r (by kernel_rfl) r r r (fun ex => .conv underlying2 underlying81 r r r .mk) (.cc [0] r (by kernel_rfl) r r r (fun ex => .load1 isAgg2 r (.s (.s .z)) r r r .mk) (.cc [] r (by kernel_rfl) r r r (fun ex => .fieldAddr underlying83 r sizeOf2 r (o := 0) r r r .mk) trivial)))))))))))) (.f [6, 12] r (by kernel_rfl) r r (fun ex => .sub' r r r r .mk) (.f [13] r (by kernel_rfl) r r (fun ex => .conv underlying81 underlying2 r r r .mk) (.f [14, 19] r (by kernel_rfl) r r (fun ex => .build zeroValue83 underlying83 BI83 (.c r r r (.t .nil) (.c r r r (.s (.t .nil)) .n)) (by exact ⟨⟨_, _, r, r, r⟩, ⟨⟨_, _, r, r, r⟩, trivial⟩⟩) r r .mk) (.e 21 (by kernel_rfl) (by kernel_rfl) (by kernel_rfl) (.storeA sizeOf83 r r .z (.t (.t .nil)) r r (.nilS [4] r r (.drop (.s .z) (.drop (.s .z) (.ret (pret results187 (.w isAgg83 sizeOf83 r .z r .n) (.refl _) ⟨({ Hi := w64 (IntKind.wrap .u64 ((IntKind.wrap .u64 ((IntKind.wrap .u64 (a0.Hi)) - (IntKind.wrap .u64 (a1.Hi)))) - r13)), Lo := IntKind.wrap .u64 (a0.Lo - a1.Lo) } : Wide), r, hd⟩))))))))))

theorem W_wide_Mul {I : IH} {a0 : Int} {a1 : Int}  {Q : Wide → Prop}  (hd : wide_Mul a0 a1 Q) :
    PFun Tryz.prog 165 [.int .i64 a0, .int .i64 a1] I (fun I_ v => ∃ r, v = .agg (encWide r).toArray ∧ Q r) := by
 refine Fun.enter func165 r ntmps165 r (.c (.c .n)) fun w0 M => ?_
 refine .seq (.region (.allocA zeroValue83 r r fun b3 => ?_))
 refine .nilS [4, 1, 0] r r (.seq (.region (.skips 1 r ?_)))
 have hw20 := W_wide_size (I := I) hd
 refine .callP call186 r hw20 r r fun v21 hv22 => ?_
 obtain ⟨r19, rfl, hd⟩ := hv22
 refine .skips 1 r ?_
 have hw24 := W_wide_size (I := I) hd
 refine .callP call186 r hw24 r r fun v25 hv26 => ?_
 obtain ⟨r23, rfl, hd⟩ := hv26
 have hw28 := W_wide_product (I := I) hd
 refine .callP call185 r hw28 r r fun v29 hv30 => ?_
 obtain ⟨r27, rfl, hd⟩ := hv30
 refine .allocA zeroValue83 r r fun b31 => ?_
 refine .storeA sizeOf83 r r .z (.t (.t .nil)) r r (.nilS [5, 4, 1, 0] r r (.seq (.seq (.region (.skips 1 r (.lt r r r r (.skips 1 r (.lt r r r r (.neB underlying4 r r r r ?_)))))))))
 refine .nilS [15, 5, 4] r r (.condP r hd (fun hb33 hd => ?_) fun hb33 hd => ?_)
 · refine .seq (.region (.build zeroValue83 underlying83 BI83 .n (by exact trivial) r r (.loadW isAgg83 sizeOf83 r .z r r r ?_)))
   have hw35 := W_wide_Sub (I := I) hd
   refine .callP call187 r hw35 r r fun v36 hv37 => ?_
   obtain ⟨r34, rfl, hd⟩ := hv37
   exact .storeA sizeOf83 r r (.s .z) (.t (.t .nil)) r r (.nilS [4] r r (.drop .z (.ret (pret results165 (.w isAgg83 sizeOf83 r .z r .n) (.refl _) ⟨r34, r, hd⟩))))
 exact .skipS [5, 4] r r (.seq (.region (.loadW isAgg83 sizeOf83 r .z r r r (.storeA sizeOf83 r r (.s .z) (.t (.t .nil)) r r (.nilS [4] r r (.drop .z (.ret (pret results165 (.w isAgg83 sizeOf83 r .z r .n) (.refl _) ⟨r27, r, hd⟩))))))))

theorem W_cmp_isNaN_int64 {I : IH} {a0 : Int}  {Q : Bool → Prop}  (hd : cmp_isNaN_int64 a0 Q) :
    PFun Tryz.prog 196 [.int .i64 a0] I (fun I_ v => ∃ r, v = .bool r ∧ Q r) := by
 refine Fun.enter func196 r ntmps196 r (.c .n) fun w0 M => ?_
 refine .seq (.region (.skips 1 r (.nilS [0] r r (.seq (.region (.skips 2 r (.ne r r r r (.skips 1 r (.nilS [2] r r ?_)))))))))
 exact .ret (pret results196 (.t r .n) (.refl _) ⟨(a0 != a0), r, hd⟩)

theorem W_cmp_Compare_int64 {I : IH} {a0 : Int} {a1 : Int}  {Q : Int → Prop}  (hd : cmp_Compare_int64 a0 a1 Q) :
    PFun Tryz.prog 194 [.int .i64 a0, .int .i64 a1] I (fun I_ v => ∃ r, v = .int .i64 r ∧ Q r) := by
 refine Fun.enter func194 r ntmps194 r (.c (.c .n)) fun w0 M => ?_
 refine .seq (.region (.skips 1 r (.nilS [1, 0] r r (.seq (.region (.skips 1 r ?_))))))
 have hw6 := W_cmp_isNaN_int64 (I := I) hd
 refine .callP call196 r hw6 r r fun v7 hv8 => ?_
 obtain ⟨r5, rfl, hd⟩ := hv8
 refine .skips 1 r (.nilS [5, 1, 0] r r (.seq (.region (.skips 1 r ?_))))
 have hw14 := W_cmp_isNaN_int64 (I := I) hd
 refine .callP call196 r hw14 r r fun v15 hv16 => ?_
 obtain ⟨r13, rfl, hd⟩ := hv16
 refine .skips 1 r (.nilS [6, 5, 1, 0] r r (.seq (.seq (.region (.skips 1 r (.nilS [11, 6, 1, 0] r r (.condP r hd (fun hb19 hd => ?_) fun hb19 hd => ?_)))))))
 · refine .seq (.seq (.region (.skips 1 r (.nilS [12] r r (.condP r hd (fun hb20 hd => ?_) fun hb20 hd => ?_)))))
   · exact .seq (.region (.skips 1 r (.nilS [4] r r (.ret (pret results194 (.t r .n) (.refl _) ⟨0, r, hd⟩)))))
   exact .skipS [] r r (.seq (.region (.skips 1 r (.nilS [4] r r (.ret (pret results194 (.t r .n) (.refl _) ⟨(-1), r, hd⟩))))))
 refine .skipS [6, 1, 0] r r (.seq (.seq (.region (.skips 1 r (.nilS [13, 1, 0] r r (.condP r hd (fun hb22 hd => ?_) fun hb22 hd => ?_))))))
 · exact .seq (.region (.skips 1 r (.nilS [4] r r (.ret (pret results194 (.t r .n) (.refl _) ⟨1, r, hd⟩)))))
 refine .skipS [1, 0] r r (.seq (.seq (.region (.skips 2 r (.lt r r r r (.nilS [16, 1, 0] r r (.condP r hd (fun hb24 hd => ?_) fun hb24 hd => ?_)))))))
 · exact .seq (.region (.skips 1 r (.nilS [4] r r (.ret (pret results194 (.t r .n) (.refl _) ⟨(-1), r, hd⟩)))))
 refine .skipS [1, 0] r r (.seq (.seq (.region (.skips 2 r (.gt r r r r (.nilS [19] r r (.condP r hd (fun hb25 hd => ?_) fun hb25 hd => ?_)))))))
 · exact .seq (.region (.skips 1 r (.nilS [4] r r (.ret (pret results194 (.t r .n) (.refl _) ⟨1, r, hd⟩)))))
 exact .skipS [] r r (.seq (.region (.skips 1 r (.nilS [4] r r (.ret (pret results194 (.t r .n) (.refl _) ⟨0, r, hd⟩))))))

theorem W_cmp_isNaN_uint64 {I : IH} {a0 : Int}  {Q : Bool → Prop}  (hd : cmp_isNaN_uint64 a0 Q) :
    PFun Tryz.prog 197 [.int .u64 a0] I (fun I_ v => ∃ r, v = .bool r ∧ Q r) := by
 refine Fun.enter func197 r ntmps197 r (.c .n) fun w0 M => ?_
 refine .seq (.region (.skips 1 r (.nilS [0] r r (.seq (.region (.skips 2 r (.ne r r r r (.skips 1 r (.nilS [2] r r ?_)))))))))
 exact .ret (pret results197 (.t r .n) (.refl _) ⟨(a0 != a0), r, hd⟩)

theorem W_cmp_Compare_uint64 {I : IH} {a0 : Int} {a1 : Int}  {Q : Int → Prop}  (hd : cmp_Compare_uint64 a0 a1 Q) :
    PFun Tryz.prog 195 [.int .u64 a0, .int .u64 a1] I (fun I_ v => ∃ r, v = .int .i64 r ∧ Q r) := by
 refine Fun.enter func195 r ntmps195 r (.c (.c .n)) fun w0 M => ?_
 refine .seq (.region (.skips 1 r (.nilS [1, 0] r r (.seq (.region (.skips 1 r ?_))))))
 have hw6 := W_cmp_isNaN_uint64 (I := I) hd
 refine .callP call197 r hw6 r r fun v7 hv8 => ?_
 obtain ⟨r5, rfl, hd⟩ := hv8
 refine .skips 1 r (.nilS [5, 1, 0] r r (.seq (.region (.skips 1 r ?_))))
 have hw14 := W_cmp_isNaN_uint64 (I := I) hd
 refine .callP call197 r hw14 r r fun v15 hv16 => ?_
 obtain ⟨r13, rfl, hd⟩ := hv16
 refine .skips 1 r (.nilS [6, 5, 1, 0] r r (.seq (.seq (.region (.skips 1 r (.nilS [11, 6, 1, 0] r r (.condP r hd (fun hb19 hd => ?_) fun hb19 hd => ?_)))))))
 · refine .seq (.seq (.region (.skips 1 r (.nilS [12] r r (.condP r hd (fun hb20 hd => ?_) fun hb20 hd => ?_)))))
   · exact .seq (.region (.skips 1 r (.nilS [4] r r (.ret (pret results195 (.t r .n) (.refl _) ⟨0, r, hd⟩)))))
   exact .skipS [] r r (.seq (.region (.skips 1 r (.nilS [4] r r (.ret (pret results195 (.t r .n) (.refl _) ⟨(-1), r, hd⟩))))))
 refine .skipS [6, 1, 0] r r (.seq (.seq (.region (.skips 1 r (.nilS [13, 1, 0] r r (.condP r hd (fun hb22 hd => ?_) fun hb22 hd => ?_))))))
 · exact .seq (.region (.skips 1 r (.nilS [4] r r (.ret (pret results195 (.t r .n) (.refl _) ⟨1, r, hd⟩)))))
 refine .skipS [1, 0] r r (.seq (.seq (.region (.skips 2 r (.lt r r r r (.nilS [16, 1, 0] r r (.condP r hd (fun hb24 hd => ?_) fun hb24 hd => ?_)))))))
 · exact .seq (.region (.skips 1 r (.nilS [4] r r (.ret (pret results195 (.t r .n) (.refl _) ⟨(-1), r, hd⟩)))))
 refine .skipS [1, 0] r r (.seq (.seq (.region (.skips 2 r (.gt r r r r (.nilS [19] r r (.condP r hd (fun hb25 hd => ?_) fun hb25 hd => ?_)))))))
 · exact .seq (.region (.skips 1 r (.nilS [4] r r (.ret (pret results195 (.t r .n) (.refl _) ⟨1, r, hd⟩)))))
 exact .skipS [] r r (.seq (.region (.skips 1 r (.nilS [4] r r (.ret (pret results195 (.t r .n) (.refl _) ⟨0, r, hd⟩))))))

theorem W_wide_Compare {I : IH} {a0 : Wide} {a1 : Wide}  {Q : Int → Prop}  (hd : wide_Compare a0 a1 Q) :
    PFun Tryz.prog 188 [.agg (encWide a0).toArray, .agg (encWide a1).toArray] I (fun I_ v => ∃ r, v = .int .i64 r ∧ Q r) := by
 refine Fun.enter func188 r ntmps188 r (.c (.c .n)) fun w0 M => ?_
 refine .seq (.region (.boxA r r r fun b5 => ?_))
 refine .boxA r r r fun b7 => ?_
 refine .skips 1 r (.nilS [3, 2] r r (.seq (.draw [some 0, some 1, some 2, some 3, some 5, some 6, some 7, some 8, some 4, some 9, some 10, some 11] 12 MX (by kernel_rfl) (by kernel_rfl) (by kernel_rfl) (by kernel_rfl) (by kernel_rfl) (by kernel_rfl) (by kernel_rfl) (fun ex => (pto b7 (.cells #[.int .i64 a1.Hi, .int .u64 a1.Lo] 83 (0, 0))) :: (pto b5 (.cells #[.int .i64 a0.Hi, .int .u64 a0.Lo] 83 (0, 0))) :: ex) (fun _ _ => (.s (.s .z))) r (.f [] r (by kernel_rfl) r r (fun ex => .fieldAddr underlying83 r sizeOf2 r (o := 0) r r r .mk) (.f [0] r (by kernel_rfl) r r (fun ex => .load1 isAgg2 r (.s .z) r r r .mk) (.f [] r (by kernel_rfl) r r (fun ex => .fieldAddr underlying83 r sizeOf2 r (o := 0) r r r .mk) (.f [2] r (by kernel_rfl) r r (fun ex => .load1 isAgg2 r .z r r r .mk) (.f [] r (by kernel_rfl) r r (fun ex => .fieldAddr underlying83 r sizeOf81 r (o := 1) r r r .mk) (.f [5] r (by kernel_rfl) r r (fun ex => .load1 isAgg81 r (.s .z) r r r .mk) ?_)))))))))
 refine .f [] r (by kernel_rfl) r r (fun ex => .fieldAddr underlying83 r sizeOf81 r (o := 1) r r r .mk) (.f [7] r (by kernel_rfl) r r (fun ex => .load1 isAgg81 r .z r r r .mk) (.w [8, 7, 6, 5] [[], [3], [], [1]] [1, 3] r (by kernel_rfl) (by kernel_rfl) (by kernel_rfl) ((dropE_kept r r)) (.inr (dropE_kept r r)) fun ex => ?_))
 have hw10 := W_cmp_Compare_int64 (I := I) hd
 refine .callP call194 r hw10 r r fun v11 hv12 => ?_
 obtain ⟨r9, rfl, hd⟩ := hv12
 refine .some (fun ex => (pto b7 (.cells #[.int .i64 a1.Hi, .int .u64 a1.Lo] 83 (0, 0))) :: (pto b5 (.cells #[.int .i64 a0.Hi, .int .u64 a0.Lo] 83 (0, 0))) :: ex) r (fun _ _ => (.s (.s .z))) r (.cc [7] r (by kernel_rfl) r r r (fun ex => .load1 isAgg81 r .z r r r .mk) (.cc [] r (by kernel_rfl) r r r (fun ex => .fieldAddr underlying83 r sizeOf81 r (o := 1) r r r .mk) (.cc [5] r (by kernel_rfl) r r r (fun ex => .load1 isAgg81 r (.s .z) r r r .mk) (.cc [] r (by kernel_rfl) r r r (fun ex => .fieldAddr underlying83 r sizeOf81 r (o := 1) r r r .mk) trivial)))) (.w [] [[], [8], [], [6]] [6, 8, 4] r (by kernel_rfl) (by kernel_rfl) (by kernel_rfl) ((dropE_kept r r)) (.inr (dropE_kept r r)) fun ex => ?_)
 have hw14 := W_cmp_Compare_uint64 (I := I) hd
 refine .callP call195 r hw14 r r fun v15 hv16 => ?_
 obtain ⟨r13, rfl, hd⟩ := hv16
 refine .some (fun ex => (pto b7 (.cells #[.int .i64 a1.Hi, .int .u64 a1.Lo] 83 (0, 0))) :: (pto b5 (.cells #[.int .i64 a0.Hi, .int .u64 a0.Lo] 83 (0, 0))) :: ex) r (fun _ _ => (.s (.s .z))) r trivial (.w [] [] [4, 9] r (by kernel_rfl) (by kernel_rfl) (by kernel_rfl) ((dropE_kept r r)) (.inr (dropE_kept r r)) fun ex => ?_)
 refine .buildSlice 2 underlying36 sizeOf3 zeroValue3 r r (.c r r r (.c r r r .n)) r r fun b17 => ?_
 refine .some (fun ex => (pto b17 (.cells #[.int .i64 r9, .int .i64 r13] 3 (0, 0))) :: (pto b7 (.cells #[.int .i64 a1.Hi, .int .u64 a1.Lo] 83 (0, 0))) :: (pto b5 (.cells #[.int .i64 a0.Hi, .int .u64 a0.Lo] 83 (0, 0))) :: ex) r (fun _ _ => (.s (.s (.s .z)))) r trivial (.w [] [] [10, 9] r (by kernel_rfl) (by kernel_rfl) (by kernel_rfl) ((dropE_kept r r)) (.inr (dropE_kept r r)) fun ex => ?_)
 refine .pubB (El := eI64) (ys := ([r9, r13] : List Int)) (k := 2) .z (RepCs.cons (cs := [.int .i64 r9]) r (RepCs.cons (cs := [.int .i64 r13]) r .nil)) r fun I19 hl20 R21 => ?_
 have le22 := IH.le.trans (.refl _) hl20
 have hw24 := W_cmp_Or_int (I := I19) R21 hd
 refine .callP call130 r hw24 r r fun v25 hv26 => ?_
 obtain ⟨r23, rfl, hd⟩ := hv26
 exact .some (fun ex => (pto b7 (.cells #[.int .i64 a1.Hi, .int .u64 a1.Lo] 83 (0, 0))) :: (pto b5 (.cells #[.int .i64 a0.Hi, .int .u64 a0.Lo] 83 (0, 0))) :: ex) r (fun _ _ => (.s (.s .z))) r trivial (.e 12 (by kernel_rfl) (by kernel_rfl) (by kernel_rfl) (.skips 1 r (.nilS [4] r r (.drop .z (.drop .z (.ret (pret results188 (.t r .n) le22 ⟨r23, r, hd⟩)))))))

theorem W_ring_lesser {I : IH} {a0 : Wide} {a1 : Wide}  {Q : Wide → Prop}  (hd : ring_lesser a0 a1 Q) :
    PFun Tryz.prog 167 [.agg (encWide a0).toArray, .agg (encWide a1).toArray] I (fun I_ v => ∃ r, v = .agg (encWide r).toArray ∧ Q r) := by
 refine Fun.enter func167 r ntmps167 r (.c (.c .n)) fun w0 M => ?_
 refine .seq (.region (.boxA r r r fun b7 => ?_))
 refine .boxA r r r fun b9 => ?_
 refine .allocA zeroValue83 r r fun b11 => ?_
 refine .nilS [4, 3, 2] r r (.seq (.seq (.region (.loadW isAgg83 sizeOf83 r (.s (.s .z)) r r r (.loadW isAgg83 sizeOf83 r (.s .z) r r r ?_)))))
 have hw14 := W_wide_Compare (I := I) hd
 refine .callP call188 r hw14 r r fun v15 hv16 => ?_
 obtain ⟨r13, rfl, hd⟩ := hv16
 refine .le' r r r r (.nilS [8, 4, 3, 2] r r (.condP r hd (fun hb17 hd => ?_) fun hb17 hd => ?_))
 · exact .seq (.region (.loadW isAgg83 sizeOf83 r (.s (.s .z)) r r r (.storeA sizeOf83 r r .z (.t (.t .nil)) r r (.nilS [4] r r (.drop (.s .z) (.drop (.s .z) (.ret (pret results167 (.w isAgg83 sizeOf83 r .z r .n) (.refl _) ⟨a0, r, hd⟩))))))))
 exact .skipS [4, 3] r r (.drop (.s (.s .z)) (.seq (.region (.loadW isAgg83 sizeOf83 r (.s .z) r r r (.storeA sizeOf83 r r .z (.t (.t .nil)) r r (.nilS [4] r r (.drop (.s .z) (.ret (pret results167 (.w isAgg83 sizeOf83 r .z r .n) (.refl _) ⟨a1, r, hd⟩)))))))))

theorem W_wide_Add {I : IH} {a0 : Wide} {a1 : Wide}  {Q : Wide → Prop}  (hd : wide_Add a0 a1 Q) :
    PFun Tryz.prog 168 [.agg (encWide a0).toArray, .agg (encWide a1).toArray] I (fun I_ v => ∃ r, v = .agg (encWide r).toArray ∧ Q r) := by
 refine Fun.enter func168 r ntmps168 r (.c (.c .n)) fun w0 M => ?_
 refine .seq (.region (.boxA r r r fun b7 => ?_))
 refine .boxA r r r fun b9 => ?_
 refine .allocA zeroValue83 r r fun b11 => ?_
 refine .nilS [4, 3, 2] r r (.seq (.region (.fieldAddr underlying83 r sizeOf81 r (o := 1) r r r (.load1 isAgg81 r (.s (.s .z)) r r r (.fieldAddr underlying83 r sizeOf81 r (o := 1) r r r (.load1 isAgg81 r (.s .z) r r r (.add r r r r (.skips 1 r (.nilS [5, 4, 3, 2] r r ?_)))))))))
 refine .seq (.draw [some 0, some 1, some 2, some 3, some 4, some 5, some 6, some 7, some 8, some 9, some 10, some 14, some 11, some 12, some 13, some 15] 16 MX (by kernel_rfl) (by kernel_rfl) (by kernel_rfl) (by kernel_rfl) (by kernel_rfl) (by kernel_rfl) (by kernel_rfl) (fun ex => (pto b11 (.cells #[.int .i64 0, .int .u64 0] 83 (0, 0))) :: (pto b9 (.cells #[.int .i64 a1.Hi, .int .u64 a1.Lo] 83 (0, 0))) :: (pto b7 (.cells #[.int .i64 a0.Hi, .int .u64 a0.Lo] 83 (0, 0))) :: ex) (fun _ _ => (.s (.s (.s .z)))) r (.f [] r (by kernel_rfl) r r (fun ex => .fieldAddr underlying83 r sizeOf2 r (o := 0) r r r .mk) (.f [0] r (by kernel_rfl) r r (fun ex => .load1 isAgg2 r (.s (.s .z)) r r r .mk) (.f [1] r (by kernel_rfl) r r (fun ex => .conv underlying2 underlying81 r r r .mk) (.f [] r (by kernel_rfl) r r (fun ex => .fieldAddr underlying83 r sizeOf2 r (o := 0) r r r .mk) (.f [3] r (by kernel_rfl) r r (fun ex => .load1 isAgg2 r (.s .z) r r r .mk) (.f [4] r (by kernel_rfl) r r (fun ex => .conv underlying2 underlying81 r r r .mk) (.f [2, 5] r (by kernel_rfl) r r (fun ex => .add r r r r .mk) (.fs [[]] r (by kernel_rfl) ?_)))))))))
 refine .f [] r (by kernel_rfl) r r (fun ex => .fieldAddr underlying83 r sizeOf81 r (o := 1) r r r .mk) (.f [8] r (by kernel_rfl) r r (fun ex => .load1 isAgg81 r (.s .z) r r r .mk) (.f [7, 9] r (by kernel_rfl) r r (fun ex => .lt r r r r .mk) (.fs [[]] r (by kernel_rfl) (.w [14, 6, 5, 4, 3, 2, 1, 0] [[], [10], [9, 10], [10]] [10] r (by kernel_rfl) (by kernel_rfl) (by kernel_rfl) ((dropE_kept r r)) (.inr (dropE_kept r r)) fun ex => ?_))))
 have hw14 := W_wide_carry (I := I) hd
 refine .callP call189 r hw14 r r fun v15 hv16 => ?_
 obtain ⟨r13, rfl, hd⟩ := hv16
 exact .some (fun ex => (pto b11 (.cells #[.int .i64 0, .int .u64 0] 83 (0, 0))) :: (pto b9 (.cells #[.int .i64 a1.Hi, .int .u64 a1.Lo] 83 (0, 0))) :: (pto b7 (.cells #[.int .i64 a0.Hi, .int .u64 a0.Lo] 83 (0, 0))) :: ex) r (fun _ _ => (.s (.s (.s .z)))) r (.ccs [[]] r r (by kernel_rfl) (.cc [2, 5] r (by kernel_rfl) r r r (fun ex => .add r r r r .mk) (.cc [4] r (by kernel_rfl) r r r (fun ex => .conv underlying2 underlying81 r r r .mk) (.cc [3] r (by kernel_rfl) r r r (fun ex => .load1 isAgg2 r (.s .z) r r r .mk) (.cc [] r (by kernel_rfl) r r r (fun ex => .fieldAddr underlying83 r sizeOf2 r (o := 0) r r r .mk) (.cc [1] r (by kernel_rfl) r r r (fun ex => .conv underlying2 underlying81 r r r .mk) (.cc [0] r (by kernel_rfl) r r r (fun ex => .load1 isAgg2 r (.s (.s .z)) r r r .mk) (.cc [] r (by kernel_rfl) r r r (fun ex => .fieldAddr underlying83 r sizeOf2 r (o := 0) r r r .mk) trivial)))))))) (.f [6, 11] r (by kernel_rfl) r r (fun ex => .add r r r r .mk) (.f [12] r (by kernel_rfl) r r (fun ex => .conv underlying81 underlying2 r r r .mk) (.f [13, 14] r (by kernel_rfl) r r (fun ex => .build zeroValue83 underlying83 BI83 (.c r r r (.t .nil) (.c r r r (.s (.t .nil)) .n)) (by exact ⟨⟨_, _, r, r, r⟩, ⟨⟨_, _, r, r, r⟩, trivial⟩⟩) r r .mk) (.e 16 (by kernel_rfl) (by kernel_rfl) (by kernel_rfl) (.storeA sizeOf83 r r .z (.t (.t .nil)) r r (.nilS [4] r r (.drop (.s .z) (.drop (.s .z) (.ret (pret results168 (.w isAgg83 sizeOf83 r .z r .n) (.refl _) ⟨({ Hi := w64 (IntKind.wrap .u64 ((IntKind.wrap .u64 ((IntKind.wrap .u64 (a0.Hi)) + (IntKind.wrap .u64 (a1.Hi)))) + r13)), Lo := IntKind.wrap .u64 (a0.Lo + a1.Lo) } : Wide), r, hd⟩))))))))))

theorem W_ring_Mul {I : IH} {a0 : Int} {a1 : Int} {a2 : Int}  {Q : Wide → Prop}  (hd : ring_Mul a0 a1 a2 Q) :
    PFun Tryz.prog 135 [.int .i64 a0, .int .i64 a1, .int .i64 a2] I (fun I_ v => ∃ r, v = .agg (encWide r).toArray ∧ Q r) := by
 refine Fun.enter func135 r ntmps135 r (.c (.c (.c .n))) fun w0 M => ?_
 refine .seq (.region (.allocA zeroValue83 r r fun b3 => ?_))
 refine .nilS [6, 2, 1, 0] r r (.seq (.seq (.region (.skips 1 r (.nilS [8, 6, 2, 1, 0] r r (.block (.seq (.region (.eq r r r r ?_)))))))))
 refine .skips 1 r (.nilS [9, 8, 6, 2, 1, 0] r r (.condP r hd (fun hb20 hd => ?_) fun hb20 hd => ?_))
 · refine .seq (.region (.skips 1 r (.ne r r r r (.skips 1 r ?_))))
   refine splitP hd (fun hb21 hd => ?_) fun hb21 hd => ?_
   · rw [hb21]
     refine .gyes r r r (.move r r r (.gyes r r r (.ne r r r r (.skips 1 r ?_))))
     have hw23 := W_ring_truth (I := I) hd
     refine .callP call164 r hw23 r r fun v24 hv25 => ?_
     obtain ⟨r22, rfl, hd⟩ := hv25
     exact .storeA sizeOf83 r r .z (.t (.t .nil)) r r (.nilS [6] r r (.ret (pret results135 (.w isAgg83 sizeOf83 r .z r .n) (.refl _) ⟨r22, r, hd⟩)))
   rw [hb21]
   refine .skips 3 r ?_
   have hw27 := W_ring_truth (I := I) hd
   refine .callP call164 r hw27 r r fun v28 hv29 => ?_
   obtain ⟨r26, rfl, hd⟩ := hv29
   exact .storeA sizeOf83 r r .z (.t (.t .nil)) r r (.nilS [6] r r (.ret (pret results135 (.w isAgg83 sizeOf83 r .z r .n) (.refl _) ⟨r26, r, hd⟩)))
 refine .seq (.region (.eq r r r r (.skips 1 r (.nilS [18, 6, 2, 1, 0] r r (.condP r hd (fun hb30 hd => ?_) fun hb30 hd => ?_)))))
 · refine .seq (.region (.skips 2 r ?_))
   have hw32 := W_wide_Mul (I := I) hd
   refine .callP call165 r hw32 r r fun v33 hv34 => ?_
   obtain ⟨r31, rfl, hd⟩ := hv34
   exact .storeA sizeOf83 r r .z (.t (.t .nil)) r r (.nilS [6] r r (.ret (pret results135 (.w isAgg83 sizeOf83 r .z r .n) (.refl _) ⟨r31, r, hd⟩)))
 refine .skipS [6, 2, 1, 0] r r (.seq ?_)
 refine Cod.joinQ (σ := Unit) hd (fun (_ : Unit) c w => ∃ I_, IH.le I I_ ∧ Ok ⟨51, [], none⟩ [(0, .int .i64 a0), (1, .int .i64 a1), (2, .int .i64 a2), (6, .pointer (some ⟨b3, 0, none⟩))] c ∧ Sym w0 M I I_ [pto b3 (.cells #[.int .i64 0, .int .u64 0] 83 (0, 0))] w) (fun k55 hd => ?_) ?_
 · skip
   refine .seq (.region (.skips 1 r ?_))
   have hw57 := W_ring_Is (I := I) hd
   refine .callP call109 r hw57 r r fun v58 hv59 => ?_
   obtain ⟨r56, rfl, hd⟩ := hv59
   refine .skips 1 r ?_
   refine splitP hd (fun hb60 hd => ?_) fun hb60 hd => ?_
   · rw [hb60]
     refine .gyes r r r (.move r r r (.gyes r r r (.move r r r (.gyes r r r (.maxI r r r r (.gyes r r r (.ge r r r r (.skips 1 r (.nilS [30, 6, 2, 1, 0] r r (.condP r hd (fun hb61 hd => ?_) fun hb61 hd => ?_))))))))))
     · refine .seq (.region ?_)
       have hw63 := W_wide_Of (I := I) hd
       refine .callP call166 r hw63 r r fun v64 hv65 => ?_
       obtain ⟨r62, rfl, hd⟩ := hv65
       exact .storeA sizeOf83 r r .z (.t (.t .nil)) r r (.nilS [6] r r (.ret (pret results135 (.w isAgg83 sizeOf83 r .z r .n) (.refl _) ⟨r62, r, hd⟩)))
     exact .skip' fun c w ho hs => ⟨(), hd, I, (.refl _), ho.sub ⟨r, r, r, r, trivial⟩, hs.pick (.c .z .n)⟩
   rw [hb60]
   exact .skips 5 r (.nilS [30, 6, 2, 1, 0] r r (.condKF r r (.skip' fun c w ho hs => ⟨(), hd, I, (.refl _), ho.sub ⟨r, r, r, r, trivial⟩, hs.pick (.c .z .n)⟩)))
 rintro ⟨⟩ hd c w hst
 obtain ⟨I66, hl67, hok, hsym⟩ := hst
 have le68 := IH.le.trans (.refl _) hl67
 refine Cod.at hok hsym (.seq (.region (.build zeroValue83 underlying83 BI83 .n (by exact trivial) r r (.allocA zeroValue83 r r fun b71 => ?_))))
 refine .storeA sizeOf83 r r .z (.t (.t .nil)) r r (.nilS [7, 6, 2, 1, 0] r r (.seq (.seq (.region (.skips 1 r (.nilS [33, 7, 6, 2, 1] r r (.block (.seq (.block ?_)))))))))
 refine .seq ?_
 refine Cod.joinQ (σ := Int × Int) hd (fun (s : Int × Int) c w => match s with | (s89, s90) => ∃ I_, IH.le I66 I_ ∧ Ok ⟨51, [], none⟩ [(2, .int .i64 a2), (6, .pointer (some ⟨b3, 0, none⟩)), (7, .pointer (some ⟨b71, 0, none⟩))] c ∧ Sym w0 M I I_ [pto b3 (.cells #[.int .i64 0, .int .u64 0] 83 (0, 0)), pto b71 (.cells #[.int .i64 s89, .int .u64 s90] 83 (0, 0))] w) (fun k91 hd => ?_) ?_
 · skip
   refine .block (.seq (.block (.seq (.seq (.seq (.region (.eq r r r r (.skips 1 r (.nilS [34, 33, 7, 6, 2, 1] r r ?_)))))))))
   refine .condP r hd (fun hb93 hd => ?_) fun hb93 hd => ?_
   · refine .exitS [7, 6, 2, 1] r r (.region (.skips 1 r ?_))
     have hw95 := W_wide_Of (I := I66) hd
     refine .callP call166 r hw95 r r fun v96 hv97 => ?_
     obtain ⟨r94, rfl, hd⟩ := hv97
     exact .storeA sizeOf83 r r .z (.t (.t .nil)) r r (.nil' fun c w ho hs => ⟨(r94.Hi, r94.Lo), hd, I66, (.refl _), ho.sub ⟨r, r, r, trivial⟩, hs.pick (.c (.s .z) (.c .z .n))⟩)
   refine .skipS [33, 7, 6, 2, 1] r r (.seq (.seq (.region (.eq r r r r (.skips 1 r (.nilS [36, 33, 7, 6, 2, 1] r r (.condP r hd (fun hb98 hd => ?_) fun hb98 hd => ?_)))))))
   · exact .exit fun c w ho hs => ⟨(0, 0), hd, I66, (.refl _), ho.sub ⟨r, r, r, trivial⟩, hs.pick (.c (.s .z) (.c .z .n))⟩
   refine .skipS [33, 7, 6, 1] r r (.seq (.region (.eq r r r r (.skips 1 r (.nilS [38, 7, 6, 1] r r (.condP r hd (fun hb99 hd => ?_) fun hb99 hd => ?_))))))
   · refine .exitS [6, 1] r r (.drop .z (.seq (.seq (.region (.skips 1 r ?_)))))
     have hw101 := W_wide_Of (I := I66) hd
     refine .callP call166 r hw101 r r fun v102 hv103 => ?_
     obtain ⟨r100, rfl, hd⟩ := hv103
     exact .storeA sizeOf83 r r .z (.t (.t .nil)) r r (.nilS [6] r r (.ret (pret results135 (.w isAgg83 sizeOf83 r .z r .n) le68 ⟨r100, r, hd⟩)))
   exact .skipS [7, 6] r r (.exitS [7, 6] r r (.seq (.region (.loadW isAgg83 sizeOf83 r .z r r r (.storeA sizeOf83 r r (.s .z) (.t (.t .nil)) r r (.nilS [6] r r (.drop .z (.ret (pret results135 (.w isAgg83 sizeOf83 r .z r .n) le68 ⟨({ Hi := 0, Lo := 0 } : Wide), r, hd⟩)))))))))
 rintro ⟨s89, s90⟩ hd c w hst
 obtain ⟨I104, hl105, hok, hsym⟩ := hst
 have le106 := IH.le.trans le68 hl105
 have le107 := IH.le.trans (.refl _) hl105
 refine Cod.at hok hsym (.seq (.seq (.draw [some 1, some 2, some 0, some 3, some 4, some 5] 6 MX (by kernel_rfl) (by kernel_rfl) (by kernel_rfl) (by kernel_rfl) (by kernel_rfl) (by kernel_rfl) (by kernel_rfl) (fun ex => (pto b3 (.cells #[.int .i64 0, .int .u64 0] 83 (0, 0))) :: (pto b71 (.cells #[.int .i64 s89, .int .u64 s90] 83 (0, 0))) :: ex) (fun _ _ => (.s (.s .z))) r (.f [] r (by kernel_rfl) r r (fun ex => .loadW isAgg83 sizeOf83 r (.s .z) r r r .mk) (.fs [[]] r (by kernel_rfl) (.w [2, 1] [] [] r (by kernel_rfl) (by kernel_rfl) (by kernel_rfl) ((dropE_kept r r)) (.inr (dropE_kept r r)) fun ex => ?_))))))
 have hw109 := W_wide_Of (I := I104) hd
 refine .callP call166 r hw109 r r fun v110 hv111 => ?_
 obtain ⟨r108, rfl, hd⟩ := hv111
 refine .some (fun ex => (pto b3 (.cells #[.int .i64 0, .int .u64 0] 83 (0, 0))) :: (pto b71 (.cells #[.int .i64 s89, .int .u64 s90] 83 (0, 0))) :: ex) r (fun _ _ => (.s (.s .z))) r (.ccs [[]] r r (by kernel_rfl) (.cc [] r (by kernel_rfl) r r r (fun ex => .loadW isAgg83 sizeOf83 r (.s .z) r r r .mk) trivial)) (.w [1] [[]] [2, 0] r (by kernel_rfl) (by kernel_rfl) (by kernel_rfl) ((dropE_kept r r)) (.inr (dropE_kept r r)) fun ex => ?_)
 have hw113 := W_wide_Of (I := I104) hd
 refine .callP call166 r hw113 r r fun v114 hv115 => ?_
 obtain ⟨r112, rfl, hd⟩ := hv115
 refine .some (fun ex => (pto b3 (.cells #[.int .i64 0, .int .u64 0] 83 (0, 0))) :: (pto b71 (.cells #[.int .i64 s89, .int .u64 s90] 83 (0, 0))) :: ex) r (fun _ _ => (.s (.s .z))) r (.cc [] r (by kernel_rfl) r r r (fun ex => .loadW isAgg83 sizeOf83 r (.s .z) r r r .mk) trivial) (.w [] [[]] [1, 3, 3] r (by kernel_rfl) (by kernel_rfl) (by kernel_rfl) ((dropE_kept r r)) (.inr (dropE_kept r r)) fun ex => ?_)
 have hw117 := W_wide_Add (I := I104) hd
 refine .callP call168 r hw117 r r fun v118 hv119 => ?_
 obtain ⟨r116, rfl, hd⟩ := hv119
 refine .some (fun ex => (pto b3 (.cells #[.int .i64 0, .int .u64 0] 83 (0, 0))) :: (pto b71 (.cells #[.int .i64 s89, .int .u64 s90] 83 (0, 0))) :: ex) r (fun _ _ => (.s (.s .z))) r trivial (.w [] [] [0, 4, 4] r (by kernel_rfl) (by kernel_rfl) (by kernel_rfl) ((dropE_kept r r)) (.inr (dropE_kept r r)) fun ex => ?_)
 have hw121 := W_ring_lesser (I := I104) hd
 refine .callP call167 r hw121 r r fun v122 hv123 => ?_
 obtain ⟨r120, rfl, hd⟩ := hv123
 exact .some (fun ex => (pto b3 (.cells #[.int .i64 0, .int .u64 0] 83 (0, 0))) :: (pto b71 (.cells #[.int .i64 s89, .int .u64 s90] 83 (0, 0))) :: ex) r (fun _ _ => (.s (.s .z))) r trivial (.e 6 (by kernel_rfl) (by kernel_rfl) (by kernel_rfl) (.storeA sizeOf83 r r .z (.t (.t .nil)) r r (.nilS [6] r r (.drop (.s .z) (.ret (pret results135 (.w isAgg83 sizeOf83 r .z r .n) le106 ⟨r120, r, hd⟩))))))

theorem W_push_column {I : IH} {a0 : Int} {a1 : List Item} {a2 : Int} {a3 : List Int} {a4 : Bool} {p1 : Option Addr} {c2 : Nat} {p4 : Option Addr} {c5 : Nat} {Q : (List Sum) → Prop} (R3 : RepSl eItem I p1 c2 a1) (R6 : RepSl eU64 I p4 c5 a3) (hd : push_column a0 a1 a2 a3 a4 Q) :
    PFun Tryz.prog 110 [.int .i64 a0, .slice p1 a1.length c2, .int .i64 a2, .slice p4 a3.length c5, .bool a4] I (fun I_ v => ∃ r p7 c8, v = .slice p7 r.length c8 ∧ RepSl eSum I_ p7 c8 r ∧ Q r) := by
 refine Fun.enter func110 r ntmps110 r (.c (.c (.c (.c (.c .n))))) fun w0 M => ?_
 refine .seq (.region (.skips 1 r (.nilS [4, 3, 2, 1, 0] r r (.seq (.region (.skips 1 r (.nilS [11, 4, 3, 2, 1, 0] r r (.seq (.seq ?_)))))))))
 refine .region (.skips 1 r (.len underlying32 r r r r (.skips 1 r (.nilS [16, 15, 14, 11, 4, 3, 2, 0] r r (.block (.own0 eSum 85 (.loop hd (fun (s : (List Sum) × Int) c w => match s with | (s112, s116) => ∃ I_ p113 c114, IH.le I I_ ∧ Ok ⟨39, [], none⟩ [(0, .int .i64 a0), (2, .int .i64 a2), (3, .slice p4 a3.length c5), (4, .bool a4), (11, .slice p113 s112.length c114), (14, .slice p1 a1.length c2), (15, .int .i64 (a1.length : Int)), (16, .int .i64 s116)] c ∧ Sym w0 M I I_ [OwnSl eSum 85 p113 c114 s112] w) (fun c w ho hs => ⟨I, _, _, (.refl _), ho.sub ⟨r, r, r, r, r, r, r, r, trivial⟩, hs.pick (.c .z .n)⟩) ?_)))))))
 rintro ⟨s112, s116⟩ next118 hd c w hst
 obtain ⟨I119, p113, c114, hl120, hok, hsym⟩ := hst
 have le121 := IH.le.trans (.refl _) hl120
 replace R3 := R3.mono hl120
 replace R6 := R6.mono hl120
 refine Cod.at hok hsym (.seq (.region (.lt r r r r (.nilS [17, 16, 15, 14, 11, 4, 3, 2, 0] r r (.seq (.condP r hd (fun hb123 hd => ?_) fun hb123 hd => ?_))))))
 · refine .skipS [16, 15, 14, 11, 4, 3, 2, 0] r r (.seq (.block (.seq (.region ?_))))
   obtain ⟨h135, x136, hx137, hd⟩ := hd
   obtain ⟨b138, o139, cs140, e141, hC142, hr143⟩ := R3.2 _ _ hx137
   cases hr143
   refine .ixa underlying32 sizeOf80 r e141 r h135 (idx_lt hx137 h135) r r (.ldW isAgg80 sizeOf80 hC142 r r r r (.allocA zeroValue80 r r fun b144 => ?_))
   refine .storeA sizeOf80 r r .z (.t (.t .nil)) r r (.nilS [13, 16, 15, 14, 11, 4, 3, 2, 0] r r (.seq (.region (.skips 1 r (.fieldAddr underlying80 r sizeOf3 r (o := 0) r r r (.load1 isAgg3 r .z r r r ?_))))))
   have hw151 := W_flags_Has (I := I119) R6 hd
   refine .callP call134 r hw151 r r fun v152 hv153 => ?_
   obtain ⟨r150, rfl, hd⟩ := hv153
   refine .skips 1 r (.neB underlying4 r r r r (.nilS [25, 13, 16, 15, 14, 11, 4, 3, 2, 0] r r (.condP r hd (fun hb154 hd => ?_) fun hb154 hd => ?_)))
   · refine .draw [some 0, some 1, some 2, some 3, some 4, some 5, some 6, some 7, some 8, some 9, some 10] 11 MX (by kernel_rfl) (by kernel_rfl) (by kernel_rfl) (by kernel_rfl) (by kernel_rfl) (by kernel_rfl) (by kernel_rfl) (fun ex => (pto b144 (.cells #[.int .i64 x136.At, .int .i64 x136.Val] 80 (0, 0))) :: (OwnSl eSum 85 p113 c114 s112) :: ex) (fun _ _ => (.s (.s .z))) r (.fs [[]] r (by kernel_rfl) (.f [] r (by kernel_rfl) r r (fun ex => .fieldAddr underlying80 r sizeOf3 r (o := 0) r r r .mk) (.f [1] r (by kernel_rfl) r r (fun ex => .load1 isAgg3 r .z r r r .mk) (.fs [[]] r (by kernel_rfl) (.f [] r (by kernel_rfl) r r (fun ex => .fieldAddr underlying80 r sizeOf2 r (o := 1) r r r .mk) (.f [4] r (by kernel_rfl) r r (fun ex => .load1 isAgg2 r .z r r r .mk) (.fs [[]] r (by kernel_rfl) (.w [2, 1, 0] [[], [], [5], []] [3, 5, 6] r (by kernel_rfl) (by kernel_rfl) (by kernel_rfl) ((dropE_kept r r)) (.inr (dropE_kept r r)) fun ex => ?_))))))))
     have hw156 := W_ring_Mul (I := I119) hd
     refine .callP call135 r hw156 r r fun v157 hv158 => ?_
     obtain ⟨r155, rfl, hd⟩ := hv158
     refine .some (fun ex => (pto b144 (.cells #[.int .i64 x136.At, .int .i64 x136.Val] 80 (0, 0))) :: (OwnSl eSum 85 p113 c114 s112) :: ex) r (fun _ _ => (.s (.s .z))) r (.cc [1] r (by kernel_rfl) r r r (fun ex => .load1 isAgg3 r .z r r r .mk) (.cc [] r (by kernel_rfl) r r r (fun ex => .fieldAddr underlying80 r sizeOf3 r (o := 0) r r r .mk) (.ccs [[]] r r (by kernel_rfl) trivial))) (.f [2, 7] r (by kernel_rfl) r r (fun ex => .build zeroValue85 underlying85 BI85 (.c r r r (.t .nil) (.c r r r (.s (.t (.t .nil))) .n)) (by exact ⟨⟨_, _, r, r, r⟩, ⟨⟨_, _, r, r, r⟩, trivial⟩⟩) r r .mk) (.w [0] [[], [8], [2, 8]] [8] r (by kernel_rfl) (by kernel_rfl) (by kernel_rfl) ((dropE_kept r r)) (.inr (dropE_kept r r)) fun ex => ?_))
     refine .buildSlice 1 underlying45 sizeOf85 zeroValue85 r r (.c r r r .n) r r fun b159 => ?_
     refine .some (fun ex => (pto b159 (.cells #[.int .i64 x136.At, .int .i64 r155.Hi, .int .u64 r155.Lo] 85 (0, 0))) :: (pto b144 (.cells #[.int .i64 x136.At, .int .i64 x136.Val] 80 (0, 0))) :: (OwnSl eSum 85 p113 c114 s112) :: ex) r (fun _ _ => (.s (.s (.s .z)))) r (.ccs [[]] r r (by kernel_rfl) trivial) (.w [] [[]] [0, 9, 7] r (by kernel_rfl) (by kernel_rfl) (by kernel_rfl) ((dropE_kept r r)) (.inr (dropE_kept r r)) fun ex => ?_)
     obtain ⟨hl161, hd⟩ := hd
     refine .append (ys := [({ At := x136.At, Val := r155 } : Sum)]) 24 (.s (.s .z)) underlying45 underlying45 IN85 r r r r r r r r r (.box .z (.one r) r) hl161 r r fun p162 c163 => ?_
     refine .some (fun ex => (OwnSl eSum 85 p162 c163 (s112 ++ ([({ At := x136.At, Val := r155 } : Sum)]))) :: (pto b159 (.cells #[.int .i64 x136.At, .int .i64 r155.Hi, .int .u64 r155.Lo] 85 (0, 0))) :: (pto b144 (.cells #[.int .i64 x136.At, .int .i64 x136.Val] 80 (0, 0))) :: ex) r (fun _ _ => (.s (.s (.s .z)))) r trivial (.e 11 (by kernel_rfl) (by kernel_rfl) (by kernel_rfl) (.sub (E' := [(0, _), (2, _), (3, _), (4, _), (14, _), (15, _), (16, _), (13, _), (25, _), (26, _), (27, _), (28, _), (29, _), (30, _), (31, _), (32, _), (33, _), (34, _), (35, _), (36, _)]) ⟨r, r, r, r, r, r, r, r, r, r, r, r, r, r, r, r, r, r, r, r, trivial⟩ (.skips 1 r (.nilS [11, 16, 15, 14, 4, 3, 2, 0] r r (.drop (.s .z) (.drop (.s .z) (.region (.add r r r r (.sub (E' := [(0, _), (2, _), (3, _), (4, _), (14, _), (15, _), (11, _), (37, _)]) ⟨r, r, r, r, r, r, r, r, trivial⟩ ?_)))))))))
     exact .skips 1 r (.nil' fun c w ho hs => ⟨((s112 ++ ([({ At := x136.At, Val := r155 } : Sum)])), w64 (s116 + 1)), hd, I119, _, _, le121, ho.sub ⟨r, r, r, r, r, r, r, r, trivial⟩, hs.pick (.c .z .n)⟩)
   exact .skipS [16, 15, 14, 11, 4, 3, 2, 0] r r (.drop .z (.region (.add r r r r (.sub (E' := [(0, _), (2, _), (3, _), (4, _), (11, _), (14, _), (15, _), (37, _)]) ⟨r, r, r, r, r, r, r, r, trivial⟩ (.skips 1 r (.nil' fun c w ho hs => ⟨(s112, w64 (s116 + 1)), hd, I119, _, _, le121, ho.sub ⟨r, r, r, r, r, r, r, r, trivial⟩, hs.pick (.c .z .n)⟩))))))
 refine .exitS [11] r r (.seq (.region (.skips 2 r (.nilS [10] r r (.pub .z fun I165 hl166 R167 => ?_)))))
 have le168 := IH.le.trans le121 hl166
 exact .ret (pret results110 (.t r .n) le168 ⟨s112, _, _, r, R167, hd⟩)

theorem W_dcsc_items_9d2 {I : IH} {a0 : Columns} {a1 : Int} {p1 : Option Addr} {c2 : Nat} {p4 : Option Addr} {c5 : Nat} {p7 : Option Addr} {c8 : Nat} {p10 : Option Addr} {c11 : Nat} {Q : (Columns × Int) → Prop} (R3 : RepSl eI64 I p1 c2 a0.At) (R6 : RepSl eI64 I p4 c5 a0.Start) (R9 : RepSl eI64 I p7 c8 a0.Row) (R12 : RepSl eI64 I p10 c11 a0.Val) (hd : dcsc_items_9d2 a0 a1 Q) :
    Fun Tryz.prog 137 #[.agg #[.int .i64 a0.Rows, .int .i64 a0.Cols, .slice p1 a0.At.length c2, .slice p4 a0.Start.length c5, .slice p7 a0.Row.length c8, .slice p10 a0.Val.length c11], .int .i64 a1] I [] (fun I_ v l => ∃ r b13 p14 c15 p17 c18 p20 c21 p23 c24 b26, v = .func (.func 170) #[] #[.pointer (some ⟨b13, 0, none⟩), .pointer (some ⟨b26, 0, none⟩)] ∧ RepSl eI64 I_ p14 c15 r.1.At ∧ RepSl eI64 I_ p17 c18 r.1.Start ∧ RepSl eI64 I_ p20 c21 r.1.Row ∧ RepSl eI64 I_ p23 c24 r.1.Val ∧ l = [pto b13 (.cells #[.int .i64 r.1.Rows, .int .i64 r.1.Cols, .slice p14 r.1.At.length c15, .slice p17 r.1.Start.length c18, .slice p20 r.1.Row.length c21, .slice p23 r.1.Val.length c24] 50 (0, 0)), pto b26 (.cells #[.int .i64 r.2] 3 (0, 0))] ∧ Q r) := by
 refine Fun.enter (vs := [.agg #[.int .i64 a0.Rows, .int .i64 a0.Cols, .slice p1 a0.At.length c2, .slice p4 a0.Start.length c5, .slice p7 a0.Row.length c8, .slice p10 a0.Val.length c11], .int .i64 a1]) func137 r ntmps137 r (.c (.c .n)) fun w0 M => ?_
 refine .seq (.region (.boxA r r r fun b13 => ?_))
 refine .box1 r r r r fun b15 => ?_
 exact .skips 1 r (.nilS [3, 2] r r (.seq (.region (.mkFn r r r r (.skips 1 r (.nilS [4] r r (.ret (oret results137 (.t r .n) (.refl _) (.c (.s .z) (.c .z .n)) ⟨(a0, a1), _, _, _, _, _, _, _, _, _, _, r, R3, R6, R9, R12, r, hd⟩))))))))

theorem W_dcsc_items_1_1ae {I : IH} {o0 : Nat} {o1 : List Item} {o2 : Columns} {o3 : Int} {Y : Nat → (List Item) → Item → ((Bool × Nat × (List Item)) → Prop) → Prop} {b5 : Nat} {p6 : Option Addr} {c7 : Nat} {b10 : Nat} {p11 : Option Addr} {c12 : Nat} {p14 : Option Addr} {c15 : Nat} {p17 : Option Addr} {c18 : Nat} {p20 : Option Addr} {c21 : Nat} {b23 : Nat} {lr : Nat} {Rr : Nat → HA} {Q : (Nat × (List Item)) → Prop} (hY : ∀ {J_ : IH}, I.le J_ → ∀ {y24 : Nat} {y25 : List Item} {x31 : Item} {p27 : Option Addr} {c28 : Nat} {Qy : (Bool × Nat × (List Item)) → Prop}, Y y24 y25 x31 Qy → RFun Tryz.prog lr [.agg (encItem x31).toArray] J_ [Rr y24, pto b5 (.cells #[.slice p27 y25.length c28] 32 (0, 0)), OwnSl eItem 80 p27 c28 y25] (fun I_ v l => ∃ r p33 c34, v = .bool r.1 ∧ l = [Rr r.2.1, pto b5 (.cells #[.slice p33 r.2.2.length c34] 32 (0, 0)), OwnSl eItem 80 p33 c34 r.2.2] ∧ Qy r)) (R13 : RepSl eI64 I p11 c12 o2.At) (R16 : RepSl eI64 I p14 c15 o2.Start) (R19 : RepSl eI64 I p17 c18 o2.Row) (R22 : RepSl eI64 I p20 c21 o2.Val) (hd : dcsc_items_1_1ae o0 o1 o2 o3 Y Q) :
    Fun Tryz.prog 170 #[.func (.yield lr) #[] #[], .pointer (some ⟨b10, 0, none⟩), .pointer (some ⟨b23, 0, none⟩)] I [Rr o0, pto b5 (.cells #[.slice p6 o1.length c7] 32 (0, 0)), OwnSl eItem 80 p6 c7 o1, pto b10 (.cells #[.int .i64 o2.Rows, .int .i64 o2.Cols, .slice p11 o2.At.length c12, .slice p14 o2.Start.length c15, .slice p17 o2.Row.length c18, .slice p20 o2.Val.length c21] 50 (0, 0)), pto b23 (.cells #[.int .i64 o3] 3 (0, 0))] (fun I_ v l => ∃ r p25 c26, v = .tuple #[] ∧ l = [Rr r.1, pto b5 (.cells #[.slice p25 r.2.length c26] 32 (0, 0)), OwnSl eItem 80 p25 c26 r.2, pto b10 (.cells #[.int .i64 o2.Rows, .int .i64 o2.Cols, .slice p11 o2.At.length c12, .slice p14 o2.Start.length c15, .slice p17 o2.Row.length c18, .slice p20 o2.Val.length c21] 50 (0, 0)), pto b23 (.cells #[.int .i64 o3] 3 (0, 0))] ∧ Q r) := by
 refine Fun.enter (vs := [.func (.yield lr) #[] #[], .pointer (some ⟨b10, 0, none⟩), .pointer (some ⟨b23, 0, none⟩)]) func170 r ntmps170 r (.c (.c (.c .n))) fun w0 M => ?_
 refine .seq (.region (.fieldAddr underlying50 r sizeOf36 r (o := 3) r r r (.load1 isAgg36 r (.s (.s (.s .z))) r r r (.load1 isAgg3 r (.s (.s (.s (.s .z)))) r r r ?_))))
 obtain ⟨h41, x42, hx43, hd⟩ := hd
 obtain ⟨b44, o45, cs46, e47, hC48, hr49⟩ := R16.2 _ _ hx43
 cases hr49
 refine .ixa underlying36 sizeOf3 r e47 r h41 (idx_lt hx43 h41) r r (.ld1 (j := 0) isAgg3 hC48 r r r r r (.skips 1 r (.nilS [4, 2, 1, 0] r r (.block (.loop hd (fun (s : (List Item) × Int × Nat) c w => match s with | (s178, s182, s183) => ∃ I_ p179 c180, IH.le I I_ ∧ Ok ⟨34, [], none⟩ [(0, .func (.yield lr) #[] #[]), (1, .pointer (some ⟨b10, 0, none⟩)), (2, .pointer (some ⟨b23, 0, none⟩)), (4, .int .i64 s182)] c ∧ Sym w0 M I I_ [pto b5 (.cells #[.slice p179 s178.length c180] 32 (0, 0)), OwnSl eItem 80 p179 c180 s178, pto b10 (.cells #[.int .i64 o2.Rows, .int .i64 o2.Cols, .slice p11 o2.At.length c12, .slice p14 o2.Start.length c15, .slice p17 o2.Row.length c18, .slice p20 o2.Val.length c21] 50 (0, 0)), pto b23 (.cells #[.int .i64 o3] 3 (0, 0)), Rr s183] w) (fun c w ho hs => ⟨I, _, _, (.refl _), ho.sub ⟨r, r, r, r, trivial⟩, hs.pick (.c (.s .z) (.c (.s .z) (.c (.s .z) (.c (.s .z) (.c .z .n)))))⟩) ?_)))))
 rintro ⟨s178, s182, s183⟩ next184 hd c w hst
 obtain ⟨I185, p179, c180, hl186, hok, hsym⟩ := hst
 have le187 := IH.le.trans (.refl _) hl186
 replace R13 := R13.mono hl186
 replace R16 := R16.mono hl186
 replace R19 := R19.mono hl186
 replace R22 := R22.mono hl186
 refine Cod.at hok hsym (.seq (.seq (.region (.skips 1 r (.fieldAddr underlying50 r sizeOf36 r (o := 3) r r r (.load1 isAgg36 r (.s (.s .z)) r r r (.load1 isAgg3 r (.s (.s (.s .z))) r r r (.add r r r r ?_))))))))
 obtain ⟨h198, x199, hx200, hd⟩ := hd
 obtain ⟨b201, o202, cs203, e204, hC205, hr206⟩ := R16.2 _ _ hx200
 cases hr206
 refine .ixa underlying36 sizeOf3 r e204 r h198 (idx_lt hx200 h198) r r (.ld1 (j := 0) isAgg3 hC205 r r r r r (.lt r r r r (.nilS [17, 4, 2, 1, 0] r r (.condP r hd (fun hb207 hd => ?_) fun hb207 hd => ?_))))
 · refine .skipS [4, 2, 1, 0] r r (.seq (.block (.seq (.ownF (.s .z) fun hne208 => ?_))))
   refine .draw [some 0, some 1, some 2, some 3, some 4, some 5, some 6, some 7, some 8, some 9, some 10, some 11, some 12, some 13] 14 MX (by kernel_rfl) (by kernel_rfl) (by kernel_rfl) (by kernel_rfl) (by kernel_rfl) (by kernel_rfl) (by kernel_rfl) (fun ex => (pto b5 (.cells #[.slice p179 s178.length c180] 32 (0, 0))) :: (OwnSl eItem 80 p179 c180 s178) :: (pto b10 (.cells #[.int .i64 o2.Rows, .int .i64 o2.Cols, .slice p11 o2.At.length c12, .slice p14 o2.Start.length c15, .slice p17 o2.Row.length c18, .slice p20 o2.Val.length c21] 50 (0, 0))) :: (pto b23 (.cells #[.int .i64 o3] 3 (0, 0))) :: (Rr s183) :: ex) (fun _ _ => (.s (.s (.s (.s (.s .z)))))) r (.fs [[]] r (by kernel_rfl) (.f [] r (by kernel_rfl) r r (fun ex => .fieldAddr underlying50 r sizeOf36 r (o := 4) r r r .mk) (.f [1] r (by kernel_rfl) r r (fun ex => .load1 isAgg36 r (.s (.s .z)) r r r .mk) (.fs [[]] r (by kernel_rfl) ?_))))
   obtain ⟨h209, x210, hx211, hd⟩ := hd
   obtain ⟨b212, o213, cs214, e215, hC216, hr217⟩ := R19.2 _ _ hx211
   cases hr217
   refine .f [2, 3] r (by kernel_rfl) r r (fun ex => .ixa underlying36 sizeOf3 r e215 r h209 (idx_lt hx211 h209) r r .mk) (.f [4] r (by kernel_rfl) r r (fun ex => .ld1 (j := 0) isAgg3 hC216 r r r r r .mk) (.f [] r (by kernel_rfl) r r (fun ex => .fieldAddr underlying50 r sizeOf37 r (o := 5) r r r .mk) (.f [6] r (by kernel_rfl) r r (fun ex => .load1 isAgg37 r (.s (.s .z)) r r r .mk) (.fs [[]] r (by kernel_rfl) ?_))))
   obtain ⟨h218, x219, hx220, hd⟩ := hd
   obtain ⟨b221, o222, cs223, e224, hC225, hr226⟩ := R22.2 _ _ hx220
   cases hr226
   refine .f [7, 8] r (by kernel_rfl) r r (fun ex => .ixa underlying37 sizeOf2 r e224 r h218 (idx_lt hx220 h218) r r .mk) (.f [9] r (by kernel_rfl) r r (fun ex => .ld1 (j := 0) isAgg2 hC225 r r r r r .mk) (.f [5, 10] r (by kernel_rfl) r r (fun ex => .build zeroValue80 underlying80 BI80 (.c r r r (.t .nil) (.c r r r (.s (.t .nil)) .n)) (by exact ⟨⟨_, _, r, r, r⟩, ⟨⟨_, _, r, r, r⟩, trivial⟩⟩) r r .mk) (.w [] [[], [11], [10, 11], [9, 10, 11], [9, 10, 11], [7, 9, 10, 11], [11], [5, 11], [4, 5, 11], [4, 5, 11], [2, 4, 5, 11], []] [0, 11] r (by kernel_rfl) (by kernel_rfl) (by kernel_rfl) ((dropE_kept r r)) (.inr (dropE_kept r r)) fun ex => ?_)))
   have hw227 := hY (J_ := I185) le187 (y24 := s183) (y25 := s178) (x31 := ({ At := x210, Val := x219 } : Item)) (p27 := p179) (c28 := c180) hd
   refine .callY r r (.c (.s (.s (.s (.s .z)))) (.c .z (.c .z .n))) hw227 r r fun v231 I228 l232 hl229 hv230 => ?_
   obtain ⟨r233, p237, c238, rfl, rfl, hd⟩ := hv230
   have le241 := IH.le.trans le187 hl229
   replace R13 := R13.mono hl229
   replace R16 := R16.mono hl229
   replace R19 := R19.mono hl229
   replace R22 := R22.mono hl229
   replace hC216 := hC216.mono hl229
   replace hC225 := hC225.mono hl229
   refine .re (m' := (Rr r233.2.1) :: (pto b5 (.cells #[.slice p237 r233.2.2.length c238] 32 (0, 0))) :: (OwnSl eItem 80 p237 c238 r233.2.2) :: (pto b10 (.cells #[.int .i64 o2.Rows, .int .i64 o2.Cols, .slice p11 o2.At.length c12, .slice p14 o2.Start.length c15, .slice p17 o2.Row.length c18, .slice p20 o2.Val.length c21] 50 (0, 0))) :: (pto b23 (.cells #[.int .i64 o3] 3 (0, 0))) :: ex) r (.some (fun ex => (Rr r233.2.1) :: (pto b5 (.cells #[.slice p237 r233.2.2.length c238] 32 (0, 0))) :: (OwnSl eItem 80 p237 c238 r233.2.2) :: (pto b10 (.cells #[.int .i64 o2.Rows, .int .i64 o2.Cols, .slice p11 o2.At.length c12, .slice p14 o2.Start.length c15, .slice p17 o2.Row.length c18, .slice p20 o2.Val.length c21] 50 (0, 0))) :: (pto b23 (.cells #[.int .i64 o3] 3 (0, 0))) :: ex) r (fun _ _ => (.s (.s (.s (.s (.s .z)))))) r trivial (.f [12] r (by kernel_rfl) r r (fun ex => .not r r r .mk) (.e 14 (by kernel_rfl) (by kernel_rfl) (by kernel_rfl) (.nilS [33, 4, 2, 1, 0] r r (.condP r hd (fun hb242 hd => ?_) fun hb242 hd => ?_)))))
   · exact .ret (oret results170 .n le241 (.c .z (.c .z (.c .z (.c .z (.c .z .n))))) ⟨(r233.2.1, r233.2.2), _, _, r, r, hd⟩)
   exact .skipS [4, 2, 1, 0] r r (.region (.skips 1 r (.add r r r r (.sub (E' := [(0, _), (1, _), (2, _), (18, _), (19, _)]) ⟨r, r, r, r, r, trivial⟩ (.skips 1 r (.nil' fun c w ho hs => ⟨(r233.2.2, w64 (s182 + 1), r233.2.1), hd, I228, _, _, le241, ho.sub ⟨r, r, r, r, trivial⟩, hs.pick (.c (.s .z) (.c (.s .z) (.c (.s .z) (.c (.s .z) (.c .z .n)))))⟩))))))
 exact .exit (oretN results170 .n le187 (.c (.s (.s (.s (.s .z)))) (.c .z (.c .z (.c .z (.c .z .n))))) ⟨(s183, s178), _, _, r, r, hd⟩)

theorem W_slices_AppendSeq_api_Item_api_Item_828 {I : IH} {o0 : Columns} {o1 : Int} {b3 : Nat} {p4 : Option Addr} {c5 : Nat} {p7 : Option Addr} {c8 : Nat} {p10 : Option Addr} {c11 : Nat} {p13 : Option Addr} {c14 : Nat} {b16 : Nat} {Q : (List Item) → Prop} (R6 : RepSl eI64 I p4 c5 o0.At) (R9 : RepSl eI64 I p7 c8 o0.Start) (R12 : RepSl eI64 I p10 c11 o0.Row) (R15 : RepSl eI64 I p13 c14 o0.Val) (hd : slices_AppendSeq_api_Item_api_Item_828 o0 o1 Q) :
    Fun Tryz.prog 169 #[.slice none 0 0, .func (.func 170) #[] #[.pointer (some ⟨b3, 0, none⟩), .pointer (some ⟨b16, 0, none⟩)]] I [pto b3 (.cells #[.int .i64 o0.Rows, .int .i64 o0.Cols, .slice p4 o0.At.length c5, .slice p7 o0.Start.length c8, .slice p10 o0.Row.length c11, .slice p13 o0.Val.length c14] 50 (0, 0)), pto b16 (.cells #[.int .i64 o1] 3 (0, 0))] (fun I_ v l => ∃ r p17 c18, v = .slice p17 r.length c18 ∧ RepSl eItem I_ p17 c18 r ∧ l = [pto b3 (.cells #[.int .i64 o0.Rows, .int .i64 o0.Cols, .slice p4 o0.At.length c5, .slice p7 o0.Start.length c8, .slice p10 o0.Row.length c11, .slice p13 o0.Val.length c14] 50 (0, 0)), pto b16 (.cells #[.int .i64 o1] 3 (0, 0))] ∧ Q r) := by
 refine Fun.enter (vs := [.slice none 0 0, .func (.func 170) #[] #[.pointer (some ⟨b3, 0, none⟩), .pointer (some ⟨b16, 0, none⟩)]]) func169 r ntmps169 r (.c (.c .n)) fun w0 M => ?_
 refine .marks0 (.seq (.region (.box1 r r r r fun b19 => ?_)))
 refine .skips 1 r (.nilS [2, 1] r r (.seq (.seq (.region (.skips 1 r (.nilS [6, 2, 1] r r (.block (.own0 eItem 80 (.rangeF [] r call170 (.c (.s (.s .z)) (.c (.s .z) (.c .z (.c .z (.c .z .n))))) fun lr D rc hrc => ?_)))))))))
 refine ⟨_, W_dcsc_items_1_1ae (I := I) (lr := lr) (Rr := recA lr [] rc) (o0 := 0) (o1 := ([] : List Item)) (o2 := o0) (o3 := o1) (b5 := b19) (p6 := none) (c7 := 0) (b10 := b3) (p11 := p4) (c12 := c5) (p14 := p7) (c15 := c8) (p17 := p10) (c18 := c11) (p20 := p13) (c21 := c14) (b23 := b16) ?_ R6 R9 R12 R15 hd, ?_⟩
 · skip
   intro I hJ y55 y56 x62 p58 c59 Qy  hd
   replace R6 := R6.mono hJ
   replace R9 := R9.mono hJ
   replace R12 := R12.mono hJ
   replace R15 := R15.mono hJ
   obtain ⟨rfl, hd⟩ := hd
   refine RFun.mk hrc r fun w0 M => ?_
   refine .region (.allocA zeroValue80 r r fun b63 => ?_)
   refine .storeA sizeOf80 r r .z (.t (.t .nil)) r r (.nil' fun c w ho hs => beginR (E' := [(2, _), (5, _)]) ho ⟨r, r, trivial⟩ hs (.s .z) (.block (.region (.load1 isAgg32 r (.s (.s .z)) r r r (.loadW isAgg80 sizeOf80 r .z r r r (.buildSlice 1 underlying32 sizeOf80 zeroValue80 r r (.c r r r .n) r r fun b65 => ?_))))))
   obtain ⟨hl67, hd⟩ := hd
   refine .append (ys := [x62]) 16 (.s (.s (.s (.s .z)))) underlying32 underlying32 IN80 r r r r r r r r r (.box .z (.one r) r) hl67 r r fun p68 c69 => ?_
   refine .store1 sizeOf32 r r (.s (.s (.s (.s .z)))) (.t .nil) r ?_
   exact .nil' fun c w ho hs => endR 0 (.inl rfl) (.refl _) (.s (.s (.s .z))) (.c (.s (.s (.s .z))) (.c .z .n)) ⟨(true, 0, (y56 ++ ([x62]))), _, _, rfl, rfl, hd⟩ hs
 intro v74 I71 l' hl72 hv73
 obtain ⟨r75, p79, c80, rfl, rfl, hd⟩ := hv73
 have le83 := IH.le.trans (.refl _) hl72
 replace R6 := R6.mono hl72
 replace R9 := R9.mono hl72
 replace R12 := R12.mono hl72
 replace R15 := R15.mono hl72
 obtain ⟨hz, hd⟩ := hd
 refine ⟨_, _, r, fun hj => ?_, fun i hj => absurd (hz.symm.trans hj) (by simp)⟩
 refine .re (m' := [Marks (D :: []), pto b19 (.cells #[.slice p79 r75.2.length c80] 32 (0, 0)), OwnSl eItem 80 p79 c80 r75.2, pto b3 (.cells #[.int .i64 o0.Rows, .int .i64 o0.Cols, .slice p4 o0.At.length c5, .slice p7 o0.Start.length c8, .slice p10 o0.Row.length c11, .slice p13 o0.Val.length c14] 50 (0, 0)), pto b16 (.cells #[.int .i64 o1] 3 (0, 0))]) r (.mkS [2, 1] r r (.seq (.region (.load1 isAgg32 r (.s .z) r r r (.skips 1 r (.nilS [4, 1] r r (.drop (.s .z) (.pub (.s .z) fun I84 hl85 R86 => ?_))))))))
 have le87 := IH.le.trans le83 hl85
 replace R6 := R6.mono hl85
 replace R9 := R9.mono hl85
 replace R12 := R12.mono hl85
 replace R15 := R15.mono hl85
 exact .ret (oretM .z results169 (.t r .n) le87 (.c .z (.c .z .n)) ⟨r75.2, _, _, r, R86, r, hd⟩)

theorem W_slices_Collect_api_Item_d7d {I : IH} {o0 : Columns} {o1 : Int} {b3 : Nat} {p4 : Option Addr} {c5 : Nat} {p7 : Option Addr} {c8 : Nat} {p10 : Option Addr} {c11 : Nat} {p13 : Option Addr} {c14 : Nat} {b16 : Nat} {Q : (List Item) → Prop} (R6 : RepSl eI64 I p4 c5 o0.At) (R9 : RepSl eI64 I p7 c8 o0.Start) (R12 : RepSl eI64 I p10 c11 o0.Row) (R15 : RepSl eI64 I p13 c14 o0.Val) (hd : slices_Collect_api_Item_d7d o0 o1 Q) :
    Fun Tryz.prog 136 #[.func (.func 170) #[] #[.pointer (some ⟨b3, 0, none⟩), .pointer (some ⟨b16, 0, none⟩)]] I [pto b3 (.cells #[.int .i64 o0.Rows, .int .i64 o0.Cols, .slice p4 o0.At.length c5, .slice p7 o0.Start.length c8, .slice p10 o0.Row.length c11, .slice p13 o0.Val.length c14] 50 (0, 0)), pto b16 (.cells #[.int .i64 o1] 3 (0, 0))] (fun I_ v l => ∃ r p17 c18, v = .slice p17 r.length c18 ∧ RepSl eItem I_ p17 c18 r ∧ l = [pto b3 (.cells #[.int .i64 o0.Rows, .int .i64 o0.Cols, .slice p4 o0.At.length c5, .slice p7 o0.Start.length c8, .slice p10 o0.Row.length c11, .slice p13 o0.Val.length c14] 50 (0, 0)), pto b16 (.cells #[.int .i64 o1] 3 (0, 0))] ∧ Q r) := by
 refine Fun.enter (vs := [.func (.func 170) #[] #[.pointer (some ⟨b3, 0, none⟩), .pointer (some ⟨b16, 0, none⟩)]]) func136 r ntmps136 r (.c .n) fun w0 M => ?_
 refine .seq (.region (.skips 1 r (.nilS [0] r r (.seq (.region (.skips 1 r ?_))))))
 have hw17 := W_slices_AppendSeq_api_Item_api_Item_828 (I := I) (o0 := o0) (o1 := o1) (b3 := b3) (p4 := p4) (c5 := c5) (p7 := p7) (c8 := c8) (p10 := p10) (c11 := c11) (p13 := p13) (c14 := c14) (b16 := b16) R6 R9 R12 R15 hd
 refine .callS (.f call169 r) (.c .z (.c .z .n)) hw17 r r fun v21 I18 l22 hl19 hv20 => ?_
 obtain ⟨r23, p24, c25, rfl, R26, rfl, hd⟩ := hv20
 have le27 := IH.le.trans (.refl _) hl19
 replace R6 := R6.mono hl19
 replace R9 := R9.mono hl19
 replace R12 := R12.mono hl19
 replace R15 := R15.mono hl19
 exact .re (m' := [pto b3 (.cells #[.int .i64 o0.Rows, .int .i64 o0.Cols, .slice p4 o0.At.length c5, .slice p7 o0.Start.length c8, .slice p10 o0.Row.length c11, .slice p13 o0.Val.length c14] 50 (0, 0)), pto b16 (.cells #[.int .i64 o1] 3 (0, 0))]) r (.skips 1 r (.nilS [2, 0] r r (.ret (oret results136 (.t r .n) le27 (.c .z (.c .z .n)) ⟨r23, _, _, r, R26, r, hd⟩))))

theorem W_dcsc_Column {I : IH} {a0 : Columns} {a1 : Int} {p1 : Option Addr} {c2 : Nat} {p4 : Option Addr} {c5 : Nat} {p7 : Option Addr} {c8 : Nat} {p10 : Option Addr} {c11 : Nat} {Q : (List Item) → Prop} (R3 : RepSl eI64 I p1 c2 a0.At) (R6 : RepSl eI64 I p4 c5 a0.Start) (R9 : RepSl eI64 I p7 c8 a0.Row) (R12 : RepSl eI64 I p10 c11 a0.Val) (hd : dcsc_Column a0 a1 Q) :
    PFun Tryz.prog 111 [.agg #[.int .i64 a0.Rows, .int .i64 a0.Cols, .slice p1 a0.At.length c2, .slice p4 a0.Start.length c5, .slice p7 a0.Row.length c8, .slice p10 a0.Val.length c11], .int .i64 a1] I (fun I_ v => ∃ r p13 c14, v = .slice p13 r.length c14 ∧ RepSl eItem I_ p13 c14 r ∧ Q r) := by
 refine Fun.enter func111 r ntmps111 r (.c (.c .n)) fun w0 M => ?_
 refine .seq (.region (.boxA r r r fun b18 => ?_))
 refine .skips 1 r (.nilS [2, 1] r r (.seq (.region (.loadW isAgg50 sizeOf50 r .z r r r ?_))))
 have hw58 := W_dcsc_sure (I := I) R3 R6 R9 R12 hd
 refine .call call104 r hw58 r r fun v44 I41 hl42 hv43 => ?_
 obtain ⟨r40, p46, c47, p49, c50, p52, c53, p55, c56, rfl, R48, R51, R54, R57, hd⟩ := hv43
 have le59 := IH.le.trans (.refl _) hl42
 replace R3 := R3.mono hl42
 replace R6 := R6.mono hl42
 replace R9 := R9.mono hl42
 replace R12 := R12.mono hl42
 refine .storeA sizeOf50 r r .z (.t (.t (.t (.t (.t (.t .nil)))))) r r (.nilS [2, 1] r r (.seq (.region (.loadW isAgg50 sizeOf50 r .z r r r (.skips 1 r ?_)))))
 have hw65 := W_dcsc_place (I := I41) R48 R51 R54 R57 hd
 refine .callP call105 r hw65 r r fun v66 hv67 => ?_
 obtain ⟨r64, rfl, hd⟩ := hv67
 refine .skips 1 r (.nilS [5, 2] r r (.seq (.seq (.region (.skips 1 r (.lt r r r r (.nilS [12, 5, 2] r r (.condP r hd (fun hb68 hd => ?_) fun hb68 hd => ?_))))))))
 · exact .seq (.region (.skips 1 r (.nilS [4] r r (.drop .z (.ret (pret results111 (.t r .n) le59 ⟨([] : List Item), _, _, r, (.nil _ _ _), hd⟩))))))
 refine .skipS [5, 2] r r (.seq (.region (.loadW isAgg50 sizeOf50 r .z r r r (.skips 1 r ?_))))
 have hw69 := W_dcsc_items_9d2 (I := I41) (a0 := r40) (a1 := r64) R48 R51 R54 R57 hd
 refine .callS (.f call137 r) .n hw69 r r fun v73 I70 l74 hl71 hv72 => ?_
 obtain ⟨r75, b78, p79, c80, p82, c83, p85, c86, p88, c89, b91, rfl, R81, R84, R87, R90, rfl, hd⟩ := hv72
 have le92 := IH.le.trans le59 hl71
 replace R48 := R48.mono hl71
 replace R51 := R51.mono hl71
 replace R54 := R54.mono hl71
 replace R57 := R57.mono hl71
 refine .re (m' := [pto b78 (.cells #[.int .i64 r75.1.Rows, .int .i64 r75.1.Cols, .slice p79 r75.1.At.length c80, .slice p82 r75.1.Start.length c83, .slice p85 r75.1.Row.length c86, .slice p88 r75.1.Val.length c89] 50 (0, 0)), pto b91 (.cells #[.int .i64 r75.2] 3 (0, 0)), pto b18 (.cells #[.int .i64 r40.Rows, .int .i64 r40.Cols, .slice p46 r40.At.length c47, .slice p49 r40.Start.length c50, .slice p52 r40.Row.length c53, .slice p55 r40.Val.length c56] 50 (0, 0))]) r ?_
 have hw93 := W_slices_Collect_api_Item_d7d (I := I70) (o0 := r75.1) (o1 := r75.2) (b3 := b78) (p4 := p79) (c5 := c80) (p7 := p82) (c8 := c83) (p10 := p85) (c11 := c86) (p13 := p88) (c14 := c89) (b16 := b91) R81 R84 R87 R90 hd
 refine .callS (.f call136 r) (.c .z (.c .z .n)) hw93 r r fun v97 I94 l98 hl95 hv96 => ?_
 obtain ⟨r99, p100, c101, rfl, R102, rfl, hd⟩ := hv96
 have le103 := IH.le.trans le92 hl95
 replace R48 := R48.mono hl95
 replace R51 := R51.mono hl95
 replace R54 := R54.mono hl95
 replace R57 := R57.mono hl95
 replace R81 := R81.mono hl95
 replace R84 := R84.mono hl95
 replace R87 := R87.mono hl95
 replace R90 := R90.mono hl95
 exact .re (m' := [pto b78 (.cells #[.int .i64 r75.1.Rows, .int .i64 r75.1.Cols, .slice p79 r75.1.At.length c80, .slice p82 r75.1.Start.length c83, .slice p85 r75.1.Row.length c86, .slice p88 r75.1.Val.length c89] 50 (0, 0)), pto b91 (.cells #[.int .i64 r75.2] 3 (0, 0)), pto b18 (.cells #[.int .i64 r40.Rows, .int .i64 r40.Cols, .slice p46 r40.At.length c47, .slice p49 r40.Start.length c50, .slice p52 r40.Row.length c53, .slice p55 r40.Val.length c56] 50 (0, 0))]) r (.skips 1 r (.nilS [4] r r (.drop .z (.drop .z (.drop .z (.ret (pret results111 (.t r .n) le103 ⟨r99, _, _, r, R102, hd⟩)))))))

theorem W_push_rises {I : IH} {a0 : List Sum} {p1 : Option Addr} {c2 : Nat} {Q : Bool → Prop} (R3 : RepSl eSum I p1 c2 a0) (hd : push_rises a0 Q) :
    PFun Tryz.prog 140 [.slice p1 a0.length c2] I (fun I_ v => ∃ r, v = .bool r ∧ Q r) := by
 refine Fun.enter func140 r ntmps140 r (.c .n) fun w0 M => ?_
 refine .seq (.region (.skips 1 r (.nilS [0] r r (.seq (.seq (.region (.skips 1 r (.len underlying45 r r r r (.skips 1 r ?_)))))))))
 refine .nilS [6, 5, 0] r r (.block (.loop hd (fun (s31 : Int) c w => ∃ I_, IH.le I I_ ∧ Ok ⟨26, [], none⟩ [(0, .slice p1 a0.length c2), (5, .int .i64 (a0.length : Int)), (6, .int .i64 s31)] c ∧ Sym w0 M I I_ [] w) (fun c w ho hs => ⟨I, (.refl _), ho.sub ⟨r, r, r, trivial⟩, hs.pick .n⟩) ?_))
 rintro s31 next32 hd c w hst
 obtain ⟨I33, hl34, hok, hsym⟩ := hst
 have le35 := IH.le.trans (.refl _) hl34
 replace R3 := R3.mono hl34
 refine Cod.at hok hsym (.seq (.region (.lt r r r r (.nilS [7, 6, 5, 0] r r (.seq (.condP r hd (fun hb37 hd => ?_) fun hb37 hd => ?_))))))
 · refine .skipS [6, 5, 0] r r (.seq (.block (.seq (.region (.skips 2 r (.nilS [3, 6, 5, 0] r r (.seq (.draw [some 0, some 1, some 2, some 3, some 4, some 5, some 6, some 7, some 8, some 9, some 10, some 11, some 12, some 13, some 14, some 15] 16 MX (by kernel_rfl) (by kernel_rfl) (by kernel_rfl) (by kernel_rfl) (by kernel_rfl) (by kernel_rfl) (by kernel_rfl) (fun ex => ex) (fun _ _ => .z) r (.fs [[]] r (by kernel_rfl) ?_)))))))))
   refine .f [0] r (by kernel_rfl) r r (fun ex => .gt r r r r .mk) (.fs [[1]] r (by kernel_rfl) ?_)
   refine splitP hd (fun hb38 hd => ?_) fun hb38 hd => ?_
   · rw [hb38]
     refine .fs [[2], [2]] r (by kernel_rfl) (.f [4, 2] r (by kernel_rfl) r r (fun ex => .gyes r r r (.sub' r r r r .mk)) ?_)
     obtain ⟨h39, x40, hx41, hd⟩ := hd
     obtain ⟨b42, o43, cs44, e45, hC46, hr47⟩ := R3.2 _ _ hx41
     cases hr47
     refine .f [3, 5, 2] r (by kernel_rfl) r r (fun ex => .gyes r r r (.ixa underlying45 sizeOf85 r e45 r h39 (idx_lt hx41 h39) r r .mk)) (.f [6, 2] r (by kernel_rfl) r r (fun ex => .gyes r r r (.fieldAddr underlying85 r sizeOf3 r (o := o43 + (w64 (s31 - 1)).toNat * 3) r r r .mk)) (.f [7, 2] r (by kernel_rfl) r r (fun ex => .gyes r r r (.ld1 (j := 0) isAgg3 hC46 r r r r r .mk)) (.fs [[2], [2]] r (by kernel_rfl) ?_)))
     obtain ⟨h48, x49, hx50, hd⟩ := hd
     obtain ⟨b51, o52, cs53, e54, hC55, hr56⟩ := R3.2 _ _ hx50
     cases hr56
     refine .f [9, 10, 2] r (by kernel_rfl) r r (fun ex => .gyes r r r (.ixa underlying45 sizeOf85 r e54 r h48 (idx_lt hx50 h48) r r .mk)) (.f [11, 2] r (by kernel_rfl) r r (fun ex => .gyes r r r (.fieldAddr underlying85 r sizeOf3 r (o := o52 + s31.toNat * 3) r r r .mk)) (.f [12, 2] r (by kernel_rfl) r r (fun ex => .gyes r r r (.ld1 (j := 0) isAgg3 hC55 r r r r r .mk)) (.f [8, 13, 2] r (by kernel_rfl) r r (fun ex => .gyes r r r (.ge r r r r .mk)) (.fs [[2, 14]] r (by kernel_rfl) (.e 16 (by kernel_rfl) (by kernel_rfl) (by kernel_rfl) (.nilS [24, 6, 5, 0] r r (.condP r hd (fun hb57 hd => ?_) fun hb57 hd => ?_)))))))
     · exact .seq (.region (.skips 1 r (.nilS [2] r r (.ret (pret results140 (.t r .n) le35 ⟨false, r, hd⟩)))))
     exact .skipS [6, 5, 0] r r (.region (.add r r r r (.sub (E' := [(0, _), (5, _), (25, _)]) ⟨r, r, r, trivial⟩ (.skips 1 r (.nil' fun c w ho hs => ⟨(w64 (s31 + 1)), hd, I33, le35, ho.sub ⟨r, r, r, trivial⟩, hs.pick .n⟩)))))
   rw [hb38]
   exact .fs [[2], [2], [4, 2], [3, 5, 2], [6, 2], [7, 2], [2], [2], [9, 10, 2], [11, 2], [12, 2], [8, 13, 2], [2, 14]] r (by kernel_rfl) (.e 16 (by kernel_rfl) (by kernel_rfl) (by kernel_rfl) (.nilS [24, 6, 5, 0] r r (.condKF r r (.skipS [6, 5, 0] r r (.region (.add r r r r (.sub (E' := [(0, _), (5, _), (25, _)]) ⟨r, r, r, trivial⟩ (.skips 1 r (.nil' fun c w ho hs => ⟨(w64 (s31 + 1)), hd, I33, le35, ho.sub ⟨r, r, r, trivial⟩, hs.pick .n⟩)))))))))
 exact .exitS [] r r (.seq (.region (.skips 1 r (.nilS [2] r r (.ret (pret results140 (.t r .n) le35 ⟨true, r, hd⟩))))))

theorem W_push_heads_Len {I : IH} {a0 : List Push_head} {p1 : Option Addr} {c2 : Nat} {Q : Int → Prop} (R3 : RepSl ePush_head I p1 c2 a0) (hd : push_heads_Len a0 Q) :
    PFun Tryz.prog 142 [.slice p1 a0.length c2] I (fun I_ v => ∃ r, v = .int .i64 r ∧ Q r) := by
 refine Fun.enter func142 r ntmps142 r (.c .n) fun w0 M => ?_
 refine .seq (.region (.skips 1 r (.nilS [0] r r (.seq (.region (.skips 1 r (.len underlying185 r r r r (.skips 1 r (.nilS [2] r r ?_)))))))))
 exact .ret (pret results142 (.t r .n) (.refl _) ⟨(a0.length : Int), r, hd⟩)

theorem W_ring_Add {I : IH} {a0 : Int} {a1 : Wide} {a2 : Wide}  {Q : Wide → Prop}  (hd : ring_Add a0 a1 a2 Q) :
    PFun Tryz.prog 174 [.int .i64 a0, .agg (encWide a1).toArray, .agg (encWide a2).toArray] I (fun I_ v => ∃ r, v = .agg (encWide r).toArray ∧ Q r) := by
 refine Fun.enter func174 r ntmps174 r (.c (.c (.c .n))) fun w0 M => ?_
 refine .seq (.region (.boxA r r r fun b7 => ?_))
 refine .boxA r r r fun b9 => ?_
 refine .allocA zeroValue83 r r fun b11 => ?_
 refine .nilS [6, 5, 4, 0] r r (.seq (.seq (.region (.skips 1 r (.nilS [7, 6, 5, 4] r r (.block (.seq ?_)))))))
 refine Cod.joinQ (σ := Bool) hd (fun (s17 : Bool) c w => ∃ I_, IH.le I I_ ∧ Ok ⟨32, [], none⟩ [(4, .pointer (some ⟨b7, 0, none⟩)), (5, .pointer (some ⟨b9, 0, none⟩)), (6, .pointer (some ⟨b11, 0, none⟩)), (7, .int .i64 a0), (8, .bool s17)] c ∧ Sym w0 M I I_ [pto b7 (.cells #[.int .i64 a1.Hi, .int .u64 a1.Lo] 83 (0, 0)), pto b9 (.cells #[.int .i64 a2.Hi, .int .u64 a2.Lo] 83 (0, 0)), pto b11 (.cells #[.int .i64 0, .int .u64 0] 83 (0, 0))] w) (fun k18 hd => ?_) ?_
 · skip
   refine .seq (.region (.eq r r r r (.skips 1 r (.nilS [8, 7, 6, 5, 4] r r (.condP r hd (fun hb19 hd => ?_) fun hb19 hd => ?_)))))
   · exact .skip' fun c w ho hs => ⟨(a0 == 1), hd, I, (.refl _), ho.sub ⟨r, r, r, r, r, trivial⟩, hs.pick (.c (.s (.s .z)) (.c (.s .z) (.c .z .n)))⟩
   refine .seq (.region (.eq r r r r (.sub (E' := [(4, _), (5, _), (6, _), (7, _), (10, _)]) ⟨r, r, r, r, r, trivial⟩ (.skips 1 r (.nilS [8, 7, 6, 5, 4] r r (.condP r hd (fun hb20 hd => ?_) fun hb20 hd => ?_))))))
   · exact .skip' fun c w ho hs => ⟨(a0 == 3), hd, I, (.refl _), ho.sub ⟨r, r, r, r, r, trivial⟩, hs.pick (.c (.s (.s .z)) (.c (.s .z) (.c .z .n)))⟩
   exact .region (.eq r r r r (.sub (E' := [(4, _), (5, _), (6, _), (7, _), (11, _)]) ⟨r, r, r, r, r, trivial⟩ (.skips 1 r (.nil' fun c w ho hs => ⟨(a0 == 4), hd, I, (.refl _), ho.sub ⟨r, r, r, r, r, trivial⟩, hs.pick (.c (.s (.s .z)) (.c (.s .z) (.c .z .n)))⟩))))
 rintro s17 hd c w hst
 obtain ⟨I21, hl22, hok, hsym⟩ := hst
 have le23 := IH.le.trans (.refl _) hl22
 refine Cod.at hok hsym (.condP r hd (fun hb24 hd => ?_) fun hb24 hd => ?_)
 · refine .seq (.region (.loadW isAgg83 sizeOf83 r .z r r r (.loadW isAgg83 sizeOf83 r (.s .z) r r r ?_)))
   have hw26 := W_ring_lesser (I := I21) hd
   refine .callP call167 r hw26 r r fun v27 hv28 => ?_
   obtain ⟨r25, rfl, hd⟩ := hv28
   exact .storeA sizeOf83 r r (.s (.s .z)) (.t (.t .nil)) r r (.nilS [6] r r (.drop .z (.drop .z (.ret (pret results174 (.w isAgg83 sizeOf83 r .z r .n) le23 ⟨r25, r, hd⟩)))))
 refine .seq (.region (.eq r r r r (.skips 1 r (.nilS [15, 7, 6, 5, 4] r r (.condP r hd (fun hb29 hd => ?_) fun hb29 hd => ?_)))))
 · refine .seq (.region (.loadW isAgg83 sizeOf83 r .z r r r (.loadW isAgg83 sizeOf83 r (.s .z) r r r (.neV r r (EQ83 a1 a2) (EG83 _ _ _ _ _) r r r (.skips 1 r ?_)))))
   refine splitP hd (fun hb30 hd => ?_) fun hb30 hd => ?_
   · rw [hb30]
     refine .skips 4 r ?_
     have hw32 := W_ring_truth (I := I21) hd
     refine .callP call164 r hw32 r r fun v33 hv34 => ?_
     obtain ⟨r31, rfl, hd⟩ := hv34
     exact .storeA sizeOf83 r r (.s (.s .z)) (.t (.t .nil)) r r (.nilS [6] r r (.drop .z (.drop .z (.ret (pret results174 (.w isAgg83 sizeOf83 r .z r .n) le23 ⟨r31, r, hd⟩)))))
   rw [hb30]
   refine .gyes r r r (.loadW isAgg83 sizeOf83 r .z r r r (.gyes r r r (.build zeroValue83 underlying83 BI83 .n (by exact trivial) r r (.gyes r r r (.neV r r (EQ83 a1 ({ Hi := 0, Lo := 0 } : Wide)) (EG83 _ _ _ _ _) r r r (.skips 1 r ?_))))))
   have hw36 := W_ring_truth (I := I21) hd
   refine .callP call164 r hw36 r r fun v37 hv38 => ?_
   obtain ⟨r35, rfl, hd⟩ := hv38
   exact .storeA sizeOf83 r r (.s (.s .z)) (.t (.t .nil)) r r (.nilS [6] r r (.drop .z (.drop .z (.ret (pret results174 (.w isAgg83 sizeOf83 r .z r .n) le23 ⟨r35, r, hd⟩)))))
 refine .seq (.region (.eq r r r r (.skips 1 r (.nilS [26, 6, 5, 4] r r (.condP r hd (fun hb39 hd => ?_) fun hb39 hd => ?_)))))
 · refine .seq (.region (.loadW isAgg83 sizeOf83 r .z r r r (.loadW isAgg83 sizeOf83 r (.s .z) r r r ?_)))
   have hw41 := W_wide_Add (I := I21) hd
   refine .callP call168 r hw41 r r fun v42 hv43 => ?_
   obtain ⟨r40, rfl, hd⟩ := hv43
   exact .storeA sizeOf83 r r (.s (.s .z)) (.t (.t .nil)) r r (.nilS [6] r r (.drop .z (.drop .z (.ret (pret results174 (.w isAgg83 sizeOf83 r .z r .n) le23 ⟨r40, r, hd⟩)))))
 exact .skipS [6] r r (.drop .z (.drop .z (.seq (.region (.build zeroValue83 underlying83 BI83 .n (by exact trivial) r r (.storeA sizeOf83 r r .z (.t (.t .nil)) r r (.nilS [6] r r (.ret (pret results174 (.w isAgg83 sizeOf83 r .z r .n) le23 ⟨({ Hi := 0, Lo := 0 } : Wide), r, hd⟩)))))))))

theorem W_push_Merge_1_d96 {I : IH} {a0 : List Sum} {p1 : Option Addr} {c2 : Nat} {Q : Bool → Prop} (R3 : RepSl eSum I p1 c2 a0) (hd : push_Merge_1_d96 a0 Q) :
    Fun Tryz.prog 139 #[.slice p1 a0.length c2] I [] (fun I_ v l => ∃ r, v = .bool r ∧ l = [] ∧ Q r) := by
 refine Fun.enter (vs := [.slice p1 a0.length c2]) func139 r ntmps139 r (.c .n) fun w0 M => ?_
 refine .seq (.region (.skips 1 r (.nilS [0] r r (.seq (.region (.skips 1 r ?_))))))
 have hw5 := W_push_rises (I := I) R3 hd
 refine .callP call140 r hw5 r r fun v6 hv7 => ?_
 obtain ⟨r4, rfl, hd⟩ := hv7
 exact .not r r r (.skips 1 r (.nilS [2] r r (.ret (oret results139 (.t r .n) (.refl _) .n ⟨(!r4), r, r, hd⟩))))

theorem W_slices_IndexFunc_api_Sum_api_Sum_acf {I : IH} {a0 : List (List Sum)} {p1 : Option Addr} {c2 : Nat} {Q : Int → Prop} (R3 : RepSl (slEl eSum) I p1 c2 a0) (hd : slices_IndexFunc_api_Sum_api_Sum_acf a0 Q) :
    Fun Tryz.prog 171 #[.slice p1 a0.length c2, .func (.func 139) #[] #[]] I [] (fun I_ v l => ∃ r, v = .int .i64 r ∧ l = [] ∧ Q r) := by
 refine Fun.enter (vs := [.slice p1 a0.length c2, .func (.func 139) #[] #[]]) func171 r ntmps171 r (.c (.c .n)) fun w0 M => ?_
 refine .seq (.region (.skips 1 r (.nilS [1, 0] r r (.seq (.seq (.region (.skips 1 r (.len underlying155 r r r r (.skips 1 r ?_)))))))))
 refine .nilS [8, 7, 1, 0] r r (.block (.loop hd (fun (s53 : Int) c w => ∃ I_, IH.le I I_ ∧ Ok ⟨19, [], none⟩ [(0, .slice p1 a0.length c2), (1, .func (.func 139) #[] #[]), (7, .int .i64 (a0.length : Int)), (8, .int .i64 s53)] c ∧ Sym w0 M I I_ [] w) (fun c w ho hs => ⟨I, (.refl _), ho.sub ⟨r, r, r, r, trivial⟩, hs.pick .n⟩) ?_))
 rintro s53 next54 hd c w hst
 obtain ⟨I55, hl56, hok, hsym⟩ := hst
 have le57 := IH.le.trans (.refl _) hl56
 replace R3 := R3.mono hl56
 refine Cod.at hok hsym (.seq (.region (.lt r r r r (.nilS [9, 8, 7, 1, 0] r r (.seq (.condP r hd (fun hb59 hd => ?_) fun hb59 hd => ?_))))))
 · refine .skipS [8, 7, 1, 0] r r (.seq (.block (.seq (.region (.skips 2 r (.nilS [5, 8, 7, 1, 0] r r (.seq (.region (.skips 3 r ?_)))))))))
   obtain ⟨h60, x61, hx62, hd⟩ := hd
   obtain ⟨b63, o64, cs65, e66, hC67, hr68⟩ := R3.2 _ _ hx62
   obtain ⟨p69, c70, rfl, R71⟩ := hr68
   refine .ixa underlying155 sizeOf45 r e66 r h60 (idx_lt hx62 h60) r r (.ld1 (j := 0) isAgg45 hC67 r r r r r ?_)
   have hw72 := W_push_Merge_1_d96 (I := I55) (a0 := x61) R71 hd
   refine .callS (.c call139 r r) .n hw72 r r fun v76 I73 l77 hl74 hv75 => ?_
   obtain ⟨r78, rfl, rfl, hd⟩ := hv75
   have le79 := IH.le.trans le57 hl74
   replace R3 := R3.mono hl74
   replace R71 := R71.mono hl74
   replace hC67 := hC67.mono hl74
   refine .re (m' := []) r (.nilS [16, 5, 8, 7, 1, 0] r r (.condP r hd (fun hb80 hd => ?_) fun hb80 hd => ?_))
   · exact .seq (.region (.skips 2 r (.nilS [4, 1] r r (.ret (oret results171 (.t r .n) le79 .n ⟨s53, r, r, hd⟩)))))
   exact .skipS [8, 7, 1, 0] r r (.region (.add r r r r (.sub (E' := [(0, _), (1, _), (7, _), (18, _)]) ⟨r, r, r, r, trivial⟩ (.skips 1 r (.nil' fun c w ho hs => ⟨(w64 (s53 + 1)), hd, I73, le79, ho.sub ⟨r, r, r, r, trivial⟩, hs.pick .n⟩)))))
 exact .exitS [1] r r (.seq (.region (.skips 1 r (.nilS [4, 1] r r (.ret (oret results171 (.t r .n) le57 .n ⟨(-1), r, r, hd⟩))))))

theorem W_slices_ContainsFunc_api_Sum_api_Sum_bfd {I : IH} {a0 : List (List Sum)} {p1 : Option Addr} {c2 : Nat} {Q : Bool → Prop} (R3 : RepSl (slEl eSum) I p1 c2 a0) (hd : slices_ContainsFunc_api_Sum_api_Sum_bfd a0 Q) :
    Fun Tryz.prog 138 #[.slice p1 a0.length c2, .func (.func 139) #[] #[]] I [] (fun I_ v l => ∃ r, v = .bool r ∧ l = [] ∧ Q r) := by
 refine Fun.enter (vs := [.slice p1 a0.length c2, .func (.func 139) #[] #[]]) func138 r ntmps138 r (.c (.c .n)) fun w0 M => ?_
 refine .seq (.region (.skips 1 r (.nilS [1, 0] r r (.seq (.region (.skips 2 r ?_))))))
 have hw4 := W_slices_IndexFunc_api_Sum_api_Sum_acf (I := I) (a0 := a0) R3 hd
 refine .callS (.f call171 r) .n hw4 r r fun v8 I5 l9 hl6 hv7 => ?_
 obtain ⟨r10, rfl, rfl, hd⟩ := hv7
 have le11 := IH.le.trans (.refl _) hl6
 replace R3 := R3.mono hl6
 exact .re (m' := []) r (.ge r r r r (.skips 1 r (.nilS [4, 1] r r (.ret (oret results138 (.t r .n) le11 .n ⟨(decide (0 ≤ r10)), r, r, hd⟩)))))

theorem W_push_heads_Push_5fa {I : IH} {o0 : Push_merger} {a0 : Push_head} {b2 : Nat} {p3 : Option Addr} {c4 : Nat} {p6 : Option Addr} {c7 : Nat} {p11 : Option Addr} {c12 : Nat} {Q : Push_merger → Prop} (R13 : RepSl eSum I p11 c12 a0.l) (hd : push_heads_Push_5fa o0 a0 Q) :
    Fun Tryz.prog 216 #[.pointer (some ⟨b2, 0, none⟩), .iface 213 (.agg #[.slice p11 a0.l.length c12, .int .i64 a0.which])] I [pto b2 (.cells #[.slice p3 o0.heads.length c4, .int .i64 o0.r, .slice p6 o0.out.length c7] 187 (0, 0)), OwnSl ePush_head 213 p3 c4 o0.heads, OwnSl eSum 85 p6 c7 o0.out] (fun I_ v l => ∃ r p15 c16 p18 c19, v = .tuple #[] ∧ l = [pto b2 (.cells #[.slice p15 r.heads.length c16, .int .i64 r.r, .slice p18 r.out.length c19] 187 (0, 0)), OwnSl ePush_head 213 p15 c16 r.heads, OwnSl eSum 85 p18 c19 r.out] ∧ Q r) := by
 refine Fun.enter (vs := [.pointer (some ⟨b2, 0, none⟩), .iface 213 (.agg #[.slice p11 a0.l.length c12, .int .i64 a0.which])]) func216 r ntmps216 r (.c (.c .n)) fun w0 M => ?_
 refine .seq (.region (.skips 1 r (.assertOk underlying213 r r r r (.skips 1 r (.extract r r r r (.extract r r r r (.allocA zeroValue213 r r fun b16 => ?_)))))))
 refine .storeA sizeOf213 r r .z (.t (.t .nil)) r r (.skips 1 r (.nilS [5, 4, 0] r r (.seq (.region (.skips 1 r (.nilS [11, 4, 0] r r (.condKT r r (.draw [some 0, some 1, some 2, some 3, some 4, some 5, some 6] 7 MX (by kernel_rfl) (by kernel_rfl) (by kernel_rfl) (by kernel_rfl) (by kernel_rfl) (by kernel_rfl) (by kernel_rfl) (fun ex => (pto b16 (.cells #[.slice p11 a0.l.length c12, .int .i64 a0.which] 213 (0, 0))) :: (pto b2 (.cells #[.slice p3 o0.heads.length c4, .int .i64 o0.r, .slice p6 o0.out.length c7] 187 (0, 0))) :: (OwnSl ePush_head 213 p3 c4 o0.heads) :: (OwnSl eSum 85 p6 c7 o0.out) :: ex) (fun _ _ => (.s (.s (.s (.s .z))))) r (.fs [[], []] r (by kernel_rfl) ?_)))))))))
 refine .f [1] r (by kernel_rfl) r r (fun ex => .nilCheckP r r r .mk) (.f [2] r (by kernel_rfl) r r (fun ex => .load1 isAgg185 r (.s .z) r r r .mk) (.f [] r (by kernel_rfl) r r (fun ex => .loadW isAgg213 sizeOf213 r .z r r r .mk) (.w [3, 2, 1, 0] [[]] [4] r (by kernel_rfl) (by kernel_rfl) (by kernel_rfl) ((dropE_kept r r)) (.inr (dropE_kept r r)) fun ex => ?_)))
 refine .buildSlice 1 underlying185 sizeOf213 zeroValue213 r r (.c r r r .n) r r fun b18 => ?_
 refine .some (fun ex => (pto b18 (.cells #[.slice p11 a0.l.length c12, .int .i64 a0.which] 213 (0, 0))) :: (pto b16 (.cells #[.slice p11 a0.l.length c12, .int .i64 a0.which] 213 (0, 0))) :: (pto b2 (.cells #[.slice p3 o0.heads.length c4, .int .i64 o0.r, .slice p6 o0.out.length c7] 187 (0, 0))) :: (OwnSl ePush_head 213 p3 c4 o0.heads) :: (OwnSl eSum 85 p6 c7 o0.out) :: ex) r (fun _ _ => (.s (.s (.s (.s (.s .z)))))) r (.cc [2] r (by kernel_rfl) r r r (fun ex => .load1 isAgg185 r (.s (.s .z)) r r r .mk) (.cc [1] r (by kernel_rfl) r r r (fun ex => .nilCheckP r r r .mk) (.ccs [[], []] r r (by kernel_rfl) trivial))) (.w [0] [[], [3], [2, 3]] [3, 5] r (by kernel_rfl) (by kernel_rfl) (by kernel_rfl) ((dropE_kept r r)) (.inr (dropE_kept r r)) fun ex => ?_)
 obtain ⟨hl20, hd⟩ := hd
 refine .append (ys := [a0]) 32 (.s (.s (.s .z))) underlying185 underlying185 IN213 r r r r r r r r r (.box .z (.one ⟨_, _, r, R13⟩) r) hl20 r r fun p21 c22 => ?_
 exact .some (fun ex => (OwnSl ePush_head 213 p21 c22 (o0.heads ++ ([a0]))) :: (pto b18 (.cells #[.slice p11 a0.l.length c12, .int .i64 a0.which] 213 (0, 0))) :: (pto b16 (.cells #[.slice p11 a0.l.length c12, .int .i64 a0.which] 213 (0, 0))) :: (pto b2 (.cells #[.slice p3 o0.heads.length c4, .int .i64 o0.r, .slice p6 o0.out.length c7] 187 (0, 0))) :: (OwnSl eSum 85 p6 c7 o0.out) :: ex) r (fun _ _ => (.s (.s (.s (.s (.s .z)))))) r (.ccs [[]] r r (by kernel_rfl) trivial) (.e 7 (by kernel_rfl) (by kernel_rfl) (by kernel_rfl) (.nilCheckP r r r (.store1 sizeOf185 r r (.s (.s (.s .z))) (.t .nil) r (.nil' (oretN results216 .n (.refl _) (.c (.s (.s (.s .z))) (.c .z (.c (.s (.s .z)) .n))) ⟨({ heads := (o0.heads ++ ([a0])), r := o0.r, out := o0.out } : Push_merger), _, _, _, _, r, r, hd⟩)))))

theorem W_push_heads_Len_66a {I : IH} {o0 : List Push_head} {p2 : Option Addr} {c3 : Nat} {Q : Int → Prop}  (hd : push_heads_Len_66a o0 Q) :
    Fun Tryz.prog 142 #[.slice p2 o0.length c3] I [OwnSl ePush_head 213 p2 c3 o0] (fun I_ v l => ∃ r, v = .int .i64 r ∧ l = [OwnSl ePush_head 213 p2 c3 o0] ∧ Q r) := by
 refine Fun.enter (vs := [.slice p2 o0.length c3]) func142 r ntmps142 r (.c .n) fun w0 M => ?_
 refine .seq (.region (.skips 1 r (.nilS [0] r r (.seq (.region (.skips 1 r (.len underlying185 r r r r (.skips 1 r (.nilS [2, 0] r r ?_)))))))))
 exact .ret (oret results142 (.t r .n) (.refl _) (.c .z .n) ⟨(o0.length : Int), r, r, hd⟩)

theorem W_push_heads_Less_706 {I : IH} {o0 : List Push_head} {a0 : Int} {a1 : Int} {p2 : Option Addr} {c3 : Nat} {Q : Bool → Prop}  (hd : push_heads_Less_706 o0 a0 a1 Q) :
    Fun Tryz.prog 214 #[.slice p2 o0.length c3, .int .i64 a0, .int .i64 a1] I [OwnSl ePush_head 213 p2 c3 o0] (fun I_ v l => ∃ r, v = .bool r ∧ l = [OwnSl ePush_head 213 p2 c3 o0] ∧ Q r) := by
 refine Fun.enter (vs := [.slice p2 o0.length c3, .int .i64 a0, .int .i64 a1]) func214 r ntmps214 r (.c (.c (.c .n))) fun w0 M => ?_
 refine .seq (.region (.skips 1 r (.nilS [2, 1, 0] r r (.seq (.ownF .z fun hne4 => ?_)))))
 refine .openS .z fun css5 hrep6 => ?_
 refine .draw [some 0, some 1, some 2, some 3, some 4, some 5, some 6, some 7, some 8, some 9, some 10, some 11, some 12, some 13, some 14, some 15, some 17, some 18, some 19, some 20, some 21, some 22, some 23, some 24, some 25, some 26, some 16, some 27, some 28, some 29, some 30] 31 MX (by kernel_rfl) (by kernel_rfl) (by kernel_rfl) (by kernel_rfl) (by kernel_rfl) (by kernel_rfl) (by kernel_rfl) (fun ex => (OwnSl (rawEl (ePush_head).sz) 213 p2 c3 css5) :: ex) (fun _ _ => (.s .z)) r (.fs [[], []] r (by kernel_rfl) ?_)
 obtain ⟨h7, x8, hx9, hd⟩ := hd
 obtain ⟨b10, e11⟩ := hne4 (idx_ne hx9)
 cases e11
 obtain ⟨cs12, hc13, hcs14, hr15⟩ := hrep6.get hx9
 obtain ⟨p16, c17, rfl, R18⟩ := hr15
 refine .f [0, 1] r (by kernel_rfl) r r (fun ex => .ixa0 underlying185 sizeOf213 r r h7 (idx_lt hx9 h7) r r .mk) (.f [2] r (by kernel_rfl) r r (fun ex => .fieldAddr underlying213 r sizeOf45 r (o := a0.toNat * 2) r r r .mk) (.f [3] r (by kernel_rfl) r r (fun ex => .lo1 (j := 0) isAgg45 .z hcs14 r r r r r .mk) ?_))
 obtain ⟨h19, x20, hx21, hd⟩ := hd
 obtain ⟨b22, o23, cs24, e25, hC26, hr27⟩ := R18.2 _ _ hx21
 cases hr27
 refine .f [4] r (by kernel_rfl) r r (fun ex => .ixa underlying45 sizeOf85 r e25 r h19 (idx_lt hx21 h19) r r .mk) (.f [5] r (by kernel_rfl) r r (fun ex => .fieldAddr underlying85 r sizeOf3 r (o := o23 + (Int.toNat 0) * 3) r r r .mk) (.f [6] r (by kernel_rfl) r r (fun ex => .ld1 (j := 0) isAgg3 hC26 r r r r r .mk) (.fs [[], []] r (by kernel_rfl) ?_)))
 obtain ⟨h28, x29, hx30, hd⟩ := hd
 obtain ⟨cs31, hc32, hcs33, hr34⟩ := hrep6.get hx30
 obtain ⟨p35, c36, rfl, R37⟩ := hr34
 refine .f [8, 9] r (by kernel_rfl) r r (fun ex => .ixa0 underlying185 sizeOf213 r r h28 (idx_lt hx30 h28) r r .mk) (.f [10] r (by kernel_rfl) r r (fun ex => .fieldAddr underlying213 r sizeOf45 r (o := a1.toNat * 2) r r r .mk) (.f [11] r (by kernel_rfl) r r (fun ex => .lo1 (j := 0) isAgg45 .z hcs33 r r r r r .mk) ?_))
 obtain ⟨h38, x39, hx40, hd⟩ := hd
 obtain ⟨b41, o42, cs43, e44, hC45, hr46⟩ := R37.2 _ _ hx40
 cases hr46
 refine .f [12] r (by kernel_rfl) r r (fun ex => .ixa underlying45 sizeOf85 r e44 r h38 (idx_lt hx40 h38) r r .mk) (.f [13] r (by kernel_rfl) r r (fun ex => .fieldAddr underlying85 r sizeOf3 r (o := o42 + (Int.toNat 0) * 3) r r r .mk) (.f [14] r (by kernel_rfl) r r (fun ex => .ld1 (j := 0) isAgg3 hC45 r r r r r .mk) (.fs [[], []] r (by kernel_rfl) ?_)))
 obtain ⟨h47, x48, hx49, hd⟩ := hd
 obtain ⟨cs50, hc51, hcs52, hr53⟩ := hrep6.get hx49
 obtain ⟨p54, c55, rfl, R56⟩ := hr53
 refine .f [17, 18] r (by kernel_rfl) r r (fun ex => .ixa0 underlying185 sizeOf213 r r h47 (idx_lt hx49 h47) r r .mk) (.f [19] r (by kernel_rfl) r r (fun ex => .fieldAddr underlying213 r sizeOf3 r (o := a0.toNat * 2 + 1) r r r .mk) (.f [20] r (by kernel_rfl) r r (fun ex => .lo1 (j := 1) isAgg3 .z hcs52 r r r r r .mk) (.fs [[], []] r (by kernel_rfl) ?_)))
 obtain ⟨h57, x58, hx59, hd⟩ := hd
 obtain ⟨cs60, hc61, hcs62, hr63⟩ := hrep6.get hx59
 obtain ⟨p64, c65, rfl, R66⟩ := hr63
 refine .f [22, 23] r (by kernel_rfl) r r (fun ex => .ixa0 underlying185 sizeOf213 r r h57 (idx_lt hx59 h57) r r .mk) (.f [24] r (by kernel_rfl) r r (fun ex => .fieldAddr underlying213 r sizeOf3 r (o := a1.toNat * 2 + 1) r r r .mk) (.f [25] r (by kernel_rfl) r r (fun ex => .lo1 (j := 1) isAgg3 .z hcs62 r r r r r .mk) (.w [26, 25, 24, 23, 22, 21, 20, 19, 18, 17] [[], [15], [14, 15], [13, 14, 15], [12, 13, 14, 15], [11, 12, 13, 14, 15], [10, 11, 12, 13, 14, 15], [10, 11, 12, 13, 14, 15], [], [7], [6, 7], [5, 6, 7], [4, 5, 6, 7], [3, 4, 5, 6, 7], [2, 3, 4, 5, 6, 7], [2, 3, 4, 5, 6, 7]] [7, 15] r (by kernel_rfl) (by kernel_rfl) (by kernel_rfl) ((dropE_kept r r)) (.inr (dropE_kept r r)) fun ex => ?_)))
 have hw68 := W_cmp_Compare_int (I := I) hd
 refine .callP call131 r hw68 r r fun v69 hv70 => ?_
 obtain ⟨r67, rfl, hd⟩ := hv70
 refine .some (fun ex => (OwnSl (rawEl (ePush_head).sz) 213 (some ⟨b10, 0, none⟩) c3 css5) :: ex) r (fun _ _ => (.s .z)) r (.cc [25] r (by kernel_rfl) r r r (fun ex => .lo1 (j := 1) isAgg3 .z hcs62 r r r r r .mk) (.cc [24] r (by kernel_rfl) r r r (fun ex => .fieldAddr underlying213 r sizeOf3 r (o := a1.toNat * 2 + 1) r r r .mk) (.cc [22, 23] r (by kernel_rfl) r r r (fun ex => .ixa0 underlying185 sizeOf213 r r h57 (idx_lt hx59 h57) r r .mk) (.ccs [[], []] r r (by kernel_rfl) (.cc [20] r (by kernel_rfl) r r r (fun ex => .lo1 (j := 1) isAgg3 .z hcs52 r r r r r .mk) (.cc [19] r (by kernel_rfl) r r r (fun ex => .fieldAddr underlying213 r sizeOf3 r (o := a0.toNat * 2 + 1) r r r .mk) (.cc [17, 18] r (by kernel_rfl) r r r (fun ex => .ixa0 underlying185 sizeOf213 r r h47 (idx_lt hx49 h47) r r .mk) (.ccs [[], []] r r (by kernel_rfl) trivial)))))))) (.w [] [[], [26], [25, 26], [24, 25, 26], [24, 25, 26], [], [21], [20, 21], [19, 20, 21], [19, 20, 21]] [21, 26, 16] r (by kernel_rfl) (by kernel_rfl) (by kernel_rfl) ((dropE_kept r r)) (.inr (dropE_kept r r)) fun ex => ?_)
 have hw72 := W_cmp_Compare_int (I := I) hd
 refine .callP call131 r hw72 r r fun v73 hv74 => ?_
 obtain ⟨r71, rfl, hd⟩ := hv74
 refine .some (fun ex => (OwnSl (rawEl (ePush_head).sz) 213 (some ⟨b10, 0, none⟩) c3 css5) :: ex) r (fun _ _ => (.s .z)) r trivial (.w [] [] [16, 27] r (by kernel_rfl) (by kernel_rfl) (by kernel_rfl) ((dropE_kept r r)) (.inr (dropE_kept r r)) fun ex => ?_)
 refine .buildSlice 2 underlying36 sizeOf3 zeroValue3 r r (.c r r r (.c r r r .n)) r r fun b75 => ?_
 refine .some (fun ex => (pto b75 (.cells #[.int .i64 r67, .int .i64 r71] 3 (0, 0))) :: (OwnSl (rawEl (ePush_head).sz) 213 (some ⟨b10, 0, none⟩) c3 css5) :: ex) r (fun _ _ => (.s (.s .z))) r trivial (.w [] [] [28, 27] r (by kernel_rfl) (by kernel_rfl) (by kernel_rfl) ((dropE_kept r r)) (.inr (dropE_kept r r)) fun ex => ?_)
 refine .pubB (El := eI64) (ys := ([r67, r71] : List Int)) (k := 2) .z (RepCs.cons (cs := [.int .i64 r67]) r (RepCs.cons (cs := [.int .i64 r71]) r .nil)) r fun I77 hl78 R79 => ?_
 have le80 := IH.le.trans (.refl _) hl78
 replace hrep6 := hrep6.mono hl78
 replace R18 := R18.mono hl78
 replace hC26 := hC26.mono hl78
 replace R37 := R37.mono hl78
 replace hC45 := hC45.mono hl78
 have hw82 := W_cmp_Or_int (I := I77) R79 hd
 refine .callP call130 r hw82 r r fun v83 hv84 => ?_
 obtain ⟨r81, rfl, hd⟩ := hv84
 exact .some (fun ex => (OwnSl (rawEl (ePush_head).sz) 213 (some ⟨b10, 0, none⟩) c3 css5) :: ex) r (fun _ _ => (.s .z)) r trivial (.f [29] r (by kernel_rfl) r r (fun ex => .lt r r r r .mk) (.e 31 (by kernel_rfl) (by kernel_rfl) (by kernel_rfl) (.closeS .z hrep6 (.skips 1 r (.nilS [6, 0] r r (.ret (oret results214 (.t r .n) le80 (.c .z .n) ⟨(decide (r81 < 0)), r, r, hd⟩)))))))

theorem W_push_heads_Swap_c73 {I : IH} {o0 : List Push_head} {a0 : Int} {a1 : Int} {p2 : Option Addr} {c3 : Nat} {Q : (List Push_head) → Prop}  (hd : push_heads_Swap_c73 o0 a0 a1 Q) :
    Fun Tryz.prog 217 #[.slice p2 o0.length c3, .int .i64 a0, .int .i64 a1] I [OwnSl ePush_head 213 p2 c3 o0] (fun I_ v l => ∃ r, v = .tuple #[] ∧ r.length = o0.length ∧ l = [OwnSl ePush_head 213 p2 c3 r] ∧ Q r) := by
 refine Fun.enter (vs := [.slice p2 o0.length c3, .int .i64 a0, .int .i64 a1]) func217 r ntmps217 r (.c (.c (.c .n))) fun w0 M => ?_
 refine .ownF .z fun hne4 => ?_
 refine .openS .z fun css5 hrep6 => ?_
 refine .draw [some 0, some 1, some 2, some 3, some 4, some 5, some 6, some 7, some 8, some 9, some 10, some 11, some 12, some 13] 14 MX (by kernel_rfl) (by kernel_rfl) (by kernel_rfl) (by kernel_rfl) (by kernel_rfl) (by kernel_rfl) (by kernel_rfl) (fun ex => (OwnSl (rawEl (ePush_head).sz) 213 p2 c3 css5) :: ex) (fun _ _ => (.s .z)) r (.fs [[], [], [], [], [], []] r (by kernel_rfl) ?_)
 obtain ⟨h7, x8, hx9, hd⟩ := hd
 obtain ⟨b10, e11⟩ := hne4 (idx_ne hx9)
 cases e11
 obtain ⟨cs12, hc13, hcs14, hr15⟩ := hrep6.get hx9
 obtain ⟨p16, c17, rfl, R18⟩ := hr15
 refine .f [4, 5] r (by kernel_rfl) r r (fun ex => .ixa0 underlying185 sizeOf213 r r h7 (idx_lt hx9 h7) r r .mk) (.f [6] r (by kernel_rfl) r r (fun ex => .loA (j := 0) isAgg213 sizeOf213 .z hcs14 r r (.t (.t .nil)) r r r .mk) (.fs [[], []] r (by kernel_rfl) ?_))
 obtain ⟨h19, x20, hx21, hd⟩ := hd
 obtain ⟨cs22, hc23, hcs24, hr25⟩ := hrep6.get hx21
 obtain ⟨p26, c27, rfl, R28⟩ := hr25
 refine .f [8, 9] r (by kernel_rfl) r r (fun ex => .ixa0 underlying185 sizeOf213 r r h19 (idx_lt hx21 h19) r r .mk) (.f [10] r (by kernel_rfl) r r (fun ex => .loA (j := 0) isAgg213 sizeOf213 .z hcs24 r r (.t (.t .nil)) r r r .mk) ?_)
 obtain ⟨h29, x30, hx31, hd⟩ := hd
 obtain ⟨cs32, hc33, hcs34, hr35⟩ := hrep6.get hx31
 obtain ⟨p36, c37, rfl, R38⟩ := hr35
 refine .f [0, 1, 0, 1, 4, 5, 6, 7, 11] r (by kernel_rfl) r r (fun ex => .ixa0 underlying185 sizeOf213 r r h29 (idx_lt hx31 h29) r r .mk) (.w [3, 2] [[], [], [11], [10, 11], [10, 11], [], [], [], [], [], []] [12, 7, 0, 1, 4, 5, 6, 7, 11] r (by kernel_rfl) (by kernel_rfl) (by kernel_rfl) ((dropE_none r)) (.inr (dropE_none r)) fun ex => ?_)
 have hrep39 := hrep6.set (x := x8) a0.toNat (cs := [.slice p16 x8.l.length c17, .int .i64 x8.which]) ⟨_, _, r, R18⟩ ⟨r, r⟩
 refine .stOA (j := 0) (v' := ⟨[.slice p16 x8.l.length c17, .int .i64 x8.which], r, r⟩) sizeOf213 .z hcs34 r r r (.t (.t .nil)) r r (.none (fun ex => (OwnSl (rawEl (ePush_head).sz) 213 (some ⟨b10, 0, none⟩) c3 (css5.set a0.toNat ⟨[.slice p16 x8.l.length c17, .int .i64 x8.which], r, r⟩)) :: ex) r (fun _ _ => (.s .z)) r (.ccs [[], []] r r (by kernel_rfl) trivial) (.e 14 (by kernel_rfl) (by kernel_rfl) (by kernel_rfl) (.sub (E' := [(0, .slice (some ⟨b10, 0, none⟩) (o0.set a0.toNat x8).length c3), (1, _), (2, _), (6, .slice (some ⟨b10, 0, none⟩) (o0.set a0.toNat x8).length c3), (7, _), (8, .slice (some ⟨b10, 0, none⟩) (o0.set a0.toNat x8).length c3), (9, _), (10, .slice (some ⟨b10, 0, none⟩) (o0.set a0.toNat x8).length c3), (11, _), (12, _), (13, _), (14, .slice (some ⟨b10, 0, none⟩) (o0.set a0.toNat x8).length c3), (15, _), (16, _), (17, _), (18, _)]) ⟨(by simp only [List.length_set]; rfl), r, r, (by simp only [List.length_set]; rfl), r, (by simp only [List.length_set]; rfl), r, (by simp only [List.length_set]; rfl), r, r, r, (by simp only [List.length_set]; rfl), r, r, r, r, trivial⟩ (.closeS .z hrep39 ?_))))
 obtain ⟨h40, x41, hx42, hd⟩ := hd
 refine .ixa0 underlying185 sizeOf213 r r h40 (idx_lt hx42 h40) r r (.openS .z fun css43 hrep44 => ?_)
 obtain ⟨cs45, hc46, hcs47, hr48⟩ := hrep44.get hx42
 obtain ⟨p49, c50, rfl, R51⟩ := hr48
 have hrep52 := hrep44.set (x := x20) a1.toNat (cs := [.slice p26 x20.l.length c27, .int .i64 x20.which]) ⟨_, _, r, R28⟩ ⟨r, r⟩
 exact .stOA (j := 0) (v' := ⟨[.slice p26 x20.l.length c27, .int .i64 x20.which], r, r⟩) sizeOf213 .z hcs47 r r r (.t (.t .nil)) r r (.closeS .z hrep52 (.sub (E' := [(0, .slice (some ⟨b10, 0, none⟩) ((o0.set a0.toNat x8).set a1.toNat x20).length c3), (1, _), (2, _), (6, .slice (some ⟨b10, 0, none⟩) ((o0.set a0.toNat x8).set a1.toNat x20).length c3), (7, _), (8, .slice (some ⟨b10, 0, none⟩) ((o0.set a0.toNat x8).set a1.toNat x20).length c3), (9, _), (10, .slice (some ⟨b10, 0, none⟩) ((o0.set a0.toNat x8).set a1.toNat x20).length c3), (11, _), (12, _), (13, _), (14, .slice (some ⟨b10, 0, none⟩) ((o0.set a0.toNat x8).set a1.toNat x20).length c3), (15, _), (16, _), (17, _), (18, _), (19, _)]) ⟨(by simp only [List.length_set]; rfl), r, r, (by simp only [List.length_set]; rfl), r, (by simp only [List.length_set]; rfl), r, (by simp only [List.length_set]; rfl), r, r, r, (by simp only [List.length_set]; rfl), r, r, r, r, r, trivial⟩ (.nil' (oretN results217 .n (.refl _) (.c .z .n) ⟨((o0.set a0.toNat x8).set a1.toNat x20), r, (by simp only [List.length_set]), r, hd⟩))))

theorem W_container_heap_up_248 {I : IH} {o0 : Push_merger} {a0 : Int} {b2 : Nat} {p3 : Option Addr} {c4 : Nat} {p6 : Option Addr} {c7 : Nat} {Q : Push_merger → Prop}  (hd : container_heap_up_248 o0 a0 Q) :
    Fun Tryz.prog 190 #[.iface 211 (.pointer (some ⟨b2, 0, none⟩)), .int .i64 a0] I [pto b2 (.cells #[.slice p3 o0.heads.length c4, .int .i64 o0.r, .slice p6 o0.out.length c7] 187 (0, 0)), OwnSl ePush_head 213 p3 c4 o0.heads, OwnSl eSum 85 p6 c7 o0.out] (fun I_ v l => ∃ r p12 c13 p15 c16, v = .tuple #[] ∧ l = [pto b2 (.cells #[.slice p12 r.heads.length c13, .int .i64 r.r, .slice p15 r.out.length c16] 187 (0, 0)), OwnSl ePush_head 213 p12 c13 r.heads, OwnSl eSum 85 p15 c16 r.out] ∧ Q r) := by
 refine Fun.enter (vs := [.iface 211 (.pointer (some ⟨b2, 0, none⟩)), .int .i64 a0]) func190 r ntmps190 r (.c (.c .n)) fun w0 M => ?_
 refine .block (.loop hd (fun (s : (List Push_head) × Int) c w => match s with | (s70, s74) => ∃ I_ p71 c72, IH.le I I_ ∧ Ok ⟨23, [], none⟩ [(0, .iface 211 (.pointer (some ⟨b2, 0, none⟩))), (1, .int .i64 s74)] c ∧ Sym w0 M I I_ [pto b2 (.cells #[.slice p71 s70.length c72, .int .i64 o0.r, .slice p6 o0.out.length c7] 187 (0, 0)), OwnSl ePush_head 213 p71 c72 s70, OwnSl eSum 85 p6 c7 o0.out] w) (fun c w ho hs => ⟨I, _, _, (.refl _), ho.sub ⟨r, r, trivial⟩, hs.pick (.c .z (.c .z (.c .z .n)))⟩) ?_)
 rintro ⟨s70, s74⟩ next75 hd c w hst
 obtain ⟨I76, p71, c72, hl77, hok, hsym⟩ := hst
 have le78 := IH.le.trans (.refl _) hl77
 refine Cod.at hok hsym (.block (.seq (.region (.skips 1 r (.sub' r r r r (.quo r r (by decide) r r (.skips 1 r (.nilS [4, 1, 0] r r (.seq ?_)))))))))
 refine .seq (.region (.skips 2 r (.eq r r r r (.skips 1 r ?_))))
 refine splitP hd (fun hb79 hd => ?_) fun hb79 hd => ?_
 · rw [hb79]
   exact .skips 6 r (.nilS [17, 4, 1, 0] r r (.condKT r r (.exit (oretN results190 .n le78 (.c .z (.c .z (.c .z .n))) ⟨({ heads := s70, r := o0.r, out := o0.out } : Push_merger), _, _, _, _, r, r, hd⟩))))
 rw [hb79]
 refine .gyes r r r (.move r r r (.gyes r r r (.move r r r (.gyes r r r (.move r r r ?_)))))
 have hw80 := W_push_heads_Less_706 (I := I76) (o0 := s70) (a0 := s74) (a1 := (w64 ((w64 (s74 - 1)).tdiv 2))) (p2 := p71) (c3 := c72) hd
 refine .gyes r r r (.callS (.iv call214 (methodV (method_val MD IN211 r r r underlying211) isAgg185 .z r) r r) (.c (.s .z) .n) hw80 r r fun v84 I81 l85 hl82 hv83 => ?_)
 obtain ⟨r86, rfl, rfl, hd⟩ := hv83
 have le87 := IH.le.trans le78 hl82
 refine .re (m' := [OwnSl ePush_head 213 p71 c72 s70, pto b2 (.cells #[.slice p71 s70.length c72, .int .i64 o0.r, .slice p6 o0.out.length c7] 187 (0, 0)), OwnSl eSum 85 p6 c7 o0.out]) r (.gyes r r r (.not r r r (.skips 1 r (.nilS [17, 4, 1, 0] r r (.condP r hd (fun hb88 hd => ?_) fun hb88 hd => ?_)))))
 · exact .exit (oretN results190 .n le87 (.c (.s .z) (.c .z (.c .z .n))) ⟨({ heads := s70, r := o0.r, out := o0.out } : Push_merger), _, _, _, _, r, r, hd⟩)
 refine .skipS [4, 1, 0] r r (.seq (.region (.skips 3 r ?_)))
 have hw89 := W_push_heads_Swap_c73 (I := I81) (o0 := s70) (a0 := (w64 ((w64 (s74 - 1)).tdiv 2))) (a1 := s74) (p2 := p71) (c3 := c72) hd
 refine .callS (.iv call217 (methodV (method_val MD IN211 r r r underlying211) isAgg185 (.s .z) r) r r) (.c .z .n) hw89 r r fun v93 I90 l94 hl91 hv92 => ?_
 obtain ⟨r95, rfl, hlen99, rfl, hd⟩ := hv92
 have le100 := IH.le.trans le87 hl91
 exact .reat (.s .z) (B := pto b2 (.cells #[.slice p71 r95.length c72, .int .i64 o0.r, .slice p6 o0.out.length c7] 187 (0, 0))) (by rw [hlen99]) (.nilS [4, 0] r r (.region (.skips 2 r (.nil' fun c w ho hs => ⟨(r95, w64 ((w64 (s74 - 1)).tdiv 2)), hd, I90, _, _, le100, ho.sub ⟨r, r, trivial⟩, hs.pick (.c (.s .z) (.c .z (.c .z .n)))⟩))))

theorem W_container_heap_Push_f07 {I : IH} {o0 : Push_merger} {a0 : Push_head} {b2 : Nat} {p3 : Option Addr} {c4 : Nat} {p6 : Option Addr} {c7 : Nat} {p11 : Option Addr} {c12 : Nat} {Q : Push_merger → Prop} (R13 : RepSl eSum I p11 c12 a0.l) (hd : container_heap_Push_f07 o0 a0 Q) :
    Fun Tryz.prog 172 #[.iface 211 (.pointer (some ⟨b2, 0, none⟩)), .iface 213 (.agg #[.slice p11 a0.l.length c12, .int .i64 a0.which])] I [pto b2 (.cells #[.slice p3 o0.heads.length c4, .int .i64 o0.r, .slice p6 o0.out.length c7] 187 (0, 0)), OwnSl ePush_head 213 p3 c4 o0.heads, OwnSl eSum 85 p6 c7 o0.out] (fun I_ v l => ∃ r p15 c16 p18 c19, v = .tuple #[] ∧ l = [pto b2 (.cells #[.slice p15 r.heads.length c16, .int .i64 r.r, .slice p18 r.out.length c19] 187 (0, 0)), OwnSl ePush_head 213 p15 c16 r.heads, OwnSl eSum 85 p18 c19 r.out] ∧ Q r) := by
 refine Fun.enter (vs := [.iface 211 (.pointer (some ⟨b2, 0, none⟩)), .iface 213 (.agg #[.slice p11 a0.l.length c12, .int .i64 a0.which])]) func172 r ntmps172 r (.c (.c .n)) fun w0 M => ?_
 refine .seq (.region (.skips 2 r ?_))
 have hw14 := W_push_heads_Push_5fa (I := I) (o0 := o0) (a0 := a0) (b2 := b2) (p3 := p3) (c4 := c4) (p6 := p6) (c7 := c7) R13 hd
 refine .callS (.i call216 (method_ptr MD IN211 r r r underlying211) r r) (.c .z (.c .z (.c .z .n))) hw14 r r fun v18 I15 l19 hl16 hv17 => ?_
 obtain ⟨r20, p23, c24, p26, c27, rfl, rfl, hd⟩ := hv17
 have le31 := IH.le.trans (.refl _) hl16
 replace R13 := R13.mono hl16
 refine .re (m' := [pto b2 (.cells #[.slice p23 r20.heads.length c24, .int .i64 r20.r, .slice p26 r20.out.length c27] 187 (0, 0)), OwnSl ePush_head 213 p23 c24 r20.heads, OwnSl eSum 85 p26 c27 r20.out]) r (.nilS [0] r r (.region (.skips 2 r ?_)))
 have hw32 := W_push_heads_Len_66a (I := I15) (o0 := r20.heads) (p2 := p23) (c3 := c24) hd
 refine .callS (.iv call142 (methodV (method_val MD IN211 r r r underlying211) isAgg185 .z r) r r) (.c (.s .z) .n) hw32 r r fun v36 I33 l37 hl34 hv35 => ?_
 obtain ⟨r38, rfl, rfl, hd⟩ := hv35
 have le39 := IH.le.trans le31 hl34
 refine .re (m' := [OwnSl ePush_head 213 p23 c24 r20.heads, pto b2 (.cells #[.slice p23 r20.heads.length c24, .int .i64 r20.r, .slice p26 r20.out.length c27] 187 (0, 0)), OwnSl eSum 85 p26 c27 r20.out]) r (.sub' r r r r ?_)
 have hw40 := W_container_heap_up_248 (I := I33) (o0 := r20) (a0 := (w64 (r38 - 1))) (b2 := b2) (p3 := p23) (c4 := c24) (p6 := p26) (c7 := c27) hd
 refine .callS (.f call190 r) (.c (.s .z) (.c .z (.c .z .n))) hw40 r r fun v44 I41 l45 hl42 hv43 => ?_
 obtain ⟨r46, p49, c50, p52, c53, rfl, rfl, hd⟩ := hv43
 have le57 := IH.le.trans le39 hl42
 exact .re (m' := [pto b2 (.cells #[.slice p49 r46.heads.length c50, .int .i64 r46.r, .slice p52 r46.out.length c53] 187 (0, 0)), OwnSl ePush_head 213 p49 c50 r46.heads, OwnSl eSum 85 p52 c53 r46.out]) r (.nil' (oretN results172 .n le57 (.c .z (.c .z (.c .z .n))) ⟨r46, _, _, _, _, r, r, hd⟩))

theorem W_push_merger_put_46e {I : IH} {o0 : Push_merger} {a0 : List Sum} {a1 : Int} {b2 : Nat} {p3 : Option Addr} {c4 : Nat} {p6 : Option Addr} {c7 : Nat} {p11 : Option Addr} {c12 : Nat} {Q : Push_merger → Prop} (R13 : RepSl eSum I p11 c12 a0) (hd : push_merger_put_46e o0 a0 a1 Q) :
    Fun Tryz.prog 141 #[.pointer (some ⟨b2, 0, none⟩), .slice p11 a0.length c12, .int .i64 a1] I [pto b2 (.cells #[.slice p3 o0.heads.length c4, .int .i64 o0.r, .slice p6 o0.out.length c7] 187 (0, 0)), OwnSl ePush_head 213 p3 c4 o0.heads, OwnSl eSum 85 p6 c7 o0.out] (fun I_ v l => ∃ r p15 c16 p18 c19, v = .tuple #[] ∧ l = [pto b2 (.cells #[.slice p15 r.heads.length c16, .int .i64 r.r, .slice p18 r.out.length c19] 187 (0, 0)), OwnSl ePush_head 213 p15 c16 r.heads, OwnSl eSum 85 p18 c19 r.out] ∧ Q r) := by
 refine Fun.enter (vs := [.pointer (some ⟨b2, 0, none⟩), .slice p11 a0.length c12, .int .i64 a1]) func141 r ntmps141 r (.c (.c (.c .n))) fun w0 M => ?_
 refine .seq (.region (.skips 1 r (.len underlying45 r r r r (.gt r r r r (.nilS [8, 2, 1, 0] r r (.condP r hd (fun hb14 hd => ?_) fun hb14 hd => ?_))))))
 · refine .region (.skips 1 r (.nilCheckP r r r (.fieldAddr underlying187 r sizeOf185 r (o := 0) r r r (.mkIface underlying211 r r r r (.skips 2 r (.build zeroValue213 underlying213 BI213 (.c r r r (.t .nil) (.c r r r (.s (.t .nil)) .n)) (by exact ⟨⟨_, _, r, r, r⟩, ⟨⟨_, _, r, r, r⟩, trivial⟩⟩) r r (.mkIface underlying213 r r r r ?_)))))))
   have hw15 := W_container_heap_Push_f07 (I := I) (o0 := o0) (a0 := ({ l := a0, which := a1 } : Push_head)) (b2 := b2) (p3 := p3) (c4 := c4) (p6 := p6) (c7 := c7) R13 hd
   refine .callS (.f call172 r) (.c .z (.c .z (.c .z .n))) hw15 r r fun v19 I16 l20 hl17 hv18 => ?_
   obtain ⟨r21, p24, c25, p27, c28, rfl, rfl, hd⟩ := hv18
   have le32 := IH.le.trans (.refl _) hl17
   replace R13 := R13.mono hl17
   exact .re (m' := [pto b2 (.cells #[.slice p24 r21.heads.length c25, .int .i64 r21.r, .slice p27 r21.out.length c28] 187 (0, 0)), OwnSl ePush_head 213 p24 c25 r21.heads, OwnSl eSum 85 p27 c28 r21.out]) r (.nil' (oretN results141 .n le32 (.c .z (.c .z (.c .z .n))) ⟨r21, _, _, _, _, r, r, hd⟩))
 exact .skip' (oretN results141 .n (.refl _) (.c .z (.c .z (.c .z .n))) ⟨o0, _, _, _, _, r, r, hd⟩)

theorem W_container_heap_down_206 {I : IH} {o0 : Push_merger} {a0 : Int} {a1 : Int} {b2 : Nat} {p3 : Option Addr} {c4 : Nat} {p6 : Option Addr} {c7 : Nat} {Q : (Bool × Push_merger) → Prop}  (hd : container_heap_down_206 o0 a0 a1 Q) :
    Fun Tryz.prog 191 #[.iface 211 (.pointer (some ⟨b2, 0, none⟩)), .int .i64 a0, .int .i64 a1] I [pto b2 (.cells #[.slice p3 o0.heads.length c4, .int .i64 o0.r, .slice p6 o0.out.length c7] 187 (0, 0)), OwnSl ePush_head 213 p3 c4 o0.heads, OwnSl eSum 85 p6 c7 o0.out] (fun I_ v l => ∃ r p12 c13 p15 c16, v = .bool r.1 ∧ l = [pto b2 (.cells #[.slice p12 r.2.heads.length c13, .int .i64 r.2.r, .slice p15 r.2.out.length c16] 187 (0, 0)), OwnSl ePush_head 213 p12 c13 r.2.heads, OwnSl eSum 85 p15 c16 r.2.out] ∧ Q r) := by
 refine Fun.enter (vs := [.iface 211 (.pointer (some ⟨b2, 0, none⟩)), .int .i64 a0, .int .i64 a1]) func191 r ntmps191 r (.c (.c (.c .n))) fun w0 M => ?_
 refine .seq (.region (.skips 1 r (.nilS [2, 1, 0] r r (.seq (.region (.skips 2 r (.nilS [7, 2, 1, 0] r r (.seq (.block ?_)))))))))
 refine .loop hd (fun (s : (List Push_head) × Int) c w => match s with | (s146, s150) => ∃ I_ p147 c148, IH.le I I_ ∧ Ok ⟨48, [], none⟩ [(0, .iface 211 (.pointer (some ⟨b2, 0, none⟩))), (1, .int .i64 a0), (2, .int .i64 a1), (7, .int .i64 s150)] c ∧ Sym w0 M I I_ [pto b2 (.cells #[.slice p147 s146.length c148, .int .i64 o0.r, .slice p6 o0.out.length c7] 187 (0, 0)), OwnSl ePush_head 213 p147 c148 s146, OwnSl eSum 85 p6 c7 o0.out] w) (fun c w ho hs => ⟨I, _, _, (.refl _), ho.sub ⟨r, r, r, r, trivial⟩, hs.pick (.c .z (.c .z (.c .z .n)))⟩) ?_
 rintro ⟨s146, s150⟩ next151 hd c w hst
 obtain ⟨I152, p147, c148, hl153, hok, hsym⟩ := hst
 have le154 := IH.le.trans (.refl _) hl153
 refine Cod.at hok hsym (.block (.seq (.region (.skips 1 r (.mul r r r r (.add r r r r (.skips 1 r (.nilS [8, 7, 2, 1, 0] r r (.seq ?_)))))))))
 refine .seq (.region (.skips 2 r (.ge r r r r (.skips 1 r ?_))))
 refine splitP hd (fun hb157 hd => ?_) fun hb157 hd => ?_
 · rw [hb157]
   refine .skips 3 r (.nilS [21, 8, 7, 2, 1, 0] r r (.condKT r r (.exitS [7, 1, 0] r r (.seq (.region (.skips 2 r (.gt r r r r (.skips 1 r (.nilS [6, 0] r r ?_)))))))))
   exact .ret (oret results191 (.t r .n) le154 (.c .z (.c .z (.c .z .n))) ⟨(decide (a0 < s150), ({ heads := s146, r := o0.r, out := o0.out } : Push_merger)), _, _, _, _, r, r, hd⟩)
 rw [hb157]
 refine .gyes r r r (.move r r r (.gyes r r r (.lt r r r r (.skips 1 r (.nilS [21, 8, 7, 2, 1, 0] r r (.condP r hd (fun hb158 hd => ?_) fun hb158 hd => ?_))))))
 · exact .exitS [7, 1, 0] r r (.seq (.region (.skips 2 r (.gt r r r r (.skips 1 r (.nilS [6, 0] r r (.ret (oret results191 (.t r .n) le154 (.c .z (.c .z (.c .z .n))) ⟨(decide (a0 < s150), ({ heads := s146, r := o0.r, out := o0.out } : Push_merger)), _, _, _, _, r, r, hd⟩))))))))
 refine .skipS [8, 7, 2, 1, 0] r r (.seq (.region (.skips 2 r (.nilS [9, 8, 7, 2, 1, 0] r r (.seq ?_)))))
 refine Cod.joinQ (σ := Int) hd (fun (s179 : Int) c w => ∃ I_, IH.le I152 I_ ∧ Ok ⟨48, [], none⟩ [(0, .iface 211 (.pointer (some ⟨b2, 0, none⟩))), (1, .int .i64 a0), (2, .int .i64 a1), (7, .int .i64 s150), (9, .int .i64 s179)] c ∧ Sym w0 M I I_ [pto b2 (.cells #[.slice p147 s146.length c148, .int .i64 o0.r, .slice p6 o0.out.length c7] 187 (0, 0)), OwnSl ePush_head 213 p147 c148 s146, OwnSl eSum 85 p6 c7 o0.out] w) (fun k180 hd => ?_) ?_
 · skip
   refine .seq (.region (.skips 1 r (.add r r r r (.skips 1 r (.nilS [10, 9, 8, 7, 2, 1, 0] r r (.seq (.region (.skips 2 r (.lt r r r r ?_)))))))))
   refine .skips 1 r ?_
   refine splitP hd (fun hb181 hd => ?_) fun hb181 hd => ?_
   · rw [hb181]
     refine .gyes r r r (.move r r r (.gyes r r r (.move r r r (.gyes r r r (.move r r r ?_)))))
     have hw182 := W_push_heads_Less_706 (I := I152) (o0 := s146) (a0 := (w64 ((w64 ((w64 (2 * s150)) + 1)) + 1))) (a1 := (w64 ((w64 (2 * s150)) + 1))) (p2 := p147) (c3 := c148) hd
     refine .gyes r r r (.callS (.iv call214 (methodV (method_val MD IN211 r r r underlying211) isAgg185 .z r) r r) (.c (.s .z) .n) hw182 r r fun v186 I183 l187 hl184 hv185 => ?_)
     obtain ⟨r188, rfl, rfl, hd⟩ := hv185
     have le189 := IH.le.trans le154 hl184
     have le190 := IH.le.trans (.refl _) hl184
     refine .re (m' := [OwnSl ePush_head 213 p147 c148 s146, pto b2 (.cells #[.slice p147 s146.length c148, .int .i64 o0.r, .slice p6 o0.out.length c7] 187 (0, 0)), OwnSl eSum 85 p6 c7 o0.out]) r (.skips 1 r (.nilS [33, 10, 9, 7, 2, 1, 0] r r (.condP r hd (fun hb191 hd => ?_) fun hb191 hd => ?_)))
     · exact .region (.skips 1 r (.sub (E' := [(0, _), (1, _), (2, _), (7, _), (10, _), (33, _), (34, _)]) ⟨r, r, r, r, r, r, r, trivial⟩ (.skips 1 r (.nil' fun c w ho hs => ⟨(w64 ((w64 ((w64 (2 * s150)) + 1)) + 1)), hd, I183, le190, ho.sub ⟨r, r, r, r, r, trivial⟩, hs.pick (.c (.s .z) (.c .z (.c .z .n)))⟩))))
     exact .skip' fun c w ho hs => ⟨(w64 ((w64 (2 * s150)) + 1)), hd, I183, le190, ho.sub ⟨r, r, r, r, r, trivial⟩, hs.pick (.c (.s .z) (.c .z (.c .z .n)))⟩
   rw [hb181]
   exact .skips 5 r (.nilS [33, 10, 9, 7, 2, 1, 0] r r (.condKF r r (.skip' fun c w ho hs => ⟨(w64 ((w64 (2 * s150)) + 1)), hd, I152, (.refl _), ho.sub ⟨r, r, r, r, r, trivial⟩, hs.pick (.c .z (.c .z (.c .z .n)))⟩)))
 rintro s179 hd c w hst
 obtain ⟨I192, hl193, hok, hsym⟩ := hst
 have le194 := IH.le.trans le154 hl193
 have le195 := IH.le.trans (.refl _) hl193
 refine Cod.at hok hsym (.seq (.seq (.region (.skips 3 r ?_))))
 have hw196 := W_push_heads_Less_706 (I := I192) (o0 := s146) (a0 := s179) (a1 := s150) (p2 := p147) (c3 := c148) hd
 refine .callS (.iv call214 (methodV (method_val MD IN211 r r r underlying211) isAgg185 .z r) r r) (.c (.s .z) .n) hw196 r r fun v200 I197 l201 hl198 hv199 => ?_
 obtain ⟨r202, rfl, rfl, hd⟩ := hv199
 have le203 := IH.le.trans le194 hl198
 have le204 := IH.le.trans le195 hl198
 refine .re (m' := [OwnSl ePush_head 213 p147 c148 s146, pto b2 (.cells #[.slice p147 s146.length c148, .int .i64 o0.r, .slice p6 o0.out.length c7] 187 (0, 0)), OwnSl eSum 85 p6 c7 o0.out]) r (.not r r r (.nilS [39, 9, 7, 2, 1, 0] r r (.condP r hd (fun hb205 hd => ?_) fun hb205 hd => ?_)))
 · exact .exitS [7, 1, 0] r r (.seq (.region (.skips 2 r (.gt r r r r (.skips 1 r (.nilS [6, 0] r r (.ret (oret results191 (.t r .n) le203 (.c (.s .z) (.c .z (.c .z .n))) ⟨(decide (a0 < s150), ({ heads := s146, r := o0.r, out := o0.out } : Push_merger)), _, _, _, _, r, r, hd⟩))))))))
 refine .skipS [9, 7, 2, 1, 0] r r (.seq (.region (.skips 3 r ?_)))
 have hw206 := W_push_heads_Swap_c73 (I := I197) (o0 := s146) (a0 := s150) (a1 := s179) (p2 := p147) (c3 := c148) hd
 refine .callS (.iv call217 (methodV (method_val MD IN211 r r r underlying211) isAgg185 (.s .z) r) r r) (.c .z .n) hw206 r r fun v210 I207 l211 hl208 hv209 => ?_
 obtain ⟨r212, rfl, hlen216, rfl, hd⟩ := hv209
 have le217 := IH.le.trans le203 hl208
 have le218 := IH.le.trans le204 hl208
 exact .reat (.s .z) (B := pto b2 (.cells #[.slice p147 r212.length c148, .int .i64 o0.r, .slice p6 o0.out.length c7] 187 (0, 0))) (by rw [hlen216]) (.nilS [9, 2, 1, 0] r r (.region (.skips 2 r (.nil' fun c w ho hs => ⟨(r212, s179), hd, I207, _, _, le217, ho.sub ⟨r, r, r, r, trivial⟩, hs.pick (.c (.s .z) (.c .z (.c .z .n)))⟩))))

theorem W_push_heads_Pop_df2 {I : IH} {o0 : Push_merger} {b2 : Nat} {p3 : Option Addr} {c4 : Nat} {p6 : Option Addr} {c7 : Nat} {Q : (Push_head × Push_merger) → Prop}  (hd : push_heads_Pop_df2 o0 Q) :
    Fun Tryz.prog 215 #[.pointer (some ⟨b2, 0, none⟩)] I [pto b2 (.cells #[.slice p3 o0.heads.length c4, .int .i64 o0.r, .slice p6 o0.out.length c7] 187 (0, 0)), OwnSl ePush_head 213 p3 c4 o0.heads, OwnSl eSum 85 p6 c7 o0.out] (fun I_ v l => ∃ r p20 c21 p12 c13 p15 c16, v = .iface 213 (.agg #[.slice p20 r.1.l.length c21, .int .i64 r.1.which]) ∧ RepSl eSum I_ p20 c21 r.1.l ∧ l = [pto b2 (.cells #[.slice p12 r.2.heads.length c13, .int .i64 r.2.r, .slice p15 r.2.out.length c16] 187 (0, 0)), OwnSl ePush_head 213 p12 c13 r.2.heads, OwnSl eSum 85 p15 c16 r.2.out] ∧ Q r) := by
 refine Fun.enter (vs := [.pointer (some ⟨b2, 0, none⟩)]) func215 r ntmps215 r (.c .n) fun w0 M => ?_
 refine .seq (.region (.skips 1 r (.nilS [0] r r (.seq (.region (.skips 1 r (.nilCheckP r r r (.load1 isAgg185 r .z r r r (.len underlying185 r r r r ?_)))))))))
 refine .sub' r r r r (.skips 1 r (.nilS [3, 0] r r (.seq (.region (.skips 1 r (.nilCheckP r r r (.load1 isAgg185 r .z r r r (.skips 1 r ?_))))))))
 obtain ⟨h23, x24, hx25, hd⟩ := hd
 refine .ownNe (.s .z) (idx_ne hx25) fun b26 e27 => ?_
 cases e27
 refine .ixa0 underlying185 sizeOf213 r r h23 (idx_lt hx25 h23) r r (.loEW isAgg213 sizeOf213 (.s .z) hx25 r r r r r fun cs31 hr32 => ?_)
 obtain ⟨p28, c29, rfl, R30⟩ := hr32
 refine .allocA zeroValue213 r r fun b33 => ?_
 refine .storeA sizeOf213 r r .z (.t (.t .nil)) r r (.nilS [4, 3, 0] r r (.seq (.region (.skips 2 r (.nilCheckP r r r (.load1 isAgg185 r (.s .z) r r r (.skips 1 r ?_)))))))
 obtain ⟨h35, h36, h37, hd⟩ := hd
 refine .sliceT (H := (w64 ((o0.heads.length : Int) - 1)).toNat) underlying185 sizeOf213 r r (.s (.s .z)) (.s (.s .z)) r (by omega) r (by omega) r r (.nilCheckP r r r (.store1 sizeOf185 r r (.s .z) (.t .nil) r (.nilS [4, 0] r r (.seq (.region (.loadW isAgg213 sizeOf213 r .z r r r (.mkIface underlying213 r r r r (.skips 1 r (.nilS [2, 0] r r ?_)))))))))
 exact .drop .z (.ret (oret results215 (.t r .n) (.refl _) (.c .z (.c .z (.c .z .n))) ⟨(x24, ({ heads := (o0.heads.take (w64 ((o0.heads.length : Int) - 1)).toNat), r := o0.r, out := o0.out } : Push_merger)), _, _, _, _, _, _, r, R30, r, hd⟩))

theorem W_container_heap_Pop_4c3 {I : IH} {o0 : Push_merger} {b2 : Nat} {p3 : Option Addr} {c4 : Nat} {p6 : Option Addr} {c7 : Nat} {Q : (Push_head × Push_merger) → Prop}  (hd : container_heap_Pop_4c3 o0 Q) :
    Fun Tryz.prog 173 #[.iface 211 (.pointer (some ⟨b2, 0, none⟩))] I [pto b2 (.cells #[.slice p3 o0.heads.length c4, .int .i64 o0.r, .slice p6 o0.out.length c7] 187 (0, 0)), OwnSl ePush_head 213 p3 c4 o0.heads, OwnSl eSum 85 p6 c7 o0.out] (fun I_ v l => ∃ r p20 c21 p12 c13 p15 c16, v = .iface 213 (.agg #[.slice p20 r.1.l.length c21, .int .i64 r.1.which]) ∧ RepSl eSum I_ p20 c21 r.1.l ∧ l = [pto b2 (.cells #[.slice p12 r.2.heads.length c13, .int .i64 r.2.r, .slice p15 r.2.out.length c16] 187 (0, 0)), OwnSl ePush_head 213 p12 c13 r.2.heads, OwnSl eSum 85 p15 c16 r.2.out] ∧ Q r) := by
 refine Fun.enter (vs := [.iface 211 (.pointer (some ⟨b2, 0, none⟩))]) func173 r ntmps173 r (.c .n) fun w0 M => ?_
 refine .seq (.region (.skips 1 r (.nilS [0] r r (.seq (.region (.skips 1 r ?_))))))
 have hw19 := W_push_heads_Len_66a (I := I) (o0 := o0.heads) (p2 := p3) (c3 := c4) hd
 refine .callS (.iv call142 (methodV (method_val MD IN211 r r r underlying211) isAgg185 .z r) r r) (.c (.s .z) .n) hw19 r r fun v23 I20 l24 hl21 hv22 => ?_
 obtain ⟨r25, rfl, rfl, hd⟩ := hv22
 have le26 := IH.le.trans (.refl _) hl21
 refine .re (m' := [OwnSl ePush_head 213 p3 c4 o0.heads, pto b2 (.cells #[.slice p3 o0.heads.length c4, .int .i64 o0.r, .slice p6 o0.out.length c7] 187 (0, 0)), OwnSl eSum 85 p6 c7 o0.out]) r (.sub' r r r r (.skips 1 r (.nilS [3, 0] r r (.seq (.region (.skips 2 r ?_))))))
 have hw27 := W_push_heads_Swap_c73 (I := I20) (o0 := o0.heads) (a0 := 0) (a1 := (w64 (r25 - 1))) (p2 := p3) (c3 := c4) hd
 refine .callS (.iv call217 (methodV (method_val MD IN211 r r r underlying211) isAgg185 (.s .z) r) r r) (.c .z .n) hw27 r r fun v31 I28 l32 hl29 hv30 => ?_
 obtain ⟨r33, rfl, hlen37, rfl, hd⟩ := hv30
 have le38 := IH.le.trans le26 hl29
 refine .reat (.s .z) (B := pto b2 (.cells #[.slice p3 r33.length c4, .int .i64 o0.r, .slice p6 o0.out.length c7] 187 (0, 0))) (by rw [hlen37]) (.nilS [3, 0] r r (.seq (.region (.skips 2 r ?_))))
 have hw39 := W_container_heap_down_206 (I := I28) (o0 := ({ heads := r33, r := o0.r, out := o0.out } : Push_merger)) (a0 := 0) (a1 := (w64 (r25 - 1))) (b2 := b2) (p3 := p3) (c4 := c4) (p6 := p6) (c7 := c7) hd
 refine .callS (.f call191 r) (.c (.s .z) (.c .z (.c .z .n))) hw39 r r fun v43 I40 l44 hl41 hv42 => ?_
 obtain ⟨r45, p48, c49, p51, c52, rfl, rfl, hd⟩ := hv42
 have le56 := IH.le.trans le38 hl41
 refine .re (m' := [pto b2 (.cells #[.slice p48 r45.2.heads.length c49, .int .i64 r45.2.r, .slice p51 r45.2.out.length c52] 187 (0, 0)), OwnSl ePush_head 213 p48 c49 r45.2.heads, OwnSl eSum 85 p51 c52 r45.2.out]) r (.nilS [0] r r (.seq (.region (.skips 1 r ?_))))
 have hw57 := W_push_heads_Pop_df2 (I := I40) (o0 := r45.2) (b2 := b2) (p3 := p48) (c4 := c49) (p6 := p51) (c7 := c52) hd
 refine .callS (.i call215 (method_ptr MD IN211 r r r underlying211) r r) (.c .z (.c .z (.c .z .n))) hw57 r r fun v61 I58 l62 hl59 hv60 => ?_
 obtain ⟨r63, p64, c65, p69, c70, p72, c73, rfl, R66, rfl, hd⟩ := hv60
 have le77 := IH.le.trans le56 hl59
 exact .re (m' := [pto b2 (.cells #[.slice p69 r63.2.heads.length c70, .int .i64 r63.2.r, .slice p72 r63.2.out.length c73] 187 (0, 0)), OwnSl ePush_head 213 p69 c70 r63.2.heads, OwnSl eSum 85 p72 c73 r63.2.out]) r (.skips 1 r (.nilS [2, 0] r r (.ret (oret results173 (.t r .n) le77 (.c .z (.c .z (.c .z .n))) ⟨(r63.1, r63.2), _, _, _, _, _, _, r, R66, r, hd⟩))))

theorem W_push_merger_next_d58 {I : IH} {o0 : Push_merger} {b2 : Nat} {p3 : Option Addr} {c4 : Nat} {p6 : Option Addr} {c7 : Nat} {Q : Push_merger → Prop}  (hd : push_merger_next_d58 o0 Q) :
    Fun Tryz.prog 143 #[.pointer (some ⟨b2, 0, none⟩)] I [pto b2 (.cells #[.slice p3 o0.heads.length c4, .int .i64 o0.r, .slice p6 o0.out.length c7] 187 (0, 0)), OwnSl ePush_head 213 p3 c4 o0.heads, OwnSl eSum 85 p6 c7 o0.out] (fun I_ v l => ∃ r p12 c13 p15 c16, v = .tuple #[] ∧ l = [pto b2 (.cells #[.slice p12 r.heads.length c13, .int .i64 r.r, .slice p15 r.out.length c16] 187 (0, 0)), OwnSl ePush_head 213 p12 c13 r.heads, OwnSl eSum 85 p15 c16 r.out] ∧ Q r) := by
 refine Fun.enter (vs := [.pointer (some ⟨b2, 0, none⟩)]) func143 r ntmps143 r (.c .n) fun w0 M => ?_
 refine .seq (.region (.skips 1 r (.nilCheckP r r r (.fieldAddr underlying187 r sizeOf185 r (o := 0) r r r (.load1 isAgg185 r .z r r r ?_)))))
 obtain ⟨h23, x24, hx25, hd⟩ := hd
 refine .ownNe (.s .z) (idx_ne hx25) fun b26 e27 => ?_
 cases e27
 refine .ixa0 underlying185 sizeOf213 r r h23 (idx_lt hx25 h23) r r (.loEW isAgg213 sizeOf213 (.s .z) hx25 r r r r r fun cs31 hr32 => ?_)
 obtain ⟨p28, c29, rfl, R30⟩ := hr32
 refine .allocA zeroValue213 r r fun b33 => ?_
 refine .storeA sizeOf213 r r .z (.t (.t .nil)) r r (.nilS [2, 0] r r (.seq (.region (.skips 1 r (.nilCheckP r r r (.fieldAddr underlying187 r sizeOf185 r (o := 0) r r r (.mkIface underlying211 r r r r ?_)))))))
 have hw56 := W_container_heap_Pop_4c3 (I := I) (o0 := o0) (b2 := b2) (p3 := some ⟨b26, 0, none⟩) (c4 := c4) (p6 := p6) (c7 := c7) hd
 refine .callS (.f call173 r) (.c (.s .z) (.c (.s .z) (.c (.s .z) .n))) hw56 r r fun v60 I57 l61 hl58 hv59 => ?_
 obtain ⟨r62, p63, c64, p68, c69, p71, c72, rfl, R65, rfl, hd⟩ := hv59
 have le76 := IH.le.trans (.refl _) hl58
 replace R30 := R30.mono hl58
 refine .re (m' := [pto b2 (.cells #[.slice p68 r62.2.heads.length c69, .int .i64 r62.2.r, .slice p71 r62.2.out.length c72] 187 (0, 0)), OwnSl ePush_head 213 p68 c69 r62.2.heads, OwnSl eSum 85 p71 c72 r62.2.out, pto b33 (.cells #[.slice p28 x24.l.length c29, .int .i64 x24.which] 213 (0, 0))]) r (.nilS [2, 0] r r (.seq (.region (.fieldAddr underlying213 r sizeOf45 r (o := 0) r r r (.load1 isAgg45 r (.s (.s (.s .z))) r r r ?_)))))
 obtain ⟨h88, x89, hx90, hd⟩ := hd
 obtain ⟨b91, o92, cs93, e94, hC95, hr96⟩ := R30.2 _ _ hx90
 cases hr96
 refine .ixa underlying45 sizeOf85 r e94 r h88 (idx_lt hx90 h88) r r (.ldW isAgg85 sizeOf85 hC95 r r r r (.allocA zeroValue85 r r fun b97 => ?_))
 refine .storeA sizeOf85 r r .z (.t (.t (.t .nil))) r r (.nilS [3, 2, 0] r r (.seq (.draw [some 0, some 1, some 2, some 3, some 4, some 5, some 6] 7 MX (by kernel_rfl) (by kernel_rfl) (by kernel_rfl) (by kernel_rfl) (by kernel_rfl) (by kernel_rfl) (by kernel_rfl) (fun ex => (pto b97 (.cells #[.int .i64 x89.At, .int .i64 x89.Val.Hi, .int .u64 x89.Val.Lo] 85 (0, 0))) :: (pto b2 (.cells #[.slice p68 r62.2.heads.length c69, .int .i64 r62.2.r, .slice p71 r62.2.out.length c72] 187 (0, 0))) :: (OwnSl ePush_head 213 p68 c69 r62.2.heads) :: (OwnSl eSum 85 p71 c72 r62.2.out) :: (pto b33 (.cells #[.slice p28 x24.l.length c29, .int .i64 x24.which] 213 (0, 0))) :: ex) (fun _ _ => (.s (.s (.s (.s (.s .z)))))) r (.fs [[]] r (by kernel_rfl) (.f [] r (by kernel_rfl) r r (fun ex => .fieldAddr underlying213 r sizeOf45 r (o := 0) r r r .mk) (.f [1] r (by kernel_rfl) r r (fun ex => .load1 isAgg45 r (.s (.s (.s (.s .z)))) r r r .mk) ?_))))))
 obtain ⟨h127, h128, h129, hd⟩ := hd
 have h135 : Int.toNat 1 ≤ Int.toNat (x24.l.length : Int) := by omega
 have h136 : Int.toNat (x24.l.length : Int) ≤ x24.l.length := by omega
 obtain ⟨p130, c131, e133, e134, R132⟩ := RepSl.sliceW R30 (Int.toNat 1) (Int.toNat (x24.l.length : Int)) c29 h135 h136 (.inl rfl)
 refine .f [2] r (by kernel_rfl) r r (fun ex => .sliceW (L := Int.toNat 1) (H := Int.toNat (x24.l.length : Int)) (cm := c29) underlying45 sizeOf85 r r R30.1 r r r (.inr ⟨_, _, r, h127, r⟩) (.inl ⟨r, r, r⟩) (.inl r) h135 h136 r e133 e134 r r .mk) (.f [] r (by kernel_rfl) r r (fun ex => .fieldAddr underlying213 r sizeOf3 r (o := 1) r r r .mk) (.f [4] r (by kernel_rfl) r r (fun ex => .load1 isAgg3 r (.s (.s (.s (.s .z)))) r r r .mk) (.w [] [[], [5], [], [3], [2, 3], []] [0, 3, 5] r (by kernel_rfl) (by kernel_rfl) (by kernel_rfl) ((dropE_kept r r)) (.inr (dropE_kept r r)) fun ex => ?_)))
 have hw137 := W_push_merger_put_46e (I := I57) (o0 := r62.2) (a0 := ((x24.l.take (x24.l.length : Int).toNat).drop (Int.toNat 1))) (a1 := x24.which) (b2 := b2) (p3 := p68) (c4 := c69) (p6 := p71) (c7 := c72) R132 hd
 refine .callS (.f call141 r) (.c (.s .z) (.c (.s .z) (.c (.s .z) .n))) hw137 r r fun v141 I138 l142 hl139 hv140 => ?_
 obtain ⟨r143, p146, c147, p149, c150, rfl, rfl, hd⟩ := hv140
 have le154 := IH.le.trans le76 hl139
 replace R30 := R30.mono hl139
 replace R132 := R132.mono hl139
 refine .re (m' := (pto b2 (.cells #[.slice p146 r143.heads.length c147, .int .i64 r143.r, .slice p149 r143.out.length c150] 187 (0, 0))) :: (OwnSl ePush_head 213 p146 c147 r143.heads) :: (OwnSl eSum 85 p149 c150 r143.out) :: (pto b97 (.cells #[.int .i64 x89.At, .int .i64 x89.Val.Hi, .int .u64 x89.Val.Lo] 85 (0, 0))) :: (pto b33 (.cells #[.slice p28 x24.l.length c29, .int .i64 x24.which] 213 (0, 0))) :: ex) r (.some (fun ex => (pto b2 (.cells #[.slice p146 r143.heads.length c147, .int .i64 r143.r, .slice p149 r143.out.length c150] 187 (0, 0))) :: (OwnSl ePush_head 213 p146 c147 r143.heads) :: (OwnSl eSum 85 p149 c150 r143.out) :: (pto b97 (.cells #[.int .i64 x89.At, .int .i64 x89.Val.Hi, .int .u64 x89.Val.Lo] 85 (0, 0))) :: (pto b33 (.cells #[.slice p28 x24.l.length c29, .int .i64 x24.which] 213 (0, 0))) :: ex) r (fun _ _ => (.s (.s (.s (.s (.s .z)))))) r trivial (.e 7 (by kernel_rfl) (by kernel_rfl) (by kernel_rfl) (.nilS [3, 0] r r (.drop (.s (.s (.s (.s .z)))) (.seq (.seq (.region (.skips 1 r (.nilCheckP r r r ?_)))))))))
 refine .fieldAddr underlying187 r sizeOf45 r (o := 2) r r r (.load1 isAgg45 r .z r r r (.len underlying45 r r r r (.skips 1 r (.nilS [4, 3, 0] r r (.seq ?_)))))
 refine Cod.joinQ (σ := Bool) hd (fun (s216 : Bool) c w => ∃ I_, IH.le I138 I_ ∧ Ok ⟨82, [], none⟩ [(0, .pointer (some ⟨b2, 0, none⟩)), (3, .pointer (some ⟨b97, 0, none⟩)), (4, .int .i64 (r143.out.length : Int)), (47, .bool s216)] c ∧ Sym w0 M I I_ [pto b2 (.cells #[.slice p146 r143.heads.length c147, .int .i64 r143.r, .slice p149 r143.out.length c150] 187 (0, 0)), OwnSl ePush_head 213 p146 c147 r143.heads, OwnSl eSum 85 p149 c150 r143.out, pto b97 (.cells #[.int .i64 x89.At, .int .i64 x89.Val.Hi, .int .u64 x89.Val.Lo] 85 (0, 0))] w) (fun k217 hd => ?_) ?_
 · skip
   refine .ownF (.s .z) fun hne218 => ?_
   refine .ownF (.s (.s .z)) fun hne219 => ?_
   refine .draw [some 0, some 1, some 2, some 3, some 4, some 5, some 6, some 7, some 8, some 9, some 10, some 11, some 12, some 13, some 14, some 15] 16 MX (by kernel_rfl) (by kernel_rfl) (by kernel_rfl) (by kernel_rfl) (by kernel_rfl) (by kernel_rfl) (by kernel_rfl) (fun ex => (pto b2 (.cells #[.slice p146 r143.heads.length c147, .int .i64 r143.r, .slice p149 r143.out.length c150] 187 (0, 0))) :: (OwnSl ePush_head 213 p146 c147 r143.heads) :: (OwnSl eSum 85 p149 c150 r143.out) :: (pto b97 (.cells #[.int .i64 x89.At, .int .i64 x89.Val.Hi, .int .u64 x89.Val.Lo] 85 (0, 0))) :: ex) (fun _ _ => (.s (.s (.s (.s .z))))) r (.fs [[]] r (by kernel_rfl) (.f [0] r (by kernel_rfl) r r (fun ex => .gt r r r r .mk) (.fs [[1]] r (by kernel_rfl) ?_)))
   refine splitP hd (fun hb220 hd => ?_) fun hb220 hd => ?_
   · rw [hb220]
     refine .fs [[2]] r (by kernel_rfl) (.f [3, 2] r (by kernel_rfl) r r (fun ex => .gyes r r r (.nilCheckP r r r .mk)) (.f [4, 2] r (by kernel_rfl) r r (fun ex => .gyes r r r (.fieldAddr underlying187 r sizeOf45 r (o := 2) r r r .mk)) (.f [5, 2] r (by kernel_rfl) r r (fun ex => .gyes r r r (.load1 isAgg45 r .z r r r .mk)) (.fs [[2]] r (by kernel_rfl) (.f [7, 2] r (by kernel_rfl) r r (fun ex => .gyes r r r (.sub' r r r r .mk)) ?_)))))
     obtain ⟨h221, x222, hx223, hd⟩ := hd
     obtain ⟨b224, e225⟩ := hne219 (idx_ne hx223)
     cases e225
     exact .f [6, 8, 2] r (by kernel_rfl) r r (fun ex => .gyes r r r (.ixa0 underlying45 sizeOf85 r r h221 (idx_lt hx223 h221) r r .mk)) (.f [9, 2] r (by kernel_rfl) r r (fun ex => .gyes r r r (.fieldAddr underlying85 r sizeOf3 r (o := ((w64 ((r143.out.length : Int) - 1)).toNat) * 3) r r r .mk)) (.f [10, 2] r (by kernel_rfl) r r (fun ex => .gyes r r r (.lo1 (j := 0) isAgg3 (.s (.s .z)) hx223 r r r r r .mk)) (.f [2] r (by kernel_rfl) r r (fun ex => .gyes r r r (.fieldAddr underlying85 r sizeOf3 r (o := 0) r r r .mk)) (.f [12, 2] r (by kernel_rfl) r r (fun ex => .gyes r r r (.load1 isAgg3 r (.s (.s (.s .z))) r r r .mk)) (.f [11, 13, 2] r (by kernel_rfl) r r (fun ex => .gyes r r r (.eq r r r r .mk)) (.fs [[2, 14]] r (by kernel_rfl) (.e 16 (by kernel_rfl) (by kernel_rfl) (by kernel_rfl) (.nil' fun c w ho hs => ⟨(x222.At == x89.At), hd, I138, (.refl _), ho.sub ⟨r, r, r, r, trivial⟩, hs.pick (.c .z (.c .z (.c .z (.c .z .n))))⟩))))))))
   rw [hb220]
   exact .fs [[2], [3, 2], [4, 2], [5, 2], [2], [7, 2], [6, 8, 2], [9, 2], [10, 2], [2], [12, 2], [11, 13, 2], [2, 14]] r (by kernel_rfl) (.e 16 (by kernel_rfl) (by kernel_rfl) (by kernel_rfl) (.nil' fun c w ho hs => ⟨false, hd, I138, (.refl _), ho.sub ⟨r, r, r, r, trivial⟩, hs.pick (.c .z (.c .z (.c .z (.c .z .n))))⟩))
 rintro s216 hd c w hst
 obtain ⟨I226, hl227, hok, hsym⟩ := hst
 have le228 := IH.le.trans le154 hl227
 have le229 := IH.le.trans (.refl _) hl227
 refine Cod.at hok hsym (.condP r hd (fun hb230 hd => ?_) fun hb230 hd => ?_)
 · refine .seq (.ownF (.s .z) fun hne231 => ?_)
   refine .ownF (.s (.s .z)) fun hne232 => ?_
   refine .draw [some 0, some 1, some 2, some 3, some 4, some 5, some 6, some 7, some 8, some 9, some 10, some 11, some 12, some 13, some 14, some 15, some 16, some 17, some 18, some 19, some 20, some 21, some 22, some 23, some 24] 25 MX (by kernel_rfl) (by kernel_rfl) (by kernel_rfl) (by kernel_rfl) (by kernel_rfl) (by kernel_rfl) (by kernel_rfl) (fun ex => (pto b2 (.cells #[.slice p146 r143.heads.length c147, .int .i64 r143.r, .slice p149 r143.out.length c150] 187 (0, 0))) :: (OwnSl ePush_head 213 p146 c147 r143.heads) :: (OwnSl eSum 85 p149 c150 r143.out) :: (pto b97 (.cells #[.int .i64 x89.At, .int .i64 x89.Val.Hi, .int .u64 x89.Val.Lo] 85 (0, 0))) :: ex) (fun _ _ => (.s (.s (.s (.s .z))))) r (.fs [[]] r (by kernel_rfl) (.f [0] r (by kernel_rfl) r r (fun ex => .nilCheckP r r r .mk) (.f [1] r (by kernel_rfl) r r (fun ex => .fieldAddr underlying187 r sizeOf45 r (o := 2) r r r .mk) (.f [2] r (by kernel_rfl) r r (fun ex => .load1 isAgg45 r .z r r r .mk) (.fs [[]] r (by kernel_rfl) (.f [4] r (by kernel_rfl) r r (fun ex => .sub' r r r r .mk) (.fs [[]] r (by kernel_rfl) (.f [6] r (by kernel_rfl) r r (fun ex => .nilCheckP r r r .mk) (.f [7] r (by kernel_rfl) r r (fun ex => .fieldAddr underlying187 r sizeOf29 r (o := 1) r r r .mk) ?_)))))))))
   refine .f [8] r (by kernel_rfl) r r (fun ex => .load1 isAgg29 r .z r r r .mk) (.fs [[]] r (by kernel_rfl) (.f [10] r (by kernel_rfl) r r (fun ex => .nilCheckP r r r .mk) (.f [11] r (by kernel_rfl) r r (fun ex => .fieldAddr underlying187 r sizeOf45 r (o := 2) r r r .mk) (.f [12] r (by kernel_rfl) r r (fun ex => .load1 isAgg45 r .z r r r .mk) (.fs [[]] r (by kernel_rfl) (.f [14] r (by kernel_rfl) r r (fun ex => .sub' r r r r .mk) ?_))))))
   obtain ⟨h233, x234, hx235, hd⟩ := hd
   obtain ⟨b236, e237⟩ := hne232 (idx_ne hx235)
   cases e237
   refine .f [13, 15] r (by kernel_rfl) r r (fun ex => .ixa0 underlying45 sizeOf85 r r h233 (idx_lt hx235 h233) r r .mk) (.f [16] r (by kernel_rfl) r r (fun ex => .fieldAddr underlying85 r sizeOf83 r (o := ((w64 ((r143.out.length : Int) - 1)).toNat) * 3 + 1) r r r .mk) (.f [17] r (by kernel_rfl) r r (fun ex => .loA (j := 1) isAgg83 sizeOf83 (.s (.s .z)) hx235 r r (.s (.t (.t .nil))) r r r .mk) (.f [] r (by kernel_rfl) r r (fun ex => .fieldAddr underlying85 r sizeOf83 r (o := 1) r r r .mk) (.f [19] r (by kernel_rfl) r r (fun ex => .loadA isAgg83 sizeOf83 r (.s (.s (.s .z))) (.s (.t (.t .nil))) r r r .mk) (.w [5, 4, 3, 2, 1, 0] [[], [20], [], [18], [17, 18], [16, 17, 18], [15, 16, 17, 18], [16, 17, 18], [13, 16, 17, 18], [12, 13, 16, 17, 18], [11, 12, 13, 16, 17, 18], [], [9], [8, 9], [7, 8, 9]] [9, 18, 20] r (by kernel_rfl) (by kernel_rfl) (by kernel_rfl) ((dropE_kept r r)) (.inr (dropE_kept r r)) fun ex => ?_)))))
   have hw239 := W_ring_Add (I := I226) hd
   refine .callP call174 r hw239 r r fun v240 hv241 => ?_
   obtain ⟨r238, rfl, hd⟩ := hv241
   refine .some (fun ex => (pto b2 (.cells #[.slice p146 r143.heads.length c147, .int .i64 r143.r, .slice (some ⟨b236, 0, none⟩) r143.out.length c150] 187 (0, 0))) :: (OwnSl ePush_head 213 p146 c147 r143.heads) :: (OwnSl eSum 85 (some ⟨b236, 0, none⟩) c150 r143.out) :: (pto b97 (.cells #[.int .i64 x89.At, .int .i64 x89.Val.Hi, .int .u64 x89.Val.Lo] 85 (0, 0))) :: ex) r (fun _ _ => (.s (.s (.s (.s .z))))) r (.cc [4] r (by kernel_rfl) r r r (fun ex => .sub' r r r r .mk) (.ccs [[]] r r (by kernel_rfl) (.cc [2] r (by kernel_rfl) r r r (fun ex => .load1 isAgg45 r .z r r r .mk) (.cc [1] r (by kernel_rfl) r r r (fun ex => .fieldAddr underlying187 r sizeOf45 r (o := 2) r r r .mk) (.cc [0] r (by kernel_rfl) r r r (fun ex => .nilCheckP r r r .mk) (.ccs [[]] r r (by kernel_rfl) trivial)))))) ?_
   obtain ⟨h242, x243, hx244, hd⟩ := hd
   refine .f [3, 5, 0, 1, 2, 3, 4, 5, 6, 7, 8, 9, 10, 11, 12, 13, 14, 15, 16, 17, 18, 19, 20, 21] r (by kernel_rfl) r r (fun ex => .ixa0 underlying45 sizeOf85 r r h242 (idx_lt hx244 h242) r r .mk) (.f [22, 0, 1, 2, 3, 4, 5, 6, 7, 8, 9, 10, 11, 12, 13, 14, 15, 16, 17, 18, 19, 20, 21] r (by kernel_rfl) r r (fun ex => .fieldAddr underlying85 r sizeOf83 r (o := ((w64 ((r143.out.length : Int) - 1)).toNat) * 3 + 1) r r r .mk) (.w [] [[], [23], [], [], [], [], [], []] [23, 21, 21, 0, 1, 2, 3, 4, 5, 6, 7, 8, 9, 10, 11, 12, 13, 14, 15, 16, 17, 18, 19, 20, 21] r (by kernel_rfl) (by kernel_rfl) (by kernel_rfl) ((dropE_none r)) (.inr (dropE_none r)) fun ex => ?_))
   exact .stOA (j := 1) (v' := ({ At := x243.At, Val := r238 } : Sum)) sizeOf83 (.s (.s .z)) hx244 r r r (.s (.t (.t .nil))) r r (.reat .z (B := pto b2 (.cells #[.slice p146 r143.heads.length c147, .int .i64 r143.r, .slice (some ⟨b236, 0, none⟩) (r143.out.set ((w64 ((r143.out.length : Int) - 1)).toNat) ({ At := x243.At, Val := r238 } : Sum)).length c150] 187 (0, 0))) (by simp only [List.length_set]) (.none (fun ex => (pto b2 (.cells #[.slice p146 r143.heads.length c147, .int .i64 r143.r, .slice (some ⟨b236, 0, none⟩) (r143.out.set ((w64 ((r143.out.length : Int) - 1)).toNat) ({ At := x243.At, Val := r238 } : Sum)).length c150] 187 (0, 0))) :: (OwnSl ePush_head 213 p146 c147 r143.heads) :: (OwnSl eSum 85 (some ⟨b236, 0, none⟩) c150 (r143.out.set ((w64 ((r143.out.length : Int) - 1)).toNat) ({ At := x243.At, Val := r238 } : Sum))) :: (pto b97 (.cells #[.int .i64 x89.At, .int .i64 x89.Val.Hi, .int .u64 x89.Val.Lo] 85 (0, 0))) :: ex) r (fun _ _ => (.s (.s (.s (.s .z))))) r trivial (.e 25 (by kernel_rfl) (by kernel_rfl) (by kernel_rfl) (.sub (E' := [(0, _), (3, _), (4, _), (47, _), (48, _), (49, _), (50, _), (51, .slice (some ⟨b236, 0, none⟩) (r143.out.set ((w64 ((r143.out.length : Int) - 1)).toNat) ({ At := x243.At, Val := r238 } : Sum)).length c150), (52, _), (53, _), (54, _), (55, _), (56, _), (57, _), (58, _), (59, _), (60, _), (61, .slice (some ⟨b236, 0, none⟩) (r143.out.set ((w64 ((r143.out.length : Int) - 1)).toNat) ({ At := x243.At, Val := r238 } : Sum)).length c150), (62, _), (63, _), (64, _), (65, _), (66, _), (67, _), (68, _), (69, _), (70, _), (71, _)]) ⟨r, r, r, r, r, r, r, (by simp only [List.length_set]; rfl), r, r, r, r, r, r, r, r, r, (by simp only [List.length_set]; rfl), r, r, r, r, r, r, r, r, r, r, trivial⟩ (.reat .z (B := pto b2 (.cells #[.slice p146 r143.heads.length c147, .int .i64 r143.r, .slice (some ⟨b236, 0, none⟩) (r143.out.set ((w64 ((r143.out.length : Int) - 1)).toNat) ({ At := x243.At, Val := r238 } : Sum)).length c150] 187 (0, 0))) (by simp only [List.length_set]) (.nilS [0] r r (.drop (.s (.s (.s .z))) (.ret (oret results143 .n le228 (.c .z (.c .z (.c .z .n))) ⟨({ heads := r143.heads, r := r143.r, out := (r143.out.set ((w64 ((r143.out.length : Int) - 1)).toNat) ({ At := x243.At, Val := r238 } : Sum)) } : Push_merger), _, _, _, _, r, r, hd⟩)))))))))
 refine .skipS [3, 0] r r (.draw [some 0, some 1, some 2, some 3, some 4, some 5, some 6, some 7, some 8, some 9, some 10] 11 MX (by kernel_rfl) (by kernel_rfl) (by kernel_rfl) (by kernel_rfl) (by kernel_rfl) (by kernel_rfl) (by kernel_rfl) (fun ex => (pto b2 (.cells #[.slice p146 r143.heads.length c147, .int .i64 r143.r, .slice p149 r143.out.length c150] 187 (0, 0))) :: (OwnSl ePush_head 213 p146 c147 r143.heads) :: (OwnSl eSum 85 p149 c150 r143.out) :: (pto b97 (.cells #[.int .i64 x89.At, .int .i64 x89.Val.Hi, .int .u64 x89.Val.Lo] 85 (0, 0))) :: ex) (fun _ _ => (.s (.s (.s (.s .z))))) r (.fs [[], []] r (by kernel_rfl) (.f [1] r (by kernel_rfl) r r (fun ex => .nilCheckP r r r .mk) (.f [2] r (by kernel_rfl) r r (fun ex => .fieldAddr underlying187 r sizeOf45 r (o := 2) r r r .mk) (.f [3] r (by kernel_rfl) r r (fun ex => .load1 isAgg45 r .z r r r .mk) (.f [] r (by kernel_rfl) r r (fun ex => .loadW isAgg85 sizeOf85 r (.s (.s (.s .z))) r r r .mk) (.w [4, 3, 2, 1, 0] [[]] [5] r (by kernel_rfl) (by kernel_rfl) (by kernel_rfl) ((dropE_kept r r)) (.inr (dropE_kept r r)) fun ex => ?_)))))))
 refine .buildSlice 1 underlying45 sizeOf85 zeroValue85 r r (.c r r r .n) r r fun b245 => ?_
 refine .some (fun ex => (pto b245 (.cells #[.int .i64 x89.At, .int .i64 x89.Val.Hi, .int .u64 x89.Val.Lo] 85 (0, 0))) :: (pto b2 (.cells #[.slice p146 r143.heads.length c147, .int .i64 r143.r, .slice p149 r143.out.length c150] 187 (0, 0))) :: (OwnSl ePush_head 213 p146 c147 r143.heads) :: (OwnSl eSum 85 p149 c150 r143.out) :: (pto b97 (.cells #[.int .i64 x89.At, .int .i64 x89.Val.Hi, .int .u64 x89.Val.Lo] 85 (0, 0))) :: ex) r (fun _ _ => (.s (.s (.s (.s (.s .z)))))) r (.cc [3] r (by kernel_rfl) r r r (fun ex => .load1 isAgg45 r (.s .z) r r r .mk) (.cc [2] r (by kernel_rfl) r r r (fun ex => .fieldAddr underlying187 r sizeOf45 r (o := 2) r r r .mk) (.cc [1] r (by kernel_rfl) r r r (fun ex => .nilCheckP r r r .mk) (.ccs [[], []] r r (by kernel_rfl) trivial)))) (.w [0] [[], [4], [3, 4], [2, 3, 4]] [4, 6] r (by kernel_rfl) (by kernel_rfl) (by kernel_rfl) ((dropE_kept r r)) (.inr (dropE_kept r r)) fun ex => ?_)
 obtain ⟨hl247, hd⟩ := hd
 refine .append (ys := [x89]) 24 (.s (.s (.s .z))) underlying45 underlying45 IN85 r r r r r r r r r (.box .z (.one r) r) hl247 r r fun p248 c249 => ?_
 refine .some (fun ex => (OwnSl eSum 85 p248 c249 (r143.out ++ ([x89]))) :: (pto b245 (.cells #[.int .i64 x89.At, .int .i64 x89.Val.Hi, .int .u64 x89.Val.Lo] 85 (0, 0))) :: (pto b2 (.cells #[.slice p146 r143.heads.length c147, .int .i64 r143.r, .slice p149 r143.out.length c150] 187 (0, 0))) :: (OwnSl ePush_head 213 p146 c147 r143.heads) :: (pto b97 (.cells #[.int .i64 x89.At, .int .i64 x89.Val.Hi, .int .u64 x89.Val.Lo] 85 (0, 0))) :: ex) r (fun _ _ => (.s (.s (.s (.s (.s .z)))))) r (.ccs [[]] r r (by kernel_rfl) trivial) (.f [0, 0, 1, 2, 3, 4, 5, 6, 7] r (by kernel_rfl) r r (fun ex => .nilCheckP r r r .mk) (.f [8, 0, 1, 2, 3, 4, 5, 6, 7] r (by kernel_rfl) r r (fun ex => .fieldAddr underlying187 r sizeOf45 r (o := 2) r r r .mk) (.w [] [[], [9], []] [9, 7, 7, 0, 1, 2, 3, 4, 5, 6, 7] r (by kernel_rfl) (by kernel_rfl) (by kernel_rfl) ((dropE_none r)) (.inr (dropE_none r)) fun ex => ?_)))
 exact .store1 sizeOf45 r r (.s (.s .z)) (.s (.s (.t .nil))) r (.none (fun ex => (OwnSl eSum 85 p248 c249 (r143.out ++ ([x89]))) :: (pto b245 (.cells #[.int .i64 x89.At, .int .i64 x89.Val.Hi, .int .u64 x89.Val.Lo] 85 (0, 0))) :: (pto b2 (.cells #[.slice p146 r143.heads.length c147, .int .i64 r143.r, .slice p248 (r143.out ++ ([x89])).length c249] 187 (0, 0))) :: (OwnSl ePush_head 213 p146 c147 r143.heads) :: (pto b97 (.cells #[.int .i64 x89.At, .int .i64 x89.Val.Hi, .int .u64 x89.Val.Lo] 85 (0, 0))) :: ex) r (fun _ _ => (.s (.s (.s (.s (.s .z)))))) r trivial (.e 11 (by kernel_rfl) (by kernel_rfl) (by kernel_rfl) (.nil' (oretN results143 .n le228 (.c (.s (.s .z)) (.c (.s (.s .z)) (.c .z .n))) ⟨({ heads := r143.heads, r := r143.r, out := (r143.out ++ ([x89])) } : Push_merger), _, _, _, _, r, r, hd⟩))))

theorem W_push_Merge {I : IH} {a0 : Int} {a1 : List (List Sum)} {p1 : Option Addr} {c2 : Nat} {Q : ((List Sum) × Int) → Prop} (R3 : RepSl (slEl eSum) I p1 c2 a1) (hd : push_Merge a0 a1 Q) :
    PFun Tryz.prog 112 [.int .i64 a0, .slice p1 a1.length c2] I (fun I_ v => ∃ r p4 c5, v = .tuple #[.slice p4 r.1.length c5, .int .i64 r.2] ∧ RepSl eSum I_ p4 c5 r.1 ∧ Q r) := by
 refine Fun.enter func112 r ntmps112 r (.c (.c .n)) fun w0 M => ?_
 refine .seq (.region (.skips 2 r (.nilS [1, 0] r r (.seq (.seq (.region (.skips 1 r ?_)))))))
 have hw13 := W_ring_Is (I := I) hd
 refine .callP call109 r hw13 r r fun v14 hv15 => ?_
 obtain ⟨r12, rfl, hd⟩ := hv15
 refine .not r r r (.nilS [11, 1, 0] r r (.condP r hd (fun hb16 hd => ?_) fun hb16 hd => ?_))
 · exact .seq (.region (.skips 2 r (.nilS [5, 4] r r (.ret (pret results112 (.t r (.t r .n)) (.refl _) ⟨(([] : List Sum), 8), _, _, r, (.nil _ _ _), hd⟩)))))
 refine .skipS [1, 0] r r (.seq (.seq (.region (.skips 1 r ?_))))
 have hw26 := W_slices_ContainsFunc_api_Sum_api_Sum_bfd (I := I) (a0 := a1) R3 hd
 refine .callS (.f call138 r) .n hw26 r r fun v30 I27 l31 hl28 hv29 => ?_
 obtain ⟨r32, rfl, rfl, hd⟩ := hv29
 have le33 := IH.le.trans (.refl _) hl28
 replace R3 := R3.mono hl28
 refine .re (m' := []) r (.nilS [13, 1, 0] r r (.condP r hd (fun hb34 hd => ?_) fun hb34 hd => ?_))
 · exact .seq (.region (.skips 2 r (.nilS [5, 4] r r (.ret (pret results112 (.t r (.t r .n)) le33 ⟨(([] : List Sum), 6), _, _, r, (.nil _ _ _), hd⟩)))))
 refine .skipS [1, 0] r r (.seq (.region (.skips 1 r (.build zeroValue187 underlying187 BI187 (.c r r r (.s (.t .nil)) .n) (by exact ⟨⟨_, _, r, r, r⟩, trivial⟩) r r (.boxA r r r fun b37 => ?_)))))
 refine .skips 1 r (.nilS [6, 1] r r (.seq (.seq (.region (.skips 1 r (.len underlying155 r r r r (.skips 1 r (.nilS [19, 18, 17, 6] r r (.block ?_)))))))))
 refine .own0 ePush_head 213 (.own0 eSum 85 (.loop hd (fun (s : (List Push_head) × Int × (List Sum) × Int) c w => match s with | (s285, s289, s290, s294) => ∃ I_ p286 c287 p291 c292, IH.le I27 I_ ∧ Ok ⟨41, [], none⟩ [(6, .pointer (some ⟨b37, 0, none⟩)), (17, .slice p1 a1.length c2), (18, .int .i64 (a1.length : Int)), (19, .int .i64 s294)] c ∧ Sym w0 M I I_ [pto b37 (.cells #[.slice p286 s285.length c287, .int .i64 s289, .slice p291 s290.length c292] 187 (0, 0)), OwnSl ePush_head 213 p286 c287 s285, OwnSl eSum 85 p291 c292 s290] w) (fun c w ho hs => ⟨I27, _, _, _, _, (.refl _), ho.sub ⟨r, r, r, r, trivial⟩, hs.pick (.c (.s (.s .z)) (.c (.s .z) (.c .z .n)))⟩) ?_))
 rintro ⟨s285, s289, s290, s294⟩ next297 hd c w hst
 obtain ⟨I298, p286, c287, p291, c292, hl299, hok, hsym⟩ := hst
 have le300 := IH.le.trans le33 hl299
 have le301 := IH.le.trans (.refl _) hl299
 replace R3 := R3.mono hl299
 refine Cod.at hok hsym (.seq (.region (.lt r r r r (.nilS [20, 19, 18, 17, 6] r r (.seq (.condP r hd (fun hb303 hd => ?_) fun hb303 hd => ?_))))))
 · refine .skipS [19, 18, 17, 6] r r (.seq (.block (.seq (.region (.skips 1 r ?_)))))
   obtain ⟨h304, x305, hx306, hd⟩ := hd
   obtain ⟨b307, o308, cs309, e310, hC311, hr312⟩ := R3.2 _ _ hx306
   obtain ⟨p313, c314, rfl, R315⟩ := hr312
   refine .ixa underlying155 sizeOf45 r e310 r h304 (idx_lt hx306 h304) r r (.ld1 (j := 0) isAgg45 hC311 r r r r r (.skips 2 r (.nilS [8, 7, 19, 18, 17, 6] r r (.region (.skips 3 r ?_)))))
   have hw316 := W_push_merger_put_46e (I := I298) (o0 := ({ heads := s285, r := s289, out := s290 } : Push_merger)) (a0 := x305) (a1 := s294) (b2 := b37) (p3 := p286) (c4 := c287) (p6 := p291) (c7 := c292) R315 hd
   refine .callS (.f call141 r) (.c .z (.c .z (.c .z .n))) hw316 r r fun v320 I317 l321 hl318 hv319 => ?_
   obtain ⟨r322, p325, c326, p328, c329, rfl, rfl, hd⟩ := hv319
   have le333 := IH.le.trans le300 hl318
   have le334 := IH.le.trans le301 hl318
   replace R3 := R3.mono hl318
   replace R315 := R315.mono hl318
   exact .re (m' := [pto b37 (.cells #[.slice p325 r322.heads.length c326, .int .i64 r322.r, .slice p328 r322.out.length c329] 187 (0, 0)), OwnSl ePush_head 213 p325 c326 r322.heads, OwnSl eSum 85 p328 c329 r322.out]) r (.nilS [19, 18, 17, 6] r r (.region (.add r r r r (.sub (E' := [(6, _), (17, _), (18, _), (28, _)]) ⟨r, r, r, r, trivial⟩ (.skips 1 r (.nil' fun c w ho hs => ⟨(r322.heads, r322.r, r322.out, w64 (s294 + 1)), hd, I317, _, _, _, _, le334, ho.sub ⟨r, r, r, r, trivial⟩, hs.pick (.c .z (.c .z (.c .z .n)))⟩))))))
 refine .exitS [6] r r (.seq (.block (.loop hd (fun (s : (List Push_head) × Int × (List Sum)) c w => match s with | (s412, s416, s417) => ∃ I_ p413 c414 p418 c419, IH.le I298 I_ ∧ Ok ⟨41, [], none⟩ [(6, .pointer (some ⟨b37, 0, none⟩))] c ∧ Sym w0 M I I_ [pto b37 (.cells #[.slice p413 s412.length c414, .int .i64 s416, .slice p418 s417.length c419] 187 (0, 0)), OwnSl ePush_head 213 p413 c414 s412, OwnSl eSum 85 p418 c419 s417] w) (fun c w ho hs => ⟨I298, _, _, _, _, (.refl _), ho.sub ⟨r, trivial⟩, hs.pick (.c .z (.c .z (.c .z .n)))⟩) ?_)))
 rintro ⟨s412, s416, s417⟩ next421 hd c w hst
 obtain ⟨I422, p413, c414, p418, c419, hl423, hok, hsym⟩ := hst
 have le424 := IH.le.trans le300 hl423
 have le425 := IH.le.trans le301 hl423
 have le426 := IH.le.trans (.refl _) hl423
 refine Cod.at hok hsym (.seq (.seq (.region (.skips 1 r (.nilCheckP r r r (.fieldAddr underlying187 r sizeOf185 r (o := 0) r r r (.load1 isAgg185 r .z r r r ?_)))))))
 have hw428 := fun (J : IH) (hJ : IH.le I422 J) (hL : lentAll J [OwnSl ePush_head 213 p413 c414 s412]) => W_push_heads_Len (I := J) (lent hL.1) hd
 refine .callB (.f call142 r) (.c (.s .z) .n) hw428 r r fun v429 _ hv430 => ?_
 obtain ⟨r427, rfl, hd⟩ := hv430
 refine .gt r r r r (.nilS [34, 6] r r (.condP r hd (fun hb431 hd => ?_) fun hb431 hd => ?_))
 · refine .skipS [6] r r (.block (.region (.skips 1 r ?_)))
   have hw432 := W_push_merger_next_d58 (I := I422) (o0 := ({ heads := s412, r := s416, out := s417 } : Push_merger)) (b2 := b37) (p3 := p413) (c4 := c414) (p6 := p418) (c7 := c419) hd
   refine .callS (.f call143 r) (.c .z (.c .z (.c .z .n))) hw432 r r fun v436 I433 l437 hl434 hv435 => ?_
   obtain ⟨r438, p441, c442, p444, c445, rfl, rfl, hd⟩ := hv435
   have le449 := IH.le.trans le424 hl434
   have le450 := IH.le.trans le425 hl434
   have le451 := IH.le.trans le426 hl434
   exact .re (m' := [pto b37 (.cells #[.slice p441 r438.heads.length c442, .int .i64 r438.r, .slice p444 r438.out.length c445] 187 (0, 0)), OwnSl ePush_head 213 p441 c442 r438.heads, OwnSl eSum 85 p444 c445 r438.out]) r (.nil' fun c w ho hs => ⟨(r438.heads, r438.r, r438.out), hd, I433, _, _, _, _, le451, ho.sub ⟨r, trivial⟩, hs.pick (.c .z (.c .z (.c .z .n)))⟩)
 refine .exitS [6] r r (.seq (.region (.skips 1 r (.nilCheckP r r r (.fieldAddr underlying187 r sizeOf45 r (o := 2) r r r (.load1 isAgg45 r .z r r r (.skips 2 r (.nilS [5, 4] r r (.drop .z ?_)))))))))
 refine .drop .z (.pub .z fun I452 hl453 R454 => ?_)
 have le455 := IH.le.trans le424 hl453
 have le456 := IH.le.trans le425 hl453
 have le457 := IH.le.trans le426 hl453
 exact .ret (pret results112 (.t r (.t r .n)) le455 ⟨(s417, 0), _, _, r, R454, hd⟩)

end Go.Proofs.YtmidnfbbnmigeaaGreat
