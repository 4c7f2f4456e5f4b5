/- The walks (printed by a program of ours). -/
import Derived.Test.YtggmiaebkplnlaaGreatV2
namespace Go.Proofs.YtggmiaebkplnlaaGreat
open Go Go.Fw
set_option linter.unusedVariables false
set_option linter.unusedSimpArgs false
set_option maxRecDepth 8000
set_option maxHeartbeats 1000000
open Tryz
theorem W_ref02_Is {I : IH} {a0 : Int} {Q : Bool → Prop}  (hd : ref02_Is a0 Q) :
  PFun prog 120 [.int .i64 a0] I (fun _ => o0_ Q) := by
 refine Fun.enter func120 r ntmps120 r (.c .n) fun w0 M => ?_
 refine .sr (.ks 1 r (.nilS [0] r r (.sr (.ks 3 r ?_))))
 refine splitP hd (fun hb1 hd => ?_) fun hb1 hd => ?_
 · rw [hb1]
   exact .ks 4 r (.nilS [2] r r (.ret (pret results120 (.t r .n) (.refl _) ⟨(decide (a0 ≤ 5)), r, hd⟩)))
 rw [hb1]
 exact .ks 4 r (.nilS [2] r r (.ret (pret results120 (.t r .n) (.refl _) ⟨false, r, hd⟩)))

theorem W_ref05_below {I : IH} {a0 : Edge} {a1 : Edge} {Q : Bool → Prop}  (hd : ref05_below a0 a1 Q) :
  PFun prog 132 [.agg (encEdge a0).toArray, .agg (encEdge a1).toArray] I (fun _ => o0_ Q) := by
 refine Fun.enter func132 r ntmps132 r (.c (.c .n)) fun w0 M => ?_
 refine .sr (.boxA r r r fun b5 => ?_)
 refine .boxA r r r fun b7 => ?_
 refine .ks 1 r (.nilS [3, 2] r r (.sr (.fa un73 r sz3 r (o := 0) r r r (.load1 ia3 r (.s .z) r r r (.fa un73 r sz3 r (o := 0) r r r (.load1 ia3 r .z r r r (.ks 2 r ?_)))))))
 refine splitP hd (fun hb9 hd => ?_) fun hb9 hd => ?_
 · rw [hb9]
   exact .ks 14 r (.nilS [4] r r (.drop .z (.drop .z (.ret (pret results132 (.t r .n) (.refl _) ⟨true, r, hd⟩)))))
 rw [hb9]
 refine .gyes r r r (.fa un73 r sz3 r (o := 0) r r r (.gyes r r r (.load1 ia3 r (.s .z) r r r (.gyes r r r (.fa un73 r sz3 r (o := 0) r r r (.gyes r r r (.load1 ia3 r .z r r r (.ks 2 r ?_))))))))
 refine splitP hd (fun hb10 hd => ?_) fun hb10 hd => ?_
 · rw [hb10]
   exact .gyes r r r (.fa un73 r sz3 r (o := 1) r r r (.gyes r r r (.load1 ia3 r (.s .z) r r r (.gyes r r r (.fa un73 r sz3 r (o := 1) r r r (.gyes r r r (.load1 ia3 r .z r r r (.ks 4 r (.nilS [4] r r (.drop .z (.drop .z (.ret (pret results132 (.t r .n) (.refl _) ⟨(decide (a0.To < a1.To)), r, hd⟩)))))))))))))
 rw [hb10]
 exact .ks 8 r (.nilS [4] r r (.drop .z (.drop .z (.ret (pret results132 (.t r .n) (.refl _) ⟨false, r, hd⟩)))))

theorem W_ref01_Of {I : IH} {a0 : Int} {Q : Wide → Prop}  (hd : ref01_Of a0 Q) :
  PFun prog 133 [.int .i64 a0] I (fun _ => o2_ Q) := by
 refine Fun.enter func133 r ntmps133 r (.c .n) fun w0 M => ?_
 refine .sr (.allocA zv144 r r fun b3 => ?_)
 refine .nilS [2, 0] r r (.seq (.sr (.ks 2 r (.nilS [4, 2, 0] r r (.condP r hd (fun hb5 hd => ?_) fun hb5 hd => ?_)))))
 · exact .sr (.ks 1 r (.conv un2 un96 r r r (.build zv144 un144 BI144 (.c r r r (.t .nil) (.c r r r (.s (.t .nil)) .n)) (by exact ⟨⟨_, _, r, r, r⟩, ⟨⟨_, _, r, r, r⟩, trivial⟩⟩) r r (.storeA sz144 r r .z (.t (.t .nil)) r r (.nilS [2] r r (.ret (pret results133 (.w ia144 sz144 r .z r .n) (.refl _) ⟨({ Hi := (-1), Lo := IntKind.wrap .u64 (a0) } : Wide), r, hd⟩)))))))
 exact .skipS [2, 0] r r (.sr (.ks 1 r (.conv un2 un96 r r r (.build zv144 un144 BI144 (.c r r r (.s (.t .nil)) .n) (by exact ⟨⟨_, _, r, r, r⟩, trivial⟩) r r (.storeA sz144 r r .z (.t (.t .nil)) r r (.nilS [2] r r (.ret (pret results133 (.w ia144 sz144 r .z r .n) (.refl _) ⟨({ Hi := 0, Lo := IntKind.wrap .u64 (a0) } : Wide), r, hd⟩))))))))

theorem W_ref01_Compare {I : IH} {a0 : Wide} {a1 : Wide} {Q : Int → Prop}  (hd : ref01_Compare a0 a1 Q) :
  PFun prog 147 [.agg (encWide a0).toArray, .agg (encWide a1).toArray] I (fun _ => o1_ Q) := by
 refine Fun.enter func147 r ntmps147 r (.c (.c .n)) fun w0 M => ?_
 refine .sr (.boxA r r r fun b5 => ?_)
 refine .boxA r r r fun b7 => ?_
 refine .ks 1 r (.nilS [3, 2] r r (.seq ?_))
 refine Cod.joinQ (σ := Unit) hd (fun (_ : Unit) c w => ∃ I_, IH.le I I_ ∧ Ok ⟨27, [], none⟩ [(2, .pointer (some ⟨b5, 0, none⟩)), (3, .pointer (some ⟨b7, 0, none⟩))] c ∧ Sym w0 M I I_ [pto b5 (.cells #[.int .i64 a0.Hi, .int .u64 a0.Lo] 144 (0, 0)), pto b7 (.cells #[.int .i64 a1.Hi, .int .u64 a1.Lo] 144 (0, 0))] w) (fun k15 hd => ?_) ?_
 · skip
   refine .sr (.fa un144 r sz2 r (o := 0) r r r (.load1 ia2 r (.s .z) r r r (.fa un144 r sz2 r (o := 0) r r r (.load1 ia2 r .z r r r (.ks 2 r ?_)))))
   refine splitP hd (fun hb16 hd => ?_) fun hb16 hd => ?_
   · rw [hb16]
     exact .ks 13 r (.nilS [23, 3, 2] r r (.condKT r r (.sr (.ks 1 r (.nilS [4] r r (.drop .z (.drop .z (.ret (pret results147 (.t r .n) (.refl _) ⟨(-1), r, hd⟩)))))))))
   rw [hb16]
   refine .gyes r r r (.fa un144 r sz2 r (o := 0) r r r (.gyes r r r (.load1 ia2 r (.s .z) r r r (.gyes r r r (.fa un144 r sz2 r (o := 0) r r r (.gyes r r r (.load1 ia2 r .z r r r (.ks 2 r ?_))))))))
   refine splitP hd (fun hb17 hd => ?_) fun hb17 hd => ?_
   · rw [hb17]
     refine .gyes r r r (.fa un144 r sz96 r (o := 1) r r r (.gyes r r r (.load1 ia96 r (.s .z) r r r (.gyes r r r (.fa un144 r sz96 r (o := 1) r r r (.gyes r r r (.load1 ia96 r .z r r r (.ks 3 r (.nilS [23, 3, 2] r r (.condP r hd (fun hb18 hd => ?_) fun hb18 hd => ?_))))))))))
     · exact .sr (.ks 1 r (.nilS [4] r r (.drop .z (.drop .z (.ret (pret results147 (.t r .n) (.refl _) ⟨(-1), r, hd⟩))))))
     exact .skip' fun c w ho hs => ⟨(), hd, I, (.refl _), ho.sub ⟨r, r, trivial⟩, hs.pick (.c (.s .z) (.c .z .n))⟩
   rw [hb17]
   exact .ks 7 r (.nilS [23, 3, 2] r r (.condKF r r (.skip' fun c w ho hs => ⟨(), hd, I, (.refl _), ho.sub ⟨r, r, trivial⟩, hs.pick (.c (.s .z) (.c .z .n))⟩)))
 rintro ⟨⟩ hd c w hst
 obtain ⟨I19, hl20, hok, hsym⟩ := hst
 refine Cod.at hok hsym (.seq (.sr (.loadW ia144 sz144 r .z r r r (.loadW ia144 sz144 r (.s .z) r r r (.eqV r r (EQ144 a0 a1) (EG144 _ _ _ _ _) r r r (.nilS [26] r r (.drop .z (.drop .z (.condP r hd (fun hb21 hd => ?_) fun hb21 hd => ?_)))))))))
 · exact .sr (.ks 1 r (.nilS [4] r r (.ret (pret results147 (.t r .n) hl20 ⟨0, r, hd⟩))))
 exact .skipS [] r r (.sr (.ks 1 r (.nilS [4] r r (.ret (pret results147 (.t r .n) hl20 ⟨1, r, hd⟩)))))

theorem W_ref02_truth {I : IH} {a0 : Bool} {Q : Wide → Prop}  (hd : ref02_truth a0 Q) :
  PFun prog 148 [.bool a0] I (fun _ => o2_ Q) := by
 refine Fun.enter func148 r ntmps148 r (.c .n) fun w0 M => ?_
 refine .sr (.allocA zv144 r r fun b3 => ?_)
 refine .nilS [2, 0] r r (.seq (.sr (.ks 1 r (.nilS [3, 2] r r (.condP r hd (fun hb5 hd => ?_) fun hb5 hd => ?_)))))
 · exact .sr (.build zv144 un144 BI144 (.c r r r (.s (.t .nil)) .n) (by exact ⟨⟨_, _, r, r, r⟩, trivial⟩) r r (.storeA sz144 r r .z (.t (.t .nil)) r r (.nilS [2] r r (.ret (pret results148 (.w ia144 sz144 r .z r .n) (.refl _) ⟨({ Hi := 0, Lo := 1 } : Wide), r, hd⟩)))))
 exact .skipS [2] r r (.sr (.build zv144 un144 BI144 .n (by exact trivial) r r (.storeA sz144 r r .z (.t (.t .nil)) r r (.nilS [2] r r (.ret (pret results148 (.w ia144 sz144 r .z r .n) (.refl _) ⟨({ Hi := 0, Lo := 0 } : Wide), r, hd⟩))))))

theorem W_ref01_Add {I : IH} {a0 : Wide} {a1 : Wide} {Q : Wide → Prop}  (hd : ref01_Add a0 a1 Q) :
  PFun prog 149 [.agg (encWide a0).toArray, .agg (encWide a1).toArray] I (fun _ => o2_ Q) := by
 refine Fun.enter func149 r ntmps149 r (.c (.c .n)) fun w0 M => ?_
 refine .sr (.boxA r r r fun b7 => ?_)
 refine .boxA r r r fun b9 => ?_
 refine .allocA zv144 r r fun b11 => ?_
 refine .nilS [4, 3, 2] r r (.sr (.fa un144 r sz96 r (o := 1) r r r (.load1 ia96 r (.s (.s .z)) r r r (.fa un144 r sz96 r (o := 1) r r r (.load1 ia96 r (.s .z) r r r (.ks 2 r (.nilS [5, 4, 3, 2] r r (.sr (.fa un144 r sz2 r (o := 0) r r r ?_)))))))))
 refine .load1 ia2 r (.s (.s .z)) r r r (.fa un144 r sz2 r (o := 0) r r r (.load1 ia2 r (.s .z) r r r (.ks 2 r (.nilS [6, 5, 4, 2] r r (.drop (.s .z) (.seq (.sr (.ks 1 r (.fa un144 r sz96 r (o := 1) r r r ?_)))))))))
 refine .load1 ia96 r (.s .z) r r r (.ks 1 r (.nilS [20, 6, 5, 4] r r (.drop (.s .z) (.condP r hd (fun hb13 hd => ?_) fun hb13 hd => ?_))))
 · exact .region (.ks 3 r (.nilS [6, 5, 4] r r (.sr (.ks 2 r (.build zv144 un144 BI144 (.c r r r (.t .nil) (.c r r r (.s (.t .nil)) .n)) (by exact ⟨⟨_, _, r, r, r⟩, ⟨⟨_, _, r, r, r⟩, trivial⟩⟩) r r (.storeA sz144 r r .z (.t (.t .nil)) r r (.nilS [4] r r (.ret (pret results149 (.w ia144 sz144 r .z r .n) (.refl _) ⟨({ Hi := w64 ((w64 (a0.Hi + a1.Hi)) + 1), Lo := IntKind.wrap .u64 (a0.Lo + a1.Lo) } : Wide), r, hd⟩)))))))))
 exact .skipS [6, 5, 4] r r (.sr (.ks 2 r (.build zv144 un144 BI144 (.c r r r (.t .nil) (.c r r r (.s (.t .nil)) .n)) (by exact ⟨⟨_, _, r, r, r⟩, ⟨⟨_, _, r, r, r⟩, trivial⟩⟩) r r (.storeA sz144 r r .z (.t (.t .nil)) r r (.nilS [4] r r (.ret (pret results149 (.w ia144 sz144 r .z r .n) (.refl _) ⟨({ Hi := w64 (a0.Hi + a1.Hi), Lo := IntKind.wrap .u64 (a0.Lo + a1.Lo) } : Wide), r, hd⟩)))))))

theorem W_ref02_Add {I : IH} {a0 : Int} {a1 : Wide} {a2 : Wide} {Q : Wide → Prop}  (hd : ref02_Add a0 a1 a2 Q) :
  PFun prog 134 [.int .i64 a0, .agg (encWide a1).toArray, .agg (encWide a2).toArray] I (fun _ => o2_ Q) := by
 refine Fun.enter func134 r ntmps134 r (.c (.c (.c .n))) fun w0 M => ?_
 refine .sr (.boxA r r r fun b7 => ?_)
 refine .boxA r r r fun b9 => ?_
 refine .allocA zv144 r r fun b11 => ?_
 refine .nilS [6, 5, 4, 0] r r (.sr (.ks 1 r (.nilS [7, 6, 5, 4] r r (.block (.seq ?_)))))
 refine Cod.joinQ (σ := Bool) hd (fun (s17 : Bool) c w => ∃ I_, IH.le I I_ ∧ Ok ⟨35, [], none⟩ [(4, .pointer (some ⟨b7, 0, none⟩)), (5, .pointer (some ⟨b9, 0, none⟩)), (6, .pointer (some ⟨b11, 0, none⟩)), (7, .int .i64 a0), (9, .bool s17)] c ∧ Sym w0 M I I_ [pto b7 (.cells #[.int .i64 a1.Hi, .int .u64 a1.Lo] 144 (0, 0)), pto b9 (.cells #[.int .i64 a2.Hi, .int .u64 a2.Lo] 144 (0, 0)), pto b11 (.cells #[.int .i64 0, .int .u64 0] 144 (0, 0))] w) (fun k18 hd => ?_) ?_
 · skip
   refine .sr (.ks 2 r (.nilS [9, 7, 6, 5, 4] r r (.condP r hd (fun hb19 hd => ?_) fun hb19 hd => ?_)))
   · exact .skip' fun c w ho hs => ⟨(a0 == 1), hd, I, (.refl _), ho.sub ⟨r, r, r, r, r, trivial⟩, hs.pick (.c (.s (.s .z)) (.c (.s .z) (.c .z .n)))⟩
   refine .sr (.ks 2 r (.nilS [9, 7, 6, 5, 4] r r (.condP r hd (fun hb20 hd => ?_) fun hb20 hd => ?_)))
   · exact .skip' fun c w ho hs => ⟨(a0 == 3), hd, I, (.refl _), ho.sub ⟨r, r, r, r, r, trivial⟩, hs.pick (.c (.s (.s .z)) (.c (.s .z) (.c .z .n)))⟩
   exact .region (.ks 2 r (.nil' fun c w ho hs => ⟨(a0 == 4), hd, I, (.refl _), ho.sub ⟨r, r, r, r, r, trivial⟩, hs.pick (.c (.s (.s .z)) (.c (.s .z) (.c .z .n)))⟩))
 rintro s17 hd c w hst
 obtain ⟨I21, hl22, hok, hsym⟩ := hst
 refine Cod.at hok hsym (.condP r hd (fun hb23 hd => ?_) fun hb23 hd => ?_)
 · refine .seq (.sr (.loadW ia144 sz144 r (.s .z) r r r (.loadW ia144 sz144 r .z r r r ?_)))
   have hw25 := W_ref01_Compare (I := I21) hd
   refine .callP call147 r hw25 r r fun v26 hv27 => ?_
   obtain ⟨r24, rfl, hd⟩ := hv27
   refine .ks 1 r (.nilS [16, 6, 5, 4] r r (.condP r hd (fun hb28 hd => ?_) fun hb28 hd => ?_))
   · exact .sr (.loadW ia144 sz144 r (.s .z) r r r (.storeA sz144 r r (.s (.s .z)) (.t (.t .nil)) r r (.nilS [6] r r (.drop .z (.drop .z (.ret (pret results134 (.w ia144 sz144 r .z r .n) hl22 ⟨a2, r, hd⟩)))))))
   exact .skipS [6, 4] r r (.drop (.s .z) (.sr (.loadW ia144 sz144 r .z r r r (.storeA sz144 r r (.s .z) (.t (.t .nil)) r r (.nilS [6] r r (.drop .z (.ret (pret results134 (.w ia144 sz144 r .z r .n) hl22 ⟨a1, r, hd⟩))))))))
 refine .sr (.ks 2 r (.nilS [19, 7, 6, 5, 4] r r (.condP r hd (fun hb29 hd => ?_) fun hb29 hd => ?_)))
 · refine .sr (.loadW ia144 sz144 r .z r r r (.build zv144 un144 BI144 .n (by exact trivial) r r (.neV r r (EQ144 a1 ({ Hi := 0, Lo := 0 } : Wide)) (EG144 _ _ _ _ _) r r r (.ks 1 r ?_))))
   refine splitP hd (fun hb30 hd => ?_) fun hb30 hd => ?_
   · rw [hb30]
     refine .ks 4 r ?_
     have hw32 := W_ref02_truth (I := I21) hd
     refine .callP call148 r hw32 r r fun v33 hv34 => ?_
     obtain ⟨r31, rfl, hd⟩ := hv34
     exact .storeA sz144 r r (.s (.s .z)) (.t (.t .nil)) r r (.nilS [6] r r (.drop .z (.drop .z (.ret (pret results134 (.w ia144 sz144 r .z r .n) hl22 ⟨r31, r, hd⟩)))))
   rw [hb30]
   refine .gyes r r r (.loadW ia144 sz144 r (.s .z) r r r (.gyes r r r (.build zv144 un144 BI144 .n (by exact trivial) r r (.gyes r r r (.neV r r (EQ144 a2 ({ Hi := 0, Lo := 0 } : Wide)) (EG144 _ _ _ _ _) r r r (.ks 1 r ?_))))))
   have hw36 := W_ref02_truth (I := I21) hd
   refine .callP call148 r hw36 r r fun v37 hv38 => ?_
   obtain ⟨r35, rfl, hd⟩ := hv38
   exact .storeA sz144 r r (.s (.s .z)) (.t (.t .nil)) r r (.nilS [6] r r (.drop .z (.drop .z (.ret (pret results134 (.w ia144 sz144 r .z r .n) hl22 ⟨r35, r, hd⟩)))))
 refine .sr (.ks 2 r (.nilS [30, 6, 5, 4] r r (.condP r hd (fun hb39 hd => ?_) fun hb39 hd => ?_)))
 · refine .sr (.loadW ia144 sz144 r .z r r r (.loadW ia144 sz144 r (.s .z) r r r ?_))
   have hw41 := W_ref01_Add (I := I21) hd
   refine .callP call149 r hw41 r r fun v42 hv43 => ?_
   obtain ⟨r40, rfl, hd⟩ := hv43
   exact .storeA sz144 r r (.s (.s .z)) (.t (.t .nil)) r r (.nilS [6] r r (.drop .z (.drop .z (.ret (pret results134 (.w ia144 sz144 r .z r .n) hl22 ⟨r40, r, hd⟩)))))
 exact .sr (.build zv144 un144 BI144 .n (by exact trivial) r r (.storeA sz144 r r (.s (.s .z)) (.t (.t .nil)) r r (.nilS [6] r r (.drop .z (.drop .z (.ret (pret results134 (.w ia144 sz144 r .z r .n) hl22 ⟨({ Hi := 0, Lo := 0 } : Wide), r, hd⟩)))))))

theorem W_ref01_Narrow {I : IH} {a0 : Wide} {Q : (Int × Bool) → Prop}  (hd : ref01_Narrow a0 Q) :
  PFun prog 135 [.agg (encWide a0).toArray] I (fun _ => o4_ Q) := by
 refine Fun.enter func135 r ntmps135 r (.c .n) fun w0 M => ?_
 refine .sr (.boxA r r r fun b3 => ?_)
 refine .ks 2 r (.nilS [1] r r (.sr (.fa un144 r sz96 r (o := 1) r r r (.load1 ia96 r .z r r r (.conv un96 un2 r r r (.ks 1 r (.nilS [4, 1] r r (.seq (.sr ?_)))))))))
 refine .fa un144 r sz2 r (o := 0) r r r (.load1 ia2 r .z r r r (.ks 2 r ?_))
 refine splitP hd (fun hb5 hd => ?_) fun hb5 hd => ?_
 · rw [hb5]
   refine .ks 4 r ?_
   refine splitP hd (fun hb6 hd => ?_) fun hb6 hd => ?_
   · rw [hb6]
     exact .ks 8 r (.nilS [23, 4] r r (.drop .z (.condKT r r (.sr (.ks 3 r (.nilS [3, 2] r r (.ret (pret results135 (.t r (.t r .n)) (.refl _) ⟨(w64 (a0.Lo), true), r, hd⟩))))))))
   rw [hb6]
   refine .gyes r r r (.fa un144 r sz2 r (o := 0) r r r (.gyes r r r (.load1 ia2 r .z r r r (.ks 2 r ?_))))
   refine splitP hd (fun hb7 hd => ?_) fun hb7 hd => ?_
   · rw [hb7]
     refine .ks 4 r (.nilS [23, 4] r r (.drop .z (.condP r hd (fun hb8 hd => ?_) fun hb8 hd => ?_)))
     · exact .sr (.ks 3 r (.nilS [3, 2] r r (.ret (pret results135 (.t r (.t r .n)) (.refl _) ⟨(w64 (a0.Lo), true), r, hd⟩))))
     exact .skipS [] r r (.sr (.ks 2 r (.nilS [3, 2] r r (.ret (pret results135 (.t r (.t r .n)) (.refl _) ⟨(0, false), r, hd⟩)))))
   rw [hb7]
   exact .ks 4 r (.nilS [23, 4] r r (.drop .z (.condKF r r (.skipS [] r r (.sr (.ks 2 r (.nilS [3, 2] r r (.ret (pret results135 (.t r (.t r .n)) (.refl _) ⟨(0, false), r, hd⟩)))))))))
 rw [hb5]
 refine .ks 4 r (.gyes r r r (.fa un144 r sz2 r (o := 0) r r r (.gyes r r r (.load1 ia2 r .z r r r (.ks 2 r ?_)))))
 refine splitP hd (fun hb9 hd => ?_) fun hb9 hd => ?_
 · rw [hb9]
   refine .ks 4 r (.nilS [23, 4] r r (.drop .z (.condP r hd (fun hb10 hd => ?_) fun hb10 hd => ?_)))
   · exact .sr (.ks 3 r (.nilS [3, 2] r r (.ret (pret results135 (.t r (.t r .n)) (.refl _) ⟨(w64 (a0.Lo), true), r, hd⟩))))
   exact .skipS [] r r (.sr (.ks 2 r (.nilS [3, 2] r r (.ret (pret results135 (.t r (.t r .n)) (.refl _) ⟨(0, false), r, hd⟩)))))
 rw [hb9]
 exact .ks 4 r (.nilS [23, 4] r r (.drop .z (.condKF r r (.skipS [] r r (.sr (.ks 2 r (.nilS [3, 2] r r (.ret (pret results135 (.t r (.t r .n)) (.refl _) ⟨(0, false), r, hd⟩)))))))))

theorem W_ref05_Combine {I : IH} {a0 : Int} {a1 : List Edge} {p1 : Option Addr} {c2 : Nat} {Q : ((List Edge) × Int) → Prop} (R3 : RepSl eEdge I p1 c2 a1) (hd : ref05_Combine a0 a1 Q) :
  OFun prog 116 [.int .i64 a0, .slice p1 a1.length c2] I (fun I_ v l => ∃ r p4 c5, v = .tuple #[.slice p4 r.1.length c5, .int .i64 r.2] ∧ l = [OwnSl eEdge 73 p4 c5 r.1] ∧ Q r) := by
 refine Fun.enter func116 r ntmps116 r (.c (.c .n)) fun w0 M => ?_
 refine .sr (.ks 2 r (.nilS [1, 0] r r (.seq (.sr (.ks 1 r ?_)))))
 have hw13 := W_ref02_Is (I := I) hd
 refine .callP call120 r hw13 r r fun v14 hv15 => ?_
 obtain ⟨r12, rfl, hd⟩ := hv15
 refine .ks 1 r (.nilS [17, 1, 0] r r (.condP r hd (fun hb16 hd => ?_) fun hb16 hd => ?_))
 · exact .sr (.ks 2 r (.nilS [5, 4] r r (.own0 eEdge 73 (.ret (oret results116 (.t r (.t r .n)) (.refl _) (.c .z .n) ⟨(([] : List Edge), 8), _, _, r, r, hd⟩)))))
 refine .skipS [1, 0] r r (.sr (.ks 1 r (.nilS [6, 1, 0] r r (.sr (.ks 1 r (.nilS [7, 6, 1, 0] r r (.seq (.sr (.ks 1 r ?_)))))))))
 refine .nilS [8, 7, 6, 1, 0] r r (.block (.own0 eEdge 73 (.own0 eWide 144 (.loop hd (fun (s : (List Edge) × (List Wide) × Int) c w => match s with | (s2657, s2661, s2665) => ∃ I_ p2658 c2659 p2662 c2663, IH.le I I_ ∧ Ok ⟨145, [], none⟩ [(0, .int .i64 a0), (1, .slice p1 a1.length c2), (6, .slice p2658 s2657.length c2659), (7, .slice p2662 s2661.length c2663), (8, .int .i64 s2665)] c ∧ Sym w0 M I I_ [OwnSl eEdge 73 p2658 c2659 s2657, OwnSl eWide 144 p2662 c2663 s2661] w) (fun c w ho hs => ⟨I, _, _, _, _, (.refl _), ho.sub ⟨r, r, r, r, r, trivial⟩, hs.pick (.c (.s .z) (.c .z .n))⟩) ?_))))
 rintro ⟨s2657, s2661, s2665⟩ next2668 hd c w hst
 obtain ⟨I2669, p2658, c2659, p2662, c2663, hl2670, hok, hsym⟩ := hst
 replace R3 := R3.mono hl2670
 refine Cod.at hok hsym (.seq (.sr (.ks 2 r (.len un26 r r r r (.ks 1 r (.nilS [21, 8, 7, 6, 1, 0] r r (.condP r hd (fun hb2672 hd => ?_) fun hb2672 hd => ?_)))))))
 · refine .skipS [8, 7, 6, 1, 0] r r (.seq (.block (.sr (.ks 1 r (.nilS [9, 8, 7, 6, 1, 0] r r (.seq ?_))))))
   refine Cod.joinQ (σ := Int) hd (fun (s2821 : Int) c w => ∃ I_, IH.le I2669 I_ ∧ Ok ⟨145, [], none⟩ [(0, .int .i64 a0), (1, .slice p1 a1.length c2), (6, .slice p2658 s2657.length c2659), (7, .slice p2662 s2661.length c2663), (8, .int .i64 s2665), (9, .int .i64 s2821)] c ∧ Sym w0 M I I_ [OwnSl eEdge 73 p2658 c2659 s2657, OwnSl eWide 144 p2662 c2663 s2661] w) (fun k2822 hd => ?_) ?_
   · skip
     refine .block (.loop hd (fun (s2870 : Int) c w => ∃ I_, IH.le I2669 I_ ∧ Ok ⟨145, [], none⟩ [(0, .int .i64 a0), (1, .slice p1 a1.length c2), (6, .slice p2658 s2657.length c2659), (7, .slice p2662 s2661.length c2663), (8, .int .i64 s2665), (9, .int .i64 s2870)] c ∧ Sym w0 M I I_ [OwnSl eEdge 73 p2658 c2659 s2657, OwnSl eWide 144 p2662 c2663 s2661] w) (fun c w ho hs => ⟨I2669, (.refl _), ho.sub ⟨r, r, r, r, r, r, trivial⟩, hs.pick (.c .z (.c .z .n))⟩) ?_)
     rintro s2870 next2871 hd c w hst
     obtain ⟨I2872, hl2873, hok, hsym⟩ := hst
     have le2874 := IH.le.trans hl2670 hl2873
     replace R3 := R3.mono hl2873
     refine Cod.at hok hsym (.seq (.seq (.ownF .z fun hne2875 => ?_)))
     refine .ownF (.s .z) fun hne2876 => ?_
     refine .dr [0, 1, 2, 3, 4, 5, 6, 7, 8, 9, 10, 11, 12, 13, 14] 15 (.fk 2 r (.g r r r (fun _ => .len un26 r r r r .mk) (.fk 2 r ?_)))
     refine splitP hd (fun hb2877 hd => ?_) fun hb2877 hd => ?_
     · refine .g r r r (fun _ => .gyes r r hb2877 (.move r r r .mk)) (.g r r r (fun _ => .gyes r r hb2877 (.move r r r .mk)) ?_)
       obtain ⟨h2878, x2879, hx2880, hd⟩ := hd
       obtain ⟨b2881, e2882⟩ := hne2875 (idx_ne hx2880)
       cases e2882
       refine .g r r r (fun _ => .gyes r r hb2877 (.ixa0 un26 sz73 r r h2878 (idx_lt hx2880 h2878) r r .mk)) (.g r r r (fun _ => .gyes r r hb2877 (.loA (j := 0) ia73 sz73 .z hx2880 r r (.t (.t (.t .nil))) r r r .mk)) (.g r r r (fun _ => .gyes r r hb2877 (.move r r r .mk)) (.g r r r (fun _ => .gyes r r hb2877 (.move r r r .mk)) ?_)))
       obtain ⟨h2883, x2884, hx2885, hd⟩ := hd
       obtain ⟨b2886, o2887, cs2888, e2889, hC2890, hr2891⟩ := R3.2 _ _ hx2885
       cases hr2891
       refine .g r r r (fun _ => .gyes r r hb2877 (.ixa un26 sz73 r e2889 r h2883 (idx_lt hx2885 h2883) r r .mk)) (.g r r r (fun _ => .gyes r r hb2877 (.ldW ia73 sz73 hC2890 r r r r .mk)) (.ww r fun ex => ?_))
       have hw2893 := W_ref05_below (I := I2872) hd
       refine .gyes r r hb2877 (.callP call132 r hw2893 r r fun v2894 hv2895 => ?_)
       obtain ⟨r2892, rfl, hd⟩ := hv2895
       refine .so 2 r r r trivial (.g r r r (fun _ => .pickT r hb2877 r r r .mk) (.e2 15 (.nilS [38, 9, 8, 7, 6, 1, 0] r r (.condP r hd (fun hb2896 hd => ?_) fun hb2896 hd => ?_))))
       · exact .skipS [9, 8, 7, 6, 1, 0] r r (.block (.region (.ks 3 r (.nil' fun c w ho hs => ⟨(w64 (s2870 + 1)), hd, I2872, hl2873, ho.sub ⟨r, r, r, r, r, r, trivial⟩, hs.pick (.c .z (.c .z .n))⟩))))
       exact .exit fun c w ho hs => ⟨s2870, hd, I2872, hl2873, ho.sub ⟨r, r, r, r, r, r, trivial⟩, hs.pick (.c .z (.c .z .n))⟩
     refine .g r r r (fun _ => .gno r r hb2877 r r .mk) (.g r r r (fun _ => .gno r r hb2877 r r .mk) (.g r r r (fun _ => .gno r r hb2877 r r .mk) (.g r r r (fun _ => .gno r r hb2877 r r .mk) (.g r r r (fun _ => .gno r r hb2877 r r .mk) (.g r r r (fun _ => .gno r r hb2877 r r .mk) (.g r r r (fun _ => .gno r r hb2877 r r .mk) (.g r r r (fun _ => .gno r r hb2877 r r .mk) (.g r r r (fun _ => .gno r r hb2877 r r .mk) (.g r r r (fun _ => .pickF r hb2877 r r r .mk) ?_)))))))))
     exact .e2 15 (.nilS [38, 9, 8, 7, 6, 1, 0] r r (.condKF r r (.exit fun c w ho hs => ⟨s2870, hd, I2872, hl2873, ho.sub ⟨r, r, r, r, r, r, trivial⟩, hs.pick (.c .z (.c .z .n))⟩)))
   rintro s2821 hd c w hst
   obtain ⟨I2897, hl2898, hok, hsym⟩ := hst
   have le2899 := IH.le.trans hl2670 hl2898
   replace R3 := R3.mono hl2898
   refine Cod.at hok hsym (.sr (.ks 2 r ?_))
   obtain ⟨h2915, x2916, hx2917, hd⟩ := hd
   obtain ⟨b2918, o2919, cs2920, e2921, hC2922, hr2923⟩ := R3.2 _ _ hx2917
   cases hr2923
   refine .ixa un26 sz73 r e2921 r h2915 (idx_lt hx2917 h2915) r r (.fa un73 r sz2 r (o := o2919 + s2665.toNat * 3 + 2) r r r (.ld1 (j := 2) ia2 hC2922 r r r r r ?_))
   have hw2925 := W_ref01_Of (I := I2897) hd
   refine .callP call133 r hw2925 r r fun v2926 hv2927 => ?_
   obtain ⟨r2924, rfl, hd⟩ := hv2927
   refine .allocA zv144 r r fun b2928 => ?_
   refine .storeA sz144 r r .z (.t (.t .nil)) r r (.nilS [10, 9, 8, 7, 6, 1, 0] r r (.seq (.seq ?_)))
   refine Cod.joinQ (σ := Bool) hd (fun (s3056 : Bool) c w => ∃ I_, IH.le I2897 I_ ∧ Ok ⟨145, [], none⟩ [(0, .int .i64 a0), (1, .slice p1 a1.length c2), (6, .slice p2658 s2657.length c2659), (7, .slice p2662 s2661.length c2663), (8, .int .i64 s2665), (9, .int .i64 s2821), (10, .pointer (some ⟨b2928, 0, none⟩)), (62, .bool s3056)] c ∧ Sym w0 M I I_ [OwnSl eEdge 73 p2658 c2659 s2657, OwnSl eWide 144 p2662 c2663 s2661, pto b2928 (.cells #[.int .i64 r2924.Hi, .int .u64 r2924.Lo] 144 (0, 0))] w) (fun k3057 hd => ?_) ?_
   · skip
     refine .ownF (.s .z) fun hne3058 => ?_
     refine .ownF (.s (.s .z)) fun hne3059 => ?_
     refine .dr [0, 1, 2, 3, 4, 5, 6, 7, 8, 9, 10, 11, 12, 13, 14, 15] 16 (.fk 2 r (.g r r r (fun _ => .len un26 r r r r .mk) (.fk 2 r ?_)))
     refine splitP hd (fun hb3060 hd => ?_) fun hb3060 hd => ?_
     · refine .g r r r (fun _ => .gyes r r hb3060 (.move r r r .mk)) (.g r r r (fun _ => .gyes r r hb3060 (.move r r r .mk)) ?_)
       obtain ⟨h3061, x3062, hx3063, hd⟩ := hd
       obtain ⟨b3064, o3065, cs3066, e3067, hC3068, hr3069⟩ := R3.2 _ _ hx3063
       cases hr3069
       refine .g r r r (fun _ => .gyes r r hb3060 (.ixa un26 sz73 r e3067 r h3061 (idx_lt hx3063 h3061) r r .mk)) (.g r r r (fun _ => .gyes r r hb3060 (.ldW ia73 sz73 hC3068 r r r r .mk)) (.g r r r (fun _ => .gyes r r hb3060 (.move r r r .mk)) (.g r r r (fun _ => .gyes r r hb3060 (.move r r r .mk)) ?_)))
       obtain ⟨h3070, x3071, hx3072, hd⟩ := hd
       obtain ⟨b3073, e3074⟩ := hne3058 (idx_ne hx3072)
       cases e3074
       refine .g r r r (fun _ => .gyes r r hb3060 (.ixa0 un26 sz73 r r h3070 (idx_lt hx3072 h3070) r r .mk)) (.g r r r (fun _ => .gyes r r hb3060 (.loA (j := 0) ia73 sz73 (.s .z) hx3072 r r (.t (.t (.t .nil))) r r r .mk)) (.ww r fun ex => ?_))
       have hw3076 := W_ref05_below (I := I2897) hd
       refine .gyes r r hb3060 (.callP call132 r hw3076 r r fun v3077 hv3078 => ?_)
       obtain ⟨r3075, rfl, hd⟩ := hv3078
       exact .so 3 r r r trivial (.g r r r (fun _ => .gyes r r hb3060 (.not r r r .mk)) (.g r r r (fun _ => .pickT r hb3060 r r r .mk) (.e2 16 (.nil' fun c w ho hs => ⟨(!r3075), hd, I2897, (.refl _), ho.sub ⟨r, r, r, r, r, r, r, r, trivial⟩, hs.pick (.c (.s .z) (.c (.s .z) (.c .z .n)))⟩))))
     refine .g r r r (fun _ => .gno r r hb3060 r r .mk) (.g r r r (fun _ => .gno r r hb3060 r r .mk) (.g r r r (fun _ => .gno r r hb3060 r r .mk) (.g r r r (fun _ => .gno r r hb3060 r r .mk) (.g r r r (fun _ => .gno r r hb3060 r r .mk) (.g r r r (fun _ => .gno r r hb3060 r r .mk) (.g r r r (fun _ => .gno r r hb3060 r r .mk) (.g r r r (fun _ => .gno r r hb3060 r r .mk) (.g r r r (fun _ => .gno r r hb3060 r r .mk) (.g r r r (fun _ => .gno r r hb3060 r r .mk) ?_)))))))))
     exact .g r r r (fun _ => .pickF r hb3060 r r r .mk) (.e2 16 (.nil' fun c w ho hs => ⟨false, hd, I2897, (.refl _), ho.sub ⟨r, r, r, r, r, r, r, r, trivial⟩, hs.pick (.c (.s .z) (.c (.s .z) (.c .z .n)))⟩))
   rintro s3056 hd c w hst
   obtain ⟨I3079, hl3080, hok, hsym⟩ := hst
   have le3081 := IH.le.trans le2899 hl3080
   have le3082 := IH.le.trans hl2898 hl3080
   replace R3 := R3.mono hl3080
   refine Cod.at hok hsym (.condP r hd (fun hb3083 hd => ?_) fun hb3083 hd => ?_)
   · refine .seq (.ownF .z fun hne3084 => ?_)
     refine .ownF (.s .z) fun hne3085 => ?_
     refine .dr [0, 1, 2, 3, 4, 5, 6, 7, 8] 9 (.fk 5 r ?_)
     obtain ⟨h3086, x3087, hx3088, hd⟩ := hd
     obtain ⟨b3089, e3090⟩ := hne3085 (idx_ne hx3088)
     cases e3090
     refine .g r r r (fun _ => .ixa0 un151 sz144 r r h3086 (idx_lt hx3088 h3086) r r .mk) (.g r r r (fun _ => .loA (j := 0) ia144 sz144 (.s .z) hx3088 r r (.t (.t .nil)) r r r .mk) (.g r r r (fun _ => .loadW ia144 sz144 r (.s (.s .z)) r r r .mk) (.ww r fun ex => ?_)))
     have hw3092 := W_ref02_Add (I := I3079) hd
     refine .callP call134 r hw3092 r r fun v3093 hv3094 => ?_
     obtain ⟨r3091, rfl, hd⟩ := hv3094
     refine .so 3 r r r (.ck 2 r r trivial) (.e2 9 ?_)
     obtain ⟨h3095, x3096, hx3097, hd⟩ := hd
     exact .ixa0 un151 sz144 r r h3095 (idx_lt hx3097 h3095) r r (.stOA (j := 0) (v' := r3091) sz144 (.s .z) hx3097 r r r (.t (.t .nil)) r r (.sub (E' := [(0, _), (1, _), (6, _), (7, .slice (some ⟨b3089, 0, none⟩) (s2661.set s2821.toNat r3091).length c2663), (8, _), (9, _), (10, _), (62, _), (63, .slice (some ⟨b3089, 0, none⟩) (s2661.set s2821.toNat r3091).length c2663), (64, _), (65, _), (66, .slice (some ⟨b3089, 0, none⟩) (s2661.set s2821.toNat r3091).length c2663), (67, _), (68, _), (69, _), (70, _), (71, _), (72, _)]) ⟨r, r, r, (by simp only [List.length_set]; rfl), r, r, r, r, (by simp only [List.length_set]; rfl), r, r, (by simp only [List.length_set]; rfl), r, r, r, r, r, r, trivial⟩ (.nilS [8, 7, 6, 1, 0] r r (.drop (.s (.s .z)) (.exitS [8, 7, 6, 1, 0] r r (.region (.ks 3 r (.nil' fun c w ho hs => ⟨(s2657, (s2661.set s2821.toNat r3091), w64 (s2665 + 1)), hd, I3079, _, _, _, _, le3081, ho.sub ⟨r, r, r, r, r, trivial⟩, hs.pick (.c .z (.c .z .n))⟩))))))))
   refine .skipS [10, 9, 8, 7, 6, 1, 0] r r (.sr (.ks 1 r (.build zv73 un73 BI73 .n (by exact trivial) r r (.buildSlice 1 un26 sz73 zv73 r r (.c r r r .n) r r fun b3104 => ?_))))
   obtain ⟨hl3106, hd⟩ := hd
   refine .append (ys := [({ From := 0, To := 0, W := 0 } : Edge)]) 24 (.s .z) un26 un26 IN73 r r r r r r r r r (.box .z (.one r) r) hl3106 r r fun p3107 c3108 => ?_
   refine .ks 1 r (.nilS [6, 10, 9, 8, 7, 1, 0] r r (.drop (.s .z) (.sr (.ks 1 r (.build zv144 un144 BI144 .n (by exact trivial) r r (.buildSlice 1 un151 sz144 zv144 r r (.c r r r .n) r r fun b3116 => ?_))))))
   obtain ⟨hl3118, hd⟩ := hd
   refine .append (ys := [({ Hi := 0, Lo := 0 } : Wide)]) 16 (.s (.s .z)) un151 un151 IN144 r r r r r r r r r (.box .z (.one r) r) hl3118 r r fun p3119 c3120 => ?_
   refine .ks 1 r (.nilS [7, 6, 10, 9, 8, 1, 0] r r (.drop (.s .z) (.seq (.sr (.ks 1 r (.len un26 r r r r (.ks 2 r (.nilS [11, 7, 6, 10, 9, 8, 1, 0] r r (.block ?_)))))))))
   refine .loop hd (fun (s : (List Edge) × (List Wide) × Int) c w => match s with | (s3281, s3285, s3289) => ∃ I_ p3282 c3283 p3286 c3287, IH.le I3079 I_ ∧ Ok ⟨145, [], none⟩ [(0, .int .i64 a0), (1, .slice p1 a1.length c2), (6, .slice p3282 s3281.length c3283), (7, .slice p3286 s3285.length c3287), (8, .int .i64 s2665), (9, .int .i64 s2821), (10, .pointer (some ⟨b2928, 0, none⟩)), (11, .int .i64 s3289)] c ∧ Sym w0 M I I_ [OwnSl eEdge 73 p3282 c3283 s3281, OwnSl eWide 144 p3286 c3287 s3285, pto b2928 (.cells #[.int .i64 r2924.Hi, .int .u64 r2924.Lo] 144 (0, 0))] w) (fun c w ho hs => ⟨I3079, _, _, _, _, (.refl _), ho.sub ⟨r, r, r, r, r, r, r, r, trivial⟩, hs.pick (.c (.s .z) (.c .z (.c .z .n)))⟩) ?_
   rintro ⟨s3281, s3285, s3289⟩ next3290 hd c w hst
   obtain ⟨I3291, p3282, c3283, p3286, c3287, hl3292, hok, hsym⟩ := hst
   have le3293 := IH.le.trans le3081 hl3292
   have le3294 := IH.le.trans le3082 hl3292
   have le3295 := IH.le.trans hl3080 hl3292
   replace R3 := R3.mono hl3292
   refine Cod.at hok hsym (.seq (.sr (.ks 3 r (.nilS [86, 11, 10, 9, 8, 7, 6, 1, 0] r r (.condP r hd (fun hb3297 hd => ?_) fun hb3297 hd => ?_)))))
   · refine .skipS [11, 10, 9, 8, 7, 6, 1, 0] r r (.seq (.block (.sr (.ks 5 r ?_))))
     obtain ⟨h3298, x3299, hx3300, hd⟩ := hd
     refine .ownNe .z (idx_ne hx3300) fun b3301 e3302 => ?_
     cases e3302
     refine .ixa0 un26 sz73 r r h3298 (idx_lt hx3300 h3298) r r (.loA (j := 0) ia73 sz73 .z hx3300 r r (.t (.t (.t .nil))) r r r ?_)
     obtain ⟨h3303, x3304, hx3305, hd⟩ := hd
     refine .ixa0 un26 sz73 r r h3303 (idx_lt hx3305 h3303) r r (.stOA (j := 0) (v' := x3299) sz73 .z hx3305 r r r (.t (.t (.t .nil))) r r (.sub (E' := [(0, _), (1, _), (6, .slice (some ⟨b3301, 0, none⟩) (s3281.set s3289.toNat x3299).length c3283), (7, _), (8, _), (9, _), (10, _), (11, _), (89, .slice (some ⟨b3301, 0, none⟩) (s3281.set s3289.toNat x3299).length c3283), (90, _), (91, .slice (some ⟨b3301, 0, none⟩) (s3281.set s3289.toNat x3299).length c3283), (92, _), (93, _), (94, _), (95, _), (96, _)]) ⟨r, r, (by simp only [List.length_set]; rfl), r, r, r, r, r, (by simp only [List.length_set]; rfl), r, (by simp only [List.length_set]; rfl), r, r, r, r, r, trivial⟩ (.nilS [11, 10, 9, 8, 7, 6, 1, 0] r r (.region (.ks 5 r ?_)))))
     obtain ⟨h3306, x3307, hx3308, hd⟩ := hd
     refine .ownNe (.s .z) (idx_ne hx3308) fun b3309 e3310 => ?_
     cases e3310
     refine .ixa0 un151 sz144 r r h3306 (idx_lt hx3308 h3306) r r (.loA (j := 0) ia144 sz144 (.s .z) hx3308 r r (.t (.t .nil)) r r r ?_)
     obtain ⟨h3311, x3312, hx3313, hd⟩ := hd
     exact .ixa0 un151 sz144 r r h3311 (idx_lt hx3313 h3311) r r (.stOA (j := 0) (v' := x3307) sz144 (.s .z) hx3313 r r r (.t (.t .nil)) r r (.sub (E' := [(0, _), (1, _), (6, _), (7, .slice (some ⟨b3309, 0, none⟩) (s3285.set s3289.toNat x3307).length c3287), (8, _), (9, _), (10, _), (11, _), (97, .slice (some ⟨b3309, 0, none⟩) (s3285.set s3289.toNat x3307).length c3287), (98, _), (99, .slice (some ⟨b3309, 0, none⟩) (s3285.set s3289.toNat x3307).length c3287), (100, _), (101, _), (102, _), (103, _), (104, _)]) ⟨r, r, r, (by simp only [List.length_set]; rfl), r, r, r, r, (by simp only [List.length_set]; rfl), r, (by simp only [List.length_set]; rfl), r, r, r, r, r, trivial⟩ (.nilS [11, 10, 9, 8, 7, 6, 1, 0] r r (.region (.ks 3 r (.nil' fun c w ho hs => ⟨((s3281.set s3289.toNat x3299), (s3285.set s3289.toNat x3307), w64 (s3289 - 1)), hd, I3291, _, _, _, _, hl3292, ho.sub ⟨r, r, r, r, r, r, r, r, trivial⟩, hs.pick (.c .z (.c .z (.c .z .n)))⟩))))))
   refine .exitS [10, 9, 8, 7, 6, 1, 0] r r (.seq (.ownF .z fun hne3314 => ?_))
   refine .ownF (.s .z) fun hne3315 => ?_
   refine .dr [0, 1, 2, 3, 4, 5, 6, 7, 8, 9, 10, 11, 12] 13 (.fk 4 r ?_)
   obtain ⟨h3316, x3317, hx3318, hd⟩ := hd
   obtain ⟨b3319, o3320, cs3321, e3322, hC3323, hr3324⟩ := R3.2 _ _ hx3318
   cases hr3324
   refine .g r r r (fun _ => .ixa un26 sz73 r e3322 r h3316 (idx_lt hx3318 h3316) r r .mk) (.g r r r (fun _ => .fa un73 r sz3 r (o := o3320 + s2665.toNat * 3) r r r .mk) (.g r r r (fun _ => .ld1 (j := 0) ia3 hC3323 r r r r r .mk) (.fk 2 r ?_)))
   obtain ⟨h3325, x3326, hx3327, hd⟩ := hd
   obtain ⟨b3328, o3329, cs3330, e3331, hC3332, hr3333⟩ := R3.2 _ _ hx3327
   cases hr3333
   refine .g r r r (fun _ => .ixa un26 sz73 r e3331 r h3325 (idx_lt hx3327 h3325) r r .mk) (.g r r r (fun _ => .fa un73 r sz3 r (o := o3329 + s2665.toNat * 3 + 1) r r r .mk) (.g r r r (fun _ => .ld1 (j := 1) ia3 hC3332 r r r r r .mk) (.g r r r (fun _ => .build zv73 un73 BI73 (.c r r r (.t .nil) (.c r r r (.s (.t .nil)) .n)) (by exact ⟨⟨_, _, r, r, r⟩, ⟨⟨_, _, r, r, r⟩, trivial⟩⟩) r r .mk) (.e2 13 ?_))))
   obtain ⟨h3334, x3335, hx3336, hd⟩ := hd
   obtain ⟨b3337, e3338⟩ := hne3314 (idx_ne hx3336)
   cases e3338
   refine .ixa0 un26 sz73 r r h3334 (idx_lt hx3336 h3334) r r (.stOA (j := 0) (v' := ({ From := x3317.From, To := x3326.To, W := 0 } : Edge)) sz73 .z hx3336 r r r (.t (.t (.t .nil))) r r (.sub (E' := [(0, _), (1, _), (6, .slice (some ⟨b3337, 0, none⟩) (s3281.set s2821.toNat ({ From := x3317.From, To := x3326.To, W := 0 } : Edge)).length c3283), (7, _), (8, _), (9, _), (10, _), (105, .slice (some ⟨b3337, 0, none⟩) (s3281.set s2821.toNat ({ From := x3317.From, To := x3326.To, W := 0 } : Edge)).length c3283), (106, _), (107, _), (108, _), (109, _), (110, _), (111, _), (112, _), (113, _), (114, _), (115, _), (116, _), (117, _), (118, _)]) ⟨r, r, (by simp only [List.length_set]; rfl), r, r, r, r, (by simp only [List.length_set]; rfl), r, r, r, r, r, r, r, r, r, r, r, r, r, trivial⟩ (.nilS [10, 9, 8, 7, 6, 1, 0] r r (.region (.ks 2 r (.loadW ia144 sz144 r (.s (.s .z)) r r r ?_))))))
   obtain ⟨h3339, x3340, hx3341, hd⟩ := hd
   obtain ⟨b3342, e3343⟩ := hne3315 (idx_ne hx3341)
   cases e3343
   exact .ixa0 un151 sz144 r r h3339 (idx_lt hx3341 h3339) r r (.stOA (j := 0) (v' := r2924) sz144 (.s .z) hx3341 r r r (.t (.t .nil)) r r (.sub (E' := [(0, _), (1, _), (6, _), (7, .slice (some ⟨b3342, 0, none⟩) (s3285.set s2821.toNat r2924).length c3287), (8, _), (9, _), (10, _), (119, .slice (some ⟨b3342, 0, none⟩) (s3285.set s2821.toNat r2924).length c3287), (120, _), (121, _), (122, _)]) ⟨r, r, r, (by simp only [List.length_set]; rfl), r, r, r, (by simp only [List.length_set]; rfl), r, r, r, trivial⟩ (.nilS [8, 7, 6, 1, 0] r r (.drop (.s (.s .z)) (.region (.ks 3 r (.nil' fun c w ho hs => ⟨((s3281.set s2821.toNat ({ From := x3317.From, To := x3326.To, W := 0 } : Edge)), (s3285.set s2821.toNat r2924), w64 (s2665 + 1)), hd, I3291, _, _, _, _, le3293, ho.sub ⟨r, r, r, r, r, trivial⟩, hs.pick (.c .z (.c .z .n))⟩)))))))
 refine .exitS [7, 6] r r (.seq (.sr (.ks 1 r (.nilS [12, 7, 6] r r (.block (.loop hd (fun (s : (List Edge) × Int) c w => match s with | (s3411, s3415) => ∃ I_ p3412 c3413, IH.le I2669 I_ ∧ Ok ⟨145, [], none⟩ [(6, .slice p3412 s3411.length c3413), (7, .slice p2662 s2661.length c2663), (12, .int .i64 s3415)] c ∧ Sym w0 M I I_ [OwnSl eEdge 73 p3412 c3413 s3411, OwnSl eWide 144 p2662 c2663 s2661] w) (fun c w ho hs => ⟨I2669, _, _, (.refl _), ho.sub ⟨r, r, r, trivial⟩, hs.pick (.c .z (.c .z .n))⟩) ?_))))))
 rintro ⟨s3411, s3415⟩ next3416 hd c w hst
 obtain ⟨I3417, p3412, c3413, hl3418, hok, hsym⟩ := hst
 have le3419 := IH.le.trans hl2670 hl3418
 refine Cod.at hok hsym (.seq (.sr (.ks 2 r (.len un26 r r r r (.ks 1 r (.nilS [126, 12, 7, 6] r r (.condP r hd (fun hb3421 hd => ?_) fun hb3421 hd => ?_)))))))
 · refine .skipS [12, 7, 6] r r (.seq (.block (.sr (.ks 2 r ?_))))
   obtain ⟨h3431, x3432, hx3433, hd⟩ := hd
   refine .ownNe (.s .z) (idx_ne hx3433) fun b3434 e3435 => ?_
   cases e3435
   refine .ixa0 un151 sz144 r r h3431 (idx_lt hx3433 h3431) r r (.loA (j := 0) ia144 sz144 (.s .z) hx3433 r r (.t (.t .nil)) r r r ?_)
   have hw3437 := W_ref01_Narrow (I := I3417) hd
   refine .callP call135 r hw3437 r r fun v3438 hv3439 => ?_
   obtain ⟨r3436, rfl, hd⟩ := hv3439
   refine .ks 5 r (.nilS [14, 13, 12, 7, 6] r r (.seq (.sr (.ks 2 r (.nilS [138, 13, 12, 7, 6] r r (.condP r hd (fun hb3440 hd => ?_) fun hb3440 hd => ?_))))))
   · exact .sr (.ks 2 r (.nilS [5, 4] r r (.drop .z (.drop .z (.own0 eEdge 73 (.ret (oret results116 (.t r (.t r .n)) le3419 (.c .z .n) ⟨(([] : List Edge), 12), _, _, r, r, hd⟩)))))))
   refine .skipS [13, 12, 7, 6] r r (.region (.ks 3 r ?_))
   obtain ⟨h3442, x3443, hx3444, hd⟩ := hd
   refine .ownNe .z (idx_ne hx3444) fun b3445 e3446 => ?_
   cases e3446
   exact .ixa0 un26 sz73 r r h3442 (idx_lt hx3444 h3442) r r (.fa un73 r sz2 r (o := s3415.toNat * 3 + 2) r r r (.stO1 (j := 2) (v' := ({ From := x3443.From, To := x3443.To, W := r3436.1 } : Edge)) sz2 .z hx3444 r r r (.s (.s (.t .nil))) r (.sub (E' := [(6, .slice (some ⟨b3445, 0, none⟩) (s3411.set s3415.toNat ({ From := x3443.From, To := x3443.To, W := r3436.1 } : Edge)).length c3413), (7, _), (12, _), (13, _), (139, .slice (some ⟨b3445, 0, none⟩) (s3411.set s3415.toNat ({ From := x3443.From, To := x3443.To, W := r3436.1 } : Edge)).length c3413), (140, _), (141, _), (142, _), (143, _)]) ⟨(by simp only [List.length_set]; rfl), r, r, r, (by simp only [List.length_set]; rfl), r, r, r, r, trivial⟩ (.nilS [12, 7, 6] r r (.region (.ks 3 r (.nil' fun c w ho hs => ⟨((s3411.set s3415.toNat ({ From := x3443.From, To := x3443.To, W := r3436.1 } : Edge)), w64 (s3415 + 1)), hd, I3417, _, _, hl3418, ho.sub ⟨r, r, r, trivial⟩, hs.pick (.c .z (.c .z .n))⟩)))))))
 exact .exitS [6] r r (.drop (.s .z) (.sr (.ks 3 r (.nilS [5, 4] r r (.ret (oret results116 (.t r (.t r .n)) le3419 (.c .z .n) ⟨(s3411, 0), _, _, r, r, hd⟩))))))

theorem W_law21_Within {I : IH} {a0 : Int} {a1 : Int} {Q : Int → Prop}  (hd : law21_Within a0 a1 Q) :
  PFun prog 29 [.int .i64 a0, .int .i64 a1] I (fun _ => o1_ Q) := by
 refine Fun.enter func29 r ntmps29 r (.c (.c .n)) fun w0 M => ?_
 refine .sr (.ks 1 r (.nilS [1, 0] r r (.seq (.sr (.ks 3 r ?_)))))
 refine splitP hd (fun hb1 hd => ?_) fun hb1 hd => ?_
 · rw [hb1]
   exact .ks 3 r (.nilS [10, 1, 0] r r (.condKT r r (.sr (.ks 1 r (.nilS [4] r r (.ret (pret results29 (.t r .n) (.refl _) ⟨0, r, hd⟩)))))))
 rw [hb1]
 refine .ks 3 r (.nilS [10, 1, 0] r r (.condP r hd (fun hb2 hd => ?_) fun hb2 hd => ?_))
 · exact .sr (.ks 1 r (.nilS [4] r r (.ret (pret results29 (.t r .n) (.refl _) ⟨0, r, hd⟩))))
 refine .skipS [1, 0] r r (.sr (.ks 2 r ?_))
 obtain ⟨hz3, hd⟩ := hd
 exact .rem r r hz3 r r (.ks 1 r (.nilS [4] r r (.ret (pret results29 (.t r .n) (.refl _) ⟨(a0.tmod a1), r, hd⟩))))

theorem W_law21_Plan {I : IH} {a0 : Plan} {a1 : Int} {p1 : Option Addr} {c2 : Nat} {Q : Plan → Prop} (R3 : RepSl eI64 I p1 c2 a0.Draws) (hd : law21_Plan a0 a1 Q) :
  PFun prog 17 [.agg #[.int .i64 a0.Kind, .int .i64 a0.N, .int .i64 a0.Source, .int .i64 a0.Length, .slice p1 a0.Draws.length c2], .int .i64 a1] I (fun I_ v => ∃ r p4 c5, v = .agg #[.int .i64 r.Kind, .int .i64 r.N, .int .i64 r.Source, .int .i64 r.Length, .slice p4 r.Draws.length c5] ∧ RepSl eI64 I_ p4 c5 r.Draws ∧ Q r) := by
 refine Fun.enter func17 r ntmps17 r (.c (.c .n)) fun w0 M => ?_
 refine .sr (.boxA r r r fun b11 => ?_)
 refine .allocA zeroValue25 r r fun b13 => ?_
 refine .nilS [4, 2, 1] r r (.seq ?_)
 refine Cod.joinQ (σ := Int) hd (fun (s19 : Int) c w => ∃ I_, IH.le I I_ ∧ Ok ⟨58, [], none⟩ [(1, .int .i64 a1), (2, .pointer (some ⟨b11, 0, none⟩)), (4, .pointer (some ⟨b13, 0, none⟩))] c ∧ Sym w0 M I I_ [pto b11 (.cells #[.int .i64 s19, .int .i64 a0.N, .int .i64 a0.Source, .int .i64 a0.Length, .slice p1 a0.Draws.length c2] 25 (0, 0)), pto b13 (.cells #[.int .i64 0, .int .i64 0, .int .i64 0, .int .i64 0, .slice none 0 0] 25 (0, 0))] w) (fun k20 hd => ?_) ?_
 · skip
   refine .sr (.fa un25 r sz22 r (o := 0) r r r (.load1 ia22 r (.s .z) r r r (.ks 2 r ?_)))
   refine splitP hd (fun hb21 hd => ?_) fun hb21 hd => ?_
   · rw [hb21]
     exact .ks 4 r (.nilS [14, 4, 2, 1] r r (.condKT r r (.region (.fa un25 r sz22 r (o := 0) r r r (.store1 sz22 r r (.s .z) (.t .nil) r (.nil' fun c w ho hs => ⟨3, hd, I, (.refl _), ho.sub ⟨r, r, r, trivial⟩, hs.pick (.c (.s .z) (.c .z .n))⟩))))))
   rw [hb21]
   refine .gyes r r r (.fa un25 r sz22 r (o := 0) r r r (.gyes r r r (.load1 ia22 r (.s .z) r r r (.ks 2 r (.nilS [14, 4, 2, 1] r r (.condP r hd (fun hb22 hd => ?_) fun hb22 hd => ?_))))))
   · exact .region (.fa un25 r sz22 r (o := 0) r r r (.store1 sz22 r r (.s .z) (.t .nil) r (.nil' fun c w ho hs => ⟨3, hd, I, (.refl _), ho.sub ⟨r, r, r, trivial⟩, hs.pick (.c (.s .z) (.c .z .n))⟩)))
   exact .skip' fun c w ho hs => ⟨a0.Kind, hd, I, (.refl _), ho.sub ⟨r, r, r, trivial⟩, hs.pick (.c (.s .z) (.c .z .n))⟩
 rintro s19 hd c w hst
 obtain ⟨I23, hl24, hok, hsym⟩ := hst
 replace R3 := R3.mono hl24
 refine Cod.at hok hsym (.sr (.ks 1 r (.fa un25 r sz3 r (o := 1) r r r (.store1 sz3 r r .z (.s (.t .nil)) r (.nilS [4, 2, 1] r r (.sr (.fa un25 r sz3 r (o := 2) r r r (.load1 ia3 r .z r r r (.ks 1 r ?_)))))))))
 have hw30 := W_law21_Within (I := I23) hd
 refine .callP call29 r hw30 r r fun v31 hv32 => ?_
 obtain ⟨r29, rfl, hd⟩ := hv32
 refine .fa un25 r sz3 r (o := 2) r r r (.store1 sz3 r r .z (.s (.s (.t .nil))) r (.nilS [4, 2, 1] r r (.sr (.fa un25 r sz3 r (o := 3) r r r (.load1 ia3 r .z r r r ?_)))))
 have hw38 := W_law21_Within (I := I23) hd
 refine .callP call29 r hw38 r r fun v39 hv40 => ?_
 obtain ⟨r37, rfl, hd⟩ := hv40
 refine .fa un25 r sz3 r (o := 3) r r r (.store1 sz3 r r .z (.s (.s (.s (.t .nil)))) r (.nilS [4, 2, 1] r r (.sr (.ks 1 r (.nilS [5, 4, 2, 1] r r (.seq ?_))))))
 refine Cod.joinQ (σ := (List Int)) hd (fun (s203 : (List Int)) c w => ∃ I_ p204 c205, IH.le I23 I_ ∧ Ok ⟨58, [], none⟩ [(1, .int .i64 a1), (2, .pointer (some ⟨b11, 0, none⟩)), (4, .pointer (some ⟨b13, 0, none⟩)), (5, .slice p204 s203.length c205)] c ∧ Sym w0 M I I_ [pto b11 (.cells #[.int .i64 s19, .int .i64 a1, .int .i64 r29, .int .i64 r37, .slice p1 a0.Draws.length c2] 25 (0, 0)), pto b13 (.cells #[.int .i64 0, .int .i64 0, .int .i64 0, .int .i64 0, .slice none 0 0] 25 (0, 0)), OwnSl eI64 2 p204 c205 s203] w) (fun k207 hd => ?_) ?_
 · skip
   refine .sr (.ks 1 r (.nilS [6, 5, 4, 2, 1] r r (.block (.own0 eI64 2 (.loop hd (fun (s : (List Int) × Int) c w => match s with | (s260, s264) => ∃ I_ p261 c262, IH.le I23 I_ ∧ Ok ⟨58, [], none⟩ [(1, .int .i64 a1), (2, .pointer (some ⟨b11, 0, none⟩)), (4, .pointer (some ⟨b13, 0, none⟩)), (5, .slice p261 s260.length c262), (6, .int .i64 s264)] c ∧ Sym w0 M I I_ [pto b11 (.cells #[.int .i64 s19, .int .i64 a1, .int .i64 r29, .int .i64 r37, .slice p1 a0.Draws.length c2] 25 (0, 0)), pto b13 (.cells #[.int .i64 0, .int .i64 0, .int .i64 0, .int .i64 0, .slice none 0 0] 25 (0, 0)), OwnSl eI64 2 p261 c262 s260] w) (fun c w ho hs => ⟨I23, _, _, (.refl _), ho.sub ⟨r, r, r, r, r, trivial⟩, hs.pick (.c (.s .z) (.c (.s .z) (.c .z .n)))⟩) ?_)))))
   rintro ⟨s260, s264⟩ next266 hd c w hst
   obtain ⟨I267, p261, c262, hl268, hok, hsym⟩ := hst
   have le269 := IH.le.trans hl24 hl268
   replace R3 := R3.mono hl268
   refine Cod.at hok hsym (.seq (.sr (.ks 1 r (.fa un25 r sz23 r (o := 4) r r r (.load1 ia23 r .z r r r (.len un23 r r r r (.ks 2 r ?_)))))))
   refine splitP hd (fun hb272 hd => ?_) fun hb272 hd => ?_
   · rw [hb272]
     refine .ks 3 r (.nilS [35, 6, 5, 4, 2, 1] r r (.condP r hd (fun hb273 hd => ?_) fun hb273 hd => ?_))
     · refine .skipS [6, 5, 4, 2, 1] r r (.seq (.block (.region (.ks 1 r (.fa un25 r sz23 r (o := 4) r r r (.load1 ia23 r .z r r r (.ks 1 r ?_)))))))
       obtain ⟨h274, x275, hx276, hd⟩ := hd
       obtain ⟨b277, o278, cs279, e280, hC281, hr282⟩ := R3.2 _ _ hx276
       cases hr282
       refine .ixa un23 sz2 r e280 r h274 (idx_lt hx276 h274) r r (.ld1 (j := 0) ia2 hC281 r r r r r (.ks 1 r (.buildSlice 1 un23 sz2 zv2 r r (.c r r r .n) r r fun b283 => ?_)))
       obtain ⟨hl285, hd⟩ := hd
       refine .append (ys := [bnd .i64 x275 2147483647]) 8 (.s (.s (.s .z))) un23 un23 IN2 r r r r r r r r r (.box .z (.one r) r) hl285 r r fun p286 c287 => ?_
       exact .ks 1 r (.nilS [5, 6, 4, 2, 1] r r (.drop (.s .z) (.region (.ks 3 r (.nil' fun c w ho hs => ⟨((s260 ++ ([bnd .i64 x275 2147483647])), w64 (s264 + 1)), hd, I267, _, _, hl268, ho.sub ⟨r, r, r, r, r, trivial⟩, hs.pick (.c (.s .z) (.c (.s .z) (.c .z .n)))⟩)))))
     exact .exit fun c w ho hs => ⟨s260, hd, I267, _, _, hl268, ho.sub ⟨r, r, r, r, trivial⟩, hs.pick (.c .z (.c .z (.c .z .n)))⟩
   rw [hb272]
   exact .ks 3 r (.nilS [35, 6, 5, 4, 2, 1] r r (.condKF r r (.exit fun c w ho hs => ⟨s260, hd, I267, _, _, hl268, ho.sub ⟨r, r, r, r, trivial⟩, hs.pick (.c .z (.c .z (.c .z .n)))⟩)))
 rintro s203 hd c w hst
 obtain ⟨I289, p204, c205, hl290, hok, hsym⟩ := hst
 have le291 := IH.le.trans hl24 hl290
 replace R3 := R3.mono hl290
 refine Cod.at hok hsym (.sr (.ks 1 r (.fa un25 r sz23 r (o := 4) r r r (.store1 sz23 r r .z (.s (.s (.s (.s (.t .nil))))) r (.nilS [4, 2, 1] r r (.seq (.sr (.ks 3 r ?_))))))))
 refine splitP hd (fun hb292 hd => ?_) fun hb292 hd => ?_
 · rw [hb292]
   refine .gyes r r r (.fa un25 r sz22 r (o := 0) r r r (.gyes r r r (.load1 ia22 r .z r r r (.ks 2 r (.nilS [55, 4, 2] r r (.condP r hd (fun hb293 hd => ?_) fun hb293 hd => ?_))))))
   · refine .region (.fa un25 r sz22 r (o := 0) r r r (.store1 sz22 r r .z (.t .nil) r (.nilS [4, 2] r r (.sr (.loadW ia25 sz25 r .z r r r (.storeA sz25 r r (.s .z) (.t (.t (.t (.t (.t .nil))))) r r (.nilS [4] r r (.drop .z (.pub (.s .z) fun I294 hl295 R296 => ?_)))))))))
     have le297 := IH.le.trans le291 hl295
     have le298 := IH.le.trans hl290 hl295
     exact .ret (pret results17 (.w ia25 sz25 r .z r .n) le297 ⟨({ Kind := 3, N := a1, Source := r29, Length := r37, Draws := s203 } : Plan), _, _, r, R296, hd⟩)
   refine .skipS [4, 2] r r (.sr (.loadW ia25 sz25 r .z r r r (.storeA sz25 r r (.s .z) (.t (.t (.t (.t (.t .nil))))) r r (.nilS [4] r r (.drop .z (.pub (.s .z) fun I299 hl300 R301 => ?_))))))
   have le302 := IH.le.trans le291 hl300
   have le303 := IH.le.trans hl290 hl300
   exact .ret (pret results17 (.w ia25 sz25 r .z r .n) le302 ⟨({ Kind := s19, N := a1, Source := r29, Length := r37, Draws := s203 } : Plan), _, _, r, R301, hd⟩)
 rw [hb292]
 refine .ks 4 r (.nilS [55, 4, 2] r r (.condKF r r (.skipS [4, 2] r r (.sr (.loadW ia25 sz25 r .z r r r (.storeA sz25 r r (.s .z) (.t (.t (.t (.t (.t .nil))))) r r (.nilS [4] r r (.drop .z (.pub (.s .z) fun I304 hl305 R306 => ?_)))))))))
 have le307 := IH.le.trans le291 hl305
 have le308 := IH.le.trans hl290 hl305
 exact .ret (pret results17 (.w ia25 sz25 r .z r .n) le307 ⟨({ Kind := s19, N := a1, Source := r29, Length := r37, Draws := s203 } : Plan), _, _, r, R306, hd⟩)

theorem W_ref09_Of {I : IH} {a0 : Int} {a1 : Int} {a2 : List Item} {p1 : Option Addr} {c2 : Nat} {Q : (Vec × Int) → Prop} (R3 : RepSl eItem I p1 c2 a2) (hd : ref09_Of a0 a1 a2 Q) :
  PFun prog 97 [.int .i64 a0, .int .i64 a1, .slice p1 a2.length c2] I (o17_ Q) := by
 refine Fun.enter func97 r ntmps97 r (.c (.c (.c .n))) fun w0 M => ?_
 refine .sr (.allocA zv51 r r fun b9 => ?_)
 refine .ks 1 r (.nilS [6, 2, 1, 0] r r (.seq (.sr (.ks 1 r ?_))))
 have hw17 := W_ref02_Is (I := I) hd
 refine .callP call120 r hw17 r r fun v18 hv19 => ?_
 obtain ⟨r16, rfl, hd⟩ := hv19
 refine .ks 1 r (.nilS [15, 6, 2, 1, 0] r r (.condP r hd (fun hb20 hd => ?_) fun hb20 hd => ?_))
 · exact .sr (.build zv51 un51 BI51 .n (by exact trivial) r r (.storeA sz51 r r .z (.t (.t .nil)) r r (.ks 1 r (.nilS [7, 6] r r (.ret (pret results97 (.w ia51 sz51 r .z r (.t r .n)) (.refl _) ⟨(({ N := 0, Items := ([] : List Item) } : Vec), 8), _, _, r, (.nil _ _ _), hd⟩))))))
 refine .skipS [6, 2, 1, 0] r r (.seq (.sr (.ks 3 r ?_)))
 refine splitP hd (fun hb23 hd => ?_) fun hb23 hd => ?_
 · rw [hb23]
   exact .ks 3 r (.nilS [22, 6, 2, 1, 0] r r (.condKT r r (.sr (.build zv51 un51 BI51 .n (by exact trivial) r r (.storeA sz51 r r .z (.t (.t .nil)) r r (.ks 1 r (.nilS [7, 6] r r (.ret (pret results97 (.w ia51 sz51 r .z r (.t r .n)) (.refl _) ⟨(({ N := 0, Items := ([] : List Item) } : Vec), 3), _, _, r, (.nil _ _ _), hd⟩)))))))))
 rw [hb23]
 refine .ks 3 r (.nilS [22, 6, 2, 1, 0] r r (.condP r hd (fun hb24 hd => ?_) fun hb24 hd => ?_))
 · exact .sr (.build zv51 un51 BI51 .n (by exact trivial) r r (.storeA sz51 r r .z (.t (.t .nil)) r r (.ks 1 r (.nilS [7, 6] r r (.ret (pret results97 (.w ia51 sz51 r .z r (.t r .n)) (.refl _) ⟨(({ N := 0, Items := ([] : List Item) } : Vec), 3), _, _, r, (.nil _ _ _), hd⟩))))))
 refine .skipS [6, 2, 1, 0] r r (.sr (.ks 1 r (.nilS [8, 6, 2, 1, 0] r r (.seq (.sr (.ks 1 r (.nilS [9, 8, 6, 2, 1, 0] r r (.block (.own0 eEdge 73 ?_)))))))))
 refine .loop hd (fun (s : (List Edge) × Int) c w => match s with | (s399, s403) => ∃ I_ p400 c401, IH.le I I_ ∧ Ok ⟨95, [], none⟩ [(0, .int .i64 a0), (1, .int .i64 a1), (2, .slice p1 a2.length c2), (6, .pointer (some ⟨b9, 0, none⟩)), (8, .slice p400 s399.length c401), (9, .int .i64 s403)] c ∧ Sym w0 M I I_ [pto b9 (.cells #[.int .i64 0, .slice none 0 0] 51 (0, 0)), OwnSl eEdge 73 p400 c401 s399] w) (fun c w ho hs => ⟨I, _, _, (.refl _), ho.sub ⟨r, r, r, r, r, r, trivial⟩, hs.pick (.c (.s .z) (.c .z .n))⟩) ?_
 rintro ⟨s399, s403⟩ next405 hd c w hst
 obtain ⟨I406, p400, c401, hl407, hok, hsym⟩ := hst
 replace R3 := R3.mono hl407
 refine Cod.at hok hsym (.seq (.sr (.ks 2 r (.len un49 r r r r (.ks 1 r (.nilS [27, 9, 8, 6, 2, 1, 0] r r (.condP r hd (fun hb409 hd => ?_) fun hb409 hd => ?_)))))))
 · refine .skipS [9, 8, 6, 2, 1, 0] r r (.seq (.block (.seq (.sr (.ks 2 r ?_)))))
   obtain ⟨h430, x431, hx432, hd⟩ := hd
   obtain ⟨b433, o434, cs435, e436, hC437, hr438⟩ := R3.2 _ _ hx432
   cases hr438
   refine .ixa un49 sz71 r e436 r h430 (idx_lt hx432 h430) r r (.fa un71 r sz3 r (o := o434 + s403.toNat * 2) r r r (.ld1 (j := 0) ia3 hC437 r r r r r (.ks 2 r ?_)))
   refine splitP hd (fun hb439 hd => ?_) fun hb439 hd => ?_
   · rw [hb439]
     exact .ks 8 r (.nilS [44, 9, 8, 6, 2, 1, 0] r r (.condKT r r (.sr (.build zv51 un51 BI51 .n (by exact trivial) r r (.storeA sz51 r r .z (.t (.t .nil)) r r (.ks 1 r (.nilS [7, 6] r r (.drop (.s .z) (.ret (pret results97 (.w ia51 sz51 r .z r (.t r .n)) hl407 ⟨(({ N := 0, Items := ([] : List Item) } : Vec), 3), _, _, r, (.nil _ _ _), hd⟩))))))))))
   rw [hb439]
   refine .ks 2 r ?_
   obtain ⟨h440, x441, hx442, hd⟩ := hd
   obtain ⟨b443, o444, cs445, e446, hC447, hr448⟩ := R3.2 _ _ hx442
   cases hr448
   refine .gyes r r r (.ixa un49 sz71 r e446 r h440 (idx_lt hx442 h440) r r (.gyes r r r (.fa un71 r sz3 r (o := o444 + s403.toNat * 2) r r r (.gyes r r r (.ld1 (j := 0) ia3 hC447 r r r r r (.ks 3 r (.nilS [44, 9, 8, 6, 2, 1, 0] r r (.condP r hd (fun hb449 hd => ?_) fun hb449 hd => ?_))))))))
   · exact .sr (.build zv51 un51 BI51 .n (by exact trivial) r r (.storeA sz51 r r .z (.t (.t .nil)) r r (.ks 1 r (.nilS [7, 6] r r (.drop (.s .z) (.ret (pret results97 (.w ia51 sz51 r .z r (.t r .n)) hl407 ⟨(({ N := 0, Items := ([] : List Item) } : Vec), 3), _, _, r, (.nil _ _ _), hd⟩)))))))
   refine .skipS [9, 8, 6, 2, 1, 0] r r (.ownF (.s .z) fun hne450 => ?_)
   refine .dr [0, 1, 2, 3, 4, 5, 6, 7, 8, 9, 10, 11, 12, 13] 14 (.fk 3 r ?_)
   obtain ⟨h451, x452, hx453, hd⟩ := hd
   obtain ⟨b454, o455, cs456, e457, hC458, hr459⟩ := R3.2 _ _ hx453
   cases hr459
   refine .g r r r (fun _ => .ixa un49 sz71 r e457 r h451 (idx_lt hx453 h451) r r .mk) (.g r r r (fun _ => .fa un71 r sz3 r (o := o455 + s403.toNat * 2) r r r .mk) (.g r r r (fun _ => .ld1 (j := 0) ia3 hC458 r r r r r .mk) (.fk 2 r ?_)))
   obtain ⟨h460, x461, hx462, hd⟩ := hd
   obtain ⟨b463, o464, cs465, e466, hC467, hr468⟩ := R3.2 _ _ hx462
   cases hr468
   refine .g r r r (fun _ => .ixa un49 sz71 r e466 r h460 (idx_lt hx462 h460) r r .mk) (.g r r r (fun _ => .fa un71 r sz2 r (o := o464 + s403.toNat * 2 + 1) r r r .mk) (.g r r r (fun _ => .ld1 (j := 1) ia2 hC467 r r r r r .mk) (.g r r r (fun _ => .build zv73 un73 BI73 (.c r r r (.s (.t .nil)) (.c r r r (.s (.s (.t .nil))) .n)) (by exact ⟨⟨_, _, r, r, r⟩, ⟨⟨_, _, r, r, r⟩, trivial⟩⟩) r r .mk) (.ww r fun ex => ?_))))
   refine .buildSlice 1 un26 sz73 zv73 r r (.c r r r .n) r r fun b469 => ?_
   refine .so 3 r r r (.ck 1 r r trivial) (.ww r fun ex => ?_)
   obtain ⟨hl471, hd⟩ := hd
   refine .append (ys := [({ From := 0, To := x452.At, W := x461.Val } : Edge)]) 24 (.s (.s .z)) un26 un26 IN73 r r r r r r r r r (.box .z (.one r) r) hl471 r r fun p472 c473 => ?_
   exact .so 3 r r r trivial (.e2 14 (.ks 1 r (.nilS [8, 9, 6, 2, 1, 0] r r (.drop (.s .z) (.region (.ks 3 r (.nil' fun c w ho hs => ⟨((s399 ++ ([({ From := 0, To := x452.At, W := x461.Val } : Edge)])), w64 (s403 + 1)), hd, I406, _, _, hl407, ho.sub ⟨r, r, r, r, r, r, trivial⟩, hs.pick (.c (.s .z) (.c .z .n))⟩)))))))
 refine .exitS [8, 6, 1, 0] r r (.sr (.ks 2 r (.pub (.s .z) fun I491 hl492 R493 => ?_)))
 have le494 := IH.le.trans hl407 hl492
 have hw505 := W_ref05_Combine (I := I491) R493 hd
 refine .callO call116 r hw505 r r fun v499 I496 l500 hl497 hv498 => ?_
 obtain ⟨r495, p501, c502, rfl, rfl, hd⟩ := hv498
 have le506 := IH.le.trans le494 hl497
 replace R493 := R493.mono hl497
 refine .ks 5 r (.nilS [10, 8, 6, 1] r r (.seq (.sr (.ks 2 r (.nilS [67, 10, 8, 6, 1] r r (.condP r hd (fun hb508 hd => ?_) fun hb508 hd => ?_))))))
 · exact .sr (.build zv51 un51 BI51 .n (by exact trivial) r r (.ks 1 r (.storeA sz51 r r (.s .z) (.t (.t .nil)) r r (.ks 1 r (.nilS [7, 6] r r (.drop .z (.ret (pret results97 (.w ia51 sz51 r .z r (.t r .n)) le506 ⟨(({ N := 0, Items := ([] : List Item) } : Vec), r495.2), _, _, r, (.nil _ _ _), hd⟩))))))))
 refine .skipS [8, 6, 1] r r (.sr (.ks 1 r (.build zv51 un51 BI51 (.c r r r (.t .nil) .n) (by exact ⟨⟨_, _, r, r, r⟩, trivial⟩) r r (.allocA zv51 r r fun b511 => ?_))))
 refine .storeA sz51 r r .z (.t (.t .nil)) r r (.nilS [11, 8, 6] r r (.seq (.sr (.ks 1 r (.nilS [12, 11, 8, 6] r r (.block (.own0 eItem 71 (.loop hd (fun (s : (List Item) × Int) c w => match s with | (s564, s568) => ∃ I_ p565 c566, IH.le I496 I_ ∧ Ok ⟨95, [], none⟩ [(6, .pointer (some ⟨b9, 0, none⟩)), (8, .slice p501 r495.1.length c502), (11, .pointer (some ⟨b511, 0, none⟩)), (12, .int .i64 s568)] c ∧ Sym w0 M I I_ [pto b9 (.cells #[.int .i64 0, .slice none 0 0] 51 (0, 0)), OwnSl eEdge 73 p501 c502 r495.1, pto b511 (.cells #[.int .i64 a1, .slice p565 s564.length c566] 51 (0, 0)), OwnSl eItem 71 p565 c566 s564] w) (fun c w ho hs => ⟨I496, _, _, (.refl _), ho.sub ⟨r, r, r, r, trivial⟩, hs.pick (.c (.s (.s (.s .z))) (.c (.s (.s .z)) (.c (.s .z) (.c .z .n))))⟩) ?_))))))))
 rintro ⟨s564, s568⟩ next570 hd c w hst
 obtain ⟨I571, p565, c566, hl572, hok, hsym⟩ := hst
 have le573 := IH.le.trans le506 hl572
 refine Cod.at hok hsym (.seq (.sr (.ks 2 r (.len un26 r r r r (.ks 1 r (.nilS [75, 12, 11, 8, 6] r r (.condP r hd (fun hb575 hd => ?_) fun hb575 hd => ?_)))))))
 · refine .skipS [12, 11, 8, 6] r r (.seq (.block (.ownF (.s .z) fun hne576 => ?_)))
   refine .ownF (.s (.s (.s .z))) fun hne577 => ?_
   refine .dr [0, 1, 2, 3, 4, 5, 6, 7, 8, 9, 10, 11, 12, 13, 14] 15 (.g r r r (fun _ => .fa un51 r sz49 r (o := 1) r r r .mk) (.g r r r (fun _ => .load1 ia49 r (.s (.s .z)) r r r .mk) (.fk 2 r ?_)))
   obtain ⟨h578, x579, hx580, hd⟩ := hd
   obtain ⟨b581, e582⟩ := hne576 (idx_ne hx580)
   cases e582
   refine .g r r r (fun _ => .ixa0 un26 sz73 r r h578 (idx_lt hx580 h578) r r .mk) (.g r r r (fun _ => .fa un73 r sz3 r (o := s568.toNat * 3 + 1) r r r .mk) (.g r r r (fun _ => .lo1 (j := 1) ia3 (.s .z) hx580 r r r r r .mk) (.fk 2 r ?_)))
   obtain ⟨h583, x584, hx585, hd⟩ := hd
   refine .g r r r (fun _ => .ixa0 un26 sz73 r r h583 (idx_lt hx585 h583) r r .mk) (.g r r r (fun _ => .fa un73 r sz2 r (o := s568.toNat * 3 + 2) r r r .mk) (.g r r r (fun _ => .lo1 (j := 2) ia2 (.s .z) hx585 r r r r r .mk) (.g r r r (fun _ => .build zv71 un71 BI71 (.c r r r (.t .nil) (.c r r r (.s (.t .nil)) .n)) (by exact ⟨⟨_, _, r, r, r⟩, ⟨⟨_, _, r, r, r⟩, trivial⟩⟩) r r .mk) (.ww r fun ex => ?_))))
   refine .buildSlice 1 un49 sz71 zv71 r r (.c r r r .n) r r fun b586 => ?_
   refine .so 5 r r r (.cg r r r r (fun _ => .load1 ia49 r (.s (.s (.s .z))) r r r .mk) (.cg r r r r (fun _ => .fa un51 r sz49 r (o := 1) r r r .mk) trivial)) (.ww r fun ex => ?_)
   obtain ⟨hl588, hd⟩ := hd
   refine .append (ys := [({ At := x579.To, Val := x584.W } : Item)]) 16 (.s (.s (.s (.s .z)))) un49 un49 IN71 r r r r r r r r r (.box .z (.one r) r) hl588 r r fun p589 c590 => ?_
   exact .so 5 r r r trivial (.e2 15 (.fa un51 r sz49 r (o := 1) r r r (.store1 sz49 r r (.s (.s (.s (.s .z)))) (.s (.t .nil)) r (.nilS [12, 11, 8, 6] r r (.drop (.s .z) (.region (.ks 3 r (.nil' fun c w ho hs => ⟨((s564 ++ ([({ At := x579.To, Val := x584.W } : Item)])), w64 (s568 + 1)), hd, I571, _, _, hl572, ho.sub ⟨r, r, r, r, trivial⟩, hs.pick (.c (.s .z) (.c (.s .z) (.c (.s .z) (.c .z .n))))⟩))))))))
 refine .exitS [11, 6] r r (.drop (.s .z) (.sr (.loadW ia51 sz51 r (.s .z) r r r (.storeA sz51 r r .z (.t (.t .nil)) r r (.ks 1 r (.nilS [7, 6] r r (.drop (.s .z) (.pub (.s .z) fun I592 hl593 R594 => ?_))))))))
 have le595 := IH.le.trans le573 hl593
 have le596 := IH.le.trans hl572 hl593
 exact .ret (pret results97 (.w ia51 sz51 r .z r (.t r .n)) le595 ⟨(({ N := a1, Items := s564 } : Vec), 0), _, _, r, R594, hd⟩)

theorem W_law09_Some {I : IH} {a0 : Int} {a1 : List Item} {p1 : Option Addr} {c2 : Nat} {Q : Vec → Prop} (R3 : RepSl eItem I p1 c2 a1) (hd : law09_Some a0 a1 Q) :
  PFun prog 59 [.int .u8 a0, .slice p1 a1.length c2] I (o18_ Q) := by
 refine Fun.enter func59 r ntmps59 r (.c (.c .n)) fun w0 M => ?_
 refine .sr (.allocA zv51 r r fun b9 => ?_)
 refine .nilS [4, 1, 0] r r (.sr (.ks 1 r (.conv un5 un3 r r r (.rem r r (by decide) r r (.ks 1 r (.nilS [5, 4, 1] r r (.sr (.ks 1 r (.nilS [6, 5, 4, 1] r r ?_)))))))))
 refine .seq ?_
 refine Cod.joinQ (σ := (List Item)) hd (fun (s361 : (List Item)) c w => ∃ I_ p362 c363, IH.le I I_ ∧ Ok ⟨56, [], none⟩ [(4, .pointer (some ⟨b9, 0, none⟩)), (5, .int .i64 ((w64 (a0)).tmod 60)), (6, .slice p362 s361.length c363)] c ∧ Sym w0 M I I_ [pto b9 (.cells #[.int .i64 0, .slice none 0 0] 51 (0, 0)), OwnSl eItem 71 p362 c363 s361] w) (fun k365 hd => ?_) ?_
 · skip
   refine .sr (.ks 1 r (.nilS [7, 6, 5, 4, 1] r r (.block (.own0 eItem 71 (.loop hd (fun (s : (List Item) × Int) c w => match s with | (s481, s485) => ∃ I_ p482 c483, IH.le I I_ ∧ Ok ⟨56, [], none⟩ [(1, .slice p1 a1.length c2), (4, .pointer (some ⟨b9, 0, none⟩)), (5, .int .i64 ((w64 (a0)).tmod 60)), (6, .slice p482 s481.length c483), (7, .int .i64 s485)] c ∧ Sym w0 M I I_ [pto b9 (.cells #[.int .i64 0, .slice none 0 0] 51 (0, 0)), OwnSl eItem 71 p482 c483 s481] w) (fun c w ho hs => ⟨I, _, _, (.refl _), ho.sub ⟨r, r, r, r, r, trivial⟩, hs.pick (.c (.s .z) (.c .z .n))⟩) ?_)))))
   rintro ⟨s481, s485⟩ next487 hd c w hst
   obtain ⟨I488, p482, c483, hl489, hok, hsym⟩ := hst
   replace R3 := R3.mono hl489
   refine Cod.at hok hsym (.seq (.sr (.ks 2 r (.len un49 r r r r (.ks 2 r ?_)))))
   refine splitP hd (fun hb493 hd => ?_) fun hb493 hd => ?_
   · rw [hb493]
     refine .ks 4 r ?_
     refine splitP hd (fun hb494 hd => ?_) fun hb494 hd => ?_
     · rw [hb494]
       refine .ks 3 r (.nilS [24, 7, 6, 5, 4, 1] r r (.condP r hd (fun hb495 hd => ?_) fun hb495 hd => ?_))
       · refine .skipS [7, 6, 5, 4, 1] r r (.seq (.block (.sr (.ks 2 r ?_))))
         obtain ⟨h505, x506, hx507, hd⟩ := hd
         obtain ⟨b508, o509, cs510, e511, hC512, hr513⟩ := R3.2 _ _ hx507
         cases hr513
         refine .ixa un49 sz71 r e511 r h505 (idx_lt hx507 h505) r r (.fa un71 r sz3 r (o := o509 + s485.toNat * 2) r r r (.ld1 (j := 0) ia3 hC512 r r r r r (.ks 1 r (.nilS [32, 7, 6, 5, 4, 1] r r (.condP r hd (fun hb514 hd => ?_) fun hb514 hd => ?_)))))
         · refine .ownF (.s .z) fun hne515 => ?_
           refine .dr [0, 1, 2, 3, 4, 5, 6, 7, 8, 9, 10, 11, 12, 13, 14, 15] 16 (.fk 3 r ?_)
           obtain ⟨h516, x517, hx518, hd⟩ := hd
           obtain ⟨b519, o520, cs521, e522, hC523, hr524⟩ := R3.2 _ _ hx518
           cases hr524
           refine .g r r r (fun _ => .ixa un49 sz71 r e522 r h516 (idx_lt hx518 h516) r r .mk) (.g r r r (fun _ => .fa un71 r sz3 r (o := o520 + s485.toNat * 2) r r r .mk) (.g r r r (fun _ => .ld1 (j := 0) ia3 hC523 r r r r r .mk) (.fk 1 r ?_)))
           obtain ⟨hz525, hd⟩ := hd
           refine .g r r r (fun _ => .rem r r hz525 r r .mk) (.fk 2 r ?_)
           obtain ⟨h526, x527, hx528, hd⟩ := hd
           obtain ⟨b529, o530, cs531, e532, hC533, hr534⟩ := R3.2 _ _ hx528
           cases hr534
           refine .g r r r (fun _ => .ixa un49 sz71 r e532 r h526 (idx_lt hx528 h526) r r .mk) (.g r r r (fun _ => .fa un71 r sz2 r (o := o530 + s485.toNat * 2 + 1) r r r .mk) (.g r r r (fun _ => .ld1 (j := 1) ia2 hC533 r r r r r .mk) (.g r r r (fun _ => .build zv71 un71 BI71 (.c r r r (.t .nil) (.c r r r (.s (.t .nil)) .n)) (by exact ⟨⟨_, _, r, r, r⟩, ⟨⟨_, _, r, r, r⟩, trivial⟩⟩) r r .mk) (.ww r fun ex => ?_))))
           refine .buildSlice 1 un49 sz71 zv71 r r (.c r r r .n) r r fun b535 => ?_
           refine .so 3 r r r (.ck 1 r r trivial) (.ww r fun ex => ?_)
           obtain ⟨hl537, hd⟩ := hd
           refine .append (ys := [({ At := x517.At.tmod ((w64 (a0)).tmod 60), Val := x527.Val } : Item)]) 16 (.s (.s .z)) un49 un49 IN71 r r r r r r r r r (.box .z (.one r) r) hl537 r r fun p538 c539 => ?_
           exact .so 3 r r r trivial (.e2 16 (.ks 1 r (.nilS [6, 7, 5, 4, 1] r r (.drop (.s .z) (.region (.ks 3 r (.nil' fun c w ho hs => ⟨((s481 ++ ([({ At := x517.At.tmod ((w64 (a0)).tmod 60), Val := x527.Val } : Item)])), w64 (s485 + 1)), hd, I488, _, _, hl489, ho.sub ⟨r, r, r, r, r, trivial⟩, hs.pick (.c (.s .z) (.c .z .n))⟩)))))))
         exact .skipS [7, 6, 5, 4, 1] r r (.region (.ks 3 r (.nil' fun c w ho hs => ⟨(s481, w64 (s485 + 1)), hd, I488, _, _, hl489, ho.sub ⟨r, r, r, r, r, trivial⟩, hs.pick (.c .z (.c .z .n))⟩)))
       exact .exit fun c w ho hs => ⟨s481, hd, I488, _, _, hl489, ho.sub ⟨r, r, r, trivial⟩, hs.pick (.c .z (.c .z .n))⟩
     rw [hb494]
     exact .ks 3 r (.nilS [24, 7, 6, 5, 4, 1] r r (.condKF r r (.exit fun c w ho hs => ⟨s481, hd, I488, _, _, hl489, ho.sub ⟨r, r, r, trivial⟩, hs.pick (.c .z (.c .z .n))⟩)))
   rw [hb493]
   exact .ks 7 r (.nilS [24, 7, 6, 5, 4, 1] r r (.condKF r r (.exit fun c w ho hs => ⟨s481, hd, I488, _, _, hl489, ho.sub ⟨r, r, r, trivial⟩, hs.pick (.c .z (.c .z .n))⟩)))
 rintro s361 hd c w hst
 obtain ⟨I541, p362, c363, hl542, hok, hsym⟩ := hst
 refine Cod.at hok hsym (.sr (.ks 2 r (.pub (.s .z) fun I543 hl544 R545 => ?_)))
 have le546 := IH.le.trans hl542 hl544
 have hw556 := W_ref09_Of (I := I543) R545 hd
 refine .call call97 r hw556 r r fun v551 I548 hl549 hv550 => ?_
 obtain ⟨r547, p553, c554, rfl, R555, hd⟩ := hv550
 have le557 := IH.le.trans le546 hl549
 replace R545 := R545.mono hl549
 refine .ks 3 r (.allocA zv51 r r fun b558 => ?_)
 exact .storeA sz51 r r .z (.t (.t .nil)) r r (.ks 1 r (.nilS [8, 4] r r (.sr (.loadW ia51 sz51 r .z r r r (.storeA sz51 r r (.s .z) (.t (.t .nil)) r r (.nilS [4] r r (.drop .z (.ret (pret results59 (.w ia51 sz51 r .z r .n) le557 ⟨r547.1, _, _, r, R555, hd⟩)))))))))

theorem W_law21_got {I : IH} {a0 : Plan} {a1 : List Item} {p1 : Option Addr} {c2 : Nat} {p4 : Option Addr} {c5 : Nat} {Q : Vec → Prop} (R3 : RepSl eI64 I p1 c2 a0.Draws) (R6 : RepSl eItem I p4 c5 a1) (hd : law21_got a0 a1 Q) :
  PFun prog 21 [.agg #[.int .i64 a0.Kind, .int .i64 a0.N, .int .i64 a0.Source, .int .i64 a0.Length, .slice p1 a0.Draws.length c2], .slice p4 a1.length c5] I (fun I_ v => ∃ r p7 c8, v = .agg #[.int .i64 r.N, .slice p7 r.Items.length c8] ∧ RepSl eItem I_ p7 c8 r.Items ∧ Q r) := by
 refine Fun.enter func21 r ntmps21 r (.c (.c .n)) fun w0 M => ?_
 refine .sr (.boxA r r r fun b14 => ?_)
 refine .allocA zv51 r r fun b16 => ?_
 refine .nilS [4, 2, 1] r r (.sr (.fa un25 r sz3 r (o := 1) r r r (.load1 ia3 r (.s .z) r r r (.conv un3 un5 r r r (.ks 1 r ?_)))))
 have hw39 := W_law09_Some (I := I) R6 hd
 refine .call call59 r hw39 r r fun v34 I31 hl32 hv33 => ?_
 obtain ⟨r30, p36, c37, rfl, R38, hd⟩ := hv33
 replace R3 := R3.mono hl32
 replace R6 := R6.mono hl32
 refine .allocA zv51 r r fun b40 => ?_
 refine .storeA sz51 r r .z (.t (.t .nil)) r r (.nilS [5, 4] r r (.drop (.s (.s .z)) (.sr (.fa un51 r sz3 r (o := 0) r r r (.load1 ia3 r .z r r r (.build zv51 un51 BI51 (.c r r r (.t .nil) .n) (by exact ⟨⟨_, _, r, r, r⟩, trivial⟩) r r (.allocA zv51 r r fun b44 => ?_)))))))
 refine .storeA sz51 r r .z (.t (.t .nil)) r r (.nilS [6, 5, 4] r r (.seq (.sr (.ks 1 r (.nilS [7, 6, 5, 4] r r (.block (.own0 eItem 71 (.loop hd (fun (s : (List Item) × Int) c w => match s with | (s115, s119) => ∃ I_ p116 c117, IH.le I31 I_ ∧ Ok ⟨43, [], none⟩ [(4, .pointer (some ⟨b16, 0, none⟩)), (5, .pointer (some ⟨b40, 0, none⟩)), (6, .pointer (some ⟨b44, 0, none⟩)), (7, .int .i64 s119)] c ∧ Sym w0 M I I_ [pto b16 (.cells #[.int .i64 0, .slice none 0 0] 51 (0, 0)), pto b40 (.cells #[.int .i64 r30.N, .slice p36 r30.Items.length c37] 51 (0, 0)), pto b44 (.cells #[.int .i64 r30.N, .slice p116 s115.length c117] 51 (0, 0)), OwnSl eItem 71 p116 c117 s115] w) (fun c w ho hs => ⟨I31, _, _, (.refl _), ho.sub ⟨r, r, r, r, trivial⟩, hs.pick (.c (.s (.s (.s .z))) (.c (.s (.s .z)) (.c (.s .z) (.c .z .n))))⟩) ?_))))))))
 rintro ⟨s115, s119⟩ next121 hd c w hst
 obtain ⟨I122, p116, c117, hl123, hok, hsym⟩ := hst
 have le124 := IH.le.trans hl32 hl123
 replace R38 := R38.mono hl123
 refine Cod.at hok hsym (.seq (.sr (.ks 1 r (.fa un51 r sz49 r (o := 1) r r r (.load1 ia49 r (.s .z) r r r (.len un49 r r r r (.ks 1 r (.nilS [20, 7, 6, 5, 4] r r (.condP r hd (fun hb126 hd => ?_) fun hb126 hd => ?_)))))))))
 · refine .skipS [7, 6, 5, 4] r r (.seq (.block (.ownF (.s (.s (.s .z))) fun hne127 => ?_)))
   refine .dr [0, 1, 2, 3, 4, 5, 6, 7, 8, 9, 10, 11, 12, 13, 14, 15, 16, 17] 18 (.g r r r (fun _ => .fa un51 r sz49 r (o := 1) r r r .mk) (.g r r r (fun _ => .load1 ia49 r (.s (.s .z)) r r r .mk) (.g r r r (fun _ => .fa un51 r sz49 r (o := 1) r r r .mk) (.g r r r (fun _ => .load1 ia49 r (.s .z) r r r .mk) (.fk 1 r ?_)))))
   obtain ⟨h128, x129, hx130, hd⟩ := hd
   obtain ⟨b131, o132, cs133, e134, hC135, hr136⟩ := R38.2 _ _ hx130
   cases hr136
   refine .g r r r (fun _ => .ixa un49 sz71 r e134 r h128 (idx_lt hx130 h128) r r .mk) (.g r r r (fun _ => .fa un71 r sz3 r (o := o132 + s119.toNat * 2) r r r .mk) (.g r r r (fun _ => .ld1 (j := 0) ia3 hC135 r r r r r .mk) (.g r r r (fun _ => .fa un51 r sz49 r (o := 1) r r r .mk) (.g r r r (fun _ => .load1 ia49 r (.s .z) r r r .mk) (.fk 1 r ?_)))))
   obtain ⟨h137, x138, hx139, hd⟩ := hd
   obtain ⟨b140, o141, cs142, e143, hC144, hr145⟩ := R38.2 _ _ hx139
   cases hr145
   refine .g r r r (fun _ => .ixa un49 sz71 r e143 r h137 (idx_lt hx139 h137) r r .mk) (.g r r r (fun _ => .fa un71 r sz2 r (o := o141 + s119.toNat * 2 + 1) r r r .mk) (.g r r r (fun _ => .ld1 (j := 1) ia2 hC144 r r r r r .mk) (.fk 1 r (.g r r r (fun _ => .build zv71 un71 BI71 (.c r r r (.t .nil) (.c r r r (.s (.t .nil)) .n)) (by exact ⟨⟨_, _, r, r, r⟩, ⟨⟨_, _, r, r, r⟩, trivial⟩⟩) r r .mk) (.ww r fun ex => ?_)))))
   refine .buildSlice 1 un49 sz71 zv71 r r (.c r r r .n) r r fun b146 => ?_
   refine .so 5 r r r (.cg r r r r (fun _ => .load1 ia49 r (.s (.s (.s .z))) r r r .mk) (.cg r r r r (fun _ => .fa un51 r sz49 r (o := 1) r r r .mk) trivial)) (.ww r fun ex => ?_)
   obtain ⟨hl148, hd⟩ := hd
   refine .append (ys := [({ At := x129.At, Val := bnd .i64 x138.Val 255 } : Item)]) 16 (.s (.s (.s (.s .z)))) un49 un49 IN71 r r r r r r r r r (.box .z (.one r) r) hl148 r r fun p149 c150 => ?_
   exact .so 5 r r r trivial (.e2 18 (.fa un51 r sz49 r (o := 1) r r r (.store1 sz49 r r (.s (.s (.s (.s .z)))) (.s (.t .nil)) r (.nilS [7, 6, 5, 4] r r (.drop (.s .z) (.region (.ks 3 r (.nil' fun c w ho hs => ⟨((s115 ++ ([({ At := x129.At, Val := bnd .i64 x138.Val 255 } : Item)])), w64 (s119 + 1)), hd, I122, _, _, hl123, ho.sub ⟨r, r, r, r, trivial⟩, hs.pick (.c (.s .z) (.c (.s .z) (.c (.s .z) (.c .z .n))))⟩))))))))
 refine .exitS [6, 4] r r (.drop (.s .z) (.sr (.loadW ia51 sz51 r (.s .z) r r r (.storeA sz51 r r .z (.t (.t .nil)) r r (.nilS [4] r r (.drop (.s .z) (.pub (.s .z) fun I152 hl153 R154 => ?_)))))))
 have le155 := IH.le.trans le124 hl153
 have le156 := IH.le.trans hl123 hl153
 exact .ret (pret results21 (.w ia51 sz51 r .z r .n) le155 ⟨({ N := r30.N, Items := s115 } : Vec), _, _, r, R154, hd⟩)

theorem W_law21_ProgFalls {I : IH} {a0 : Plan} {a1 : Int} {a2 : List (List Item)} {p1 : Option Addr} {c2 : Nat} {p4 : Option Addr} {c5 : Nat} {Q : Bool → Prop} (R3 : RepSl eI64 I p1 c2 a0.Draws) (R6 : RepSl (slEl eItem) I p4 c5 a2) (hd : law21_ProgFalls a0 a1 a2 Q) :
  PFun prog 6 [.agg #[.int .i64 a0.Kind, .int .i64 a0.N, .int .i64 a0.Source, .int .i64 a0.Length, .slice p1 a0.Draws.length c2], .int .u8 a1, .slice p4 a2.length c5] I (fun _ => o0_ Q) := by
 refine Fun.enter func6 r ntmps6 r (.c (.c (.c .n))) fun w0 M => ?_
 refine .sr (.boxA r r r fun b9 => ?_)
 refine .ks 1 r (.nilS [3, 2, 1] r r (.sr (.loadW ia25 sz25 r .z r r r (.ks 1 r (.conv un5 un3 r r r (.rem r r (by decide) r r ?_))))))
 have hw30 := W_law21_Plan (I := I) R3 hd
 refine .call call17 r hw30 r r fun v25 I22 hl23 hv24 => ?_
 obtain ⟨r21, p27, c28, rfl, R29, hd⟩ := hv24
 replace R3 := R3.mono hl23
 replace R6 := R6.mono hl23
 refine .storeA sz25 r r .z (.t (.t (.t (.t (.t .nil))))) r r (.nilS [3, 2] r r (.sr (.loadW ia25 sz25 r .z r r r (.fa un25 r sz3 r (o := 1) r r r (.load1 ia3 r .z r r r ?_)))))
 have hw65 := W_prog_Begin (I := I22) R29 hd
 refine .call call18 r hw65 r r fun v54 I51 hl52 hv53 => ?_
 obtain ⟨r50, p56, c57, p59, c60, p62, c63, rfl, R58, R61, R64, hd⟩ := hv53
 have le66 := IH.le.trans hl23 hl52
 replace R6 := R6.mono hl52
 replace R29 := R29.mono hl52
 refine .allocA zv46 r r fun b67 => ?_
 refine .storeA sz46 r r .z (.t (.t (.t (.t (.t .nil))))) r r (.nilS [7, 3, 2] r r (.seq (.sr (.ks 1 r (.nilS [8, 7, 3, 2] r r (.block (.loop hd (fun (s : Int × Int × (List Int) × (List Int) × (List Int) × Int) c w => match s with | (s1106, s1107, s1108, s1112, s1116, s1120) => ∃ I_ p1109 c1110 p1113 c1114 p1117 c1118, IH.le I51 I_ ∧ RepSl eI64 I_ p1109 c1110 s1108 ∧ RepSl eI64 I_ p1113 c1114 s1112 ∧ RepSl eU64 I_ p1117 c1118 s1116 ∧ Ok ⟨137, [], none⟩ [(2, .slice p4 a2.length c5), (3, .pointer (some ⟨b9, 0, none⟩)), (7, .pointer (some ⟨b67, 0, none⟩)), (8, .int .i64 s1120)] c ∧ Sym w0 M I I_ [pto b9 (.cells #[.int .i64 r21.Kind, .int .i64 r21.N, .int .i64 r21.Source, .int .i64 r21.Length, .slice p27 r21.Draws.length c28] 25 (0, 0)), pto b67 (.cells #[.int .i64 s1106, .int .i64 s1107, .slice p1109 s1108.length c1110, .slice p1113 s1112.length c1114, .slice p1117 s1116.length c1118] 46 (0, 0))] w) (fun c w ho hs => ⟨I51, _, _, _, _, _, _, (.refl _), R58, R61, R64, ho.sub ⟨r, r, r, r, trivial⟩, hs.pick (.c (.s .z) (.c .z .n))⟩) ?_)))))))
 rintro ⟨s1106, s1107, s1108, s1112, s1116, s1120⟩ next1121 hd c w hst
 obtain ⟨I1122, p1109, c1110, p1113, c1114, p1117, c1118, hl1123, R1111, R1115, R1119, hok, hsym⟩ := hst
 have le1124 := IH.le.trans le66 hl1123
 replace R6 := R6.mono hl1123
 replace R29 := R29.mono hl1123
 refine Cod.at hok hsym (.seq (.sr (.ks 2 r (.len underlying42 r r r r (.ks 2 r ?_)))))
 refine splitP hd (fun hb1127 hd => ?_) fun hb1127 hd => ?_
 · rw [hb1127]
   refine .ks 3 r (.nilS [27, 8, 7, 3, 2] r r (.condP r hd (fun hb1128 hd => ?_) fun hb1128 hd => ?_))
   · refine .skipS [8, 7, 3, 2] r r (.seq (.block (.seq (.dr [0, 1, 2, 3, 4, 5, 6, 7, 8, 11, 9, 10, 999] 12 (.g r r r (fun _ => .loadW ia25 sz25 r .z r r r .mk) (.g r r r (fun _ => .loadW ia46 sz46 r (.s .z) r r r .mk) (.fk 2 r (.g r r r (fun _ => .loadW ia25 sz25 r .z r r r .mk) (.fk 2 r ?_)))))))))
     obtain ⟨h1173, x1174, hx1175, hd⟩ := hd
     obtain ⟨b1176, o1177, cs1178, e1179, hC1180, hr1181⟩ := R6.2 _ _ hx1175
     obtain ⟨p1182, c1183, rfl, R1184⟩ := hr1181
     refine .g r r r (fun _ => .ixa underlying42 sz49 r e1179 r h1173 (idx_lt hx1175 h1173) r r .mk) (.g r r r (fun _ => .ld1 (j := 0) ia49 hC1180 r r r r r .mk) (.a (fun b => .pointer (some ⟨b, 0, none⟩)) (fun b => pto b (.cells #[.int .i64 0, .int .i64 0, .slice none 0 0, .slice none 0 0, .slice none 0 0] 46 (0, 0))) r r r r (fun _ L hL ex => .allocA zv46 r r fun b => .mk (val := fun b => .pointer (some ⟨b, 0, none⟩)) (atom := fun b => pto b (.cells #[.int .i64 0, .int .i64 0, .slice none 0 0, .slice none 0 0, .slice none 0 0] 46 (0, 0))) hL b) (.ww r fun ex => ?_)))
     have hw1195 := W_law21_got (I := I1122) R29 R1184 hd
     refine .call call21 r hw1195 r r fun v1190 I1187 hl1188 hv1189 => ?_
     obtain ⟨r1186, p1192, c1193, rfl, R1194, hd⟩ := hv1189
     have le1196 := IH.le.trans le1124 hl1188
     have le1197 := IH.le.trans hl1123 hl1188
     replace R6 := R6.mono hl1188
     replace R29 := R29.mono hl1188
     replace R1111 := R1111.mono hl1188
     replace R1115 := R1115.mono hl1188
     replace R1119 := R1119.mono hl1188
     replace R1184 := R1184.mono hl1188
     replace hC1180 := hC1180.mono hl1188
     refine .so 2 r r r (.ck 2 r r (.cg r r r r (fun _ => .loadW ia46 sz46 r (.s .z) r r r .mk) (.cg r r r r (fun _ => .loadW ia25 sz25 r .z r r r .mk) trivial))) (.ww r fun ex => ?_)
     have hw1213 := W_prog_Update (I := I1187) (a1 := ({ Low := s1106, High := s1107, A := s1108, B := s1112, On := s1116 } : State)) R29 R1111 R1115 R1119 R1194 hd
     refine .call call22 r hw1213 r r fun v1202 I1199 hl1200 hv1201 => ?_
     obtain ⟨r1198, p1204, c1205, p1207, c1208, p1210, c1211, rfl, R1206, R1209, R1212, hd⟩ := hv1201
     have le1214 := IH.le.trans le1196 hl1200
     have le1215 := IH.le.trans le1197 hl1200
     replace R6 := R6.mono hl1200
     replace R29 := R29.mono hl1200
     replace R1111 := R1111.mono hl1200
     replace R1115 := R1115.mono hl1200
     replace R1119 := R1119.mono hl1200
     replace R1184 := R1184.mono hl1200
     replace hC1180 := hC1180.mono hl1200
     replace R1194 := R1194.mono hl1200
     refine .so 2 r r r trivial (.b r fun b1216 => DrawD.nop (.e2 12 (.storeA sz46 r r (.s (.s .z)) (.t (.t (.t (.t (.t .nil))))) r r (.nilS [9, 8, 7, 3, 2] r r (.seq (.sr (.fa un46 r sz23 r (o := 2) r r r (.load1 ia23 r (.s (.s .z)) r r r (.len un23 r r r r ?_)))))))))
     refine .fa un25 r sz3 r (o := 1) r r r (.load1 ia3 r .z r r r (.ks 2 r ?_))
     refine splitP hd (fun hb1219 hd => ?_) fun hb1219 hd => ?_
     · rw [hb1219]
       exact .ks 7 r (.nilS [54, 9, 8, 7, 3, 2] r r (.condKT r r (.sr (.ks 1 r (.nilS [6] r r (.drop .z (.drop .z (.drop .z (.ret (pret results6 (.t r .n) le1214 ⟨false, r, hd⟩))))))))))
     rw [hb1219]
     refine .gyes r r r (.fa un46 r sz23 r (o := 2) r r r (.gyes r r r (.load1 ia23 r (.s .z) r r r (.gyes r r r (.len un23 r r r r (.gyes r r r (.fa un25 r sz3 r (o := 1) r r r (.gyes r r r (.load1 ia3 r .z r r r (.ks 2 r (.nilS [54, 9, 8, 7, 3, 2] r r (.condP r hd (fun hb1220 hd => ?_) fun hb1220 hd => ?_))))))))))))
     · exact .sr (.ks 1 r (.nilS [6] r r (.drop .z (.drop .z (.drop .z (.ret (pret results6 (.t r .n) le1214 ⟨false, r, hd⟩)))))))
     refine .skipS [9, 8, 7, 3, 2] r r (.seq (.sr (.ks 1 r (.nilS [10, 9, 8, 7, 3, 2] r r (.block (.loop hd (fun (s1486 : Int) c w => ∃ I_, IH.le I1199 I_ ∧ Ok ⟨137, [], none⟩ [(2, .slice p4 a2.length c5), (3, .pointer (some ⟨b9, 0, none⟩)), (7, .pointer (some ⟨b67, 0, none⟩)), (8, .int .i64 s1120), (9, .pointer (some ⟨b1216, 0, none⟩)), (10, .int .i64 s1486)] c ∧ Sym w0 M I I_ [pto b9 (.cells #[.int .i64 r21.Kind, .int .i64 r21.N, .int .i64 r21.Source, .int .i64 r21.Length, .slice p27 r21.Draws.length c28] 25 (0, 0)), pto b67 (.cells #[.int .i64 s1106, .int .i64 s1107, .slice p1109 s1108.length c1110, .slice p1113 s1112.length c1114, .slice p1117 s1116.length c1118] 46 (0, 0)), pto b1216 (.cells #[.int .i64 r1198.Low, .int .i64 r1198.High, .slice p1204 r1198.A.length c1205, .slice p1207 r1198.B.length c1208, .slice p1210 r1198.On.length c1211] 46 (0, 0))] w) (fun c w ho hs => ⟨I1199, (.refl _), ho.sub ⟨r, r, r, r, r, r, trivial⟩, hs.pick (.c .z (.c .z (.c .z .n)))⟩) ?_))))))
     rintro s1486 next1487 hd c w hst
     obtain ⟨I1488, hl1489, hok, hsym⟩ := hst
     have le1490 := IH.le.trans le1214 hl1489
     have le1491 := IH.le.trans le1215 hl1489
     replace R6 := R6.mono hl1489
     replace R29 := R29.mono hl1489
     replace R1111 := R1111.mono hl1489
     replace R1115 := R1115.mono hl1489
     replace R1119 := R1119.mono hl1489
     replace R1206 := R1206.mono hl1489
     replace R1209 := R1209.mono hl1489
     replace R1212 := R1212.mono hl1489
     refine Cod.at hok hsym (.seq (.sr (.ks 1 r (.fa un25 r sz3 r (o := 1) r r r (.load1 ia3 r .z r r r (.ks 1 r (.nilS [58, 10, 9, 8, 7, 3, 2] r r (.condP r hd (fun hb1493 hd => ?_) fun hb1493 hd => ?_))))))))
     · refine .skipS [10, 9, 8, 7, 3, 2] r r (.seq (.block (.sr (.fa un25 r sz22 r (o := 0) r r r (.load1 ia22 r .z r r r (.nilS [62, 10, 9, 8, 7, 3, 2] r r (.block (.sr (.ks 2 r ?_)))))))))
       refine .nilS [63, 62, 10, 9, 8, 7, 3, 2] r r (.condP r hd (fun hb1494 hd => ?_) fun hb1494 hd => ?_)
       · refine .seq (.dr [0, 1, 2, 3, 4, 5, 6, 7, 8, 9, 10, 11, 12, 13, 14, 15, 16, 17, 18] 19 (.g r r r (fun _ => .fa un46 r sz23 r (o := 2) r r r .mk) (.g r r r (fun _ => .load1 ia23 r (.s .z) r r r .mk) (.fk 1 r ?_))))
         obtain ⟨h1495, x1496, hx1497, hd⟩ := hd
         obtain ⟨b1498, o1499, cs1500, e1501, hC1502, hr1503⟩ := R1111.2 _ _ hx1497
         cases hr1503
         refine .g r r r (fun _ => .ixa un23 sz2 r e1501 r h1495 (idx_lt hx1497 h1495) r r .mk) (.g r r r (fun _ => .ld1 (j := 0) ia2 hC1502 r r r r r .mk) (.fk 2 r ?_))
         refine splitP hd (fun hb1504 hd => ?_) fun hb1504 hd => ?_
         · rw [hb1504]
           refine .g r r r (fun _ => .gyes r r r (.fa un46 r sz23 r (o := 2) r r r .mk)) (.g r r r (fun _ => .gyes r r r (.load1 ia23 r (.s (.s .z)) r r r .mk)) (.fk 1 r ?_))
           obtain ⟨h1505, x1506, hx1507, hd⟩ := hd
           obtain ⟨b1508, o1509, cs1510, e1511, hC1512, hr1513⟩ := R1206.2 _ _ hx1507
           cases hr1513
           refine .g r r r (fun _ => .gyes r r r (.ixa un23 sz2 r e1511 r h1505 (idx_lt hx1507 h1505) r r .mk)) (.g r r r (fun _ => .gyes r r r (.ld1 (j := 0) ia2 hC1512 r r r r r .mk)) (.g r r r (fun _ => .gyes r r r (.fa un46 r sz23 r (o := 2) r r r .mk)) (.g r r r (fun _ => .gyes r r r (.load1 ia23 r (.s .z) r r r .mk)) (.fk 1 r ?_))))
           obtain ⟨h1514, x1515, hx1516, hd⟩ := hd
           obtain ⟨b1517, o1518, cs1519, e1520, hC1521, hr1522⟩ := R1111.2 _ _ hx1516
           cases hr1522
           refine .g r r r (fun _ => .gyes r r r (.ixa un23 sz2 r e1520 r h1514 (idx_lt hx1516 h1514) r r .mk)) (.g r r r (fun _ => .gyes r r r (.ld1 (j := 0) ia2 hC1521 r r r r r .mk)) (.fk 2 r (.e2 19 (.nilS [83, 10, 9, 8, 7, 3, 2] r r (.condP r hd (fun hb1523 hd => ?_) fun hb1523 hd => ?_)))))
           · exact .sr (.ks 1 r (.nilS [6] r r (.drop .z (.drop .z (.drop .z (.ret (pret results6 (.t r .n) le1490 ⟨false, r, hd⟩)))))))
           exact .skipS [10, 9, 8, 7, 3, 2] r r (.region (.ks 3 r (.nil' fun c w ho hs => ⟨(w64 (s1486 + 1)), hd, I1488, hl1489, ho.sub ⟨r, r, r, r, r, r, trivial⟩, hs.pick (.c .z (.c .z (.c .z .n)))⟩)))
         rw [hb1504]
         exact .fk 12 r (.e2 19 (.nilS [83, 10, 9, 8, 7, 3, 2] r r (.condKF r r (.skipS [10, 9, 8, 7, 3, 2] r r (.region (.ks 3 r (.nil' fun c w ho hs => ⟨(w64 (s1486 + 1)), hd, I1488, hl1489, ho.sub ⟨r, r, r, r, r, r, trivial⟩, hs.pick (.c .z (.c .z (.c .z .n)))⟩)))))))
       refine .seq ?_
       refine Cod.joinQ (σ := Bool) hd (fun (s1526 : Bool) c w => ∃ I_, IH.le I1488 I_ ∧ Ok ⟨137, [], none⟩ [(2, .slice p4 a2.length c5), (3, .pointer (some ⟨b9, 0, none⟩)), (7, .pointer (some ⟨b67, 0, none⟩)), (8, .int .i64 s1120), (9, .pointer (some ⟨b1216, 0, none⟩)), (10, .int .i64 s1486), (62, .int .i64 r21.Kind), (84, .bool s1526)] c ∧ Sym w0 M I I_ [pto b9 (.cells #[.int .i64 r21.Kind, .int .i64 r21.N, .int .i64 r21.Source, .int .i64 r21.Length, .slice p27 r21.Draws.length c28] 25 (0, 0)), pto b67 (.cells #[.int .i64 s1106, .int .i64 s1107, .slice p1109 s1108.length c1110, .slice p1113 s1112.length c1114, .slice p1117 s1116.length c1118] 46 (0, 0)), pto b1216 (.cells #[.int .i64 r1198.Low, .int .i64 r1198.High, .slice p1204 r1198.A.length c1205, .slice p1207 r1198.B.length c1208, .slice p1210 r1198.On.length c1211] 46 (0, 0))] w) (fun k1527 hd => ?_) ?_
       · skip
         refine .sr (.ks 2 r (.nilS [84, 62, 10, 9, 8, 7, 3, 2] r r (.condP r hd (fun hb1528 hd => ?_) fun hb1528 hd => ?_)))
         · exact .skip' fun c w ho hs => ⟨(r21.Kind == 2), hd, I1488, (.refl _), ho.sub ⟨r, r, r, r, r, r, r, r, trivial⟩, hs.pick (.c .z (.c .z (.c .z .n)))⟩
         exact .region (.ks 2 r (.nil' fun c w ho hs => ⟨(r21.Kind == 3), hd, I1488, (.refl _), ho.sub ⟨r, r, r, r, r, r, r, r, trivial⟩, hs.pick (.c .z (.c .z (.c .z .n)))⟩))
       rintro s1526 hd c w hst
       obtain ⟨I1529, hl1530, hok, hsym⟩ := hst
       have le1531 := IH.le.trans le1490 hl1530
       have le1532 := IH.le.trans le1491 hl1530
       have le1533 := IH.le.trans hl1489 hl1530
       replace R6 := R6.mono hl1530
       replace R29 := R29.mono hl1530
       replace R1111 := R1111.mono hl1530
       replace R1115 := R1115.mono hl1530
       replace R1119 := R1119.mono hl1530
       replace R1206 := R1206.mono hl1530
       replace R1209 := R1209.mono hl1530
       replace R1212 := R1212.mono hl1530
       refine Cod.at hok hsym (.condP r hd (fun hb1534 hd => ?_) fun hb1534 hd => ?_)
       · refine .seq (.dr [0, 1, 2, 3, 4, 5, 6, 7, 8, 9, 10] 11 (.g r r r (fun _ => .fa un46 r sz23 r (o := 2) r r r .mk) (.g r r r (fun _ => .load1 ia23 r (.s (.s .z)) r r r .mk) (.fk 1 r ?_))))
         obtain ⟨h1535, x1536, hx1537, hd⟩ := hd
         obtain ⟨b1538, o1539, cs1540, e1541, hC1542, hr1543⟩ := R1206.2 _ _ hx1537
         cases hr1543
         refine .g r r r (fun _ => .ixa un23 sz2 r e1541 r h1535 (idx_lt hx1537 h1535) r r .mk) (.g r r r (fun _ => .ld1 (j := 0) ia2 hC1542 r r r r r .mk) (.g r r r (fun _ => .fa un46 r sz23 r (o := 2) r r r .mk) (.g r r r (fun _ => .load1 ia23 r (.s .z) r r r .mk) (.fk 1 r ?_))))
         obtain ⟨h1544, x1545, hx1546, hd⟩ := hd
         obtain ⟨b1547, o1548, cs1549, e1550, hC1551, hr1552⟩ := R1111.2 _ _ hx1546
         cases hr1552
         refine .g r r r (fun _ => .ixa un23 sz2 r e1550 r h1544 (idx_lt hx1546 h1544) r r .mk) (.g r r r (fun _ => .ld1 (j := 0) ia2 hC1551 r r r r r .mk) (.fk 1 r (.e2 11 (.nilS [97, 10, 9, 8, 7, 3, 2] r r (.condP r hd (fun hb1553 hd => ?_) fun hb1553 hd => ?_)))))
         · exact .sr (.ks 1 r (.nilS [6] r r (.drop .z (.drop .z (.drop .z (.ret (pret results6 (.t r .n) le1531 ⟨false, r, hd⟩)))))))
         exact .skipS [10, 9, 8, 7, 3, 2] r r (.region (.ks 3 r (.nil' fun c w ho hs => ⟨(w64 (s1486 + 1)), hd, I1529, le1533, ho.sub ⟨r, r, r, r, r, r, trivial⟩, hs.pick (.c .z (.c .z (.c .z .n)))⟩)))
       refine .sr (.ks 2 r (.nilS [98, 10, 9, 8, 7, 3, 2] r r (.condP r hd (fun hb1554 hd => ?_) fun hb1554 hd => ?_)))
       · refine .seq (.dr [0, 1, 2, 3, 4, 5, 6, 7, 8, 9, 10, 11, 12, 13, 14, 15, 16, 17, 18, 19, 20, 21, 22, 23, 24, 25, 26, 27, 28, 29, 30, 31, 32, 33, 34] 35 (.g r r r (fun _ => .fa un46 r sz23 r (o := 2) r r r .mk) (.g r r r (fun _ => .load1 ia23 r (.s .z) r r r .mk) (.fk 1 r ?_))))
         obtain ⟨h1555, x1556, hx1557, hd⟩ := hd
         obtain ⟨b1558, o1559, cs1560, e1561, hC1562, hr1563⟩ := R1111.2 _ _ hx1557
         cases hr1563
         refine .g r r r (fun _ => .ixa un23 sz2 r e1561 r h1555 (idx_lt hx1557 h1555) r r .mk) (.g r r r (fun _ => .ld1 (j := 0) ia2 hC1562 r r r r r .mk) (.fk 2 r ?_))
         refine splitP hd (fun hb1564 hd => ?_) fun hb1564 hd => ?_
         · rw [hb1564]
           refine .g r r r (fun _ => .gyes r r r (.fa un46 r sz23 r (o := 2) r r r .mk)) (.g r r r (fun _ => .gyes r r r (.load1 ia23 r (.s (.s .z)) r r r .mk)) (.fk 1 r ?_))
           obtain ⟨h1565, x1566, hx1567, hd⟩ := hd
           obtain ⟨b1568, o1569, cs1570, e1571, hC1572, hr1573⟩ := R1206.2 _ _ hx1567
           cases hr1573
           refine .g r r r (fun _ => .gyes r r r (.ixa un23 sz2 r e1571 r h1565 (idx_lt hx1567 h1565) r r .mk)) (.g r r r (fun _ => .gyes r r r (.ld1 (j := 0) ia2 hC1572 r r r r r .mk)) (.g r r r (fun _ => .gyes r r r (.fa un46 r sz23 r (o := 2) r r r .mk)) (.g r r r (fun _ => .gyes r r r (.load1 ia23 r (.s .z) r r r .mk)) (.fk 1 r ?_))))
           obtain ⟨h1574, x1575, hx1576, hd⟩ := hd
           obtain ⟨b1577, o1578, cs1579, e1580, hC1581, hr1582⟩ := R1111.2 _ _ hx1576
           cases hr1582
           refine .g r r r (fun _ => .gyes r r r (.ixa un23 sz2 r e1580 r h1574 (idx_lt hx1576 h1574) r r .mk)) (.g r r r (fun _ => .gyes r r r (.ld1 (j := 0) ia2 hC1581 r r r r r .mk)) (.fk 3 r ?_))
           refine splitP hd (fun hb1583 hd => ?_) fun hb1583 hd => ?_
           · rw [hb1583]
             refine .fk 15 r (.e2 35 (.nilS [134, 10, 9, 8, 7, 3, 2] r r (.condKT r r (.sr (.ks 1 r (.nilS [6] r r (.drop .z (.drop .z (.drop .z ?_)))))))))
             exact .ret (pret results6 (.t r .n) le1531 ⟨false, r, hd⟩)
           rw [hb1583]
           refine .g r r r (fun _ => .gyes r r r (.fa un46 r sz23 r (o := 2) r r r .mk)) (.g r r r (fun _ => .gyes r r r (.load1 ia23 r (.s (.s .z)) r r r .mk)) (.fk 1 r ?_))
           obtain ⟨h1584, x1585, hx1586, hd⟩ := hd
           obtain ⟨b1587, o1588, cs1589, e1590, hC1591, hr1592⟩ := R1206.2 _ _ hx1586
           cases hr1592
           refine .g r r r (fun _ => .gyes r r r (.ixa un23 sz2 r e1590 r h1584 (idx_lt hx1586 h1584) r r .mk)) (.g r r r (fun _ => .gyes r r r (.ld1 (j := 0) ia2 hC1591 r r r r r .mk)) (.fk 3 r ?_))
           refine splitP hd (fun hb1593 hd => ?_) fun hb1593 hd => ?_
           · rw [hb1593]
             refine .fk 7 r (.e2 35 (.nilS [134, 10, 9, 8, 7, 3, 2] r r (.condKT r r (.sr (.ks 1 r (.nilS [6] r r (.drop .z (.drop .z (.drop .z ?_)))))))))
             exact .ret (pret results6 (.t r .n) le1531 ⟨false, r, hd⟩)
           rw [hb1593]
           refine .g r r r (fun _ => .gyes r r r (.fa un46 r sz23 r (o := 2) r r r .mk)) (.g r r r (fun _ => .gyes r r r (.load1 ia23 r (.s (.s .z)) r r r .mk)) (.fk 1 r ?_))
           obtain ⟨h1594, x1595, hx1596, hd⟩ := hd
           obtain ⟨b1597, o1598, cs1599, e1600, hC1601, hr1602⟩ := R1206.2 _ _ hx1596
           cases hr1602
           refine .g r r r (fun _ => .gyes r r r (.ixa un23 sz2 r e1600 r h1594 (idx_lt hx1596 h1594) r r .mk)) (.g r r r (fun _ => .gyes r r r (.ld1 (j := 0) ia2 hC1601 r r r r r .mk)) (.fk 2 r (.e2 35 (.nilS [134, 10, 9, 8, 7, 3, 2] r r (.condP r hd (fun hb1603 hd => ?_) fun hb1603 hd => ?_)))))
           · exact .sr (.ks 1 r (.nilS [6] r r (.drop .z (.drop .z (.drop .z (.ret (pret results6 (.t r .n) le1531 ⟨false, r, hd⟩)))))))
           exact .skipS [10, 9, 8, 7, 3, 2] r r (.region (.ks 3 r (.nil' fun c w ho hs => ⟨(w64 (s1486 + 1)), hd, I1529, le1533, ho.sub ⟨r, r, r, r, r, r, trivial⟩, hs.pick (.c .z (.c .z (.c .z .n)))⟩)))
         rw [hb1564]
         refine .fk 13 r (.g r r r (fun _ => .gyes r r r (.fa un46 r sz23 r (o := 2) r r r .mk)) (.g r r r (fun _ => .gyes r r r (.load1 ia23 r (.s (.s .z)) r r r .mk)) (.fk 1 r ?_)))
         obtain ⟨h1604, x1605, hx1606, hd⟩ := hd
         obtain ⟨b1607, o1608, cs1609, e1610, hC1611, hr1612⟩ := R1206.2 _ _ hx1606
         cases hr1612
         refine .g r r r (fun _ => .gyes r r r (.ixa un23 sz2 r e1610 r h1604 (idx_lt hx1606 h1604) r r .mk)) (.g r r r (fun _ => .gyes r r r (.ld1 (j := 0) ia2 hC1611 r r r r r .mk)) (.fk 3 r ?_))
         refine splitP hd (fun hb1613 hd => ?_) fun hb1613 hd => ?_
         · rw [hb1613]
           refine .fk 7 r (.e2 35 (.nilS [134, 10, 9, 8, 7, 3, 2] r r (.condKT r r (.sr (.ks 1 r (.nilS [6] r r (.drop .z (.drop .z (.drop .z ?_)))))))))
           exact .ret (pret results6 (.t r .n) le1531 ⟨false, r, hd⟩)
         rw [hb1613]
         refine .g r r r (fun _ => .gyes r r r (.fa un46 r sz23 r (o := 2) r r r .mk)) (.g r r r (fun _ => .gyes r r r (.load1 ia23 r (.s (.s .z)) r r r .mk)) (.fk 1 r ?_))
         obtain ⟨h1614, x1615, hx1616, hd⟩ := hd
         obtain ⟨b1617, o1618, cs1619, e1620, hC1621, hr1622⟩ := R1206.2 _ _ hx1616
         cases hr1622
         refine .g r r r (fun _ => .gyes r r r (.ixa un23 sz2 r e1620 r h1614 (idx_lt hx1616 h1614) r r .mk)) (.g r r r (fun _ => .gyes r r r (.ld1 (j := 0) ia2 hC1621 r r r r r .mk)) (.fk 2 r (.e2 35 (.nilS [134, 10, 9, 8, 7, 3, 2] r r (.condP r hd (fun hb1623 hd => ?_) fun hb1623 hd => ?_)))))
         · exact .sr (.ks 1 r (.nilS [6] r r (.drop .z (.drop .z (.drop .z (.ret (pret results6 (.t r .n) le1531 ⟨false, r, hd⟩)))))))
         exact .skipS [10, 9, 8, 7, 3, 2] r r (.region (.ks 3 r (.nil' fun c w ho hs => ⟨(w64 (s1486 + 1)), hd, I1529, le1533, ho.sub ⟨r, r, r, r, r, r, trivial⟩, hs.pick (.c .z (.c .z (.c .z .n)))⟩)))
       exact .skipS [10, 9, 8, 7, 3, 2] r r (.region (.ks 3 r (.nil' fun c w ho hs => ⟨(w64 (s1486 + 1)), hd, I1529, le1533, ho.sub ⟨r, r, r, r, r, r, trivial⟩, hs.pick (.c .z (.c .z (.c .z .n)))⟩)))
     exact .exitS [9, 8, 7, 3, 2] r r (.region (.loadW ia46 sz46 r (.s (.s .z)) r r r (.storeA sz46 r r (.s .z) (.t (.t (.t (.t (.t .nil))))) r r (.nilS [8, 7, 3, 2] r r (.drop (.s (.s .z)) (.region (.ks 3 r (.nil' fun c w ho hs => ⟨(r1198.Low, r1198.High, r1198.A, r1198.B, r1198.On, w64 (s1120 + 1)), hd, I1488, _, _, _, _, _, _, le1491, R1206, R1209, R1212, ho.sub ⟨r, r, r, r, trivial⟩, hs.pick (.c .z (.c .z .n))⟩))))))))
   refine .exitS [] r r (.drop .z (.drop .z (.sr ?_)))
   have hw1625 := W_law21_live (I := I1122) hd
   refine .callP call7 r hw1625 r r fun v1626 hv1627 => ?_
   obtain ⟨r1624, rfl, hd⟩ := hv1627
   exact .ks 1 r (.nilS [6] r r (.ret (pret results6 (.t r .n) le1124 ⟨r1624, r, hd⟩)))
 rw [hb1127]
 refine .ks 3 r (.nilS [27, 8, 7, 3, 2] r r (.condKF r r (.exitS [] r r (.drop .z (.drop .z (.sr ?_))))))
 have hw1629 := W_law21_live (I := I1122) hd
 refine .callP call7 r hw1629 r r fun v1630 hv1631 => ?_
 obtain ⟨r1628, rfl, hd⟩ := hv1631
 exact .ks 1 r (.nilS [6] r r (.ret (pret results6 (.t r .n) le1124 ⟨r1628, r, hd⟩)))

end Go.Proofs.YtggmiaebkplnlaaGreat
