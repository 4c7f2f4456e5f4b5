/- The walks (printed by a program of ours). -/
import Derived.Test.YtggmiaebkplnlaaGreatV2
namespace Go.Proofs.YtggmiaebkplnlaaGreat
open Go Go.Fw
set_option linter.unusedVariables false
set_option linter.unusedSimpArgs false
set_option maxRecDepth 8000
set_option maxHeartbeats 1000000
open Tryz
theorem W_ref02_Is {I : IH} {a0 : Int} {Q : Bool → Prop}  (hd : ref02_Is a0 Q) :
  PFun prog 120 [.int .i64 a0] I (fun _ => o0_ Q) := by
 refine Fun.enter func120 r ntmps120 r (.c .n) fun w0 M => ?_
 refine .sr (.ks 1 r (.nilS [0] r r (.sr (.ks 3 r ?_))))
 refine splitP hd (fun hb1 hd => ?_) fun hb1 hd => ?_
 · rw [hb1]
   exact .ks 4 r (.nilS [2] r r (.ret (pret results120 (.t r .n) (.refl _) ⟨(decide (a0 ≤ 5)), r, hd⟩)))
 rw [hb1]
 exact .ks 4 r (.nilS [2] r r (.ret (pret results120 (.t r .n) (.refl _) ⟨false, r, hd⟩)))

theorem W_ref05_below {I : IH} {a0 : Edge} {a1 : Edge} {Q : Bool → Prop}  (hd : ref05_below a0 a1 Q) :
  PFun prog 132 [.agg (encEdge a0).toArray, .agg (encEdge a1).toArray] I (fun _ => o0_ Q) := by
 refine Fun.enter func132 r ntmps132 r (.c (.c .n)) fun w0 M => ?_
 refine .sr (.boxA r r r fun b5 => ?_)
 refine .boxA r r r fun b7 => ?_
 refine .ks 1 r (.nilS [3, 2] r r (.sr (.fa un73 r sz3 r (o := 0) r r r (.load1 ia3 r (.s .z) r r r (.fa un73 r sz3 r (o := 0) r r r (.load1 ia3 r .z r r r (.ks 2 r ?_)))))))
 refine splitP hd (fun hb9 hd => ?_) fun hb9 hd => ?_
 · rw [hb9]
   exact .ks 14 r (.nilS [4] r r (.drop .z (.drop .z (.ret (pret results132 (.t r .n) (.refl _) ⟨true, r, hd⟩)))))
 rw [hb9]
 refine .gyes r r r (.fa un73 r sz3 r (o := 0) r r r (.gyes r r r (.load1 ia3 r (.s .z) r r r (.gyes r r r (.fa un73 r sz3 r (o := 0) r r r (.gyes r r r (.load1 ia3 r .z r r r (.ks 2 r ?_))))))))
 refine splitP hd (fun hb10 hd => ?_) fun hb10 hd => ?_
 · rw [hb10]
   exact .gyes r r r (.fa un73 r sz3 r (o := 1) r r r (.gyes r r r (.load1 ia3 r (.s .z) r r r (.gyes r r r (.fa un73 r sz3 r (o := 1) r r r (.gyes r r r (.load1 ia3 r .z r r r (.ks 4 r (.nilS [4] r r (.drop .z (.drop .z (.ret (pret results132 (.t r .n) (.refl _) ⟨(decide (a0.To < a1.To)), r, hd⟩)))))))))))))
 rw [hb10]
 exact .ks 8 r (.nilS [4] r r (.drop .z (.drop .z (.ret (pret results132 (.t r .n) (.refl _) ⟨false, r, hd⟩)))))

theorem W_ref01_Of {I : IH} {a0 : Int} {Q : Wide → Prop}  (hd : ref01_Of a0 Q) :
  PFun prog 133 [.int .i64 a0] I (fun _ => o2_ Q) := by
 refine Fun.enter func133 r ntmps133 r (.c .n) fun w0 M => ?_
 refine .sr (.allocA zv144 r r fun b3 => ?_)
 refine .nilS [2, 0] r r (.seq (.sr (.ks 2 r (.nilS [4, 2, 0] r r (.condP r hd (fun hb5 hd => ?_) fun hb5 hd => ?_)))))
 · exact .sr (.ks 1 r (.conv un2 un96 r r r (.build zv144 un144 BI144 (.c r r r (.t .nil) (.c r r r (.s (.t .nil)) .n)) (by exact ⟨⟨_, _, r, r, r⟩, ⟨⟨_, _, r, r, r⟩, trivial⟩⟩) r r (.storeA sz144 r r .z (.t (.t .nil)) r r (.nilS [2] r r (.ret (pret results133 (.w ia144 sz144 r .z r .n) (.refl _) ⟨({ Hi := (-1), Lo := IntKind.wrap .u64 (a0) } : Wide), r, hd⟩)))))))
 exact .skipS [2, 0] r r (.sr (.ks 1 r (.conv un2 un96 r r r (.build zv144 un144 BI144 (.c r r r (.s (.t .nil)) .n) (by exact ⟨⟨_, _, r, r, r⟩, trivial⟩) r r (.storeA sz144 r r .z (.t (.t .nil)) r r (.nilS [2] r r (.ret (pret results133 (.w ia144 sz144 r .z r .n) (.refl _) ⟨({ Hi := 0, Lo := IntKind.wrap .u64 (a0) } : Wide), r, hd⟩))))))))

theorem W_ref01_Compare {I : IH} {a0 : Wide} {a1 : Wide} {Q : Int → Prop}  (hd : ref01_Compare a0 a1 Q) :
  PFun prog 147 [.agg (encWide a0).toArray, .agg (encWide a1).toArray] I (fun _ => o1_ Q) := by
 refine Fun.enter func147 r ntmps147 r (.c (.c .n)) fun w0 M => ?_
 refine .sr (.boxA r r r fun b5 => ?_)
 refine .boxA r r r fun b7 => ?_
 refine .ks 1 r (.nilS [3, 2] r r (.seq ?_))
 refine Cod.joinQ (σ := Unit) hd (fun (_ : Unit) c w => ∃ I_, IH.le I I_ ∧ Ok ⟨27, [], none⟩ [(2, .pointer (some ⟨b5, 0, none⟩)), (3, .pointer (some ⟨b7, 0, none⟩))] c ∧ Sym w0 M I I_ [pto b5 (.cells #[.int .i64 a0.Hi, .int .u64 a0.Lo] 144 (0, 0)), pto b7 (.cells #[.int .i64 a1.Hi, .int .u64 a1.Lo] 144 (0, 0))] w) (fun k15 hd => ?_) ?_
 · skip
   refine .sr (.fa un144 r sz2 r (o := 0) r r r (.load1 ia2 r (.s .z) r r r (.fa un144 r sz2 r (o := 0) r r r (.load1 ia2 r .z r r r (.ks 2 r ?_)))))
   refine splitP hd (fun hb16 hd => ?_) fun hb16 hd => ?_
   · rw [hb16]
     exact .ks 13 r (.nilS [23, 3, 2] r r (.condKT r r (.sr (.ks 1 r (.nilS [4] r r (.drop .z (.drop .z (.ret (pret results147 (.t r .n) (.refl _) ⟨(-1), r, hd⟩)))))))))
   rw [hb16]
   refine .gyes r r r (.fa un144 r sz2 r (o := 0) r r r (.gyes r r r (.load1 ia2 r (.s .z) r r r (.gyes r r r (.fa un144 r sz2 r (o := 0) r r r (.gyes r r r (.load1 ia2 r .z r r r (.ks 2 r ?_))))))))
   refine splitP hd (fun hb17 hd => ?_) fun hb17 hd => ?_
   · rw [hb17]
     refine .gyes r r r (.fa un144 r sz96 r (o := 1) r r r (.gyes r r r (.load1 ia96 r (.s .z) r r r (.gyes r r r (.fa un144 r sz96 r (o := 1) r r r (.gyes r r r (.load1 ia96 r .z r r r (.ks 3 r (.nilS [23, 3, 2] r r (.condP r hd (fun hb18 hd => ?_) fun hb18 hd => ?_))))))))))
     · exact .sr (.ks 1 r (.nilS [4] r r (.drop .z (.drop .z (.ret (pret results147 (.t r .n) (.refl _) ⟨(-1), r, hd⟩))))))
     exact .skip' fun c w ho hs => ⟨(), hd, I, (.refl _), ho.sub ⟨r, r, trivial⟩, hs.pick (.c (.s .z) (.c .z .n))⟩
   rw [hb17]
   exact .ks 7 r (.nilS [23, 3, 2] r r (.condKF r r (.skip' fun c w ho hs => ⟨(), hd, I, (.refl _), ho.sub ⟨r, r, trivial⟩, hs.pick (.c (.s .z) (.c .z .n))⟩)))
 rintro ⟨⟩ hd c w hst
 obtain ⟨I19, hl20, hok, hsym⟩ := hst
 refine Cod.at hok hsym (.seq (.sr (.loadW ia144 sz144 r .z r r r (.loadW ia144 sz144 r (.s .z) r r r (.eqV r r (EQ144 a0 a1) (EG144 _ _ _ _ _) r r r (.nilS [26] r r (.drop .z (.drop .z (.condP r hd (fun hb21 hd => ?_) fun hb21 hd => ?_)))))))))
 · exact .sr (.ks 1 r (.nilS [4] r r (.ret (pret results147 (.t r .n) hl20 ⟨0, r, hd⟩))))
 exact .skipS [] r r (.sr (.ks 1 r (.nilS [4] r r (.ret (pret results147 (.t r .n) hl20 ⟨1, r, hd⟩)))))

theorem W_ref02_truth {I : IH} {a0 : Bool} {Q : Wide → Prop}  (hd : ref02_truth a0 Q) :
  PFun prog 148 [.bool a0] I (fun _ => o2_ Q) := by
 refine Fun.enter func148 r ntmps148 r (.c .n) fun w0 M => ?_
 refine .sr (.allocA zv144 r r fun b3 => ?_)
 refine .nilS [2, 0] r r (.seq (.sr (.ks 1 r (.nilS [3, 2] r r (.condP r hd (fun hb5 hd => ?_) fun hb5 hd => ?_)))))
 · exact .sr (.build zv144 un144 BI144 (.c r r r (.s (.t .nil)) .n) (by exact ⟨⟨_, _, r, r, r⟩, trivial⟩) r r (.storeA sz144 r r .z (.t (.t .nil)) r r (.nilS [2] r r (.ret (pret results148 (.w ia144 sz144 r .z r .n) (.refl _) ⟨({ Hi := 0, Lo := 1 } : Wide), r, hd⟩)))))
 exact .skipS [2] r r (.sr (.build zv144 un144 BI144 .n (by exact trivial) r r (.storeA sz144 r r .z (.t (.t .nil)) r r (.nilS [2] r r (.ret (pret results148 (.w ia144 sz144 r .z r .n) (.refl _) ⟨({ Hi := 0, Lo := 0 } : Wide), r, hd⟩))))))

theorem W_ref01_Add {I : IH} {a0 : Wide} {a1 : Wide} {Q : Wide → Prop}  (hd : ref01_Add a0 a1 Q) :
  PFun prog 149 [.agg (encWide a0).toArray, .agg (encWide a1).toArray] I (fun _ => o2_ Q) := by
 refine Fun.enter func149 r ntmps149 r (.c (.c .n)) fun w0 M => ?_
 refine .sr (.boxA r r r fun b7 => ?_)
 refine .boxA r r r fun b9 => ?_
 refine .allocA zv144 r r fun b11 => ?_
 refine .nilS [4, 3, 2] r r (.sr (.fa un144 r sz96 r (o := 1) r r r (.load1 ia96 r (.s (.s .z)) r r r (.fa un144 r sz96 r (o := 1) r r r (.load1 ia96 r (.s .z) r r r (.ks 2 r (.nilS [5, 4, 3, 2] r r (.sr (.fa un144 r sz2 r (o := 0) r r r ?_)))))))))
 refine .load1 ia2 r (.s (.s .z)) r r r (.fa un144 r sz2 r (o := 0) r r r (.load1 ia2 r (.s .z) r r r (.ks 2 r (.nilS [6, 5, 4, 2] r r (.drop (.s .z) (.seq (.sr (.ks 1 r (.fa un144 r sz96 r (o := 1) r r r ?_)))))))))
 refine .load1 ia96 r (.s .z) r r r (.ks 1 r (.nilS [20, 6, 5, 4] r r (.drop (.s .z) (.condP r hd (fun hb13 hd => ?_) fun hb13 hd => ?_))))
 · exact .region (.ks 3 r (.nilS [6, 5, 4] r r (.sr (.ks 2 r (.build zv144 un144 BI144 (.c r r r (.t .nil) (.c r r r (.s (.t .nil)) .n)) (by exact ⟨⟨_, _, r, r, r⟩, ⟨⟨_, _, r, r, r⟩, trivial⟩⟩) r r (.storeA sz144 r r .z (.t (.t .nil)) r r (.nilS [4] r r (.ret (pret results149 (.w ia144 sz144 r .z r .n) (.refl _) ⟨({ Hi := w64 ((w64 (a0.Hi + a1.Hi)) + 1), Lo := IntKind.wrap .u64 (a0.Lo + a1.Lo) } : Wide), r, hd⟩)))))))))
 exact .skipS [6, 5, 4] r r (.sr (.ks 2 r (.build zv144 un144 BI144 (.c r r r (.t .nil) (.c r r r (.s (.t .nil)) .n)) (by exact ⟨⟨_, _, r, r, r⟩, ⟨⟨_, _, r, r, r⟩, trivial⟩⟩) r r (.storeA sz144 r r .z (.t (.t .nil)) r r (.nilS [4] r r (.ret (pret results149 (.w ia144 sz144 r .z r .n) (.refl _) ⟨({ Hi := w64 (a0.Hi + a1.Hi), Lo := IntKind.wrap .u64 (a0.Lo + a1.Lo) } : Wide), r, hd⟩)))))))

theorem W_ref02_Add {I : IH} {a0 : Int} {a1 : Wide} {a2 : Wide} {Q : Wide → Prop}  (hd : ref02_Add a0 a1 a2 Q) :
  PFun prog 134 [.int .i64 a0, .agg (encWide a1).toArray, .agg (encWide a2).toArray] I (fun _ => o2_ Q) := by
 refine Fun.enter func134 r ntmps134 r (.c (.c (.c .n))) fun w0 M => ?_
 refine .sr (.boxA r r r fun b7 => ?_)
 refine .boxA r r r fun b9 => ?_
 refine .allocA zv144 r r fun b11 => ?_
 refine .nilS [6, 5, 4, 0] r r (.sr (.ks 1 r (.nilS [7, 6, 5, 4] r r (.block (.seq ?_)))))
 refine Cod.joinQ (σ := Bool) hd (fun (s17 : Bool) c w => ∃ I_, IH.le I I_ ∧ Ok ⟨35, [], none⟩ [(4, .pointer (some ⟨b7, 0, none⟩)), (5, .pointer (some ⟨b9, 0, none⟩)), (6, .pointer (some ⟨b11, 0, none⟩)), (7, .int .i64 a0), (9, .bool s17)] c ∧ Sym w0 M I I_ [pto b7 (.cells #[.int .i64 a1.Hi, .int .u64 a1.Lo] 144 (0, 0)), pto b9 (.cells #[.int .i64 a2.Hi, .int .u64 a2.Lo] 144 (0, 0)), pto b11 (.cells #[.int .i64 0, .int .u64 0] 144 (0, 0))] w) (fun k18 hd => ?_) ?_
 · skip
   refine .sr (.ks 2 r (.nilS [9, 7, 6, 5, 4] r r (.condP r hd (fun hb19 hd => ?_) fun hb19 hd => ?_)))
   · exact .skip' fun c w ho hs => ⟨(a0 == 1), hd, I, (.refl _), ho.sub ⟨r, r, r, r, r, trivial⟩, hs.pick (.c (.s (.s .z)) (.c (.s .z) (.c .z .n)))⟩
   refine .sr (.ks 2 r (.nilS [9, 7, 6, 5, 4] r r (.condP r hd (fun hb20 hd => ?_) fun hb20 hd => ?_)))
   · exact .skip' fun c w ho hs => ⟨(a0 == 3), hd, I, (.refl _), ho.sub ⟨r, r, r, r, r, trivial⟩, hs.pick (.c (.s (.s .z)) (.c (.s .z) (.c .z .n)))⟩
   exact .region (.ks 2 r (.nil' fun c w ho hs => ⟨(a0 == 4), hd, I, (.refl _), ho.sub ⟨r, r, r, r, r, trivial⟩, hs.pick (.c (.s (.s .z)) (.c (.s .z) (.c .z .n)))⟩))
 rintro s17 hd c w hst
 obtain ⟨I21, hl22, hok, hsym⟩ := hst
 refine Cod.at hok hsym (.condP r hd (fun hb23 hd => ?_) fun hb23 hd => ?_)
 · refine .seq (.sr (.loadW ia144 sz144 r (.s .z) r r r (.loadW ia144 sz144 r .z r r r ?_)))
   have hw25 := W_ref01_Compare (I := I21) hd
   refine .callP call147 r hw25 r r fun v26 hv27 => ?_
   obtain ⟨r24, rfl, hd⟩ := hv27
   refine .ks 1 r (.nilS [16, 6, 5, 4] r r (.condP r hd (fun hb28 hd => ?_) fun hb28 hd => ?_))
   · exact .sr (.loadW ia144 sz144 r (.s .z) r r r (.storeA sz144 r r (.s (.s .z)) (.t (.t .nil)) r r (.nilS [6] r r (.drop .z (.drop .z (.ret (pret results134 (.w ia144 sz144 r .z r .n) hl22 ⟨a2, r, hd⟩)))))))
   exact .skipS [6, 4] r r (.drop (.s .z) (.sr (.loadW ia144 sz144 r .z r r r (.storeA sz144 r r (.s .z) (.t (.t .nil)) r r (.nilS [6] r r (.drop .z (.ret (pret results134 (.w ia144 sz144 r .z r .n) hl22 ⟨a1, r, hd⟩))))))))
 refine .sr (.ks 2 r (.nilS [19, 7, 6, 5, 4] r r (.condP r hd (fun hb29 hd => ?_) fun hb29 hd => ?_)))
 · refine .sr (.loadW ia144 sz144 r .z r r r (.build zv144 un144 BI144 .n (by exact trivial) r r (.neV r r (EQ144 a1 ({ Hi := 0, Lo := 0 } : Wide)) (EG144 _ _ _ _ _) r r r (.ks 1 r ?_))))
   refine splitP hd (fun hb30 hd => ?_) fun hb30 hd => ?_
   · rw [hb30]
     refine .ks 4 r ?_
     have hw32 := W_ref02_truth (I := I21) hd
     refine .callP call148 r hw32 r r fun v33 hv34 => ?_
     obtain ⟨r31, rfl, hd⟩ := hv34
     exact .storeA sz144 r r (.s (.s .z)) (.t (.t .nil)) r r (.nilS [6] r r (.drop .z (.drop .z (.ret (pret results134 (.w ia144 sz144 r .z r .n) hl22 ⟨r31, r, hd⟩)))))
   rw [hb30]
   refine .gyes r r r (.loadW ia144 sz144 r (.s .z) r r r (.gyes r r r (.build zv144 un144 BI144 .n (by exact trivial) r r (.gyes r r r (.neV r r (EQ144 a2 ({ Hi := 0, Lo := 0 } : Wide)) (EG144 _ _ _ _ _) r r r (.ks 1 r ?_))))))
   have hw36 := W_ref02_truth (I := I21) hd
   refine .callP call148 r hw36 r r fun v37 hv38 => ?_
   obtain ⟨r35, rfl, hd⟩ := hv38
   exact .storeA sz144 r r (.s (.s .z)) (.t (.t .nil)) r r (.nilS [6] r r (.drop .z (.drop .z (.ret (pret results134 (.w ia144 sz144 r .z r .n) hl22 ⟨r35, r, hd⟩)))))
 refine .sr (.ks 2 r (.nilS [30, 6, 5, 4] r r (.condP r hd (fun hb39 hd => ?_) fun hb39 hd => ?_)))
 · refine .sr (.loadW ia144 sz144 r .z r r r (.loadW ia144 sz144 r (.s .z) r r r ?_))
   have hw41 := W_ref01_Add (I := I21) hd
   refine .callP call149 r hw41 r r fun v42 hv43 => ?_
   obtain ⟨r40, rfl, hd⟩ := hv43
   exact .storeA sz144 r r (.s (.s .z)) (.t (.t .nil)) r r (.nilS [6] r r (.drop .z (.drop .z (.ret (pret results134 (.w ia144 sz144 r .z r .n) hl22 ⟨r40, r, hd⟩)))))
 exact .sr (.build zv144 un144 BI144 .n (by exact trivial) r r (.storeA sz144 r r (.s (.s .z)) (.t (.t .nil)) r r (.nilS [6] r r (.drop .z (.drop .z (.ret (pret results134 (.w ia144 sz144 r .z r .n) hl22 ⟨({ Hi := 0, Lo := 0 } : Wide), r, hd⟩)))))))

theorem W_ref01_Narrow {I : IH} {a0 : Wide} {Q : (Int × Bool) → Prop}  (hd : ref01_Narrow a0 Q) :
  PFun prog 135 [.agg (encWide a0).toArray] I (fun _ => o4_ Q) := by
 refine Fun.enter func135 r ntmps135 r (.c .n) fun w0 M => ?_
 refine .sr (.boxA r r r fun b3 => ?_)
 refine .ks 2 r (.nilS [1] r r (.sr (.fa un144 r sz96 r (o := 1) r r r (.load1 ia96 r .z r r r (.conv un96 un2 r r r (.ks 1 r (.nilS [4, 1] r r (.seq (.sr ?_)))))))))
 refine .fa un144 r sz2 r (o := 0) r r r (.load1 ia2 r .z r r r (.ks 2 r ?_))
 refine splitP hd (fun hb5 hd => ?_) fun hb5 hd => ?_
 · rw [hb5]
   refine .ks 4 r ?_
   refine splitP hd (fun hb6 hd => ?_) fun hb6 hd => ?_
   · rw [hb6]
     exact .ks 8 r (.nilS [23, 4] r r (.drop .z (.condKT r r (.sr (.ks 3 r (.nilS [3, 2] r r (.ret (pret results135 (.t r (.t r .n)) (.refl _) ⟨(w64 (a0.Lo), true), r, hd⟩))))))))
   rw [hb6]
   refine .gyes r r r (.fa un144 r sz2 r (o := 0) r r r (.gyes r r r (.load1 ia2 r .z r r r (.ks 2 r ?_))))
   refine splitP hd (fun hb7 hd => ?_) fun hb7 hd => ?_
   · rw [hb7]
     refine .ks 4 r (.nilS [23, 4] r r (.drop .z (.condP r hd (fun hb8 hd => ?_) fun hb8 hd => ?_)))
     · exact .sr (.ks 3 r (.nilS [3, 2] r r (.ret (pret results135 (.t r (.t r .n)) (.refl _) ⟨(w64 (a0.Lo), true), r, hd⟩))))
     exact .skipS [] r r (.sr (.ks 2 r (.nilS [3, 2] r r (.ret (pret results135 (.t r (.t r .n)) (.refl _) ⟨(0, false), r, hd⟩)))))
   rw [hb7]
   exact .ks 4 r (.nilS [23, 4] r r (.drop .z (.condKF r r (.skipS [] r r (.sr (.ks 2 r (.nilS [3, 2] r r (.ret (pret results135 (.t r (.t r .n)) (.refl _) ⟨(0, false), r, hd⟩)))))))))
 rw [hb5]
 refine .ks 4 r (.gyes r r r (.fa un144 r sz2 r (o := 0) r r r (.gyes r r r (.load1 ia2 r .z r r r (.ks 2 r ?_)))))
 refine splitP hd (fun hb9 hd => ?_) fun hb9 hd => ?_
 · rw [hb9]
   refine .ks 4 r (.nilS [23, 4] r r (.drop .z (.condP r hd (fun hb10 hd => ?_) fun hb10 hd => ?_)))
   · exact .sr (.ks 3 r (.nilS [3, 2] r r (.ret (pret results135 (.t r (.t r .n)) (.refl _) ⟨(w64 (a0.Lo), true), r, hd⟩))))
   exact .skipS [] r r (.sr (.ks 2 r (.nilS [3, 2] r r (.ret (pret results135 (.t r (.t r .n)) (.refl _) ⟨(0, false), r, hd⟩)))))
 rw [hb9]
 exact .ks 4 r (.nilS [23, 4] r r (.drop .z (.condKF r r (.skipS [] r r (.sr (.ks 2 r (.nilS [3, 2] r r (.ret (pret results135 (.t r (.t r .n)) (.refl _) ⟨(0, false), r, hd⟩)))))))))

theorem W_ref05_Combine {I : IH} {a0 : Int} {a1 : List Edge} {p1 : Option Addr} {c2 : Nat} {Q : ((List Edge) × Int) → Prop} (R3 : RepSl eEdge I p1 c2 a1) (hd : ref05_Combine a0 a1 Q) :
  OFun prog 116 [.int .i64 a0, .slice p1 a1.length c2] I (fun I_ v l => ∃ r p4 c5, v = .tuple #[.slice p4 r.1.length c5, .int .i64 r.2] ∧ l = [OwnSl eEdge 73 p4 c5 r.1] ∧ Q r) := by
 refine Fun.enter func116 r ntmps116 r (.c (.c .n)) fun w0 M => ?_
 refine .sr (.ks 2 r (.nilS [1, 0] r r (.seq (.sr (.ks 1 r ?_)))))
 have hw13 := W_ref02_Is (I := I) hd
 refine .callP call120 r hw13 r r fun v14 hv15 => ?_
 obtain ⟨r12, rfl, hd⟩ := hv15
 refine .ks 1 r (.nilS [17, 1, 0] r r (.condP r hd (fun hb16 hd => ?_) fun hb16 hd => ?_))
 · exact .sr (.ks 2 r (.nilS [5, 4] r r (.own0 eEdge 73 (.ret (oret results116 (.t r (.t r .n)) (.refl _) (.c .z .n) ⟨(([] : List Edge), 8), _, _, r, r, hd⟩)))))
 refine .skipS [1, 0] r r (.sr (.ks 1 r (.nilS [6, 1, 0] r r (.sr (.ks 1 r (.nilS [7, 6, 1, 0] r r (.seq (.sr (.ks 1 r ?_)))))))))
 refine .nilS [8, 7, 6, 1, 0] r r (.block (.own0 eEdge 73 (.own0 eWide 144 (.loop hd (fun (s : (List Edge) × (List Wide) × Int) c w => match s with | (s2657, s2661, s2665) => ∃ I_ p2658 c2659 p2662 c2663, IH.le I I_ ∧ Ok ⟨145, [], none⟩ [(0, .int .i64 a0), (1, .slice p1 a1.length c2), (6, .slice p2658 s2657.length c2659), (7, .slice p2662 s2661.length c2663), (8, .int .i64 s2665)] c ∧ Sym w0 M I I_ [OwnSl eEdge 73 p2658 c2659 s2657, OwnSl eWide 144 p2662 c2663 s2661] w) (fun c w ho hs => ⟨I, _, _, _, _, (.refl _), ho.sub ⟨r, r, r, r, r, trivial⟩, hs.pick (.c (.s .z) (.c .z .n))⟩) ?_))))
 rintro ⟨s2657, s2661, s2665⟩ next2668 hd c w hst
 obtain ⟨I2669, p2658, c2659, p2662, c2663, hl2670, hok, hsym⟩ := hst
 replace R3 := R3.mono hl2670
 refine Cod.at hok hsym (.seq (.sr (.ks 2 r (.len un26 r r r r (.ks 1 r (.nilS [21, 8, 7, 6, 1, 0] r r (.condP r hd (fun hb2672 hd => ?_) fun hb2672 hd => ?_)))))))
 · refine .skipS [8, 7, 6, 1, 0] r r (.seq (.block (.sr (.ks 1 r (.nilS [9, 8, 7, 6, 1, 0] r r (.seq ?_))))))
   refine Cod.joinQ (σ := Int) hd (fun (s2821 : Int) c w => ∃ I_, IH.le I2669 I_ ∧ Ok ⟨145, [], none⟩ [(0, .int .i64 a0), (1, .slice p1 a1.length c2), (6, .slice p2658 s2657.length c2659), (7, .slice p2662 s2661.length c2663), (8, .int .i64 s2665), (9, .int .i64 s2821)] c ∧ Sym w0 M I I_ [OwnSl eEdge 73 p2658 c2659 s2657, OwnSl eWide 144 p2662 c2663 s2661] w) (fun k2822 hd => ?_) ?_
   · skip
     refine .block (.loop hd (fun (s2870 : Int) c w => ∃ I_, IH.le I2669 I_ ∧ Ok ⟨145, [], none⟩ [(0, .int .i64 a0), (1, .slice p1 a1.length c2), (6, .slice p2658 s2657.length c2659), (7, .slice p2662 s2661.length c2663), (8, .int .i64 s2665), (9, .int .i64 s2870)] c ∧ Sym w0 M I I_ [OwnSl eEdge 73 p2658 c2659 s2657, OwnSl eWide 144 p2662 c2663 s2661] w) (fun c w ho hs => ⟨I2669, (.refl _), ho.sub ⟨r, r, r, r, r, r, trivial⟩, hs.pick (.c .z (.c .z .n))⟩) ?_)
     rintro s2870 next2871 hd c w hst
     obtain ⟨I2872, hl2873, hok, hsym⟩ := hst
     have le2874 := IH.le.trans hl2670 hl2873
     replace R3 := R3.mono hl2873
     refine Cod.at hok hsym (.seq (.seq (.ownF .z fun hne2875 => ?_)))
     refine .ownF (.s .z) fun hne2876 => ?_
     refine .dr [0, 1, 2, 3, 4, 5, 6, 7, 8, 9, 10, 11, 12, 13, 14] 15 (.fk 2 r (.g r r r (fun _ => .len un26 r r r r .mk) (.fk 2 r ?_)))
     refine splitP hd (fun hb2877 hd => ?_) fun hb2877 hd => ?_
     · refine .g r r r (fun _ => .gyes r r hb2877 (.move r r r .mk)) (.g r r r (fun _ => .gyes r r hb2877 (.move r r r .mk)) ?_)
       obtain ⟨h2878, x2879, hx2880, hd⟩ := hd
       obtain ⟨b2881, e2882⟩ := hne2875 (idx_ne hx2880)
       cases e2882
       refine .g r r r (fun _ => .gyes r r hb2877 (.ixa0 un26 sz73 r r h2878 (idx_lt hx2880 h2878) r r .mk)) (.g r r r (fun _ => .gyes r r hb2877 (.loA (j := 0) ia73 sz73 .z hx2880 r r (.t (.t (.t .nil))) r r r .mk)) (.g r r r (fun _ => .gyes r r hb2877 (.move r r r .mk)) (.g r r r (fun _ => .gyes r r hb2877 (.move r r r .mk)) ?_)))
       obtain ⟨h2883, x2884, hx2885, hd⟩ := hd
       obtain ⟨b2886, o2887, cs2888, e2889, hC2890, hr2891⟩ := R3.2 _ _ hx2885
       cases hr2891
       refine .g r r r (fun _ => .gyes r r hb2877 (.ixa un26 sz73 r e2889 r h2883 (idx_lt hx2885 h2883) r r .mk)) (.g r r r (fun _ => .gyes r r hb2877 (.ldW ia73 sz73 hC2890 r r r r .mk)) (.ww r fun ex => ?_))
       have hw2893 := W_ref05_below (I := I2872) hd
       refine .gyes r r hb2877 (.callP call132 r hw2893 r r fun v2894 hv2895 => ?_)
       obtain ⟨r2892, rfl, hd⟩ := hv2895
       refine .so 2 r r r trivial (.g r r r (fun _ => .pickT r hb2877 r r r .mk) (.e2 15 (.nilS [38, 9, 8, 7, 6, 1, 0] r r (.condP r hd (fun hb2896 hd => ?_) fun hb2896 hd => ?_))))
       · exact .skipS [9, 8, 7, 6, 1, 0] r r (.block (.region (.ks 3 r (.nil' fun c w ho hs => ⟨(w64 (s2870 + 1)), hd, I2872, hl2873, ho.sub ⟨r, r, r, r, r, r, trivial⟩, hs.pick (.c .z (.c .z .n))⟩))))
       exact .exit fun c w ho hs => ⟨s2870, hd, I2872, hl2873, ho.sub ⟨r, r, r, r, r, r, trivial⟩, hs.pick (.c .z (.c .z .n))⟩
     refine .g r r r (fun _ => .gno r r hb2877 r r .mk) (.g r r r (fun _ => .gno r r hb2877 r r .mk) (.g r r r (fun _ => .gno r r hb2877 r r .mk) (.g r r r (fun _ => .gno r r hb2877 r r .mk) (.g r r r (fun _ => .gno r r hb2877 r r .mk) (.g r r r (fun _ => .gno r r hb2877 r r .mk) (.g r r r (fun _ => .gno r r hb2877 r r .mk) (.g r r r (fun _ => .gno r r hb2877 r r .mk) (.g r r r (fun _ => .gno r r hb2877 r r .mk) (.g r r r (fun _ => .pickF r hb2877 r r r .mk) ?_)))))))))
     exact .e2 15 (.nilS [38, 9, 8, 7, 6, 1, 0] r r (.condKF r r (.exit fun c w ho hs => ⟨s2870, hd, I2872, hl2873, ho.sub ⟨r, r, r, r, r, r, trivial⟩, hs.pick (.c .z (.c .z .n))⟩)))
   rintro s2821 hd c w hst
   obtain ⟨I2897, hl2898, hok, hsym⟩ := hst
   have le2899 := IH.le.trans hl2670 hl2898
   replace R3 := R3.mono hl2898
   refine Cod.at hok hsym (.sr (.ks 2 r ?_))
   obtain ⟨h2915, x2916, hx2917, hd⟩ := hd
   obtain ⟨b2918, o2919, cs2920, e2921, hC2922, hr2923⟩ := R3.2 _ _ hx2917
   cases hr2923
   refine .ixa un26 sz73 r e2921 r h2915 (idx_lt hx2917 h2915) r r (.fa un73 r sz2 r (o := o2919 + s2665.toNat * 3 + 2) r r r (.ld1 (j := 2) ia2 hC2922 r r r r r ?_))
   have hw2925 := W_ref01_Of (I := I2897) hd
   refine .callP call133 r hw2925 r r fun v2926 hv2927 => ?_
   obtain ⟨r2924, rfl, hd⟩ := hv2927
   refine .allocA zv144 r r fun b2928 => ?_
   refine .storeA sz144 r r .z (.t (.t .nil)) r r (.nilS [10, 9, 8, 7, 6, 1, 0] r r (.seq (.seq ?_)))
   refine Cod.joinQ (σ := Bool) hd (fun (s3056 : Bool) c w => ∃ I_, IH.le I2897 I_ ∧ Ok ⟨145, [], none⟩ [(0, .int .i64 a0), (1, .slice p1 a1.length c2), (6, .slice p2658 s2657.length c2659), (7, .slice p2662 s2661.length c2663), (8, .int .i64 s2665), (9, .int .i64 s2821), (10, .pointer (some ⟨b2928, 0, none⟩)), (62, .bool s3056)] c ∧ Sym w0 M I I_ [OwnSl eEdge 73 p2658 c2659 s2657, OwnSl eWide 144 p2662 c2663 s2661, pto b2928 (.cells #[.int .i64 r2924.Hi, .int .u64 r2924.Lo] 144 (0, 0))] w) (fun k3057 hd => ?_) ?_
   · skip
     refine .ownF (.s .z) fun hne3058 => ?_
     refine .ownF (.s (.s .z)) fun hne3059 => ?_
     refine .dr [0, 1, 2, 3, 4, 5, 6, 7, 8, 9, 10, 11, 12, 13, 14, 15] 16 (.fk 2 r (.g r r r (fun _ => .len un26 r r r r .mk) (.fk 2 r ?_)))
     refine splitP hd (fun hb3060 hd => ?_) fun hb3060 hd => ?_
     · refine .g r r r (fun _ => .gyes r r hb3060 (.move r r r .mk)) (.g r r r (fun _ => .gyes r r hb3060 (.move r r r .mk)) ?_)
       obtain ⟨h3061, x3062, hx3063, hd⟩ := hd
       obtain ⟨b3064, o3065, cs3066, e3067, hC3068, hr3069⟩ := R3.2 _ _ hx3063
       cases hr3069
       refine .g r r r (fun _ => .gyes r r hb3060 (.ixa un26 sz73 r e3067 r h3061 (idx_lt hx3063 h3061) r r .mk)) (.g r r r (fun _ => .gyes r r hb3060 (.ldW ia73 sz73 hC3068 r r r r .mk)) (.g r r r (fun _ => .gyes r r hb3060 (.move r r r .mk)) (.g r r r (fun _ => .gyes r r hb3060 (.move r r r .mk)) ?_)))
       obtain ⟨h3070, x3071, hx3072, hd⟩ := hd
       obtain ⟨b3073, e3074⟩ := hne3058 (idx_ne hx3072)
       cases e3074
       refine .g r r r (fun _ => .gyes r r hb3060 (.ixa0 un26 sz73 r r h3070 (idx_lt hx3072 h3070) r r .mk)) (.g r r r (fun _ => .gyes r r hb3060 (.loA (j := 0) ia73 sz73 (.s .z) hx3072 r r (.t (.t (.t .nil))) r r r .mk)) (.ww r fun ex => ?_))
       have hw3076 := W_ref05_below (I := I2897) hd
       refine .gyes r r hb3060 (.callP call132 r hw3076 r r fun v3077 hv3078 => ?_)
       obtain ⟨r3075, rfl, hd⟩ := hv3078
       exact .so 3 r r r trivial (.g r r r (fun _ => .gyes r r hb3060 (.not r r r .mk)) (.g r r r (fun _ => .pickT r hb3060 r r r .mk) (.e2 16 (.nil' fun c w ho hs => ⟨(!r3075), hd, I2897, (.refl _), ho.sub ⟨r, r, r, r, r, r, r, r, trivial⟩, hs.pick (.c (.s .z) (.c (.s .z) (.c .z .n)))⟩))))
     refine .g r r r (fun _ => .gno r r hb3060 r r .mk) (.g r r r (fun _ => .gno r r hb3060 r r .mk) (.g r r r (fun _ => .gno r r hb3060 r r .mk) (.g r r r (fun _ => .gno r r hb3060 r r .mk) (.g r r r (fun _ => .gno r r hb3060 r r .mk) (.g r r r (fun _ => .gno r r hb3060 r r .mk) (.g r r r (fun _ => .gno r r hb3060 r r .mk) (.g r r r (fun _ => .gno r r hb3060 r r .mk) (.g r r r (fun _ => .gno r r hb3060 r r .mk) (.g r r r (fun _ => .gno r r hb3060 r r .mk) ?_)))))))))
     exact .g r r r (fun _ => .pickF r hb3060 r r r .mk) (.e2 16 (.nil' fun c w ho hs => ⟨false, hd, I2897, (.refl _), ho.sub ⟨r, r, r, r, r, r, r, r, trivial⟩, hs.pick (.c (.s .z) (.c (.s .z) (.c .z .n)))⟩))
   rintro s3056 hd c w hst
   obtain ⟨I3079, hl3080, hok, hsym⟩ := hst
   have le3081 := IH.le.trans le2899 hl3080
   have le3082 := IH.le.trans hl2898 hl3080
   replace R3 := R3.mono hl3080
   refine Cod.at hok hsym (.condP r hd (fun hb3083 hd => ?_) fun hb3083 hd => ?_)
   · refine .seq (.ownF .z fun hne3084 => ?_)
     refine .ownF (.s .z) fun hne3085 => ?_
     refine .dr [0, 1, 2, 3, 4, 5, 6, 7, 8] 9 (.fk 5 r ?_)
     obtain ⟨h3086, x3087, hx3088, hd⟩ := hd
     obtain ⟨b3089, e3090⟩ := hne3085 (idx_ne hx3088)
     cases e3090
     refine .g r r r (fun _ => .ixa0 un151 sz144 r r h3086 (idx_lt hx3088 h3086) r r .mk) (.g r r r (fun _ => .loA (j := 0) ia144 sz144 (.s .z) hx3088 r r (.t (.t .nil)) r r r .mk) (.g r r r (fun _ => .loadW ia144 sz144 r (.s (.s .z)) r r r .mk) (.ww r fun ex => ?_)))
     have hw3092 := W_ref02_Add (I := I3079) hd
     refine .callP call134 r hw3092 r r fun v3093 hv3094 => ?_
     obtain ⟨r3091, rfl, hd⟩ := hv3094
     refine .so 3 r r r (.ck 2 r r trivial) (.e2 9 ?_)
     obtain ⟨h3095, x3096, hx3097, hd⟩ := hd
     exact .ixa0 un151 sz144 r r h3095 (idx_lt hx3097 h3095) r r (.stOA (j := 0) (v' := r3091) sz144 (.s .z) hx3097 r r r (.t (.t .nil)) r r (.sub (E' := [(0, _), (1, _), (6, _), (7, .slice (some ⟨b3089, 0, none⟩) (s2661.set s2821.toNat r3091).length c2663), (8, _), (9, _), (10, _), (62, _), (63, .slice (some ⟨b3089, 0, none⟩) (s2661.set s2821.toNat r3091).length c2663), (64, _), (65, _), (66, .slice (some ⟨b3089, 0, none⟩) (s2661.set s2821.toNat r3091).length c2663), (67, _), (68, _), (69, _), (70, _), (71, _), (72, _)]) ⟨r, r, r, (by simp only [List.length_set]; rfl), r, r, r, r, (by simp only [List.length_set]; rfl), r, r, (by simp only [List.length_set]; rfl), r, r, r, r, r, r, trivial⟩ (.nilS [8, 7, 6, 1, 0] r r (.drop (.s (.s .z)) (.exitS [8, 7, 6, 1, 0] r r (.region (.ks 3 r (.nil' fun c w ho hs => ⟨(s2657, (s2661.set s2821.toNat r3091), w64 (s2665 + 1)), hd, I3079, _, _, _, _, le3081, ho.sub ⟨r, r, r, r, r, trivial⟩, hs.pick (.c .z (.c .z .n))⟩))))))))
   refine .skipS [10, 9, 8, 7, 6, 1, 0] r r (.sr (.ks 1 r (.build zv73 un73 BI73 .n (by exact trivial) r r (.buildSlice 1 un26 sz73 zv73 r r (.c r r r .n) r r fun b3104 => ?_))))
   obtain ⟨hl3106, hd⟩ := hd
   refine .append (ys := [({ From := 0, To := 0, W := 0 } : Edge)]) 24 (.s .z) un26 un26 IN73 r r r r r r r r r (.box .z (.one r) r) hl3106 r r fun p3107 c3108 => ?_
   refine .ks 1 r (.nilS [6, 10, 9, 8, 7, 1, 0] r r (.drop (.s .z) (.sr (.ks 1 r (.build zv144 un144 BI144 .n (by exact trivial) r r (.buildSlice 1 un151 sz144 zv144 r r (.c r r r .n) r r fun b3116 => ?_))))))
   obtain ⟨hl3118, hd⟩ := hd
   refine .append (ys := [({ Hi := 0, Lo := 0 } : Wide)]) 16 (.s (.s .z)) un151 un151 IN144 r r r r r r r r r (.box .z (.one r) r) hl3118 r r fun p3119 c3120 => ?_
   refine .ks 1 r (.nilS [7, 6, 10, 9, 8, 1, 0] r r (.drop (.s .z) (.seq (.sr (.ks 1 r (.len un26 r r r r (.ks 2 r (.nilS [11, 7, 6, 10, 9, 8, 1, 0] r r (.block ?_)))))))))
   refine .loop hd (fun (s : (List Edge) × (List Wide) × Int) c w => match s with | (s3281, s3285, s3289) => ∃ I_ p3282 c3283 p3286 c3287, IH.le I3079 I_ ∧ Ok ⟨145, [], none⟩ [(0, .int .i64 a0), (1, .slice p1 a1.length c2), (6, .slice p3282 s3281.length c3283), (7, .slice p3286 s3285.length c3287), (8, .int .i64 s2665), (9, .int .i64 s2821), (10, .pointer (some ⟨b2928, 0, none⟩)), (11, .int .i64 s3289)] c ∧ Sym w0 M I I_ [OwnSl eEdge 73 p3282 c3283 s3281, OwnSl eWide 144 p3286 c3287 s3285, pto b2928 (.cells #[.int .i64 r2924.Hi, .int .u64 r2924.Lo] 144 (0, 0))] w) (fun c w ho hs => ⟨I3079, _, _, _, _, (.refl _), ho.sub ⟨r, r, r, r, r, r, r, r, trivial⟩, hs.pick (.c (.s .z) (.c .z (.c .z .n)))⟩) ?_
   rintro ⟨s3281, s3285, s3289⟩ next3290 hd c w hst
   obtain ⟨I3291, p3282, c3283, p3286, c3287, hl3292, hok, hsym⟩ := hst
   have le3293 := IH.le.trans le3081 hl3292
   have le3294 := IH.le.trans le3082 hl3292
   have le3295 := IH.le.trans hl3080 hl3292
   replace R3 := R3.mono hl3292
   refine Cod.at hok hsym (.seq (.sr (.ks 3 r (.nilS [86, 11, 10, 9, 8, 7, 6, 1, 0] r r (.condP r hd (fun hb3297 hd => ?_) fun hb3297 hd => ?_)))))
   · refine .skipS [11, 10, 9, 8, 7, 6, 1, 0] r r (.seq (.block (.sr (.ks 5 r ?_))))
     obtain ⟨h3298, x3299, hx3300, hd⟩ := hd
     refine .ownNe .z (idx_ne hx3300) fun b3301 e3302 => ?_
     cases e3302
     refine .ixa0 un26 sz73 r r h3298 (idx_lt hx3300 h3298) r r (.loA (j := 0) ia73 sz73 .z hx3300 r r (.t (.t (.t .nil))) r r r ?_)
     obtain ⟨h3303, x3304, hx3305, hd⟩ := hd
     refine .ixa0 un26 sz73 r r h3303 (idx_lt hx3305 h3303) r r (.stOA (j := 0) (v' := x3299) sz73 .z hx3305 r r r (.t (.t (.t .nil))) r r (.sub (E' := [(0, _), (1, _), (6, .slice (some ⟨b3301, 0, none⟩) (s3281.set s3289.toNat x3299).length c3283), (7, _), (8, _), (9, _), (10, _), (11, _), (89, .slice (some ⟨b3301, 0, none⟩) (s3281.set s3289.toNat x3299).length c3283), (90, _), (91, .slice (some ⟨b3301, 0, none⟩) (s3281.set s3289.toNat x3299).length c3283), (92, _), (93, _), (94, _), (95, _), (96, _)]) ⟨r, r, (by simp only [List.length_set]; rfl), r, r, r, r, r, (by simp only [List.length_set]; rfl), r, (by simp only [List.length_set]; rfl), r, r, r, r, r, trivial⟩ (.nilS [11, 10, 9, 8, 7, 6, 1, 0] r r (.region (.ks 5 r ?_)))))
     obtain ⟨h3306, x3307, hx3308, hd⟩ := hd
     refine .ownNe (.s .z) (idx_ne hx3308) fun b3309 e3310 => ?_
     cases e3310
     refine .ixa0 un151 sz144 r r h3306 (idx_lt hx3308 h3306) r r (.loA (j := 0) ia144 sz144 (.s .z) hx3308 r r (.t (.t .nil)) r r r ?_)
     obtain ⟨h3311, x3312, hx3313, hd⟩ := hd
     exact .ixa0 un151 sz144 r r h3311 (idx_lt hx3313 h3311) r r (.stOA (j := 0) (v' := x3307) sz144 (.s .z) hx3313 r r r (.t (.t .nil)) r r (.sub (E' := [(0, _), (1, _), (6, _), (7, .slice (some ⟨b3309, 0, none⟩) (s3285.set s3289.toNat x3307).length c3287), (8, _), (9, _), (10, _), (11, _), (97, .slice (some ⟨b3309, 0, none⟩) (s3285.set s3289.toNat x3307).length c3287), (98, _), (99, .slice (some ⟨b3309, 0, none⟩) (s3285.set s3289.toNat x3307).length c3287), (100, _), (101, _), (102, _), (103, _), (104, _)]) ⟨r, r, r, (by simp only [List.length_set]; rfl), r, r, r, r, (by simp only [List.length_set]; rfl), r, (by simp only [List.length_set]; rfl), r, r, r, r, r, trivial⟩ (.nilS [11, 10, 9, 8, 7, 6, 1, 0] r r (.region (.ks 3 r (.nil' fun c w ho hs => ⟨((s3281.set s3289.toNat x3299), (s3285.set s3289.toNat x3307), w64 (s3289 - 1)), hd, I3291, _, _, _, _, hl3292, ho.sub ⟨r, r, r, r, r, r, r, r, trivial⟩, hs.pick (.c .z (.c .z (.c .z .n)))⟩))))))
   refine .exitS [10, 9, 8, 7, 6, 1, 0] r r (.seq (.ownF .z fun hne3314 => ?_))
   refine .ownF (.s .z) fun hne3315 => ?_
   refine .dr [0, 1, 2, 3, 4, 5, 6, 7, 8, 9, 10, 11, 12] 13 (.fk 4 r ?_)
   obtain ⟨h3316, x3317, hx3318, hd⟩ := hd
   obtain ⟨b3319, o3320, cs3321, e3322, hC3323, hr3324⟩ := R3.2 _ _ hx3318
   cases hr3324
   refine .g r r r (fun _ => .ixa un26 sz73 r e3322 r h3316 (idx_lt hx3318 h3316) r r .mk) (.g r r r (fun _ => .fa un73 r sz3 r (o := o3320 + s2665.toNat * 3) r r r .mk) (.g r r r (fun _ => .ld1 (j := 0) ia3 hC3323 r r r r r .mk) (.fk 2 r ?_)))
   obtain ⟨h3325, x3326, hx3327, hd⟩ := hd
   obtain ⟨b3328, o3329, cs3330, e3331, hC3332, hr3333⟩ := R3.2 _ _ hx3327
   cases hr3333
   refine .g r r r (fun _ => .ixa un26 sz73 r e3331 r h3325 (idx_lt hx3327 h3325) r r .mk) (.g r r r (fun _ => .fa un73 r sz3 r (o := o3329 + s2665.toNat * 3 + 1) r r r .mk) (.g r r r (fun _ => .ld1 (j := 1) ia3 hC3332 r r r r r .mk) (.g r r r (fun _ => .build zv73 un73 BI73 (.c r r r (.t .nil) (.c r r r (.s (.t .nil)) .n)) (by exact ⟨⟨_, _, r, r, r⟩, ⟨⟨_, _, r, r, r⟩, trivial⟩⟩) r r .mk) (.e2 13 ?_))))
   obtain ⟨h3334, x3335, hx3336, hd⟩ := hd
   obtain ⟨b3337, e3338⟩ := hne3314 (idx_ne hx3336)
   cases e3338
   refine .ixa0 un26 sz73 r r h3334 (idx_lt hx3336 h3334) r r (.stOA (j := 0) (v' := ({ From := x3317.From, To := x3326.To, W := 0 } : Edge)) sz73 .z hx3336 r r r (.t (.t (.t .nil))) r r (.sub (E' := [(0, _), (1, _), (6, .slice (some ⟨b3337, 0, none⟩) (s3281.set s2821.toNat ({ From := x3317.From, To := x3326.To, W := 0 } : Edge)).length c3283), (7, _), (8, _), (9, _), (10, _), (105, .slice (some ⟨b3337, 0, none⟩) (s3281.set s2821.toNat ({ From := x3317.From, To := x3326.To, W := 0 } : Edge)).length c3283), (106, _), (107, _), (108, _), (109, _), (110, _), (111, _), (112, _), (113, _), (114, _), (115, _), (116, _), (117, _), (118, _)]) ⟨r, r, (by simp only [List.length_set]; rfl), r, r, r, r, (by simp only [List.length_set]; rfl), r, r, r, r, r, r, r, r, r, r, r, r, r, trivial⟩ (.nilS [10, 9, 8, 7, 6, 1, 0] r r (.region (.ks 2 r (.loadW ia144 sz144 r (.s (.s .z)) r r r ?_))))))
   obtain ⟨h3339, x3340, hx3341, hd⟩ := hd
   obtain ⟨b3342, e3343⟩ := hne3315 (idx_ne hx3341)
   cases e3343
   exact .ixa0 un151 sz144 r r h3339 (idx_lt hx3341 h3339) r r (.stOA (j := 0) (v' := r2924) sz144 (.s .z) hx3341 r r r (.t (.t .nil)) r r (.sub (E' := [(0, _), (1, _), (6, _), (7, .slice (some ⟨b3342, 0, none⟩) (s3285.set s2821.toNat r2924).length c3287), (8, _), (9, _), (10, _), (119, .slice (some ⟨b3342, 0, none⟩) (s3285.set s2821.toNat r2924).length c3287), (120, _), (121, _), (122, _)]) ⟨r, r, r, (by simp only [List.length_set]; rfl), r, r, r, (by simp only [List.length_set]; rfl), r, r, r, trivial⟩ (.nilS [8, 7, 6, 1, 0] r r (.drop (.s (.s .z)) (.region (.ks 3 r (.nil' fun c w ho hs => ⟨((s3281.set s2821.toNat ({ From := x3317.From, To := x3326.To, W := 0 } : Edge)), (s3285.set s2821.toNat r2924), w64 (s2665 + 1)), hd, I3291, _, _, _, _, le3293, ho.sub ⟨r, r, r, r, r, trivial⟩, hs.pick (.c .z (.c .z .n))⟩)))))))
 refine .exitS [7, 6] r r (.seq (.sr (.ks 1 r (.nilS [12, 7, 6] r r (.block (.loop hd (fun (s : (List Edge) × Int) c w => match s with | (s3411, s3415) => ∃ I_ p3412 c3413, IH.le I2669 I_ ∧ Ok ⟨145, [], none⟩ [(6, .slice p3412 s3411.length c3413), (7, .slice p2662 s2661.length c2663), (12, .int .i64 s3415)] c ∧ Sym w0 M I I_ [OwnSl eEdge 73 p3412 c3413 s3411, OwnSl eWide 144 p2662 c2663 s2661] w) (fun c w ho hs => ⟨I2669, _, _, (.refl _), ho.sub ⟨r, r, r, trivial⟩, hs.pick (.c .z (.c .z .n))⟩) ?_))))))
 rintro ⟨s3411, s3415⟩ next3416 hd c w hst
 obtain ⟨I3417, p3412, c3413, hl3418, hok, hsym⟩ := hst
 have le3419 := IH.le.trans hl2670 hl3418
 refine Cod.at hok hsym (.seq (.sr (.ks 2 r (.len un26 r r r r (.ks 1 r (.nilS [126, 12, 7, 6] r r (.condP r hd (fun hb3421 hd => ?_) fun hb3421 hd => ?_)))))))
 · refine .skipS [12, 7, 6] r r (.seq (.block (.sr (.ks 2 r ?_))))
   obtain ⟨h3431, x3432, hx3433, hd⟩ := hd
   refine .ownNe (.s .z) (idx_ne hx3433) fun b3434 e3435 => ?_
   cases e3435
   refine .ixa0 un151 sz144 r r h3431 (idx_lt hx3433 h3431) r r (.loA (j := 0) ia144 sz144 (.s .z) hx3433 r r (.t (.t .nil)) r r r ?_)
   have hw3437 := W_ref01_Narrow (I := I3417) hd
   refine .callP call135 r hw3437 r r fun v3438 hv3439 => ?_
   obtain ⟨r3436, rfl, hd⟩ := hv3439
   refine .ks 5 r (.nilS [14, 13, 12, 7, 6] r r (.seq (.sr (.ks 2 r (.nilS [138, 13, 12, 7, 6] r r (.condP r hd (fun hb3440 hd => ?_) fun hb3440 hd => ?_))))))
   · exact .sr (.ks 2 r (.nilS [5, 4] r r (.drop .z (.drop .z (.own0 eEdge 73 (.ret (oret results116 (.t r (.t r .n)) le3419 (.c .z .n) ⟨(([] : List Edge), 12), _, _, r, r, hd⟩)))))))
   refine .skipS [13, 12, 7, 6] r r (.region (.ks 3 r ?_))
   obtain ⟨h3442, x3443, hx3444, hd⟩ := hd
   refine .ownNe .z (idx_ne hx3444) fun b3445 e3446 => ?_
   cases e3446
   exact .ixa0 un26 sz73 r r h3442 (idx_lt hx3444 h3442) r r (.fa un73 r sz2 r (o := s3415.toNat * 3 + 2) r r r (.stO1 (j := 2) (v' := ({ From := x3443.From, To := x3443.To, W := r3436.1 } : Edge)) sz2 .z hx3444 r r r (.s (.s (.t .nil))) r (.sub (E' := [(6, .slice (some ⟨b3445, 0, none⟩) (s3411.set s3415.toNat ({ From := x3443.From, To := x3443.To, W := r3436.1 } : Edge)).length c3413), (7, _), (12, _), (13, _), (139, .slice (some ⟨b3445, 0, none⟩) (s3411.set s3415.toNat ({ From := x3443.From, To := x3443.To, W := r3436.1 } : Edge)).length c3413), (140, _), (141, _), (142, _), (143, _)]) ⟨(by simp only [List.length_set]; rfl), r, r, r, (by simp only [List.length_set]; rfl), r, r, r, r, trivial⟩ (.nilS [12, 7, 6] r r (.region (.ks 3 r (.nil' fun c w ho hs => ⟨((s3411.set s3415.toNat ({ From := x3443.From, To := x3443.To, W := r3436.1 } : Edge)), w64 (s3415 + 1)), hd, I3417, _, _, hl3418, ho.sub ⟨r, r, r, trivial⟩, hs.pick (.c .z (.c .z .n))⟩)))))))
 exact .exitS [6] r r (.drop (.s .z) (.sr (.ks 3 r (.nilS [5, 4] r r (.ret (oret results116 (.t r (.t r .n)) le3419 (.c .z .n) ⟨(s3411, 0), _, _, r, r, hd⟩))))))

theorem W_law21_Within {I : IH} {a0 : Int} {a1 : Int} {Q : Int → Prop}  (hd : law21_Within a0 a1 Q) :
  PFun prog 29 [.int .i64 a0, .int .i64 a1] I (fun _ => o1_ Q) := by
 refine Fun.enter func29 r ntmps29 r (.c (.c .n)) fun w0 M => ?_
 refine .sr (.ks 1 r (.nilS [1, 0] r r (.seq (.sr (.ks 3 r ?_)))))
 refine splitP hd (fun hb1 hd => ?_) fun hb1 hd => ?_
 · rw [hb1]
   exact .ks 3 r (.nilS [10, 1, 0] r r (.condKT r r (.sr (.ks 1 r (.nilS [4] r r (.ret (pret results29 (.t r .n) (.refl _) ⟨0, r, hd⟩)))))))
 rw [hb1]
 refine .ks 3 r (.nilS [10, 1, 0] r r (.condP r hd (fun hb2 hd => ?_) fun hb2 hd => ?_))
 · exact .sr (.ks 1 r (.nilS [4] r r (.ret (pret results29 (.t r .n) (.refl _) ⟨0, r, hd⟩))))
 refine .skipS [1, 0] r r (.sr (.ks 2 r ?_))
 obtain ⟨hz3, hd⟩ := hd
 exact .rem r r hz3 r r (.ks 1 r (.nilS [4] r r (.ret (pret results29 (.t r .n) (.refl _) ⟨(a0.tmod a1), r, hd⟩))))

theorem W_law21_Plan {I : IH} {a0 : Plan} {a1 : Int} {p1 : Option Addr} {c2 : Nat} {Q : Plan → Prop} (R3 : RepSl eI64 I p1 c2 a0.Draws) (hd : law21_Plan a0 a1 Q) :
  PFun prog 17 [.agg #[.int .i64 a0.Kind, .int .i64 a0.N, .int .i64 a0.Source, .int .i64 a0.Length, .slice p1 a0.Draws.length c2], .int .i64 a1] I (fun I_ v => ∃ r p4 c5, v = .agg #[.int .i64 r.Kind, .int .i64 r.N, .int .i64 r.Source, .int .i64 r.Length, .slice p4 r.Draws.length c5] ∧ RepSl eI64 I_ p4 c5 r.Draws ∧ Q r) := by
 refine Fun.enter func17 r ntmps17 r (.c (.c .n)) fun w0 M => ?_
 refine .sr (.boxA r r r fun b11 => ?_)
 refine .allocA zeroValue25 r r fun b13 => ?_
 refine .nilS [4, 2, 1] r r (.seq ?_)
 refine Cod.joinQ (σ := Int) hd (fun (s19 : Int) c w => ∃ I_, IH.le I I_ ∧ Ok ⟨58, [], none⟩ [(1, .int .i64 a1), (2, .pointer (some ⟨b11, 0, none⟩)), (4, .pointer (some ⟨b13, 0, none⟩))] c ∧ Sym w0 M I I_ [pto b11 (.cells #[.int .i64 s19, .int .i64 a0.N, .int .i64 a0.Source, .int .i64 a0.Length, .slice p1 a0.Draws.length c2] 25 (0, 0)), pto b13 (.cells #[.int .i64 0, .int .i64 0, .int .i64 0, .int .i64 0, .slice none 0 0] 25 (0, 0))] w) (fun k20 hd => ?_) ?_
 · skip
   refine .sr (.fa un25 r sz22 r (o := 0) r r r (.load1 ia22 r (.s .z) r r r (.ks 2 r ?_)))
   refine splitP hd (fun hb21 hd => ?_) fun hb21 hd => ?_
   · rw [hb21]
     exact .ks 4 r (.nilS [14, 4, 2, 1] r r (.condKT r r (.region (.fa un25 r sz22 r (o := 0) r r r (.store1 sz22 r r (.s .z) (.t .nil) r (.nil' fun c w ho hs => ⟨3, hd, I, (.refl _), ho.sub ⟨r, r, r, trivial⟩, hs.pick (.c (.s .z) (.c .z .n))⟩))))))
   rw [hb21]
   refine .gyes r r r (.fa un25 r sz22 r (o := 0) r r r (.gyes r r r (.load1 ia22 r (.s .z) r r r (.ks 2 r (.nilS [14, 4, 2, 1] r r (.condP r hd (fun hb22 hd => ?_) fun hb22 hd => ?_))))))
   · exact .region (.fa un25 r sz22 r (o := 0) r r r (.store1 sz22 r r (.s .z) (.t .nil) r (.nil' fun c w ho hs => ⟨3, hd, I, (.refl _), ho.sub ⟨r, r, r, trivial⟩, hs.pick (.c (.s .z) (.c .z .n))⟩)))
   exact .skip' fun c w ho hs => ⟨a0.Kind, hd, I, (.refl _), ho.sub ⟨r, r, r, trivial⟩, hs.pick (.c (.s .z) (.c .z .n))⟩
 rintro s19 hd c w hst
 obtain ⟨I23, hl24, hok, hsym⟩ := hst
 replace R3 := R3.mono hl24
 refine Cod.at hok hsym (.sr (.ks 1 r (.fa un25 r sz3 r (o := 1) r r r (.store1 sz3 r r .z (.s (.t .nil)) r (.nilS [4, 2, 1] r r (.sr (.fa un25 r sz3 r (o := 2) r r r (.load1 ia3 r .z r r r (.ks 1 r ?_)))))))))
 have hw30 := W_law21_Within (I := I23) hd
 refine .callP call29 r hw30 r r fun v31 hv32 => ?_
 obtain ⟨r29, rfl, hd⟩ := hv32
 refine .fa un25 r sz3 r (o := 2) r r r (.store1 sz3 r r .z (.s (.s (.t .nil))) r (.nilS [4, 2, 1] r r (.sr (.fa un25 r sz3 r (o := 3) r r r (.load1 ia3 r .z r r r ?_)))))
 have hw38 := W_law21_Within (I := I23) hd
 refine .callP call29 r hw38 r r fun v39 hv40 => ?_
 obtain ⟨r37, rfl, hd⟩ := hv40
 refine .fa un25 r sz3 r (o := 3) r r r (.store1 sz3 r r .z (.s (.s (.s (.t .nil)))) r (.nilS [4, 2, 1] r r (.sr (.ks 1 r (.nilS [5, 4, 2, 1] r r (.seq ?_))))))
 refine Cod.joinQ (σ := (List Int)) hd (fun (s203 : (List Int)) c w => ∃ I_ p204 c205, IH.le I23 I_ ∧ Ok ⟨58, [], none⟩ [(1, .int .i64 a1), (2, .pointer (some ⟨b11, 0, none⟩)), (4, .pointer (some ⟨b13, 0, none⟩)), (5, .slice p204 s203.length c205)] c ∧ Sym w0 M I I_ [pto b11 (.cells #[.int .i64 s19, .int .i64 a1, .int .i64 r29, .int .i64 r37, .slice p1 a0.Draws.length c2] 25 (0, 0)), pto b13 (.cells #[.int .i64 0, .int .i64 0, .int .i64 0, .int .i64 0, .slice none 0 0] 25 (0, 0)), OwnSl eI64 2 p204 c205 s203] w) (fun k207 hd => ?_) ?_
 · skip
   refine .sr (.ks 1 r (.nilS [6, 5, 4, 2, 1] r r (.block (.own0 eI64 2 (.loop hd (fun (s : (List Int) × Int) c w => match s with | (s260, s264) => ∃ I_ p261 c262, IH.le I23 I_ ∧ Ok ⟨58, [], none⟩ [(1, .int .i64 a1), (2, .pointer (some ⟨b11, 0, none⟩)), (4, .pointer (some ⟨b13, 0, none⟩)), (5, .slice p261 s260.length c262), (6, .int .i64 s264)] c ∧ Sym w0 M I I_ [pto b11 (.cells #[.int .i64 s19, .int .i64 a1, .int .i64 r29, .int .i64 r37, .slice p1 a0.Draws.length c2] 25 (0, 0)), pto b13 (.cells #[.int .i64 0, .int .i64 0, .int .i64 0, .int .i64 0, .slice none 0 0] 25 (0, 0)), OwnSl eI64 2 p261 c262 s260] w) (fun c w ho hs => ⟨I23, _, _, (.refl _), ho.sub ⟨r, r, r, r, r, trivial⟩, hs.pick (.c (.s .z) (.c (.s .z) (.c .z .n)))⟩) ?_)))))
   rintro ⟨s260, s264⟩ next266 hd c w hst
   obtain ⟨I267, p261, c262, hl268, hok, hsym⟩ := hst
   have le269 := IH.le.trans hl24 hl268
   replace R3 := R3.mono hl268
   refine Cod.at hok hsym (.seq (.sr (.ks 1 r (.fa un25 r sz23 r (o := 4) r r r (.load1 ia23 r .z r r r (.len un23 r r r r (.ks 2 r ?_)))))))
   refine splitP hd (fun hb272 hd => ?_) fun hb272 hd => ?_
   · rw [hb272]
     refine .ks 3 r (.nilS [35, 6, 5, 4, 2, 1] r r (.condP r hd (fun hb273 hd => ?_) fun hb273 hd => ?_))
     · refine .skipS [6, 5, 4, 2, 1] r r (.seq (.block (.region (.ks 1 r (.fa un25 r sz23 r (o := 4) r r r (.load1 ia23 r .z r r r (.ks 1 r ?_)))))))
       obtain ⟨h274, x275, hx276, hd⟩ := hd
       obtain ⟨b277, o278, cs279, e280, hC281, hr282⟩ := R3.2 _ _ hx276
       cases hr282
       refine .ixa un23 sz2 r e280 r h274 (idx_lt hx276 h274) r r (.ld1 (j := 0) ia2 hC281 r r r r r (.ks 1 r (.buildSlice 1 un23 sz2 zv2 r r (.c r r r .n) r r fun b283 => ?_)))
       obtain ⟨hl285, hd⟩ := hd
       refine .append (ys := [bnd .i64 x275 2147483647]) 8 (.s (.s (.s .z))) un23 un23 IN2 r r r r r r r r r (.box .z (.one r) r) hl285 r r fun p286 c287 => ?_
       exact .ks 1 r (.nilS [5, 6, 4, 2, 1] r r (.drop (.s .z) (.region (.ks 3 r (.nil' fun c w ho hs => ⟨((s260 ++ ([bnd .i64 x275 2147483647])), w64 (s264 + 1)), hd, I267, _, _, hl268, ho.sub ⟨r, r, r, r, r, trivial⟩, hs.pick (.c (.s .z) (.c (.s .z) (.c .z .n)))⟩)))))
     exact .exit fun c w ho hs => ⟨s260, hd, I267, _, _, hl268, ho.sub ⟨r, r, r, r, trivial⟩, hs.pick (.c .z (.c .z (.c .z .n)))⟩
   rw [hb272]
   exact .ks 3 r (.nilS [35, 6, 5, 4, 2, 1] r r (.condKF r r (.exit fun c w ho hs => ⟨s260, hd, I267, _, _, hl268, ho.sub ⟨r, r, r, r, trivial⟩, hs.pick (.c .z (.c .z (.c .z .n)))⟩)))
 rintro s203 hd c w hst
 obtain ⟨I289, p204, c205, hl290, hok, hsym⟩ := hst
 have le291 := IH.le.trans hl24 hl290
 replace R3 := R3.mono hl290
 refine Cod.at hok hsym (.sr (.ks 1 r (.fa un25 r sz23 r (o := 4) r r r (.store1 sz23 r r .z (.s (.s (.s (.s (.t .nil))))) r (.nilS [4, 2, 1] r r (.seq (.sr (.ks 3 r ?_))))))))
 refine splitP hd (fun hb292 hd => ?_) fun hb292 hd => ?_
 · rw [hb292]
   refine .gyes r r r (.fa un25 r sz22 r (o := 0) r r r (.gyes r r r (.load1 ia22 r .z r r r (.ks 2 r (.nilS [55, 4, 2] r r (.condP r hd (fun hb293 hd => ?_) fun hb293 hd => ?_))))))
   · refine .region (.fa un25 r sz22 r (o := 0) r r r (.store1 sz22 r r .z (.t .nil) r (.nilS [4, 2] r r (.sr (.loadW ia25 sz25 r .z r r r (.storeA sz25 r r (.s .z) (.t (.t (.t (.t (.t .nil))))) r r (.nilS [4] r r (.drop .z (.pub (.s .z) fun I294 hl295 R296 => ?_)))))))))
     have le297 := IH.le.trans le291 hl295
     have le298 := IH.le.trans hl290 hl295
     exact .ret (pret results17 (.w ia25 sz25 r .z r .n) le297 ⟨({ Kind := 3, N := a1, Source := r29, Length := r37, Draws := s203 } : Plan), _, _, r, R296, hd⟩)
   refine .skipS [4, 2] r r (.sr (.loadW ia25 sz25 r .z r r r (.storeA sz25 r r (.s .z) (.t (.t (.t (.t (.t .nil))))) r r (.nilS [4] r r (.drop .z (.pub (.s .z) fun I299 hl300 R301 => ?_))))))
   have le302 := IH.le.trans le291 hl300
   have le303 := IH.le.trans hl290 hl300
   exact .ret (pret results17 (.w ia25 sz25 r .z r .n) le302 ⟨({ Kind := s19, N := a1, Source := r29, Length := r37, Draws := s203 } : Plan), _, _, r, R301, hd⟩)
 rw [hb292]
 refine .ks 4 r (.nilS [55, 4, 2] r r (.condKF r r (.skipS [4, 2] r r (.sr (.loadW ia25 sz25 r .z r r r (.storeA sz25 r r (.s .z) (.t (.t (.t (.t (.t .nil))))) r r (.nilS [4] r r (.drop .z (.pub (.s .z) fun I304 hl305 R306 => ?_)))))))))
 have le307 := IH.le.trans le291 hl305
 have le308 := IH.le.trans hl290 hl305
 exact .ret (pret results17 (.w ia25 sz25 r .z r .n) le307 ⟨({ Kind := s19, N := a1, Source := r29, Length := r37, Draws := s203 } : Plan), _, _, r, R306, hd⟩)

theorem W_ref03_words {I : IH} {a0 : Int} {Q : Int → Prop}  (hd : ref03_words a0 Q) :
  PFun prog 118 [.int .i64 a0] I (fun _ => o1_ Q) := by
 refine Fun.enter func118 r ntmps118 r (.c .n) fun w0 M => ?_
 refine .sr (.ks 1 r (.nilS [0] r r (.seq ?_)))
 refine Cod.joinQ (σ := Int) hd (fun (s3 : Int) c w => ∃ I_, IH.le I I_ ∧ Ok ⟨10, [], none⟩ [(0, .int .i64 s3)] c ∧ Sym w0 M I I_ [] w) (fun k4 hd => ?_) ?_
 · skip
   refine .sr (.ks 2 r (.nilS [4, 0] r r (.condP r hd (fun hb5 hd => ?_) fun hb5 hd => ?_)))
   · exact .region (.ks 1 r (.nil' fun c w ho hs => ⟨4096, hd, I, (.refl _), ho.sub ⟨r, trivial⟩, hs.pick .n⟩))
   exact .skip' fun c w ho hs => ⟨a0, hd, I, (.refl _), ho.sub ⟨r, trivial⟩, hs.pick .n⟩
 rintro s3 hd c w hst
 obtain ⟨I6, hl7, hok, hsym⟩ := hst
 refine Cod.at hok hsym (.seq (.sr (.ks 2 r (.nilS [6, 0] r r (.condP r hd (fun hb8 hd => ?_) fun hb8 hd => ?_)))))
 · exact .sr (.ks 1 r (.nilS [2] r r (.ret (pret results118 (.t r .n) hl7 ⟨0, r, hd⟩))))
 exact .skipS [0] r r (.sr (.ks 2 r (.quo r r (by decide) r r (.ks 1 r (.nilS [2] r r (.ret (pret results118 (.t r .n) hl7 ⟨(w64 ((w64 (s3 + 63)).tdiv 64)), r, hd⟩)))))))

theorem W_ref03_New {I : IH} {a0 : Int} {Q : (List Int) → Prop}  (hd : ref03_New a0 Q) :
  PFun prog 95 [.int .i64 a0] I (fun I_ v => ∃ r p1 c2, v = .slice p1 r.length c2 ∧ RepSl eU64 I_ p1 c2 r ∧ Q r) := by
 refine Fun.enter func95 r ntmps95 r (.c .n) fun w0 M => ?_
 refine .sr (.ks 1 r (.nilS [0] r r (.sr (.ks 1 r ?_))))
 have hw5 := W_ref03_words (I := I) hd
 refine .callP call118 r hw5 r r fun v6 hv7 => ?_
 obtain ⟨r4, rfl, hd⟩ := hv7
 obtain ⟨h8, h9, hd⟩ := hd
 refine .make (El := eU64) (zv := 0) 8 un44 IN96 r r r r r r h8 h9 r r r fun b10 => ?_
 refine .ks 1 r (.nilS [2] r r (.pub .z fun I13 hl14 R15 => ?_))
 exact .ret (pret results95 (.t r .n) hl14 ⟨(List.replicate r4.toNat 0), _, _, r, R15, hd⟩)

theorem W_ref03_set {I : IH} {a0 : List Int} {a1 : Int} {a2 : Bool} {p1 : Option Addr} {c2 : Nat} {Q : (List Int) → Prop} (R3 : RepSl eU64 I p1 c2 a0) (hd : ref03_set a0 a1 a2 Q) :
  PFun prog 119 [.slice p1 a0.length c2, .int .i64 a1, .bool a2] I (o11_ Q) := by
 refine Fun.enter func119 r ntmps119 r (.c (.c (.c .n))) fun w0 M => ?_
 refine .sr (.ks 1 r (.nilS [2, 1, 0] r r (.sr (.ks 1 r (.nilS [7, 2, 1, 0] r r (.sr (.ks 2 r (.own0 eU64 96 ?_))))))))
 obtain ⟨hl13, hd⟩ := hd
 refine .append (ys := a0) 8 .z un44 un44 IN96 r r r r r r r r r (.imm R3 r) hl13 r r fun p14 c15 => ?_
 refine .ks 1 r (.nilS [7, 2, 1, 0] r r (.seq (.sr (.ks 3 r ?_))))
 refine splitP hd (fun hb19 hd => ?_) fun hb19 hd => ?_
 · rw [hb19]
   refine .ks 6 r (.nilS [20, 7, 2, 1] r r (.condKT r r (.sr (.ks 2 r (.nilS [6] r r (.pub .z fun I20 hl21 R22 => ?_))))))
   exact .ret (pret results119 (.t r .n) hl21 ⟨(([] : List Int) ++ a0), _, _, r, R22, hd⟩)
 rw [hb19]
 refine .ks 1 r (.gyes r r r (.quo r r (by decide) r r (.ks 1 r (.gyes r r r (.len un44 r r r r (.ks 2 r (.nilS [20, 7, 2, 1] r r (.condP r hd (fun hb23 hd => ?_) fun hb23 hd => ?_))))))))
 · refine .sr (.ks 2 r (.nilS [6] r r (.pub .z fun I24 hl25 R26 => ?_)))
   exact .ret (pret results119 (.t r .n) hl25 ⟨(([] : List Int) ++ a0), _, _, r, R26, hd⟩)
 refine .skipS [7, 2, 1] r r (.sr (.ks 1 r (.rem r r (by decide) r r (.conv un3 underlying118 r r r ?_))))
 obtain ⟨hz28, hd⟩ := hd
 refine .shl' r r hz28 r r (.ks 1 r (.nilS [8, 7, 2, 1] r r (.seq (.sr (.ks 1 r (.nilS [26, 8, 7, 1] r r (.condP r hd (fun hb29 hd => ?_) fun hb29 hd => ?_)))))))
 · refine .region (.ks 2 r (.quo r r (by decide) r r (.ks 2 r (.quo r r (by decide) r r ?_))))
   obtain ⟨h30, x31, hx32, hd⟩ := hd
   refine .ownNe .z (idx_ne hx32) fun b33 e34 => ?_
   cases e34
   refine .ixa0 un44 sz96 r r h30 (idx_lt hx32 h30) r r (.lo1 (j := 0) ia96 .z hx32 r r r r r (.ks 2 r ?_))
   obtain ⟨h35, x36, hx37, hd⟩ := hd
   refine .ixa0 un44 sz96 r r h35 (idx_lt hx37 h35) r r (.stO1 (j := 0) (v' := (bor .u64 x31 (shl .u64 1 (IntKind.wrap .u64 (a1.tmod 64))))) sz96 .z hx37 r r r (.t .nil) r (.sub (E' := [(1, _), (7, .slice (some ⟨b33, 0, none⟩) ((([] : List Int) ++ a0).set ((w64 (a1.tdiv 64)).toNat) (bor .u64 x31 (shl .u64 1 (IntKind.wrap .u64 (a1.tmod 64))))).length c15), (8, _), (26, _), (27, .slice (some ⟨b33, 0, none⟩) ((([] : List Int) ++ a0).set ((w64 (a1.tdiv 64)).toNat) (bor .u64 x31 (shl .u64 1 (IntKind.wrap .u64 (a1.tmod 64))))).length c15), (28, _), (29, _), (30, .slice (some ⟨b33, 0, none⟩) ((([] : List Int) ++ a0).set ((w64 (a1.tdiv 64)).toNat) (bor .u64 x31 (shl .u64 1 (IntKind.wrap .u64 (a1.tmod 64))))).length c15), (31, _), (32, _), (33, _), (34, _), (35, _), (36, _), (37, _)]) ⟨r, (by simp only [List.length_set]; rfl), r, r, (by simp only [List.length_set]; rfl), r, r, (by simp only [List.length_set]; rfl), r, r, r, r, r, r, r, trivial⟩ (.nilS [7] r r (.sr (.ks 2 r (.nilS [6] r r (.pub .z fun I38 hl39 R40 => ?_)))))))
   exact .ret (pret results119 (.t r .n) hl39 ⟨((([] : List Int) ++ a0).set ((w64 (a1.tdiv 64)).toNat) (bor .u64 x31 (shl .u64 1 (IntKind.wrap .u64 (a1.tmod 64))))), _, _, r, R40, hd⟩)
 refine .region (.ks 2 r (.quo r r (by decide) r r (.ks 2 r (.quo r r (by decide) r r ?_))))
 obtain ⟨h41, x42, hx43, hd⟩ := hd
 refine .ownNe .z (idx_ne hx43) fun b44 e45 => ?_
 cases e45
 refine .ixa0 un44 sz96 r r h41 (idx_lt hx43 h41) r r (.lo1 (j := 0) ia96 .z hx43 r r r r r (.ks 2 r ?_))
 obtain ⟨h46, x47, hx48, hd⟩ := hd
 refine .ixa0 un44 sz96 r r h46 (idx_lt hx48 h46) r r (.stO1 (j := 0) (v' := (bandn .u64 x42 (shl .u64 1 (IntKind.wrap .u64 (a1.tmod 64))))) sz96 .z hx48 r r r (.t .nil) r (.sub (E' := [(1, _), (7, .slice (some ⟨b44, 0, none⟩) ((([] : List Int) ++ a0).set ((w64 (a1.tdiv 64)).toNat) (bandn .u64 x42 (shl .u64 1 (IntKind.wrap .u64 (a1.tmod 64))))).length c15), (8, _), (26, _), (38, .slice (some ⟨b44, 0, none⟩) ((([] : List Int) ++ a0).set ((w64 (a1.tdiv 64)).toNat) (bandn .u64 x42 (shl .u64 1 (IntKind.wrap .u64 (a1.tmod 64))))).length c15), (39, _), (40, _), (41, .slice (some ⟨b44, 0, none⟩) ((([] : List Int) ++ a0).set ((w64 (a1.tdiv 64)).toNat) (bandn .u64 x42 (shl .u64 1 (IntKind.wrap .u64 (a1.tmod 64))))).length c15), (42, _), (43, _), (44, _), (45, _), (46, _), (47, _), (48, _)]) ⟨r, (by simp only [List.length_set]; rfl), r, r, (by simp only [List.length_set]; rfl), r, r, (by simp only [List.length_set]; rfl), r, r, r, r, r, r, r, trivial⟩ (.nilS [7] r r (.sr (.ks 2 r (.nilS [6] r r (.pub .z fun I49 hl50 R51 => ?_)))))))
 exact .ret (pret results119 (.t r .n) hl50 ⟨((([] : List Int) ++ a0).set ((w64 (a1.tdiv 64)).toNat) (bandn .u64 x42 (shl .u64 1 (IntKind.wrap .u64 (a1.tmod 64))))), _, _, r, R51, hd⟩)

theorem W_ref03_Put {I : IH} {a0 : List Int} {a1 : Int} {p1 : Option Addr} {c2 : Nat} {Q : (List Int) → Prop} (R3 : RepSl eU64 I p1 c2 a0) (hd : ref03_Put a0 a1 Q) :
  PFun prog 96 [.slice p1 a0.length c2, .int .i64 a1] I (o11_ Q) := by
 refine Fun.enter func96 r ntmps96 r (.c (.c .n)) fun w0 M => ?_
 refine .sr (.ks 1 r (.nilS [1, 0] r r (.sr (.ks 2 r ?_))))
 have hw16 := W_ref03_set (I := I) R3 hd
 refine .call call119 r hw16 r r fun v11 I8 hl9 hv10 => ?_
 obtain ⟨r7, p13, c14, rfl, R15, hd⟩ := hv10
 replace R3 := R3.mono hl9
 exact .ks 1 r (.nilS [4] r r (.ret (pret results96 (.t r .n) hl9 ⟨r7, _, _, r, R15, hd⟩)))

theorem W_ref03_Of {I : IH} {a0 : Int} {a1 : List Int} {p1 : Option Addr} {c2 : Nat} {Q : (List Int) → Prop} (R3 : RepSl eI64 I p1 c2 a1) (hd : ref03_Of a0 a1 Q) :
  PFun prog 58 [.int .i64 a0, .slice p1 a1.length c2] I (o11_ Q) := by
 refine Fun.enter func58 r ntmps58 r (.c (.c .n)) fun w0 M => ?_
 refine .sr (.ks 1 r (.nilS [1, 0] r r (.sr (.ks 1 r ?_))))
 have hw26 := W_ref03_New (I := I) hd
 refine .call call95 r hw26 r r fun v21 I18 hl19 hv20 => ?_
 obtain ⟨r17, p23, c24, rfl, R25, hd⟩ := hv20
 replace R3 := R3.mono hl19
 refine .ks 1 r (.nilS [5, 1, 0] r r (.seq (.sr (.ks 1 r (.nilS [6, 5, 1, 0] r r (.block (.loop hd (fun (s : (List Int) × Int) c w => match s with | (s146, s150) => ∃ I_ p147 c148, IH.le I18 I_ ∧ RepSl eU64 I_ p147 c148 s146 ∧ Ok ⟨42, [], none⟩ [(0, .int .i64 a0), (1, .slice p1 a1.length c2), (5, .slice p147 s146.length c148), (6, .int .i64 s150)] c ∧ Sym w0 M I I_ [] w) (fun c w ho hs => ⟨I18, _, _, (.refl _), R25, ho.sub ⟨r, r, r, r, trivial⟩, hs.pick .n⟩) ?_)))))))
 rintro ⟨s146, s150⟩ next151 hd c w hst
 obtain ⟨I152, p147, c148, hl153, R149, hok, hsym⟩ := hst
 have le154 := IH.le.trans hl19 hl153
 replace R3 := R3.mono hl153
 refine Cod.at hok hsym (.seq (.sr (.ks 2 r (.len un30 r r r r (.ks 1 r (.nilS [12, 6, 5, 1, 0] r r (.condP r hd (fun hb156 hd => ?_) fun hb156 hd => ?_)))))))
 · refine .skipS [6, 5, 1, 0] r r (.seq (.block (.sr (.ks 2 r ?_))))
   obtain ⟨h157, x158, hx159, hd⟩ := hd
   obtain ⟨b160, o161, cs162, e163, hC164, hr165⟩ := R3.2 _ _ hx159
   cases hr165
   refine .ixa un30 sz3 r e163 r h157 (idx_lt hx159 h157) r r (.ld1 (j := 0) ia3 hC164 r r r r r (.ks 2 r ?_))
   refine splitP hd (fun hb166 hd => ?_) fun hb166 hd => ?_
   · rw [hb166]
     refine .ks 2 r ?_
     obtain ⟨h167, x168, hx169, hd⟩ := hd
     obtain ⟨b170, o171, cs172, e173, hC174, hr175⟩ := R3.2 _ _ hx169
     cases hr175
     refine .gyes r r r (.ixa un30 sz3 r e173 r h167 (idx_lt hx169 h167) r r (.gyes r r r (.ld1 (j := 0) ia3 hC174 r r r r r (.ks 4 r ?_))))
     refine splitP hd (fun hb176 hd => ?_) fun hb176 hd => ?_
     · rw [hb176]
       refine .ks 2 r ?_
       obtain ⟨h177, x178, hx179, hd⟩ := hd
       obtain ⟨b180, o181, cs182, e183, hC184, hr185⟩ := R3.2 _ _ hx179
       cases hr185
       refine .gyes r r r (.ixa un30 sz3 r e183 r h177 (idx_lt hx179 h177) r r (.gyes r r r (.ld1 (j := 0) ia3 hC184 r r r r r (.ks 2 r (.nilS [34, 6, 5, 1, 0] r r (.condP r hd (fun hb186 hd => ?_) fun hb186 hd => ?_))))))
       · refine .region (.ks 3 r ?_)
         obtain ⟨h187, x188, hx189, hd⟩ := hd
         obtain ⟨b190, o191, cs192, e193, hC194, hr195⟩ := R3.2 _ _ hx189
         cases hr195
         refine .ixa un30 sz3 r e193 r h187 (idx_lt hx189 h187) r r (.ld1 (j := 0) ia3 hC194 r r r r r ?_)
         have hw205 := W_ref03_Put (I := I152) R149 hd
         refine .call call96 r hw205 r r fun v200 I197 hl198 hv199 => ?_
         obtain ⟨r196, p202, c203, rfl, R204, hd⟩ := hv199
         have le206 := IH.le.trans le154 hl198
         have le207 := IH.le.trans hl153 hl198
         replace R3 := R3.mono hl198
         replace R149 := R149.mono hl198
         replace hC194 := hC194.mono hl198
         exact .ks 1 r (.nilS [5, 6, 1, 0] r r (.region (.ks 3 r (.nil' fun c w ho hs => ⟨(r196, w64 (s150 + 1)), hd, I197, _, _, le207, R204, ho.sub ⟨r, r, r, r, trivial⟩, hs.pick .n⟩))))
       exact .skipS [6, 5, 1, 0] r r (.region (.ks 3 r (.nil' fun c w ho hs => ⟨(s146, w64 (s150 + 1)), hd, I152, _, _, hl153, R149, ho.sub ⟨r, r, r, r, trivial⟩, hs.pick .n⟩)))
     rw [hb176]
     exact .ks 6 r (.nilS [34, 6, 5, 1, 0] r r (.condKF r r (.skipS [6, 5, 1, 0] r r (.region (.ks 3 r (.nil' fun c w ho hs => ⟨(s146, w64 (s150 + 1)), hd, I152, _, _, hl153, R149, ho.sub ⟨r, r, r, r, trivial⟩, hs.pick .n⟩))))))
   rw [hb166]
   exact .ks 14 r (.nilS [34, 6, 5, 1, 0] r r (.condKF r r (.skipS [6, 5, 1, 0] r r (.region (.ks 3 r (.nil' fun c w ho hs => ⟨(s146, w64 (s150 + 1)), hd, I152, _, _, hl153, R149, ho.sub ⟨r, r, r, r, trivial⟩, hs.pick .n⟩))))))
 exact .exitS [5] r r (.sr (.ks 2 r (.nilS [4] r r (.ret (pret results58 (.t r .n) le154 ⟨s146, _, _, r, R149, hd⟩)))))

theorem W_ref09_Of {I : IH} {a0 : Int} {a1 : Int} {a2 : List Item} {p1 : Option Addr} {c2 : Nat} {Q : (Vec × Int) → Prop} (R3 : RepSl eItem I p1 c2 a2) (hd : ref09_Of a0 a1 a2 Q) :
  PFun prog 97 [.int .i64 a0, .int .i64 a1, .slice p1 a2.length c2] I (o17_ Q) := by
 refine Fun.enter func97 r ntmps97 r (.c (.c (.c .n))) fun w0 M => ?_
 refine .sr (.allocA zv51 r r fun b9 => ?_)
 refine .ks 1 r (.nilS [6, 2, 1, 0] r r (.seq (.sr (.ks 1 r ?_))))
 have hw17 := W_ref02_Is (I := I) hd
 refine .callP call120 r hw17 r r fun v18 hv19 => ?_
 obtain ⟨r16, rfl, hd⟩ := hv19
 refine .ks 1 r (.nilS [15, 6, 2, 1, 0] r r (.condP r hd (fun hb20 hd => ?_) fun hb20 hd => ?_))
 · exact .sr (.build zv51 un51 BI51 .n (by exact trivial) r r (.storeA sz51 r r .z (.t (.t .nil)) r r (.ks 1 r (.nilS [7, 6] r r (.ret (pret results97 (.w ia51 sz51 r .z r (.t r .n)) (.refl _) ⟨(({ N := 0, Items := ([] : List Item) } : Vec), 8), _, _, r, (.nil _ _ _), hd⟩))))))
 refine .skipS [6, 2, 1, 0] r r (.seq (.sr (.ks 3 r ?_)))
 refine splitP hd (fun hb23 hd => ?_) fun hb23 hd => ?_
 · rw [hb23]
   exact .ks 3 r (.nilS [22, 6, 2, 1, 0] r r (.condKT r r (.sr (.build zv51 un51 BI51 .n (by exact trivial) r r (.storeA sz51 r r .z (.t (.t .nil)) r r (.ks 1 r (.nilS [7, 6] r r (.ret (pret results97 (.w ia51 sz51 r .z r (.t r .n)) (.refl _) ⟨(({ N := 0, Items := ([] : List Item) } : Vec), 3), _, _, r, (.nil _ _ _), hd⟩)))))))))
 rw [hb23]
 refine .ks 3 r (.nilS [22, 6, 2, 1, 0] r r (.condP r hd (fun hb24 hd => ?_) fun hb24 hd => ?_))
 · exact .sr (.build zv51 un51 BI51 .n (by exact trivial) r r (.storeA sz51 r r .z (.t (.t .nil)) r r (.ks 1 r (.nilS [7, 6] r r (.ret (pret results97 (.w ia51 sz51 r .z r (.t r .n)) (.refl _) ⟨(({ N := 0, Items := ([] : List Item) } : Vec), 3), _, _, r, (.nil _ _ _), hd⟩))))))
 refine .skipS [6, 2, 1, 0] r r (.sr (.ks 1 r (.nilS [8, 6, 2, 1, 0] r r (.seq (.sr (.ks 1 r (.nilS [9, 8, 6, 2, 1, 0] r r (.block (.own0 eEdge 73 ?_)))))))))
 refine .loop hd (fun (s : (List Edge) × Int) c w => match s with | (s399, s403) => ∃ I_ p400 c401, IH.le I I_ ∧ Ok ⟨95, [], none⟩ [(0, .int .i64 a0), (1, .int .i64 a1), (2, .slice p1 a2.length c2), (6, .pointer (some ⟨b9, 0, none⟩)), (8, .slice p400 s399.length c401), (9, .int .i64 s403)] c ∧ Sym w0 M I I_ [pto b9 (.cells #[.int .i64 0, .slice none 0 0] 51 (0, 0)), OwnSl eEdge 73 p400 c401 s399] w) (fun c w ho hs => ⟨I, _, _, (.refl _), ho.sub ⟨r, r, r, r, r, r, trivial⟩, hs.pick (.c (.s .z) (.c .z .n))⟩) ?_
 rintro ⟨s399, s403⟩ next405 hd c w hst
 obtain ⟨I406, p400, c401, hl407, hok, hsym⟩ := hst
 replace R3 := R3.mono hl407
 refine Cod.at hok hsym (.seq (.sr (.ks 2 r (.len un49 r r r r (.ks 1 r (.nilS [27, 9, 8, 6, 2, 1, 0] r r (.condP r hd (fun hb409 hd => ?_) fun hb409 hd => ?_)))))))
 · refine .skipS [9, 8, 6, 2, 1, 0] r r (.seq (.block (.seq (.sr (.ks 2 r ?_)))))
   obtain ⟨h430, x431, hx432, hd⟩ := hd
   obtain ⟨b433, o434, cs435, e436, hC437, hr438⟩ := R3.2 _ _ hx432
   cases hr438
   refine .ixa un49 sz71 r e436 r h430 (idx_lt hx432 h430) r r (.fa un71 r sz3 r (o := o434 + s403.toNat * 2) r r r (.ld1 (j := 0) ia3 hC437 r r r r r (.ks 2 r ?_)))
   refine splitP hd (fun hb439 hd => ?_) fun hb439 hd => ?_
   · rw [hb439]
     exact .ks 8 r (.nilS [44, 9, 8, 6, 2, 1, 0] r r (.condKT r r (.sr (.build zv51 un51 BI51 .n (by exact trivial) r r (.storeA sz51 r r .z (.t (.t .nil)) r r (.ks 1 r (.nilS [7, 6] r r (.drop (.s .z) (.ret (pret results97 (.w ia51 sz51 r .z r (.t r .n)) hl407 ⟨(({ N := 0, Items := ([] : List Item) } : Vec), 3), _, _, r, (.nil _ _ _), hd⟩))))))))))
   rw [hb439]
   refine .ks 2 r ?_
   obtain ⟨h440, x441, hx442, hd⟩ := hd
   obtain ⟨b443, o444, cs445, e446, hC447, hr448⟩ := R3.2 _ _ hx442
   cases hr448
   refine .gyes r r r (.ixa un49 sz71 r e446 r h440 (idx_lt hx442 h440) r r (.gyes r r r (.fa un71 r sz3 r (o := o444 + s403.toNat * 2) r r r (.gyes r r r (.ld1 (j := 0) ia3 hC447 r r r r r (.ks 3 r (.nilS [44, 9, 8, 6, 2, 1, 0] r r (.condP r hd (fun hb449 hd => ?_) fun hb449 hd => ?_))))))))
   · exact .sr (.build zv51 un51 BI51 .n (by exact trivial) r r (.storeA sz51 r r .z (.t (.t .nil)) r r (.ks 1 r (.nilS [7, 6] r r (.drop (.s .z) (.ret (pret results97 (.w ia51 sz51 r .z r (.t r .n)) hl407 ⟨(({ N := 0, Items := ([] : List Item) } : Vec), 3), _, _, r, (.nil _ _ _), hd⟩)))))))
   refine .skipS [9, 8, 6, 2, 1, 0] r r (.ownF (.s .z) fun hne450 => ?_)
   refine .dr [0, 1, 2, 3, 4, 5, 6, 7, 8, 9, 10, 11, 12, 13] 14 (.fk 3 r ?_)
   obtain ⟨h451, x452, hx453, hd⟩ := hd
   obtain ⟨b454, o455, cs456, e457, hC458, hr459⟩ := R3.2 _ _ hx453
   cases hr459
   refine .g r r r (fun _ => .ixa un49 sz71 r e457 r h451 (idx_lt hx453 h451) r r .mk) (.g r r r (fun _ => .fa un71 r sz3 r (o := o455 + s403.toNat * 2) r r r .mk) (.g r r r (fun _ => .ld1 (j := 0) ia3 hC458 r r r r r .mk) (.fk 2 r ?_)))
   obtain ⟨h460, x461, hx462, hd⟩ := hd
   obtain ⟨b463, o464, cs465, e466, hC467, hr468⟩ := R3.2 _ _ hx462
   cases hr468
   refine .g r r r (fun _ => .ixa un49 sz71 r e466 r h460 (idx_lt hx462 h460) r r .mk) (.g r r r (fun _ => .fa un71 r sz2 r (o := o464 + s403.toNat * 2 + 1) r r r .mk) (.g r r r (fun _ => .ld1 (j := 1) ia2 hC467 r r r r r .mk) (.g r r r (fun _ => .build zv73 un73 BI73 (.c r r r (.s (.t .nil)) (.c r r r (.s (.s (.t .nil))) .n)) (by exact ⟨⟨_, _, r, r, r⟩, ⟨⟨_, _, r, r, r⟩, trivial⟩⟩) r r .mk) (.ww r fun ex => ?_))))
   refine .buildSlice 1 un26 sz73 zv73 r r (.c r r r .n) r r fun b469 => ?_
   refine .so 3 r r r (.ck 1 r r trivial) (.ww r fun ex => ?_)
   obtain ⟨hl471, hd⟩ := hd
   refine .append (ys := [({ From := 0, To := x452.At, W := x461.Val } : Edge)]) 24 (.s (.s .z)) un26 un26 IN73 r r r r r r r r r (.box .z (.one r) r) hl471 r r fun p472 c473 => ?_
   exact .so 3 r r r trivial (.e2 14 (.ks 1 r (.nilS [8, 9, 6, 2, 1, 0] r r (.drop (.s .z) (.region (.ks 3 r (.nil' fun c w ho hs => ⟨((s399 ++ ([({ From := 0, To := x452.At, W := x461.Val } : Edge)])), w64 (s403 + 1)), hd, I406, _, _, hl407, ho.sub ⟨r, r, r, r, r, r, trivial⟩, hs.pick (.c (.s .z) (.c .z .n))⟩)))))))
 refine .exitS [8, 6, 1, 0] r r (.sr (.ks 2 r (.pub (.s .z) fun I491 hl492 R493 => ?_)))
 have le494 := IH.le.trans hl407 hl492
 have hw505 := W_ref05_Combine (I := I491) R493 hd
 refine .callO call116 r hw505 r r fun v499 I496 l500 hl497 hv498 => ?_
 obtain ⟨r495, p501, c502, rfl, rfl, hd⟩ := hv498
 have le506 := IH.le.trans le494 hl497
 replace R493 := R493.mono hl497
 refine .ks 5 r (.nilS [10, 8, 6, 1] r r (.seq (.sr (.ks 2 r (.nilS [67, 10, 8, 6, 1] r r (.condP r hd (fun hb508 hd => ?_) fun hb508 hd => ?_))))))
 · exact .sr (.build zv51 un51 BI51 .n (by exact trivial) r r (.ks 1 r (.storeA sz51 r r (.s .z) (.t (.t .nil)) r r (.ks 1 r (.nilS [7, 6] r r (.drop .z (.ret (pret results97 (.w ia51 sz51 r .z r (.t r .n)) le506 ⟨(({ N := 0, Items := ([] : List Item) } : Vec), r495.2), _, _, r, (.nil _ _ _), hd⟩))))))))
 refine .skipS [8, 6, 1] r r (.sr (.ks 1 r (.build zv51 un51 BI51 (.c r r r (.t .nil) .n) (by exact ⟨⟨_, _, r, r, r⟩, trivial⟩) r r (.allocA zv51 r r fun b511 => ?_))))
 refine .storeA sz51 r r .z (.t (.t .nil)) r r (.nilS [11, 8, 6] r r (.seq (.sr (.ks 1 r (.nilS [12, 11, 8, 6] r r (.block (.own0 eItem 71 (.loop hd (fun (s : (List Item) × Int) c w => match s with | (s564, s568) => ∃ I_ p565 c566, IH.le I496 I_ ∧ Ok ⟨95, [], none⟩ [(6, .pointer (some ⟨b9, 0, none⟩)), (8, .slice p501 r495.1.length c502), (11, .pointer (some ⟨b511, 0, none⟩)), (12, .int .i64 s568)] c ∧ Sym w0 M I I_ [pto b9 (.cells #[.int .i64 0, .slice none 0 0] 51 (0, 0)), OwnSl eEdge 73 p501 c502 r495.1, pto b511 (.cells #[.int .i64 a1, .slice p565 s564.length c566] 51 (0, 0)), OwnSl eItem 71 p565 c566 s564] w) (fun c w ho hs => ⟨I496, _, _, (.refl _), ho.sub ⟨r, r, r, r, trivial⟩, hs.pick (.c (.s (.s (.s .z))) (.c (.s (.s .z)) (.c (.s .z) (.c .z .n))))⟩) ?_))))))))
 rintro ⟨s564, s568⟩ next570 hd c w hst
 obtain ⟨I571, p565, c566, hl572, hok, hsym⟩ := hst
 have le573 := IH.le.trans le506 hl572
 refine Cod.at hok hsym (.seq (.sr (.ks 2 r (.len un26 r r r r (.ks 1 r (.nilS [75, 12, 11, 8, 6] r r (.condP r hd (fun hb575 hd => ?_) fun hb575 hd => ?_)))))))
 · refine .skipS [12, 11, 8, 6] r r (.seq (.block (.ownF (.s .z) fun hne576 => ?_)))
   refine .ownF (.s (.s (.s .z))) fun hne577 => ?_
   refine .dr [0, 1, 2, 3, 4, 5, 6, 7, 8, 9, 10, 11, 12, 13, 14] 15 (.g r r r (fun _ => .fa un51 r sz49 r (o := 1) r r r .mk) (.g r r r (fun _ => .load1 ia49 r (.s (.s .z)) r r r .mk) (.fk 2 r ?_)))
   obtain ⟨h578, x579, hx580, hd⟩ := hd
   obtain ⟨b581, e582⟩ := hne576 (idx_ne hx580)
   cases e582
   refine .g r r r (fun _ => .ixa0 un26 sz73 r r h578 (idx_lt hx580 h578) r r .mk) (.g r r r (fun _ => .fa un73 r sz3 r (o := s568.toNat * 3 + 1) r r r .mk) (.g r r r (fun _ => .lo1 (j := 1) ia3 (.s .z) hx580 r r r r r .mk) (.fk 2 r ?_)))
   obtain ⟨h583, x584, hx585, hd⟩ := hd
   refine .g r r r (fun _ => .ixa0 un26 sz73 r r h583 (idx_lt hx585 h583) r r .mk) (.g r r r (fun _ => .fa un73 r sz2 r (o := s568.toNat * 3 + 2) r r r .mk) (.g r r r (fun _ => .lo1 (j := 2) ia2 (.s .z) hx585 r r r r r .mk) (.g r r r (fun _ => .build zv71 un71 BI71 (.c r r r (.t .nil) (.c r r r (.s (.t .nil)) .n)) (by exact ⟨⟨_, _, r, r, r⟩, ⟨⟨_, _, r, r, r⟩, trivial⟩⟩) r r .mk) (.ww r fun ex => ?_))))
   refine .buildSlice 1 un49 sz71 zv71 r r (.c r r r .n) r r fun b586 => ?_
   refine .so 5 r r r (.cg r r r r (fun _ => .load1 ia49 r (.s (.s (.s .z))) r r r .mk) (.cg r r r r (fun _ => .fa un51 r sz49 r (o := 1) r r r .mk) trivial)) (.ww r fun ex => ?_)
   obtain ⟨hl588, hd⟩ := hd
   refine .append (ys := [({ At := x579.To, Val := x584.W } : Item)]) 16 (.s (.s (.s (.s .z)))) un49 un49 IN71 r r r r r r r r r (.box .z (.one r) r) hl588 r r fun p589 c590 => ?_
   exact .so 5 r r r trivial (.e2 15 (.fa un51 r sz49 r (o := 1) r r r (.store1 sz49 r r (.s (.s (.s (.s .z)))) (.s (.t .nil)) r (.nilS [12, 11, 8, 6] r r (.drop (.s .z) (.region (.ks 3 r (.nil' fun c w ho hs => ⟨((s564 ++ ([({ At := x579.To, Val := x584.W } : Item)])), w64 (s568 + 1)), hd, I571, _, _, hl572, ho.sub ⟨r, r, r, r, trivial⟩, hs.pick (.c (.s .z) (.c (.s .z) (.c (.s .z) (.c .z .n))))⟩))))))))
 refine .exitS [11, 6] r r (.drop (.s .z) (.sr (.loadW ia51 sz51 r (.s .z) r r r (.storeA sz51 r r .z (.t (.t .nil)) r r (.ks 1 r (.nilS [7, 6] r r (.drop (.s .z) (.pub (.s .z) fun I592 hl593 R594 => ?_))))))))
 have le595 := IH.le.trans le573 hl593
 have le596 := IH.le.trans hl572 hl593
 exact .ret (pret results97 (.w ia51 sz51 r .z r (.t r .n)) le595 ⟨(({ N := a1, Items := s564 } : Vec), 0), _, _, r, R594, hd⟩)

theorem W_law09_Some {I : IH} {a0 : Int} {a1 : List Item} {p1 : Option Addr} {c2 : Nat} {Q : Vec → Prop} (R3 : RepSl eItem I p1 c2 a1) (hd : law09_Some a0 a1 Q) :
  PFun prog 59 [.int .u8 a0, .slice p1 a1.length c2] I (o18_ Q) := by
 refine Fun.enter func59 r ntmps59 r (.c (.c .n)) fun w0 M => ?_
 refine .sr (.allocA zv51 r r fun b9 => ?_)
 refine .nilS [4, 1, 0] r r (.sr (.ks 1 r (.conv un5 un3 r r r (.rem r r (by decide) r r (.ks 1 r (.nilS [5, 4, 1] r r (.sr (.ks 1 r (.nilS [6, 5, 4, 1] r r ?_)))))))))
 refine .seq ?_
 refine Cod.joinQ (σ := (List Item)) hd (fun (s361 : (List Item)) c w => ∃ I_ p362 c363, IH.le I I_ ∧ Ok ⟨56, [], none⟩ [(4, .pointer (some ⟨b9, 0, none⟩)), (5, .int .i64 ((w64 (a0)).tmod 60)), (6, .slice p362 s361.length c363)] c ∧ Sym w0 M I I_ [pto b9 (.cells #[.int .i64 0, .slice none 0 0] 51 (0, 0)), OwnSl eItem 71 p362 c363 s361] w) (fun k365 hd => ?_) ?_
 · skip
   refine .sr (.ks 1 r (.nilS [7, 6, 5, 4, 1] r r (.block (.own0 eItem 71 (.loop hd (fun (s : (List Item) × Int) c w => match s with | (s481, s485) => ∃ I_ p482 c483, IH.le I I_ ∧ Ok ⟨56, [], none⟩ [(1, .slice p1 a1.length c2), (4, .pointer (some ⟨b9, 0, none⟩)), (5, .int .i64 ((w64 (a0)).tmod 60)), (6, .slice p482 s481.length c483), (7, .int .i64 s485)] c ∧ Sym w0 M I I_ [pto b9 (.cells #[.int .i64 0, .slice none 0 0] 51 (0, 0)), OwnSl eItem 71 p482 c483 s481] w) (fun c w ho hs => ⟨I, _, _, (.refl _), ho.sub ⟨r, r, r, r, r, trivial⟩, hs.pick (.c (.s .z) (.c .z .n))⟩) ?_)))))
   rintro ⟨s481, s485⟩ next487 hd c w hst
   obtain ⟨I488, p482, c483, hl489, hok, hsym⟩ := hst
   replace R3 := R3.mono hl489
   refine Cod.at hok hsym (.seq (.sr (.ks 2 r (.len un49 r r r r (.ks 2 r ?_)))))
   refine splitP hd (fun hb493 hd => ?_) fun hb493 hd => ?_
   · rw [hb493]
     refine .ks 4 r ?_
     refine splitP hd (fun hb494 hd => ?_) fun hb494 hd => ?_
     · rw [hb494]
       refine .ks 3 r (.nilS [24, 7, 6, 5, 4, 1] r r (.condP r hd (fun hb495 hd => ?_) fun hb495 hd => ?_))
       · refine .skipS [7, 6, 5, 4, 1] r r (.seq (.block (.sr (.ks 2 r ?_))))
         obtain ⟨h505, x506, hx507, hd⟩ := hd
         obtain ⟨b508, o509, cs510, e511, hC512, hr513⟩ := R3.2 _ _ hx507
         cases hr513
         refine .ixa un49 sz71 r e511 r h505 (idx_lt hx507 h505) r r (.fa un71 r sz3 r (o := o509 + s485.toNat * 2) r r r (.ld1 (j := 0) ia3 hC512 r r r r r (.ks 1 r (.nilS [32, 7, 6, 5, 4, 1] r r (.condP r hd (fun hb514 hd => ?_) fun hb514 hd => ?_)))))
         · refine .ownF (.s .z) fun hne515 => ?_
           refine .dr [0, 1, 2, 3, 4, 5, 6, 7, 8, 9, 10, 11, 12, 13, 14, 15] 16 (.fk 3 r ?_)
           obtain ⟨h516, x517, hx518, hd⟩ := hd
           obtain ⟨b519, o520, cs521, e522, hC523, hr524⟩ := R3.2 _ _ hx518
           cases hr524
           refine .g r r r (fun _ => .ixa un49 sz71 r e522 r h516 (idx_lt hx518 h516) r r .mk) (.g r r r (fun _ => .fa un71 r sz3 r (o := o520 + s485.toNat * 2) r r r .mk) (.g r r r (fun _ => .ld1 (j := 0) ia3 hC523 r r r r r .mk) (.fk 1 r ?_)))
           obtain ⟨hz525, hd⟩ := hd
           refine .g r r r (fun _ => .rem r r hz525 r r .mk) (.fk 2 r ?_)
           obtain ⟨h526, x527, hx528, hd⟩ := hd
           obtain ⟨b529, o530, cs531, e532, hC533, hr534⟩ := R3.2 _ _ hx528
           cases hr534
           refine .g r r r (fun _ => .ixa un49 sz71 r e532 r h526 (idx_lt hx528 h526) r r .mk) (.g r r r (fun _ => .fa un71 r sz2 r (o := o530 + s485.toNat * 2 + 1) r r r .mk) (.g r r r (fun _ => .ld1 (j := 1) ia2 hC533 r r r r r .mk) (.g r r r (fun _ => .build zv71 un71 BI71 (.c r r r (.t .nil) (.c r r r (.s (.t .nil)) .n)) (by exact ⟨⟨_, _, r, r, r⟩, ⟨⟨_, _, r, r, r⟩, trivial⟩⟩) r r .mk) (.ww r fun ex => ?_))))
           refine .buildSlice 1 un49 sz71 zv71 r r (.c r r r .n) r r fun b535 => ?_
           refine .so 3 r r r (.ck 1 r r trivial) (.ww r fun ex => ?_)
           obtain ⟨hl537, hd⟩ := hd
           refine .append (ys := [({ At := x517.At.tmod ((w64 (a0)).tmod 60), Val := x527.Val } : Item)]) 16 (.s (.s .z)) un49 un49 IN71 r r r r r r r r r (.box .z (.one r) r) hl537 r r fun p538 c539 => ?_
           exact .so 3 r r r trivial (.e2 16 (.ks 1 r (.nilS [6, 7, 5, 4, 1] r r (.drop (.s .z) (.region (.ks 3 r (.nil' fun c w ho hs => ⟨((s481 ++ ([({ At := x517.At.tmod ((w64 (a0)).tmod 60), Val := x527.Val } : Item)])), w64 (s485 + 1)), hd, I488, _, _, hl489, ho.sub ⟨r, r, r, r, r, trivial⟩, hs.pick (.c (.s .z) (.c .z .n))⟩)))))))
         exact .skipS [7, 6, 5, 4, 1] r r (.region (.ks 3 r (.nil' fun c w ho hs => ⟨(s481, w64 (s485 + 1)), hd, I488, _, _, hl489, ho.sub ⟨r, r, r, r, r, trivial⟩, hs.pick (.c .z (.c .z .n))⟩)))
       exact .exit fun c w ho hs => ⟨s481, hd, I488, _, _, hl489, ho.sub ⟨r, r, r, trivial⟩, hs.pick (.c .z (.c .z .n))⟩
     rw [hb494]
     exact .ks 3 r (.nilS [24, 7, 6, 5, 4, 1] r r (.condKF r r (.exit fun c w ho hs => ⟨s481, hd, I488, _, _, hl489, ho.sub ⟨r, r, r, trivial⟩, hs.pick (.c .z (.c .z .n))⟩)))
   rw [hb493]
   exact .ks 7 r (.nilS [24, 7, 6, 5, 4, 1] r r (.condKF r r (.exit fun c w ho hs => ⟨s481, hd, I488, _, _, hl489, ho.sub ⟨r, r, r, trivial⟩, hs.pick (.c .z (.c .z .n))⟩)))
 rintro s361 hd c w hst
 obtain ⟨I541, p362, c363, hl542, hok, hsym⟩ := hst
 refine Cod.at hok hsym (.sr (.ks 2 r (.pub (.s .z) fun I543 hl544 R545 => ?_)))
 have le546 := IH.le.trans hl542 hl544
 have hw556 := W_ref09_Of (I := I543) R545 hd
 refine .call call97 r hw556 r r fun v551 I548 hl549 hv550 => ?_
 obtain ⟨r547, p553, c554, rfl, R555, hd⟩ := hv550
 have le557 := IH.le.trans le546 hl549
 replace R545 := R545.mono hl549
 refine .ks 3 r (.allocA zv51 r r fun b558 => ?_)
 exact .storeA sz51 r r .z (.t (.t .nil)) r r (.ks 1 r (.nilS [8, 4] r r (.sr (.loadW ia51 sz51 r .z r r r (.storeA sz51 r r (.s .z) (.t (.t .nil)) r r (.nilS [4] r r (.drop .z (.ret (pret results59 (.w ia51 sz51 r .z r .n) le557 ⟨r547.1, _, _, r, R555, hd⟩)))))))))

theorem W_law21_got {I : IH} {a0 : Plan} {a1 : List Item} {p1 : Option Addr} {c2 : Nat} {p4 : Option Addr} {c5 : Nat} {Q : Vec → Prop} (R3 : RepSl eI64 I p1 c2 a0.Draws) (R6 : RepSl eItem I p4 c5 a1) (hd : law21_got a0 a1 Q) :
  PFun prog 21 [.agg #[.int .i64 a0.Kind, .int .i64 a0.N, .int .i64 a0.Source, .int .i64 a0.Length, .slice p1 a0.Draws.length c2], .slice p4 a1.length c5] I (fun I_ v => ∃ r p7 c8, v = .agg #[.int .i64 r.N, .slice p7 r.Items.length c8] ∧ RepSl eItem I_ p7 c8 r.Items ∧ Q r) := by
 refine Fun.enter func21 r ntmps21 r (.c (.c .n)) fun w0 M => ?_
 refine .sr (.boxA r r r fun b14 => ?_)
 refine .allocA zv51 r r fun b16 => ?_
 refine .nilS [4, 2, 1] r r (.sr (.fa un25 r sz3 r (o := 1) r r r (.load1 ia3 r (.s .z) r r r (.conv un3 un5 r r r (.ks 1 r ?_)))))
 have hw39 := W_law09_Some (I := I) R6 hd
 refine .call call59 r hw39 r r fun v34 I31 hl32 hv33 => ?_
 obtain ⟨r30, p36, c37, rfl, R38, hd⟩ := hv33
 replace R3 := R3.mono hl32
 replace R6 := R6.mono hl32
 refine .allocA zv51 r r fun b40 => ?_
 refine .storeA sz51 r r .z (.t (.t .nil)) r r (.nilS [5, 4] r r (.drop (.s (.s .z)) (.sr (.fa un51 r sz3 r (o := 0) r r r (.load1 ia3 r .z r r r (.build zv51 un51 BI51 (.c r r r (.t .nil) .n) (by exact ⟨⟨_, _, r, r, r⟩, trivial⟩) r r (.allocA zv51 r r fun b44 => ?_)))))))
 refine .storeA sz51 r r .z (.t (.t .nil)) r r (.nilS [6, 5, 4] r r (.seq (.sr (.ks 1 r (.nilS [7, 6, 5, 4] r r (.block (.own0 eItem 71 (.loop hd (fun (s : (List Item) × Int) c w => match s with | (s115, s119) => ∃ I_ p116 c117, IH.le I31 I_ ∧ Ok ⟨43, [], none⟩ [(4, .pointer (some ⟨b16, 0, none⟩)), (5, .pointer (some ⟨b40, 0, none⟩)), (6, .pointer (some ⟨b44, 0, none⟩)), (7, .int .i64 s119)] c ∧ Sym w0 M I I_ [pto b16 (.cells #[.int .i64 0, .slice none 0 0] 51 (0, 0)), pto b40 (.cells #[.int .i64 r30.N, .slice p36 r30.Items.length c37] 51 (0, 0)), pto b44 (.cells #[.int .i64 r30.N, .slice p116 s115.length c117] 51 (0, 0)), OwnSl eItem 71 p116 c117 s115] w) (fun c w ho hs => ⟨I31, _, _, (.refl _), ho.sub ⟨r, r, r, r, trivial⟩, hs.pick (.c (.s (.s (.s .z))) (.c (.s (.s .z)) (.c (.s .z) (.c .z .n))))⟩) ?_))))))))
 rintro ⟨s115, s119⟩ next121 hd c w hst
 obtain ⟨I122, p116, c117, hl123, hok, hsym⟩ := hst
 have le124 := IH.le.trans hl32 hl123
 replace R38 := R38.mono hl123
 refine Cod.at hok hsym (.seq (.sr (.ks 1 r (.fa un51 r sz49 r (o := 1) r r r (.load1 ia49 r (.s .z) r r r (.len un49 r r r r (.ks 1 r (.nilS [20, 7, 6, 5, 4] r r (.condP r hd (fun hb126 hd => ?_) fun hb126 hd => ?_)))))))))
 · refine .skipS [7, 6, 5, 4] r r (.seq (.block (.ownF (.s (.s (.s .z))) fun hne127 => ?_)))
   refine .dr [0, 1, 2, 3, 4, 5, 6, 7, 8, 9, 10, 11, 12, 13, 14, 15, 16, 17] 18 (.g r r r (fun _ => .fa un51 r sz49 r (o := 1) r r r .mk) (.g r r r (fun _ => .load1 ia49 r (.s (.s .z)) r r r .mk) (.g r r r (fun _ => .fa un51 r sz49 r (o := 1) r r r .mk) (.g r r r (fun _ => .load1 ia49 r (.s .z) r r r .mk) (.fk 1 r ?_)))))
   obtain ⟨h128, x129, hx130, hd⟩ := hd
   obtain ⟨b131, o132, cs133, e134, hC135, hr136⟩ := R38.2 _ _ hx130
   cases hr136
   refine .g r r r (fun _ => .ixa un49 sz71 r e134 r h128 (idx_lt hx130 h128) r r .mk) (.g r r r (fun _ => .fa un71 r sz3 r (o := o132 + s119.toNat * 2) r r r .mk) (.g r r r (fun _ => .ld1 (j := 0) ia3 hC135 r r r r r .mk) (.g r r r (fun _ => .fa un51 r sz49 r (o := 1) r r r .mk) (.g r r r (fun _ => .load1 ia49 r (.s .z) r r r .mk) (.fk 1 r ?_)))))
   obtain ⟨h137, x138, hx139, hd⟩ := hd
   obtain ⟨b140, o141, cs142, e143, hC144, hr145⟩ := R38.2 _ _ hx139
   cases hr145
   refine .g r r r (fun _ => .ixa un49 sz71 r e143 r h137 (idx_lt hx139 h137) r r .mk) (.g r r r (fun _ => .fa un71 r sz2 r (o := o141 + s119.toNat * 2 + 1) r r r .mk) (.g r r r (fun _ => .ld1 (j := 1) ia2 hC144 r r r r r .mk) (.fk 1 r (.g r r r (fun _ => .build zv71 un71 BI71 (.c r r r (.t .nil) (.c r r r (.s (.t .nil)) .n)) (by exact ⟨⟨_, _, r, r, r⟩, ⟨⟨_, _, r, r, r⟩, trivial⟩⟩) r r .mk) (.ww r fun ex => ?_)))))
   refine .buildSlice 1 un49 sz71 zv71 r r (.c r r r .n) r r fun b146 => ?_
   refine .so 5 r r r (.cg r r r r (fun _ => .load1 ia49 r (.s (.s (.s .z))) r r r .mk) (.cg r r r r (fun _ => .fa un51 r sz49 r (o := 1) r r r .mk) trivial)) (.ww r fun ex => ?_)
   obtain ⟨hl148, hd⟩ := hd
   refine .append (ys := [({ At := x129.At, Val := bnd .i64 x138.Val 255 } : Item)]) 16 (.s (.s (.s (.s .z)))) un49 un49 IN71 r r r r r r r r r (.box .z (.one r) r) hl148 r r fun p149 c150 => ?_
   exact .so 5 r r r trivial (.e2 18 (.fa un51 r sz49 r (o := 1) r r r (.store1 sz49 r r (.s (.s (.s (.s .z)))) (.s (.t .nil)) r (.nilS [7, 6, 5, 4] r r (.drop (.s .z) (.region (.ks 3 r (.nil' fun c w ho hs => ⟨((s115 ++ ([({ At := x129.At, Val := bnd .i64 x138.Val 255 } : Item)])), w64 (s119 + 1)), hd, I122, _, _, hl123, ho.sub ⟨r, r, r, r, trivial⟩, hs.pick (.c (.s .z) (.c (.s .z) (.c (.s .z) (.c .z .n))))⟩))))))))
 refine .exitS [6, 4] r r (.drop (.s .z) (.sr (.loadW ia51 sz51 r (.s .z) r r r (.storeA sz51 r r .z (.t (.t .nil)) r r (.nilS [4] r r (.drop (.s .z) (.pub (.s .z) fun I152 hl153 R154 => ?_)))))))
 have le155 := IH.le.trans le124 hl153
 have le156 := IH.le.trans hl123 hl153
 exact .ret (pret results21 (.w ia51 sz51 r .z r .n) le155 ⟨({ N := r30.N, Items := s115 } : Vec), _, _, r, R154, hd⟩)

theorem W_ref07_SameItems {I : IH} {a0 : List Item} {a1 : List Item} {p1 : Option Addr} {c2 : Nat} {p4 : Option Addr} {c5 : Nat} {Q : Bool → Prop} (R3 : RepSl eItem I p1 c2 a0) (R6 : RepSl eItem I p4 c5 a1) (hd : ref07_SameItems a0 a1 Q) :
  PFun prog 67 [.slice p1 a0.length c2, .slice p4 a1.length c5] I (fun _ => o0_ Q) := by
 refine Fun.enter func67 r ntmps67 r (.c (.c .n)) fun w0 M => ?_
 refine .sr (.ks 1 r (.nilS [1, 0] r r (.seq (.sr (.ks 1 r (.len un49 r r r r (.ks 1 r (.len un49 r r r r (.ks 1 r ?_)))))))))
 refine .nilS [10, 1, 0] r r (.condP r hd (fun hb8 hd => ?_) fun hb8 hd => ?_)
 · exact .sr (.ks 1 r (.nilS [4] r r (.ret (pret results67 (.t r .n) (.refl _) ⟨false, r, hd⟩))))
 refine .skipS [1, 0] r r (.seq (.sr (.ks 1 r (.nilS [5, 1, 0] r r (.block (.loop hd (fun (s54 : Int) c w => ∃ I_, IH.le I I_ ∧ Ok ⟨26, [], none⟩ [(0, .slice p1 a0.length c2), (1, .slice p4 a1.length c5), (5, .int .i64 s54)] c ∧ Sym w0 M I I_ [] w) (fun c w ho hs => ⟨I, (.refl _), ho.sub ⟨r, r, r, trivial⟩, hs.pick .n⟩) ?_))))))
 rintro s54 next55 hd c w hst
 obtain ⟨I56, hl57, hok, hsym⟩ := hst
 replace R3 := R3.mono hl57
 replace R6 := R6.mono hl57
 refine Cod.at hok hsym (.seq (.sr (.ks 2 r (.len un49 r r r r (.ks 1 r (.nilS [14, 5, 1, 0] r r (.condP r hd (fun hb59 hd => ?_) fun hb59 hd => ?_)))))))
 · refine .skipS [5, 1, 0] r r (.seq (.block (.seq (.dr [0, 1, 2, 3, 4, 5, 6, 7, 8] 9 (.fk 2 r ?_)))))
   obtain ⟨h60, x61, hx62, hd⟩ := hd
   obtain ⟨b63, o64, cs65, e66, hC67, hr68⟩ := R3.2 _ _ hx62
   cases hr68
   refine .g r r r (fun _ => .ixa un49 sz71 r e66 r h60 (idx_lt hx62 h60) r r .mk) (.g r r r (fun _ => .ldW isAgg71 sz71 hC67 r r r r .mk) (.fk 2 r ?_))
   obtain ⟨h69, x70, hx71, hd⟩ := hd
   obtain ⟨b72, o73, cs74, e75, hC76, hr77⟩ := R6.2 _ _ hx71
   cases hr77
   refine .g r r r (fun _ => .ixa un49 sz71 r e75 r h69 (idx_lt hx71 h69) r r .mk) (.g r r r (fun _ => .ldW isAgg71 sz71 hC76 r r r r .mk) (.g r r r (fun _ => .neV r r (EQ71 x61 x70) (EG71 _ _ _ _ _) r r r .mk) (.e2 9 (.nilS [25, 5, 1, 0] r r (.condP r hd (fun hb78 hd => ?_) fun hb78 hd => ?_)))))
   · exact .sr (.ks 1 r (.nilS [4] r r (.ret (pret results67 (.t r .n) hl57 ⟨false, r, hd⟩))))
   exact .skipS [5, 1, 0] r r (.region (.ks 3 r (.nil' fun c w ho hs => ⟨(w64 (s54 + 1)), hd, I56, hl57, ho.sub ⟨r, r, r, trivial⟩, hs.pick .n⟩)))
 exact .exitS [] r r (.sr (.ks 1 r (.nilS [4] r r (.ret (pret results67 (.t r .n) hl57 ⟨true, r, hd⟩)))))

theorem W_ref09_Same {I : IH} {a0 : Vec} {a1 : Vec} {p1 : Option Addr} {c2 : Nat} {p4 : Option Addr} {c5 : Nat} {Q : Bool → Prop} (R3 : RepSl eItem I p1 c2 a0.Items) (R6 : RepSl eItem I p4 c5 a1.Items) (hd : ref09_Same a0 a1 Q) :
  PFun prog 23 [.agg #[.int .i64 a0.N, .slice p1 a0.Items.length c2], .agg #[.int .i64 a1.N, .slice p4 a1.Items.length c5]] I (fun _ => o0_ Q) := by
 refine Fun.enter func23 r ntmps23 r (.c (.c .n)) fun w0 M => ?_
 refine .sr (.boxA r r r fun b11 => ?_)
 refine .boxA r r r fun b13 => ?_
 refine .ks 1 r (.nilS [3, 2] r r (.sr (.fa un51 r sz3 r (o := 0) r r r (.load1 ia3 r (.s .z) r r r (.fa un51 r sz3 r (o := 0) r r r (.load1 ia3 r .z r r r (.ks 2 r ?_)))))))
 refine splitP hd (fun hb15 hd => ?_) fun hb15 hd => ?_
 · rw [hb15]
   refine .gyes r r r (.fa un51 r sz49 r (o := 1) r r r (.gyes r r r (.load1 ia49 r (.s .z) r r r (.gyes r r r (.fa un51 r sz49 r (o := 1) r r r (.gyes r r r (.load1 ia49 r .z r r r ?_)))))))
   have hw17 := W_ref07_SameItems (I := I) R3 R6 hd
   refine .gyes r r r (.callP call67 r hw17 r r fun v18 hv19 => ?_)
   obtain ⟨r16, rfl, hd⟩ := hv19
   exact .ks 2 r (.nilS [4] r r (.drop .z (.drop .z (.ret (pret results23 (.t r .n) (.refl _) ⟨r16, r, hd⟩)))))
 rw [hb15]
 exact .ks 7 r (.nilS [4] r r (.drop .z (.drop .z (.ret (pret results23 (.t r .n) (.refl _) ⟨false, r, hd⟩)))))

theorem W_ref09_Right {I : IH} {a0 : Vec} {p1 : Option Addr} {c2 : Nat} {Q : Bool → Prop} (R3 : RepSl eItem I p1 c2 a0.Items) (hd : ref09_Right a0 Q) :
  PFun prog 71 [.agg #[.int .i64 a0.N, .slice p1 a0.Items.length c2]] I (fun _ => o0_ Q) := by
 refine Fun.enter func71 r ntmps71 r (.c .n) fun w0 M => ?_
 refine .sr (.boxA r r r fun b6 => ?_)
 refine .ks 1 r (.nilS [1] r r (.seq (.sr (.fa un51 r sz3 r (o := 0) r r r (.load1 ia3 r .z r r r (.ks 2 r ?_))))))
 refine splitP hd (fun hb10 hd => ?_) fun hb10 hd => ?_
 · rw [hb10]
   exact .ks 4 r (.nilS [11, 1] r r (.condKT r r (.sr (.ks 1 r (.nilS [2] r r (.drop .z (.ret (pret results71 (.t r .n) (.refl _) ⟨false, r, hd⟩))))))))
 rw [hb10]
 refine .gyes r r r (.fa un51 r sz3 r (o := 0) r r r (.gyes r r r (.load1 ia3 r .z r r r (.ks 2 r (.nilS [11, 1] r r (.condP r hd (fun hb11 hd => ?_) fun hb11 hd => ?_))))))
 · exact .sr (.ks 1 r (.nilS [2] r r (.drop .z (.ret (pret results71 (.t r .n) (.refl _) ⟨false, r, hd⟩)))))
 refine .skipS [1] r r (.seq (.sr (.ks 1 r (.nilS [3, 1] r r (.block (.loop hd (fun (s79 : Int) c w => ∃ I_, IH.le I I_ ∧ Ok ⟨57, [], none⟩ [(1, .pointer (some ⟨b6, 0, none⟩)), (3, .int .i64 s79)] c ∧ Sym w0 M I I_ [pto b6 (.cells #[.int .i64 a0.N, .slice p1 a0.Items.length c2] 51 (0, 0))] w) (fun c w ho hs => ⟨I, (.refl _), ho.sub ⟨r, r, trivial⟩, hs.pick (.c .z .n)⟩) ?_))))))
 rintro s79 next80 hd c w hst
 obtain ⟨I81, hl82, hok, hsym⟩ := hst
 replace R3 := R3.mono hl82
 refine Cod.at hok hsym (.seq (.sr (.ks 1 r (.fa un51 r sz49 r (o := 1) r r r (.load1 ia49 r .z r r r (.len un49 r r r r (.ks 1 r (.nilS [16, 3, 1] r r (.condP r hd (fun hb84 hd => ?_) fun hb84 hd => ?_)))))))))
 · refine .skipS [3, 1] r r (.seq (.block (.seq (.dr [0, 1, 2, 3, 4, 5, 6, 7, 8, 9, 10, 11, 12, 13, 14, 15, 16, 17, 18, 19, 20, 21, 22, 23, 24, 25, 26, 27, 28, 29, 30, 31, 32, 33, 34, 35, 36, 37] 38 (.g r r r (fun _ => .fa un51 r sz49 r (o := 1) r r r .mk) (.g r r r (fun _ => .load1 ia49 r .z r r r .mk) (.fk 1 r ?_)))))))
   obtain ⟨h85, x86, hx87, hd⟩ := hd
   obtain ⟨b88, o89, cs90, e91, hC92, hr93⟩ := R3.2 _ _ hx87
   cases hr93
   refine .g r r r (fun _ => .ixa un49 sz71 r e91 r h85 (idx_lt hx87 h85) r r .mk) (.g r r r (fun _ => .fa un71 r sz3 r (o := o89 + s79.toNat * 2) r r r .mk) (.g r r r (fun _ => .ld1 (j := 0) ia3 hC92 r r r r r .mk) (.fk 2 r ?_)))
   refine splitP hd (fun hb94 hd => ?_) fun hb94 hd => ?_
   · rw [hb94]
     exact .fk 30 r (.e2 38 (.nilS [56, 3, 1] r r (.condKT r r (.sr (.ks 1 r (.nilS [2] r r (.drop .z (.ret (pret results71 (.t r .n) hl82 ⟨false, r, hd⟩)))))))))
   rw [hb94]
   refine .g r r r (fun _ => .gyes r r r (.fa un51 r sz49 r (o := 1) r r r .mk)) (.g r r r (fun _ => .gyes r r r (.load1 ia49 r .z r r r .mk)) (.fk 1 r ?_))
   obtain ⟨h95, x96, hx97, hd⟩ := hd
   obtain ⟨b98, o99, cs100, e101, hC102, hr103⟩ := R3.2 _ _ hx97
   cases hr103
   refine .g r r r (fun _ => .gyes r r r (.ixa un49 sz71 r e101 r h95 (idx_lt hx97 h95) r r .mk)) (.g r r r (fun _ => .gyes r r r (.fa un71 r sz3 r (o := o99 + s79.toNat * 2) r r r .mk)) (.g r r r (fun _ => .gyes r r r (.ld1 (j := 0) ia3 hC102 r r r r r .mk)) (.g r r r (fun _ => .gyes r r r (.fa un51 r sz3 r (o := 0) r r r .mk)) (.g r r r (fun _ => .gyes r r r (.load1 ia3 r .z r r r .mk)) (.fk 3 r ?_)))))
   refine splitP hd (fun hb104 hd => ?_) fun hb104 hd => ?_
   · rw [hb104]
     exact .fk 19 r (.e2 38 (.nilS [56, 3, 1] r r (.condKT r r (.sr (.ks 1 r (.nilS [2] r r (.drop .z (.ret (pret results71 (.t r .n) hl82 ⟨false, r, hd⟩)))))))))
   rw [hb104]
   refine .fk 3 r ?_
   refine splitP hd (fun hb105 hd => ?_) fun hb105 hd => ?_
   · rw [hb105]
     refine .g r r r (fun _ => .gyes r r r (.fa un51 r sz49 r (o := 1) r r r .mk)) (.g r r r (fun _ => .gyes r r r (.load1 ia49 r .z r r r .mk)) (.fk 1 r ?_))
     obtain ⟨h106, x107, hx108, hd⟩ := hd
     obtain ⟨b109, o110, cs111, e112, hC113, hr114⟩ := R3.2 _ _ hx108
     cases hr114
     refine .g r r r (fun _ => .gyes r r r (.ixa un49 sz71 r e112 r h106 (idx_lt hx108 h106) r r .mk)) (.g r r r (fun _ => .gyes r r r (.fa un71 r sz3 r (o := o110 + s79.toNat * 2) r r r .mk)) (.g r r r (fun _ => .gyes r r r (.ld1 (j := 0) ia3 hC113 r r r r r .mk)) (.g r r r (fun _ => .gyes r r r (.fa un51 r sz49 r (o := 1) r r r .mk)) (.g r r r (fun _ => .gyes r r r (.load1 ia49 r .z r r r .mk)) (.fk 2 r ?_)))))
     obtain ⟨h115, x116, hx117, hd⟩ := hd
     obtain ⟨b118, o119, cs120, e121, hC122, hr123⟩ := R3.2 _ _ hx117
     cases hr123
     refine .g r r r (fun _ => .gyes r r r (.ixa un49 sz71 r e121 r h115 (idx_lt hx117 h115) r r .mk)) (.g r r r (fun _ => .gyes r r r (.fa un71 r sz3 r (o := o119 + (w64 (s79 - 1)).toNat * 2) r r r .mk)) (.g r r r (fun _ => .gyes r r r (.ld1 (j := 0) ia3 hC122 r r r r r .mk)) (.fk 3 r (.e2 38 (.nilS [56, 3, 1] r r (.condP r hd (fun hb124 hd => ?_) fun hb124 hd => ?_))))))
     · exact .sr (.ks 1 r (.nilS [2] r r (.drop .z (.ret (pret results71 (.t r .n) hl82 ⟨false, r, hd⟩)))))
     exact .skipS [3, 1] r r (.region (.ks 3 r (.nil' fun c w ho hs => ⟨(w64 (s79 + 1)), hd, I81, hl82, ho.sub ⟨r, r, trivial⟩, hs.pick (.c .z .n)⟩)))
   rw [hb105]
   exact .fk 16 r (.e2 38 (.nilS [56, 3, 1] r r (.condKF r r (.skipS [3, 1] r r (.region (.ks 3 r (.nil' fun c w ho hs => ⟨(w64 (s79 + 1)), hd, I81, hl82, ho.sub ⟨r, r, trivial⟩, hs.pick (.c .z .n)⟩)))))))
 exact .exitS [] r r (.drop .z (.sr (.ks 1 r (.nilS [2] r r (.ret (pret results71 (.t r .n) hl82 ⟨true, r, hd⟩))))))

theorem W_ref09_Sure {I : IH} {a0 : Vec} {p1 : Option Addr} {c2 : Nat} {Q : Vec → Prop} (R3 : RepSl eItem I p1 c2 a0.Items) (hd : ref09_Sure a0 Q) :
  PFun prog 76 [.agg #[.int .i64 a0.N, .slice p1 a0.Items.length c2]] I (o18_ Q) := by
 refine Fun.enter func76 r ntmps76 r (.c .n) fun w0 M => ?_
 refine .sr (.boxA r r r fun b11 => ?_)
 refine .allocA zv51 r r fun b13 => ?_
 refine .nilS [2, 1] r r (.seq (.sr (.loadW ia51 sz51 r (.s .z) r r r ?_)))
 have hw16 := W_ref09_Right (I := I) R3 hd
 refine .callP call71 r hw16 r r fun v17 hv18 => ?_
 obtain ⟨r15, rfl, hd⟩ := hv18
 refine .nilS [4, 2, 1] r r (.condP r hd (fun hb19 hd => ?_) fun hb19 hd => ?_)
 · exact .sr (.loadW ia51 sz51 r (.s .z) r r r (.storeA sz51 r r .z (.t (.t .nil)) r r (.nilS [2] r r (.drop (.s .z) (.ret (pret results76 (.w ia51 sz51 r .z r .n) (.refl _) ⟨a0, _, _, r, R3, hd⟩))))))
 exact .skipS [2] r r (.drop (.s .z) (.sr (.build zv51 un51 BI51 .n (by exact trivial) r r (.storeA sz51 r r .z (.t (.t .nil)) r r (.nilS [2] r r (.ret (pret results76 (.w ia51 sz51 r .z r .n) (.refl _) ⟨({ N := 0, Items := ([] : List Item) } : Vec), _, _, r, (.nil _ _ _), hd⟩)))))))

theorem W_ref09_Part {I : IH} {a0 : Vec} {a1 : Int} {a2 : Int} {p1 : Option Addr} {c2 : Nat} {Q : Vec → Prop} (R3 : RepSl eItem I p1 c2 a0.Items) (hd : ref09_Part a0 a1 a2 Q) :
  PFun prog 30 [.agg #[.int .i64 a0.N, .slice p1 a0.Items.length c2], .int .i64 a1, .int .i64 a2] I (o18_ Q) := by
 refine Fun.enter func30 r ntmps30 r (.c (.c (.c .n))) fun w0 M => ?_
 refine .sr (.boxA r r r fun b11 => ?_)
 refine .allocA zv51 r r fun b13 => ?_
 refine .nilS [6, 3, 2, 1] r r (.sr (.loadW ia51 sz51 r (.s .z) r r r ?_))
 have hw34 := W_ref09_Sure (I := I) R3 hd
 refine .call call76 r hw34 r r fun v29 I26 hl27 hv28 => ?_
 obtain ⟨r25, p31, c32, rfl, R33, hd⟩ := hv28
 replace R3 := R3.mono hl27
 refine .storeA sz51 r r (.s .z) (.t (.t .nil)) r r (.nilS [6, 3, 2, 1] r r (.seq (.dr [0, 1, 2, 3, 4, 5, 6] 7 (.fk 1 r (.g r r r (fun _ => .maxI r r r r .mk) (.fk 1 r (.g r r r (fun _ => .fa un51 r sz3 r (o := 0) r r r .mk) (.g r r r (fun _ => .load1 ia3 r (.s .z) r r r .mk) (.g r r r (fun _ => .minI r r r r .mk) ?_)))))))))
 refine .w [5, 4, 3, 2] [[], []] [1, 0, 1] r (by kernel_rfl) (by kernel_rfl) (by kernel_rfl) (r) (.inl r) fun ex => ?_
 refine .sub (E' := [(11, _), (12, _), (2, _), (3, _), (6, _)]) ⟨r, r, r, r, r, trivial⟩ (.ks 1 r (.so 2 r r r (.cg r r r r (fun _ => .minI r r r r .mk) (.cg r r r r (fun _ => .load1 ia3 r (.s .z) r r r .mk) (.cg r r r r (fun _ => .fa un51 r sz3 r (o := 0) r r r .mk) (.ck 1 r r trivial)))) (.e2 7 (.ks 1 r (.nilS [2, 6, 3, 1] r r (.seq (.sr (.ks 3 r (.nilS [19, 2, 6, 3, 1] r r ?_)))))))))
 refine .condP r hd (fun hb36 hd => ?_) fun hb36 hd => ?_
 · exact .sr (.build zv51 un51 BI51 .n (by exact trivial) r r (.storeA sz51 r r .z (.t (.t .nil)) r r (.nilS [6] r r (.drop (.s .z) (.ret (pret results30 (.w ia51 sz51 r .z r .n) hl27 ⟨({ N := 0, Items := ([] : List Item) } : Vec), _, _, r, (.nil _ _ _), hd⟩))))))
 refine .skipS [2, 6, 3, 1] r r (.sr (.ks 3 r (.build zv51 un51 BI51 (.c r r r (.t .nil) .n) (by exact ⟨⟨_, _, r, r, r⟩, trivial⟩) r r (.allocA zv51 r r fun b39 => ?_))))
 refine .storeA sz51 r r .z (.t (.t .nil)) r r (.nilS [7, 2, 6, 3, 1] r r (.seq (.sr (.ks 1 r (.nilS [8, 7, 2, 6, 3, 1] r r (.block (.own0 eItem 71 (.loop hd (fun (s : (List Item) × Int) c w => match s with | (s236, s240) => ∃ I_ p237 c238, IH.le I26 I_ ∧ Ok ⟨71, [], none⟩ [(1, .int .i64 (if 0 > a1 then 0 else a1)), (2, .int .i64 (if r25.N < a2 then r25.N else a2)), (3, .pointer (some ⟨b11, 0, none⟩)), (6, .pointer (some ⟨b13, 0, none⟩)), (7, .pointer (some ⟨b39, 0, none⟩)), (8, .int .i64 s240)] c ∧ Sym w0 M I I_ [pto b11 (.cells #[.int .i64 r25.N, .slice p31 r25.Items.length c32] 51 (0, 0)), pto b13 (.cells #[.int .i64 0, .slice none 0 0] 51 (0, 0)), pto b39 (.cells #[.int .i64 (w64 ((if r25.N < a2 then r25.N else a2) - (if 0 > a1 then 0 else a1))), .slice p237 s236.length c238] 51 (0, 0)), OwnSl eItem 71 p237 c238 s236] w) (fun c w ho hs => ⟨I26, _, _, (.refl _), ho.sub ⟨r, r, r, r, r, r, trivial⟩, hs.pick (.c (.s (.s (.s .z))) (.c (.s (.s .z)) (.c (.s .z) (.c .z .n))))⟩) ?_))))))))
 rintro ⟨s236, s240⟩ next242 hd c w hst
 obtain ⟨I243, p237, c238, hl244, hok, hsym⟩ := hst
 have le245 := IH.le.trans hl27 hl244
 replace R33 := R33.mono hl244
 refine Cod.at hok hsym (.seq (.sr (.ks 1 r (.fa un51 r sz49 r (o := 1) r r r (.load1 ia49 r .z r r r (.len un49 r r r r (.ks 1 r (.nilS [29, 8, 7, 6, 3, 2, 1] r r (.condP r hd (fun hb247 hd => ?_) fun hb247 hd => ?_)))))))))
 · refine .skipS [8, 7, 6, 3, 2, 1] r r (.seq (.block (.seq ?_)))
   refine Cod.joinQ (σ := Bool) hd (fun (s286 : Bool) c w => ∃ I_, IH.le I243 I_ ∧ Ok ⟨71, [], none⟩ [(1, .int .i64 (if 0 > a1 then 0 else a1)), (2, .int .i64 (if r25.N < a2 then r25.N else a2)), (3, .pointer (some ⟨b11, 0, none⟩)), (6, .pointer (some ⟨b13, 0, none⟩)), (7, .pointer (some ⟨b39, 0, none⟩)), (8, .int .i64 s240), (49, .bool s286)] c ∧ Sym w0 M I I_ [pto b11 (.cells #[.int .i64 r25.N, .slice p31 r25.Items.length c32] 51 (0, 0)), pto b13 (.cells #[.int .i64 0, .slice none 0 0] 51 (0, 0)), pto b39 (.cells #[.int .i64 (w64 ((if r25.N < a2 then r25.N else a2) - (if 0 > a1 then 0 else a1))), .slice p237 s236.length c238] 51 (0, 0)), OwnSl eItem 71 p237 c238 s236] w) (fun k287 hd => ?_) ?_
   · skip
     refine .region (.fa un51 r sz49 r (o := 1) r r r (.load1 ia49 r .z r r r (.ks 1 r ?_)))
     obtain ⟨h288, x289, hx290, hd⟩ := hd
     obtain ⟨b291, o292, cs293, e294, hC295, hr296⟩ := R33.2 _ _ hx290
     cases hr296
     refine .ixa un49 sz71 r e294 r h288 (idx_lt hx290 h288) r r (.fa un71 r sz3 r (o := o292 + s240.toNat * 2) r r r (.ld1 (j := 0) ia3 hC295 r r r r r (.ks 3 r ?_)))
     refine splitP hd (fun hb297 hd => ?_) fun hb297 hd => ?_
     · rw [hb297]
       refine .gyes r r r (.fa un51 r sz49 r (o := 1) r r r (.gyes r r r (.load1 ia49 r .z r r r (.ks 1 r ?_))))
       obtain ⟨h298, x299, hx300, hd⟩ := hd
       obtain ⟨b301, o302, cs303, e304, hC305, hr306⟩ := R33.2 _ _ hx300
       cases hr306
       exact .gyes r r r (.ixa un49 sz71 r e304 r h298 (idx_lt hx300 h298) r r (.gyes r r r (.fa un71 r sz3 r (o := o302 + s240.toNat * 2) r r r (.gyes r r r (.ld1 (j := 0) ia3 hC305 r r r r r (.ks 3 r (.nil' fun c w ho hs => ⟨(decide (x299.At < (if r25.N < a2 then r25.N else a2))), hd, I243, (.refl _), ho.sub ⟨r, r, r, r, r, r, r, trivial⟩, hs.pick (.c .z (.c .z (.c .z (.c .z .n))))⟩)))))))
     rw [hb297]
     exact .ks 9 r (.nil' fun c w ho hs => ⟨false, hd, I243, (.refl _), ho.sub ⟨r, r, r, r, r, r, r, trivial⟩, hs.pick (.c .z (.c .z (.c .z (.c .z .n))))⟩)
   rintro s286 hd c w hst
   obtain ⟨I307, hl308, hok, hsym⟩ := hst
   have le309 := IH.le.trans le245 hl308
   have le310 := IH.le.trans hl244 hl308
   replace R33 := R33.mono hl308
   refine Cod.at hok hsym (.condP r hd (fun hb311 hd => ?_) fun hb311 hd => ?_)
   · refine .ownF (.s (.s (.s .z))) fun hne312 => ?_
     refine .dr [0, 1, 2, 3, 4, 5, 6, 7, 8, 9, 10, 11, 12, 13, 14, 15, 16, 17, 18] 19 (.g r r r (fun _ => .fa un51 r sz49 r (o := 1) r r r .mk) (.g r r r (fun _ => .load1 ia49 r (.s (.s .z)) r r r .mk) (.g r r r (fun _ => .fa un51 r sz49 r (o := 1) r r r .mk) (.g r r r (fun _ => .load1 ia49 r .z r r r .mk) (.fk 1 r ?_)))))
     obtain ⟨h313, x314, hx315, hd⟩ := hd
     obtain ⟨b316, o317, cs318, e319, hC320, hr321⟩ := R33.2 _ _ hx315
     cases hr321
     refine .g r r r (fun _ => .ixa un49 sz71 r e319 r h313 (idx_lt hx315 h313) r r .mk) (.g r r r (fun _ => .fa un71 r sz3 r (o := o317 + s240.toNat * 2) r r r .mk) (.g r r r (fun _ => .ld1 (j := 0) ia3 hC320 r r r r r .mk) (.fk 2 r (.g r r r (fun _ => .fa un51 r sz49 r (o := 1) r r r .mk) (.g r r r (fun _ => .load1 ia49 r .z r r r .mk) (.fk 1 r ?_))))))
     obtain ⟨h322, x323, hx324, hd⟩ := hd
     obtain ⟨b325, o326, cs327, e328, hC329, hr330⟩ := R33.2 _ _ hx324
     cases hr330
     refine .g r r r (fun _ => .ixa un49 sz71 r e328 r h322 (idx_lt hx324 h322) r r .mk) (.g r r r (fun _ => .fa un71 r sz2 r (o := o326 + s240.toNat * 2 + 1) r r r .mk) (.g r r r (fun _ => .ld1 (j := 1) ia2 hC329 r r r r r .mk) (.g r r r (fun _ => .build zv71 un71 BI71 (.c r r r (.t .nil) (.c r r r (.s (.t .nil)) .n)) (by exact ⟨⟨_, _, r, r, r⟩, ⟨⟨_, _, r, r, r⟩, trivial⟩⟩) r r .mk) (.ww r fun ex => ?_))))
     refine .buildSlice 1 un49 sz71 zv71 r r (.c r r r .n) r r fun b331 => ?_
     refine .so 5 r r r (.cg r r r r (fun _ => .load1 ia49 r (.s (.s (.s .z))) r r r .mk) (.cg r r r r (fun _ => .fa un51 r sz49 r (o := 1) r r r .mk) trivial)) (.ww r fun ex => ?_)
     obtain ⟨hl333, hd⟩ := hd
     refine .append (ys := [({ At := w64 (x314.At - (if 0 > a1 then 0 else a1)), Val := x323.Val } : Item)]) 16 (.s (.s (.s (.s .z)))) un49 un49 IN71 r r r r r r r r r (.box .z (.one r) r) hl333 r r fun p334 c335 => ?_
     exact .so 5 r r r trivial (.e2 19 (.fa un51 r sz49 r (o := 1) r r r (.store1 sz49 r r (.s (.s (.s (.s .z)))) (.s (.t .nil)) r (.nilS [8, 7, 6, 3, 2, 1] r r (.drop (.s .z) (.region (.ks 3 r (.nil' fun c w ho hs => ⟨((s236 ++ ([({ At := w64 (x314.At - (if 0 > a1 then 0 else a1)), Val := x323.Val } : Item)])), w64 (s240 + 1)), hd, I307, _, _, le310, ho.sub ⟨r, r, r, r, r, r, trivial⟩, hs.pick (.c (.s .z) (.c (.s .z) (.c (.s .z) (.c .z .n))))⟩))))))))
   exact .skipS [8, 7, 6, 3, 2, 1] r r (.region (.ks 3 r (.nil' fun c w ho hs => ⟨(s236, w64 (s240 + 1)), hd, I307, _, _, le310, ho.sub ⟨r, r, r, r, r, r, trivial⟩, hs.pick (.c .z (.c .z (.c .z (.c .z .n))))⟩)))
 refine .exitS [7, 6] r r (.drop .z (.sr (.loadW ia51 sz51 r (.s .z) r r r (.storeA sz51 r r .z (.t (.t .nil)) r r (.nilS [6] r r (.drop (.s .z) (.pub (.s .z) fun I337 hl338 R339 => ?_)))))))
 have le340 := IH.le.trans le245 hl338
 have le341 := IH.le.trans hl244 hl338
 exact .ret (pret results30 (.w ia51 sz51 r .z r .n) le340 ⟨({ N := w64 ((if r25.N < a2 then r25.N else a2) - (if 0 > a1 then 0 else a1)), Items := s236 } : Vec), _, _, r, R339, hd⟩)

theorem W_ref09_Glue {I : IH} {a0 : List Vec} {p1 : Option Addr} {c2 : Nat} {Q : (Vec × Int) → Prop} (R3 : RepSl eVec I p1 c2 a0) (hd : ref09_Glue a0 Q) :
  PFun prog 31 [.slice p1 a0.length c2] I (o17_ Q) := by
 refine Fun.enter func31 r ntmps31 r (.c .n) fun w0 M => ?_
 refine .sr (.allocA zv51 r r fun b9 => ?_)
 refine .ks 1 r (.nilS [2, 0] r r (.sr (.allocA zv51 r r fun b13 => ?_)))
 refine .nilS [4, 2, 0] r r (.seq (.sr (.ks 1 r (.nilS [5, 4, 2, 0] r r (.block (.own0 eItem 71 (.loop hd (fun (s : Int × (List Item) × Int) c w => match s with | (s557, s558, s562) => ∃ I_ p559 c560, IH.le I I_ ∧ Ok ⟨58, [], none⟩ [(0, .slice p1 a0.length c2), (2, .pointer (some ⟨b9, 0, none⟩)), (4, .pointer (some ⟨b13, 0, none⟩)), (5, .int .i64 s562)] c ∧ Sym w0 M I I_ [pto b9 (.cells #[.int .i64 0, .slice none 0 0] 51 (0, 0)), pto b13 (.cells #[.int .i64 s557, .slice p559 s558.length c560] 51 (0, 0)), OwnSl eItem 71 p559 c560 s558] w) (fun c w ho hs => ⟨I, _, _, (.refl _), ho.sub ⟨r, r, r, r, trivial⟩, hs.pick (.c (.s (.s .z)) (.c (.s .z) (.c .z .n)))⟩) ?_)))))))
 rintro ⟨s557, s558, s562⟩ next564 hd c w hst
 obtain ⟨I565, p559, c560, hl566, hok, hsym⟩ := hst
 replace R3 := R3.mono hl566
 refine Cod.at hok hsym (.seq (.sr (.ks 2 r (.len underlying64 r r r r (.ks 1 r (.nilS [11, 5, 4, 2, 0] r r (.condP r hd (fun hb568 hd => ?_) fun hb568 hd => ?_)))))))
 · refine .skipS [5, 4, 2, 0] r r (.seq (.block (.sr (.ks 2 r ?_))))
   obtain ⟨h594, x595, hx596, hd⟩ := hd
   obtain ⟨b597, o598, cs599, e600, hC601, hr602⟩ := R3.2 _ _ hx596
   obtain ⟨p603, c604, rfl, R605⟩ := hr602
   refine .ixa underlying64 sz51 r e600 r h594 (idx_lt hx596 h594) r r (.ldW ia51 sz51 hC601 r r r r ?_)
   have hw615 := W_ref09_Sure (I := I565) R605 hd
   refine .call call76 r hw615 r r fun v610 I607 hl608 hv609 => ?_
   obtain ⟨r606, p612, c613, rfl, R614, hd⟩ := hv609
   have le616 := IH.le.trans hl566 hl608
   replace R3 := R3.mono hl608
   replace R605 := R605.mono hl608
   replace hC601 := hC601.mono hl608
   refine .allocA zv51 r r fun b617 => ?_
   refine .storeA sz51 r r .z (.t (.t .nil)) r r (.nilS [6, 5, 4, 2, 0] r r (.seq (.sr (.ks 1 r (.nilS [7, 6, 5, 4, 2, 0] r r (.block (.loop hd (fun (s : (List Item) × Int) c w => match s with | (s793, s797) => ∃ I_ p794 c795, IH.le I607 I_ ∧ Ok ⟨58, [], none⟩ [(0, .slice p1 a0.length c2), (2, .pointer (some ⟨b9, 0, none⟩)), (4, .pointer (some ⟨b13, 0, none⟩)), (5, .int .i64 s562), (6, .pointer (some ⟨b617, 0, none⟩)), (7, .int .i64 s797)] c ∧ Sym w0 M I I_ [pto b9 (.cells #[.int .i64 0, .slice none 0 0] 51 (0, 0)), pto b13 (.cells #[.int .i64 s557, .slice p794 s793.length c795] 51 (0, 0)), OwnSl eItem 71 p794 c795 s793, pto b617 (.cells #[.int .i64 r606.N, .slice p612 r606.Items.length c613] 51 (0, 0))] w) (fun c w ho hs => ⟨I607, _, _, (.refl _), ho.sub ⟨r, r, r, r, r, r, trivial⟩, hs.pick (.c (.s .z) (.c (.s .z) (.c (.s .z) (.c .z .n))))⟩) ?_)))))))
   rintro ⟨s793, s797⟩ next798 hd c w hst
   obtain ⟨I799, p794, c795, hl800, hok, hsym⟩ := hst
   have le801 := IH.le.trans le616 hl800
   replace R3 := R3.mono hl800
   replace R614 := R614.mono hl800
   refine Cod.at hok hsym (.seq (.sr (.ks 1 r (.fa un51 r sz49 r (o := 1) r r r (.load1 ia49 r (.s (.s (.s .z))) r r r (.len un49 r r r r (.ks 1 r (.nilS [23, 7, 6, 5, 4, 2, 0] r r (.condP r hd (fun hb803 hd => ?_) fun hb803 hd => ?_)))))))))
   · refine .skipS [7, 6, 5, 4, 2, 0] r r (.seq (.block (.ownF (.s (.s .z)) fun hne804 => ?_)))
     refine .dr [0, 1, 2, 3, 4, 5, 6, 7, 8, 9, 10, 11, 12, 13, 14, 15, 16, 17, 18, 19] 20 (.g r r r (fun _ => .fa un51 r sz49 r (o := 1) r r r .mk) (.g r r r (fun _ => .load1 ia49 r (.s .z) r r r .mk) (.g r r r (fun _ => .fa un51 r sz3 r (o := 0) r r r .mk) (.g r r r (fun _ => .load1 ia3 r (.s .z) r r r .mk) (.g r r r (fun _ => .fa un51 r sz49 r (o := 1) r r r .mk) (.g r r r (fun _ => .load1 ia49 r (.s (.s (.s .z))) r r r .mk) (.fk 1 r ?_)))))))
     obtain ⟨h805, x806, hx807, hd⟩ := hd
     obtain ⟨b808, o809, cs810, e811, hC812, hr813⟩ := R614.2 _ _ hx807
     cases hr813
     refine .g r r r (fun _ => .ixa un49 sz71 r e811 r h805 (idx_lt hx807 h805) r r .mk) (.g r r r (fun _ => .fa un71 r sz3 r (o := o809 + s797.toNat * 2) r r r .mk) (.g r r r (fun _ => .ld1 (j := 0) ia3 hC812 r r r r r .mk) (.fk 1 r (.g r r r (fun _ => .fa un51 r sz49 r (o := 1) r r r .mk) (.g r r r (fun _ => .load1 ia49 r (.s (.s (.s .z))) r r r .mk) (.fk 1 r ?_))))))
     obtain ⟨h814, x815, hx816, hd⟩ := hd
     obtain ⟨b817, o818, cs819, e820, hC821, hr822⟩ := R614.2 _ _ hx816
     cases hr822
     refine .g r r r (fun _ => .ixa un49 sz71 r e820 r h814 (idx_lt hx816 h814) r r .mk) (.g r r r (fun _ => .fa un71 r sz2 r (o := o818 + s797.toNat * 2 + 1) r r r .mk) (.g r r r (fun _ => .ld1 (j := 1) ia2 hC821 r r r r r .mk) (.g r r r (fun _ => .build zv71 un71 BI71 (.c r r r (.t .nil) (.c r r r (.s (.t .nil)) .n)) (by exact ⟨⟨_, _, r, r, r⟩, ⟨⟨_, _, r, r, r⟩, trivial⟩⟩) r r .mk) (.ww r fun ex => ?_))))
     refine .buildSlice 1 un49 sz71 zv71 r r (.c r r r .n) r r fun b823 => ?_
     refine .so 5 r r r (.cg r r r r (fun _ => .load1 ia49 r (.s (.s .z)) r r r .mk) (.cg r r r r (fun _ => .fa un51 r sz49 r (o := 1) r r r .mk) trivial)) (.ww r fun ex => ?_)
     obtain ⟨hl825, hd⟩ := hd
     refine .append (ys := [({ At := w64 (s557 + x806.At), Val := x815.Val } : Item)]) 16 (.s (.s (.s .z))) un49 un49 IN71 r r r r r r r r r (.box .z (.one r) r) hl825 r r fun p826 c827 => ?_
     exact .so 5 r r r trivial (.e2 20 (.fa un51 r sz49 r (o := 1) r r r (.store1 sz49 r r (.s (.s (.s .z))) (.s (.t .nil)) r (.nilS [7, 6, 5, 4, 2, 0] r r (.drop (.s .z) (.region (.ks 3 r (.nil' fun c w ho hs => ⟨((s793 ++ ([({ At := w64 (s557 + x806.At), Val := x815.Val } : Item)])), w64 (s797 + 1)), hd, I799, _, _, hl800, ho.sub ⟨r, r, r, r, r, r, trivial⟩, hs.pick (.c (.s .z) (.c (.s .z) (.c .z (.c .z .n))))⟩))))))))
   refine .exitS [6, 5, 4, 2, 0] r r (.sr (.fa un51 r sz3 r (o := 0) r r r (.load1 ia3 r (.s .z) r r r (.fa un51 r sz3 r (o := 0) r r r (.load1 ia3 r (.s (.s (.s .z))) r r r (.ks 1 r (.fa un51 r sz3 r (o := 0) r r r (.store1 sz3 r r (.s .z) (.t .nil) r (.nilS [5, 4, 2, 0] r r ?_)))))))))
   refine .drop (.s (.s (.s .z))) (.sr (.fa un51 r sz3 r (o := 0) r r r (.load1 ia3 r (.s .z) r r r (.ks 1 r (.nilS [55, 5, 4, 2, 0] r r (.condP r hd (fun hb829 hd => ?_) fun hb829 hd => ?_))))))
   · exact .sr (.build zv51 un51 BI51 .n (by exact trivial) r r (.storeA sz51 r r .z (.t (.t .nil)) r r (.ks 1 r (.nilS [3, 2] r r (.drop (.s .z) (.drop (.s .z) (.ret (pret results31 (.w ia51 sz51 r .z r (.t r .n)) le801 ⟨(({ N := 0, Items := ([] : List Item) } : Vec), 5), _, _, r, (.nil _ _ _), hd⟩))))))))
   exact .skipS [5, 4, 2, 0] r r (.region (.ks 3 r (.nil' fun c w ho hs => ⟨(w64 (s557 + r606.N), s793, w64 (s562 + 1)), hd, I799, _, _, le801, ho.sub ⟨r, r, r, r, trivial⟩, hs.pick (.c .z (.c .z (.c .z .n)))⟩)))
 refine .exitS [4, 2] r r (.sr (.loadW ia51 sz51 r (.s .z) r r r (.storeA sz51 r r .z (.t (.t .nil)) r r (.ks 1 r (.nilS [3, 2] r r (.drop (.s .z) (.pub (.s .z) fun I830 hl831 R832 => ?_)))))))
 have le833 := IH.le.trans hl566 hl831
 exact .ret (pret results31 (.w ia51 sz51 r .z r (.t r .n)) le833 ⟨(({ N := s557, Items := s558 } : Vec), 0), _, _, r, R832, hd⟩)

theorem W_ref21_Glue {I : IH} {a0 : List State} {p1 : Option Addr} {c2 : Nat} {Q : State → Prop} (R3 : RepSl eState I p1 c2 a0) (hd : ref21_Glue a0 Q) :
  PFun prog 33 [.slice p1 a0.length c2] I (o16_ Q) := by
 refine Fun.enter func33 r ntmps33 r (.c .n) fun w0 M => ?_
 refine .sr (.allocA zv46 r r fun b15 => ?_)
 refine .nilS [2, 0] r r (.sr (.allocA zv46 r r fun b19 => ?_))
 refine .nilS [3, 2, 0] r r (.sr (.ks 1 r (.nilS [4, 3, 2, 0] r r (.seq (.sr (.ks 1 r (.nilS [5, 4, 3, 2, 0] r r (.block (.own0 eI64 2 ?_)))))))))
 refine .own0 eI64 2 (.own0 eI64 3 (.loop hd (fun (s : Int × Int × (List Int) × (List Int) × (List Int) × Int) c w => match s with | (s2476, s2477, s2478, s2482, s2486, s2490) => ∃ I_ p2479 c2480 p2483 c2484 p2487 c2488, IH.le I I_ ∧ Ok ⟨82, [], none⟩ [(0, .slice p1 a0.length c2), (2, .pointer (some ⟨b15, 0, none⟩)), (3, .pointer (some ⟨b19, 0, none⟩)), (4, .slice p2487 s2486.length c2488), (5, .int .i64 s2490)] c ∧ Sym w0 M I I_ [pto b15 (.cells #[.int .i64 0, .int .i64 0, .slice none 0 0, .slice none 0 0, .slice none 0 0] 46 (0, 0)), pto b19 (.cells #[.int .i64 s2476, .int .i64 s2477, .slice p2479 s2478.length c2480, .slice p2483 s2482.length c2484, .slice none 0 0] 46 (0, 0)), OwnSl eI64 2 p2479 c2480 s2478, OwnSl eI64 2 p2483 c2484 s2482, OwnSl eI64 3 p2487 c2488 s2486] w) (fun c w ho hs => ⟨I, _, _, _, _, _, _, (.refl _), ho.sub ⟨r, r, r, r, r, trivial⟩, hs.pick (.c (.s (.s (.s (.s .z)))) (.c (.s (.s (.s .z))) (.c (.s (.s .z)) (.c (.s .z) (.c .z .n)))))⟩) ?_))
 rintro ⟨s2476, s2477, s2478, s2482, s2486, s2490⟩ next2494 hd c w hst
 obtain ⟨I2495, p2479, c2480, p2483, c2484, p2487, c2488, hl2496, hok, hsym⟩ := hst
 replace R3 := R3.mono hl2496
 refine Cod.at hok hsym (.seq (.sr (.ks 2 r (.len un66 r r r r (.ks 1 r (.nilS [11, 5, 4, 3, 2, 0] r r (.condP r hd (fun hb2498 hd => ?_) fun hb2498 hd => ?_)))))))
 · refine .skipS [5, 4, 3, 2, 0] r r (.seq (.block (.seq ?_)))
   refine Cod.joinQ (σ := Int) hd (fun (s2537 : Int) c w => ∃ I_, IH.le I2495 I_ ∧ Ok ⟨82, [], none⟩ [(0, .slice p1 a0.length c2), (2, .pointer (some ⟨b15, 0, none⟩)), (3, .pointer (some ⟨b19, 0, none⟩)), (4, .slice p2487 s2486.length c2488), (5, .int .i64 s2490)] c ∧ Sym w0 M I I_ [pto b15 (.cells #[.int .i64 0, .int .i64 0, .slice none 0 0, .slice none 0 0, .slice none 0 0] 46 (0, 0)), pto b19 (.cells #[.int .i64 s2537, .int .i64 s2477, .slice p2479 s2478.length c2480, .slice p2483 s2482.length c2484, .slice none 0 0] 46 (0, 0)), OwnSl eI64 2 p2479 c2480 s2478, OwnSl eI64 2 p2483 c2484 s2482, OwnSl eI64 3 p2487 c2488 s2486] w) (fun k2538 hd => ?_) ?_
   · skip
     refine .sr (.ks 2 r (.nilS [15, 5, 4, 3, 2, 0] r r (.condP r hd (fun hb2539 hd => ?_) fun hb2539 hd => ?_)))
     · refine .region (.ks 1 r ?_)
       obtain ⟨h2540, x2541, hx2542, hd⟩ := hd
       obtain ⟨b2543, o2544, cs2545, e2546, hC2547, hr2548⟩ := R3.2 _ _ hx2542
       obtain ⟨p2549, c2550, p2552, c2553, p2555, c2556, rfl, R2551, R2554, R2557⟩ := hr2548
       exact .ixa un66 sz46 r e2546 r h2540 (idx_lt hx2542 h2540) r r (.fa un46 r sz3 r (o := o2544 + (Int.toNat 0) * 5) r r r (.ld1 (j := 0) ia3 hC2547 r r r r r (.fa un46 r sz3 r (o := 0) r r r (.store1 sz3 r r (.s .z) (.t .nil) r (.nil' fun c w ho hs => ⟨x2541.Low, hd, I2495, (.refl _), ho.sub ⟨r, r, r, r, r, trivial⟩, hs.pick (.c .z (.c .z (.c .z (.c .z (.c .z .n)))))⟩)))))
     exact .skip' fun c w ho hs => ⟨s2476, hd, I2495, (.refl _), ho.sub ⟨r, r, r, r, r, trivial⟩, hs.pick (.c .z (.c .z (.c .z (.c .z (.c .z .n)))))⟩
   rintro s2537 hd c w hst
   obtain ⟨I2558, hl2559, hok, hsym⟩ := hst
   have le2560 := IH.le.trans hl2496 hl2559
   replace R3 := R3.mono hl2559
   refine Cod.at hok hsym (.sr (.ks 2 r ?_))
   obtain ⟨h2579, x2580, hx2581, hd⟩ := hd
   obtain ⟨b2582, o2583, cs2584, e2585, hC2586, hr2587⟩ := R3.2 _ _ hx2581
   obtain ⟨p2588, c2589, p2591, c2592, p2594, c2595, rfl, R2590, R2593, R2596⟩ := hr2587
   refine .ixa un66 sz46 r e2585 r h2579 (idx_lt hx2581 h2579) r r (.fa un46 r sz3 r (o := o2583 + s2490.toNat * 5 + 1) r r r (.ld1 (j := 1) ia3 hC2586 r r r r r (.fa un46 r sz3 r (o := 1) r r r (.store1 sz3 r r (.s .z) (.s (.t .nil)) r (.nilS [5, 4, 3, 2, 0] r r (.sr (.ks 2 r ?_)))))))
   obtain ⟨h2627, x2628, hx2629, hd⟩ := hd
   obtain ⟨b2630, o2631, cs2632, e2633, hC2634, hr2635⟩ := R3.2 _ _ hx2629
   obtain ⟨p2636, c2637, p2639, c2640, p2642, c2643, rfl, R2638, R2641, R2644⟩ := hr2635
   refine .ixa un66 sz46 r e2633 r h2627 (idx_lt hx2629 h2627) r r (.fa un46 r sz44 r (o := o2631 + s2490.toNat * 5 + 4) r r r (.ld1 (j := 4) ia44 hC2634 r r r r r ?_))
   have hw2654 := W_ref03_List (I := I2558) R2644 hd
   refine .call call37 r hw2654 r r fun v2649 I2646 hl2647 hv2648 => ?_
   obtain ⟨r2645, p2651, c2652, rfl, R2653, hd⟩ := hv2648
   have le2655 := IH.le.trans le2560 hl2647
   have le2656 := IH.le.trans hl2559 hl2647
   replace R3 := R3.mono hl2647
   replace R2638 := R2638.mono hl2647
   replace R2641 := R2641.mono hl2647
   replace R2644 := R2644.mono hl2647
   replace hC2634 := hC2634.mono hl2647
   refine .ks 1 r (.nilS [6, 5, 4, 3, 2, 0] r r (.seq (.sr (.ks 1 r (.nilS [7, 6, 5, 4, 3, 2, 0] r r (.block (.loop hd (fun (s : (List Int) × Int) c w => match s with | (s2887, s2891) => ∃ I_ p2888 c2889, IH.le I2646 I_ ∧ Ok ⟨82, [], none⟩ [(0, .slice p1 a0.length c2), (2, .pointer (some ⟨b15, 0, none⟩)), (3, .pointer (some ⟨b19, 0, none⟩)), (4, .slice p2888 s2887.length c2889), (5, .int .i64 s2490), (6, .slice p2651 r2645.length c2652), (7, .int .i64 s2891)] c ∧ Sym w0 M I I_ [pto b15 (.cells #[.int .i64 0, .int .i64 0, .slice none 0 0, .slice none 0 0, .slice none 0 0] 46 (0, 0)), pto b19 (.cells #[.int .i64 s2537, .int .i64 x2580.High, .slice p2479 s2478.length c2480, .slice p2483 s2482.length c2484, .slice none 0 0] 46 (0, 0)), OwnSl eI64 2 p2479 c2480 s2478, OwnSl eI64 2 p2483 c2484 s2482, OwnSl eI64 3 p2888 c2889 s2887] w) (fun c w ho hs => ⟨I2646, _, _, (.refl _), ho.sub ⟨r, r, r, r, r, r, r, trivial⟩, hs.pick (.c .z (.c .z (.c .z (.c .z (.c .z .n)))))⟩) ?_)))))))
   rintro ⟨s2887, s2891⟩ next2892 hd c w hst
   obtain ⟨I2893, p2888, c2889, hl2894, hok, hsym⟩ := hst
   have le2895 := IH.le.trans le2655 hl2894
   have le2896 := IH.le.trans le2656 hl2894
   replace R3 := R3.mono hl2894
   replace R2653 := R2653.mono hl2894
   refine Cod.at hok hsym (.seq (.sr (.ks 2 r (.len un30 r r r r (.ks 1 r (.nilS [36, 7, 6, 5, 4, 3, 2, 0] r r (.condP r hd (fun hb2898 hd => ?_) fun hb2898 hd => ?_)))))))
   · refine .skipS [7, 6, 5, 4, 3, 2, 0] r r (.seq (.block (.ownF (.s (.s .z)) fun hne2899 => ?_)))
     refine .ownF (.s (.s (.s .z))) fun hne2900 => ?_
     refine .ownF (.s (.s (.s (.s .z)))) fun hne2901 => ?_
     refine .dr [0, 1, 2, 3, 4, 5, 6, 7, 8, 9, 10, 11, 12, 13, 14, 15] 16 (.fk 3 r ?_)
     obtain ⟨h2902, x2903, hx2904, hd⟩ := hd
     obtain ⟨b2905, o2906, cs2907, e2908, hC2909, hr2910⟩ := R2653.2 _ _ hx2904
     cases hr2910
     refine .g r r r (fun _ => .ixa un30 sz3 r e2908 r h2902 (idx_lt hx2904 h2902) r r .mk) (.g r r r (fun _ => .ld1 (j := 0) ia3 hC2909 r r r r r .mk) (.fk 2 r ?_))
     obtain ⟨h2911, x2912, hx2913, hd⟩ := hd
     obtain ⟨b2914, o2915, cs2916, e2917, hC2918, hr2919⟩ := R3.2 _ _ hx2913
     obtain ⟨p2920, c2921, p2923, c2924, p2926, c2927, rfl, R2922, R2925, R2928⟩ := hr2919
     refine .g r r r (fun _ => .ixa un66 sz46 r e2917 r h2911 (idx_lt hx2913 h2911) r r .mk) (.g r r r (fun _ => .fa un46 r sz3 r (o := o2915 + s2490.toNat * 5) r r r .mk) (.g r r r (fun _ => .ld1 (j := 0) ia3 hC2918 r r r r r .mk) (.fk 1 r (.g r r r (fun _ => .fa un46 r sz3 r (o := 0) r r r .mk) (.g r r r (fun _ => .load1 ia3 r (.s .z) r r r .mk) (.fk 1 r (.ww r fun ex => ?_)))))))
     refine .buildSlice 1 un30 sz3 zv3 r r (.c r r r .n) r r fun b2929 => ?_
     refine .so 6 r r r (.ck 1 r r trivial) (.ww r fun ex => ?_)
     obtain ⟨hl2931, hd⟩ := hd
     refine .append (ys := [w64 ((w64 (x2903 + x2912.Low)) - s2537)]) 8 (.s (.s (.s (.s (.s .z))))) un30 un30 IN3 r r r r r r r r r (.box .z (.one r) r) hl2931 r r fun p2932 c2933 => ?_
     exact .so 6 r r r trivial (.e2 16 (.ks 1 r (.nilS [4, 7, 6, 5, 3, 2, 0] r r (.drop (.s .z) (.region (.ks 3 r (.nil' fun c w ho hs => ⟨((s2887 ++ ([w64 ((w64 (x2903 + x2912.Low)) - s2537)])), w64 (s2891 + 1)), hd, I2893, _, _, hl2894, ho.sub ⟨r, r, r, r, r, r, r, trivial⟩, hs.pick (.c (.s .z) (.c (.s .z) (.c (.s .z) (.c (.s .z) (.c .z .n)))))⟩)))))))
   refine .exitS [5, 4, 3, 2, 0] r r (.seq (.ownF (.s (.s .z)) fun hne2935 => ?_))
   refine .ownF (.s (.s (.s .z))) fun hne2936 => ?_
   refine .ownF (.s (.s (.s (.s .z)))) fun hne2937 => ?_
   refine .dr [0, 1, 2, 3, 4, 5, 6, 7] 8 (.g r r r (fun _ => .fa un46 r sz23 r (o := 2) r r r .mk) (.g r r r (fun _ => .load1 ia23 r (.s .z) r r r .mk) (.fk 2 r ?_)))
   obtain ⟨h2938, x2939, hx2940, hd⟩ := hd
   obtain ⟨b2941, o2942, cs2943, e2944, hC2945, hr2946⟩ := R3.2 _ _ hx2940
   obtain ⟨p2947, c2948, p2950, c2951, p2953, c2954, rfl, R2949, R2952, R2955⟩ := hr2946
   refine .g r r r (fun _ => .ixa un66 sz46 r e2944 r h2938 (idx_lt hx2940 h2938) r r .mk) (.g r r r (fun _ => .fa un46 r sz23 r (o := o2942 + s2490.toNat * 5 + 2) r r r .mk) (.g r r r (fun _ => .ld1 (j := 2) ia23 hC2945 r r r r r .mk) (.ww r fun ex => ?_)))
   obtain ⟨hl2956, hd⟩ := hd
   refine .append (ys := x2939.A) 8 (.s (.s .z)) un23 un23 IN2 r r r r r r r r r (.imm R2949 r) hl2956 r r fun p2957 c2958 => ?_
   refine .so 5 r r r trivial (.e2 8 (.fa un46 r sz23 r (o := 2) r r r (.store1 sz23 r r (.s (.s .z)) (.s (.s (.t .nil))) r (.nilS [5, 4, 3, 2, 0] r r (.ownF .z fun hne2960 => ?_)))))
   refine .ownF (.s (.s (.s .z))) fun hne2961 => ?_
   refine .ownF (.s (.s (.s (.s .z)))) fun hne2962 => ?_
   refine .dr [0, 1, 2, 3, 4, 5, 6, 7] 8 (.g r r r (fun _ => .fa un46 r sz23 r (o := 3) r r r .mk) (.g r r r (fun _ => .load1 ia23 r (.s (.s .z)) r r r .mk) (.fk 2 r ?_)))
   obtain ⟨h2963, x2964, hx2965, hd⟩ := hd
   obtain ⟨b2966, o2967, cs2968, e2969, hC2970, hr2971⟩ := R3.2 _ _ hx2965
   obtain ⟨p2972, c2973, p2975, c2976, p2978, c2979, rfl, R2974, R2977, R2980⟩ := hr2971
   refine .g r r r (fun _ => .ixa un66 sz46 r e2969 r h2963 (idx_lt hx2965 h2963) r r .mk) (.g r r r (fun _ => .fa un46 r sz23 r (o := o2967 + s2490.toNat * 5 + 3) r r r .mk) (.g r r r (fun _ => .ld1 (j := 3) ia23 hC2970 r r r r r .mk) (.ww r fun ex => ?_)))
   obtain ⟨hl2981, hd⟩ := hd
   refine .append (ys := x2964.B) 8 (.s (.s (.s .z))) un23 un23 IN2 r r r r r r r r r (.imm R2977 r) hl2981 r r fun p2982 c2983 => ?_
   exact .so 5 r r r trivial (.e2 8 (.fa un46 r sz23 r (o := 3) r r r (.store1 sz23 r r (.s (.s (.s .z))) (.s (.s (.s (.t .nil)))) r (.nilS [5, 4, 3, 2, 0] r r (.region (.ks 3 r (.nil' fun c w ho hs => ⟨(s2537, x2580.High, (s2478 ++ x2939.A), (s2482 ++ x2964.B), s2887, w64 (s2490 + 1)), hd, I2893, _, _, _, _, _, _, le2895, ho.sub ⟨r, r, r, r, r, trivial⟩, hs.pick (.c (.s (.s .z)) (.c (.s (.s .z)) (.c (.s .z) (.c .z (.c .z .n)))))⟩)))))))
 refine .exitS [4, 3, 2] r r (.sr (.fa un46 r sz3 r (o := 1) r r r (.load1 ia3 r (.s .z) r r r (.fa un46 r sz3 r (o := 0) r r r (.load1 ia3 r (.s .z) r r r (.ks 2 r (.pub (.s (.s (.s (.s .z)))) fun I2985 hl2986 R2987 => ?_)))))))
 have le2988 := IH.le.trans hl2496 hl2986
 have hw2998 := W_ref03_Of (I := I2985) R2987 hd
 refine .call call58 r hw2998 r r fun v2993 I2990 hl2991 hv2992 => ?_
 obtain ⟨r2989, p2995, c2996, rfl, R2997, hd⟩ := hv2992
 have le2999 := IH.le.trans le2988 hl2991
 replace R2987 := R2987.mono hl2991
 refine .fa un46 r sz44 r (o := 4) r r r (.store1 sz44 r r (.s .z) (.s (.s (.s (.s (.t .nil))))) r (.nilS [3, 2] r r (.sr (.loadW ia46 sz46 r (.s .z) r r r (.storeA sz46 r r .z (.t (.t (.t (.t (.t .nil))))) r r (.nilS [2] r r (.drop (.s .z) (.pub (.s .z) fun I3000 hl3001 R3002 => ?_))))))))
 have le3003 := IH.le.trans le2999 hl3001
 replace R2997 := R2997.mono hl3001
 refine .pub (.s .z) fun I3004 hl3005 R3006 => ?_
 have le3007 := IH.le.trans le3003 hl3005
 replace R2997 := R2997.mono hl3005
 replace R3002 := R3002.mono hl3005
 exact .ret (pret results33 (.w ia46 sz46 r .z r .n) le3007 ⟨({ Low := s2476, High := s2477, A := s2478, B := s2482, On := r2989 } : State), _, _, _, _, _, _, r, R3002, R3006, R2997, hd⟩)

theorem W_law21_ProgParts {I : IH} {a0 : Plan} {a1 : (List Item) × (List Item)} {a2 : Int × Int} {p1 : Option Addr} {c2 : Nat} {p4 : Option Addr} {c5 : Nat} {p7 : Option Addr} {c8 : Nat} {Q : Bool → Prop} (R3 : RepSl eI64 I p1 c2 a0.Draws) (R6 : RepSl eItem I p4 c5 a1.1) (R9 : RepSl eItem I p7 c8 a1.2) (hd : law21_ProgParts a0 a1 a2 Q) :
  PFun prog 5 [.agg #[.int .i64 a0.Kind, .int .i64 a0.N, .int .i64 a0.Source, .int .i64 a0.Length, .slice p1 a0.Draws.length c2], .agg #[.slice p4 a1.1.length c5, .slice p7 a1.2.length c8], .agg #[.int .u8 a2.1, .int .u8 a2.2]] I (fun _ => o0_ Q) := by
 refine Fun.enter func5 r ntmps5 r (.c (.c (.c .n))) fun w0 M => ?_
 refine .sr (.boxA r r r fun b16 => ?_)
 refine .boxA r r r fun b18 => ?_
 refine .boxA r r r fun b20 => ?_
 refine .ks 1 r (.nilS [5, 4, 3] r r (.sr (.loadW ia25 sz25 r (.s (.s .z)) r r r (.ixArr (i := 0) underlying59 sizeOf5 r r (by decide) (o := 0) r r r (.load1 isAgg5 r .z r r r (.conv un5 un3 r r r (.rem r r (by decide) r r ?_)))))))
 have hw41 := W_law21_Plan (I := I) R3 hd
 refine .call call17 r hw41 r r fun v36 I33 hl34 hv35 => ?_
 obtain ⟨r32, p38, c39, rfl, R40, hd⟩ := hv35
 replace R3 := R3.mono hl34
 replace R6 := R6.mono hl34
 replace R9 := R9.mono hl34
 refine .storeA sz25 r r (.s (.s .z)) (.t (.t (.t (.t (.t .nil))))) r r (.nilS [5, 4, 3] r r (.sr (.ixArr (i := 1) underlying59 sizeOf5 r r (by decide) (o := 1) r r r (.load1 isAgg5 r .z r r r (.conv un5 un3 r r r (.fa un25 r sz3 r (o := 1) r r r (.load1 ia3 r (.s (.s .z)) r r r (.ks 1 r ?_))))))))
 have hw47 := W_law21_Within (I := I33) hd
 refine .callP call29 r hw47 r r fun v48 hv49 => ?_
 obtain ⟨r46, rfl, hd⟩ := hv49
 refine .ks 1 r (.nilS [7, 4, 3] r r (.drop .z (.seq (.dr [0, 1, 2, 4, 5, 6, 8, 9, 3, 7, 999, 10] 11 (.g r r r (fun _ => .loadW ia25 sz25 r (.s .z) r r r .mk) (.g r r r (fun _ => .ixArr (i := 0) underlying58 sz49 r r (by decide) (o := 0) r r r .mk) (.g r r r (fun _ => .load1 ia49 r .z r r r .mk) (.g r r r (fun _ => .loadW ia25 sz25 r (.s .z) r r r .mk) (.g r r r (fun _ => .ixArr (i := 1) underlying58 sz49 r r (by decide) (o := 1) r r r .mk) ?_)))))))))
 refine .g r r r (fun _ => .load1 ia49 r .z r r r .mk) (.a (fun b => .pointer (some ⟨b, 0, none⟩)) (fun b => pto b (.cells #[.int .i64 0, .slice none 0 0] 51 (0, 0))) r r r r (fun _ L hL ex => .allocA zv51 r r fun b => .mk (val := fun b => .pointer (some ⟨b, 0, none⟩)) (atom := fun b => pto b (.cells #[.int .i64 0, .slice none 0 0] 51 (0, 0))) hL b) (.a (fun b => .pointer (some ⟨b, 0, none⟩)) (fun b => pto b (.cells #[.int .i64 0, .slice none 0 0] 51 (0, 0))) r r r r (fun _ L hL ex => .allocA zv51 r r fun b => .mk (val := fun b => .pointer (some ⟨b, 0, none⟩)) (atom := fun b => pto b (.cells #[.int .i64 0, .slice none 0 0] 51 (0, 0))) hL b) (.ww r fun ex => ?_)))
 have hw87 := W_law21_got (I := I33) R40 R6 hd
 refine .call call21 r hw87 r r fun v82 I79 hl80 hv81 => ?_
 obtain ⟨r78, p84, c85, rfl, R86, hd⟩ := hv81
 have le88 := IH.le.trans hl34 hl80
 replace R6 := R6.mono hl80
 replace R9 := R9.mono hl80
 replace R40 := R40.mono hl80
 refine .so 2 r r r (.cg r r r r (fun _ => .load1 ia49 r .z r r r .mk) (.cg r r r r (fun _ => .ixArr (i := 1) underlying58 sz49 r r (by decide) (o := 1) r r r .mk) (.cg r r r r (fun _ => .loadW ia25 sz25 r (.s .z) r r r .mk) trivial))) (.ww r fun ex => ?_)
 have hw98 := W_law21_got (I := I79) R40 R9 hd
 refine .call call21 r hw98 r r fun v93 I90 hl91 hv92 => ?_
 obtain ⟨r89, p95, c96, rfl, R97, hd⟩ := hv92
 have le99 := IH.le.trans le88 hl91
 replace R6 := R6.mono hl91
 replace R9 := R9.mono hl91
 replace R40 := R40.mono hl91
 replace R86 := R86.mono hl91
 refine .so 2 r r r trivial (.b r fun b100 b101 => DrawD.nop (.ww r fun ex => ?_))
 refine .storeA sz51 r r (.s (.s (.s .z))) (.t (.t .nil)) r r (.sn 4 r r r trivial (.e2 11 (.storeA sz51 r r (.s (.s .z)) (.t (.t .nil)) r r (.nilS [8, 9, 7, 3] r r (.drop .z (.seq (.dr [0, 1, 2, 3, 5, 7, 4, 6, 999] 8 (.g r r r (fun _ => .loadW ia25 sz25 r .z r r r .mk) (.g r r r (fun _ => .loadW ia25 sz25 r .z r r r .mk) ?_)))))))))
 refine .g r r r (fun _ => .fa un25 r sz3 r (o := 1) r r r .mk) (.g r r r (fun _ => .load1 ia3 r .z r r r .mk) (.g r r r (fun _ => .loadW ia51 sz51 r (.s (.s .z)) r r r .mk) (.a (fun b => .pointer (some ⟨b, 0, none⟩)) (fun b => pto b (.cells #[.int .i64 0, .int .i64 0, .slice none 0 0, .slice none 0 0, .slice none 0 0] 46 (0, 0))) r r r r (fun _ L hL ex => .allocA zv46 r r fun b => .mk (val := fun b => .pointer (some ⟨b, 0, none⟩)) (atom := fun b => pto b (.cells #[.int .i64 0, .int .i64 0, .slice none 0 0, .slice none 0 0, .slice none 0 0] 46 (0, 0))) hL b) (.ww r fun ex => ?_))))
 have hw154 := W_prog_Begin (I := I90) R40 hd
 refine .call call18 r hw154 r r fun v143 I140 hl141 hv142 => ?_
 obtain ⟨r139, p145, c146, p148, c149, p151, c152, rfl, R147, R150, R153, hd⟩ := hv142
 have le155 := IH.le.trans le99 hl141
 replace R40 := R40.mono hl141
 replace R86 := R86.mono hl141
 replace R97 := R97.mono hl141
 refine .so 3 r r r (.cg r r r r (fun _ => .loadW ia51 sz51 r (.s (.s .z)) r r r .mk) (.cg r r r r (fun _ => .loadW ia25 sz25 r .z r r r .mk) trivial)) (.ww r fun ex => ?_)
 have hw171 := W_prog_Update (I := I140) R40 R147 R150 R153 R86 hd
 refine .call call22 r hw171 r r fun v160 I157 hl158 hv159 => ?_
 obtain ⟨r156, p162, c163, p165, c166, p168, c169, rfl, R164, R167, R170, hd⟩ := hv159
 have le172 := IH.le.trans le155 hl158
 replace R40 := R40.mono hl158
 replace R86 := R86.mono hl158
 replace R97 := R97.mono hl158
 replace R147 := R147.mono hl158
 replace R150 := R150.mono hl158
 replace R153 := R153.mono hl158
 refine .so 3 r r r trivial (.b r fun b173 => DrawD.nop (.e2 8 (.storeA sz46 r r (.s (.s (.s .z))) (.t (.t (.t (.t (.t .nil))))) r r (.nilS [10, 8, 9, 7, 3] r r (.seq (.dr [0, 1, 2, 4, 5, 8, 3, 6, 7, 999] 9 (.g r r r (fun _ => .loadW ia25 sz25 r .z r r r .mk) (.g r r r (fun _ => .loadW ia25 sz25 r .z r r r .mk) (.fk 1 r ?_)))))))))
 refine .g r r r (fun _ => .loadW ia51 sz51 r (.s (.s .z)) r r r .mk) (.fk 1 r (.a (fun b => .pointer (some ⟨b, 0, none⟩)) (fun b => pto b (.cells #[.int .i64 0, .int .i64 0, .slice none 0 0, .slice none 0 0, .slice none 0 0] 46 (0, 0))) r r r r (fun _ L hL ex => .allocA zv46 r r fun b => .mk (val := fun b => .pointer (some ⟨b, 0, none⟩)) (atom := fun b => pto b (.cells #[.int .i64 0, .int .i64 0, .slice none 0 0, .slice none 0 0, .slice none 0 0] 46 (0, 0))) hL b) (.ww r fun ex => ?_)))
 have hw237 := W_prog_Begin (I := I157) R40 hd
 refine .call call18 r hw237 r r fun v226 I223 hl224 hv225 => ?_
 obtain ⟨r222, p228, c229, p231, c232, p234, c235, rfl, R230, R233, R236, hd⟩ := hv225
 have le238 := IH.le.trans le172 hl224
 replace R40 := R40.mono hl224
 replace R86 := R86.mono hl224
 replace R97 := R97.mono hl224
 replace R164 := R164.mono hl224
 replace R167 := R167.mono hl224
 replace R170 := R170.mono hl224
 refine .so 4 r r r (.ck 1 r r (.cg r r r r (fun _ => .loadW ia51 sz51 r (.s (.s .z)) r r r .mk) (.cg r r r r (fun _ => .loadW ia25 sz25 r .z r r r .mk) trivial))) (.ww r fun ex => ?_)
 have hw248 := W_ref09_Part (I := I223) R86 hd
 refine .call call30 r hw248 r r fun v243 I240 hl241 hv242 => ?_
 obtain ⟨r239, p245, c246, rfl, R247, hd⟩ := hv242
 have le249 := IH.le.trans le238 hl241
 replace R40 := R40.mono hl241
 replace R86 := R86.mono hl241
 replace R97 := R97.mono hl241
 replace R164 := R164.mono hl241
 replace R167 := R167.mono hl241
 replace R170 := R170.mono hl241
 replace R230 := R230.mono hl241
 replace R233 := R233.mono hl241
 replace R236 := R236.mono hl241
 refine .so 4 r r r (.cg r r r r (fun _ => .loadW ia25 sz25 r .z r r r .mk) trivial) (.ww r fun ex => ?_)
 have hw265 := W_prog_Update (I := I240) R40 R230 R233 R236 R247 hd
 refine .call call22 r hw265 r r fun v254 I251 hl252 hv253 => ?_
 obtain ⟨r250, p256, c257, p259, c260, p262, c263, rfl, R258, R261, R264, hd⟩ := hv253
 have le266 := IH.le.trans le249 hl252
 replace R40 := R40.mono hl252
 replace R86 := R86.mono hl252
 replace R97 := R97.mono hl252
 replace R164 := R164.mono hl252
 replace R167 := R167.mono hl252
 replace R170 := R170.mono hl252
 replace R230 := R230.mono hl252
 replace R233 := R233.mono hl252
 replace R236 := R236.mono hl252
 replace R247 := R247.mono hl252
 refine .so 4 r r r trivial (.b r fun b267 => DrawD.nop (.e2 9 (.storeA sz46 r r (.s (.s (.s (.s .z)))) (.t (.t (.t (.t (.t .nil))))) r r (.nilS [11, 10, 8, 9, 7, 3] r r (.seq (.dr [0, 1, 2, 3, 4, 6, 7, 8, 9, 12, 5, 10, 11, 999] 13 (.g r r r (fun _ => .loadW ia25 sz25 r .z r r r .mk) (.g r r r (fun _ => .loadW ia25 sz25 r .z r r r .mk) (.fk 1 r ?_)))))))))
 refine .g r r r (fun _ => .fa un25 r sz3 r (o := 1) r r r .mk) (.g r r r (fun _ => .load1 ia3 r .z r r r .mk) (.g r r r (fun _ => .loadW ia51 sz51 r (.s (.s .z)) r r r .mk) (.fk 1 r (.g r r r (fun _ => .fa un25 r sz3 r (o := 1) r r r .mk) (.g r r r (fun _ => .load1 ia3 r .z r r r .mk) (.a (fun b => .pointer (some ⟨b, 0, none⟩)) (fun b => pto b (.cells #[.int .i64 0, .int .i64 0, .slice none 0 0, .slice none 0 0, .slice none 0 0] 46 (0, 0))) r r r r (fun _ L hL ex => .allocA zv46 r r fun b => .mk (val := fun b => .pointer (some ⟨b, 0, none⟩)) (atom := fun b => pto b (.cells #[.int .i64 0, .int .i64 0, .slice none 0 0, .slice none 0 0, .slice none 0 0] 46 (0, 0))) hL b) (.ww r fun ex => ?_)))))))
 have hw331 := W_prog_Begin (I := I251) R40 hd
 refine .call call18 r hw331 r r fun v320 I317 hl318 hv319 => ?_
 obtain ⟨r316, p322, c323, p325, c326, p328, c329, rfl, R324, R327, R330, hd⟩ := hv319
 have le332 := IH.le.trans le266 hl318
 replace R40 := R40.mono hl318
 replace R86 := R86.mono hl318
 replace R97 := R97.mono hl318
 replace R164 := R164.mono hl318
 replace R167 := R167.mono hl318
 replace R170 := R170.mono hl318
 replace R258 := R258.mono hl318
 replace R261 := R261.mono hl318
 replace R264 := R264.mono hl318
 refine .so 5 r r r (.cg r r r r (fun _ => .load1 ia3 r .z r r r .mk) (.cg r r r r (fun _ => .fa un25 r sz3 r (o := 1) r r r .mk) (.ck 1 r r (.cg r r r r (fun _ => .loadW ia51 sz51 r (.s (.s .z)) r r r .mk) (.cg r r r r (fun _ => .loadW ia25 sz25 r .z r r r .mk) trivial))))) (.ww r fun ex => ?_)
 have hw342 := W_ref09_Part (I := I317) R86 hd
 refine .call call30 r hw342 r r fun v337 I334 hl335 hv336 => ?_
 obtain ⟨r333, p339, c340, rfl, R341, hd⟩ := hv336
 have le343 := IH.le.trans le332 hl335
 replace R40 := R40.mono hl335
 replace R86 := R86.mono hl335
 replace R97 := R97.mono hl335
 replace R164 := R164.mono hl335
 replace R167 := R167.mono hl335
 replace R170 := R170.mono hl335
 replace R258 := R258.mono hl335
 replace R261 := R261.mono hl335
 replace R264 := R264.mono hl335
 replace R324 := R324.mono hl335
 replace R327 := R327.mono hl335
 replace R330 := R330.mono hl335
 refine .so 5 r r r (.cg r r r r (fun _ => .loadW ia25 sz25 r .z r r r .mk) trivial) (.ww r fun ex => ?_)
 have hw359 := W_prog_Update (I := I334) R40 R324 R327 R330 R341 hd
 refine .call call22 r hw359 r r fun v348 I345 hl346 hv347 => ?_
 obtain ⟨r344, p350, c351, p353, c354, p356, c357, rfl, R352, R355, R358, hd⟩ := hv347
 have le360 := IH.le.trans le343 hl346
 replace R40 := R40.mono hl346
 replace R86 := R86.mono hl346
 replace R97 := R97.mono hl346
 replace R164 := R164.mono hl346
 replace R167 := R167.mono hl346
 replace R170 := R170.mono hl346
 replace R258 := R258.mono hl346
 replace R261 := R261.mono hl346
 replace R264 := R264.mono hl346
 replace R324 := R324.mono hl346
 replace R327 := R327.mono hl346
 replace R330 := R330.mono hl346
 replace R341 := R341.mono hl346
 refine .so 5 r r r trivial (.b r fun b361 => DrawD.nop (.e2 13 (.storeA sz46 r r (.s (.s (.s (.s (.s .z))))) (.t (.t (.t (.t (.t .nil))))) r r (.nilS [12, 11, 10, 9, 7, 3] r r (.drop (.s (.s .z)) (.seq (.dr [0, 1, 3, 4, 11, 2, 5, 6, 7, 8, 9, 10, 999, 12] 13 (.g r r r (fun _ => .loadW ia25 sz25 r .z r r r .mk) (.g r r r (fun _ => .loadW ia46 sz46 r (.s (.s (.s .z))) r r r .mk) ?_)))))))))
 refine .g r r r (fun _ => .loadW ia25 sz25 r .z r r r .mk) (.g r r r (fun _ => .loadW ia46 sz46 r (.s (.s (.s (.s .z)))) r r r .mk) (.a (fun b => .pointer (some ⟨b, 0, none⟩)) (fun b => pto b (.cells #[.int .i64 0, .slice none 0 0] 51 (0, 0))) r r r r (fun _ L hL ex => .allocA zv51 r r fun b => .mk (val := fun b => .pointer (some ⟨b, 0, none⟩)) (atom := fun b => pto b (.cells #[.int .i64 0, .slice none 0 0] 51 (0, 0))) hL b) (.ww r fun ex => ?_)))
 have hw413 := W_prog_Out (I := I345) R40 R258 R261 R264 hd
 refine .call call24 r hw413 r r fun v408 I405 hl406 hv407 => ?_
 obtain ⟨r404, p410, c411, rfl, R412, hd⟩ := hv407
 have le414 := IH.le.trans le360 hl406
 replace R40 := R40.mono hl406
 replace R97 := R97.mono hl406
 replace R164 := R164.mono hl406
 replace R167 := R167.mono hl406
 replace R170 := R170.mono hl406
 replace R258 := R258.mono hl406
 replace R261 := R261.mono hl406
 replace R264 := R264.mono hl406
 replace R352 := R352.mono hl406
 replace R355 := R355.mono hl406
 replace R358 := R358.mono hl406
 refine .so 5 r r r (.cg r r r r (fun _ => .loadW ia46 sz46 r (.s (.s (.s (.s .z)))) r r r .mk) (.cg r r r r (fun _ => .loadW ia25 sz25 r .z r r r .mk) trivial)) (.ww r fun ex => ?_)
 have hw424 := W_prog_Out (I := I405) R40 R352 R355 R358 hd
 refine .call call24 r hw424 r r fun v419 I416 hl417 hv418 => ?_
 obtain ⟨r415, p421, c422, rfl, R423, hd⟩ := hv418
 have le425 := IH.le.trans le414 hl417
 replace R40 := R40.mono hl417
 replace R97 := R97.mono hl417
 replace R164 := R164.mono hl417
 replace R167 := R167.mono hl417
 replace R170 := R170.mono hl417
 replace R258 := R258.mono hl417
 replace R261 := R261.mono hl417
 replace R264 := R264.mono hl417
 replace R352 := R352.mono hl417
 replace R355 := R355.mono hl417
 replace R358 := R358.mono hl417
 replace R412 := R412.mono hl417
 refine .so 5 r r r trivial (.ww r fun ex => ?_)
 refine .buildSlice 2 underlying64 sz51 zv51 r r (.c r r r (.c r r r .n)) r r fun b426 => ?_
 refine .so 6 r r r trivial (.ww r fun ex => ?_)
 refine .pubB (El := eVec) (ys := ([r404, r415] : List Vec)) (k := 2) .z (RepCs.cons (cs := [.int .i64 r404.N, .slice p410 r404.Items.length c411]) ⟨_, _, r, R412⟩ (RepCs.cons (cs := [.int .i64 r415.N, .slice p421 r415.Items.length c422]) ⟨_, _, r, R423⟩ .nil)) r fun I428 hl429 R430 => ?_
 have le431 := IH.le.trans le425 hl429
 replace R40 := R40.mono hl429
 replace R97 := R97.mono hl429
 replace R164 := R164.mono hl429
 replace R167 := R167.mono hl429
 replace R170 := R170.mono hl429
 replace R258 := R258.mono hl429
 replace R261 := R261.mono hl429
 replace R264 := R264.mono hl429
 replace R352 := R352.mono hl429
 replace R355 := R355.mono hl429
 replace R358 := R358.mono hl429
 replace R412 := R412.mono hl429
 replace R423 := R423.mono hl429
 have hw441 := W_ref09_Glue (I := I428) R430 hd
 refine .call call31 r hw441 r r fun v436 I433 hl434 hv435 => ?_
 obtain ⟨r432, p438, c439, rfl, R440, hd⟩ := hv435
 have le442 := IH.le.trans le431 hl434
 replace R40 := R40.mono hl434
 replace R97 := R97.mono hl434
 replace R164 := R164.mono hl434
 replace R167 := R167.mono hl434
 replace R170 := R170.mono hl434
 replace R258 := R258.mono hl434
 replace R261 := R261.mono hl434
 replace R264 := R264.mono hl434
 replace R352 := R352.mono hl434
 replace R355 := R355.mono hl434
 replace R358 := R358.mono hl434
 replace R412 := R412.mono hl434
 replace R423 := R423.mono hl434
 replace R430 := R430.mono hl434
 refine .so 5 r r r trivial (.fk 3 r (.b r fun b443 => DrawD.nop (.ww r fun ex => ?_)))
 refine .storeA sz51 r r (.s (.s (.s (.s (.s .z))))) (.t (.t .nil)) r r (.sn 6 r r r (.ck 1 r r trivial) (.e2 13 (.ks 1 r (.nilS [14, 13, 12, 11, 10, 9, 7, 3] r r (.seq (.dr [0, 1, 2, 3, 6, 4, 5, 999] 7 (.g r r r (fun _ => .loadW ia25 sz25 r .z r r r .mk) (.g r r r (fun _ => .loadW ia46 sz46 r (.s (.s (.s .z))) r r r .mk) (.g r r r (fun _ => .loadW ia51 sz51 r (.s .z) r r r .mk) ?_)))))))))
 refine .fk 1 r (.a (fun b => .pointer (some ⟨b, 0, none⟩)) (fun b => pto b (.cells #[.int .i64 0, .int .i64 0, .slice none 0 0, .slice none 0 0, .slice none 0 0] 46 (0, 0))) r r r r (fun _ L hL ex => .allocA zv46 r r fun b => .mk (val := fun b => .pointer (some ⟨b, 0, none⟩)) (atom := fun b => pto b (.cells #[.int .i64 0, .int .i64 0, .slice none 0 0, .slice none 0 0, .slice none 0 0] 46 (0, 0))) hL b) (.ww r fun ex => ?_))
 have hw484 := W_ref09_Part (I := I433) R97 hd
 refine .call call30 r hw484 r r fun v479 I476 hl477 hv478 => ?_
 obtain ⟨r475, p481, c482, rfl, R483, hd⟩ := hv478
 have le485 := IH.le.trans le442 hl477
 replace R40 := R40.mono hl477
 replace R97 := R97.mono hl477
 replace R164 := R164.mono hl477
 replace R167 := R167.mono hl477
 replace R170 := R170.mono hl477
 replace R258 := R258.mono hl477
 replace R261 := R261.mono hl477
 replace R264 := R264.mono hl477
 replace R352 := R352.mono hl477
 replace R355 := R355.mono hl477
 replace R358 := R358.mono hl477
 replace R440 := R440.mono hl477
 refine .so 6 r r r (.cg r r r r (fun _ => .loadW ia46 sz46 r (.s (.s (.s .z))) r r r .mk) (.cg r r r r (fun _ => .loadW ia25 sz25 r .z r r r .mk) trivial)) (.ww r fun ex => ?_)
 have hw501 := W_prog_Update (I := I476) R40 R258 R261 R264 R483 hd
 refine .call call22 r hw501 r r fun v490 I487 hl488 hv489 => ?_
 obtain ⟨r486, p492, c493, p495, c496, p498, c499, rfl, R494, R497, R500, hd⟩ := hv489
 have le502 := IH.le.trans le485 hl488
 replace R40 := R40.mono hl488
 replace R97 := R97.mono hl488
 replace R164 := R164.mono hl488
 replace R167 := R167.mono hl488
 replace R170 := R170.mono hl488
 replace R258 := R258.mono hl488
 replace R261 := R261.mono hl488
 replace R264 := R264.mono hl488
 replace R352 := R352.mono hl488
 replace R355 := R355.mono hl488
 replace R358 := R358.mono hl488
 replace R440 := R440.mono hl488
 replace R483 := R483.mono hl488
 refine .so 6 r r r trivial (.b r fun b503 => DrawD.nop (.e2 7 (.storeA sz46 r r (.s (.s (.s (.s (.s (.s .z)))))) (.t (.t (.t (.t (.t .nil))))) r r (.nilS [15, 14, 13, 12, 11, 10, 9, 7, 3] r r (.seq (.dr [0, 1, 2, 3, 4, 5, 8, 6, 7, 999] 9 (.g r r r (fun _ => .loadW ia25 sz25 r .z r r r .mk) (.g r r r (fun _ => .loadW ia46 sz46 r (.s (.s (.s (.s .z)))) r r r .mk) (.g r r r (fun _ => .loadW ia51 sz51 r (.s .z) r r r .mk) ?_)))))))))
 refine .fk 1 r (.g r r r (fun _ => .fa un25 r sz3 r (o := 1) r r r .mk) (.g r r r (fun _ => .load1 ia3 r .z r r r .mk) (.a (fun b => .pointer (some ⟨b, 0, none⟩)) (fun b => pto b (.cells #[.int .i64 0, .int .i64 0, .slice none 0 0, .slice none 0 0, .slice none 0 0] 46 (0, 0))) r r r r (fun _ L hL ex => .allocA zv46 r r fun b => .mk (val := fun b => .pointer (some ⟨b, 0, none⟩)) (atom := fun b => pto b (.cells #[.int .i64 0, .int .i64 0, .slice none 0 0, .slice none 0 0, .slice none 0 0] 46 (0, 0))) hL b) (.ww r fun ex => ?_))))
 have hw544 := W_ref09_Part (I := I487) R97 hd
 refine .call call30 r hw544 r r fun v539 I536 hl537 hv538 => ?_
 obtain ⟨r535, p541, c542, rfl, R543, hd⟩ := hv538
 have le545 := IH.le.trans le502 hl537
 replace R40 := R40.mono hl537
 replace R97 := R97.mono hl537
 replace R164 := R164.mono hl537
 replace R167 := R167.mono hl537
 replace R170 := R170.mono hl537
 replace R258 := R258.mono hl537
 replace R261 := R261.mono hl537
 replace R264 := R264.mono hl537
 replace R352 := R352.mono hl537
 replace R355 := R355.mono hl537
 replace R358 := R358.mono hl537
 replace R440 := R440.mono hl537
 replace R494 := R494.mono hl537
 replace R497 := R497.mono hl537
 replace R500 := R500.mono hl537
 refine .so 7 r r r (.cg r r r r (fun _ => .loadW ia46 sz46 r (.s (.s (.s (.s .z)))) r r r .mk) (.cg r r r r (fun _ => .loadW ia25 sz25 r .z r r r .mk) trivial)) (.ww r fun ex => ?_)
 have hw561 := W_prog_Update (I := I536) R40 R352 R355 R358 R543 hd
 refine .call call22 r hw561 r r fun v550 I547 hl548 hv549 => ?_
 obtain ⟨r546, p552, c553, p555, c556, p558, c559, rfl, R554, R557, R560, hd⟩ := hv549
 have le562 := IH.le.trans le545 hl548
 replace R40 := R40.mono hl548
 replace R97 := R97.mono hl548
 replace R164 := R164.mono hl548
 replace R167 := R167.mono hl548
 replace R170 := R170.mono hl548
 replace R258 := R258.mono hl548
 replace R261 := R261.mono hl548
 replace R264 := R264.mono hl548
 replace R352 := R352.mono hl548
 replace R355 := R355.mono hl548
 replace R358 := R358.mono hl548
 replace R440 := R440.mono hl548
 replace R494 := R494.mono hl548
 replace R497 := R497.mono hl548
 replace R500 := R500.mono hl548
 replace R543 := R543.mono hl548
 refine .so 7 r r r trivial (.b r fun b563 => DrawD.nop (.e2 9 (.storeA sz46 r r (.s (.s (.s (.s (.s (.s (.s .z))))))) (.t (.t (.t (.t (.t .nil))))) r r (.nilS [16, 15, 14, 13, 12, 11, 10, 9, 3] r r (.seq (.dr [0, 1, 2, 3, 4, 5, 6, 7, 10, 8, 9, 11, 12, 13, 14, 15, 16, 17, 18, 19, 20, 21, 22, 25, 26, 27, 23, 24, 28, 29, 30, 31, 32, 33, 35, 36, 39, 40, 34, 37, 38, 41, 42, 43] 44 (.ww r fun ex => ?_)))))))
 have hw565 := W_law21_live (I := I547) hd
 refine .callP call7 r hw565 r r fun v566 hv567 => ?_
 obtain ⟨r564, rfl, hd⟩ := hv567
 refine .so 8 r r r trivial (.fk 1 r ?_)
 refine splitP hd (fun hb568 hd => ?_) fun hb568 hd => ?_
 · refine .g r r r (fun _ => .gyes r r hb568 (.move r r r .mk)) (.g r r r (fun _ => .gyes r r hb568 (.eq r r r r .mk)) (.g r r r (fun _ => .pickT r hb568 r r r .mk) (.fk 1 r ?_)))
   refine splitP hd (fun hb569 hd => ?_) fun hb569 hd => ?_
   · refine .g r r r (fun _ => .gyes r r hb569 (.loadW ia46 sz46 r (.s (.s (.s .z))) r r r .mk)) (.g r r r (fun _ => .gyes r r hb569 (.loadW ia46 sz46 r (.s (.s (.s (.s .z)))) r r r .mk)) (.g r r r (fun _ => .gyes r r hb569 (.loadW ia46 sz46 r (.s (.s .z)) r r r .mk)) (.ww r fun ex => ?_)))
     refine .gyes r r hb569 (.buildSlice 2 un66 sz46 zv46 r r (.c r r r (.c r r r .n)) r r fun b570 => ?_)
     refine .so 9 r r r (.cg r r r r (fun _ => .gyes r r hb569 (.loadW ia46 sz46 r (.s (.s (.s .z))) r r r .mk)) trivial) (.ww r fun ex => ?_)
     refine .pubB (El := eState) (ys := ([r250, r344] : List State)) (k := 2) .z (RepCs.cons (cs := [.int .i64 r250.Low, .int .i64 r250.High, .slice p256 r250.A.length c257, .slice p259 r250.B.length c260, .slice p262 r250.On.length c263]) ⟨_, _, _, _, _, _, r, R258, R261, R264⟩ (RepCs.cons (cs := [.int .i64 r344.Low, .int .i64 r344.High, .slice p350 r344.A.length c351, .slice p353 r344.B.length c354, .slice p356 r344.On.length c357]) ⟨_, _, _, _, _, _, r, R352, R355, R358⟩ .nil)) r fun I572 hl573 R574 => ?_
     have le575 := IH.le.trans le562 hl573
     replace R40 := R40.mono hl573
     replace R97 := R97.mono hl573
     replace R164 := R164.mono hl573
     replace R167 := R167.mono hl573
     replace R170 := R170.mono hl573
     replace R258 := R258.mono hl573
     replace R261 := R261.mono hl573
     replace R264 := R264.mono hl573
     replace R352 := R352.mono hl573
     replace R355 := R355.mono hl573
     replace R358 := R358.mono hl573
     replace R440 := R440.mono hl573
     replace R494 := R494.mono hl573
     replace R497 := R497.mono hl573
     replace R500 := R500.mono hl573
     replace R554 := R554.mono hl573
     replace R557 := R557.mono hl573
     replace R560 := R560.mono hl573
     have hw591 := W_ref21_Glue (I := I572) R574 hd
     refine .gyes r r hb569 (.call call33 r hw591 r r fun v580 I577 hl578 hv579 => ?_)
     obtain ⟨r576, p582, c583, p585, c586, p588, c589, rfl, R584, R587, R590, hd⟩ := hv579
     have le592 := IH.le.trans le575 hl578
     replace R40 := R40.mono hl578
     replace R97 := R97.mono hl578
     replace R164 := R164.mono hl578
     replace R167 := R167.mono hl578
     replace R170 := R170.mono hl578
     replace R258 := R258.mono hl578
     replace R261 := R261.mono hl578
     replace R264 := R264.mono hl578
     replace R352 := R352.mono hl578
     replace R355 := R355.mono hl578
     replace R358 := R358.mono hl578
     replace R440 := R440.mono hl578
     replace R494 := R494.mono hl578
     replace R497 := R497.mono hl578
     replace R500 := R500.mono hl578
     replace R554 := R554.mono hl578
     replace R557 := R557.mono hl578
     replace R560 := R560.mono hl578
     replace R574 := R574.mono hl578
     refine .so 8 r r r (.cg r r r r (fun _ => .gyes r r hb569 (.loadW ia46 sz46 r (.s (.s .z)) r r r .mk)) trivial) (.ww r fun ex => ?_)
     have hw594 := W_prog_Same (I := I577) R584 R587 R590 R164 R167 R170 hd
     refine .gyes r r hb569 (.callP call32 r hw594 r r fun v595 hv596 => ?_)
     obtain ⟨r593, rfl, hd⟩ := hv596
     refine .so 8 r r r trivial (.g r r r (fun _ => .pickT r hb569 r r r .mk) (.fk 1 r ?_))
     refine splitP hd (fun hb597 hd => ?_) fun hb597 hd => ?_
     · refine .g r r r (fun _ => .gyes r r hb597 (.loadW ia51 sz51 r (.s (.s (.s (.s (.s .z))))) r r r .mk)) (.g r r r (fun _ => .gyes r r hb597 (.loadW ia25 sz25 r .z r r r .mk)) (.g r r r (fun _ => .gyes r r hb597 (.loadW ia46 sz46 r (.s (.s .z)) r r r .mk)) (.ww r fun ex => ?_)))
       have hw607 := W_prog_Out (I := I577) R40 R164 R167 R170 hd
       refine .gyes r r hb597 (.call call24 r hw607 r r fun v602 I599 hl600 hv601 => ?_)
       obtain ⟨r598, p604, c605, rfl, R606, hd⟩ := hv601
       have le608 := IH.le.trans le592 hl600
       replace R40 := R40.mono hl600
       replace R97 := R97.mono hl600
       replace R164 := R164.mono hl600
       replace R167 := R167.mono hl600
       replace R170 := R170.mono hl600
       replace R258 := R258.mono hl600
       replace R261 := R261.mono hl600
       replace R264 := R264.mono hl600
       replace R352 := R352.mono hl600
       replace R355 := R355.mono hl600
       replace R358 := R358.mono hl600
       replace R440 := R440.mono hl600
       replace R494 := R494.mono hl600
       replace R497 := R497.mono hl600
       replace R500 := R500.mono hl600
       replace R554 := R554.mono hl600
       replace R557 := R557.mono hl600
       replace R560 := R560.mono hl600
       replace R574 := R574.mono hl600
       replace R584 := R584.mono hl600
       replace R587 := R587.mono hl600
       replace R590 := R590.mono hl600
       refine .so 8 r r r (.cg r r r r (fun _ => .gyes r r hb597 (.loadW ia51 sz51 r (.s (.s (.s (.s (.s .z))))) r r r .mk)) trivial) (.ww r fun ex => ?_)
       have hw610 := W_ref09_Same (I := I599) R440 R606 hd
       refine .gyes r r hb597 (.callP call23 r hw610 r r fun v611 hv612 => ?_)
       obtain ⟨r609, rfl, hd⟩ := hv612
       refine .so 8 r r r trivial (.g r r r (fun _ => .pickT r hb597 r r r .mk) (.fk 1 r ?_))
       refine splitP hd (fun hb613 hd => ?_) fun hb613 hd => ?_
       · refine .g r r r (fun _ => .gyes r r hb613 (.loadW ia46 sz46 r (.s (.s (.s (.s (.s (.s .z)))))) r r r .mk)) (.g r r r (fun _ => .gyes r r hb613 (.loadW ia46 sz46 r (.s (.s (.s (.s (.s (.s (.s .z))))))) r r r .mk)) (.g r r r (fun _ => .gyes r r hb613 (.loadW ia25 sz25 r .z r r r .mk)) (.g r r r (fun _ => .gyes r r hb613 (.loadW ia46 sz46 r (.s (.s .z)) r r r .mk)) (.g r r r (fun _ => .gyes r r hb613 (.loadW ia51 sz51 r (.s .z) r r r .mk)) (.ww r fun ex => ?_)))))
         refine .gyes r r hb613 (.buildSlice 2 un66 sz46 zv46 r r (.c r r r (.c r r r .n)) r r fun b614 => ?_)
         refine .so 9 r r r (.cg r r r r (fun _ => .gyes r r hb613 (.loadW ia51 sz51 r (.s (.s .z)) r r r .mk)) (.cg r r r r (fun _ => .gyes r r hb613 (.loadW ia46 sz46 r (.s (.s (.s .z))) r r r .mk)) (.cg r r r r (fun _ => .gyes r r hb613 (.loadW ia25 sz25 r (.s .z) r r r .mk)) trivial))) (.ww r fun ex => ?_)
         refine .pubB (El := eState) (ys := ([r486, r546] : List State)) (k := 2) .z (RepCs.cons (cs := [.int .i64 r486.Low, .int .i64 r486.High, .slice p492 r486.A.length c493, .slice p495 r486.B.length c496, .slice p498 r486.On.length c499]) ⟨_, _, _, _, _, _, r, R494, R497, R500⟩ (RepCs.cons (cs := [.int .i64 r546.Low, .int .i64 r546.High, .slice p552 r546.A.length c553, .slice p555 r546.B.length c556, .slice p558 r546.On.length c559]) ⟨_, _, _, _, _, _, r, R554, R557, R560⟩ .nil)) r fun I616 hl617 R618 => ?_
         have le619 := IH.le.trans le608 hl617
         replace R40 := R40.mono hl617
         replace R97 := R97.mono hl617
         replace R164 := R164.mono hl617
         replace R167 := R167.mono hl617
         replace R170 := R170.mono hl617
         replace R258 := R258.mono hl617
         replace R261 := R261.mono hl617
         replace R264 := R264.mono hl617
         replace R352 := R352.mono hl617
         replace R355 := R355.mono hl617
         replace R358 := R358.mono hl617
         replace R440 := R440.mono hl617
         replace R494 := R494.mono hl617
         replace R497 := R497.mono hl617
         replace R500 := R500.mono hl617
         replace R554 := R554.mono hl617
         replace R557 := R557.mono hl617
         replace R560 := R560.mono hl617
         replace R574 := R574.mono hl617
         replace R584 := R584.mono hl617
         replace R587 := R587.mono hl617
         replace R590 := R590.mono hl617
         replace R606 := R606.mono hl617
         have hw635 := W_ref21_Glue (I := I616) R618 hd
         refine .gyes r r hb613 (.call call33 r hw635 r r fun v624 I621 hl622 hv623 => ?_)
         obtain ⟨r620, p626, c627, p629, c630, p632, c633, rfl, R628, R631, R634, hd⟩ := hv623
         have le636 := IH.le.trans le619 hl622
         replace R40 := R40.mono hl622
         replace R97 := R97.mono hl622
         replace R164 := R164.mono hl622
         replace R167 := R167.mono hl622
         replace R170 := R170.mono hl622
         replace R258 := R258.mono hl622
         replace R261 := R261.mono hl622
         replace R264 := R264.mono hl622
         replace R352 := R352.mono hl622
         replace R355 := R355.mono hl622
         replace R358 := R358.mono hl622
         replace R440 := R440.mono hl622
         replace R494 := R494.mono hl622
         replace R497 := R497.mono hl622
         replace R500 := R500.mono hl622
         replace R554 := R554.mono hl622
         replace R557 := R557.mono hl622
         replace R560 := R560.mono hl622
         replace R574 := R574.mono hl622
         replace R584 := R584.mono hl622
         replace R587 := R587.mono hl622
         replace R590 := R590.mono hl622
         replace R606 := R606.mono hl622
         replace R618 := R618.mono hl622
         refine .so 8 r r r (.cg r r r r (fun _ => .gyes r r hb613 (.loadW ia51 sz51 r (.s .z) r r r .mk)) (.cg r r r r (fun _ => .gyes r r hb613 (.loadW ia46 sz46 r (.s (.s .z)) r r r .mk)) (.cg r r r r (fun _ => .gyes r r hb613 (.loadW ia25 sz25 r .z r r r .mk)) trivial))) (.ww r fun ex => ?_)
         have hw652 := W_prog_Update (I := I621) R40 R164 R167 R170 R97 hd
         refine .gyes r r hb613 (.call call22 r hw652 r r fun v641 I638 hl639 hv640 => ?_)
         obtain ⟨r637, p643, c644, p646, c647, p649, c650, rfl, R645, R648, R651, hd⟩ := hv640
         have le653 := IH.le.trans le636 hl639
         replace R40 := R40.mono hl639
         replace R97 := R97.mono hl639
         replace R164 := R164.mono hl639
         replace R167 := R167.mono hl639
         replace R170 := R170.mono hl639
         replace R258 := R258.mono hl639
         replace R261 := R261.mono hl639
         replace R264 := R264.mono hl639
         replace R352 := R352.mono hl639
         replace R355 := R355.mono hl639
         replace R358 := R358.mono hl639
         replace R440 := R440.mono hl639
         replace R494 := R494.mono hl639
         replace R497 := R497.mono hl639
         replace R500 := R500.mono hl639
         replace R554 := R554.mono hl639
         replace R557 := R557.mono hl639
         replace R560 := R560.mono hl639
         replace R574 := R574.mono hl639
         replace R584 := R584.mono hl639
         replace R587 := R587.mono hl639
         replace R590 := R590.mono hl639
         replace R606 := R606.mono hl639
         replace R618 := R618.mono hl639
         replace R628 := R628.mono hl639
         replace R631 := R631.mono hl639
         replace R634 := R634.mono hl639
         refine .so 8 r r r trivial (.ww r fun ex => ?_)
         have hw655 := W_prog_Same (I := I638) R628 R631 R634 R645 R648 R651 hd
         refine .gyes r r hb613 (.callP call32 r hw655 r r fun v656 hv657 => ?_)
         obtain ⟨r654, rfl, hd⟩ := hv657
         refine .so 8 r r r trivial (.g r r r (fun _ => .pickT r hb613 r r r .mk) (.fk 1 r ?_))
         refine splitP hd (fun hb658 hd => ?_) fun hb658 hd => ?_
         · refine .g r r r (fun _ => .gyes r r hb658 (.loadW ia25 sz25 r .z r r r .mk)) (.g r r r (fun _ => .gyes r r hb658 (.loadW ia46 sz46 r (.s (.s (.s .z))) r r r .mk)) (.g r r r (fun _ => .gyes r r hb658 (.loadW ia25 sz25 r .z r r r .mk)) (.g r r r (fun _ => .gyes r r hb658 (.loadW ia46 sz46 r (.s (.s (.s (.s .z)))) r r r .mk)) (.g r r r (fun _ => .gyes r r hb658 (.loadW ia25 sz25 r .z r r r .mk)) (.g r r r (fun _ => .gyes r r hb658 (.loadW ia46 sz46 r (.s (.s .z)) r r r .mk)) (.ww r fun ex => ?_))))))
           have hw660 := W_prog_Live (I := I638) R40 R258 R261 R264 hd
           refine .gyes r r hb658 (.callP call27 r hw660 r r fun v661 hv662 => ?_)
           obtain ⟨r659, rfl, hd⟩ := hv662
           refine .so 8 r r r (.cg r r r r (fun _ => .gyes r r hb658 (.loadW ia46 sz46 r (.s (.s .z)) r r r .mk)) (.cg r r r r (fun _ => .gyes r r hb658 (.loadW ia25 sz25 r .z r r r .mk)) (.cg r r r r (fun _ => .gyes r r hb658 (.loadW ia46 sz46 r (.s (.s (.s (.s .z)))) r r r .mk)) (.cg r r r r (fun _ => .gyes r r hb658 (.loadW ia25 sz25 r .z r r r .mk)) trivial)))) (.ww r fun ex => ?_)
           have hw664 := W_prog_Live (I := I638) R40 R352 R355 R358 hd
           refine .gyes r r hb658 (.callP call27 r hw664 r r fun v665 hv666 => ?_)
           obtain ⟨r663, rfl, hd⟩ := hv666
           refine .so 8 r r r (.cg r r r r (fun _ => .gyes r r hb658 (.loadW ia46 sz46 r (.s (.s .z)) r r r .mk)) (.cg r r r r (fun _ => .gyes r r hb658 (.loadW ia25 sz25 r .z r r r .mk)) trivial)) (.g r r r (fun _ => .gyes r r hb658 (.add r r r r .mk)) (.ww r fun ex => ?_))
           have hw668 := W_prog_Live (I := I638) R40 R164 R167 R170 hd
           refine .gyes r r hb658 (.callP call27 r hw668 r r fun v669 hv670 => ?_)
           obtain ⟨r667, rfl, hd⟩ := hv670
           refine .so 8 r r r (.cg r r r r (fun _ => .gyes r r hb658 (.add r r r r .mk)) trivial) (.g r r r (fun _ => .gyes r r hb658 (.eq r r r r .mk)) (.g r r r (fun _ => .pickT r hb658 r r r .mk) (.e2 44 (.ks 1 r (.nilS [6] r r (.drop .z (.drop .z (.drop .z (.drop .z ?_)))))))))
           exact .drop .z (.drop .z (.drop .z (.drop .z (.ret (pret results5 (.t r .n) le653 ⟨((w64 (r659 + r663)) == r667), r, hd⟩)))))
         refine .g r r r (fun _ => .gno r r hb658 r r .mk) (.g r r r (fun _ => .gno r r hb658 r r .mk) (.g r r r (fun _ => .gno r r hb658 r r .mk) (.g r r r (fun _ => .gno r r hb658 r r .mk) (.g r r r (fun _ => .gno r r hb658 r r .mk) (.g r r r (fun _ => .gno r r hb658 r r .mk) (.g r r r (fun _ => .gno r r hb658 r r .mk) (.g r r r (fun _ => .gno r r hb658 r r .mk) (.g r r r (fun _ => .gno r r hb658 r r .mk) (.g r r r (fun _ => .gno r r hb658 r r .mk) ?_)))))))))
         refine .g r r r (fun _ => .gno r r hb658 r r .mk) (.g r r r (fun _ => .pickF r hb658 r r r .mk) (.e2 44 (.ks 1 r (.nilS [6] r r (.drop .z (.drop .z (.drop .z (.drop .z (.drop .z ?_)))))))))
         exact .drop .z (.drop .z (.drop .z (.ret (pret results5 (.t r .n) le653 ⟨false, r, hd⟩))))
       refine .g r r r (fun _ => .gno r r hb613 r r .mk) (.g r r r (fun _ => .gno r r hb613 r r .mk) (.g r r r (fun _ => .gno r r hb613 r r .mk) (.g r r r (fun _ => .gno r r hb613 r r .mk) (.g r r r (fun _ => .gno r r hb613 r r .mk) (.g r r r (fun _ => .gno r r hb613 r r .mk) (.g r r r (fun _ => .gno r r hb613 r r .mk) (.g r r r (fun _ => .gno r r hb613 r r .mk) (.g r r r (fun _ => .gno r r hb613 r r .mk) (.g r r r (fun _ => .pickF r hb613 r r r .mk) ?_)))))))))
       refine .fk 13 r (.e2 44 (.ks 1 r (.nilS [6] r r (.drop .z (.drop .z (.drop .z (.drop .z (.drop .z (.drop .z ?_)))))))))
       exact .drop .z (.drop .z (.ret (pret results5 (.t r .n) le608 ⟨false, r, hd⟩)))
     refine .g r r r (fun _ => .gno r r hb597 r r .mk) (.g r r r (fun _ => .gno r r hb597 r r .mk) (.g r r r (fun _ => .gno r r hb597 r r .mk) (.g r r r (fun _ => .gno r r hb597 r r .mk) (.g r r r (fun _ => .gno r r hb597 r r .mk) (.g r r r (fun _ => .pickF r hb597 r r r .mk) (.fk 24 r (.e2 44 (.ks 1 r (.nilS [6] r r ?_)))))))))
     exact .drop .z (.drop .z (.drop .z (.drop .z (.drop .z (.drop .z (.drop .z (.drop .z (.ret (pret results5 (.t r .n) le592 ⟨false, r, hd⟩)))))))))
   refine .g r r r (fun _ => .gno r r hb569 r r .mk) (.g r r r (fun _ => .gno r r hb569 r r .mk) (.g r r r (fun _ => .gno r r hb569 r r .mk) (.g r r r (fun _ => .gno r r hb569 r r .mk) (.g r r r (fun _ => .gno r r hb569 r r .mk) (.g r r r (fun _ => .gno r r hb569 r r .mk) (.g r r r (fun _ => .pickF r hb569 r r r .mk) (.fk 31 r (.e2 44 (.ks 1 r ?_)))))))))
   exact .nilS [6] r r (.drop .z (.drop .z (.drop .z (.drop .z (.drop .z (.drop .z (.drop .z (.drop .z (.ret (pret results5 (.t r .n) le562 ⟨false, r, hd⟩))))))))))
 refine .g r r r (fun _ => .gno r r hb568 r r .mk) (.g r r r (fun _ => .gno r r hb568 r r .mk) (.g r r r (fun _ => .pickF r hb568 r r r .mk) (.fk 39 r (.e2 44 (.ks 1 r (.nilS [6] r r (.drop .z (.drop .z (.drop .z ?_)))))))))
 exact .drop .z (.drop .z (.drop .z (.drop .z (.drop .z (.ret (pret results5 (.t r .n) le562 ⟨false, r, hd⟩))))))

end Go.Proofs.YtggmiaebkplnlaaGreat
