/- The walks (printed by a program of ours). -/
import Derived.Test.YtggmiaebkplnlaaGreatV2
namespace Go.Proofs.YtggmiaebkplnlaaGreat
open Go Go.Fw
set_option linter.unusedVariables false
set_option linter.unusedSimpArgs false
set_option maxRecDepth 8000
set_option maxHeartbeats 1000000
open Tryz
theorem W_ref21_from {I : IH} {a0 : Int} {Q : Bool → Prop}  (hd : ref21_from a0 Q) :
  PFun prog 51 [.int .i64 a0] I (fun _ => o0_ Q) := by
 refine Fun.enter func51 r ntmps51 r (.c .n) fun w0 M => ?_
 refine .sr (.ks 1 r (.nilS [0] r r (.sr (.ks 3 r ?_))))
 refine splitP hd (fun hb1 hd => ?_) fun hb1 hd => ?_
 · rw [hb1]
   exact .ks 8 r (.nilS [2] r r (.ret (pret results51 (.t r .n) (.refl _) ⟨true, r, hd⟩)))
 rw [hb1]
 refine .ks 4 r ?_
 refine splitP hd (fun hb2 hd => ?_) fun hb2 hd => ?_
 · rw [hb2]
   exact .ks 4 r (.nilS [2] r r (.ret (pret results51 (.t r .n) (.refl _) ⟨true, r, hd⟩)))
 rw [hb2]
 exact .ks 4 r (.nilS [2] r r (.ret (pret results51 (.t r .n) (.refl _) ⟨(a0 == 4), r, hd⟩)))

theorem W_ref21_Right {I : IH} {a0 : Plan} {p1 : Option Addr} {c2 : Nat} {Q : Int → Prop} (R3 : RepSl eI64 I p1 c2 a0.Draws) (hd : ref21_Right a0 Q) :
  PFun prog 11 [.agg #[.int .i64 a0.Kind, .int .i64 a0.N, .int .i64 a0.Source, .int .i64 a0.Length, .slice p1 a0.Draws.length c2]] I (fun _ => o1_ Q) := by
 refine Fun.enter func11 r ntmps11 r (.c .n) fun w0 M => ?_
 refine .sr (.boxA r r r fun b6 => ?_)
 refine .ks 1 r (.nilS [1] r r (.seq (.sr (.fa un25 r sz22 r (o := 0) r r r (.load1 ia22 r .z r r r (.ks 2 r ?_))))))
 refine splitP hd (fun hb10 hd => ?_) fun hb10 hd => ?_
 · rw [hb10]
   exact .ks 4 r (.nilS [11, 1] r r (.condKT r r (.sr (.ks 1 r (.nilS [2] r r (.drop .z (.ret (pret results11 (.t r .n) (.refl _) ⟨8, r, hd⟩))))))))
 rw [hb10]
 refine .gyes r r r (.fa un25 r sz22 r (o := 0) r r r (.gyes r r r (.load1 ia22 r .z r r r (.ks 2 r (.nilS [11, 1] r r (.condP r hd (fun hb11 hd => ?_) fun hb11 hd => ?_))))))
 · exact .sr (.ks 1 r (.nilS [2] r r (.drop .z (.ret (pret results11 (.t r .n) (.refl _) ⟨8, r, hd⟩)))))
 refine .skipS [1] r r (.seq ?_)
 refine Cod.joinQ (σ := Unit) hd (fun (_ : Unit) c w => ∃ I_, IH.le I I_ ∧ Ok ⟨77, [], none⟩ [(1, .pointer (some ⟨b6, 0, none⟩))] c ∧ Sym w0 M I I_ [pto b6 (.cells #[.int .i64 a0.Kind, .int .i64 a0.N, .int .i64 a0.Source, .int .i64 a0.Length, .slice p1 a0.Draws.length c2] 25 (0, 0))] w) (fun k42 hd => ?_) ?_
 · skip
   refine .sr (.fa un25 r sz3 r (o := 1) r r r (.load1 ia3 r .z r r r (.ks 2 r ?_)))
   refine splitP hd (fun hb43 hd => ?_) fun hb43 hd => ?_
   · rw [hb43]
     exact .ks 36 r (.nilS [51, 1] r r (.condKT r r (.sr (.ks 1 r (.nilS [2] r r (.drop .z (.ret (pret results11 (.t r .n) (.refl _) ⟨3, r, hd⟩))))))))
   rw [hb43]
   refine .gyes r r r (.fa un25 r sz3 r (o := 1) r r r (.gyes r r r (.load1 ia3 r .z r r r (.ks 3 r ?_))))
   refine splitP hd (fun hb44 hd => ?_) fun hb44 hd => ?_
   · rw [hb44]
     exact .ks 31 r (.nilS [51, 1] r r (.condKT r r (.sr (.ks 1 r (.nilS [2] r r (.drop .z (.ret (pret results11 (.t r .n) (.refl _) ⟨3, r, hd⟩))))))))
   rw [hb44]
   refine .gyes r r r (.fa un25 r sz22 r (o := 0) r r r (.gyes r r r (.load1 ia22 r .z r r r ?_)))
   have hw46 := W_ref21_from (I := I) hd
   refine .gyes r r r (.callP call51 r hw46 r r fun v47 hv48 => ?_)
   obtain ⟨r45, rfl, hd⟩ := hv48
   refine .ks 1 r ?_
   refine splitP hd (fun hb49 hd => ?_) fun hb49 hd => ?_
   · rw [hb49]
     refine .gyes r r r (.fa un25 r sz3 r (o := 2) r r r (.gyes r r r (.load1 ia3 r .z r r r (.ks 2 r ?_))))
     refine splitP hd (fun hb50 hd => ?_) fun hb50 hd => ?_
     · rw [hb50]
       exact .ks 23 r (.nilS [51, 1] r r (.condKT r r (.sr (.ks 1 r (.nilS [2] r r (.drop .z (.ret (pret results11 (.t r .n) (.refl _) ⟨3, r, hd⟩))))))))
     rw [hb50]
     refine .gyes r r r (.fa un25 r sz3 r (o := 2) r r r (.gyes r r r (.load1 ia3 r .z r r r (.gyes r r r (.fa un25 r sz3 r (o := 1) r r r (.gyes r r r (.load1 ia3 r .z r r r (.ks 5 r ?_))))))))
     refine splitP hd (fun hb51 hd => ?_) fun hb51 hd => ?_
     · rw [hb51]
       exact .ks 14 r (.nilS [51, 1] r r (.condKT r r (.sr (.ks 1 r (.nilS [2] r r (.drop .z (.ret (pret results11 (.t r .n) (.refl _) ⟨3, r, hd⟩))))))))
     rw [hb51]
     refine .gyes r r r (.fa un25 r sz22 r (o := 0) r r r (.gyes r r r (.load1 ia22 r .z r r r (.ks 2 r ?_))))
     refine splitP hd (fun hb52 hd => ?_) fun hb52 hd => ?_
     · rw [hb52]
       refine .gyes r r r (.fa un25 r sz3 r (o := 3) r r r (.gyes r r r (.load1 ia3 r .z r r r (.ks 2 r ?_))))
       refine splitP hd (fun hb53 hd => ?_) fun hb53 hd => ?_
       · rw [hb53]
         exact .ks 6 r (.nilS [51, 1] r r (.condKT r r (.sr (.ks 1 r (.nilS [2] r r (.drop .z (.ret (pret results11 (.t r .n) (.refl _) ⟨3, r, hd⟩))))))))
       rw [hb53]
       refine .gyes r r r (.fa un25 r sz3 r (o := 3) r r r (.gyes r r r (.load1 ia3 r .z r r r (.ks 4 r (.nilS [51, 1] r r (.condP r hd (fun hb54 hd => ?_) fun hb54 hd => ?_))))))
       · exact .sr (.ks 1 r (.nilS [2] r r (.drop .z (.ret (pret results11 (.t r .n) (.refl _) ⟨3, r, hd⟩)))))
       exact .skip' fun c w ho hs => ⟨(), hd, I, (.refl _), ho.sub ⟨r, trivial⟩, hs.pick (.c .z .n)⟩
     rw [hb52]
     exact .ks 10 r (.nilS [51, 1] r r (.condKF r r (.skip' fun c w ho hs => ⟨(), hd, I, (.refl _), ho.sub ⟨r, trivial⟩, hs.pick (.c .z .n)⟩)))
   rw [hb49]
   refine .ks 13 r (.gyes r r r (.fa un25 r sz22 r (o := 0) r r r (.gyes r r r (.load1 ia22 r .z r r r (.ks 2 r ?_)))))
   refine splitP hd (fun hb55 hd => ?_) fun hb55 hd => ?_
   · rw [hb55]
     refine .gyes r r r (.fa un25 r sz3 r (o := 3) r r r (.gyes r r r (.load1 ia3 r .z r r r (.ks 2 r ?_))))
     refine splitP hd (fun hb56 hd => ?_) fun hb56 hd => ?_
     · rw [hb56]
       exact .ks 6 r (.nilS [51, 1] r r (.condKT r r (.sr (.ks 1 r (.nilS [2] r r (.drop .z (.ret (pret results11 (.t r .n) (.refl _) ⟨3, r, hd⟩))))))))
     rw [hb56]
     refine .gyes r r r (.fa un25 r sz3 r (o := 3) r r r (.gyes r r r (.load1 ia3 r .z r r r (.ks 4 r (.nilS [51, 1] r r (.condP r hd (fun hb57 hd => ?_) fun hb57 hd => ?_))))))
     · exact .sr (.ks 1 r (.nilS [2] r r (.drop .z (.ret (pret results11 (.t r .n) (.refl _) ⟨3, r, hd⟩)))))
     exact .skip' fun c w ho hs => ⟨(), hd, I, (.refl _), ho.sub ⟨r, trivial⟩, hs.pick (.c .z .n)⟩
   rw [hb55]
   exact .ks 10 r (.nilS [51, 1] r r (.condKF r r (.skip' fun c w ho hs => ⟨(), hd, I, (.refl _), ho.sub ⟨r, trivial⟩, hs.pick (.c .z .n)⟩)))
 rintro ⟨⟩ hd c w hst
 obtain ⟨I58, hl59, hok, hsym⟩ := hst
 replace R3 := R3.mono hl59
 refine Cod.at hok hsym (.seq (.sr (.fa un25 r sz23 r (o := 4) r r r (.load1 ia23 r .z r r r (.len un23 r r r r (.ks 1 r (.nilS [55, 1] r r (.condP r hd (fun hb61 hd => ?_) fun hb61 hd => ?_))))))))
 · exact .sr (.ks 1 r (.nilS [2] r r (.drop .z (.ret (pret results11 (.t r .n) hl59 ⟨5, r, hd⟩)))))
 refine .skipS [1] r r (.seq (.sr (.ks 1 r (.nilS [3, 1] r r (.block (.loop hd (fun (s109 : Int) c w => ∃ I_, IH.le I58 I_ ∧ Ok ⟨77, [], none⟩ [(1, .pointer (some ⟨b6, 0, none⟩)), (3, .int .i64 s109)] c ∧ Sym w0 M I I_ [pto b6 (.cells #[.int .i64 a0.Kind, .int .i64 a0.N, .int .i64 a0.Source, .int .i64 a0.Length, .slice p1 a0.Draws.length c2] 25 (0, 0))] w) (fun c w ho hs => ⟨I58, (.refl _), ho.sub ⟨r, r, trivial⟩, hs.pick (.c .z .n)⟩) ?_))))))
 rintro s109 next110 hd c w hst
 obtain ⟨I111, hl112, hok, hsym⟩ := hst
 have le113 := IH.le.trans hl59 hl112
 replace R3 := R3.mono hl112
 refine Cod.at hok hsym (.seq (.sr (.ks 1 r (.fa un25 r sz23 r (o := 4) r r r (.load1 ia23 r .z r r r (.len un23 r r r r (.ks 1 r (.nilS [60, 3, 1] r r (.condP r hd (fun hb115 hd => ?_) fun hb115 hd => ?_)))))))))
 · refine .skipS [3, 1] r r (.seq (.block (.sr (.fa un25 r sz23 r (o := 4) r r r (.load1 ia23 r .z r r r (.ks 1 r ?_))))))
   obtain ⟨h116, x117, hx118, hd⟩ := hd
   obtain ⟨b119, o120, cs121, e122, hC123, hr124⟩ := R3.2 _ _ hx118
   cases hr124
   refine .ixa un23 sz2 r e122 r h116 (idx_lt hx118 h116) r r (.ld1 (j := 0) ia2 hC123 r r r r r (.ks 2 r ?_))
   refine splitP hd (fun hb125 hd => ?_) fun hb125 hd => ?_
   · rw [hb125]
     exact .ks 7 r (.nilS [76, 3, 1] r r (.condKT r r (.sr (.ks 1 r (.nilS [2] r r (.drop .z (.ret (pret results11 (.t r .n) le113 ⟨7, r, hd⟩))))))))
   rw [hb125]
   refine .gyes r r r (.fa un25 r sz23 r (o := 4) r r r (.gyes r r r (.load1 ia23 r .z r r r (.ks 1 r ?_))))
   obtain ⟨h126, x127, hx128, hd⟩ := hd
   obtain ⟨b129, o130, cs131, e132, hC133, hr134⟩ := R3.2 _ _ hx128
   cases hr134
   refine .gyes r r r (.ixa un23 sz2 r e132 r h126 (idx_lt hx128 h126) r r (.gyes r r r (.ld1 (j := 0) ia2 hC133 r r r r r (.ks 2 r (.nilS [76, 3, 1] r r (.condP r hd (fun hb135 hd => ?_) fun hb135 hd => ?_))))))
   · exact .sr (.ks 1 r (.nilS [2] r r (.drop .z (.ret (pret results11 (.t r .n) le113 ⟨7, r, hd⟩)))))
   exact .skipS [3, 1] r r (.region (.ks 3 r (.nil' fun c w ho hs => ⟨(w64 (s109 + 1)), hd, I111, hl112, ho.sub ⟨r, r, trivial⟩, hs.pick (.c .z .n)⟩)))
 exact .exitS [] r r (.drop .z (.sr (.ks 1 r (.nilS [2] r r (.ret (pret results11 (.t r .n) le113 ⟨0, r, hd⟩))))))

theorem W_ref02_Is {I : IH} {a0 : Int} {Q : Bool → Prop}  (hd : ref02_Is a0 Q) :
  PFun prog 120 [.int .i64 a0] I (fun _ => o0_ Q) := by
 refine Fun.enter func120 r ntmps120 r (.c .n) fun w0 M => ?_
 refine .sr (.ks 1 r (.nilS [0] r r (.sr (.ks 3 r ?_))))
 refine splitP hd (fun hb1 hd => ?_) fun hb1 hd => ?_
 · rw [hb1]
   exact .ks 4 r (.nilS [2] r r (.ret (pret results120 (.t r .n) (.refl _) ⟨(decide (a0 ≤ 5)), r, hd⟩)))
 rw [hb1]
 exact .ks 4 r (.nilS [2] r r (.ret (pret results120 (.t r .n) (.refl _) ⟨false, r, hd⟩)))

theorem W_ref05_below {I : IH} {a0 : Edge} {a1 : Edge} {Q : Bool → Prop}  (hd : ref05_below a0 a1 Q) :
  PFun prog 132 [.agg (encEdge a0).toArray, .agg (encEdge a1).toArray] I (fun _ => o0_ Q) := by
 refine Fun.enter func132 r ntmps132 r (.c (.c .n)) fun w0 M => ?_
 refine .sr (.boxA r r r fun b5 => ?_)
 refine .boxA r r r fun b7 => ?_
 refine .ks 1 r (.nilS [3, 2] r r (.sr (.fa un73 r sz3 r (o := 0) r r r (.load1 ia3 r (.s .z) r r r (.fa un73 r sz3 r (o := 0) r r r (.load1 ia3 r .z r r r (.ks 2 r ?_)))))))
 refine splitP hd (fun hb9 hd => ?_) fun hb9 hd => ?_
 · rw [hb9]
   exact .ks 14 r (.nilS [4] r r (.drop .z (.drop .z (.ret (pret results132 (.t r .n) (.refl _) ⟨true, r, hd⟩)))))
 rw [hb9]
 refine .gyes r r r (.fa un73 r sz3 r (o := 0) r r r (.gyes r r r (.load1 ia3 r (.s .z) r r r (.gyes r r r (.fa un73 r sz3 r (o := 0) r r r (.gyes r r r (.load1 ia3 r .z r r r (.ks 2 r ?_))))))))
 refine splitP hd (fun hb10 hd => ?_) fun hb10 hd => ?_
 · rw [hb10]
   exact .gyes r r r (.fa un73 r sz3 r (o := 1) r r r (.gyes r r r (.load1 ia3 r (.s .z) r r r (.gyes r r r (.fa un73 r sz3 r (o := 1) r r r (.gyes r r r (.load1 ia3 r .z r r r (.ks 4 r (.nilS [4] r r (.drop .z (.drop .z (.ret (pret results132 (.t r .n) (.refl _) ⟨(decide (a0.To < a1.To)), r, hd⟩)))))))))))))
 rw [hb10]
 exact .ks 8 r (.nilS [4] r r (.drop .z (.drop .z (.ret (pret results132 (.t r .n) (.refl _) ⟨false, r, hd⟩)))))

theorem W_ref01_Of {I : IH} {a0 : Int} {Q : Wide → Prop}  (hd : ref01_Of a0 Q) :
  PFun prog 133 [.int .i64 a0] I (fun _ => o2_ Q) := by
 refine Fun.enter func133 r ntmps133 r (.c .n) fun w0 M => ?_
 refine .sr (.allocA zv144 r r fun b3 => ?_)
 refine .nilS [2, 0] r r (.seq (.sr (.ks 2 r (.nilS [4, 2, 0] r r (.condP r hd (fun hb5 hd => ?_) fun hb5 hd => ?_)))))
 · exact .sr (.ks 1 r (.conv un2 un96 r r r (.build zv144 un144 BI144 (.c r r r (.t .nil) (.c r r r (.s (.t .nil)) .n)) (by exact ⟨⟨_, _, r, r, r⟩, ⟨⟨_, _, r, r, r⟩, trivial⟩⟩) r r (.storeA sz144 r r .z (.t (.t .nil)) r r (.nilS [2] r r (.ret (pret results133 (.w ia144 sz144 r .z r .n) (.refl _) ⟨({ Hi := (-1), Lo := IntKind.wrap .u64 (a0) } : Wide), r, hd⟩)))))))
 exact .skipS [2, 0] r r (.sr (.ks 1 r (.conv un2 un96 r r r (.build zv144 un144 BI144 (.c r r r (.s (.t .nil)) .n) (by exact ⟨⟨_, _, r, r, r⟩, trivial⟩) r r (.storeA sz144 r r .z (.t (.t .nil)) r r (.nilS [2] r r (.ret (pret results133 (.w ia144 sz144 r .z r .n) (.refl _) ⟨({ Hi := 0, Lo := IntKind.wrap .u64 (a0) } : Wide), r, hd⟩))))))))

theorem W_ref01_Compare {I : IH} {a0 : Wide} {a1 : Wide} {Q : Int → Prop}  (hd : ref01_Compare a0 a1 Q) :
  PFun prog 147 [.agg (encWide a0).toArray, .agg (encWide a1).toArray] I (fun _ => o1_ Q) := by
 refine Fun.enter func147 r ntmps147 r (.c (.c .n)) fun w0 M => ?_
 refine .sr (.boxA r r r fun b5 => ?_)
 refine .boxA r r r fun b7 => ?_
 refine .ks 1 r (.nilS [3, 2] r r (.seq ?_))
 refine Cod.joinQ (σ := Unit) hd (fun (_ : Unit) c w => ∃ I_, IH.le I I_ ∧ Ok ⟨27, [], none⟩ [(2, .pointer (some ⟨b5, 0, none⟩)), (3, .pointer (some ⟨b7, 0, none⟩))] c ∧ Sym w0 M I I_ [pto b5 (.cells #[.int .i64 a0.Hi, .int .u64 a0.Lo] 144 (0, 0)), pto b7 (.cells #[.int .i64 a1.Hi, .int .u64 a1.Lo] 144 (0, 0))] w) (fun k15 hd => ?_) ?_
 · skip
   refine .sr (.fa un144 r sz2 r (o := 0) r r r (.load1 ia2 r (.s .z) r r r (.fa un144 r sz2 r (o := 0) r r r (.load1 ia2 r .z r r r (.ks 2 r ?_)))))
   refine splitP hd (fun hb16 hd => ?_) fun hb16 hd => ?_
   · rw [hb16]
     exact .ks 13 r (.nilS [23, 3, 2] r r (.condKT r r (.sr (.ks 1 r (.nilS [4] r r (.drop .z (.drop .z (.ret (pret results147 (.t r .n) (.refl _) ⟨(-1), r, hd⟩)))))))))
   rw [hb16]
   refine .gyes r r r (.fa un144 r sz2 r (o := 0) r r r (.gyes r r r (.load1 ia2 r (.s .z) r r r (.gyes r r r (.fa un144 r sz2 r (o := 0) r r r (.gyes r r r (.load1 ia2 r .z r r r (.ks 2 r ?_))))))))
   refine splitP hd (fun hb17 hd => ?_) fun hb17 hd => ?_
   · rw [hb17]
     refine .gyes r r r (.fa un144 r sz96 r (o := 1) r r r (.gyes r r r (.load1 ia96 r (.s .z) r r r (.gyes r r r (.fa un144 r sz96 r (o := 1) r r r (.gyes r r r (.load1 ia96 r .z r r r (.ks 3 r (.nilS [23, 3, 2] r r (.condP r hd (fun hb18 hd => ?_) fun hb18 hd => ?_))))))))))
     · exact .sr (.ks 1 r (.nilS [4] r r (.drop .z (.drop .z (.ret (pret results147 (.t r .n) (.refl _) ⟨(-1), r, hd⟩))))))
     exact .skip' fun c w ho hs => ⟨(), hd, I, (.refl _), ho.sub ⟨r, r, trivial⟩, hs.pick (.c (.s .z) (.c .z .n))⟩
   rw [hb17]
   exact .ks 7 r (.nilS [23, 3, 2] r r (.condKF r r (.skip' fun c w ho hs => ⟨(), hd, I, (.refl _), ho.sub ⟨r, r, trivial⟩, hs.pick (.c (.s .z) (.c .z .n))⟩)))
 rintro ⟨⟩ hd c w hst
 obtain ⟨I19, hl20, hok, hsym⟩ := hst
 refine Cod.at hok hsym (.seq (.sr (.loadW ia144 sz144 r .z r r r (.loadW ia144 sz144 r (.s .z) r r r (.eqV r r (EQ144 a0 a1) (EG144 _ _ _ _ _) r r r (.nilS [26] r r (.drop .z (.drop .z (.condP r hd (fun hb21 hd => ?_) fun hb21 hd => ?_)))))))))
 · exact .sr (.ks 1 r (.nilS [4] r r (.ret (pret results147 (.t r .n) hl20 ⟨0, r, hd⟩))))
 exact .skipS [] r r (.sr (.ks 1 r (.nilS [4] r r (.ret (pret results147 (.t r .n) hl20 ⟨1, r, hd⟩)))))

theorem W_ref02_truth {I : IH} {a0 : Bool} {Q : Wide → Prop}  (hd : ref02_truth a0 Q) :
  PFun prog 148 [.bool a0] I (fun _ => o2_ Q) := by
 refine Fun.enter func148 r ntmps148 r (.c .n) fun w0 M => ?_
 refine .sr (.allocA zv144 r r fun b3 => ?_)
 refine .nilS [2, 0] r r (.seq (.sr (.ks 1 r (.nilS [3, 2] r r (.condP r hd (fun hb5 hd => ?_) fun hb5 hd => ?_)))))
 · exact .sr (.build zv144 un144 BI144 (.c r r r (.s (.t .nil)) .n) (by exact ⟨⟨_, _, r, r, r⟩, trivial⟩) r r (.storeA sz144 r r .z (.t (.t .nil)) r r (.nilS [2] r r (.ret (pret results148 (.w ia144 sz144 r .z r .n) (.refl _) ⟨({ Hi := 0, Lo := 1 } : Wide), r, hd⟩)))))
 exact .skipS [2] r r (.sr (.build zv144 un144 BI144 .n (by exact trivial) r r (.storeA sz144 r r .z (.t (.t .nil)) r r (.nilS [2] r r (.ret (pret results148 (.w ia144 sz144 r .z r .n) (.refl _) ⟨({ Hi := 0, Lo := 0 } : Wide), r, hd⟩))))))

theorem W_ref01_Add {I : IH} {a0 : Wide} {a1 : Wide} {Q : Wide → Prop}  (hd : ref01_Add a0 a1 Q) :
  PFun prog 149 [.agg (encWide a0).toArray, .agg (encWide a1).toArray] I (fun _ => o2_ Q) := by
 refine Fun.enter func149 r ntmps149 r (.c (.c .n)) fun w0 M => ?_
 refine .sr (.boxA r r r fun b7 => ?_)
 refine .boxA r r r fun b9 => ?_
 refine .allocA zv144 r r fun b11 => ?_
 refine .nilS [4, 3, 2] r r (.sr (.fa un144 r sz96 r (o := 1) r r r (.load1 ia96 r (.s (.s .z)) r r r (.fa un144 r sz96 r (o := 1) r r r (.load1 ia96 r (.s .z) r r r (.ks 2 r (.nilS [5, 4, 3, 2] r r (.sr (.fa un144 r sz2 r (o := 0) r r r ?_)))))))))
 refine .load1 ia2 r (.s (.s .z)) r r r (.fa un144 r sz2 r (o := 0) r r r (.load1 ia2 r (.s .z) r r r (.ks 2 r (.nilS [6, 5, 4, 2] r r (.drop (.s .z) (.seq (.sr (.ks 1 r (.fa un144 r sz96 r (o := 1) r r r ?_)))))))))
 refine .load1 ia96 r (.s .z) r r r (.ks 1 r (.nilS [20, 6, 5, 4] r r (.drop (.s .z) (.condP r hd (fun hb13 hd => ?_) fun hb13 hd => ?_))))
 · exact .region (.ks 3 r (.nilS [6, 5, 4] r r (.sr (.ks 2 r (.build zv144 un144 BI144 (.c r r r (.t .nil) (.c r r r (.s (.t .nil)) .n)) (by exact ⟨⟨_, _, r, r, r⟩, ⟨⟨_, _, r, r, r⟩, trivial⟩⟩) r r (.storeA sz144 r r .z (.t (.t .nil)) r r (.nilS [4] r r (.ret (pret results149 (.w ia144 sz144 r .z r .n) (.refl _) ⟨({ Hi := w64 ((w64 (a0.Hi + a1.Hi)) + 1), Lo := IntKind.wrap .u64 (a0.Lo + a1.Lo) } : Wide), r, hd⟩)))))))))
 exact .skipS [6, 5, 4] r r (.sr (.ks 2 r (.build zv144 un144 BI144 (.c r r r (.t .nil) (.c r r r (.s (.t .nil)) .n)) (by exact ⟨⟨_, _, r, r, r⟩, ⟨⟨_, _, r, r, r⟩, trivial⟩⟩) r r (.storeA sz144 r r .z (.t (.t .nil)) r r (.nilS [4] r r (.ret (pret results149 (.w ia144 sz144 r .z r .n) (.refl _) ⟨({ Hi := w64 (a0.Hi + a1.Hi), Lo := IntKind.wrap .u64 (a0.Lo + a1.Lo) } : Wide), r, hd⟩)))))))

theorem W_ref02_Add {I : IH} {a0 : Int} {a1 : Wide} {a2 : Wide} {Q : Wide → Prop}  (hd : ref02_Add a0 a1 a2 Q) :
  PFun prog 134 [.int .i64 a0, .agg (encWide a1).toArray, .agg (encWide a2).toArray] I (fun _ => o2_ Q) := by
 refine Fun.enter func134 r ntmps134 r (.c (.c (.c .n))) fun w0 M => ?_
 refine .sr (.boxA r r r fun b7 => ?_)
 refine .boxA r r r fun b9 => ?_
 refine .allocA zv144 r r fun b11 => ?_
 refine .nilS [6, 5, 4, 0] r r (.sr (.ks 1 r (.nilS [7, 6, 5, 4] r r (.block (.seq ?_)))))
 refine Cod.joinQ (σ := Bool) hd (fun (s17 : Bool) c w => ∃ I_, IH.le I I_ ∧ Ok ⟨35, [], none⟩ [(4, .pointer (some ⟨b7, 0, none⟩)), (5, .pointer (some ⟨b9, 0, none⟩)), (6, .pointer (some ⟨b11, 0, none⟩)), (7, .int .i64 a0), (9, .bool s17)] c ∧ Sym w0 M I I_ [pto b7 (.cells #[.int .i64 a1.Hi, .int .u64 a1.Lo] 144 (0, 0)), pto b9 (.cells #[.int .i64 a2.Hi, .int .u64 a2.Lo] 144 (0, 0)), pto b11 (.cells #[.int .i64 0, .int .u64 0] 144 (0, 0))] w) (fun k18 hd => ?_) ?_
 · skip
   refine .sr (.ks 2 r (.nilS [9, 7, 6, 5, 4] r r (.condP r hd (fun hb19 hd => ?_) fun hb19 hd => ?_)))
   · exact .skip' fun c w ho hs => ⟨(a0 == 1), hd, I, (.refl _), ho.sub ⟨r, r, r, r, r, trivial⟩, hs.pick (.c (.s (.s .z)) (.c (.s .z) (.c .z .n)))⟩
   refine .sr (.ks 2 r (.nilS [9, 7, 6, 5, 4] r r (.condP r hd (fun hb20 hd => ?_) fun hb20 hd => ?_)))
   · exact .skip' fun c w ho hs => ⟨(a0 == 3), hd, I, (.refl _), ho.sub ⟨r, r, r, r, r, trivial⟩, hs.pick (.c (.s (.s .z)) (.c (.s .z) (.c .z .n)))⟩
   exact .region (.ks 2 r (.nil' fun c w ho hs => ⟨(a0 == 4), hd, I, (.refl _), ho.sub ⟨r, r, r, r, r, trivial⟩, hs.pick (.c (.s (.s .z)) (.c (.s .z) (.c .z .n)))⟩))
 rintro s17 hd c w hst
 obtain ⟨I21, hl22, hok, hsym⟩ := hst
 refine Cod.at hok hsym (.condP r hd (fun hb23 hd => ?_) fun hb23 hd => ?_)
 · refine .seq (.sr (.loadW ia144 sz144 r (.s .z) r r r (.loadW ia144 sz144 r .z r r r ?_)))
   have hw25 := W_ref01_Compare (I := I21) hd
   refine .callP call147 r hw25 r r fun v26 hv27 => ?_
   obtain ⟨r24, rfl, hd⟩ := hv27
   refine .ks 1 r (.nilS [16, 6, 5, 4] r r (.condP r hd (fun hb28 hd => ?_) fun hb28 hd => ?_))
   · exact .sr (.loadW ia144 sz144 r (.s .z) r r r (.storeA sz144 r r (.s (.s .z)) (.t (.t .nil)) r r (.nilS [6] r r (.drop .z (.drop .z (.ret (pret results134 (.w ia144 sz144 r .z r .n) hl22 ⟨a2, r, hd⟩)))))))
   exact .skipS [6, 4] r r (.drop (.s .z) (.sr (.loadW ia144 sz144 r .z r r r (.storeA sz144 r r (.s .z) (.t (.t .nil)) r r (.nilS [6] r r (.drop .z (.ret (pret results134 (.w ia144 sz144 r .z r .n) hl22 ⟨a1, r, hd⟩))))))))
 refine .sr (.ks 2 r (.nilS [19, 7, 6, 5, 4] r r (.condP r hd (fun hb29 hd => ?_) fun hb29 hd => ?_)))
 · refine .sr (.loadW ia144 sz144 r .z r r r (.build zv144 un144 BI144 .n (by exact trivial) r r (.neV r r (EQ144 a1 ({ Hi := 0, Lo := 0 } : Wide)) (EG144 _ _ _ _ _) r r r (.ks 1 r ?_))))
   refine splitP hd (fun hb30 hd => ?_) fun hb30 hd => ?_
   · rw [hb30]
     refine .ks 4 r ?_
     have hw32 := W_ref02_truth (I := I21) hd
     refine .callP call148 r hw32 r r fun v33 hv34 => ?_
     obtain ⟨r31, rfl, hd⟩ := hv34
     exact .storeA sz144 r r (.s (.s .z)) (.t (.t .nil)) r r (.nilS [6] r r (.drop .z (.drop .z (.ret (pret results134 (.w ia144 sz144 r .z r .n) hl22 ⟨r31, r, hd⟩)))))
   rw [hb30]
   refine .gyes r r r (.loadW ia144 sz144 r (.s .z) r r r (.gyes r r r (.build zv144 un144 BI144 .n (by exact trivial) r r (.gyes r r r (.neV r r (EQ144 a2 ({ Hi := 0, Lo := 0 } : Wide)) (EG144 _ _ _ _ _) r r r (.ks 1 r ?_))))))
   have hw36 := W_ref02_truth (I := I21) hd
   refine .callP call148 r hw36 r r fun v37 hv38 => ?_
   obtain ⟨r35, rfl, hd⟩ := hv38
   exact .storeA sz144 r r (.s (.s .z)) (.t (.t .nil)) r r (.nilS [6] r r (.drop .z (.drop .z (.ret (pret results134 (.w ia144 sz144 r .z r .n) hl22 ⟨r35, r, hd⟩)))))
 refine .sr (.ks 2 r (.nilS [30, 6, 5, 4] r r (.condP r hd (fun hb39 hd => ?_) fun hb39 hd => ?_)))
 · refine .sr (.loadW ia144 sz144 r .z r r r (.loadW ia144 sz144 r (.s .z) r r r ?_))
   have hw41 := W_ref01_Add (I := I21) hd
   refine .callP call149 r hw41 r r fun v42 hv43 => ?_
   obtain ⟨r40, rfl, hd⟩ := hv43
   exact .storeA sz144 r r (.s (.s .z)) (.t (.t .nil)) r r (.nilS [6] r r (.drop .z (.drop .z (.ret (pret results134 (.w ia144 sz144 r .z r .n) hl22 ⟨r40, r, hd⟩)))))
 exact .sr (.build zv144 un144 BI144 .n (by exact trivial) r r (.storeA sz144 r r (.s (.s .z)) (.t (.t .nil)) r r (.nilS [6] r r (.drop .z (.drop .z (.ret (pret results134 (.w ia144 sz144 r .z r .n) hl22 ⟨({ Hi := 0, Lo := 0 } : Wide), r, hd⟩)))))))

theorem W_ref01_Narrow {I : IH} {a0 : Wide} {Q : (Int × Bool) → Prop}  (hd : ref01_Narrow a0 Q) :
  PFun prog 135 [.agg (encWide a0).toArray] I (fun _ => o4_ Q) := by
 refine Fun.enter func135 r ntmps135 r (.c .n) fun w0 M => ?_
 refine .sr (.boxA r r r fun b3 => ?_)
 refine .ks 2 r (.nilS [1] r r (.sr (.fa un144 r sz96 r (o := 1) r r r (.load1 ia96 r .z r r r (.conv un96 un2 r r r (.ks 1 r (.nilS [4, 1] r r (.seq (.sr ?_)))))))))
 refine .fa un144 r sz2 r (o := 0) r r r (.load1 ia2 r .z r r r (.ks 2 r ?_))
 refine splitP hd (fun hb5 hd => ?_) fun hb5 hd => ?_
 · rw [hb5]
   refine .ks 4 r ?_
   refine splitP hd (fun hb6 hd => ?_) fun hb6 hd => ?_
   · rw [hb6]
     exact .ks 8 r (.nilS [23, 4] r r (.drop .z (.condKT r r (.sr (.ks 3 r (.nilS [3, 2] r r (.ret (pret results135 (.t r (.t r .n)) (.refl _) ⟨(w64 (a0.Lo), true), r, hd⟩))))))))
   rw [hb6]
   refine .gyes r r r (.fa un144 r sz2 r (o := 0) r r r (.gyes r r r (.load1 ia2 r .z r r r (.ks 2 r ?_))))
   refine splitP hd (fun hb7 hd => ?_) fun hb7 hd => ?_
   · rw [hb7]
     refine .ks 4 r (.nilS [23, 4] r r (.drop .z (.condP r hd (fun hb8 hd => ?_) fun hb8 hd => ?_)))
     · exact .sr (.ks 3 r (.nilS [3, 2] r r (.ret (pret results135 (.t r (.t r .n)) (.refl _) ⟨(w64 (a0.Lo), true), r, hd⟩))))
     exact .skipS [] r r (.sr (.ks 2 r (.nilS [3, 2] r r (.ret (pret results135 (.t r (.t r .n)) (.refl _) ⟨(0, false), r, hd⟩)))))
   rw [hb7]
   exact .ks 4 r (.nilS [23, 4] r r (.drop .z (.condKF r r (.skipS [] r r (.sr (.ks 2 r (.nilS [3, 2] r r (.ret (pret results135 (.t r (.t r .n)) (.refl _) ⟨(0, false), r, hd⟩)))))))))
 rw [hb5]
 refine .ks 4 r (.gyes r r r (.fa un144 r sz2 r (o := 0) r r r (.gyes r r r (.load1 ia2 r .z r r r (.ks 2 r ?_)))))
 refine splitP hd (fun hb9 hd => ?_) fun hb9 hd => ?_
 · rw [hb9]
   refine .ks 4 r (.nilS [23, 4] r r (.drop .z (.condP r hd (fun hb10 hd => ?_) fun hb10 hd => ?_)))
   · exact .sr (.ks 3 r (.nilS [3, 2] r r (.ret (pret results135 (.t r (.t r .n)) (.refl _) ⟨(w64 (a0.Lo), true), r, hd⟩))))
   exact .skipS [] r r (.sr (.ks 2 r (.nilS [3, 2] r r (.ret (pret results135 (.t r (.t r .n)) (.refl _) ⟨(0, false), r, hd⟩)))))
 rw [hb9]
 exact .ks 4 r (.nilS [23, 4] r r (.drop .z (.condKF r r (.skipS [] r r (.sr (.ks 2 r (.nilS [3, 2] r r (.ret (pret results135 (.t r (.t r .n)) (.refl _) ⟨(0, false), r, hd⟩)))))))))

theorem W_ref05_Combine {I : IH} {a0 : Int} {a1 : List Edge} {p1 : Option Addr} {c2 : Nat} {Q : ((List Edge) × Int) → Prop} (R3 : RepSl eEdge I p1 c2 a1) (hd : ref05_Combine a0 a1 Q) :
  OFun prog 116 [.int .i64 a0, .slice p1 a1.length c2] I (fun I_ v l => ∃ r p4 c5, v = .tuple #[.slice p4 r.1.length c5, .int .i64 r.2] ∧ l = [OwnSl eEdge 73 p4 c5 r.1] ∧ Q r) := by
 refine Fun.enter func116 r ntmps116 r (.c (.c .n)) fun w0 M => ?_
 refine .sr (.ks 2 r (.nilS [1, 0] r r (.seq (.sr (.ks 1 r ?_)))))
 have hw13 := W_ref02_Is (I := I) hd
 refine .callP call120 r hw13 r r fun v14 hv15 => ?_
 obtain ⟨r12, rfl, hd⟩ := hv15
 refine .ks 1 r (.nilS [17, 1, 0] r r (.condP r hd (fun hb16 hd => ?_) fun hb16 hd => ?_))
 · exact .sr (.ks 2 r (.nilS [5, 4] r r (.own0 eEdge 73 (.ret (oret results116 (.t r (.t r .n)) (.refl _) (.c .z .n) ⟨(([] : List Edge), 8), _, _, r, r, hd⟩)))))
 refine .skipS [1, 0] r r (.sr (.ks 1 r (.nilS [6, 1, 0] r r (.sr (.ks 1 r (.nilS [7, 6, 1, 0] r r (.seq (.sr (.ks 1 r ?_)))))))))
 refine .nilS [8, 7, 6, 1, 0] r r (.block (.own0 eEdge 73 (.own0 eWide 144 (.loop hd (fun (s : (List Edge) × (List Wide) × Int) c w => match s with | (s2657, s2661, s2665) => ∃ I_ p2658 c2659 p2662 c2663, IH.le I I_ ∧ Ok ⟨145, [], none⟩ [(0, .int .i64 a0), (1, .slice p1 a1.length c2), (6, .slice p2658 s2657.length c2659), (7, .slice p2662 s2661.length c2663), (8, .int .i64 s2665)] c ∧ Sym w0 M I I_ [OwnSl eEdge 73 p2658 c2659 s2657, OwnSl eWide 144 p2662 c2663 s2661] w) (fun c w ho hs => ⟨I, _, _, _, _, (.refl _), ho.sub ⟨r, r, r, r, r, trivial⟩, hs.pick (.c (.s .z) (.c .z .n))⟩) ?_))))
 rintro ⟨s2657, s2661, s2665⟩ next2668 hd c w hst
 obtain ⟨I2669, p2658, c2659, p2662, c2663, hl2670, hok, hsym⟩ := hst
 replace R3 := R3.mono hl2670
 refine Cod.at hok hsym (.seq (.sr (.ks 2 r (.len un26 r r r r (.ks 1 r (.nilS [21, 8, 7, 6, 1, 0] r r (.condP r hd (fun hb2672 hd => ?_) fun hb2672 hd => ?_)))))))
 · refine .skipS [8, 7, 6, 1, 0] r r (.seq (.block (.sr (.ks 1 r (.nilS [9, 8, 7, 6, 1, 0] r r (.seq ?_))))))
   refine Cod.joinQ (σ := Int) hd (fun (s2821 : Int) c w => ∃ I_, IH.le I2669 I_ ∧ Ok ⟨145, [], none⟩ [(0, .int .i64 a0), (1, .slice p1 a1.length c2), (6, .slice p2658 s2657.length c2659), (7, .slice p2662 s2661.length c2663), (8, .int .i64 s2665), (9, .int .i64 s2821)] c ∧ Sym w0 M I I_ [OwnSl eEdge 73 p2658 c2659 s2657, OwnSl eWide 144 p2662 c2663 s2661] w) (fun k2822 hd => ?_) ?_
   · skip
     refine .block (.loop hd (fun (s2870 : Int) c w => ∃ I_, IH.le I2669 I_ ∧ Ok ⟨145, [], none⟩ [(0, .int .i64 a0), (1, .slice p1 a1.length c2), (6, .slice p2658 s2657.length c2659), (7, .slice p2662 s2661.length c2663), (8, .int .i64 s2665), (9, .int .i64 s2870)] c ∧ Sym w0 M I I_ [OwnSl eEdge 73 p2658 c2659 s2657, OwnSl eWide 144 p2662 c2663 s2661] w) (fun c w ho hs => ⟨I2669, (.refl _), ho.sub ⟨r, r, r, r, r, r, trivial⟩, hs.pick (.c .z (.c .z .n))⟩) ?_)
     rintro s2870 next2871 hd c w hst
     obtain ⟨I2872, hl2873, hok, hsym⟩ := hst
     have le2874 := IH.le.trans hl2670 hl2873
     replace R3 := R3.mono hl2873
     refine Cod.at hok hsym (.seq (.seq (.ownF .z fun hne2875 => ?_)))
     refine .ownF (.s .z) fun hne2876 => ?_
     refine .dr [0, 1, 2, 3, 4, 5, 6, 7, 8, 9, 10, 11, 12, 13, 14] 15 (.fk 2 r (.g r r r (fun _ => .len un26 r r r r .mk) (.fk 2 r ?_)))
     refine splitP hd (fun hb2877 hd => ?_) fun hb2877 hd => ?_
     · refine .g r r r (fun _ => .gyes r r hb2877 (.move r r r .mk)) (.g r r r (fun _ => .gyes r r hb2877 (.move r r r .mk)) ?_)
       obtain ⟨h2878, x2879, hx2880, hd⟩ := hd
       obtain ⟨b2881, e2882⟩ := hne2875 (idx_ne hx2880)
       cases e2882
       refine .g r r r (fun _ => .gyes r r hb2877 (.ixa0 un26 sz73 r r h2878 (idx_lt hx2880 h2878) r r .mk)) (.g r r r (fun _ => .gyes r r hb2877 (.loA (j := 0) ia73 sz73 .z hx2880 r r (.t (.t (.t .nil))) r r r .mk)) (.g r r r (fun _ => .gyes r r hb2877 (.move r r r .mk)) (.g r r r (fun _ => .gyes r r hb2877 (.move r r r .mk)) ?_)))
       obtain ⟨h2883, x2884, hx2885, hd⟩ := hd
       obtain ⟨b2886, o2887, cs2888, e2889, hC2890, hr2891⟩ := R3.2 _ _ hx2885
       cases hr2891
       refine .g r r r (fun _ => .gyes r r hb2877 (.ixa un26 sz73 r e2889 r h2883 (idx_lt hx2885 h2883) r r .mk)) (.g r r r (fun _ => .gyes r r hb2877 (.ldW ia73 sz73 hC2890 r r r r .mk)) (.ww r fun ex => ?_))
       have hw2893 := W_ref05_below (I := I2872) hd
       refine .gyes r r hb2877 (.callP call132 r hw2893 r r fun v2894 hv2895 => ?_)
       obtain ⟨r2892, rfl, hd⟩ := hv2895
       refine .so 2 r r r trivial (.g r r r (fun _ => .pickT r hb2877 r r r .mk) (.e2 15 (.nilS [38, 9, 8, 7, 6, 1, 0] r r (.condP r hd (fun hb2896 hd => ?_) fun hb2896 hd => ?_))))
       · exact .skipS [9, 8, 7, 6, 1, 0] r r (.block (.region (.ks 3 r (.nil' fun c w ho hs => ⟨(w64 (s2870 + 1)), hd, I2872, hl2873, ho.sub ⟨r, r, r, r, r, r, trivial⟩, hs.pick (.c .z (.c .z .n))⟩))))
       exact .exit fun c w ho hs => ⟨s2870, hd, I2872, hl2873, ho.sub ⟨r, r, r, r, r, r, trivial⟩, hs.pick (.c .z (.c .z .n))⟩
     refine .g r r r (fun _ => .gno r r hb2877 r r .mk) (.g r r r (fun _ => .gno r r hb2877 r r .mk) (.g r r r (fun _ => .gno r r hb2877 r r .mk) (.g r r r (fun _ => .gno r r hb2877 r r .mk) (.g r r r (fun _ => .gno r r hb2877 r r .mk) (.g r r r (fun _ => .gno r r hb2877 r r .mk) (.g r r r (fun _ => .gno r r hb2877 r r .mk) (.g r r r (fun _ => .gno r r hb2877 r r .mk) (.g r r r (fun _ => .gno r r hb2877 r r .mk) (.g r r r (fun _ => .pickF r hb2877 r r r .mk) ?_)))))))))
     exact .e2 15 (.nilS [38, 9, 8, 7, 6, 1, 0] r r (.condKF r r (.exit fun c w ho hs => ⟨s2870, hd, I2872, hl2873, ho.sub ⟨r, r, r, r, r, r, trivial⟩, hs.pick (.c .z (.c .z .n))⟩)))
   rintro s2821 hd c w hst
   obtain ⟨I2897, hl2898, hok, hsym⟩ := hst
   have le2899 := IH.le.trans hl2670 hl2898
   replace R3 := R3.mono hl2898
   refine Cod.at hok hsym (.sr (.ks 2 r ?_))
   obtain ⟨h2915, x2916, hx2917, hd⟩ := hd
   obtain ⟨b2918, o2919, cs2920, e2921, hC2922, hr2923⟩ := R3.2 _ _ hx2917
   cases hr2923
   refine .ixa un26 sz73 r e2921 r h2915 (idx_lt hx2917 h2915) r r (.fa un73 r sz2 r (o := o2919 + s2665.toNat * 3 + 2) r r r (.ld1 (j := 2) ia2 hC2922 r r r r r ?_))
   have hw2925 := W_ref01_Of (I := I2897) hd
   refine .callP call133 r hw2925 r r fun v2926 hv2927 => ?_
   obtain ⟨r2924, rfl, hd⟩ := hv2927
   refine .allocA zv144 r r fun b2928 => ?_
   refine .storeA sz144 r r .z (.t (.t .nil)) r r (.nilS [10, 9, 8, 7, 6, 1, 0] r r (.seq (.seq ?_)))
   refine Cod.joinQ (σ := Bool) hd (fun (s3056 : Bool) c w => ∃ I_, IH.le I2897 I_ ∧ Ok ⟨145, [], none⟩ [(0, .int .i64 a0), (1, .slice p1 a1.length c2), (6, .slice p2658 s2657.length c2659), (7, .slice p2662 s2661.length c2663), (8, .int .i64 s2665), (9, .int .i64 s2821), (10, .pointer (some ⟨b2928, 0, none⟩)), (62, .bool s3056)] c ∧ Sym w0 M I I_ [OwnSl eEdge 73 p2658 c2659 s2657, OwnSl eWide 144 p2662 c2663 s2661, pto b2928 (.cells #[.int .i64 r2924.Hi, .int .u64 r2924.Lo] 144 (0, 0))] w) (fun k3057 hd => ?_) ?_
   · skip
     refine .ownF (.s .z) fun hne3058 => ?_
     refine .ownF (.s (.s .z)) fun hne3059 => ?_
     refine .dr [0, 1, 2, 3, 4, 5, 6, 7, 8, 9, 10, 11, 12, 13, 14, 15] 16 (.fk 2 r (.g r r r (fun _ => .len un26 r r r r .mk) (.fk 2 r ?_)))
     refine splitP hd (fun hb3060 hd => ?_) fun hb3060 hd => ?_
     · refine .g r r r (fun _ => .gyes r r hb3060 (.move r r r .mk)) (.g r r r (fun _ => .gyes r r hb3060 (.move r r r .mk)) ?_)
       obtain ⟨h3061, x3062, hx3063, hd⟩ := hd
       obtain ⟨b3064, o3065, cs3066, e3067, hC3068, hr3069⟩ := R3.2 _ _ hx3063
       cases hr3069
       refine .g r r r (fun _ => .gyes r r hb3060 (.ixa un26 sz73 r e3067 r h3061 (idx_lt hx3063 h3061) r r .mk)) (.g r r r (fun _ => .gyes r r hb3060 (.ldW ia73 sz73 hC3068 r r r r .mk)) (.g r r r (fun _ => .gyes r r hb3060 (.move r r r .mk)) (.g r r r (fun _ => .gyes r r hb3060 (.move r r r .mk)) ?_)))
       obtain ⟨h3070, x3071, hx3072, hd⟩ := hd
       obtain ⟨b3073, e3074⟩ := hne3058 (idx_ne hx3072)
       cases e3074
       refine .g r r r (fun _ => .gyes r r hb3060 (.ixa0 un26 sz73 r r h3070 (idx_lt hx3072 h3070) r r .mk)) (.g r r r (fun _ => .gyes r r hb3060 (.loA (j := 0) ia73 sz73 (.s .z) hx3072 r r (.t (.t (.t .nil))) r r r .mk)) (.ww r fun ex => ?_))
       have hw3076 := W_ref05_below (I := I2897) hd
       refine .gyes r r hb3060 (.callP call132 r hw3076 r r fun v3077 hv3078 => ?_)
       obtain ⟨r3075, rfl, hd⟩ := hv3078
       exact .so 3 r r r trivial (.g r r r (fun _ => .gyes r r hb3060 (.not r r r .mk)) (.g r r r (fun _ => .pickT r hb3060 r r r .mk) (.e2 16 (.nil' fun c w ho hs => ⟨(!r3075), hd, I2897, (.refl _), ho.sub ⟨r, r, r, r, r, r, r, r, trivial⟩, hs.pick (.c (.s .z) (.c (.s .z) (.c .z .n)))⟩))))
     refine .g r r r (fun _ => .gno r r hb3060 r r .mk) (.g r r r (fun _ => .gno r r hb3060 r r .mk) (.g r r r (fun _ => .gno r r hb3060 r r .mk) (.g r r r (fun _ => .gno r r hb3060 r r .mk) (.g r r r (fun _ => .gno r r hb3060 r r .mk) (.g r r r (fun _ => .gno r r hb3060 r r .mk) (.g r r r (fun _ => .gno r r hb3060 r r .mk) (.g r r r (fun _ => .gno r r hb3060 r r .mk) (.g r r r (fun _ => .gno r r hb3060 r r .mk) (.g r r r (fun _ => .gno r r hb3060 r r .mk) ?_)))))))))
     exact .g r r r (fun _ => .pickF r hb3060 r r r .mk) (.e2 16 (.nil' fun c w ho hs => ⟨false, hd, I2897, (.refl _), ho.sub ⟨r, r, r, r, r, r, r, r, trivial⟩, hs.pick (.c (.s .z) (.c (.s .z) (.c .z .n)))⟩))
   rintro s3056 hd c w hst
   obtain ⟨I3079, hl3080, hok, hsym⟩ := hst
   have le3081 := IH.le.trans le2899 hl3080
   have le3082 := IH.le.trans hl2898 hl3080
   replace R3 := R3.mono hl3080
   refine Cod.at hok hsym (.condP r hd (fun hb3083 hd => ?_) fun hb3083 hd => ?_)
   · refine .seq (.ownF .z fun hne3084 => ?_)
     refine .ownF (.s .z) fun hne3085 => ?_
     refine .dr [0, 1, 2, 3, 4, 5, 6, 7, 8] 9 (.fk 5 r ?_)
     obtain ⟨h3086, x3087, hx3088, hd⟩ := hd
     obtain ⟨b3089, e3090⟩ := hne3085 (idx_ne hx3088)
     cases e3090
     refine .g r r r (fun _ => .ixa0 un151 sz144 r r h3086 (idx_lt hx3088 h3086) r r .mk) (.g r r r (fun _ => .loA (j := 0) ia144 sz144 (.s .z) hx3088 r r (.t (.t .nil)) r r r .mk) (.g r r r (fun _ => .loadW ia144 sz144 r (.s (.s .z)) r r r .mk) (.ww r fun ex => ?_)))
     have hw3092 := W_ref02_Add (I := I3079) hd
     refine .callP call134 r hw3092 r r fun v3093 hv3094 => ?_
     obtain ⟨r3091, rfl, hd⟩ := hv3094
     refine .so 3 r r r (.ck 2 r r trivial) (.e2 9 ?_)
     obtain ⟨h3095, x3096, hx3097, hd⟩ := hd
     exact .ixa0 un151 sz144 r r h3095 (idx_lt hx3097 h3095) r r (.stOA (j := 0) (v' := r3091) sz144 (.s .z) hx3097 r r r (.t (.t .nil)) r r (.sub (E' := [(0, _), (1, _), (6, _), (7, .slice (some ⟨b3089, 0, none⟩) (s2661.set s2821.toNat r3091).length c2663), (8, _), (9, _), (10, _), (62, _), (63, .slice (some ⟨b3089, 0, none⟩) (s2661.set s2821.toNat r3091).length c2663), (64, _), (65, _), (66, .slice (some ⟨b3089, 0, none⟩) (s2661.set s2821.toNat r3091).length c2663), (67, _), (68, _), (69, _), (70, _), (71, _), (72, _)]) ⟨r, r, r, (by simp only [List.length_set]; rfl), r, r, r, r, (by simp only [List.length_set]; rfl), r, r, (by simp only [List.length_set]; rfl), r, r, r, r, r, r, trivial⟩ (.nilS [8, 7, 6, 1, 0] r r (.drop (.s (.s .z)) (.exitS [8, 7, 6, 1, 0] r r (.region (.ks 3 r (.nil' fun c w ho hs => ⟨(s2657, (s2661.set s2821.toNat r3091), w64 (s2665 + 1)), hd, I3079, _, _, _, _, le3081, ho.sub ⟨r, r, r, r, r, trivial⟩, hs.pick (.c .z (.c .z .n))⟩))))))))
   refine .skipS [10, 9, 8, 7, 6, 1, 0] r r (.sr (.ks 1 r (.build zv73 un73 BI73 .n (by exact trivial) r r (.buildSlice 1 un26 sz73 zv73 r r (.c r r r .n) r r fun b3104 => ?_))))
   obtain ⟨hl3106, hd⟩ := hd
   refine .append (ys := [({ From := 0, To := 0, W := 0 } : Edge)]) 24 (.s .z) un26 un26 IN73 r r r r r r r r r (.box .z (.one r) r) hl3106 r r fun p3107 c3108 => ?_
   refine .ks 1 r (.nilS [6, 10, 9, 8, 7, 1, 0] r r (.drop (.s .z) (.sr (.ks 1 r (.build zv144 un144 BI144 .n (by exact trivial) r r (.buildSlice 1 un151 sz144 zv144 r r (.c r r r .n) r r fun b3116 => ?_))))))
   obtain ⟨hl3118, hd⟩ := hd
   refine .append (ys := [({ Hi := 0, Lo := 0 } : Wide)]) 16 (.s (.s .z)) un151 un151 IN144 r r r r r r r r r (.box .z (.one r) r) hl3118 r r fun p3119 c3120 => ?_
   refine .ks 1 r (.nilS [7, 6, 10, 9, 8, 1, 0] r r (.drop (.s .z) (.seq (.sr (.ks 1 r (.len un26 r r r r (.ks 2 r (.nilS [11, 7, 6, 10, 9, 8, 1, 0] r r (.block ?_)))))))))
   refine .loop hd (fun (s : (List Edge) × (List Wide) × Int) c w => match s with | (s3281, s3285, s3289) => ∃ I_ p3282 c3283 p3286 c3287, IH.le I3079 I_ ∧ Ok ⟨145, [], none⟩ [(0, .int .i64 a0), (1, .slice p1 a1.length c2), (6, .slice p3282 s3281.length c3283), (7, .slice p3286 s3285.length c3287), (8, .int .i64 s2665), (9, .int .i64 s2821), (10, .pointer (some ⟨b2928, 0, none⟩)), (11, .int .i64 s3289)] c ∧ Sym w0 M I I_ [OwnSl eEdge 73 p3282 c3283 s3281, OwnSl eWide 144 p3286 c3287 s3285, pto b2928 (.cells #[.int .i64 r2924.Hi, .int .u64 r2924.Lo] 144 (0, 0))] w) (fun c w ho hs => ⟨I3079, _, _, _, _, (.refl _), ho.sub ⟨r, r, r, r, r, r, r, r, trivial⟩, hs.pick (.c (.s .z) (.c .z (.c .z .n)))⟩) ?_
   rintro ⟨s3281, s3285, s3289⟩ next3290 hd c w hst
   obtain ⟨I3291, p3282, c3283, p3286, c3287, hl3292, hok, hsym⟩ := hst
   have le3293 := IH.le.trans le3081 hl3292
   have le3294 := IH.le.trans le3082 hl3292
   have le3295 := IH.le.trans hl3080 hl3292
   replace R3 := R3.mono hl3292
   refine Cod.at hok hsym (.seq (.sr (.ks 3 r (.nilS [86, 11, 10, 9, 8, 7, 6, 1, 0] r r (.condP r hd (fun hb3297 hd => ?_) fun hb3297 hd => ?_)))))
   · refine .skipS [11, 10, 9, 8, 7, 6, 1, 0] r r (.seq (.block (.sr (.ks 5 r ?_))))
     obtain ⟨h3298, x3299, hx3300, hd⟩ := hd
     refine .ownNe .z (idx_ne hx3300) fun b3301 e3302 => ?_
     cases e3302
     refine .ixa0 un26 sz73 r r h3298 (idx_lt hx3300 h3298) r r (.loA (j := 0) ia73 sz73 .z hx3300 r r (.t (.t (.t .nil))) r r r ?_)
     obtain ⟨h3303, x3304, hx3305, hd⟩ := hd
     refine .ixa0 un26 sz73 r r h3303 (idx_lt hx3305 h3303) r r (.stOA (j := 0) (v' := x3299) sz73 .z hx3305 r r r (.t (.t (.t .nil))) r r (.sub (E' := [(0, _), (1, _), (6, .slice (some ⟨b3301, 0, none⟩) (s3281.set s3289.toNat x3299).length c3283), (7, _), (8, _), (9, _), (10, _), (11, _), (89, .slice (some ⟨b3301, 0, none⟩) (s3281.set s3289.toNat x3299).length c3283), (90, _), (91, .slice (some ⟨b3301, 0, none⟩) (s3281.set s3289.toNat x3299).length c3283), (92, _), (93, _), (94, _), (95, _), (96, _)]) ⟨r, r, (by simp only [List.length_set]; rfl), r, r, r, r, r, (by simp only [List.length_set]; rfl), r, (by simp only [List.length_set]; rfl), r, r, r, r, r, trivial⟩ (.nilS [11, 10, 9, 8, 7, 6, 1, 0] r r (.region (.ks 5 r ?_)))))
     obtain ⟨h3306, x3307, hx3308, hd⟩ := hd
     refine .ownNe (.s .z) (idx_ne hx3308) fun b3309 e3310 => ?_
     cases e3310
     refine .ixa0 un151 sz144 r r h3306 (idx_lt hx3308 h3306) r r (.loA (j := 0) ia144 sz144 (.s .z) hx3308 r r (.t (.t .nil)) r r r ?_)
     obtain ⟨h3311, x3312, hx3313, hd⟩ := hd
     exact .ixa0 un151 sz144 r r h3311 (idx_lt hx3313 h3311) r r (.stOA (j := 0) (v' := x3307) sz144 (.s .z) hx3313 r r r (.t (.t .nil)) r r (.sub (E' := [(0, _), (1, _), (6, _), (7, .slice (some ⟨b3309, 0, none⟩) (s3285.set s3289.toNat x3307).length c3287), (8, _), (9, _), (10, _), (11, _), (97, .slice (some ⟨b3309, 0, none⟩) (s3285.set s3289.toNat x3307).length c3287), (98, _), (99, .slice (some ⟨b3309, 0, none⟩) (s3285.set s3289.toNat x3307).length c3287), (100, _), (101, _), (102, _), (103, _), (104, _)]) ⟨r, r, r, (by simp only [List.length_set]; rfl), r, r, r, r, (by simp only [List.length_set]; rfl), r, (by simp only [List.length_set]; rfl), r, r, r, r, r, trivial⟩ (.nilS [11, 10, 9, 8, 7, 6, 1, 0] r r (.region (.ks 3 r (.nil' fun c w ho hs => ⟨((s3281.set s3289.toNat x3299), (s3285.set s3289.toNat x3307), w64 (s3289 - 1)), hd, I3291, _, _, _, _, hl3292, ho.sub ⟨r, r, r, r, r, r, r, r, trivial⟩, hs.pick (.c .z (.c .z (.c .z .n)))⟩))))))
   refine .exitS [10, 9, 8, 7, 6, 1, 0] r r (.seq (.ownF .z fun hne3314 => ?_))
   refine .ownF (.s .z) fun hne3315 => ?_
   refine .dr [0, 1, 2, 3, 4, 5, 6, 7, 8, 9, 10, 11, 12] 13 (.fk 4 r ?_)
   obtain ⟨h3316, x3317, hx3318, hd⟩ := hd
   obtain ⟨b3319, o3320, cs3321, e3322, hC3323, hr3324⟩ := R3.2 _ _ hx3318
   cases hr3324
   refine .g r r r (fun _ => .ixa un26 sz73 r e3322 r h3316 (idx_lt hx3318 h3316) r r .mk) (.g r r r (fun _ => .fa un73 r sz3 r (o := o3320 + s2665.toNat * 3) r r r .mk) (.g r r r (fun _ => .ld1 (j := 0) ia3 hC3323 r r r r r .mk) (.fk 2 r ?_)))
   obtain ⟨h3325, x3326, hx3327, hd⟩ := hd
   obtain ⟨b3328, o3329, cs3330, e3331, hC3332, hr3333⟩ := R3.2 _ _ hx3327
   cases hr3333
   refine .g r r r (fun _ => .ixa un26 sz73 r e3331 r h3325 (idx_lt hx3327 h3325) r r .mk) (.g r r r (fun _ => .fa un73 r sz3 r (o := o3329 + s2665.toNat * 3 + 1) r r r .mk) (.g r r r (fun _ => .ld1 (j := 1) ia3 hC3332 r r r r r .mk) (.g r r r (fun _ => .build zv73 un73 BI73 (.c r r r (.t .nil) (.c r r r (.s (.t .nil)) .n)) (by exact ⟨⟨_, _, r, r, r⟩, ⟨⟨_, _, r, r, r⟩, trivial⟩⟩) r r .mk) (.e2 13 ?_))))
   obtain ⟨h3334, x3335, hx3336, hd⟩ := hd
   obtain ⟨b3337, e3338⟩ := hne3314 (idx_ne hx3336)
   cases e3338
   refine .ixa0 un26 sz73 r r h3334 (idx_lt hx3336 h3334) r r (.stOA (j := 0) (v' := ({ From := x3317.From, To := x3326.To, W := 0 } : Edge)) sz73 .z hx3336 r r r (.t (.t (.t .nil))) r r (.sub (E' := [(0, _), (1, _), (6, .slice (some ⟨b3337, 0, none⟩) (s3281.set s2821.toNat ({ From := x3317.From, To := x3326.To, W := 0 } : Edge)).length c3283), (7, _), (8, _), (9, _), (10, _), (105, .slice (some ⟨b3337, 0, none⟩) (s3281.set s2821.toNat ({ From := x3317.From, To := x3326.To, W := 0 } : Edge)).length c3283), (106, _), (107, _), (108, _), (109, _), (110, _), (111, _), (112, _), (113, _), (114, _), (115, _), (116, _), (117, _), (118, _)]) ⟨r, r, (by simp only [List.length_set]; rfl), r, r, r, r, (by simp only [List.length_set]; rfl), r, r, r, r, r, r, r, r, r, r, r, r, r, trivial⟩ (.nilS [10, 9, 8, 7, 6, 1, 0] r r (.region (.ks 2 r (.loadW ia144 sz144 r (.s (.s .z)) r r r ?_))))))
   obtain ⟨h3339, x3340, hx3341, hd⟩ := hd
   obtain ⟨b3342, e3343⟩ := hne3315 (idx_ne hx3341)
   cases e3343
   exact .ixa0 un151 sz144 r r h3339 (idx_lt hx3341 h3339) r r (.stOA (j := 0) (v' := r2924) sz144 (.s .z) hx3341 r r r (.t (.t .nil)) r r (.sub (E' := [(0, _), (1, _), (6, _), (7, .slice (some ⟨b3342, 0, none⟩) (s3285.set s2821.toNat r2924).length c3287), (8, _), (9, _), (10, _), (119, .slice (some ⟨b3342, 0, none⟩) (s3285.set s2821.toNat r2924).length c3287), (120, _), (121, _), (122, _)]) ⟨r, r, r, (by simp only [List.length_set]; rfl), r, r, r, (by simp only [List.length_set]; rfl), r, r, r, trivial⟩ (.nilS [8, 7, 6, 1, 0] r r (.drop (.s (.s .z)) (.region (.ks 3 r (.nil' fun c w ho hs => ⟨((s3281.set s2821.toNat ({ From := x3317.From, To := x3326.To, W := 0 } : Edge)), (s3285.set s2821.toNat r2924), w64 (s2665 + 1)), hd, I3291, _, _, _, _, le3293, ho.sub ⟨r, r, r, r, r, trivial⟩, hs.pick (.c .z (.c .z .n))⟩)))))))
 refine .exitS [7, 6] r r (.seq (.sr (.ks 1 r (.nilS [12, 7, 6] r r (.block (.loop hd (fun (s : (List Edge) × Int) c w => match s with | (s3411, s3415) => ∃ I_ p3412 c3413, IH.le I2669 I_ ∧ Ok ⟨145, [], none⟩ [(6, .slice p3412 s3411.length c3413), (7, .slice p2662 s2661.length c2663), (12, .int .i64 s3415)] c ∧ Sym w0 M I I_ [OwnSl eEdge 73 p3412 c3413 s3411, OwnSl eWide 144 p2662 c2663 s2661] w) (fun c w ho hs => ⟨I2669, _, _, (.refl _), ho.sub ⟨r, r, r, trivial⟩, hs.pick (.c .z (.c .z .n))⟩) ?_))))))
 rintro ⟨s3411, s3415⟩ next3416 hd c w hst
 obtain ⟨I3417, p3412, c3413, hl3418, hok, hsym⟩ := hst
 have le3419 := IH.le.trans hl2670 hl3418
 refine Cod.at hok hsym (.seq (.sr (.ks 2 r (.len un26 r r r r (.ks 1 r (.nilS [126, 12, 7, 6] r r (.condP r hd (fun hb3421 hd => ?_) fun hb3421 hd => ?_)))))))
 · refine .skipS [12, 7, 6] r r (.seq (.block (.sr (.ks 2 r ?_))))
   obtain ⟨h3431, x3432, hx3433, hd⟩ := hd
   refine .ownNe (.s .z) (idx_ne hx3433) fun b3434 e3435 => ?_
   cases e3435
   refine .ixa0 un151 sz144 r r h3431 (idx_lt hx3433 h3431) r r (.loA (j := 0) ia144 sz144 (.s .z) hx3433 r r (.t (.t .nil)) r r r ?_)
   have hw3437 := W_ref01_Narrow (I := I3417) hd
   refine .callP call135 r hw3437 r r fun v3438 hv3439 => ?_
   obtain ⟨r3436, rfl, hd⟩ := hv3439
   refine .ks 5 r (.nilS [14, 13, 12, 7, 6] r r (.seq (.sr (.ks 2 r (.nilS [138, 13, 12, 7, 6] r r (.condP r hd (fun hb3440 hd => ?_) fun hb3440 hd => ?_))))))
   · exact .sr (.ks 2 r (.nilS [5, 4] r r (.drop .z (.drop .z (.own0 eEdge 73 (.ret (oret results116 (.t r (.t r .n)) le3419 (.c .z .n) ⟨(([] : List Edge), 12), _, _, r, r, hd⟩)))))))
   refine .skipS [13, 12, 7, 6] r r (.region (.ks 3 r ?_))
   obtain ⟨h3442, x3443, hx3444, hd⟩ := hd
   refine .ownNe .z (idx_ne hx3444) fun b3445 e3446 => ?_
   cases e3446
   exact .ixa0 un26 sz73 r r h3442 (idx_lt hx3444 h3442) r r (.fa un73 r sz2 r (o := s3415.toNat * 3 + 2) r r r (.stO1 (j := 2) (v' := ({ From := x3443.From, To := x3443.To, W := r3436.1 } : Edge)) sz2 .z hx3444 r r r (.s (.s (.t .nil))) r (.sub (E' := [(6, .slice (some ⟨b3445, 0, none⟩) (s3411.set s3415.toNat ({ From := x3443.From, To := x3443.To, W := r3436.1 } : Edge)).length c3413), (7, _), (12, _), (13, _), (139, .slice (some ⟨b3445, 0, none⟩) (s3411.set s3415.toNat ({ From := x3443.From, To := x3443.To, W := r3436.1 } : Edge)).length c3413), (140, _), (141, _), (142, _), (143, _)]) ⟨(by simp only [List.length_set]; rfl), r, r, r, (by simp only [List.length_set]; rfl), r, r, r, r, trivial⟩ (.nilS [12, 7, 6] r r (.region (.ks 3 r (.nil' fun c w ho hs => ⟨((s3411.set s3415.toNat ({ From := x3443.From, To := x3443.To, W := r3436.1 } : Edge)), w64 (s3415 + 1)), hd, I3417, _, _, hl3418, ho.sub ⟨r, r, r, trivial⟩, hs.pick (.c .z (.c .z .n))⟩)))))))
 exact .exitS [6] r r (.drop (.s .z) (.sr (.ks 3 r (.nilS [5, 4] r r (.ret (oret results116 (.t r (.t r .n)) le3419 (.c .z .n) ⟨(s3411, 0), _, _, r, r, hd⟩))))))

theorem W_ref21_Draw {I : IH} {a0 : Plan} {a1 : Int} {a2 : Int} {p1 : Option Addr} {c2 : Nat} {Q : Int → Prop} (R3 : RepSl eI64 I p1 c2 a0.Draws) (hd : ref21_Draw a0 a1 a2 Q) :
  PFun prog 15 [.agg #[.int .i64 a0.Kind, .int .i64 a0.N, .int .i64 a0.Source, .int .i64 a0.Length, .slice p1 a0.Draws.length c2], .int .i64 a1, .int .i64 a2] I (fun _ => o1_ Q) := by
 refine Fun.enter func15 r ntmps15 r (.c (.c (.c .n))) fun w0 M => ?_
 refine .sr (.boxA r r r fun b6 => ?_)
 refine .ks 1 r (.nilS [3, 2, 1] r r (.seq (.sr (.loadW ia25 sz25 r .z r r r ?_))))
 have hw18 := W_ref21_Right (I := I) R3 hd
 refine .callP call11 r hw18 r r fun v19 hv20 => ?_
 obtain ⟨r17, rfl, hd⟩ := hv20
 refine .ks 2 r ?_
 refine splitP hd (fun hb21 hd => ?_) fun hb21 hd => ?_
 · rw [hb21]
   exact .ks 17 r (.nilS [29, 3, 2, 1] r r (.condKT r r (.sr (.ks 1 r (.nilS [6] r r (.drop .z (.ret (pret results15 (.t r .n) (.refl _) ⟨0, r, hd⟩))))))))
 rw [hb21]
 refine .ks 4 r ?_
 refine splitP hd (fun hb22 hd => ?_) fun hb22 hd => ?_
 · rw [hb22]
   exact .ks 13 r (.nilS [29, 3, 2, 1] r r (.condKT r r (.sr (.ks 1 r (.nilS [6] r r (.drop .z (.ret (pret results15 (.t r .n) (.refl _) ⟨0, r, hd⟩))))))))
 rw [hb22]
 refine .ks 4 r ?_
 refine splitP hd (fun hb23 hd => ?_) fun hb23 hd => ?_
 · rw [hb23]
   exact .ks 9 r (.nilS [29, 3, 2, 1] r r (.condKT r r (.sr (.ks 1 r (.nilS [6] r r (.drop .z (.ret (pret results15 (.t r .n) (.refl _) ⟨0, r, hd⟩))))))))
 rw [hb23]
 refine .ks 4 r ?_
 refine splitP hd (fun hb24 hd => ?_) fun hb24 hd => ?_
 · rw [hb24]
   exact .ks 5 r (.nilS [29, 3, 2, 1] r r (.condKT r r (.sr (.ks 1 r (.nilS [6] r r (.drop .z (.ret (pret results15 (.t r .n) (.refl _) ⟨0, r, hd⟩))))))))
 rw [hb24]
 refine .ks 1 r (.gyes r r r (.fa un25 r sz3 r (o := 1) r r r (.gyes r r r (.load1 ia3 r .z r r r (.ks 2 r (.nilS [29, 3, 2, 1] r r (.condP r hd (fun hb25 hd => ?_) fun hb25 hd => ?_)))))))
 · exact .sr (.ks 1 r (.nilS [6] r r (.drop .z (.ret (pret results15 (.t r .n) (.refl _) ⟨0, r, hd⟩)))))
 refine .skipS [3, 2, 1] r r (.sr (.ks 1 r (.nilS [7, 3, 2, 1] r r (.seq (.sr (.fa un25 r sz23 r (o := 4) r r r (.load1 ia23 r .z r r r (.len un23 r r r r (.ks 1 r ?_)))))))))
 refine .nilS [8, 7, 3, 2, 1] r r (.sr (.ks 2 r (.nilS [34, 8, 7, 3, 2, 1] r r (.condP r hd (fun hb26 hd => ?_) fun hb26 hd => ?_))))
 · refine .dr [0, 1, 2, 3, 4, 5, 6, 7, 8, 9, 10, 11] 12 (.g r r r (fun _ => .fa un25 r sz23 r (o := 4) r r r .mk) (.g r r r (fun _ => .load1 ia23 r .z r r r .mk) (.fk 1 r (.g r r r (fun _ => .fa un25 r sz3 r (o := 1) r r r .mk) (.g r r r (fun _ => .load1 ia3 r .z r r r .mk) (.fk 4 r ?_))))))
   obtain ⟨hz27, hd⟩ := hd
   refine .g r r r (fun _ => .rem r r hz27 r r .mk) ?_
   obtain ⟨h28, x29, hx30, hd⟩ := hd
   obtain ⟨b31, o32, cs33, e34, hC35, hr36⟩ := R3.2 _ _ hx30
   cases hr36
   exact .g r r r (fun _ => .ixa un23 sz2 r e34 r h28 (idx_lt hx30 h28) r r .mk) (.g r r r (fun _ => .ld1 (j := 0) ia2 hC35 r r r r r .mk) (.e2 12 (.ks 1 r (.nilS [7, 2] r r (.drop .z (.sr (.ks 5 r (.nilS [6] r r (.ret (pret results15 (.t r .n) (.refl _) ⟨(w64 ((w64 (x29 * 4096)) + a2)), r, hd⟩))))))))))
 exact .skipS [7, 2] r r (.drop .z (.sr (.ks 5 r (.nilS [6] r r (.ret (pret results15 (.t r .n) (.refl _) ⟨(w64 ((w64 (0 * 4096)) + a2)), r, hd⟩))))))

theorem W_law21_Within {I : IH} {a0 : Int} {a1 : Int} {Q : Int → Prop}  (hd : law21_Within a0 a1 Q) :
  PFun prog 29 [.int .i64 a0, .int .i64 a1] I (fun _ => o1_ Q) := by
 refine Fun.enter func29 r ntmps29 r (.c (.c .n)) fun w0 M => ?_
 refine .sr (.ks 1 r (.nilS [1, 0] r r (.seq (.sr (.ks 3 r ?_)))))
 refine splitP hd (fun hb1 hd => ?_) fun hb1 hd => ?_
 · rw [hb1]
   exact .ks 3 r (.nilS [10, 1, 0] r r (.condKT r r (.sr (.ks 1 r (.nilS [4] r r (.ret (pret results29 (.t r .n) (.refl _) ⟨0, r, hd⟩)))))))
 rw [hb1]
 refine .ks 3 r (.nilS [10, 1, 0] r r (.condP r hd (fun hb2 hd => ?_) fun hb2 hd => ?_))
 · exact .sr (.ks 1 r (.nilS [4] r r (.ret (pret results29 (.t r .n) (.refl _) ⟨0, r, hd⟩))))
 refine .skipS [1, 0] r r (.sr (.ks 2 r ?_))
 obtain ⟨hz3, hd⟩ := hd
 exact .rem r r hz3 r r (.ks 1 r (.nilS [4] r r (.ret (pret results29 (.t r .n) (.refl _) ⟨(a0.tmod a1), r, hd⟩))))

theorem W_law21_Plan {I : IH} {a0 : Plan} {a1 : Int} {p1 : Option Addr} {c2 : Nat} {Q : Plan → Prop} (R3 : RepSl eI64 I p1 c2 a0.Draws) (hd : law21_Plan a0 a1 Q) :
  PFun prog 17 [.agg #[.int .i64 a0.Kind, .int .i64 a0.N, .int .i64 a0.Source, .int .i64 a0.Length, .slice p1 a0.Draws.length c2], .int .i64 a1] I (fun I_ v => ∃ r p4 c5, v = .agg #[.int .i64 r.Kind, .int .i64 r.N, .int .i64 r.Source, .int .i64 r.Length, .slice p4 r.Draws.length c5] ∧ RepSl eI64 I_ p4 c5 r.Draws ∧ Q r) := by
 refine Fun.enter func17 r ntmps17 r (.c (.c .n)) fun w0 M => ?_
 refine .sr (.boxA r r r fun b11 => ?_)
 refine .allocA zeroValue25 r r fun b13 => ?_
 refine .nilS [4, 2, 1] r r (.seq ?_)
 refine Cod.joinQ (σ := Int) hd (fun (s19 : Int) c w => ∃ I_, IH.le I I_ ∧ Ok ⟨58, [], none⟩ [(1, .int .i64 a1), (2, .pointer (some ⟨b11, 0, none⟩)), (4, .pointer (some ⟨b13, 0, none⟩))] c ∧ Sym w0 M I I_ [pto b11 (.cells #[.int .i64 s19, .int .i64 a0.N, .int .i64 a0.Source, .int .i64 a0.Length, .slice p1 a0.Draws.length c2] 25 (0, 0)), pto b13 (.cells #[.int .i64 0, .int .i64 0, .int .i64 0, .int .i64 0, .slice none 0 0] 25 (0, 0))] w) (fun k20 hd => ?_) ?_
 · skip
   refine .sr (.fa un25 r sz22 r (o := 0) r r r (.load1 ia22 r (.s .z) r r r (.ks 2 r ?_)))
   refine splitP hd (fun hb21 hd => ?_) fun hb21 hd => ?_
   · rw [hb21]
     exact .ks 4 r (.nilS [14, 4, 2, 1] r r (.condKT r r (.region (.fa un25 r sz22 r (o := 0) r r r (.store1 sz22 r r (.s .z) (.t .nil) r (.nil' fun c w ho hs => ⟨3, hd, I, (.refl _), ho.sub ⟨r, r, r, trivial⟩, hs.pick (.c (.s .z) (.c .z .n))⟩))))))
   rw [hb21]
   refine .gyes r r r (.fa un25 r sz22 r (o := 0) r r r (.gyes r r r (.load1 ia22 r (.s .z) r r r (.ks 2 r (.nilS [14, 4, 2, 1] r r (.condP r hd (fun hb22 hd => ?_) fun hb22 hd => ?_))))))
   · exact .region (.fa un25 r sz22 r (o := 0) r r r (.store1 sz22 r r (.s .z) (.t .nil) r (.nil' fun c w ho hs => ⟨3, hd, I, (.refl _), ho.sub ⟨r, r, r, trivial⟩, hs.pick (.c (.s .z) (.c .z .n))⟩)))
   exact .skip' fun c w ho hs => ⟨a0.Kind, hd, I, (.refl _), ho.sub ⟨r, r, r, trivial⟩, hs.pick (.c (.s .z) (.c .z .n))⟩
 rintro s19 hd c w hst
 obtain ⟨I23, hl24, hok, hsym⟩ := hst
 replace R3 := R3.mono hl24
 refine Cod.at hok hsym (.sr (.ks 1 r (.fa un25 r sz3 r (o := 1) r r r (.store1 sz3 r r .z (.s (.t .nil)) r (.nilS [4, 2, 1] r r (.sr (.fa un25 r sz3 r (o := 2) r r r (.load1 ia3 r .z r r r (.ks 1 r ?_)))))))))
 have hw30 := W_law21_Within (I := I23) hd
 refine .callP call29 r hw30 r r fun v31 hv32 => ?_
 obtain ⟨r29, rfl, hd⟩ := hv32
 refine .fa un25 r sz3 r (o := 2) r r r (.store1 sz3 r r .z (.s (.s (.t .nil))) r (.nilS [4, 2, 1] r r (.sr (.fa un25 r sz3 r (o := 3) r r r (.load1 ia3 r .z r r r ?_)))))
 have hw38 := W_law21_Within (I := I23) hd
 refine .callP call29 r hw38 r r fun v39 hv40 => ?_
 obtain ⟨r37, rfl, hd⟩ := hv40
 refine .fa un25 r sz3 r (o := 3) r r r (.store1 sz3 r r .z (.s (.s (.s (.t .nil)))) r (.nilS [4, 2, 1] r r (.sr (.ks 1 r (.nilS [5, 4, 2, 1] r r (.seq ?_))))))
 refine Cod.joinQ (σ := (List Int)) hd (fun (s203 : (List Int)) c w => ∃ I_ p204 c205, IH.le I23 I_ ∧ Ok ⟨58, [], none⟩ [(1, .int .i64 a1), (2, .pointer (some ⟨b11, 0, none⟩)), (4, .pointer (some ⟨b13, 0, none⟩)), (5, .slice p204 s203.length c205)] c ∧ Sym w0 M I I_ [pto b11 (.cells #[.int .i64 s19, .int .i64 a1, .int .i64 r29, .int .i64 r37, .slice p1 a0.Draws.length c2] 25 (0, 0)), pto b13 (.cells #[.int .i64 0, .int .i64 0, .int .i64 0, .int .i64 0, .slice none 0 0] 25 (0, 0)), OwnSl eI64 2 p204 c205 s203] w) (fun k207 hd => ?_) ?_
 · skip
   refine .sr (.ks 1 r (.nilS [6, 5, 4, 2, 1] r r (.block (.own0 eI64 2 (.loop hd (fun (s : (List Int) × Int) c w => match s with | (s260, s264) => ∃ I_ p261 c262, IH.le I23 I_ ∧ Ok ⟨58, [], none⟩ [(1, .int .i64 a1), (2, .pointer (some ⟨b11, 0, none⟩)), (4, .pointer (some ⟨b13, 0, none⟩)), (5, .slice p261 s260.length c262), (6, .int .i64 s264)] c ∧ Sym w0 M I I_ [pto b11 (.cells #[.int .i64 s19, .int .i64 a1, .int .i64 r29, .int .i64 r37, .slice p1 a0.Draws.length c2] 25 (0, 0)), pto b13 (.cells #[.int .i64 0, .int .i64 0, .int .i64 0, .int .i64 0, .slice none 0 0] 25 (0, 0)), OwnSl eI64 2 p261 c262 s260] w) (fun c w ho hs => ⟨I23, _, _, (.refl _), ho.sub ⟨r, r, r, r, r, trivial⟩, hs.pick (.c (.s .z) (.c (.s .z) (.c .z .n)))⟩) ?_)))))
   rintro ⟨s260, s264⟩ next266 hd c w hst
   obtain ⟨I267, p261, c262, hl268, hok, hsym⟩ := hst
   have le269 := IH.le.trans hl24 hl268
   replace R3 := R3.mono hl268
   refine Cod.at hok hsym (.seq (.sr (.ks 1 r (.fa un25 r sz23 r (o := 4) r r r (.load1 ia23 r .z r r r (.len un23 r r r r (.ks 2 r ?_)))))))
   refine splitP hd (fun hb272 hd => ?_) fun hb272 hd => ?_
   · rw [hb272]
     refine .ks 3 r (.nilS [35, 6, 5, 4, 2, 1] r r (.condP r hd (fun hb273 hd => ?_) fun hb273 hd => ?_))
     · refine .skipS [6, 5, 4, 2, 1] r r (.seq (.block (.region (.ks 1 r (.fa un25 r sz23 r (o := 4) r r r (.load1 ia23 r .z r r r (.ks 1 r ?_)))))))
       obtain ⟨h274, x275, hx276, hd⟩ := hd
       obtain ⟨b277, o278, cs279, e280, hC281, hr282⟩ := R3.2 _ _ hx276
       cases hr282
       refine .ixa un23 sz2 r e280 r h274 (idx_lt hx276 h274) r r (.ld1 (j := 0) ia2 hC281 r r r r r (.ks 1 r (.buildSlice 1 un23 sz2 zv2 r r (.c r r r .n) r r fun b283 => ?_)))
       obtain ⟨hl285, hd⟩ := hd
       refine .append (ys := [bnd .i64 x275 2147483647]) 8 (.s (.s (.s .z))) un23 un23 IN2 r r r r r r r r r (.box .z (.one r) r) hl285 r r fun p286 c287 => ?_
       exact .ks 1 r (.nilS [5, 6, 4, 2, 1] r r (.drop (.s .z) (.region (.ks 3 r (.nil' fun c w ho hs => ⟨((s260 ++ ([bnd .i64 x275 2147483647])), w64 (s264 + 1)), hd, I267, _, _, hl268, ho.sub ⟨r, r, r, r, r, trivial⟩, hs.pick (.c (.s .z) (.c (.s .z) (.c .z .n)))⟩)))))
     exact .exit fun c w ho hs => ⟨s260, hd, I267, _, _, hl268, ho.sub ⟨r, r, r, r, trivial⟩, hs.pick (.c .z (.c .z (.c .z .n)))⟩
   rw [hb272]
   exact .ks 3 r (.nilS [35, 6, 5, 4, 2, 1] r r (.condKF r r (.exit fun c w ho hs => ⟨s260, hd, I267, _, _, hl268, ho.sub ⟨r, r, r, r, trivial⟩, hs.pick (.c .z (.c .z (.c .z .n)))⟩)))
 rintro s203 hd c w hst
 obtain ⟨I289, p204, c205, hl290, hok, hsym⟩ := hst
 have le291 := IH.le.trans hl24 hl290
 replace R3 := R3.mono hl290
 refine Cod.at hok hsym (.sr (.ks 1 r (.fa un25 r sz23 r (o := 4) r r r (.store1 sz23 r r .z (.s (.s (.s (.s (.t .nil))))) r (.nilS [4, 2, 1] r r (.seq (.sr (.ks 3 r ?_))))))))
 refine splitP hd (fun hb292 hd => ?_) fun hb292 hd => ?_
 · rw [hb292]
   refine .gyes r r r (.fa un25 r sz22 r (o := 0) r r r (.gyes r r r (.load1 ia22 r .z r r r (.ks 2 r (.nilS [55, 4, 2] r r (.condP r hd (fun hb293 hd => ?_) fun hb293 hd => ?_))))))
   · refine .region (.fa un25 r sz22 r (o := 0) r r r (.store1 sz22 r r .z (.t .nil) r (.nilS [4, 2] r r (.sr (.loadW ia25 sz25 r .z r r r (.storeA sz25 r r (.s .z) (.t (.t (.t (.t (.t .nil))))) r r (.nilS [4] r r (.drop .z (.pub (.s .z) fun I294 hl295 R296 => ?_)))))))))
     have le297 := IH.le.trans le291 hl295
     have le298 := IH.le.trans hl290 hl295
     exact .ret (pret results17 (.w ia25 sz25 r .z r .n) le297 ⟨({ Kind := 3, N := a1, Source := r29, Length := r37, Draws := s203 } : Plan), _, _, r, R296, hd⟩)
   refine .skipS [4, 2] r r (.sr (.loadW ia25 sz25 r .z r r r (.storeA sz25 r r (.s .z) (.t (.t (.t (.t (.t .nil))))) r r (.nilS [4] r r (.drop .z (.pub (.s .z) fun I299 hl300 R301 => ?_))))))
   have le302 := IH.le.trans le291 hl300
   have le303 := IH.le.trans hl290 hl300
   exact .ret (pret results17 (.w ia25 sz25 r .z r .n) le302 ⟨({ Kind := s19, N := a1, Source := r29, Length := r37, Draws := s203 } : Plan), _, _, r, R301, hd⟩)
 rw [hb292]
 refine .ks 4 r (.nilS [55, 4, 2] r r (.condKF r r (.skipS [4, 2] r r (.sr (.loadW ia25 sz25 r .z r r r (.storeA sz25 r r (.s .z) (.t (.t (.t (.t (.t .nil))))) r r (.nilS [4] r r (.drop .z (.pub (.s .z) fun I304 hl305 R306 => ?_)))))))))
 have le307 := IH.le.trans le291 hl305
 have le308 := IH.le.trans hl290 hl305
 exact .ret (pret results17 (.w ia25 sz25 r .z r .n) le307 ⟨({ Kind := s19, N := a1, Source := r29, Length := r37, Draws := s203 } : Plan), _, _, r, R306, hd⟩)

theorem W_ref03_Same {I : IH} {a0 : List Int} {a1 : List Int} {p1 : Option Addr} {c2 : Nat} {p4 : Option Addr} {c5 : Nat} {Q : Bool → Prop} (R3 : RepSl eU64 I p1 c2 a0) (R6 : RepSl eU64 I p4 c5 a1) (hd : ref03_Same a0 a1 Q) :
  PFun prog 56 [.slice p1 a0.length c2, .slice p4 a1.length c5] I (fun _ => o0_ Q) := by
 refine Fun.enter func56 r ntmps56 r (.c (.c .n)) fun w0 M => ?_
 refine .sr (.ks 1 r (.nilS [1, 0] r r (.seq (.sr (.ks 1 r (.len un44 r r r r (.ks 1 r (.len un44 r r r r (.ks 1 r ?_)))))))))
 refine .nilS [10, 1, 0] r r (.condP r hd (fun hb8 hd => ?_) fun hb8 hd => ?_)
 · exact .sr (.ks 1 r (.nilS [4] r r (.ret (pret results56 (.t r .n) (.refl _) ⟨false, r, hd⟩))))
 refine .skipS [1, 0] r r (.seq (.sr (.ks 1 r (.nilS [5, 1, 0] r r (.block (.loop hd (fun (s54 : Int) c w => ∃ I_, IH.le I I_ ∧ Ok ⟨26, [], none⟩ [(0, .slice p1 a0.length c2), (1, .slice p4 a1.length c5), (5, .int .i64 s54)] c ∧ Sym w0 M I I_ [] w) (fun c w ho hs => ⟨I, (.refl _), ho.sub ⟨r, r, r, trivial⟩, hs.pick .n⟩) ?_))))))
 rintro s54 next55 hd c w hst
 obtain ⟨I56, hl57, hok, hsym⟩ := hst
 replace R3 := R3.mono hl57
 replace R6 := R6.mono hl57
 refine Cod.at hok hsym (.seq (.sr (.ks 2 r (.len un44 r r r r (.ks 1 r (.nilS [14, 5, 1, 0] r r (.condP r hd (fun hb59 hd => ?_) fun hb59 hd => ?_)))))))
 · refine .skipS [5, 1, 0] r r (.seq (.block (.seq (.dr [0, 1, 2, 3, 4, 5, 6, 7, 8] 9 (.fk 2 r ?_)))))
   obtain ⟨h60, x61, hx62, hd⟩ := hd
   obtain ⟨b63, o64, cs65, e66, hC67, hr68⟩ := R3.2 _ _ hx62
   cases hr68
   refine .g r r r (fun _ => .ixa un44 sz96 r e66 r h60 (idx_lt hx62 h60) r r .mk) (.g r r r (fun _ => .ld1 (j := 0) ia96 hC67 r r r r r .mk) (.fk 2 r ?_))
   obtain ⟨h69, x70, hx71, hd⟩ := hd
   obtain ⟨b72, o73, cs74, e75, hC76, hr77⟩ := R6.2 _ _ hx71
   cases hr77
   refine .g r r r (fun _ => .ixa un44 sz96 r e75 r h69 (idx_lt hx71 h69) r r .mk) (.g r r r (fun _ => .ld1 (j := 0) ia96 hC76 r r r r r .mk) (.fk 1 r (.e2 9 (.nilS [25, 5, 1, 0] r r (.condP r hd (fun hb78 hd => ?_) fun hb78 hd => ?_)))))
   · exact .sr (.ks 1 r (.nilS [4] r r (.ret (pret results56 (.t r .n) hl57 ⟨false, r, hd⟩))))
   exact .skipS [5, 1, 0] r r (.region (.ks 3 r (.nil' fun c w ho hs => ⟨(w64 (s54 + 1)), hd, I56, hl57, ho.sub ⟨r, r, r, trivial⟩, hs.pick .n⟩)))
 exact .exitS [] r r (.sr (.ks 1 r (.nilS [4] r r (.ret (pret results56 (.t r .n) hl57 ⟨true, r, hd⟩)))))

theorem W_ref21_Same {I : IH} {a0 : State} {a1 : State} {p1 : Option Addr} {c2 : Nat} {p4 : Option Addr} {c5 : Nat} {p7 : Option Addr} {c8 : Nat} {p10 : Option Addr} {c11 : Nat} {p13 : Option Addr} {c14 : Nat} {p16 : Option Addr} {c17 : Nat} {Q : Bool → Prop} (R3 : RepSl eI64 I p1 c2 a0.A) (R6 : RepSl eI64 I p4 c5 a0.B) (R9 : RepSl eU64 I p7 c8 a0.On) (R12 : RepSl eI64 I p10 c11 a1.A) (R15 : RepSl eI64 I p13 c14 a1.B) (R18 : RepSl eU64 I p16 c17 a1.On) (hd : ref21_Same a0 a1 Q) :
  PFun prog 19 [.agg #[.int .i64 a0.Low, .int .i64 a0.High, .slice p1 a0.A.length c2, .slice p4 a0.B.length c5, .slice p7 a0.On.length c8], .agg #[.int .i64 a1.Low, .int .i64 a1.High, .slice p10 a1.A.length c11, .slice p13 a1.B.length c14, .slice p16 a1.On.length c17]] I (fun _ => o0_ Q) := by
 refine Fun.enter func19 r ntmps19 r (.c (.c .n)) fun w0 M => ?_
 refine .sr (.boxA r r r fun b23 => ?_)
 refine .boxA r r r fun b25 => ?_
 refine .ks 1 r (.nilS [3, 2] r r (.sr (.fa un46 r sz3 r (o := 0) r r r (.load1 ia3 r (.s .z) r r r (.fa un46 r sz3 r (o := 0) r r r (.load1 ia3 r .z r r r (.ks 2 r ?_)))))))
 refine splitP hd (fun hb27 hd => ?_) fun hb27 hd => ?_
 · rw [hb27]
   refine .gyes r r r (.fa un46 r sz3 r (o := 1) r r r (.gyes r r r (.load1 ia3 r (.s .z) r r r (.gyes r r r (.fa un46 r sz3 r (o := 1) r r r (.gyes r r r (.load1 ia3 r .z r r r (.ks 3 r ?_))))))))
   refine splitP hd (fun hb28 hd => ?_) fun hb28 hd => ?_
   · rw [hb28]
     refine .gyes r r r (.fa un46 r sz23 r (o := 2) r r r (.gyes r r r (.load1 ia23 r (.s .z) r r r (.gyes r r r (.fa un46 r sz23 r (o := 2) r r r (.gyes r r r (.load1 ia23 r .z r r r ?_)))))))
     have hw30 := W_ref07_SameVals (I := I) R3 R12 hd
     refine .gyes r r r (.callP call35 r hw30 r r fun v31 hv32 => ?_)
     obtain ⟨r29, rfl, hd⟩ := hv32
     refine .ks 2 r ?_
     refine splitP hd (fun hb33 hd => ?_) fun hb33 hd => ?_
     · rw [hb33]
       refine .gyes r r r (.fa un46 r sz23 r (o := 3) r r r (.gyes r r r (.load1 ia23 r (.s .z) r r r (.gyes r r r (.fa un46 r sz23 r (o := 3) r r r (.gyes r r r (.load1 ia23 r .z r r r ?_)))))))
       have hw35 := W_ref07_SameVals (I := I) R6 R15 hd
       refine .gyes r r r (.callP call35 r hw35 r r fun v36 hv37 => ?_)
       obtain ⟨r34, rfl, hd⟩ := hv37
       refine .ks 2 r ?_
       refine splitP hd (fun hb38 hd => ?_) fun hb38 hd => ?_
       · rw [hb38]
         refine .gyes r r r (.fa un46 r sz44 r (o := 4) r r r (.gyes r r r (.load1 ia44 r (.s .z) r r r (.gyes r r r (.fa un46 r sz44 r (o := 4) r r r (.gyes r r r (.load1 ia44 r .z r r r ?_)))))))
         have hw40 := W_ref03_Same (I := I) R9 R18 hd
         refine .gyes r r r (.callP call56 r hw40 r r fun v41 hv42 => ?_)
         obtain ⟨r39, rfl, hd⟩ := hv42
         exact .ks 2 r (.nilS [4] r r (.drop .z (.drop .z (.ret (pret results19 (.t r .n) (.refl _) ⟨r39, r, hd⟩)))))
       rw [hb38]
       exact .ks 7 r (.nilS [4] r r (.drop .z (.drop .z (.ret (pret results19 (.t r .n) (.refl _) ⟨false, r, hd⟩)))))
     rw [hb33]
     exact .ks 14 r (.nilS [4] r r (.drop .z (.drop .z (.ret (pret results19 (.t r .n) (.refl _) ⟨false, r, hd⟩)))))
   rw [hb28]
   exact .ks 21 r (.nilS [4] r r (.drop .z (.drop .z (.ret (pret results19 (.t r .n) (.refl _) ⟨false, r, hd⟩)))))
 rw [hb27]
 exact .ks 28 r (.nilS [4] r r (.drop .z (.drop .z (.ret (pret results19 (.t r .n) (.refl _) ⟨false, r, hd⟩)))))

theorem W_ref21_none {I : IH} {Q : State → Prop}  (hd : ref21_none Q) :
  PFun prog 57 [] I (fun I_ v => ∃ r p1 c2 p4 c5 p7 c8, v = .agg #[.int .i64 r.Low, .int .i64 r.High, .slice p1 r.A.length c2, .slice p4 r.B.length c5, .slice p7 r.On.length c8] ∧ RepSl eI64 I_ p1 c2 r.A ∧ RepSl eI64 I_ p4 c5 r.B ∧ RepSl eU64 I_ p7 c8 r.On ∧ Q r) := by
 refine Fun.enter func57 r ntmps57 r .n fun w0 M => ?_
 refine .sr (.allocA zv46 r r fun b10 => ?_)
 exact .nilS [0] r r (.sr (.build zv46 un46 BI46 .n (by exact trivial) r r (.storeA sz46 r r .z (.t (.t (.t (.t (.t .nil))))) r r (.nilS [0] r r (.ret (pret results57 (.w ia46 sz46 r .z r .n) (.refl _) ⟨({ Low := 0, High := 0, A := ([] : List Int), B := ([] : List Int), On := ([] : List Int) } : State), _, _, _, _, _, _, r, (.nil _ _ _), (.nil _ _ _), (.nil _ _ _), hd⟩))))))

theorem W_ref03_words {I : IH} {a0 : Int} {Q : Int → Prop}  (hd : ref03_words a0 Q) :
  PFun prog 118 [.int .i64 a0] I (fun _ => o1_ Q) := by
 refine Fun.enter func118 r ntmps118 r (.c .n) fun w0 M => ?_
 refine .sr (.ks 1 r (.nilS [0] r r (.seq ?_)))
 refine Cod.joinQ (σ := Int) hd (fun (s3 : Int) c w => ∃ I_, IH.le I I_ ∧ Ok ⟨10, [], none⟩ [(0, .int .i64 s3)] c ∧ Sym w0 M I I_ [] w) (fun k4 hd => ?_) ?_
 · skip
   refine .sr (.ks 2 r (.nilS [4, 0] r r (.condP r hd (fun hb5 hd => ?_) fun hb5 hd => ?_)))
   · exact .region (.ks 1 r (.nil' fun c w ho hs => ⟨4096, hd, I, (.refl _), ho.sub ⟨r, trivial⟩, hs.pick .n⟩))
   exact .skip' fun c w ho hs => ⟨a0, hd, I, (.refl _), ho.sub ⟨r, trivial⟩, hs.pick .n⟩
 rintro s3 hd c w hst
 obtain ⟨I6, hl7, hok, hsym⟩ := hst
 refine Cod.at hok hsym (.seq (.sr (.ks 2 r (.nilS [6, 0] r r (.condP r hd (fun hb8 hd => ?_) fun hb8 hd => ?_)))))
 · exact .sr (.ks 1 r (.nilS [2] r r (.ret (pret results118 (.t r .n) hl7 ⟨0, r, hd⟩))))
 exact .skipS [0] r r (.sr (.ks 2 r (.quo r r (by decide) r r (.ks 1 r (.nilS [2] r r (.ret (pret results118 (.t r .n) hl7 ⟨(w64 ((w64 (s3 + 63)).tdiv 64)), r, hd⟩)))))))

theorem W_ref03_New {I : IH} {a0 : Int} {Q : (List Int) → Prop}  (hd : ref03_New a0 Q) :
  PFun prog 95 [.int .i64 a0] I (fun I_ v => ∃ r p1 c2, v = .slice p1 r.length c2 ∧ RepSl eU64 I_ p1 c2 r ∧ Q r) := by
 refine Fun.enter func95 r ntmps95 r (.c .n) fun w0 M => ?_
 refine .sr (.ks 1 r (.nilS [0] r r (.sr (.ks 1 r ?_))))
 have hw5 := W_ref03_words (I := I) hd
 refine .callP call118 r hw5 r r fun v6 hv7 => ?_
 obtain ⟨r4, rfl, hd⟩ := hv7
 obtain ⟨h8, h9, hd⟩ := hd
 refine .make (El := eU64) (zv := 0) 8 un44 IN96 r r r r r r h8 h9 r r r fun b10 => ?_
 refine .ks 1 r (.nilS [2] r r (.pub .z fun I13 hl14 R15 => ?_))
 exact .ret (pret results95 (.t r .n) hl14 ⟨(List.replicate r4.toNat 0), _, _, r, R15, hd⟩)

theorem W_ref03_set {I : IH} {a0 : List Int} {a1 : Int} {a2 : Bool} {p1 : Option Addr} {c2 : Nat} {Q : (List Int) → Prop} (R3 : RepSl eU64 I p1 c2 a0) (hd : ref03_set a0 a1 a2 Q) :
  PFun prog 119 [.slice p1 a0.length c2, .int .i64 a1, .bool a2] I (o11_ Q) := by
 refine Fun.enter func119 r ntmps119 r (.c (.c (.c .n))) fun w0 M => ?_
 refine .sr (.ks 1 r (.nilS [2, 1, 0] r r (.sr (.ks 1 r (.nilS [7, 2, 1, 0] r r (.sr (.ks 2 r (.own0 eU64 96 ?_))))))))
 obtain ⟨hl13, hd⟩ := hd
 refine .append (ys := a0) 8 .z un44 un44 IN96 r r r r r r r r r (.imm R3 r) hl13 r r fun p14 c15 => ?_
 refine .ks 1 r (.nilS [7, 2, 1, 0] r r (.seq (.sr (.ks 3 r ?_))))
 refine splitP hd (fun hb19 hd => ?_) fun hb19 hd => ?_
 · rw [hb19]
   refine .ks 6 r (.nilS [20, 7, 2, 1] r r (.condKT r r (.sr (.ks 2 r (.nilS [6] r r (.pub .z fun I20 hl21 R22 => ?_))))))
   exact .ret (pret results119 (.t r .n) hl21 ⟨(([] : List Int) ++ a0), _, _, r, R22, hd⟩)
 rw [hb19]
 refine .ks 1 r (.gyes r r r (.quo r r (by decide) r r (.ks 1 r (.gyes r r r (.len un44 r r r r (.ks 2 r (.nilS [20, 7, 2, 1] r r (.condP r hd (fun hb23 hd => ?_) fun hb23 hd => ?_))))))))
 · refine .sr (.ks 2 r (.nilS [6] r r (.pub .z fun I24 hl25 R26 => ?_)))
   exact .ret (pret results119 (.t r .n) hl25 ⟨(([] : List Int) ++ a0), _, _, r, R26, hd⟩)
 refine .skipS [7, 2, 1] r r (.sr (.ks 1 r (.rem r r (by decide) r r (.conv un3 underlying118 r r r ?_))))
 obtain ⟨hz28, hd⟩ := hd
 refine .shl' r r hz28 r r (.ks 1 r (.nilS [8, 7, 2, 1] r r (.seq (.sr (.ks 1 r (.nilS [26, 8, 7, 1] r r (.condP r hd (fun hb29 hd => ?_) fun hb29 hd => ?_)))))))
 · refine .region (.ks 2 r (.quo r r (by decide) r r (.ks 2 r (.quo r r (by decide) r r ?_))))
   obtain ⟨h30, x31, hx32, hd⟩ := hd
   refine .ownNe .z (idx_ne hx32) fun b33 e34 => ?_
   cases e34
   refine .ixa0 un44 sz96 r r h30 (idx_lt hx32 h30) r r (.lo1 (j := 0) ia96 .z hx32 r r r r r (.ks 2 r ?_))
   obtain ⟨h35, x36, hx37, hd⟩ := hd
   refine .ixa0 un44 sz96 r r h35 (idx_lt hx37 h35) r r (.stO1 (j := 0) (v' := (bor .u64 x31 (shl .u64 1 (IntKind.wrap .u64 (a1.tmod 64))))) sz96 .z hx37 r r r (.t .nil) r (.sub (E' := [(1, _), (7, .slice (some ⟨b33, 0, none⟩) ((([] : List Int) ++ a0).set ((w64 (a1.tdiv 64)).toNat) (bor .u64 x31 (shl .u64 1 (IntKind.wrap .u64 (a1.tmod 64))))).length c15), (8, _), (26, _), (27, .slice (some ⟨b33, 0, none⟩) ((([] : List Int) ++ a0).set ((w64 (a1.tdiv 64)).toNat) (bor .u64 x31 (shl .u64 1 (IntKind.wrap .u64 (a1.tmod 64))))).length c15), (28, _), (29, _), (30, .slice (some ⟨b33, 0, none⟩) ((([] : List Int) ++ a0).set ((w64 (a1.tdiv 64)).toNat) (bor .u64 x31 (shl .u64 1 (IntKind.wrap .u64 (a1.tmod 64))))).length c15), (31, _), (32, _), (33, _), (34, _), (35, _), (36, _), (37, _)]) ⟨r, (by simp only [List.length_set]; rfl), r, r, (by simp only [List.length_set]; rfl), r, r, (by simp only [List.length_set]; rfl), r, r, r, r, r, r, r, trivial⟩ (.nilS [7] r r (.sr (.ks 2 r (.nilS [6] r r (.pub .z fun I38 hl39 R40 => ?_)))))))
   exact .ret (pret results119 (.t r .n) hl39 ⟨((([] : List Int) ++ a0).set ((w64 (a1.tdiv 64)).toNat) (bor .u64 x31 (shl .u64 1 (IntKind.wrap .u64 (a1.tmod 64))))), _, _, r, R40, hd⟩)
 refine .region (.ks 2 r (.quo r r (by decide) r r (.ks 2 r (.quo r r (by decide) r r ?_))))
 obtain ⟨h41, x42, hx43, hd⟩ := hd
 refine .ownNe .z (idx_ne hx43) fun b44 e45 => ?_
 cases e45
 refine .ixa0 un44 sz96 r r h41 (idx_lt hx43 h41) r r (.lo1 (j := 0) ia96 .z hx43 r r r r r (.ks 2 r ?_))
 obtain ⟨h46, x47, hx48, hd⟩ := hd
 refine .ixa0 un44 sz96 r r h46 (idx_lt hx48 h46) r r (.stO1 (j := 0) (v' := (bandn .u64 x42 (shl .u64 1 (IntKind.wrap .u64 (a1.tmod 64))))) sz96 .z hx48 r r r (.t .nil) r (.sub (E' := [(1, _), (7, .slice (some ⟨b44, 0, none⟩) ((([] : List Int) ++ a0).set ((w64 (a1.tdiv 64)).toNat) (bandn .u64 x42 (shl .u64 1 (IntKind.wrap .u64 (a1.tmod 64))))).length c15), (8, _), (26, _), (38, .slice (some ⟨b44, 0, none⟩) ((([] : List Int) ++ a0).set ((w64 (a1.tdiv 64)).toNat) (bandn .u64 x42 (shl .u64 1 (IntKind.wrap .u64 (a1.tmod 64))))).length c15), (39, _), (40, _), (41, .slice (some ⟨b44, 0, none⟩) ((([] : List Int) ++ a0).set ((w64 (a1.tdiv 64)).toNat) (bandn .u64 x42 (shl .u64 1 (IntKind.wrap .u64 (a1.tmod 64))))).length c15), (42, _), (43, _), (44, _), (45, _), (46, _), (47, _), (48, _)]) ⟨r, (by simp only [List.length_set]; rfl), r, r, (by simp only [List.length_set]; rfl), r, r, (by simp only [List.length_set]; rfl), r, r, r, r, r, r, r, trivial⟩ (.nilS [7] r r (.sr (.ks 2 r (.nilS [6] r r (.pub .z fun I49 hl50 R51 => ?_)))))))
 exact .ret (pret results119 (.t r .n) hl50 ⟨((([] : List Int) ++ a0).set ((w64 (a1.tdiv 64)).toNat) (bandn .u64 x42 (shl .u64 1 (IntKind.wrap .u64 (a1.tmod 64))))), _, _, r, R51, hd⟩)

theorem W_ref03_Put {I : IH} {a0 : List Int} {a1 : Int} {p1 : Option Addr} {c2 : Nat} {Q : (List Int) → Prop} (R3 : RepSl eU64 I p1 c2 a0) (hd : ref03_Put a0 a1 Q) :
  PFun prog 96 [.slice p1 a0.length c2, .int .i64 a1] I (o11_ Q) := by
 refine Fun.enter func96 r ntmps96 r (.c (.c .n)) fun w0 M => ?_
 refine .sr (.ks 1 r (.nilS [1, 0] r r (.sr (.ks 2 r ?_))))
 have hw16 := W_ref03_set (I := I) R3 hd
 refine .call call119 r hw16 r r fun v11 I8 hl9 hv10 => ?_
 obtain ⟨r7, p13, c14, rfl, R15, hd⟩ := hv10
 replace R3 := R3.mono hl9
 exact .ks 1 r (.nilS [4] r r (.ret (pret results96 (.t r .n) hl9 ⟨r7, _, _, r, R15, hd⟩)))

theorem W_ref03_Of {I : IH} {a0 : Int} {a1 : List Int} {p1 : Option Addr} {c2 : Nat} {Q : (List Int) → Prop} (R3 : RepSl eI64 I p1 c2 a1) (hd : ref03_Of a0 a1 Q) :
  PFun prog 58 [.int .i64 a0, .slice p1 a1.length c2] I (o11_ Q) := by
 refine Fun.enter func58 r ntmps58 r (.c (.c .n)) fun w0 M => ?_
 refine .sr (.ks 1 r (.nilS [1, 0] r r (.sr (.ks 1 r ?_))))
 have hw26 := W_ref03_New (I := I) hd
 refine .call call95 r hw26 r r fun v21 I18 hl19 hv20 => ?_
 obtain ⟨r17, p23, c24, rfl, R25, hd⟩ := hv20
 replace R3 := R3.mono hl19
 refine .ks 1 r (.nilS [5, 1, 0] r r (.seq (.sr (.ks 1 r (.nilS [6, 5, 1, 0] r r (.block (.loop hd (fun (s : (List Int) × Int) c w => match s with | (s146, s150) => ∃ I_ p147 c148, IH.le I18 I_ ∧ RepSl eU64 I_ p147 c148 s146 ∧ Ok ⟨42, [], none⟩ [(0, .int .i64 a0), (1, .slice p1 a1.length c2), (5, .slice p147 s146.length c148), (6, .int .i64 s150)] c ∧ Sym w0 M I I_ [] w) (fun c w ho hs => ⟨I18, _, _, (.refl _), R25, ho.sub ⟨r, r, r, r, trivial⟩, hs.pick .n⟩) ?_)))))))
 rintro ⟨s146, s150⟩ next151 hd c w hst
 obtain ⟨I152, p147, c148, hl153, R149, hok, hsym⟩ := hst
 have le154 := IH.le.trans hl19 hl153
 replace R3 := R3.mono hl153
 refine Cod.at hok hsym (.seq (.sr (.ks 2 r (.len un30 r r r r (.ks 1 r (.nilS [12, 6, 5, 1, 0] r r (.condP r hd (fun hb156 hd => ?_) fun hb156 hd => ?_)))))))
 · refine .skipS [6, 5, 1, 0] r r (.seq (.block (.sr (.ks 2 r ?_))))
   obtain ⟨h157, x158, hx159, hd⟩ := hd
   obtain ⟨b160, o161, cs162, e163, hC164, hr165⟩ := R3.2 _ _ hx159
   cases hr165
   refine .ixa un30 sz3 r e163 r h157 (idx_lt hx159 h157) r r (.ld1 (j := 0) ia3 hC164 r r r r r (.ks 2 r ?_))
   refine splitP hd (fun hb166 hd => ?_) fun hb166 hd => ?_
   · rw [hb166]
     refine .ks 2 r ?_
     obtain ⟨h167, x168, hx169, hd⟩ := hd
     obtain ⟨b170, o171, cs172, e173, hC174, hr175⟩ := R3.2 _ _ hx169
     cases hr175
     refine .gyes r r r (.ixa un30 sz3 r e173 r h167 (idx_lt hx169 h167) r r (.gyes r r r (.ld1 (j := 0) ia3 hC174 r r r r r (.ks 4 r ?_))))
     refine splitP hd (fun hb176 hd => ?_) fun hb176 hd => ?_
     · rw [hb176]
       refine .ks 2 r ?_
       obtain ⟨h177, x178, hx179, hd⟩ := hd
       obtain ⟨b180, o181, cs182, e183, hC184, hr185⟩ := R3.2 _ _ hx179
       cases hr185
       refine .gyes r r r (.ixa un30 sz3 r e183 r h177 (idx_lt hx179 h177) r r (.gyes r r r (.ld1 (j := 0) ia3 hC184 r r r r r (.ks 2 r (.nilS [34, 6, 5, 1, 0] r r (.condP r hd (fun hb186 hd => ?_) fun hb186 hd => ?_))))))
       · refine .region (.ks 3 r ?_)
         obtain ⟨h187, x188, hx189, hd⟩ := hd
         obtain ⟨b190, o191, cs192, e193, hC194, hr195⟩ := R3.2 _ _ hx189
         cases hr195
         refine .ixa un30 sz3 r e193 r h187 (idx_lt hx189 h187) r r (.ld1 (j := 0) ia3 hC194 r r r r r ?_)
         have hw205 := W_ref03_Put (I := I152) R149 hd
         refine .call call96 r hw205 r r fun v200 I197 hl198 hv199 => ?_
         obtain ⟨r196, p202, c203, rfl, R204, hd⟩ := hv199
         have le206 := IH.le.trans le154 hl198
         have le207 := IH.le.trans hl153 hl198
         replace R3 := R3.mono hl198
         replace R149 := R149.mono hl198
         replace hC194 := hC194.mono hl198
         exact .ks 1 r (.nilS [5, 6, 1, 0] r r (.region (.ks 3 r (.nil' fun c w ho hs => ⟨(r196, w64 (s150 + 1)), hd, I197, _, _, le207, R204, ho.sub ⟨r, r, r, r, trivial⟩, hs.pick .n⟩))))
       exact .skipS [6, 5, 1, 0] r r (.region (.ks 3 r (.nil' fun c w ho hs => ⟨(s146, w64 (s150 + 1)), hd, I152, _, _, hl153, R149, ho.sub ⟨r, r, r, r, trivial⟩, hs.pick .n⟩)))
     rw [hb176]
     exact .ks 6 r (.nilS [34, 6, 5, 1, 0] r r (.condKF r r (.skipS [6, 5, 1, 0] r r (.region (.ks 3 r (.nil' fun c w ho hs => ⟨(s146, w64 (s150 + 1)), hd, I152, _, _, hl153, R149, ho.sub ⟨r, r, r, r, trivial⟩, hs.pick .n⟩))))))
   rw [hb166]
   exact .ks 14 r (.nilS [34, 6, 5, 1, 0] r r (.condKF r r (.skipS [6, 5, 1, 0] r r (.region (.ks 3 r (.nil' fun c w ho hs => ⟨(s146, w64 (s150 + 1)), hd, I152, _, _, hl153, R149, ho.sub ⟨r, r, r, r, trivial⟩, hs.pick .n⟩))))))
 exact .exitS [5] r r (.sr (.ks 2 r (.nilS [4] r r (.ret (pret results58 (.t r .n) le154 ⟨s146, _, _, r, R149, hd⟩)))))

theorem W_ref21_Begin {I : IH} {a0 : Plan} {a1 : Int} {a2 : Int} {p1 : Option Addr} {c2 : Nat} {Q : State → Prop} (R3 : RepSl eI64 I p1 c2 a0.Draws) (hd : ref21_Begin a0 a1 a2 Q) :
  PFun prog 20 [.agg #[.int .i64 a0.Kind, .int .i64 a0.N, .int .i64 a0.Source, .int .i64 a0.Length, .slice p1 a0.Draws.length c2], .int .i64 a1, .int .i64 a2] I (o16_ Q) := by
 refine Fun.enter func20 r ntmps20 r (.c (.c (.c .n))) fun w0 M => ?_
 refine .sr (.boxA r r r fun b17 => ?_)
 refine .allocA zv46 r r fun b19 => ?_
 refine .nilS [6, 3, 2, 1] r r (.seq (.sr (.loadW ia25 sz25 r (.s .z) r r r ?_)))
 have hw94 := W_ref21_Right (I := I) R3 hd
 refine .callP call11 r hw94 r r fun v95 hv96 => ?_
 obtain ⟨r93, rfl, hd⟩ := hv96
 refine .ks 2 r ?_
 refine splitP hd (fun hb97 hd => ?_) fun hb97 hd => ?_
 · rw [hb97]
   refine .ks 14 r (.nilS [29, 6, 3, 2, 1] r r (.condKT r r (.sr ?_)))
   have hw113 := W_ref21_none (I := I) hd
   refine .call call57 r hw113 r r fun v102 I99 hl100 hv101 => ?_
   obtain ⟨r98, p104, c105, p107, c108, p110, c111, rfl, R106, R109, R112, hd⟩ := hv101
   replace R3 := R3.mono hl100
   exact .storeA sz46 r r .z (.t (.t (.t (.t (.t .nil))))) r r (.nilS [6] r r (.drop (.s .z) (.ret (pret results20 (.w ia46 sz46 r .z r .n) hl100 ⟨r98, _, _, _, _, _, _, r, R106, R109, R112, hd⟩))))
 rw [hb97]
 refine .ks 4 r ?_
 refine splitP hd (fun hb114 hd => ?_) fun hb114 hd => ?_
 · rw [hb114]
   refine .ks 10 r (.nilS [29, 6, 3, 2, 1] r r (.condKT r r (.sr ?_)))
   have hw130 := W_ref21_none (I := I) hd
   refine .call call57 r hw130 r r fun v119 I116 hl117 hv118 => ?_
   obtain ⟨r115, p121, c122, p124, c125, p127, c128, rfl, R123, R126, R129, hd⟩ := hv118
   replace R3 := R3.mono hl117
   exact .storeA sz46 r r .z (.t (.t (.t (.t (.t .nil))))) r r (.nilS [6] r r (.drop (.s .z) (.ret (pret results20 (.w ia46 sz46 r .z r .n) hl117 ⟨r115, _, _, _, _, _, _, r, R123, R126, R129, hd⟩))))
 rw [hb114]
 refine .ks 5 r ?_
 refine splitP hd (fun hb131 hd => ?_) fun hb131 hd => ?_
 · rw [hb131]
   refine .ks 5 r (.nilS [29, 6, 3, 2, 1] r r (.condKT r r (.sr ?_)))
   have hw147 := W_ref21_none (I := I) hd
   refine .call call57 r hw147 r r fun v136 I133 hl134 hv135 => ?_
   obtain ⟨r132, p138, c139, p141, c142, p144, c145, rfl, R140, R143, R146, hd⟩ := hv135
   replace R3 := R3.mono hl134
   exact .storeA sz46 r r .z (.t (.t (.t (.t (.t .nil))))) r r (.nilS [6] r r (.drop (.s .z) (.ret (pret results20 (.w ia46 sz46 r .z r .n) hl134 ⟨r132, _, _, _, _, _, _, r, R140, R143, R146, hd⟩))))
 rw [hb131]
 refine .ks 1 r (.gyes r r r (.fa un25 r sz3 r (o := 1) r r r (.gyes r r r (.load1 ia3 r (.s .z) r r r (.ks 2 r (.nilS [29, 6, 3, 2, 1] r r (.condP r hd (fun hb148 hd => ?_) fun hb148 hd => ?_)))))))
 · refine .sr ?_
   have hw164 := W_ref21_none (I := I) hd
   refine .call call57 r hw164 r r fun v153 I150 hl151 hv152 => ?_
   obtain ⟨r149, p155, c156, p158, c159, p161, c162, rfl, R157, R160, R163, hd⟩ := hv152
   replace R3 := R3.mono hl151
   exact .storeA sz46 r r .z (.t (.t (.t (.t (.t .nil))))) r r (.nilS [6] r r (.drop (.s .z) (.ret (pret results20 (.w ia46 sz46 r .z r .n) hl151 ⟨r149, _, _, _, _, _, _, r, R157, R160, R163, hd⟩))))
 refine .skipS [6, 3, 2, 1] r r (.sr (.ks 2 r (.build zv46 un46 BI46 (.c r r r (.t .nil) (.c r r r (.s (.t .nil)) .n)) (by exact ⟨⟨_, _, r, r, r⟩, ⟨⟨_, _, r, r, r⟩, trivial⟩⟩) r r (.allocA zv46 r r fun b167 => ?_))))
 refine .storeA sz46 r r .z (.t (.t (.t (.t (.t .nil))))) r r (.nilS [7, 6, 3, 2, 1] r r (.sr (.ks 1 r (.nilS [8, 7, 6, 3, 2, 1] r r (.seq (.sr (.ks 2 r (.nilS [9, 8, 7, 6, 3, 2, 1] r r (.block ?_)))))))))
 refine .own0 eI64 2 (.own0 eI64 2 (.own0 eI64 3 (.loop hd (fun (s : (List Int) × (List Int) × (List Int) × Int) c w => match s with | (s1065, s1069, s1073, s1077) => ∃ I_ p1066 c1067 p1070 c1071 p1074 c1075, IH.le I I_ ∧ Ok ⟨100, [], none⟩ [(1, .int .i64 a1), (2, .int .i64 a2), (3, .pointer (some ⟨b17, 0, none⟩)), (6, .pointer (some ⟨b19, 0, none⟩)), (7, .pointer (some ⟨b167, 0, none⟩)), (8, .slice p1074 s1073.length c1075), (9, .int .i64 s1077)] c ∧ Sym w0 M I I_ [pto b17 (.cells #[.int .i64 a0.Kind, .int .i64 a0.N, .int .i64 a0.Source, .int .i64 a0.Length, .slice p1 a0.Draws.length c2] 25 (0, 0)), pto b19 (.cells #[.int .i64 0, .int .i64 0, .slice none 0 0, .slice none 0 0, .slice none 0 0] 46 (0, 0)), pto b167 (.cells #[.int .i64 a1, .int .i64 a2, .slice p1066 s1065.length c1067, .slice p1070 s1069.length c1071, .slice none 0 0] 46 (0, 0)), OwnSl eI64 2 p1066 c1067 s1065, OwnSl eI64 2 p1070 c1071 s1069, OwnSl eI64 3 p1074 c1075 s1073] w) (fun c w ho hs => ⟨I, _, _, _, _, _, _, (.refl _), ho.sub ⟨r, r, r, r, r, r, r, trivial⟩, hs.pick (.c (.s (.s (.s (.s (.s .z))))) (.c (.s (.s (.s (.s .z)))) (.c (.s (.s (.s .z))) (.c (.s (.s .z)) (.c (.s .z) (.c .z .n))))))⟩) ?_)))
 rintro ⟨s1065, s1069, s1073, s1077⟩ next1081 hd c w hst
 obtain ⟨I1082, p1066, c1067, p1070, c1071, p1074, c1075, hl1083, hok, hsym⟩ := hst
 replace R3 := R3.mono hl1083
 refine Cod.at hok hsym (.seq (.sr (.ks 3 r (.nilS [37, 9, 8, 7, 6, 3, 2, 1] r r (.condP r hd (fun hb1085 hd => ?_) fun hb1085 hd => ?_)))))
 · refine .skipS [9, 8, 7, 6, 3, 2, 1] r r (.seq (.block (.sr (.ks 1 r (.nilS [10, 9, 8, 7, 6, 3, 2, 1] r r (.seq ?_))))))
   refine Cod.joinQ (σ := Bool) hd (fun (s1098 : Bool) c w => ∃ I_, IH.le I1082 I_ ∧ Ok ⟨100, [], none⟩ [(1, .int .i64 a1), (2, .int .i64 a2), (3, .pointer (some ⟨b17, 0, none⟩)), (6, .pointer (some ⟨b19, 0, none⟩)), (7, .pointer (some ⟨b167, 0, none⟩)), (8, .slice p1074 s1073.length c1075), (9, .int .i64 s1077), (10, .int .i64 0), (11, .bool s1098)] c ∧ Sym w0 M I I_ [pto b17 (.cells #[.int .i64 a0.Kind, .int .i64 a0.N, .int .i64 a0.Source, .int .i64 a0.Length, .slice p1 a0.Draws.length c2] 25 (0, 0)), pto b19 (.cells #[.int .i64 0, .int .i64 0, .slice none 0 0, .slice none 0 0, .slice none 0 0] 46 (0, 0)), pto b167 (.cells #[.int .i64 a1, .int .i64 a2, .slice p1066 s1065.length c1067, .slice p1070 s1069.length c1071, .slice none 0 0] 46 (0, 0)), OwnSl eI64 2 p1066 c1067 s1065, OwnSl eI64 2 p1070 c1071 s1069, OwnSl eI64 3 p1074 c1075 s1073] w) (fun k1099 hd => ?_) ?_
   · skip
     refine .region (.fa un25 r sz22 r (o := 0) r r r (.load1 ia22 r .z r r r ?_))
     have hw1101 := W_ref21_from (I := I1082) hd
     refine .callP call51 r hw1101 r r fun v1102 hv1103 => ?_
     obtain ⟨r1100, rfl, hd⟩ := hv1103
     refine .ks 1 r ?_
     refine splitP hd (fun hb1104 hd => ?_) fun hb1104 hd => ?_
     · rw [hb1104]
       refine .ks 1 r (.gyes r r r (.fa un25 r sz3 r (o := 2) r r r (.gyes r r r (.load1 ia3 r .z r r r (.ks 3 r ?_)))))
       refine splitP hd (fun hb1105 hd => ?_) fun hb1105 hd => ?_
       · rw [hb1105]
         exact .ks 5 r (.nil' fun c w ho hs => ⟨true, hd, I1082, (.refl _), ho.sub ⟨r, r, r, r, r, r, r, r, r, trivial⟩, hs.pick (.c .z (.c .z (.c .z (.c .z (.c .z (.c .z .n))))))⟩)
       rw [hb1105]
       exact .gyes r r r (.fa un25 r sz22 r (o := 0) r r r (.gyes r r r (.load1 ia22 r .z r r r (.ks 3 r (.nil' fun c w ho hs => ⟨(a0.Kind == 3), hd, I1082, (.refl _), ho.sub ⟨r, r, r, r, r, r, r, r, r, trivial⟩, hs.pick (.c .z (.c .z (.c .z (.c .z (.c .z (.c .z .n))))))⟩)))))
     rw [hb1104]
     exact .ks 6 r (.gyes r r r (.fa un25 r sz22 r (o := 0) r r r (.gyes r r r (.load1 ia22 r .z r r r (.ks 3 r (.nil' fun c w ho hs => ⟨(a0.Kind == 3), hd, I1082, (.refl _), ho.sub ⟨r, r, r, r, r, r, r, r, r, trivial⟩, hs.pick (.c .z (.c .z (.c .z (.c .z (.c .z (.c .z .n))))))⟩))))))
   rintro s1098 hd c w hst
   obtain ⟨I1106, hl1107, hok, hsym⟩ := hst
   have le1108 := IH.le.trans hl1083 hl1107
   replace R3 := R3.mono hl1107
   refine Cod.at hok hsym (.seq ?_)
   refine Cod.joinQ (σ := Int) hd (fun (s1115 : Int) c w => ∃ I_, IH.le I1106 I_ ∧ Ok ⟨100, [], none⟩ [(1, .int .i64 a1), (2, .int .i64 a2), (3, .pointer (some ⟨b17, 0, none⟩)), (6, .pointer (some ⟨b19, 0, none⟩)), (7, .pointer (some ⟨b167, 0, none⟩)), (8, .slice p1074 s1073.length c1075), (9, .int .i64 s1077), (10, .int .i64 s1115), (11, .bool s1098)] c ∧ Sym w0 M I I_ [pto b17 (.cells #[.int .i64 a0.Kind, .int .i64 a0.N, .int .i64 a0.Source, .int .i64 a0.Length, .slice p1 a0.Draws.length c2] 25 (0, 0)), pto b19 (.cells #[.int .i64 0, .int .i64 0, .slice none 0 0, .slice none 0 0, .slice none 0 0] 46 (0, 0)), pto b167 (.cells #[.int .i64 a1, .int .i64 a2, .slice p1066 s1065.length c1067, .slice p1070 s1069.length c1071, .slice none 0 0] 46 (0, 0)), OwnSl eI64 2 p1066 c1067 s1065, OwnSl eI64 2 p1070 c1071 s1069, OwnSl eI64 3 p1074 c1075 s1073] w) (fun k1116 hd => ?_) ?_
   · skip
     refine .sr (.fa un25 r sz22 r (o := 0) r r r (.load1 ia22 r .z r r r (.nilS [55, 11, 10, 9, 8, 7, 6, 3, 2, 1] r r (.block (.sr (.ks 2 r (.nilS [56, 55, 11, 10, 9, 8, 7, 6, 3, 2, 1] r r (.condP r hd (fun hb1117 hd => ?_) fun hb1117 hd => ?_))))))))
     · exact .region (.ks 1 r (.nil' fun c w ho hs => ⟨(-1), hd, I1106, (.refl _), ho.sub ⟨r, r, r, r, r, r, r, r, r, trivial⟩, hs.pick (.c .z (.c .z (.c .z (.c .z (.c .z (.c .z .n))))))⟩))
     refine .sr (.ks 2 r (.nilS [58, 55, 11, 10, 9, 8, 7, 6, 3, 2, 1] r r (.condP r hd (fun hb1118 hd => ?_) fun hb1118 hd => ?_)))
     · exact .region (.ks 1 r (.nil' fun c w ho hs => ⟨4611686018427387904, hd, I1106, (.refl _), ho.sub ⟨r, r, r, r, r, r, r, r, r, trivial⟩, hs.pick (.c .z (.c .z (.c .z (.c .z (.c .z (.c .z .n))))))⟩))
     refine .sr (.ks 2 r (.nilS [60, 11, 10, 9, 8, 7, 6, 3, 2, 1] r r (.condP r hd (fun hb1119 hd => ?_) fun hb1119 hd => ?_)))
     · exact .region (.ks 2 r (.nil' fun c w ho hs => ⟨s1077, hd, I1106, (.refl _), ho.sub ⟨r, r, r, r, r, r, r, r, r, trivial⟩, hs.pick (.c .z (.c .z (.c .z (.c .z (.c .z (.c .z .n))))))⟩))
     exact .skip' fun c w ho hs => ⟨0, hd, I1106, (.refl _), ho.sub ⟨r, r, r, r, r, r, r, r, r, trivial⟩, hs.pick (.c .z (.c .z (.c .z (.c .z (.c .z (.c .z .n))))))⟩
   rintro s1115 hd c w hst
   obtain ⟨I1120, hl1121, hok, hsym⟩ := hst
   have le1122 := IH.le.trans le1108 hl1121
   have le1123 := IH.le.trans hl1107 hl1121
   replace R3 := R3.mono hl1121
   refine Cod.at hok hsym (.seq ?_)
   refine Cod.joinQ (σ := Int) hd (fun (s1172 : Int) c w => ∃ I_, IH.le I1120 I_ ∧ Ok ⟨100, [], none⟩ [(1, .int .i64 a1), (2, .int .i64 a2), (3, .pointer (some ⟨b17, 0, none⟩)), (6, .pointer (some ⟨b19, 0, none⟩)), (7, .pointer (some ⟨b167, 0, none⟩)), (8, .slice p1074 s1073.length c1075), (9, .int .i64 s1077), (10, .int .i64 s1172), (11, .bool s1098)] c ∧ Sym w0 M I I_ [pto b17 (.cells #[.int .i64 a0.Kind, .int .i64 a0.N, .int .i64 a0.Source, .int .i64 a0.Length, .slice p1 a0.Draws.length c2] 25 (0, 0)), pto b19 (.cells #[.int .i64 0, .int .i64 0, .slice none 0 0, .slice none 0 0, .slice none 0 0] 46 (0, 0)), pto b167 (.cells #[.int .i64 a1, .int .i64 a2, .slice p1066 s1065.length c1067, .slice p1070 s1069.length c1071, .slice none 0 0] 46 (0, 0)), OwnSl eI64 2 p1066 c1067 s1065, OwnSl eI64 2 p1070 c1071 s1069, OwnSl eI64 3 p1074 c1075 s1073] w) (fun k1173 hd => ?_) ?_
   · skip
     refine .seq ?_
     refine Cod.joinQ (σ := Bool) hd (fun (s1184 : Bool) c w => ∃ I_, IH.le I1120 I_ ∧ Ok ⟨100, [], none⟩ [(1, .int .i64 a1), (2, .int .i64 a2), (3, .pointer (some ⟨b17, 0, none⟩)), (6, .pointer (some ⟨b19, 0, none⟩)), (7, .pointer (some ⟨b167, 0, none⟩)), (8, .slice p1074 s1073.length c1075), (9, .int .i64 s1077), (10, .int .i64 s1115), (11, .bool s1098), (71, .bool s1184)] c ∧ Sym w0 M I I_ [pto b17 (.cells #[.int .i64 a0.Kind, .int .i64 a0.N, .int .i64 a0.Source, .int .i64 a0.Length, .slice p1 a0.Draws.length c2] 25 (0, 0)), pto b19 (.cells #[.int .i64 0, .int .i64 0, .slice none 0 0, .slice none 0 0, .slice none 0 0] 46 (0, 0)), pto b167 (.cells #[.int .i64 a1, .int .i64 a2, .slice p1066 s1065.length c1067, .slice p1070 s1069.length c1071, .slice none 0 0] 46 (0, 0)), OwnSl eI64 2 p1066 c1067 s1065, OwnSl eI64 2 p1070 c1071 s1069, OwnSl eI64 3 p1074 c1075 s1073] w) (fun k1185 hd => ?_) ?_
     · skip
       refine .region (.fa un25 r sz22 r (o := 0) r r r (.load1 ia22 r .z r r r ?_))
       have hw1187 := W_ref21_from (I := I1120) hd
       refine .callP call51 r hw1187 r r fun v1188 hv1189 => ?_
       obtain ⟨r1186, rfl, hd⟩ := hv1189
       refine .ks 1 r ?_
       refine splitP hd (fun hb1190 hd => ?_) fun hb1190 hd => ?_
       · rw [hb1190]
         exact .ks 1 r (.gyes r r r (.fa un25 r sz3 r (o := 2) r r r (.gyes r r r (.load1 ia3 r .z r r r (.ks 2 r (.nil' fun c w ho hs => ⟨(s1077 == a0.Source), hd, I1120, (.refl _), ho.sub ⟨r, r, r, r, r, r, r, r, r, r, trivial⟩, hs.pick (.c .z (.c .z (.c .z (.c .z (.c .z (.c .z .n))))))⟩))))))
       rw [hb1190]
       exact .ks 5 r (.nil' fun c w ho hs => ⟨false, hd, I1120, (.refl _), ho.sub ⟨r, r, r, r, r, r, r, r, r, r, trivial⟩, hs.pick (.c .z (.c .z (.c .z (.c .z (.c .z (.c .z .n))))))⟩)
     rintro s1184 hd c w hst
     obtain ⟨I1191, hl1192, hok, hsym⟩ := hst
     have le1193 := IH.le.trans le1122 hl1192
     have le1194 := IH.le.trans le1123 hl1192
     have le1195 := IH.le.trans hl1121 hl1192
     replace R3 := R3.mono hl1192
     refine Cod.at hok hsym (.condP r hd (fun hb1196 hd => ?_) fun hb1196 hd => ?_)
     · refine .sr (.ks 1 r (.nilS [10, 11, 9, 8, 7, 6, 3, 2, 1] r r (.sr (.fa un25 r sz22 r (o := 0) r r r (.load1 ia22 r .z r r r (.ks 1 r (.nilS [74, 10, 11, 9, 8, 7, 6, 3, 2, 1] r r (.condP r hd (fun hb1197 hd => ?_) fun hb1197 hd => ?_))))))))
       · exact .region (.ks 1 r (.nil' fun c w ho hs => ⟨1, hd, I1191, hl1192, ho.sub ⟨r, r, r, r, r, r, r, r, r, trivial⟩, hs.pick (.c .z (.c .z (.c .z (.c .z (.c .z (.c .z .n))))))⟩))
       exact .skip' fun c w ho hs => ⟨0, hd, I1191, hl1192, ho.sub ⟨r, r, r, r, r, r, r, r, r, trivial⟩, hs.pick (.c .z (.c .z (.c .z (.c .z (.c .z (.c .z .n))))))⟩
     exact .skip' fun c w ho hs => ⟨s1115, hd, I1191, hl1192, ho.sub ⟨r, r, r, r, r, r, r, r, r, trivial⟩, hs.pick (.c .z (.c .z (.c .z (.c .z (.c .z (.c .z .n))))))⟩
   rintro s1172 hd c w hst
   obtain ⟨I1198, hl1199, hok, hsym⟩ := hst
   have le1200 := IH.le.trans le1122 hl1199
   have le1201 := IH.le.trans le1123 hl1199
   have le1202 := IH.le.trans hl1121 hl1199
   replace R3 := R3.mono hl1199
   refine Cod.at hok hsym (.seq ?_)
   refine Cod.joinQ (σ := (List Int)) hd (fun (s1217 : (List Int)) c w => ∃ I_ p1218 c1219, IH.le I1198 I_ ∧ Ok ⟨100, [], none⟩ [(1, .int .i64 a1), (2, .int .i64 a2), (3, .pointer (some ⟨b17, 0, none⟩)), (6, .pointer (some ⟨b19, 0, none⟩)), (7, .pointer (some ⟨b167, 0, none⟩)), (8, .slice p1218 s1217.length c1219), (9, .int .i64 s1077), (10, .int .i64 s1172)] c ∧ Sym w0 M I I_ [pto b17 (.cells #[.int .i64 a0.Kind, .int .i64 a0.N, .int .i64 a0.Source, .int .i64 a0.Length, .slice p1 a0.Draws.length c2] 25 (0, 0)), pto b19 (.cells #[.int .i64 0, .int .i64 0, .slice none 0 0, .slice none 0 0, .slice none 0 0] 46 (0, 0)), pto b167 (.cells #[.int .i64 a1, .int .i64 a2, .slice p1066 s1065.length c1067, .slice p1070 s1069.length c1071, .slice none 0 0] 46 (0, 0)), OwnSl eI64 2 p1066 c1067 s1065, OwnSl eI64 2 p1070 c1071 s1069, OwnSl eI64 3 p1218 c1219 s1217] w) (fun k1221 hd => ?_) ?_
   · skip
     refine .sr (.ks 1 r (.nilS [75, 10, 9, 8, 7, 6, 3, 2, 1] r r (.condP r hd (fun hb1222 hd => ?_) fun hb1222 hd => ?_)))
     · refine .region (.ks 4 r (.buildSlice 1 un30 sz3 zv3 r r (.c r r r .n) r r fun b1223 => ?_))
       obtain ⟨hl1225, hd⟩ := hd
       refine .append (ys := [w64 (s1077 - a1)]) 8 (.s (.s (.s (.s (.s (.s .z)))))) un30 un30 IN3 r r r r r r r r r (.box .z (.one r) r) hl1225 r r fun p1226 c1227 => ?_
       exact .ks 1 r (.nil' fun c w ho hs => ⟨(s1073 ++ ([w64 (s1077 - a1)])), hd, I1198, _, _, (.refl _), ho.sub ⟨r, r, r, r, r, r, r, r, trivial⟩, hs.pick (.c (.s (.s .z)) (.c (.s (.s .z)) (.c (.s (.s .z)) (.c (.s (.s .z)) (.c (.s (.s .z)) (.c .z .n))))))⟩)
     exact .skip' fun c w ho hs => ⟨s1073, hd, I1198, _, _, (.refl _), ho.sub ⟨r, r, r, r, r, r, r, r, trivial⟩, hs.pick (.c .z (.c .z (.c .z (.c .z (.c .z (.c .z .n))))))⟩
   rintro s1217 hd c w hst
   obtain ⟨I1229, p1218, c1219, hl1230, hok, hsym⟩ := hst
   have le1231 := IH.le.trans le1200 hl1230
   have le1232 := IH.le.trans le1201 hl1230
   have le1233 := IH.le.trans le1202 hl1230
   have le1234 := IH.le.trans hl1199 hl1230
   replace R3 := R3.mono hl1230
   refine Cod.at hok hsym (.sr (.fa un46 r sz23 r (o := 2) r r r (.load1 ia23 r (.s (.s .z)) r r r (.ks 1 r (.buildSlice 1 un23 sz2 zv2 r r (.c r r r .n) r r fun b1235 => ?_)))))
   obtain ⟨hl1237, hd⟩ := hd
   refine .append (ys := [s1172]) 8 (.s (.s (.s (.s .z)))) un23 un23 IN2 r r r r r r r r r (.box .z (.one r) r) hl1237 r r fun p1238 c1239 => ?_
   refine .fa un46 r sz23 r (o := 2) r r r (.store1 sz23 r r (.s (.s (.s (.s .z)))) (.s (.s (.t .nil))) r (.nilS [9, 8, 7, 6, 3, 2, 1] r r (.drop (.s .z) (.region (.fa un46 r sz23 r (o := 3) r r r (.load1 ia23 r (.s (.s (.s .z))) r r r (.buildSlice 1 un23 sz2 zv2 r r (.c r r r .n) r r fun b1241 => ?_)))))))
   obtain ⟨hl1243, hd⟩ := hd
   refine .append (ys := [(-1)]) 8 (.s (.s (.s (.s (.s .z))))) un23 un23 IN2 r r r r r r r r r (.box .z (.one r) r) hl1243 r r fun p1244 c1245 => ?_
   exact .fa un46 r sz23 r (o := 3) r r r (.store1 sz23 r r (.s (.s (.s (.s (.s .z))))) (.s (.s (.s (.t .nil)))) r (.nilS [9, 8, 7, 6, 3, 2, 1] r r (.drop (.s .z) (.region (.ks 3 r (.nil' fun c w ho hs => ⟨((s1065 ++ ([s1172])), (s1069 ++ ([(-1)])), s1217, w64 (s1077 + 1)), hd, I1229, _, _, _, _, _, _, le1231, ho.sub ⟨r, r, r, r, r, r, r, trivial⟩, hs.pick (.c (.s (.s .z)) (.c (.s (.s .z)) (.c (.s (.s .z)) (.c (.s .z) (.c .z (.c .z .n))))))⟩))))))
 refine .exitS [8, 7, 6, 2, 1] r r (.drop .z (.sr (.ks 4 r (.pub (.s (.s (.s (.s .z)))) fun I1247 hl1248 R1249 => ?_))))
 have le1250 := IH.le.trans hl1083 hl1248
 have hw1260 := W_ref03_Of (I := I1247) R1249 hd
 refine .call call58 r hw1260 r r fun v1255 I1252 hl1253 hv1254 => ?_
 obtain ⟨r1251, p1257, c1258, rfl, R1259, hd⟩ := hv1254
 have le1261 := IH.le.trans le1250 hl1253
 replace R1249 := R1249.mono hl1253
 refine .fa un46 r sz44 r (o := 4) r r r (.store1 sz44 r r (.s .z) (.s (.s (.s (.s (.t .nil))))) r (.nilS [7, 6] r r (.sr (.loadW ia46 sz46 r (.s .z) r r r (.storeA sz46 r r .z (.t (.t (.t (.t (.t .nil))))) r r (.nilS [6] r r (.drop (.s .z) (.pub (.s .z) fun I1262 hl1263 R1264 => ?_))))))))
 have le1265 := IH.le.trans le1261 hl1263
 replace R1259 := R1259.mono hl1263
 refine .pub (.s .z) fun I1266 hl1267 R1268 => ?_
 have le1269 := IH.le.trans le1265 hl1267
 replace R1259 := R1259.mono hl1267
 replace R1264 := R1264.mono hl1267
 exact .ret (pret results20 (.w ia46 sz46 r .z r .n) le1269 ⟨({ Low := a1, High := a2, A := s1065, B := s1069, On := r1251 } : State), _, _, _, _, _, _, r, R1264, R1268, R1259, hd⟩)

theorem W_ref09_Of {I : IH} {a0 : Int} {a1 : Int} {a2 : List Item} {p1 : Option Addr} {c2 : Nat} {Q : (Vec × Int) → Prop} (R3 : RepSl eItem I p1 c2 a2) (hd : ref09_Of a0 a1 a2 Q) :
  PFun prog 97 [.int .i64 a0, .int .i64 a1, .slice p1 a2.length c2] I (o17_ Q) := by
 refine Fun.enter func97 r ntmps97 r (.c (.c (.c .n))) fun w0 M => ?_
 refine .sr (.allocA zv51 r r fun b9 => ?_)
 refine .ks 1 r (.nilS [6, 2, 1, 0] r r (.seq (.sr (.ks 1 r ?_))))
 have hw17 := W_ref02_Is (I := I) hd
 refine .callP call120 r hw17 r r fun v18 hv19 => ?_
 obtain ⟨r16, rfl, hd⟩ := hv19
 refine .ks 1 r (.nilS [15, 6, 2, 1, 0] r r (.condP r hd (fun hb20 hd => ?_) fun hb20 hd => ?_))
 · exact .sr (.build zv51 un51 BI51 .n (by exact trivial) r r (.storeA sz51 r r .z (.t (.t .nil)) r r (.ks 1 r (.nilS [7, 6] r r (.ret (pret results97 (.w ia51 sz51 r .z r (.t r .n)) (.refl _) ⟨(({ N := 0, Items := ([] : List Item) } : Vec), 8), _, _, r, (.nil _ _ _), hd⟩))))))
 refine .skipS [6, 2, 1, 0] r r (.seq (.sr (.ks 3 r ?_)))
 refine splitP hd (fun hb23 hd => ?_) fun hb23 hd => ?_
 · rw [hb23]
   exact .ks 3 r (.nilS [22, 6, 2, 1, 0] r r (.condKT r r (.sr (.build zv51 un51 BI51 .n (by exact trivial) r r (.storeA sz51 r r .z (.t (.t .nil)) r r (.ks 1 r (.nilS [7, 6] r r (.ret (pret results97 (.w ia51 sz51 r .z r (.t r .n)) (.refl _) ⟨(({ N := 0, Items := ([] : List Item) } : Vec), 3), _, _, r, (.nil _ _ _), hd⟩)))))))))
 rw [hb23]
 refine .ks 3 r (.nilS [22, 6, 2, 1, 0] r r (.condP r hd (fun hb24 hd => ?_) fun hb24 hd => ?_))
 · exact .sr (.build zv51 un51 BI51 .n (by exact trivial) r r (.storeA sz51 r r .z (.t (.t .nil)) r r (.ks 1 r (.nilS [7, 6] r r (.ret (pret results97 (.w ia51 sz51 r .z r (.t r .n)) (.refl _) ⟨(({ N := 0, Items := ([] : List Item) } : Vec), 3), _, _, r, (.nil _ _ _), hd⟩))))))
 refine .skipS [6, 2, 1, 0] r r (.sr (.ks 1 r (.nilS [8, 6, 2, 1, 0] r r (.seq (.sr (.ks 1 r (.nilS [9, 8, 6, 2, 1, 0] r r (.block (.own0 eEdge 73 ?_)))))))))
 refine .loop hd (fun (s : (List Edge) × Int) c w => match s with | (s399, s403) => ∃ I_ p400 c401, IH.le I I_ ∧ Ok ⟨95, [], none⟩ [(0, .int .i64 a0), (1, .int .i64 a1), (2, .slice p1 a2.length c2), (6, .pointer (some ⟨b9, 0, none⟩)), (8, .slice p400 s399.length c401), (9, .int .i64 s403)] c ∧ Sym w0 M I I_ [pto b9 (.cells #[.int .i64 0, .slice none 0 0] 51 (0, 0)), OwnSl eEdge 73 p400 c401 s399] w) (fun c w ho hs => ⟨I, _, _, (.refl _), ho.sub ⟨r, r, r, r, r, r, trivial⟩, hs.pick (.c (.s .z) (.c .z .n))⟩) ?_
 rintro ⟨s399, s403⟩ next405 hd c w hst
 obtain ⟨I406, p400, c401, hl407, hok, hsym⟩ := hst
 replace R3 := R3.mono hl407
 refine Cod.at hok hsym (.seq (.sr (.ks 2 r (.len un49 r r r r (.ks 1 r (.nilS [27, 9, 8, 6, 2, 1, 0] r r (.condP r hd (fun hb409 hd => ?_) fun hb409 hd => ?_)))))))
 · refine .skipS [9, 8, 6, 2, 1, 0] r r (.seq (.block (.seq (.sr (.ks 2 r ?_)))))
   obtain ⟨h430, x431, hx432, hd⟩ := hd
   obtain ⟨b433, o434, cs435, e436, hC437, hr438⟩ := R3.2 _ _ hx432
   cases hr438
   refine .ixa un49 sz71 r e436 r h430 (idx_lt hx432 h430) r r (.fa un71 r sz3 r (o := o434 + s403.toNat * 2) r r r (.ld1 (j := 0) ia3 hC437 r r r r r (.ks 2 r ?_)))
   refine splitP hd (fun hb439 hd => ?_) fun hb439 hd => ?_
   · rw [hb439]
     exact .ks 8 r (.nilS [44, 9, 8, 6, 2, 1, 0] r r (.condKT r r (.sr (.build zv51 un51 BI51 .n (by exact trivial) r r (.storeA sz51 r r .z (.t (.t .nil)) r r (.ks 1 r (.nilS [7, 6] r r (.drop (.s .z) (.ret (pret results97 (.w ia51 sz51 r .z r (.t r .n)) hl407 ⟨(({ N := 0, Items := ([] : List Item) } : Vec), 3), _, _, r, (.nil _ _ _), hd⟩))))))))))
   rw [hb439]
   refine .ks 2 r ?_
   obtain ⟨h440, x441, hx442, hd⟩ := hd
   obtain ⟨b443, o444, cs445, e446, hC447, hr448⟩ := R3.2 _ _ hx442
   cases hr448
   refine .gyes r r r (.ixa un49 sz71 r e446 r h440 (idx_lt hx442 h440) r r (.gyes r r r (.fa un71 r sz3 r (o := o444 + s403.toNat * 2) r r r (.gyes r r r (.ld1 (j := 0) ia3 hC447 r r r r r (.ks 3 r (.nilS [44, 9, 8, 6, 2, 1, 0] r r (.condP r hd (fun hb449 hd => ?_) fun hb449 hd => ?_))))))))
   · exact .sr (.build zv51 un51 BI51 .n (by exact trivial) r r (.storeA sz51 r r .z (.t (.t .nil)) r r (.ks 1 r (.nilS [7, 6] r r (.drop (.s .z) (.ret (pret results97 (.w ia51 sz51 r .z r (.t r .n)) hl407 ⟨(({ N := 0, Items := ([] : List Item) } : Vec), 3), _, _, r, (.nil _ _ _), hd⟩)))))))
   refine .skipS [9, 8, 6, 2, 1, 0] r r (.ownF (.s .z) fun hne450 => ?_)
   refine .dr [0, 1, 2, 3, 4, 5, 6, 7, 8, 9, 10, 11, 12, 13] 14 (.fk 3 r ?_)
   obtain ⟨h451, x452, hx453, hd⟩ := hd
   obtain ⟨b454, o455, cs456, e457, hC458, hr459⟩ := R3.2 _ _ hx453
   cases hr459
   refine .g r r r (fun _ => .ixa un49 sz71 r e457 r h451 (idx_lt hx453 h451) r r .mk) (.g r r r (fun _ => .fa un71 r sz3 r (o := o455 + s403.toNat * 2) r r r .mk) (.g r r r (fun _ => .ld1 (j := 0) ia3 hC458 r r r r r .mk) (.fk 2 r ?_)))
   obtain ⟨h460, x461, hx462, hd⟩ := hd
   obtain ⟨b463, o464, cs465, e466, hC467, hr468⟩ := R3.2 _ _ hx462
   cases hr468
   refine .g r r r (fun _ => .ixa un49 sz71 r e466 r h460 (idx_lt hx462 h460) r r .mk) (.g r r r (fun _ => .fa un71 r sz2 r (o := o464 + s403.toNat * 2 + 1) r r r .mk) (.g r r r (fun _ => .ld1 (j := 1) ia2 hC467 r r r r r .mk) (.g r r r (fun _ => .build zv73 un73 BI73 (.c r r r (.s (.t .nil)) (.c r r r (.s (.s (.t .nil))) .n)) (by exact ⟨⟨_, _, r, r, r⟩, ⟨⟨_, _, r, r, r⟩, trivial⟩⟩) r r .mk) (.ww r fun ex => ?_))))
   refine .buildSlice 1 un26 sz73 zv73 r r (.c r r r .n) r r fun b469 => ?_
   refine .so 3 r r r (.ck 1 r r trivial) (.ww r fun ex => ?_)
   obtain ⟨hl471, hd⟩ := hd
   refine .append (ys := [({ From := 0, To := x452.At, W := x461.Val } : Edge)]) 24 (.s (.s .z)) un26 un26 IN73 r r r r r r r r r (.box .z (.one r) r) hl471 r r fun p472 c473 => ?_
   exact .so 3 r r r trivial (.e2 14 (.ks 1 r (.nilS [8, 9, 6, 2, 1, 0] r r (.drop (.s .z) (.region (.ks 3 r (.nil' fun c w ho hs => ⟨((s399 ++ ([({ From := 0, To := x452.At, W := x461.Val } : Edge)])), w64 (s403 + 1)), hd, I406, _, _, hl407, ho.sub ⟨r, r, r, r, r, r, trivial⟩, hs.pick (.c (.s .z) (.c .z .n))⟩)))))))
 refine .exitS [8, 6, 1, 0] r r (.sr (.ks 2 r (.pub (.s .z) fun I491 hl492 R493 => ?_)))
 have le494 := IH.le.trans hl407 hl492
 have hw505 := W_ref05_Combine (I := I491) R493 hd
 refine .callO call116 r hw505 r r fun v499 I496 l500 hl497 hv498 => ?_
 obtain ⟨r495, p501, c502, rfl, rfl, hd⟩ := hv498
 have le506 := IH.le.trans le494 hl497
 replace R493 := R493.mono hl497
 refine .ks 5 r (.nilS [10, 8, 6, 1] r r (.seq (.sr (.ks 2 r (.nilS [67, 10, 8, 6, 1] r r (.condP r hd (fun hb508 hd => ?_) fun hb508 hd => ?_))))))
 · exact .sr (.build zv51 un51 BI51 .n (by exact trivial) r r (.ks 1 r (.storeA sz51 r r (.s .z) (.t (.t .nil)) r r (.ks 1 r (.nilS [7, 6] r r (.drop .z (.ret (pret results97 (.w ia51 sz51 r .z r (.t r .n)) le506 ⟨(({ N := 0, Items := ([] : List Item) } : Vec), r495.2), _, _, r, (.nil _ _ _), hd⟩))))))))
 refine .skipS [8, 6, 1] r r (.sr (.ks 1 r (.build zv51 un51 BI51 (.c r r r (.t .nil) .n) (by exact ⟨⟨_, _, r, r, r⟩, trivial⟩) r r (.allocA zv51 r r fun b511 => ?_))))
 refine .storeA sz51 r r .z (.t (.t .nil)) r r (.nilS [11, 8, 6] r r (.seq (.sr (.ks 1 r (.nilS [12, 11, 8, 6] r r (.block (.own0 eItem 71 (.loop hd (fun (s : (List Item) × Int) c w => match s with | (s564, s568) => ∃ I_ p565 c566, IH.le I496 I_ ∧ Ok ⟨95, [], none⟩ [(6, .pointer (some ⟨b9, 0, none⟩)), (8, .slice p501 r495.1.length c502), (11, .pointer (some ⟨b511, 0, none⟩)), (12, .int .i64 s568)] c ∧ Sym w0 M I I_ [pto b9 (.cells #[.int .i64 0, .slice none 0 0] 51 (0, 0)), OwnSl eEdge 73 p501 c502 r495.1, pto b511 (.cells #[.int .i64 a1, .slice p565 s564.length c566] 51 (0, 0)), OwnSl eItem 71 p565 c566 s564] w) (fun c w ho hs => ⟨I496, _, _, (.refl _), ho.sub ⟨r, r, r, r, trivial⟩, hs.pick (.c (.s (.s (.s .z))) (.c (.s (.s .z)) (.c (.s .z) (.c .z .n))))⟩) ?_))))))))
 rintro ⟨s564, s568⟩ next570 hd c w hst
 obtain ⟨I571, p565, c566, hl572, hok, hsym⟩ := hst
 have le573 := IH.le.trans le506 hl572
 refine Cod.at hok hsym (.seq (.sr (.ks 2 r (.len un26 r r r r (.ks 1 r (.nilS [75, 12, 11, 8, 6] r r (.condP r hd (fun hb575 hd => ?_) fun hb575 hd => ?_)))))))
 · refine .skipS [12, 11, 8, 6] r r (.seq (.block (.ownF (.s .z) fun hne576 => ?_)))
   refine .ownF (.s (.s (.s .z))) fun hne577 => ?_
   refine .dr [0, 1, 2, 3, 4, 5, 6, 7, 8, 9, 10, 11, 12, 13, 14] 15 (.g r r r (fun _ => .fa un51 r sz49 r (o := 1) r r r .mk) (.g r r r (fun _ => .load1 ia49 r (.s (.s .z)) r r r .mk) (.fk 2 r ?_)))
   obtain ⟨h578, x579, hx580, hd⟩ := hd
   obtain ⟨b581, e582⟩ := hne576 (idx_ne hx580)
   cases e582
   refine .g r r r (fun _ => .ixa0 un26 sz73 r r h578 (idx_lt hx580 h578) r r .mk) (.g r r r (fun _ => .fa un73 r sz3 r (o := s568.toNat * 3 + 1) r r r .mk) (.g r r r (fun _ => .lo1 (j := 1) ia3 (.s .z) hx580 r r r r r .mk) (.fk 2 r ?_)))
   obtain ⟨h583, x584, hx585, hd⟩ := hd
   refine .g r r r (fun _ => .ixa0 un26 sz73 r r h583 (idx_lt hx585 h583) r r .mk) (.g r r r (fun _ => .fa un73 r sz2 r (o := s568.toNat * 3 + 2) r r r .mk) (.g r r r (fun _ => .lo1 (j := 2) ia2 (.s .z) hx585 r r r r r .mk) (.g r r r (fun _ => .build zv71 un71 BI71 (.c r r r (.t .nil) (.c r r r (.s (.t .nil)) .n)) (by exact ⟨⟨_, _, r, r, r⟩, ⟨⟨_, _, r, r, r⟩, trivial⟩⟩) r r .mk) (.ww r fun ex => ?_))))
   refine .buildSlice 1 un49 sz71 zv71 r r (.c r r r .n) r r fun b586 => ?_
   refine .so 5 r r r (.cg r r r r (fun _ => .load1 ia49 r (.s (.s (.s .z))) r r r .mk) (.cg r r r r (fun _ => .fa un51 r sz49 r (o := 1) r r r .mk) trivial)) (.ww r fun ex => ?_)
   obtain ⟨hl588, hd⟩ := hd
   refine .append (ys := [({ At := x579.To, Val := x584.W } : Item)]) 16 (.s (.s (.s (.s .z)))) un49 un49 IN71 r r r r r r r r r (.box .z (.one r) r) hl588 r r fun p589 c590 => ?_
   exact .so 5 r r r trivial (.e2 15 (.fa un51 r sz49 r (o := 1) r r r (.store1 sz49 r r (.s (.s (.s (.s .z)))) (.s (.t .nil)) r (.nilS [12, 11, 8, 6] r r (.drop (.s .z) (.region (.ks 3 r (.nil' fun c w ho hs => ⟨((s564 ++ ([({ At := x579.To, Val := x584.W } : Item)])), w64 (s568 + 1)), hd, I571, _, _, hl572, ho.sub ⟨r, r, r, r, trivial⟩, hs.pick (.c (.s .z) (.c (.s .z) (.c (.s .z) (.c .z .n))))⟩))))))))
 refine .exitS [11, 6] r r (.drop (.s .z) (.sr (.loadW ia51 sz51 r (.s .z) r r r (.storeA sz51 r r .z (.t (.t .nil)) r r (.ks 1 r (.nilS [7, 6] r r (.drop (.s .z) (.pub (.s .z) fun I592 hl593 R594 => ?_))))))))
 have le595 := IH.le.trans le573 hl593
 have le596 := IH.le.trans hl572 hl593
 exact .ret (pret results97 (.w ia51 sz51 r .z r (.t r .n)) le595 ⟨(({ N := a1, Items := s564 } : Vec), 0), _, _, r, R594, hd⟩)

theorem W_law09_Some {I : IH} {a0 : Int} {a1 : List Item} {p1 : Option Addr} {c2 : Nat} {Q : Vec → Prop} (R3 : RepSl eItem I p1 c2 a1) (hd : law09_Some a0 a1 Q) :
  PFun prog 59 [.int .u8 a0, .slice p1 a1.length c2] I (o18_ Q) := by
 refine Fun.enter func59 r ntmps59 r (.c (.c .n)) fun w0 M => ?_
 refine .sr (.allocA zv51 r r fun b9 => ?_)
 refine .nilS [4, 1, 0] r r (.sr (.ks 1 r (.conv un5 un3 r r r (.rem r r (by decide) r r (.ks 1 r (.nilS [5, 4, 1] r r (.sr (.ks 1 r (.nilS [6, 5, 4, 1] r r ?_)))))))))
 refine .seq ?_
 refine Cod.joinQ (σ := (List Item)) hd (fun (s361 : (List Item)) c w => ∃ I_ p362 c363, IH.le I I_ ∧ Ok ⟨56, [], none⟩ [(4, .pointer (some ⟨b9, 0, none⟩)), (5, .int .i64 ((w64 (a0)).tmod 60)), (6, .slice p362 s361.length c363)] c ∧ Sym w0 M I I_ [pto b9 (.cells #[.int .i64 0, .slice none 0 0] 51 (0, 0)), OwnSl eItem 71 p362 c363 s361] w) (fun k365 hd => ?_) ?_
 · skip
   refine .sr (.ks 1 r (.nilS [7, 6, 5, 4, 1] r r (.block (.own0 eItem 71 (.loop hd (fun (s : (List Item) × Int) c w => match s with | (s481, s485) => ∃ I_ p482 c483, IH.le I I_ ∧ Ok ⟨56, [], none⟩ [(1, .slice p1 a1.length c2), (4, .pointer (some ⟨b9, 0, none⟩)), (5, .int .i64 ((w64 (a0)).tmod 60)), (6, .slice p482 s481.length c483), (7, .int .i64 s485)] c ∧ Sym w0 M I I_ [pto b9 (.cells #[.int .i64 0, .slice none 0 0] 51 (0, 0)), OwnSl eItem 71 p482 c483 s481] w) (fun c w ho hs => ⟨I, _, _, (.refl _), ho.sub ⟨r, r, r, r, r, trivial⟩, hs.pick (.c (.s .z) (.c .z .n))⟩) ?_)))))
   rintro ⟨s481, s485⟩ next487 hd c w hst
   obtain ⟨I488, p482, c483, hl489, hok, hsym⟩ := hst
   replace R3 := R3.mono hl489
   refine Cod.at hok hsym (.seq (.sr (.ks 2 r (.len un49 r r r r (.ks 2 r ?_)))))
   refine splitP hd (fun hb493 hd => ?_) fun hb493 hd => ?_
   · rw [hb493]
     refine .ks 4 r ?_
     refine splitP hd (fun hb494 hd => ?_) fun hb494 hd => ?_
     · rw [hb494]
       refine .ks 3 r (.nilS [24, 7, 6, 5, 4, 1] r r (.condP r hd (fun hb495 hd => ?_) fun hb495 hd => ?_))
       · refine .skipS [7, 6, 5, 4, 1] r r (.seq (.block (.sr (.ks 2 r ?_))))
         obtain ⟨h505, x506, hx507, hd⟩ := hd
         obtain ⟨b508, o509, cs510, e511, hC512, hr513⟩ := R3.2 _ _ hx507
         cases hr513
         refine .ixa un49 sz71 r e511 r h505 (idx_lt hx507 h505) r r (.fa un71 r sz3 r (o := o509 + s485.toNat * 2) r r r (.ld1 (j := 0) ia3 hC512 r r r r r (.ks 1 r (.nilS [32, 7, 6, 5, 4, 1] r r (.condP r hd (fun hb514 hd => ?_) fun hb514 hd => ?_)))))
         · refine .ownF (.s .z) fun hne515 => ?_
           refine .dr [0, 1, 2, 3, 4, 5, 6, 7, 8, 9, 10, 11, 12, 13, 14, 15] 16 (.fk 3 r ?_)
           obtain ⟨h516, x517, hx518, hd⟩ := hd
           obtain ⟨b519, o520, cs521, e522, hC523, hr524⟩ := R3.2 _ _ hx518
           cases hr524
           refine .g r r r (fun _ => .ixa un49 sz71 r e522 r h516 (idx_lt hx518 h516) r r .mk) (.g r r r (fun _ => .fa un71 r sz3 r (o := o520 + s485.toNat * 2) r r r .mk) (.g r r r (fun _ => .ld1 (j := 0) ia3 hC523 r r r r r .mk) (.fk 1 r ?_)))
           obtain ⟨hz525, hd⟩ := hd
           refine .g r r r (fun _ => .rem r r hz525 r r .mk) (.fk 2 r ?_)
           obtain ⟨h526, x527, hx528, hd⟩ := hd
           obtain ⟨b529, o530, cs531, e532, hC533, hr534⟩ := R3.2 _ _ hx528
           cases hr534
           refine .g r r r (fun _ => .ixa un49 sz71 r e532 r h526 (idx_lt hx528 h526) r r .mk) (.g r r r (fun _ => .fa un71 r sz2 r (o := o530 + s485.toNat * 2 + 1) r r r .mk) (.g r r r (fun _ => .ld1 (j := 1) ia2 hC533 r r r r r .mk) (.g r r r (fun _ => .build zv71 un71 BI71 (.c r r r (.t .nil) (.c r r r (.s (.t .nil)) .n)) (by exact ⟨⟨_, _, r, r, r⟩, ⟨⟨_, _, r, r, r⟩, trivial⟩⟩) r r .mk) (.ww r fun ex => ?_))))
           refine .buildSlice 1 un49 sz71 zv71 r r (.c r r r .n) r r fun b535 => ?_
           refine .so 3 r r r (.ck 1 r r trivial) (.ww r fun ex => ?_)
           obtain ⟨hl537, hd⟩ := hd
           refine .append (ys := [({ At := x517.At.tmod ((w64 (a0)).tmod 60), Val := x527.Val } : Item)]) 16 (.s (.s .z)) un49 un49 IN71 r r r r r r r r r (.box .z (.one r) r) hl537 r r fun p538 c539 => ?_
           exact .so 3 r r r trivial (.e2 16 (.ks 1 r (.nilS [6, 7, 5, 4, 1] r r (.drop (.s .z) (.region (.ks 3 r (.nil' fun c w ho hs => ⟨((s481 ++ ([({ At := x517.At.tmod ((w64 (a0)).tmod 60), Val := x527.Val } : Item)])), w64 (s485 + 1)), hd, I488, _, _, hl489, ho.sub ⟨r, r, r, r, r, trivial⟩, hs.pick (.c (.s .z) (.c .z .n))⟩)))))))
         exact .skipS [7, 6, 5, 4, 1] r r (.region (.ks 3 r (.nil' fun c w ho hs => ⟨(s481, w64 (s485 + 1)), hd, I488, _, _, hl489, ho.sub ⟨r, r, r, r, r, trivial⟩, hs.pick (.c .z (.c .z .n))⟩)))
       exact .exit fun c w ho hs => ⟨s481, hd, I488, _, _, hl489, ho.sub ⟨r, r, r, trivial⟩, hs.pick (.c .z (.c .z .n))⟩
     rw [hb494]
     exact .ks 3 r (.nilS [24, 7, 6, 5, 4, 1] r r (.condKF r r (.exit fun c w ho hs => ⟨s481, hd, I488, _, _, hl489, ho.sub ⟨r, r, r, trivial⟩, hs.pick (.c .z (.c .z .n))⟩)))
   rw [hb493]
   exact .ks 7 r (.nilS [24, 7, 6, 5, 4, 1] r r (.condKF r r (.exit fun c w ho hs => ⟨s481, hd, I488, _, _, hl489, ho.sub ⟨r, r, r, trivial⟩, hs.pick (.c .z (.c .z .n))⟩)))
 rintro s361 hd c w hst
 obtain ⟨I541, p362, c363, hl542, hok, hsym⟩ := hst
 refine Cod.at hok hsym (.sr (.ks 2 r (.pub (.s .z) fun I543 hl544 R545 => ?_)))
 have le546 := IH.le.trans hl542 hl544
 have hw556 := W_ref09_Of (I := I543) R545 hd
 refine .call call97 r hw556 r r fun v551 I548 hl549 hv550 => ?_
 obtain ⟨r547, p553, c554, rfl, R555, hd⟩ := hv550
 have le557 := IH.le.trans le546 hl549
 replace R545 := R545.mono hl549
 refine .ks 3 r (.allocA zv51 r r fun b558 => ?_)
 exact .storeA sz51 r r .z (.t (.t .nil)) r r (.ks 1 r (.nilS [8, 4] r r (.sr (.loadW ia51 sz51 r .z r r r (.storeA sz51 r r (.s .z) (.t (.t .nil)) r r (.nilS [4] r r (.drop .z (.ret (pret results59 (.w ia51 sz51 r .z r .n) le557 ⟨r547.1, _, _, r, R555, hd⟩)))))))))

theorem W_law21_got {I : IH} {a0 : Plan} {a1 : List Item} {p1 : Option Addr} {c2 : Nat} {p4 : Option Addr} {c5 : Nat} {Q : Vec → Prop} (R3 : RepSl eI64 I p1 c2 a0.Draws) (R6 : RepSl eItem I p4 c5 a1) (hd : law21_got a0 a1 Q) :
  PFun prog 21 [.agg #[.int .i64 a0.Kind, .int .i64 a0.N, .int .i64 a0.Source, .int .i64 a0.Length, .slice p1 a0.Draws.length c2], .slice p4 a1.length c5] I (fun I_ v => ∃ r p7 c8, v = .agg #[.int .i64 r.N, .slice p7 r.Items.length c8] ∧ RepSl eItem I_ p7 c8 r.Items ∧ Q r) := by
 refine Fun.enter func21 r ntmps21 r (.c (.c .n)) fun w0 M => ?_
 refine .sr (.boxA r r r fun b14 => ?_)
 refine .allocA zv51 r r fun b16 => ?_
 refine .nilS [4, 2, 1] r r (.sr (.fa un25 r sz3 r (o := 1) r r r (.load1 ia3 r (.s .z) r r r (.conv un3 un5 r r r (.ks 1 r ?_)))))
 have hw39 := W_law09_Some (I := I) R6 hd
 refine .call call59 r hw39 r r fun v34 I31 hl32 hv33 => ?_
 obtain ⟨r30, p36, c37, rfl, R38, hd⟩ := hv33
 replace R3 := R3.mono hl32
 replace R6 := R6.mono hl32
 refine .allocA zv51 r r fun b40 => ?_
 refine .storeA sz51 r r .z (.t (.t .nil)) r r (.nilS [5, 4] r r (.drop (.s (.s .z)) (.sr (.fa un51 r sz3 r (o := 0) r r r (.load1 ia3 r .z r r r (.build zv51 un51 BI51 (.c r r r (.t .nil) .n) (by exact ⟨⟨_, _, r, r, r⟩, trivial⟩) r r (.allocA zv51 r r fun b44 => ?_)))))))
 refine .storeA sz51 r r .z (.t (.t .nil)) r r (.nilS [6, 5, 4] r r (.seq (.sr (.ks 1 r (.nilS [7, 6, 5, 4] r r (.block (.own0 eItem 71 (.loop hd (fun (s : (List Item) × Int) c w => match s with | (s115, s119) => ∃ I_ p116 c117, IH.le I31 I_ ∧ Ok ⟨43, [], none⟩ [(4, .pointer (some ⟨b16, 0, none⟩)), (5, .pointer (some ⟨b40, 0, none⟩)), (6, .pointer (some ⟨b44, 0, none⟩)), (7, .int .i64 s119)] c ∧ Sym w0 M I I_ [pto b16 (.cells #[.int .i64 0, .slice none 0 0] 51 (0, 0)), pto b40 (.cells #[.int .i64 r30.N, .slice p36 r30.Items.length c37] 51 (0, 0)), pto b44 (.cells #[.int .i64 r30.N, .slice p116 s115.length c117] 51 (0, 0)), OwnSl eItem 71 p116 c117 s115] w) (fun c w ho hs => ⟨I31, _, _, (.refl _), ho.sub ⟨r, r, r, r, trivial⟩, hs.pick (.c (.s (.s (.s .z))) (.c (.s (.s .z)) (.c (.s .z) (.c .z .n))))⟩) ?_))))))))
 rintro ⟨s115, s119⟩ next121 hd c w hst
 obtain ⟨I122, p116, c117, hl123, hok, hsym⟩ := hst
 have le124 := IH.le.trans hl32 hl123
 replace R38 := R38.mono hl123
 refine Cod.at hok hsym (.seq (.sr (.ks 1 r (.fa un51 r sz49 r (o := 1) r r r (.load1 ia49 r (.s .z) r r r (.len un49 r r r r (.ks 1 r (.nilS [20, 7, 6, 5, 4] r r (.condP r hd (fun hb126 hd => ?_) fun hb126 hd => ?_)))))))))
 · refine .skipS [7, 6, 5, 4] r r (.seq (.block (.ownF (.s (.s (.s .z))) fun hne127 => ?_)))
   refine .dr [0, 1, 2, 3, 4, 5, 6, 7, 8, 9, 10, 11, 12, 13, 14, 15, 16, 17] 18 (.g r r r (fun _ => .fa un51 r sz49 r (o := 1) r r r .mk) (.g r r r (fun _ => .load1 ia49 r (.s (.s .z)) r r r .mk) (.g r r r (fun _ => .fa un51 r sz49 r (o := 1) r r r .mk) (.g r r r (fun _ => .load1 ia49 r (.s .z) r r r .mk) (.fk 1 r ?_)))))
   obtain ⟨h128, x129, hx130, hd⟩ := hd
   obtain ⟨b131, o132, cs133, e134, hC135, hr136⟩ := R38.2 _ _ hx130
   cases hr136
   refine .g r r r (fun _ => .ixa un49 sz71 r e134 r h128 (idx_lt hx130 h128) r r .mk) (.g r r r (fun _ => .fa un71 r sz3 r (o := o132 + s119.toNat * 2) r r r .mk) (.g r r r (fun _ => .ld1 (j := 0) ia3 hC135 r r r r r .mk) (.g r r r (fun _ => .fa un51 r sz49 r (o := 1) r r r .mk) (.g r r r (fun _ => .load1 ia49 r (.s .z) r r r .mk) (.fk 1 r ?_)))))
   obtain ⟨h137, x138, hx139, hd⟩ := hd
   obtain ⟨b140, o141, cs142, e143, hC144, hr145⟩ := R38.2 _ _ hx139
   cases hr145
   refine .g r r r (fun _ => .ixa un49 sz71 r e143 r h137 (idx_lt hx139 h137) r r .mk) (.g r r r (fun _ => .fa un71 r sz2 r (o := o141 + s119.toNat * 2 + 1) r r r .mk) (.g r r r (fun _ => .ld1 (j := 1) ia2 hC144 r r r r r .mk) (.fk 1 r (.g r r r (fun _ => .build zv71 un71 BI71 (.c r r r (.t .nil) (.c r r r (.s (.t .nil)) .n)) (by exact ⟨⟨_, _, r, r, r⟩, ⟨⟨_, _, r, r, r⟩, trivial⟩⟩) r r .mk) (.ww r fun ex => ?_)))))
   refine .buildSlice 1 un49 sz71 zv71 r r (.c r r r .n) r r fun b146 => ?_
   refine .so 5 r r r (.cg r r r r (fun _ => .load1 ia49 r (.s (.s (.s .z))) r r r .mk) (.cg r r r r (fun _ => .fa un51 r sz49 r (o := 1) r r r .mk) trivial)) (.ww r fun ex => ?_)
   obtain ⟨hl148, hd⟩ := hd
   refine .append (ys := [({ At := x129.At, Val := bnd .i64 x138.Val 255 } : Item)]) 16 (.s (.s (.s (.s .z)))) un49 un49 IN71 r r r r r r r r r (.box .z (.one r) r) hl148 r r fun p149 c150 => ?_
   exact .so 5 r r r trivial (.e2 18 (.fa un51 r sz49 r (o := 1) r r r (.store1 sz49 r r (.s (.s (.s (.s .z)))) (.s (.t .nil)) r (.nilS [7, 6, 5, 4] r r (.drop (.s .z) (.region (.ks 3 r (.nil' fun c w ho hs => ⟨((s115 ++ ([({ At := x129.At, Val := bnd .i64 x138.Val 255 } : Item)])), w64 (s119 + 1)), hd, I122, _, _, hl123, ho.sub ⟨r, r, r, r, trivial⟩, hs.pick (.c (.s .z) (.c (.s .z) (.c (.s .z) (.c .z .n))))⟩))))))))
 refine .exitS [6, 4] r r (.drop (.s .z) (.sr (.loadW ia51 sz51 r (.s .z) r r r (.storeA sz51 r r .z (.t (.t .nil)) r r (.nilS [4] r r (.drop (.s .z) (.pub (.s .z) fun I152 hl153 R154 => ?_)))))))
 have le155 := IH.le.trans le124 hl153
 have le156 := IH.le.trans hl123 hl153
 exact .ret (pret results21 (.w ia51 sz51 r .z r .n) le155 ⟨({ N := r30.N, Items := s115 } : Vec), _, _, r, R154, hd⟩)

theorem W_ref07_SameItems {I : IH} {a0 : List Item} {a1 : List Item} {p1 : Option Addr} {c2 : Nat} {p4 : Option Addr} {c5 : Nat} {Q : Bool → Prop} (R3 : RepSl eItem I p1 c2 a0) (R6 : RepSl eItem I p4 c5 a1) (hd : ref07_SameItems a0 a1 Q) :
  PFun prog 67 [.slice p1 a0.length c2, .slice p4 a1.length c5] I (fun _ => o0_ Q) := by
 refine Fun.enter func67 r ntmps67 r (.c (.c .n)) fun w0 M => ?_
 refine .sr (.ks 1 r (.nilS [1, 0] r r (.seq (.sr (.ks 1 r (.len un49 r r r r (.ks 1 r (.len un49 r r r r (.ks 1 r ?_)))))))))
 refine .nilS [10, 1, 0] r r (.condP r hd (fun hb8 hd => ?_) fun hb8 hd => ?_)
 · exact .sr (.ks 1 r (.nilS [4] r r (.ret (pret results67 (.t r .n) (.refl _) ⟨false, r, hd⟩))))
 refine .skipS [1, 0] r r (.seq (.sr (.ks 1 r (.nilS [5, 1, 0] r r (.block (.loop hd (fun (s54 : Int) c w => ∃ I_, IH.le I I_ ∧ Ok ⟨26, [], none⟩ [(0, .slice p1 a0.length c2), (1, .slice p4 a1.length c5), (5, .int .i64 s54)] c ∧ Sym w0 M I I_ [] w) (fun c w ho hs => ⟨I, (.refl _), ho.sub ⟨r, r, r, trivial⟩, hs.pick .n⟩) ?_))))))
 rintro s54 next55 hd c w hst
 obtain ⟨I56, hl57, hok, hsym⟩ := hst
 replace R3 := R3.mono hl57
 replace R6 := R6.mono hl57
 refine Cod.at hok hsym (.seq (.sr (.ks 2 r (.len un49 r r r r (.ks 1 r (.nilS [14, 5, 1, 0] r r (.condP r hd (fun hb59 hd => ?_) fun hb59 hd => ?_)))))))
 · refine .skipS [5, 1, 0] r r (.seq (.block (.seq (.dr [0, 1, 2, 3, 4, 5, 6, 7, 8] 9 (.fk 2 r ?_)))))
   obtain ⟨h60, x61, hx62, hd⟩ := hd
   obtain ⟨b63, o64, cs65, e66, hC67, hr68⟩ := R3.2 _ _ hx62
   cases hr68
   refine .g r r r (fun _ => .ixa un49 sz71 r e66 r h60 (idx_lt hx62 h60) r r .mk) (.g r r r (fun _ => .ldW isAgg71 sz71 hC67 r r r r .mk) (.fk 2 r ?_))
   obtain ⟨h69, x70, hx71, hd⟩ := hd
   obtain ⟨b72, o73, cs74, e75, hC76, hr77⟩ := R6.2 _ _ hx71
   cases hr77
   refine .g r r r (fun _ => .ixa un49 sz71 r e75 r h69 (idx_lt hx71 h69) r r .mk) (.g r r r (fun _ => .ldW isAgg71 sz71 hC76 r r r r .mk) (.g r r r (fun _ => .neV r r (EQ71 x61 x70) (EG71 _ _ _ _ _) r r r .mk) (.e2 9 (.nilS [25, 5, 1, 0] r r (.condP r hd (fun hb78 hd => ?_) fun hb78 hd => ?_)))))
   · exact .sr (.ks 1 r (.nilS [4] r r (.ret (pret results67 (.t r .n) hl57 ⟨false, r, hd⟩))))
   exact .skipS [5, 1, 0] r r (.region (.ks 3 r (.nil' fun c w ho hs => ⟨(w64 (s54 + 1)), hd, I56, hl57, ho.sub ⟨r, r, r, trivial⟩, hs.pick .n⟩)))
 exact .exitS [] r r (.sr (.ks 1 r (.nilS [4] r r (.ret (pret results67 (.t r .n) hl57 ⟨true, r, hd⟩)))))

theorem W_ref09_Same {I : IH} {a0 : Vec} {a1 : Vec} {p1 : Option Addr} {c2 : Nat} {p4 : Option Addr} {c5 : Nat} {Q : Bool → Prop} (R3 : RepSl eItem I p1 c2 a0.Items) (R6 : RepSl eItem I p4 c5 a1.Items) (hd : ref09_Same a0 a1 Q) :
  PFun prog 23 [.agg #[.int .i64 a0.N, .slice p1 a0.Items.length c2], .agg #[.int .i64 a1.N, .slice p4 a1.Items.length c5]] I (fun _ => o0_ Q) := by
 refine Fun.enter func23 r ntmps23 r (.c (.c .n)) fun w0 M => ?_
 refine .sr (.boxA r r r fun b11 => ?_)
 refine .boxA r r r fun b13 => ?_
 refine .ks 1 r (.nilS [3, 2] r r (.sr (.fa un51 r sz3 r (o := 0) r r r (.load1 ia3 r (.s .z) r r r (.fa un51 r sz3 r (o := 0) r r r (.load1 ia3 r .z r r r (.ks 2 r ?_)))))))
 refine splitP hd (fun hb15 hd => ?_) fun hb15 hd => ?_
 · rw [hb15]
   refine .gyes r r r (.fa un51 r sz49 r (o := 1) r r r (.gyes r r r (.load1 ia49 r (.s .z) r r r (.gyes r r r (.fa un51 r sz49 r (o := 1) r r r (.gyes r r r (.load1 ia49 r .z r r r ?_)))))))
   have hw17 := W_ref07_SameItems (I := I) R3 R6 hd
   refine .gyes r r r (.callP call67 r hw17 r r fun v18 hv19 => ?_)
   obtain ⟨r16, rfl, hd⟩ := hv19
   exact .ks 2 r (.nilS [4] r r (.drop .z (.drop .z (.ret (pret results23 (.t r .n) (.refl _) ⟨r16, r, hd⟩)))))
 rw [hb15]
 exact .ks 7 r (.nilS [4] r r (.drop .z (.drop .z (.ret (pret results23 (.t r .n) (.refl _) ⟨false, r, hd⟩)))))

theorem W_ref03_Right {I : IH} {a0 : List Int} {a1 : Int} {p1 : Option Addr} {c2 : Nat} {Q : Bool → Prop} (R3 : RepSl eU64 I p1 c2 a0) (hd : ref03_Right a0 a1 Q) :
  PFun prog 106 [.slice p1 a0.length c2, .int .i64 a1] I (fun _ => o0_ Q) := by
 refine Fun.enter func106 r ntmps106 r (.c (.c .n)) fun w0 M => ?_
 refine .sr (.ks 1 r (.nilS [1, 0] r r (.seq (.sr (.ks 3 r ?_)))))
 refine splitP hd (fun hb11 hd => ?_) fun hb11 hd => ?_
 · rw [hb11]
   exact .ks 10 r (.nilS [18, 1, 0] r r (.condKT r r (.sr (.ks 1 r (.nilS [4] r r (.ret (pret results106 (.t r .n) (.refl _) ⟨false, r, hd⟩)))))))
 rw [hb11]
 refine .ks 4 r ?_
 refine splitP hd (fun hb12 hd => ?_) fun hb12 hd => ?_
 · rw [hb12]
   exact .ks 6 r (.nilS [18, 1, 0] r r (.condKT r r (.sr (.ks 1 r (.nilS [4] r r (.ret (pret results106 (.t r .n) (.refl _) ⟨false, r, hd⟩)))))))
 rw [hb12]
 refine .ks 1 r (.gyes r r r (.len un44 r r r r (.ks 1 r ?_)))
 have hw14 := W_ref03_words (I := I) hd
 refine .gyes r r r (.callP call118 r hw14 r r fun v15 hv16 => ?_)
 obtain ⟨r13, rfl, hd⟩ := hv16
 refine .ks 2 r (.nilS [18, 1, 0] r r (.condP r hd (fun hb17 hd => ?_) fun hb17 hd => ?_))
 · exact .sr (.ks 1 r (.nilS [4] r r (.ret (pret results106 (.t r .n) (.refl _) ⟨false, r, hd⟩))))
 refine .skipS [1, 0] r r (.sr (.ks 1 r ?_))
 have hw37 := W_ref03_List (I := I) R3 hd
 refine .call call37 r hw37 r r fun v32 I29 hl30 hv31 => ?_
 obtain ⟨r28, p34, c35, rfl, R36, hd⟩ := hv31
 replace R3 := R3.mono hl30
 refine .ks 1 r (.nilS [5, 1] r r (.sr (.ks 1 r (.len un30 r r r r (.ks 2 r ?_)))))
 refine splitP hd (fun hb38 hd => ?_) fun hb38 hd => ?_
 · rw [hb38]
   exact .ks 10 r (.nilS [4] r r (.ret (pret results106 (.t r .n) hl30 ⟨true, r, hd⟩)))
 rw [hb38]
 refine .ks 2 r (.gyes r r r (.len un30 r r r r (.ks 1 r ?_)))
 obtain ⟨h39, x40, hx41, hd⟩ := hd
 obtain ⟨b42, o43, cs44, e45, hC46, hr47⟩ := R36.2 _ _ hx41
 cases hr47
 exact .gyes r r r (.ixa un30 sz3 r e45 r h39 (idx_lt hx41 h39) r r (.gyes r r r (.ld1 (j := 0) ia3 hC46 r r r r r (.ks 4 r (.nilS [4] r r (.ret (pret results106 (.t r .n) hl30 ⟨(decide (x40 < a1)), r, hd⟩)))))))

theorem W_ref21_Sure {I : IH} {a0 : Plan} {a1 : State} {p1 : Option Addr} {c2 : Nat} {p4 : Option Addr} {c5 : Nat} {p7 : Option Addr} {c8 : Nat} {p10 : Option Addr} {c11 : Nat} {Q : State → Prop} (R3 : RepSl eI64 I p1 c2 a0.Draws) (R6 : RepSl eI64 I p4 c5 a1.A) (R9 : RepSl eI64 I p7 c8 a1.B) (R12 : RepSl eU64 I p10 c11 a1.On) (hd : ref21_Sure a0 a1 Q) :
  PFun prog 69 [.agg #[.int .i64 a0.Kind, .int .i64 a0.N, .int .i64 a0.Source, .int .i64 a0.Length, .slice p1 a0.Draws.length c2], .agg #[.int .i64 a1.Low, .int .i64 a1.High, .slice p4 a1.A.length c5, .slice p7 a1.B.length c8, .slice p10 a1.On.length c11]] I (o12_ Q) := by
 refine Fun.enter func69 r ntmps69 r (.c (.c .n)) fun w0 M => ?_
 refine .sr (.boxA r r r fun b28 => ?_)
 refine .boxA r r r fun b30 => ?_
 refine .allocA zv46 r r fun b32 => ?_
 refine .nilS [4, 3, 2] r r (.seq (.sr (.loadW ia25 sz25 r (.s (.s .z)) r r r ?_)))
 have hw35 := W_ref21_Right (I := I) R3 hd
 refine .callP call11 r hw35 r r fun v36 hv37 => ?_
 obtain ⟨r34, rfl, hd⟩ := hv37
 refine .ks 2 r ?_
 refine splitP hd (fun hb38 hd => ?_) fun hb38 hd => ?_
 · rw [hb38]
   refine .ks 51 r (.nilS [59, 4, 3] r r (.drop (.s (.s .z)) (.condKT r r (.sr ?_))))
   have hw54 := W_ref21_none (I := I) hd
   refine .call call57 r hw54 r r fun v43 I40 hl41 hv42 => ?_
   obtain ⟨r39, p45, c46, p48, c49, p51, c52, rfl, R47, R50, R53, hd⟩ := hv42
   replace R6 := R6.mono hl41
   replace R9 := R9.mono hl41
   replace R12 := R12.mono hl41
   exact .storeA sz46 r r .z (.t (.t (.t (.t (.t .nil))))) r r (.nilS [4] r r (.drop (.s .z) (.ret (pret results69 (.w ia46 sz46 r .z r .n) hl41 ⟨r39, _, _, _, _, _, _, r, R47, R50, R53, hd⟩))))
 rw [hb38]
 refine .gyes r r r (.fa un46 r sz3 r (o := 0) r r r (.gyes r r r (.load1 ia3 r (.s .z) r r r (.ks 3 r ?_))))
 refine splitP hd (fun hb55 hd => ?_) fun hb55 hd => ?_
 · rw [hb55]
   refine .ks 46 r (.nilS [59, 4, 3] r r (.drop (.s (.s .z)) (.condKT r r (.sr ?_))))
   have hw71 := W_ref21_none (I := I) hd
   refine .call call57 r hw71 r r fun v60 I57 hl58 hv59 => ?_
   obtain ⟨r56, p62, c63, p65, c66, p68, c69, rfl, R64, R67, R70, hd⟩ := hv59
   replace R6 := R6.mono hl58
   replace R9 := R9.mono hl58
   replace R12 := R12.mono hl58
   exact .storeA sz46 r r .z (.t (.t (.t (.t (.t .nil))))) r r (.nilS [4] r r (.drop (.s .z) (.ret (pret results69 (.w ia46 sz46 r .z r .n) hl58 ⟨r56, _, _, _, _, _, _, r, R64, R67, R70, hd⟩))))
 rw [hb55]
 refine .gyes r r r (.fa un46 r sz3 r (o := 1) r r r (.gyes r r r (.load1 ia3 r (.s .z) r r r (.gyes r r r (.fa un46 r sz3 r (o := 0) r r r (.gyes r r r (.load1 ia3 r (.s .z) r r r (.ks 3 r ?_))))))))
 refine splitP hd (fun hb72 hd => ?_) fun hb72 hd => ?_
 · rw [hb72]
   refine .ks 39 r (.nilS [59, 4, 3] r r (.drop (.s (.s .z)) (.condKT r r (.sr ?_))))
   have hw88 := W_ref21_none (I := I) hd
   refine .call call57 r hw88 r r fun v77 I74 hl75 hv76 => ?_
   obtain ⟨r73, p79, c80, p82, c83, p85, c86, rfl, R81, R84, R87, hd⟩ := hv76
   replace R6 := R6.mono hl75
   replace R9 := R9.mono hl75
   replace R12 := R12.mono hl75
   exact .storeA sz46 r r .z (.t (.t (.t (.t (.t .nil))))) r r (.nilS [4] r r (.drop (.s .z) (.ret (pret results69 (.w ia46 sz46 r .z r .n) hl75 ⟨r73, _, _, _, _, _, _, r, R81, R84, R87, hd⟩))))
 rw [hb72]
 refine .gyes r r r (.fa un46 r sz3 r (o := 1) r r r (.gyes r r r (.load1 ia3 r (.s .z) r r r (.gyes r r r (.fa un25 r sz3 r (o := 1) r r r (.gyes r r r (.load1 ia3 r (.s (.s .z)) r r r (.ks 3 r ?_))))))))
 refine splitP hd (fun hb89 hd => ?_) fun hb89 hd => ?_
 · rw [hb89]
   refine .ks 32 r (.nilS [59, 4, 3] r r (.drop (.s (.s .z)) (.condKT r r (.sr ?_))))
   have hw105 := W_ref21_none (I := I) hd
   refine .call call57 r hw105 r r fun v94 I91 hl92 hv93 => ?_
   obtain ⟨r90, p96, c97, p99, c100, p102, c103, rfl, R98, R101, R104, hd⟩ := hv93
   replace R6 := R6.mono hl92
   replace R9 := R9.mono hl92
   replace R12 := R12.mono hl92
   exact .storeA sz46 r r .z (.t (.t (.t (.t (.t .nil))))) r r (.nilS [4] r r (.drop (.s .z) (.ret (pret results69 (.w ia46 sz46 r .z r .n) hl92 ⟨r90, _, _, _, _, _, _, r, R98, R101, R104, hd⟩))))
 rw [hb89]
 refine .gyes r r r (.fa un46 r sz23 r (o := 2) r r r (.gyes r r r (.load1 ia23 r (.s .z) r r r (.gyes r r r (.len un23 r r r r (.gyes r r r (.fa un46 r sz3 r (o := 1) r r r (.gyes r r r (.load1 ia3 r (.s .z) r r r (.gyes r r r (.fa un46 r sz3 r (o := 0) r r r (.gyes r r r (.load1 ia3 r (.s .z) r r r (.ks 4 r ?_))))))))))))))
 refine splitP hd (fun hb106 hd => ?_) fun hb106 hd => ?_
 · rw [hb106]
   refine .ks 21 r (.nilS [59, 4, 3] r r (.drop (.s (.s .z)) (.condKT r r (.sr ?_))))
   have hw122 := W_ref21_none (I := I) hd
   refine .call call57 r hw122 r r fun v111 I108 hl109 hv110 => ?_
   obtain ⟨r107, p113, c114, p116, c117, p119, c120, rfl, R115, R118, R121, hd⟩ := hv110
   replace R6 := R6.mono hl109
   replace R9 := R9.mono hl109
   replace R12 := R12.mono hl109
   exact .storeA sz46 r r .z (.t (.t (.t (.t (.t .nil))))) r r (.nilS [4] r r (.drop (.s .z) (.ret (pret results69 (.w ia46 sz46 r .z r .n) hl109 ⟨r107, _, _, _, _, _, _, r, R115, R118, R121, hd⟩))))
 rw [hb106]
 refine .gyes r r r (.fa un46 r sz23 r (o := 3) r r r (.gyes r r r (.load1 ia23 r (.s .z) r r r (.gyes r r r (.len un23 r r r r (.gyes r r r (.fa un46 r sz3 r (o := 1) r r r (.gyes r r r (.load1 ia3 r (.s .z) r r r (.gyes r r r (.fa un46 r sz3 r (o := 0) r r r (.gyes r r r (.load1 ia3 r (.s .z) r r r (.ks 4 r ?_))))))))))))))
 refine splitP hd (fun hb123 hd => ?_) fun hb123 hd => ?_
 · rw [hb123]
   refine .ks 10 r (.nilS [59, 4, 3] r r (.drop (.s (.s .z)) (.condKT r r (.sr ?_))))
   have hw139 := W_ref21_none (I := I) hd
   refine .call call57 r hw139 r r fun v128 I125 hl126 hv127 => ?_
   obtain ⟨r124, p130, c131, p133, c134, p136, c137, rfl, R132, R135, R138, hd⟩ := hv127
   replace R6 := R6.mono hl126
   replace R9 := R9.mono hl126
   replace R12 := R12.mono hl126
   exact .storeA sz46 r r .z (.t (.t (.t (.t (.t .nil))))) r r (.nilS [4] r r (.drop (.s .z) (.ret (pret results69 (.w ia46 sz46 r .z r .n) hl126 ⟨r124, _, _, _, _, _, _, r, R132, R135, R138, hd⟩))))
 rw [hb123]
 refine .gyes r r r (.fa un46 r sz44 r (o := 4) r r r (.gyes r r r (.load1 ia44 r (.s .z) r r r (.gyes r r r (.fa un46 r sz3 r (o := 1) r r r (.gyes r r r (.load1 ia3 r (.s .z) r r r (.gyes r r r (.fa un46 r sz3 r (o := 0) r r r (.gyes r r r (.load1 ia3 r (.s .z) r r r (.ks 1 r ?_))))))))))))
 have hw141 := W_ref03_Right (I := I) R12 hd
 refine .gyes r r r (.callP call106 r hw141 r r fun v142 hv143 => ?_)
 obtain ⟨r140, rfl, hd⟩ := hv143
 refine .ks 2 r (.nilS [59, 4, 3] r r (.drop (.s (.s .z)) (.condP r hd (fun hb144 hd => ?_) fun hb144 hd => ?_)))
 · refine .sr ?_
   have hw160 := W_ref21_none (I := I) hd
   refine .call call57 r hw160 r r fun v149 I146 hl147 hv148 => ?_
   obtain ⟨r145, p151, c152, p154, c155, p157, c158, rfl, R153, R156, R159, hd⟩ := hv148
   replace R6 := R6.mono hl147
   replace R9 := R9.mono hl147
   replace R12 := R12.mono hl147
   exact .storeA sz46 r r .z (.t (.t (.t (.t (.t .nil))))) r r (.nilS [4] r r (.drop (.s .z) (.ret (pret results69 (.w ia46 sz46 r .z r .n) hl147 ⟨r145, _, _, _, _, _, _, r, R153, R156, R159, hd⟩))))
 exact .skipS [4, 3] r r (.sr (.loadW ia46 sz46 r (.s .z) r r r (.storeA sz46 r r .z (.t (.t (.t (.t (.t .nil))))) r r (.nilS [4] r r (.drop (.s .z) (.ret (pret results69 (.w ia46 sz46 r .z r .n) (.refl _) ⟨a1, _, _, _, _, _, _, r, R6, R9, R12, hd⟩)))))))

theorem W_ref21_draw {I : IH} {a0 : Int} {Q : Int → Prop}  (hd : ref21_draw a0 Q) :
  PFun prog 73 [.int .i64 a0] I (fun _ => o1_ Q) := by
 refine Fun.enter func73 r ntmps73 r (.c .n) fun w0 M => ?_
 refine .sr (.ks 1 r (.nilS [0] r r (.seq (.sr (.ks 2 r (.nilS [4, 0] r r (.condP r hd (fun hb1 hd => ?_) fun hb1 hd => ?_)))))))
 · exact .sr (.ks 1 r (.nilS [2] r r (.ret (pret results73 (.t r .n) (.refl _) ⟨(-1), r, hd⟩))))
 exact .skipS [0] r r (.sr (.ks 2 r (.quo r r (by decide) r r (.ks 1 r (.nilS [2] r r (.ret (pret results73 (.t r .n) (.refl _) ⟨(w64 ((w64 (a0 - 1)).tdiv 2)), r, hd⟩)))))))

theorem W_ref21_tells {I : IH} {a0 : Plan} {a1 : State} {a2 : Int} {a3 : Int} {p1 : Option Addr} {c2 : Nat} {p4 : Option Addr} {c5 : Nat} {p7 : Option Addr} {c8 : Nat} {p10 : Option Addr} {c11 : Nat} {Q : (Int × Bool) → Prop} (R3 : RepSl eI64 I p1 c2 a0.Draws) (R6 : RepSl eI64 I p4 c5 a1.A) (R9 : RepSl eI64 I p7 c8 a1.B) (R12 : RepSl eU64 I p10 c11 a1.On) (hd : ref21_tells a0 a1 a2 a3 Q) :
  PFun prog 70 [.agg #[.int .i64 a0.Kind, .int .i64 a0.N, .int .i64 a0.Source, .int .i64 a0.Length, .slice p1 a0.Draws.length c2], .agg #[.int .i64 a1.Low, .int .i64 a1.High, .slice p4 a1.A.length c5, .slice p7 a1.B.length c8, .slice p10 a1.On.length c11], .int .i64 a2, .int .i64 a3] I (fun _ => o4_ Q) := by
 refine Fun.enter func70 r ntmps70 r (.c (.c (.c (.c .n)))) fun w0 M => ?_
 refine .sr (.boxA r r r fun b17 => ?_)
 refine .boxA r r r fun b19 => ?_
 refine .ks 2 r (.nilS [5, 4, 3, 2] r r (.sr (.fa un46 r sz44 r (o := 4) r r r (.load1 ia44 r .z r r r (.ks 1 r ?_)))))
 have hw26 := W_ref03_Has (I := I) R12 hd
 refine .callP call75 r hw26 r r fun v27 hv28 => ?_
 obtain ⟨r25, rfl, hd⟩ := hv28
 refine .ks 1 r (.nilS [10, 5, 4, 3, 2] r r (.block (.sr (.fa un25 r sz22 r (o := 0) r r r (.load1 ia22 r (.s .z) r r r (.ks 2 r (.nilS [21, 10, 5, 4, 3, 2] r r (.condP r hd (fun hb29 hd => ?_) fun hb29 hd => ?_))))))))
 · exact .sr (.fa un46 r sz3 r (o := 0) r r r (.load1 ia3 r .z r r r (.ks 5 r (.nilS [9, 8] r r (.drop .z (.drop .z (.ret (pret results70 (.t r (.t r .n)) (.refl _) ⟨(w64 (a1.Low + a3), r25), r, hd⟩))))))))
 refine .seq ?_
 refine Cod.joinQ (σ := Bool) hd (fun (s32 : Bool) c w => ∃ I_, IH.le I I_ ∧ Ok ⟨58, [], none⟩ [(2, .int .i64 a2), (3, .int .i64 a3), (4, .pointer (some ⟨b17, 0, none⟩)), (5, .pointer (some ⟨b19, 0, none⟩)), (10, .bool r25), (30, .bool s32)] c ∧ Sym w0 M I I_ [pto b17 (.cells #[.int .i64 a0.Kind, .int .i64 a0.N, .int .i64 a0.Source, .int .i64 a0.Length, .slice p1 a0.Draws.length c2] 25 (0, 0)), pto b19 (.cells #[.int .i64 a1.Low, .int .i64 a1.High, .slice p4 a1.A.length c5, .slice p7 a1.B.length c8, .slice p10 a1.On.length c11] 46 (0, 0))] w) (fun k33 hd => ?_) ?_
 · skip
   refine .region (.fa un25 r sz22 r (o := 0) r r r (.load1 ia22 r (.s .z) r r r (.ks 2 r ?_)))
   refine splitP hd (fun hb34 hd => ?_) fun hb34 hd => ?_
   · rw [hb34]
     exact .ks 1 r (.gyes r r r (.rem r r (by decide) r r (.ks 3 r (.nil' fun c w ho hs => ⟨((a2.tmod 2) != 0), hd, I, (.refl _), ho.sub ⟨r, r, r, r, r, r, trivial⟩, hs.pick (.c (.s .z) (.c .z .n))⟩))))
   rw [hb34]
   exact .ks 5 r (.nil' fun c w ho hs => ⟨false, hd, I, (.refl _), ho.sub ⟨r, r, r, r, r, r, trivial⟩, hs.pick (.c (.s .z) (.c .z .n))⟩)
 rintro s32 hd c w hst
 obtain ⟨I35, hl36, hok, hsym⟩ := hst
 replace R3 := R3.mono hl36
 replace R6 := R6.mono hl36
 replace R9 := R9.mono hl36
 replace R12 := R12.mono hl36
 refine Cod.at hok hsym (.condP r hd (fun hb37 hd => ?_) fun hb37 hd => ?_)
 · refine .seq (.dr [0, 1, 3, 4, 5, 6, 8, 9, 10, 11, 12, 13, 2, 7, 14] 15 (.g r r r (fun _ => .loadW ia25 sz25 r .z r r r .mk) (.fk 1 r (.g r r r (fun _ => .fa un46 r sz3 r (o := 0) r r r .mk) (.g r r r (fun _ => .load1 ia3 r (.s .z) r r r .mk) (.fk 2 r (.g r r r (fun _ => .fa un46 r sz23 r (o := 2) r r r .mk) (.g r r r (fun _ => .load1 ia23 r (.s .z) r r r .mk) (.fk 1 r ?_)))))))))
   obtain ⟨h38, x39, hx40, hd⟩ := hd
   obtain ⟨b41, o42, cs43, e44, hC45, hr46⟩ := R6.2 _ _ hx40
   cases hr46
   refine .g r r r (fun _ => .ixa un23 sz2 r e44 r h38 (idx_lt hx40 h38) r r .mk) (.g r r r (fun _ => .ld1 (j := 0) ia2 hC45 r r r r r .mk) (.fk 1 r (.ww r fun ex => ?_)))
   have hw48 := W_ref21_draw (I := I35) hd
   refine .callP call73 r hw48 r r fun v49 hv50 => ?_
   obtain ⟨r47, rfl, hd⟩ := hv50
   refine .so 2 r r r (.ck 1 r r (.cg r r r r (fun _ => .ld1 (j := 0) ia2 hC45 r r r r r .mk) (.cg r r r r (fun _ => .ixa un23 sz2 r e44 r h38 (idx_lt hx40 h38) r r .mk) (.ck 1 r r (.cg r r r r (fun _ => .load1 ia23 r (.s .z) r r r .mk) (.cg r r r r (fun _ => .fa un46 r sz23 r (o := 2) r r r .mk) (.ck 2 r r (.cg r r r r (fun _ => .load1 ia3 r (.s .z) r r r .mk) (.cg r r r r (fun _ => .fa un46 r sz3 r (o := 0) r r r .mk) (.cg r r r r (fun _ => .loadW ia25 sz25 r .z r r r .mk) trivial)))))))))) (.ww r fun ex => ?_)
   have hw52 := W_ref21_Draw (I := I35) R3 hd
   refine .callP call15 r hw52 r r fun v53 hv54 => ?_
   obtain ⟨r51, rfl, hd⟩ := hv54
   exact .so 2 r r r (.ck 1 r r (.cg r r r r (fun _ => .ld1 (j := 0) ia2 hC45 r r r r r .mk) (.cg r r r r (fun _ => .ixa un23 sz2 r e44 r h38 (idx_lt hx40 h38) r r .mk) (.ck 1 r r (.cg r r r r (fun _ => .load1 ia23 r (.s .z) r r r .mk) (.cg r r r r (fun _ => .fa un46 r sz23 r (o := 2) r r r .mk) trivial)))))) (.fk 1 r (.e2 15 (.ks 1 r (.nilS [9, 8] r r (.drop .z (.drop .z (.ret (pret results70 (.t r (.t r .n)) hl36 ⟨(r51, x39 == 0), r, hd⟩))))))))
 refine .sr (.fa un25 r sz22 r (o := 0) r r r (.load1 ia22 r .z r r r (.ks 2 r (.nilS [53, 10, 5, 3] r r (.drop .z (.condP r hd (fun hb55 hd => ?_) fun hb55 hd => ?_))))))
 · exact .sr (.ks 3 r (.nilS [9, 8] r r (.drop .z (.ret (pret results70 (.t r (.t r .n)) hl36 ⟨(1, r25), r, hd⟩)))))
 refine .sr (.fa un46 r sz23 r (o := 2) r r r (.load1 ia23 r .z r r r (.ks 1 r ?_)))
 obtain ⟨h56, x57, hx58, hd⟩ := hd
 obtain ⟨b59, o60, cs61, e62, hC63, hr64⟩ := R6.2 _ _ hx58
 cases hr64
 exact .ixa un23 sz2 r e62 r h56 (idx_lt hx58 h56) r r (.ld1 (j := 0) ia2 hC63 r r r r r (.ks 3 r (.nilS [9, 8] r r (.drop .z (.ret (pret results70 (.t r (.t r .n)) hl36 ⟨(x57, r25), r, hd⟩))))))

theorem W_ref21_Out {I : IH} {a0 : Plan} {a1 : State} {a2 : Int} {p1 : Option Addr} {c2 : Nat} {p4 : Option Addr} {c5 : Nat} {p7 : Option Addr} {c8 : Nat} {p10 : Option Addr} {c11 : Nat} {Q : Vec → Prop} (R3 : RepSl eI64 I p1 c2 a0.Draws) (R6 : RepSl eI64 I p4 c5 a1.A) (R9 : RepSl eI64 I p7 c8 a1.B) (R12 : RepSl eU64 I p10 c11 a1.On) (hd : ref21_Out a0 a1 a2 Q) :
  PFun prog 25 [.agg #[.int .i64 a0.Kind, .int .i64 a0.N, .int .i64 a0.Source, .int .i64 a0.Length, .slice p1 a0.Draws.length c2], .agg #[.int .i64 a1.Low, .int .i64 a1.High, .slice p4 a1.A.length c5, .slice p7 a1.B.length c8, .slice p10 a1.On.length c11], .int .i64 a2] I (o14_ Q) := by
 refine Fun.enter func25 r ntmps25 r (.c (.c (.c .n))) fun w0 M => ?_
 refine .sr (.boxA r r r fun b22 => ?_)
 refine .boxA r r r fun b24 => ?_
 refine .allocA zv51 r r fun b26 => ?_
 refine .nilS [6, 4, 3, 2] r r (.sr (.loadW ia25 sz25 r (.s (.s .z)) r r r (.loadW ia46 sz46 r (.s .z) r r r ?_)))
 have hw59 := W_ref21_Sure (I := I) R3 R6 R9 R12 hd
 refine .call call69 r hw59 r r fun v48 I45 hl46 hv47 => ?_
 obtain ⟨r44, p50, c51, p53, c54, p56, c57, rfl, R52, R55, R58, hd⟩ := hv47
 replace R3 := R3.mono hl46
 replace R6 := R6.mono hl46
 replace R9 := R9.mono hl46
 replace R12 := R12.mono hl46
 refine .storeA sz46 r r (.s .z) (.t (.t (.t (.t (.t .nil))))) r r (.nilS [6, 4, 3, 2] r r (.sr (.fa un46 r sz3 r (o := 1) r r r (.load1 ia3 r (.s .z) r r r (.fa un46 r sz3 r (o := 0) r r r (.load1 ia3 r (.s .z) r r r (.ks 1 r (.build zv51 un51 BI51 (.c r r r (.t .nil) .n) (by exact ⟨⟨_, _, r, r, r⟩, trivial⟩) r r (.allocA zv51 r r fun b62 => ?_)))))))))
 refine .storeA sz51 r r .z (.t (.t .nil)) r r (.nilS [7, 6, 4, 3, 2] r r (.seq (.sr (.ks 1 r (.nilS [8, 7, 6, 4, 3, 2] r r (.block (.own0 eItem 71 (.loop hd (fun (s : (List Item) × Int) c w => match s with | (s114, s118) => ∃ I_ p115 c116, IH.le I45 I_ ∧ Ok ⟨44, [], none⟩ [(2, .int .i64 a2), (3, .pointer (some ⟨b22, 0, none⟩)), (4, .pointer (some ⟨b24, 0, none⟩)), (6, .pointer (some ⟨b26, 0, none⟩)), (7, .pointer (some ⟨b62, 0, none⟩)), (8, .int .i64 s118)] c ∧ Sym w0 M I I_ [pto b22 (.cells #[.int .i64 a0.Kind, .int .i64 a0.N, .int .i64 a0.Source, .int .i64 a0.Length, .slice p1 a0.Draws.length c2] 25 (0, 0)), pto b24 (.cells #[.int .i64 r44.Low, .int .i64 r44.High, .slice p50 r44.A.length c51, .slice p53 r44.B.length c54, .slice p56 r44.On.length c57] 46 (0, 0)), pto b26 (.cells #[.int .i64 0, .slice none 0 0] 51 (0, 0)), pto b62 (.cells #[.int .i64 (w64 (r44.High - r44.Low)), .slice p115 s114.length c116] 51 (0, 0)), OwnSl eItem 71 p115 c116 s114] w) (fun c w ho hs => ⟨I45, _, _, (.refl _), ho.sub ⟨r, r, r, r, r, r, trivial⟩, hs.pick (.c (.s (.s (.s (.s .z)))) (.c (.s (.s (.s .z))) (.c (.s (.s .z)) (.c (.s .z) (.c .z .n)))))⟩) ?_))))))))
 rintro ⟨s114, s118⟩ next120 hd c w hst
 obtain ⟨I121, p115, c116, hl122, hok, hsym⟩ := hst
 have le123 := IH.le.trans hl46 hl122
 replace R3 := R3.mono hl122
 replace R52 := R52.mono hl122
 replace R55 := R55.mono hl122
 replace R58 := R58.mono hl122
 refine Cod.at hok hsym (.seq (.sr (.ks 1 r (.fa un51 r sz3 r (o := 0) r r r (.load1 ia3 r (.s (.s (.s .z))) r r r (.ks 1 r (.nilS [23, 8, 7, 6, 4, 3, 2] r r (.condP r hd (fun hb125 hd => ?_) fun hb125 hd => ?_))))))))
 · refine .skipS [8, 7, 6, 4, 3, 2] r r (.seq (.block (.sr (.loadW ia25 sz25 r .z r r r (.loadW ia46 sz46 r (.s .z) r r r (.ks 2 r ?_))))))
   have hw131 := W_ref21_tells (I := I121) R3 R52 R55 R58 hd
   refine .callP call70 r hw131 r r fun v132 hv133 => ?_
   obtain ⟨r130, rfl, hd⟩ := hv133
   refine .ks 5 r (.nilS [10, 9, 8, 7, 6, 4, 3, 2] r r (.sr (.ks 1 r (.nilS [34, 9, 8, 7, 6, 4, 3, 2] r r (.condP r hd (fun hb134 hd => ?_) fun hb134 hd => ?_)))))
   · refine .region (.fa un51 r sz49 r (o := 1) r r r (.load1 ia49 r (.s (.s (.s .z))) r r r (.ks 2 r (.build zv71 un71 BI71 (.c r r r (.t .nil) (.c r r r (.s (.t .nil)) .n)) (by exact ⟨⟨_, _, r, r, r⟩, ⟨⟨_, _, r, r, r⟩, trivial⟩⟩) r r (.buildSlice 1 un49 sz71 zv71 r r (.c r r r .n) r r fun b135 => ?_)))))
     obtain ⟨hl137, hd⟩ := hd
     refine .append (ys := [({ At := s118, Val := r130.1 } : Item)]) 16 (.s (.s (.s (.s (.s .z))))) un49 un49 IN71 r r r r r r r r r (.box .z (.one r) r) hl137 r r fun p138 c139 => ?_
     exact .fa un51 r sz49 r (o := 1) r r r (.store1 sz49 r r (.s (.s (.s (.s (.s .z))))) (.s (.t .nil)) r (.nilS [8, 7, 6, 4, 3, 2] r r (.drop (.s .z) (.region (.ks 3 r (.nil' fun c w ho hs => ⟨((s114 ++ ([({ At := s118, Val := r130.1 } : Item)])), w64 (s118 + 1)), hd, I121, _, _, hl122, ho.sub ⟨r, r, r, r, r, r, trivial⟩, hs.pick (.c (.s .z) (.c (.s .z) (.c (.s .z) (.c (.s .z) (.c .z .n)))))⟩))))))
   exact .skipS [8, 7, 6, 4, 3, 2] r r (.region (.ks 3 r (.nil' fun c w ho hs => ⟨(s114, w64 (s118 + 1)), hd, I121, _, _, hl122, ho.sub ⟨r, r, r, r, r, r, trivial⟩, hs.pick (.c .z (.c .z (.c .z (.c .z (.c .z .n)))))⟩)))
 refine .exitS [7, 6] r r (.drop .z (.drop .z (.sr (.loadW ia51 sz51 r (.s .z) r r r (.storeA sz51 r r .z (.t (.t .nil)) r r (.nilS [6] r r (.drop (.s .z) (.pub (.s .z) fun I141 hl142 R143 => ?_))))))))
 have le144 := IH.le.trans le123 hl142
 have le145 := IH.le.trans hl122 hl142
 exact .ret (pret results25 (.w ia51 sz51 r .z r .n) le144 ⟨({ N := w64 (r44.High - r44.Low), Items := s114 } : Vec), _, _, r, R143, hd⟩)

theorem W_ref09_Right {I : IH} {a0 : Vec} {p1 : Option Addr} {c2 : Nat} {Q : Bool → Prop} (R3 : RepSl eItem I p1 c2 a0.Items) (hd : ref09_Right a0 Q) :
  PFun prog 71 [.agg #[.int .i64 a0.N, .slice p1 a0.Items.length c2]] I (fun _ => o0_ Q) := by
 refine Fun.enter func71 r ntmps71 r (.c .n) fun w0 M => ?_
 refine .sr (.boxA r r r fun b6 => ?_)
 refine .ks 1 r (.nilS [1] r r (.seq (.sr (.fa un51 r sz3 r (o := 0) r r r (.load1 ia3 r .z r r r (.ks 2 r ?_))))))
 refine splitP hd (fun hb10 hd => ?_) fun hb10 hd => ?_
 · rw [hb10]
   exact .ks 4 r (.nilS [11, 1] r r (.condKT r r (.sr (.ks 1 r (.nilS [2] r r (.drop .z (.ret (pret results71 (.t r .n) (.refl _) ⟨false, r, hd⟩))))))))
 rw [hb10]
 refine .gyes r r r (.fa un51 r sz3 r (o := 0) r r r (.gyes r r r (.load1 ia3 r .z r r r (.ks 2 r (.nilS [11, 1] r r (.condP r hd (fun hb11 hd => ?_) fun hb11 hd => ?_))))))
 · exact .sr (.ks 1 r (.nilS [2] r r (.drop .z (.ret (pret results71 (.t r .n) (.refl _) ⟨false, r, hd⟩)))))
 refine .skipS [1] r r (.seq (.sr (.ks 1 r (.nilS [3, 1] r r (.block (.loop hd (fun (s79 : Int) c w => ∃ I_, IH.le I I_ ∧ Ok ⟨57, [], none⟩ [(1, .pointer (some ⟨b6, 0, none⟩)), (3, .int .i64 s79)] c ∧ Sym w0 M I I_ [pto b6 (.cells #[.int .i64 a0.N, .slice p1 a0.Items.length c2] 51 (0, 0))] w) (fun c w ho hs => ⟨I, (.refl _), ho.sub ⟨r, r, trivial⟩, hs.pick (.c .z .n)⟩) ?_))))))
 rintro s79 next80 hd c w hst
 obtain ⟨I81, hl82, hok, hsym⟩ := hst
 replace R3 := R3.mono hl82
 refine Cod.at hok hsym (.seq (.sr (.ks 1 r (.fa un51 r sz49 r (o := 1) r r r (.load1 ia49 r .z r r r (.len un49 r r r r (.ks 1 r (.nilS [16, 3, 1] r r (.condP r hd (fun hb84 hd => ?_) fun hb84 hd => ?_)))))))))
 · refine .skipS [3, 1] r r (.seq (.block (.seq (.dr [0, 1, 2, 3, 4, 5, 6, 7, 8, 9, 10, 11, 12, 13, 14, 15, 16, 17, 18, 19, 20, 21, 22, 23, 24, 25, 26, 27, 28, 29, 30, 31, 32, 33, 34, 35, 36, 37] 38 (.g r r r (fun _ => .fa un51 r sz49 r (o := 1) r r r .mk) (.g r r r (fun _ => .load1 ia49 r .z r r r .mk) (.fk 1 r ?_)))))))
   obtain ⟨h85, x86, hx87, hd⟩ := hd
   obtain ⟨b88, o89, cs90, e91, hC92, hr93⟩ := R3.2 _ _ hx87
   cases hr93
   refine .g r r r (fun _ => .ixa un49 sz71 r e91 r h85 (idx_lt hx87 h85) r r .mk) (.g r r r (fun _ => .fa un71 r sz3 r (o := o89 + s79.toNat * 2) r r r .mk) (.g r r r (fun _ => .ld1 (j := 0) ia3 hC92 r r r r r .mk) (.fk 2 r ?_)))
   refine splitP hd (fun hb94 hd => ?_) fun hb94 hd => ?_
   · rw [hb94]
     exact .fk 30 r (.e2 38 (.nilS [56, 3, 1] r r (.condKT r r (.sr (.ks 1 r (.nilS [2] r r (.drop .z (.ret (pret results71 (.t r .n) hl82 ⟨false, r, hd⟩)))))))))
   rw [hb94]
   refine .g r r r (fun _ => .gyes r r r (.fa un51 r sz49 r (o := 1) r r r .mk)) (.g r r r (fun _ => .gyes r r r (.load1 ia49 r .z r r r .mk)) (.fk 1 r ?_))
   obtain ⟨h95, x96, hx97, hd⟩ := hd
   obtain ⟨b98, o99, cs100, e101, hC102, hr103⟩ := R3.2 _ _ hx97
   cases hr103
   refine .g r r r (fun _ => .gyes r r r (.ixa un49 sz71 r e101 r h95 (idx_lt hx97 h95) r r .mk)) (.g r r r (fun _ => .gyes r r r (.fa un71 r sz3 r (o := o99 + s79.toNat * 2) r r r .mk)) (.g r r r (fun _ => .gyes r r r (.ld1 (j := 0) ia3 hC102 r r r r r .mk)) (.g r r r (fun _ => .gyes r r r (.fa un51 r sz3 r (o := 0) r r r .mk)) (.g r r r (fun _ => .gyes r r r (.load1 ia3 r .z r r r .mk)) (.fk 3 r ?_)))))
   refine splitP hd (fun hb104 hd => ?_) fun hb104 hd => ?_
   · rw [hb104]
     exact .fk 19 r (.e2 38 (.nilS [56, 3, 1] r r (.condKT r r (.sr (.ks 1 r (.nilS [2] r r (.drop .z (.ret (pret results71 (.t r .n) hl82 ⟨false, r, hd⟩)))))))))
   rw [hb104]
   refine .fk 3 r ?_
   refine splitP hd (fun hb105 hd => ?_) fun hb105 hd => ?_
   · rw [hb105]
     refine .g r r r (fun _ => .gyes r r r (.fa un51 r sz49 r (o := 1) r r r .mk)) (.g r r r (fun _ => .gyes r r r (.load1 ia49 r .z r r r .mk)) (.fk 1 r ?_))
     obtain ⟨h106, x107, hx108, hd⟩ := hd
     obtain ⟨b109, o110, cs111, e112, hC113, hr114⟩ := R3.2 _ _ hx108
     cases hr114
     refine .g r r r (fun _ => .gyes r r r (.ixa un49 sz71 r e112 r h106 (idx_lt hx108 h106) r r .mk)) (.g r r r (fun _ => .gyes r r r (.fa un71 r sz3 r (o := o110 + s79.toNat * 2) r r r .mk)) (.g r r r (fun _ => .gyes r r r (.ld1 (j := 0) ia3 hC113 r r r r r .mk)) (.g r r r (fun _ => .gyes r r r (.fa un51 r sz49 r (o := 1) r r r .mk)) (.g r r r (fun _ => .gyes r r r (.load1 ia49 r .z r r r .mk)) (.fk 2 r ?_)))))
     obtain ⟨h115, x116, hx117, hd⟩ := hd
     obtain ⟨b118, o119, cs120, e121, hC122, hr123⟩ := R3.2 _ _ hx117
     cases hr123
     refine .g r r r (fun _ => .gyes r r r (.ixa un49 sz71 r e121 r h115 (idx_lt hx117 h115) r r .mk)) (.g r r r (fun _ => .gyes r r r (.fa un71 r sz3 r (o := o119 + (w64 (s79 - 1)).toNat * 2) r r r .mk)) (.g r r r (fun _ => .gyes r r r (.ld1 (j := 0) ia3 hC122 r r r r r .mk)) (.fk 3 r (.e2 38 (.nilS [56, 3, 1] r r (.condP r hd (fun hb124 hd => ?_) fun hb124 hd => ?_))))))
     · exact .sr (.ks 1 r (.nilS [2] r r (.drop .z (.ret (pret results71 (.t r .n) hl82 ⟨false, r, hd⟩)))))
     exact .skipS [3, 1] r r (.region (.ks 3 r (.nil' fun c w ho hs => ⟨(w64 (s79 + 1)), hd, I81, hl82, ho.sub ⟨r, r, trivial⟩, hs.pick (.c .z .n)⟩)))
   rw [hb105]
   exact .fk 16 r (.e2 38 (.nilS [56, 3, 1] r r (.condKF r r (.skipS [3, 1] r r (.region (.ks 3 r (.nil' fun c w ho hs => ⟨(w64 (s79 + 1)), hd, I81, hl82, ho.sub ⟨r, r, trivial⟩, hs.pick (.c .z .n)⟩)))))))
 exact .exitS [] r r (.drop .z (.sr (.ks 1 r (.nilS [2] r r (.ret (pret results71 (.t r .n) hl82 ⟨true, r, hd⟩))))))

theorem W_ref09_Sure {I : IH} {a0 : Vec} {p1 : Option Addr} {c2 : Nat} {Q : Vec → Prop} (R3 : RepSl eItem I p1 c2 a0.Items) (hd : ref09_Sure a0 Q) :
  PFun prog 76 [.agg #[.int .i64 a0.N, .slice p1 a0.Items.length c2]] I (o18_ Q) := by
 refine Fun.enter func76 r ntmps76 r (.c .n) fun w0 M => ?_
 refine .sr (.boxA r r r fun b11 => ?_)
 refine .allocA zv51 r r fun b13 => ?_
 refine .nilS [2, 1] r r (.seq (.sr (.loadW ia51 sz51 r (.s .z) r r r ?_)))
 have hw16 := W_ref09_Right (I := I) R3 hd
 refine .callP call71 r hw16 r r fun v17 hv18 => ?_
 obtain ⟨r15, rfl, hd⟩ := hv18
 refine .nilS [4, 2, 1] r r (.condP r hd (fun hb19 hd => ?_) fun hb19 hd => ?_)
 · exact .sr (.loadW ia51 sz51 r (.s .z) r r r (.storeA sz51 r r .z (.t (.t .nil)) r r (.nilS [2] r r (.drop (.s .z) (.ret (pret results76 (.w ia51 sz51 r .z r .n) (.refl _) ⟨a0, _, _, r, R3, hd⟩))))))
 exact .skipS [2] r r (.drop (.s .z) (.sr (.build zv51 un51 BI51 .n (by exact trivial) r r (.storeA sz51 r r .z (.t (.t .nil)) r r (.nilS [2] r r (.ret (pret results76 (.w ia51 sz51 r .z r .n) (.refl _) ⟨({ N := 0, Items := ([] : List Item) } : Vec), _, _, r, (.nil _ _ _), hd⟩)))))))

theorem W_ref09_Get {I : IH} {a0 : Vec} {a1 : Int} {p1 : Option Addr} {c2 : Nat} {Q : (Int × Bool) → Prop} (R3 : RepSl eItem I p1 c2 a0.Items) (hd : ref09_Get a0 a1 Q) :
  PFun prog 72 [.agg #[.int .i64 a0.N, .slice p1 a0.Items.length c2], .int .i64 a1] I (fun _ => o4_ Q) := by
 refine Fun.enter func72 r ntmps72 r (.c (.c .n)) fun w0 M => ?_
 refine .sr (.boxA r r r fun b6 => ?_)
 refine .ks 2 r (.nilS [2, 1] r r (.sr (.loadW ia51 sz51 r .z r r r ?_)))
 have hw27 := W_ref09_Sure (I := I) R3 hd
 refine .call call76 r hw27 r r fun v22 I19 hl20 hv21 => ?_
 obtain ⟨r18, p24, c25, rfl, R26, hd⟩ := hv21
 replace R3 := R3.mono hl20
 refine .storeA sz51 r r .z (.t (.t .nil)) r r (.nilS [2, 1] r r (.seq (.sr (.ks 1 r (.nilS [6, 2, 1] r r (.block (.loop hd (fun (s91 : Int) c w => ∃ I_, IH.le I19 I_ ∧ Ok ⟨30, [], none⟩ [(1, .int .i64 a1), (2, .pointer (some ⟨b6, 0, none⟩)), (6, .int .i64 s91)] c ∧ Sym w0 M I I_ [pto b6 (.cells #[.int .i64 r18.N, .slice p24 r18.Items.length c25] 51 (0, 0))] w) (fun c w ho hs => ⟨I19, (.refl _), ho.sub ⟨r, r, r, trivial⟩, hs.pick (.c .z .n)⟩) ?_)))))))
 rintro s91 next92 hd c w hst
 obtain ⟨I93, hl94, hok, hsym⟩ := hst
 have le95 := IH.le.trans hl20 hl94
 replace R26 := R26.mono hl94
 refine Cod.at hok hsym (.seq (.sr (.ks 1 r (.fa un51 r sz49 r (o := 1) r r r (.load1 ia49 r .z r r r (.len un49 r r r r (.ks 1 r (.nilS [13, 6, 2, 1] r r (.condP r hd (fun hb97 hd => ?_) fun hb97 hd => ?_)))))))))
 · refine .skipS [6, 2, 1] r r (.seq (.block (.sr (.fa un51 r sz49 r (o := 1) r r r (.load1 ia49 r .z r r r (.ks 1 r ?_))))))
   obtain ⟨h107, x108, hx109, hd⟩ := hd
   obtain ⟨b110, o111, cs112, e113, hC114, hr115⟩ := R26.2 _ _ hx109
   cases hr115
   refine .ixa un49 sz71 r e113 r h107 (idx_lt hx109 h107) r r (.fa un71 r sz3 r (o := o111 + s91.toNat * 2) r r r (.ld1 (j := 0) ia3 hC114 r r r r r (.ks 2 r (.nilS [23, 6, 2, 1] r r (.condP r hd (fun hb116 hd => ?_) fun hb116 hd => ?_)))))
   · refine .sr (.fa un51 r sz49 r (o := 1) r r r (.load1 ia49 r .z r r r (.ks 1 r ?_)))
     obtain ⟨h117, x118, hx119, hd⟩ := hd
     obtain ⟨b120, o121, cs122, e123, hC124, hr125⟩ := R26.2 _ _ hx119
     cases hr125
     exact .ixa un49 sz71 r e123 r h117 (idx_lt hx119 h117) r r (.fa un71 r sz2 r (o := o121 + s91.toNat * 2 + 1) r r r (.ld1 (j := 1) ia2 hC124 r r r r r (.ks 2 r (.nilS [5, 4] r r (.drop .z (.ret (pret results72 (.t r (.t r .n)) le95 ⟨(x118.Val, true), r, hd⟩)))))))
   exact .skipS [6, 2, 1] r r (.region (.ks 3 r (.nil' fun c w ho hs => ⟨(w64 (s91 + 1)), hd, I93, hl94, ho.sub ⟨r, r, r, trivial⟩, hs.pick (.c .z .n)⟩)))
 exact .exitS [] r r (.drop .z (.sr (.ks 2 r (.nilS [5, 4] r r (.ret (pret results72 (.t r (.t r .n)) le95 ⟨(0, false), r, hd⟩))))))

theorem W_ref21_Update {I : IH} {a0 : Plan} {a1 : State} {a2 : Int} {a3 : Vec} {p1 : Option Addr} {c2 : Nat} {p4 : Option Addr} {c5 : Nat} {p7 : Option Addr} {c8 : Nat} {p10 : Option Addr} {c11 : Nat} {p13 : Option Addr} {c14 : Nat} {Q : State → Prop} (R3 : RepSl eI64 I p1 c2 a0.Draws) (R6 : RepSl eI64 I p4 c5 a1.A) (R9 : RepSl eI64 I p7 c8 a1.B) (R12 : RepSl eU64 I p10 c11 a1.On) (R15 : RepSl eItem I p13 c14 a3.Items) (hd : ref21_Update a0 a1 a2 a3 Q) :
  PFun prog 26 [.agg #[.int .i64 a0.Kind, .int .i64 a0.N, .int .i64 a0.Source, .int .i64 a0.Length, .slice p1 a0.Draws.length c2], .agg #[.int .i64 a1.Low, .int .i64 a1.High, .slice p4 a1.A.length c5, .slice p7 a1.B.length c8, .slice p10 a1.On.length c11], .int .i64 a2, .agg #[.int .i64 a3.N, .slice p13 a3.Items.length c14]] I (o19_ Q) := by
 refine Fun.enter func26 r ntmps26 r (.c (.c (.c (.c .n)))) fun w0 M => ?_
 refine .sr (.boxA r r r fun b33 => ?_)
 refine .boxA r r r fun b35 => ?_
 refine .boxA r r r fun b37 => ?_
 refine .allocA zv46 r r fun b39 => ?_
 refine .nilS [8, 7, 5, 4, 2] r r (.sr (.loadW ia25 sz25 r (.s (.s (.s .z))) r r r (.loadW ia46 sz46 r (.s (.s .z)) r r r ?_)))
 have hw72 := W_ref21_Sure (I := I) R3 R6 R9 R12 hd
 refine .call call69 r hw72 r r fun v61 I58 hl59 hv60 => ?_
 obtain ⟨r57, p63, c64, p66, c67, p69, c70, rfl, R65, R68, R71, hd⟩ := hv60
 replace R3 := R3.mono hl59
 replace R6 := R6.mono hl59
 replace R9 := R9.mono hl59
 replace R12 := R12.mono hl59
 replace R15 := R15.mono hl59
 refine .storeA sz46 r r (.s (.s .z)) (.t (.t (.t (.t (.t .nil))))) r r (.nilS [8, 7, 5, 4, 2] r r (.sr (.fa un46 r sz3 r (o := 0) r r r (.load1 ia3 r (.s (.s .z)) r r r (.fa un46 r sz3 r (o := 1) r r r (.load1 ia3 r (.s (.s .z)) r r r (.build zv46 un46 BI46 (.c r r r (.t .nil) (.c r r r (.s (.t .nil)) .n)) (by exact ⟨⟨_, _, r, r, r⟩, ⟨⟨_, _, r, r, r⟩, trivial⟩⟩) r r (.allocA zv46 r r fun b75 => ?_))))))))
 refine .storeA sz46 r r .z (.t (.t (.t (.t (.t .nil))))) r r (.nilS [9, 8, 7, 5, 4, 2] r r (.sr (.fa un46 r sz23 r (o := 2) r r r (.load1 ia23 r .z r r r (.fa un46 r sz23 r (o := 2) r r r (.load1 ia23 r (.s (.s (.s .z))) r r r (.own0 eI64 2 ?_)))))))
 obtain ⟨hl83, hd⟩ := hd
 refine .append (ys := r57.A) 8 .z un23 un23 IN2 r r r r r r r r r (.imm R65 r) hl83 r r fun p84 c85 => ?_
 refine .fa un46 r sz23 r (o := 2) r r r (.store1 sz23 r r (.s .z) (.s (.s (.t .nil))) r (.nilS [9, 8, 7, 5, 4, 2] r r (.sr (.fa un46 r sz23 r (o := 3) r r r (.load1 ia23 r (.s .z) r r r (.fa un46 r sz23 r (o := 3) r r r (.load1 ia23 r (.s (.s (.s (.s .z)))) r r r (.own0 eI64 2 ?_))))))))
 obtain ⟨hl93, hd⟩ := hd
 refine .append (ys := r57.B) 8 .z un23 un23 IN2 r r r r r r r r r (.imm R68 r) hl93 r r fun p94 c95 => ?_
 refine .fa un46 r sz23 r (o := 3) r r r (.store1 sz23 r r (.s (.s .z)) (.s (.s (.s (.t .nil)))) r (.nilS [9, 8, 7, 5, 4, 2] r r (.sr (.fa un46 r sz44 r (o := 4) r r r (.load1 ia44 r (.s (.s .z)) r r r (.fa un46 r sz44 r (o := 4) r r r (.load1 ia44 r (.s (.s (.s (.s (.s .z))))) r r r (.own0 eU64 96 ?_))))))))
 obtain ⟨hl103, hd⟩ := hd
 refine .append (ys := r57.On) 8 .z un44 un44 IN96 r r r r r r r r r (.imm R71 r) hl103 r r fun p104 c105 => ?_
 refine .fa un46 r sz44 r (o := 4) r r r (.store1 sz44 r r (.s (.s (.s .z))) (.s (.s (.s (.s (.t .nil))))) r (.nilS [9, 8, 7, 5, 4, 2] r r (.seq (.sr (.loadW ia51 sz51 r (.s (.s (.s (.s (.s .z))))) r r r ?_)))))
 have hw114 := W_ref09_Right (I := I58) R15 hd
 refine .callP call71 r hw114 r r fun v115 hv116 => ?_
 obtain ⟨r113, rfl, hd⟩ := hv116
 refine .ks 2 r ?_
 refine splitP hd (fun hb117 hd => ?_) fun hb117 hd => ?_
 · rw [hb117]
   refine .ks 9 r (.nilS [53, 9, 8, 7, 5, 4, 2] r r (.condKT r r (.sr (.loadW ia46 sz46 r (.s (.s (.s .z))) r r r (.storeA sz46 r r (.s (.s (.s (.s .z)))) (.t (.t (.t (.t (.t .nil))))) r r (.nilS [8] r r (.drop (.s (.s (.s .z))) (.drop (.s (.s (.s (.s .z)))) (.drop (.s (.s (.s (.s .z)))) ?_)))))))))
   refine .drop (.s (.s (.s (.s .z)))) (.pub (.s (.s .z)) fun I118 hl119 R120 => ?_)
   have le121 := IH.le.trans hl59 hl119
   refine .pub (.s .z) fun I122 hl123 R124 => ?_
   have le125 := IH.le.trans le121 hl123
   replace R120 := R120.mono hl123
   refine .pub .z fun I126 hl127 R128 => ?_
   have le129 := IH.le.trans le125 hl127
   replace R120 := R120.mono hl127
   replace R124 := R124.mono hl127
   exact .ret (pret results26 (.w ia46 sz46 r .z r .n) le129 ⟨({ Low := r57.Low, High := r57.High, A := (([] : List Int) ++ r57.A), B := (([] : List Int) ++ r57.B), On := (([] : List Int) ++ r57.On) } : State), _, _, _, _, _, _, r, R120, R124, R128, hd⟩)
 rw [hb117]
 refine .gyes r r r (.fa un51 r sz3 r (o := 0) r r r (.gyes r r r (.load1 ia3 r (.s (.s (.s (.s (.s .z))))) r r r (.gyes r r r (.fa un46 r sz3 r (o := 1) r r r (.gyes r r r (.load1 ia3 r (.s (.s (.s (.s (.s (.s .z)))))) r r r (.gyes r r r (.fa un46 r sz3 r (o := 0) r r r (.gyes r r r (.load1 ia3 r (.s (.s (.s (.s (.s (.s .z)))))) r r r (.ks 3 r (.nilS [53, 9, 8, 7, 5, 4, 2] r r (.condP r hd (fun hb130 hd => ?_) fun hb130 hd => ?_))))))))))))))
 · refine .sr (.loadW ia46 sz46 r (.s (.s (.s .z))) r r r (.storeA sz46 r r (.s (.s (.s (.s .z)))) (.t (.t (.t (.t (.t .nil))))) r r (.nilS [8] r r (.drop (.s (.s (.s .z))) (.drop (.s (.s (.s (.s .z)))) (.drop (.s (.s (.s (.s .z)))) (.drop (.s (.s (.s (.s .z)))) (.pub (.s (.s .z)) fun I131 hl132 R133 => ?_))))))))
   have le134 := IH.le.trans hl59 hl132
   refine .pub (.s .z) fun I135 hl136 R137 => ?_
   have le138 := IH.le.trans le134 hl136
   replace R133 := R133.mono hl136
   refine .pub .z fun I139 hl140 R141 => ?_
   have le142 := IH.le.trans le138 hl140
   replace R133 := R133.mono hl140
   replace R137 := R137.mono hl140
   exact .ret (pret results26 (.w ia46 sz46 r .z r .n) le142 ⟨({ Low := r57.Low, High := r57.High, A := (([] : List Int) ++ r57.A), B := (([] : List Int) ++ r57.B), On := (([] : List Int) ++ r57.On) } : State), _, _, _, _, _, _, r, R133, R137, R141, hd⟩)
 refine .skipS [9, 8, 7, 5, 4, 2] r r (.sr (.ks 1 r (.nilS [10, 9, 8, 7, 5, 4, 2] r r (.seq (.sr (.ks 1 r (.nilS [11, 10, 9, 8, 7, 5, 4, 2] r r (.block (.own0 eI64 3 ?_)))))))))
 refine .loop hd (fun (s : (List Int) × (List Int) × (List Int) × Int) c w => match s with | (s1116, s1120, s1124, s1128) => ∃ I_ p1117 c1118 p1121 c1122 p1125 c1126, IH.le I58 I_ ∧ Ok ⟨163, [], none⟩ [(2, .int .i64 a2), (4, .pointer (some ⟨b33, 0, none⟩)), (5, .pointer (some ⟨b35, 0, none⟩)), (7, .pointer (some ⟨b37, 0, none⟩)), (8, .pointer (some ⟨b39, 0, none⟩)), (9, .pointer (some ⟨b75, 0, none⟩)), (10, .slice p1125 s1124.length c1126), (11, .int .i64 s1128)] c ∧ Sym w0 M I I_ [pto b33 (.cells #[.int .i64 a0.Kind, .int .i64 a0.N, .int .i64 a0.Source, .int .i64 a0.Length, .slice p1 a0.Draws.length c2] 25 (0, 0)), pto b35 (.cells #[.int .i64 r57.Low, .int .i64 r57.High, .slice p63 r57.A.length c64, .slice p66 r57.B.length c67, .slice p69 r57.On.length c70] 46 (0, 0)), pto b37 (.cells #[.int .i64 a3.N, .slice p13 a3.Items.length c14] 51 (0, 0)), pto b39 (.cells #[.int .i64 0, .int .i64 0, .slice none 0 0, .slice none 0 0, .slice none 0 0] 46 (0, 0)), pto b75 (.cells #[.int .i64 r57.Low, .int .i64 r57.High, .slice p1117 s1116.length c1118, .slice p1121 s1120.length c1122, .slice p104 (([] : List Int) ++ r57.On).length c105] 46 (0, 0)), OwnSl eI64 2 p1117 c1118 s1116, OwnSl eI64 2 p1121 c1122 s1120, OwnSl eU64 96 p104 c105 (([] : List Int) ++ r57.On), OwnSl eI64 3 p1125 c1126 s1124] w) (fun c w ho hs => ⟨I58, _, _, _, _, _, _, (.refl _), ho.sub ⟨r, r, r, r, r, r, r, r, trivial⟩, hs.pick (.c (.s (.s (.s (.s (.s (.s (.s (.s .z)))))))) (.c (.s (.s (.s (.s (.s (.s (.s .z))))))) (.c (.s (.s (.s (.s (.s (.s .z)))))) (.c (.s (.s (.s (.s (.s .z))))) (.c (.s (.s (.s (.s .z)))) (.c (.s (.s (.s .z))) (.c (.s (.s .z)) (.c (.s .z) (.c .z .n)))))))))⟩) ?_
 rintro ⟨s1116, s1120, s1124, s1128⟩ next1130 hd c w hst
 obtain ⟨I1131, p1117, c1118, p1121, c1122, p1125, c1126, hl1132, hok, hsym⟩ := hst
 have le1133 := IH.le.trans hl59 hl1132
 replace R3 := R3.mono hl1132
 replace R15 := R15.mono hl1132
 replace R65 := R65.mono hl1132
 replace R68 := R68.mono hl1132
 replace R71 := R71.mono hl1132
 refine Cod.at hok hsym (.seq (.sr (.ks 1 r (.fa un51 r sz3 r (o := 0) r r r (.load1 ia3 r (.s (.s .z)) r r r (.ks 1 r (.nilS [58, 11, 10, 9, 8, 7, 5, 4, 2] r r (.condP r hd (fun hb1135 hd => ?_) fun hb1135 hd => ?_))))))))
 · refine .skipS [11, 10, 9, 8, 7, 5, 4, 2] r r (.seq (.block (.sr (.loadW ia51 sz51 r (.s (.s .z)) r r r (.ks 1 r ?_)))))
   have hw1141 := W_ref09_Get (I := I1131) R15 hd
   refine .callP call72 r hw1141 r r fun v1142 hv1143 => ?_
   obtain ⟨r1140, rfl, hd⟩ := hv1143
   refine .ks 5 r (.nilS [13, 12, 11, 10, 9, 8, 7, 5, 4, 2] r r (.sr (.ks 1 r (.nilS [14, 13, 12, 11, 10, 9, 8, 7, 5, 4, 2] r r (.seq (.sr (.fa un25 r sz22 r (o := 0) r r r (.load1 ia22 r .z r r r (.nilS [68, 14, 13, 12, 11, 10, 9, 8, 7, 5, 4, 2] r r ?_)))))))))
   refine .block (.sr (.ks 2 r (.nilS [102, 68, 14, 13, 12, 11, 10, 9, 8, 7, 5, 4, 2] r r (.condP r hd (fun hb1144 hd => ?_) fun hb1144 hd => ?_))))
   · refine .seq ?_
     refine Cod.joinQ (σ := Bool) hd (fun (s1165 : Bool) c w => ∃ I_, IH.le I1131 I_ ∧ Ok ⟨163, [], none⟩ [(2, .int .i64 a2), (4, .pointer (some ⟨b33, 0, none⟩)), (5, .pointer (some ⟨b35, 0, none⟩)), (7, .pointer (some ⟨b37, 0, none⟩)), (8, .pointer (some ⟨b39, 0, none⟩)), (9, .pointer (some ⟨b75, 0, none⟩)), (10, .slice p1125 s1124.length c1126), (11, .int .i64 s1128), (12, .int .i64 r1140.1), (14, .bool s1165)] c ∧ Sym w0 M I I_ [pto b33 (.cells #[.int .i64 a0.Kind, .int .i64 a0.N, .int .i64 a0.Source, .int .i64 a0.Length, .slice p1 a0.Draws.length c2] 25 (0, 0)), pto b35 (.cells #[.int .i64 r57.Low, .int .i64 r57.High, .slice p63 r57.A.length c64, .slice p66 r57.B.length c67, .slice p69 r57.On.length c70] 46 (0, 0)), pto b37 (.cells #[.int .i64 a3.N, .slice p13 a3.Items.length c14] 51 (0, 0)), pto b39 (.cells #[.int .i64 0, .int .i64 0, .slice none 0 0, .slice none 0 0, .slice none 0 0] 46 (0, 0)), pto b75 (.cells #[.int .i64 r57.Low, .int .i64 r57.High, .slice p1117 s1116.length c1118, .slice p1121 s1120.length c1122, .slice p104 (([] : List Int) ++ r57.On).length c105] 46 (0, 0)), OwnSl eI64 2 p1117 c1118 s1116, OwnSl eI64 2 p1121 c1122 s1120, OwnSl eU64 96 p104 c105 (([] : List Int) ++ r57.On), OwnSl eI64 3 p1125 c1126 s1124] w) (fun k1166 hd => ?_) ?_
     · skip
       refine .region (.ks 2 r ?_)
       refine splitP hd (fun hb1167 hd => ?_) fun hb1167 hd => ?_
       · rw [hb1167]
         refine .gyes r r r (.fa un46 r sz23 r (o := 2) r r r (.gyes r r r (.load1 ia23 r (.s .z) r r r (.ks 1 r ?_))))
         obtain ⟨h1168, x1169, hx1170, hd⟩ := hd
         obtain ⟨b1171, o1172, cs1173, e1174, hC1175, hr1176⟩ := R65.2 _ _ hx1170
         cases hr1176
         exact .gyes r r r (.ixa un23 sz2 r e1174 r h1168 (idx_lt hx1170 h1168) r r (.gyes r r r (.ld1 (j := 0) ia2 hC1175 r r r r r (.ks 3 r (.nil' fun c w ho hs => ⟨(x1169 == (-1)), hd, I1131, (.refl _), ho.sub ⟨r, r, r, r, r, r, r, r, r, r, trivial⟩, hs.pick (.c .z (.c .z (.c .z (.c .z (.c .z (.c .z (.c .z (.c .z (.c .z .n)))))))))⟩)))))
       rw [hb1167]
       exact .ks 8 r (.nil' fun c w ho hs => ⟨false, hd, I1131, (.refl _), ho.sub ⟨r, r, r, r, r, r, r, r, r, r, trivial⟩, hs.pick (.c .z (.c .z (.c .z (.c .z (.c .z (.c .z (.c .z (.c .z (.c .z .n)))))))))⟩)
     rintro s1165 hd c w hst
     obtain ⟨I1177, hl1178, hok, hsym⟩ := hst
     have le1179 := IH.le.trans le1133 hl1178
     have le1180 := IH.le.trans hl1132 hl1178
     replace R3 := R3.mono hl1178
     replace R15 := R15.mono hl1178
     replace R65 := R65.mono hl1178
     replace R68 := R68.mono hl1178
     replace R71 := R71.mono hl1178
     refine Cod.at hok hsym (.sr (.ks 1 r (.nilS [113, 14, 12, 11, 10, 9, 8, 7, 5, 4, 2] r r (.condP r hd (fun hb1181 hd => ?_) fun hb1181 hd => ?_))))
     · refine .sr (.fa un46 r sz23 r (o := 2) r r r (.load1 ia23 r (.s (.s (.s (.s .z)))) r r r (.ks 2 r ?_)))
       obtain ⟨h1182, x1183, hx1184, hd⟩ := hd
       refine .ownNe (.s (.s (.s (.s (.s .z))))) (idx_ne hx1184) fun b1185 e1186 => ?_
       cases e1186
       refine .ixa0 un23 sz2 r r h1182 (idx_lt hx1184 h1182) r r (.stO1 (j := 0) (v' := a2) sz2 (.s (.s (.s (.s (.s .z))))) hx1184 r r r (.t .nil) r (.sub (E' := [(2, _), (4, _), (5, _), (7, _), (8, _), (9, _), (10, _), (11, _), (12, _), (14, _), (113, _), (114, _), (115, .slice (some ⟨b1185, 0, none⟩) (s1116.set s1128.toNat a2).length c1118), (116, _), (117, _), (118, _)]) ⟨r, r, r, r, r, r, r, r, r, r, r, r, (by simp only [List.length_set]; rfl), r, r, r, trivial⟩ (.reat (.s (.s (.s (.s .z)))) (B := pto b75 (.cells #[.int .i64 r57.Low, .int .i64 r57.High, .slice (some ⟨b1185, 0, none⟩) (s1116.set s1128.toNat a2).length c1118, .slice p1121 s1120.length c1122, .slice p104 (([] : List Int) ++ r57.On).length c105] 46 (0, 0))) (by simp only [List.length_set]) (.nilS [14, 12, 11, 10, 9, 8, 7, 5, 4, 2] r r (.region (.fa un46 r sz23 r (o := 3) r r r (.load1 ia23 r (.s (.s (.s (.s .z)))) r r r (.ks 2 r ?_))))))))
       obtain ⟨h1187, x1188, hx1189, hd⟩ := hd
       refine .ownNe (.s (.s (.s (.s (.s (.s .z)))))) (idx_ne hx1189) fun b1190 e1191 => ?_
       cases e1191
       refine .ixa0 un23 sz2 r r h1187 (idx_lt hx1189 h1187) r r (.stO1 (j := 0) (v' := r1140.1) sz2 (.s (.s (.s (.s (.s (.s .z)))))) hx1189 r r r (.t .nil) r (.sub (E' := [(2, _), (4, _), (5, _), (7, _), (8, _), (9, _), (10, _), (11, _), (12, _), (14, _), (119, _), (120, .slice (some ⟨b1190, 0, none⟩) (s1120.set s1128.toNat r1140.1).length c1122), (121, _), (122, _), (123, _)]) ⟨r, r, r, r, r, r, r, r, r, r, r, (by simp only [List.length_set]; rfl), r, r, r, trivial⟩ (.reat (.s (.s (.s (.s .z)))) (B := pto b75 (.cells #[.int .i64 r57.Low, .int .i64 r57.High, .slice (some ⟨b1185, 0, none⟩) (s1116.set s1128.toNat a2).length c1118, .slice (some ⟨b1190, 0, none⟩) (s1120.set s1128.toNat r1140.1).length c1122, .slice p104 (([] : List Int) ++ r57.On).length c105] 46 (0, 0))) (by simp only [List.length_set]) (.nilS [14, 11, 10, 9, 8, 7, 5, 4, 2] r r (.sr (.ks 1 r (.nilS [152, 11, 10, 9, 8, 7, 5, 4, 2] r r (.condKT r hb1181 (.region ?_)))))))))
       refine .ks 2 r (.buildSlice 1 un30 sz3 zv3 r r (.c r r r .n) r r fun b1192 => ?_)
       obtain ⟨hl1194, hd⟩ := hd
       refine .append (ys := [s1128]) 8 (.s (.s (.s (.s (.s (.s (.s (.s (.s .z))))))))) un30 un30 IN3 r r r r r r r r r (.box .z (.one r) r) hl1194 r r fun p1195 c1196 => ?_
       exact .ks 1 r (.nilS [10, 11, 9, 8, 7, 5, 4, 2] r r (.drop (.s .z) (.region (.ks 3 r (.nil' fun c w ho hs => ⟨((s1116.set s1128.toNat a2), (s1120.set s1128.toNat r1140.1), (s1124 ++ ([s1128])), w64 (s1128 + 1)), hd, I1177, _, _, _, _, _, _, le1180, ho.sub ⟨r, r, r, r, r, r, r, r, trivial⟩, hs.pick (.c (.s .z) (.c (.s .z) (.c (.s .z) (.c (.s .z) (.c (.s .z) (.c (.s .z) (.c (.s .z) (.c (.s .z) (.c .z .n)))))))))⟩)))))
     exact .skipS [14, 11, 10, 9, 8, 7, 5, 4, 2] r r (.sr (.ks 1 r (.nilS [152, 11, 10, 9, 8, 7, 5, 4, 2] r r (.condKF r hb1181 (.skipS [11, 10, 9, 8, 7, 5, 4, 2] r r (.region (.ks 3 r (.nil' fun c w ho hs => ⟨(s1116, s1120, s1124, w64 (s1128 + 1)), hd, I1177, _, _, _, _, _, _, le1180, ho.sub ⟨r, r, r, r, r, r, r, r, trivial⟩, hs.pick (.c .z (.c .z (.c .z (.c .z (.c .z (.c .z (.c .z (.c .z (.c .z .n)))))))))⟩))))))))
   refine .seq ?_
   refine Cod.joinQ (σ := Bool) hd (fun (s1200 : Bool) c w => ∃ I_, IH.le I1131 I_ ∧ Ok ⟨163, [], none⟩ [(2, .int .i64 a2), (4, .pointer (some ⟨b33, 0, none⟩)), (5, .pointer (some ⟨b35, 0, none⟩)), (7, .pointer (some ⟨b37, 0, none⟩)), (8, .pointer (some ⟨b39, 0, none⟩)), (9, .pointer (some ⟨b75, 0, none⟩)), (10, .slice p1125 s1124.length c1126), (11, .int .i64 s1128), (12, .int .i64 r1140.1), (13, .bool r1140.2), (14, .bool false), (68, .int .i64 a0.Kind), (124, .bool s1200)] c ∧ Sym w0 M I I_ [pto b33 (.cells #[.int .i64 a0.Kind, .int .i64 a0.N, .int .i64 a0.Source, .int .i64 a0.Length, .slice p1 a0.Draws.length c2] 25 (0, 0)), pto b35 (.cells #[.int .i64 r57.Low, .int .i64 r57.High, .slice p63 r57.A.length c64, .slice p66 r57.B.length c67, .slice p69 r57.On.length c70] 46 (0, 0)), pto b37 (.cells #[.int .i64 a3.N, .slice p13 a3.Items.length c14] 51 (0, 0)), pto b39 (.cells #[.int .i64 0, .int .i64 0, .slice none 0 0, .slice none 0 0, .slice none 0 0] 46 (0, 0)), pto b75 (.cells #[.int .i64 r57.Low, .int .i64 r57.High, .slice p1117 s1116.length c1118, .slice p1121 s1120.length c1122, .slice p104 (([] : List Int) ++ r57.On).length c105] 46 (0, 0)), OwnSl eI64 2 p1117 c1118 s1116, OwnSl eI64 2 p1121 c1122 s1120, OwnSl eU64 96 p104 c105 (([] : List Int) ++ r57.On), OwnSl eI64 3 p1125 c1126 s1124] w) (fun k1201 hd => ?_) ?_
   · skip
     refine .sr (.ks 2 r (.nilS [124, 68, 14, 13, 12, 11, 10, 9, 8, 7, 5, 4, 2] r r (.condP r hd (fun hb1202 hd => ?_) fun hb1202 hd => ?_)))
     · exact .skip' fun c w ho hs => ⟨(a0.Kind == 2), hd, I1131, (.refl _), ho.sub ⟨r, r, r, r, r, r, r, r, r, r, r, r, r, trivial⟩, hs.pick (.c .z (.c .z (.c .z (.c .z (.c .z (.c .z (.c .z (.c .z (.c .z .n)))))))))⟩
     exact .region (.ks 2 r (.nil' fun c w ho hs => ⟨(a0.Kind == 3), hd, I1131, (.refl _), ho.sub ⟨r, r, r, r, r, r, r, r, r, r, r, r, r, trivial⟩, hs.pick (.c .z (.c .z (.c .z (.c .z (.c .z (.c .z (.c .z (.c .z (.c .z .n)))))))))⟩))
   rintro s1200 hd c w hst
   obtain ⟨I1203, hl1204, hok, hsym⟩ := hst
   have le1205 := IH.le.trans le1133 hl1204
   have le1206 := IH.le.trans hl1132 hl1204
   replace R3 := R3.mono hl1204
   replace R15 := R15.mono hl1204
   replace R65 := R65.mono hl1204
   replace R68 := R68.mono hl1204
   replace R71 := R71.mono hl1204
   refine Cod.at hok hsym (.condP r hd (fun hb1207 hd => ?_) fun hb1207 hd => ?_)
   · refine .sr (.ks 2 r ?_)
     refine splitP hd (fun hb1208 hd => ?_) fun hb1208 hd => ?_
     · rw [hb1208]
       refine .ks 1 r (.gyes r r r (.fa un46 r sz23 r (o := 2) r r r (.gyes r r r (.load1 ia23 r (.s .z) r r r (.ks 1 r ?_)))))
       obtain ⟨h1209, x1210, hx1211, hd⟩ := hd
       obtain ⟨b1212, o1213, cs1214, e1215, hC1216, hr1217⟩ := R65.2 _ _ hx1211
       cases hr1217
       refine .gyes r r r (.ixa un23 sz2 r e1215 r h1209 (idx_lt hx1211 h1209) r r (.gyes r r r (.ld1 (j := 0) ia2 hC1216 r r r r r (.ks 3 r (.nilS [14, 12, 11, 10, 9, 8, 7, 5, 4, 2] r r (.sr (.ks 1 r (.nilS [137, 14, 12, 11, 10, 9, 8, 7, 5, 4, 2] r r (.condP r hd (fun hb1218 hd => ?_) fun hb1218 hd => ?_)))))))))
       · refine .region (.fa un46 r sz23 r (o := 2) r r r (.load1 ia23 r (.s (.s (.s (.s .z)))) r r r (.ks 2 r ?_)))
         obtain ⟨h1219, x1220, hx1221, hd⟩ := hd
         refine .ownNe (.s (.s (.s (.s (.s .z))))) (idx_ne hx1221) fun b1222 e1223 => ?_
         cases e1223
         refine .ixa0 un23 sz2 r r h1219 (idx_lt hx1221 h1219) r r (.stO1 (j := 0) (v' := r1140.1) sz2 (.s (.s (.s (.s (.s .z))))) hx1221 r r r (.t .nil) r (.sub (E' := [(2, _), (4, _), (5, _), (7, _), (8, _), (9, _), (10, _), (11, _), (12, _), (14, _), (137, _), (138, _), (139, .slice (some ⟨b1222, 0, none⟩) (s1116.set s1128.toNat r1140.1).length c1118), (140, _), (141, _), (142, _)]) ⟨r, r, r, r, r, r, r, r, r, r, r, r, (by simp only [List.length_set]; rfl), r, r, r, trivial⟩ (.reat (.s (.s (.s (.s .z)))) (B := pto b75 (.cells #[.int .i64 r57.Low, .int .i64 r57.High, .slice (some ⟨b1222, 0, none⟩) (s1116.set s1128.toNat r1140.1).length c1118, .slice p1121 s1120.length c1122, .slice p104 (([] : List Int) ++ r57.On).length c105] 46 (0, 0))) (by simp only [List.length_set]) (.nilS [14, 11, 10, 9, 8, 7, 5, 4, 2] r r (.sr (.ks 1 r (.nilS [152, 11, 10, 9, 8, 7, 5, 4, 2] r r (.condKT r hb1218 (.region ?_)))))))))
         refine .ks 2 r (.buildSlice 1 un30 sz3 zv3 r r (.c r r r .n) r r fun b1224 => ?_)
         obtain ⟨hl1226, hd⟩ := hd
         refine .append (ys := [s1128]) 8 (.s (.s (.s (.s (.s (.s (.s (.s (.s .z))))))))) un30 un30 IN3 r r r r r r r r r (.box .z (.one r) r) hl1226 r r fun p1227 c1228 => ?_
         exact .ks 1 r (.nilS [10, 11, 9, 8, 7, 5, 4, 2] r r (.drop (.s .z) (.region (.ks 3 r (.nil' fun c w ho hs => ⟨((s1116.set s1128.toNat r1140.1), s1120, (s1124 ++ ([s1128])), w64 (s1128 + 1)), hd, I1203, _, _, _, _, _, _, le1206, ho.sub ⟨r, r, r, r, r, r, r, r, trivial⟩, hs.pick (.c (.s .z) (.c (.s .z) (.c (.s .z) (.c (.s .z) (.c (.s .z) (.c (.s .z) (.c (.s .z) (.c (.s .z) (.c .z .n)))))))))⟩)))))
       exact .skipS [14, 11, 10, 9, 8, 7, 5, 4, 2] r r (.sr (.ks 1 r (.nilS [152, 11, 10, 9, 8, 7, 5, 4, 2] r r (.condKF r hb1218 (.skipS [11, 10, 9, 8, 7, 5, 4, 2] r r (.region (.ks 3 r (.nil' fun c w ho hs => ⟨(s1116, s1120, s1124, w64 (s1128 + 1)), hd, I1203, _, _, _, _, _, _, le1206, ho.sub ⟨r, r, r, r, r, r, r, r, trivial⟩, hs.pick (.c .z (.c .z (.c .z (.c .z (.c .z (.c .z (.c .z (.c .z (.c .z .n)))))))))⟩))))))))
     rw [hb1208]
     refine .ks 9 r (.nilS [14, 12, 11, 10, 9, 8, 7, 5, 4, 2] r r (.sr (.ks 1 r (.nilS [137, 14, 12, 11, 10, 9, 8, 7, 5, 4, 2] r r (.condKF r r (.skipS [14, 11, 10, 9, 8, 7, 5, 4, 2] r r (.sr (.ks 1 r (.nilS [152, 11, 10, 9, 8, 7, 5, 4, 2] r r ?_)))))))))
     exact .condKF r r (.skipS [11, 10, 9, 8, 7, 5, 4, 2] r r (.region (.ks 3 r (.nil' fun c w ho hs => ⟨(s1116, s1120, s1124, w64 (s1128 + 1)), hd, I1203, _, _, _, _, _, _, le1206, ho.sub ⟨r, r, r, r, r, r, r, r, trivial⟩, hs.pick (.c .z (.c .z (.c .z (.c .z (.c .z (.c .z (.c .z (.c .z (.c .z .n)))))))))⟩))))
   refine .sr (.ks 2 r (.nilS [143, 14, 13, 12, 11, 10, 9, 8, 7, 5, 4, 2] r r (.condP r hd (fun hb1230 hd => ?_) fun hb1230 hd => ?_)))
   · refine .sr (.fa un46 r sz23 r (o := 2) r r r (.load1 ia23 r (.s (.s (.s (.s .z)))) r r r (.ks 2 r ?_)))
     obtain ⟨h1231, x1232, hx1233, hd⟩ := hd
     refine .ownNe (.s (.s (.s (.s (.s .z))))) (idx_ne hx1233) fun b1234 e1235 => ?_
     cases e1235
     refine .ixa0 un23 sz2 r r h1231 (idx_lt hx1233 h1231) r r (.stO1 (j := 0) (v' := r1140.1) sz2 (.s (.s (.s (.s (.s .z))))) hx1233 r r r (.t .nil) r (.sub (E' := [(2, _), (4, _), (5, _), (7, _), (8, _), (9, _), (10, _), (11, _), (12, _), (13, _), (14, _), (143, _), (145, _), (146, .slice (some ⟨b1234, 0, none⟩) (s1116.set s1128.toNat r1140.1).length c1118), (147, _), (148, _), (149, _)]) ⟨r, r, r, r, r, r, r, r, r, r, r, r, r, (by simp only [List.length_set]; rfl), r, r, r, trivial⟩ (.reat (.s (.s (.s (.s .z)))) (B := pto b75 (.cells #[.int .i64 r57.Low, .int .i64 r57.High, .slice (some ⟨b1234, 0, none⟩) (s1116.set s1128.toNat r1140.1).length c1118, .slice p1121 s1120.length c1122, .slice p104 (([] : List Int) ++ r57.On).length c105] 46 (0, 0))) (by simp only [List.length_set]) (.nilS [12, 11, 10, 9, 8, 7, 5, 4, 2] r r (.region (.ks 3 r (.nilS [14, 11, 10, 9, 8, 7, 5, 4, 2] r r (.sr (.ks 1 r ?_)))))))))
     refine .nilS [152, 11, 10, 9, 8, 7, 5, 4, 2] r r (.condP r hd (fun hb1236 hd => ?_) fun hb1236 hd => ?_)
     · refine .region (.ks 2 r (.buildSlice 1 un30 sz3 zv3 r r (.c r r r .n) r r fun b1237 => ?_))
       obtain ⟨hl1239, hd⟩ := hd
       refine .append (ys := [s1128]) 8 (.s (.s (.s (.s (.s (.s (.s (.s (.s .z))))))))) un30 un30 IN3 r r r r r r r r r (.box .z (.one r) r) hl1239 r r fun p1240 c1241 => ?_
       exact .ks 1 r (.nilS [10, 11, 9, 8, 7, 5, 4, 2] r r (.drop (.s .z) (.region (.ks 3 r (.nil' fun c w ho hs => ⟨((s1116.set s1128.toNat r1140.1), s1120, (s1124 ++ ([s1128])), w64 (s1128 + 1)), hd, I1203, _, _, _, _, _, _, le1206, ho.sub ⟨r, r, r, r, r, r, r, r, trivial⟩, hs.pick (.c (.s .z) (.c (.s .z) (.c (.s .z) (.c (.s .z) (.c (.s .z) (.c (.s .z) (.c (.s .z) (.c (.s .z) (.c .z .n)))))))))⟩)))))
     exact .skipS [11, 10, 9, 8, 7, 5, 4, 2] r r (.region (.ks 3 r (.nil' fun c w ho hs => ⟨((s1116.set s1128.toNat r1140.1), s1120, s1124, w64 (s1128 + 1)), hd, I1203, _, _, _, _, _, _, le1206, ho.sub ⟨r, r, r, r, r, r, r, r, trivial⟩, hs.pick (.c .z (.c .z (.c .z (.c .z (.c .z (.c .z (.c .z (.c .z (.c .z .n)))))))))⟩)))
   refine .seq (.sr (.fa un46 r sz23 r (o := 2) r r r (.load1 ia23 r (.s .z) r r r (.ks 1 r ?_))))
   obtain ⟨h1253, x1254, hx1255, hd⟩ := hd
   obtain ⟨b1256, o1257, cs1258, e1259, hC1260, hr1261⟩ := R65.2 _ _ hx1255
   cases hr1261
   refine .ixa un23 sz2 r e1259 r h1253 (idx_lt hx1255 h1253) r r (.ld1 (j := 0) ia2 hC1260 r r r r r (.ks 1 r (.nilS [74, 14, 13, 12, 11, 10, 9, 8, 7, 5, 4, 2] r r (.condP r hd (fun hb1262 hd => ?_) fun hb1262 hd => ?_))))
   · exact .exitS [14, 11, 10, 9, 8, 7, 5, 4, 2] r r (.sr (.ks 1 r (.nilS [152, 11, 10, 9, 8, 7, 5, 4, 2] r r (.condKF r r (.skipS [11, 10, 9, 8, 7, 5, 4, 2] r r (.region (.ks 3 r (.nil' fun c w ho hs => ⟨(s1116, s1120, s1124, w64 (s1128 + 1)), hd, I1203, _, _, _, _, _, _, le1206, ho.sub ⟨r, r, r, r, r, r, r, r, trivial⟩, hs.pick (.c .z (.c .z (.c .z (.c .z (.c .z (.c .z (.c .z (.c .z (.c .z .n)))))))))⟩))))))))
   refine .skipS [14, 13, 12, 11, 10, 9, 8, 7, 5, 4, 2] r r (.seq (.sr (.ks 1 r (.rem r r (by decide) r r (.ks 1 r (.nilS [77, 14, 13, 12, 11, 10, 9, 8, 7, 5, 4, 2] r r (.condP r hd (fun hb1270 hd => ?_) fun hb1270 hd => ?_)))))))
   · refine .seq (.sr (.ks 1 r (.nilS [78, 14, 11, 10, 9, 8, 7, 5, 4, 2] r r (.condP r hd (fun hb1271 hd => ?_) fun hb1271 hd => ?_))))
     · refine .region (.fa un46 r sz23 r (o := 2) r r r (.load1 ia23 r (.s (.s (.s (.s .z)))) r r r (.ks 1 r ?_)))
       obtain ⟨h1272, x1273, hx1274, hd⟩ := hd
       refine .ownNe (.s (.s (.s (.s (.s .z))))) (idx_ne hx1274) fun b1275 e1276 => ?_
       cases e1276
       refine .ixa0 un23 sz2 r r h1272 (idx_lt hx1274 h1272) r r (.stO1 (j := 0) (v' := 2) sz2 (.s (.s (.s (.s (.s .z))))) hx1274 r r r (.t .nil) r (.sub (E' := [(2, _), (4, _), (5, _), (7, _), (8, _), (9, _), (10, _), (11, _), (14, _), (78, _), (79, _), (80, .slice (some ⟨b1275, 0, none⟩) (s1116.set s1128.toNat 2).length c1118), (81, _), (82, _)]) ⟨r, r, r, r, r, r, r, r, r, r, r, (by simp only [List.length_set]; rfl), r, r, trivial⟩ (.reat (.s (.s (.s (.s .z)))) (B := pto b75 (.cells #[.int .i64 r57.Low, .int .i64 r57.High, .slice (some ⟨b1275, 0, none⟩) (s1116.set s1128.toNat 2).length c1118, .slice p1121 s1120.length c1122, .slice p104 (([] : List Int) ++ r57.On).length c105] 46 (0, 0))) (by simp only [List.length_set]) (.nilS [14, 11, 10, 9, 8, 7, 5, 4, 2] r r (.exitS [14, 11, 10, 9, 8, 7, 5, 4, 2] r r (.sr (.ks 1 r (.nilS [152, 11, 10, 9, 8, 7, 5, 4, 2] r r (.condKF r r ?_)))))))))
       exact .skipS [11, 10, 9, 8, 7, 5, 4, 2] r r (.region (.ks 3 r (.nil' fun c w ho hs => ⟨((s1116.set s1128.toNat 2), s1120, s1124, w64 (s1128 + 1)), hd, I1203, _, _, _, _, _, _, le1206, ho.sub ⟨r, r, r, r, r, r, r, r, trivial⟩, hs.pick (.c .z (.c .z (.c .z (.c .z (.c .z (.c .z (.c .z (.c .z (.c .z .n)))))))))⟩)))
     exact .skipS [14, 11, 10, 9, 8, 7, 5, 4, 2] r r (.exitS [14, 11, 10, 9, 8, 7, 5, 4, 2] r r (.sr (.ks 1 r (.nilS [152, 11, 10, 9, 8, 7, 5, 4, 2] r r (.condKF r r (.skipS [11, 10, 9, 8, 7, 5, 4, 2] r r (.region (.ks 3 r (.nil' fun c w ho hs => ⟨(s1116, s1120, s1124, w64 (s1128 + 1)), hd, I1203, _, _, _, _, _, _, le1206, ho.sub ⟨r, r, r, r, r, r, r, r, trivial⟩, hs.pick (.c .z (.c .z (.c .z (.c .z (.c .z (.c .z (.c .z (.c .z (.c .z .n)))))))))⟩)))))))))
   refine .skipS [13, 12, 11, 10, 9, 8, 7, 5, 4, 2] r r (.seq (.dr [0, 1, 2, 3, 4, 5, 7, 8, 9, 10, 6, 11, 12, 13] 14 (.fk 3 r ?_)))
   refine splitP hd (fun hb1277 hd => ?_) fun hb1277 hd => ?_
   · refine .g r r r (fun _ => .gno r r hb1277 r r .mk) (.g r r r (fun _ => .gno r r hb1277 r r .mk) (.g r r r (fun _ => .gno r r hb1277 r r .mk) (.g r r r (fun _ => .gno r r hb1277 r r .mk) (.g r r r (fun _ => .gno r r hb1277 r r .mk) (.g r r r (fun _ => .gno r r hb1277 r r .mk) (.g r r r (fun _ => .gno r r hb1277 r r .mk) (.g r r r (fun _ => .gno r r hb1277 r r .mk) (.g r r r (fun _ => .gno r r hb1277 r r .mk) (.g r r r (fun _ => .gno r r hb1277 r r .mk) ?_)))))))))
     refine .g r r r (fun _ => .pickT r hb1277 r r r .mk) (.e2 14 (.ks 1 r (.nilS [14, 11, 10, 9, 8, 7, 5, 4, 2] r r (.sr (.ks 1 r (.nilS [97, 14, 11, 10, 9, 8, 7, 5, 4, 2] r r (.condKT r r (.region (.fa un46 r sz23 r (o := 2) r r r ?_)))))))))
     refine .load1 ia23 r (.s (.s (.s (.s .z)))) r r r (.ks 1 r ?_)
     obtain ⟨h1278, x1279, hx1280, hd⟩ := hd
     refine .ownNe (.s (.s (.s (.s (.s .z))))) (idx_ne hx1280) fun b1281 e1282 => ?_
     cases e1282
     refine .ixa0 un23 sz2 r r h1278 (idx_lt hx1280 h1278) r r (.stO1 (j := 0) (v' := 1) sz2 (.s (.s (.s (.s (.s .z))))) hx1280 r r r (.t .nil) r (.sub (E' := [(2, _), (4, _), (5, _), (7, _), (8, _), (9, _), (10, _), (11, _), (14, _), (97, _), (98, _), (99, .slice (some ⟨b1281, 0, none⟩) (s1116.set s1128.toNat 1).length c1118), (100, _), (101, _)]) ⟨r, r, r, r, r, r, r, r, r, r, r, (by simp only [List.length_set]; rfl), r, r, trivial⟩ (.reat (.s (.s (.s (.s .z)))) (B := pto b75 (.cells #[.int .i64 r57.Low, .int .i64 r57.High, .slice (some ⟨b1281, 0, none⟩) (s1116.set s1128.toNat 1).length c1118, .slice p1121 s1120.length c1122, .slice p104 (([] : List Int) ++ r57.On).length c105] 46 (0, 0))) (by simp only [List.length_set]) (.nilS [14, 11, 10, 9, 8, 7, 5, 4, 2] r r (.sr (.ks 1 r (.nilS [152, 11, 10, 9, 8, 7, 5, 4, 2] r r (.condKT r r (.region ?_)))))))))
     refine .ks 2 r (.buildSlice 1 un30 sz3 zv3 r r (.c r r r .n) r r fun b1283 => ?_)
     obtain ⟨hl1285, hd⟩ := hd
     refine .append (ys := [s1128]) 8 (.s (.s (.s (.s (.s (.s (.s (.s (.s .z))))))))) un30 un30 IN3 r r r r r r r r r (.box .z (.one r) r) hl1285 r r fun p1286 c1287 => ?_
     exact .ks 1 r (.nilS [10, 11, 9, 8, 7, 5, 4, 2] r r (.drop (.s .z) (.region (.ks 3 r (.nil' fun c w ho hs => ⟨((s1116.set s1128.toNat 1), s1120, (s1124 ++ ([s1128])), w64 (s1128 + 1)), hd, I1203, _, _, _, _, _, _, le1206, ho.sub ⟨r, r, r, r, r, r, r, r, trivial⟩, hs.pick (.c (.s .z) (.c (.s .z) (.c (.s .z) (.c (.s .z) (.c (.s .z) (.c (.s .z) (.c (.s .z) (.c (.s .z) (.c .z .n)))))))))⟩)))))
   refine .g r r r (fun _ => .gyes r r hb1277 (.move r r r .mk)) (.g r r r (fun _ => .gyes r r hb1277 (.loadW ia25 sz25 r .z r r r .mk)) (.g r r r (fun _ => .gyes r r hb1277 (.move r r r .mk)) (.g r r r (fun _ => .gyes r r hb1277 (.fa un46 r sz3 r (o := 0) r r r .mk)) (.g r r r (fun _ => .gyes r r hb1277 (.load1 ia3 r (.s .z) r r r .mk)) (.g r r r (fun _ => .gyes r r hb1277 (.move r r r .mk)) (.g r r r (fun _ => .gyes r r hb1277 (.add r r r r .mk)) (.ww r fun ex => ?_)))))))
   have hw1290 := W_ref21_draw (I := I1203) hd
   refine .gyes r r hb1277 (.callP call73 r hw1290 r r fun v1291 hv1292 => ?_)
   obtain ⟨r1289, rfl, hd⟩ := hv1292
   refine .so 9 r r r (.cg r r r r (fun _ => .gyes r r hb1277 (.add r r r r .mk)) (.cg r r r r (fun _ => .gyes r r hb1277 (.move r r r .mk)) (.cg r r r r (fun _ => .gyes r r hb1277 (.load1 ia3 r (.s .z) r r r .mk)) (.cg r r r r (fun _ => .gyes r r hb1277 (.fa un46 r sz3 r (o := 0) r r r .mk)) (.cg r r r r (fun _ => .gyes r r hb1277 (.loadW ia25 sz25 r .z r r r .mk)) (.cg r r r r (fun _ => .gyes r r hb1277 (.move r r r .mk)) trivial)))))) (.ww r fun ex => ?_)
   have hw1294 := W_ref21_Draw (I := I1203) R3 hd
   refine .gyes r r hb1277 (.callP call15 r hw1294 r r fun v1295 hv1296 => ?_)
   obtain ⟨r1293, rfl, hd⟩ := hv1296
   refine .so 9 r r r (.cg r r r r (fun _ => .gyes r r hb1277 (.move r r r .mk)) trivial) (.g r r r (fun _ => .gyes r r hb1277 (.gt r r r r .mk)) (.g r r r (fun _ => .pickF r hb1277 r r r .mk) (.e2 14 (.ks 1 r (.nilS [14, 11, 10, 9, 8, 7, 5, 4, 2] r r (.sr (.ks 1 r (.nilS [97, 14, 11, 10, 9, 8, 7, 5, 4, 2] r r (.condP r hd (fun hb1297 hd => ?_) fun hb1297 hd => ?_)))))))))
   · refine .region (.fa un46 r sz23 r (o := 2) r r r (.load1 ia23 r (.s (.s (.s (.s .z)))) r r r (.ks 1 r ?_)))
     obtain ⟨h1298, x1299, hx1300, hd⟩ := hd
     refine .ownNe (.s (.s (.s (.s (.s .z))))) (idx_ne hx1300) fun b1301 e1302 => ?_
     cases e1302
     refine .ixa0 un23 sz2 r r h1298 (idx_lt hx1300 h1298) r r (.stO1 (j := 0) (v' := 1) sz2 (.s (.s (.s (.s (.s .z))))) hx1300 r r r (.t .nil) r (.sub (E' := [(2, _), (4, _), (5, _), (7, _), (8, _), (9, _), (10, _), (11, _), (14, _), (97, _), (98, _), (99, .slice (some ⟨b1301, 0, none⟩) (s1116.set s1128.toNat 1).length c1118), (100, _), (101, _)]) ⟨r, r, r, r, r, r, r, r, r, r, r, (by simp only [List.length_set]; rfl), r, r, trivial⟩ (.reat (.s (.s (.s (.s .z)))) (B := pto b75 (.cells #[.int .i64 r57.Low, .int .i64 r57.High, .slice (some ⟨b1301, 0, none⟩) (s1116.set s1128.toNat 1).length c1118, .slice p1121 s1120.length c1122, .slice p104 (([] : List Int) ++ r57.On).length c105] 46 (0, 0))) (by simp only [List.length_set]) (.nilS [14, 11, 10, 9, 8, 7, 5, 4, 2] r r (.sr (.ks 1 r (.nilS [152, 11, 10, 9, 8, 7, 5, 4, 2] r r (.condKT r hb1297 (.region ?_)))))))))
     refine .ks 2 r (.buildSlice 1 un30 sz3 zv3 r r (.c r r r .n) r r fun b1303 => ?_)
     obtain ⟨hl1305, hd⟩ := hd
     refine .append (ys := [s1128]) 8 (.s (.s (.s (.s (.s (.s (.s (.s (.s .z))))))))) un30 un30 IN3 r r r r r r r r r (.box .z (.one r) r) hl1305 r r fun p1306 c1307 => ?_
     exact .ks 1 r (.nilS [10, 11, 9, 8, 7, 5, 4, 2] r r (.drop (.s .z) (.region (.ks 3 r (.nil' fun c w ho hs => ⟨((s1116.set s1128.toNat 1), s1120, (s1124 ++ ([s1128])), w64 (s1128 + 1)), hd, I1203, _, _, _, _, _, _, le1206, ho.sub ⟨r, r, r, r, r, r, r, r, trivial⟩, hs.pick (.c (.s .z) (.c (.s .z) (.c (.s .z) (.c (.s .z) (.c (.s .z) (.c (.s .z) (.c (.s .z) (.c (.s .z) (.c .z .n)))))))))⟩)))))
   exact .skipS [14, 11, 10, 9, 8, 7, 5, 4, 2] r r (.sr (.ks 1 r (.nilS [152, 11, 10, 9, 8, 7, 5, 4, 2] r r (.condKF r hb1297 (.skipS [11, 10, 9, 8, 7, 5, 4, 2] r r (.region (.ks 3 r (.nil' fun c w ho hs => ⟨(s1116, s1120, s1124, w64 (s1128 + 1)), hd, I1203, _, _, _, _, _, _, le1206, ho.sub ⟨r, r, r, r, r, r, r, r, trivial⟩, hs.pick (.c .z (.c .z (.c .z (.c .z (.c .z (.c .z (.c .z (.c .z (.c .z .n)))))))))⟩))))))))
 refine .exitS [10, 9, 8, 7] r r (.drop .z (.drop .z (.sr (.fa un51 r sz3 r (o := 0) r r r (.load1 ia3 r .z r r r (.ks 1 r (.pub (.s (.s (.s (.s (.s (.s .z)))))) fun I1309 hl1310 R1311 => ?_)))))))
 have le1312 := IH.le.trans le1133 hl1310
 have le1313 := IH.le.trans hl1132 hl1310
 replace R15 := R15.mono hl1310
 have hw1323 := W_ref03_Of (I := I1309) R1311 hd
 refine .call call58 r hw1323 r r fun v1318 I1315 hl1316 hv1317 => ?_
 obtain ⟨r1314, p1320, c1321, rfl, R1322, hd⟩ := hv1317
 have le1324 := IH.le.trans le1312 hl1316
 have le1325 := IH.le.trans le1313 hl1316
 replace R15 := R15.mono hl1316
 replace R1311 := R1311.mono hl1316
 refine .fa un46 r sz44 r (o := 4) r r r (.store1 sz44 r r (.s (.s .z)) (.s (.s (.s (.s (.t .nil))))) r (.nilS [9, 8] r r (.drop .z (.drop (.s (.s (.s (.s .z)))) (.sr (.loadW ia46 sz46 r (.s .z) r r r (.storeA sz46 r r .z (.t (.t (.t (.t (.t .nil))))) r r (.nilS [8] r r (.drop (.s .z) ?_)))))))))
 refine .pub (.s .z) fun I1326 hl1327 R1328 => ?_
 have le1329 := IH.le.trans le1324 hl1327
 have le1330 := IH.le.trans le1325 hl1327
 replace R1322 := R1322.mono hl1327
 refine .pub (.s .z) fun I1331 hl1332 R1333 => ?_
 have le1334 := IH.le.trans le1329 hl1332
 have le1335 := IH.le.trans le1330 hl1332
 replace R1322 := R1322.mono hl1332
 replace R1328 := R1328.mono hl1332
 exact .ret (pret results26 (.w ia46 sz46 r .z r .n) le1334 ⟨({ Low := r57.Low, High := r57.High, A := s1116, B := s1120, On := r1314 } : State), _, _, _, _, _, _, r, R1328, R1333, R1322, hd⟩)

theorem W_ref21_Live {I : IH} {a0 : Plan} {a1 : State} {a2 : Int} {p1 : Option Addr} {c2 : Nat} {p4 : Option Addr} {c5 : Nat} {p7 : Option Addr} {c8 : Nat} {p10 : Option Addr} {c11 : Nat} {Q : Int → Prop} (R3 : RepSl eI64 I p1 c2 a0.Draws) (R6 : RepSl eI64 I p4 c5 a1.A) (R9 : RepSl eI64 I p7 c8 a1.B) (R12 : RepSl eU64 I p10 c11 a1.On) (hd : ref21_Live a0 a1 a2 Q) :
  PFun prog 28 [.agg #[.int .i64 a0.Kind, .int .i64 a0.N, .int .i64 a0.Source, .int .i64 a0.Length, .slice p1 a0.Draws.length c2], .agg #[.int .i64 a1.Low, .int .i64 a1.High, .slice p4 a1.A.length c5, .slice p7 a1.B.length c8, .slice p10 a1.On.length c11], .int .i64 a2] I (fun _ => o1_ Q) := by
 refine Fun.enter func28 r ntmps28 r (.c (.c (.c .n))) fun w0 M => ?_
 refine .sr (.boxA r r r fun b17 => ?_)
 refine .boxA r r r fun b19 => ?_
 refine .ks 1 r (.nilS [4, 3, 2] r r (.sr (.loadW ia25 sz25 r (.s .z) r r r (.loadW ia46 sz46 r .z r r r ?_))))
 have hw52 := W_ref21_Sure (I := I) R3 R6 R9 R12 hd
 refine .call call69 r hw52 r r fun v41 I38 hl39 hv40 => ?_
 obtain ⟨r37, p43, c44, p46, c47, p49, c50, rfl, R45, R48, R51, hd⟩ := hv40
 replace R3 := R3.mono hl39
 replace R6 := R6.mono hl39
 replace R9 := R9.mono hl39
 replace R12 := R12.mono hl39
 refine .storeA sz46 r r .z (.t (.t (.t (.t (.t .nil))))) r r (.nilS [4, 3, 2] r r (.seq ?_))
 refine Cod.joinQ (σ := Unit) hd (fun (_ : Unit) c w => ∃ I_, IH.le I38 I_ ∧ Ok ⟨55, [], none⟩ [(3, .pointer (some ⟨b17, 0, none⟩)), (4, .pointer (some ⟨b19, 0, none⟩))] c ∧ Sym w0 M I I_ [pto b17 (.cells #[.int .i64 a0.Kind, .int .i64 a0.N, .int .i64 a0.Source, .int .i64 a0.Length, .slice p1 a0.Draws.length c2] 25 (0, 0)), pto b19 (.cells #[.int .i64 r37.Low, .int .i64 r37.High, .slice p43 r37.A.length c44, .slice p46 r37.B.length c47, .slice p49 r37.On.length c50] 46 (0, 0))] w) (fun k57 hd => ?_) ?_
 · skip
   refine .sr (.fa un25 r sz22 r (o := 0) r r r (.load1 ia22 r (.s .z) r r r (.ks 2 r ?_)))
   refine splitP hd (fun hb58 hd => ?_) fun hb58 hd => ?_
   · rw [hb58]
     refine .ks 1 r (.gyes r r r (.fa un25 r sz3 r (o := 3) r r r (.gyes r r r (.load1 ia3 r (.s .z) r r r (.ks 2 r (.nilS [20, 4, 3] r r (.condP r hd (fun hb59 hd => ?_) fun hb59 hd => ?_)))))))
     · exact .sr (.ks 1 r (.nilS [6] r r (.drop .z (.drop .z (.ret (pret results28 (.t r .n) hl39 ⟨0, r, hd⟩))))))
     exact .skip' fun c w ho hs => ⟨(), hd, I38, (.refl _), ho.sub ⟨r, r, trivial⟩, hs.pick (.c (.s .z) (.c .z .n))⟩
   rw [hb58]
   exact .ks 5 r (.nilS [20, 4, 3] r r (.condKF r r (.skip' fun c w ho hs => ⟨(), hd, I38, (.refl _), ho.sub ⟨r, r, trivial⟩, hs.pick (.c (.s .z) (.c .z .n))⟩)))
 rintro ⟨⟩ hd c w hst
 obtain ⟨I60, hl61, hok, hsym⟩ := hst
 have le62 := IH.le.trans hl39 hl61
 replace R3 := R3.mono hl61
 replace R45 := R45.mono hl61
 replace R48 := R48.mono hl61
 replace R51 := R51.mono hl61
 refine Cod.at hok hsym (.sr (.ks 1 r (.nilS [7, 4, 3] r r (.seq (.sr (.ks 1 r (.nilS [8, 7, 4, 3] r r (.block (.loop hd (fun (s : Int × Int) c w => match s with | (s119, s120) => ∃ I_, IH.le I60 I_ ∧ Ok ⟨55, [], none⟩ [(3, .pointer (some ⟨b17, 0, none⟩)), (4, .pointer (some ⟨b19, 0, none⟩)), (7, .int .i64 s119), (8, .int .i64 s120)] c ∧ Sym w0 M I I_ [pto b17 (.cells #[.int .i64 a0.Kind, .int .i64 a0.N, .int .i64 a0.Source, .int .i64 a0.Length, .slice p1 a0.Draws.length c2] 25 (0, 0)), pto b19 (.cells #[.int .i64 r37.Low, .int .i64 r37.High, .slice p43 r37.A.length c44, .slice p46 r37.B.length c47, .slice p49 r37.On.length c50] 46 (0, 0))] w) (fun c w ho hs => ⟨I60, (.refl _), ho.sub ⟨r, r, r, r, trivial⟩, hs.pick (.c .z (.c .z .n))⟩) ?_)))))))))
 rintro ⟨s119, s120⟩ next121 hd c w hst
 obtain ⟨I122, hl123, hok, hsym⟩ := hst
 have le124 := IH.le.trans le62 hl123
 have le125 := IH.le.trans hl61 hl123
 replace R3 := R3.mono hl123
 replace R45 := R45.mono hl123
 replace R48 := R48.mono hl123
 replace R51 := R51.mono hl123
 refine Cod.at hok hsym (.seq (.sr (.ks 1 r (.fa un46 r sz3 r (o := 1) r r r (.load1 ia3 r (.s .z) r r r (.fa un46 r sz3 r (o := 0) r r r (.load1 ia3 r (.s .z) r r r (.ks 2 r (.nilS [27, 8, 7, 4, 3] r r ?_)))))))))
 refine .condP r hd (fun hb127 hd => ?_) fun hb127 hd => ?_
 · refine .skipS [8, 7, 4, 3] r r (.seq (.block (.sr (.fa un25 r sz22 r (o := 0) r r r (.load1 ia22 r .z r r r (.ks 2 r ?_))))))
   refine splitP hd (fun hb128 hd => ?_) fun hb128 hd => ?_
   · rw [hb128]
     refine .gyes r r r (.fa un46 r sz23 r (o := 2) r r r (.gyes r r r (.load1 ia23 r (.s .z) r r r (.ks 1 r ?_))))
     obtain ⟨h129, x130, hx131, hd⟩ := hd
     obtain ⟨b132, o133, cs134, e135, hC136, hr137⟩ := R45.2 _ _ hx131
     cases hr137
     refine .gyes r r r (.ixa un23 sz2 r e135 r h129 (idx_lt hx131 h129) r r (.gyes r r r (.ld1 (j := 0) ia2 hC136 r r r r r (.ks 3 r ?_))))
     refine splitP hd (fun hb138 hd => ?_) fun hb138 hd => ?_
     · rw [hb138]
       exact .ks 10 r (.nilS [51, 8, 7, 4, 3] r r (.condKT r r (.region (.ks 3 r (.nilS [7, 8, 4, 3] r r (.region (.ks 3 r (.nil' fun c w ho hs => ⟨(w64 (s119 + 1), w64 (s120 + 1)), hd, I122, hl123, ho.sub ⟨r, r, r, r, trivial⟩, hs.pick (.c .z (.c .z .n))⟩))))))))
     rw [hb138]
     refine .gyes r r r (.fa un25 r sz22 r (o := 0) r r r (.gyes r r r (.load1 ia22 r .z r r r (.ks 2 r ?_))))
     refine splitP hd (fun hb139 hd => ?_) fun hb139 hd => ?_
     · rw [hb139]
       refine .gyes r r r (.fa un46 r sz44 r (o := 4) r r r (.gyes r r r (.load1 ia44 r (.s .z) r r r (.ks 1 r ?_))))
       have hw141 := W_ref03_Has (I := I122) R51 hd
       refine .gyes r r r (.callP call75 r hw141 r r fun v142 hv143 => ?_)
       obtain ⟨r140, rfl, hd⟩ := hv143
       refine .ks 2 r (.nilS [51, 8, 7, 4, 3] r r (.condP r hd (fun hb144 hd => ?_) fun hb144 hd => ?_))
       · exact .region (.ks 3 r (.nilS [7, 8, 4, 3] r r (.region (.ks 3 r (.nil' fun c w ho hs => ⟨(w64 (s119 + 1), w64 (s120 + 1)), hd, I122, hl123, ho.sub ⟨r, r, r, r, trivial⟩, hs.pick (.c .z (.c .z .n))⟩)))))
       exact .skipS [8, 7, 4, 3] r r (.region (.ks 3 r (.nil' fun c w ho hs => ⟨(s119, w64 (s120 + 1)), hd, I122, hl123, ho.sub ⟨r, r, r, r, trivial⟩, hs.pick (.c .z (.c .z .n))⟩)))
     rw [hb139]
     exact .ks 6 r (.nilS [51, 8, 7, 4, 3] r r (.condKF r r (.skipS [8, 7, 4, 3] r r (.region (.ks 3 r (.nil' fun c w ho hs => ⟨(s119, w64 (s120 + 1)), hd, I122, hl123, ho.sub ⟨r, r, r, r, trivial⟩, hs.pick (.c .z (.c .z .n))⟩))))))
   rw [hb128]
   refine .ks 8 r (.gyes r r r (.fa un25 r sz22 r (o := 0) r r r (.gyes r r r (.load1 ia22 r .z r r r (.ks 2 r ?_)))))
   refine splitP hd (fun hb145 hd => ?_) fun hb145 hd => ?_
   · rw [hb145]
     refine .gyes r r r (.fa un46 r sz44 r (o := 4) r r r (.gyes r r r (.load1 ia44 r (.s .z) r r r (.ks 1 r ?_))))
     have hw147 := W_ref03_Has (I := I122) R51 hd
     refine .gyes r r r (.callP call75 r hw147 r r fun v148 hv149 => ?_)
     obtain ⟨r146, rfl, hd⟩ := hv149
     refine .ks 2 r (.nilS [51, 8, 7, 4, 3] r r (.condP r hd (fun hb150 hd => ?_) fun hb150 hd => ?_))
     · exact .region (.ks 3 r (.nilS [7, 8, 4, 3] r r (.region (.ks 3 r (.nil' fun c w ho hs => ⟨(w64 (s119 + 1), w64 (s120 + 1)), hd, I122, hl123, ho.sub ⟨r, r, r, r, trivial⟩, hs.pick (.c .z (.c .z .n))⟩)))))
     exact .skipS [8, 7, 4, 3] r r (.region (.ks 3 r (.nil' fun c w ho hs => ⟨(s119, w64 (s120 + 1)), hd, I122, hl123, ho.sub ⟨r, r, r, r, trivial⟩, hs.pick (.c .z (.c .z .n))⟩)))
   rw [hb145]
   exact .ks 6 r (.nilS [51, 8, 7, 4, 3] r r (.condKF r r (.skipS [8, 7, 4, 3] r r (.region (.ks 3 r (.nil' fun c w ho hs => ⟨(s119, w64 (s120 + 1)), hd, I122, hl123, ho.sub ⟨r, r, r, r, trivial⟩, hs.pick (.c .z (.c .z .n))⟩))))))
 exact .exitS [7] r r (.drop .z (.drop .z (.sr (.ks 2 r (.nilS [6] r r (.ret (pret results28 (.t r .n) le124 ⟨s119, r, hd⟩)))))))

theorem W_law21_ProgSteps {I : IH} {a0 : Plan} {a1 : Int} {a2 : List (List Item)} {p1 : Option Addr} {c2 : Nat} {p4 : Option Addr} {c5 : Nat} {Q : Bool → Prop} (R3 : RepSl eI64 I p1 c2 a0.Draws) (R6 : RepSl (slEl eItem) I p4 c5 a2) (hd : law21_ProgSteps a0 a1 a2 Q) :
  PFun prog 4 [.agg #[.int .i64 a0.Kind, .int .i64 a0.N, .int .i64 a0.Source, .int .i64 a0.Length, .slice p1 a0.Draws.length c2], .int .u8 a1, .slice p4 a2.length c5] I (fun _ => o0_ Q) := by
 refine Fun.enter func4 r ntmps4 r (.c (.c (.c .n))) fun w0 M => ?_
 refine .sr (.boxA r r r fun b9 => ?_)
 refine .ks 1 r (.nilS [3, 2, 1] r r (.sr (.loadW ia25 sz25 r .z r r r (.ks 1 r (.conv un5 un3 r r r (.rem r r (by decide) r r ?_))))))
 have hw30 := W_law21_Plan (I := I) R3 hd
 refine .call call17 r hw30 r r fun v25 I22 hl23 hv24 => ?_
 obtain ⟨r21, p27, c28, rfl, R29, hd⟩ := hv24
 replace R3 := R3.mono hl23
 replace R6 := R6.mono hl23
 refine .storeA sz25 r r .z (.t (.t (.t (.t (.t .nil))))) r r (.nilS [3, 2] r r (.sr (.loadW ia25 sz25 r .z r r r (.fa un25 r sz3 r (o := 1) r r r (.load1 ia3 r .z r r r ?_)))))
 have hw65 := W_prog_Begin (I := I22) R29 hd
 refine .call call18 r hw65 r r fun v54 I51 hl52 hv53 => ?_
 obtain ⟨r50, p56, c57, p59, c60, p62, c63, rfl, R58, R61, R64, hd⟩ := hv53
 have le66 := IH.le.trans hl23 hl52
 replace R6 := R6.mono hl52
 replace R29 := R29.mono hl52
 refine .allocA zv46 r r fun b67 => ?_
 refine .storeA sz46 r r .z (.t (.t (.t (.t (.t .nil))))) r r (.nilS [7, 3, 2] r r (.seq (.seq (.dr [0, 1, 2, 3, 4, 5, 6, 7, 8, 9, 10] 11 (.ww r fun ex => ?_)))))
 have hw97 := W_law21_live (I := I51) hd
 refine .callP call7 r hw97 r r fun v98 hv99 => ?_
 obtain ⟨r96, rfl, hd⟩ := hv99
 refine .so 2 r r r trivial (.fk 2 r ?_)
 refine splitP hd (fun hb100 hd => ?_) fun hb100 hd => ?_
 · refine .g r r r (fun _ => .gno r r hb100 r r .mk) (.g r r r (fun _ => .gno r r hb100 r r .mk) (.g r r r (fun _ => .gno r r hb100 r r .mk) (.g r r r (fun _ => .gno r r hb100 r r .mk) (.g r r r (fun _ => .gno r r hb100 r r .mk) (.g r r r (fun _ => .gno r r hb100 r r .mk) (.g r r r (fun _ => .gno r r hb100 r r .mk) (.g r r r (fun _ => .pickT r hb100 r r r .mk) (.e2 11 (.nilS [30, 7, 3, 2] r r ?_)))))))))
   exact .condKT r r (.sr (.ks 1 r (.nilS [6] r r (.drop .z (.drop .z (.ret (pret results4 (.t r .n) le66 ⟨false, r, hd⟩)))))))
 refine .g r r r (fun _ => .gyes r r hb100 (.loadW ia46 sz46 r .z r r r .mk)) (.g r r r (fun _ => .gyes r r hb100 (.loadW ia25 sz25 r (.s .z) r r r .mk)) (.g r r r (fun _ => .gyes r r hb100 (.fa un25 r sz3 r (o := 1) r r r .mk)) (.g r r r (fun _ => .gyes r r hb100 (.load1 ia3 r (.s .z) r r r .mk)) (.ww r fun ex => ?_))))
 have hw116 := W_ref21_Begin (I := I51) R29 hd
 refine .gyes r r hb100 (.call call20 r hw116 r r fun v105 I102 hl103 hv104 => ?_)
 obtain ⟨r101, p107, c108, p110, c111, p113, c114, rfl, R109, R112, R115, hd⟩ := hv104
 have le117 := IH.le.trans le66 hl103
 replace R6 := R6.mono hl103
 replace R29 := R29.mono hl103
 replace R58 := R58.mono hl103
 replace R61 := R61.mono hl103
 replace R64 := R64.mono hl103
 refine .so 2 r r r (.cg r r r r (fun _ => .gyes r r hb100 (.loadW ia46 sz46 r .z r r r .mk)) trivial) (.ww r fun ex => ?_)
 have hw119 := W_ref21_Same (I := I102) R58 R61 R64 R109 R112 R115 hd
 refine .gyes r r hb100 (.callP call19 r hw119 r r fun v120 hv121 => ?_)
 obtain ⟨r118, rfl, hd⟩ := hv121
 refine .so 2 r r r trivial (.g r r r (fun _ => .gyes r r hb100 (.not r r r .mk)) (.g r r r (fun _ => .pickF r hb100 r r r .mk) (.e2 11 (.nilS [30, 7, 3, 2] r r (.condP r hd (fun hb122 hd => ?_) fun hb122 hd => ?_)))))
 · exact .sr (.ks 1 r (.nilS [6] r r (.drop .z (.drop .z (.ret (pret results4 (.t r .n) le117 ⟨false, r, hd⟩))))))
 refine .skipS [7, 3, 2] r r (.seq (.sr (.ks 1 r (.nilS [8, 7, 3, 2] r r (.block (.loop hd (fun (s : Int × Int × (List Int) × (List Int) × (List Int) × Int) c w => match s with | (s476, s477, s478, s482, s486, s490) => ∃ I_ p479 c480 p483 c484 p487 c488, IH.le I102 I_ ∧ RepSl eI64 I_ p479 c480 s478 ∧ RepSl eI64 I_ p483 c484 s482 ∧ RepSl eU64 I_ p487 c488 s486 ∧ Ok ⟨90, [], none⟩ [(2, .slice p4 a2.length c5), (3, .pointer (some ⟨b9, 0, none⟩)), (7, .pointer (some ⟨b67, 0, none⟩)), (8, .int .i64 s490)] c ∧ Sym w0 M I I_ [pto b9 (.cells #[.int .i64 r21.Kind, .int .i64 r21.N, .int .i64 r21.Source, .int .i64 r21.Length, .slice p27 r21.Draws.length c28] 25 (0, 0)), pto b67 (.cells #[.int .i64 s476, .int .i64 s477, .slice p479 s478.length c480, .slice p483 s482.length c484, .slice p487 s486.length c488] 46 (0, 0))] w) (fun c w ho hs => ⟨I102, _, _, _, _, _, _, (.refl _), R58, R61, R64, ho.sub ⟨r, r, r, r, trivial⟩, hs.pick (.c (.s .z) (.c .z .n))⟩) ?_))))))
 rintro ⟨s476, s477, s478, s482, s486, s490⟩ next491 hd c w hst
 obtain ⟨I492, p479, c480, p483, c484, p487, c488, hl493, R481, R485, R489, hok, hsym⟩ := hst
 have le494 := IH.le.trans le117 hl493
 replace R6 := R6.mono hl493
 replace R29 := R29.mono hl493
 refine Cod.at hok hsym (.seq (.sr (.ks 2 r (.len underlying42 r r r r (.ks 2 r ?_)))))
 refine splitP hd (fun hb497 hd => ?_) fun hb497 hd => ?_
 · rw [hb497]
   refine .ks 3 r (.nilS [38, 8, 7, 3, 2] r r (.condP r hd (fun hb498 hd => ?_) fun hb498 hd => ?_))
   · refine .skipS [8, 7, 3, 2] r r (.seq (.block (.seq (.dr [0, 1, 2, 3, 4, 6, 5, 999] 7 (.g r r r (fun _ => .loadW ia25 sz25 r .z r r r .mk) (.fk 2 r ?_))))))
     obtain ⟨h525, x526, hx527, hd⟩ := hd
     obtain ⟨b528, o529, cs530, e531, hC532, hr533⟩ := R6.2 _ _ hx527
     obtain ⟨p534, c535, rfl, R536⟩ := hr533
     refine .g r r r (fun _ => .ixa underlying42 sz49 r e531 r h525 (idx_lt hx527 h525) r r .mk) (.g r r r (fun _ => .ld1 (j := 0) ia49 hC532 r r r r r .mk) (.a (fun b => .pointer (some ⟨b, 0, none⟩)) (fun b => pto b (.cells #[.int .i64 0, .slice none 0 0] 51 (0, 0))) r r r r (fun _ L hL ex => .allocA zv51 r r fun b => .mk (val := fun b => .pointer (some ⟨b, 0, none⟩)) (atom := fun b => pto b (.cells #[.int .i64 0, .slice none 0 0] 51 (0, 0))) hL b) (.ww r fun ex => ?_)))
     have hw547 := W_law21_got (I := I492) R29 R536 hd
     refine .call call21 r hw547 r r fun v542 I539 hl540 hv541 => ?_
     obtain ⟨r538, p544, c545, rfl, R546, hd⟩ := hv541
     have le548 := IH.le.trans le494 hl540
     have le549 := IH.le.trans hl493 hl540
     replace R6 := R6.mono hl540
     replace R29 := R29.mono hl540
     replace R481 := R481.mono hl540
     replace R485 := R485.mono hl540
     replace R489 := R489.mono hl540
     replace R536 := R536.mono hl540
     replace hC532 := hC532.mono hl540
     refine .so 2 r r r trivial (.b r fun b550 => DrawD.nop (.e2 7 (.storeA sz51 r r (.s (.s .z)) (.t (.t .nil)) r r (.nilS [9, 8, 7, 3, 2] r r (.sr (.loadW ia25 sz25 r .z r r r (.loadW ia46 sz46 r (.s .z) r r r (.ks 2 r (.loadW ia51 sz51 r (.s (.s .z)) r r r ?_)))))))))
     have hw586 := W_prog_Update (I := I539) (a1 := ({ Low := s476, High := s477, A := s478, B := s482, On := s486 } : State)) R29 R481 R485 R489 R546 hd
     refine .call call22 r hw586 r r fun v575 I572 hl573 hv574 => ?_
     obtain ⟨r571, p577, c578, p580, c581, p583, c584, rfl, R579, R582, R585, hd⟩ := hv574
     have le587 := IH.le.trans le548 hl573
     have le588 := IH.le.trans le549 hl573
     replace R6 := R6.mono hl573
     replace R29 := R29.mono hl573
     replace R481 := R481.mono hl573
     replace R485 := R485.mono hl573
     replace R489 := R489.mono hl573
     replace R546 := R546.mono hl573
     refine .allocA zv46 r r fun b589 => ?_
     refine .storeA sz46 r r .z (.t (.t (.t (.t (.t .nil))))) r r (.nilS [10, 9, 8, 7, 3, 2] r r (.seq (.seq (.dr [0, 1, 2, 3, 5, 6, 7, 8, 4, 9, 10, 11, 12, 13, 14, 15, 16, 17, 18, 19, 20, 21, 22, 23, 24, 25, 26, 27, 29, 30, 31, 32, 28, 33, 34, 35] 36 (.g r r r (fun _ => .loadW ia25 sz25 r (.s .z) r r r .mk) (.g r r r (fun _ => .loadW ia46 sz46 r (.s (.s .z)) r r r .mk) (.fk 2 r (.g r r r (fun _ => .loadW ia25 sz25 r (.s .z) r r r .mk) (.g r r r (fun _ => .loadW ia46 sz46 r (.s (.s .z)) r r r .mk) ?_)))))))))
     refine .fk 2 r (.ww r fun ex => ?_)
     have hw600 := W_prog_Out (I := I572) (a1 := ({ Low := s476, High := s477, A := s478, B := s482, On := s486 } : State)) R29 R481 R485 R489 hd
     refine .call call24 r hw600 r r fun v595 I592 hl593 hv594 => ?_
     obtain ⟨r591, p597, c598, rfl, R599, hd⟩ := hv594
     have le601 := IH.le.trans le587 hl593
     have le602 := IH.le.trans le588 hl593
     replace R6 := R6.mono hl593
     replace R29 := R29.mono hl593
     replace R481 := R481.mono hl593
     replace R485 := R485.mono hl593
     replace R489 := R489.mono hl593
     replace R546 := R546.mono hl593
     replace R579 := R579.mono hl593
     replace R582 := R582.mono hl593
     replace R585 := R585.mono hl593
     refine .so 4 r r r (.ck 2 r r (.cg r r r r (fun _ => .loadW ia46 sz46 r (.s (.s .z)) r r r .mk) (.cg r r r r (fun _ => .loadW ia25 sz25 r (.s .z) r r r .mk) trivial))) (.ww r fun ex => ?_)
     have hw612 := W_ref21_Out (I := I592) (a1 := ({ Low := s476, High := s477, A := s478, B := s482, On := s486 } : State)) R29 R481 R485 R489 hd
     refine .call call25 r hw612 r r fun v607 I604 hl605 hv606 => ?_
     obtain ⟨r603, p609, c610, rfl, R611, hd⟩ := hv606
     have le613 := IH.le.trans le601 hl605
     have le614 := IH.le.trans le602 hl605
     replace R6 := R6.mono hl605
     replace R29 := R29.mono hl605
     replace R481 := R481.mono hl605
     replace R485 := R485.mono hl605
     replace R489 := R489.mono hl605
     replace R546 := R546.mono hl605
     replace R579 := R579.mono hl605
     replace R582 := R582.mono hl605
     replace R585 := R585.mono hl605
     replace R599 := R599.mono hl605
     refine .so 4 r r r trivial (.ww r fun ex => ?_)
     have hw616 := W_ref09_Same (I := I604) R599 R611 hd
     refine .callP call23 r hw616 r r fun v617 hv618 => ?_
     obtain ⟨r615, rfl, hd⟩ := hv618
     refine .so 4 r r r trivial (.fk 2 r ?_)
     refine splitP hd (fun hb619 hd => ?_) fun hb619 hd => ?_
     · refine .g r r r (fun _ => .gno r r hb619 r r .mk) (.g r r r (fun _ => .gno r r hb619 r r .mk) (.g r r r (fun _ => .gno r r hb619 r r .mk) (.g r r r (fun _ => .gno r r hb619 r r .mk) (.g r r r (fun _ => .gno r r hb619 r r .mk) (.g r r r (fun _ => .gno r r hb619 r r .mk) (.g r r r (fun _ => .gno r r hb619 r r .mk) (.g r r r (fun _ => .gno r r hb619 r r .mk) (.g r r r (fun _ => .gno r r hb619 r r .mk) (.g r r r (fun _ => .pickT r hb619 r r r .mk) ?_)))))))))
       refine .fk 13 r (.e2 36 (.nilS [88, 10, 8, 7, 3, 2] r r (.drop (.s (.s (.s .z))) (.condKT r r (.sr (.ks 1 r (.nilS [6] r r (.drop .z (.drop .z ?_)))))))))
       exact .drop .z (.ret (pret results4 (.t r .n) le613 ⟨false, r, hd⟩))
     refine .g r r r (fun _ => .gyes r r hb619 (.loadW ia46 sz46 r .z r r r .mk)) (.g r r r (fun _ => .gyes r r hb619 (.loadW ia25 sz25 r (.s .z) r r r .mk)) (.g r r r (fun _ => .gyes r r hb619 (.loadW ia46 sz46 r (.s (.s .z)) r r r .mk)) (.g r r r (fun _ => .gyes r r hb619 (.move r r r .mk)) (.g r r r (fun _ => .gyes r r hb619 (.add r r r r .mk)) (.g r r r (fun _ => .gyes r r hb619 (.loadW ia51 sz51 r (.s (.s (.s .z))) r r r .mk)) (.ww r fun ex => ?_))))))
     have hw635 := W_ref21_Update (I := I604) (a1 := ({ Low := s476, High := s477, A := s478, B := s482, On := s486 } : State)) R29 R481 R485 R489 R546 hd
     refine .gyes r r hb619 (.call call26 r hw635 r r fun v624 I621 hl622 hv623 => ?_)
     obtain ⟨r620, p626, c627, p629, c630, p632, c633, rfl, R628, R631, R634, hd⟩ := hv623
     have le636 := IH.le.trans le613 hl622
     have le637 := IH.le.trans le614 hl622
     replace R6 := R6.mono hl622
     replace R29 := R29.mono hl622
     replace R481 := R481.mono hl622
     replace R485 := R485.mono hl622
     replace R489 := R489.mono hl622
     replace R546 := R546.mono hl622
     replace R579 := R579.mono hl622
     replace R582 := R582.mono hl622
     replace R585 := R585.mono hl622
     replace R599 := R599.mono hl622
     replace R611 := R611.mono hl622
     refine .so 4 r r r (.cg r r r r (fun _ => .gyes r r hb619 (.loadW ia46 sz46 r .z r r r .mk)) trivial) (.ww r fun ex => ?_)
     have hw639 := W_ref21_Same (I := I621) R579 R582 R585 R628 R631 R634 hd
     refine .gyes r r hb619 (.callP call19 r hw639 r r fun v640 hv641 => ?_)
     obtain ⟨r638, rfl, hd⟩ := hv641
     refine .so 4 r r r trivial (.g r r r (fun _ => .gyes r r hb619 (.not r r r .mk)) (.g r r r (fun _ => .pickF r hb619 r r r .mk) (.fk 1 r ?_)))
     refine splitP hd (fun hb642 hd => ?_) fun hb642 hd => ?_
     · refine .g r r r (fun _ => .gno r r hb642 r r .mk) (.g r r r (fun _ => .gno r r hb642 r r .mk) (.g r r r (fun _ => .gno r r hb642 r r .mk) (.g r r r (fun _ => .gno r r hb642 r r .mk) (.g r r r (fun _ => .gno r r hb642 r r .mk) (.g r r r (fun _ => .gno r r hb642 r r .mk) (.g r r r (fun _ => .gno r r hb642 r r .mk) (.g r r r (fun _ => .gno r r hb642 r r .mk) (.g r r r (fun _ => .gno r r hb642 r r .mk) (.g r r r (fun _ => .gno r r hb642 r r .mk) ?_)))))))))
       refine .g r r r (fun _ => .gno r r hb642 r r .mk) (.g r r r (fun _ => .pickT r hb642 r r r .mk) (.e2 36 (.nilS [88, 10, 8, 7, 3, 2] r r (.drop (.s (.s (.s .z))) (.condKT r r (.sr (.ks 1 r (.nilS [6] r r (.drop .z ?_)))))))))
       exact .drop .z (.drop .z (.ret (pret results4 (.t r .n) le636 ⟨false, r, hd⟩)))
     refine .g r r r (fun _ => .gyes r r hb642 (.loadW ia25 sz25 r (.s .z) r r r .mk)) (.g r r r (fun _ => .gyes r r hb642 (.loadW ia46 sz46 r .z r r r .mk)) (.g r r r (fun _ => .gyes r r hb642 (.move r r r .mk)) (.g r r r (fun _ => .gyes r r hb642 (.add r r r r .mk)) (.g r r r (fun _ => .gyes r r hb642 (.loadW ia25 sz25 r (.s .z) r r r .mk)) (.g r r r (fun _ => .gyes r r hb642 (.loadW ia46 sz46 r .z r r r .mk)) (.g r r r (fun _ => .gyes r r hb642 (.move r r r .mk)) (.g r r r (fun _ => .gyes r r hb642 (.add r r r r .mk)) (.ww r fun ex => ?_))))))))
     have hw644 := W_prog_Live (I := I621) R29 R579 R582 R585 hd
     refine .gyes r r hb642 (.callP call27 r hw644 r r fun v645 hv646 => ?_)
     obtain ⟨r643, rfl, hd⟩ := hv646
     refine .so 4 r r r (.cg r r r r (fun _ => .gyes r r hb642 (.add r r r r .mk)) (.cg r r r r (fun _ => .gyes r r hb642 (.move r r r .mk)) (.cg r r r r (fun _ => .gyes r r hb642 (.loadW ia46 sz46 r .z r r r .mk)) (.cg r r r r (fun _ => .gyes r r hb642 (.loadW ia25 sz25 r (.s .z) r r r .mk)) trivial)))) (.ww r fun ex => ?_)
     have hw648 := W_ref21_Live (I := I621) R29 R579 R582 R585 hd
     refine .gyes r r hb642 (.callP call28 r hw648 r r fun v649 hv650 => ?_)
     obtain ⟨r647, rfl, hd⟩ := hv650
     refine .so 4 r r r trivial (.g r r r (fun _ => .gyes r r hb642 (.ne r r r r .mk)) (.g r r r (fun _ => .pickF r hb642 r r r .mk) (.e2 36 (.nilS [88, 10, 8, 7, 3, 2] r r (.drop (.s (.s (.s .z))) (.condP r hd (fun hb651 hd => ?_) fun hb651 hd => ?_))))))
     · exact .sr (.ks 1 r (.nilS [6] r r (.drop .z (.drop .z (.drop .z (.ret (pret results4 (.t r .n) le636 ⟨false, r, hd⟩)))))))
     exact .skipS [10, 8, 7, 3, 2] r r (.region (.loadW ia46 sz46 r .z r r r (.storeA sz46 r r (.s (.s .z)) (.t (.t (.t (.t (.t .nil))))) r r (.nilS [8, 7, 3, 2] r r (.drop .z (.region (.ks 3 r (.nil' fun c w ho hs => ⟨(r571.Low, r571.High, r571.A, r571.B, r571.On, w64 (s490 + 1)), hd, I621, _, _, _, _, _, _, le637, R579, R582, R585, ho.sub ⟨r, r, r, r, trivial⟩, hs.pick (.c .z (.c .z .n))⟩))))))))
   exact .exitS [] r r (.drop .z (.drop .z (.sr (.ks 1 r (.nilS [6] r r (.ret (pret results4 (.t r .n) le494 ⟨true, r, hd⟩)))))))
 rw [hb497]
 exact .ks 3 r (.nilS [38, 8, 7, 3, 2] r r (.condKF r r (.exitS [] r r (.drop .z (.drop .z (.sr (.ks 1 r (.nilS [6] r r (.ret (pret results4 (.t r .n) le494 ⟨true, r, hd⟩))))))))))

end Go.Proofs.YtggmiaebkplnlaaGreat
