/- The walks (printed by a program of ours). -/
import Derived.Test.YtpackolbhcmomaaGreatV2
namespace Go.Proofs.YtpackolbhcmomaaGreat
open Go Go.Fw
set_option linter.unusedVariables false
set_option linter.unusedSimpArgs false
set_option maxRecDepth 8000
set_option maxHeartbeats 1000000
open Tryz
theorem W_ref03_SameInts {I : IH} {a0 : List Int} {a1 : List Int} {p1 : Option Addr} {c2 : Nat} {p4 : Option Addr} {c5 : Nat} {Q : Bool → Prop} (R3 : RepSl eI64 I p1 c2 a0) (R6 : RepSl eI64 I p4 c5 a1) (hd : ref03_SameInts a0 a1 Q) :
  PFun prog 39 [.slice p1 a0.length c2, .slice p4 a1.length c5] I (fun _ => o1_ Q) := by
 refine Fun.enter func39 r ntmps39 r (.c (.c .n)) fun w0 M => ?_
 refine .sr (.ks 1 r (.nilS [1, 0] r r (.seq (.sr (.ks 1 r (.len un31 r r r r (.ks 1 r (.len un31 r r r r (.ks 1 r ?_)))))))))
 refine .nilS [10, 1, 0] r r (.condP r hd (fun hb8 hd => ?_) fun hb8 hd => ?_)
 · exact .sr (.ks 1 r (.nilS [4] r r (.ret (pret results39 (.t r .n) (.refl _) ⟨false, r, hd⟩))))
 refine .skipS [1, 0] r r (.seq (.sr (.ks 1 r (.nilS [5, 1, 0] r r (.block (.loop hd (fun (s54 : Int) c w => ∃ I_, IH.le I I_ ∧ Ok ⟨26, [], none⟩ [(0, .slice p1 a0.length c2), (1, .slice p4 a1.length c5), (5, .int .i64 s54)] c ∧ Sym w0 M I I_ [] w) (fun c w ho hs => ⟨I, (.refl _), ho.sub ⟨r, r, r, trivial⟩, hs.pick .n⟩) ?_))))))
 rintro s54 next55 hd c w hst
 obtain ⟨I56, hl57, hok, hsym⟩ := hst
 replace R3 := R3.mono hl57
 replace R6 := R6.mono hl57
 refine Cod.at hok hsym (.seq (.sr (.ks 2 r (.len un31 r r r r (.ks 1 r (.nilS [14, 5, 1, 0] r r (.condP r hd (fun hb59 hd => ?_) fun hb59 hd => ?_)))))))
 · refine .skipS [5, 1, 0] r r (.seq (.block (.seq (.dr [0, 1, 2, 3, 4, 5, 6, 7, 8] 9 (.fk 2 r ?_)))))
   obtain ⟨h60, x61, hx62, hd⟩ := hd
   obtain ⟨b63, o64, cs65, e66, hC67, hr68⟩ := R3.2 _ _ hx62
   cases hr68
   refine .g r r r (fun _ => .ixa un31 sz3 r e66 r h60 (idx_lt hx62 h60) r r .mk) (.g r r r (fun _ => .ld1 (j := 0) ia3 hC67 r r r r r .mk) (.fk 2 r ?_))
   obtain ⟨h69, x70, hx71, hd⟩ := hd
   obtain ⟨b72, o73, cs74, e75, hC76, hr77⟩ := R6.2 _ _ hx71
   cases hr77
   refine .g r r r (fun _ => .ixa un31 sz3 r e75 r h69 (idx_lt hx71 h69) r r .mk) (.g r r r (fun _ => .ld1 (j := 0) ia3 hC76 r r r r r .mk) (.fk 1 r (.e2 9 (.nilS [25, 5, 1, 0] r r (.condP r hd (fun hb78 hd => ?_) fun hb78 hd => ?_)))))
   · exact .sr (.ks 1 r (.nilS [4] r r (.ret (pret results39 (.t r .n) hl57 ⟨false, r, hd⟩))))
   exact .skipS [5, 1, 0] r r (.region (.ks 3 r (.nil' fun c w ho hs => ⟨(w64 (s54 + 1)), hd, I56, hl57, ho.sub ⟨r, r, r, trivial⟩, hs.pick .n⟩)))
 exact .exitS [] r r (.sr (.ks 1 r (.nilS [4] r r (.ret (pret results39 (.t r .n) hl57 ⟨true, r, hd⟩)))))

theorem W_ref07_SameVals {I : IH} {a0 : List Int} {a1 : List Int} {p1 : Option Addr} {c2 : Nat} {p4 : Option Addr} {c5 : Nat} {Q : Bool → Prop} (R3 : RepSl eI64 I p1 c2 a0) (R6 : RepSl eI64 I p4 c5 a1) (hd : ref07_SameVals a0 a1 Q) :
  PFun prog 40 [.slice p1 a0.length c2, .slice p4 a1.length c5] I (fun _ => o1_ Q) := by
 refine Fun.enter func40 r ntmps40 r (.c (.c .n)) fun w0 M => ?_
 refine .sr (.ks 1 r (.nilS [1, 0] r r (.seq (.sr (.ks 1 r (.len un32 r r r r (.ks 1 r (.len un32 r r r r (.ks 1 r ?_)))))))))
 refine .nilS [10, 1, 0] r r (.condP r hd (fun hb8 hd => ?_) fun hb8 hd => ?_)
 · exact .sr (.ks 1 r (.nilS [4] r r (.ret (pret results40 (.t r .n) (.refl _) ⟨false, r, hd⟩))))
 refine .skipS [1, 0] r r (.seq (.sr (.ks 1 r (.nilS [5, 1, 0] r r (.block (.loop hd (fun (s54 : Int) c w => ∃ I_, IH.le I I_ ∧ Ok ⟨26, [], none⟩ [(0, .slice p1 a0.length c2), (1, .slice p4 a1.length c5), (5, .int .i64 s54)] c ∧ Sym w0 M I I_ [] w) (fun c w ho hs => ⟨I, (.refl _), ho.sub ⟨r, r, r, trivial⟩, hs.pick .n⟩) ?_))))))
 rintro s54 next55 hd c w hst
 obtain ⟨I56, hl57, hok, hsym⟩ := hst
 replace R3 := R3.mono hl57
 replace R6 := R6.mono hl57
 refine Cod.at hok hsym (.seq (.sr (.ks 2 r (.len un32 r r r r (.ks 1 r (.nilS [14, 5, 1, 0] r r (.condP r hd (fun hb59 hd => ?_) fun hb59 hd => ?_)))))))
 · refine .skipS [5, 1, 0] r r (.seq (.block (.seq (.dr [0, 1, 2, 3, 4, 5, 6, 7, 8] 9 (.fk 2 r ?_)))))
   obtain ⟨h60, x61, hx62, hd⟩ := hd
   obtain ⟨b63, o64, cs65, e66, hC67, hr68⟩ := R3.2 _ _ hx62
   cases hr68
   refine .g r r r (fun _ => .ixa un32 sz2 r e66 r h60 (idx_lt hx62 h60) r r .mk) (.g r r r (fun _ => .ld1 (j := 0) ia2 hC67 r r r r r .mk) (.fk 2 r ?_))
   obtain ⟨h69, x70, hx71, hd⟩ := hd
   obtain ⟨b72, o73, cs74, e75, hC76, hr77⟩ := R6.2 _ _ hx71
   cases hr77
   refine .g r r r (fun _ => .ixa un32 sz2 r e75 r h69 (idx_lt hx71 h69) r r .mk) (.g r r r (fun _ => .ld1 (j := 0) ia2 hC76 r r r r r .mk) (.fk 1 r (.e2 9 (.nilS [25, 5, 1, 0] r r (.condP r hd (fun hb78 hd => ?_) fun hb78 hd => ?_)))))
   · exact .sr (.ks 1 r (.nilS [4] r r (.ret (pret results40 (.t r .n) hl57 ⟨false, r, hd⟩))))
   exact .skipS [5, 1, 0] r r (.region (.ks 3 r (.nil' fun c w ho hs => ⟨(w64 (s54 + 1)), hd, I56, hl57, ho.sub ⟨r, r, r, trivial⟩, hs.pick .n⟩)))
 exact .exitS [] r r (.sr (.ks 1 r (.nilS [4] r r (.ret (pret results40 (.t r .n) hl57 ⟨true, r, hd⟩)))))

theorem W_ref07_Same {I : IH} {a0 : Rows} {a1 : Rows} {p1 : Option Addr} {c2 : Nat} {p4 : Option Addr} {c5 : Nat} {p7 : Option Addr} {c8 : Nat} {p10 : Option Addr} {c11 : Nat} {p13 : Option Addr} {c14 : Nat} {p16 : Option Addr} {c17 : Nat} {Q : Bool → Prop} (R3 : RepSl eI64 I p1 c2 a0.Start) (R6 : RepSl eI64 I p4 c5 a0.Col) (R9 : RepSl eI64 I p7 c8 a0.Val) (R12 : RepSl eI64 I p10 c11 a1.Start) (R15 : RepSl eI64 I p13 c14 a1.Col) (R18 : RepSl eI64 I p16 c17 a1.Val) (hd : ref07_Same a0 a1 Q) :
  PFun prog 11 [.agg #[.int .i64 a0.Rows, .int .i64 a0.Cols, .slice p1 a0.Start.length c2, .slice p4 a0.Col.length c5, .slice p7 a0.Val.length c8], .agg #[.int .i64 a1.Rows, .int .i64 a1.Cols, .slice p10 a1.Start.length c11, .slice p13 a1.Col.length c14, .slice p16 a1.Val.length c17]] I (fun _ => o1_ Q) := by
 refine Fun.enter func11 r ntmps11 r (.c (.c .n)) fun w0 M => ?_
 refine .sr (.boxA r r r fun b23 => ?_)
 refine .boxA r r r fun b25 => ?_
 refine .ks 1 r (.nilS [3, 2] r r (.sr (.fa un34 r sz3 r (o := 0) r r r (.load1 ia3 r (.s .z) r r r (.fa un34 r sz3 r (o := 0) r r r (.load1 ia3 r .z r r r (.ks 2 r ?_)))))))
 refine splitP hd (fun hb27 hd => ?_) fun hb27 hd => ?_
 · rw [hb27]
   refine .gyes r r r (.fa un34 r sz3 r (o := 1) r r r (.gyes r r r (.load1 ia3 r (.s .z) r r r (.gyes r r r (.fa un34 r sz3 r (o := 1) r r r (.gyes r r r (.load1 ia3 r .z r r r (.ks 3 r ?_))))))))
   refine splitP hd (fun hb28 hd => ?_) fun hb28 hd => ?_
   · rw [hb28]
     refine .gyes r r r (.fa un34 r sz31 r (o := 2) r r r (.gyes r r r (.load1 ia31 r (.s .z) r r r (.gyes r r r (.fa un34 r sz31 r (o := 2) r r r (.gyes r r r (.load1 ia31 r .z r r r ?_)))))))
     have hw30 := W_ref03_SameInts (I := I) R3 R12 hd
     refine .gyes r r r (.callP call39 r hw30 r r fun v31 hv32 => ?_)
     obtain ⟨r29, rfl, hd⟩ := hv32
     refine .ks 2 r ?_
     refine splitP hd (fun hb33 hd => ?_) fun hb33 hd => ?_
     · rw [hb33]
       refine .gyes r r r (.fa un34 r sz31 r (o := 3) r r r (.gyes r r r (.load1 ia31 r (.s .z) r r r (.gyes r r r (.fa un34 r sz31 r (o := 3) r r r (.gyes r r r (.load1 ia31 r .z r r r ?_)))))))
       have hw35 := W_ref03_SameInts (I := I) R6 R15 hd
       refine .gyes r r r (.callP call39 r hw35 r r fun v36 hv37 => ?_)
       obtain ⟨r34, rfl, hd⟩ := hv37
       refine .ks 2 r ?_
       refine splitP hd (fun hb38 hd => ?_) fun hb38 hd => ?_
       · rw [hb38]
         refine .gyes r r r (.fa un34 r sz32 r (o := 4) r r r (.gyes r r r (.load1 ia32 r (.s .z) r r r (.gyes r r r (.fa un34 r sz32 r (o := 4) r r r (.gyes r r r (.load1 ia32 r .z r r r ?_)))))))
         have hw40 := W_ref07_SameVals (I := I) R9 R18 hd
         refine .gyes r r r (.callP call40 r hw40 r r fun v41 hv42 => ?_)
         obtain ⟨r39, rfl, hd⟩ := hv42
         exact .ks 2 r (.nilS [4] r r (.drop .z (.drop .z (.ret (pret results11 (.t r .n) (.refl _) ⟨r39, r, hd⟩)))))
       rw [hb38]
       exact .ks 7 r (.nilS [4] r r (.drop .z (.drop .z (.ret (pret results11 (.t r .n) (.refl _) ⟨false, r, hd⟩)))))
     rw [hb33]
     exact .ks 14 r (.nilS [4] r r (.drop .z (.drop .z (.ret (pret results11 (.t r .n) (.refl _) ⟨false, r, hd⟩)))))
   rw [hb28]
   exact .ks 21 r (.nilS [4] r r (.drop .z (.drop .z (.ret (pret results11 (.t r .n) (.refl _) ⟨false, r, hd⟩)))))
 rw [hb27]
 exact .ks 28 r (.nilS [4] r r (.drop .z (.drop .z (.ret (pret results11 (.t r .n) (.refl _) ⟨false, r, hd⟩)))))

theorem W_ref07_Right {I : IH} {a0 : Rows} {p1 : Option Addr} {c2 : Nat} {p4 : Option Addr} {c5 : Nat} {p7 : Option Addr} {c8 : Nat} {Q : Bool → Prop} (R3 : RepSl eI64 I p1 c2 a0.Start) (R6 : RepSl eI64 I p4 c5 a0.Col) (R9 : RepSl eI64 I p7 c8 a0.Val) (hd : ref07_Right a0 Q) :
  PFun prog 45 [.agg #[.int .i64 a0.Rows, .int .i64 a0.Cols, .slice p1 a0.Start.length c2, .slice p4 a0.Col.length c5, .slice p7 a0.Val.length c8]] I (fun _ => o1_ Q) := by
 refine Fun.enter func45 r ntmps45 r (.c .n) fun w0 M => ?_
 refine .sr (.boxA r r r fun b12 => ?_)
 refine .ks 1 r (.nilS [1] r r (.seq (.sr (.fa un34 r sz3 r (o := 0) r r r (.load1 ia3 r .z r r r (.ks 2 r ?_))))))
 refine splitP hd (fun hb21 hd => ?_) fun hb21 hd => ?_
 · rw [hb21]
   exact .ks 38 r (.nilS [46, 1] r r (.condKT r r (.sr (.ks 1 r (.nilS [2] r r (.drop .z (.ret (pret results45 (.t r .n) (.refl _) ⟨false, r, hd⟩))))))))
 rw [hb21]
 refine .gyes r r r (.fa un34 r sz3 r (o := 0) r r r (.gyes r r r (.load1 ia3 r .z r r r (.ks 3 r ?_))))
 refine splitP hd (fun hb22 hd => ?_) fun hb22 hd => ?_
 · rw [hb22]
   exact .ks 33 r (.nilS [46, 1] r r (.condKT r r (.sr (.ks 1 r (.nilS [2] r r (.drop .z (.ret (pret results45 (.t r .n) (.refl _) ⟨false, r, hd⟩))))))))
 rw [hb22]
 refine .gyes r r r (.fa un34 r sz3 r (o := 1) r r r (.gyes r r r (.load1 ia3 r .z r r r (.ks 3 r ?_))))
 refine splitP hd (fun hb23 hd => ?_) fun hb23 hd => ?_
 · rw [hb23]
   exact .ks 28 r (.nilS [46, 1] r r (.condKT r r (.sr (.ks 1 r (.nilS [2] r r (.drop .z (.ret (pret results45 (.t r .n) (.refl _) ⟨false, r, hd⟩))))))))
 rw [hb23]
 refine .gyes r r r (.fa un34 r sz3 r (o := 1) r r r (.gyes r r r (.load1 ia3 r .z r r r (.ks 3 r ?_))))
 refine splitP hd (fun hb24 hd => ?_) fun hb24 hd => ?_
 · rw [hb24]
   exact .ks 23 r (.nilS [46, 1] r r (.condKT r r (.sr (.ks 1 r (.nilS [2] r r (.drop .z (.ret (pret results45 (.t r .n) (.refl _) ⟨false, r, hd⟩))))))))
 rw [hb24]
 refine .gyes r r r (.fa un34 r sz31 r (o := 2) r r r (.gyes r r r (.load1 ia31 r .z r r r (.gyes r r r (.len un31 r r r r (.gyes r r r (.fa un34 r sz3 r (o := 0) r r r (.gyes r r r (.load1 ia3 r .z r r r (.ks 4 r ?_))))))))))
 refine splitP hd (fun hb25 hd => ?_) fun hb25 hd => ?_
 · rw [hb25]
   exact .ks 14 r (.nilS [46, 1] r r (.condKT r r (.sr (.ks 1 r (.nilS [2] r r (.drop .z (.ret (pret results45 (.t r .n) (.refl _) ⟨false, r, hd⟩))))))))
 rw [hb25]
 refine .gyes r r r (.fa un34 r sz31 r (o := 3) r r r (.gyes r r r (.load1 ia31 r .z r r r (.gyes r r r (.len un31 r r r r (.gyes r r r (.fa un34 r sz32 r (o := 4) r r r (.gyes r r r (.load1 ia32 r .z r r r (.gyes r r r (.len un32 r r r r (.ks 3 r ?_))))))))))))
 refine splitP hd (fun hb26 hd => ?_) fun hb26 hd => ?_
 · rw [hb26]
   exact .ks 5 r (.nilS [46, 1] r r (.condKT r r (.sr (.ks 1 r (.nilS [2] r r (.drop .z (.ret (pret results45 (.t r .n) (.refl _) ⟨false, r, hd⟩))))))))
 rw [hb26]
 refine .gyes r r r (.fa un34 r sz31 r (o := 3) r r r (.gyes r r r (.load1 ia31 r .z r r r (.gyes r r r (.len un31 r r r r (.ks 2 r (.nilS [46, 1] r r (.condP r hd (fun hb27 hd => ?_) fun hb27 hd => ?_))))))))
 · exact .sr (.ks 1 r (.nilS [2] r r (.drop .z (.ret (pret results45 (.t r .n) (.refl _) ⟨false, r, hd⟩)))))
 refine .skipS [1] r r (.seq (.seq (.dr [0, 1, 2, 3, 4, 5, 6, 7, 8, 9, 10, 11, 12, 13, 14, 15, 16] 17 (.g r r r (fun _ => .fa un34 r sz31 r (o := 2) r r r .mk) (.g r r r (fun _ => .load1 ia31 r .z r r r .mk) ?_)))))
 obtain ⟨h48, x49, hx50, hd⟩ := hd
 obtain ⟨b51, o52, cs53, e54, hC55, hr56⟩ := R3.2 _ _ hx50
 cases hr56
 refine .g r r r (fun _ => .ixa un31 sz3 r e54 r h48 (idx_lt hx50 h48) r r .mk) (.g r r r (fun _ => .ld1 (j := 0) ia3 hC55 r r r r r .mk) (.fk 2 r ?_))
 refine splitP hd (fun hb57 hd => ?_) fun hb57 hd => ?_
 · rw [hb57]
   exact .fk 11 r (.e2 17 (.nilS [63, 1] r r (.condKT r r (.sr (.ks 1 r (.nilS [2] r r (.drop .z (.ret (pret results45 (.t r .n) (.refl _) ⟨false, r, hd⟩)))))))))
 rw [hb57]
 refine .g r r r (fun _ => .gyes r r r (.fa un34 r sz31 r (o := 2) r r r .mk)) (.g r r r (fun _ => .gyes r r r (.load1 ia31 r .z r r r .mk)) (.g r r r (fun _ => .gyes r r r (.fa un34 r sz3 r (o := 0) r r r .mk)) (.g r r r (fun _ => .gyes r r r (.load1 ia3 r .z r r r .mk)) ?_)))
 obtain ⟨h58, x59, hx60, hd⟩ := hd
 obtain ⟨b61, o62, cs63, e64, hC65, hr66⟩ := R3.2 _ _ hx60
 cases hr66
 refine .g r r r (fun _ => .gyes r r r (.ixa un31 sz3 r e64 r h58 (idx_lt hx60 h58) r r .mk)) (.g r r r (fun _ => .gyes r r r (.ld1 (j := 0) ia3 hC65 r r r r r .mk)) (.g r r r (fun _ => .gyes r r r (.fa un34 r sz31 r (o := 3) r r r .mk)) (.g r r r (fun _ => .gyes r r r (.load1 ia31 r .z r r r .mk)) (.g r r r (fun _ => .gyes r r r (.len un31 r r r r .mk)) (.fk 2 r (.e2 17 (.nilS [63, 1] r r (.condP r hd (fun hb67 hd => ?_) fun hb67 hd => ?_))))))))
 · exact .sr (.ks 1 r (.nilS [2] r r (.drop .z (.ret (pret results45 (.t r .n) (.refl _) ⟨false, r, hd⟩)))))
 refine .skipS [1] r r (.seq (.sr (.ks 1 r (.nilS [3, 1] r r (.block (.loop hd (fun (s695 : Int) c w => ∃ I_, IH.le I I_ ∧ Ok ⟨156, [], none⟩ [(1, .pointer (some ⟨b12, 0, none⟩)), (3, .int .i64 s695)] c ∧ Sym w0 M I I_ [pto b12 (.cells #[.int .i64 a0.Rows, .int .i64 a0.Cols, .slice p1 a0.Start.length c2, .slice p4 a0.Col.length c5, .slice p7 a0.Val.length c8] 34 (0, 0))] w) (fun c w ho hs => ⟨I, (.refl _), ho.sub ⟨r, r, trivial⟩, hs.pick (.c .z .n)⟩) ?_))))))
 rintro s695 next696 hd c w hst
 obtain ⟨I697, hl698, hok, hsym⟩ := hst
 replace R3 := R3.mono hl698
 replace R6 := R6.mono hl698
 replace R9 := R9.mono hl698
 refine Cod.at hok hsym (.seq (.sr (.ks 1 r (.fa un34 r sz3 r (o := 0) r r r (.load1 ia3 r .z r r r (.ks 1 r (.nilS [67, 3, 1] r r (.condP r hd (fun hb700 hd => ?_) fun hb700 hd => ?_))))))))
 · refine .skipS [3, 1] r r (.seq (.block (.seq (.seq (.dr [0, 1, 2, 3, 4, 5, 6, 7, 8, 9, 10, 11, 12, 13, 14, 15, 16, 17, 18, 19, 20, 21, 22, 23, 24, 25, 26, 27, 28, 29, 30, 31] 32 (.g r r r (fun _ => .fa un34 r sz31 r (o := 2) r r r .mk) (.g r r r (fun _ => .load1 ia31 r .z r r r .mk) (.fk 1 r ?_))))))))
   obtain ⟨h740, x741, hx742, hd⟩ := hd
   obtain ⟨b743, o744, cs745, e746, hC747, hr748⟩ := R3.2 _ _ hx742
   cases hr748
   refine .g r r r (fun _ => .ixa un31 sz3 r e746 r h740 (idx_lt hx742 h740) r r .mk) (.g r r r (fun _ => .ld1 (j := 0) ia3 hC747 r r r r r .mk) (.g r r r (fun _ => .fa un34 r sz31 r (o := 2) r r r .mk) (.g r r r (fun _ => .load1 ia31 r .z r r r .mk) (.fk 2 r ?_))))
   obtain ⟨h749, x750, hx751, hd⟩ := hd
   obtain ⟨b752, o753, cs754, e755, hC756, hr757⟩ := R3.2 _ _ hx751
   cases hr757
   refine .g r r r (fun _ => .ixa un31 sz3 r e755 r h749 (idx_lt hx751 h749) r r .mk) (.g r r r (fun _ => .ld1 (j := 0) ia3 hC756 r r r r r .mk) (.fk 2 r ?_))
   refine splitP hd (fun hb758 hd => ?_) fun hb758 hd => ?_
   · rw [hb758]
     exact .fk 19 r (.e2 32 (.nilS [101, 3, 1] r r (.condKT r r (.sr (.ks 1 r (.nilS [2] r r (.drop .z (.ret (pret results45 (.t r .n) hl698 ⟨false, r, hd⟩)))))))))
   rw [hb758]
   refine .g r r r (fun _ => .gyes r r r (.fa un34 r sz31 r (o := 2) r r r .mk)) (.g r r r (fun _ => .gyes r r r (.load1 ia31 r .z r r r .mk)) (.fk 1 r ?_))
   obtain ⟨h759, x760, hx761, hd⟩ := hd
   obtain ⟨b762, o763, cs764, e765, hC766, hr767⟩ := R3.2 _ _ hx761
   cases hr767
   refine .g r r r (fun _ => .gyes r r r (.ixa un31 sz3 r e765 r h759 (idx_lt hx761 h759) r r .mk)) (.g r r r (fun _ => .gyes r r r (.ld1 (j := 0) ia3 hC766 r r r r r .mk)) (.fk 3 r ?_))
   refine splitP hd (fun hb768 hd => ?_) fun hb768 hd => ?_
   · rw [hb768]
     exact .fk 11 r (.e2 32 (.nilS [101, 3, 1] r r (.condKT r r (.sr (.ks 1 r (.nilS [2] r r (.drop .z (.ret (pret results45 (.t r .n) hl698 ⟨false, r, hd⟩)))))))))
   rw [hb768]
   refine .g r r r (fun _ => .gyes r r r (.fa un34 r sz31 r (o := 2) r r r .mk)) (.g r r r (fun _ => .gyes r r r (.load1 ia31 r .z r r r .mk)) (.fk 2 r ?_))
   obtain ⟨h769, x770, hx771, hd⟩ := hd
   obtain ⟨b772, o773, cs774, e775, hC776, hr777⟩ := R3.2 _ _ hx771
   cases hr777
   refine .g r r r (fun _ => .gyes r r r (.ixa un31 sz3 r e775 r h769 (idx_lt hx771 h769) r r .mk)) (.g r r r (fun _ => .gyes r r r (.ld1 (j := 0) ia3 hC776 r r r r r .mk)) (.g r r r (fun _ => .gyes r r r (.fa un34 r sz31 r (o := 3) r r r .mk)) (.g r r r (fun _ => .gyes r r r (.load1 ia31 r .z r r r .mk)) (.g r r r (fun _ => .gyes r r r (.len un31 r r r r .mk)) (.fk 2 r (.e2 32 (.nilS [101, 3, 1] r r (.condP r hd (fun hb778 hd => ?_) fun hb778 hd => ?_))))))))
   · exact .sr (.ks 1 r (.nilS [2] r r (.drop .z (.ret (pret results45 (.t r .n) hl698 ⟨false, r, hd⟩)))))
   refine .skipS [3, 1] r r (.sr (.fa un34 r sz31 r (o := 2) r r r (.load1 ia31 r .z r r r (.ks 1 r ?_))))
   obtain ⟨h788, x789, hx790, hd⟩ := hd
   obtain ⟨b791, o792, cs793, e794, hC795, hr796⟩ := R3.2 _ _ hx790
   cases hr796
   refine .ixa un31 sz3 r e794 r h788 (idx_lt hx790 h788) r r (.ld1 (j := 0) ia3 hC795 r r r r r (.ks 1 r (.nilS [4, 3, 1] r r (.block (.loop hd (fun (s938 : Int) c w => ∃ I_, IH.le I697 I_ ∧ Ok ⟨156, [], none⟩ [(1, .pointer (some ⟨b12, 0, none⟩)), (3, .int .i64 s695), (4, .int .i64 s938)] c ∧ Sym w0 M I I_ [pto b12 (.cells #[.int .i64 a0.Rows, .int .i64 a0.Cols, .slice p1 a0.Start.length c2, .slice p4 a0.Col.length c5, .slice p7 a0.Val.length c8] 34 (0, 0))] w) (fun c w ho hs => ⟨I697, (.refl _), ho.sub ⟨r, r, r, trivial⟩, hs.pick (.c .z .n)⟩) ?_)))))
   rintro s938 next939 hd c w hst
   obtain ⟨I940, hl941, hok, hsym⟩ := hst
   have le942 := IH.le.trans hl698 hl941
   replace R3 := R3.mono hl941
   replace R6 := R6.mono hl941
   replace R9 := R9.mono hl941
   refine Cod.at hok hsym (.seq (.sr (.ks 1 r (.fa un34 r sz31 r (o := 2) r r r (.load1 ia31 r .z r r r (.ks 2 r ?_))))))
   obtain ⟨h953, x954, hx955, hd⟩ := hd
   obtain ⟨b956, o957, cs958, e959, hC960, hr961⟩ := R3.2 _ _ hx955
   cases hr961
   refine .ixa un31 sz3 r e959 r h953 (idx_lt hx955 h953) r r (.ld1 (j := 0) ia3 hC960 r r r r r (.ks 1 r (.nilS [114, 4, 3, 1] r r (.condP r hd (fun hb962 hd => ?_) fun hb962 hd => ?_))))
   · refine .skipS [4, 3, 1] r r (.seq (.block (.seq (.dr [0, 1, 2, 3, 4, 5, 6, 7, 8, 9, 10, 11, 12, 13, 14, 15, 16, 17, 18, 19, 20, 21, 22, 23, 24, 25, 26, 27, 28, 29, 30, 31, 32, 33, 34, 35, 36, 37, 38] 39 (.g r r r (fun _ => .fa un34 r sz31 r (o := 3) r r r .mk) (.g r r r (fun _ => .load1 ia31 r .z r r r .mk) (.fk 1 r ?_)))))))
     obtain ⟨h963, x964, hx965, hd⟩ := hd
     obtain ⟨b966, o967, cs968, e969, hC970, hr971⟩ := R6.2 _ _ hx965
     cases hr971
     refine .g r r r (fun _ => .ixa un31 sz3 r e969 r h963 (idx_lt hx965 h963) r r .mk) (.g r r r (fun _ => .ld1 (j := 0) ia3 hC970 r r r r r .mk) (.fk 2 r ?_))
     refine splitP hd (fun hb972 hd => ?_) fun hb972 hd => ?_
     · rw [hb972]
       exact .fk 32 r (.e2 39 (.nilS [155, 4, 3, 1] r r (.condKT r r (.sr (.ks 1 r (.nilS [2] r r (.drop .z (.ret (pret results45 (.t r .n) le942 ⟨false, r, hd⟩)))))))))
     rw [hb972]
     refine .g r r r (fun _ => .gyes r r r (.fa un34 r sz31 r (o := 3) r r r .mk)) (.g r r r (fun _ => .gyes r r r (.load1 ia31 r .z r r r .mk)) (.fk 1 r ?_))
     obtain ⟨h973, x974, hx975, hd⟩ := hd
     obtain ⟨b976, o977, cs978, e979, hC980, hr981⟩ := R6.2 _ _ hx975
     cases hr981
     refine .g r r r (fun _ => .gyes r r r (.ixa un31 sz3 r e979 r h973 (idx_lt hx975 h973) r r .mk)) (.g r r r (fun _ => .gyes r r r (.ld1 (j := 0) ia3 hC980 r r r r r .mk)) (.g r r r (fun _ => .gyes r r r (.fa un34 r sz3 r (o := 1) r r r .mk)) (.g r r r (fun _ => .gyes r r r (.load1 ia3 r .z r r r .mk)) (.fk 3 r ?_))))
     refine splitP hd (fun hb982 hd => ?_) fun hb982 hd => ?_
     · rw [hb982]
       exact .fk 22 r (.e2 39 (.nilS [155, 4, 3, 1] r r (.condKT r r (.sr (.ks 1 r (.nilS [2] r r (.drop .z (.ret (pret results45 (.t r .n) le942 ⟨false, r, hd⟩)))))))))
     rw [hb982]
     refine .fk 1 r (.g r r r (fun _ => .gyes r r r (.fa un34 r sz31 r (o := 2) r r r .mk)) (.g r r r (fun _ => .gyes r r r (.load1 ia31 r .z r r r .mk)) (.fk 1 r ?_)))
     obtain ⟨h983, x984, hx985, hd⟩ := hd
     obtain ⟨b986, o987, cs988, e989, hC990, hr991⟩ := R3.2 _ _ hx985
     cases hr991
     refine .g r r r (fun _ => .gyes r r r (.ixa un31 sz3 r e989 r h983 (idx_lt hx985 h983) r r .mk)) (.g r r r (fun _ => .gyes r r r (.ld1 (j := 0) ia3 hC990 r r r r r .mk)) (.fk 2 r ?_))
     refine splitP hd (fun hb992 hd => ?_) fun hb992 hd => ?_
     · rw [hb992]
       refine .g r r r (fun _ => .gyes r r r (.fa un34 r sz31 r (o := 3) r r r .mk)) (.g r r r (fun _ => .gyes r r r (.load1 ia31 r .z r r r .mk)) (.fk 1 r ?_))
       obtain ⟨h993, x994, hx995, hd⟩ := hd
       obtain ⟨b996, o997, cs998, e999, hC1000, hr1001⟩ := R6.2 _ _ hx995
       cases hr1001
       refine .g r r r (fun _ => .gyes r r r (.ixa un31 sz3 r e999 r h993 (idx_lt hx995 h993) r r .mk)) (.g r r r (fun _ => .gyes r r r (.ld1 (j := 0) ia3 hC1000 r r r r r .mk)) (.g r r r (fun _ => .gyes r r r (.fa un34 r sz31 r (o := 3) r r r .mk)) (.g r r r (fun _ => .gyes r r r (.load1 ia31 r .z r r r .mk)) (.fk 2 r ?_))))
       obtain ⟨h1002, x1003, hx1004, hd⟩ := hd
       obtain ⟨b1005, o1006, cs1007, e1008, hC1009, hr1010⟩ := R6.2 _ _ hx1004
       cases hr1010
       refine .g r r r (fun _ => .gyes r r r (.ixa un31 sz3 r e1008 r h1002 (idx_lt hx1004 h1002) r r .mk)) (.g r r r (fun _ => .gyes r r r (.ld1 (j := 0) ia3 hC1009 r r r r r .mk)) (.fk 3 r (.e2 39 (.nilS [155, 4, 3, 1] r r (.condP r hd (fun hb1011 hd => ?_) fun hb1011 hd => ?_)))))
       · exact .sr (.ks 1 r (.nilS [2] r r (.drop .z (.ret (pret results45 (.t r .n) le942 ⟨false, r, hd⟩)))))
       exact .skipS [4, 3, 1] r r (.region (.ks 3 r (.nil' fun c w ho hs => ⟨(w64 (s938 + 1)), hd, I940, hl941, ho.sub ⟨r, r, r, trivial⟩, hs.pick (.c .z .n)⟩)))
     rw [hb992]
     exact .fk 14 r (.e2 39 (.nilS [155, 4, 3, 1] r r (.condKF r r (.skipS [4, 3, 1] r r (.region (.ks 3 r (.nil' fun c w ho hs => ⟨(w64 (s938 + 1)), hd, I940, hl941, ho.sub ⟨r, r, r, trivial⟩, hs.pick (.c .z .n)⟩)))))))
   exact .exitS [3, 1] r r (.region (.ks 3 r (.nil' fun c w ho hs => ⟨(w64 (s695 + 1)), hd, I940, le942, ho.sub ⟨r, r, trivial⟩, hs.pick (.c .z .n)⟩)))
 exact .exitS [] r r (.drop .z (.sr (.ks 1 r (.nilS [2] r r (.ret (pret results45 (.t r .n) hl698 ⟨true, r, hd⟩))))))

theorem W_ref18_sides {I : IH} {a0 : Int} {a1 : Int} {Q : Bool → Prop}  (hd : ref18_sides a0 a1 Q) :
  PFun prog 46 [.int .i64 a0, .int .i64 a1] I (fun _ => o1_ Q) := by
 refine Fun.enter func46 r ntmps46 r (.c (.c .n)) fun w0 M => ?_
 refine .sr (.ks 1 r (.nilS [1, 0] r r (.sr (.ks 3 r ?_))))
 refine splitP hd (fun hb1 hd => ?_) fun hb1 hd => ?_
 · rw [hb1]
   refine .ks 4 r ?_
   refine splitP hd (fun hb2 hd => ?_) fun hb2 hd => ?_
   · rw [hb2]
     refine .ks 4 r ?_
     refine splitP hd (fun hb3 hd => ?_) fun hb3 hd => ?_
     · rw [hb3]
       exact .ks 4 r (.nilS [4] r r (.ret (pret results46 (.t r .n) (.refl _) ⟨(decide (a1 ≤ 8)), r, hd⟩)))
     rw [hb3]
     exact .ks 4 r (.nilS [4] r r (.ret (pret results46 (.t r .n) (.refl _) ⟨false, r, hd⟩)))
   rw [hb2]
   exact .ks 8 r (.nilS [4] r r (.ret (pret results46 (.t r .n) (.refl _) ⟨false, r, hd⟩)))
 rw [hb1]
 exact .ks 12 r (.nilS [4] r r (.ret (pret results46 (.t r .n) (.refl _) ⟨false, r, hd⟩)))

theorem W_ref17_may {I : IH} {a0 : Int} {a1 : Int} {Q : Bool → Prop}  (hd : ref17_may a0 a1 Q) :
  PFun prog 97 [.int .i64 a0, .int .i64 a1] I (fun _ => o1_ Q) := by
 refine Fun.enter func97 r ntmps97 r (.c (.c .n)) fun w0 M => ?_
 refine .sr (.ks 1 r (.nilS [1, 0] r r (.sr (.ks 3 r ?_))))
 refine splitP hd (fun hb1 hd => ?_) fun hb1 hd => ?_
 · rw [hb1]
   refine .ks 4 r ?_
   refine splitP hd (fun hb2 hd => ?_) fun hb2 hd => ?_
   · rw [hb2]
     refine .ks 4 r ?_
     refine splitP hd (fun hb3 hd => ?_) fun hb3 hd => ?_
     · rw [hb3]
       exact .ks 4 r (.nilS [4] r r (.ret (pret results97 (.t r .n) (.refl _) ⟨(decide (a1 ≤ 8)), r, hd⟩)))
     rw [hb3]
     exact .ks 4 r (.nilS [4] r r (.ret (pret results97 (.t r .n) (.refl _) ⟨false, r, hd⟩)))
   rw [hb2]
   exact .ks 8 r (.nilS [4] r r (.ret (pret results97 (.t r .n) (.refl _) ⟨false, r, hd⟩)))
 rw [hb1]
 exact .ks 12 r (.nilS [4] r r (.ret (pret results97 (.t r .n) (.refl _) ⟨false, r, hd⟩)))

theorem W_ref17_Low {I : IH} {a0 : Int} {a1 : Int} {a2 : Int} {Q : Int → Prop}  (hd : ref17_Low a0 a1 a2 Q) :
  PFun prog 48 [.int .i64 a0, .int .i64 a1, .int .i64 a2] I (fun _ => o0_ Q) := by
 refine Fun.enter func48 r ntmps48 r (.c (.c (.c .n))) fun w0 M => ?_
 refine .sr (.ks 1 r (.nilS [2, 1, 0] r r (.seq (.sr (.ks 2 r ?_)))))
 have hw8 := W_ref17_may (I := I) hd
 refine .callP call97 r hw8 r r fun v9 hv10 => ?_
 obtain ⟨r7, rfl, hd⟩ := hv10
 refine .ks 2 r ?_
 refine splitP hd (fun hb11 hd => ?_) fun hb11 hd => ?_
 · rw [hb11]
   exact .ks 3 r (.nilS [14, 2, 1, 0] r r (.condKT r r (.sr (.ks 1 r (.nilS [6] r r (.ret (pret results48 (.t r .n) (.refl _) ⟨0, r, hd⟩)))))))
 rw [hb11]
 refine .ks 3 r (.nilS [14, 2, 1, 0] r r (.condP r hd (fun hb12 hd => ?_) fun hb12 hd => ?_))
 · exact .sr (.ks 1 r (.nilS [6] r r (.ret (pret results48 (.t r .n) (.refl _) ⟨0, r, hd⟩))))
 refine .skipS [2, 1, 0] r r (.seq (.sr (.ks 3 r (.nilS [17, 2, 1, 0] r r (.condP r hd (fun hb13 hd => ?_) fun hb13 hd => ?_)))))
 · exact .sr (.ks 2 r (.nilS [6] r r (.ret (pret results48 (.t r .n) (.refl _) ⟨a0, r, hd⟩))))
 refine .skipS [2, 1, 0] r r (.sr (.ks 4 r ?_))
 obtain ⟨hz14, hd⟩ := hd
 exact .quo r r hz14 r r (.ks 1 r (.nilS [6] r r (.ret (pret results48 (.t r .n) (.refl _) ⟨(w64 ((w64 (a2 * a0)).tdiv a1)), r, hd⟩))))

theorem W_ref07_Sure {I : IH} {a0 : Rows} {p1 : Option Addr} {c2 : Nat} {p4 : Option Addr} {c5 : Nat} {p7 : Option Addr} {c8 : Nat} {Q : Rows → Prop} (R3 : RepSl eI64 I p1 c2 a0.Start) (R6 : RepSl eI64 I p4 c5 a0.Col) (R9 : RepSl eI64 I p7 c8 a0.Val) (hd : ref07_Sure a0 Q) :
  PFun prog 76 [.agg #[.int .i64 a0.Rows, .int .i64 a0.Cols, .slice p1 a0.Start.length c2, .slice p4 a0.Col.length c5, .slice p7 a0.Val.length c8]] I (o9_ Q) := by
 refine Fun.enter func76 r ntmps76 r (.c .n) fun w0 M => ?_
 refine .sr (.boxA r r r fun b23 => ?_)
 refine .allocA zv34 r r fun b25 => ?_
 refine .nilS [2, 1] r r (.seq (.sr (.loadW ia34 sz34 r (.s .z) r r r ?_)))
 have hw28 := W_ref07_Right (I := I) R3 R6 R9 hd
 refine .callP call45 r hw28 r r fun v29 hv30 => ?_
 obtain ⟨r27, rfl, hd⟩ := hv30
 refine .nilS [4, 2, 1] r r (.condP r hd (fun hb31 hd => ?_) fun hb31 hd => ?_)
 · exact .sr (.loadW ia34 sz34 r (.s .z) r r r (.storeA sz34 r r .z (.t (.t (.t (.t (.t .nil))))) r r (.nilS [2] r r (.drop (.s .z) (.ret (pret results76 (.w ia34 sz34 r .z r .n) (.refl _) ⟨a0, _, _, _, _, _, _, r, R3, R6, R9, hd⟩))))))
 refine .skipS [2] r r (.drop (.s .z) (.sr ?_))
 have hw50 := W_ref07_Empty (I := I) hd
 refine .callO call47 r hw50 r r fun v36 I33 l37 hl34 hv35 => ?_
 obtain ⟨r32, p38, c39, p41, c42, p44, c45, rfl, rfl, hd⟩ := hv35
 refine .storeA sz34 r r (.s (.s (.s .z))) (.t (.t (.t (.t (.t .nil))))) r r (.nilS [2] r r (.pub .z fun I51 hl52 R53 => ?_))
 have le54 := IH.le.trans hl34 hl52
 refine .pub .z fun I55 hl56 R57 => ?_
 have le58 := IH.le.trans le54 hl56
 replace R53 := R53.mono hl56
 refine .pub .z fun I59 hl60 R61 => ?_
 have le62 := IH.le.trans le58 hl60
 replace R53 := R53.mono hl60
 replace R57 := R57.mono hl60
 exact .ret (pret results76 (.w ia34 sz34 r .z r .n) le62 ⟨r32, _, _, _, _, _, _, r, R53, R57, R61, hd⟩)

theorem W_ref07_Triples {I : IH} {a0 : Rows} {p1 : Option Addr} {c2 : Nat} {p4 : Option Addr} {c5 : Nat} {p7 : Option Addr} {c8 : Nat} {Q : (List Triple) → Prop} (R3 : RepSl eI64 I p1 c2 a0.Start) (R6 : RepSl eI64 I p4 c5 a0.Col) (R9 : RepSl eI64 I p7 c8 a0.Val) (hd : ref07_Triples a0 Q) :
  PFun prog 68 [.agg #[.int .i64 a0.Rows, .int .i64 a0.Cols, .slice p1 a0.Start.length c2, .slice p4 a0.Col.length c5, .slice p7 a0.Val.length c8]] I (fun I_ v => ∃ r p10 c11, v = .slice p10 r.length c11 ∧ RepSl eTriple I_ p10 c11 r ∧ Q r) := by
 refine Fun.enter func68 r ntmps68 r (.c .n) fun w0 M => ?_
 refine .sr (.boxA r r r fun b15 => ?_)
 refine .ks 1 r (.nilS [1] r r (.sr (.loadW ia34 sz34 r .z r r r ?_)))
 have hw48 := W_ref07_Sure (I := I) R3 R6 R9 hd
 refine .call call76 r hw48 r r fun v37 I34 hl35 hv36 => ?_
 obtain ⟨r33, p39, c40, p42, c43, p45, c46, rfl, R41, R44, R47, hd⟩ := hv36
 replace R3 := R3.mono hl35
 replace R6 := R6.mono hl35
 replace R9 := R9.mono hl35
 refine .storeA sz34 r r .z (.t (.t (.t (.t (.t .nil))))) r r (.nilS [1] r r (.sr (.ks 1 r (.nilS [3, 1] r r (.seq (.sr (.ks 1 r (.nilS [4, 3, 1] r r (.block ?_)))))))))
 refine .own0 eTriple 75 (.loop hd (fun (s : (List Triple) × Int) c w => match s with | (s423, s427) => ∃ I_ p424 c425, IH.le I34 I_ ∧ Ok ⟨45, [], none⟩ [(1, .pointer (some ⟨b15, 0, none⟩)), (3, .slice p424 s423.length c425), (4, .int .i64 s427)] c ∧ Sym w0 M I I_ [pto b15 (.cells #[.int .i64 r33.Rows, .int .i64 r33.Cols, .slice p39 r33.Start.length c40, .slice p42 r33.Col.length c43, .slice p45 r33.Val.length c46] 34 (0, 0)), OwnSl eTriple 75 p424 c425 s423] w) (fun c w ho hs => ⟨I34, _, _, (.refl _), ho.sub ⟨r, r, r, trivial⟩, hs.pick (.c (.s .z) (.c .z .n))⟩) ?_)
 rintro ⟨s423, s427⟩ next429 hd c w hst
 obtain ⟨I430, p424, c425, hl431, hok, hsym⟩ := hst
 have le432 := IH.le.trans hl35 hl431
 replace R41 := R41.mono hl431
 replace R44 := R44.mono hl431
 replace R47 := R47.mono hl431
 refine Cod.at hok hsym (.seq (.sr (.ks 1 r (.fa un34 r sz3 r (o := 0) r r r (.load1 ia3 r .z r r r (.ks 1 r (.nilS [11, 4, 3, 1] r r (.condP r hd (fun hb434 hd => ?_) fun hb434 hd => ?_))))))))
 · refine .skipS [4, 3, 1] r r (.seq (.block (.sr (.fa un34 r sz31 r (o := 2) r r r (.load1 ia31 r .z r r r (.ks 1 r ?_))))))
   obtain ⟨h444, x445, hx446, hd⟩ := hd
   obtain ⟨b447, o448, cs449, e450, hC451, hr452⟩ := R41.2 _ _ hx446
   cases hr452
   refine .ixa un31 sz3 r e450 r h444 (idx_lt hx446 h444) r r (.ld1 (j := 0) ia3 hC451 r r r r r (.ks 1 r (.nilS [5, 4, 3, 1] r r (.block (.loop hd (fun (s : (List Triple) × Int) c w => match s with | (s558, s562) => ∃ I_ p559 c560, IH.le I430 I_ ∧ Ok ⟨45, [], none⟩ [(1, .pointer (some ⟨b15, 0, none⟩)), (3, .slice p559 s558.length c560), (4, .int .i64 s427), (5, .int .i64 s562)] c ∧ Sym w0 M I I_ [pto b15 (.cells #[.int .i64 r33.Rows, .int .i64 r33.Cols, .slice p39 r33.Start.length c40, .slice p42 r33.Col.length c43, .slice p45 r33.Val.length c46] 34 (0, 0)), OwnSl eTriple 75 p559 c560 s558] w) (fun c w ho hs => ⟨I430, _, _, (.refl _), ho.sub ⟨r, r, r, r, trivial⟩, hs.pick (.c .z (.c .z .n))⟩) ?_)))))
   rintro ⟨s558, s562⟩ next563 hd c w hst
   obtain ⟨I564, p559, c560, hl565, hok, hsym⟩ := hst
   have le566 := IH.le.trans le432 hl565
   have le567 := IH.le.trans hl431 hl565
   replace R41 := R41.mono hl565
   replace R44 := R44.mono hl565
   replace R47 := R47.mono hl565
   refine Cod.at hok hsym (.seq (.sr (.ks 1 r (.fa un34 r sz31 r (o := 2) r r r (.load1 ia31 r .z r r r (.ks 2 r ?_))))))
   obtain ⟨h578, x579, hx580, hd⟩ := hd
   obtain ⟨b581, o582, cs583, e584, hC585, hr586⟩ := R41.2 _ _ hx580
   cases hr586
   refine .ixa un31 sz3 r e584 r h578 (idx_lt hx580 h578) r r (.ld1 (j := 0) ia3 hC585 r r r r r (.ks 1 r (.nilS [26, 5, 4, 3, 1] r r (.condP r hd (fun hb587 hd => ?_) fun hb587 hd => ?_))))
   · refine .skipS [5, 4, 3, 1] r r (.seq (.block (.ownF (.s .z) fun hne588 => ?_)))
     refine .dr [0, 1, 2, 3, 4, 5, 6, 7, 8, 9, 10, 11, 12, 13, 14] 15 (.fk 2 r (.g r r r (fun _ => .fa un34 r sz31 r (o := 3) r r r .mk) (.g r r r (fun _ => .load1 ia31 r .z r r r .mk) (.fk 1 r ?_))))
     obtain ⟨h589, x590, hx591, hd⟩ := hd
     obtain ⟨b592, o593, cs594, e595, hC596, hr597⟩ := R44.2 _ _ hx591
     cases hr597
     refine .g r r r (fun _ => .ixa un31 sz3 r e595 r h589 (idx_lt hx591 h589) r r .mk) (.g r r r (fun _ => .ld1 (j := 0) ia3 hC596 r r r r r .mk) (.g r r r (fun _ => .fa un34 r sz32 r (o := 4) r r r .mk) (.g r r r (fun _ => .load1 ia32 r .z r r r .mk) (.fk 1 r ?_))))
     obtain ⟨h598, x599, hx600, hd⟩ := hd
     obtain ⟨b601, o602, cs603, e604, hC605, hr606⟩ := R47.2 _ _ hx600
     cases hr606
     refine .g r r r (fun _ => .ixa un32 sz2 r e604 r h598 (idx_lt hx600 h598) r r .mk) (.g r r r (fun _ => .ld1 (j := 0) ia2 hC605 r r r r r .mk) (.g r r r (fun _ => .build zv75 un75 BI75 (.c r r r (.t .nil) (.c r r r (.s (.t .nil)) (.c r r r (.s (.s (.t .nil))) .n))) (by exact ⟨⟨_, _, r, r, r⟩, ⟨⟨_, _, r, r, r⟩, ⟨⟨_, _, r, r, r⟩, trivial⟩⟩⟩) r r .mk) (.ww r fun ex => ?_)))
     refine .buildSlice 1 un24 sz75 zv75 r r (.c r r r .n) r r fun b607 => ?_
     refine .so 3 r r r (.ck 1 r r trivial) (.ww r fun ex => ?_)
     obtain ⟨hl609, hd⟩ := hd
     refine .append (ys := [({ Row := s427, Col := x590, Val := x599 } : Triple)]) 24 (.s (.s .z)) un24 un24 IN75 r r r r r r r r r (.box .z (.one r) r) hl609 r r fun p610 c611 => ?_
     exact .so 3 r r r trivial (.e2 15 (.ks 1 r (.nilS [3, 5, 4, 1] r r (.drop (.s .z) (.region (.ks 3 r (.nil' fun c w ho hs => ⟨((s558 ++ ([({ Row := s427, Col := x590, Val := x599 } : Triple)])), w64 (s562 + 1)), hd, I564, _, _, hl565, ho.sub ⟨r, r, r, r, trivial⟩, hs.pick (.c (.s .z) (.c .z .n))⟩)))))))
   exact .exitS [4, 3, 1] r r (.region (.ks 3 r (.nil' fun c w ho hs => ⟨(s558, w64 (s427 + 1)), hd, I564, _, _, le567, ho.sub ⟨r, r, r, trivial⟩, hs.pick (.c .z (.c .z .n))⟩)))
 refine .exitS [3] r r (.drop .z (.sr (.ks 2 r (.nilS [2] r r (.pub .z fun I613 hl614 R615 => ?_)))))
 have le616 := IH.le.trans le432 hl614
 have le617 := IH.le.trans hl431 hl614
 exact .ret (pret results68 (.t r .n) le616 ⟨s423, _, _, r, R615, hd⟩)

theorem W_ref09_Right {I : IH} {a0 : Vec} {p1 : Option Addr} {c2 : Nat} {Q : Bool → Prop} (R3 : RepSl eItem I p1 c2 a0.Items) (hd : ref09_Right a0 Q) :
  PFun prog 59 [.agg #[.int .i64 a0.N, .slice p1 a0.Items.length c2]] I (fun _ => o1_ Q) := by
 refine Fun.enter func59 r ntmps59 r (.c .n) fun w0 M => ?_
 refine .sr (.boxA r r r fun b6 => ?_)
 refine .ks 1 r (.nilS [1] r r (.seq (.sr (.fa un37 r sz3 r (o := 0) r r r (.load1 ia3 r .z r r r (.ks 2 r ?_))))))
 refine splitP hd (fun hb10 hd => ?_) fun hb10 hd => ?_
 · rw [hb10]
   exact .ks 4 r (.nilS [11, 1] r r (.condKT r r (.sr (.ks 1 r (.nilS [2] r r (.drop .z (.ret (pret results59 (.t r .n) (.refl _) ⟨false, r, hd⟩))))))))
 rw [hb10]
 refine .gyes r r r (.fa un37 r sz3 r (o := 0) r r r (.gyes r r r (.load1 ia3 r .z r r r (.ks 2 r (.nilS [11, 1] r r (.condP r hd (fun hb11 hd => ?_) fun hb11 hd => ?_))))))
 · exact .sr (.ks 1 r (.nilS [2] r r (.drop .z (.ret (pret results59 (.t r .n) (.refl _) ⟨false, r, hd⟩)))))
 refine .skipS [1] r r (.seq (.sr (.ks 1 r (.nilS [3, 1] r r (.block (.loop hd (fun (s79 : Int) c w => ∃ I_, IH.le I I_ ∧ Ok ⟨57, [], none⟩ [(1, .pointer (some ⟨b6, 0, none⟩)), (3, .int .i64 s79)] c ∧ Sym w0 M I I_ [pto b6 (.cells #[.int .i64 a0.N, .slice p1 a0.Items.length c2] 37 (0, 0))] w) (fun c w ho hs => ⟨I, (.refl _), ho.sub ⟨r, r, trivial⟩, hs.pick (.c .z .n)⟩) ?_))))))
 rintro s79 next80 hd c w hst
 obtain ⟨I81, hl82, hok, hsym⟩ := hst
 replace R3 := R3.mono hl82
 refine Cod.at hok hsym (.seq (.sr (.ks 1 r (.fa un37 r sz25 r (o := 1) r r r (.load1 ia25 r .z r r r (.len un25 r r r r (.ks 1 r (.nilS [16, 3, 1] r r (.condP r hd (fun hb84 hd => ?_) fun hb84 hd => ?_)))))))))
 · refine .skipS [3, 1] r r (.seq (.block (.seq (.dr [0, 1, 2, 3, 4, 5, 6, 7, 8, 9, 10, 11, 12, 13, 14, 15, 16, 17, 18, 19, 20, 21, 22, 23, 24, 25, 26, 27, 28, 29, 30, 31, 32, 33, 34, 35, 36, 37] 38 (.g r r r (fun _ => .fa un37 r sz25 r (o := 1) r r r .mk) (.g r r r (fun _ => .load1 ia25 r .z r r r .mk) (.fk 1 r ?_)))))))
   obtain ⟨h85, x86, hx87, hd⟩ := hd
   obtain ⟨b88, o89, cs90, e91, hC92, hr93⟩ := R3.2 _ _ hx87
   cases hr93
   refine .g r r r (fun _ => .ixa un25 sz72 r e91 r h85 (idx_lt hx87 h85) r r .mk) (.g r r r (fun _ => .fa un72 r sz3 r (o := o89 + s79.toNat * 2) r r r .mk) (.g r r r (fun _ => .ld1 (j := 0) ia3 hC92 r r r r r .mk) (.fk 2 r ?_)))
   refine splitP hd (fun hb94 hd => ?_) fun hb94 hd => ?_
   · rw [hb94]
     exact .fk 30 r (.e2 38 (.nilS [56, 3, 1] r r (.condKT r r (.sr (.ks 1 r (.nilS [2] r r (.drop .z (.ret (pret results59 (.t r .n) hl82 ⟨false, r, hd⟩)))))))))
   rw [hb94]
   refine .g r r r (fun _ => .gyes r r r (.fa un37 r sz25 r (o := 1) r r r .mk)) (.g r r r (fun _ => .gyes r r r (.load1 ia25 r .z r r r .mk)) (.fk 1 r ?_))
   obtain ⟨h95, x96, hx97, hd⟩ := hd
   obtain ⟨b98, o99, cs100, e101, hC102, hr103⟩ := R3.2 _ _ hx97
   cases hr103
   refine .g r r r (fun _ => .gyes r r r (.ixa un25 sz72 r e101 r h95 (idx_lt hx97 h95) r r .mk)) (.g r r r (fun _ => .gyes r r r (.fa un72 r sz3 r (o := o99 + s79.toNat * 2) r r r .mk)) (.g r r r (fun _ => .gyes r r r (.ld1 (j := 0) ia3 hC102 r r r r r .mk)) (.g r r r (fun _ => .gyes r r r (.fa un37 r sz3 r (o := 0) r r r .mk)) (.g r r r (fun _ => .gyes r r r (.load1 ia3 r .z r r r .mk)) (.fk 3 r ?_)))))
   refine splitP hd (fun hb104 hd => ?_) fun hb104 hd => ?_
   · rw [hb104]
     exact .fk 19 r (.e2 38 (.nilS [56, 3, 1] r r (.condKT r r (.sr (.ks 1 r (.nilS [2] r r (.drop .z (.ret (pret results59 (.t r .n) hl82 ⟨false, r, hd⟩)))))))))
   rw [hb104]
   refine .fk 3 r ?_
   refine splitP hd (fun hb105 hd => ?_) fun hb105 hd => ?_
   · rw [hb105]
     refine .g r r r (fun _ => .gyes r r r (.fa un37 r sz25 r (o := 1) r r r .mk)) (.g r r r (fun _ => .gyes r r r (.load1 ia25 r .z r r r .mk)) (.fk 1 r ?_))
     obtain ⟨h106, x107, hx108, hd⟩ := hd
     obtain ⟨b109, o110, cs111, e112, hC113, hr114⟩ := R3.2 _ _ hx108
     cases hr114
     refine .g r r r (fun _ => .gyes r r r (.ixa un25 sz72 r e112 r h106 (idx_lt hx108 h106) r r .mk)) (.g r r r (fun _ => .gyes r r r (.fa un72 r sz3 r (o := o110 + s79.toNat * 2) r r r .mk)) (.g r r r (fun _ => .gyes r r r (.ld1 (j := 0) ia3 hC113 r r r r r .mk)) (.g r r r (fun _ => .gyes r r r (.fa un37 r sz25 r (o := 1) r r r .mk)) (.g r r r (fun _ => .gyes r r r (.load1 ia25 r .z r r r .mk)) (.fk 2 r ?_)))))
     obtain ⟨h115, x116, hx117, hd⟩ := hd
     obtain ⟨b118, o119, cs120, e121, hC122, hr123⟩ := R3.2 _ _ hx117
     cases hr123
     refine .g r r r (fun _ => .gyes r r r (.ixa un25 sz72 r e121 r h115 (idx_lt hx117 h115) r r .mk)) (.g r r r (fun _ => .gyes r r r (.fa un72 r sz3 r (o := o119 + (w64 (s79 - 1)).toNat * 2) r r r .mk)) (.g r r r (fun _ => .gyes r r r (.ld1 (j := 0) ia3 hC122 r r r r r .mk)) (.fk 3 r (.e2 38 (.nilS [56, 3, 1] r r (.condP r hd (fun hb124 hd => ?_) fun hb124 hd => ?_))))))
     · exact .sr (.ks 1 r (.nilS [2] r r (.drop .z (.ret (pret results59 (.t r .n) hl82 ⟨false, r, hd⟩)))))
     exact .skipS [3, 1] r r (.region (.ks 3 r (.nil' fun c w ho hs => ⟨(w64 (s79 + 1)), hd, I81, hl82, ho.sub ⟨r, r, trivial⟩, hs.pick (.c .z .n)⟩)))
   rw [hb105]
   exact .fk 16 r (.e2 38 (.nilS [56, 3, 1] r r (.condKF r r (.skipS [3, 1] r r (.region (.ks 3 r (.nil' fun c w ho hs => ⟨(w64 (s79 + 1)), hd, I81, hl82, ho.sub ⟨r, r, trivial⟩, hs.pick (.c .z .n)⟩)))))))
 exact .exitS [] r r (.drop .z (.sr (.ks 1 r (.nilS [2] r r (.ret (pret results59 (.t r .n) hl82 ⟨true, r, hd⟩))))))

theorem W_ref09_Sure {I : IH} {a0 : Vec} {p1 : Option Addr} {c2 : Nat} {Q : Vec → Prop} (R3 : RepSl eItem I p1 c2 a0.Items) (hd : ref09_Sure a0 Q) :
  PFun prog 53 [.agg #[.int .i64 a0.N, .slice p1 a0.Items.length c2]] I (o8_ Q) := by
 refine Fun.enter func53 r ntmps53 r (.c .n) fun w0 M => ?_
 refine .sr (.boxA r r r fun b11 => ?_)
 refine .allocA zv37 r r fun b13 => ?_
 refine .nilS [2, 1] r r (.seq (.sr (.loadW ia37 sz37 r (.s .z) r r r ?_)))
 have hw16 := W_ref09_Right (I := I) R3 hd
 refine .callP call59 r hw16 r r fun v17 hv18 => ?_
 obtain ⟨r15, rfl, hd⟩ := hv18
 refine .nilS [4, 2, 1] r r (.condP r hd (fun hb19 hd => ?_) fun hb19 hd => ?_)
 · exact .sr (.loadW ia37 sz37 r (.s .z) r r r (.storeA sz37 r r .z (.t (.t .nil)) r r (.nilS [2] r r (.drop (.s .z) (.ret (pret results53 (.w ia37 sz37 r .z r .n) (.refl _) ⟨a0, _, _, r, R3, hd⟩))))))
 exact .skipS [2] r r (.drop (.s .z) (.sr (.build zv37 un37 BI37 .n (by exact trivial) r r (.storeA sz37 r r .z (.t (.t .nil)) r r (.nilS [2] r r (.ret (pret results53 (.w ia37 sz37 r .z r .n) (.refl _) ⟨({ N := 0, Items := ([] : List Item) } : Vec), _, _, r, (.nil _ _ _), hd⟩)))))))

theorem W_ref18_within {I : IH} {a0 : Int} {Q : Bool → Prop}  (hd : ref18_within a0 Q) :
  PFun prog 58 [.int .i64 a0] I (fun _ => o1_ Q) := by
 refine Fun.enter func58 r ntmps58 r (.c .n) fun w0 M => ?_
 refine .sr (.ks 1 r (.nilS [0] r r (.sr (.ks 3 r ?_))))
 refine splitP hd (fun hb1 hd => ?_) fun hb1 hd => ?_
 · rw [hb1]
   exact .ks 4 r (.nilS [2] r r (.ret (pret results58 (.t r .n) (.refl _) ⟨(decide (a0 ≤ 4096)), r, hd⟩)))
 rw [hb1]
 exact .ks 4 r (.nilS [2] r r (.ret (pret results58 (.t r .n) (.refl _) ⟨false, r, hd⟩)))

theorem W_ref17_Size {I : IH} {a0 : Int} {a1 : Int} {a2 : Int} {Q : Int → Prop}  (hd : ref17_Size a0 a1 a2 Q) :
  PFun prog 60 [.int .i64 a0, .int .i64 a1, .int .i64 a2] I (fun _ => o0_ Q) := by
 refine Fun.enter func60 r ntmps60 r (.c (.c (.c .n))) fun w0 M => ?_
 refine .sr (.ks 1 r (.nilS [2, 1, 0] r r (.seq (.sr (.ks 2 r ?_)))))
 have hw9 := W_ref17_may (I := I) hd
 refine .callP call97 r hw9 r r fun v10 hv11 => ?_
 obtain ⟨r8, rfl, hd⟩ := hv11
 refine .ks 2 r ?_
 refine splitP hd (fun hb12 hd => ?_) fun hb12 hd => ?_
 · rw [hb12]
   exact .ks 8 r (.nilS [19, 2, 1, 0] r r (.condKT r r (.sr (.ks 1 r (.nilS [6] r r (.ret (pret results60 (.t r .n) (.refl _) ⟨0, r, hd⟩)))))))
 rw [hb12]
 refine .ks 4 r ?_
 refine splitP hd (fun hb13 hd => ?_) fun hb13 hd => ?_
 · rw [hb13]
   exact .ks 4 r (.nilS [19, 2, 1, 0] r r (.condKT r r (.sr (.ks 1 r (.nilS [6] r r (.ret (pret results60 (.t r .n) (.refl _) ⟨0, r, hd⟩)))))))
 rw [hb13]
 refine .ks 4 r (.nilS [19, 2, 1, 0] r r (.condP r hd (fun hb14 hd => ?_) fun hb14 hd => ?_))
 · exact .sr (.ks 1 r (.nilS [6] r r (.ret (pret results60 (.t r .n) (.refl _) ⟨0, r, hd⟩))))
 refine .skipS [2, 1, 0] r r (.sr (.ks 4 r ?_))
 have hw16 := W_ref17_Low (I := I) hd
 refine .callP call48 r hw16 r r fun v17 hv18 => ?_
 obtain ⟨r15, rfl, hd⟩ := hv18
 refine .ks 3 r ?_
 have hw20 := W_ref17_Low (I := I) hd
 refine .callP call48 r hw20 r r fun v21 hv22 => ?_
 obtain ⟨r19, rfl, hd⟩ := hv22
 exact .ks 2 r (.nilS [6] r r (.ret (pret results60 (.t r .n) (.refl _) ⟨(w64 (r15 - r19)), r, hd⟩)))

theorem W_ref18_bounds {I : IH} {a0 : Int} {a1 : Int} {a2 : Int} {a3 : Int} {a4 : Int} {Q : (Int × Int) → Prop}  (hd : ref18_bounds a0 a1 a2 a3 a4 Q) :
  PFun prog 61 [.int .i64 a0, .int .i64 a1, .int .i64 a2, .int .i64 a3, .int .i64 a4] I (fun _ => o10_ Q) := by
 refine Fun.enter func61 r ntmps61 r (.c (.c (.c (.c (.c .n))))) fun w0 M => ?_
 refine .sr (.ks 2 r (.nilS [4, 3, 2, 1, 0] r r (.sr (.ks 3 r ?_))))
 have hw10 := W_ref17_Low (I := I) hd
 refine .callP call48 r hw10 r r fun v11 hv12 => ?_
 obtain ⟨r9, rfl, hd⟩ := hv12
 refine .ks 3 r ?_
 have hw14 := W_ref17_Low (I := I) hd
 refine .callP call48 r hw14 r r fun v15 hv16 => ?_
 obtain ⟨r13, rfl, hd⟩ := hv16
 refine .maxI r r r r (.ks 1 r (.nilS [12, 4, 3, 2, 1, 0] r r (.sr (.ks 4 r ?_))))
 have hw26 := W_ref17_Low (I := I) hd
 refine .callP call48 r hw26 r r fun v27 hv28 => ?_
 obtain ⟨r25, rfl, hd⟩ := hv28
 refine .ks 4 r ?_
 have hw30 := W_ref17_Low (I := I) hd
 refine .callP call48 r hw30 r r fun v31 hv32 => ?_
 obtain ⟨r29, rfl, hd⟩ := hv32
 refine .minI r r r r (.ks 1 r (.nilS [13, 12] r r (.seq (.sr (.ks 3 r (.nilS [36, 13, 12] r r (.condP r hd (fun hb33 hd => ?_) fun hb33 hd => ?_)))))))
 · exact .region (.ks 2 r (.nilS [13, 12] r r (.sr (.ks 4 r (.nilS [11, 10] r r (.ret (pret results61 (.t r (.t r .n)) (.refl _) ⟨((if r13 > r9 then r13 else r9), (if r13 > r9 then r13 else r9)), r, hd⟩)))))))
 exact .skipS [13, 12] r r (.sr (.ks 4 r (.nilS [11, 10] r r (.ret (pret results61 (.t r (.t r .n)) (.refl _) ⟨((if r13 > r9 then r13 else r9), (if r29 < r25 then r29 else r25)), r, hd⟩)))))

theorem W_law09_Few {I : IH} {a0 : Vec} {p1 : Option Addr} {c2 : Nat} {Q : Vec → Prop} (R3 : RepSl eItem I p1 c2 a0.Items) (hd : law09_Few a0 Q) :
  PFun prog 19 [.agg #[.int .i64 a0.N, .slice p1 a0.Items.length c2]] I (o8_ Q) := by
 refine Fun.enter func19 r ntmps19 r (.c .n) fun w0 M => ?_
 refine .sr (.boxA r r r fun b11 => ?_)
 refine .allocA zv37 r r fun b13 => ?_
 refine .nilS [2, 1] r r (.seq (.sr (.fa un37 r sz25 r (o := 1) r r r (.load1 ia25 r (.s .z) r r r (.len un25 r r r r (.ks 1 r (.nilS [6, 2, 1] r r (.condP r hd (fun hb15 hd => ?_) fun hb15 hd => ?_))))))))
 · refine .region (.fa un37 r sz25 r (o := 1) r r r (.load1 ia25 r (.s .z) r r r ?_))
   obtain ⟨h16, h17, h18, hd⟩ := hd
   have h24 : Int.toNat 0 ≤ Int.toNat 60 := by omega
   have h25 : Int.toNat 60 ≤ a0.Items.length := by omega
   obtain ⟨p19, c20, e22, e23, R21⟩ := RepSl.sliceW R3 (Int.toNat 0) (Int.toNat 60) c2 h24 h25 (.inl rfl)
   exact .sliceW (L := Int.toNat 0) (H := Int.toNat 60) (cm := c2) un25 sz72 r r R3.1 r r r (.inl ⟨r, r⟩) (.inr ⟨_, _, r, (by omega), r⟩) (.inl r) h24 h25 r e22 e23 r r (.fa un37 r sz25 r (o := 1) r r r (.store1 sz25 r r (.s .z) (.s (.t .nil)) r (.nilS [2, 1] r r (.sr (.loadW ia37 sz37 r (.s .z) r r r (.storeA sz37 r r .z (.t (.t .nil)) r r (.nilS [2] r r (.drop (.s .z) (.ret (pret results19 (.w ia37 sz37 r .z r .n) (.refl _) ⟨({ N := a0.N, Items := ((a0.Items.take (Int.toNat 60)).drop (Int.toNat 0)) } : Vec), _, _, r, R21, hd⟩))))))))))
 exact .skipS [2, 1] r r (.sr (.loadW ia37 sz37 r (.s .z) r r r (.storeA sz37 r r .z (.t (.t .nil)) r r (.nilS [2] r r (.drop (.s .z) (.ret (pret results19 (.w ia37 sz37 r .z r .n) (.refl _) ⟨a0, _, _, r, R3, hd⟩)))))))

theorem W_ref18_Join {I : IH} {a0 : Int} {a1 : Int} {a2 : Int} {a3 : Int} {a4 : List Rows} {p1 : Option Addr} {c2 : Nat} {Q : (Rows × Int) → Prop} (R3 : RepSl eRows I p1 c2 a4) (hd : ref18_Join a0 a1 a2 a3 a4 Q) :
  PFun prog 21 [.int .i64 a0, .int .i64 a1, .int .i64 a2, .int .i64 a3, .slice p1 a4.length c2] I (o6_ Q) := by
 refine Fun.enter func21 r ntmps21 r (.c (.c (.c (.c (.c .n))))) fun w0 M => ?_
 refine .sr (.allocA zv34 r r fun b15 => ?_)
 refine .ks 1 r (.nilS [10, 4, 3, 2, 1, 0] r r (.seq (.sr (.ks 1 r ?_))))
 have hw33 := W_ref18_within (I := I) hd
 refine .callP call58 r hw33 r r fun v34 hv35 => ?_
 obtain ⟨r32, rfl, hd⟩ := hv35
 refine .ks 2 r ?_
 refine splitP hd (fun hb36 hd => ?_) fun hb36 hd => ?_
 · rw [hb36]
   exact .ks 10 r (.nilS [31, 10, 4, 3, 2, 1, 0] r r (.condKT r r (.sr (.build zv34 un34 BI34 .n (by exact trivial) r r (.storeA sz34 r r .z (.t (.t (.t (.t (.t .nil))))) r r (.ks 1 r (.nilS [11, 10] r r (.ret (pret results21 (.w ia34 sz34 r .z r (.t r .n)) (.refl _) ⟨(({ Rows := 0, Cols := 0, Start := ([] : List Int), Col := ([] : List Int), Val := ([] : List Int) } : Rows), 3), _, _, _, _, _, _, r, (.nil _ _ _), (.nil _ _ _), (.nil _ _ _), hd⟩)))))))))
 rw [hb36]
 refine .ks 1 r ?_
 have hw38 := W_ref18_within (I := I) hd
 refine .gyes r r r (.callP call58 r hw38 r r fun v39 hv40 => ?_)
 obtain ⟨r37, rfl, hd⟩ := hv40
 refine .ks 3 r ?_
 refine splitP hd (fun hb41 hd => ?_) fun hb41 hd => ?_
 · rw [hb41]
   exact .ks 5 r (.nilS [31, 10, 4, 3, 2, 1, 0] r r (.condKT r r (.sr (.build zv34 un34 BI34 .n (by exact trivial) r r (.storeA sz34 r r .z (.t (.t (.t (.t (.t .nil))))) r r (.ks 1 r (.nilS [11, 10] r r (.ret (pret results21 (.w ia34 sz34 r .z r (.t r .n)) (.refl _) ⟨(({ Rows := 0, Cols := 0, Start := ([] : List Int), Col := ([] : List Int), Val := ([] : List Int) } : Rows), 3), _, _, _, _, _, _, r, (.nil _ _ _), (.nil _ _ _), (.nil _ _ _), hd⟩)))))))))
 rw [hb41]
 refine .ks 2 r ?_
 have hw43 := W_ref18_sides (I := I) hd
 refine .gyes r r r (.callP call46 r hw43 r r fun v44 hv45 => ?_)
 obtain ⟨r42, rfl, hd⟩ := hv45
 refine .ks 2 r (.nilS [31, 10, 4, 3, 2, 1, 0] r r (.condP r hd (fun hb46 hd => ?_) fun hb46 hd => ?_))
 · exact .sr (.build zv34 un34 BI34 .n (by exact trivial) r r (.storeA sz34 r r .z (.t (.t (.t (.t (.t .nil))))) r r (.ks 1 r (.nilS [11, 10] r r (.ret (pret results21 (.w ia34 sz34 r .z r (.t r .n)) (.refl _) ⟨(({ Rows := 0, Cols := 0, Start := ([] : List Int), Col := ([] : List Int), Val := ([] : List Int) } : Rows), 3), _, _, _, _, _, _, r, (.nil _ _ _), (.nil _ _ _), (.nil _ _ _), hd⟩))))))
 refine .skipS [10, 4, 3, 2, 1, 0] r r (.seq (.sr (.ks 1 r (.len un46 r r r r (.ks 4 r (.nilS [38, 10, 4, 3, 2, 1, 0] r r (.condP r hd (fun hb48 hd => ?_) fun hb48 hd => ?_)))))))
 · exact .sr (.build zv34 un34 BI34 .n (by exact trivial) r r (.storeA sz34 r r .z (.t (.t (.t (.t (.t .nil))))) r r (.ks 1 r (.nilS [11, 10] r r (.ret (pret results21 (.w ia34 sz34 r .z r (.t r .n)) (.refl _) ⟨(({ Rows := 0, Cols := 0, Start := ([] : List Int), Col := ([] : List Int), Val := ([] : List Int) } : Rows), 4), _, _, _, _, _, _, r, (.nil _ _ _), (.nil _ _ _), (.nil _ _ _), hd⟩))))))
 refine .skipS [10, 4, 3, 2, 1, 0] r r (.sr (.ks 1 r (.nilS [12, 10, 4, 3, 2, 1, 0] r r (.seq (.sr (.ks 1 r (.nilS [13, 12, 10, 4, 3, 2, 1, 0] r r (.block (.own0 eTriple 75 ?_)))))))))
 refine .loop hd (fun (s : (List Triple) × Int) c w => match s with | (s1608, s1612) => ∃ I_ p1609 c1610, IH.le I I_ ∧ Ok ⟨123, [], none⟩ [(0, .int .i64 a0), (1, .int .i64 a1), (2, .int .i64 a2), (3, .int .i64 a3), (4, .slice p1 a4.length c2), (10, .pointer (some ⟨b15, 0, none⟩)), (12, .slice p1609 s1608.length c1610), (13, .int .i64 s1612)] c ∧ Sym w0 M I I_ [pto b15 (.cells #[.int .i64 0, .int .i64 0, .slice none 0 0, .slice none 0 0, .slice none 0 0] 34 (0, 0)), OwnSl eTriple 75 p1609 c1610 s1608] w) (fun c w ho hs => ⟨I, _, _, (.refl _), ho.sub ⟨r, r, r, r, r, r, r, r, trivial⟩, hs.pick (.c (.s .z) (.c .z .n))⟩) ?_
 rintro ⟨s1608, s1612⟩ next1614 hd c w hst
 obtain ⟨I1615, p1609, c1610, hl1616, hok, hsym⟩ := hst
 replace R3 := R3.mono hl1616
 refine Cod.at hok hsym (.seq (.sr (.ks 3 r (.nilS [42, 13, 12, 10, 4, 3, 2, 1, 0] r r (.condP r hd (fun hb1618 hd => ?_) fun hb1618 hd => ?_)))))
 · refine .skipS [13, 12, 10, 4, 3, 2, 1, 0] r r (.seq (.block (.sr (.ks 1 r (.nilS [14, 13, 12, 10, 4, 3, 2, 1, 0] r r (.block (.loop hd (fun (s : (List Triple) × Int) c w => match s with | (s2136, s2140) => ∃ I_ p2137 c2138, IH.le I1615 I_ ∧ Ok ⟨123, [], none⟩ [(0, .int .i64 a0), (1, .int .i64 a1), (2, .int .i64 a2), (3, .int .i64 a3), (4, .slice p1 a4.length c2), (10, .pointer (some ⟨b15, 0, none⟩)), (12, .slice p2137 s2136.length c2138), (13, .int .i64 s1612), (14, .int .i64 s2140)] c ∧ Sym w0 M I I_ [pto b15 (.cells #[.int .i64 0, .int .i64 0, .slice none 0 0, .slice none 0 0, .slice none 0 0] 34 (0, 0)), OwnSl eTriple 75 p2137 c2138 s2136] w) (fun c w ho hs => ⟨I1615, _, _, (.refl _), ho.sub ⟨r, r, r, r, r, r, r, r, r, trivial⟩, hs.pick (.c .z (.c .z .n))⟩) ?_)))))))
   rintro ⟨s2136, s2140⟩ next2141 hd c w hst
   obtain ⟨I2142, p2137, c2138, hl2143, hok, hsym⟩ := hst
   have le2144 := IH.le.trans hl1616 hl2143
   replace R3 := R3.mono hl2143
   refine Cod.at hok hsym (.seq (.sr (.ks 3 r (.nilS [47, 14, 13, 12, 10, 4, 3, 2, 1, 0] r r (.condP r hd (fun hb2146 hd => ?_) fun hb2146 hd => ?_)))))
   · refine .skipS [14, 13, 12, 10, 4, 3, 2, 1, 0] r r (.seq (.block (.sr (.ks 6 r ?_))))
     obtain ⟨h2167, x2168, hx2169, hd⟩ := hd
     obtain ⟨b2170, o2171, cs2172, e2173, hC2174, hr2175⟩ := R3.2 _ _ hx2169
     obtain ⟨p2176, c2177, p2179, c2180, p2182, c2183, rfl, R2178, R2181, R2184⟩ := hr2175
     refine .ixa un46 sz34 r e2173 r h2167 (idx_lt hx2169 h2167) r r (.ldW ia34 sz34 hC2174 r r r r (.allocA zv34 r r fun b2185 => ?_))
     refine .storeA sz34 r r .z (.t (.t (.t (.t (.t .nil))))) r r (.nilS [15, 14, 13, 12, 10, 4, 3, 2, 1, 0] r r (.seq (.seq (.dr [0, 1, 2, 3, 4, 5, 6, 7, 8, 9, 10, 11, 12, 13, 14, 15, 16, 17, 18, 19, 20] 21 (.g r r r (fun _ => .loadW ia34 sz34 r .z r r r .mk) (.ww r fun ex => ?_))))))
     have hw2203 := W_ref07_Right (I := I2142) R2178 R2181 R2184 hd
     refine .callP call45 r hw2203 r r fun v2204 hv2205 => ?_
     obtain ⟨r2202, rfl, hd⟩ := hv2205
     refine .so 3 r r r trivial (.fk 2 r ?_)
     refine splitP hd (fun hb2206 hd => ?_) fun hb2206 hd => ?_
     · refine .g r r r (fun _ => .gno r r hb2206 r r .mk) (.g r r r (fun _ => .gno r r hb2206 r r .mk) (.g r r r (fun _ => .gno r r hb2206 r r .mk) (.g r r r (fun _ => .gno r r hb2206 r r .mk) (.g r r r (fun _ => .gno r r hb2206 r r .mk) (.g r r r (fun _ => .gno r r hb2206 r r .mk) (.g r r r (fun _ => .gno r r hb2206 r r .mk) (.g r r r (fun _ => .pickT r hb2206 r r r .mk) (.fk 9 r (.e2 21 ?_)))))))))
       exact .nilS [78, 15, 14, 13, 12, 10, 4, 3, 2, 1, 0] r r (.condKT r r (.sr (.build zv34 un34 BI34 .n (by exact trivial) r r (.storeA sz34 r r (.s .z) (.t (.t (.t (.t (.t .nil))))) r r (.ks 1 r (.nilS [11, 10] r r (.drop .z (.drop (.s .z) (.ret (pret results21 (.w ia34 sz34 r .z r (.t r .n)) le2144 ⟨(({ Rows := 0, Cols := 0, Start := ([] : List Int), Col := ([] : List Int), Val := ([] : List Int) } : Rows), 4), _, _, _, _, _, _, r, (.nil _ _ _), (.nil _ _ _), (.nil _ _ _), hd⟩))))))))))
     refine .g r r r (fun _ => .gyes r r hb2206 (.fa un34 r sz3 r (o := 0) r r r .mk)) (.g r r r (fun _ => .gyes r r hb2206 (.load1 ia3 r .z r r r .mk)) (.g r r r (fun _ => .gyes r r hb2206 (.move r r r .mk)) (.g r r r (fun _ => .gyes r r hb2206 (.move r r r .mk)) (.g r r r (fun _ => .gyes r r hb2206 (.move r r r .mk)) (.ww r fun ex => ?_)))))
     have hw2208 := W_ref17_Size (I := I2142) hd
     refine .gyes r r hb2206 (.callP call60 r hw2208 r r fun v2209 hv2210 => ?_)
     obtain ⟨r2207, rfl, hd⟩ := hv2210
     refine .so 3 r r r (.cg r r r r (fun _ => .gyes r r hb2206 (.load1 ia3 r .z r r r .mk)) (.cg r r r r (fun _ => .gyes r r hb2206 (.fa un34 r sz3 r (o := 0) r r r .mk)) trivial)) (.g r r r (fun _ => .gyes r r hb2206 (.ne r r r r .mk)) (.g r r r (fun _ => .pickF r hb2206 r r r .mk) (.fk 1 r ?_)))
     refine splitP hd (fun hb2211 hd => ?_) fun hb2211 hd => ?_
     · refine .g r r r (fun _ => .gno r r hb2211 r r .mk) (.g r r r (fun _ => .gno r r hb2211 r r .mk) (.g r r r (fun _ => .gno r r hb2211 r r .mk) (.g r r r (fun _ => .gno r r hb2211 r r .mk) (.g r r r (fun _ => .gno r r hb2211 r r .mk) (.g r r r (fun _ => .gno r r hb2211 r r .mk) (.g r r r (fun _ => .gno r r hb2211 r r .mk) (.g r r r (fun _ => .pickT r hb2211 r r r .mk) (.e2 21 (.nilS [78, 15, 14, 13, 12, 10, 4, 3, 2, 1, 0] r r ?_)))))))))
       exact .condKT r r (.sr (.build zv34 un34 BI34 .n (by exact trivial) r r (.storeA sz34 r r (.s .z) (.t (.t (.t (.t (.t .nil))))) r r (.ks 1 r (.nilS [11, 10] r r (.drop .z (.drop (.s .z) (.ret (pret results21 (.w ia34 sz34 r .z r (.t r .n)) le2144 ⟨(({ Rows := 0, Cols := 0, Start := ([] : List Int), Col := ([] : List Int), Val := ([] : List Int) } : Rows), 4), _, _, _, _, _, _, r, (.nil _ _ _), (.nil _ _ _), (.nil _ _ _), hd⟩)))))))))
     refine .g r r r (fun _ => .gyes r r hb2211 (.fa un34 r sz3 r (o := 1) r r r .mk)) (.g r r r (fun _ => .gyes r r hb2211 (.load1 ia3 r .z r r r .mk)) (.g r r r (fun _ => .gyes r r hb2211 (.move r r r .mk)) (.g r r r (fun _ => .gyes r r hb2211 (.move r r r .mk)) (.g r r r (fun _ => .gyes r r hb2211 (.move r r r .mk)) (.ww r fun ex => ?_)))))
     have hw2213 := W_ref17_Size (I := I2142) hd
     refine .gyes r r hb2211 (.callP call60 r hw2213 r r fun v2214 hv2215 => ?_)
     obtain ⟨r2212, rfl, hd⟩ := hv2215
     refine .so 3 r r r (.cg r r r r (fun _ => .gyes r r hb2211 (.load1 ia3 r .z r r r .mk)) (.cg r r r r (fun _ => .gyes r r hb2211 (.fa un34 r sz3 r (o := 1) r r r .mk)) trivial)) (.g r r r (fun _ => .gyes r r hb2211 (.ne r r r r .mk)) (.g r r r (fun _ => .pickF r hb2211 r r r .mk) (.e2 21 (.nilS [78, 15, 14, 13, 12, 10, 4, 3, 2, 1, 0] r r (.condP r hd (fun hb2216 hd => ?_) fun hb2216 hd => ?_)))))
     · exact .sr (.build zv34 un34 BI34 .n (by exact trivial) r r (.storeA sz34 r r (.s .z) (.t (.t (.t (.t (.t .nil))))) r r (.ks 1 r (.nilS [11, 10] r r (.drop .z (.drop (.s .z) (.ret (pret results21 (.w ia34 sz34 r .z r (.t r .n)) le2144 ⟨(({ Rows := 0, Cols := 0, Start := ([] : List Int), Col := ([] : List Int), Val := ([] : List Int) } : Rows), 4), _, _, _, _, _, _, r, (.nil _ _ _), (.nil _ _ _), (.nil _ _ _), hd⟩))))))))
     refine .skipS [15, 14, 13, 12, 10, 4, 3, 2, 1, 0] r r (.sr (.loadW ia34 sz34 r .z r r r ?_))
     have hw2238 := W_ref07_Triples (I := I2142) R2178 R2181 R2184 hd
     refine .call call68 r hw2238 r r fun v2233 I2230 hl2231 hv2232 => ?_
     obtain ⟨r2229, p2235, c2236, rfl, R2237, hd⟩ := hv2232
     have le2239 := IH.le.trans le2144 hl2231
     have le2240 := IH.le.trans hl2143 hl2231
     replace R3 := R3.mono hl2231
     replace R2178 := R2178.mono hl2231
     replace R2181 := R2181.mono hl2231
     replace R2184 := R2184.mono hl2231
     refine .ks 1 r (.nilS [16, 14, 13, 12, 10, 4, 3, 2, 1, 0] r r (.drop .z (.sr (.ks 1 r (.nilS [17, 16, 14, 13, 12, 10, 4, 3, 2, 1, 0] r r (.block (.loop hd (fun (s : (List Triple) × Int) c w => match s with | (s2344, s2348) => ∃ I_ p2345 c2346, IH.le I2230 I_ ∧ Ok ⟨123, [], none⟩ [(0, .int .i64 a0), (1, .int .i64 a1), (2, .int .i64 a2), (3, .int .i64 a3), (4, .slice p1 a4.length c2), (10, .pointer (some ⟨b15, 0, none⟩)), (12, .slice p2345 s2344.length c2346), (13, .int .i64 s1612), (14, .int .i64 s2140), (16, .slice p2235 r2229.length c2236), (17, .int .i64 s2348)] c ∧ Sym w0 M I I_ [pto b15 (.cells #[.int .i64 0, .int .i64 0, .slice none 0 0, .slice none 0 0, .slice none 0 0] 34 (0, 0)), OwnSl eTriple 75 p2345 c2346 s2344] w) (fun c w ho hs => ⟨I2230, _, _, (.refl _), ho.sub ⟨r, r, r, r, r, r, r, r, r, r, r, trivial⟩, hs.pick (.c .z (.c .z .n))⟩) ?_)))))))
     rintro ⟨s2344, s2348⟩ next2349 hd c w hst
     obtain ⟨I2350, p2345, c2346, hl2351, hok, hsym⟩ := hst
     have le2352 := IH.le.trans le2239 hl2351
     have le2353 := IH.le.trans le2240 hl2351
     replace R3 := R3.mono hl2351
     replace R2237 := R2237.mono hl2351
     refine Cod.at hok hsym (.seq (.sr (.ks 2 r (.len un24 r r r r (.ks 1 r (.nilS [85, 17, 16, 14, 13, 12, 10, 4, 3, 2, 1, 0] r r (.condP r hd (fun hb2355 hd => ?_) fun hb2355 hd => ?_)))))))
     · refine .skipS [17, 16, 14, 13, 12, 10, 4, 3, 2, 1, 0] r r (.seq (.block (.ownF (.s .z) fun hne2356 => ?_)))
       refine .dr [0, 1, 2, 3, 4, 5, 6, 7, 8, 11, 12, 13, 14, 15, 16, 17, 18, 21, 22, 23, 24, 25, 9, 10, 19, 20, 26, 27, 28] 29 (.fk 3 r ?_)
       obtain ⟨h2357, x2358, hx2359, hd⟩ := hd
       obtain ⟨b2360, o2361, cs2362, e2363, hC2364, hr2365⟩ := R2237.2 _ _ hx2359
       cases hr2365
       refine .g r r r (fun _ => .ixa un24 sz75 r e2363 r h2357 (idx_lt hx2359 h2357) r r .mk) (.g r r r (fun _ => .fa un75 r sz3 r (o := o2361 + s2348.toNat * 3) r r r .mk) (.g r r r (fun _ => .ld1 (j := 0) ia3 hC2364 r r r r r .mk) (.fk 5 r ?_)))
       obtain ⟨h2366, x2367, hx2368, hd⟩ := hd
       obtain ⟨b2369, o2370, cs2371, e2372, hC2373, hr2374⟩ := R2237.2 _ _ hx2368
       cases hr2374
       refine .g r r r (fun _ => .ixa un24 sz75 r e2372 r h2366 (idx_lt hx2368 h2366) r r .mk) (.g r r r (fun _ => .fa un75 r sz3 r (o := o2370 + s2348.toNat * 3 + 1) r r r .mk) (.g r r r (fun _ => .ld1 (j := 1) ia3 hC2373 r r r r r .mk) (.fk 5 r ?_)))
       obtain ⟨h2375, x2376, hx2377, hd⟩ := hd
       obtain ⟨b2378, o2379, cs2380, e2381, hC2382, hr2383⟩ := R2237.2 _ _ hx2377
       cases hr2383
       refine .g r r r (fun _ => .ixa un24 sz75 r e2381 r h2375 (idx_lt hx2377 h2375) r r .mk) (.g r r r (fun _ => .fa un75 r sz2 r (o := o2379 + s2348.toNat * 3 + 2) r r r .mk) (.g r r r (fun _ => .ld1 (j := 2) ia2 hC2382 r r r r r .mk) (.ww r fun ex => ?_)))
       have hw2385 := W_ref17_Low (I := I2350) hd
       refine .callP call48 r hw2385 r r fun v2386 hv2387 => ?_
       obtain ⟨r2384, rfl, hd⟩ := hv2387
       refine .so 2 r r r (.cg r r r r (fun _ => .ld1 (j := 2) ia2 hC2382 r r r r r .mk) (.cg r r r r (fun _ => .fa un75 r sz2 r (o := o2379 + s2348.toNat * 3 + 2) r r r .mk) (.cg r r r r (fun _ => .ixa un24 sz75 r e2381 r h2375 (idx_lt hx2377 h2375) r r .mk) (.ck 5 r r (.cg r r r r (fun _ => .ld1 (j := 1) ia3 hC2373 r r r r r .mk) (.cg r r r r (fun _ => .fa un75 r sz3 r (o := o2370 + s2348.toNat * 3 + 1) r r r .mk) (.cg r r r r (fun _ => .ixa un24 sz75 r e2372 r h2366 (idx_lt hx2368 h2366) r r .mk) (.ck 2 r r (.cg r r r r (fun _ => .ld1 (j := 0) ia3 hC2364 r r r r r .mk) (.cg r r r r (fun _ => .fa un75 r sz3 r (o := o2361 + s2348.toNat * 3) r r r .mk) (.cg r r r r (fun _ => .ixa un24 sz75 r e2363 r h2357 (idx_lt hx2359 h2357) r r .mk) (.ck 3 r r trivial)))))))))))) (.fk 1 r (.ww r fun ex => ?_))
       have hw2389 := W_ref17_Low (I := I2350) hd
       refine .callP call48 r hw2389 r r fun v2390 hv2391 => ?_
       obtain ⟨r2388, rfl, hd⟩ := hv2391
       refine .so 2 r r r (.ck 1 r r (.cg r r r r (fun _ => .ld1 (j := 2) ia2 hC2382 r r r r r .mk) (.cg r r r r (fun _ => .fa un75 r sz2 r (o := o2379 + s2348.toNat * 3 + 2) r r r .mk) (.cg r r r r (fun _ => .ixa un24 sz75 r e2381 r h2375 (idx_lt hx2377 h2375) r r .mk) (.ck 2 r r (.cg r r r r (fun _ => .ld1 (j := 1) ia3 hC2373 r r r r r .mk) (.cg r r r r (fun _ => .fa un75 r sz3 r (o := o2370 + s2348.toNat * 3 + 1) r r r .mk) (.cg r r r r (fun _ => .ixa un24 sz75 r e2372 r h2366 (idx_lt hx2368 h2366) r r .mk) (.ck 2 r r (.cg r r r r (fun _ => .ld1 (j := 0) ia3 hC2364 r r r r r .mk) (.cg r r r r (fun _ => .fa un75 r sz3 r (o := o2361 + s2348.toNat * 3) r r r .mk) (.cg r r r r (fun _ => .ixa un24 sz75 r e2363 r h2357 (idx_lt hx2359 h2357) r r .mk) (.ck 3 r r trivial))))))))))))) (.fk 1 r (.g r r r (fun _ => .build zv75 un75 BI75 (.c r r r (.t .nil) (.c r r r (.s (.t .nil)) (.c r r r (.s (.s (.t .nil))) .n))) (by exact ⟨⟨_, _, r, r, r⟩, ⟨⟨_, _, r, r, r⟩, ⟨⟨_, _, r, r, r⟩, trivial⟩⟩⟩) r r .mk) (.ww r fun ex => ?_)))
       refine .buildSlice 1 un24 sz75 zv75 r r (.c r r r .n) r r fun b2392 => ?_
       refine .so 3 r r r (.ck 1 r r trivial) (.ww r fun ex => ?_)
       obtain ⟨hl2394, hd⟩ := hd
       refine .append (ys := [({ Row := w64 (x2358.Row + r2384), Col := w64 (x2367.Col + r2388), Val := x2376.Val } : Triple)]) 24 (.s (.s .z)) un24 un24 IN75 r r r r r r r r r (.box .z (.one r) r) hl2394 r r fun p2395 c2396 => ?_
       exact .so 3 r r r trivial (.e2 29 (.ks 1 r (.nilS [12, 17, 16, 14, 13, 10, 4, 3, 2, 1, 0] r r (.drop (.s .z) (.region (.ks 3 r (.nil' fun c w ho hs => ⟨((s2344 ++ ([({ Row := w64 (x2358.Row + r2384), Col := w64 (x2367.Col + r2388), Val := x2376.Val } : Triple)])), w64 (s2348 + 1)), hd, I2350, _, _, hl2351, ho.sub ⟨r, r, r, r, r, r, r, r, r, r, r, trivial⟩, hs.pick (.c (.s .z) (.c .z .n))⟩)))))))
     exact .exitS [14, 13, 12, 10, 4, 3, 2, 1, 0] r r (.region (.ks 3 r (.nil' fun c w ho hs => ⟨(s2344, w64 (s2140 + 1)), hd, I2350, _, _, le2353, ho.sub ⟨r, r, r, r, r, r, r, r, r, trivial⟩, hs.pick (.c .z (.c .z .n))⟩)))
   exact .exitS [13, 12, 10, 4, 3, 2, 1, 0] r r (.region (.ks 3 r (.nil' fun c w ho hs => ⟨(s2136, w64 (s1612 + 1)), hd, I2142, _, _, le2144, ho.sub ⟨r, r, r, r, r, r, r, r, trivial⟩, hs.pick (.c .z (.c .z .n))⟩)))
 refine .exitS [12, 10, 1, 0] r r (.sr (.ks 3 r (.pub (.s .z) fun I2398 hl2399 R2400 => ?_)))
 have le2401 := IH.le.trans hl1616 hl2399
 have hw2417 := W_ref07_Of (I := I2398) R2400 hd
 refine .call call38 r hw2417 r r fun v2406 I2403 hl2404 hv2405 => ?_
 obtain ⟨r2402, p2408, c2409, p2411, c2412, p2414, c2415, rfl, R2410, R2413, R2416, hd⟩ := hv2405
 have le2418 := IH.le.trans le2401 hl2404
 replace R2400 := R2400.mono hl2404
 exact .ks 2 r (.storeA sz34 r r .z (.t (.t (.t (.t (.t .nil))))) r r (.ks 1 r (.nilS [11, 10] r r (.ret (pret results21 (.w ia34 sz34 r .z r (.t r .n)) le2418 ⟨(r2402.1, r2402.2), _, _, _, _, _, _, r, R2410, R2413, R2416, hd⟩)))))

theorem W_ref09_Glue {I : IH} {a0 : List Vec} {p1 : Option Addr} {c2 : Nat} {Q : (Vec × Int) → Prop} (R3 : RepSl eVec I p1 c2 a0) (hd : ref09_Glue a0 Q) :
  PFun prog 71 [.slice p1 a0.length c2] I (o7_ Q) := by
 refine Fun.enter func71 r ntmps71 r (.c .n) fun w0 M => ?_
 refine .sr (.allocA zv37 r r fun b9 => ?_)
 refine .ks 1 r (.nilS [2, 0] r r (.sr (.allocA zv37 r r fun b13 => ?_)))
 refine .nilS [4, 2, 0] r r (.seq (.sr (.ks 1 r (.nilS [5, 4, 2, 0] r r (.block (.own0 eItem 72 (.loop hd (fun (s : Int × (List Item) × Int) c w => match s with | (s557, s558, s562) => ∃ I_ p559 c560, IH.le I I_ ∧ Ok ⟨58, [], none⟩ [(0, .slice p1 a0.length c2), (2, .pointer (some ⟨b9, 0, none⟩)), (4, .pointer (some ⟨b13, 0, none⟩)), (5, .int .i64 s562)] c ∧ Sym w0 M I I_ [pto b9 (.cells #[.int .i64 0, .slice none 0 0] 37 (0, 0)), pto b13 (.cells #[.int .i64 s557, .slice p559 s558.length c560] 37 (0, 0)), OwnSl eItem 72 p559 c560 s558] w) (fun c w ho hs => ⟨I, _, _, (.refl _), ho.sub ⟨r, r, r, r, trivial⟩, hs.pick (.c (.s (.s .z)) (.c (.s .z) (.c .z .n)))⟩) ?_)))))))
 rintro ⟨s557, s558, s562⟩ next564 hd c w hst
 obtain ⟨I565, p559, c560, hl566, hok, hsym⟩ := hst
 replace R3 := R3.mono hl566
 refine Cod.at hok hsym (.seq (.sr (.ks 2 r (.len un47 r r r r (.ks 1 r (.nilS [11, 5, 4, 2, 0] r r (.condP r hd (fun hb568 hd => ?_) fun hb568 hd => ?_)))))))
 · refine .skipS [5, 4, 2, 0] r r (.seq (.block (.sr (.ks 2 r ?_))))
   obtain ⟨h594, x595, hx596, hd⟩ := hd
   obtain ⟨b597, o598, cs599, e600, hC601, hr602⟩ := R3.2 _ _ hx596
   obtain ⟨p603, c604, rfl, R605⟩ := hr602
   refine .ixa un47 sz37 r e600 r h594 (idx_lt hx596 h594) r r (.ldW ia37 sz37 hC601 r r r r ?_)
   have hw615 := W_ref09_Sure (I := I565) R605 hd
   refine .call call53 r hw615 r r fun v610 I607 hl608 hv609 => ?_
   obtain ⟨r606, p612, c613, rfl, R614, hd⟩ := hv609
   have le616 := IH.le.trans hl566 hl608
   replace R3 := R3.mono hl608
   replace R605 := R605.mono hl608
   replace hC601 := hC601.mono hl608
   refine .allocA zv37 r r fun b617 => ?_
   refine .storeA sz37 r r .z (.t (.t .nil)) r r (.nilS [6, 5, 4, 2, 0] r r (.seq (.sr (.ks 1 r (.nilS [7, 6, 5, 4, 2, 0] r r (.block (.loop hd (fun (s : (List Item) × Int) c w => match s with | (s793, s797) => ∃ I_ p794 c795, IH.le I607 I_ ∧ Ok ⟨58, [], none⟩ [(0, .slice p1 a0.length c2), (2, .pointer (some ⟨b9, 0, none⟩)), (4, .pointer (some ⟨b13, 0, none⟩)), (5, .int .i64 s562), (6, .pointer (some ⟨b617, 0, none⟩)), (7, .int .i64 s797)] c ∧ Sym w0 M I I_ [pto b9 (.cells #[.int .i64 0, .slice none 0 0] 37 (0, 0)), pto b13 (.cells #[.int .i64 s557, .slice p794 s793.length c795] 37 (0, 0)), OwnSl eItem 72 p794 c795 s793, pto b617 (.cells #[.int .i64 r606.N, .slice p612 r606.Items.length c613] 37 (0, 0))] w) (fun c w ho hs => ⟨I607, _, _, (.refl _), ho.sub ⟨r, r, r, r, r, r, trivial⟩, hs.pick (.c (.s .z) (.c (.s .z) (.c (.s .z) (.c .z .n))))⟩) ?_)))))))
   rintro ⟨s793, s797⟩ next798 hd c w hst
   obtain ⟨I799, p794, c795, hl800, hok, hsym⟩ := hst
   have le801 := IH.le.trans le616 hl800
   replace R3 := R3.mono hl800
   replace R614 := R614.mono hl800
   refine Cod.at hok hsym (.seq (.sr (.ks 1 r (.fa un37 r sz25 r (o := 1) r r r (.load1 ia25 r (.s (.s (.s .z))) r r r (.len un25 r r r r (.ks 1 r (.nilS [23, 7, 6, 5, 4, 2, 0] r r (.condP r hd (fun hb803 hd => ?_) fun hb803 hd => ?_)))))))))
   · refine .skipS [7, 6, 5, 4, 2, 0] r r (.seq (.block (.ownF (.s (.s .z)) fun hne804 => ?_)))
     refine .dr [0, 1, 2, 3, 4, 5, 6, 7, 8, 9, 10, 11, 12, 13, 14, 15, 16, 17, 18, 19] 20 (.g r r r (fun _ => .fa un37 r sz25 r (o := 1) r r r .mk) (.g r r r (fun _ => .load1 ia25 r (.s .z) r r r .mk) (.g r r r (fun _ => .fa un37 r sz3 r (o := 0) r r r .mk) (.g r r r (fun _ => .load1 ia3 r (.s .z) r r r .mk) (.g r r r (fun _ => .fa un37 r sz25 r (o := 1) r r r .mk) (.g r r r (fun _ => .load1 ia25 r (.s (.s (.s .z))) r r r .mk) (.fk 1 r ?_)))))))
     obtain ⟨h805, x806, hx807, hd⟩ := hd
     obtain ⟨b808, o809, cs810, e811, hC812, hr813⟩ := R614.2 _ _ hx807
     cases hr813
     refine .g r r r (fun _ => .ixa un25 sz72 r e811 r h805 (idx_lt hx807 h805) r r .mk) (.g r r r (fun _ => .fa un72 r sz3 r (o := o809 + s797.toNat * 2) r r r .mk) (.g r r r (fun _ => .ld1 (j := 0) ia3 hC812 r r r r r .mk) (.fk 1 r (.g r r r (fun _ => .fa un37 r sz25 r (o := 1) r r r .mk) (.g r r r (fun _ => .load1 ia25 r (.s (.s (.s .z))) r r r .mk) (.fk 1 r ?_))))))
     obtain ⟨h814, x815, hx816, hd⟩ := hd
     obtain ⟨b817, o818, cs819, e820, hC821, hr822⟩ := R614.2 _ _ hx816
     cases hr822
     refine .g r r r (fun _ => .ixa un25 sz72 r e820 r h814 (idx_lt hx816 h814) r r .mk) (.g r r r (fun _ => .fa un72 r sz2 r (o := o818 + s797.toNat * 2 + 1) r r r .mk) (.g r r r (fun _ => .ld1 (j := 1) ia2 hC821 r r r r r .mk) (.g r r r (fun _ => .build zv72 un72 BI72 (.c r r r (.t .nil) (.c r r r (.s (.t .nil)) .n)) (by exact ⟨⟨_, _, r, r, r⟩, ⟨⟨_, _, r, r, r⟩, trivial⟩⟩) r r .mk) (.ww r fun ex => ?_))))
     refine .buildSlice 1 un25 sz72 zv72 r r (.c r r r .n) r r fun b823 => ?_
     refine .so 5 r r r (.cg r r r r (fun _ => .load1 ia25 r (.s (.s .z)) r r r .mk) (.cg r r r r (fun _ => .fa un37 r sz25 r (o := 1) r r r .mk) trivial)) (.ww r fun ex => ?_)
     obtain ⟨hl825, hd⟩ := hd
     refine .append (ys := [({ At := w64 (s557 + x806.At), Val := x815.Val } : Item)]) 16 (.s (.s (.s .z))) un25 un25 IN72 r r r r r r r r r (.box .z (.one r) r) hl825 r r fun p826 c827 => ?_
     exact .so 5 r r r trivial (.e2 20 (.fa un37 r sz25 r (o := 1) r r r (.store1 sz25 r r (.s (.s (.s .z))) (.s (.t .nil)) r (.nilS [7, 6, 5, 4, 2, 0] r r (.drop (.s .z) (.region (.ks 3 r (.nil' fun c w ho hs => ⟨((s793 ++ ([({ At := w64 (s557 + x806.At), Val := x815.Val } : Item)])), w64 (s797 + 1)), hd, I799, _, _, hl800, ho.sub ⟨r, r, r, r, r, r, trivial⟩, hs.pick (.c (.s .z) (.c (.s .z) (.c .z (.c .z .n))))⟩))))))))
   refine .exitS [6, 5, 4, 2, 0] r r (.sr (.fa un37 r sz3 r (o := 0) r r r (.load1 ia3 r (.s .z) r r r (.fa un37 r sz3 r (o := 0) r r r (.load1 ia3 r (.s (.s (.s .z))) r r r (.ks 1 r (.fa un37 r sz3 r (o := 0) r r r (.store1 sz3 r r (.s .z) (.t .nil) r (.nilS [5, 4, 2, 0] r r ?_)))))))))
   refine .drop (.s (.s (.s .z))) (.sr (.fa un37 r sz3 r (o := 0) r r r (.load1 ia3 r (.s .z) r r r (.ks 1 r (.nilS [55, 5, 4, 2, 0] r r (.condP r hd (fun hb829 hd => ?_) fun hb829 hd => ?_))))))
   · exact .sr (.build zv37 un37 BI37 .n (by exact trivial) r r (.storeA sz37 r r .z (.t (.t .nil)) r r (.ks 1 r (.nilS [3, 2] r r (.drop (.s .z) (.drop (.s .z) (.ret (pret results71 (.w ia37 sz37 r .z r (.t r .n)) le801 ⟨(({ N := 0, Items := ([] : List Item) } : Vec), 5), _, _, r, (.nil _ _ _), hd⟩))))))))
   exact .skipS [5, 4, 2, 0] r r (.region (.ks 3 r (.nil' fun c w ho hs => ⟨(w64 (s557 + r606.N), s793, w64 (s562 + 1)), hd, I799, _, _, le801, ho.sub ⟨r, r, r, r, trivial⟩, hs.pick (.c .z (.c .z (.c .z .n)))⟩)))
 refine .exitS [4, 2] r r (.sr (.loadW ia37 sz37 r (.s .z) r r r (.storeA sz37 r r .z (.t (.t .nil)) r r (.ks 1 r (.nilS [3, 2] r r (.drop (.s .z) (.pub (.s .z) fun I830 hl831 R832 => ?_)))))))
 have le833 := IH.le.trans hl566 hl831
 exact .ret (pret results71 (.w ia37 sz37 r .z r (.t r .n)) le833 ⟨(({ N := s557, Items := s558 } : Vec), 0), _, _, r, R832, hd⟩)

theorem W_ref18_Glue {I : IH} {a0 : Int} {a1 : Int} {a2 : List Vec} {p1 : Option Addr} {c2 : Nat} {Q : (Vec × Int) → Prop} (R3 : RepSl eVec I p1 c2 a2) (hd : ref18_Glue a0 a1 a2 Q) :
  PFun prog 23 [.int .i64 a0, .int .i64 a1, .slice p1 a2.length c2] I (o7_ Q) := by
 refine Fun.enter func23 r ntmps23 r (.c (.c (.c .n))) fun w0 M => ?_
 refine .sr (.allocA zv37 r r fun b9 => ?_)
 refine .ks 1 r (.nilS [6, 2, 1, 0] r r (.seq (.sr (.ks 1 r ?_))))
 have hw22 := W_ref18_within (I := I) hd
 refine .callP call58 r hw22 r r fun v23 hv24 => ?_
 obtain ⟨r21, rfl, hd⟩ := hv24
 refine .ks 2 r ?_
 refine splitP hd (fun hb25 hd => ?_) fun hb25 hd => ?_
 · rw [hb25]
   exact .ks 5 r (.nilS [17, 6, 2, 1, 0] r r (.condKT r r (.sr (.build zv37 un37 BI37 .n (by exact trivial) r r (.storeA sz37 r r .z (.t (.t .nil)) r r (.ks 1 r (.nilS [7, 6] r r (.ret (pret results23 (.w ia37 sz37 r .z r (.t r .n)) (.refl _) ⟨(({ N := 0, Items := ([] : List Item) } : Vec), 3), _, _, r, (.nil _ _ _), hd⟩)))))))))
 rw [hb25]
 refine .ks 2 r ?_
 have hw27 := W_ref18_sides (I := I) hd
 refine .gyes r r r (.callP call46 r hw27 r r fun v28 hv29 => ?_)
 obtain ⟨r26, rfl, hd⟩ := hv29
 refine .ks 2 r (.nilS [17, 6, 2, 1, 0] r r (.condP r hd (fun hb30 hd => ?_) fun hb30 hd => ?_))
 · exact .sr (.build zv37 un37 BI37 .n (by exact trivial) r r (.storeA sz37 r r .z (.t (.t .nil)) r r (.ks 1 r (.nilS [7, 6] r r (.ret (pret results23 (.w ia37 sz37 r .z r (.t r .n)) (.refl _) ⟨(({ N := 0, Items := ([] : List Item) } : Vec), 3), _, _, r, (.nil _ _ _), hd⟩))))))
 refine .skipS [6, 2, 1, 0] r r (.seq (.sr (.ks 1 r (.len un47 r r r r (.ks 2 r (.nilS [22, 6, 2, 1, 0] r r (.condP r hd (fun hb32 hd => ?_) fun hb32 hd => ?_)))))))
 · exact .sr (.build zv37 un37 BI37 .n (by exact trivial) r r (.storeA sz37 r r .z (.t (.t .nil)) r r (.ks 1 r (.nilS [7, 6] r r (.ret (pret results23 (.w ia37 sz37 r .z r (.t r .n)) (.refl _) ⟨(({ N := 0, Items := ([] : List Item) } : Vec), 4), _, _, r, (.nil _ _ _), hd⟩))))))
 refine .skipS [6, 2, 1, 0] r r (.seq (.sr (.ks 1 r (.nilS [8, 6, 2, 1, 0] r r (.block (.loop hd (fun (s108 : Int) c w => ∃ I_, IH.le I I_ ∧ Ok ⟨52, [], none⟩ [(0, .int .i64 a0), (1, .int .i64 a1), (2, .slice p1 a2.length c2), (6, .pointer (some ⟨b9, 0, none⟩)), (8, .int .i64 s108)] c ∧ Sym w0 M I I_ [pto b9 (.cells #[.int .i64 0, .slice none 0 0] 37 (0, 0))] w) (fun c w ho hs => ⟨I, (.refl _), ho.sub ⟨r, r, r, r, r, trivial⟩, hs.pick (.c .z .n)⟩) ?_))))))
 rintro s108 next109 hd c w hst
 obtain ⟨I110, hl111, hok, hsym⟩ := hst
 replace R3 := R3.mono hl111
 refine Cod.at hok hsym (.seq (.sr (.ks 3 r (.nilS [26, 8, 6, 2, 1, 0] r r (.condP r hd (fun hb113 hd => ?_) fun hb113 hd => ?_)))))
 · refine .skipS [8, 6, 2, 1, 0] r r (.seq (.block (.seq (.dr [0, 1, 2, 3, 4, 5, 6, 7, 8, 9, 10, 11, 12, 13, 14, 15, 16, 17] 18 (.fk 2 r ?_)))))
   obtain ⟨h114, x115, hx116, hd⟩ := hd
   obtain ⟨b117, o118, cs119, e120, hC121, hr122⟩ := R3.2 _ _ hx116
   obtain ⟨p123, c124, rfl, R125⟩ := hr122
   refine .g r r r (fun _ => .ixa un47 sz37 r e120 r h114 (idx_lt hx116 h114) r r .mk) (.g r r r (fun _ => .ldW ia37 sz37 hC121 r r r r .mk) (.ww r fun ex => ?_))
   have hw127 := W_ref09_Right (I := I110) R125 hd
   refine .callP call59 r hw127 r r fun v128 hv129 => ?_
   obtain ⟨r126, rfl, hd⟩ := hv129
   refine .so 1 r r r trivial (.fk 2 r ?_)
   refine splitP hd (fun hb130 hd => ?_) fun hb130 hd => ?_
   · refine .g r r r (fun _ => .gno r r hb130 r r .mk) (.g r r r (fun _ => .gno r r hb130 r r .mk) (.g r r r (fun _ => .gno r r hb130 r r .mk) (.g r r r (fun _ => .gno r r hb130 r r .mk) (.g r r r (fun _ => .gno r r hb130 r r .mk) (.g r r r (fun _ => .gno r r hb130 r r .mk) (.g r r r (fun _ => .gno r r hb130 r r .mk) (.g r r r (fun _ => .gno r r hb130 r r .mk) (.g r r r (fun _ => .gno r r hb130 r r .mk) (.g r r r (fun _ => .gno r r hb130 r r .mk) ?_)))))))))
     exact .g r r r (fun _ => .pickT r hb130 r r r .mk) (.e2 18 (.nilS [46, 8, 6, 2, 1, 0] r r (.condKT r r (.sr (.build zv37 un37 BI37 .n (by exact trivial) r r (.storeA sz37 r r .z (.t (.t .nil)) r r (.ks 1 r (.nilS [7, 6] r r (.ret (pret results23 (.w ia37 sz37 r .z r (.t r .n)) hl111 ⟨(({ N := 0, Items := ([] : List Item) } : Vec), 4), _, _, r, (.nil _ _ _), hd⟩))))))))))
   refine .g r r r (fun _ => .gyes r r hb130 (.move r r r .mk)) (.g r r r (fun _ => .gyes r r hb130 (.move r r r .mk)) ?_)
   obtain ⟨h131, x132, hx133, hd⟩ := hd
   obtain ⟨b134, o135, cs136, e137, hC138, hr139⟩ := R3.2 _ _ hx133
   obtain ⟨p140, c141, rfl, R142⟩ := hr139
   refine .g r r r (fun _ => .gyes r r hb130 (.ixa un47 sz37 r e137 r h131 (idx_lt hx133 h131) r r .mk)) (.g r r r (fun _ => .gyes r r hb130 (.fa un37 r sz3 r (o := o135 + s108.toNat * 2) r r r .mk)) (.g r r r (fun _ => .gyes r r hb130 (.ld1 (j := 0) ia3 hC138 r r r r r .mk)) (.g r r r (fun _ => .gyes r r hb130 (.move r r r .mk)) (.g r r r (fun _ => .gyes r r hb130 (.move r r r .mk)) (.g r r r (fun _ => .gyes r r hb130 (.move r r r .mk)) (.ww r fun ex => ?_))))))
   have hw144 := W_ref17_Size (I := I110) hd
   refine .gyes r r hb130 (.callP call60 r hw144 r r fun v145 hv146 => ?_)
   obtain ⟨r143, rfl, hd⟩ := hv146
   refine .so 1 r r r (.cg r r r r (fun _ => .gyes r r hb130 (.ld1 (j := 0) ia3 hC138 r r r r r .mk)) (.cg r r r r (fun _ => .gyes r r hb130 (.fa un37 r sz3 r (o := o135 + s108.toNat * 2) r r r .mk)) (.cg r r r r (fun _ => .gyes r r hb130 (.ixa un47 sz37 r e137 r h131 (idx_lt hx133 h131) r r .mk)) (.cg r r r r (fun _ => .gyes r r hb130 (.move r r r .mk)) (.cg r r r r (fun _ => .gyes r r hb130 (.move r r r .mk)) trivial))))) (.g r r r (fun _ => .gyes r r hb130 (.ne r r r r .mk)) (.g r r r (fun _ => .pickF r hb130 r r r .mk) (.e2 18 (.nilS [46, 8, 6, 2, 1, 0] r r (.condP r hd (fun hb147 hd => ?_) fun hb147 hd => ?_)))))
   · exact .sr (.build zv37 un37 BI37 .n (by exact trivial) r r (.storeA sz37 r r .z (.t (.t .nil)) r r (.ks 1 r (.nilS [7, 6] r r (.ret (pret results23 (.w ia37 sz37 r .z r (.t r .n)) hl111 ⟨(({ N := 0, Items := ([] : List Item) } : Vec), 4), _, _, r, (.nil _ _ _), hd⟩))))))
   exact .skipS [8, 6, 2, 1, 0] r r (.region (.ks 3 r (.nil' fun c w ho hs => ⟨(w64 (s108 + 1)), hd, I110, hl111, ho.sub ⟨r, r, r, r, r, trivial⟩, hs.pick (.c .z .n)⟩)))
 refine .exitS [6, 2] r r (.sr (.ks 1 r ?_))
 have hw157 := W_ref09_Glue (I := I110) R3 hd
 refine .call call71 r hw157 r r fun v152 I149 hl150 hv151 => ?_
 obtain ⟨r148, p154, c155, rfl, R156, hd⟩ := hv151
 have le158 := IH.le.trans hl111 hl150
 replace R3 := R3.mono hl150
 exact .ks 2 r (.storeA sz37 r r .z (.t (.t .nil)) r r (.ks 1 r (.nilS [7, 6] r r (.ret (pret results23 (.w ia37 sz37 r .z r (.t r .n)) le158 ⟨(r148.1, r148.2), _, _, r, R156, hd⟩)))))

theorem W_ref18_Fit {I : IH} {a0 : Int} {a1 : Int} {a2 : Int} {a3 : Int} {a4 : List Vec} {p1 : Option Addr} {c2 : Nat} {Q : (Vec × Int) → Prop} (R3 : RepSl eVec I p1 c2 a4) (hd : ref18_Fit a0 a1 a2 a3 a4 Q) :
  PFun prog 25 [.int .i64 a0, .int .i64 a1, .int .i64 a2, .int .i64 a3, .slice p1 a4.length c2] I (o7_ Q) := by
 refine Fun.enter func25 r ntmps25 r (.c (.c (.c (.c (.c .n))))) fun w0 M => ?_
 refine .sr (.allocA zv37 r r fun b9 => ?_)
 refine .ks 1 r (.nilS [10, 4, 3, 2, 1, 0] r r (.seq (.sr (.ks 1 r ?_))))
 have hw24 := W_ref18_within (I := I) hd
 refine .callP call58 r hw24 r r fun v25 hv26 => ?_
 obtain ⟨r23, rfl, hd⟩ := hv26
 refine .ks 2 r ?_
 refine splitP hd (fun hb27 hd => ?_) fun hb27 hd => ?_
 · rw [hb27]
   exact .ks 14 r (.nilS [32, 10, 4, 3, 2, 1, 0] r r (.condKT r r (.sr (.build zv37 un37 BI37 .n (by exact trivial) r r (.storeA sz37 r r .z (.t (.t .nil)) r r (.ks 1 r (.nilS [11, 10] r r (.ret (pret results25 (.w ia37 sz37 r .z r (.t r .n)) (.refl _) ⟨(({ N := 0, Items := ([] : List Item) } : Vec), 3), _, _, r, (.nil _ _ _), hd⟩)))))))))
 rw [hb27]
 refine .ks 2 r ?_
 have hw29 := W_ref18_sides (I := I) hd
 refine .gyes r r r (.callP call46 r hw29 r r fun v30 hv31 => ?_)
 obtain ⟨r28, rfl, hd⟩ := hv31
 refine .ks 3 r ?_
 refine splitP hd (fun hb32 hd => ?_) fun hb32 hd => ?_
 · rw [hb32]
   exact .ks 8 r (.nilS [32, 10, 4, 3, 2, 1, 0] r r (.condKT r r (.sr (.build zv37 un37 BI37 .n (by exact trivial) r r (.storeA sz37 r r .z (.t (.t .nil)) r r (.ks 1 r (.nilS [11, 10] r r (.ret (pret results25 (.w ia37 sz37 r .z r (.t r .n)) (.refl _) ⟨(({ N := 0, Items := ([] : List Item) } : Vec), 3), _, _, r, (.nil _ _ _), hd⟩)))))))))
 rw [hb32]
 refine .ks 4 r ?_
 refine splitP hd (fun hb33 hd => ?_) fun hb33 hd => ?_
 · rw [hb33]
   exact .ks 4 r (.nilS [32, 10, 4, 3, 2, 1, 0] r r (.condKT r r (.sr (.build zv37 un37 BI37 .n (by exact trivial) r r (.storeA sz37 r r .z (.t (.t .nil)) r r (.ks 1 r (.nilS [11, 10] r r (.ret (pret results25 (.w ia37 sz37 r .z r (.t r .n)) (.refl _) ⟨(({ N := 0, Items := ([] : List Item) } : Vec), 3), _, _, r, (.nil _ _ _), hd⟩)))))))))
 rw [hb33]
 refine .ks 4 r (.nilS [32, 10, 4, 3, 2, 1, 0] r r (.condP r hd (fun hb34 hd => ?_) fun hb34 hd => ?_))
 · exact .sr (.build zv37 un37 BI37 .n (by exact trivial) r r (.storeA sz37 r r .z (.t (.t .nil)) r r (.ks 1 r (.nilS [11, 10] r r (.ret (pret results25 (.w ia37 sz37 r .z r (.t r .n)) (.refl _) ⟨(({ N := 0, Items := ([] : List Item) } : Vec), 3), _, _, r, (.nil _ _ _), hd⟩))))))
 refine .skipS [10, 4, 3, 2, 1, 0] r r (.seq (.sr (.ks 1 r (.len un47 r r r r (.ks 2 r (.nilS [37, 10, 4, 3, 2, 1, 0] r r (.condP r hd (fun hb36 hd => ?_) fun hb36 hd => ?_)))))))
 · exact .sr (.build zv37 un37 BI37 .n (by exact trivial) r r (.storeA sz37 r r .z (.t (.t .nil)) r r (.ks 1 r (.nilS [11, 10] r r (.ret (pret results25 (.w ia37 sz37 r .z r (.t r .n)) (.refl _) ⟨(({ N := 0, Items := ([] : List Item) } : Vec), 4), _, _, r, (.nil _ _ _), hd⟩))))))
 refine .skipS [10, 4, 3, 2, 1, 0] r r (.seq (.sr (.ks 1 r (.nilS [12, 10, 4, 3, 2, 1, 0] r r (.block (.loop hd (fun (s120 : Int) c w => ∃ I_, IH.le I I_ ∧ Ok ⟨75, [], none⟩ [(0, .int .i64 a0), (1, .int .i64 a1), (2, .int .i64 a2), (3, .int .i64 a3), (4, .slice p1 a4.length c2), (10, .pointer (some ⟨b9, 0, none⟩)), (12, .int .i64 s120)] c ∧ Sym w0 M I I_ [pto b9 (.cells #[.int .i64 0, .slice none 0 0] 37 (0, 0))] w) (fun c w ho hs => ⟨I, (.refl _), ho.sub ⟨r, r, r, r, r, r, r, trivial⟩, hs.pick (.c .z .n)⟩) ?_))))))
 rintro s120 next121 hd c w hst
 obtain ⟨I122, hl123, hok, hsym⟩ := hst
 replace R3 := R3.mono hl123
 refine Cod.at hok hsym (.seq (.sr (.ks 3 r (.nilS [41, 12, 10, 4, 3, 2, 1, 0] r r (.condP r hd (fun hb125 hd => ?_) fun hb125 hd => ?_)))))
 · refine .skipS [12, 10, 4, 3, 2, 1, 0] r r (.seq (.block (.sr (.ks 5 r ?_))))
   have hw131 := W_ref18_bounds (I := I122) hd
   refine .callP call61 r hw131 r r fun v132 hv133 => ?_
   obtain ⟨r130, rfl, hd⟩ := hv133
   refine .ks 5 r (.nilS [14, 13, 12, 10, 4, 3, 2, 1, 0] r r (.sr (.ks 2 r ?_)))
   obtain ⟨h134, x135, hx136, hd⟩ := hd
   obtain ⟨b137, o138, cs139, e140, hC141, hr142⟩ := R3.2 _ _ hx136
   obtain ⟨p143, c144, rfl, R145⟩ := hr142
   refine .ixa un47 sz37 r e140 r h134 (idx_lt hx136 h134) r r (.ldW ia37 sz37 hC141 r r r r ?_)
   have hw147 := W_ref09_Right (I := I122) R145 hd
   refine .callP call59 r hw147 r r fun v148 hv149 => ?_
   obtain ⟨r146, rfl, hd⟩ := hv149
   refine .ks 2 r ?_
   refine splitP hd (fun hb150 hd => ?_) fun hb150 hd => ?_
   · rw [hb150]
     exact .ks 10 r (.nilS [69, 12, 10, 4, 3, 2, 1, 0] r r (.condKT r r (.sr (.build zv37 un37 BI37 .n (by exact trivial) r r (.storeA sz37 r r .z (.t (.t .nil)) r r (.ks 1 r (.nilS [11, 10] r r (.ret (pret results25 (.w ia37 sz37 r .z r (.t r .n)) hl123 ⟨(({ N := 0, Items := ([] : List Item) } : Vec), 4), _, _, r, (.nil _ _ _), hd⟩)))))))))
   rw [hb150]
   refine .ks 2 r ?_
   obtain ⟨h151, x152, hx153, hd⟩ := hd
   obtain ⟨b154, o155, cs156, e157, hC158, hr159⟩ := R3.2 _ _ hx153
   obtain ⟨p160, c161, rfl, R162⟩ := hr159
   refine .gyes r r r (.ixa un47 sz37 r e157 r h151 (idx_lt hx153 h151) r r (.gyes r r r (.fa un37 r sz3 r (o := o155 + s120.toNat * 2) r r r (.gyes r r r (.ld1 (j := 0) ia3 hC158 r r r r r (.ks 5 r (.nilS [69, 12, 10, 4, 3, 2, 1, 0] r r (.condP r hd (fun hb163 hd => ?_) fun hb163 hd => ?_))))))))
   · exact .sr (.build zv37 un37 BI37 .n (by exact trivial) r r (.storeA sz37 r r .z (.t (.t .nil)) r r (.ks 1 r (.nilS [11, 10] r r (.ret (pret results25 (.w ia37 sz37 r .z r (.t r .n)) hl123 ⟨(({ N := 0, Items := ([] : List Item) } : Vec), 4), _, _, r, (.nil _ _ _), hd⟩))))))
   exact .skipS [12, 10, 4, 3, 2, 1, 0] r r (.region (.ks 3 r (.nil' fun c w ho hs => ⟨(w64 (s120 + 1)), hd, I122, hl123, ho.sub ⟨r, r, r, r, r, r, r, trivial⟩, hs.pick (.c .z .n)⟩)))
 refine .exitS [10, 4] r r (.sr (.ks 1 r ?_))
 have hw173 := W_ref09_Glue (I := I122) R3 hd
 refine .call call71 r hw173 r r fun v168 I165 hl166 hv167 => ?_
 obtain ⟨r164, p170, c171, rfl, R172, hd⟩ := hv167
 have le174 := IH.le.trans hl123 hl166
 replace R3 := R3.mono hl166
 exact .ks 2 r (.storeA sz37 r r .z (.t (.t .nil)) r r (.ks 1 r (.nilS [11, 10] r r (.ret (pret results25 (.w ia37 sz37 r .z r (.t r .n)) le174 ⟨(r164.1, r164.2), _, _, r, R172, hd⟩)))))

theorem W_law18_BlockJoins {I : IH} {a0 : List Rows} {a1 : List Vec} {a2 : Law18_Grid} {p1 : Option Addr} {c2 : Nat} {p4 : Option Addr} {c5 : Nat} {Q : Bool → Prop} (R3 : RepSl eRows I p1 c2 a0) (R6 : RepSl eVec I p4 c5 a1) (hd : law18_BlockJoins a0 a1 a2 Q) :
  PFun prog 4 [.slice p1 a0.length c2, .slice p4 a1.length c5, .agg (encLaw18_Grid a2).toArray] I (fun _ => o1_ Q) := by
 refine Fun.enter func4 r ntmps4 r (.c (.c (.c .n))) fun w0 M => ?_
 refine .sr (.boxA r r r fun b9 => ?_)
 refine .ks 1 r (.nilS [5, 1, 0] r r (.seq (.sr (.ks 1 r (.len un46 r r r r (.ks 2 r ?_))))))
 refine splitP hd (fun hb21 hd => ?_) fun hb21 hd => ?_
 · rw [hb21]
   refine .ks 4 r (.nilS [29, 5, 1, 0] r r (.condKT r r (.sr ?_)))
   have hw23 := W_law18_live (I := I) hd
   refine .callP call10 r hw23 r r fun v24 hv25 => ?_
   obtain ⟨r22, rfl, hd⟩ := hv25
   exact .ks 1 r (.nilS [6] r r (.drop .z (.ret (pret results4 (.t r .n) (.refl _) ⟨r22, r, hd⟩))))
 rw [hb21]
 refine .ks 1 r (.gyes r r r (.len un47 r r r r (.ks 2 r (.nilS [29, 5, 1, 0] r r (.condP r hd (fun hb26 hd => ?_) fun hb26 hd => ?_)))))
 · refine .sr ?_
   have hw28 := W_law18_live (I := I) hd
   refine .callP call10 r hw28 r r fun v29 hv30 => ?_
   obtain ⟨r27, rfl, hd⟩ := hv30
   exact .ks 1 r (.nilS [6] r r (.drop .z (.ret (pret results4 (.t r .n) (.refl _) ⟨r27, r, hd⟩))))
 refine .skipS [5, 1, 0] r r (.seq (.sr (.ks 1 r (.nilS [7, 5, 1, 0] r r (.block (.loop hd (fun (s281 : Int) c w => ∃ I_, IH.le I I_ ∧ Ok ⟨169, [], none⟩ [(0, .slice p1 a0.length c2), (1, .slice p4 a1.length c5), (5, .pointer (some ⟨b9, 0, none⟩)), (7, .int .i64 s281)] c ∧ Sym w0 M I I_ [pto b9 (.cells #[.int .i64 a2.R, .int .i64 a2.C, .int .i64 a2.I, .int .i64 a2.J] 30 (0, 0))] w) (fun c w ho hs => ⟨I, (.refl _), ho.sub ⟨r, r, r, r, trivial⟩, hs.pick (.c .z .n)⟩) ?_))))))
 rintro s281 next282 hd c w hst
 obtain ⟨I283, hl284, hok, hsym⟩ := hst
 replace R3 := R3.mono hl284
 replace R6 := R6.mono hl284
 refine Cod.at hok hsym (.seq (.sr (.ks 2 r (.len un46 r r r r (.ks 1 r (.nilS [34, 7, 5, 1, 0] r r (.condP r hd (fun hb286 hd => ?_) fun hb286 hd => ?_)))))))
 · refine .skipS [7, 5, 1, 0] r r (.seq (.block (.sr (.ks 2 r ?_))))
   obtain ⟨h287, x288, hx289, hd⟩ := hd
   obtain ⟨b290, o291, cs292, e293, hC294, hr295⟩ := R3.2 _ _ hx289
   obtain ⟨p296, c297, p299, c300, p302, c303, rfl, R298, R301, R304⟩ := hr295
   refine .ixa un46 sz34 r e293 r h287 (idx_lt hx289 h287) r r (.fa un34 r sz31 r (o := o291 + s281.toNat * 5 + 2) r r r (.ld1 (j := 2) ia31 hC294 r r r r r (.len un31 r r r r (.ks 2 r ?_))))
   refine splitP hd (fun hb305 hd => ?_) fun hb305 hd => ?_
   · rw [hb305]
     refine .ks 8 r (.nilS [52, 7, 5, 1, 0] r r (.condKT r r (.sr ?_)))
     have hw307 := W_law18_live (I := I283) hd
     refine .callP call10 r hw307 r r fun v308 hv309 => ?_
     obtain ⟨r306, rfl, hd⟩ := hv309
     exact .ks 1 r (.nilS [6] r r (.drop .z (.ret (pret results4 (.t r .n) hl284 ⟨r306, r, hd⟩))))
   rw [hb305]
   refine .ks 2 r ?_
   obtain ⟨h310, x311, hx312, hd⟩ := hd
   obtain ⟨b313, o314, cs315, e316, hC317, hr318⟩ := R3.2 _ _ hx312
   obtain ⟨p319, c320, p322, c323, p325, c326, rfl, R321, R324, R327⟩ := hr318
   refine .gyes r r r (.ixa un46 sz34 r e316 r h310 (idx_lt hx312 h310) r r (.gyes r r r (.fa un34 r sz31 r (o := o314 + s281.toNat * 5 + 3) r r r (.gyes r r r (.ld1 (j := 3) ia31 hC317 r r r r r (.gyes r r r (.len un31 r r r r (.ks 2 r (.nilS [52, 7, 5, 1, 0] r r (.condP r hd (fun hb328 hd => ?_) fun hb328 hd => ?_))))))))))
   · refine .sr ?_
     have hw330 := W_law18_live (I := I283) hd
     refine .callP call10 r hw330 r r fun v331 hv332 => ?_
     obtain ⟨r329, rfl, hd⟩ := hv332
     exact .ks 1 r (.nilS [6] r r (.drop .z (.ret (pret results4 (.t r .n) hl284 ⟨r329, r, hd⟩))))
   exact .skipS [7, 5, 1, 0] r r (.region (.ks 3 r (.nil' fun c w ho hs => ⟨(w64 (s281 + 1)), hd, I283, hl284, ho.sub ⟨r, r, r, r, trivial⟩, hs.pick (.c .z .n)⟩)))
 refine .exitS [5, 1, 0] r r (.sr (.ks 1 r (.nilS [8, 5, 1, 0] r r (.seq (.sr (.ks 1 r (.nilS [9, 8, 5, 1, 0] r r (.block (.own0 eVec 37 ?_)))))))))
 refine .loop hd (fun (s : (List Vec) × Int) c w => match s with | (s531, s535) => ∃ I_ p532 c533, IH.le I283 I_ ∧ Ok ⟨169, [], none⟩ [(0, .slice p1 a0.length c2), (1, .slice p4 a1.length c5), (5, .pointer (some ⟨b9, 0, none⟩)), (8, .slice p532 s531.length c533), (9, .int .i64 s535)] c ∧ Sym w0 M I I_ [pto b9 (.cells #[.int .i64 a2.R, .int .i64 a2.C, .int .i64 a2.I, .int .i64 a2.J] 30 (0, 0)), OwnSl eVec 37 p532 c533 s531] w) (fun c w ho hs => ⟨I283, _, _, (.refl _), ho.sub ⟨r, r, r, r, r, trivial⟩, hs.pick (.c (.s .z) (.c .z .n))⟩) ?_
 rintro ⟨s531, s535⟩ next537 hd c w hst
 obtain ⟨I538, p532, c533, hl539, hok, hsym⟩ := hst
 have le540 := IH.le.trans hl284 hl539
 replace R3 := R3.mono hl539
 replace R6 := R6.mono hl539
 refine Cod.at hok hsym (.seq (.sr (.ks 2 r (.len un47 r r r r (.ks 1 r (.nilS [57, 9, 8, 5, 1, 0] r r (.condP r hd (fun hb542 hd => ?_) fun hb542 hd => ?_)))))))
 · refine .skipS [9, 8, 5, 1, 0] r r (.seq (.block (.region (.ks 3 r ?_))))
   obtain ⟨h543, x544, hx545, hd⟩ := hd
   obtain ⟨b546, o547, cs548, e549, hC550, hr551⟩ := R6.2 _ _ hx545
   obtain ⟨p552, c553, rfl, R554⟩ := hr551
   refine .ixa un47 sz37 r e549 r h543 (idx_lt hx545 h543) r r (.ldW ia37 sz37 hC550 r r r r ?_)
   have hw564 := W_law09_Few (I := I538) R554 hd
   refine .call call19 r hw564 r r fun v559 I556 hl557 hv558 => ?_
   obtain ⟨r555, p561, c562, rfl, R563, hd⟩ := hv558
   have le565 := IH.le.trans le540 hl557
   have le566 := IH.le.trans hl539 hl557
   replace R3 := R3.mono hl557
   replace R6 := R6.mono hl557
   replace R554 := R554.mono hl557
   replace hC550 := hC550.mono hl557
   refine .buildSlice 1 un47 sz37 zv37 r r (.c r r r .n) r r fun b567 => ?_
   obtain ⟨hl569, hd⟩ := hd
   refine .append (ys := [r555]) 32 (.s (.s .z)) un47 un47 IN37 r r r r r r r r r (.box .z (.one ⟨_, _, r, R563⟩) r) hl569 r r fun p570 c571 => ?_
   exact .ks 1 r (.nilS [8, 9, 5, 1, 0] r r (.drop (.s .z) (.region (.ks 3 r (.nil' fun c w ho hs => ⟨((s531 ++ ([r555])), w64 (s535 + 1)), hd, I556, _, _, le566, ho.sub ⟨r, r, r, r, r, trivial⟩, hs.pick (.c (.s .z) (.c .z .n))⟩)))))
 refine .exitS [8, 5, 0] r r (.sr (.fa un30 r sz3 r (o := 2) r r r (.load1 ia3 r .z r r r (.fa un30 r sz3 r (o := 3) r r r (.load1 ia3 r .z r r r (.fa un30 r sz3 r (o := 0) r r r (.load1 ia3 r .z r r r (.fa un30 r sz3 r (o := 1) r r r (.load1 ia3 r .z r r r ?_)))))))))
 refine .ks 1 r ?_
 have hw608 := W_block_Join (I := I538) R3 hd
 refine .call call20 r hw608 r r fun v597 I594 hl595 hv596 => ?_
 obtain ⟨r593, p599, c600, p602, c603, p605, c606, rfl, R601, R604, R607, hd⟩ := hv596
 have le609 := IH.le.trans le540 hl595
 have le610 := IH.le.trans hl539 hl595
 replace R3 := R3.mono hl595
 refine .ks 3 r (.allocA zv34 r r fun b611 => ?_)
 refine .storeA sz34 r r .z (.t (.t (.t (.t (.t .nil))))) r r (.ks 1 r (.nilS [11, 10, 8, 5, 0] r r (.sr (.fa un30 r sz3 r (o := 2) r r r (.load1 ia3 r (.s .z) r r r (.fa un30 r sz3 r (o := 3) r r r (.load1 ia3 r (.s .z) r r r (.fa un30 r sz3 r (o := 0) r r r (.load1 ia3 r (.s .z) r r r ?_)))))))))
 refine .fa un30 r sz3 r (o := 1) r r r (.load1 ia3 r (.s .z) r r r (.ks 1 r ?_))
 have hw648 := W_ref18_Join (I := I594) R3 hd
 refine .call call21 r hw648 r r fun v637 I634 hl635 hv636 => ?_
 obtain ⟨r633, p639, c640, p642, c643, p645, c646, rfl, R641, R644, R647, hd⟩ := hv636
 have le649 := IH.le.trans le609 hl635
 have le650 := IH.le.trans le610 hl635
 replace R3 := R3.mono hl635
 replace R601 := R601.mono hl635
 replace R604 := R604.mono hl635
 replace R607 := R607.mono hl635
 refine .ks 3 r (.allocA zv34 r r fun b651 => ?_)
 refine .storeA sz34 r r .z (.t (.t (.t (.t (.t .nil))))) r r (.ks 1 r (.nilS [13, 12, 11, 10, 8, 5] r r (.sr (.fa un30 r sz3 r (o := 2) r r r (.load1 ia3 r (.s (.s .z)) r r r (.fa un30 r sz3 r (o := 0) r r r (.load1 ia3 r (.s (.s .z)) r r r (.ks 1 r (.pub (.s (.s (.s .z))) fun I672 hl673 R674 => ?_)))))))))
 have le675 := IH.le.trans le649 hl673
 have le676 := IH.le.trans le650 hl673
 replace R601 := R601.mono hl673
 replace R604 := R604.mono hl673
 replace R607 := R607.mono hl673
 replace R641 := R641.mono hl673
 replace R644 := R644.mono hl673
 replace R647 := R647.mono hl673
 have hw686 := W_block_Glue (I := I672) R674 hd
 refine .call call22 r hw686 r r fun v681 I678 hl679 hv680 => ?_
 obtain ⟨r677, p683, c684, rfl, R685, hd⟩ := hv680
 have le687 := IH.le.trans le675 hl679
 have le688 := IH.le.trans le676 hl679
 replace R601 := R601.mono hl679
 replace R604 := R604.mono hl679
 replace R607 := R607.mono hl679
 replace R641 := R641.mono hl679
 replace R644 := R644.mono hl679
 replace R647 := R647.mono hl679
 replace R674 := R674.mono hl679
 refine .ks 3 r (.allocA zv37 r r fun b689 => ?_)
 refine .storeA sz37 r r .z (.t (.t .nil)) r r (.ks 1 r (.nilS [15, 14, 13, 12, 11, 10, 8, 5] r r (.sr (.fa un30 r sz3 r (o := 2) r r r (.load1 ia3 r (.s (.s (.s .z))) r r r (.fa un30 r sz3 r (o := 0) r r r (.load1 ia3 r (.s (.s (.s .z))) r r r (.ks 1 r ?_))))))))
 have hw714 := W_ref18_Glue (I := I678) R674 hd
 refine .call call23 r hw714 r r fun v709 I706 hl707 hv708 => ?_
 obtain ⟨r705, p711, c712, rfl, R713, hd⟩ := hv708
 have le715 := IH.le.trans le687 hl707
 have le716 := IH.le.trans le688 hl707
 replace R601 := R601.mono hl707
 replace R604 := R604.mono hl707
 replace R607 := R607.mono hl707
 replace R641 := R641.mono hl707
 replace R644 := R644.mono hl707
 replace R647 := R647.mono hl707
 replace R674 := R674.mono hl707
 replace R685 := R685.mono hl707
 refine .ks 3 r (.allocA zv37 r r fun b717 => ?_)
 refine .storeA sz37 r r .z (.t (.t .nil)) r r (.ks 1 r (.nilS [17, 16, 15, 14, 13, 12, 11, 10, 8, 5] r r (.sr (.fa un30 r sz3 r (o := 2) r r r (.load1 ia3 r (.s (.s (.s (.s .z)))) r r r (.fa un30 r sz3 r (o := 0) r r r (.load1 ia3 r (.s (.s (.s (.s .z)))) r r r (.fa un30 r sz3 r (o := 1) r r r (.load1 ia3 r (.s (.s (.s (.s .z)))) r r r ?_)))))))))
 refine .fa un30 r sz3 r (o := 3) r r r (.load1 ia3 r (.s (.s (.s (.s .z)))) r r r (.ks 1 r ?_))
 have hw742 := W_block_Fit (I := I706) R674 hd
 refine .call call24 r hw742 r r fun v737 I734 hl735 hv736 => ?_
 obtain ⟨r733, p739, c740, rfl, R741, hd⟩ := hv736
 have le743 := IH.le.trans le715 hl735
 have le744 := IH.le.trans le716 hl735
 replace R601 := R601.mono hl735
 replace R604 := R604.mono hl735
 replace R607 := R607.mono hl735
 replace R641 := R641.mono hl735
 replace R644 := R644.mono hl735
 replace R647 := R647.mono hl735
 replace R674 := R674.mono hl735
 replace R685 := R685.mono hl735
 replace R713 := R713.mono hl735
 refine .ks 3 r (.allocA zv37 r r fun b745 => ?_)
 refine .storeA sz37 r r .z (.t (.t .nil)) r r (.ks 1 r (.nilS [19, 18, 17, 16, 15, 14, 13, 12, 11, 10, 8, 5] r r (.sr (.fa un30 r sz3 r (o := 2) r r r (.load1 ia3 r (.s (.s (.s (.s (.s .z))))) r r r (.fa un30 r sz3 r (o := 0) r r r (.load1 ia3 r (.s (.s (.s (.s (.s .z))))) r r r (.fa un30 r sz3 r (o := 1) r r r (.load1 ia3 r (.s (.s (.s (.s (.s .z))))) r r r ?_)))))))))
 refine .fa un30 r sz3 r (o := 3) r r r (.load1 ia3 r (.s (.s (.s (.s (.s .z))))) r r r (.ks 1 r ?_))
 have hw770 := W_ref18_Fit (I := I734) R674 hd
 refine .call call25 r hw770 r r fun v765 I762 hl763 hv764 => ?_
 obtain ⟨r761, p767, c768, rfl, R769, hd⟩ := hv764
 have le771 := IH.le.trans le743 hl763
 have le772 := IH.le.trans le744 hl763
 replace R601 := R601.mono hl763
 replace R604 := R604.mono hl763
 replace R607 := R607.mono hl763
 replace R641 := R641.mono hl763
 replace R644 := R644.mono hl763
 replace R647 := R647.mono hl763
 replace R674 := R674.mono hl763
 replace R685 := R685.mono hl763
 replace R713 := R713.mono hl763
 replace R741 := R741.mono hl763
 refine .ks 3 r (.allocA zv37 r r fun b773 => ?_)
 refine .storeA sz37 r r .z (.t (.t .nil)) r r (.ks 1 r (.nilS [21, 20, 19, 18, 17, 16, 15, 14, 13, 12, 11, 10] r r (.drop (.s (.s (.s (.s (.s (.s .z)))))) (.sr ?_))))
 have hw776 := W_law18_live (I := I762) hd
 refine .callP call10 r hw776 r r fun v777 hv778 => ?_
 obtain ⟨r775, rfl, hd⟩ := hv778
 refine .ks 1 r ?_
 refine splitP hd (fun hb779 hd => ?_) fun hb779 hd => ?_
 · rw [hb779]
   refine .gyes r r r (.loadW ia34 sz34 r (.s (.s (.s (.s (.s .z))))) r r r (.gyes r r r (.loadW ia34 sz34 r (.s (.s (.s (.s .z)))) r r r ?_)))
   have hw781 := W_ref07_Same (I := I762) R601 R604 R607 R641 R644 R647 hd
   refine .gyes r r r (.callP call11 r hw781 r r fun v782 hv783 => ?_)
   obtain ⟨r780, rfl, hd⟩ := hv783
   refine .ks 2 r ?_
   refine splitP hd (fun hb784 hd => ?_) fun hb784 hd => ?_
   · rw [hb784]
     refine .ks 5 r ?_
     refine splitP hd (fun hb785 hd => ?_) fun hb785 hd => ?_
     · rw [hb785]
       refine .gyes r r r (.loadW ia37 sz37 r (.s (.s (.s .z))) r r r (.gyes r r r (.loadW ia37 sz37 r (.s (.s .z)) r r r ?_)))
       have hw787 := W_ref09_Same (I := I762) R685 R713 hd
       refine .gyes r r r (.callP call14 r hw787 r r fun v788 hv789 => ?_)
       obtain ⟨r786, rfl, hd⟩ := hv789
       refine .ks 2 r ?_
       refine splitP hd (fun hb790 hd => ?_) fun hb790 hd => ?_
       · rw [hb790]
         refine .ks 5 r ?_
         refine splitP hd (fun hb791 hd => ?_) fun hb791 hd => ?_
         · rw [hb791]
           refine .gyes r r r (.loadW ia37 sz37 r (.s .z) r r r (.gyes r r r (.loadW ia37 sz37 r .z r r r ?_)))
           have hw793 := W_ref09_Same (I := I762) R741 R769 hd
           refine .gyes r r r (.callP call14 r hw793 r r fun v794 hv795 => ?_)
           obtain ⟨r792, rfl, hd⟩ := hv795
           refine .ks 2 r ?_
           refine splitP hd (fun hb796 hd => ?_) fun hb796 hd => ?_
           · rw [hb796]
             exact .ks 5 r (.nilS [6] r r (.drop .z (.drop .z (.drop .z (.drop .z (.drop .z (.drop .z (.ret (pret results4 (.t r .n) le771 ⟨(r733.2 == r761.2), r, hd⟩)))))))))
           rw [hb796]
           exact .ks 5 r (.nilS [6] r r (.drop .z (.drop .z (.drop .z (.drop .z (.drop .z (.drop .z (.ret (pret results4 (.t r .n) le771 ⟨false, r, hd⟩)))))))))
         rw [hb791]
         exact .ks 10 r (.nilS [6] r r (.drop .z (.drop .z (.drop .z (.drop .z (.drop .z (.drop .z (.ret (pret results4 (.t r .n) le771 ⟨false, r, hd⟩)))))))))
       rw [hb790]
       exact .ks 15 r (.nilS [6] r r (.drop .z (.drop .z (.drop .z (.drop .z (.drop .z (.drop .z (.ret (pret results4 (.t r .n) le771 ⟨false, r, hd⟩)))))))))
     rw [hb785]
     exact .ks 20 r (.nilS [6] r r (.drop .z (.drop .z (.drop .z (.drop .z (.drop .z (.drop .z (.ret (pret results4 (.t r .n) le771 ⟨false, r, hd⟩)))))))))
   rw [hb784]
   exact .ks 25 r (.nilS [6] r r (.drop .z (.drop .z (.drop .z (.drop .z (.drop .z (.drop .z (.ret (pret results4 (.t r .n) le771 ⟨false, r, hd⟩)))))))))
 rw [hb779]
 exact .ks 30 r (.nilS [6] r r (.drop .z (.drop .z (.drop .z (.drop .z (.drop .z (.drop .z (.ret (pret results4 (.t r .n) le771 ⟨false, r, hd⟩)))))))))

end Go.Proofs.YtpackolbhcmomaaGreat
