/- The walks (printed by a program of ours). -/
import Derived.Test.YtdfiinkpdaggeaaGreatSL
namespace Go.Proofs.YtdfiinkpdaggeaaGreat
open Go Go.Fw
set_option linter.unusedVariables false
set_option linter.unusedSimpArgs false
set_option maxRecDepth 8000
set_option maxHeartbeats 1000000
open Tryz
theorem W_ref07_Empty {I : IH} {a0 : Int} {a1 : Int}  {Q : Rows → Prop}  (hd : ref07_Empty a0 a1 Q) :
    OFun Tryz.prog 71 [.int .i64 a0, .int .i64 a1] I (fun I_ v l => ∃ r p1 c2 p4 c5 p7 c8, v = .agg #[.int .i64 r.Rows, .int .i64 r.Cols, .slice p1 r.Start.length c2, .slice p4 r.Col.length c5, .slice p7 r.Val.length c8] ∧ l = [OwnSl eI64 3 p1 c2 r.Start, OwnSl eI64 3 p4 c5 r.Col, OwnSl eI64 2 p7 c8 r.Val] ∧ Q r) := by
 refine Fun.enter func71 r ntmps71 r (.c (.c .n)) fun w0 M => ?_
 refine .seq (.region (.allocA zeroValue35 r r fun b10 => ?_))
 refine .nilS [4, 1, 0] r r (.seq (.region (.skips 3 r (.add r r r r ?_))))
 obtain ⟨h12, h13, hd⟩ := hd
 refine .make (El := eI64) (zv := 0) 8 underlying29 IN3 r r r r r r h12 h13 r r r fun b14 => ?_
 exact .build zeroValue35 underlying35 BI35 (.c r r r (.t .nil) (.c r r r (.s (.t .nil)) (.c r r r (.s (.s (.t .nil))) .n))) (by exact ⟨⟨_, _, r, r, r⟩, ⟨⟨_, _, r, r, r⟩, ⟨⟨_, _, r, r, r⟩, trivial⟩⟩⟩) r r (.storeA sizeOf35 r r (.s .z) (.t (.t (.t (.t (.t .nil))))) r r (.nilS [4] r r (.own0 eI64 3 (.own0 eI64 2 (.ret (oret results71 (.w isAgg35 sizeOf35 r (.s (.s (.s .z))) r .n) (.refl _) (.c (.s (.s .z)) (.c (.s .z) (.c .z .n))) ⟨({ Rows := a0, Cols := a1, Start := (List.replicate (w64 (a0 + 1)).toNat 0), Col := ([] : List Int), Val := ([] : List Int) } : Rows), _, _, _, _, _, _, r, r, hd⟩))))))

theorem W_ref07_Right {I : IH} {a0 : Rows} {p1 : Option Addr} {c2 : Nat} {p4 : Option Addr} {c5 : Nat} {p7 : Option Addr} {c8 : Nat} {Q : Bool → Prop} (R3 : RepSl eI64 I p1 c2 a0.Start) (R6 : RepSl eI64 I p4 c5 a0.Col) (R9 : RepSl eI64 I p7 c8 a0.Val) (hd : ref07_Right a0 Q) :
    PFun Tryz.prog 97 [.agg #[.int .i64 a0.Rows, .int .i64 a0.Cols, .slice p1 a0.Start.length c2, .slice p4 a0.Col.length c5, .slice p7 a0.Val.length c8]] I (fun I_ v => ∃ r, v = .bool r ∧ Q r) := by
 refine Fun.enter func97 r ntmps97 r (.c .n) fun w0 M => ?_
 refine .seq (.region (.boxA r r r fun b12 => ?_))
 refine .skips 1 r (.nilS [1] r r (.seq (.seq (.region (.fieldAddr underlying35 r sizeOf3 r (o := 0) r r r (.load1 isAgg3 r .z r r r (.lt r r r r (.skips 1 r ?_))))))))
 refine splitP hd (fun hb21 hd => ?_) fun hb21 hd => ?_
 · rw [hb21]
   exact .skips 38 r (.nilS [46, 1] r r (.condKT r r (.seq (.region (.skips 1 r (.nilS [2] r r (.drop .z (.ret (pret results97 (.t r .n) (.refl _) ⟨false, r, hd⟩)))))))))
 rw [hb21]
 refine .gyes r r r (.fieldAddr underlying35 r sizeOf3 r (o := 0) r r r (.gyes r r r (.load1 isAgg3 r .z r r r (.gyes r r r (.gt r r r r (.skips 2 r ?_))))))
 refine splitP hd (fun hb22 hd => ?_) fun hb22 hd => ?_
 · rw [hb22]
   exact .skips 33 r (.nilS [46, 1] r r (.condKT r r (.seq (.region (.skips 1 r (.nilS [2] r r (.drop .z (.ret (pret results97 (.t r .n) (.refl _) ⟨false, r, hd⟩)))))))))
 rw [hb22]
 refine .gyes r r r (.fieldAddr underlying35 r sizeOf3 r (o := 1) r r r (.gyes r r r (.load1 isAgg3 r .z r r r (.gyes r r r (.lt r r r r (.skips 2 r ?_))))))
 refine splitP hd (fun hb23 hd => ?_) fun hb23 hd => ?_
 · rw [hb23]
   exact .skips 28 r (.nilS [46, 1] r r (.condKT r r (.seq (.region (.skips 1 r (.nilS [2] r r (.drop .z (.ret (pret results97 (.t r .n) (.refl _) ⟨false, r, hd⟩)))))))))
 rw [hb23]
 refine .gyes r r r (.fieldAddr underlying35 r sizeOf3 r (o := 1) r r r (.gyes r r r (.load1 isAgg3 r .z r r r (.gyes r r r (.gt r r r r (.skips 2 r ?_))))))
 refine splitP hd (fun hb24 hd => ?_) fun hb24 hd => ?_
 · rw [hb24]
   exact .skips 23 r (.nilS [46, 1] r r (.condKT r r (.seq (.region (.skips 1 r (.nilS [2] r r (.drop .z (.ret (pret results97 (.t r .n) (.refl _) ⟨false, r, hd⟩)))))))))
 rw [hb24]
 refine .gyes r r r (.fieldAddr underlying35 r sizeOf29 r (o := 2) r r r (.gyes r r r (.load1 isAgg29 r .z r r r (.gyes r r r (.len underlying29 r r r r (.gyes r r r (.fieldAddr underlying35 r sizeOf3 r (o := 0) r r r (.gyes r r r (.load1 isAgg3 r .z r r r (.gyes r r r (.add r r r r (.gyes r r r (.ne r r r r (.skips 2 r ?_))))))))))))))
 refine splitP hd (fun hb25 hd => ?_) fun hb25 hd => ?_
 · rw [hb25]
   exact .skips 14 r (.nilS [46, 1] r r (.condKT r r (.seq (.region (.skips 1 r (.nilS [2] r r (.drop .z (.ret (pret results97 (.t r .n) (.refl _) ⟨false, r, hd⟩)))))))))
 rw [hb25]
 refine .gyes r r r (.fieldAddr underlying35 r sizeOf29 r (o := 3) r r r (.gyes r r r (.load1 isAgg29 r .z r r r (.gyes r r r (.len underlying29 r r r r (.gyes r r r (.fieldAddr underlying35 r sizeOf30 r (o := 4) r r r (.gyes r r r (.load1 isAgg30 r .z r r r (.gyes r r r (.len underlying30 r r r r (.gyes r r r (.ne r r r r (.skips 2 r ?_))))))))))))))
 refine splitP hd (fun hb26 hd => ?_) fun hb26 hd => ?_
 · rw [hb26]
   exact .skips 5 r (.nilS [46, 1] r r (.condKT r r (.seq (.region (.skips 1 r (.nilS [2] r r (.drop .z (.ret (pret results97 (.t r .n) (.refl _) ⟨false, r, hd⟩)))))))))
 rw [hb26]
 refine .gyes r r r (.fieldAddr underlying35 r sizeOf29 r (o := 3) r r r (.gyes r r r (.load1 isAgg29 r .z r r r (.gyes r r r (.len underlying29 r r r r (.gyes r r r (.gt r r r r (.skips 1 r (.nilS [46, 1] r r (.condP r hd (fun hb27 hd => ?_) fun hb27 hd => ?_))))))))))
 · exact .seq (.region (.skips 1 r (.nilS [2] r r (.drop .z (.ret (pret results97 (.t r .n) (.refl _) ⟨false, r, hd⟩))))))
 refine .skipS [1] r r (.seq (.seq (.draw [some 0, some 1, some 2, some 3, some 4, some 5, some 6, some 7, some 8, some 9, some 10, some 11, some 12, some 13, some 14, some 15, some 16] 17 MX (by kernel_rfl) (by kernel_rfl) (by kernel_rfl) (by kernel_rfl) (by kernel_rfl) (by kernel_rfl) (by kernel_rfl) (fun ex => (pto b12 (.cells #[.int .i64 a0.Rows, .int .i64 a0.Cols, .slice p1 a0.Start.length c2, .slice p4 a0.Col.length c5, .slice p7 a0.Val.length c8] 35 (0, 0))) :: ex) (fun _ _ => (.s .z)) r (.f [] r (by kernel_rfl) r r (fun ex => .fieldAddr underlying35 r sizeOf29 r (o := 2) r r r .mk) (.f [0] r (by kernel_rfl) r r (fun ex => .load1 isAgg29 r .z r r r .mk) ?_)))))
 obtain ⟨h48, x49, hx50, hd⟩ := hd
 obtain ⟨b51, o52, cs53, e54, hC55, hr56⟩ := R3.2 _ _ hx50
 cases hr56
 refine .f [1] r (by kernel_rfl) r r (fun ex => .ixa underlying29 sizeOf3 r e54 r h48 (idx_lt hx50 h48) r r .mk) (.f [2] r (by kernel_rfl) r r (fun ex => .ld1 (j := 0) isAgg3 hC55 r r r r r .mk) (.f [3] r (by kernel_rfl) r r (fun ex => .ne r r r r .mk) (.fs [[4]] r (by kernel_rfl) ?_)))
 refine splitP hd (fun hb57 hd => ?_) fun hb57 hd => ?_
 · rw [hb57]
   exact .fs [[5], [6, 5], [5], [8, 5], [7, 9, 5], [10, 5], [5], [12, 5], [13, 5], [11, 14, 5], [5, 15]] r (by kernel_rfl) (.e 17 (by kernel_rfl) (by kernel_rfl) (by kernel_rfl) (.nilS [63, 1] r r (.condKT r r (.seq (.region (.skips 1 r (.nilS [2] r r (.drop .z (.ret (pret results97 (.t r .n) (.refl _) ⟨false, r, hd⟩))))))))))
 rw [hb57]
 refine .f [5] r (by kernel_rfl) r r (fun ex => .gyes r r r (.fieldAddr underlying35 r sizeOf29 r (o := 2) r r r .mk)) (.f [6, 5] r (by kernel_rfl) r r (fun ex => .gyes r r r (.load1 isAgg29 r .z r r r .mk)) (.f [5] r (by kernel_rfl) r r (fun ex => .gyes r r r (.fieldAddr underlying35 r sizeOf3 r (o := 0) r r r .mk)) (.f [8, 5] r (by kernel_rfl) r r (fun ex => .gyes r r r (.load1 isAgg3 r .z r r r .mk)) ?_)))
 obtain ⟨h58, x59, hx60, hd⟩ := hd
 obtain ⟨b61, o62, cs63, e64, hC65, hr66⟩ := R3.2 _ _ hx60
 cases hr66
 refine .f [7, 9, 5] r (by kernel_rfl) r r (fun ex => .gyes r r r (.ixa underlying29 sizeOf3 r e64 r h58 (idx_lt hx60 h58) r r .mk)) (.f [10, 5] r (by kernel_rfl) r r (fun ex => .gyes r r r (.ld1 (j := 0) isAgg3 hC65 r r r r r .mk)) (.f [5] r (by kernel_rfl) r r (fun ex => .gyes r r r (.fieldAddr underlying35 r sizeOf29 r (o := 3) r r r .mk)) (.f [12, 5] r (by kernel_rfl) r r (fun ex => .gyes r r r (.load1 isAgg29 r .z r r r .mk)) (.f [13, 5] r (by kernel_rfl) r r (fun ex => .gyes r r r (.len underlying29 r r r r .mk)) (.f [11, 14, 5] r (by kernel_rfl) r r (fun ex => .gyes r r r (.ne r r r r .mk)) (.fs [[5, 15]] r (by kernel_rfl) (.e 17 (by kernel_rfl) (by kernel_rfl) (by kernel_rfl) (.nilS [63, 1] r r (.condP r hd (fun hb67 hd => ?_) fun hb67 hd => ?_)))))))))
 · exact .seq (.region (.skips 1 r (.nilS [2] r r (.drop .z (.ret (pret results97 (.t r .n) (.refl _) ⟨false, r, hd⟩))))))
 refine .skipS [1] r r (.seq (.seq (.region (.skips 1 r (.nilS [3, 1] r r (.block (.loop hd (fun (s697 : Int) c w => ∃ I_, IH.le I I_ ∧ Ok ⟨156, [], none⟩ [(1, .pointer (some ⟨b12, 0, none⟩)), (3, .int .i64 s697)] c ∧ Sym w0 M I I_ [pto b12 (.cells #[.int .i64 a0.Rows, .int .i64 a0.Cols, .slice p1 a0.Start.length c2, .slice p4 a0.Col.length c5, .slice p7 a0.Val.length c8] 35 (0, 0))] w) (fun c w ho hs => ⟨I, (.refl _), ho.sub ⟨r, r, trivial⟩, hs.pick (.c .z .n)⟩) ?_)))))))
 rintro s697 next698 hd c w hst
 obtain ⟨I699, hl700, hok, hsym⟩ := hst
 have le701 := IH.le.trans (.refl _) hl700
 replace R3 := R3.mono hl700
 replace R6 := R6.mono hl700
 replace R9 := R9.mono hl700
 refine Cod.at hok hsym (.seq (.seq (.region (.skips 1 r (.fieldAddr underlying35 r sizeOf3 r (o := 0) r r r (.load1 isAgg3 r .z r r r (.lt r r r r (.nilS [67, 3, 1] r r (.condP r hd (fun hb703 hd => ?_) fun hb703 hd => ?_)))))))))
 · refine .skipS [3, 1] r r (.seq (.block (.seq (.seq (.draw [some 0, some 1, some 2, some 3, some 4, some 5, some 6, some 7, some 8, some 9, some 10, some 11, some 12, some 13, some 14, some 15, some 16, some 17, some 18, some 19, some 20, some 21, some 22, some 23, some 24, some 25, some 26, some 27, some 28, some 29, some 30, some 31] 32 MX (by kernel_rfl) (by kernel_rfl) (by kernel_rfl) (by kernel_rfl) (by kernel_rfl) (by kernel_rfl) (by kernel_rfl) (fun ex => (pto b12 (.cells #[.int .i64 a0.Rows, .int .i64 a0.Cols, .slice p1 a0.Start.length c2, .slice p4 a0.Col.length c5, .slice p7 a0.Val.length c8] 35 (0, 0))) :: ex) (fun _ _ => (.s .z)) r (.f [] r (by kernel_rfl) r r (fun ex => .fieldAddr underlying35 r sizeOf29 r (o := 2) r r r .mk) (.f [0] r (by kernel_rfl) r r (fun ex => .load1 isAgg29 r .z r r r .mk) (.fs [[]] r (by kernel_rfl) ?_))))))))
   obtain ⟨h743, x744, hx745, hd⟩ := hd
   obtain ⟨b746, o747, cs748, e749, hC750, hr751⟩ := R3.2 _ _ hx745
   cases hr751
   refine .f [1, 2] r (by kernel_rfl) r r (fun ex => .ixa underlying29 sizeOf3 r e749 r h743 (idx_lt hx745 h743) r r .mk) (.f [3] r (by kernel_rfl) r r (fun ex => .ld1 (j := 0) isAgg3 hC750 r r r r r .mk) (.f [] r (by kernel_rfl) r r (fun ex => .fieldAddr underlying35 r sizeOf29 r (o := 2) r r r .mk) (.f [5] r (by kernel_rfl) r r (fun ex => .load1 isAgg29 r .z r r r .mk) (.fs [[]] r (by kernel_rfl) (.f [7] r (by kernel_rfl) r r (fun ex => .add r r r r .mk) ?_)))))
   obtain ⟨h752, x753, hx754, hd⟩ := hd
   obtain ⟨b755, o756, cs757, e758, hC759, hr760⟩ := R3.2 _ _ hx754
   cases hr760
   refine .f [6, 8] r (by kernel_rfl) r r (fun ex => .ixa underlying29 sizeOf3 r e758 r h752 (idx_lt hx754 h752) r r .mk) (.f [9] r (by kernel_rfl) r r (fun ex => .ld1 (j := 0) isAgg3 hC759 r r r r r .mk) (.f [4, 10] r (by kernel_rfl) r r (fun ex => .gt r r r r .mk) (.fs [[11]] r (by kernel_rfl) ?_)))
   refine splitP hd (fun hb761 hd => ?_) fun hb761 hd => ?_
   · rw [hb761]
     exact .fs [[12], [13, 12], [12], [14, 15, 12], [16, 12], [17, 12], [12, 18], [19, 12], [20], [21, 20], [20], [23, 20], [22, 24, 20], [25, 20], [20], [27, 20], [28, 20], [26, 29, 20], [20, 30]] r (by kernel_rfl) (.e 32 (by kernel_rfl) (by kernel_rfl) (by kernel_rfl) (.nilS [101, 3, 1] r r (.condKT r r (.seq (.region (.skips 1 r (.nilS [2] r r (.drop .z (.ret (pret results97 (.t r .n) le701 ⟨false, r, hd⟩))))))))))
   rw [hb761]
   refine .f [12] r (by kernel_rfl) r r (fun ex => .gyes r r r (.fieldAddr underlying35 r sizeOf29 r (o := 2) r r r .mk)) (.f [13, 12] r (by kernel_rfl) r r (fun ex => .gyes r r r (.load1 isAgg29 r .z r r r .mk)) (.fs [[12]] r (by kernel_rfl) ?_))
   obtain ⟨h762, x763, hx764, hd⟩ := hd
   obtain ⟨b765, o766, cs767, e768, hC769, hr770⟩ := R3.2 _ _ hx764
   cases hr770
   refine .f [14, 15, 12] r (by kernel_rfl) r r (fun ex => .gyes r r r (.ixa underlying29 sizeOf3 r e768 r h762 (idx_lt hx764 h762) r r .mk)) (.f [16, 12] r (by kernel_rfl) r r (fun ex => .gyes r r r (.ld1 (j := 0) isAgg3 hC769 r r r r r .mk)) (.f [17, 12] r (by kernel_rfl) r r (fun ex => .gyes r r r (.lt r r r r .mk)) (.fs [[12, 18], [19, 12]] r (by kernel_rfl) ?_)))
   refine splitP hd (fun hb771 hd => ?_) fun hb771 hd => ?_
   · rw [hb771]
     exact .fs [[20], [21, 20], [20], [23, 20], [22, 24, 20], [25, 20], [20], [27, 20], [28, 20], [26, 29, 20], [20, 30]] r (by kernel_rfl) (.e 32 (by kernel_rfl) (by kernel_rfl) (by kernel_rfl) (.nilS [101, 3, 1] r r (.condKT r r (.seq (.region (.skips 1 r (.nilS [2] r r (.drop .z (.ret (pret results97 (.t r .n) le701 ⟨false, r, hd⟩))))))))))
   rw [hb771]
   refine .f [20] r (by kernel_rfl) r r (fun ex => .gyes r r r (.fieldAddr underlying35 r sizeOf29 r (o := 2) r r r .mk)) (.f [21, 20] r (by kernel_rfl) r r (fun ex => .gyes r r r (.load1 isAgg29 r .z r r r .mk)) (.fs [[20]] r (by kernel_rfl) (.f [23, 20] r (by kernel_rfl) r r (fun ex => .gyes r r r (.add r r r r .mk)) ?_)))
   obtain ⟨h772, x773, hx774, hd⟩ := hd
   obtain ⟨b775, o776, cs777, e778, hC779, hr780⟩ := R3.2 _ _ hx774
   cases hr780
   refine .f [22, 24, 20] r (by kernel_rfl) r r (fun ex => .gyes r r r (.ixa underlying29 sizeOf3 r e778 r h772 (idx_lt hx774 h772) r r .mk)) (.f [25, 20] r (by kernel_rfl) r r (fun ex => .gyes r r r (.ld1 (j := 0) isAgg3 hC779 r r r r r .mk)) (.f [20] r (by kernel_rfl) r r (fun ex => .gyes r r r (.fieldAddr underlying35 r sizeOf29 r (o := 3) r r r .mk)) (.f [27, 20] r (by kernel_rfl) r r (fun ex => .gyes r r r (.load1 isAgg29 r .z r r r .mk)) (.f [28, 20] r (by kernel_rfl) r r (fun ex => .gyes r r r (.len underlying29 r r r r .mk)) (.f [26, 29, 20] r (by kernel_rfl) r r (fun ex => .gyes r r r (.gt r r r r .mk)) (.fs [[20, 30]] r (by kernel_rfl) (.e 32 (by kernel_rfl) (by kernel_rfl) (by kernel_rfl) (.nilS [101, 3, 1] r r (.condP r hd (fun hb781 hd => ?_) fun hb781 hd => ?_)))))))))
   · exact .seq (.region (.skips 1 r (.nilS [2] r r (.drop .z (.ret (pret results97 (.t r .n) le701 ⟨false, r, hd⟩))))))
   refine .skipS [3, 1] r r (.seq (.region (.fieldAddr underlying35 r sizeOf29 r (o := 2) r r r (.load1 isAgg29 r .z r r r (.skips 1 r ?_)))))
   obtain ⟨h791, x792, hx793, hd⟩ := hd
   obtain ⟨b794, o795, cs796, e797, hC798, hr799⟩ := R3.2 _ _ hx793
   cases hr799
   refine .ixa underlying29 sizeOf3 r e797 r h791 (idx_lt hx793 h791) r r (.ld1 (j := 0) isAgg3 hC798 r r r r r (.skips 1 r (.nilS [4, 3, 1] r r (.block (.loop hd (fun (s941 : Int) c w => ∃ I_, IH.le I699 I_ ∧ Ok ⟨156, [], none⟩ [(1, .pointer (some ⟨b12, 0, none⟩)), (3, .int .i64 s697), (4, .int .i64 s941)] c ∧ Sym w0 M I I_ [pto b12 (.cells #[.int .i64 a0.Rows, .int .i64 a0.Cols, .slice p1 a0.Start.length c2, .slice p4 a0.Col.length c5, .slice p7 a0.Val.length c8] 35 (0, 0))] w) (fun c w ho hs => ⟨I699, (.refl _), ho.sub ⟨r, r, r, trivial⟩, hs.pick (.c .z .n)⟩) ?_)))))
   rintro s941 next942 hd c w hst
   obtain ⟨I943, hl944, hok, hsym⟩ := hst
   have le945 := IH.le.trans le701 hl944
   have le946 := IH.le.trans (.refl _) hl944
   replace R3 := R3.mono hl944
   replace R6 := R6.mono hl944
   replace R9 := R9.mono hl944
   refine Cod.at hok hsym (.seq (.seq (.region (.skips 1 r (.fieldAddr underlying35 r sizeOf29 r (o := 2) r r r (.load1 isAgg29 r .z r r r (.skips 1 r (.add r r r r ?_))))))))
   obtain ⟨h957, x958, hx959, hd⟩ := hd
   obtain ⟨b960, o961, cs962, e963, hC964, hr965⟩ := R3.2 _ _ hx959
   cases hr965
   refine .ixa underlying29 sizeOf3 r e963 r h957 (idx_lt hx959 h957) r r (.ld1 (j := 0) isAgg3 hC964 r r r r r (.lt r r r r (.nilS [114, 4, 3, 1] r r (.condP r hd (fun hb966 hd => ?_) fun hb966 hd => ?_))))
   · refine .skipS [4, 3, 1] r r (.seq (.block (.seq (.draw [some 0, some 1, some 2, some 3, some 4, some 5, some 6, some 7, some 8, some 9, some 10, some 11, some 12, some 13, some 14, some 15, some 16, some 17, some 18, some 19, some 20, some 21, some 22, some 23, some 24, some 25, some 26, some 27, some 28, some 29, some 30, some 31, some 32, some 33, some 34, some 35, some 36, some 37, some 38] 39 MX (by kernel_rfl) (by kernel_rfl) (by kernel_rfl) (by kernel_rfl) (by kernel_rfl) (by kernel_rfl) (by kernel_rfl) (fun ex => (pto b12 (.cells #[.int .i64 a0.Rows, .int .i64 a0.Cols, .slice p1 a0.Start.length c2, .slice p4 a0.Col.length c5, .slice p7 a0.Val.length c8] 35 (0, 0))) :: ex) (fun _ _ => (.s .z)) r (.f [] r (by kernel_rfl) r r (fun ex => .fieldAddr underlying35 r sizeOf29 r (o := 3) r r r .mk) (.f [0] r (by kernel_rfl) r r (fun ex => .load1 isAgg29 r .z r r r .mk) (.fs [[]] r (by kernel_rfl) ?_)))))))
     obtain ⟨h967, x968, hx969, hd⟩ := hd
     obtain ⟨b970, o971, cs972, e973, hC974, hr975⟩ := R6.2 _ _ hx969
     cases hr975
     refine .f [1, 2] r (by kernel_rfl) r r (fun ex => .ixa underlying29 sizeOf3 r e973 r h967 (idx_lt hx969 h967) r r .mk) (.f [3] r (by kernel_rfl) r r (fun ex => .ld1 (j := 0) isAgg3 hC974 r r r r r .mk) (.f [4] r (by kernel_rfl) r r (fun ex => .lt r r r r .mk) (.fs [[5]] r (by kernel_rfl) ?_)))
     refine splitP hd (fun hb976 hd => ?_) fun hb976 hd => ?_
     · rw [hb976]
       exact .fs [[6], [7, 6], [6], [8, 9, 6], [10, 6], [6], [12, 6], [11, 13, 6], [6, 14], [15, 6], [16], [16], [18, 16], [16], [19, 20, 16], [21, 16], [17, 22, 16], [23, 16, 16], [24], [25, 24], [24], [26, 27, 24], [28, 24], [24], [30, 24], [24], [32, 24], [31, 33, 24], [34, 24], [29, 35, 24], [24, 36, 16], [16, 37]] r (by kernel_rfl) (.e 39 (by kernel_rfl) (by kernel_rfl) (by kernel_rfl) (.nilS [155, 4, 3, 1] r r (.condKT r r (.seq (.region (.skips 1 r (.nilS [2] r r (.drop .z (.ret (pret results97 (.t r .n) le945 ⟨false, r, hd⟩))))))))))
     rw [hb976]
     refine .f [6] r (by kernel_rfl) r r (fun ex => .gyes r r r (.fieldAddr underlying35 r sizeOf29 r (o := 3) r r r .mk)) (.f [7, 6] r (by kernel_rfl) r r (fun ex => .gyes r r r (.load1 isAgg29 r .z r r r .mk)) (.fs [[6]] r (by kernel_rfl) ?_))
     obtain ⟨h977, x978, hx979, hd⟩ := hd
     obtain ⟨b980, o981, cs982, e983, hC984, hr985⟩ := R6.2 _ _ hx979
     cases hr985
     refine .f [8, 9, 6] r (by kernel_rfl) r r (fun ex => .gyes r r r (.ixa underlying29 sizeOf3 r e983 r h977 (idx_lt hx979 h977) r r .mk)) (.f [10, 6] r (by kernel_rfl) r r (fun ex => .gyes r r r (.ld1 (j := 0) isAgg3 hC984 r r r r r .mk)) (.f [6] r (by kernel_rfl) r r (fun ex => .gyes r r r (.fieldAddr underlying35 r sizeOf3 r (o := 1) r r r .mk)) (.f [12, 6] r (by kernel_rfl) r r (fun ex => .gyes r r r (.load1 isAgg3 r .z r r r .mk)) (.f [11, 13, 6] r (by kernel_rfl) r r (fun ex => .gyes r r r (.ge r r r r .mk)) (.fs [[6, 14], [15, 6]] r (by kernel_rfl) ?_)))))
     refine splitP hd (fun hb986 hd => ?_) fun hb986 hd => ?_
     · rw [hb986]
       exact .fs [[16], [16], [18, 16], [16], [19, 20, 16], [21, 16], [17, 22, 16], [23, 16, 16], [24], [25, 24], [24], [26, 27, 24], [28, 24], [24], [30, 24], [24], [32, 24], [31, 33, 24], [34, 24], [29, 35, 24], [24, 36, 16], [16, 37]] r (by kernel_rfl) (.e 39 (by kernel_rfl) (by kernel_rfl) (by kernel_rfl) (.nilS [155, 4, 3, 1] r r (.condKT r r (.seq (.region (.skips 1 r (.nilS [2] r r (.drop .z (.ret (pret results97 (.t r .n) le945 ⟨false, r, hd⟩))))))))))
     rw [hb986]
     refine .fs [[16]] r (by kernel_rfl) (.f [16] r (by kernel_rfl) r r (fun ex => .gyes r r r (.fieldAddr underlying35 r sizeOf29 r (o := 2) r r r .mk)) (.f [18, 16] r (by kernel_rfl) r r (fun ex => .gyes r r r (.load1 isAgg29 r .z r r r .mk)) (.fs [[16]] r (by kernel_rfl) ?_)))
     obtain ⟨h987, x988, hx989, hd⟩ := hd
     obtain ⟨b990, o991, cs992, e993, hC994, hr995⟩ := R3.2 _ _ hx989
     cases hr995
     refine .f [19, 20, 16] r (by kernel_rfl) r r (fun ex => .gyes r r r (.ixa underlying29 sizeOf3 r e993 r h987 (idx_lt hx989 h987) r r .mk)) (.f [21, 16] r (by kernel_rfl) r r (fun ex => .gyes r r r (.ld1 (j := 0) isAgg3 hC994 r r r r r .mk)) (.f [17, 22, 16] r (by kernel_rfl) r r (fun ex => .gyes r r r (.gt r r r r .mk)) (.fs [[23, 16, 16]] r (by kernel_rfl) ?_)))
     refine splitP hd (fun hb996 hd => ?_) fun hb996 hd => ?_
     · rw [hb996]
       refine .f [24] r (by kernel_rfl) r r (fun ex => .gyes r r r (.fieldAddr underlying35 r sizeOf29 r (o := 3) r r r .mk)) (.f [25, 24] r (by kernel_rfl) r r (fun ex => .gyes r r r (.load1 isAgg29 r .z r r r .mk)) (.fs [[24]] r (by kernel_rfl) ?_))
       obtain ⟨h997, x998, hx999, hd⟩ := hd
       obtain ⟨b1000, o1001, cs1002, e1003, hC1004, hr1005⟩ := R6.2 _ _ hx999
       cases hr1005
       refine .f [26, 27, 24] r (by kernel_rfl) r r (fun ex => .gyes r r r (.ixa underlying29 sizeOf3 r e1003 r h997 (idx_lt hx999 h997) r r .mk)) (.f [28, 24] r (by kernel_rfl) r r (fun ex => .gyes r r r (.ld1 (j := 0) isAgg3 hC1004 r r r r r .mk)) (.f [24] r (by kernel_rfl) r r (fun ex => .gyes r r r (.fieldAddr underlying35 r sizeOf29 r (o := 3) r r r .mk)) (.f [30, 24] r (by kernel_rfl) r r (fun ex => .gyes r r r (.load1 isAgg29 r .z r r r .mk)) (.fs [[24]] r (by kernel_rfl) (.f [32, 24] r (by kernel_rfl) r r (fun ex => .gyes r r r (.sub' r r r r .mk)) ?_)))))
       obtain ⟨h1006, x1007, hx1008, hd⟩ := hd
       obtain ⟨b1009, o1010, cs1011, e1012, hC1013, hr1014⟩ := R6.2 _ _ hx1008
       cases hr1014
       refine .f [31, 33, 24] r (by kernel_rfl) r r (fun ex => .gyes r r r (.ixa underlying29 sizeOf3 r e1012 r h1006 (idx_lt hx1008 h1006) r r .mk)) (.f [34, 24] r (by kernel_rfl) r r (fun ex => .gyes r r r (.ld1 (j := 0) isAgg3 hC1013 r r r r r .mk)) (.f [29, 35, 24] r (by kernel_rfl) r r (fun ex => .gyes r r r (.le' r r r r .mk)) (.fs [[24, 36, 16], [16, 37]] r (by kernel_rfl) (.e 39 (by kernel_rfl) (by kernel_rfl) (by kernel_rfl) (.nilS [155, 4, 3, 1] r r (.condP r hd (fun hb1015 hd => ?_) fun hb1015 hd => ?_))))))
       · exact .seq (.region (.skips 1 r (.nilS [2] r r (.drop .z (.ret (pret results97 (.t r .n) le945 ⟨false, r, hd⟩))))))
       exact .skipS [4, 3, 1] r r (.region (.skips 1 r (.add r r r r (.sub (E' := [(1, _), (3, _), (115, _), (116, _)]) ⟨r, r, r, r, trivial⟩ (.skips 1 r (.nil' fun c w ho hs => ⟨(w64 (s941 + 1)), hd, I943, le946, ho.sub ⟨r, r, r, trivial⟩, hs.pick (.c .z .n)⟩))))))
     rw [hb996]
     refine .fs [[24], [25, 24], [24], [26, 27, 24], [28, 24], [24], [30, 24], [24], [32, 24], [31, 33, 24], [34, 24], [29, 35, 24], [24, 36, 16], [16, 37]] r (by kernel_rfl) (.e 39 (by kernel_rfl) (by kernel_rfl) (by kernel_rfl) (.nilS [155, 4, 3, 1] r r (.condKF r r (.skipS [4, 3, 1] r r (.region (.skips 1 r (.add r r r r (.sub (E' := [(1, _), (3, _), (115, _), (116, _)]) ⟨r, r, r, r, trivial⟩ (.skips 1 r ?_)))))))))
     exact .nil' fun c w ho hs => ⟨(w64 (s941 + 1)), hd, I943, le946, ho.sub ⟨r, r, r, trivial⟩, hs.pick (.c .z .n)⟩
   exact .exitS [3, 1] r r (.region (.skips 1 r (.add r r r r (.sub (E' := [(1, _), (68, _), (69, _)]) ⟨r, r, r, trivial⟩ (.skips 1 r (.nil' fun c w ho hs => ⟨(w64 (s697 + 1)), hd, I943, le945, ho.sub ⟨r, r, trivial⟩, hs.pick (.c .z .n)⟩))))))
 exact .exitS [] r r (.drop .z (.seq (.region (.skips 1 r (.nilS [2] r r (.ret (pret results97 (.t r .n) le701 ⟨true, r, hd⟩)))))))

theorem W_ref07_Sure {I : IH} {a0 : Rows} {p1 : Option Addr} {c2 : Nat} {p4 : Option Addr} {c5 : Nat} {p7 : Option Addr} {c8 : Nat} {Q : Rows → Prop} (R3 : RepSl eI64 I p1 c2 a0.Start) (R6 : RepSl eI64 I p4 c5 a0.Col) (R9 : RepSl eI64 I p7 c8 a0.Val) (hd : ref07_Sure a0 Q) :
    PFun Tryz.prog 50 [.agg #[.int .i64 a0.Rows, .int .i64 a0.Cols, .slice p1 a0.Start.length c2, .slice p4 a0.Col.length c5, .slice p7 a0.Val.length c8]] I (fun I_ v => ∃ r p10 c11 p13 c14 p16 c17, v = .agg #[.int .i64 r.Rows, .int .i64 r.Cols, .slice p10 r.Start.length c11, .slice p13 r.Col.length c14, .slice p16 r.Val.length c17] ∧ RepSl eI64 I_ p10 c11 r.Start ∧ RepSl eI64 I_ p13 c14 r.Col ∧ RepSl eI64 I_ p16 c17 r.Val ∧ Q r) := by
 refine Fun.enter func50 r ntmps50 r (.c .n) fun w0 M => ?_
 refine .seq (.region (.boxA r r r fun b23 => ?_))
 refine .allocA zeroValue35 r r fun b25 => ?_
 refine .nilS [2, 1] r r (.seq (.seq (.region (.loadW isAgg35 sizeOf35 r (.s .z) r r r ?_))))
 have hw28 := W_ref07_Right (I := I) R3 R6 R9 hd
 refine .callP call97 r hw28 r r fun v29 hv30 => ?_
 obtain ⟨r27, rfl, hd⟩ := hv30
 refine .nilS [4, 2, 1] r r (.condP r hd (fun hb31 hd => ?_) fun hb31 hd => ?_)
 · exact .seq (.region (.loadW isAgg35 sizeOf35 r (.s .z) r r r (.storeA sizeOf35 r r .z (.t (.t (.t (.t (.t .nil))))) r r (.nilS [2] r r (.drop (.s .z) (.ret (pret results50 (.w isAgg35 sizeOf35 r .z r .n) (.refl _) ⟨a0, _, _, _, _, _, _, r, R3, R6, R9, hd⟩)))))))
 refine .skipS [2] r r (.drop (.s .z) (.seq (.region ?_)))
 have hw50 := W_ref07_Empty (I := I) hd
 refine .callO call71 r hw50 r r fun v36 I33 l37 hl34 hv35 => ?_
 obtain ⟨r32, p38, c39, p41, c42, p44, c45, rfl, rfl, hd⟩ := hv35
 have le51 := IH.le.trans (.refl _) hl34
 refine .storeA sizeOf35 r r (.s (.s (.s .z))) (.t (.t (.t (.t (.t .nil))))) r r (.nilS [2] r r (.pub .z fun I52 hl53 R54 => ?_))
 have le55 := IH.le.trans le51 hl53
 refine .pub .z fun I56 hl57 R58 => ?_
 have le59 := IH.le.trans le55 hl57
 replace R54 := R54.mono hl57
 refine .pub .z fun I60 hl61 R62 => ?_
 have le63 := IH.le.trans le59 hl61
 replace R54 := R54.mono hl61
 replace R58 := R58.mono hl61
 exact .ret (pret results50 (.w isAgg35 sizeOf35 r .z r .n) le63 ⟨r32, _, _, _, _, _, _, r, R54, R58, R62, hd⟩)

theorem W_ref07_Triples {I : IH} {a0 : Rows} {p1 : Option Addr} {c2 : Nat} {p4 : Option Addr} {c5 : Nat} {p7 : Option Addr} {c8 : Nat} {Q : (List Triple) → Prop} (R3 : RepSl eI64 I p1 c2 a0.Start) (R6 : RepSl eI64 I p4 c5 a0.Col) (R9 : RepSl eI64 I p7 c8 a0.Val) (hd : ref07_Triples a0 Q) :
    PFun Tryz.prog 51 [.agg #[.int .i64 a0.Rows, .int .i64 a0.Cols, .slice p1 a0.Start.length c2, .slice p4 a0.Col.length c5, .slice p7 a0.Val.length c8]] I (fun I_ v => ∃ r p10 c11, v = .slice p10 r.length c11 ∧ RepSl eTriple I_ p10 c11 r ∧ Q r) := by
 refine Fun.enter func51 r ntmps51 r (.c .n) fun w0 M => ?_
 refine .seq (.region (.boxA r r r fun b15 => ?_))
 refine .skips 1 r (.nilS [1] r r (.seq (.region (.loadW isAgg35 sizeOf35 r .z r r r ?_))))
 have hw49 := W_ref07_Sure (I := I) R3 R6 R9 hd
 refine .call call50 r hw49 r r fun v38 I35 hl36 hv37 => ?_
 obtain ⟨r34, p40, c41, p43, c44, p46, c47, rfl, R42, R45, R48, hd⟩ := hv37
 have le50 := IH.le.trans (.refl _) hl36
 replace R3 := R3.mono hl36
 replace R6 := R6.mono hl36
 replace R9 := R9.mono hl36
 refine .storeA sizeOf35 r r .z (.t (.t (.t (.t (.t .nil))))) r r (.nilS [1] r r (.seq (.region (.skips 1 r (.nilS [3, 1] r r (.seq (.seq (.region (.skips 1 r ?_)))))))))
 refine .nilS [4, 3, 1] r r (.block (.own0 eTriple 84 (.loop hd (fun (s : (List Triple) × Int) c w => match s with | (s427, s431) => ∃ I_ p428 c429, IH.le I35 I_ ∧ Ok ⟨45, [], none⟩ [(1, .pointer (some ⟨b15, 0, none⟩)), (3, .slice p428 s427.length c429), (4, .int .i64 s431)] c ∧ Sym w0 M I I_ [pto b15 (.cells #[.int .i64 r34.Rows, .int .i64 r34.Cols, .slice p40 r34.Start.length c41, .slice p43 r34.Col.length c44, .slice p46 r34.Val.length c47] 35 (0, 0)), OwnSl eTriple 84 p428 c429 s427] w) (fun c w ho hs => ⟨I35, _, _, (.refl _), ho.sub ⟨r, r, r, trivial⟩, hs.pick (.c (.s .z) (.c .z .n))⟩) ?_)))
 rintro ⟨s427, s431⟩ next433 hd c w hst
 obtain ⟨I434, p428, c429, hl435, hok, hsym⟩ := hst
 have le436 := IH.le.trans le50 hl435
 have le437 := IH.le.trans (.refl _) hl435
 replace R42 := R42.mono hl435
 replace R45 := R45.mono hl435
 replace R48 := R48.mono hl435
 refine Cod.at hok hsym (.seq (.seq (.region (.skips 1 r (.fieldAddr underlying35 r sizeOf3 r (o := 0) r r r (.load1 isAgg3 r .z r r r (.lt r r r r (.nilS [11, 4, 3, 1] r r (.condP r hd (fun hb439 hd => ?_) fun hb439 hd => ?_)))))))))
 · refine .skipS [4, 3, 1] r r (.seq (.block (.seq (.region (.fieldAddr underlying35 r sizeOf29 r (o := 2) r r r (.load1 isAgg29 r .z r r r (.skips 1 r ?_)))))))
   obtain ⟨h449, x450, hx451, hd⟩ := hd
   obtain ⟨b452, o453, cs454, e455, hC456, hr457⟩ := R42.2 _ _ hx451
   cases hr457
   refine .ixa underlying29 sizeOf3 r e455 r h449 (idx_lt hx451 h449) r r (.ld1 (j := 0) isAgg3 hC456 r r r r r (.skips 1 r (.nilS [5, 4, 3, 1] r r (.block (.loop hd (fun (s : (List Triple) × Int) c w => match s with | (s563, s567) => ∃ I_ p564 c565, IH.le I434 I_ ∧ Ok ⟨45, [], none⟩ [(1, .pointer (some ⟨b15, 0, none⟩)), (3, .slice p564 s563.length c565), (4, .int .i64 s431), (5, .int .i64 s567)] c ∧ Sym w0 M I I_ [pto b15 (.cells #[.int .i64 r34.Rows, .int .i64 r34.Cols, .slice p40 r34.Start.length c41, .slice p43 r34.Col.length c44, .slice p46 r34.Val.length c47] 35 (0, 0)), OwnSl eTriple 84 p564 c565 s563] w) (fun c w ho hs => ⟨I434, _, _, (.refl _), ho.sub ⟨r, r, r, r, trivial⟩, hs.pick (.c .z (.c .z .n))⟩) ?_)))))
   rintro ⟨s563, s567⟩ next568 hd c w hst
   obtain ⟨I569, p564, c565, hl570, hok, hsym⟩ := hst
   have le571 := IH.le.trans le436 hl570
   have le572 := IH.le.trans le437 hl570
   have le573 := IH.le.trans (.refl _) hl570
   replace R42 := R42.mono hl570
   replace R45 := R45.mono hl570
   replace R48 := R48.mono hl570
   refine Cod.at hok hsym (.seq (.seq (.region (.skips 1 r (.fieldAddr underlying35 r sizeOf29 r (o := 2) r r r (.load1 isAgg29 r .z r r r (.skips 1 r (.add r r r r ?_))))))))
   obtain ⟨h584, x585, hx586, hd⟩ := hd
   obtain ⟨b587, o588, cs589, e590, hC591, hr592⟩ := R42.2 _ _ hx586
   cases hr592
   refine .ixa underlying29 sizeOf3 r e590 r h584 (idx_lt hx586 h584) r r (.ld1 (j := 0) isAgg3 hC591 r r r r r (.lt r r r r (.nilS [26, 5, 4, 3, 1] r r (.condP r hd (fun hb593 hd => ?_) fun hb593 hd => ?_))))
   · refine .skipS [5, 4, 3, 1] r r (.seq (.block (.ownF (.s .z) fun hne594 => ?_)))
     refine .draw [some 0, some 1, some 2, some 3, some 4, some 5, some 6, some 7, some 8, some 9, some 10, some 11, some 12, some 13, some 14] 15 MX (by kernel_rfl) (by kernel_rfl) (by kernel_rfl) (by kernel_rfl) (by kernel_rfl) (by kernel_rfl) (by kernel_rfl) (fun ex => (pto b15 (.cells #[.int .i64 r34.Rows, .int .i64 r34.Cols, .slice p40 r34.Start.length c41, .slice p43 r34.Col.length c44, .slice p46 r34.Val.length c47] 35 (0, 0))) :: (OwnSl eTriple 84 p564 c565 s563) :: ex) (fun _ _ => (.s (.s .z))) r (.fs [[], []] r (by kernel_rfl) (.f [] r (by kernel_rfl) r r (fun ex => .fieldAddr underlying35 r sizeOf29 r (o := 3) r r r .mk) (.f [2] r (by kernel_rfl) r r (fun ex => .load1 isAgg29 r .z r r r .mk) (.fs [[]] r (by kernel_rfl) ?_))))
     obtain ⟨h595, x596, hx597, hd⟩ := hd
     obtain ⟨b598, o599, cs600, e601, hC602, hr603⟩ := R45.2 _ _ hx597
     cases hr603
     refine .f [3, 4] r (by kernel_rfl) r r (fun ex => .ixa underlying29 sizeOf3 r e601 r h595 (idx_lt hx597 h595) r r .mk) (.f [5] r (by kernel_rfl) r r (fun ex => .ld1 (j := 0) isAgg3 hC602 r r r r r .mk) (.f [] r (by kernel_rfl) r r (fun ex => .fieldAddr underlying35 r sizeOf30 r (o := 4) r r r .mk) (.f [7] r (by kernel_rfl) r r (fun ex => .load1 isAgg30 r .z r r r .mk) (.fs [[]] r (by kernel_rfl) ?_))))
     obtain ⟨h604, x605, hx606, hd⟩ := hd
     obtain ⟨b607, o608, cs609, e610, hC611, hr612⟩ := R48.2 _ _ hx606
     cases hr612
     refine .f [8, 9] r (by kernel_rfl) r r (fun ex => .ixa underlying30 sizeOf2 r e610 r h604 (idx_lt hx606 h604) r r .mk) (.f [10] r (by kernel_rfl) r r (fun ex => .ld1 (j := 0) isAgg2 hC611 r r r r r .mk) (.f [1, 6, 11] r (by kernel_rfl) r r (fun ex => .build zeroValue84 underlying84 BI84 (.c r r r (.t .nil) (.c r r r (.s (.t .nil)) (.c r r r (.s (.s (.t .nil))) .n))) (by exact ⟨⟨_, _, r, r, r⟩, ⟨⟨_, _, r, r, r⟩, ⟨⟨_, _, r, r, r⟩, trivial⟩⟩⟩) r r .mk) (.w [0] [[], [12], [11, 12], [10, 11, 12], [10, 11, 12], [8, 10, 11, 12], [12], [6, 12], [5, 6, 12], [5, 6, 12], [3, 5, 6, 12], [12]] [12] r (by kernel_rfl) (by kernel_rfl) (by kernel_rfl) ((dropE_kept r r)) (.inr (dropE_kept r r)) fun ex => ?_)))
     refine .buildSlice 1 underlying24 sizeOf84 zeroValue84 r r (.c r r r .n) r r fun b613 => ?_
     refine .some (fun ex => (pto b613 (.cells #[.int .i64 s431, .int .i64 x596, .int .i64 x605] 84 (0, 0))) :: (pto b15 (.cells #[.int .i64 r34.Rows, .int .i64 r34.Cols, .slice p40 r34.Start.length c41, .slice p43 r34.Col.length c44, .slice p46 r34.Val.length c47] 35 (0, 0))) :: (OwnSl eTriple 84 p564 c565 s563) :: ex) r (fun _ _ => (.s (.s (.s .z)))) r (.ccs [[]] r r (by kernel_rfl) trivial) (.w [] [[]] [0, 13] r (by kernel_rfl) (by kernel_rfl) (by kernel_rfl) ((dropE_kept r r)) (.inr (dropE_kept r r)) fun ex => ?_)
     obtain ⟨hl615, hd⟩ := hd
     refine .append (ys := [({ Row := s431, Col := x596, Val := x605 } : Triple)]) 24 (.s (.s .z)) underlying24 underlying24 IN84 r r r r r r r r r (.box .z (.one r) r) hl615 r r fun p616 c617 => ?_
     refine .some (fun ex => (OwnSl eTriple 84 p616 c617 (s563 ++ ([({ Row := s431, Col := x596, Val := x605 } : Triple)]))) :: (pto b613 (.cells #[.int .i64 s431, .int .i64 x596, .int .i64 x605] 84 (0, 0))) :: (pto b15 (.cells #[.int .i64 r34.Rows, .int .i64 r34.Cols, .slice p40 r34.Start.length c41, .slice p43 r34.Col.length c44, .slice p46 r34.Val.length c47] 35 (0, 0))) :: ex) r (fun _ _ => (.s (.s (.s .z)))) r trivial (.e 15 (by kernel_rfl) (by kernel_rfl) (by kernel_rfl) (.sub (E' := [(1, _), (4, _), (5, _), (29, _), (30, _), (31, _), (32, _), (33, _), (34, _), (35, _), (36, _), (37, _), (38, _), (39, _), (40, _), (41, _), (42, _), (43, _)]) ⟨r, r, r, r, r, r, r, r, r, r, r, r, r, r, r, r, r, r, trivial⟩ (.skips 1 r (.nilS [3, 5, 4, 1] r r (.drop (.s .z) (.region (.skips 1 r (.add r r r r (.sub (E' := [(1, _), (4, _), (3, _), (27, _), (28, _)]) ⟨r, r, r, r, r, trivial⟩ ?_)))))))))
     exact .skips 1 r (.nil' fun c w ho hs => ⟨((s563 ++ ([({ Row := s431, Col := x596, Val := x605 } : Triple)])), w64 (s567 + 1)), hd, I569, _, _, le573, ho.sub ⟨r, r, r, r, trivial⟩, hs.pick (.c (.s .z) (.c .z .n))⟩)
   exact .exitS [4, 3, 1] r r (.region (.skips 1 r (.add r r r r (.sub (E' := [(1, _), (3, _), (12, _), (13, _)]) ⟨r, r, r, r, trivial⟩ (.skips 1 r (.nil' fun c w ho hs => ⟨(s563, w64 (s431 + 1)), hd, I569, _, _, le572, ho.sub ⟨r, r, r, trivial⟩, hs.pick (.c .z (.c .z .n))⟩))))))
 refine .exitS [3] r r (.drop .z (.seq (.region (.skips 2 r (.nilS [2] r r (.pub .z fun I619 hl620 R621 => ?_))))))
 have le622 := IH.le.trans le436 hl620
 have le623 := IH.le.trans le437 hl620
 exact .ret (pret results51 (.t r .n) le622 ⟨s427, _, _, r, R621, hd⟩)

theorem W_ref07_built {I : IH} {a0 : Int} {a1 : Int} {a2 : List Triple} {p1 : Option Addr} {c2 : Nat} {Q : Rows → Prop} (R3 : RepSl eTriple I p1 c2 a2) (hd : ref07_built a0 a1 a2 Q) :
    PFun Tryz.prog 52 [.int .i64 a0, .int .i64 a1, .slice p1 a2.length c2] I (fun I_ v => ∃ r p4 c5 p7 c8 p10 c11, v = .agg #[.int .i64 r.Rows, .int .i64 r.Cols, .slice p4 r.Start.length c5, .slice p7 r.Col.length c8, .slice p10 r.Val.length c11] ∧ RepSl eI64 I_ p4 c5 r.Start ∧ RepSl eI64 I_ p7 c8 r.Col ∧ RepSl eI64 I_ p10 c11 r.Val ∧ Q r) := by
 refine Fun.enter func52 r ntmps52 r (.c (.c (.c .n))) fun w0 M => ?_
 refine .seq (.region (.allocA zeroValue35 r r fun b15 => ?_))
 refine .nilS [6, 2, 1, 0] r r (.seq (.region (.skips 2 r ?_)))
 have hw57 := W_ref07_Empty (I := I) hd
 refine .callO call71 r hw57 r r fun v43 I40 l44 hl41 hv42 => ?_
 obtain ⟨r39, p45, c46, p48, c49, p51, c52, rfl, rfl, hd⟩ := hv42
 have le58 := IH.le.trans (.refl _) hl41
 replace R3 := R3.mono hl41
 refine .allocA zeroValue35 r r fun b59 => ?_
 refine .storeA sizeOf35 r r .z (.t (.t (.t (.t (.t .nil))))) r r (.nilS [7, 6, 2, 0] r r (.seq (.seq (.region (.skips 1 r (.nilS [8, 7, 6, 2, 0] r r (.block (.loop hd (fun (s : (List Int) × (List Int) × (List Int) × Int) c w => match s with | (s394, s398, s402, s406) => ∃ I_ p395 c396 p399 c400 p403 c404, IH.le I40 I_ ∧ Ok ⟨58, [], none⟩ [(0, .int .i64 a0), (2, .slice p1 a2.length c2), (6, .pointer (some ⟨b15, 0, none⟩)), (7, .pointer (some ⟨b59, 0, none⟩)), (8, .int .i64 s406)] c ∧ Sym w0 M I I_ [pto b15 (.cells #[.int .i64 0, .int .i64 0, .slice none 0 0, .slice none 0 0, .slice none 0 0] 35 (0, 0)), pto b59 (.cells #[.int .i64 r39.Rows, .int .i64 r39.Cols, .slice p395 s394.length c396, .slice p399 s398.length c400, .slice p403 s402.length c404] 35 (0, 0)), OwnSl eI64 3 p395 c396 s394, OwnSl eI64 3 p399 c400 s398, OwnSl eI64 2 p403 c404 s402] w) (fun c w ho hs => ⟨I40, _, _, _, _, _, _, (.refl _), ho.sub ⟨r, r, r, r, r, trivial⟩, hs.pick (.c (.s (.s (.s (.s .z)))) (.c .z (.c .z (.c .z (.c .z .n)))))⟩) ?_))))))))
 rintro ⟨s394, s398, s402, s406⟩ next407 hd c w hst
 obtain ⟨I408, p395, c396, p399, c400, p403, c404, hl409, hok, hsym⟩ := hst
 have le410 := IH.le.trans le58 hl409
 have le411 := IH.le.trans (.refl _) hl409
 replace R3 := R3.mono hl409
 refine Cod.at hok hsym (.seq (.seq (.region (.skips 2 r (.len underlying24 r r r r (.lt r r r r (.nilS [16, 8, 7, 6, 2, 0] r r (.condP r hd (fun hb413 hd => ?_) fun hb413 hd => ?_))))))))
 · refine .skipS [8, 7, 6, 2, 0] r r (.seq (.block (.seq (.ownF (.s (.s .z)) fun hne432 => ?_))))
   refine .ownF (.s (.s (.s .z))) fun hne433 => ?_
   refine .ownF (.s (.s (.s (.s .z)))) fun hne434 => ?_
   refine .draw [some 0, some 1, some 2, some 3, some 4, some 5, some 6, some 7, some 8] 9 MX (by kernel_rfl) (by kernel_rfl) (by kernel_rfl) (by kernel_rfl) (by kernel_rfl) (by kernel_rfl) (by kernel_rfl) (fun ex => (pto b15 (.cells #[.int .i64 0, .int .i64 0, .slice none 0 0, .slice none 0 0, .slice none 0 0] 35 (0, 0))) :: (pto b59 (.cells #[.int .i64 r39.Rows, .int .i64 r39.Cols, .slice p395 s394.length c396, .slice p399 s398.length c400, .slice p403 s402.length c404] 35 (0, 0))) :: (OwnSl eI64 3 p395 c396 s394) :: (OwnSl eI64 3 p399 c400 s398) :: (OwnSl eI64 2 p403 c404 s402) :: ex) (fun _ _ => (.s (.s (.s (.s (.s .z)))))) r (.f [] r (by kernel_rfl) r r (fun ex => .fieldAddr underlying35 r sizeOf29 r (o := 3) r r r .mk) (.f [0] r (by kernel_rfl) r r (fun ex => .load1 isAgg29 r (.s .z) r r r .mk) (.fs [[], []] r (by kernel_rfl) ?_)))
   obtain ⟨h435, x436, hx437, hd⟩ := hd
   obtain ⟨b438, o439, cs440, e441, hC442, hr443⟩ := R3.2 _ _ hx437
   cases hr443
   refine .f [2, 3] r (by kernel_rfl) r r (fun ex => .ixa underlying24 sizeOf84 r e441 r h435 (idx_lt hx437 h435) r r .mk) (.f [4] r (by kernel_rfl) r r (fun ex => .fieldAddr underlying84 r sizeOf3 r (o := o439 + s406.toNat * 3 + 1) r r r .mk) (.f [5] r (by kernel_rfl) r r (fun ex => .ld1 (j := 1) isAgg3 hC442 r r r r r .mk) (.w [1, 0] [[], [6], [5, 6], [4, 5, 6], [4, 5, 6]] [6] r (by kernel_rfl) (by kernel_rfl) (by kernel_rfl) ((dropE_kept r r)) (.inr (dropE_kept r r)) fun ex => ?_)))
   refine .buildSlice 1 underlying29 sizeOf3 zeroValue3 r r (.c r r r .n) r r fun b444 => ?_
   refine .some (fun ex => (pto b444 (.cells #[.int .i64 x436.Col] 3 (0, 0))) :: (pto b15 (.cells #[.int .i64 0, .int .i64 0, .slice none 0 0, .slice none 0 0, .slice none 0 0] 35 (0, 0))) :: (pto b59 (.cells #[.int .i64 r39.Rows, .int .i64 r39.Cols, .slice p395 s394.length c396, .slice p399 s398.length c400, .slice p403 s402.length c404] 35 (0, 0))) :: (OwnSl eI64 3 p395 c396 s394) :: (OwnSl eI64 3 p399 c400 s398) :: (OwnSl eI64 2 p403 c404 s402) :: ex) r (fun _ _ => (.s (.s (.s (.s (.s (.s .z))))))) r (.cc [0] r (by kernel_rfl) r r r (fun ex => .load1 isAgg29 r (.s (.s .z)) r r r .mk) (.cc [] r (by kernel_rfl) r r r (fun ex => .fieldAddr underlying35 r sizeOf29 r (o := 3) r r r .mk) trivial)) (.w [] [[], [1]] [1, 7] r (by kernel_rfl) (by kernel_rfl) (by kernel_rfl) ((dropE_kept r r)) (.inr (dropE_kept r r)) fun ex => ?_)
   obtain ⟨hl446, hd⟩ := hd
   refine .append (ys := [x436.Col]) 8 (.s (.s (.s (.s .z)))) underlying29 underlying29 IN3 r r r r r r r r r (.box .z (.one r) r) hl446 r r fun p447 c448 => ?_
   refine .some (fun ex => (OwnSl eI64 3 p447 c448 (s398 ++ ([x436.Col]))) :: (pto b444 (.cells #[.int .i64 x436.Col] 3 (0, 0))) :: (pto b15 (.cells #[.int .i64 0, .int .i64 0, .slice none 0 0, .slice none 0 0, .slice none 0 0] 35 (0, 0))) :: (pto b59 (.cells #[.int .i64 r39.Rows, .int .i64 r39.Cols, .slice p395 s394.length c396, .slice p399 s398.length c400, .slice p403 s402.length c404] 35 (0, 0))) :: (OwnSl eI64 3 p395 c396 s394) :: (OwnSl eI64 2 p403 c404 s402) :: ex) r (fun _ _ => (.s (.s (.s (.s (.s (.s .z))))))) r trivial (.e 9 (by kernel_rfl) (by kernel_rfl) (by kernel_rfl) (.fieldAddr underlying35 r sizeOf29 r (o := 3) r r r (.store1 sizeOf29 r r (.s (.s (.s .z))) (.s (.s (.s (.t .nil)))) r (.nilS [8, 7, 6, 2, 0] r r (.drop (.s .z) (.seq (.ownF .z fun hne468 => ?_)))))))
   refine .ownF (.s (.s (.s .z))) fun hne469 => ?_
   refine .ownF (.s (.s (.s (.s .z)))) fun hne470 => ?_
   refine .draw [some 0, some 1, some 2, some 3, some 4, some 5, some 6, some 7, some 8] 9 MX (by kernel_rfl) (by kernel_rfl) (by kernel_rfl) (by kernel_rfl) (by kernel_rfl) (by kernel_rfl) (by kernel_rfl) (fun ex => (OwnSl eI64 3 p447 c448 (s398 ++ ([x436.Col]))) :: (pto b15 (.cells #[.int .i64 0, .int .i64 0, .slice none 0 0, .slice none 0 0, .slice none 0 0] 35 (0, 0))) :: (pto b59 (.cells #[.int .i64 r39.Rows, .int .i64 r39.Cols, .slice p395 s394.length c396, .slice p447 (s398 ++ ([x436.Col])).length c448, .slice p403 s402.length c404] 35 (0, 0))) :: (OwnSl eI64 3 p395 c396 s394) :: (OwnSl eI64 2 p403 c404 s402) :: ex) (fun _ _ => (.s (.s (.s (.s (.s .z)))))) r (.f [] r (by kernel_rfl) r r (fun ex => .fieldAddr underlying35 r sizeOf30 r (o := 4) r r r .mk) (.f [0] r (by kernel_rfl) r r (fun ex => .load1 isAgg30 r (.s (.s .z)) r r r .mk) (.fs [[], []] r (by kernel_rfl) ?_)))
   obtain ⟨h471, x472, hx473, hd⟩ := hd
   obtain ⟨b474, o475, cs476, e477, hC478, hr479⟩ := R3.2 _ _ hx473
   cases hr479
   refine .f [2, 3] r (by kernel_rfl) r r (fun ex => .ixa underlying24 sizeOf84 r e477 r h471 (idx_lt hx473 h471) r r .mk) (.f [4] r (by kernel_rfl) r r (fun ex => .fieldAddr underlying84 r sizeOf2 r (o := o475 + s406.toNat * 3 + 2) r r r .mk) (.f [5] r (by kernel_rfl) r r (fun ex => .ld1 (j := 2) isAgg2 hC478 r r r r r .mk) (.w [1, 0] [[], [6], [5, 6], [4, 5, 6], [4, 5, 6]] [6] r (by kernel_rfl) (by kernel_rfl) (by kernel_rfl) ((dropE_kept r r)) (.inr (dropE_kept r r)) fun ex => ?_)))
   refine .buildSlice 1 underlying30 sizeOf2 zeroValue2 r r (.c r r r .n) r r fun b480 => ?_
   refine .some (fun ex => (pto b480 (.cells #[.int .i64 x472.Val] 2 (0, 0))) :: (OwnSl eI64 3 p447 c448 (s398 ++ ([x436.Col]))) :: (pto b15 (.cells #[.int .i64 0, .int .i64 0, .slice none 0 0, .slice none 0 0, .slice none 0 0] 35 (0, 0))) :: (pto b59 (.cells #[.int .i64 r39.Rows, .int .i64 r39.Cols, .slice p395 s394.length c396, .slice p447 (s398 ++ ([x436.Col])).length c448, .slice p403 s402.length c404] 35 (0, 0))) :: (OwnSl eI64 3 p395 c396 s394) :: (OwnSl eI64 2 p403 c404 s402) :: ex) r (fun _ _ => (.s (.s (.s (.s (.s (.s .z))))))) r (.cc [0] r (by kernel_rfl) r r r (fun ex => .load1 isAgg30 r (.s (.s (.s .z))) r r r .mk) (.cc [] r (by kernel_rfl) r r r (fun ex => .fieldAddr underlying35 r sizeOf30 r (o := 4) r r r .mk) trivial)) (.w [] [[], [1]] [1, 7] r (by kernel_rfl) (by kernel_rfl) (by kernel_rfl) ((dropE_kept r r)) (.inr (dropE_kept r r)) fun ex => ?_)
   obtain ⟨hl482, hd⟩ := hd
   refine .append (ys := [x472.Val]) 8 (.s (.s (.s (.s (.s .z))))) underlying30 underlying30 IN2 r r r r r r r r r (.box .z (.one r) r) hl482 r r fun p483 c484 => ?_
   refine .some (fun ex => (OwnSl eI64 2 p483 c484 (s402 ++ ([x472.Val]))) :: (pto b480 (.cells #[.int .i64 x472.Val] 2 (0, 0))) :: (OwnSl eI64 3 p447 c448 (s398 ++ ([x436.Col]))) :: (pto b15 (.cells #[.int .i64 0, .int .i64 0, .slice none 0 0, .slice none 0 0, .slice none 0 0] 35 (0, 0))) :: (pto b59 (.cells #[.int .i64 r39.Rows, .int .i64 r39.Cols, .slice p395 s394.length c396, .slice p447 (s398 ++ ([x436.Col])).length c448, .slice p403 s402.length c404] 35 (0, 0))) :: (OwnSl eI64 3 p395 c396 s394) :: ex) r (fun _ _ => (.s (.s (.s (.s (.s (.s .z))))))) r trivial (.e 9 (by kernel_rfl) (by kernel_rfl) (by kernel_rfl) (.fieldAddr underlying35 r sizeOf30 r (o := 4) r r r (.store1 sizeOf30 r r (.s (.s (.s (.s .z)))) (.s (.s (.s (.s (.t .nil))))) r (.nilS [8, 7, 6, 2, 0] r r (.drop (.s .z) (.seq (.region (.skips 2 r ?_))))))))
   obtain ⟨h495, x496, hx497, hd⟩ := hd
   obtain ⟨b498, o499, cs500, e501, hC502, hr503⟩ := R3.2 _ _ hx497
   cases hr503
   refine .ixa underlying24 sizeOf84 r e501 r h495 (idx_lt hx497 h495) r r (.fieldAddr underlying84 r sizeOf3 r (o := o499 + s406.toNat * 3) r r r (.ld1 (j := 0) isAgg3 hC502 r r r r r (.add r r r r (.skips 1 r (.nilS [9, 8, 7, 6, 2, 0] r r (.block (.loop hd (fun (s : (List Int) × Int) c w => match s with | (s539, s543) => ∃ I_ p540 c541, IH.le I408 I_ ∧ Ok ⟨58, [], none⟩ [(0, .int .i64 a0), (2, .slice p1 a2.length c2), (6, .pointer (some ⟨b15, 0, none⟩)), (7, .pointer (some ⟨b59, 0, none⟩)), (8, .int .i64 s406), (9, .int .i64 s543)] c ∧ Sym w0 M I I_ [pto b15 (.cells #[.int .i64 0, .int .i64 0, .slice none 0 0, .slice none 0 0, .slice none 0 0] 35 (0, 0)), pto b59 (.cells #[.int .i64 r39.Rows, .int .i64 r39.Cols, .slice p540 s539.length c541, .slice p447 (s398 ++ ([x436.Col])).length c448, .slice p483 (s402 ++ ([x472.Val])).length c484] 35 (0, 0)), OwnSl eI64 3 p540 c541 s539, OwnSl eI64 3 p447 c448 (s398 ++ ([x436.Col])), OwnSl eI64 2 p483 c484 (s402 ++ ([x472.Val]))] w) (fun c w ho hs => ⟨I408, _, _, (.refl _), ho.sub ⟨r, r, r, r, r, r, trivial⟩, hs.pick (.c (.s (.s .z)) (.c (.s (.s .z)) (.c (.s (.s .z)) (.c (.s .z) (.c .z .n)))))⟩) ?_)))))))
   rintro ⟨s539, s543⟩ next544 hd c w hst
   obtain ⟨I545, p540, c541, hl546, hok, hsym⟩ := hst
   have le547 := IH.le.trans le410 hl546
   have le548 := IH.le.trans le411 hl546
   have le549 := IH.le.trans (.refl _) hl546
   replace R3 := R3.mono hl546
   refine Cod.at hok hsym (.seq (.seq (.region (.skips 2 r (.le' r r r r (.nilS [47, 9, 8, 7, 6, 2, 0] r r (.condP r hd (fun hb551 hd => ?_) fun hb551 hd => ?_)))))))
   · refine .skipS [9, 8, 7, 6, 2, 0] r r (.seq (.block (.region (.fieldAddr underlying35 r sizeOf29 r (o := 2) r r r (.load1 isAgg29 r (.s .z) r r r (.skips 1 r ?_))))))
     obtain ⟨h552, x553, hx554, hd⟩ := hd
     refine .ownNe (.s (.s .z)) (idx_ne hx554) fun b555 e556 => ?_
     cases e556
     refine .ixa0 underlying29 sizeOf3 r r h552 (idx_lt hx554 h552) r r (.lo1 (j := 0) isAgg3 (.s (.s .z)) hx554 r r r r r (.add r r r r ?_))
     obtain ⟨h557, x558, hx559, hd⟩ := hd
     refine .ixa0 underlying29 sizeOf3 r r h557 (idx_lt hx559 h557) r r (.stO1 (j := 0) (v' := (w64 (x553 + 1))) sizeOf3 (.s (.s .z)) hx559 r r r (.t .nil) r (.sub (E' := [(0, _), (2, _), (6, _), (7, _), (8, _), (9, _), (50, _), (51, .slice (some ⟨b555, 0, none⟩) (s539.set s543.toNat (w64 (x553 + 1))).length c541), (52, _), (53, _), (54, _), (55, _), (56, _)]) ⟨r, r, r, r, r, r, r, (by simp only [List.length_set]; rfl), r, r, r, r, r, trivial⟩ (.reat (.s .z) (B := pto b59 (.cells #[.int .i64 r39.Rows, .int .i64 r39.Cols, .slice (some ⟨b555, 0, none⟩) (s539.set s543.toNat (w64 (x553 + 1))).length c541, .slice p447 (s398 ++ ([x436.Col])).length c448, .slice p483 (s402 ++ ([x472.Val])).length c484] 35 (0, 0))) (by simp only [List.length_set]) (.nilS [9, 8, 7, 6, 2, 0] r r (.region (.skips 1 r (.add r r r r (.sub (E' := [(0, _), (2, _), (6, _), (7, _), (8, _), (48, _), (49, _)]) ⟨r, r, r, r, r, r, r, trivial⟩ (.skips 1 r ?_)))))))))
     exact .nil' fun c w ho hs => ⟨((s539.set s543.toNat (w64 (x553 + 1))), w64 (s543 + 1)), hd, I545, _, _, le549, ho.sub ⟨r, r, r, r, r, r, trivial⟩, hs.pick (.c .z (.c .z (.c .z (.c .z (.c .z .n)))))⟩
   exact .exitS [8, 7, 6, 2, 0] r r (.region (.skips 1 r (.add r r r r (.sub (E' := [(0, _), (2, _), (6, _), (7, _), (17, _), (18, _)]) ⟨r, r, r, r, r, r, trivial⟩ (.skips 1 r (.nil' fun c w ho hs => ⟨(s539, (s398 ++ ([x436.Col])), (s402 ++ ([x472.Val])), w64 (s406 + 1)), hd, I545, _, _, _, _, _, _, le548, ho.sub ⟨r, r, r, r, r, trivial⟩, hs.pick (.c .z (.c .z (.c .z (.c .z (.c .z .n)))))⟩))))))
 refine .exitS [7, 6] r r (.seq (.region (.loadW isAgg35 sizeOf35 r (.s .z) r r r (.storeA sizeOf35 r r .z (.t (.t (.t (.t (.t .nil))))) r r (.nilS [6] r r (.drop (.s .z) (.pub (.s .z) fun I560 hl561 R562 => ?_)))))))
 have le563 := IH.le.trans le410 hl561
 have le564 := IH.le.trans le411 hl561
 refine .pub (.s .z) fun I565 hl566 R567 => ?_
 have le568 := IH.le.trans le563 hl566
 have le569 := IH.le.trans le564 hl566
 replace R562 := R562.mono hl566
 refine .pub (.s .z) fun I570 hl571 R572 => ?_
 have le573 := IH.le.trans le568 hl571
 have le574 := IH.le.trans le569 hl571
 replace R562 := R562.mono hl571
 replace R567 := R567.mono hl571
 exact .ret (pret results52 (.w isAgg35 sizeOf35 r .z r .n) le573 ⟨({ Rows := r39.Rows, Cols := r39.Cols, Start := s394, Col := s398, Val := s402 } : Rows), _, _, _, _, _, _, r, R562, R567, R572, hd⟩)

theorem W_ref07_Turn {I : IH} {a0 : Rows} {p1 : Option Addr} {c2 : Nat} {p4 : Option Addr} {c5 : Nat} {p7 : Option Addr} {c8 : Nat} {Q : Rows → Prop} (R3 : RepSl eI64 I p1 c2 a0.Start) (R6 : RepSl eI64 I p4 c5 a0.Col) (R9 : RepSl eI64 I p7 c8 a0.Val) (hd : ref07_Turn a0 Q) :
    PFun Tryz.prog 28 [.agg #[.int .i64 a0.Rows, .int .i64 a0.Cols, .slice p1 a0.Start.length c2, .slice p4 a0.Col.length c5, .slice p7 a0.Val.length c8]] I (fun I_ v => ∃ r p10 c11 p13 c14 p16 c17, v = .agg #[.int .i64 r.Rows, .int .i64 r.Cols, .slice p10 r.Start.length c11, .slice p13 r.Col.length c14, .slice p16 r.Val.length c17] ∧ RepSl eI64 I_ p10 c11 r.Start ∧ RepSl eI64 I_ p13 c14 r.Col ∧ RepSl eI64 I_ p16 c17 r.Val ∧ Q r) := by
 refine Fun.enter func28 r ntmps28 r (.c .n) fun w0 M => ?_
 refine .seq (.region (.boxA r r r fun b23 => ?_))
 refine .allocA zeroValue35 r r fun b25 => ?_
 refine .nilS [2, 1] r r (.seq (.region (.loadW isAgg35 sizeOf35 r (.s .z) r r r ?_)))
 have hw59 := W_ref07_Sure (I := I) R3 R6 R9 hd
 refine .call call50 r hw59 r r fun v48 I45 hl46 hv47 => ?_
 obtain ⟨r44, p50, c51, p53, c54, p56, c57, rfl, R52, R55, R58, hd⟩ := hv47
 have le60 := IH.le.trans (.refl _) hl46
 replace R3 := R3.mono hl46
 replace R6 := R6.mono hl46
 replace R9 := R9.mono hl46
 refine .storeA sizeOf35 r r (.s .z) (.t (.t (.t (.t (.t .nil))))) r r (.nilS [2, 1] r r (.seq (.region (.loadW isAgg35 sizeOf35 r (.s .z) r r r ?_))))
 have hw81 := W_ref07_Triples (I := I45) R52 R55 R58 hd
 refine .call call51 r hw81 r r fun v76 I73 hl74 hv75 => ?_
 obtain ⟨r72, p78, c79, rfl, R80, hd⟩ := hv75
 have le82 := IH.le.trans le60 hl74
 replace R52 := R52.mono hl74
 replace R55 := R55.mono hl74
 replace R58 := R58.mono hl74
 refine .skips 1 r (.nilS [3, 2, 1] r r (.seq (.region (.skips 1 r (.nilS [4, 3, 2, 1] r r (.seq (.seq (.region (.skips 1 r ?_)))))))))
 refine .nilS [5, 4, 3, 2, 1] r r (.block (.own0 eTriple 84 (.loop hd (fun (s : (List Triple) × Int) c w => match s with | (s429, s433) => ∃ I_ p430 c431, IH.le I73 I_ ∧ Ok ⟨51, [], none⟩ [(1, .pointer (some ⟨b23, 0, none⟩)), (2, .pointer (some ⟨b25, 0, none⟩)), (3, .slice p78 r72.length c79), (4, .slice p430 s429.length c431), (5, .int .i64 s433)] c ∧ Sym w0 M I I_ [pto b23 (.cells #[.int .i64 r44.Rows, .int .i64 r44.Cols, .slice p50 r44.Start.length c51, .slice p53 r44.Col.length c54, .slice p56 r44.Val.length c57] 35 (0, 0)), pto b25 (.cells #[.int .i64 0, .int .i64 0, .slice none 0 0, .slice none 0 0, .slice none 0 0] 35 (0, 0)), OwnSl eTriple 84 p430 c431 s429] w) (fun c w ho hs => ⟨I73, _, _, (.refl _), ho.sub ⟨r, r, r, r, r, trivial⟩, hs.pick (.c (.s (.s .z)) (.c (.s .z) (.c .z .n)))⟩) ?_)))
 rintro ⟨s429, s433⟩ next435 hd c w hst
 obtain ⟨I436, p430, c431, hl437, hok, hsym⟩ := hst
 have le438 := IH.le.trans le82 hl437
 have le439 := IH.le.trans (.refl _) hl437
 replace R52 := R52.mono hl437
 replace R55 := R55.mono hl437
 replace R58 := R58.mono hl437
 replace R80 := R80.mono hl437
 refine Cod.at hok hsym (.seq (.seq (.region (.skips 1 r (.fieldAddr underlying35 r sizeOf3 r (o := 1) r r r (.load1 isAgg3 r .z r r r (.lt r r r r (.nilS [14, 5, 4, 3, 2, 1] r r (.condP r hd (fun hb441 hd => ?_) fun hb441 hd => ?_)))))))))
 · refine .skipS [5, 4, 3, 2, 1] r r (.seq (.block (.seq (.region (.skips 1 r (.nilS [6, 5, 4, 3, 2, 1] r r (.block (.loop hd (fun (s : (List Triple) × Int) c w => match s with | (s549, s553) => ∃ I_ p550 c551, IH.le I436 I_ ∧ Ok ⟨51, [], none⟩ [(1, .pointer (some ⟨b23, 0, none⟩)), (2, .pointer (some ⟨b25, 0, none⟩)), (3, .slice p78 r72.length c79), (4, .slice p550 s549.length c551), (5, .int .i64 s433), (6, .int .i64 s553)] c ∧ Sym w0 M I I_ [pto b23 (.cells #[.int .i64 r44.Rows, .int .i64 r44.Cols, .slice p50 r44.Start.length c51, .slice p53 r44.Col.length c54, .slice p56 r44.Val.length c57] 35 (0, 0)), pto b25 (.cells #[.int .i64 0, .int .i64 0, .slice none 0 0, .slice none 0 0, .slice none 0 0] 35 (0, 0)), OwnSl eTriple 84 p550 c551 s549] w) (fun c w ho hs => ⟨I436, _, _, (.refl _), ho.sub ⟨r, r, r, r, r, r, trivial⟩, hs.pick (.c .z (.c .z (.c .z .n)))⟩) ?_))))))))
   rintro ⟨s549, s553⟩ next554 hd c w hst
   obtain ⟨I555, p550, c551, hl556, hok, hsym⟩ := hst
   have le557 := IH.le.trans le438 hl556
   have le558 := IH.le.trans le439 hl556
   have le559 := IH.le.trans (.refl _) hl556
   replace R52 := R52.mono hl556
   replace R55 := R55.mono hl556
   replace R58 := R58.mono hl556
   replace R80 := R80.mono hl556
   refine Cod.at hok hsym (.seq (.seq (.region (.skips 2 r (.len underlying24 r r r r (.lt r r r r (.nilS [20, 6, 5, 4, 3, 2, 1] r r (.condP r hd (fun hb561 hd => ?_) fun hb561 hd => ?_))))))))
   · refine .skipS [6, 5, 4, 3, 2, 1] r r (.seq (.block (.seq (.region (.skips 2 r ?_)))))
     obtain ⟨h571, x572, hx573, hd⟩ := hd
     obtain ⟨b574, o575, cs576, e577, hC578, hr579⟩ := R80.2 _ _ hx573
     cases hr579
     refine .ixa underlying24 sizeOf84 r e577 r h571 (idx_lt hx573 h571) r r (.fieldAddr underlying84 r sizeOf3 r (o := o575 + s553.toNat * 3 + 1) r r r (.ld1 (j := 1) isAgg3 hC578 r r r r r (.skips 1 r (.eq r r r r (.nilS [29, 6, 5, 4, 3, 2, 1] r r (.condP r hd (fun hb580 hd => ?_) fun hb580 hd => ?_))))))
     · refine .ownF (.s (.s .z)) fun hne581 => ?_
       refine .draw [some 0, some 1, some 2, some 3, some 4, some 5, some 6, some 7, some 8, some 9, some 10, some 11, some 12, some 13, some 14] 15 MX (by kernel_rfl) (by kernel_rfl) (by kernel_rfl) (by kernel_rfl) (by kernel_rfl) (by kernel_rfl) (by kernel_rfl) (fun ex => (pto b23 (.cells #[.int .i64 r44.Rows, .int .i64 r44.Cols, .slice p50 r44.Start.length c51, .slice p53 r44.Col.length c54, .slice p56 r44.Val.length c57] 35 (0, 0))) :: (pto b25 (.cells #[.int .i64 0, .int .i64 0, .slice none 0 0, .slice none 0 0, .slice none 0 0] 35 (0, 0))) :: (OwnSl eTriple 84 p550 c551 s549) :: ex) (fun _ _ => (.s (.s (.s .z)))) r (.fs [[], [], [], []] r (by kernel_rfl) ?_)
       obtain ⟨h582, x583, hx584, hd⟩ := hd
       obtain ⟨b585, o586, cs587, e588, hC589, hr590⟩ := R80.2 _ _ hx584
       cases hr590
       refine .f [2, 3] r (by kernel_rfl) r r (fun ex => .ixa underlying24 sizeOf84 r e588 r h582 (idx_lt hx584 h582) r r .mk) (.f [4] r (by kernel_rfl) r r (fun ex => .fieldAddr underlying84 r sizeOf3 r (o := o586 + s553.toNat * 3) r r r .mk) (.f [5] r (by kernel_rfl) r r (fun ex => .ld1 (j := 0) isAgg3 hC589 r r r r r .mk) (.fs [[], []] r (by kernel_rfl) ?_)))
       obtain ⟨h591, x592, hx593, hd⟩ := hd
       obtain ⟨b594, o595, cs596, e597, hC598, hr599⟩ := R80.2 _ _ hx593
       cases hr599
       refine .f [7, 8] r (by kernel_rfl) r r (fun ex => .ixa underlying24 sizeOf84 r e597 r h591 (idx_lt hx593 h591) r r .mk) (.f [9] r (by kernel_rfl) r r (fun ex => .fieldAddr underlying84 r sizeOf2 r (o := o595 + s553.toNat * 3 + 2) r r r .mk) (.f [10] r (by kernel_rfl) r r (fun ex => .ld1 (j := 2) isAgg2 hC598 r r r r r .mk) (.f [1, 6, 11] r (by kernel_rfl) r r (fun ex => .build zeroValue84 underlying84 BI84 (.c r r r (.t .nil) (.c r r r (.s (.t .nil)) (.c r r r (.s (.s (.t .nil))) .n))) (by exact ⟨⟨_, _, r, r, r⟩, ⟨⟨_, _, r, r, r⟩, ⟨⟨_, _, r, r, r⟩, trivial⟩⟩⟩) r r .mk) (.w [0] [[], [12], [11, 12], [10, 11, 12], [9, 10, 11, 12], [9, 10, 11, 12], [12], [6, 12], [5, 6, 12], [4, 5, 6, 12], [4, 5, 6, 12], [12]] [12] r (by kernel_rfl) (by kernel_rfl) (by kernel_rfl) ((dropE_kept r r)) (.inr (dropE_kept r r)) fun ex => ?_))))
       refine .buildSlice 1 underlying24 sizeOf84 zeroValue84 r r (.c r r r .n) r r fun b600 => ?_
       refine .some (fun ex => (pto b600 (.cells #[.int .i64 s433, .int .i64 x583.Row, .int .i64 x592.Val] 84 (0, 0))) :: (pto b23 (.cells #[.int .i64 r44.Rows, .int .i64 r44.Cols, .slice p50 r44.Start.length c51, .slice p53 r44.Col.length c54, .slice p56 r44.Val.length c57] 35 (0, 0))) :: (pto b25 (.cells #[.int .i64 0, .int .i64 0, .slice none 0 0, .slice none 0 0, .slice none 0 0] 35 (0, 0))) :: (OwnSl eTriple 84 p550 c551 s549) :: ex) r (fun _ _ => (.s (.s (.s (.s .z))))) r (.ccs [[]] r r (by kernel_rfl) trivial) (.w [] [[]] [0, 13] r (by kernel_rfl) (by kernel_rfl) (by kernel_rfl) ((dropE_kept r r)) (.inr (dropE_kept r r)) fun ex => ?_)
       obtain ⟨hl602, hd⟩ := hd
       refine .append (ys := [({ Row := s433, Col := x583.Row, Val := x592.Val } : Triple)]) 24 (.s (.s (.s .z))) underlying24 underlying24 IN84 r r r r r r r r r (.box .z (.one r) r) hl602 r r fun p603 c604 => ?_
       refine .some (fun ex => (OwnSl eTriple 84 p603 c604 (s549 ++ ([({ Row := s433, Col := x583.Row, Val := x592.Val } : Triple)]))) :: (pto b600 (.cells #[.int .i64 s433, .int .i64 x583.Row, .int .i64 x592.Val] 84 (0, 0))) :: (pto b23 (.cells #[.int .i64 r44.Rows, .int .i64 r44.Cols, .slice p50 r44.Start.length c51, .slice p53 r44.Col.length c54, .slice p56 r44.Val.length c57] 35 (0, 0))) :: (pto b25 (.cells #[.int .i64 0, .int .i64 0, .slice none 0 0, .slice none 0 0, .slice none 0 0] 35 (0, 0))) :: ex) r (fun _ _ => (.s (.s (.s (.s .z))))) r trivial (.e 15 (by kernel_rfl) (by kernel_rfl) (by kernel_rfl) (.sub (E' := [(1, _), (2, _), (3, _), (5, _), (6, _), (29, _), (30, _), (31, _), (32, _), (33, _), (34, _), (35, _), (36, _), (37, _), (38, _), (39, _), (40, _), (41, _), (42, _), (43, _), (44, _)]) ⟨r, r, r, r, r, r, r, r, r, r, r, r, r, r, r, r, r, r, r, r, r, trivial⟩ (.skips 1 r (.nilS [4, 6, 5, 3, 2, 1] r r (.drop (.s .z) (.region (.skips 1 r (.add r r r r (.sub (E' := [(1, _), (2, _), (3, _), (5, _), (4, _), (21, _), (22, _)]) ⟨r, r, r, r, r, r, r, trivial⟩ ?_)))))))))
       exact .skips 1 r (.nil' fun c w ho hs => ⟨((s549 ++ ([({ Row := s433, Col := x583.Row, Val := x592.Val } : Triple)])), w64 (s553 + 1)), hd, I555, _, _, le559, ho.sub ⟨r, r, r, r, r, r, trivial⟩, hs.pick (.c (.s .z) (.c (.s .z) (.c .z .n)))⟩)
     exact .skipS [6, 5, 4, 3, 2, 1] r r (.region (.skips 1 r (.add r r r r (.sub (E' := [(1, _), (2, _), (3, _), (4, _), (5, _), (21, _), (22, _)]) ⟨r, r, r, r, r, r, r, trivial⟩ (.skips 1 r (.nil' fun c w ho hs => ⟨(s549, w64 (s553 + 1)), hd, I555, _, _, le559, ho.sub ⟨r, r, r, r, r, r, trivial⟩, hs.pick (.c .z (.c .z (.c .z .n)))⟩))))))
   exact .exitS [5, 4, 3, 2, 1] r r (.region (.skips 1 r (.add r r r r (.sub (E' := [(1, _), (2, _), (3, _), (4, _), (15, _), (16, _)]) ⟨r, r, r, r, r, r, trivial⟩ (.skips 1 r (.nil' fun c w ho hs => ⟨(s549, w64 (s433 + 1)), hd, I555, _, _, le558, ho.sub ⟨r, r, r, r, r, trivial⟩, hs.pick (.c .z (.c .z (.c .z .n)))⟩))))))
 refine .exitS [4, 2, 1] r r (.seq (.region (.fieldAddr underlying35 r sizeOf3 r (o := 1) r r r (.load1 isAgg3 r .z r r r (.fieldAddr underlying35 r sizeOf3 r (o := 0) r r r (.load1 isAgg3 r .z r r r (.skips 1 r (.pub (.s (.s .z)) fun I606 hl607 R608 => ?_))))))))
 have le609 := IH.le.trans le438 hl607
 have le610 := IH.le.trans le439 hl607
 replace R52 := R52.mono hl607
 replace R55 := R55.mono hl607
 replace R58 := R58.mono hl607
 have hw626 := W_ref07_built (I := I606) R608 hd
 refine .call call52 r hw626 r r fun v615 I612 hl613 hv614 => ?_
 obtain ⟨r611, p617, c618, p620, c621, p623, c624, rfl, R619, R622, R625, hd⟩ := hv614
 have le627 := IH.le.trans le609 hl613
 have le628 := IH.le.trans le610 hl613
 replace R52 := R52.mono hl613
 replace R55 := R55.mono hl613
 replace R58 := R58.mono hl613
 replace R608 := R608.mono hl613
 exact .storeA sizeOf35 r r (.s .z) (.t (.t (.t (.t (.t .nil))))) r r (.nilS [2] r r (.drop .z (.ret (pret results28 (.w isAgg35 sizeOf35 r .z r .n) le627 ⟨r611, _, _, _, _, _, _, r, R619, R622, R625, hd⟩))))

theorem W_ref07_Row {I : IH} {a0 : Rows} {a1 : Int} {p1 : Option Addr} {c2 : Nat} {p4 : Option Addr} {c5 : Nat} {p7 : Option Addr} {c8 : Nat} {Q : (List Item) → Prop} (R3 : RepSl eI64 I p1 c2 a0.Start) (R6 : RepSl eI64 I p4 c5 a0.Col) (R9 : RepSl eI64 I p7 c8 a0.Val) (hd : ref07_Row a0 a1 Q) :
    PFun Tryz.prog 29 [.agg #[.int .i64 a0.Rows, .int .i64 a0.Cols, .slice p1 a0.Start.length c2, .slice p4 a0.Col.length c5, .slice p7 a0.Val.length c8], .int .i64 a1] I (fun I_ v => ∃ r p10 c11, v = .slice p10 r.length c11 ∧ RepSl eItem I_ p10 c11 r ∧ Q r) := by
 refine Fun.enter func29 r ntmps29 r (.c (.c .n)) fun w0 M => ?_
 refine .seq (.region (.boxA r r r fun b15 => ?_))
 refine .skips 1 r (.nilS [2, 1] r r (.seq (.region (.loadW isAgg35 sizeOf35 r .z r r r ?_))))
 have hw49 := W_ref07_Sure (I := I) R3 R6 R9 hd
 refine .call call50 r hw49 r r fun v38 I35 hl36 hv37 => ?_
 obtain ⟨r34, p40, c41, p43, c44, p46, c47, rfl, R42, R45, R48, hd⟩ := hv37
 have le50 := IH.le.trans (.refl _) hl36
 replace R3 := R3.mono hl36
 replace R6 := R6.mono hl36
 replace R9 := R9.mono hl36
 refine .storeA sizeOf35 r r .z (.t (.t (.t (.t (.t .nil))))) r r (.nilS [2, 1] r r (.seq (.region (.skips 1 r (.nilS [5, 2, 1] r r (.seq (.seq (.region (.skips 1 r ?_)))))))))
 refine .lt r r r r (.skips 1 r ?_)
 refine splitP hd (fun hb53 hd => ?_) fun hb53 hd => ?_
 · rw [hb53]
   exact .skips 5 r (.nilS [16, 5, 2, 1] r r (.condKT r r (.seq (.region (.skips 2 r (.nilS [4] r r (.drop .z (.ret (pret results29 (.t r .n) le50 ⟨([] : List Item), _, _, r, (.nil _ _ _), hd⟩)))))))))
 rw [hb53]
 refine .gyes r r r (.move r r r (.gyes r r r (.fieldAddr underlying35 r sizeOf3 r (o := 0) r r r (.gyes r r r (.load1 isAgg3 r .z r r r (.gyes r r r (.ge r r r r (.skips 1 r (.nilS [16, 5, 2, 1] r r (.condP r hd (fun hb54 hd => ?_) fun hb54 hd => ?_))))))))))
 · exact .seq (.region (.skips 2 r (.nilS [4] r r (.drop .z (.ret (pret results29 (.t r .n) le50 ⟨([] : List Item), _, _, r, (.nil _ _ _), hd⟩))))))
 refine .skipS [5, 2, 1] r r (.seq (.seq (.region (.fieldAddr underlying35 r sizeOf29 r (o := 2) r r r (.load1 isAgg29 r .z r r r (.skips 1 r ?_))))))
 obtain ⟨h64, x65, hx66, hd⟩ := hd
 obtain ⟨b67, o68, cs69, e70, hC71, hr72⟩ := R42.2 _ _ hx66
 cases hr72
 refine .ixa underlying29 sizeOf3 r e70 r h64 (idx_lt hx66 h64) r r (.ld1 (j := 0) isAgg3 hC71 r r r r r (.skips 1 r (.nilS [6, 5, 2, 1] r r (.block (.own0 eItem 67 (.loop hd (fun (s : (List Item) × Int) c w => match s with | (s178, s182) => ∃ I_ p179 c180, IH.le I35 I_ ∧ Ok ⟨48, [], none⟩ [(1, .int .i64 a1), (2, .pointer (some ⟨b15, 0, none⟩)), (5, .slice p179 s178.length c180), (6, .int .i64 s182)] c ∧ Sym w0 M I I_ [pto b15 (.cells #[.int .i64 r34.Rows, .int .i64 r34.Cols, .slice p40 r34.Start.length c41, .slice p43 r34.Col.length c44, .slice p46 r34.Val.length c47] 35 (0, 0)), OwnSl eItem 67 p179 c180 s178] w) (fun c w ho hs => ⟨I35, _, _, (.refl _), ho.sub ⟨r, r, r, r, trivial⟩, hs.pick (.c (.s .z) (.c .z .n))⟩) ?_))))))
 rintro ⟨s178, s182⟩ next184 hd c w hst
 obtain ⟨I185, p179, c180, hl186, hok, hsym⟩ := hst
 have le187 := IH.le.trans le50 hl186
 have le188 := IH.le.trans (.refl _) hl186
 replace R42 := R42.mono hl186
 replace R45 := R45.mono hl186
 replace R48 := R48.mono hl186
 refine Cod.at hok hsym (.seq (.seq (.region (.skips 1 r (.fieldAddr underlying35 r sizeOf29 r (o := 2) r r r (.load1 isAgg29 r .z r r r (.skips 1 r (.add r r r r ?_))))))))
 obtain ⟨h199, x200, hx201, hd⟩ := hd
 obtain ⟨b202, o203, cs204, e205, hC206, hr207⟩ := R42.2 _ _ hx201
 cases hr207
 refine .ixa underlying29 sizeOf3 r e205 r h199 (idx_lt hx201 h199) r r (.ld1 (j := 0) isAgg3 hC206 r r r r r (.lt r r r r (.nilS [30, 6, 5, 2, 1] r r (.condP r hd (fun hb208 hd => ?_) fun hb208 hd => ?_))))
 · refine .skipS [6, 5, 2, 1] r r (.seq (.block (.ownF (.s .z) fun hne209 => ?_)))
   refine .draw [some 0, some 1, some 2, some 3, some 4, some 5, some 6, some 7, some 8, some 9, some 10, some 11, some 12, some 13] 14 MX (by kernel_rfl) (by kernel_rfl) (by kernel_rfl) (by kernel_rfl) (by kernel_rfl) (by kernel_rfl) (by kernel_rfl) (fun ex => (pto b15 (.cells #[.int .i64 r34.Rows, .int .i64 r34.Cols, .slice p40 r34.Start.length c41, .slice p43 r34.Col.length c44, .slice p46 r34.Val.length c47] 35 (0, 0))) :: (OwnSl eItem 67 p179 c180 s178) :: ex) (fun _ _ => (.s (.s .z))) r (.fs [[]] r (by kernel_rfl) (.f [] r (by kernel_rfl) r r (fun ex => .fieldAddr underlying35 r sizeOf29 r (o := 3) r r r .mk) (.f [1] r (by kernel_rfl) r r (fun ex => .load1 isAgg29 r .z r r r .mk) (.fs [[]] r (by kernel_rfl) ?_))))
   obtain ⟨h210, x211, hx212, hd⟩ := hd
   obtain ⟨b213, o214, cs215, e216, hC217, hr218⟩ := R45.2 _ _ hx212
   cases hr218
   refine .f [2, 3] r (by kernel_rfl) r r (fun ex => .ixa underlying29 sizeOf3 r e216 r h210 (idx_lt hx212 h210) r r .mk) (.f [4] r (by kernel_rfl) r r (fun ex => .ld1 (j := 0) isAgg3 hC217 r r r r r .mk) (.f [] r (by kernel_rfl) r r (fun ex => .fieldAddr underlying35 r sizeOf30 r (o := 4) r r r .mk) (.f [6] r (by kernel_rfl) r r (fun ex => .load1 isAgg30 r .z r r r .mk) (.fs [[]] r (by kernel_rfl) ?_))))
   obtain ⟨h219, x220, hx221, hd⟩ := hd
   obtain ⟨b222, o223, cs224, e225, hC226, hr227⟩ := R48.2 _ _ hx221
   cases hr227
   refine .f [7, 8] r (by kernel_rfl) r r (fun ex => .ixa underlying30 sizeOf2 r e225 r h219 (idx_lt hx221 h219) r r .mk) (.f [9] r (by kernel_rfl) r r (fun ex => .ld1 (j := 0) isAgg2 hC226 r r r r r .mk) (.f [5, 10] r (by kernel_rfl) r r (fun ex => .build zeroValue67 underlying67 BI67 (.c r r r (.t .nil) (.c r r r (.s (.t .nil)) .n)) (by exact ⟨⟨_, _, r, r, r⟩, ⟨⟨_, _, r, r, r⟩, trivial⟩⟩) r r .mk) (.w [0] [[], [11], [10, 11], [9, 10, 11], [9, 10, 11], [7, 9, 10, 11], [11], [5, 11], [4, 5, 11], [4, 5, 11], [2, 4, 5, 11]] [11] r (by kernel_rfl) (by kernel_rfl) (by kernel_rfl) ((dropE_kept r r)) (.inr (dropE_kept r r)) fun ex => ?_)))
   refine .buildSlice 1 underlying25 sizeOf67 zeroValue67 r r (.c r r r .n) r r fun b228 => ?_
   refine .some (fun ex => (pto b228 (.cells #[.int .i64 x211, .int .i64 x220] 67 (0, 0))) :: (pto b15 (.cells #[.int .i64 r34.Rows, .int .i64 r34.Cols, .slice p40 r34.Start.length c41, .slice p43 r34.Col.length c44, .slice p46 r34.Val.length c47] 35 (0, 0))) :: (OwnSl eItem 67 p179 c180 s178) :: ex) r (fun _ _ => (.s (.s (.s .z)))) r (.ccs [[]] r r (by kernel_rfl) trivial) (.w [] [[]] [0, 12] r (by kernel_rfl) (by kernel_rfl) (by kernel_rfl) ((dropE_kept r r)) (.inr (dropE_kept r r)) fun ex => ?_)
   obtain ⟨hl230, hd⟩ := hd
   refine .append (ys := [({ At := x211, Val := x220 } : Item)]) 16 (.s (.s .z)) underlying25 underlying25 IN67 r r r r r r r r r (.box .z (.one r) r) hl230 r r fun p231 c232 => ?_
   refine .some (fun ex => (OwnSl eItem 67 p231 c232 (s178 ++ ([({ At := x211, Val := x220 } : Item)]))) :: (pto b228 (.cells #[.int .i64 x211, .int .i64 x220] 67 (0, 0))) :: (pto b15 (.cells #[.int .i64 r34.Rows, .int .i64 r34.Cols, .slice p40 r34.Start.length c41, .slice p43 r34.Col.length c44, .slice p46 r34.Val.length c47] 35 (0, 0))) :: ex) r (fun _ _ => (.s (.s (.s .z)))) r trivial (.e 14 (by kernel_rfl) (by kernel_rfl) (by kernel_rfl) (.sub (E' := [(1, _), (2, _), (6, _), (33, _), (34, _), (35, _), (36, _), (37, _), (38, _), (39, _), (40, _), (41, _), (42, _), (43, _), (44, _), (45, _), (46, _)]) ⟨r, r, r, r, r, r, r, r, r, r, r, r, r, r, r, r, r, trivial⟩ (.skips 1 r (.nilS [5, 6, 2, 1] r r (.drop (.s .z) (.region (.skips 1 r (.add r r r r (.sub (E' := [(1, _), (2, _), (5, _), (31, _), (32, _)]) ⟨r, r, r, r, r, trivial⟩ ?_)))))))))
   exact .skips 1 r (.nil' fun c w ho hs => ⟨((s178 ++ ([({ At := x211, Val := x220 } : Item)])), w64 (s182 + 1)), hd, I185, _, _, le188, ho.sub ⟨r, r, r, r, trivial⟩, hs.pick (.c (.s .z) (.c .z .n))⟩)
 refine .exitS [5] r r (.drop .z (.seq (.region (.skips 2 r (.nilS [4] r r (.pub .z fun I234 hl235 R236 => ?_))))))
 have le237 := IH.le.trans le187 hl235
 have le238 := IH.le.trans le188 hl235
 exact .ret (pret results29 (.t r .n) le237 ⟨s178, _, _, r, R236, hd⟩)

theorem W_ref08_Of {I : IH} {a0 : Rows} {p1 : Option Addr} {c2 : Nat} {p4 : Option Addr} {c5 : Nat} {p7 : Option Addr} {c8 : Nat} {Q : Columns → Prop} (R3 : RepSl eI64 I p1 c2 a0.Start) (R6 : RepSl eI64 I p4 c5 a0.Col) (R9 : RepSl eI64 I p7 c8 a0.Val) (hd : ref08_Of a0 Q) :
    PFun Tryz.prog 7 [.agg #[.int .i64 a0.Rows, .int .i64 a0.Cols, .slice p1 a0.Start.length c2, .slice p4 a0.Col.length c5, .slice p7 a0.Val.length c8]] I (fun I_ v => ∃ r p10 c11 p13 c14 p16 c17 p19 c20, v = .agg #[.int .i64 r.Rows, .int .i64 r.Cols, .slice p10 r.At.length c11, .slice p13 r.Start.length c14, .slice p16 r.Row.length c17, .slice p19 r.Val.length c20] ∧ RepSl eI64 I_ p10 c11 r.At ∧ RepSl eI64 I_ p13 c14 r.Start ∧ RepSl eI64 I_ p16 c17 r.Row ∧ RepSl eI64 I_ p19 c20 r.Val ∧ Q r) := by
 refine Fun.enter func7 r ntmps7 r (.c .n) fun w0 M => ?_
 refine .seq (.region (.boxA r r r fun b26 => ?_))
 refine .allocA zeroValue32 r r fun b28 => ?_
 refine .nilS [2, 1] r r (.seq (.region (.loadW isAgg35 sizeOf35 r (.s .z) r r r ?_)))
 have hw64 := W_ref07_Turn (I := I) R3 R6 R9 hd
 refine .call call28 r hw64 r r fun v53 I50 hl51 hv52 => ?_
 obtain ⟨r49, p55, c56, p58, c59, p61, c62, rfl, R57, R60, R63, hd⟩ := hv52
 have le65 := IH.le.trans (.refl _) hl51
 replace R3 := R3.mono hl51
 replace R6 := R6.mono hl51
 replace R9 := R9.mono hl51
 refine .allocA zeroValue35 r r fun b66 => ?_
 refine .storeA sizeOf35 r r .z (.t (.t (.t (.t (.t .nil))))) r r (.nilS [3, 2] r r (.drop (.s (.s .z)) (.seq (.region (.fieldAddr underlying35 r sizeOf3 r (o := 1) r r r (.load1 isAgg3 r .z r r r (.fieldAddr underlying35 r sizeOf3 r (o := 0) r r r (.load1 isAgg3 r .z r r r (.buildSlice 1 underlying29 sizeOf3 zeroValue3 r r (.c r r r .n) r r fun b73 => ?_)))))))))
 refine .ownB (El := eI64) (ys := ([0] : List Int)) .z (.one r) r (.build zeroValue32 underlying32 BI32 (.c r r r (.t .nil) (.c r r r (.s (.t .nil)) (.c r r r (.s (.s (.s (.t .nil)))) .n))) (by exact ⟨⟨_, _, r, r, r⟩, ⟨⟨_, _, r, r, r⟩, ⟨⟨_, _, r, r, r⟩, trivial⟩⟩⟩) r r (.allocA zeroValue32 r r fun b76 => ?_))
 refine .storeA sizeOf32 r r .z (.t (.t (.t (.t (.t (.t .nil)))))) r r (.nilS [4, 3, 2] r r (.seq (.seq (.region (.skips 1 r (.nilS [5, 4, 3, 2] r r (.block (.own0 eI64 3 (.own0 eI64 3 ?_)))))))))
 refine .own0 eI64 2 (.loop hd (fun (s : (List Int) × (List Int) × (List Int) × (List Int) × Int) c w => match s with | (s652, s656, s660, s664, s668) => ∃ I_ p653 c654 p657 c658 p661 c662 p665 c666, IH.le I50 I_ ∧ Ok ⟨69, [], none⟩ [(2, .pointer (some ⟨b28, 0, none⟩)), (3, .pointer (some ⟨b66, 0, none⟩)), (4, .pointer (some ⟨b76, 0, none⟩)), (5, .int .i64 s668)] c ∧ Sym w0 M I I_ [pto b28 (.cells #[.int .i64 0, .int .i64 0, .slice none 0 0, .slice none 0 0, .slice none 0 0, .slice none 0 0] 32 (0, 0)), pto b66 (.cells #[.int .i64 r49.Rows, .int .i64 r49.Cols, .slice p55 r49.Start.length c56, .slice p58 r49.Col.length c59, .slice p61 r49.Val.length c62] 35 (0, 0)), pto b76 (.cells #[.int .i64 r49.Cols, .int .i64 r49.Rows, .slice p653 s652.length c654, .slice p657 s656.length c658, .slice p661 s660.length c662, .slice p665 s664.length c666] 32 (0, 0)), OwnSl eI64 3 p653 c654 s652, OwnSl eI64 3 p657 c658 s656, OwnSl eI64 3 p661 c662 s660, OwnSl eI64 2 p665 c666 s664] w) (fun c w ho hs => ⟨I50, _, _, _, _, _, _, _, _, (.refl _), ho.sub ⟨r, r, r, r, trivial⟩, hs.pick (.c (.s (.s (.s (.s (.s (.s .z)))))) (.c (.s (.s (.s (.s (.s .z))))) (.c (.s (.s (.s .z))) (.c (.s (.s .z)) (.c (.s (.s .z)) (.c (.s .z) (.c .z .n)))))))⟩) ?_)
 rintro ⟨s652, s656, s660, s664, s668⟩ next672 hd c w hst
 obtain ⟨I673, p653, c654, p657, c658, p661, c662, p665, c666, hl674, hok, hsym⟩ := hst
 have le675 := IH.le.trans le65 hl674
 have le676 := IH.le.trans (.refl _) hl674
 replace R57 := R57.mono hl674
 replace R60 := R60.mono hl674
 replace R63 := R63.mono hl674
 refine Cod.at hok hsym (.seq (.seq (.region (.skips 1 r (.fieldAddr underlying35 r sizeOf3 r (o := 0) r r r (.load1 isAgg3 r (.s .z) r r r (.lt r r r r (.nilS [19, 5, 4, 3, 2] r r (.condP r hd (fun hb678 hd => ?_) fun hb678 hd => ?_)))))))))
 · refine .skipS [5, 4, 3, 2] r r (.seq (.block (.seq (.region (.loadW isAgg35 sizeOf35 r (.s .z) r r r (.skips 1 r ?_))))))
   have hw700 := W_ref07_Row (I := I673) R57 R60 R63 hd
   refine .call call29 r hw700 r r fun v695 I692 hl693 hv694 => ?_
   obtain ⟨r691, p697, c698, rfl, R699, hd⟩ := hv694
   have le701 := IH.le.trans le675 hl693
   have le702 := IH.le.trans le676 hl693
   replace R57 := R57.mono hl693
   replace R60 := R60.mono hl693
   replace R63 := R63.mono hl693
   refine .skips 1 r (.nilS [6, 5, 4, 3, 2] r r (.seq (.seq (.region (.skips 1 r (.len underlying25 r r r r (.eq r r r r (.nilS [27, 6, 5, 4, 3, 2] r r (.condP r hd (fun hb704 hd => ?_) fun hb704 hd => ?_)))))))))
   · exact .exitS [5, 4, 3, 2] r r (.region (.skips 1 r (.add r r r r (.sub (E' := [(2, _), (3, _), (4, _), (20, _), (21, _)]) ⟨r, r, r, r, r, trivial⟩ (.skips 1 r (.nil' fun c w ho hs => ⟨(s652, s656, s660, s664, w64 (s668 + 1)), hd, I692, _, _, _, _, _, _, _, _, le702, ho.sub ⟨r, r, r, r, trivial⟩, hs.pick (.c .z (.c .z (.c .z (.c .z (.c .z (.c .z (.c .z .n)))))))⟩))))))
   refine .skipS [6, 5, 4, 3, 2] r r (.seq (.region (.fieldAddr underlying32 r sizeOf29 r (o := 2) r r r (.load1 isAgg29 r (.s (.s .z)) r r r (.skips 1 r (.buildSlice 1 underlying29 sizeOf3 zeroValue3 r r (.c r r r .n) r r fun b711 => ?_))))))
   obtain ⟨hl713, hd⟩ := hd
   refine .append (ys := [s668]) 8 (.s (.s (.s (.s .z)))) underlying29 underlying29 IN3 r r r r r r r r r (.box .z (.one r) r) hl713 r r fun p714 c715 => ?_
   refine .fieldAddr underlying32 r sizeOf29 r (o := 2) r r r (.store1 sizeOf29 r r (.s (.s (.s (.s .z)))) (.s (.s (.t .nil))) r (.nilS [6, 5, 4, 3, 2] r r (.drop (.s .z) (.seq (.seq (.region (.skips 1 r (.nilS [7, 6, 5, 4, 3, 2] r r (.block ?_)))))))))
   refine .loop hd (fun (s : (List Int) × (List Int) × Int) c w => match s with | (s862, s866, s870) => ∃ I_ p863 c864 p867 c868, IH.le I692 I_ ∧ Ok ⟨69, [], none⟩ [(2, .pointer (some ⟨b28, 0, none⟩)), (3, .pointer (some ⟨b66, 0, none⟩)), (4, .pointer (some ⟨b76, 0, none⟩)), (5, .int .i64 s668), (6, .slice p697 r691.length c698), (7, .int .i64 s870)] c ∧ Sym w0 M I I_ [pto b28 (.cells #[.int .i64 0, .int .i64 0, .slice none 0 0, .slice none 0 0, .slice none 0 0, .slice none 0 0] 32 (0, 0)), pto b66 (.cells #[.int .i64 r49.Rows, .int .i64 r49.Cols, .slice p55 r49.Start.length c56, .slice p58 r49.Col.length c59, .slice p61 r49.Val.length c62] 35 (0, 0)), pto b76 (.cells #[.int .i64 r49.Cols, .int .i64 r49.Rows, .slice p714 (s652 ++ ([s668])).length c715, .slice p657 s656.length c658, .slice p863 s862.length c864, .slice p867 s866.length c868] 32 (0, 0)), OwnSl eI64 3 p714 c715 (s652 ++ ([s668])), OwnSl eI64 3 p657 c658 s656, OwnSl eI64 3 p863 c864 s862, OwnSl eI64 2 p867 c868 s866] w) (fun c w ho hs => ⟨I692, _, _, _, _, (.refl _), ho.sub ⟨r, r, r, r, r, r, trivial⟩, hs.pick (.c (.s .z) (.c (.s .z) (.c (.s .z) (.c .z (.c .z (.c .z (.c .z .n)))))))⟩) ?_
   rintro ⟨s862, s866, s870⟩ next871 hd c w hst
   obtain ⟨I872, p863, c864, p867, c868, hl873, hok, hsym⟩ := hst
   have le874 := IH.le.trans le701 hl873
   have le875 := IH.le.trans le702 hl873
   have le876 := IH.le.trans (.refl _) hl873
   replace R57 := R57.mono hl873
   replace R60 := R60.mono hl873
   replace R63 := R63.mono hl873
   replace R699 := R699.mono hl873
   refine Cod.at hok hsym (.seq (.seq (.region (.skips 2 r (.len underlying25 r r r r (.lt r r r r (.nilS [37, 7, 6, 5, 4, 3, 2] r r (.condP r hd (fun hb878 hd => ?_) fun hb878 hd => ?_))))))))
   · refine .skipS [7, 6, 5, 4, 3, 2] r r (.seq (.block (.seq (.ownF (.s (.s (.s .z))) fun hne898 => ?_))))
     refine .ownF (.s (.s (.s (.s .z)))) fun hne899 => ?_
     refine .ownF (.s (.s (.s (.s (.s .z))))) fun hne900 => ?_
     refine .ownF (.s (.s (.s (.s (.s (.s .z)))))) fun hne901 => ?_
     refine .draw [some 0, some 1, some 2, some 3, some 4, some 5, some 6, some 7, some 8] 9 MX (by kernel_rfl) (by kernel_rfl) (by kernel_rfl) (by kernel_rfl) (by kernel_rfl) (by kernel_rfl) (by kernel_rfl) (fun ex => (pto b28 (.cells #[.int .i64 0, .int .i64 0, .slice none 0 0, .slice none 0 0, .slice none 0 0, .slice none 0 0] 32 (0, 0))) :: (pto b66 (.cells #[.int .i64 r49.Rows, .int .i64 r49.Cols, .slice p55 r49.Start.length c56, .slice p58 r49.Col.length c59, .slice p61 r49.Val.length c62] 35 (0, 0))) :: (pto b76 (.cells #[.int .i64 r49.Cols, .int .i64 r49.Rows, .slice p714 (s652 ++ ([s668])).length c715, .slice p657 s656.length c658, .slice p863 s862.length c864, .slice p867 s866.length c868] 32 (0, 0))) :: (OwnSl eI64 3 p714 c715 (s652 ++ ([s668]))) :: (OwnSl eI64 3 p657 c658 s656) :: (OwnSl eI64 3 p863 c864 s862) :: (OwnSl eI64 2 p867 c868 s866) :: ex) (fun _ _ => (.s (.s (.s (.s (.s (.s (.s .z)))))))) r (.f [] r (by kernel_rfl) r r (fun ex => .fieldAddr underlying32 r sizeOf29 r (o := 4) r r r .mk) (.f [0] r (by kernel_rfl) r r (fun ex => .load1 isAgg29 r (.s (.s .z)) r r r .mk) (.fs [[], []] r (by kernel_rfl) ?_)))
     obtain ⟨h902, x903, hx904, hd⟩ := hd
     obtain ⟨b905, o906, cs907, e908, hC909, hr910⟩ := R699.2 _ _ hx904
     cases hr910
     refine .f [2, 3] r (by kernel_rfl) r r (fun ex => .ixa underlying25 sizeOf67 r e908 r h902 (idx_lt hx904 h902) r r .mk) (.f [4] r (by kernel_rfl) r r (fun ex => .fieldAddr underlying67 r sizeOf3 r (o := o906 + s870.toNat * 2) r r r .mk) (.f [5] r (by kernel_rfl) r r (fun ex => .ld1 (j := 0) isAgg3 hC909 r r r r r .mk) (.w [1, 0] [[], [6], [5, 6], [4, 5, 6], [4, 5, 6]] [6] r (by kernel_rfl) (by kernel_rfl) (by kernel_rfl) ((dropE_kept r r)) (.inr (dropE_kept r r)) fun ex => ?_)))
     refine .buildSlice 1 underlying29 sizeOf3 zeroValue3 r r (.c r r r .n) r r fun b911 => ?_
     refine .some (fun ex => (pto b911 (.cells #[.int .i64 x903.At] 3 (0, 0))) :: (pto b28 (.cells #[.int .i64 0, .int .i64 0, .slice none 0 0, .slice none 0 0, .slice none 0 0, .slice none 0 0] 32 (0, 0))) :: (pto b66 (.cells #[.int .i64 r49.Rows, .int .i64 r49.Cols, .slice p55 r49.Start.length c56, .slice p58 r49.Col.length c59, .slice p61 r49.Val.length c62] 35 (0, 0))) :: (pto b76 (.cells #[.int .i64 r49.Cols, .int .i64 r49.Rows, .slice p714 (s652 ++ ([s668])).length c715, .slice p657 s656.length c658, .slice p863 s862.length c864, .slice p867 s866.length c868] 32 (0, 0))) :: (OwnSl eI64 3 p714 c715 (s652 ++ ([s668]))) :: (OwnSl eI64 3 p657 c658 s656) :: (OwnSl eI64 3 p863 c864 s862) :: (OwnSl eI64 2 p867 c868 s866) :: ex) r (fun _ _ => (.s (.s (.s (.s (.s (.s (.s (.s .z))))))))) r (.cc [0] r (by kernel_rfl) r r r (fun ex => .load1 isAgg29 r (.s (.s (.s .z))) r r r .mk) (.cc [] r (by kernel_rfl) r r r (fun ex => .fieldAddr underlying32 r sizeOf29 r (o := 4) r r r .mk) trivial)) (.w [] [[], [1]] [1, 7] r (by kernel_rfl) (by kernel_rfl) (by kernel_rfl) ((dropE_kept r r)) (.inr (dropE_kept r r)) fun ex => ?_)
     obtain ⟨hl913, hd⟩ := hd
     refine .append (ys := [x903.At]) 8 (.s (.s (.s (.s (.s (.s .z)))))) underlying29 underlying29 IN3 r r r r r r r r r (.box .z (.one r) r) hl913 r r fun p914 c915 => ?_
     refine .some (fun ex => (OwnSl eI64 3 p914 c915 (s862 ++ ([x903.At]))) :: (pto b911 (.cells #[.int .i64 x903.At] 3 (0, 0))) :: (pto b28 (.cells #[.int .i64 0, .int .i64 0, .slice none 0 0, .slice none 0 0, .slice none 0 0, .slice none 0 0] 32 (0, 0))) :: (pto b66 (.cells #[.int .i64 r49.Rows, .int .i64 r49.Cols, .slice p55 r49.Start.length c56, .slice p58 r49.Col.length c59, .slice p61 r49.Val.length c62] 35 (0, 0))) :: (pto b76 (.cells #[.int .i64 r49.Cols, .int .i64 r49.Rows, .slice p714 (s652 ++ ([s668])).length c715, .slice p657 s656.length c658, .slice p863 s862.length c864, .slice p867 s866.length c868] 32 (0, 0))) :: (OwnSl eI64 3 p714 c715 (s652 ++ ([s668]))) :: (OwnSl eI64 3 p657 c658 s656) :: (OwnSl eI64 2 p867 c868 s866) :: ex) r (fun _ _ => (.s (.s (.s (.s (.s (.s (.s (.s .z))))))))) r trivial (.e 9 (by kernel_rfl) (by kernel_rfl) (by kernel_rfl) (.fieldAddr underlying32 r sizeOf29 r (o := 4) r r r (.store1 sizeOf29 r r (.s (.s (.s (.s .z)))) (.s (.s (.s (.s (.t .nil))))) r (.nilS [7, 6, 5, 4, 3, 2] r r (.drop (.s .z) (.ownF .z fun hne917 => ?_))))))
     refine .ownF (.s (.s (.s (.s .z)))) fun hne918 => ?_
     refine .ownF (.s (.s (.s (.s (.s .z))))) fun hne919 => ?_
     refine .ownF (.s (.s (.s (.s (.s (.s .z)))))) fun hne920 => ?_
     refine .draw [some 0, some 1, some 2, some 3, some 4, some 5, some 6, some 7, some 8] 9 MX (by kernel_rfl) (by kernel_rfl) (by kernel_rfl) (by kernel_rfl) (by kernel_rfl) (by kernel_rfl) (by kernel_rfl) (fun ex => (OwnSl eI64 3 p914 c915 (s862 ++ ([x903.At]))) :: (pto b28 (.cells #[.int .i64 0, .int .i64 0, .slice none 0 0, .slice none 0 0, .slice none 0 0, .slice none 0 0] 32 (0, 0))) :: (pto b66 (.cells #[.int .i64 r49.Rows, .int .i64 r49.Cols, .slice p55 r49.Start.length c56, .slice p58 r49.Col.length c59, .slice p61 r49.Val.length c62] 35 (0, 0))) :: (pto b76 (.cells #[.int .i64 r49.Cols, .int .i64 r49.Rows, .slice p714 (s652 ++ ([s668])).length c715, .slice p657 s656.length c658, .slice p914 (s862 ++ ([x903.At])).length c915, .slice p867 s866.length c868] 32 (0, 0))) :: (OwnSl eI64 3 p714 c715 (s652 ++ ([s668]))) :: (OwnSl eI64 3 p657 c658 s656) :: (OwnSl eI64 2 p867 c868 s866) :: ex) (fun _ _ => (.s (.s (.s (.s (.s (.s (.s .z)))))))) r (.f [] r (by kernel_rfl) r r (fun ex => .fieldAddr underlying32 r sizeOf30 r (o := 5) r r r .mk) (.f [0] r (by kernel_rfl) r r (fun ex => .load1 isAgg30 r (.s (.s (.s .z))) r r r .mk) (.fs [[], []] r (by kernel_rfl) ?_)))
     obtain ⟨h921, x922, hx923, hd⟩ := hd
     obtain ⟨b924, o925, cs926, e927, hC928, hr929⟩ := R699.2 _ _ hx923
     cases hr929
     refine .f [2, 3] r (by kernel_rfl) r r (fun ex => .ixa underlying25 sizeOf67 r e927 r h921 (idx_lt hx923 h921) r r .mk) (.f [4] r (by kernel_rfl) r r (fun ex => .fieldAddr underlying67 r sizeOf2 r (o := o925 + s870.toNat * 2 + 1) r r r .mk) (.f [5] r (by kernel_rfl) r r (fun ex => .ld1 (j := 1) isAgg2 hC928 r r r r r .mk) (.w [1, 0] [[], [6], [5, 6], [4, 5, 6], [4, 5, 6]] [6] r (by kernel_rfl) (by kernel_rfl) (by kernel_rfl) ((dropE_kept r r)) (.inr (dropE_kept r r)) fun ex => ?_)))
     refine .buildSlice 1 underlying30 sizeOf2 zeroValue2 r r (.c r r r .n) r r fun b930 => ?_
     refine .some (fun ex => (pto b930 (.cells #[.int .i64 x922.Val] 2 (0, 0))) :: (OwnSl eI64 3 p914 c915 (s862 ++ ([x903.At]))) :: (pto b28 (.cells #[.int .i64 0, .int .i64 0, .slice none 0 0, .slice none 0 0, .slice none 0 0, .slice none 0 0] 32 (0, 0))) :: (pto b66 (.cells #[.int .i64 r49.Rows, .int .i64 r49.Cols, .slice p55 r49.Start.length c56, .slice p58 r49.Col.length c59, .slice p61 r49.Val.length c62] 35 (0, 0))) :: (pto b76 (.cells #[.int .i64 r49.Cols, .int .i64 r49.Rows, .slice p714 (s652 ++ ([s668])).length c715, .slice p657 s656.length c658, .slice p914 (s862 ++ ([x903.At])).length c915, .slice p867 s866.length c868] 32 (0, 0))) :: (OwnSl eI64 3 p714 c715 (s652 ++ ([s668]))) :: (OwnSl eI64 3 p657 c658 s656) :: (OwnSl eI64 2 p867 c868 s866) :: ex) r (fun _ _ => (.s (.s (.s (.s (.s (.s (.s (.s .z))))))))) r (.cc [0] r (by kernel_rfl) r r r (fun ex => .load1 isAgg30 r (.s (.s (.s (.s .z)))) r r r .mk) (.cc [] r (by kernel_rfl) r r r (fun ex => .fieldAddr underlying32 r sizeOf30 r (o := 5) r r r .mk) trivial)) (.w [] [[], [1]] [1, 7] r (by kernel_rfl) (by kernel_rfl) (by kernel_rfl) ((dropE_kept r r)) (.inr (dropE_kept r r)) fun ex => ?_)
     obtain ⟨hl932, hd⟩ := hd
     refine .append (ys := [x922.Val]) 8 (.s (.s (.s (.s (.s (.s (.s .z))))))) underlying30 underlying30 IN2 r r r r r r r r r (.box .z (.one r) r) hl932 r r fun p933 c934 => ?_
     refine .some (fun ex => (OwnSl eI64 2 p933 c934 (s866 ++ ([x922.Val]))) :: (pto b930 (.cells #[.int .i64 x922.Val] 2 (0, 0))) :: (OwnSl eI64 3 p914 c915 (s862 ++ ([x903.At]))) :: (pto b28 (.cells #[.int .i64 0, .int .i64 0, .slice none 0 0, .slice none 0 0, .slice none 0 0, .slice none 0 0] 32 (0, 0))) :: (pto b66 (.cells #[.int .i64 r49.Rows, .int .i64 r49.Cols, .slice p55 r49.Start.length c56, .slice p58 r49.Col.length c59, .slice p61 r49.Val.length c62] 35 (0, 0))) :: (pto b76 (.cells #[.int .i64 r49.Cols, .int .i64 r49.Rows, .slice p714 (s652 ++ ([s668])).length c715, .slice p657 s656.length c658, .slice p914 (s862 ++ ([x903.At])).length c915, .slice p867 s866.length c868] 32 (0, 0))) :: (OwnSl eI64 3 p714 c715 (s652 ++ ([s668]))) :: (OwnSl eI64 3 p657 c658 s656) :: ex) r (fun _ _ => (.s (.s (.s (.s (.s (.s (.s (.s .z))))))))) r trivial (.e 9 (by kernel_rfl) (by kernel_rfl) (by kernel_rfl) (.fieldAddr underlying32 r sizeOf30 r (o := 5) r r r (.store1 sizeOf30 r r (.s (.s (.s (.s (.s .z))))) (.s (.s (.s (.s (.s (.t .nil)))))) r (.nilS [7, 6, 5, 4, 3, 2] r r (.drop (.s .z) (.region (.skips 1 r (.add r r r r (.sub (E' := [(2, _), (3, _), (4, _), (5, _), (6, _), (38, _), (39, _)]) ⟨r, r, r, r, r, r, r, trivial⟩ ?_)))))))))
     exact .skips 1 r (.nil' fun c w ho hs => ⟨((s862 ++ ([x903.At])), (s866 ++ ([x922.Val])), w64 (s870 + 1)), hd, I872, _, _, _, _, le876, ho.sub ⟨r, r, r, r, r, r, trivial⟩, hs.pick (.c (.s (.s .z)) (.c (.s (.s .z)) (.c (.s (.s .z)) (.c (.s (.s .z)) (.c (.s (.s .z)) (.c (.s .z) (.c .z .n)))))))⟩)
   refine .exitS [5, 4, 3, 2] r r (.region (.fieldAddr underlying32 r sizeOf29 r (o := 3) r r r (.load1 isAgg29 r (.s (.s .z)) r r r (.fieldAddr underlying32 r sizeOf29 r (o := 4) r r r (.load1 isAgg29 r (.s (.s .z)) r r r (.len underlying29 r r r r (.buildSlice 1 underlying29 sizeOf3 zeroValue3 r r (.c r r r .n) r r fun b936 => ?_)))))))
   obtain ⟨hl938, hd⟩ := hd
   refine .append (ys := [(s862.length : Int)]) 8 (.s (.s (.s (.s (.s .z))))) underlying29 underlying29 IN3 r r r r r r r r r (.box .z (.one r) r) hl938 r r fun p939 c940 => ?_
   exact .fieldAddr underlying32 r sizeOf29 r (o := 3) r r r (.store1 sizeOf29 r r (.s (.s (.s (.s .z)))) (.s (.s (.s (.t .nil)))) r (.nilS [5, 4, 3, 2] r r (.drop (.s .z) (.region (.skips 1 r (.add r r r r (.sub (E' := [(2, _), (3, _), (4, _), (20, _), (21, _)]) ⟨r, r, r, r, r, trivial⟩ (.skips 1 r (.nil' fun c w ho hs => ⟨((s652 ++ ([s668])), (s656 ++ ([(s862.length : Int)])), s862, s866, w64 (s668 + 1)), hd, I872, _, _, _, _, _, _, _, _, le875, ho.sub ⟨r, r, r, r, trivial⟩, hs.pick (.c (.s .z) (.c (.s .z) (.c (.s .z) (.c (.s .z) (.c .z (.c .z (.c .z .n)))))))⟩)))))))))
 refine .exitS [4, 2] r r (.drop (.s .z) (.seq (.region (.loadW isAgg32 sizeOf32 r (.s .z) r r r (.storeA sizeOf32 r r .z (.t (.t (.t (.t (.t (.t .nil)))))) r r (.nilS [2] r r (.drop (.s .z) (.pub (.s .z) fun I942 hl943 R944 => ?_))))))))
 have le945 := IH.le.trans le675 hl943
 have le946 := IH.le.trans le676 hl943
 refine .pub (.s .z) fun I947 hl948 R949 => ?_
 have le950 := IH.le.trans le945 hl948
 have le951 := IH.le.trans le946 hl948
 replace R944 := R944.mono hl948
 refine .pub (.s .z) fun I952 hl953 R954 => ?_
 have le955 := IH.le.trans le950 hl953
 have le956 := IH.le.trans le951 hl953
 replace R944 := R944.mono hl953
 replace R949 := R949.mono hl953
 refine .pub (.s .z) fun I957 hl958 R959 => ?_
 have le960 := IH.le.trans le955 hl958
 have le961 := IH.le.trans le956 hl958
 replace R944 := R944.mono hl958
 replace R949 := R949.mono hl958
 replace R954 := R954.mono hl958
 exact .ret (pret results7 (.w isAgg32 sizeOf32 r .z r .n) le960 ⟨({ Rows := r49.Cols, Cols := r49.Rows, At := s652, Start := s656, Row := s660, Val := s664 } : Columns), _, _, _, _, _, _, _, _, r, R944, R949, R954, R959, hd⟩)

theorem W_ref02_Is {I : IH} {a0 : Int}  {Q : Bool → Prop}  (hd : ref02_Is a0 Q) :
    PFun Tryz.prog 81 [.int .i64 a0] I (fun I_ v => ∃ r, v = .bool r ∧ Q r) := by
 refine Fun.enter func81 r ntmps81 r (.c .n) fun w0 M => ?_
 refine .seq (.region (.skips 1 r (.nilS [0] r r (.seq (.region (.skips 1 r (.ge r r r r (.skips 1 r ?_))))))))
 refine splitP hd (fun hb1 hd => ?_) fun hb1 hd => ?_
 · rw [hb1]
   exact .gyes r r r (.move r r r (.gyes r r r (.le' r r r r (.skips 2 r (.nilS [2] r r (.ret (pret results81 (.t r .n) (.refl _) ⟨(decide (a0 ≤ 5)), r, hd⟩)))))))
 rw [hb1]
 exact .skips 4 r (.nilS [2] r r (.ret (pret results81 (.t r .n) (.refl _) ⟨false, r, hd⟩)))

theorem W_ref01_Add {I : IH} {a0 : Wide} {a1 : Wide}  {Q : Wide → Prop}  (hd : ref01_Add a0 a1 Q) :
    PFun Tryz.prog 132 [.agg (encWide a0).toArray, .agg (encWide a1).toArray] I (fun I_ v => ∃ r, v = .agg (encWide r).toArray ∧ Q r) := by
 refine Fun.enter func132 r ntmps132 r (.c (.c .n)) fun w0 M => ?_
 refine .seq (.region (.boxA r r r fun b7 => ?_))
 refine .boxA r r r fun b9 => ?_
 refine .allocA zeroValue87 r r fun b11 => ?_
 refine .nilS [4, 3, 2] r r (.seq (.region (.fieldAddr underlying87 r sizeOf85 r (o := 1) r r r (.load1 isAgg85 r (.s (.s .z)) r r r (.fieldAddr underlying87 r sizeOf85 r (o := 1) r r r (.load1 isAgg85 r (.s .z) r r r (.add r r r r (.skips 1 r (.nilS [5, 4, 3, 2] r r ?_)))))))))
 refine .seq (.region (.fieldAddr underlying87 r sizeOf2 r (o := 0) r r r (.load1 isAgg2 r (.s (.s .z)) r r r (.fieldAddr underlying87 r sizeOf2 r (o := 0) r r r (.load1 isAgg2 r (.s .z) r r r (.add r r r r (.skips 1 r (.nilS [6, 5, 4, 2] r r (.drop (.s .z) ?_)))))))))
 refine .seq (.seq (.region (.skips 1 r (.fieldAddr underlying87 r sizeOf85 r (o := 1) r r r (.load1 isAgg85 r (.s .z) r r r (.lt r r r r (.nilS [20, 6, 5, 4] r r (.drop (.s .z) (.condP r hd (fun hb13 hd => ?_) fun hb13 hd => ?_)))))))))
 · refine .region (.skips 1 r (.add r r r r (.sub (E' := [(4, _), (5, _), (20, _), (21, _), (22, _)]) ⟨r, r, r, r, r, trivial⟩ (.skips 1 r (.nilS [6, 5, 4] r r (.seq (.region (.skips 2 r (.build zeroValue87 underlying87 BI87 (.c r r r (.t .nil) (.c r r r (.s (.t .nil)) .n)) (by exact ⟨⟨_, _, r, r, r⟩, ⟨⟨_, _, r, r, r⟩, trivial⟩⟩) r r ?_)))))))))
   exact .storeA sizeOf87 r r .z (.t (.t .nil)) r r (.nilS [4] r r (.ret (pret results132 (.w isAgg87 sizeOf87 r .z r .n) (.refl _) ⟨({ Hi := w64 ((w64 (a0.Hi + a1.Hi)) + 1), Lo := IntKind.wrap .u64 (a0.Lo + a1.Lo) } : Wide), r, hd⟩)))
 exact .skipS [6, 5, 4] r r (.seq (.region (.skips 2 r (.build zeroValue87 underlying87 BI87 (.c r r r (.t .nil) (.c r r r (.s (.t .nil)) .n)) (by exact ⟨⟨_, _, r, r, r⟩, ⟨⟨_, _, r, r, r⟩, trivial⟩⟩) r r (.storeA sizeOf87 r r .z (.t (.t .nil)) r r (.nilS [4] r r (.ret (pret results132 (.w isAgg87 sizeOf87 r .z r .n) (.refl _) ⟨({ Hi := w64 (a0.Hi + a1.Hi), Lo := IntKind.wrap .u64 (a0.Lo + a1.Lo) } : Wide), r, hd⟩))))))))

theorem W_ref01_Compare {I : IH} {a0 : Wide} {a1 : Wide}  {Q : Int → Prop}  (hd : ref01_Compare a0 a1 Q) :
    PFun Tryz.prog 134 [.agg (encWide a0).toArray, .agg (encWide a1).toArray] I (fun I_ v => ∃ r, v = .int .i64 r ∧ Q r) := by
 refine Fun.enter func134 r ntmps134 r (.c (.c .n)) fun w0 M => ?_
 refine .seq (.region (.boxA r r r fun b5 => ?_))
 refine .boxA r r r fun b7 => ?_
 refine .skips 1 r (.nilS [3, 2] r r (.seq ?_))
 refine Cod.joinQ (σ := Unit) hd (fun (_ : Unit) c w => ∃ I_, IH.le I I_ ∧ Ok ⟨27, [], none⟩ [(2, .pointer (some ⟨b5, 0, none⟩)), (3, .pointer (some ⟨b7, 0, none⟩))] c ∧ Sym w0 M I I_ [pto b5 (.cells #[.int .i64 a0.Hi, .int .u64 a0.Lo] 87 (0, 0)), pto b7 (.cells #[.int .i64 a1.Hi, .int .u64 a1.Lo] 87 (0, 0))] w) (fun k15 hd => ?_) ?_
 · skip
   refine .seq (.region (.fieldAddr underlying87 r sizeOf2 r (o := 0) r r r (.load1 isAgg2 r (.s .z) r r r (.fieldAddr underlying87 r sizeOf2 r (o := 0) r r r (.load1 isAgg2 r .z r r r (.lt r r r r (.skips 1 r ?_)))))))
   refine splitP hd (fun hb16 hd => ?_) fun hb16 hd => ?_
   · rw [hb16]
     refine .skips 6 r (.gnoU r r r r (.gnoU r r r r (.gnoU r r r r (.gnoU r r r r (.gnoU r r r r (.skips 2 r (.nilS [23, 3, 2] r r (.condKT r r (.seq ?_)))))))))
     exact .region (.skips 1 r (.nilS [4] r r (.drop .z (.drop .z (.ret (pret results134 (.t r .n) (.refl _) ⟨(-1), r, hd⟩))))))
   rw [hb16]
   refine .gyes r r r (.fieldAddr underlying87 r sizeOf2 r (o := 0) r r r (.gyes r r r (.load1 isAgg2 r (.s .z) r r r (.gyes r r r (.fieldAddr underlying87 r sizeOf2 r (o := 0) r r r (.gyes r r r (.load1 isAgg2 r .z r r r (.gyes r r r (.eq r r r r (.gyes r r r (.move r r r ?_)))))))))))
   refine splitP hd (fun hb17 hd => ?_) fun hb17 hd => ?_
   · rw [hb17]
     refine .gyes r r r (.fieldAddr underlying87 r sizeOf85 r (o := 1) r r r (.gyes r r r (.load1 isAgg85 r (.s .z) r r r (.gyes r r r (.fieldAddr underlying87 r sizeOf85 r (o := 1) r r r (.gyes r r r (.load1 isAgg85 r .z r r r (.gyes r r r (.lt r r r r (.gyes r r r (.pickT r r r r r (.skips 1 r (.nilS [23, 3, 2] r r (.condP r hd (fun hb18 hd => ?_) fun hb18 hd => ?_))))))))))))))
     · exact .seq (.region (.skips 1 r (.nilS [4] r r (.drop .z (.drop .z (.ret (pret results134 (.t r .n) (.refl _) ⟨(-1), r, hd⟩)))))))
     exact .skip' fun c w ho hs => ⟨(), hd, I, (.refl _), ho.sub ⟨r, r, trivial⟩, hs.pick (.c (.s .z) (.c .z .n))⟩
   rw [hb17]
   exact .skips 5 r (.gyes r r r (.pickF r r r r r (.skips 1 r (.nilS [23, 3, 2] r r (.condKF r r (.skip' fun c w ho hs => ⟨(), hd, I, (.refl _), ho.sub ⟨r, r, trivial⟩, hs.pick (.c (.s .z) (.c .z .n))⟩))))))
 rintro ⟨⟩ hd c w hst
 obtain ⟨I19, hl20, hok, hsym⟩ := hst
 have le21 := IH.le.trans (.refl _) hl20
 refine Cod.at hok hsym (.seq (.seq (.region (.loadW isAgg87 sizeOf87 r .z r r r (.loadW isAgg87 sizeOf87 r (.s .z) r r r (.eqV r r (EQ87 a0 a1) (EG87 _ _ _ _ _) r r r (.nilS [26] r r (.drop .z (.drop .z ?_)))))))))
 refine .condP r hd (fun hb22 hd => ?_) fun hb22 hd => ?_
 · exact .seq (.region (.skips 1 r (.nilS [4] r r (.ret (pret results134 (.t r .n) le21 ⟨0, r, hd⟩)))))
 exact .skipS [] r r (.seq (.region (.skips 1 r (.nilS [4] r r (.ret (pret results134 (.t r .n) le21 ⟨1, r, hd⟩))))))

theorem W_ref02_truth {I : IH} {a0 : Bool}  {Q : Wide → Prop}  (hd : ref02_truth a0 Q) :
    PFun Tryz.prog 135 [.bool a0] I (fun I_ v => ∃ r, v = .agg (encWide r).toArray ∧ Q r) := by
 refine Fun.enter func135 r ntmps135 r (.c .n) fun w0 M => ?_
 refine .seq (.region (.allocA zeroValue87 r r fun b3 => ?_))
 refine .nilS [2, 0] r r (.seq (.seq (.region (.skips 1 r (.nilS [3, 2] r r (.condP r hd (fun hb5 hd => ?_) fun hb5 hd => ?_))))))
 · exact .seq (.region (.build zeroValue87 underlying87 BI87 (.c r r r (.s (.t .nil)) .n) (by exact ⟨⟨_, _, r, r, r⟩, trivial⟩) r r (.storeA sizeOf87 r r .z (.t (.t .nil)) r r (.nilS [2] r r (.ret (pret results135 (.w isAgg87 sizeOf87 r .z r .n) (.refl _) ⟨({ Hi := 0, Lo := 1 } : Wide), r, hd⟩))))))
 exact .skipS [2] r r (.seq (.region (.build zeroValue87 underlying87 BI87 .n (by exact trivial) r r (.storeA sizeOf87 r r .z (.t (.t .nil)) r r (.nilS [2] r r (.ret (pret results135 (.w isAgg87 sizeOf87 r .z r .n) (.refl _) ⟨({ Hi := 0, Lo := 0 } : Wide), r, hd⟩)))))))

theorem W_ref02_Add {I : IH} {a0 : Int} {a1 : Wide} {a2 : Wide}  {Q : Wide → Prop}  (hd : ref02_Add a0 a1 a2 Q) :
    PFun Tryz.prog 85 [.int .i64 a0, .agg (encWide a1).toArray, .agg (encWide a2).toArray] I (fun I_ v => ∃ r, v = .agg (encWide r).toArray ∧ Q r) := by
 refine Fun.enter func85 r ntmps85 r (.c (.c (.c .n))) fun w0 M => ?_
 refine .seq (.region (.boxA r r r fun b7 => ?_))
 refine .boxA r r r fun b9 => ?_
 refine .allocA zeroValue87 r r fun b11 => ?_
 refine .nilS [6, 5, 4, 0] r r (.seq (.region (.skips 1 r (.nilS [7, 6, 5, 4] r r (.block (.seq ?_))))))
 refine Cod.joinQ (σ := Bool) hd (fun (s17 : Bool) c w => ∃ I_, IH.le I I_ ∧ Ok ⟨35, [], none⟩ [(4, .pointer (some ⟨b7, 0, none⟩)), (5, .pointer (some ⟨b9, 0, none⟩)), (6, .pointer (some ⟨b11, 0, none⟩)), (7, .int .i64 a0), (9, .bool s17)] c ∧ Sym w0 M I I_ [pto b7 (.cells #[.int .i64 a1.Hi, .int .u64 a1.Lo] 87 (0, 0)), pto b9 (.cells #[.int .i64 a2.Hi, .int .u64 a2.Lo] 87 (0, 0)), pto b11 (.cells #[.int .i64 0, .int .u64 0] 87 (0, 0))] w) (fun k18 hd => ?_) ?_
 · skip
   refine .seq (.region (.eq r r r r (.skips 1 r (.nilS [9, 7, 6, 5, 4] r r (.condP r hd (fun hb19 hd => ?_) fun hb19 hd => ?_)))))
   · exact .skip' fun c w ho hs => ⟨(a0 == 1), hd, I, (.refl _), ho.sub ⟨r, r, r, r, r, trivial⟩, hs.pick (.c (.s (.s .z)) (.c (.s .z) (.c .z .n)))⟩
   refine .seq (.region (.eq r r r r (.sub (E' := [(4, _), (5, _), (6, _), (7, _), (11, _)]) ⟨r, r, r, r, r, trivial⟩ (.skips 1 r (.nilS [9, 7, 6, 5, 4] r r (.condP r hd (fun hb20 hd => ?_) fun hb20 hd => ?_))))))
   · exact .skip' fun c w ho hs => ⟨(a0 == 3), hd, I, (.refl _), ho.sub ⟨r, r, r, r, r, trivial⟩, hs.pick (.c (.s (.s .z)) (.c (.s .z) (.c .z .n)))⟩
   exact .region (.eq r r r r (.sub (E' := [(4, _), (5, _), (6, _), (7, _), (12, _)]) ⟨r, r, r, r, r, trivial⟩ (.skips 1 r (.nil' fun c w ho hs => ⟨(a0 == 4), hd, I, (.refl _), ho.sub ⟨r, r, r, r, r, trivial⟩, hs.pick (.c (.s (.s .z)) (.c (.s .z) (.c .z .n)))⟩))))
 rintro s17 hd c w hst
 obtain ⟨I21, hl22, hok, hsym⟩ := hst
 have le23 := IH.le.trans (.refl _) hl22
 refine Cod.at hok hsym (.condP r hd (fun hb24 hd => ?_) fun hb24 hd => ?_)
 · refine .seq (.seq (.region (.loadW isAgg87 sizeOf87 r (.s .z) r r r (.loadW isAgg87 sizeOf87 r .z r r r ?_))))
   have hw26 := W_ref01_Compare (I := I21) hd
   refine .callP call134 r hw26 r r fun v27 hv28 => ?_
   obtain ⟨r25, rfl, hd⟩ := hv28
   refine .lt r r r r (.nilS [16, 6, 5, 4] r r (.condP r hd (fun hb29 hd => ?_) fun hb29 hd => ?_))
   · exact .seq (.region (.loadW isAgg87 sizeOf87 r (.s .z) r r r (.storeA sizeOf87 r r (.s (.s .z)) (.t (.t .nil)) r r (.nilS [6] r r (.drop .z (.drop .z (.ret (pret results85 (.w isAgg87 sizeOf87 r .z r .n) le23 ⟨a2, r, hd⟩))))))))
   exact .skipS [6, 4] r r (.drop (.s .z) (.seq (.region (.loadW isAgg87 sizeOf87 r .z r r r (.storeA sizeOf87 r r (.s .z) (.t (.t .nil)) r r (.nilS [6] r r (.drop .z (.ret (pret results85 (.w isAgg87 sizeOf87 r .z r .n) le23 ⟨a1, r, hd⟩)))))))))
 refine .seq (.region (.eq r r r r (.skips 1 r (.nilS [19, 7, 6, 5, 4] r r (.condP r hd (fun hb30 hd => ?_) fun hb30 hd => ?_)))))
 · refine .seq (.region (.loadW isAgg87 sizeOf87 r .z r r r (.build zeroValue87 underlying87 BI87 .n (by exact trivial) r r (.neV r r (EQ87 a1 ({ Hi := 0, Lo := 0 } : Wide)) (EG87 _ _ _ _ _) r r r (.skips 1 r ?_)))))
   refine splitP hd (fun hb31 hd => ?_) fun hb31 hd => ?_
   · rw [hb31]
     refine .skips 4 r ?_
     have hw33 := W_ref02_truth (I := I21) hd
     refine .callP call135 r hw33 r r fun v34 hv35 => ?_
     obtain ⟨r32, rfl, hd⟩ := hv35
     exact .storeA sizeOf87 r r (.s (.s .z)) (.t (.t .nil)) r r (.nilS [6] r r (.drop .z (.drop .z (.ret (pret results85 (.w isAgg87 sizeOf87 r .z r .n) le23 ⟨r32, r, hd⟩)))))
   rw [hb31]
   refine .gyes r r r (.loadW isAgg87 sizeOf87 r (.s .z) r r r (.gyes r r r (.build zeroValue87 underlying87 BI87 .n (by exact trivial) r r (.gyes r r r (.neV r r (EQ87 a2 ({ Hi := 0, Lo := 0 } : Wide)) (EG87 _ _ _ _ _) r r r (.skips 1 r ?_))))))
   have hw37 := W_ref02_truth (I := I21) hd
   refine .callP call135 r hw37 r r fun v38 hv39 => ?_
   obtain ⟨r36, rfl, hd⟩ := hv39
   exact .storeA sizeOf87 r r (.s (.s .z)) (.t (.t .nil)) r r (.nilS [6] r r (.drop .z (.drop .z (.ret (pret results85 (.w isAgg87 sizeOf87 r .z r .n) le23 ⟨r36, r, hd⟩)))))
 refine .seq (.region (.eq r r r r (.skips 1 r (.nilS [30, 6, 5, 4] r r (.condP r hd (fun hb40 hd => ?_) fun hb40 hd => ?_)))))
 · refine .seq (.region (.loadW isAgg87 sizeOf87 r .z r r r (.loadW isAgg87 sizeOf87 r (.s .z) r r r ?_)))
   have hw42 := W_ref01_Add (I := I21) hd
   refine .callP call132 r hw42 r r fun v43 hv44 => ?_
   obtain ⟨r41, rfl, hd⟩ := hv44
   exact .storeA sizeOf87 r r (.s (.s .z)) (.t (.t .nil)) r r (.nilS [6] r r (.drop .z (.drop .z (.ret (pret results85 (.w isAgg87 sizeOf87 r .z r .n) le23 ⟨r41, r, hd⟩)))))
 exact .seq (.region (.build zeroValue87 underlying87 BI87 .n (by exact trivial) r r (.storeA sizeOf87 r r (.s (.s .z)) (.t (.t .nil)) r r (.nilS [6] r r (.drop .z (.drop .z (.ret (pret results85 (.w isAgg87 sizeOf87 r .z r .n) le23 ⟨({ Hi := 0, Lo := 0 } : Wide), r, hd⟩))))))))

theorem W_ref01_Of {I : IH} {a0 : Int}  {Q : Wide → Prop}  (hd : ref01_Of a0 Q) :
    PFun Tryz.prog 133 [.int .i64 a0] I (fun I_ v => ∃ r, v = .agg (encWide r).toArray ∧ Q r) := by
 refine Fun.enter func133 r ntmps133 r (.c .n) fun w0 M => ?_
 refine .seq (.region (.allocA zeroValue87 r r fun b3 => ?_))
 refine .nilS [2, 0] r r (.seq (.seq (.region (.skips 1 r (.lt r r r r (.nilS [4, 2, 0] r r (.condP r hd (fun hb5 hd => ?_) fun hb5 hd => ?_)))))))
 · exact .seq (.region (.skips 1 r (.conv underlying2 underlying85 r r r (.build zeroValue87 underlying87 BI87 (.c r r r (.t .nil) (.c r r r (.s (.t .nil)) .n)) (by exact ⟨⟨_, _, r, r, r⟩, ⟨⟨_, _, r, r, r⟩, trivial⟩⟩) r r (.storeA sizeOf87 r r .z (.t (.t .nil)) r r (.nilS [2] r r (.ret (pret results133 (.w isAgg87 sizeOf87 r .z r .n) (.refl _) ⟨({ Hi := (-1), Lo := IntKind.wrap .u64 (a0) } : Wide), r, hd⟩))))))))
 exact .skipS [2, 0] r r (.seq (.region (.skips 1 r (.conv underlying2 underlying85 r r r (.build zeroValue87 underlying87 BI87 (.c r r r (.s (.t .nil)) .n) (by exact ⟨⟨_, _, r, r, r⟩, trivial⟩) r r (.storeA sizeOf87 r r .z (.t (.t .nil)) r r (.nilS [2] r r (.ret (pret results133 (.w isAgg87 sizeOf87 r .z r .n) (.refl _) ⟨({ Hi := 0, Lo := IntKind.wrap .u64 (a0) } : Wide), r, hd⟩)))))))))

theorem W_ref01_Narrow {I : IH} {a0 : Wide}  {Q : (Int × Bool) → Prop}  (hd : ref01_Narrow a0 Q) :
    PFun Tryz.prog 142 [.agg (encWide a0).toArray] I (fun I_ v => ∃ r, v = .tuple #[.int .i64 r.1, .bool r.2] ∧ Q r) := by
 refine Fun.enter func142 r ntmps142 r (.c .n) fun w0 M => ?_
 refine .seq (.region (.boxA r r r fun b3 => ?_))
 refine .skips 2 r (.nilS [1] r r (.seq (.region (.fieldAddr underlying87 r sizeOf85 r (o := 1) r r r (.load1 isAgg85 r .z r r r (.conv underlying85 underlying2 r r r (.skips 1 r (.nilS [4, 1] r r (.seq ?_)))))))))
 refine .seq (.region (.fieldAddr underlying87 r sizeOf2 r (o := 0) r r r (.load1 isAgg2 r .z r r r (.eq r r r r (.skips 1 r ?_)))))
 refine splitP hd (fun hb5 hd => ?_) fun hb5 hd => ?_
 · rw [hb5]
   refine .gyes r r r (.move r r r (.gyes r r r (.ge r r r r (.skips 2 r ?_))))
   refine splitP hd (fun hb6 hd => ?_) fun hb6 hd => ?_
   · rw [hb6]
     refine .skips 4 r (.gnoU r r r r (.gnoU r r r r (.skips 2 r (.nilS [23, 4] r r (.drop .z (.condKT r r (.seq (.region (.skips 3 r ?_)))))))))
     exact .nilS [3, 2] r r (.ret (pret results142 (.t r (.t r .n)) (.refl _) ⟨(w64 (a0.Lo), true), r, hd⟩))
   rw [hb6]
   refine .gyes r r r (.fieldAddr underlying87 r sizeOf2 r (o := 0) r r r (.gyes r r r (.load1 isAgg2 r .z r r r (.gyes r r r (.eq r r r r (.gyes r r r (.move r r r ?_)))))))
   refine splitP hd (fun hb7 hd => ?_) fun hb7 hd => ?_
   · rw [hb7]
     refine .gyes r r r (.move r r r (.gyes r r r (.lt r r r r (.gyes r r r (.pickT r r r r r (.skips 1 r (.nilS [23, 4] r r (.drop .z (.condP r hd (fun hb8 hd => ?_) fun hb8 hd => ?_)))))))))
     · exact .seq (.region (.skips 3 r (.nilS [3, 2] r r (.ret (pret results142 (.t r (.t r .n)) (.refl _) ⟨(w64 (a0.Lo), true), r, hd⟩)))))
     exact .skipS [] r r (.seq (.region (.skips 2 r (.nilS [3, 2] r r (.ret (pret results142 (.t r (.t r .n)) (.refl _) ⟨(0, false), r, hd⟩))))))
   rw [hb7]
   refine .skips 2 r (.gyes r r r (.pickF r r r r r (.skips 1 r (.nilS [23, 4] r r (.drop .z (.condKF r r (.skipS [] r r (.seq (.region (.skips 2 r ?_))))))))))
   exact .nilS [3, 2] r r (.ret (pret results142 (.t r (.t r .n)) (.refl _) ⟨(0, false), r, hd⟩))
 rw [hb5]
 refine .skips 4 r (.gyes r r r (.fieldAddr underlying87 r sizeOf2 r (o := 0) r r r (.gyes r r r (.load1 isAgg2 r .z r r r (.gyes r r r (.eq r r r r (.gyes r r r (.move r r r ?_))))))))
 refine splitP hd (fun hb9 hd => ?_) fun hb9 hd => ?_
 · rw [hb9]
   refine .gyes r r r (.move r r r (.gyes r r r (.lt r r r r (.gyes r r r (.pickT r r r r r (.skips 1 r (.nilS [23, 4] r r (.drop .z (.condP r hd (fun hb10 hd => ?_) fun hb10 hd => ?_)))))))))
   · exact .seq (.region (.skips 3 r (.nilS [3, 2] r r (.ret (pret results142 (.t r (.t r .n)) (.refl _) ⟨(w64 (a0.Lo), true), r, hd⟩)))))
   exact .skipS [] r r (.seq (.region (.skips 2 r (.nilS [3, 2] r r (.ret (pret results142 (.t r (.t r .n)) (.refl _) ⟨(0, false), r, hd⟩))))))
 rw [hb9]
 refine .skips 2 r (.gyes r r r (.pickF r r r r r (.skips 1 r (.nilS [23, 4] r r (.drop .z (.condKF r r (.skipS [] r r (.seq (.region (.skips 2 r ?_))))))))))
 exact .nilS [3, 2] r r (.ret (pret results142 (.t r (.t r .n)) (.refl _) ⟨(0, false), r, hd⟩))

theorem W_ref05_below {I : IH} {a0 : Edge} {a1 : Edge}  {Q : Bool → Prop}  (hd : ref05_below a0 a1 Q) :
    PFun Tryz.prog 144 [.agg (encEdge a0).toArray, .agg (encEdge a1).toArray] I (fun I_ v => ∃ r, v = .bool r ∧ Q r) := by
 refine Fun.enter func144 r ntmps144 r (.c (.c .n)) fun w0 M => ?_
 refine .seq (.region (.boxA r r r fun b5 => ?_))
 refine .boxA r r r fun b7 => ?_
 refine .skips 1 r (.nilS [3, 2] r r (.seq (.region (.fieldAddr underlying139 r sizeOf3 r (o := 0) r r r (.load1 isAgg3 r (.s .z) r r r (.fieldAddr underlying139 r sizeOf3 r (o := 0) r r r (.load1 isAgg3 r .z r r r (.lt r r r r (.skips 1 r ?_)))))))))
 refine splitP hd (fun hb9 hd => ?_) fun hb9 hd => ?_
 · rw [hb9]
   refine .skips 6 r (.gnoU r r r r (.gnoU r r r r (.gnoU r r r r (.gnoU r r r r (.gnoU r r r r (.skips 3 r (.nilS [4] r r (.drop .z (.drop .z ?_)))))))))
   exact .ret (pret results144 (.t r .n) (.refl _) ⟨true, r, hd⟩)
 rw [hb9]
 refine .gyes r r r (.fieldAddr underlying139 r sizeOf3 r (o := 0) r r r (.gyes r r r (.load1 isAgg3 r (.s .z) r r r (.gyes r r r (.fieldAddr underlying139 r sizeOf3 r (o := 0) r r r (.gyes r r r (.load1 isAgg3 r .z r r r (.gyes r r r (.eq r r r r (.gyes r r r (.move r r r ?_)))))))))))
 refine splitP hd (fun hb10 hd => ?_) fun hb10 hd => ?_
 · rw [hb10]
   refine .gyes r r r (.fieldAddr underlying139 r sizeOf3 r (o := 1) r r r (.gyes r r r (.load1 isAgg3 r (.s .z) r r r (.gyes r r r (.fieldAddr underlying139 r sizeOf3 r (o := 1) r r r (.gyes r r r (.load1 isAgg3 r .z r r r (.gyes r r r (.lt r r r r (.gyes r r r (.pickT r r r r r (.skips 2 r (.nilS [4] r r (.drop .z (.drop .z ?_)))))))))))))))
   exact .ret (pret results144 (.t r .n) (.refl _) ⟨(decide (a0.To < a1.To)), r, hd⟩)
 rw [hb10]
 exact .skips 5 r (.gyes r r r (.pickF r r r r r (.skips 2 r (.nilS [4] r r (.drop .z (.drop .z (.ret (pret results144 (.t r .n) (.refl _) ⟨false, r, hd⟩))))))))

theorem W_ref05_Combine {I : IH} {a0 : Int} {a1 : List Edge} {p1 : Option Addr} {c2 : Nat} {Q : ((List Edge) × Int) → Prop} (R3 : RepSl eEdge I p1 c2 a1) (hd : ref05_Combine a0 a1 Q) :
    PFun Tryz.prog 94 [.int .i64 a0, .slice p1 a1.length c2] I (fun I_ v => ∃ r p4 c5, v = .tuple #[.slice p4 r.1.length c5, .int .i64 r.2] ∧ RepSl eEdge I_ p4 c5 r.1 ∧ Q r) := by
 refine Fun.enter func94 r ntmps94 r (.c (.c .n)) fun w0 M => ?_
 refine .seq (.region (.skips 2 r (.nilS [1, 0] r r (.seq (.seq (.region (.skips 1 r ?_)))))))
 have hw13 := W_ref02_Is (I := I) hd
 refine .callP call81 r hw13 r r fun v14 hv15 => ?_
 obtain ⟨r12, rfl, hd⟩ := hv15
 refine .not r r r (.nilS [17, 1, 0] r r (.condP r hd (fun hb16 hd => ?_) fun hb16 hd => ?_))
 · exact .seq (.region (.skips 2 r (.nilS [5, 4] r r (.ret (pret results94 (.t r (.t r .n)) (.refl _) ⟨(([] : List Edge), 8), _, _, r, (.nil _ _ _), hd⟩)))))
 refine .skipS [1, 0] r r (.seq (.region (.skips 1 r (.nilS [6, 1, 0] r r (.seq (.region (.skips 1 r (.nilS [7, 6, 1, 0] r r (.seq ?_)))))))))
 refine .seq (.region (.skips 1 r (.nilS [8, 7, 6, 1, 0] r r (.block (.own0 eEdge 139 (.own0 eWide 87 (.loop hd (fun (s : (List Edge) × (List Wide) × Int) c w => match s with | (s2689, s2693, s2697) => ∃ I_ p2690 c2691 p2694 c2695, IH.le I I_ ∧ Ok ⟨145, [], none⟩ [(0, .int .i64 a0), (1, .slice p1 a1.length c2), (6, .slice p2690 s2689.length c2691), (7, .slice p2694 s2693.length c2695), (8, .int .i64 s2697)] c ∧ Sym w0 M I I_ [OwnSl eEdge 139 p2690 c2691 s2689, OwnSl eWide 87 p2694 c2695 s2693] w) (fun c w ho hs => ⟨I, _, _, _, _, (.refl _), ho.sub ⟨r, r, r, r, r, trivial⟩, hs.pick (.c (.s .z) (.c .z .n))⟩) ?_)))))))
 rintro ⟨s2689, s2693, s2697⟩ next2700 hd c w hst
 obtain ⟨I2701, p2690, c2691, p2694, c2695, hl2702, hok, hsym⟩ := hst
 have le2703 := IH.le.trans (.refl _) hl2702
 replace R3 := R3.mono hl2702
 refine Cod.at hok hsym (.seq (.seq (.region (.skips 2 r (.len underlying137 r r r r (.lt r r r r (.nilS [21, 8, 7, 6, 1, 0] r r (.condP r hd (fun hb2705 hd => ?_) fun hb2705 hd => ?_))))))))
 · refine .skipS [8, 7, 6, 1, 0] r r (.seq (.block (.seq (.region (.skips 1 r (.nilS [9, 8, 7, 6, 1, 0] r r (.seq ?_)))))))
   refine Cod.joinQ (σ := Int) hd (fun (s2856 : Int) c w => ∃ I_, IH.le I2701 I_ ∧ Ok ⟨145, [], none⟩ [(0, .int .i64 a0), (1, .slice p1 a1.length c2), (6, .slice p2690 s2689.length c2691), (7, .slice p2694 s2693.length c2695), (8, .int .i64 s2697), (9, .int .i64 s2856)] c ∧ Sym w0 M I I_ [OwnSl eEdge 139 p2690 c2691 s2689, OwnSl eWide 87 p2694 c2695 s2693] w) (fun k2857 hd => ?_) ?_
   · skip
     refine .block (.loop hd (fun (s2905 : Int) c w => ∃ I_, IH.le I2701 I_ ∧ Ok ⟨145, [], none⟩ [(0, .int .i64 a0), (1, .slice p1 a1.length c2), (6, .slice p2690 s2689.length c2691), (7, .slice p2694 s2693.length c2695), (8, .int .i64 s2697), (9, .int .i64 s2905)] c ∧ Sym w0 M I I_ [OwnSl eEdge 139 p2690 c2691 s2689, OwnSl eWide 87 p2694 c2695 s2693] w) (fun c w ho hs => ⟨I2701, (.refl _), ho.sub ⟨r, r, r, r, r, r, trivial⟩, hs.pick (.c .z (.c .z .n))⟩) ?_)
     rintro s2905 next2906 hd c w hst
     obtain ⟨I2907, hl2908, hok, hsym⟩ := hst
     have le2909 := IH.le.trans le2703 hl2908
     have le2910 := IH.le.trans (.refl _) hl2908
     replace R3 := R3.mono hl2908
     refine Cod.at hok hsym (.seq (.seq (.ownF .z fun hne2911 => ?_)))
     refine .ownF (.s .z) fun hne2912 => ?_
     refine .draw [some 0, some 1, some 2, some 3, some 4, some 5, some 6, some 7, some 8, some 9, some 10, some 11, some 12, some 13, some 14] 15 MX (by kernel_rfl) (by kernel_rfl) (by kernel_rfl) (by kernel_rfl) (by kernel_rfl) (by kernel_rfl) (by kernel_rfl) (fun ex => (OwnSl eEdge 139 p2690 c2691 s2689) :: (OwnSl eWide 87 p2694 c2695 s2693) :: ex) (fun _ _ => (.s (.s .z))) r (.fs [[], []] r (by kernel_rfl) (.f [1] r (by kernel_rfl) r r (fun ex => .len underlying137 r r r r .mk) (.f [0, 2] r (by kernel_rfl) r r (fun ex => .lt r r r r .mk) (.fs [[3]] r (by kernel_rfl) ?_))))
     refine splitP hd (fun hb2913 hd => ?_) fun hb2913 hd => ?_
     · refine .f [4] r (by kernel_rfl) r r (fun ex => .gyes r r hb2913 (.move r r r .mk)) (.f [4] r (by kernel_rfl) r r (fun ex => .gyes r r hb2913 (.move r r r .mk)) ?_)
       obtain ⟨h2914, x2915, hx2916, hd⟩ := hd
       obtain ⟨b2917, e2918⟩ := hne2911 (idx_ne hx2916)
       cases e2918
       refine .f [5, 6, 4] r (by kernel_rfl) r r (fun ex => .gyes r r hb2913 (.ixa0 underlying137 sizeOf139 r r h2914 (idx_lt hx2916 h2914) r r .mk)) (.f [7, 4] r (by kernel_rfl) r r (fun ex => .gyes r r hb2913 (.loA (j := 0) isAgg139 sizeOf139 .z hx2916 r r (.t (.t (.t .nil))) r r r .mk)) (.f [4] r (by kernel_rfl) r r (fun ex => .gyes r r hb2913 (.move r r r .mk)) (.f [4] r (by kernel_rfl) r r (fun ex => .gyes r r hb2913 (.move r r r .mk)) ?_)))
       obtain ⟨h2919, x2920, hx2921, hd⟩ := hd
       obtain ⟨b2922, o2923, cs2924, e2925, hC2926, hr2927⟩ := R3.2 _ _ hx2921
       cases hr2927
       refine .f [9, 10, 4] r (by kernel_rfl) r r (fun ex => .gyes r r hb2913 (.ixa underlying137 sizeOf139 r e2925 r h2919 (idx_lt hx2921 h2919) r r .mk)) (.f [11, 4] r (by kernel_rfl) r r (fun ex => .gyes r r hb2913 (.ldW isAgg139 sizeOf139 hC2926 r r r r .mk)) (.w [] [[], [12], [11, 12], [11, 12], [], [8], [7, 8], [7, 8], [], [4], [3, 4], [2, 3, 4], [3, 4]] [8, 12, 4, 4] r (by kernel_rfl) (by kernel_rfl) (by kernel_rfl) ((dropE_kept r r)) (.inr (dropE_kept r r)) fun ex => ?_))
       have hw2929 := W_ref05_below (I := I2907) hd
       refine .gyes r r hb2913 (.callP call144 r hw2929 r r fun v2930 hv2931 => ?_)
       obtain ⟨r2928, rfl, hd⟩ := hv2931
       refine .some (fun ex => (OwnSl eEdge 139 (some ⟨b2917, 0, none⟩) c2691 s2689) :: (OwnSl eWide 87 p2694 c2695 s2693) :: ex) r (fun _ _ => (.s (.s .z))) r trivial (.f [4, 13] r (by kernel_rfl) r r (fun ex => .pickT r hb2913 r r r .mk) (.e 15 (by kernel_rfl) (by kernel_rfl) (by kernel_rfl) (.nilS [38, 9, 8, 7, 6, 1, 0] r r (.condP r hd (fun hb2932 hd => ?_) fun hb2932 hd => ?_))))
       · exact .skipS [9, 8, 7, 6, 1, 0] r r (.block (.region (.skips 1 r (.add r r r r (.sub (E' := [(0, _), (1, _), (6, _), (7, _), (8, _), (39, _), (40, _)]) ⟨r, r, r, r, r, r, r, trivial⟩ (.skips 1 r (.nil' fun c w ho hs => ⟨(w64 (s2905 + 1)), hd, I2907, le2910, ho.sub ⟨r, r, r, r, r, r, trivial⟩, hs.pick (.c .z (.c .z .n))⟩)))))))
       exact .exit fun c w ho hs => ⟨s2905, hd, I2907, le2910, ho.sub ⟨r, r, r, r, r, r, trivial⟩, hs.pick (.c .z (.c .z .n))⟩
     refine .f [4] r (by kernel_rfl) r r (fun ex => .gno r r hb2913 r r .mk) (.f [4] r (by kernel_rfl) r r (fun ex => .gno r r hb2913 r r .mk) (.f [5, 6, 4] r (by kernel_rfl) r r (fun ex => .gno r r hb2913 r r .mk) (.f [7, 4] r (by kernel_rfl) r r (fun ex => .gno r r hb2913 r r .mk) (.f [4] r (by kernel_rfl) r r (fun ex => .gno r r hb2913 r r .mk) (.f [4] r (by kernel_rfl) r r (fun ex => .gno r r hb2913 r r .mk) (.f [9, 10, 4] r (by kernel_rfl) r r (fun ex => .gno r r hb2913 r r .mk) (.f [11, 4] r (by kernel_rfl) r r (fun ex => .gno r r hb2913 r r .mk) (.f [8, 12, 4, 4] r (by kernel_rfl) r r (fun ex => .gno r r hb2913 r r .mk) (.f [4, 13] r (by kernel_rfl) r r (fun ex => .pickF r hb2913 r r r .mk) ?_)))))))))
     exact .e 15 (by kernel_rfl) (by kernel_rfl) (by kernel_rfl) (.nilS [38, 9, 8, 7, 6, 1, 0] r r (.condKF r r (.exit fun c w ho hs => ⟨s2905, hd, I2907, le2910, ho.sub ⟨r, r, r, r, r, r, trivial⟩, hs.pick (.c .z (.c .z .n))⟩)))
   rintro s2856 hd c w hst
   obtain ⟨I2933, hl2934, hok, hsym⟩ := hst
   have le2935 := IH.le.trans le2703 hl2934
   have le2936 := IH.le.trans (.refl _) hl2934
   replace R3 := R3.mono hl2934
   refine Cod.at hok hsym (.seq (.region (.skips 2 r ?_)))
   obtain ⟨h2952, x2953, hx2954, hd⟩ := hd
   obtain ⟨b2955, o2956, cs2957, e2958, hC2959, hr2960⟩ := R3.2 _ _ hx2954
   cases hr2960
   refine .ixa underlying137 sizeOf139 r e2958 r h2952 (idx_lt hx2954 h2952) r r (.fieldAddr underlying139 r sizeOf2 r (o := o2956 + s2697.toNat * 3 + 2) r r r (.ld1 (j := 2) isAgg2 hC2959 r r r r r ?_))
   have hw2962 := W_ref01_Of (I := I2933) hd
   refine .callP call133 r hw2962 r r fun v2963 hv2964 => ?_
   obtain ⟨r2961, rfl, hd⟩ := hv2964
   refine .allocA zeroValue87 r r fun b2965 => ?_
   refine .storeA sizeOf87 r r .z (.t (.t .nil)) r r (.nilS [10, 9, 8, 7, 6, 1, 0] r r (.seq (.seq ?_)))
   refine Cod.joinQ (σ := Bool) hd (fun (s3094 : Bool) c w => ∃ I_, IH.le I2933 I_ ∧ Ok ⟨145, [], none⟩ [(0, .int .i64 a0), (1, .slice p1 a1.length c2), (6, .slice p2690 s2689.length c2691), (7, .slice p2694 s2693.length c2695), (8, .int .i64 s2697), (9, .int .i64 s2856), (10, .pointer (some ⟨b2965, 0, none⟩)), (62, .bool s3094)] c ∧ Sym w0 M I I_ [OwnSl eEdge 139 p2690 c2691 s2689, OwnSl eWide 87 p2694 c2695 s2693, pto b2965 (.cells #[.int .i64 r2961.Hi, .int .u64 r2961.Lo] 87 (0, 0))] w) (fun k3095 hd => ?_) ?_
   · skip
     refine .ownF (.s .z) fun hne3096 => ?_
     refine .ownF (.s (.s .z)) fun hne3097 => ?_
     refine .draw [some 0, some 1, some 2, some 3, some 4, some 5, some 6, some 7, some 8, some 9, some 10, some 11, some 12, some 13, some 14, some 15] 16 MX (by kernel_rfl) (by kernel_rfl) (by kernel_rfl) (by kernel_rfl) (by kernel_rfl) (by kernel_rfl) (by kernel_rfl) (fun ex => (pto b2965 (.cells #[.int .i64 r2961.Hi, .int .u64 r2961.Lo] 87 (0, 0))) :: (OwnSl eEdge 139 p2690 c2691 s2689) :: (OwnSl eWide 87 p2694 c2695 s2693) :: ex) (fun _ _ => (.s (.s (.s .z)))) r (.fs [[], []] r (by kernel_rfl) (.f [1] r (by kernel_rfl) r r (fun ex => .len underlying137 r r r r .mk) (.f [0, 2] r (by kernel_rfl) r r (fun ex => .lt r r r r .mk) (.fs [[3]] r (by kernel_rfl) ?_))))
     refine splitP hd (fun hb3098 hd => ?_) fun hb3098 hd => ?_
     · refine .f [4] r (by kernel_rfl) r r (fun ex => .gyes r r hb3098 (.move r r r .mk)) (.f [4] r (by kernel_rfl) r r (fun ex => .gyes r r hb3098 (.move r r r .mk)) ?_)
       obtain ⟨h3099, x3100, hx3101, hd⟩ := hd
       obtain ⟨b3102, o3103, cs3104, e3105, hC3106, hr3107⟩ := R3.2 _ _ hx3101
       cases hr3107
       refine .f [5, 6, 4] r (by kernel_rfl) r r (fun ex => .gyes r r hb3098 (.ixa underlying137 sizeOf139 r e3105 r h3099 (idx_lt hx3101 h3099) r r .mk)) (.f [7, 4] r (by kernel_rfl) r r (fun ex => .gyes r r hb3098 (.ldW isAgg139 sizeOf139 hC3106 r r r r .mk)) (.f [4] r (by kernel_rfl) r r (fun ex => .gyes r r hb3098 (.move r r r .mk)) (.f [4] r (by kernel_rfl) r r (fun ex => .gyes r r hb3098 (.move r r r .mk)) ?_)))
       obtain ⟨h3108, x3109, hx3110, hd⟩ := hd
       obtain ⟨b3111, e3112⟩ := hne3096 (idx_ne hx3110)
       cases e3112
       refine .f [9, 10, 4] r (by kernel_rfl) r r (fun ex => .gyes r r hb3098 (.ixa0 underlying137 sizeOf139 r r h3108 (idx_lt hx3110 h3108) r r .mk)) (.f [11, 4] r (by kernel_rfl) r r (fun ex => .gyes r r hb3098 (.loA (j := 0) isAgg139 sizeOf139 (.s .z) hx3110 r r (.t (.t (.t .nil))) r r r .mk)) (.w [] [[], [12], [11, 12], [11, 12], [], [8], [7, 8], [7, 8], [], [4], [3, 4], [2, 3, 4], [3, 4]] [8, 12, 4, 4] r (by kernel_rfl) (by kernel_rfl) (by kernel_rfl) ((dropE_kept r r)) (.inr (dropE_kept r r)) fun ex => ?_))
       have hw3114 := W_ref05_below (I := I2933) hd
       refine .gyes r r hb3098 (.callP call144 r hw3114 r r fun v3115 hv3116 => ?_)
       obtain ⟨r3113, rfl, hd⟩ := hv3116
       exact .some (fun ex => (pto b2965 (.cells #[.int .i64 r2961.Hi, .int .u64 r2961.Lo] 87 (0, 0))) :: (OwnSl eEdge 139 (some ⟨b3111, 0, none⟩) c2691 s2689) :: (OwnSl eWide 87 p2694 c2695 s2693) :: ex) r (fun _ _ => (.s (.s (.s .z)))) r trivial (.f [13, 4] r (by kernel_rfl) r r (fun ex => .gyes r r hb3098 (.not r r r .mk)) (.f [4, 14] r (by kernel_rfl) r r (fun ex => .pickT r hb3098 r r r .mk) (.e 16 (by kernel_rfl) (by kernel_rfl) (by kernel_rfl) (.nil' fun c w ho hs => ⟨(!r3113), hd, I2933, (.refl _), ho.sub ⟨r, r, r, r, r, r, r, r, trivial⟩, hs.pick (.c (.s .z) (.c (.s .z) (.c .z .n)))⟩))))
     refine .f [4] r (by kernel_rfl) r r (fun ex => .gno r r hb3098 r r .mk) (.f [4] r (by kernel_rfl) r r (fun ex => .gno r r hb3098 r r .mk) (.f [5, 6, 4] r (by kernel_rfl) r r (fun ex => .gno r r hb3098 r r .mk) (.f [7, 4] r (by kernel_rfl) r r (fun ex => .gno r r hb3098 r r .mk) (.f [4] r (by kernel_rfl) r r (fun ex => .gno r r hb3098 r r .mk) (.f [4] r (by kernel_rfl) r r (fun ex => .gno r r hb3098 r r .mk) (.f [9, 10, 4] r (by kernel_rfl) r r (fun ex => .gno r r hb3098 r r .mk) (.f [11, 4] r (by kernel_rfl) r r (fun ex => .gno r r hb3098 r r .mk) (.f [8, 12, 4, 4] r (by kernel_rfl) r r (fun ex => .gno r r hb3098 r r .mk) (.f [13, 4] r (by kernel_rfl) r r (fun ex => .gno r r hb3098 r r .mk) ?_)))))))))
     exact .f [4, 14] r (by kernel_rfl) r r (fun ex => .pickF r hb3098 r r r .mk) (.e 16 (by kernel_rfl) (by kernel_rfl) (by kernel_rfl) (.nil' fun c w ho hs => ⟨false, hd, I2933, (.refl _), ho.sub ⟨r, r, r, r, r, r, r, r, trivial⟩, hs.pick (.c (.s .z) (.c (.s .z) (.c .z .n)))⟩))
   rintro s3094 hd c w hst
   obtain ⟨I3117, hl3118, hok, hsym⟩ := hst
   have le3119 := IH.le.trans le2935 hl3118
   have le3120 := IH.le.trans le2936 hl3118
   have le3121 := IH.le.trans (.refl _) hl3118
   replace R3 := R3.mono hl3118
   refine Cod.at hok hsym (.condP r hd (fun hb3122 hd => ?_) fun hb3122 hd => ?_)
   · refine .seq (.ownF .z fun hne3123 => ?_)
     refine .ownF (.s .z) fun hne3124 => ?_
     refine .draw [some 0, some 1, some 2, some 3, some 4, some 5, some 6, some 7, some 8] 9 MX (by kernel_rfl) (by kernel_rfl) (by kernel_rfl) (by kernel_rfl) (by kernel_rfl) (by kernel_rfl) (by kernel_rfl) (fun ex => (OwnSl eEdge 139 p2690 c2691 s2689) :: (OwnSl eWide 87 p2694 c2695 s2693) :: (pto b2965 (.cells #[.int .i64 r2961.Hi, .int .u64 r2961.Lo] 87 (0, 0))) :: ex) (fun _ _ => (.s (.s (.s .z)))) r (.fs [[], [], [], [], []] r (by kernel_rfl) ?_)
     obtain ⟨h3125, x3126, hx3127, hd⟩ := hd
     obtain ⟨b3128, e3129⟩ := hne3124 (idx_ne hx3127)
     cases e3129
     refine .f [3, 4] r (by kernel_rfl) r r (fun ex => .ixa0 underlying176 sizeOf87 r r h3125 (idx_lt hx3127 h3125) r r .mk) (.f [5] r (by kernel_rfl) r r (fun ex => .loA (j := 0) isAgg87 sizeOf87 (.s .z) hx3127 r r (.t (.t .nil)) r r r .mk) (.f [] r (by kernel_rfl) r r (fun ex => .loadW isAgg87 sizeOf87 r (.s (.s .z)) r r r .mk) (.w [1, 0] [[], [], [6], [5, 6], [5, 6], []] [2, 6, 7] r (by kernel_rfl) (by kernel_rfl) (by kernel_rfl) ((dropE_kept r r)) (.inr (dropE_kept r r)) fun ex => ?_)))
     have hw3131 := W_ref02_Add (I := I3117) hd
     refine .callP call85 r hw3131 r r fun v3132 hv3133 => ?_
     obtain ⟨r3130, rfl, hd⟩ := hv3133
     refine .some (fun ex => (OwnSl eEdge 139 p2690 c2691 s2689) :: (OwnSl eWide 87 (some ⟨b3128, 0, none⟩) c2695 s2693) :: (pto b2965 (.cells #[.int .i64 r2961.Hi, .int .u64 r2961.Lo] 87 (0, 0))) :: ex) r (fun _ _ => (.s (.s (.s .z)))) r (.ccs [[], []] r r (by kernel_rfl) trivial) (.e 9 (by kernel_rfl) (by kernel_rfl) (by kernel_rfl) ?_)
     obtain ⟨h3134, x3135, hx3136, hd⟩ := hd
     refine .ixa0 underlying176 sizeOf87 r r h3134 (idx_lt hx3136 h3134) r r (.stOA (j := 0) (v' := r3130) sizeOf87 (.s .z) hx3136 r r r (.t (.t .nil)) r r (.sub (E' := [(0, _), (1, _), (6, _), (7, .slice (some ⟨b3128, 0, none⟩) (s2693.set s2856.toNat r3130).length c2695), (8, _), (9, _), (10, _), (62, _), (63, .slice (some ⟨b3128, 0, none⟩) (s2693.set s2856.toNat r3130).length c2695), (64, _), (65, _), (66, .slice (some ⟨b3128, 0, none⟩) (s2693.set s2856.toNat r3130).length c2695), (67, _), (68, _), (69, _), (70, _), (71, _), (72, _)]) ⟨r, r, r, (by simp only [List.length_set]; rfl), r, r, r, r, (by simp only [List.length_set]; rfl), r, r, (by simp only [List.length_set]; rfl), r, r, r, r, r, r, trivial⟩ (.nilS [8, 7, 6, 1, 0] r r (.drop (.s (.s .z)) (.exitS [8, 7, 6, 1, 0] r r (.region (.skips 1 r (.add r r r r (.sub (E' := [(0, _), (1, _), (6, _), (7, _), (22, _), (23, _)]) ⟨r, r, r, r, r, r, trivial⟩ ?_)))))))))
     exact .skips 1 r (.nil' fun c w ho hs => ⟨(s2689, (s2693.set s2856.toNat r3130), w64 (s2697 + 1)), hd, I3117, _, _, _, _, le3119, ho.sub ⟨r, r, r, r, r, trivial⟩, hs.pick (.c .z (.c .z .n))⟩)
   refine .skipS [10, 9, 8, 7, 6, 1, 0] r r (.seq (.region (.skips 1 r (.build zeroValue139 underlying139 BI139 .n (by exact trivial) r r (.buildSlice 1 underlying137 sizeOf139 zeroValue139 r r (.c r r r .n) r r fun b3143 => ?_)))))
   obtain ⟨hl3145, hd⟩ := hd
   refine .append (ys := [({ From := 0, To := 0, W := 0 } : Edge)]) 24 (.s .z) underlying137 underlying137 IN139 r r r r r r r r r (.box .z (.one r) r) hl3145 r r fun p3146 c3147 => ?_
   refine .sub (E' := [(0, _), (1, _), (7, _), (8, _), (9, _), (10, _), (73, _), (74, _), (75, _), (76, _)]) ⟨r, r, r, r, r, r, r, r, r, r, trivial⟩ (.skips 1 r (.nilS [6, 10, 9, 8, 7, 1, 0] r r (.drop (.s .z) (.seq (.region (.skips 1 r (.build zeroValue87 underlying87 BI87 .n (by exact trivial) r r (.buildSlice 1 underlying176 sizeOf87 zeroValue87 r r (.c r r r .n) r r fun b3155 => ?_))))))))
   obtain ⟨hl3157, hd⟩ := hd
   refine .append (ys := [({ Hi := 0, Lo := 0 } : Wide)]) 16 (.s (.s .z)) underlying176 underlying176 IN87 r r r r r r r r r (.box .z (.one r) r) hl3157 r r fun p3158 c3159 => ?_
   refine .sub (E' := [(0, _), (1, _), (8, _), (9, _), (10, _), (6, _), (77, _), (78, _), (79, _), (80, _)]) ⟨r, r, r, r, r, r, r, r, r, r, trivial⟩ (.skips 1 r (.nilS [7, 6, 10, 9, 8, 1, 0] r r (.drop (.s .z) (.seq (.seq (.region (.skips 1 r (.len underlying137 r r r r (.sub' r r r r ?_)))))))))
   refine .skips 1 r (.nilS [11, 7, 6, 10, 9, 8, 1, 0] r r (.block (.loop hd (fun (s : (List Edge) × (List Wide) × Int) c w => match s with | (s3321, s3325, s3329) => ∃ I_ p3322 c3323 p3326 c3327, IH.le I3117 I_ ∧ Ok ⟨145, [], none⟩ [(0, .int .i64 a0), (1, .slice p1 a1.length c2), (6, .slice p3322 s3321.length c3323), (7, .slice p3326 s3325.length c3327), (8, .int .i64 s2697), (9, .int .i64 s2856), (10, .pointer (some ⟨b2965, 0, none⟩)), (11, .int .i64 s3329)] c ∧ Sym w0 M I I_ [OwnSl eEdge 139 p3322 c3323 s3321, OwnSl eWide 87 p3326 c3327 s3325, pto b2965 (.cells #[.int .i64 r2961.Hi, .int .u64 r2961.Lo] 87 (0, 0))] w) (fun c w ho hs => ⟨I3117, _, _, _, _, (.refl _), ho.sub ⟨r, r, r, r, r, r, r, r, trivial⟩, hs.pick (.c (.s .z) (.c .z (.c .z .n)))⟩) ?_)))
   rintro ⟨s3321, s3325, s3329⟩ next3330 hd c w hst
   obtain ⟨I3331, p3322, c3323, p3326, c3327, hl3332, hok, hsym⟩ := hst
   have le3333 := IH.le.trans le3119 hl3332
   have le3334 := IH.le.trans le3120 hl3332
   have le3335 := IH.le.trans le3121 hl3332
   have le3336 := IH.le.trans (.refl _) hl3332
   replace R3 := R3.mono hl3332
   refine Cod.at hok hsym (.seq (.seq (.region (.skips 2 r (.gt r r r r (.nilS [86, 11, 10, 9, 8, 7, 6, 1, 0] r r (.condP r hd (fun hb3338 hd => ?_) fun hb3338 hd => ?_)))))))
   · refine .skipS [11, 10, 9, 8, 7, 6, 1, 0] r r (.seq (.block (.seq (.region (.skips 4 r (.sub' r r r r ?_))))))
     obtain ⟨h3339, x3340, hx3341, hd⟩ := hd
     refine .ownNe .z (idx_ne hx3341) fun b3342 e3343 => ?_
     cases e3343
     refine .ixa0 underlying137 sizeOf139 r r h3339 (idx_lt hx3341 h3339) r r (.loA (j := 0) isAgg139 sizeOf139 .z hx3341 r r (.t (.t (.t .nil))) r r r ?_)
     obtain ⟨h3344, x3345, hx3346, hd⟩ := hd
     refine .ixa0 underlying137 sizeOf139 r r h3344 (idx_lt hx3346 h3344) r r (.stOA (j := 0) (v' := x3340) sizeOf139 .z hx3346 r r r (.t (.t (.t .nil))) r r (.sub (E' := [(0, _), (1, _), (6, .slice (some ⟨b3342, 0, none⟩) (s3321.set s3329.toNat x3340).length c3323), (7, _), (8, _), (9, _), (10, _), (11, _), (89, .slice (some ⟨b3342, 0, none⟩) (s3321.set s3329.toNat x3340).length c3323), (90, _), (91, .slice (some ⟨b3342, 0, none⟩) (s3321.set s3329.toNat x3340).length c3323), (92, _), (93, _), (94, _), (95, _), (96, _)]) ⟨r, r, (by simp only [List.length_set]; rfl), r, r, r, r, r, (by simp only [List.length_set]; rfl), r, (by simp only [List.length_set]; rfl), r, r, r, r, r, trivial⟩ (.nilS [11, 10, 9, 8, 7, 6, 1, 0] r r (.region (.skips 4 r (.sub' r r r r ?_))))))
     obtain ⟨h3347, x3348, hx3349, hd⟩ := hd
     refine .ownNe (.s .z) (idx_ne hx3349) fun b3350 e3351 => ?_
     cases e3351
     refine .ixa0 underlying176 sizeOf87 r r h3347 (idx_lt hx3349 h3347) r r (.loA (j := 0) isAgg87 sizeOf87 (.s .z) hx3349 r r (.t (.t .nil)) r r r ?_)
     obtain ⟨h3352, x3353, hx3354, hd⟩ := hd
     exact .ixa0 underlying176 sizeOf87 r r h3352 (idx_lt hx3354 h3352) r r (.stOA (j := 0) (v' := x3348) sizeOf87 (.s .z) hx3354 r r r (.t (.t .nil)) r r (.sub (E' := [(0, _), (1, _), (6, _), (7, .slice (some ⟨b3350, 0, none⟩) (s3325.set s3329.toNat x3348).length c3327), (8, _), (9, _), (10, _), (11, _), (97, .slice (some ⟨b3350, 0, none⟩) (s3325.set s3329.toNat x3348).length c3327), (98, _), (99, .slice (some ⟨b3350, 0, none⟩) (s3325.set s3329.toNat x3348).length c3327), (100, _), (101, _), (102, _), (103, _), (104, _)]) ⟨r, r, r, (by simp only [List.length_set]; rfl), r, r, r, r, (by simp only [List.length_set]; rfl), r, (by simp only [List.length_set]; rfl), r, r, r, r, r, trivial⟩ (.nilS [11, 10, 9, 8, 7, 6, 1, 0] r r (.region (.skips 1 r (.sub' r r r r (.sub (E' := [(0, _), (1, _), (6, _), (7, _), (8, _), (9, _), (10, _), (87, _), (88, _)]) ⟨r, r, r, r, r, r, r, r, r, trivial⟩ (.skips 1 r (.nil' fun c w ho hs => ⟨((s3321.set s3329.toNat x3340), (s3325.set s3329.toNat x3348), w64 (s3329 - 1)), hd, I3331, _, _, _, _, le3336, ho.sub ⟨r, r, r, r, r, r, r, r, trivial⟩, hs.pick (.c .z (.c .z (.c .z .n)))⟩)))))))))
   refine .exitS [10, 9, 8, 7, 6, 1, 0] r r (.seq (.ownF .z fun hne3355 => ?_))
   refine .ownF (.s .z) fun hne3356 => ?_
   refine .draw [some 0, some 1, some 2, some 3, some 4, some 5, some 6, some 7, some 8, some 9, some 10, some 11, some 12] 13 MX (by kernel_rfl) (by kernel_rfl) (by kernel_rfl) (by kernel_rfl) (by kernel_rfl) (by kernel_rfl) (by kernel_rfl) (fun ex => (OwnSl eEdge 139 p3322 c3323 s3321) :: (OwnSl eWide 87 p3326 c3327 s3325) :: (pto b2965 (.cells #[.int .i64 r2961.Hi, .int .u64 r2961.Lo] 87 (0, 0))) :: ex) (fun _ _ => (.s (.s (.s .z)))) r (.fs [[], [], [], []] r (by kernel_rfl) ?_)
   obtain ⟨h3357, x3358, hx3359, hd⟩ := hd
   obtain ⟨b3360, o3361, cs3362, e3363, hC3364, hr3365⟩ := R3.2 _ _ hx3359
   cases hr3365
   refine .f [2, 3] r (by kernel_rfl) r r (fun ex => .ixa underlying137 sizeOf139 r e3363 r h3357 (idx_lt hx3359 h3357) r r .mk) (.f [4] r (by kernel_rfl) r r (fun ex => .fieldAddr underlying139 r sizeOf3 r (o := o3361 + s2697.toNat * 3) r r r .mk) (.f [5] r (by kernel_rfl) r r (fun ex => .ld1 (j := 0) isAgg3 hC3364 r r r r r .mk) (.fs [[], []] r (by kernel_rfl) ?_)))
   obtain ⟨h3366, x3367, hx3368, hd⟩ := hd
   obtain ⟨b3369, o3370, cs3371, e3372, hC3373, hr3374⟩ := R3.2 _ _ hx3368
   cases hr3374
   refine .f [7, 8] r (by kernel_rfl) r r (fun ex => .ixa underlying137 sizeOf139 r e3372 r h3366 (idx_lt hx3368 h3366) r r .mk) (.f [9] r (by kernel_rfl) r r (fun ex => .fieldAddr underlying139 r sizeOf3 r (o := o3370 + s2697.toNat * 3 + 1) r r r .mk) (.f [10] r (by kernel_rfl) r r (fun ex => .ld1 (j := 1) isAgg3 hC3373 r r r r r .mk) (.f [6, 11] r (by kernel_rfl) r r (fun ex => .build zeroValue139 underlying139 BI139 (.c r r r (.t .nil) (.c r r r (.s (.t .nil)) .n)) (by exact ⟨⟨_, _, r, r, r⟩, ⟨⟨_, _, r, r, r⟩, trivial⟩⟩) r r .mk) (.e 13 (by kernel_rfl) (by kernel_rfl) (by kernel_rfl) ?_))))
   obtain ⟨h3375, x3376, hx3377, hd⟩ := hd
   obtain ⟨b3378, e3379⟩ := hne3355 (idx_ne hx3377)
   cases e3379
   refine .ixa0 underlying137 sizeOf139 r r h3375 (idx_lt hx3377 h3375) r r (.stOA (j := 0) (v' := ({ From := x3358.From, To := x3367.To, W := 0 } : Edge)) sizeOf139 .z hx3377 r r r (.t (.t (.t .nil))) r r (.sub (E' := [(0, _), (1, _), (6, .slice (some ⟨b3378, 0, none⟩) (s3321.set s2856.toNat ({ From := x3358.From, To := x3367.To, W := 0 } : Edge)).length c3323), (7, _), (8, _), (9, _), (10, _), (105, .slice (some ⟨b3378, 0, none⟩) (s3321.set s2856.toNat ({ From := x3358.From, To := x3367.To, W := 0 } : Edge)).length c3323), (106, _), (107, _), (108, _), (109, _), (110, _), (111, _), (112, _), (113, _), (114, _), (115, _), (116, _), (117, _), (118, _)]) ⟨r, r, (by simp only [List.length_set]; rfl), r, r, r, r, (by simp only [List.length_set]; rfl), r, r, r, r, r, r, r, r, r, r, r, r, r, trivial⟩ (.nilS [10, 9, 8, 7, 6, 1, 0] r r (.region (.skips 2 r (.loadW isAgg87 sizeOf87 r (.s (.s .z)) r r r ?_))))))
   obtain ⟨h3380, x3381, hx3382, hd⟩ := hd
   obtain ⟨b3383, e3384⟩ := hne3356 (idx_ne hx3382)
   cases e3384
   refine .ixa0 underlying176 sizeOf87 r r h3380 (idx_lt hx3382 h3380) r r (.stOA (j := 0) (v' := r2961) sizeOf87 (.s .z) hx3382 r r r (.t (.t .nil)) r r (.sub (E' := [(0, _), (1, _), (6, _), (7, .slice (some ⟨b3383, 0, none⟩) (s3325.set s2856.toNat r2961).length c3327), (8, _), (9, _), (10, _), (119, .slice (some ⟨b3383, 0, none⟩) (s3325.set s2856.toNat r2961).length c3327), (120, _), (121, _), (122, _)]) ⟨r, r, r, (by simp only [List.length_set]; rfl), r, r, r, (by simp only [List.length_set]; rfl), r, r, r, trivial⟩ (.nilS [8, 7, 6, 1, 0] r r (.drop (.s (.s .z)) (.region (.skips 1 r (.add r r r r (.sub (E' := [(0, _), (1, _), (6, _), (7, _), (22, _), (23, _)]) ⟨r, r, r, r, r, r, trivial⟩ (.skips 1 r ?_)))))))))
   exact .nil' fun c w ho hs => ⟨((s3321.set s2856.toNat ({ From := x3358.From, To := x3367.To, W := 0 } : Edge)), (s3325.set s2856.toNat r2961), w64 (s2697 + 1)), hd, I3331, _, _, _, _, le3333, ho.sub ⟨r, r, r, r, r, trivial⟩, hs.pick (.c .z (.c .z .n))⟩
 refine .exitS [7, 6] r r (.seq (.seq (.region (.skips 1 r (.nilS [12, 7, 6] r r (.block (.loop hd (fun (s : (List Edge) × Int) c w => match s with | (s3452, s3456) => ∃ I_ p3453 c3454, IH.le I2701 I_ ∧ Ok ⟨145, [], none⟩ [(6, .slice p3453 s3452.length c3454), (7, .slice p2694 s2693.length c2695), (12, .int .i64 s3456)] c ∧ Sym w0 M I I_ [OwnSl eEdge 139 p3453 c3454 s3452, OwnSl eWide 87 p2694 c2695 s2693] w) (fun c w ho hs => ⟨I2701, _, _, (.refl _), ho.sub ⟨r, r, r, trivial⟩, hs.pick (.c .z (.c .z .n))⟩) ?_)))))))
 rintro ⟨s3452, s3456⟩ next3457 hd c w hst
 obtain ⟨I3458, p3453, c3454, hl3459, hok, hsym⟩ := hst
 have le3460 := IH.le.trans le2703 hl3459
 have le3461 := IH.le.trans (.refl _) hl3459
 refine Cod.at hok hsym (.seq (.seq (.region (.skips 2 r (.len underlying137 r r r r (.lt r r r r (.nilS [126, 12, 7, 6] r r (.condP r hd (fun hb3463 hd => ?_) fun hb3463 hd => ?_))))))))
 · refine .skipS [12, 7, 6] r r (.seq (.block (.seq (.region (.skips 2 r ?_)))))
   obtain ⟨h3473, x3474, hx3475, hd⟩ := hd
   refine .ownNe (.s .z) (idx_ne hx3475) fun b3476 e3477 => ?_
   cases e3477
   refine .ixa0 underlying176 sizeOf87 r r h3473 (idx_lt hx3475 h3473) r r (.loA (j := 0) isAgg87 sizeOf87 (.s .z) hx3475 r r (.t (.t .nil)) r r r ?_)
   have hw3479 := W_ref01_Narrow (I := I3458) hd
   refine .callP call142 r hw3479 r r fun v3480 hv3481 => ?_
   obtain ⟨r3478, rfl, hd⟩ := hv3481
   refine .skips 1 r (.extract r r r r (.extract r r r r (.skips 2 r (.nilS [14, 13, 12, 7, 6] r r (.seq (.seq (.region (.skips 1 r (.not r r r ?_)))))))))
   refine .nilS [138, 13, 12, 7, 6] r r (.condP r hd (fun hb3482 hd => ?_) fun hb3482 hd => ?_)
   · exact .seq (.region (.skips 2 r (.nilS [5, 4] r r (.drop .z (.drop .z (.ret (pret results94 (.t r (.t r .n)) le3460 ⟨(([] : List Edge), 12), _, _, r, (.nil _ _ _), hd⟩)))))))
   refine .skipS [13, 12, 7, 6] r r (.region (.skips 3 r ?_))
   obtain ⟨h3483, x3484, hx3485, hd⟩ := hd
   refine .ownNe .z (idx_ne hx3485) fun b3486 e3487 => ?_
   cases e3487
   refine .ixa0 underlying137 sizeOf139 r r h3483 (idx_lt hx3485 h3483) r r (.fieldAddr underlying139 r sizeOf2 r (o := s3456.toNat * 3 + 2) r r r (.stO1 (j := 2) (v' := ({ From := x3484.From, To := x3484.To, W := r3478.1 } : Edge)) sizeOf2 .z hx3485 r r r (.s (.s (.t .nil))) r (.sub (E' := [(6, .slice (some ⟨b3486, 0, none⟩) (s3452.set s3456.toNat ({ From := x3484.From, To := x3484.To, W := r3478.1 } : Edge)).length c3454), (7, _), (12, _), (13, _), (139, .slice (some ⟨b3486, 0, none⟩) (s3452.set s3456.toNat ({ From := x3484.From, To := x3484.To, W := r3478.1 } : Edge)).length c3454), (140, _), (141, _), (142, _), (143, _)]) ⟨(by simp only [List.length_set]; rfl), r, r, r, (by simp only [List.length_set]; rfl), r, r, r, r, trivial⟩ (.nilS [12, 7, 6] r r (.region (.skips 1 r (.add r r r r (.sub (E' := [(6, _), (7, _), (127, _), (128, _)]) ⟨r, r, r, r, trivial⟩ (.skips 1 r ?_)))))))))
   exact .nil' fun c w ho hs => ⟨((s3452.set s3456.toNat ({ From := x3484.From, To := x3484.To, W := r3478.1 } : Edge)), w64 (s3456 + 1)), hd, I3458, _, _, le3461, ho.sub ⟨r, r, r, trivial⟩, hs.pick (.c .z (.c .z .n))⟩
 refine .exitS [6] r r (.drop (.s .z) (.seq (.region (.skips 3 r (.nilS [5, 4] r r (.pub .z fun I3488 hl3489 R3490 => ?_))))))
 have le3491 := IH.le.trans le3460 hl3489
 have le3492 := IH.le.trans le3461 hl3489
 exact .ret (pret results94 (.t r (.t r .n)) le3491 ⟨(s3452, 0), _, _, r, R3490, hd⟩)

theorem W_ref07_Of {I : IH} {a0 : Int} {a1 : Int} {a2 : Int} {a3 : List Triple} {p1 : Option Addr} {c2 : Nat} {Q : (Rows × Int) → Prop} (R3 : RepSl eTriple I p1 c2 a3) (hd : ref07_Of a0 a1 a2 a3 Q) :
    PFun Tryz.prog 44 [.int .i64 a0, .int .i64 a1, .int .i64 a2, .slice p1 a3.length c2] I (fun I_ v => ∃ r p4 c5 p7 c8 p10 c11, v = .tuple #[.agg #[.int .i64 r.1.Rows, .int .i64 r.1.Cols, .slice p4 r.1.Start.length c5, .slice p7 r.1.Col.length c8, .slice p10 r.1.Val.length c11], .int .i64 r.2] ∧ RepSl eI64 I_ p4 c5 r.1.Start ∧ RepSl eI64 I_ p7 c8 r.1.Col ∧ RepSl eI64 I_ p10 c11 r.1.Val ∧ Q r) := by
 refine Fun.enter func44 r ntmps44 r (.c (.c (.c (.c .n)))) fun w0 M => ?_
 refine .seq (.region (.allocA zeroValue35 r r fun b15 => ?_))
 refine .skips 1 r (.nilS [8, 3, 2, 1, 0] r r (.seq (.seq (.region (.skips 1 r ?_)))))
 have hw23 := W_ref02_Is (I := I) hd
 refine .callP call81 r hw23 r r fun v24 hv25 => ?_
 obtain ⟨r22, rfl, hd⟩ := hv25
 refine .not r r r (.nilS [17, 8, 3, 2, 1, 0] r r (.condP r hd (fun hb26 hd => ?_) fun hb26 hd => ?_))
 · exact .seq (.region (.build zeroValue35 underlying35 BI35 .n (by exact trivial) r r (.storeA sizeOf35 r r .z (.t (.t (.t (.t (.t .nil))))) r r (.skips 1 r (.nilS [9, 8] r r (.ret (pret results44 (.w isAgg35 sizeOf35 r .z r (.t r .n)) (.refl _) ⟨(({ Rows := 0, Cols := 0, Start := ([] : List Int), Col := ([] : List Int), Val := ([] : List Int) } : Rows), 8), _, _, _, _, _, _, r, (.nil _ _ _), (.nil _ _ _), (.nil _ _ _), hd⟩)))))))
 refine .skipS [8, 3, 2, 1, 0] r r (.seq (.seq (.region (.skips 1 r (.lt r r r r (.skips 1 r ?_))))))
 refine splitP hd (fun hb31 hd => ?_) fun hb31 hd => ?_
 · rw [hb31]
   exact .skips 11 r (.nilS [32, 8, 3, 2, 1, 0] r r (.condKT r r (.seq (.region (.build zeroValue35 underlying35 BI35 .n (by exact trivial) r r (.storeA sizeOf35 r r .z (.t (.t (.t (.t (.t .nil))))) r r (.skips 1 r (.nilS [9, 8] r r (.ret (pret results44 (.w isAgg35 sizeOf35 r .z r (.t r .n)) (.refl _) ⟨(({ Rows := 0, Cols := 0, Start := ([] : List Int), Col := ([] : List Int), Val := ([] : List Int) } : Rows), 3), _, _, _, _, _, _, r, (.nil _ _ _), (.nil _ _ _), (.nil _ _ _), hd⟩))))))))))
 rw [hb31]
 refine .gyes r r r (.move r r r (.gyes r r r (.gt r r r r (.skips 2 r ?_))))
 refine splitP hd (fun hb32 hd => ?_) fun hb32 hd => ?_
 · rw [hb32]
   exact .skips 7 r (.nilS [32, 8, 3, 2, 1, 0] r r (.condKT r r (.seq (.region (.build zeroValue35 underlying35 BI35 .n (by exact trivial) r r (.storeA sizeOf35 r r .z (.t (.t (.t (.t (.t .nil))))) r r (.skips 1 r (.nilS [9, 8] r r (.ret (pret results44 (.w isAgg35 sizeOf35 r .z r (.t r .n)) (.refl _) ⟨(({ Rows := 0, Cols := 0, Start := ([] : List Int), Col := ([] : List Int), Val := ([] : List Int) } : Rows), 3), _, _, _, _, _, _, r, (.nil _ _ _), (.nil _ _ _), (.nil _ _ _), hd⟩))))))))))
 rw [hb32]
 refine .gyes r r r (.move r r r (.gyes r r r (.lt r r r r (.skips 2 r ?_))))
 refine splitP hd (fun hb33 hd => ?_) fun hb33 hd => ?_
 · rw [hb33]
   exact .skips 3 r (.nilS [32, 8, 3, 2, 1, 0] r r (.condKT r r (.seq (.region (.build zeroValue35 underlying35 BI35 .n (by exact trivial) r r (.storeA sizeOf35 r r .z (.t (.t (.t (.t (.t .nil))))) r r (.skips 1 r (.nilS [9, 8] r r (.ret (pret results44 (.w isAgg35 sizeOf35 r .z r (.t r .n)) (.refl _) ⟨(({ Rows := 0, Cols := 0, Start := ([] : List Int), Col := ([] : List Int), Val := ([] : List Int) } : Rows), 3), _, _, _, _, _, _, r, (.nil _ _ _), (.nil _ _ _), (.nil _ _ _), hd⟩))))))))))
 rw [hb33]
 refine .gyes r r r (.move r r r (.gyes r r r (.gt r r r r (.skips 1 r (.nilS [32, 8, 3, 2, 1, 0] r r (.condP r hd (fun hb34 hd => ?_) fun hb34 hd => ?_))))))
 · exact .seq (.region (.build zeroValue35 underlying35 BI35 .n (by exact trivial) r r (.storeA sizeOf35 r r .z (.t (.t (.t (.t (.t .nil))))) r r (.skips 1 r (.nilS [9, 8] r r (.ret (pret results44 (.w isAgg35 sizeOf35 r .z r (.t r .n)) (.refl _) ⟨(({ Rows := 0, Cols := 0, Start := ([] : List Int), Col := ([] : List Int), Val := ([] : List Int) } : Rows), 3), _, _, _, _, _, _, r, (.nil _ _ _), (.nil _ _ _), (.nil _ _ _), hd⟩)))))))
 refine .skipS [8, 3, 2, 1, 0] r r (.seq (.seq (.region (.skips 1 r (.len underlying24 r r r r (.gt r r r r (.nilS [36, 8, 3, 2, 1, 0] r r (.condP r hd (fun hb36 hd => ?_) fun hb36 hd => ?_))))))))
 · exact .seq (.region (.build zeroValue35 underlying35 BI35 .n (by exact trivial) r r (.storeA sizeOf35 r r .z (.t (.t (.t (.t (.t .nil))))) r r (.skips 1 r (.nilS [9, 8] r r (.ret (pret results44 (.w isAgg35 sizeOf35 r .z r (.t r .n)) (.refl _) ⟨(({ Rows := 0, Cols := 0, Start := ([] : List Int), Col := ([] : List Int), Val := ([] : List Int) } : Rows), 5), _, _, _, _, _, _, r, (.nil _ _ _), (.nil _ _ _), (.nil _ _ _), hd⟩)))))))
 refine .skipS [8, 3, 2, 1, 0] r r (.seq (.region (.skips 1 r (.nilS [10, 8, 3, 2, 1, 0] r r (.seq (.seq (.region (.skips 1 r (.nilS [11, 10, 8, 3, 2, 1, 0] r r ?_)))))))))
 refine .block (.own0 eEdge 139 (.loop hd (fun (s : (List Edge) × Int) c w => match s with | (s657, s661) => ∃ I_ p658 c659, IH.le I I_ ∧ Ok ⟨135, [], none⟩ [(0, .int .i64 a0), (1, .int .i64 a1), (2, .int .i64 a2), (3, .slice p1 a3.length c2), (8, .pointer (some ⟨b15, 0, none⟩)), (10, .slice p658 s657.length c659), (11, .int .i64 s661)] c ∧ Sym w0 M I I_ [pto b15 (.cells #[.int .i64 0, .int .i64 0, .slice none 0 0, .slice none 0 0, .slice none 0 0] 35 (0, 0)), OwnSl eEdge 139 p658 c659 s657] w) (fun c w ho hs => ⟨I, _, _, (.refl _), ho.sub ⟨r, r, r, r, r, r, r, trivial⟩, hs.pick (.c (.s .z) (.c .z .n))⟩) ?_))
 rintro ⟨s657, s661⟩ next663 hd c w hst
 obtain ⟨I664, p658, c659, hl665, hok, hsym⟩ := hst
 have le666 := IH.le.trans (.refl _) hl665
 replace R3 := R3.mono hl665
 refine Cod.at hok hsym (.seq (.seq (.region (.skips 2 r (.len underlying24 r r r r (.lt r r r r (.nilS [41, 11, 10, 8, 3, 2, 1, 0] r r (.condP r hd (fun hb668 hd => ?_) fun hb668 hd => ?_))))))))
 · refine .skipS [11, 10, 8, 3, 2, 1, 0] r r (.seq (.block (.seq (.seq (.region (.skips 2 r ?_))))))
   obtain ⟨h709, x710, hx711, hd⟩ := hd
   obtain ⟨b712, o713, cs714, e715, hC716, hr717⟩ := R3.2 _ _ hx711
   cases hr717
   refine .ixa underlying24 sizeOf84 r e715 r h709 (idx_lt hx711 h709) r r (.fieldAddr underlying84 r sizeOf3 r (o := o713 + s661.toNat * 3) r r r (.ld1 (j := 0) isAgg3 hC716 r r r r r (.lt r r r r (.skips 1 r ?_))))
   refine splitP hd (fun hb718 hd => ?_) fun hb718 hd => ?_
   · rw [hb718]
     refine .skips 25 r (.nilS [75, 11, 10, 8, 3, 2, 1, 0] r r (.condKT r r (.seq (.region (.build zeroValue35 underlying35 BI35 .n (by exact trivial) r r (.storeA sizeOf35 r r .z (.t (.t (.t (.t (.t .nil))))) r r (.skips 1 r (.nilS [9, 8] r r (.drop (.s .z) ?_)))))))))
     exact .ret (pret results44 (.w isAgg35 sizeOf35 r .z r (.t r .n)) le666 ⟨(({ Rows := 0, Cols := 0, Start := ([] : List Int), Col := ([] : List Int), Val := ([] : List Int) } : Rows), 3), _, _, _, _, _, _, r, (.nil _ _ _), (.nil _ _ _), (.nil _ _ _), hd⟩)
   rw [hb718]
   refine .gyes r r r (.move r r r (.gyes r r r (.move r r r ?_)))
   obtain ⟨h719, x720, hx721, hd⟩ := hd
   obtain ⟨b722, o723, cs724, e725, hC726, hr727⟩ := R3.2 _ _ hx721
   cases hr727
   refine .gyes r r r (.ixa underlying24 sizeOf84 r e725 r h719 (idx_lt hx721 h719) r r (.gyes r r r (.fieldAddr underlying84 r sizeOf3 r (o := o723 + s661.toNat * 3) r r r (.gyes r r r (.ld1 (j := 0) isAgg3 hC726 r r r r r (.gyes r r r (.move r r r (.gyes r r r (.ge r r r r (.skips 2 r ?_))))))))))
   refine splitP hd (fun hb728 hd => ?_) fun hb728 hd => ?_
   · rw [hb728]
     refine .skips 16 r (.nilS [75, 11, 10, 8, 3, 2, 1, 0] r r (.condKT r r (.seq (.region (.build zeroValue35 underlying35 BI35 .n (by exact trivial) r r (.storeA sizeOf35 r r .z (.t (.t (.t (.t (.t .nil))))) r r (.skips 1 r (.nilS [9, 8] r r (.drop (.s .z) ?_)))))))))
     exact .ret (pret results44 (.w isAgg35 sizeOf35 r .z r (.t r .n)) le666 ⟨(({ Rows := 0, Cols := 0, Start := ([] : List Int), Col := ([] : List Int), Val := ([] : List Int) } : Rows), 3), _, _, _, _, _, _, r, (.nil _ _ _), (.nil _ _ _), (.nil _ _ _), hd⟩)
   rw [hb728]
   refine .gyes r r r (.move r r r (.gyes r r r (.move r r r ?_)))
   obtain ⟨h729, x730, hx731, hd⟩ := hd
   obtain ⟨b732, o733, cs734, e735, hC736, hr737⟩ := R3.2 _ _ hx731
   cases hr737
   refine .gyes r r r (.ixa underlying24 sizeOf84 r e735 r h729 (idx_lt hx731 h729) r r (.gyes r r r (.fieldAddr underlying84 r sizeOf3 r (o := o733 + s661.toNat * 3 + 1) r r r (.gyes r r r (.ld1 (j := 1) isAgg3 hC736 r r r r r (.gyes r r r (.lt r r r r (.skips 2 r ?_))))))))
   refine splitP hd (fun hb738 hd => ?_) fun hb738 hd => ?_
   · rw [hb738]
     refine .skips 8 r (.nilS [75, 11, 10, 8, 3, 2, 1, 0] r r (.condKT r r (.seq (.region (.build zeroValue35 underlying35 BI35 .n (by exact trivial) r r (.storeA sizeOf35 r r .z (.t (.t (.t (.t (.t .nil))))) r r (.skips 1 r (.nilS [9, 8] r r (.drop (.s .z) ?_)))))))))
     exact .ret (pret results44 (.w isAgg35 sizeOf35 r .z r (.t r .n)) le666 ⟨(({ Rows := 0, Cols := 0, Start := ([] : List Int), Col := ([] : List Int), Val := ([] : List Int) } : Rows), 3), _, _, _, _, _, _, r, (.nil _ _ _), (.nil _ _ _), (.nil _ _ _), hd⟩)
   rw [hb738]
   refine .gyes r r r (.move r r r (.gyes r r r (.move r r r ?_)))
   obtain ⟨h739, x740, hx741, hd⟩ := hd
   obtain ⟨b742, o743, cs744, e745, hC746, hr747⟩ := R3.2 _ _ hx741
   cases hr747
   refine .gyes r r r (.ixa underlying24 sizeOf84 r e745 r h739 (idx_lt hx741 h739) r r (.gyes r r r (.fieldAddr underlying84 r sizeOf3 r (o := o743 + s661.toNat * 3 + 1) r r r (.gyes r r r (.ld1 (j := 1) isAgg3 hC746 r r r r r (.gyes r r r (.move r r r (.gyes r r r (.ge r r r r (.skips 1 r (.nilS [75, 11, 10, 8, 3, 2, 1, 0] r r (.condP r hd (fun hb748 hd => ?_) fun hb748 hd => ?_))))))))))))
   · exact .seq (.region (.build zeroValue35 underlying35 BI35 .n (by exact trivial) r r (.storeA sizeOf35 r r .z (.t (.t (.t (.t (.t .nil))))) r r (.skips 1 r (.nilS [9, 8] r r (.drop (.s .z) (.ret (pret results44 (.w isAgg35 sizeOf35 r .z r (.t r .n)) le666 ⟨(({ Rows := 0, Cols := 0, Start := ([] : List Int), Col := ([] : List Int), Val := ([] : List Int) } : Rows), 3), _, _, _, _, _, _, r, (.nil _ _ _), (.nil _ _ _), (.nil _ _ _), hd⟩))))))))
   refine .skipS [11, 10, 8, 3, 2, 1, 0] r r (.ownF (.s .z) fun hne749 => ?_)
   refine .draw [some 0, some 1, some 2, some 3, some 4, some 5, some 6, some 7, some 8, some 9, some 10, some 11, some 12, some 13, some 14, some 15, some 16, some 17, some 18] 19 MX (by kernel_rfl) (by kernel_rfl) (by kernel_rfl) (by kernel_rfl) (by kernel_rfl) (by kernel_rfl) (by kernel_rfl) (fun ex => (pto b15 (.cells #[.int .i64 0, .int .i64 0, .slice none 0 0, .slice none 0 0, .slice none 0 0] 35 (0, 0))) :: (OwnSl eEdge 139 p658 c659 s657) :: ex) (fun _ _ => (.s (.s .z))) r (.fs [[], [], []] r (by kernel_rfl) ?_)
   obtain ⟨h750, x751, hx752, hd⟩ := hd
   obtain ⟨b753, o754, cs755, e756, hC757, hr758⟩ := R3.2 _ _ hx752
   cases hr758
   refine .f [1, 2] r (by kernel_rfl) r r (fun ex => .ixa underlying24 sizeOf84 r e756 r h750 (idx_lt hx752 h750) r r .mk) (.f [3] r (by kernel_rfl) r r (fun ex => .fieldAddr underlying84 r sizeOf3 r (o := o754 + s661.toNat * 3) r r r .mk) (.f [4] r (by kernel_rfl) r r (fun ex => .ld1 (j := 0) isAgg3 hC757 r r r r r .mk) (.fs [[], []] r (by kernel_rfl) ?_)))
   obtain ⟨h759, x760, hx761, hd⟩ := hd
   obtain ⟨b762, o763, cs764, e765, hC766, hr767⟩ := R3.2 _ _ hx761
   cases hr767
   refine .f [6, 7] r (by kernel_rfl) r r (fun ex => .ixa underlying24 sizeOf84 r e765 r h759 (idx_lt hx761 h759) r r .mk) (.f [8] r (by kernel_rfl) r r (fun ex => .fieldAddr underlying84 r sizeOf3 r (o := o763 + s661.toNat * 3 + 1) r r r .mk) (.f [9] r (by kernel_rfl) r r (fun ex => .ld1 (j := 1) isAgg3 hC766 r r r r r .mk) (.fs [[], []] r (by kernel_rfl) ?_)))
   obtain ⟨h768, x769, hx770, hd⟩ := hd
   obtain ⟨b771, o772, cs773, e774, hC775, hr776⟩ := R3.2 _ _ hx770
   cases hr776
   refine .f [11, 12] r (by kernel_rfl) r r (fun ex => .ixa underlying24 sizeOf84 r e774 r h768 (idx_lt hx770 h768) r r .mk) (.f [13] r (by kernel_rfl) r r (fun ex => .fieldAddr underlying84 r sizeOf2 r (o := o772 + s661.toNat * 3 + 2) r r r .mk) (.f [14] r (by kernel_rfl) r r (fun ex => .ld1 (j := 2) isAgg2 hC775 r r r r r .mk) (.f [5, 10, 15] r (by kernel_rfl) r r (fun ex => .build zeroValue139 underlying139 BI139 (.c r r r (.t .nil) (.c r r r (.s (.t .nil)) (.c r r r (.s (.s (.t .nil))) .n))) (by exact ⟨⟨_, _, r, r, r⟩, ⟨⟨_, _, r, r, r⟩, ⟨⟨_, _, r, r, r⟩, trivial⟩⟩⟩) r r .mk) (.w [0] [[], [16], [15, 16], [14, 15, 16], [13, 14, 15, 16], [13, 14, 15, 16], [16], [10, 16], [9, 10, 16], [8, 9, 10, 16], [8, 9, 10, 16], [16], [5, 16], [4, 5, 16], [3, 4, 5, 16], [3, 4, 5, 16]] [16] r (by kernel_rfl) (by kernel_rfl) (by kernel_rfl) ((dropE_kept r r)) (.inr (dropE_kept r r)) fun ex => ?_))))
   refine .buildSlice 1 underlying137 sizeOf139 zeroValue139 r r (.c r r r .n) r r fun b777 => ?_
   refine .some (fun ex => (pto b777 (.cells #[.int .i64 x751.Row, .int .i64 x760.Col, .int .i64 x769.Val] 139 (0, 0))) :: (pto b15 (.cells #[.int .i64 0, .int .i64 0, .slice none 0 0, .slice none 0 0, .slice none 0 0] 35 (0, 0))) :: (OwnSl eEdge 139 p658 c659 s657) :: ex) r (fun _ _ => (.s (.s (.s .z)))) r (.ccs [[]] r r (by kernel_rfl) trivial) (.w [] [[]] [0, 17] r (by kernel_rfl) (by kernel_rfl) (by kernel_rfl) ((dropE_kept r r)) (.inr (dropE_kept r r)) fun ex => ?_)
   obtain ⟨hl779, hd⟩ := hd
   refine .append (ys := [({ From := x751.Row, To := x760.Col, W := x769.Val } : Edge)]) 24 (.s (.s .z)) underlying137 underlying137 IN139 r r r r r r r r r (.box .z (.one r) r) hl779 r r fun p780 c781 => ?_
   refine .some (fun ex => (OwnSl eEdge 139 p780 c781 (s657 ++ ([({ From := x751.Row, To := x760.Col, W := x769.Val } : Edge)]))) :: (pto b777 (.cells #[.int .i64 x751.Row, .int .i64 x760.Col, .int .i64 x769.Val] 139 (0, 0))) :: (pto b15 (.cells #[.int .i64 0, .int .i64 0, .slice none 0 0, .slice none 0 0, .slice none 0 0] 35 (0, 0))) :: ex) r (fun _ _ => (.s (.s (.s .z)))) r trivial (.e 19 (by kernel_rfl) (by kernel_rfl) (by kernel_rfl) (.sub (E' := [(0, _), (1, _), (2, _), (3, _), (8, _), (11, _), (77, _), (78, _), (79, _), (80, _), (81, _), (82, _), (83, _), (84, _), (85, _), (86, _), (87, _), (88, _), (89, _), (90, _), (91, _), (92, _), (93, _), (94, _), (95, _)]) ⟨r, r, r, r, r, r, r, r, r, r, r, r, r, r, r, r, r, r, r, r, r, r, r, r, r, trivial⟩ (.skips 1 r (.nilS [10, 11, 8, 3, 2, 1, 0] r r (.drop (.s .z) (.region (.skips 1 r (.add r r r r (.sub (E' := [(0, _), (1, _), (2, _), (3, _), (8, _), (10, _), (42, _), (43, _)]) ⟨r, r, r, r, r, r, r, r, trivial⟩ ?_)))))))))
   exact .skips 1 r (.nil' fun c w ho hs => ⟨((s657 ++ ([({ From := x751.Row, To := x760.Col, W := x769.Val } : Edge)])), w64 (s661 + 1)), hd, I664, _, _, le666, ho.sub ⟨r, r, r, r, r, r, r, trivial⟩, hs.pick (.c (.s .z) (.c .z .n))⟩)
 refine .exitS [10, 8, 2, 1, 0] r r (.seq (.region (.skips 2 r (.pub (.s .z) fun I798 hl799 R800 => ?_))))
 have le801 := IH.le.trans le666 hl799
 have hw811 := W_ref05_Combine (I := I798) R800 hd
 refine .call call94 r hw811 r r fun v806 I803 hl804 hv805 => ?_
 obtain ⟨r802, p808, c809, rfl, R810, hd⟩ := hv805
 have le812 := IH.le.trans le801 hl804
 replace R800 := R800.mono hl804
 refine .skips 1 r (.extract r r r r (.extract r r r r (.sub (E' := [(0, _), (1, _), (2, _), (8, _), (97, _), (98, _), (99, _), (96, _), (100, _), (101, _)]) ⟨r, r, r, r, r, r, r, r, r, r, trivial⟩ (.skips 2 r (.nilS [12, 10, 8, 2, 1] r r (.seq (.seq (.region (.skips 1 r ?_)))))))))
 refine .ne r r r r (.nilS [103, 12, 10, 8, 2, 1] r r (.condP r hd (fun hb814 hd => ?_) fun hb814 hd => ?_))
 · exact .seq (.region (.build zeroValue35 underlying35 BI35 .n (by exact trivial) r r (.skips 1 r (.storeA sizeOf35 r r .z (.t (.t (.t (.t (.t .nil))))) r r (.skips 1 r (.nilS [9, 8] r r (.ret (pret results44 (.w isAgg35 sizeOf35 r .z r (.t r .n)) le812 ⟨(({ Rows := 0, Cols := 0, Start := ([] : List Int), Col := ([] : List Int), Val := ([] : List Int) } : Rows), r802.2), _, _, _, _, _, _, r, (.nil _ _ _), (.nil _ _ _), (.nil _ _ _), hd⟩))))))))
 refine .skipS [10, 8, 2, 1] r r (.seq (.region (.skips 1 r (.nilS [13, 10, 8, 2, 1] r r (.seq (.seq (.region (.skips 1 r (.nilS [14, 13, 10, 8, 2, 1] r r ?_)))))))))
 refine .block (.own0 eTriple 84 (.loop hd (fun (s : (List Triple) × Int) c w => match s with | (s902, s906) => ∃ I_ p903 c904, IH.le I803 I_ ∧ Ok ⟨135, [], none⟩ [(1, .int .i64 a1), (2, .int .i64 a2), (8, .pointer (some ⟨b15, 0, none⟩)), (10, .slice p808 r802.1.length c809), (13, .slice p903 s902.length c904), (14, .int .i64 s906)] c ∧ Sym w0 M I I_ [pto b15 (.cells #[.int .i64 0, .int .i64 0, .slice none 0 0, .slice none 0 0, .slice none 0 0] 35 (0, 0)), OwnSl eTriple 84 p903 c904 s902] w) (fun c w ho hs => ⟨I803, _, _, (.refl _), ho.sub ⟨r, r, r, r, r, r, trivial⟩, hs.pick (.c (.s .z) (.c .z .n))⟩) ?_))
 rintro ⟨s902, s906⟩ next908 hd c w hst
 obtain ⟨I909, p903, c904, hl910, hok, hsym⟩ := hst
 have le911 := IH.le.trans le812 hl910
 have le912 := IH.le.trans (.refl _) hl910
 replace R810 := R810.mono hl910
 refine Cod.at hok hsym (.seq (.seq (.region (.skips 2 r (.len underlying137 r r r r (.lt r r r r (.nilS [109, 14, 13, 10, 8, 2, 1] r r (.condP r hd (fun hb914 hd => ?_) fun hb914 hd => ?_))))))))
 · refine .skipS [14, 13, 10, 8, 2, 1] r r (.seq (.block (.ownF (.s .z) fun hne915 => ?_)))
   refine .draw [some 0, some 1, some 2, some 3, some 4, some 5, some 6, some 7, some 8, some 9, some 10, some 11, some 12, some 13, some 14, some 15, some 16, some 17, some 18] 19 MX (by kernel_rfl) (by kernel_rfl) (by kernel_rfl) (by kernel_rfl) (by kernel_rfl) (by kernel_rfl) (by kernel_rfl) (fun ex => (pto b15 (.cells #[.int .i64 0, .int .i64 0, .slice none 0 0, .slice none 0 0, .slice none 0 0] 35 (0, 0))) :: (OwnSl eTriple 84 p903 c904 s902) :: ex) (fun _ _ => (.s (.s .z))) r (.fs [[], [], []] r (by kernel_rfl) ?_)
   obtain ⟨h916, x917, hx918, hd⟩ := hd
   obtain ⟨b919, o920, cs921, e922, hC923, hr924⟩ := R810.2 _ _ hx918
   cases hr924
   refine .f [1, 2] r (by kernel_rfl) r r (fun ex => .ixa underlying137 sizeOf139 r e922 r h916 (idx_lt hx918 h916) r r .mk) (.f [3] r (by kernel_rfl) r r (fun ex => .fieldAddr underlying139 r sizeOf3 r (o := o920 + s906.toNat * 3) r r r .mk) (.f [4] r (by kernel_rfl) r r (fun ex => .ld1 (j := 0) isAgg3 hC923 r r r r r .mk) (.fs [[], []] r (by kernel_rfl) ?_)))
   obtain ⟨h925, x926, hx927, hd⟩ := hd
   obtain ⟨b928, o929, cs930, e931, hC932, hr933⟩ := R810.2 _ _ hx927
   cases hr933
   refine .f [6, 7] r (by kernel_rfl) r r (fun ex => .ixa underlying137 sizeOf139 r e931 r h925 (idx_lt hx927 h925) r r .mk) (.f [8] r (by kernel_rfl) r r (fun ex => .fieldAddr underlying139 r sizeOf3 r (o := o929 + s906.toNat * 3 + 1) r r r .mk) (.f [9] r (by kernel_rfl) r r (fun ex => .ld1 (j := 1) isAgg3 hC932 r r r r r .mk) (.fs [[], []] r (by kernel_rfl) ?_)))
   obtain ⟨h934, x935, hx936, hd⟩ := hd
   obtain ⟨b937, o938, cs939, e940, hC941, hr942⟩ := R810.2 _ _ hx936
   cases hr942
   refine .f [11, 12] r (by kernel_rfl) r r (fun ex => .ixa underlying137 sizeOf139 r e940 r h934 (idx_lt hx936 h934) r r .mk) (.f [13] r (by kernel_rfl) r r (fun ex => .fieldAddr underlying139 r sizeOf2 r (o := o938 + s906.toNat * 3 + 2) r r r .mk) (.f [14] r (by kernel_rfl) r r (fun ex => .ld1 (j := 2) isAgg2 hC941 r r r r r .mk) (.f [5, 10, 15] r (by kernel_rfl) r r (fun ex => .build zeroValue84 underlying84 BI84 (.c r r r (.t .nil) (.c r r r (.s (.t .nil)) (.c r r r (.s (.s (.t .nil))) .n))) (by exact ⟨⟨_, _, r, r, r⟩, ⟨⟨_, _, r, r, r⟩, ⟨⟨_, _, r, r, r⟩, trivial⟩⟩⟩) r r .mk) (.w [0] [[], [16], [15, 16], [14, 15, 16], [13, 14, 15, 16], [13, 14, 15, 16], [16], [10, 16], [9, 10, 16], [8, 9, 10, 16], [8, 9, 10, 16], [16], [5, 16], [4, 5, 16], [3, 4, 5, 16], [3, 4, 5, 16]] [16] r (by kernel_rfl) (by kernel_rfl) (by kernel_rfl) ((dropE_kept r r)) (.inr (dropE_kept r r)) fun ex => ?_))))
   refine .buildSlice 1 underlying24 sizeOf84 zeroValue84 r r (.c r r r .n) r r fun b943 => ?_
   refine .some (fun ex => (pto b943 (.cells #[.int .i64 x917.From, .int .i64 x926.To, .int .i64 x935.W] 84 (0, 0))) :: (pto b15 (.cells #[.int .i64 0, .int .i64 0, .slice none 0 0, .slice none 0 0, .slice none 0 0] 35 (0, 0))) :: (OwnSl eTriple 84 p903 c904 s902) :: ex) r (fun _ _ => (.s (.s (.s .z)))) r (.ccs [[]] r r (by kernel_rfl) trivial) (.w [] [[]] [0, 17] r (by kernel_rfl) (by kernel_rfl) (by kernel_rfl) ((dropE_kept r r)) (.inr (dropE_kept r r)) fun ex => ?_)
   obtain ⟨hl945, hd⟩ := hd
   refine .append (ys := [({ Row := x917.From, Col := x926.To, Val := x935.W } : Triple)]) 24 (.s (.s .z)) underlying24 underlying24 IN84 r r r r r r r r r (.box .z (.one r) r) hl945 r r fun p946 c947 => ?_
   refine .some (fun ex => (OwnSl eTriple 84 p946 c947 (s902 ++ ([({ Row := x917.From, Col := x926.To, Val := x935.W } : Triple)]))) :: (pto b943 (.cells #[.int .i64 x917.From, .int .i64 x926.To, .int .i64 x935.W] 84 (0, 0))) :: (pto b15 (.cells #[.int .i64 0, .int .i64 0, .slice none 0 0, .slice none 0 0, .slice none 0 0] 35 (0, 0))) :: ex) r (fun _ _ => (.s (.s (.s .z)))) r trivial (.e 19 (by kernel_rfl) (by kernel_rfl) (by kernel_rfl) (.sub (E' := [(1, _), (2, _), (8, _), (10, _), (14, _), (112, _), (113, _), (114, _), (115, _), (116, _), (117, _), (118, _), (119, _), (120, _), (121, _), (122, _), (123, _), (124, _), (125, _), (126, _), (127, _), (128, _), (129, _), (130, _)]) ⟨r, r, r, r, r, r, r, r, r, r, r, r, r, r, r, r, r, r, r, r, r, r, r, r, trivial⟩ (.skips 1 r (.nilS [13, 14, 10, 8, 2, 1] r r (.drop (.s .z) (.region (.skips 1 r (.add r r r r (.sub (E' := [(1, _), (2, _), (8, _), (10, _), (13, _), (110, _), (111, _)]) ⟨r, r, r, r, r, r, r, trivial⟩ ?_)))))))))
   exact .skips 1 r (.nil' fun c w ho hs => ⟨((s902 ++ ([({ Row := x917.From, Col := x926.To, Val := x935.W } : Triple)])), w64 (s906 + 1)), hd, I909, _, _, le912, ho.sub ⟨r, r, r, r, r, r, trivial⟩, hs.pick (.c (.s .z) (.c .z .n))⟩)
 refine .exitS [13, 8, 2, 1] r r (.seq (.region (.skips 3 r (.pub (.s .z) fun I949 hl950 R951 => ?_))))
 have le952 := IH.le.trans le911 hl950
 have le953 := IH.le.trans le912 hl950
 have hw969 := W_ref07_built (I := I949) R951 hd
 refine .call call52 r hw969 r r fun v958 I955 hl956 hv957 => ?_
 obtain ⟨r954, p960, c961, p963, c964, p966, c967, rfl, R962, R965, R968, hd⟩ := hv957
 have le970 := IH.le.trans le952 hl956
 have le971 := IH.le.trans le953 hl956
 replace R951 := R951.mono hl956
 exact .storeA sizeOf35 r r .z (.t (.t (.t (.t (.t .nil))))) r r (.skips 1 r (.nilS [9, 8] r r (.ret (pret results44 (.w isAgg35 sizeOf35 r .z r (.t r .n)) le970 ⟨(r954, 0), _, _, _, _, _, _, r, R962, R965, R968, hd⟩))))

theorem W_ring_Is {I : IH} {a0 : Int}  {Q : Bool → Prop}  (hd : ring_Is a0 Q) :
    PFun Tryz.prog 36 [.int .i64 a0] I (fun I_ v => ∃ r, v = .bool r ∧ Q r) := by
 refine Fun.enter func36 r ntmps36 r (.c .n) fun w0 M => ?_
 refine .seq (.region (.skips 1 r (.nilS [0] r r (.seq (.region (.skips 1 r (.gt r r r r (.skips 1 r ?_))))))))
 refine splitP hd (fun hb1 hd => ?_) fun hb1 hd => ?_
 · rw [hb1]
   exact .gyes r r r (.move r r r (.gyes r r r (.lt r r r r (.skips 2 r (.nilS [2] r r (.ret (pret results36 (.t r .n) (.refl _) ⟨(decide (a0 < 6)), r, hd⟩)))))))
 rw [hb1]
 exact .skips 4 r (.nilS [2] r r (.ret (pret results36 (.t r .n) (.refl _) ⟨false, r, hd⟩)))

theorem W_push_rises {I : IH} {a0 : List Sum} {p1 : Option Addr} {c2 : Nat} {Q : Bool → Prop} (R3 : RepSl eSum I p1 c2 a0) (hd : push_rises a0 Q) :
    PFun Tryz.prog 56 [.slice p1 a0.length c2] I (fun I_ v => ∃ r, v = .bool r ∧ Q r) := by
 refine Fun.enter func56 r ntmps56 r (.c .n) fun w0 M => ?_
 refine .seq (.region (.skips 1 r (.nilS [0] r r (.seq (.seq (.region (.skips 1 r (.len underlying41 r r r r (.skips 1 r ?_)))))))))
 refine .nilS [6, 5, 0] r r (.block (.loop hd (fun (s31 : Int) c w => ∃ I_, IH.le I I_ ∧ Ok ⟨26, [], none⟩ [(0, .slice p1 a0.length c2), (5, .int .i64 (a0.length : Int)), (6, .int .i64 s31)] c ∧ Sym w0 M I I_ [] w) (fun c w ho hs => ⟨I, (.refl _), ho.sub ⟨r, r, r, trivial⟩, hs.pick .n⟩) ?_))
 rintro s31 next32 hd c w hst
 obtain ⟨I33, hl34, hok, hsym⟩ := hst
 have le35 := IH.le.trans (.refl _) hl34
 replace R3 := R3.mono hl34
 refine Cod.at hok hsym (.seq (.region (.lt r r r r (.nilS [7, 6, 5, 0] r r (.seq (.condP r hd (fun hb37 hd => ?_) fun hb37 hd => ?_))))))
 · refine .skipS [6, 5, 0] r r (.seq (.block (.seq (.region (.skips 2 r (.nilS [3, 6, 5, 0] r r (.seq (.draw [some 0, some 1, some 2, some 3, some 4, some 5, some 6, some 7, some 8, some 9, some 10, some 11, some 12, some 13, some 14, some 15] 16 MX (by kernel_rfl) (by kernel_rfl) (by kernel_rfl) (by kernel_rfl) (by kernel_rfl) (by kernel_rfl) (by kernel_rfl) (fun ex => ex) (fun _ _ => .z) r (.fs [[]] r (by kernel_rfl) ?_)))))))))
   refine .f [0] r (by kernel_rfl) r r (fun ex => .gt r r r r .mk) (.fs [[1]] r (by kernel_rfl) ?_)
   refine splitP hd (fun hb38 hd => ?_) fun hb38 hd => ?_
   · rw [hb38]
     refine .fs [[2], [2]] r (by kernel_rfl) (.f [4, 2] r (by kernel_rfl) r r (fun ex => .gyes r r r (.sub' r r r r .mk)) ?_)
     obtain ⟨h39, x40, hx41, hd⟩ := hd
     obtain ⟨b42, o43, cs44, e45, hC46, hr47⟩ := R3.2 _ _ hx41
     cases hr47
     refine .f [3, 5, 2] r (by kernel_rfl) r r (fun ex => .gyes r r r (.ixa underlying41 sizeOf89 r e45 r h39 (idx_lt hx41 h39) r r .mk)) (.f [6, 2] r (by kernel_rfl) r r (fun ex => .gyes r r r (.fieldAddr underlying89 r sizeOf3 r (o := o43 + (w64 (s31 - 1)).toNat * 3) r r r .mk)) (.f [7, 2] r (by kernel_rfl) r r (fun ex => .gyes r r r (.ld1 (j := 0) isAgg3 hC46 r r r r r .mk)) (.fs [[2], [2]] r (by kernel_rfl) ?_)))
     obtain ⟨h48, x49, hx50, hd⟩ := hd
     obtain ⟨b51, o52, cs53, e54, hC55, hr56⟩ := R3.2 _ _ hx50
     cases hr56
     refine .f [9, 10, 2] r (by kernel_rfl) r r (fun ex => .gyes r r r (.ixa underlying41 sizeOf89 r e54 r h48 (idx_lt hx50 h48) r r .mk)) (.f [11, 2] r (by kernel_rfl) r r (fun ex => .gyes r r r (.fieldAddr underlying89 r sizeOf3 r (o := o52 + s31.toNat * 3) r r r .mk)) (.f [12, 2] r (by kernel_rfl) r r (fun ex => .gyes r r r (.ld1 (j := 0) isAgg3 hC55 r r r r r .mk)) (.f [8, 13, 2] r (by kernel_rfl) r r (fun ex => .gyes r r r (.ge r r r r .mk)) (.fs [[2, 14]] r (by kernel_rfl) (.e 16 (by kernel_rfl) (by kernel_rfl) (by kernel_rfl) (.nilS [24, 6, 5, 0] r r (.condP r hd (fun hb57 hd => ?_) fun hb57 hd => ?_)))))))
     · exact .seq (.region (.skips 1 r (.nilS [2] r r (.ret (pret results56 (.t r .n) le35 ⟨false, r, hd⟩)))))
     exact .skipS [6, 5, 0] r r (.region (.add r r r r (.sub (E' := [(0, _), (5, _), (25, _)]) ⟨r, r, r, trivial⟩ (.skips 1 r (.nil' fun c w ho hs => ⟨(w64 (s31 + 1)), hd, I33, le35, ho.sub ⟨r, r, r, trivial⟩, hs.pick .n⟩)))))
   rw [hb38]
   exact .fs [[2], [2], [4, 2], [3, 5, 2], [6, 2], [7, 2], [2], [2], [9, 10, 2], [11, 2], [12, 2], [8, 13, 2], [2, 14]] r (by kernel_rfl) (.e 16 (by kernel_rfl) (by kernel_rfl) (by kernel_rfl) (.nilS [24, 6, 5, 0] r r (.condKF r r (.skipS [6, 5, 0] r r (.region (.add r r r r (.sub (E' := [(0, _), (5, _), (25, _)]) ⟨r, r, r, trivial⟩ (.skips 1 r (.nil' fun c w ho hs => ⟨(w64 (s31 + 1)), hd, I33, le35, ho.sub ⟨r, r, r, trivial⟩, hs.pick .n⟩)))))))))
 exact .exitS [] r r (.seq (.region (.skips 1 r (.nilS [2] r r (.ret (pret results56 (.t r .n) le35 ⟨true, r, hd⟩))))))

theorem W_push_heads_Len {I : IH} {a0 : List Push_head} {p1 : Option Addr} {c2 : Nat} {Q : Int → Prop} (R3 : RepSl ePush_head I p1 c2 a0) (hd : push_heads_Len a0 Q) :
    PFun Tryz.prog 58 [.slice p1 a0.length c2] I (fun I_ v => ∃ r, v = .int .i64 r ∧ Q r) := by
 refine Fun.enter func58 r ntmps58 r (.c .n) fun w0 M => ?_
 refine .seq (.region (.skips 1 r (.nilS [0] r r (.seq (.region (.skips 1 r (.len underlying99 r r r r (.skips 1 r (.nilS [2] r r ?_)))))))))
 exact .ret (pret results58 (.t r .n) (.refl _) ⟨(a0.length : Int), r, hd⟩)

theorem W_wide_Of {I : IH} {a0 : Int}  {Q : Wide → Prop}  (hd : wide_Of a0 Q) :
    PFun Tryz.prog 125 [.int .i64 a0] I (fun I_ v => ∃ r, v = .agg (encWide r).toArray ∧ Q r) := by
 refine Fun.enter func125 r ntmps125 r (.c .n) fun w0 M => ?_
 refine .seq (.region (.allocA zeroValue87 r r fun b1 => ?_))
 refine .nilS [2, 0] r r (.seq (.region (.skips 1 r (.shr' r r (by decide) r r (.skips 1 r (.conv underlying2 underlying85 r r r (.build zeroValue87 underlying87 BI87 (.c r r r (.t .nil) (.c r r r (.s (.t .nil)) .n)) (by exact ⟨⟨_, _, r, r, r⟩, ⟨⟨_, _, r, r, r⟩, trivial⟩⟩) r r (.storeA sizeOf87 r r .z (.t (.t .nil)) r r (.nilS [2] r r ?_)))))))))
 exact .ret (pret results125 (.w isAgg87 sizeOf87 r .z r .n) (.refl _) ⟨({ Hi := shr .i64 a0 63, Lo := IntKind.wrap .u64 (a0) } : Wide), r, hd⟩)

theorem W_ring_truth {I : IH} {a0 : Bool}  {Q : Wide → Prop}  (hd : ring_truth a0 Q) :
    PFun Tryz.prog 123 [.bool a0] I (fun I_ v => ∃ r, v = .agg (encWide r).toArray ∧ Q r) := by
 refine Fun.enter func123 r ntmps123 r (.c .n) fun w0 M => ?_
 refine .seq (.region (.allocA zeroValue87 r r fun b3 => ?_))
 refine .nilS [2, 0] r r (.seq (.seq (.region (.skips 1 r (.nilS [3, 2] r r (.condP r hd (fun hb5 hd => ?_) fun hb5 hd => ?_))))))
 · refine .seq (.region ?_)
   have hw7 := W_wide_Of (I := I) hd
   refine .callP call125 r hw7 r r fun v8 hv9 => ?_
   obtain ⟨r6, rfl, hd⟩ := hv9
   exact .storeA sizeOf87 r r .z (.t (.t .nil)) r r (.nilS [2] r r (.ret (pret results123 (.w isAgg87 sizeOf87 r .z r .n) (.refl _) ⟨r6, r, hd⟩)))
 exact .skipS [2] r r (.seq (.region (.build zeroValue87 underlying87 BI87 .n (by exact trivial) r r (.storeA sizeOf87 r r .z (.t (.t .nil)) r r (.nilS [2] r r (.ret (pret results123 (.w isAgg87 sizeOf87 r .z r .n) (.refl _) ⟨({ Hi := 0, Lo := 0 } : Wide), r, hd⟩)))))))

theorem W_cmp_Or_int {I : IH} {a0 : List Int} {p1 : Option Addr} {c2 : Nat} {Q : Int → Prop} (R3 : RepSl eI64 I p1 c2 a0) (hd : cmp_Or_int a0 Q) :
    PFun Tryz.prog 151 [.slice p1 a0.length c2] I (fun I_ v => ∃ r, v = .int .i64 r ∧ Q r) := by
 refine Fun.enter func151 r ntmps151 r (.c .n) fun w0 M => ?_
 refine .seq (.region (.skips 1 r (.nilS [0] r r (.seq (.region (.skips 1 r (.nilS [3, 0] r r (.seq (.seq ?_)))))))))
 refine .region (.skips 1 r (.len underlying29 r r r r (.skips 1 r (.nilS [8, 7, 6, 3] r r (.block (.loop hd (fun (s31 : Int) c w => ∃ I_, IH.le I I_ ∧ Ok ⟨18, [], none⟩ [(3, .int .i64 0), (6, .slice p1 a0.length c2), (7, .int .i64 (a0.length : Int)), (8, .int .i64 s31)] c ∧ Sym w0 M I I_ [] w) (fun c w ho hs => ⟨I, (.refl _), ho.sub ⟨r, r, r, r, trivial⟩, hs.pick .n⟩) ?_))))))
 rintro s31 next32 hd c w hst
 obtain ⟨I33, hl34, hok, hsym⟩ := hst
 have le35 := IH.le.trans (.refl _) hl34
 replace R3 := R3.mono hl34
 refine Cod.at hok hsym (.seq (.region (.lt r r r r (.nilS [9, 8, 7, 6, 3] r r (.seq (.condP r hd (fun hb37 hd => ?_) fun hb37 hd => ?_))))))
 · refine .skipS [8, 7, 6, 3] r r (.seq (.block (.seq (.region ?_))))
   obtain ⟨h38, x39, hx40, hd⟩ := hd
   obtain ⟨b41, o42, cs43, e44, hC45, hr46⟩ := R3.2 _ _ hx40
   cases hr46
   refine .ixa underlying29 sizeOf3 r e44 r h38 (idx_lt hx40 h38) r r (.ld1 (j := 0) isAgg3 hC45 r r r r r (.skips 1 r (.nilS [5, 8, 7, 6, 3] r r (.seq (.region (.skips 2 r (.ne r r r r (.nilS [14, 5, 8, 7, 6, 3] r r (.condP r hd (fun hb47 hd => ?_) fun hb47 hd => ?_)))))))))
   · exact .seq (.region (.skips 2 r (.nilS [2] r r (.ret (pret results151 (.t r .n) le35 ⟨x39, r, hd⟩)))))
   exact .skipS [8, 7, 6, 3] r r (.region (.add r r r r (.sub (E' := [(3, _), (6, _), (7, _), (16, _)]) ⟨r, r, r, r, trivial⟩ (.skips 1 r (.nil' fun c w ho hs => ⟨(w64 (s31 + 1)), hd, I33, le35, ho.sub ⟨r, r, r, r, trivial⟩, hs.pick .n⟩)))))
 exact .exitS [3] r r (.seq (.region (.skips 2 r (.nilS [2] r r (.ret (pret results151 (.t r .n) le35 ⟨0, r, hd⟩))))))

theorem W_cmp_isNaN_int64 {I : IH} {a0 : Int}  {Q : Bool → Prop}  (hd : cmp_isNaN_int64 a0 Q) :
    PFun Tryz.prog 191 [.int .i64 a0] I (fun I_ v => ∃ r, v = .bool r ∧ Q r) := by
 refine Fun.enter func191 r ntmps191 r (.c .n) fun w0 M => ?_
 refine .seq (.region (.skips 1 r (.nilS [0] r r (.seq (.region (.skips 2 r (.ne r r r r (.skips 1 r (.nilS [2] r r ?_)))))))))
 exact .ret (pret results191 (.t r .n) (.refl _) ⟨(a0 != a0), r, hd⟩)

theorem W_cmp_Compare_int64 {I : IH} {a0 : Int} {a1 : Int}  {Q : Int → Prop}  (hd : cmp_Compare_int64 a0 a1 Q) :
    PFun Tryz.prog 183 [.int .i64 a0, .int .i64 a1] I (fun I_ v => ∃ r, v = .int .i64 r ∧ Q r) := by
 refine Fun.enter func183 r ntmps183 r (.c (.c .n)) fun w0 M => ?_
 refine .seq (.region (.skips 1 r (.nilS [1, 0] r r (.seq (.region (.skips 1 r ?_))))))
 have hw6 := W_cmp_isNaN_int64 (I := I) hd
 refine .callP call191 r hw6 r r fun v7 hv8 => ?_
 obtain ⟨r5, rfl, hd⟩ := hv8
 refine .skips 1 r (.nilS [5, 1, 0] r r (.seq (.region (.skips 1 r ?_))))
 have hw14 := W_cmp_isNaN_int64 (I := I) hd
 refine .callP call191 r hw14 r r fun v15 hv16 => ?_
 obtain ⟨r13, rfl, hd⟩ := hv16
 refine .skips 1 r (.nilS [6, 5, 1, 0] r r (.seq (.seq (.region (.skips 1 r (.nilS [11, 6, 1, 0] r r (.condP r hd (fun hb19 hd => ?_) fun hb19 hd => ?_)))))))
 · refine .seq (.seq (.region (.skips 1 r (.nilS [12] r r (.condP r hd (fun hb20 hd => ?_) fun hb20 hd => ?_)))))
   · exact .seq (.region (.skips 1 r (.nilS [4] r r (.ret (pret results183 (.t r .n) (.refl _) ⟨0, r, hd⟩)))))
   exact .skipS [] r r (.seq (.region (.skips 1 r (.nilS [4] r r (.ret (pret results183 (.t r .n) (.refl _) ⟨(-1), r, hd⟩))))))
 refine .skipS [6, 1, 0] r r (.seq (.seq (.region (.skips 1 r (.nilS [13, 1, 0] r r (.condP r hd (fun hb22 hd => ?_) fun hb22 hd => ?_))))))
 · exact .seq (.region (.skips 1 r (.nilS [4] r r (.ret (pret results183 (.t r .n) (.refl _) ⟨1, r, hd⟩)))))
 refine .skipS [1, 0] r r (.seq (.seq (.region (.skips 2 r (.lt r r r r (.nilS [16, 1, 0] r r (.condP r hd (fun hb24 hd => ?_) fun hb24 hd => ?_)))))))
 · exact .seq (.region (.skips 1 r (.nilS [4] r r (.ret (pret results183 (.t r .n) (.refl _) ⟨(-1), r, hd⟩)))))
 refine .skipS [1, 0] r r (.seq (.seq (.region (.skips 2 r (.gt r r r r (.nilS [19] r r (.condP r hd (fun hb25 hd => ?_) fun hb25 hd => ?_)))))))
 · exact .seq (.region (.skips 1 r (.nilS [4] r r (.ret (pret results183 (.t r .n) (.refl _) ⟨1, r, hd⟩)))))
 exact .skipS [] r r (.seq (.region (.skips 1 r (.nilS [4] r r (.ret (pret results183 (.t r .n) (.refl _) ⟨0, r, hd⟩))))))

theorem W_cmp_isNaN_uint64 {I : IH} {a0 : Int}  {Q : Bool → Prop}  (hd : cmp_isNaN_uint64 a0 Q) :
    PFun Tryz.prog 192 [.int .u64 a0] I (fun I_ v => ∃ r, v = .bool r ∧ Q r) := by
 refine Fun.enter func192 r ntmps192 r (.c .n) fun w0 M => ?_
 refine .seq (.region (.skips 1 r (.nilS [0] r r (.seq (.region (.skips 2 r (.ne r r r r (.skips 1 r (.nilS [2] r r ?_)))))))))
 exact .ret (pret results192 (.t r .n) (.refl _) ⟨(a0 != a0), r, hd⟩)

theorem W_cmp_Compare_uint64 {I : IH} {a0 : Int} {a1 : Int}  {Q : Int → Prop}  (hd : cmp_Compare_uint64 a0 a1 Q) :
    PFun Tryz.prog 184 [.int .u64 a0, .int .u64 a1] I (fun I_ v => ∃ r, v = .int .i64 r ∧ Q r) := by
 refine Fun.enter func184 r ntmps184 r (.c (.c .n)) fun w0 M => ?_
 refine .seq (.region (.skips 1 r (.nilS [1, 0] r r (.seq (.region (.skips 1 r ?_))))))
 have hw6 := W_cmp_isNaN_uint64 (I := I) hd
 refine .callP call192 r hw6 r r fun v7 hv8 => ?_
 obtain ⟨r5, rfl, hd⟩ := hv8
 refine .skips 1 r (.nilS [5, 1, 0] r r (.seq (.region (.skips 1 r ?_))))
 have hw14 := W_cmp_isNaN_uint64 (I := I) hd
 refine .callP call192 r hw14 r r fun v15 hv16 => ?_
 obtain ⟨r13, rfl, hd⟩ := hv16
 refine .skips 1 r (.nilS [6, 5, 1, 0] r r (.seq (.seq (.region (.skips 1 r (.nilS [11, 6, 1, 0] r r (.condP r hd (fun hb19 hd => ?_) fun hb19 hd => ?_)))))))
 · refine .seq (.seq (.region (.skips 1 r (.nilS [12] r r (.condP r hd (fun hb20 hd => ?_) fun hb20 hd => ?_)))))
   · exact .seq (.region (.skips 1 r (.nilS [4] r r (.ret (pret results184 (.t r .n) (.refl _) ⟨0, r, hd⟩)))))
   exact .skipS [] r r (.seq (.region (.skips 1 r (.nilS [4] r r (.ret (pret results184 (.t r .n) (.refl _) ⟨(-1), r, hd⟩))))))
 refine .skipS [6, 1, 0] r r (.seq (.seq (.region (.skips 1 r (.nilS [13, 1, 0] r r (.condP r hd (fun hb22 hd => ?_) fun hb22 hd => ?_))))))
 · exact .seq (.region (.skips 1 r (.nilS [4] r r (.ret (pret results184 (.t r .n) (.refl _) ⟨1, r, hd⟩)))))
 refine .skipS [1, 0] r r (.seq (.seq (.region (.skips 2 r (.lt r r r r (.nilS [16, 1, 0] r r (.condP r hd (fun hb24 hd => ?_) fun hb24 hd => ?_)))))))
 · exact .seq (.region (.skips 1 r (.nilS [4] r r (.ret (pret results184 (.t r .n) (.refl _) ⟨(-1), r, hd⟩)))))
 refine .skipS [1, 0] r r (.seq (.seq (.region (.skips 2 r (.gt r r r r (.nilS [19] r r (.condP r hd (fun hb25 hd => ?_) fun hb25 hd => ?_)))))))
 · exact .seq (.region (.skips 1 r (.nilS [4] r r (.ret (pret results184 (.t r .n) (.refl _) ⟨1, r, hd⟩)))))
 exact .skipS [] r r (.seq (.region (.skips 1 r (.nilS [4] r r (.ret (pret results184 (.t r .n) (.refl _) ⟨0, r, hd⟩))))))

theorem W_wide_Compare {I : IH} {a0 : Wide} {a1 : Wide}  {Q : Int → Prop}  (hd : wide_Compare a0 a1 Q) :
    PFun Tryz.prog 163 [.agg (encWide a0).toArray, .agg (encWide a1).toArray] I (fun I_ v => ∃ r, v = .int .i64 r ∧ Q r) := by
 refine Fun.enter func163 r ntmps163 r (.c (.c .n)) fun w0 M => ?_
 refine .seq (.region (.boxA r r r fun b5 => ?_))
 refine .boxA r r r fun b7 => ?_
 refine .skips 1 r (.nilS [3, 2] r r (.seq (.draw [some 0, some 1, some 2, some 3, some 5, some 6, some 7, some 8, some 4, some 9, some 10, some 11] 12 MX (by kernel_rfl) (by kernel_rfl) (by kernel_rfl) (by kernel_rfl) (by kernel_rfl) (by kernel_rfl) (by kernel_rfl) (fun ex => (pto b7 (.cells #[.int .i64 a1.Hi, .int .u64 a1.Lo] 87 (0, 0))) :: (pto b5 (.cells #[.int .i64 a0.Hi, .int .u64 a0.Lo] 87 (0, 0))) :: ex) (fun _ _ => (.s (.s .z))) r (.f [] r (by kernel_rfl) r r (fun ex => .fieldAddr underlying87 r sizeOf2 r (o := 0) r r r .mk) (.f [0] r (by kernel_rfl) r r (fun ex => .load1 isAgg2 r (.s .z) r r r .mk) (.f [] r (by kernel_rfl) r r (fun ex => .fieldAddr underlying87 r sizeOf2 r (o := 0) r r r .mk) (.f [2] r (by kernel_rfl) r r (fun ex => .load1 isAgg2 r .z r r r .mk) (.f [] r (by kernel_rfl) r r (fun ex => .fieldAddr underlying87 r sizeOf85 r (o := 1) r r r .mk) (.f [5] r (by kernel_rfl) r r (fun ex => .load1 isAgg85 r (.s .z) r r r .mk) ?_)))))))))
 refine .f [] r (by kernel_rfl) r r (fun ex => .fieldAddr underlying87 r sizeOf85 r (o := 1) r r r .mk) (.f [7] r (by kernel_rfl) r r (fun ex => .load1 isAgg85 r .z r r r .mk) (.w [8, 7, 6, 5] [[], [3], [], [1]] [1, 3] r (by kernel_rfl) (by kernel_rfl) (by kernel_rfl) ((dropE_kept r r)) (.inr (dropE_kept r r)) fun ex => ?_))
 have hw10 := W_cmp_Compare_int64 (I := I) hd
 refine .callP call183 r hw10 r r fun v11 hv12 => ?_
 obtain ⟨r9, rfl, hd⟩ := hv12
 refine .some (fun ex => (pto b7 (.cells #[.int .i64 a1.Hi, .int .u64 a1.Lo] 87 (0, 0))) :: (pto b5 (.cells #[.int .i64 a0.Hi, .int .u64 a0.Lo] 87 (0, 0))) :: ex) r (fun _ _ => (.s (.s .z))) r (.cc [7] r (by kernel_rfl) r r r (fun ex => .load1 isAgg85 r .z r r r .mk) (.cc [] r (by kernel_rfl) r r r (fun ex => .fieldAddr underlying87 r sizeOf85 r (o := 1) r r r .mk) (.cc [5] r (by kernel_rfl) r r r (fun ex => .load1 isAgg85 r (.s .z) r r r .mk) (.cc [] r (by kernel_rfl) r r r (fun ex => .fieldAddr underlying87 r sizeOf85 r (o := 1) r r r .mk) trivial)))) (.w [] [[], [8], [], [6]] [6, 8, 4] r (by kernel_rfl) (by kernel_rfl) (by kernel_rfl) ((dropE_kept r r)) (.inr (dropE_kept r r)) fun ex => ?_)
 have hw14 := W_cmp_Compare_uint64 (I := I) hd
 refine .callP call184 r hw14 r r fun v15 hv16 => ?_
 obtain ⟨r13, rfl, hd⟩ := hv16
 refine .some (fun ex => (pto b7 (.cells #[.int .i64 a1.Hi, .int .u64 a1.Lo] 87 (0, 0))) :: (pto b5 (.cells #[.int .i64 a0.Hi, .int .u64 a0.Lo] 87 (0, 0))) :: ex) r (fun _ _ => (.s (.s .z))) r trivial (.w [] [] [4, 9] r (by kernel_rfl) (by kernel_rfl) (by kernel_rfl) ((dropE_kept r r)) (.inr (dropE_kept r r)) fun ex => ?_)
 refine .buildSlice 2 underlying29 sizeOf3 zeroValue3 r r (.c r r r (.c r r r .n)) r r fun b17 => ?_
 refine .some (fun ex => (pto b17 (.cells #[.int .i64 r9, .int .i64 r13] 3 (0, 0))) :: (pto b7 (.cells #[.int .i64 a1.Hi, .int .u64 a1.Lo] 87 (0, 0))) :: (pto b5 (.cells #[.int .i64 a0.Hi, .int .u64 a0.Lo] 87 (0, 0))) :: ex) r (fun _ _ => (.s (.s (.s .z)))) r trivial (.w [] [] [10, 9] r (by kernel_rfl) (by kernel_rfl) (by kernel_rfl) ((dropE_kept r r)) (.inr (dropE_kept r r)) fun ex => ?_)
 refine .pubB (El := eI64) (ys := ([r9, r13] : List Int)) (k := 2) .z (RepCs.cons (cs := [.int .i64 r9]) r (RepCs.cons (cs := [.int .i64 r13]) r .nil)) r fun I19 hl20 R21 => ?_
 have le22 := IH.le.trans (.refl _) hl20
 have hw24 := W_cmp_Or_int (I := I19) R21 hd
 refine .callP call151 r hw24 r r fun v25 hv26 => ?_
 obtain ⟨r23, rfl, hd⟩ := hv26
 exact .some (fun ex => (pto b7 (.cells #[.int .i64 a1.Hi, .int .u64 a1.Lo] 87 (0, 0))) :: (pto b5 (.cells #[.int .i64 a0.Hi, .int .u64 a0.Lo] 87 (0, 0))) :: ex) r (fun _ _ => (.s (.s .z))) r trivial (.e 12 (by kernel_rfl) (by kernel_rfl) (by kernel_rfl) (.skips 1 r (.nilS [4] r r (.drop .z (.drop .z (.ret (pret results163 (.t r .n) le22 ⟨r23, r, hd⟩)))))))

theorem W_ring_lesser {I : IH} {a0 : Wide} {a1 : Wide}  {Q : Wide → Prop}  (hd : ring_lesser a0 a1 Q) :
    PFun Tryz.prog 126 [.agg (encWide a0).toArray, .agg (encWide a1).toArray] I (fun I_ v => ∃ r, v = .agg (encWide r).toArray ∧ Q r) := by
 refine Fun.enter func126 r ntmps126 r (.c (.c .n)) fun w0 M => ?_
 refine .seq (.region (.boxA r r r fun b7 => ?_))
 refine .boxA r r r fun b9 => ?_
 refine .allocA zeroValue87 r r fun b11 => ?_
 refine .nilS [4, 3, 2] r r (.seq (.seq (.region (.loadW isAgg87 sizeOf87 r (.s (.s .z)) r r r (.loadW isAgg87 sizeOf87 r (.s .z) r r r ?_)))))
 have hw14 := W_wide_Compare (I := I) hd
 refine .callP call163 r hw14 r r fun v15 hv16 => ?_
 obtain ⟨r13, rfl, hd⟩ := hv16
 refine .le' r r r r (.nilS [8, 4, 3, 2] r r (.condP r hd (fun hb17 hd => ?_) fun hb17 hd => ?_))
 · exact .seq (.region (.loadW isAgg87 sizeOf87 r (.s (.s .z)) r r r (.storeA sizeOf87 r r .z (.t (.t .nil)) r r (.nilS [4] r r (.drop (.s .z) (.drop (.s .z) (.ret (pret results126 (.w isAgg87 sizeOf87 r .z r .n) (.refl _) ⟨a0, r, hd⟩))))))))
 exact .skipS [4, 3] r r (.drop (.s (.s .z)) (.seq (.region (.loadW isAgg87 sizeOf87 r (.s .z) r r r (.storeA sizeOf87 r r .z (.t (.t .nil)) r r (.nilS [4] r r (.drop (.s .z) (.ret (pret results126 (.w isAgg87 sizeOf87 r .z r .n) (.refl _) ⟨a1, r, hd⟩)))))))))

theorem W_wide_carry {I : IH} {a0 : Bool}  {Q : Int → Prop}  (hd : wide_carry a0 Q) :
    PFun Tryz.prog 164 [.bool a0] I (fun I_ v => ∃ r, v = .int .u64 r ∧ Q r) := by
 refine Fun.enter func164 r ntmps164 r (.c .n) fun w0 M => ?_
 refine .seq (.region (.skips 1 r (.nilS [0] r r (.seq (.seq (.region (.skips 1 r (.nilS [3] r r (.condP r hd (fun hb1 hd => ?_) fun hb1 hd => ?_)))))))))
 · exact .seq (.region (.skips 1 r (.nilS [2] r r (.ret (pret results164 (.t r .n) (.refl _) ⟨1, r, hd⟩)))))
 exact .skipS [] r r (.seq (.region (.skips 1 r (.nilS [2] r r (.ret (pret results164 (.t r .n) (.refl _) ⟨0, r, hd⟩))))))

theorem W_wide_Add {I : IH} {a0 : Wide} {a1 : Wide}  {Q : Wide → Prop}  (hd : wide_Add a0 a1 Q) :
    PFun Tryz.prog 127 [.agg (encWide a0).toArray, .agg (encWide a1).toArray] I (fun I_ v => ∃ r, v = .agg (encWide r).toArray ∧ Q r) := by
 refine Fun.enter func127 r ntmps127 r (.c (.c .n)) fun w0 M => ?_
 refine .seq (.region (.boxA r r r fun b7 => ?_))
 refine .boxA r r r fun b9 => ?_
 refine .allocA zeroValue87 r r fun b11 => ?_
 refine .nilS [4, 3, 2] r r (.seq (.region (.fieldAddr underlying87 r sizeOf85 r (o := 1) r r r (.load1 isAgg85 r (.s (.s .z)) r r r (.fieldAddr underlying87 r sizeOf85 r (o := 1) r r r (.load1 isAgg85 r (.s .z) r r r (.add r r r r (.skips 1 r (.nilS [5, 4, 3, 2] r r ?_)))))))))
 refine .seq (.draw [some 0, some 1, some 2, some 3, some 4, some 5, some 6, some 7, some 8, some 9, some 10, some 14, some 11, some 12, some 13, some 15] 16 MX (by kernel_rfl) (by kernel_rfl) (by kernel_rfl) (by kernel_rfl) (by kernel_rfl) (by kernel_rfl) (by kernel_rfl) (fun ex => (pto b11 (.cells #[.int .i64 0, .int .u64 0] 87 (0, 0))) :: (pto b9 (.cells #[.int .i64 a1.Hi, .int .u64 a1.Lo] 87 (0, 0))) :: (pto b7 (.cells #[.int .i64 a0.Hi, .int .u64 a0.Lo] 87 (0, 0))) :: ex) (fun _ _ => (.s (.s (.s .z)))) r (.f [] r (by kernel_rfl) r r (fun ex => .fieldAddr underlying87 r sizeOf2 r (o := 0) r r r .mk) (.f [0] r (by kernel_rfl) r r (fun ex => .load1 isAgg2 r (.s (.s .z)) r r r .mk) (.f [1] r (by kernel_rfl) r r (fun ex => .conv underlying2 underlying85 r r r .mk) (.f [] r (by kernel_rfl) r r (fun ex => .fieldAddr underlying87 r sizeOf2 r (o := 0) r r r .mk) (.f [3] r (by kernel_rfl) r r (fun ex => .load1 isAgg2 r (.s .z) r r r .mk) (.f [4] r (by kernel_rfl) r r (fun ex => .conv underlying2 underlying85 r r r .mk) (.f [2, 5] r (by kernel_rfl) r r (fun ex => .add r r r r .mk) (.fs [[]] r (by kernel_rfl) ?_)))))))))
 refine .f [] r (by kernel_rfl) r r (fun ex => .fieldAddr underlying87 r sizeOf85 r (o := 1) r r r .mk) (.f [8] r (by kernel_rfl) r r (fun ex => .load1 isAgg85 r (.s .z) r r r .mk) (.f [7, 9] r (by kernel_rfl) r r (fun ex => .lt r r r r .mk) (.fs [[]] r (by kernel_rfl) (.w [14, 6, 5, 4, 3, 2, 1, 0] [[], [10], [9, 10], [10]] [10] r (by kernel_rfl) (by kernel_rfl) (by kernel_rfl) ((dropE_kept r r)) (.inr (dropE_kept r r)) fun ex => ?_))))
 have hw14 := W_wide_carry (I := I) hd
 refine .callP call164 r hw14 r r fun v15 hv16 => ?_
 obtain ⟨r13, rfl, hd⟩ := hv16
 exact .some (fun ex => (pto b11 (.cells #[.int .i64 0, .int .u64 0] 87 (0, 0))) :: (pto b9 (.cells #[.int .i64 a1.Hi, .int .u64 a1.Lo] 87 (0, 0))) :: (pto b7 (.cells #[.int .i64 a0.Hi, .int .u64 a0.Lo] 87 (0, 0))) :: ex) r (fun _ _ => (.s (.s (.s .z)))) r (.ccs [[]] r r (by kernel_rfl) (.cc [2, 5] r (by kernel_rfl) r r r (fun ex => .add r r r r .mk) (.cc [4] r (by kernel_rfl) r r r (fun ex => .conv underlying2 underlying85 r r r .mk) (.cc [3] r (by kernel_rfl) r r r (fun ex => .load1 isAgg2 r (.s .z) r r r .mk) (.cc [] r (by kernel_rfl) r r r (fun ex => .fieldAddr underlying87 r sizeOf2 r (o := 0) r r r .mk) (.cc [1] r (by kernel_rfl) r r r (fun ex => .conv underlying2 underlying85 r r r .mk) (.cc [0] r (by kernel_rfl) r r r (fun ex => .load1 isAgg2 r (.s (.s .z)) r r r .mk) (.cc [] r (by kernel_rfl) r r r (fun ex => .fieldAddr underlying87 r sizeOf2 r (o := 0) r r r .mk) trivial)))))))) (.f [6, 11] r (by kernel_rfl) r r (fun ex => .add r r r r .mk) (.f [12] r (by kernel_rfl) r r (fun ex => .conv underlying85 underlying2 r r r .mk) (.f [13, 14] r (by kernel_rfl) r r (fun ex => .build zeroValue87 underlying87 BI87 (.c r r r (.t .nil) (.c r r r (.s (.t .nil)) .n)) (by exact ⟨⟨_, _, r, r, r⟩, ⟨⟨_, _, r, r, r⟩, trivial⟩⟩) r r .mk) (.e 16 (by kernel_rfl) (by kernel_rfl) (by kernel_rfl) (.storeA sizeOf87 r r .z (.t (.t .nil)) r r (.nilS [4] r r (.drop (.s .z) (.drop (.s .z) (.ret (pret results127 (.w isAgg87 sizeOf87 r .z r .n) (.refl _) ⟨({ Hi := w64 (IntKind.wrap .u64 ((IntKind.wrap .u64 ((IntKind.wrap .u64 (a0.Hi)) + (IntKind.wrap .u64 (a1.Hi)))) + r13)), Lo := IntKind.wrap .u64 (a0.Lo + a1.Lo) } : Wide), r, hd⟩))))))))))

theorem W_ring_Add {I : IH} {a0 : Int} {a1 : Wide} {a2 : Wide}  {Q : Wide → Prop}  (hd : ring_Add a0 a1 a2 Q) :
    PFun Tryz.prog 102 [.int .i64 a0, .agg (encWide a1).toArray, .agg (encWide a2).toArray] I (fun I_ v => ∃ r, v = .agg (encWide r).toArray ∧ Q r) := by
 refine Fun.enter func102 r ntmps102 r (.c (.c (.c .n))) fun w0 M => ?_
 refine .seq (.region (.boxA r r r fun b7 => ?_))
 refine .boxA r r r fun b9 => ?_
 refine .allocA zeroValue87 r r fun b11 => ?_
 refine .nilS [6, 5, 4, 0] r r (.seq (.seq (.region (.skips 1 r (.nilS [7, 6, 5, 4] r r (.block (.seq ?_)))))))
 refine Cod.joinQ (σ := Bool) hd (fun (s17 : Bool) c w => ∃ I_, IH.le I I_ ∧ Ok ⟨32, [], none⟩ [(4, .pointer (some ⟨b7, 0, none⟩)), (5, .pointer (some ⟨b9, 0, none⟩)), (6, .pointer (some ⟨b11, 0, none⟩)), (7, .int .i64 a0), (8, .bool s17)] c ∧ Sym w0 M I I_ [pto b7 (.cells #[.int .i64 a1.Hi, .int .u64 a1.Lo] 87 (0, 0)), pto b9 (.cells #[.int .i64 a2.Hi, .int .u64 a2.Lo] 87 (0, 0)), pto b11 (.cells #[.int .i64 0, .int .u64 0] 87 (0, 0))] w) (fun k18 hd => ?_) ?_
 · skip
   refine .seq (.region (.eq r r r r (.skips 1 r (.nilS [8, 7, 6, 5, 4] r r (.condP r hd (fun hb19 hd => ?_) fun hb19 hd => ?_)))))
   · exact .skip' fun c w ho hs => ⟨(a0 == 1), hd, I, (.refl _), ho.sub ⟨r, r, r, r, r, trivial⟩, hs.pick (.c (.s (.s .z)) (.c (.s .z) (.c .z .n)))⟩
   refine .seq (.region (.eq r r r r (.sub (E' := [(4, _), (5, _), (6, _), (7, _), (10, _)]) ⟨r, r, r, r, r, trivial⟩ (.skips 1 r (.nilS [8, 7, 6, 5, 4] r r (.condP r hd (fun hb20 hd => ?_) fun hb20 hd => ?_))))))
   · exact .skip' fun c w ho hs => ⟨(a0 == 3), hd, I, (.refl _), ho.sub ⟨r, r, r, r, r, trivial⟩, hs.pick (.c (.s (.s .z)) (.c (.s .z) (.c .z .n)))⟩
   exact .region (.eq r r r r (.sub (E' := [(4, _), (5, _), (6, _), (7, _), (11, _)]) ⟨r, r, r, r, r, trivial⟩ (.skips 1 r (.nil' fun c w ho hs => ⟨(a0 == 4), hd, I, (.refl _), ho.sub ⟨r, r, r, r, r, trivial⟩, hs.pick (.c (.s (.s .z)) (.c (.s .z) (.c .z .n)))⟩))))
 rintro s17 hd c w hst
 obtain ⟨I21, hl22, hok, hsym⟩ := hst
 have le23 := IH.le.trans (.refl _) hl22
 refine Cod.at hok hsym (.condP r hd (fun hb24 hd => ?_) fun hb24 hd => ?_)
 · refine .seq (.region (.loadW isAgg87 sizeOf87 r .z r r r (.loadW isAgg87 sizeOf87 r (.s .z) r r r ?_)))
   have hw26 := W_ring_lesser (I := I21) hd
   refine .callP call126 r hw26 r r fun v27 hv28 => ?_
   obtain ⟨r25, rfl, hd⟩ := hv28
   exact .storeA sizeOf87 r r (.s (.s .z)) (.t (.t .nil)) r r (.nilS [6] r r (.drop .z (.drop .z (.ret (pret results102 (.w isAgg87 sizeOf87 r .z r .n) le23 ⟨r25, r, hd⟩)))))
 refine .seq (.region (.eq r r r r (.skips 1 r (.nilS [15, 7, 6, 5, 4] r r (.condP r hd (fun hb29 hd => ?_) fun hb29 hd => ?_)))))
 · refine .seq (.region (.loadW isAgg87 sizeOf87 r .z r r r (.loadW isAgg87 sizeOf87 r (.s .z) r r r (.neV r r (EQ87 a1 a2) (EG87 _ _ _ _ _) r r r (.skips 1 r ?_)))))
   refine splitP hd (fun hb30 hd => ?_) fun hb30 hd => ?_
   · rw [hb30]
     refine .skips 4 r ?_
     have hw32 := W_ring_truth (I := I21) hd
     refine .callP call123 r hw32 r r fun v33 hv34 => ?_
     obtain ⟨r31, rfl, hd⟩ := hv34
     exact .storeA sizeOf87 r r (.s (.s .z)) (.t (.t .nil)) r r (.nilS [6] r r (.drop .z (.drop .z (.ret (pret results102 (.w isAgg87 sizeOf87 r .z r .n) le23 ⟨r31, r, hd⟩)))))
   rw [hb30]
   refine .gyes r r r (.loadW isAgg87 sizeOf87 r .z r r r (.gyes r r r (.build zeroValue87 underlying87 BI87 .n (by exact trivial) r r (.gyes r r r (.neV r r (EQ87 a1 ({ Hi := 0, Lo := 0 } : Wide)) (EG87 _ _ _ _ _) r r r (.skips 1 r ?_))))))
   have hw36 := W_ring_truth (I := I21) hd
   refine .callP call123 r hw36 r r fun v37 hv38 => ?_
   obtain ⟨r35, rfl, hd⟩ := hv38
   exact .storeA sizeOf87 r r (.s (.s .z)) (.t (.t .nil)) r r (.nilS [6] r r (.drop .z (.drop .z (.ret (pret results102 (.w isAgg87 sizeOf87 r .z r .n) le23 ⟨r35, r, hd⟩)))))
 refine .seq (.region (.eq r r r r (.skips 1 r (.nilS [26, 6, 5, 4] r r (.condP r hd (fun hb39 hd => ?_) fun hb39 hd => ?_)))))
 · refine .seq (.region (.loadW isAgg87 sizeOf87 r .z r r r (.loadW isAgg87 sizeOf87 r (.s .z) r r r ?_)))
   have hw41 := W_wide_Add (I := I21) hd
   refine .callP call127 r hw41 r r fun v42 hv43 => ?_
   obtain ⟨r40, rfl, hd⟩ := hv43
   exact .storeA sizeOf87 r r (.s (.s .z)) (.t (.t .nil)) r r (.nilS [6] r r (.drop .z (.drop .z (.ret (pret results102 (.w isAgg87 sizeOf87 r .z r .n) le23 ⟨r40, r, hd⟩)))))
 exact .skipS [6] r r (.drop .z (.drop .z (.seq (.region (.build zeroValue87 underlying87 BI87 .n (by exact trivial) r r (.storeA sizeOf87 r r .z (.t (.t .nil)) r r (.nilS [6] r r (.ret (pret results102 (.w isAgg87 sizeOf87 r .z r .n) le23 ⟨({ Hi := 0, Lo := 0 } : Wide), r, hd⟩)))))))))

theorem W_push_Merge_1_d96 {I : IH} {a0 : List Sum} {p1 : Option Addr} {c2 : Nat} {Q : Bool → Prop} (R3 : RepSl eSum I p1 c2 a0) (hd : push_Merge_1_d96 a0 Q) :
    Fun Tryz.prog 55 #[.slice p1 a0.length c2] I [] (fun I_ v l => ∃ r, v = .bool r ∧ l = [] ∧ Q r) := by
 refine Fun.enter (vs := [.slice p1 a0.length c2]) func55 r ntmps55 r (.c .n) fun w0 M => ?_
 refine .seq (.region (.skips 1 r (.nilS [0] r r (.seq (.region (.skips 1 r ?_))))))
 have hw5 := W_push_rises (I := I) R3 hd
 refine .callP call56 r hw5 r r fun v6 hv7 => ?_
 obtain ⟨r4, rfl, hd⟩ := hv7
 exact .not r r r (.skips 1 r (.nilS [2] r r (.ret (oret results55 (.t r .n) (.refl _) .n ⟨(!r4), r, r, hd⟩))))

theorem W_slices_IndexFunc_api_Sum_api_Sum_acf {I : IH} {a0 : List (List Sum)} {p1 : Option Addr} {c2 : Nat} {Q : Int → Prop} (R3 : RepSl (slEl eSum) I p1 c2 a0) (hd : slices_IndexFunc_api_Sum_api_Sum_acf a0 Q) :
    Fun Tryz.prog 99 #[.slice p1 a0.length c2, .func (.func 55) #[] #[]] I [] (fun I_ v l => ∃ r, v = .int .i64 r ∧ l = [] ∧ Q r) := by
 refine Fun.enter (vs := [.slice p1 a0.length c2, .func (.func 55) #[] #[]]) func99 r ntmps99 r (.c (.c .n)) fun w0 M => ?_
 refine .seq (.region (.skips 1 r (.nilS [1, 0] r r (.seq (.seq (.region (.skips 1 r (.len underlying75 r r r r (.skips 1 r ?_)))))))))
 refine .nilS [8, 7, 1, 0] r r (.block (.loop hd (fun (s53 : Int) c w => ∃ I_, IH.le I I_ ∧ Ok ⟨19, [], none⟩ [(0, .slice p1 a0.length c2), (1, .func (.func 55) #[] #[]), (7, .int .i64 (a0.length : Int)), (8, .int .i64 s53)] c ∧ Sym w0 M I I_ [] w) (fun c w ho hs => ⟨I, (.refl _), ho.sub ⟨r, r, r, r, trivial⟩, hs.pick .n⟩) ?_))
 rintro s53 next54 hd c w hst
 obtain ⟨I55, hl56, hok, hsym⟩ := hst
 have le57 := IH.le.trans (.refl _) hl56
 replace R3 := R3.mono hl56
 refine Cod.at hok hsym (.seq (.region (.lt r r r r (.nilS [9, 8, 7, 1, 0] r r (.seq (.condP r hd (fun hb59 hd => ?_) fun hb59 hd => ?_))))))
 · refine .skipS [8, 7, 1, 0] r r (.seq (.block (.seq (.region (.skips 2 r (.nilS [5, 8, 7, 1, 0] r r (.seq (.region (.skips 3 r ?_)))))))))
   obtain ⟨h60, x61, hx62, hd⟩ := hd
   obtain ⟨b63, o64, cs65, e66, hC67, hr68⟩ := R3.2 _ _ hx62
   obtain ⟨p69, c70, rfl, R71⟩ := hr68
   refine .ixa underlying75 sizeOf41 r e66 r h60 (idx_lt hx62 h60) r r (.ld1 (j := 0) isAgg41 hC67 r r r r r ?_)
   have hw72 := W_push_Merge_1_d96 (I := I55) (a0 := x61) R71 hd
   refine .callS (.c call55 r r) .n hw72 r r fun v76 I73 l77 hl74 hv75 => ?_
   obtain ⟨r78, rfl, rfl, hd⟩ := hv75
   have le79 := IH.le.trans le57 hl74
   replace R3 := R3.mono hl74
   replace R71 := R71.mono hl74
   replace hC67 := hC67.mono hl74
   refine .re (m' := []) r (.nilS [16, 5, 8, 7, 1, 0] r r (.condP r hd (fun hb80 hd => ?_) fun hb80 hd => ?_))
   · exact .seq (.region (.skips 2 r (.nilS [4, 1] r r (.ret (oret results99 (.t r .n) le79 .n ⟨s53, r, r, hd⟩)))))
   exact .skipS [8, 7, 1, 0] r r (.region (.add r r r r (.sub (E' := [(0, _), (1, _), (7, _), (18, _)]) ⟨r, r, r, r, trivial⟩ (.skips 1 r (.nil' fun c w ho hs => ⟨(w64 (s53 + 1)), hd, I73, le79, ho.sub ⟨r, r, r, r, trivial⟩, hs.pick .n⟩)))))
 exact .exitS [1] r r (.seq (.region (.skips 1 r (.nilS [4, 1] r r (.ret (oret results99 (.t r .n) le57 .n ⟨(-1), r, r, hd⟩))))))

theorem W_slices_ContainsFunc_api_Sum_api_Sum_bfd {I : IH} {a0 : List (List Sum)} {p1 : Option Addr} {c2 : Nat} {Q : Bool → Prop} (R3 : RepSl (slEl eSum) I p1 c2 a0) (hd : slices_ContainsFunc_api_Sum_api_Sum_bfd a0 Q) :
    Fun Tryz.prog 54 #[.slice p1 a0.length c2, .func (.func 55) #[] #[]] I [] (fun I_ v l => ∃ r, v = .bool r ∧ l = [] ∧ Q r) := by
 refine Fun.enter (vs := [.slice p1 a0.length c2, .func (.func 55) #[] #[]]) func54 r ntmps54 r (.c (.c .n)) fun w0 M => ?_
 refine .seq (.region (.skips 1 r (.nilS [1, 0] r r (.seq (.region (.skips 2 r ?_))))))
 have hw4 := W_slices_IndexFunc_api_Sum_api_Sum_acf (I := I) (a0 := a0) R3 hd
 refine .callS (.f call99 r) .n hw4 r r fun v8 I5 l9 hl6 hv7 => ?_
 obtain ⟨r10, rfl, rfl, hd⟩ := hv7
 have le11 := IH.le.trans (.refl _) hl6
 replace R3 := R3.mono hl6
 exact .re (m' := []) r (.ge r r r r (.skips 1 r (.nilS [4, 1] r r (.ret (oret results54 (.t r .n) le11 .n ⟨(decide (0 ≤ r10)), r, r, hd⟩)))))

theorem W_push_heads_Push_5fa {I : IH} {o0 : Push_merger} {a0 : Push_head} {b2 : Nat} {p3 : Option Addr} {c4 : Nat} {p6 : Option Addr} {c7 : Nat} {p11 : Option Addr} {c12 : Nat} {Q : Push_merger → Prop} (R13 : RepSl eSum I p11 c12 a0.l) (hd : push_heads_Push_5fa o0 a0 Q) :
    Fun Tryz.prog 213 #[.pointer (some ⟨b2, 0, none⟩), .iface 146 (.agg #[.slice p11 a0.l.length c12, .int .i64 a0.which])] I [pto b2 (.cells #[.slice p3 o0.heads.length c4, .int .i64 o0.r, .slice p6 o0.out.length c7] 101 (0, 0)), OwnSl ePush_head 146 p3 c4 o0.heads, OwnSl eSum 89 p6 c7 o0.out] (fun I_ v l => ∃ r p15 c16 p18 c19, v = .tuple #[] ∧ l = [pto b2 (.cells #[.slice p15 r.heads.length c16, .int .i64 r.r, .slice p18 r.out.length c19] 101 (0, 0)), OwnSl ePush_head 146 p15 c16 r.heads, OwnSl eSum 89 p18 c19 r.out] ∧ Q r) := by
 refine Fun.enter (vs := [.pointer (some ⟨b2, 0, none⟩), .iface 146 (.agg #[.slice p11 a0.l.length c12, .int .i64 a0.which])]) func213 r ntmps213 r (.c (.c .n)) fun w0 M => ?_
 refine .seq (.region (.skips 1 r (.assertOk underlying146 r r r r (.skips 1 r (.extract r r r r (.extract r r r r (.allocA zeroValue146 r r fun b16 => ?_)))))))
 refine .storeA sizeOf146 r r .z (.t (.t .nil)) r r (.skips 1 r (.nilS [5, 4, 0] r r (.seq (.region (.skips 1 r (.nilS [11, 4, 0] r r (.condKT r r (.draw [some 0, some 1, some 2, some 3, some 4, some 5, some 6] 7 MX (by kernel_rfl) (by kernel_rfl) (by kernel_rfl) (by kernel_rfl) (by kernel_rfl) (by kernel_rfl) (by kernel_rfl) (fun ex => (pto b16 (.cells #[.slice p11 a0.l.length c12, .int .i64 a0.which] 146 (0, 0))) :: (pto b2 (.cells #[.slice p3 o0.heads.length c4, .int .i64 o0.r, .slice p6 o0.out.length c7] 101 (0, 0))) :: (OwnSl ePush_head 146 p3 c4 o0.heads) :: (OwnSl eSum 89 p6 c7 o0.out) :: ex) (fun _ _ => (.s (.s (.s (.s .z))))) r (.fs [[], []] r (by kernel_rfl) ?_)))))))))
 refine .f [1] r (by kernel_rfl) r r (fun ex => .nilCheckP r r r .mk) (.f [2] r (by kernel_rfl) r r (fun ex => .load1 isAgg99 r (.s .z) r r r .mk) (.f [] r (by kernel_rfl) r r (fun ex => .loadW isAgg146 sizeOf146 r .z r r r .mk) (.w [3, 2, 1, 0] [[]] [4] r (by kernel_rfl) (by kernel_rfl) (by kernel_rfl) ((dropE_kept r r)) (.inr (dropE_kept r r)) fun ex => ?_)))
 refine .buildSlice 1 underlying99 sizeOf146 zeroValue146 r r (.c r r r .n) r r fun b18 => ?_
 refine .some (fun ex => (pto b18 (.cells #[.slice p11 a0.l.length c12, .int .i64 a0.which] 146 (0, 0))) :: (pto b16 (.cells #[.slice p11 a0.l.length c12, .int .i64 a0.which] 146 (0, 0))) :: (pto b2 (.cells #[.slice p3 o0.heads.length c4, .int .i64 o0.r, .slice p6 o0.out.length c7] 101 (0, 0))) :: (OwnSl ePush_head 146 p3 c4 o0.heads) :: (OwnSl eSum 89 p6 c7 o0.out) :: ex) r (fun _ _ => (.s (.s (.s (.s (.s .z)))))) r (.cc [2] r (by kernel_rfl) r r r (fun ex => .load1 isAgg99 r (.s (.s .z)) r r r .mk) (.cc [1] r (by kernel_rfl) r r r (fun ex => .nilCheckP r r r .mk) (.ccs [[], []] r r (by kernel_rfl) trivial))) (.w [0] [[], [3], [2, 3]] [3, 5] r (by kernel_rfl) (by kernel_rfl) (by kernel_rfl) ((dropE_kept r r)) (.inr (dropE_kept r r)) fun ex => ?_)
 obtain ⟨hl20, hd⟩ := hd
 refine .append (ys := [a0]) 32 (.s (.s (.s .z))) underlying99 underlying99 IN146 r r r r r r r r r (.box .z (.one ⟨_, _, r, R13⟩) r) hl20 r r fun p21 c22 => ?_
 exact .some (fun ex => (OwnSl ePush_head 146 p21 c22 (o0.heads ++ ([a0]))) :: (pto b18 (.cells #[.slice p11 a0.l.length c12, .int .i64 a0.which] 146 (0, 0))) :: (pto b16 (.cells #[.slice p11 a0.l.length c12, .int .i64 a0.which] 146 (0, 0))) :: (pto b2 (.cells #[.slice p3 o0.heads.length c4, .int .i64 o0.r, .slice p6 o0.out.length c7] 101 (0, 0))) :: (OwnSl eSum 89 p6 c7 o0.out) :: ex) r (fun _ _ => (.s (.s (.s (.s (.s .z)))))) r (.ccs [[]] r r (by kernel_rfl) trivial) (.e 7 (by kernel_rfl) (by kernel_rfl) (by kernel_rfl) (.nilCheckP r r r (.store1 sizeOf99 r r (.s (.s (.s .z))) (.t .nil) r (.nil' (oretN results213 .n (.refl _) (.c (.s (.s (.s .z))) (.c .z (.c (.s (.s .z)) .n))) ⟨({ heads := (o0.heads ++ ([a0])), r := o0.r, out := o0.out } : Push_merger), _, _, _, _, r, r, hd⟩)))))

theorem W_push_heads_Len_66a {I : IH} {o0 : List Push_head} {p2 : Option Addr} {c3 : Nat} {Q : Int → Prop}  (hd : push_heads_Len_66a o0 Q) :
    Fun Tryz.prog 58 #[.slice p2 o0.length c3] I [OwnSl ePush_head 146 p2 c3 o0] (fun I_ v l => ∃ r, v = .int .i64 r ∧ l = [OwnSl ePush_head 146 p2 c3 o0] ∧ Q r) := by
 refine Fun.enter (vs := [.slice p2 o0.length c3]) func58 r ntmps58 r (.c .n) fun w0 M => ?_
 refine .seq (.region (.skips 1 r (.nilS [0] r r (.seq (.region (.skips 1 r (.len underlying99 r r r r (.skips 1 r (.nilS [2, 0] r r ?_)))))))))
 exact .ret (oret results58 (.t r .n) (.refl _) (.c .z .n) ⟨(o0.length : Int), r, r, hd⟩)

theorem W_spvec_within {I : IH} {a0 : Int} {a1 : Int}  {Q : Bool → Prop}  (hd : spvec_within a0 a1 Q) :
    PFun Tryz.prog 115 [.int .i64 a0, .int .i64 a1] I (fun I_ v => ∃ r, v = .bool r ∧ Q r) := by
 refine Fun.enter func115 r ntmps115 r (.c (.c .n)) fun w0 M => ?_
 refine .seq (.region (.skips 1 r (.nilS [1, 0] r r (.seq (.region (.skips 1 r (.ge r r r r (.skips 1 r ?_))))))))
 refine splitP hd (fun hb1 hd => ?_) fun hb1 hd => ?_
 · rw [hb1]
   exact .gyes r r r (.move r r r (.gyes r r r (.move r r r (.gyes r r r (.le' r r r r (.skips 2 r (.nilS [4] r r (.ret (pret results115 (.t r .n) (.refl _) ⟨(decide (a0 ≤ a1)), r, hd⟩)))))))))
 rw [hb1]
 exact .skips 5 r (.nilS [4] r r (.ret (pret results115 (.t r .n) (.refl _) ⟨false, r, hd⟩)))

theorem W_spvec_Right_1_81a {I : IH} {o0 : Int} {o1 : Vec} {a0 : Item} {b3 : Nat} {b4 : Nat} {p5 : Option Addr} {c6 : Nat} {Q : (Bool × Int) → Prop} (R7 : RepSl eItem I p5 c6 o1.Items) (hd : spvec_Right_1_81a o0 o1 a0 Q) :
    Fun Tryz.prog 117 #[.agg (encItem a0).toArray, .pointer (some ⟨b3, 0, none⟩), .pointer (some ⟨b4, 0, none⟩)] I [pto b3 (.cells #[.int .i64 o0] 3 (0, 0)), pto b4 (.cells #[.int .i64 o1.N, .slice p5 o1.Items.length c6] 38 (0, 0))] (fun I_ v l => ∃ r, v = .bool r.1 ∧ l = [pto b3 (.cells #[.int .i64 r.2] 3 (0, 0)), pto b4 (.cells #[.int .i64 o1.N, .slice p5 o1.Items.length c6] 38 (0, 0))] ∧ Q r) := by
 refine Fun.enter (vs := [.agg (encItem a0).toArray, .pointer (some ⟨b3, 0, none⟩), .pointer (some ⟨b4, 0, none⟩)]) func117 r ntmps117 r (.c (.c (.c .n))) fun w0 M => ?_
 refine .seq (.region (.boxA r r r fun b10 => ?_))
 refine .skips 1 r (.nilS [3, 2, 1] r r (.seq (.region (.fieldAddr underlying67 r sizeOf3 r (o := 0) r r r (.load1 isAgg3 r .z r r r (.load1 isAgg3 r (.s .z) r r r (.le' r r r r (.skips 1 r ?_))))))))
 refine splitP hd (fun hb12 hd => ?_) fun hb12 hd => ?_
 · rw [hb12]
   refine .skips 7 r (.nilS [5, 3, 2, 1] r r (.seq (.region (.fieldAddr underlying67 r sizeOf3 r (o := 0) r r r (.load1 isAgg3 r .z r r r (.store1 sizeOf3 r r (.s .z) (.t .nil) r (.nilS [5, 2, 1] r r (.drop .z (.seq ?_)))))))))
   exact .region (.skips 2 r (.nilS [4, 2, 1] r r (.ret (oret results117 (.t r .n) (.refl _) (.c .z (.c .z .n)) ⟨(true, a0.At), r, r, hd⟩))))
 rw [hb12]
 refine .gyes r r r (.fieldAddr underlying67 r sizeOf3 r (o := 0) r r r (.gyes r r r (.load1 isAgg3 r .z r r r (.gyes r r r (.fieldAddr underlying38 r sizeOf3 r (o := 0) r r r (.gyes r r r (.load1 isAgg3 r (.s (.s .z)) r r r (.gyes r r r (.ge r r r r (.skips 2 r (.nilS [5, 3, 2, 1] r r (.seq (.region (.fieldAddr underlying67 r sizeOf3 r (o := 0) r r r ?_))))))))))))))
 exact .load1 isAgg3 r .z r r r (.store1 sizeOf3 r r (.s .z) (.t .nil) r (.nilS [5, 2, 1] r r (.drop .z (.seq (.region (.skips 2 r (.nilS [4, 2, 1] r r (.ret (oret results117 (.t r .n) (.refl _) (.c .z (.c .z .n)) ⟨(decide (o1.N ≤ a0.At), a0.At), r, r, hd⟩)))))))))

theorem W_slices_IndexFunc_api_Item_api_Item_a3e {I : IH} {o0 : Int} {o1 : Vec} {a0 : List Item} {b3 : Nat} {b4 : Nat} {p5 : Option Addr} {c6 : Nat} {p8 : Option Addr} {c9 : Nat} {Q : (Int × Int) → Prop} (R7 : RepSl eItem I p5 c6 o1.Items) (R10 : RepSl eItem I p8 c9 a0) (hd : slices_IndexFunc_api_Item_api_Item_a3e o0 o1 a0 Q) :
    Fun Tryz.prog 158 #[.slice p8 a0.length c9, .func (.func 117) #[] #[.pointer (some ⟨b3, 0, none⟩), .pointer (some ⟨b4, 0, none⟩)]] I [pto b3 (.cells #[.int .i64 o0] 3 (0, 0)), pto b4 (.cells #[.int .i64 o1.N, .slice p5 o1.Items.length c6] 38 (0, 0))] (fun I_ v l => ∃ r, v = .int .i64 r.1 ∧ l = [pto b3 (.cells #[.int .i64 r.2] 3 (0, 0)), pto b4 (.cells #[.int .i64 o1.N, .slice p5 o1.Items.length c6] 38 (0, 0))] ∧ Q r) := by
 refine Fun.enter (vs := [.slice p8 a0.length c9, .func (.func 117) #[] #[.pointer (some ⟨b3, 0, none⟩), .pointer (some ⟨b4, 0, none⟩)]]) func158 r ntmps158 r (.c (.c .n)) fun w0 M => ?_
 refine .seq (.region (.skips 1 r (.nilS [1, 0] r r (.seq (.seq (.region (.skips 1 r (.len underlying25 r r r r (.skips 1 r ?_)))))))))
 refine .nilS [8, 7, 1, 0] r r (.block (.loop hd (fun (s : Int × Int) c w => match s with | (s61, s62) => ∃ I_, IH.le I I_ ∧ Ok ⟨19, [], none⟩ [(0, .slice p8 a0.length c9), (1, .func (.func 117) #[] #[.pointer (some ⟨b3, 0, none⟩), .pointer (some ⟨b4, 0, none⟩)]), (7, .int .i64 (a0.length : Int)), (8, .int .i64 s62)] c ∧ Sym w0 M I I_ [pto b3 (.cells #[.int .i64 s61] 3 (0, 0)), pto b4 (.cells #[.int .i64 o1.N, .slice p5 o1.Items.length c6] 38 (0, 0))] w) (fun c w ho hs => ⟨I, (.refl _), ho.sub ⟨r, r, r, r, trivial⟩, hs.pick (.c .z (.c .z .n))⟩) ?_))
 rintro ⟨s61, s62⟩ next63 hd c w hst
 obtain ⟨I64, hl65, hok, hsym⟩ := hst
 have le66 := IH.le.trans (.refl _) hl65
 replace R7 := R7.mono hl65
 replace R10 := R10.mono hl65
 refine Cod.at hok hsym (.seq (.region (.lt r r r r (.nilS [9, 8, 7, 1, 0] r r (.seq (.condP r hd (fun hb68 hd => ?_) fun hb68 hd => ?_))))))
 · refine .skipS [8, 7, 1, 0] r r (.seq (.block (.seq (.region (.skips 2 r (.nilS [5, 8, 7, 1, 0] r r (.seq (.region (.skips 3 r ?_)))))))))
   obtain ⟨h69, x70, hx71, hd⟩ := hd
   obtain ⟨b72, o73, cs74, e75, hC76, hr77⟩ := R10.2 _ _ hx71
   cases hr77
   refine .ixa underlying25 sizeOf67 r e75 r h69 (idx_lt hx71 h69) r r (.ldW isAgg67 sizeOf67 hC76 r r r r ?_)
   have hw78 := W_spvec_Right_1_81a (I := I64) (o0 := s61) (o1 := o1) (a0 := x70) (b3 := b3) (b4 := b4) (p5 := p5) (c6 := c6) R7 hd
   refine .callS (.c call117 r r) (.c .z (.c .z .n)) hw78 r r fun v82 I79 l83 hl80 hv81 => ?_
   obtain ⟨r84, rfl, rfl, hd⟩ := hv81
   have le87 := IH.le.trans le66 hl80
   replace R7 := R7.mono hl80
   replace R10 := R10.mono hl80
   replace hC76 := hC76.mono hl80
   refine .re (m' := [pto b3 (.cells #[.int .i64 r84.2] 3 (0, 0)), pto b4 (.cells #[.int .i64 o1.N, .slice p5 o1.Items.length c6] 38 (0, 0))]) r (.nilS [16, 5, 8, 7, 1, 0] r r (.condP r hd (fun hb88 hd => ?_) fun hb88 hd => ?_))
   · exact .seq (.region (.skips 2 r (.nilS [4, 1] r r (.ret (oret results158 (.t r .n) le87 (.c .z (.c .z .n)) ⟨(s62, r84.2), r, r, hd⟩)))))
   exact .skipS [8, 7, 1, 0] r r (.region (.add r r r r (.sub (E' := [(0, _), (1, _), (7, _), (18, _)]) ⟨r, r, r, r, trivial⟩ (.skips 1 r (.nil' fun c w ho hs => ⟨(r84.2, w64 (s62 + 1)), hd, I79, le87, ho.sub ⟨r, r, r, r, trivial⟩, hs.pick (.c .z (.c .z .n))⟩)))))
 exact .exitS [1] r r (.seq (.region (.skips 1 r (.nilS [4, 1] r r (.ret (oret results158 (.t r .n) le66 (.c .z (.c .z .n)) ⟨((-1), s61), r, r, hd⟩))))))

theorem W_slices_ContainsFunc_api_Item_api_Item_cd0 {I : IH} {o0 : Int} {o1 : Vec} {a0 : List Item} {b3 : Nat} {b4 : Nat} {p5 : Option Addr} {c6 : Nat} {p8 : Option Addr} {c9 : Nat} {Q : (Bool × Int) → Prop} (R7 : RepSl eItem I p5 c6 o1.Items) (R10 : RepSl eItem I p8 c9 a0) (hd : slices_ContainsFunc_api_Item_api_Item_cd0 o0 o1 a0 Q) :
    Fun Tryz.prog 116 #[.slice p8 a0.length c9, .func (.func 117) #[] #[.pointer (some ⟨b3, 0, none⟩), .pointer (some ⟨b4, 0, none⟩)]] I [pto b3 (.cells #[.int .i64 o0] 3 (0, 0)), pto b4 (.cells #[.int .i64 o1.N, .slice p5 o1.Items.length c6] 38 (0, 0))] (fun I_ v l => ∃ r, v = .bool r.1 ∧ l = [pto b3 (.cells #[.int .i64 r.2] 3 (0, 0)), pto b4 (.cells #[.int .i64 o1.N, .slice p5 o1.Items.length c6] 38 (0, 0))] ∧ Q r) := by
 refine Fun.enter (vs := [.slice p8 a0.length c9, .func (.func 117) #[] #[.pointer (some ⟨b3, 0, none⟩), .pointer (some ⟨b4, 0, none⟩)]]) func116 r ntmps116 r (.c (.c .n)) fun w0 M => ?_
 refine .seq (.region (.skips 1 r (.nilS [1, 0] r r (.seq (.region (.skips 2 r ?_))))))
 have hw11 := W_slices_IndexFunc_api_Item_api_Item_a3e (I := I) (o0 := o0) (o1 := o1) (a0 := a0) (b3 := b3) (b4 := b4) (p5 := p5) (c6 := c6) R7 R10 hd
 refine .callS (.f call158 r) (.c .z (.c .z .n)) hw11 r r fun v15 I12 l16 hl13 hv14 => ?_
 obtain ⟨r17, rfl, rfl, hd⟩ := hv14
 have le20 := IH.le.trans (.refl _) hl13
 replace R7 := R7.mono hl13
 replace R10 := R10.mono hl13
 exact .re (m' := [pto b3 (.cells #[.int .i64 r17.2] 3 (0, 0)), pto b4 (.cells #[.int .i64 o1.N, .slice p5 o1.Items.length c6] 38 (0, 0))]) r (.ge r r r r (.skips 1 r (.nilS [4, 1] r r (.ret (oret results116 (.t r .n) le20 (.c .z (.c .z .n)) ⟨(decide (0 ≤ r17.1), r17.2), r, r, hd⟩)))))

theorem W_spvec_Right {I : IH} {a0 : Vec} {p1 : Option Addr} {c2 : Nat} {Q : Bool → Prop} (R3 : RepSl eItem I p1 c2 a0.Items) (hd : spvec_Right a0 Q) :
    PFun Tryz.prog 67 [.agg #[.int .i64 a0.N, .slice p1 a0.Items.length c2]] I (fun I_ v => ∃ r, v = .bool r ∧ Q r) := by
 refine Fun.enter func67 r ntmps67 r (.c .n) fun w0 M => ?_
 refine .seq (.region (.boxA r r r fun b6 => ?_))
 refine .skips 1 r (.nilS [1] r r (.seq (.seq (.region (.fieldAddr underlying38 r sizeOf3 r (o := 0) r r r (.load1 isAgg3 r .z r r r ?_))))))
 have hw14 := W_spvec_within (I := I) hd
 refine .callP call115 r hw14 r r fun v15 hv16 => ?_
 obtain ⟨r13, rfl, hd⟩ := hv16
 refine .not r r r (.nilS [7, 1] r r (.condP r hd (fun hb17 hd => ?_) fun hb17 hd => ?_))
 · exact .seq (.region (.skips 1 r (.nilS [2] r r (.drop .z (.ret (pret results67 (.t r .n) (.refl _) ⟨false, r, hd⟩))))))
 refine .skipS [1] r r (.seq (.region (.alloc1 zeroValue3 r r r fun b18 => ?_)))
 refine .store1 sizeOf3 r r .z (.t .nil) r (.nilS [3, 1] r r (.seq (.region (.fieldAddr underlying38 r sizeOf25 r (o := 1) r r r (.load1 isAgg25 r (.s .z) r r r (.mkFn r r r r ?_))))))
 have hw20 := W_slices_ContainsFunc_api_Item_api_Item_cd0 (I := I) (o0 := (-1)) (o1 := a0) (a0 := a0.Items) (b3 := b18) (b4 := b6) (p5 := p1) (c6 := c2) R3 R3 hd
 refine .callS (.f call116 r) (.c .z (.c .z .n)) hw20 r r fun v24 I21 l25 hl22 hv23 => ?_
 obtain ⟨r26, rfl, rfl, hd⟩ := hv23
 have le29 := IH.le.trans (.refl _) hl22
 replace R3 := R3.mono hl22
 exact .re (m' := [pto b18 (.cells #[.int .i64 r26.2] 3 (0, 0)), pto b6 (.cells #[.int .i64 a0.N, .slice p1 a0.Items.length c2] 38 (0, 0))]) r (.not r r r (.skips 1 r (.nilS [2] r r (.drop .z (.drop .z (.ret (pret results67 (.t r .n) le29 ⟨(!r26.1), r, hd⟩)))))))

theorem W_dcsc_within {I : IH} {a0 : Int} {a1 : Int}  {Q : Bool → Prop}  (hd : dcsc_within a0 a1 Q) :
    PFun Tryz.prog 121 [.int .i64 a0, .int .i64 a1] I (fun I_ v => ∃ r, v = .bool r ∧ Q r) := by
 refine Fun.enter func121 r ntmps121 r (.c (.c .n)) fun w0 M => ?_
 refine .seq (.region (.skips 1 r (.nilS [1, 0] r r (.seq (.region (.skips 1 r (.ge r r r r (.skips 1 r ?_))))))))
 refine splitP hd (fun hb1 hd => ?_) fun hb1 hd => ?_
 · rw [hb1]
   exact .gyes r r r (.move r r r (.gyes r r r (.move r r r (.gyes r r r (.le' r r r r (.skips 2 r (.nilS [4] r r (.ret (pret results121 (.t r .n) (.refl _) ⟨(decide (a0 ≤ a1)), r, hd⟩)))))))))
 rw [hb1]
 exact .skips 5 r (.nilS [4] r r (.ret (pret results121 (.t r .n) (.refl _) ⟨false, r, hd⟩)))

theorem W_dcsc_rising {I : IH} {a0 : List Int} {a1 : Int} {p1 : Option Addr} {c2 : Nat} {Q : Bool → Prop} (R3 : RepSl eI64 I p1 c2 a0) (hd : dcsc_rising a0 a1 Q) :
    PFun Tryz.prog 122 [.slice p1 a0.length c2, .int .i64 a1] I (fun I_ v => ∃ r, v = .bool r ∧ Q r) := by
 refine Fun.enter func122 r ntmps122 r (.c (.c .n)) fun w0 M => ?_
 refine .seq (.region (.skips 1 r (.nilS [1, 0] r r (.seq (.seq (.region (.skips 1 r (.len underlying29 r r r r (.skips 1 r ?_)))))))))
 refine .nilS [9, 8, 7, 1, 0] r r (.block (.loop hd (fun (s68 : Int) c w => ∃ I_, IH.le I I_ ∧ Ok ⟨33, [], none⟩ [(0, .slice p1 a0.length c2), (1, .int .i64 a1), (7, .slice p1 a0.length c2), (8, .int .i64 (a0.length : Int)), (9, .int .i64 s68)] c ∧ Sym w0 M I I_ [] w) (fun c w ho hs => ⟨I, (.refl _), ho.sub ⟨r, r, r, r, r, trivial⟩, hs.pick .n⟩) ?_))
 rintro s68 next69 hd c w hst
 obtain ⟨I70, hl71, hok, hsym⟩ := hst
 have le72 := IH.le.trans (.refl _) hl71
 replace R3 := R3.mono hl71
 refine Cod.at hok hsym (.seq (.region (.lt r r r r (.nilS [10, 9, 8, 7, 1, 0] r r (.seq (.condP r hd (fun hb74 hd => ?_) fun hb74 hd => ?_))))))
 · refine .skipS [9, 8, 7, 1, 0] r r (.seq (.block (.seq (.region (.skips 1 r ?_)))))
   obtain ⟨h84, x85, hx86, hd⟩ := hd
   obtain ⟨b87, o88, cs89, e90, hC91, hr92⟩ := R3.2 _ _ hx86
   cases hr92
   refine .ixa underlying29 sizeOf3 r e90 r h84 (idx_lt hx86 h84) r r (.ld1 (j := 0) isAgg3 hC91 r r r r r (.skips 2 r (.nilS [6, 5, 9, 8, 7, 1, 0] r r (.seq (.region (.skips 2 r (.sub' r r r r ?_)))))))
   have hw94 := W_dcsc_within (I := I70) hd
   refine .callP call121 r hw94 r r fun v95 hv96 => ?_
   obtain ⟨r93, rfl, hd⟩ := hv96
   refine .not r r r (.skips 1 r ?_)
   refine splitP hd (fun hb97 hd => ?_) fun hb97 hd => ?_
   · rw [hb97]
     refine .skips 3 r (.gnoU r r r r (.gnoU r r r r (.gnoU r r r r (.gnoU r r r r (.gnoU r r r r (.gnoU r r r r (.gnoU r r r r (.skips 2 r (.nilS [31, 9, 8, 7, 1, 0] r r ?_)))))))))
     exact .condKT r r (.seq (.region (.skips 1 r (.nilS [4] r r (.ret (pret results122 (.t r .n) le72 ⟨false, r, hd⟩))))))
   rw [hb97]
   refine .gyes r r r (.move r r r (.gyes r r r (.gt r r r r (.gyes r r r (.move r r r ?_)))))
   refine splitP hd (fun hb98 hd => ?_) fun hb98 hd => ?_
   · rw [hb98]
     refine .gyes r r r (.move r r r (.gyes r r r (.move r r r (.gyes r r r (.sub' r r r r ?_)))))
     obtain ⟨h99, x100, hx101, hd⟩ := hd
     obtain ⟨b102, o103, cs104, e105, hC106, hr107⟩ := R3.2 _ _ hx101
     cases hr107
     refine .gyes r r r (.ixa underlying29 sizeOf3 r e105 r h99 (idx_lt hx101 h99) r r (.gyes r r r (.ld1 (j := 0) isAgg3 hC106 r r r r r (.gyes r r r (.move r r r (.gyes r r r (.ge r r r r (.gyes r r r (.pickT r r r r r (.skips 1 r (.nilS [31, 9, 8, 7, 1, 0] r r (.condP r hd (fun hb108 hd => ?_) fun hb108 hd => ?_))))))))))))
     · exact .seq (.region (.skips 1 r (.nilS [4] r r (.ret (pret results122 (.t r .n) le72 ⟨false, r, hd⟩)))))
     exact .skipS [9, 8, 7, 1, 0] r r (.region (.add r r r r (.sub (E' := [(0, _), (1, _), (7, _), (8, _), (32, _)]) ⟨r, r, r, r, r, trivial⟩ (.skips 1 r (.nil' fun c w ho hs => ⟨(w64 (s68 + 1)), hd, I70, le72, ho.sub ⟨r, r, r, r, r, trivial⟩, hs.pick .n⟩)))))
   rw [hb98]
   refine .skips 7 r (.gyes r r r (.pickF r r r r r (.skips 1 r (.nilS [31, 9, 8, 7, 1, 0] r r (.condKF r r (.skipS [9, 8, 7, 1, 0] r r (.region (.add r r r r (.sub (E' := [(0, _), (1, _), (7, _), (8, _), (32, _)]) ⟨r, r, r, r, r, trivial⟩ (.skips 1 r ?_))))))))))
   exact .nil' fun c w ho hs => ⟨(w64 (s68 + 1)), hd, I70, le72, ho.sub ⟨r, r, r, r, r, trivial⟩, hs.pick .n⟩
 exact .exitS [] r r (.seq (.region (.skips 1 r (.nilS [4] r r (.ret (pret results122 (.t r .n) le72 ⟨true, r, hd⟩))))))

theorem W_dcsc_Right {I : IH} {a0 : Columns} {p1 : Option Addr} {c2 : Nat} {p4 : Option Addr} {c5 : Nat} {p7 : Option Addr} {c8 : Nat} {p10 : Option Addr} {c11 : Nat} {Q : Bool → Prop} (R3 : RepSl eI64 I p1 c2 a0.At) (R6 : RepSl eI64 I p4 c5 a0.Start) (R9 : RepSl eI64 I p7 c8 a0.Row) (R12 : RepSl eI64 I p10 c11 a0.Val) (hd : dcsc_Right a0 Q) :
    PFun Tryz.prog 73 [.agg #[.int .i64 a0.Rows, .int .i64 a0.Cols, .slice p1 a0.At.length c2, .slice p4 a0.Start.length c5, .slice p7 a0.Row.length c8, .slice p10 a0.Val.length c11]] I (fun I_ v => ∃ r, v = .bool r ∧ Q r) := by
 refine Fun.enter func73 r ntmps73 r (.c .n) fun w0 M => ?_
 refine .seq (.region (.boxA r r r fun b15 => ?_))
 refine .skips 1 r (.nilS [1] r r (.seq (.region (.fieldAddr underlying32 r sizeOf29 r (o := 4) r r r (.load1 isAgg29 r .z r r r (.len underlying29 r r r r (.skips 1 r (.nilS [3, 1] r r (.seq ?_)))))))))
 refine .seq (.region (.fieldAddr underlying32 r sizeOf3 r (o := 0) r r r (.load1 isAgg3 r .z r r r ?_)))
 have hw31 := W_dcsc_within (I := I) hd
 refine .callP call121 r hw31 r r fun v32 hv33 => ?_
 obtain ⟨r30, rfl, hd⟩ := hv33
 refine .not r r r (.skips 1 r ?_)
 refine splitP hd (fun hb34 hd => ?_) fun hb34 hd => ?_
 · rw [hb34]
   exact .skips 26 r (.nilS [38, 3, 1] r r (.condKT r r (.seq (.region (.skips 1 r (.nilS [2] r r (.drop .z (.ret (pret results73 (.t r .n) (.refl _) ⟨false, r, hd⟩)))))))))
 rw [hb34]
 refine .gyes r r r (.fieldAddr underlying32 r sizeOf3 r (o := 1) r r r (.gyes r r r (.load1 isAgg3 r .z r r r ?_)))
 have hw36 := W_dcsc_within (I := I) hd
 refine .gyes r r r (.callP call121 r hw36 r r fun v37 hv38 => ?_)
 obtain ⟨r35, rfl, hd⟩ := hv38
 refine .gyes r r r (.not r r r (.skips 2 r ?_))
 refine splitP hd (fun hb39 hd => ?_) fun hb39 hd => ?_
 · rw [hb39]
   exact .skips 20 r (.nilS [38, 3, 1] r r (.condKT r r (.seq (.region (.skips 1 r (.nilS [2] r r (.drop .z (.ret (pret results73 (.t r .n) (.refl _) ⟨false, r, hd⟩)))))))))
 rw [hb39]
 refine .gyes r r r (.fieldAddr underlying32 r sizeOf29 r (o := 3) r r r (.gyes r r r (.load1 isAgg29 r .z r r r (.gyes r r r (.len underlying29 r r r r (.gyes r r r (.fieldAddr underlying32 r sizeOf29 r (o := 2) r r r (.gyes r r r (.load1 isAgg29 r .z r r r (.gyes r r r (.len underlying29 r r r r (.gyes r r r (.add r r r r (.gyes r r r (.ne r r r r (.skips 2 r ?_))))))))))))))))
 refine splitP hd (fun hb40 hd => ?_) fun hb40 hd => ?_
 · rw [hb40]
   exact .skips 10 r (.nilS [38, 3, 1] r r (.condKT r r (.seq (.region (.skips 1 r (.nilS [2] r r (.drop .z (.ret (pret results73 (.t r .n) (.refl _) ⟨false, r, hd⟩)))))))))
 rw [hb40]
 refine .gyes r r r (.fieldAddr underlying32 r sizeOf30 r (o := 5) r r r (.gyes r r r (.load1 isAgg30 r .z r r r (.gyes r r r (.len underlying30 r r r r (.gyes r r r (.move r r r (.gyes r r r (.ne r r r r (.skips 2 r ?_))))))))))
 refine splitP hd (fun hb41 hd => ?_) fun hb41 hd => ?_
 · rw [hb41]
   exact .skips 3 r (.nilS [38, 3, 1] r r (.condKT r r (.seq (.region (.skips 1 r (.nilS [2] r r (.drop .z (.ret (pret results73 (.t r .n) (.refl _) ⟨false, r, hd⟩)))))))))
 rw [hb41]
 refine .gyes r r r (.move r r r (.gyes r r r (.gt r r r r (.skips 1 r (.nilS [38, 3, 1] r r (.condP r hd (fun hb42 hd => ?_) fun hb42 hd => ?_))))))
 · exact .seq (.region (.skips 1 r (.nilS [2] r r (.drop .z (.ret (pret results73 (.t r .n) (.refl _) ⟨false, r, hd⟩))))))
 refine .skipS [3, 1] r r (.seq (.seq (.region (.fieldAddr underlying32 r sizeOf29 r (o := 2) r r r (.load1 isAgg29 r .z r r r (.fieldAddr underlying32 r sizeOf3 r (o := 1) r r r (.load1 isAgg3 r .z r r r ?_)))))))
 have hw74 := W_dcsc_rising (I := I) R3 hd
 refine .callP call122 r hw74 r r fun v75 hv76 => ?_
 obtain ⟨r73, rfl, hd⟩ := hv76
 refine .not r r r (.skips 1 r ?_)
 refine splitP hd (fun hb77 hd => ?_) fun hb77 hd => ?_
 · rw [hb77]
   exact .skips 25 r (.nilS [70, 1] r r (.condKT r r (.seq (.region (.skips 1 r (.nilS [2] r r (.drop .z (.ret (pret results73 (.t r .n) (.refl _) ⟨false, r, hd⟩)))))))))
 rw [hb77]
 refine .gyes r r r (.fieldAddr underlying32 r sizeOf29 r (o := 3) r r r (.gyes r r r (.load1 isAgg29 r .z r r r (.gyes r r r (.move r r r (.gyes r r r (.add r r r r ?_)))))))
 have hw79 := W_dcsc_rising (I := I) R6 hd
 refine .gyes r r r (.callP call122 r hw79 r r fun v80 hv81 => ?_)
 obtain ⟨r78, rfl, hd⟩ := hv81
 refine .gyes r r r (.not r r r (.skips 2 r ?_))
 refine splitP hd (fun hb82 hd => ?_) fun hb82 hd => ?_
 · rw [hb82]
   exact .skips 17 r (.nilS [70, 1] r r (.condKT r r (.seq (.region (.skips 1 r (.nilS [2] r r (.drop .z (.ret (pret results73 (.t r .n) (.refl _) ⟨false, r, hd⟩)))))))))
 rw [hb82]
 refine .gyes r r r (.fieldAddr underlying32 r sizeOf29 r (o := 3) r r r (.gyes r r r (.load1 isAgg29 r .z r r r ?_)))
 obtain ⟨h83, x84, hx85, hd⟩ := hd
 obtain ⟨b86, o87, cs88, e89, hC90, hr91⟩ := R6.2 _ _ hx85
 cases hr91
 refine .gyes r r r (.ixa underlying29 sizeOf3 r e89 r h83 (idx_lt hx85 h83) r r (.gyes r r r (.ld1 (j := 0) isAgg3 hC90 r r r r r (.gyes r r r (.ne r r r r (.skips 2 r ?_))))))
 refine splitP hd (fun hb92 hd => ?_) fun hb92 hd => ?_
 · rw [hb92]
   exact .skips 10 r (.nilS [70, 1] r r (.condKT r r (.seq (.region (.skips 1 r (.nilS [2] r r (.drop .z (.ret (pret results73 (.t r .n) (.refl _) ⟨false, r, hd⟩)))))))))
 rw [hb92]
 refine .gyes r r r (.fieldAddr underlying32 r sizeOf29 r (o := 3) r r r (.gyes r r r (.load1 isAgg29 r .z r r r (.gyes r r r (.fieldAddr underlying32 r sizeOf29 r (o := 2) r r r (.gyes r r r (.load1 isAgg29 r .z r r r (.gyes r r r (.len underlying29 r r r r ?_)))))))))
 obtain ⟨h93, x94, hx95, hd⟩ := hd
 obtain ⟨b96, o97, cs98, e99, hC100, hr101⟩ := R6.2 _ _ hx95
 cases hr101
 refine .gyes r r r (.ixa underlying29 sizeOf3 r e99 r h93 (idx_lt hx95 h93) r r (.gyes r r r (.ld1 (j := 0) isAgg3 hC100 r r r r r (.gyes r r r (.move r r r (.gyes r r r (.ne r r r r (.skips 1 r (.nilS [70, 1] r r (.condP r hd (fun hb102 hd => ?_) fun hb102 hd => ?_))))))))))
 · exact .seq (.region (.skips 1 r (.nilS [2] r r (.drop .z (.ret (pret results73 (.t r .n) (.refl _) ⟨false, r, hd⟩))))))
 refine .skipS [1] r r (.seq (.seq (.region (.fieldAddr underlying32 r sizeOf29 r (o := 2) r r r (.load1 isAgg29 r .z r r r (.len underlying29 r r r r (.skips 1 r (.nilS [74, 73, 1] r r (.block ?_)))))))))
 refine .loop hd (fun (s176 : Int) c w => ∃ I_, IH.le I I_ ∧ Ok ⟨96, [], none⟩ [(1, .pointer (some ⟨b15, 0, none⟩)), (73, .int .i64 (a0.At.length : Int)), (74, .int .i64 s176)] c ∧ Sym w0 M I I_ [pto b15 (.cells #[.int .i64 a0.Rows, .int .i64 a0.Cols, .slice p1 a0.At.length c2, .slice p4 a0.Start.length c5, .slice p7 a0.Row.length c8, .slice p10 a0.Val.length c11] 32 (0, 0))] w) (fun c w ho hs => ⟨I, (.refl _), ho.sub ⟨r, r, r, trivial⟩, hs.pick (.c .z .n)⟩) ?_
 rintro s176 next177 hd c w hst
 obtain ⟨I178, hl179, hok, hsym⟩ := hst
 have le180 := IH.le.trans (.refl _) hl179
 replace R3 := R3.mono hl179
 replace R6 := R6.mono hl179
 replace R9 := R9.mono hl179
 replace R12 := R12.mono hl179
 refine Cod.at hok hsym (.seq (.region (.lt r r r r (.nilS [75, 74, 73, 1] r r (.seq (.condP r hd (fun hb182 hd => ?_) fun hb182 hd => ?_))))))
 · refine .skipS [74, 73, 1] r r (.seq (.block (.seq (.region (.skips 2 r (.nilS [4, 74, 73, 1] r r (.seq (.draw [some 0, some 1, some 2, some 3, some 4, some 5, some 6, some 7, some 8, some 9, some 10, some 11, some 12, some 13, some 14, some 15, some 16, some 17] 18 MX (by kernel_rfl) (by kernel_rfl) (by kernel_rfl) (by kernel_rfl) (by kernel_rfl) (by kernel_rfl) (by kernel_rfl) (fun ex => (pto b15 (.cells #[.int .i64 a0.Rows, .int .i64 a0.Cols, .slice p1 a0.At.length c2, .slice p4 a0.Start.length c5, .slice p7 a0.Row.length c8, .slice p10 a0.Val.length c11] 32 (0, 0))) :: ex) (fun _ _ => (.s .z)) r (.f [] r (by kernel_rfl) r r (fun ex => .fieldAddr underlying32 r sizeOf29 r (o := 4) r r r .mk) ?_)))))))))
   refine .f [0] r (by kernel_rfl) r r (fun ex => .load1 isAgg29 r .z r r r .mk) (.f [] r (by kernel_rfl) r r (fun ex => .fieldAddr underlying32 r sizeOf29 r (o := 3) r r r .mk) (.f [2] r (by kernel_rfl) r r (fun ex => .load1 isAgg29 r .z r r r .mk) (.fs [[]] r (by kernel_rfl) ?_)))
   obtain ⟨h183, x184, hx185, hd⟩ := hd
   obtain ⟨b186, o187, cs188, e189, hC190, hr191⟩ := R6.2 _ _ hx185
   cases hr191
   refine .f [3, 4] r (by kernel_rfl) r r (fun ex => .ixa underlying29 sizeOf3 r e189 r h183 (idx_lt hx185 h183) r r .mk) (.f [5] r (by kernel_rfl) r r (fun ex => .ld1 (j := 0) isAgg3 hC190 r r r r r .mk) (.f [] r (by kernel_rfl) r r (fun ex => .fieldAddr underlying32 r sizeOf29 r (o := 3) r r r .mk) (.f [7] r (by kernel_rfl) r r (fun ex => .load1 isAgg29 r .z r r r .mk) (.fs [[]] r (by kernel_rfl) (.f [9] r (by kernel_rfl) r r (fun ex => .add r r r r .mk) ?_)))))
   obtain ⟨h192, x193, hx194, hd⟩ := hd
   obtain ⟨b195, o196, cs197, e198, hC199, hr200⟩ := R6.2 _ _ hx194
   cases hr200
   refine .f [8, 10] r (by kernel_rfl) r r (fun ex => .ixa underlying29 sizeOf3 r e198 r h192 (idx_lt hx194 h192) r r .mk) (.f [11] r (by kernel_rfl) r r (fun ex => .ld1 (j := 0) isAgg3 hC199 r r r r r .mk) ?_)
   obtain ⟨h201, h202, h203, hd⟩ := hd
   have h209 : Int.toNat x184 ≤ Int.toNat x193 := by omega
   have h210 : Int.toNat x193 ≤ a0.Row.length := by omega
   obtain ⟨p204, c205, e207, e208, R206⟩ := RepSl.sliceW R9 (Int.toNat x184) (Int.toNat x193) c8 h209 h210 (.inl rfl)
   refine .f [1, 6, 12] r (by kernel_rfl) r r (fun ex => .sliceW (L := Int.toNat x184) (H := Int.toNat x193) (cm := c8) underlying29 sizeOf3 r r R9.1 r r r (.inr ⟨_, _, r, h201, r⟩) (.inr ⟨_, _, r, (by omega), r⟩) (.inl r) h209 h210 r e207 e208 r r .mk) (.f [] r (by kernel_rfl) r r (fun ex => .fieldAddr underlying32 r sizeOf3 r (o := 0) r r r .mk) (.f [14] r (by kernel_rfl) r r (fun ex => .load1 isAgg3 r .z r r r .mk) (.w [] [[], [15], [], [13], [12, 13], [11, 12, 13], [10, 11, 12, 13], [11, 12, 13], [8, 11, 12, 13], [13], [6, 13], [5, 6, 13], [5, 6, 13], [3, 5, 6, 13], [13], [1, 13]] [13, 15] r (by kernel_rfl) (by kernel_rfl) (by kernel_rfl) ((dropE_kept r r)) (.inr (dropE_kept r r)) fun ex => ?_)))
   have hw212 := W_dcsc_rising (I := I178) R206 hd
   refine .callP call122 r hw212 r r fun v213 hv214 => ?_
   obtain ⟨r211, rfl, hd⟩ := hv214
   refine .some (fun ex => (pto b15 (.cells #[.int .i64 a0.Rows, .int .i64 a0.Cols, .slice p1 a0.At.length c2, .slice p4 a0.Start.length c5, .slice p7 a0.Row.length c8, .slice p10 a0.Val.length c11] 32 (0, 0))) :: ex) r (fun _ _ => (.s .z)) r trivial (.f [16] r (by kernel_rfl) r r (fun ex => .not r r r .mk) (.e 18 (by kernel_rfl) (by kernel_rfl) (by kernel_rfl) (.nilS [94, 74, 73, 1] r r (.condP r hd (fun hb215 hd => ?_) fun hb215 hd => ?_))))
   · exact .seq (.region (.skips 1 r (.nilS [2] r r (.drop .z (.ret (pret results73 (.t r .n) le180 ⟨false, r, hd⟩))))))
   exact .skipS [74, 73, 1] r r (.region (.add r r r r (.sub (E' := [(1, _), (73, _), (95, _)]) ⟨r, r, r, trivial⟩ (.skips 1 r (.nil' fun c w ho hs => ⟨(w64 (s176 + 1)), hd, I178, le180, ho.sub ⟨r, r, r, trivial⟩, hs.pick (.c .z .n)⟩)))))
 exact .exitS [] r r (.drop .z (.seq (.region (.skips 1 r (.nilS [2] r r (.ret (pret results73 (.t r .n) le180 ⟨true, r, hd⟩)))))))

theorem W_push_sure {I : IH} {a0 : Columns} {a1 : Vec} {p1 : Option Addr} {c2 : Nat} {p4 : Option Addr} {c5 : Nat} {p7 : Option Addr} {c8 : Nat} {p10 : Option Addr} {c11 : Nat} {p13 : Option Addr} {c14 : Nat} {Q : (Columns × Vec) → Prop} (R3 : RepSl eI64 I p1 c2 a0.At) (R6 : RepSl eI64 I p4 c5 a0.Start) (R9 : RepSl eI64 I p7 c8 a0.Row) (R12 : RepSl eI64 I p10 c11 a0.Val) (R15 : RepSl eItem I p13 c14 a1.Items) (hd : push_sure a0 a1 Q) :
    PFun Tryz.prog 35 [.agg #[.int .i64 a0.Rows, .int .i64 a0.Cols, .slice p1 a0.At.length c2, .slice p4 a0.Start.length c5, .slice p7 a0.Row.length c8, .slice p10 a0.Val.length c11], .agg #[.int .i64 a1.N, .slice p13 a1.Items.length c14]] I (fun I_ v => ∃ r p16 c17 p19 c20 p22 c23 p25 c26 p28 c29, v = .tuple #[.agg #[.int .i64 r.1.Rows, .int .i64 r.1.Cols, .slice p16 r.1.At.length c17, .slice p19 r.1.Start.length c20, .slice p22 r.1.Row.length c23, .slice p25 r.1.Val.length c26], .agg #[.int .i64 r.2.N, .slice p28 r.2.Items.length c29]] ∧ RepSl eI64 I_ p16 c17 r.1.At ∧ RepSl eI64 I_ p19 c20 r.1.Start ∧ RepSl eI64 I_ p22 c23 r.1.Row ∧ RepSl eI64 I_ p25 c26 r.1.Val ∧ RepSl eItem I_ p28 c29 r.2.Items ∧ Q r) := by
 refine Fun.enter func35 r ntmps35 r (.c (.c .n)) fun w0 M => ?_
 refine .seq (.region (.boxA r r r fun b39 => ?_))
 refine .boxA r r r fun b41 => ?_
 refine .allocA zeroValue32 r r fun b43 => ?_
 refine .allocA zeroValue38 r r fun b45 => ?_
 refine .nilS [5, 4, 3, 2] r r (.seq ?_)
 refine Cod.joinQ (σ := Int × Int × (List Int) × (List Int) × (List Int) × (List Int)) hd (fun (s : Int × Int × (List Int) × (List Int) × (List Int) × (List Int)) c w => match s with | (s63, s64, s65, s69, s73, s77) => ∃ I_ p66 c67 p70 c71 p74 c75 p78 c79, IH.le I I_ ∧ RepSl eI64 I_ p66 c67 s65 ∧ RepSl eI64 I_ p70 c71 s69 ∧ RepSl eI64 I_ p74 c75 s73 ∧ RepSl eI64 I_ p78 c79 s77 ∧ Ok ⟨17, [], none⟩ [(2, .pointer (some ⟨b39, 0, none⟩)), (3, .pointer (some ⟨b41, 0, none⟩)), (4, .pointer (some ⟨b43, 0, none⟩)), (5, .pointer (some ⟨b45, 0, none⟩))] c ∧ Sym w0 M I I_ [pto b39 (.cells #[.int .i64 s63, .int .i64 s64, .slice p66 s65.length c67, .slice p70 s69.length c71, .slice p74 s73.length c75, .slice p78 s77.length c79] 32 (0, 0)), pto b41 (.cells #[.int .i64 a1.N, .slice p13 a1.Items.length c14] 38 (0, 0)), pto b43 (.cells #[.int .i64 0, .int .i64 0, .slice none 0 0, .slice none 0 0, .slice none 0 0, .slice none 0 0] 32 (0, 0)), pto b45 (.cells #[.int .i64 0, .slice none 0 0] 38 (0, 0))] w) (fun k81 hd => ?_) ?_
 · skip
   refine .seq (.region (.loadW isAgg32 sizeOf32 r (.s (.s (.s .z))) r r r ?_))
   have hw83 := W_dcsc_Right (I := I) R3 R6 R9 R12 hd
   refine .callP call73 r hw83 r r fun v84 hv85 => ?_
   obtain ⟨r82, rfl, hd⟩ := hv85
   refine .not r r r (.nilS [8, 5, 4, 3, 2] r r (.condP r hd (fun hb86 hd => ?_) fun hb86 hd => ?_))
   · refine .region (.buildSlice 1 underlying29 sizeOf3 zeroValue3 r r (.c r r r .n) r r fun b87 => ?_)
     refine .ownB (El := eI64) (ys := ([0] : List Int)) .z (.one r) r (.build zeroValue32 underlying32 BI32 (.c r r r (.s (.s (.s (.t .nil)))) .n) (by exact ⟨⟨_, _, r, r, r⟩, trivial⟩) r r (.storeA sizeOf32 r r (.s (.s (.s (.s .z)))) (.t (.t (.t (.t (.t (.t .nil)))))) r r (.pub .z fun I90 hl91 R92 => ?_)))
     have le93 := IH.le.trans (.refl _) hl91
     replace R15 := R15.mono hl91
     exact .nil' fun c w ho hs => ⟨(0, 0, ([] : List Int), ([0] : List Int), ([] : List Int), ([] : List Int)), hd, I90, _, _, _, _, _, _, _, _, le93, .nil _ _ _, R92, .nil _ _ _, .nil _ _ _, ho.sub ⟨r, r, r, r, trivial⟩, hs.pick (.c (.s (.s (.s .z))) (.c (.s (.s .z)) (.c (.s .z) (.c .z .n))))⟩
   exact .skip' fun c w ho hs => ⟨(a0.Rows, a0.Cols, a0.At, a0.Start, a0.Row, a0.Val), hd, I, _, _, _, _, _, _, _, _, (.refl _), R3, R6, R9, R12, ho.sub ⟨r, r, r, r, trivial⟩, hs.pick (.c (.s (.s (.s .z))) (.c (.s (.s .z)) (.c (.s .z) (.c .z .n))))⟩
 rintro ⟨s63, s64, s65, s69, s73, s77⟩ hd c w hst
 obtain ⟨I94, p66, c67, p70, c71, p74, c75, p78, c79, hl95, R68, R72, R76, R80, hok, hsym⟩ := hst
 have le96 := IH.le.trans (.refl _) hl95
 replace R15 := R15.mono hl95
 refine Cod.at hok hsym (.seq (.seq (.region (.loadW isAgg38 sizeOf38 r (.s .z) r r r ?_))))
 have hw98 := W_spvec_Right (I := I94) R15 hd
 refine .callP call67 r hw98 r r fun v99 hv100 => ?_
 obtain ⟨r97, rfl, hd⟩ := hv100
 refine .not r r r (.nilS [13, 5, 4, 3, 2] r r (.condP r hd (fun hb101 hd => ?_) fun hb101 hd => ?_))
 · refine .region (.build zeroValue38 underlying38 BI38 .n (by exact trivial) r r (.storeA sizeOf38 r r (.s .z) (.t (.t .nil)) r r (.nilS [5, 4, 3, 2] r r (.seq (.draw [some 0, some 1, some 2] 3 MX (by kernel_rfl) (by kernel_rfl) (by kernel_rfl) (by kernel_rfl) (by kernel_rfl) (by kernel_rfl) (by kernel_rfl) (fun ex => (pto b39 (.cells #[.int .i64 s63, .int .i64 s64, .slice p66 s65.length c67, .slice p70 s69.length c71, .slice p74 s73.length c75, .slice p78 s77.length c79] 32 (0, 0))) :: (pto b41 (.cells #[.int .i64 0, .slice none 0 0] 38 (0, 0))) :: (pto b43 (.cells #[.int .i64 0, .int .i64 0, .slice none 0 0, .slice none 0 0, .slice none 0 0, .slice none 0 0] 32 (0, 0))) :: (pto b45 (.cells #[.int .i64 0, .slice none 0 0] 38 (0, 0))) :: ex) (fun _ _ => (.s (.s (.s (.s .z))))) r (.f [] r (by kernel_rfl) r r (fun ex => .loadW isAgg32 sizeOf32 r .z r r r .mk) (.f [] r (by kernel_rfl) r r (fun ex => .loadW isAgg38 sizeOf38 r (.s .z) r r r .mk) (.w [1] [[]] [0, 0] r (by kernel_rfl) (by kernel_rfl) (by kernel_rfl) ((dropE_none r)) (.inr (dropE_none r)) fun ex => ?_))))))))
   exact .storeA sizeOf32 r r (.s (.s .z)) (.t (.t (.t (.t (.t (.t .nil)))))) r r (.none (fun ex => (pto b39 (.cells #[.int .i64 s63, .int .i64 s64, .slice p66 s65.length c67, .slice p70 s69.length c71, .slice p74 s73.length c75, .slice p78 s77.length c79] 32 (0, 0))) :: (pto b41 (.cells #[.int .i64 0, .slice none 0 0] 38 (0, 0))) :: (pto b43 (.cells #[.int .i64 s63, .int .i64 s64, .slice p66 s65.length c67, .slice p70 s69.length c71, .slice p74 s73.length c75, .slice p78 s77.length c79] 32 (0, 0))) :: (pto b45 (.cells #[.int .i64 0, .slice none 0 0] 38 (0, 0))) :: ex) r (fun _ _ => (.s (.s (.s (.s .z))))) r (.cc [] r (by kernel_rfl) r r r (fun ex => .loadW isAgg38 sizeOf38 r (.s .z) r r r .mk) trivial) (.e 3 (by kernel_rfl) (by kernel_rfl) (by kernel_rfl) (.storeA sizeOf38 r r (.s (.s (.s .z))) (.t (.t .nil)) r r (.nilS [5, 4] r r (.drop .z (.drop .z (.ret (pret results35 (.w isAgg32 sizeOf32 r .z r (.w isAgg38 sizeOf38 r (.s .z) r .n)) le96 ⟨(({ Rows := s63, Cols := s64, At := s65, Start := s69, Row := s73, Val := s77 } : Columns), ({ N := 0, Items := ([] : List Item) } : Vec)), _, _, _, _, _, _, _, _, _, _, r, R68, R72, R76, R80, (.nil _ _ _), hd⟩))))))))
 refine .skipS [5, 4, 3, 2] r r (.seq (.draw [some 0, some 1, some 2] 3 MX (by kernel_rfl) (by kernel_rfl) (by kernel_rfl) (by kernel_rfl) (by kernel_rfl) (by kernel_rfl) (by kernel_rfl) (fun ex => (pto b39 (.cells #[.int .i64 s63, .int .i64 s64, .slice p66 s65.length c67, .slice p70 s69.length c71, .slice p74 s73.length c75, .slice p78 s77.length c79] 32 (0, 0))) :: (pto b41 (.cells #[.int .i64 a1.N, .slice p13 a1.Items.length c14] 38 (0, 0))) :: (pto b43 (.cells #[.int .i64 0, .int .i64 0, .slice none 0 0, .slice none 0 0, .slice none 0 0, .slice none 0 0] 32 (0, 0))) :: (pto b45 (.cells #[.int .i64 0, .slice none 0 0] 38 (0, 0))) :: ex) (fun _ _ => (.s (.s (.s (.s .z))))) r (.f [] r (by kernel_rfl) r r (fun ex => .loadW isAgg32 sizeOf32 r .z r r r .mk) (.f [] r (by kernel_rfl) r r (fun ex => .loadW isAgg38 sizeOf38 r (.s .z) r r r .mk) (.w [1] [[]] [0, 0] r (by kernel_rfl) (by kernel_rfl) (by kernel_rfl) ((dropE_none r)) (.inr (dropE_none r)) fun ex => ?_)))))
 exact .storeA sizeOf32 r r (.s (.s .z)) (.t (.t (.t (.t (.t (.t .nil)))))) r r (.none (fun ex => (pto b39 (.cells #[.int .i64 s63, .int .i64 s64, .slice p66 s65.length c67, .slice p70 s69.length c71, .slice p74 s73.length c75, .slice p78 s77.length c79] 32 (0, 0))) :: (pto b41 (.cells #[.int .i64 a1.N, .slice p13 a1.Items.length c14] 38 (0, 0))) :: (pto b43 (.cells #[.int .i64 s63, .int .i64 s64, .slice p66 s65.length c67, .slice p70 s69.length c71, .slice p74 s73.length c75, .slice p78 s77.length c79] 32 (0, 0))) :: (pto b45 (.cells #[.int .i64 0, .slice none 0 0] 38 (0, 0))) :: ex) r (fun _ _ => (.s (.s (.s (.s .z))))) r (.cc [] r (by kernel_rfl) r r r (fun ex => .loadW isAgg38 sizeOf38 r (.s .z) r r r .mk) trivial) (.e 3 (by kernel_rfl) (by kernel_rfl) (by kernel_rfl) (.storeA sizeOf38 r r (.s (.s (.s .z))) (.t (.t .nil)) r r (.nilS [5, 4] r r (.drop .z (.drop .z (.ret (pret results35 (.w isAgg32 sizeOf32 r .z r (.w isAgg38 sizeOf38 r (.s .z) r .n)) le96 ⟨(({ Rows := s63, Cols := s64, At := s65, Start := s69, Row := s73, Val := s77 } : Columns), a1), _, _, _, _, _, _, _, _, _, _, r, R68, R72, R76, R80, R15, hd⟩))))))))

theorem W_flags_within {I : IH} {a0 : List Int} {a1 : Int} {p1 : Option Addr} {c2 : Nat} {Q : Bool → Prop} (R3 : RepSl eU64 I p1 c2 a0) (hd : flags_within a0 a1 Q) :
    PFun Tryz.prog 119 [.slice p1 a0.length c2, .int .i64 a1] I (fun I_ v => ∃ r, v = .bool r ∧ Q r) := by
 refine Fun.enter func119 r ntmps119 r (.c (.c .n)) fun w0 M => ?_
 refine .seq (.region (.skips 1 r (.nilS [1, 0] r r (.seq (.region (.skips 1 r (.ge r r r r (.skips 1 r ?_))))))))
 refine splitP hd (fun hb4 hd => ?_) fun hb4 hd => ?_
 · rw [hb4]
   exact .gyes r r r (.move r r r (.gyes r r r (.shr' r r (by decide) r r (.gyes r r r (.move r r r (.gyes r r r (.len underlying26 r r r r (.gyes r r r (.lt r r r r (.skips 2 r (.nilS [4] r r (.ret (pret results119 (.t r .n) (.refl _) ⟨(decide ((shr .i64 a1 6) < (a0.length : Int))), r, hd⟩)))))))))))))
 rw [hb4]
 exact .skips 7 r (.nilS [4] r r (.ret (pret results119 (.t r .n) (.refl _) ⟨false, r, hd⟩)))

theorem W_flags_bit {I : IH} {a0 : Int}  {Q : Int → Prop}  (hd : flags_bit a0 Q) :
    PFun Tryz.prog 120 [.int .i64 a0] I (fun I_ v => ∃ r, v = .int .u64 r ∧ Q r) := by
 refine Fun.enter func120 r ntmps120 r (.c .n) fun w0 M => ?_
 refine .seq (.region (.skips 1 r (.nilS [0] r r (.seq (.region (.skips 1 r (.conv underlying3 underlying164 r r r (.and r r r r ?_))))))))
 obtain ⟨hz1, hd⟩ := hd
 exact .shl' r r hz1 r r (.skips 1 r (.nilS [2] r r (.ret (pret results120 (.t r .n) (.refl _) ⟨(shl .u64 1 (bnd .u64 (IntKind.wrap .u64 (a0)) 63)), r, hd⟩))))

theorem W_flags_Has {I : IH} {a0 : List Int} {a1 : Int} {p1 : Option Addr} {c2 : Nat} {Q : Bool → Prop} (R3 : RepSl eU64 I p1 c2 a0) (hd : flags_Has a0 a1 Q) :
    PFun Tryz.prog 74 [.slice p1 a0.length c2, .int .i64 a1] I (fun I_ v => ∃ r, v = .bool r ∧ Q r) := by
 refine Fun.enter func74 r ntmps74 r (.c (.c .n)) fun w0 M => ?_
 refine .seq (.region (.skips 1 r (.nilS [1, 0] r r (.seq (.draw [some 0, some 1, some 2, some 3, some 4, some 5, some 6, some 7, some 8, some 9, some 10, some 11, some 12, some 13] 14 MX (by kernel_rfl) (by kernel_rfl) (by kernel_rfl) (by kernel_rfl) (by kernel_rfl) (by kernel_rfl) (by kernel_rfl) (fun ex => ex) (fun _ _ => .z) r (.fs [[], []] r (by kernel_rfl) (.w [] [[], []] [0, 1] r (by kernel_rfl) (by kernel_rfl) (by kernel_rfl) ((dropE_kept r r)) (.inr (dropE_kept r r)) fun ex => ?_)))))))
 have hw5 := W_flags_within (I := I) R3 hd
 refine .callP call119 r hw5 r r fun v6 hv7 => ?_
 obtain ⟨r4, rfl, hd⟩ := hv7
 refine .some (fun ex => ex) r (fun _ _ => .z) r trivial (.fs [[2, 2]] r (by kernel_rfl) ?_)
 refine splitP hd (fun hb8 hd => ?_) fun hb8 hd => ?_
 · refine .f [3] r (by kernel_rfl) r r (fun ex => .gyes r r hb8 (.move r r r .mk)) (.f [3] r (by kernel_rfl) r r (fun ex => .gyes r r hb8 (.move r r r .mk)) (.f [5, 3] r (by kernel_rfl) r r (fun ex => .gyes r r hb8 (.shr' r r (by decide) r r .mk)) ?_))
   obtain ⟨h9, x10, hx11, hd⟩ := hd
   obtain ⟨b12, o13, cs14, e15, hC16, hr17⟩ := R3.2 _ _ hx11
   cases hr17
   refine .f [4, 6, 3] r (by kernel_rfl) r r (fun ex => .gyes r r hb8 (.ixa underlying26 sizeOf85 r e15 r h9 (idx_lt hx11 h9) r r .mk)) (.f [7, 3] r (by kernel_rfl) r r (fun ex => .gyes r r hb8 (.ld1 (j := 0) isAgg85 hC16 r r r r r .mk)) (.f [3] r (by kernel_rfl) r r (fun ex => .gyes r r hb8 (.move r r r .mk)) (.w [8, 7, 6, 5, 4] [[], []] [9, 3, 3] r (by kernel_rfl) (by kernel_rfl) (by kernel_rfl) ((dropE_kept r r)) (.inr (dropE_kept r r)) fun ex => ?_)))
   have hw19 := W_flags_bit (I := I) hd
   refine .gyes r r hb8 (.callP call120 r hw19 r r fun v20 hv21 => ?_)
   obtain ⟨r18, rfl, hd⟩ := hv21
   exact .some (fun ex => ex) r (fun _ _ => .z) r (.cc [7, 3] r (by kernel_rfl) r r r (fun ex => .gyes r r hb8 (.ld1 (j := 0) isAgg85 hC16 r r r r r .mk)) (.cc [4, 6, 3] r (by kernel_rfl) r r r (fun ex => .gyes r r hb8 (.ixa underlying26 sizeOf85 r e15 r h9 (idx_lt hx11 h9) r r .mk)) (.cc [5, 3] r (by kernel_rfl) r r r (fun ex => .gyes r r hb8 (.shr' r r (by decide) r r .mk)) (.cc [3] r (by kernel_rfl) r r r (fun ex => .gyes r r hb8 (.move r r r .mk)) (.cc [3] r (by kernel_rfl) r r r (fun ex => .gyes r r hb8 (.move r r r .mk)) trivial))))) (.f [8, 10, 3] r (by kernel_rfl) r r (fun ex => .gyes r r hb8 (.and r r r r .mk)) (.f [11, 3] r (by kernel_rfl) r r (fun ex => .gyes r r hb8 (.ne r r r r .mk)) (.f [3, 12] r (by kernel_rfl) r r (fun ex => .pickT r hb8 r r r .mk) (.e 14 (by kernel_rfl) (by kernel_rfl) (by kernel_rfl) (.skips 1 r (.nilS [4] r r (.ret (pret results74 (.t r .n) (.refl _) ⟨((bnd .u64 x10 r18) != 0), r, hd⟩))))))))
 refine .f [3] r (by kernel_rfl) r r (fun ex => .gno r r hb8 r r .mk) (.f [3] r (by kernel_rfl) r r (fun ex => .gno r r hb8 r r .mk) (.f [5, 3] r (by kernel_rfl) r r (fun ex => .gno r r hb8 r r .mk) (.f [4, 6, 3] r (by kernel_rfl) r r (fun ex => .gno r r hb8 r r .mk) (.f [7, 3] r (by kernel_rfl) r r (fun ex => .gno r r hb8 r r .mk) (.f [3] r (by kernel_rfl) r r (fun ex => .gno r r hb8 r r .mk) (.f [9, 3, 3] r (by kernel_rfl) r r (fun ex => .gno r r hb8 r r .mk) (.f [8, 10, 3] r (by kernel_rfl) r r (fun ex => .gno r r hb8 r r .mk) (.f [11, 3] r (by kernel_rfl) r r (fun ex => .gno r r hb8 r r .mk) (.f [3, 12] r (by kernel_rfl) r r (fun ex => .pickF r hb8 r r r .mk) ?_)))))))))
 exact .e 14 (by kernel_rfl) (by kernel_rfl) (by kernel_rfl) (.skips 1 r (.nilS [4] r r (.ret (pret results74 (.t r .n) (.refl _) ⟨false, r, hd⟩))))

theorem W_wide_halves {I : IH} {a0 : Int}  {Q : (Int × Int) → Prop}  (hd : wide_halves a0 Q) :
    PFun Tryz.prog 182 [.int .u64 a0] I (fun I_ v => ∃ r, v = .agg #[.int .u64 r.1, .int .u64 r.2] ∧ Q r) := by
 refine Fun.enter func182 r ntmps182 r (.c .n) fun w0 M => ?_
 refine .seq (.region (.allocA zeroValue210 r r fun b1 => ?_))
 refine .nilS [2, 0] r r (.seq (.region (.skips 1 r (.shl' r r (by decide) r r (.shr' r r (by decide) r r (.skips 1 r (.shr' r r (by decide) r r (.buildArr zeroValue210 underlying210 sizeOf85 (.c r r r (.t .nil) (.c r r r (.s (.t .nil)) .n)) r r (.storeA sizeOf210 r r .z (.t (.t .nil)) r r ?_)))))))))
 exact .nilS [2] r r (.ret (pret results182 (.w isAgg210 sizeOf210 r .z r .n) (.refl _) ⟨(shr .u64 (shl .u64 a0 32) 32, shr .u64 a0 32), r, hd⟩))

theorem W_wide_product {I : IH} {a0 : Int} {a1 : Int}  {Q : Wide → Prop}  (hd : wide_product a0 a1 Q) :
    PFun Tryz.prog 160 [.int .u64 a0, .int .u64 a1] I (fun I_ v => ∃ r, v = .agg (encWide r).toArray ∧ Q r) := by
 refine Fun.enter func160 r ntmps160 r (.c (.c .n)) fun w0 M => ?_
 refine .seq (.region (.allocA zeroValue87 r r fun b3 => ?_))
 refine .nilS [4, 1, 0] r r (.seq (.region (.skips 1 r ?_)))
 have hw18 := W_wide_halves (I := I) hd
 refine .callP call182 r hw18 r r fun v19 hv20 => ?_
 obtain ⟨r17, rfl, hd⟩ := hv20
 refine .skips 1 r ?_
 have hw22 := W_wide_halves (I := I) hd
 refine .callP call182 r hw22 r r fun v23 hv24 => ?_
 obtain ⟨r21, rfl, hd⟩ := hv24
 refine .allocA zeroValue210 r r fun b25 => ?_
 refine .allocA zeroValue210 r r fun b27 => ?_
 refine .storeA sizeOf210 r r (.s .z) (.t (.t .nil)) r r (.storeA sizeOf210 r r .z (.t (.t .nil)) r r (.nilS [6, 5, 4] r r (.seq (.region (.ixArr (i := 0) underlying210 sizeOf85 r r (by decide) (o := 0) r r r (.load1 isAgg85 r (.s .z) r r r (.ixArr (i := 0) underlying210 sizeOf85 r r (by decide) (o := 0) r r r (.load1 isAgg85 r .z r r r (.mul r r r r ?_)))))))))
 refine .skips 1 r (.nilS [7, 6, 5, 4] r r (.seq (.draw [some 0, some 1, some 2, some 3, some 4, some 5, some 10, some 6, some 7, some 8, some 9, none] 11 MX (by kernel_rfl) (by kernel_rfl) (by kernel_rfl) (by kernel_rfl) (by kernel_rfl) (by kernel_rfl) (by kernel_rfl) (fun ex => (pto b27 (.cells #[.int .u64 r21.1, .int .u64 r21.2] 210 (0, 0))) :: (pto b25 (.cells #[.int .u64 r17.1, .int .u64 r17.2] 210 (0, 0))) :: (pto b3 (.cells #[.int .i64 0, .int .u64 0] 87 (0, 0))) :: ex) (fun _ _ => (.s (.s (.s .z)))) r (.f [] r (by kernel_rfl) r r (fun ex => .ixArr (i := 1) underlying210 sizeOf85 r r (by decide) (o := 1) r r r .mk) (.f [0] r (by kernel_rfl) r r (fun ex => .load1 isAgg85 r (.s .z) r r r .mk) (.f [] r (by kernel_rfl) r r (fun ex => .ixArr (i := 0) underlying210 sizeOf85 r r (by decide) (o := 0) r r r .mk) (.f [2] r (by kernel_rfl) r r (fun ex => .load1 isAgg85 r .z r r r .mk) (.f [1, 3] r (by kernel_rfl) r r (fun ex => .mul r r r r .mk) (.fs [[]] r (by kernel_rfl) ?_)))))))))
 refine .a (fun b => .pointer (some ⟨b, 0, none⟩)) (fun b => pto b (.cells #[.int .u64 0, .int .u64 0] 210 (0, 0))) r r r r (fun _ L hL ex => .allocA zeroValue210 r r fun b => .mk (val := fun b => .pointer (some ⟨b, 0, none⟩)) (atom := fun b => pto b (.cells #[.int .u64 0, .int .u64 0] 210 (0, 0))) hL b) (.w [4, 3, 2, 1, 0] [[]] [5] r (by kernel_rfl) (by kernel_rfl) (by kernel_rfl) ((dropE_kept r r)) (.inr (dropE_kept r r)) fun ex => ?_)
 have hw41 := W_wide_halves (I := I) hd
 refine .callP call182 r hw41 r r fun v42 hv43 => ?_
 obtain ⟨r40, rfl, hd⟩ := hv43
 refine .some (fun ex => (pto b27 (.cells #[.int .u64 r21.1, .int .u64 r21.2] 210 (0, 0))) :: (pto b25 (.cells #[.int .u64 r17.1, .int .u64 r17.2] 210 (0, 0))) :: (pto b3 (.cells #[.int .i64 0, .int .u64 0] 87 (0, 0))) :: ex) r (fun _ _ => (.s (.s (.s .z)))) r (.cc [1, 3] r (by kernel_rfl) r r r (fun ex => .mul r r r r .mk) (.cc [2] r (by kernel_rfl) r r r (fun ex => .load1 isAgg85 r .z r r r .mk) (.cc [] r (by kernel_rfl) r r r (fun ex => .ixArr (i := 0) underlying210 sizeOf85 r r (by decide) (o := 0) r r r .mk) (.cc [0] r (by kernel_rfl) r r r (fun ex => .load1 isAgg85 r (.s .z) r r r .mk) (.cc [] r (by kernel_rfl) r r r (fun ex => .ixArr (i := 1) underlying210 sizeOf85 r r (by decide) (o := 1) r r r .mk) trivial))))) (.f [6] r (by kernel_rfl) r r (fun ex => .index1 (i := 1) underlying210 sizeOf85 isAgg85 r r (by decide) r r r .mk) (.f [4, 7] r (by kernel_rfl) r r (fun ex => .add r r r r .mk) (.w [] [[], [8], [8], [4, 8], [3, 4, 8], [4, 8], [1, 4, 8]] [8, 6] r (by kernel_rfl) (by kernel_rfl) (by kernel_rfl) ((dropE_kept r r)) (.inr (dropE_kept r r)) fun ex => ?_)))
 have hw45 := W_wide_halves (I := I) hd
 refine .callP call182 r hw45 r r fun v46 hv47 => ?_
 obtain ⟨r44, rfl, hd⟩ := hv47
 refine .some (fun ex => (pto b27 (.cells #[.int .u64 r21.1, .int .u64 r21.2] 210 (0, 0))) :: (pto b25 (.cells #[.int .u64 r17.1, .int .u64 r17.2] 210 (0, 0))) :: (pto b3 (.cells #[.int .i64 0, .int .u64 0] 87 (0, 0))) :: ex) r (fun _ _ => (.s (.s (.s .z)))) r trivial (.b r fun b48 => DrawD.nop (.e 11 (by kernel_rfl) (by kernel_rfl) (by kernel_rfl) (.storeA sizeOf210 r r (.s (.s (.s .z))) (.t (.t .nil)) r r (.nilS [8, 7, 6, 5, 4] r r (.seq (.region (.ixArr (i := 0) underlying210 sizeOf85 r r (by decide) (o := 0) r r r (.load1 isAgg85 r (.s .z) r r r (.ixArr (i := 1) underlying210 sizeOf85 r r (by decide) (o := 1) r r r ?_)))))))))
 refine .load1 isAgg85 r .z r r r (.mul r r r r (.ixArr (i := 0) underlying210 sizeOf85 r r (by decide) (o := 0) r r r (.load1 isAgg85 r (.s (.s (.s .z))) r r r (.add r r r r ?_))))
 have hw56 := W_wide_halves (I := I) hd
 refine .callP call182 r hw56 r r fun v57 hv58 => ?_
 obtain ⟨r55, rfl, hd⟩ := hv58
 refine .allocA zeroValue210 r r fun b59 => ?_
 refine .storeA sizeOf210 r r .z (.t (.t .nil)) r r (.nilS [9, 8, 7, 6, 5, 4] r r (.seq (.draw [some 0, some 1, some 2, some 3, some 4, some 5, some 6, some 7, some 8, some 9, some 10, some 11, some 12, some 13, some 14, some 15, some 16, some 17, some 18, some 19] 20 MX (by kernel_rfl) (by kernel_rfl) (by kernel_rfl) (by kernel_rfl) (by kernel_rfl) (by kernel_rfl) (by kernel_rfl) (fun ex => (pto b59 (.cells #[.int .u64 r55.1, .int .u64 r55.2] 210 (0, 0))) :: (pto b27 (.cells #[.int .u64 r21.1, .int .u64 r21.2] 210 (0, 0))) :: (pto b25 (.cells #[.int .u64 r17.1, .int .u64 r17.2] 210 (0, 0))) :: (pto b3 (.cells #[.int .i64 0, .int .u64 0] 87 (0, 0))) :: (pto b48 (.cells #[.int .u64 r44.1, .int .u64 r44.2] 210 (0, 0))) :: ex) (fun _ _ => (.s (.s (.s (.s (.s .z)))))) r (.f [] r (by kernel_rfl) r r (fun ex => .ixArr (i := 1) underlying210 sizeOf85 r r (by decide) (o := 1) r r r .mk) (.f [0] r (by kernel_rfl) r r (fun ex => .load1 isAgg85 r (.s (.s .z)) r r r .mk) (.f [] r (by kernel_rfl) r r (fun ex => .ixArr (i := 1) underlying210 sizeOf85 r r (by decide) (o := 1) r r r .mk) (.f [2] r (by kernel_rfl) r r (fun ex => .load1 isAgg85 r (.s .z) r r r .mk) (.f [1, 3] r (by kernel_rfl) r r (fun ex => .mul r r r r .mk) (.f [] r (by kernel_rfl) r r (fun ex => .ixArr (i := 1) underlying210 sizeOf85 r r (by decide) (o := 1) r r r .mk) ?_)))))))))
 refine .f [5] r (by kernel_rfl) r r (fun ex => .load1 isAgg85 r (.s (.s (.s (.s .z)))) r r r .mk) (.f [4, 6] r (by kernel_rfl) r r (fun ex => .add r r r r .mk) (.f [] r (by kernel_rfl) r r (fun ex => .ixArr (i := 1) underlying210 sizeOf85 r r (by decide) (o := 1) r r r .mk) (.f [8] r (by kernel_rfl) r r (fun ex => .load1 isAgg85 r .z r r r .mk) (.f [7, 9] r (by kernel_rfl) r r (fun ex => .add r r r r .mk) (.f [10] r (by kernel_rfl) r r (fun ex => .conv underlying85 underlying2 r r r .mk) (.f [] r (by kernel_rfl) r r (fun ex => .ixArr (i := 0) underlying210 sizeOf85 r r (by decide) (o := 0) r r r .mk) (.f [12] r (by kernel_rfl) r r (fun ex => .load1 isAgg85 r .z r r r .mk) (.f [13] r (by kernel_rfl) r r (fun ex => .shl' r r (by decide) r r .mk) (.fs [[]] r (by kernel_rfl) ?_)))))))))
 refine .w [14, 13, 12, 11, 10, 9, 8, 7, 6, 5, 4, 3, 2, 1, 0] [[]] [15] r (by kernel_rfl) (by kernel_rfl) (by kernel_rfl) ((dropE_kept r r)) (.inr (dropE_kept r r)) fun ex => ?_
 have hw62 := W_wide_halves (I := I) hd
 refine .callP call182 r hw62 r r fun v63 hv64 => ?_
 obtain ⟨r61, rfl, hd⟩ := hv64
 refine .some (fun ex => (pto b59 (.cells #[.int .u64 r55.1, .int .u64 r55.2] 210 (0, 0))) :: (pto b27 (.cells #[.int .u64 r21.1, .int .u64 r21.2] 210 (0, 0))) :: (pto b25 (.cells #[.int .u64 r17.1, .int .u64 r17.2] 210 (0, 0))) :: (pto b3 (.cells #[.int .i64 0, .int .u64 0] 87 (0, 0))) :: (pto b48 (.cells #[.int .u64 r44.1, .int .u64 r44.2] 210 (0, 0))) :: ex) r (fun _ _ => (.s (.s (.s (.s (.s .z)))))) r (.cc [13] r (by kernel_rfl) r r r (fun ex => .shl' r r (by decide) r r .mk) (.cc [12] r (by kernel_rfl) r r r (fun ex => .load1 isAgg85 r .z r r r .mk) (.cc [] r (by kernel_rfl) r r r (fun ex => .ixArr (i := 0) underlying210 sizeOf85 r r (by decide) (o := 0) r r r .mk) (.cc [10] r (by kernel_rfl) r r r (fun ex => .conv underlying85 underlying2 r r r .mk) (.cc [7, 9] r (by kernel_rfl) r r r (fun ex => .add r r r r .mk) (.cc [8] r (by kernel_rfl) r r r (fun ex => .load1 isAgg85 r .z r r r .mk) (.cc [] r (by kernel_rfl) r r r (fun ex => .ixArr (i := 1) underlying210 sizeOf85 r r (by decide) (o := 1) r r r .mk) (.cc [4, 6] r (by kernel_rfl) r r r (fun ex => .add r r r r .mk) (.cc [5] r (by kernel_rfl) r r r (fun ex => .load1 isAgg85 r (.s (.s (.s (.s .z)))) r r r .mk) (.cc [] r (by kernel_rfl) r r r (fun ex => .ixArr (i := 1) underlying210 sizeOf85 r r (by decide) (o := 1) r r r .mk) (.cc [1, 3] r (by kernel_rfl) r r r (fun ex => .mul r r r r .mk) (.cc [2] r (by kernel_rfl) r r r (fun ex => .load1 isAgg85 r (.s .z) r r r .mk) (.cc [] r (by kernel_rfl) r r r (fun ex => .ixArr (i := 1) underlying210 sizeOf85 r r (by decide) (o := 1) r r r .mk) (.cc [0] r (by kernel_rfl) r r r (fun ex => .load1 isAgg85 r (.s (.s .z)) r r r .mk) (.cc [] r (by kernel_rfl) r r r (fun ex => .ixArr (i := 1) underlying210 sizeOf85 r r (by decide) (o := 1) r r r .mk) trivial))))))))))))))) (.f [16] r (by kernel_rfl) r r (fun ex => .index1 (i := 0) underlying210 sizeOf85 isAgg85 r r (by decide) r r r .mk) (.f [14, 17] r (by kernel_rfl) r r (fun ex => .or r r r r .mk) (.f [11, 18] r (by kernel_rfl) r r (fun ex => .build zeroValue87 underlying87 BI87 (.c r r r (.t .nil) (.c r r r (.s (.t .nil)) .n)) (by exact ⟨⟨_, _, r, r, r⟩, ⟨⟨_, _, r, r, r⟩, trivial⟩⟩) r r .mk) (.e 20 (by kernel_rfl) (by kernel_rfl) (by kernel_rfl) (.storeA sizeOf87 r r (.s (.s (.s .z))) (.t (.t .nil)) r r (.nilS [4] r r (.drop .z (.drop .z (.drop .z ?_)))))))))
 exact .drop (.s .z) (.ret (pret results160 (.w isAgg87 sizeOf87 r .z r .n) (.refl _) ⟨({ Hi := w64 (IntKind.wrap .u64 ((IntKind.wrap .u64 ((IntKind.wrap .u64 (r17.2 * r21.2)) + r44.2)) + r55.2)), Lo := bor .u64 (shl .u64 r55.1 32) r61.1 } : Wide), r, hd⟩))

theorem W_wide_size {I : IH} {a0 : Int}  {Q : Int → Prop}  (hd : wide_size a0 Q) :
    PFun Tryz.prog 161 [.int .i64 a0] I (fun I_ v => ∃ r, v = .int .u64 r ∧ Q r) := by
 refine Fun.enter func161 r ntmps161 r (.c .n) fun w0 M => ?_
 refine .seq (.region (.skips 1 r (.nilS [0] r r (.seq (.seq (.region (.skips 1 r (.lt r r r r (.nilS [4, 0] r r ?_)))))))))
 refine .condP r hd (fun hb1 hd => ?_) fun hb1 hd => ?_
 · exact .seq (.region (.skips 1 r (.conv underlying2 underlying85 r r r (.neg r r r (.skips 1 r (.nilS [2] r r (.ret (pret results161 (.t r .n) (.refl _) ⟨(IntKind.wrap .u64 (0 - (IntKind.wrap .u64 (a0)))), r, hd⟩))))))))
 exact .skipS [0] r r (.seq (.region (.skips 1 r (.conv underlying2 underlying85 r r r (.skips 1 r (.nilS [2] r r (.ret (pret results161 (.t r .n) (.refl _) ⟨(IntKind.wrap .u64 (a0)), r, hd⟩))))))))

end Go.Proofs.YtdfiinkpdaggeaaGreat
