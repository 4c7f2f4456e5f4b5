/- The walks (printed by a program of ours). -/
import Derived.Test.YtjobeiikppmidaaGreatV2
namespace Go.Proofs.YtjobeiikppmidaaGreat
open Go Go.Fw
set_option linter.unusedVariables false
set_option linter.unusedSimpArgs false
set_option maxRecDepth 8000
set_option maxHeartbeats 1000000
open Tryz
theorem W_ref07_Right {I : IH} {a0 : Rows} {p1 : Option Addr} {c2 : Nat} {p4 : Option Addr} {c5 : Nat} {p7 : Option Addr} {c8 : Nat} {Q : Bool → Prop} (R3 : RepSl eI64 I p1 c2 a0.Start) (R6 : RepSl eI64 I p4 c5 a0.Col) (R9 : RepSl eI64 I p7 c8 a0.Val) (hd : ref07_Right a0 Q) :
    PFun Tryz.prog 4 [.agg #[.int .i64 a0.Rows, .int .i64 a0.Cols, .slice p1 a0.Start.length c2, .slice p4 a0.Col.length c5, .slice p7 a0.Val.length c8]] I (fun I_ v => ∃ r, v = .bool r ∧ Q r) := by
 refine Fun.enter func4 rfl ntmps4 rfl (.c .n) fun w0 M => ?_
 refine .seq (.region (.boxA rfl rfl rfl fun b12 => ?_))
 refine .skips 1 rfl (.nilS [1] rfl rfl (.seq (.seq (.region (.fieldAddr underlying25 rfl sizeOf3 rfl (o := 0) rfl rfl rfl (.load1 isAgg3 rfl .z rfl rfl rfl (.lt rfl rfl rfl rfl (.skips 1 rfl ?_))))))))
 refine splitP hd (fun hb21 hd => ?_) fun hb21 hd => ?_
 · rw [hb21]
   exact .skips 38 rfl (.nilS [46, 1] rfl rfl (.condKT rfl rfl (.seq (.region (.skips 1 rfl (.nilS [2] rfl rfl (.drop .z (.ret (pret results4 (.t rfl .n) (.refl _) ⟨false, rfl, hd⟩)))))))))
 rw [hb21]
 refine .gyes rfl rfl rfl (.fieldAddr underlying25 rfl sizeOf3 rfl (o := 0) rfl rfl rfl (.gyes rfl rfl rfl (.load1 isAgg3 rfl .z rfl rfl rfl (.gyes rfl rfl rfl (.gt rfl rfl rfl rfl (.skips 2 rfl ?_))))))
 refine splitP hd (fun hb22 hd => ?_) fun hb22 hd => ?_
 · rw [hb22]
   exact .skips 33 rfl (.nilS [46, 1] rfl rfl (.condKT rfl rfl (.seq (.region (.skips 1 rfl (.nilS [2] rfl rfl (.drop .z (.ret (pret results4 (.t rfl .n) (.refl _) ⟨false, rfl, hd⟩)))))))))
 rw [hb22]
 refine .gyes rfl rfl rfl (.fieldAddr underlying25 rfl sizeOf3 rfl (o := 1) rfl rfl rfl (.gyes rfl rfl rfl (.load1 isAgg3 rfl .z rfl rfl rfl (.gyes rfl rfl rfl (.lt rfl rfl rfl rfl (.skips 2 rfl ?_))))))
 refine splitP hd (fun hb23 hd => ?_) fun hb23 hd => ?_
 · rw [hb23]
   exact .skips 28 rfl (.nilS [46, 1] rfl rfl (.condKT rfl rfl (.seq (.region (.skips 1 rfl (.nilS [2] rfl rfl (.drop .z (.ret (pret results4 (.t rfl .n) (.refl _) ⟨false, rfl, hd⟩)))))))))
 rw [hb23]
 refine .gyes rfl rfl rfl (.fieldAddr underlying25 rfl sizeOf3 rfl (o := 1) rfl rfl rfl (.gyes rfl rfl rfl (.load1 isAgg3 rfl .z rfl rfl rfl (.gyes rfl rfl rfl (.gt rfl rfl rfl rfl (.skips 2 rfl ?_))))))
 refine splitP hd (fun hb24 hd => ?_) fun hb24 hd => ?_
 · rw [hb24]
   exact .skips 23 rfl (.nilS [46, 1] rfl rfl (.condKT rfl rfl (.seq (.region (.skips 1 rfl (.nilS [2] rfl rfl (.drop .z (.ret (pret results4 (.t rfl .n) (.refl _) ⟨false, rfl, hd⟩)))))))))
 rw [hb24]
 refine .gyes rfl rfl rfl (.fieldAddr underlying25 rfl sizeOf22 rfl (o := 2) rfl rfl rfl (.gyes rfl rfl rfl (.load1 isAgg22 rfl .z rfl rfl rfl (.gyes rfl rfl rfl (.len underlying22 rfl rfl rfl rfl (.gyes rfl rfl rfl (.fieldAddr underlying25 rfl sizeOf3 rfl (o := 0) rfl rfl rfl (.gyes rfl rfl rfl (.load1 isAgg3 rfl .z rfl rfl rfl (.gyes rfl rfl rfl (.add rfl rfl rfl rfl (.gyes rfl rfl rfl (.ne rfl rfl rfl rfl (.skips 2 rfl ?_))))))))))))))
 refine splitP hd (fun hb25 hd => ?_) fun hb25 hd => ?_
 · rw [hb25]
   exact .skips 14 rfl (.nilS [46, 1] rfl rfl (.condKT rfl rfl (.seq (.region (.skips 1 rfl (.nilS [2] rfl rfl (.drop .z (.ret (pret results4 (.t rfl .n) (.refl _) ⟨false, rfl, hd⟩)))))))))
 rw [hb25]
 refine .gyes rfl rfl rfl (.fieldAddr underlying25 rfl sizeOf22 rfl (o := 3) rfl rfl rfl (.gyes rfl rfl rfl (.load1 isAgg22 rfl .z rfl rfl rfl (.gyes rfl rfl rfl (.len underlying22 rfl rfl rfl rfl (.gyes rfl rfl rfl (.fieldAddr underlying25 rfl sizeOf23 rfl (o := 4) rfl rfl rfl (.gyes rfl rfl rfl (.load1 isAgg23 rfl .z rfl rfl rfl (.gyes rfl rfl rfl (.len underlying23 rfl rfl rfl rfl (.gyes rfl rfl rfl (.ne rfl rfl rfl rfl (.skips 2 rfl ?_))))))))))))))
 refine splitP hd (fun hb26 hd => ?_) fun hb26 hd => ?_
 · rw [hb26]
   exact .skips 5 rfl (.nilS [46, 1] rfl rfl (.condKT rfl rfl (.seq (.region (.skips 1 rfl (.nilS [2] rfl rfl (.drop .z (.ret (pret results4 (.t rfl .n) (.refl _) ⟨false, rfl, hd⟩)))))))))
 rw [hb26]
 refine .gyes rfl rfl rfl (.fieldAddr underlying25 rfl sizeOf22 rfl (o := 3) rfl rfl rfl (.gyes rfl rfl rfl (.load1 isAgg22 rfl .z rfl rfl rfl (.gyes rfl rfl rfl (.len underlying22 rfl rfl rfl rfl (.gyes rfl rfl rfl (.gt rfl rfl rfl rfl (.skips 1 rfl (.nilS [46, 1] rfl rfl (.condP rfl hd (fun hb27 hd => ?_) fun hb27 hd => ?_))))))))))
 · exact .seq (.region (.skips 1 rfl (.nilS [2] rfl rfl (.drop .z (.ret (pret results4 (.t rfl .n) (.refl _) ⟨false, rfl, hd⟩))))))
 refine .skipS [1] rfl rfl (.seq (.seq (.draw [some 0, some 1, some 2, some 3, some 4, some 5, some 6, some 7, some 8, some 9, some 10, some 11, some 12, some 13, some 14, some 15, some 16] 17 MX (by kernel_rfl) (by kernel_rfl) (by kernel_rfl) (by kernel_rfl) (by kernel_rfl) (by kernel_rfl) (by kernel_rfl) (fun ex => (pto b12 (.cells #[.int .i64 a0.Rows, .int .i64 a0.Cols, .slice p1 a0.Start.length c2, .slice p4 a0.Col.length c5, .slice p7 a0.Val.length c8] 25 (0, 0))) :: ex) (fun _ _ => (.s .z)) rfl (.f [] rfl (by kernel_rfl) rfl rfl (fun ex => .fieldAddr underlying25 rfl sizeOf22 rfl (o := 2) rfl rfl rfl .mk) (.f [0] rfl (by kernel_rfl) rfl rfl (fun ex => .load1 isAgg22 rfl .z rfl rfl rfl .mk) ?_)))))
 obtain ⟨h48, x49, hx50, hd⟩ := hd
 obtain ⟨b51, o52, cs53, e54, hC55, hr56⟩ := R3.2 _ _ hx50
 cases hr56
 refine .f [1] rfl (by kernel_rfl) rfl rfl (fun ex => .ixa underlying22 sizeOf3 rfl e54 rfl h48 (idx_lt hx50 h48) rfl rfl .mk) (.f [2] rfl (by kernel_rfl) rfl rfl (fun ex => .ld1 (j := 0) isAgg3 hC55 rfl rfl rfl rfl rfl .mk) (.f [3] rfl (by kernel_rfl) rfl rfl (fun ex => .ne rfl rfl rfl rfl .mk) (.fs [[4]] rfl (by kernel_rfl) ?_)))
 refine splitP hd (fun hb57 hd => ?_) fun hb57 hd => ?_
 · refine .f [5] rfl (by kernel_rfl) rfl rfl (fun ex => .gno rfl rfl hb57 rfl rfl .mk) (.f [6, 5] rfl (by kernel_rfl) rfl rfl (fun ex => .gno rfl rfl hb57 rfl rfl .mk) (.f [5] rfl (by kernel_rfl) rfl rfl (fun ex => .gno rfl rfl hb57 rfl rfl .mk) (.f [8, 5] rfl (by kernel_rfl) rfl rfl (fun ex => .gno rfl rfl hb57 rfl rfl .mk) (.f [7, 9, 5] rfl (by kernel_rfl) rfl rfl (fun ex => .gno rfl rfl hb57 rfl rfl .mk) (.f [10, 5] rfl (by kernel_rfl) rfl rfl (fun ex => .gno rfl rfl hb57 rfl rfl .mk) (.f [5] rfl (by kernel_rfl) rfl rfl (fun ex => .gno rfl rfl hb57 rfl rfl .mk) (.f [12, 5] rfl (by kernel_rfl) rfl rfl (fun ex => .gno rfl rfl hb57 rfl rfl .mk) (.f [13, 5] rfl (by kernel_rfl) rfl rfl (fun ex => .gno rfl rfl hb57 rfl rfl .mk) (.f [11, 14, 5] rfl (by kernel_rfl) rfl rfl (fun ex => .gno rfl rfl hb57 rfl rfl .mk) ?_)))))))))
   exact .f [5, 15] rfl (by kernel_rfl) rfl rfl (fun ex => .pickT rfl hb57 rfl rfl rfl .mk) (.e 17 (by kernel_rfl) (by kernel_rfl) (by kernel_rfl) (.nilS [63, 1] rfl rfl (.condKT rfl rfl (.seq (.region (.skips 1 rfl (.nilS [2] rfl rfl (.drop .z (.ret (pret results4 (.t rfl .n) (.refl _) ⟨false, rfl, hd⟩))))))))))
 refine .f [5] rfl (by kernel_rfl) rfl rfl (fun ex => .gyes rfl rfl hb57 (.fieldAddr underlying25 rfl sizeOf22 rfl (o := 2) rfl rfl rfl .mk)) (.f [6, 5] rfl (by kernel_rfl) rfl rfl (fun ex => .gyes rfl rfl hb57 (.load1 isAgg22 rfl .z rfl rfl rfl .mk)) (.f [5] rfl (by kernel_rfl) rfl rfl (fun ex => .gyes rfl rfl hb57 (.fieldAddr underlying25 rfl sizeOf3 rfl (o := 0) rfl rfl rfl .mk)) (.f [8, 5] rfl (by kernel_rfl) rfl rfl (fun ex => .gyes rfl rfl hb57 (.load1 isAgg3 rfl .z rfl rfl rfl .mk)) ?_)))
 obtain ⟨h58, x59, hx60, hd⟩ := hd
 obtain ⟨b61, o62, cs63, e64, hC65, hr66⟩ := R3.2 _ _ hx60
 cases hr66
 refine .f [7, 9, 5] rfl (by kernel_rfl) rfl rfl (fun ex => .gyes rfl rfl hb57 (.ixa underlying22 sizeOf3 rfl e64 rfl h58 (idx_lt hx60 h58) rfl rfl .mk)) (.f [10, 5] rfl (by kernel_rfl) rfl rfl (fun ex => .gyes rfl rfl hb57 (.ld1 (j := 0) isAgg3 hC65 rfl rfl rfl rfl rfl .mk)) (.f [5] rfl (by kernel_rfl) rfl rfl (fun ex => .gyes rfl rfl hb57 (.fieldAddr underlying25 rfl sizeOf22 rfl (o := 3) rfl rfl rfl .mk)) (.f [12, 5] rfl (by kernel_rfl) rfl rfl (fun ex => .gyes rfl rfl hb57 (.load1 isAgg22 rfl .z rfl rfl rfl .mk)) (.f [13, 5] rfl (by kernel_rfl) rfl rfl (fun ex => .gyes rfl rfl hb57 (.len underlying22 rfl rfl rfl rfl .mk)) (.f [11, 14, 5] rfl (by kernel_rfl) rfl rfl (fun ex => .gyes rfl rfl hb57 (.ne rfl rfl rfl rfl .mk)) (.f [5, 15] rfl (by kernel_rfl) rfl rfl (fun ex => .pickF rfl hb57 rfl rfl rfl .mk) (.e 17 (by kernel_rfl) (by kernel_rfl) (by kernel_rfl) (.nilS [63, 1] rfl rfl (.condP rfl hd (fun hb67 hd => ?_) fun hb67 hd => ?_)))))))))
 · exact .seq (.region (.skips 1 rfl (.nilS [2] rfl rfl (.drop .z (.ret (pret results4 (.t rfl .n) (.refl _) ⟨false, rfl, hd⟩))))))
 refine .skipS [1] rfl rfl (.seq (.seq (.region (.skips 1 rfl (.nilS [3, 1] rfl rfl (.block (.loop hd (fun (s697 : Int) c w => ∃ I_, IH.le I I_ ∧ Ok ⟨156, [], none⟩ [(1, .pointer (some ⟨b12, 0, none⟩)), (3, .int .i64 s697)] c ∧ Sym w0 M I I_ [pto b12 (.cells #[.int .i64 a0.Rows, .int .i64 a0.Cols, .slice p1 a0.Start.length c2, .slice p4 a0.Col.length c5, .slice p7 a0.Val.length c8] 25 (0, 0))] w) (fun c w ho hs => ⟨I, (.refl _), ho.sub ⟨rfl, rfl, trivial⟩, hs.pick (.c .z .n)⟩) ?_)))))))
 rintro s697 next698 hd c w hst
 obtain ⟨I699, hl700, hok, hsym⟩ := hst
 have le701 := IH.le.trans (.refl _) hl700
 replace R3 := R3.mono hl700
 replace R6 := R6.mono hl700
 replace R9 := R9.mono hl700
 refine Cod.at hok hsym (.seq (.seq (.region (.skips 1 rfl (.fieldAddr underlying25 rfl sizeOf3 rfl (o := 0) rfl rfl rfl (.load1 isAgg3 rfl .z rfl rfl rfl (.lt rfl rfl rfl rfl (.nilS [67, 3, 1] rfl rfl (.condP rfl hd (fun hb703 hd => ?_) fun hb703 hd => ?_)))))))))
 · refine .skipS [3, 1] rfl rfl (.seq (.block (.seq (.seq (.draw [some 0, some 1, some 2, some 3, some 4, some 5, some 6, some 7, some 8, some 9, some 10, some 11, some 12, some 13, some 14, some 15, some 16, some 17, some 18, some 19, some 20, some 21, some 22, some 23, some 24, some 25, some 26, some 27, some 28, some 29, some 30, some 31] 32 MX (by kernel_rfl) (by kernel_rfl) (by kernel_rfl) (by kernel_rfl) (by kernel_rfl) (by kernel_rfl) (by kernel_rfl) (fun ex => (pto b12 (.cells #[.int .i64 a0.Rows, .int .i64 a0.Cols, .slice p1 a0.Start.length c2, .slice p4 a0.Col.length c5, .slice p7 a0.Val.length c8] 25 (0, 0))) :: ex) (fun _ _ => (.s .z)) rfl (.f [] rfl (by kernel_rfl) rfl rfl (fun ex => .fieldAddr underlying25 rfl sizeOf22 rfl (o := 2) rfl rfl rfl .mk) (.f [0] rfl (by kernel_rfl) rfl rfl (fun ex => .load1 isAgg22 rfl .z rfl rfl rfl .mk) (.fs [[]] rfl (by kernel_rfl) ?_))))))))
   obtain ⟨h743, x744, hx745, hd⟩ := hd
   obtain ⟨b746, o747, cs748, e749, hC750, hr751⟩ := R3.2 _ _ hx745
   cases hr751
   refine .f [1, 2] rfl (by kernel_rfl) rfl rfl (fun ex => .ixa underlying22 sizeOf3 rfl e749 rfl h743 (idx_lt hx745 h743) rfl rfl .mk) (.f [3] rfl (by kernel_rfl) rfl rfl (fun ex => .ld1 (j := 0) isAgg3 hC750 rfl rfl rfl rfl rfl .mk) (.f [] rfl (by kernel_rfl) rfl rfl (fun ex => .fieldAddr underlying25 rfl sizeOf22 rfl (o := 2) rfl rfl rfl .mk) (.f [5] rfl (by kernel_rfl) rfl rfl (fun ex => .load1 isAgg22 rfl .z rfl rfl rfl .mk) (.fs [[]] rfl (by kernel_rfl) (.f [7] rfl (by kernel_rfl) rfl rfl (fun ex => .add rfl rfl rfl rfl .mk) ?_)))))
   obtain ⟨h752, x753, hx754, hd⟩ := hd
   obtain ⟨b755, o756, cs757, e758, hC759, hr760⟩ := R3.2 _ _ hx754
   cases hr760
   refine .f [6, 8] rfl (by kernel_rfl) rfl rfl (fun ex => .ixa underlying22 sizeOf3 rfl e758 rfl h752 (idx_lt hx754 h752) rfl rfl .mk) (.f [9] rfl (by kernel_rfl) rfl rfl (fun ex => .ld1 (j := 0) isAgg3 hC759 rfl rfl rfl rfl rfl .mk) (.f [4, 10] rfl (by kernel_rfl) rfl rfl (fun ex => .gt rfl rfl rfl rfl .mk) (.fs [[11]] rfl (by kernel_rfl) ?_)))
   refine splitP hd (fun hb761 hd => ?_) fun hb761 hd => ?_
   · refine .f [12] rfl (by kernel_rfl) rfl rfl (fun ex => .gno rfl rfl hb761 rfl rfl .mk) (.f [13, 12] rfl (by kernel_rfl) rfl rfl (fun ex => .gno rfl rfl hb761 rfl rfl .mk) (.f [12] rfl (by kernel_rfl) rfl rfl (fun ex => .gno rfl rfl hb761 rfl rfl .mk) (.f [14, 15, 12] rfl (by kernel_rfl) rfl rfl (fun ex => .gno rfl rfl hb761 rfl rfl .mk) (.f [16, 12] rfl (by kernel_rfl) rfl rfl (fun ex => .gno rfl rfl hb761 rfl rfl .mk) (.f [17, 12] rfl (by kernel_rfl) rfl rfl (fun ex => .gno rfl rfl hb761 rfl rfl .mk) (.f [12, 18] rfl (by kernel_rfl) rfl rfl (fun ex => .pickT rfl hb761 rfl rfl rfl .mk) (.fs [[19, 12], [20], [21, 20], [20], [23, 20], [22, 24, 20], [25, 20], [20], [27, 20], [28, 20], [26, 29, 20], [20, 30]] rfl (by kernel_rfl) (.e 32 (by kernel_rfl) (by kernel_rfl) (by kernel_rfl) (.nilS [101, 3, 1] rfl rfl ?_)))))))))
     exact .condKT rfl rfl (.seq (.region (.skips 1 rfl (.nilS [2] rfl rfl (.drop .z (.ret (pret results4 (.t rfl .n) le701 ⟨false, rfl, hd⟩)))))))
   refine .f [12] rfl (by kernel_rfl) rfl rfl (fun ex => .gyes rfl rfl hb761 (.fieldAddr underlying25 rfl sizeOf22 rfl (o := 2) rfl rfl rfl .mk)) (.f [13, 12] rfl (by kernel_rfl) rfl rfl (fun ex => .gyes rfl rfl hb761 (.load1 isAgg22 rfl .z rfl rfl rfl .mk)) (.f [12] rfl (by kernel_rfl) rfl rfl (fun ex => .gyes rfl rfl hb761 (.move rfl rfl rfl .mk)) ?_))
   obtain ⟨h762, x763, hx764, hd⟩ := hd
   obtain ⟨b765, o766, cs767, e768, hC769, hr770⟩ := R3.2 _ _ hx764
   cases hr770
   refine .f [14, 15, 12] rfl (by kernel_rfl) rfl rfl (fun ex => .gyes rfl rfl hb761 (.ixa underlying22 sizeOf3 rfl e768 rfl h762 (idx_lt hx764 h762) rfl rfl .mk)) (.f [16, 12] rfl (by kernel_rfl) rfl rfl (fun ex => .gyes rfl rfl hb761 (.ld1 (j := 0) isAgg3 hC769 rfl rfl rfl rfl rfl .mk)) (.f [17, 12] rfl (by kernel_rfl) rfl rfl (fun ex => .gyes rfl rfl hb761 (.lt rfl rfl rfl rfl .mk)) (.f [12, 18] rfl (by kernel_rfl) rfl rfl (fun ex => .pickF rfl hb761 rfl rfl rfl .mk) (.fs [[19, 12]] rfl (by kernel_rfl) ?_))))
   refine splitP hd (fun hb771 hd => ?_) fun hb771 hd => ?_
   · refine .f [20] rfl (by kernel_rfl) rfl rfl (fun ex => .gno rfl rfl hb771 rfl rfl .mk) (.f [21, 20] rfl (by kernel_rfl) rfl rfl (fun ex => .gno rfl rfl hb771 rfl rfl .mk) (.f [20] rfl (by kernel_rfl) rfl rfl (fun ex => .gno rfl rfl hb771 rfl rfl .mk) (.f [23, 20] rfl (by kernel_rfl) rfl rfl (fun ex => .gno rfl rfl hb771 rfl rfl .mk) (.f [22, 24, 20] rfl (by kernel_rfl) rfl rfl (fun ex => .gno rfl rfl hb771 rfl rfl .mk) (.f [25, 20] rfl (by kernel_rfl) rfl rfl (fun ex => .gno rfl rfl hb771 rfl rfl .mk) (.f [20] rfl (by kernel_rfl) rfl rfl (fun ex => .gno rfl rfl hb771 rfl rfl .mk) (.f [27, 20] rfl (by kernel_rfl) rfl rfl (fun ex => .gno rfl rfl hb771 rfl rfl .mk) (.f [28, 20] rfl (by kernel_rfl) rfl rfl (fun ex => .gno rfl rfl hb771 rfl rfl .mk) (.f [26, 29, 20] rfl (by kernel_rfl) rfl rfl (fun ex => .gno rfl rfl hb771 rfl rfl .mk) ?_)))))))))
     exact .f [20, 30] rfl (by kernel_rfl) rfl rfl (fun ex => .pickT rfl hb771 rfl rfl rfl .mk) (.e 32 (by kernel_rfl) (by kernel_rfl) (by kernel_rfl) (.nilS [101, 3, 1] rfl rfl (.condKT rfl rfl (.seq (.region (.skips 1 rfl (.nilS [2] rfl rfl (.drop .z (.ret (pret results4 (.t rfl .n) le701 ⟨false, rfl, hd⟩))))))))))
   refine .f [20] rfl (by kernel_rfl) rfl rfl (fun ex => .gyes rfl rfl hb771 (.fieldAddr underlying25 rfl sizeOf22 rfl (o := 2) rfl rfl rfl .mk)) (.f [21, 20] rfl (by kernel_rfl) rfl rfl (fun ex => .gyes rfl rfl hb771 (.load1 isAgg22 rfl .z rfl rfl rfl .mk)) (.f [20] rfl (by kernel_rfl) rfl rfl (fun ex => .gyes rfl rfl hb771 (.move rfl rfl rfl .mk)) (.f [23, 20] rfl (by kernel_rfl) rfl rfl (fun ex => .gyes rfl rfl hb771 (.add rfl rfl rfl rfl .mk)) ?_)))
   obtain ⟨h772, x773, hx774, hd⟩ := hd
   obtain ⟨b775, o776, cs777, e778, hC779, hr780⟩ := R3.2 _ _ hx774
   cases hr780
   refine .f [22, 24, 20] rfl (by kernel_rfl) rfl rfl (fun ex => .gyes rfl rfl hb771 (.ixa underlying22 sizeOf3 rfl e778 rfl h772 (idx_lt hx774 h772) rfl rfl .mk)) (.f [25, 20] rfl (by kernel_rfl) rfl rfl (fun ex => .gyes rfl rfl hb771 (.ld1 (j := 0) isAgg3 hC779 rfl rfl rfl rfl rfl .mk)) (.f [20] rfl (by kernel_rfl) rfl rfl (fun ex => .gyes rfl rfl hb771 (.fieldAddr underlying25 rfl sizeOf22 rfl (o := 3) rfl rfl rfl .mk)) (.f [27, 20] rfl (by kernel_rfl) rfl rfl (fun ex => .gyes rfl rfl hb771 (.load1 isAgg22 rfl .z rfl rfl rfl .mk)) (.f [28, 20] rfl (by kernel_rfl) rfl rfl (fun ex => .gyes rfl rfl hb771 (.len underlying22 rfl rfl rfl rfl .mk)) (.f [26, 29, 20] rfl (by kernel_rfl) rfl rfl (fun ex => .gyes rfl rfl hb771 (.gt rfl rfl rfl rfl .mk)) (.f [20, 30] rfl (by kernel_rfl) rfl rfl (fun ex => .pickF rfl hb771 rfl rfl rfl .mk) (.e 32 (by kernel_rfl) (by kernel_rfl) (by kernel_rfl) (.nilS [101, 3, 1] rfl rfl (.condP rfl hd (fun hb781 hd => ?_) fun hb781 hd => ?_)))))))))
   · exact .seq (.region (.skips 1 rfl (.nilS [2] rfl rfl (.drop .z (.ret (pret results4 (.t rfl .n) le701 ⟨false, rfl, hd⟩))))))
   refine .skipS [3, 1] rfl rfl (.seq (.region (.fieldAddr underlying25 rfl sizeOf22 rfl (o := 2) rfl rfl rfl (.load1 isAgg22 rfl .z rfl rfl rfl (.skips 1 rfl ?_)))))
   obtain ⟨h791, x792, hx793, hd⟩ := hd
   obtain ⟨b794, o795, cs796, e797, hC798, hr799⟩ := R3.2 _ _ hx793
   cases hr799
   refine .ixa underlying22 sizeOf3 rfl e797 rfl h791 (idx_lt hx793 h791) rfl rfl (.ld1 (j := 0) isAgg3 hC798 rfl rfl rfl rfl rfl (.skips 1 rfl (.nilS [4, 3, 1] rfl rfl (.block (.loop hd (fun (s941 : Int) c w => ∃ I_, IH.le I699 I_ ∧ Ok ⟨156, [], none⟩ [(1, .pointer (some ⟨b12, 0, none⟩)), (3, .int .i64 s697), (4, .int .i64 s941)] c ∧ Sym w0 M I I_ [pto b12 (.cells #[.int .i64 a0.Rows, .int .i64 a0.Cols, .slice p1 a0.Start.length c2, .slice p4 a0.Col.length c5, .slice p7 a0.Val.length c8] 25 (0, 0))] w) (fun c w ho hs => ⟨I699, (.refl _), ho.sub ⟨rfl, rfl, rfl, trivial⟩, hs.pick (.c .z .n)⟩) ?_)))))
   rintro s941 next942 hd c w hst
   obtain ⟨I943, hl944, hok, hsym⟩ := hst
   have le945 := IH.le.trans le701 hl944
   have le946 := IH.le.trans (.refl _) hl944
   replace R3 := R3.mono hl944
   replace R6 := R6.mono hl944
   replace R9 := R9.mono hl944
   refine Cod.at hok hsym (.seq (.seq (.region (.skips 1 rfl (.fieldAddr underlying25 rfl sizeOf22 rfl (o := 2) rfl rfl rfl (.load1 isAgg22 rfl .z rfl rfl rfl (.skips 1 rfl (.add rfl rfl rfl rfl ?_))))))))
   obtain ⟨h957, x958, hx959, hd⟩ := hd
   obtain ⟨b960, o961, cs962, e963, hC964, hr965⟩ := R3.2 _ _ hx959
   cases hr965
   refine .ixa underlying22 sizeOf3 rfl e963 rfl h957 (idx_lt hx959 h957) rfl rfl (.ld1 (j := 0) isAgg3 hC964 rfl rfl rfl rfl rfl (.lt rfl rfl rfl rfl (.nilS [114, 4, 3, 1] rfl rfl (.condP rfl hd (fun hb966 hd => ?_) fun hb966 hd => ?_))))
   · refine .skipS [4, 3, 1] rfl rfl (.seq (.block (.seq (.draw [some 0, some 1, some 2, some 3, some 4, some 5, some 6, some 7, some 8, some 9, some 10, some 11, some 12, some 13, some 14, some 15, some 16, some 17, some 18, some 19, some 20, some 21, some 22, some 23, some 24, some 25, some 26, some 27, some 28, some 29, some 30, some 31, some 32, some 33, some 34, some 35, some 36, some 37, some 38] 39 MX (by kernel_rfl) (by kernel_rfl) (by kernel_rfl) (by kernel_rfl) (by kernel_rfl) (by kernel_rfl) (by kernel_rfl) (fun ex => (pto b12 (.cells #[.int .i64 a0.Rows, .int .i64 a0.Cols, .slice p1 a0.Start.length c2, .slice p4 a0.Col.length c5, .slice p7 a0.Val.length c8] 25 (0, 0))) :: ex) (fun _ _ => (.s .z)) rfl (.f [] rfl (by kernel_rfl) rfl rfl (fun ex => .fieldAddr underlying25 rfl sizeOf22 rfl (o := 3) rfl rfl rfl .mk) (.f [0] rfl (by kernel_rfl) rfl rfl (fun ex => .load1 isAgg22 rfl .z rfl rfl rfl .mk) (.fs [[]] rfl (by kernel_rfl) ?_)))))))
     obtain ⟨h967, x968, hx969, hd⟩ := hd
     obtain ⟨b970, o971, cs972, e973, hC974, hr975⟩ := R6.2 _ _ hx969
     cases hr975
     refine .f [1, 2] rfl (by kernel_rfl) rfl rfl (fun ex => .ixa underlying22 sizeOf3 rfl e973 rfl h967 (idx_lt hx969 h967) rfl rfl .mk) (.f [3] rfl (by kernel_rfl) rfl rfl (fun ex => .ld1 (j := 0) isAgg3 hC974 rfl rfl rfl rfl rfl .mk) (.f [4] rfl (by kernel_rfl) rfl rfl (fun ex => .lt rfl rfl rfl rfl .mk) (.fs [[5]] rfl (by kernel_rfl) ?_)))
     refine splitP hd (fun hb976 hd => ?_) fun hb976 hd => ?_
     · refine .f [6] rfl (by kernel_rfl) rfl rfl (fun ex => .gno rfl rfl hb976 rfl rfl .mk) (.f [7, 6] rfl (by kernel_rfl) rfl rfl (fun ex => .gno rfl rfl hb976 rfl rfl .mk) (.f [6] rfl (by kernel_rfl) rfl rfl (fun ex => .gno rfl rfl hb976 rfl rfl .mk) (.f [8, 9, 6] rfl (by kernel_rfl) rfl rfl (fun ex => .gno rfl rfl hb976 rfl rfl .mk) (.f [10, 6] rfl (by kernel_rfl) rfl rfl (fun ex => .gno rfl rfl hb976 rfl rfl .mk) (.f [6] rfl (by kernel_rfl) rfl rfl (fun ex => .gno rfl rfl hb976 rfl rfl .mk) (.f [12, 6] rfl (by kernel_rfl) rfl rfl (fun ex => .gno rfl rfl hb976 rfl rfl .mk) (.f [11, 13, 6] rfl (by kernel_rfl) rfl rfl (fun ex => .gno rfl rfl hb976 rfl rfl .mk) (.f [6, 14] rfl (by kernel_rfl) rfl rfl (fun ex => .pickT rfl hb976 rfl rfl rfl .mk) (.fs [[15, 6], [16], [16], [18, 16], [16], [19, 20, 16], [21, 16], [17, 22, 16], [23, 16, 16], [24], [25, 24], [24], [26, 27, 24], [28, 24], [24], [30, 24], [24], [32, 24], [31, 33, 24], [34, 24], [29, 35, 24], [24, 36, 16], [16, 37]] rfl (by kernel_rfl) ?_)))))))))
       exact .e 39 (by kernel_rfl) (by kernel_rfl) (by kernel_rfl) (.nilS [155, 4, 3, 1] rfl rfl (.condKT rfl rfl (.seq (.region (.skips 1 rfl (.nilS [2] rfl rfl (.drop .z (.ret (pret results4 (.t rfl .n) le945 ⟨false, rfl, hd⟩)))))))))
     refine .f [6] rfl (by kernel_rfl) rfl rfl (fun ex => .gyes rfl rfl hb976 (.fieldAddr underlying25 rfl sizeOf22 rfl (o := 3) rfl rfl rfl .mk)) (.f [7, 6] rfl (by kernel_rfl) rfl rfl (fun ex => .gyes rfl rfl hb976 (.load1 isAgg22 rfl .z rfl rfl rfl .mk)) (.f [6] rfl (by kernel_rfl) rfl rfl (fun ex => .gyes rfl rfl hb976 (.move rfl rfl rfl .mk)) ?_))
     obtain ⟨h977, x978, hx979, hd⟩ := hd
     obtain ⟨b980, o981, cs982, e983, hC984, hr985⟩ := R6.2 _ _ hx979
     cases hr985
     refine .f [8, 9, 6] rfl (by kernel_rfl) rfl rfl (fun ex => .gyes rfl rfl hb976 (.ixa underlying22 sizeOf3 rfl e983 rfl h977 (idx_lt hx979 h977) rfl rfl .mk)) (.f [10, 6] rfl (by kernel_rfl) rfl rfl (fun ex => .gyes rfl rfl hb976 (.ld1 (j := 0) isAgg3 hC984 rfl rfl rfl rfl rfl .mk)) (.f [6] rfl (by kernel_rfl) rfl rfl (fun ex => .gyes rfl rfl hb976 (.fieldAddr underlying25 rfl sizeOf3 rfl (o := 1) rfl rfl rfl .mk)) (.f [12, 6] rfl (by kernel_rfl) rfl rfl (fun ex => .gyes rfl rfl hb976 (.load1 isAgg3 rfl .z rfl rfl rfl .mk)) (.f [11, 13, 6] rfl (by kernel_rfl) rfl rfl (fun ex => .gyes rfl rfl hb976 (.ge rfl rfl rfl rfl .mk)) (.f [6, 14] rfl (by kernel_rfl) rfl rfl (fun ex => .pickF rfl hb976 rfl rfl rfl .mk) (.fs [[15, 6]] rfl (by kernel_rfl) ?_))))))
     refine splitP hd (fun hb986 hd => ?_) fun hb986 hd => ?_
     · refine .f [16] rfl (by kernel_rfl) rfl rfl (fun ex => .gno rfl rfl hb986 rfl rfl .mk) (.f [16] rfl (by kernel_rfl) rfl rfl (fun ex => .gno rfl rfl hb986 rfl rfl .mk) (.f [18, 16] rfl (by kernel_rfl) rfl rfl (fun ex => .gno rfl rfl hb986 rfl rfl .mk) (.f [16] rfl (by kernel_rfl) rfl rfl (fun ex => .gno rfl rfl hb986 rfl rfl .mk) (.f [19, 20, 16] rfl (by kernel_rfl) rfl rfl (fun ex => .gno rfl rfl hb986 rfl rfl .mk) (.f [21, 16] rfl (by kernel_rfl) rfl rfl (fun ex => .gno rfl rfl hb986 rfl rfl .mk) (.f [17, 22, 16] rfl (by kernel_rfl) rfl rfl (fun ex => .gno rfl rfl hb986 rfl rfl .mk) (.f [23, 16, 16] rfl (by kernel_rfl) rfl rfl (fun ex => .gno rfl rfl hb986 rfl rfl .mk) (.fs [[24], [25, 24], [24], [26, 27, 24], [28, 24], [24], [30, 24], [24], [32, 24], [31, 33, 24], [34, 24], [29, 35, 24]] rfl (by kernel_rfl) (.f [24, 36, 16] rfl (by kernel_rfl) rfl rfl (fun ex => .gno rfl rfl hb986 rfl rfl .mk) ?_)))))))))
       exact .f [16, 37] rfl (by kernel_rfl) rfl rfl (fun ex => .pickT rfl hb986 rfl rfl rfl .mk) (.e 39 (by kernel_rfl) (by kernel_rfl) (by kernel_rfl) (.nilS [155, 4, 3, 1] rfl rfl (.condKT rfl rfl (.seq (.region (.skips 1 rfl (.nilS [2] rfl rfl (.drop .z (.ret (pret results4 (.t rfl .n) le945 ⟨false, rfl, hd⟩))))))))))
     refine .f [16] rfl (by kernel_rfl) rfl rfl (fun ex => .gyes rfl rfl hb986 (.move rfl rfl rfl .mk)) (.f [16] rfl (by kernel_rfl) rfl rfl (fun ex => .gyes rfl rfl hb986 (.fieldAddr underlying25 rfl sizeOf22 rfl (o := 2) rfl rfl rfl .mk)) (.f [18, 16] rfl (by kernel_rfl) rfl rfl (fun ex => .gyes rfl rfl hb986 (.load1 isAgg22 rfl .z rfl rfl rfl .mk)) (.f [16] rfl (by kernel_rfl) rfl rfl (fun ex => .gyes rfl rfl hb986 (.move rfl rfl rfl .mk)) ?_)))
     obtain ⟨h987, x988, hx989, hd⟩ := hd
     obtain ⟨b990, o991, cs992, e993, hC994, hr995⟩ := R3.2 _ _ hx989
     cases hr995
     refine .f [19, 20, 16] rfl (by kernel_rfl) rfl rfl (fun ex => .gyes rfl rfl hb986 (.ixa underlying22 sizeOf3 rfl e993 rfl h987 (idx_lt hx989 h987) rfl rfl .mk)) (.f [21, 16] rfl (by kernel_rfl) rfl rfl (fun ex => .gyes rfl rfl hb986 (.ld1 (j := 0) isAgg3 hC994 rfl rfl rfl rfl rfl .mk)) (.f [17, 22, 16] rfl (by kernel_rfl) rfl rfl (fun ex => .gyes rfl rfl hb986 (.gt rfl rfl rfl rfl .mk)) (.f [23, 16, 16] rfl (by kernel_rfl) rfl rfl (fun ex => .gyes rfl rfl hb986 (.move rfl rfl rfl .mk)) ?_)))
     refine splitP hd (fun hb996 hd => ?_) fun hb996 hd => ?_
     · refine .f [24] rfl (by kernel_rfl) rfl rfl (fun ex => .gyes rfl rfl hb996 (.fieldAddr underlying25 rfl sizeOf22 rfl (o := 3) rfl rfl rfl .mk)) (.f [25, 24] rfl (by kernel_rfl) rfl rfl (fun ex => .gyes rfl rfl hb996 (.load1 isAgg22 rfl .z rfl rfl rfl .mk)) (.f [24] rfl (by kernel_rfl) rfl rfl (fun ex => .gyes rfl rfl hb996 (.move rfl rfl rfl .mk)) ?_))
       obtain ⟨h997, x998, hx999, hd⟩ := hd
       obtain ⟨b1000, o1001, cs1002, e1003, hC1004, hr1005⟩ := R6.2 _ _ hx999
       cases hr1005
       refine .f [26, 27, 24] rfl (by kernel_rfl) rfl rfl (fun ex => .gyes rfl rfl hb996 (.ixa underlying22 sizeOf3 rfl e1003 rfl h997 (idx_lt hx999 h997) rfl rfl .mk)) (.f [28, 24] rfl (by kernel_rfl) rfl rfl (fun ex => .gyes rfl rfl hb996 (.ld1 (j := 0) isAgg3 hC1004 rfl rfl rfl rfl rfl .mk)) (.f [24] rfl (by kernel_rfl) rfl rfl (fun ex => .gyes rfl rfl hb996 (.fieldAddr underlying25 rfl sizeOf22 rfl (o := 3) rfl rfl rfl .mk)) (.f [30, 24] rfl (by kernel_rfl) rfl rfl (fun ex => .gyes rfl rfl hb996 (.load1 isAgg22 rfl .z rfl rfl rfl .mk)) (.f [24] rfl (by kernel_rfl) rfl rfl (fun ex => .gyes rfl rfl hb996 (.move rfl rfl rfl .mk)) (.f [32, 24] rfl (by kernel_rfl) rfl rfl (fun ex => .gyes rfl rfl hb996 (.sub' rfl rfl rfl rfl .mk)) ?_)))))
       obtain ⟨h1006, x1007, hx1008, hd⟩ := hd
       obtain ⟨b1009, o1010, cs1011, e1012, hC1013, hr1014⟩ := R6.2 _ _ hx1008
       cases hr1014
       refine .f [31, 33, 24] rfl (by kernel_rfl) rfl rfl (fun ex => .gyes rfl rfl hb996 (.ixa underlying22 sizeOf3 rfl e1012 rfl h1006 (idx_lt hx1008 h1006) rfl rfl .mk)) (.f [34, 24] rfl (by kernel_rfl) rfl rfl (fun ex => .gyes rfl rfl hb996 (.ld1 (j := 0) isAgg3 hC1013 rfl rfl rfl rfl rfl .mk)) (.f [29, 35, 24] rfl (by kernel_rfl) rfl rfl (fun ex => .gyes rfl rfl hb996 (.le' rfl rfl rfl rfl .mk)) (.f [24, 36, 16] rfl (by kernel_rfl) rfl rfl (fun ex => .gyes rfl rfl hb986 (.pickT rfl hb996 rfl rfl rfl .mk)) (.f [16, 37] rfl (by kernel_rfl) rfl rfl (fun ex => .pickF rfl hb986 rfl rfl rfl .mk) (.e 39 (by kernel_rfl) (by kernel_rfl) (by kernel_rfl) (.nilS [155, 4, 3, 1] rfl rfl (.condP rfl hd (fun hb1015 hd => ?_) fun hb1015 hd => ?_)))))))
       · exact .seq (.region (.skips 1 rfl (.nilS [2] rfl rfl (.drop .z (.ret (pret results4 (.t rfl .n) le945 ⟨false, rfl, hd⟩))))))
       exact .skipS [4, 3, 1] rfl rfl (.region (.skips 1 rfl (.add rfl rfl rfl rfl (.sub (E' := [(1, _), (3, _), (115, _), (116, _)]) ⟨rfl, rfl, rfl, rfl, trivial⟩ (.skips 1 rfl (.nil' fun c w ho hs => ⟨(w64 (s941 + 1)), hd, I943, le946, ho.sub ⟨rfl, rfl, rfl, trivial⟩, hs.pick (.c .z .n)⟩))))))
     refine .f [24] rfl (by kernel_rfl) rfl rfl (fun ex => .gno rfl rfl hb996 rfl rfl .mk) (.f [25, 24] rfl (by kernel_rfl) rfl rfl (fun ex => .gno rfl rfl hb996 rfl rfl .mk) (.f [24] rfl (by kernel_rfl) rfl rfl (fun ex => .gno rfl rfl hb996 rfl rfl .mk) (.f [26, 27, 24] rfl (by kernel_rfl) rfl rfl (fun ex => .gno rfl rfl hb996 rfl rfl .mk) (.f [28, 24] rfl (by kernel_rfl) rfl rfl (fun ex => .gno rfl rfl hb996 rfl rfl .mk) (.f [24] rfl (by kernel_rfl) rfl rfl (fun ex => .gno rfl rfl hb996 rfl rfl .mk) (.f [30, 24] rfl (by kernel_rfl) rfl rfl (fun ex => .gno rfl rfl hb996 rfl rfl .mk) (.f [24] rfl (by kernel_rfl) rfl rfl (fun ex => .gno rfl rfl hb996 rfl rfl .mk) (.f [32, 24] rfl (by kernel_rfl) rfl rfl (fun ex => .gno rfl rfl hb996 rfl rfl .mk) (.f [31, 33, 24] rfl (by kernel_rfl) rfl rfl (fun ex => .gno rfl rfl hb996 rfl rfl .mk) ?_)))))))))
     refine .f [34, 24] rfl (by kernel_rfl) rfl rfl (fun ex => .gno rfl rfl hb996 rfl rfl .mk) (.f [29, 35, 24] rfl (by kernel_rfl) rfl rfl (fun ex => .gno rfl rfl hb996 rfl rfl .mk) (.f [24, 36, 16] rfl (by kernel_rfl) rfl rfl (fun ex => .gyes rfl rfl hb986 (.pickF rfl hb996 rfl rfl rfl .mk)) (.f [16, 37] rfl (by kernel_rfl) rfl rfl (fun ex => .pickF rfl hb986 rfl rfl rfl .mk) (.e 39 (by kernel_rfl) (by kernel_rfl) (by kernel_rfl) (.nilS [155, 4, 3, 1] rfl rfl (.condKF rfl rfl (.skipS [4, 3, 1] rfl rfl (.region (.skips 1 rfl ?_)))))))))
     exact .add rfl rfl rfl rfl (.sub (E' := [(1, _), (3, _), (115, _), (116, _)]) ⟨rfl, rfl, rfl, rfl, trivial⟩ (.skips 1 rfl (.nil' fun c w ho hs => ⟨(w64 (s941 + 1)), hd, I943, le946, ho.sub ⟨rfl, rfl, rfl, trivial⟩, hs.pick (.c .z .n)⟩)))
   exact .exitS [3, 1] rfl rfl (.region (.skips 1 rfl (.add rfl rfl rfl rfl (.sub (E' := [(1, _), (68, _), (69, _)]) ⟨rfl, rfl, rfl, trivial⟩ (.skips 1 rfl (.nil' fun c w ho hs => ⟨(w64 (s697 + 1)), hd, I943, le945, ho.sub ⟨rfl, rfl, trivial⟩, hs.pick (.c .z .n)⟩))))))
 exact .exitS [] rfl rfl (.drop .z (.seq (.region (.skips 1 rfl (.nilS [2] rfl rfl (.ret (pret results4 (.t rfl .n) le701 ⟨true, rfl, hd⟩)))))))

theorem W_ref07_SameItems {I : IH} {a0 : List Item} {a1 : List Item} {p1 : Option Addr} {c2 : Nat} {p4 : Option Addr} {c5 : Nat} {Q : Bool → Prop} (R3 : RepSl eItem I p1 c2 a0) (R6 : RepSl eItem I p4 c5 a1) (hd : ref07_SameItems a0 a1 Q) :
    PFun Tryz.prog 6 [.slice p1 a0.length c2, .slice p4 a1.length c5] I (fun I_ v => ∃ r, v = .bool r ∧ Q r) := by
 refine Fun.enter func6 rfl ntmps6 rfl (.c (.c .n)) fun w0 M => ?_
 refine .seq (.region (.skips 1 rfl (.nilS [1, 0] rfl rfl (.seq (.seq (.region (.skips 1 rfl (.len underlying31 rfl rfl rfl rfl (.skips 1 rfl ?_)))))))))
 refine .len underlying31 rfl rfl rfl rfl (.ne rfl rfl rfl rfl (.nilS [10, 1, 0] rfl rfl (.condP rfl hd (fun hb8 hd => ?_) fun hb8 hd => ?_)))
 · exact .seq (.region (.skips 1 rfl (.nilS [4] rfl rfl (.ret (pret results6 (.t rfl .n) (.refl _) ⟨false, rfl, hd⟩)))))
 refine .skipS [1, 0] rfl rfl (.seq (.seq (.region (.skips 1 rfl (.nilS [5, 1, 0] rfl rfl (.block (.loop hd (fun (s54 : Int) c w => ∃ I_, IH.le I I_ ∧ Ok ⟨26, [], none⟩ [(0, .slice p1 a0.length c2), (1, .slice p4 a1.length c5), (5, .int .i64 s54)] c ∧ Sym w0 M I I_ [] w) (fun c w ho hs => ⟨I, (.refl _), ho.sub ⟨rfl, rfl, rfl, trivial⟩, hs.pick .n⟩) ?_)))))))
 rintro s54 next55 hd c w hst
 obtain ⟨I56, hl57, hok, hsym⟩ := hst
 have le58 := IH.le.trans (.refl _) hl57
 replace R3 := R3.mono hl57
 replace R6 := R6.mono hl57
 refine Cod.at hok hsym (.seq (.seq (.region (.skips 2 rfl (.len underlying31 rfl rfl rfl rfl (.lt rfl rfl rfl rfl (.nilS [14, 5, 1, 0] rfl rfl (.condP rfl hd (fun hb60 hd => ?_) fun hb60 hd => ?_))))))))
 · refine .skipS [5, 1, 0] rfl rfl (.seq (.block (.seq (.draw [some 0, some 1, some 2, some 3, some 4, some 5, some 6, some 7, some 8] 9 MX (by kernel_rfl) (by kernel_rfl) (by kernel_rfl) (by kernel_rfl) (by kernel_rfl) (by kernel_rfl) (by kernel_rfl) (fun ex => ex) (fun _ _ => .z) rfl (.fs [[], []] rfl (by kernel_rfl) ?_)))))
   obtain ⟨h61, x62, hx63, hd⟩ := hd
   obtain ⟨b64, o65, cs66, e67, hC68, hr69⟩ := R3.2 _ _ hx63
   cases hr69
   refine .f [0, 1] rfl (by kernel_rfl) rfl rfl (fun ex => .ixa underlying31 sizeOf50 rfl e67 rfl h61 (idx_lt hx63 h61) rfl rfl .mk) (.f [2] rfl (by kernel_rfl) rfl rfl (fun ex => .ldW isAgg50 sizeOf50 hC68 rfl rfl rfl rfl .mk) (.fs [[], []] rfl (by kernel_rfl) ?_))
   obtain ⟨h70, x71, hx72, hd⟩ := hd
   obtain ⟨b73, o74, cs75, e76, hC77, hr78⟩ := R6.2 _ _ hx72
   cases hr78
   refine .f [4, 5] rfl (by kernel_rfl) rfl rfl (fun ex => .ixa underlying31 sizeOf50 rfl e76 rfl h70 (idx_lt hx72 h70) rfl rfl .mk) (.f [6] rfl (by kernel_rfl) rfl rfl (fun ex => .ldW isAgg50 sizeOf50 hC77 rfl rfl rfl rfl .mk) (.f [3, 7] rfl (by kernel_rfl) rfl rfl (fun ex => .neV rfl rfl (EQ50 x62 x71) (EG50 _ _ _ _ _) rfl rfl rfl .mk) (.e 9 (by kernel_rfl) (by kernel_rfl) (by kernel_rfl) (.nilS [25, 5, 1, 0] rfl rfl (.condP rfl hd (fun hb79 hd => ?_) fun hb79 hd => ?_)))))
   · exact .seq (.region (.skips 1 rfl (.nilS [4] rfl rfl (.ret (pret results6 (.t rfl .n) le58 ⟨false, rfl, hd⟩)))))
   exact .skipS [5, 1, 0] rfl rfl (.region (.skips 1 rfl (.add rfl rfl rfl rfl (.sub (E' := [(0, _), (1, _), (15, _), (16, _)]) ⟨rfl, rfl, rfl, rfl, trivial⟩ (.skips 1 rfl (.nil' fun c w ho hs => ⟨(w64 (s54 + 1)), hd, I56, le58, ho.sub ⟨rfl, rfl, rfl, trivial⟩, hs.pick .n⟩))))))
 exact .exitS [] rfl rfl (.seq (.region (.skips 1 rfl (.nilS [4] rfl rfl (.ret (pret results6 (.t rfl .n) le58 ⟨true, rfl, hd⟩))))))

theorem W_ref08_Right {I : IH} {a0 : Columns} {p1 : Option Addr} {c2 : Nat} {p4 : Option Addr} {c5 : Nat} {p7 : Option Addr} {c8 : Nat} {p10 : Option Addr} {c11 : Nat} {Q : Bool → Prop} (R3 : RepSl eI64 I p1 c2 a0.At) (R6 : RepSl eI64 I p4 c5 a0.Start) (R9 : RepSl eI64 I p7 c8 a0.Row) (R12 : RepSl eI64 I p10 c11 a0.Val) (hd : ref08_Right a0 Q) :
    PFun Tryz.prog 13 [.agg #[.int .i64 a0.Rows, .int .i64 a0.Cols, .slice p1 a0.At.length c2, .slice p4 a0.Start.length c5, .slice p7 a0.Row.length c8, .slice p10 a0.Val.length c11]] I (fun I_ v => ∃ r, v = .bool r ∧ Q r) := by
 refine Fun.enter func13 rfl ntmps13 rfl (.c .n) fun w0 M => ?_
 refine .seq (.region (.boxA rfl rfl rfl fun b15 => ?_))
 refine .skips 1 rfl (.nilS [1] rfl rfl (.seq (.seq (.region (.fieldAddr underlying27 rfl sizeOf3 rfl (o := 0) rfl rfl rfl (.load1 isAgg3 rfl .z rfl rfl rfl (.lt rfl rfl rfl rfl (.skips 1 rfl ?_))))))))
 refine splitP hd (fun hb24 hd => ?_) fun hb24 hd => ?_
 · rw [hb24]
   exact .skips 39 rfl (.nilS [47, 1] rfl rfl (.condKT rfl rfl (.seq (.region (.skips 1 rfl (.nilS [2] rfl rfl (.drop .z (.ret (pret results13 (.t rfl .n) (.refl _) ⟨false, rfl, hd⟩)))))))))
 rw [hb24]
 refine .gyes rfl rfl rfl (.fieldAddr underlying27 rfl sizeOf3 rfl (o := 0) rfl rfl rfl (.gyes rfl rfl rfl (.load1 isAgg3 rfl .z rfl rfl rfl (.gyes rfl rfl rfl (.gt rfl rfl rfl rfl (.skips 2 rfl ?_))))))
 refine splitP hd (fun hb25 hd => ?_) fun hb25 hd => ?_
 · rw [hb25]
   exact .skips 34 rfl (.nilS [47, 1] rfl rfl (.condKT rfl rfl (.seq (.region (.skips 1 rfl (.nilS [2] rfl rfl (.drop .z (.ret (pret results13 (.t rfl .n) (.refl _) ⟨false, rfl, hd⟩)))))))))
 rw [hb25]
 refine .gyes rfl rfl rfl (.fieldAddr underlying27 rfl sizeOf3 rfl (o := 1) rfl rfl rfl (.gyes rfl rfl rfl (.load1 isAgg3 rfl .z rfl rfl rfl (.gyes rfl rfl rfl (.lt rfl rfl rfl rfl (.skips 2 rfl ?_))))))
 refine splitP hd (fun hb26 hd => ?_) fun hb26 hd => ?_
 · rw [hb26]
   exact .skips 29 rfl (.nilS [47, 1] rfl rfl (.condKT rfl rfl (.seq (.region (.skips 1 rfl (.nilS [2] rfl rfl (.drop .z (.ret (pret results13 (.t rfl .n) (.refl _) ⟨false, rfl, hd⟩)))))))))
 rw [hb26]
 refine .gyes rfl rfl rfl (.fieldAddr underlying27 rfl sizeOf3 rfl (o := 1) rfl rfl rfl (.gyes rfl rfl rfl (.load1 isAgg3 rfl .z rfl rfl rfl (.gyes rfl rfl rfl (.gt rfl rfl rfl rfl (.skips 2 rfl ?_))))))
 refine splitP hd (fun hb27 hd => ?_) fun hb27 hd => ?_
 · rw [hb27]
   exact .skips 24 rfl (.nilS [47, 1] rfl rfl (.condKT rfl rfl (.seq (.region (.skips 1 rfl (.nilS [2] rfl rfl (.drop .z (.ret (pret results13 (.t rfl .n) (.refl _) ⟨false, rfl, hd⟩)))))))))
 rw [hb27]
 refine .gyes rfl rfl rfl (.fieldAddr underlying27 rfl sizeOf22 rfl (o := 3) rfl rfl rfl (.gyes rfl rfl rfl (.load1 isAgg22 rfl .z rfl rfl rfl (.gyes rfl rfl rfl (.len underlying22 rfl rfl rfl rfl (.gyes rfl rfl rfl (.fieldAddr underlying27 rfl sizeOf22 rfl (o := 2) rfl rfl rfl (.gyes rfl rfl rfl (.load1 isAgg22 rfl .z rfl rfl rfl (.gyes rfl rfl rfl (.len underlying22 rfl rfl rfl rfl (.gyes rfl rfl rfl (.add rfl rfl rfl rfl (.gyes rfl rfl rfl (.ne rfl rfl rfl rfl (.skips 2 rfl ?_))))))))))))))))
 refine splitP hd (fun hb28 hd => ?_) fun hb28 hd => ?_
 · rw [hb28]
   exact .skips 14 rfl (.nilS [47, 1] rfl rfl (.condKT rfl rfl (.seq (.region (.skips 1 rfl (.nilS [2] rfl rfl (.drop .z (.ret (pret results13 (.t rfl .n) (.refl _) ⟨false, rfl, hd⟩)))))))))
 rw [hb28]
 refine .gyes rfl rfl rfl (.fieldAddr underlying27 rfl sizeOf22 rfl (o := 4) rfl rfl rfl (.gyes rfl rfl rfl (.load1 isAgg22 rfl .z rfl rfl rfl (.gyes rfl rfl rfl (.len underlying22 rfl rfl rfl rfl (.gyes rfl rfl rfl (.fieldAddr underlying27 rfl sizeOf23 rfl (o := 5) rfl rfl rfl (.gyes rfl rfl rfl (.load1 isAgg23 rfl .z rfl rfl rfl (.gyes rfl rfl rfl (.len underlying23 rfl rfl rfl rfl (.gyes rfl rfl rfl (.ne rfl rfl rfl rfl (.skips 2 rfl ?_))))))))))))))
 refine splitP hd (fun hb29 hd => ?_) fun hb29 hd => ?_
 · rw [hb29]
   exact .skips 5 rfl (.nilS [47, 1] rfl rfl (.condKT rfl rfl (.seq (.region (.skips 1 rfl (.nilS [2] rfl rfl (.drop .z (.ret (pret results13 (.t rfl .n) (.refl _) ⟨false, rfl, hd⟩)))))))))
 rw [hb29]
 refine .gyes rfl rfl rfl (.fieldAddr underlying27 rfl sizeOf22 rfl (o := 4) rfl rfl rfl (.gyes rfl rfl rfl (.load1 isAgg22 rfl .z rfl rfl rfl (.gyes rfl rfl rfl (.len underlying22 rfl rfl rfl rfl (.gyes rfl rfl rfl (.gt rfl rfl rfl rfl (.skips 1 rfl (.nilS [47, 1] rfl rfl (.condP rfl hd (fun hb30 hd => ?_) fun hb30 hd => ?_))))))))))
 · exact .seq (.region (.skips 1 rfl (.nilS [2] rfl rfl (.drop .z (.ret (pret results13 (.t rfl .n) (.refl _) ⟨false, rfl, hd⟩))))))
 refine .skipS [1] rfl rfl (.seq (.seq (.draw [some 0, some 1, some 2, some 3, some 4, some 5, some 6, some 7, some 8, some 9, some 10, some 11, some 12, some 13, some 14, some 15, some 16, some 17] 18 MX (by kernel_rfl) (by kernel_rfl) (by kernel_rfl) (by kernel_rfl) (by kernel_rfl) (by kernel_rfl) (by kernel_rfl) (fun ex => (pto b15 (.cells #[.int .i64 a0.Rows, .int .i64 a0.Cols, .slice p1 a0.At.length c2, .slice p4 a0.Start.length c5, .slice p7 a0.Row.length c8, .slice p10 a0.Val.length c11] 27 (0, 0))) :: ex) (fun _ _ => (.s .z)) rfl (.f [] rfl (by kernel_rfl) rfl rfl (fun ex => .fieldAddr underlying27 rfl sizeOf22 rfl (o := 3) rfl rfl rfl .mk) (.f [0] rfl (by kernel_rfl) rfl rfl (fun ex => .load1 isAgg22 rfl .z rfl rfl rfl .mk) ?_)))))
 obtain ⟨h51, x52, hx53, hd⟩ := hd
 obtain ⟨b54, o55, cs56, e57, hC58, hr59⟩ := R6.2 _ _ hx53
 cases hr59
 refine .f [1] rfl (by kernel_rfl) rfl rfl (fun ex => .ixa underlying22 sizeOf3 rfl e57 rfl h51 (idx_lt hx53 h51) rfl rfl .mk) (.f [2] rfl (by kernel_rfl) rfl rfl (fun ex => .ld1 (j := 0) isAgg3 hC58 rfl rfl rfl rfl rfl .mk) (.f [3] rfl (by kernel_rfl) rfl rfl (fun ex => .ne rfl rfl rfl rfl .mk) (.fs [[4]] rfl (by kernel_rfl) ?_)))
 refine splitP hd (fun hb60 hd => ?_) fun hb60 hd => ?_
 · refine .f [5] rfl (by kernel_rfl) rfl rfl (fun ex => .gno rfl rfl hb60 rfl rfl .mk) (.f [6, 5] rfl (by kernel_rfl) rfl rfl (fun ex => .gno rfl rfl hb60 rfl rfl .mk) (.f [5] rfl (by kernel_rfl) rfl rfl (fun ex => .gno rfl rfl hb60 rfl rfl .mk) (.f [8, 5] rfl (by kernel_rfl) rfl rfl (fun ex => .gno rfl rfl hb60 rfl rfl .mk) (.f [9, 5] rfl (by kernel_rfl) rfl rfl (fun ex => .gno rfl rfl hb60 rfl rfl .mk) (.f [7, 10, 5] rfl (by kernel_rfl) rfl rfl (fun ex => .gno rfl rfl hb60 rfl rfl .mk) (.f [11, 5] rfl (by kernel_rfl) rfl rfl (fun ex => .gno rfl rfl hb60 rfl rfl .mk) (.f [5] rfl (by kernel_rfl) rfl rfl (fun ex => .gno rfl rfl hb60 rfl rfl .mk) (.f [13, 5] rfl (by kernel_rfl) rfl rfl (fun ex => .gno rfl rfl hb60 rfl rfl .mk) (.f [14, 5] rfl (by kernel_rfl) rfl rfl (fun ex => .gno rfl rfl hb60 rfl rfl .mk) ?_)))))))))
   refine .f [12, 15, 5] rfl (by kernel_rfl) rfl rfl (fun ex => .gno rfl rfl hb60 rfl rfl .mk) (.f [5, 16] rfl (by kernel_rfl) rfl rfl (fun ex => .pickT rfl hb60 rfl rfl rfl .mk) (.e 18 (by kernel_rfl) (by kernel_rfl) (by kernel_rfl) (.nilS [65, 1] rfl rfl (.condKT rfl rfl (.seq (.region (.skips 1 rfl (.nilS [2] rfl rfl (.drop .z ?_)))))))))
   exact .ret (pret results13 (.t rfl .n) (.refl _) ⟨false, rfl, hd⟩)
 refine .f [5] rfl (by kernel_rfl) rfl rfl (fun ex => .gyes rfl rfl hb60 (.fieldAddr underlying27 rfl sizeOf22 rfl (o := 3) rfl rfl rfl .mk)) (.f [6, 5] rfl (by kernel_rfl) rfl rfl (fun ex => .gyes rfl rfl hb60 (.load1 isAgg22 rfl .z rfl rfl rfl .mk)) (.f [5] rfl (by kernel_rfl) rfl rfl (fun ex => .gyes rfl rfl hb60 (.fieldAddr underlying27 rfl sizeOf22 rfl (o := 2) rfl rfl rfl .mk)) (.f [8, 5] rfl (by kernel_rfl) rfl rfl (fun ex => .gyes rfl rfl hb60 (.load1 isAgg22 rfl .z rfl rfl rfl .mk)) (.f [9, 5] rfl (by kernel_rfl) rfl rfl (fun ex => .gyes rfl rfl hb60 (.len underlying22 rfl rfl rfl rfl .mk)) ?_))))
 obtain ⟨h61, x62, hx63, hd⟩ := hd
 obtain ⟨b64, o65, cs66, e67, hC68, hr69⟩ := R6.2 _ _ hx63
 cases hr69
 refine .f [7, 10, 5] rfl (by kernel_rfl) rfl rfl (fun ex => .gyes rfl rfl hb60 (.ixa underlying22 sizeOf3 rfl e67 rfl h61 (idx_lt hx63 h61) rfl rfl .mk)) (.f [11, 5] rfl (by kernel_rfl) rfl rfl (fun ex => .gyes rfl rfl hb60 (.ld1 (j := 0) isAgg3 hC68 rfl rfl rfl rfl rfl .mk)) (.f [5] rfl (by kernel_rfl) rfl rfl (fun ex => .gyes rfl rfl hb60 (.fieldAddr underlying27 rfl sizeOf22 rfl (o := 4) rfl rfl rfl .mk)) (.f [13, 5] rfl (by kernel_rfl) rfl rfl (fun ex => .gyes rfl rfl hb60 (.load1 isAgg22 rfl .z rfl rfl rfl .mk)) (.f [14, 5] rfl (by kernel_rfl) rfl rfl (fun ex => .gyes rfl rfl hb60 (.len underlying22 rfl rfl rfl rfl .mk)) (.f [12, 15, 5] rfl (by kernel_rfl) rfl rfl (fun ex => .gyes rfl rfl hb60 (.ne rfl rfl rfl rfl .mk)) (.f [5, 16] rfl (by kernel_rfl) rfl rfl (fun ex => .pickF rfl hb60 rfl rfl rfl .mk) (.e 18 (by kernel_rfl) (by kernel_rfl) (by kernel_rfl) (.nilS [65, 1] rfl rfl (.condP rfl hd (fun hb70 hd => ?_) fun hb70 hd => ?_)))))))))
 · exact .seq (.region (.skips 1 rfl (.nilS [2] rfl rfl (.drop .z (.ret (pret results13 (.t rfl .n) (.refl _) ⟨false, rfl, hd⟩))))))
 refine .skipS [1] rfl rfl (.seq (.seq (.region (.skips 1 rfl (.nilS [3, 1] rfl rfl (.block (.loop hd (fun (s865 : Int) c w => ∃ I_, IH.le I I_ ∧ Ok ⟨193, [], none⟩ [(1, .pointer (some ⟨b15, 0, none⟩)), (3, .int .i64 s865)] c ∧ Sym w0 M I I_ [pto b15 (.cells #[.int .i64 a0.Rows, .int .i64 a0.Cols, .slice p1 a0.At.length c2, .slice p4 a0.Start.length c5, .slice p7 a0.Row.length c8, .slice p10 a0.Val.length c11] 27 (0, 0))] w) (fun c w ho hs => ⟨I, (.refl _), ho.sub ⟨rfl, rfl, trivial⟩, hs.pick (.c .z .n)⟩) ?_)))))))
 rintro s865 next866 hd c w hst
 obtain ⟨I867, hl868, hok, hsym⟩ := hst
 have le869 := IH.le.trans (.refl _) hl868
 replace R3 := R3.mono hl868
 replace R6 := R6.mono hl868
 replace R9 := R9.mono hl868
 replace R12 := R12.mono hl868
 refine Cod.at hok hsym (.seq (.seq (.region (.skips 1 rfl (.fieldAddr underlying27 rfl sizeOf22 rfl (o := 2) rfl rfl rfl (.load1 isAgg22 rfl .z rfl rfl rfl (.len underlying22 rfl rfl rfl rfl (.lt rfl rfl rfl rfl (.nilS [70, 3, 1] rfl rfl ?_)))))))))
 refine .condP rfl hd (fun hb871 hd => ?_) fun hb871 hd => ?_
 · refine .skipS [3, 1] rfl rfl (.seq (.block (.seq ?_)))
   refine Cod.joinQ (σ := Unit) hd (fun (_ : Unit) c w => ∃ I_, IH.le I867 I_ ∧ Ok ⟨193, [], none⟩ [(1, .pointer (some ⟨b15, 0, none⟩)), (3, .int .i64 s865)] c ∧ Sym w0 M I I_ [pto b15 (.cells #[.int .i64 a0.Rows, .int .i64 a0.Cols, .slice p1 a0.At.length c2, .slice p4 a0.Start.length c5, .slice p7 a0.Row.length c8, .slice p10 a0.Val.length c11] 27 (0, 0))] w) (fun k952 hd => ?_) ?_
   · skip
     refine .seq (.draw [some 0, some 1, some 2, some 3, some 4, some 5, some 6, some 7, some 8, some 9, some 10, some 11, some 12, some 13, some 14, some 15, some 16, some 17, some 18, some 19, some 20, some 21, some 22, some 23, some 24, some 25, some 26, some 27, some 28, some 29, some 30, some 31, some 32, some 33] 34 MX (by kernel_rfl) (by kernel_rfl) (by kernel_rfl) (by kernel_rfl) (by kernel_rfl) (by kernel_rfl) (by kernel_rfl) (fun ex => (pto b15 (.cells #[.int .i64 a0.Rows, .int .i64 a0.Cols, .slice p1 a0.At.length c2, .slice p4 a0.Start.length c5, .slice p7 a0.Row.length c8, .slice p10 a0.Val.length c11] 27 (0, 0))) :: ex) (fun _ _ => (.s .z)) rfl (.f [] rfl (by kernel_rfl) rfl rfl (fun ex => .fieldAddr underlying27 rfl sizeOf22 rfl (o := 2) rfl rfl rfl .mk) (.f [0] rfl (by kernel_rfl) rfl rfl (fun ex => .load1 isAgg22 rfl .z rfl rfl rfl .mk) (.fs [[]] rfl (by kernel_rfl) ?_))))
     obtain ⟨h953, x954, hx955, hd⟩ := hd
     obtain ⟨b956, o957, cs958, e959, hC960, hr961⟩ := R3.2 _ _ hx955
     cases hr961
     refine .f [1, 2] rfl (by kernel_rfl) rfl rfl (fun ex => .ixa underlying22 sizeOf3 rfl e959 rfl h953 (idx_lt hx955 h953) rfl rfl .mk) (.f [3] rfl (by kernel_rfl) rfl rfl (fun ex => .ld1 (j := 0) isAgg3 hC960 rfl rfl rfl rfl rfl .mk) (.f [4] rfl (by kernel_rfl) rfl rfl (fun ex => .lt rfl rfl rfl rfl .mk) (.fs [[5]] rfl (by kernel_rfl) ?_)))
     refine splitP hd (fun hb962 hd => ?_) fun hb962 hd => ?_
     · refine .f [6] rfl (by kernel_rfl) rfl rfl (fun ex => .gno rfl rfl hb962 rfl rfl .mk) (.f [7, 6] rfl (by kernel_rfl) rfl rfl (fun ex => .gno rfl rfl hb962 rfl rfl .mk) (.f [6] rfl (by kernel_rfl) rfl rfl (fun ex => .gno rfl rfl hb962 rfl rfl .mk) (.f [8, 9, 6] rfl (by kernel_rfl) rfl rfl (fun ex => .gno rfl rfl hb962 rfl rfl .mk) (.f [10, 6] rfl (by kernel_rfl) rfl rfl (fun ex => .gno rfl rfl hb962 rfl rfl .mk) (.f [6] rfl (by kernel_rfl) rfl rfl (fun ex => .gno rfl rfl hb962 rfl rfl .mk) (.f [12, 6] rfl (by kernel_rfl) rfl rfl (fun ex => .gno rfl rfl hb962 rfl rfl .mk) (.f [11, 13, 6] rfl (by kernel_rfl) rfl rfl (fun ex => .gno rfl rfl hb962 rfl rfl .mk) (.f [6, 14] rfl (by kernel_rfl) rfl rfl (fun ex => .pickT rfl hb962 rfl rfl rfl .mk) (.fs [[15, 6], [16], [17, 16], [18, 16, 16], [19], [20, 19], [19], [21, 22, 19], [23, 19], [19], [25, 19], [19], [27, 19], [26, 28, 19], [29, 19], [24, 30, 19], [19, 31, 16], [16, 32]] rfl (by kernel_rfl) ?_)))))))))
       exact .e 34 (by kernel_rfl) (by kernel_rfl) (by kernel_rfl) (.nilS [106, 3, 1] rfl rfl (.condKT rfl rfl (.seq (.region (.skips 1 rfl (.nilS [2] rfl rfl (.drop .z (.ret (pret results13 (.t rfl .n) le869 ⟨false, rfl, hd⟩)))))))))
     refine .f [6] rfl (by kernel_rfl) rfl rfl (fun ex => .gyes rfl rfl hb962 (.fieldAddr underlying27 rfl sizeOf22 rfl (o := 2) rfl rfl rfl .mk)) (.f [7, 6] rfl (by kernel_rfl) rfl rfl (fun ex => .gyes rfl rfl hb962 (.load1 isAgg22 rfl .z rfl rfl rfl .mk)) (.f [6] rfl (by kernel_rfl) rfl rfl (fun ex => .gyes rfl rfl hb962 (.move rfl rfl rfl .mk)) ?_))
     obtain ⟨h963, x964, hx965, hd⟩ := hd
     obtain ⟨b966, o967, cs968, e969, hC970, hr971⟩ := R3.2 _ _ hx965
     cases hr971
     refine .f [8, 9, 6] rfl (by kernel_rfl) rfl rfl (fun ex => .gyes rfl rfl hb962 (.ixa underlying22 sizeOf3 rfl e969 rfl h963 (idx_lt hx965 h963) rfl rfl .mk)) (.f [10, 6] rfl (by kernel_rfl) rfl rfl (fun ex => .gyes rfl rfl hb962 (.ld1 (j := 0) isAgg3 hC970 rfl rfl rfl rfl rfl .mk)) (.f [6] rfl (by kernel_rfl) rfl rfl (fun ex => .gyes rfl rfl hb962 (.fieldAddr underlying27 rfl sizeOf3 rfl (o := 1) rfl rfl rfl .mk)) (.f [12, 6] rfl (by kernel_rfl) rfl rfl (fun ex => .gyes rfl rfl hb962 (.load1 isAgg3 rfl .z rfl rfl rfl .mk)) (.f [11, 13, 6] rfl (by kernel_rfl) rfl rfl (fun ex => .gyes rfl rfl hb962 (.ge rfl rfl rfl rfl .mk)) (.f [6, 14] rfl (by kernel_rfl) rfl rfl (fun ex => .pickF rfl hb962 rfl rfl rfl .mk) (.fs [[15, 6]] rfl (by kernel_rfl) ?_))))))
     refine splitP hd (fun hb972 hd => ?_) fun hb972 hd => ?_
     · refine .f [16] rfl (by kernel_rfl) rfl rfl (fun ex => .gno rfl rfl hb972 rfl rfl .mk) (.f [17, 16] rfl (by kernel_rfl) rfl rfl (fun ex => .gno rfl rfl hb972 rfl rfl .mk) (.f [18, 16, 16] rfl (by kernel_rfl) rfl rfl (fun ex => .gno rfl rfl hb972 rfl rfl .mk) (.fs [[19], [20, 19], [19], [21, 22, 19], [23, 19], [19], [25, 19], [19], [27, 19], [26, 28, 19], [29, 19], [24, 30, 19]] rfl (by kernel_rfl) (.f [19, 31, 16] rfl (by kernel_rfl) rfl rfl (fun ex => .gno rfl rfl hb972 rfl rfl .mk) (.f [16, 32] rfl (by kernel_rfl) rfl rfl (fun ex => .pickT rfl hb972 rfl rfl rfl .mk) (.e 34 (by kernel_rfl) (by kernel_rfl) (by kernel_rfl) (.nilS [106, 3, 1] rfl rfl (.condKT rfl rfl (.seq ?_)))))))))
       exact .region (.skips 1 rfl (.nilS [2] rfl rfl (.drop .z (.ret (pret results13 (.t rfl .n) le869 ⟨false, rfl, hd⟩)))))
     refine .f [16] rfl (by kernel_rfl) rfl rfl (fun ex => .gyes rfl rfl hb972 (.move rfl rfl rfl .mk)) (.f [17, 16] rfl (by kernel_rfl) rfl rfl (fun ex => .gyes rfl rfl hb972 (.gt rfl rfl rfl rfl .mk)) (.f [18, 16, 16] rfl (by kernel_rfl) rfl rfl (fun ex => .gyes rfl rfl hb972 (.move rfl rfl rfl .mk)) ?_))
     refine splitP hd (fun hb973 hd => ?_) fun hb973 hd => ?_
     · refine .f [19] rfl (by kernel_rfl) rfl rfl (fun ex => .gyes rfl rfl hb973 (.fieldAddr underlying27 rfl sizeOf22 rfl (o := 2) rfl rfl rfl .mk)) (.f [20, 19] rfl (by kernel_rfl) rfl rfl (fun ex => .gyes rfl rfl hb973 (.load1 isAgg22 rfl .z rfl rfl rfl .mk)) (.f [19] rfl (by kernel_rfl) rfl rfl (fun ex => .gyes rfl rfl hb973 (.move rfl rfl rfl .mk)) ?_))
       obtain ⟨h974, x975, hx976, hd⟩ := hd
       obtain ⟨b977, o978, cs979, e980, hC981, hr982⟩ := R3.2 _ _ hx976
       cases hr982
       refine .f [21, 22, 19] rfl (by kernel_rfl) rfl rfl (fun ex => .gyes rfl rfl hb973 (.ixa underlying22 sizeOf3 rfl e980 rfl h974 (idx_lt hx976 h974) rfl rfl .mk)) (.f [23, 19] rfl (by kernel_rfl) rfl rfl (fun ex => .gyes rfl rfl hb973 (.ld1 (j := 0) isAgg3 hC981 rfl rfl rfl rfl rfl .mk)) (.f [19] rfl (by kernel_rfl) rfl rfl (fun ex => .gyes rfl rfl hb973 (.fieldAddr underlying27 rfl sizeOf22 rfl (o := 2) rfl rfl rfl .mk)) (.f [25, 19] rfl (by kernel_rfl) rfl rfl (fun ex => .gyes rfl rfl hb973 (.load1 isAgg22 rfl .z rfl rfl rfl .mk)) (.f [19] rfl (by kernel_rfl) rfl rfl (fun ex => .gyes rfl rfl hb973 (.move rfl rfl rfl .mk)) (.f [27, 19] rfl (by kernel_rfl) rfl rfl (fun ex => .gyes rfl rfl hb973 (.sub' rfl rfl rfl rfl .mk)) ?_)))))
       obtain ⟨h983, x984, hx985, hd⟩ := hd
       obtain ⟨b986, o987, cs988, e989, hC990, hr991⟩ := R3.2 _ _ hx985
       cases hr991
       refine .f [26, 28, 19] rfl (by kernel_rfl) rfl rfl (fun ex => .gyes rfl rfl hb973 (.ixa underlying22 sizeOf3 rfl e989 rfl h983 (idx_lt hx985 h983) rfl rfl .mk)) (.f [29, 19] rfl (by kernel_rfl) rfl rfl (fun ex => .gyes rfl rfl hb973 (.ld1 (j := 0) isAgg3 hC990 rfl rfl rfl rfl rfl .mk)) (.f [24, 30, 19] rfl (by kernel_rfl) rfl rfl (fun ex => .gyes rfl rfl hb973 (.le' rfl rfl rfl rfl .mk)) (.f [19, 31, 16] rfl (by kernel_rfl) rfl rfl (fun ex => .gyes rfl rfl hb972 (.pickT rfl hb973 rfl rfl rfl .mk)) (.f [16, 32] rfl (by kernel_rfl) rfl rfl (fun ex => .pickF rfl hb972 rfl rfl rfl .mk) (.e 34 (by kernel_rfl) (by kernel_rfl) (by kernel_rfl) (.nilS [106, 3, 1] rfl rfl (.condP rfl hd (fun hb992 hd => ?_) fun hb992 hd => ?_)))))))
       · exact .seq (.region (.skips 1 rfl (.nilS [2] rfl rfl (.drop .z (.ret (pret results13 (.t rfl .n) le869 ⟨false, rfl, hd⟩))))))
       exact .skip' fun c w ho hs => ⟨(), hd, I867, (.refl _), ho.sub ⟨rfl, rfl, trivial⟩, hs.pick (.c .z .n)⟩
     refine .f [19] rfl (by kernel_rfl) rfl rfl (fun ex => .gno rfl rfl hb973 rfl rfl .mk) (.f [20, 19] rfl (by kernel_rfl) rfl rfl (fun ex => .gno rfl rfl hb973 rfl rfl .mk) (.f [19] rfl (by kernel_rfl) rfl rfl (fun ex => .gno rfl rfl hb973 rfl rfl .mk) (.f [21, 22, 19] rfl (by kernel_rfl) rfl rfl (fun ex => .gno rfl rfl hb973 rfl rfl .mk) (.f [23, 19] rfl (by kernel_rfl) rfl rfl (fun ex => .gno rfl rfl hb973 rfl rfl .mk) (.f [19] rfl (by kernel_rfl) rfl rfl (fun ex => .gno rfl rfl hb973 rfl rfl .mk) (.f [25, 19] rfl (by kernel_rfl) rfl rfl (fun ex => .gno rfl rfl hb973 rfl rfl .mk) (.f [19] rfl (by kernel_rfl) rfl rfl (fun ex => .gno rfl rfl hb973 rfl rfl .mk) (.f [27, 19] rfl (by kernel_rfl) rfl rfl (fun ex => .gno rfl rfl hb973 rfl rfl .mk) (.f [26, 28, 19] rfl (by kernel_rfl) rfl rfl (fun ex => .gno rfl rfl hb973 rfl rfl .mk) ?_)))))))))
     exact .f [29, 19] rfl (by kernel_rfl) rfl rfl (fun ex => .gno rfl rfl hb973 rfl rfl .mk) (.f [24, 30, 19] rfl (by kernel_rfl) rfl rfl (fun ex => .gno rfl rfl hb973 rfl rfl .mk) (.f [19, 31, 16] rfl (by kernel_rfl) rfl rfl (fun ex => .gyes rfl rfl hb972 (.pickF rfl hb973 rfl rfl rfl .mk)) (.f [16, 32] rfl (by kernel_rfl) rfl rfl (fun ex => .pickF rfl hb972 rfl rfl rfl .mk) (.e 34 (by kernel_rfl) (by kernel_rfl) (by kernel_rfl) (.nilS [106, 3, 1] rfl rfl (.condKF rfl rfl (.skip' fun c w ho hs => ⟨(), hd, I867, (.refl _), ho.sub ⟨rfl, rfl, trivial⟩, hs.pick (.c .z .n)⟩)))))))
   rintro ⟨⟩ hd c w hst
   obtain ⟨I993, hl994, hok, hsym⟩ := hst
   have le995 := IH.le.trans le869 hl994
   have le996 := IH.le.trans (.refl _) hl994
   replace R3 := R3.mono hl994
   replace R6 := R6.mono hl994
   replace R9 := R9.mono hl994
   replace R12 := R12.mono hl994
   refine Cod.at hok hsym (.seq (.seq (.draw [some 0, some 1, some 2, some 3, some 4, some 5, some 6, some 7, some 8, some 9, some 10, some 11, some 12, some 13, some 14, some 15, some 16, some 17, some 18, some 19, some 20, some 21, some 22, some 23, some 24, some 25, some 26, some 27, some 28, some 29, some 30, some 31] 32 MX (by kernel_rfl) (by kernel_rfl) (by kernel_rfl) (by kernel_rfl) (by kernel_rfl) (by kernel_rfl) (by kernel_rfl) (fun ex => (pto b15 (.cells #[.int .i64 a0.Rows, .int .i64 a0.Cols, .slice p1 a0.At.length c2, .slice p4 a0.Start.length c5, .slice p7 a0.Row.length c8, .slice p10 a0.Val.length c11] 27 (0, 0))) :: ex) (fun _ _ => (.s .z)) rfl (.f [] rfl (by kernel_rfl) rfl rfl (fun ex => .fieldAddr underlying27 rfl sizeOf22 rfl (o := 3) rfl rfl rfl .mk) (.f [0] rfl (by kernel_rfl) rfl rfl (fun ex => .load1 isAgg22 rfl .z rfl rfl rfl .mk) (.fs [[]] rfl (by kernel_rfl) ?_))))))
   obtain ⟨h1036, x1037, hx1038, hd⟩ := hd
   obtain ⟨b1039, o1040, cs1041, e1042, hC1043, hr1044⟩ := R6.2 _ _ hx1038
   cases hr1044
   refine .f [1, 2] rfl (by kernel_rfl) rfl rfl (fun ex => .ixa underlying22 sizeOf3 rfl e1042 rfl h1036 (idx_lt hx1038 h1036) rfl rfl .mk) (.f [3] rfl (by kernel_rfl) rfl rfl (fun ex => .ld1 (j := 0) isAgg3 hC1043 rfl rfl rfl rfl rfl .mk) (.f [4] rfl (by kernel_rfl) rfl rfl (fun ex => .lt rfl rfl rfl rfl .mk) (.fs [[5]] rfl (by kernel_rfl) ?_)))
   refine splitP hd (fun hb1045 hd => ?_) fun hb1045 hd => ?_
   · refine .f [6] rfl (by kernel_rfl) rfl rfl (fun ex => .gno rfl rfl hb1045 rfl rfl .mk) (.f [7, 6] rfl (by kernel_rfl) rfl rfl (fun ex => .gno rfl rfl hb1045 rfl rfl .mk) (.f [6] rfl (by kernel_rfl) rfl rfl (fun ex => .gno rfl rfl hb1045 rfl rfl .mk) (.f [8, 9, 6] rfl (by kernel_rfl) rfl rfl (fun ex => .gno rfl rfl hb1045 rfl rfl .mk) (.f [10, 6] rfl (by kernel_rfl) rfl rfl (fun ex => .gno rfl rfl hb1045 rfl rfl .mk) (.f [6] rfl (by kernel_rfl) rfl rfl (fun ex => .gno rfl rfl hb1045 rfl rfl .mk) (.f [12, 6] rfl (by kernel_rfl) rfl rfl (fun ex => .gno rfl rfl hb1045 rfl rfl .mk) (.f [6] rfl (by kernel_rfl) rfl rfl (fun ex => .gno rfl rfl hb1045 rfl rfl .mk) (.f [14, 6] rfl (by kernel_rfl) rfl rfl (fun ex => .gno rfl rfl hb1045 rfl rfl .mk) (.f [13, 15, 6] rfl (by kernel_rfl) rfl rfl (fun ex => .gno rfl rfl hb1045 rfl rfl .mk) ?_)))))))))
     refine .f [16, 6] rfl (by kernel_rfl) rfl rfl (fun ex => .gno rfl rfl hb1045 rfl rfl .mk) (.f [11, 17, 6] rfl (by kernel_rfl) rfl rfl (fun ex => .gno rfl rfl hb1045 rfl rfl .mk) (.f [6, 18] rfl (by kernel_rfl) rfl rfl (fun ex => .pickT rfl hb1045 rfl rfl rfl .mk) (.fs [[19, 6], [20], [21, 20], [20], [23, 20], [22, 24, 20], [25, 20], [20], [27, 20], [28, 20], [26, 29, 20], [20, 30]] rfl (by kernel_rfl) (.e 32 (by kernel_rfl) (by kernel_rfl) (by kernel_rfl) (.nilS [138, 3, 1] rfl rfl (.condKT rfl rfl (.seq (.region (.skips 1 rfl ?_)))))))))
     exact .nilS [2] rfl rfl (.drop .z (.ret (pret results13 (.t rfl .n) le995 ⟨false, rfl, hd⟩)))
   refine .f [6] rfl (by kernel_rfl) rfl rfl (fun ex => .gyes rfl rfl hb1045 (.fieldAddr underlying27 rfl sizeOf22 rfl (o := 3) rfl rfl rfl .mk)) (.f [7, 6] rfl (by kernel_rfl) rfl rfl (fun ex => .gyes rfl rfl hb1045 (.load1 isAgg22 rfl .z rfl rfl rfl .mk)) (.f [6] rfl (by kernel_rfl) rfl rfl (fun ex => .gyes rfl rfl hb1045 (.move rfl rfl rfl .mk)) ?_))
   obtain ⟨h1046, x1047, hx1048, hd⟩ := hd
   obtain ⟨b1049, o1050, cs1051, e1052, hC1053, hr1054⟩ := R6.2 _ _ hx1048
   cases hr1054
   refine .f [8, 9, 6] rfl (by kernel_rfl) rfl rfl (fun ex => .gyes rfl rfl hb1045 (.ixa underlying22 sizeOf3 rfl e1052 rfl h1046 (idx_lt hx1048 h1046) rfl rfl .mk)) (.f [10, 6] rfl (by kernel_rfl) rfl rfl (fun ex => .gyes rfl rfl hb1045 (.ld1 (j := 0) isAgg3 hC1053 rfl rfl rfl rfl rfl .mk)) (.f [6] rfl (by kernel_rfl) rfl rfl (fun ex => .gyes rfl rfl hb1045 (.fieldAddr underlying27 rfl sizeOf22 rfl (o := 3) rfl rfl rfl .mk)) (.f [12, 6] rfl (by kernel_rfl) rfl rfl (fun ex => .gyes rfl rfl hb1045 (.load1 isAgg22 rfl .z rfl rfl rfl .mk)) (.f [6] rfl (by kernel_rfl) rfl rfl (fun ex => .gyes rfl rfl hb1045 (.move rfl rfl rfl .mk)) (.f [14, 6] rfl (by kernel_rfl) rfl rfl (fun ex => .gyes rfl rfl hb1045 (.add rfl rfl rfl rfl .mk)) ?_)))))
   obtain ⟨h1055, x1056, hx1057, hd⟩ := hd
   obtain ⟨b1058, o1059, cs1060, e1061, hC1062, hr1063⟩ := R6.2 _ _ hx1057
   cases hr1063
   refine .f [13, 15, 6] rfl (by kernel_rfl) rfl rfl (fun ex => .gyes rfl rfl hb1045 (.ixa underlying22 sizeOf3 rfl e1061 rfl h1055 (idx_lt hx1057 h1055) rfl rfl .mk)) (.f [16, 6] rfl (by kernel_rfl) rfl rfl (fun ex => .gyes rfl rfl hb1045 (.ld1 (j := 0) isAgg3 hC1062 rfl rfl rfl rfl rfl .mk)) (.f [11, 17, 6] rfl (by kernel_rfl) rfl rfl (fun ex => .gyes rfl rfl hb1045 (.ge rfl rfl rfl rfl .mk)) (.f [6, 18] rfl (by kernel_rfl) rfl rfl (fun ex => .pickF rfl hb1045 rfl rfl rfl .mk) (.fs [[19, 6]] rfl (by kernel_rfl) ?_))))
   refine splitP hd (fun hb1064 hd => ?_) fun hb1064 hd => ?_
   · refine .f [20] rfl (by kernel_rfl) rfl rfl (fun ex => .gno rfl rfl hb1064 rfl rfl .mk) (.f [21, 20] rfl (by kernel_rfl) rfl rfl (fun ex => .gno rfl rfl hb1064 rfl rfl .mk) (.f [20] rfl (by kernel_rfl) rfl rfl (fun ex => .gno rfl rfl hb1064 rfl rfl .mk) (.f [23, 20] rfl (by kernel_rfl) rfl rfl (fun ex => .gno rfl rfl hb1064 rfl rfl .mk) (.f [22, 24, 20] rfl (by kernel_rfl) rfl rfl (fun ex => .gno rfl rfl hb1064 rfl rfl .mk) (.f [25, 20] rfl (by kernel_rfl) rfl rfl (fun ex => .gno rfl rfl hb1064 rfl rfl .mk) (.f [20] rfl (by kernel_rfl) rfl rfl (fun ex => .gno rfl rfl hb1064 rfl rfl .mk) (.f [27, 20] rfl (by kernel_rfl) rfl rfl (fun ex => .gno rfl rfl hb1064 rfl rfl .mk) (.f [28, 20] rfl (by kernel_rfl) rfl rfl (fun ex => .gno rfl rfl hb1064 rfl rfl .mk) (.f [26, 29, 20] rfl (by kernel_rfl) rfl rfl (fun ex => .gno rfl rfl hb1064 rfl rfl .mk) ?_)))))))))
     exact .f [20, 30] rfl (by kernel_rfl) rfl rfl (fun ex => .pickT rfl hb1064 rfl rfl rfl .mk) (.e 32 (by kernel_rfl) (by kernel_rfl) (by kernel_rfl) (.nilS [138, 3, 1] rfl rfl (.condKT rfl rfl (.seq (.region (.skips 1 rfl (.nilS [2] rfl rfl (.drop .z (.ret (pret results13 (.t rfl .n) le995 ⟨false, rfl, hd⟩))))))))))
   refine .f [20] rfl (by kernel_rfl) rfl rfl (fun ex => .gyes rfl rfl hb1064 (.fieldAddr underlying27 rfl sizeOf22 rfl (o := 3) rfl rfl rfl .mk)) (.f [21, 20] rfl (by kernel_rfl) rfl rfl (fun ex => .gyes rfl rfl hb1064 (.load1 isAgg22 rfl .z rfl rfl rfl .mk)) (.f [20] rfl (by kernel_rfl) rfl rfl (fun ex => .gyes rfl rfl hb1064 (.move rfl rfl rfl .mk)) (.f [23, 20] rfl (by kernel_rfl) rfl rfl (fun ex => .gyes rfl rfl hb1064 (.add rfl rfl rfl rfl .mk)) ?_)))
   obtain ⟨h1065, x1066, hx1067, hd⟩ := hd
   obtain ⟨b1068, o1069, cs1070, e1071, hC1072, hr1073⟩ := R6.2 _ _ hx1067
   cases hr1073
   refine .f [22, 24, 20] rfl (by kernel_rfl) rfl rfl (fun ex => .gyes rfl rfl hb1064 (.ixa underlying22 sizeOf3 rfl e1071 rfl h1065 (idx_lt hx1067 h1065) rfl rfl .mk)) (.f [25, 20] rfl (by kernel_rfl) rfl rfl (fun ex => .gyes rfl rfl hb1064 (.ld1 (j := 0) isAgg3 hC1072 rfl rfl rfl rfl rfl .mk)) (.f [20] rfl (by kernel_rfl) rfl rfl (fun ex => .gyes rfl rfl hb1064 (.fieldAddr underlying27 rfl sizeOf22 rfl (o := 4) rfl rfl rfl .mk)) (.f [27, 20] rfl (by kernel_rfl) rfl rfl (fun ex => .gyes rfl rfl hb1064 (.load1 isAgg22 rfl .z rfl rfl rfl .mk)) (.f [28, 20] rfl (by kernel_rfl) rfl rfl (fun ex => .gyes rfl rfl hb1064 (.len underlying22 rfl rfl rfl rfl .mk)) (.f [26, 29, 20] rfl (by kernel_rfl) rfl rfl (fun ex => .gyes rfl rfl hb1064 (.gt rfl rfl rfl rfl .mk)) (.f [20, 30] rfl (by kernel_rfl) rfl rfl (fun ex => .pickF rfl hb1064 rfl rfl rfl .mk) (.e 32 (by kernel_rfl) (by kernel_rfl) (by kernel_rfl) (.nilS [138, 3, 1] rfl rfl (.condP rfl hd (fun hb1074 hd => ?_) fun hb1074 hd => ?_)))))))))
   · exact .seq (.region (.skips 1 rfl (.nilS [2] rfl rfl (.drop .z (.ret (pret results13 (.t rfl .n) le995 ⟨false, rfl, hd⟩))))))
   refine .skipS [3, 1] rfl rfl (.seq (.region (.fieldAddr underlying27 rfl sizeOf22 rfl (o := 3) rfl rfl rfl (.load1 isAgg22 rfl .z rfl rfl rfl (.skips 1 rfl ?_)))))
   obtain ⟨h1084, x1085, hx1086, hd⟩ := hd
   obtain ⟨b1087, o1088, cs1089, e1090, hC1091, hr1092⟩ := R6.2 _ _ hx1086
   cases hr1092
   refine .ixa underlying22 sizeOf3 rfl e1090 rfl h1084 (idx_lt hx1086 h1084) rfl rfl (.ld1 (j := 0) isAgg3 hC1091 rfl rfl rfl rfl rfl (.skips 1 rfl (.nilS [4, 3, 1] rfl rfl (.block (.loop hd (fun (s1234 : Int) c w => ∃ I_, IH.le I993 I_ ∧ Ok ⟨193, [], none⟩ [(1, .pointer (some ⟨b15, 0, none⟩)), (3, .int .i64 s865), (4, .int .i64 s1234)] c ∧ Sym w0 M I I_ [pto b15 (.cells #[.int .i64 a0.Rows, .int .i64 a0.Cols, .slice p1 a0.At.length c2, .slice p4 a0.Start.length c5, .slice p7 a0.Row.length c8, .slice p10 a0.Val.length c11] 27 (0, 0))] w) (fun c w ho hs => ⟨I993, (.refl _), ho.sub ⟨rfl, rfl, rfl, trivial⟩, hs.pick (.c .z .n)⟩) ?_)))))
   rintro s1234 next1235 hd c w hst
   obtain ⟨I1236, hl1237, hok, hsym⟩ := hst
   have le1238 := IH.le.trans le995 hl1237
   have le1239 := IH.le.trans le996 hl1237
   have le1240 := IH.le.trans (.refl _) hl1237
   replace R3 := R3.mono hl1237
   replace R6 := R6.mono hl1237
   replace R9 := R9.mono hl1237
   replace R12 := R12.mono hl1237
   refine Cod.at hok hsym (.seq (.seq (.region (.skips 1 rfl (.fieldAddr underlying27 rfl sizeOf22 rfl (o := 3) rfl rfl rfl (.load1 isAgg22 rfl .z rfl rfl rfl (.skips 1 rfl (.add rfl rfl rfl rfl ?_))))))))
   obtain ⟨h1251, x1252, hx1253, hd⟩ := hd
   obtain ⟨b1254, o1255, cs1256, e1257, hC1258, hr1259⟩ := R6.2 _ _ hx1253
   cases hr1259
   refine .ixa underlying22 sizeOf3 rfl e1257 rfl h1251 (idx_lt hx1253 h1251) rfl rfl (.ld1 (j := 0) isAgg3 hC1258 rfl rfl rfl rfl rfl (.lt rfl rfl rfl rfl (.nilS [151, 4, 3, 1] rfl rfl (.condP rfl hd (fun hb1260 hd => ?_) fun hb1260 hd => ?_))))
   · refine .skipS [4, 3, 1] rfl rfl (.seq (.block (.seq (.draw [some 0, some 1, some 2, some 3, some 4, some 5, some 6, some 7, some 8, some 9, some 10, some 11, some 12, some 13, some 14, some 15, some 16, some 17, some 18, some 19, some 20, some 21, some 22, some 23, some 24, some 25, some 26, some 27, some 28, some 29, some 30, some 31, some 32, some 33, some 34, some 35, some 36, some 37, some 38] 39 MX (by kernel_rfl) (by kernel_rfl) (by kernel_rfl) (by kernel_rfl) (by kernel_rfl) (by kernel_rfl) (by kernel_rfl) (fun ex => (pto b15 (.cells #[.int .i64 a0.Rows, .int .i64 a0.Cols, .slice p1 a0.At.length c2, .slice p4 a0.Start.length c5, .slice p7 a0.Row.length c8, .slice p10 a0.Val.length c11] 27 (0, 0))) :: ex) (fun _ _ => (.s .z)) rfl (.f [] rfl (by kernel_rfl) rfl rfl (fun ex => .fieldAddr underlying27 rfl sizeOf22 rfl (o := 4) rfl rfl rfl .mk) (.f [0] rfl (by kernel_rfl) rfl rfl (fun ex => .load1 isAgg22 rfl .z rfl rfl rfl .mk) (.fs [[]] rfl (by kernel_rfl) ?_)))))))
     obtain ⟨h1261, x1262, hx1263, hd⟩ := hd
     obtain ⟨b1264, o1265, cs1266, e1267, hC1268, hr1269⟩ := R9.2 _ _ hx1263
     cases hr1269
     refine .f [1, 2] rfl (by kernel_rfl) rfl rfl (fun ex => .ixa underlying22 sizeOf3 rfl e1267 rfl h1261 (idx_lt hx1263 h1261) rfl rfl .mk) (.f [3] rfl (by kernel_rfl) rfl rfl (fun ex => .ld1 (j := 0) isAgg3 hC1268 rfl rfl rfl rfl rfl .mk) (.f [4] rfl (by kernel_rfl) rfl rfl (fun ex => .lt rfl rfl rfl rfl .mk) (.fs [[5]] rfl (by kernel_rfl) ?_)))
     refine splitP hd (fun hb1270 hd => ?_) fun hb1270 hd => ?_
     · refine .f [6] rfl (by kernel_rfl) rfl rfl (fun ex => .gno rfl rfl hb1270 rfl rfl .mk) (.f [7, 6] rfl (by kernel_rfl) rfl rfl (fun ex => .gno rfl rfl hb1270 rfl rfl .mk) (.f [6] rfl (by kernel_rfl) rfl rfl (fun ex => .gno rfl rfl hb1270 rfl rfl .mk) (.f [8, 9, 6] rfl (by kernel_rfl) rfl rfl (fun ex => .gno rfl rfl hb1270 rfl rfl .mk) (.f [10, 6] rfl (by kernel_rfl) rfl rfl (fun ex => .gno rfl rfl hb1270 rfl rfl .mk) (.f [6] rfl (by kernel_rfl) rfl rfl (fun ex => .gno rfl rfl hb1270 rfl rfl .mk) (.f [12, 6] rfl (by kernel_rfl) rfl rfl (fun ex => .gno rfl rfl hb1270 rfl rfl .mk) (.f [11, 13, 6] rfl (by kernel_rfl) rfl rfl (fun ex => .gno rfl rfl hb1270 rfl rfl .mk) (.f [6, 14] rfl (by kernel_rfl) rfl rfl (fun ex => .pickT rfl hb1270 rfl rfl rfl .mk) (.fs [[15, 6], [16], [16], [18, 16], [16], [19, 20, 16], [21, 16], [17, 22, 16], [23, 16, 16], [24], [25, 24], [24], [26, 27, 24], [28, 24], [24], [30, 24], [24], [32, 24], [31, 33, 24], [34, 24], [29, 35, 24], [24, 36, 16], [16, 37]] rfl (by kernel_rfl) ?_)))))))))
       exact .e 39 (by kernel_rfl) (by kernel_rfl) (by kernel_rfl) (.nilS [192, 4, 3, 1] rfl rfl (.condKT rfl rfl (.seq (.region (.skips 1 rfl (.nilS [2] rfl rfl (.drop .z (.ret (pret results13 (.t rfl .n) le1238 ⟨false, rfl, hd⟩)))))))))
     refine .f [6] rfl (by kernel_rfl) rfl rfl (fun ex => .gyes rfl rfl hb1270 (.fieldAddr underlying27 rfl sizeOf22 rfl (o := 4) rfl rfl rfl .mk)) (.f [7, 6] rfl (by kernel_rfl) rfl rfl (fun ex => .gyes rfl rfl hb1270 (.load1 isAgg22 rfl .z rfl rfl rfl .mk)) (.f [6] rfl (by kernel_rfl) rfl rfl (fun ex => .gyes rfl rfl hb1270 (.move rfl rfl rfl .mk)) ?_))
     obtain ⟨h1271, x1272, hx1273, hd⟩ := hd
     obtain ⟨b1274, o1275, cs1276, e1277, hC1278, hr1279⟩ := R9.2 _ _ hx1273
     cases hr1279
     refine .f [8, 9, 6] rfl (by kernel_rfl) rfl rfl (fun ex => .gyes rfl rfl hb1270 (.ixa underlying22 sizeOf3 rfl e1277 rfl h1271 (idx_lt hx1273 h1271) rfl rfl .mk)) (.f [10, 6] rfl (by kernel_rfl) rfl rfl (fun ex => .gyes rfl rfl hb1270 (.ld1 (j := 0) isAgg3 hC1278 rfl rfl rfl rfl rfl .mk)) (.f [6] rfl (by kernel_rfl) rfl rfl (fun ex => .gyes rfl rfl hb1270 (.fieldAddr underlying27 rfl sizeOf3 rfl (o := 0) rfl rfl rfl .mk)) (.f [12, 6] rfl (by kernel_rfl) rfl rfl (fun ex => .gyes rfl rfl hb1270 (.load1 isAgg3 rfl .z rfl rfl rfl .mk)) (.f [11, 13, 6] rfl (by kernel_rfl) rfl rfl (fun ex => .gyes rfl rfl hb1270 (.ge rfl rfl rfl rfl .mk)) (.f [6, 14] rfl (by kernel_rfl) rfl rfl (fun ex => .pickF rfl hb1270 rfl rfl rfl .mk) (.fs [[15, 6]] rfl (by kernel_rfl) ?_))))))
     refine splitP hd (fun hb1280 hd => ?_) fun hb1280 hd => ?_
     · refine .f [16] rfl (by kernel_rfl) rfl rfl (fun ex => .gno rfl rfl hb1280 rfl rfl .mk) (.f [16] rfl (by kernel_rfl) rfl rfl (fun ex => .gno rfl rfl hb1280 rfl rfl .mk) (.f [18, 16] rfl (by kernel_rfl) rfl rfl (fun ex => .gno rfl rfl hb1280 rfl rfl .mk) (.f [16] rfl (by kernel_rfl) rfl rfl (fun ex => .gno rfl rfl hb1280 rfl rfl .mk) (.f [19, 20, 16] rfl (by kernel_rfl) rfl rfl (fun ex => .gno rfl rfl hb1280 rfl rfl .mk) (.f [21, 16] rfl (by kernel_rfl) rfl rfl (fun ex => .gno rfl rfl hb1280 rfl rfl .mk) (.f [17, 22, 16] rfl (by kernel_rfl) rfl rfl (fun ex => .gno rfl rfl hb1280 rfl rfl .mk) (.f [23, 16, 16] rfl (by kernel_rfl) rfl rfl (fun ex => .gno rfl rfl hb1280 rfl rfl .mk) (.fs [[24], [25, 24], [24], [26, 27, 24], [28, 24], [24], [30, 24], [24], [32, 24], [31, 33, 24], [34, 24], [29, 35, 24]] rfl (by kernel_rfl) (.f [24, 36, 16] rfl (by kernel_rfl) rfl rfl (fun ex => .gno rfl rfl hb1280 rfl rfl .mk) ?_)))))))))
       exact .f [16, 37] rfl (by kernel_rfl) rfl rfl (fun ex => .pickT rfl hb1280 rfl rfl rfl .mk) (.e 39 (by kernel_rfl) (by kernel_rfl) (by kernel_rfl) (.nilS [192, 4, 3, 1] rfl rfl (.condKT rfl rfl (.seq (.region (.skips 1 rfl (.nilS [2] rfl rfl (.drop .z (.ret (pret results13 (.t rfl .n) le1238 ⟨false, rfl, hd⟩))))))))))
     refine .f [16] rfl (by kernel_rfl) rfl rfl (fun ex => .gyes rfl rfl hb1280 (.move rfl rfl rfl .mk)) (.f [16] rfl (by kernel_rfl) rfl rfl (fun ex => .gyes rfl rfl hb1280 (.fieldAddr underlying27 rfl sizeOf22 rfl (o := 3) rfl rfl rfl .mk)) (.f [18, 16] rfl (by kernel_rfl) rfl rfl (fun ex => .gyes rfl rfl hb1280 (.load1 isAgg22 rfl .z rfl rfl rfl .mk)) (.f [16] rfl (by kernel_rfl) rfl rfl (fun ex => .gyes rfl rfl hb1280 (.move rfl rfl rfl .mk)) ?_)))
     obtain ⟨h1281, x1282, hx1283, hd⟩ := hd
     obtain ⟨b1284, o1285, cs1286, e1287, hC1288, hr1289⟩ := R6.2 _ _ hx1283
     cases hr1289
     refine .f [19, 20, 16] rfl (by kernel_rfl) rfl rfl (fun ex => .gyes rfl rfl hb1280 (.ixa underlying22 sizeOf3 rfl e1287 rfl h1281 (idx_lt hx1283 h1281) rfl rfl .mk)) (.f [21, 16] rfl (by kernel_rfl) rfl rfl (fun ex => .gyes rfl rfl hb1280 (.ld1 (j := 0) isAgg3 hC1288 rfl rfl rfl rfl rfl .mk)) (.f [17, 22, 16] rfl (by kernel_rfl) rfl rfl (fun ex => .gyes rfl rfl hb1280 (.gt rfl rfl rfl rfl .mk)) (.f [23, 16, 16] rfl (by kernel_rfl) rfl rfl (fun ex => .gyes rfl rfl hb1280 (.move rfl rfl rfl .mk)) ?_)))
     refine splitP hd (fun hb1290 hd => ?_) fun hb1290 hd => ?_
     · refine .f [24] rfl (by kernel_rfl) rfl rfl (fun ex => .gyes rfl rfl hb1290 (.fieldAddr underlying27 rfl sizeOf22 rfl (o := 4) rfl rfl rfl .mk)) (.f [25, 24] rfl (by kernel_rfl) rfl rfl (fun ex => .gyes rfl rfl hb1290 (.load1 isAgg22 rfl .z rfl rfl rfl .mk)) (.f [24] rfl (by kernel_rfl) rfl rfl (fun ex => .gyes rfl rfl hb1290 (.move rfl rfl rfl .mk)) ?_))
       obtain ⟨h1291, x1292, hx1293, hd⟩ := hd
       obtain ⟨b1294, o1295, cs1296, e1297, hC1298, hr1299⟩ := R9.2 _ _ hx1293
       cases hr1299
       refine .f [26, 27, 24] rfl (by kernel_rfl) rfl rfl (fun ex => .gyes rfl rfl hb1290 (.ixa underlying22 sizeOf3 rfl e1297 rfl h1291 (idx_lt hx1293 h1291) rfl rfl .mk)) (.f [28, 24] rfl (by kernel_rfl) rfl rfl (fun ex => .gyes rfl rfl hb1290 (.ld1 (j := 0) isAgg3 hC1298 rfl rfl rfl rfl rfl .mk)) (.f [24] rfl (by kernel_rfl) rfl rfl (fun ex => .gyes rfl rfl hb1290 (.fieldAddr underlying27 rfl sizeOf22 rfl (o := 4) rfl rfl rfl .mk)) (.f [30, 24] rfl (by kernel_rfl) rfl rfl (fun ex => .gyes rfl rfl hb1290 (.load1 isAgg22 rfl .z rfl rfl rfl .mk)) (.f [24] rfl (by kernel_rfl) rfl rfl (fun ex => .gyes rfl rfl hb1290 (.move rfl rfl rfl .mk)) (.f [32, 24] rfl (by kernel_rfl) rfl rfl (fun ex => .gyes rfl rfl hb1290 (.sub' rfl rfl rfl rfl .mk)) ?_)))))
       obtain ⟨h1300, x1301, hx1302, hd⟩ := hd
       obtain ⟨b1303, o1304, cs1305, e1306, hC1307, hr1308⟩ := R9.2 _ _ hx1302
       cases hr1308
       refine .f [31, 33, 24] rfl (by kernel_rfl) rfl rfl (fun ex => .gyes rfl rfl hb1290 (.ixa underlying22 sizeOf3 rfl e1306 rfl h1300 (idx_lt hx1302 h1300) rfl rfl .mk)) (.f [34, 24] rfl (by kernel_rfl) rfl rfl (fun ex => .gyes rfl rfl hb1290 (.ld1 (j := 0) isAgg3 hC1307 rfl rfl rfl rfl rfl .mk)) (.f [29, 35, 24] rfl (by kernel_rfl) rfl rfl (fun ex => .gyes rfl rfl hb1290 (.le' rfl rfl rfl rfl .mk)) (.f [24, 36, 16] rfl (by kernel_rfl) rfl rfl (fun ex => .gyes rfl rfl hb1280 (.pickT rfl hb1290 rfl rfl rfl .mk)) (.f [16, 37] rfl (by kernel_rfl) rfl rfl (fun ex => .pickF rfl hb1280 rfl rfl rfl .mk) (.e 39 (by kernel_rfl) (by kernel_rfl) (by kernel_rfl) (.nilS [192, 4, 3, 1] rfl rfl (.condP rfl hd (fun hb1309 hd => ?_) fun hb1309 hd => ?_)))))))
       · exact .seq (.region (.skips 1 rfl (.nilS [2] rfl rfl (.drop .z (.ret (pret results13 (.t rfl .n) le1238 ⟨false, rfl, hd⟩))))))
       exact .skipS [4, 3, 1] rfl rfl (.region (.skips 1 rfl (.add rfl rfl rfl rfl (.sub (E' := [(1, _), (3, _), (152, _), (153, _)]) ⟨rfl, rfl, rfl, rfl, trivial⟩ (.skips 1 rfl (.nil' fun c w ho hs => ⟨(w64 (s1234 + 1)), hd, I1236, le1240, ho.sub ⟨rfl, rfl, rfl, trivial⟩, hs.pick (.c .z .n)⟩))))))
     refine .f [24] rfl (by kernel_rfl) rfl rfl (fun ex => .gno rfl rfl hb1290 rfl rfl .mk) (.f [25, 24] rfl (by kernel_rfl) rfl rfl (fun ex => .gno rfl rfl hb1290 rfl rfl .mk) (.f [24] rfl (by kernel_rfl) rfl rfl (fun ex => .gno rfl rfl hb1290 rfl rfl .mk) (.f [26, 27, 24] rfl (by kernel_rfl) rfl rfl (fun ex => .gno rfl rfl hb1290 rfl rfl .mk) (.f [28, 24] rfl (by kernel_rfl) rfl rfl (fun ex => .gno rfl rfl hb1290 rfl rfl .mk) (.f [24] rfl (by kernel_rfl) rfl rfl (fun ex => .gno rfl rfl hb1290 rfl rfl .mk) (.f [30, 24] rfl (by kernel_rfl) rfl rfl (fun ex => .gno rfl rfl hb1290 rfl rfl .mk) (.f [24] rfl (by kernel_rfl) rfl rfl (fun ex => .gno rfl rfl hb1290 rfl rfl .mk) (.f [32, 24] rfl (by kernel_rfl) rfl rfl (fun ex => .gno rfl rfl hb1290 rfl rfl .mk) (.f [31, 33, 24] rfl (by kernel_rfl) rfl rfl (fun ex => .gno rfl rfl hb1290 rfl rfl .mk) ?_)))))))))
     refine .f [34, 24] rfl (by kernel_rfl) rfl rfl (fun ex => .gno rfl rfl hb1290 rfl rfl .mk) (.f [29, 35, 24] rfl (by kernel_rfl) rfl rfl (fun ex => .gno rfl rfl hb1290 rfl rfl .mk) (.f [24, 36, 16] rfl (by kernel_rfl) rfl rfl (fun ex => .gyes rfl rfl hb1280 (.pickF rfl hb1290 rfl rfl rfl .mk)) (.f [16, 37] rfl (by kernel_rfl) rfl rfl (fun ex => .pickF rfl hb1280 rfl rfl rfl .mk) (.e 39 (by kernel_rfl) (by kernel_rfl) (by kernel_rfl) (.nilS [192, 4, 3, 1] rfl rfl (.condKF rfl rfl (.skipS [4, 3, 1] rfl rfl (.region (.skips 1 rfl ?_)))))))))
     exact .add rfl rfl rfl rfl (.sub (E' := [(1, _), (3, _), (152, _), (153, _)]) ⟨rfl, rfl, rfl, rfl, trivial⟩ (.skips 1 rfl (.nil' fun c w ho hs => ⟨(w64 (s1234 + 1)), hd, I1236, le1240, ho.sub ⟨rfl, rfl, rfl, trivial⟩, hs.pick (.c .z .n)⟩)))
   exact .exitS [3, 1] rfl rfl (.region (.skips 1 rfl (.add rfl rfl rfl rfl (.sub (E' := [(1, _), (71, _), (72, _)]) ⟨rfl, rfl, rfl, trivial⟩ (.skips 1 rfl (.nil' fun c w ho hs => ⟨(w64 (s865 + 1)), hd, I1236, le1238, ho.sub ⟨rfl, rfl, trivial⟩, hs.pick (.c .z .n)⟩))))))
 exact .exitS [] rfl rfl (.drop .z (.seq (.region (.skips 1 rfl (.nilS [2] rfl rfl (.ret (pret results13 (.t rfl .n) le869 ⟨true, rfl, hd⟩)))))))

theorem W_ref08_Sure {I : IH} {a0 : Columns} {p1 : Option Addr} {c2 : Nat} {p4 : Option Addr} {c5 : Nat} {p7 : Option Addr} {c8 : Nat} {p10 : Option Addr} {c11 : Nat} {Q : Columns → Prop} (R3 : RepSl eI64 I p1 c2 a0.At) (R6 : RepSl eI64 I p4 c5 a0.Start) (R9 : RepSl eI64 I p7 c8 a0.Row) (R12 : RepSl eI64 I p10 c11 a0.Val) (hd : ref08_Sure a0 Q) :
    PFun Tryz.prog 18 [.agg #[.int .i64 a0.Rows, .int .i64 a0.Cols, .slice p1 a0.At.length c2, .slice p4 a0.Start.length c5, .slice p7 a0.Row.length c8, .slice p10 a0.Val.length c11]] I (fun I_ v => ∃ r p13 c14 p16 c17 p19 c20 p22 c23, v = .agg #[.int .i64 r.Rows, .int .i64 r.Cols, .slice p13 r.At.length c14, .slice p16 r.Start.length c17, .slice p19 r.Row.length c20, .slice p22 r.Val.length c23] ∧ RepSl eI64 I_ p13 c14 r.At ∧ RepSl eI64 I_ p16 c17 r.Start ∧ RepSl eI64 I_ p19 c20 r.Row ∧ RepSl eI64 I_ p22 c23 r.Val ∧ Q r) := by
 refine Fun.enter func18 rfl ntmps18 rfl (.c .n) fun w0 M => ?_
 refine .seq (.region (.boxA rfl rfl rfl fun b29 => ?_))
 refine .allocA zeroValue27 rfl rfl fun b31 => ?_
 refine .nilS [2, 1] rfl rfl (.seq (.seq (.region (.loadW isAgg27 sizeOf27 rfl (.s .z) rfl rfl rfl ?_))))
 have hw34 := W_ref08_Right (I := I) R3 R6 R9 R12 hd
 refine .callP call13 rfl hw34 rfl rfl fun v35 hv36 => ?_
 obtain ⟨r33, rfl, hd⟩ := hv36
 refine .nilS [4, 2, 1] rfl rfl (.condP rfl hd (fun hb37 hd => ?_) fun hb37 hd => ?_)
 · exact .seq (.region (.loadW isAgg27 sizeOf27 rfl (.s .z) rfl rfl rfl (.storeA sizeOf27 rfl rfl .z (.t (.t (.t (.t (.t (.t .nil)))))) rfl rfl (.nilS [2] rfl rfl (.drop (.s .z) (.ret (pret results18 (.w isAgg27 sizeOf27 rfl .z rfl .n) (.refl _) ⟨a0, _, _, _, _, _, _, _, _, rfl, R3, R6, R9, R12, hd⟩)))))))
 refine .skipS [2] rfl rfl (.drop (.s .z) (.seq (.region (.buildSlice 1 underlying22 sizeOf3 zeroValue3 rfl rfl (.c rfl rfl rfl .n) rfl rfl fun b38 => ?_))))
 refine .ownB (El := eI64) (ys := ([0] : List Int)) .z (.one rfl) rfl (.build zeroValue27 underlying27 BI27 (.c rfl rfl rfl (.s (.s (.s (.t .nil)))) .n) (by exact ⟨⟨_, _, rfl, rfl, rfl⟩, trivial⟩) rfl rfl (.storeA sizeOf27 rfl rfl (.s .z) (.t (.t (.t (.t (.t (.t .nil)))))) rfl rfl (.nilS [2] rfl rfl (.pub .z fun I41 hl42 R43 => ?_))))
 have le44 := IH.le.trans (.refl _) hl42
 exact .ret (pret results18 (.w isAgg27 sizeOf27 rfl .z rfl .n) le44 ⟨({ Rows := 0, Cols := 0, At := ([] : List Int), Start := ([0] : List Int), Row := ([] : List Int), Val := ([] : List Int) } : Columns), _, _, _, _, _, _, _, _, rfl, (.nil _ _ _), R43, (.nil _ _ _), (.nil _ _ _), hd⟩)

theorem W_ref08_Column {I : IH} {a0 : Columns} {a1 : Int} {p1 : Option Addr} {c2 : Nat} {p4 : Option Addr} {c5 : Nat} {p7 : Option Addr} {c8 : Nat} {p10 : Option Addr} {c11 : Nat} {Q : (List Item) → Prop} (R3 : RepSl eI64 I p1 c2 a0.At) (R6 : RepSl eI64 I p4 c5 a0.Start) (R9 : RepSl eI64 I p7 c8 a0.Row) (R12 : RepSl eI64 I p10 c11 a0.Val) (hd : ref08_Column a0 a1 Q) :
    PFun Tryz.prog 8 [.agg #[.int .i64 a0.Rows, .int .i64 a0.Cols, .slice p1 a0.At.length c2, .slice p4 a0.Start.length c5, .slice p7 a0.Row.length c8, .slice p10 a0.Val.length c11], .int .i64 a1] I (fun I_ v => ∃ r p13 c14, v = .slice p13 r.length c14 ∧ RepSl eItem I_ p13 c14 r ∧ Q r) := by
 refine Fun.enter func8 rfl ntmps8 rfl (.c (.c .n)) fun w0 M => ?_
 refine .seq (.region (.boxA rfl rfl rfl fun b18 => ?_))
 refine .skips 1 rfl (.nilS [2, 1] rfl rfl (.seq (.region (.loadW isAgg27 sizeOf27 rfl .z rfl rfl rfl ?_))))
 have hw58 := W_ref08_Sure (I := I) R3 R6 R9 R12 hd
 refine .call call18 rfl hw58 rfl rfl fun v44 I41 hl42 hv43 => ?_
 obtain ⟨r40, p46, c47, p49, c50, p52, c53, p55, c56, rfl, R48, R51, R54, R57, hd⟩ := hv43
 have le59 := IH.le.trans (.refl _) hl42
 replace R3 := R3.mono hl42
 replace R6 := R6.mono hl42
 replace R9 := R9.mono hl42
 replace R12 := R12.mono hl42
 refine .storeA sizeOf27 rfl rfl .z (.t (.t (.t (.t (.t (.t .nil)))))) rfl rfl (.nilS [2, 1] rfl rfl (.seq (.region (.skips 1 rfl (.nilS [5, 2, 1] rfl rfl (.seq (.seq (.region (.skips 1 rfl ?_)))))))))
 refine .nilS [6, 5, 2, 1] rfl rfl (.block (.own0 eItem 50 (.loop hd (fun (s : (List Item) × Int) c w => match s with | (s560, s564) => ∃ I_ p561 c562, IH.le I41 I_ ∧ Ok ⟨64, [], none⟩ [(1, .int .i64 a1), (2, .pointer (some ⟨b18, 0, none⟩)), (5, .slice p561 s560.length c562), (6, .int .i64 s564)] c ∧ Sym w0 M I I_ [pto b18 (.cells #[.int .i64 r40.Rows, .int .i64 r40.Cols, .slice p46 r40.At.length c47, .slice p49 r40.Start.length c50, .slice p52 r40.Row.length c53, .slice p55 r40.Val.length c56] 27 (0, 0)), OwnSl eItem 50 p561 c562 s560] w) (fun c w ho hs => ⟨I41, _, _, (.refl _), ho.sub ⟨rfl, rfl, rfl, rfl, trivial⟩, hs.pick (.c (.s .z) (.c .z .n))⟩) ?_)))
 rintro ⟨s560, s564⟩ next566 hd c w hst
 obtain ⟨I567, p561, c562, hl568, hok, hsym⟩ := hst
 have le569 := IH.le.trans le59 hl568
 have le570 := IH.le.trans (.refl _) hl568
 replace R48 := R48.mono hl568
 replace R51 := R51.mono hl568
 replace R54 := R54.mono hl568
 replace R57 := R57.mono hl568
 refine Cod.at hok hsym (.seq (.seq (.region (.skips 1 rfl (.fieldAddr underlying27 rfl sizeOf22 rfl (o := 2) rfl rfl rfl (.load1 isAgg22 rfl .z rfl rfl rfl (.len underlying22 rfl rfl rfl rfl (.lt rfl rfl rfl rfl (.skips 1 rfl ?_)))))))))
 refine splitP hd (fun hb573 hd => ?_) fun hb573 hd => ?_
 · rw [hb573]
   refine .gyes rfl rfl rfl (.move rfl rfl rfl (.gyes rfl rfl rfl (.add rfl rfl rfl rfl (.gyes rfl rfl rfl (.fieldAddr underlying27 rfl sizeOf22 rfl (o := 3) rfl rfl rfl (.gyes rfl rfl rfl (.load1 isAgg22 rfl .z rfl rfl rfl (.gyes rfl rfl rfl (.len underlying22 rfl rfl rfl rfl (.gyes rfl rfl rfl (.lt rfl rfl rfl rfl (.skips 1 rfl (.nilS [22, 6, 5, 2, 1] rfl rfl (.condP rfl hd (fun hb574 hd => ?_) fun hb574 hd => ?_))))))))))))))
   · refine .skipS [6, 5, 2, 1] rfl rfl (.seq (.block (.seq (.region (.fieldAddr underlying27 rfl sizeOf22 rfl (o := 3) rfl rfl rfl (.load1 isAgg22 rfl .z rfl rfl rfl (.skips 1 rfl ?_)))))))
     obtain ⟨h584, x585, hx586, hd⟩ := hd
     obtain ⟨b587, o588, cs589, e590, hC591, hr592⟩ := R51.2 _ _ hx586
     cases hr592
     refine .ixa underlying22 sizeOf3 rfl e590 rfl h584 (idx_lt hx586 h584) rfl rfl (.ld1 (j := 0) isAgg3 hC591 rfl rfl rfl rfl rfl (.skips 1 rfl (.nilS [7, 6, 5, 2, 1] rfl rfl (.block (.loop hd (fun (s : (List Item) × Int) c w => match s with | (s738, s742) => ∃ I_ p739 c740, IH.le I567 I_ ∧ Ok ⟨64, [], none⟩ [(1, .int .i64 a1), (2, .pointer (some ⟨b18, 0, none⟩)), (5, .slice p739 s738.length c740), (6, .int .i64 s564), (7, .int .i64 s742)] c ∧ Sym w0 M I I_ [pto b18 (.cells #[.int .i64 r40.Rows, .int .i64 r40.Cols, .slice p46 r40.At.length c47, .slice p49 r40.Start.length c50, .slice p52 r40.Row.length c53, .slice p55 r40.Val.length c56] 27 (0, 0)), OwnSl eItem 50 p739 c740 s738] w) (fun c w ho hs => ⟨I567, _, _, (.refl _), ho.sub ⟨rfl, rfl, rfl, rfl, rfl, trivial⟩, hs.pick (.c .z (.c .z .n))⟩) ?_)))))
     rintro ⟨s738, s742⟩ next743 hd c w hst
     obtain ⟨I744, p739, c740, hl745, hok, hsym⟩ := hst
     have le746 := IH.le.trans le569 hl745
     have le747 := IH.le.trans le570 hl745
     have le748 := IH.le.trans (.refl _) hl745
     replace R48 := R48.mono hl745
     replace R51 := R51.mono hl745
     replace R54 := R54.mono hl745
     replace R57 := R57.mono hl745
     refine Cod.at hok hsym (.seq (.seq (.region (.skips 1 rfl (.fieldAddr underlying27 rfl sizeOf22 rfl (o := 3) rfl rfl rfl (.load1 isAgg22 rfl .z rfl rfl rfl (.skips 1 rfl (.add rfl rfl rfl rfl ?_))))))))
     obtain ⟨h769, x770, hx771, hd⟩ := hd
     obtain ⟨b772, o773, cs774, e775, hC776, hr777⟩ := R51.2 _ _ hx771
     cases hr777
     refine .ixa underlying22 sizeOf3 rfl e775 rfl h769 (idx_lt hx771 h769) rfl rfl (.ld1 (j := 0) isAgg3 hC776 rfl rfl rfl rfl rfl (.lt rfl rfl rfl rfl (.skips 1 rfl ?_)))
     refine splitP hd (fun hb778 hd => ?_) fun hb778 hd => ?_
     · rw [hb778]
       refine .gyes rfl rfl rfl (.fieldAddr underlying27 rfl sizeOf22 rfl (o := 2) rfl rfl rfl (.gyes rfl rfl rfl (.load1 isAgg22 rfl .z rfl rfl rfl (.gyes rfl rfl rfl (.move rfl rfl rfl ?_)))))
       obtain ⟨h779, x780, hx781, hd⟩ := hd
       obtain ⟨b782, o783, cs784, e785, hC786, hr787⟩ := R48.2 _ _ hx781
       cases hr787
       refine .gyes rfl rfl rfl (.ixa underlying22 sizeOf3 rfl e785 rfl h779 (idx_lt hx781 h779) rfl rfl (.gyes rfl rfl rfl (.ld1 (j := 0) isAgg3 hC786 rfl rfl rfl rfl rfl (.gyes rfl rfl rfl (.move rfl rfl rfl (.gyes rfl rfl rfl (.eq rfl rfl rfl rfl (.skips 1 rfl (.nilS [46, 7, 6, 5, 2, 1] rfl rfl (.condP rfl hd (fun hb788 hd => ?_) fun hb788 hd => ?_))))))))))
       · refine .skipS [7, 6, 5, 2, 1] rfl rfl (.seq (.block (.ownF (.s .z) fun hne789 => ?_)))
         refine .draw [some 0, some 1, some 2, some 3, some 4, some 5, some 6, some 7, some 8, some 9, some 10, some 11, some 12, some 13] 14 MX (by kernel_rfl) (by kernel_rfl) (by kernel_rfl) (by kernel_rfl) (by kernel_rfl) (by kernel_rfl) (by kernel_rfl) (fun ex => (pto b18 (.cells #[.int .i64 r40.Rows, .int .i64 r40.Cols, .slice p46 r40.At.length c47, .slice p49 r40.Start.length c50, .slice p52 r40.Row.length c53, .slice p55 r40.Val.length c56] 27 (0, 0))) :: (OwnSl eItem 50 p739 c740 s738) :: ex) (fun _ _ => (.s (.s .z))) rfl (.fs [[]] rfl (by kernel_rfl) (.f [] rfl (by kernel_rfl) rfl rfl (fun ex => .fieldAddr underlying27 rfl sizeOf22 rfl (o := 4) rfl rfl rfl .mk) (.f [1] rfl (by kernel_rfl) rfl rfl (fun ex => .load1 isAgg22 rfl .z rfl rfl rfl .mk) (.fs [[]] rfl (by kernel_rfl) ?_))))
         obtain ⟨h790, x791, hx792, hd⟩ := hd
         obtain ⟨b793, o794, cs795, e796, hC797, hr798⟩ := R54.2 _ _ hx792
         cases hr798
         refine .f [2, 3] rfl (by kernel_rfl) rfl rfl (fun ex => .ixa underlying22 sizeOf3 rfl e796 rfl h790 (idx_lt hx792 h790) rfl rfl .mk) (.f [4] rfl (by kernel_rfl) rfl rfl (fun ex => .ld1 (j := 0) isAgg3 hC797 rfl rfl rfl rfl rfl .mk) (.f [] rfl (by kernel_rfl) rfl rfl (fun ex => .fieldAddr underlying27 rfl sizeOf23 rfl (o := 5) rfl rfl rfl .mk) (.f [6] rfl (by kernel_rfl) rfl rfl (fun ex => .load1 isAgg23 rfl .z rfl rfl rfl .mk) (.fs [[]] rfl (by kernel_rfl) ?_))))
         obtain ⟨h799, x800, hx801, hd⟩ := hd
         obtain ⟨b802, o803, cs804, e805, hC806, hr807⟩ := R57.2 _ _ hx801
         cases hr807
         refine .f [7, 8] rfl (by kernel_rfl) rfl rfl (fun ex => .ixa underlying23 sizeOf2 rfl e805 rfl h799 (idx_lt hx801 h799) rfl rfl .mk) (.f [9] rfl (by kernel_rfl) rfl rfl (fun ex => .ld1 (j := 0) isAgg2 hC806 rfl rfl rfl rfl rfl .mk) (.f [5, 10] rfl (by kernel_rfl) rfl rfl (fun ex => .build zeroValue50 underlying50 BI50 (.c rfl rfl rfl (.t .nil) (.c rfl rfl rfl (.s (.t .nil)) .n)) (by exact ⟨⟨_, _, rfl, rfl, rfl⟩, ⟨⟨_, _, rfl, rfl, rfl⟩, trivial⟩⟩) rfl rfl .mk) (.w [0] [[], [11], [10, 11], [9, 10, 11], [9, 10, 11], [7, 9, 10, 11], [11], [5, 11], [4, 5, 11], [4, 5, 11], [2, 4, 5, 11]] [11] rfl (by kernel_rfl) (by kernel_rfl) (by kernel_rfl) ((dropE_kept rfl rfl)) (.inr (dropE_kept rfl rfl)) fun ex => ?_)))
         refine .buildSlice 1 underlying31 sizeOf50 zeroValue50 rfl rfl (.c rfl rfl rfl .n) rfl rfl fun b808 => ?_
         refine .some (fun ex => (pto b808 (.cells #[.int .i64 x791, .int .i64 x800] 50 (0, 0))) :: (pto b18 (.cells #[.int .i64 r40.Rows, .int .i64 r40.Cols, .slice p46 r40.At.length c47, .slice p49 r40.Start.length c50, .slice p52 r40.Row.length c53, .slice p55 r40.Val.length c56] 27 (0, 0))) :: (OwnSl eItem 50 p739 c740 s738) :: ex) rfl (fun _ _ => (.s (.s (.s .z)))) rfl (.ccs [[]] rfl rfl (by kernel_rfl) trivial) (.w [] [[]] [0, 12] rfl (by kernel_rfl) (by kernel_rfl) (by kernel_rfl) ((dropE_kept rfl rfl)) (.inr (dropE_kept rfl rfl)) fun ex => ?_)
         obtain ⟨hl810, hd⟩ := hd
         refine .append (ys := [({ At := x791, Val := x800 } : Item)]) 16 (.s (.s .z)) underlying31 underlying31 IN50 rfl rfl rfl rfl rfl rfl rfl rfl rfl (.box .z (.one rfl) rfl) hl810 rfl rfl fun p811 c812 => ?_
         refine .some (fun ex => (OwnSl eItem 50 p811 c812 (s738 ++ ([({ At := x791, Val := x800 } : Item)]))) :: (pto b808 (.cells #[.int .i64 x791, .int .i64 x800] 50 (0, 0))) :: (pto b18 (.cells #[.int .i64 r40.Rows, .int .i64 r40.Cols, .slice p46 r40.At.length c47, .slice p49 r40.Start.length c50, .slice p52 r40.Row.length c53, .slice p55 r40.Val.length c56] 27 (0, 0))) :: ex) rfl (fun _ _ => (.s (.s (.s .z)))) rfl trivial (.e 14 (by kernel_rfl) (by kernel_rfl) (by kernel_rfl) (.sub (E' := [(1, _), (2, _), (6, _), (7, _), (49, _), (50, _), (51, _), (52, _), (53, _), (54, _), (55, _), (56, _), (57, _), (58, _), (59, _), (60, _), (61, _), (62, _)]) ⟨rfl, rfl, rfl, rfl, rfl, rfl, rfl, rfl, rfl, rfl, rfl, rfl, rfl, rfl, rfl, rfl, rfl, rfl, trivial⟩ (.skips 1 rfl (.nilS [5, 7, 6, 2, 1] rfl rfl (.drop (.s .z) (.region (.skips 1 rfl (.add rfl rfl rfl rfl (.sub (E' := [(1, _), (2, _), (6, _), (5, _), (47, _), (48, _)]) ⟨rfl, rfl, rfl, rfl, rfl, rfl, trivial⟩ ?_)))))))))
         exact .skips 1 rfl (.nil' fun c w ho hs => ⟨((s738 ++ ([({ At := x791, Val := x800 } : Item)])), w64 (s742 + 1)), hd, I744, _, _, le748, ho.sub ⟨rfl, rfl, rfl, rfl, rfl, trivial⟩, hs.pick (.c (.s .z) (.c .z .n))⟩)
       exact .exitS [6, 5, 2, 1] rfl rfl (.region (.skips 1 rfl (.add rfl rfl rfl rfl (.sub (E' := [(1, _), (2, _), (5, _), (23, _), (24, _)]) ⟨rfl, rfl, rfl, rfl, rfl, trivial⟩ (.skips 1 rfl (.nil' fun c w ho hs => ⟨(s738, w64 (s564 + 1)), hd, I744, _, _, le747, ho.sub ⟨rfl, rfl, rfl, rfl, trivial⟩, hs.pick (.c .z (.c .z .n))⟩))))))
     rw [hb778]
     exact .skips 8 rfl (.nilS [46, 7, 6, 5, 2, 1] rfl rfl (.condKF rfl rfl (.exitS [6, 5, 2, 1] rfl rfl (.region (.skips 1 rfl (.add rfl rfl rfl rfl (.sub (E' := [(1, _), (2, _), (5, _), (23, _), (24, _)]) ⟨rfl, rfl, rfl, rfl, rfl, trivial⟩ (.skips 1 rfl (.nil' fun c w ho hs => ⟨(s738, w64 (s564 + 1)), hd, I744, _, _, le747, ho.sub ⟨rfl, rfl, rfl, rfl, trivial⟩, hs.pick (.c .z (.c .z .n))⟩)))))))))
   refine .exitS [5] rfl rfl (.drop .z (.seq (.region (.skips 2 rfl (.nilS [4] rfl rfl (.pub .z fun I814 hl815 R816 => ?_))))))
   have le817 := IH.le.trans le569 hl815
   have le818 := IH.le.trans le570 hl815
   exact .ret (pret results8 (.t rfl .n) le817 ⟨s560, _, _, rfl, R816, hd⟩)
 rw [hb573]
 refine .skips 7 rfl (.nilS [22, 6, 5, 2, 1] rfl rfl (.condKF rfl rfl (.exitS [5] rfl rfl (.drop .z (.seq (.region (.skips 2 rfl (.nilS [4] rfl rfl (.pub .z fun I819 hl820 R821 => ?_)))))))))
 have le822 := IH.le.trans le569 hl820
 have le823 := IH.le.trans le570 hl820
 exact .ret (pret results8 (.t rfl .n) le822 ⟨s560, _, _, rfl, R821, hd⟩)

theorem W_ref08_Same {I : IH} {a0 : Columns} {a1 : Columns} {p1 : Option Addr} {c2 : Nat} {p4 : Option Addr} {c5 : Nat} {p7 : Option Addr} {c8 : Nat} {p10 : Option Addr} {c11 : Nat} {p13 : Option Addr} {c14 : Nat} {p16 : Option Addr} {c17 : Nat} {p19 : Option Addr} {c20 : Nat} {p22 : Option Addr} {c23 : Nat} {Q : Bool → Prop} (R3 : RepSl eI64 I p1 c2 a0.At) (R6 : RepSl eI64 I p4 c5 a0.Start) (R9 : RepSl eI64 I p7 c8 a0.Row) (R12 : RepSl eI64 I p10 c11 a0.Val) (R15 : RepSl eI64 I p13 c14 a1.At) (R18 : RepSl eI64 I p16 c17 a1.Start) (R21 : RepSl eI64 I p19 c20 a1.Row) (R24 : RepSl eI64 I p22 c23 a1.Val) (hd : ref08_Same a0 a1 Q) :
    PFun Tryz.prog 9 [.agg #[.int .i64 a0.Rows, .int .i64 a0.Cols, .slice p1 a0.At.length c2, .slice p4 a0.Start.length c5, .slice p7 a0.Row.length c8, .slice p10 a0.Val.length c11], .agg #[.int .i64 a1.Rows, .int .i64 a1.Cols, .slice p13 a1.At.length c14, .slice p16 a1.Start.length c17, .slice p19 a1.Row.length c20, .slice p22 a1.Val.length c23]] I (fun I_ v => ∃ r, v = .bool r ∧ Q r) := by
 refine Fun.enter func9 rfl ntmps9 rfl (.c (.c .n)) fun w0 M => ?_
 refine .seq (.region (.boxA rfl rfl rfl fun b29 => ?_))
 refine .boxA rfl rfl rfl fun b31 => ?_
 refine .skips 1 rfl (.nilS [3, 2] rfl rfl (.seq (.region (.fieldAddr underlying27 rfl sizeOf3 rfl (o := 0) rfl rfl rfl (.load1 isAgg3 rfl (.s .z) rfl rfl rfl (.fieldAddr underlying27 rfl sizeOf3 rfl (o := 0) rfl rfl rfl (.load1 isAgg3 rfl .z rfl rfl rfl (.eq rfl rfl rfl rfl (.skips 1 rfl ?_)))))))))
 refine splitP hd (fun hb33 hd => ?_) fun hb33 hd => ?_
 · rw [hb33]
   refine .gyes rfl rfl rfl (.fieldAddr underlying27 rfl sizeOf3 rfl (o := 1) rfl rfl rfl (.gyes rfl rfl rfl (.load1 isAgg3 rfl (.s .z) rfl rfl rfl (.gyes rfl rfl rfl (.fieldAddr underlying27 rfl sizeOf3 rfl (o := 1) rfl rfl rfl (.gyes rfl rfl rfl (.load1 isAgg3 rfl .z rfl rfl rfl (.gyes rfl rfl rfl (.eq rfl rfl rfl rfl (.skips 2 rfl ?_))))))))))
   refine splitP hd (fun hb34 hd => ?_) fun hb34 hd => ?_
   · rw [hb34]
     refine .gyes rfl rfl rfl (.fieldAddr underlying27 rfl sizeOf22 rfl (o := 2) rfl rfl rfl (.gyes rfl rfl rfl (.load1 isAgg22 rfl (.s .z) rfl rfl rfl (.gyes rfl rfl rfl (.fieldAddr underlying27 rfl sizeOf22 rfl (o := 2) rfl rfl rfl (.gyes rfl rfl rfl (.load1 isAgg22 rfl .z rfl rfl rfl ?_)))))))
     have hw36 := W_ref03_SameInts (I := I) R3 R15 hd
     refine .gyes rfl rfl rfl (.callP call28 rfl hw36 rfl rfl fun v37 hv38 => ?_)
     obtain ⟨r35, rfl, hd⟩ := hv38
     refine .skips 2 rfl ?_
     refine splitP hd (fun hb39 hd => ?_) fun hb39 hd => ?_
     · rw [hb39]
       refine .gyes rfl rfl rfl (.fieldAddr underlying27 rfl sizeOf22 rfl (o := 3) rfl rfl rfl (.gyes rfl rfl rfl (.load1 isAgg22 rfl (.s .z) rfl rfl rfl (.gyes rfl rfl rfl (.fieldAddr underlying27 rfl sizeOf22 rfl (o := 3) rfl rfl rfl (.gyes rfl rfl rfl (.load1 isAgg22 rfl .z rfl rfl rfl ?_)))))))
       have hw41 := W_ref03_SameInts (I := I) R6 R18 hd
       refine .gyes rfl rfl rfl (.callP call28 rfl hw41 rfl rfl fun v42 hv43 => ?_)
       obtain ⟨r40, rfl, hd⟩ := hv43
       refine .skips 2 rfl ?_
       refine splitP hd (fun hb44 hd => ?_) fun hb44 hd => ?_
       · rw [hb44]
         refine .gyes rfl rfl rfl (.fieldAddr underlying27 rfl sizeOf22 rfl (o := 4) rfl rfl rfl (.gyes rfl rfl rfl (.load1 isAgg22 rfl (.s .z) rfl rfl rfl (.gyes rfl rfl rfl (.fieldAddr underlying27 rfl sizeOf22 rfl (o := 4) rfl rfl rfl (.gyes rfl rfl rfl (.load1 isAgg22 rfl .z rfl rfl rfl ?_)))))))
         have hw46 := W_ref03_SameInts (I := I) R9 R21 hd
         refine .gyes rfl rfl rfl (.callP call28 rfl hw46 rfl rfl fun v47 hv48 => ?_)
         obtain ⟨r45, rfl, hd⟩ := hv48
         refine .skips 2 rfl ?_
         refine splitP hd (fun hb49 hd => ?_) fun hb49 hd => ?_
         · rw [hb49]
           refine .gyes rfl rfl rfl (.fieldAddr underlying27 rfl sizeOf23 rfl (o := 5) rfl rfl rfl (.gyes rfl rfl rfl (.load1 isAgg23 rfl (.s .z) rfl rfl rfl (.gyes rfl rfl rfl (.fieldAddr underlying27 rfl sizeOf23 rfl (o := 5) rfl rfl rfl (.gyes rfl rfl rfl (.load1 isAgg23 rfl .z rfl rfl rfl ?_)))))))
           have hw51 := W_ref07_SameVals (I := I) R12 R24 hd
           refine .gyes rfl rfl rfl (.callP call29 rfl hw51 rfl rfl fun v52 hv53 => ?_)
           obtain ⟨r50, rfl, hd⟩ := hv53
           exact .skips 2 rfl (.nilS [4] rfl rfl (.drop .z (.drop .z (.ret (pret results9 (.t rfl .n) (.refl _) ⟨r50, rfl, hd⟩)))))
         rw [hb49]
         exact .skips 7 rfl (.nilS [4] rfl rfl (.drop .z (.drop .z (.ret (pret results9 (.t rfl .n) (.refl _) ⟨false, rfl, hd⟩)))))
       rw [hb44]
       exact .skips 14 rfl (.nilS [4] rfl rfl (.drop .z (.drop .z (.ret (pret results9 (.t rfl .n) (.refl _) ⟨false, rfl, hd⟩)))))
     rw [hb39]
     exact .skips 21 rfl (.nilS [4] rfl rfl (.drop .z (.drop .z (.ret (pret results9 (.t rfl .n) (.refl _) ⟨false, rfl, hd⟩)))))
   rw [hb34]
   exact .skips 28 rfl (.nilS [4] rfl rfl (.drop .z (.drop .z (.ret (pret results9 (.t rfl .n) (.refl _) ⟨false, rfl, hd⟩)))))
 rw [hb33]
 exact .skips 35 rfl (.nilS [4] rfl rfl (.drop .z (.drop .z (.ret (pret results9 (.t rfl .n) (.refl _) ⟨false, rfl, hd⟩)))))

theorem W_ref07_Sure {I : IH} {a0 : Rows} {p1 : Option Addr} {c2 : Nat} {p4 : Option Addr} {c5 : Nat} {p7 : Option Addr} {c8 : Nat} {Q : Rows → Prop} (R3 : RepSl eI64 I p1 c2 a0.Start) (R6 : RepSl eI64 I p4 c5 a0.Col) (R9 : RepSl eI64 I p7 c8 a0.Val) (hd : ref07_Sure a0 Q) :
    PFun Tryz.prog 54 [.agg #[.int .i64 a0.Rows, .int .i64 a0.Cols, .slice p1 a0.Start.length c2, .slice p4 a0.Col.length c5, .slice p7 a0.Val.length c8]] I (fun I_ v => ∃ r p10 c11 p13 c14 p16 c17, v = .agg #[.int .i64 r.Rows, .int .i64 r.Cols, .slice p10 r.Start.length c11, .slice p13 r.Col.length c14, .slice p16 r.Val.length c17] ∧ RepSl eI64 I_ p10 c11 r.Start ∧ RepSl eI64 I_ p13 c14 r.Col ∧ RepSl eI64 I_ p16 c17 r.Val ∧ Q r) := by
 refine Fun.enter func54 rfl ntmps54 rfl (.c .n) fun w0 M => ?_
 refine .seq (.region (.boxA rfl rfl rfl fun b23 => ?_))
 refine .allocA zeroValue25 rfl rfl fun b25 => ?_
 refine .nilS [2, 1] rfl rfl (.seq (.seq (.region (.loadW isAgg25 sizeOf25 rfl (.s .z) rfl rfl rfl ?_))))
 have hw28 := W_ref07_Right (I := I) R3 R6 R9 hd
 refine .callP call4 rfl hw28 rfl rfl fun v29 hv30 => ?_
 obtain ⟨r27, rfl, hd⟩ := hv30
 refine .nilS [4, 2, 1] rfl rfl (.condP rfl hd (fun hb31 hd => ?_) fun hb31 hd => ?_)
 · exact .seq (.region (.loadW isAgg25 sizeOf25 rfl (.s .z) rfl rfl rfl (.storeA sizeOf25 rfl rfl .z (.t (.t (.t (.t (.t .nil))))) rfl rfl (.nilS [2] rfl rfl (.drop (.s .z) (.ret (pret results54 (.w isAgg25 sizeOf25 rfl .z rfl .n) (.refl _) ⟨a0, _, _, _, _, _, _, rfl, R3, R6, R9, hd⟩)))))))
 refine .skipS [2] rfl rfl (.drop (.s .z) (.seq (.region ?_)))
 have hw50 := W_ref07_Empty (I := I) hd
 refine .callO call64 rfl hw50 rfl rfl fun v36 I33 l37 hl34 hv35 => ?_
 obtain ⟨r32, p38, c39, p41, c42, p44, c45, rfl, rfl, hd⟩ := hv35
 have le51 := IH.le.trans (.refl _) hl34
 refine .storeA sizeOf25 rfl rfl (.s (.s (.s .z))) (.t (.t (.t (.t (.t .nil))))) rfl rfl (.nilS [2] rfl rfl (.pub .z fun I52 hl53 R54 => ?_))
 have le55 := IH.le.trans le51 hl53
 refine .pub .z fun I56 hl57 R58 => ?_
 have le59 := IH.le.trans le55 hl57
 replace R54 := R54.mono hl57
 refine .pub .z fun I60 hl61 R62 => ?_
 have le63 := IH.le.trans le59 hl61
 replace R54 := R54.mono hl61
 replace R58 := R58.mono hl61
 exact .ret (pret results54 (.w isAgg25 sizeOf25 rfl .z rfl .n) le63 ⟨r32, _, _, _, _, _, _, rfl, R54, R58, R62, hd⟩)

theorem W_ref07_Triples {I : IH} {a0 : Rows} {p1 : Option Addr} {c2 : Nat} {p4 : Option Addr} {c5 : Nat} {p7 : Option Addr} {c8 : Nat} {Q : (List Triple) → Prop} (R3 : RepSl eI64 I p1 c2 a0.Start) (R6 : RepSl eI64 I p4 c5 a0.Col) (R9 : RepSl eI64 I p7 c8 a0.Val) (hd : ref07_Triples a0 Q) :
    PFun Tryz.prog 55 [.agg #[.int .i64 a0.Rows, .int .i64 a0.Cols, .slice p1 a0.Start.length c2, .slice p4 a0.Col.length c5, .slice p7 a0.Val.length c8]] I (fun I_ v => ∃ r p10 c11, v = .slice p10 r.length c11 ∧ RepSl eTriple I_ p10 c11 r ∧ Q r) := by
 refine Fun.enter func55 rfl ntmps55 rfl (.c .n) fun w0 M => ?_
 refine .seq (.region (.boxA rfl rfl rfl fun b15 => ?_))
 refine .skips 1 rfl (.nilS [1] rfl rfl (.seq (.region (.loadW isAgg25 sizeOf25 rfl .z rfl rfl rfl ?_))))
 have hw49 := W_ref07_Sure (I := I) R3 R6 R9 hd
 refine .call call54 rfl hw49 rfl rfl fun v38 I35 hl36 hv37 => ?_
 obtain ⟨r34, p40, c41, p43, c44, p46, c47, rfl, R42, R45, R48, hd⟩ := hv37
 have le50 := IH.le.trans (.refl _) hl36
 replace R3 := R3.mono hl36
 replace R6 := R6.mono hl36
 replace R9 := R9.mono hl36
 refine .storeA sizeOf25 rfl rfl .z (.t (.t (.t (.t (.t .nil))))) rfl rfl (.nilS [1] rfl rfl (.seq (.region (.skips 1 rfl (.nilS [3, 1] rfl rfl (.seq (.seq (.region (.skips 1 rfl ?_)))))))))
 refine .nilS [4, 3, 1] rfl rfl (.block (.own0 eTriple 47 (.loop hd (fun (s : (List Triple) × Int) c w => match s with | (s427, s431) => ∃ I_ p428 c429, IH.le I35 I_ ∧ Ok ⟨45, [], none⟩ [(1, .pointer (some ⟨b15, 0, none⟩)), (3, .slice p428 s427.length c429), (4, .int .i64 s431)] c ∧ Sym w0 M I I_ [pto b15 (.cells #[.int .i64 r34.Rows, .int .i64 r34.Cols, .slice p40 r34.Start.length c41, .slice p43 r34.Col.length c44, .slice p46 r34.Val.length c47] 25 (0, 0)), OwnSl eTriple 47 p428 c429 s427] w) (fun c w ho hs => ⟨I35, _, _, (.refl _), ho.sub ⟨rfl, rfl, rfl, trivial⟩, hs.pick (.c (.s .z) (.c .z .n))⟩) ?_)))
 rintro ⟨s427, s431⟩ next433 hd c w hst
 obtain ⟨I434, p428, c429, hl435, hok, hsym⟩ := hst
 have le436 := IH.le.trans le50 hl435
 have le437 := IH.le.trans (.refl _) hl435
 replace R42 := R42.mono hl435
 replace R45 := R45.mono hl435
 replace R48 := R48.mono hl435
 refine Cod.at hok hsym (.seq (.seq (.region (.skips 1 rfl (.fieldAddr underlying25 rfl sizeOf3 rfl (o := 0) rfl rfl rfl (.load1 isAgg3 rfl .z rfl rfl rfl (.lt rfl rfl rfl rfl (.nilS [11, 4, 3, 1] rfl rfl (.condP rfl hd (fun hb439 hd => ?_) fun hb439 hd => ?_)))))))))
 · refine .skipS [4, 3, 1] rfl rfl (.seq (.block (.seq (.region (.fieldAddr underlying25 rfl sizeOf22 rfl (o := 2) rfl rfl rfl (.load1 isAgg22 rfl .z rfl rfl rfl (.skips 1 rfl ?_)))))))
   obtain ⟨h449, x450, hx451, hd⟩ := hd
   obtain ⟨b452, o453, cs454, e455, hC456, hr457⟩ := R42.2 _ _ hx451
   cases hr457
   refine .ixa underlying22 sizeOf3 rfl e455 rfl h449 (idx_lt hx451 h449) rfl rfl (.ld1 (j := 0) isAgg3 hC456 rfl rfl rfl rfl rfl (.skips 1 rfl (.nilS [5, 4, 3, 1] rfl rfl (.block (.loop hd (fun (s : (List Triple) × Int) c w => match s with | (s563, s567) => ∃ I_ p564 c565, IH.le I434 I_ ∧ Ok ⟨45, [], none⟩ [(1, .pointer (some ⟨b15, 0, none⟩)), (3, .slice p564 s563.length c565), (4, .int .i64 s431), (5, .int .i64 s567)] c ∧ Sym w0 M I I_ [pto b15 (.cells #[.int .i64 r34.Rows, .int .i64 r34.Cols, .slice p40 r34.Start.length c41, .slice p43 r34.Col.length c44, .slice p46 r34.Val.length c47] 25 (0, 0)), OwnSl eTriple 47 p564 c565 s563] w) (fun c w ho hs => ⟨I434, _, _, (.refl _), ho.sub ⟨rfl, rfl, rfl, rfl, trivial⟩, hs.pick (.c .z (.c .z .n))⟩) ?_)))))
   rintro ⟨s563, s567⟩ next568 hd c w hst
   obtain ⟨I569, p564, c565, hl570, hok, hsym⟩ := hst
   have le571 := IH.le.trans le436 hl570
   have le572 := IH.le.trans le437 hl570
   have le573 := IH.le.trans (.refl _) hl570
   replace R42 := R42.mono hl570
   replace R45 := R45.mono hl570
   replace R48 := R48.mono hl570
   refine Cod.at hok hsym (.seq (.seq (.region (.skips 1 rfl (.fieldAddr underlying25 rfl sizeOf22 rfl (o := 2) rfl rfl rfl (.load1 isAgg22 rfl .z rfl rfl rfl (.skips 1 rfl (.add rfl rfl rfl rfl ?_))))))))
   obtain ⟨h584, x585, hx586, hd⟩ := hd
   obtain ⟨b587, o588, cs589, e590, hC591, hr592⟩ := R42.2 _ _ hx586
   cases hr592
   refine .ixa underlying22 sizeOf3 rfl e590 rfl h584 (idx_lt hx586 h584) rfl rfl (.ld1 (j := 0) isAgg3 hC591 rfl rfl rfl rfl rfl (.lt rfl rfl rfl rfl (.nilS [26, 5, 4, 3, 1] rfl rfl (.condP rfl hd (fun hb593 hd => ?_) fun hb593 hd => ?_))))
   · refine .skipS [5, 4, 3, 1] rfl rfl (.seq (.block (.ownF (.s .z) fun hne594 => ?_)))
     refine .draw [some 0, some 1, some 2, some 3, some 4, some 5, some 6, some 7, some 8, some 9, some 10, some 11, some 12, some 13, some 14] 15 MX (by kernel_rfl) (by kernel_rfl) (by kernel_rfl) (by kernel_rfl) (by kernel_rfl) (by kernel_rfl) (by kernel_rfl) (fun ex => (pto b15 (.cells #[.int .i64 r34.Rows, .int .i64 r34.Cols, .slice p40 r34.Start.length c41, .slice p43 r34.Col.length c44, .slice p46 r34.Val.length c47] 25 (0, 0))) :: (OwnSl eTriple 47 p564 c565 s563) :: ex) (fun _ _ => (.s (.s .z))) rfl (.fs [[], []] rfl (by kernel_rfl) (.f [] rfl (by kernel_rfl) rfl rfl (fun ex => .fieldAddr underlying25 rfl sizeOf22 rfl (o := 3) rfl rfl rfl .mk) (.f [2] rfl (by kernel_rfl) rfl rfl (fun ex => .load1 isAgg22 rfl .z rfl rfl rfl .mk) (.fs [[]] rfl (by kernel_rfl) ?_))))
     obtain ⟨h595, x596, hx597, hd⟩ := hd
     obtain ⟨b598, o599, cs600, e601, hC602, hr603⟩ := R45.2 _ _ hx597
     cases hr603
     refine .f [3, 4] rfl (by kernel_rfl) rfl rfl (fun ex => .ixa underlying22 sizeOf3 rfl e601 rfl h595 (idx_lt hx597 h595) rfl rfl .mk) (.f [5] rfl (by kernel_rfl) rfl rfl (fun ex => .ld1 (j := 0) isAgg3 hC602 rfl rfl rfl rfl rfl .mk) (.f [] rfl (by kernel_rfl) rfl rfl (fun ex => .fieldAddr underlying25 rfl sizeOf23 rfl (o := 4) rfl rfl rfl .mk) (.f [7] rfl (by kernel_rfl) rfl rfl (fun ex => .load1 isAgg23 rfl .z rfl rfl rfl .mk) (.fs [[]] rfl (by kernel_rfl) ?_))))
     obtain ⟨h604, x605, hx606, hd⟩ := hd
     obtain ⟨b607, o608, cs609, e610, hC611, hr612⟩ := R48.2 _ _ hx606
     cases hr612
     refine .f [8, 9] rfl (by kernel_rfl) rfl rfl (fun ex => .ixa underlying23 sizeOf2 rfl e610 rfl h604 (idx_lt hx606 h604) rfl rfl .mk) (.f [10] rfl (by kernel_rfl) rfl rfl (fun ex => .ld1 (j := 0) isAgg2 hC611 rfl rfl rfl rfl rfl .mk) (.f [1, 6, 11] rfl (by kernel_rfl) rfl rfl (fun ex => .build zeroValue47 underlying47 BI47 (.c rfl rfl rfl (.t .nil) (.c rfl rfl rfl (.s (.t .nil)) (.c rfl rfl rfl (.s (.s (.t .nil))) .n))) (by exact ⟨⟨_, _, rfl, rfl, rfl⟩, ⟨⟨_, _, rfl, rfl, rfl⟩, ⟨⟨_, _, rfl, rfl, rfl⟩, trivial⟩⟩⟩) rfl rfl .mk) (.w [0] [[], [12], [11, 12], [10, 11, 12], [10, 11, 12], [8, 10, 11, 12], [12], [6, 12], [5, 6, 12], [5, 6, 12], [3, 5, 6, 12], [12]] [12] rfl (by kernel_rfl) (by kernel_rfl) (by kernel_rfl) ((dropE_kept rfl rfl)) (.inr (dropE_kept rfl rfl)) fun ex => ?_)))
     refine .buildSlice 1 underlying48 sizeOf47 zeroValue47 rfl rfl (.c rfl rfl rfl .n) rfl rfl fun b613 => ?_
     refine .some (fun ex => (pto b613 (.cells #[.int .i64 s431, .int .i64 x596, .int .i64 x605] 47 (0, 0))) :: (pto b15 (.cells #[.int .i64 r34.Rows, .int .i64 r34.Cols, .slice p40 r34.Start.length c41, .slice p43 r34.Col.length c44, .slice p46 r34.Val.length c47] 25 (0, 0))) :: (OwnSl eTriple 47 p564 c565 s563) :: ex) rfl (fun _ _ => (.s (.s (.s .z)))) rfl (.ccs [[]] rfl rfl (by kernel_rfl) trivial) (.w [] [[]] [0, 13] rfl (by kernel_rfl) (by kernel_rfl) (by kernel_rfl) ((dropE_kept rfl rfl)) (.inr (dropE_kept rfl rfl)) fun ex => ?_)
     obtain ⟨hl615, hd⟩ := hd
     refine .append (ys := [({ Row := s431, Col := x596, Val := x605 } : Triple)]) 24 (.s (.s .z)) underlying48 underlying48 IN47 rfl rfl rfl rfl rfl rfl rfl rfl rfl (.box .z (.one rfl) rfl) hl615 rfl rfl fun p616 c617 => ?_
     refine .some (fun ex => (OwnSl eTriple 47 p616 c617 (s563 ++ ([({ Row := s431, Col := x596, Val := x605 } : Triple)]))) :: (pto b613 (.cells #[.int .i64 s431, .int .i64 x596, .int .i64 x605] 47 (0, 0))) :: (pto b15 (.cells #[.int .i64 r34.Rows, .int .i64 r34.Cols, .slice p40 r34.Start.length c41, .slice p43 r34.Col.length c44, .slice p46 r34.Val.length c47] 25 (0, 0))) :: ex) rfl (fun _ _ => (.s (.s (.s .z)))) rfl trivial (.e 15 (by kernel_rfl) (by kernel_rfl) (by kernel_rfl) (.sub (E' := [(1, _), (4, _), (5, _), (29, _), (30, _), (31, _), (32, _), (33, _), (34, _), (35, _), (36, _), (37, _), (38, _), (39, _), (40, _), (41, _), (42, _), (43, _)]) ⟨rfl, rfl, rfl, rfl, rfl, rfl, rfl, rfl, rfl, rfl, rfl, rfl, rfl, rfl, rfl, rfl, rfl, rfl, trivial⟩ (.skips 1 rfl (.nilS [3, 5, 4, 1] rfl rfl (.drop (.s .z) (.region (.skips 1 rfl (.add rfl rfl rfl rfl (.sub (E' := [(1, _), (4, _), (3, _), (27, _), (28, _)]) ⟨rfl, rfl, rfl, rfl, rfl, trivial⟩ ?_)))))))))
     exact .skips 1 rfl (.nil' fun c w ho hs => ⟨((s563 ++ ([({ Row := s431, Col := x596, Val := x605 } : Triple)])), w64 (s567 + 1)), hd, I569, _, _, le573, ho.sub ⟨rfl, rfl, rfl, rfl, trivial⟩, hs.pick (.c (.s .z) (.c .z .n))⟩)
   exact .exitS [4, 3, 1] rfl rfl (.region (.skips 1 rfl (.add rfl rfl rfl rfl (.sub (E' := [(1, _), (3, _), (12, _), (13, _)]) ⟨rfl, rfl, rfl, rfl, trivial⟩ (.skips 1 rfl (.nil' fun c w ho hs => ⟨(s563, w64 (s431 + 1)), hd, I569, _, _, le572, ho.sub ⟨rfl, rfl, rfl, trivial⟩, hs.pick (.c .z (.c .z .n))⟩))))))
 refine .exitS [3] rfl rfl (.drop .z (.seq (.region (.skips 2 rfl (.nilS [2] rfl rfl (.pub .z fun I619 hl620 R621 => ?_))))))
 have le622 := IH.le.trans le436 hl620
 have le623 := IH.le.trans le437 hl620
 exact .ret (pret results55 (.t rfl .n) le622 ⟨s427, _, _, rfl, R621, hd⟩)

theorem W_ref07_Turn {I : IH} {a0 : Rows} {p1 : Option Addr} {c2 : Nat} {p4 : Option Addr} {c5 : Nat} {p7 : Option Addr} {c8 : Nat} {Q : Rows → Prop} (R3 : RepSl eI64 I p1 c2 a0.Start) (R6 : RepSl eI64 I p4 c5 a0.Col) (R9 : RepSl eI64 I p7 c8 a0.Val) (hd : ref07_Turn a0 Q) :
    PFun Tryz.prog 34 [.agg #[.int .i64 a0.Rows, .int .i64 a0.Cols, .slice p1 a0.Start.length c2, .slice p4 a0.Col.length c5, .slice p7 a0.Val.length c8]] I (fun I_ v => ∃ r p10 c11 p13 c14 p16 c17, v = .agg #[.int .i64 r.Rows, .int .i64 r.Cols, .slice p10 r.Start.length c11, .slice p13 r.Col.length c14, .slice p16 r.Val.length c17] ∧ RepSl eI64 I_ p10 c11 r.Start ∧ RepSl eI64 I_ p13 c14 r.Col ∧ RepSl eI64 I_ p16 c17 r.Val ∧ Q r) := by
 refine Fun.enter func34 rfl ntmps34 rfl (.c .n) fun w0 M => ?_
 refine .seq (.region (.boxA rfl rfl rfl fun b23 => ?_))
 refine .allocA zeroValue25 rfl rfl fun b25 => ?_
 refine .nilS [2, 1] rfl rfl (.seq (.region (.loadW isAgg25 sizeOf25 rfl (.s .z) rfl rfl rfl ?_)))
 have hw59 := W_ref07_Sure (I := I) R3 R6 R9 hd
 refine .call call54 rfl hw59 rfl rfl fun v48 I45 hl46 hv47 => ?_
 obtain ⟨r44, p50, c51, p53, c54, p56, c57, rfl, R52, R55, R58, hd⟩ := hv47
 have le60 := IH.le.trans (.refl _) hl46
 replace R3 := R3.mono hl46
 replace R6 := R6.mono hl46
 replace R9 := R9.mono hl46
 refine .storeA sizeOf25 rfl rfl (.s .z) (.t (.t (.t (.t (.t .nil))))) rfl rfl (.nilS [2, 1] rfl rfl (.seq (.region (.loadW isAgg25 sizeOf25 rfl (.s .z) rfl rfl rfl ?_))))
 have hw81 := W_ref07_Triples (I := I45) R52 R55 R58 hd
 refine .call call55 rfl hw81 rfl rfl fun v76 I73 hl74 hv75 => ?_
 obtain ⟨r72, p78, c79, rfl, R80, hd⟩ := hv75
 have le82 := IH.le.trans le60 hl74
 replace R52 := R52.mono hl74
 replace R55 := R55.mono hl74
 replace R58 := R58.mono hl74
 refine .skips 1 rfl (.nilS [3, 2, 1] rfl rfl (.seq (.region (.skips 1 rfl (.nilS [4, 3, 2, 1] rfl rfl (.seq (.seq (.region (.skips 1 rfl ?_)))))))))
 refine .nilS [5, 4, 3, 2, 1] rfl rfl (.block (.own0 eTriple 47 (.loop hd (fun (s : (List Triple) × Int) c w => match s with | (s429, s433) => ∃ I_ p430 c431, IH.le I73 I_ ∧ Ok ⟨51, [], none⟩ [(1, .pointer (some ⟨b23, 0, none⟩)), (2, .pointer (some ⟨b25, 0, none⟩)), (3, .slice p78 r72.length c79), (4, .slice p430 s429.length c431), (5, .int .i64 s433)] c ∧ Sym w0 M I I_ [pto b23 (.cells #[.int .i64 r44.Rows, .int .i64 r44.Cols, .slice p50 r44.Start.length c51, .slice p53 r44.Col.length c54, .slice p56 r44.Val.length c57] 25 (0, 0)), pto b25 (.cells #[.int .i64 0, .int .i64 0, .slice none 0 0, .slice none 0 0, .slice none 0 0] 25 (0, 0)), OwnSl eTriple 47 p430 c431 s429] w) (fun c w ho hs => ⟨I73, _, _, (.refl _), ho.sub ⟨rfl, rfl, rfl, rfl, rfl, trivial⟩, hs.pick (.c (.s (.s .z)) (.c (.s .z) (.c .z .n)))⟩) ?_)))
 rintro ⟨s429, s433⟩ next435 hd c w hst
 obtain ⟨I436, p430, c431, hl437, hok, hsym⟩ := hst
 have le438 := IH.le.trans le82 hl437
 have le439 := IH.le.trans (.refl _) hl437
 replace R52 := R52.mono hl437
 replace R55 := R55.mono hl437
 replace R58 := R58.mono hl437
 replace R80 := R80.mono hl437
 refine Cod.at hok hsym (.seq (.seq (.region (.skips 1 rfl (.fieldAddr underlying25 rfl sizeOf3 rfl (o := 1) rfl rfl rfl (.load1 isAgg3 rfl .z rfl rfl rfl (.lt rfl rfl rfl rfl (.nilS [14, 5, 4, 3, 2, 1] rfl rfl (.condP rfl hd (fun hb441 hd => ?_) fun hb441 hd => ?_)))))))))
 · refine .skipS [5, 4, 3, 2, 1] rfl rfl (.seq (.block (.seq (.region (.skips 1 rfl (.nilS [6, 5, 4, 3, 2, 1] rfl rfl (.block (.loop hd (fun (s : (List Triple) × Int) c w => match s with | (s549, s553) => ∃ I_ p550 c551, IH.le I436 I_ ∧ Ok ⟨51, [], none⟩ [(1, .pointer (some ⟨b23, 0, none⟩)), (2, .pointer (some ⟨b25, 0, none⟩)), (3, .slice p78 r72.length c79), (4, .slice p550 s549.length c551), (5, .int .i64 s433), (6, .int .i64 s553)] c ∧ Sym w0 M I I_ [pto b23 (.cells #[.int .i64 r44.Rows, .int .i64 r44.Cols, .slice p50 r44.Start.length c51, .slice p53 r44.Col.length c54, .slice p56 r44.Val.length c57] 25 (0, 0)), pto b25 (.cells #[.int .i64 0, .int .i64 0, .slice none 0 0, .slice none 0 0, .slice none 0 0] 25 (0, 0)), OwnSl eTriple 47 p550 c551 s549] w) (fun c w ho hs => ⟨I436, _, _, (.refl _), ho.sub ⟨rfl, rfl, rfl, rfl, rfl, rfl, trivial⟩, hs.pick (.c .z (.c .z (.c .z .n)))⟩) ?_))))))))
   rintro ⟨s549, s553⟩ next554 hd c w hst
   obtain ⟨I555, p550, c551, hl556, hok, hsym⟩ := hst
   have le557 := IH.le.trans le438 hl556
   have le558 := IH.le.trans le439 hl556
   have le559 := IH.le.trans (.refl _) hl556
   replace R52 := R52.mono hl556
   replace R55 := R55.mono hl556
   replace R58 := R58.mono hl556
   replace R80 := R80.mono hl556
   refine Cod.at hok hsym (.seq (.seq (.region (.skips 2 rfl (.len underlying48 rfl rfl rfl rfl (.lt rfl rfl rfl rfl (.nilS [20, 6, 5, 4, 3, 2, 1] rfl rfl (.condP rfl hd (fun hb561 hd => ?_) fun hb561 hd => ?_))))))))
   · refine .skipS [6, 5, 4, 3, 2, 1] rfl rfl (.seq (.block (.seq (.region (.skips 2 rfl ?_)))))
     obtain ⟨h571, x572, hx573, hd⟩ := hd
     obtain ⟨b574, o575, cs576, e577, hC578, hr579⟩ := R80.2 _ _ hx573
     cases hr579
     refine .ixa underlying48 sizeOf47 rfl e577 rfl h571 (idx_lt hx573 h571) rfl rfl (.fieldAddr underlying47 rfl sizeOf3 rfl (o := o575 + s553.toNat * 3 + 1) rfl rfl rfl (.ld1 (j := 1) isAgg3 hC578 rfl rfl rfl rfl rfl (.skips 1 rfl (.eq rfl rfl rfl rfl (.nilS [29, 6, 5, 4, 3, 2, 1] rfl rfl (.condP rfl hd (fun hb580 hd => ?_) fun hb580 hd => ?_))))))
     · refine .ownF (.s (.s .z)) fun hne581 => ?_
       refine .draw [some 0, some 1, some 2, some 3, some 4, some 5, some 6, some 7, some 8, some 9, some 10, some 11, some 12, some 13, some 14] 15 MX (by kernel_rfl) (by kernel_rfl) (by kernel_rfl) (by kernel_rfl) (by kernel_rfl) (by kernel_rfl) (by kernel_rfl) (fun ex => (pto b23 (.cells #[.int .i64 r44.Rows, .int .i64 r44.Cols, .slice p50 r44.Start.length c51, .slice p53 r44.Col.length c54, .slice p56 r44.Val.length c57] 25 (0, 0))) :: (pto b25 (.cells #[.int .i64 0, .int .i64 0, .slice none 0 0, .slice none 0 0, .slice none 0 0] 25 (0, 0))) :: (OwnSl eTriple 47 p550 c551 s549) :: ex) (fun _ _ => (.s (.s (.s .z)))) rfl (.fs [[], [], [], []] rfl (by kernel_rfl) ?_)
       obtain ⟨h582, x583, hx584, hd⟩ := hd
       obtain ⟨b585, o586, cs587, e588, hC589, hr590⟩ := R80.2 _ _ hx584
       cases hr590
       refine .f [2, 3] rfl (by kernel_rfl) rfl rfl (fun ex => .ixa underlying48 sizeOf47 rfl e588 rfl h582 (idx_lt hx584 h582) rfl rfl .mk) (.f [4] rfl (by kernel_rfl) rfl rfl (fun ex => .fieldAddr underlying47 rfl sizeOf3 rfl (o := o586 + s553.toNat * 3) rfl rfl rfl .mk) (.f [5] rfl (by kernel_rfl) rfl rfl (fun ex => .ld1 (j := 0) isAgg3 hC589 rfl rfl rfl rfl rfl .mk) (.fs [[], []] rfl (by kernel_rfl) ?_)))
       obtain ⟨h591, x592, hx593, hd⟩ := hd
       obtain ⟨b594, o595, cs596, e597, hC598, hr599⟩ := R80.2 _ _ hx593
       cases hr599
       refine .f [7, 8] rfl (by kernel_rfl) rfl rfl (fun ex => .ixa underlying48 sizeOf47 rfl e597 rfl h591 (idx_lt hx593 h591) rfl rfl .mk) (.f [9] rfl (by kernel_rfl) rfl rfl (fun ex => .fieldAddr underlying47 rfl sizeOf2 rfl (o := o595 + s553.toNat * 3 + 2) rfl rfl rfl .mk) (.f [10] rfl (by kernel_rfl) rfl rfl (fun ex => .ld1 (j := 2) isAgg2 hC598 rfl rfl rfl rfl rfl .mk) (.f [1, 6, 11] rfl (by kernel_rfl) rfl rfl (fun ex => .build zeroValue47 underlying47 BI47 (.c rfl rfl rfl (.t .nil) (.c rfl rfl rfl (.s (.t .nil)) (.c rfl rfl rfl (.s (.s (.t .nil))) .n))) (by exact ⟨⟨_, _, rfl, rfl, rfl⟩, ⟨⟨_, _, rfl, rfl, rfl⟩, ⟨⟨_, _, rfl, rfl, rfl⟩, trivial⟩⟩⟩) rfl rfl .mk) (.w [0] [[], [12], [11, 12], [10, 11, 12], [9, 10, 11, 12], [9, 10, 11, 12], [12], [6, 12], [5, 6, 12], [4, 5, 6, 12], [4, 5, 6, 12], [12]] [12] rfl (by kernel_rfl) (by kernel_rfl) (by kernel_rfl) ((dropE_kept rfl rfl)) (.inr (dropE_kept rfl rfl)) fun ex => ?_))))
       refine .buildSlice 1 underlying48 sizeOf47 zeroValue47 rfl rfl (.c rfl rfl rfl .n) rfl rfl fun b600 => ?_
       refine .some (fun ex => (pto b600 (.cells #[.int .i64 s433, .int .i64 x583.Row, .int .i64 x592.Val] 47 (0, 0))) :: (pto b23 (.cells #[.int .i64 r44.Rows, .int .i64 r44.Cols, .slice p50 r44.Start.length c51, .slice p53 r44.Col.length c54, .slice p56 r44.Val.length c57] 25 (0, 0))) :: (pto b25 (.cells #[.int .i64 0, .int .i64 0, .slice none 0 0, .slice none 0 0, .slice none 0 0] 25 (0, 0))) :: (OwnSl eTriple 47 p550 c551 s549) :: ex) rfl (fun _ _ => (.s (.s (.s (.s .z))))) rfl (.ccs [[]] rfl rfl (by kernel_rfl) trivial) (.w [] [[]] [0, 13] rfl (by kernel_rfl) (by kernel_rfl) (by kernel_rfl) ((dropE_kept rfl rfl)) (.inr (dropE_kept rfl rfl)) fun ex => ?_)
       obtain ⟨hl602, hd⟩ := hd
       refine .append (ys := [({ Row := s433, Col := x583.Row, Val := x592.Val } : Triple)]) 24 (.s (.s (.s .z))) underlying48 underlying48 IN47 rfl rfl rfl rfl rfl rfl rfl rfl rfl (.box .z (.one rfl) rfl) hl602 rfl rfl fun p603 c604 => ?_
       refine .some (fun ex => (OwnSl eTriple 47 p603 c604 (s549 ++ ([({ Row := s433, Col := x583.Row, Val := x592.Val } : Triple)]))) :: (pto b600 (.cells #[.int .i64 s433, .int .i64 x583.Row, .int .i64 x592.Val] 47 (0, 0))) :: (pto b23 (.cells #[.int .i64 r44.Rows, .int .i64 r44.Cols, .slice p50 r44.Start.length c51, .slice p53 r44.Col.length c54, .slice p56 r44.Val.length c57] 25 (0, 0))) :: (pto b25 (.cells #[.int .i64 0, .int .i64 0, .slice none 0 0, .slice none 0 0, .slice none 0 0] 25 (0, 0))) :: ex) rfl (fun _ _ => (.s (.s (.s (.s .z))))) rfl trivial (.e 15 (by kernel_rfl) (by kernel_rfl) (by kernel_rfl) (.sub (E' := [(1, _), (2, _), (3, _), (5, _), (6, _), (29, _), (30, _), (31, _), (32, _), (33, _), (34, _), (35, _), (36, _), (37, _), (38, _), (39, _), (40, _), (41, _), (42, _), (43, _), (44, _)]) ⟨rfl, rfl, rfl, rfl, rfl, rfl, rfl, rfl, rfl, rfl, rfl, rfl, rfl, rfl, rfl, rfl, rfl, rfl, rfl, rfl, rfl, trivial⟩ (.skips 1 rfl (.nilS [4, 6, 5, 3, 2, 1] rfl rfl (.drop (.s .z) (.region (.skips 1 rfl (.add rfl rfl rfl rfl (.sub (E' := [(1, _), (2, _), (3, _), (5, _), (4, _), (21, _), (22, _)]) ⟨rfl, rfl, rfl, rfl, rfl, rfl, rfl, trivial⟩ ?_)))))))))
       exact .skips 1 rfl (.nil' fun c w ho hs => ⟨((s549 ++ ([({ Row := s433, Col := x583.Row, Val := x592.Val } : Triple)])), w64 (s553 + 1)), hd, I555, _, _, le559, ho.sub ⟨rfl, rfl, rfl, rfl, rfl, rfl, trivial⟩, hs.pick (.c (.s .z) (.c (.s .z) (.c .z .n)))⟩)
     exact .skipS [6, 5, 4, 3, 2, 1] rfl rfl (.region (.skips 1 rfl (.add rfl rfl rfl rfl (.sub (E' := [(1, _), (2, _), (3, _), (4, _), (5, _), (21, _), (22, _)]) ⟨rfl, rfl, rfl, rfl, rfl, rfl, rfl, trivial⟩ (.skips 1 rfl (.nil' fun c w ho hs => ⟨(s549, w64 (s553 + 1)), hd, I555, _, _, le559, ho.sub ⟨rfl, rfl, rfl, rfl, rfl, rfl, trivial⟩, hs.pick (.c .z (.c .z (.c .z .n)))⟩))))))
   exact .exitS [5, 4, 3, 2, 1] rfl rfl (.region (.skips 1 rfl (.add rfl rfl rfl rfl (.sub (E' := [(1, _), (2, _), (3, _), (4, _), (15, _), (16, _)]) ⟨rfl, rfl, rfl, rfl, rfl, rfl, trivial⟩ (.skips 1 rfl (.nil' fun c w ho hs => ⟨(s549, w64 (s433 + 1)), hd, I555, _, _, le558, ho.sub ⟨rfl, rfl, rfl, rfl, rfl, trivial⟩, hs.pick (.c .z (.c .z (.c .z .n)))⟩))))))
 refine .exitS [4, 2, 1] rfl rfl (.seq (.region (.fieldAddr underlying25 rfl sizeOf3 rfl (o := 1) rfl rfl rfl (.load1 isAgg3 rfl .z rfl rfl rfl (.fieldAddr underlying25 rfl sizeOf3 rfl (o := 0) rfl rfl rfl (.load1 isAgg3 rfl .z rfl rfl rfl (.skips 1 rfl (.pub (.s (.s .z)) fun I606 hl607 R608 => ?_))))))))
 have le609 := IH.le.trans le438 hl607
 have le610 := IH.le.trans le439 hl607
 replace R52 := R52.mono hl607
 replace R55 := R55.mono hl607
 replace R58 := R58.mono hl607
 have hw626 := W_ref07_built (I := I606) R608 hd
 refine .call call41 rfl hw626 rfl rfl fun v615 I612 hl613 hv614 => ?_
 obtain ⟨r611, p617, c618, p620, c621, p623, c624, rfl, R619, R622, R625, hd⟩ := hv614
 have le627 := IH.le.trans le609 hl613
 have le628 := IH.le.trans le610 hl613
 replace R52 := R52.mono hl613
 replace R55 := R55.mono hl613
 replace R58 := R58.mono hl613
 replace R608 := R608.mono hl613
 exact .storeA sizeOf25 rfl rfl (.s .z) (.t (.t (.t (.t (.t .nil))))) rfl rfl (.nilS [2] rfl rfl (.drop .z (.ret (pret results34 (.w isAgg25 sizeOf25 rfl .z rfl .n) le627 ⟨r611, _, _, _, _, _, _, rfl, R619, R622, R625, hd⟩))))

theorem W_ref07_Row {I : IH} {a0 : Rows} {a1 : Int} {p1 : Option Addr} {c2 : Nat} {p4 : Option Addr} {c5 : Nat} {p7 : Option Addr} {c8 : Nat} {Q : (List Item) → Prop} (R3 : RepSl eI64 I p1 c2 a0.Start) (R6 : RepSl eI64 I p4 c5 a0.Col) (R9 : RepSl eI64 I p7 c8 a0.Val) (hd : ref07_Row a0 a1 Q) :
    PFun Tryz.prog 35 [.agg #[.int .i64 a0.Rows, .int .i64 a0.Cols, .slice p1 a0.Start.length c2, .slice p4 a0.Col.length c5, .slice p7 a0.Val.length c8], .int .i64 a1] I (fun I_ v => ∃ r p10 c11, v = .slice p10 r.length c11 ∧ RepSl eItem I_ p10 c11 r ∧ Q r) := by
 refine Fun.enter func35 rfl ntmps35 rfl (.c (.c .n)) fun w0 M => ?_
 refine .seq (.region (.boxA rfl rfl rfl fun b15 => ?_))
 refine .skips 1 rfl (.nilS [2, 1] rfl rfl (.seq (.region (.loadW isAgg25 sizeOf25 rfl .z rfl rfl rfl ?_))))
 have hw49 := W_ref07_Sure (I := I) R3 R6 R9 hd
 refine .call call54 rfl hw49 rfl rfl fun v38 I35 hl36 hv37 => ?_
 obtain ⟨r34, p40, c41, p43, c44, p46, c47, rfl, R42, R45, R48, hd⟩ := hv37
 have le50 := IH.le.trans (.refl _) hl36
 replace R3 := R3.mono hl36
 replace R6 := R6.mono hl36
 replace R9 := R9.mono hl36
 refine .storeA sizeOf25 rfl rfl .z (.t (.t (.t (.t (.t .nil))))) rfl rfl (.nilS [2, 1] rfl rfl (.seq (.region (.skips 1 rfl (.nilS [5, 2, 1] rfl rfl (.seq (.seq (.region (.skips 1 rfl ?_)))))))))
 refine .lt rfl rfl rfl rfl (.skips 1 rfl ?_)
 refine splitP hd (fun hb53 hd => ?_) fun hb53 hd => ?_
 · rw [hb53]
   exact .skips 5 rfl (.nilS [16, 5, 2, 1] rfl rfl (.condKT rfl rfl (.seq (.region (.skips 2 rfl (.nilS [4] rfl rfl (.drop .z (.ret (pret results35 (.t rfl .n) le50 ⟨([] : List Item), _, _, rfl, (.nil _ _ _), hd⟩)))))))))
 rw [hb53]
 refine .gyes rfl rfl rfl (.move rfl rfl rfl (.gyes rfl rfl rfl (.fieldAddr underlying25 rfl sizeOf3 rfl (o := 0) rfl rfl rfl (.gyes rfl rfl rfl (.load1 isAgg3 rfl .z rfl rfl rfl (.gyes rfl rfl rfl (.ge rfl rfl rfl rfl (.skips 1 rfl (.nilS [16, 5, 2, 1] rfl rfl (.condP rfl hd (fun hb54 hd => ?_) fun hb54 hd => ?_))))))))))
 · exact .seq (.region (.skips 2 rfl (.nilS [4] rfl rfl (.drop .z (.ret (pret results35 (.t rfl .n) le50 ⟨([] : List Item), _, _, rfl, (.nil _ _ _), hd⟩))))))
 refine .skipS [5, 2, 1] rfl rfl (.seq (.seq (.region (.fieldAddr underlying25 rfl sizeOf22 rfl (o := 2) rfl rfl rfl (.load1 isAgg22 rfl .z rfl rfl rfl (.skips 1 rfl ?_))))))
 obtain ⟨h64, x65, hx66, hd⟩ := hd
 obtain ⟨b67, o68, cs69, e70, hC71, hr72⟩ := R42.2 _ _ hx66
 cases hr72
 refine .ixa underlying22 sizeOf3 rfl e70 rfl h64 (idx_lt hx66 h64) rfl rfl (.ld1 (j := 0) isAgg3 hC71 rfl rfl rfl rfl rfl (.skips 1 rfl (.nilS [6, 5, 2, 1] rfl rfl (.block (.own0 eItem 50 (.loop hd (fun (s : (List Item) × Int) c w => match s with | (s178, s182) => ∃ I_ p179 c180, IH.le I35 I_ ∧ Ok ⟨48, [], none⟩ [(1, .int .i64 a1), (2, .pointer (some ⟨b15, 0, none⟩)), (5, .slice p179 s178.length c180), (6, .int .i64 s182)] c ∧ Sym w0 M I I_ [pto b15 (.cells #[.int .i64 r34.Rows, .int .i64 r34.Cols, .slice p40 r34.Start.length c41, .slice p43 r34.Col.length c44, .slice p46 r34.Val.length c47] 25 (0, 0)), OwnSl eItem 50 p179 c180 s178] w) (fun c w ho hs => ⟨I35, _, _, (.refl _), ho.sub ⟨rfl, rfl, rfl, rfl, trivial⟩, hs.pick (.c (.s .z) (.c .z .n))⟩) ?_))))))
 rintro ⟨s178, s182⟩ next184 hd c w hst
 obtain ⟨I185, p179, c180, hl186, hok, hsym⟩ := hst
 have le187 := IH.le.trans le50 hl186
 have le188 := IH.le.trans (.refl _) hl186
 replace R42 := R42.mono hl186
 replace R45 := R45.mono hl186
 replace R48 := R48.mono hl186
 refine Cod.at hok hsym (.seq (.seq (.region (.skips 1 rfl (.fieldAddr underlying25 rfl sizeOf22 rfl (o := 2) rfl rfl rfl (.load1 isAgg22 rfl .z rfl rfl rfl (.skips 1 rfl (.add rfl rfl rfl rfl ?_))))))))
 obtain ⟨h199, x200, hx201, hd⟩ := hd
 obtain ⟨b202, o203, cs204, e205, hC206, hr207⟩ := R42.2 _ _ hx201
 cases hr207
 refine .ixa underlying22 sizeOf3 rfl e205 rfl h199 (idx_lt hx201 h199) rfl rfl (.ld1 (j := 0) isAgg3 hC206 rfl rfl rfl rfl rfl (.lt rfl rfl rfl rfl (.nilS [30, 6, 5, 2, 1] rfl rfl (.condP rfl hd (fun hb208 hd => ?_) fun hb208 hd => ?_))))
 · refine .skipS [6, 5, 2, 1] rfl rfl (.seq (.block (.ownF (.s .z) fun hne209 => ?_)))
   refine .draw [some 0, some 1, some 2, some 3, some 4, some 5, some 6, some 7, some 8, some 9, some 10, some 11, some 12, some 13] 14 MX (by kernel_rfl) (by kernel_rfl) (by kernel_rfl) (by kernel_rfl) (by kernel_rfl) (by kernel_rfl) (by kernel_rfl) (fun ex => (pto b15 (.cells #[.int .i64 r34.Rows, .int .i64 r34.Cols, .slice p40 r34.Start.length c41, .slice p43 r34.Col.length c44, .slice p46 r34.Val.length c47] 25 (0, 0))) :: (OwnSl eItem 50 p179 c180 s178) :: ex) (fun _ _ => (.s (.s .z))) rfl (.fs [[]] rfl (by kernel_rfl) (.f [] rfl (by kernel_rfl) rfl rfl (fun ex => .fieldAddr underlying25 rfl sizeOf22 rfl (o := 3) rfl rfl rfl .mk) (.f [1] rfl (by kernel_rfl) rfl rfl (fun ex => .load1 isAgg22 rfl .z rfl rfl rfl .mk) (.fs [[]] rfl (by kernel_rfl) ?_))))
   obtain ⟨h210, x211, hx212, hd⟩ := hd
   obtain ⟨b213, o214, cs215, e216, hC217, hr218⟩ := R45.2 _ _ hx212
   cases hr218
   refine .f [2, 3] rfl (by kernel_rfl) rfl rfl (fun ex => .ixa underlying22 sizeOf3 rfl e216 rfl h210 (idx_lt hx212 h210) rfl rfl .mk) (.f [4] rfl (by kernel_rfl) rfl rfl (fun ex => .ld1 (j := 0) isAgg3 hC217 rfl rfl rfl rfl rfl .mk) (.f [] rfl (by kernel_rfl) rfl rfl (fun ex => .fieldAddr underlying25 rfl sizeOf23 rfl (o := 4) rfl rfl rfl .mk) (.f [6] rfl (by kernel_rfl) rfl rfl (fun ex => .load1 isAgg23 rfl .z rfl rfl rfl .mk) (.fs [[]] rfl (by kernel_rfl) ?_))))
   obtain ⟨h219, x220, hx221, hd⟩ := hd
   obtain ⟨b222, o223, cs224, e225, hC226, hr227⟩ := R48.2 _ _ hx221
   cases hr227
   refine .f [7, 8] rfl (by kernel_rfl) rfl rfl (fun ex => .ixa underlying23 sizeOf2 rfl e225 rfl h219 (idx_lt hx221 h219) rfl rfl .mk) (.f [9] rfl (by kernel_rfl) rfl rfl (fun ex => .ld1 (j := 0) isAgg2 hC226 rfl rfl rfl rfl rfl .mk) (.f [5, 10] rfl (by kernel_rfl) rfl rfl (fun ex => .build zeroValue50 underlying50 BI50 (.c rfl rfl rfl (.t .nil) (.c rfl rfl rfl (.s (.t .nil)) .n)) (by exact ⟨⟨_, _, rfl, rfl, rfl⟩, ⟨⟨_, _, rfl, rfl, rfl⟩, trivial⟩⟩) rfl rfl .mk) (.w [0] [[], [11], [10, 11], [9, 10, 11], [9, 10, 11], [7, 9, 10, 11], [11], [5, 11], [4, 5, 11], [4, 5, 11], [2, 4, 5, 11]] [11] rfl (by kernel_rfl) (by kernel_rfl) (by kernel_rfl) ((dropE_kept rfl rfl)) (.inr (dropE_kept rfl rfl)) fun ex => ?_)))
   refine .buildSlice 1 underlying31 sizeOf50 zeroValue50 rfl rfl (.c rfl rfl rfl .n) rfl rfl fun b228 => ?_
   refine .some (fun ex => (pto b228 (.cells #[.int .i64 x211, .int .i64 x220] 50 (0, 0))) :: (pto b15 (.cells #[.int .i64 r34.Rows, .int .i64 r34.Cols, .slice p40 r34.Start.length c41, .slice p43 r34.Col.length c44, .slice p46 r34.Val.length c47] 25 (0, 0))) :: (OwnSl eItem 50 p179 c180 s178) :: ex) rfl (fun _ _ => (.s (.s (.s .z)))) rfl (.ccs [[]] rfl rfl (by kernel_rfl) trivial) (.w [] [[]] [0, 12] rfl (by kernel_rfl) (by kernel_rfl) (by kernel_rfl) ((dropE_kept rfl rfl)) (.inr (dropE_kept rfl rfl)) fun ex => ?_)
   obtain ⟨hl230, hd⟩ := hd
   refine .append (ys := [({ At := x211, Val := x220 } : Item)]) 16 (.s (.s .z)) underlying31 underlying31 IN50 rfl rfl rfl rfl rfl rfl rfl rfl rfl (.box .z (.one rfl) rfl) hl230 rfl rfl fun p231 c232 => ?_
   refine .some (fun ex => (OwnSl eItem 50 p231 c232 (s178 ++ ([({ At := x211, Val := x220 } : Item)]))) :: (pto b228 (.cells #[.int .i64 x211, .int .i64 x220] 50 (0, 0))) :: (pto b15 (.cells #[.int .i64 r34.Rows, .int .i64 r34.Cols, .slice p40 r34.Start.length c41, .slice p43 r34.Col.length c44, .slice p46 r34.Val.length c47] 25 (0, 0))) :: ex) rfl (fun _ _ => (.s (.s (.s .z)))) rfl trivial (.e 14 (by kernel_rfl) (by kernel_rfl) (by kernel_rfl) (.sub (E' := [(1, _), (2, _), (6, _), (33, _), (34, _), (35, _), (36, _), (37, _), (38, _), (39, _), (40, _), (41, _), (42, _), (43, _), (44, _), (45, _), (46, _)]) ⟨rfl, rfl, rfl, rfl, rfl, rfl, rfl, rfl, rfl, rfl, rfl, rfl, rfl, rfl, rfl, rfl, rfl, trivial⟩ (.skips 1 rfl (.nilS [5, 6, 2, 1] rfl rfl (.drop (.s .z) (.region (.skips 1 rfl (.add rfl rfl rfl rfl (.sub (E' := [(1, _), (2, _), (5, _), (31, _), (32, _)]) ⟨rfl, rfl, rfl, rfl, rfl, trivial⟩ ?_)))))))))
   exact .skips 1 rfl (.nil' fun c w ho hs => ⟨((s178 ++ ([({ At := x211, Val := x220 } : Item)])), w64 (s182 + 1)), hd, I185, _, _, le188, ho.sub ⟨rfl, rfl, rfl, rfl, trivial⟩, hs.pick (.c (.s .z) (.c .z .n))⟩)
 refine .exitS [5] rfl rfl (.drop .z (.seq (.region (.skips 2 rfl (.nilS [4] rfl rfl (.pub .z fun I234 hl235 R236 => ?_))))))
 have le237 := IH.le.trans le187 hl235
 have le238 := IH.le.trans le188 hl235
 exact .ret (pret results35 (.t rfl .n) le237 ⟨s178, _, _, rfl, R236, hd⟩)

theorem W_ref08_Of {I : IH} {a0 : Rows} {p1 : Option Addr} {c2 : Nat} {p4 : Option Addr} {c5 : Nat} {p7 : Option Addr} {c8 : Nat} {Q : Columns → Prop} (R3 : RepSl eI64 I p1 c2 a0.Start) (R6 : RepSl eI64 I p4 c5 a0.Col) (R9 : RepSl eI64 I p7 c8 a0.Val) (hd : ref08_Of a0 Q) :
    PFun Tryz.prog 11 [.agg #[.int .i64 a0.Rows, .int .i64 a0.Cols, .slice p1 a0.Start.length c2, .slice p4 a0.Col.length c5, .slice p7 a0.Val.length c8]] I (fun I_ v => ∃ r p10 c11 p13 c14 p16 c17 p19 c20, v = .agg #[.int .i64 r.Rows, .int .i64 r.Cols, .slice p10 r.At.length c11, .slice p13 r.Start.length c14, .slice p16 r.Row.length c17, .slice p19 r.Val.length c20] ∧ RepSl eI64 I_ p10 c11 r.At ∧ RepSl eI64 I_ p13 c14 r.Start ∧ RepSl eI64 I_ p16 c17 r.Row ∧ RepSl eI64 I_ p19 c20 r.Val ∧ Q r) := by
 refine Fun.enter func11 rfl ntmps11 rfl (.c .n) fun w0 M => ?_
 refine .seq (.region (.boxA rfl rfl rfl fun b26 => ?_))
 refine .allocA zeroValue27 rfl rfl fun b28 => ?_
 refine .nilS [2, 1] rfl rfl (.seq (.region (.loadW isAgg25 sizeOf25 rfl (.s .z) rfl rfl rfl ?_)))
 have hw64 := W_ref07_Turn (I := I) R3 R6 R9 hd
 refine .call call34 rfl hw64 rfl rfl fun v53 I50 hl51 hv52 => ?_
 obtain ⟨r49, p55, c56, p58, c59, p61, c62, rfl, R57, R60, R63, hd⟩ := hv52
 have le65 := IH.le.trans (.refl _) hl51
 replace R3 := R3.mono hl51
 replace R6 := R6.mono hl51
 replace R9 := R9.mono hl51
 refine .allocA zeroValue25 rfl rfl fun b66 => ?_
 refine .storeA sizeOf25 rfl rfl .z (.t (.t (.t (.t (.t .nil))))) rfl rfl (.nilS [3, 2] rfl rfl (.drop (.s (.s .z)) (.seq (.region (.fieldAddr underlying25 rfl sizeOf3 rfl (o := 1) rfl rfl rfl (.load1 isAgg3 rfl .z rfl rfl rfl (.fieldAddr underlying25 rfl sizeOf3 rfl (o := 0) rfl rfl rfl (.load1 isAgg3 rfl .z rfl rfl rfl (.buildSlice 1 underlying22 sizeOf3 zeroValue3 rfl rfl (.c rfl rfl rfl .n) rfl rfl fun b73 => ?_)))))))))
 refine .ownB (El := eI64) (ys := ([0] : List Int)) .z (.one rfl) rfl (.build zeroValue27 underlying27 BI27 (.c rfl rfl rfl (.t .nil) (.c rfl rfl rfl (.s (.t .nil)) (.c rfl rfl rfl (.s (.s (.s (.t .nil)))) .n))) (by exact ⟨⟨_, _, rfl, rfl, rfl⟩, ⟨⟨_, _, rfl, rfl, rfl⟩, ⟨⟨_, _, rfl, rfl, rfl⟩, trivial⟩⟩⟩) rfl rfl (.allocA zeroValue27 rfl rfl fun b76 => ?_))
 refine .storeA sizeOf27 rfl rfl .z (.t (.t (.t (.t (.t (.t .nil)))))) rfl rfl (.nilS [4, 3, 2] rfl rfl (.seq (.seq (.region (.skips 1 rfl (.nilS [5, 4, 3, 2] rfl rfl (.block (.own0 eI64 3 (.own0 eI64 3 ?_)))))))))
 refine .own0 eI64 2 (.loop hd (fun (s : (List Int) × (List Int) × (List Int) × (List Int) × Int) c w => match s with | (s652, s656, s660, s664, s668) => ∃ I_ p653 c654 p657 c658 p661 c662 p665 c666, IH.le I50 I_ ∧ Ok ⟨69, [], none⟩ [(2, .pointer (some ⟨b28, 0, none⟩)), (3, .pointer (some ⟨b66, 0, none⟩)), (4, .pointer (some ⟨b76, 0, none⟩)), (5, .int .i64 s668)] c ∧ Sym w0 M I I_ [pto b28 (.cells #[.int .i64 0, .int .i64 0, .slice none 0 0, .slice none 0 0, .slice none 0 0, .slice none 0 0] 27 (0, 0)), pto b66 (.cells #[.int .i64 r49.Rows, .int .i64 r49.Cols, .slice p55 r49.Start.length c56, .slice p58 r49.Col.length c59, .slice p61 r49.Val.length c62] 25 (0, 0)), pto b76 (.cells #[.int .i64 r49.Cols, .int .i64 r49.Rows, .slice p653 s652.length c654, .slice p657 s656.length c658, .slice p661 s660.length c662, .slice p665 s664.length c666] 27 (0, 0)), OwnSl eI64 3 p653 c654 s652, OwnSl eI64 3 p657 c658 s656, OwnSl eI64 3 p661 c662 s660, OwnSl eI64 2 p665 c666 s664] w) (fun c w ho hs => ⟨I50, _, _, _, _, _, _, _, _, (.refl _), ho.sub ⟨rfl, rfl, rfl, rfl, trivial⟩, hs.pick (.c (.s (.s (.s (.s (.s (.s .z)))))) (.c (.s (.s (.s (.s (.s .z))))) (.c (.s (.s (.s .z))) (.c (.s (.s .z)) (.c (.s (.s .z)) (.c (.s .z) (.c .z .n)))))))⟩) ?_)
 rintro ⟨s652, s656, s660, s664, s668⟩ next672 hd c w hst
 obtain ⟨I673, p653, c654, p657, c658, p661, c662, p665, c666, hl674, hok, hsym⟩ := hst
 have le675 := IH.le.trans le65 hl674
 have le676 := IH.le.trans (.refl _) hl674
 replace R57 := R57.mono hl674
 replace R60 := R60.mono hl674
 replace R63 := R63.mono hl674
 refine Cod.at hok hsym (.seq (.seq (.region (.skips 1 rfl (.fieldAddr underlying25 rfl sizeOf3 rfl (o := 0) rfl rfl rfl (.load1 isAgg3 rfl (.s .z) rfl rfl rfl (.lt rfl rfl rfl rfl (.nilS [19, 5, 4, 3, 2] rfl rfl (.condP rfl hd (fun hb678 hd => ?_) fun hb678 hd => ?_)))))))))
 · refine .skipS [5, 4, 3, 2] rfl rfl (.seq (.block (.seq (.region (.loadW isAgg25 sizeOf25 rfl (.s .z) rfl rfl rfl (.skips 1 rfl ?_))))))
   have hw700 := W_ref07_Row (I := I673) R57 R60 R63 hd
   refine .call call35 rfl hw700 rfl rfl fun v695 I692 hl693 hv694 => ?_
   obtain ⟨r691, p697, c698, rfl, R699, hd⟩ := hv694
   have le701 := IH.le.trans le675 hl693
   have le702 := IH.le.trans le676 hl693
   replace R57 := R57.mono hl693
   replace R60 := R60.mono hl693
   replace R63 := R63.mono hl693
   refine .skips 1 rfl (.nilS [6, 5, 4, 3, 2] rfl rfl (.seq (.seq (.region (.skips 1 rfl (.len underlying31 rfl rfl rfl rfl (.eq rfl rfl rfl rfl (.nilS [27, 6, 5, 4, 3, 2] rfl rfl (.condP rfl hd (fun hb704 hd => ?_) fun hb704 hd => ?_)))))))))
   · exact .exitS [5, 4, 3, 2] rfl rfl (.region (.skips 1 rfl (.add rfl rfl rfl rfl (.sub (E' := [(2, _), (3, _), (4, _), (20, _), (21, _)]) ⟨rfl, rfl, rfl, rfl, rfl, trivial⟩ (.skips 1 rfl (.nil' fun c w ho hs => ⟨(s652, s656, s660, s664, w64 (s668 + 1)), hd, I692, _, _, _, _, _, _, _, _, le702, ho.sub ⟨rfl, rfl, rfl, rfl, trivial⟩, hs.pick (.c .z (.c .z (.c .z (.c .z (.c .z (.c .z (.c .z .n)))))))⟩))))))
   refine .skipS [6, 5, 4, 3, 2] rfl rfl (.seq (.region (.fieldAddr underlying27 rfl sizeOf22 rfl (o := 2) rfl rfl rfl (.load1 isAgg22 rfl (.s (.s .z)) rfl rfl rfl (.skips 1 rfl (.buildSlice 1 underlying22 sizeOf3 zeroValue3 rfl rfl (.c rfl rfl rfl .n) rfl rfl fun b711 => ?_))))))
   obtain ⟨hl713, hd⟩ := hd
   refine .append (ys := [s668]) 8 (.s (.s (.s (.s .z)))) underlying22 underlying22 IN3 rfl rfl rfl rfl rfl rfl rfl rfl rfl (.box .z (.one rfl) rfl) hl713 rfl rfl fun p714 c715 => ?_
   refine .fieldAddr underlying27 rfl sizeOf22 rfl (o := 2) rfl rfl rfl (.store1 sizeOf22 rfl rfl (.s (.s (.s (.s .z)))) (.s (.s (.t .nil))) rfl (.nilS [6, 5, 4, 3, 2] rfl rfl (.drop (.s .z) (.seq (.seq (.region (.skips 1 rfl (.nilS [7, 6, 5, 4, 3, 2] rfl rfl (.block ?_)))))))))
   refine .loop hd (fun (s : (List Int) × (List Int) × Int) c w => match s with | (s862, s866, s870) => ∃ I_ p863 c864 p867 c868, IH.le I692 I_ ∧ Ok ⟨69, [], none⟩ [(2, .pointer (some ⟨b28, 0, none⟩)), (3, .pointer (some ⟨b66, 0, none⟩)), (4, .pointer (some ⟨b76, 0, none⟩)), (5, .int .i64 s668), (6, .slice p697 r691.length c698), (7, .int .i64 s870)] c ∧ Sym w0 M I I_ [pto b28 (.cells #[.int .i64 0, .int .i64 0, .slice none 0 0, .slice none 0 0, .slice none 0 0, .slice none 0 0] 27 (0, 0)), pto b66 (.cells #[.int .i64 r49.Rows, .int .i64 r49.Cols, .slice p55 r49.Start.length c56, .slice p58 r49.Col.length c59, .slice p61 r49.Val.length c62] 25 (0, 0)), pto b76 (.cells #[.int .i64 r49.Cols, .int .i64 r49.Rows, .slice p714 (s652 ++ ([s668])).length c715, .slice p657 s656.length c658, .slice p863 s862.length c864, .slice p867 s866.length c868] 27 (0, 0)), OwnSl eI64 3 p714 c715 (s652 ++ ([s668])), OwnSl eI64 3 p657 c658 s656, OwnSl eI64 3 p863 c864 s862, OwnSl eI64 2 p867 c868 s866] w) (fun c w ho hs => ⟨I692, _, _, _, _, (.refl _), ho.sub ⟨rfl, rfl, rfl, rfl, rfl, rfl, trivial⟩, hs.pick (.c (.s .z) (.c (.s .z) (.c (.s .z) (.c .z (.c .z (.c .z (.c .z .n)))))))⟩) ?_
   rintro ⟨s862, s866, s870⟩ next871 hd c w hst
   obtain ⟨I872, p863, c864, p867, c868, hl873, hok, hsym⟩ := hst
   have le874 := IH.le.trans le701 hl873
   have le875 := IH.le.trans le702 hl873
   have le876 := IH.le.trans (.refl _) hl873
   replace R57 := R57.mono hl873
   replace R60 := R60.mono hl873
   replace R63 := R63.mono hl873
   replace R699 := R699.mono hl873
   refine Cod.at hok hsym (.seq (.seq (.region (.skips 2 rfl (.len underlying31 rfl rfl rfl rfl (.lt rfl rfl rfl rfl (.nilS [37, 7, 6, 5, 4, 3, 2] rfl rfl (.condP rfl hd (fun hb878 hd => ?_) fun hb878 hd => ?_))))))))
   · refine .skipS [7, 6, 5, 4, 3, 2] rfl rfl (.seq (.block (.seq (.ownF (.s (.s (.s .z))) fun hne898 => ?_))))
     refine .ownF (.s (.s (.s (.s .z)))) fun hne899 => ?_
     refine .ownF (.s (.s (.s (.s (.s .z))))) fun hne900 => ?_
     refine .ownF (.s (.s (.s (.s (.s (.s .z)))))) fun hne901 => ?_
     refine .draw [some 0, some 1, some 2, some 3, some 4, some 5, some 6, some 7, some 8] 9 MX (by kernel_rfl) (by kernel_rfl) (by kernel_rfl) (by kernel_rfl) (by kernel_rfl) (by kernel_rfl) (by kernel_rfl) (fun ex => (pto b28 (.cells #[.int .i64 0, .int .i64 0, .slice none 0 0, .slice none 0 0, .slice none 0 0, .slice none 0 0] 27 (0, 0))) :: (pto b66 (.cells #[.int .i64 r49.Rows, .int .i64 r49.Cols, .slice p55 r49.Start.length c56, .slice p58 r49.Col.length c59, .slice p61 r49.Val.length c62] 25 (0, 0))) :: (pto b76 (.cells #[.int .i64 r49.Cols, .int .i64 r49.Rows, .slice p714 (s652 ++ ([s668])).length c715, .slice p657 s656.length c658, .slice p863 s862.length c864, .slice p867 s866.length c868] 27 (0, 0))) :: (OwnSl eI64 3 p714 c715 (s652 ++ ([s668]))) :: (OwnSl eI64 3 p657 c658 s656) :: (OwnSl eI64 3 p863 c864 s862) :: (OwnSl eI64 2 p867 c868 s866) :: ex) (fun _ _ => (.s (.s (.s (.s (.s (.s (.s .z)))))))) rfl (.f [] rfl (by kernel_rfl) rfl rfl (fun ex => .fieldAddr underlying27 rfl sizeOf22 rfl (o := 4) rfl rfl rfl .mk) (.f [0] rfl (by kernel_rfl) rfl rfl (fun ex => .load1 isAgg22 rfl (.s (.s .z)) rfl rfl rfl .mk) (.fs [[], []] rfl (by kernel_rfl) ?_)))
     obtain ⟨h902, x903, hx904, hd⟩ := hd
     obtain ⟨b905, o906, cs907, e908, hC909, hr910⟩ := R699.2 _ _ hx904
     cases hr910
     refine .f [2, 3] rfl (by kernel_rfl) rfl rfl (fun ex => .ixa underlying31 sizeOf50 rfl e908 rfl h902 (idx_lt hx904 h902) rfl rfl .mk) (.f [4] rfl (by kernel_rfl) rfl rfl (fun ex => .fieldAddr underlying50 rfl sizeOf3 rfl (o := o906 + s870.toNat * 2) rfl rfl rfl .mk) (.f [5] rfl (by kernel_rfl) rfl rfl (fun ex => .ld1 (j := 0) isAgg3 hC909 rfl rfl rfl rfl rfl .mk) (.w [1, 0] [[], [6], [5, 6], [4, 5, 6], [4, 5, 6]] [6] rfl (by kernel_rfl) (by kernel_rfl) (by kernel_rfl) ((dropE_kept rfl rfl)) (.inr (dropE_kept rfl rfl)) fun ex => ?_)))
     refine .buildSlice 1 underlying22 sizeOf3 zeroValue3 rfl rfl (.c rfl rfl rfl .n) rfl rfl fun b911 => ?_
     refine .some (fun ex => (pto b911 (.cells #[.int .i64 x903.At] 3 (0, 0))) :: (pto b28 (.cells #[.int .i64 0, .int .i64 0, .slice none 0 0, .slice none 0 0, .slice none 0 0, .slice none 0 0] 27 (0, 0))) :: (pto b66 (.cells #[.int .i64 r49.Rows, .int .i64 r49.Cols, .slice p55 r49.Start.length c56, .slice p58 r49.Col.length c59, .slice p61 r49.Val.length c62] 25 (0, 0))) :: (pto b76 (.cells #[.int .i64 r49.Cols, .int .i64 r49.Rows, .slice p714 (s652 ++ ([s668])).length c715, .slice p657 s656.length c658, .slice p863 s862.length c864, .slice p867 s866.length c868] 27 (0, 0))) :: (OwnSl eI64 3 p714 c715 (s652 ++ ([s668]))) :: (OwnSl eI64 3 p657 c658 s656) :: (OwnSl eI64 3 p863 c864 s862) :: (OwnSl eI64 2 p867 c868 s866) :: ex) rfl (fun _ _ => (.s (.s (.s (.s (.s (.s (.s (.s .z))))))))) rfl (.cc [0] rfl (by kernel_rfl) rfl rfl rfl (fun ex => .load1 isAgg22 rfl (.s (.s (.s .z))) rfl rfl rfl .mk) (.cc [] rfl (by kernel_rfl) rfl rfl rfl (fun ex => .fieldAddr underlying27 rfl sizeOf22 rfl (o := 4) rfl rfl rfl .mk) trivial)) (.w [] [[], [1]] [1, 7] rfl (by kernel_rfl) (by kernel_rfl) (by kernel_rfl) ((dropE_kept rfl rfl)) (.inr (dropE_kept rfl rfl)) fun ex => ?_)
     obtain ⟨hl913, hd⟩ := hd
     refine .append (ys := [x903.At]) 8 (.s (.s (.s (.s (.s (.s .z)))))) underlying22 underlying22 IN3 rfl rfl rfl rfl rfl rfl rfl rfl rfl (.box .z (.one rfl) rfl) hl913 rfl rfl fun p914 c915 => ?_
     refine .some (fun ex => (OwnSl eI64 3 p914 c915 (s862 ++ ([x903.At]))) :: (pto b911 (.cells #[.int .i64 x903.At] 3 (0, 0))) :: (pto b28 (.cells #[.int .i64 0, .int .i64 0, .slice none 0 0, .slice none 0 0, .slice none 0 0, .slice none 0 0] 27 (0, 0))) :: (pto b66 (.cells #[.int .i64 r49.Rows, .int .i64 r49.Cols, .slice p55 r49.Start.length c56, .slice p58 r49.Col.length c59, .slice p61 r49.Val.length c62] 25 (0, 0))) :: (pto b76 (.cells #[.int .i64 r49.Cols, .int .i64 r49.Rows, .slice p714 (s652 ++ ([s668])).length c715, .slice p657 s656.length c658, .slice p863 s862.length c864, .slice p867 s866.length c868] 27 (0, 0))) :: (OwnSl eI64 3 p714 c715 (s652 ++ ([s668]))) :: (OwnSl eI64 3 p657 c658 s656) :: (OwnSl eI64 2 p867 c868 s866) :: ex) rfl (fun _ _ => (.s (.s (.s (.s (.s (.s (.s (.s .z))))))))) rfl trivial (.e 9 (by kernel_rfl) (by kernel_rfl) (by kernel_rfl) (.fieldAddr underlying27 rfl sizeOf22 rfl (o := 4) rfl rfl rfl (.store1 sizeOf22 rfl rfl (.s (.s (.s (.s .z)))) (.s (.s (.s (.s (.t .nil))))) rfl (.nilS [7, 6, 5, 4, 3, 2] rfl rfl (.drop (.s .z) (.ownF .z fun hne917 => ?_))))))
     refine .ownF (.s (.s (.s (.s .z)))) fun hne918 => ?_
     refine .ownF (.s (.s (.s (.s (.s .z))))) fun hne919 => ?_
     refine .ownF (.s (.s (.s (.s (.s (.s .z)))))) fun hne920 => ?_
     refine .draw [some 0, some 1, some 2, some 3, some 4, some 5, some 6, some 7, some 8] 9 MX (by kernel_rfl) (by kernel_rfl) (by kernel_rfl) (by kernel_rfl) (by kernel_rfl) (by kernel_rfl) (by kernel_rfl) (fun ex => (OwnSl eI64 3 p914 c915 (s862 ++ ([x903.At]))) :: (pto b28 (.cells #[.int .i64 0, .int .i64 0, .slice none 0 0, .slice none 0 0, .slice none 0 0, .slice none 0 0] 27 (0, 0))) :: (pto b66 (.cells #[.int .i64 r49.Rows, .int .i64 r49.Cols, .slice p55 r49.Start.length c56, .slice p58 r49.Col.length c59, .slice p61 r49.Val.length c62] 25 (0, 0))) :: (pto b76 (.cells #[.int .i64 r49.Cols, .int .i64 r49.Rows, .slice p714 (s652 ++ ([s668])).length c715, .slice p657 s656.length c658, .slice p914 (s862 ++ ([x903.At])).length c915, .slice p867 s866.length c868] 27 (0, 0))) :: (OwnSl eI64 3 p714 c715 (s652 ++ ([s668]))) :: (OwnSl eI64 3 p657 c658 s656) :: (OwnSl eI64 2 p867 c868 s866) :: ex) (fun _ _ => (.s (.s (.s (.s (.s (.s (.s .z)))))))) rfl (.f [] rfl (by kernel_rfl) rfl rfl (fun ex => .fieldAddr underlying27 rfl sizeOf23 rfl (o := 5) rfl rfl rfl .mk) (.f [0] rfl (by kernel_rfl) rfl rfl (fun ex => .load1 isAgg23 rfl (.s (.s (.s .z))) rfl rfl rfl .mk) (.fs [[], []] rfl (by kernel_rfl) ?_)))
     obtain ⟨h921, x922, hx923, hd⟩ := hd
     obtain ⟨b924, o925, cs926, e927, hC928, hr929⟩ := R699.2 _ _ hx923
     cases hr929
     refine .f [2, 3] rfl (by kernel_rfl) rfl rfl (fun ex => .ixa underlying31 sizeOf50 rfl e927 rfl h921 (idx_lt hx923 h921) rfl rfl .mk) (.f [4] rfl (by kernel_rfl) rfl rfl (fun ex => .fieldAddr underlying50 rfl sizeOf2 rfl (o := o925 + s870.toNat * 2 + 1) rfl rfl rfl .mk) (.f [5] rfl (by kernel_rfl) rfl rfl (fun ex => .ld1 (j := 1) isAgg2 hC928 rfl rfl rfl rfl rfl .mk) (.w [1, 0] [[], [6], [5, 6], [4, 5, 6], [4, 5, 6]] [6] rfl (by kernel_rfl) (by kernel_rfl) (by kernel_rfl) ((dropE_kept rfl rfl)) (.inr (dropE_kept rfl rfl)) fun ex => ?_)))
     refine .buildSlice 1 underlying23 sizeOf2 zeroValue2 rfl rfl (.c rfl rfl rfl .n) rfl rfl fun b930 => ?_
     refine .some (fun ex => (pto b930 (.cells #[.int .i64 x922.Val] 2 (0, 0))) :: (OwnSl eI64 3 p914 c915 (s862 ++ ([x903.At]))) :: (pto b28 (.cells #[.int .i64 0, .int .i64 0, .slice none 0 0, .slice none 0 0, .slice none 0 0, .slice none 0 0] 27 (0, 0))) :: (pto b66 (.cells #[.int .i64 r49.Rows, .int .i64 r49.Cols, .slice p55 r49.Start.length c56, .slice p58 r49.Col.length c59, .slice p61 r49.Val.length c62] 25 (0, 0))) :: (pto b76 (.cells #[.int .i64 r49.Cols, .int .i64 r49.Rows, .slice p714 (s652 ++ ([s668])).length c715, .slice p657 s656.length c658, .slice p914 (s862 ++ ([x903.At])).length c915, .slice p867 s866.length c868] 27 (0, 0))) :: (OwnSl eI64 3 p714 c715 (s652 ++ ([s668]))) :: (OwnSl eI64 3 p657 c658 s656) :: (OwnSl eI64 2 p867 c868 s866) :: ex) rfl (fun _ _ => (.s (.s (.s (.s (.s (.s (.s (.s .z))))))))) rfl (.cc [0] rfl (by kernel_rfl) rfl rfl rfl (fun ex => .load1 isAgg23 rfl (.s (.s (.s (.s .z)))) rfl rfl rfl .mk) (.cc [] rfl (by kernel_rfl) rfl rfl rfl (fun ex => .fieldAddr underlying27 rfl sizeOf23 rfl (o := 5) rfl rfl rfl .mk) trivial)) (.w [] [[], [1]] [1, 7] rfl (by kernel_rfl) (by kernel_rfl) (by kernel_rfl) ((dropE_kept rfl rfl)) (.inr (dropE_kept rfl rfl)) fun ex => ?_)
     obtain ⟨hl932, hd⟩ := hd
     refine .append (ys := [x922.Val]) 8 (.s (.s (.s (.s (.s (.s (.s .z))))))) underlying23 underlying23 IN2 rfl rfl rfl rfl rfl rfl rfl rfl rfl (.box .z (.one rfl) rfl) hl932 rfl rfl fun p933 c934 => ?_
     refine .some (fun ex => (OwnSl eI64 2 p933 c934 (s866 ++ ([x922.Val]))) :: (pto b930 (.cells #[.int .i64 x922.Val] 2 (0, 0))) :: (OwnSl eI64 3 p914 c915 (s862 ++ ([x903.At]))) :: (pto b28 (.cells #[.int .i64 0, .int .i64 0, .slice none 0 0, .slice none 0 0, .slice none 0 0, .slice none 0 0] 27 (0, 0))) :: (pto b66 (.cells #[.int .i64 r49.Rows, .int .i64 r49.Cols, .slice p55 r49.Start.length c56, .slice p58 r49.Col.length c59, .slice p61 r49.Val.length c62] 25 (0, 0))) :: (pto b76 (.cells #[.int .i64 r49.Cols, .int .i64 r49.Rows, .slice p714 (s652 ++ ([s668])).length c715, .slice p657 s656.length c658, .slice p914 (s862 ++ ([x903.At])).length c915, .slice p867 s866.length c868] 27 (0, 0))) :: (OwnSl eI64 3 p714 c715 (s652 ++ ([s668]))) :: (OwnSl eI64 3 p657 c658 s656) :: ex) rfl (fun _ _ => (.s (.s (.s (.s (.s (.s (.s (.s .z))))))))) rfl trivial (.e 9 (by kernel_rfl) (by kernel_rfl) (by kernel_rfl) (.fieldAddr underlying27 rfl sizeOf23 rfl (o := 5) rfl rfl rfl (.store1 sizeOf23 rfl rfl (.s (.s (.s (.s (.s .z))))) (.s (.s (.s (.s (.s (.t .nil)))))) rfl (.nilS [7, 6, 5, 4, 3, 2] rfl rfl (.drop (.s .z) (.region (.skips 1 rfl (.add rfl rfl rfl rfl (.sub (E' := [(2, _), (3, _), (4, _), (5, _), (6, _), (38, _), (39, _)]) ⟨rfl, rfl, rfl, rfl, rfl, rfl, rfl, trivial⟩ ?_)))))))))
     exact .skips 1 rfl (.nil' fun c w ho hs => ⟨((s862 ++ ([x903.At])), (s866 ++ ([x922.Val])), w64 (s870 + 1)), hd, I872, _, _, _, _, le876, ho.sub ⟨rfl, rfl, rfl, rfl, rfl, rfl, trivial⟩, hs.pick (.c (.s (.s .z)) (.c (.s (.s .z)) (.c (.s (.s .z)) (.c (.s (.s .z)) (.c (.s (.s .z)) (.c (.s .z) (.c .z .n)))))))⟩)
   refine .exitS [5, 4, 3, 2] rfl rfl (.region (.fieldAddr underlying27 rfl sizeOf22 rfl (o := 3) rfl rfl rfl (.load1 isAgg22 rfl (.s (.s .z)) rfl rfl rfl (.fieldAddr underlying27 rfl sizeOf22 rfl (o := 4) rfl rfl rfl (.load1 isAgg22 rfl (.s (.s .z)) rfl rfl rfl (.len underlying22 rfl rfl rfl rfl (.buildSlice 1 underlying22 sizeOf3 zeroValue3 rfl rfl (.c rfl rfl rfl .n) rfl rfl fun b936 => ?_)))))))
   obtain ⟨hl938, hd⟩ := hd
   refine .append (ys := [(s862.length : Int)]) 8 (.s (.s (.s (.s (.s .z))))) underlying22 underlying22 IN3 rfl rfl rfl rfl rfl rfl rfl rfl rfl (.box .z (.one rfl) rfl) hl938 rfl rfl fun p939 c940 => ?_
   exact .fieldAddr underlying27 rfl sizeOf22 rfl (o := 3) rfl rfl rfl (.store1 sizeOf22 rfl rfl (.s (.s (.s (.s .z)))) (.s (.s (.s (.t .nil)))) rfl (.nilS [5, 4, 3, 2] rfl rfl (.drop (.s .z) (.region (.skips 1 rfl (.add rfl rfl rfl rfl (.sub (E' := [(2, _), (3, _), (4, _), (20, _), (21, _)]) ⟨rfl, rfl, rfl, rfl, rfl, trivial⟩ (.skips 1 rfl (.nil' fun c w ho hs => ⟨((s652 ++ ([s668])), (s656 ++ ([(s862.length : Int)])), s862, s866, w64 (s668 + 1)), hd, I872, _, _, _, _, _, _, _, _, le875, ho.sub ⟨rfl, rfl, rfl, rfl, trivial⟩, hs.pick (.c (.s .z) (.c (.s .z) (.c (.s .z) (.c (.s .z) (.c .z (.c .z (.c .z .n)))))))⟩)))))))))
 refine .exitS [4, 2] rfl rfl (.drop (.s .z) (.seq (.region (.loadW isAgg27 sizeOf27 rfl (.s .z) rfl rfl rfl (.storeA sizeOf27 rfl rfl .z (.t (.t (.t (.t (.t (.t .nil)))))) rfl rfl (.nilS [2] rfl rfl (.drop (.s .z) (.pub (.s .z) fun I942 hl943 R944 => ?_))))))))
 have le945 := IH.le.trans le675 hl943
 have le946 := IH.le.trans le676 hl943
 refine .pub (.s .z) fun I947 hl948 R949 => ?_
 have le950 := IH.le.trans le945 hl948
 have le951 := IH.le.trans le946 hl948
 replace R944 := R944.mono hl948
 refine .pub (.s .z) fun I952 hl953 R954 => ?_
 have le955 := IH.le.trans le950 hl953
 have le956 := IH.le.trans le951 hl953
 replace R944 := R944.mono hl953
 replace R949 := R949.mono hl953
 refine .pub (.s .z) fun I957 hl958 R959 => ?_
 have le960 := IH.le.trans le955 hl958
 have le961 := IH.le.trans le956 hl958
 replace R944 := R944.mono hl958
 replace R949 := R949.mono hl958
 replace R954 := R954.mono hl958
 exact .ret (pret results11 (.w isAgg27 sizeOf27 rfl .z rfl .n) le960 ⟨({ Rows := r49.Cols, Cols := r49.Rows, At := s652, Start := s656, Row := s660, Val := s664 } : Columns), _, _, _, _, _, _, _, _, rfl, R944, R949, R954, R959, hd⟩)

theorem W_ref08_Back {I : IH} {a0 : Columns} {p1 : Option Addr} {c2 : Nat} {p4 : Option Addr} {c5 : Nat} {p7 : Option Addr} {c8 : Nat} {p10 : Option Addr} {c11 : Nat} {Q : Rows → Prop} (R3 : RepSl eI64 I p1 c2 a0.At) (R6 : RepSl eI64 I p4 c5 a0.Start) (R9 : RepSl eI64 I p7 c8 a0.Row) (R12 : RepSl eI64 I p10 c11 a0.Val) (hd : ref08_Back a0 Q) :
    PFun Tryz.prog 16 [.agg #[.int .i64 a0.Rows, .int .i64 a0.Cols, .slice p1 a0.At.length c2, .slice p4 a0.Start.length c5, .slice p7 a0.Row.length c8, .slice p10 a0.Val.length c11]] I (fun I_ v => ∃ r p13 c14 p16 c17 p19 c20, v = .agg #[.int .i64 r.Rows, .int .i64 r.Cols, .slice p13 r.Start.length c14, .slice p16 r.Col.length c17, .slice p19 r.Val.length c20] ∧ RepSl eI64 I_ p13 c14 r.Start ∧ RepSl eI64 I_ p16 c17 r.Col ∧ RepSl eI64 I_ p19 c20 r.Val ∧ Q r) := by
 refine Fun.enter func16 rfl ntmps16 rfl (.c .n) fun w0 M => ?_
 refine .seq (.region (.boxA rfl rfl rfl fun b26 => ?_))
 refine .allocA zeroValue25 rfl rfl fun b28 => ?_
 refine .nilS [2, 1] rfl rfl (.seq (.region (.loadW isAgg27 sizeOf27 rfl (.s .z) rfl rfl rfl ?_)))
 have hw68 := W_ref08_Sure (I := I) R3 R6 R9 R12 hd
 refine .call call18 rfl hw68 rfl rfl fun v54 I51 hl52 hv53 => ?_
 obtain ⟨r50, p56, c57, p59, c60, p62, c63, p65, c66, rfl, R58, R61, R64, R67, hd⟩ := hv53
 have le69 := IH.le.trans (.refl _) hl52
 replace R3 := R3.mono hl52
 replace R6 := R6.mono hl52
 replace R9 := R9.mono hl52
 replace R12 := R12.mono hl52
 refine .storeA sizeOf27 rfl rfl (.s .z) (.t (.t (.t (.t (.t (.t .nil)))))) rfl rfl (.nilS [2, 1] rfl rfl (.seq (.region (.skips 1 rfl (.nilS [3, 2, 1] rfl rfl (.seq ?_))))))
 refine Cod.joinQ (σ := (List Triple)) hd (fun (s1380 : (List Triple)) c w => ∃ I_ p1381 c1382, IH.le I51 I_ ∧ Ok ⟨69, [], none⟩ [(1, .pointer (some ⟨b26, 0, none⟩)), (2, .pointer (some ⟨b28, 0, none⟩)), (3, .slice p1381 s1380.length c1382)] c ∧ Sym w0 M I I_ [pto b26 (.cells #[.int .i64 r50.Rows, .int .i64 r50.Cols, .slice p56 r50.At.length c57, .slice p59 r50.Start.length c60, .slice p62 r50.Row.length c63, .slice p65 r50.Val.length c66] 27 (0, 0)), pto b28 (.cells #[.int .i64 0, .int .i64 0, .slice none 0 0, .slice none 0 0, .slice none 0 0] 25 (0, 0)), OwnSl eTriple 47 p1381 c1382 s1380] w) (fun k1384 hd => ?_) ?_
 · skip
   refine .seq (.region (.skips 1 rfl (.nilS [4, 3, 2, 1] rfl rfl (.block (.own0 eTriple 47 (.loop hd (fun (s : (List Triple) × Int) c w => match s with | (s1819, s1823) => ∃ I_ p1820 c1821, IH.le I51 I_ ∧ Ok ⟨69, [], none⟩ [(1, .pointer (some ⟨b26, 0, none⟩)), (2, .pointer (some ⟨b28, 0, none⟩)), (3, .slice p1820 s1819.length c1821), (4, .int .i64 s1823)] c ∧ Sym w0 M I I_ [pto b26 (.cells #[.int .i64 r50.Rows, .int .i64 r50.Cols, .slice p56 r50.At.length c57, .slice p59 r50.Start.length c60, .slice p62 r50.Row.length c63, .slice p65 r50.Val.length c66] 27 (0, 0)), pto b28 (.cells #[.int .i64 0, .int .i64 0, .slice none 0 0, .slice none 0 0, .slice none 0 0] 25 (0, 0)), OwnSl eTriple 47 p1820 c1821 s1819] w) (fun c w ho hs => ⟨I51, _, _, (.refl _), ho.sub ⟨rfl, rfl, rfl, rfl, trivial⟩, hs.pick (.c (.s (.s .z)) (.c (.s .z) (.c .z .n)))⟩) ?_))))))
   rintro ⟨s1819, s1823⟩ next1825 hd c w hst
   obtain ⟨I1826, p1820, c1821, hl1827, hok, hsym⟩ := hst
   have le1828 := IH.le.trans le69 hl1827
   have le1829 := IH.le.trans (.refl _) hl1827
   replace R58 := R58.mono hl1827
   replace R61 := R61.mono hl1827
   replace R64 := R64.mono hl1827
   replace R67 := R67.mono hl1827
   refine Cod.at hok hsym (.seq (.seq (.region (.skips 1 rfl (.fieldAddr underlying27 rfl sizeOf22 rfl (o := 2) rfl rfl rfl (.load1 isAgg22 rfl .z rfl rfl rfl (.len underlying22 rfl rfl rfl rfl (.lt rfl rfl rfl rfl (.skips 1 rfl ?_)))))))))
   refine splitP hd (fun hb1832 hd => ?_) fun hb1832 hd => ?_
   · rw [hb1832]
     refine .gyes rfl rfl rfl (.move rfl rfl rfl (.gyes rfl rfl rfl (.add rfl rfl rfl rfl (.gyes rfl rfl rfl (.fieldAddr underlying27 rfl sizeOf22 rfl (o := 3) rfl rfl rfl (.gyes rfl rfl rfl (.load1 isAgg22 rfl .z rfl rfl rfl (.gyes rfl rfl rfl (.len underlying22 rfl rfl rfl rfl (.gyes rfl rfl rfl (.lt rfl rfl rfl rfl (.skips 1 rfl (.nilS [22, 4, 3, 2, 1] rfl rfl (.condP rfl hd (fun hb1833 hd => ?_) fun hb1833 hd => ?_))))))))))))))
     · refine .skipS [4, 3, 2, 1] rfl rfl (.seq (.block (.seq (.region (.fieldAddr underlying27 rfl sizeOf22 rfl (o := 3) rfl rfl rfl (.load1 isAgg22 rfl .z rfl rfl rfl (.skips 1 rfl ?_)))))))
       obtain ⟨h1843, x1844, hx1845, hd⟩ := hd
       obtain ⟨b1846, o1847, cs1848, e1849, hC1850, hr1851⟩ := R61.2 _ _ hx1845
       cases hr1851
       refine .ixa underlying22 sizeOf3 rfl e1849 rfl h1843 (idx_lt hx1845 h1843) rfl rfl (.ld1 (j := 0) isAgg3 hC1850 rfl rfl rfl rfl rfl (.skips 1 rfl (.nilS [5, 4, 3, 2, 1] rfl rfl (.block (.loop hd (fun (s : (List Triple) × Int) c w => match s with | (s1975, s1979) => ∃ I_ p1976 c1977, IH.le I1826 I_ ∧ Ok ⟨69, [], none⟩ [(1, .pointer (some ⟨b26, 0, none⟩)), (2, .pointer (some ⟨b28, 0, none⟩)), (3, .slice p1976 s1975.length c1977), (4, .int .i64 s1823), (5, .int .i64 s1979)] c ∧ Sym w0 M I I_ [pto b26 (.cells #[.int .i64 r50.Rows, .int .i64 r50.Cols, .slice p56 r50.At.length c57, .slice p59 r50.Start.length c60, .slice p62 r50.Row.length c63, .slice p65 r50.Val.length c66] 27 (0, 0)), pto b28 (.cells #[.int .i64 0, .int .i64 0, .slice none 0 0, .slice none 0 0, .slice none 0 0] 25 (0, 0)), OwnSl eTriple 47 p1976 c1977 s1975] w) (fun c w ho hs => ⟨I1826, _, _, (.refl _), ho.sub ⟨rfl, rfl, rfl, rfl, rfl, trivial⟩, hs.pick (.c .z (.c .z (.c .z .n)))⟩) ?_)))))
       rintro ⟨s1975, s1979⟩ next1980 hd c w hst
       obtain ⟨I1981, p1976, c1977, hl1982, hok, hsym⟩ := hst
       have le1983 := IH.le.trans le1828 hl1982
       have le1984 := IH.le.trans le1829 hl1982
       have le1985 := IH.le.trans (.refl _) hl1982
       replace R58 := R58.mono hl1982
       replace R61 := R61.mono hl1982
       replace R64 := R64.mono hl1982
       replace R67 := R67.mono hl1982
       refine Cod.at hok hsym (.seq (.seq (.region (.skips 1 rfl (.fieldAddr underlying27 rfl sizeOf22 rfl (o := 3) rfl rfl rfl (.load1 isAgg22 rfl .z rfl rfl rfl (.skips 1 rfl (.add rfl rfl rfl rfl ?_))))))))
       obtain ⟨h1996, x1997, hx1998, hd⟩ := hd
       obtain ⟨b1999, o2000, cs2001, e2002, hC2003, hr2004⟩ := R61.2 _ _ hx1998
       cases hr2004
       refine .ixa underlying22 sizeOf3 rfl e2002 rfl h1996 (idx_lt hx1998 h1996) rfl rfl (.ld1 (j := 0) isAgg3 hC2003 rfl rfl rfl rfl rfl (.lt rfl rfl rfl rfl (.nilS [37, 5, 4, 3, 2, 1] rfl rfl (.condP rfl hd (fun hb2005 hd => ?_) fun hb2005 hd => ?_))))
       · refine .skipS [5, 4, 3, 2, 1] rfl rfl (.seq (.block (.ownF (.s (.s .z)) fun hne2006 => ?_)))
         refine .draw [some 0, some 1, some 2, some 3, some 4, some 5, some 6, some 7, some 8, some 9, some 10, some 11, some 12, some 13, some 14, some 15, some 16, some 17, some 18] 19 MX (by kernel_rfl) (by kernel_rfl) (by kernel_rfl) (by kernel_rfl) (by kernel_rfl) (by kernel_rfl) (by kernel_rfl) (fun ex => (pto b26 (.cells #[.int .i64 r50.Rows, .int .i64 r50.Cols, .slice p56 r50.At.length c57, .slice p59 r50.Start.length c60, .slice p62 r50.Row.length c63, .slice p65 r50.Val.length c66] 27 (0, 0))) :: (pto b28 (.cells #[.int .i64 0, .int .i64 0, .slice none 0 0, .slice none 0 0, .slice none 0 0] 25 (0, 0))) :: (OwnSl eTriple 47 p1976 c1977 s1975) :: ex) (fun _ _ => (.s (.s (.s .z)))) rfl (.fs [[]] rfl (by kernel_rfl) (.f [] rfl (by kernel_rfl) rfl rfl (fun ex => .fieldAddr underlying27 rfl sizeOf22 rfl (o := 4) rfl rfl rfl .mk) (.f [1] rfl (by kernel_rfl) rfl rfl (fun ex => .load1 isAgg22 rfl .z rfl rfl rfl .mk) (.fs [[]] rfl (by kernel_rfl) ?_))))
         obtain ⟨h2007, x2008, hx2009, hd⟩ := hd
         obtain ⟨b2010, o2011, cs2012, e2013, hC2014, hr2015⟩ := R64.2 _ _ hx2009
         cases hr2015
         refine .f [2, 3] rfl (by kernel_rfl) rfl rfl (fun ex => .ixa underlying22 sizeOf3 rfl e2013 rfl h2007 (idx_lt hx2009 h2007) rfl rfl .mk) (.f [4] rfl (by kernel_rfl) rfl rfl (fun ex => .ld1 (j := 0) isAgg3 hC2014 rfl rfl rfl rfl rfl .mk) (.f [] rfl (by kernel_rfl) rfl rfl (fun ex => .fieldAddr underlying27 rfl sizeOf22 rfl (o := 2) rfl rfl rfl .mk) (.f [6] rfl (by kernel_rfl) rfl rfl (fun ex => .load1 isAgg22 rfl .z rfl rfl rfl .mk) (.fs [[]] rfl (by kernel_rfl) ?_))))
         obtain ⟨h2016, x2017, hx2018, hd⟩ := hd
         obtain ⟨b2019, o2020, cs2021, e2022, hC2023, hr2024⟩ := R58.2 _ _ hx2018
         cases hr2024
         refine .f [7, 8] rfl (by kernel_rfl) rfl rfl (fun ex => .ixa underlying22 sizeOf3 rfl e2022 rfl h2016 (idx_lt hx2018 h2016) rfl rfl .mk) (.f [9] rfl (by kernel_rfl) rfl rfl (fun ex => .ld1 (j := 0) isAgg3 hC2023 rfl rfl rfl rfl rfl .mk) (.f [] rfl (by kernel_rfl) rfl rfl (fun ex => .fieldAddr underlying27 rfl sizeOf23 rfl (o := 5) rfl rfl rfl .mk) (.f [11] rfl (by kernel_rfl) rfl rfl (fun ex => .load1 isAgg23 rfl .z rfl rfl rfl .mk) (.fs [[]] rfl (by kernel_rfl) ?_))))
         obtain ⟨h2025, x2026, hx2027, hd⟩ := hd
         obtain ⟨b2028, o2029, cs2030, e2031, hC2032, hr2033⟩ := R67.2 _ _ hx2027
         cases hr2033
         refine .f [12, 13] rfl (by kernel_rfl) rfl rfl (fun ex => .ixa underlying23 sizeOf2 rfl e2031 rfl h2025 (idx_lt hx2027 h2025) rfl rfl .mk) (.f [14] rfl (by kernel_rfl) rfl rfl (fun ex => .ld1 (j := 0) isAgg2 hC2032 rfl rfl rfl rfl rfl .mk) (.f [5, 10, 15] rfl (by kernel_rfl) rfl rfl (fun ex => .build zeroValue47 underlying47 BI47 (.c rfl rfl rfl (.t .nil) (.c rfl rfl rfl (.s (.t .nil)) (.c rfl rfl rfl (.s (.s (.t .nil))) .n))) (by exact ⟨⟨_, _, rfl, rfl, rfl⟩, ⟨⟨_, _, rfl, rfl, rfl⟩, ⟨⟨_, _, rfl, rfl, rfl⟩, trivial⟩⟩⟩) rfl rfl .mk) (.w [0] [[], [16], [15, 16], [14, 15, 16], [14, 15, 16], [12, 14, 15, 16], [16], [10, 16], [9, 10, 16], [9, 10, 16], [7, 9, 10, 16], [16], [5, 16], [4, 5, 16], [4, 5, 16], [2, 4, 5, 16]] [16] rfl (by kernel_rfl) (by kernel_rfl) (by kernel_rfl) ((dropE_kept rfl rfl)) (.inr (dropE_kept rfl rfl)) fun ex => ?_)))
         refine .buildSlice 1 underlying48 sizeOf47 zeroValue47 rfl rfl (.c rfl rfl rfl .n) rfl rfl fun b2034 => ?_
         refine .some (fun ex => (pto b2034 (.cells #[.int .i64 x2008, .int .i64 x2017, .int .i64 x2026] 47 (0, 0))) :: (pto b26 (.cells #[.int .i64 r50.Rows, .int .i64 r50.Cols, .slice p56 r50.At.length c57, .slice p59 r50.Start.length c60, .slice p62 r50.Row.length c63, .slice p65 r50.Val.length c66] 27 (0, 0))) :: (pto b28 (.cells #[.int .i64 0, .int .i64 0, .slice none 0 0, .slice none 0 0, .slice none 0 0] 25 (0, 0))) :: (OwnSl eTriple 47 p1976 c1977 s1975) :: ex) rfl (fun _ _ => (.s (.s (.s (.s .z))))) rfl (.ccs [[]] rfl rfl (by kernel_rfl) trivial) (.w [] [[]] [0, 17] rfl (by kernel_rfl) (by kernel_rfl) (by kernel_rfl) ((dropE_kept rfl rfl)) (.inr (dropE_kept rfl rfl)) fun ex => ?_)
         obtain ⟨hl2036, hd⟩ := hd
         refine .append (ys := [({ Row := x2008, Col := x2017, Val := x2026 } : Triple)]) 24 (.s (.s (.s .z))) underlying48 underlying48 IN47 rfl rfl rfl rfl rfl rfl rfl rfl rfl (.box .z (.one rfl) rfl) hl2036 rfl rfl fun p2037 c2038 => ?_
         refine .some (fun ex => (OwnSl eTriple 47 p2037 c2038 (s1975 ++ ([({ Row := x2008, Col := x2017, Val := x2026 } : Triple)]))) :: (pto b2034 (.cells #[.int .i64 x2008, .int .i64 x2017, .int .i64 x2026] 47 (0, 0))) :: (pto b26 (.cells #[.int .i64 r50.Rows, .int .i64 r50.Cols, .slice p56 r50.At.length c57, .slice p59 r50.Start.length c60, .slice p62 r50.Row.length c63, .slice p65 r50.Val.length c66] 27 (0, 0))) :: (pto b28 (.cells #[.int .i64 0, .int .i64 0, .slice none 0 0, .slice none 0 0, .slice none 0 0] 25 (0, 0))) :: ex) rfl (fun _ _ => (.s (.s (.s (.s .z))))) rfl trivial (.e 19 (by kernel_rfl) (by kernel_rfl) (by kernel_rfl) (.sub (E' := [(1, _), (2, _), (4, _), (5, _), (40, _), (41, _), (42, _), (43, _), (44, _), (45, _), (46, _), (47, _), (48, _), (49, _), (50, _), (51, _), (52, _), (53, _), (54, _), (55, _), (56, _), (57, _), (58, _)]) ⟨rfl, rfl, rfl, rfl, rfl, rfl, rfl, rfl, rfl, rfl, rfl, rfl, rfl, rfl, rfl, rfl, rfl, rfl, rfl, rfl, rfl, rfl, rfl, trivial⟩ (.skips 1 rfl (.nilS [3, 5, 4, 2, 1] rfl rfl (.drop (.s .z) (.region (.skips 1 rfl (.add rfl rfl rfl rfl (.sub (E' := [(1, _), (2, _), (4, _), (3, _), (38, _), (39, _)]) ⟨rfl, rfl, rfl, rfl, rfl, rfl, trivial⟩ ?_)))))))))
         exact .skips 1 rfl (.nil' fun c w ho hs => ⟨((s1975 ++ ([({ Row := x2008, Col := x2017, Val := x2026 } : Triple)])), w64 (s1979 + 1)), hd, I1981, _, _, le1985, ho.sub ⟨rfl, rfl, rfl, rfl, rfl, trivial⟩, hs.pick (.c (.s .z) (.c (.s .z) (.c .z .n)))⟩)
       exact .exitS [4, 3, 2, 1] rfl rfl (.region (.skips 1 rfl (.add rfl rfl rfl rfl (.sub (E' := [(1, _), (2, _), (3, _), (23, _), (24, _)]) ⟨rfl, rfl, rfl, rfl, rfl, trivial⟩ (.skips 1 rfl (.nil' fun c w ho hs => ⟨(s1975, w64 (s1823 + 1)), hd, I1981, _, _, le1984, ho.sub ⟨rfl, rfl, rfl, rfl, trivial⟩, hs.pick (.c .z (.c .z (.c .z .n)))⟩))))))
     exact .exit fun c w ho hs => ⟨s1819, hd, I1826, _, _, le1829, ho.sub ⟨rfl, rfl, rfl, trivial⟩, hs.pick (.c .z (.c .z (.c .z .n)))⟩
   rw [hb1832]
   exact .skips 7 rfl (.nilS [22, 4, 3, 2, 1] rfl rfl (.condKF rfl rfl (.exit fun c w ho hs => ⟨s1819, hd, I1826, _, _, le1829, ho.sub ⟨rfl, rfl, rfl, trivial⟩, hs.pick (.c .z (.c .z (.c .z .n)))⟩)))
 rintro s1380 hd c w hst
 obtain ⟨I2040, p1381, c1382, hl2041, hok, hsym⟩ := hst
 have le2042 := IH.le.trans le69 hl2041
 have le2043 := IH.le.trans (.refl _) hl2041
 replace R58 := R58.mono hl2041
 replace R61 := R61.mono hl2041
 replace R64 := R64.mono hl2041
 replace R67 := R67.mono hl2041
 refine Cod.at hok hsym (.seq (.region (.fieldAddr underlying27 rfl sizeOf3 rfl (o := 0) rfl rfl rfl (.load1 isAgg3 rfl .z rfl rfl rfl (.fieldAddr underlying27 rfl sizeOf3 rfl (o := 1) rfl rfl rfl (.load1 isAgg3 rfl .z rfl rfl rfl (.skips 1 rfl (.pub (.s (.s .z)) fun I2044 hl2045 R2046 => ?_))))))))
 have le2047 := IH.le.trans le2042 hl2045
 have le2048 := IH.le.trans le2043 hl2045
 replace R58 := R58.mono hl2045
 replace R61 := R61.mono hl2045
 replace R64 := R64.mono hl2045
 replace R67 := R67.mono hl2045
 have hw2064 := W_ref07_Of (I := I2044) R2046 hd
 refine .call call22 rfl hw2064 rfl rfl fun v2053 I2050 hl2051 hv2052 => ?_
 obtain ⟨r2049, p2055, c2056, p2058, c2059, p2061, c2062, rfl, R2057, R2060, R2063, hd⟩ := hv2052
 have le2065 := IH.le.trans le2047 hl2051
 have le2066 := IH.le.trans le2048 hl2051
 replace R58 := R58.mono hl2051
 replace R61 := R61.mono hl2051
 replace R64 := R64.mono hl2051
 replace R67 := R67.mono hl2051
 replace R2046 := R2046.mono hl2051
 refine .skips 1 rfl (.extract rfl rfl rfl rfl (.extract rfl rfl rfl rfl (.allocA zeroValue25 rfl rfl fun b2067 => ?_)))
 refine .storeA sizeOf25 rfl rfl .z (.t (.t (.t (.t (.t .nil))))) rfl rfl (.skips 1 rfl (.nilS [6, 2] rfl rfl (.drop (.s .z) (.seq (.region (.loadW isAgg25 sizeOf25 rfl .z rfl rfl rfl (.storeA sizeOf25 rfl rfl (.s .z) (.t (.t (.t (.t (.t .nil))))) rfl rfl (.nilS [2] rfl rfl (.drop .z ?_)))))))))
 exact .ret (pret results16 (.w isAgg25 sizeOf25 rfl .z rfl .n) le2065 ⟨r2049.1, _, _, _, _, _, _, rfl, R2057, R2060, R2063, hd⟩)

theorem W_ref08_Work {I : IH} {a0 : Columns} {a1 : List Int} {p1 : Option Addr} {c2 : Nat} {p4 : Option Addr} {c5 : Nat} {p7 : Option Addr} {c8 : Nat} {p10 : Option Addr} {c11 : Nat} {p13 : Option Addr} {c14 : Nat} {Q : Int → Prop} (R3 : RepSl eI64 I p1 c2 a0.At) (R6 : RepSl eI64 I p4 c5 a0.Start) (R9 : RepSl eI64 I p7 c8 a0.Row) (R12 : RepSl eI64 I p10 c11 a0.Val) (R15 : RepSl eI64 I p13 c14 a1) (hd : ref08_Work a0 a1 Q) :
    PFun Tryz.prog 21 [.agg #[.int .i64 a0.Rows, .int .i64 a0.Cols, .slice p1 a0.At.length c2, .slice p4 a0.Start.length c5, .slice p7 a0.Row.length c8, .slice p10 a0.Val.length c11], .slice p13 a1.length c14] I (fun I_ v => ∃ r, v = .int .i64 r ∧ Q r) := by
 refine Fun.enter func21 rfl ntmps21 rfl (.c (.c .n)) fun w0 M => ?_
 refine .seq (.region (.boxA rfl rfl rfl fun b18 => ?_))
 refine .skips 1 rfl (.nilS [2, 1] rfl rfl (.seq (.region (.skips 1 rfl (.nilS [5, 2, 1] rfl rfl (.seq (.seq (.region (.skips 1 rfl ?_)))))))))
 refine .nilS [6, 5, 2, 1] rfl rfl (.block (.loop hd (fun (s : Int × Int) c w => match s with | (s70, s71) => ∃ I_, IH.le I I_ ∧ Ok ⟨23, [], none⟩ [(1, .slice p13 a1.length c14), (2, .pointer (some ⟨b18, 0, none⟩)), (5, .int .i64 s70), (6, .int .i64 s71)] c ∧ Sym w0 M I I_ [pto b18 (.cells #[.int .i64 a0.Rows, .int .i64 a0.Cols, .slice p1 a0.At.length c2, .slice p4 a0.Start.length c5, .slice p7 a0.Row.length c8, .slice p10 a0.Val.length c11] 27 (0, 0))] w) (fun c w ho hs => ⟨I, (.refl _), ho.sub ⟨rfl, rfl, rfl, rfl, trivial⟩, hs.pick (.c .z .n)⟩) ?_))
 rintro ⟨s70, s71⟩ next72 hd c w hst
 obtain ⟨I73, hl74, hok, hsym⟩ := hst
 have le75 := IH.le.trans (.refl _) hl74
 replace R3 := R3.mono hl74
 replace R6 := R6.mono hl74
 replace R9 := R9.mono hl74
 replace R12 := R12.mono hl74
 replace R15 := R15.mono hl74
 refine Cod.at hok hsym (.seq (.seq (.region (.skips 2 rfl (.len underlying22 rfl rfl rfl rfl (.lt rfl rfl rfl rfl (.nilS [10, 6, 5, 2, 1] rfl rfl (.condP rfl hd (fun hb77 hd => ?_) fun hb77 hd => ?_))))))))
 · refine .skipS [6, 5, 2, 1] rfl rfl (.seq (.block (.draw [some 0, some 1, some 2, some 3, some 4, some 5, some 6, some 7, some 8] 9 MX (by kernel_rfl) (by kernel_rfl) (by kernel_rfl) (by kernel_rfl) (by kernel_rfl) (by kernel_rfl) (by kernel_rfl) (fun ex => (pto b18 (.cells #[.int .i64 a0.Rows, .int .i64 a0.Cols, .slice p1 a0.At.length c2, .slice p4 a0.Start.length c5, .slice p7 a0.Row.length c8, .slice p10 a0.Val.length c11] 27 (0, 0))) :: ex) (fun _ _ => (.s .z)) rfl (.fs [[]] rfl (by kernel_rfl) (.f [] rfl (by kernel_rfl) rfl rfl (fun ex => .loadW isAgg27 sizeOf27 rfl .z rfl rfl rfl .mk) (.fs [[], []] rfl (by kernel_rfl) ?_))))))
   obtain ⟨h78, x79, hx80, hd⟩ := hd
   obtain ⟨b81, o82, cs83, e84, hC85, hr86⟩ := R15.2 _ _ hx80
   cases hr86
   refine .f [2, 3] rfl (by kernel_rfl) rfl rfl (fun ex => .ixa underlying22 sizeOf3 rfl e84 rfl h78 (idx_lt hx80 h78) rfl rfl .mk) (.f [4] rfl (by kernel_rfl) rfl rfl (fun ex => .ld1 (j := 0) isAgg3 hC85 rfl rfl rfl rfl rfl .mk) (.w [0] [[], [5], [4, 5], [4, 5], []] [1, 5] rfl (by kernel_rfl) (by kernel_rfl) (by kernel_rfl) ((dropE_kept rfl rfl)) (.inr (dropE_kept rfl rfl)) fun ex => ?_))
   have hw96 := W_ref08_Column (I := I73) R3 R6 R9 R12 hd
   refine .call call8 rfl hw96 rfl rfl fun v91 I88 hl89 hv90 => ?_
   obtain ⟨r87, p93, c94, rfl, R95, hd⟩ := hv90
   have le97 := IH.le.trans le75 hl89
   replace R3 := R3.mono hl89
   replace R6 := R6.mono hl89
   replace R9 := R9.mono hl89
   replace R12 := R12.mono hl89
   replace R15 := R15.mono hl89
   replace hC85 := hC85.mono hl89
   refine .some (fun ex => (pto b18 (.cells #[.int .i64 a0.Rows, .int .i64 a0.Cols, .slice p1 a0.At.length c2, .slice p4 a0.Start.length c5, .slice p7 a0.Row.length c8, .slice p10 a0.Val.length c11] 27 (0, 0))) :: ex) rfl (fun _ _ => (.s .z)) rfl (.ccs [[]] rfl rfl (by kernel_rfl) trivial) (.f [6] rfl (by kernel_rfl) rfl rfl (fun ex => .len underlying31 rfl rfl rfl rfl .mk) (.f [0, 7] rfl (by kernel_rfl) rfl rfl (fun ex => .add rfl rfl rfl rfl .mk) (.e 9 (by kernel_rfl) (by kernel_rfl) (by kernel_rfl) (.sub (E' := [(1, _), (2, _), (6, _), (13, _), (14, _), (15, _), (16, _), (17, _), (18, _), (19, _), (20, _), (21, _)]) ⟨rfl, rfl, rfl, rfl, rfl, rfl, rfl, rfl, rfl, rfl, rfl, rfl, trivial⟩ (.skips 1 rfl (.nilS [5, 6, 2, 1] rfl rfl (.region (.skips 1 rfl (.add rfl rfl rfl rfl ?_)))))))))
   exact .sub (E' := [(1, _), (2, _), (5, _), (11, _), (12, _)]) ⟨rfl, rfl, rfl, rfl, rfl, trivial⟩ (.skips 1 rfl (.nil' fun c w ho hs => ⟨(w64 (s70 + (r87.length : Int)), w64 (s71 + 1)), hd, I88, le97, ho.sub ⟨rfl, rfl, rfl, rfl, trivial⟩, hs.pick (.c .z .n)⟩))
 exact .exitS [5] rfl rfl (.drop .z (.seq (.region (.skips 2 rfl (.nilS [4] rfl rfl (.ret (pret results21 (.t rfl .n) le75 ⟨s70, rfl, hd⟩)))))))

theorem W_law08_DcscOf {I : IH} {a0 : Rows} {a1 : Columns} {a2 : List Int} {p1 : Option Addr} {c2 : Nat} {p4 : Option Addr} {c5 : Nat} {p7 : Option Addr} {c8 : Nat} {p10 : Option Addr} {c11 : Nat} {p13 : Option Addr} {c14 : Nat} {p16 : Option Addr} {c17 : Nat} {p19 : Option Addr} {c20 : Nat} {p22 : Option Addr} {c23 : Nat} {Q : Bool → Prop} (R3 : RepSl eI64 I p1 c2 a0.Start) (R6 : RepSl eI64 I p4 c5 a0.Col) (R9 : RepSl eI64 I p7 c8 a0.Val) (R12 : RepSl eI64 I p10 c11 a1.At) (R15 : RepSl eI64 I p13 c14 a1.Start) (R18 : RepSl eI64 I p16 c17 a1.Row) (R21 : RepSl eI64 I p19 c20 a1.Val) (R24 : RepSl eI64 I p22 c23 a2) (hd : law08_DcscOf a0 a1 a2 Q) :
    PFun Tryz.prog 3 [.agg #[.int .i64 a0.Rows, .int .i64 a0.Cols, .slice p1 a0.Start.length c2, .slice p4 a0.Col.length c5, .slice p7 a0.Val.length c8], .agg #[.int .i64 a1.Rows, .int .i64 a1.Cols, .slice p10 a1.At.length c11, .slice p13 a1.Start.length c14, .slice p16 a1.Row.length c17, .slice p19 a1.Val.length c20], .slice p22 a2.length c23] I (fun I_ v => ∃ r, v = .bool r ∧ Q r) := by
 refine Fun.enter func3 rfl ntmps3 rfl (.c (.c (.c .n))) fun w0 M => ?_
 refine .seq (.region (.boxA rfl rfl rfl fun b29 => ?_))
 refine .boxA rfl rfl rfl fun b31 => ?_
 refine .skips 1 rfl (.nilS [4, 3, 2] rfl rfl (.seq ?_))
 refine Cod.joinQ (σ := Unit) hd (fun (_ : Unit) c w => ∃ I_, IH.le I I_ ∧ Ok ⟨132, [], none⟩ [(2, .slice p22 a2.length c23), (3, .pointer (some ⟨b29, 0, none⟩)), (4, .pointer (some ⟨b31, 0, none⟩))] c ∧ Sym w0 M I I_ [pto b29 (.cells #[.int .i64 a0.Rows, .int .i64 a0.Cols, .slice p1 a0.Start.length c2, .slice p4 a0.Col.length c5, .slice p7 a0.Val.length c8] 25 (0, 0)), pto b31 (.cells #[.int .i64 a1.Rows, .int .i64 a1.Cols, .slice p10 a1.At.length c11, .slice p13 a1.Start.length c14, .slice p16 a1.Row.length c17, .slice p19 a1.Val.length c20] 27 (0, 0))] w) (fun k133 hd => ?_) ?_
 · skip
   refine .seq (.region (.fieldAddr underlying25 rfl sizeOf22 rfl (o := 2) rfl rfl rfl (.load1 isAgg22 rfl (.s .z) rfl rfl rfl (.len underlying22 rfl rfl rfl rfl (.gt rfl rfl rfl rfl (.skips 1 rfl ?_))))))
   refine splitP hd (fun hb134 hd => ?_) fun hb134 hd => ?_
   · rw [hb134]
     refine .skips 45 rfl (.gnoU rfl rfl rfl rfl (.gnoU rfl rfl rfl rfl (.skips 2 rfl (.nilS [61, 4, 3, 2] rfl rfl (.condKT rfl rfl (.seq (.region ?_)))))))
     have hw136 := W_law08_live (I := I) hd
     refine .callP call5 rfl hw136 rfl rfl fun v137 hv138 => ?_
     obtain ⟨r135, rfl, hd⟩ := hv138
     exact .skips 1 rfl (.nilS [6] rfl rfl (.drop .z (.drop .z (.ret (pret results3 (.t rfl .n) (.refl _) ⟨r135, rfl, hd⟩)))))
   rw [hb134]
   refine .gyes rfl rfl rfl (.fieldAddr underlying25 rfl sizeOf22 rfl (o := 3) rfl rfl rfl (.gyes rfl rfl rfl (.load1 isAgg22 rfl (.s .z) rfl rfl rfl (.gyes rfl rfl rfl (.len underlying22 rfl rfl rfl rfl (.gyes rfl rfl rfl (.gt rfl rfl rfl rfl (.skips 2 rfl ?_))))))))
   refine splitP hd (fun hb139 hd => ?_) fun hb139 hd => ?_
   · rw [hb139]
     refine .skips 39 rfl (.gnoU rfl rfl rfl rfl (.gnoU rfl rfl rfl rfl (.skips 2 rfl (.nilS [61, 4, 3, 2] rfl rfl (.condKT rfl rfl (.seq (.region ?_)))))))
     have hw141 := W_law08_live (I := I) hd
     refine .callP call5 rfl hw141 rfl rfl fun v142 hv143 => ?_
     obtain ⟨r140, rfl, hd⟩ := hv143
     exact .skips 1 rfl (.nilS [6] rfl rfl (.drop .z (.drop .z (.ret (pret results3 (.t rfl .n) (.refl _) ⟨r140, rfl, hd⟩)))))
   rw [hb139]
   refine .gyes rfl rfl rfl (.fieldAddr underlying25 rfl sizeOf23 rfl (o := 4) rfl rfl rfl (.gyes rfl rfl rfl (.load1 isAgg23 rfl (.s .z) rfl rfl rfl (.gyes rfl rfl rfl (.len underlying23 rfl rfl rfl rfl (.gyes rfl rfl rfl (.gt rfl rfl rfl rfl (.skips 2 rfl ?_))))))))
   refine splitP hd (fun hb144 hd => ?_) fun hb144 hd => ?_
   · rw [hb144]
     refine .skips 33 rfl (.gnoU rfl rfl rfl rfl (.gnoU rfl rfl rfl rfl (.skips 2 rfl (.nilS [61, 4, 3, 2] rfl rfl (.condKT rfl rfl (.seq (.region ?_)))))))
     have hw146 := W_law08_live (I := I) hd
     refine .callP call5 rfl hw146 rfl rfl fun v147 hv148 => ?_
     obtain ⟨r145, rfl, hd⟩ := hv148
     exact .skips 1 rfl (.nilS [6] rfl rfl (.drop .z (.drop .z (.ret (pret results3 (.t rfl .n) (.refl _) ⟨r145, rfl, hd⟩)))))
   rw [hb144]
   refine .gyes rfl rfl rfl (.fieldAddr underlying27 rfl sizeOf22 rfl (o := 2) rfl rfl rfl (.gyes rfl rfl rfl (.load1 isAgg22 rfl .z rfl rfl rfl (.gyes rfl rfl rfl (.len underlying22 rfl rfl rfl rfl (.gyes rfl rfl rfl (.gt rfl rfl rfl rfl (.skips 2 rfl ?_))))))))
   refine splitP hd (fun hb149 hd => ?_) fun hb149 hd => ?_
   · rw [hb149]
     refine .skips 27 rfl (.gnoU rfl rfl rfl rfl (.gnoU rfl rfl rfl rfl (.skips 2 rfl (.nilS [61, 4, 3, 2] rfl rfl (.condKT rfl rfl (.seq (.region ?_)))))))
     have hw151 := W_law08_live (I := I) hd
     refine .callP call5 rfl hw151 rfl rfl fun v152 hv153 => ?_
     obtain ⟨r150, rfl, hd⟩ := hv153
     exact .skips 1 rfl (.nilS [6] rfl rfl (.drop .z (.drop .z (.ret (pret results3 (.t rfl .n) (.refl _) ⟨r150, rfl, hd⟩)))))
   rw [hb149]
   refine .gyes rfl rfl rfl (.fieldAddr underlying27 rfl sizeOf22 rfl (o := 3) rfl rfl rfl (.gyes rfl rfl rfl (.load1 isAgg22 rfl .z rfl rfl rfl (.gyes rfl rfl rfl (.len underlying22 rfl rfl rfl rfl (.gyes rfl rfl rfl (.gt rfl rfl rfl rfl (.skips 2 rfl ?_))))))))
   refine splitP hd (fun hb154 hd => ?_) fun hb154 hd => ?_
   · rw [hb154]
     refine .skips 21 rfl (.gnoU rfl rfl rfl rfl (.gnoU rfl rfl rfl rfl (.skips 2 rfl (.nilS [61, 4, 3, 2] rfl rfl (.condKT rfl rfl (.seq (.region ?_)))))))
     have hw156 := W_law08_live (I := I) hd
     refine .callP call5 rfl hw156 rfl rfl fun v157 hv158 => ?_
     obtain ⟨r155, rfl, hd⟩ := hv158
     exact .skips 1 rfl (.nilS [6] rfl rfl (.drop .z (.drop .z (.ret (pret results3 (.t rfl .n) (.refl _) ⟨r155, rfl, hd⟩)))))
   rw [hb154]
   refine .gyes rfl rfl rfl (.fieldAddr underlying27 rfl sizeOf22 rfl (o := 4) rfl rfl rfl (.gyes rfl rfl rfl (.load1 isAgg22 rfl .z rfl rfl rfl (.gyes rfl rfl rfl (.len underlying22 rfl rfl rfl rfl (.gyes rfl rfl rfl (.gt rfl rfl rfl rfl (.skips 2 rfl ?_))))))))
   refine splitP hd (fun hb159 hd => ?_) fun hb159 hd => ?_
   · rw [hb159]
     refine .skips 15 rfl (.gnoU rfl rfl rfl rfl (.gnoU rfl rfl rfl rfl (.skips 2 rfl (.nilS [61, 4, 3, 2] rfl rfl (.condKT rfl rfl (.seq (.region ?_)))))))
     have hw161 := W_law08_live (I := I) hd
     refine .callP call5 rfl hw161 rfl rfl fun v162 hv163 => ?_
     obtain ⟨r160, rfl, hd⟩ := hv163
     exact .skips 1 rfl (.nilS [6] rfl rfl (.drop .z (.drop .z (.ret (pret results3 (.t rfl .n) (.refl _) ⟨r160, rfl, hd⟩)))))
   rw [hb159]
   refine .gyes rfl rfl rfl (.fieldAddr underlying27 rfl sizeOf23 rfl (o := 5) rfl rfl rfl (.gyes rfl rfl rfl (.load1 isAgg23 rfl .z rfl rfl rfl (.gyes rfl rfl rfl (.len underlying23 rfl rfl rfl rfl (.gyes rfl rfl rfl (.gt rfl rfl rfl rfl (.skips 2 rfl ?_))))))))
   refine splitP hd (fun hb164 hd => ?_) fun hb164 hd => ?_
   · rw [hb164]
     refine .skips 9 rfl (.gnoU rfl rfl rfl rfl (.gnoU rfl rfl rfl rfl (.skips 2 rfl (.nilS [61, 4, 3, 2] rfl rfl (.condKT rfl rfl (.seq (.region ?_)))))))
     have hw166 := W_law08_live (I := I) hd
     refine .callP call5 rfl hw166 rfl rfl fun v167 hv168 => ?_
     obtain ⟨r165, rfl, hd⟩ := hv168
     exact .skips 1 rfl (.nilS [6] rfl rfl (.drop .z (.drop .z (.ret (pret results3 (.t rfl .n) (.refl _) ⟨r165, rfl, hd⟩)))))
   rw [hb164]
   refine .gyes rfl rfl rfl (.move rfl rfl rfl (.gyes rfl rfl rfl (.len underlying22 rfl rfl rfl rfl (.gyes rfl rfl rfl (.gt rfl rfl rfl rfl (.skips 2 rfl ?_))))))
   refine splitP hd (fun hb169 hd => ?_) fun hb169 hd => ?_
   · rw [hb169]
     refine .skips 4 rfl (.gnoU rfl rfl rfl rfl (.gnoU rfl rfl rfl rfl (.skips 2 rfl (.nilS [61, 4, 3, 2] rfl rfl (.condKT rfl rfl (.seq (.region ?_)))))))
     have hw171 := W_law08_live (I := I) hd
     refine .callP call5 rfl hw171 rfl rfl fun v172 hv173 => ?_
     obtain ⟨r170, rfl, hd⟩ := hv173
     exact .skips 1 rfl (.nilS [6] rfl rfl (.drop .z (.drop .z (.ret (pret results3 (.t rfl .n) (.refl _) ⟨r170, rfl, hd⟩)))))
   rw [hb169]
   refine .gyes rfl rfl rfl (.fieldAddr underlying25 rfl sizeOf3 rfl (o := 1) rfl rfl rfl (.gyes rfl rfl rfl (.load1 isAgg3 rfl (.s .z) rfl rfl rfl (.gyes rfl rfl rfl (.gt rfl rfl rfl rfl (.gyes rfl rfl rfl (.move rfl rfl rfl ?_)))))))
   refine splitP hd (fun hb174 hd => ?_) fun hb174 hd => ?_
   · rw [hb174]
     refine .gyes rfl rfl rfl (.loadW isAgg25 sizeOf25 rfl (.s .z) rfl rfl rfl ?_)
     have hw176 := W_ref07_Right (I := I) R3 R6 R9 hd
     refine .gyes rfl rfl rfl (.callP call4 rfl hw176 rfl rfl fun v177 hv178 => ?_)
     obtain ⟨r175, rfl, hd⟩ := hv178
     refine .gyes rfl rfl rfl (.pickT rfl rfl rfl rfl rfl (.skips 1 rfl (.nilS [61, 4, 3, 2] rfl rfl (.condP rfl hd (fun hb179 hd => ?_) fun hb179 hd => ?_))))
     · refine .seq (.region ?_)
       have hw181 := W_law08_live (I := I) hd
       refine .callP call5 rfl hw181 rfl rfl fun v182 hv183 => ?_
       obtain ⟨r180, rfl, hd⟩ := hv183
       exact .skips 1 rfl (.nilS [6] rfl rfl (.drop .z (.drop .z (.ret (pret results3 (.t rfl .n) (.refl _) ⟨r180, rfl, hd⟩)))))
     exact .skip' fun c w ho hs => ⟨(), hd, I, (.refl _), ho.sub ⟨rfl, rfl, rfl, trivial⟩, hs.pick (.c (.s .z) (.c .z .n))⟩
   rw [hb174]
   exact .skips 2 rfl (.gyes rfl rfl rfl (.pickF rfl rfl rfl rfl rfl (.skips 1 rfl (.nilS [61, 4, 3, 2] rfl rfl (.condKF rfl rfl (.skip' fun c w ho hs => ⟨(), hd, I, (.refl _), ho.sub ⟨rfl, rfl, rfl, trivial⟩, hs.pick (.c (.s .z) (.c .z .n))⟩))))))
 rintro ⟨⟩ hd c w hst
 obtain ⟨I184, hl185, hok, hsym⟩ := hst
 have le186 := IH.le.trans (.refl _) hl185
 replace R3 := R3.mono hl185
 replace R6 := R6.mono hl185
 replace R9 := R9.mono hl185
 replace R12 := R12.mono hl185
 replace R15 := R15.mono hl185
 replace R18 := R18.mono hl185
 replace R21 := R21.mono hl185
 replace R24 := R24.mono hl185
 refine Cod.at hok hsym (.seq (.seq (.region (.skips 1 rfl (.nilS [7, 4, 3, 2] rfl rfl (.block (.loop hd (fun (s444 : Int) c w => ∃ I_, IH.le I184 I_ ∧ Ok ⟨132, [], none⟩ [(2, .slice p22 a2.length c23), (3, .pointer (some ⟨b29, 0, none⟩)), (4, .pointer (some ⟨b31, 0, none⟩)), (7, .int .i64 s444)] c ∧ Sym w0 M I I_ [pto b29 (.cells #[.int .i64 a0.Rows, .int .i64 a0.Cols, .slice p1 a0.Start.length c2, .slice p4 a0.Col.length c5, .slice p7 a0.Val.length c8] 25 (0, 0)), pto b31 (.cells #[.int .i64 a1.Rows, .int .i64 a1.Cols, .slice p10 a1.At.length c11, .slice p13 a1.Start.length c14, .slice p16 a1.Row.length c17, .slice p19 a1.Val.length c20] 27 (0, 0))] w) (fun c w ho hs => ⟨I184, (.refl _), ho.sub ⟨rfl, rfl, rfl, rfl, trivial⟩, hs.pick (.c .z (.c .z .n))⟩) ?_)))))))
 rintro s444 next445 hd c w hst
 obtain ⟨I446, hl447, hok, hsym⟩ := hst
 have le448 := IH.le.trans le186 hl447
 have le449 := IH.le.trans (.refl _) hl447
 replace R3 := R3.mono hl447
 replace R6 := R6.mono hl447
 replace R9 := R9.mono hl447
 replace R12 := R12.mono hl447
 replace R15 := R15.mono hl447
 replace R18 := R18.mono hl447
 replace R21 := R21.mono hl447
 replace R24 := R24.mono hl447
 refine Cod.at hok hsym (.seq (.seq (.region (.skips 2 rfl (.len underlying22 rfl rfl rfl rfl (.lt rfl rfl rfl rfl (.nilS [66, 7, 4, 3, 2] rfl rfl (.condP rfl hd (fun hb451 hd => ?_) fun hb451 hd => ?_))))))))
 · refine .skipS [7, 4, 3, 2] rfl rfl (.seq (.block (.seq (.draw [some 0, some 1, some 2, some 3, some 4, some 6, some 7, some 8, some 9, some 10, some 5, some 11, some 12, some 13] 14 MX (by kernel_rfl) (by kernel_rfl) (by kernel_rfl) (by kernel_rfl) (by kernel_rfl) (by kernel_rfl) (by kernel_rfl) (fun ex => (pto b29 (.cells #[.int .i64 a0.Rows, .int .i64 a0.Cols, .slice p1 a0.Start.length c2, .slice p4 a0.Col.length c5, .slice p7 a0.Val.length c8] 25 (0, 0))) :: (pto b31 (.cells #[.int .i64 a1.Rows, .int .i64 a1.Cols, .slice p10 a1.At.length c11, .slice p13 a1.Start.length c14, .slice p16 a1.Row.length c17, .slice p19 a1.Val.length c20] 27 (0, 0))) :: ex) (fun _ _ => (.s (.s .z))) rfl (.f [] rfl (by kernel_rfl) rfl rfl (fun ex => .loadW isAgg27 sizeOf27 rfl (.s .z) rfl rfl rfl .mk) (.fs [[], []] rfl (by kernel_rfl) ?_))))))
   obtain ⟨h452, x453, hx454, hd⟩ := hd
   obtain ⟨b455, o456, cs457, e458, hC459, hr460⟩ := R24.2 _ _ hx454
   cases hr460
   refine .f [1, 2] rfl (by kernel_rfl) rfl rfl (fun ex => .ixa underlying22 sizeOf3 rfl e458 rfl h452 (idx_lt hx454 h452) rfl rfl .mk) (.f [3] rfl (by kernel_rfl) rfl rfl (fun ex => .ld1 (j := 0) isAgg3 hC459 rfl rfl rfl rfl rfl .mk) (.f [] rfl (by kernel_rfl) rfl rfl (fun ex => .loadW isAgg27 sizeOf27 rfl (.s .z) rfl rfl rfl .mk) (.fs [[], []] rfl (by kernel_rfl) ?_)))
   obtain ⟨h461, x462, hx463, hd⟩ := hd
   obtain ⟨b464, o465, cs466, e467, hC468, hr469⟩ := R24.2 _ _ hx463
   cases hr469
   refine .f [7, 8] rfl (by kernel_rfl) rfl rfl (fun ex => .ixa underlying22 sizeOf3 rfl e467 rfl h461 (idx_lt hx463 h461) rfl rfl .mk) (.f [9] rfl (by kernel_rfl) rfl rfl (fun ex => .ld1 (j := 0) isAgg3 hC468 rfl rfl rfl rfl rfl .mk) (.w [10, 9, 8, 7, 6] [[], [4], [3, 4], [3, 4], []] [0, 4] rfl (by kernel_rfl) (by kernel_rfl) (by kernel_rfl) ((dropE_kept rfl rfl)) (.inr (dropE_kept rfl rfl)) fun ex => ?_))
   have hw479 := W_dcsc_Column (I := I446) R12 R15 R18 R21 hd
   refine .call call7 rfl hw479 rfl rfl fun v474 I471 hl472 hv473 => ?_
   obtain ⟨r470, p476, c477, rfl, R478, hd⟩ := hv473
   have le480 := IH.le.trans le448 hl472
   have le481 := IH.le.trans le449 hl472
   replace R3 := R3.mono hl472
   replace R6 := R6.mono hl472
   replace R9 := R9.mono hl472
   replace R12 := R12.mono hl472
   replace R15 := R15.mono hl472
   replace R18 := R18.mono hl472
   replace R21 := R21.mono hl472
   replace R24 := R24.mono hl472
   replace hC459 := hC459.mono hl472
   replace hC468 := hC468.mono hl472
   refine .some (fun ex => (pto b29 (.cells #[.int .i64 a0.Rows, .int .i64 a0.Cols, .slice p1 a0.Start.length c2, .slice p4 a0.Col.length c5, .slice p7 a0.Val.length c8] 25 (0, 0))) :: (pto b31 (.cells #[.int .i64 a1.Rows, .int .i64 a1.Cols, .slice p10 a1.At.length c11, .slice p13 a1.Start.length c14, .slice p16 a1.Row.length c17, .slice p19 a1.Val.length c20] 27 (0, 0))) :: ex) rfl (fun _ _ => (.s (.s .z))) rfl (.cc [9] rfl (by kernel_rfl) rfl rfl rfl (fun ex => .ld1 (j := 0) isAgg3 hC468 rfl rfl rfl rfl rfl .mk) (.cc [7, 8] rfl (by kernel_rfl) rfl rfl rfl (fun ex => .ixa underlying22 sizeOf3 rfl e467 rfl h461 (idx_lt hx463 h461) rfl rfl .mk) (.ccs [[], []] rfl rfl (by kernel_rfl) (.cc [] rfl (by kernel_rfl) rfl rfl rfl (fun ex => .loadW isAgg27 sizeOf27 rfl (.s .z) rfl rfl rfl .mk) trivial)))) (.w [] [[], [10], [9, 10], [9, 10], []] [6, 10, 5] rfl (by kernel_rfl) (by kernel_rfl) (by kernel_rfl) ((dropE_kept rfl rfl)) (.inr (dropE_kept rfl rfl)) fun ex => ?_)
   have hw491 := W_ref08_Column (I := I471) R12 R15 R18 R21 hd
   refine .call call8 rfl hw491 rfl rfl fun v486 I483 hl484 hv485 => ?_
   obtain ⟨r482, p488, c489, rfl, R490, hd⟩ := hv485
   have le492 := IH.le.trans le480 hl484
   have le493 := IH.le.trans le481 hl484
   replace R3 := R3.mono hl484
   replace R6 := R6.mono hl484
   replace R9 := R9.mono hl484
   replace R12 := R12.mono hl484
   replace R15 := R15.mono hl484
   replace R18 := R18.mono hl484
   replace R21 := R21.mono hl484
   replace R24 := R24.mono hl484
   replace hC459 := hC459.mono hl484
   replace hC468 := hC468.mono hl484
   replace R478 := R478.mono hl484
   refine .some (fun ex => (pto b29 (.cells #[.int .i64 a0.Rows, .int .i64 a0.Cols, .slice p1 a0.Start.length c2, .slice p4 a0.Col.length c5, .slice p7 a0.Val.length c8] 25 (0, 0))) :: (pto b31 (.cells #[.int .i64 a1.Rows, .int .i64 a1.Cols, .slice p10 a1.At.length c11, .slice p13 a1.Start.length c14, .slice p16 a1.Row.length c17, .slice p19 a1.Val.length c20] 27 (0, 0))) :: ex) rfl (fun _ _ => (.s (.s .z))) rfl trivial (.w [] [] [5, 11, 11] rfl (by kernel_rfl) (by kernel_rfl) (by kernel_rfl) ((dropE_kept rfl rfl)) (.inr (dropE_kept rfl rfl)) fun ex => ?_)
   have hw495 := W_ref07_SameItems (I := I483) R478 R490 hd
   refine .callP call6 rfl hw495 rfl rfl fun v496 hv497 => ?_
   obtain ⟨r494, rfl, hd⟩ := hv497
   refine .some (fun ex => (pto b29 (.cells #[.int .i64 a0.Rows, .int .i64 a0.Cols, .slice p1 a0.Start.length c2, .slice p4 a0.Col.length c5, .slice p7 a0.Val.length c8] 25 (0, 0))) :: (pto b31 (.cells #[.int .i64 a1.Rows, .int .i64 a1.Cols, .slice p10 a1.At.length c11, .slice p13 a1.Start.length c14, .slice p16 a1.Row.length c17, .slice p19 a1.Val.length c20] 27 (0, 0))) :: ex) rfl (fun _ _ => (.s (.s .z))) rfl trivial (.f [12] rfl (by kernel_rfl) rfl rfl (fun ex => .not rfl rfl rfl .mk) (.e 14 (by kernel_rfl) (by kernel_rfl) (by kernel_rfl) (.nilS [82, 7, 4, 3, 2] rfl rfl (.condP rfl hd (fun hb498 hd => ?_) fun hb498 hd => ?_))))
   · exact .seq (.region (.skips 1 rfl (.nilS [6] rfl rfl (.drop .z (.drop .z (.ret (pret results3 (.t rfl .n) le492 ⟨false, rfl, hd⟩)))))))
   exact .skipS [7, 4, 3, 2] rfl rfl (.region (.skips 1 rfl (.add rfl rfl rfl rfl (.sub (E' := [(2, _), (3, _), (4, _), (67, _), (68, _)]) ⟨rfl, rfl, rfl, rfl, rfl, trivial⟩ (.skips 1 rfl (.nil' fun c w ho hs => ⟨(w64 (s444 + 1)), hd, I483, le493, ho.sub ⟨rfl, rfl, rfl, rfl, trivial⟩, hs.pick (.c .z (.c .z .n))⟩))))))
 refine .exitS [4, 3, 2] rfl rfl (.seq (.draw [some 0, some 1, some 2, some 4, some 3, some 5, some 6, some 7, some 8, some 9, some 11, some 10, some 12, some 13, some 14, some 15, some 16, some 18, some 17, some 19, some 20, some 21, some 22, some 23, some 25, some 24, some 26, some 27, some 28, some 29, some 30, some 31, some 32, some 34, some 33, some 35, some 36, some 37, some 38, some 39, some 40, some 41, some 42, some 44, some 45, some 43, some 46, some 47, some 48] 49 MX (by kernel_rfl) (by kernel_rfl) (by kernel_rfl) (by kernel_rfl) (by kernel_rfl) (by kernel_rfl) (by kernel_rfl) (fun ex => (pto b29 (.cells #[.int .i64 a0.Rows, .int .i64 a0.Cols, .slice p1 a0.Start.length c2, .slice p4 a0.Col.length c5, .slice p7 a0.Val.length c8] 25 (0, 0))) :: (pto b31 (.cells #[.int .i64 a1.Rows, .int .i64 a1.Cols, .slice p10 a1.At.length c11, .slice p13 a1.Start.length c14, .slice p16 a1.Row.length c17, .slice p19 a1.Val.length c20] 27 (0, 0))) :: ex) (fun _ _ => (.s (.s .z))) rfl (.w [] [] [] rfl (by kernel_rfl) (by kernel_rfl) (by kernel_rfl) ((dropE_kept rfl rfl)) (.inr (dropE_kept rfl rfl)) fun ex => ?_)))
 have hw500 := W_law08_live (I := I446) hd
 refine .callP call5 rfl hw500 rfl rfl fun v501 hv502 => ?_
 obtain ⟨r499, rfl, hd⟩ := hv502
 refine .some (fun ex => (pto b29 (.cells #[.int .i64 a0.Rows, .int .i64 a0.Cols, .slice p1 a0.Start.length c2, .slice p4 a0.Col.length c5, .slice p7 a0.Val.length c8] 25 (0, 0))) :: (pto b31 (.cells #[.int .i64 a1.Rows, .int .i64 a1.Cols, .slice p10 a1.At.length c11, .slice p13 a1.Start.length c14, .slice p16 a1.Row.length c17, .slice p19 a1.Val.length c20] 27 (0, 0))) :: ex) rfl (fun _ _ => (.s (.s .z))) rfl trivial (.fs [[0, 0]] rfl (by kernel_rfl) ?_)
 refine splitP hd (fun hb503 hd => ?_) fun hb503 hd => ?_
 · refine .f [1] rfl (by kernel_rfl) rfl rfl (fun ex => .gyes rfl rfl hb503 (.loadW isAgg25 sizeOf25 rfl .z rfl rfl rfl .mk)) (.f [1] rfl (by kernel_rfl) rfl rfl (fun ex => .gyes rfl rfl hb503 (.loadW isAgg25 sizeOf25 rfl .z rfl rfl rfl .mk)) (.w [4] [[], []] [2, 1, 1] rfl (by kernel_rfl) (by kernel_rfl) (by kernel_rfl) ((dropE_kept rfl rfl)) (.inr (dropE_kept rfl rfl)) fun ex => ?_))
   have hw522 := W_dcsc_Of (I := I446) R3 R6 R9 hd
   refine .gyes rfl rfl hb503 (.call call10 rfl hw522 rfl rfl fun v508 I505 hl506 hv507 => ?_)
   obtain ⟨r504, p510, c511, p513, c514, p516, c517, p519, c520, rfl, R512, R515, R518, R521, hd⟩ := hv507
   have le523 := IH.le.trans le448 hl506
   have le524 := IH.le.trans le449 hl506
   replace R3 := R3.mono hl506
   replace R6 := R6.mono hl506
   replace R9 := R9.mono hl506
   replace R12 := R12.mono hl506
   replace R15 := R15.mono hl506
   replace R18 := R18.mono hl506
   replace R21 := R21.mono hl506
   replace R24 := R24.mono hl506
   refine .some (fun ex => (pto b29 (.cells #[.int .i64 a0.Rows, .int .i64 a0.Cols, .slice p1 a0.Start.length c2, .slice p4 a0.Col.length c5, .slice p7 a0.Val.length c8] 25 (0, 0))) :: (pto b31 (.cells #[.int .i64 a1.Rows, .int .i64 a1.Cols, .slice p10 a1.At.length c11, .slice p13 a1.Start.length c14, .slice p16 a1.Row.length c17, .slice p19 a1.Val.length c20] 27 (0, 0))) :: ex) rfl (fun _ _ => (.s (.s .z))) rfl (.cc [1] rfl (by kernel_rfl) rfl rfl rfl (fun ex => .gyes rfl rfl hb503 (.loadW isAgg25 sizeOf25 rfl .z rfl rfl rfl .mk)) trivial) (.w [] [[]] [4, 3, 1] rfl (by kernel_rfl) (by kernel_rfl) (by kernel_rfl) ((dropE_kept rfl rfl)) (.inr (dropE_kept rfl rfl)) fun ex => ?_)
   have hw543 := W_ref08_Of (I := I505) R3 R6 R9 hd
   refine .gyes rfl rfl hb503 (.call call11 rfl hw543 rfl rfl fun v529 I526 hl527 hv528 => ?_)
   obtain ⟨r525, p531, c532, p534, c535, p537, c538, p540, c541, rfl, R533, R536, R539, R542, hd⟩ := hv528
   have le544 := IH.le.trans le523 hl527
   have le545 := IH.le.trans le524 hl527
   replace R3 := R3.mono hl527
   replace R6 := R6.mono hl527
   replace R9 := R9.mono hl527
   replace R12 := R12.mono hl527
   replace R15 := R15.mono hl527
   replace R18 := R18.mono hl527
   replace R21 := R21.mono hl527
   replace R24 := R24.mono hl527
   replace R512 := R512.mono hl527
   replace R515 := R515.mono hl527
   replace R518 := R518.mono hl527
   replace R521 := R521.mono hl527
   refine .some (fun ex => (pto b29 (.cells #[.int .i64 a0.Rows, .int .i64 a0.Cols, .slice p1 a0.Start.length c2, .slice p4 a0.Col.length c5, .slice p7 a0.Val.length c8] 25 (0, 0))) :: (pto b31 (.cells #[.int .i64 a1.Rows, .int .i64 a1.Cols, .slice p10 a1.At.length c11, .slice p13 a1.Start.length c14, .slice p16 a1.Row.length c17, .slice p19 a1.Val.length c20] 27 (0, 0))) :: ex) rfl (fun _ _ => (.s (.s .z))) rfl trivial (.w [] [] [3, 5, 5, 1] rfl (by kernel_rfl) (by kernel_rfl) (by kernel_rfl) ((dropE_kept rfl rfl)) (.inr (dropE_kept rfl rfl)) fun ex => ?_)
   have hw547 := W_ref08_Same (I := I526) R512 R515 R518 R521 R533 R536 R539 R542 hd
   refine .gyes rfl rfl hb503 (.callP call9 rfl hw547 rfl rfl fun v548 hv549 => ?_)
   obtain ⟨r546, rfl, hd⟩ := hv549
   refine .some (fun ex => (pto b29 (.cells #[.int .i64 a0.Rows, .int .i64 a0.Cols, .slice p1 a0.Start.length c2, .slice p4 a0.Col.length c5, .slice p7 a0.Val.length c8] 25 (0, 0))) :: (pto b31 (.cells #[.int .i64 a1.Rows, .int .i64 a1.Cols, .slice p10 a1.At.length c11, .slice p13 a1.Start.length c14, .slice p16 a1.Row.length c17, .slice p19 a1.Val.length c20] 27 (0, 0))) :: ex) rfl (fun _ _ => (.s (.s .z))) rfl trivial (.f [1, 6] rfl (by kernel_rfl) rfl rfl (fun ex => .pickT rfl hb503 rfl rfl rfl .mk) (.fs [[7, 6]] rfl (by kernel_rfl) ?_))
   refine splitP hd (fun hb550 hd => ?_) fun hb550 hd => ?_
   · refine .f [8] rfl (by kernel_rfl) rfl rfl (fun ex => .gyes rfl rfl hb550 (.loadW isAgg27 sizeOf27 rfl (.s .z) rfl rfl rfl .mk)) (.f [8] rfl (by kernel_rfl) rfl rfl (fun ex => .gyes rfl rfl hb550 (.loadW isAgg27 sizeOf27 rfl (.s .z) rfl rfl rfl .mk)) (.w [11] [[], [], [8]] [9, 8, 8] rfl (by kernel_rfl) (by kernel_rfl) (by kernel_rfl) ((dropE_kept rfl rfl)) (.inr (dropE_kept rfl rfl)) fun ex => ?_))
     have hw552 := W_dcsc_Right (I := I526) R12 R15 R18 R21 hd
     refine .gyes rfl rfl hb550 (.callP call12 rfl hw552 rfl rfl fun v553 hv554 => ?_)
     obtain ⟨r551, rfl, hd⟩ := hv554
     refine .some (fun ex => (pto b29 (.cells #[.int .i64 a0.Rows, .int .i64 a0.Cols, .slice p1 a0.Start.length c2, .slice p4 a0.Col.length c5, .slice p7 a0.Val.length c8] 25 (0, 0))) :: (pto b31 (.cells #[.int .i64 a1.Rows, .int .i64 a1.Cols, .slice p10 a1.At.length c11, .slice p13 a1.Start.length c14, .slice p16 a1.Row.length c17, .slice p19 a1.Val.length c20] 27 (0, 0))) :: ex) rfl (fun _ _ => (.s (.s .z))) rfl (.cc [8] rfl (by kernel_rfl) rfl rfl rfl (fun ex => .gyes rfl rfl hb550 (.loadW isAgg27 sizeOf27 rfl (.s .z) rfl rfl rfl .mk)) trivial) (.w [] [[]] [11, 10, 8] rfl (by kernel_rfl) (by kernel_rfl) (by kernel_rfl) ((dropE_kept rfl rfl)) (.inr (dropE_kept rfl rfl)) fun ex => ?_)
     have hw556 := W_ref08_Right (I := I526) R12 R15 R18 R21 hd
     refine .gyes rfl rfl hb550 (.callP call13 rfl hw556 rfl rfl fun v557 hv558 => ?_)
     obtain ⟨r555, rfl, hd⟩ := hv558
     refine .some (fun ex => (pto b29 (.cells #[.int .i64 a0.Rows, .int .i64 a0.Cols, .slice p1 a0.Start.length c2, .slice p4 a0.Col.length c5, .slice p7 a0.Val.length c8] 25 (0, 0))) :: (pto b31 (.cells #[.int .i64 a1.Rows, .int .i64 a1.Cols, .slice p10 a1.At.length c11, .slice p13 a1.Start.length c14, .slice p16 a1.Row.length c17, .slice p19 a1.Val.length c20] 27 (0, 0))) :: ex) rfl (fun _ _ => (.s (.s .z))) rfl trivial (.f [10, 12, 8] rfl (by kernel_rfl) rfl rfl (fun ex => .gyes rfl rfl hb550 (.eqB underlying4 rfl rfl rfl rfl .mk)) (.f [8, 13] rfl (by kernel_rfl) rfl rfl (fun ex => .pickT rfl hb550 rfl rfl rfl .mk) (.fs [[14, 12]] rfl (by kernel_rfl) ?_)))
     refine splitP hd (fun hb559 hd => ?_) fun hb559 hd => ?_
     · refine .f [15] rfl (by kernel_rfl) rfl rfl (fun ex => .gyes rfl rfl hb559 (.loadW isAgg27 sizeOf27 rfl (.s .z) rfl rfl rfl .mk)) (.f [15] rfl (by kernel_rfl) rfl rfl (fun ex => .gyes rfl rfl hb559 (.loadW isAgg27 sizeOf27 rfl (.s .z) rfl rfl rfl .mk)) (.w [18] [[], [], [15], [14, 15]] [16, 15, 15] rfl (by kernel_rfl) (by kernel_rfl) (by kernel_rfl) ((dropE_kept rfl rfl)) (.inr (dropE_kept rfl rfl)) fun ex => ?_))
       have hw575 := W_dcsc_Back (I := I526) R12 R15 R18 R21 hd
       refine .gyes rfl rfl hb559 (.call call15 rfl hw575 rfl rfl fun v564 I561 hl562 hv563 => ?_)
       obtain ⟨r560, p566, c567, p569, c570, p572, c573, rfl, R568, R571, R574, hd⟩ := hv563
       have le576 := IH.le.trans le544 hl562
       have le577 := IH.le.trans le545 hl562
       replace R3 := R3.mono hl562
       replace R6 := R6.mono hl562
       replace R9 := R9.mono hl562
       replace R12 := R12.mono hl562
       replace R15 := R15.mono hl562
       replace R18 := R18.mono hl562
       replace R21 := R21.mono hl562
       replace R24 := R24.mono hl562
       replace R512 := R512.mono hl562
       replace R515 := R515.mono hl562
       replace R518 := R518.mono hl562
       replace R521 := R521.mono hl562
       replace R533 := R533.mono hl562
       replace R536 := R536.mono hl562
       replace R539 := R539.mono hl562
       replace R542 := R542.mono hl562
       refine .some (fun ex => (pto b29 (.cells #[.int .i64 a0.Rows, .int .i64 a0.Cols, .slice p1 a0.Start.length c2, .slice p4 a0.Col.length c5, .slice p7 a0.Val.length c8] 25 (0, 0))) :: (pto b31 (.cells #[.int .i64 a1.Rows, .int .i64 a1.Cols, .slice p10 a1.At.length c11, .slice p13 a1.Start.length c14, .slice p16 a1.Row.length c17, .slice p19 a1.Val.length c20] 27 (0, 0))) :: ex) rfl (fun _ _ => (.s (.s .z))) rfl (.cc [15] rfl (by kernel_rfl) rfl rfl rfl (fun ex => .gyes rfl rfl hb559 (.loadW isAgg27 sizeOf27 rfl (.s .z) rfl rfl rfl .mk)) trivial) (.w [] [[]] [18, 17, 15] rfl (by kernel_rfl) (by kernel_rfl) (by kernel_rfl) ((dropE_kept rfl rfl)) (.inr (dropE_kept rfl rfl)) fun ex => ?_)
       have hw593 := W_ref08_Back (I := I561) R12 R15 R18 R21 hd
       refine .gyes rfl rfl hb559 (.call call16 rfl hw593 rfl rfl fun v582 I579 hl580 hv581 => ?_)
       obtain ⟨r578, p584, c585, p587, c588, p590, c591, rfl, R586, R589, R592, hd⟩ := hv581
       have le594 := IH.le.trans le576 hl580
       have le595 := IH.le.trans le577 hl580
       replace R3 := R3.mono hl580
       replace R6 := R6.mono hl580
       replace R9 := R9.mono hl580
       replace R12 := R12.mono hl580
       replace R15 := R15.mono hl580
       replace R18 := R18.mono hl580
       replace R21 := R21.mono hl580
       replace R24 := R24.mono hl580
       replace R512 := R512.mono hl580
       replace R515 := R515.mono hl580
       replace R518 := R518.mono hl580
       replace R521 := R521.mono hl580
       replace R533 := R533.mono hl580
       replace R536 := R536.mono hl580
       replace R539 := R539.mono hl580
       replace R542 := R542.mono hl580
       replace R568 := R568.mono hl580
       replace R571 := R571.mono hl580
       replace R574 := R574.mono hl580
       refine .some (fun ex => (pto b29 (.cells #[.int .i64 a0.Rows, .int .i64 a0.Cols, .slice p1 a0.Start.length c2, .slice p4 a0.Col.length c5, .slice p7 a0.Val.length c8] 25 (0, 0))) :: (pto b31 (.cells #[.int .i64 a1.Rows, .int .i64 a1.Cols, .slice p10 a1.At.length c11, .slice p13 a1.Start.length c14, .slice p16 a1.Row.length c17, .slice p19 a1.Val.length c20] 27 (0, 0))) :: ex) rfl (fun _ _ => (.s (.s .z))) rfl trivial (.w [] [] [17, 19, 19, 15] rfl (by kernel_rfl) (by kernel_rfl) (by kernel_rfl) ((dropE_kept rfl rfl)) (.inr (dropE_kept rfl rfl)) fun ex => ?_)
       have hw597 := W_ref07_Same (I := I579) R568 R571 R574 R586 R589 R592 hd
       refine .gyes rfl rfl hb559 (.callP call14 rfl hw597 rfl rfl fun v598 hv599 => ?_)
       obtain ⟨r596, rfl, hd⟩ := hv599
       refine .some (fun ex => (pto b29 (.cells #[.int .i64 a0.Rows, .int .i64 a0.Cols, .slice p1 a0.Start.length c2, .slice p4 a0.Col.length c5, .slice p7 a0.Val.length c8] 25 (0, 0))) :: (pto b31 (.cells #[.int .i64 a1.Rows, .int .i64 a1.Cols, .slice p10 a1.At.length c11, .slice p13 a1.Start.length c14, .slice p16 a1.Row.length c17, .slice p19 a1.Val.length c20] 27 (0, 0))) :: ex) rfl (fun _ _ => (.s (.s .z))) rfl trivial (.f [15, 20] rfl (by kernel_rfl) rfl rfl (fun ex => .pickT rfl hb559 rfl rfl rfl .mk) (.fs [[21, 20]] rfl (by kernel_rfl) ?_))
       refine splitP hd (fun hb600 hd => ?_) fun hb600 hd => ?_
       · refine .f [22] rfl (by kernel_rfl) rfl rfl (fun ex => .gyes rfl rfl hb600 (.loadW isAgg27 sizeOf27 rfl (.s .z) rfl rfl rfl .mk)) (.f [22] rfl (by kernel_rfl) rfl rfl (fun ex => .gyes rfl rfl hb600 (.loadW isAgg27 sizeOf27 rfl (.s .z) rfl rfl rfl .mk)) (.w [25] [[], [], [22]] [23, 22, 22] rfl (by kernel_rfl) (by kernel_rfl) (by kernel_rfl) ((dropE_kept rfl rfl)) (.inr (dropE_kept rfl rfl)) fun ex => ?_))
         have hw602 := W_dcsc_Many (I := I579) R12 R15 R18 R21 hd
         refine .gyes rfl rfl hb600 (.callP call17 rfl hw602 rfl rfl fun v603 hv604 => ?_)
         obtain ⟨r601, rfl, hd⟩ := hv604
         refine .some (fun ex => (pto b29 (.cells #[.int .i64 a0.Rows, .int .i64 a0.Cols, .slice p1 a0.Start.length c2, .slice p4 a0.Col.length c5, .slice p7 a0.Val.length c8] 25 (0, 0))) :: (pto b31 (.cells #[.int .i64 a1.Rows, .int .i64 a1.Cols, .slice p10 a1.At.length c11, .slice p13 a1.Start.length c14, .slice p16 a1.Row.length c17, .slice p19 a1.Val.length c20] 27 (0, 0))) :: ex) rfl (fun _ _ => (.s (.s .z))) rfl (.cc [22] rfl (by kernel_rfl) rfl rfl rfl (fun ex => .gyes rfl rfl hb600 (.loadW isAgg27 sizeOf27 rfl (.s .z) rfl rfl rfl .mk)) trivial) (.w [] [[]] [25, 24, 22] rfl (by kernel_rfl) (by kernel_rfl) (by kernel_rfl) ((dropE_kept rfl rfl)) (.inr (dropE_kept rfl rfl)) fun ex => ?_)
         have hw623 := W_ref08_Sure (I := I579) R12 R15 R18 R21 hd
         refine .gyes rfl rfl hb600 (.call call18 rfl hw623 rfl rfl fun v609 I606 hl607 hv608 => ?_)
         obtain ⟨r605, p611, c612, p614, c615, p617, c618, p620, c621, rfl, R613, R616, R619, R622, hd⟩ := hv608
         have le624 := IH.le.trans le594 hl607
         have le625 := IH.le.trans le595 hl607
         replace R3 := R3.mono hl607
         replace R6 := R6.mono hl607
         replace R9 := R9.mono hl607
         replace R12 := R12.mono hl607
         replace R15 := R15.mono hl607
         replace R18 := R18.mono hl607
         replace R21 := R21.mono hl607
         replace R24 := R24.mono hl607
         replace R512 := R512.mono hl607
         replace R515 := R515.mono hl607
         replace R518 := R518.mono hl607
         replace R521 := R521.mono hl607
         replace R533 := R533.mono hl607
         replace R536 := R536.mono hl607
         replace R539 := R539.mono hl607
         replace R542 := R542.mono hl607
         replace R568 := R568.mono hl607
         replace R571 := R571.mono hl607
         replace R574 := R574.mono hl607
         replace R586 := R586.mono hl607
         replace R589 := R589.mono hl607
         replace R592 := R592.mono hl607
         refine .some (fun ex => (pto b29 (.cells #[.int .i64 a0.Rows, .int .i64 a0.Cols, .slice p1 a0.Start.length c2, .slice p4 a0.Col.length c5, .slice p7 a0.Val.length c8] 25 (0, 0))) :: (pto b31 (.cells #[.int .i64 a1.Rows, .int .i64 a1.Cols, .slice p10 a1.At.length c11, .slice p13 a1.Start.length c14, .slice p16 a1.Row.length c17, .slice p19 a1.Val.length c20] 27 (0, 0))) :: ex) rfl (fun _ _ => (.s (.s .z))) rfl trivial (.f [26, 22] rfl (by kernel_rfl) rfl rfl (fun ex => .gyes rfl rfl hb600 (.field1 underlying27 rfl isAgg22 rfl rfl rfl rfl .mk)) (.f [27, 22] rfl (by kernel_rfl) rfl rfl (fun ex => .gyes rfl rfl hb600 (.len underlying22 rfl rfl rfl rfl .mk)) (.f [24, 28, 22] rfl (by kernel_rfl) rfl rfl (fun ex => .gyes rfl rfl hb600 (.eq rfl rfl rfl rfl .mk)) (.f [22, 29] rfl (by kernel_rfl) rfl rfl (fun ex => .pickT rfl hb600 rfl rfl rfl .mk) (.fs [[30, 26]] rfl (by kernel_rfl) ?_)))))
         refine splitP hd (fun hb626 hd => ?_) fun hb626 hd => ?_
         · refine .f [31] rfl (by kernel_rfl) rfl rfl (fun ex => .gyes rfl rfl hb626 (.loadW isAgg27 sizeOf27 rfl (.s .z) rfl rfl rfl .mk)) (.f [31] rfl (by kernel_rfl) rfl rfl (fun ex => .gyes rfl rfl hb626 (.loadW isAgg27 sizeOf27 rfl (.s .z) rfl rfl rfl .mk)) (.w [34] [[], [], [31], [30, 31], [29, 30, 31], [28, 29, 30, 31]] [32, 31, 31] rfl (by kernel_rfl) (by kernel_rfl) (by kernel_rfl) ((dropE_kept rfl rfl)) (.inr (dropE_kept rfl rfl)) fun ex => ?_))
           have hw628 := W_dcsc_Count (I := I606) R12 R15 R18 R21 hd
           refine .gyes rfl rfl hb626 (.callP call19 rfl hw628 rfl rfl fun v629 hv630 => ?_)
           obtain ⟨r627, rfl, hd⟩ := hv630
           refine .some (fun ex => (pto b29 (.cells #[.int .i64 a0.Rows, .int .i64 a0.Cols, .slice p1 a0.Start.length c2, .slice p4 a0.Col.length c5, .slice p7 a0.Val.length c8] 25 (0, 0))) :: (pto b31 (.cells #[.int .i64 a1.Rows, .int .i64 a1.Cols, .slice p10 a1.At.length c11, .slice p13 a1.Start.length c14, .slice p16 a1.Row.length c17, .slice p19 a1.Val.length c20] 27 (0, 0))) :: ex) rfl (fun _ _ => (.s (.s .z))) rfl (.cc [31] rfl (by kernel_rfl) rfl rfl rfl (fun ex => .gyes rfl rfl hb626 (.loadW isAgg27 sizeOf27 rfl (.s .z) rfl rfl rfl .mk)) trivial) (.w [] [[]] [34, 33, 31] rfl (by kernel_rfl) (by kernel_rfl) (by kernel_rfl) ((dropE_kept rfl rfl)) (.inr (dropE_kept rfl rfl)) fun ex => ?_)
           have hw649 := W_ref08_Sure (I := I606) R12 R15 R18 R21 hd
           refine .gyes rfl rfl hb626 (.call call18 rfl hw649 rfl rfl fun v635 I632 hl633 hv634 => ?_)
           obtain ⟨r631, p637, c638, p640, c641, p643, c644, p646, c647, rfl, R639, R642, R645, R648, hd⟩ := hv634
           have le650 := IH.le.trans le624 hl633
           have le651 := IH.le.trans le625 hl633
           replace R3 := R3.mono hl633
           replace R6 := R6.mono hl633
           replace R9 := R9.mono hl633
           replace R12 := R12.mono hl633
           replace R15 := R15.mono hl633
           replace R18 := R18.mono hl633
           replace R21 := R21.mono hl633
           replace R24 := R24.mono hl633
           replace R512 := R512.mono hl633
           replace R515 := R515.mono hl633
           replace R518 := R518.mono hl633
           replace R521 := R521.mono hl633
           replace R533 := R533.mono hl633
           replace R536 := R536.mono hl633
           replace R539 := R539.mono hl633
           replace R542 := R542.mono hl633
           replace R568 := R568.mono hl633
           replace R571 := R571.mono hl633
           replace R574 := R574.mono hl633
           replace R586 := R586.mono hl633
           replace R589 := R589.mono hl633
           replace R592 := R592.mono hl633
           replace R613 := R613.mono hl633
           replace R616 := R616.mono hl633
           replace R619 := R619.mono hl633
           replace R622 := R622.mono hl633
           refine .some (fun ex => (pto b29 (.cells #[.int .i64 a0.Rows, .int .i64 a0.Cols, .slice p1 a0.Start.length c2, .slice p4 a0.Col.length c5, .slice p7 a0.Val.length c8] 25 (0, 0))) :: (pto b31 (.cells #[.int .i64 a1.Rows, .int .i64 a1.Cols, .slice p10 a1.At.length c11, .slice p13 a1.Start.length c14, .slice p16 a1.Row.length c17, .slice p19 a1.Val.length c20] 27 (0, 0))) :: ex) rfl (fun _ _ => (.s (.s .z))) rfl trivial (.f [35, 31] rfl (by kernel_rfl) rfl rfl (fun ex => .gyes rfl rfl hb626 (.field1 underlying27 rfl isAgg22 rfl rfl rfl rfl .mk)) (.f [36, 31] rfl (by kernel_rfl) rfl rfl (fun ex => .gyes rfl rfl hb626 (.len underlying22 rfl rfl rfl rfl .mk)) (.f [33, 37, 31] rfl (by kernel_rfl) rfl rfl (fun ex => .gyes rfl rfl hb626 (.eq rfl rfl rfl rfl .mk)) (.f [31, 38] rfl (by kernel_rfl) rfl rfl (fun ex => .pickT rfl hb626 rfl rfl rfl .mk) (.fs [[39, 35]] rfl (by kernel_rfl) ?_)))))
           refine splitP hd (fun hb652 hd => ?_) fun hb652 hd => ?_
           · refine .f [40] rfl (by kernel_rfl) rfl rfl (fun ex => .gyes rfl rfl hb652 (.loadW isAgg27 sizeOf27 rfl (.s .z) rfl rfl rfl .mk)) (.f [40] rfl (by kernel_rfl) rfl rfl (fun ex => .gyes rfl rfl hb652 (.move rfl rfl rfl .mk)) (.f [40] rfl (by kernel_rfl) rfl rfl (fun ex => .gyes rfl rfl hb652 (.loadW isAgg27 sizeOf27 rfl (.s .z) rfl rfl rfl .mk)) (.f [40] rfl (by kernel_rfl) rfl rfl (fun ex => .gyes rfl rfl hb652 (.move rfl rfl rfl .mk)) (.w [45, 44] [[], [], [], [40], [39, 40], [38, 39, 40], [37, 38, 39, 40]] [41, 42, 40, 40] rfl (by kernel_rfl) (by kernel_rfl) (by kernel_rfl) ((dropE_kept rfl rfl)) (.inr (dropE_kept rfl rfl)) fun ex => ?_))))
             have hw654 := W_dcsc_Work (I := I632) R12 R15 R18 R21 R24 hd
             refine .gyes rfl rfl hb652 (.callP call20 rfl hw654 rfl rfl fun v655 hv656 => ?_)
             obtain ⟨r653, rfl, hd⟩ := hv656
             refine .some (fun ex => (pto b29 (.cells #[.int .i64 a0.Rows, .int .i64 a0.Cols, .slice p1 a0.Start.length c2, .slice p4 a0.Col.length c5, .slice p7 a0.Val.length c8] 25 (0, 0))) :: (pto b31 (.cells #[.int .i64 a1.Rows, .int .i64 a1.Cols, .slice p10 a1.At.length c11, .slice p13 a1.Start.length c14, .slice p16 a1.Row.length c17, .slice p19 a1.Val.length c20] 27 (0, 0))) :: ex) rfl (fun _ _ => (.s (.s .z))) rfl (.cc [40] rfl (by kernel_rfl) rfl rfl rfl (fun ex => .gyes rfl rfl hb652 (.move rfl rfl rfl .mk)) (.cc [40] rfl (by kernel_rfl) rfl rfl rfl (fun ex => .gyes rfl rfl hb652 (.loadW isAgg27 sizeOf27 rfl (.s .z) rfl rfl rfl .mk)) trivial)) (.w [] [[], []] [44, 45, 43, 40] rfl (by kernel_rfl) (by kernel_rfl) (by kernel_rfl) ((dropE_kept rfl rfl)) (.inr (dropE_kept rfl rfl)) fun ex => ?_)
             have hw658 := W_ref08_Work (I := I632) R12 R15 R18 R21 R24 hd
             refine .gyes rfl rfl hb652 (.callP call21 rfl hw658 rfl rfl fun v659 hv660 => ?_)
             obtain ⟨r657, rfl, hd⟩ := hv660
             exact .some (fun ex => (pto b29 (.cells #[.int .i64 a0.Rows, .int .i64 a0.Cols, .slice p1 a0.Start.length c2, .slice p4 a0.Col.length c5, .slice p7 a0.Val.length c8] 25 (0, 0))) :: (pto b31 (.cells #[.int .i64 a1.Rows, .int .i64 a1.Cols, .slice p10 a1.At.length c11, .slice p13 a1.Start.length c14, .slice p16 a1.Row.length c17, .slice p19 a1.Val.length c20] 27 (0, 0))) :: ex) rfl (fun _ _ => (.s (.s .z))) rfl trivial (.f [43, 46, 40] rfl (by kernel_rfl) rfl rfl (fun ex => .gyes rfl rfl hb652 (.eq rfl rfl rfl rfl .mk)) (.f [40, 47] rfl (by kernel_rfl) rfl rfl (fun ex => .pickT rfl hb652 rfl rfl rfl .mk) (.e 49 (by kernel_rfl) (by kernel_rfl) (by kernel_rfl) (.skips 1 rfl (.nilS [6] rfl rfl (.drop .z (.drop .z (.ret (pret results3 (.t rfl .n) le650 ⟨(r653 == r657), rfl, hd⟩)))))))))
           refine .f [40] rfl (by kernel_rfl) rfl rfl (fun ex => .gno rfl rfl hb652 rfl rfl .mk) (.f [40] rfl (by kernel_rfl) rfl rfl (fun ex => .gno rfl rfl hb652 rfl rfl .mk) (.f [40] rfl (by kernel_rfl) rfl rfl (fun ex => .gno rfl rfl hb652 rfl rfl .mk) (.f [40] rfl (by kernel_rfl) rfl rfl (fun ex => .gno rfl rfl hb652 rfl rfl .mk) (.f [41, 42, 40, 40] rfl (by kernel_rfl) rfl rfl (fun ex => .gno rfl rfl hb652 rfl rfl .mk) (.f [44, 45, 43, 40] rfl (by kernel_rfl) rfl rfl (fun ex => .gno rfl rfl hb652 rfl rfl .mk) (.f [43, 46, 40] rfl (by kernel_rfl) rfl rfl (fun ex => .gno rfl rfl hb652 rfl rfl .mk) (.f [40, 47] rfl (by kernel_rfl) rfl rfl (fun ex => .pickF rfl hb652 rfl rfl rfl .mk) (.e 49 (by kernel_rfl) (by kernel_rfl) (by kernel_rfl) (.skips 1 rfl ?_)))))))))
           exact .nilS [6] rfl rfl (.drop .z (.drop .z (.ret (pret results3 (.t rfl .n) le650 ⟨false, rfl, hd⟩))))
         refine .f [31] rfl (by kernel_rfl) rfl rfl (fun ex => .gno rfl rfl hb626 rfl rfl .mk) (.f [31] rfl (by kernel_rfl) rfl rfl (fun ex => .gno rfl rfl hb626 rfl rfl .mk) (.f [32, 31, 31] rfl (by kernel_rfl) rfl rfl (fun ex => .gno rfl rfl hb626 rfl rfl .mk) (.f [34, 33, 31] rfl (by kernel_rfl) rfl rfl (fun ex => .gno rfl rfl hb626 rfl rfl .mk) (.f [35, 31] rfl (by kernel_rfl) rfl rfl (fun ex => .gno rfl rfl hb626 rfl rfl .mk) (.f [36, 31] rfl (by kernel_rfl) rfl rfl (fun ex => .gno rfl rfl hb626 rfl rfl .mk) (.f [33, 37, 31] rfl (by kernel_rfl) rfl rfl (fun ex => .gno rfl rfl hb626 rfl rfl .mk) (.f [31, 38] rfl (by kernel_rfl) rfl rfl (fun ex => .pickF rfl hb626 rfl rfl rfl .mk) (.fs [[39, 35], [40], [40], [40], [40], [41, 42, 40, 40], [44, 45, 43, 40], [43, 46, 40], [40, 47]] rfl (by kernel_rfl) (.e 49 (by kernel_rfl) (by kernel_rfl) (by kernel_rfl) ?_)))))))))
         exact .skips 1 rfl (.nilS [6] rfl rfl (.drop .z (.drop .z (.ret (pret results3 (.t rfl .n) le624 ⟨false, rfl, hd⟩)))))
       refine .f [22] rfl (by kernel_rfl) rfl rfl (fun ex => .gno rfl rfl hb600 rfl rfl .mk) (.f [22] rfl (by kernel_rfl) rfl rfl (fun ex => .gno rfl rfl hb600 rfl rfl .mk) (.f [23, 22, 22] rfl (by kernel_rfl) rfl rfl (fun ex => .gno rfl rfl hb600 rfl rfl .mk) (.f [25, 24, 22] rfl (by kernel_rfl) rfl rfl (fun ex => .gno rfl rfl hb600 rfl rfl .mk) (.f [26, 22] rfl (by kernel_rfl) rfl rfl (fun ex => .gno rfl rfl hb600 rfl rfl .mk) (.f [27, 22] rfl (by kernel_rfl) rfl rfl (fun ex => .gno rfl rfl hb600 rfl rfl .mk) (.f [24, 28, 22] rfl (by kernel_rfl) rfl rfl (fun ex => .gno rfl rfl hb600 rfl rfl .mk) (.f [22, 29] rfl (by kernel_rfl) rfl rfl (fun ex => .pickF rfl hb600 rfl rfl rfl .mk) (.fs [[30, 26], [31], [31], [32, 31, 31], [34, 33, 31], [35, 31], [36, 31], [33, 37, 31], [31, 38], [39, 35], [40], [40], [40], [40], [41, 42, 40, 40], [44, 45, 43, 40], [43, 46, 40], [40, 47]] rfl (by kernel_rfl) (.e 49 (by kernel_rfl) (by kernel_rfl) (by kernel_rfl) ?_)))))))))
       exact .skips 1 rfl (.nilS [6] rfl rfl (.drop .z (.drop .z (.ret (pret results3 (.t rfl .n) le594 ⟨false, rfl, hd⟩)))))
     refine .f [15] rfl (by kernel_rfl) rfl rfl (fun ex => .gno rfl rfl hb559 rfl rfl .mk) (.f [15] rfl (by kernel_rfl) rfl rfl (fun ex => .gno rfl rfl hb559 rfl rfl .mk) (.f [16, 15, 15] rfl (by kernel_rfl) rfl rfl (fun ex => .gno rfl rfl hb559 rfl rfl .mk) (.f [18, 17, 15] rfl (by kernel_rfl) rfl rfl (fun ex => .gno rfl rfl hb559 rfl rfl .mk) (.f [17, 19, 19, 15] rfl (by kernel_rfl) rfl rfl (fun ex => .gno rfl rfl hb559 rfl rfl .mk) (.f [15, 20] rfl (by kernel_rfl) rfl rfl (fun ex => .pickF rfl hb559 rfl rfl rfl .mk) (.fs [[21, 20], [22], [22], [23, 22, 22], [25, 24, 22], [26, 22], [27, 22], [24, 28, 22], [22, 29], [30, 26], [31], [31], [32, 31, 31], [34, 33, 31], [35, 31], [36, 31], [33, 37, 31], [31, 38], [39, 35], [40], [40], [40], [40], [41, 42, 40, 40], [44, 45, 43, 40], [43, 46, 40], [40, 47]] rfl (by kernel_rfl) (.e 49 (by kernel_rfl) (by kernel_rfl) (by kernel_rfl) (.skips 1 rfl (.nilS [6] rfl rfl ?_)))))))))
     exact .drop .z (.drop .z (.ret (pret results3 (.t rfl .n) le544 ⟨false, rfl, hd⟩)))
   refine .f [8] rfl (by kernel_rfl) rfl rfl (fun ex => .gno rfl rfl hb550 rfl rfl .mk) (.f [8] rfl (by kernel_rfl) rfl rfl (fun ex => .gno rfl rfl hb550 rfl rfl .mk) (.f [9, 8, 8] rfl (by kernel_rfl) rfl rfl (fun ex => .gno rfl rfl hb550 rfl rfl .mk) (.f [11, 10, 8] rfl (by kernel_rfl) rfl rfl (fun ex => .gno rfl rfl hb550 rfl rfl .mk) (.f [10, 12, 8] rfl (by kernel_rfl) rfl rfl (fun ex => .gno rfl rfl hb550 rfl rfl .mk) (.f [8, 13] rfl (by kernel_rfl) rfl rfl (fun ex => .pickF rfl hb550 rfl rfl rfl .mk) (.fs [[14, 12], [15], [15], [16, 15, 15], [18, 17, 15], [17, 19, 19, 15], [15, 20], [21, 20], [22], [22], [23, 22, 22], [25, 24, 22], [26, 22], [27, 22], [24, 28, 22], [22, 29], [30, 26], [31], [31], [32, 31, 31], [34, 33, 31], [35, 31], [36, 31], [33, 37, 31], [31, 38], [39, 35], [40], [40], [40], [40], [41, 42, 40, 40], [44, 45, 43, 40], [43, 46, 40], [40, 47]] rfl (by kernel_rfl) (.e 49 (by kernel_rfl) (by kernel_rfl) (by kernel_rfl) (.skips 1 rfl (.nilS [6] rfl rfl ?_)))))))))
   exact .drop .z (.drop .z (.ret (pret results3 (.t rfl .n) le544 ⟨false, rfl, hd⟩)))
 refine .f [1] rfl (by kernel_rfl) rfl rfl (fun ex => .gno rfl rfl hb503 rfl rfl .mk) (.f [1] rfl (by kernel_rfl) rfl rfl (fun ex => .gno rfl rfl hb503 rfl rfl .mk) (.f [2, 1, 1] rfl (by kernel_rfl) rfl rfl (fun ex => .gno rfl rfl hb503 rfl rfl .mk) (.f [4, 3, 1] rfl (by kernel_rfl) rfl rfl (fun ex => .gno rfl rfl hb503 rfl rfl .mk) (.f [3, 5, 5, 1] rfl (by kernel_rfl) rfl rfl (fun ex => .gno rfl rfl hb503 rfl rfl .mk) (.f [1, 6] rfl (by kernel_rfl) rfl rfl (fun ex => .pickF rfl hb503 rfl rfl rfl .mk) (.fs [[7, 6], [8], [8], [9, 8, 8], [11, 10, 8], [10, 12, 8], [8, 13], [14, 12], [15], [15], [16, 15, 15], [18, 17, 15], [17, 19, 19, 15], [15, 20], [21, 20], [22], [22], [23, 22, 22], [25, 24, 22], [26, 22], [27, 22], [24, 28, 22], [22, 29], [30, 26], [31], [31], [32, 31, 31], [34, 33, 31], [35, 31], [36, 31], [33, 37, 31], [31, 38], [39, 35], [40], [40], [40], [40], [41, 42, 40, 40], [44, 45, 43, 40], [43, 46, 40], [40, 47]] rfl (by kernel_rfl) (.e 49 (by kernel_rfl) (by kernel_rfl) (by kernel_rfl) (.skips 1 rfl (.nilS [6] rfl rfl ?_)))))))))
 exact .drop .z (.drop .z (.ret (pret results3 (.t rfl .n) le448 ⟨false, rfl, hd⟩)))

end Go.Proofs.YtjobeiikppmidaaGreat
