/- The walks (printed by a program of ours). -/
import Derived.Test.YtjobeiikppmidaaGreatSL
namespace Go.Proofs.YtjobeiikppmidaaGreat
open Go Go.Fw
set_option linter.unusedVariables false
set_option linter.unusedSimpArgs false
set_option maxRecDepth 8000
set_option maxHeartbeats 1000000
open Tryz
theorem W_dcsc_within {I : IH} {a0 : Int} {a1 : Int}  {Q : Bool → Prop}  (hd : dcsc_within a0 a1 Q) :
    PFun Tryz.prog 36 [.int .i64 a0, .int .i64 a1] I (fun I_ v => ∃ r, v = .bool r ∧ Q r) := by
 refine Fun.enter func36 rfl ntmps36 rfl (.c (.c .n)) fun w0 M => ?_
 refine .seq (.region (.skips 1 rfl (.nilS [1, 0] rfl rfl (.seq (.region (.skips 1 rfl (.ge rfl rfl rfl rfl (.skips 1 rfl ?_))))))))
 refine splitP hd (fun hb1 hd => ?_) fun hb1 hd => ?_
 · rw [hb1]
   exact .gyes rfl rfl rfl (.move rfl rfl rfl (.gyes rfl rfl rfl (.move rfl rfl rfl (.gyes rfl rfl rfl (.le' rfl rfl rfl rfl (.skips 2 rfl (.nilS [4] rfl rfl (.ret (pret results36 (.t rfl .n) (.refl _) ⟨(decide (a0 ≤ a1)), rfl, hd⟩)))))))))
 rw [hb1]
 exact .skips 5 rfl (.nilS [4] rfl rfl (.ret (pret results36 (.t rfl .n) (.refl _) ⟨false, rfl, hd⟩)))

theorem W_dcsc_rising {I : IH} {a0 : List Int} {a1 : Int} {p1 : Option Addr} {c2 : Nat} {Q : Bool → Prop} (R3 : RepSl eI64 I p1 c2 a0) (hd : dcsc_rising a0 a1 Q) :
    PFun Tryz.prog 37 [.slice p1 a0.length c2, .int .i64 a1] I (fun I_ v => ∃ r, v = .bool r ∧ Q r) := by
 refine Fun.enter func37 rfl ntmps37 rfl (.c (.c .n)) fun w0 M => ?_
 refine .seq (.region (.skips 1 rfl (.nilS [1, 0] rfl rfl (.seq (.seq (.region (.skips 1 rfl (.len underlying22 rfl rfl rfl rfl (.skips 1 rfl ?_)))))))))
 refine .nilS [9, 8, 7, 1, 0] rfl rfl (.block (.loop hd (fun (s68 : Int) c w => ∃ I_, IH.le I I_ ∧ Ok ⟨33, [], none⟩ [(0, .slice p1 a0.length c2), (1, .int .i64 a1), (7, .slice p1 a0.length c2), (8, .int .i64 (a0.length : Int)), (9, .int .i64 s68)] c ∧ Sym w0 M I I_ [] w) (fun c w ho hs => ⟨I, (.refl _), ho.sub ⟨rfl, rfl, rfl, rfl, rfl, trivial⟩, hs.pick .n⟩) ?_))
 rintro s68 next69 hd c w hst
 obtain ⟨I70, hl71, hok, hsym⟩ := hst
 have le72 := IH.le.trans (.refl _) hl71
 replace R3 := R3.mono hl71
 refine Cod.at hok hsym (.seq (.region (.lt rfl rfl rfl rfl (.nilS [10, 9, 8, 7, 1, 0] rfl rfl (.seq (.condP rfl hd (fun hb74 hd => ?_) fun hb74 hd => ?_))))))
 · refine .skipS [9, 8, 7, 1, 0] rfl rfl (.seq (.block (.seq (.region (.skips 1 rfl ?_)))))
   obtain ⟨h84, x85, hx86, hd⟩ := hd
   obtain ⟨b87, o88, cs89, e90, hC91, hr92⟩ := R3.2 _ _ hx86
   cases hr92
   refine .ixa underlying22 sizeOf3 rfl e90 rfl h84 (idx_lt hx86 h84) rfl rfl (.ld1 (j := 0) isAgg3 hC91 rfl rfl rfl rfl rfl (.skips 2 rfl (.nilS [6, 5, 9, 8, 7, 1, 0] rfl rfl (.seq (.region (.skips 2 rfl (.sub' rfl rfl rfl rfl ?_)))))))
   have hw94 := W_dcsc_within (I := I70) hd
   refine .callP call36 rfl hw94 rfl rfl fun v95 hv96 => ?_
   obtain ⟨r93, rfl, hd⟩ := hv96
   refine .not rfl rfl rfl (.skips 1 rfl ?_)
   refine splitP hd (fun hb97 hd => ?_) fun hb97 hd => ?_
   · rw [hb97]
     refine .skips 3 rfl (.gnoU rfl rfl rfl rfl (.gnoU rfl rfl rfl rfl (.gnoU rfl rfl rfl rfl (.gnoU rfl rfl rfl rfl (.gnoU rfl rfl rfl rfl (.gnoU rfl rfl rfl rfl (.gnoU rfl rfl rfl rfl (.skips 2 rfl (.nilS [31, 9, 8, 7, 1, 0] rfl rfl ?_)))))))))
     exact .condKT rfl rfl (.seq (.region (.skips 1 rfl (.nilS [4] rfl rfl (.ret (pret results37 (.t rfl .n) le72 ⟨false, rfl, hd⟩))))))
   rw [hb97]
   refine .gyes rfl rfl rfl (.move rfl rfl rfl (.gyes rfl rfl rfl (.gt rfl rfl rfl rfl (.gyes rfl rfl rfl (.move rfl rfl rfl ?_)))))
   refine splitP hd (fun hb98 hd => ?_) fun hb98 hd => ?_
   · rw [hb98]
     refine .gyes rfl rfl rfl (.move rfl rfl rfl (.gyes rfl rfl rfl (.move rfl rfl rfl (.gyes rfl rfl rfl (.sub' rfl rfl rfl rfl ?_)))))
     obtain ⟨h99, x100, hx101, hd⟩ := hd
     obtain ⟨b102, o103, cs104, e105, hC106, hr107⟩ := R3.2 _ _ hx101
     cases hr107
     refine .gyes rfl rfl rfl (.ixa underlying22 sizeOf3 rfl e105 rfl h99 (idx_lt hx101 h99) rfl rfl (.gyes rfl rfl rfl (.ld1 (j := 0) isAgg3 hC106 rfl rfl rfl rfl rfl (.gyes rfl rfl rfl (.move rfl rfl rfl (.gyes rfl rfl rfl (.ge rfl rfl rfl rfl (.gyes rfl rfl rfl (.pickT rfl rfl rfl rfl rfl (.skips 1 rfl (.nilS [31, 9, 8, 7, 1, 0] rfl rfl (.condP rfl hd (fun hb108 hd => ?_) fun hb108 hd => ?_))))))))))))
     · exact .seq (.region (.skips 1 rfl (.nilS [4] rfl rfl (.ret (pret results37 (.t rfl .n) le72 ⟨false, rfl, hd⟩)))))
     exact .skipS [9, 8, 7, 1, 0] rfl rfl (.region (.add rfl rfl rfl rfl (.sub (E' := [(0, _), (1, _), (7, _), (8, _), (32, _)]) ⟨rfl, rfl, rfl, rfl, rfl, trivial⟩ (.skips 1 rfl (.nil' fun c w ho hs => ⟨(w64 (s68 + 1)), hd, I70, le72, ho.sub ⟨rfl, rfl, rfl, rfl, rfl, trivial⟩, hs.pick .n⟩)))))
   rw [hb98]
   refine .skips 7 rfl (.gyes rfl rfl rfl (.pickF rfl rfl rfl rfl rfl (.skips 1 rfl (.nilS [31, 9, 8, 7, 1, 0] rfl rfl (.condKF rfl rfl (.skipS [9, 8, 7, 1, 0] rfl rfl (.region (.add rfl rfl rfl rfl (.sub (E' := [(0, _), (1, _), (7, _), (8, _), (32, _)]) ⟨rfl, rfl, rfl, rfl, rfl, trivial⟩ (.skips 1 rfl ?_))))))))))
   exact .nil' fun c w ho hs => ⟨(w64 (s68 + 1)), hd, I70, le72, ho.sub ⟨rfl, rfl, rfl, rfl, rfl, trivial⟩, hs.pick .n⟩
 exact .exitS [] rfl rfl (.seq (.region (.skips 1 rfl (.nilS [4] rfl rfl (.ret (pret results37 (.t rfl .n) le72 ⟨true, rfl, hd⟩))))))

theorem W_dcsc_Right {I : IH} {a0 : Columns} {p1 : Option Addr} {c2 : Nat} {p4 : Option Addr} {c5 : Nat} {p7 : Option Addr} {c8 : Nat} {p10 : Option Addr} {c11 : Nat} {Q : Bool → Prop} (R3 : RepSl eI64 I p1 c2 a0.At) (R6 : RepSl eI64 I p4 c5 a0.Start) (R9 : RepSl eI64 I p7 c8 a0.Row) (R12 : RepSl eI64 I p10 c11 a0.Val) (hd : dcsc_Right a0 Q) :
    PFun Tryz.prog 12 [.agg #[.int .i64 a0.Rows, .int .i64 a0.Cols, .slice p1 a0.At.length c2, .slice p4 a0.Start.length c5, .slice p7 a0.Row.length c8, .slice p10 a0.Val.length c11]] I (fun I_ v => ∃ r, v = .bool r ∧ Q r) := by
 refine Fun.enter func12 rfl ntmps12 rfl (.c .n) fun w0 M => ?_
 refine .seq (.region (.boxA rfl rfl rfl fun b15 => ?_))
 refine .skips 1 rfl (.nilS [1] rfl rfl (.seq (.region (.fieldAddr underlying27 rfl sizeOf22 rfl (o := 4) rfl rfl rfl (.load1 isAgg22 rfl .z rfl rfl rfl (.len underlying22 rfl rfl rfl rfl (.skips 1 rfl (.nilS [3, 1] rfl rfl (.seq ?_)))))))))
 refine .seq (.region (.fieldAddr underlying27 rfl sizeOf3 rfl (o := 0) rfl rfl rfl (.load1 isAgg3 rfl .z rfl rfl rfl ?_)))
 have hw31 := W_dcsc_within (I := I) hd
 refine .callP call36 rfl hw31 rfl rfl fun v32 hv33 => ?_
 obtain ⟨r30, rfl, hd⟩ := hv33
 refine .not rfl rfl rfl (.skips 1 rfl ?_)
 refine splitP hd (fun hb34 hd => ?_) fun hb34 hd => ?_
 · rw [hb34]
   exact .skips 26 rfl (.nilS [38, 3, 1] rfl rfl (.condKT rfl rfl (.seq (.region (.skips 1 rfl (.nilS [2] rfl rfl (.drop .z (.ret (pret results12 (.t rfl .n) (.refl _) ⟨false, rfl, hd⟩)))))))))
 rw [hb34]
 refine .gyes rfl rfl rfl (.fieldAddr underlying27 rfl sizeOf3 rfl (o := 1) rfl rfl rfl (.gyes rfl rfl rfl (.load1 isAgg3 rfl .z rfl rfl rfl ?_)))
 have hw36 := W_dcsc_within (I := I) hd
 refine .gyes rfl rfl rfl (.callP call36 rfl hw36 rfl rfl fun v37 hv38 => ?_)
 obtain ⟨r35, rfl, hd⟩ := hv38
 refine .gyes rfl rfl rfl (.not rfl rfl rfl (.skips 2 rfl ?_))
 refine splitP hd (fun hb39 hd => ?_) fun hb39 hd => ?_
 · rw [hb39]
   exact .skips 20 rfl (.nilS [38, 3, 1] rfl rfl (.condKT rfl rfl (.seq (.region (.skips 1 rfl (.nilS [2] rfl rfl (.drop .z (.ret (pret results12 (.t rfl .n) (.refl _) ⟨false, rfl, hd⟩)))))))))
 rw [hb39]
 refine .gyes rfl rfl rfl (.fieldAddr underlying27 rfl sizeOf22 rfl (o := 3) rfl rfl rfl (.gyes rfl rfl rfl (.load1 isAgg22 rfl .z rfl rfl rfl (.gyes rfl rfl rfl (.len underlying22 rfl rfl rfl rfl (.gyes rfl rfl rfl (.fieldAddr underlying27 rfl sizeOf22 rfl (o := 2) rfl rfl rfl (.gyes rfl rfl rfl (.load1 isAgg22 rfl .z rfl rfl rfl (.gyes rfl rfl rfl (.len underlying22 rfl rfl rfl rfl (.gyes rfl rfl rfl (.add rfl rfl rfl rfl (.gyes rfl rfl rfl (.ne rfl rfl rfl rfl (.skips 2 rfl ?_))))))))))))))))
 refine splitP hd (fun hb40 hd => ?_) fun hb40 hd => ?_
 · rw [hb40]
   exact .skips 10 rfl (.nilS [38, 3, 1] rfl rfl (.condKT rfl rfl (.seq (.region (.skips 1 rfl (.nilS [2] rfl rfl (.drop .z (.ret (pret results12 (.t rfl .n) (.refl _) ⟨false, rfl, hd⟩)))))))))
 rw [hb40]
 refine .gyes rfl rfl rfl (.fieldAddr underlying27 rfl sizeOf23 rfl (o := 5) rfl rfl rfl (.gyes rfl rfl rfl (.load1 isAgg23 rfl .z rfl rfl rfl (.gyes rfl rfl rfl (.len underlying23 rfl rfl rfl rfl (.gyes rfl rfl rfl (.move rfl rfl rfl (.gyes rfl rfl rfl (.ne rfl rfl rfl rfl (.skips 2 rfl ?_))))))))))
 refine splitP hd (fun hb41 hd => ?_) fun hb41 hd => ?_
 · rw [hb41]
   exact .skips 3 rfl (.nilS [38, 3, 1] rfl rfl (.condKT rfl rfl (.seq (.region (.skips 1 rfl (.nilS [2] rfl rfl (.drop .z (.ret (pret results12 (.t rfl .n) (.refl _) ⟨false, rfl, hd⟩)))))))))
 rw [hb41]
 refine .gyes rfl rfl rfl (.move rfl rfl rfl (.gyes rfl rfl rfl (.gt rfl rfl rfl rfl (.skips 1 rfl (.nilS [38, 3, 1] rfl rfl (.condP rfl hd (fun hb42 hd => ?_) fun hb42 hd => ?_))))))
 · exact .seq (.region (.skips 1 rfl (.nilS [2] rfl rfl (.drop .z (.ret (pret results12 (.t rfl .n) (.refl _) ⟨false, rfl, hd⟩))))))
 refine .skipS [3, 1] rfl rfl (.seq (.seq (.region (.fieldAddr underlying27 rfl sizeOf22 rfl (o := 2) rfl rfl rfl (.load1 isAgg22 rfl .z rfl rfl rfl (.fieldAddr underlying27 rfl sizeOf3 rfl (o := 1) rfl rfl rfl (.load1 isAgg3 rfl .z rfl rfl rfl ?_)))))))
 have hw74 := W_dcsc_rising (I := I) R3 hd
 refine .callP call37 rfl hw74 rfl rfl fun v75 hv76 => ?_
 obtain ⟨r73, rfl, hd⟩ := hv76
 refine .not rfl rfl rfl (.skips 1 rfl ?_)
 refine splitP hd (fun hb77 hd => ?_) fun hb77 hd => ?_
 · rw [hb77]
   exact .skips 25 rfl (.nilS [70, 1] rfl rfl (.condKT rfl rfl (.seq (.region (.skips 1 rfl (.nilS [2] rfl rfl (.drop .z (.ret (pret results12 (.t rfl .n) (.refl _) ⟨false, rfl, hd⟩)))))))))
 rw [hb77]
 refine .gyes rfl rfl rfl (.fieldAddr underlying27 rfl sizeOf22 rfl (o := 3) rfl rfl rfl (.gyes rfl rfl rfl (.load1 isAgg22 rfl .z rfl rfl rfl (.gyes rfl rfl rfl (.move rfl rfl rfl (.gyes rfl rfl rfl (.add rfl rfl rfl rfl ?_)))))))
 have hw79 := W_dcsc_rising (I := I) R6 hd
 refine .gyes rfl rfl rfl (.callP call37 rfl hw79 rfl rfl fun v80 hv81 => ?_)
 obtain ⟨r78, rfl, hd⟩ := hv81
 refine .gyes rfl rfl rfl (.not rfl rfl rfl (.skips 2 rfl ?_))
 refine splitP hd (fun hb82 hd => ?_) fun hb82 hd => ?_
 · rw [hb82]
   exact .skips 17 rfl (.nilS [70, 1] rfl rfl (.condKT rfl rfl (.seq (.region (.skips 1 rfl (.nilS [2] rfl rfl (.drop .z (.ret (pret results12 (.t rfl .n) (.refl _) ⟨false, rfl, hd⟩)))))))))
 rw [hb82]
 refine .gyes rfl rfl rfl (.fieldAddr underlying27 rfl sizeOf22 rfl (o := 3) rfl rfl rfl (.gyes rfl rfl rfl (.load1 isAgg22 rfl .z rfl rfl rfl ?_)))
 obtain ⟨h83, x84, hx85, hd⟩ := hd
 obtain ⟨b86, o87, cs88, e89, hC90, hr91⟩ := R6.2 _ _ hx85
 cases hr91
 refine .gyes rfl rfl rfl (.ixa underlying22 sizeOf3 rfl e89 rfl h83 (idx_lt hx85 h83) rfl rfl (.gyes rfl rfl rfl (.ld1 (j := 0) isAgg3 hC90 rfl rfl rfl rfl rfl (.gyes rfl rfl rfl (.ne rfl rfl rfl rfl (.skips 2 rfl ?_))))))
 refine splitP hd (fun hb92 hd => ?_) fun hb92 hd => ?_
 · rw [hb92]
   exact .skips 10 rfl (.nilS [70, 1] rfl rfl (.condKT rfl rfl (.seq (.region (.skips 1 rfl (.nilS [2] rfl rfl (.drop .z (.ret (pret results12 (.t rfl .n) (.refl _) ⟨false, rfl, hd⟩)))))))))
 rw [hb92]
 refine .gyes rfl rfl rfl (.fieldAddr underlying27 rfl sizeOf22 rfl (o := 3) rfl rfl rfl (.gyes rfl rfl rfl (.load1 isAgg22 rfl .z rfl rfl rfl (.gyes rfl rfl rfl (.fieldAddr underlying27 rfl sizeOf22 rfl (o := 2) rfl rfl rfl (.gyes rfl rfl rfl (.load1 isAgg22 rfl .z rfl rfl rfl (.gyes rfl rfl rfl (.len underlying22 rfl rfl rfl rfl ?_)))))))))
 obtain ⟨h93, x94, hx95, hd⟩ := hd
 obtain ⟨b96, o97, cs98, e99, hC100, hr101⟩ := R6.2 _ _ hx95
 cases hr101
 refine .gyes rfl rfl rfl (.ixa underlying22 sizeOf3 rfl e99 rfl h93 (idx_lt hx95 h93) rfl rfl (.gyes rfl rfl rfl (.ld1 (j := 0) isAgg3 hC100 rfl rfl rfl rfl rfl (.gyes rfl rfl rfl (.move rfl rfl rfl (.gyes rfl rfl rfl (.ne rfl rfl rfl rfl (.skips 1 rfl (.nilS [70, 1] rfl rfl (.condP rfl hd (fun hb102 hd => ?_) fun hb102 hd => ?_))))))))))
 · exact .seq (.region (.skips 1 rfl (.nilS [2] rfl rfl (.drop .z (.ret (pret results12 (.t rfl .n) (.refl _) ⟨false, rfl, hd⟩))))))
 refine .skipS [1] rfl rfl (.seq (.seq (.region (.fieldAddr underlying27 rfl sizeOf22 rfl (o := 2) rfl rfl rfl (.load1 isAgg22 rfl .z rfl rfl rfl (.len underlying22 rfl rfl rfl rfl (.skips 1 rfl (.nilS [74, 73, 1] rfl rfl (.block ?_)))))))))
 refine .loop hd (fun (s176 : Int) c w => ∃ I_, IH.le I I_ ∧ Ok ⟨96, [], none⟩ [(1, .pointer (some ⟨b15, 0, none⟩)), (73, .int .i64 (a0.At.length : Int)), (74, .int .i64 s176)] c ∧ Sym w0 M I I_ [pto b15 (.cells #[.int .i64 a0.Rows, .int .i64 a0.Cols, .slice p1 a0.At.length c2, .slice p4 a0.Start.length c5, .slice p7 a0.Row.length c8, .slice p10 a0.Val.length c11] 27 (0, 0))] w) (fun c w ho hs => ⟨I, (.refl _), ho.sub ⟨rfl, rfl, rfl, trivial⟩, hs.pick (.c .z .n)⟩) ?_
 rintro s176 next177 hd c w hst
 obtain ⟨I178, hl179, hok, hsym⟩ := hst
 have le180 := IH.le.trans (.refl _) hl179
 replace R3 := R3.mono hl179
 replace R6 := R6.mono hl179
 replace R9 := R9.mono hl179
 replace R12 := R12.mono hl179
 refine Cod.at hok hsym (.seq (.region (.lt rfl rfl rfl rfl (.nilS [75, 74, 73, 1] rfl rfl (.seq (.condP rfl hd (fun hb182 hd => ?_) fun hb182 hd => ?_))))))
 · refine .skipS [74, 73, 1] rfl rfl (.seq (.block (.seq (.region (.skips 2 rfl (.nilS [4, 74, 73, 1] rfl rfl (.seq (.draw [some 0, some 1, some 2, some 3, some 4, some 5, some 6, some 7, some 8, some 9, some 10, some 11, some 12, some 13, some 14, some 15, some 16, some 17] 18 MX (by kernel_rfl) (by kernel_rfl) (by kernel_rfl) (by kernel_rfl) (by kernel_rfl) (by kernel_rfl) (by kernel_rfl) (fun ex => (pto b15 (.cells #[.int .i64 a0.Rows, .int .i64 a0.Cols, .slice p1 a0.At.length c2, .slice p4 a0.Start.length c5, .slice p7 a0.Row.length c8, .slice p10 a0.Val.length c11] 27 (0, 0))) :: ex) (fun _ _ => (.s .z)) rfl (.f [] rfl (by kernel_rfl) rfl rfl (fun ex => .fieldAddr underlying27 rfl sizeOf22 rfl (o := 4) rfl rfl rfl .mk) ?_)))))))))
   refine .f [0] rfl (by kernel_rfl) rfl rfl (fun ex => .load1 isAgg22 rfl .z rfl rfl rfl .mk) (.f [] rfl (by kernel_rfl) rfl rfl (fun ex => .fieldAddr underlying27 rfl sizeOf22 rfl (o := 3) rfl rfl rfl .mk) (.f [2] rfl (by kernel_rfl) rfl rfl (fun ex => .load1 isAgg22 rfl .z rfl rfl rfl .mk) (.fs [[]] rfl (by kernel_rfl) ?_)))
   obtain ⟨h183, x184, hx185, hd⟩ := hd
   obtain ⟨b186, o187, cs188, e189, hC190, hr191⟩ := R6.2 _ _ hx185
   cases hr191
   refine .f [3, 4] rfl (by kernel_rfl) rfl rfl (fun ex => .ixa underlying22 sizeOf3 rfl e189 rfl h183 (idx_lt hx185 h183) rfl rfl .mk) (.f [5] rfl (by kernel_rfl) rfl rfl (fun ex => .ld1 (j := 0) isAgg3 hC190 rfl rfl rfl rfl rfl .mk) (.f [] rfl (by kernel_rfl) rfl rfl (fun ex => .fieldAddr underlying27 rfl sizeOf22 rfl (o := 3) rfl rfl rfl .mk) (.f [7] rfl (by kernel_rfl) rfl rfl (fun ex => .load1 isAgg22 rfl .z rfl rfl rfl .mk) (.fs [[]] rfl (by kernel_rfl) (.f [9] rfl (by kernel_rfl) rfl rfl (fun ex => .add rfl rfl rfl rfl .mk) ?_)))))
   obtain ⟨h192, x193, hx194, hd⟩ := hd
   obtain ⟨b195, o196, cs197, e198, hC199, hr200⟩ := R6.2 _ _ hx194
   cases hr200
   refine .f [8, 10] rfl (by kernel_rfl) rfl rfl (fun ex => .ixa underlying22 sizeOf3 rfl e198 rfl h192 (idx_lt hx194 h192) rfl rfl .mk) (.f [11] rfl (by kernel_rfl) rfl rfl (fun ex => .ld1 (j := 0) isAgg3 hC199 rfl rfl rfl rfl rfl .mk) ?_)
   obtain ⟨h201, h202, h203, hd⟩ := hd
   have h209 : Int.toNat x184 ≤ Int.toNat x193 := by omega
   have h210 : Int.toNat x193 ≤ a0.Row.length := by omega
   obtain ⟨p204, c205, e207, e208, R206⟩ := RepSl.sliceW R9 (Int.toNat x184) (Int.toNat x193) c8 h209 h210 (.inl rfl)
   refine .f [1, 6, 12] rfl (by kernel_rfl) rfl rfl (fun ex => .sliceW (L := Int.toNat x184) (H := Int.toNat x193) (cm := c8) underlying22 sizeOf3 rfl rfl R9.1 rfl rfl rfl (.inr ⟨_, _, rfl, h201, rfl⟩) (.inr ⟨_, _, rfl, (by omega), rfl⟩) (.inl rfl) h209 h210 rfl e207 e208 rfl rfl .mk) (.f [] rfl (by kernel_rfl) rfl rfl (fun ex => .fieldAddr underlying27 rfl sizeOf3 rfl (o := 0) rfl rfl rfl .mk) (.f [14] rfl (by kernel_rfl) rfl rfl (fun ex => .load1 isAgg3 rfl .z rfl rfl rfl .mk) (.w [] [[], [15], [], [13], [12, 13], [11, 12, 13], [10, 11, 12, 13], [11, 12, 13], [8, 11, 12, 13], [13], [6, 13], [5, 6, 13], [5, 6, 13], [3, 5, 6, 13], [13], [1, 13]] [13, 15] rfl (by kernel_rfl) (by kernel_rfl) (by kernel_rfl) ((dropE_kept rfl rfl)) (.inr (dropE_kept rfl rfl)) fun ex => ?_)))
   have hw212 := W_dcsc_rising (I := I178) R206 hd
   refine .callP call37 rfl hw212 rfl rfl fun v213 hv214 => ?_
   obtain ⟨r211, rfl, hd⟩ := hv214
   refine .some (fun ex => (pto b15 (.cells #[.int .i64 a0.Rows, .int .i64 a0.Cols, .slice p1 a0.At.length c2, .slice p4 a0.Start.length c5, .slice p7 a0.Row.length c8, .slice p10 a0.Val.length c11] 27 (0, 0))) :: ex) rfl (fun _ _ => (.s .z)) rfl trivial (.f [16] rfl (by kernel_rfl) rfl rfl (fun ex => .not rfl rfl rfl .mk) (.e 18 (by kernel_rfl) (by kernel_rfl) (by kernel_rfl) (.nilS [94, 74, 73, 1] rfl rfl (.condP rfl hd (fun hb215 hd => ?_) fun hb215 hd => ?_))))
   · exact .seq (.region (.skips 1 rfl (.nilS [2] rfl rfl (.drop .z (.ret (pret results12 (.t rfl .n) le180 ⟨false, rfl, hd⟩))))))
   exact .skipS [74, 73, 1] rfl rfl (.region (.add rfl rfl rfl rfl (.sub (E' := [(1, _), (73, _), (95, _)]) ⟨rfl, rfl, rfl, trivial⟩ (.skips 1 rfl (.nil' fun c w ho hs => ⟨(w64 (s176 + 1)), hd, I178, le180, ho.sub ⟨rfl, rfl, rfl, trivial⟩, hs.pick (.c .z .n)⟩)))))
 exact .exitS [] rfl rfl (.drop .z (.seq (.region (.skips 1 rfl (.nilS [2] rfl rfl (.ret (pret results12 (.t rfl .n) le180 ⟨true, rfl, hd⟩)))))))

theorem W_dcsc_none {I : IH}   {Q : Columns → Prop}  (hd : dcsc_none Q) :
    OFun Tryz.prog 30 [] I (fun I_ v l => ∃ r p1 c2 p4 c5 p7 c8 p10 c11, v = .agg #[.int .i64 r.Rows, .int .i64 r.Cols, .slice p1 r.At.length c2, .slice p4 r.Start.length c5, .slice p7 r.Row.length c8, .slice p10 r.Val.length c11] ∧ l = [OwnSl eI64 3 p1 c2 r.At, OwnSl eI64 3 p4 c5 r.Start, OwnSl eI64 3 p7 c8 r.Row, OwnSl eI64 2 p10 c11 r.Val] ∧ Q r) := by
 refine Fun.enter func30 rfl ntmps30 rfl .n fun w0 M => ?_
 refine .seq (.region (.allocA zeroValue27 rfl rfl fun b13 => ?_))
 refine .nilS [0] rfl rfl (.seq (.region (.buildSlice 1 underlying22 sizeOf3 zeroValue3 rfl rfl (.c rfl rfl rfl .n) rfl rfl fun b15 => ?_)))
 exact .ownB (El := eI64) (ys := ([0] : List Int)) .z (.one rfl) rfl (.build zeroValue27 underlying27 BI27 (.c rfl rfl rfl (.s (.s (.s (.t .nil)))) .n) (by exact ⟨⟨_, _, rfl, rfl, rfl⟩, trivial⟩) rfl rfl (.storeA sizeOf27 rfl rfl (.s .z) (.t (.t (.t (.t (.t (.t .nil)))))) rfl rfl (.nilS [0] rfl rfl (.own0 eI64 3 (.own0 eI64 3 (.own0 eI64 2 (.ret (oret results30 (.w isAgg27 sizeOf27 rfl (.s (.s (.s (.s .z)))) rfl .n) (.refl _) (.c (.s (.s .z)) (.c (.s (.s .z)) (.c (.s .z) (.c .z .n)))) ⟨({ Rows := 0, Cols := 0, At := ([] : List Int), Start := ([0] : List Int), Row := ([] : List Int), Val := ([] : List Int) } : Columns), _, _, _, _, _, _, _, _, rfl, rfl, hd⟩))))))))

theorem W_dcsc_sure {I : IH} {a0 : Columns} {p1 : Option Addr} {c2 : Nat} {p4 : Option Addr} {c5 : Nat} {p7 : Option Addr} {c8 : Nat} {p10 : Option Addr} {c11 : Nat} {Q : Columns → Prop} (R3 : RepSl eI64 I p1 c2 a0.At) (R6 : RepSl eI64 I p4 c5 a0.Start) (R9 : RepSl eI64 I p7 c8 a0.Row) (R12 : RepSl eI64 I p10 c11 a0.Val) (hd : dcsc_sure a0 Q) :
    PFun Tryz.prog 24 [.agg #[.int .i64 a0.Rows, .int .i64 a0.Cols, .slice p1 a0.At.length c2, .slice p4 a0.Start.length c5, .slice p7 a0.Row.length c8, .slice p10 a0.Val.length c11]] I (fun I_ v => ∃ r p13 c14 p16 c17 p19 c20 p22 c23, v = .agg #[.int .i64 r.Rows, .int .i64 r.Cols, .slice p13 r.At.length c14, .slice p16 r.Start.length c17, .slice p19 r.Row.length c20, .slice p22 r.Val.length c23] ∧ RepSl eI64 I_ p13 c14 r.At ∧ RepSl eI64 I_ p16 c17 r.Start ∧ RepSl eI64 I_ p19 c20 r.Row ∧ RepSl eI64 I_ p22 c23 r.Val ∧ Q r) := by
 refine Fun.enter func24 rfl ntmps24 rfl (.c .n) fun w0 M => ?_
 refine .seq (.region (.boxA rfl rfl rfl fun b29 => ?_))
 refine .allocA zeroValue27 rfl rfl fun b31 => ?_
 refine .nilS [2, 1] rfl rfl (.seq (.seq (.region (.loadW isAgg27 sizeOf27 rfl (.s .z) rfl rfl rfl ?_))))
 have hw34 := W_dcsc_Right (I := I) R3 R6 R9 R12 hd
 refine .callP call12 rfl hw34 rfl rfl fun v35 hv36 => ?_
 obtain ⟨r33, rfl, hd⟩ := hv36
 refine .nilS [4, 2, 1] rfl rfl (.condP rfl hd (fun hb37 hd => ?_) fun hb37 hd => ?_)
 · exact .seq (.region (.loadW isAgg27 sizeOf27 rfl (.s .z) rfl rfl rfl (.storeA sizeOf27 rfl rfl .z (.t (.t (.t (.t (.t (.t .nil)))))) rfl rfl (.nilS [2] rfl rfl (.drop (.s .z) (.ret (pret results24 (.w isAgg27 sizeOf27 rfl .z rfl .n) (.refl _) ⟨a0, _, _, _, _, _, _, _, _, rfl, R3, R6, R9, R12, hd⟩)))))))
 refine .skipS [2] rfl rfl (.drop (.s .z) (.seq (.region ?_)))
 have hw60 := W_dcsc_none (I := I) hd
 refine .callO call30 rfl hw60 rfl rfl fun v42 I39 l43 hl40 hv41 => ?_
 obtain ⟨r38, p44, c45, p47, c48, p50, c51, p53, c54, rfl, rfl, hd⟩ := hv41
 have le61 := IH.le.trans (.refl _) hl40
 refine .storeA sizeOf27 rfl rfl (.s (.s (.s (.s .z)))) (.t (.t (.t (.t (.t (.t .nil)))))) rfl rfl (.nilS [2] rfl rfl (.pub .z fun I62 hl63 R64 => ?_))
 have le65 := IH.le.trans le61 hl63
 refine .pub .z fun I66 hl67 R68 => ?_
 have le69 := IH.le.trans le65 hl67
 replace R64 := R64.mono hl67
 refine .pub .z fun I70 hl71 R72 => ?_
 have le73 := IH.le.trans le69 hl71
 replace R64 := R64.mono hl71
 replace R68 := R68.mono hl71
 refine .pub .z fun I74 hl75 R76 => ?_
 have le77 := IH.le.trans le73 hl75
 replace R64 := R64.mono hl75
 replace R68 := R68.mono hl75
 replace R72 := R72.mono hl75
 exact .ret (pret results24 (.w isAgg27 sizeOf27 rfl .z rfl .n) le77 ⟨r38, _, _, _, _, _, _, _, _, rfl, R64, R68, R72, R76, hd⟩)

theorem W_dcsc_place {I : IH} {a0 : Columns} {a1 : Int} {p1 : Option Addr} {c2 : Nat} {p4 : Option Addr} {c5 : Nat} {p7 : Option Addr} {c8 : Nat} {p10 : Option Addr} {c11 : Nat} {Q : Int → Prop} (R3 : RepSl eI64 I p1 c2 a0.At) (R6 : RepSl eI64 I p4 c5 a0.Start) (R9 : RepSl eI64 I p7 c8 a0.Row) (R12 : RepSl eI64 I p10 c11 a0.Val) (hd : dcsc_place a0 a1 Q) :
    PFun Tryz.prog 25 [.agg #[.int .i64 a0.Rows, .int .i64 a0.Cols, .slice p1 a0.At.length c2, .slice p4 a0.Start.length c5, .slice p7 a0.Row.length c8, .slice p10 a0.Val.length c11], .int .i64 a1] I (fun I_ v => ∃ r, v = .int .i64 r ∧ Q r) := by
 refine Fun.enter func25 rfl ntmps25 rfl (.c (.c .n)) fun w0 M => ?_
 refine .seq (.region (.boxA rfl rfl rfl fun b15 => ?_))
 refine .skips 1 rfl (.nilS [2, 1] rfl rfl (.scope (.seq (.draw [some 0, some 1, some 2, some 3] 4 MX (by kernel_rfl) (by kernel_rfl) (by kernel_rfl) (by kernel_rfl) (by kernel_rfl) (by kernel_rfl) (by kernel_rfl) (fun ex => (pto b15 (.cells #[.int .i64 a0.Rows, .int .i64 a0.Cols, .slice p1 a0.At.length c2, .slice p4 a0.Start.length c5, .slice p7 a0.Row.length c8, .slice p10 a0.Val.length c11] 27 (0, 0))) :: ex) (fun _ _ => (.s .z)) rfl (.f [] rfl (by kernel_rfl) rfl rfl (fun ex => .fieldAddr underlying27 rfl sizeOf22 rfl (o := 2) rfl rfl rfl .mk) (.f [0] rfl (by kernel_rfl) rfl rfl (fun ex => .load1 isAgg22 rfl .z rfl rfl rfl .mk) (.f [1] rfl (by kernel_rfl) rfl rfl (fun ex => .len underlying22 rfl rfl rfl rfl .mk) (.fs [[]] rfl (by kernel_rfl) (.e 4 (by kernel_rfl) (by kernel_rfl) (by kernel_rfl) ?_)))))))))
 refine .skips 1 rfl (.nilS [6, 5, 2, 1] rfl rfl (.seq (.labelS [6, 5, 2, 1] rfl rfl (.seq ?_))))
 refine Cod.joinQ (σ := Int × Int) hd (fun (s : Int × Int) c w => match s with | (s227, s228) => ∃ I_, IH.le I I_ ∧ Ok ⟨44, [], none⟩ [(5, .int .i64 s227), (6, .int .i64 s228)] c ∧ Sym w0 M I I_ [] w) (fun k229 hd => ?_) ?_
 · skip
   refine .block (.loop hd (fun (s : Int × Int) c w => match s with | (s298, s299) => ∃ I_, IH.le I I_ ∧ Ok ⟨44, [], none⟩ [(1, .int .i64 a1), (2, .pointer (some ⟨b15, 0, none⟩)), (5, .int .i64 s298), (6, .int .i64 s299)] c ∧ Sym w0 M I I_ [pto b15 (.cells #[.int .i64 a0.Rows, .int .i64 a0.Cols, .slice p1 a0.At.length c2, .slice p4 a0.Start.length c5, .slice p7 a0.Row.length c8, .slice p10 a0.Val.length c11] 27 (0, 0))] w) (fun c w ho hs => ⟨I, (.refl _), ho.sub ⟨rfl, rfl, rfl, rfl, trivial⟩, hs.pick (.c .z .n)⟩) ?_)
   rintro ⟨s298, s299⟩ next300 hd c w hst
   obtain ⟨I301, hl302, hok, hsym⟩ := hst
   have le303 := IH.le.trans (.refl _) hl302
   replace R3 := R3.mono hl302
   replace R6 := R6.mono hl302
   replace R9 := R9.mono hl302
   replace R12 := R12.mono hl302
   refine Cod.at hok hsym (.seq (.seq (.region (.skips 2 rfl (.lt rfl rfl rfl rfl (.nilS [13, 6, 5, 2, 1] rfl rfl (.condP rfl hd (fun hb305 hd => ?_) fun hb305 hd => ?_)))))))
   · refine .skipS [6, 5, 2, 1] rfl rfl (.block (.seq (.region (.skips 3 rfl (.sub' rfl rfl rfl rfl (.quo rfl rfl (by decide) rfl rfl (.add rfl rfl rfl rfl (.skips 1 rfl (.nilS [7, 6, 5, 2, 1] rfl rfl ?_)))))))))
     refine .block (.seq (.region (.fieldAddr underlying27 rfl sizeOf22 rfl (o := 2) rfl rfl rfl (.load1 isAgg22 rfl .z rfl rfl rfl (.skips 1 rfl ?_)))))
     obtain ⟨h315, x316, hx317, hd⟩ := hd
     obtain ⟨b318, o319, cs320, e321, hC322, hr323⟩ := R3.2 _ _ hx317
     cases hr323
     refine .ixa underlying22 sizeOf3 rfl e321 rfl h315 (idx_lt hx317 h315) rfl rfl (.ld1 (j := 0) isAgg3 hC322 rfl rfl rfl rfl rfl (.skips 1 rfl (.eq rfl rfl rfl rfl (.skips 1 rfl (.nilS [21, 7, 6, 5, 2, 1] rfl rfl (.condP rfl hd (fun hb324 hd => ?_) fun hb324 hd => ?_))))))
     · exact .seq (.region (.skips 1 rfl (.sub (E' := [(1, _), (2, _), (6, _), (7, _), (21, _), (29, _)]) ⟨rfl, rfl, rfl, rfl, rfl, rfl, trivial⟩ (.skips 1 rfl (.nilS [5, 6] rfl rfl (.drop .z (.exit fun c w ho hs => ⟨(w64 (s298 + (w64 ((w64 (s299 - s298)).tdiv 2))), s299), hd, I301, le303, ho.sub ⟨rfl, rfl, trivial⟩, hs.pick .n⟩)))))))
     refine .seq (.region (.fieldAddr underlying27 rfl sizeOf22 rfl (o := 2) rfl rfl rfl (.load1 isAgg22 rfl .z rfl rfl rfl (.skips 1 rfl ?_))))
     obtain ⟨h325, x326, hx327, hd⟩ := hd
     obtain ⟨b328, o329, cs330, e331, hC332, hr333⟩ := R3.2 _ _ hx327
     cases hr333
     refine .ixa underlying22 sizeOf3 rfl e331 rfl h325 (idx_lt hx327 h325) rfl rfl (.ld1 (j := 0) isAgg3 hC332 rfl rfl rfl rfl rfl (.skips 1 rfl (.lt rfl rfl rfl rfl (.skips 1 rfl (.nilS [30, 7, 6, 5, 2, 1] rfl rfl (.condP rfl hd (fun hb334 hd => ?_) fun hb334 hd => ?_))))))
     · exact .region (.skips 1 rfl (.add rfl rfl rfl rfl (.sub (E' := [(1, _), (2, _), (6, _), (7, _), (30, _), (38, _), (39, _)]) ⟨rfl, rfl, rfl, rfl, rfl, rfl, rfl, trivial⟩ (.skips 1 rfl (.nil' fun c w ho hs => ⟨(w64 ((w64 (s298 + (w64 ((w64 (s299 - s298)).tdiv 2)))) + 1), s299), hd, I301, le303, ho.sub ⟨rfl, rfl, rfl, rfl, trivial⟩, hs.pick (.c .z .n)⟩)))))
     exact .region (.skips 1 rfl (.sub (E' := [(1, _), (2, _), (5, _), (7, _), (30, _), (20, _)]) ⟨rfl, rfl, rfl, rfl, rfl, rfl, trivial⟩ (.skips 1 rfl (.nil' fun c w ho hs => ⟨(s298, w64 (s298 + (w64 ((w64 (s299 - s298)).tdiv 2)))), hd, I301, le303, ho.sub ⟨rfl, rfl, rfl, rfl, trivial⟩, hs.pick (.c .z .n)⟩))))
   exact .exit fun c w ho hs => ⟨(s298, s299), hd, I301, le303, ho.sub ⟨rfl, rfl, trivial⟩, hs.pick .n⟩
 rintro ⟨s227, s228⟩ hd c w hst
 obtain ⟨I335, hl336, hok, hsym⟩ := hst
 have le337 := IH.le.trans (.refl _) hl336
 refine Cod.at hok hsym (.seq (.seq (.region (.skips 2 rfl (.lt rfl rfl rfl rfl (.nilS [42, 5] rfl rfl (.condP rfl hd (fun hb338 hd => ?_) fun hb338 hd => ?_)))))))
 · exact .seq (.region (.skips 2 rfl (.nilS [4] rfl rfl (.ret (pret results25 (.t rfl .n) le337 ⟨s227, rfl, hd⟩)))))
 exact .skipS [] rfl rfl (.seq (.region (.skips 1 rfl (.nilS [4] rfl rfl (.ret (pret results25 (.t rfl .n) le337 ⟨(-1), rfl, hd⟩))))))

theorem W_dcsc_items_9d2 {I : IH} {a0 : Columns} {a1 : Int} {p1 : Option Addr} {c2 : Nat} {p4 : Option Addr} {c5 : Nat} {p7 : Option Addr} {c8 : Nat} {p10 : Option Addr} {c11 : Nat} {Q : (Columns × Int) → Prop} (R3 : RepSl eI64 I p1 c2 a0.At) (R6 : RepSl eI64 I p4 c5 a0.Start) (R9 : RepSl eI64 I p7 c8 a0.Row) (R12 : RepSl eI64 I p10 c11 a0.Val) (hd : dcsc_items_9d2 a0 a1 Q) :
    Fun Tryz.prog 27 #[.agg #[.int .i64 a0.Rows, .int .i64 a0.Cols, .slice p1 a0.At.length c2, .slice p4 a0.Start.length c5, .slice p7 a0.Row.length c8, .slice p10 a0.Val.length c11], .int .i64 a1] I [] (fun I_ v l => ∃ r b13 p14 c15 p17 c18 p20 c21 p23 c24 b26, v = .func (.func 45) #[] #[.pointer (some ⟨b13, 0, none⟩), .pointer (some ⟨b26, 0, none⟩)] ∧ RepSl eI64 I_ p14 c15 r.1.At ∧ RepSl eI64 I_ p17 c18 r.1.Start ∧ RepSl eI64 I_ p20 c21 r.1.Row ∧ RepSl eI64 I_ p23 c24 r.1.Val ∧ l = [pto b13 (.cells #[.int .i64 r.1.Rows, .int .i64 r.1.Cols, .slice p14 r.1.At.length c15, .slice p17 r.1.Start.length c18, .slice p20 r.1.Row.length c21, .slice p23 r.1.Val.length c24] 27 (0, 0)), pto b26 (.cells #[.int .i64 r.2] 3 (0, 0))] ∧ Q r) := by
 refine Fun.enter (vs := [.agg #[.int .i64 a0.Rows, .int .i64 a0.Cols, .slice p1 a0.At.length c2, .slice p4 a0.Start.length c5, .slice p7 a0.Row.length c8, .slice p10 a0.Val.length c11], .int .i64 a1]) func27 rfl ntmps27 rfl (.c (.c .n)) fun w0 M => ?_
 refine .seq (.region (.boxA rfl rfl rfl fun b13 => ?_))
 refine .box1 rfl rfl rfl rfl fun b15 => ?_
 exact .skips 1 rfl (.nilS [3, 2] rfl rfl (.seq (.region (.mkFn rfl rfl rfl rfl (.skips 1 rfl (.nilS [4] rfl rfl (.ret (oret results27 (.t rfl .n) (.refl _) (.c (.s .z) (.c .z .n)) ⟨(a0, a1), _, _, _, _, _, _, _, _, _, _, rfl, R3, R6, R9, R12, rfl, hd⟩))))))))

theorem W_dcsc_items_1_1ae {I : IH} {o0 : Nat} {o1 : List Item} {o2 : Columns} {o3 : Int} {Y : Nat → (List Item) → Item → ((Bool × Nat × (List Item)) → Prop) → Prop} {b5 : Nat} {p6 : Option Addr} {c7 : Nat} {b10 : Nat} {p11 : Option Addr} {c12 : Nat} {p14 : Option Addr} {c15 : Nat} {p17 : Option Addr} {c18 : Nat} {p20 : Option Addr} {c21 : Nat} {b23 : Nat} {lr : Nat} {Rr : Nat → HA} {Q : (Nat × (List Item)) → Prop} (hY : ∀ {J_ : IH}, I.le J_ → ∀ {y24 : Nat} {y25 : List Item} {x31 : Item} {p27 : Option Addr} {c28 : Nat} {Qy : (Bool × Nat × (List Item)) → Prop}, Y y24 y25 x31 Qy → RFun Tryz.prog lr [.agg (encItem x31).toArray] J_ [Rr y24, pto b5 (.cells #[.slice p27 y25.length c28] 31 (0, 0)), OwnSl eItem 50 p27 c28 y25] (fun I_ v l => ∃ r p33 c34, v = .bool r.1 ∧ l = [Rr r.2.1, pto b5 (.cells #[.slice p33 r.2.2.length c34] 31 (0, 0)), OwnSl eItem 50 p33 c34 r.2.2] ∧ Qy r)) (R13 : RepSl eI64 I p11 c12 o2.At) (R16 : RepSl eI64 I p14 c15 o2.Start) (R19 : RepSl eI64 I p17 c18 o2.Row) (R22 : RepSl eI64 I p20 c21 o2.Val) (hd : dcsc_items_1_1ae o0 o1 o2 o3 Y Q) :
    Fun Tryz.prog 45 #[.func (.yield lr) #[] #[], .pointer (some ⟨b10, 0, none⟩), .pointer (some ⟨b23, 0, none⟩)] I [Rr o0, pto b5 (.cells #[.slice p6 o1.length c7] 31 (0, 0)), OwnSl eItem 50 p6 c7 o1, pto b10 (.cells #[.int .i64 o2.Rows, .int .i64 o2.Cols, .slice p11 o2.At.length c12, .slice p14 o2.Start.length c15, .slice p17 o2.Row.length c18, .slice p20 o2.Val.length c21] 27 (0, 0)), pto b23 (.cells #[.int .i64 o3] 3 (0, 0))] (fun I_ v l => ∃ r p25 c26, v = .tuple #[] ∧ l = [Rr r.1, pto b5 (.cells #[.slice p25 r.2.length c26] 31 (0, 0)), OwnSl eItem 50 p25 c26 r.2, pto b10 (.cells #[.int .i64 o2.Rows, .int .i64 o2.Cols, .slice p11 o2.At.length c12, .slice p14 o2.Start.length c15, .slice p17 o2.Row.length c18, .slice p20 o2.Val.length c21] 27 (0, 0)), pto b23 (.cells #[.int .i64 o3] 3 (0, 0))] ∧ Q r) := by
 refine Fun.enter (vs := [.func (.yield lr) #[] #[], .pointer (some ⟨b10, 0, none⟩), .pointer (some ⟨b23, 0, none⟩)]) func45 rfl ntmps45 rfl (.c (.c (.c .n))) fun w0 M => ?_
 refine .seq (.region (.fieldAddr underlying27 rfl sizeOf22 rfl (o := 3) rfl rfl rfl (.load1 isAgg22 rfl (.s (.s (.s .z))) rfl rfl rfl (.load1 isAgg3 rfl (.s (.s (.s (.s .z)))) rfl rfl rfl ?_))))
 obtain ⟨h41, x42, hx43, hd⟩ := hd
 obtain ⟨b44, o45, cs46, e47, hC48, hr49⟩ := R16.2 _ _ hx43
 cases hr49
 refine .ixa underlying22 sizeOf3 rfl e47 rfl h41 (idx_lt hx43 h41) rfl rfl (.ld1 (j := 0) isAgg3 hC48 rfl rfl rfl rfl rfl (.skips 1 rfl (.nilS [4, 2, 1, 0] rfl rfl (.block (.loop hd (fun (s : (List Item) × Int × Nat) c w => match s with | (s178, s182, s183) => ∃ I_ p179 c180, IH.le I I_ ∧ Ok ⟨34, [], none⟩ [(0, .func (.yield lr) #[] #[]), (1, .pointer (some ⟨b10, 0, none⟩)), (2, .pointer (some ⟨b23, 0, none⟩)), (4, .int .i64 s182)] c ∧ Sym w0 M I I_ [pto b5 (.cells #[.slice p179 s178.length c180] 31 (0, 0)), OwnSl eItem 50 p179 c180 s178, pto b10 (.cells #[.int .i64 o2.Rows, .int .i64 o2.Cols, .slice p11 o2.At.length c12, .slice p14 o2.Start.length c15, .slice p17 o2.Row.length c18, .slice p20 o2.Val.length c21] 27 (0, 0)), pto b23 (.cells #[.int .i64 o3] 3 (0, 0)), Rr s183] w) (fun c w ho hs => ⟨I, _, _, (.refl _), ho.sub ⟨rfl, rfl, rfl, rfl, trivial⟩, hs.pick (.c (.s .z) (.c (.s .z) (.c (.s .z) (.c (.s .z) (.c .z .n)))))⟩) ?_)))))
 rintro ⟨s178, s182, s183⟩ next184 hd c w hst
 obtain ⟨I185, p179, c180, hl186, hok, hsym⟩ := hst
 have le187 := IH.le.trans (.refl _) hl186
 replace R13 := R13.mono hl186
 replace R16 := R16.mono hl186
 replace R19 := R19.mono hl186
 replace R22 := R22.mono hl186
 refine Cod.at hok hsym (.seq (.seq (.region (.skips 1 rfl (.fieldAddr underlying27 rfl sizeOf22 rfl (o := 3) rfl rfl rfl (.load1 isAgg22 rfl (.s (.s .z)) rfl rfl rfl (.load1 isAgg3 rfl (.s (.s (.s .z))) rfl rfl rfl (.add rfl rfl rfl rfl ?_))))))))
 obtain ⟨h198, x199, hx200, hd⟩ := hd
 obtain ⟨b201, o202, cs203, e204, hC205, hr206⟩ := R16.2 _ _ hx200
 cases hr206
 refine .ixa underlying22 sizeOf3 rfl e204 rfl h198 (idx_lt hx200 h198) rfl rfl (.ld1 (j := 0) isAgg3 hC205 rfl rfl rfl rfl rfl (.lt rfl rfl rfl rfl (.nilS [17, 4, 2, 1, 0] rfl rfl (.condP rfl hd (fun hb207 hd => ?_) fun hb207 hd => ?_))))
 · refine .skipS [4, 2, 1, 0] rfl rfl (.seq (.block (.seq (.ownF (.s .z) fun hne208 => ?_))))
   refine .draw [some 0, some 1, some 2, some 3, some 4, some 5, some 6, some 7, some 8, some 9, some 10, some 11, some 12, some 13] 14 MX (by kernel_rfl) (by kernel_rfl) (by kernel_rfl) (by kernel_rfl) (by kernel_rfl) (by kernel_rfl) (by kernel_rfl) (fun ex => (pto b5 (.cells #[.slice p179 s178.length c180] 31 (0, 0))) :: (OwnSl eItem 50 p179 c180 s178) :: (pto b10 (.cells #[.int .i64 o2.Rows, .int .i64 o2.Cols, .slice p11 o2.At.length c12, .slice p14 o2.Start.length c15, .slice p17 o2.Row.length c18, .slice p20 o2.Val.length c21] 27 (0, 0))) :: (pto b23 (.cells #[.int .i64 o3] 3 (0, 0))) :: (Rr s183) :: ex) (fun _ _ => (.s (.s (.s (.s (.s .z)))))) rfl (.fs [[]] rfl (by kernel_rfl) (.f [] rfl (by kernel_rfl) rfl rfl (fun ex => .fieldAddr underlying27 rfl sizeOf22 rfl (o := 4) rfl rfl rfl .mk) (.f [1] rfl (by kernel_rfl) rfl rfl (fun ex => .load1 isAgg22 rfl (.s (.s .z)) rfl rfl rfl .mk) (.fs [[]] rfl (by kernel_rfl) ?_))))
   obtain ⟨h209, x210, hx211, hd⟩ := hd
   obtain ⟨b212, o213, cs214, e215, hC216, hr217⟩ := R19.2 _ _ hx211
   cases hr217
   refine .f [2, 3] rfl (by kernel_rfl) rfl rfl (fun ex => .ixa underlying22 sizeOf3 rfl e215 rfl h209 (idx_lt hx211 h209) rfl rfl .mk) (.f [4] rfl (by kernel_rfl) rfl rfl (fun ex => .ld1 (j := 0) isAgg3 hC216 rfl rfl rfl rfl rfl .mk) (.f [] rfl (by kernel_rfl) rfl rfl (fun ex => .fieldAddr underlying27 rfl sizeOf23 rfl (o := 5) rfl rfl rfl .mk) (.f [6] rfl (by kernel_rfl) rfl rfl (fun ex => .load1 isAgg23 rfl (.s (.s .z)) rfl rfl rfl .mk) (.fs [[]] rfl (by kernel_rfl) ?_))))
   obtain ⟨h218, x219, hx220, hd⟩ := hd
   obtain ⟨b221, o222, cs223, e224, hC225, hr226⟩ := R22.2 _ _ hx220
   cases hr226
   refine .f [7, 8] rfl (by kernel_rfl) rfl rfl (fun ex => .ixa underlying23 sizeOf2 rfl e224 rfl h218 (idx_lt hx220 h218) rfl rfl .mk) (.f [9] rfl (by kernel_rfl) rfl rfl (fun ex => .ld1 (j := 0) isAgg2 hC225 rfl rfl rfl rfl rfl .mk) (.f [5, 10] rfl (by kernel_rfl) rfl rfl (fun ex => .build zeroValue50 underlying50 BI50 (.c rfl rfl rfl (.t .nil) (.c rfl rfl rfl (.s (.t .nil)) .n)) (by exact ⟨⟨_, _, rfl, rfl, rfl⟩, ⟨⟨_, _, rfl, rfl, rfl⟩, trivial⟩⟩) rfl rfl .mk) (.w [] [[], [11], [10, 11], [9, 10, 11], [9, 10, 11], [7, 9, 10, 11], [11], [5, 11], [4, 5, 11], [4, 5, 11], [2, 4, 5, 11], []] [0, 11] rfl (by kernel_rfl) (by kernel_rfl) (by kernel_rfl) ((dropE_kept rfl rfl)) (.inr (dropE_kept rfl rfl)) fun ex => ?_)))
   have hw227 := hY (J_ := I185) le187 (y24 := s183) (y25 := s178) (x31 := ({ At := x210, Val := x219 } : Item)) (p27 := p179) (c28 := c180) hd
   refine .callY rfl rfl (.c (.s (.s (.s (.s .z)))) (.c .z (.c .z .n))) hw227 rfl rfl fun v231 I228 l232 hl229 hv230 => ?_
   obtain ⟨r233, p237, c238, rfl, rfl, hd⟩ := hv230
   have le241 := IH.le.trans le187 hl229
   replace R13 := R13.mono hl229
   replace R16 := R16.mono hl229
   replace R19 := R19.mono hl229
   replace R22 := R22.mono hl229
   replace hC216 := hC216.mono hl229
   replace hC225 := hC225.mono hl229
   refine .re (m' := (Rr r233.2.1) :: (pto b5 (.cells #[.slice p237 r233.2.2.length c238] 31 (0, 0))) :: (OwnSl eItem 50 p237 c238 r233.2.2) :: (pto b10 (.cells #[.int .i64 o2.Rows, .int .i64 o2.Cols, .slice p11 o2.At.length c12, .slice p14 o2.Start.length c15, .slice p17 o2.Row.length c18, .slice p20 o2.Val.length c21] 27 (0, 0))) :: (pto b23 (.cells #[.int .i64 o3] 3 (0, 0))) :: ex) rfl (.some (fun ex => (Rr r233.2.1) :: (pto b5 (.cells #[.slice p237 r233.2.2.length c238] 31 (0, 0))) :: (OwnSl eItem 50 p237 c238 r233.2.2) :: (pto b10 (.cells #[.int .i64 o2.Rows, .int .i64 o2.Cols, .slice p11 o2.At.length c12, .slice p14 o2.Start.length c15, .slice p17 o2.Row.length c18, .slice p20 o2.Val.length c21] 27 (0, 0))) :: (pto b23 (.cells #[.int .i64 o3] 3 (0, 0))) :: ex) rfl (fun _ _ => (.s (.s (.s (.s (.s .z)))))) rfl trivial (.f [12] rfl (by kernel_rfl) rfl rfl (fun ex => .not rfl rfl rfl .mk) (.e 14 (by kernel_rfl) (by kernel_rfl) (by kernel_rfl) (.nilS [33, 4, 2, 1, 0] rfl rfl (.condP rfl hd (fun hb242 hd => ?_) fun hb242 hd => ?_)))))
   · exact .ret (oret results45 .n le241 (.c .z (.c .z (.c .z (.c .z (.c .z .n))))) ⟨(r233.2.1, r233.2.2), _, _, rfl, rfl, hd⟩)
   exact .skipS [4, 2, 1, 0] rfl rfl (.region (.skips 1 rfl (.add rfl rfl rfl rfl (.sub (E' := [(0, _), (1, _), (2, _), (18, _), (19, _)]) ⟨rfl, rfl, rfl, rfl, rfl, trivial⟩ (.skips 1 rfl (.nil' fun c w ho hs => ⟨(r233.2.2, w64 (s182 + 1), r233.2.1), hd, I228, _, _, le241, ho.sub ⟨rfl, rfl, rfl, rfl, trivial⟩, hs.pick (.c (.s .z) (.c (.s .z) (.c (.s .z) (.c (.s .z) (.c .z .n)))))⟩))))))
 exact .exit (oretN results45 .n le187 (.c (.s (.s (.s (.s .z)))) (.c .z (.c .z (.c .z (.c .z .n))))) ⟨(s183, s178), _, _, rfl, rfl, hd⟩)

theorem W_slices_AppendSeq_api_Item_api_Item_828 {I : IH} {o0 : Columns} {o1 : Int} {b3 : Nat} {p4 : Option Addr} {c5 : Nat} {p7 : Option Addr} {c8 : Nat} {p10 : Option Addr} {c11 : Nat} {p13 : Option Addr} {c14 : Nat} {b16 : Nat} {Q : (List Item) → Prop} (R6 : RepSl eI64 I p4 c5 o0.At) (R9 : RepSl eI64 I p7 c8 o0.Start) (R12 : RepSl eI64 I p10 c11 o0.Row) (R15 : RepSl eI64 I p13 c14 o0.Val) (hd : slices_AppendSeq_api_Item_api_Item_828 o0 o1 Q) :
    Fun Tryz.prog 44 #[.slice none 0 0, .func (.func 45) #[] #[.pointer (some ⟨b3, 0, none⟩), .pointer (some ⟨b16, 0, none⟩)]] I [pto b3 (.cells #[.int .i64 o0.Rows, .int .i64 o0.Cols, .slice p4 o0.At.length c5, .slice p7 o0.Start.length c8, .slice p10 o0.Row.length c11, .slice p13 o0.Val.length c14] 27 (0, 0)), pto b16 (.cells #[.int .i64 o1] 3 (0, 0))] (fun I_ v l => ∃ r p17 c18, v = .slice p17 r.length c18 ∧ RepSl eItem I_ p17 c18 r ∧ l = [pto b3 (.cells #[.int .i64 o0.Rows, .int .i64 o0.Cols, .slice p4 o0.At.length c5, .slice p7 o0.Start.length c8, .slice p10 o0.Row.length c11, .slice p13 o0.Val.length c14] 27 (0, 0)), pto b16 (.cells #[.int .i64 o1] 3 (0, 0))] ∧ Q r) := by
 refine Fun.enter (vs := [.slice none 0 0, .func (.func 45) #[] #[.pointer (some ⟨b3, 0, none⟩), .pointer (some ⟨b16, 0, none⟩)]]) func44 rfl ntmps44 rfl (.c (.c .n)) fun w0 M => ?_
 refine .marks0 (.seq (.region (.box1 rfl rfl rfl rfl fun b19 => ?_)))
 refine .skips 1 rfl (.nilS [2, 1] rfl rfl (.seq (.seq (.region (.skips 1 rfl (.nilS [6, 2, 1] rfl rfl (.block (.own0 eItem 50 (.rangeF [] rfl call45 (.c (.s (.s .z)) (.c (.s .z) (.c .z (.c .z (.c .z .n))))) fun lr D rc hrc => ?_)))))))))
 refine ⟨_, W_dcsc_items_1_1ae (I := I) (lr := lr) (Rr := recA lr [] rc) (o0 := 0) (o1 := ([] : List Item)) (o2 := o0) (o3 := o1) (b5 := b19) (p6 := none) (c7 := 0) (b10 := b3) (p11 := p4) (c12 := c5) (p14 := p7) (c15 := c8) (p17 := p10) (c18 := c11) (p20 := p13) (c21 := c14) (b23 := b16) ?_ R6 R9 R12 R15 hd, ?_⟩
 · skip
   intro I hJ y55 y56 x62 p58 c59 Qy  hd
   replace R6 := R6.mono hJ
   replace R9 := R9.mono hJ
   replace R12 := R12.mono hJ
   replace R15 := R15.mono hJ
   obtain ⟨rfl, hd⟩ := hd
   refine RFun.mk hrc rfl fun w0 M => ?_
   refine .region (.allocA zeroValue50 rfl rfl fun b63 => ?_)
   refine .storeA sizeOf50 rfl rfl .z (.t (.t .nil)) rfl rfl (.nil' fun c w ho hs => beginR (E' := [(2, _), (5, _)]) ho ⟨rfl, rfl, trivial⟩ hs (.s .z) (.block (.region (.load1 isAgg31 rfl (.s (.s .z)) rfl rfl rfl (.loadW isAgg50 sizeOf50 rfl .z rfl rfl rfl (.buildSlice 1 underlying31 sizeOf50 zeroValue50 rfl rfl (.c rfl rfl rfl .n) rfl rfl fun b65 => ?_))))))
   obtain ⟨hl67, hd⟩ := hd
   refine .append (ys := [x62]) 16 (.s (.s (.s (.s .z)))) underlying31 underlying31 IN50 rfl rfl rfl rfl rfl rfl rfl rfl rfl (.box .z (.one rfl) rfl) hl67 rfl rfl fun p68 c69 => ?_
   exact .store1 sizeOf31 rfl rfl (.s (.s (.s (.s .z)))) (.t .nil) rfl (.nil' fun c w ho hs => endR 0 (.inl rfl) (.refl _) (.s (.s (.s .z))) (.c (.s (.s (.s .z))) (.c .z .n)) ⟨(true, 0, (y56 ++ ([x62]))), _, _, rfl, rfl, hd⟩ hs)
 intro v74 I71 l' hl72 hv73
 obtain ⟨r75, p79, c80, rfl, rfl, hd⟩ := hv73
 have le83 := IH.le.trans (.refl _) hl72
 replace R6 := R6.mono hl72
 replace R9 := R9.mono hl72
 replace R12 := R12.mono hl72
 replace R15 := R15.mono hl72
 obtain ⟨hz, hd⟩ := hd
 refine ⟨_, _, rfl, fun hj => ?_, fun i hj => absurd (hz.symm.trans hj) (by simp)⟩
 refine .re (m' := [Marks (D :: []), pto b19 (.cells #[.slice p79 r75.2.length c80] 31 (0, 0)), OwnSl eItem 50 p79 c80 r75.2, pto b3 (.cells #[.int .i64 o0.Rows, .int .i64 o0.Cols, .slice p4 o0.At.length c5, .slice p7 o0.Start.length c8, .slice p10 o0.Row.length c11, .slice p13 o0.Val.length c14] 27 (0, 0)), pto b16 (.cells #[.int .i64 o1] 3 (0, 0))]) rfl (.mkS [2, 1] rfl rfl (.seq (.region (.load1 isAgg31 rfl (.s .z) rfl rfl rfl (.skips 1 rfl (.nilS [4, 1] rfl rfl (.drop (.s .z) (.pub (.s .z) fun I84 hl85 R86 => ?_))))))))
 have le87 := IH.le.trans le83 hl85
 replace R6 := R6.mono hl85
 replace R9 := R9.mono hl85
 replace R12 := R12.mono hl85
 replace R15 := R15.mono hl85
 exact .ret (oretM .z results44 (.t rfl .n) le87 (.c .z (.c .z .n)) ⟨r75.2, _, _, rfl, R86, rfl, hd⟩)

theorem W_slices_Collect_api_Item_d7d {I : IH} {o0 : Columns} {o1 : Int} {b3 : Nat} {p4 : Option Addr} {c5 : Nat} {p7 : Option Addr} {c8 : Nat} {p10 : Option Addr} {c11 : Nat} {p13 : Option Addr} {c14 : Nat} {b16 : Nat} {Q : (List Item) → Prop} (R6 : RepSl eI64 I p4 c5 o0.At) (R9 : RepSl eI64 I p7 c8 o0.Start) (R12 : RepSl eI64 I p10 c11 o0.Row) (R15 : RepSl eI64 I p13 c14 o0.Val) (hd : slices_Collect_api_Item_d7d o0 o1 Q) :
    Fun Tryz.prog 26 #[.func (.func 45) #[] #[.pointer (some ⟨b3, 0, none⟩), .pointer (some ⟨b16, 0, none⟩)]] I [pto b3 (.cells #[.int .i64 o0.Rows, .int .i64 o0.Cols, .slice p4 o0.At.length c5, .slice p7 o0.Start.length c8, .slice p10 o0.Row.length c11, .slice p13 o0.Val.length c14] 27 (0, 0)), pto b16 (.cells #[.int .i64 o1] 3 (0, 0))] (fun I_ v l => ∃ r p17 c18, v = .slice p17 r.length c18 ∧ RepSl eItem I_ p17 c18 r ∧ l = [pto b3 (.cells #[.int .i64 o0.Rows, .int .i64 o0.Cols, .slice p4 o0.At.length c5, .slice p7 o0.Start.length c8, .slice p10 o0.Row.length c11, .slice p13 o0.Val.length c14] 27 (0, 0)), pto b16 (.cells #[.int .i64 o1] 3 (0, 0))] ∧ Q r) := by
 refine Fun.enter (vs := [.func (.func 45) #[] #[.pointer (some ⟨b3, 0, none⟩), .pointer (some ⟨b16, 0, none⟩)]]) func26 rfl ntmps26 rfl (.c .n) fun w0 M => ?_
 refine .seq (.region (.skips 1 rfl (.nilS [0] rfl rfl (.seq (.region (.skips 1 rfl ?_))))))
 have hw17 := W_slices_AppendSeq_api_Item_api_Item_828 (I := I) (o0 := o0) (o1 := o1) (b3 := b3) (p4 := p4) (c5 := c5) (p7 := p7) (c8 := c8) (p10 := p10) (c11 := c11) (p13 := p13) (c14 := c14) (b16 := b16) R6 R9 R12 R15 hd
 refine .callS (.f call44 rfl) (.c .z (.c .z .n)) hw17 rfl rfl fun v21 I18 l22 hl19 hv20 => ?_
 obtain ⟨r23, p24, c25, rfl, R26, rfl, hd⟩ := hv20
 have le27 := IH.le.trans (.refl _) hl19
 replace R6 := R6.mono hl19
 replace R9 := R9.mono hl19
 replace R12 := R12.mono hl19
 replace R15 := R15.mono hl19
 exact .re (m' := [pto b3 (.cells #[.int .i64 o0.Rows, .int .i64 o0.Cols, .slice p4 o0.At.length c5, .slice p7 o0.Start.length c8, .slice p10 o0.Row.length c11, .slice p13 o0.Val.length c14] 27 (0, 0)), pto b16 (.cells #[.int .i64 o1] 3 (0, 0))]) rfl (.skips 1 rfl (.nilS [2, 0] rfl rfl (.ret (oret results26 (.t rfl .n) le27 (.c .z (.c .z .n)) ⟨r23, _, _, rfl, R26, rfl, hd⟩))))

theorem W_dcsc_Column {I : IH} {a0 : Columns} {a1 : Int} {p1 : Option Addr} {c2 : Nat} {p4 : Option Addr} {c5 : Nat} {p7 : Option Addr} {c8 : Nat} {p10 : Option Addr} {c11 : Nat} {Q : (List Item) → Prop} (R3 : RepSl eI64 I p1 c2 a0.At) (R6 : RepSl eI64 I p4 c5 a0.Start) (R9 : RepSl eI64 I p7 c8 a0.Row) (R12 : RepSl eI64 I p10 c11 a0.Val) (hd : dcsc_Column a0 a1 Q) :
    PFun Tryz.prog 7 [.agg #[.int .i64 a0.Rows, .int .i64 a0.Cols, .slice p1 a0.At.length c2, .slice p4 a0.Start.length c5, .slice p7 a0.Row.length c8, .slice p10 a0.Val.length c11], .int .i64 a1] I (fun I_ v => ∃ r p13 c14, v = .slice p13 r.length c14 ∧ RepSl eItem I_ p13 c14 r ∧ Q r) := by
 refine Fun.enter func7 rfl ntmps7 rfl (.c (.c .n)) fun w0 M => ?_
 refine .seq (.region (.boxA rfl rfl rfl fun b18 => ?_))
 refine .skips 1 rfl (.nilS [2, 1] rfl rfl (.seq (.region (.loadW isAgg27 sizeOf27 rfl .z rfl rfl rfl ?_))))
 have hw58 := W_dcsc_sure (I := I) R3 R6 R9 R12 hd
 refine .call call24 rfl hw58 rfl rfl fun v44 I41 hl42 hv43 => ?_
 obtain ⟨r40, p46, c47, p49, c50, p52, c53, p55, c56, rfl, R48, R51, R54, R57, hd⟩ := hv43
 have le59 := IH.le.trans (.refl _) hl42
 replace R3 := R3.mono hl42
 replace R6 := R6.mono hl42
 replace R9 := R9.mono hl42
 replace R12 := R12.mono hl42
 refine .storeA sizeOf27 rfl rfl .z (.t (.t (.t (.t (.t (.t .nil)))))) rfl rfl (.nilS [2, 1] rfl rfl (.seq (.region (.loadW isAgg27 sizeOf27 rfl .z rfl rfl rfl (.skips 1 rfl ?_)))))
 have hw65 := W_dcsc_place (I := I41) R48 R51 R54 R57 hd
 refine .callP call25 rfl hw65 rfl rfl fun v66 hv67 => ?_
 obtain ⟨r64, rfl, hd⟩ := hv67
 refine .skips 1 rfl (.nilS [5, 2] rfl rfl (.seq (.seq (.region (.skips 1 rfl (.lt rfl rfl rfl rfl (.nilS [12, 5, 2] rfl rfl (.condP rfl hd (fun hb68 hd => ?_) fun hb68 hd => ?_))))))))
 · exact .seq (.region (.skips 1 rfl (.nilS [4] rfl rfl (.drop .z (.ret (pret results7 (.t rfl .n) le59 ⟨([] : List Item), _, _, rfl, (.nil _ _ _), hd⟩))))))
 refine .skipS [5, 2] rfl rfl (.seq (.region (.loadW isAgg27 sizeOf27 rfl .z rfl rfl rfl (.skips 1 rfl ?_))))
 have hw69 := W_dcsc_items_9d2 (I := I41) (a0 := r40) (a1 := r64) R48 R51 R54 R57 hd
 refine .callS (.f call27 rfl) .n hw69 rfl rfl fun v73 I70 l74 hl71 hv72 => ?_
 obtain ⟨r75, b78, p79, c80, p82, c83, p85, c86, p88, c89, b91, rfl, R81, R84, R87, R90, rfl, hd⟩ := hv72
 have le92 := IH.le.trans le59 hl71
 replace R48 := R48.mono hl71
 replace R51 := R51.mono hl71
 replace R54 := R54.mono hl71
 replace R57 := R57.mono hl71
 refine .re (m' := [pto b78 (.cells #[.int .i64 r75.1.Rows, .int .i64 r75.1.Cols, .slice p79 r75.1.At.length c80, .slice p82 r75.1.Start.length c83, .slice p85 r75.1.Row.length c86, .slice p88 r75.1.Val.length c89] 27 (0, 0)), pto b91 (.cells #[.int .i64 r75.2] 3 (0, 0)), pto b18 (.cells #[.int .i64 r40.Rows, .int .i64 r40.Cols, .slice p46 r40.At.length c47, .slice p49 r40.Start.length c50, .slice p52 r40.Row.length c53, .slice p55 r40.Val.length c56] 27 (0, 0))]) rfl ?_
 have hw93 := W_slices_Collect_api_Item_d7d (I := I70) (o0 := r75.1) (o1 := r75.2) (b3 := b78) (p4 := p79) (c5 := c80) (p7 := p82) (c8 := c83) (p10 := p85) (c11 := c86) (p13 := p88) (c14 := c89) (b16 := b91) R81 R84 R87 R90 hd
 refine .callS (.f call26 rfl) (.c .z (.c .z .n)) hw93 rfl rfl fun v97 I94 l98 hl95 hv96 => ?_
 obtain ⟨r99, p100, c101, rfl, R102, rfl, hd⟩ := hv96
 have le103 := IH.le.trans le92 hl95
 replace R48 := R48.mono hl95
 replace R51 := R51.mono hl95
 replace R54 := R54.mono hl95
 replace R57 := R57.mono hl95
 replace R81 := R81.mono hl95
 replace R84 := R84.mono hl95
 replace R87 := R87.mono hl95
 replace R90 := R90.mono hl95
 exact .re (m' := [pto b78 (.cells #[.int .i64 r75.1.Rows, .int .i64 r75.1.Cols, .slice p79 r75.1.At.length c80, .slice p82 r75.1.Start.length c83, .slice p85 r75.1.Row.length c86, .slice p88 r75.1.Val.length c89] 27 (0, 0)), pto b91 (.cells #[.int .i64 r75.2] 3 (0, 0)), pto b18 (.cells #[.int .i64 r40.Rows, .int .i64 r40.Cols, .slice p46 r40.At.length c47, .slice p49 r40.Start.length c50, .slice p52 r40.Row.length c53, .slice p55 r40.Val.length c56] 27 (0, 0))]) rfl (.skips 1 rfl (.nilS [4] rfl rfl (.drop .z (.drop .z (.drop .z (.ret (pret results7 (.t rfl .n) le103 ⟨r99, _, _, rfl, R102, hd⟩)))))))

theorem W_csr_within {I : IH} {a0 : Int} {a1 : Int}  {Q : Bool → Prop}  (hd : csr_within a0 a1 Q) :
    PFun Tryz.prog 46 [.int .i64 a0, .int .i64 a1] I (fun I_ v => ∃ r, v = .bool r ∧ Q r) := by
 refine Fun.enter func46 rfl ntmps46 rfl (.c (.c .n)) fun w0 M => ?_
 refine .seq (.region (.skips 1 rfl (.nilS [1, 0] rfl rfl (.seq (.region (.skips 1 rfl (.ge rfl rfl rfl rfl (.skips 1 rfl ?_))))))))
 refine splitP hd (fun hb1 hd => ?_) fun hb1 hd => ?_
 · rw [hb1]
   exact .gyes rfl rfl rfl (.move rfl rfl rfl (.gyes rfl rfl rfl (.move rfl rfl rfl (.gyes rfl rfl rfl (.le' rfl rfl rfl rfl (.skips 2 rfl (.nilS [4] rfl rfl (.ret (pret results46 (.t rfl .n) (.refl _) ⟨(decide (a0 ≤ a1)), rfl, hd⟩)))))))))
 rw [hb1]
 exact .skips 5 rfl (.nilS [4] rfl rfl (.ret (pret results46 (.t rfl .n) (.refl _) ⟨false, rfl, hd⟩)))

theorem W_cmp_isNaN_int {I : IH} {a0 : Int}  {Q : Bool → Prop}  (hd : cmp_isNaN_int a0 Q) :
    PFun Tryz.prog 78 [.int .i64 a0] I (fun I_ v => ∃ r, v = .bool r ∧ Q r) := by
 refine Fun.enter func78 rfl ntmps78 rfl (.c .n) fun w0 M => ?_
 refine .seq (.region (.skips 1 rfl (.nilS [0] rfl rfl (.seq (.region (.skips 2 rfl (.ne rfl rfl rfl rfl (.skips 1 rfl (.nilS [2] rfl rfl ?_)))))))))
 exact .ret (pret results78 (.t rfl .n) (.refl _) ⟨(a0 != a0), rfl, hd⟩)

theorem W_cmp_Less_int {I : IH} {a0 : Int} {a1 : Int}  {Q : Bool → Prop}  (hd : cmp_Less_int a0 a1 Q) :
    PFun Tryz.prog 65 [.int .i64 a0, .int .i64 a1] I (fun I_ v => ∃ r, v = .bool r ∧ Q r) := by
 refine Fun.enter func65 rfl ntmps65 rfl (.c (.c .n)) fun w0 M => ?_
 refine .seq (.region (.skips 1 rfl (.nilS [1, 0] rfl rfl (.seq (.region (.skips 1 rfl ?_))))))
 have hw2 := W_cmp_isNaN_int (I := I) hd
 refine .callP call78 rfl hw2 rfl rfl fun v3 hv4 => ?_
 obtain ⟨r1, rfl, hd⟩ := hv4
 refine .skips 1 rfl ?_
 refine splitP hd (fun hb5 hd => ?_) fun hb5 hd => ?_
 · rw [hb5]
   refine .gyes rfl rfl rfl (.move rfl rfl rfl ?_)
   have hw7 := W_cmp_isNaN_int (I := I) hd
   refine .gyes rfl rfl rfl (.callP call78 rfl hw7 rfl rfl fun v8 hv9 => ?_)
   obtain ⟨r6, rfl, hd⟩ := hv9
   refine .gyes rfl rfl rfl (.not rfl rfl rfl (.skips 2 rfl ?_))
   refine splitP hd (fun hb10 hd => ?_) fun hb10 hd => ?_
   · rw [hb10]
     exact .skips 5 rfl (.nilS [4] rfl rfl (.ret (pret results65 (.t rfl .n) (.refl _) ⟨true, rfl, hd⟩)))
   rw [hb10]
   exact .gyes rfl rfl rfl (.move rfl rfl rfl (.gyes rfl rfl rfl (.move rfl rfl rfl (.gyes rfl rfl rfl (.lt rfl rfl rfl rfl (.skips 2 rfl (.nilS [4] rfl rfl (.ret (pret results65 (.t rfl .n) (.refl _) ⟨(decide (a0 < a1)), rfl, hd⟩)))))))))
 rw [hb5]
 exact .skips 5 rfl (.gyes rfl rfl rfl (.move rfl rfl rfl (.gyes rfl rfl rfl (.move rfl rfl rfl (.gyes rfl rfl rfl (.lt rfl rfl rfl rfl (.skips 2 rfl (.nilS [4] rfl rfl (.ret (pret results65 (.t rfl .n) (.refl _) ⟨(decide (a0 < a1)), rfl, hd⟩))))))))))

theorem W_slices_IsSorted_int_int {I : IH} {a0 : List Int} {p1 : Option Addr} {c2 : Nat} {Q : Bool → Prop} (R3 : RepSl eI64 I p1 c2 a0) (hd : slices_IsSorted_int_int a0 Q) :
    PFun Tryz.prog 47 [.slice p1 a0.length c2] I (fun I_ v => ∃ r, v = .bool r ∧ Q r) := by
 refine Fun.enter func47 rfl ntmps47 rfl (.c .n) fun w0 M => ?_
 refine .seq (.region (.skips 1 rfl (.nilS [0] rfl rfl (.seq (.seq (.region (.skips 1 rfl (.len underlying22 rfl rfl rfl rfl (.sub' rfl rfl rfl rfl ?_)))))))))
 refine .skips 1 rfl (.nilS [3, 0] rfl rfl (.block (.loop hd (fun (s57 : Int) c w => ∃ I_, IH.le I I_ ∧ Ok ⟨21, [], none⟩ [(0, .slice p1 a0.length c2), (3, .int .i64 s57)] c ∧ Sym w0 M I I_ [] w) (fun c w ho hs => ⟨I, (.refl _), ho.sub ⟨rfl, rfl, trivial⟩, hs.pick .n⟩) ?_)))
 rintro s57 next58 hd c w hst
 obtain ⟨I59, hl60, hok, hsym⟩ := hst
 have le61 := IH.le.trans (.refl _) hl60
 replace R3 := R3.mono hl60
 refine Cod.at hok hsym (.seq (.seq (.region (.skips 1 rfl (.gt rfl rfl rfl rfl (.nilS [8, 3, 0] rfl rfl (.condP rfl hd (fun hb63 hd => ?_) fun hb63 hd => ?_)))))))
 · refine .skipS [3, 0] rfl rfl (.seq (.block (.seq (.draw [some 0, some 1, some 2, some 3, some 4, some 5, some 6, some 7, some 8, some 9] 10 MX (by kernel_rfl) (by kernel_rfl) (by kernel_rfl) (by kernel_rfl) (by kernel_rfl) (by kernel_rfl) (by kernel_rfl) (fun ex => ex) (fun _ _ => .z) rfl (.fs [[], []] rfl (by kernel_rfl) ?_)))))
   obtain ⟨h64, x65, hx66, hd⟩ := hd
   obtain ⟨b67, o68, cs69, e70, hC71, hr72⟩ := R3.2 _ _ hx66
   cases hr72
   refine .f [0, 1] rfl (by kernel_rfl) rfl rfl (fun ex => .ixa underlying22 sizeOf3 rfl e70 rfl h64 (idx_lt hx66 h64) rfl rfl .mk) (.f [2] rfl (by kernel_rfl) rfl rfl (fun ex => .ld1 (j := 0) isAgg3 hC71 rfl rfl rfl rfl rfl .mk) (.fs [[], []] rfl (by kernel_rfl) (.f [5] rfl (by kernel_rfl) rfl rfl (fun ex => .sub' rfl rfl rfl rfl .mk) ?_)))
   obtain ⟨h73, x74, hx75, hd⟩ := hd
   obtain ⟨b76, o77, cs78, e79, hC80, hr81⟩ := R3.2 _ _ hx75
   cases hr81
   refine .f [4, 6] rfl (by kernel_rfl) rfl rfl (fun ex => .ixa underlying22 sizeOf3 rfl e79 rfl h73 (idx_lt hx75 h73) rfl rfl .mk) (.f [7] rfl (by kernel_rfl) rfl rfl (fun ex => .ld1 (j := 0) isAgg3 hC80 rfl rfl rfl rfl rfl .mk) (.w [] [[], [8], [7, 8], [6, 7, 8], [7, 8], [], [3], [2, 3], [2, 3]] [3, 8] rfl (by kernel_rfl) (by kernel_rfl) (by kernel_rfl) ((dropE_kept rfl rfl)) (.inr (dropE_kept rfl rfl)) fun ex => ?_))
   have hw83 := W_cmp_Less_int (I := I59) hd
   refine .callP call65 rfl hw83 rfl rfl fun v84 hv85 => ?_
   obtain ⟨r82, rfl, hd⟩ := hv85
   refine .some (fun ex => ex) rfl (fun _ _ => .z) rfl trivial (.e 10 (by kernel_rfl) (by kernel_rfl) (by kernel_rfl) (.nilS [20, 3, 0] rfl rfl (.condP rfl hd (fun hb86 hd => ?_) fun hb86 hd => ?_)))
   · exact .seq (.region (.skips 1 rfl (.nilS [2] rfl rfl (.ret (pret results47 (.t rfl .n) le61 ⟨false, rfl, hd⟩)))))
   exact .skipS [3, 0] rfl rfl (.region (.skips 1 rfl (.sub' rfl rfl rfl rfl (.sub (E' := [(0, _), (9, _), (10, _)]) ⟨rfl, rfl, rfl, trivial⟩ (.skips 1 rfl (.nil' fun c w ho hs => ⟨(w64 (s57 - 1)), hd, I59, le61, ho.sub ⟨rfl, rfl, trivial⟩, hs.pick .n⟩))))))
 exact .exitS [] rfl rfl (.seq (.region (.skips 1 rfl (.nilS [2] rfl rfl (.ret (pret results47 (.t rfl .n) le61 ⟨true, rfl, hd⟩))))))

theorem W_csr_row {I : IH} {a0 : List Int} {a1 : Int} {p1 : Option Addr} {c2 : Nat} {Q : Bool → Prop} (R3 : RepSl eI64 I p1 c2 a0) (hd : csr_row a0 a1 Q) :
    PFun Tryz.prog 48 [.slice p1 a0.length c2, .int .i64 a1] I (fun I_ v => ∃ r, v = .bool r ∧ Q r) := by
 refine Fun.enter func48 rfl ntmps48 rfl (.c (.c .n)) fun w0 M => ?_
 refine .seq (.region (.skips 1 rfl (.nilS [1, 0] rfl rfl (.seq (.seq (.region (.skips 1 rfl (.len underlying22 rfl rfl rfl rfl (.skips 1 rfl ?_)))))))))
 refine .nilS [9, 8, 7, 1, 0] rfl rfl (.block (.loop hd (fun (s68 : Int) c w => ∃ I_, IH.le I I_ ∧ Ok ⟨33, [], none⟩ [(0, .slice p1 a0.length c2), (1, .int .i64 a1), (7, .slice p1 a0.length c2), (8, .int .i64 (a0.length : Int)), (9, .int .i64 s68)] c ∧ Sym w0 M I I_ [] w) (fun c w ho hs => ⟨I, (.refl _), ho.sub ⟨rfl, rfl, rfl, rfl, rfl, trivial⟩, hs.pick .n⟩) ?_))
 rintro s68 next69 hd c w hst
 obtain ⟨I70, hl71, hok, hsym⟩ := hst
 have le72 := IH.le.trans (.refl _) hl71
 replace R3 := R3.mono hl71
 refine Cod.at hok hsym (.seq (.region (.lt rfl rfl rfl rfl (.nilS [10, 9, 8, 7, 1, 0] rfl rfl (.seq (.condP rfl hd (fun hb74 hd => ?_) fun hb74 hd => ?_))))))
 · refine .skipS [9, 8, 7, 1, 0] rfl rfl (.seq (.block (.seq (.region (.skips 1 rfl ?_)))))
   obtain ⟨h84, x85, hx86, hd⟩ := hd
   obtain ⟨b87, o88, cs89, e90, hC91, hr92⟩ := R3.2 _ _ hx86
   cases hr92
   refine .ixa underlying22 sizeOf3 rfl e90 rfl h84 (idx_lt hx86 h84) rfl rfl (.ld1 (j := 0) isAgg3 hC91 rfl rfl rfl rfl rfl (.skips 2 rfl (.nilS [6, 5, 9, 8, 7, 1, 0] rfl rfl (.seq (.region (.skips 2 rfl (.sub' rfl rfl rfl rfl ?_)))))))
   have hw94 := W_csr_within (I := I70) hd
   refine .callP call46 rfl hw94 rfl rfl fun v95 hv96 => ?_
   obtain ⟨r93, rfl, hd⟩ := hv96
   refine .not rfl rfl rfl (.skips 1 rfl ?_)
   refine splitP hd (fun hb97 hd => ?_) fun hb97 hd => ?_
   · rw [hb97]
     refine .skips 3 rfl (.gnoU rfl rfl rfl rfl (.gnoU rfl rfl rfl rfl (.gnoU rfl rfl rfl rfl (.gnoU rfl rfl rfl rfl (.gnoU rfl rfl rfl rfl (.gnoU rfl rfl rfl rfl (.gnoU rfl rfl rfl rfl (.skips 2 rfl (.nilS [31, 9, 8, 7, 1, 0] rfl rfl ?_)))))))))
     exact .condKT rfl rfl (.seq (.region (.skips 1 rfl (.nilS [4] rfl rfl (.ret (pret results48 (.t rfl .n) le72 ⟨false, rfl, hd⟩))))))
   rw [hb97]
   refine .gyes rfl rfl rfl (.move rfl rfl rfl (.gyes rfl rfl rfl (.gt rfl rfl rfl rfl (.gyes rfl rfl rfl (.move rfl rfl rfl ?_)))))
   refine splitP hd (fun hb98 hd => ?_) fun hb98 hd => ?_
   · rw [hb98]
     refine .gyes rfl rfl rfl (.move rfl rfl rfl (.gyes rfl rfl rfl (.move rfl rfl rfl (.gyes rfl rfl rfl (.sub' rfl rfl rfl rfl ?_)))))
     obtain ⟨h99, x100, hx101, hd⟩ := hd
     obtain ⟨b102, o103, cs104, e105, hC106, hr107⟩ := R3.2 _ _ hx101
     cases hr107
     refine .gyes rfl rfl rfl (.ixa underlying22 sizeOf3 rfl e105 rfl h99 (idx_lt hx101 h99) rfl rfl (.gyes rfl rfl rfl (.ld1 (j := 0) isAgg3 hC106 rfl rfl rfl rfl rfl (.gyes rfl rfl rfl (.move rfl rfl rfl (.gyes rfl rfl rfl (.ge rfl rfl rfl rfl (.gyes rfl rfl rfl (.pickT rfl rfl rfl rfl rfl (.skips 1 rfl (.nilS [31, 9, 8, 7, 1, 0] rfl rfl (.condP rfl hd (fun hb108 hd => ?_) fun hb108 hd => ?_))))))))))))
     · exact .seq (.region (.skips 1 rfl (.nilS [4] rfl rfl (.ret (pret results48 (.t rfl .n) le72 ⟨false, rfl, hd⟩)))))
     exact .skipS [9, 8, 7, 1, 0] rfl rfl (.region (.add rfl rfl rfl rfl (.sub (E' := [(0, _), (1, _), (7, _), (8, _), (32, _)]) ⟨rfl, rfl, rfl, rfl, rfl, trivial⟩ (.skips 1 rfl (.nil' fun c w ho hs => ⟨(w64 (s68 + 1)), hd, I70, le72, ho.sub ⟨rfl, rfl, rfl, rfl, rfl, trivial⟩, hs.pick .n⟩)))))
   rw [hb98]
   refine .skips 7 rfl (.gyes rfl rfl rfl (.pickF rfl rfl rfl rfl rfl (.skips 1 rfl (.nilS [31, 9, 8, 7, 1, 0] rfl rfl (.condKF rfl rfl (.skipS [9, 8, 7, 1, 0] rfl rfl (.region (.add rfl rfl rfl rfl (.sub (E' := [(0, _), (1, _), (7, _), (8, _), (32, _)]) ⟨rfl, rfl, rfl, rfl, rfl, trivial⟩ (.skips 1 rfl ?_))))))))))
   exact .nil' fun c w ho hs => ⟨(w64 (s68 + 1)), hd, I70, le72, ho.sub ⟨rfl, rfl, rfl, rfl, rfl, trivial⟩, hs.pick .n⟩
 exact .exitS [] rfl rfl (.seq (.region (.skips 1 rfl (.nilS [4] rfl rfl (.ret (pret results48 (.t rfl .n) le72 ⟨true, rfl, hd⟩))))))

theorem W_csr_Right {I : IH} {a0 : Rows} {p1 : Option Addr} {c2 : Nat} {p4 : Option Addr} {c5 : Nat} {p7 : Option Addr} {c8 : Nat} {Q : Bool → Prop} (R3 : RepSl eI64 I p1 c2 a0.Start) (R6 : RepSl eI64 I p4 c5 a0.Col) (R9 : RepSl eI64 I p7 c8 a0.Val) (hd : csr_Right a0 Q) :
    PFun Tryz.prog 31 [.agg #[.int .i64 a0.Rows, .int .i64 a0.Cols, .slice p1 a0.Start.length c2, .slice p4 a0.Col.length c5, .slice p7 a0.Val.length c8]] I (fun I_ v => ∃ r, v = .bool r ∧ Q r) := by
 refine Fun.enter func31 rfl ntmps31 rfl (.c .n) fun w0 M => ?_
 refine .seq (.region (.boxA rfl rfl rfl fun b12 => ?_))
 refine .skips 1 rfl (.nilS [1] rfl rfl (.seq (.region (.fieldAddr underlying25 rfl sizeOf22 rfl (o := 3) rfl rfl rfl (.load1 isAgg22 rfl .z rfl rfl rfl (.len underlying22 rfl rfl rfl rfl (.skips 1 rfl (.nilS [3, 1] rfl rfl (.seq ?_)))))))))
 refine .seq (.region (.fieldAddr underlying25 rfl sizeOf3 rfl (o := 0) rfl rfl rfl (.load1 isAgg3 rfl .z rfl rfl rfl ?_)))
 have hw28 := W_csr_within (I := I) hd
 refine .callP call46 rfl hw28 rfl rfl fun v29 hv30 => ?_
 obtain ⟨r27, rfl, hd⟩ := hv30
 refine .not rfl rfl rfl (.skips 1 rfl ?_)
 refine splitP hd (fun hb31 hd => ?_) fun hb31 hd => ?_
 · rw [hb31]
   exact .skips 25 rfl (.nilS [37, 3, 1] rfl rfl (.condKT rfl rfl (.seq (.region (.skips 1 rfl (.nilS [2] rfl rfl (.drop .z (.ret (pret results31 (.t rfl .n) (.refl _) ⟨false, rfl, hd⟩)))))))))
 rw [hb31]
 refine .gyes rfl rfl rfl (.fieldAddr underlying25 rfl sizeOf3 rfl (o := 1) rfl rfl rfl (.gyes rfl rfl rfl (.load1 isAgg3 rfl .z rfl rfl rfl ?_)))
 have hw33 := W_csr_within (I := I) hd
 refine .gyes rfl rfl rfl (.callP call46 rfl hw33 rfl rfl fun v34 hv35 => ?_)
 obtain ⟨r32, rfl, hd⟩ := hv35
 refine .gyes rfl rfl rfl (.not rfl rfl rfl (.skips 2 rfl ?_))
 refine splitP hd (fun hb36 hd => ?_) fun hb36 hd => ?_
 · rw [hb36]
   exact .skips 19 rfl (.nilS [37, 3, 1] rfl rfl (.condKT rfl rfl (.seq (.region (.skips 1 rfl (.nilS [2] rfl rfl (.drop .z (.ret (pret results31 (.t rfl .n) (.refl _) ⟨false, rfl, hd⟩)))))))))
 rw [hb36]
 refine .gyes rfl rfl rfl (.fieldAddr underlying25 rfl sizeOf22 rfl (o := 2) rfl rfl rfl (.gyes rfl rfl rfl (.load1 isAgg22 rfl .z rfl rfl rfl (.gyes rfl rfl rfl (.len underlying22 rfl rfl rfl rfl (.gyes rfl rfl rfl (.fieldAddr underlying25 rfl sizeOf3 rfl (o := 0) rfl rfl rfl (.gyes rfl rfl rfl (.load1 isAgg3 rfl .z rfl rfl rfl (.gyes rfl rfl rfl (.add rfl rfl rfl rfl (.gyes rfl rfl rfl (.ne rfl rfl rfl rfl (.skips 2 rfl ?_))))))))))))))
 refine splitP hd (fun hb37 hd => ?_) fun hb37 hd => ?_
 · rw [hb37]
   exact .skips 10 rfl (.nilS [37, 3, 1] rfl rfl (.condKT rfl rfl (.seq (.region (.skips 1 rfl (.nilS [2] rfl rfl (.drop .z (.ret (pret results31 (.t rfl .n) (.refl _) ⟨false, rfl, hd⟩)))))))))
 rw [hb37]
 refine .gyes rfl rfl rfl (.fieldAddr underlying25 rfl sizeOf23 rfl (o := 4) rfl rfl rfl (.gyes rfl rfl rfl (.load1 isAgg23 rfl .z rfl rfl rfl (.gyes rfl rfl rfl (.len underlying23 rfl rfl rfl rfl (.gyes rfl rfl rfl (.move rfl rfl rfl (.gyes rfl rfl rfl (.ne rfl rfl rfl rfl (.skips 2 rfl ?_))))))))))
 refine splitP hd (fun hb38 hd => ?_) fun hb38 hd => ?_
 · rw [hb38]
   exact .skips 3 rfl (.nilS [37, 3, 1] rfl rfl (.condKT rfl rfl (.seq (.region (.skips 1 rfl (.nilS [2] rfl rfl (.drop .z (.ret (pret results31 (.t rfl .n) (.refl _) ⟨false, rfl, hd⟩)))))))))
 rw [hb38]
 refine .gyes rfl rfl rfl (.move rfl rfl rfl (.gyes rfl rfl rfl (.gt rfl rfl rfl rfl (.skips 1 rfl (.nilS [37, 3, 1] rfl rfl (.condP rfl hd (fun hb39 hd => ?_) fun hb39 hd => ?_))))))
 · exact .seq (.region (.skips 1 rfl (.nilS [2] rfl rfl (.drop .z (.ret (pret results31 (.t rfl .n) (.refl _) ⟨false, rfl, hd⟩))))))
 refine .skipS [3, 1] rfl rfl (.seq (.seq (.region (.fieldAddr underlying25 rfl sizeOf22 rfl (o := 2) rfl rfl rfl (.load1 isAgg22 rfl .z rfl rfl rfl ?_)))))
 obtain ⟨h65, x66, hx67, hd⟩ := hd
 obtain ⟨b68, o69, cs70, e71, hC72, hr73⟩ := R3.2 _ _ hx67
 cases hr73
 refine .ixa underlying22 sizeOf3 rfl e71 rfl h65 (idx_lt hx67 h65) rfl rfl (.ld1 (j := 0) isAgg3 hC72 rfl rfl rfl rfl rfl (.ne rfl rfl rfl rfl (.skips 1 rfl ?_)))
 refine splitP hd (fun hb74 hd => ?_) fun hb74 hd => ?_
 · rw [hb74]
   exact .skips 15 rfl (.nilS [58, 1] rfl rfl (.condKT rfl rfl (.seq (.region (.skips 1 rfl (.nilS [2] rfl rfl (.drop .z (.ret (pret results31 (.t rfl .n) (.refl _) ⟨false, rfl, hd⟩)))))))))
 rw [hb74]
 refine .gyes rfl rfl rfl (.fieldAddr underlying25 rfl sizeOf22 rfl (o := 2) rfl rfl rfl (.gyes rfl rfl rfl (.load1 isAgg22 rfl .z rfl rfl rfl (.gyes rfl rfl rfl (.fieldAddr underlying25 rfl sizeOf3 rfl (o := 0) rfl rfl rfl (.gyes rfl rfl rfl (.load1 isAgg3 rfl .z rfl rfl rfl ?_)))))))
 obtain ⟨h75, x76, hx77, hd⟩ := hd
 obtain ⟨b78, o79, cs80, e81, hC82, hr83⟩ := R3.2 _ _ hx77
 cases hr83
 refine .gyes rfl rfl rfl (.ixa underlying22 sizeOf3 rfl e81 rfl h75 (idx_lt hx77 h75) rfl rfl (.gyes rfl rfl rfl (.ld1 (j := 0) isAgg3 hC82 rfl rfl rfl rfl rfl (.gyes rfl rfl rfl (.move rfl rfl rfl (.gyes rfl rfl rfl (.ne rfl rfl rfl rfl (.skips 2 rfl ?_))))))))
 refine splitP hd (fun hb84 hd => ?_) fun hb84 hd => ?_
 · rw [hb84]
   exact .skips 5 rfl (.nilS [58, 1] rfl rfl (.condKT rfl rfl (.seq (.region (.skips 1 rfl (.nilS [2] rfl rfl (.drop .z (.ret (pret results31 (.t rfl .n) (.refl _) ⟨false, rfl, hd⟩)))))))))
 rw [hb84]
 refine .gyes rfl rfl rfl (.fieldAddr underlying25 rfl sizeOf22 rfl (o := 2) rfl rfl rfl (.gyes rfl rfl rfl (.load1 isAgg22 rfl .z rfl rfl rfl ?_)))
 have hw86 := W_slices_IsSorted_int_int (I := I) R3 hd
 refine .gyes rfl rfl rfl (.callP call47 rfl hw86 rfl rfl fun v87 hv88 => ?_)
 obtain ⟨r85, rfl, hd⟩ := hv88
 refine .gyes rfl rfl rfl (.not rfl rfl rfl (.skips 1 rfl (.nilS [58, 1] rfl rfl (.condP rfl hd (fun hb89 hd => ?_) fun hb89 hd => ?_))))
 · exact .seq (.region (.skips 1 rfl (.nilS [2] rfl rfl (.drop .z (.ret (pret results31 (.t rfl .n) (.refl _) ⟨false, rfl, hd⟩))))))
 refine .skipS [1] rfl rfl (.seq (.seq (.region (.fieldAddr underlying25 rfl sizeOf3 rfl (o := 0) rfl rfl rfl (.load1 isAgg3 rfl .z rfl rfl rfl (.skips 1 rfl (.nilS [61, 60, 1] rfl rfl (.block (.loop hd (fun (s163 : Int) c w => ∃ I_, IH.le I I_ ∧ Ok ⟨83, [], none⟩ [(1, .pointer (some ⟨b12, 0, none⟩)), (60, .int .i64 a0.Rows), (61, .int .i64 s163)] c ∧ Sym w0 M I I_ [pto b12 (.cells #[.int .i64 a0.Rows, .int .i64 a0.Cols, .slice p1 a0.Start.length c2, .slice p4 a0.Col.length c5, .slice p7 a0.Val.length c8] 25 (0, 0))] w) (fun c w ho hs => ⟨I, (.refl _), ho.sub ⟨rfl, rfl, rfl, trivial⟩, hs.pick (.c .z .n)⟩) ?_)))))))))
 rintro s163 next164 hd c w hst
 obtain ⟨I165, hl166, hok, hsym⟩ := hst
 have le167 := IH.le.trans (.refl _) hl166
 replace R3 := R3.mono hl166
 replace R6 := R6.mono hl166
 replace R9 := R9.mono hl166
 refine Cod.at hok hsym (.seq (.region (.lt rfl rfl rfl rfl (.nilS [62, 61, 60, 1] rfl rfl (.seq (.condP rfl hd (fun hb169 hd => ?_) fun hb169 hd => ?_))))))
 · refine .skipS [61, 60, 1] rfl rfl (.seq (.block (.seq (.region (.skips 2 rfl (.nilS [4, 61, 60, 1] rfl rfl (.seq (.draw [some 0, some 1, some 2, some 3, some 4, some 5, some 6, some 7, some 8, some 9, some 10, some 11, some 12, some 13, some 14, some 15, some 16, some 17] 18 MX (by kernel_rfl) (by kernel_rfl) (by kernel_rfl) (by kernel_rfl) (by kernel_rfl) (by kernel_rfl) (by kernel_rfl) (fun ex => (pto b12 (.cells #[.int .i64 a0.Rows, .int .i64 a0.Cols, .slice p1 a0.Start.length c2, .slice p4 a0.Col.length c5, .slice p7 a0.Val.length c8] 25 (0, 0))) :: ex) (fun _ _ => (.s .z)) rfl (.f [] rfl (by kernel_rfl) rfl rfl (fun ex => .fieldAddr underlying25 rfl sizeOf22 rfl (o := 3) rfl rfl rfl .mk) ?_)))))))))
   refine .f [0] rfl (by kernel_rfl) rfl rfl (fun ex => .load1 isAgg22 rfl .z rfl rfl rfl .mk) (.f [] rfl (by kernel_rfl) rfl rfl (fun ex => .fieldAddr underlying25 rfl sizeOf22 rfl (o := 2) rfl rfl rfl .mk) (.f [2] rfl (by kernel_rfl) rfl rfl (fun ex => .load1 isAgg22 rfl .z rfl rfl rfl .mk) (.fs [[]] rfl (by kernel_rfl) ?_)))
   obtain ⟨h170, x171, hx172, hd⟩ := hd
   obtain ⟨b173, o174, cs175, e176, hC177, hr178⟩ := R3.2 _ _ hx172
   cases hr178
   refine .f [3, 4] rfl (by kernel_rfl) rfl rfl (fun ex => .ixa underlying22 sizeOf3 rfl e176 rfl h170 (idx_lt hx172 h170) rfl rfl .mk) (.f [5] rfl (by kernel_rfl) rfl rfl (fun ex => .ld1 (j := 0) isAgg3 hC177 rfl rfl rfl rfl rfl .mk) (.f [] rfl (by kernel_rfl) rfl rfl (fun ex => .fieldAddr underlying25 rfl sizeOf22 rfl (o := 2) rfl rfl rfl .mk) (.f [7] rfl (by kernel_rfl) rfl rfl (fun ex => .load1 isAgg22 rfl .z rfl rfl rfl .mk) (.fs [[]] rfl (by kernel_rfl) (.f [9] rfl (by kernel_rfl) rfl rfl (fun ex => .add rfl rfl rfl rfl .mk) ?_)))))
   obtain ⟨h179, x180, hx181, hd⟩ := hd
   obtain ⟨b182, o183, cs184, e185, hC186, hr187⟩ := R3.2 _ _ hx181
   cases hr187
   refine .f [8, 10] rfl (by kernel_rfl) rfl rfl (fun ex => .ixa underlying22 sizeOf3 rfl e185 rfl h179 (idx_lt hx181 h179) rfl rfl .mk) (.f [11] rfl (by kernel_rfl) rfl rfl (fun ex => .ld1 (j := 0) isAgg3 hC186 rfl rfl rfl rfl rfl .mk) ?_)
   obtain ⟨h188, h189, h190, hd⟩ := hd
   have h196 : Int.toNat x171 ≤ Int.toNat x180 := by omega
   have h197 : Int.toNat x180 ≤ a0.Col.length := by omega
   obtain ⟨p191, c192, e194, e195, R193⟩ := RepSl.sliceW R6 (Int.toNat x171) (Int.toNat x180) c5 h196 h197 (.inl rfl)
   refine .f [1, 6, 12] rfl (by kernel_rfl) rfl rfl (fun ex => .sliceW (L := Int.toNat x171) (H := Int.toNat x180) (cm := c5) underlying22 sizeOf3 rfl rfl R6.1 rfl rfl rfl (.inr ⟨_, _, rfl, h188, rfl⟩) (.inr ⟨_, _, rfl, (by omega), rfl⟩) (.inl rfl) h196 h197 rfl e194 e195 rfl rfl .mk) (.f [] rfl (by kernel_rfl) rfl rfl (fun ex => .fieldAddr underlying25 rfl sizeOf3 rfl (o := 1) rfl rfl rfl .mk) (.f [14] rfl (by kernel_rfl) rfl rfl (fun ex => .load1 isAgg3 rfl .z rfl rfl rfl .mk) (.w [] [[], [15], [], [13], [12, 13], [11, 12, 13], [10, 11, 12, 13], [11, 12, 13], [8, 11, 12, 13], [13], [6, 13], [5, 6, 13], [5, 6, 13], [3, 5, 6, 13], [13], [1, 13]] [13, 15] rfl (by kernel_rfl) (by kernel_rfl) (by kernel_rfl) ((dropE_kept rfl rfl)) (.inr (dropE_kept rfl rfl)) fun ex => ?_)))
   have hw199 := W_csr_row (I := I165) R193 hd
   refine .callP call48 rfl hw199 rfl rfl fun v200 hv201 => ?_
   obtain ⟨r198, rfl, hd⟩ := hv201
   refine .some (fun ex => (pto b12 (.cells #[.int .i64 a0.Rows, .int .i64 a0.Cols, .slice p1 a0.Start.length c2, .slice p4 a0.Col.length c5, .slice p7 a0.Val.length c8] 25 (0, 0))) :: ex) rfl (fun _ _ => (.s .z)) rfl trivial (.f [16] rfl (by kernel_rfl) rfl rfl (fun ex => .not rfl rfl rfl .mk) (.e 18 (by kernel_rfl) (by kernel_rfl) (by kernel_rfl) (.nilS [81, 61, 60, 1] rfl rfl (.condP rfl hd (fun hb202 hd => ?_) fun hb202 hd => ?_))))
   · exact .seq (.region (.skips 1 rfl (.nilS [2] rfl rfl (.drop .z (.ret (pret results31 (.t rfl .n) le167 ⟨false, rfl, hd⟩))))))
   exact .skipS [61, 60, 1] rfl rfl (.region (.add rfl rfl rfl rfl (.sub (E' := [(1, _), (60, _), (82, _)]) ⟨rfl, rfl, rfl, trivial⟩ (.skips 1 rfl (.nil' fun c w ho hs => ⟨(w64 (s163 + 1)), hd, I165, le167, ho.sub ⟨rfl, rfl, rfl, trivial⟩, hs.pick (.c .z .n)⟩)))))
 exact .exitS [] rfl rfl (.drop .z (.seq (.region (.skips 1 rfl (.nilS [2] rfl rfl (.ret (pret results31 (.t rfl .n) le167 ⟨true, rfl, hd⟩)))))))

theorem W_csr_empty {I : IH} {a0 : Int} {a1 : Int}  {Q : Rows → Prop}  (hd : csr_empty a0 a1 Q) :
    OFun Tryz.prog 66 [.int .i64 a0, .int .i64 a1] I (fun I_ v l => ∃ r p1 c2 p4 c5 p7 c8, v = .agg #[.int .i64 r.Rows, .int .i64 r.Cols, .slice p1 r.Start.length c2, .slice p4 r.Col.length c5, .slice p7 r.Val.length c8] ∧ l = [OwnSl eI64 3 p1 c2 r.Start, OwnSl eI64 3 p4 c5 r.Col, OwnSl eI64 2 p7 c8 r.Val] ∧ Q r) := by
 refine Fun.enter func66 rfl ntmps66 rfl (.c (.c .n)) fun w0 M => ?_
 refine .seq (.region (.allocA zeroValue25 rfl rfl fun b10 => ?_))
 refine .nilS [4, 1, 0] rfl rfl (.seq (.region (.skips 3 rfl (.add rfl rfl rfl rfl ?_))))
 obtain ⟨h12, h13, hd⟩ := hd
 refine .make (El := eI64) (zv := 0) 8 underlying22 IN3 rfl rfl rfl rfl rfl rfl h12 h13 rfl rfl rfl fun b14 => ?_
 exact .build zeroValue25 underlying25 BI25 (.c rfl rfl rfl (.t .nil) (.c rfl rfl rfl (.s (.t .nil)) (.c rfl rfl rfl (.s (.s (.t .nil))) .n))) (by exact ⟨⟨_, _, rfl, rfl, rfl⟩, ⟨⟨_, _, rfl, rfl, rfl⟩, ⟨⟨_, _, rfl, rfl, rfl⟩, trivial⟩⟩⟩) rfl rfl (.storeA sizeOf25 rfl rfl (.s .z) (.t (.t (.t (.t (.t .nil))))) rfl rfl (.nilS [4] rfl rfl (.own0 eI64 3 (.own0 eI64 2 (.ret (oret results66 (.w isAgg25 sizeOf25 rfl (.s (.s (.s .z))) rfl .n) (.refl _) (.c (.s (.s .z)) (.c (.s .z) (.c .z .n))) ⟨({ Rows := a0, Cols := a1, Start := (List.replicate (w64 (a0 + 1)).toNat 0), Col := ([] : List Int), Val := ([] : List Int) } : Rows), _, _, _, _, _, _, rfl, rfl, hd⟩))))))

theorem W_csr_sure {I : IH} {a0 : Rows} {p1 : Option Addr} {c2 : Nat} {p4 : Option Addr} {c5 : Nat} {p7 : Option Addr} {c8 : Nat} {Q : Rows → Prop} (R3 : RepSl eI64 I p1 c2 a0.Start) (R6 : RepSl eI64 I p4 c5 a0.Col) (R9 : RepSl eI64 I p7 c8 a0.Val) (hd : csr_sure a0 Q) :
    PFun Tryz.prog 49 [.agg #[.int .i64 a0.Rows, .int .i64 a0.Cols, .slice p1 a0.Start.length c2, .slice p4 a0.Col.length c5, .slice p7 a0.Val.length c8]] I (fun I_ v => ∃ r p10 c11 p13 c14 p16 c17, v = .agg #[.int .i64 r.Rows, .int .i64 r.Cols, .slice p10 r.Start.length c11, .slice p13 r.Col.length c14, .slice p16 r.Val.length c17] ∧ RepSl eI64 I_ p10 c11 r.Start ∧ RepSl eI64 I_ p13 c14 r.Col ∧ RepSl eI64 I_ p16 c17 r.Val ∧ Q r) := by
 refine Fun.enter func49 rfl ntmps49 rfl (.c .n) fun w0 M => ?_
 refine .seq (.region (.boxA rfl rfl rfl fun b23 => ?_))
 refine .allocA zeroValue25 rfl rfl fun b25 => ?_
 refine .nilS [2, 1] rfl rfl (.seq (.seq (.region (.loadW isAgg25 sizeOf25 rfl (.s .z) rfl rfl rfl ?_))))
 have hw28 := W_csr_Right (I := I) R3 R6 R9 hd
 refine .callP call31 rfl hw28 rfl rfl fun v29 hv30 => ?_
 obtain ⟨r27, rfl, hd⟩ := hv30
 refine .nilS [4, 2, 1] rfl rfl (.condP rfl hd (fun hb31 hd => ?_) fun hb31 hd => ?_)
 · exact .seq (.region (.loadW isAgg25 sizeOf25 rfl (.s .z) rfl rfl rfl (.storeA sizeOf25 rfl rfl .z (.t (.t (.t (.t (.t .nil))))) rfl rfl (.nilS [2] rfl rfl (.drop (.s .z) (.ret (pret results49 (.w isAgg25 sizeOf25 rfl .z rfl .n) (.refl _) ⟨a0, _, _, _, _, _, _, rfl, R3, R6, R9, hd⟩)))))))
 refine .skipS [2] rfl rfl (.drop (.s .z) (.seq (.region ?_)))
 have hw50 := W_csr_empty (I := I) hd
 refine .callO call66 rfl hw50 rfl rfl fun v36 I33 l37 hl34 hv35 => ?_
 obtain ⟨r32, p38, c39, p41, c42, p44, c45, rfl, rfl, hd⟩ := hv35
 have le51 := IH.le.trans (.refl _) hl34
 refine .storeA sizeOf25 rfl rfl (.s (.s (.s .z))) (.t (.t (.t (.t (.t .nil))))) rfl rfl (.nilS [2] rfl rfl (.pub .z fun I52 hl53 R54 => ?_))
 have le55 := IH.le.trans le51 hl53
 refine .pub .z fun I56 hl57 R58 => ?_
 have le59 := IH.le.trans le55 hl57
 replace R54 := R54.mono hl57
 refine .pub .z fun I60 hl61 R62 => ?_
 have le63 := IH.le.trans le59 hl61
 replace R54 := R54.mono hl61
 replace R58 := R58.mono hl61
 exact .ret (pret results49 (.w isAgg25 sizeOf25 rfl .z rfl .n) le63 ⟨r32, _, _, _, _, _, _, rfl, R54, R58, R62, hd⟩)

theorem W_csr_part {I : IH} {a0 : Rows} {a1 : Int} {p1 : Option Addr} {c2 : Nat} {p4 : Option Addr} {c5 : Nat} {p7 : Option Addr} {c8 : Nat} {Q : ((List Int) × (List Int)) → Prop} (R3 : RepSl eI64 I p1 c2 a0.Start) (R6 : RepSl eI64 I p4 c5 a0.Col) (R9 : RepSl eI64 I p7 c8 a0.Val) (hd : csr_part a0 a1 Q) :
    PFun Tryz.prog 50 [.agg #[.int .i64 a0.Rows, .int .i64 a0.Cols, .slice p1 a0.Start.length c2, .slice p4 a0.Col.length c5, .slice p7 a0.Val.length c8], .int .i64 a1] I (fun I_ v => ∃ r p10 c11 p13 c14, v = .tuple #[.slice p10 r.1.length c11, .slice p13 r.2.length c14] ∧ RepSl eI64 I_ p10 c11 r.1 ∧ RepSl eI64 I_ p13 c14 r.2 ∧ Q r) := by
 refine Fun.enter func50 rfl ntmps50 rfl (.c (.c .n)) fun w0 M => ?_
 refine .seq (.region (.boxA rfl rfl rfl fun b18 => ?_))
 refine .skips 2 rfl (.nilS [2, 1] rfl rfl (.seq (.draw [some 0, some 1, some 2, some 3, some 4, some 5, some 6, some 7, some 8, some 9, some 10, some 11] 12 MX (by kernel_rfl) (by kernel_rfl) (by kernel_rfl) (by kernel_rfl) (by kernel_rfl) (by kernel_rfl) (by kernel_rfl) (fun ex => (pto b18 (.cells #[.int .i64 a0.Rows, .int .i64 a0.Cols, .slice p1 a0.Start.length c2, .slice p4 a0.Col.length c5, .slice p7 a0.Val.length c8] 25 (0, 0))) :: ex) (fun _ _ => (.s .z)) rfl (.f [] rfl (by kernel_rfl) rfl rfl (fun ex => .fieldAddr underlying25 rfl sizeOf22 rfl (o := 2) rfl rfl rfl .mk) (.f [0] rfl (by kernel_rfl) rfl rfl (fun ex => .load1 isAgg22 rfl .z rfl rfl rfl .mk) (.fs [[]] rfl (by kernel_rfl) ?_))))))
 obtain ⟨h38, x39, hx40, hd⟩ := hd
 obtain ⟨b41, o42, cs43, e44, hC45, hr46⟩ := R3.2 _ _ hx40
 cases hr46
 refine .f [1, 2] rfl (by kernel_rfl) rfl rfl (fun ex => .ixa underlying22 sizeOf3 rfl e44 rfl h38 (idx_lt hx40 h38) rfl rfl .mk) (.f [3] rfl (by kernel_rfl) rfl rfl (fun ex => .ld1 (j := 0) isAgg3 hC45 rfl rfl rfl rfl rfl .mk) (.f [] rfl (by kernel_rfl) rfl rfl (fun ex => .fieldAddr underlying25 rfl sizeOf22 rfl (o := 2) rfl rfl rfl .mk) (.f [5] rfl (by kernel_rfl) rfl rfl (fun ex => .load1 isAgg22 rfl .z rfl rfl rfl .mk) (.fs [[]] rfl (by kernel_rfl) (.f [7] rfl (by kernel_rfl) rfl rfl (fun ex => .add rfl rfl rfl rfl .mk) ?_)))))
 obtain ⟨h47, x48, hx49, hd⟩ := hd
 obtain ⟨b50, o51, cs52, e53, hC54, hr55⟩ := R3.2 _ _ hx49
 cases hr55
 refine .f [6, 8] rfl (by kernel_rfl) rfl rfl (fun ex => .ixa underlying22 sizeOf3 rfl e53 rfl h47 (idx_lt hx49 h47) rfl rfl .mk) (.f [9] rfl (by kernel_rfl) rfl rfl (fun ex => .ld1 (j := 0) isAgg3 hC54 rfl rfl rfl rfl rfl .mk) (.fs [[4, 0, 1, 2, 3, 4]] rfl (by kernel_rfl) (.e 12 (by kernel_rfl) (by kernel_rfl) (by kernel_rfl) (.skips 1 rfl (.nilS [7, 6, 2] rfl rfl (.seq (.draw [some 0, some 1, some 2, some 3, some 4, some 5, some 6, some 7, some 8, some 9, some 10, some 11, some 12] 13 MX (by kernel_rfl) (by kernel_rfl) (by kernel_rfl) (by kernel_rfl) (by kernel_rfl) (by kernel_rfl) (by kernel_rfl) (fun ex => (pto b18 (.cells #[.int .i64 a0.Rows, .int .i64 a0.Cols, .slice p1 a0.Start.length c2, .slice p4 a0.Col.length c5, .slice p7 a0.Val.length c8] 25 (0, 0))) :: ex) (fun _ _ => (.s .z)) rfl (.f [] rfl (by kernel_rfl) rfl rfl (fun ex => .fieldAddr underlying25 rfl sizeOf22 rfl (o := 3) rfl rfl rfl .mk) (.f [0] rfl (by kernel_rfl) rfl rfl (fun ex => .load1 isAgg22 rfl .z rfl rfl rfl .mk) ?_)))))))))
 refine .fs [[], [], []] rfl (by kernel_rfl) ?_
 obtain ⟨h56, h57, h58, hd⟩ := hd
 have h64 : Int.toNat x39 ≤ Int.toNat x48 := by omega
 have h65 : Int.toNat x48 ≤ a0.Col.length := by omega
 obtain ⟨p59, c60, e62, e63, R61⟩ := RepSl.sliceW R6 (Int.toNat x39) (Int.toNat x48) (Int.toNat x48) h64 h65 (.inr rfl)
 refine .f [1, 2, 3, 4] rfl (by kernel_rfl) rfl rfl (fun ex => .sliceW (L := Int.toNat x39) (H := Int.toNat x48) (cm := Int.toNat x48) underlying22 sizeOf3 rfl rfl R6.1 rfl rfl rfl (.inr ⟨_, _, rfl, h56, rfl⟩) (.inr ⟨_, _, rfl, (by omega), rfl⟩) (.inr rfl) h64 h65 rfl e62 e63 rfl rfl .mk) (.f [] rfl (by kernel_rfl) rfl rfl (fun ex => .fieldAddr underlying25 rfl sizeOf23 rfl (o := 4) rfl rfl rfl .mk) (.f [6] rfl (by kernel_rfl) rfl rfl (fun ex => .load1 isAgg23 rfl .z rfl rfl rfl .mk) (.fs [[], [], []] rfl (by kernel_rfl) ?_)))
 obtain ⟨h66, h67, h68, hd⟩ := hd
 have h74 : Int.toNat x39 ≤ Int.toNat x48 := by omega
 have h75 : Int.toNat x48 ≤ a0.Val.length := by omega
 obtain ⟨p69, c70, e72, e73, R71⟩ := RepSl.sliceW R9 (Int.toNat x39) (Int.toNat x48) (Int.toNat x48) h74 h75 (.inr rfl)
 exact .f [7, 8, 9, 10] rfl (by kernel_rfl) rfl rfl (fun ex => .sliceW (L := Int.toNat x39) (H := Int.toNat x48) (cm := Int.toNat x48) underlying23 sizeOf2 rfl rfl R9.1 rfl rfl rfl (.inr ⟨_, _, rfl, h66, rfl⟩) (.inr ⟨_, _, rfl, (by omega), rfl⟩) (.inr rfl) h74 h75 rfl e72 e73 rfl rfl .mk) (.fs [[5, 0, 1, 2, 3, 4, 5]] rfl (by kernel_rfl) (.e 13 (by kernel_rfl) (by kernel_rfl) (by kernel_rfl) (.skips 1 rfl (.nilS [5, 4] rfl rfl (.drop .z (.ret (pret results50 (.t rfl (.t rfl .n)) (.refl _) ⟨(((a0.Col.take x48.toNat).drop x39.toNat), ((a0.Val.take x48.toNat).drop x39.toNat)), _, _, _, _, rfl, R61, R71, hd⟩)))))))

theorem W_csr_Triples {I : IH} {a0 : Rows} {p1 : Option Addr} {c2 : Nat} {p4 : Option Addr} {c5 : Nat} {p7 : Option Addr} {c8 : Nat} {Q : (List Triple) → Prop} (R3 : RepSl eI64 I p1 c2 a0.Start) (R6 : RepSl eI64 I p4 c5 a0.Col) (R9 : RepSl eI64 I p7 c8 a0.Val) (hd : csr_Triples a0 Q) :
    OFun Tryz.prog 32 [.agg #[.int .i64 a0.Rows, .int .i64 a0.Cols, .slice p1 a0.Start.length c2, .slice p4 a0.Col.length c5, .slice p7 a0.Val.length c8]] I (fun I_ v l => ∃ r p10 c11, v = .slice p10 r.length c11 ∧ l = [OwnSl eTriple 47 p10 c11 r] ∧ Q r) := by
 refine Fun.enter func32 rfl ntmps32 rfl (.c .n) fun w0 M => ?_
 refine .seq (.region (.boxA rfl rfl rfl fun b15 => ?_))
 refine .skips 1 rfl (.nilS [1] rfl rfl (.seq (.region (.loadW isAgg25 sizeOf25 rfl .z rfl rfl rfl ?_))))
 have hw49 := W_csr_sure (I := I) R3 R6 R9 hd
 refine .call call49 rfl hw49 rfl rfl fun v38 I35 hl36 hv37 => ?_
 obtain ⟨r34, p40, c41, p43, c44, p46, c47, rfl, R42, R45, R48, hd⟩ := hv37
 have le50 := IH.le.trans (.refl _) hl36
 replace R3 := R3.mono hl36
 replace R6 := R6.mono hl36
 replace R9 := R9.mono hl36
 refine .storeA sizeOf25 rfl rfl .z (.t (.t (.t (.t (.t .nil))))) rfl rfl (.nilS [1] rfl rfl (.seq (.region (.skips 1 rfl (.nilS [3, 1] rfl rfl (.seq (.seq (.region (.fieldAddr underlying25 rfl sizeOf3 rfl (o := 0) rfl rfl rfl ?_)))))))))
 refine .load1 isAgg3 rfl .z rfl rfl rfl (.skips 1 rfl (.nilS [13, 12, 3, 1] rfl rfl (.block (.own0 eTriple 47 (.loop hd (fun (s : (List Triple) × Int) c w => match s with | (s394, s398) => ∃ I_ p395 c396, IH.le I35 I_ ∧ Ok ⟨42, [], none⟩ [(1, .pointer (some ⟨b15, 0, none⟩)), (3, .slice p395 s394.length c396), (12, .int .i64 r34.Rows), (13, .int .i64 s398)] c ∧ Sym w0 M I I_ [pto b15 (.cells #[.int .i64 r34.Rows, .int .i64 r34.Cols, .slice p40 r34.Start.length c41, .slice p43 r34.Col.length c44, .slice p46 r34.Val.length c47] 25 (0, 0)), OwnSl eTriple 47 p395 c396 s394] w) (fun c w ho hs => ⟨I35, _, _, (.refl _), ho.sub ⟨rfl, rfl, rfl, rfl, trivial⟩, hs.pick (.c (.s .z) (.c .z .n))⟩) ?_)))))
 rintro ⟨s394, s398⟩ next400 hd c w hst
 obtain ⟨I401, p395, c396, hl402, hok, hsym⟩ := hst
 have le403 := IH.le.trans le50 hl402
 have le404 := IH.le.trans (.refl _) hl402
 replace R42 := R42.mono hl402
 replace R45 := R45.mono hl402
 replace R48 := R48.mono hl402
 refine Cod.at hok hsym (.seq (.region (.lt rfl rfl rfl rfl (.nilS [14, 13, 12, 3, 1] rfl rfl (.seq (.condP rfl hd (fun hb406 hd => ?_) fun hb406 hd => ?_))))))
 · refine .skipS [13, 12, 3, 1] rfl rfl (.seq (.block (.seq (.region (.skips 2 rfl (.nilS [4, 13, 12, 3, 1] rfl rfl (.seq (.region (.loadW isAgg25 sizeOf25 rfl .z rfl rfl rfl ?_)))))))))
   refine .skips 1 rfl ?_
   have hw434 := W_csr_part (I := I401) R42 R45 R48 hd
   refine .call call50 rfl hw434 rfl rfl fun v426 I423 hl424 hv425 => ?_
   obtain ⟨r422, p428, c429, p431, c432, rfl, R430, R433, hd⟩ := hv425
   have le435 := IH.le.trans le403 hl424
   have le436 := IH.le.trans le404 hl424
   replace R42 := R42.mono hl424
   replace R45 := R45.mono hl424
   replace R48 := R48.mono hl424
   refine .skips 1 rfl (.extract rfl rfl rfl rfl (.extract rfl rfl rfl rfl (.skips 2 rfl (.nilS [6, 5, 4, 13, 12, 3, 1] rfl rfl (.seq (.region (.skips 1 rfl (.len underlying22 rfl rfl rfl rfl (.skips 1 rfl ?_)))))))))
   refine .nilS [24, 23, 22, 6, 4, 13, 12, 3, 1] rfl rfl (.block (.loop hd (fun (s : (List Triple) × Int) c w => match s with | (s522, s526) => ∃ I_ p523 c524, IH.le I423 I_ ∧ Ok ⟨42, [], none⟩ [(1, .pointer (some ⟨b15, 0, none⟩)), (3, .slice p523 s522.length c524), (4, .int .i64 s398), (6, .slice p431 r422.2.length c432), (12, .int .i64 r34.Rows), (13, .int .i64 s398), (22, .slice p428 r422.1.length c429), (23, .int .i64 (r422.1.length : Int)), (24, .int .i64 s526)] c ∧ Sym w0 M I I_ [pto b15 (.cells #[.int .i64 r34.Rows, .int .i64 r34.Cols, .slice p40 r34.Start.length c41, .slice p43 r34.Col.length c44, .slice p46 r34.Val.length c47] 25 (0, 0)), OwnSl eTriple 47 p523 c524 s522] w) (fun c w ho hs => ⟨I423, _, _, (.refl _), ho.sub ⟨rfl, rfl, rfl, rfl, rfl, rfl, rfl, rfl, rfl, trivial⟩, hs.pick (.c .z (.c .z .n))⟩) ?_))
   rintro ⟨s522, s526⟩ next527 hd c w hst
   obtain ⟨I528, p523, c524, hl529, hok, hsym⟩ := hst
   have le530 := IH.le.trans le435 hl529
   have le531 := IH.le.trans le436 hl529
   have le532 := IH.le.trans (.refl _) hl529
   replace R42 := R42.mono hl529
   replace R45 := R45.mono hl529
   replace R48 := R48.mono hl529
   replace R430 := R430.mono hl529
   replace R433 := R433.mono hl529
   refine Cod.at hok hsym (.seq (.region (.lt rfl rfl rfl rfl (.nilS [25, 24, 23, 22, 13, 12, 6, 4, 3, 1] rfl rfl (.seq (.condP rfl hd (fun hb534 hd => ?_) fun hb534 hd => ?_))))))
   · refine .skipS [24, 23, 22, 13, 12, 6, 4, 3, 1] rfl rfl (.seq (.block (.seq (.region (.skips 1 rfl ?_)))))
     obtain ⟨h544, x545, hx546, hd⟩ := hd
     obtain ⟨b547, o548, cs549, e550, hC551, hr552⟩ := R430.2 _ _ hx546
     cases hr552
     refine .ixa underlying22 sizeOf3 rfl e550 rfl h544 (idx_lt hx546 h544) rfl rfl (.ld1 (j := 0) isAgg3 hC551 rfl rfl rfl rfl rfl (.skips 2 rfl (.nilS [8, 7, 24, 23, 22, 13, 12, 6, 4, 3, 1] rfl rfl (.region (.skips 5 rfl ?_)))))
     obtain ⟨h553, x554, hx555, hd⟩ := hd
     obtain ⟨b556, o557, cs558, e559, hC560, hr561⟩ := R433.2 _ _ hx555
     cases hr561
     refine .ixa underlying23 sizeOf2 rfl e559 rfl h553 (idx_lt hx555 h553) rfl rfl (.ld1 (j := 0) isAgg2 hC560 rfl rfl rfl rfl rfl (.build zeroValue47 underlying47 BI47 (.c rfl rfl rfl (.t .nil) (.c rfl rfl rfl (.s (.t .nil)) (.c rfl rfl rfl (.s (.s (.t .nil))) .n))) (by exact ⟨⟨_, _, rfl, rfl, rfl⟩, ⟨⟨_, _, rfl, rfl, rfl⟩, ⟨⟨_, _, rfl, rfl, rfl⟩, trivial⟩⟩⟩) rfl rfl (.buildSlice 1 underlying48 sizeOf47 zeroValue47 rfl rfl (.c rfl rfl rfl .n) rfl rfl fun b562 => ?_)))
     obtain ⟨hl564, hd⟩ := hd
     refine .append (ys := [({ Row := s398, Col := x545, Val := x554 } : Triple)]) 24 (.s (.s .z)) underlying48 underlying48 IN47 rfl rfl rfl rfl rfl rfl rfl rfl rfl (.box .z (.one rfl) rfl) hl564 rfl rfl fun p565 c566 => ?_
     exact .sub (E' := [(1, _), (4, _), (6, _), (12, _), (13, _), (22, _), (23, _), (24, _), (7, _), (8, _), (29, _), (30, _), (31, _), (32, _), (33, _), (34, _), (35, _), (36, _), (37, _), (38, _)]) ⟨rfl, rfl, rfl, rfl, rfl, rfl, rfl, rfl, rfl, rfl, rfl, rfl, rfl, rfl, rfl, rfl, rfl, rfl, rfl, rfl, trivial⟩ (.skips 1 rfl (.nilS [3, 24, 23, 22, 13, 12, 6, 4, 1] rfl rfl (.drop (.s .z) (.region (.add rfl rfl rfl rfl (.sub (E' := [(1, _), (4, _), (6, _), (12, _), (13, _), (22, _), (23, _), (3, _), (39, _)]) ⟨rfl, rfl, rfl, rfl, rfl, rfl, rfl, rfl, rfl, trivial⟩ (.skips 1 rfl (.nil' fun c w ho hs => ⟨((s522 ++ ([({ Row := s398, Col := x545, Val := x554 } : Triple)])), w64 (s526 + 1)), hd, I528, _, _, le532, ho.sub ⟨rfl, rfl, rfl, rfl, rfl, rfl, rfl, rfl, rfl, trivial⟩, hs.pick (.c (.s .z) (.c .z .n))⟩))))))))
   exact .exitS [13, 12, 3, 1] rfl rfl (.region (.add rfl rfl rfl rfl (.sub (E' := [(1, _), (3, _), (12, _), (40, _)]) ⟨rfl, rfl, rfl, rfl, trivial⟩ (.skips 1 rfl (.nil' fun c w ho hs => ⟨(s522, w64 (s398 + 1)), hd, I528, _, _, le531, ho.sub ⟨rfl, rfl, rfl, rfl, trivial⟩, hs.pick (.c .z (.c .z .n))⟩)))))
 exact .exitS [3] rfl rfl (.drop .z (.seq (.region (.skips 2 rfl (.nilS [2] rfl rfl (.ret (oret results32 (.t rfl .n) le403 (.c .z .n) ⟨s394, _, _, rfl, rfl, hd⟩)))))))

theorem W_cmp_Or_int {I : IH} {a0 : List Int} {p1 : Option Addr} {c2 : Nat} {Q : Int → Prop} (R3 : RepSl eI64 I p1 c2 a0) (hd : cmp_Or_int a0 Q) :
    PFun Tryz.prog 69 [.slice p1 a0.length c2] I (fun I_ v => ∃ r, v = .int .i64 r ∧ Q r) := by
 refine Fun.enter func69 rfl ntmps69 rfl (.c .n) fun w0 M => ?_
 refine .seq (.region (.skips 1 rfl (.nilS [0] rfl rfl (.seq (.region (.skips 1 rfl (.nilS [3, 0] rfl rfl (.seq (.seq ?_)))))))))
 refine .region (.skips 1 rfl (.len underlying22 rfl rfl rfl rfl (.skips 1 rfl (.nilS [8, 7, 6, 3] rfl rfl (.block (.loop hd (fun (s31 : Int) c w => ∃ I_, IH.le I I_ ∧ Ok ⟨18, [], none⟩ [(3, .int .i64 0), (6, .slice p1 a0.length c2), (7, .int .i64 (a0.length : Int)), (8, .int .i64 s31)] c ∧ Sym w0 M I I_ [] w) (fun c w ho hs => ⟨I, (.refl _), ho.sub ⟨rfl, rfl, rfl, rfl, trivial⟩, hs.pick .n⟩) ?_))))))
 rintro s31 next32 hd c w hst
 obtain ⟨I33, hl34, hok, hsym⟩ := hst
 have le35 := IH.le.trans (.refl _) hl34
 replace R3 := R3.mono hl34
 refine Cod.at hok hsym (.seq (.region (.lt rfl rfl rfl rfl (.nilS [9, 8, 7, 6, 3] rfl rfl (.seq (.condP rfl hd (fun hb37 hd => ?_) fun hb37 hd => ?_))))))
 · refine .skipS [8, 7, 6, 3] rfl rfl (.seq (.block (.seq (.region ?_))))
   obtain ⟨h38, x39, hx40, hd⟩ := hd
   obtain ⟨b41, o42, cs43, e44, hC45, hr46⟩ := R3.2 _ _ hx40
   cases hr46
   refine .ixa underlying22 sizeOf3 rfl e44 rfl h38 (idx_lt hx40 h38) rfl rfl (.ld1 (j := 0) isAgg3 hC45 rfl rfl rfl rfl rfl (.skips 1 rfl (.nilS [5, 8, 7, 6, 3] rfl rfl (.seq (.region (.skips 2 rfl (.ne rfl rfl rfl rfl (.nilS [14, 5, 8, 7, 6, 3] rfl rfl (.condP rfl hd (fun hb47 hd => ?_) fun hb47 hd => ?_)))))))))
   · exact .seq (.region (.skips 2 rfl (.nilS [2] rfl rfl (.ret (pret results69 (.t rfl .n) le35 ⟨x39, rfl, hd⟩)))))
   exact .skipS [8, 7, 6, 3] rfl rfl (.region (.add rfl rfl rfl rfl (.sub (E' := [(3, _), (6, _), (7, _), (16, _)]) ⟨rfl, rfl, rfl, rfl, trivial⟩ (.skips 1 rfl (.nil' fun c w ho hs => ⟨(w64 (s31 + 1)), hd, I33, le35, ho.sub ⟨rfl, rfl, rfl, rfl, trivial⟩, hs.pick .n⟩)))))
 exact .exitS [3] rfl rfl (.seq (.region (.skips 2 rfl (.nilS [2] rfl rfl (.ret (pret results69 (.t rfl .n) le35 ⟨0, rfl, hd⟩))))))

theorem W_cmp_Compare_int {I : IH} {a0 : Int} {a1 : Int}  {Q : Int → Prop}  (hd : cmp_Compare_int a0 a1 Q) :
    PFun Tryz.prog 70 [.int .i64 a0, .int .i64 a1] I (fun I_ v => ∃ r, v = .int .i64 r ∧ Q r) := by
 refine Fun.enter func70 rfl ntmps70 rfl (.c (.c .n)) fun w0 M => ?_
 refine .seq (.region (.skips 1 rfl (.nilS [1, 0] rfl rfl (.seq (.region (.skips 1 rfl ?_))))))
 have hw6 := W_cmp_isNaN_int (I := I) hd
 refine .callP call78 rfl hw6 rfl rfl fun v7 hv8 => ?_
 obtain ⟨r5, rfl, hd⟩ := hv8
 refine .skips 1 rfl (.nilS [5, 1, 0] rfl rfl (.seq (.region (.skips 1 rfl ?_))))
 have hw14 := W_cmp_isNaN_int (I := I) hd
 refine .callP call78 rfl hw14 rfl rfl fun v15 hv16 => ?_
 obtain ⟨r13, rfl, hd⟩ := hv16
 refine .skips 1 rfl (.nilS [6, 5, 1, 0] rfl rfl (.seq (.seq (.region (.skips 1 rfl (.nilS [11, 6, 1, 0] rfl rfl (.condP rfl hd (fun hb19 hd => ?_) fun hb19 hd => ?_)))))))
 · refine .seq (.seq (.region (.skips 1 rfl (.nilS [12] rfl rfl (.condP rfl hd (fun hb20 hd => ?_) fun hb20 hd => ?_)))))
   · exact .seq (.region (.skips 1 rfl (.nilS [4] rfl rfl (.ret (pret results70 (.t rfl .n) (.refl _) ⟨0, rfl, hd⟩)))))
   exact .skipS [] rfl rfl (.seq (.region (.skips 1 rfl (.nilS [4] rfl rfl (.ret (pret results70 (.t rfl .n) (.refl _) ⟨(-1), rfl, hd⟩))))))
 refine .skipS [6, 1, 0] rfl rfl (.seq (.seq (.region (.skips 1 rfl (.nilS [13, 1, 0] rfl rfl (.condP rfl hd (fun hb22 hd => ?_) fun hb22 hd => ?_))))))
 · exact .seq (.region (.skips 1 rfl (.nilS [4] rfl rfl (.ret (pret results70 (.t rfl .n) (.refl _) ⟨1, rfl, hd⟩)))))
 refine .skipS [1, 0] rfl rfl (.seq (.seq (.region (.skips 2 rfl (.lt rfl rfl rfl rfl (.nilS [16, 1, 0] rfl rfl (.condP rfl hd (fun hb24 hd => ?_) fun hb24 hd => ?_)))))))
 · exact .seq (.region (.skips 1 rfl (.nilS [4] rfl rfl (.ret (pret results70 (.t rfl .n) (.refl _) ⟨(-1), rfl, hd⟩)))))
 refine .skipS [1, 0] rfl rfl (.seq (.seq (.region (.skips 2 rfl (.gt rfl rfl rfl rfl (.nilS [19] rfl rfl (.condP rfl hd (fun hb25 hd => ?_) fun hb25 hd => ?_)))))))
 · exact .seq (.region (.skips 1 rfl (.nilS [4] rfl rfl (.ret (pret results70 (.t rfl .n) (.refl _) ⟨1, rfl, hd⟩)))))
 exact .skipS [] rfl rfl (.seq (.region (.skips 1 rfl (.nilS [4] rfl rfl (.ret (pret results70 (.t rfl .n) (.refl _) ⟨0, rfl, hd⟩))))))

theorem W_csr_order {I : IH} {a0 : Triple} {a1 : Triple}  {Q : Int → Prop}  (hd : csr_order a0 a1 Q) :
    PFun Tryz.prog 52 [.agg (encTriple a0).toArray, .agg (encTriple a1).toArray] I (fun I_ v => ∃ r, v = .int .i64 r ∧ Q r) := by
 refine Fun.enter func52 rfl ntmps52 rfl (.c (.c .n)) fun w0 M => ?_
 refine .seq (.region (.boxA rfl rfl rfl fun b5 => ?_))
 refine .boxA rfl rfl rfl fun b7 => ?_
 refine .skips 1 rfl (.nilS [3, 2] rfl rfl (.seq (.draw [some 0, some 1, some 2, some 3, some 5, some 6, some 7, some 8, some 4, some 9, some 10, some 11] 12 MX (by kernel_rfl) (by kernel_rfl) (by kernel_rfl) (by kernel_rfl) (by kernel_rfl) (by kernel_rfl) (by kernel_rfl) (fun ex => (pto b7 (.cells #[.int .i64 a1.Row, .int .i64 a1.Col, .int .i64 a1.Val] 47 (0, 0))) :: (pto b5 (.cells #[.int .i64 a0.Row, .int .i64 a0.Col, .int .i64 a0.Val] 47 (0, 0))) :: ex) (fun _ _ => (.s (.s .z))) rfl (.f [] rfl (by kernel_rfl) rfl rfl (fun ex => .fieldAddr underlying47 rfl sizeOf3 rfl (o := 0) rfl rfl rfl .mk) (.f [0] rfl (by kernel_rfl) rfl rfl (fun ex => .load1 isAgg3 rfl (.s .z) rfl rfl rfl .mk) (.f [] rfl (by kernel_rfl) rfl rfl (fun ex => .fieldAddr underlying47 rfl sizeOf3 rfl (o := 0) rfl rfl rfl .mk) (.f [2] rfl (by kernel_rfl) rfl rfl (fun ex => .load1 isAgg3 rfl .z rfl rfl rfl .mk) (.f [] rfl (by kernel_rfl) rfl rfl (fun ex => .fieldAddr underlying47 rfl sizeOf3 rfl (o := 1) rfl rfl rfl .mk) (.f [5] rfl (by kernel_rfl) rfl rfl (fun ex => .load1 isAgg3 rfl (.s .z) rfl rfl rfl .mk) ?_)))))))))
 refine .f [] rfl (by kernel_rfl) rfl rfl (fun ex => .fieldAddr underlying47 rfl sizeOf3 rfl (o := 1) rfl rfl rfl .mk) (.f [7] rfl (by kernel_rfl) rfl rfl (fun ex => .load1 isAgg3 rfl .z rfl rfl rfl .mk) (.w [8, 7, 6, 5] [[], [3], [], [1]] [1, 3] rfl (by kernel_rfl) (by kernel_rfl) (by kernel_rfl) ((dropE_kept rfl rfl)) (.inr (dropE_kept rfl rfl)) fun ex => ?_))
 have hw10 := W_cmp_Compare_int (I := I) hd
 refine .callP call70 rfl hw10 rfl rfl fun v11 hv12 => ?_
 obtain ⟨r9, rfl, hd⟩ := hv12
 refine .some (fun ex => (pto b7 (.cells #[.int .i64 a1.Row, .int .i64 a1.Col, .int .i64 a1.Val] 47 (0, 0))) :: (pto b5 (.cells #[.int .i64 a0.Row, .int .i64 a0.Col, .int .i64 a0.Val] 47 (0, 0))) :: ex) rfl (fun _ _ => (.s (.s .z))) rfl (.cc [7] rfl (by kernel_rfl) rfl rfl rfl (fun ex => .load1 isAgg3 rfl .z rfl rfl rfl .mk) (.cc [] rfl (by kernel_rfl) rfl rfl rfl (fun ex => .fieldAddr underlying47 rfl sizeOf3 rfl (o := 1) rfl rfl rfl .mk) (.cc [5] rfl (by kernel_rfl) rfl rfl rfl (fun ex => .load1 isAgg3 rfl (.s .z) rfl rfl rfl .mk) (.cc [] rfl (by kernel_rfl) rfl rfl rfl (fun ex => .fieldAddr underlying47 rfl sizeOf3 rfl (o := 1) rfl rfl rfl .mk) trivial)))) (.w [] [[], [8], [], [6]] [6, 8, 4] rfl (by kernel_rfl) (by kernel_rfl) (by kernel_rfl) ((dropE_kept rfl rfl)) (.inr (dropE_kept rfl rfl)) fun ex => ?_)
 have hw14 := W_cmp_Compare_int (I := I) hd
 refine .callP call70 rfl hw14 rfl rfl fun v15 hv16 => ?_
 obtain ⟨r13, rfl, hd⟩ := hv16
 refine .some (fun ex => (pto b7 (.cells #[.int .i64 a1.Row, .int .i64 a1.Col, .int .i64 a1.Val] 47 (0, 0))) :: (pto b5 (.cells #[.int .i64 a0.Row, .int .i64 a0.Col, .int .i64 a0.Val] 47 (0, 0))) :: ex) rfl (fun _ _ => (.s (.s .z))) rfl trivial (.w [] [] [4, 9] rfl (by kernel_rfl) (by kernel_rfl) (by kernel_rfl) ((dropE_kept rfl rfl)) (.inr (dropE_kept rfl rfl)) fun ex => ?_)
 refine .buildSlice 2 underlying22 sizeOf3 zeroValue3 rfl rfl (.c rfl rfl rfl (.c rfl rfl rfl .n)) rfl rfl fun b17 => ?_
 refine .some (fun ex => (pto b17 (.cells #[.int .i64 r9, .int .i64 r13] 3 (0, 0))) :: (pto b7 (.cells #[.int .i64 a1.Row, .int .i64 a1.Col, .int .i64 a1.Val] 47 (0, 0))) :: (pto b5 (.cells #[.int .i64 a0.Row, .int .i64 a0.Col, .int .i64 a0.Val] 47 (0, 0))) :: ex) rfl (fun _ _ => (.s (.s (.s .z)))) rfl trivial (.w [] [] [10, 9] rfl (by kernel_rfl) (by kernel_rfl) (by kernel_rfl) ((dropE_kept rfl rfl)) (.inr (dropE_kept rfl rfl)) fun ex => ?_)
 refine .pubB (El := eI64) (ys := ([r9, r13] : List Int)) (k := 2) .z (RepCs.cons (cs := [.int .i64 r9]) rfl (RepCs.cons (cs := [.int .i64 r13]) rfl .nil)) rfl fun I19 hl20 R21 => ?_
 have le22 := IH.le.trans (.refl _) hl20
 have hw24 := W_cmp_Or_int (I := I19) R21 hd
 refine .callP call69 rfl hw24 rfl rfl fun v25 hv26 => ?_
 obtain ⟨r23, rfl, hd⟩ := hv26
 exact .some (fun ex => (pto b7 (.cells #[.int .i64 a1.Row, .int .i64 a1.Col, .int .i64 a1.Val] 47 (0, 0))) :: (pto b5 (.cells #[.int .i64 a0.Row, .int .i64 a0.Col, .int .i64 a0.Val] 47 (0, 0))) :: ex) rfl (fun _ _ => (.s (.s .z))) rfl trivial (.e 12 (by kernel_rfl) (by kernel_rfl) (by kernel_rfl) (.skips 1 rfl (.nilS [4] rfl rfl (.drop .z (.drop .z (.ret (pret results52 (.t rfl .n) le22 ⟨r23, rfl, hd⟩)))))))

theorem W_csr_built {I : IH} {a0 : Int} {a1 : Int} {a2 : List Triple} {p1 : Option Addr} {c2 : Nat} {Q : Rows → Prop} (R3 : RepSl eTriple I p1 c2 a2) (hd : csr_built a0 a1 a2 Q) :
    PFun Tryz.prog 53 [.int .i64 a0, .int .i64 a1, .slice p1 a2.length c2] I (fun I_ v => ∃ r p4 c5 p7 c8 p10 c11, v = .agg #[.int .i64 r.Rows, .int .i64 r.Cols, .slice p4 r.Start.length c5, .slice p7 r.Col.length c8, .slice p10 r.Val.length c11] ∧ RepSl eI64 I_ p4 c5 r.Start ∧ RepSl eI64 I_ p7 c8 r.Col ∧ RepSl eI64 I_ p10 c11 r.Val ∧ Q r) := by
 refine Fun.enter func53 rfl ntmps53 rfl (.c (.c (.c .n))) fun w0 M => ?_
 refine .seq (.region (.allocA zeroValue25 rfl rfl fun b15 => ?_))
 refine .nilS [6, 2, 1, 0] rfl rfl (.seq (.region (.skips 2 rfl ?_)))
 have hw57 := W_csr_empty (I := I) hd
 refine .callO call66 rfl hw57 rfl rfl fun v43 I40 l44 hl41 hv42 => ?_
 obtain ⟨r39, p45, c46, p48, c49, p51, c52, rfl, rfl, hd⟩ := hv42
 have le58 := IH.le.trans (.refl _) hl41
 replace R3 := R3.mono hl41
 refine .allocA zeroValue25 rfl rfl fun b59 => ?_
 refine .storeA sizeOf25 rfl rfl .z (.t (.t (.t (.t (.t .nil))))) rfl rfl (.nilS [7, 6, 2, 0] rfl rfl (.seq (.seq (.region (.skips 1 rfl (.len underlying48 rfl rfl rfl rfl (.skips 1 rfl (.nilS [16, 15, 14, 7, 6, 0] rfl rfl (.block ?_)))))))))
 refine .loop hd (fun (s : (List Int) × (List Int) × (List Int) × Int) c w => match s with | (s417, s421, s425, s429) => ∃ I_ p418 c419 p422 c423 p426 c427, IH.le I40 I_ ∧ Ok ⟨63, [], none⟩ [(0, .int .i64 a0), (6, .pointer (some ⟨b15, 0, none⟩)), (7, .pointer (some ⟨b59, 0, none⟩)), (14, .slice p1 a2.length c2), (15, .int .i64 (a2.length : Int)), (16, .int .i64 s429)] c ∧ Sym w0 M I I_ [pto b15 (.cells #[.int .i64 0, .int .i64 0, .slice none 0 0, .slice none 0 0, .slice none 0 0] 25 (0, 0)), pto b59 (.cells #[.int .i64 r39.Rows, .int .i64 r39.Cols, .slice p418 s417.length c419, .slice p422 s421.length c423, .slice p426 s425.length c427] 25 (0, 0)), OwnSl eI64 3 p418 c419 s417, OwnSl eI64 3 p422 c423 s421, OwnSl eI64 2 p426 c427 s425] w) (fun c w ho hs => ⟨I40, _, _, _, _, _, _, (.refl _), ho.sub ⟨rfl, rfl, rfl, rfl, rfl, rfl, trivial⟩, hs.pick (.c (.s (.s (.s (.s .z)))) (.c .z (.c .z (.c .z (.c .z .n)))))⟩) ?_
 rintro ⟨s417, s421, s425, s429⟩ next430 hd c w hst
 obtain ⟨I431, p418, c419, p422, c423, p426, c427, hl432, hok, hsym⟩ := hst
 have le433 := IH.le.trans le58 hl432
 have le434 := IH.le.trans (.refl _) hl432
 replace R3 := R3.mono hl432
 refine Cod.at hok hsym (.seq (.region (.lt rfl rfl rfl rfl (.nilS [17, 16, 15, 14, 7, 6, 0] rfl rfl (.seq (.condP rfl hd (fun hb436 hd => ?_) fun hb436 hd => ?_))))))
 · refine .skipS [16, 15, 14, 7, 6, 0] rfl rfl (.seq (.block (.seq (.region ?_))))
   obtain ⟨h448, x449, hx450, hd⟩ := hd
   obtain ⟨b451, o452, cs453, e454, hC455, hr456⟩ := R3.2 _ _ hx450
   cases hr456
   refine .ixa underlying48 sizeOf47 rfl e454 rfl h448 (idx_lt hx450 h448) rfl rfl (.ldW isAgg47 sizeOf47 hC455 rfl rfl rfl rfl (.allocA zeroValue47 rfl rfl fun b457 => ?_))
   refine .storeA sizeOf47 rfl rfl .z (.t (.t (.t .nil))) rfl rfl (.nilS [9, 16, 15, 14, 7, 6, 0] rfl rfl (.seq (.region (.fieldAddr underlying25 rfl sizeOf22 rfl (o := 2) rfl rfl rfl (.load1 isAgg22 rfl (.s (.s .z)) rfl rfl rfl (.fieldAddr underlying47 rfl sizeOf3 rfl (o := 0) rfl rfl rfl (.load1 isAgg3 rfl .z rfl rfl rfl (.add rfl rfl rfl rfl ?_))))))))
   obtain ⟨h467, x468, hx469, hd⟩ := hd
   refine .ownNe (.s (.s (.s .z))) (idx_ne hx469) fun b470 e471 => ?_
   cases e471
   refine .ixa0 underlying22 sizeOf3 rfl rfl h467 (idx_lt hx469 h467) rfl rfl (.lo1 (j := 0) isAgg3 (.s (.s (.s .z))) hx469 rfl rfl rfl rfl rfl (.add rfl rfl rfl rfl ?_))
   obtain ⟨h472, x473, hx474, hd⟩ := hd
   refine .ixa0 underlying22 sizeOf3 rfl rfl h472 (idx_lt hx474 h472) rfl rfl (.stO1 (j := 0) (v' := (w64 (x468 + 1))) sizeOf3 (.s (.s (.s .z))) hx474 rfl rfl rfl (.t .nil) rfl (.sub (E' := [(0, _), (6, _), (7, _), (14, _), (15, _), (16, _), (9, _), (20, _), (21, .slice (some ⟨b470, 0, none⟩) (s417.set ((w64 (x449.Row + 1)).toNat) (w64 (x468 + 1))).length c419), (22, _), (23, _), (24, _), (25, _), (26, _), (27, _), (28, _)]) ⟨rfl, rfl, rfl, rfl, rfl, rfl, rfl, rfl, (by simp only [List.length_set]; rfl), rfl, rfl, rfl, rfl, rfl, rfl, rfl, trivial⟩ (.reat (.s (.s .z)) (B := pto b59 (.cells #[.int .i64 r39.Rows, .int .i64 r39.Cols, .slice (some ⟨b470, 0, none⟩) (s417.set ((w64 (x449.Row + 1)).toNat) (w64 (x468 + 1))).length c419, .slice p422 s421.length c423, .slice p426 s425.length c427] 25 (0, 0))) (by simp only [List.length_set]) (.nilS [9, 16, 15, 14, 7, 6, 0] rfl rfl (.seq (.region (.fieldAddr underlying25 rfl sizeOf22 rfl (o := 3) rfl rfl rfl (.load1 isAgg22 rfl (.s (.s .z)) rfl rfl rfl (.fieldAddr underlying47 rfl sizeOf3 rfl (o := 1) rfl rfl rfl ?_)))))))))
   refine .load1 isAgg3 rfl .z rfl rfl rfl (.buildSlice 1 underlying22 sizeOf3 zeroValue3 rfl rfl (.c rfl rfl rfl .n) rfl rfl fun b475 => ?_)
   obtain ⟨hl477, hd⟩ := hd
   refine .append (ys := [x449.Col]) 8 (.s (.s (.s (.s (.s .z))))) underlying22 underlying22 IN3 rfl rfl rfl rfl rfl rfl rfl rfl rfl (.box .z (.one rfl) rfl) hl477 rfl rfl fun p478 c479 => ?_
   refine .fieldAddr underlying25 rfl sizeOf22 rfl (o := 3) rfl rfl rfl (.store1 sizeOf22 rfl rfl (.s (.s (.s (.s .z)))) (.s (.s (.s (.t .nil)))) rfl (.nilS [9, 16, 15, 14, 7, 6, 0] rfl rfl (.drop (.s .z) (.region (.fieldAddr underlying25 rfl sizeOf23 rfl (o := 4) rfl rfl rfl (.load1 isAgg23 rfl (.s (.s (.s .z))) rfl rfl rfl (.fieldAddr underlying47 rfl sizeOf2 rfl (o := 2) rfl rfl rfl (.load1 isAgg2 rfl (.s .z) rfl rfl rfl (.buildSlice 1 underlying23 sizeOf2 zeroValue2 rfl rfl (.c rfl rfl rfl .n) rfl rfl fun b481 => ?_)))))))))
   obtain ⟨hl483, hd⟩ := hd
   refine .append (ys := [x449.Val]) 8 (.s (.s (.s (.s (.s (.s .z)))))) underlying23 underlying23 IN2 rfl rfl rfl rfl rfl rfl rfl rfl rfl (.box .z (.one rfl) rfl) hl483 rfl rfl fun p484 c485 => ?_
   exact .fieldAddr underlying25 rfl sizeOf23 rfl (o := 4) rfl rfl rfl (.store1 sizeOf23 rfl rfl (.s (.s (.s (.s (.s .z))))) (.s (.s (.s (.s (.t .nil))))) rfl (.nilS [16, 15, 14, 7, 6, 0] rfl rfl (.drop (.s .z) (.drop (.s (.s .z)) (.region (.add rfl rfl rfl rfl (.sub (E' := [(0, _), (6, _), (7, _), (14, _), (15, _), (43, _)]) ⟨rfl, rfl, rfl, rfl, rfl, rfl, trivial⟩ (.skips 1 rfl (.nil' fun c w ho hs => ⟨((s417.set ((w64 (x449.Row + 1)).toNat) (w64 (x468 + 1))), (s421 ++ ([x449.Col])), (s425 ++ ([x449.Val])), w64 (s429 + 1)), hd, I431, _, _, _, _, _, _, le434, ho.sub ⟨rfl, rfl, rfl, rfl, rfl, rfl, trivial⟩, hs.pick (.c (.s (.s .z)) (.c (.s (.s .z)) (.c (.s (.s .z)) (.c (.s .z) (.c .z .n)))))⟩)))))))))
 refine .exitS [7, 6, 0] rfl rfl (.seq (.seq (.region (.skips 2 rfl (.nilS [45, 44, 7, 6] rfl rfl (.block (.loop hd (fun (s : (List Int) × Int) c w => match s with | (s534, s538) => ∃ I_ p535 c536, IH.le I431 I_ ∧ Ok ⟨63, [], none⟩ [(6, .pointer (some ⟨b15, 0, none⟩)), (7, .pointer (some ⟨b59, 0, none⟩)), (44, .int .i64 a0), (45, .int .i64 s538)] c ∧ Sym w0 M I I_ [pto b15 (.cells #[.int .i64 0, .int .i64 0, .slice none 0 0, .slice none 0 0, .slice none 0 0] 25 (0, 0)), pto b59 (.cells #[.int .i64 r39.Rows, .int .i64 r39.Cols, .slice p535 s534.length c536, .slice p422 s421.length c423, .slice p426 s425.length c427] 25 (0, 0)), OwnSl eI64 3 p535 c536 s534, OwnSl eI64 3 p422 c423 s421, OwnSl eI64 2 p426 c427 s425] w) (fun c w ho hs => ⟨I431, _, _, (.refl _), ho.sub ⟨rfl, rfl, rfl, rfl, trivial⟩, hs.pick (.c .z (.c .z (.c .z (.c .z (.c .z .n)))))⟩) ?_)))))))
 rintro ⟨s534, s538⟩ next539 hd c w hst
 obtain ⟨I540, p535, c536, hl541, hok, hsym⟩ := hst
 have le542 := IH.le.trans le433 hl541
 have le543 := IH.le.trans le434 hl541
 have le544 := IH.le.trans (.refl _) hl541
 refine Cod.at hok hsym (.seq (.region (.lt rfl rfl rfl rfl (.nilS [46, 45, 44, 7, 6] rfl rfl (.seq (.condP rfl hd (fun hb546 hd => ?_) fun hb546 hd => ?_))))))
 · refine .skipS [45, 44, 7, 6] rfl rfl (.seq (.block (.seq (.region (.skips 2 rfl (.nilS [10, 45, 44, 7, 6] rfl rfl (.ownF (.s (.s .z)) fun hne547 => ?_)))))))
   refine .ownF (.s (.s (.s .z))) fun hne548 => ?_
   refine .ownF (.s (.s (.s (.s .z)))) fun hne549 => ?_
   refine .draw [some 0, some 1, some 2, some 3, some 4, some 5, some 6, some 7, some 8, some 9, some 10, some 11] 12 MX (by kernel_rfl) (by kernel_rfl) (by kernel_rfl) (by kernel_rfl) (by kernel_rfl) (by kernel_rfl) (by kernel_rfl) (fun ex => (pto b15 (.cells #[.int .i64 0, .int .i64 0, .slice none 0 0, .slice none 0 0, .slice none 0 0] 25 (0, 0))) :: (pto b59 (.cells #[.int .i64 r39.Rows, .int .i64 r39.Cols, .slice p535 s534.length c536, .slice p422 s421.length c423, .slice p426 s425.length c427] 25 (0, 0))) :: (OwnSl eI64 3 p535 c536 s534) :: (OwnSl eI64 3 p422 c423 s421) :: (OwnSl eI64 2 p426 c427 s425) :: ex) (fun _ _ => (.s (.s (.s (.s (.s .z)))))) rfl (.f [] rfl (by kernel_rfl) rfl rfl (fun ex => .fieldAddr underlying25 rfl sizeOf22 rfl (o := 2) rfl rfl rfl .mk) (.f [0] rfl (by kernel_rfl) rfl rfl (fun ex => .load1 isAgg22 rfl (.s .z) rfl rfl rfl .mk) (.fs [[]] rfl (by kernel_rfl) (.f [2] rfl (by kernel_rfl) rfl rfl (fun ex => .add rfl rfl rfl rfl .mk) ?_))))
   obtain ⟨h550, x551, hx552, hd⟩ := hd
   obtain ⟨b553, e554⟩ := hne547 (idx_ne hx552)
   cases e554
   refine .f [1, 3] rfl (by kernel_rfl) rfl rfl (fun ex => .ixa0 underlying22 sizeOf3 rfl rfl h550 (idx_lt hx552 h550) rfl rfl .mk) (.f [4] rfl (by kernel_rfl) rfl rfl (fun ex => .lo1 (j := 0) isAgg3 (.s (.s .z)) hx552 rfl rfl rfl rfl rfl .mk) (.f [] rfl (by kernel_rfl) rfl rfl (fun ex => .fieldAddr underlying25 rfl sizeOf22 rfl (o := 2) rfl rfl rfl .mk) (.f [6] rfl (by kernel_rfl) rfl rfl (fun ex => .load1 isAgg22 rfl (.s .z) rfl rfl rfl .mk) (.fs [[]] rfl (by kernel_rfl) ?_))))
   obtain ⟨h555, x556, hx557, hd⟩ := hd
   refine .f [7, 8] rfl (by kernel_rfl) rfl rfl (fun ex => .ixa0 underlying22 sizeOf3 rfl rfl h555 (idx_lt hx557 h555) rfl rfl .mk) (.f [9] rfl (by kernel_rfl) rfl rfl (fun ex => .lo1 (j := 0) isAgg3 (.s (.s .z)) hx557 rfl rfl rfl rfl rfl .mk) (.f [5, 10] rfl (by kernel_rfl) rfl rfl (fun ex => .add rfl rfl rfl rfl .mk) (.e 12 (by kernel_rfl) (by kernel_rfl) (by kernel_rfl) ?_)))
   obtain ⟨h558, x559, hx560, hd⟩ := hd
   exact .ixa0 underlying22 sizeOf3 rfl rfl h558 (idx_lt hx560 h558) rfl rfl (.stO1 (j := 0) (v' := (w64 (x551 + x556))) sizeOf3 (.s (.s .z)) hx560 rfl rfl rfl (.t .nil) rfl (.sub (E' := [(6, _), (7, _), (44, _), (45, _), (10, _), (48, _), (49, .slice (some ⟨b553, 0, none⟩) (s534.set ((w64 (s538 + 1)).toNat) (w64 (x551 + x556))).length c536), (50, _), (51, _), (52, _), (53, _), (54, _), (55, .slice (some ⟨b553, 0, none⟩) (s534.set ((w64 (s538 + 1)).toNat) (w64 (x551 + x556))).length c536), (56, _), (57, _), (58, _), (59, _), (60, _)]) ⟨rfl, rfl, rfl, rfl, rfl, rfl, (by simp only [List.length_set]; rfl), rfl, rfl, rfl, rfl, rfl, (by simp only [List.length_set]; rfl), rfl, rfl, rfl, rfl, rfl, trivial⟩ (.reat (.s .z) (B := pto b59 (.cells #[.int .i64 r39.Rows, .int .i64 r39.Cols, .slice (some ⟨b553, 0, none⟩) (s534.set ((w64 (s538 + 1)).toNat) (w64 (x551 + x556))).length c536, .slice p422 s421.length c423, .slice p426 s425.length c427] 25 (0, 0))) (by simp only [List.length_set]) (.nilS [45, 44, 7, 6] rfl rfl (.region (.add rfl rfl rfl rfl (.sub (E' := [(6, _), (7, _), (44, _), (61, _)]) ⟨rfl, rfl, rfl, rfl, trivial⟩ (.skips 1 rfl (.nil' fun c w ho hs => ⟨((s534.set ((w64 (s538 + 1)).toNat) (w64 (x551 + x556))), w64 (s538 + 1)), hd, I540, _, _, le544, ho.sub ⟨rfl, rfl, rfl, rfl, trivial⟩, hs.pick (.c .z (.c .z (.c .z (.c .z (.c .z .n)))))⟩)))))))))
 refine .exitS [7, 6] rfl rfl (.seq (.region (.loadW isAgg25 sizeOf25 rfl (.s .z) rfl rfl rfl (.storeA sizeOf25 rfl rfl .z (.t (.t (.t (.t (.t .nil))))) rfl rfl (.nilS [6] rfl rfl (.drop (.s .z) (.pub (.s .z) fun I561 hl562 R563 => ?_)))))))
 have le564 := IH.le.trans le542 hl562
 have le565 := IH.le.trans le543 hl562
 have le566 := IH.le.trans le544 hl562
 refine .pub (.s .z) fun I567 hl568 R569 => ?_
 have le570 := IH.le.trans le564 hl568
 have le571 := IH.le.trans le565 hl568
 have le572 := IH.le.trans le566 hl568
 replace R563 := R563.mono hl568
 refine .pub (.s .z) fun I573 hl574 R575 => ?_
 have le576 := IH.le.trans le570 hl574
 have le577 := IH.le.trans le571 hl574
 have le578 := IH.le.trans le572 hl574
 replace R563 := R563.mono hl574
 replace R569 := R569.mono hl574
 exact .ret (pret results53 (.w isAgg25 sizeOf25 rfl .z rfl .n) le576 ⟨({ Rows := r39.Rows, Cols := r39.Cols, Start := s534, Col := s421, Val := s425 } : Rows), _, _, _, _, _, _, rfl, R563, R569, R575, hd⟩)

theorem W_csr_Turn {I : IH} {a0 : Rows} {p1 : Option Addr} {c2 : Nat} {p4 : Option Addr} {c5 : Nat} {p7 : Option Addr} {c8 : Nat} {Q : Rows → Prop} (R3 : RepSl eI64 I p1 c2 a0.Start) (R6 : RepSl eI64 I p4 c5 a0.Col) (R9 : RepSl eI64 I p7 c8 a0.Val) (hd : csr_Turn a0 Q) :
    PFun Tryz.prog 33 [.agg #[.int .i64 a0.Rows, .int .i64 a0.Cols, .slice p1 a0.Start.length c2, .slice p4 a0.Col.length c5, .slice p7 a0.Val.length c8]] I (fun I_ v => ∃ r p10 c11 p13 c14 p16 c17, v = .agg #[.int .i64 r.Rows, .int .i64 r.Cols, .slice p10 r.Start.length c11, .slice p13 r.Col.length c14, .slice p16 r.Val.length c17] ∧ RepSl eI64 I_ p10 c11 r.Start ∧ RepSl eI64 I_ p13 c14 r.Col ∧ RepSl eI64 I_ p16 c17 r.Val ∧ Q r) := by
 refine Fun.enter func33 rfl ntmps33 rfl (.c .n) fun w0 M => ?_
 refine .seq (.region (.boxA rfl rfl rfl fun b23 => ?_))
 refine .allocA zeroValue25 rfl rfl fun b25 => ?_
 refine .nilS [2, 1] rfl rfl (.seq (.region (.loadW isAgg25 sizeOf25 rfl (.s .z) rfl rfl rfl ?_)))
 have hw59 := W_csr_sure (I := I) R3 R6 R9 hd
 refine .call call49 rfl hw59 rfl rfl fun v48 I45 hl46 hv47 => ?_
 obtain ⟨r44, p50, c51, p53, c54, p56, c57, rfl, R52, R55, R58, hd⟩ := hv47
 have le60 := IH.le.trans (.refl _) hl46
 replace R3 := R3.mono hl46
 replace R6 := R6.mono hl46
 replace R9 := R9.mono hl46
 refine .storeA sizeOf25 rfl rfl (.s .z) (.t (.t (.t (.t (.t .nil))))) rfl rfl (.nilS [2, 1] rfl rfl (.seq (.region (.loadW isAgg25 sizeOf25 rfl (.s .z) rfl rfl rfl ?_))))
 have hw83 := W_csr_Triples (I := I45) R52 R55 R58 hd
 refine .callO call32 rfl hw83 rfl rfl fun v77 I74 l78 hl75 hv76 => ?_
 obtain ⟨r73, p79, c80, rfl, rfl, hd⟩ := hv76
 have le84 := IH.le.trans le60 hl75
 replace R52 := R52.mono hl75
 replace R55 := R55.mono hl75
 replace R58 := R58.mono hl75
 refine .skips 1 rfl (.nilS [3, 2, 1] rfl rfl (.seq (.seq (.region (.skips 1 rfl (.len underlying48 rfl rfl rfl rfl (.skips 1 rfl (.nilS [12, 11, 10, 3, 2, 1] rfl rfl (.block ?_)))))))))
 refine .loop hd (fun (s : (List Triple) × Int) c w => match s with | (s227, s232) => ∃ I_ p228 c229, IH.le I74 I_ ∧ Ok ⟨36, [], none⟩ [(1, .pointer (some ⟨b23, 0, none⟩)), (2, .pointer (some ⟨b25, 0, none⟩)), (3, .slice p228 s227.length c229), (10, .slice p228 s227.length c229), (11, .int .i64 (r73.length : Int)), (12, .int .i64 s232)] c ∧ Sym w0 M I I_ [pto b23 (.cells #[.int .i64 r44.Rows, .int .i64 r44.Cols, .slice p50 r44.Start.length c51, .slice p53 r44.Col.length c54, .slice p56 r44.Val.length c57] 25 (0, 0)), pto b25 (.cells #[.int .i64 0, .int .i64 0, .slice none 0 0, .slice none 0 0, .slice none 0 0] 25 (0, 0)), OwnSl eTriple 47 p228 c229 s227] w) (fun c w ho hs => ⟨I74, _, _, (.refl _), ho.sub ⟨rfl, rfl, rfl, rfl, rfl, rfl, trivial⟩, hs.pick (.c (.s (.s .z)) (.c (.s .z) (.c .z .n)))⟩) ?_
 rintro ⟨s227, s232⟩ next233 hd c w hst
 obtain ⟨I234, p228, c229, hl235, hok, hsym⟩ := hst
 have le236 := IH.le.trans le84 hl235
 have le237 := IH.le.trans (.refl _) hl235
 replace R52 := R52.mono hl235
 replace R55 := R55.mono hl235
 replace R58 := R58.mono hl235
 refine Cod.at hok hsym (.seq (.region (.lt rfl rfl rfl rfl (.nilS [13, 12, 11, 10, 3, 2, 1] rfl rfl (.seq (.condP rfl hd (fun hb239 hd => ?_) fun hb239 hd => ?_))))))
 · refine .skipS [12, 11, 10, 3, 2, 1] rfl rfl (.seq (.block (.seq (.region (.skips 1 rfl ?_)))))
   obtain ⟨h247, x248, hx249, hd⟩ := hd
   refine .ownNe (.s (.s .z)) (idx_ne hx249) fun b250 e251 => ?_
   cases e251
   refine .ixa0 underlying48 sizeOf47 rfl rfl h247 (idx_lt hx249 h247) rfl rfl (.loA (j := 0) isAgg47 sizeOf47 (.s (.s .z)) hx249 rfl rfl (.t (.t (.t .nil))) rfl rfl rfl (.allocA zeroValue47 rfl rfl fun b252 => ?_))
   refine .skips 1 rfl (.storeA sizeOf47 rfl rfl .z (.t (.t (.t .nil))) rfl rfl (.nilS [4, 5, 12, 11, 10, 3, 2, 1] rfl rfl (.region (.skips 2 rfl (.fieldAddr underlying47 rfl sizeOf3 rfl (o := 1) rfl rfl rfl (.load1 isAgg3 rfl .z rfl rfl rfl (.fieldAddr underlying47 rfl sizeOf3 rfl (o := 0) rfl rfl rfl (.load1 isAgg3 rfl .z rfl rfl rfl (.fieldAddr underlying47 rfl sizeOf2 rfl (o := 2) rfl rfl rfl ?_)))))))))
   refine .load1 isAgg2 rfl .z rfl rfl rfl (.build zeroValue47 underlying47 BI47 (.c rfl rfl rfl (.t .nil) (.c rfl rfl rfl (.s (.t .nil)) (.c rfl rfl rfl (.s (.s (.t .nil))) .n))) (by exact ⟨⟨_, _, rfl, rfl, rfl⟩, ⟨⟨_, _, rfl, rfl, rfl⟩, ⟨⟨_, _, rfl, rfl, rfl⟩, trivial⟩⟩⟩) rfl rfl ?_)
   obtain ⟨h254, x255, hx256, hd⟩ := hd
   exact .ixa0 underlying48 sizeOf47 rfl rfl h254 (idx_lt hx256 h254) rfl rfl (.stOA (j := 0) (v' := ({ Row := x248.Col, Col := x248.Row, Val := x248.Val } : Triple)) sizeOf47 (.s (.s (.s .z))) hx256 rfl rfl rfl (.t (.t (.t .nil))) rfl rfl (.sub (E' := [(1, _), (2, _), (3, .slice (some ⟨b250, 0, none⟩) (s227.set s232.toNat ({ Row := x248.Col, Col := x248.Row, Val := x248.Val } : Triple)).length c229), (10, .slice (some ⟨b250, 0, none⟩) (s227.set s232.toNat ({ Row := x248.Col, Col := x248.Row, Val := x248.Val } : Triple)).length c229), (11, _), (12, _), (5, _), (4, _), (17, .slice (some ⟨b250, 0, none⟩) (s227.set s232.toNat ({ Row := x248.Col, Col := x248.Row, Val := x248.Val } : Triple)).length c229), (18, _), (19, _), (20, _), (21, _), (22, _), (23, _), (24, _), (25, _), (26, _)]) ⟨rfl, rfl, (by simp only [List.length_set]; rfl), (by simp only [List.length_set]; rfl), rfl, rfl, rfl, rfl, (by simp only [List.length_set]; rfl), rfl, rfl, rfl, rfl, rfl, rfl, rfl, rfl, rfl, trivial⟩ (.nilS [12, 11, 10, 3, 2, 1] rfl rfl (.drop .z (.region (.add rfl rfl rfl rfl (.sub (E' := [(1, _), (2, _), (3, _), (10, _), (11, _), (27, _)]) ⟨rfl, rfl, rfl, rfl, rfl, rfl, trivial⟩ (.skips 1 rfl (.nil' fun c w ho hs => ⟨((s227.set s232.toNat ({ Row := x248.Col, Col := x248.Row, Val := x248.Val } : Triple)), w64 (s232 + 1)), hd, I234, _, _, le237, ho.sub ⟨rfl, rfl, rfl, rfl, rfl, rfl, trivial⟩, hs.pick (.c .z (.c .z (.c .z .n)))⟩)))))))))
 refine .exitS [3, 2, 1] rfl rfl (.seq (.region (.skips 1 rfl ?_)))
 have hw257 := Fun.sort (hk := fun _ => ⟨rfl, rfl⟩) SL51 isAgg47 sizeOf47 (fun x y J Q hq => W_csr_order (I := J) (a0 := x) (a1 := y) (Q := Q) hq) call52 (I := I234) (T := 47) (a := p228) (cap := c229) hd
 refine .callS (.f call51 rfl) (.c (.s (.s .z)) .n) hw257 rfl rfl fun v258 I259 l260 hl261 hv262 => ?_
 obtain ⟨y263, rfl, hlen264, rfl, hd⟩ := hv262
 have le265 := IH.le.trans le236 hl261
 have le266 := IH.le.trans le237 hl261
 replace R52 := R52.mono hl261
 replace R55 := R55.mono hl261
 replace R58 := R58.mono hl261
 refine .sub (E' := [(1, _), (2, _), (3, .slice p228 y263.length c229), (28, .slice p228 y263.length c229), (29, _)]) ⟨rfl, rfl, (by rw [hlen264]; rfl), (by rw [hlen264]; rfl), rfl, trivial⟩ (.nilS [3, 2, 1] rfl rfl (.seq (.region (.fieldAddr underlying25 rfl sizeOf3 rfl (o := 1) rfl rfl rfl (.load1 isAgg3 rfl (.s .z) rfl rfl rfl (.fieldAddr underlying25 rfl sizeOf3 rfl (o := 0) rfl rfl rfl (.load1 isAgg3 rfl (.s .z) rfl rfl rfl (.skips 1 rfl (.pub .z fun I267 hl268 R269 => ?_)))))))))
 have le270 := IH.le.trans le265 hl268
 have le271 := IH.le.trans le266 hl268
 replace R52 := R52.mono hl268
 replace R55 := R55.mono hl268
 replace R58 := R58.mono hl268
 have hw287 := W_csr_built (I := I267) R269 hd
 refine .call call53 rfl hw287 rfl rfl fun v276 I273 hl274 hv275 => ?_
 obtain ⟨r272, p278, c279, p281, c282, p284, c285, rfl, R280, R283, R286, hd⟩ := hv275
 have le288 := IH.le.trans le270 hl274
 have le289 := IH.le.trans le271 hl274
 replace R52 := R52.mono hl274
 replace R55 := R55.mono hl274
 replace R58 := R58.mono hl274
 replace R269 := R269.mono hl274
 exact .storeA sizeOf25 rfl rfl (.s .z) (.t (.t (.t (.t (.t .nil))))) rfl rfl (.nilS [2] rfl rfl (.drop .z (.ret (pret results33 (.w isAgg25 sizeOf25 rfl .z rfl .n) le288 ⟨r272, _, _, _, _, _, _, rfl, R280, R283, R286, hd⟩))))

theorem W_dcsc_Of {I : IH} {a0 : Rows} {p1 : Option Addr} {c2 : Nat} {p4 : Option Addr} {c5 : Nat} {p7 : Option Addr} {c8 : Nat} {Q : Columns → Prop} (R3 : RepSl eI64 I p1 c2 a0.Start) (R6 : RepSl eI64 I p4 c5 a0.Col) (R9 : RepSl eI64 I p7 c8 a0.Val) (hd : dcsc_Of a0 Q) :
    PFun Tryz.prog 10 [.agg #[.int .i64 a0.Rows, .int .i64 a0.Cols, .slice p1 a0.Start.length c2, .slice p4 a0.Col.length c5, .slice p7 a0.Val.length c8]] I (fun I_ v => ∃ r p10 c11 p13 c14 p16 c17 p19 c20, v = .agg #[.int .i64 r.Rows, .int .i64 r.Cols, .slice p10 r.At.length c11, .slice p13 r.Start.length c14, .slice p16 r.Row.length c17, .slice p19 r.Val.length c20] ∧ RepSl eI64 I_ p10 c11 r.At ∧ RepSl eI64 I_ p13 c14 r.Start ∧ RepSl eI64 I_ p16 c17 r.Row ∧ RepSl eI64 I_ p19 c20 r.Val ∧ Q r) := by
 refine Fun.enter func10 rfl ntmps10 rfl (.c .n) fun w0 M => ?_
 refine .seq (.region (.boxA rfl rfl rfl fun b26 => ?_))
 refine .allocA zeroValue27 rfl rfl fun b28 => ?_
 refine .nilS [2, 1] rfl rfl (.seq (.region ?_))
 have hw78 := W_dcsc_none (I := I) hd
 refine .callO call30 rfl hw78 rfl rfl fun v60 I57 l61 hl58 hv59 => ?_
 obtain ⟨r56, p62, c63, p65, c66, p68, c69, p71, c72, rfl, rfl, hd⟩ := hv59
 have le79 := IH.le.trans (.refl _) hl58
 replace R3 := R3.mono hl58
 replace R6 := R6.mono hl58
 replace R9 := R9.mono hl58
 refine .allocA zeroValue27 rfl rfl fun b80 => ?_
 refine .storeA sizeOf27 rfl rfl .z (.t (.t (.t (.t (.t (.t .nil)))))) rfl rfl (.nilS [3, 2, 1] rfl rfl (.seq (.seq (.region (.loadW isAgg25 sizeOf25 rfl (.s (.s (.s (.s (.s (.s .z)))))) rfl rfl rfl ?_)))))
 have hw88 := W_csr_Right (I := I57) R3 R6 R9 hd
 refine .callP call31 rfl hw88 rfl rfl fun v89 hv90 => ?_
 obtain ⟨r87, rfl, hd⟩ := hv90
 refine .not rfl rfl rfl (.nilS [10, 3, 2, 1] rfl rfl (.condP rfl hd (fun hb91 hd => ?_) fun hb91 hd => ?_))
 · refine .seq (.region (.loadW isAgg27 sizeOf27 rfl .z rfl rfl rfl (.storeA sizeOf27 rfl rfl (.s (.s (.s (.s (.s .z))))) (.t (.t (.t (.t (.t (.t .nil)))))) rfl rfl (.nilS [2] rfl rfl (.drop .z (.drop (.s (.s (.s (.s (.s .z))))) (.pub .z fun I92 hl93 R94 => ?_)))))))
   have le95 := IH.le.trans le79 hl93
   refine .pub .z fun I96 hl97 R98 => ?_
   have le99 := IH.le.trans le95 hl97
   replace R94 := R94.mono hl97
   refine .pub .z fun I100 hl101 R102 => ?_
   have le103 := IH.le.trans le99 hl101
   replace R94 := R94.mono hl101
   replace R98 := R98.mono hl101
   refine .pub .z fun I104 hl105 R106 => ?_
   have le107 := IH.le.trans le103 hl105
   replace R94 := R94.mono hl105
   replace R98 := R98.mono hl105
   replace R102 := R102.mono hl105
   exact .ret (pret results10 (.w isAgg27 sizeOf27 rfl .z rfl .n) le107 ⟨r56, _, _, _, _, _, _, _, _, rfl, R94, R98, R102, R106, hd⟩)
 refine .skipS [3, 2, 1] rfl rfl (.seq (.draw [some 0, some 1, some 2, some 3, some 4, some 5] 6 MX (by kernel_rfl) (by kernel_rfl) (by kernel_rfl) (by kernel_rfl) (by kernel_rfl) (by kernel_rfl) (by kernel_rfl) (fun ex => (pto b80 (.cells #[.int .i64 r56.Rows, .int .i64 r56.Cols, .slice p62 r56.At.length c63, .slice p65 r56.Start.length c66, .slice p68 r56.Row.length c69, .slice p71 r56.Val.length c72] 27 (0, 0))) :: (OwnSl eI64 3 p62 c63 r56.At) :: (OwnSl eI64 3 p65 c66 r56.Start) :: (OwnSl eI64 3 p68 c69 r56.Row) :: (OwnSl eI64 2 p71 c72 r56.Val) :: (pto b28 (.cells #[.int .i64 0, .int .i64 0, .slice none 0 0, .slice none 0 0, .slice none 0 0, .slice none 0 0] 27 (0, 0))) :: (pto b26 (.cells #[.int .i64 a0.Rows, .int .i64 a0.Cols, .slice p1 a0.Start.length c2, .slice p4 a0.Col.length c5, .slice p7 a0.Val.length c8] 25 (0, 0))) :: ex) (fun _ _ => (.s (.s (.s (.s (.s (.s (.s .z)))))))) rfl (.f [] rfl (by kernel_rfl) rfl rfl (fun ex => .fieldAddr underlying25 rfl sizeOf3 rfl (o := 0) rfl rfl rfl .mk) (.f [0] rfl (by kernel_rfl) rfl rfl (fun ex => .load1 isAgg3 rfl (.s (.s (.s (.s (.s (.s .z)))))) rfl rfl rfl .mk) (.f [] rfl (by kernel_rfl) rfl rfl (fun ex => .fieldAddr underlying25 rfl sizeOf3 rfl (o := 1) rfl rfl rfl .mk) (.f [2] rfl (by kernel_rfl) rfl rfl (fun ex => .load1 isAgg3 rfl (.s (.s (.s (.s (.s (.s .z)))))) rfl rfl rfl .mk) (.f [0, 1] rfl (by kernel_rfl) rfl rfl (fun ex => .fieldAddr underlying27 rfl sizeOf3 rfl (o := 0) rfl rfl rfl .mk) (.w [3, 2] [[], [], []] [4, 1, 0, 1] rfl (by kernel_rfl) (by kernel_rfl) (by kernel_rfl) ((dropE_none rfl)) (.inr (dropE_none rfl)) fun ex => ?_))))))))
 refine .store1 sizeOf3 rfl rfl .z (.t .nil) rfl (.none (fun ex => (pto b80 (.cells #[.int .i64 a0.Rows, .int .i64 r56.Cols, .slice p62 r56.At.length c63, .slice p65 r56.Start.length c66, .slice p68 r56.Row.length c69, .slice p71 r56.Val.length c72] 27 (0, 0))) :: (OwnSl eI64 3 p62 c63 r56.At) :: (OwnSl eI64 3 p65 c66 r56.Start) :: (OwnSl eI64 3 p68 c69 r56.Row) :: (OwnSl eI64 2 p71 c72 r56.Val) :: (pto b28 (.cells #[.int .i64 0, .int .i64 0, .slice none 0 0, .slice none 0 0, .slice none 0 0, .slice none 0 0] 27 (0, 0))) :: (pto b26 (.cells #[.int .i64 a0.Rows, .int .i64 a0.Cols, .slice p1 a0.Start.length c2, .slice p4 a0.Col.length c5, .slice p7 a0.Val.length c8] 25 (0, 0))) :: ex) rfl (fun _ _ => (.s (.s (.s (.s (.s (.s (.s .z)))))))) rfl (.cc [2] rfl (by kernel_rfl) rfl rfl rfl (fun ex => .load1 isAgg3 rfl (.s (.s (.s (.s (.s (.s .z)))))) rfl rfl rfl .mk) (.cc [] rfl (by kernel_rfl) rfl rfl rfl (fun ex => .fieldAddr underlying25 rfl sizeOf3 rfl (o := 1) rfl rfl rfl .mk) trivial)) (.e 6 (by kernel_rfl) (by kernel_rfl) (by kernel_rfl) (.fieldAddr underlying27 rfl sizeOf3 rfl (o := 1) rfl rfl rfl (.store1 sizeOf3 rfl rfl .z (.s (.t .nil)) rfl (.nilS [3, 2, 1] rfl rfl (.seq (.seq (.region (.loadW isAgg25 sizeOf25 rfl (.s (.s (.s (.s (.s (.s .z)))))) rfl rfl rfl ?_)))))))))
 have hw152 := W_csr_Turn (I := I57) R3 R6 R9 hd
 refine .call call33 rfl hw152 rfl rfl fun v141 I138 hl139 hv140 => ?_
 obtain ⟨r137, p143, c144, p146, c147, p149, c150, rfl, R145, R148, R151, hd⟩ := hv140
 have le153 := IH.le.trans le79 hl139
 replace R3 := R3.mono hl139
 replace R6 := R6.mono hl139
 replace R9 := R9.mono hl139
 have hw164 := W_csr_Triples (I := I138) R145 R148 R151 hd
 refine .callO call32 rfl hw164 rfl rfl fun v158 I155 l159 hl156 hv157 => ?_
 obtain ⟨r154, p160, c161, rfl, rfl, hd⟩ := hv157
 have le165 := IH.le.trans le153 hl156
 replace R3 := R3.mono hl156
 replace R6 := R6.mono hl156
 replace R9 := R9.mono hl156
 replace R145 := R145.mono hl156
 replace R148 := R148.mono hl156
 replace R151 := R151.mono hl156
 refine .len underlying48 rfl rfl rfl rfl (.skips 1 rfl (.nilS [22, 21, 20, 3, 2] rfl rfl (.drop (.s (.s (.s (.s (.s (.s (.s .z))))))) (.block (.loop hd (fun (s : (List Int) × (List Int) × (List Int) × (List Int) × Int) c w => match s with | (s615, s619, s623, s627, s631) => ∃ I_ p616 c617 p620 c621 p624 c625 p628 c629, IH.le I155 I_ ∧ Ok ⟨79, [], none⟩ [(2, .pointer (some ⟨b28, 0, none⟩)), (3, .pointer (some ⟨b80, 0, none⟩)), (20, .slice p160 r154.length c161), (21, .int .i64 (r154.length : Int)), (22, .int .i64 s631)] c ∧ Sym w0 M I I_ [pto b28 (.cells #[.int .i64 0, .int .i64 0, .slice none 0 0, .slice none 0 0, .slice none 0 0, .slice none 0 0] 27 (0, 0)), pto b80 (.cells #[.int .i64 a0.Rows, .int .i64 a0.Cols, .slice p616 s615.length c617, .slice p620 s619.length c621, .slice p624 s623.length c625, .slice p628 s627.length c629] 27 (0, 0)), OwnSl eI64 3 p616 c617 s615, OwnSl eI64 3 p620 c621 s619, OwnSl eI64 3 p624 c625 s623, OwnSl eI64 2 p628 c629 s627, OwnSl eTriple 47 p160 c161 r154] w) (fun c w ho hs => ⟨I155, _, _, _, _, _, _, _, _, (.refl _), ho.sub ⟨rfl, rfl, rfl, rfl, rfl, trivial⟩, hs.pick (.c (.s (.s (.s (.s (.s (.s .z)))))) (.c (.s .z) (.c (.s .z) (.c (.s .z) (.c (.s .z) (.c (.s .z) (.c .z .n)))))))⟩) ?_)))))
 rintro ⟨s615, s619, s623, s627, s631⟩ next632 hd c w hst
 obtain ⟨I633, p616, c617, p620, c621, p624, c625, p628, c629, hl634, hok, hsym⟩ := hst
 have le635 := IH.le.trans le165 hl634
 have le636 := IH.le.trans (.refl _) hl634
 refine Cod.at hok hsym (.seq (.region (.lt rfl rfl rfl rfl (.nilS [23, 22, 21, 20, 3, 2] rfl rfl (.seq (.condP rfl hd (fun hb638 hd => ?_) fun hb638 hd => ?_))))))
 · refine .skipS [22, 21, 20, 3, 2] rfl rfl (.seq (.block (.seq (.region ?_))))
   obtain ⟨h646, x647, hx648, hd⟩ := hd
   refine .ownNe (.s (.s (.s (.s (.s (.s .z)))))) (idx_ne hx648) fun b649 e650 => ?_
   cases e650
   refine .ixa0 underlying48 sizeOf47 rfl rfl h646 (idx_lt hx648 h646) rfl rfl (.loA (j := 0) isAgg47 sizeOf47 (.s (.s (.s (.s (.s (.s .z)))))) hx648 rfl rfl (.t (.t (.t .nil))) rfl rfl rfl (.allocA zeroValue47 rfl rfl fun b651 => ?_))
   refine .storeA sizeOf47 rfl rfl .z (.t (.t (.t .nil))) rfl rfl (.nilS [5, 22, 21, 20, 3, 2] rfl rfl (.seq ?_))
   refine Cod.joinQ (σ := (List Int) × (List Int)) hd (fun (s : (List Int) × (List Int)) c w => match s with | (s753, s757) => ∃ I_ p754 c755 p758 c759, IH.le I633 I_ ∧ Ok ⟨79, [], none⟩ [(2, .pointer (some ⟨b28, 0, none⟩)), (3, .pointer (some ⟨b80, 0, none⟩)), (5, .pointer (some ⟨b651, 0, none⟩)), (20, .slice (some ⟨b649, 0, none⟩) r154.length c161), (21, .int .i64 (r154.length : Int)), (22, .int .i64 s631)] c ∧ Sym w0 M I I_ [pto b28 (.cells #[.int .i64 0, .int .i64 0, .slice none 0 0, .slice none 0 0, .slice none 0 0, .slice none 0 0] 27 (0, 0)), pto b80 (.cells #[.int .i64 a0.Rows, .int .i64 a0.Cols, .slice p754 s753.length c755, .slice p758 s757.length c759, .slice p624 s623.length c625, .slice p628 s627.length c629] 27 (0, 0)), OwnSl eI64 3 p754 c755 s753, OwnSl eI64 3 p758 c759 s757, OwnSl eI64 3 p624 c625 s623, OwnSl eI64 2 p628 c629 s627, pto b651 (.cells #[.int .i64 x647.Row, .int .i64 x647.Col, .int .i64 x647.Val] 47 (0, 0)), OwnSl eTriple 47 (some ⟨b649, 0, none⟩) c161 r154] w) (fun k761 hd => ?_) ?_
   · skip
     refine .seq (.region (.fieldAddr underlying27 rfl sizeOf22 rfl (o := 2) rfl rfl rfl (.load1 isAgg22 rfl (.s (.s .z)) rfl rfl rfl (.len underlying22 rfl rfl rfl rfl (.skips 1 rfl (.nilS [6, 5, 22, 21, 20, 3, 2] rfl rfl (.seq ?_)))))))
     refine Cod.joinQ (σ := Bool) hd (fun (s782 : Bool) c w => ∃ I_, IH.le I633 I_ ∧ Ok ⟨79, [], none⟩ [(2, .pointer (some ⟨b28, 0, none⟩)), (3, .pointer (some ⟨b80, 0, none⟩)), (5, .pointer (some ⟨b651, 0, none⟩)), (20, .slice (some ⟨b649, 0, none⟩) r154.length c161), (21, .int .i64 (r154.length : Int)), (22, .int .i64 s631), (41, .bool s782)] c ∧ Sym w0 M I I_ [pto b28 (.cells #[.int .i64 0, .int .i64 0, .slice none 0 0, .slice none 0 0, .slice none 0 0, .slice none 0 0] 27 (0, 0)), pto b80 (.cells #[.int .i64 a0.Rows, .int .i64 a0.Cols, .slice p616 s615.length c617, .slice p620 s619.length c621, .slice p624 s623.length c625, .slice p628 s627.length c629] 27 (0, 0)), OwnSl eI64 3 p616 c617 s615, OwnSl eI64 3 p620 c621 s619, OwnSl eI64 3 p624 c625 s623, OwnSl eI64 2 p628 c629 s627, pto b651 (.cells #[.int .i64 x647.Row, .int .i64 x647.Col, .int .i64 x647.Val] 47 (0, 0)), OwnSl eTriple 47 (some ⟨b649, 0, none⟩) c161 r154] w) (fun k783 hd => ?_) ?_
     · skip
       refine .ownF (.s (.s (.s .z))) fun hne784 => ?_
       refine .ownF (.s (.s (.s (.s .z)))) fun hne785 => ?_
       refine .ownF (.s (.s (.s (.s (.s .z))))) fun hne786 => ?_
       refine .ownF (.s (.s (.s (.s (.s (.s .z)))))) fun hne787 => ?_
       refine .draw [some 0, some 1, some 2, some 3, some 4, some 5, some 6, some 7, some 8, some 9, some 10, some 11, some 12] 13 MX (by kernel_rfl) (by kernel_rfl) (by kernel_rfl) (by kernel_rfl) (by kernel_rfl) (by kernel_rfl) (by kernel_rfl) (fun ex => (pto b651 (.cells #[.int .i64 x647.Row, .int .i64 x647.Col, .int .i64 x647.Val] 47 (0, 0))) :: (pto b28 (.cells #[.int .i64 0, .int .i64 0, .slice none 0 0, .slice none 0 0, .slice none 0 0, .slice none 0 0] 27 (0, 0))) :: (pto b80 (.cells #[.int .i64 a0.Rows, .int .i64 a0.Cols, .slice p616 s615.length c617, .slice p620 s619.length c621, .slice p624 s623.length c625, .slice p628 s627.length c629] 27 (0, 0))) :: (OwnSl eI64 3 p616 c617 s615) :: (OwnSl eI64 3 p620 c621 s619) :: (OwnSl eI64 3 p624 c625 s623) :: (OwnSl eI64 2 p628 c629 s627) :: (OwnSl eTriple 47 (some ⟨b649, 0, none⟩) c161 r154) :: ex) (fun _ _ => (.s (.s (.s (.s (.s (.s (.s (.s .z))))))))) rfl (.fs [[]] rfl (by kernel_rfl) (.f [0] rfl (by kernel_rfl) rfl rfl (fun ex => .eq rfl rfl rfl rfl .mk) (.fs [[1]] rfl (by kernel_rfl) ?_)))
       refine splitP hd (fun hb788 hd => ?_) fun hb788 hd => ?_
       · refine .f [2] rfl (by kernel_rfl) rfl rfl (fun ex => .gno rfl rfl hb788 rfl rfl .mk) (.f [3, 2] rfl (by kernel_rfl) rfl rfl (fun ex => .gno rfl rfl hb788 rfl rfl .mk) (.f [2] rfl (by kernel_rfl) rfl rfl (fun ex => .gno rfl rfl hb788 rfl rfl .mk) (.f [5, 2] rfl (by kernel_rfl) rfl rfl (fun ex => .gno rfl rfl hb788 rfl rfl .mk) (.f [4, 6, 2] rfl (by kernel_rfl) rfl rfl (fun ex => .gno rfl rfl hb788 rfl rfl .mk) (.f [7, 2] rfl (by kernel_rfl) rfl rfl (fun ex => .gno rfl rfl hb788 rfl rfl .mk) (.f [2] rfl (by kernel_rfl) rfl rfl (fun ex => .gno rfl rfl hb788 rfl rfl .mk) (.f [9, 2] rfl (by kernel_rfl) rfl rfl (fun ex => .gno rfl rfl hb788 rfl rfl .mk) (.f [8, 10, 2] rfl (by kernel_rfl) rfl rfl (fun ex => .gno rfl rfl hb788 rfl rfl .mk) (.f [2, 11] rfl (by kernel_rfl) rfl rfl (fun ex => .pickT rfl hb788 rfl rfl rfl .mk) ?_)))))))))
         exact .e 13 (by kernel_rfl) (by kernel_rfl) (by kernel_rfl) (.nil' fun c w ho hs => ⟨true, hd, I633, (.refl _), ho.sub ⟨rfl, rfl, rfl, rfl, rfl, rfl, rfl, trivial⟩, hs.pick (.c (.s .z) (.c (.s .z) (.c (.s .z) (.c (.s .z) (.c (.s .z) (.c (.s .z) (.c .z (.c .z .n))))))))⟩)
       refine .f [2] rfl (by kernel_rfl) rfl rfl (fun ex => .gyes rfl rfl hb788 (.fieldAddr underlying27 rfl sizeOf22 rfl (o := 2) rfl rfl rfl .mk)) (.f [3, 2] rfl (by kernel_rfl) rfl rfl (fun ex => .gyes rfl rfl hb788 (.load1 isAgg22 rfl (.s (.s .z)) rfl rfl rfl .mk)) (.f [2] rfl (by kernel_rfl) rfl rfl (fun ex => .gyes rfl rfl hb788 (.move rfl rfl rfl .mk)) (.f [5, 2] rfl (by kernel_rfl) rfl rfl (fun ex => .gyes rfl rfl hb788 (.sub' rfl rfl rfl rfl .mk)) ?_)))
       obtain ⟨h789, x790, hx791, hd⟩ := hd
       obtain ⟨b792, e793⟩ := hne784 (idx_ne hx791)
       cases e793
       exact .f [4, 6, 2] rfl (by kernel_rfl) rfl rfl (fun ex => .gyes rfl rfl hb788 (.ixa0 underlying22 sizeOf3 rfl rfl h789 (idx_lt hx791 h789) rfl rfl .mk)) (.f [7, 2] rfl (by kernel_rfl) rfl rfl (fun ex => .gyes rfl rfl hb788 (.lo1 (j := 0) isAgg3 (.s (.s (.s .z))) hx791 rfl rfl rfl rfl rfl .mk)) (.f [2] rfl (by kernel_rfl) rfl rfl (fun ex => .gyes rfl rfl hb788 (.fieldAddr underlying47 rfl sizeOf3 rfl (o := 0) rfl rfl rfl .mk)) (.f [9, 2] rfl (by kernel_rfl) rfl rfl (fun ex => .gyes rfl rfl hb788 (.load1 isAgg3 rfl .z rfl rfl rfl .mk)) (.f [8, 10, 2] rfl (by kernel_rfl) rfl rfl (fun ex => .gyes rfl rfl hb788 (.ne rfl rfl rfl rfl .mk)) (.f [2, 11] rfl (by kernel_rfl) rfl rfl (fun ex => .pickF rfl hb788 rfl rfl rfl .mk) (.e 13 (by kernel_rfl) (by kernel_rfl) (by kernel_rfl) (.nil' fun c w ho hs => ⟨(x790 != x647.Row), hd, I633, (.refl _), ho.sub ⟨rfl, rfl, rfl, rfl, rfl, rfl, rfl, trivial⟩, hs.pick (.c (.s .z) (.c (.s .z) (.c (.s .z) (.c (.s .z) (.c (.s .z) (.c (.s .z) (.c .z (.c .z .n))))))))⟩)))))))
     rintro s782 hd c w hst
     obtain ⟨I794, hl795, hok, hsym⟩ := hst
     have le796 := IH.le.trans le635 hl795
     have le797 := IH.le.trans le636 hl795
     have le798 := IH.le.trans (.refl _) hl795
     refine Cod.at hok hsym (.condP rfl hd (fun hb799 hd => ?_) fun hb799 hd => ?_)
     · refine .seq (.region (.fieldAddr underlying27 rfl sizeOf22 rfl (o := 2) rfl rfl rfl (.load1 isAgg22 rfl (.s .z) rfl rfl rfl (.fieldAddr underlying47 rfl sizeOf3 rfl (o := 0) rfl rfl rfl (.load1 isAgg3 rfl (.s (.s (.s (.s (.s (.s .z)))))) rfl rfl rfl (.buildSlice 1 underlying22 sizeOf3 zeroValue3 rfl rfl (.c rfl rfl rfl .n) rfl rfl fun b800 => ?_))))))
       obtain ⟨hl802, hd⟩ := hd
       refine .append (ys := [x647.Row]) 8 (.s (.s (.s .z))) underlying22 underlying22 IN3 rfl rfl rfl rfl rfl rfl rfl rfl rfl (.box .z (.one rfl) rfl) hl802 rfl rfl fun p803 c804 => ?_
       refine .fieldAddr underlying27 rfl sizeOf22 rfl (o := 2) rfl rfl rfl (.store1 sizeOf22 rfl rfl (.s (.s (.s .z))) (.s (.s (.t .nil))) rfl (.nilS [22, 21, 20, 5, 3, 2] rfl rfl (.drop (.s .z) (.region (.fieldAddr underlying27 rfl sizeOf22 rfl (o := 3) rfl rfl rfl (.load1 isAgg22 rfl (.s (.s .z)) rfl rfl rfl (.buildSlice 1 underlying22 sizeOf3 zeroValue3 rfl rfl (.c rfl rfl rfl .n) rfl rfl fun b806 => ?_)))))))
       obtain ⟨hl808, hd⟩ := hd
       refine .append (ys := [0]) 8 (.s (.s (.s (.s .z)))) underlying22 underlying22 IN3 rfl rfl rfl rfl rfl rfl rfl rfl rfl (.box .z (.one rfl) rfl) hl808 rfl rfl fun p809 c810 => ?_
       exact .fieldAddr underlying27 rfl sizeOf22 rfl (o := 3) rfl rfl rfl (.store1 sizeOf22 rfl rfl (.s (.s (.s (.s .z)))) (.s (.s (.s (.t .nil)))) rfl (.nil' fun c w ho hs => ⟨((s615 ++ ([x647.Row])), (s619 ++ ([0]))), hd, I794, _, _, _, _, le798, ho.sub ⟨rfl, rfl, rfl, rfl, rfl, rfl, trivial⟩, hs.pick (.c (.s (.s (.s .z))) (.c (.s (.s (.s .z))) (.c (.s (.s .z)) (.c .z (.c (.s .z) (.c (.s .z) (.c (.s .z) (.c (.s .z) .n))))))))⟩))
     exact .skip' fun c w ho hs => ⟨(s615, s619), hd, I794, _, _, _, _, le798, ho.sub ⟨rfl, rfl, rfl, rfl, rfl, rfl, trivial⟩, hs.pick (.c .z (.c .z (.c .z (.c .z (.c .z (.c .z (.c .z (.c .z .n))))))))⟩
   rintro ⟨s753, s757⟩ hd c w hst
   obtain ⟨I812, p754, c755, p758, c759, hl813, hok, hsym⟩ := hst
   have le814 := IH.le.trans le635 hl813
   have le815 := IH.le.trans le636 hl813
   have le816 := IH.le.trans (.refl _) hl813
   refine Cod.at hok hsym (.seq (.region (.fieldAddr underlying27 rfl sizeOf22 rfl (o := 4) rfl rfl rfl (.load1 isAgg22 rfl (.s .z) rfl rfl rfl (.fieldAddr underlying47 rfl sizeOf3 rfl (o := 1) rfl rfl rfl (.load1 isAgg3 rfl (.s (.s (.s (.s (.s (.s .z)))))) rfl rfl rfl (.buildSlice 1 underlying22 sizeOf3 zeroValue3 rfl rfl (.c rfl rfl rfl .n) rfl rfl fun b823 => ?_)))))))
   obtain ⟨hl825, hd⟩ := hd
   refine .append (ys := [x647.Col]) 8 (.s (.s (.s (.s (.s .z))))) underlying22 underlying22 IN3 rfl rfl rfl rfl rfl rfl rfl rfl rfl (.box .z (.one rfl) rfl) hl825 rfl rfl fun p826 c827 => ?_
   refine .fieldAddr underlying27 rfl sizeOf22 rfl (o := 4) rfl rfl rfl (.store1 sizeOf22 rfl rfl (.s (.s (.s .z))) (.s (.s (.s (.s (.t .nil))))) rfl (.nilS [22, 21, 20, 5, 3, 2] rfl rfl (.drop (.s .z) (.seq (.region (.fieldAddr underlying27 rfl sizeOf23 rfl (o := 5) rfl rfl rfl (.load1 isAgg23 rfl (.s (.s .z)) rfl rfl rfl (.fieldAddr underlying47 rfl sizeOf2 rfl (o := 2) rfl rfl rfl (.load1 isAgg2 rfl (.s (.s (.s (.s (.s (.s .z)))))) rfl rfl rfl ?_)))))))))
   refine .buildSlice 1 underlying23 sizeOf2 zeroValue2 rfl rfl (.c rfl rfl rfl .n) rfl rfl fun b829 => ?_
   obtain ⟨hl831, hd⟩ := hd
   refine .append (ys := [x647.Val]) 8 (.s (.s (.s (.s (.s (.s .z)))))) underlying23 underlying23 IN2 rfl rfl rfl rfl rfl rfl rfl rfl rfl (.box .z (.one rfl) rfl) hl831 rfl rfl fun p832 c833 => ?_
   refine .fieldAddr underlying27 rfl sizeOf23 rfl (o := 5) rfl rfl rfl (.store1 sizeOf23 rfl rfl (.s (.s (.s (.s .z)))) (.s (.s (.s (.s (.s (.t .nil)))))) rfl (.nilS [22, 21, 20, 3, 2] rfl rfl (.drop (.s .z) (.drop (.s (.s (.s (.s (.s (.s .z)))))) (.region (.fieldAddr underlying27 rfl sizeOf22 rfl (o := 3) rfl rfl rfl (.load1 isAgg22 rfl (.s (.s (.s .z))) rfl rfl rfl (.fieldAddr underlying27 rfl sizeOf22 rfl (o := 2) rfl rfl rfl (.load1 isAgg22 rfl (.s (.s (.s .z))) rfl rfl rfl ?_)))))))))
   refine .len underlying22 rfl rfl rfl rfl (.fieldAddr underlying27 rfl sizeOf22 rfl (o := 4) rfl rfl rfl (.load1 isAgg22 rfl (.s (.s (.s .z))) rfl rfl rfl (.len underlying22 rfl rfl rfl rfl ?_)))
   obtain ⟨h835, x836, hx837, hd⟩ := hd
   refine .ownNe (.s (.s (.s (.s (.s .z))))) (idx_ne hx837) fun b838 e839 => ?_
   cases e839
   exact .ixa0 underlying22 sizeOf3 rfl rfl h835 (idx_lt hx837 h835) rfl rfl (.stO1 (j := 0) (v' := ((s623 ++ ([x647.Col])).length : Int)) sizeOf3 (.s (.s (.s (.s (.s .z))))) hx837 rfl rfl rfl (.t .nil) rfl (.sub (E' := [(2, _), (3, _), (20, _), (21, _), (22, _), (68, _), (69, .slice (some ⟨b838, 0, none⟩) (s757.set ((s753.length : Int).toNat) ((s623 ++ ([x647.Col])).length : Int)).length c759), (70, _), (71, _), (72, _), (73, _), (74, _), (75, _), (76, _)]) ⟨rfl, rfl, rfl, rfl, rfl, rfl, (by simp only [List.length_set]; rfl), rfl, rfl, rfl, rfl, rfl, rfl, rfl, trivial⟩ (.reat (.s (.s (.s .z))) (B := pto b80 (.cells #[.int .i64 a0.Rows, .int .i64 a0.Cols, .slice p754 s753.length c755, .slice (some ⟨b838, 0, none⟩) (s757.set ((s753.length : Int).toNat) ((s623 ++ ([x647.Col])).length : Int)).length c759, .slice p826 (s623 ++ ([x647.Col])).length c827, .slice p832 (s627 ++ ([x647.Val])).length c833] 27 (0, 0))) (by simp only [List.length_set]) (.nilS [22, 21, 20, 3, 2] rfl rfl (.region (.add rfl rfl rfl rfl (.sub (E' := [(2, _), (3, _), (20, _), (21, _), (77, _)]) ⟨rfl, rfl, rfl, rfl, rfl, trivial⟩ (.skips 1 rfl (.nil' fun c w ho hs => ⟨(s753, (s757.set ((s753.length : Int).toNat) ((s623 ++ ([x647.Col])).length : Int)), (s623 ++ ([x647.Col])), (s627 ++ ([x647.Val])), w64 (s631 + 1)), hd, I812, _, _, _, _, _, _, _, _, le815, ho.sub ⟨rfl, rfl, rfl, rfl, rfl, trivial⟩, hs.pick (.c (.s (.s .z)) (.c (.s (.s .z)) (.c (.s (.s .z)) (.c (.s (.s .z)) (.c (.s .z) (.c .z (.c .z .n)))))))⟩)))))))))
 refine .exitS [3, 2] rfl rfl (.drop (.s (.s (.s (.s (.s (.s .z)))))) (.seq (.region (.loadW isAgg27 sizeOf27 rfl (.s .z) rfl rfl rfl (.storeA sizeOf27 rfl rfl .z (.t (.t (.t (.t (.t (.t .nil)))))) rfl rfl (.nilS [2] rfl rfl (.drop (.s .z) (.pub (.s .z) fun I840 hl841 R842 => ?_))))))))
 have le843 := IH.le.trans le635 hl841
 have le844 := IH.le.trans le636 hl841
 refine .pub (.s .z) fun I845 hl846 R847 => ?_
 have le848 := IH.le.trans le843 hl846
 have le849 := IH.le.trans le844 hl846
 replace R842 := R842.mono hl846
 refine .pub (.s .z) fun I850 hl851 R852 => ?_
 have le853 := IH.le.trans le848 hl851
 have le854 := IH.le.trans le849 hl851
 replace R842 := R842.mono hl851
 replace R847 := R847.mono hl851
 refine .pub (.s .z) fun I855 hl856 R857 => ?_
 have le858 := IH.le.trans le853 hl856
 have le859 := IH.le.trans le854 hl856
 replace R842 := R842.mono hl856
 replace R847 := R847.mono hl856
 replace R852 := R852.mono hl856
 exact .ret (pret results10 (.w isAgg27 sizeOf27 rfl .z rfl .n) le858 ⟨({ Rows := a0.Rows, Cols := a0.Cols, At := s615, Start := s619, Row := s623, Val := s627 } : Columns), _, _, _, _, _, _, _, _, rfl, R842, R847, R852, R857, hd⟩)

theorem W_ref03_SameInts {I : IH} {a0 : List Int} {a1 : List Int} {p1 : Option Addr} {c2 : Nat} {p4 : Option Addr} {c5 : Nat} {Q : Bool → Prop} (R3 : RepSl eI64 I p1 c2 a0) (R6 : RepSl eI64 I p4 c5 a1) (hd : ref03_SameInts a0 a1 Q) :
    PFun Tryz.prog 28 [.slice p1 a0.length c2, .slice p4 a1.length c5] I (fun I_ v => ∃ r, v = .bool r ∧ Q r) := by
 refine Fun.enter func28 rfl ntmps28 rfl (.c (.c .n)) fun w0 M => ?_
 refine .seq (.region (.skips 1 rfl (.nilS [1, 0] rfl rfl (.seq (.seq (.region (.skips 1 rfl (.len underlying22 rfl rfl rfl rfl (.skips 1 rfl ?_)))))))))
 refine .len underlying22 rfl rfl rfl rfl (.ne rfl rfl rfl rfl (.nilS [10, 1, 0] rfl rfl (.condP rfl hd (fun hb8 hd => ?_) fun hb8 hd => ?_)))
 · exact .seq (.region (.skips 1 rfl (.nilS [4] rfl rfl (.ret (pret results28 (.t rfl .n) (.refl _) ⟨false, rfl, hd⟩)))))
 refine .skipS [1, 0] rfl rfl (.seq (.seq (.region (.skips 1 rfl (.nilS [5, 1, 0] rfl rfl (.block (.loop hd (fun (s54 : Int) c w => ∃ I_, IH.le I I_ ∧ Ok ⟨26, [], none⟩ [(0, .slice p1 a0.length c2), (1, .slice p4 a1.length c5), (5, .int .i64 s54)] c ∧ Sym w0 M I I_ [] w) (fun c w ho hs => ⟨I, (.refl _), ho.sub ⟨rfl, rfl, rfl, trivial⟩, hs.pick .n⟩) ?_)))))))
 rintro s54 next55 hd c w hst
 obtain ⟨I56, hl57, hok, hsym⟩ := hst
 have le58 := IH.le.trans (.refl _) hl57
 replace R3 := R3.mono hl57
 replace R6 := R6.mono hl57
 refine Cod.at hok hsym (.seq (.seq (.region (.skips 2 rfl (.len underlying22 rfl rfl rfl rfl (.lt rfl rfl rfl rfl (.nilS [14, 5, 1, 0] rfl rfl (.condP rfl hd (fun hb60 hd => ?_) fun hb60 hd => ?_))))))))
 · refine .skipS [5, 1, 0] rfl rfl (.seq (.block (.seq (.draw [some 0, some 1, some 2, some 3, some 4, some 5, some 6, some 7, some 8] 9 MX (by kernel_rfl) (by kernel_rfl) (by kernel_rfl) (by kernel_rfl) (by kernel_rfl) (by kernel_rfl) (by kernel_rfl) (fun ex => ex) (fun _ _ => .z) rfl (.fs [[], []] rfl (by kernel_rfl) ?_)))))
   obtain ⟨h61, x62, hx63, hd⟩ := hd
   obtain ⟨b64, o65, cs66, e67, hC68, hr69⟩ := R3.2 _ _ hx63
   cases hr69
   refine .f [0, 1] rfl (by kernel_rfl) rfl rfl (fun ex => .ixa underlying22 sizeOf3 rfl e67 rfl h61 (idx_lt hx63 h61) rfl rfl .mk) (.f [2] rfl (by kernel_rfl) rfl rfl (fun ex => .ld1 (j := 0) isAgg3 hC68 rfl rfl rfl rfl rfl .mk) (.fs [[], []] rfl (by kernel_rfl) ?_))
   obtain ⟨h70, x71, hx72, hd⟩ := hd
   obtain ⟨b73, o74, cs75, e76, hC77, hr78⟩ := R6.2 _ _ hx72
   cases hr78
   refine .f [4, 5] rfl (by kernel_rfl) rfl rfl (fun ex => .ixa underlying22 sizeOf3 rfl e76 rfl h70 (idx_lt hx72 h70) rfl rfl .mk) (.f [6] rfl (by kernel_rfl) rfl rfl (fun ex => .ld1 (j := 0) isAgg3 hC77 rfl rfl rfl rfl rfl .mk) (.f [3, 7] rfl (by kernel_rfl) rfl rfl (fun ex => .ne rfl rfl rfl rfl .mk) (.e 9 (by kernel_rfl) (by kernel_rfl) (by kernel_rfl) (.nilS [25, 5, 1, 0] rfl rfl (.condP rfl hd (fun hb79 hd => ?_) fun hb79 hd => ?_)))))
   · exact .seq (.region (.skips 1 rfl (.nilS [4] rfl rfl (.ret (pret results28 (.t rfl .n) le58 ⟨false, rfl, hd⟩)))))
   exact .skipS [5, 1, 0] rfl rfl (.region (.skips 1 rfl (.add rfl rfl rfl rfl (.sub (E' := [(0, _), (1, _), (15, _), (16, _)]) ⟨rfl, rfl, rfl, rfl, trivial⟩ (.skips 1 rfl (.nil' fun c w ho hs => ⟨(w64 (s54 + 1)), hd, I56, le58, ho.sub ⟨rfl, rfl, rfl, trivial⟩, hs.pick .n⟩))))))
 exact .exitS [] rfl rfl (.seq (.region (.skips 1 rfl (.nilS [4] rfl rfl (.ret (pret results28 (.t rfl .n) le58 ⟨true, rfl, hd⟩))))))

theorem W_ref07_SameVals {I : IH} {a0 : List Int} {a1 : List Int} {p1 : Option Addr} {c2 : Nat} {p4 : Option Addr} {c5 : Nat} {Q : Bool → Prop} (R3 : RepSl eI64 I p1 c2 a0) (R6 : RepSl eI64 I p4 c5 a1) (hd : ref07_SameVals a0 a1 Q) :
    PFun Tryz.prog 29 [.slice p1 a0.length c2, .slice p4 a1.length c5] I (fun I_ v => ∃ r, v = .bool r ∧ Q r) := by
 refine Fun.enter func29 rfl ntmps29 rfl (.c (.c .n)) fun w0 M => ?_
 refine .seq (.region (.skips 1 rfl (.nilS [1, 0] rfl rfl (.seq (.seq (.region (.skips 1 rfl (.len underlying23 rfl rfl rfl rfl (.skips 1 rfl ?_)))))))))
 refine .len underlying23 rfl rfl rfl rfl (.ne rfl rfl rfl rfl (.nilS [10, 1, 0] rfl rfl (.condP rfl hd (fun hb8 hd => ?_) fun hb8 hd => ?_)))
 · exact .seq (.region (.skips 1 rfl (.nilS [4] rfl rfl (.ret (pret results29 (.t rfl .n) (.refl _) ⟨false, rfl, hd⟩)))))
 refine .skipS [1, 0] rfl rfl (.seq (.seq (.region (.skips 1 rfl (.nilS [5, 1, 0] rfl rfl (.block (.loop hd (fun (s54 : Int) c w => ∃ I_, IH.le I I_ ∧ Ok ⟨26, [], none⟩ [(0, .slice p1 a0.length c2), (1, .slice p4 a1.length c5), (5, .int .i64 s54)] c ∧ Sym w0 M I I_ [] w) (fun c w ho hs => ⟨I, (.refl _), ho.sub ⟨rfl, rfl, rfl, trivial⟩, hs.pick .n⟩) ?_)))))))
 rintro s54 next55 hd c w hst
 obtain ⟨I56, hl57, hok, hsym⟩ := hst
 have le58 := IH.le.trans (.refl _) hl57
 replace R3 := R3.mono hl57
 replace R6 := R6.mono hl57
 refine Cod.at hok hsym (.seq (.seq (.region (.skips 2 rfl (.len underlying23 rfl rfl rfl rfl (.lt rfl rfl rfl rfl (.nilS [14, 5, 1, 0] rfl rfl (.condP rfl hd (fun hb60 hd => ?_) fun hb60 hd => ?_))))))))
 · refine .skipS [5, 1, 0] rfl rfl (.seq (.block (.seq (.draw [some 0, some 1, some 2, some 3, some 4, some 5, some 6, some 7, some 8] 9 MX (by kernel_rfl) (by kernel_rfl) (by kernel_rfl) (by kernel_rfl) (by kernel_rfl) (by kernel_rfl) (by kernel_rfl) (fun ex => ex) (fun _ _ => .z) rfl (.fs [[], []] rfl (by kernel_rfl) ?_)))))
   obtain ⟨h61, x62, hx63, hd⟩ := hd
   obtain ⟨b64, o65, cs66, e67, hC68, hr69⟩ := R3.2 _ _ hx63
   cases hr69
   refine .f [0, 1] rfl (by kernel_rfl) rfl rfl (fun ex => .ixa underlying23 sizeOf2 rfl e67 rfl h61 (idx_lt hx63 h61) rfl rfl .mk) (.f [2] rfl (by kernel_rfl) rfl rfl (fun ex => .ld1 (j := 0) isAgg2 hC68 rfl rfl rfl rfl rfl .mk) (.fs [[], []] rfl (by kernel_rfl) ?_))
   obtain ⟨h70, x71, hx72, hd⟩ := hd
   obtain ⟨b73, o74, cs75, e76, hC77, hr78⟩ := R6.2 _ _ hx72
   cases hr78
   refine .f [4, 5] rfl (by kernel_rfl) rfl rfl (fun ex => .ixa underlying23 sizeOf2 rfl e76 rfl h70 (idx_lt hx72 h70) rfl rfl .mk) (.f [6] rfl (by kernel_rfl) rfl rfl (fun ex => .ld1 (j := 0) isAgg2 hC77 rfl rfl rfl rfl rfl .mk) (.f [3, 7] rfl (by kernel_rfl) rfl rfl (fun ex => .ne rfl rfl rfl rfl .mk) (.e 9 (by kernel_rfl) (by kernel_rfl) (by kernel_rfl) (.nilS [25, 5, 1, 0] rfl rfl (.condP rfl hd (fun hb79 hd => ?_) fun hb79 hd => ?_)))))
   · exact .seq (.region (.skips 1 rfl (.nilS [4] rfl rfl (.ret (pret results29 (.t rfl .n) le58 ⟨false, rfl, hd⟩)))))
   exact .skipS [5, 1, 0] rfl rfl (.region (.skips 1 rfl (.add rfl rfl rfl rfl (.sub (E' := [(0, _), (1, _), (15, _), (16, _)]) ⟨rfl, rfl, rfl, rfl, trivial⟩ (.skips 1 rfl (.nil' fun c w ho hs => ⟨(w64 (s54 + 1)), hd, I56, le58, ho.sub ⟨rfl, rfl, rfl, trivial⟩, hs.pick .n⟩))))))
 exact .exitS [] rfl rfl (.seq (.region (.skips 1 rfl (.nilS [4] rfl rfl (.ret (pret results29 (.t rfl .n) le58 ⟨true, rfl, hd⟩))))))

theorem W_ref07_Same {I : IH} {a0 : Rows} {a1 : Rows} {p1 : Option Addr} {c2 : Nat} {p4 : Option Addr} {c5 : Nat} {p7 : Option Addr} {c8 : Nat} {p10 : Option Addr} {c11 : Nat} {p13 : Option Addr} {c14 : Nat} {p16 : Option Addr} {c17 : Nat} {Q : Bool → Prop} (R3 : RepSl eI64 I p1 c2 a0.Start) (R6 : RepSl eI64 I p4 c5 a0.Col) (R9 : RepSl eI64 I p7 c8 a0.Val) (R12 : RepSl eI64 I p10 c11 a1.Start) (R15 : RepSl eI64 I p13 c14 a1.Col) (R18 : RepSl eI64 I p16 c17 a1.Val) (hd : ref07_Same a0 a1 Q) :
    PFun Tryz.prog 14 [.agg #[.int .i64 a0.Rows, .int .i64 a0.Cols, .slice p1 a0.Start.length c2, .slice p4 a0.Col.length c5, .slice p7 a0.Val.length c8], .agg #[.int .i64 a1.Rows, .int .i64 a1.Cols, .slice p10 a1.Start.length c11, .slice p13 a1.Col.length c14, .slice p16 a1.Val.length c17]] I (fun I_ v => ∃ r, v = .bool r ∧ Q r) := by
 refine Fun.enter func14 rfl ntmps14 rfl (.c (.c .n)) fun w0 M => ?_
 refine .seq (.region (.boxA rfl rfl rfl fun b23 => ?_))
 refine .boxA rfl rfl rfl fun b25 => ?_
 refine .skips 1 rfl (.nilS [3, 2] rfl rfl (.seq (.region (.fieldAddr underlying25 rfl sizeOf3 rfl (o := 0) rfl rfl rfl (.load1 isAgg3 rfl (.s .z) rfl rfl rfl (.fieldAddr underlying25 rfl sizeOf3 rfl (o := 0) rfl rfl rfl (.load1 isAgg3 rfl .z rfl rfl rfl (.eq rfl rfl rfl rfl (.skips 1 rfl ?_)))))))))
 refine splitP hd (fun hb27 hd => ?_) fun hb27 hd => ?_
 · rw [hb27]
   refine .gyes rfl rfl rfl (.fieldAddr underlying25 rfl sizeOf3 rfl (o := 1) rfl rfl rfl (.gyes rfl rfl rfl (.load1 isAgg3 rfl (.s .z) rfl rfl rfl (.gyes rfl rfl rfl (.fieldAddr underlying25 rfl sizeOf3 rfl (o := 1) rfl rfl rfl (.gyes rfl rfl rfl (.load1 isAgg3 rfl .z rfl rfl rfl (.gyes rfl rfl rfl (.eq rfl rfl rfl rfl (.skips 2 rfl ?_))))))))))
   refine splitP hd (fun hb28 hd => ?_) fun hb28 hd => ?_
   · rw [hb28]
     refine .gyes rfl rfl rfl (.fieldAddr underlying25 rfl sizeOf22 rfl (o := 2) rfl rfl rfl (.gyes rfl rfl rfl (.load1 isAgg22 rfl (.s .z) rfl rfl rfl (.gyes rfl rfl rfl (.fieldAddr underlying25 rfl sizeOf22 rfl (o := 2) rfl rfl rfl (.gyes rfl rfl rfl (.load1 isAgg22 rfl .z rfl rfl rfl ?_)))))))
     have hw30 := W_ref03_SameInts (I := I) R3 R12 hd
     refine .gyes rfl rfl rfl (.callP call28 rfl hw30 rfl rfl fun v31 hv32 => ?_)
     obtain ⟨r29, rfl, hd⟩ := hv32
     refine .skips 2 rfl ?_
     refine splitP hd (fun hb33 hd => ?_) fun hb33 hd => ?_
     · rw [hb33]
       refine .gyes rfl rfl rfl (.fieldAddr underlying25 rfl sizeOf22 rfl (o := 3) rfl rfl rfl (.gyes rfl rfl rfl (.load1 isAgg22 rfl (.s .z) rfl rfl rfl (.gyes rfl rfl rfl (.fieldAddr underlying25 rfl sizeOf22 rfl (o := 3) rfl rfl rfl (.gyes rfl rfl rfl (.load1 isAgg22 rfl .z rfl rfl rfl ?_)))))))
       have hw35 := W_ref03_SameInts (I := I) R6 R15 hd
       refine .gyes rfl rfl rfl (.callP call28 rfl hw35 rfl rfl fun v36 hv37 => ?_)
       obtain ⟨r34, rfl, hd⟩ := hv37
       refine .skips 2 rfl ?_
       refine splitP hd (fun hb38 hd => ?_) fun hb38 hd => ?_
       · rw [hb38]
         refine .gyes rfl rfl rfl (.fieldAddr underlying25 rfl sizeOf23 rfl (o := 4) rfl rfl rfl (.gyes rfl rfl rfl (.load1 isAgg23 rfl (.s .z) rfl rfl rfl (.gyes rfl rfl rfl (.fieldAddr underlying25 rfl sizeOf23 rfl (o := 4) rfl rfl rfl (.gyes rfl rfl rfl (.load1 isAgg23 rfl .z rfl rfl rfl ?_)))))))
         have hw40 := W_ref07_SameVals (I := I) R9 R18 hd
         refine .gyes rfl rfl rfl (.callP call29 rfl hw40 rfl rfl fun v41 hv42 => ?_)
         obtain ⟨r39, rfl, hd⟩ := hv42
         exact .skips 2 rfl (.nilS [4] rfl rfl (.drop .z (.drop .z (.ret (pret results14 (.t rfl .n) (.refl _) ⟨r39, rfl, hd⟩)))))
       rw [hb38]
       exact .skips 7 rfl (.nilS [4] rfl rfl (.drop .z (.drop .z (.ret (pret results14 (.t rfl .n) (.refl _) ⟨false, rfl, hd⟩)))))
     rw [hb33]
     exact .skips 14 rfl (.nilS [4] rfl rfl (.drop .z (.drop .z (.ret (pret results14 (.t rfl .n) (.refl _) ⟨false, rfl, hd⟩)))))
   rw [hb28]
   exact .skips 21 rfl (.nilS [4] rfl rfl (.drop .z (.drop .z (.ret (pret results14 (.t rfl .n) (.refl _) ⟨false, rfl, hd⟩)))))
 rw [hb27]
 exact .skips 28 rfl (.nilS [4] rfl rfl (.drop .z (.drop .z (.ret (pret results14 (.t rfl .n) (.refl _) ⟨false, rfl, hd⟩)))))

theorem W_ring_Is {I : IH} {a0 : Int}  {Q : Bool → Prop}  (hd : ring_Is a0 Q) :
    PFun Tryz.prog 56 [.int .i64 a0] I (fun I_ v => ∃ r, v = .bool r ∧ Q r) := by
 refine Fun.enter func56 rfl ntmps56 rfl (.c .n) fun w0 M => ?_
 refine .seq (.region (.skips 1 rfl (.nilS [0] rfl rfl (.seq (.region (.skips 1 rfl (.gt rfl rfl rfl rfl (.skips 1 rfl ?_))))))))
 refine splitP hd (fun hb1 hd => ?_) fun hb1 hd => ?_
 · rw [hb1]
   exact .gyes rfl rfl rfl (.move rfl rfl rfl (.gyes rfl rfl rfl (.lt rfl rfl rfl rfl (.skips 2 rfl (.nilS [2] rfl rfl (.ret (pret results56 (.t rfl .n) (.refl _) ⟨(decide (a0 < 6)), rfl, hd⟩)))))))
 rw [hb1]
 exact .skips 4 rfl (.nilS [2] rfl rfl (.ret (pret results56 (.t rfl .n) (.refl _) ⟨false, rfl, hd⟩)))

theorem W_wide_Of {I : IH} {a0 : Int}  {Q : Wide → Prop}  (hd : wide_Of a0 Q) :
    PFun Tryz.prog 72 [.int .i64 a0] I (fun I_ v => ∃ r, v = .agg (encWide r).toArray ∧ Q r) := by
 refine Fun.enter func72 rfl ntmps72 rfl (.c .n) fun w0 M => ?_
 refine .seq (.region (.allocA zeroValue86 rfl rfl fun b1 => ?_))
 refine .nilS [2, 0] rfl rfl (.seq (.region (.skips 1 rfl (.shr' rfl rfl (by decide) rfl rfl (.skips 1 rfl (.conv underlying2 underlying84 rfl rfl rfl (.build zeroValue86 underlying86 BI86 (.c rfl rfl rfl (.t .nil) (.c rfl rfl rfl (.s (.t .nil)) .n)) (by exact ⟨⟨_, _, rfl, rfl, rfl⟩, ⟨⟨_, _, rfl, rfl, rfl⟩, trivial⟩⟩) rfl rfl (.storeA sizeOf86 rfl rfl .z (.t (.t .nil)) rfl rfl (.nilS [2] rfl rfl ?_)))))))))
 exact .ret (pret results72 (.w isAgg86 sizeOf86 rfl .z rfl .n) (.refl _) ⟨({ Hi := shr .i64 a0 63, Lo := IntKind.wrap .u64 (a0) } : Wide), rfl, hd⟩)

theorem W_cmp_isNaN_int64 {I : IH} {a0 : Int}  {Q : Bool → Prop}  (hd : cmp_isNaN_int64 a0 Q) :
    PFun Tryz.prog 103 [.int .i64 a0] I (fun I_ v => ∃ r, v = .bool r ∧ Q r) := by
 refine Fun.enter func103 rfl ntmps103 rfl (.c .n) fun w0 M => ?_
 refine .seq (.region (.skips 1 rfl (.nilS [0] rfl rfl (.seq (.region (.skips 2 rfl (.ne rfl rfl rfl rfl (.skips 1 rfl (.nilS [2] rfl rfl ?_)))))))))
 exact .ret (pret results103 (.t rfl .n) (.refl _) ⟨(a0 != a0), rfl, hd⟩)

theorem W_cmp_Compare_int64 {I : IH} {a0 : Int} {a1 : Int}  {Q : Int → Prop}  (hd : cmp_Compare_int64 a0 a1 Q) :
    PFun Tryz.prog 101 [.int .i64 a0, .int .i64 a1] I (fun I_ v => ∃ r, v = .int .i64 r ∧ Q r) := by
 refine Fun.enter func101 rfl ntmps101 rfl (.c (.c .n)) fun w0 M => ?_
 refine .seq (.region (.skips 1 rfl (.nilS [1, 0] rfl rfl (.seq (.region (.skips 1 rfl ?_))))))
 have hw6 := W_cmp_isNaN_int64 (I := I) hd
 refine .callP call103 rfl hw6 rfl rfl fun v7 hv8 => ?_
 obtain ⟨r5, rfl, hd⟩ := hv8
 refine .skips 1 rfl (.nilS [5, 1, 0] rfl rfl (.seq (.region (.skips 1 rfl ?_))))
 have hw14 := W_cmp_isNaN_int64 (I := I) hd
 refine .callP call103 rfl hw14 rfl rfl fun v15 hv16 => ?_
 obtain ⟨r13, rfl, hd⟩ := hv16
 refine .skips 1 rfl (.nilS [6, 5, 1, 0] rfl rfl (.seq (.seq (.region (.skips 1 rfl (.nilS [11, 6, 1, 0] rfl rfl (.condP rfl hd (fun hb19 hd => ?_) fun hb19 hd => ?_)))))))
 · refine .seq (.seq (.region (.skips 1 rfl (.nilS [12] rfl rfl (.condP rfl hd (fun hb20 hd => ?_) fun hb20 hd => ?_)))))
   · exact .seq (.region (.skips 1 rfl (.nilS [4] rfl rfl (.ret (pret results101 (.t rfl .n) (.refl _) ⟨0, rfl, hd⟩)))))
   exact .skipS [] rfl rfl (.seq (.region (.skips 1 rfl (.nilS [4] rfl rfl (.ret (pret results101 (.t rfl .n) (.refl _) ⟨(-1), rfl, hd⟩))))))
 refine .skipS [6, 1, 0] rfl rfl (.seq (.seq (.region (.skips 1 rfl (.nilS [13, 1, 0] rfl rfl (.condP rfl hd (fun hb22 hd => ?_) fun hb22 hd => ?_))))))
 · exact .seq (.region (.skips 1 rfl (.nilS [4] rfl rfl (.ret (pret results101 (.t rfl .n) (.refl _) ⟨1, rfl, hd⟩)))))
 refine .skipS [1, 0] rfl rfl (.seq (.seq (.region (.skips 2 rfl (.lt rfl rfl rfl rfl (.nilS [16, 1, 0] rfl rfl (.condP rfl hd (fun hb24 hd => ?_) fun hb24 hd => ?_)))))))
 · exact .seq (.region (.skips 1 rfl (.nilS [4] rfl rfl (.ret (pret results101 (.t rfl .n) (.refl _) ⟨(-1), rfl, hd⟩)))))
 refine .skipS [1, 0] rfl rfl (.seq (.seq (.region (.skips 2 rfl (.gt rfl rfl rfl rfl (.nilS [19] rfl rfl (.condP rfl hd (fun hb25 hd => ?_) fun hb25 hd => ?_)))))))
 · exact .seq (.region (.skips 1 rfl (.nilS [4] rfl rfl (.ret (pret results101 (.t rfl .n) (.refl _) ⟨1, rfl, hd⟩)))))
 exact .skipS [] rfl rfl (.seq (.region (.skips 1 rfl (.nilS [4] rfl rfl (.ret (pret results101 (.t rfl .n) (.refl _) ⟨0, rfl, hd⟩))))))

theorem W_cmp_isNaN_uint64 {I : IH} {a0 : Int}  {Q : Bool → Prop}  (hd : cmp_isNaN_uint64 a0 Q) :
    PFun Tryz.prog 104 [.int .u64 a0] I (fun I_ v => ∃ r, v = .bool r ∧ Q r) := by
 refine Fun.enter func104 rfl ntmps104 rfl (.c .n) fun w0 M => ?_
 refine .seq (.region (.skips 1 rfl (.nilS [0] rfl rfl (.seq (.region (.skips 2 rfl (.ne rfl rfl rfl rfl (.skips 1 rfl (.nilS [2] rfl rfl ?_)))))))))
 exact .ret (pret results104 (.t rfl .n) (.refl _) ⟨(a0 != a0), rfl, hd⟩)

theorem W_cmp_Compare_uint64 {I : IH} {a0 : Int} {a1 : Int}  {Q : Int → Prop}  (hd : cmp_Compare_uint64 a0 a1 Q) :
    PFun Tryz.prog 102 [.int .u64 a0, .int .u64 a1] I (fun I_ v => ∃ r, v = .int .i64 r ∧ Q r) := by
 refine Fun.enter func102 rfl ntmps102 rfl (.c (.c .n)) fun w0 M => ?_
 refine .seq (.region (.skips 1 rfl (.nilS [1, 0] rfl rfl (.seq (.region (.skips 1 rfl ?_))))))
 have hw6 := W_cmp_isNaN_uint64 (I := I) hd
 refine .callP call104 rfl hw6 rfl rfl fun v7 hv8 => ?_
 obtain ⟨r5, rfl, hd⟩ := hv8
 refine .skips 1 rfl (.nilS [5, 1, 0] rfl rfl (.seq (.region (.skips 1 rfl ?_))))
 have hw14 := W_cmp_isNaN_uint64 (I := I) hd
 refine .callP call104 rfl hw14 rfl rfl fun v15 hv16 => ?_
 obtain ⟨r13, rfl, hd⟩ := hv16
 refine .skips 1 rfl (.nilS [6, 5, 1, 0] rfl rfl (.seq (.seq (.region (.skips 1 rfl (.nilS [11, 6, 1, 0] rfl rfl (.condP rfl hd (fun hb19 hd => ?_) fun hb19 hd => ?_)))))))
 · refine .seq (.seq (.region (.skips 1 rfl (.nilS [12] rfl rfl (.condP rfl hd (fun hb20 hd => ?_) fun hb20 hd => ?_)))))
   · exact .seq (.region (.skips 1 rfl (.nilS [4] rfl rfl (.ret (pret results102 (.t rfl .n) (.refl _) ⟨0, rfl, hd⟩)))))
   exact .skipS [] rfl rfl (.seq (.region (.skips 1 rfl (.nilS [4] rfl rfl (.ret (pret results102 (.t rfl .n) (.refl _) ⟨(-1), rfl, hd⟩))))))
 refine .skipS [6, 1, 0] rfl rfl (.seq (.seq (.region (.skips 1 rfl (.nilS [13, 1, 0] rfl rfl (.condP rfl hd (fun hb22 hd => ?_) fun hb22 hd => ?_))))))
 · exact .seq (.region (.skips 1 rfl (.nilS [4] rfl rfl (.ret (pret results102 (.t rfl .n) (.refl _) ⟨1, rfl, hd⟩)))))
 refine .skipS [1, 0] rfl rfl (.seq (.seq (.region (.skips 2 rfl (.lt rfl rfl rfl rfl (.nilS [16, 1, 0] rfl rfl (.condP rfl hd (fun hb24 hd => ?_) fun hb24 hd => ?_)))))))
 · exact .seq (.region (.skips 1 rfl (.nilS [4] rfl rfl (.ret (pret results102 (.t rfl .n) (.refl _) ⟨(-1), rfl, hd⟩)))))
 refine .skipS [1, 0] rfl rfl (.seq (.seq (.region (.skips 2 rfl (.gt rfl rfl rfl rfl (.nilS [19] rfl rfl (.condP rfl hd (fun hb25 hd => ?_) fun hb25 hd => ?_)))))))
 · exact .seq (.region (.skips 1 rfl (.nilS [4] rfl rfl (.ret (pret results102 (.t rfl .n) (.refl _) ⟨1, rfl, hd⟩)))))
 exact .skipS [] rfl rfl (.seq (.region (.skips 1 rfl (.nilS [4] rfl rfl (.ret (pret results102 (.t rfl .n) (.refl _) ⟨0, rfl, hd⟩))))))

theorem W_wide_Compare {I : IH} {a0 : Wide} {a1 : Wide}  {Q : Int → Prop}  (hd : wide_Compare a0 a1 Q) :
    PFun Tryz.prog 98 [.agg (encWide a0).toArray, .agg (encWide a1).toArray] I (fun I_ v => ∃ r, v = .int .i64 r ∧ Q r) := by
 refine Fun.enter func98 rfl ntmps98 rfl (.c (.c .n)) fun w0 M => ?_
 refine .seq (.region (.boxA rfl rfl rfl fun b5 => ?_))
 refine .boxA rfl rfl rfl fun b7 => ?_
 refine .skips 1 rfl (.nilS [3, 2] rfl rfl (.seq (.draw [some 0, some 1, some 2, some 3, some 5, some 6, some 7, some 8, some 4, some 9, some 10, some 11] 12 MX (by kernel_rfl) (by kernel_rfl) (by kernel_rfl) (by kernel_rfl) (by kernel_rfl) (by kernel_rfl) (by kernel_rfl) (fun ex => (pto b7 (.cells #[.int .i64 a1.Hi, .int .u64 a1.Lo] 86 (0, 0))) :: (pto b5 (.cells #[.int .i64 a0.Hi, .int .u64 a0.Lo] 86 (0, 0))) :: ex) (fun _ _ => (.s (.s .z))) rfl (.f [] rfl (by kernel_rfl) rfl rfl (fun ex => .fieldAddr underlying86 rfl sizeOf2 rfl (o := 0) rfl rfl rfl .mk) (.f [0] rfl (by kernel_rfl) rfl rfl (fun ex => .load1 isAgg2 rfl (.s .z) rfl rfl rfl .mk) (.f [] rfl (by kernel_rfl) rfl rfl (fun ex => .fieldAddr underlying86 rfl sizeOf2 rfl (o := 0) rfl rfl rfl .mk) (.f [2] rfl (by kernel_rfl) rfl rfl (fun ex => .load1 isAgg2 rfl .z rfl rfl rfl .mk) (.f [] rfl (by kernel_rfl) rfl rfl (fun ex => .fieldAddr underlying86 rfl sizeOf84 rfl (o := 1) rfl rfl rfl .mk) (.f [5] rfl (by kernel_rfl) rfl rfl (fun ex => .load1 isAgg84 rfl (.s .z) rfl rfl rfl .mk) ?_)))))))))
 refine .f [] rfl (by kernel_rfl) rfl rfl (fun ex => .fieldAddr underlying86 rfl sizeOf84 rfl (o := 1) rfl rfl rfl .mk) (.f [7] rfl (by kernel_rfl) rfl rfl (fun ex => .load1 isAgg84 rfl .z rfl rfl rfl .mk) (.w [8, 7, 6, 5] [[], [3], [], [1]] [1, 3] rfl (by kernel_rfl) (by kernel_rfl) (by kernel_rfl) ((dropE_kept rfl rfl)) (.inr (dropE_kept rfl rfl)) fun ex => ?_))
 have hw10 := W_cmp_Compare_int64 (I := I) hd
 refine .callP call101 rfl hw10 rfl rfl fun v11 hv12 => ?_
 obtain ⟨r9, rfl, hd⟩ := hv12
 refine .some (fun ex => (pto b7 (.cells #[.int .i64 a1.Hi, .int .u64 a1.Lo] 86 (0, 0))) :: (pto b5 (.cells #[.int .i64 a0.Hi, .int .u64 a0.Lo] 86 (0, 0))) :: ex) rfl (fun _ _ => (.s (.s .z))) rfl (.cc [7] rfl (by kernel_rfl) rfl rfl rfl (fun ex => .load1 isAgg84 rfl .z rfl rfl rfl .mk) (.cc [] rfl (by kernel_rfl) rfl rfl rfl (fun ex => .fieldAddr underlying86 rfl sizeOf84 rfl (o := 1) rfl rfl rfl .mk) (.cc [5] rfl (by kernel_rfl) rfl rfl rfl (fun ex => .load1 isAgg84 rfl (.s .z) rfl rfl rfl .mk) (.cc [] rfl (by kernel_rfl) rfl rfl rfl (fun ex => .fieldAddr underlying86 rfl sizeOf84 rfl (o := 1) rfl rfl rfl .mk) trivial)))) (.w [] [[], [8], [], [6]] [6, 8, 4] rfl (by kernel_rfl) (by kernel_rfl) (by kernel_rfl) ((dropE_kept rfl rfl)) (.inr (dropE_kept rfl rfl)) fun ex => ?_)
 have hw14 := W_cmp_Compare_uint64 (I := I) hd
 refine .callP call102 rfl hw14 rfl rfl fun v15 hv16 => ?_
 obtain ⟨r13, rfl, hd⟩ := hv16
 refine .some (fun ex => (pto b7 (.cells #[.int .i64 a1.Hi, .int .u64 a1.Lo] 86 (0, 0))) :: (pto b5 (.cells #[.int .i64 a0.Hi, .int .u64 a0.Lo] 86 (0, 0))) :: ex) rfl (fun _ _ => (.s (.s .z))) rfl trivial (.w [] [] [4, 9] rfl (by kernel_rfl) (by kernel_rfl) (by kernel_rfl) ((dropE_kept rfl rfl)) (.inr (dropE_kept rfl rfl)) fun ex => ?_)
 refine .buildSlice 2 underlying22 sizeOf3 zeroValue3 rfl rfl (.c rfl rfl rfl (.c rfl rfl rfl .n)) rfl rfl fun b17 => ?_
 refine .some (fun ex => (pto b17 (.cells #[.int .i64 r9, .int .i64 r13] 3 (0, 0))) :: (pto b7 (.cells #[.int .i64 a1.Hi, .int .u64 a1.Lo] 86 (0, 0))) :: (pto b5 (.cells #[.int .i64 a0.Hi, .int .u64 a0.Lo] 86 (0, 0))) :: ex) rfl (fun _ _ => (.s (.s (.s .z)))) rfl trivial (.w [] [] [10, 9] rfl (by kernel_rfl) (by kernel_rfl) (by kernel_rfl) ((dropE_kept rfl rfl)) (.inr (dropE_kept rfl rfl)) fun ex => ?_)
 refine .pubB (El := eI64) (ys := ([r9, r13] : List Int)) (k := 2) .z (RepCs.cons (cs := [.int .i64 r9]) rfl (RepCs.cons (cs := [.int .i64 r13]) rfl .nil)) rfl fun I19 hl20 R21 => ?_
 have le22 := IH.le.trans (.refl _) hl20
 have hw24 := W_cmp_Or_int (I := I19) R21 hd
 refine .callP call69 rfl hw24 rfl rfl fun v25 hv26 => ?_
 obtain ⟨r23, rfl, hd⟩ := hv26
 exact .some (fun ex => (pto b7 (.cells #[.int .i64 a1.Hi, .int .u64 a1.Lo] 86 (0, 0))) :: (pto b5 (.cells #[.int .i64 a0.Hi, .int .u64 a0.Lo] 86 (0, 0))) :: ex) rfl (fun _ _ => (.s (.s .z))) rfl trivial (.e 12 (by kernel_rfl) (by kernel_rfl) (by kernel_rfl) (.skips 1 rfl (.nilS [4] rfl rfl (.drop .z (.drop .z (.ret (pret results98 (.t rfl .n) le22 ⟨r23, rfl, hd⟩)))))))

theorem W_ring_lesser {I : IH} {a0 : Wide} {a1 : Wide}  {Q : Wide → Prop}  (hd : ring_lesser a0 a1 Q) :
    PFun Tryz.prog 89 [.agg (encWide a0).toArray, .agg (encWide a1).toArray] I (fun I_ v => ∃ r, v = .agg (encWide r).toArray ∧ Q r) := by
 refine Fun.enter func89 rfl ntmps89 rfl (.c (.c .n)) fun w0 M => ?_
 refine .seq (.region (.boxA rfl rfl rfl fun b7 => ?_))
 refine .boxA rfl rfl rfl fun b9 => ?_
 refine .allocA zeroValue86 rfl rfl fun b11 => ?_
 refine .nilS [4, 3, 2] rfl rfl (.seq (.seq (.region (.loadW isAgg86 sizeOf86 rfl (.s (.s .z)) rfl rfl rfl (.loadW isAgg86 sizeOf86 rfl (.s .z) rfl rfl rfl ?_)))))
 have hw14 := W_wide_Compare (I := I) hd
 refine .callP call98 rfl hw14 rfl rfl fun v15 hv16 => ?_
 obtain ⟨r13, rfl, hd⟩ := hv16
 refine .le' rfl rfl rfl rfl (.nilS [8, 4, 3, 2] rfl rfl (.condP rfl hd (fun hb17 hd => ?_) fun hb17 hd => ?_))
 · exact .seq (.region (.loadW isAgg86 sizeOf86 rfl (.s (.s .z)) rfl rfl rfl (.storeA sizeOf86 rfl rfl .z (.t (.t .nil)) rfl rfl (.nilS [4] rfl rfl (.drop (.s .z) (.drop (.s .z) (.ret (pret results89 (.w isAgg86 sizeOf86 rfl .z rfl .n) (.refl _) ⟨a0, rfl, hd⟩))))))))
 exact .skipS [4, 3] rfl rfl (.drop (.s (.s .z)) (.seq (.region (.loadW isAgg86 sizeOf86 rfl (.s .z) rfl rfl rfl (.storeA sizeOf86 rfl rfl .z (.t (.t .nil)) rfl rfl (.nilS [4] rfl rfl (.drop (.s .z) (.ret (pret results89 (.w isAgg86 sizeOf86 rfl .z rfl .n) (.refl _) ⟨a1, rfl, hd⟩)))))))))

theorem W_ring_truth {I : IH} {a0 : Bool}  {Q : Wide → Prop}  (hd : ring_truth a0 Q) :
    PFun Tryz.prog 90 [.bool a0] I (fun I_ v => ∃ r, v = .agg (encWide r).toArray ∧ Q r) := by
 refine Fun.enter func90 rfl ntmps90 rfl (.c .n) fun w0 M => ?_
 refine .seq (.region (.allocA zeroValue86 rfl rfl fun b3 => ?_))
 refine .nilS [2, 0] rfl rfl (.seq (.seq (.region (.skips 1 rfl (.nilS [3, 2] rfl rfl (.condP rfl hd (fun hb5 hd => ?_) fun hb5 hd => ?_))))))
 · refine .seq (.region ?_)
   have hw7 := W_wide_Of (I := I) hd
   refine .callP call72 rfl hw7 rfl rfl fun v8 hv9 => ?_
   obtain ⟨r6, rfl, hd⟩ := hv9
   exact .storeA sizeOf86 rfl rfl .z (.t (.t .nil)) rfl rfl (.nilS [2] rfl rfl (.ret (pret results90 (.w isAgg86 sizeOf86 rfl .z rfl .n) (.refl _) ⟨r6, rfl, hd⟩)))
 exact .skipS [2] rfl rfl (.seq (.region (.build zeroValue86 underlying86 BI86 .n (by exact trivial) rfl rfl (.storeA sizeOf86 rfl rfl .z (.t (.t .nil)) rfl rfl (.nilS [2] rfl rfl (.ret (pret results90 (.w isAgg86 sizeOf86 rfl .z rfl .n) (.refl _) ⟨({ Hi := 0, Lo := 0 } : Wide), rfl, hd⟩)))))))

theorem W_wide_carry {I : IH} {a0 : Bool}  {Q : Int → Prop}  (hd : wide_carry a0 Q) :
    PFun Tryz.prog 99 [.bool a0] I (fun I_ v => ∃ r, v = .int .u64 r ∧ Q r) := by
 refine Fun.enter func99 rfl ntmps99 rfl (.c .n) fun w0 M => ?_
 refine .seq (.region (.skips 1 rfl (.nilS [0] rfl rfl (.seq (.seq (.region (.skips 1 rfl (.nilS [3] rfl rfl (.condP rfl hd (fun hb1 hd => ?_) fun hb1 hd => ?_)))))))))
 · exact .seq (.region (.skips 1 rfl (.nilS [2] rfl rfl (.ret (pret results99 (.t rfl .n) (.refl _) ⟨1, rfl, hd⟩)))))
 exact .skipS [] rfl rfl (.seq (.region (.skips 1 rfl (.nilS [2] rfl rfl (.ret (pret results99 (.t rfl .n) (.refl _) ⟨0, rfl, hd⟩))))))

theorem W_wide_Add {I : IH} {a0 : Wide} {a1 : Wide}  {Q : Wide → Prop}  (hd : wide_Add a0 a1 Q) :
    PFun Tryz.prog 91 [.agg (encWide a0).toArray, .agg (encWide a1).toArray] I (fun I_ v => ∃ r, v = .agg (encWide r).toArray ∧ Q r) := by
 refine Fun.enter func91 rfl ntmps91 rfl (.c (.c .n)) fun w0 M => ?_
 refine .seq (.region (.boxA rfl rfl rfl fun b7 => ?_))
 refine .boxA rfl rfl rfl fun b9 => ?_
 refine .allocA zeroValue86 rfl rfl fun b11 => ?_
 refine .nilS [4, 3, 2] rfl rfl (.seq (.region (.fieldAddr underlying86 rfl sizeOf84 rfl (o := 1) rfl rfl rfl (.load1 isAgg84 rfl (.s (.s .z)) rfl rfl rfl (.fieldAddr underlying86 rfl sizeOf84 rfl (o := 1) rfl rfl rfl (.load1 isAgg84 rfl (.s .z) rfl rfl rfl (.add rfl rfl rfl rfl (.skips 1 rfl (.nilS [5, 4, 3, 2] rfl rfl ?_)))))))))
 refine .seq (.draw [some 0, some 1, some 2, some 3, some 4, some 5, some 6, some 7, some 8, some 9, some 10, some 14, some 11, some 12, some 13, some 15] 16 MX (by kernel_rfl) (by kernel_rfl) (by kernel_rfl) (by kernel_rfl) (by kernel_rfl) (by kernel_rfl) (by kernel_rfl) (fun ex => (pto b11 (.cells #[.int .i64 0, .int .u64 0] 86 (0, 0))) :: (pto b9 (.cells #[.int .i64 a1.Hi, .int .u64 a1.Lo] 86 (0, 0))) :: (pto b7 (.cells #[.int .i64 a0.Hi, .int .u64 a0.Lo] 86 (0, 0))) :: ex) (fun _ _ => (.s (.s (.s .z)))) rfl (.f [] rfl (by kernel_rfl) rfl rfl (fun ex => .fieldAddr underlying86 rfl sizeOf2 rfl (o := 0) rfl rfl rfl .mk) (.f [0] rfl (by kernel_rfl) rfl rfl (fun ex => .load1 isAgg2 rfl (.s (.s .z)) rfl rfl rfl .mk) (.f [1] rfl (by kernel_rfl) rfl rfl (fun ex => .conv underlying2 underlying84 rfl rfl rfl .mk) (.f [] rfl (by kernel_rfl) rfl rfl (fun ex => .fieldAddr underlying86 rfl sizeOf2 rfl (o := 0) rfl rfl rfl .mk) (.f [3] rfl (by kernel_rfl) rfl rfl (fun ex => .load1 isAgg2 rfl (.s .z) rfl rfl rfl .mk) (.f [4] rfl (by kernel_rfl) rfl rfl (fun ex => .conv underlying2 underlying84 rfl rfl rfl .mk) (.f [2, 5] rfl (by kernel_rfl) rfl rfl (fun ex => .add rfl rfl rfl rfl .mk) (.fs [[]] rfl (by kernel_rfl) ?_)))))))))
 refine .f [] rfl (by kernel_rfl) rfl rfl (fun ex => .fieldAddr underlying86 rfl sizeOf84 rfl (o := 1) rfl rfl rfl .mk) (.f [8] rfl (by kernel_rfl) rfl rfl (fun ex => .load1 isAgg84 rfl (.s .z) rfl rfl rfl .mk) (.f [7, 9] rfl (by kernel_rfl) rfl rfl (fun ex => .lt rfl rfl rfl rfl .mk) (.fs [[]] rfl (by kernel_rfl) (.w [14, 6, 5, 4, 3, 2, 1, 0] [[], [10], [9, 10], [10]] [10] rfl (by kernel_rfl) (by kernel_rfl) (by kernel_rfl) ((dropE_kept rfl rfl)) (.inr (dropE_kept rfl rfl)) fun ex => ?_))))
 have hw14 := W_wide_carry (I := I) hd
 refine .callP call99 rfl hw14 rfl rfl fun v15 hv16 => ?_
 obtain ⟨r13, rfl, hd⟩ := hv16
 exact .some (fun ex => (pto b11 (.cells #[.int .i64 0, .int .u64 0] 86 (0, 0))) :: (pto b9 (.cells #[.int .i64 a1.Hi, .int .u64 a1.Lo] 86 (0, 0))) :: (pto b7 (.cells #[.int .i64 a0.Hi, .int .u64 a0.Lo] 86 (0, 0))) :: ex) rfl (fun _ _ => (.s (.s (.s .z)))) rfl (.ccs [[]] rfl rfl (by kernel_rfl) (.cc [2, 5] rfl (by kernel_rfl) rfl rfl rfl (fun ex => .add rfl rfl rfl rfl .mk) (.cc [4] rfl (by kernel_rfl) rfl rfl rfl (fun ex => .conv underlying2 underlying84 rfl rfl rfl .mk) (.cc [3] rfl (by kernel_rfl) rfl rfl rfl (fun ex => .load1 isAgg2 rfl (.s .z) rfl rfl rfl .mk) (.cc [] rfl (by kernel_rfl) rfl rfl rfl (fun ex => .fieldAddr underlying86 rfl sizeOf2 rfl (o := 0) rfl rfl rfl .mk) (.cc [1] rfl (by kernel_rfl) rfl rfl rfl (fun ex => .conv underlying2 underlying84 rfl rfl rfl .mk) (.cc [0] rfl (by kernel_rfl) rfl rfl rfl (fun ex => .load1 isAgg2 rfl (.s (.s .z)) rfl rfl rfl .mk) (.cc [] rfl (by kernel_rfl) rfl rfl rfl (fun ex => .fieldAddr underlying86 rfl sizeOf2 rfl (o := 0) rfl rfl rfl .mk) trivial)))))))) (.f [6, 11] rfl (by kernel_rfl) rfl rfl (fun ex => .add rfl rfl rfl rfl .mk) (.f [12] rfl (by kernel_rfl) rfl rfl (fun ex => .conv underlying84 underlying2 rfl rfl rfl .mk) (.f [13, 14] rfl (by kernel_rfl) rfl rfl (fun ex => .build zeroValue86 underlying86 BI86 (.c rfl rfl rfl (.t .nil) (.c rfl rfl rfl (.s (.t .nil)) .n)) (by exact ⟨⟨_, _, rfl, rfl, rfl⟩, ⟨⟨_, _, rfl, rfl, rfl⟩, trivial⟩⟩) rfl rfl .mk) (.e 16 (by kernel_rfl) (by kernel_rfl) (by kernel_rfl) (.storeA sizeOf86 rfl rfl .z (.t (.t .nil)) rfl rfl (.nilS [4] rfl rfl (.drop (.s .z) (.drop (.s .z) (.ret (pret results91 (.w isAgg86 sizeOf86 rfl .z rfl .n) (.refl _) ⟨({ Hi := w64 (IntKind.wrap .u64 ((IntKind.wrap .u64 ((IntKind.wrap .u64 (a0.Hi)) + (IntKind.wrap .u64 (a1.Hi)))) + r13)), Lo := IntKind.wrap .u64 (a0.Lo + a1.Lo) } : Wide), rfl, hd⟩))))))))))

theorem W_ring_Add {I : IH} {a0 : Int} {a1 : Wide} {a2 : Wide}  {Q : Wide → Prop}  (hd : ring_Add a0 a1 a2 Q) :
    PFun Tryz.prog 73 [.int .i64 a0, .agg (encWide a1).toArray, .agg (encWide a2).toArray] I (fun I_ v => ∃ r, v = .agg (encWide r).toArray ∧ Q r) := by
 refine Fun.enter func73 rfl ntmps73 rfl (.c (.c (.c .n))) fun w0 M => ?_
 refine .seq (.region (.boxA rfl rfl rfl fun b7 => ?_))
 refine .boxA rfl rfl rfl fun b9 => ?_
 refine .allocA zeroValue86 rfl rfl fun b11 => ?_
 refine .nilS [6, 5, 4, 0] rfl rfl (.seq (.seq (.region (.skips 1 rfl (.nilS [7, 6, 5, 4] rfl rfl (.block (.seq ?_)))))))
 refine Cod.joinQ (σ := Bool) hd (fun (s17 : Bool) c w => ∃ I_, IH.le I I_ ∧ Ok ⟨32, [], none⟩ [(4, .pointer (some ⟨b7, 0, none⟩)), (5, .pointer (some ⟨b9, 0, none⟩)), (6, .pointer (some ⟨b11, 0, none⟩)), (7, .int .i64 a0), (8, .bool s17)] c ∧ Sym w0 M I I_ [pto b7 (.cells #[.int .i64 a1.Hi, .int .u64 a1.Lo] 86 (0, 0)), pto b9 (.cells #[.int .i64 a2.Hi, .int .u64 a2.Lo] 86 (0, 0)), pto b11 (.cells #[.int .i64 0, .int .u64 0] 86 (0, 0))] w) (fun k18 hd => ?_) ?_
 · skip
   refine .seq (.region (.eq rfl rfl rfl rfl (.skips 1 rfl (.nilS [8, 7, 6, 5, 4] rfl rfl (.condP rfl hd (fun hb19 hd => ?_) fun hb19 hd => ?_)))))
   · exact .skip' fun c w ho hs => ⟨(a0 == 1), hd, I, (.refl _), ho.sub ⟨rfl, rfl, rfl, rfl, rfl, trivial⟩, hs.pick (.c (.s (.s .z)) (.c (.s .z) (.c .z .n)))⟩
   refine .seq (.region (.eq rfl rfl rfl rfl (.sub (E' := [(4, _), (5, _), (6, _), (7, _), (10, _)]) ⟨rfl, rfl, rfl, rfl, rfl, trivial⟩ (.skips 1 rfl (.nilS [8, 7, 6, 5, 4] rfl rfl (.condP rfl hd (fun hb20 hd => ?_) fun hb20 hd => ?_))))))
   · exact .skip' fun c w ho hs => ⟨(a0 == 3), hd, I, (.refl _), ho.sub ⟨rfl, rfl, rfl, rfl, rfl, trivial⟩, hs.pick (.c (.s (.s .z)) (.c (.s .z) (.c .z .n)))⟩
   exact .region (.eq rfl rfl rfl rfl (.sub (E' := [(4, _), (5, _), (6, _), (7, _), (11, _)]) ⟨rfl, rfl, rfl, rfl, rfl, trivial⟩ (.skips 1 rfl (.nil' fun c w ho hs => ⟨(a0 == 4), hd, I, (.refl _), ho.sub ⟨rfl, rfl, rfl, rfl, rfl, trivial⟩, hs.pick (.c (.s (.s .z)) (.c (.s .z) (.c .z .n)))⟩))))
 rintro s17 hd c w hst
 obtain ⟨I21, hl22, hok, hsym⟩ := hst
 have le23 := IH.le.trans (.refl _) hl22
 refine Cod.at hok hsym (.condP rfl hd (fun hb24 hd => ?_) fun hb24 hd => ?_)
 · refine .seq (.region (.loadW isAgg86 sizeOf86 rfl .z rfl rfl rfl (.loadW isAgg86 sizeOf86 rfl (.s .z) rfl rfl rfl ?_)))
   have hw26 := W_ring_lesser (I := I21) hd
   refine .callP call89 rfl hw26 rfl rfl fun v27 hv28 => ?_
   obtain ⟨r25, rfl, hd⟩ := hv28
   exact .storeA sizeOf86 rfl rfl (.s (.s .z)) (.t (.t .nil)) rfl rfl (.nilS [6] rfl rfl (.drop .z (.drop .z (.ret (pret results73 (.w isAgg86 sizeOf86 rfl .z rfl .n) le23 ⟨r25, rfl, hd⟩)))))
 refine .seq (.region (.eq rfl rfl rfl rfl (.skips 1 rfl (.nilS [15, 7, 6, 5, 4] rfl rfl (.condP rfl hd (fun hb29 hd => ?_) fun hb29 hd => ?_)))))
 · refine .seq (.region (.loadW isAgg86 sizeOf86 rfl .z rfl rfl rfl (.loadW isAgg86 sizeOf86 rfl (.s .z) rfl rfl rfl (.neV rfl rfl (EQ86 a1 a2) (EG86 _ _ _ _ _) rfl rfl rfl (.skips 1 rfl ?_)))))
   refine splitP hd (fun hb30 hd => ?_) fun hb30 hd => ?_
   · rw [hb30]
     refine .skips 4 rfl ?_
     have hw32 := W_ring_truth (I := I21) hd
     refine .callP call90 rfl hw32 rfl rfl fun v33 hv34 => ?_
     obtain ⟨r31, rfl, hd⟩ := hv34
     exact .storeA sizeOf86 rfl rfl (.s (.s .z)) (.t (.t .nil)) rfl rfl (.nilS [6] rfl rfl (.drop .z (.drop .z (.ret (pret results73 (.w isAgg86 sizeOf86 rfl .z rfl .n) le23 ⟨r31, rfl, hd⟩)))))
   rw [hb30]
   refine .gyes rfl rfl rfl (.loadW isAgg86 sizeOf86 rfl .z rfl rfl rfl (.gyes rfl rfl rfl (.build zeroValue86 underlying86 BI86 .n (by exact trivial) rfl rfl (.gyes rfl rfl rfl (.neV rfl rfl (EQ86 a1 ({ Hi := 0, Lo := 0 } : Wide)) (EG86 _ _ _ _ _) rfl rfl rfl (.skips 1 rfl ?_))))))
   have hw36 := W_ring_truth (I := I21) hd
   refine .callP call90 rfl hw36 rfl rfl fun v37 hv38 => ?_
   obtain ⟨r35, rfl, hd⟩ := hv38
   exact .storeA sizeOf86 rfl rfl (.s (.s .z)) (.t (.t .nil)) rfl rfl (.nilS [6] rfl rfl (.drop .z (.drop .z (.ret (pret results73 (.w isAgg86 sizeOf86 rfl .z rfl .n) le23 ⟨r35, rfl, hd⟩)))))
 refine .seq (.region (.eq rfl rfl rfl rfl (.skips 1 rfl (.nilS [26, 6, 5, 4] rfl rfl (.condP rfl hd (fun hb39 hd => ?_) fun hb39 hd => ?_)))))
 · refine .seq (.region (.loadW isAgg86 sizeOf86 rfl .z rfl rfl rfl (.loadW isAgg86 sizeOf86 rfl (.s .z) rfl rfl rfl ?_)))
   have hw41 := W_wide_Add (I := I21) hd
   refine .callP call91 rfl hw41 rfl rfl fun v42 hv43 => ?_
   obtain ⟨r40, rfl, hd⟩ := hv43
   exact .storeA sizeOf86 rfl rfl (.s (.s .z)) (.t (.t .nil)) rfl rfl (.nilS [6] rfl rfl (.drop .z (.drop .z (.ret (pret results73 (.w isAgg86 sizeOf86 rfl .z rfl .n) le23 ⟨r40, rfl, hd⟩)))))
 exact .skipS [6] rfl rfl (.drop .z (.drop .z (.seq (.region (.build zeroValue86 underlying86 BI86 .n (by exact trivial) rfl rfl (.storeA sizeOf86 rfl rfl .z (.t (.t .nil)) rfl rfl (.nilS [6] rfl rfl (.ret (pret results73 (.w isAgg86 sizeOf86 rfl .z rfl .n) le23 ⟨({ Hi := 0, Lo := 0 } : Wide), rfl, hd⟩)))))))))

theorem W_wide_Narrow {I : IH} {a0 : Wide}  {Q : (Int × Bool) → Prop}  (hd : wide_Narrow a0 Q) :
    PFun Tryz.prog 92 [.agg (encWide a0).toArray] I (fun I_ v => ∃ r, v = .tuple #[.int .i64 r.1, .bool r.2] ∧ Q r) := by
 refine Fun.enter func92 rfl ntmps92 rfl (.c .n) fun w0 M => ?_
 refine .seq (.region (.boxA rfl rfl rfl fun b3 => ?_))
 refine .skips 2 rfl (.nilS [1] rfl rfl (.seq (.region (.fieldAddr underlying86 rfl sizeOf84 rfl (o := 1) rfl rfl rfl (.load1 isAgg84 rfl .z rfl rfl rfl (.conv underlying84 underlying2 rfl rfl rfl (.skips 1 rfl (.nilS [4, 1] rfl rfl (.seq ?_)))))))))
 refine .seq (.draw [some 0, some 2, some 1, some 3] 4 MX (by kernel_rfl) (by kernel_rfl) (by kernel_rfl) (by kernel_rfl) (by kernel_rfl) (by kernel_rfl) (by kernel_rfl) (fun ex => (pto b3 (.cells #[.int .i64 a0.Hi, .int .u64 a0.Lo] 86 (0, 0))) :: ex) (fun _ _ => (.s .z)) rfl (.fs [[]] rfl (by kernel_rfl) (.f [] rfl (by kernel_rfl) rfl rfl (fun ex => .loadW isAgg86 sizeOf86 rfl .z rfl rfl rfl .mk) (.w [2] [[]] [0] rfl (by kernel_rfl) (by kernel_rfl) (by kernel_rfl) ((dropE_kept rfl rfl)) (.inr (dropE_kept rfl rfl)) fun ex => ?_))))
 have hw6 := W_wide_Of (I := I) hd
 refine .callP call72 rfl hw6 rfl rfl fun v7 hv8 => ?_
 obtain ⟨r5, rfl, hd⟩ := hv8
 refine .some (fun ex => (pto b3 (.cells #[.int .i64 a0.Hi, .int .u64 a0.Lo] 86 (0, 0))) :: ex) rfl (fun _ _ => (.s .z)) rfl (.cc [] rfl (by kernel_rfl) rfl rfl rfl (fun ex => .loadW isAgg86 sizeOf86 rfl .z rfl rfl rfl .mk) trivial) (.f [1, 2] rfl (by kernel_rfl) rfl rfl (fun ex => .neV rfl rfl (EQ86 r5 a0) (EG86 _ _ _ _ _) rfl rfl rfl .mk) (.e 4 (by kernel_rfl) (by kernel_rfl) (by kernel_rfl) (.nilS [11, 4] rfl rfl (.drop .z (.condP rfl hd (fun hb9 hd => ?_) fun hb9 hd => ?_)))))
 · exact .seq (.region (.skips 2 rfl (.nilS [3, 2] rfl rfl (.ret (pret results92 (.t rfl (.t rfl .n)) (.refl _) ⟨(0, false), rfl, hd⟩)))))
 exact .skipS [4] rfl rfl (.seq (.region (.skips 3 rfl (.nilS [3, 2] rfl rfl (.ret (pret results92 (.t rfl (.t rfl .n)) (.refl _) ⟨(w64 (a0.Lo), true), rfl, hd⟩))))))

theorem W_ring_Narrow {I : IH} {a0 : Int} {a1 : Wide}  {Q : (Int × Bool) → Prop}  (hd : ring_Narrow a0 a1 Q) :
    PFun Tryz.prog 74 [.int .i64 a0, .agg (encWide a1).toArray] I (fun I_ v => ∃ r, v = .tuple #[.int .i64 r.1, .bool r.2] ∧ Q r) := by
 refine Fun.enter func74 rfl ntmps74 rfl (.c (.c .n)) fun w0 M => ?_
 refine .seq (.region (.boxA rfl rfl rfl fun b1 => ?_))
 refine .skips 2 rfl (.nilS [3] rfl rfl (.seq (.region (.loadW isAgg86 sizeOf86 rfl .z rfl rfl rfl ?_))))
 have hw4 := W_wide_Narrow (I := I) hd
 refine .callP call92 rfl hw4 rfl rfl fun v5 hv6 => ?_
 obtain ⟨r3, rfl, hd⟩ := hv6
 exact .extract rfl rfl rfl rfl (.extract rfl rfl rfl rfl (.skips 2 rfl (.nilS [5, 4] rfl rfl (.drop .z (.ret (pret results74 (.t rfl (.t rfl .n)) (.refl _) ⟨(r3.1, r3.2), rfl, hd⟩))))))

theorem W_csr_summed {I : IH} {a0 : Int} {a1 : List Triple} {p1 : Option Addr} {c2 : Nat} {Q : ((List Triple) × Int) → Prop} (R3 : RepSl eTriple I p1 c2 a1) (hd : csr_summed a0 a1 Q) :
    PFun Tryz.prog 59 [.int .i64 a0, .slice p1 a1.length c2] I (fun I_ v => ∃ r p4 c5, v = .tuple #[.slice p4 r.1.length c5, .int .i64 r.2] ∧ RepSl eTriple I_ p4 c5 r.1 ∧ Q r) := by
 refine Fun.enter func59 rfl ntmps59 rfl (.c (.c .n)) fun w0 M => ?_
 refine .seq (.region (.skips 2 rfl (.nilS [1, 0] rfl rfl (.seq (.region (.mkMap kArr2 eWide true rfl rfl fun b9 => ?_))))))
 refine .skips 1 rfl (.nilS [6, 1, 0] rfl rfl (.seq (.seq (.region (.skips 1 rfl (.len underlying48 rfl rfl rfl rfl (.skips 1 rfl (.nilS [21, 20, 19, 6, 0] rfl rfl (.block ?_)))))))))
 refine .loop hd (fun (s : (List ((Int × Int) × Wide)) × Int) c w => match s with | (s294, s295) => ∃ I_, IH.le I I_ ∧ Ok ⟨75, [], none⟩ [(0, .int .i64 a0), (6, .map (some b9)), (19, .slice p1 a1.length c2), (20, .int .i64 (a1.length : Int)), (21, .int .i64 s295)] c ∧ Sym w0 M I I_ [OwnMap kArr2 eWide true b9 s294] w) (fun c w ho hs => ⟨I, (.refl _), ho.sub ⟨rfl, rfl, rfl, rfl, rfl, trivial⟩, hs.pick (.c .z .n)⟩) ?_
 rintro ⟨s294, s295⟩ next296 hd c w hst
 obtain ⟨I297, hl298, hok, hsym⟩ := hst
 have le299 := IH.le.trans (.refl _) hl298
 replace R3 := R3.mono hl298
 refine Cod.at hok hsym (.seq (.region (.lt rfl rfl rfl rfl (.nilS [22, 21, 20, 19, 6, 0] rfl rfl (.seq (.condP rfl hd (fun hb301 hd => ?_) fun hb301 hd => ?_))))))
 · refine .skipS [21, 20, 19, 6, 0] rfl rfl (.seq (.block (.seq (.region ?_))))
   obtain ⟨h313, x314, hx315, hd⟩ := hd
   obtain ⟨b316, o317, cs318, e319, hC320, hr321⟩ := R3.2 _ _ hx315
   cases hr321
   refine .ixa underlying48 sizeOf47 rfl e319 rfl h313 (idx_lt hx315 h313) rfl rfl (.ldW isAgg47 sizeOf47 hC320 rfl rfl rfl rfl (.allocA zeroValue47 rfl rfl fun b322 => ?_))
   refine .storeA sizeOf47 rfl rfl .z (.t (.t (.t .nil))) rfl rfl (.nilS [8, 21, 20, 19, 6, 0] rfl rfl (.seq (.region (.fieldAddr underlying47 rfl sizeOf3 rfl (o := 0) rfl rfl rfl (.load1 isAgg3 rfl .z rfl rfl rfl (.fieldAddr underlying47 rfl sizeOf3 rfl (o := 1) rfl rfl rfl (.load1 isAgg3 rfl .z rfl rfl rfl (.buildArr zeroValue99 underlying99 sizeOf3 (.c rfl rfl rfl (.t .nil) (.c rfl rfl rfl (.s (.t .nil)) .n)) rfl rfl (.allocA zeroValue99 rfl rfl fun b326 => ?_)))))))))
   refine .storeA sizeOf99 rfl rfl .z (.t (.t .nil)) rfl rfl (.nilS [9, 8, 21, 20, 19, 6, 0] rfl rfl (.seq (.region (.fieldAddr underlying47 rfl sizeOf2 rfl (o := 2) rfl rfl rfl (.load1 isAgg2 rfl (.s .z) rfl rfl rfl ?_)))))
   have hw335 := W_wide_Of (I := I297) hd
   refine .callP call72 rfl hw335 rfl rfl fun v336 hv337 => ?_
   obtain ⟨r334, rfl, hd⟩ := hv337
   refine .allocA zeroValue86 rfl rfl fun b338 => ?_
   refine .storeA sizeOf86 rfl rfl .z (.t (.t .nil)) rfl rfl (.nilS [10, 9, 21, 20, 19, 6, 0] rfl rfl (.drop (.s (.s .z)) (.seq (.seq (.region (.skips 1 rfl (.loadW isAgg99 sizeOf99 rfl (.s .z) rfl rfl rfl (.lookM2 (k := (x314.Row, x314.Col)) (El := eWide) (ag := true) (zv := .agg #[.int .i64 0, .int .u64 0]) (z := ({ Hi := 0, Lo := 0 } : Wide)) KA99 underlying98 zeroValue86 ⟨[.int .i64 0, .int .u64 0], rfl, .a⟩ (.s (.s .z)) rfl rfl hd rfl rfl fun v343 r340 t345 cs344 hd hr341 hv342 => ?_))))))))
   cases hr341
   cases hv342
   refine .skips 1 rfl (.extract rfl rfl rfl rfl (.extract rfl rfl rfl rfl (.allocA zeroValue86 rfl rfl fun b346 => ?_)))
   refine .storeA sizeOf86 rfl rfl .z (.t (.t .nil)) rfl rfl (.skips 1 rfl (.nilS [12, 11, 10, 9, 21, 20, 19, 6, 0] rfl rfl (.seq (.region (.skips 1 rfl (.nilS [39, 11, 10, 9, 21, 20, 19, 6, 0] rfl rfl (.condP rfl hd (fun hb348 hd => ?_) fun hb348 hd => ?_)))))))
   · refine .region (.skips 1 rfl (.loadW isAgg86 sizeOf86 rfl .z rfl rfl rfl (.loadW isAgg86 sizeOf86 rfl (.s .z) rfl rfl rfl ?_)))
     have hw350 := W_ring_Add (I := I297) hd
     refine .callP call73 rfl hw350 rfl rfl fun v351 hv352 => ?_
     obtain ⟨r349, rfl, hd⟩ := hv352
     refine .storeA sizeOf86 rfl rfl (.s .z) (.t (.t .nil)) rfl rfl (.nilS [10, 9, 21, 20, 19, 6, 0] rfl rfl (.drop .z (.region (.skips 1 rfl (.loadW isAgg99 sizeOf99 rfl (.s .z) rfl rfl rfl (.loadW isAgg86 sizeOf86 rfl .z rfl rfl rfl (.updM (k := (x314.Row, x314.Col)) (El := eWide) (ag := true) (v := r349) KA99 underlying98 (.s (.s .z)) rfl rfl rfl ⟨[.int .i64 r349.Hi, .int .u64 r349.Lo], rfl, .a⟩ (.nilS [21, 20, 19, 6, 0] rfl rfl (.drop .z ?_)))))))))
     exact .drop .z (.region (.add rfl rfl rfl rfl (.sub (E' := [(0, _), (6, _), (19, _), (20, _), (47, _)]) ⟨rfl, rfl, rfl, rfl, rfl, trivial⟩ (.skips 1 rfl (.nil' fun c w ho hs => ⟨((mput (x314.Row, x314.Col) r349 s294), w64 (s295 + 1)), hd, I297, le299, ho.sub ⟨rfl, rfl, rfl, rfl, rfl, trivial⟩, hs.pick (.c .z .n)⟩)))))
   refine .skipS [10, 9, 21, 20, 19, 6, 0] rfl rfl (.drop .z (.region (.skips 1 rfl (.loadW isAgg99 sizeOf99 rfl (.s .z) rfl rfl rfl (.loadW isAgg86 sizeOf86 rfl .z rfl rfl rfl (.updM (k := (x314.Row, x314.Col)) (El := eWide) (ag := true) (v := r334) KA99 underlying98 (.s (.s .z)) rfl rfl rfl ⟨[.int .i64 r334.Hi, .int .u64 r334.Lo], rfl, .a⟩ (.nilS [21, 20, 19, 6, 0] rfl rfl (.drop .z (.drop .z ?_)))))))))
   exact .region (.add rfl rfl rfl rfl (.sub (E' := [(0, _), (6, _), (19, _), (20, _), (47, _)]) ⟨rfl, rfl, rfl, rfl, rfl, trivial⟩ (.skips 1 rfl (.nil' fun c w ho hs => ⟨((mput (x314.Row, x314.Col) r334 s294), w64 (s295 + 1)), hd, I297, le299, ho.sub ⟨rfl, rfl, rfl, rfl, rfl, trivial⟩, hs.pick (.c .z .n)⟩))))
 refine .exitS [6, 0] rfl rfl (.seq (.region (.skips 1 rfl (.nilS [13, 6, 0] rfl rfl (.seq (.seq (.region (.skips 1 rfl (.rangeM underlying98 .z rfl rfl rfl fun b354 => ?_)))))))))
 refine .nilS [49, 13, 0] rfl rfl (.block (.own0 eTriple 47 (.loop hd (fun (s : (List Triple) × (List ((Int × Int) × Wide))) c w => match s with | (s459, s463) => ∃ I_ p460 c461, IH.le I297 I_ ∧ Ok ⟨75, [], none⟩ [(0, .int .i64 a0), (13, .slice p460 s459.length c461), (49, .pointer (some ⟨b354, 0, none⟩))] c ∧ Sym w0 M I I_ [OwnSl eTriple 47 p460 c461 s459, OwnIt kArr2 eWide true b9 b354 s294 s463 none] w) (fun c w ho hs => ⟨I297, _, _, (.refl _), ho.sub ⟨rfl, rfl, rfl, trivial⟩, hs.pick (.c .z (.c .z .n))⟩) ?_)))
 rintro ⟨s459, s463⟩ next465 hd c w hst
 obtain ⟨I466, p460, c461, hl467, hok, hsym⟩ := hst
 have le468 := IH.le.trans le299 hl467
 have le469 := IH.le.trans (.refl _) hl467
 refine Cod.at hok hsym (.seq (.region (.nextM (.s .z) rfl hd rfl rfl (fun hd hn490 => ?_) (fun p484 l485 v486 cs487 hd hr488 hv489 hn490 => ?_))))
 · skip
   refine .extract rfl rfl rfl rfl (.nilS [51, 49, 13, 0] rfl rfl (.seq (.condKF rfl rfl (.exitS [13] rfl rfl (.drop (.s .z) (.seq (.region (.skips 1 rfl ?_))))))))
   have hw491 := Fun.sort (hk := fun _ => ⟨rfl, rfl⟩) SL51 isAgg47 sizeOf47 (fun x y J Q hq => W_csr_order (I := J) (a0 := x) (a1 := y) (Q := Q) hq) call52 (I := I466) (T := 47) (a := p460) (cap := c461) hd
   refine .callS (.f call51 rfl) (.c .z .n) hw491 rfl rfl fun v492 I493 l494 hl495 hv496 => ?_
   obtain ⟨y497, rfl, hlen498, rfl, hd⟩ := hv496
   have le499 := IH.le.trans le468 hl495
   have le500 := IH.le.trans le469 hl495
   refine .sub (E' := [(13, .slice p460 y497.length c461), (72, .slice p460 y497.length c461), (73, _)]) ⟨(by rw [hlen498]; rfl), (by rw [hlen498]; rfl), rfl, trivial⟩ (.nilS [13] rfl rfl (.seq (.region (.skips 3 rfl (.nilS [5, 4] rfl rfl (.pub .z fun I501 hl502 R503 => ?_))))))
   have le504 := IH.le.trans le499 hl502
   have le505 := IH.le.trans le500 hl502
   exact .ret (pret results59 (.t rfl (.t rfl .n)) le504 ⟨(y497, 0), _, _, rfl, R503, hd⟩)
 cases hr488
 cases hv489
 refine .extract rfl rfl rfl rfl (.nilS [51, 49, 13, 0] rfl rfl (.seq (.condKT rfl rfl (.skipS [49, 13, 0] rfl rfl (.block (.seq (.region (.entryM .z rfl rfl rfl (.extract rfl rfl rfl rfl ?_)))))))))
 refine .extract rfl rfl rfl rfl (.allocA zeroValue99 rfl rfl fun b510 => ?_)
 refine .allocA zeroValue86 rfl rfl fun b512 => ?_
 refine .storeA sizeOf99 rfl rfl (.s .z) (.t (.t .nil)) rfl rfl (.storeA sizeOf86 rfl rfl .z (.t (.t .nil)) rfl rfl (.nilS [15, 14, 49, 13, 0] rfl rfl (.seq (.region (.skips 1 rfl (.loadW isAgg86 sizeOf86 rfl .z rfl rfl rfl ?_))))))
 have hw519 := W_ring_Narrow (I := I466) hd
 refine .callP call74 rfl hw519 rfl rfl fun v520 hv521 => ?_
 obtain ⟨r518, rfl, hd⟩ := hv521
 refine .skips 1 rfl (.extract rfl rfl rfl rfl (.extract rfl rfl rfl rfl (.skips 2 rfl (.nilS [17, 16, 14, 49, 13, 0] rfl rfl (.drop .z (.seq (.seq (.region (.skips 1 rfl ?_)))))))))
 refine .not rfl rfl rfl (.nilS [62, 16, 14, 49, 13, 0] rfl rfl (.condP rfl hd (fun hb522 hd => ?_) fun hb522 hd => ?_))
 · exact .seq (.region (.skips 2 rfl (.nilS [5, 4] rfl rfl (.drop .z (.drop .z (.drop .z (.ret (pret results59 (.t rfl (.t rfl .n)) le468 ⟨(([] : List Triple), 12), _, _, rfl, (.nil _ _ _), hd⟩))))))))
 refine .skipS [16, 14, 49, 13, 0] rfl rfl (.region (.skips 1 rfl (.ixArr (i := 0) underlying99 sizeOf3 rfl rfl (by decide) (o := 0) rfl rfl rfl (.load1 isAgg3 rfl .z rfl rfl rfl (.ixArr (i := 1) underlying99 sizeOf3 rfl rfl (by decide) (o := 1) rfl rfl rfl (.load1 isAgg3 rfl .z rfl rfl rfl (.skips 1 rfl (.build zeroValue47 underlying47 BI47 (.c rfl rfl rfl (.t .nil) (.c rfl rfl rfl (.s (.t .nil)) (.c rfl rfl rfl (.s (.s (.t .nil))) .n))) (by exact ⟨⟨_, _, rfl, rfl, rfl⟩, ⟨⟨_, _, rfl, rfl, rfl⟩, ⟨⟨_, _, rfl, rfl, rfl⟩, trivial⟩⟩⟩) rfl rfl (.buildSlice 1 underlying48 sizeOf47 zeroValue47 rfl rfl (.c rfl rfl rfl .n) rfl rfl fun b523 => ?_)))))))))
 obtain ⟨hl525, hd⟩ := hd
 refine .append (ys := [({ Row := p484.1.1, Col := p484.1.2, Val := r518.1 } : Triple)]) 24 (.s (.s (.s .z))) underlying48 underlying48 IN47 rfl rfl rfl rfl rfl rfl rfl rfl rfl (.box .z (.one rfl) rfl) hl525 rfl rfl fun p526 c527 => ?_
 exact .sub (E' := [(0, _), (49, _), (14, _), (16, _), (63, _), (64, _), (65, _), (66, _), (67, _), (68, _), (69, _), (70, _), (71, _)]) ⟨rfl, rfl, rfl, rfl, rfl, rfl, rfl, rfl, rfl, rfl, rfl, rfl, rfl, trivial⟩ (.skips 1 rfl (.nil' fun c w ho hs => ⟨((s459 ++ ([({ Row := p484.1.1, Col := p484.1.2, Val := r518.1 } : Triple)])), l485), hd, I466, _, _, le469, ho.sub ⟨rfl, rfl, rfl, trivial⟩, hs.pick (.c .z (.c (.s (.s .z)) .n))⟩))

theorem W_csr_Of_1_fca {I : IH} {o0 : Int} {o1 : Int} {a0 : Triple} {b3 : Nat} {b4 : Nat} {Q : Bool → Prop}  (hd : csr_Of_1_fca o0 o1 a0 Q) :
    Fun Tryz.prog 58 #[.agg (encTriple a0).toArray, .pointer (some ⟨b3, 0, none⟩), .pointer (some ⟨b4, 0, none⟩)] I [pto b3 (.cells #[.int .i64 o0] 3 (0, 0)), pto b4 (.cells #[.int .i64 o1] 3 (0, 0))] (fun I_ v l => ∃ r, v = .bool r ∧ l = [pto b3 (.cells #[.int .i64 o0] 3 (0, 0)), pto b4 (.cells #[.int .i64 o1] 3 (0, 0))] ∧ Q r) := by
 refine Fun.enter (vs := [.agg (encTriple a0).toArray, .pointer (some ⟨b3, 0, none⟩), .pointer (some ⟨b4, 0, none⟩)]) func58 rfl ntmps58 rfl (.c (.c (.c .n))) fun w0 M => ?_
 refine .seq (.region (.boxA rfl rfl rfl fun b7 => ?_))
 refine .skips 1 rfl (.nilS [3, 2, 1] rfl rfl (.seq (.region (.fieldAddr underlying47 rfl sizeOf3 rfl (o := 0) rfl rfl rfl (.load1 isAgg3 rfl .z rfl rfl rfl (.load1 isAgg3 rfl (.s .z) rfl rfl rfl (.sub' rfl rfl rfl rfl ?_)))))))
 have hw10 := W_csr_within (I := I) hd
 refine .callP call46 rfl hw10 rfl rfl fun v11 hv12 => ?_
 obtain ⟨r9, rfl, hd⟩ := hv12
 refine .not rfl rfl rfl (.skips 1 rfl ?_)
 refine splitP hd (fun hb13 hd => ?_) fun hb13 hd => ?_
 · rw [hb13]
   exact .skips 8 rfl (.nilS [4, 2, 1] rfl rfl (.drop .z (.ret (oret results58 (.t rfl .n) (.refl _) (.c .z (.c .z .n)) ⟨true, rfl, rfl, hd⟩))))
 rw [hb13]
 refine .gyes rfl rfl rfl (.fieldAddr underlying47 rfl sizeOf3 rfl (o := 1) rfl rfl rfl (.gyes rfl rfl rfl (.load1 isAgg3 rfl .z rfl rfl rfl (.gyes rfl rfl rfl (.load1 isAgg3 rfl (.s (.s .z)) rfl rfl rfl (.gyes rfl rfl rfl (.sub' rfl rfl rfl rfl ?_)))))))
 have hw15 := W_csr_within (I := I) hd
 refine .gyes rfl rfl rfl (.callP call46 rfl hw15 rfl rfl fun v16 hv17 => ?_)
 obtain ⟨r14, rfl, hd⟩ := hv17
 exact .gyes rfl rfl rfl (.not rfl rfl rfl (.skips 2 rfl (.nilS [4, 2, 1] rfl rfl (.drop .z (.ret (oret results58 (.t rfl .n) (.refl _) (.c .z (.c .z .n)) ⟨(!r14), rfl, rfl, hd⟩))))))

theorem W_slices_IndexFunc_api_Triple_api_Triple_77e {I : IH} {o0 : Int} {o1 : Int} {a0 : List Triple} {b3 : Nat} {b4 : Nat} {p5 : Option Addr} {c6 : Nat} {Q : Int → Prop} (R7 : RepSl eTriple I p5 c6 a0) (hd : slices_IndexFunc_api_Triple_api_Triple_77e o0 o1 a0 Q) :
    Fun Tryz.prog 71 #[.slice p5 a0.length c6, .func (.func 58) #[] #[.pointer (some ⟨b3, 0, none⟩), .pointer (some ⟨b4, 0, none⟩)]] I [pto b3 (.cells #[.int .i64 o0] 3 (0, 0)), pto b4 (.cells #[.int .i64 o1] 3 (0, 0))] (fun I_ v l => ∃ r, v = .int .i64 r ∧ l = [pto b3 (.cells #[.int .i64 o0] 3 (0, 0)), pto b4 (.cells #[.int .i64 o1] 3 (0, 0))] ∧ Q r) := by
 refine Fun.enter (vs := [.slice p5 a0.length c6, .func (.func 58) #[] #[.pointer (some ⟨b3, 0, none⟩), .pointer (some ⟨b4, 0, none⟩)]]) func71 rfl ntmps71 rfl (.c (.c .n)) fun w0 M => ?_
 refine .seq (.region (.skips 1 rfl (.nilS [1, 0] rfl rfl (.seq (.seq (.region (.skips 1 rfl (.len underlying48 rfl rfl rfl rfl (.skips 1 rfl ?_)))))))))
 refine .nilS [8, 7, 1, 0] rfl rfl (.block (.loop hd (fun (s51 : Int) c w => ∃ I_, IH.le I I_ ∧ Ok ⟨19, [], none⟩ [(0, .slice p5 a0.length c6), (1, .func (.func 58) #[] #[.pointer (some ⟨b3, 0, none⟩), .pointer (some ⟨b4, 0, none⟩)]), (7, .int .i64 (a0.length : Int)), (8, .int .i64 s51)] c ∧ Sym w0 M I I_ [pto b3 (.cells #[.int .i64 o0] 3 (0, 0)), pto b4 (.cells #[.int .i64 o1] 3 (0, 0))] w) (fun c w ho hs => ⟨I, (.refl _), ho.sub ⟨rfl, rfl, rfl, rfl, trivial⟩, hs.pick (.c .z (.c .z .n))⟩) ?_))
 rintro s51 next52 hd c w hst
 obtain ⟨I53, hl54, hok, hsym⟩ := hst
 have le55 := IH.le.trans (.refl _) hl54
 replace R7 := R7.mono hl54
 refine Cod.at hok hsym (.seq (.region (.lt rfl rfl rfl rfl (.nilS [9, 8, 7, 1, 0] rfl rfl (.seq (.condP rfl hd (fun hb57 hd => ?_) fun hb57 hd => ?_))))))
 · refine .skipS [8, 7, 1, 0] rfl rfl (.seq (.block (.seq (.region (.skips 2 rfl (.nilS [5, 8, 7, 1, 0] rfl rfl (.seq (.region (.skips 3 rfl ?_)))))))))
   obtain ⟨h58, x59, hx60, hd⟩ := hd
   obtain ⟨b61, o62, cs63, e64, hC65, hr66⟩ := R7.2 _ _ hx60
   cases hr66
   refine .ixa underlying48 sizeOf47 rfl e64 rfl h58 (idx_lt hx60 h58) rfl rfl (.ldW isAgg47 sizeOf47 hC65 rfl rfl rfl rfl ?_)
   have hw67 := W_csr_Of_1_fca (I := I53) (o0 := o0) (o1 := o1) (a0 := x59) (b3 := b3) (b4 := b4) hd
   refine .callS (.c call58 rfl rfl) (.c .z (.c .z .n)) hw67 rfl rfl fun v71 I68 l72 hl69 hv70 => ?_
   obtain ⟨r73, rfl, rfl, hd⟩ := hv70
   have le74 := IH.le.trans le55 hl69
   replace R7 := R7.mono hl69
   replace hC65 := hC65.mono hl69
   refine .re (m' := [pto b3 (.cells #[.int .i64 o0] 3 (0, 0)), pto b4 (.cells #[.int .i64 o1] 3 (0, 0))]) rfl (.nilS [16, 5, 8, 7, 1, 0] rfl rfl (.condP rfl hd (fun hb75 hd => ?_) fun hb75 hd => ?_))
   · exact .seq (.region (.skips 2 rfl (.nilS [4, 1] rfl rfl (.ret (oret results71 (.t rfl .n) le74 (.c .z (.c .z .n)) ⟨s51, rfl, rfl, hd⟩)))))
   exact .skipS [8, 7, 1, 0] rfl rfl (.region (.add rfl rfl rfl rfl (.sub (E' := [(0, _), (1, _), (7, _), (18, _)]) ⟨rfl, rfl, rfl, rfl, trivial⟩ (.skips 1 rfl (.nil' fun c w ho hs => ⟨(w64 (s51 + 1)), hd, I68, le74, ho.sub ⟨rfl, rfl, rfl, rfl, trivial⟩, hs.pick (.c .z (.c .z .n))⟩)))))
 exact .exitS [1] rfl rfl (.seq (.region (.skips 1 rfl (.nilS [4, 1] rfl rfl (.ret (oret results71 (.t rfl .n) le55 (.c .z (.c .z .n)) ⟨(-1), rfl, rfl, hd⟩))))))

theorem W_slices_ContainsFunc_api_Triple_api_Triple_988 {I : IH} {o0 : Int} {o1 : Int} {a0 : List Triple} {b3 : Nat} {b4 : Nat} {p5 : Option Addr} {c6 : Nat} {Q : Bool → Prop} (R7 : RepSl eTriple I p5 c6 a0) (hd : slices_ContainsFunc_api_Triple_api_Triple_988 o0 o1 a0 Q) :
    Fun Tryz.prog 57 #[.slice p5 a0.length c6, .func (.func 58) #[] #[.pointer (some ⟨b3, 0, none⟩), .pointer (some ⟨b4, 0, none⟩)]] I [pto b3 (.cells #[.int .i64 o0] 3 (0, 0)), pto b4 (.cells #[.int .i64 o1] 3 (0, 0))] (fun I_ v l => ∃ r, v = .bool r ∧ l = [pto b3 (.cells #[.int .i64 o0] 3 (0, 0)), pto b4 (.cells #[.int .i64 o1] 3 (0, 0))] ∧ Q r) := by
 refine Fun.enter (vs := [.slice p5 a0.length c6, .func (.func 58) #[] #[.pointer (some ⟨b3, 0, none⟩), .pointer (some ⟨b4, 0, none⟩)]]) func57 rfl ntmps57 rfl (.c (.c .n)) fun w0 M => ?_
 refine .seq (.region (.skips 1 rfl (.nilS [1, 0] rfl rfl (.seq (.region (.skips 2 rfl ?_))))))
 have hw8 := W_slices_IndexFunc_api_Triple_api_Triple_77e (I := I) (o0 := o0) (o1 := o1) (a0 := a0) (b3 := b3) (b4 := b4) R7 hd
 refine .callS (.f call71 rfl) (.c .z (.c .z .n)) hw8 rfl rfl fun v12 I9 l13 hl10 hv11 => ?_
 obtain ⟨r14, rfl, rfl, hd⟩ := hv11
 have le15 := IH.le.trans (.refl _) hl10
 replace R7 := R7.mono hl10
 exact .re (m' := [pto b3 (.cells #[.int .i64 o0] 3 (0, 0)), pto b4 (.cells #[.int .i64 o1] 3 (0, 0))]) rfl (.ge rfl rfl rfl rfl (.skips 1 rfl (.nilS [4, 1] rfl rfl (.ret (oret results57 (.t rfl .n) le15 (.c .z (.c .z .n)) ⟨(decide (0 ≤ r14)), rfl, rfl, hd⟩)))))

theorem W_csr_Of {I : IH} {a0 : Int} {a1 : Int} {a2 : Int} {a3 : List Triple} {p1 : Option Addr} {c2 : Nat} {Q : (Rows × Int) → Prop} (R3 : RepSl eTriple I p1 c2 a3) (hd : csr_Of a0 a1 a2 a3 Q) :
    PFun Tryz.prog 38 [.int .i64 a0, .int .i64 a1, .int .i64 a2, .slice p1 a3.length c2] I (fun I_ v => ∃ r p4 c5 p7 c8 p10 c11, v = .tuple #[.agg #[.int .i64 r.1.Rows, .int .i64 r.1.Cols, .slice p4 r.1.Start.length c5, .slice p7 r.1.Col.length c8, .slice p10 r.1.Val.length c11], .int .i64 r.2] ∧ RepSl eI64 I_ p4 c5 r.1.Start ∧ RepSl eI64 I_ p7 c8 r.1.Col ∧ RepSl eI64 I_ p10 c11 r.1.Val ∧ Q r) := by
 refine Fun.enter func38 rfl ntmps38 rfl (.c (.c (.c (.c .n)))) fun w0 M => ?_
 refine .seq (.region (.box1 rfl rfl rfl rfl fun b19 => ?_))
 refine .box1 rfl rfl rfl rfl fun b21 => ?_
 refine .allocA zeroValue25 rfl rfl fun b23 => ?_
 refine .skips 1 rfl (.nilS [8, 6, 5, 3, 0] rfl rfl (.seq (.block (.seq (.region (.skips 1 rfl ?_))))))
 have hw82 := W_ring_Is (I := I) hd
 refine .callP call56 rfl hw82 rfl rfl fun v83 hv84 => ?_
 obtain ⟨r81, rfl, hd⟩ := hv84
 refine .not rfl rfl rfl (.skips 1 rfl (.nilS [12, 8, 6, 5, 3, 0] rfl rfl (.condP rfl hd (fun hb85 hd => ?_) fun hb85 hd => ?_)))
 · exact .seq (.region (.build zeroValue25 underlying25 BI25 .n (by exact trivial) rfl rfl (.storeA sizeOf25 rfl rfl .z (.t (.t (.t (.t (.t .nil))))) rfl rfl (.skips 1 rfl (.nilS [9, 8] rfl rfl (.drop (.s .z) (.drop (.s .z) (.ret (pret results38 (.w isAgg25 sizeOf25 rfl .z rfl (.t rfl .n)) (.refl _) ⟨(({ Rows := 0, Cols := 0, Start := ([] : List Int), Col := ([] : List Int), Val := ([] : List Int) } : Rows), 8), _, _, _, _, _, _, rfl, (.nil _ _ _), (.nil _ _ _), (.nil _ _ _), hd⟩)))))))))
 refine .seq ?_
 refine Cod.joinQ (σ := Bool) hd (fun (s104 : Bool) c w => ∃ I_, IH.le I I_ ∧ Ok ⟨51, [], none⟩ [(0, .int .i64 a0), (3, .slice p1 a3.length c2), (5, .pointer (some ⟨b19, 0, none⟩)), (6, .pointer (some ⟨b21, 0, none⟩)), (8, .pointer (some ⟨b23, 0, none⟩)), (17, .bool s104)] c ∧ Sym w0 M I I_ [pto b19 (.cells #[.int .i64 a1] 3 (0, 0)), pto b21 (.cells #[.int .i64 a2] 3 (0, 0)), pto b23 (.cells #[.int .i64 0, .int .i64 0, .slice none 0 0, .slice none 0 0, .slice none 0 0] 25 (0, 0))] w) (fun k105 hd => ?_) ?_
 · skip
   refine .region (.load1 isAgg3 rfl (.s (.s .z)) rfl rfl rfl ?_)
   have hw107 := W_csr_within (I := I) hd
   refine .callP call46 rfl hw107 rfl rfl fun v108 hv109 => ?_
   obtain ⟨r106, rfl, hd⟩ := hv109
   refine .not rfl rfl rfl (.skips 1 rfl ?_)
   refine splitP hd (fun hb110 hd => ?_) fun hb110 hd => ?_
   · rw [hb110]
     exact .skips 5 rfl (.nil' fun c w ho hs => ⟨true, hd, I, (.refl _), ho.sub ⟨rfl, rfl, rfl, rfl, rfl, rfl, trivial⟩, hs.pick (.c (.s (.s .z)) (.c (.s .z) (.c .z .n)))⟩)
   rw [hb110]
   refine .gyes rfl rfl rfl (.load1 isAgg3 rfl (.s .z) rfl rfl rfl ?_)
   have hw112 := W_csr_within (I := I) hd
   refine .gyes rfl rfl rfl (.callP call46 rfl hw112 rfl rfl fun v113 hv114 => ?_)
   obtain ⟨r111, rfl, hd⟩ := hv114
   exact .gyes rfl rfl rfl (.not rfl rfl rfl (.skips 2 rfl (.nil' fun c w ho hs => ⟨(!r111), hd, I, (.refl _), ho.sub ⟨rfl, rfl, rfl, rfl, rfl, rfl, trivial⟩, hs.pick (.c (.s (.s .z)) (.c (.s .z) (.c .z .n)))⟩)))
 rintro s104 hd c w hst
 obtain ⟨I115, hl116, hok, hsym⟩ := hst
 have le117 := IH.le.trans (.refl _) hl116
 replace R3 := R3.mono hl116
 refine Cod.at hok hsym (.condP rfl hd (fun hb118 hd => ?_) fun hb118 hd => ?_)
 · exact .seq (.region (.build zeroValue25 underlying25 BI25 .n (by exact trivial) rfl rfl (.storeA sizeOf25 rfl rfl (.s (.s .z)) (.t (.t (.t (.t (.t .nil))))) rfl rfl (.skips 1 rfl (.nilS [9, 8] rfl rfl (.drop .z (.drop .z (.ret (pret results38 (.w isAgg25 sizeOf25 rfl .z rfl (.t rfl .n)) le117 ⟨(({ Rows := 0, Cols := 0, Start := ([] : List Int), Col := ([] : List Int), Val := ([] : List Int) } : Rows), 3), _, _, _, _, _, _, rfl, (.nil _ _ _), (.nil _ _ _), (.nil _ _ _), hd⟩)))))))))
 refine .seq (.region (.skips 1 rfl (.len underlying48 rfl rfl rfl rfl (.gt rfl rfl rfl rfl (.skips 1 rfl (.nilS [27, 8, 6, 5, 3, 0] rfl rfl (.condP rfl hd (fun hb119 hd => ?_) fun hb119 hd => ?_)))))))
 · exact .seq (.region (.build zeroValue25 underlying25 BI25 .n (by exact trivial) rfl rfl (.storeA sizeOf25 rfl rfl (.s (.s .z)) (.t (.t (.t (.t (.t .nil))))) rfl rfl (.skips 1 rfl (.nilS [9, 8] rfl rfl (.drop .z (.drop .z (.ret (pret results38 (.w isAgg25 sizeOf25 rfl .z rfl (.t rfl .n)) le117 ⟨(({ Rows := 0, Cols := 0, Start := ([] : List Int), Col := ([] : List Int), Val := ([] : List Int) } : Rows), 5), _, _, _, _, _, _, rfl, (.nil _ _ _), (.nil _ _ _), (.nil _ _ _), hd⟩)))))))))
 refine .seq (.region (.skips 1 rfl (.mkFn rfl rfl rfl rfl ?_)))
 have hw120 := W_slices_ContainsFunc_api_Triple_api_Triple_988 (I := I115) (o0 := a1) (o1 := a2) (a0 := a3) (b3 := b19) (b4 := b21) R3 hd
 refine .callS (.f call57 rfl) (.c .z (.c .z .n)) hw120 rfl rfl fun v124 I121 l125 hl122 hv123 => ?_
 obtain ⟨r126, rfl, rfl, hd⟩ := hv123
 have le127 := IH.le.trans le117 hl122
 replace R3 := R3.mono hl122
 refine .re (m' := [pto b19 (.cells #[.int .i64 a1] 3 (0, 0)), pto b21 (.cells #[.int .i64 a2] 3 (0, 0)), pto b23 (.cells #[.int .i64 0, .int .i64 0, .slice none 0 0, .slice none 0 0, .slice none 0 0] 25 (0, 0))]) rfl (.skips 1 rfl (.nilS [32, 8, 6, 5, 3, 0] rfl rfl (.condP rfl hd (fun hb128 hd => ?_) fun hb128 hd => ?_)))
 · exact .seq (.region (.build zeroValue25 underlying25 BI25 .n (by exact trivial) rfl rfl (.storeA sizeOf25 rfl rfl (.s (.s .z)) (.t (.t (.t (.t (.t .nil))))) rfl rfl (.skips 1 rfl (.nilS [9, 8] rfl rfl (.drop .z (.drop .z (.ret (pret results38 (.w isAgg25 sizeOf25 rfl .z rfl (.t rfl .n)) le127 ⟨(({ Rows := 0, Cols := 0, Start := ([] : List Int), Col := ([] : List Int), Val := ([] : List Int) } : Rows), 3), _, _, _, _, _, _, rfl, (.nil _ _ _), (.nil _ _ _), (.nil _ _ _), hd⟩)))))))))
 refine .skipS [8, 6, 5, 3, 0] rfl rfl (.seq (.region (.skips 2 rfl ?_)))
 have hw149 := W_csr_summed (I := I121) R3 hd
 refine .call call59 rfl hw149 rfl rfl fun v144 I141 hl142 hv143 => ?_
 obtain ⟨r140, p146, c147, rfl, R148, hd⟩ := hv143
 have le150 := IH.le.trans le127 hl142
 replace R3 := R3.mono hl142
 refine .skips 1 rfl (.extract rfl rfl rfl rfl (.extract rfl rfl rfl rfl (.skips 2 rfl (.nilS [11, 10, 8, 6, 5] rfl rfl (.seq (.seq (.region (.skips 1 rfl (.ne rfl rfl rfl rfl ?_)))))))))
 refine .nilS [44, 11, 10, 8, 6, 5] rfl rfl (.condP rfl hd (fun hb151 hd => ?_) fun hb151 hd => ?_)
 · exact .seq (.region (.build zeroValue25 underlying25 BI25 .n (by exact trivial) rfl rfl (.skips 1 rfl (.storeA sizeOf25 rfl rfl (.s (.s .z)) (.t (.t (.t (.t (.t .nil))))) rfl rfl (.skips 1 rfl (.nilS [9, 8] rfl rfl (.drop .z (.drop .z (.ret (pret results38 (.w isAgg25 sizeOf25 rfl .z rfl (.t rfl .n)) le150 ⟨(({ Rows := 0, Cols := 0, Start := ([] : List Int), Col := ([] : List Int), Val := ([] : List Int) } : Rows), r140.2), _, _, _, _, _, _, rfl, (.nil _ _ _), (.nil _ _ _), (.nil _ _ _), hd⟩))))))))))
 refine .skipS [10, 8, 6, 5] rfl rfl (.seq (.region (.load1 isAgg3 rfl .z rfl rfl rfl (.load1 isAgg3 rfl (.s .z) rfl rfl rfl (.skips 1 rfl ?_)))))
 have hw167 := W_csr_built (I := I141) R148 hd
 refine .call call53 rfl hw167 rfl rfl fun v156 I153 hl154 hv155 => ?_
 obtain ⟨r152, p158, c159, p161, c162, p164, c165, rfl, R160, R163, R166, hd⟩ := hv155
 have le168 := IH.le.trans le150 hl154
 replace R148 := R148.mono hl154
 exact .storeA sizeOf25 rfl rfl (.s (.s .z)) (.t (.t (.t (.t (.t .nil))))) rfl rfl (.skips 1 rfl (.nilS [9, 8] rfl rfl (.drop .z (.drop .z (.ret (pret results38 (.w isAgg25 sizeOf25 rfl .z rfl (.t rfl .n)) le168 ⟨(r152, 0), _, _, _, _, _, _, rfl, R160, R163, R166, hd⟩))))))

theorem W_dcsc_items_1_8e9 {I : IH} {o0 : Nat} {o1 : List Triple} {o2 : Int} {o3 : Columns} {o4 : Int} {Y : Nat → (List Triple) → Int → Item → ((Bool × Nat × (List Triple)) → Prop) → Prop} {b6 : Nat} {p7 : Option Addr} {c8 : Nat} {b11 : Nat} {b12 : Nat} {p13 : Option Addr} {c14 : Nat} {p16 : Option Addr} {c17 : Nat} {p19 : Option Addr} {c20 : Nat} {p22 : Option Addr} {c23 : Nat} {b25 : Nat} {lr : Nat} {Rr : Nat → HA} {Q : (Nat × (List Triple)) → Prop} (hY : ∀ {J_ : IH}, I.le J_ → ∀ {y26 : Nat} {y27 : List Triple} {y33 : Int} {x35 : Item} {p29 : Option Addr} {c30 : Nat} {Qy : (Bool × Nat × (List Triple)) → Prop}, Y y26 y27 y33 x35 Qy → RFun Tryz.prog lr [.agg (encItem x35).toArray] J_ [Rr y26, pto b6 (.cells #[.slice p29 y27.length c30] 48 (0, 0)), OwnSl eTriple 47 p29 c30 y27, pto b11 (.cells #[.int .i64 y33] 3 (0, 0))] (fun I_ v l => ∃ r p37 c38, v = .bool r.1 ∧ l = [Rr r.2.1, pto b6 (.cells #[.slice p37 r.2.2.length c38] 48 (0, 0)), OwnSl eTriple 47 p37 c38 r.2.2, pto b11 (.cells #[.int .i64 y33] 3 (0, 0))] ∧ Qy r)) (R15 : RepSl eI64 I p13 c14 o3.At) (R18 : RepSl eI64 I p16 c17 o3.Start) (R21 : RepSl eI64 I p19 c20 o3.Row) (R24 : RepSl eI64 I p22 c23 o3.Val) (hd : dcsc_items_1_8e9 o0 o1 o2 o3 o4 Y Q) :
    Fun Tryz.prog 45 #[.func (.yield lr) #[] #[], .pointer (some ⟨b12, 0, none⟩), .pointer (some ⟨b25, 0, none⟩)] I [Rr o0, pto b6 (.cells #[.slice p7 o1.length c8] 48 (0, 0)), OwnSl eTriple 47 p7 c8 o1, pto b11 (.cells #[.int .i64 o2] 3 (0, 0)), pto b12 (.cells #[.int .i64 o3.Rows, .int .i64 o3.Cols, .slice p13 o3.At.length c14, .slice p16 o3.Start.length c17, .slice p19 o3.Row.length c20, .slice p22 o3.Val.length c23] 27 (0, 0)), pto b25 (.cells #[.int .i64 o4] 3 (0, 0))] (fun I_ v l => ∃ r p27 c28, v = .tuple #[] ∧ l = [Rr r.1, pto b6 (.cells #[.slice p27 r.2.length c28] 48 (0, 0)), OwnSl eTriple 47 p27 c28 r.2, pto b11 (.cells #[.int .i64 o2] 3 (0, 0)), pto b12 (.cells #[.int .i64 o3.Rows, .int .i64 o3.Cols, .slice p13 o3.At.length c14, .slice p16 o3.Start.length c17, .slice p19 o3.Row.length c20, .slice p22 o3.Val.length c23] 27 (0, 0)), pto b25 (.cells #[.int .i64 o4] 3 (0, 0))] ∧ Q r) := by
 refine Fun.enter (vs := [.func (.yield lr) #[] #[], .pointer (some ⟨b12, 0, none⟩), .pointer (some ⟨b25, 0, none⟩)]) func45 rfl ntmps45 rfl (.c (.c (.c .n))) fun w0 M => ?_
 refine .seq (.region (.fieldAddr underlying27 rfl sizeOf22 rfl (o := 3) rfl rfl rfl (.load1 isAgg22 rfl (.s (.s (.s (.s .z)))) rfl rfl rfl (.load1 isAgg3 rfl (.s (.s (.s (.s (.s .z))))) rfl rfl rfl ?_))))
 obtain ⟨h45, x46, hx47, hd⟩ := hd
 obtain ⟨b48, o49, cs50, e51, hC52, hr53⟩ := R18.2 _ _ hx47
 cases hr53
 refine .ixa underlying22 sizeOf3 rfl e51 rfl h45 (idx_lt hx47 h45) rfl rfl (.ld1 (j := 0) isAgg3 hC52 rfl rfl rfl rfl rfl (.skips 1 rfl (.nilS [4, 2, 1, 0] rfl rfl (.block (.loop hd (fun (s : (List Triple) × Int × Nat) c w => match s with | (s182, s186, s187) => ∃ I_ p183 c184, IH.le I I_ ∧ Ok ⟨34, [], none⟩ [(0, .func (.yield lr) #[] #[]), (1, .pointer (some ⟨b12, 0, none⟩)), (2, .pointer (some ⟨b25, 0, none⟩)), (4, .int .i64 s186)] c ∧ Sym w0 M I I_ [pto b6 (.cells #[.slice p183 s182.length c184] 48 (0, 0)), OwnSl eTriple 47 p183 c184 s182, pto b11 (.cells #[.int .i64 o2] 3 (0, 0)), pto b12 (.cells #[.int .i64 o3.Rows, .int .i64 o3.Cols, .slice p13 o3.At.length c14, .slice p16 o3.Start.length c17, .slice p19 o3.Row.length c20, .slice p22 o3.Val.length c23] 27 (0, 0)), pto b25 (.cells #[.int .i64 o4] 3 (0, 0)), Rr s187] w) (fun c w ho hs => ⟨I, _, _, (.refl _), ho.sub ⟨rfl, rfl, rfl, rfl, trivial⟩, hs.pick (.c (.s .z) (.c (.s .z) (.c (.s .z) (.c (.s .z) (.c (.s .z) (.c .z .n))))))⟩) ?_)))))
 rintro ⟨s182, s186, s187⟩ next188 hd c w hst
 obtain ⟨I189, p183, c184, hl190, hok, hsym⟩ := hst
 have le191 := IH.le.trans (.refl _) hl190
 replace R15 := R15.mono hl190
 replace R18 := R18.mono hl190
 replace R21 := R21.mono hl190
 replace R24 := R24.mono hl190
 refine Cod.at hok hsym (.seq (.seq (.region (.skips 1 rfl (.fieldAddr underlying27 rfl sizeOf22 rfl (o := 3) rfl rfl rfl (.load1 isAgg22 rfl (.s (.s (.s .z))) rfl rfl rfl (.load1 isAgg3 rfl (.s (.s (.s (.s .z)))) rfl rfl rfl (.add rfl rfl rfl rfl ?_))))))))
 obtain ⟨h202, x203, hx204, hd⟩ := hd
 obtain ⟨b205, o206, cs207, e208, hC209, hr210⟩ := R18.2 _ _ hx204
 cases hr210
 refine .ixa underlying22 sizeOf3 rfl e208 rfl h202 (idx_lt hx204 h202) rfl rfl (.ld1 (j := 0) isAgg3 hC209 rfl rfl rfl rfl rfl (.lt rfl rfl rfl rfl (.nilS [17, 4, 2, 1, 0] rfl rfl (.condP rfl hd (fun hb211 hd => ?_) fun hb211 hd => ?_))))
 · refine .skipS [4, 2, 1, 0] rfl rfl (.seq (.block (.seq (.ownF (.s .z) fun hne212 => ?_))))
   refine .draw [some 0, some 1, some 2, some 3, some 4, some 5, some 6, some 7, some 8, some 9, some 10, some 11, some 12, some 13] 14 MX (by kernel_rfl) (by kernel_rfl) (by kernel_rfl) (by kernel_rfl) (by kernel_rfl) (by kernel_rfl) (by kernel_rfl) (fun ex => (pto b6 (.cells #[.slice p183 s182.length c184] 48 (0, 0))) :: (OwnSl eTriple 47 p183 c184 s182) :: (pto b11 (.cells #[.int .i64 o2] 3 (0, 0))) :: (pto b12 (.cells #[.int .i64 o3.Rows, .int .i64 o3.Cols, .slice p13 o3.At.length c14, .slice p16 o3.Start.length c17, .slice p19 o3.Row.length c20, .slice p22 o3.Val.length c23] 27 (0, 0))) :: (pto b25 (.cells #[.int .i64 o4] 3 (0, 0))) :: (Rr s187) :: ex) (fun _ _ => (.s (.s (.s (.s (.s (.s .z))))))) rfl (.fs [[]] rfl (by kernel_rfl) (.f [] rfl (by kernel_rfl) rfl rfl (fun ex => .fieldAddr underlying27 rfl sizeOf22 rfl (o := 4) rfl rfl rfl .mk) (.f [1] rfl (by kernel_rfl) rfl rfl (fun ex => .load1 isAgg22 rfl (.s (.s (.s .z))) rfl rfl rfl .mk) (.fs [[]] rfl (by kernel_rfl) ?_))))
   obtain ⟨h213, x214, hx215, hd⟩ := hd
   obtain ⟨b216, o217, cs218, e219, hC220, hr221⟩ := R21.2 _ _ hx215
   cases hr221
   refine .f [2, 3] rfl (by kernel_rfl) rfl rfl (fun ex => .ixa underlying22 sizeOf3 rfl e219 rfl h213 (idx_lt hx215 h213) rfl rfl .mk) (.f [4] rfl (by kernel_rfl) rfl rfl (fun ex => .ld1 (j := 0) isAgg3 hC220 rfl rfl rfl rfl rfl .mk) (.f [] rfl (by kernel_rfl) rfl rfl (fun ex => .fieldAddr underlying27 rfl sizeOf23 rfl (o := 5) rfl rfl rfl .mk) (.f [6] rfl (by kernel_rfl) rfl rfl (fun ex => .load1 isAgg23 rfl (.s (.s (.s .z))) rfl rfl rfl .mk) (.fs [[]] rfl (by kernel_rfl) ?_))))
   obtain ⟨h222, x223, hx224, hd⟩ := hd
   obtain ⟨b225, o226, cs227, e228, hC229, hr230⟩ := R24.2 _ _ hx224
   cases hr230
   refine .f [7, 8] rfl (by kernel_rfl) rfl rfl (fun ex => .ixa underlying23 sizeOf2 rfl e228 rfl h222 (idx_lt hx224 h222) rfl rfl .mk) (.f [9] rfl (by kernel_rfl) rfl rfl (fun ex => .ld1 (j := 0) isAgg2 hC229 rfl rfl rfl rfl rfl .mk) (.f [5, 10] rfl (by kernel_rfl) rfl rfl (fun ex => .build zeroValue50 underlying50 BI50 (.c rfl rfl rfl (.t .nil) (.c rfl rfl rfl (.s (.t .nil)) .n)) (by exact ⟨⟨_, _, rfl, rfl, rfl⟩, ⟨⟨_, _, rfl, rfl, rfl⟩, trivial⟩⟩) rfl rfl .mk) (.w [] [[], [11], [10, 11], [9, 10, 11], [9, 10, 11], [7, 9, 10, 11], [11], [5, 11], [4, 5, 11], [4, 5, 11], [2, 4, 5, 11], []] [0, 11] rfl (by kernel_rfl) (by kernel_rfl) (by kernel_rfl) ((dropE_kept rfl rfl)) (.inr (dropE_kept rfl rfl)) fun ex => ?_)))
   have hw231 := hY (J_ := I189) le191 (y26 := s187) (y27 := s182) (y33 := o2) (x35 := ({ At := x214, Val := x223 } : Item)) (p29 := p183) (c30 := c184) hd
   refine .callY rfl rfl (.c (.s (.s (.s (.s (.s .z))))) (.c .z (.c .z (.c .z .n)))) hw231 rfl rfl fun v235 I232 l236 hl233 hv234 => ?_
   obtain ⟨r237, p241, c242, rfl, rfl, hd⟩ := hv234
   have le245 := IH.le.trans le191 hl233
   replace R15 := R15.mono hl233
   replace R18 := R18.mono hl233
   replace R21 := R21.mono hl233
   replace R24 := R24.mono hl233
   replace hC220 := hC220.mono hl233
   replace hC229 := hC229.mono hl233
   refine .re (m' := (Rr r237.2.1) :: (pto b6 (.cells #[.slice p241 r237.2.2.length c242] 48 (0, 0))) :: (OwnSl eTriple 47 p241 c242 r237.2.2) :: (pto b11 (.cells #[.int .i64 o2] 3 (0, 0))) :: (pto b12 (.cells #[.int .i64 o3.Rows, .int .i64 o3.Cols, .slice p13 o3.At.length c14, .slice p16 o3.Start.length c17, .slice p19 o3.Row.length c20, .slice p22 o3.Val.length c23] 27 (0, 0))) :: (pto b25 (.cells #[.int .i64 o4] 3 (0, 0))) :: ex) rfl (.some (fun ex => (Rr r237.2.1) :: (pto b6 (.cells #[.slice p241 r237.2.2.length c242] 48 (0, 0))) :: (OwnSl eTriple 47 p241 c242 r237.2.2) :: (pto b11 (.cells #[.int .i64 o2] 3 (0, 0))) :: (pto b12 (.cells #[.int .i64 o3.Rows, .int .i64 o3.Cols, .slice p13 o3.At.length c14, .slice p16 o3.Start.length c17, .slice p19 o3.Row.length c20, .slice p22 o3.Val.length c23] 27 (0, 0))) :: (pto b25 (.cells #[.int .i64 o4] 3 (0, 0))) :: ex) rfl (fun _ _ => (.s (.s (.s (.s (.s (.s .z))))))) rfl trivial (.f [12] rfl (by kernel_rfl) rfl rfl (fun ex => .not rfl rfl rfl .mk) (.e 14 (by kernel_rfl) (by kernel_rfl) (by kernel_rfl) (.nilS [33, 4, 2, 1, 0] rfl rfl (.condP rfl hd (fun hb246 hd => ?_) fun hb246 hd => ?_)))))
   · exact .ret (oret results45 .n le245 (.c .z (.c .z (.c .z (.c .z (.c .z (.c .z .n)))))) ⟨(r237.2.1, r237.2.2), _, _, rfl, rfl, hd⟩)
   exact .skipS [4, 2, 1, 0] rfl rfl (.region (.skips 1 rfl (.add rfl rfl rfl rfl (.sub (E' := [(0, _), (1, _), (2, _), (18, _), (19, _)]) ⟨rfl, rfl, rfl, rfl, rfl, trivial⟩ (.skips 1 rfl (.nil' fun c w ho hs => ⟨(r237.2.2, w64 (s186 + 1), r237.2.1), hd, I232, _, _, le245, ho.sub ⟨rfl, rfl, rfl, rfl, trivial⟩, hs.pick (.c (.s .z) (.c (.s .z) (.c (.s .z) (.c (.s .z) (.c (.s .z) (.c .z .n))))))⟩))))))
 exact .exit (oretN results45 .n le191 (.c (.s (.s (.s (.s (.s .z))))) (.c .z (.c .z (.c .z (.c .z (.c .z .n)))))) ⟨(s187, s182), _, _, rfl, rfl, hd⟩)

theorem W_dcsc_Back {I : IH} {a0 : Columns} {p1 : Option Addr} {c2 : Nat} {p4 : Option Addr} {c5 : Nat} {p7 : Option Addr} {c8 : Nat} {p10 : Option Addr} {c11 : Nat} {Q : Rows → Prop} (R3 : RepSl eI64 I p1 c2 a0.At) (R6 : RepSl eI64 I p4 c5 a0.Start) (R9 : RepSl eI64 I p7 c8 a0.Row) (R12 : RepSl eI64 I p10 c11 a0.Val) (hd : dcsc_Back a0 Q) :
    PFun Tryz.prog 15 [.agg #[.int .i64 a0.Rows, .int .i64 a0.Cols, .slice p1 a0.At.length c2, .slice p4 a0.Start.length c5, .slice p7 a0.Row.length c8, .slice p10 a0.Val.length c11]] I (fun I_ v => ∃ r p13 c14 p16 c17 p19 c20, v = .agg #[.int .i64 r.Rows, .int .i64 r.Cols, .slice p13 r.Start.length c14, .slice p16 r.Col.length c17, .slice p19 r.Val.length c20] ∧ RepSl eI64 I_ p13 c14 r.Start ∧ RepSl eI64 I_ p16 c17 r.Col ∧ RepSl eI64 I_ p19 c20 r.Val ∧ Q r) := by
 refine Fun.enter func15 rfl ntmps15 rfl (.c .n) fun w0 M => ?_
 refine .marks0 (.seq (.region (.boxA rfl rfl rfl fun b26 => ?_)))
 refine .allocA zeroValue25 rfl rfl fun b28 => ?_
 refine .nilS [2, 1] rfl rfl (.seq (.region (.loadW isAgg27 sizeOf27 rfl (.s .z) rfl rfl rfl ?_)))
 have hw68 := W_dcsc_sure (I := I) R3 R6 R9 R12 hd
 refine .call call24 rfl hw68 rfl rfl fun v54 I51 hl52 hv53 => ?_
 obtain ⟨r50, p56, c57, p59, c60, p62, c63, p65, c66, rfl, R58, R61, R64, R67, hd⟩ := hv53
 have le69 := IH.le.trans (.refl _) hl52
 replace R3 := R3.mono hl52
 replace R6 := R6.mono hl52
 replace R9 := R9.mono hl52
 replace R12 := R12.mono hl52
 refine .storeA sizeOf27 rfl rfl (.s .z) (.t (.t (.t (.t (.t (.t .nil)))))) rfl rfl (.nilS [2, 1] rfl rfl (.seq (.region (.alloc1 zeroValue48 rfl rfl rfl fun b72 => ?_))))
 refine .nilS [3, 2, 1] rfl rfl (.seq (.seq (.region (.fieldAddr underlying27 rfl sizeOf22 rfl (o := 2) rfl rfl rfl (.load1 isAgg22 rfl (.s (.s .z)) rfl rfl rfl (.len underlying22 rfl rfl rfl rfl (.skips 1 rfl (.nilS [14, 13, 12, 3, 2, 1] rfl rfl (.block ?_)))))))))
 refine .own0 eTriple 47 (.loop hd (fun (s : (List Triple) × Int) c w => match s with | (s841, s845) => ∃ I_ ds846 p842 c843, IH.le I51 I_ ∧ Ok ⟨43, ds846, none⟩ [(1, .pointer (some ⟨b26, 0, none⟩)), (2, .pointer (some ⟨b28, 0, none⟩)), (3, .pointer (some ⟨b72, 0, none⟩)), (12, .slice p56 r50.At.length c57), (13, .int .i64 (r50.At.length : Int)), (14, .int .i64 s845)] c ∧ Sym w0 M I I_ [pto b26 (.cells #[.int .i64 r50.Rows, .int .i64 r50.Cols, .slice p56 r50.At.length c57, .slice p59 r50.Start.length c60, .slice p62 r50.Row.length c63, .slice p65 r50.Val.length c66] 27 (0, 0)), pto b28 (.cells #[.int .i64 0, .int .i64 0, .slice none 0 0, .slice none 0 0, .slice none 0 0] 25 (0, 0)), pto b72 (.cells #[.slice p842 s841.length c843] 48 (0, 0)), OwnSl eTriple 47 p842 c843 s841, Marks ds846] w) (fun c w ho hs => ⟨I51, _, _, _, (.refl _), ho.sub ⟨rfl, rfl, rfl, rfl, rfl, rfl, trivial⟩, hs.pick (.c (.s (.s (.s .z))) (.c (.s (.s .z)) (.c (.s .z) (.c .z (.c .z .n)))))⟩) ?_)
 rintro ⟨s841, s845⟩ next848 hd c w hst
 obtain ⟨I849, ds846, p842, c843, hl850, hok, hsym⟩ := hst
 have le851 := IH.le.trans le69 hl850
 have le852 := IH.le.trans (.refl _) hl850
 replace R58 := R58.mono hl850
 replace R61 := R61.mono hl850
 replace R64 := R64.mono hl850
 replace R67 := R67.mono hl850
 refine Cod.at (n := ⟨43, ds846, none⟩) hok hsym (.seq (.region (.lt rfl rfl rfl rfl (.nilS [15, 14, 13, 12, 3, 2, 1] rfl rfl (.seq (.condP rfl hd (fun hb854 hd => ?_) fun hb854 hd => ?_))))))
 · refine .skipS [14, 13, 12, 3, 2, 1] rfl rfl (.seq (.block (.seq (.region (.skips 1 rfl ?_)))))
   obtain ⟨h866, x867, hx868, hd⟩ := hd
   obtain ⟨b869, o870, cs871, e872, hC873, hr874⟩ := R58.2 _ _ hx868
   cases hr874
   refine .ixa underlying22 sizeOf3 rfl e872 rfl h866 (idx_lt hx868 h866) rfl rfl (.ld1 (j := 0) isAgg3 hC873 rfl rfl rfl rfl rfl (.alloc1 zeroValue3 rfl rfl rfl fun b875 => ?_))
   refine .skips 1 rfl (.store1 sizeOf3 rfl rfl .z (.t .nil) rfl (.nilS [4, 5, 14, 13, 12, 3, 2, 1] rfl rfl (.seq (.region (.loadW isAgg27 sizeOf27 rfl (.s .z) rfl rfl rfl (.skips 1 rfl ?_))))))
   have hw902 := W_dcsc_items_9d2 (I := I849) (a0 := r50) (a1 := s845) R58 R61 R64 R67 hd
   refine .callS (.f call27 rfl) .n hw902 rfl rfl fun v906 I903 l907 hl904 hv905 => ?_
   obtain ⟨r908, b911, p912, c913, p915, c916, p918, c919, p921, c922, b924, rfl, R914, R917, R920, R923, rfl, hd⟩ := hv905
   have le925 := IH.le.trans le851 hl904
   have le926 := IH.le.trans le852 hl904
   replace R58 := R58.mono hl904
   replace R61 := R61.mono hl904
   replace R64 := R64.mono hl904
   replace R67 := R67.mono hl904
   refine .re (m' := [pto b911 (.cells #[.int .i64 r908.1.Rows, .int .i64 r908.1.Cols, .slice p912 r908.1.At.length c913, .slice p915 r908.1.Start.length c916, .slice p918 r908.1.Row.length c919, .slice p921 r908.1.Val.length c922] 27 (0, 0)), pto b924 (.cells #[.int .i64 r908.2] 3 (0, 0)), pto b875 (.cells #[.int .i64 x867] 3 (0, 0)), pto b26 (.cells #[.int .i64 r50.Rows, .int .i64 r50.Cols, .slice p56 r50.At.length c57, .slice p59 r50.Start.length c60, .slice p62 r50.Row.length c63, .slice p65 r50.Val.length c66] 27 (0, 0)), pto b28 (.cells #[.int .i64 0, .int .i64 0, .slice none 0 0, .slice none 0 0, .slice none 0 0] 25 (0, 0)), pto b72 (.cells #[.slice p842 s841.length c843] 48 (0, 0)), OwnSl eTriple 47 p842 c843 s841, Marks ds846]) rfl (.nilS [21, 5, 14, 13, 12, 3, 2, 1] rfl rfl (.block (.rangeF [] rfl call45 (.c (.s (.s (.s (.s (.s (.s (.s .z))))))) (.c (.s (.s (.s (.s (.s .z))))) (.c (.s (.s (.s (.s (.s .z))))) (.c (.s (.s .z)) (.c .z (.c .z .n)))))) fun lr D rc hrc => ?_)))
   refine ⟨_, W_dcsc_items_1_8e9 (I := I903) (lr := lr) (Rr := recA lr [] rc) (o0 := 0) (o1 := s841) (o2 := x867) (o3 := r908.1) (o4 := r908.2) (b6 := b72) (p7 := p842) (c8 := c843) (b11 := b875) (b12 := b911) (p13 := p912) (c14 := c913) (p16 := p915) (c17 := c916) (p19 := p918) (c20 := c919) (p22 := p921) (c23 := c922) (b25 := b924) ?_ R914 R917 R920 R923 hd, ?_⟩
   · skip
     intro I hJ y964 y965 y971 x973 p967 c968 Qy  hd
     replace R58 := R58.mono hJ
     replace R61 := R61.mono hJ
     replace R64 := R64.mono hJ
     replace R67 := R67.mono hJ
     replace R914 := R914.mono hJ
     replace R917 := R917.mono hJ
     replace R920 := R920.mono hJ
     replace R923 := R923.mono hJ
     obtain ⟨rfl, hd⟩ := hd
     refine RFun.mk hrc rfl fun w0 M => ?_
     refine .region (.allocA zeroValue50 rfl rfl fun b974 => ?_)
     refine .storeA sizeOf50 rfl rfl .z (.t (.t .nil)) rfl rfl (.nil' fun c w ho hs => beginR (E' := [(3, _), (5, _), (6, _)]) ho ⟨rfl, rfl, rfl, trivial⟩ hs (.s .z) (.block (.region (.load1 isAgg48 rfl (.s (.s .z)) rfl rfl rfl (.fieldAddr underlying50 rfl sizeOf3 rfl (o := 0) rfl rfl rfl (.load1 isAgg3 rfl .z rfl rfl rfl (.load1 isAgg3 rfl (.s (.s (.s (.s .z)))) rfl rfl rfl (.fieldAddr underlying50 rfl sizeOf2 rfl (o := 1) rfl rfl rfl (.load1 isAgg2 rfl .z rfl rfl rfl ?_)))))))))
     refine .build zeroValue47 underlying47 BI47 (.c rfl rfl rfl (.t .nil) (.c rfl rfl rfl (.s (.t .nil)) (.c rfl rfl rfl (.s (.s (.t .nil))) .n))) (by exact ⟨⟨_, _, rfl, rfl, rfl⟩, ⟨⟨_, _, rfl, rfl, rfl⟩, ⟨⟨_, _, rfl, rfl, rfl⟩, trivial⟩⟩⟩) rfl rfl (.buildSlice 1 underlying48 sizeOf47 zeroValue47 rfl rfl (.c rfl rfl rfl .n) rfl rfl fun b976 => ?_)
     obtain ⟨hl978, hd⟩ := hd
     refine .append (ys := [({ Row := x973.At, Col := y971, Val := x973.Val } : Triple)]) 24 (.s (.s (.s (.s .z)))) underlying48 underlying48 IN47 rfl rfl rfl rfl rfl rfl rfl rfl rfl (.box .z (.one rfl) rfl) hl978 rfl rfl fun p979 c980 => ?_
     exact .store1 sizeOf48 rfl rfl (.s (.s (.s (.s .z)))) (.t .nil) rfl (.nil' fun c w ho hs => endR 0 (.inl rfl) (.refl _) (.s (.s (.s .z))) (.c (.s (.s (.s .z))) (.c .z (.c (.s (.s .z)) .n))) ⟨(true, 0, (y965 ++ ([({ Row := x973.At, Col := y971, Val := x973.Val } : Triple)]))), _, _, rfl, rfl, hd⟩ hs)
   intro v985 I982 l' hl983 hv984
   obtain ⟨r986, p990, c991, rfl, rfl, hd⟩ := hv984
   have le994 := IH.le.trans le925 hl983
   have le995 := IH.le.trans le926 hl983
   replace R58 := R58.mono hl983
   replace R61 := R61.mono hl983
   replace R64 := R64.mono hl983
   replace R67 := R67.mono hl983
   replace R914 := R914.mono hl983
   replace R917 := R917.mono hl983
   replace R920 := R920.mono hl983
   replace R923 := R923.mono hl983
   obtain ⟨hz, hd⟩ := hd
   refine ⟨_, _, rfl, fun hj => ?_, fun i hj => absurd (hz.symm.trans hj) (by simp)⟩
   exact .re (m' := [Marks (D :: ds846), pto b72 (.cells #[.slice p990 r986.2.length c991] 48 (0, 0)), OwnSl eTriple 47 p990 c991 r986.2, pto b875 (.cells #[.int .i64 x867] 3 (0, 0)), pto b911 (.cells #[.int .i64 r908.1.Rows, .int .i64 r908.1.Cols, .slice p912 r908.1.At.length c913, .slice p915 r908.1.Start.length c916, .slice p918 r908.1.Row.length c919, .slice p921 r908.1.Val.length c922] 27 (0, 0)), pto b924 (.cells #[.int .i64 r908.2] 3 (0, 0)), pto b26 (.cells #[.int .i64 r50.Rows, .int .i64 r50.Cols, .slice p56 r50.At.length c57, .slice p59 r50.Start.length c60, .slice p62 r50.Row.length c63, .slice p65 r50.Val.length c66] 27 (0, 0)), pto b28 (.cells #[.int .i64 0, .int .i64 0, .slice none 0 0, .slice none 0 0, .slice none 0 0] 25 (0, 0))]) rfl (.mkS [14, 13, 12, 3, 2, 1] rfl rfl (.drop (.s (.s (.s .z))) (.drop (.s (.s (.s .z))) (.drop (.s (.s (.s .z))) (.region (.add rfl rfl rfl rfl (.sub (E' := [(1, _), (2, _), (3, _), (12, _), (13, _), (32, _)]) ⟨rfl, rfl, rfl, rfl, rfl, rfl, trivial⟩ (.skips 1 rfl (.nil' fun c w ho hs => ⟨(r986.2, w64 (s845 + 1)), hd, I982, _, _, _, le995, ho.sub ⟨rfl, rfl, rfl, rfl, rfl, rfl, trivial⟩, hs.pick (.c (.s (.s (.s .z))) (.c (.s (.s (.s .z))) (.c (.s .z) (.c (.s .z) (.c .z .n)))))⟩)))))))))
 refine .exitS [3, 2, 1] rfl rfl (.seq (.region (.fieldAddr underlying27 rfl sizeOf3 rfl (o := 0) rfl rfl rfl (.load1 isAgg3 rfl .z rfl rfl rfl (.fieldAddr underlying27 rfl sizeOf3 rfl (o := 1) rfl rfl rfl (.load1 isAgg3 rfl .z rfl rfl rfl (.load1 isAgg48 rfl (.s (.s .z)) rfl rfl rfl (.pub (.s (.s (.s .z))) fun I996 hl997 R998 => ?_))))))))
 have le999 := IH.le.trans le851 hl997
 have le1000 := IH.le.trans le852 hl997
 replace R58 := R58.mono hl997
 replace R61 := R61.mono hl997
 replace R64 := R64.mono hl997
 replace R67 := R67.mono hl997
 have hw1016 := W_csr_Of (I := I996) R998 hd
 refine .call call38 rfl hw1016 rfl rfl fun v1005 I1002 hl1003 hv1004 => ?_
 obtain ⟨r1001, p1007, c1008, p1010, c1011, p1013, c1014, rfl, R1009, R1012, R1015, hd⟩ := hv1004
 have le1017 := IH.le.trans le999 hl1003
 have le1018 := IH.le.trans le1000 hl1003
 replace R58 := R58.mono hl1003
 replace R61 := R61.mono hl1003
 replace R64 := R64.mono hl1003
 replace R67 := R67.mono hl1003
 replace R998 := R998.mono hl1003
 refine .skips 1 rfl (.extract rfl rfl rfl rfl (.extract rfl rfl rfl rfl (.allocA zeroValue25 rfl rfl fun b1019 => ?_)))
 refine .storeA sizeOf25 rfl rfl .z (.t (.t (.t (.t (.t .nil))))) rfl rfl (.skips 1 rfl (.nilS [7, 2] rfl rfl (.drop (.s .z) (.drop (.s (.s .z)) (.seq (.region (.loadW isAgg25 sizeOf25 rfl .z rfl rfl rfl (.storeA sizeOf25 rfl rfl (.s .z) (.t (.t (.t (.t (.t .nil))))) rfl rfl (.nilS [2] rfl rfl ?_)))))))))
 exact .drop .z (.ret (pretM (.s .z) results15 (.w isAgg25 sizeOf25 rfl .z rfl .n) le1017 ⟨r1001.1, _, _, _, _, _, _, rfl, R1009, R1012, R1015, hd⟩))

theorem W_dcsc_Many {I : IH} {a0 : Columns} {p1 : Option Addr} {c2 : Nat} {p4 : Option Addr} {c5 : Nat} {p7 : Option Addr} {c8 : Nat} {p10 : Option Addr} {c11 : Nat} {Q : Int → Prop} (R3 : RepSl eI64 I p1 c2 a0.At) (R6 : RepSl eI64 I p4 c5 a0.Start) (R9 : RepSl eI64 I p7 c8 a0.Row) (R12 : RepSl eI64 I p10 c11 a0.Val) (hd : dcsc_Many a0 Q) :
    PFun Tryz.prog 17 [.agg #[.int .i64 a0.Rows, .int .i64 a0.Cols, .slice p1 a0.At.length c2, .slice p4 a0.Start.length c5, .slice p7 a0.Row.length c8, .slice p10 a0.Val.length c11]] I (fun I_ v => ∃ r, v = .int .i64 r ∧ Q r) := by
 refine Fun.enter func17 rfl ntmps17 rfl (.c .n) fun w0 M => ?_
 refine .seq (.region (.boxA rfl rfl rfl fun b13 => ?_))
 refine .skips 1 rfl (.nilS [1] rfl rfl (.seq (.region (.loadW isAgg27 sizeOf27 rfl .z rfl rfl rfl ?_))))
 have hw33 := W_dcsc_sure (I := I) R3 R6 R9 R12 hd
 refine .call call24 rfl hw33 rfl rfl fun v19 I16 hl17 hv18 => ?_
 obtain ⟨r15, p21, c22, p24, c25, p27, c28, p30, c31, rfl, R23, R26, R29, R32, hd⟩ := hv18
 have le34 := IH.le.trans (.refl _) hl17
 replace R3 := R3.mono hl17
 replace R6 := R6.mono hl17
 replace R9 := R9.mono hl17
 replace R12 := R12.mono hl17
 exact .field1 underlying27 rfl isAgg22 rfl rfl rfl rfl (.len underlying22 rfl rfl rfl rfl (.skips 1 rfl (.nilS [2] rfl rfl (.drop .z (.ret (pret results17 (.t rfl .n) le34 ⟨(r15.At.length : Int), rfl, hd⟩))))))

theorem W_dcsc_Count {I : IH} {a0 : Columns} {p1 : Option Addr} {c2 : Nat} {p4 : Option Addr} {c5 : Nat} {p7 : Option Addr} {c8 : Nat} {p10 : Option Addr} {c11 : Nat} {Q : Int → Prop} (R3 : RepSl eI64 I p1 c2 a0.At) (R6 : RepSl eI64 I p4 c5 a0.Start) (R9 : RepSl eI64 I p7 c8 a0.Row) (R12 : RepSl eI64 I p10 c11 a0.Val) (hd : dcsc_Count a0 Q) :
    PFun Tryz.prog 19 [.agg #[.int .i64 a0.Rows, .int .i64 a0.Cols, .slice p1 a0.At.length c2, .slice p4 a0.Start.length c5, .slice p7 a0.Row.length c8, .slice p10 a0.Val.length c11]] I (fun I_ v => ∃ r, v = .int .i64 r ∧ Q r) := by
 refine Fun.enter func19 rfl ntmps19 rfl (.c .n) fun w0 M => ?_
 refine .seq (.region (.boxA rfl rfl rfl fun b13 => ?_))
 refine .skips 1 rfl (.nilS [1] rfl rfl (.seq (.region (.loadW isAgg27 sizeOf27 rfl .z rfl rfl rfl ?_))))
 have hw33 := W_dcsc_sure (I := I) R3 R6 R9 R12 hd
 refine .call call24 rfl hw33 rfl rfl fun v19 I16 hl17 hv18 => ?_
 obtain ⟨r15, p21, c22, p24, c25, p27, c28, p30, c31, rfl, R23, R26, R29, R32, hd⟩ := hv18
 have le34 := IH.le.trans (.refl _) hl17
 replace R3 := R3.mono hl17
 replace R6 := R6.mono hl17
 replace R9 := R9.mono hl17
 replace R12 := R12.mono hl17
 exact .field1 underlying27 rfl isAgg22 rfl rfl rfl rfl (.len underlying22 rfl rfl rfl rfl (.skips 1 rfl (.nilS [2] rfl rfl (.drop .z (.ret (pret results19 (.t rfl .n) le34 ⟨(r15.Row.length : Int), rfl, hd⟩))))))

theorem W_dcsc_Work {I : IH} {a0 : Columns} {a1 : List Int} {p1 : Option Addr} {c2 : Nat} {p4 : Option Addr} {c5 : Nat} {p7 : Option Addr} {c8 : Nat} {p10 : Option Addr} {c11 : Nat} {p13 : Option Addr} {c14 : Nat} {Q : Int → Prop} (R3 : RepSl eI64 I p1 c2 a0.At) (R6 : RepSl eI64 I p4 c5 a0.Start) (R9 : RepSl eI64 I p7 c8 a0.Row) (R12 : RepSl eI64 I p10 c11 a0.Val) (R15 : RepSl eI64 I p13 c14 a1) (hd : dcsc_Work a0 a1 Q) :
    PFun Tryz.prog 20 [.agg #[.int .i64 a0.Rows, .int .i64 a0.Cols, .slice p1 a0.At.length c2, .slice p4 a0.Start.length c5, .slice p7 a0.Row.length c8, .slice p10 a0.Val.length c11], .slice p13 a1.length c14] I (fun I_ v => ∃ r, v = .int .i64 r ∧ Q r) := by
 refine Fun.enter func20 rfl ntmps20 rfl (.c (.c .n)) fun w0 M => ?_
 refine .seq (.region (.boxA rfl rfl rfl fun b18 => ?_))
 refine .skips 1 rfl (.nilS [2, 1] rfl rfl (.seq (.region (.loadW isAgg27 sizeOf27 rfl .z rfl rfl rfl ?_))))
 have hw58 := W_dcsc_sure (I := I) R3 R6 R9 R12 hd
 refine .call call24 rfl hw58 rfl rfl fun v44 I41 hl42 hv43 => ?_
 obtain ⟨r40, p46, c47, p49, c50, p52, c53, p55, c56, rfl, R48, R51, R54, R57, hd⟩ := hv43
 have le59 := IH.le.trans (.refl _) hl42
 replace R3 := R3.mono hl42
 replace R6 := R6.mono hl42
 replace R9 := R9.mono hl42
 replace R12 := R12.mono hl42
 replace R15 := R15.mono hl42
 refine .storeA sizeOf27 rfl rfl .z (.t (.t (.t (.t (.t (.t .nil)))))) rfl rfl (.nilS [2, 1] rfl rfl (.seq (.region (.skips 1 rfl (.nilS [5, 2, 1] rfl rfl (.seq (.seq (.region (.skips 1 rfl ?_)))))))))
 refine .len underlying22 rfl rfl rfl rfl (.skips 1 rfl (.nilS [13, 12, 11, 5, 2] rfl rfl (.block (.loop hd (fun (s : Int × Int) c w => match s with | (s160, s161) => ∃ I_, IH.le I41 I_ ∧ Ok ⟨38, [], none⟩ [(2, .pointer (some ⟨b18, 0, none⟩)), (5, .int .i64 s160), (11, .slice p13 a1.length c14), (12, .int .i64 (a1.length : Int)), (13, .int .i64 s161)] c ∧ Sym w0 M I I_ [pto b18 (.cells #[.int .i64 r40.Rows, .int .i64 r40.Cols, .slice p46 r40.At.length c47, .slice p49 r40.Start.length c50, .slice p52 r40.Row.length c53, .slice p55 r40.Val.length c56] 27 (0, 0))] w) (fun c w ho hs => ⟨I41, (.refl _), ho.sub ⟨rfl, rfl, rfl, rfl, rfl, trivial⟩, hs.pick (.c .z .n)⟩) ?_))))
 rintro ⟨s160, s161⟩ next162 hd c w hst
 obtain ⟨I163, hl164, hok, hsym⟩ := hst
 have le165 := IH.le.trans le59 hl164
 have le166 := IH.le.trans (.refl _) hl164
 replace R15 := R15.mono hl164
 replace R48 := R48.mono hl164
 replace R51 := R51.mono hl164
 replace R54 := R54.mono hl164
 replace R57 := R57.mono hl164
 refine Cod.at hok hsym (.seq (.region (.lt rfl rfl rfl rfl (.nilS [14, 13, 12, 11, 5, 2] rfl rfl (.seq (.condP rfl hd (fun hb168 hd => ?_) fun hb168 hd => ?_))))))
 · refine .skipS [13, 12, 11, 5, 2] rfl rfl (.seq (.block (.seq (.region ?_))))
   obtain ⟨h178, x179, hx180, hd⟩ := hd
   obtain ⟨b181, o182, cs183, e184, hC185, hr186⟩ := R15.2 _ _ hx180
   cases hr186
   refine .ixa underlying22 sizeOf3 rfl e184 rfl h178 (idx_lt hx180 h178) rfl rfl (.ld1 (j := 0) isAgg3 hC185 rfl rfl rfl rfl rfl (.skips 1 rfl (.nilS [7, 13, 12, 11, 5, 2] rfl rfl (.seq (.region (.loadW isAgg27 sizeOf27 rfl .z rfl rfl rfl (.skips 1 rfl ?_)))))))
   have hw192 := W_dcsc_place (I := I163) R48 R51 R54 R57 hd
   refine .callP call25 rfl hw192 rfl rfl fun v193 hv194 => ?_
   obtain ⟨r191, rfl, hd⟩ := hv194
   refine .skips 1 rfl (.nilS [8, 13, 12, 11, 5, 2] rfl rfl (.seq (.region (.skips 1 rfl (.ge rfl rfl rfl rfl (.nilS [21, 8, 13, 12, 11, 5, 2] rfl rfl (.condP rfl hd (fun hb195 hd => ?_) fun hb195 hd => ?_)))))))
   · refine .draw [some 0, some 1, some 2, some 3, some 4, some 5, some 6, some 7, some 8, some 9, some 10, some 11, some 12, some 13] 14 MX (by kernel_rfl) (by kernel_rfl) (by kernel_rfl) (by kernel_rfl) (by kernel_rfl) (by kernel_rfl) (by kernel_rfl) (fun ex => (pto b18 (.cells #[.int .i64 r40.Rows, .int .i64 r40.Cols, .slice p46 r40.At.length c47, .slice p49 r40.Start.length c50, .slice p52 r40.Row.length c53, .slice p55 r40.Val.length c56] 27 (0, 0))) :: ex) (fun _ _ => (.s .z)) rfl (.fs [[]] rfl (by kernel_rfl) (.f [] rfl (by kernel_rfl) rfl rfl (fun ex => .fieldAddr underlying27 rfl sizeOf22 rfl (o := 3) rfl rfl rfl .mk) (.f [1] rfl (by kernel_rfl) rfl rfl (fun ex => .load1 isAgg22 rfl .z rfl rfl rfl .mk) (.fs [[]] rfl (by kernel_rfl) (.f [3] rfl (by kernel_rfl) rfl rfl (fun ex => .add rfl rfl rfl rfl .mk) ?_)))))
     obtain ⟨h196, x197, hx198, hd⟩ := hd
     obtain ⟨b199, o200, cs201, e202, hC203, hr204⟩ := R51.2 _ _ hx198
     cases hr204
     refine .f [2, 4] rfl (by kernel_rfl) rfl rfl (fun ex => .ixa underlying22 sizeOf3 rfl e202 rfl h196 (idx_lt hx198 h196) rfl rfl .mk) (.f [5] rfl (by kernel_rfl) rfl rfl (fun ex => .ld1 (j := 0) isAgg3 hC203 rfl rfl rfl rfl rfl .mk) (.f [] rfl (by kernel_rfl) rfl rfl (fun ex => .fieldAddr underlying27 rfl sizeOf22 rfl (o := 3) rfl rfl rfl .mk) (.f [7] rfl (by kernel_rfl) rfl rfl (fun ex => .load1 isAgg22 rfl .z rfl rfl rfl .mk) (.fs [[]] rfl (by kernel_rfl) ?_))))
     obtain ⟨h205, x206, hx207, hd⟩ := hd
     obtain ⟨b208, o209, cs210, e211, hC212, hr213⟩ := R51.2 _ _ hx207
     cases hr213
     refine .f [8, 9] rfl (by kernel_rfl) rfl rfl (fun ex => .ixa underlying22 sizeOf3 rfl e211 rfl h205 (idx_lt hx207 h205) rfl rfl .mk) (.f [10] rfl (by kernel_rfl) rfl rfl (fun ex => .ld1 (j := 0) isAgg3 hC212 rfl rfl rfl rfl rfl .mk) (.f [6, 11] rfl (by kernel_rfl) rfl rfl (fun ex => .sub' rfl rfl rfl rfl .mk) (.f [0, 12] rfl (by kernel_rfl) rfl rfl (fun ex => .add rfl rfl rfl rfl .mk) (.e 14 (by kernel_rfl) (by kernel_rfl) (by kernel_rfl) (.sub (E' := [(2, _), (11, _), (12, _), (13, _), (8, _), (21, _), (22, _), (23, _), (24, _), (25, _), (26, _), (27, _), (28, _), (29, _), (30, _), (31, _), (32, _), (33, _), (34, _), (35, _)]) ⟨rfl, rfl, rfl, rfl, rfl, rfl, rfl, rfl, rfl, rfl, rfl, rfl, rfl, rfl, rfl, rfl, rfl, rfl, rfl, rfl, trivial⟩ (.skips 1 rfl (.nilS [5, 13, 12, 11, 2] rfl rfl (.region (.add rfl rfl rfl rfl ?_)))))))))
     exact .sub (E' := [(2, _), (11, _), (12, _), (5, _), (36, _)]) ⟨rfl, rfl, rfl, rfl, rfl, trivial⟩ (.skips 1 rfl (.nil' fun c w ho hs => ⟨(w64 (s160 + (w64 (x197 - x206))), w64 (s161 + 1)), hd, I163, le166, ho.sub ⟨rfl, rfl, rfl, rfl, rfl, trivial⟩, hs.pick (.c .z .n)⟩))
   exact .skipS [13, 12, 11, 5, 2] rfl rfl (.region (.add rfl rfl rfl rfl (.sub (E' := [(2, _), (5, _), (11, _), (12, _), (36, _)]) ⟨rfl, rfl, rfl, rfl, rfl, trivial⟩ (.skips 1 rfl (.nil' fun c w ho hs => ⟨(s160, w64 (s161 + 1)), hd, I163, le166, ho.sub ⟨rfl, rfl, rfl, rfl, rfl, trivial⟩, hs.pick (.c .z .n)⟩)))))
 exact .exitS [5] rfl rfl (.drop .z (.seq (.region (.skips 2 rfl (.nilS [4] rfl rfl (.ret (pret results20 (.t rfl .n) le165 ⟨s160, rfl, hd⟩)))))))

theorem W_ref02_Is {I : IH} {a0 : Int}  {Q : Bool → Prop}  (hd : ref02_Is a0 Q) :
    PFun Tryz.prog 39 [.int .i64 a0] I (fun I_ v => ∃ r, v = .bool r ∧ Q r) := by
 refine Fun.enter func39 rfl ntmps39 rfl (.c .n) fun w0 M => ?_
 refine .seq (.region (.skips 1 rfl (.nilS [0] rfl rfl (.seq (.region (.skips 1 rfl (.ge rfl rfl rfl rfl (.skips 1 rfl ?_))))))))
 refine splitP hd (fun hb1 hd => ?_) fun hb1 hd => ?_
 · rw [hb1]
   exact .gyes rfl rfl rfl (.move rfl rfl rfl (.gyes rfl rfl rfl (.le' rfl rfl rfl rfl (.skips 2 rfl (.nilS [2] rfl rfl (.ret (pret results39 (.t rfl .n) (.refl _) ⟨(decide (a0 ≤ 5)), rfl, hd⟩)))))))
 rw [hb1]
 exact .skips 4 rfl (.nilS [2] rfl rfl (.ret (pret results39 (.t rfl .n) (.refl _) ⟨false, rfl, hd⟩)))

theorem W_ref05_below {I : IH} {a0 : Edge} {a1 : Edge}  {Q : Bool → Prop}  (hd : ref05_below a0 a1 Q) :
    PFun Tryz.prog 60 [.agg (encEdge a0).toArray, .agg (encEdge a1).toArray] I (fun I_ v => ∃ r, v = .bool r ∧ Q r) := by
 refine Fun.enter func60 rfl ntmps60 rfl (.c (.c .n)) fun w0 M => ?_
 refine .seq (.region (.boxA rfl rfl rfl fun b5 => ?_))
 refine .boxA rfl rfl rfl fun b7 => ?_
 refine .skips 1 rfl (.nilS [3, 2] rfl rfl (.seq (.region (.fieldAddr underlying67 rfl sizeOf3 rfl (o := 0) rfl rfl rfl (.load1 isAgg3 rfl (.s .z) rfl rfl rfl (.fieldAddr underlying67 rfl sizeOf3 rfl (o := 0) rfl rfl rfl (.load1 isAgg3 rfl .z rfl rfl rfl (.lt rfl rfl rfl rfl (.skips 1 rfl ?_)))))))))
 refine splitP hd (fun hb9 hd => ?_) fun hb9 hd => ?_
 · rw [hb9]
   refine .skips 6 rfl (.gnoU rfl rfl rfl rfl (.gnoU rfl rfl rfl rfl (.gnoU rfl rfl rfl rfl (.gnoU rfl rfl rfl rfl (.gnoU rfl rfl rfl rfl (.skips 3 rfl (.nilS [4] rfl rfl (.drop .z (.drop .z ?_)))))))))
   exact .ret (pret results60 (.t rfl .n) (.refl _) ⟨true, rfl, hd⟩)
 rw [hb9]
 refine .gyes rfl rfl rfl (.fieldAddr underlying67 rfl sizeOf3 rfl (o := 0) rfl rfl rfl (.gyes rfl rfl rfl (.load1 isAgg3 rfl (.s .z) rfl rfl rfl (.gyes rfl rfl rfl (.fieldAddr underlying67 rfl sizeOf3 rfl (o := 0) rfl rfl rfl (.gyes rfl rfl rfl (.load1 isAgg3 rfl .z rfl rfl rfl (.gyes rfl rfl rfl (.eq rfl rfl rfl rfl (.gyes rfl rfl rfl (.move rfl rfl rfl ?_)))))))))))
 refine splitP hd (fun hb10 hd => ?_) fun hb10 hd => ?_
 · rw [hb10]
   refine .gyes rfl rfl rfl (.fieldAddr underlying67 rfl sizeOf3 rfl (o := 1) rfl rfl rfl (.gyes rfl rfl rfl (.load1 isAgg3 rfl (.s .z) rfl rfl rfl (.gyes rfl rfl rfl (.fieldAddr underlying67 rfl sizeOf3 rfl (o := 1) rfl rfl rfl (.gyes rfl rfl rfl (.load1 isAgg3 rfl .z rfl rfl rfl (.gyes rfl rfl rfl (.lt rfl rfl rfl rfl (.gyes rfl rfl rfl (.pickT rfl rfl rfl rfl rfl (.skips 2 rfl (.nilS [4] rfl rfl (.drop .z (.drop .z ?_)))))))))))))))
   exact .ret (pret results60 (.t rfl .n) (.refl _) ⟨(decide (a0.To < a1.To)), rfl, hd⟩)
 rw [hb10]
 exact .skips 5 rfl (.gyes rfl rfl rfl (.pickF rfl rfl rfl rfl rfl (.skips 2 rfl (.nilS [4] rfl rfl (.drop .z (.drop .z (.ret (pret results60 (.t rfl .n) (.refl _) ⟨false, rfl, hd⟩))))))))

theorem W_ref01_Of {I : IH} {a0 : Int}  {Q : Wide → Prop}  (hd : ref01_Of a0 Q) :
    PFun Tryz.prog 61 [.int .i64 a0] I (fun I_ v => ∃ r, v = .agg (encWide r).toArray ∧ Q r) := by
 refine Fun.enter func61 rfl ntmps61 rfl (.c .n) fun w0 M => ?_
 refine .seq (.region (.allocA zeroValue86 rfl rfl fun b3 => ?_))
 refine .nilS [2, 0] rfl rfl (.seq (.seq (.region (.skips 1 rfl (.lt rfl rfl rfl rfl (.nilS [4, 2, 0] rfl rfl (.condP rfl hd (fun hb5 hd => ?_) fun hb5 hd => ?_)))))))
 · exact .seq (.region (.skips 1 rfl (.conv underlying2 underlying84 rfl rfl rfl (.build zeroValue86 underlying86 BI86 (.c rfl rfl rfl (.t .nil) (.c rfl rfl rfl (.s (.t .nil)) .n)) (by exact ⟨⟨_, _, rfl, rfl, rfl⟩, ⟨⟨_, _, rfl, rfl, rfl⟩, trivial⟩⟩) rfl rfl (.storeA sizeOf86 rfl rfl .z (.t (.t .nil)) rfl rfl (.nilS [2] rfl rfl (.ret (pret results61 (.w isAgg86 sizeOf86 rfl .z rfl .n) (.refl _) ⟨({ Hi := (-1), Lo := IntKind.wrap .u64 (a0) } : Wide), rfl, hd⟩))))))))
 exact .skipS [2, 0] rfl rfl (.seq (.region (.skips 1 rfl (.conv underlying2 underlying84 rfl rfl rfl (.build zeroValue86 underlying86 BI86 (.c rfl rfl rfl (.s (.t .nil)) .n) (by exact ⟨⟨_, _, rfl, rfl, rfl⟩, trivial⟩) rfl rfl (.storeA sizeOf86 rfl rfl .z (.t (.t .nil)) rfl rfl (.nilS [2] rfl rfl (.ret (pret results61 (.w isAgg86 sizeOf86 rfl .z rfl .n) (.refl _) ⟨({ Hi := 0, Lo := IntKind.wrap .u64 (a0) } : Wide), rfl, hd⟩)))))))))

theorem W_ref01_Compare {I : IH} {a0 : Wide} {a1 : Wide}  {Q : Int → Prop}  (hd : ref01_Compare a0 a1 Q) :
    PFun Tryz.prog 75 [.agg (encWide a0).toArray, .agg (encWide a1).toArray] I (fun I_ v => ∃ r, v = .int .i64 r ∧ Q r) := by
 refine Fun.enter func75 rfl ntmps75 rfl (.c (.c .n)) fun w0 M => ?_
 refine .seq (.region (.boxA rfl rfl rfl fun b5 => ?_))
 refine .boxA rfl rfl rfl fun b7 => ?_
 refine .skips 1 rfl (.nilS [3, 2] rfl rfl (.seq ?_))
 refine Cod.joinQ (σ := Unit) hd (fun (_ : Unit) c w => ∃ I_, IH.le I I_ ∧ Ok ⟨27, [], none⟩ [(2, .pointer (some ⟨b5, 0, none⟩)), (3, .pointer (some ⟨b7, 0, none⟩))] c ∧ Sym w0 M I I_ [pto b5 (.cells #[.int .i64 a0.Hi, .int .u64 a0.Lo] 86 (0, 0)), pto b7 (.cells #[.int .i64 a1.Hi, .int .u64 a1.Lo] 86 (0, 0))] w) (fun k15 hd => ?_) ?_
 · skip
   refine .seq (.region (.fieldAddr underlying86 rfl sizeOf2 rfl (o := 0) rfl rfl rfl (.load1 isAgg2 rfl (.s .z) rfl rfl rfl (.fieldAddr underlying86 rfl sizeOf2 rfl (o := 0) rfl rfl rfl (.load1 isAgg2 rfl .z rfl rfl rfl (.lt rfl rfl rfl rfl (.skips 1 rfl ?_)))))))
   refine splitP hd (fun hb16 hd => ?_) fun hb16 hd => ?_
   · rw [hb16]
     refine .skips 6 rfl (.gnoU rfl rfl rfl rfl (.gnoU rfl rfl rfl rfl (.gnoU rfl rfl rfl rfl (.gnoU rfl rfl rfl rfl (.gnoU rfl rfl rfl rfl (.skips 2 rfl (.nilS [23, 3, 2] rfl rfl (.condKT rfl rfl (.seq ?_)))))))))
     exact .region (.skips 1 rfl (.nilS [4] rfl rfl (.drop .z (.drop .z (.ret (pret results75 (.t rfl .n) (.refl _) ⟨(-1), rfl, hd⟩))))))
   rw [hb16]
   refine .gyes rfl rfl rfl (.fieldAddr underlying86 rfl sizeOf2 rfl (o := 0) rfl rfl rfl (.gyes rfl rfl rfl (.load1 isAgg2 rfl (.s .z) rfl rfl rfl (.gyes rfl rfl rfl (.fieldAddr underlying86 rfl sizeOf2 rfl (o := 0) rfl rfl rfl (.gyes rfl rfl rfl (.load1 isAgg2 rfl .z rfl rfl rfl (.gyes rfl rfl rfl (.eq rfl rfl rfl rfl (.gyes rfl rfl rfl (.move rfl rfl rfl ?_)))))))))))
   refine splitP hd (fun hb17 hd => ?_) fun hb17 hd => ?_
   · rw [hb17]
     refine .gyes rfl rfl rfl (.fieldAddr underlying86 rfl sizeOf84 rfl (o := 1) rfl rfl rfl (.gyes rfl rfl rfl (.load1 isAgg84 rfl (.s .z) rfl rfl rfl (.gyes rfl rfl rfl (.fieldAddr underlying86 rfl sizeOf84 rfl (o := 1) rfl rfl rfl (.gyes rfl rfl rfl (.load1 isAgg84 rfl .z rfl rfl rfl (.gyes rfl rfl rfl (.lt rfl rfl rfl rfl (.gyes rfl rfl rfl (.pickT rfl rfl rfl rfl rfl (.skips 1 rfl (.nilS [23, 3, 2] rfl rfl (.condP rfl hd (fun hb18 hd => ?_) fun hb18 hd => ?_))))))))))))))
     · exact .seq (.region (.skips 1 rfl (.nilS [4] rfl rfl (.drop .z (.drop .z (.ret (pret results75 (.t rfl .n) (.refl _) ⟨(-1), rfl, hd⟩)))))))
     exact .skip' fun c w ho hs => ⟨(), hd, I, (.refl _), ho.sub ⟨rfl, rfl, trivial⟩, hs.pick (.c (.s .z) (.c .z .n))⟩
   rw [hb17]
   exact .skips 5 rfl (.gyes rfl rfl rfl (.pickF rfl rfl rfl rfl rfl (.skips 1 rfl (.nilS [23, 3, 2] rfl rfl (.condKF rfl rfl (.skip' fun c w ho hs => ⟨(), hd, I, (.refl _), ho.sub ⟨rfl, rfl, trivial⟩, hs.pick (.c (.s .z) (.c .z .n))⟩))))))
 rintro ⟨⟩ hd c w hst
 obtain ⟨I19, hl20, hok, hsym⟩ := hst
 have le21 := IH.le.trans (.refl _) hl20
 refine Cod.at hok hsym (.seq (.seq (.region (.loadW isAgg86 sizeOf86 rfl .z rfl rfl rfl (.loadW isAgg86 sizeOf86 rfl (.s .z) rfl rfl rfl (.eqV rfl rfl (EQ86 a0 a1) (EG86 _ _ _ _ _) rfl rfl rfl (.nilS [26] rfl rfl (.drop .z (.drop .z ?_)))))))))
 refine .condP rfl hd (fun hb22 hd => ?_) fun hb22 hd => ?_
 · exact .seq (.region (.skips 1 rfl (.nilS [4] rfl rfl (.ret (pret results75 (.t rfl .n) le21 ⟨0, rfl, hd⟩)))))
 exact .skipS [] rfl rfl (.seq (.region (.skips 1 rfl (.nilS [4] rfl rfl (.ret (pret results75 (.t rfl .n) le21 ⟨1, rfl, hd⟩))))))

theorem W_ref02_truth {I : IH} {a0 : Bool}  {Q : Wide → Prop}  (hd : ref02_truth a0 Q) :
    PFun Tryz.prog 76 [.bool a0] I (fun I_ v => ∃ r, v = .agg (encWide r).toArray ∧ Q r) := by
 refine Fun.enter func76 rfl ntmps76 rfl (.c .n) fun w0 M => ?_
 refine .seq (.region (.allocA zeroValue86 rfl rfl fun b3 => ?_))
 refine .nilS [2, 0] rfl rfl (.seq (.seq (.region (.skips 1 rfl (.nilS [3, 2] rfl rfl (.condP rfl hd (fun hb5 hd => ?_) fun hb5 hd => ?_))))))
 · exact .seq (.region (.build zeroValue86 underlying86 BI86 (.c rfl rfl rfl (.s (.t .nil)) .n) (by exact ⟨⟨_, _, rfl, rfl, rfl⟩, trivial⟩) rfl rfl (.storeA sizeOf86 rfl rfl .z (.t (.t .nil)) rfl rfl (.nilS [2] rfl rfl (.ret (pret results76 (.w isAgg86 sizeOf86 rfl .z rfl .n) (.refl _) ⟨({ Hi := 0, Lo := 1 } : Wide), rfl, hd⟩))))))
 exact .skipS [2] rfl rfl (.seq (.region (.build zeroValue86 underlying86 BI86 .n (by exact trivial) rfl rfl (.storeA sizeOf86 rfl rfl .z (.t (.t .nil)) rfl rfl (.nilS [2] rfl rfl (.ret (pret results76 (.w isAgg86 sizeOf86 rfl .z rfl .n) (.refl _) ⟨({ Hi := 0, Lo := 0 } : Wide), rfl, hd⟩)))))))

theorem W_ref01_Add {I : IH} {a0 : Wide} {a1 : Wide}  {Q : Wide → Prop}  (hd : ref01_Add a0 a1 Q) :
    PFun Tryz.prog 77 [.agg (encWide a0).toArray, .agg (encWide a1).toArray] I (fun I_ v => ∃ r, v = .agg (encWide r).toArray ∧ Q r) := by
 refine Fun.enter func77 rfl ntmps77 rfl (.c (.c .n)) fun w0 M => ?_
 refine .seq (.region (.boxA rfl rfl rfl fun b7 => ?_))
 refine .boxA rfl rfl rfl fun b9 => ?_
 refine .allocA zeroValue86 rfl rfl fun b11 => ?_
 refine .nilS [4, 3, 2] rfl rfl (.seq (.region (.fieldAddr underlying86 rfl sizeOf84 rfl (o := 1) rfl rfl rfl (.load1 isAgg84 rfl (.s (.s .z)) rfl rfl rfl (.fieldAddr underlying86 rfl sizeOf84 rfl (o := 1) rfl rfl rfl (.load1 isAgg84 rfl (.s .z) rfl rfl rfl (.add rfl rfl rfl rfl (.skips 1 rfl (.nilS [5, 4, 3, 2] rfl rfl ?_)))))))))
 refine .seq (.region (.fieldAddr underlying86 rfl sizeOf2 rfl (o := 0) rfl rfl rfl (.load1 isAgg2 rfl (.s (.s .z)) rfl rfl rfl (.fieldAddr underlying86 rfl sizeOf2 rfl (o := 0) rfl rfl rfl (.load1 isAgg2 rfl (.s .z) rfl rfl rfl (.add rfl rfl rfl rfl (.skips 1 rfl (.nilS [6, 5, 4, 2] rfl rfl (.drop (.s .z) ?_)))))))))
 refine .seq (.seq (.region (.skips 1 rfl (.fieldAddr underlying86 rfl sizeOf84 rfl (o := 1) rfl rfl rfl (.load1 isAgg84 rfl (.s .z) rfl rfl rfl (.lt rfl rfl rfl rfl (.nilS [20, 6, 5, 4] rfl rfl (.drop (.s .z) (.condP rfl hd (fun hb13 hd => ?_) fun hb13 hd => ?_)))))))))
 · refine .region (.skips 1 rfl (.add rfl rfl rfl rfl (.sub (E' := [(4, _), (5, _), (20, _), (21, _), (22, _)]) ⟨rfl, rfl, rfl, rfl, rfl, trivial⟩ (.skips 1 rfl (.nilS [6, 5, 4] rfl rfl (.seq (.region (.skips 2 rfl (.build zeroValue86 underlying86 BI86 (.c rfl rfl rfl (.t .nil) (.c rfl rfl rfl (.s (.t .nil)) .n)) (by exact ⟨⟨_, _, rfl, rfl, rfl⟩, ⟨⟨_, _, rfl, rfl, rfl⟩, trivial⟩⟩) rfl rfl ?_)))))))))
   exact .storeA sizeOf86 rfl rfl .z (.t (.t .nil)) rfl rfl (.nilS [4] rfl rfl (.ret (pret results77 (.w isAgg86 sizeOf86 rfl .z rfl .n) (.refl _) ⟨({ Hi := w64 ((w64 (a0.Hi + a1.Hi)) + 1), Lo := IntKind.wrap .u64 (a0.Lo + a1.Lo) } : Wide), rfl, hd⟩)))
 exact .skipS [6, 5, 4] rfl rfl (.seq (.region (.skips 2 rfl (.build zeroValue86 underlying86 BI86 (.c rfl rfl rfl (.t .nil) (.c rfl rfl rfl (.s (.t .nil)) .n)) (by exact ⟨⟨_, _, rfl, rfl, rfl⟩, ⟨⟨_, _, rfl, rfl, rfl⟩, trivial⟩⟩) rfl rfl (.storeA sizeOf86 rfl rfl .z (.t (.t .nil)) rfl rfl (.nilS [4] rfl rfl (.ret (pret results77 (.w isAgg86 sizeOf86 rfl .z rfl .n) (.refl _) ⟨({ Hi := w64 (a0.Hi + a1.Hi), Lo := IntKind.wrap .u64 (a0.Lo + a1.Lo) } : Wide), rfl, hd⟩))))))))

theorem W_ref02_Add {I : IH} {a0 : Int} {a1 : Wide} {a2 : Wide}  {Q : Wide → Prop}  (hd : ref02_Add a0 a1 a2 Q) :
    PFun Tryz.prog 62 [.int .i64 a0, .agg (encWide a1).toArray, .agg (encWide a2).toArray] I (fun I_ v => ∃ r, v = .agg (encWide r).toArray ∧ Q r) := by
 refine Fun.enter func62 rfl ntmps62 rfl (.c (.c (.c .n))) fun w0 M => ?_
 refine .seq (.region (.boxA rfl rfl rfl fun b7 => ?_))
 refine .boxA rfl rfl rfl fun b9 => ?_
 refine .allocA zeroValue86 rfl rfl fun b11 => ?_
 refine .nilS [6, 5, 4, 0] rfl rfl (.seq (.region (.skips 1 rfl (.nilS [7, 6, 5, 4] rfl rfl (.block (.seq ?_))))))
 refine Cod.joinQ (σ := Bool) hd (fun (s17 : Bool) c w => ∃ I_, IH.le I I_ ∧ Ok ⟨35, [], none⟩ [(4, .pointer (some ⟨b7, 0, none⟩)), (5, .pointer (some ⟨b9, 0, none⟩)), (6, .pointer (some ⟨b11, 0, none⟩)), (7, .int .i64 a0), (9, .bool s17)] c ∧ Sym w0 M I I_ [pto b7 (.cells #[.int .i64 a1.Hi, .int .u64 a1.Lo] 86 (0, 0)), pto b9 (.cells #[.int .i64 a2.Hi, .int .u64 a2.Lo] 86 (0, 0)), pto b11 (.cells #[.int .i64 0, .int .u64 0] 86 (0, 0))] w) (fun k18 hd => ?_) ?_
 · skip
   refine .seq (.region (.eq rfl rfl rfl rfl (.skips 1 rfl (.nilS [9, 7, 6, 5, 4] rfl rfl (.condP rfl hd (fun hb19 hd => ?_) fun hb19 hd => ?_)))))
   · exact .skip' fun c w ho hs => ⟨(a0 == 1), hd, I, (.refl _), ho.sub ⟨rfl, rfl, rfl, rfl, rfl, trivial⟩, hs.pick (.c (.s (.s .z)) (.c (.s .z) (.c .z .n)))⟩
   refine .seq (.region (.eq rfl rfl rfl rfl (.sub (E' := [(4, _), (5, _), (6, _), (7, _), (11, _)]) ⟨rfl, rfl, rfl, rfl, rfl, trivial⟩ (.skips 1 rfl (.nilS [9, 7, 6, 5, 4] rfl rfl (.condP rfl hd (fun hb20 hd => ?_) fun hb20 hd => ?_))))))
   · exact .skip' fun c w ho hs => ⟨(a0 == 3), hd, I, (.refl _), ho.sub ⟨rfl, rfl, rfl, rfl, rfl, trivial⟩, hs.pick (.c (.s (.s .z)) (.c (.s .z) (.c .z .n)))⟩
   exact .region (.eq rfl rfl rfl rfl (.sub (E' := [(4, _), (5, _), (6, _), (7, _), (12, _)]) ⟨rfl, rfl, rfl, rfl, rfl, trivial⟩ (.skips 1 rfl (.nil' fun c w ho hs => ⟨(a0 == 4), hd, I, (.refl _), ho.sub ⟨rfl, rfl, rfl, rfl, rfl, trivial⟩, hs.pick (.c (.s (.s .z)) (.c (.s .z) (.c .z .n)))⟩))))
 rintro s17 hd c w hst
 obtain ⟨I21, hl22, hok, hsym⟩ := hst
 have le23 := IH.le.trans (.refl _) hl22
 refine Cod.at hok hsym (.condP rfl hd (fun hb24 hd => ?_) fun hb24 hd => ?_)
 · refine .seq (.seq (.region (.loadW isAgg86 sizeOf86 rfl (.s .z) rfl rfl rfl (.loadW isAgg86 sizeOf86 rfl .z rfl rfl rfl ?_))))
   have hw26 := W_ref01_Compare (I := I21) hd
   refine .callP call75 rfl hw26 rfl rfl fun v27 hv28 => ?_
   obtain ⟨r25, rfl, hd⟩ := hv28
   refine .lt rfl rfl rfl rfl (.nilS [16, 6, 5, 4] rfl rfl (.condP rfl hd (fun hb29 hd => ?_) fun hb29 hd => ?_))
   · exact .seq (.region (.loadW isAgg86 sizeOf86 rfl (.s .z) rfl rfl rfl (.storeA sizeOf86 rfl rfl (.s (.s .z)) (.t (.t .nil)) rfl rfl (.nilS [6] rfl rfl (.drop .z (.drop .z (.ret (pret results62 (.w isAgg86 sizeOf86 rfl .z rfl .n) le23 ⟨a2, rfl, hd⟩))))))))
   exact .skipS [6, 4] rfl rfl (.drop (.s .z) (.seq (.region (.loadW isAgg86 sizeOf86 rfl .z rfl rfl rfl (.storeA sizeOf86 rfl rfl (.s .z) (.t (.t .nil)) rfl rfl (.nilS [6] rfl rfl (.drop .z (.ret (pret results62 (.w isAgg86 sizeOf86 rfl .z rfl .n) le23 ⟨a1, rfl, hd⟩)))))))))
 refine .seq (.region (.eq rfl rfl rfl rfl (.skips 1 rfl (.nilS [19, 7, 6, 5, 4] rfl rfl (.condP rfl hd (fun hb30 hd => ?_) fun hb30 hd => ?_)))))
 · refine .seq (.region (.loadW isAgg86 sizeOf86 rfl .z rfl rfl rfl (.build zeroValue86 underlying86 BI86 .n (by exact trivial) rfl rfl (.neV rfl rfl (EQ86 a1 ({ Hi := 0, Lo := 0 } : Wide)) (EG86 _ _ _ _ _) rfl rfl rfl (.skips 1 rfl ?_)))))
   refine splitP hd (fun hb31 hd => ?_) fun hb31 hd => ?_
   · rw [hb31]
     refine .skips 4 rfl ?_
     have hw33 := W_ref02_truth (I := I21) hd
     refine .callP call76 rfl hw33 rfl rfl fun v34 hv35 => ?_
     obtain ⟨r32, rfl, hd⟩ := hv35
     exact .storeA sizeOf86 rfl rfl (.s (.s .z)) (.t (.t .nil)) rfl rfl (.nilS [6] rfl rfl (.drop .z (.drop .z (.ret (pret results62 (.w isAgg86 sizeOf86 rfl .z rfl .n) le23 ⟨r32, rfl, hd⟩)))))
   rw [hb31]
   refine .gyes rfl rfl rfl (.loadW isAgg86 sizeOf86 rfl (.s .z) rfl rfl rfl (.gyes rfl rfl rfl (.build zeroValue86 underlying86 BI86 .n (by exact trivial) rfl rfl (.gyes rfl rfl rfl (.neV rfl rfl (EQ86 a2 ({ Hi := 0, Lo := 0 } : Wide)) (EG86 _ _ _ _ _) rfl rfl rfl (.skips 1 rfl ?_))))))
   have hw37 := W_ref02_truth (I := I21) hd
   refine .callP call76 rfl hw37 rfl rfl fun v38 hv39 => ?_
   obtain ⟨r36, rfl, hd⟩ := hv39
   exact .storeA sizeOf86 rfl rfl (.s (.s .z)) (.t (.t .nil)) rfl rfl (.nilS [6] rfl rfl (.drop .z (.drop .z (.ret (pret results62 (.w isAgg86 sizeOf86 rfl .z rfl .n) le23 ⟨r36, rfl, hd⟩)))))
 refine .seq (.region (.eq rfl rfl rfl rfl (.skips 1 rfl (.nilS [30, 6, 5, 4] rfl rfl (.condP rfl hd (fun hb40 hd => ?_) fun hb40 hd => ?_)))))
 · refine .seq (.region (.loadW isAgg86 sizeOf86 rfl .z rfl rfl rfl (.loadW isAgg86 sizeOf86 rfl (.s .z) rfl rfl rfl ?_)))
   have hw42 := W_ref01_Add (I := I21) hd
   refine .callP call77 rfl hw42 rfl rfl fun v43 hv44 => ?_
   obtain ⟨r41, rfl, hd⟩ := hv44
   exact .storeA sizeOf86 rfl rfl (.s (.s .z)) (.t (.t .nil)) rfl rfl (.nilS [6] rfl rfl (.drop .z (.drop .z (.ret (pret results62 (.w isAgg86 sizeOf86 rfl .z rfl .n) le23 ⟨r41, rfl, hd⟩)))))
 exact .seq (.region (.build zeroValue86 underlying86 BI86 .n (by exact trivial) rfl rfl (.storeA sizeOf86 rfl rfl (.s (.s .z)) (.t (.t .nil)) rfl rfl (.nilS [6] rfl rfl (.drop .z (.drop .z (.ret (pret results62 (.w isAgg86 sizeOf86 rfl .z rfl .n) le23 ⟨({ Hi := 0, Lo := 0 } : Wide), rfl, hd⟩))))))))

end Go.Proofs.YtjobeiikppmidaaGreat
