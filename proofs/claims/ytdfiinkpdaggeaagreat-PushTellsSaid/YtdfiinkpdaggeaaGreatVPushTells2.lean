/- The walks (printed by a program of ours). -/
import Derived.Test.YtdfiinkpdaggeaaGreatVPushTells1
namespace Go.Proofs.YtdfiinkpdaggeaaGreat
open Go Go.Fw
set_option linter.unusedVariables false
set_option linter.unusedSimpArgs false
set_option maxRecDepth 8000
set_option maxHeartbeats 1000000
open Tryz
theorem W_ref08_Column {I : IH} {a0 : Columns} {a1 : Int} {p1 : Option Addr} {c2 : Nat} {p4 : Option Addr} {c5 : Nat} {p7 : Option Addr} {c8 : Nat} {p10 : Option Addr} {c11 : Nat} {Q : (List Item) → Prop} (R3 : RepSl eI64 I p1 c2 a0.At) (R6 : RepSl eI64 I p4 c5 a0.Start) (R9 : RepSl eI64 I p7 c8 a0.Row) (R12 : RepSl eI64 I p10 c11 a0.Val) (hd : ref08_Column a0 a1 Q) :
    PFun Tryz.prog 96 [.agg #[.int .i64 a0.Rows, .int .i64 a0.Cols, .slice p1 a0.At.length c2, .slice p4 a0.Start.length c5, .slice p7 a0.Row.length c8, .slice p10 a0.Val.length c11], .int .i64 a1] I (fun I_ v => ∃ r p13 c14, v = .slice p13 r.length c14 ∧ RepSl eItem I_ p13 c14 r ∧ Q r) := by
 refine Fun.enter func96 r ntmps96 r (.c (.c .n)) fun w0 M => ?_
 refine .seq (.region (.boxA r r r fun b18 => ?_))
 refine .skips 1 r (.nilS [2, 1] r r (.seq (.region (.loadW isAgg32 sizeOf32 r .z r r r ?_))))
 have hw58 := W_ref08_Sure (I := I) R3 R6 R9 R12 hd
 refine .call call86 r hw58 r r fun v44 I41 hl42 hv43 => ?_
 obtain ⟨r40, p46, c47, p49, c50, p52, c53, p55, c56, rfl, R48, R51, R54, R57, hd⟩ := hv43
 have le59 := IH.le.trans (.refl _) hl42
 replace R3 := R3.mono hl42
 replace R6 := R6.mono hl42
 replace R9 := R9.mono hl42
 replace R12 := R12.mono hl42
 refine .storeA sizeOf32 r r .z (.t (.t (.t (.t (.t (.t .nil)))))) r r (.nilS [2, 1] r r (.seq (.region (.skips 1 r (.nilS [5, 2, 1] r r (.seq (.seq (.region (.skips 1 r ?_)))))))))
 refine .nilS [6, 5, 2, 1] r r (.block (.own0 eItem 67 (.loop hd (fun (s : (List Item) × Int) c w => match s with | (s560, s564) => ∃ I_ p561 c562, IH.le I41 I_ ∧ Ok ⟨64, [], none⟩ [(1, .int .i64 a1), (2, .pointer (some ⟨b18, 0, none⟩)), (5, .slice p561 s560.length c562), (6, .int .i64 s564)] c ∧ Sym w0 M I I_ [pto b18 (.cells #[.int .i64 r40.Rows, .int .i64 r40.Cols, .slice p46 r40.At.length c47, .slice p49 r40.Start.length c50, .slice p52 r40.Row.length c53, .slice p55 r40.Val.length c56] 32 (0, 0)), OwnSl eItem 67 p561 c562 s560] w) (fun c w ho hs => ⟨I41, _, _, (.refl _), ho.sub ⟨r, r, r, r, trivial⟩, hs.pick (.c (.s .z) (.c .z .n))⟩) ?_)))
 rintro ⟨s560, s564⟩ next566 hd c w hst
 obtain ⟨I567, p561, c562, hl568, hok, hsym⟩ := hst
 have le569 := IH.le.trans le59 hl568
 have le570 := IH.le.trans (.refl _) hl568
 replace R48 := R48.mono hl568
 replace R51 := R51.mono hl568
 replace R54 := R54.mono hl568
 replace R57 := R57.mono hl568
 refine Cod.at hok hsym (.seq (.seq (.region (.skips 1 r (.fieldAddr underlying32 r sizeOf29 r (o := 2) r r r (.load1 isAgg29 r .z r r r (.len underlying29 r r r r (.lt r r r r (.skips 1 r ?_)))))))))
 refine splitP hd (fun hb573 hd => ?_) fun hb573 hd => ?_
 · rw [hb573]
   refine .gyes r r r (.move r r r (.gyes r r r (.add r r r r (.gyes r r r (.fieldAddr underlying32 r sizeOf29 r (o := 3) r r r (.gyes r r r (.load1 isAgg29 r .z r r r (.gyes r r r (.len underlying29 r r r r (.gyes r r r (.lt r r r r (.skips 1 r (.nilS [22, 6, 5, 2, 1] r r (.condP r hd (fun hb574 hd => ?_) fun hb574 hd => ?_))))))))))))))
   · refine .skipS [6, 5, 2, 1] r r (.seq (.block (.seq (.region (.fieldAddr underlying32 r sizeOf29 r (o := 3) r r r (.load1 isAgg29 r .z r r r (.skips 1 r ?_)))))))
     obtain ⟨h584, x585, hx586, hd⟩ := hd
     obtain ⟨b587, o588, cs589, e590, hC591, hr592⟩ := R51.2 _ _ hx586
     cases hr592
     refine .ixa underlying29 sizeOf3 r e590 r h584 (idx_lt hx586 h584) r r (.ld1 (j := 0) isAgg3 hC591 r r r r r (.skips 1 r (.nilS [7, 6, 5, 2, 1] r r (.block (.loop hd (fun (s : (List Item) × Int) c w => match s with | (s738, s742) => ∃ I_ p739 c740, IH.le I567 I_ ∧ Ok ⟨64, [], none⟩ [(1, .int .i64 a1), (2, .pointer (some ⟨b18, 0, none⟩)), (5, .slice p739 s738.length c740), (6, .int .i64 s564), (7, .int .i64 s742)] c ∧ Sym w0 M I I_ [pto b18 (.cells #[.int .i64 r40.Rows, .int .i64 r40.Cols, .slice p46 r40.At.length c47, .slice p49 r40.Start.length c50, .slice p52 r40.Row.length c53, .slice p55 r40.Val.length c56] 32 (0, 0)), OwnSl eItem 67 p739 c740 s738] w) (fun c w ho hs => ⟨I567, _, _, (.refl _), ho.sub ⟨r, r, r, r, r, trivial⟩, hs.pick (.c .z (.c .z .n))⟩) ?_)))))
     rintro ⟨s738, s742⟩ next743 hd c w hst
     obtain ⟨I744, p739, c740, hl745, hok, hsym⟩ := hst
     have le746 := IH.le.trans le569 hl745
     have le747 := IH.le.trans le570 hl745
     have le748 := IH.le.trans (.refl _) hl745
     replace R48 := R48.mono hl745
     replace R51 := R51.mono hl745
     replace R54 := R54.mono hl745
     replace R57 := R57.mono hl745
     refine Cod.at hok hsym (.seq (.seq (.region (.skips 1 r (.fieldAddr underlying32 r sizeOf29 r (o := 3) r r r (.load1 isAgg29 r .z r r r (.skips 1 r (.add r r r r ?_))))))))
     obtain ⟨h769, x770, hx771, hd⟩ := hd
     obtain ⟨b772, o773, cs774, e775, hC776, hr777⟩ := R51.2 _ _ hx771
     cases hr777
     refine .ixa underlying29 sizeOf3 r e775 r h769 (idx_lt hx771 h769) r r (.ld1 (j := 0) isAgg3 hC776 r r r r r (.lt r r r r (.skips 1 r ?_)))
     refine splitP hd (fun hb778 hd => ?_) fun hb778 hd => ?_
     · rw [hb778]
       refine .gyes r r r (.fieldAddr underlying32 r sizeOf29 r (o := 2) r r r (.gyes r r r (.load1 isAgg29 r .z r r r (.gyes r r r (.move r r r ?_)))))
       obtain ⟨h779, x780, hx781, hd⟩ := hd
       obtain ⟨b782, o783, cs784, e785, hC786, hr787⟩ := R48.2 _ _ hx781
       cases hr787
       refine .gyes r r r (.ixa underlying29 sizeOf3 r e785 r h779 (idx_lt hx781 h779) r r (.gyes r r r (.ld1 (j := 0) isAgg3 hC786 r r r r r (.gyes r r r (.move r r r (.gyes r r r (.eq r r r r (.skips 1 r (.nilS [46, 7, 6, 5, 2, 1] r r (.condP r hd (fun hb788 hd => ?_) fun hb788 hd => ?_))))))))))
       · refine .skipS [7, 6, 5, 2, 1] r r (.seq (.block (.ownF (.s .z) fun hne789 => ?_)))
         refine .draw [some 0, some 1, some 2, some 3, some 4, some 5, some 6, some 7, some 8, some 9, some 10, some 11, some 12, some 13] 14 MX (by kernel_rfl) (by kernel_rfl) (by kernel_rfl) (by kernel_rfl) (by kernel_rfl) (by kernel_rfl) (by kernel_rfl) (fun ex => (pto b18 (.cells #[.int .i64 r40.Rows, .int .i64 r40.Cols, .slice p46 r40.At.length c47, .slice p49 r40.Start.length c50, .slice p52 r40.Row.length c53, .slice p55 r40.Val.length c56] 32 (0, 0))) :: (OwnSl eItem 67 p739 c740 s738) :: ex) (fun _ _ => (.s (.s .z))) r (.fs [[]] r (by kernel_rfl) (.f [] r (by kernel_rfl) r r (fun ex => .fieldAddr underlying32 r sizeOf29 r (o := 4) r r r .mk) (.f [1] r (by kernel_rfl) r r (fun ex => .load1 isAgg29 r .z r r r .mk) (.fs [[]] r (by kernel_rfl) ?_))))
         obtain ⟨h790, x791, hx792, hd⟩ := hd
         obtain ⟨b793, o794, cs795, e796, hC797, hr798⟩ := R54.2 _ _ hx792
         cases hr798
         refine .f [2, 3] r (by kernel_rfl) r r (fun ex => .ixa underlying29 sizeOf3 r e796 r h790 (idx_lt hx792 h790) r r .mk) (.f [4] r (by kernel_rfl) r r (fun ex => .ld1 (j := 0) isAgg3 hC797 r r r r r .mk) (.f [] r (by kernel_rfl) r r (fun ex => .fieldAddr underlying32 r sizeOf30 r (o := 5) r r r .mk) (.f [6] r (by kernel_rfl) r r (fun ex => .load1 isAgg30 r .z r r r .mk) (.fs [[]] r (by kernel_rfl) ?_))))
         obtain ⟨h799, x800, hx801, hd⟩ := hd
         obtain ⟨b802, o803, cs804, e805, hC806, hr807⟩ := R57.2 _ _ hx801
         cases hr807
         refine .f [7, 8] r (by kernel_rfl) r r (fun ex => .ixa underlying30 sizeOf2 r e805 r h799 (idx_lt hx801 h799) r r .mk) (.f [9] r (by kernel_rfl) r r (fun ex => .ld1 (j := 0) isAgg2 hC806 r r r r r .mk) (.f [5, 10] r (by kernel_rfl) r r (fun ex => .build zeroValue67 underlying67 BI67 (.c r r r (.t .nil) (.c r r r (.s (.t .nil)) .n)) (by exact ⟨⟨_, _, r, r, r⟩, ⟨⟨_, _, r, r, r⟩, trivial⟩⟩) r r .mk) (.w [0] [[], [11], [10, 11], [9, 10, 11], [9, 10, 11], [7, 9, 10, 11], [11], [5, 11], [4, 5, 11], [4, 5, 11], [2, 4, 5, 11]] [11] r (by kernel_rfl) (by kernel_rfl) (by kernel_rfl) ((dropE_kept r r)) (.inr (dropE_kept r r)) fun ex => ?_)))
         refine .buildSlice 1 underlying25 sizeOf67 zeroValue67 r r (.c r r r .n) r r fun b808 => ?_
         refine .some (fun ex => (pto b808 (.cells #[.int .i64 x791, .int .i64 x800] 67 (0, 0))) :: (pto b18 (.cells #[.int .i64 r40.Rows, .int .i64 r40.Cols, .slice p46 r40.At.length c47, .slice p49 r40.Start.length c50, .slice p52 r40.Row.length c53, .slice p55 r40.Val.length c56] 32 (0, 0))) :: (OwnSl eItem 67 p739 c740 s738) :: ex) r (fun _ _ => (.s (.s (.s .z)))) r (.ccs [[]] r r (by kernel_rfl) trivial) (.w [] [[]] [0, 12] r (by kernel_rfl) (by kernel_rfl) (by kernel_rfl) ((dropE_kept r r)) (.inr (dropE_kept r r)) fun ex => ?_)
         obtain ⟨hl810, hd⟩ := hd
         refine .append (ys := [({ At := x791, Val := x800 } : Item)]) 16 (.s (.s .z)) underlying25 underlying25 IN67 r r r r r r r r r (.box .z (.one r) r) hl810 r r fun p811 c812 => ?_
         refine .some (fun ex => (OwnSl eItem 67 p811 c812 (s738 ++ ([({ At := x791, Val := x800 } : Item)]))) :: (pto b808 (.cells #[.int .i64 x791, .int .i64 x800] 67 (0, 0))) :: (pto b18 (.cells #[.int .i64 r40.Rows, .int .i64 r40.Cols, .slice p46 r40.At.length c47, .slice p49 r40.Start.length c50, .slice p52 r40.Row.length c53, .slice p55 r40.Val.length c56] 32 (0, 0))) :: ex) r (fun _ _ => (.s (.s (.s .z)))) r trivial (.e 14 (by kernel_rfl) (by kernel_rfl) (by kernel_rfl) (.sub (E' := [(1, _), (2, _), (6, _), (7, _), (49, _), (50, _), (51, _), (52, _), (53, _), (54, _), (55, _), (56, _), (57, _), (58, _), (59, _), (60, _), (61, _), (62, _)]) ⟨r, r, r, r, r, r, r, r, r, r, r, r, r, r, r, r, r, r, trivial⟩ (.skips 1 r (.nilS [5, 7, 6, 2, 1] r r (.drop (.s .z) (.region (.skips 1 r (.add r r r r (.sub (E' := [(1, _), (2, _), (6, _), (5, _), (47, _), (48, _)]) ⟨r, r, r, r, r, r, trivial⟩ ?_)))))))))
         exact .skips 1 r (.nil' fun c w ho hs => ⟨((s738 ++ ([({ At := x791, Val := x800 } : Item)])), w64 (s742 + 1)), hd, I744, _, _, le748, ho.sub ⟨r, r, r, r, r, trivial⟩, hs.pick (.c (.s .z) (.c .z .n))⟩)
       exact .exitS [6, 5, 2, 1] r r (.region (.skips 1 r (.add r r r r (.sub (E' := [(1, _), (2, _), (5, _), (23, _), (24, _)]) ⟨r, r, r, r, r, trivial⟩ (.skips 1 r (.nil' fun c w ho hs => ⟨(s738, w64 (s564 + 1)), hd, I744, _, _, le747, ho.sub ⟨r, r, r, r, trivial⟩, hs.pick (.c .z (.c .z .n))⟩))))))
     rw [hb778]
     exact .skips 8 r (.nilS [46, 7, 6, 5, 2, 1] r r (.condKF r r (.exitS [6, 5, 2, 1] r r (.region (.skips 1 r (.add r r r r (.sub (E' := [(1, _), (2, _), (5, _), (23, _), (24, _)]) ⟨r, r, r, r, r, trivial⟩ (.skips 1 r (.nil' fun c w ho hs => ⟨(s738, w64 (s564 + 1)), hd, I744, _, _, le747, ho.sub ⟨r, r, r, r, trivial⟩, hs.pick (.c .z (.c .z .n))⟩)))))))))
   refine .exitS [5] r r (.drop .z (.seq (.region (.skips 2 r (.nilS [4] r r (.pub .z fun I814 hl815 R816 => ?_))))))
   have le817 := IH.le.trans le569 hl815
   have le818 := IH.le.trans le570 hl815
   exact .ret (pret results96 (.t r .n) le817 ⟨s560, _, _, r, R816, hd⟩)
 rw [hb573]
 refine .skips 7 r (.nilS [22, 6, 5, 2, 1] r r (.condKF r r (.exitS [5] r r (.drop .z (.seq (.region (.skips 2 r (.nilS [4] r r (.pub .z fun I819 hl820 R821 => ?_)))))))))
 have le822 := IH.le.trans le569 hl820
 have le823 := IH.le.trans le570 hl820
 exact .ret (pret results96 (.t r .n) le822 ⟨s560, _, _, r, R821, hd⟩)

theorem W_ref08_Work {I : IH} {a0 : Columns} {a1 : List Int} {p1 : Option Addr} {c2 : Nat} {p4 : Option Addr} {c5 : Nat} {p7 : Option Addr} {c8 : Nat} {p10 : Option Addr} {c11 : Nat} {p13 : Option Addr} {c14 : Nat} {Q : Int → Prop} (R3 : RepSl eI64 I p1 c2 a0.At) (R6 : RepSl eI64 I p4 c5 a0.Start) (R9 : RepSl eI64 I p7 c8 a0.Row) (R12 : RepSl eI64 I p10 c11 a0.Val) (R15 : RepSl eI64 I p13 c14 a1) (hd : ref08_Work a0 a1 Q) :
    PFun Tryz.prog 48 [.agg #[.int .i64 a0.Rows, .int .i64 a0.Cols, .slice p1 a0.At.length c2, .slice p4 a0.Start.length c5, .slice p7 a0.Row.length c8, .slice p10 a0.Val.length c11], .slice p13 a1.length c14] I (fun I_ v => ∃ r, v = .int .i64 r ∧ Q r) := by
 refine Fun.enter func48 r ntmps48 r (.c (.c .n)) fun w0 M => ?_
 refine .seq (.region (.boxA r r r fun b18 => ?_))
 refine .skips 1 r (.nilS [2, 1] r r (.seq (.region (.skips 1 r (.nilS [5, 2, 1] r r (.seq (.seq (.region (.skips 1 r ?_)))))))))
 refine .nilS [6, 5, 2, 1] r r (.block (.loop hd (fun (s : Int × Int) c w => match s with | (s70, s71) => ∃ I_, IH.le I I_ ∧ Ok ⟨23, [], none⟩ [(1, .slice p13 a1.length c14), (2, .pointer (some ⟨b18, 0, none⟩)), (5, .int .i64 s70), (6, .int .i64 s71)] c ∧ Sym w0 M I I_ [pto b18 (.cells #[.int .i64 a0.Rows, .int .i64 a0.Cols, .slice p1 a0.At.length c2, .slice p4 a0.Start.length c5, .slice p7 a0.Row.length c8, .slice p10 a0.Val.length c11] 32 (0, 0))] w) (fun c w ho hs => ⟨I, (.refl _), ho.sub ⟨r, r, r, r, trivial⟩, hs.pick (.c .z .n)⟩) ?_))
 rintro ⟨s70, s71⟩ next72 hd c w hst
 obtain ⟨I73, hl74, hok, hsym⟩ := hst
 have le75 := IH.le.trans (.refl _) hl74
 replace R3 := R3.mono hl74
 replace R6 := R6.mono hl74
 replace R9 := R9.mono hl74
 replace R12 := R12.mono hl74
 replace R15 := R15.mono hl74
 refine Cod.at hok hsym (.seq (.seq (.region (.skips 2 r (.len underlying29 r r r r (.lt r r r r (.nilS [10, 6, 5, 2, 1] r r (.condP r hd (fun hb77 hd => ?_) fun hb77 hd => ?_))))))))
 · refine .skipS [6, 5, 2, 1] r r (.seq (.block (.draw [some 0, some 1, some 2, some 3, some 4, some 5, some 6, some 7, some 8] 9 MX (by kernel_rfl) (by kernel_rfl) (by kernel_rfl) (by kernel_rfl) (by kernel_rfl) (by kernel_rfl) (by kernel_rfl) (fun ex => (pto b18 (.cells #[.int .i64 a0.Rows, .int .i64 a0.Cols, .slice p1 a0.At.length c2, .slice p4 a0.Start.length c5, .slice p7 a0.Row.length c8, .slice p10 a0.Val.length c11] 32 (0, 0))) :: ex) (fun _ _ => (.s .z)) r (.fs [[]] r (by kernel_rfl) (.f [] r (by kernel_rfl) r r (fun ex => .loadW isAgg32 sizeOf32 r .z r r r .mk) (.fs [[], []] r (by kernel_rfl) ?_))))))
   obtain ⟨h78, x79, hx80, hd⟩ := hd
   obtain ⟨b81, o82, cs83, e84, hC85, hr86⟩ := R15.2 _ _ hx80
   cases hr86
   refine .f [2, 3] r (by kernel_rfl) r r (fun ex => .ixa underlying29 sizeOf3 r e84 r h78 (idx_lt hx80 h78) r r .mk) (.f [4] r (by kernel_rfl) r r (fun ex => .ld1 (j := 0) isAgg3 hC85 r r r r r .mk) (.w [0] [[], [5], [4, 5], [4, 5], []] [1, 5] r (by kernel_rfl) (by kernel_rfl) (by kernel_rfl) ((dropE_kept r r)) (.inr (dropE_kept r r)) fun ex => ?_))
   have hw96 := W_ref08_Column (I := I73) R3 R6 R9 R12 hd
   refine .call call96 r hw96 r r fun v91 I88 hl89 hv90 => ?_
   obtain ⟨r87, p93, c94, rfl, R95, hd⟩ := hv90
   have le97 := IH.le.trans le75 hl89
   replace R3 := R3.mono hl89
   replace R6 := R6.mono hl89
   replace R9 := R9.mono hl89
   replace R12 := R12.mono hl89
   replace R15 := R15.mono hl89
   replace hC85 := hC85.mono hl89
   refine .some (fun ex => (pto b18 (.cells #[.int .i64 a0.Rows, .int .i64 a0.Cols, .slice p1 a0.At.length c2, .slice p4 a0.Start.length c5, .slice p7 a0.Row.length c8, .slice p10 a0.Val.length c11] 32 (0, 0))) :: ex) r (fun _ _ => (.s .z)) r (.ccs [[]] r r (by kernel_rfl) trivial) (.f [6] r (by kernel_rfl) r r (fun ex => .len underlying25 r r r r .mk) (.f [0, 7] r (by kernel_rfl) r r (fun ex => .add r r r r .mk) (.e 9 (by kernel_rfl) (by kernel_rfl) (by kernel_rfl) (.sub (E' := [(1, _), (2, _), (6, _), (13, _), (14, _), (15, _), (16, _), (17, _), (18, _), (19, _), (20, _), (21, _)]) ⟨r, r, r, r, r, r, r, r, r, r, r, r, trivial⟩ (.skips 1 r (.nilS [5, 6, 2, 1] r r (.region (.skips 1 r (.add r r r r ?_)))))))))
   exact .sub (E' := [(1, _), (2, _), (5, _), (11, _), (12, _)]) ⟨r, r, r, r, r, trivial⟩ (.skips 1 r (.nil' fun c w ho hs => ⟨(w64 (s70 + (r87.length : Int)), w64 (s71 + 1)), hd, I88, le97, ho.sub ⟨r, r, r, r, trivial⟩, hs.pick (.c .z .n)⟩))
 exact .exitS [5] r r (.drop .z (.seq (.region (.skips 2 r (.nilS [4] r r (.ret (pret results48 (.t r .n) le75 ⟨s70, r, hd⟩)))))))

theorem W_ref09_Places {I : IH} {a0 : Vec} {p1 : Option Addr} {c2 : Nat} {Q : (List Int) → Prop} (R3 : RepSl eItem I p1 c2 a0.Items) (hd : ref09_Places a0 Q) :
    PFun Tryz.prog 49 [.agg #[.int .i64 a0.N, .slice p1 a0.Items.length c2]] I (fun I_ v => ∃ r p4 c5, v = .slice p4 r.length c5 ∧ RepSl eI64 I_ p4 c5 r ∧ Q r) := by
 refine Fun.enter func49 r ntmps49 r (.c .n) fun w0 M => ?_
 refine .seq (.region (.boxA r r r fun b9 => ?_))
 refine .skips 1 r (.nilS [1] r r (.seq (.region (.loadW isAgg38 sizeOf38 r .z r r r ?_))))
 have hw31 := W_ref09_Sure (I := I) R3 hd
 refine .call call53 r hw31 r r fun v26 I23 hl24 hv25 => ?_
 obtain ⟨r22, p28, c29, rfl, R30, hd⟩ := hv25
 have le32 := IH.le.trans (.refl _) hl24
 replace R3 := R3.mono hl24
 refine .storeA sizeOf38 r r .z (.t (.t .nil)) r r (.nilS [1] r r (.seq (.region (.skips 1 r (.nilS [3, 1] r r (.seq (.seq (.region (.skips 1 r ?_)))))))))
 refine .nilS [4, 3, 1] r r (.block (.own0 eI64 3 (.loop hd (fun (s : (List Int) × Int) c w => match s with | (s83, s87) => ∃ I_ p84 c85, IH.le I23 I_ ∧ Ok ⟨24, [], none⟩ [(1, .pointer (some ⟨b9, 0, none⟩)), (3, .slice p84 s83.length c85), (4, .int .i64 s87)] c ∧ Sym w0 M I I_ [pto b9 (.cells #[.int .i64 r22.N, .slice p28 r22.Items.length c29] 38 (0, 0)), OwnSl eI64 3 p84 c85 s83] w) (fun c w ho hs => ⟨I23, _, _, (.refl _), ho.sub ⟨r, r, r, trivial⟩, hs.pick (.c (.s .z) (.c .z .n))⟩) ?_)))
 rintro ⟨s83, s87⟩ next89 hd c w hst
 obtain ⟨I90, p84, c85, hl91, hok, hsym⟩ := hst
 have le92 := IH.le.trans le32 hl91
 have le93 := IH.le.trans (.refl _) hl91
 replace R30 := R30.mono hl91
 refine Cod.at hok hsym (.seq (.seq (.region (.skips 1 r (.fieldAddr underlying38 r sizeOf25 r (o := 1) r r r (.load1 isAgg25 r .z r r r (.len underlying25 r r r r (.lt r r r r (.nilS [11, 4, 3, 1] r r ?_)))))))))
 refine .condP r hd (fun hb95 hd => ?_) fun hb95 hd => ?_
 · refine .skipS [4, 3, 1] r r (.seq (.block (.region (.skips 1 r (.fieldAddr underlying38 r sizeOf25 r (o := 1) r r r (.load1 isAgg25 r .z r r r (.skips 1 r ?_)))))))
   obtain ⟨h96, x97, hx98, hd⟩ := hd
   obtain ⟨b99, o100, cs101, e102, hC103, hr104⟩ := R30.2 _ _ hx98
   cases hr104
   refine .ixa underlying25 sizeOf67 r e102 r h96 (idx_lt hx98 h96) r r (.fieldAddr underlying67 r sizeOf3 r (o := o100 + s87.toNat * 2) r r r (.ld1 (j := 0) isAgg3 hC103 r r r r r (.buildSlice 1 underlying29 sizeOf3 zeroValue3 r r (.c r r r .n) r r fun b105 => ?_)))
   obtain ⟨hl107, hd⟩ := hd
   refine .append (ys := [x97.At]) 8 (.s (.s .z)) underlying29 underlying29 IN3 r r r r r r r r r (.box .z (.one r) r) hl107 r r fun p108 c109 => ?_
   exact .sub (E' := [(1, _), (4, _), (14, _), (15, _), (16, _), (17, _), (18, _), (19, _), (20, _), (21, _), (22, _)]) ⟨r, r, r, r, r, r, r, r, r, r, r, trivial⟩ (.skips 1 r (.nilS [3, 4, 1] r r (.drop (.s .z) (.region (.skips 1 r (.add r r r r (.sub (E' := [(1, _), (3, _), (12, _), (13, _)]) ⟨r, r, r, r, trivial⟩ (.skips 1 r (.nil' fun c w ho hs => ⟨((s83 ++ ([x97.At])), w64 (s87 + 1)), hd, I90, _, _, le93, ho.sub ⟨r, r, r, trivial⟩, hs.pick (.c (.s .z) (.c .z .n))⟩)))))))))
 refine .exitS [3] r r (.drop .z (.seq (.region (.skips 2 r (.nilS [2] r r (.pub .z fun I111 hl112 R113 => ?_))))))
 have le114 := IH.le.trans le92 hl112
 have le115 := IH.le.trans le93 hl112
 exact .ret (pret results49 (.t r .n) le114 ⟨s83, _, _, r, R113, hd⟩)

theorem W_ref14_Work {I : IH} {a0 : Columns} {a1 : Vec} {p1 : Option Addr} {c2 : Nat} {p4 : Option Addr} {c5 : Nat} {p7 : Option Addr} {c8 : Nat} {p10 : Option Addr} {c11 : Nat} {p13 : Option Addr} {c14 : Nat} {Q : Int → Prop} (R3 : RepSl eI64 I p1 c2 a0.At) (R6 : RepSl eI64 I p4 c5 a0.Start) (R9 : RepSl eI64 I p7 c8 a0.Row) (R12 : RepSl eI64 I p10 c11 a0.Val) (R15 : RepSl eItem I p13 c14 a1.Items) (hd : ref14_Work a0 a1 Q) :
    PFun Tryz.prog 19 [.agg #[.int .i64 a0.Rows, .int .i64 a0.Cols, .slice p1 a0.At.length c2, .slice p4 a0.Start.length c5, .slice p7 a0.Row.length c8, .slice p10 a0.Val.length c11], .agg #[.int .i64 a1.N, .slice p13 a1.Items.length c14]] I (fun I_ v => ∃ r, v = .int .i64 r ∧ Q r) := by
 refine Fun.enter func19 r ntmps19 r (.c (.c .n)) fun w0 M => ?_
 refine .seq (.region (.boxA r r r fun b16 => ?_))
 refine .boxA r r r fun b18 => ?_
 refine .skips 1 r (.nilS [3, 2] r r (.seq (.draw [some 0, some 1, some 2, some 3] 4 MX (by kernel_rfl) (by kernel_rfl) (by kernel_rfl) (by kernel_rfl) (by kernel_rfl) (by kernel_rfl) (by kernel_rfl) (fun ex => (pto b18 (.cells #[.int .i64 a1.N, .slice p13 a1.Items.length c14] 38 (0, 0))) :: (pto b16 (.cells #[.int .i64 a0.Rows, .int .i64 a0.Cols, .slice p1 a0.At.length c2, .slice p4 a0.Start.length c5, .slice p7 a0.Row.length c8, .slice p10 a0.Val.length c11] 32 (0, 0))) :: ex) (fun _ _ => (.s (.s .z))) r (.f [] r (by kernel_rfl) r r (fun ex => .loadW isAgg32 sizeOf32 r (.s .z) r r r .mk) (.f [] r (by kernel_rfl) r r (fun ex => .loadW isAgg38 sizeOf38 r .z r r r .mk) (.w [0] [[]] [1] r (by kernel_rfl) (by kernel_rfl) (by kernel_rfl) ((dropE_kept r r)) (.inr (dropE_kept r r)) fun ex => ?_))))))
 have hw29 := W_ref09_Places (I := I) R15 hd
 refine .call call49 r hw29 r r fun v24 I21 hl22 hv23 => ?_
 obtain ⟨r20, p26, c27, rfl, R28, hd⟩ := hv23
 have le30 := IH.le.trans (.refl _) hl22
 replace R3 := R3.mono hl22
 replace R6 := R6.mono hl22
 replace R9 := R9.mono hl22
 replace R12 := R12.mono hl22
 replace R15 := R15.mono hl22
 refine .some (fun ex => (pto b18 (.cells #[.int .i64 a1.N, .slice p13 a1.Items.length c14] 38 (0, 0))) :: (pto b16 (.cells #[.int .i64 a0.Rows, .int .i64 a0.Cols, .slice p1 a0.At.length c2, .slice p4 a0.Start.length c5, .slice p7 a0.Row.length c8, .slice p10 a0.Val.length c11] 32 (0, 0))) :: ex) r (fun _ _ => (.s (.s .z))) r (.cc [] r (by kernel_rfl) r r r (fun ex => .loadW isAgg32 sizeOf32 r (.s .z) r r r .mk) trivial) (.w [] [[]] [0, 2, 2] r (by kernel_rfl) (by kernel_rfl) (by kernel_rfl) ((dropE_kept r r)) (.inr (dropE_kept r r)) fun ex => ?_)
 have hw32 := W_ref08_Work (I := I21) R3 R6 R9 R12 R28 hd
 refine .callP call48 r hw32 r r fun v33 hv34 => ?_
 obtain ⟨r31, rfl, hd⟩ := hv34
 exact .some (fun ex => (pto b18 (.cells #[.int .i64 a1.N, .slice p13 a1.Items.length c14] 38 (0, 0))) :: (pto b16 (.cells #[.int .i64 a0.Rows, .int .i64 a0.Cols, .slice p1 a0.At.length c2, .slice p4 a0.Start.length c5, .slice p7 a0.Row.length c8, .slice p10 a0.Val.length c11] 32 (0, 0))) :: ex) r (fun _ _ => (.s (.s .z))) r trivial (.e 4 (by kernel_rfl) (by kernel_rfl) (by kernel_rfl) (.skips 1 r (.nilS [4] r r (.drop .z (.drop .z (.ret (pret results19 (.t r .n) le30 ⟨r31, r, hd⟩)))))))

theorem W_law14_PushTells {I : IH} {a0 : Law13_Task} {p1 : Option Addr} {c2 : Nat} {p4 : Option Addr} {c5 : Nat} {p7 : Option Addr} {c8 : Nat} {p10 : Option Addr} {c11 : Nat} {Q : Bool → Prop} (R3 : RepSl eTriple I p1 c2 a0.L) (R6 : RepSl eItem I p4 c5 a0.X) (R9 : RepSl eItem I p7 c8 a0.Y) (R12 : RepSl eU64 I p10 c11 a0.F) (hd : law14_PushTells a0 Q) :
    PFun Tryz.prog 3 [.agg #[.int .i64 a0.Ring, .int .u8 a0.Size.1, .int .u8 a0.Size.2, .slice p1 a0.L.length c2, .slice p4 a0.X.length c5, .slice p7 a0.Y.length c8, .slice p10 a0.F.length c11, .bool a0.Others]] I (fun I_ v => ∃ r, v = .bool r ∧ Q r) := by
 refine Fun.enter func3 r ntmps3 r (.c .n) fun w0 M => ?_
 refine .seq (.region (.boxA r r r fun b15 => ?_))
 refine .skips 1 r (.nilS [1] r r (.seq (.draw [some 0, some 3, some 4, some 5, some 7, some 9, some 10, some 1, some 2, some 6, some 8, none, some 11, some 12] 13 MX (by kernel_rfl) (by kernel_rfl) (by kernel_rfl) (by kernel_rfl) (by kernel_rfl) (by kernel_rfl) (by kernel_rfl) (fun ex => (pto b15 (.cells #[.int .i64 a0.Ring, .int .u8 a0.Size.1, .int .u8 a0.Size.2, .slice p1 a0.L.length c2, .slice p4 a0.X.length c5, .slice p7 a0.Y.length c8, .slice p10 a0.F.length c11, .bool a0.Others] 28 (0, 0))) :: ex) (fun _ _ => (.s .z)) r (.f [] r (by kernel_rfl) r r (fun ex => .loadW isAgg28 sizeOf28 r .z r r r .mk) (.f [] r (by kernel_rfl) r r (fun ex => .loadW isAgg28 sizeOf28 r .z r r r .mk) (.f [] r (by kernel_rfl) r r (fun ex => .fieldAddr underlying28 r sizeOf25 r (o := 4) r r r .mk) (.f [4] r (by kernel_rfl) r r (fun ex => .load1 isAgg25 r .z r r r .mk) (.f [] r (by kernel_rfl) r r (fun ex => .loadW isAgg28 sizeOf28 r .z r r r .mk) (.a (fun b => .pointer (some ⟨b, 0, none⟩)) (fun b => pto b (.cells #[.int .i64 0, .int .i64 0, .slice none 0 0, .slice none 0 0, .slice none 0 0, .slice none 0 0] 32 (0, 0))) r r r r (fun _ L hL ex => .allocA zeroValue32 r r fun b => .mk (val := fun b => .pointer (some ⟨b, 0, none⟩)) (atom := fun b => pto b (.cells #[.int .i64 0, .int .i64 0, .slice none 0 0, .slice none 0 0, .slice none 0 0, .slice none 0 0] 32 (0, 0))) hL b) ?_)))))))))
 refine .a (fun b => .pointer (some ⟨b, 0, none⟩)) (fun b => pto b (.cells #[.int .i64 0, .slice none 0 0] 38 (0, 0))) r r r r (fun _ L hL ex => .allocA zeroValue38 r r fun b => .mk (val := fun b => .pointer (some ⟨b, 0, none⟩)) (atom := fun b => pto b (.cells #[.int .i64 0, .slice none 0 0] 38 (0, 0))) hL b) (.w [7, 5, 4, 3] [[]] [0] r (by kernel_rfl) (by kernel_rfl) (by kernel_rfl) ((dropE_kept r r)) (.inr (dropE_kept r r)) fun ex => ?_)
 have hw97 := W_law13_Task_Matrix (I := I) R3 R6 R9 R12 hd
 refine .call call8 r hw97 r r fun v86 I83 hl84 hv85 => ?_
 obtain ⟨r82, p88, c89, p91, c92, p94, c95, rfl, R90, R93, R96, hd⟩ := hv85
 have le98 := IH.le.trans (.refl _) hl84
 replace R3 := R3.mono hl84
 replace R6 := R6.mono hl84
 replace R9 := R9.mono hl84
 replace R12 := R12.mono hl84
 refine .some (fun ex => (pto b15 (.cells #[.int .i64 a0.Ring, .int .u8 a0.Size.1, .int .u8 a0.Size.2, .slice p1 a0.L.length c2, .slice p4 a0.X.length c5, .slice p7 a0.Y.length c8, .slice p10 a0.F.length c11, .bool a0.Others] 28 (0, 0))) :: ex) r (fun _ _ => (.s .z)) r (.cc [] r (by kernel_rfl) r r r (fun ex => .loadW isAgg28 sizeOf28 r .z r r r .mk) (.cc [4] r (by kernel_rfl) r r r (fun ex => .load1 isAgg25 r .z r r r .mk) (.cc [] r (by kernel_rfl) r r r (fun ex => .fieldAddr underlying28 r sizeOf25 r (o := 4) r r r .mk) (.cc [] r (by kernel_rfl) r r r (fun ex => .loadW isAgg28 sizeOf28 r .z r r r .mk) trivial)))) (.w [7, 5, 4, 3] [] [1, 1] r (by kernel_rfl) (by kernel_rfl) (by kernel_rfl) ((dropE_kept r r)) (.inr (dropE_kept r r)) fun ex => ?_)
 have hw117 := W_ref08_Of (I := I83) R90 R93 R96 hd
 refine .call call7 r hw117 r r fun v103 I100 hl101 hv102 => ?_
 obtain ⟨r99, p105, c106, p108, c109, p111, c112, p114, c115, rfl, R107, R110, R113, R116, hd⟩ := hv102
 have le118 := IH.le.trans le98 hl101
 replace R3 := R3.mono hl101
 replace R6 := R6.mono hl101
 replace R9 := R9.mono hl101
 replace R12 := R12.mono hl101
 replace R90 := R90.mono hl101
 replace R93 := R93.mono hl101
 replace R96 := R96.mono hl101
 refine .some (fun ex => (pto b15 (.cells #[.int .i64 a0.Ring, .int .u8 a0.Size.1, .int .u8 a0.Size.2, .slice p1 a0.L.length c2, .slice p4 a0.X.length c5, .slice p7 a0.Y.length c8, .slice p10 a0.F.length c11, .bool a0.Others] 28 (0, 0))) :: ex) r (fun _ _ => (.s .z)) r (.cc [] r (by kernel_rfl) r r r (fun ex => .loadW isAgg28 sizeOf28 r .z r r r .mk) (.cc [4] r (by kernel_rfl) r r r (fun ex => .load1 isAgg25 r .z r r r .mk) (.cc [] r (by kernel_rfl) r r r (fun ex => .fieldAddr underlying28 r sizeOf25 r (o := 4) r r r .mk) (.cc [] r (by kernel_rfl) r r r (fun ex => .loadW isAgg28 sizeOf28 r .z r r r .mk) trivial)))) (.w [7] [[], [5], []] [3, 5, 2] r (by kernel_rfl) (by kernel_rfl) (by kernel_rfl) ((dropE_kept r r)) (.inr (dropE_kept r r)) fun ex => ?_)
 have hw128 := W_law13_Task_Vector (I := I100) R3 R6 R9 R12 R6 hd
 refine .call call9 r hw128 r r fun v123 I120 hl121 hv122 => ?_
 obtain ⟨r119, p125, c126, rfl, R127, hd⟩ := hv122
 have le129 := IH.le.trans le118 hl121
 replace R3 := R3.mono hl121
 replace R6 := R6.mono hl121
 replace R9 := R9.mono hl121
 replace R12 := R12.mono hl121
 replace R90 := R90.mono hl121
 replace R93 := R93.mono hl121
 replace R96 := R96.mono hl121
 replace R107 := R107.mono hl121
 replace R110 := R110.mono hl121
 replace R113 := R113.mono hl121
 replace R116 := R116.mono hl121
 refine .some (fun ex => (pto b15 (.cells #[.int .i64 a0.Ring, .int .u8 a0.Size.1, .int .u8 a0.Size.2, .slice p1 a0.L.length c2, .slice p4 a0.X.length c5, .slice p7 a0.Y.length c8, .slice p10 a0.F.length c11, .bool a0.Others] 28 (0, 0))) :: ex) r (fun _ _ => (.s .z)) r (.cc [] r (by kernel_rfl) r r r (fun ex => .loadW isAgg28 sizeOf28 r .z r r r .mk) trivial) (.w [] [[]] [7, 6] r (by kernel_rfl) (by kernel_rfl) (by kernel_rfl) ((dropE_kept r r)) (.inr (dropE_kept r r)) fun ex => ?_)
 have hw139 := W_law13_Task_Rows (I := I120) R3 R6 R9 R12 hd
 refine .call call10 r hw139 r r fun v134 I131 hl132 hv133 => ?_
 obtain ⟨r130, p136, c137, rfl, R138, hd⟩ := hv133
 have le140 := IH.le.trans le129 hl132
 replace R3 := R3.mono hl132
 replace R6 := R6.mono hl132
 replace R9 := R9.mono hl132
 replace R12 := R12.mono hl132
 replace R90 := R90.mono hl132
 replace R93 := R93.mono hl132
 replace R96 := R96.mono hl132
 replace R107 := R107.mono hl132
 replace R110 := R110.mono hl132
 replace R113 := R113.mono hl132
 replace R116 := R116.mono hl132
 replace R127 := R127.mono hl132
 refine .some (fun ex => (pto b15 (.cells #[.int .i64 a0.Ring, .int .u8 a0.Size.1, .int .u8 a0.Size.2, .slice p1 a0.L.length c2, .slice p4 a0.X.length c5, .slice p7 a0.Y.length c8, .slice p10 a0.F.length c11, .bool a0.Others] 28 (0, 0))) :: ex) r (fun _ _ => (.s .z)) r trivial (.b r fun b141 b142 => DrawD.nop (.w [] [] [9, 2, 8, 0, 1, 2, 9, 10] r (by kernel_rfl) (by kernel_rfl) (by kernel_rfl) ((dropE_none r)) (.inr (dropE_none r)) fun ex => ?_))
 refine .storeA sizeOf32 r r (.s (.s .z)) (.t (.t (.t (.t (.t (.t .nil)))))) r r (.none (fun ex => (pto b15 (.cells #[.int .i64 a0.Ring, .int .u8 a0.Size.1, .int .u8 a0.Size.2, .slice p1 a0.L.length c2, .slice p4 a0.X.length c5, .slice p7 a0.Y.length c8, .slice p10 a0.F.length c11, .bool a0.Others] 28 (0, 0))) :: (pto b141 (.cells #[.int .i64 0, .slice none 0 0] 38 (0, 0))) :: (pto b142 (.cells #[.int .i64 r99.Rows, .int .i64 r99.Cols, .slice p105 r99.At.length c106, .slice p108 r99.Start.length c109, .slice p111 r99.Row.length c112, .slice p114 r99.Val.length c115] 32 (0, 0))) :: ex) r (fun _ _ => (.s (.s (.s .z)))) r trivial (.w [] [] [10, 6, 11, 0, 1, 2, 3, 4, 5, 6, 9, 10, 11] r (by kernel_rfl) (by kernel_rfl) (by kernel_rfl) ((dropE_none r)) (.inr (dropE_none r)) fun ex => ?_))
 refine .storeA sizeOf38 r r (.s .z) (.t (.t .nil)) r r (.none (fun ex => (pto b15 (.cells #[.int .i64 a0.Ring, .int .u8 a0.Size.1, .int .u8 a0.Size.2, .slice p1 a0.L.length c2, .slice p4 a0.X.length c5, .slice p7 a0.Y.length c8, .slice p10 a0.F.length c11, .bool a0.Others] 28 (0, 0))) :: (pto b141 (.cells #[.int .i64 r119.N, .slice p125 r119.Items.length c126] 38 (0, 0))) :: (pto b142 (.cells #[.int .i64 r99.Rows, .int .i64 r99.Cols, .slice p105 r99.At.length c106, .slice p108 r99.Start.length c109, .slice p111 r99.Row.length c112, .slice p114 r99.Val.length c115] 32 (0, 0))) :: ex) r (fun _ _ => (.s (.s (.s .z)))) r trivial (.e 13 (by kernel_rfl) (by kernel_rfl) (by kernel_rfl) (.skips 1 r (.nilS [5, 3, 4, 1] r r (.seq (.region (.fieldAddr underlying28 r sizeOf22 r (o := 0) r r r (.load1 isAgg22 r .z r r r (.loadW isAgg32 sizeOf32 r (.s (.s .z)) r r r ?_)))))))))
 refine .loadW isAgg38 sizeOf38 r (.s .z) r r r (.skips 1 r (.fieldAddr underlying28 r sizeOf4 r (o := 7) r r r (.load1 isAgg4 r .z r r r ?_)))
 have hw163 := W_push_Sums (I := I131) R107 R110 R113 R116 R127 R138 hd
 refine .call call11 r hw163 r r fun v158 I155 hl156 hv157 => ?_
 obtain ⟨r154, p160, c161, rfl, R162, hd⟩ := hv157
 have le164 := IH.le.trans le140 hl156
 replace R3 := R3.mono hl156
 replace R6 := R6.mono hl156
 replace R9 := R9.mono hl156
 replace R12 := R12.mono hl156
 replace R107 := R107.mono hl156
 replace R110 := R110.mono hl156
 replace R113 := R113.mono hl156
 replace R116 := R116.mono hl156
 replace R127 := R127.mono hl156
 replace R138 := R138.mono hl156
 refine .skips 1 r (.extract r r r r (.extract r r r r (.skips 2 r (.nilS [7, 6, 5, 3, 4, 1] r r (.seq (.region (.fieldAddr underlying28 r sizeOf22 r (o := 0) r r r (.load1 isAgg22 r .z r r r (.loadW isAgg32 sizeOf32 r (.s (.s .z)) r r r ?_)))))))))
 refine .loadW isAgg38 sizeOf38 r (.s .z) r r r (.skips 1 r (.fieldAddr underlying28 r sizeOf4 r (o := 7) r r r (.load1 isAgg4 r .z r r r ?_)))
 have hw185 := W_ref14_Sums (I := I155) R107 R110 R113 R116 R127 R138 hd
 refine .call call12 r hw185 r r fun v180 I177 hl178 hv179 => ?_
 obtain ⟨r176, p182, c183, rfl, R184, hd⟩ := hv179
 have le186 := IH.le.trans le164 hl178
 replace R3 := R3.mono hl178
 replace R6 := R6.mono hl178
 replace R9 := R9.mono hl178
 replace R12 := R12.mono hl178
 replace R107 := R107.mono hl178
 replace R110 := R110.mono hl178
 replace R113 := R113.mono hl178
 replace R116 := R116.mono hl178
 replace R127 := R127.mono hl178
 replace R138 := R138.mono hl178
 replace R162 := R162.mono hl178
 refine .skips 1 r (.extract r r r r (.extract r r r r (.skips 2 r (.nilS [9, 8, 7, 6, 5, 3, 4, 1] r r (.seq (.region (.fieldAddr underlying28 r sizeOf22 r (o := 0) r r r (.load1 isAgg22 r .z r r r (.loadW isAgg32 sizeOf32 r (.s (.s .z)) r r r ?_)))))))))
 refine .loadW isAgg38 sizeOf38 r (.s .z) r r r (.skips 1 r (.fieldAddr underlying28 r sizeOf4 r (o := 7) r r r (.load1 isAgg4 r .z r r r ?_)))
 have hw209 := W_push_Times (I := I177) R107 R110 R113 R116 R127 R138 hd
 refine .call call13 r hw209 r r fun v204 I201 hl202 hv203 => ?_
 obtain ⟨r200, p206, c207, rfl, R208, hd⟩ := hv203
 have le210 := IH.le.trans le186 hl202
 replace R3 := R3.mono hl202
 replace R6 := R6.mono hl202
 replace R9 := R9.mono hl202
 replace R12 := R12.mono hl202
 replace R107 := R107.mono hl202
 replace R110 := R110.mono hl202
 replace R113 := R113.mono hl202
 replace R116 := R116.mono hl202
 replace R127 := R127.mono hl202
 replace R138 := R138.mono hl202
 replace R162 := R162.mono hl202
 replace R184 := R184.mono hl202
 refine .skips 1 r (.extract r r r r (.extract r r r r (.allocA zeroValue38 r r fun b211 => ?_)))
 refine .storeA sizeOf38 r r .z (.t (.t .nil)) r r (.skips 1 r (.nilS [11, 10, 9, 8, 7, 6, 5, 3, 4, 1] r r (.seq (.region (.fieldAddr underlying28 r sizeOf22 r (o := 0) r r r (.load1 isAgg22 r (.s .z) r r r (.loadW isAgg32 sizeOf32 r (.s (.s (.s .z))) r r r (.loadW isAgg38 sizeOf38 r (.s (.s .z)) r r r (.skips 1 r ?_)))))))))
 refine .fieldAddr underlying28 r sizeOf4 r (o := 7) r r r (.load1 isAgg4 r (.s .z) r r r ?_)
 have hw235 := W_ref14_Times (I := I201) R107 R110 R113 R116 R127 R138 hd
 refine .call call14 r hw235 r r fun v230 I227 hl228 hv229 => ?_
 obtain ⟨r226, p232, c233, rfl, R234, hd⟩ := hv229
 have le236 := IH.le.trans le210 hl228
 replace R3 := R3.mono hl228
 replace R6 := R6.mono hl228
 replace R9 := R9.mono hl228
 replace R12 := R12.mono hl228
 replace R107 := R107.mono hl228
 replace R110 := R110.mono hl228
 replace R113 := R113.mono hl228
 replace R116 := R116.mono hl228
 replace R127 := R127.mono hl228
 replace R138 := R138.mono hl228
 replace R162 := R162.mono hl228
 replace R184 := R184.mono hl228
 replace R208 := R208.mono hl228
 refine .skips 1 r (.extract r r r r (.extract r r r r (.allocA zeroValue38 r r fun b237 => ?_)))
 refine .storeA sizeOf38 r r .z (.t (.t .nil)) r r (.skips 1 r (.nilS [13, 12, 11, 10, 9, 8, 7, 6, 3, 4] r r (.drop (.s (.s .z)) (.seq (.draw [some 0, some 1, some 2, some 3, some 4, some 5, some 6, some 7, some 8, some 9, some 10, some 11, some 12, some 13, some 14, some 15, some 16, some 17, some 18, some 19, some 20, some 21, some 22, some 23, some 25, some 26, some 24, some 27, some 28, some 29] 30 MX (by kernel_rfl) (by kernel_rfl) (by kernel_rfl) (by kernel_rfl) (by kernel_rfl) (by kernel_rfl) (by kernel_rfl) (fun ex => (pto b237 (.cells #[.int .i64 r226.1.N, .slice p232 r226.1.Items.length c233] 38 (0, 0))) :: (pto b211 (.cells #[.int .i64 r200.1.N, .slice p206 r200.1.Items.length c207] 38 (0, 0))) :: (pto b141 (.cells #[.int .i64 r119.N, .slice p125 r119.Items.length c126] 38 (0, 0))) :: (pto b142 (.cells #[.int .i64 r99.Rows, .int .i64 r99.Cols, .slice p105 r99.At.length c106, .slice p108 r99.Start.length c109, .slice p111 r99.Row.length c112, .slice p114 r99.Val.length c115] 32 (0, 0))) :: ex) (fun _ _ => (.s (.s (.s (.s .z))))) r (.w [] [] [] r (by kernel_rfl) (by kernel_rfl) (by kernel_rfl) ((dropE_kept r r)) (.inr (dropE_kept r r)) fun ex => ?_))))))
 have hw240 := W_law14_live (I := I227) hd
 refine .callP call15 r hw240 r r fun v241 hv242 => ?_
 obtain ⟨r239, rfl, hd⟩ := hv242
 refine .some (fun ex => (pto b237 (.cells #[.int .i64 r226.1.N, .slice p232 r226.1.Items.length c233] 38 (0, 0))) :: (pto b211 (.cells #[.int .i64 r200.1.N, .slice p206 r200.1.Items.length c207] 38 (0, 0))) :: (pto b141 (.cells #[.int .i64 r119.N, .slice p125 r119.Items.length c126] 38 (0, 0))) :: (pto b142 (.cells #[.int .i64 r99.Rows, .int .i64 r99.Cols, .slice p105 r99.At.length c106, .slice p108 r99.Start.length c109, .slice p111 r99.Row.length c112, .slice p114 r99.Val.length c115] 32 (0, 0))) :: ex) r (fun _ _ => (.s (.s (.s (.s .z))))) r trivial (.fs [[0, 0]] r (by kernel_rfl) ?_)
 refine splitP hd (fun hb243 hd => ?_) fun hb243 hd => ?_
 · refine .f [1] r (by kernel_rfl) r r (fun ex => .gyes r r hb243 (.move r r r .mk)) (.f [1] r (by kernel_rfl) r r (fun ex => .gyes r r hb243 (.move r r r .mk)) (.w [] [[], [], []] [2, 3, 1, 1] r (by kernel_rfl) (by kernel_rfl) (by kernel_rfl) ((dropE_kept r r)) (.inr (dropE_kept r r)) fun ex => ?_))
   have hw245 := W_ref13_SameSums (I := I227) R162 R184 hd
   refine .gyes r r hb243 (.callP call16 r hw245 r r fun v246 hv247 => ?_)
   obtain ⟨r244, rfl, hd⟩ := hv247
   refine .some (fun ex => (pto b237 (.cells #[.int .i64 r226.1.N, .slice p232 r226.1.Items.length c233] 38 (0, 0))) :: (pto b211 (.cells #[.int .i64 r200.1.N, .slice p206 r200.1.Items.length c207] 38 (0, 0))) :: (pto b141 (.cells #[.int .i64 r119.N, .slice p125 r119.Items.length c126] 38 (0, 0))) :: (pto b142 (.cells #[.int .i64 r99.Rows, .int .i64 r99.Cols, .slice p105 r99.At.length c106, .slice p108 r99.Start.length c109, .slice p111 r99.Row.length c112, .slice p114 r99.Val.length c115] 32 (0, 0))) :: ex) r (fun _ _ => (.s (.s (.s (.s .z))))) r trivial (.f [1, 4] r (by kernel_rfl) r r (fun ex => .pickT r hb243 r r r .mk) (.fs [[5, 4]] r (by kernel_rfl) ?_))
   refine splitP hd (fun hb248 hd => ?_) fun hb248 hd => ?_
   · refine .f [6] r (by kernel_rfl) r r (fun ex => .gyes r r hb248 (.move r r r .mk)) (.f [6] r (by kernel_rfl) r r (fun ex => .gyes r r hb248 (.move r r r .mk)) (.f [7, 8, 6] r (by kernel_rfl) r r (fun ex => .gyes r r hb248 (.eq r r r r .mk)) (.f [6, 9] r (by kernel_rfl) r r (fun ex => .pickT r hb248 r r r .mk) (.fs [[10, 6]] r (by kernel_rfl) ?_))))
     refine splitP hd (fun hb249 hd => ?_) fun hb249 hd => ?_
     · refine .f [11] r (by kernel_rfl) r r (fun ex => .gyes r r hb249 (.loadW isAgg38 sizeOf38 r (.s .z) r r r .mk)) (.f [11] r (by kernel_rfl) r r (fun ex => .gyes r r hb249 (.loadW isAgg38 sizeOf38 r .z r r r .mk)) (.w [] [[], [], [], [11], [10, 11], [9, 10, 11], [9, 10, 11], [11], [6, 11]] [12, 13, 11, 11] r (by kernel_rfl) (by kernel_rfl) (by kernel_rfl) ((dropE_kept r r)) (.inr (dropE_kept r r)) fun ex => ?_))
       have hw251 := W_ref09_Same (I := I227) R208 R234 hd
       refine .gyes r r hb249 (.callP call17 r hw251 r r fun v252 hv253 => ?_)
       obtain ⟨r250, rfl, hd⟩ := hv253
       refine .some (fun ex => (pto b237 (.cells #[.int .i64 r226.1.N, .slice p232 r226.1.Items.length c233] 38 (0, 0))) :: (pto b211 (.cells #[.int .i64 r200.1.N, .slice p206 r200.1.Items.length c207] 38 (0, 0))) :: (pto b141 (.cells #[.int .i64 r119.N, .slice p125 r119.Items.length c126] 38 (0, 0))) :: (pto b142 (.cells #[.int .i64 r99.Rows, .int .i64 r99.Cols, .slice p105 r99.At.length c106, .slice p108 r99.Start.length c109, .slice p111 r99.Row.length c112, .slice p114 r99.Val.length c115] 32 (0, 0))) :: ex) r (fun _ _ => (.s (.s (.s (.s .z))))) r trivial (.f [11, 14] r (by kernel_rfl) r r (fun ex => .pickT r hb249 r r r .mk) (.fs [[15, 14]] r (by kernel_rfl) ?_))
       refine splitP hd (fun hb254 hd => ?_) fun hb254 hd => ?_
       · refine .f [16] r (by kernel_rfl) r r (fun ex => .gyes r r hb254 (.move r r r .mk)) (.f [16] r (by kernel_rfl) r r (fun ex => .gyes r r hb254 (.move r r r .mk)) (.f [17, 18, 16] r (by kernel_rfl) r r (fun ex => .gyes r r hb254 (.eq r r r r .mk)) (.f [16, 19] r (by kernel_rfl) r r (fun ex => .pickT r hb254 r r r .mk) (.fs [[20, 16]] r (by kernel_rfl) ?_))))
         refine splitP hd (fun hb255 hd => ?_) fun hb255 hd => ?_
         · refine .f [21] r (by kernel_rfl) r r (fun ex => .gyes r r hb255 (.loadW isAgg32 sizeOf32 r (.s (.s (.s .z))) r r r .mk)) (.f [21] r (by kernel_rfl) r r (fun ex => .gyes r r hb255 (.loadW isAgg38 sizeOf38 r (.s (.s .z)) r r r .mk)) (.f [21] r (by kernel_rfl) r r (fun ex => .gyes r r hb255 (.loadW isAgg32 sizeOf32 r (.s (.s (.s .z))) r r r .mk)) (.f [21] r (by kernel_rfl) r r (fun ex => .gyes r r hb255 (.loadW isAgg38 sizeOf38 r (.s (.s .z)) r r r .mk)) (.w [26, 25] [[], [], [], [21], [20, 21], [19, 20, 21], [19, 20, 21], [21], [16, 21]] [22, 23, 21, 21] r (by kernel_rfl) (by kernel_rfl) (by kernel_rfl) ((dropE_kept r r)) (.inr (dropE_kept r r)) fun ex => ?_))))
           have hw257 := W_push_Work (I := I227) R107 R110 R113 R116 R127 hd
           refine .gyes r r hb255 (.callP call18 r hw257 r r fun v258 hv259 => ?_)
           obtain ⟨r256, rfl, hd⟩ := hv259
           refine .some (fun ex => (pto b237 (.cells #[.int .i64 r226.1.N, .slice p232 r226.1.Items.length c233] 38 (0, 0))) :: (pto b211 (.cells #[.int .i64 r200.1.N, .slice p206 r200.1.Items.length c207] 38 (0, 0))) :: (pto b141 (.cells #[.int .i64 r119.N, .slice p125 r119.Items.length c126] 38 (0, 0))) :: (pto b142 (.cells #[.int .i64 r99.Rows, .int .i64 r99.Cols, .slice p105 r99.At.length c106, .slice p108 r99.Start.length c109, .slice p111 r99.Row.length c112, .slice p114 r99.Val.length c115] 32 (0, 0))) :: ex) r (fun _ _ => (.s (.s (.s (.s .z))))) r (.cc [21] r (by kernel_rfl) r r r (fun ex => .gyes r r hb255 (.loadW isAgg38 sizeOf38 r (.s (.s .z)) r r r .mk)) (.cc [21] r (by kernel_rfl) r r r (fun ex => .gyes r r hb255 (.loadW isAgg32 sizeOf32 r (.s (.s (.s .z))) r r r .mk)) trivial)) (.w [] [[], []] [25, 26, 24, 21] r (by kernel_rfl) (by kernel_rfl) (by kernel_rfl) ((dropE_kept r r)) (.inr (dropE_kept r r)) fun ex => ?_)
           have hw261 := W_ref14_Work (I := I227) R107 R110 R113 R116 R127 hd
           refine .gyes r r hb255 (.callP call19 r hw261 r r fun v262 hv263 => ?_)
           obtain ⟨r260, rfl, hd⟩ := hv263
           refine .some (fun ex => (pto b237 (.cells #[.int .i64 r226.1.N, .slice p232 r226.1.Items.length c233] 38 (0, 0))) :: (pto b211 (.cells #[.int .i64 r200.1.N, .slice p206 r200.1.Items.length c207] 38 (0, 0))) :: (pto b141 (.cells #[.int .i64 r119.N, .slice p125 r119.Items.length c126] 38 (0, 0))) :: (pto b142 (.cells #[.int .i64 r99.Rows, .int .i64 r99.Cols, .slice p105 r99.At.length c106, .slice p108 r99.Start.length c109, .slice p111 r99.Row.length c112, .slice p114 r99.Val.length c115] 32 (0, 0))) :: ex) r (fun _ _ => (.s (.s (.s (.s .z))))) r trivial (.f [24, 27, 21] r (by kernel_rfl) r r (fun ex => .gyes r r hb255 (.eq r r r r .mk)) (.f [21, 28] r (by kernel_rfl) r r (fun ex => .pickT r hb255 r r r .mk) (.e 30 (by kernel_rfl) (by kernel_rfl) (by kernel_rfl) (.skips 1 r (.nilS [2] r r (.drop .z (.drop .z (.drop .z (.drop .z ?_)))))))))
           exact .ret (pret results3 (.t r .n) le236 ⟨(r256 == r260), r, hd⟩)
         refine .f [21] r (by kernel_rfl) r r (fun ex => .gno r r hb255 r r .mk) (.f [21] r (by kernel_rfl) r r (fun ex => .gno r r hb255 r r .mk) (.f [21] r (by kernel_rfl) r r (fun ex => .gno r r hb255 r r .mk) (.f [21] r (by kernel_rfl) r r (fun ex => .gno r r hb255 r r .mk) (.f [22, 23, 21, 21] r (by kernel_rfl) r r (fun ex => .gno r r hb255 r r .mk) (.f [25, 26, 24, 21] r (by kernel_rfl) r r (fun ex => .gno r r hb255 r r .mk) (.f [24, 27, 21] r (by kernel_rfl) r r (fun ex => .gno r r hb255 r r .mk) (.f [21, 28] r (by kernel_rfl) r r (fun ex => .pickF r hb255 r r r .mk) (.e 30 (by kernel_rfl) (by kernel_rfl) (by kernel_rfl) (.skips 1 r ?_)))))))))
         exact .nilS [2] r r (.drop .z (.drop .z (.drop .z (.drop .z (.ret (pret results3 (.t r .n) le236 ⟨false, r, hd⟩))))))
       refine .f [16] r (by kernel_rfl) r r (fun ex => .gno r r hb254 r r .mk) (.f [16] r (by kernel_rfl) r r (fun ex => .gno r r hb254 r r .mk) (.f [17, 18, 16] r (by kernel_rfl) r r (fun ex => .gno r r hb254 r r .mk) (.f [16, 19] r (by kernel_rfl) r r (fun ex => .pickF r hb254 r r r .mk) (.fs [[20, 16], [21], [21], [21], [21], [22, 23, 21, 21], [25, 26, 24, 21], [24, 27, 21], [21, 28]] r (by kernel_rfl) (.e 30 (by kernel_rfl) (by kernel_rfl) (by kernel_rfl) (.skips 1 r (.nilS [2] r r (.drop .z (.drop .z ?_)))))))))
       exact .drop .z (.drop .z (.ret (pret results3 (.t r .n) le236 ⟨false, r, hd⟩)))
     refine .f [11] r (by kernel_rfl) r r (fun ex => .gno r r hb249 r r .mk) (.f [11] r (by kernel_rfl) r r (fun ex => .gno r r hb249 r r .mk) (.f [12, 13, 11, 11] r (by kernel_rfl) r r (fun ex => .gno r r hb249 r r .mk) (.f [11, 14] r (by kernel_rfl) r r (fun ex => .pickF r hb249 r r r .mk) (.fs [[15, 14], [16], [16], [17, 18, 16], [16, 19], [20, 16], [21], [21], [21], [21], [22, 23, 21, 21], [25, 26, 24, 21], [24, 27, 21], [21, 28]] r (by kernel_rfl) (.e 30 (by kernel_rfl) (by kernel_rfl) (by kernel_rfl) (.skips 1 r (.nilS [2] r r (.drop .z (.drop .z ?_)))))))))
     exact .drop .z (.drop .z (.ret (pret results3 (.t r .n) le236 ⟨false, r, hd⟩)))
   refine .f [6] r (by kernel_rfl) r r (fun ex => .gno r r hb248 r r .mk) (.f [6] r (by kernel_rfl) r r (fun ex => .gno r r hb248 r r .mk) (.f [7, 8, 6] r (by kernel_rfl) r r (fun ex => .gno r r hb248 r r .mk) (.f [6, 9] r (by kernel_rfl) r r (fun ex => .pickF r hb248 r r r .mk) (.fs [[10, 6], [11], [11], [12, 13, 11, 11], [11, 14], [15, 14], [16], [16], [17, 18, 16], [16, 19], [20, 16], [21], [21], [21], [21], [22, 23, 21, 21], [25, 26, 24, 21], [24, 27, 21], [21, 28]] r (by kernel_rfl) (.e 30 (by kernel_rfl) (by kernel_rfl) (by kernel_rfl) (.skips 1 r (.nilS [2] r r (.drop .z (.drop .z ?_)))))))))
   exact .drop .z (.drop .z (.ret (pret results3 (.t r .n) le236 ⟨false, r, hd⟩)))
 refine .f [1] r (by kernel_rfl) r r (fun ex => .gno r r hb243 r r .mk) (.f [1] r (by kernel_rfl) r r (fun ex => .gno r r hb243 r r .mk) (.f [2, 3, 1, 1] r (by kernel_rfl) r r (fun ex => .gno r r hb243 r r .mk) (.f [1, 4] r (by kernel_rfl) r r (fun ex => .pickF r hb243 r r r .mk) (.fs [[5, 4], [6], [6], [7, 8, 6], [6, 9], [10, 6], [11], [11], [12, 13, 11, 11], [11, 14], [15, 14], [16], [16], [17, 18, 16], [16, 19], [20, 16], [21], [21], [21], [21], [22, 23, 21, 21], [25, 26, 24, 21], [24, 27, 21], [21, 28]] r (by kernel_rfl) (.e 30 (by kernel_rfl) (by kernel_rfl) (by kernel_rfl) (.skips 1 r (.nilS [2] r r (.drop .z (.drop .z ?_)))))))))
 exact .drop .z (.drop .z (.ret (pret results3 (.t r .n) le236 ⟨false, r, hd⟩)))

end Go.Proofs.YtdfiinkpdaggeaaGreat
