/- The walks (printed by a program of ours). -/
import Derived.Test.YtmidnfbbnmigeaaGreatV3
namespace Go.Proofs.YtmidnfbbnmigeaaGreat
open Go Go.Fw
set_option linter.unusedVariables false
set_option linter.unusedSimpArgs false
set_option maxRecDepth 8000
set_option maxHeartbeats 1000000
open Tryz
theorem W_ref16_Direction {I : IH} {a0 : Int} {a1 : Int} {a2 : Int}  {Q : Int → Prop}  (hd : ref16_Direction a0 a1 a2 Q) :
    PFun Tryz.prog 9 [.int .i64 a0, .int .i64 a1, .int .i64 a2] I (fun I_ v => ∃ r, v = .int .i64 r ∧ Q r) := by
 refine Fun.enter func9 r ntmps9 r (.c (.c (.c .n))) fun w0 M => ?_
 refine .seq (.region (.skips 1 r (.nilS [2, 1, 0] r r (.seq (.seq (.region (.skips 1 r (.eq r r r r (.skips 1 r ?_)))))))))
 refine splitP hd (fun hb3 hd => ?_) fun hb3 hd => ?_
 · rw [hb3]
   exact .skips 3 r (.nilS [12, 2, 1, 0] r r (.condKT r r (.seq (.region (.skips 2 r (.nilS [6] r r (.ret (pret results9 (.t r .n) (.refl _) ⟨a0, r, hd⟩))))))))
 rw [hb3]
 refine .gyes r r r (.move r r r (.gyes r r r (.eq r r r r (.skips 1 r (.nilS [12, 2, 1, 0] r r (.condP r hd (fun hb4 hd => ?_) fun hb4 hd => ?_))))))
 · exact .seq (.region (.skips 2 r (.nilS [6] r r (.ret (pret results9 (.t r .n) (.refl _) ⟨a0, r, hd⟩)))))
 refine .skipS [2, 1] r r (.seq (.seq (.region (.skips 2 r (.quo r r (by decide) r r (.le' r r r r (.nilS [17] r r (.condP r hd (fun hb5 hd => ?_) fun hb5 hd => ?_))))))))
 · exact .seq (.region (.skips 1 r (.nilS [6] r r (.ret (pret results9 (.t r .n) (.refl _) ⟨1, r, hd⟩)))))
 exact .skipS [] r r (.seq (.region (.skips 1 r (.nilS [6] r r (.ret (pret results9 (.t r .n) (.refl _) ⟨2, r, hd⟩))))))

theorem W_ref16_Shape {I : IH} {a0 : Int} {a1 : Int} {a2 : Int}  {Q : Int → Prop}  (hd : ref16_Shape a0 a1 a2 Q) :
    PFun Tryz.prog 11 [.int .i64 a0, .int .i64 a1, .int .i64 a2] I (fun I_ v => ∃ r, v = .int .i64 r ∧ Q r) := by
 refine Fun.enter func11 r ntmps11 r (.c (.c (.c .n))) fun w0 M => ?_
 refine .seq (.region (.skips 1 r (.nilS [2, 1, 0] r r (.seq (.seq (.region (.skips 1 r (.eq r r r r (.skips 1 r ?_)))))))))
 refine splitP hd (fun hb3 hd => ?_) fun hb3 hd => ?_
 · rw [hb3]
   exact .skips 3 r (.nilS [12, 2, 1, 0] r r (.condKT r r (.seq (.region (.skips 2 r (.nilS [6] r r (.ret (pret results11 (.t r .n) (.refl _) ⟨a0, r, hd⟩))))))))
 rw [hb3]
 refine .gyes r r r (.move r r r (.gyes r r r (.eq r r r r (.skips 1 r (.nilS [12, 2, 1, 0] r r (.condP r hd (fun hb4 hd => ?_) fun hb4 hd => ?_))))))
 · exact .seq (.region (.skips 2 r (.nilS [6] r r (.ret (pret results11 (.t r .n) (.refl _) ⟨a0, r, hd⟩)))))
 refine .skipS [2, 1] r r (.seq (.seq (.region (.skips 2 r (.quo r r (by decide) r r (.le' r r r r (.nilS [17] r r (.condP r hd (fun hb5 hd => ?_) fun hb5 hd => ?_))))))))
 · exact .seq (.region (.skips 1 r (.nilS [6] r r (.ret (pret results11 (.t r .n) (.refl _) ⟨1, r, hd⟩)))))
 exact .skipS [] r r (.seq (.region (.skips 1 r (.nilS [6] r r (.ret (pret results11 (.t r .n) (.refl _) ⟨2, r, hd⟩))))))

theorem W_law16_PolicyPicks {I : IH} {a0 : Int} {a1 : Int} {a2 : Int × Int}  {Q : Bool → Prop}  (hd : law16_PolicyPicks a0 a1 a2 Q) :
    PFun Tryz.prog 3 [.int .i64 a0, .int .i64 a1, .agg #[.int .i64 a2.1, .int .i64 a2.2]] I (fun I_ v => ∃ r, v = .bool r ∧ Q r) := by
 refine Fun.enter func3 r ntmps3 r (.c (.c (.c .n))) fun w0 M => ?_
 refine .seq (.region (.boxA r r r fun b3 => ?_))
 refine .skips 1 r (.nilS [5, 1, 0] r r (.seq (.draw [some 0, some 1, some 2, some 3, some 4, some 5, some 6, some 8, some 9, some 10, some 11, some 12, some 7, some 13, some 14, some 15, some 16, some 17, some 18, some 19, some 20, some 21, some 23, some 24, some 25, some 26, some 27, some 22, some 28, some 29, some 30] 31 MX (by kernel_rfl) (by kernel_rfl) (by kernel_rfl) (by kernel_rfl) (by kernel_rfl) (by kernel_rfl) (by kernel_rfl) (fun ex => (pto b3 (.cells #[.int .i64 a2.1, .int .i64 a2.2] 24 (0, 0))) :: ex) (fun _ _ => (.s .z)) r (.w [] [] [] r (by kernel_rfl) (by kernel_rfl) (by kernel_rfl) ((dropE_kept r r)) (.inr (dropE_kept r r)) fun ex => ?_))))
 have hw6 := W_law16_live (I := I) hd
 refine .callP call7 r hw6 r r fun v7 hv8 => ?_
 obtain ⟨r5, rfl, hd⟩ := hv8
 refine .some (fun ex => (pto b3 (.cells #[.int .i64 a2.1, .int .i64 a2.2] 24 (0, 0))) :: ex) r (fun _ _ => (.s .z)) r trivial (.fs [[0, 0]] r (by kernel_rfl) ?_)
 refine splitP hd (fun hb9 hd => ?_) fun hb9 hd => ?_
 · refine .f [1] r (by kernel_rfl) r r (fun ex => .gyes r r hb9 (.move r r r .mk)) (.f [1] r (by kernel_rfl) r r (fun ex => .gyes r r hb9 (.ixArr (i := 0) underlying24 sizeOf3 r r (by decide) (o := 0) r r r .mk)) (.f [3, 1] r (by kernel_rfl) r r (fun ex => .gyes r r hb9 (.load1 isAgg3 r .z r r r .mk)) (.f [1] r (by kernel_rfl) r r (fun ex => .gyes r r hb9 (.ixArr (i := 1) underlying24 sizeOf3 r r (by decide) (o := 1) r r r .mk)) (.f [5, 1] r (by kernel_rfl) r r (fun ex => .gyes r r hb9 (.load1 isAgg3 r .z r r r .mk)) (.f [1] r (by kernel_rfl) r r (fun ex => .gyes r r hb9 (.move r r r .mk)) (.f [1] r (by kernel_rfl) r r (fun ex => .gyes r r hb9 (.ixArr (i := 0) underlying24 sizeOf3 r r (by decide) (o := 0) r r r .mk)) (.f [9, 1] r (by kernel_rfl) r r (fun ex => .gyes r r hb9 (.load1 isAgg3 r .z r r r .mk)) (.f [1] r (by kernel_rfl) r r (fun ex => .gyes r r hb9 (.ixArr (i := 1) underlying24 sizeOf3 r r (by decide) (o := 1) r r r .mk)) (.f [11, 1] r (by kernel_rfl) r r (fun ex => .gyes r r hb9 (.load1 isAgg3 r .z r r r .mk)) ?_)))))))))
   refine .w [12, 11, 10, 9, 8] [[], [6], [], [4], [], []] [2, 4, 6, 1, 1] r (by kernel_rfl) (by kernel_rfl) (by kernel_rfl) ((dropE_kept r r)) (.inr (dropE_kept r r)) fun ex => ?_
   have hw11 := W_policy_Direction (I := I) hd
   refine .gyes r r hb9 (.callP call8 r hw11 r r fun v12 hv13 => ?_)
   obtain ⟨r10, rfl, hd⟩ := hv13
   refine .some (fun ex => (pto b3 (.cells #[.int .i64 a2.1, .int .i64 a2.2] 24 (0, 0))) :: ex) r (fun _ _ => (.s .z)) r (.cc [11, 1] r (by kernel_rfl) r r r (fun ex => .gyes r r hb9 (.load1 isAgg3 r .z r r r .mk)) (.cc [1] r (by kernel_rfl) r r r (fun ex => .gyes r r hb9 (.ixArr (i := 1) underlying24 sizeOf3 r r (by decide) (o := 1) r r r .mk)) (.cc [9, 1] r (by kernel_rfl) r r r (fun ex => .gyes r r hb9 (.load1 isAgg3 r .z r r r .mk)) (.cc [1] r (by kernel_rfl) r r r (fun ex => .gyes r r hb9 (.ixArr (i := 0) underlying24 sizeOf3 r r (by decide) (o := 0) r r r .mk)) (.cc [1] r (by kernel_rfl) r r r (fun ex => .gyes r r hb9 (.move r r r .mk)) trivial))))) (.w [] [[], [12], [], [10], []] [8, 10, 12, 7, 1] r (by kernel_rfl) (by kernel_rfl) (by kernel_rfl) ((dropE_kept r r)) (.inr (dropE_kept r r)) fun ex => ?_)
   have hw15 := W_ref16_Direction (I := I) hd
   refine .gyes r r hb9 (.callP call9 r hw15 r r fun v16 hv17 => ?_)
   obtain ⟨r14, rfl, hd⟩ := hv17
   refine .some (fun ex => (pto b3 (.cells #[.int .i64 a2.1, .int .i64 a2.2] 24 (0, 0))) :: ex) r (fun _ _ => (.s .z)) r trivial (.f [7, 13, 1] r (by kernel_rfl) r r (fun ex => .gyes r r hb9 (.eq r r r r .mk)) (.f [1, 14] r (by kernel_rfl) r r (fun ex => .pickT r hb9 r r r .mk) (.fs [[15, 13]] r (by kernel_rfl) ?_)))
   refine splitP hd (fun hb18 hd => ?_) fun hb18 hd => ?_
   · refine .f [16] r (by kernel_rfl) r r (fun ex => .gyes r r hb18 (.move r r r .mk)) (.f [16] r (by kernel_rfl) r r (fun ex => .gyes r r hb18 (.ixArr (i := 0) underlying24 sizeOf3 r r (by decide) (o := 0) r r r .mk)) (.f [18, 16] r (by kernel_rfl) r r (fun ex => .gyes r r hb18 (.load1 isAgg3 r .z r r r .mk)) (.f [16] r (by kernel_rfl) r r (fun ex => .gyes r r hb18 (.ixArr (i := 1) underlying24 sizeOf3 r r (by decide) (o := 1) r r r .mk)) (.f [20, 16] r (by kernel_rfl) r r (fun ex => .gyes r r hb18 (.load1 isAgg3 r .z r r r .mk)) (.f [16] r (by kernel_rfl) r r (fun ex => .gyes r r hb18 (.move r r r .mk)) (.f [16] r (by kernel_rfl) r r (fun ex => .gyes r r hb18 (.ixArr (i := 0) underlying24 sizeOf3 r r (by decide) (o := 0) r r r .mk)) (.f [24, 16] r (by kernel_rfl) r r (fun ex => .gyes r r hb18 (.load1 isAgg3 r .z r r r .mk)) (.f [16] r (by kernel_rfl) r r (fun ex => .gyes r r hb18 (.ixArr (i := 1) underlying24 sizeOf3 r r (by decide) (o := 1) r r r .mk)) (.f [26, 16] r (by kernel_rfl) r r (fun ex => .gyes r r hb18 (.load1 isAgg3 r .z r r r .mk)) ?_)))))))))
     refine .w [27, 26, 25, 24, 23] [[], [21], [], [19], [], [], [16], [15, 16]] [17, 19, 21, 16, 16] r (by kernel_rfl) (by kernel_rfl) (by kernel_rfl) ((dropE_kept r r)) (.inr (dropE_kept r r)) fun ex => ?_
     have hw20 := W_policy_Shape (I := I) hd
     refine .gyes r r hb18 (.callP call10 r hw20 r r fun v21 hv22 => ?_)
     obtain ⟨r19, rfl, hd⟩ := hv22
     refine .some (fun ex => (pto b3 (.cells #[.int .i64 a2.1, .int .i64 a2.2] 24 (0, 0))) :: ex) r (fun _ _ => (.s .z)) r (.cc [26, 16] r (by kernel_rfl) r r r (fun ex => .gyes r r hb18 (.load1 isAgg3 r .z r r r .mk)) (.cc [16] r (by kernel_rfl) r r r (fun ex => .gyes r r hb18 (.ixArr (i := 1) underlying24 sizeOf3 r r (by decide) (o := 1) r r r .mk)) (.cc [24, 16] r (by kernel_rfl) r r r (fun ex => .gyes r r hb18 (.load1 isAgg3 r .z r r r .mk)) (.cc [16] r (by kernel_rfl) r r r (fun ex => .gyes r r hb18 (.ixArr (i := 0) underlying24 sizeOf3 r r (by decide) (o := 0) r r r .mk)) (.cc [16] r (by kernel_rfl) r r r (fun ex => .gyes r r hb18 (.move r r r .mk)) trivial))))) (.w [] [[], [27], [], [25], []] [23, 25, 27, 22, 16] r (by kernel_rfl) (by kernel_rfl) (by kernel_rfl) ((dropE_kept r r)) (.inr (dropE_kept r r)) fun ex => ?_)
     have hw24 := W_ref16_Shape (I := I) hd
     refine .gyes r r hb18 (.callP call11 r hw24 r r fun v25 hv26 => ?_)
     obtain ⟨r23, rfl, hd⟩ := hv26
     exact .some (fun ex => (pto b3 (.cells #[.int .i64 a2.1, .int .i64 a2.2] 24 (0, 0))) :: ex) r (fun _ _ => (.s .z)) r trivial (.f [22, 28, 16] r (by kernel_rfl) r r (fun ex => .gyes r r hb18 (.eq r r r r .mk)) (.f [16, 29] r (by kernel_rfl) r r (fun ex => .pickT r hb18 r r r .mk) (.e 31 (by kernel_rfl) (by kernel_rfl) (by kernel_rfl) (.skips 1 r (.nilS [6] r r (.drop .z (.ret (pret results3 (.t r .n) (.refl _) ⟨(r19 == r23), r, hd⟩))))))))
   refine .f [16] r (by kernel_rfl) r r (fun ex => .gno r r hb18 r r .mk) (.f [16] r (by kernel_rfl) r r (fun ex => .gno r r hb18 r r .mk) (.f [18, 16] r (by kernel_rfl) r r (fun ex => .gno r r hb18 r r .mk) (.f [16] r (by kernel_rfl) r r (fun ex => .gno r r hb18 r r .mk) (.f [20, 16] r (by kernel_rfl) r r (fun ex => .gno r r hb18 r r .mk) (.f [16] r (by kernel_rfl) r r (fun ex => .gno r r hb18 r r .mk) (.f [16] r (by kernel_rfl) r r (fun ex => .gno r r hb18 r r .mk) (.f [24, 16] r (by kernel_rfl) r r (fun ex => .gno r r hb18 r r .mk) (.f [16] r (by kernel_rfl) r r (fun ex => .gno r r hb18 r r .mk) (.f [26, 16] r (by kernel_rfl) r r (fun ex => .gno r r hb18 r r .mk) ?_)))))))))
   exact .f [17, 19, 21, 16, 16] r (by kernel_rfl) r r (fun ex => .gno r r hb18 r r .mk) (.f [23, 25, 27, 22, 16] r (by kernel_rfl) r r (fun ex => .gno r r hb18 r r .mk) (.f [22, 28, 16] r (by kernel_rfl) r r (fun ex => .gno r r hb18 r r .mk) (.f [16, 29] r (by kernel_rfl) r r (fun ex => .pickF r hb18 r r r .mk) (.e 31 (by kernel_rfl) (by kernel_rfl) (by kernel_rfl) (.skips 1 r (.nilS [6] r r (.drop .z (.ret (pret results3 (.t r .n) (.refl _) ⟨false, r, hd⟩)))))))))
 refine .f [1] r (by kernel_rfl) r r (fun ex => .gno r r hb9 r r .mk) (.f [1] r (by kernel_rfl) r r (fun ex => .gno r r hb9 r r .mk) (.f [3, 1] r (by kernel_rfl) r r (fun ex => .gno r r hb9 r r .mk) (.f [1] r (by kernel_rfl) r r (fun ex => .gno r r hb9 r r .mk) (.f [5, 1] r (by kernel_rfl) r r (fun ex => .gno r r hb9 r r .mk) (.f [1] r (by kernel_rfl) r r (fun ex => .gno r r hb9 r r .mk) (.f [1] r (by kernel_rfl) r r (fun ex => .gno r r hb9 r r .mk) (.f [9, 1] r (by kernel_rfl) r r (fun ex => .gno r r hb9 r r .mk) (.f [1] r (by kernel_rfl) r r (fun ex => .gno r r hb9 r r .mk) (.f [11, 1] r (by kernel_rfl) r r (fun ex => .gno r r hb9 r r .mk) ?_)))))))))
 exact .f [2, 4, 6, 1, 1] r (by kernel_rfl) r r (fun ex => .gno r r hb9 r r .mk) (.f [8, 10, 12, 7, 1] r (by kernel_rfl) r r (fun ex => .gno r r hb9 r r .mk) (.f [7, 13, 1] r (by kernel_rfl) r r (fun ex => .gno r r hb9 r r .mk) (.f [1, 14] r (by kernel_rfl) r r (fun ex => .pickF r hb9 r r r .mk) (.fs [[15, 13], [16], [16], [18, 16], [16], [20, 16], [16], [16], [24, 16], [16], [26, 16], [17, 19, 21, 16, 16], [23, 25, 27, 22, 16], [22, 28, 16], [16, 29]] r (by kernel_rfl) (.e 31 (by kernel_rfl) (by kernel_rfl) (by kernel_rfl) (.skips 1 r (.nilS [6] r r (.drop .z (.ret (pret results3 (.t r .n) (.refl _) ⟨false, r, hd⟩))))))))))

end Go.Proofs.YtmidnfbbnmigeaaGreat
