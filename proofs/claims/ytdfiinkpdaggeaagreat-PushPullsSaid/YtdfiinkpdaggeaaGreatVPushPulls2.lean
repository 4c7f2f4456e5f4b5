/- The walks (printed by a program of ours). -/
import Derived.Test.YtdfiinkpdaggeaaGreatVPushPulls1
namespace Go.Proofs.YtdfiinkpdaggeaaGreat
open Go Go.Fw
set_option linter.unusedVariables false
set_option linter.unusedSimpArgs false
set_option maxRecDepth 8000
set_option maxHeartbeats 1000000
open Tryz
theorem W_law14_PushPulls {I : IH} {a0 : Law13_Task} {p1 : Option Addr} {c2 : Nat} {p4 : Option Addr} {c5 : Nat} {p7 : Option Addr} {c8 : Nat} {p10 : Option Addr} {c11 : Nat} {Q : Bool → Prop} (R3 : RepSl eTriple I p1 c2 a0.L) (R6 : RepSl eItem I p4 c5 a0.X) (R9 : RepSl eItem I p7 c8 a0.Y) (R12 : RepSl eU64 I p10 c11 a0.F) (hd : law14_PushPulls a0 Q) :
    PFun Tryz.prog 6 [.agg #[.int .i64 a0.Ring, .int .u8 a0.Size.1, .int .u8 a0.Size.2, .slice p1 a0.L.length c2, .slice p4 a0.X.length c5, .slice p7 a0.Y.length c8, .slice p10 a0.F.length c11, .bool a0.Others]] I (fun I_ v => ∃ r, v = .bool r ∧ Q r) := by
 refine Fun.enter func6 r ntmps6 r (.c .n) fun w0 M => ?_
 refine .seq (.region (.boxA r r r fun b15 => ?_))
 refine .skips 1 r (.nilS [1] r r (.seq (.region (.fieldAddr underlying28 r sizeOf22 r (o := 0) r r r (.load1 isAgg22 r .z r r r ?_)))))
 have hw22 := W_law13_Right (I := I) hd
 refine .callP call21 r hw22 r r fun v23 hv24 => ?_
 obtain ⟨r21, rfl, hd⟩ := hv24
 refine .skips 1 r (.nilS [3, 1] r r (.seq (.draw [some 0, some 2, some 3, some 4, some 6, some 8, some 9, some 1, some 5, some 7, none, some 10, some 11] 12 MX (by kernel_rfl) (by kernel_rfl) (by kernel_rfl) (by kernel_rfl) (by kernel_rfl) (by kernel_rfl) (by kernel_rfl) (fun ex => (pto b15 (.cells #[.int .i64 a0.Ring, .int .u8 a0.Size.1, .int .u8 a0.Size.2, .slice p1 a0.L.length c2, .slice p4 a0.X.length c5, .slice p7 a0.Y.length c8, .slice p10 a0.F.length c11, .bool a0.Others] 28 (0, 0))) :: ex) (fun _ _ => (.s .z)) r (.f [] r (by kernel_rfl) r r (fun ex => .loadW isAgg28 sizeOf28 r .z r r r .mk) (.f [] r (by kernel_rfl) r r (fun ex => .loadW isAgg28 sizeOf28 r .z r r r .mk) (.f [] r (by kernel_rfl) r r (fun ex => .fieldAddr underlying28 r sizeOf25 r (o := 4) r r r .mk) (.f [3] r (by kernel_rfl) r r (fun ex => .load1 isAgg25 r .z r r r .mk) (.f [] r (by kernel_rfl) r r (fun ex => .loadW isAgg28 sizeOf28 r .z r r r .mk) (.a (fun b => .pointer (some ⟨b, 0, none⟩)) (fun b => pto b (.cells #[.int .i64 0, .int .i64 0, .slice none 0 0, .slice none 0 0, .slice none 0 0] 35 (0, 0))) r r r r (fun _ L hL ex => .allocA zeroValue35 r r fun b => .mk (val := fun b => .pointer (some ⟨b, 0, none⟩)) (atom := fun b => pto b (.cells #[.int .i64 0, .int .i64 0, .slice none 0 0, .slice none 0 0, .slice none 0 0] 35 (0, 0))) hL b) ?_)))))))))
 refine .a (fun b => .pointer (some ⟨b, 0, none⟩)) (fun b => pto b (.cells #[.int .i64 0, .slice none 0 0] 38 (0, 0))) r r r r (fun _ L hL ex => .allocA zeroValue38 r r fun b => .mk (val := fun b => .pointer (some ⟨b, 0, none⟩)) (atom := fun b => pto b (.cells #[.int .i64 0, .slice none 0 0] 38 (0, 0))) hL b) (.w [6, 4, 3, 2] [[]] [0] r (by kernel_rfl) (by kernel_rfl) (by kernel_rfl) ((dropE_kept r r)) (.inr (dropE_kept r r)) fun ex => ?_)
 have hw85 := W_law13_Task_Matrix (I := I) R3 R6 R9 R12 hd
 refine .call call8 r hw85 r r fun v74 I71 hl72 hv73 => ?_
 obtain ⟨r70, p76, c77, p79, c80, p82, c83, rfl, R78, R81, R84, hd⟩ := hv73
 have le86 := IH.le.trans (.refl _) hl72
 replace R3 := R3.mono hl72
 replace R6 := R6.mono hl72
 replace R9 := R9.mono hl72
 replace R12 := R12.mono hl72
 refine .some (fun ex => (pto b15 (.cells #[.int .i64 a0.Ring, .int .u8 a0.Size.1, .int .u8 a0.Size.2, .slice p1 a0.L.length c2, .slice p4 a0.X.length c5, .slice p7 a0.Y.length c8, .slice p10 a0.F.length c11, .bool a0.Others] 28 (0, 0))) :: ex) r (fun _ _ => (.s .z)) r (.cc [] r (by kernel_rfl) r r r (fun ex => .loadW isAgg28 sizeOf28 r .z r r r .mk) (.cc [3] r (by kernel_rfl) r r r (fun ex => .load1 isAgg25 r .z r r r .mk) (.cc [] r (by kernel_rfl) r r r (fun ex => .fieldAddr underlying28 r sizeOf25 r (o := 4) r r r .mk) (.cc [] r (by kernel_rfl) r r r (fun ex => .loadW isAgg28 sizeOf28 r .z r r r .mk) trivial)))) (.w [6] [[], [4], []] [2, 4, 1] r (by kernel_rfl) (by kernel_rfl) (by kernel_rfl) ((dropE_kept r r)) (.inr (dropE_kept r r)) fun ex => ?_)
 have hw96 := W_law13_Task_Vector (I := I71) R3 R6 R9 R12 R6 hd
 refine .call call9 r hw96 r r fun v91 I88 hl89 hv90 => ?_
 obtain ⟨r87, p93, c94, rfl, R95, hd⟩ := hv90
 have le97 := IH.le.trans le86 hl89
 replace R3 := R3.mono hl89
 replace R6 := R6.mono hl89
 replace R9 := R9.mono hl89
 replace R12 := R12.mono hl89
 replace R78 := R78.mono hl89
 replace R81 := R81.mono hl89
 replace R84 := R84.mono hl89
 refine .some (fun ex => (pto b15 (.cells #[.int .i64 a0.Ring, .int .u8 a0.Size.1, .int .u8 a0.Size.2, .slice p1 a0.L.length c2, .slice p4 a0.X.length c5, .slice p7 a0.Y.length c8, .slice p10 a0.F.length c11, .bool a0.Others] 28 (0, 0))) :: ex) r (fun _ _ => (.s .z)) r (.cc [] r (by kernel_rfl) r r r (fun ex => .loadW isAgg28 sizeOf28 r .z r r r .mk) trivial) (.w [] [[]] [6, 5] r (by kernel_rfl) (by kernel_rfl) (by kernel_rfl) ((dropE_kept r r)) (.inr (dropE_kept r r)) fun ex => ?_)
 have hw107 := W_law13_Task_Rows (I := I88) R3 R6 R9 R12 hd
 refine .call call10 r hw107 r r fun v102 I99 hl100 hv101 => ?_
 obtain ⟨r98, p104, c105, rfl, R106, hd⟩ := hv101
 have le108 := IH.le.trans le97 hl100
 replace R3 := R3.mono hl100
 replace R6 := R6.mono hl100
 replace R9 := R9.mono hl100
 replace R12 := R12.mono hl100
 replace R78 := R78.mono hl100
 replace R81 := R81.mono hl100
 replace R84 := R84.mono hl100
 replace R95 := R95.mono hl100
 refine .some (fun ex => (pto b15 (.cells #[.int .i64 a0.Ring, .int .u8 a0.Size.1, .int .u8 a0.Size.2, .slice p1 a0.L.length c2, .slice p4 a0.X.length c5, .slice p7 a0.Y.length c8, .slice p10 a0.F.length c11, .bool a0.Others] 28 (0, 0))) :: ex) r (fun _ _ => (.s .z)) r trivial (.b r fun b109 b110 => DrawD.nop (.w [] [] [8, 1, 7, 0, 1, 8, 9] r (by kernel_rfl) (by kernel_rfl) (by kernel_rfl) ((dropE_none r)) (.inr (dropE_none r)) fun ex => ?_))
 refine .storeA sizeOf35 r r (.s (.s .z)) (.t (.t (.t (.t (.t .nil))))) r r (.none (fun ex => (pto b15 (.cells #[.int .i64 a0.Ring, .int .u8 a0.Size.1, .int .u8 a0.Size.2, .slice p1 a0.L.length c2, .slice p4 a0.X.length c5, .slice p7 a0.Y.length c8, .slice p10 a0.F.length c11, .bool a0.Others] 28 (0, 0))) :: (pto b109 (.cells #[.int .i64 0, .slice none 0 0] 38 (0, 0))) :: (pto b110 (.cells #[.int .i64 r70.Rows, .int .i64 r70.Cols, .slice p76 r70.Start.length c77, .slice p79 r70.Col.length c80, .slice p82 r70.Val.length c83] 35 (0, 0))) :: ex) r (fun _ _ => (.s (.s (.s .z)))) r trivial (.w [] [] [9, 5, 10, 0, 1, 2, 3, 4, 5, 8, 9, 10] r (by kernel_rfl) (by kernel_rfl) (by kernel_rfl) ((dropE_none r)) (.inr (dropE_none r)) fun ex => ?_))
 refine .storeA sizeOf38 r r (.s .z) (.t (.t .nil)) r r (.none (fun ex => (pto b15 (.cells #[.int .i64 a0.Ring, .int .u8 a0.Size.1, .int .u8 a0.Size.2, .slice p1 a0.L.length c2, .slice p4 a0.X.length c5, .slice p7 a0.Y.length c8, .slice p10 a0.F.length c11, .bool a0.Others] 28 (0, 0))) :: (pto b109 (.cells #[.int .i64 r87.N, .slice p93 r87.Items.length c94] 38 (0, 0))) :: (pto b110 (.cells #[.int .i64 r70.Rows, .int .i64 r70.Cols, .slice p76 r70.Start.length c77, .slice p79 r70.Col.length c80, .slice p82 r70.Val.length c83] 35 (0, 0))) :: ex) r (fun _ _ => (.s (.s (.s .z)))) r trivial (.e 12 (by kernel_rfl) (by kernel_rfl) (by kernel_rfl) (.skips 1 r (.nilS [6, 4, 5, 3, 1] r r (.seq (.draw [some 0, some 1, some 3, some 4, some 5, some 6, some 2, some 7, some 8, some 9, some 10, some 11] 12 MX (by kernel_rfl) (by kernel_rfl) (by kernel_rfl) (by kernel_rfl) (by kernel_rfl) (by kernel_rfl) (by kernel_rfl) (fun ex => (pto b15 (.cells #[.int .i64 a0.Ring, .int .u8 a0.Size.1, .int .u8 a0.Size.2, .slice p1 a0.L.length c2, .slice p4 a0.X.length c5, .slice p7 a0.Y.length c8, .slice p10 a0.F.length c11, .bool a0.Others] 28 (0, 0))) :: (pto b109 (.cells #[.int .i64 r87.N, .slice p93 r87.Items.length c94] 38 (0, 0))) :: (pto b110 (.cells #[.int .i64 r70.Rows, .int .i64 r70.Cols, .slice p76 r70.Start.length c77, .slice p79 r70.Col.length c80, .slice p82 r70.Val.length c83] 35 (0, 0))) :: ex) (fun _ _ => (.s (.s (.s .z)))) r (.fs [[]] r (by kernel_rfl) (.f [] r (by kernel_rfl) r r (fun ex => .loadW isAgg35 sizeOf35 r (.s (.s .z)) r r r .mk) (.f [] r (by kernel_rfl) r r (fun ex => .loadW isAgg38 sizeOf38 r (.s .z) r r r .mk) ?_)))))))))
 refine .fs [[]] r (by kernel_rfl) (.f [] r (by kernel_rfl) r r (fun ex => .fieldAddr underlying28 r sizeOf4 r (o := 7) r r r .mk) (.f [5] r (by kernel_rfl) r r (fun ex => .load1 isAgg4 r .z r r r .mk) (.w [6, 5, 4, 3, 0] [[]] [1] r (by kernel_rfl) (by kernel_rfl) (by kernel_rfl) ((dropE_kept r r)) (.inr (dropE_kept r r)) fun ex => ?_)))
 have hw160 := W_dcsc_Of (I := I99) R78 R81 R84 hd
 refine .call call25 r hw160 r r fun v146 I143 hl144 hv145 => ?_
 obtain ⟨r142, p148, c149, p151, c152, p154, c155, p157, c158, rfl, R150, R153, R156, R159, hd⟩ := hv145
 have le161 := IH.le.trans le108 hl144
 replace R3 := R3.mono hl144
 replace R6 := R6.mono hl144
 replace R9 := R9.mono hl144
 replace R12 := R12.mono hl144
 replace R78 := R78.mono hl144
 replace R81 := R81.mono hl144
 replace R84 := R84.mono hl144
 replace R95 := R95.mono hl144
 replace R106 := R106.mono hl144
 refine .some (fun ex => (pto b15 (.cells #[.int .i64 a0.Ring, .int .u8 a0.Size.1, .int .u8 a0.Size.2, .slice p1 a0.L.length c2, .slice p4 a0.X.length c5, .slice p7 a0.Y.length c8, .slice p10 a0.F.length c11, .bool a0.Others] 28 (0, 0))) :: (pto b109 (.cells #[.int .i64 r87.N, .slice p93 r87.Items.length c94] 38 (0, 0))) :: (pto b110 (.cells #[.int .i64 r70.Rows, .int .i64 r70.Cols, .slice p76 r70.Start.length c77, .slice p79 r70.Col.length c80, .slice p82 r70.Val.length c83] 35 (0, 0))) :: ex) r (fun _ _ => (.s (.s (.s .z)))) r (.cc [5] r (by kernel_rfl) r r r (fun ex => .load1 isAgg4 r .z r r r .mk) (.cc [] r (by kernel_rfl) r r r (fun ex => .fieldAddr underlying28 r sizeOf4 r (o := 7) r r r .mk) (.ccs [[]] r r (by kernel_rfl) (.cc [] r (by kernel_rfl) r r r (fun ex => .loadW isAgg38 sizeOf38 r (.s .z) r r r .mk) (.ccs [[]] r r (by kernel_rfl) trivial))))) (.w [] [[], [6], [], [], []] [0, 2, 3, 4, 6, 2] r (by kernel_rfl) (by kernel_rfl) (by kernel_rfl) ((dropE_kept r r)) (.inr (dropE_kept r r)) fun ex => ?_)
 have hw171 := W_push_Sums (I := I143) R150 R153 R156 R159 R95 R106 hd
 refine .call call11 r hw171 r r fun v166 I163 hl164 hv165 => ?_
 obtain ⟨r162, p168, c169, rfl, R170, hd⟩ := hv165
 have le172 := IH.le.trans le161 hl164
 replace R3 := R3.mono hl164
 replace R6 := R6.mono hl164
 replace R9 := R9.mono hl164
 replace R12 := R12.mono hl164
 replace R78 := R78.mono hl164
 replace R81 := R81.mono hl164
 replace R84 := R84.mono hl164
 replace R95 := R95.mono hl164
 replace R106 := R106.mono hl164
 replace R150 := R150.mono hl164
 replace R153 := R153.mono hl164
 replace R156 := R156.mono hl164
 replace R159 := R159.mono hl164
 refine .some (fun ex => (pto b15 (.cells #[.int .i64 a0.Ring, .int .u8 a0.Size.1, .int .u8 a0.Size.2, .slice p1 a0.L.length c2, .slice p4 a0.X.length c5, .slice p7 a0.Y.length c8, .slice p10 a0.F.length c11, .bool a0.Others] 28 (0, 0))) :: (pto b109 (.cells #[.int .i64 r87.N, .slice p93 r87.Items.length c94] 38 (0, 0))) :: (pto b110 (.cells #[.int .i64 r70.Rows, .int .i64 r70.Cols, .slice p76 r70.Start.length c77, .slice p79 r70.Col.length c80, .slice p82 r70.Val.length c83] 35 (0, 0))) :: ex) r (fun _ _ => (.s (.s (.s .z)))) r trivial (.fs [[7]] r (by kernel_rfl) (.f [8] r (by kernel_rfl) r r (fun ex => .extract r r r r .mk) (.f [8] r (by kernel_rfl) r r (fun ex => .extract r r r r .mk) (.fs [[9, 7, 0, 1, 2, 3, 4, 5, 6, 7, 8, 9]] r (by kernel_rfl) (.e 12 (by kernel_rfl) (by kernel_rfl) (by kernel_rfl) (.skips 1 r (.nilS [8, 7, 6, 4, 5, 3, 1] r r (.seq (.draw [some 0, some 1, some 2, some 4, some 5, some 6, some 3, some 7, some 8, some 9, some 10, some 11] 12 MX (by kernel_rfl) (by kernel_rfl) (by kernel_rfl) (by kernel_rfl) (by kernel_rfl) (by kernel_rfl) (by kernel_rfl) (fun ex => (pto b15 (.cells #[.int .i64 a0.Ring, .int .u8 a0.Size.1, .int .u8 a0.Size.2, .slice p1 a0.L.length c2, .slice p4 a0.X.length c5, .slice p7 a0.Y.length c8, .slice p10 a0.F.length c11, .bool a0.Others] 28 (0, 0))) :: (pto b109 (.cells #[.int .i64 r87.N, .slice p93 r87.Items.length c94] 38 (0, 0))) :: (pto b110 (.cells #[.int .i64 r70.Rows, .int .i64 r70.Cols, .slice p76 r70.Start.length c77, .slice p79 r70.Col.length c80, .slice p82 r70.Val.length c83] 35 (0, 0))) :: ex) (fun _ _ => (.s (.s (.s .z)))) r ?_)))))))))
 refine .fs [[]] r (by kernel_rfl) (.f [] r (by kernel_rfl) r r (fun ex => .loadW isAgg35 sizeOf35 r (.s (.s .z)) r r r .mk) (.f [] r (by kernel_rfl) r r (fun ex => .loadW isAgg38 sizeOf38 r (.s .z) r r r .mk) (.fs [[]] r (by kernel_rfl) (.f [] r (by kernel_rfl) r r (fun ex => .fieldAddr underlying28 r sizeOf4 r (o := 7) r r r .mk) (.f [5] r (by kernel_rfl) r r (fun ex => .load1 isAgg4 r .z r r r .mk) (.w [6, 5, 4, 1, 0] [[]] [2] r (by kernel_rfl) (by kernel_rfl) (by kernel_rfl) ((dropE_kept r r)) (.inr (dropE_kept r r)) fun ex => ?_))))))
 have hw210 := W_devec_Of (I := I163) R95 hd
 refine .call call27 r hw210 r r fun v202 I199 hl200 hv201 => ?_
 obtain ⟨r198, p204, c205, p207, c208, rfl, R206, R209, hd⟩ := hv201
 have le211 := IH.le.trans le172 hl200
 replace R3 := R3.mono hl200
 replace R6 := R6.mono hl200
 replace R9 := R9.mono hl200
 replace R12 := R12.mono hl200
 replace R78 := R78.mono hl200
 replace R81 := R81.mono hl200
 replace R84 := R84.mono hl200
 replace R95 := R95.mono hl200
 replace R106 := R106.mono hl200
 replace R170 := R170.mono hl200
 refine .some (fun ex => (pto b15 (.cells #[.int .i64 a0.Ring, .int .u8 a0.Size.1, .int .u8 a0.Size.2, .slice p1 a0.L.length c2, .slice p4 a0.X.length c5, .slice p7 a0.Y.length c8, .slice p10 a0.F.length c11, .bool a0.Others] 28 (0, 0))) :: (pto b109 (.cells #[.int .i64 r87.N, .slice p93 r87.Items.length c94] 38 (0, 0))) :: (pto b110 (.cells #[.int .i64 r70.Rows, .int .i64 r70.Cols, .slice p76 r70.Start.length c77, .slice p79 r70.Col.length c80, .slice p82 r70.Val.length c83] 35 (0, 0))) :: ex) r (fun _ _ => (.s (.s (.s .z)))) r (.cc [5] r (by kernel_rfl) r r r (fun ex => .load1 isAgg4 r .z r r r .mk) (.cc [] r (by kernel_rfl) r r r (fun ex => .fieldAddr underlying28 r sizeOf4 r (o := 7) r r r .mk) (.ccs [[]] r r (by kernel_rfl) (.cc [] r (by kernel_rfl) r r r (fun ex => .loadW isAgg35 sizeOf35 r (.s (.s .z)) r r r .mk) (.ccs [[]] r r (by kernel_rfl) trivial))))) (.w [] [[], [6], [], [], []] [0, 1, 3, 4, 6, 3] r (by kernel_rfl) (by kernel_rfl) (by kernel_rfl) ((dropE_kept r r)) (.inr (dropE_kept r r)) fun ex => ?_)
 have hw221 := W_pull_Sums (I := I199) R78 R81 R84 R206 R209 R106 hd
 refine .call call26 r hw221 r r fun v216 I213 hl214 hv215 => ?_
 obtain ⟨r212, p218, c219, rfl, R220, hd⟩ := hv215
 have le222 := IH.le.trans le211 hl214
 replace R3 := R3.mono hl214
 replace R6 := R6.mono hl214
 replace R9 := R9.mono hl214
 replace R12 := R12.mono hl214
 replace R78 := R78.mono hl214
 replace R81 := R81.mono hl214
 replace R84 := R84.mono hl214
 replace R95 := R95.mono hl214
 replace R106 := R106.mono hl214
 replace R170 := R170.mono hl214
 replace R206 := R206.mono hl214
 replace R209 := R209.mono hl214
 refine .some (fun ex => (pto b15 (.cells #[.int .i64 a0.Ring, .int .u8 a0.Size.1, .int .u8 a0.Size.2, .slice p1 a0.L.length c2, .slice p4 a0.X.length c5, .slice p7 a0.Y.length c8, .slice p10 a0.F.length c11, .bool a0.Others] 28 (0, 0))) :: (pto b109 (.cells #[.int .i64 r87.N, .slice p93 r87.Items.length c94] 38 (0, 0))) :: (pto b110 (.cells #[.int .i64 r70.Rows, .int .i64 r70.Cols, .slice p76 r70.Start.length c77, .slice p79 r70.Col.length c80, .slice p82 r70.Val.length c83] 35 (0, 0))) :: ex) r (fun _ _ => (.s (.s (.s .z)))) r trivial (.fs [[7]] r (by kernel_rfl) (.f [8] r (by kernel_rfl) r r (fun ex => .extract r r r r .mk) (.f [8] r (by kernel_rfl) r r (fun ex => .extract r r r r .mk) (.fs [[9, 7, 0, 1, 2, 3, 4, 5, 6, 7, 8, 9]] r (by kernel_rfl) (.e 12 (by kernel_rfl) (by kernel_rfl) (by kernel_rfl) (.skips 1 r (.nilS [10, 9, 8, 7] r r (.drop .z (.drop .z ?_)))))))))
 refine .drop .z (.seq (.region ?_))
 have hw224 := W_law14_live (I := I213) hd
 refine .callP call15 r hw224 r r fun v225 hv226 => ?_
 obtain ⟨r223, rfl, hd⟩ := hv226
 refine .skips 1 r ?_
 refine splitP hd (fun hb227 hd => ?_) fun hb227 hd => ?_
 · rw [hb227]
   refine .gyes r r r (.move r r r (.gyes r r r (.eq r r r r (.skips 2 r ?_))))
   refine splitP hd (fun hb228 hd => ?_) fun hb228 hd => ?_
   · rw [hb228]
     refine .gyes r r r (.move r r r (.gyes r r r (.eq r r r r (.skips 2 r ?_))))
     refine splitP hd (fun hb229 hd => ?_) fun hb229 hd => ?_
     · rw [hb229]
       refine .gyes r r r (.move r r r (.gyes r r r (.move r r r ?_)))
       have hw231 := W_ref13_SameSums (I := I213) R170 R220 hd
       refine .gyes r r r (.callP call16 r hw231 r r fun v232 hv233 => ?_)
       obtain ⟨r230, rfl, hd⟩ := hv233
       exact .skips 2 r (.nilS [2] r r (.ret (pret results6 (.t r .n) le222 ⟨r230, r, hd⟩)))
     rw [hb229]
     exact .skips 5 r (.nilS [2] r r (.ret (pret results6 (.t r .n) le222 ⟨false, r, hd⟩)))
   rw [hb228]
   exact .skips 9 r (.nilS [2] r r (.ret (pret results6 (.t r .n) le222 ⟨false, r, hd⟩)))
 rw [hb227]
 exact .skips 13 r (.nilS [2] r r (.ret (pret results6 (.t r .n) le222 ⟨false, r, hd⟩)))

end Go.Proofs.YtdfiinkpdaggeaaGreat
