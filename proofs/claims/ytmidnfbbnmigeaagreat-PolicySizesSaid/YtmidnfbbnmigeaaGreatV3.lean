/- The walks (printed by a program of ours). -/
import Derived.Test.YtmidnfbbnmigeaaGreatV2
namespace Go.Proofs.YtmidnfbbnmigeaaGreat
open Go Go.Fw
set_option linter.unusedVariables false
set_option linter.unusedSimpArgs false
set_option maxRecDepth 8000
set_option maxHeartbeats 1000000
open Tryz
theorem W_push_Sums {I : IH} {a0 : Int} {a1 : Columns} {a2 : Vec} {a3 : List Int} {a4 : Bool} {p1 : Option Addr} {c2 : Nat} {p4 : Option Addr} {c5 : Nat} {p7 : Option Addr} {c8 : Nat} {p10 : Option Addr} {c11 : Nat} {p13 : Option Addr} {c14 : Nat} {p16 : Option Addr} {c17 : Nat} {Q : ((List Sum) × Int) → Prop} (R3 : RepSl eI64 I p1 c2 a1.At) (R6 : RepSl eI64 I p4 c5 a1.Start) (R9 : RepSl eI64 I p7 c8 a1.Row) (R12 : RepSl eI64 I p10 c11 a1.Val) (R15 : RepSl eItem I p13 c14 a2.Items) (R18 : RepSl eU64 I p16 c17 a3) (hd : push_Sums a0 a1 a2 a3 a4 Q) :
    PFun Tryz.prog 74 [.int .i64 a0, .agg #[.int .i64 a1.Rows, .int .i64 a1.Cols, .slice p1 a1.At.length c2, .slice p4 a1.Start.length c5, .slice p7 a1.Row.length c8, .slice p10 a1.Val.length c11], .agg #[.int .i64 a2.N, .slice p13 a2.Items.length c14], .slice p16 a3.length c17, .bool a4] I (fun I_ v => ∃ r p19 c20, v = .tuple #[.slice p19 r.1.length c20, .int .i64 r.2] ∧ RepSl eSum I_ p19 c20 r.1 ∧ Q r) := by
 refine Fun.enter func74 r ntmps74 r (.c (.c (.c (.c (.c .n))))) fun w0 M => ?_
 refine .seq (.region (.boxA r r r fun b26 => ?_))
 refine .boxA r r r fun b28 => ?_
 refine .skips 2 r (.nilS [7, 6, 4, 3, 0] r r (.seq (.region (.loadW isAgg50 sizeOf50 r (.s .z) r r r (.loadW isAgg42 sizeOf42 r .z r r r ?_)))))
 have hw74 := W_push_sure (I := I) R3 R6 R9 R12 R15 hd
 refine .call call108 r hw74 r r fun v57 I54 hl55 hv56 => ?_
 obtain ⟨r53, p59, c60, p62, c63, p65, c66, p68, c69, p71, c72, rfl, R61, R64, R67, R70, R73, hd⟩ := hv56
 have le75 := IH.le.trans (.refl _) hl55
 replace R3 := R3.mono hl55
 replace R6 := R6.mono hl55
 replace R9 := R9.mono hl55
 replace R12 := R12.mono hl55
 replace R15 := R15.mono hl55
 replace R18 := R18.mono hl55
 refine .skips 1 r (.extract r r r r (.extract r r r r (.storeA sizeOf50 r r (.s .z) (.t (.t (.t (.t (.t (.t .nil)))))) r r (.storeA sizeOf42 r r .z (.t (.t .nil)) r r (.nilS [7, 6, 4, 3, 0] r r (.seq (.block (.seq (.region ?_)))))))))
 refine .skips 1 r ?_
 have hw91 := W_ring_Is (I := I54) hd
 refine .callP call109 r hw91 r r fun v92 hv93 => ?_
 obtain ⟨r90, rfl, hd⟩ := hv93
 refine .not r r r (.skips 1 r (.nilS [21, 7, 6, 4, 3, 0] r r (.condP r hd (fun hb94 hd => ?_) fun hb94 hd => ?_)))
 · exact .seq (.region (.skips 2 r (.nilS [11, 10] r r (.drop .z (.drop .z (.ret (pret results74 (.t r (.t r .n)) le75 ⟨(([] : List Sum), 8), _, _, r, (.nil _ _ _), hd⟩)))))))
 refine .seq (.region (.fieldAddr underlying42 r sizeOf3 r (o := 0) r r r (.load1 isAgg3 r .z r r r (.fieldAddr underlying50 r sizeOf3 r (o := 1) r r r (.load1 isAgg3 r (.s .z) r r r (.ne r r r r (.skips 1 r (.nilS [25, 7, 6, 4, 3, 0] r r (.condP r hd (fun hb95 hd => ?_) fun hb95 hd => ?_)))))))))
 · exact .seq (.region (.skips 2 r (.nilS [11, 10] r r (.drop .z (.drop .z (.ret (pret results74 (.t r (.t r .n)) le75 ⟨(([] : List Sum), 4), _, _, r, (.nil _ _ _), hd⟩)))))))
 refine .skipS [7, 6, 4, 3, 0] r r (.seq (.region (.skips 1 r (.nilS [12, 7, 6, 4, 3, 0] r r (.seq (.seq (.region (.fieldAddr underlying42 r sizeOf32 r (o := 1) r r r (.load1 isAgg32 r .z r r r ?_)))))))))
 refine .len underlying32 r r r r (.skips 1 r (.nilS [34, 33, 32, 12, 6, 4, 3, 0] r r (.drop .z (.block (.own0 (slEl eSum) 45 (.loop hd (fun (s : (List (List Sum)) × Int) c w => match s with | (s220, s224) => ∃ I_ p221 c222, IH.le I54 I_ ∧ Ok ⟨57, [], none⟩ [(0, .int .i64 a0), (3, .slice p16 a3.length c17), (4, .bool a4), (6, .pointer (some ⟨b26, 0, none⟩)), (12, .slice p221 s220.length c222), (32, .slice p71 r53.2.Items.length c72), (33, .int .i64 (r53.2.Items.length : Int)), (34, .int .i64 s224)] c ∧ Sym w0 M I I_ [pto b26 (.cells #[.int .i64 r53.1.Rows, .int .i64 r53.1.Cols, .slice p59 r53.1.At.length c60, .slice p62 r53.1.Start.length c63, .slice p65 r53.1.Row.length c66, .slice p68 r53.1.Val.length c69] 50 (0, 0)), OwnSl (slEl eSum) 45 p221 c222 s220] w) (fun c w ho hs => ⟨I54, _, _, (.refl _), ho.sub ⟨r, r, r, r, r, r, r, r, trivial⟩, hs.pick (.c (.s .z) (.c .z .n))⟩) ?_))))))
 rintro ⟨s220, s224⟩ next226 hd c w hst
 obtain ⟨I227, p221, c222, hl228, hok, hsym⟩ := hst
 have le229 := IH.le.trans le75 hl228
 have le230 := IH.le.trans (.refl _) hl228
 replace R18 := R18.mono hl228
 replace R61 := R61.mono hl228
 replace R64 := R64.mono hl228
 replace R67 := R67.mono hl228
 replace R70 := R70.mono hl228
 replace R73 := R73.mono hl228
 refine Cod.at hok hsym (.seq (.region (.lt r r r r (.nilS [35, 34, 33, 32, 12, 6, 4, 3, 0] r r (.seq (.condP r hd (fun hb232 hd => ?_) fun hb232 hd => ?_))))))
 · refine .skipS [34, 33, 32, 12, 6, 4, 3, 0] r r (.seq (.block (.seq (.region ?_))))
   obtain ⟨h244, x245, hx246, hd⟩ := hd
   obtain ⟨b247, o248, cs249, e250, hC251, hr252⟩ := R73.2 _ _ hx246
   cases hr252
   refine .ixa underlying32 sizeOf80 r e250 r h244 (idx_lt hx246 h244) r r (.ldW isAgg80 sizeOf80 hC251 r r r r (.allocA zeroValue80 r r fun b253 => ?_))
   refine .storeA sizeOf80 r r .z (.t (.t .nil)) r r (.nilS [14, 34, 33, 32, 12, 6, 4, 3, 0] r r (.draw [some 0, some 1, some 2, some 3, some 4, some 6, some 7, some 8, some 9, some 5, some 10, some 11, some 12] 13 MX (by kernel_rfl) (by kernel_rfl) (by kernel_rfl) (by kernel_rfl) (by kernel_rfl) (by kernel_rfl) (by kernel_rfl) (fun ex => (pto b253 (.cells #[.int .i64 x245.At, .int .i64 x245.Val] 80 (0, 0))) :: (pto b26 (.cells #[.int .i64 r53.1.Rows, .int .i64 r53.1.Cols, .slice p59 r53.1.At.length c60, .slice p62 r53.1.Start.length c63, .slice p65 r53.1.Row.length c66, .slice p68 r53.1.Val.length c69] 50 (0, 0))) :: (OwnSl (slEl eSum) 45 p221 c222 s220) :: ex) (fun _ _ => (.s (.s (.s .z)))) r (.fs [[], []] r (by kernel_rfl) (.f [] r (by kernel_rfl) r r (fun ex => .loadW isAgg50 sizeOf50 r (.s .z) r r r .mk) (.f [] r (by kernel_rfl) r r (fun ex => .fieldAddr underlying80 r sizeOf3 r (o := 0) r r r .mk) (.f [3] r (by kernel_rfl) r r (fun ex => .load1 isAgg3 r .z r r r .mk) (.f [] r (by kernel_rfl) r r (fun ex => .fieldAddr underlying80 r sizeOf2 r (o := 1) r r r .mk) (.f [6] r (by kernel_rfl) r r (fun ex => .load1 isAgg2 r .z r r r .mk) (.fs [[], []] r (by kernel_rfl) ?_)))))))))
   refine .w [9, 8, 7, 6, 1, 0] [[], [4], []] [2, 4] r (by kernel_rfl) (by kernel_rfl) (by kernel_rfl) ((dropE_kept r r)) (.inr (dropE_kept r r)) fun ex => ?_
   have hw264 := W_dcsc_Column (I := I227) R61 R64 R67 R70 hd
   refine .call call111 r hw264 r r fun v259 I256 hl257 hv258 => ?_
   obtain ⟨r255, p261, c262, rfl, R263, hd⟩ := hv258
   have le265 := IH.le.trans le229 hl257
   have le266 := IH.le.trans le230 hl257
   replace R18 := R18.mono hl257
   replace R61 := R61.mono hl257
   replace R64 := R64.mono hl257
   replace R67 := R67.mono hl257
   replace R70 := R70.mono hl257
   replace R73 := R73.mono hl257
   refine .some (fun ex => (pto b253 (.cells #[.int .i64 x245.At, .int .i64 x245.Val] 80 (0, 0))) :: (pto b26 (.cells #[.int .i64 r53.1.Rows, .int .i64 r53.1.Cols, .slice p59 r53.1.At.length c60, .slice p62 r53.1.Start.length c63, .slice p65 r53.1.Row.length c66, .slice p68 r53.1.Val.length c69] 50 (0, 0))) :: (OwnSl (slEl eSum) 45 p221 c222 s220) :: ex) r (fun _ _ => (.s (.s (.s .z)))) r (.ccs [[], []] r r (by kernel_rfl) (.cc [6] r (by kernel_rfl) r r r (fun ex => .load1 isAgg2 r .z r r r .mk) (.cc [] r (by kernel_rfl) r r r (fun ex => .fieldAddr underlying80 r sizeOf2 r (o := 1) r r r .mk) (.ccs [[], []] r r (by kernel_rfl) trivial)))) (.w [0] [[], [], [], [7], []] [1, 5, 7, 8, 9, 5] r (by kernel_rfl) (by kernel_rfl) (by kernel_rfl) ((dropE_kept r r)) (.inr (dropE_kept r r)) fun ex => ?_)
   have hw276 := W_push_column (I := I256) R263 R18 hd
   refine .call call110 r hw276 r r fun v271 I268 hl269 hv270 => ?_
   obtain ⟨r267, p273, c274, rfl, R275, hd⟩ := hv270
   have le277 := IH.le.trans le265 hl269
   have le278 := IH.le.trans le266 hl269
   replace R18 := R18.mono hl269
   replace R61 := R61.mono hl269
   replace R64 := R64.mono hl269
   replace R67 := R67.mono hl269
   replace R70 := R70.mono hl269
   replace R73 := R73.mono hl269
   replace R263 := R263.mono hl269
   refine .some (fun ex => (pto b253 (.cells #[.int .i64 x245.At, .int .i64 x245.Val] 80 (0, 0))) :: (pto b26 (.cells #[.int .i64 r53.1.Rows, .int .i64 r53.1.Cols, .slice p59 r53.1.At.length c60, .slice p62 r53.1.Start.length c63, .slice p65 r53.1.Row.length c66, .slice p68 r53.1.Val.length c69] 50 (0, 0))) :: (OwnSl (slEl eSum) 45 p221 c222 s220) :: ex) r (fun _ _ => (.s (.s (.s .z)))) r (.ccs [[]] r r (by kernel_rfl) trivial) (.w [0] [] [10] r (by kernel_rfl) (by kernel_rfl) (by kernel_rfl) ((dropE_kept r r)) (.inr (dropE_kept r r)) fun ex => ?_)
   refine .buildSlice 1 underlying155 sizeOf45 zeroValue45 r r (.c r r r .n) r r fun b279 => ?_
   refine .some (fun ex => (pto b279 (.cells #[.slice p273 r267.length c274] 45 (0, 0))) :: (pto b253 (.cells #[.int .i64 x245.At, .int .i64 x245.Val] 80 (0, 0))) :: (pto b26 (.cells #[.int .i64 r53.1.Rows, .int .i64 r53.1.Cols, .slice p59 r53.1.At.length c60, .slice p62 r53.1.Start.length c63, .slice p65 r53.1.Row.length c66, .slice p68 r53.1.Val.length c69] 50 (0, 0))) :: (OwnSl (slEl eSum) 45 p221 c222 s220) :: ex) r (fun _ _ => (.s (.s (.s (.s .z))))) r (.ccs [[]] r r (by kernel_rfl) trivial) (.w [] [[]] [0, 11, 10] r (by kernel_rfl) (by kernel_rfl) (by kernel_rfl) ((dropE_kept r r)) (.inr (dropE_kept r r)) fun ex => ?_)
   obtain ⟨hl281, hd⟩ := hd
   refine .append (ys := [r267]) 24 (.s (.s (.s .z))) underlying155 underlying155 IN45 r r r r r r r r r (.box .z (.one ⟨_, _, r, R275⟩) r) hl281 r r fun p282 c283 => ?_
   refine .some (fun ex => (OwnSl (slEl eSum) 45 p282 c283 (s220 ++ ([r267]))) :: (pto b279 (.cells #[.slice p273 r267.length c274] 45 (0, 0))) :: (pto b253 (.cells #[.int .i64 x245.At, .int .i64 x245.Val] 80 (0, 0))) :: (pto b26 (.cells #[.int .i64 r53.1.Rows, .int .i64 r53.1.Cols, .slice p59 r53.1.At.length c60, .slice p62 r53.1.Start.length c63, .slice p65 r53.1.Row.length c66, .slice p68 r53.1.Val.length c69] 50 (0, 0))) :: ex) r (fun _ _ => (.s (.s (.s (.s .z))))) r trivial (.e 13 (by kernel_rfl) (by kernel_rfl) (by kernel_rfl) (.sub (E' := [(0, _), (3, _), (4, _), (6, _), (32, _), (33, _), (34, _), (14, _), (38, _), (39, _), (40, _), (41, _), (42, _), (44, _), (45, _), (46, _), (47, _), (43, _), (48, _), (49, _), (50, _)]) ⟨r, r, r, r, r, r, r, r, r, r, r, r, r, r, r, r, r, r, r, r, r, trivial⟩ (.skips 1 r (.nilS [12, 34, 33, 32, 6, 4, 3, 0] r r (.drop (.s .z) (.drop (.s .z) (.region (.add r r r r (.sub (E' := [(0, _), (3, _), (4, _), (6, _), (32, _), (33, _), (12, _), (51, _)]) ⟨r, r, r, r, r, r, r, r, trivial⟩ ?_)))))))))
   exact .skips 1 r (.nil' fun c w ho hs => ⟨((s220 ++ ([r267])), w64 (s224 + 1)), hd, I268, _, _, le278, ho.sub ⟨r, r, r, r, r, r, r, r, trivial⟩, hs.pick (.c (.s .z) (.c .z .n))⟩)
 refine .exitS [12, 0] r r (.drop .z (.seq (.region (.skips 2 r (.pub .z fun I285 hl286 R287 => ?_)))))
 have le288 := IH.le.trans le229 hl286
 have le289 := IH.le.trans le230 hl286
 have hw299 := W_push_Merge (I := I285) R287 hd
 refine .call call112 r hw299 r r fun v294 I291 hl292 hv293 => ?_
 obtain ⟨r290, p296, c297, rfl, R298, hd⟩ := hv293
 have le300 := IH.le.trans le288 hl292
 have le301 := IH.le.trans le289 hl292
 replace R287 := R287.mono hl292
 exact .extract r r r r (.extract r r r r (.skips 2 r (.nilS [11, 10] r r (.ret (pret results74 (.t r (.t r .n)) le300 ⟨(r290.1, r290.2), _, _, r, R298, hd⟩)))))

theorem W_csr_bounds {I : IH} {a0 : Int × Int} {a1 : Int}  {Q : (Int × Int) → Prop}  (hd : csr_bounds a0 a1 Q) :
    PFun Tryz.prog 175 [.agg #[.int .i64 a0.1, .int .i64 a0.2], .int .i64 a1] I (fun I_ v => ∃ r, v = .tuple #[.int .i64 r.1, .int .i64 r.2] ∧ Q r) := by
 refine Fun.enter func175 r ntmps175 r (.c (.c .n)) fun w0 M => ?_
 refine .seq (.region (.boxA r r r fun b3 => ?_))
 refine .skips 2 r (.nilS [2, 1] r r (.seq (.region (.ixArr (i := 0) underlying24 sizeOf3 r r (by decide) (o := 0) r r r (.load1 isAgg3 r .z r r r (.maxI r r r r (.skips 1 r (.nilS [6, 2, 1] r r (.seq ?_)))))))))
 refine .region (.ixArr (i := 1) underlying24 sizeOf3 r r (by decide) (o := 1) r r r (.load1 isAgg3 r .z r r r (.skips 1 r (.minI r r r r (.skips 1 r (.nilS [7, 6] r r (.drop .z (.seq (.seq ?_)))))))))
 refine .region (.skips 2 r (.le' r r r r (.nilS [17, 7, 6] r r (.condP r hd (fun hb5 hd => ?_) fun hb5 hd => ?_))))
 · exact .seq (.region (.skips 3 r (.nilS [5, 4] r r (.ret (pret results175 (.t r (.t r .n)) (.refl _) ⟨((if 0 > a0.1 then 0 else a0.1), 0), r, hd⟩)))))
 exact .skipS [7, 6] r r (.seq (.region (.skips 3 r (.sub' r r r r (.skips 2 r (.nilS [5, 4] r r (.ret (pret results175 (.t r (.t r .n)) (.refl _) ⟨((if 0 > a0.1 then 0 else a0.1), w64 ((if a1 < a0.2 then a1 else a0.2) - (if 0 > a0.1 then 0 else a0.1))), r, hd⟩))))))))

theorem W_csr_Row {I : IH} {a0 : Rows} {a1 : Int} {p1 : Option Addr} {c2 : Nat} {p4 : Option Addr} {c5 : Nat} {p7 : Option Addr} {c8 : Nat} {Q : (List Item) → Prop} (R3 : RepSl eI64 I p1 c2 a0.Start) (R6 : RepSl eI64 I p4 c5 a0.Col) (R9 : RepSl eI64 I p7 c8 a0.Val) (hd : csr_Row a0 a1 Q) :
    PFun Tryz.prog 176 [.agg #[.int .i64 a0.Rows, .int .i64 a0.Cols, .slice p1 a0.Start.length c2, .slice p4 a0.Col.length c5, .slice p7 a0.Val.length c8], .int .i64 a1] I (fun I_ v => ∃ r p10 c11, v = .slice p10 r.length c11 ∧ RepSl eItem I_ p10 c11 r ∧ Q r) := by
 refine Fun.enter func176 r ntmps176 r (.c (.c .n)) fun w0 M => ?_
 refine .seq (.region (.boxA r r r fun b15 => ?_))
 refine .skips 1 r (.nilS [2, 1] r r (.seq (.region (.loadW isAgg39 sizeOf39 r .z r r r ?_))))
 have hw49 := W_csr_sure (I := I) R3 R6 R9 hd
 refine .call call73 r hw49 r r fun v38 I35 hl36 hv37 => ?_
 obtain ⟨r34, p40, c41, p43, c44, p46, c47, rfl, R42, R45, R48, hd⟩ := hv37
 have le50 := IH.le.trans (.refl _) hl36
 replace R3 := R3.mono hl36
 replace R6 := R6.mono hl36
 replace R9 := R9.mono hl36
 refine .storeA sizeOf39 r r .z (.t (.t (.t (.t (.t .nil))))) r r (.nilS [2, 1] r r (.seq (.seq (.region (.skips 1 r (.fieldAddr underlying39 r sizeOf3 r (o := 0) r r r (.load1 isAgg3 r .z r r r (.sub' r r r r ?_))))))))
 have hw57 := W_csr_within (I := I35) hd
 refine .callP call94 r hw57 r r fun v58 hv59 => ?_
 obtain ⟨r56, rfl, hd⟩ := hv59
 refine .not r r r (.nilS [17, 2, 1] r r (.condP r hd (fun hb60 hd => ?_) fun hb60 hd => ?_))
 · exact .seq (.region (.skips 1 r (.nilS [4] r r (.drop .z (.ret (pret results176 (.t r .n) le50 ⟨([] : List Item), _, _, r, (.nil _ _ _), hd⟩))))))
 refine .skipS [2, 1] r r (.seq (.region (.skips 1 r (.nilS [5, 2, 1] r r (.seq (.region (.loadW isAgg39 sizeOf39 r .z r r r (.skips 1 r ?_))))))))
 have hw87 := W_csr_part (I := I35) R42 R45 R48 hd
 refine .call call97 r hw87 r r fun v79 I76 hl77 hv78 => ?_
 obtain ⟨r75, p81, c82, p84, c85, rfl, R83, R86, hd⟩ := hv78
 have le88 := IH.le.trans le50 hl77
 replace R42 := R42.mono hl77
 replace R45 := R45.mono hl77
 replace R48 := R48.mono hl77
 refine .skips 1 r (.extract r r r r (.extract r r r r (.skips 2 r (.nilS [7, 6, 5] r r (.drop .z (.seq (.seq (.region (.skips 1 r ?_)))))))))
 refine .len underlying36 r r r r (.skips 1 r (.nilS [26, 25, 24, 7, 5] r r (.block (.own0 eItem 80 (.loop hd (fun (s : (List Item) × Int) c w => match s with | (s157, s161) => ∃ I_ p158 c159, IH.le I76 I_ ∧ Ok ⟨42, [], none⟩ [(5, .slice p158 s157.length c159), (7, .slice p84 r75.2.length c85), (24, .slice p81 r75.1.length c82), (25, .int .i64 (r75.1.length : Int)), (26, .int .i64 s161)] c ∧ Sym w0 M I I_ [OwnSl eItem 80 p158 c159 s157] w) (fun c w ho hs => ⟨I76, _, _, (.refl _), ho.sub ⟨r, r, r, r, r, trivial⟩, hs.pick (.c .z .n)⟩) ?_)))))
 rintro ⟨s157, s161⟩ next163 hd c w hst
 obtain ⟨I164, p158, c159, hl165, hok, hsym⟩ := hst
 have le166 := IH.le.trans le88 hl165
 have le167 := IH.le.trans (.refl _) hl165
 replace R83 := R83.mono hl165
 replace R86 := R86.mono hl165
 refine Cod.at hok hsym (.seq (.region (.lt r r r r (.nilS [27, 26, 25, 24, 7, 5] r r (.seq (.condP r hd (fun hb169 hd => ?_) fun hb169 hd => ?_))))))
 · refine .skipS [26, 25, 24, 7, 5] r r (.seq (.block (.seq (.region (.skips 1 r ?_)))))
   obtain ⟨h170, x171, hx172, hd⟩ := hd
   obtain ⟨b173, o174, cs175, e176, hC177, hr178⟩ := R83.2 _ _ hx172
   cases hr178
   refine .ixa underlying36 sizeOf3 r e176 r h170 (idx_lt hx172 h170) r r (.ld1 (j := 0) isAgg3 hC177 r r r r r (.skips 2 r (.nilS [9, 8, 26, 25, 24, 7, 5] r r (.region (.skips 4 r ?_)))))
   obtain ⟨h179, x180, hx181, hd⟩ := hd
   obtain ⟨b182, o183, cs184, e185, hC186, hr187⟩ := R86.2 _ _ hx181
   cases hr187
   refine .ixa underlying37 sizeOf2 r e185 r h179 (idx_lt hx181 h179) r r (.ld1 (j := 0) isAgg2 hC186 r r r r r (.build zeroValue80 underlying80 BI80 (.c r r r (.t .nil) (.c r r r (.s (.t .nil)) .n)) (by exact ⟨⟨_, _, r, r, r⟩, ⟨⟨_, _, r, r, r⟩, trivial⟩⟩) r r (.buildSlice 1 underlying32 sizeOf80 zeroValue80 r r (.c r r r .n) r r fun b188 => ?_)))
   obtain ⟨hl190, hd⟩ := hd
   refine .append (ys := [({ At := x171, Val := x180 } : Item)]) 16 (.s .z) underlying32 underlying32 IN80 r r r r r r r r r (.box .z (.one r) r) hl190 r r fun p191 c192 => ?_
   exact .sub (E' := [(7, _), (24, _), (25, _), (26, _), (8, _), (9, _), (31, _), (32, _), (33, _), (34, _), (35, _), (36, _), (37, _), (38, _), (39, _)]) ⟨r, r, r, r, r, r, r, r, r, r, r, r, r, r, r, trivial⟩ (.skips 1 r (.nilS [5, 26, 25, 24, 7] r r (.drop (.s .z) (.region (.add r r r r (.sub (E' := [(7, _), (24, _), (25, _), (5, _), (40, _)]) ⟨r, r, r, r, r, trivial⟩ (.skips 1 r (.nil' fun c w ho hs => ⟨((s157 ++ ([({ At := x171, Val := x180 } : Item)])), w64 (s161 + 1)), hd, I164, _, _, le167, ho.sub ⟨r, r, r, r, r, trivial⟩, hs.pick (.c .z .n)⟩))))))))
 refine .exitS [5] r r (.seq (.region (.skips 2 r (.nilS [4] r r (.pub .z fun I194 hl195 R196 => ?_)))))
 have le197 := IH.le.trans le166 hl195
 have le198 := IH.le.trans le167 hl195
 exact .ret (pret results176 (.t r .n) le197 ⟨s157, _, _, r, R196, hd⟩)

theorem W_csr_Cut {I : IH} {a0 : Rows} {a1 : Int × Int} {a2 : Int × Int} {p1 : Option Addr} {c2 : Nat} {p4 : Option Addr} {c5 : Nat} {p7 : Option Addr} {c8 : Nat} {Q : Rows → Prop} (R3 : RepSl eI64 I p1 c2 a0.Start) (R6 : RepSl eI64 I p4 c5 a0.Col) (R9 : RepSl eI64 I p7 c8 a0.Val) (hd : csr_Cut a0 a1 a2 Q) :
    PFun Tryz.prog 144 [.agg #[.int .i64 a0.Rows, .int .i64 a0.Cols, .slice p1 a0.Start.length c2, .slice p4 a0.Col.length c5, .slice p7 a0.Val.length c8], .agg #[.int .i64 a1.1, .int .i64 a1.2], .agg #[.int .i64 a2.1, .int .i64 a2.2]] I (fun I_ v => ∃ r p10 c11 p13 c14 p16 c17, v = .agg #[.int .i64 r.Rows, .int .i64 r.Cols, .slice p10 r.Start.length c11, .slice p13 r.Col.length c14, .slice p16 r.Val.length c17] ∧ RepSl eI64 I_ p10 c11 r.Start ∧ RepSl eI64 I_ p13 c14 r.Col ∧ RepSl eI64 I_ p16 c17 r.Val ∧ Q r) := by
 refine Fun.enter func144 r ntmps144 r (.c (.c (.c .n))) fun w0 M => ?_
 refine .seq (.region (.boxA r r r fun b27 => ?_))
 refine .boxA r r r fun b29 => ?_
 refine .boxA r r r fun b31 => ?_
 refine .allocA zeroValue39 r r fun b33 => ?_
 refine .nilS [6, 5, 4, 3] r r (.seq (.region (.loadW isAgg39 sizeOf39 r (.s (.s (.s .z))) r r r ?_)))
 have hw67 := W_csr_sure (I := I) R3 R6 R9 hd
 refine .call call73 r hw67 r r fun v56 I53 hl54 hv55 => ?_
 obtain ⟨r52, p58, c59, p61, c62, p64, c65, rfl, R60, R63, R66, hd⟩ := hv55
 have le68 := IH.le.trans (.refl _) hl54
 replace R3 := R3.mono hl54
 replace R6 := R6.mono hl54
 replace R9 := R9.mono hl54
 refine .storeA sizeOf39 r r (.s (.s (.s .z))) (.t (.t (.t (.t (.t .nil))))) r r (.nilS [6, 5, 4, 3] r r (.seq (.region (.loadW isAgg24 sizeOf24 r (.s (.s .z)) r r r (.fieldAddr underlying39 r sizeOf3 r (o := 0) r r r (.load1 isAgg3 r (.s (.s (.s .z))) r r r ?_))))))
 have hw74 := W_csr_bounds (I := I53) hd
 refine .callP call175 r hw74 r r fun v75 hv76 => ?_
 obtain ⟨r73, rfl, hd⟩ := hv76
 refine .skips 1 r (.extract r r r r (.extract r r r r (.skips 2 r (.nilS [8, 7, 6, 5, 3] r r (.drop (.s (.s .z)) (.seq (.region (.loadW isAgg24 sizeOf24 r (.s .z) r r r (.fieldAddr underlying39 r sizeOf3 r (o := 1) r r r ?_)))))))))
 refine .load1 isAgg3 r (.s (.s .z)) r r r ?_
 have hw82 := W_csr_bounds (I := I53) hd
 refine .callP call175 r hw82 r r fun v83 hv84 => ?_
 obtain ⟨r81, rfl, hd⟩ := hv84
 refine .skips 1 r (.extract r r r r (.extract r r r r (.skips 2 r (.nilS [10, 9, 8, 7, 6, 3] r r (.drop (.s .z) (.seq (.region (.skips 1 r (.nilS [11, 10, 9, 8, 7, 6, 3] r r ?_)))))))))
 refine .seq (.seq (.region (.skips 2 r (.nilS [32, 31, 11, 10, 9, 8, 7, 6, 3] r r (.block (.own0 eTriple 78 (.loop hd (fun (s : (List Triple) × Int) c w => match s with | (s454, s458) => ∃ I_ p455 c456, IH.le I53 I_ ∧ Ok ⟨74, [], none⟩ [(3, .pointer (some ⟨b27, 0, none⟩)), (6, .pointer (some ⟨b33, 0, none⟩)), (7, .int .i64 r73.1), (8, .int .i64 r73.2), (9, .int .i64 r81.1), (10, .int .i64 r81.2), (11, .slice p455 s454.length c456), (31, .int .i64 r73.2), (32, .int .i64 s458)] c ∧ Sym w0 M I I_ [pto b27 (.cells #[.int .i64 r52.Rows, .int .i64 r52.Cols, .slice p58 r52.Start.length c59, .slice p61 r52.Col.length c62, .slice p64 r52.Val.length c65] 39 (0, 0)), pto b33 (.cells #[.int .i64 0, .int .i64 0, .slice none 0 0, .slice none 0 0, .slice none 0 0] 39 (0, 0)), OwnSl eTriple 78 p455 c456 s454] w) (fun c w ho hs => ⟨I53, _, _, (.refl _), ho.sub ⟨r, r, r, r, r, r, r, r, r, trivial⟩, hs.pick (.c (.s (.s .z)) (.c (.s .z) (.c .z .n)))⟩) ?_)))))))
 rintro ⟨s454, s458⟩ next460 hd c w hst
 obtain ⟨I461, p455, c456, hl462, hok, hsym⟩ := hst
 have le463 := IH.le.trans le68 hl462
 have le464 := IH.le.trans (.refl _) hl462
 replace R60 := R60.mono hl462
 replace R63 := R63.mono hl462
 replace R66 := R66.mono hl462
 refine Cod.at hok hsym (.seq (.region (.lt r r r r (.nilS [33, 32, 31, 11, 10, 9, 8, 7, 6, 3] r r (.seq (.condP r hd (fun hb466 hd => ?_) fun hb466 hd => ?_))))))
 · refine .skipS [32, 31, 11, 10, 9, 8, 7, 6, 3] r r (.seq (.block (.seq (.region (.skips 2 r (.nilS [12, 32, 31, 11, 10, 9, 8, 7, 6, 3] r r (.seq (.region (.loadW isAgg39 sizeOf39 r .z r r r ?_)))))))))
   refine .skips 2 r (.add r r r r ?_)
   have hw488 := W_csr_Row (I := I461) R60 R63 R66 hd
   refine .call call176 r hw488 r r fun v483 I480 hl481 hv482 => ?_
   obtain ⟨r479, p485, c486, rfl, R487, hd⟩ := hv482
   have le489 := IH.le.trans le463 hl481
   have le490 := IH.le.trans le464 hl481
   replace R60 := R60.mono hl481
   replace R63 := R63.mono hl481
   replace R66 := R66.mono hl481
   refine .len underlying32 r r r r (.skips 1 r (.nilS [41, 40, 39, 12, 32, 31, 11, 10, 9, 8, 7, 6, 3] r r (.block (.loop hd (fun (s : (List Triple) × Int) c w => match s with | (s588, s592) => ∃ I_ p589 c590, IH.le I480 I_ ∧ Ok ⟨74, [], none⟩ [(3, .pointer (some ⟨b27, 0, none⟩)), (6, .pointer (some ⟨b33, 0, none⟩)), (7, .int .i64 r73.1), (8, .int .i64 r73.2), (9, .int .i64 r81.1), (10, .int .i64 r81.2), (11, .slice p589 s588.length c590), (12, .int .i64 s458), (31, .int .i64 r73.2), (32, .int .i64 s458), (39, .slice p485 r479.length c486), (40, .int .i64 (r479.length : Int)), (41, .int .i64 s592)] c ∧ Sym w0 M I I_ [pto b27 (.cells #[.int .i64 r52.Rows, .int .i64 r52.Cols, .slice p58 r52.Start.length c59, .slice p61 r52.Col.length c62, .slice p64 r52.Val.length c65] 39 (0, 0)), pto b33 (.cells #[.int .i64 0, .int .i64 0, .slice none 0 0, .slice none 0 0, .slice none 0 0] 39 (0, 0)), OwnSl eTriple 78 p589 c590 s588] w) (fun c w ho hs => ⟨I480, _, _, (.refl _), ho.sub ⟨r, r, r, r, r, r, r, r, r, r, r, r, r, trivial⟩, hs.pick (.c .z (.c .z (.c .z .n)))⟩) ?_))))
   rintro ⟨s588, s592⟩ next593 hd c w hst
   obtain ⟨I594, p589, c590, hl595, hok, hsym⟩ := hst
   have le596 := IH.le.trans le489 hl595
   have le597 := IH.le.trans le490 hl595
   have le598 := IH.le.trans (.refl _) hl595
   replace R60 := R60.mono hl595
   replace R63 := R63.mono hl595
   replace R66 := R66.mono hl595
   replace R487 := R487.mono hl595
   refine Cod.at hok hsym (.seq (.region (.lt r r r r (.nilS [42, 41, 40, 39, 32, 31, 12, 11, 10, 9, 8, 7, 6, 3] r r (.seq (.condP r hd (fun hb600 hd => ?_) fun hb600 hd => ?_))))))
   · refine .skipS [41, 40, 39, 32, 31, 12, 11, 10, 9, 8, 7, 6, 3] r r (.seq (.block (.seq (.region ?_))))
     obtain ⟨h612, x613, hx614, hd⟩ := hd
     obtain ⟨b615, o616, cs617, e618, hC619, hr620⟩ := R487.2 _ _ hx614
     cases hr620
     refine .ixa underlying32 sizeOf80 r e618 r h612 (idx_lt hx614 h612) r r (.ldW isAgg80 sizeOf80 hC619 r r r r (.allocA zeroValue80 r r fun b621 => ?_))
     refine .storeA sizeOf80 r r .z (.t (.t .nil)) r r (.nilS [14, 41, 40, 39, 32, 31, 12, 11, 10, 9, 8, 7, 6, 3] r r (.seq ?_))
     refine Cod.joinQ (σ := Bool) hd (fun (s625 : Bool) c w => ∃ I_, IH.le I594 I_ ∧ Ok ⟨74, [], none⟩ [(3, .pointer (some ⟨b27, 0, none⟩)), (6, .pointer (some ⟨b33, 0, none⟩)), (7, .int .i64 r73.1), (8, .int .i64 r73.2), (9, .int .i64 r81.1), (10, .int .i64 r81.2), (11, .slice p589 s588.length c590), (12, .int .i64 s458), (14, .pointer (some ⟨b621, 0, none⟩)), (31, .int .i64 r73.2), (32, .int .i64 s458), (39, .slice p485 r479.length c486), (40, .int .i64 (r479.length : Int)), (41, .int .i64 s592), (56, .bool s625)] c ∧ Sym w0 M I I_ [pto b27 (.cells #[.int .i64 r52.Rows, .int .i64 r52.Cols, .slice p58 r52.Start.length c59, .slice p61 r52.Col.length c62, .slice p64 r52.Val.length c65] 39 (0, 0)), pto b33 (.cells #[.int .i64 0, .int .i64 0, .slice none 0 0, .slice none 0 0, .slice none 0 0] 39 (0, 0)), OwnSl eTriple 78 p589 c590 s588, pto b621 (.cells #[.int .i64 x613.At, .int .i64 x613.Val] 80 (0, 0))] w) (fun k626 hd => ?_) ?_
     · skip
       refine .region (.fieldAddr underlying80 r sizeOf3 r (o := 0) r r r (.load1 isAgg3 r .z r r r (.skips 1 r (.ge r r r r (.skips 1 r ?_)))))
       refine splitP hd (fun hb627 hd => ?_) fun hb627 hd => ?_
       · rw [hb627]
         exact .gyes r r r (.fieldAddr underlying80 r sizeOf3 r (o := 0) r r r (.gyes r r r (.load1 isAgg3 r .z r r r (.gyes r r r (.move r r r (.gyes r r r (.sub' r r r r (.gyes r r r (.move r r r (.gyes r r r (.lt r r r r (.skips 1 r (.nil' fun c w ho hs => ⟨(decide ((w64 (x613.At - r81.1)) < r81.2)), hd, I594, (.refl _), ho.sub ⟨r, r, r, r, r, r, r, r, r, r, r, r, r, r, r, trivial⟩, hs.pick (.c (.s .z) (.c (.s .z) (.c (.s .z) (.c .z .n))))⟩)))))))))))))
       rw [hb627]
       exact .skips 7 r (.nil' fun c w ho hs => ⟨false, hd, I594, (.refl _), ho.sub ⟨r, r, r, r, r, r, r, r, r, r, r, r, r, r, r, trivial⟩, hs.pick (.c (.s .z) (.c (.s .z) (.c (.s .z) (.c .z .n))))⟩)
     rintro s625 hd c w hst
     obtain ⟨I628, hl629, hok, hsym⟩ := hst
     have le630 := IH.le.trans le596 hl629
     have le631 := IH.le.trans le597 hl629
     have le632 := IH.le.trans le598 hl629
     have le633 := IH.le.trans (.refl _) hl629
     replace R60 := R60.mono hl629
     replace R63 := R63.mono hl629
     replace R66 := R66.mono hl629
     replace R487 := R487.mono hl629
     refine Cod.at hok hsym (.condP r hd (fun hb634 hd => ?_) fun hb634 hd => ?_)
     · refine .region (.skips 2 r (.fieldAddr underlying80 r sizeOf3 r (o := 0) r r r (.load1 isAgg3 r (.s (.s (.s .z))) r r r (.skips 1 r (.sub' r r r r (.fieldAddr underlying80 r sizeOf2 r (o := 1) r r r (.load1 isAgg2 r (.s (.s (.s .z))) r r r (.build zeroValue78 underlying78 BI78 (.c r r r (.t .nil) (.c r r r (.s (.t .nil)) (.c r r r (.s (.s (.t .nil))) .n))) (by exact ⟨⟨_, _, r, r, r⟩, ⟨⟨_, _, r, r, r⟩, ⟨⟨_, _, r, r, r⟩, trivial⟩⟩⟩) r r (.buildSlice 1 underlying31 sizeOf78 zeroValue78 r r (.c r r r .n) r r fun b635 => ?_)))))))))
       obtain ⟨hl637, hd⟩ := hd
       refine .append (ys := [({ Row := s458, Col := w64 (x613.At - r81.1), Val := x613.Val } : Triple)]) 24 (.s (.s (.s .z))) underlying31 underlying31 IN78 r r r r r r r r r (.box .z (.one r) r) hl637 r r fun p638 c639 => ?_
       exact .sub (E' := [(3, _), (6, _), (7, _), (8, _), (9, _), (10, _), (12, _), (14, _), (31, _), (32, _), (39, _), (40, _), (41, _), (56, _), (57, _), (58, _), (59, _), (60, _), (61, _), (62, _), (63, _), (64, _), (65, _), (66, _), (67, _)]) ⟨r, r, r, r, r, r, r, r, r, r, r, r, r, r, r, r, r, r, r, r, r, r, r, r, r, trivial⟩ (.skips 1 r (.nilS [11, 41, 40, 39, 32, 31, 12, 10, 9, 8, 7, 6, 3] r r (.drop (.s .z) (.drop (.s (.s (.s .z))) (.region (.add r r r r (.sub (E' := [(3, _), (6, _), (7, _), (8, _), (9, _), (10, _), (12, _), (31, _), (32, _), (39, _), (40, _), (11, _), (68, _)]) ⟨r, r, r, r, r, r, r, r, r, r, r, r, r, trivial⟩ (.skips 1 r (.nil' fun c w ho hs => ⟨((s588 ++ ([({ Row := s458, Col := w64 (x613.At - r81.1), Val := x613.Val } : Triple)])), w64 (s592 + 1)), hd, I628, _, _, le632, ho.sub ⟨r, r, r, r, r, r, r, r, r, r, r, r, r, trivial⟩, hs.pick (.c (.s .z) (.c (.s .z) (.c .z .n)))⟩)))))))))
     exact .skipS [41, 40, 39, 32, 31, 12, 11, 10, 9, 8, 7, 6, 3] r r (.drop (.s (.s (.s .z))) (.region (.add r r r r (.sub (E' := [(3, _), (6, _), (7, _), (8, _), (9, _), (10, _), (11, _), (12, _), (31, _), (32, _), (39, _), (40, _), (68, _)]) ⟨r, r, r, r, r, r, r, r, r, r, r, r, r, trivial⟩ (.skips 1 r (.nil' fun c w ho hs => ⟨(s588, w64 (s592 + 1)), hd, I628, _, _, le632, ho.sub ⟨r, r, r, r, r, r, r, r, r, r, r, r, r, trivial⟩, hs.pick (.c .z (.c .z (.c .z .n)))⟩))))))
   exact .exitS [32, 31, 11, 10, 9, 8, 7, 6, 3] r r (.region (.add r r r r (.sub (E' := [(3, _), (6, _), (7, _), (8, _), (9, _), (10, _), (11, _), (31, _), (69, _)]) ⟨r, r, r, r, r, r, r, r, r, trivial⟩ (.skips 1 r (.nil' fun c w ho hs => ⟨(s588, w64 (s458 + 1)), hd, I594, _, _, le597, ho.sub ⟨r, r, r, r, r, r, r, r, r, trivial⟩, hs.pick (.c .z (.c .z (.c .z .n)))⟩)))))
 refine .exitS [11, 10, 8, 6] r r (.drop .z (.seq (.region (.skips 3 r (.pub (.s .z) fun I641 hl642 R643 => ?_)))))
 have le644 := IH.le.trans le463 hl642
 have le645 := IH.le.trans le464 hl642
 have hw661 := W_csr_built (I := I641) R643 hd
 refine .call call100 r hw661 r r fun v650 I647 hl648 hv649 => ?_
 obtain ⟨r646, p652, c653, p655, c656, p658, c659, rfl, R654, R657, R660, hd⟩ := hv649
 have le662 := IH.le.trans le644 hl648
 have le663 := IH.le.trans le645 hl648
 replace R643 := R643.mono hl648
 exact .storeA sizeOf39 r r .z (.t (.t (.t (.t (.t .nil))))) r r (.nilS [6] r r (.ret (pret results144 (.w isAgg39 sizeOf39 r .z r .n) le662 ⟨r646, _, _, _, _, _, _, r, R654, R657, R660, hd⟩)))

theorem W_pull_sure {I : IH} {a0 : Rows} {a1 : Dense} {p1 : Option Addr} {c2 : Nat} {p4 : Option Addr} {c5 : Nat} {p7 : Option Addr} {c8 : Nat} {p10 : Option Addr} {c11 : Nat} {p13 : Option Addr} {c14 : Nat} {Q : (Rows × Dense) → Prop} (R3 : RepSl eI64 I p1 c2 a0.Start) (R6 : RepSl eI64 I p4 c5 a0.Col) (R9 : RepSl eI64 I p7 c8 a0.Val) (R12 : RepSl eU64 I p10 c11 a1.Has) (R15 : RepSl eI64 I p13 c14 a1.Vals) (hd : pull_sure a0 a1 Q) :
    PFun Tryz.prog 113 [.agg #[.int .i64 a0.Rows, .int .i64 a0.Cols, .slice p1 a0.Start.length c2, .slice p4 a0.Col.length c5, .slice p7 a0.Val.length c8], .agg #[.int .i64 a1.N, .slice p10 a1.Has.length c11, .slice p13 a1.Vals.length c14]] I (fun I_ v => ∃ r p16 c17 p19 c20 p22 c23 p25 c26 p28 c29, v = .tuple #[.agg #[.int .i64 r.1.Rows, .int .i64 r.1.Cols, .slice p16 r.1.Start.length c17, .slice p19 r.1.Col.length c20, .slice p22 r.1.Val.length c23], .agg #[.int .i64 r.2.N, .slice p25 r.2.Has.length c26, .slice p28 r.2.Vals.length c29]] ∧ RepSl eI64 I_ p16 c17 r.1.Start ∧ RepSl eI64 I_ p19 c20 r.1.Col ∧ RepSl eI64 I_ p22 c23 r.1.Val ∧ RepSl eU64 I_ p25 c26 r.2.Has ∧ RepSl eI64 I_ p28 c29 r.2.Vals ∧ Q r) := by
 refine Fun.enter func113 r ntmps113 r (.c (.c .n)) fun w0 M => ?_
 refine .seq (.region (.boxA r r r fun b39 => ?_))
 refine .boxA r r r fun b41 => ?_
 refine .allocA zeroValue39 r r fun b43 => ?_
 refine .allocA zeroValue53 r r fun b45 => ?_
 refine .nilS [5, 4, 3, 2] r r (.seq ?_)
 refine Cod.joinQ (σ := Int × Int × (List Int) × (List Int) × (List Int)) hd (fun (s : Int × Int × (List Int) × (List Int) × (List Int)) c w => match s with | (s91, s92, s93, s97, s101) => ∃ I_ p94 c95 p98 c99 p102 c103, IH.le I I_ ∧ RepSl eI64 I_ p94 c95 s93 ∧ RepSl eI64 I_ p98 c99 s97 ∧ RepSl eI64 I_ p102 c103 s101 ∧ Ok ⟨19, [], none⟩ [(2, .pointer (some ⟨b39, 0, none⟩)), (3, .pointer (some ⟨b41, 0, none⟩)), (4, .pointer (some ⟨b43, 0, none⟩)), (5, .pointer (some ⟨b45, 0, none⟩))] c ∧ Sym w0 M I I_ [pto b39 (.cells #[.int .i64 s91, .int .i64 s92, .slice p94 s93.length c95, .slice p98 s97.length c99, .slice p102 s101.length c103] 39 (0, 0)), pto b41 (.cells #[.int .i64 a1.N, .slice p10 a1.Has.length c11, .slice p13 a1.Vals.length c14] 53 (0, 0)), pto b43 (.cells #[.int .i64 0, .int .i64 0, .slice none 0 0, .slice none 0 0, .slice none 0 0] 39 (0, 0)), pto b45 (.cells #[.int .i64 0, .slice none 0 0, .slice none 0 0] 53 (0, 0))] w) (fun k105 hd => ?_) ?_
 · skip
   refine .seq (.region (.loadW isAgg39 sizeOf39 r (.s (.s (.s .z))) r r r ?_))
   have hw107 := W_csr_Right (I := I) R3 R6 R9 hd
   refine .callP call62 r hw107 r r fun v108 hv109 => ?_
   obtain ⟨r106, rfl, hd⟩ := hv109
   refine .not r r r (.nilS [8, 5, 4, 3, 2] r r (.condP r hd (fun hb110 hd => ?_) fun hb110 hd => ?_))
   · refine .region (.loadW isAgg39 sizeOf39 r (.s (.s (.s .z))) r r r (.buildArr zeroValue24 underlying24 sizeOf3 .n r r (.buildArr zeroValue24 underlying24 sizeOf3 .n r r ?_)))
     have hw126 := W_csr_Cut (I := I) R3 R6 R9 hd
     refine .call call144 r hw126 r r fun v115 I112 hl113 hv114 => ?_
     obtain ⟨r111, p117, c118, p120, c121, p123, c124, rfl, R119, R122, R125, hd⟩ := hv114
     have le127 := IH.le.trans (.refl _) hl113
     replace R3 := R3.mono hl113
     replace R6 := R6.mono hl113
     replace R9 := R9.mono hl113
     replace R12 := R12.mono hl113
     replace R15 := R15.mono hl113
     exact .storeA sizeOf39 r r (.s (.s (.s .z))) (.t (.t (.t (.t (.t .nil))))) r r (.nil' fun c w ho hs => ⟨(r111.Rows, r111.Cols, r111.Start, r111.Col, r111.Val), hd, I112, _, _, _, _, _, _, le127, R119, R122, R125, ho.sub ⟨r, r, r, r, trivial⟩, hs.pick (.c (.s (.s (.s .z))) (.c (.s (.s .z)) (.c (.s .z) (.c .z .n))))⟩)
   exact .skip' fun c w ho hs => ⟨(a0.Rows, a0.Cols, a0.Start, a0.Col, a0.Val), hd, I, _, _, _, _, _, _, (.refl _), R3, R6, R9, ho.sub ⟨r, r, r, r, trivial⟩, hs.pick (.c (.s (.s (.s .z))) (.c (.s (.s .z)) (.c (.s .z) (.c .z .n))))⟩
 rintro ⟨s91, s92, s93, s97, s101⟩ hd c w hst
 obtain ⟨I128, p94, c95, p98, c99, p102, c103, hl129, R96, R100, R104, hok, hsym⟩ := hst
 have le130 := IH.le.trans (.refl _) hl129
 replace R12 := R12.mono hl129
 replace R15 := R15.mono hl129
 refine Cod.at hok hsym (.seq (.seq (.region (.loadW isAgg53 sizeOf53 r (.s .z) r r r ?_))))
 have hw132 := W_devec_Right (I := I128) R12 R15 hd
 refine .callP call124 r hw132 r r fun v133 hv134 => ?_
 obtain ⟨r131, rfl, hd⟩ := hv134
 refine .not r r r (.nilS [15, 5, 4, 3, 2] r r (.condP r hd (fun hb135 hd => ?_) fun hb135 hd => ?_))
 · refine .region ?_
   have hw149 := W_devec_New (I := I128) hd
   refine .callO call90 r hw149 r r fun v140 I137 l141 hl138 hv139 => ?_
   obtain ⟨r136, p142, c143, p145, c146, rfl, R144, rfl, hd⟩ := hv139
   have le150 := IH.le.trans le130 hl138
   replace R12 := R12.mono hl138
   replace R15 := R15.mono hl138
   replace R96 := R96.mono hl138
   replace R100 := R100.mono hl138
   replace R104 := R104.mono hl138
   refine .storeA sizeOf53 r r (.s (.s .z)) (.t (.t (.t .nil))) r r (.nilS [5, 4, 3, 2] r r (.seq (.draw [some 0, some 1, some 2] 3 MX (by kernel_rfl) (by kernel_rfl) (by kernel_rfl) (by kernel_rfl) (by kernel_rfl) (by kernel_rfl) (by kernel_rfl) (fun ex => (OwnSl eI64 2 p145 c146 r136.Vals) :: (pto b39 (.cells #[.int .i64 s91, .int .i64 s92, .slice p94 s93.length c95, .slice p98 s97.length c99, .slice p102 s101.length c103] 39 (0, 0))) :: (pto b41 (.cells #[.int .i64 r136.N, .slice p142 r136.Has.length c143, .slice p145 r136.Vals.length c146] 53 (0, 0))) :: (pto b43 (.cells #[.int .i64 0, .int .i64 0, .slice none 0 0, .slice none 0 0, .slice none 0 0] 39 (0, 0))) :: (pto b45 (.cells #[.int .i64 0, .slice none 0 0, .slice none 0 0] 53 (0, 0))) :: ex) (fun _ _ => (.s (.s (.s (.s (.s .z)))))) r (.f [] r (by kernel_rfl) r r (fun ex => .loadW isAgg39 sizeOf39 r (.s .z) r r r .mk) (.f [] r (by kernel_rfl) r r (fun ex => .loadW isAgg53 sizeOf53 r (.s (.s .z)) r r r .mk) (.w [1] [[]] [0, 0] r (by kernel_rfl) (by kernel_rfl) (by kernel_rfl) ((dropE_none r)) (.inr (dropE_none r)) fun ex => ?_))))))
   refine .storeA sizeOf39 r r (.s (.s (.s .z))) (.t (.t (.t (.t (.t .nil))))) r r (.none (fun ex => (OwnSl eI64 2 p145 c146 r136.Vals) :: (pto b39 (.cells #[.int .i64 s91, .int .i64 s92, .slice p94 s93.length c95, .slice p98 s97.length c99, .slice p102 s101.length c103] 39 (0, 0))) :: (pto b41 (.cells #[.int .i64 r136.N, .slice p142 r136.Has.length c143, .slice p145 r136.Vals.length c146] 53 (0, 0))) :: (pto b43 (.cells #[.int .i64 s91, .int .i64 s92, .slice p94 s93.length c95, .slice p98 s97.length c99, .slice p102 s101.length c103] 39 (0, 0))) :: (pto b45 (.cells #[.int .i64 0, .slice none 0 0, .slice none 0 0] 53 (0, 0))) :: ex) r (fun _ _ => (.s (.s (.s (.s (.s .z)))))) r (.cc [] r (by kernel_rfl) r r r (fun ex => .loadW isAgg53 sizeOf53 r (.s (.s .z)) r r r .mk) trivial) (.e 3 (by kernel_rfl) (by kernel_rfl) (by kernel_rfl) (.storeA sizeOf53 r r (.s (.s (.s (.s .z)))) (.t (.t (.t .nil))) r r (.nilS [5, 4] r r (.drop (.s .z) (.drop (.s .z) (.pub .z fun I151 hl152 R153 => ?_)))))))
   have le154 := IH.le.trans le150 hl152
   replace R96 := R96.mono hl152
   replace R100 := R100.mono hl152
   replace R104 := R104.mono hl152
   replace R144 := R144.mono hl152
   exact .ret (pret results113 (.w isAgg39 sizeOf39 r .z r (.w isAgg53 sizeOf53 r (.s .z) r .n)) le154 ⟨(({ Rows := s91, Cols := s92, Start := s93, Col := s97, Val := s101 } : Rows), r136), _, _, _, _, _, _, _, _, _, _, r, R96, R100, R104, R144, R153, hd⟩)
 refine .skipS [5, 4, 3, 2] r r (.seq (.draw [some 0, some 1, some 2] 3 MX (by kernel_rfl) (by kernel_rfl) (by kernel_rfl) (by kernel_rfl) (by kernel_rfl) (by kernel_rfl) (by kernel_rfl) (fun ex => (pto b39 (.cells #[.int .i64 s91, .int .i64 s92, .slice p94 s93.length c95, .slice p98 s97.length c99, .slice p102 s101.length c103] 39 (0, 0))) :: (pto b41 (.cells #[.int .i64 a1.N, .slice p10 a1.Has.length c11, .slice p13 a1.Vals.length c14] 53 (0, 0))) :: (pto b43 (.cells #[.int .i64 0, .int .i64 0, .slice none 0 0, .slice none 0 0, .slice none 0 0] 39 (0, 0))) :: (pto b45 (.cells #[.int .i64 0, .slice none 0 0, .slice none 0 0] 53 (0, 0))) :: ex) (fun _ _ => (.s (.s (.s (.s .z))))) r (.f [] r (by kernel_rfl) r r (fun ex => .loadW isAgg39 sizeOf39 r .z r r r .mk) (.f [] r (by kernel_rfl) r r (fun ex => .loadW isAgg53 sizeOf53 r (.s .z) r r r .mk) (.w [1] [[]] [0, 0] r (by kernel_rfl) (by kernel_rfl) (by kernel_rfl) ((dropE_none r)) (.inr (dropE_none r)) fun ex => ?_)))))
 exact .storeA sizeOf39 r r (.s (.s .z)) (.t (.t (.t (.t (.t .nil))))) r r (.none (fun ex => (pto b39 (.cells #[.int .i64 s91, .int .i64 s92, .slice p94 s93.length c95, .slice p98 s97.length c99, .slice p102 s101.length c103] 39 (0, 0))) :: (pto b41 (.cells #[.int .i64 a1.N, .slice p10 a1.Has.length c11, .slice p13 a1.Vals.length c14] 53 (0, 0))) :: (pto b43 (.cells #[.int .i64 s91, .int .i64 s92, .slice p94 s93.length c95, .slice p98 s97.length c99, .slice p102 s101.length c103] 39 (0, 0))) :: (pto b45 (.cells #[.int .i64 0, .slice none 0 0, .slice none 0 0] 53 (0, 0))) :: ex) r (fun _ _ => (.s (.s (.s (.s .z))))) r (.cc [] r (by kernel_rfl) r r r (fun ex => .loadW isAgg53 sizeOf53 r (.s .z) r r r .mk) trivial) (.e 3 (by kernel_rfl) (by kernel_rfl) (by kernel_rfl) (.storeA sizeOf53 r r (.s (.s (.s .z))) (.t (.t (.t .nil))) r r (.nilS [5, 4] r r (.drop .z (.drop .z (.ret (pret results113 (.w isAgg39 sizeOf39 r .z r (.w isAgg53 sizeOf53 r (.s .z) r .n)) le130 ⟨(({ Rows := s91, Cols := s92, Start := s93, Col := s97, Val := s101 } : Rows), a1), _, _, _, _, _, _, _, _, _, _, r, R96, R100, R104, R12, R15, hd⟩))))))))

theorem W_pull_adder_6fc {I : IH} {a0 : Int}  {Q : (Bool × Int × Wide) → Prop}  (hd : pull_adder_6fc a0 Q) :
    Fun Tryz.prog 146 #[.int .i64 a0] I [] (fun I_ v l => ∃ r b1 b2 b3, v = .tuple #[.func (.func 177) #[] #[.pointer (some ⟨b1, 0, none⟩), .pointer (some ⟨b2, 0, none⟩), .pointer (some ⟨b3, 0, none⟩)], .func (.func 178) #[] #[.pointer (some ⟨b3, 0, none⟩), .pointer (some ⟨b1, 0, none⟩)]] ∧ l = [pto b1 (.cells #[.bool r.1] 4 (0, 0)), pto b2 (.cells #[.int .i64 r.2.1] 29 (0, 0)), pto b3 (.cells #[.int .i64 r.2.2.Hi, .int .u64 r.2.2.Lo] 83 (0, 0))] ∧ Q r) := by
 refine Fun.enter (vs := [.int .i64 a0]) func146 r ntmps146 r (.c .n) fun w0 M => ?_
 refine .seq (.region (.box1 r r r r fun b3 => ?_))
 refine .skips 2 r (.nilS [1] r r (.seq (.region (.allocA zeroValue83 r r fun b7 => ?_))))
 refine .nilS [4, 1] r r (.seq (.region (.alloc1 zeroValue4 r r r fun b9 => ?_)))
 refine .store1 sizeOf4 r r .z (.t .nil) r (.nilS [5, 4, 1] r r (.seq (.region (.mkFn r r r r (.skips 1 r (.nilS [2, 5, 4] r r (.seq (.region (.skips 1 r ?_)))))))))
 exact .mkFn r r r r (.sub (E' := [(4, _), (5, _), (7, _), (8, _)]) ⟨r, r, r, r, trivial⟩ (.skips 2 r (.nilS [3, 2] r r (.ret (oret results146 (.t r (.t r .n)) (.refl _) (.c .z (.c (.s .z) (.c .z .n))) ⟨(false, a0, ({ Hi := 0, Lo := 0 } : Wide)), _, _, _, r, r, hd⟩)))))

theorem W_pull_adder_1_b72 {I : IH} {o0 : Bool} {o1 : Int} {o2 : Wide} {a0 : Wide} {b4 : Nat} {b5 : Nat} {b6 : Nat} {Q : (Bool × Wide) → Prop}  (hd : pull_adder_1_b72 o0 o1 o2 a0 Q) :
    Fun Tryz.prog 177 #[.agg (encWide a0).toArray, .pointer (some ⟨b4, 0, none⟩), .pointer (some ⟨b5, 0, none⟩), .pointer (some ⟨b6, 0, none⟩)] I [pto b4 (.cells #[.bool o0] 4 (0, 0)), pto b5 (.cells #[.int .i64 o1] 29 (0, 0)), pto b6 (.cells #[.int .i64 o2.Hi, .int .u64 o2.Lo] 83 (0, 0))] (fun I_ v l => ∃ r, v = .tuple #[] ∧ l = [pto b4 (.cells #[.bool r.1] 4 (0, 0)), pto b5 (.cells #[.int .i64 o1] 29 (0, 0)), pto b6 (.cells #[.int .i64 r.2.Hi, .int .u64 r.2.Lo] 83 (0, 0))] ∧ Q r) := by
 refine Fun.enter (vs := [.agg (encWide a0).toArray, .pointer (some ⟨b4, 0, none⟩), .pointer (some ⟨b5, 0, none⟩), .pointer (some ⟨b6, 0, none⟩)]) func177 r ntmps177 r (.c (.c (.c (.c .n)))) fun w0 M => ?_
 refine .seq (.region (.boxA r r r fun b9 => ?_))
 refine .nilS [4, 3, 2, 1] r r (.seq (.seq (.region (.load1 isAgg4 r (.s .z) r r r (.nilS [5, 4, 3, 2, 1] r r (.condP r hd (fun hb11 hd => ?_) fun hb11 hd => ?_))))))
 · refine .region (.load1 isAgg29 r (.s (.s .z)) r r r (.loadW isAgg83 sizeOf83 r (.s (.s (.s .z))) r r r (.loadW isAgg83 sizeOf83 r .z r r r ?_)))
   have hw13 := W_ring_Add (I := I) hd
   refine .callP call174 r hw13 r r fun v14 hv15 => ?_
   obtain ⟨r12, rfl, hd⟩ := hv15
   exact .storeA sizeOf83 r r .z (.t (.t .nil)) r r (.nilS [4, 3, 1] r r (.region (.loadW isAgg83 sizeOf83 r .z r r r (.storeA sizeOf83 r r (.s (.s (.s .z))) (.t (.t .nil)) r r (.store1 sizeOf4 r r (.s .z) (.t .nil) r (.nil' (oretN results177 .n (.refl _) (.c (.s .z) (.c (.s .z) (.c (.s .z) .n))) ⟨(true, r12), r, r, hd⟩)))))))
 exact .skipS [4, 3, 1] r r (.region (.loadW isAgg83 sizeOf83 r .z r r r (.storeA sizeOf83 r r (.s (.s (.s .z))) (.t (.t .nil)) r r (.store1 sizeOf4 r r (.s .z) (.t .nil) r (.nil' (oretN results177 .n (.refl _) (.c (.s .z) (.c (.s .z) (.c (.s .z) .n))) ⟨(true, a0), r, r, hd⟩))))))

theorem W_pull_adder_2_cdb {I : IH} {o0 : Wide} {o1 : Bool} {b3 : Nat} {b4 : Nat} {Q : (Wide × Bool) → Prop}  (hd : pull_adder_2_cdb o0 o1 Q) :
    Fun Tryz.prog 178 #[.pointer (some ⟨b3, 0, none⟩), .pointer (some ⟨b4, 0, none⟩)] I [pto b3 (.cells #[.int .i64 o0.Hi, .int .u64 o0.Lo] 83 (0, 0)), pto b4 (.cells #[.bool o1] 4 (0, 0))] (fun I_ v l => ∃ r, v = .tuple #[.agg (encWide r.1).toArray, .bool r.2] ∧ l = [pto b3 (.cells #[.int .i64 o0.Hi, .int .u64 o0.Lo] 83 (0, 0)), pto b4 (.cells #[.bool o1] 4 (0, 0))] ∧ Q r) := by
 refine Fun.enter (vs := [.pointer (some ⟨b3, 0, none⟩), .pointer (some ⟨b4, 0, none⟩)]) func178 r ntmps178 r (.c (.c .n)) fun w0 M => ?_
 refine .seq (.region (.allocA zeroValue83 r r fun b5 => ?_))
 refine .skips 1 r (.nilS [2, 1, 0] r r (.seq (.draw [some 0, some 1, some 2] 3 MX (by kernel_rfl) (by kernel_rfl) (by kernel_rfl) (by kernel_rfl) (by kernel_rfl) (by kernel_rfl) (by kernel_rfl) (fun ex => (pto b5 (.cells #[.int .i64 0, .int .u64 0] 83 (0, 0))) :: (pto b3 (.cells #[.int .i64 o0.Hi, .int .u64 o0.Lo] 83 (0, 0))) :: (pto b4 (.cells #[.bool o1] 4 (0, 0))) :: ex) (fun _ _ => (.s (.s (.s .z)))) r (.f [] r (by kernel_rfl) r r (fun ex => .loadW isAgg83 sizeOf83 r (.s .z) r r r .mk) (.f [] r (by kernel_rfl) r r (fun ex => .load1 isAgg4 r (.s (.s .z)) r r r .mk) (.w [1] [[]] [0, 0] r (by kernel_rfl) (by kernel_rfl) (by kernel_rfl) ((dropE_none r)) (.inr (dropE_none r)) fun ex => ?_))))))
 exact .storeA sizeOf83 r r .z (.t (.t .nil)) r r (.none (fun ex => (pto b5 (.cells #[.int .i64 o0.Hi, .int .u64 o0.Lo] 83 (0, 0))) :: (pto b3 (.cells #[.int .i64 o0.Hi, .int .u64 o0.Lo] 83 (0, 0))) :: (pto b4 (.cells #[.bool o1] 4 (0, 0))) :: ex) r (fun _ _ => (.s (.s (.s .z)))) r (.cc [] r (by kernel_rfl) r r r (fun ex => .load1 isAgg4 r (.s (.s .z)) r r r .mk) trivial) (.e 3 (by kernel_rfl) (by kernel_rfl) (by kernel_rfl) (.skips 1 r (.nilS [3, 2, 1, 0] r r (.ret (oret results178 (.w isAgg83 sizeOf83 r .z r (.t r .n)) (.refl _) (.c (.s .z) (.c (.s .z) .n)) ⟨(o0, o1), r, r, hd⟩))))))

theorem W_pull_row {I : IH} {a0 : Int} {a1 : Rows} {a2 : Int} {a3 : Dense} {p1 : Option Addr} {c2 : Nat} {p4 : Option Addr} {c5 : Nat} {p7 : Option Addr} {c8 : Nat} {p10 : Option Addr} {c11 : Nat} {p13 : Option Addr} {c14 : Nat} {Q : (Wide × Bool) → Prop} (R3 : RepSl eI64 I p1 c2 a1.Start) (R6 : RepSl eI64 I p4 c5 a1.Col) (R9 : RepSl eI64 I p7 c8 a1.Val) (R12 : RepSl eU64 I p10 c11 a3.Has) (R15 : RepSl eI64 I p13 c14 a3.Vals) (hd : pull_row a0 a1 a2 a3 Q) :
    PFun Tryz.prog 115 [.int .i64 a0, .agg #[.int .i64 a1.Rows, .int .i64 a1.Cols, .slice p1 a1.Start.length c2, .slice p4 a1.Col.length c5, .slice p7 a1.Val.length c8], .int .i64 a2, .agg #[.int .i64 a3.N, .slice p10 a3.Has.length c11, .slice p13 a3.Vals.length c14]] I (fun I_ v => ∃ r, v = .tuple #[.agg (encWide r.1).toArray, .bool r.2] ∧ Q r) := by
 refine Fun.enter func115 r ntmps115 r (.c (.c (.c (.c .n)))) fun w0 M => ?_
 refine .seq (.region (.boxA r r r fun b22 => ?_))
 refine .boxA r r r fun b24 => ?_
 refine .allocA zeroValue83 r r fun b26 => ?_
 refine .skips 1 r (.nilS [8, 7, 5, 2, 0] r r (.seq (.region (.skips 1 r ?_))))
 have hw42 := W_pull_adder_6fc (I := I) (a0 := a0) hd
 refine .callS (.f call146 r) .n hw42 r r fun v46 I43 l47 hl44 hv45 => ?_
 obtain ⟨r48, b52, b53, b54, rfl, rfl, hd⟩ := hv45
 have le55 := IH.le.trans (.refl _) hl44
 replace R3 := R3.mono hl44
 replace R6 := R6.mono hl44
 replace R9 := R9.mono hl44
 replace R12 := R12.mono hl44
 replace R15 := R15.mono hl44
 refine .re (m' := [pto b52 (.cells #[.bool r48.1] 4 (0, 0)), pto b53 (.cells #[.int .i64 r48.2.1] 29 (0, 0)), pto b54 (.cells #[.int .i64 r48.2.2.Hi, .int .u64 r48.2.2.Lo] 83 (0, 0)), pto b26 (.cells #[.int .i64 0, .int .u64 0] 83 (0, 0)), pto b24 (.cells #[.int .i64 a3.N, .slice p10 a3.Has.length c11, .slice p13 a3.Vals.length c14] 53 (0, 0)), pto b22 (.cells #[.int .i64 a1.Rows, .int .i64 a1.Cols, .slice p1 a1.Start.length c2, .slice p4 a1.Col.length c5, .slice p7 a1.Val.length c8] 39 (0, 0))]) r (.skips 1 r (.extract r r r r (.extract r r r r (.skips 2 r (.nilS [11, 10, 8, 7, 5, 2, 0] r r (.seq (.seq (.region (.fieldAddr underlying39 r sizeOf36 r (o := 2) r r r ?_)))))))))
 refine .load1 isAgg36 r (.s (.s (.s (.s (.s .z))))) r r r (.skips 1 r ?_)
 obtain ⟨h65, x66, hx67, hd⟩ := hd
 obtain ⟨b68, o69, cs70, e71, hC72, hr73⟩ := R3.2 _ _ hx67
 cases hr73
 refine .ixa underlying36 sizeOf3 r e71 r h65 (idx_lt hx67 h65) r r (.ld1 (j := 0) isAgg3 hC72 r r r r r (.skips 1 r (.nilS [12, 11, 10, 8, 7, 5, 2, 0] r r (.block (.loop hd (fun (s : Bool × Int × Int × Int) c w => match s with | (s250, s251, s252, s253) => ∃ I_, IH.le I43 I_ ∧ Ok ⟨61, [], none⟩ [(0, .int .i64 a0), (2, .int .i64 a2), (5, .pointer (some ⟨b22, 0, none⟩)), (7, .pointer (some ⟨b24, 0, none⟩)), (8, .pointer (some ⟨b26, 0, none⟩)), (10, .func (.func 177) #[] #[.pointer (some ⟨b52, 0, none⟩), .pointer (some ⟨b53, 0, none⟩), .pointer (some ⟨b54, 0, none⟩)]), (11, .func (.func 178) #[] #[.pointer (some ⟨b54, 0, none⟩), .pointer (some ⟨b52, 0, none⟩)]), (12, .int .i64 s253)] c ∧ Sym w0 M I I_ [pto b22 (.cells #[.int .i64 a1.Rows, .int .i64 a1.Cols, .slice p1 a1.Start.length c2, .slice p4 a1.Col.length c5, .slice p7 a1.Val.length c8] 39 (0, 0)), pto b24 (.cells #[.int .i64 a3.N, .slice p10 a3.Has.length c11, .slice p13 a3.Vals.length c14] 53 (0, 0)), pto b26 (.cells #[.int .i64 0, .int .u64 0] 83 (0, 0)), pto b52 (.cells #[.bool s250] 4 (0, 0)), pto b53 (.cells #[.int .i64 r48.2.1] 29 (0, 0)), pto b54 (.cells #[.int .i64 s251, .int .u64 s252] 83 (0, 0))] w) (fun c w ho hs => ⟨I43, (.refl _), ho.sub ⟨r, r, r, r, r, r, r, r, trivial⟩, hs.pick (.c (.s (.s (.s (.s (.s .z))))) (.c (.s (.s (.s (.s .z)))) (.c (.s (.s (.s .z))) (.c .z (.c .z (.c .z .n))))))⟩) ?_)))))
 rintro ⟨s250, s251, s252, s253⟩ next254 hd c w hst
 obtain ⟨I255, hl256, hok, hsym⟩ := hst
 have le257 := IH.le.trans le55 hl256
 have le258 := IH.le.trans (.refl _) hl256
 replace R3 := R3.mono hl256
 replace R6 := R6.mono hl256
 replace R9 := R9.mono hl256
 replace R12 := R12.mono hl256
 replace R15 := R15.mono hl256
 refine Cod.at hok hsym (.seq (.seq (.region (.skips 1 r (.fieldAddr underlying39 r sizeOf36 r (o := 2) r r r (.load1 isAgg36 r .z r r r (.skips 1 r (.add r r r r ?_))))))))
 obtain ⟨h269, x270, hx271, hd⟩ := hd
 obtain ⟨b272, o273, cs274, e275, hC276, hr277⟩ := R3.2 _ _ hx271
 cases hr277
 refine .ixa underlying36 sizeOf3 r e275 r h269 (idx_lt hx271 h269) r r (.ld1 (j := 0) isAgg3 hC276 r r r r r (.lt r r r r (.nilS [31, 12, 11, 10, 8, 7, 5, 2, 0] r r (.condP r hd (fun hb278 hd => ?_) fun hb278 hd => ?_))))
 · refine .skipS [12, 11, 10, 8, 7, 5, 2, 0] r r (.seq (.block (.seq (.region (.fieldAddr underlying39 r sizeOf36 r (o := 3) r r r (.load1 isAgg36 r .z r r r (.skips 1 r ?_)))))))
   obtain ⟨h288, x289, hx290, hd⟩ := hd
   obtain ⟨b291, o292, cs293, e294, hC295, hr296⟩ := R6.2 _ _ hx290
   cases hr296
   refine .ixa underlying36 sizeOf3 r e294 r h288 (idx_lt hx290 h288) r r (.ld1 (j := 0) isAgg3 hC295 r r r r r (.skips 1 r (.nilS [13, 12, 11, 10, 8, 7, 5, 2, 0] r r (.seq (.region (.fieldAddr underlying53 r sizeOf33 r (o := 1) r r r (.load1 isAgg33 r (.s .z) r r r (.skips 1 r ?_))))))))
   have hw302 := W_flags_Has (I := I255) R12 hd
   refine .callP call134 r hw302 r r fun v303 hv304 => ?_
   obtain ⟨r301, rfl, hd⟩ := hv304
   refine .nilS [42, 13, 12, 11, 10, 8, 7, 5, 2, 0] r r (.condP r hd (fun hb305 hd => ?_) fun hb305 hd => ?_)
   · refine .draw [some 0, some 1, some 2, some 3, some 4, some 5, some 6, some 7, some 8, some 9, some 10, some 11, some 12, some 13] 14 MX (by kernel_rfl) (by kernel_rfl) (by kernel_rfl) (by kernel_rfl) (by kernel_rfl) (by kernel_rfl) (by kernel_rfl) (fun ex => (pto b22 (.cells #[.int .i64 a1.Rows, .int .i64 a1.Cols, .slice p1 a1.Start.length c2, .slice p4 a1.Col.length c5, .slice p7 a1.Val.length c8] 39 (0, 0))) :: (pto b24 (.cells #[.int .i64 a3.N, .slice p10 a3.Has.length c11, .slice p13 a3.Vals.length c14] 53 (0, 0))) :: (pto b26 (.cells #[.int .i64 0, .int .u64 0] 83 (0, 0))) :: (pto b52 (.cells #[.bool s250] 4 (0, 0))) :: (pto b53 (.cells #[.int .i64 r48.2.1] 29 (0, 0))) :: (pto b54 (.cells #[.int .i64 s251, .int .u64 s252] 83 (0, 0))) :: ex) (fun _ _ => (.s (.s (.s (.s (.s (.s .z))))))) r (.fs [[], []] r (by kernel_rfl) (.f [] r (by kernel_rfl) r r (fun ex => .fieldAddr underlying39 r sizeOf37 r (o := 4) r r r .mk) (.f [2] r (by kernel_rfl) r r (fun ex => .load1 isAgg37 r .z r r r .mk) (.fs [[]] r (by kernel_rfl) ?_))))
     obtain ⟨h306, x307, hx308, hd⟩ := hd
     obtain ⟨b309, o310, cs311, e312, hC313, hr314⟩ := R9.2 _ _ hx308
     cases hr314
     refine .f [3, 4] r (by kernel_rfl) r r (fun ex => .ixa underlying37 sizeOf2 r e312 r h306 (idx_lt hx308 h306) r r .mk) (.f [5] r (by kernel_rfl) r r (fun ex => .ld1 (j := 0) isAgg2 hC313 r r r r r .mk) (.f [] r (by kernel_rfl) r r (fun ex => .fieldAddr underlying53 r sizeOf37 r (o := 2) r r r .mk) (.f [7] r (by kernel_rfl) r r (fun ex => .load1 isAgg37 r (.s .z) r r r .mk) (.fs [[]] r (by kernel_rfl) ?_))))
     obtain ⟨h315, x316, hx317, hd⟩ := hd
     obtain ⟨b318, o319, cs320, e321, hC322, hr323⟩ := R15.2 _ _ hx317
     cases hr323
     refine .f [8, 9] r (by kernel_rfl) r r (fun ex => .ixa underlying37 sizeOf2 r e321 r h315 (idx_lt hx317 h315) r r .mk) (.f [10] r (by kernel_rfl) r r (fun ex => .ld1 (j := 0) isAgg2 hC322 r r r r r .mk) (.w [0] [[], [11], [10, 11], [10, 11], [8, 10, 11], [], [6], [5, 6], [5, 6], [3, 5, 6], []] [1, 6, 11] r (by kernel_rfl) (by kernel_rfl) (by kernel_rfl) ((dropE_kept r r)) (.inr (dropE_kept r r)) fun ex => ?_))
     have hw325 := W_ring_Mul (I := I255) hd
     refine .callP call135 r hw325 r r fun v326 hv327 => ?_
     obtain ⟨r324, rfl, hd⟩ := hv327
     refine .some (fun ex => (pto b22 (.cells #[.int .i64 a1.Rows, .int .i64 a1.Cols, .slice p1 a1.Start.length c2, .slice p4 a1.Col.length c5, .slice p7 a1.Val.length c8] 39 (0, 0))) :: (pto b24 (.cells #[.int .i64 a3.N, .slice p10 a3.Has.length c11, .slice p13 a3.Vals.length c14] 53 (0, 0))) :: (pto b26 (.cells #[.int .i64 0, .int .u64 0] 83 (0, 0))) :: (pto b52 (.cells #[.bool s250] 4 (0, 0))) :: (pto b53 (.cells #[.int .i64 r48.2.1] 29 (0, 0))) :: (pto b54 (.cells #[.int .i64 s251, .int .u64 s252] 83 (0, 0))) :: ex) r (fun _ _ => (.s (.s (.s (.s (.s (.s .z))))))) r (.ccs [[]] r r (by kernel_rfl) trivial) (.w [] [[]] [0, 12, 12] r (by kernel_rfl) (by kernel_rfl) (by kernel_rfl) ((dropE_kept r r)) (.inr (dropE_kept r r)) fun ex => ?_)
     have hw328 := W_pull_adder_1_b72 (I := I255) (o0 := s250) (o1 := r48.2.1) (o2 := ({ Hi := s251, Lo := s252 } : Wide)) (a0 := r324) (b4 := b52) (b5 := b53) (b6 := b54) hd
     refine .callS (.c call177 r r) (.c (.s (.s (.s .z))) (.c (.s (.s (.s .z))) (.c (.s (.s (.s .z))) .n))) hw328 r r fun v332 I329 l333 hl330 hv331 => ?_
     obtain ⟨r334, rfl, rfl, hd⟩ := hv331
     have le339 := IH.le.trans le257 hl330
     have le340 := IH.le.trans le258 hl330
     replace R3 := R3.mono hl330
     replace R6 := R6.mono hl330
     replace R9 := R9.mono hl330
     replace R12 := R12.mono hl330
     replace R15 := R15.mono hl330
     replace hC313 := hC313.mono hl330
     replace hC322 := hC322.mono hl330
     exact .re (m' := (pto b52 (.cells #[.bool r334.1] 4 (0, 0))) :: (pto b53 (.cells #[.int .i64 r48.2.1] 29 (0, 0))) :: (pto b54 (.cells #[.int .i64 r334.2.Hi, .int .u64 r334.2.Lo] 83 (0, 0))) :: (pto b22 (.cells #[.int .i64 a1.Rows, .int .i64 a1.Cols, .slice p1 a1.Start.length c2, .slice p4 a1.Col.length c5, .slice p7 a1.Val.length c8] 39 (0, 0))) :: (pto b24 (.cells #[.int .i64 a3.N, .slice p10 a3.Has.length c11, .slice p13 a3.Vals.length c14] 53 (0, 0))) :: (pto b26 (.cells #[.int .i64 0, .int .u64 0] 83 (0, 0))) :: ex) r (.some (fun ex => (pto b52 (.cells #[.bool r334.1] 4 (0, 0))) :: (pto b53 (.cells #[.int .i64 r48.2.1] 29 (0, 0))) :: (pto b54 (.cells #[.int .i64 r334.2.Hi, .int .u64 r334.2.Lo] 83 (0, 0))) :: (pto b22 (.cells #[.int .i64 a1.Rows, .int .i64 a1.Cols, .slice p1 a1.Start.length c2, .slice p4 a1.Col.length c5, .slice p7 a1.Val.length c8] 39 (0, 0))) :: (pto b24 (.cells #[.int .i64 a3.N, .slice p10 a3.Has.length c11, .slice p13 a3.Vals.length c14] 53 (0, 0))) :: (pto b26 (.cells #[.int .i64 0, .int .u64 0] 83 (0, 0))) :: ex) r (fun _ _ => (.s (.s (.s (.s (.s (.s .z))))))) r trivial (.e 14 (by kernel_rfl) (by kernel_rfl) (by kernel_rfl) (.nilS [12, 11, 10, 8, 7, 5, 2, 0] r r (.region (.skips 1 r (.add r r r r (.sub (E' := [(0, _), (2, _), (5, _), (7, _), (8, _), (10, _), (11, _), (32, _), (33, _)]) ⟨r, r, r, r, r, r, r, r, r, trivial⟩ (.skips 1 r (.nil' fun c w ho hs => ⟨(r334.1, r334.2.Hi, r334.2.Lo, w64 (s253 + 1)), hd, I329, le340, ho.sub ⟨r, r, r, r, r, r, r, r, trivial⟩, hs.pick (.c (.s (.s (.s .z))) (.c (.s (.s (.s .z))) (.c (.s (.s (.s .z))) (.c .z (.c .z (.c .z .n))))))⟩)))))))))
   exact .skipS [12, 11, 10, 8, 7, 5, 2, 0] r r (.region (.skips 1 r (.add r r r r (.sub (E' := [(0, _), (2, _), (5, _), (7, _), (8, _), (10, _), (11, _), (32, _), (33, _)]) ⟨r, r, r, r, r, r, r, r, r, trivial⟩ (.skips 1 r (.nil' fun c w ho hs => ⟨(s250, s251, s252, w64 (s253 + 1)), hd, I255, le258, ho.sub ⟨r, r, r, r, r, r, r, r, trivial⟩, hs.pick (.c .z (.c .z (.c .z (.c .z (.c .z (.c .z .n))))))⟩))))))
 refine .exitS [11, 8] r r (.drop .z (.drop .z (.drop (.s (.s .z)) (.seq (.region (.skips 1 r ?_))))))
 have hw341 := W_pull_adder_2_cdb (I := I255) (o0 := ({ Hi := s251, Lo := s252 } : Wide)) (o1 := s250) (b3 := b54) (b4 := b52) hd
 refine .callS (.c call178 r r) (.c (.s (.s .z)) (.c (.s .z) .n)) hw341 r r fun v345 I342 l346 hl343 hv344 => ?_
 obtain ⟨r347, rfl, rfl, hd⟩ := hv344
 have le348 := IH.le.trans le257 hl343
 have le349 := IH.le.trans le258 hl343
 exact .re (m' := [pto b54 (.cells #[.int .i64 s251, .int .u64 s252] 83 (0, 0)), pto b52 (.cells #[.bool s250] 4 (0, 0)), pto b26 (.cells #[.int .i64 0, .int .u64 0] 83 (0, 0))]) r (.extract r r r r (.extract r r r r (.storeA sizeOf83 r r (.s (.s .z)) (.t (.t .nil)) r r (.skips 1 r (.nilS [9, 8] r r (.drop .z (.drop .z (.ret (pret results115 (.w isAgg83 sizeOf83 r .z r (.t r .n)) le348 ⟨(r347.1, r347.2), r, hd⟩)))))))))

theorem W_pull_asked_064 {I : IH} {a0 : Int} {a1 : List Int} {a2 : Bool} {p1 : Option Addr} {c2 : Nat} {Q : (Int × (List Int) × Bool) → Prop} (R3 : RepSl eU64 I p1 c2 a1) (hd : pull_asked_064 a0 a1 a2 Q) :
    Fun Tryz.prog 114 #[.int .i64 a0, .slice p1 a1.length c2, .bool a2] I [] (fun I_ v l => ∃ r b4 b5 p6 c7 b9, v = .func (.func 145) #[] #[.pointer (some ⟨b4, 0, none⟩), .pointer (some ⟨b5, 0, none⟩), .pointer (some ⟨b9, 0, none⟩)] ∧ RepSl eU64 I_ p6 c7 r.2.1 ∧ l = [pto b4 (.cells #[.int .i64 r.1] 3 (0, 0)), pto b5 (.cells #[.slice p6 r.2.1.length c7] 33 (0, 0)), pto b9 (.cells #[.bool r.2.2] 4 (0, 0))] ∧ Q r) := by
 refine Fun.enter (vs := [.int .i64 a0, .slice p1 a1.length c2, .bool a2]) func114 r ntmps114 r (.c (.c (.c .n))) fun w0 M => ?_
 refine .seq (.region (.box1 r r r r fun b4 => ?_))
 refine .box1 r r r r fun b6 => ?_
 refine .box1 r r r r fun b8 => ?_
 exact .skips 1 r (.nilS [5, 4, 3] r r (.seq (.region (.mkFn r r r r (.skips 1 r (.nilS [6] r r (.ret (oret results114 (.t r .n) (.refl _) (.c (.s (.s .z)) (.c (.s .z) (.c .z .n))) ⟨(a0, a1, a2), _, _, _, _, _, r, R3, r, hd⟩))))))))

theorem W_pull_asked_1_839 {I : IH} {o0 : Nat} {o1 : Int} {o2 : Rows} {o3 : Dense} {o4 : List Sum} {o5 : Int} {o6 : List Int} {o7 : Bool} {Y : Nat → Int → Rows → Dense → (List Sum) → Int → ((Bool × Nat × (List Sum)) → Prop) → Prop} {b9 : Nat} {b10 : Nat} {p11 : Option Addr} {c12 : Nat} {p14 : Option Addr} {c15 : Nat} {p17 : Option Addr} {c18 : Nat} {b20 : Nat} {p21 : Option Addr} {c22 : Nat} {p24 : Option Addr} {c25 : Nat} {b27 : Nat} {p28 : Option Addr} {c29 : Nat} {b32 : Nat} {b33 : Nat} {p34 : Option Addr} {c35 : Nat} {b37 : Nat} {lr : Nat} {Rr : Nat → HA} {Q : (Nat × (List Sum)) → Prop} (hY : ∀ {J_ : IH}, I.le J_ → ∀ {y38 : Nat} {y39 : Int} {y41 : Rows} {y52 : Dense} {y60 : List Sum} {x66 : Int} {p43 : Option Addr} {c44 : Nat} {p46 : Option Addr} {c47 : Nat} {p49 : Option Addr} {c50 : Nat} {p54 : Option Addr} {c55 : Nat} {p57 : Option Addr} {c58 : Nat} {p62 : Option Addr} {c63 : Nat} {Qy : (Bool × Nat × (List Sum)) → Prop}, RepSl eI64 J_ p43 c44 y41.Start → RepSl eI64 J_ p46 c47 y41.Col → RepSl eI64 J_ p49 c50 y41.Val → RepSl eU64 J_ p54 c55 y52.Has → RepSl eI64 J_ p57 c58 y52.Vals → Y y38 y39 y41 y52 y60 x66 Qy → RFun Tryz.prog lr [.int .i64 x66] J_ [Rr y38, pto b9 (.cells #[.int .i64 y39] 29 (0, 0)), pto b10 (.cells #[.int .i64 y41.Rows, .int .i64 y41.Cols, .slice p43 y41.Start.length c44, .slice p46 y41.Col.length c47, .slice p49 y41.Val.length c50] 39 (0, 0)), pto b20 (.cells #[.int .i64 y52.N, .slice p54 y52.Has.length c55, .slice p57 y52.Vals.length c58] 53 (0, 0)), pto b27 (.cells #[.slice p62 y60.length c63] 45 (0, 0)), OwnSl eSum 85 p62 c63 y60] (fun I_ v l => ∃ r p68 c69, v = .bool r.1 ∧ l = [Rr r.2.1, pto b9 (.cells #[.int .i64 y39] 29 (0, 0)), pto b10 (.cells #[.int .i64 y41.Rows, .int .i64 y41.Cols, .slice p43 y41.Start.length c44, .slice p46 y41.Col.length c47, .slice p49 y41.Val.length c50] 39 (0, 0)), pto b20 (.cells #[.int .i64 y52.N, .slice p54 y52.Has.length c55, .slice p57 y52.Vals.length c58] 53 (0, 0)), pto b27 (.cells #[.slice p68 r.2.2.length c69] 45 (0, 0)), OwnSl eSum 85 p68 c69 r.2.2] ∧ Qy r)) (R13 : RepSl eI64 I p11 c12 o2.Start) (R16 : RepSl eI64 I p14 c15 o2.Col) (R19 : RepSl eI64 I p17 c18 o2.Val) (R23 : RepSl eU64 I p21 c22 o3.Has) (R26 : RepSl eI64 I p24 c25 o3.Vals) (R36 : RepSl eU64 I p34 c35 o6) (hd : pull_asked_1_839 o0 o1 o2 o3 o4 o5 o6 o7 Y Q) :
    Fun Tryz.prog 145 #[.func (.yield lr) #[] #[], .pointer (some ⟨b32, 0, none⟩), .pointer (some ⟨b33, 0, none⟩), .pointer (some ⟨b37, 0, none⟩)] I [Rr o0, pto b9 (.cells #[.int .i64 o1] 29 (0, 0)), pto b10 (.cells #[.int .i64 o2.Rows, .int .i64 o2.Cols, .slice p11 o2.Start.length c12, .slice p14 o2.Col.length c15, .slice p17 o2.Val.length c18] 39 (0, 0)), pto b20 (.cells #[.int .i64 o3.N, .slice p21 o3.Has.length c22, .slice p24 o3.Vals.length c25] 53 (0, 0)), pto b27 (.cells #[.slice p28 o4.length c29] 45 (0, 0)), OwnSl eSum 85 p28 c29 o4, pto b32 (.cells #[.int .i64 o5] 3 (0, 0)), pto b33 (.cells #[.slice p34 o6.length c35] 33 (0, 0)), pto b37 (.cells #[.bool o7] 4 (0, 0))] (fun I_ v l => ∃ r p39 c40, v = .tuple #[] ∧ l = [Rr r.1, pto b9 (.cells #[.int .i64 o1] 29 (0, 0)), pto b10 (.cells #[.int .i64 o2.Rows, .int .i64 o2.Cols, .slice p11 o2.Start.length c12, .slice p14 o2.Col.length c15, .slice p17 o2.Val.length c18] 39 (0, 0)), pto b20 (.cells #[.int .i64 o3.N, .slice p21 o3.Has.length c22, .slice p24 o3.Vals.length c25] 53 (0, 0)), pto b27 (.cells #[.slice p39 r.2.length c40] 45 (0, 0)), OwnSl eSum 85 p39 c40 r.2, pto b32 (.cells #[.int .i64 o5] 3 (0, 0)), pto b33 (.cells #[.slice p34 o6.length c35] 33 (0, 0)), pto b37 (.cells #[.bool o7] 4 (0, 0))] ∧ Q r) := by
 refine Fun.enter (vs := [.func (.yield lr) #[] #[], .pointer (some ⟨b32, 0, none⟩), .pointer (some ⟨b33, 0, none⟩), .pointer (some ⟨b37, 0, none⟩)]) func145 r ntmps145 r (.c (.c (.c (.c .n)))) fun w0 M => ?_
 refine .seq (.region (.load1 isAgg3 r (.s (.s (.s (.s (.s (.s .z)))))) r r r (.skips 1 r (.nilS [7, 6, 3, 2, 1, 0] r r (.block (.loop hd (fun (s : (List Sum) × Int × Nat) c w => match s with | (s131, s135, s136) => ∃ I_ p132 c133, IH.le I I_ ∧ Ok ⟨22, [], none⟩ [(0, .func (.yield lr) #[] #[]), (1, .pointer (some ⟨b32, 0, none⟩)), (2, .pointer (some ⟨b33, 0, none⟩)), (3, .pointer (some ⟨b37, 0, none⟩)), (6, .int .i64 o5), (7, .int .i64 s135)] c ∧ Sym w0 M I I_ [pto b9 (.cells #[.int .i64 o1] 29 (0, 0)), pto b10 (.cells #[.int .i64 o2.Rows, .int .i64 o2.Cols, .slice p11 o2.Start.length c12, .slice p14 o2.Col.length c15, .slice p17 o2.Val.length c18] 39 (0, 0)), pto b20 (.cells #[.int .i64 o3.N, .slice p21 o3.Has.length c22, .slice p24 o3.Vals.length c25] 53 (0, 0)), pto b27 (.cells #[.slice p132 s131.length c133] 45 (0, 0)), OwnSl eSum 85 p132 c133 s131, pto b32 (.cells #[.int .i64 o5] 3 (0, 0)), pto b33 (.cells #[.slice p34 o6.length c35] 33 (0, 0)), pto b37 (.cells #[.bool o7] 4 (0, 0)), Rr s136] w) (fun c w ho hs => ⟨I, _, _, (.refl _), ho.sub ⟨r, r, r, r, r, r, trivial⟩, hs.pick (.c (.s .z) (.c (.s .z) (.c (.s .z) (.c (.s .z) (.c (.s .z) (.c (.s .z) (.c (.s .z) (.c (.s .z) (.c .z .n)))))))))⟩) ?_))))))
 rintro ⟨s131, s135, s136⟩ next137 hd c w hst
 obtain ⟨I138, p132, c133, hl139, hok, hsym⟩ := hst
 have le140 := IH.le.trans (.refl _) hl139
 replace R13 := R13.mono hl139
 replace R16 := R16.mono hl139
 replace R19 := R19.mono hl139
 replace R23 := R23.mono hl139
 replace R26 := R26.mono hl139
 replace R36 := R36.mono hl139
 refine Cod.at hok hsym (.seq (.region (.lt r r r r (.nilS [8, 7, 6, 3, 2, 1, 0] r r (.seq (.condP r hd (fun hb142 hd => ?_) fun hb142 hd => ?_))))))
 · refine .skipS [7, 6, 3, 2, 1, 0] r r (.seq (.block (.seq (.region (.skips 2 r (.nilS [5, 7, 6, 3, 2, 1, 0] r r (.seq (.draw [some 0, some 1, some 3, some 2, some 4, some 5, some 6, some 7, some 8, some 9, some 10] 11 MX (by kernel_rfl) (by kernel_rfl) (by kernel_rfl) (by kernel_rfl) (by kernel_rfl) (by kernel_rfl) (by kernel_rfl) (fun ex => (pto b9 (.cells #[.int .i64 o1] 29 (0, 0))) :: (pto b10 (.cells #[.int .i64 o2.Rows, .int .i64 o2.Cols, .slice p11 o2.Start.length c12, .slice p14 o2.Col.length c15, .slice p17 o2.Val.length c18] 39 (0, 0))) :: (pto b20 (.cells #[.int .i64 o3.N, .slice p21 o3.Has.length c22, .slice p24 o3.Vals.length c25] 53 (0, 0))) :: (pto b27 (.cells #[.slice p132 s131.length c133] 45 (0, 0))) :: (OwnSl eSum 85 p132 c133 s131) :: (pto b32 (.cells #[.int .i64 o5] 3 (0, 0))) :: (pto b33 (.cells #[.slice p34 o6.length c35] 33 (0, 0))) :: (pto b37 (.cells #[.bool o7] 4 (0, 0))) :: (Rr s136) :: ex) (fun _ _ => (.s (.s (.s (.s (.s (.s (.s (.s (.s .z)))))))))) r (.f [] r (by kernel_rfl) r r (fun ex => .load1 isAgg33 r (.s (.s (.s (.s (.s (.s .z)))))) r r r .mk) ?_)))))))))
   refine .fs [[]] r (by kernel_rfl) (.f [] r (by kernel_rfl) r r (fun ex => .load1 isAgg4 r (.s (.s (.s (.s (.s (.s (.s .z))))))) r r r .mk) (.w [3] [[], []] [0, 1] r (by kernel_rfl) (by kernel_rfl) (by kernel_rfl) ((dropE_kept r r)) (.inr (dropE_kept r r)) fun ex => ?_))
   have hw144 := W_flags_Has (I := I138) R36 hd
   refine .callP call134 r hw144 r r fun v145 hv146 => ?_
   obtain ⟨r143, rfl, hd⟩ := hv146
   refine .some (fun ex => (pto b9 (.cells #[.int .i64 o1] 29 (0, 0))) :: (pto b10 (.cells #[.int .i64 o2.Rows, .int .i64 o2.Cols, .slice p11 o2.Start.length c12, .slice p14 o2.Col.length c15, .slice p17 o2.Val.length c18] 39 (0, 0))) :: (pto b20 (.cells #[.int .i64 o3.N, .slice p21 o3.Has.length c22, .slice p24 o3.Vals.length c25] 53 (0, 0))) :: (pto b27 (.cells #[.slice p132 s131.length c133] 45 (0, 0))) :: (OwnSl eSum 85 p132 c133 s131) :: (pto b32 (.cells #[.int .i64 o5] 3 (0, 0))) :: (pto b33 (.cells #[.slice p34 o6.length c35] 33 (0, 0))) :: (pto b37 (.cells #[.bool o7] 4 (0, 0))) :: (Rr s136) :: ex) r (fun _ _ => (.s (.s (.s (.s (.s (.s (.s (.s (.s .z)))))))))) r (.cc [] r (by kernel_rfl) r r r (fun ex => .load1 isAgg4 r (.s (.s (.s (.s (.s (.s (.s .z))))))) r r r .mk) trivial) (.f [2, 3] r (by kernel_rfl) r r (fun ex => .neB underlying4 r r r r .mk) (.fs [[4, 2]] r (by kernel_rfl) ?_))
   refine splitP hd (fun hb147 hd => ?_) fun hb147 hd => ?_
   · refine .f [5] r (by kernel_rfl) r r (fun ex => .gyes r r hb147 (.move r r r .mk)) (.f [5] r (by kernel_rfl) r r (fun ex => .gyes r r hb147 (.move r r r .mk)) (.w [] [[], [], [], [5], [4, 5]] [6, 7, 5, 5] r (by kernel_rfl) (by kernel_rfl) (by kernel_rfl) ((dropE_kept r r)) (.inr (dropE_kept r r)) fun ex => ?_))
     have hw148 := hY (J_ := I138) le140 (y38 := s136) (y39 := o1) (y41 := o2) (y52 := o3) (y60 := s131) (x66 := s135) (p43 := p11) (c44 := c12) (p46 := p14) (c47 := c15) (p49 := p17) (c50 := c18) (p54 := p21) (c55 := c22) (p57 := p24) (c58 := c25) (p62 := p132) (c63 := c133) R13 R16 R19 R23 R26 hd
     refine .gyes r r hb147 (.callY r r (.c (.s (.s (.s (.s (.s (.s (.s (.s .z)))))))) (.c .z (.c .z (.c .z (.c .z (.c .z .n)))))) hw148 r r fun v152 I149 l153 hl150 hv151 => ?_)
     obtain ⟨r154, p158, c159, rfl, rfl, hd⟩ := hv151
     have le162 := IH.le.trans le140 hl150
     replace R13 := R13.mono hl150
     replace R16 := R16.mono hl150
     replace R19 := R19.mono hl150
     replace R23 := R23.mono hl150
     replace R26 := R26.mono hl150
     replace R36 := R36.mono hl150
     refine .re (m' := (Rr r154.2.1) :: (pto b9 (.cells #[.int .i64 o1] 29 (0, 0))) :: (pto b10 (.cells #[.int .i64 o2.Rows, .int .i64 o2.Cols, .slice p11 o2.Start.length c12, .slice p14 o2.Col.length c15, .slice p17 o2.Val.length c18] 39 (0, 0))) :: (pto b20 (.cells #[.int .i64 o3.N, .slice p21 o3.Has.length c22, .slice p24 o3.Vals.length c25] 53 (0, 0))) :: (pto b27 (.cells #[.slice p158 r154.2.2.length c159] 45 (0, 0))) :: (OwnSl eSum 85 p158 c159 r154.2.2) :: (pto b32 (.cells #[.int .i64 o5] 3 (0, 0))) :: (pto b33 (.cells #[.slice p34 o6.length c35] 33 (0, 0))) :: (pto b37 (.cells #[.bool o7] 4 (0, 0))) :: ex) r (.some (fun ex => (Rr r154.2.1) :: (pto b9 (.cells #[.int .i64 o1] 29 (0, 0))) :: (pto b10 (.cells #[.int .i64 o2.Rows, .int .i64 o2.Cols, .slice p11 o2.Start.length c12, .slice p14 o2.Col.length c15, .slice p17 o2.Val.length c18] 39 (0, 0))) :: (pto b20 (.cells #[.int .i64 o3.N, .slice p21 o3.Has.length c22, .slice p24 o3.Vals.length c25] 53 (0, 0))) :: (pto b27 (.cells #[.slice p158 r154.2.2.length c159] 45 (0, 0))) :: (OwnSl eSum 85 p158 c159 r154.2.2) :: (pto b32 (.cells #[.int .i64 o5] 3 (0, 0))) :: (pto b33 (.cells #[.slice p34 o6.length c35] 33 (0, 0))) :: (pto b37 (.cells #[.bool o7] 4 (0, 0))) :: ex) r (fun _ _ => (.s (.s (.s (.s (.s (.s (.s (.s (.s .z)))))))))) r trivial (.f [8, 5] r (by kernel_rfl) r r (fun ex => .gyes r r hb147 (.not r r r .mk)) (.f [5, 9] r (by kernel_rfl) r r (fun ex => .pickT r hb147 r r r .mk) (.e 11 (by kernel_rfl) (by kernel_rfl) (by kernel_rfl) (.nilS [20, 7, 6, 3, 2, 1, 0] r r (.condP r hd (fun hb163 hd => ?_) fun hb163 hd => ?_))))))
     · exact .ret (oret results145 .n le162 (.c .z (.c .z (.c .z (.c .z (.c .z (.c .z (.c .z (.c .z (.c .z .n))))))))) ⟨(r154.2.1, r154.2.2), _, _, r, r, hd⟩)
     exact .skipS [7, 6, 3, 2, 1, 0] r r (.region (.add r r r r (.sub (E' := [(0, _), (1, _), (2, _), (3, _), (6, _), (21, _)]) ⟨r, r, r, r, r, r, trivial⟩ (.skips 1 r (.nil' fun c w ho hs => ⟨(r154.2.2, w64 (s135 + 1), r154.2.1), hd, I149, _, _, le162, ho.sub ⟨r, r, r, r, r, r, trivial⟩, hs.pick (.c (.s .z) (.c (.s .z) (.c (.s .z) (.c (.s .z) (.c (.s .z) (.c (.s .z) (.c (.s .z) (.c (.s .z) (.c .z .n)))))))))⟩)))))
   refine .f [5] r (by kernel_rfl) r r (fun ex => .gno r r hb147 r r .mk) (.f [5] r (by kernel_rfl) r r (fun ex => .gno r r hb147 r r .mk) (.f [6, 7, 5, 5] r (by kernel_rfl) r r (fun ex => .gno r r hb147 r r .mk) (.f [8, 5] r (by kernel_rfl) r r (fun ex => .gno r r hb147 r r .mk) (.f [5, 9] r (by kernel_rfl) r r (fun ex => .pickF r hb147 r r r .mk) (.e 11 (by kernel_rfl) (by kernel_rfl) (by kernel_rfl) (.nilS [20, 7, 6, 3, 2, 1, 0] r r (.condKF r r (.skipS [7, 6, 3, 2, 1, 0] r r (.region ?_)))))))))
   exact .add r r r r (.sub (E' := [(0, _), (1, _), (2, _), (3, _), (6, _), (21, _)]) ⟨r, r, r, r, r, r, trivial⟩ (.skips 1 r (.nil' fun c w ho hs => ⟨(s131, w64 (s135 + 1), s136), hd, I138, _, _, le140, ho.sub ⟨r, r, r, r, r, r, trivial⟩, hs.pick (.c .z (.c .z (.c .z (.c .z (.c .z (.c .z (.c .z (.c .z (.c .z .n)))))))))⟩)))
 exact .exit (oretN results145 .n le140 (.c (.s (.s (.s (.s (.s (.s (.s (.s .z)))))))) (.c .z (.c .z (.c .z (.c .z (.c .z (.c .z (.c .z (.c .z .n))))))))) ⟨(s136, s131), _, _, r, r, hd⟩)

theorem W_pull_Sums {I : IH} {a0 : Int} {a1 : Rows} {a2 : Dense} {a3 : List Int} {a4 : Bool} {p1 : Option Addr} {c2 : Nat} {p4 : Option Addr} {c5 : Nat} {p7 : Option Addr} {c8 : Nat} {p10 : Option Addr} {c11 : Nat} {p13 : Option Addr} {c14 : Nat} {p16 : Option Addr} {c17 : Nat} {Q : ((List Sum) × Int) → Prop} (R3 : RepSl eI64 I p1 c2 a1.Start) (R6 : RepSl eI64 I p4 c5 a1.Col) (R9 : RepSl eI64 I p7 c8 a1.Val) (R12 : RepSl eU64 I p10 c11 a2.Has) (R15 : RepSl eI64 I p13 c14 a2.Vals) (R18 : RepSl eU64 I p16 c17 a3) (hd : pull_Sums a0 a1 a2 a3 a4 Q) :
    PFun Tryz.prog 75 [.int .i64 a0, .agg #[.int .i64 a1.Rows, .int .i64 a1.Cols, .slice p1 a1.Start.length c2, .slice p4 a1.Col.length c5, .slice p7 a1.Val.length c8], .agg #[.int .i64 a2.N, .slice p10 a2.Has.length c11, .slice p13 a2.Vals.length c14], .slice p16 a3.length c17, .bool a4] I (fun I_ v => ∃ r p19 c20, v = .tuple #[.slice p19 r.1.length c20, .int .i64 r.2] ∧ RepSl eSum I_ p19 c20 r.1 ∧ Q r) := by
 refine Fun.enter func75 r ntmps75 r (.c (.c (.c (.c (.c .n))))) fun w0 M => ?_
 refine .marks0 (.seq (.region (.box1 r r r r fun b28 => ?_)))
 refine .boxA r r r fun b30 => ?_
 refine .boxA r r r fun b32 => ?_
 refine .skips 2 r (.nilS [7, 6, 5, 4, 3] r r (.seq (.region (.loadW isAgg39 sizeOf39 r (.s .z) r r r (.loadW isAgg53 sizeOf53 r .z r r r ?_)))))
 have hw78 := W_pull_sure (I := I) R3 R6 R9 R12 R15 hd
 refine .call call113 r hw78 r r fun v61 I58 hl59 hv60 => ?_
 obtain ⟨r57, p63, c64, p66, c67, p69, c70, p72, c73, p75, c76, rfl, R65, R68, R71, R74, R77, hd⟩ := hv60
 have le79 := IH.le.trans (.refl _) hl59
 replace R3 := R3.mono hl59
 replace R6 := R6.mono hl59
 replace R9 := R9.mono hl59
 replace R12 := R12.mono hl59
 replace R15 := R15.mono hl59
 replace R18 := R18.mono hl59
 refine .skips 1 r (.extract r r r r (.extract r r r r (.storeA sizeOf39 r r (.s .z) (.t (.t (.t (.t (.t .nil))))) r r (.storeA sizeOf53 r r .z (.t (.t (.t .nil))) r r (.nilS [7, 6, 5, 4, 3] r r (.seq (.block (.seq (.region ?_)))))))))
 refine .load1 isAgg29 r (.s (.s .z)) r r r ?_
 have hw95 := W_ring_Is (I := I58) hd
 refine .callP call109 r hw95 r r fun v96 hv97 => ?_
 obtain ⟨r94, rfl, hd⟩ := hv97
 refine .not r r r (.skips 1 r (.nilS [22, 7, 6, 5, 4, 3] r r (.condP r hd (fun hb98 hd => ?_) fun hb98 hd => ?_)))
 · exact .seq (.region (.skips 2 r (.nilS [11, 10] r r (.drop .z (.drop .z (.drop .z (.ret (pretM .z results75 (.t r (.t r .n)) le79 ⟨(([] : List Sum), 8), _, _, r, (.nil _ _ _), hd⟩))))))))
 refine .seq (.region (.fieldAddr underlying53 r sizeOf3 r (o := 0) r r r (.load1 isAgg3 r .z r r r (.fieldAddr underlying39 r sizeOf3 r (o := 1) r r r (.load1 isAgg3 r (.s .z) r r r (.ne r r r r (.skips 1 r (.nilS [26, 7, 6, 5, 4, 3] r r (.condP r hd (fun hb99 hd => ?_) fun hb99 hd => ?_)))))))))
 · exact .seq (.region (.skips 2 r (.nilS [11, 10] r r (.drop .z (.drop .z (.drop .z (.ret (pretM .z results75 (.t r (.t r .n)) le79 ⟨(([] : List Sum), 4), _, _, r, (.nil _ _ _), hd⟩))))))))
 refine .skipS [7, 6, 5, 4, 3] r r (.seq (.region (.alloc1 zeroValue45 r r r fun b102 => ?_)))
 refine .nilS [12, 7, 6, 5, 4, 3] r r (.seq (.seq (.region (.fieldAddr underlying39 r sizeOf3 r (o := 0) r r r (.load1 isAgg3 r (.s (.s .z)) r r r (.skips 2 r ?_))))))
 have hw121 := W_pull_asked_064 (I := I58) (a0 := r57.1.Rows) (a1 := a3) (a2 := a4) R18 hd
 refine .callS (.f call114 r) .n hw121 r r fun v125 I122 l126 hl123 hv124 => ?_
 obtain ⟨r127, b131, b132, p133, c134, b136, rfl, R135, rfl, hd⟩ := hv124
 have le137 := IH.le.trans le79 hl123
 replace R18 := R18.mono hl123
 replace R65 := R65.mono hl123
 replace R68 := R68.mono hl123
 replace R71 := R71.mono hl123
 replace R74 := R74.mono hl123
 replace R77 := R77.mono hl123
 refine .re (m' := [pto b131 (.cells #[.int .i64 r127.1] 3 (0, 0)), pto b132 (.cells #[.slice p133 r127.2.1.length c134] 33 (0, 0)), pto b136 (.cells #[.bool r127.2.2] 4 (0, 0)), pto b102 (.cells #[.slice none 0 0] 45 (0, 0)), pto b32 (.cells #[.int .i64 r57.2.N, .slice p72 r57.2.Has.length c73, .slice p75 r57.2.Vals.length c76] 53 (0, 0)), pto b30 (.cells #[.int .i64 r57.1.Rows, .int .i64 r57.1.Cols, .slice p63 r57.1.Start.length c64, .slice p66 r57.1.Col.length c67, .slice p69 r57.1.Val.length c70] 39 (0, 0)), pto b28 (.cells #[.int .i64 a0] 29 (0, 0)), Marks ([])]) r (.nilS [36, 12, 7, 6, 5] r r (.block (.own0 eSum 85 (.rangeF [] r call145 (.c (.s (.s (.s (.s (.s (.s (.s (.s .z)))))))) (.c (.s (.s (.s (.s (.s (.s (.s .z))))))) (.c (.s (.s (.s (.s (.s (.s .z)))))) (.c (.s (.s (.s (.s (.s .z))))) (.c (.s (.s (.s (.s .z)))) (.c .z (.c .z (.c .z (.c .z .n))))))))) fun lr D rc hrc => ?_))))
 refine ⟨_, W_pull_asked_1_839 (I := I122) (lr := lr) (Rr := recA lr [] rc) (o0 := 0) (o1 := a0) (o2 := r57.1) (o3 := r57.2) (o4 := ([] : List Sum)) (o5 := r127.1) (o6 := r127.2.1) (o7 := r127.2.2) (b9 := b28) (b10 := b30) (p11 := p63) (c12 := c64) (p14 := p66) (c15 := c67) (p17 := p69) (c18 := c70) (b20 := b32) (p21 := p72) (c22 := c73) (p24 := p75) (c25 := c76) (b27 := b102) (p28 := none) (c29 := 0) (b32 := b131) (b33 := b132) (p34 := p133) (c35 := c134) (b37 := b136) ?_ R65 R68 R71 R74 R77 R135 hd, ?_⟩
 · skip
   intro I hJ y236 y237 y239 y250 y258 x264 p241 c242 p244 c245 p247 c248 p252 c253 p255 c256 p260 c261 Qy R243 R246 R249 R254 R257 hd
   replace R65 := R65.mono hJ
   replace R68 := R68.mono hJ
   replace R71 := R71.mono hJ
   replace R74 := R74.mono hJ
   replace R77 := R77.mono hJ
   replace R135 := R135.mono hJ
   obtain ⟨rfl, hd⟩ := hd
   refine RFun.mk hrc r fun w0 M => ?_
   refine .region (.skips 1 r (.nil' fun c w ho hs => beginR (E' := [(5, _), (6, _), (7, _), (12, _), (13, _)]) ho ⟨r, r, r, r, r, trivial⟩ hs .z (.block (.seq (.region (.load1 isAgg29 r (.s .z) r r r (.loadW isAgg39 sizeOf39 r (.s (.s .z)) r r r (.skips 1 r (.loadW isAgg53 sizeOf53 r (.s (.s (.s .z))) r r r ?_)))))))))
   have hw272 := W_pull_row (I := I) R243 R246 R249 R254 R257 hd
   refine .callP call115 r hw272 r r fun v273 hv274 => ?_
   obtain ⟨r271, rfl, hd⟩ := hv274
   refine .skips 1 r (.extract r r r r (.extract r r r r (.allocA zeroValue83 r r fun b275 => ?_)))
   refine .storeA sizeOf83 r r .z (.t (.t .nil)) r r (.skips 1 r (.nilS [15, 14, 13, 12] r r (.seq (.region (.skips 1 r (.nilS [46, 14, 13, 12] r r (.condP r hd (fun hb277 hd => ?_) fun hb277 hd => ?_)))))))
   · refine .region (.load1 isAgg45 r (.s (.s (.s (.s (.s .z))))) r r r (.skips 1 r (.loadW isAgg83 sizeOf83 r .z r r r (.build zeroValue85 underlying85 BI85 (.c r r r (.t .nil) (.c r r r (.s (.t (.t .nil))) .n)) (by exact ⟨⟨_, _, r, r, r⟩, ⟨⟨_, _, r, r, r⟩, trivial⟩⟩) r r (.buildSlice 1 underlying45 sizeOf85 zeroValue85 r r (.c r r r .n) r r fun b278 => ?_)))))
     obtain ⟨hl280, hd⟩ := hd
     refine .append (ys := [({ At := x264, Val := r271.1 } : Sum)]) 24 (.s (.s (.s (.s (.s (.s (.s .z))))))) underlying45 underlying45 IN85 r r r r r r r r r (.box .z (.one r) r) hl280 r r fun p281 c282 => ?_
     refine .store1 sizeOf45 r r (.s (.s (.s (.s (.s (.s (.s .z))))))) (.t .nil) r ?_
     exact .nil' fun c w ho hs => endR 0 (.inl rfl) (.refl _) (.s (.s (.s .z))) (.c (.s (.s (.s .z))) (.c (.s (.s (.s .z))) (.c (.s (.s (.s .z))) (.c (.s (.s (.s .z))) (.c .z .n))))) ⟨(true, 0, (y258 ++ ([({ At := x264, Val := r271.1 } : Sum)]))), _, _, rfl, rfl, hd⟩ hs
   exact .skip' fun c w ho hs => endR 0 (.inl rfl) (.refl _) (.s .z) (.c (.s .z) (.c (.s .z) (.c (.s .z) (.c (.s .z) (.c (.s .z) .n))))) ⟨(true, 0, y258), _, _, rfl, rfl, hd⟩ hs
 intro v287 I284 l' hl285 hv286
 obtain ⟨r288, p292, c293, rfl, rfl, hd⟩ := hv286
 have le296 := IH.le.trans le137 hl285
 replace R65 := R65.mono hl285
 replace R68 := R68.mono hl285
 replace R71 := R71.mono hl285
 replace R74 := R74.mono hl285
 replace R77 := R77.mono hl285
 replace R135 := R135.mono hl285
 obtain ⟨hz, hd⟩ := hd
 refine ⟨_, _, r, fun hj => ?_, fun i hj => absurd (hz.symm.trans hj) (by simp)⟩
 refine .re (m' := [Marks (D :: []), pto b28 (.cells #[.int .i64 a0] 29 (0, 0)), pto b30 (.cells #[.int .i64 r57.1.Rows, .int .i64 r57.1.Cols, .slice p63 r57.1.Start.length c64, .slice p66 r57.1.Col.length c67, .slice p69 r57.1.Val.length c70] 39 (0, 0)), pto b32 (.cells #[.int .i64 r57.2.N, .slice p72 r57.2.Has.length c73, .slice p75 r57.2.Vals.length c76] 53 (0, 0)), pto b102 (.cells #[.slice p292 r288.2.length c293] 45 (0, 0)), OwnSl eSum 85 p292 c293 r288.2, pto b131 (.cells #[.int .i64 r127.1] 3 (0, 0)), pto b132 (.cells #[.slice p133 r127.2.1.length c134] 33 (0, 0)), pto b136 (.cells #[.bool r127.2.2] 4 (0, 0))]) r (.mkS [12] r r (.drop (.s .z) (.drop (.s .z) (.drop (.s .z) (.drop (.s (.s (.s .z))) (.drop (.s (.s (.s .z))) (.drop (.s (.s (.s .z))) (.seq (.region ?_)))))))))
 refine .load1 isAgg45 r (.s .z) r r r (.skips 2 r (.nilS [11, 10] r r (.drop (.s .z) (.pub (.s .z) fun I297 hl298 R299 => ?_))))
 have le300 := IH.le.trans le296 hl298
 exact .ret (pretM .z results75 (.t r (.t r .n)) le300 ⟨(r288.2, 0), _, _, r, R299, hd⟩)

theorem W_policy_Task_pull_afb {I : IH} {a0 : Policy_Task} {p1 : Option Addr} {c2 : Nat} {p4 : Option Addr} {c5 : Nat} {p7 : Option Addr} {c8 : Nat} {p10 : Option Addr} {c11 : Nat} {p13 : Option Addr} {c14 : Nat} {p16 : Option Addr} {c17 : Nat} {p19 : Option Addr} {c20 : Nat} {p22 : Option Addr} {c23 : Nat} {p25 : Option Addr} {c26 : Nat} {p28 : Option Addr} {c29 : Nat} {p31 : Option Addr} {c32 : Nat} {Q : ((List Sum) × Int) → Prop} (R3 : RepSl eI64 I p1 c2 a0.Rows.Start) (R6 : RepSl eI64 I p4 c5 a0.Rows.Col) (R9 : RepSl eI64 I p7 c8 a0.Rows.Val) (R12 : RepSl eI64 I p10 c11 a0.Cols.At) (R15 : RepSl eI64 I p13 c14 a0.Cols.Start) (R18 : RepSl eI64 I p16 c17 a0.Cols.Row) (R21 : RepSl eI64 I p19 c20 a0.Cols.Val) (R24 : RepSl eItem I p22 c23 a0.X.Vec.Items) (R27 : RepSl eU64 I p25 c26 a0.X.Dense.Has) (R30 : RepSl eI64 I p28 c29 a0.X.Dense.Vals) (R33 : RepSl eU64 I p31 c32 a0.Set) (hd : policy_Task_pull_afb a0 Q) :
    Fun Tryz.prog 41 #[.agg #[.int .i64 a0.Ring, .int .i64 a0.Rows.Rows, .int .i64 a0.Rows.Cols, .slice p1 a0.Rows.Start.length c2, .slice p4 a0.Rows.Col.length c5, .slice p7 a0.Rows.Val.length c8, .int .i64 a0.Cols.Rows, .int .i64 a0.Cols.Cols, .slice p10 a0.Cols.At.length c11, .slice p13 a0.Cols.Start.length c14, .slice p16 a0.Cols.Row.length c17, .slice p19 a0.Cols.Val.length c20, .int .i64 a0.X.Form, .int .i64 a0.X.Vec.N, .slice p22 a0.X.Vec.Items.length c23, .int .i64 a0.X.Dense.N, .slice p25 a0.X.Dense.Has.length c26, .slice p28 a0.X.Dense.Vals.length c29, .slice p31 a0.Set.length c32, .bool a0.Others, .int .i64 a0.Way]] I [] (fun I_ v l => ∃ r p34 c35, v = .tuple #[.slice p34 r.1.length c35, .int .i64 r.2] ∧ RepSl eSum I_ p34 c35 r.1 ∧ l = [] ∧ Q r) := by
 refine Fun.enter (vs := [.agg #[.int .i64 a0.Ring, .int .i64 a0.Rows.Rows, .int .i64 a0.Rows.Cols, .slice p1 a0.Rows.Start.length c2, .slice p4 a0.Rows.Col.length c5, .slice p7 a0.Rows.Val.length c8, .int .i64 a0.Cols.Rows, .int .i64 a0.Cols.Cols, .slice p10 a0.Cols.At.length c11, .slice p13 a0.Cols.Start.length c14, .slice p16 a0.Cols.Row.length c17, .slice p19 a0.Cols.Val.length c20, .int .i64 a0.X.Form, .int .i64 a0.X.Vec.N, .slice p22 a0.X.Vec.Items.length c23, .int .i64 a0.X.Dense.N, .slice p25 a0.X.Dense.Has.length c26, .slice p28 a0.X.Dense.Vals.length c29, .slice p31 a0.Set.length c32, .bool a0.Others, .int .i64 a0.Way]]) func41 r ntmps41 r (.c .n) fun w0 M => ?_
 refine .seq (.region (.boxA r r r fun b36 => ?_))
 refine .skips 2 r (.nilS [1] r r (.seq (.draw [some 0, some 1, some 2, some 3, some 4, some 5, some 7, some 8, some 9, some 10, some 6, some 11, some 12, some 13] 14 MX (by kernel_rfl) (by kernel_rfl) (by kernel_rfl) (by kernel_rfl) (by kernel_rfl) (by kernel_rfl) (by kernel_rfl) (fun ex => (pto b36 (.cells #[.int .i64 a0.Ring, .int .i64 a0.Rows.Rows, .int .i64 a0.Rows.Cols, .slice p1 a0.Rows.Start.length c2, .slice p4 a0.Rows.Col.length c5, .slice p7 a0.Rows.Val.length c8, .int .i64 a0.Cols.Rows, .int .i64 a0.Cols.Cols, .slice p10 a0.Cols.At.length c11, .slice p13 a0.Cols.Start.length c14, .slice p16 a0.Cols.Row.length c17, .slice p19 a0.Cols.Val.length c20, .int .i64 a0.X.Form, .int .i64 a0.X.Vec.N, .slice p22 a0.X.Vec.Items.length c23, .int .i64 a0.X.Dense.N, .slice p25 a0.X.Dense.Has.length c26, .slice p28 a0.X.Dense.Vals.length c29, .slice p31 a0.Set.length c32, .bool a0.Others, .int .i64 a0.Way] 58 (0, 0))) :: ex) (fun _ _ => (.s .z)) r (.f [] r (by kernel_rfl) r r (fun ex => .fieldAddr underlying58 r sizeOf29 r (o := 0) r r r .mk) (.f [0] r (by kernel_rfl) r r (fun ex => .load1 isAgg29 r .z r r r .mk) (.f [] r (by kernel_rfl) r r (fun ex => .fieldAddr underlying58 r sizeOf39 r (o := 1) r r r .mk) (.f [2] r (by kernel_rfl) r r (fun ex => .loadA isAgg39 sizeOf39 r .z (.s (.t (.t (.t (.t (.t .nil)))))) r r r .mk) (.f [] r (by kernel_rfl) r r (fun ex => .fieldAddr underlying58 r sizeOf55 r (o := 12) r r r .mk) (.f [4] r (by kernel_rfl) r r (fun ex => .loadA isAgg55 sizeOf55 r .z (.s (.s (.s (.s (.s (.s (.s (.s (.s (.s (.s (.s (.t (.t (.t (.t (.t (.t .nil)))))))))))))))))) r r r .mk) ?_)))))))))
 refine .f [] r (by kernel_rfl) r r (fun ex => .fieldAddr underlying58 r sizeOf33 r (o := 18) r r r .mk) (.f [7] r (by kernel_rfl) r r (fun ex => .load1 isAgg33 r .z r r r .mk) (.f [] r (by kernel_rfl) r r (fun ex => .fieldAddr underlying58 r sizeOf4 r (o := 19) r r r .mk) (.f [9] r (by kernel_rfl) r r (fun ex => .load1 isAgg4 r .z r r r .mk) (.w [10, 9, 8, 7, 3, 2, 1, 0] [[], [5]] [5] r (by kernel_rfl) (by kernel_rfl) (by kernel_rfl) ((dropE_kept r r)) (.inr (dropE_kept r r)) fun ex => ?_))))
 have hw50 := W_policy_Dense (I := I) R24 R27 R30 hd
 refine .call call25 r hw50 r r fun v42 I39 hl40 hv41 => ?_
 obtain ⟨r38, p44, c45, p47, c48, rfl, R46, R49, hd⟩ := hv41
 have le51 := IH.le.trans (.refl _) hl40
 replace R3 := R3.mono hl40
 replace R6 := R6.mono hl40
 replace R9 := R9.mono hl40
 replace R12 := R12.mono hl40
 replace R15 := R15.mono hl40
 replace R18 := R18.mono hl40
 replace R21 := R21.mono hl40
 replace R24 := R24.mono hl40
 replace R27 := R27.mono hl40
 replace R30 := R30.mono hl40
 replace R33 := R33.mono hl40
 refine .some (fun ex => (pto b36 (.cells #[.int .i64 a0.Ring, .int .i64 a0.Rows.Rows, .int .i64 a0.Rows.Cols, .slice p1 a0.Rows.Start.length c2, .slice p4 a0.Rows.Col.length c5, .slice p7 a0.Rows.Val.length c8, .int .i64 a0.Cols.Rows, .int .i64 a0.Cols.Cols, .slice p10 a0.Cols.At.length c11, .slice p13 a0.Cols.Start.length c14, .slice p16 a0.Cols.Row.length c17, .slice p19 a0.Cols.Val.length c20, .int .i64 a0.X.Form, .int .i64 a0.X.Vec.N, .slice p22 a0.X.Vec.Items.length c23, .int .i64 a0.X.Dense.N, .slice p25 a0.X.Dense.Has.length c26, .slice p28 a0.X.Dense.Vals.length c29, .slice p31 a0.Set.length c32, .bool a0.Others, .int .i64 a0.Way] 58 (0, 0))) :: ex) r (fun _ _ => (.s .z)) r (.cc [9] r (by kernel_rfl) r r r (fun ex => .load1 isAgg4 r .z r r r .mk) (.cc [] r (by kernel_rfl) r r r (fun ex => .fieldAddr underlying58 r sizeOf4 r (o := 19) r r r .mk) (.cc [7] r (by kernel_rfl) r r r (fun ex => .load1 isAgg33 r .z r r r .mk) (.cc [] r (by kernel_rfl) r r r (fun ex => .fieldAddr underlying58 r sizeOf33 r (o := 18) r r r .mk) (.cc [2] r (by kernel_rfl) r r r (fun ex => .loadA isAgg39 sizeOf39 r .z (.s (.t (.t (.t (.t (.t .nil)))))) r r r .mk) (.cc [] r (by kernel_rfl) r r r (fun ex => .fieldAddr underlying58 r sizeOf39 r (o := 1) r r r .mk) (.cc [0] r (by kernel_rfl) r r r (fun ex => .load1 isAgg29 r .z r r r .mk) (.cc [] r (by kernel_rfl) r r r (fun ex => .fieldAddr underlying58 r sizeOf29 r (o := 0) r r r .mk) trivial)))))))) (.w [] [[], [10], [], [8], [], [3], [], [1]] [1, 3, 6, 8, 10, 6] r (by kernel_rfl) (by kernel_rfl) (by kernel_rfl) ((dropE_kept r r)) (.inr (dropE_kept r r)) fun ex => ?_)
 have hw61 := W_pull_Sums (I := I39) R3 R6 R9 R46 R49 R33 hd
 refine .call call75 r hw61 r r fun v56 I53 hl54 hv55 => ?_
 obtain ⟨r52, p58, c59, rfl, R60, hd⟩ := hv55
 have le62 := IH.le.trans le51 hl54
 replace R3 := R3.mono hl54
 replace R6 := R6.mono hl54
 replace R9 := R9.mono hl54
 replace R12 := R12.mono hl54
 replace R15 := R15.mono hl54
 replace R18 := R18.mono hl54
 replace R21 := R21.mono hl54
 replace R24 := R24.mono hl54
 replace R27 := R27.mono hl54
 replace R30 := R30.mono hl54
 replace R33 := R33.mono hl54
 replace R46 := R46.mono hl54
 replace R49 := R49.mono hl54
 exact .some (fun ex => (pto b36 (.cells #[.int .i64 a0.Ring, .int .i64 a0.Rows.Rows, .int .i64 a0.Rows.Cols, .slice p1 a0.Rows.Start.length c2, .slice p4 a0.Rows.Col.length c5, .slice p7 a0.Rows.Val.length c8, .int .i64 a0.Cols.Rows, .int .i64 a0.Cols.Cols, .slice p10 a0.Cols.At.length c11, .slice p13 a0.Cols.Start.length c14, .slice p16 a0.Cols.Row.length c17, .slice p19 a0.Cols.Val.length c20, .int .i64 a0.X.Form, .int .i64 a0.X.Vec.N, .slice p22 a0.X.Vec.Items.length c23, .int .i64 a0.X.Dense.N, .slice p25 a0.X.Dense.Has.length c26, .slice p28 a0.X.Dense.Vals.length c29, .slice p31 a0.Set.length c32, .bool a0.Others, .int .i64 a0.Way] 58 (0, 0))) :: ex) r (fun _ _ => (.s .z)) r trivial (.f [11] r (by kernel_rfl) r r (fun ex => .extract r r r r .mk) (.f [11] r (by kernel_rfl) r r (fun ex => .extract r r r r .mk) (.e 14 (by kernel_rfl) (by kernel_rfl) (by kernel_rfl) (.skips 2 r (.nilS [3, 2] r r (.drop .z (.ret (oret results41 (.t r (.t r .n)) le62 .n ⟨(r52.1, r52.2), _, _, r, R60, r, hd⟩))))))))

theorem W_policy_Task_push_e34 {I : IH} {a0 : Policy_Task} {p1 : Option Addr} {c2 : Nat} {p4 : Option Addr} {c5 : Nat} {p7 : Option Addr} {c8 : Nat} {p10 : Option Addr} {c11 : Nat} {p13 : Option Addr} {c14 : Nat} {p16 : Option Addr} {c17 : Nat} {p19 : Option Addr} {c20 : Nat} {p22 : Option Addr} {c23 : Nat} {p25 : Option Addr} {c26 : Nat} {p28 : Option Addr} {c29 : Nat} {p31 : Option Addr} {c32 : Nat} {Q : ((List Sum) × Int) → Prop} (R3 : RepSl eI64 I p1 c2 a0.Rows.Start) (R6 : RepSl eI64 I p4 c5 a0.Rows.Col) (R9 : RepSl eI64 I p7 c8 a0.Rows.Val) (R12 : RepSl eI64 I p10 c11 a0.Cols.At) (R15 : RepSl eI64 I p13 c14 a0.Cols.Start) (R18 : RepSl eI64 I p16 c17 a0.Cols.Row) (R21 : RepSl eI64 I p19 c20 a0.Cols.Val) (R24 : RepSl eItem I p22 c23 a0.X.Vec.Items) (R27 : RepSl eU64 I p25 c26 a0.X.Dense.Has) (R30 : RepSl eI64 I p28 c29 a0.X.Dense.Vals) (R33 : RepSl eU64 I p31 c32 a0.Set) (hd : policy_Task_push_e34 a0 Q) :
    Fun Tryz.prog 40 #[.agg #[.int .i64 a0.Ring, .int .i64 a0.Rows.Rows, .int .i64 a0.Rows.Cols, .slice p1 a0.Rows.Start.length c2, .slice p4 a0.Rows.Col.length c5, .slice p7 a0.Rows.Val.length c8, .int .i64 a0.Cols.Rows, .int .i64 a0.Cols.Cols, .slice p10 a0.Cols.At.length c11, .slice p13 a0.Cols.Start.length c14, .slice p16 a0.Cols.Row.length c17, .slice p19 a0.Cols.Val.length c20, .int .i64 a0.X.Form, .int .i64 a0.X.Vec.N, .slice p22 a0.X.Vec.Items.length c23, .int .i64 a0.X.Dense.N, .slice p25 a0.X.Dense.Has.length c26, .slice p28 a0.X.Dense.Vals.length c29, .slice p31 a0.Set.length c32, .bool a0.Others, .int .i64 a0.Way]] I [] (fun I_ v l => ∃ r p34 c35, v = .tuple #[.slice p34 r.1.length c35, .int .i64 r.2] ∧ RepSl eSum I_ p34 c35 r.1 ∧ l = [] ∧ Q r) := by
 refine Fun.enter (vs := [.agg #[.int .i64 a0.Ring, .int .i64 a0.Rows.Rows, .int .i64 a0.Rows.Cols, .slice p1 a0.Rows.Start.length c2, .slice p4 a0.Rows.Col.length c5, .slice p7 a0.Rows.Val.length c8, .int .i64 a0.Cols.Rows, .int .i64 a0.Cols.Cols, .slice p10 a0.Cols.At.length c11, .slice p13 a0.Cols.Start.length c14, .slice p16 a0.Cols.Row.length c17, .slice p19 a0.Cols.Val.length c20, .int .i64 a0.X.Form, .int .i64 a0.X.Vec.N, .slice p22 a0.X.Vec.Items.length c23, .int .i64 a0.X.Dense.N, .slice p25 a0.X.Dense.Has.length c26, .slice p28 a0.X.Dense.Vals.length c29, .slice p31 a0.Set.length c32, .bool a0.Others, .int .i64 a0.Way]]) func40 r ntmps40 r (.c .n) fun w0 M => ?_
 refine .seq (.region (.boxA r r r fun b36 => ?_))
 refine .skips 2 r (.nilS [1] r r (.seq (.draw [some 0, some 1, some 2, some 3, some 4, some 5, some 7, some 8, some 9, some 10, some 6, some 11, some 12, some 13] 14 MX (by kernel_rfl) (by kernel_rfl) (by kernel_rfl) (by kernel_rfl) (by kernel_rfl) (by kernel_rfl) (by kernel_rfl) (fun ex => (pto b36 (.cells #[.int .i64 a0.Ring, .int .i64 a0.Rows.Rows, .int .i64 a0.Rows.Cols, .slice p1 a0.Rows.Start.length c2, .slice p4 a0.Rows.Col.length c5, .slice p7 a0.Rows.Val.length c8, .int .i64 a0.Cols.Rows, .int .i64 a0.Cols.Cols, .slice p10 a0.Cols.At.length c11, .slice p13 a0.Cols.Start.length c14, .slice p16 a0.Cols.Row.length c17, .slice p19 a0.Cols.Val.length c20, .int .i64 a0.X.Form, .int .i64 a0.X.Vec.N, .slice p22 a0.X.Vec.Items.length c23, .int .i64 a0.X.Dense.N, .slice p25 a0.X.Dense.Has.length c26, .slice p28 a0.X.Dense.Vals.length c29, .slice p31 a0.Set.length c32, .bool a0.Others, .int .i64 a0.Way] 58 (0, 0))) :: ex) (fun _ _ => (.s .z)) r (.f [] r (by kernel_rfl) r r (fun ex => .fieldAddr underlying58 r sizeOf29 r (o := 0) r r r .mk) (.f [0] r (by kernel_rfl) r r (fun ex => .load1 isAgg29 r .z r r r .mk) (.f [] r (by kernel_rfl) r r (fun ex => .fieldAddr underlying58 r sizeOf50 r (o := 6) r r r .mk) (.f [2] r (by kernel_rfl) r r (fun ex => .loadA isAgg50 sizeOf50 r .z (.s (.s (.s (.s (.s (.s (.t (.t (.t (.t (.t (.t .nil)))))))))))) r r r .mk) (.f [] r (by kernel_rfl) r r (fun ex => .fieldAddr underlying58 r sizeOf55 r (o := 12) r r r .mk) (.f [4] r (by kernel_rfl) r r (fun ex => .loadA isAgg55 sizeOf55 r .z (.s (.s (.s (.s (.s (.s (.s (.s (.s (.s (.s (.s (.t (.t (.t (.t (.t (.t .nil)))))))))))))))))) r r r .mk) ?_)))))))))
 refine .f [] r (by kernel_rfl) r r (fun ex => .fieldAddr underlying58 r sizeOf33 r (o := 18) r r r .mk) (.f [7] r (by kernel_rfl) r r (fun ex => .load1 isAgg33 r .z r r r .mk) (.f [] r (by kernel_rfl) r r (fun ex => .fieldAddr underlying58 r sizeOf4 r (o := 19) r r r .mk) (.f [9] r (by kernel_rfl) r r (fun ex => .load1 isAgg4 r .z r r r .mk) (.w [10, 9, 8, 7, 3, 2, 1, 0] [[], [5]] [5] r (by kernel_rfl) (by kernel_rfl) (by kernel_rfl) ((dropE_kept r r)) (.inr (dropE_kept r r)) fun ex => ?_))))
 have hw47 := W_policy_Vec (I := I) R24 R27 R30 hd
 refine .call call23 r hw47 r r fun v42 I39 hl40 hv41 => ?_
 obtain ⟨r38, p44, c45, rfl, R46, hd⟩ := hv41
 have le48 := IH.le.trans (.refl _) hl40
 replace R3 := R3.mono hl40
 replace R6 := R6.mono hl40
 replace R9 := R9.mono hl40
 replace R12 := R12.mono hl40
 replace R15 := R15.mono hl40
 replace R18 := R18.mono hl40
 replace R21 := R21.mono hl40
 replace R24 := R24.mono hl40
 replace R27 := R27.mono hl40
 replace R30 := R30.mono hl40
 replace R33 := R33.mono hl40
 refine .some (fun ex => (pto b36 (.cells #[.int .i64 a0.Ring, .int .i64 a0.Rows.Rows, .int .i64 a0.Rows.Cols, .slice p1 a0.Rows.Start.length c2, .slice p4 a0.Rows.Col.length c5, .slice p7 a0.Rows.Val.length c8, .int .i64 a0.Cols.Rows, .int .i64 a0.Cols.Cols, .slice p10 a0.Cols.At.length c11, .slice p13 a0.Cols.Start.length c14, .slice p16 a0.Cols.Row.length c17, .slice p19 a0.Cols.Val.length c20, .int .i64 a0.X.Form, .int .i64 a0.X.Vec.N, .slice p22 a0.X.Vec.Items.length c23, .int .i64 a0.X.Dense.N, .slice p25 a0.X.Dense.Has.length c26, .slice p28 a0.X.Dense.Vals.length c29, .slice p31 a0.Set.length c32, .bool a0.Others, .int .i64 a0.Way] 58 (0, 0))) :: ex) r (fun _ _ => (.s .z)) r (.cc [9] r (by kernel_rfl) r r r (fun ex => .load1 isAgg4 r .z r r r .mk) (.cc [] r (by kernel_rfl) r r r (fun ex => .fieldAddr underlying58 r sizeOf4 r (o := 19) r r r .mk) (.cc [7] r (by kernel_rfl) r r r (fun ex => .load1 isAgg33 r .z r r r .mk) (.cc [] r (by kernel_rfl) r r r (fun ex => .fieldAddr underlying58 r sizeOf33 r (o := 18) r r r .mk) (.cc [2] r (by kernel_rfl) r r r (fun ex => .loadA isAgg50 sizeOf50 r .z (.s (.s (.s (.s (.s (.s (.t (.t (.t (.t (.t (.t .nil)))))))))))) r r r .mk) (.cc [] r (by kernel_rfl) r r r (fun ex => .fieldAddr underlying58 r sizeOf50 r (o := 6) r r r .mk) (.cc [0] r (by kernel_rfl) r r r (fun ex => .load1 isAgg29 r .z r r r .mk) (.cc [] r (by kernel_rfl) r r r (fun ex => .fieldAddr underlying58 r sizeOf29 r (o := 0) r r r .mk) trivial)))))))) (.w [] [[], [10], [], [8], [], [3], [], [1]] [1, 3, 6, 8, 10, 6] r (by kernel_rfl) (by kernel_rfl) (by kernel_rfl) ((dropE_kept r r)) (.inr (dropE_kept r r)) fun ex => ?_)
 have hw58 := W_push_Sums (I := I39) R12 R15 R18 R21 R46 R33 hd
 refine .call call74 r hw58 r r fun v53 I50 hl51 hv52 => ?_
 obtain ⟨r49, p55, c56, rfl, R57, hd⟩ := hv52
 have le59 := IH.le.trans le48 hl51
 replace R3 := R3.mono hl51
 replace R6 := R6.mono hl51
 replace R9 := R9.mono hl51
 replace R12 := R12.mono hl51
 replace R15 := R15.mono hl51
 replace R18 := R18.mono hl51
 replace R21 := R21.mono hl51
 replace R24 := R24.mono hl51
 replace R27 := R27.mono hl51
 replace R30 := R30.mono hl51
 replace R33 := R33.mono hl51
 replace R46 := R46.mono hl51
 exact .some (fun ex => (pto b36 (.cells #[.int .i64 a0.Ring, .int .i64 a0.Rows.Rows, .int .i64 a0.Rows.Cols, .slice p1 a0.Rows.Start.length c2, .slice p4 a0.Rows.Col.length c5, .slice p7 a0.Rows.Val.length c8, .int .i64 a0.Cols.Rows, .int .i64 a0.Cols.Cols, .slice p10 a0.Cols.At.length c11, .slice p13 a0.Cols.Start.length c14, .slice p16 a0.Cols.Row.length c17, .slice p19 a0.Cols.Val.length c20, .int .i64 a0.X.Form, .int .i64 a0.X.Vec.N, .slice p22 a0.X.Vec.Items.length c23, .int .i64 a0.X.Dense.N, .slice p25 a0.X.Dense.Has.length c26, .slice p28 a0.X.Dense.Vals.length c29, .slice p31 a0.Set.length c32, .bool a0.Others, .int .i64 a0.Way] 58 (0, 0))) :: ex) r (fun _ _ => (.s .z)) r trivial (.f [11] r (by kernel_rfl) r r (fun ex => .extract r r r r .mk) (.f [11] r (by kernel_rfl) r r (fun ex => .extract r r r r .mk) (.e 14 (by kernel_rfl) (by kernel_rfl) (by kernel_rfl) (.skips 2 r (.nilS [3, 2] r r (.drop .z (.ret (oret results40 (.t r (.t r .n)) le59 .n ⟨(r49.1, r49.2), _, _, r, R57, r, hd⟩))))))))

theorem W_policy_Sums {I : IH} {a0 : Policy_Task} {p1 : Option Addr} {c2 : Nat} {p4 : Option Addr} {c5 : Nat} {p7 : Option Addr} {c8 : Nat} {p10 : Option Addr} {c11 : Nat} {p13 : Option Addr} {c14 : Nat} {p16 : Option Addr} {c17 : Nat} {p19 : Option Addr} {c20 : Nat} {p22 : Option Addr} {c23 : Nat} {p25 : Option Addr} {c26 : Nat} {p28 : Option Addr} {c29 : Nat} {p31 : Option Addr} {c32 : Nat} {Q : ((List Sum) × Int × Int) → Prop} (R3 : RepSl eI64 I p1 c2 a0.Rows.Start) (R6 : RepSl eI64 I p4 c5 a0.Rows.Col) (R9 : RepSl eI64 I p7 c8 a0.Rows.Val) (R12 : RepSl eI64 I p10 c11 a0.Cols.At) (R15 : RepSl eI64 I p13 c14 a0.Cols.Start) (R18 : RepSl eI64 I p16 c17 a0.Cols.Row) (R21 : RepSl eI64 I p19 c20 a0.Cols.Val) (R24 : RepSl eItem I p22 c23 a0.X.Vec.Items) (R27 : RepSl eU64 I p25 c26 a0.X.Dense.Has) (R30 : RepSl eI64 I p28 c29 a0.X.Dense.Vals) (R33 : RepSl eU64 I p31 c32 a0.Set) (hd : policy_Sums a0 Q) :
    PFun Tryz.prog 15 [.agg #[.int .i64 a0.Ring, .int .i64 a0.Rows.Rows, .int .i64 a0.Rows.Cols, .slice p1 a0.Rows.Start.length c2, .slice p4 a0.Rows.Col.length c5, .slice p7 a0.Rows.Val.length c8, .int .i64 a0.Cols.Rows, .int .i64 a0.Cols.Cols, .slice p10 a0.Cols.At.length c11, .slice p13 a0.Cols.Start.length c14, .slice p16 a0.Cols.Row.length c17, .slice p19 a0.Cols.Val.length c20, .int .i64 a0.X.Form, .int .i64 a0.X.Vec.N, .slice p22 a0.X.Vec.Items.length c23, .int .i64 a0.X.Dense.N, .slice p25 a0.X.Dense.Has.length c26, .slice p28 a0.X.Dense.Vals.length c29, .slice p31 a0.Set.length c32, .bool a0.Others, .int .i64 a0.Way]] I (fun I_ v => ∃ r p34 c35, v = .tuple #[.slice p34 r.1.length c35, .int .i64 r.2.1, .int .i64 r.2.2] ∧ RepSl eSum I_ p34 c35 r.1 ∧ Q r) := by
 refine Fun.enter func15 r ntmps15 r (.c .n) fun w0 M => ?_
 refine .seq (.region (.boxA r r r fun b39 => ?_))
 refine .skips 3 r (.nilS [1] r r (.seq (.draw [some 0, some 1, some 2, some 3, some 4, some 5, some 8, some 9, some 6, some 7, some 10, some 11] 12 MX (by kernel_rfl) (by kernel_rfl) (by kernel_rfl) (by kernel_rfl) (by kernel_rfl) (by kernel_rfl) (by kernel_rfl) (fun ex => (pto b39 (.cells #[.int .i64 a0.Ring, .int .i64 a0.Rows.Rows, .int .i64 a0.Rows.Cols, .slice p1 a0.Rows.Start.length c2, .slice p4 a0.Rows.Col.length c5, .slice p7 a0.Rows.Val.length c8, .int .i64 a0.Cols.Rows, .int .i64 a0.Cols.Cols, .slice p10 a0.Cols.At.length c11, .slice p13 a0.Cols.Start.length c14, .slice p16 a0.Cols.Row.length c17, .slice p19 a0.Cols.Val.length c20, .int .i64 a0.X.Form, .int .i64 a0.X.Vec.N, .slice p22 a0.X.Vec.Items.length c23, .int .i64 a0.X.Dense.N, .slice p25 a0.X.Dense.Has.length c26, .slice p28 a0.X.Dense.Vals.length c29, .slice p31 a0.Set.length c32, .bool a0.Others, .int .i64 a0.Way] 58 (0, 0))) :: ex) (fun _ _ => (.s .z)) r (.f [] r (by kernel_rfl) r r (fun ex => .fieldAddr underlying58 r sizeOf22 r (o := 20) r r r .mk) (.f [0] r (by kernel_rfl) r r (fun ex => .load1 isAgg22 r .z r r r .mk) (.f [] r (by kernel_rfl) r r (fun ex => .fieldAddr underlying58 r sizeOf50 r (o := 6) r r r .mk) (.f [2] r (by kernel_rfl) r r (fun ex => .loadA isAgg50 sizeOf50 r .z (.s (.s (.s (.s (.s (.s (.t (.t (.t (.t (.t (.t .nil)))))))))))) r r r .mk) (.f [] r (by kernel_rfl) r r (fun ex => .fieldAddr underlying58 r sizeOf55 r (o := 12) r r r .mk) (.f [4] r (by kernel_rfl) r r (fun ex => .loadA isAgg55 sizeOf55 r .z (.s (.s (.s (.s (.s (.s (.s (.s (.s (.s (.s (.s (.t (.t (.t (.t (.t (.t .nil)))))))))))))))))) r r r .mk) ?_)))))))))
 refine .f [] r (by kernel_rfl) r r (fun ex => .fieldAddr underlying58 r sizeOf39 r (o := 1) r r r .mk) (.f [8] r (by kernel_rfl) r r (fun ex => .loadA isAgg39 sizeOf39 r .z (.s (.t (.t (.t (.t (.t .nil)))))) r r r .mk) (.w [9, 8, 3, 2, 1, 0] [[], [5]] [5] r (by kernel_rfl) (by kernel_rfl) (by kernel_rfl) ((dropE_kept r r)) (.inr (dropE_kept r r)) fun ex => ?_))
 have hw73 := W_policy_Vec (I := I) R24 R27 R30 hd
 refine .call call23 r hw73 r r fun v68 I65 hl66 hv67 => ?_
 obtain ⟨r64, p70, c71, rfl, R72, hd⟩ := hv67
 have le74 := IH.le.trans (.refl _) hl66
 replace R3 := R3.mono hl66
 replace R6 := R6.mono hl66
 replace R9 := R9.mono hl66
 replace R12 := R12.mono hl66
 replace R15 := R15.mono hl66
 replace R18 := R18.mono hl66
 replace R21 := R21.mono hl66
 replace R24 := R24.mono hl66
 replace R27 := R27.mono hl66
 replace R30 := R30.mono hl66
 replace R33 := R33.mono hl66
 refine .some (fun ex => (pto b39 (.cells #[.int .i64 a0.Ring, .int .i64 a0.Rows.Rows, .int .i64 a0.Rows.Cols, .slice p1 a0.Rows.Start.length c2, .slice p4 a0.Rows.Col.length c5, .slice p7 a0.Rows.Val.length c8, .int .i64 a0.Cols.Rows, .int .i64 a0.Cols.Cols, .slice p10 a0.Cols.At.length c11, .slice p13 a0.Cols.Start.length c14, .slice p16 a0.Cols.Row.length c17, .slice p19 a0.Cols.Val.length c20, .int .i64 a0.X.Form, .int .i64 a0.X.Vec.N, .slice p22 a0.X.Vec.Items.length c23, .int .i64 a0.X.Dense.N, .slice p25 a0.X.Dense.Has.length c26, .slice p28 a0.X.Dense.Vals.length c29, .slice p31 a0.Set.length c32, .bool a0.Others, .int .i64 a0.Way] 58 (0, 0))) :: ex) r (fun _ _ => (.s .z)) r (.cc [8] r (by kernel_rfl) r r r (fun ex => .loadA isAgg39 sizeOf39 r .z (.s (.t (.t (.t (.t (.t .nil)))))) r r r .mk) (.cc [] r (by kernel_rfl) r r r (fun ex => .fieldAddr underlying58 r sizeOf39 r (o := 1) r r r .mk) (.cc [2] r (by kernel_rfl) r r r (fun ex => .loadA isAgg50 sizeOf50 r .z (.s (.s (.s (.s (.s (.s (.t (.t (.t (.t (.t (.t .nil)))))))))))) r r r .mk) (.cc [] r (by kernel_rfl) r r r (fun ex => .fieldAddr underlying58 r sizeOf50 r (o := 6) r r r .mk) (.cc [0] r (by kernel_rfl) r r r (fun ex => .load1 isAgg22 r .z r r r .mk) (.cc [] r (by kernel_rfl) r r r (fun ex => .fieldAddr underlying58 r sizeOf22 r (o := 20) r r r .mk) trivial)))))) (.w [9, 8, 1, 0] [[], [3]] [3, 6, 6] r (by kernel_rfl) (by kernel_rfl) (by kernel_rfl) ((dropE_kept r r)) (.inr (dropE_kept r r)) fun ex => ?_)
 have hw76 := W_push_Work (I := I65) R12 R15 R18 R21 R72 hd
 refine .callP call38 r hw76 r r fun v77 hv78 => ?_
 obtain ⟨r75, rfl, hd⟩ := hv78
 refine .some (fun ex => (pto b39 (.cells #[.int .i64 a0.Ring, .int .i64 a0.Rows.Rows, .int .i64 a0.Rows.Cols, .slice p1 a0.Rows.Start.length c2, .slice p4 a0.Rows.Col.length c5, .slice p7 a0.Rows.Val.length c8, .int .i64 a0.Cols.Rows, .int .i64 a0.Cols.Cols, .slice p10 a0.Cols.At.length c11, .slice p13 a0.Cols.Start.length c14, .slice p16 a0.Cols.Row.length c17, .slice p19 a0.Cols.Val.length c20, .int .i64 a0.X.Form, .int .i64 a0.X.Vec.N, .slice p22 a0.X.Vec.Items.length c23, .int .i64 a0.X.Dense.N, .slice p25 a0.X.Dense.Has.length c26, .slice p28 a0.X.Dense.Vals.length c29, .slice p31 a0.Set.length c32, .bool a0.Others, .int .i64 a0.Way] 58 (0, 0))) :: ex) r (fun _ _ => (.s .z)) r (.cc [8] r (by kernel_rfl) r r r (fun ex => .loadA isAgg39 sizeOf39 r .z (.s (.t (.t (.t (.t (.t .nil)))))) r r r .mk) (.cc [] r (by kernel_rfl) r r r (fun ex => .fieldAddr underlying58 r sizeOf39 r (o := 1) r r r .mk) (.cc [0] r (by kernel_rfl) r r r (fun ex => .load1 isAgg22 r .z r r r .mk) (.cc [] r (by kernel_rfl) r r r (fun ex => .fieldAddr underlying58 r sizeOf22 r (o := 20) r r r .mk) trivial)))) (.w [1, 0] [[], [9]] [9, 7] r (by kernel_rfl) (by kernel_rfl) (by kernel_rfl) ((dropE_kept r r)) (.inr (dropE_kept r r)) fun ex => ?_)
 have hw80 := W_csr_Count (I := I65) R3 R6 R9 hd
 refine .callP call39 r hw80 r r fun v81 hv82 => ?_
 obtain ⟨r79, rfl, hd⟩ := hv82
 refine .some (fun ex => (pto b39 (.cells #[.int .i64 a0.Ring, .int .i64 a0.Rows.Rows, .int .i64 a0.Rows.Cols, .slice p1 a0.Rows.Start.length c2, .slice p4 a0.Rows.Col.length c5, .slice p7 a0.Rows.Val.length c8, .int .i64 a0.Cols.Rows, .int .i64 a0.Cols.Cols, .slice p10 a0.Cols.At.length c11, .slice p13 a0.Cols.Start.length c14, .slice p16 a0.Cols.Row.length c17, .slice p19 a0.Cols.Val.length c20, .int .i64 a0.X.Form, .int .i64 a0.X.Vec.N, .slice p22 a0.X.Vec.Items.length c23, .int .i64 a0.X.Dense.N, .slice p25 a0.X.Dense.Has.length c26, .slice p28 a0.X.Dense.Vals.length c29, .slice p31 a0.Set.length c32, .bool a0.Others, .int .i64 a0.Way] 58 (0, 0))) :: ex) r (fun _ _ => (.s .z)) r (.cc [0] r (by kernel_rfl) r r r (fun ex => .load1 isAgg22 r .z r r r .mk) (.cc [] r (by kernel_rfl) r r r (fun ex => .fieldAddr underlying58 r sizeOf22 r (o := 20) r r r .mk) trivial)) (.w [] [[], [1]] [1, 7, 10, 10] r (by kernel_rfl) (by kernel_rfl) (by kernel_rfl) ((dropE_kept r r)) (.inr (dropE_kept r r)) fun ex => ?_)
 have hw84 := W_policy_Direction (I := I65) hd
 refine .callP call8 r hw84 r r fun v85 hv86 => ?_
 obtain ⟨r83, rfl, hd⟩ := hv86
 refine .some (fun ex => (pto b39 (.cells #[.int .i64 a0.Ring, .int .i64 a0.Rows.Rows, .int .i64 a0.Rows.Cols, .slice p1 a0.Rows.Start.length c2, .slice p4 a0.Rows.Col.length c5, .slice p7 a0.Rows.Val.length c8, .int .i64 a0.Cols.Rows, .int .i64 a0.Cols.Cols, .slice p10 a0.Cols.At.length c11, .slice p13 a0.Cols.Start.length c14, .slice p16 a0.Cols.Row.length c17, .slice p19 a0.Cols.Val.length c20, .int .i64 a0.X.Form, .int .i64 a0.X.Vec.N, .slice p22 a0.X.Vec.Items.length c23, .int .i64 a0.X.Dense.N, .slice p25 a0.X.Dense.Has.length c26, .slice p28 a0.X.Dense.Vals.length c29, .slice p31 a0.Set.length c32, .bool a0.Others, .int .i64 a0.Way] 58 (0, 0))) :: ex) r (fun _ _ => (.s .z)) r trivial (.e 12 (by kernel_rfl) (by kernel_rfl) (by kernel_rfl) (.skips 1 r (.nilS [5, 1] r r (.seq (.region (.loadW isAgg58 sizeOf58 r .z r r r (.mkFn r r r r (.skips 1 r (.nilS [6, 5, 1] r r ?_)))))))))
 refine .seq (.seq (.region (.skips 1 r (.eq r r r r (.nilS [24, 6, 5, 1] r r (.condP r hd (fun hb89 hd => ?_) fun hb89 hd => ?_))))))
 · refine .region (.loadW isAgg58 sizeOf58 r .z r r r (.mkFn r r r r (.sub (E' := [(1, _), (5, _), (24, _), (25, _), (26, _)]) ⟨r, r, r, r, r, trivial⟩ (.skips 1 r (.nilS [6, 5] r r (.drop .z (.seq (.region (.skips 1 r ?_)))))))))
   have hw101 := W_policy_Task_pull_afb (I := I65) (a0 := a0) R3 R6 R9 R12 R15 R18 R21 R24 R27 R30 R33 hd
   refine .callS (.c call41 r r) .n hw101 r r fun v105 I102 l106 hl103 hv104 => ?_
   obtain ⟨r107, p108, c109, rfl, R110, rfl, hd⟩ := hv104
   have le111 := IH.le.trans le74 hl103
   replace R3 := R3.mono hl103
   replace R6 := R6.mono hl103
   replace R9 := R9.mono hl103
   replace R12 := R12.mono hl103
   replace R15 := R15.mono hl103
   replace R18 := R18.mono hl103
   replace R21 := R21.mono hl103
   replace R24 := R24.mono hl103
   replace R27 := R27.mono hl103
   replace R30 := R30.mono hl103
   replace R33 := R33.mono hl103
   refine .re (m' := []) r (.skips 1 r (.extract r r r r (.extract r r r r (.skips 2 r (.nilS [8, 7, 5] r r (.seq (.seq (.region (.skips 1 r ?_)))))))))
   refine .ne r r r r (.nilS [33, 8, 7, 5] r r (.condP r hd (fun hb112 hd => ?_) fun hb112 hd => ?_))
   · exact .seq (.region (.skips 4 r (.nilS [4, 3, 2] r r (.ret (pret results15 (.t r (.t r (.t r .n))) le111 ⟨(([] : List Sum), 0, r107.2), _, _, r, (.nil _ _ _), hd⟩)))))
   exact .skipS [8, 7, 5] r r (.seq (.region (.skips 6 r (.nilS [4, 3, 2] r r (.ret (pret results15 (.t r (.t r (.t r .n))) le111 ⟨(r107.1, r83, r107.2), _, _, r, R110, hd⟩))))))
 refine .skipS [6, 5] r r (.drop .z (.seq (.region (.skips 1 r ?_))))
 have hw124 := W_policy_Task_push_e34 (I := I65) (a0 := a0) R3 R6 R9 R12 R15 R18 R21 R24 R27 R30 R33 hd
 refine .callS (.c call40 r r) .n hw124 r r fun v128 I125 l129 hl126 hv127 => ?_
 obtain ⟨r130, p131, c132, rfl, R133, rfl, hd⟩ := hv127
 have le134 := IH.le.trans le74 hl126
 replace R3 := R3.mono hl126
 replace R6 := R6.mono hl126
 replace R9 := R9.mono hl126
 replace R12 := R12.mono hl126
 replace R15 := R15.mono hl126
 replace R18 := R18.mono hl126
 replace R21 := R21.mono hl126
 replace R24 := R24.mono hl126
 replace R27 := R27.mono hl126
 replace R30 := R30.mono hl126
 replace R33 := R33.mono hl126
 refine .re (m' := []) r (.skips 1 r (.extract r r r r (.extract r r r r (.skips 2 r (.nilS [8, 7, 5] r r (.seq (.seq (.region (.skips 1 r ?_)))))))))
 refine .ne r r r r (.nilS [33, 8, 7, 5] r r (.condP r hd (fun hb135 hd => ?_) fun hb135 hd => ?_))
 · exact .seq (.region (.skips 4 r (.nilS [4, 3, 2] r r (.ret (pret results15 (.t r (.t r (.t r .n))) le134 ⟨(([] : List Sum), 0, r130.2), _, _, r, (.nil _ _ _), hd⟩)))))
 exact .skipS [8, 7, 5] r r (.seq (.region (.skips 6 r (.nilS [4, 3, 2] r r (.ret (pret results15 (.t r (.t r (.t r .n))) le134 ⟨(r130.1, r83, r130.2), _, _, r, R133, hd⟩))))))

theorem W_law16_live {I : IH}   {Q : Bool → Prop}  (hd : law16_live Q) :
    PFun Tryz.prog 7 [] I (fun I_ v => ∃ r, v = .bool r ∧ Q r) := by
 refine Fun.enter func7 r ntmps7 r .n fun w0 M => ?_
 refine .seq (.region (.skips 1 r (.nilS [] r r (.seq (.region (.build zeroValue78 underlying78 BI78 (.c r r r (.s (.t .nil)) (.c r r r (.s (.s (.t .nil))) .n)) (by exact ⟨⟨_, _, r, r, r⟩, ⟨⟨_, _, r, r, r⟩, trivial⟩⟩) r r (.buildSlice 1 underlying31 sizeOf78 zeroValue78 r r (.c r r r .n) r r fun b26 => ?_)))))))
 refine .pubB (El := eTriple) (ys := ([({ Row := 0, Col := 3, Val := 2 } : Triple)] : List Triple)) (k := 1) .z (.one r) r fun I28 hl29 R30 => ?_
 have le31 := IH.le.trans (.refl _) hl29
 have hw47 := W_ref07_Of (I := I28) R30 hd
 refine .call call32 r hw47 r r fun v36 I33 hl34 hv35 => ?_
 obtain ⟨r32, p38, c39, p41, c42, p44, c45, rfl, R40, R43, R46, hd⟩ := hv35
 have le48 := IH.le.trans le31 hl34
 replace R30 := R30.mono hl34
 refine .skips 1 r (.extract r r r r (.extract r r r r (.allocA zeroValue39 r r fun b49 => ?_)))
 refine .storeA sizeOf39 r r .z (.t (.t (.t (.t (.t .nil))))) r r (.skips 1 r (.nilS [1] r r (.seq (.region (.build zeroValue80 underlying80 BI80 (.c r r r (.t .nil) (.c r r r (.s (.t .nil)) .n)) (by exact ⟨⟨_, _, r, r, r⟩, ⟨⟨_, _, r, r, r⟩, trivial⟩⟩) r r (.buildSlice 1 underlying32 sizeOf80 zeroValue80 r r (.c r r r .n) r r fun b56 => ?_))))))
 refine .ownB (El := eItem) (ys := ([({ At := 3, Val := 5 } : Item)] : List Item)) .z (.one r) r (.build zeroValue42 underlying42 BI42 (.c r r r (.t .nil) (.c r r r (.s (.t .nil)) .n)) (by exact ⟨⟨_, _, r, r, r⟩, ⟨⟨_, _, r, r, r⟩, trivial⟩⟩) r r (.allocA zeroValue42 r r fun b59 => ?_))
 refine .storeA sizeOf42 r r .z (.t (.t .nil)) r r (.nilS [3, 1] r r (.seq (.region (.loadW isAgg42 sizeOf42 r .z r r r (.pub (.s .z) fun I84 hl85 R86 => ?_)))))
 have le87 := IH.le.trans le48 hl85
 replace R40 := R40.mono hl85
 replace R43 := R43.mono hl85
 replace R46 := R46.mono hl85
 have hw103 := W_policy_Hold (I := I84) R86 hd
 refine .call call21 r hw103 r r fun v92 I89 hl90 hv91 => ?_
 obtain ⟨r88, p94, c95, p97, c98, p100, c101, rfl, R96, R99, R102, hd⟩ := hv91
 have le104 := IH.le.trans le87 hl90
 replace R40 := R40.mono hl90
 replace R43 := R43.mono hl90
 replace R46 := R46.mono hl90
 replace R86 := R86.mono hl90
 refine .allocA zeroValue55 r r fun b105 => ?_
 refine .storeA sizeOf55 r r .z (.t (.t (.t (.t (.t (.t .nil)))))) r r (.nilS [4, 3, 1] r r (.seq (.region (.loadW isAgg42 sizeOf42 r (.s .z) r r r ?_))))
 have hw141 := W_policy_Hold (I := I89) R86 hd
 refine .call call21 r hw141 r r fun v130 I127 hl128 hv129 => ?_
 obtain ⟨r126, p132, c133, p135, c136, p138, c139, rfl, R134, R137, R140, hd⟩ := hv129
 have le142 := IH.le.trans le104 hl128
 replace R40 := R40.mono hl128
 replace R43 := R43.mono hl128
 replace R46 := R46.mono hl128
 replace R86 := R86.mono hl128
 replace R96 := R96.mono hl128
 replace R99 := R99.mono hl128
 replace R102 := R102.mono hl128
 refine .allocA zeroValue55 r r fun b143 => ?_
 refine .storeA sizeOf55 r r .z (.t (.t (.t (.t (.t (.t .nil)))))) r r (.nilS [5, 4, 3, 1] r r (.seq (.draw [some 0, some 1, some 3, some 2, some 4, some 5, some 6, some 7, some 8, some 9, some 10, some 11] 12 MX (by kernel_rfl) (by kernel_rfl) (by kernel_rfl) (by kernel_rfl) (by kernel_rfl) (by kernel_rfl) (by kernel_rfl) (fun ex => (pto b143 (.cells #[.int .i64 r126.Form, .int .i64 r126.Vec.N, .slice p132 r126.Vec.Items.length c133, .int .i64 r126.Dense.N, .slice p135 r126.Dense.Has.length c136, .slice p138 r126.Dense.Vals.length c139] 55 (0, 0))) :: (pto b105 (.cells #[.int .i64 r88.Form, .int .i64 r88.Vec.N, .slice p94 r88.Vec.Items.length c95, .int .i64 r88.Dense.N, .slice p97 r88.Dense.Has.length c98, .slice p100 r88.Dense.Vals.length c101] 55 (0, 0))) :: (pto b59 (.cells #[.int .i64 8, .slice (some ⟨b56, 0, none⟩) ([({ At := 3, Val := 5 } : Item)] : List Item).length 1] 42 (0, 0))) :: (pto b49 (.cells #[.int .i64 r32.1.Rows, .int .i64 r32.1.Cols, .slice p38 r32.1.Start.length c39, .slice p41 r32.1.Col.length c42, .slice p44 r32.1.Val.length c45] 39 (0, 0))) :: ex) (fun _ _ => (.s (.s (.s (.s .z))))) r (.f [] r (by kernel_rfl) r r (fun ex => .loadW isAgg39 sizeOf39 r (.s (.s (.s .z))) r r r .mk) (.f [] r (by kernel_rfl) r r (fun ex => .loadW isAgg39 sizeOf39 r (.s (.s (.s .z))) r r r .mk) (.f [] r (by kernel_rfl) r r (fun ex => .loadW isAgg55 sizeOf55 r (.s .z) r r r .mk) (.w [3, 0] [[]] [1] r (by kernel_rfl) (by kernel_rfl) (by kernel_rfl) ((dropE_kept r r)) (.inr (dropE_kept r r)) fun ex => ?_)))))))
 have hw194 := W_ref08_Of (I := I127) R40 R43 R46 hd
 refine .call call16 r hw194 r r fun v180 I177 hl178 hv179 => ?_
 obtain ⟨r176, p182, c183, p185, c186, p188, c189, p191, c192, rfl, R184, R187, R190, R193, hd⟩ := hv179
 have le195 := IH.le.trans le142 hl178
 replace R40 := R40.mono hl178
 replace R43 := R43.mono hl178
 replace R46 := R46.mono hl178
 replace R86 := R86.mono hl178
 replace R96 := R96.mono hl178
 replace R99 := R99.mono hl178
 replace R102 := R102.mono hl178
 replace R134 := R134.mono hl178
 replace R137 := R137.mono hl178
 replace R140 := R140.mono hl178
 refine .some (fun ex => (pto b143 (.cells #[.int .i64 r126.Form, .int .i64 r126.Vec.N, .slice p132 r126.Vec.Items.length c133, .int .i64 r126.Dense.N, .slice p135 r126.Dense.Has.length c136, .slice p138 r126.Dense.Vals.length c139] 55 (0, 0))) :: (pto b105 (.cells #[.int .i64 r88.Form, .int .i64 r88.Vec.N, .slice p94 r88.Vec.Items.length c95, .int .i64 r88.Dense.N, .slice p97 r88.Dense.Has.length c98, .slice p100 r88.Dense.Vals.length c101] 55 (0, 0))) :: (pto b59 (.cells #[.int .i64 8, .slice (some ⟨b56, 0, none⟩) ([({ At := 3, Val := 5 } : Item)] : List Item).length 1] 42 (0, 0))) :: (pto b49 (.cells #[.int .i64 r32.1.Rows, .int .i64 r32.1.Cols, .slice p38 r32.1.Start.length c39, .slice p41 r32.1.Col.length c42, .slice p44 r32.1.Val.length c45] 39 (0, 0))) :: ex) r (fun _ _ => (.s (.s (.s (.s .z))))) r (.cc [] r (by kernel_rfl) r r r (fun ex => .loadW isAgg55 sizeOf55 r (.s .z) r r r .mk) (.cc [] r (by kernel_rfl) r r r (fun ex => .loadW isAgg39 sizeOf39 r (.s (.s (.s .z))) r r r .mk) trivial)) (.f [0, 2, 3] r (by kernel_rfl) r r (fun ex => .build zeroValue58 underlying58 BI58 (.c r r r (.t .nil) (.c r r r (.s (.t (.t (.t (.t (.t .nil)))))) (.c r r r (.s (.s (.s (.s (.s (.s (.t (.t (.t (.t (.t (.t .nil)))))))))))) (.c r r r (.s (.s (.s (.s (.s (.s (.s (.s (.s (.s (.s (.s (.t (.t (.t (.t (.t (.t .nil)))))))))))))))))) (.c r r r (.s (.s (.s (.s (.s (.s (.s (.s (.s (.s (.s (.s (.s (.s (.s (.s (.s (.s (.s (.t .nil)))))))))))))))))))) .n))))) (by exact ⟨⟨_, _, r, r, r⟩, ⟨⟨_, _, r, r, r⟩, ⟨⟨_, _, r, r, r⟩, ⟨⟨_, _, r, r, r⟩, ⟨⟨_, _, r, r, r⟩, trivial⟩⟩⟩⟩⟩) r r .mk) (.w [] [[], [4], [4]] [4, 2] r (by kernel_rfl) (by kernel_rfl) (by kernel_rfl) ((dropE_kept r r)) (.inr (dropE_kept r r)) fun ex => ?_))
 have hw205 := W_policy_Sums (I := I177) R40 R43 R46 R184 R187 R190 R193 R96 R99 R102 (.nil _ none 0) hd
 refine .call call15 r hw205 r r fun v200 I197 hl198 hv199 => ?_
 obtain ⟨r196, p202, c203, rfl, R204, hd⟩ := hv199
 have le206 := IH.le.trans le195 hl198
 replace R40 := R40.mono hl198
 replace R43 := R43.mono hl198
 replace R46 := R46.mono hl198
 replace R86 := R86.mono hl198
 replace R96 := R96.mono hl198
 replace R99 := R99.mono hl198
 replace R102 := R102.mono hl198
 replace R134 := R134.mono hl198
 replace R137 := R137.mono hl198
 replace R140 := R140.mono hl198
 replace R184 := R184.mono hl198
 replace R187 := R187.mono hl198
 replace R190 := R190.mono hl198
 replace R193 := R193.mono hl198
 refine .some (fun ex => (pto b143 (.cells #[.int .i64 r126.Form, .int .i64 r126.Vec.N, .slice p132 r126.Vec.Items.length c133, .int .i64 r126.Dense.N, .slice p135 r126.Dense.Has.length c136, .slice p138 r126.Dense.Vals.length c139] 55 (0, 0))) :: (pto b105 (.cells #[.int .i64 r88.Form, .int .i64 r88.Vec.N, .slice p94 r88.Vec.Items.length c95, .int .i64 r88.Dense.N, .slice p97 r88.Dense.Has.length c98, .slice p100 r88.Dense.Vals.length c101] 55 (0, 0))) :: (pto b59 (.cells #[.int .i64 8, .slice (some ⟨b56, 0, none⟩) ([({ At := 3, Val := 5 } : Item)] : List Item).length 1] 42 (0, 0))) :: (pto b49 (.cells #[.int .i64 r32.1.Rows, .int .i64 r32.1.Cols, .slice p38 r32.1.Start.length c39, .slice p41 r32.1.Col.length c42, .slice p44 r32.1.Val.length c45] 39 (0, 0))) :: ex) r (fun _ _ => (.s (.s (.s (.s .z))))) r trivial (.fs [[5]] r (by kernel_rfl) (.f [6] r (by kernel_rfl) r r (fun ex => .extract r r r r .mk) (.f [6] r (by kernel_rfl) r r (fun ex => .extract r r r r .mk) (.f [6] r (by kernel_rfl) r r (fun ex => .extract r r r r .mk) (.fs [[7, 5, 0, 1, 2, 3, 4, 5, 6, 7], [8, 10, 0, 1, 2, 3, 4, 5, 6, 7, 8, 10]] r (by kernel_rfl) (.e 12 (by kernel_rfl) (by kernel_rfl) (by kernel_rfl) (.skips 1 r (.nilS [8, 7, 6, 5, 4, 3] r r (.drop (.s (.s (.s .z))) ?_)))))))))
 refine .seq (.region (.build zeroValue58 underlying58 BI58 .n (by exact trivial) r r ?_))
 have hw227 := W_policy_Sums (I := I197) (.nil _ none 0) (.nil _ none 0) (.nil _ none 0) (.nil _ none 0) (.nil _ none 0) (.nil _ none 0) (.nil _ none 0) (.nil _ none 0) (.nil _ none 0) (.nil _ none 0) (.nil _ none 0) hd
 refine .call call15 r hw227 r r fun v222 I219 hl220 hv221 => ?_
 obtain ⟨r218, p224, c225, rfl, R226, hd⟩ := hv221
 have le228 := IH.le.trans le206 hl220
 replace R86 := R86.mono hl220
 replace R96 := R96.mono hl220
 replace R99 := R99.mono hl220
 replace R102 := R102.mono hl220
 replace R134 := R134.mono hl220
 replace R137 := R137.mono hl220
 replace R140 := R140.mono hl220
 replace R204 := R204.mono hl220
 refine .skips 1 r (.extract r r r r (.extract r r r r (.extract r r r r (.skips 3 r (.nilS [11, 10, 8, 7, 6, 5, 4, 3] r r (.seq (.draw [some 0, some 1, some 2, some 3, some 4, some 5, some 6, some 7, some 8, some 9, some 10, some 11, some 12, some 13, some 14, some 15, some 16, some 17, some 18, some 19, some 20, some 21, some 22, some 23, some 24, some 25, some 26, some 27, some 28, some 29, some 30, some 32, some 31, some 33, some 34, some 35, some 36, some 37, some 38, some 39, some 40, some 41, some 42, some 43, some 44, some 45, some 46, some 47, some 48, some 49, some 50, some 51, some 52, some 53, some 54, some 55, some 56, some 57, some 58, some 59, some 60, some 61, some 62, some 63, some 64, some 65, some 66, some 67, some 68, some 69] 70 MX (by kernel_rfl) (by kernel_rfl) (by kernel_rfl) (by kernel_rfl) (by kernel_rfl) (by kernel_rfl) (by kernel_rfl) (fun ex => (pto b143 (.cells #[.int .i64 r126.Form, .int .i64 r126.Vec.N, .slice p132 r126.Vec.Items.length c133, .int .i64 r126.Dense.N, .slice p135 r126.Dense.Has.length c136, .slice p138 r126.Dense.Vals.length c139] 55 (0, 0))) :: (pto b105 (.cells #[.int .i64 r88.Form, .int .i64 r88.Vec.N, .slice p94 r88.Vec.Items.length c95, .int .i64 r88.Dense.N, .slice p97 r88.Dense.Has.length c98, .slice p100 r88.Dense.Vals.length c101] 55 (0, 0))) :: (pto b59 (.cells #[.int .i64 8, .slice (some ⟨b56, 0, none⟩) ([({ At := 3, Val := 5 } : Item)] : List Item).length 1] 42 (0, 0))) :: ex) (fun _ _ => (.s (.s (.s .z)))) r (.w [] [] [] r (by kernel_rfl) (by kernel_rfl) (by kernel_rfl) ((dropE_kept r r)) (.inr (dropE_kept r r)) fun ex => ?_))))))))
 have hw230 := W_policy_Shape (I := I219) hd
 refine .callP call10 r hw230 r r fun v231 hv232 => ?_
 obtain ⟨r229, rfl, hd⟩ := hv232
 refine .some (fun ex => (pto b143 (.cells #[.int .i64 r126.Form, .int .i64 r126.Vec.N, .slice p132 r126.Vec.Items.length c133, .int .i64 r126.Dense.N, .slice p135 r126.Dense.Has.length c136, .slice p138 r126.Dense.Vals.length c139] 55 (0, 0))) :: (pto b105 (.cells #[.int .i64 r88.Form, .int .i64 r88.Vec.N, .slice p94 r88.Vec.Items.length c95, .int .i64 r88.Dense.N, .slice p97 r88.Dense.Has.length c98, .slice p100 r88.Dense.Vals.length c101] 55 (0, 0))) :: (pto b59 (.cells #[.int .i64 8, .slice (some ⟨b56, 0, none⟩) ([({ At := 3, Val := 5 } : Item)] : List Item).length 1] 42 (0, 0))) :: ex) r (fun _ _ => (.s (.s (.s .z)))) r trivial (.f [0] r (by kernel_rfl) r r (fun ex => .eq r r r r .mk) (.fs [[1, 0]] r (by kernel_rfl) ?_))
 refine splitP hd (fun hb233 hd => ?_) fun hb233 hd => ?_
 · refine .w [] [[], [2]] [2, 2] r (by kernel_rfl) (by kernel_rfl) (by kernel_rfl) ((dropE_kept r r)) (.inr (dropE_kept r r)) fun ex => ?_
   have hw235 := W_policy_Shape (I := I219) hd
   refine .gyes r r hb233 (.callP call10 r hw235 r r fun v236 hv237 => ?_)
   obtain ⟨r234, rfl, hd⟩ := hv237
   refine .some (fun ex => (pto b143 (.cells #[.int .i64 r126.Form, .int .i64 r126.Vec.N, .slice p132 r126.Vec.Items.length c133, .int .i64 r126.Dense.N, .slice p135 r126.Dense.Has.length c136, .slice p138 r126.Dense.Vals.length c139] 55 (0, 0))) :: (pto b105 (.cells #[.int .i64 r88.Form, .int .i64 r88.Vec.N, .slice p94 r88.Vec.Items.length c95, .int .i64 r88.Dense.N, .slice p97 r88.Dense.Has.length c98, .slice p100 r88.Dense.Vals.length c101] 55 (0, 0))) :: (pto b59 (.cells #[.int .i64 8, .slice (some ⟨b56, 0, none⟩) ([({ At := 3, Val := 5 } : Item)] : List Item).length 1] 42 (0, 0))) :: ex) r (fun _ _ => (.s (.s (.s .z)))) r trivial (.f [3, 2] r (by kernel_rfl) r r (fun ex => .gyes r r hb233 (.eq r r r r .mk)) (.f [2, 4] r (by kernel_rfl) r r (fun ex => .pickT r hb233 r r r .mk) (.fs [[5, 3]] r (by kernel_rfl) ?_)))
   refine splitP hd (fun hb238 hd => ?_) fun hb238 hd => ?_
   · refine .w [] [[], [6], [5, 6]] [6, 6] r (by kernel_rfl) (by kernel_rfl) (by kernel_rfl) ((dropE_kept r r)) (.inr (dropE_kept r r)) fun ex => ?_
     have hw240 := W_policy_Direction (I := I219) hd
     refine .gyes r r hb238 (.callP call8 r hw240 r r fun v241 hv242 => ?_)
     obtain ⟨r239, rfl, hd⟩ := hv242
     refine .some (fun ex => (pto b143 (.cells #[.int .i64 r126.Form, .int .i64 r126.Vec.N, .slice p132 r126.Vec.Items.length c133, .int .i64 r126.Dense.N, .slice p135 r126.Dense.Has.length c136, .slice p138 r126.Dense.Vals.length c139] 55 (0, 0))) :: (pto b105 (.cells #[.int .i64 r88.Form, .int .i64 r88.Vec.N, .slice p94 r88.Vec.Items.length c95, .int .i64 r88.Dense.N, .slice p97 r88.Dense.Has.length c98, .slice p100 r88.Dense.Vals.length c101] 55 (0, 0))) :: (pto b59 (.cells #[.int .i64 8, .slice (some ⟨b56, 0, none⟩) ([({ At := 3, Val := 5 } : Item)] : List Item).length 1] 42 (0, 0))) :: ex) r (fun _ _ => (.s (.s (.s .z)))) r trivial (.f [7, 6] r (by kernel_rfl) r r (fun ex => .gyes r r hb238 (.eq r r r r .mk)) (.f [6, 8] r (by kernel_rfl) r r (fun ex => .pickT r hb238 r r r .mk) (.fs [[9, 7]] r (by kernel_rfl) ?_)))
     refine splitP hd (fun hb243 hd => ?_) fun hb243 hd => ?_
     · refine .w [] [[], [10], [9, 10]] [10, 10] r (by kernel_rfl) (by kernel_rfl) (by kernel_rfl) ((dropE_kept r r)) (.inr (dropE_kept r r)) fun ex => ?_
       have hw245 := W_policy_Direction (I := I219) hd
       refine .gyes r r hb243 (.callP call8 r hw245 r r fun v246 hv247 => ?_)
       obtain ⟨r244, rfl, hd⟩ := hv247
       refine .some (fun ex => (pto b143 (.cells #[.int .i64 r126.Form, .int .i64 r126.Vec.N, .slice p132 r126.Vec.Items.length c133, .int .i64 r126.Dense.N, .slice p135 r126.Dense.Has.length c136, .slice p138 r126.Dense.Vals.length c139] 55 (0, 0))) :: (pto b105 (.cells #[.int .i64 r88.Form, .int .i64 r88.Vec.N, .slice p94 r88.Vec.Items.length c95, .int .i64 r88.Dense.N, .slice p97 r88.Dense.Has.length c98, .slice p100 r88.Dense.Vals.length c101] 55 (0, 0))) :: (pto b59 (.cells #[.int .i64 8, .slice (some ⟨b56, 0, none⟩) ([({ At := 3, Val := 5 } : Item)] : List Item).length 1] 42 (0, 0))) :: ex) r (fun _ _ => (.s (.s (.s .z)))) r trivial (.f [11, 10] r (by kernel_rfl) r r (fun ex => .gyes r r hb243 (.eq r r r r .mk)) (.f [10, 12] r (by kernel_rfl) r r (fun ex => .pickT r hb243 r r r .mk) (.fs [[13, 11]] r (by kernel_rfl) ?_)))
       refine splitP hd (fun hb248 hd => ?_) fun hb248 hd => ?_
       · refine .f [14] r (by kernel_rfl) r r (fun ex => .gyes r r hb248 (.fieldAddr underlying55 r sizeOf23 r (o := 0) r r r .mk)) (.f [15, 14] r (by kernel_rfl) r r (fun ex => .gyes r r hb248 (.load1 isAgg23 r (.s .z) r r r .mk)) (.f [16, 14] r (by kernel_rfl) r r (fun ex => .gyes r r hb248 (.eq r r r r .mk)) (.f [14, 17] r (by kernel_rfl) r r (fun ex => .pickT r hb248 r r r .mk) (.fs [[18, 14]] r (by kernel_rfl) ?_))))
         refine splitP hd (fun hb249 hd => ?_) fun hb249 hd => ?_
         · refine .f [19] r (by kernel_rfl) r r (fun ex => .gyes r r hb249 (.loadW isAgg55 sizeOf55 r (.s .z) r r r .mk)) (.w [] [[], [], [19], [18, 19], [17, 18, 19], [16, 17, 18, 19], [19], [14, 19], [13, 14, 19]] [20, 19, 19] r (by kernel_rfl) (by kernel_rfl) (by kernel_rfl) ((dropE_kept r r)) (.inr (dropE_kept r r)) fun ex => ?_)
           have hw251 := W_policy_Size (I := I219) R96 R99 R102 hd
           refine .gyes r r hb249 (.callP call26 r hw251 r r fun v252 hv253 => ?_)
           obtain ⟨r250, rfl, hd⟩ := hv253
           refine .some (fun ex => (pto b143 (.cells #[.int .i64 r126.Form, .int .i64 r126.Vec.N, .slice p132 r126.Vec.Items.length c133, .int .i64 r126.Dense.N, .slice p135 r126.Dense.Has.length c136, .slice p138 r126.Dense.Vals.length c139] 55 (0, 0))) :: (pto b105 (.cells #[.int .i64 r88.Form, .int .i64 r88.Vec.N, .slice p94 r88.Vec.Items.length c95, .int .i64 r88.Dense.N, .slice p97 r88.Dense.Has.length c98, .slice p100 r88.Dense.Vals.length c101] 55 (0, 0))) :: (pto b59 (.cells #[.int .i64 8, .slice (some ⟨b56, 0, none⟩) ([({ At := 3, Val := 5 } : Item)] : List Item).length 1] 42 (0, 0))) :: ex) r (fun _ _ => (.s (.s (.s .z)))) r trivial (.f [21, 19] r (by kernel_rfl) r r (fun ex => .gyes r r hb249 (.eq r r r r .mk)) (.f [19, 22] r (by kernel_rfl) r r (fun ex => .pickT r hb249 r r r .mk) (.fs [[23, 21]] r (by kernel_rfl) ?_)))
           refine splitP hd (fun hb254 hd => ?_) fun hb254 hd => ?_
           · refine .f [24] r (by kernel_rfl) r r (fun ex => .gyes r r hb254 (.loadW isAgg55 sizeOf55 r .z r r r .mk)) (.w [] [[], [], [24], [23, 24]] [25, 24, 24] r (by kernel_rfl) (by kernel_rfl) (by kernel_rfl) ((dropE_kept r r)) (.inr (dropE_kept r r)) fun ex => ?_)
             have hw256 := W_policy_Size (I := I219) R134 R137 R140 hd
             refine .gyes r r hb254 (.callP call26 r hw256 r r fun v257 hv258 => ?_)
             obtain ⟨r255, rfl, hd⟩ := hv258
             refine .some (fun ex => (pto b143 (.cells #[.int .i64 r126.Form, .int .i64 r126.Vec.N, .slice p132 r126.Vec.Items.length c133, .int .i64 r126.Dense.N, .slice p135 r126.Dense.Has.length c136, .slice p138 r126.Dense.Vals.length c139] 55 (0, 0))) :: (pto b105 (.cells #[.int .i64 r88.Form, .int .i64 r88.Vec.N, .slice p94 r88.Vec.Items.length c95, .int .i64 r88.Dense.N, .slice p97 r88.Dense.Has.length c98, .slice p100 r88.Dense.Vals.length c101] 55 (0, 0))) :: (pto b59 (.cells #[.int .i64 8, .slice (some ⟨b56, 0, none⟩) ([({ At := 3, Val := 5 } : Item)] : List Item).length 1] 42 (0, 0))) :: ex) r (fun _ _ => (.s (.s (.s .z)))) r trivial (.f [26, 24] r (by kernel_rfl) r r (fun ex => .gyes r r hb254 (.eq r r r r .mk)) (.f [24, 27] r (by kernel_rfl) r r (fun ex => .pickT r hb254 r r r .mk) (.fs [[28, 26]] r (by kernel_rfl) ?_)))
             refine splitP hd (fun hb259 hd => ?_) fun hb259 hd => ?_
             · refine .f [29] r (by kernel_rfl) r r (fun ex => .gyes r r hb259 (.loadW isAgg55 sizeOf55 r .z r r r .mk)) (.f [29] r (by kernel_rfl) r r (fun ex => .gyes r r hb259 (.loadW isAgg42 sizeOf42 r (.s (.s .z)) r r r .mk)) (.w [32] [[], [], [29], [28, 29]] [30, 29, 29] r (by kernel_rfl) (by kernel_rfl) (by kernel_rfl) ((dropE_kept r r)) (.inr (dropE_kept r r)) fun ex => ?_))
               have hw269 := W_policy_Vec (I := I219) R134 R137 R140 hd
               refine .gyes r r hb259 (.call call23 r hw269 r r fun v264 I261 hl262 hv263 => ?_)
               obtain ⟨r260, p266, c267, rfl, R268, hd⟩ := hv263
               have le270 := IH.le.trans le228 hl262
               replace R86 := R86.mono hl262
               replace R96 := R96.mono hl262
               replace R99 := R99.mono hl262
               replace R102 := R102.mono hl262
               replace R134 := R134.mono hl262
               replace R137 := R137.mono hl262
               replace R140 := R140.mono hl262
               replace R204 := R204.mono hl262
               refine .some (fun ex => (pto b143 (.cells #[.int .i64 r126.Form, .int .i64 r126.Vec.N, .slice p132 r126.Vec.Items.length c133, .int .i64 r126.Dense.N, .slice p135 r126.Dense.Has.length c136, .slice p138 r126.Dense.Vals.length c139] 55 (0, 0))) :: (pto b105 (.cells #[.int .i64 r88.Form, .int .i64 r88.Vec.N, .slice p94 r88.Vec.Items.length c95, .int .i64 r88.Dense.N, .slice p97 r88.Dense.Has.length c98, .slice p100 r88.Dense.Vals.length c101] 55 (0, 0))) :: (pto b59 (.cells #[.int .i64 8, .slice (some ⟨b56, 0, none⟩) ([({ At := 3, Val := 5 } : Item)] : List Item).length 1] 42 (0, 0))) :: ex) r (fun _ _ => (.s (.s (.s .z)))) r (.cc [29] r (by kernel_rfl) r r r (fun ex => .gyes r r hb259 (.loadW isAgg42 sizeOf42 r (.s (.s .z)) r r r .mk)) trivial) (.w [] [[]] [31, 32, 31, 29] r (by kernel_rfl) (by kernel_rfl) (by kernel_rfl) ((dropE_kept r r)) (.inr (dropE_kept r r)) fun ex => ?_)
               have hw272 := W_ref09_Same (I := I261) R268 R86 hd
               refine .gyes r r hb259 (.callP call22 r hw272 r r fun v273 hv274 => ?_)
               obtain ⟨r271, rfl, hd⟩ := hv274
               refine .some (fun ex => (pto b143 (.cells #[.int .i64 r126.Form, .int .i64 r126.Vec.N, .slice p132 r126.Vec.Items.length c133, .int .i64 r126.Dense.N, .slice p135 r126.Dense.Has.length c136, .slice p138 r126.Dense.Vals.length c139] 55 (0, 0))) :: (pto b105 (.cells #[.int .i64 r88.Form, .int .i64 r88.Vec.N, .slice p94 r88.Vec.Items.length c95, .int .i64 r88.Dense.N, .slice p97 r88.Dense.Has.length c98, .slice p100 r88.Dense.Vals.length c101] 55 (0, 0))) :: (pto b59 (.cells #[.int .i64 8, .slice (some ⟨b56, 0, none⟩) ([({ At := 3, Val := 5 } : Item)] : List Item).length 1] 42 (0, 0))) :: ex) r (fun _ _ => (.s (.s (.s .z)))) r trivial (.f [29, 33] r (by kernel_rfl) r r (fun ex => .pickT r hb259 r r r .mk) (.fs [[34, 33]] r (by kernel_rfl) ?_))
               refine splitP hd (fun hb275 hd => ?_) fun hb275 hd => ?_
               · refine .f [35] r (by kernel_rfl) r r (fun ex => .gyes r r hb275 (.loadW isAgg55 sizeOf55 r (.s .z) r r r .mk)) (.w [] [[], [], [35]] [36, 35, 35] r (by kernel_rfl) (by kernel_rfl) (by kernel_rfl) ((dropE_kept r r)) (.inr (dropE_kept r r)) fun ex => ?_)
                 have hw288 := W_policy_Dense (I := I261) R96 R99 R102 hd
                 refine .gyes r r hb275 (.call call25 r hw288 r r fun v280 I277 hl278 hv279 => ?_)
                 obtain ⟨r276, p282, c283, p285, c286, rfl, R284, R287, hd⟩ := hv279
                 have le289 := IH.le.trans le270 hl278
                 replace R86 := R86.mono hl278
                 replace R96 := R96.mono hl278
                 replace R99 := R99.mono hl278
                 replace R102 := R102.mono hl278
                 replace R134 := R134.mono hl278
                 replace R137 := R137.mono hl278
                 replace R140 := R140.mono hl278
                 replace R204 := R204.mono hl278
                 replace R268 := R268.mono hl278
                 refine .some (fun ex => (pto b143 (.cells #[.int .i64 r126.Form, .int .i64 r126.Vec.N, .slice p132 r126.Vec.Items.length c133, .int .i64 r126.Dense.N, .slice p135 r126.Dense.Has.length c136, .slice p138 r126.Dense.Vals.length c139] 55 (0, 0))) :: (pto b105 (.cells #[.int .i64 r88.Form, .int .i64 r88.Vec.N, .slice p94 r88.Vec.Items.length c95, .int .i64 r88.Dense.N, .slice p97 r88.Dense.Has.length c98, .slice p100 r88.Dense.Vals.length c101] 55 (0, 0))) :: (pto b59 (.cells #[.int .i64 8, .slice (some ⟨b56, 0, none⟩) ([({ At := 3, Val := 5 } : Item)] : List Item).length 1] 42 (0, 0))) :: ex) r (fun _ _ => (.s (.s (.s .z)))) r trivial (.f [37, 35] r (by kernel_rfl) r r (fun ex => .gyes r r hb275 (.field1 underlying53 r isAgg3 r r r r .mk)) (.f [38, 35] r (by kernel_rfl) r r (fun ex => .gyes r r hb275 (.eq r r r r .mk)) (.f [35, 39] r (by kernel_rfl) r r (fun ex => .pickT r hb275 r r r .mk) (.fs [[40, 37]] r (by kernel_rfl) ?_))))
                 refine splitP hd (fun hb290 hd => ?_) fun hb290 hd => ?_
                 · rw [hb290]
                   refine .fs [[41]] r (by kernel_rfl) (.f [42, 41] r (by kernel_rfl) r r (fun ex => .gyes r r r (.eq r r r r .mk)) (.fs [[41, 43], [44, 41]] r (by kernel_rfl) ?_))
                   refine splitP hd (fun hb291 hd => ?_) fun hb291 hd => ?_
                   · rw [hb291]
                     refine .fs [[45]] r (by kernel_rfl) (.f [46, 45] r (by kernel_rfl) r r (fun ex => .gyes r r r (.eq r r r r .mk)) (.fs [[45, 47], [48, 45]] r (by kernel_rfl) ?_))
                     refine splitP hd (fun hb292 hd => ?_) fun hb292 hd => ?_
                     · rw [hb292]
                       refine .fs [[49]] r (by kernel_rfl) (.f [50, 49] r (by kernel_rfl) r r (fun ex => .gyes r r r (.len underlying45 r r r r .mk)) (.f [51, 49] r (by kernel_rfl) r r (fun ex => .gyes r r r (.eq r r r r .mk)) (.fs [[49, 52], [53, 49]] r (by kernel_rfl) ?_)))
                       refine splitP hd (fun hb293 hd => ?_) fun hb293 hd => ?_
                       · rw [hb293]
                         refine .fs [[54]] r (by kernel_rfl) ?_
                         obtain ⟨h294, x295, hx296, hd⟩ := hd
                         obtain ⟨b297, o298, cs299, e300, hC301, hr302⟩ := R204.2 _ _ hx296
                         cases hr302
                         refine .f [55, 54] r (by kernel_rfl) r r (fun ex => .gyes r r r (.ixa underlying45 sizeOf85 r e300 r h294 (idx_lt hx296 h294) r r .mk)) (.f [56, 54] r (by kernel_rfl) r r (fun ex => .gyes r r r (.fieldAddr underlying85 r sizeOf83 r (o := o298 + (Int.toNat 0) * 3 + 1) r r r .mk)) (.f [57, 54] r (by kernel_rfl) r r (fun ex => .gyes r r r (.ldA (j := 1) isAgg83 sizeOf83 hC301 r r (.s (.t (.t .nil))) r r r .mk)) (.f [54] r (by kernel_rfl) r r (fun ex => .gyes r r r (.build zeroValue83 underlying83 BI83 (.c r r r (.s (.t .nil)) .n) (by exact ⟨⟨_, _, r, r, r⟩, trivial⟩) r r .mk)) (.f [58, 59, 54] r (by kernel_rfl) r r (fun ex => .gyes r r r (.eqV r r (EQ83 x295.Val ({ Hi := 0, Lo := 7 } : Wide)) (EG83 _ _ _ _ _) r r r .mk)) (.fs [[54, 60], [61, 54]] r (by kernel_rfl) ?_)))))
                         refine splitP hd (fun hb303 hd => ?_) fun hb303 hd => ?_
                         · rw [hb303]
                           refine .fs [[62]] r (by kernel_rfl) (.f [63, 62] r (by kernel_rfl) r r (fun ex => .gyes r r r (.eq r r r r .mk)) (.fs [[62, 64], [65, 62]] r (by kernel_rfl) ?_))
                           refine splitP hd (fun hb304 hd => ?_) fun hb304 hd => ?_
                           · rw [hb304]
                             exact .fs [[66]] r (by kernel_rfl) (.f [67, 66] r (by kernel_rfl) r r (fun ex => .gyes r r r (.eq r r r r .mk)) (.fs [[66, 68]] r (by kernel_rfl) (.e 70 (by kernel_rfl) (by kernel_rfl) (by kernel_rfl) (.skips 1 r (.nilS [0] r r (.drop .z (.drop .z (.drop .z (.ret (pret results7 (.t r .n) le289 ⟨(r218.2.1 == 0), r, hd⟩))))))))))
                           rw [hb304]
                           exact .fs [[66], [67, 66], [66, 68]] r (by kernel_rfl) (.e 70 (by kernel_rfl) (by kernel_rfl) (by kernel_rfl) (.skips 1 r (.nilS [0] r r (.drop .z (.drop .z (.drop .z (.ret (pret results7 (.t r .n) le289 ⟨false, r, hd⟩))))))))
                         rw [hb303]
                         exact .fs [[62], [63, 62], [62, 64], [65, 62], [66], [67, 66], [66, 68]] r (by kernel_rfl) (.e 70 (by kernel_rfl) (by kernel_rfl) (by kernel_rfl) (.skips 1 r (.nilS [0] r r (.drop .z (.drop .z (.drop .z (.ret (pret results7 (.t r .n) le289 ⟨false, r, hd⟩))))))))
                       rw [hb293]
                       exact .fs [[54], [55, 54], [56, 54], [57, 54], [54], [58, 59, 54], [54, 60], [61, 54], [62], [63, 62], [62, 64], [65, 62], [66], [67, 66], [66, 68]] r (by kernel_rfl) (.e 70 (by kernel_rfl) (by kernel_rfl) (by kernel_rfl) (.skips 1 r (.nilS [0] r r (.drop .z (.drop .z (.drop .z (.ret (pret results7 (.t r .n) le289 ⟨false, r, hd⟩))))))))
                     rw [hb292]
                     exact .fs [[49], [50, 49], [51, 49], [49, 52], [53, 49], [54], [55, 54], [56, 54], [57, 54], [54], [58, 59, 54], [54, 60], [61, 54], [62], [63, 62], [62, 64], [65, 62], [66], [67, 66], [66, 68]] r (by kernel_rfl) (.e 70 (by kernel_rfl) (by kernel_rfl) (by kernel_rfl) (.skips 1 r (.nilS [0] r r (.drop .z (.drop .z (.drop .z (.ret (pret results7 (.t r .n) le289 ⟨false, r, hd⟩))))))))
                   rw [hb291]
                   exact .fs [[45], [46, 45], [45, 47], [48, 45], [49], [50, 49], [51, 49], [49, 52], [53, 49], [54], [55, 54], [56, 54], [57, 54], [54], [58, 59, 54], [54, 60], [61, 54], [62], [63, 62], [62, 64], [65, 62], [66], [67, 66], [66, 68]] r (by kernel_rfl) (.e 70 (by kernel_rfl) (by kernel_rfl) (by kernel_rfl) (.skips 1 r (.nilS [0] r r (.drop .z (.drop .z (.drop .z (.ret (pret results7 (.t r .n) le289 ⟨false, r, hd⟩))))))))
                 rw [hb290]
                 exact .fs [[41], [42, 41], [41, 43], [44, 41], [45], [46, 45], [45, 47], [48, 45], [49], [50, 49], [51, 49], [49, 52], [53, 49], [54], [55, 54], [56, 54], [57, 54], [54], [58, 59, 54], [54, 60], [61, 54], [62], [63, 62], [62, 64], [65, 62], [66], [67, 66], [66, 68]] r (by kernel_rfl) (.e 70 (by kernel_rfl) (by kernel_rfl) (by kernel_rfl) (.skips 1 r (.nilS [0] r r (.drop .z (.drop .z (.drop .z (.ret (pret results7 (.t r .n) le289 ⟨false, r, hd⟩))))))))
               refine .f [35] r (by kernel_rfl) r r (fun ex => .gno r r hb275 r r .mk) (.f [36, 35, 35] r (by kernel_rfl) r r (fun ex => .gno r r hb275 r r .mk) (.f [37, 35] r (by kernel_rfl) r r (fun ex => .gno r r hb275 r r .mk) (.f [38, 35] r (by kernel_rfl) r r (fun ex => .gno r r hb275 r r .mk) (.f [35, 39] r (by kernel_rfl) r r (fun ex => .pickF r hb275 r r r .mk) (.fs [[40, 37], [41], [42, 41], [41, 43], [44, 41], [45], [46, 45], [45, 47], [48, 45], [49], [50, 49], [51, 49], [49, 52], [53, 49], [54], [55, 54], [56, 54], [57, 54], [54], [58, 59, 54], [54, 60], [61, 54], [62], [63, 62], [62, 64], [65, 62], [66], [67, 66], [66, 68]] r (by kernel_rfl) (.e 70 (by kernel_rfl) (by kernel_rfl) (by kernel_rfl) (.skips 1 r (.nilS [0] r r (.drop .z ?_)))))))))
               exact .drop .z (.drop .z (.ret (pret results7 (.t r .n) le270 ⟨false, r, hd⟩)))
             refine .f [29] r (by kernel_rfl) r r (fun ex => .gno r r hb259 r r .mk) (.f [29] r (by kernel_rfl) r r (fun ex => .gno r r hb259 r r .mk) (.f [30, 29, 29] r (by kernel_rfl) r r (fun ex => .gno r r hb259 r r .mk) (.f [31, 32, 31, 29] r (by kernel_rfl) r r (fun ex => .gno r r hb259 r r .mk) (.f [29, 33] r (by kernel_rfl) r r (fun ex => .pickF r hb259 r r r .mk) (.fs [[34, 33], [35], [36, 35, 35], [37, 35], [38, 35], [35, 39], [40, 37], [41], [42, 41], [41, 43], [44, 41], [45], [46, 45], [45, 47], [48, 45], [49], [50, 49], [51, 49], [49, 52], [53, 49], [54], [55, 54], [56, 54], [57, 54], [54], [58, 59, 54], [54, 60], [61, 54], [62], [63, 62], [62, 64], [65, 62], [66], [67, 66], [66, 68]] r (by kernel_rfl) (.e 70 (by kernel_rfl) (by kernel_rfl) (by kernel_rfl) (.skips 1 r (.nilS [0] r r (.drop .z ?_)))))))))
             exact .drop .z (.drop .z (.ret (pret results7 (.t r .n) le228 ⟨false, r, hd⟩)))
           refine .f [24] r (by kernel_rfl) r r (fun ex => .gno r r hb254 r r .mk) (.f [25, 24, 24] r (by kernel_rfl) r r (fun ex => .gno r r hb254 r r .mk) (.f [26, 24] r (by kernel_rfl) r r (fun ex => .gno r r hb254 r r .mk) (.f [24, 27] r (by kernel_rfl) r r (fun ex => .pickF r hb254 r r r .mk) (.fs [[28, 26], [29], [29], [30, 29, 29], [31, 32, 31, 29], [29, 33], [34, 33], [35], [36, 35, 35], [37, 35], [38, 35], [35, 39], [40, 37], [41], [42, 41], [41, 43], [44, 41], [45], [46, 45], [45, 47], [48, 45], [49], [50, 49], [51, 49], [49, 52], [53, 49], [54], [55, 54], [56, 54], [57, 54], [54], [58, 59, 54], [54, 60], [61, 54], [62], [63, 62], [62, 64], [65, 62], [66], [67, 66], [66, 68]] r (by kernel_rfl) (.e 70 (by kernel_rfl) (by kernel_rfl) (by kernel_rfl) (.skips 1 r (.nilS [0] r r (.drop .z (.drop .z ?_)))))))))
           exact .drop .z (.ret (pret results7 (.t r .n) le228 ⟨false, r, hd⟩))
         refine .f [19] r (by kernel_rfl) r r (fun ex => .gno r r hb249 r r .mk) (.f [20, 19, 19] r (by kernel_rfl) r r (fun ex => .gno r r hb249 r r .mk) (.f [21, 19] r (by kernel_rfl) r r (fun ex => .gno r r hb249 r r .mk) (.f [19, 22] r (by kernel_rfl) r r (fun ex => .pickF r hb249 r r r .mk) (.fs [[23, 21], [24], [25, 24, 24], [26, 24], [24, 27], [28, 26], [29], [29], [30, 29, 29], [31, 32, 31, 29], [29, 33], [34, 33], [35], [36, 35, 35], [37, 35], [38, 35], [35, 39], [40, 37], [41], [42, 41], [41, 43], [44, 41], [45], [46, 45], [45, 47], [48, 45], [49], [50, 49], [51, 49], [49, 52], [53, 49], [54], [55, 54], [56, 54], [57, 54], [54], [58, 59, 54], [54, 60], [61, 54], [62], [63, 62], [62, 64], [65, 62], [66], [67, 66], [66, 68]] r (by kernel_rfl) (.e 70 (by kernel_rfl) (by kernel_rfl) (by kernel_rfl) (.skips 1 r (.nilS [0] r r (.drop .z (.drop .z ?_)))))))))
         exact .drop .z (.ret (pret results7 (.t r .n) le228 ⟨false, r, hd⟩))
       refine .f [14] r (by kernel_rfl) r r (fun ex => .gno r r hb248 r r .mk) (.f [15, 14] r (by kernel_rfl) r r (fun ex => .gno r r hb248 r r .mk) (.f [16, 14] r (by kernel_rfl) r r (fun ex => .gno r r hb248 r r .mk) (.f [14, 17] r (by kernel_rfl) r r (fun ex => .pickF r hb248 r r r .mk) (.fs [[18, 14], [19], [20, 19, 19], [21, 19], [19, 22], [23, 21], [24], [25, 24, 24], [26, 24], [24, 27], [28, 26], [29], [29], [30, 29, 29], [31, 32, 31, 29], [29, 33], [34, 33], [35], [36, 35, 35], [37, 35], [38, 35], [35, 39], [40, 37], [41], [42, 41], [41, 43], [44, 41], [45], [46, 45], [45, 47], [48, 45], [49], [50, 49], [51, 49], [49, 52], [53, 49], [54], [55, 54], [56, 54], [57, 54], [54], [58, 59, 54], [54, 60], [61, 54], [62], [63, 62], [62, 64], [65, 62], [66], [67, 66], [66, 68]] r (by kernel_rfl) (.e 70 (by kernel_rfl) (by kernel_rfl) (by kernel_rfl) (.skips 1 r (.nilS [0] r r (.drop .z (.drop .z ?_)))))))))
       exact .drop .z (.ret (pret results7 (.t r .n) le228 ⟨false, r, hd⟩))
     refine .f [10, 10] r (by kernel_rfl) r r (fun ex => .gno r r hb243 r r .mk) (.f [11, 10] r (by kernel_rfl) r r (fun ex => .gno r r hb243 r r .mk) (.f [10, 12] r (by kernel_rfl) r r (fun ex => .pickF r hb243 r r r .mk) (.fs [[13, 11], [14], [15, 14], [16, 14], [14, 17], [18, 14], [19], [20, 19, 19], [21, 19], [19, 22], [23, 21], [24], [25, 24, 24], [26, 24], [24, 27], [28, 26], [29], [29], [30, 29, 29], [31, 32, 31, 29], [29, 33], [34, 33], [35], [36, 35, 35], [37, 35], [38, 35], [35, 39], [40, 37], [41], [42, 41], [41, 43], [44, 41], [45], [46, 45], [45, 47], [48, 45], [49], [50, 49], [51, 49], [49, 52], [53, 49], [54], [55, 54], [56, 54], [57, 54], [54], [58, 59, 54], [54, 60], [61, 54], [62], [63, 62], [62, 64], [65, 62], [66], [67, 66], [66, 68]] r (by kernel_rfl) (.e 70 (by kernel_rfl) (by kernel_rfl) (by kernel_rfl) (.skips 1 r (.nilS [0] r r (.drop .z (.drop .z (.drop .z ?_)))))))))
     exact .ret (pret results7 (.t r .n) le228 ⟨false, r, hd⟩)
   refine .f [6, 6] r (by kernel_rfl) r r (fun ex => .gno r r hb238 r r .mk) (.f [7, 6] r (by kernel_rfl) r r (fun ex => .gno r r hb238 r r .mk) (.f [6, 8] r (by kernel_rfl) r r (fun ex => .pickF r hb238 r r r .mk) (.fs [[9, 7], [10, 10], [11, 10], [10, 12], [13, 11], [14], [15, 14], [16, 14], [14, 17], [18, 14], [19], [20, 19, 19], [21, 19], [19, 22], [23, 21], [24], [25, 24, 24], [26, 24], [24, 27], [28, 26], [29], [29], [30, 29, 29], [31, 32, 31, 29], [29, 33], [34, 33], [35], [36, 35, 35], [37, 35], [38, 35], [35, 39], [40, 37], [41], [42, 41], [41, 43], [44, 41], [45], [46, 45], [45, 47], [48, 45], [49], [50, 49], [51, 49], [49, 52], [53, 49], [54], [55, 54], [56, 54], [57, 54], [54], [58, 59, 54], [54, 60], [61, 54], [62], [63, 62], [62, 64], [65, 62], [66], [67, 66], [66, 68]] r (by kernel_rfl) (.e 70 (by kernel_rfl) (by kernel_rfl) (by kernel_rfl) (.skips 1 r (.nilS [0] r r (.drop .z (.drop .z (.drop .z ?_)))))))))
   exact .ret (pret results7 (.t r .n) le228 ⟨false, r, hd⟩)
 refine .f [2, 2] r (by kernel_rfl) r r (fun ex => .gno r r hb233 r r .mk) (.f [3, 2] r (by kernel_rfl) r r (fun ex => .gno r r hb233 r r .mk) (.f [2, 4] r (by kernel_rfl) r r (fun ex => .pickF r hb233 r r r .mk) (.fs [[5, 3], [6, 6], [7, 6], [6, 8], [9, 7], [10, 10], [11, 10], [10, 12], [13, 11], [14], [15, 14], [16, 14], [14, 17], [18, 14], [19], [20, 19, 19], [21, 19], [19, 22], [23, 21], [24], [25, 24, 24], [26, 24], [24, 27], [28, 26], [29], [29], [30, 29, 29], [31, 32, 31, 29], [29, 33], [34, 33], [35], [36, 35, 35], [37, 35], [38, 35], [35, 39], [40, 37], [41], [42, 41], [41, 43], [44, 41], [45], [46, 45], [45, 47], [48, 45], [49], [50, 49], [51, 49], [49, 52], [53, 49], [54], [55, 54], [56, 54], [57, 54], [54], [58, 59, 54], [54, 60], [61, 54], [62], [63, 62], [62, 64], [65, 62], [66], [67, 66], [66, 68]] r (by kernel_rfl) (.e 70 (by kernel_rfl) (by kernel_rfl) (by kernel_rfl) (.skips 1 r (.nilS [0] r r (.drop .z (.drop .z (.drop .z ?_)))))))))
 exact .ret (pret results7 (.t r .n) le228 ⟨false, r, hd⟩)

end Go.Proofs.YtmidnfbbnmigeaaGreat
