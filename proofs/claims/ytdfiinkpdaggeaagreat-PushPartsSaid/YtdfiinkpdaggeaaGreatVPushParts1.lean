/- The walks (printed by a program of ours). -/
import Derived.Test.YtdfiinkpdaggeaaGreatV2
namespace Go.Proofs.YtdfiinkpdaggeaaGreat
open Go Go.Fw
set_option linter.unusedVariables false
set_option linter.unusedSimpArgs false
set_option maxRecDepth 8000
set_option maxHeartbeats 1000000
open Tryz
theorem W_law13_Right {I : IH} {a0 : Int}  {Q : Int → Prop}  (hd : law13_Right a0 Q) :
    PFun Tryz.prog 21 [.int .i64 a0] I (fun I_ v => ∃ r, v = .int .i64 r ∧ Q r) := by
 refine Fun.enter func21 r ntmps21 r (.c .n) fun w0 M => ?_
 refine .seq (.region (.skips 1 r (.nilS [0] r r (.seq (.seq (.region (.skips 1 r (.lt r r r r (.skips 1 r ?_)))))))))
 refine splitP hd (fun hb1 hd => ?_) fun hb1 hd => ?_
 · rw [hb1]
   exact .skips 3 r (.nilS [8, 0] r r (.condKT r r (.seq (.region (.skips 1 r (.nilS [2] r r (.ret (pret results21 (.t r .n) (.refl _) ⟨1, r, hd⟩))))))))
 rw [hb1]
 refine .gyes r r r (.move r r r (.gyes r r r (.gt r r r r (.skips 1 r (.nilS [8, 0] r r (.condP r hd (fun hb2 hd => ?_) fun hb2 hd => ?_))))))
 · exact .seq (.region (.skips 1 r (.nilS [2] r r (.ret (pret results21 (.t r .n) (.refl _) ⟨1, r, hd⟩)))))
 exact .skipS [0] r r (.seq (.region (.skips 2 r (.nilS [2] r r (.ret (pret results21 (.t r .n) (.refl _) ⟨a0, r, hd⟩))))))

theorem W_law07_Size {I : IH} {a0 : Int}  {Q : Int → Prop}  (hd : law07_Size a0 Q) :
    PFun Tryz.prog 33 [.int .u8 a0] I (fun I_ v => ∃ r, v = .int .i64 r ∧ Q r) := by
 refine Fun.enter func33 r ntmps33 r (.c .n) fun w0 M => ?_
 refine .seq (.region (.skips 1 r (.nilS [0] r r (.seq (.region (.skips 1 r (.conv underlying5 underlying3 r r r (.rem r r (by decide) r r (.skips 1 r ?_)))))))))
 exact .nilS [2] r r (.ret (pret results33 (.t r .n) (.refl _) ⟨((w64 (a0)).tmod 40), r, hd⟩))

theorem W_law07_Few {I : IH} {a0 : List Triple} {p1 : Option Addr} {c2 : Nat} {Q : (List Triple) → Prop} (R3 : RepSl eTriple I p1 c2 a0) (hd : law07_Few a0 Q) :
    PFun Tryz.prog 70 [.slice p1 a0.length c2] I (fun I_ v => ∃ r p4 c5, v = .slice p4 r.length c5 ∧ RepSl eTriple I_ p4 c5 r ∧ Q r) := by
 refine Fun.enter func70 r ntmps70 r (.c .n) fun w0 M => ?_
 refine .seq (.region (.skips 1 r (.nilS [0] r r (.seq (.seq (.region (.skips 1 r (.len underlying24 r r r r (.gt r r r r ?_)))))))))
 refine .nilS [5, 0] r r (.condP r hd (fun hb7 hd => ?_) fun hb7 hd => ?_)
 · refine .region (.skips 1 r ?_)
   obtain ⟨h8, h9, h10, hd⟩ := hd
   have h16 : Int.toNat 0 ≤ Int.toNat 60 := by omega
   have h17 : Int.toNat 60 ≤ a0.length := by omega
   obtain ⟨p11, c12, e14, e15, R13⟩ := RepSl.sliceW R3 (Int.toNat 0) (Int.toNat 60) c2 h16 h17 (.inl rfl)
   exact .sliceW (L := Int.toNat 0) (H := Int.toNat 60) (cm := c2) underlying24 sizeOf84 r r R3.1 r r r (.inl ⟨r, r⟩) (.inr ⟨_, _, r, (by omega), r⟩) (.inl r) h16 h17 r e14 e15 r r (.sub (E' := [(5, _), (6, _), (7, _)]) ⟨r, r, r, trivial⟩ (.skips 1 r (.nilS [0] r r (.seq (.region (.skips 2 r (.nilS [2] r r (.ret (pret results70 (.t r .n) (.refl _) ⟨((a0.take (Int.toNat 60)).drop (Int.toNat 0)), _, _, r, R13, hd⟩)))))))))
 exact .skipS [0] r r (.seq (.region (.skips 2 r (.nilS [2] r r (.ret (pret results70 (.t r .n) (.refl _) ⟨a0, _, _, r, R3, hd⟩))))))

theorem W_law07_Some {I : IH} {a0 : Int × Int} {a1 : List Triple} {p1 : Option Addr} {c2 : Nat} {Q : Rows → Prop} (R3 : RepSl eTriple I p1 c2 a1) (hd : law07_Some a0 a1 Q) :
    PFun Tryz.prog 30 [.agg #[.int .u8 a0.1, .int .u8 a0.2], .slice p1 a1.length c2] I (fun I_ v => ∃ r p4 c5 p7 c8 p10 c11, v = .agg #[.int .i64 r.Rows, .int .i64 r.Cols, .slice p4 r.Start.length c5, .slice p7 r.Col.length c8, .slice p10 r.Val.length c11] ∧ RepSl eI64 I_ p4 c5 r.Start ∧ RepSl eI64 I_ p7 c8 r.Col ∧ RepSl eI64 I_ p10 c11 r.Val ∧ Q r) := by
 refine Fun.enter func30 r ntmps30 r (.c (.c .n)) fun w0 M => ?_
 refine .seq (.region (.boxA r r r fun b17 => ?_))
 refine .allocA zeroValue35 r r fun b19 => ?_
 refine .nilS [4, 2, 1] r r (.seq (.draw [some 0, some 1, some 3, some 4, some 2, some 5, some 6] 7 MX (by kernel_rfl) (by kernel_rfl) (by kernel_rfl) (by kernel_rfl) (by kernel_rfl) (by kernel_rfl) (by kernel_rfl) (fun ex => (pto b19 (.cells #[.int .i64 0, .int .i64 0, .slice none 0 0, .slice none 0 0, .slice none 0 0] 35 (0, 0))) :: (pto b17 (.cells #[.int .u8 a0.1, .int .u8 a0.2] 23 (0, 0))) :: ex) (fun _ _ => (.s (.s .z))) r (.f [] r (by kernel_rfl) r r (fun ex => .ixArr (i := 0) underlying23 sizeOf5 r r (by decide) (o := 0) r r r .mk) (.f [0] r (by kernel_rfl) r r (fun ex => .load1 isAgg5 r (.s .z) r r r .mk) (.f [] r (by kernel_rfl) r r (fun ex => .ixArr (i := 1) underlying23 sizeOf5 r r (by decide) (o := 1) r r r .mk) (.f [3] r (by kernel_rfl) r r (fun ex => .load1 isAgg5 r (.s .z) r r r .mk) (.w [4, 3] [[], [1]] [1] r (by kernel_rfl) (by kernel_rfl) (by kernel_rfl) ((dropE_kept r r)) (.inr (dropE_kept r r)) fun ex => ?_)))))))
 have hw30 := W_law07_Size (I := I) hd
 refine .callP call33 r hw30 r r fun v31 hv32 => ?_
 obtain ⟨r29, rfl, hd⟩ := hv32
 refine .some (fun ex => (pto b19 (.cells #[.int .i64 0, .int .i64 0, .slice none 0 0, .slice none 0 0, .slice none 0 0] 35 (0, 0))) :: (pto b17 (.cells #[.int .u8 a0.1, .int .u8 a0.2] 23 (0, 0))) :: ex) r (fun _ _ => (.s (.s .z))) r (.cc [3] r (by kernel_rfl) r r r (fun ex => .load1 isAgg5 r (.s .z) r r r .mk) (.cc [] r (by kernel_rfl) r r r (fun ex => .ixArr (i := 1) underlying23 sizeOf5 r r (by decide) (o := 1) r r r .mk) trivial)) (.w [] [[], [4]] [4, 2] r (by kernel_rfl) (by kernel_rfl) (by kernel_rfl) ((dropE_kept r r)) (.inr (dropE_kept r r)) fun ex => ?_)
 have hw34 := W_law07_Size (I := I) hd
 refine .callP call33 r hw34 r r fun v35 hv36 => ?_
 obtain ⟨r33, rfl, hd⟩ := hv36
 refine .some (fun ex => (pto b19 (.cells #[.int .i64 0, .int .i64 0, .slice none 0 0, .slice none 0 0, .slice none 0 0] 35 (0, 0))) :: (pto b17 (.cells #[.int .u8 a0.1, .int .u8 a0.2] 23 (0, 0))) :: ex) r (fun _ _ => (.s (.s .z))) r trivial (.fs [[2, 5, 0, 1, 2]] r (by kernel_rfl) (.e 7 (by kernel_rfl) (by kernel_rfl) (by kernel_rfl) (.skips 1 r (.nilS [6, 5, 4, 1] r r (.drop (.s .z) (.seq (.region (.skips 1 r (.nilS [7, 6, 5, 4, 1] r r ?_)))))))))
 refine .seq (.region (.skips 1 r ?_))
 have hw57 := W_law07_Few (I := I) R3 hd
 refine .call call70 r hw57 r r fun v52 I49 hl50 hv51 => ?_
 obtain ⟨r48, p54, c55, rfl, R56, hd⟩ := hv51
 have le58 := IH.le.trans (.refl _) hl50
 replace R3 := R3.mono hl50
 refine .sub (E' := [(4, _), (5, _), (6, _), (7, _), (18, _), (19, _)]) ⟨r, r, r, r, r, r, trivial⟩ (.skips 1 r (.nilS [1, 7, 6, 5, 4] r r (.seq (.seq (.region (.skips 1 r (.nilS [8, 1, 7, 6, 5, 4] r r (.block (.own0 eTriple 84 ?_)))))))))
 refine .loop hd (fun (s : (List Triple) × Int) c w => match s with | (s307, s311) => ∃ I_ p308 c309, IH.le I49 I_ ∧ Ok ⟨73, [], none⟩ [(1, .slice p54 r48.length c55), (4, .pointer (some ⟨b19, 0, none⟩)), (5, .int .i64 r29), (6, .int .i64 r33), (7, .slice p308 s307.length c309), (8, .int .i64 s311)] c ∧ Sym w0 M I I_ [pto b19 (.cells #[.int .i64 0, .int .i64 0, .slice none 0 0, .slice none 0 0, .slice none 0 0] 35 (0, 0)), OwnSl eTriple 84 p308 c309 s307] w) (fun c w ho hs => ⟨I49, _, _, (.refl _), ho.sub ⟨r, r, r, r, r, r, trivial⟩, hs.pick (.c (.s .z) (.c .z .n))⟩) ?_
 rintro ⟨s307, s311⟩ next313 hd c w hst
 obtain ⟨I314, p308, c309, hl315, hok, hsym⟩ := hst
 have le316 := IH.le.trans le58 hl315
 have le317 := IH.le.trans (.refl _) hl315
 replace R56 := R56.mono hl315
 refine Cod.at hok hsym (.seq (.seq (.region (.skips 2 r (.len underlying24 r r r r (.lt r r r r (.nilS [23, 8, 7, 6, 5, 4, 1] r r (.condP r hd (fun hb319 hd => ?_) fun hb319 hd => ?_))))))))
 · refine .skipS [8, 7, 6, 5, 4, 1] r r (.seq (.block (.seq (.region (.skips 2 r ?_)))))
   obtain ⟨h331, x332, hx333, hd⟩ := hd
   obtain ⟨b334, o335, cs336, e337, hC338, hr339⟩ := R56.2 _ _ hx333
   cases hr339
   refine .ixa underlying24 sizeOf84 r e337 r h331 (idx_lt hx333 h331) r r (.ldW isAgg84 sizeOf84 hC338 r r r r (.allocA zeroValue84 r r fun b340 => ?_))
   refine .storeA sizeOf84 r r .z (.t (.t (.t .nil))) r r (.nilS [9, 8, 7, 6, 5, 4, 1] r r (.seq (.seq (.region (.fieldAddr underlying84 r sizeOf3 r (o := 0) r r r (.load1 isAgg3 r .z r r r (.lt r r r r (.skips 1 r ?_))))))))
   refine splitP hd (fun hb346 hd => ?_) fun hb346 hd => ?_
   · rw [hb346]
     refine .skips 12 r (.nilS [45, 9, 8, 7, 6, 5, 4, 1] r r (.condKT r r (.exitS [8, 7, 6, 5, 4, 1] r r (.drop .z (.region (.skips 1 r (.add r r r r (.sub (E' := [(1, _), (4, _), (5, _), (6, _), (7, _), (24, _), (25, _)]) ⟨r, r, r, r, r, r, r, trivial⟩ (.skips 1 r ?_)))))))))
     exact .nil' fun c w ho hs => ⟨(s307, w64 (s311 + 1)), hd, I314, _, _, le317, ho.sub ⟨r, r, r, r, r, r, trivial⟩, hs.pick (.c .z (.c .z .n))⟩
   rw [hb346]
   refine .gyes r r r (.fieldAddr underlying84 r sizeOf3 r (o := 1) r r r (.gyes r r r (.load1 isAgg3 r .z r r r (.gyes r r r (.lt r r r r (.skips 2 r ?_))))))
   refine splitP hd (fun hb347 hd => ?_) fun hb347 hd => ?_
   · rw [hb347]
     refine .skips 7 r (.nilS [45, 9, 8, 7, 6, 5, 4, 1] r r (.condKT r r (.exitS [8, 7, 6, 5, 4, 1] r r (.drop .z (.region (.skips 1 r (.add r r r r (.sub (E' := [(1, _), (4, _), (5, _), (6, _), (7, _), (24, _), (25, _)]) ⟨r, r, r, r, r, r, r, trivial⟩ (.skips 1 r ?_)))))))))
     exact .nil' fun c w ho hs => ⟨(s307, w64 (s311 + 1)), hd, I314, _, _, le317, ho.sub ⟨r, r, r, r, r, r, trivial⟩, hs.pick (.c .z (.c .z .n))⟩
   rw [hb347]
   refine .gyes r r r (.move r r r (.gyes r r r (.eq r r r r (.skips 2 r ?_))))
   refine splitP hd (fun hb348 hd => ?_) fun hb348 hd => ?_
   · rw [hb348]
     refine .skips 3 r (.nilS [45, 9, 8, 7, 6, 5, 4, 1] r r (.condKT r r (.exitS [8, 7, 6, 5, 4, 1] r r (.drop .z (.region (.skips 1 r (.add r r r r (.sub (E' := [(1, _), (4, _), (5, _), (6, _), (7, _), (24, _), (25, _)]) ⟨r, r, r, r, r, r, r, trivial⟩ (.skips 1 r ?_)))))))))
     exact .nil' fun c w ho hs => ⟨(s307, w64 (s311 + 1)), hd, I314, _, _, le317, ho.sub ⟨r, r, r, r, r, r, trivial⟩, hs.pick (.c .z (.c .z .n))⟩
   rw [hb348]
   refine .gyes r r r (.move r r r (.gyes r r r (.eq r r r r (.skips 1 r (.nilS [45, 9, 8, 7, 6, 5, 4, 1] r r (.condP r hd (fun hb349 hd => ?_) fun hb349 hd => ?_))))))
   · exact .exitS [8, 7, 6, 5, 4, 1] r r (.drop .z (.region (.skips 1 r (.add r r r r (.sub (E' := [(1, _), (4, _), (5, _), (6, _), (7, _), (24, _), (25, _)]) ⟨r, r, r, r, r, r, r, trivial⟩ (.skips 1 r (.nil' fun c w ho hs => ⟨(s307, w64 (s311 + 1)), hd, I314, _, _, le317, ho.sub ⟨r, r, r, r, r, r, trivial⟩, hs.pick (.c .z (.c .z .n))⟩)))))))
   refine .skipS [9, 8, 7, 6, 5, 4, 1] r r (.seq (.region (.fieldAddr underlying84 r sizeOf3 r (o := 0) r r r (.load1 isAgg3 r .z r r r (.skips 1 r ?_)))))
   obtain ⟨hz351, hd⟩ := hd
   refine .rem r r hz351 r r (.fieldAddr underlying84 r sizeOf3 r (o := 0) r r r (.store1 sizeOf3 r r .z (.t .nil) r (.nilS [9, 8, 7, 6, 5, 4, 1] r r (.seq (.region (.fieldAddr underlying84 r sizeOf3 r (o := 1) r r r (.load1 isAgg3 r .z r r r (.skips 1 r ?_))))))))
   obtain ⟨hz352, hd⟩ := hd
   refine .rem r r hz352 r r (.fieldAddr underlying84 r sizeOf3 r (o := 1) r r r (.store1 sizeOf3 r r .z (.s (.t .nil)) r (.nilS [9, 8, 7, 6, 5, 4, 1] r r (.region (.skips 1 r (.loadW isAgg84 sizeOf84 r .z r r r (.buildSlice 1 underlying24 sizeOf84 zeroValue84 r r (.c r r r .n) r r fun b353 => ?_)))))))
   obtain ⟨hl355, hd⟩ := hd
   refine .append (ys := [({ Row := x332.Row.tmod r29, Col := x332.Col.tmod r33, Val := x332.Val } : Triple)]) 24 (.s (.s (.s .z))) underlying24 underlying24 IN84 r r r r r r r r r (.box .z (.one r) r) hl355 r r fun p356 c357 => ?_
   refine .sub (E' := [(1, _), (4, _), (5, _), (6, _), (8, _), (9, _), (56, _), (57, _), (58, _), (59, _)]) ⟨r, r, r, r, r, r, r, r, r, r, trivial⟩ (.skips 1 r (.nilS [7, 8, 6, 5, 4, 1] r r (.drop (.s .z) (.drop (.s .z) (.region (.skips 1 r (.add r r r r (.sub (E' := [(1, _), (4, _), (5, _), (6, _), (7, _), (24, _), (25, _)]) ⟨r, r, r, r, r, r, r, trivial⟩ (.skips 1 r ?_)))))))))
   exact .nil' fun c w ho hs => ⟨((s307 ++ ([({ Row := x332.Row.tmod r29, Col := x332.Col.tmod r33, Val := x332.Val } : Triple)])), w64 (s311 + 1)), hd, I314, _, _, le317, ho.sub ⟨r, r, r, r, r, r, trivial⟩, hs.pick (.c (.s .z) (.c .z .n))⟩
 refine .exitS [7, 6, 5, 4] r r (.seq (.region (.skips 3 r (.pub (.s .z) fun I384 hl385 R386 => ?_))))
 have le387 := IH.le.trans le316 hl385
 have le388 := IH.le.trans le317 hl385
 have hw404 := W_ref07_Of (I := I384) R386 hd
 refine .call call44 r hw404 r r fun v393 I390 hl391 hv392 => ?_
 obtain ⟨r389, p395, c396, p398, c399, p401, c402, rfl, R397, R400, R403, hd⟩ := hv392
 have le405 := IH.le.trans le387 hl391
 have le406 := IH.le.trans le388 hl391
 replace R386 := R386.mono hl391
 refine .skips 1 r (.extract r r r r (.extract r r r r (.allocA zeroValue35 r r fun b407 => ?_)))
 refine .storeA sizeOf35 r r .z (.t (.t (.t (.t (.t .nil))))) r r (.skips 1 r (.nilS [11, 10, 6, 5, 4] r r (.seq (.seq (.region (.skips 1 r (.ne r r r r (.nilS [68, 10, 6, 5, 4] r r (.condP r hd (fun hb409 hd => ?_) fun hb409 hd => ?_)))))))))
 · refine .seq (.region (.skips 2 r ?_))
   have hw428 := W_ref07_Empty (I := I390) hd
   refine .callO call71 r hw428 r r fun v414 I411 l415 hl412 hv413 => ?_
   obtain ⟨r410, p416, c417, p419, c420, p422, c423, rfl, rfl, hd⟩ := hv413
   have le429 := IH.le.trans le405 hl412
   have le430 := IH.le.trans le406 hl412
   replace R397 := R397.mono hl412
   replace R400 := R400.mono hl412
   replace R403 := R403.mono hl412
   refine .storeA sizeOf35 r r (.s (.s (.s (.s .z)))) (.t (.t (.t (.t (.t .nil))))) r r (.nilS [4] r r (.drop (.s (.s (.s .z))) (.pub .z fun I431 hl432 R433 => ?_)))
   have le434 := IH.le.trans le429 hl432
   have le435 := IH.le.trans le430 hl432
   refine .pub .z fun I436 hl437 R438 => ?_
   have le439 := IH.le.trans le434 hl437
   have le440 := IH.le.trans le435 hl437
   replace R433 := R433.mono hl437
   refine .pub .z fun I441 hl442 R443 => ?_
   have le444 := IH.le.trans le439 hl442
   have le445 := IH.le.trans le440 hl442
   replace R433 := R433.mono hl442
   replace R438 := R438.mono hl442
   exact .ret (pret results30 (.w isAgg35 sizeOf35 r .z r .n) le444 ⟨r410, _, _, _, _, _, _, r, R433, R438, R443, hd⟩)
 exact .skipS [10, 4] r r (.seq (.region (.loadW isAgg35 sizeOf35 r .z r r r (.storeA sizeOf35 r r (.s .z) (.t (.t (.t (.t (.t .nil))))) r r (.nilS [4] r r (.drop .z (.ret (pret results30 (.w isAgg35 sizeOf35 r .z r .n) le405 ⟨r389.1, _, _, _, _, _, _, r, R397, R400, R403, hd⟩))))))))

theorem W_law02_Value {I : IH} {a0 : Int} {a1 : Int}  {Q : Int → Prop}  (hd : law02_Value a0 a1 Q) :
    PFun Tryz.prog 34 [.int .i64 a0, .int .i64 a1] I (fun I_ v => ∃ r, v = .int .i64 r ∧ Q r) := by
 refine Fun.enter func34 r ntmps34 r (.c (.c .n)) fun w0 M => ?_
 refine .seq (.region (.skips 1 r (.nilS [1, 0] r r (.seq (.region (.skips 1 r (.nilS [5, 1] r r (.block (.seq ?_)))))))))
 refine .region (.eq r r r r (.skips 1 r (.nilS [12, 5, 1] r r (.condP r hd (fun hb1 hd => ?_) fun hb1 hd => ?_))))
 · exact .seq (.region (.skips 2 r (.nilS [4] r r (.ret (pret results34 (.t r .n) (.refl _) ⟨a1, r, hd⟩)))))
 refine .seq (.region (.eq r r r r (.skips 1 r (.nilS [15, 1] r r (.condP r hd (fun hb2 hd => ?_) fun hb2 hd => ?_)))))
 · exact .seq (.region (.skips 1 r (.and r r r r (.skips 1 r (.nilS [4] r r (.ret (pret results34 (.t r .n) (.refl _) ⟨(bnd .i64 a1 1), r, hd⟩)))))))
 refine .seq (.region (.skips 1 r (.and r r r r (.sub (E' := [(15, _), (6, _), (7, _)]) ⟨r, r, r, trivial⟩ (.skips 1 r (.nilS [1] r r (.seq (.seq (.region ?_)))))))))
 refine .skips 1 r (.rem r r (by decide) r r (.eq r r r r (.nilS [10, 1] r r (.condP r hd (fun hb3 hd => ?_) fun hb3 hd => ?_))))
 · exact .seq (.region (.skips 1 r (.nilS [4] r r (.ret (pret results34 (.t r .n) (.refl _) ⟨4611686018427387904, r, hd⟩)))))
 exact .skipS [1] r r (.seq (.region (.skips 2 r (.nilS [4] r r (.ret (pret results34 (.t r .n) (.refl _) ⟨(bnd .i64 a1 4611686018427387903), r, hd⟩))))))

theorem W_law02_Factor {I : IH} {a0 : Int} {a1 : Int}  {Q : Int → Prop}  (hd : law02_Factor a0 a1 Q) :
    PFun Tryz.prog 31 [.int .i64 a0, .int .i64 a1] I (fun I_ v => ∃ r, v = .int .i64 r ∧ Q r) := by
 refine Fun.enter func31 r ntmps31 r (.c (.c .n)) fun w0 M => ?_
 refine .seq (.region (.skips 1 r (.nilS [1, 0] r r (.seq (.seq (.region (.skips 1 r (.eq r r r r (.nilS [6, 1, 0] r r ?_)))))))))
 refine .condP r hd (fun hb1 hd => ?_) fun hb1 hd => ?_
 · exact .seq (.region (.skips 1 r (.rem r r (by decide) r r (.skips 1 r (.nilS [4] r r (.ret (pret results31 (.t r .n) (.refl _) ⟨(a1.tmod 2147483648), r, hd⟩)))))))
 refine .skipS [1, 0] r r (.seq (.region (.skips 2 r ?_)))
 have hw3 := W_law02_Value (I := I) hd
 refine .callP call34 r hw3 r r fun v4 hv5 => ?_
 obtain ⟨r2, rfl, hd⟩ := hv5
 exact .skips 1 r (.nilS [4] r r (.ret (pret results31 (.t r .n) (.refl _) ⟨r2, r, hd⟩)))

theorem W_law13_Task_Matrix {I : IH} {a0 : Law13_Task} {p1 : Option Addr} {c2 : Nat} {p4 : Option Addr} {c5 : Nat} {p7 : Option Addr} {c8 : Nat} {p10 : Option Addr} {c11 : Nat} {Q : Rows → Prop} (R3 : RepSl eTriple I p1 c2 a0.L) (R6 : RepSl eItem I p4 c5 a0.X) (R9 : RepSl eItem I p7 c8 a0.Y) (R12 : RepSl eU64 I p10 c11 a0.F) (hd : law13_Task_Matrix a0 Q) :
    PFun Tryz.prog 8 [.agg #[.int .i64 a0.Ring, .int .u8 a0.Size.1, .int .u8 a0.Size.2, .slice p1 a0.L.length c2, .slice p4 a0.X.length c5, .slice p7 a0.Y.length c8, .slice p10 a0.F.length c11, .bool a0.Others]] I (fun I_ v => ∃ r p13 c14 p16 c17 p19 c20, v = .agg #[.int .i64 r.Rows, .int .i64 r.Cols, .slice p13 r.Start.length c14, .slice p16 r.Col.length c17, .slice p19 r.Val.length c20] ∧ RepSl eI64 I_ p13 c14 r.Start ∧ RepSl eI64 I_ p16 c17 r.Col ∧ RepSl eI64 I_ p19 c20 r.Val ∧ Q r) := by
 refine Fun.enter func8 r ntmps8 r (.c .n) fun w0 M => ?_
 refine .seq (.region (.boxA r r r fun b26 => ?_))
 refine .allocA zeroValue35 r r fun b28 => ?_
 refine .nilS [2, 1] r r (.seq (.region (.fieldAddr underlying28 r sizeOf23 r (o := 1) r r r (.loadA isAgg23 sizeOf23 r (.s .z) (.s (.t (.t .nil))) r r r (.fieldAddr underlying28 r sizeOf24 r (o := 3) r r r (.load1 isAgg24 r (.s .z) r r r ?_))))))
 have hw64 := W_law07_Some (I := I) R3 hd
 refine .call call30 r hw64 r r fun v53 I50 hl51 hv52 => ?_
 obtain ⟨r49, p55, c56, p58, c59, p61, c62, rfl, R57, R60, R63, hd⟩ := hv52
 have le65 := IH.le.trans (.refl _) hl51
 replace R3 := R3.mono hl51
 replace R6 := R6.mono hl51
 replace R9 := R9.mono hl51
 replace R12 := R12.mono hl51
 refine .allocA zeroValue35 r r fun b66 => ?_
 refine .storeA sizeOf35 r r .z (.t (.t (.t (.t (.t .nil))))) r r (.nilS [3, 2, 1] r r (.seq (.region (.fieldAddr underlying28 r sizeOf22 r (o := 0) r r r (.load1 isAgg22 r (.s (.s .z)) r r r ?_)))))
 have hw73 := W_law13_Right (I := I50) hd
 refine .callP call21 r hw73 r r fun v74 hv75 => ?_
 obtain ⟨r72, rfl, hd⟩ := hv75
 refine .skips 1 r (.nilS [4, 3, 2] r r (.drop (.s (.s .z)) (.seq (.region (.skips 1 r (.nilS [5, 4, 3, 2] r r (.seq (.seq (.region ?_)))))))))
 refine .skips 1 r (.nilS [6, 5, 4, 3, 2] r r (.block (.own0 eI64 2 (.loop hd (fun (s : (List Int) × Int) c w => match s with | (s134, s138) => ∃ I_ p135 c136, IH.le I50 I_ ∧ Ok ⟨35, [], none⟩ [(2, .pointer (some ⟨b28, 0, none⟩)), (3, .pointer (some ⟨b66, 0, none⟩)), (4, .int .i64 r72), (5, .slice p135 s134.length c136), (6, .int .i64 s138)] c ∧ Sym w0 M I I_ [pto b28 (.cells #[.int .i64 0, .int .i64 0, .slice none 0 0, .slice none 0 0, .slice none 0 0] 35 (0, 0)), pto b66 (.cells #[.int .i64 r49.Rows, .int .i64 r49.Cols, .slice p55 r49.Start.length c56, .slice p58 r49.Col.length c59, .slice p61 r49.Val.length c62] 35 (0, 0)), OwnSl eI64 2 p135 c136 s134] w) (fun c w ho hs => ⟨I50, _, _, (.refl _), ho.sub ⟨r, r, r, r, r, trivial⟩, hs.pick (.c (.s (.s .z)) (.c (.s .z) (.c .z .n)))⟩) ?_))))
 rintro ⟨s134, s138⟩ next140 hd c w hst
 obtain ⟨I141, p135, c136, hl142, hok, hsym⟩ := hst
 have le143 := IH.le.trans le65 hl142
 have le144 := IH.le.trans (.refl _) hl142
 replace R57 := R57.mono hl142
 replace R60 := R60.mono hl142
 replace R63 := R63.mono hl142
 refine Cod.at hok hsym (.seq (.seq (.region (.skips 1 r (.fieldAddr underlying35 r sizeOf30 r (o := 4) r r r (.load1 isAgg30 r (.s .z) r r r (.len underlying30 r r r r (.lt r r r r (.nilS [19, 6, 5, 4, 3, 2] r r ?_)))))))))
 refine .condP r hd (fun hb146 hd => ?_) fun hb146 hd => ?_
 · refine .skipS [6, 5, 4, 3, 2] r r (.seq (.block (.region (.skips 2 r (.fieldAddr underlying35 r sizeOf30 r (o := 4) r r r (.load1 isAgg30 r (.s .z) r r r (.skips 1 r ?_)))))))
   obtain ⟨h147, x148, hx149, hd⟩ := hd
   obtain ⟨b150, o151, cs152, e153, hC154, hr155⟩ := R63.2 _ _ hx149
   cases hr155
   refine .ixa underlying30 sizeOf2 r e153 r h147 (idx_lt hx149 h147) r r (.ld1 (j := 0) isAgg2 hC154 r r r r r ?_)
   have hw157 := W_law02_Factor (I := I141) hd
   refine .callP call31 r hw157 r r fun v158 hv159 => ?_
   obtain ⟨r156, rfl, hd⟩ := hv159
   refine .buildSlice 1 underlying30 sizeOf2 zeroValue2 r r (.c r r r .n) r r fun b160 => ?_
   obtain ⟨hl162, hd⟩ := hd
   refine .append (ys := [r156]) 8 (.s (.s (.s .z))) underlying30 underlying30 IN2 r r r r r r r r r (.box .z (.one r) r) hl162 r r fun p163 c164 => ?_
   exact .sub (E' := [(2, _), (3, _), (4, _), (6, _), (22, _), (23, _), (24, _), (25, _), (26, _), (27, _), (28, _), (29, _), (30, _), (31, _)]) ⟨r, r, r, r, r, r, r, r, r, r, r, r, r, r, trivial⟩ (.skips 1 r (.nilS [5, 6, 4, 3, 2] r r (.drop (.s .z) (.region (.skips 1 r (.add r r r r (.sub (E' := [(2, _), (3, _), (4, _), (5, _), (20, _), (21, _)]) ⟨r, r, r, r, r, r, trivial⟩ (.skips 1 r (.nil' fun c w ho hs => ⟨((s134 ++ ([r156])), w64 (s138 + 1)), hd, I141, _, _, le144, ho.sub ⟨r, r, r, r, r, trivial⟩, hs.pick (.c (.s .z) (.c (.s .z) (.c .z .n)))⟩)))))))))
 refine .exitS [5, 3, 2] r r (.seq (.region (.skips 1 r (.fieldAddr underlying35 r sizeOf30 r (o := 4) r r r (.store1 sizeOf30 r r (.s .z) (.s (.s (.s (.s (.t .nil))))) r (.nilS [3, 2] r r (.seq (.region (.loadW isAgg35 sizeOf35 r (.s .z) r r r ?_)))))))))
 refine .storeA sizeOf35 r r .z (.t (.t (.t (.t (.t .nil))))) r r (.nilS [2] r r (.drop (.s .z) (.pub (.s .z) fun I166 hl167 R168 => ?_)))
 have le169 := IH.le.trans le143 hl167
 have le170 := IH.le.trans le144 hl167
 replace R57 := R57.mono hl167
 replace R60 := R60.mono hl167
 exact .ret (pret results8 (.w isAgg35 sizeOf35 r .z r .n) le169 ⟨({ Rows := r49.Rows, Cols := r49.Cols, Start := r49.Start, Col := r49.Col, Val := s134 } : Rows), _, _, _, _, _, _, r, R57, R60, R168, hd⟩)

theorem W_ref09_Of {I : IH} {a0 : Int} {a1 : Int} {a2 : List Item} {p1 : Option Addr} {c2 : Nat} {Q : (Vec × Int) → Prop} (R3 : RepSl eItem I p1 c2 a2) (hd : ref09_Of a0 a1 a2 Q) :
    PFun Tryz.prog 72 [.int .i64 a0, .int .i64 a1, .slice p1 a2.length c2] I (fun I_ v => ∃ r p4 c5, v = .tuple #[.agg #[.int .i64 r.1.N, .slice p4 r.1.Items.length c5], .int .i64 r.2] ∧ RepSl eItem I_ p4 c5 r.1.Items ∧ Q r) := by
 refine Fun.enter func72 r ntmps72 r (.c (.c (.c .n))) fun w0 M => ?_
 refine .seq (.region (.allocA zeroValue38 r r fun b9 => ?_))
 refine .skips 1 r (.nilS [6, 2, 1, 0] r r (.seq (.seq (.region (.skips 1 r ?_)))))
 have hw17 := W_ref02_Is (I := I) hd
 refine .callP call81 r hw17 r r fun v18 hv19 => ?_
 obtain ⟨r16, rfl, hd⟩ := hv19
 refine .not r r r (.nilS [15, 6, 2, 1, 0] r r (.condP r hd (fun hb20 hd => ?_) fun hb20 hd => ?_))
 · exact .seq (.region (.build zeroValue38 underlying38 BI38 .n (by exact trivial) r r (.storeA sizeOf38 r r .z (.t (.t .nil)) r r (.skips 1 r (.nilS [7, 6] r r (.ret (pret results72 (.w isAgg38 sizeOf38 r .z r (.t r .n)) (.refl _) ⟨(({ N := 0, Items := ([] : List Item) } : Vec), 8), _, _, r, (.nil _ _ _), hd⟩)))))))
 refine .skipS [6, 2, 1, 0] r r (.seq (.seq (.region (.skips 1 r (.lt r r r r (.skips 1 r ?_))))))
 refine splitP hd (fun hb23 hd => ?_) fun hb23 hd => ?_
 · rw [hb23]
   exact .skips 3 r (.nilS [22, 6, 2, 1, 0] r r (.condKT r r (.seq (.region (.build zeroValue38 underlying38 BI38 .n (by exact trivial) r r (.storeA sizeOf38 r r .z (.t (.t .nil)) r r (.skips 1 r (.nilS [7, 6] r r (.ret (pret results72 (.w isAgg38 sizeOf38 r .z r (.t r .n)) (.refl _) ⟨(({ N := 0, Items := ([] : List Item) } : Vec), 3), _, _, r, (.nil _ _ _), hd⟩))))))))))
 rw [hb23]
 refine .gyes r r r (.move r r r (.gyes r r r (.gt r r r r (.skips 1 r (.nilS [22, 6, 2, 1, 0] r r (.condP r hd (fun hb24 hd => ?_) fun hb24 hd => ?_))))))
 · exact .seq (.region (.build zeroValue38 underlying38 BI38 .n (by exact trivial) r r (.storeA sizeOf38 r r .z (.t (.t .nil)) r r (.skips 1 r (.nilS [7, 6] r r (.ret (pret results72 (.w isAgg38 sizeOf38 r .z r (.t r .n)) (.refl _) ⟨(({ N := 0, Items := ([] : List Item) } : Vec), 3), _, _, r, (.nil _ _ _), hd⟩)))))))
 refine .skipS [6, 2, 1, 0] r r (.seq (.region (.skips 1 r (.nilS [8, 6, 2, 1, 0] r r (.seq (.seq (.region (.skips 1 r (.nilS [9, 8, 6, 2, 1, 0] r r ?_)))))))))
 refine .block (.own0 eEdge 139 (.loop hd (fun (s : (List Edge) × Int) c w => match s with | (s400, s404) => ∃ I_ p401 c402, IH.le I I_ ∧ Ok ⟨95, [], none⟩ [(0, .int .i64 a0), (1, .int .i64 a1), (2, .slice p1 a2.length c2), (6, .pointer (some ⟨b9, 0, none⟩)), (8, .slice p401 s400.length c402), (9, .int .i64 s404)] c ∧ Sym w0 M I I_ [pto b9 (.cells #[.int .i64 0, .slice none 0 0] 38 (0, 0)), OwnSl eEdge 139 p401 c402 s400] w) (fun c w ho hs => ⟨I, _, _, (.refl _), ho.sub ⟨r, r, r, r, r, r, trivial⟩, hs.pick (.c (.s .z) (.c .z .n))⟩) ?_))
 rintro ⟨s400, s404⟩ next406 hd c w hst
 obtain ⟨I407, p401, c402, hl408, hok, hsym⟩ := hst
 have le409 := IH.le.trans (.refl _) hl408
 replace R3 := R3.mono hl408
 refine Cod.at hok hsym (.seq (.seq (.region (.skips 2 r (.len underlying25 r r r r (.lt r r r r (.nilS [27, 9, 8, 6, 2, 1, 0] r r (.condP r hd (fun hb411 hd => ?_) fun hb411 hd => ?_))))))))
 · refine .skipS [9, 8, 6, 2, 1, 0] r r (.seq (.block (.seq (.seq (.region (.skips 2 r ?_))))))
   obtain ⟨h432, x433, hx434, hd⟩ := hd
   obtain ⟨b435, o436, cs437, e438, hC439, hr440⟩ := R3.2 _ _ hx434
   cases hr440
   refine .ixa underlying25 sizeOf67 r e438 r h432 (idx_lt hx434 h432) r r (.fieldAddr underlying67 r sizeOf3 r (o := o436 + s404.toNat * 2) r r r (.ld1 (j := 0) isAgg3 hC439 r r r r r (.lt r r r r (.skips 1 r ?_))))
   refine splitP hd (fun hb441 hd => ?_) fun hb441 hd => ?_
   · rw [hb441]
     refine .skips 8 r (.nilS [44, 9, 8, 6, 2, 1, 0] r r (.condKT r r (.seq (.region (.build zeroValue38 underlying38 BI38 .n (by exact trivial) r r (.storeA sizeOf38 r r .z (.t (.t .nil)) r r (.skips 1 r (.nilS [7, 6] r r (.drop (.s .z) ?_)))))))))
     exact .ret (pret results72 (.w isAgg38 sizeOf38 r .z r (.t r .n)) le409 ⟨(({ N := 0, Items := ([] : List Item) } : Vec), 3), _, _, r, (.nil _ _ _), hd⟩)
   rw [hb441]
   refine .gyes r r r (.move r r r (.gyes r r r (.move r r r ?_)))
   obtain ⟨h442, x443, hx444, hd⟩ := hd
   obtain ⟨b445, o446, cs447, e448, hC449, hr450⟩ := R3.2 _ _ hx444
   cases hr450
   refine .gyes r r r (.ixa underlying25 sizeOf67 r e448 r h442 (idx_lt hx444 h442) r r (.gyes r r r (.fieldAddr underlying67 r sizeOf3 r (o := o446 + s404.toNat * 2) r r r (.gyes r r r (.ld1 (j := 0) isAgg3 hC449 r r r r r (.gyes r r r (.move r r r (.gyes r r r (.ge r r r r (.skips 1 r (.nilS [44, 9, 8, 6, 2, 1, 0] r r (.condP r hd (fun hb451 hd => ?_) fun hb451 hd => ?_))))))))))))
   · exact .seq (.region (.build zeroValue38 underlying38 BI38 .n (by exact trivial) r r (.storeA sizeOf38 r r .z (.t (.t .nil)) r r (.skips 1 r (.nilS [7, 6] r r (.drop (.s .z) (.ret (pret results72 (.w isAgg38 sizeOf38 r .z r (.t r .n)) le409 ⟨(({ N := 0, Items := ([] : List Item) } : Vec), 3), _, _, r, (.nil _ _ _), hd⟩))))))))
   refine .skipS [9, 8, 6, 2, 1, 0] r r (.ownF (.s .z) fun hne452 => ?_)
   refine .draw [some 0, some 1, some 2, some 3, some 4, some 5, some 6, some 7, some 8, some 9, some 10, some 11, some 12, some 13] 14 MX (by kernel_rfl) (by kernel_rfl) (by kernel_rfl) (by kernel_rfl) (by kernel_rfl) (by kernel_rfl) (by kernel_rfl) (fun ex => (pto b9 (.cells #[.int .i64 0, .slice none 0 0] 38 (0, 0))) :: (OwnSl eEdge 139 p401 c402 s400) :: ex) (fun _ _ => (.s (.s .z))) r (.fs [[], [], []] r (by kernel_rfl) ?_)
   obtain ⟨h453, x454, hx455, hd⟩ := hd
   obtain ⟨b456, o457, cs458, e459, hC460, hr461⟩ := R3.2 _ _ hx455
   cases hr461
   refine .f [1, 2] r (by kernel_rfl) r r (fun ex => .ixa underlying25 sizeOf67 r e459 r h453 (idx_lt hx455 h453) r r .mk) (.f [3] r (by kernel_rfl) r r (fun ex => .fieldAddr underlying67 r sizeOf3 r (o := o457 + s404.toNat * 2) r r r .mk) (.f [4] r (by kernel_rfl) r r (fun ex => .ld1 (j := 0) isAgg3 hC460 r r r r r .mk) (.fs [[], []] r (by kernel_rfl) ?_)))
   obtain ⟨h462, x463, hx464, hd⟩ := hd
   obtain ⟨b465, o466, cs467, e468, hC469, hr470⟩ := R3.2 _ _ hx464
   cases hr470
   refine .f [6, 7] r (by kernel_rfl) r r (fun ex => .ixa underlying25 sizeOf67 r e468 r h462 (idx_lt hx464 h462) r r .mk) (.f [8] r (by kernel_rfl) r r (fun ex => .fieldAddr underlying67 r sizeOf2 r (o := o466 + s404.toNat * 2 + 1) r r r .mk) (.f [9] r (by kernel_rfl) r r (fun ex => .ld1 (j := 1) isAgg2 hC469 r r r r r .mk) (.f [5, 10] r (by kernel_rfl) r r (fun ex => .build zeroValue139 underlying139 BI139 (.c r r r (.s (.t .nil)) (.c r r r (.s (.s (.t .nil))) .n)) (by exact ⟨⟨_, _, r, r, r⟩, ⟨⟨_, _, r, r, r⟩, trivial⟩⟩) r r .mk) (.w [0] [[], [11], [10, 11], [9, 10, 11], [8, 9, 10, 11], [8, 9, 10, 11], [11], [5, 11], [4, 5, 11], [3, 4, 5, 11], [3, 4, 5, 11]] [11] r (by kernel_rfl) (by kernel_rfl) (by kernel_rfl) ((dropE_kept r r)) (.inr (dropE_kept r r)) fun ex => ?_))))
   refine .buildSlice 1 underlying137 sizeOf139 zeroValue139 r r (.c r r r .n) r r fun b471 => ?_
   refine .some (fun ex => (pto b471 (.cells #[.int .i64 0, .int .i64 x454.At, .int .i64 x463.Val] 139 (0, 0))) :: (pto b9 (.cells #[.int .i64 0, .slice none 0 0] 38 (0, 0))) :: (OwnSl eEdge 139 p401 c402 s400) :: ex) r (fun _ _ => (.s (.s (.s .z)))) r (.ccs [[]] r r (by kernel_rfl) trivial) (.w [] [[]] [0, 12] r (by kernel_rfl) (by kernel_rfl) (by kernel_rfl) ((dropE_kept r r)) (.inr (dropE_kept r r)) fun ex => ?_)
   obtain ⟨hl473, hd⟩ := hd
   refine .append (ys := [({ From := 0, To := x454.At, W := x463.Val } : Edge)]) 24 (.s (.s .z)) underlying137 underlying137 IN139 r r r r r r r r r (.box .z (.one r) r) hl473 r r fun p474 c475 => ?_
   refine .some (fun ex => (OwnSl eEdge 139 p474 c475 (s400 ++ ([({ From := 0, To := x454.At, W := x463.Val } : Edge)]))) :: (pto b471 (.cells #[.int .i64 0, .int .i64 x454.At, .int .i64 x463.Val] 139 (0, 0))) :: (pto b9 (.cells #[.int .i64 0, .slice none 0 0] 38 (0, 0))) :: ex) r (fun _ _ => (.s (.s (.s .z)))) r trivial (.e 14 (by kernel_rfl) (by kernel_rfl) (by kernel_rfl) (.sub (E' := [(0, _), (1, _), (2, _), (6, _), (9, _), (46, _), (47, _), (48, _), (49, _), (50, _), (51, _), (52, _), (53, _), (54, _), (55, _), (56, _), (57, _), (58, _), (59, _)]) ⟨r, r, r, r, r, r, r, r, r, r, r, r, r, r, r, r, r, r, r, trivial⟩ (.skips 1 r (.nilS [8, 9, 6, 2, 1, 0] r r (.drop (.s .z) (.region (.skips 1 r (.add r r r r (.sub (E' := [(0, _), (1, _), (2, _), (6, _), (8, _), (28, _), (29, _)]) ⟨r, r, r, r, r, r, r, trivial⟩ ?_)))))))))
   exact .skips 1 r (.nil' fun c w ho hs => ⟨((s400 ++ ([({ From := 0, To := x454.At, W := x463.Val } : Edge)])), w64 (s404 + 1)), hd, I407, _, _, le409, ho.sub ⟨r, r, r, r, r, r, trivial⟩, hs.pick (.c (.s .z) (.c .z .n))⟩)
 refine .exitS [8, 6, 1, 0] r r (.seq (.region (.skips 2 r (.pub (.s .z) fun I492 hl493 R494 => ?_))))
 have le495 := IH.le.trans le409 hl493
 have hw505 := W_ref05_Combine (I := I492) R494 hd
 refine .call call94 r hw505 r r fun v500 I497 hl498 hv499 => ?_
 obtain ⟨r496, p502, c503, rfl, R504, hd⟩ := hv499
 have le506 := IH.le.trans le495 hl498
 replace R494 := R494.mono hl498
 refine .skips 1 r (.extract r r r r (.extract r r r r (.sub (E' := [(0, _), (1, _), (6, _), (61, _), (62, _), (63, _), (60, _), (64, _), (65, _)]) ⟨r, r, r, r, r, r, r, r, r, trivial⟩ (.skips 2 r (.nilS [10, 8, 6, 1] r r (.seq (.seq (.region (.skips 1 r ?_)))))))))
 refine .ne r r r r (.nilS [67, 10, 8, 6, 1] r r (.condP r hd (fun hb508 hd => ?_) fun hb508 hd => ?_))
 · exact .seq (.region (.build zeroValue38 underlying38 BI38 .n (by exact trivial) r r (.skips 1 r (.storeA sizeOf38 r r .z (.t (.t .nil)) r r (.skips 1 r (.nilS [7, 6] r r (.ret (pret results72 (.w isAgg38 sizeOf38 r .z r (.t r .n)) le506 ⟨(({ N := 0, Items := ([] : List Item) } : Vec), r496.2), _, _, r, (.nil _ _ _), hd⟩))))))))
 refine .skipS [8, 6, 1] r r (.seq (.region (.skips 1 r (.build zeroValue38 underlying38 BI38 (.c r r r (.t .nil) .n) (by exact ⟨⟨_, _, r, r, r⟩, trivial⟩) r r (.allocA zeroValue38 r r fun b511 => ?_)))))
 refine .storeA sizeOf38 r r .z (.t (.t .nil)) r r (.nilS [11, 8, 6] r r (.seq (.seq (.region (.skips 1 r (.nilS [12, 11, 8, 6] r r (.block (.own0 eItem 67 (.loop hd (fun (s : (List Item) × Int) c w => match s with | (s582, s586) => ∃ I_ p583 c584, IH.le I497 I_ ∧ Ok ⟨95, [], none⟩ [(6, .pointer (some ⟨b9, 0, none⟩)), (8, .slice p502 r496.1.length c503), (11, .pointer (some ⟨b511, 0, none⟩)), (12, .int .i64 s586)] c ∧ Sym w0 M I I_ [pto b9 (.cells #[.int .i64 0, .slice none 0 0] 38 (0, 0)), pto b511 (.cells #[.int .i64 a1, .slice p583 s582.length c584] 38 (0, 0)), OwnSl eItem 67 p583 c584 s582] w) (fun c w ho hs => ⟨I497, _, _, (.refl _), ho.sub ⟨r, r, r, r, trivial⟩, hs.pick (.c (.s (.s .z)) (.c (.s .z) (.c .z .n)))⟩) ?_)))))))))
 rintro ⟨s582, s586⟩ next588 hd c w hst
 obtain ⟨I589, p583, c584, hl590, hok, hsym⟩ := hst
 have le591 := IH.le.trans le506 hl590
 have le592 := IH.le.trans (.refl _) hl590
 replace R504 := R504.mono hl590
 refine Cod.at hok hsym (.seq (.seq (.region (.skips 2 r (.len underlying137 r r r r (.lt r r r r (.nilS [75, 12, 11, 8, 6] r r (.condP r hd (fun hb594 hd => ?_) fun hb594 hd => ?_))))))))
 · refine .skipS [12, 11, 8, 6] r r (.seq (.block (.ownF (.s (.s .z)) fun hne595 => ?_)))
   refine .draw [some 0, some 1, some 2, some 3, some 4, some 5, some 6, some 7, some 8, some 9, some 10, some 11, some 12, some 13, some 14] 15 MX (by kernel_rfl) (by kernel_rfl) (by kernel_rfl) (by kernel_rfl) (by kernel_rfl) (by kernel_rfl) (by kernel_rfl) (fun ex => (pto b9 (.cells #[.int .i64 0, .slice none 0 0] 38 (0, 0))) :: (pto b511 (.cells #[.int .i64 a1, .slice p583 s582.length c584] 38 (0, 0))) :: (OwnSl eItem 67 p583 c584 s582) :: ex) (fun _ _ => (.s (.s (.s .z)))) r (.f [] r (by kernel_rfl) r r (fun ex => .fieldAddr underlying38 r sizeOf25 r (o := 1) r r r .mk) (.f [0] r (by kernel_rfl) r r (fun ex => .load1 isAgg25 r (.s .z) r r r .mk) (.fs [[], []] r (by kernel_rfl) ?_)))
   obtain ⟨h596, x597, hx598, hd⟩ := hd
   obtain ⟨b599, o600, cs601, e602, hC603, hr604⟩ := R504.2 _ _ hx598
   cases hr604
   refine .f [2, 3] r (by kernel_rfl) r r (fun ex => .ixa underlying137 sizeOf139 r e602 r h596 (idx_lt hx598 h596) r r .mk) (.f [4] r (by kernel_rfl) r r (fun ex => .fieldAddr underlying139 r sizeOf3 r (o := o600 + s586.toNat * 3 + 1) r r r .mk) (.f [5] r (by kernel_rfl) r r (fun ex => .ld1 (j := 1) isAgg3 hC603 r r r r r .mk) (.fs [[], []] r (by kernel_rfl) ?_)))
   obtain ⟨h605, x606, hx607, hd⟩ := hd
   obtain ⟨b608, o609, cs610, e611, hC612, hr613⟩ := R504.2 _ _ hx607
   cases hr613
   refine .f [7, 8] r (by kernel_rfl) r r (fun ex => .ixa underlying137 sizeOf139 r e611 r h605 (idx_lt hx607 h605) r r .mk) (.f [9] r (by kernel_rfl) r r (fun ex => .fieldAddr underlying139 r sizeOf2 r (o := o609 + s586.toNat * 3 + 2) r r r .mk) (.f [10] r (by kernel_rfl) r r (fun ex => .ld1 (j := 2) isAgg2 hC612 r r r r r .mk) (.f [6, 11] r (by kernel_rfl) r r (fun ex => .build zeroValue67 underlying67 BI67 (.c r r r (.t .nil) (.c r r r (.s (.t .nil)) .n)) (by exact ⟨⟨_, _, r, r, r⟩, ⟨⟨_, _, r, r, r⟩, trivial⟩⟩) r r .mk) (.w [1, 0] [[], [12], [11, 12], [10, 11, 12], [9, 10, 11, 12], [9, 10, 11, 12], [12], [6, 12], [5, 6, 12], [4, 5, 6, 12], [4, 5, 6, 12]] [12] r (by kernel_rfl) (by kernel_rfl) (by kernel_rfl) ((dropE_kept r r)) (.inr (dropE_kept r r)) fun ex => ?_))))
   refine .buildSlice 1 underlying25 sizeOf67 zeroValue67 r r (.c r r r .n) r r fun b614 => ?_
   refine .some (fun ex => (pto b614 (.cells #[.int .i64 x597.To, .int .i64 x606.W] 67 (0, 0))) :: (pto b9 (.cells #[.int .i64 0, .slice none 0 0] 38 (0, 0))) :: (pto b511 (.cells #[.int .i64 a1, .slice p583 s582.length c584] 38 (0, 0))) :: (OwnSl eItem 67 p583 c584 s582) :: ex) r (fun _ _ => (.s (.s (.s (.s .z))))) r (.cc [0] r (by kernel_rfl) r r r (fun ex => .load1 isAgg25 r (.s (.s .z)) r r r .mk) (.cc [] r (by kernel_rfl) r r r (fun ex => .fieldAddr underlying38 r sizeOf25 r (o := 1) r r r .mk) trivial)) (.w [] [[], [1]] [1, 13] r (by kernel_rfl) (by kernel_rfl) (by kernel_rfl) ((dropE_kept r r)) (.inr (dropE_kept r r)) fun ex => ?_)
   obtain ⟨hl616, hd⟩ := hd
   refine .append (ys := [({ At := x597.To, Val := x606.W } : Item)]) 16 (.s (.s (.s .z))) underlying25 underlying25 IN67 r r r r r r r r r (.box .z (.one r) r) hl616 r r fun p617 c618 => ?_
   refine .some (fun ex => (OwnSl eItem 67 p617 c618 (s582 ++ ([({ At := x597.To, Val := x606.W } : Item)]))) :: (pto b614 (.cells #[.int .i64 x597.To, .int .i64 x606.W] 67 (0, 0))) :: (pto b9 (.cells #[.int .i64 0, .slice none 0 0] 38 (0, 0))) :: (pto b511 (.cells #[.int .i64 a1, .slice p583 s582.length c584] 38 (0, 0))) :: ex) r (fun _ _ => (.s (.s (.s (.s .z))))) r trivial (.e 15 (by kernel_rfl) (by kernel_rfl) (by kernel_rfl) (.fieldAddr underlying38 r sizeOf25 r (o := 1) r r r (.store1 sizeOf25 r r (.s (.s (.s .z))) (.s (.t .nil)) r (.nilS [12, 11, 8, 6] r r (.drop (.s .z) (.region (.skips 1 r (.add r r r r (.sub (E' := [(6, _), (8, _), (11, _), (76, _), (77, _)]) ⟨r, r, r, r, r, trivial⟩ ?_)))))))))
   exact .skips 1 r (.nil' fun c w ho hs => ⟨((s582 ++ ([({ At := x597.To, Val := x606.W } : Item)])), w64 (s586 + 1)), hd, I589, _, _, le592, ho.sub ⟨r, r, r, r, trivial⟩, hs.pick (.c (.s .z) (.c (.s .z) (.c .z .n)))⟩)
 refine .exitS [11, 6] r r (.seq (.region (.loadW isAgg38 sizeOf38 r (.s .z) r r r (.storeA sizeOf38 r r .z (.t (.t .nil)) r r (.skips 1 r (.nilS [7, 6] r r (.drop (.s .z) (.pub (.s .z) fun I620 hl621 R622 => ?_))))))))
 have le623 := IH.le.trans le591 hl621
 have le624 := IH.le.trans le592 hl621
 exact .ret (pret results72 (.w isAgg38 sizeOf38 r .z r (.t r .n)) le623 ⟨(({ N := a1, Items := s582 } : Vec), 0), _, _, r, R622, hd⟩)

theorem W_law09_Some {I : IH} {a0 : Int} {a1 : List Item} {p1 : Option Addr} {c2 : Nat} {Q : Vec → Prop} (R3 : RepSl eItem I p1 c2 a1) (hd : law09_Some a0 a1 Q) :
    PFun Tryz.prog 32 [.int .u8 a0, .slice p1 a1.length c2] I (fun I_ v => ∃ r p4 c5, v = .agg #[.int .i64 r.N, .slice p4 r.Items.length c5] ∧ RepSl eItem I_ p4 c5 r.Items ∧ Q r) := by
 refine Fun.enter func32 r ntmps32 r (.c (.c .n)) fun w0 M => ?_
 refine .seq (.region (.allocA zeroValue38 r r fun b9 => ?_))
 refine .nilS [4, 1, 0] r r (.seq (.region (.skips 1 r (.conv underlying5 underlying3 r r r (.rem r r (by decide) r r (.skips 1 r (.nilS [5, 4, 1] r r (.seq (.region ?_)))))))))
 refine .skips 1 r (.nilS [6, 5, 4, 1] r r (.seq ?_))
 refine Cod.joinQ (σ := (List Item)) hd (fun (s363 : (List Item)) c w => ∃ I_ p364 c365, IH.le I I_ ∧ Ok ⟨56, [], none⟩ [(4, .pointer (some ⟨b9, 0, none⟩)), (5, .int .i64 ((w64 (a0)).tmod 60)), (6, .slice p364 s363.length c365)] c ∧ Sym w0 M I I_ [pto b9 (.cells #[.int .i64 0, .slice none 0 0] 38 (0, 0)), OwnSl eItem 67 p364 c365 s363] w) (fun k367 hd => ?_) ?_
 · skip
   refine .seq (.region (.skips 1 r (.nilS [7, 6, 5, 4, 1] r r (.block (.own0 eItem 67 (.loop hd (fun (s : (List Item) × Int) c w => match s with | (s483, s487) => ∃ I_ p484 c485, IH.le I I_ ∧ Ok ⟨56, [], none⟩ [(1, .slice p1 a1.length c2), (4, .pointer (some ⟨b9, 0, none⟩)), (5, .int .i64 ((w64 (a0)).tmod 60)), (6, .slice p484 s483.length c485), (7, .int .i64 s487)] c ∧ Sym w0 M I I_ [pto b9 (.cells #[.int .i64 0, .slice none 0 0] 38 (0, 0)), OwnSl eItem 67 p484 c485 s483] w) (fun c w ho hs => ⟨I, _, _, (.refl _), ho.sub ⟨r, r, r, r, r, trivial⟩, hs.pick (.c (.s .z) (.c .z .n))⟩) ?_))))))
   rintro ⟨s483, s487⟩ next489 hd c w hst
   obtain ⟨I490, p484, c485, hl491, hok, hsym⟩ := hst
   have le492 := IH.le.trans (.refl _) hl491
   replace R3 := R3.mono hl491
   refine Cod.at hok hsym (.seq (.seq (.region (.skips 2 r (.len underlying25 r r r r (.lt r r r r (.skips 1 r ?_)))))))
   refine splitP hd (fun hb496 hd => ?_) fun hb496 hd => ?_
   · rw [hb496]
     refine .gyes r r r (.move r r r (.gyes r r r (.lt r r r r (.skips 2 r ?_))))
     refine splitP hd (fun hb497 hd => ?_) fun hb497 hd => ?_
     · rw [hb497]
       refine .gyes r r r (.move r r r (.gyes r r r (.gt r r r r (.skips 1 r (.nilS [24, 7, 6, 5, 4, 1] r r (.condP r hd (fun hb498 hd => ?_) fun hb498 hd => ?_))))))
       · refine .skipS [7, 6, 5, 4, 1] r r (.seq (.block (.seq (.region (.skips 2 r ?_)))))
         obtain ⟨h508, x509, hx510, hd⟩ := hd
         obtain ⟨b511, o512, cs513, e514, hC515, hr516⟩ := R3.2 _ _ hx510
         cases hr516
         refine .ixa underlying25 sizeOf67 r e514 r h508 (idx_lt hx510 h508) r r (.fieldAddr underlying67 r sizeOf3 r (o := o512 + s487.toNat * 2) r r r (.ld1 (j := 0) isAgg3 hC515 r r r r r (.ge r r r r (.nilS [32, 7, 6, 5, 4, 1] r r (.condP r hd (fun hb517 hd => ?_) fun hb517 hd => ?_)))))
         · refine .ownF (.s .z) fun hne518 => ?_
           refine .draw [some 0, some 1, some 2, some 3, some 4, some 5, some 6, some 7, some 8, some 9, some 10, some 11, some 12, some 13, some 14, some 15] 16 MX (by kernel_rfl) (by kernel_rfl) (by kernel_rfl) (by kernel_rfl) (by kernel_rfl) (by kernel_rfl) (by kernel_rfl) (fun ex => (pto b9 (.cells #[.int .i64 0, .slice none 0 0] 38 (0, 0))) :: (OwnSl eItem 67 p484 c485 s483) :: ex) (fun _ _ => (.s (.s .z))) r (.fs [[], [], []] r (by kernel_rfl) ?_)
           obtain ⟨h519, x520, hx521, hd⟩ := hd
           obtain ⟨b522, o523, cs524, e525, hC526, hr527⟩ := R3.2 _ _ hx521
           cases hr527
           refine .f [1, 2] r (by kernel_rfl) r r (fun ex => .ixa underlying25 sizeOf67 r e525 r h519 (idx_lt hx521 h519) r r .mk) (.f [3] r (by kernel_rfl) r r (fun ex => .fieldAddr underlying67 r sizeOf3 r (o := o523 + s487.toNat * 2) r r r .mk) (.f [4] r (by kernel_rfl) r r (fun ex => .ld1 (j := 0) isAgg3 hC526 r r r r r .mk) (.fs [[]] r (by kernel_rfl) ?_)))
           obtain ⟨hz528, hd⟩ := hd
           refine .f [5, 6] r (by kernel_rfl) r r (fun ex => .rem r r hz528 r r .mk) (.fs [[], []] r (by kernel_rfl) ?_)
           obtain ⟨h529, x530, hx531, hd⟩ := hd
           obtain ⟨b532, o533, cs534, e535, hC536, hr537⟩ := R3.2 _ _ hx531
           cases hr537
           refine .f [8, 9] r (by kernel_rfl) r r (fun ex => .ixa underlying25 sizeOf67 r e535 r h529 (idx_lt hx531 h529) r r .mk) (.f [10] r (by kernel_rfl) r r (fun ex => .fieldAddr underlying67 r sizeOf2 r (o := o533 + s487.toNat * 2 + 1) r r r .mk) (.f [11] r (by kernel_rfl) r r (fun ex => .ld1 (j := 1) isAgg2 hC536 r r r r r .mk) (.f [7, 12] r (by kernel_rfl) r r (fun ex => .build zeroValue67 underlying67 BI67 (.c r r r (.t .nil) (.c r r r (.s (.t .nil)) .n)) (by exact ⟨⟨_, _, r, r, r⟩, ⟨⟨_, _, r, r, r⟩, trivial⟩⟩) r r .mk) (.w [0] [[], [13], [12, 13], [11, 12, 13], [10, 11, 12, 13], [10, 11, 12, 13], [13], [7, 13], [7, 13], [5, 7, 13], [4, 5, 7, 13], [3, 4, 5, 7, 13], [3, 4, 5, 7, 13]] [13] r (by kernel_rfl) (by kernel_rfl) (by kernel_rfl) ((dropE_kept r r)) (.inr (dropE_kept r r)) fun ex => ?_))))
           refine .buildSlice 1 underlying25 sizeOf67 zeroValue67 r r (.c r r r .n) r r fun b538 => ?_
           refine .some (fun ex => (pto b538 (.cells #[.int .i64 (x520.At.tmod ((w64 (a0)).tmod 60)), .int .i64 x530.Val] 67 (0, 0))) :: (pto b9 (.cells #[.int .i64 0, .slice none 0 0] 38 (0, 0))) :: (OwnSl eItem 67 p484 c485 s483) :: ex) r (fun _ _ => (.s (.s (.s .z)))) r (.ccs [[]] r r (by kernel_rfl) trivial) (.w [] [[]] [0, 14] r (by kernel_rfl) (by kernel_rfl) (by kernel_rfl) ((dropE_kept r r)) (.inr (dropE_kept r r)) fun ex => ?_)
           obtain ⟨hl540, hd⟩ := hd
           refine .append (ys := [({ At := x520.At.tmod ((w64 (a0)).tmod 60), Val := x530.Val } : Item)]) 16 (.s (.s .z)) underlying25 underlying25 IN67 r r r r r r r r r (.box .z (.one r) r) hl540 r r fun p541 c542 => ?_
           refine .some (fun ex => (OwnSl eItem 67 p541 c542 (s483 ++ ([({ At := x520.At.tmod ((w64 (a0)).tmod 60), Val := x530.Val } : Item)]))) :: (pto b538 (.cells #[.int .i64 (x520.At.tmod ((w64 (a0)).tmod 60)), .int .i64 x530.Val] 67 (0, 0))) :: (pto b9 (.cells #[.int .i64 0, .slice none 0 0] 38 (0, 0))) :: ex) r (fun _ _ => (.s (.s (.s .z)))) r trivial (.e 16 (by kernel_rfl) (by kernel_rfl) (by kernel_rfl) (.sub (E' := [(1, _), (4, _), (5, _), (7, _), (32, _), (33, _), (34, _), (35, _), (36, _), (37, _), (38, _), (39, _), (40, _), (41, _), (42, _), (43, _), (44, _), (45, _), (46, _), (47, _), (48, _)]) ⟨r, r, r, r, r, r, r, r, r, r, r, r, r, r, r, r, r, r, r, r, r, trivial⟩ (.skips 1 r (.nilS [6, 7, 5, 4, 1] r r (.drop (.s .z) (.region (.skips 1 r (.add r r r r (.sub (E' := [(1, _), (4, _), (5, _), (6, _), (25, _), (26, _)]) ⟨r, r, r, r, r, r, trivial⟩ ?_)))))))))
           exact .skips 1 r (.nil' fun c w ho hs => ⟨((s483 ++ ([({ At := x520.At.tmod ((w64 (a0)).tmod 60), Val := x530.Val } : Item)])), w64 (s487 + 1)), hd, I490, _, _, le492, ho.sub ⟨r, r, r, r, r, trivial⟩, hs.pick (.c (.s .z) (.c .z .n))⟩)
         exact .skipS [7, 6, 5, 4, 1] r r (.region (.skips 1 r (.add r r r r (.sub (E' := [(1, _), (4, _), (5, _), (6, _), (25, _), (26, _)]) ⟨r, r, r, r, r, r, trivial⟩ (.skips 1 r (.nil' fun c w ho hs => ⟨(s483, w64 (s487 + 1)), hd, I490, _, _, le492, ho.sub ⟨r, r, r, r, r, trivial⟩, hs.pick (.c .z (.c .z .n))⟩))))))
       exact .exit fun c w ho hs => ⟨s483, hd, I490, _, _, le492, ho.sub ⟨r, r, r, trivial⟩, hs.pick (.c .z (.c .z .n))⟩
     rw [hb497]
     exact .skips 3 r (.nilS [24, 7, 6, 5, 4, 1] r r (.condKF r r (.exit fun c w ho hs => ⟨s483, hd, I490, _, _, le492, ho.sub ⟨r, r, r, trivial⟩, hs.pick (.c .z (.c .z .n))⟩)))
   rw [hb496]
   exact .skips 7 r (.nilS [24, 7, 6, 5, 4, 1] r r (.condKF r r (.exit fun c w ho hs => ⟨s483, hd, I490, _, _, le492, ho.sub ⟨r, r, r, trivial⟩, hs.pick (.c .z (.c .z .n))⟩)))
 rintro s363 hd c w hst
 obtain ⟨I544, p364, c365, hl545, hok, hsym⟩ := hst
 have le546 := IH.le.trans (.refl _) hl545
 refine Cod.at hok hsym (.seq (.region (.skips 2 r (.pub (.s .z) fun I547 hl548 R549 => ?_))))
 have le550 := IH.le.trans le546 hl548
 have hw560 := W_ref09_Of (I := I547) R549 hd
 refine .call call72 r hw560 r r fun v555 I552 hl553 hv554 => ?_
 obtain ⟨r551, p557, c558, rfl, R559, hd⟩ := hv554
 have le561 := IH.le.trans le550 hl553
 replace R549 := R549.mono hl553
 refine .skips 1 r (.extract r r r r (.extract r r r r (.allocA zeroValue38 r r fun b562 => ?_)))
 exact .storeA sizeOf38 r r .z (.t (.t .nil)) r r (.skips 1 r (.nilS [8, 4] r r (.seq (.region (.loadW isAgg38 sizeOf38 r .z r r r (.storeA sizeOf38 r r (.s .z) (.t (.t .nil)) r r (.nilS [4] r r (.drop .z (.ret (pret results32 (.w isAgg38 sizeOf38 r .z r .n) le561 ⟨r551.1, _, _, r, R559, hd⟩))))))))))

theorem W_law13_Task_Vector {I : IH} {a0 : Law13_Task} {a1 : List Item} {p1 : Option Addr} {c2 : Nat} {p4 : Option Addr} {c5 : Nat} {p7 : Option Addr} {c8 : Nat} {p10 : Option Addr} {c11 : Nat} {p13 : Option Addr} {c14 : Nat} {Q : Vec → Prop} (R3 : RepSl eTriple I p1 c2 a0.L) (R6 : RepSl eItem I p4 c5 a0.X) (R9 : RepSl eItem I p7 c8 a0.Y) (R12 : RepSl eU64 I p10 c11 a0.F) (R15 : RepSl eItem I p13 c14 a1) (hd : law13_Task_Vector a0 a1 Q) :
    PFun Tryz.prog 9 [.agg #[.int .i64 a0.Ring, .int .u8 a0.Size.1, .int .u8 a0.Size.2, .slice p1 a0.L.length c2, .slice p4 a0.X.length c5, .slice p7 a0.Y.length c8, .slice p10 a0.F.length c11, .bool a0.Others], .slice p13 a1.length c14] I (fun I_ v => ∃ r p16 c17, v = .agg #[.int .i64 r.N, .slice p16 r.Items.length c17] ∧ RepSl eItem I_ p16 c17 r.Items ∧ Q r) := by
 refine Fun.enter func9 r ntmps9 r (.c (.c .n)) fun w0 M => ?_
 refine .seq (.region (.boxA r r r fun b23 => ?_))
 refine .allocA zeroValue38 r r fun b25 => ?_
 refine .nilS [4, 2, 1] r r (.seq (.region (.fieldAddr underlying28 r sizeOf23 r (o := 1) r r r (.ixArr (i := 1) underlying23 sizeOf5 r r (by decide) (o := 2) r r r (.load1 isAgg5 r (.s .z) r r r ?_)))))
 have hw45 := W_law07_Size (I := I) hd
 refine .callP call33 r hw45 r r fun v46 hv47 => ?_
 obtain ⟨r44, rfl, hd⟩ := hv47
 refine .conv underlying3 underlying5 r r r (.skips 1 r ?_)
 have hw57 := W_law09_Some (I := I) R15 hd
 refine .call call32 r hw57 r r fun v52 I49 hl50 hv51 => ?_
 obtain ⟨r48, p54, c55, rfl, R56, hd⟩ := hv51
 have le58 := IH.le.trans (.refl _) hl50
 replace R3 := R3.mono hl50
 replace R6 := R6.mono hl50
 replace R9 := R9.mono hl50
 replace R12 := R12.mono hl50
 replace R15 := R15.mono hl50
 refine .allocA zeroValue38 r r fun b59 => ?_
 refine .storeA sizeOf38 r r .z (.t (.t .nil)) r r (.nilS [5, 4, 2] r r (.seq (.region (.skips 1 r (.nilS [6, 5, 4, 2] r r (.seq (.seq (.region (.skips 1 r ?_)))))))))
 refine .nilS [7, 6, 5, 4, 2] r r (.block (.own0 eItem 67 (.loop hd (fun (s : (List Item) × Int) c w => match s with | (s146, s150) => ∃ I_ p147 c148, IH.le I49 I_ ∧ Ok ⟨46, [], none⟩ [(2, .pointer (some ⟨b23, 0, none⟩)), (4, .pointer (some ⟨b25, 0, none⟩)), (5, .pointer (some ⟨b59, 0, none⟩)), (6, .slice p147 s146.length c148), (7, .int .i64 s150)] c ∧ Sym w0 M I I_ [pto b23 (.cells #[.int .i64 a0.Ring, .int .u8 a0.Size.1, .int .u8 a0.Size.2, .slice p1 a0.L.length c2, .slice p4 a0.X.length c5, .slice p7 a0.Y.length c8, .slice p10 a0.F.length c11, .bool a0.Others] 28 (0, 0)), pto b25 (.cells #[.int .i64 0, .slice none 0 0] 38 (0, 0)), pto b59 (.cells #[.int .i64 r48.N, .slice p54 r48.Items.length c55] 38 (0, 0)), OwnSl eItem 67 p147 c148 s146] w) (fun c w ho hs => ⟨I49, _, _, (.refl _), ho.sub ⟨r, r, r, r, r, trivial⟩, hs.pick (.c (.s (.s (.s .z))) (.c (.s (.s .z)) (.c (.s .z) (.c .z .n))))⟩) ?_)))
 rintro ⟨s146, s150⟩ next152 hd c w hst
 obtain ⟨I153, p147, c148, hl154, hok, hsym⟩ := hst
 have le155 := IH.le.trans le58 hl154
 have le156 := IH.le.trans (.refl _) hl154
 replace R3 := R3.mono hl154
 replace R6 := R6.mono hl154
 replace R9 := R9.mono hl154
 replace R12 := R12.mono hl154
 replace R56 := R56.mono hl154
 refine Cod.at hok hsym (.seq (.seq (.region (.skips 1 r (.fieldAddr underlying38 r sizeOf25 r (o := 1) r r r (.load1 isAgg25 r (.s (.s .z)) r r r (.len underlying25 r r r r (.lt r r r r (.nilS [19, 7, 6, 5, 4, 2] r r ?_)))))))))
 refine .condP r hd (fun hb158 hd => ?_) fun hb158 hd => ?_
 · refine .skipS [7, 6, 5, 4, 2] r r (.seq (.block (.ownF (.s (.s (.s .z))) fun hne159 => ?_)))
   refine .draw [some 0, some 1, some 2, some 3, some 4, some 5, some 6, some 7, some 8, some 10, some 11, some 12, some 13, some 14, some 15, some 9, some 16, some 17, some 18, some 19] 20 MX (by kernel_rfl) (by kernel_rfl) (by kernel_rfl) (by kernel_rfl) (by kernel_rfl) (by kernel_rfl) (by kernel_rfl) (fun ex => (pto b23 (.cells #[.int .i64 a0.Ring, .int .u8 a0.Size.1, .int .u8 a0.Size.2, .slice p1 a0.L.length c2, .slice p4 a0.X.length c5, .slice p7 a0.Y.length c8, .slice p10 a0.F.length c11, .bool a0.Others] 28 (0, 0))) :: (pto b25 (.cells #[.int .i64 0, .slice none 0 0] 38 (0, 0))) :: (pto b59 (.cells #[.int .i64 r48.N, .slice p54 r48.Items.length c55] 38 (0, 0))) :: (OwnSl eItem 67 p147 c148 s146) :: ex) (fun _ _ => (.s (.s (.s (.s .z))))) r (.fs [[]] r (by kernel_rfl) (.f [] r (by kernel_rfl) r r (fun ex => .fieldAddr underlying38 r sizeOf25 r (o := 1) r r r .mk) (.f [1] r (by kernel_rfl) r r (fun ex => .load1 isAgg25 r (.s (.s .z)) r r r .mk) (.fs [[]] r (by kernel_rfl) ?_))))
   obtain ⟨h160, x161, hx162, hd⟩ := hd
   obtain ⟨b163, o164, cs165, e166, hC167, hr168⟩ := R56.2 _ _ hx162
   cases hr168
   refine .f [2, 3] r (by kernel_rfl) r r (fun ex => .ixa underlying25 sizeOf67 r e166 r h160 (idx_lt hx162 h160) r r .mk) (.f [4] r (by kernel_rfl) r r (fun ex => .fieldAddr underlying67 r sizeOf3 r (o := o164 + s150.toNat * 2) r r r .mk) (.f [5] r (by kernel_rfl) r r (fun ex => .ld1 (j := 0) isAgg3 hC167 r r r r r .mk) (.f [] r (by kernel_rfl) r r (fun ex => .fieldAddr underlying28 r sizeOf22 r (o := 0) r r r .mk) (.f [7] r (by kernel_rfl) r r (fun ex => .load1 isAgg22 r .z r r r .mk) (.f [] r (by kernel_rfl) r r (fun ex => .fieldAddr underlying38 r sizeOf25 r (o := 1) r r r .mk) (.f [10] r (by kernel_rfl) r r (fun ex => .load1 isAgg25 r (.s (.s .z)) r r r .mk) (.fs [[]] r (by kernel_rfl) ?_)))))))
   obtain ⟨h169, x170, hx171, hd⟩ := hd
   obtain ⟨b172, o173, cs174, e175, hC176, hr177⟩ := R56.2 _ _ hx171
   cases hr177
   refine .f [11, 12] r (by kernel_rfl) r r (fun ex => .ixa underlying25 sizeOf67 r e175 r h169 (idx_lt hx171 h169) r r .mk) (.f [13] r (by kernel_rfl) r r (fun ex => .fieldAddr underlying67 r sizeOf2 r (o := o173 + s150.toNat * 2 + 1) r r r .mk) (.f [14] r (by kernel_rfl) r r (fun ex => .ld1 (j := 1) isAgg2 hC176 r r r r r .mk) (.w [15, 14, 13, 12, 11, 10, 6, 5, 4, 3, 2, 1, 0] [[], [8]] [8] r (by kernel_rfl) (by kernel_rfl) (by kernel_rfl) ((dropE_kept r r)) (.inr (dropE_kept r r)) fun ex => ?_)))
   have hw179 := W_law13_Right (I := I153) hd
   refine .callP call21 r hw179 r r fun v180 hv181 => ?_
   obtain ⟨r178, rfl, hd⟩ := hv181
   refine .some (fun ex => (pto b23 (.cells #[.int .i64 a0.Ring, .int .u8 a0.Size.1, .int .u8 a0.Size.2, .slice p1 a0.L.length c2, .slice p4 a0.X.length c5, .slice p7 a0.Y.length c8, .slice p10 a0.F.length c11, .bool a0.Others] 28 (0, 0))) :: (pto b25 (.cells #[.int .i64 0, .slice none 0 0] 38 (0, 0))) :: (pto b59 (.cells #[.int .i64 r48.N, .slice p54 r48.Items.length c55] 38 (0, 0))) :: (OwnSl eItem 67 p147 c148 s146) :: ex) r (fun _ _ => (.s (.s (.s (.s .z))))) r (.cc [14] r (by kernel_rfl) r r r (fun ex => .ld1 (j := 1) isAgg2 hC176 r r r r r .mk) (.cc [13] r (by kernel_rfl) r r r (fun ex => .fieldAddr underlying67 r sizeOf2 r (o := o173 + s150.toNat * 2 + 1) r r r .mk) (.cc [11, 12] r (by kernel_rfl) r r r (fun ex => .ixa underlying25 sizeOf67 r e175 r h169 (idx_lt hx171 h169) r r .mk) (.ccs [[]] r r (by kernel_rfl) (.cc [10] r (by kernel_rfl) r r r (fun ex => .load1 isAgg25 r (.s (.s .z)) r r r .mk) (.cc [] r (by kernel_rfl) r r r (fun ex => .fieldAddr underlying38 r sizeOf25 r (o := 1) r r r .mk) (.cc [5] r (by kernel_rfl) r r r (fun ex => .ld1 (j := 0) isAgg3 hC167 r r r r r .mk) (.cc [4] r (by kernel_rfl) r r r (fun ex => .fieldAddr underlying67 r sizeOf3 r (o := o164 + s150.toNat * 2) r r r .mk) (.cc [2, 3] r (by kernel_rfl) r r r (fun ex => .ixa underlying25 sizeOf67 r e166 r h160 (idx_lt hx162 h160) r r .mk) (.ccs [[]] r r (by kernel_rfl) (.cc [1] r (by kernel_rfl) r r r (fun ex => .load1 isAgg25 r (.s (.s .z)) r r r .mk) (.cc [] r (by kernel_rfl) r r r (fun ex => .fieldAddr underlying38 r sizeOf25 r (o := 1) r r r .mk) (.ccs [[]] r r (by kernel_rfl) trivial))))))))))))) (.w [6, 5, 4, 3, 2, 1, 0] [[], [15], [14, 15], [13, 14, 15], [13, 14, 15], [11, 13, 14, 15]] [9, 15, 9] r (by kernel_rfl) (by kernel_rfl) (by kernel_rfl) ((dropE_kept r r)) (.inr (dropE_kept r r)) fun ex => ?_)
   have hw183 := W_law02_Value (I := I153) hd
   refine .callP call34 r hw183 r r fun v184 hv185 => ?_
   obtain ⟨r182, rfl, hd⟩ := hv185
   refine .some (fun ex => (pto b23 (.cells #[.int .i64 a0.Ring, .int .u8 a0.Size.1, .int .u8 a0.Size.2, .slice p1 a0.L.length c2, .slice p4 a0.X.length c5, .slice p7 a0.Y.length c8, .slice p10 a0.F.length c11, .bool a0.Others] 28 (0, 0))) :: (pto b25 (.cells #[.int .i64 0, .slice none 0 0] 38 (0, 0))) :: (pto b59 (.cells #[.int .i64 r48.N, .slice p54 r48.Items.length c55] 38 (0, 0))) :: (OwnSl eItem 67 p147 c148 s146) :: ex) r (fun _ _ => (.s (.s (.s (.s .z))))) r (.cc [5] r (by kernel_rfl) r r r (fun ex => .ld1 (j := 0) isAgg3 hC167 r r r r r .mk) (.cc [4] r (by kernel_rfl) r r r (fun ex => .fieldAddr underlying67 r sizeOf3 r (o := o164 + s150.toNat * 2) r r r .mk) (.cc [2, 3] r (by kernel_rfl) r r r (fun ex => .ixa underlying25 sizeOf67 r e166 r h160 (idx_lt hx162 h160) r r .mk) (.ccs [[]] r r (by kernel_rfl) (.cc [1] r (by kernel_rfl) r r r (fun ex => .load1 isAgg25 r (.s (.s .z)) r r r .mk) (.cc [] r (by kernel_rfl) r r r (fun ex => .fieldAddr underlying38 r sizeOf25 r (o := 1) r r r .mk) (.ccs [[]] r r (by kernel_rfl) trivial))))))) (.f [6, 16] r (by kernel_rfl) r r (fun ex => .build zeroValue67 underlying67 BI67 (.c r r r (.t .nil) (.c r r r (.s (.t .nil)) .n)) (by exact ⟨⟨_, _, r, r, r⟩, ⟨⟨_, _, r, r, r⟩, trivial⟩⟩) r r .mk) (.w [0] [[], [17], [6, 17], [5, 6, 17], [4, 5, 6, 17], [4, 5, 6, 17], [2, 4, 5, 6, 17]] [17] r (by kernel_rfl) (by kernel_rfl) (by kernel_rfl) ((dropE_kept r r)) (.inr (dropE_kept r r)) fun ex => ?_))
   refine .buildSlice 1 underlying25 sizeOf67 zeroValue67 r r (.c r r r .n) r r fun b186 => ?_
   refine .some (fun ex => (pto b186 (.cells #[.int .i64 x161.At, .int .i64 r182] 67 (0, 0))) :: (pto b23 (.cells #[.int .i64 a0.Ring, .int .u8 a0.Size.1, .int .u8 a0.Size.2, .slice p1 a0.L.length c2, .slice p4 a0.X.length c5, .slice p7 a0.Y.length c8, .slice p10 a0.F.length c11, .bool a0.Others] 28 (0, 0))) :: (pto b25 (.cells #[.int .i64 0, .slice none 0 0] 38 (0, 0))) :: (pto b59 (.cells #[.int .i64 r48.N, .slice p54 r48.Items.length c55] 38 (0, 0))) :: (OwnSl eItem 67 p147 c148 s146) :: ex) r (fun _ _ => (.s (.s (.s (.s (.s .z)))))) r (.ccs [[]] r r (by kernel_rfl) trivial) (.w [] [[]] [0, 18, 16] r (by kernel_rfl) (by kernel_rfl) (by kernel_rfl) ((dropE_kept r r)) (.inr (dropE_kept r r)) fun ex => ?_)
   obtain ⟨hl188, hd⟩ := hd
   refine .append (ys := [({ At := x161.At, Val := r182 } : Item)]) 16 (.s (.s (.s (.s .z)))) underlying25 underlying25 IN67 r r r r r r r r r (.box .z (.one r) r) hl188 r r fun p189 c190 => ?_
   refine .some (fun ex => (OwnSl eItem 67 p189 c190 (s146 ++ ([({ At := x161.At, Val := r182 } : Item)]))) :: (pto b186 (.cells #[.int .i64 x161.At, .int .i64 r182] 67 (0, 0))) :: (pto b23 (.cells #[.int .i64 a0.Ring, .int .u8 a0.Size.1, .int .u8 a0.Size.2, .slice p1 a0.L.length c2, .slice p4 a0.X.length c5, .slice p7 a0.Y.length c8, .slice p10 a0.F.length c11, .bool a0.Others] 28 (0, 0))) :: (pto b25 (.cells #[.int .i64 0, .slice none 0 0] 38 (0, 0))) :: (pto b59 (.cells #[.int .i64 r48.N, .slice p54 r48.Items.length c55] 38 (0, 0))) :: ex) r (fun _ _ => (.s (.s (.s (.s (.s .z)))))) r trivial (.e 20 (by kernel_rfl) (by kernel_rfl) (by kernel_rfl) (.sub (E' := [(2, _), (4, _), (5, _), (7, _), (22, _), (23, _), (24, _), (25, _), (26, _), (27, _), (28, _), (29, _), (30, _), (32, _), (33, _), (34, _), (35, _), (36, _), (37, _), (31, _), (38, _), (39, _), (40, _), (41, _)]) ⟨r, r, r, r, r, r, r, r, r, r, r, r, r, r, r, r, r, r, r, r, r, r, r, r, trivial⟩ (.skips 1 r (.nilS [6, 7, 5, 4, 2] r r (.drop (.s .z) (.region (.skips 1 r (.add r r r r (.sub (E' := [(2, _), (4, _), (5, _), (6, _), (20, _), (21, _)]) ⟨r, r, r, r, r, r, trivial⟩ ?_)))))))))
   exact .skips 1 r (.nil' fun c w ho hs => ⟨((s146 ++ ([({ At := x161.At, Val := r182 } : Item)])), w64 (s150 + 1)), hd, I153, _, _, le156, ho.sub ⟨r, r, r, r, r, trivial⟩, hs.pick (.c (.s .z) (.c (.s .z) (.c (.s .z) (.c .z .n))))⟩)
 refine .exitS [6, 5, 4] r r (.drop .z (.seq (.region (.fieldAddr underlying38 r sizeOf3 r (o := 0) r r r (.load1 isAgg3 r (.s .z) r r r (.skips 1 r (.build zeroValue38 underlying38 BI38 (.c r r r (.t .nil) (.c r r r (.s (.t .nil)) .n)) (by exact ⟨⟨_, _, r, r, r⟩, ⟨⟨_, _, r, r, r⟩, trivial⟩⟩) r r (.storeA sizeOf38 r r .z (.t (.t .nil)) r r (.nilS [4] r r ?_)))))))))
 refine .drop (.s .z) (.pub (.s .z) fun I192 hl193 R194 => ?_)
 have le195 := IH.le.trans le155 hl193
 have le196 := IH.le.trans le156 hl193
 exact .ret (pret results9 (.w isAgg38 sizeOf38 r .z r .n) le195 ⟨({ N := r48.N, Items := s146 } : Vec), _, _, r, R194, hd⟩)

theorem W_ref09_Right {I : IH} {a0 : Vec} {p1 : Option Addr} {c2 : Nat} {Q : Bool → Prop} (R3 : RepSl eItem I p1 c2 a0.Items) (hd : ref09_Right a0 Q) :
    PFun Tryz.prog 98 [.agg #[.int .i64 a0.N, .slice p1 a0.Items.length c2]] I (fun I_ v => ∃ r, v = .bool r ∧ Q r) := by
 refine Fun.enter func98 r ntmps98 r (.c .n) fun w0 M => ?_
 refine .seq (.region (.boxA r r r fun b6 => ?_))
 refine .skips 1 r (.nilS [1] r r (.seq (.seq (.region (.fieldAddr underlying38 r sizeOf3 r (o := 0) r r r (.load1 isAgg3 r .z r r r (.lt r r r r (.skips 1 r ?_))))))))
 refine splitP hd (fun hb10 hd => ?_) fun hb10 hd => ?_
 · rw [hb10]
   exact .skips 4 r (.nilS [11, 1] r r (.condKT r r (.seq (.region (.skips 1 r (.nilS [2] r r (.drop .z (.ret (pret results98 (.t r .n) (.refl _) ⟨false, r, hd⟩)))))))))
 rw [hb10]
 refine .gyes r r r (.fieldAddr underlying38 r sizeOf3 r (o := 0) r r r (.gyes r r r (.load1 isAgg3 r .z r r r (.gyes r r r (.gt r r r r (.skips 1 r (.nilS [11, 1] r r (.condP r hd (fun hb11 hd => ?_) fun hb11 hd => ?_))))))))
 · exact .seq (.region (.skips 1 r (.nilS [2] r r (.drop .z (.ret (pret results98 (.t r .n) (.refl _) ⟨false, r, hd⟩))))))
 refine .skipS [1] r r (.seq (.seq (.region (.skips 1 r (.nilS [3, 1] r r (.block (.loop hd (fun (s79 : Int) c w => ∃ I_, IH.le I I_ ∧ Ok ⟨57, [], none⟩ [(1, .pointer (some ⟨b6, 0, none⟩)), (3, .int .i64 s79)] c ∧ Sym w0 M I I_ [pto b6 (.cells #[.int .i64 a0.N, .slice p1 a0.Items.length c2] 38 (0, 0))] w) (fun c w ho hs => ⟨I, (.refl _), ho.sub ⟨r, r, trivial⟩, hs.pick (.c .z .n)⟩) ?_)))))))
 rintro s79 next80 hd c w hst
 obtain ⟨I81, hl82, hok, hsym⟩ := hst
 have le83 := IH.le.trans (.refl _) hl82
 replace R3 := R3.mono hl82
 refine Cod.at hok hsym (.seq (.seq (.region (.skips 1 r (.fieldAddr underlying38 r sizeOf25 r (o := 1) r r r (.load1 isAgg25 r .z r r r (.len underlying25 r r r r (.lt r r r r (.nilS [16, 3, 1] r r ?_)))))))))
 refine .condP r hd (fun hb85 hd => ?_) fun hb85 hd => ?_
 · refine .skipS [3, 1] r r (.seq (.block (.seq (.draw [some 0, some 1, some 2, some 3, some 4, some 5, some 6, some 7, some 8, some 9, some 10, some 11, some 12, some 13, some 14, some 15, some 16, some 17, some 18, some 19, some 20, some 21, some 22, some 23, some 24, some 25, some 26, some 27, some 28, some 29, some 30, some 31, some 32, some 33, some 34, some 35, some 36, some 37] 38 MX (by kernel_rfl) (by kernel_rfl) (by kernel_rfl) (by kernel_rfl) (by kernel_rfl) (by kernel_rfl) (by kernel_rfl) (fun ex => (pto b6 (.cells #[.int .i64 a0.N, .slice p1 a0.Items.length c2] 38 (0, 0))) :: ex) (fun _ _ => (.s .z)) r (.f [] r (by kernel_rfl) r r (fun ex => .fieldAddr underlying38 r sizeOf25 r (o := 1) r r r .mk) (.f [0] r (by kernel_rfl) r r (fun ex => .load1 isAgg25 r .z r r r .mk) (.fs [[]] r (by kernel_rfl) ?_)))))))
   obtain ⟨h86, x87, hx88, hd⟩ := hd
   obtain ⟨b89, o90, cs91, e92, hC93, hr94⟩ := R3.2 _ _ hx88
   cases hr94
   refine .f [1, 2] r (by kernel_rfl) r r (fun ex => .ixa underlying25 sizeOf67 r e92 r h86 (idx_lt hx88 h86) r r .mk) (.f [3] r (by kernel_rfl) r r (fun ex => .fieldAddr underlying67 r sizeOf3 r (o := o90 + s79.toNat * 2) r r r .mk) (.f [4] r (by kernel_rfl) r r (fun ex => .ld1 (j := 0) isAgg3 hC93 r r r r r .mk) (.f [5] r (by kernel_rfl) r r (fun ex => .lt r r r r .mk) (.fs [[6]] r (by kernel_rfl) ?_))))
   refine splitP hd (fun hb95 hd => ?_) fun hb95 hd => ?_
   · rw [hb95]
     exact .fs [[7], [8, 7], [7], [9, 10, 7], [11, 7], [12, 7], [7], [14, 7], [13, 15, 7], [7, 16], [17, 7], [18], [19, 18], [20, 18, 18], [21], [22, 21], [21], [23, 24, 21], [25, 21], [26, 21], [21], [28, 21], [21], [30, 21], [29, 31, 21], [32, 21], [33, 21], [27, 34, 21], [21, 35, 18], [18, 36]] r (by kernel_rfl) (.e 38 (by kernel_rfl) (by kernel_rfl) (by kernel_rfl) (.nilS [56, 3, 1] r r (.condKT r r (.seq (.region (.skips 1 r (.nilS [2] r r (.drop .z (.ret (pret results98 (.t r .n) le83 ⟨false, r, hd⟩))))))))))
   rw [hb95]
   refine .f [7] r (by kernel_rfl) r r (fun ex => .gyes r r r (.fieldAddr underlying38 r sizeOf25 r (o := 1) r r r .mk)) (.f [8, 7] r (by kernel_rfl) r r (fun ex => .gyes r r r (.load1 isAgg25 r .z r r r .mk)) (.fs [[7]] r (by kernel_rfl) ?_))
   obtain ⟨h96, x97, hx98, hd⟩ := hd
   obtain ⟨b99, o100, cs101, e102, hC103, hr104⟩ := R3.2 _ _ hx98
   cases hr104
   refine .f [9, 10, 7] r (by kernel_rfl) r r (fun ex => .gyes r r r (.ixa underlying25 sizeOf67 r e102 r h96 (idx_lt hx98 h96) r r .mk)) (.f [11, 7] r (by kernel_rfl) r r (fun ex => .gyes r r r (.fieldAddr underlying67 r sizeOf3 r (o := o100 + s79.toNat * 2) r r r .mk)) (.f [12, 7] r (by kernel_rfl) r r (fun ex => .gyes r r r (.ld1 (j := 0) isAgg3 hC103 r r r r r .mk)) (.f [7] r (by kernel_rfl) r r (fun ex => .gyes r r r (.fieldAddr underlying38 r sizeOf3 r (o := 0) r r r .mk)) (.f [14, 7] r (by kernel_rfl) r r (fun ex => .gyes r r r (.load1 isAgg3 r .z r r r .mk)) (.f [13, 15, 7] r (by kernel_rfl) r r (fun ex => .gyes r r r (.ge r r r r .mk)) (.fs [[7, 16], [17, 7]] r (by kernel_rfl) ?_))))))
   refine splitP hd (fun hb105 hd => ?_) fun hb105 hd => ?_
   · rw [hb105]
     exact .fs [[18], [19, 18], [20, 18, 18], [21], [22, 21], [21], [23, 24, 21], [25, 21], [26, 21], [21], [28, 21], [21], [30, 21], [29, 31, 21], [32, 21], [33, 21], [27, 34, 21], [21, 35, 18], [18, 36]] r (by kernel_rfl) (.e 38 (by kernel_rfl) (by kernel_rfl) (by kernel_rfl) (.nilS [56, 3, 1] r r (.condKT r r (.seq (.region (.skips 1 r (.nilS [2] r r (.drop .z (.ret (pret results98 (.t r .n) le83 ⟨false, r, hd⟩))))))))))
   rw [hb105]
   refine .fs [[18]] r (by kernel_rfl) (.f [19, 18] r (by kernel_rfl) r r (fun ex => .gyes r r r (.gt r r r r .mk)) (.fs [[20, 18, 18]] r (by kernel_rfl) ?_))
   refine splitP hd (fun hb106 hd => ?_) fun hb106 hd => ?_
   · rw [hb106]
     refine .f [21] r (by kernel_rfl) r r (fun ex => .gyes r r r (.fieldAddr underlying38 r sizeOf25 r (o := 1) r r r .mk)) (.f [22, 21] r (by kernel_rfl) r r (fun ex => .gyes r r r (.load1 isAgg25 r .z r r r .mk)) (.fs [[21]] r (by kernel_rfl) ?_))
     obtain ⟨h107, x108, hx109, hd⟩ := hd
     obtain ⟨b110, o111, cs112, e113, hC114, hr115⟩ := R3.2 _ _ hx109
     cases hr115
     refine .f [23, 24, 21] r (by kernel_rfl) r r (fun ex => .gyes r r r (.ixa underlying25 sizeOf67 r e113 r h107 (idx_lt hx109 h107) r r .mk)) (.f [25, 21] r (by kernel_rfl) r r (fun ex => .gyes r r r (.fieldAddr underlying67 r sizeOf3 r (o := o111 + s79.toNat * 2) r r r .mk)) (.f [26, 21] r (by kernel_rfl) r r (fun ex => .gyes r r r (.ld1 (j := 0) isAgg3 hC114 r r r r r .mk)) (.f [21] r (by kernel_rfl) r r (fun ex => .gyes r r r (.fieldAddr underlying38 r sizeOf25 r (o := 1) r r r .mk)) (.f [28, 21] r (by kernel_rfl) r r (fun ex => .gyes r r r (.load1 isAgg25 r .z r r r .mk)) (.fs [[21]] r (by kernel_rfl) (.f [30, 21] r (by kernel_rfl) r r (fun ex => .gyes r r r (.sub' r r r r .mk)) ?_))))))
     obtain ⟨h116, x117, hx118, hd⟩ := hd
     obtain ⟨b119, o120, cs121, e122, hC123, hr124⟩ := R3.2 _ _ hx118
     cases hr124
     refine .f [29, 31, 21] r (by kernel_rfl) r r (fun ex => .gyes r r r (.ixa underlying25 sizeOf67 r e122 r h116 (idx_lt hx118 h116) r r .mk)) (.f [32, 21] r (by kernel_rfl) r r (fun ex => .gyes r r r (.fieldAddr underlying67 r sizeOf3 r (o := o120 + (w64 (s79 - 1)).toNat * 2) r r r .mk)) (.f [33, 21] r (by kernel_rfl) r r (fun ex => .gyes r r r (.ld1 (j := 0) isAgg3 hC123 r r r r r .mk)) (.f [27, 34, 21] r (by kernel_rfl) r r (fun ex => .gyes r r r (.le' r r r r .mk)) (.fs [[21, 35, 18], [18, 36]] r (by kernel_rfl) (.e 38 (by kernel_rfl) (by kernel_rfl) (by kernel_rfl) (.nilS [56, 3, 1] r r (.condP r hd (fun hb125 hd => ?_) fun hb125 hd => ?_)))))))
     · exact .seq (.region (.skips 1 r (.nilS [2] r r (.drop .z (.ret (pret results98 (.t r .n) le83 ⟨false, r, hd⟩))))))
     exact .skipS [3, 1] r r (.region (.skips 1 r (.add r r r r (.sub (E' := [(1, _), (17, _), (18, _)]) ⟨r, r, r, trivial⟩ (.skips 1 r (.nil' fun c w ho hs => ⟨(w64 (s79 + 1)), hd, I81, le83, ho.sub ⟨r, r, trivial⟩, hs.pick (.c .z .n)⟩))))))
   rw [hb106]
   refine .fs [[21], [22, 21], [21], [23, 24, 21], [25, 21], [26, 21], [21], [28, 21], [21], [30, 21], [29, 31, 21], [32, 21], [33, 21], [27, 34, 21], [21, 35, 18], [18, 36]] r (by kernel_rfl) (.e 38 (by kernel_rfl) (by kernel_rfl) (by kernel_rfl) (.nilS [56, 3, 1] r r (.condKF r r (.skipS [3, 1] r r (.region (.skips 1 r (.add r r r r (.sub (E' := [(1, _), (17, _), (18, _)]) ⟨r, r, r, trivial⟩ (.skips 1 r ?_)))))))))
   exact .nil' fun c w ho hs => ⟨(w64 (s79 + 1)), hd, I81, le83, ho.sub ⟨r, r, trivial⟩, hs.pick (.c .z .n)⟩
 exact .exitS [] r r (.drop .z (.seq (.region (.skips 1 r (.nilS [2] r r (.ret (pret results98 (.t r .n) le83 ⟨true, r, hd⟩)))))))

theorem W_ref09_Sure {I : IH} {a0 : Vec} {p1 : Option Addr} {c2 : Nat} {Q : Vec → Prop} (R3 : RepSl eItem I p1 c2 a0.Items) (hd : ref09_Sure a0 Q) :
    PFun Tryz.prog 53 [.agg #[.int .i64 a0.N, .slice p1 a0.Items.length c2]] I (fun I_ v => ∃ r p4 c5, v = .agg #[.int .i64 r.N, .slice p4 r.Items.length c5] ∧ RepSl eItem I_ p4 c5 r.Items ∧ Q r) := by
 refine Fun.enter func53 r ntmps53 r (.c .n) fun w0 M => ?_
 refine .seq (.region (.boxA r r r fun b11 => ?_))
 refine .allocA zeroValue38 r r fun b13 => ?_
 refine .nilS [2, 1] r r (.seq (.seq (.region (.loadW isAgg38 sizeOf38 r (.s .z) r r r ?_))))
 have hw16 := W_ref09_Right (I := I) R3 hd
 refine .callP call98 r hw16 r r fun v17 hv18 => ?_
 obtain ⟨r15, rfl, hd⟩ := hv18
 refine .nilS [4, 2, 1] r r (.condP r hd (fun hb19 hd => ?_) fun hb19 hd => ?_)
 · exact .seq (.region (.loadW isAgg38 sizeOf38 r (.s .z) r r r (.storeA sizeOf38 r r .z (.t (.t .nil)) r r (.nilS [2] r r (.drop (.s .z) (.ret (pret results53 (.w isAgg38 sizeOf38 r .z r .n) (.refl _) ⟨a0, _, _, r, R3, hd⟩)))))))
 exact .skipS [2] r r (.drop (.s .z) (.seq (.region (.build zeroValue38 underlying38 BI38 .n (by exact trivial) r r (.storeA sizeOf38 r r .z (.t (.t .nil)) r r (.nilS [2] r r (.ret (pret results53 (.w isAgg38 sizeOf38 r .z r .n) (.refl _) ⟨({ N := 0, Items := ([] : List Item) } : Vec), _, _, r, (.nil _ _ _), hd⟩))))))))

theorem W_ref13_SameSums {I : IH} {a0 : List Sum} {a1 : List Sum} {p1 : Option Addr} {c2 : Nat} {p4 : Option Addr} {c5 : Nat} {Q : Bool → Prop} (R3 : RepSl eSum I p1 c2 a0) (R6 : RepSl eSum I p4 c5 a1) (hd : ref13_SameSums a0 a1 Q) :
    PFun Tryz.prog 16 [.slice p1 a0.length c2, .slice p4 a1.length c5] I (fun I_ v => ∃ r, v = .bool r ∧ Q r) := by
 refine Fun.enter func16 r ntmps16 r (.c (.c .n)) fun w0 M => ?_
 refine .seq (.region (.skips 1 r (.nilS [1, 0] r r (.seq (.seq (.region (.skips 1 r (.len underlying41 r r r r (.skips 1 r ?_)))))))))
 refine .len underlying41 r r r r (.ne r r r r (.nilS [10, 1, 0] r r (.condP r hd (fun hb8 hd => ?_) fun hb8 hd => ?_)))
 · exact .seq (.region (.skips 1 r (.nilS [4] r r (.ret (pret results16 (.t r .n) (.refl _) ⟨false, r, hd⟩)))))
 refine .skipS [1, 0] r r (.seq (.seq (.region (.skips 1 r (.nilS [5, 1, 0] r r (.block (.loop hd (fun (s54 : Int) c w => ∃ I_, IH.le I I_ ∧ Ok ⟨26, [], none⟩ [(0, .slice p1 a0.length c2), (1, .slice p4 a1.length c5), (5, .int .i64 s54)] c ∧ Sym w0 M I I_ [] w) (fun c w ho hs => ⟨I, (.refl _), ho.sub ⟨r, r, r, trivial⟩, hs.pick .n⟩) ?_)))))))
 rintro s54 next55 hd c w hst
 obtain ⟨I56, hl57, hok, hsym⟩ := hst
 have le58 := IH.le.trans (.refl _) hl57
 replace R3 := R3.mono hl57
 replace R6 := R6.mono hl57
 refine Cod.at hok hsym (.seq (.seq (.region (.skips 2 r (.len underlying41 r r r r (.lt r r r r (.nilS [14, 5, 1, 0] r r (.condP r hd (fun hb60 hd => ?_) fun hb60 hd => ?_))))))))
 · refine .skipS [5, 1, 0] r r (.seq (.block (.seq (.draw [some 0, some 1, some 2, some 3, some 4, some 5, some 6, some 7, some 8] 9 MX (by kernel_rfl) (by kernel_rfl) (by kernel_rfl) (by kernel_rfl) (by kernel_rfl) (by kernel_rfl) (by kernel_rfl) (fun ex => ex) (fun _ _ => .z) r (.fs [[], []] r (by kernel_rfl) ?_)))))
   obtain ⟨h61, x62, hx63, hd⟩ := hd
   obtain ⟨b64, o65, cs66, e67, hC68, hr69⟩ := R3.2 _ _ hx63
   cases hr69
   refine .f [0, 1] r (by kernel_rfl) r r (fun ex => .ixa underlying41 sizeOf89 r e67 r h61 (idx_lt hx63 h61) r r .mk) (.f [2] r (by kernel_rfl) r r (fun ex => .ldW isAgg89 sizeOf89 hC68 r r r r .mk) (.fs [[], []] r (by kernel_rfl) ?_))
   obtain ⟨h70, x71, hx72, hd⟩ := hd
   obtain ⟨b73, o74, cs75, e76, hC77, hr78⟩ := R6.2 _ _ hx72
   cases hr78
   refine .f [4, 5] r (by kernel_rfl) r r (fun ex => .ixa underlying41 sizeOf89 r e76 r h70 (idx_lt hx72 h70) r r .mk) (.f [6] r (by kernel_rfl) r r (fun ex => .ldW isAgg89 sizeOf89 hC77 r r r r .mk) (.f [3, 7] r (by kernel_rfl) r r (fun ex => .neV r r (EQ89 x62 x71) (EG89 _ _ _ _ _) r r r .mk) (.e 9 (by kernel_rfl) (by kernel_rfl) (by kernel_rfl) (.nilS [25, 5, 1, 0] r r (.condP r hd (fun hb79 hd => ?_) fun hb79 hd => ?_)))))
   · exact .seq (.region (.skips 1 r (.nilS [4] r r (.ret (pret results16 (.t r .n) le58 ⟨false, r, hd⟩)))))
   exact .skipS [5, 1, 0] r r (.region (.skips 1 r (.add r r r r (.sub (E' := [(0, _), (1, _), (15, _), (16, _)]) ⟨r, r, r, r, trivial⟩ (.skips 1 r (.nil' fun c w ho hs => ⟨(w64 (s54 + 1)), hd, I56, le58, ho.sub ⟨r, r, r, trivial⟩, hs.pick .n⟩))))))
 exact .exitS [] r r (.seq (.region (.skips 1 r (.nilS [4] r r (.ret (pret results16 (.t r .n) le58 ⟨true, r, hd⟩))))))

theorem W_ref07_Cut {I : IH} {a0 : Rows} {a1 : Int × Int} {a2 : Int × Int} {p1 : Option Addr} {c2 : Nat} {p4 : Option Addr} {c5 : Nat} {p7 : Option Addr} {c8 : Nat} {Q : Rows → Prop} (R3 : RepSl eI64 I p1 c2 a0.Start) (R6 : RepSl eI64 I p4 c5 a0.Col) (R9 : RepSl eI64 I p7 c8 a0.Val) (hd : ref07_Cut a0 a1 a2 Q) :
    PFun Tryz.prog 22 [.agg #[.int .i64 a0.Rows, .int .i64 a0.Cols, .slice p1 a0.Start.length c2, .slice p4 a0.Col.length c5, .slice p7 a0.Val.length c8], .agg #[.int .i64 a1.1, .int .i64 a1.2], .agg #[.int .i64 a2.1, .int .i64 a2.2]] I (fun I_ v => ∃ r p10 c11 p13 c14 p16 c17, v = .agg #[.int .i64 r.Rows, .int .i64 r.Cols, .slice p10 r.Start.length c11, .slice p13 r.Col.length c14, .slice p16 r.Val.length c17] ∧ RepSl eI64 I_ p10 c11 r.Start ∧ RepSl eI64 I_ p13 c14 r.Col ∧ RepSl eI64 I_ p16 c17 r.Val ∧ Q r) := by
 refine Fun.enter func22 r ntmps22 r (.c (.c (.c .n))) fun w0 M => ?_
 refine .seq (.region (.boxA r r r fun b27 => ?_))
 refine .boxA r r r fun b29 => ?_
 refine .boxA r r r fun b31 => ?_
 refine .allocA zeroValue35 r r fun b33 => ?_
 refine .nilS [6, 5, 4, 3] r r (.seq (.region (.loadW isAgg35 sizeOf35 r (.s (.s (.s .z))) r r r ?_)))
 have hw67 := W_ref07_Sure (I := I) R3 R6 R9 hd
 refine .call call50 r hw67 r r fun v56 I53 hl54 hv55 => ?_
 obtain ⟨r52, p58, c59, p61, c62, p64, c65, rfl, R60, R63, R66, hd⟩ := hv55
 have le68 := IH.le.trans (.refl _) hl54
 replace R3 := R3.mono hl54
 replace R6 := R6.mono hl54
 replace R9 := R9.mono hl54
 refine .storeA sizeOf35 r r (.s (.s (.s .z))) (.t (.t (.t (.t (.t .nil))))) r r (.nilS [6, 5, 4, 3] r r (.seq (.draw [some 0, some 1, some 2, some 3, some 4, some 5, some 6] 7 MX (by kernel_rfl) (by kernel_rfl) (by kernel_rfl) (by kernel_rfl) (by kernel_rfl) (by kernel_rfl) (by kernel_rfl) (fun ex => (pto b33 (.cells #[.int .i64 0, .int .i64 0, .slice none 0 0, .slice none 0 0, .slice none 0 0] 35 (0, 0))) :: (pto b31 (.cells #[.int .i64 a2.1, .int .i64 a2.2] 56 (0, 0))) :: (pto b29 (.cells #[.int .i64 a1.1, .int .i64 a1.2] 56 (0, 0))) :: (pto b27 (.cells #[.int .i64 r52.Rows, .int .i64 r52.Cols, .slice p58 r52.Start.length c59, .slice p61 r52.Col.length c62, .slice p64 r52.Val.length c65] 35 (0, 0))) :: ex) (fun _ _ => (.s (.s (.s (.s .z))))) r (.f [] r (by kernel_rfl) r r (fun ex => .ixArr (i := 0) underlying56 sizeOf3 r r (by decide) (o := 0) r r r .mk) (.f [0] r (by kernel_rfl) r r (fun ex => .load1 isAgg3 r (.s (.s .z)) r r r .mk) (.f [1] r (by kernel_rfl) r r (fun ex => .maxI r r r r .mk) (.f [] r (by kernel_rfl) r r (fun ex => .ixArr (i := 0) underlying56 sizeOf3 r r (by decide) (o := 0) r r r .mk) (.f [3] r (by kernel_rfl) r r (fun ex => .load1 isAgg3 r (.s .z) r r r .mk) (.f [4] r (by kernel_rfl) r r (fun ex => .maxI r r r r .mk) ?_)))))))))
 refine .fs [[2, 0, 1, 2]] r (by kernel_rfl) (.e 7 (by kernel_rfl) (by kernel_rfl) (by kernel_rfl) (.skips 1 r (.nilS [8, 7, 6, 5, 4, 3] r r (.seq (.draw [some 0, some 1, some 2, some 3, some 4, some 5, some 6, some 7, some 8, some 9, some 10] 11 MX (by kernel_rfl) (by kernel_rfl) (by kernel_rfl) (by kernel_rfl) (by kernel_rfl) (by kernel_rfl) (by kernel_rfl) (fun ex => (pto b33 (.cells #[.int .i64 0, .int .i64 0, .slice none 0 0, .slice none 0 0, .slice none 0 0] 35 (0, 0))) :: (pto b31 (.cells #[.int .i64 a2.1, .int .i64 a2.2] 56 (0, 0))) :: (pto b29 (.cells #[.int .i64 a1.1, .int .i64 a1.2] 56 (0, 0))) :: (pto b27 (.cells #[.int .i64 r52.Rows, .int .i64 r52.Cols, .slice p58 r52.Start.length c59, .slice p61 r52.Col.length c62, .slice p64 r52.Val.length c65] 35 (0, 0))) :: ex) (fun _ _ => (.s (.s (.s (.s .z))))) r (.f [] r (by kernel_rfl) r r (fun ex => .ixArr (i := 1) underlying56 sizeOf3 r r (by decide) (o := 1) r r r .mk) (.f [0] r (by kernel_rfl) r r (fun ex => .load1 isAgg3 r (.s (.s .z)) r r r .mk) (.f [] r (by kernel_rfl) r r (fun ex => .fieldAddr underlying35 r sizeOf3 r (o := 0) r r r .mk) (.f [2] r (by kernel_rfl) r r (fun ex => .load1 isAgg3 r (.s (.s (.s .z))) r r r .mk) ?_)))))))))
 refine .f [1, 3] r (by kernel_rfl) r r (fun ex => .minI r r r r .mk) (.f [] r (by kernel_rfl) r r (fun ex => .ixArr (i := 1) underlying56 sizeOf3 r r (by decide) (o := 1) r r r .mk) (.f [5] r (by kernel_rfl) r r (fun ex => .load1 isAgg3 r (.s .z) r r r .mk) (.f [] r (by kernel_rfl) r r (fun ex => .fieldAddr underlying35 r sizeOf3 r (o := 1) r r r .mk) (.f [7] r (by kernel_rfl) r r (fun ex => .load1 isAgg3 r (.s (.s (.s .z))) r r r .mk) (.f [6, 8] r (by kernel_rfl) r r (fun ex => .minI r r r r .mk) (.fs [[4, 0, 1, 2, 3, 4]] r (by kernel_rfl) (.e 11 (by kernel_rfl) (by kernel_rfl) (by kernel_rfl) (.skips 1 r (.nilS [10, 9, 8, 7, 6, 3] r r ?_)))))))))
 refine .drop (.s .z) (.drop (.s .z) (.seq (.region (.loadW isAgg35 sizeOf35 r (.s .z) r r r ?_))))
 have hw89 := W_ref07_Triples (I := I53) R60 R63 R66 hd
 refine .call call51 r hw89 r r fun v84 I81 hl82 hv83 => ?_
 obtain ⟨r80, p86, c87, rfl, R88, hd⟩ := hv83
 have le90 := IH.le.trans le68 hl82
 replace R60 := R60.mono hl82
 replace R63 := R63.mono hl82
 replace R66 := R66.mono hl82
 refine .skips 1 r (.nilS [11, 10, 9, 8, 7, 6] r r (.drop (.s .z) (.seq (.region (.skips 1 r (.nilS [12, 11, 10, 9, 8, 7, 6] r r (.seq (.seq (.region ?_)))))))))
 refine .skips 1 r (.nilS [13, 12, 11, 10, 9, 8, 7, 6] r r (.block (.own0 eTriple 84 (.loop hd (fun (s : (List Triple) × Int) c w => match s with | (s933, s937) => ∃ I_ p934 c935, IH.le I81 I_ ∧ Ok ⟨121, [], none⟩ [(6, .pointer (some ⟨b33, 0, none⟩)), (7, .int .i64 (if 0 > a1.1 then 0 else a1.1)), (8, .int .i64 (if 0 > a2.1 then 0 else a2.1)), (9, .int .i64 (if r52.Rows < a1.2 then r52.Rows else a1.2)), (10, .int .i64 (if r52.Cols < a2.2 then r52.Cols else a2.2)), (11, .slice p86 r80.length c87), (12, .slice p934 s933.length c935), (13, .int .i64 s937)] c ∧ Sym w0 M I I_ [pto b33 (.cells #[.int .i64 0, .int .i64 0, .slice none 0 0, .slice none 0 0, .slice none 0 0] 35 (0, 0)), OwnSl eTriple 84 p934 c935 s933] w) (fun c w ho hs => ⟨I81, _, _, (.refl _), ho.sub ⟨r, r, r, r, r, r, r, r, trivial⟩, hs.pick (.c (.s .z) (.c .z .n))⟩) ?_))))
 rintro ⟨s933, s937⟩ next939 hd c w hst
 obtain ⟨I940, p934, c935, hl941, hok, hsym⟩ := hst
 have le942 := IH.le.trans le90 hl941
 have le943 := IH.le.trans (.refl _) hl941
 replace R88 := R88.mono hl941
 refine Cod.at hok hsym (.seq (.seq (.region (.skips 2 r (.len underlying24 r r r r (.lt r r r r (.nilS [39, 13, 12, 11, 10, 9, 8, 7, 6] r r (.condP r hd (fun hb945 hd => ?_) fun hb945 hd => ?_))))))))
 · refine .skipS [13, 12, 11, 10, 9, 8, 7, 6] r r (.seq (.block (.seq ?_)))
   refine Cod.joinQ (σ := Bool) hd (fun (s1024 : Bool) c w => ∃ I_, IH.le I940 I_ ∧ Ok ⟨121, [], none⟩ [(6, .pointer (some ⟨b33, 0, none⟩)), (7, .int .i64 (if 0 > a1.1 then 0 else a1.1)), (8, .int .i64 (if 0 > a2.1 then 0 else a2.1)), (9, .int .i64 (if r52.Rows < a1.2 then r52.Rows else a1.2)), (10, .int .i64 (if r52.Cols < a2.2 then r52.Cols else a2.2)), (11, .slice p86 r80.length c87), (12, .slice p934 s933.length c935), (13, .int .i64 s937), (75, .bool s1024)] c ∧ Sym w0 M I I_ [pto b33 (.cells #[.int .i64 0, .int .i64 0, .slice none 0 0, .slice none 0 0, .slice none 0 0] 35 (0, 0)), OwnSl eTriple 84 p934 c935 s933] w) (fun k1025 hd => ?_) ?_
   · skip
     refine .region (.skips 2 r ?_)
     obtain ⟨h1026, x1027, hx1028, hd⟩ := hd
     obtain ⟨b1029, o1030, cs1031, e1032, hC1033, hr1034⟩ := R88.2 _ _ hx1028
     cases hr1034
     refine .ixa underlying24 sizeOf84 r e1032 r h1026 (idx_lt hx1028 h1026) r r (.fieldAddr underlying84 r sizeOf3 r (o := o1030 + s937.toNat * 3) r r r (.ld1 (j := 0) isAgg3 hC1033 r r r r r (.skips 1 r (.ge r r r r (.skips 1 r ?_)))))
     refine splitP hd (fun hb1035 hd => ?_) fun hb1035 hd => ?_
     · rw [hb1035]
       refine .gyes r r r (.move r r r (.gyes r r r (.move r r r ?_)))
       obtain ⟨h1036, x1037, hx1038, hd⟩ := hd
       obtain ⟨b1039, o1040, cs1041, e1042, hC1043, hr1044⟩ := R88.2 _ _ hx1038
       cases hr1044
       refine .gyes r r r (.ixa underlying24 sizeOf84 r e1042 r h1036 (idx_lt hx1038 h1036) r r (.gyes r r r (.fieldAddr underlying84 r sizeOf3 r (o := o1040 + s937.toNat * 3) r r r (.gyes r r r (.ld1 (j := 0) isAgg3 hC1043 r r r r r (.gyes r r r (.move r r r (.gyes r r r (.lt r r r r (.skips 2 r ?_))))))))))
       refine splitP hd (fun hb1045 hd => ?_) fun hb1045 hd => ?_
       · rw [hb1045]
         refine .gyes r r r (.move r r r (.gyes r r r (.move r r r ?_)))
         obtain ⟨h1046, x1047, hx1048, hd⟩ := hd
         obtain ⟨b1049, o1050, cs1051, e1052, hC1053, hr1054⟩ := R88.2 _ _ hx1048
         cases hr1054
         refine .gyes r r r (.ixa underlying24 sizeOf84 r e1052 r h1046 (idx_lt hx1048 h1046) r r (.gyes r r r (.fieldAddr underlying84 r sizeOf3 r (o := o1050 + s937.toNat * 3 + 1) r r r (.gyes r r r (.ld1 (j := 1) isAgg3 hC1053 r r r r r (.gyes r r r (.move r r r (.gyes r r r (.ge r r r r (.skips 2 r ?_))))))))))
         refine splitP hd (fun hb1055 hd => ?_) fun hb1055 hd => ?_
         · rw [hb1055]
           refine .gyes r r r (.move r r r (.gyes r r r (.move r r r ?_)))
           obtain ⟨h1056, x1057, hx1058, hd⟩ := hd
           obtain ⟨b1059, o1060, cs1061, e1062, hC1063, hr1064⟩ := R88.2 _ _ hx1058
           cases hr1064
           exact .gyes r r r (.ixa underlying24 sizeOf84 r e1062 r h1056 (idx_lt hx1058 h1056) r r (.gyes r r r (.fieldAddr underlying84 r sizeOf3 r (o := o1060 + s937.toNat * 3 + 1) r r r (.gyes r r r (.ld1 (j := 1) isAgg3 hC1063 r r r r r (.gyes r r r (.move r r r (.gyes r r r (.lt r r r r (.skips 1 r (.nil' fun c w ho hs => ⟨(decide (x1057.Col < (if r52.Cols < a2.2 then r52.Cols else a2.2))), hd, I940, (.refl _), ho.sub ⟨r, r, r, r, r, r, r, r, r, trivial⟩, hs.pick (.c .z (.c .z .n))⟩)))))))))))
         rw [hb1055]
         exact .skips 8 r (.nil' fun c w ho hs => ⟨false, hd, I940, (.refl _), ho.sub ⟨r, r, r, r, r, r, r, r, r, trivial⟩, hs.pick (.c .z (.c .z .n))⟩)
       rw [hb1045]
       exact .skips 17 r (.nil' fun c w ho hs => ⟨false, hd, I940, (.refl _), ho.sub ⟨r, r, r, r, r, r, r, r, r, trivial⟩, hs.pick (.c .z (.c .z .n))⟩)
     rw [hb1035]
     exact .skips 26 r (.nil' fun c w ho hs => ⟨false, hd, I940, (.refl _), ho.sub ⟨r, r, r, r, r, r, r, r, r, trivial⟩, hs.pick (.c .z (.c .z .n))⟩)
   rintro s1024 hd c w hst
   obtain ⟨I1065, hl1066, hok, hsym⟩ := hst
   have le1067 := IH.le.trans le942 hl1066
   have le1068 := IH.le.trans le943 hl1066
   have le1069 := IH.le.trans (.refl _) hl1066
   replace R88 := R88.mono hl1066
   refine Cod.at hok hsym (.condP r hd (fun hb1070 hd => ?_) fun hb1070 hd => ?_)
   · refine .ownF (.s .z) fun hne1071 => ?_
     refine .draw [some 0, some 1, some 2, some 3, some 4, some 5, some 6, some 7, some 8, some 9, some 10, some 11, some 12, some 13, some 14, some 15, some 16, some 17, some 18, some 19, some 20, some 21, some 22] 23 MX (by kernel_rfl) (by kernel_rfl) (by kernel_rfl) (by kernel_rfl) (by kernel_rfl) (by kernel_rfl) (by kernel_rfl) (fun ex => (pto b33 (.cells #[.int .i64 0, .int .i64 0, .slice none 0 0, .slice none 0 0, .slice none 0 0] 35 (0, 0))) :: (OwnSl eTriple 84 p934 c935 s933) :: ex) (fun _ _ => (.s (.s .z))) r (.fs [[], [], []] r (by kernel_rfl) ?_)
     obtain ⟨h1072, x1073, hx1074, hd⟩ := hd
     obtain ⟨b1075, o1076, cs1077, e1078, hC1079, hr1080⟩ := R88.2 _ _ hx1074
     cases hr1080
     refine .f [1, 2] r (by kernel_rfl) r r (fun ex => .ixa underlying24 sizeOf84 r e1078 r h1072 (idx_lt hx1074 h1072) r r .mk) (.f [3] r (by kernel_rfl) r r (fun ex => .fieldAddr underlying84 r sizeOf3 r (o := o1076 + s937.toNat * 3) r r r .mk) (.f [4] r (by kernel_rfl) r r (fun ex => .ld1 (j := 0) isAgg3 hC1079 r r r r r .mk) (.fs [[]] r (by kernel_rfl) (.f [5, 6] r (by kernel_rfl) r r (fun ex => .sub' r r r r .mk) (.fs [[], []] r (by kernel_rfl) ?_)))))
     obtain ⟨h1081, x1082, hx1083, hd⟩ := hd
     obtain ⟨b1084, o1085, cs1086, e1087, hC1088, hr1089⟩ := R88.2 _ _ hx1083
     cases hr1089
     refine .f [8, 9] r (by kernel_rfl) r r (fun ex => .ixa underlying24 sizeOf84 r e1087 r h1081 (idx_lt hx1083 h1081) r r .mk) (.f [10] r (by kernel_rfl) r r (fun ex => .fieldAddr underlying84 r sizeOf3 r (o := o1085 + s937.toNat * 3 + 1) r r r .mk) (.f [11] r (by kernel_rfl) r r (fun ex => .ld1 (j := 1) isAgg3 hC1088 r r r r r .mk) (.fs [[]] r (by kernel_rfl) (.f [12, 13] r (by kernel_rfl) r r (fun ex => .sub' r r r r .mk) (.fs [[], []] r (by kernel_rfl) ?_)))))
     obtain ⟨h1090, x1091, hx1092, hd⟩ := hd
     obtain ⟨b1093, o1094, cs1095, e1096, hC1097, hr1098⟩ := R88.2 _ _ hx1092
     cases hr1098
     refine .f [15, 16] r (by kernel_rfl) r r (fun ex => .ixa underlying24 sizeOf84 r e1096 r h1090 (idx_lt hx1092 h1090) r r .mk) (.f [17] r (by kernel_rfl) r r (fun ex => .fieldAddr underlying84 r sizeOf2 r (o := o1094 + s937.toNat * 3 + 2) r r r .mk) (.f [18] r (by kernel_rfl) r r (fun ex => .ld1 (j := 2) isAgg2 hC1097 r r r r r .mk) (.f [7, 14, 19] r (by kernel_rfl) r r (fun ex => .build zeroValue84 underlying84 BI84 (.c r r r (.t .nil) (.c r r r (.s (.t .nil)) (.c r r r (.s (.s (.t .nil))) .n))) (by exact ⟨⟨_, _, r, r, r⟩, ⟨⟨_, _, r, r, r⟩, ⟨⟨_, _, r, r, r⟩, trivial⟩⟩⟩) r r .mk) (.w [0] [[], [20], [19, 20], [18, 19, 20], [17, 18, 19, 20], [17, 18, 19, 20], [20], [14, 20], [14, 20], [12, 14, 20], [11, 12, 14, 20], [10, 11, 12, 14, 20], [10, 11, 12, 14, 20], [20], [7, 20], [7, 20], [5, 7, 20], [4, 5, 7, 20], [3, 4, 5, 7, 20], [3, 4, 5, 7, 20]] [20] r (by kernel_rfl) (by kernel_rfl) (by kernel_rfl) ((dropE_kept r r)) (.inr (dropE_kept r r)) fun ex => ?_))))
     refine .buildSlice 1 underlying24 sizeOf84 zeroValue84 r r (.c r r r .n) r r fun b1099 => ?_
     refine .some (fun ex => (pto b1099 (.cells #[.int .i64 (w64 (x1073.Row - (if 0 > a1.1 then 0 else a1.1))), .int .i64 (w64 (x1082.Col - (if 0 > a2.1 then 0 else a2.1))), .int .i64 x1091.Val] 84 (0, 0))) :: (pto b33 (.cells #[.int .i64 0, .int .i64 0, .slice none 0 0, .slice none 0 0, .slice none 0 0] 35 (0, 0))) :: (OwnSl eTriple 84 p934 c935 s933) :: ex) r (fun _ _ => (.s (.s (.s .z)))) r (.ccs [[]] r r (by kernel_rfl) trivial) (.w [] [[]] [0, 21] r (by kernel_rfl) (by kernel_rfl) (by kernel_rfl) ((dropE_kept r r)) (.inr (dropE_kept r r)) fun ex => ?_)
     obtain ⟨hl1101, hd⟩ := hd
     refine .append (ys := [({ Row := w64 (x1073.Row - (if 0 > a1.1 then 0 else a1.1)), Col := w64 (x1082.Col - (if 0 > a2.1 then 0 else a2.1)), Val := x1091.Val } : Triple)]) 24 (.s (.s .z)) underlying24 underlying24 IN84 r r r r r r r r r (.box .z (.one r) r) hl1101 r r fun p1102 c1103 => ?_
     refine .some (fun ex => (OwnSl eTriple 84 p1102 c1103 (s933 ++ ([({ Row := w64 (x1073.Row - (if 0 > a1.1 then 0 else a1.1)), Col := w64 (x1082.Col - (if 0 > a2.1 then 0 else a2.1)), Val := x1091.Val } : Triple)]))) :: (pto b1099 (.cells #[.int .i64 (w64 (x1073.Row - (if 0 > a1.1 then 0 else a1.1))), .int .i64 (w64 (x1082.Col - (if 0 > a2.1 then 0 else a2.1))), .int .i64 x1091.Val] 84 (0, 0))) :: (pto b33 (.cells #[.int .i64 0, .int .i64 0, .slice none 0 0, .slice none 0 0, .slice none 0 0] 35 (0, 0))) :: ex) r (fun _ _ => (.s (.s (.s .z)))) r trivial (.e 23 (by kernel_rfl) (by kernel_rfl) (by kernel_rfl) (.sub (E' := [(6, _), (7, _), (8, _), (9, _), (10, _), (11, _), (13, _), (75, _), (76, _), (77, _), (78, _), (79, _), (80, _), (81, _), (82, _), (83, _), (84, _), (85, _), (86, _), (87, _), (88, _), (89, _), (90, _), (91, _), (92, _), (93, _), (94, _), (95, _), (96, _), (97, _), (98, _)]) ⟨r, r, r, r, r, r, r, r, r, r, r, r, r, r, r, r, r, r, r, r, r, r, r, r, r, r, r, r, r, r, r, trivial⟩ (.skips 1 r (.nilS [12, 13, 11, 10, 9, 8, 7, 6] r r (.drop (.s .z) (.region (.skips 1 r (.add r r r r (.sub (E' := [(6, _), (7, _), (8, _), (9, _), (10, _), (11, _), (12, _), (40, _), (41, _)]) ⟨r, r, r, r, r, r, r, r, r, trivial⟩ ?_)))))))))
     exact .skips 1 r (.nil' fun c w ho hs => ⟨((s933 ++ ([({ Row := w64 (x1073.Row - (if 0 > a1.1 then 0 else a1.1)), Col := w64 (x1082.Col - (if 0 > a2.1 then 0 else a2.1)), Val := x1091.Val } : Triple)])), w64 (s937 + 1)), hd, I1065, _, _, le1068, ho.sub ⟨r, r, r, r, r, r, r, r, trivial⟩, hs.pick (.c (.s .z) (.c .z .n))⟩)
   exact .skipS [13, 12, 11, 10, 9, 8, 7, 6] r r (.region (.skips 1 r (.add r r r r (.sub (E' := [(6, _), (7, _), (8, _), (9, _), (10, _), (11, _), (12, _), (40, _), (41, _)]) ⟨r, r, r, r, r, r, r, r, r, trivial⟩ (.skips 1 r (.nil' fun c w ho hs => ⟨(s933, w64 (s937 + 1)), hd, I1065, _, _, le1068, ho.sub ⟨r, r, r, r, r, r, r, r, trivial⟩, hs.pick (.c .z (.c .z .n))⟩))))))
 refine .exitS [12, 10, 9, 8, 7, 6] r r (.seq (.region (.skips 2 r (.nilS [15, 14, 12, 10, 9, 8, 7, 6] r r (.seq ?_)))))
 refine Cod.joinQ (σ := Int) hd (fun (s1107 : Int) c w => ∃ I_, IH.le I940 I_ ∧ Ok ⟨121, [], none⟩ [(6, .pointer (some ⟨b33, 0, none⟩)), (8, .int .i64 (if 0 > a2.1 then 0 else a2.1)), (10, .int .i64 (if r52.Cols < a2.2 then r52.Cols else a2.2)), (12, .slice p934 s933.length c935), (14, .int .i64 s1107), (15, .int .i64 0)] c ∧ Sym w0 M I I_ [pto b33 (.cells #[.int .i64 0, .int .i64 0, .slice none 0 0, .slice none 0 0, .slice none 0 0] 35 (0, 0)), OwnSl eTriple 84 p934 c935 s933] w) (fun k1108 hd => ?_) ?_
 · skip
   refine .seq (.region (.skips 2 r (.gt r r r r (.nilS [101, 15, 14, 12, 10, 9, 8, 7, 6] r r (.condP r hd (fun hb1109 hd => ?_) fun hb1109 hd => ?_)))))
   · exact .region (.skips 2 r (.sub' r r r r (.sub (E' := [(6, _), (7, _), (8, _), (9, _), (10, _), (12, _), (15, _), (101, _), (102, _), (103, _), (104, _)]) ⟨r, r, r, r, r, r, r, r, r, r, r, trivial⟩ (.skips 1 r (.nil' fun c w ho hs => ⟨(w64 ((if r52.Rows < a1.2 then r52.Rows else a1.2) - (if 0 > a1.1 then 0 else a1.1))), hd, I940, (.refl _), ho.sub ⟨r, r, r, r, r, r, trivial⟩, hs.pick (.c .z (.c .z .n))⟩)))))
   exact .skip' fun c w ho hs => ⟨0, hd, I940, (.refl _), ho.sub ⟨r, r, r, r, r, r, trivial⟩, hs.pick (.c .z (.c .z .n))⟩
 rintro s1107 hd c w hst
 obtain ⟨I1110, hl1111, hok, hsym⟩ := hst
 have le1112 := IH.le.trans le942 hl1111
 have le1113 := IH.le.trans le943 hl1111
 have le1114 := IH.le.trans (.refl _) hl1111
 refine Cod.at hok hsym (.seq ?_)
 refine Cod.joinQ (σ := Int) hd (fun (s1117 : Int) c w => ∃ I_, IH.le I1110 I_ ∧ Ok ⟨121, [], none⟩ [(6, .pointer (some ⟨b33, 0, none⟩)), (12, .slice p934 s933.length c935), (14, .int .i64 s1107), (15, .int .i64 s1117)] c ∧ Sym w0 M I I_ [pto b33 (.cells #[.int .i64 0, .int .i64 0, .slice none 0 0, .slice none 0 0, .slice none 0 0] 35 (0, 0)), OwnSl eTriple 84 p934 c935 s933] w) (fun k1118 hd => ?_) ?_
 · skip
   refine .seq (.region (.skips 2 r (.gt r r r r (.nilS [107, 15, 14, 12, 10, 8, 6] r r (.condP r hd (fun hb1119 hd => ?_) fun hb1119 hd => ?_)))))
   · exact .region (.skips 2 r (.sub' r r r r (.sub (E' := [(6, _), (8, _), (10, _), (12, _), (14, _), (107, _), (108, _), (109, _), (110, _)]) ⟨r, r, r, r, r, r, r, r, r, trivial⟩ (.skips 1 r (.nil' fun c w ho hs => ⟨(w64 ((if r52.Cols < a2.2 then r52.Cols else a2.2) - (if 0 > a2.1 then 0 else a2.1))), hd, I1110, (.refl _), ho.sub ⟨r, r, r, r, trivial⟩, hs.pick (.c .z (.c .z .n))⟩)))))
   exact .skip' fun c w ho hs => ⟨0, hd, I1110, (.refl _), ho.sub ⟨r, r, r, r, trivial⟩, hs.pick (.c .z (.c .z .n))⟩
 rintro s1117 hd c w hst
 obtain ⟨I1120, hl1121, hok, hsym⟩ := hst
 have le1122 := IH.le.trans le1112 hl1121
 have le1123 := IH.le.trans le1113 hl1121
 have le1124 := IH.le.trans le1114 hl1121
 have le1125 := IH.le.trans (.refl _) hl1121
 refine Cod.at hok hsym (.seq (.seq (.region (.skips 1 r (.eq r r r r (.skips 1 r ?_))))))
 refine splitP hd (fun hb1126 hd => ?_) fun hb1126 hd => ?_
 · rw [hb1126]
   refine .skips 3 r (.nilS [116, 15, 14, 12, 6] r r (.condKT r r (.region (.sub (E' := [(6, _), (14, _), (15, _), (116, _)]) ⟨r, r, r, r, trivial⟩ (.skips 1 r (.nilS [12, 15, 14, 6] r r (.drop (.s .z) (.seq (.region ?_)))))))))
   refine .skips 3 r ?_
   have hw1142 := W_ref07_built (I := I1120) (.nil _ none 0) hd
   refine .call call52 r hw1142 r r fun v1131 I1128 hl1129 hv1130 => ?_
   obtain ⟨r1127, p1133, c1134, p1136, c1137, p1139, c1140, rfl, R1135, R1138, R1141, hd⟩ := hv1130
   have le1143 := IH.le.trans le1122 hl1129
   have le1144 := IH.le.trans le1123 hl1129
   have le1145 := IH.le.trans le1124 hl1129
   have le1146 := IH.le.trans le1125 hl1129
   exact .storeA sizeOf35 r r .z (.t (.t (.t (.t (.t .nil))))) r r (.nilS [6] r r (.ret (pret results22 (.w isAgg35 sizeOf35 r .z r .n) le1143 ⟨r1127, _, _, _, _, _, _, r, R1135, R1138, R1141, hd⟩)))
 rw [hb1126]
 refine .gyes r r r (.move r r r (.gyes r r r (.eq r r r r (.skips 1 r (.nilS [116, 15, 14, 12, 6] r r (.condP r hd (fun hb1147 hd => ?_) fun hb1147 hd => ?_))))))
 · refine .region (.sub (E' := [(6, _), (14, _), (15, _), (116, _)]) ⟨r, r, r, r, trivial⟩ (.skips 1 r (.nilS [12, 15, 14, 6] r r (.drop (.s .z) (.seq (.region (.skips 3 r ?_)))))))
   have hw1163 := W_ref07_built (I := I1120) (.nil _ none 0) hd
   refine .call call52 r hw1163 r r fun v1152 I1149 hl1150 hv1151 => ?_
   obtain ⟨r1148, p1154, c1155, p1157, c1158, p1160, c1161, rfl, R1156, R1159, R1162, hd⟩ := hv1151
   have le1164 := IH.le.trans le1122 hl1150
   have le1165 := IH.le.trans le1123 hl1150
   have le1166 := IH.le.trans le1124 hl1150
   have le1167 := IH.le.trans le1125 hl1150
   exact .storeA sizeOf35 r r .z (.t (.t (.t (.t (.t .nil))))) r r (.nilS [6] r r (.ret (pret results22 (.w isAgg35 sizeOf35 r .z r .n) le1164 ⟨r1148, _, _, _, _, _, _, r, R1156, R1159, R1162, hd⟩)))
 refine .skipS [15, 14, 12, 6] r r (.seq (.region (.skips 3 r (.pub (.s .z) fun I1168 hl1169 R1170 => ?_))))
 have le1171 := IH.le.trans le1122 hl1169
 have le1172 := IH.le.trans le1123 hl1169
 have le1173 := IH.le.trans le1124 hl1169
 have le1174 := IH.le.trans le1125 hl1169
 have hw1190 := W_ref07_built (I := I1168) R1170 hd
 refine .call call52 r hw1190 r r fun v1179 I1176 hl1177 hv1178 => ?_
 obtain ⟨r1175, p1181, c1182, p1184, c1185, p1187, c1188, rfl, R1183, R1186, R1189, hd⟩ := hv1178
 have le1191 := IH.le.trans le1171 hl1177
 have le1192 := IH.le.trans le1172 hl1177
 have le1193 := IH.le.trans le1173 hl1177
 have le1194 := IH.le.trans le1174 hl1177
 replace R1170 := R1170.mono hl1177
 exact .storeA sizeOf35 r r .z (.t (.t (.t (.t (.t .nil))))) r r (.nilS [6] r r (.ret (pret results22 (.w isAgg35 sizeOf35 r .z r .n) le1191 ⟨r1175, _, _, _, _, _, _, r, R1183, R1186, R1189, hd⟩)))

theorem W_ref09_Part {I : IH} {a0 : Vec} {a1 : Int} {a2 : Int} {p1 : Option Addr} {c2 : Nat} {Q : Vec → Prop} (R3 : RepSl eItem I p1 c2 a0.Items) (hd : ref09_Part a0 a1 a2 Q) :
    PFun Tryz.prog 23 [.agg #[.int .i64 a0.N, .slice p1 a0.Items.length c2], .int .i64 a1, .int .i64 a2] I (fun I_ v => ∃ r p4 c5, v = .agg #[.int .i64 r.N, .slice p4 r.Items.length c5] ∧ RepSl eItem I_ p4 c5 r.Items ∧ Q r) := by
 refine Fun.enter func23 r ntmps23 r (.c (.c (.c .n))) fun w0 M => ?_
 refine .seq (.region (.boxA r r r fun b11 => ?_))
 refine .allocA zeroValue38 r r fun b13 => ?_
 refine .nilS [6, 3, 2, 1] r r (.seq (.region (.loadW isAgg38 sizeOf38 r (.s .z) r r r ?_)))
 have hw35 := W_ref09_Sure (I := I) R3 hd
 refine .call call53 r hw35 r r fun v30 I27 hl28 hv29 => ?_
 obtain ⟨r26, p32, c33, rfl, R34, hd⟩ := hv29
 have le36 := IH.le.trans (.refl _) hl28
 replace R3 := R3.mono hl28
 refine .storeA sizeOf38 r r (.s .z) (.t (.t .nil)) r r (.nilS [6, 3, 2, 1] r r (.seq (.draw [some 0, some 1, some 2, some 3, some 4, some 5, some 6] 7 MX (by kernel_rfl) (by kernel_rfl) (by kernel_rfl) (by kernel_rfl) (by kernel_rfl) (by kernel_rfl) (by kernel_rfl) (fun ex => (pto b13 (.cells #[.int .i64 0, .slice none 0 0] 38 (0, 0))) :: (pto b11 (.cells #[.int .i64 r26.N, .slice p32 r26.Items.length c33] 38 (0, 0))) :: ex) (fun _ _ => (.s (.s .z))) r (.fs [[]] r (by kernel_rfl) (.f [0] r (by kernel_rfl) r r (fun ex => .maxI r r r r .mk) (.fs [[]] r (by kernel_rfl) (.f [] r (by kernel_rfl) r r (fun ex => .fieldAddr underlying38 r sizeOf3 r (o := 0) r r r .mk) (.f [3] r (by kernel_rfl) r r (fun ex => .load1 isAgg3 r (.s .z) r r r .mk) (.f [2, 4] r (by kernel_rfl) r r (fun ex => .minI r r r r .mk) ?_)))))))))
 refine .w [5, 4, 3, 2] [[], []] [1, 0, 1] r (by kernel_rfl) (by kernel_rfl) (by kernel_rfl) (r) (.inl r) fun ex => ?_
 refine .sub (E' := [(11, _), (12, _), (2, _), (3, _), (6, _)]) ⟨r, r, r, r, r, trivial⟩ (.assign r r r (.some (fun ex => (pto b13 (.cells #[.int .i64 0, .slice none 0 0] 38 (0, 0))) :: (pto b11 (.cells #[.int .i64 r26.N, .slice p32 r26.Items.length c33] 38 (0, 0))) :: ex) r (fun _ _ => (.s (.s .z))) r (.cc [2, 4] r (by kernel_rfl) r r r (fun ex => .minI r r r r .mk) (.cc [3] r (by kernel_rfl) r r r (fun ex => .load1 isAgg3 r (.s .z) r r r .mk) (.cc [] r (by kernel_rfl) r r r (fun ex => .fieldAddr underlying38 r sizeOf3 r (o := 0) r r r .mk) (.ccs [[]] r r (by kernel_rfl) trivial)))) (.e 7 (by kernel_rfl) (by kernel_rfl) (by kernel_rfl) (.sub (E' := [(1, _), (3, _), (6, _), (11, _), (12, _), (13, _), (14, _), (15, _), (16, _)]) ⟨r, r, r, r, r, r, r, r, r, trivial⟩ (.skips 1 r (.nilS [2, 6, 3, 1] r r (.seq (.seq (.region ?_)))))))))
 refine .skips 2 r (.le' r r r r (.nilS [19, 2, 6, 3, 1] r r (.condP r hd (fun hb38 hd => ?_) fun hb38 hd => ?_)))
 · exact .seq (.region (.build zeroValue38 underlying38 BI38 .n (by exact trivial) r r (.storeA sizeOf38 r r .z (.t (.t .nil)) r r (.nilS [6] r r (.drop (.s .z) (.ret (pret results23 (.w isAgg38 sizeOf38 r .z r .n) le36 ⟨({ N := 0, Items := ([] : List Item) } : Vec), _, _, r, (.nil _ _ _), hd⟩)))))))
 refine .skipS [2, 6, 3, 1] r r (.seq (.region (.skips 2 r (.sub' r r r r (.build zeroValue38 underlying38 BI38 (.c r r r (.t .nil) .n) (by exact ⟨⟨_, _, r, r, r⟩, trivial⟩) r r (.allocA zeroValue38 r r fun b41 => ?_))))))
 refine .storeA sizeOf38 r r .z (.t (.t .nil)) r r (.nilS [7, 2, 6, 3, 1] r r (.seq (.seq (.region (.skips 1 r (.nilS [8, 7, 2, 6, 3, 1] r r (.block (.own0 eItem 67 (.loop hd (fun (s : (List Item) × Int) c w => match s with | (s240, s244) => ∃ I_ p241 c242, IH.le I27 I_ ∧ Ok ⟨71, [], none⟩ [(1, .int .i64 (if 0 > a1 then 0 else a1)), (2, .int .i64 (if r26.N < a2 then r26.N else a2)), (3, .pointer (some ⟨b11, 0, none⟩)), (6, .pointer (some ⟨b13, 0, none⟩)), (7, .pointer (some ⟨b41, 0, none⟩)), (8, .int .i64 s244)] c ∧ Sym w0 M I I_ [pto b11 (.cells #[.int .i64 r26.N, .slice p32 r26.Items.length c33] 38 (0, 0)), pto b13 (.cells #[.int .i64 0, .slice none 0 0] 38 (0, 0)), pto b41 (.cells #[.int .i64 (w64 ((if r26.N < a2 then r26.N else a2) - (if 0 > a1 then 0 else a1))), .slice p241 s240.length c242] 38 (0, 0)), OwnSl eItem 67 p241 c242 s240] w) (fun c w ho hs => ⟨I27, _, _, (.refl _), ho.sub ⟨r, r, r, r, r, r, trivial⟩, hs.pick (.c (.s (.s (.s .z))) (.c (.s (.s .z)) (.c (.s .z) (.c .z .n))))⟩) ?_)))))))))
 rintro ⟨s240, s244⟩ next246 hd c w hst
 obtain ⟨I247, p241, c242, hl248, hok, hsym⟩ := hst
 have le249 := IH.le.trans le36 hl248
 have le250 := IH.le.trans (.refl _) hl248
 replace R34 := R34.mono hl248
 refine Cod.at hok hsym (.seq (.seq (.region (.skips 1 r (.fieldAddr underlying38 r sizeOf25 r (o := 1) r r r (.load1 isAgg25 r .z r r r (.len underlying25 r r r r (.lt r r r r (.nilS [29, 8, 7, 6, 3, 2, 1] r r ?_)))))))))
 refine .condP r hd (fun hb252 hd => ?_) fun hb252 hd => ?_
 · refine .skipS [8, 7, 6, 3, 2, 1] r r (.seq (.block (.seq ?_)))
   refine Cod.joinQ (σ := Bool) hd (fun (s291 : Bool) c w => ∃ I_, IH.le I247 I_ ∧ Ok ⟨71, [], none⟩ [(1, .int .i64 (if 0 > a1 then 0 else a1)), (2, .int .i64 (if r26.N < a2 then r26.N else a2)), (3, .pointer (some ⟨b11, 0, none⟩)), (6, .pointer (some ⟨b13, 0, none⟩)), (7, .pointer (some ⟨b41, 0, none⟩)), (8, .int .i64 s244), (49, .bool s291)] c ∧ Sym w0 M I I_ [pto b11 (.cells #[.int .i64 r26.N, .slice p32 r26.Items.length c33] 38 (0, 0)), pto b13 (.cells #[.int .i64 0, .slice none 0 0] 38 (0, 0)), pto b41 (.cells #[.int .i64 (w64 ((if r26.N < a2 then r26.N else a2) - (if 0 > a1 then 0 else a1))), .slice p241 s240.length c242] 38 (0, 0)), OwnSl eItem 67 p241 c242 s240] w) (fun k292 hd => ?_) ?_
   · skip
     refine .region (.fieldAddr underlying38 r sizeOf25 r (o := 1) r r r (.load1 isAgg25 r .z r r r (.skips 1 r ?_)))
     obtain ⟨h293, x294, hx295, hd⟩ := hd
     obtain ⟨b296, o297, cs298, e299, hC300, hr301⟩ := R34.2 _ _ hx295
     cases hr301
     refine .ixa underlying25 sizeOf67 r e299 r h293 (idx_lt hx295 h293) r r (.fieldAddr underlying67 r sizeOf3 r (o := o297 + s244.toNat * 2) r r r (.ld1 (j := 0) isAgg3 hC300 r r r r r (.skips 1 r (.ge r r r r (.skips 1 r ?_)))))
     refine splitP hd (fun hb302 hd => ?_) fun hb302 hd => ?_
     · rw [hb302]
       refine .gyes r r r (.fieldAddr underlying38 r sizeOf25 r (o := 1) r r r (.gyes r r r (.load1 isAgg25 r .z r r r (.gyes r r r (.move r r r ?_)))))
       obtain ⟨h303, x304, hx305, hd⟩ := hd
       obtain ⟨b306, o307, cs308, e309, hC310, hr311⟩ := R34.2 _ _ hx305
       cases hr311
       exact .gyes r r r (.ixa underlying25 sizeOf67 r e309 r h303 (idx_lt hx305 h303) r r (.gyes r r r (.fieldAddr underlying67 r sizeOf3 r (o := o307 + s244.toNat * 2) r r r (.gyes r r r (.ld1 (j := 0) isAgg3 hC310 r r r r r (.gyes r r r (.move r r r (.gyes r r r (.lt r r r r (.skips 1 r (.nil' fun c w ho hs => ⟨(decide (x304.At < (if r26.N < a2 then r26.N else a2))), hd, I247, (.refl _), ho.sub ⟨r, r, r, r, r, r, r, trivial⟩, hs.pick (.c .z (.c .z (.c .z (.c .z .n))))⟩)))))))))))
     rw [hb302]
     exact .skips 9 r (.nil' fun c w ho hs => ⟨false, hd, I247, (.refl _), ho.sub ⟨r, r, r, r, r, r, r, trivial⟩, hs.pick (.c .z (.c .z (.c .z (.c .z .n))))⟩)
   rintro s291 hd c w hst
   obtain ⟨I312, hl313, hok, hsym⟩ := hst
   have le314 := IH.le.trans le249 hl313
   have le315 := IH.le.trans le250 hl313
   have le316 := IH.le.trans (.refl _) hl313
   replace R34 := R34.mono hl313
   refine Cod.at hok hsym (.condP r hd (fun hb317 hd => ?_) fun hb317 hd => ?_)
   · refine .ownF (.s (.s (.s .z))) fun hne318 => ?_
     refine .draw [some 0, some 1, some 2, some 3, some 4, some 5, some 6, some 7, some 8, some 9, some 10, some 11, some 12, some 13, some 14, some 15, some 16, some 17, some 18] 19 MX (by kernel_rfl) (by kernel_rfl) (by kernel_rfl) (by kernel_rfl) (by kernel_rfl) (by kernel_rfl) (by kernel_rfl) (fun ex => (pto b11 (.cells #[.int .i64 r26.N, .slice p32 r26.Items.length c33] 38 (0, 0))) :: (pto b13 (.cells #[.int .i64 0, .slice none 0 0] 38 (0, 0))) :: (pto b41 (.cells #[.int .i64 (w64 ((if r26.N < a2 then r26.N else a2) - (if 0 > a1 then 0 else a1))), .slice p241 s240.length c242] 38 (0, 0))) :: (OwnSl eItem 67 p241 c242 s240) :: ex) (fun _ _ => (.s (.s (.s (.s .z))))) r (.f [] r (by kernel_rfl) r r (fun ex => .fieldAddr underlying38 r sizeOf25 r (o := 1) r r r .mk) (.f [0] r (by kernel_rfl) r r (fun ex => .load1 isAgg25 r (.s (.s .z)) r r r .mk) (.f [] r (by kernel_rfl) r r (fun ex => .fieldAddr underlying38 r sizeOf25 r (o := 1) r r r .mk) (.f [2] r (by kernel_rfl) r r (fun ex => .load1 isAgg25 r .z r r r .mk) (.fs [[]] r (by kernel_rfl) ?_)))))
     obtain ⟨h319, x320, hx321, hd⟩ := hd
     obtain ⟨b322, o323, cs324, e325, hC326, hr327⟩ := R34.2 _ _ hx321
     cases hr327
     refine .f [3, 4] r (by kernel_rfl) r r (fun ex => .ixa underlying25 sizeOf67 r e325 r h319 (idx_lt hx321 h319) r r .mk) (.f [5] r (by kernel_rfl) r r (fun ex => .fieldAddr underlying67 r sizeOf3 r (o := o323 + s244.toNat * 2) r r r .mk) (.f [6] r (by kernel_rfl) r r (fun ex => .ld1 (j := 0) isAgg3 hC326 r r r r r .mk) (.fs [[]] r (by kernel_rfl) (.f [7, 8] r (by kernel_rfl) r r (fun ex => .sub' r r r r .mk) (.f [] r (by kernel_rfl) r r (fun ex => .fieldAddr underlying38 r sizeOf25 r (o := 1) r r r .mk) (.f [10] r (by kernel_rfl) r r (fun ex => .load1 isAgg25 r .z r r r .mk) (.fs [[]] r (by kernel_rfl) ?_)))))))
     obtain ⟨h328, x329, hx330, hd⟩ := hd
     obtain ⟨b331, o332, cs333, e334, hC335, hr336⟩ := R34.2 _ _ hx330
     cases hr336
     refine .f [11, 12] r (by kernel_rfl) r r (fun ex => .ixa underlying25 sizeOf67 r e334 r h328 (idx_lt hx330 h328) r r .mk) (.f [13] r (by kernel_rfl) r r (fun ex => .fieldAddr underlying67 r sizeOf2 r (o := o332 + s244.toNat * 2 + 1) r r r .mk) (.f [14] r (by kernel_rfl) r r (fun ex => .ld1 (j := 1) isAgg2 hC335 r r r r r .mk) (.f [9, 15] r (by kernel_rfl) r r (fun ex => .build zeroValue67 underlying67 BI67 (.c r r r (.t .nil) (.c r r r (.s (.t .nil)) .n)) (by exact ⟨⟨_, _, r, r, r⟩, ⟨⟨_, _, r, r, r⟩, trivial⟩⟩) r r .mk) (.w [1, 0] [[], [16], [15, 16], [14, 15, 16], [13, 14, 15, 16], [13, 14, 15, 16], [11, 13, 14, 15, 16], [16], [9, 16], [9, 16], [7, 9, 16], [6, 7, 9, 16], [5, 6, 7, 9, 16], [5, 6, 7, 9, 16], [3, 5, 6, 7, 9, 16]] [16] r (by kernel_rfl) (by kernel_rfl) (by kernel_rfl) ((dropE_kept r r)) (.inr (dropE_kept r r)) fun ex => ?_))))
     refine .buildSlice 1 underlying25 sizeOf67 zeroValue67 r r (.c r r r .n) r r fun b337 => ?_
     refine .some (fun ex => (pto b337 (.cells #[.int .i64 (w64 (x320.At - (if 0 > a1 then 0 else a1))), .int .i64 x329.Val] 67 (0, 0))) :: (pto b11 (.cells #[.int .i64 r26.N, .slice p32 r26.Items.length c33] 38 (0, 0))) :: (pto b13 (.cells #[.int .i64 0, .slice none 0 0] 38 (0, 0))) :: (pto b41 (.cells #[.int .i64 (w64 ((if r26.N < a2 then r26.N else a2) - (if 0 > a1 then 0 else a1))), .slice p241 s240.length c242] 38 (0, 0))) :: (OwnSl eItem 67 p241 c242 s240) :: ex) r (fun _ _ => (.s (.s (.s (.s (.s .z)))))) r (.cc [0] r (by kernel_rfl) r r r (fun ex => .load1 isAgg25 r (.s (.s (.s .z))) r r r .mk) (.cc [] r (by kernel_rfl) r r r (fun ex => .fieldAddr underlying38 r sizeOf25 r (o := 1) r r r .mk) trivial)) (.w [] [[], [1]] [1, 17] r (by kernel_rfl) (by kernel_rfl) (by kernel_rfl) ((dropE_kept r r)) (.inr (dropE_kept r r)) fun ex => ?_)
     obtain ⟨hl339, hd⟩ := hd
     refine .append (ys := [({ At := w64 (x320.At - (if 0 > a1 then 0 else a1)), Val := x329.Val } : Item)]) 16 (.s (.s (.s (.s .z)))) underlying25 underlying25 IN67 r r r r r r r r r (.box .z (.one r) r) hl339 r r fun p340 c341 => ?_
     refine .some (fun ex => (OwnSl eItem 67 p340 c341 (s240 ++ ([({ At := w64 (x320.At - (if 0 > a1 then 0 else a1)), Val := x329.Val } : Item)]))) :: (pto b337 (.cells #[.int .i64 (w64 (x320.At - (if 0 > a1 then 0 else a1))), .int .i64 x329.Val] 67 (0, 0))) :: (pto b11 (.cells #[.int .i64 r26.N, .slice p32 r26.Items.length c33] 38 (0, 0))) :: (pto b13 (.cells #[.int .i64 0, .slice none 0 0] 38 (0, 0))) :: (pto b41 (.cells #[.int .i64 (w64 ((if r26.N < a2 then r26.N else a2) - (if 0 > a1 then 0 else a1))), .slice p241 s240.length c242] 38 (0, 0))) :: ex) r (fun _ _ => (.s (.s (.s (.s (.s .z)))))) r trivial (.e 19 (by kernel_rfl) (by kernel_rfl) (by kernel_rfl) (.fieldAddr underlying38 r sizeOf25 r (o := 1) r r r (.store1 sizeOf25 r r (.s (.s (.s (.s .z)))) (.s (.t .nil)) r (.nilS [8, 7, 6, 3, 2, 1] r r (.drop (.s .z) (.region (.skips 1 r (.add r r r r (.sub (E' := [(1, _), (2, _), (3, _), (6, _), (7, _), (30, _), (31, _)]) ⟨r, r, r, r, r, r, r, trivial⟩ ?_)))))))))
     exact .skips 1 r (.nil' fun c w ho hs => ⟨((s240 ++ ([({ At := w64 (x320.At - (if 0 > a1 then 0 else a1)), Val := x329.Val } : Item)])), w64 (s244 + 1)), hd, I312, _, _, le315, ho.sub ⟨r, r, r, r, r, r, trivial⟩, hs.pick (.c (.s .z) (.c (.s .z) (.c (.s .z) (.c .z .n))))⟩)
   exact .skipS [8, 7, 6, 3, 2, 1] r r (.region (.skips 1 r (.add r r r r (.sub (E' := [(1, _), (2, _), (3, _), (6, _), (7, _), (30, _), (31, _)]) ⟨r, r, r, r, r, r, r, trivial⟩ (.skips 1 r (.nil' fun c w ho hs => ⟨(s240, w64 (s244 + 1)), hd, I312, _, _, le315, ho.sub ⟨r, r, r, r, r, r, trivial⟩, hs.pick (.c .z (.c .z (.c .z (.c .z .n))))⟩))))))
 refine .exitS [7, 6] r r (.drop .z (.seq (.region (.loadW isAgg38 sizeOf38 r (.s .z) r r r (.storeA sizeOf38 r r .z (.t (.t .nil)) r r (.nilS [6] r r (.drop (.s .z) (.pub (.s .z) fun I343 hl344 R345 => ?_))))))))
 have le346 := IH.le.trans le249 hl344
 have le347 := IH.le.trans le250 hl344
 exact .ret (pret results23 (.w isAgg38 sizeOf38 r .z r .n) le346 ⟨({ N := w64 ((if r26.N < a2 then r26.N else a2) - (if 0 > a1 then 0 else a1)), Items := s240 } : Vec), _, _, r, R345, hd⟩)

theorem W_law14_PushParts {I : IH} {a0 : Law13_Task} {a1 : Int} {p1 : Option Addr} {c2 : Nat} {p4 : Option Addr} {c5 : Nat} {p7 : Option Addr} {c8 : Nat} {p10 : Option Addr} {c11 : Nat} {Q : Bool → Prop} (R3 : RepSl eTriple I p1 c2 a0.L) (R6 : RepSl eItem I p4 c5 a0.X) (R9 : RepSl eItem I p7 c8 a0.Y) (R12 : RepSl eU64 I p10 c11 a0.F) (hd : law14_PushParts a0 a1 Q) :
    PFun Tryz.prog 5 [.agg #[.int .i64 a0.Ring, .int .u8 a0.Size.1, .int .u8 a0.Size.2, .slice p1 a0.L.length c2, .slice p4 a0.X.length c5, .slice p7 a0.Y.length c8, .slice p10 a0.F.length c11, .bool a0.Others], .int .u8 a1] I (fun I_ v => ∃ r, v = .bool r ∧ Q r) := by
 refine Fun.enter func5 r ntmps5 r (.c (.c .n)) fun w0 M => ?_
 refine .seq (.region (.boxA r r r fun b15 => ?_))
 refine .skips 1 r (.nilS [2, 1] r r (.seq (.region (.fieldAddr underlying28 r sizeOf22 r (o := 0) r r r (.load1 isAgg22 r .z r r r ?_)))))
 have hw22 := W_law13_Right (I := I) hd
 refine .callP call21 r hw22 r r fun v23 hv24 => ?_
 obtain ⟨r21, rfl, hd⟩ := hv24
 refine .skips 1 r (.nilS [5, 2, 1] r r (.seq (.draw [some 0, some 2, some 3, some 4, some 6, some 7, some 1, some 5, none, some 8] 9 MX (by kernel_rfl) (by kernel_rfl) (by kernel_rfl) (by kernel_rfl) (by kernel_rfl) (by kernel_rfl) (by kernel_rfl) (fun ex => (pto b15 (.cells #[.int .i64 a0.Ring, .int .u8 a0.Size.1, .int .u8 a0.Size.2, .slice p1 a0.L.length c2, .slice p4 a0.X.length c5, .slice p7 a0.Y.length c8, .slice p10 a0.F.length c11, .bool a0.Others] 28 (0, 0))) :: ex) (fun _ _ => (.s .z)) r (.f [] r (by kernel_rfl) r r (fun ex => .loadW isAgg28 sizeOf28 r .z r r r .mk) (.f [] r (by kernel_rfl) r r (fun ex => .loadW isAgg28 sizeOf28 r .z r r r .mk) (.f [] r (by kernel_rfl) r r (fun ex => .fieldAddr underlying28 r sizeOf25 r (o := 4) r r r .mk) (.f [3] r (by kernel_rfl) r r (fun ex => .load1 isAgg25 r .z r r r .mk) (.a (fun b => .pointer (some ⟨b, 0, none⟩)) (fun b => pto b (.cells #[.int .i64 0, .int .i64 0, .slice none 0 0, .slice none 0 0, .slice none 0 0] 35 (0, 0))) r r r r (fun _ L hL ex => .allocA zeroValue35 r r fun b => .mk (val := fun b => .pointer (some ⟨b, 0, none⟩)) (atom := fun b => pto b (.cells #[.int .i64 0, .int .i64 0, .slice none 0 0, .slice none 0 0, .slice none 0 0] 35 (0, 0))) hL b) (.a (fun b => .pointer (some ⟨b, 0, none⟩)) (fun b => pto b (.cells #[.int .i64 0, .slice none 0 0] 38 (0, 0))) r r r r (fun _ L hL ex => .allocA zeroValue38 r r fun b => .mk (val := fun b => .pointer (some ⟨b, 0, none⟩)) (atom := fun b => pto b (.cells #[.int .i64 0, .slice none 0 0] 38 (0, 0))) hL b) ?_)))))))))
 refine .w [4, 3, 2] [[]] [0] r (by kernel_rfl) (by kernel_rfl) (by kernel_rfl) ((dropE_kept r r)) (.inr (dropE_kept r r)) fun ex => ?_
 have hw74 := W_law13_Task_Matrix (I := I) R3 R6 R9 R12 hd
 refine .call call8 r hw74 r r fun v63 I60 hl61 hv62 => ?_
 obtain ⟨r59, p65, c66, p68, c69, p71, c72, rfl, R67, R70, R73, hd⟩ := hv62
 have le75 := IH.le.trans (.refl _) hl61
 replace R3 := R3.mono hl61
 replace R6 := R6.mono hl61
 replace R9 := R9.mono hl61
 replace R12 := R12.mono hl61
 refine .some (fun ex => (pto b15 (.cells #[.int .i64 a0.Ring, .int .u8 a0.Size.1, .int .u8 a0.Size.2, .slice p1 a0.L.length c2, .slice p4 a0.X.length c5, .slice p7 a0.Y.length c8, .slice p10 a0.F.length c11, .bool a0.Others] 28 (0, 0))) :: ex) r (fun _ _ => (.s .z)) r (.cc [3] r (by kernel_rfl) r r r (fun ex => .load1 isAgg25 r .z r r r .mk) (.cc [] r (by kernel_rfl) r r r (fun ex => .fieldAddr underlying28 r sizeOf25 r (o := 4) r r r .mk) (.cc [] r (by kernel_rfl) r r r (fun ex => .loadW isAgg28 sizeOf28 r .z r r r .mk) trivial))) (.w [] [[], [4], []] [2, 4, 1] r (by kernel_rfl) (by kernel_rfl) (by kernel_rfl) ((dropE_kept r r)) (.inr (dropE_kept r r)) fun ex => ?_)
 have hw85 := W_law13_Task_Vector (I := I60) R3 R6 R9 R12 R6 hd
 refine .call call9 r hw85 r r fun v80 I77 hl78 hv79 => ?_
 obtain ⟨r76, p82, c83, rfl, R84, hd⟩ := hv79
 have le86 := IH.le.trans le75 hl78
 replace R3 := R3.mono hl78
 replace R6 := R6.mono hl78
 replace R9 := R9.mono hl78
 replace R12 := R12.mono hl78
 replace R67 := R67.mono hl78
 replace R70 := R70.mono hl78
 replace R73 := R73.mono hl78
 refine .some (fun ex => (pto b15 (.cells #[.int .i64 a0.Ring, .int .u8 a0.Size.1, .int .u8 a0.Size.2, .slice p1 a0.L.length c2, .slice p4 a0.X.length c5, .slice p7 a0.Y.length c8, .slice p10 a0.F.length c11, .bool a0.Others] 28 (0, 0))) :: ex) r (fun _ _ => (.s .z)) r trivial (.b r fun b87 b88 => DrawD.nop (.w [] [] [6, 1, 5, 0, 1, 6, 7] r (by kernel_rfl) (by kernel_rfl) (by kernel_rfl) ((dropE_none r)) (.inr (dropE_none r)) fun ex => ?_))
 refine .storeA sizeOf35 r r (.s (.s .z)) (.t (.t (.t (.t (.t .nil))))) r r (.none (fun ex => (pto b15 (.cells #[.int .i64 a0.Ring, .int .u8 a0.Size.1, .int .u8 a0.Size.2, .slice p1 a0.L.length c2, .slice p4 a0.X.length c5, .slice p7 a0.Y.length c8, .slice p10 a0.F.length c11, .bool a0.Others] 28 (0, 0))) :: (pto b87 (.cells #[.int .i64 0, .slice none 0 0] 38 (0, 0))) :: (pto b88 (.cells #[.int .i64 r59.Rows, .int .i64 r59.Cols, .slice p65 r59.Start.length c66, .slice p68 r59.Col.length c69, .slice p71 r59.Val.length c72] 35 (0, 0))) :: ex) r (fun _ _ => (.s (.s (.s .z)))) r trivial (.e 9 (by kernel_rfl) (by kernel_rfl) (by kernel_rfl) (.storeA sizeOf38 r r (.s .z) (.t (.t .nil)) r r (.nilS [6, 7, 5, 1] r r (.drop .z (.seq (.region (.skips 1 r (.conv underlying5 underlying3 r r r ?_)))))))))
 refine .fieldAddr underlying35 r sizeOf3 r (o := 1) r r r (.load1 isAgg3 r (.s .z) r r r (.add r r r r ?_))
 obtain ⟨hz90, hd⟩ := hd
 refine .rem r r hz90 r r (.skips 1 r (.nilS [8, 6, 7, 5] r r (.seq (.draw [some 0, some 1, some 3, some 2, some 4, some 5, some 6, some 7, some 8] 9 MX (by kernel_rfl) (by kernel_rfl) (by kernel_rfl) (by kernel_rfl) (by kernel_rfl) (by kernel_rfl) (by kernel_rfl) (fun ex => (pto b87 (.cells #[.int .i64 r76.N, .slice p82 r76.Items.length c83] 38 (0, 0))) :: (pto b88 (.cells #[.int .i64 r59.Rows, .int .i64 r59.Cols, .slice p65 r59.Start.length c66, .slice p68 r59.Col.length c69, .slice p71 r59.Val.length c72] 35 (0, 0))) :: ex) (fun _ _ => (.s (.s .z))) r (.fs [[]] r (by kernel_rfl) (.f [] r (by kernel_rfl) r r (fun ex => .loadW isAgg35 sizeOf35 r (.s .z) r r r .mk) (.f [] r (by kernel_rfl) r r (fun ex => .loadW isAgg38 sizeOf38 r .z r r r .mk) (.w [3, 0] [[]] [1] r (by kernel_rfl) (by kernel_rfl) (by kernel_rfl) ((dropE_kept r r)) (.inr (dropE_kept r r)) fun ex => ?_))))))))
 have hw140 := W_ref08_Of (I := I77) R67 R70 R73 hd
 refine .call call7 r hw140 r r fun v126 I123 hl124 hv125 => ?_
 obtain ⟨r122, p128, c129, p131, c132, p134, c135, p137, c138, rfl, R130, R133, R136, R139, hd⟩ := hv125
 have le141 := IH.le.trans le86 hl124
 replace R67 := R67.mono hl124
 replace R70 := R70.mono hl124
 replace R73 := R73.mono hl124
 replace R84 := R84.mono hl124
 refine .some (fun ex => (pto b87 (.cells #[.int .i64 r76.N, .slice p82 r76.Items.length c83] 38 (0, 0))) :: (pto b88 (.cells #[.int .i64 r59.Rows, .int .i64 r59.Cols, .slice p65 r59.Start.length c66, .slice p68 r59.Col.length c69, .slice p71 r59.Val.length c72] 35 (0, 0))) :: ex) r (fun _ _ => (.s (.s .z))) r (.cc [] r (by kernel_rfl) r r r (fun ex => .loadW isAgg38 sizeOf38 r .z r r r .mk) (.ccs [[]] r r (by kernel_rfl) trivial)) (.w [] [[], []] [0, 2, 3, 2] r (by kernel_rfl) (by kernel_rfl) (by kernel_rfl) ((dropE_kept r r)) (.inr (dropE_kept r r)) fun ex => ?_)
 have hw151 := W_push_Sums (I := I123) R130 R133 R136 R139 R84 (.nil _ none 0) hd
 refine .call call11 r hw151 r r fun v146 I143 hl144 hv145 => ?_
 obtain ⟨r142, p148, c149, rfl, R150, hd⟩ := hv145
 have le152 := IH.le.trans le141 hl144
 replace R67 := R67.mono hl144
 replace R70 := R70.mono hl144
 replace R73 := R73.mono hl144
 replace R84 := R84.mono hl144
 replace R130 := R130.mono hl144
 replace R133 := R133.mono hl144
 replace R136 := R136.mono hl144
 replace R139 := R139.mono hl144
 refine .some (fun ex => (pto b87 (.cells #[.int .i64 r76.N, .slice p82 r76.Items.length c83] 38 (0, 0))) :: (pto b88 (.cells #[.int .i64 r59.Rows, .int .i64 r59.Cols, .slice p65 r59.Start.length c66, .slice p68 r59.Col.length c69, .slice p71 r59.Val.length c72] 35 (0, 0))) :: ex) r (fun _ _ => (.s (.s .z))) r trivial (.fs [[4]] r (by kernel_rfl) (.f [5] r (by kernel_rfl) r r (fun ex => .extract r r r r .mk) (.f [5] r (by kernel_rfl) r r (fun ex => .extract r r r r .mk) (.fs [[6, 4, 0, 1, 2, 3, 4, 5, 6]] r (by kernel_rfl) (.e 9 (by kernel_rfl) (by kernel_rfl) (by kernel_rfl) (.skips 1 r (.nilS [10, 9, 8, 6, 7, 5] r r (.seq (.draw [some 0, some 1, some 2, some 3, some 4, some 5, some 6, some 9, some 10, some 7, some 8, some 11, some 12, some 13, some 14, some 15, some 16] 17 MX (by kernel_rfl) (by kernel_rfl) (by kernel_rfl) (by kernel_rfl) (by kernel_rfl) (by kernel_rfl) (by kernel_rfl) (fun ex => (pto b87 (.cells #[.int .i64 r76.N, .slice p82 r76.Items.length c83] 38 (0, 0))) :: (pto b88 (.cells #[.int .i64 r59.Rows, .int .i64 r59.Cols, .slice p65 r59.Start.length c66, .slice p68 r59.Col.length c69, .slice p71 r59.Val.length c72] 35 (0, 0))) :: ex) (fun _ _ => (.s (.s .z))) r ?_)))))))))
 refine .fs [[]] r (by kernel_rfl) (.f [] r (by kernel_rfl) r r (fun ex => .loadW isAgg35 sizeOf35 r (.s .z) r r r .mk) (.f [] r (by kernel_rfl) r r (fun ex => .fieldAddr underlying35 r sizeOf3 r (o := 0) r r r .mk) (.f [2] r (by kernel_rfl) r r (fun ex => .load1 isAgg3 r (.s .z) r r r .mk) (.f [3] r (by kernel_rfl) r r (fun ex => .buildArr zeroValue56 underlying56 sizeOf3 (.c r r r (.t .nil) (.c r r r (.s (.t .nil)) .n)) r r .mk) (.fs [[]] r (by kernel_rfl) (.f [5] r (by kernel_rfl) r r (fun ex => .buildArr zeroValue56 underlying56 sizeOf3 (.c r r r (.t .nil) (.c r r r (.s (.t .nil)) .n)) r r .mk) (.f [] r (by kernel_rfl) r r (fun ex => .loadW isAgg38 sizeOf38 r .z r r r .mk) (.fs [[]] r (by kernel_rfl) (.w [10, 9, 0] [[], [6], [], [4], [3, 4], []] [1, 4, 6] r (by kernel_rfl) (by kernel_rfl) (by kernel_rfl) ((dropE_kept r r)) (.inr (dropE_kept r r)) fun ex => ?_)))))))))
 have hw227 := W_ref07_Cut (I := I143) R67 R70 R73 hd
 refine .call call22 r hw227 r r fun v216 I213 hl214 hv215 => ?_
 obtain ⟨r212, p218, c219, p221, c222, p224, c225, rfl, R220, R223, R226, hd⟩ := hv215
 have le228 := IH.le.trans le152 hl214
 replace R67 := R67.mono hl214
 replace R70 := R70.mono hl214
 replace R73 := R73.mono hl214
 replace R84 := R84.mono hl214
 replace R150 := R150.mono hl214
 refine .some (fun ex => (pto b87 (.cells #[.int .i64 r76.N, .slice p82 r76.Items.length c83] 38 (0, 0))) :: (pto b88 (.cells #[.int .i64 r59.Rows, .int .i64 r59.Cols, .slice p65 r59.Start.length c66, .slice p68 r59.Col.length c69, .slice p71 r59.Val.length c72] 35 (0, 0))) :: ex) r (fun _ _ => (.s (.s .z))) r (.ccs [[]] r r (by kernel_rfl) (.cc [] r (by kernel_rfl) r r r (fun ex => .loadW isAgg38 sizeOf38 r .z r r r .mk) (.ccs [[]] r r (by kernel_rfl) trivial))) (.w [10, 9, 0] [] [7, 7] r (by kernel_rfl) (by kernel_rfl) (by kernel_rfl) ((dropE_kept r r)) (.inr (dropE_kept r r)) fun ex => ?_)
 have hw247 := W_ref08_Of (I := I213) R220 R223 R226 hd
 refine .call call7 r hw247 r r fun v233 I230 hl231 hv232 => ?_
 obtain ⟨r229, p235, c236, p238, c239, p241, c242, p244, c245, rfl, R237, R240, R243, R246, hd⟩ := hv232
 have le248 := IH.le.trans le228 hl231
 replace R67 := R67.mono hl231
 replace R70 := R70.mono hl231
 replace R73 := R73.mono hl231
 replace R84 := R84.mono hl231
 replace R150 := R150.mono hl231
 replace R220 := R220.mono hl231
 replace R223 := R223.mono hl231
 replace R226 := R226.mono hl231
 refine .some (fun ex => (pto b87 (.cells #[.int .i64 r76.N, .slice p82 r76.Items.length c83] 38 (0, 0))) :: (pto b88 (.cells #[.int .i64 r59.Rows, .int .i64 r59.Cols, .slice p65 r59.Start.length c66, .slice p68 r59.Col.length c69, .slice p71 r59.Val.length c72] 35 (0, 0))) :: ex) r (fun _ _ => (.s (.s .z))) r (.ccs [[]] r r (by kernel_rfl) (.cc [] r (by kernel_rfl) r r r (fun ex => .loadW isAgg38 sizeOf38 r .z r r r .mk) (.ccs [[]] r r (by kernel_rfl) trivial))) (.w [0] [[], []] [9, 10, 8] r (by kernel_rfl) (by kernel_rfl) (by kernel_rfl) ((dropE_kept r r)) (.inr (dropE_kept r r)) fun ex => ?_)
 have hw258 := W_ref09_Part (I := I230) R84 hd
 refine .call call23 r hw258 r r fun v253 I250 hl251 hv252 => ?_
 obtain ⟨r249, p255, c256, rfl, R257, hd⟩ := hv252
 have le259 := IH.le.trans le248 hl251
 replace R67 := R67.mono hl251
 replace R70 := R70.mono hl251
 replace R73 := R73.mono hl251
 replace R84 := R84.mono hl251
 replace R150 := R150.mono hl251
 replace R220 := R220.mono hl251
 replace R223 := R223.mono hl251
 replace R226 := R226.mono hl251
 replace R237 := R237.mono hl251
 replace R240 := R240.mono hl251
 replace R243 := R243.mono hl251
 replace R246 := R246.mono hl251
 refine .some (fun ex => (pto b87 (.cells #[.int .i64 r76.N, .slice p82 r76.Items.length c83] 38 (0, 0))) :: (pto b88 (.cells #[.int .i64 r59.Rows, .int .i64 r59.Cols, .slice p65 r59.Start.length c66, .slice p68 r59.Col.length c69, .slice p71 r59.Val.length c72] 35 (0, 0))) :: ex) r (fun _ _ => (.s (.s .z))) r (.ccs [[]] r r (by kernel_rfl) trivial) (.w [] [[]] [0, 8, 11, 11] r (by kernel_rfl) (by kernel_rfl) (by kernel_rfl) ((dropE_kept r r)) (.inr (dropE_kept r r)) fun ex => ?_)
 have hw269 := W_push_Sums (I := I250) R237 R240 R243 R246 R257 (.nil _ none 0) hd
 refine .call call11 r hw269 r r fun v264 I261 hl262 hv263 => ?_
 obtain ⟨r260, p266, c267, rfl, R268, hd⟩ := hv263
 have le270 := IH.le.trans le259 hl262
 replace R67 := R67.mono hl262
 replace R70 := R70.mono hl262
 replace R73 := R73.mono hl262
 replace R84 := R84.mono hl262
 replace R150 := R150.mono hl262
 replace R220 := R220.mono hl262
 replace R223 := R223.mono hl262
 replace R226 := R226.mono hl262
 replace R237 := R237.mono hl262
 replace R240 := R240.mono hl262
 replace R243 := R243.mono hl262
 replace R246 := R246.mono hl262
 replace R257 := R257.mono hl262
 refine .some (fun ex => (pto b87 (.cells #[.int .i64 r76.N, .slice p82 r76.Items.length c83] 38 (0, 0))) :: (pto b88 (.cells #[.int .i64 r59.Rows, .int .i64 r59.Cols, .slice p65 r59.Start.length c66, .slice p68 r59.Col.length c69, .slice p71 r59.Val.length c72] 35 (0, 0))) :: ex) r (fun _ _ => (.s (.s .z))) r trivial (.fs [[12]] r (by kernel_rfl) (.f [13] r (by kernel_rfl) r r (fun ex => .extract r r r r .mk) (.f [13] r (by kernel_rfl) r r (fun ex => .extract r r r r .mk) (.fs [[14, 12, 0, 1, 2, 3, 4, 5, 6, 7, 8, 9, 10, 11, 12, 13, 14]] r (by kernel_rfl) (.e 17 (by kernel_rfl) (by kernel_rfl) (by kernel_rfl) (.skips 1 r (.nilS [12, 11, 10, 9, 8, 6, 7, 5] r r (.seq (.draw [some 0, some 1, some 2, some 3, some 4, some 5, some 6, some 7, some 8, some 11, some 12, some 13, some 14, some 9, some 10, some 15, some 16, some 17, some 18, some 19, some 20] 21 MX (by kernel_rfl) (by kernel_rfl) (by kernel_rfl) (by kernel_rfl) (by kernel_rfl) (by kernel_rfl) (by kernel_rfl) (fun ex => (pto b87 (.cells #[.int .i64 r76.N, .slice p82 r76.Items.length c83] 38 (0, 0))) :: (pto b88 (.cells #[.int .i64 r59.Rows, .int .i64 r59.Cols, .slice p65 r59.Start.length c66, .slice p68 r59.Col.length c69, .slice p71 r59.Val.length c72] 35 (0, 0))) :: ex) (fun _ _ => (.s (.s .z))) r ?_)))))))))
 refine .fs [[]] r (by kernel_rfl) (.f [] r (by kernel_rfl) r r (fun ex => .loadW isAgg35 sizeOf35 r (.s .z) r r r .mk) (.f [] r (by kernel_rfl) r r (fun ex => .fieldAddr underlying35 r sizeOf3 r (o := 0) r r r .mk) (.f [2] r (by kernel_rfl) r r (fun ex => .load1 isAgg3 r (.s .z) r r r .mk) (.f [3] r (by kernel_rfl) r r (fun ex => .buildArr zeroValue56 underlying56 sizeOf3 (.c r r r (.t .nil) (.c r r r (.s (.t .nil)) .n)) r r .mk) (.fs [[]] r (by kernel_rfl) (.f [] r (by kernel_rfl) r r (fun ex => .fieldAddr underlying35 r sizeOf3 r (o := 1) r r r .mk) (.f [6] r (by kernel_rfl) r r (fun ex => .load1 isAgg3 r (.s .z) r r r .mk) (.f [5, 7] r (by kernel_rfl) r r (fun ex => .buildArr zeroValue56 underlying56 sizeOf3 (.c r r r (.t .nil) (.c r r r (.s (.t .nil)) .n)) r r .mk) (.f [] r (by kernel_rfl) r r (fun ex => .loadW isAgg38 sizeOf38 r .z r r r .mk) ?_)))))))))
 refine .fs [[]] r (by kernel_rfl) (.f [] r (by kernel_rfl) r r (fun ex => .fieldAddr underlying35 r sizeOf3 r (o := 1) r r r .mk) (.f [13] r (by kernel_rfl) r r (fun ex => .load1 isAgg3 r (.s .z) r r r .mk) (.w [14, 13, 12, 11, 0] [[], [8], [7, 8], [8], [], [4], [3, 4], []] [1, 4, 8] r (by kernel_rfl) (by kernel_rfl) (by kernel_rfl) ((dropE_kept r r)) (.inr (dropE_kept r r)) fun ex => ?_)))
 have hw345 := W_ref07_Cut (I := I261) R67 R70 R73 hd
 refine .call call22 r hw345 r r fun v334 I331 hl332 hv333 => ?_
 obtain ⟨r330, p336, c337, p339, c340, p342, c343, rfl, R338, R341, R344, hd⟩ := hv333
 have le346 := IH.le.trans le270 hl332
 replace R67 := R67.mono hl332
 replace R70 := R70.mono hl332
 replace R73 := R73.mono hl332
 replace R84 := R84.mono hl332
 replace R150 := R150.mono hl332
 replace R268 := R268.mono hl332
 refine .some (fun ex => (pto b87 (.cells #[.int .i64 r76.N, .slice p82 r76.Items.length c83] 38 (0, 0))) :: (pto b88 (.cells #[.int .i64 r59.Rows, .int .i64 r59.Cols, .slice p65 r59.Start.length c66, .slice p68 r59.Col.length c69, .slice p71 r59.Val.length c72] 35 (0, 0))) :: ex) r (fun _ _ => (.s (.s .z))) r (.cc [13] r (by kernel_rfl) r r r (fun ex => .load1 isAgg3 r (.s .z) r r r .mk) (.cc [] r (by kernel_rfl) r r r (fun ex => .fieldAddr underlying35 r sizeOf3 r (o := 1) r r r .mk) (.ccs [[]] r r (by kernel_rfl) (.cc [] r (by kernel_rfl) r r r (fun ex => .loadW isAgg38 sizeOf38 r .z r r r .mk) (.ccs [[]] r r (by kernel_rfl) trivial))))) (.w [14, 13, 12, 11, 0] [] [9, 9] r (by kernel_rfl) (by kernel_rfl) (by kernel_rfl) ((dropE_kept r r)) (.inr (dropE_kept r r)) fun ex => ?_)
 have hw365 := W_ref08_Of (I := I331) R338 R341 R344 hd
 refine .call call7 r hw365 r r fun v351 I348 hl349 hv350 => ?_
 obtain ⟨r347, p353, c354, p356, c357, p359, c360, p362, c363, rfl, R355, R358, R361, R364, hd⟩ := hv350
 have le366 := IH.le.trans le346 hl349
 replace R67 := R67.mono hl349
 replace R70 := R70.mono hl349
 replace R73 := R73.mono hl349
 replace R84 := R84.mono hl349
 replace R150 := R150.mono hl349
 replace R268 := R268.mono hl349
 replace R338 := R338.mono hl349
 replace R341 := R341.mono hl349
 replace R344 := R344.mono hl349
 refine .some (fun ex => (pto b87 (.cells #[.int .i64 r76.N, .slice p82 r76.Items.length c83] 38 (0, 0))) :: (pto b88 (.cells #[.int .i64 r59.Rows, .int .i64 r59.Cols, .slice p65 r59.Start.length c66, .slice p68 r59.Col.length c69, .slice p71 r59.Val.length c72] 35 (0, 0))) :: ex) r (fun _ _ => (.s (.s .z))) r (.cc [13] r (by kernel_rfl) r r r (fun ex => .load1 isAgg3 r (.s .z) r r r .mk) (.cc [] r (by kernel_rfl) r r r (fun ex => .fieldAddr underlying35 r sizeOf3 r (o := 1) r r r .mk) (.ccs [[]] r r (by kernel_rfl) (.cc [] r (by kernel_rfl) r r r (fun ex => .loadW isAgg38 sizeOf38 r .z r r r .mk) (.ccs [[]] r r (by kernel_rfl) trivial))))) (.w [0] [[], [14], [], []] [11, 12, 14, 10] r (by kernel_rfl) (by kernel_rfl) (by kernel_rfl) ((dropE_kept r r)) (.inr (dropE_kept r r)) fun ex => ?_)
 have hw376 := W_ref09_Part (I := I348) R84 hd
 refine .call call23 r hw376 r r fun v371 I368 hl369 hv370 => ?_
 obtain ⟨r367, p373, c374, rfl, R375, hd⟩ := hv370
 have le377 := IH.le.trans le366 hl369
 replace R67 := R67.mono hl369
 replace R70 := R70.mono hl369
 replace R73 := R73.mono hl369
 replace R84 := R84.mono hl369
 replace R150 := R150.mono hl369
 replace R268 := R268.mono hl369
 replace R338 := R338.mono hl369
 replace R341 := R341.mono hl369
 replace R344 := R344.mono hl369
 replace R355 := R355.mono hl369
 replace R358 := R358.mono hl369
 replace R361 := R361.mono hl369
 replace R364 := R364.mono hl369
 refine .some (fun ex => (pto b87 (.cells #[.int .i64 r76.N, .slice p82 r76.Items.length c83] 38 (0, 0))) :: (pto b88 (.cells #[.int .i64 r59.Rows, .int .i64 r59.Cols, .slice p65 r59.Start.length c66, .slice p68 r59.Col.length c69, .slice p71 r59.Val.length c72] 35 (0, 0))) :: ex) r (fun _ _ => (.s (.s .z))) r (.ccs [[]] r r (by kernel_rfl) trivial) (.w [] [[]] [0, 10, 15, 15] r (by kernel_rfl) (by kernel_rfl) (by kernel_rfl) ((dropE_kept r r)) (.inr (dropE_kept r r)) fun ex => ?_)
 have hw387 := W_push_Sums (I := I368) R355 R358 R361 R364 R375 (.nil _ none 0) hd
 refine .call call11 r hw387 r r fun v382 I379 hl380 hv381 => ?_
 obtain ⟨r378, p384, c385, rfl, R386, hd⟩ := hv381
 have le388 := IH.le.trans le377 hl380
 replace R67 := R67.mono hl380
 replace R70 := R70.mono hl380
 replace R73 := R73.mono hl380
 replace R84 := R84.mono hl380
 replace R150 := R150.mono hl380
 replace R268 := R268.mono hl380
 replace R338 := R338.mono hl380
 replace R341 := R341.mono hl380
 replace R344 := R344.mono hl380
 replace R355 := R355.mono hl380
 replace R358 := R358.mono hl380
 replace R361 := R361.mono hl380
 replace R364 := R364.mono hl380
 replace R375 := R375.mono hl380
 refine .some (fun ex => (pto b87 (.cells #[.int .i64 r76.N, .slice p82 r76.Items.length c83] 38 (0, 0))) :: (pto b88 (.cells #[.int .i64 r59.Rows, .int .i64 r59.Cols, .slice p65 r59.Start.length c66, .slice p68 r59.Col.length c69, .slice p71 r59.Val.length c72] 35 (0, 0))) :: ex) r (fun _ _ => (.s (.s .z))) r trivial (.fs [[16]] r (by kernel_rfl) (.f [17] r (by kernel_rfl) r r (fun ex => .extract r r r r .mk) (.f [17] r (by kernel_rfl) r r (fun ex => .extract r r r r .mk) (.fs [[18, 16, 0, 1, 2, 3, 4, 5, 6, 7, 8, 9, 10, 11, 12, 13, 14, 15, 16, 17, 18]] r (by kernel_rfl) (.e 21 (by kernel_rfl) (by kernel_rfl) (by kernel_rfl) (.skips 1 r (.nilS [14, 13, 12, 11, 10, 9, 5] r r (.drop .z (.drop .z ?_)))))))))
 refine .seq (.region (.skips 3 r (.buildSlice 2 underlying75 sizeOf41 zeroValue41 r r (.c r r r (.c r r r .n)) r r fun b406 => ?_)))
 refine .pubB (El := (slEl eSum)) (ys := ([r260.1, r378.1] : List (List Sum))) (k := 2) .z (RepCs.cons (cs := [.slice p266 r260.1.length c267]) ⟨_, _, r, R268⟩ (RepCs.cons (cs := [.slice p384 r378.1.length c385]) ⟨_, _, r, R386⟩ .nil)) r fun I408 hl409 R410 => ?_
 have le411 := IH.le.trans le388 hl409
 replace R150 := R150.mono hl409
 replace R268 := R268.mono hl409
 replace R386 := R386.mono hl409
 have hw421 := W_push_Merge (I := I408) R410 hd
 refine .call call24 r hw421 r r fun v416 I413 hl414 hv415 => ?_
 obtain ⟨r412, p418, c419, rfl, R420, hd⟩ := hv415
 have le422 := IH.le.trans le411 hl414
 replace R150 := R150.mono hl414
 replace R268 := R268.mono hl414
 replace R386 := R386.mono hl414
 replace R410 := R410.mono hl414
 refine .skips 1 r (.extract r r r r (.extract r r r r (.skips 2 r (.nilS [16, 15, 14, 13, 12, 11, 10, 9, 5] r r (.seq (.region (.skips 3 r (.buildSlice 2 underlying75 sizeOf41 zeroValue41 r r (.c r r r (.c r r r .n)) r r fun b440 => ?_))))))))
 refine .pubB (El := (slEl eSum)) (ys := ([r378.1, r260.1] : List (List Sum))) (k := 2) .z (RepCs.cons (cs := [.slice p384 r378.1.length c385]) ⟨_, _, r, R386⟩ (RepCs.cons (cs := [.slice p266 r260.1.length c267]) ⟨_, _, r, R268⟩ .nil)) r fun I442 hl443 R444 => ?_
 have le445 := IH.le.trans le422 hl443
 replace R150 := R150.mono hl443
 replace R268 := R268.mono hl443
 replace R386 := R386.mono hl443
 replace R420 := R420.mono hl443
 have hw455 := W_push_Merge (I := I442) R444 hd
 refine .call call24 r hw455 r r fun v450 I447 hl448 hv449 => ?_
 obtain ⟨r446, p452, c453, rfl, R454, hd⟩ := hv449
 have le456 := IH.le.trans le445 hl448
 replace R150 := R150.mono hl448
 replace R268 := R268.mono hl448
 replace R386 := R386.mono hl448
 replace R420 := R420.mono hl448
 replace R444 := R444.mono hl448
 refine .skips 1 r (.extract r r r r (.extract r r r r (.skips 2 r (.nilS [18, 17, 16, 15, 14, 12, 10, 9] r r (.seq (.region ?_))))))
 have hw458 := W_law14_live (I := I447) hd
 refine .callP call15 r hw458 r r fun v459 hv460 => ?_
 obtain ⟨r457, rfl, hd⟩ := hv460
 refine .skips 1 r ?_
 refine splitP hd (fun hb461 hd => ?_) fun hb461 hd => ?_
 · rw [hb461]
   refine .gyes r r r (.move r r r (.gyes r r r (.eq r r r r (.skips 2 r ?_))))
   refine splitP hd (fun hb462 hd => ?_) fun hb462 hd => ?_
   · rw [hb462]
     refine .gyes r r r (.move r r r (.gyes r r r (.eq r r r r (.skips 2 r ?_))))
     refine splitP hd (fun hb463 hd => ?_) fun hb463 hd => ?_
     · rw [hb463]
       refine .gyes r r r (.move r r r (.gyes r r r (.eq r r r r (.skips 2 r ?_))))
       refine splitP hd (fun hb464 hd => ?_) fun hb464 hd => ?_
       · rw [hb464]
         refine .gyes r r r (.move r r r (.gyes r r r (.eq r r r r (.skips 2 r ?_))))
         refine splitP hd (fun hb465 hd => ?_) fun hb465 hd => ?_
         · rw [hb465]
           refine .gyes r r r (.move r r r (.gyes r r r (.eq r r r r (.skips 2 r ?_))))
           refine splitP hd (fun hb466 hd => ?_) fun hb466 hd => ?_
           · rw [hb466]
             refine .gyes r r r (.move r r r (.gyes r r r (.move r r r ?_)))
             have hw468 := W_ref13_SameSums (I := I447) R150 R420 hd
             refine .gyes r r r (.callP call16 r hw468 r r fun v469 hv470 => ?_)
             obtain ⟨r467, rfl, hd⟩ := hv470
             refine .skips 2 r ?_
             refine splitP hd (fun hb471 hd => ?_) fun hb471 hd => ?_
             · rw [hb471]
               refine .gyes r r r (.move r r r (.gyes r r r (.move r r r ?_)))
               have hw473 := W_ref13_SameSums (I := I447) R420 R454 hd
               refine .gyes r r r (.callP call16 r hw473 r r fun v474 hv475 => ?_)
               obtain ⟨r472, rfl, hd⟩ := hv475
               exact .skips 2 r (.nilS [4] r r (.ret (pret results5 (.t r .n) le456 ⟨r472, r, hd⟩)))
             rw [hb471]
             exact .skips 5 r (.nilS [4] r r (.ret (pret results5 (.t r .n) le456 ⟨false, r, hd⟩)))
           rw [hb466]
           exact .skips 10 r (.nilS [4] r r (.ret (pret results5 (.t r .n) le456 ⟨false, r, hd⟩)))
         rw [hb465]
         exact .skips 14 r (.nilS [4] r r (.ret (pret results5 (.t r .n) le456 ⟨false, r, hd⟩)))
       rw [hb464]
       exact .skips 18 r (.nilS [4] r r (.ret (pret results5 (.t r .n) le456 ⟨false, r, hd⟩)))
     rw [hb463]
     exact .skips 22 r (.nilS [4] r r (.ret (pret results5 (.t r .n) le456 ⟨false, r, hd⟩)))
   rw [hb462]
   exact .skips 26 r (.nilS [4] r r (.ret (pret results5 (.t r .n) le456 ⟨false, r, hd⟩)))
 rw [hb461]
 exact .skips 30 r (.nilS [4] r r (.ret (pret results5 (.t r .n) le456 ⟨false, r, hd⟩)))

end Go.Proofs.YtdfiinkpdaggeaaGreat
