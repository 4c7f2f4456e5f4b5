/- The walks (printed by a program of ours). -/
import Derived.Test.YtdfiinkpdaggeaaGreatV2
namespace Go.Proofs.YtdfiinkpdaggeaaGreat
open Go Go.Fw
set_option linter.unusedVariables false
set_option linter.unusedSimpArgs false
set_option maxRecDepth 8000
set_option maxHeartbeats 1000000
open Tryz
theorem W_law13_Right {I : IH} {a0 : Int}  {Q : Int → Prop}  (hd : law13_Right a0 Q) :
    PFun Tryz.prog 21 [.int .i64 a0] I (fun I_ v => ∃ r, v = .int .i64 r ∧ Q r) := by
 refine Fun.enter func21 r ntmps21 r (.c .n) fun w0 M => ?_
 refine .seq (.region (.skips 1 r (.nilS [0] r r (.seq (.seq (.region (.skips 1 r (.lt r r r r (.skips 1 r ?_)))))))))
 refine splitP hd (fun hb1 hd => ?_) fun hb1 hd => ?_
 · rw [hb1]
   exact .skips 3 r (.nilS [8, 0] r r (.condKT r r (.seq (.region (.skips 1 r (.nilS [2] r r (.ret (pret results21 (.t r .n) (.refl _) ⟨1, r, hd⟩))))))))
 rw [hb1]
 refine .gyes r r r (.move r r r (.gyes r r r (.gt r r r r (.skips 1 r (.nilS [8, 0] r r (.condP r hd (fun hb2 hd => ?_) fun hb2 hd => ?_))))))
 · exact .seq (.region (.skips 1 r (.nilS [2] r r (.ret (pret results21 (.t r .n) (.refl _) ⟨1, r, hd⟩)))))
 exact .skipS [0] r r (.seq (.region (.skips 2 r (.nilS [2] r r (.ret (pret results21 (.t r .n) (.refl _) ⟨a0, r, hd⟩))))))

theorem W_law07_Size {I : IH} {a0 : Int}  {Q : Int → Prop}  (hd : law07_Size a0 Q) :
    PFun Tryz.prog 33 [.int .u8 a0] I (fun I_ v => ∃ r, v = .int .i64 r ∧ Q r) := by
 refine Fun.enter func33 r ntmps33 r (.c .n) fun w0 M => ?_
 refine .seq (.region (.skips 1 r (.nilS [0] r r (.seq (.region (.skips 1 r (.conv underlying5 underlying3 r r r (.rem r r (by decide) r r (.skips 1 r ?_)))))))))
 exact .nilS [2] r r (.ret (pret results33 (.t r .n) (.refl _) ⟨((w64 (a0)).tmod 40), r, hd⟩))

theorem W_law07_Few {I : IH} {a0 : List Triple} {p1 : Option Addr} {c2 : Nat} {Q : (List Triple) → Prop} (R3 : RepSl eTriple I p1 c2 a0) (hd : law07_Few a0 Q) :
    PFun Tryz.prog 70 [.slice p1 a0.length c2] I (fun I_ v => ∃ r p4 c5, v = .slice p4 r.length c5 ∧ RepSl eTriple I_ p4 c5 r ∧ Q r) := by
 refine Fun.enter func70 r ntmps70 r (.c .n) fun w0 M => ?_
 refine .seq (.region (.skips 1 r (.nilS [0] r r (.seq (.seq (.region (.skips 1 r (.len underlying24 r r r r (.gt r r r r ?_)))))))))
 refine .nilS [5, 0] r r (.condP r hd (fun hb7 hd => ?_) fun hb7 hd => ?_)
 · refine .region (.skips 1 r ?_)
   obtain ⟨h8, h9, h10, hd⟩ := hd
   have h16 : Int.toNat 0 ≤ Int.toNat 60 := by omega
   have h17 : Int.toNat 60 ≤ a0.length := by omega
   obtain ⟨p11, c12, e14, e15, R13⟩ := RepSl.sliceW R3 (Int.toNat 0) (Int.toNat 60) c2 h16 h17 (.inl rfl)
   exact .sliceW (L := Int.toNat 0) (H := Int.toNat 60) (cm := c2) underlying24 sizeOf84 r r R3.1 r r r (.inl ⟨r, r⟩) (.inr ⟨_, _, r, (by omega), r⟩) (.inl r) h16 h17 r e14 e15 r r (.sub (E' := [(5, _), (6, _), (7, _)]) ⟨r, r, r, trivial⟩ (.skips 1 r (.nilS [0] r r (.seq (.region (.skips 2 r (.nilS [2] r r (.ret (pret results70 (.t r .n) (.refl _) ⟨((a0.take (Int.toNat 60)).drop (Int.toNat 0)), _, _, r, R13, hd⟩)))))))))
 exact .skipS [0] r r (.seq (.region (.skips 2 r (.nilS [2] r r (.ret (pret results70 (.t r .n) (.refl _) ⟨a0, _, _, r, R3, hd⟩))))))

theorem W_law07_Some {I : IH} {a0 : Int × Int} {a1 : List Triple} {p1 : Option Addr} {c2 : Nat} {Q : Rows → Prop} (R3 : RepSl eTriple I p1 c2 a1) (hd : law07_Some a0 a1 Q) :
    PFun Tryz.prog 30 [.agg #[.int .u8 a0.1, .int .u8 a0.2], .slice p1 a1.length c2] I (fun I_ v => ∃ r p4 c5 p7 c8 p10 c11, v = .agg #[.int .i64 r.Rows, .int .i64 r.Cols, .slice p4 r.Start.length c5, .slice p7 r.Col.length c8, .slice p10 r.Val.length c11] ∧ RepSl eI64 I_ p4 c5 r.Start ∧ RepSl eI64 I_ p7 c8 r.Col ∧ RepSl eI64 I_ p10 c11 r.Val ∧ Q r) := by
 refine Fun.enter func30 r ntmps30 r (.c (.c .n)) fun w0 M => ?_
 refine .seq (.region (.boxA r r r fun b17 => ?_))
 refine .allocA zeroValue35 r r fun b19 => ?_
 refine .nilS [4, 2, 1] r r (.seq (.draw [some 0, some 1, some 3, some 4, some 2, some 5, some 6] 7 MX (by kernel_rfl) (by kernel_rfl) (by kernel_rfl) (by kernel_rfl) (by kernel_rfl) (by kernel_rfl) (by kernel_rfl) (fun ex => (pto b19 (.cells #[.int .i64 0, .int .i64 0, .slice none 0 0, .slice none 0 0, .slice none 0 0] 35 (0, 0))) :: (pto b17 (.cells #[.int .u8 a0.1, .int .u8 a0.2] 23 (0, 0))) :: ex) (fun _ _ => (.s (.s .z))) r (.f [] r (by kernel_rfl) r r (fun ex => .ixArr (i := 0) underlying23 sizeOf5 r r (by decide) (o := 0) r r r .mk) (.f [0] r (by kernel_rfl) r r (fun ex => .load1 isAgg5 r (.s .z) r r r .mk) (.f [] r (by kernel_rfl) r r (fun ex => .ixArr (i := 1) underlying23 sizeOf5 r r (by decide) (o := 1) r r r .mk) (.f [3] r (by kernel_rfl) r r (fun ex => .load1 isAgg5 r (.s .z) r r r .mk) (.w [4, 3] [[], [1]] [1] r (by kernel_rfl) (by kernel_rfl) (by kernel_rfl) ((dropE_kept r r)) (.inr (dropE_kept r r)) fun ex => ?_)))))))
 have hw30 := W_law07_Size (I := I) hd
 refine .callP call33 r hw30 r r fun v31 hv32 => ?_
 obtain ⟨r29, rfl, hd⟩ := hv32
 refine .some (fun ex => (pto b19 (.cells #[.int .i64 0, .int .i64 0, .slice none 0 0, .slice none 0 0, .slice none 0 0] 35 (0, 0))) :: (pto b17 (.cells #[.int .u8 a0.1, .int .u8 a0.2] 23 (0, 0))) :: ex) r (fun _ _ => (.s (.s .z))) r (.cc [3] r (by kernel_rfl) r r r (fun ex => .load1 isAgg5 r (.s .z) r r r .mk) (.cc [] r (by kernel_rfl) r r r (fun ex => .ixArr (i := 1) underlying23 sizeOf5 r r (by decide) (o := 1) r r r .mk) trivial)) (.w [] [[], [4]] [4, 2] r (by kernel_rfl) (by kernel_rfl) (by kernel_rfl) ((dropE_kept r r)) (.inr (dropE_kept r r)) fun ex => ?_)
 have hw34 := W_law07_Size (I := I) hd
 refine .callP call33 r hw34 r r fun v35 hv36 => ?_
 obtain ⟨r33, rfl, hd⟩ := hv36
 refine .some (fun ex => (pto b19 (.cells #[.int .i64 0, .int .i64 0, .slice none 0 0, .slice none 0 0, .slice none 0 0] 35 (0, 0))) :: (pto b17 (.cells #[.int .u8 a0.1, .int .u8 a0.2] 23 (0, 0))) :: ex) r (fun _ _ => (.s (.s .z))) r trivial (.fs [[2, 5, 0, 1, 2]] r (by kernel_rfl) (.e 7 (by kernel_rfl) (by kernel_rfl) (by kernel_rfl) (.skips 1 r (.nilS [6, 5, 4, 1] r r (.drop (.s .z) (.seq (.region (.skips 1 r (.nilS [7, 6, 5, 4, 1] r r ?_)))))))))
 refine .seq (.region (.skips 1 r ?_))
 have hw57 := W_law07_Few (I := I) R3 hd
 refine .call call70 r hw57 r r fun v52 I49 hl50 hv51 => ?_
 obtain ⟨r48, p54, c55, rfl, R56, hd⟩ := hv51
 have le58 := IH.le.trans (.refl _) hl50
 replace R3 := R3.mono hl50
 refine .sub (E' := [(4, _), (5, _), (6, _), (7, _), (18, _), (19, _)]) ⟨r, r, r, r, r, r, trivial⟩ (.skips 1 r (.nilS [1, 7, 6, 5, 4] r r (.seq (.seq (.region (.skips 1 r (.nilS [8, 1, 7, 6, 5, 4] r r (.block (.own0 eTriple 84 ?_)))))))))
 refine .loop hd (fun (s : (List Triple) × Int) c w => match s with | (s307, s311) => ∃ I_ p308 c309, IH.le I49 I_ ∧ Ok ⟨73, [], none⟩ [(1, .slice p54 r48.length c55), (4, .pointer (some ⟨b19, 0, none⟩)), (5, .int .i64 r29), (6, .int .i64 r33), (7, .slice p308 s307.length c309), (8, .int .i64 s311)] c ∧ Sym w0 M I I_ [pto b19 (.cells #[.int .i64 0, .int .i64 0, .slice none 0 0, .slice none 0 0, .slice none 0 0] 35 (0, 0)), OwnSl eTriple 84 p308 c309 s307] w) (fun c w ho hs => ⟨I49, _, _, (.refl _), ho.sub ⟨r, r, r, r, r, r, trivial⟩, hs.pick (.c (.s .z) (.c .z .n))⟩) ?_
 rintro ⟨s307, s311⟩ next313 hd c w hst
 obtain ⟨I314, p308, c309, hl315, hok, hsym⟩ := hst
 have le316 := IH.le.trans le58 hl315
 have le317 := IH.le.trans (.refl _) hl315
 replace R56 := R56.mono hl315
 refine Cod.at hok hsym (.seq (.seq (.region (.skips 2 r (.len underlying24 r r r r (.lt r r r r (.nilS [23, 8, 7, 6, 5, 4, 1] r r (.condP r hd (fun hb319 hd => ?_) fun hb319 hd => ?_))))))))
 · refine .skipS [8, 7, 6, 5, 4, 1] r r (.seq (.block (.seq (.region (.skips 2 r ?_)))))
   obtain ⟨h331, x332, hx333, hd⟩ := hd
   obtain ⟨b334, o335, cs336, e337, hC338, hr339⟩ := R56.2 _ _ hx333
   cases hr339
   refine .ixa underlying24 sizeOf84 r e337 r h331 (idx_lt hx333 h331) r r (.ldW isAgg84 sizeOf84 hC338 r r r r (.allocA zeroValue84 r r fun b340 => ?_))
   refine .storeA sizeOf84 r r .z (.t (.t (.t .nil))) r r (.nilS [9, 8, 7, 6, 5, 4, 1] r r (.seq (.seq (.region (.fieldAddr underlying84 r sizeOf3 r (o := 0) r r r (.load1 isAgg3 r .z r r r (.lt r r r r (.skips 1 r ?_))))))))
   refine splitP hd (fun hb346 hd => ?_) fun hb346 hd => ?_
   · rw [hb346]
     refine .skips 12 r (.nilS [45, 9, 8, 7, 6, 5, 4, 1] r r (.condKT r r (.exitS [8, 7, 6, 5, 4, 1] r r (.drop .z (.region (.skips 1 r (.add r r r r (.sub (E' := [(1, _), (4, _), (5, _), (6, _), (7, _), (24, _), (25, _)]) ⟨r, r, r, r, r, r, r, trivial⟩ (.skips 1 r ?_)))))))))
     exact .nil' fun c w ho hs => ⟨(s307, w64 (s311 + 1)), hd, I314, _, _, le317, ho.sub ⟨r, r, r, r, r, r, trivial⟩, hs.pick (.c .z (.c .z .n))⟩
   rw [hb346]
   refine .gyes r r r (.fieldAddr underlying84 r sizeOf3 r (o := 1) r r r (.gyes r r r (.load1 isAgg3 r .z r r r (.gyes r r r (.lt r r r r (.skips 2 r ?_))))))
   refine splitP hd (fun hb347 hd => ?_) fun hb347 hd => ?_
   · rw [hb347]
     refine .skips 7 r (.nilS [45, 9, 8, 7, 6, 5, 4, 1] r r (.condKT r r (.exitS [8, 7, 6, 5, 4, 1] r r (.drop .z (.region (.skips 1 r (.add r r r r (.sub (E' := [(1, _), (4, _), (5, _), (6, _), (7, _), (24, _), (25, _)]) ⟨r, r, r, r, r, r, r, trivial⟩ (.skips 1 r ?_)))))))))
     exact .nil' fun c w ho hs => ⟨(s307, w64 (s311 + 1)), hd, I314, _, _, le317, ho.sub ⟨r, r, r, r, r, r, trivial⟩, hs.pick (.c .z (.c .z .n))⟩
   rw [hb347]
   refine .gyes r r r (.move r r r (.gyes r r r (.eq r r r r (.skips 2 r ?_))))
   refine splitP hd (fun hb348 hd => ?_) fun hb348 hd => ?_
   · rw [hb348]
     refine .skips 3 r (.nilS [45, 9, 8, 7, 6, 5, 4, 1] r r (.condKT r r (.exitS [8, 7, 6, 5, 4, 1] r r (.drop .z (.region (.skips 1 r (.add r r r r (.sub (E' := [(1, _), (4, _), (5, _), (6, _), (7, _), (24, _), (25, _)]) ⟨r, r, r, r, r, r, r, trivial⟩ (.skips 1 r ?_)))))))))
     exact .nil' fun c w ho hs => ⟨(s307, w64 (s311 + 1)), hd, I314, _, _, le317, ho.sub ⟨r, r, r, r, r, r, trivial⟩, hs.pick (.c .z (.c .z .n))⟩
   rw [hb348]
   refine .gyes r r r (.move r r r (.gyes r r r (.eq r r r r (.skips 1 r (.nilS [45, 9, 8, 7, 6, 5, 4, 1] r r (.condP r hd (fun hb349 hd => ?_) fun hb349 hd => ?_))))))
   · exact .exitS [8, 7, 6, 5, 4, 1] r r (.drop .z (.region (.skips 1 r (.add r r r r (.sub (E' := [(1, _), (4, _), (5, _), (6, _), (7, _), (24, _), (25, _)]) ⟨r, r, r, r, r, r, r, trivial⟩ (.skips 1 r (.nil' fun c w ho hs => ⟨(s307, w64 (s311 + 1)), hd, I314, _, _, le317, ho.sub ⟨r, r, r, r, r, r, trivial⟩, hs.pick (.c .z (.c .z .n))⟩)))))))
   refine .skipS [9, 8, 7, 6, 5, 4, 1] r r (.seq (.region (.fieldAddr underlying84 r sizeOf3 r (o := 0) r r r (.load1 isAgg3 r .z r r r (.skips 1 r ?_)))))
   obtain ⟨hz351, hd⟩ := hd
   refine .rem r r hz351 r r (.fieldAddr underlying84 r sizeOf3 r (o := 0) r r r (.store1 sizeOf3 r r .z (.t .nil) r (.nilS [9, 8, 7, 6, 5, 4, 1] r r (.seq (.region (.fieldAddr underlying84 r sizeOf3 r (o := 1) r r r (.load1 isAgg3 r .z r r r (.skips 1 r ?_))))))))
   obtain ⟨hz352, hd⟩ := hd
   refine .rem r r hz352 r r (.fieldAddr underlying84 r sizeOf3 r (o := 1) r r r (.store1 sizeOf3 r r .z (.s (.t .nil)) r (.nilS [9, 8, 7, 6, 5, 4, 1] r r (.region (.skips 1 r (.loadW isAgg84 sizeOf84 r .z r r r (.buildSlice 1 underlying24 sizeOf84 zeroValue84 r r (.c r r r .n) r r fun b353 => ?_)))))))
   obtain ⟨hl355, hd⟩ := hd
   refine .append (ys := [({ Row := x332.Row.tmod r29, Col := x332.Col.tmod r33, Val := x332.Val } : Triple)]) 24 (.s (.s (.s .z))) underlying24 underlying24 IN84 r r r r r r r r r (.box .z (.one r) r) hl355 r r fun p356 c357 => ?_
   refine .sub (E' := [(1, _), (4, _), (5, _), (6, _), (8, _), (9, _), (56, _), (57, _), (58, _), (59, _)]) ⟨r, r, r, r, r, r, r, r, r, r, trivial⟩ (.skips 1 r (.nilS [7, 8, 6, 5, 4, 1] r r (.drop (.s .z) (.drop (.s .z) (.region (.skips 1 r (.add r r r r (.sub (E' := [(1, _), (4, _), (5, _), (6, _), (7, _), (24, _), (25, _)]) ⟨r, r, r, r, r, r, r, trivial⟩ (.skips 1 r ?_)))))))))
   exact .nil' fun c w ho hs => ⟨((s307 ++ ([({ Row := x332.Row.tmod r29, Col := x332.Col.tmod r33, Val := x332.Val } : Triple)])), w64 (s311 + 1)), hd, I314, _, _, le317, ho.sub ⟨r, r, r, r, r, r, trivial⟩, hs.pick (.c (.s .z) (.c .z .n))⟩
 refine .exitS [7, 6, 5, 4] r r (.seq (.region (.skips 3 r (.pub (.s .z) fun I384 hl385 R386 => ?_))))
 have le387 := IH.le.trans le316 hl385
 have le388 := IH.le.trans le317 hl385
 have hw404 := W_ref07_Of (I := I384) R386 hd
 refine .call call44 r hw404 r r fun v393 I390 hl391 hv392 => ?_
 obtain ⟨r389, p395, c396, p398, c399, p401, c402, rfl, R397, R400, R403, hd⟩ := hv392
 have le405 := IH.le.trans le387 hl391
 have le406 := IH.le.trans le388 hl391
 replace R386 := R386.mono hl391
 refine .skips 1 r (.extract r r r r (.extract r r r r (.allocA zeroValue35 r r fun b407 => ?_)))
 refine .storeA sizeOf35 r r .z (.t (.t (.t (.t (.t .nil))))) r r (.skips 1 r (.nilS [11, 10, 6, 5, 4] r r (.seq (.seq (.region (.skips 1 r (.ne r r r r (.nilS [68, 10, 6, 5, 4] r r (.condP r hd (fun hb409 hd => ?_) fun hb409 hd => ?_)))))))))
 · refine .seq (.region (.skips 2 r ?_))
   have hw428 := W_ref07_Empty (I := I390) hd
   refine .callO call71 r hw428 r r fun v414 I411 l415 hl412 hv413 => ?_
   obtain ⟨r410, p416, c417, p419, c420, p422, c423, rfl, rfl, hd⟩ := hv413
   have le429 := IH.le.trans le405 hl412
   have le430 := IH.le.trans le406 hl412
   replace R397 := R397.mono hl412
   replace R400 := R400.mono hl412
   replace R403 := R403.mono hl412
   refine .storeA sizeOf35 r r (.s (.s (.s (.s .z)))) (.t (.t (.t (.t (.t .nil))))) r r (.nilS [4] r r (.drop (.s (.s (.s .z))) (.pub .z fun I431 hl432 R433 => ?_)))
   have le434 := IH.le.trans le429 hl432
   have le435 := IH.le.trans le430 hl432
   refine .pub .z fun I436 hl437 R438 => ?_
   have le439 := IH.le.trans le434 hl437
   have le440 := IH.le.trans le435 hl437
   replace R433 := R433.mono hl437
   refine .pub .z fun I441 hl442 R443 => ?_
   have le444 := IH.le.trans le439 hl442
   have le445 := IH.le.trans le440 hl442
   replace R433 := R433.mono hl442
   replace R438 := R438.mono hl442
   exact .ret (pret results30 (.w isAgg35 sizeOf35 r .z r .n) le444 ⟨r410, _, _, _, _, _, _, r, R433, R438, R443, hd⟩)
 exact .skipS [10, 4] r r (.seq (.region (.loadW isAgg35 sizeOf35 r .z r r r (.storeA sizeOf35 r r (.s .z) (.t (.t (.t (.t (.t .nil))))) r r (.nilS [4] r r (.drop .z (.ret (pret results30 (.w isAgg35 sizeOf35 r .z r .n) le405 ⟨r389.1, _, _, _, _, _, _, r, R397, R400, R403, hd⟩))))))))

theorem W_law02_Value {I : IH} {a0 : Int} {a1 : Int}  {Q : Int → Prop}  (hd : law02_Value a0 a1 Q) :
    PFun Tryz.prog 34 [.int .i64 a0, .int .i64 a1] I (fun I_ v => ∃ r, v = .int .i64 r ∧ Q r) := by
 refine Fun.enter func34 r ntmps34 r (.c (.c .n)) fun w0 M => ?_
 refine .seq (.region (.skips 1 r (.nilS [1, 0] r r (.seq (.region (.skips 1 r (.nilS [5, 1] r r (.block (.seq ?_)))))))))
 refine .region (.eq r r r r (.skips 1 r (.nilS [12, 5, 1] r r (.condP r hd (fun hb1 hd => ?_) fun hb1 hd => ?_))))
 · exact .seq (.region (.skips 2 r (.nilS [4] r r (.ret (pret results34 (.t r .n) (.refl _) ⟨a1, r, hd⟩)))))
 refine .seq (.region (.eq r r r r (.skips 1 r (.nilS [15, 1] r r (.condP r hd (fun hb2 hd => ?_) fun hb2 hd => ?_)))))
 · exact .seq (.region (.skips 1 r (.and r r r r (.skips 1 r (.nilS [4] r r (.ret (pret results34 (.t r .n) (.refl _) ⟨(bnd .i64 a1 1), r, hd⟩)))))))
 refine .seq (.region (.skips 1 r (.and r r r r (.sub (E' := [(15, _), (6, _), (7, _)]) ⟨r, r, r, trivial⟩ (.skips 1 r (.nilS [1] r r (.seq (.seq (.region ?_)))))))))
 refine .skips 1 r (.rem r r (by decide) r r (.eq r r r r (.nilS [10, 1] r r (.condP r hd (fun hb3 hd => ?_) fun hb3 hd => ?_))))
 · exact .seq (.region (.skips 1 r (.nilS [4] r r (.ret (pret results34 (.t r .n) (.refl _) ⟨4611686018427387904, r, hd⟩)))))
 exact .skipS [1] r r (.seq (.region (.skips 2 r (.nilS [4] r r (.ret (pret results34 (.t r .n) (.refl _) ⟨(bnd .i64 a1 4611686018427387903), r, hd⟩))))))

theorem W_law02_Factor {I : IH} {a0 : Int} {a1 : Int}  {Q : Int → Prop}  (hd : law02_Factor a0 a1 Q) :
    PFun Tryz.prog 31 [.int .i64 a0, .int .i64 a1] I (fun I_ v => ∃ r, v = .int .i64 r ∧ Q r) := by
 refine Fun.enter func31 r ntmps31 r (.c (.c .n)) fun w0 M => ?_
 refine .seq (.region (.skips 1 r (.nilS [1, 0] r r (.seq (.seq (.region (.skips 1 r (.eq r r r r (.nilS [6, 1, 0] r r ?_)))))))))
 refine .condP r hd (fun hb1 hd => ?_) fun hb1 hd => ?_
 · exact .seq (.region (.skips 1 r (.rem r r (by decide) r r (.skips 1 r (.nilS [4] r r (.ret (pret results31 (.t r .n) (.refl _) ⟨(a1.tmod 2147483648), r, hd⟩)))))))
 refine .skipS [1, 0] r r (.seq (.region (.skips 2 r ?_)))
 have hw3 := W_law02_Value (I := I) hd
 refine .callP call34 r hw3 r r fun v4 hv5 => ?_
 obtain ⟨r2, rfl, hd⟩ := hv5
 exact .skips 1 r (.nilS [4] r r (.ret (pret results31 (.t r .n) (.refl _) ⟨r2, r, hd⟩)))

theorem W_law13_Task_Matrix {I : IH} {a0 : Law13_Task} {p1 : Option Addr} {c2 : Nat} {p4 : Option Addr} {c5 : Nat} {p7 : Option Addr} {c8 : Nat} {p10 : Option Addr} {c11 : Nat} {Q : Rows → Prop} (R3 : RepSl eTriple I p1 c2 a0.L) (R6 : RepSl eItem I p4 c5 a0.X) (R9 : RepSl eItem I p7 c8 a0.Y) (R12 : RepSl eU64 I p10 c11 a0.F) (hd : law13_Task_Matrix a0 Q) :
    PFun Tryz.prog 8 [.agg #[.int .i64 a0.Ring, .int .u8 a0.Size.1, .int .u8 a0.Size.2, .slice p1 a0.L.length c2, .slice p4 a0.X.length c5, .slice p7 a0.Y.length c8, .slice p10 a0.F.length c11, .bool a0.Others]] I (fun I_ v => ∃ r p13 c14 p16 c17 p19 c20, v = .agg #[.int .i64 r.Rows, .int .i64 r.Cols, .slice p13 r.Start.length c14, .slice p16 r.Col.length c17, .slice p19 r.Val.length c20] ∧ RepSl eI64 I_ p13 c14 r.Start ∧ RepSl eI64 I_ p16 c17 r.Col ∧ RepSl eI64 I_ p19 c20 r.Val ∧ Q r) := by
 refine Fun.enter func8 r ntmps8 r (.c .n) fun w0 M => ?_
 refine .seq (.region (.boxA r r r fun b26 => ?_))
 refine .allocA zeroValue35 r r fun b28 => ?_
 refine .nilS [2, 1] r r (.seq (.region (.fieldAddr underlying28 r sizeOf23 r (o := 1) r r r (.loadA isAgg23 sizeOf23 r (.s .z) (.s (.t (.t .nil))) r r r (.fieldAddr underlying28 r sizeOf24 r (o := 3) r r r (.load1 isAgg24 r (.s .z) r r r ?_))))))
 have hw64 := W_law07_Some (I := I) R3 hd
 refine .call call30 r hw64 r r fun v53 I50 hl51 hv52 => ?_
 obtain ⟨r49, p55, c56, p58, c59, p61, c62, rfl, R57, R60, R63, hd⟩ := hv52
 have le65 := IH.le.trans (.refl _) hl51
 replace R3 := R3.mono hl51
 replace R6 := R6.mono hl51
 replace R9 := R9.mono hl51
 replace R12 := R12.mono hl51
 refine .allocA zeroValue35 r r fun b66 => ?_
 refine .storeA sizeOf35 r r .z (.t (.t (.t (.t (.t .nil))))) r r (.nilS [3, 2, 1] r r (.seq (.region (.fieldAddr underlying28 r sizeOf22 r (o := 0) r r r (.load1 isAgg22 r (.s (.s .z)) r r r ?_)))))
 have hw73 := W_law13_Right (I := I50) hd
 refine .callP call21 r hw73 r r fun v74 hv75 => ?_
 obtain ⟨r72, rfl, hd⟩ := hv75
 refine .skips 1 r (.nilS [4, 3, 2] r r (.drop (.s (.s .z)) (.seq (.region (.skips 1 r (.nilS [5, 4, 3, 2] r r (.seq (.seq (.region ?_)))))))))
 refine .skips 1 r (.nilS [6, 5, 4, 3, 2] r r (.block (.own0 eI64 2 (.loop hd (fun (s : (List Int) × Int) c w => match s with | (s134, s138) => ∃ I_ p135 c136, IH.le I50 I_ ∧ Ok ⟨35, [], none⟩ [(2, .pointer (some ⟨b28, 0, none⟩)), (3, .pointer (some ⟨b66, 0, none⟩)), (4, .int .i64 r72), (5, .slice p135 s134.length c136), (6, .int .i64 s138)] c ∧ Sym w0 M I I_ [pto b28 (.cells #[.int .i64 0, .int .i64 0, .slice none 0 0, .slice none 0 0, .slice none 0 0] 35 (0, 0)), pto b66 (.cells #[.int .i64 r49.Rows, .int .i64 r49.Cols, .slice p55 r49.Start.length c56, .slice p58 r49.Col.length c59, .slice p61 r49.Val.length c62] 35 (0, 0)), OwnSl eI64 2 p135 c136 s134] w) (fun c w ho hs => ⟨I50, _, _, (.refl _), ho.sub ⟨r, r, r, r, r, trivial⟩, hs.pick (.c (.s (.s .z)) (.c (.s .z) (.c .z .n)))⟩) ?_))))
 rintro ⟨s134, s138⟩ next140 hd c w hst
 obtain ⟨I141, p135, c136, hl142, hok, hsym⟩ := hst
 have le143 := IH.le.trans le65 hl142
 have le144 := IH.le.trans (.refl _) hl142
 replace R57 := R57.mono hl142
 replace R60 := R60.mono hl142
 replace R63 := R63.mono hl142
 refine Cod.at hok hsym (.seq (.seq (.region (.skips 1 r (.fieldAddr underlying35 r sizeOf30 r (o := 4) r r r (.load1 isAgg30 r (.s .z) r r r (.len underlying30 r r r r (.lt r r r r (.nilS [19, 6, 5, 4, 3, 2] r r ?_)))))))))
 refine .condP r hd (fun hb146 hd => ?_) fun hb146 hd => ?_
 · refine .skipS [6, 5, 4, 3, 2] r r (.seq (.block (.region (.skips 2 r (.fieldAddr underlying35 r sizeOf30 r (o := 4) r r r (.load1 isAgg30 r (.s .z) r r r (.skips 1 r ?_)))))))
   obtain ⟨h147, x148, hx149, hd⟩ := hd
   obtain ⟨b150, o151, cs152, e153, hC154, hr155⟩ := R63.2 _ _ hx149
   cases hr155
   refine .ixa underlying30 sizeOf2 r e153 r h147 (idx_lt hx149 h147) r r (.ld1 (j := 0) isAgg2 hC154 r r r r r ?_)
   have hw157 := W_law02_Factor (I := I141) hd
   refine .callP call31 r hw157 r r fun v158 hv159 => ?_
   obtain ⟨r156, rfl, hd⟩ := hv159
   refine .buildSlice 1 underlying30 sizeOf2 zeroValue2 r r (.c r r r .n) r r fun b160 => ?_
   obtain ⟨hl162, hd⟩ := hd
   refine .append (ys := [r156]) 8 (.s (.s (.s .z))) underlying30 underlying30 IN2 r r r r r r r r r (.box .z (.one r) r) hl162 r r fun p163 c164 => ?_
   exact .sub (E' := [(2, _), (3, _), (4, _), (6, _), (22, _), (23, _), (24, _), (25, _), (26, _), (27, _), (28, _), (29, _), (30, _), (31, _)]) ⟨r, r, r, r, r, r, r, r, r, r, r, r, r, r, trivial⟩ (.skips 1 r (.nilS [5, 6, 4, 3, 2] r r (.drop (.s .z) (.region (.skips 1 r (.add r r r r (.sub (E' := [(2, _), (3, _), (4, _), (5, _), (20, _), (21, _)]) ⟨r, r, r, r, r, r, trivial⟩ (.skips 1 r (.nil' fun c w ho hs => ⟨((s134 ++ ([r156])), w64 (s138 + 1)), hd, I141, _, _, le144, ho.sub ⟨r, r, r, r, r, trivial⟩, hs.pick (.c (.s .z) (.c (.s .z) (.c .z .n)))⟩)))))))))
 refine .exitS [5, 3, 2] r r (.seq (.region (.skips 1 r (.fieldAddr underlying35 r sizeOf30 r (o := 4) r r r (.store1 sizeOf30 r r (.s .z) (.s (.s (.s (.s (.t .nil))))) r (.nilS [3, 2] r r (.seq (.region (.loadW isAgg35 sizeOf35 r (.s .z) r r r ?_)))))))))
 refine .storeA sizeOf35 r r .z (.t (.t (.t (.t (.t .nil))))) r r (.nilS [2] r r (.drop (.s .z) (.pub (.s .z) fun I166 hl167 R168 => ?_)))
 have le169 := IH.le.trans le143 hl167
 have le170 := IH.le.trans le144 hl167
 replace R57 := R57.mono hl167
 replace R60 := R60.mono hl167
 exact .ret (pret results8 (.w isAgg35 sizeOf35 r .z r .n) le169 ⟨({ Rows := r49.Rows, Cols := r49.Cols, Start := r49.Start, Col := r49.Col, Val := s134 } : Rows), _, _, _, _, _, _, r, R57, R60, R168, hd⟩)

theorem W_ref09_Of {I : IH} {a0 : Int} {a1 : Int} {a2 : List Item} {p1 : Option Addr} {c2 : Nat} {Q : (Vec × Int) → Prop} (R3 : RepSl eItem I p1 c2 a2) (hd : ref09_Of a0 a1 a2 Q) :
    PFun Tryz.prog 72 [.int .i64 a0, .int .i64 a1, .slice p1 a2.length c2] I (fun I_ v => ∃ r p4 c5, v = .tuple #[.agg #[.int .i64 r.1.N, .slice p4 r.1.Items.length c5], .int .i64 r.2] ∧ RepSl eItem I_ p4 c5 r.1.Items ∧ Q r) := by
 refine Fun.enter func72 r ntmps72 r (.c (.c (.c .n))) fun w0 M => ?_
 refine .seq (.region (.allocA zeroValue38 r r fun b9 => ?_))
 refine .skips 1 r (.nilS [6, 2, 1, 0] r r (.seq (.seq (.region (.skips 1 r ?_)))))
 have hw17 := W_ref02_Is (I := I) hd
 refine .callP call81 r hw17 r r fun v18 hv19 => ?_
 obtain ⟨r16, rfl, hd⟩ := hv19
 refine .not r r r (.nilS [15, 6, 2, 1, 0] r r (.condP r hd (fun hb20 hd => ?_) fun hb20 hd => ?_))
 · exact .seq (.region (.build zeroValue38 underlying38 BI38 .n (by exact trivial) r r (.storeA sizeOf38 r r .z (.t (.t .nil)) r r (.skips 1 r (.nilS [7, 6] r r (.ret (pret results72 (.w isAgg38 sizeOf38 r .z r (.t r .n)) (.refl _) ⟨(({ N := 0, Items := ([] : List Item) } : Vec), 8), _, _, r, (.nil _ _ _), hd⟩)))))))
 refine .skipS [6, 2, 1, 0] r r (.seq (.seq (.region (.skips 1 r (.lt r r r r (.skips 1 r ?_))))))
 refine splitP hd (fun hb23 hd => ?_) fun hb23 hd => ?_
 · rw [hb23]
   exact .skips 3 r (.nilS [22, 6, 2, 1, 0] r r (.condKT r r (.seq (.region (.build zeroValue38 underlying38 BI38 .n (by exact trivial) r r (.storeA sizeOf38 r r .z (.t (.t .nil)) r r (.skips 1 r (.nilS [7, 6] r r (.ret (pret results72 (.w isAgg38 sizeOf38 r .z r (.t r .n)) (.refl _) ⟨(({ N := 0, Items := ([] : List Item) } : Vec), 3), _, _, r, (.nil _ _ _), hd⟩))))))))))
 rw [hb23]
 refine .gyes r r r (.move r r r (.gyes r r r (.gt r r r r (.skips 1 r (.nilS [22, 6, 2, 1, 0] r r (.condP r hd (fun hb24 hd => ?_) fun hb24 hd => ?_))))))
 · exact .seq (.region (.build zeroValue38 underlying38 BI38 .n (by exact trivial) r r (.storeA sizeOf38 r r .z (.t (.t .nil)) r r (.skips 1 r (.nilS [7, 6] r r (.ret (pret results72 (.w isAgg38 sizeOf38 r .z r (.t r .n)) (.refl _) ⟨(({ N := 0, Items := ([] : List Item) } : Vec), 3), _, _, r, (.nil _ _ _), hd⟩)))))))
 refine .skipS [6, 2, 1, 0] r r (.seq (.region (.skips 1 r (.nilS [8, 6, 2, 1, 0] r r (.seq (.seq (.region (.skips 1 r (.nilS [9, 8, 6, 2, 1, 0] r r ?_)))))))))
 refine .block (.own0 eEdge 139 (.loop hd (fun (s : (List Edge) × Int) c w => match s with | (s400, s404) => ∃ I_ p401 c402, IH.le I I_ ∧ Ok ⟨95, [], none⟩ [(0, .int .i64 a0), (1, .int .i64 a1), (2, .slice p1 a2.length c2), (6, .pointer (some ⟨b9, 0, none⟩)), (8, .slice p401 s400.length c402), (9, .int .i64 s404)] c ∧ Sym w0 M I I_ [pto b9 (.cells #[.int .i64 0, .slice none 0 0] 38 (0, 0)), OwnSl eEdge 139 p401 c402 s400] w) (fun c w ho hs => ⟨I, _, _, (.refl _), ho.sub ⟨r, r, r, r, r, r, trivial⟩, hs.pick (.c (.s .z) (.c .z .n))⟩) ?_))
 rintro ⟨s400, s404⟩ next406 hd c w hst
 obtain ⟨I407, p401, c402, hl408, hok, hsym⟩ := hst
 have le409 := IH.le.trans (.refl _) hl408
 replace R3 := R3.mono hl408
 refine Cod.at hok hsym (.seq (.seq (.region (.skips 2 r (.len underlying25 r r r r (.lt r r r r (.nilS [27, 9, 8, 6, 2, 1, 0] r r (.condP r hd (fun hb411 hd => ?_) fun hb411 hd => ?_))))))))
 · refine .skipS [9, 8, 6, 2, 1, 0] r r (.seq (.block (.seq (.seq (.region (.skips 2 r ?_))))))
   obtain ⟨h432, x433, hx434, hd⟩ := hd
   obtain ⟨b435, o436, cs437, e438, hC439, hr440⟩ := R3.2 _ _ hx434
   cases hr440
   refine .ixa underlying25 sizeOf67 r e438 r h432 (idx_lt hx434 h432) r r (.fieldAddr underlying67 r sizeOf3 r (o := o436 + s404.toNat * 2) r r r (.ld1 (j := 0) isAgg3 hC439 r r r r r (.lt r r r r (.skips 1 r ?_))))
   refine splitP hd (fun hb441 hd => ?_) fun hb441 hd => ?_
   · rw [hb441]
     refine .skips 8 r (.nilS [44, 9, 8, 6, 2, 1, 0] r r (.condKT r r (.seq (.region (.build zeroValue38 underlying38 BI38 .n (by exact trivial) r r (.storeA sizeOf38 r r .z (.t (.t .nil)) r r (.skips 1 r (.nilS [7, 6] r r (.drop (.s .z) ?_)))))))))
     exact .ret (pret results72 (.w isAgg38 sizeOf38 r .z r (.t r .n)) le409 ⟨(({ N := 0, Items := ([] : List Item) } : Vec), 3), _, _, r, (.nil _ _ _), hd⟩)
   rw [hb441]
   refine .gyes r r r (.move r r r (.gyes r r r (.move r r r ?_)))
   obtain ⟨h442, x443, hx444, hd⟩ := hd
   obtain ⟨b445, o446, cs447, e448, hC449, hr450⟩ := R3.2 _ _ hx444
   cases hr450
   refine .gyes r r r (.ixa underlying25 sizeOf67 r e448 r h442 (idx_lt hx444 h442) r r (.gyes r r r (.fieldAddr underlying67 r sizeOf3 r (o := o446 + s404.toNat * 2) r r r (.gyes r r r (.ld1 (j := 0) isAgg3 hC449 r r r r r (.gyes r r r (.move r r r (.gyes r r r (.ge r r r r (.skips 1 r (.nilS [44, 9, 8, 6, 2, 1, 0] r r (.condP r hd (fun hb451 hd => ?_) fun hb451 hd => ?_))))))))))))
   · exact .seq (.region (.build zeroValue38 underlying38 BI38 .n (by exact trivial) r r (.storeA sizeOf38 r r .z (.t (.t .nil)) r r (.skips 1 r (.nilS [7, 6] r r (.drop (.s .z) (.ret (pret results72 (.w isAgg38 sizeOf38 r .z r (.t r .n)) le409 ⟨(({ N := 0, Items := ([] : List Item) } : Vec), 3), _, _, r, (.nil _ _ _), hd⟩))))))))
   refine .skipS [9, 8, 6, 2, 1, 0] r r (.ownF (.s .z) fun hne452 => ?_)
   refine .draw [some 0, some 1, some 2, some 3, some 4, some 5, some 6, some 7, some 8, some 9, some 10, some 11, some 12, some 13] 14 MX (by kernel_rfl) (by kernel_rfl) (by kernel_rfl) (by kernel_rfl) (by kernel_rfl) (by kernel_rfl) (by kernel_rfl) (fun ex => (pto b9 (.cells #[.int .i64 0, .slice none 0 0] 38 (0, 0))) :: (OwnSl eEdge 139 p401 c402 s400) :: ex) (fun _ _ => (.s (.s .z))) r (.fs [[], [], []] r (by kernel_rfl) ?_)
   obtain ⟨h453, x454, hx455, hd⟩ := hd
   obtain ⟨b456, o457, cs458, e459, hC460, hr461⟩ := R3.2 _ _ hx455
   cases hr461
   refine .f [1, 2] r (by kernel_rfl) r r (fun ex => .ixa underlying25 sizeOf67 r e459 r h453 (idx_lt hx455 h453) r r .mk) (.f [3] r (by kernel_rfl) r r (fun ex => .fieldAddr underlying67 r sizeOf3 r (o := o457 + s404.toNat * 2) r r r .mk) (.f [4] r (by kernel_rfl) r r (fun ex => .ld1 (j := 0) isAgg3 hC460 r r r r r .mk) (.fs [[], []] r (by kernel_rfl) ?_)))
   obtain ⟨h462, x463, hx464, hd⟩ := hd
   obtain ⟨b465, o466, cs467, e468, hC469, hr470⟩ := R3.2 _ _ hx464
   cases hr470
   refine .f [6, 7] r (by kernel_rfl) r r (fun ex => .ixa underlying25 sizeOf67 r e468 r h462 (idx_lt hx464 h462) r r .mk) (.f [8] r (by kernel_rfl) r r (fun ex => .fieldAddr underlying67 r sizeOf2 r (o := o466 + s404.toNat * 2 + 1) r r r .mk) (.f [9] r (by kernel_rfl) r r (fun ex => .ld1 (j := 1) isAgg2 hC469 r r r r r .mk) (.f [5, 10] r (by kernel_rfl) r r (fun ex => .build zeroValue139 underlying139 BI139 (.c r r r (.s (.t .nil)) (.c r r r (.s (.s (.t .nil))) .n)) (by exact ⟨⟨_, _, r, r, r⟩, ⟨⟨_, _, r, r, r⟩, trivial⟩⟩) r r .mk) (.w [0] [[], [11], [10, 11], [9, 10, 11], [8, 9, 10, 11], [8, 9, 10, 11], [11], [5, 11], [4, 5, 11], [3, 4, 5, 11], [3, 4, 5, 11]] [11] r (by kernel_rfl) (by kernel_rfl) (by kernel_rfl) ((dropE_kept r r)) (.inr (dropE_kept r r)) fun ex => ?_))))
   refine .buildSlice 1 underlying137 sizeOf139 zeroValue139 r r (.c r r r .n) r r fun b471 => ?_
   refine .some (fun ex => (pto b471 (.cells #[.int .i64 0, .int .i64 x454.At, .int .i64 x463.Val] 139 (0, 0))) :: (pto b9 (.cells #[.int .i64 0, .slice none 0 0] 38 (0, 0))) :: (OwnSl eEdge 139 p401 c402 s400) :: ex) r (fun _ _ => (.s (.s (.s .z)))) r (.ccs [[]] r r (by kernel_rfl) trivial) (.w [] [[]] [0, 12] r (by kernel_rfl) (by kernel_rfl) (by kernel_rfl) ((dropE_kept r r)) (.inr (dropE_kept r r)) fun ex => ?_)
   obtain ⟨hl473, hd⟩ := hd
   refine .append (ys := [({ From := 0, To := x454.At, W := x463.Val } : Edge)]) 24 (.s (.s .z)) underlying137 underlying137 IN139 r r r r r r r r r (.box .z (.one r) r) hl473 r r fun p474 c475 => ?_
   refine .some (fun ex => (OwnSl eEdge 139 p474 c475 (s400 ++ ([({ From := 0, To := x454.At, W := x463.Val } : Edge)]))) :: (pto b471 (.cells #[.int .i64 0, .int .i64 x454.At, .int .i64 x463.Val] 139 (0, 0))) :: (pto b9 (.cells #[.int .i64 0, .slice none 0 0] 38 (0, 0))) :: ex) r (fun _ _ => (.s (.s (.s .z)))) r trivial (.e 14 (by kernel_rfl) (by kernel_rfl) (by kernel_rfl) (.sub (E' := [(0, _), (1, _), (2, _), (6, _), (9, _), (46, _), (47, _), (48, _), (49, _), (50, _), (51, _), (52, _), (53, _), (54, _), (55, _), (56, _), (57, _), (58, _), (59, _)]) ⟨r, r, r, r, r, r, r, r, r, r, r, r, r, r, r, r, r, r, r, trivial⟩ (.skips 1 r (.nilS [8, 9, 6, 2, 1, 0] r r (.drop (.s .z) (.region (.skips 1 r (.add r r r r (.sub (E' := [(0, _), (1, _), (2, _), (6, _), (8, _), (28, _), (29, _)]) ⟨r, r, r, r, r, r, r, trivial⟩ ?_)))))))))
   exact .skips 1 r (.nil' fun c w ho hs => ⟨((s400 ++ ([({ From := 0, To := x454.At, W := x463.Val } : Edge)])), w64 (s404 + 1)), hd, I407, _, _, le409, ho.sub ⟨r, r, r, r, r, r, trivial⟩, hs.pick (.c (.s .z) (.c .z .n))⟩)
 refine .exitS [8, 6, 1, 0] r r (.seq (.region (.skips 2 r (.pub (.s .z) fun I492 hl493 R494 => ?_))))
 have le495 := IH.le.trans le409 hl493
 have hw505 := W_ref05_Combine (I := I492) R494 hd
 refine .call call94 r hw505 r r fun v500 I497 hl498 hv499 => ?_
 obtain ⟨r496, p502, c503, rfl, R504, hd⟩ := hv499
 have le506 := IH.le.trans le495 hl498
 replace R494 := R494.mono hl498
 refine .skips 1 r (.extract r r r r (.extract r r r r (.sub (E' := [(0, _), (1, _), (6, _), (61, _), (62, _), (63, _), (60, _), (64, _), (65, _)]) ⟨r, r, r, r, r, r, r, r, r, trivial⟩ (.skips 2 r (.nilS [10, 8, 6, 1] r r (.seq (.seq (.region (.skips 1 r ?_)))))))))
 refine .ne r r r r (.nilS [67, 10, 8, 6, 1] r r (.condP r hd (fun hb508 hd => ?_) fun hb508 hd => ?_))
 · exact .seq (.region (.build zeroValue38 underlying38 BI38 .n (by exact trivial) r r (.skips 1 r (.storeA sizeOf38 r r .z (.t (.t .nil)) r r (.skips 1 r (.nilS [7, 6] r r (.ret (pret results72 (.w isAgg38 sizeOf38 r .z r (.t r .n)) le506 ⟨(({ N := 0, Items := ([] : List Item) } : Vec), r496.2), _, _, r, (.nil _ _ _), hd⟩))))))))
 refine .skipS [8, 6, 1] r r (.seq (.region (.skips 1 r (.build zeroValue38 underlying38 BI38 (.c r r r (.t .nil) .n) (by exact ⟨⟨_, _, r, r, r⟩, trivial⟩) r r (.allocA zeroValue38 r r fun b511 => ?_)))))
 refine .storeA sizeOf38 r r .z (.t (.t .nil)) r r (.nilS [11, 8, 6] r r (.seq (.seq (.region (.skips 1 r (.nilS [12, 11, 8, 6] r r (.block (.own0 eItem 67 (.loop hd (fun (s : (List Item) × Int) c w => match s with | (s582, s586) => ∃ I_ p583 c584, IH.le I497 I_ ∧ Ok ⟨95, [], none⟩ [(6, .pointer (some ⟨b9, 0, none⟩)), (8, .slice p502 r496.1.length c503), (11, .pointer (some ⟨b511, 0, none⟩)), (12, .int .i64 s586)] c ∧ Sym w0 M I I_ [pto b9 (.cells #[.int .i64 0, .slice none 0 0] 38 (0, 0)), pto b511 (.cells #[.int .i64 a1, .slice p583 s582.length c584] 38 (0, 0)), OwnSl eItem 67 p583 c584 s582] w) (fun c w ho hs => ⟨I497, _, _, (.refl _), ho.sub ⟨r, r, r, r, trivial⟩, hs.pick (.c (.s (.s .z)) (.c (.s .z) (.c .z .n)))⟩) ?_)))))))))
 rintro ⟨s582, s586⟩ next588 hd c w hst
 obtain ⟨I589, p583, c584, hl590, hok, hsym⟩ := hst
 have le591 := IH.le.trans le506 hl590
 have le592 := IH.le.trans (.refl _) hl590
 replace R504 := R504.mono hl590
 refine Cod.at hok hsym (.seq (.seq (.region (.skips 2 r (.len underlying137 r r r r (.lt r r r r (.nilS [75, 12, 11, 8, 6] r r (.condP r hd (fun hb594 hd => ?_) fun hb594 hd => ?_))))))))
 · refine .skipS [12, 11, 8, 6] r r (.seq (.block (.ownF (.s (.s .z)) fun hne595 => ?_)))
   refine .draw [some 0, some 1, some 2, some 3, some 4, some 5, some 6, some 7, some 8, some 9, some 10, some 11, some 12, some 13, some 14] 15 MX (by kernel_rfl) (by kernel_rfl) (by kernel_rfl) (by kernel_rfl) (by kernel_rfl) (by kernel_rfl) (by kernel_rfl) (fun ex => (pto b9 (.cells #[.int .i64 0, .slice none 0 0] 38 (0, 0))) :: (pto b511 (.cells #[.int .i64 a1, .slice p583 s582.length c584] 38 (0, 0))) :: (OwnSl eItem 67 p583 c584 s582) :: ex) (fun _ _ => (.s (.s (.s .z)))) r (.f [] r (by kernel_rfl) r r (fun ex => .fieldAddr underlying38 r sizeOf25 r (o := 1) r r r .mk) (.f [0] r (by kernel_rfl) r r (fun ex => .load1 isAgg25 r (.s .z) r r r .mk) (.fs [[], []] r (by kernel_rfl) ?_)))
   obtain ⟨h596, x597, hx598, hd⟩ := hd
   obtain ⟨b599, o600, cs601, e602, hC603, hr604⟩ := R504.2 _ _ hx598
   cases hr604
   refine .f [2, 3] r (by kernel_rfl) r r (fun ex => .ixa underlying137 sizeOf139 r e602 r h596 (idx_lt hx598 h596) r r .mk) (.f [4] r (by kernel_rfl) r r (fun ex => .fieldAddr underlying139 r sizeOf3 r (o := o600 + s586.toNat * 3 + 1) r r r .mk) (.f [5] r (by kernel_rfl) r r (fun ex => .ld1 (j := 1) isAgg3 hC603 r r r r r .mk) (.fs [[], []] r (by kernel_rfl) ?_)))
   obtain ⟨h605, x606, hx607, hd⟩ := hd
   obtain ⟨b608, o609, cs610, e611, hC612, hr613⟩ := R504.2 _ _ hx607
   cases hr613
   refine .f [7, 8] r (by kernel_rfl) r r (fun ex => .ixa underlying137 sizeOf139 r e611 r h605 (idx_lt hx607 h605) r r .mk) (.f [9] r (by kernel_rfl) r r (fun ex => .fieldAddr underlying139 r sizeOf2 r (o := o609 + s586.toNat * 3 + 2) r r r .mk) (.f [10] r (by kernel_rfl) r r (fun ex => .ld1 (j := 2) isAgg2 hC612 r r r r r .mk) (.f [6, 11] r (by kernel_rfl) r r (fun ex => .build zeroValue67 underlying67 BI67 (.c r r r (.t .nil) (.c r r r (.s (.t .nil)) .n)) (by exact ⟨⟨_, _, r, r, r⟩, ⟨⟨_, _, r, r, r⟩, trivial⟩⟩) r r .mk) (.w [1, 0] [[], [12], [11, 12], [10, 11, 12], [9, 10, 11, 12], [9, 10, 11, 12], [12], [6, 12], [5, 6, 12], [4, 5, 6, 12], [4, 5, 6, 12]] [12] r (by kernel_rfl) (by kernel_rfl) (by kernel_rfl) ((dropE_kept r r)) (.inr (dropE_kept r r)) fun ex => ?_))))
   refine .buildSlice 1 underlying25 sizeOf67 zeroValue67 r r (.c r r r .n) r r fun b614 => ?_
   refine .some (fun ex => (pto b614 (.cells #[.int .i64 x597.To, .int .i64 x606.W] 67 (0, 0))) :: (pto b9 (.cells #[.int .i64 0, .slice none 0 0] 38 (0, 0))) :: (pto b511 (.cells #[.int .i64 a1, .slice p583 s582.length c584] 38 (0, 0))) :: (OwnSl eItem 67 p583 c584 s582) :: ex) r (fun _ _ => (.s (.s (.s (.s .z))))) r (.cc [0] r (by kernel_rfl) r r r (fun ex => .load1 isAgg25 r (.s (.s .z)) r r r .mk) (.cc [] r (by kernel_rfl) r r r (fun ex => .fieldAddr underlying38 r sizeOf25 r (o := 1) r r r .mk) trivial)) (.w [] [[], [1]] [1, 13] r (by kernel_rfl) (by kernel_rfl) (by kernel_rfl) ((dropE_kept r r)) (.inr (dropE_kept r r)) fun ex => ?_)
   obtain ⟨hl616, hd⟩ := hd
   refine .append (ys := [({ At := x597.To, Val := x606.W } : Item)]) 16 (.s (.s (.s .z))) underlying25 underlying25 IN67 r r r r r r r r r (.box .z (.one r) r) hl616 r r fun p617 c618 => ?_
   refine .some (fun ex => (OwnSl eItem 67 p617 c618 (s582 ++ ([({ At := x597.To, Val := x606.W } : Item)]))) :: (pto b614 (.cells #[.int .i64 x597.To, .int .i64 x606.W] 67 (0, 0))) :: (pto b9 (.cells #[.int .i64 0, .slice none 0 0] 38 (0, 0))) :: (pto b511 (.cells #[.int .i64 a1, .slice p583 s582.length c584] 38 (0, 0))) :: ex) r (fun _ _ => (.s (.s (.s (.s .z))))) r trivial (.e 15 (by kernel_rfl) (by kernel_rfl) (by kernel_rfl) (.fieldAddr underlying38 r sizeOf25 r (o := 1) r r r (.store1 sizeOf25 r r (.s (.s (.s .z))) (.s (.t .nil)) r (.nilS [12, 11, 8, 6] r r (.drop (.s .z) (.region (.skips 1 r (.add r r r r (.sub (E' := [(6, _), (8, _), (11, _), (76, _), (77, _)]) ⟨r, r, r, r, r, trivial⟩ ?_)))))))))
   exact .skips 1 r (.nil' fun c w ho hs => ⟨((s582 ++ ([({ At := x597.To, Val := x606.W } : Item)])), w64 (s586 + 1)), hd, I589, _, _, le592, ho.sub ⟨r, r, r, r, trivial⟩, hs.pick (.c (.s .z) (.c (.s .z) (.c .z .n)))⟩)
 refine .exitS [11, 6] r r (.seq (.region (.loadW isAgg38 sizeOf38 r (.s .z) r r r (.storeA sizeOf38 r r .z (.t (.t .nil)) r r (.skips 1 r (.nilS [7, 6] r r (.drop (.s .z) (.pub (.s .z) fun I620 hl621 R622 => ?_))))))))
 have le623 := IH.le.trans le591 hl621
 have le624 := IH.le.trans le592 hl621
 exact .ret (pret results72 (.w isAgg38 sizeOf38 r .z r (.t r .n)) le623 ⟨(({ N := a1, Items := s582 } : Vec), 0), _, _, r, R622, hd⟩)

theorem W_law09_Some {I : IH} {a0 : Int} {a1 : List Item} {p1 : Option Addr} {c2 : Nat} {Q : Vec → Prop} (R3 : RepSl eItem I p1 c2 a1) (hd : law09_Some a0 a1 Q) :
    PFun Tryz.prog 32 [.int .u8 a0, .slice p1 a1.length c2] I (fun I_ v => ∃ r p4 c5, v = .agg #[.int .i64 r.N, .slice p4 r.Items.length c5] ∧ RepSl eItem I_ p4 c5 r.Items ∧ Q r) := by
 refine Fun.enter func32 r ntmps32 r (.c (.c .n)) fun w0 M => ?_
 refine .seq (.region (.allocA zeroValue38 r r fun b9 => ?_))
 refine .nilS [4, 1, 0] r r (.seq (.region (.skips 1 r (.conv underlying5 underlying3 r r r (.rem r r (by decide) r r (.skips 1 r (.nilS [5, 4, 1] r r (.seq (.region ?_)))))))))
 refine .skips 1 r (.nilS [6, 5, 4, 1] r r (.seq ?_))
 refine Cod.joinQ (σ := (List Item)) hd (fun (s363 : (List Item)) c w => ∃ I_ p364 c365, IH.le I I_ ∧ Ok ⟨56, [], none⟩ [(4, .pointer (some ⟨b9, 0, none⟩)), (5, .int .i64 ((w64 (a0)).tmod 60)), (6, .slice p364 s363.length c365)] c ∧ Sym w0 M I I_ [pto b9 (.cells #[.int .i64 0, .slice none 0 0] 38 (0, 0)), OwnSl eItem 67 p364 c365 s363] w) (fun k367 hd => ?_) ?_
 · skip
   refine .seq (.region (.skips 1 r (.nilS [7, 6, 5, 4, 1] r r (.block (.own0 eItem 67 (.loop hd (fun (s : (List Item) × Int) c w => match s with | (s483, s487) => ∃ I_ p484 c485, IH.le I I_ ∧ Ok ⟨56, [], none⟩ [(1, .slice p1 a1.length c2), (4, .pointer (some ⟨b9, 0, none⟩)), (5, .int .i64 ((w64 (a0)).tmod 60)), (6, .slice p484 s483.length c485), (7, .int .i64 s487)] c ∧ Sym w0 M I I_ [pto b9 (.cells #[.int .i64 0, .slice none 0 0] 38 (0, 0)), OwnSl eItem 67 p484 c485 s483] w) (fun c w ho hs => ⟨I, _, _, (.refl _), ho.sub ⟨r, r, r, r, r, trivial⟩, hs.pick (.c (.s .z) (.c .z .n))⟩) ?_))))))
   rintro ⟨s483, s487⟩ next489 hd c w hst
   obtain ⟨I490, p484, c485, hl491, hok, hsym⟩ := hst
   have le492 := IH.le.trans (.refl _) hl491
   replace R3 := R3.mono hl491
   refine Cod.at hok hsym (.seq (.seq (.region (.skips 2 r (.len underlying25 r r r r (.lt r r r r (.skips 1 r ?_)))))))
   refine splitP hd (fun hb496 hd => ?_) fun hb496 hd => ?_
   · rw [hb496]
     refine .gyes r r r (.move r r r (.gyes r r r (.lt r r r r (.skips 2 r ?_))))
     refine splitP hd (fun hb497 hd => ?_) fun hb497 hd => ?_
     · rw [hb497]
       refine .gyes r r r (.move r r r (.gyes r r r (.gt r r r r (.skips 1 r (.nilS [24, 7, 6, 5, 4, 1] r r (.condP r hd (fun hb498 hd => ?_) fun hb498 hd => ?_))))))
       · refine .skipS [7, 6, 5, 4, 1] r r (.seq (.block (.seq (.region (.skips 2 r ?_)))))
         obtain ⟨h508, x509, hx510, hd⟩ := hd
         obtain ⟨b511, o512, cs513, e514, hC515, hr516⟩ := R3.2 _ _ hx510
         cases hr516
         refine .ixa underlying25 sizeOf67 r e514 r h508 (idx_lt hx510 h508) r r (.fieldAddr underlying67 r sizeOf3 r (o := o512 + s487.toNat * 2) r r r (.ld1 (j := 0) isAgg3 hC515 r r r r r (.ge r r r r (.nilS [32, 7, 6, 5, 4, 1] r r (.condP r hd (fun hb517 hd => ?_) fun hb517 hd => ?_)))))
         · refine .ownF (.s .z) fun hne518 => ?_
           refine .draw [some 0, some 1, some 2, some 3, some 4, some 5, some 6, some 7, some 8, some 9, some 10, some 11, some 12, some 13, some 14, some 15] 16 MX (by kernel_rfl) (by kernel_rfl) (by kernel_rfl) (by kernel_rfl) (by kernel_rfl) (by kernel_rfl) (by kernel_rfl) (fun ex => (pto b9 (.cells #[.int .i64 0, .slice none 0 0] 38 (0, 0))) :: (OwnSl eItem 67 p484 c485 s483) :: ex) (fun _ _ => (.s (.s .z))) r (.fs [[], [], []] r (by kernel_rfl) ?_)
           obtain ⟨h519, x520, hx521, hd⟩ := hd
           obtain ⟨b522, o523, cs524, e525, hC526, hr527⟩ := R3.2 _ _ hx521
           cases hr527
           refine .f [1, 2] r (by kernel_rfl) r r (fun ex => .ixa underlying25 sizeOf67 r e525 r h519 (idx_lt hx521 h519) r r .mk) (.f [3] r (by kernel_rfl) r r (fun ex => .fieldAddr underlying67 r sizeOf3 r (o := o523 + s487.toNat * 2) r r r .mk) (.f [4] r (by kernel_rfl) r r (fun ex => .ld1 (j := 0) isAgg3 hC526 r r r r r .mk) (.fs [[]] r (by kernel_rfl) ?_)))
           obtain ⟨hz528, hd⟩ := hd
           refine .f [5, 6] r (by kernel_rfl) r r (fun ex => .rem r r hz528 r r .mk) (.fs [[], []] r (by kernel_rfl) ?_)
           obtain ⟨h529, x530, hx531, hd⟩ := hd
           obtain ⟨b532, o533, cs534, e535, hC536, hr537⟩ := R3.2 _ _ hx531
           cases hr537
           refine .f [8, 9] r (by kernel_rfl) r r (fun ex => .ixa underlying25 sizeOf67 r e535 r h529 (idx_lt hx531 h529) r r .mk) (.f [10] r (by kernel_rfl) r r (fun ex => .fieldAddr underlying67 r sizeOf2 r (o := o533 + s487.toNat * 2 + 1) r r r .mk) (.f [11] r (by kernel_rfl) r r (fun ex => .ld1 (j := 1) isAgg2 hC536 r r r r r .mk) (.f [7, 12] r (by kernel_rfl) r r (fun ex => .build zeroValue67 underlying67 BI67 (.c r r r (.t .nil) (.c r r r (.s (.t .nil)) .n)) (by exact ⟨⟨_, _, r, r, r⟩, ⟨⟨_, _, r, r, r⟩, trivial⟩⟩) r r .mk) (.w [0] [[], [13], [12, 13], [11, 12, 13], [10, 11, 12, 13], [10, 11, 12, 13], [13], [7, 13], [7, 13], [5, 7, 13], [4, 5, 7, 13], [3, 4, 5, 7, 13], [3, 4, 5, 7, 13]] [13] r (by kernel_rfl) (by kernel_rfl) (by kernel_rfl) ((dropE_kept r r)) (.inr (dropE_kept r r)) fun ex => ?_))))
           refine .buildSlice 1 underlying25 sizeOf67 zeroValue67 r r (.c r r r .n) r r fun b538 => ?_
           refine .some (fun ex => (pto b538 (.cells #[.int .i64 (x520.At.tmod ((w64 (a0)).tmod 60)), .int .i64 x530.Val] 67 (0, 0))) :: (pto b9 (.cells #[.int .i64 0, .slice none 0 0] 38 (0, 0))) :: (OwnSl eItem 67 p484 c485 s483) :: ex) r (fun _ _ => (.s (.s (.s .z)))) r (.ccs [[]] r r (by kernel_rfl) trivial) (.w [] [[]] [0, 14] r (by kernel_rfl) (by kernel_rfl) (by kernel_rfl) ((dropE_kept r r)) (.inr (dropE_kept r r)) fun ex => ?_)
           obtain ⟨hl540, hd⟩ := hd
           refine .append (ys := [({ At := x520.At.tmod ((w64 (a0)).tmod 60), Val := x530.Val } : Item)]) 16 (.s (.s .z)) underlying25 underlying25 IN67 r r r r r r r r r (.box .z (.one r) r) hl540 r r fun p541 c542 => ?_
           refine .some (fun ex => (OwnSl eItem 67 p541 c542 (s483 ++ ([({ At := x520.At.tmod ((w64 (a0)).tmod 60), Val := x530.Val } : Item)]))) :: (pto b538 (.cells #[.int .i64 (x520.At.tmod ((w64 (a0)).tmod 60)), .int .i64 x530.Val] 67 (0, 0))) :: (pto b9 (.cells #[.int .i64 0, .slice none 0 0] 38 (0, 0))) :: ex) r (fun _ _ => (.s (.s (.s .z)))) r trivial (.e 16 (by kernel_rfl) (by kernel_rfl) (by kernel_rfl) (.sub (E' := [(1, _), (4, _), (5, _), (7, _), (32, _), (33, _), (34, _), (35, _), (36, _), (37, _), (38, _), (39, _), (40, _), (41, _), (42, _), (43, _), (44, _), (45, _), (46, _), (47, _), (48, _)]) ⟨r, r, r, r, r, r, r, r, r, r, r, r, r, r, r, r, r, r, r, r, r, trivial⟩ (.skips 1 r (.nilS [6, 7, 5, 4, 1] r r (.drop (.s .z) (.region (.skips 1 r (.add r r r r (.sub (E' := [(1, _), (4, _), (5, _), (6, _), (25, _), (26, _)]) ⟨r, r, r, r, r, r, trivial⟩ ?_)))))))))
           exact .skips 1 r (.nil' fun c w ho hs => ⟨((s483 ++ ([({ At := x520.At.tmod ((w64 (a0)).tmod 60), Val := x530.Val } : Item)])), w64 (s487 + 1)), hd, I490, _, _, le492, ho.sub ⟨r, r, r, r, r, trivial⟩, hs.pick (.c (.s .z) (.c .z .n))⟩)
         exact .skipS [7, 6, 5, 4, 1] r r (.region (.skips 1 r (.add r r r r (.sub (E' := [(1, _), (4, _), (5, _), (6, _), (25, _), (26, _)]) ⟨r, r, r, r, r, r, trivial⟩ (.skips 1 r (.nil' fun c w ho hs => ⟨(s483, w64 (s487 + 1)), hd, I490, _, _, le492, ho.sub ⟨r, r, r, r, r, trivial⟩, hs.pick (.c .z (.c .z .n))⟩))))))
       exact .exit fun c w ho hs => ⟨s483, hd, I490, _, _, le492, ho.sub ⟨r, r, r, trivial⟩, hs.pick (.c .z (.c .z .n))⟩
     rw [hb497]
     exact .skips 3 r (.nilS [24, 7, 6, 5, 4, 1] r r (.condKF r r (.exit fun c w ho hs => ⟨s483, hd, I490, _, _, le492, ho.sub ⟨r, r, r, trivial⟩, hs.pick (.c .z (.c .z .n))⟩)))
   rw [hb496]
   exact .skips 7 r (.nilS [24, 7, 6, 5, 4, 1] r r (.condKF r r (.exit fun c w ho hs => ⟨s483, hd, I490, _, _, le492, ho.sub ⟨r, r, r, trivial⟩, hs.pick (.c .z (.c .z .n))⟩)))
 rintro s363 hd c w hst
 obtain ⟨I544, p364, c365, hl545, hok, hsym⟩ := hst
 have le546 := IH.le.trans (.refl _) hl545
 refine Cod.at hok hsym (.seq (.region (.skips 2 r (.pub (.s .z) fun I547 hl548 R549 => ?_))))
 have le550 := IH.le.trans le546 hl548
 have hw560 := W_ref09_Of (I := I547) R549 hd
 refine .call call72 r hw560 r r fun v555 I552 hl553 hv554 => ?_
 obtain ⟨r551, p557, c558, rfl, R559, hd⟩ := hv554
 have le561 := IH.le.trans le550 hl553
 replace R549 := R549.mono hl553
 refine .skips 1 r (.extract r r r r (.extract r r r r (.allocA zeroValue38 r r fun b562 => ?_)))
 exact .storeA sizeOf38 r r .z (.t (.t .nil)) r r (.skips 1 r (.nilS [8, 4] r r (.seq (.region (.loadW isAgg38 sizeOf38 r .z r r r (.storeA sizeOf38 r r (.s .z) (.t (.t .nil)) r r (.nilS [4] r r (.drop .z (.ret (pret results32 (.w isAgg38 sizeOf38 r .z r .n) le561 ⟨r551.1, _, _, r, R559, hd⟩))))))))))

theorem W_law13_Task_Vector {I : IH} {a0 : Law13_Task} {a1 : List Item} {p1 : Option Addr} {c2 : Nat} {p4 : Option Addr} {c5 : Nat} {p7 : Option Addr} {c8 : Nat} {p10 : Option Addr} {c11 : Nat} {p13 : Option Addr} {c14 : Nat} {Q : Vec → Prop} (R3 : RepSl eTriple I p1 c2 a0.L) (R6 : RepSl eItem I p4 c5 a0.X) (R9 : RepSl eItem I p7 c8 a0.Y) (R12 : RepSl eU64 I p10 c11 a0.F) (R15 : RepSl eItem I p13 c14 a1) (hd : law13_Task_Vector a0 a1 Q) :
    PFun Tryz.prog 9 [.agg #[.int .i64 a0.Ring, .int .u8 a0.Size.1, .int .u8 a0.Size.2, .slice p1 a0.L.length c2, .slice p4 a0.X.length c5, .slice p7 a0.Y.length c8, .slice p10 a0.F.length c11, .bool a0.Others], .slice p13 a1.length c14] I (fun I_ v => ∃ r p16 c17, v = .agg #[.int .i64 r.N, .slice p16 r.Items.length c17] ∧ RepSl eItem I_ p16 c17 r.Items ∧ Q r) := by
 refine Fun.enter func9 r ntmps9 r (.c (.c .n)) fun w0 M => ?_
 refine .seq (.region (.boxA r r r fun b23 => ?_))
 refine .allocA zeroValue38 r r fun b25 => ?_
 refine .nilS [4, 2, 1] r r (.seq (.region (.fieldAddr underlying28 r sizeOf23 r (o := 1) r r r (.ixArr (i := 1) underlying23 sizeOf5 r r (by decide) (o := 2) r r r (.load1 isAgg5 r (.s .z) r r r ?_)))))
 have hw45 := W_law07_Size (I := I) hd
 refine .callP call33 r hw45 r r fun v46 hv47 => ?_
 obtain ⟨r44, rfl, hd⟩ := hv47
 refine .conv underlying3 underlying5 r r r (.skips 1 r ?_)
 have hw57 := W_law09_Some (I := I) R15 hd
 refine .call call32 r hw57 r r fun v52 I49 hl50 hv51 => ?_
 obtain ⟨r48, p54, c55, rfl, R56, hd⟩ := hv51
 have le58 := IH.le.trans (.refl _) hl50
 replace R3 := R3.mono hl50
 replace R6 := R6.mono hl50
 replace R9 := R9.mono hl50
 replace R12 := R12.mono hl50
 replace R15 := R15.mono hl50
 refine .allocA zeroValue38 r r fun b59 => ?_
 refine .storeA sizeOf38 r r .z (.t (.t .nil)) r r (.nilS [5, 4, 2] r r (.seq (.region (.skips 1 r (.nilS [6, 5, 4, 2] r r (.seq (.seq (.region (.skips 1 r ?_)))))))))
 refine .nilS [7, 6, 5, 4, 2] r r (.block (.own0 eItem 67 (.loop hd (fun (s : (List Item) × Int) c w => match s with | (s146, s150) => ∃ I_ p147 c148, IH.le I49 I_ ∧ Ok ⟨46, [], none⟩ [(2, .pointer (some ⟨b23, 0, none⟩)), (4, .pointer (some ⟨b25, 0, none⟩)), (5, .pointer (some ⟨b59, 0, none⟩)), (6, .slice p147 s146.length c148), (7, .int .i64 s150)] c ∧ Sym w0 M I I_ [pto b23 (.cells #[.int .i64 a0.Ring, .int .u8 a0.Size.1, .int .u8 a0.Size.2, .slice p1 a0.L.length c2, .slice p4 a0.X.length c5, .slice p7 a0.Y.length c8, .slice p10 a0.F.length c11, .bool a0.Others] 28 (0, 0)), pto b25 (.cells #[.int .i64 0, .slice none 0 0] 38 (0, 0)), pto b59 (.cells #[.int .i64 r48.N, .slice p54 r48.Items.length c55] 38 (0, 0)), OwnSl eItem 67 p147 c148 s146] w) (fun c w ho hs => ⟨I49, _, _, (.refl _), ho.sub ⟨r, r, r, r, r, trivial⟩, hs.pick (.c (.s (.s (.s .z))) (.c (.s (.s .z)) (.c (.s .z) (.c .z .n))))⟩) ?_)))
 rintro ⟨s146, s150⟩ next152 hd c w hst
 obtain ⟨I153, p147, c148, hl154, hok, hsym⟩ := hst
 have le155 := IH.le.trans le58 hl154
 have le156 := IH.le.trans (.refl _) hl154
 replace R3 := R3.mono hl154
 replace R6 := R6.mono hl154
 replace R9 := R9.mono hl154
 replace R12 := R12.mono hl154
 replace R56 := R56.mono hl154
 refine Cod.at hok hsym (.seq (.seq (.region (.skips 1 r (.fieldAddr underlying38 r sizeOf25 r (o := 1) r r r (.load1 isAgg25 r (.s (.s .z)) r r r (.len underlying25 r r r r (.lt r r r r (.nilS [19, 7, 6, 5, 4, 2] r r ?_)))))))))
 refine .condP r hd (fun hb158 hd => ?_) fun hb158 hd => ?_
 · refine .skipS [7, 6, 5, 4, 2] r r (.seq (.block (.ownF (.s (.s (.s .z))) fun hne159 => ?_)))
   refine .draw [some 0, some 1, some 2, some 3, some 4, some 5, some 6, some 7, some 8, some 10, some 11, some 12, some 13, some 14, some 15, some 9, some 16, some 17, some 18, some 19] 20 MX (by kernel_rfl) (by kernel_rfl) (by kernel_rfl) (by kernel_rfl) (by kernel_rfl) (by kernel_rfl) (by kernel_rfl) (fun ex => (pto b23 (.cells #[.int .i64 a0.Ring, .int .u8 a0.Size.1, .int .u8 a0.Size.2, .slice p1 a0.L.length c2, .slice p4 a0.X.length c5, .slice p7 a0.Y.length c8, .slice p10 a0.F.length c11, .bool a0.Others] 28 (0, 0))) :: (pto b25 (.cells #[.int .i64 0, .slice none 0 0] 38 (0, 0))) :: (pto b59 (.cells #[.int .i64 r48.N, .slice p54 r48.Items.length c55] 38 (0, 0))) :: (OwnSl eItem 67 p147 c148 s146) :: ex) (fun _ _ => (.s (.s (.s (.s .z))))) r (.fs [[]] r (by kernel_rfl) (.f [] r (by kernel_rfl) r r (fun ex => .fieldAddr underlying38 r sizeOf25 r (o := 1) r r r .mk) (.f [1] r (by kernel_rfl) r r (fun ex => .load1 isAgg25 r (.s (.s .z)) r r r .mk) (.fs [[]] r (by kernel_rfl) ?_))))
   obtain ⟨h160, x161, hx162, hd⟩ := hd
   obtain ⟨b163, o164, cs165, e166, hC167, hr168⟩ := R56.2 _ _ hx162
   cases hr168
   refine .f [2, 3] r (by kernel_rfl) r r (fun ex => .ixa underlying25 sizeOf67 r e166 r h160 (idx_lt hx162 h160) r r .mk) (.f [4] r (by kernel_rfl) r r (fun ex => .fieldAddr underlying67 r sizeOf3 r (o := o164 + s150.toNat * 2) r r r .mk) (.f [5] r (by kernel_rfl) r r (fun ex => .ld1 (j := 0) isAgg3 hC167 r r r r r .mk) (.f [] r (by kernel_rfl) r r (fun ex => .fieldAddr underlying28 r sizeOf22 r (o := 0) r r r .mk) (.f [7] r (by kernel_rfl) r r (fun ex => .load1 isAgg22 r .z r r r .mk) (.f [] r (by kernel_rfl) r r (fun ex => .fieldAddr underlying38 r sizeOf25 r (o := 1) r r r .mk) (.f [10] r (by kernel_rfl) r r (fun ex => .load1 isAgg25 r (.s (.s .z)) r r r .mk) (.fs [[]] r (by kernel_rfl) ?_)))))))
   obtain ⟨h169, x170, hx171, hd⟩ := hd
   obtain ⟨b172, o173, cs174, e175, hC176, hr177⟩ := R56.2 _ _ hx171
   cases hr177
   refine .f [11, 12] r (by kernel_rfl) r r (fun ex => .ixa underlying25 sizeOf67 r e175 r h169 (idx_lt hx171 h169) r r .mk) (.f [13] r (by kernel_rfl) r r (fun ex => .fieldAddr underlying67 r sizeOf2 r (o := o173 + s150.toNat * 2 + 1) r r r .mk) (.f [14] r (by kernel_rfl) r r (fun ex => .ld1 (j := 1) isAgg2 hC176 r r r r r .mk) (.w [15, 14, 13, 12, 11, 10, 6, 5, 4, 3, 2, 1, 0] [[], [8]] [8] r (by kernel_rfl) (by kernel_rfl) (by kernel_rfl) ((dropE_kept r r)) (.inr (dropE_kept r r)) fun ex => ?_)))
   have hw179 := W_law13_Right (I := I153) hd
   refine .callP call21 r hw179 r r fun v180 hv181 => ?_
   obtain ⟨r178, rfl, hd⟩ := hv181
   refine .some (fun ex => (pto b23 (.cells #[.int .i64 a0.Ring, .int .u8 a0.Size.1, .int .u8 a0.Size.2, .slice p1 a0.L.length c2, .slice p4 a0.X.length c5, .slice p7 a0.Y.length c8, .slice p10 a0.F.length c11, .bool a0.Others] 28 (0, 0))) :: (pto b25 (.cells #[.int .i64 0, .slice none 0 0] 38 (0, 0))) :: (pto b59 (.cells #[.int .i64 r48.N, .slice p54 r48.Items.length c55] 38 (0, 0))) :: (OwnSl eItem 67 p147 c148 s146) :: ex) r (fun _ _ => (.s (.s (.s (.s .z))))) r (.cc [14] r (by kernel_rfl) r r r (fun ex => .ld1 (j := 1) isAgg2 hC176 r r r r r .mk) (.cc [13] r (by kernel_rfl) r r r (fun ex => .fieldAddr underlying67 r sizeOf2 r (o := o173 + s150.toNat * 2 + 1) r r r .mk) (.cc [11, 12] r (by kernel_rfl) r r r (fun ex => .ixa underlying25 sizeOf67 r e175 r h169 (idx_lt hx171 h169) r r .mk) (.ccs [[]] r r (by kernel_rfl) (.cc [10] r (by kernel_rfl) r r r (fun ex => .load1 isAgg25 r (.s (.s .z)) r r r .mk) (.cc [] r (by kernel_rfl) r r r (fun ex => .fieldAddr underlying38 r sizeOf25 r (o := 1) r r r .mk) (.cc [5] r (by kernel_rfl) r r r (fun ex => .ld1 (j := 0) isAgg3 hC167 r r r r r .mk) (.cc [4] r (by kernel_rfl) r r r (fun ex => .fieldAddr underlying67 r sizeOf3 r (o := o164 + s150.toNat * 2) r r r .mk) (.cc [2, 3] r (by kernel_rfl) r r r (fun ex => .ixa underlying25 sizeOf67 r e166 r h160 (idx_lt hx162 h160) r r .mk) (.ccs [[]] r r (by kernel_rfl) (.cc [1] r (by kernel_rfl) r r r (fun ex => .load1 isAgg25 r (.s (.s .z)) r r r .mk) (.cc [] r (by kernel_rfl) r r r (fun ex => .fieldAddr underlying38 r sizeOf25 r (o := 1) r r r .mk) (.ccs [[]] r r (by kernel_rfl) trivial))))))))))))) (.w [6, 5, 4, 3, 2, 1, 0] [[], [15], [14, 15], [13, 14, 15], [13, 14, 15], [11, 13, 14, 15]] [9, 15, 9] r (by kernel_rfl) (by kernel_rfl) (by kernel_rfl) ((dropE_kept r r)) (.inr (dropE_kept r r)) fun ex => ?_)
   have hw183 := W_law02_Value (I := I153) hd
   refine .callP call34 r hw183 r r fun v184 hv185 => ?_
   obtain ⟨r182, rfl, hd⟩ := hv185
   refine .some (fun ex => (pto b23 (.cells #[.int .i64 a0.Ring, .int .u8 a0.Size.1, .int .u8 a0.Size.2, .slice p1 a0.L.length c2, .slice p4 a0.X.length c5, .slice p7 a0.Y.length c8, .slice p10 a0.F.length c11, .bool a0.Others] 28 (0, 0))) :: (pto b25 (.cells #[.int .i64 0, .slice none 0 0] 38 (0, 0))) :: (pto b59 (.cells #[.int .i64 r48.N, .slice p54 r48.Items.length c55] 38 (0, 0))) :: (OwnSl eItem 67 p147 c148 s146) :: ex) r (fun _ _ => (.s (.s (.s (.s .z))))) r (.cc [5] r (by kernel_rfl) r r r (fun ex => .ld1 (j := 0) isAgg3 hC167 r r r r r .mk) (.cc [4] r (by kernel_rfl) r r r (fun ex => .fieldAddr underlying67 r sizeOf3 r (o := o164 + s150.toNat * 2) r r r .mk) (.cc [2, 3] r (by kernel_rfl) r r r (fun ex => .ixa underlying25 sizeOf67 r e166 r h160 (idx_lt hx162 h160) r r .mk) (.ccs [[]] r r (by kernel_rfl) (.cc [1] r (by kernel_rfl) r r r (fun ex => .load1 isAgg25 r (.s (.s .z)) r r r .mk) (.cc [] r (by kernel_rfl) r r r (fun ex => .fieldAddr underlying38 r sizeOf25 r (o := 1) r r r .mk) (.ccs [[]] r r (by kernel_rfl) trivial))))))) (.f [6, 16] r (by kernel_rfl) r r (fun ex => .build zeroValue67 underlying67 BI67 (.c r r r (.t .nil) (.c r r r (.s (.t .nil)) .n)) (by exact ⟨⟨_, _, r, r, r⟩, ⟨⟨_, _, r, r, r⟩, trivial⟩⟩) r r .mk) (.w [0] [[], [17], [6, 17], [5, 6, 17], [4, 5, 6, 17], [4, 5, 6, 17], [2, 4, 5, 6, 17]] [17] r (by kernel_rfl) (by kernel_rfl) (by kernel_rfl) ((dropE_kept r r)) (.inr (dropE_kept r r)) fun ex => ?_))
   refine .buildSlice 1 underlying25 sizeOf67 zeroValue67 r r (.c r r r .n) r r fun b186 => ?_
   refine .some (fun ex => (pto b186 (.cells #[.int .i64 x161.At, .int .i64 r182] 67 (0, 0))) :: (pto b23 (.cells #[.int .i64 a0.Ring, .int .u8 a0.Size.1, .int .u8 a0.Size.2, .slice p1 a0.L.length c2, .slice p4 a0.X.length c5, .slice p7 a0.Y.length c8, .slice p10 a0.F.length c11, .bool a0.Others] 28 (0, 0))) :: (pto b25 (.cells #[.int .i64 0, .slice none 0 0] 38 (0, 0))) :: (pto b59 (.cells #[.int .i64 r48.N, .slice p54 r48.Items.length c55] 38 (0, 0))) :: (OwnSl eItem 67 p147 c148 s146) :: ex) r (fun _ _ => (.s (.s (.s (.s (.s .z)))))) r (.ccs [[]] r r (by kernel_rfl) trivial) (.w [] [[]] [0, 18, 16] r (by kernel_rfl) (by kernel_rfl) (by kernel_rfl) ((dropE_kept r r)) (.inr (dropE_kept r r)) fun ex => ?_)
   obtain ⟨hl188, hd⟩ := hd
   refine .append (ys := [({ At := x161.At, Val := r182 } : Item)]) 16 (.s (.s (.s (.s .z)))) underlying25 underlying25 IN67 r r r r r r r r r (.box .z (.one r) r) hl188 r r fun p189 c190 => ?_
   refine .some (fun ex => (OwnSl eItem 67 p189 c190 (s146 ++ ([({ At := x161.At, Val := r182 } : Item)]))) :: (pto b186 (.cells #[.int .i64 x161.At, .int .i64 r182] 67 (0, 0))) :: (pto b23 (.cells #[.int .i64 a0.Ring, .int .u8 a0.Size.1, .int .u8 a0.Size.2, .slice p1 a0.L.length c2, .slice p4 a0.X.length c5, .slice p7 a0.Y.length c8, .slice p10 a0.F.length c11, .bool a0.Others] 28 (0, 0))) :: (pto b25 (.cells #[.int .i64 0, .slice none 0 0] 38 (0, 0))) :: (pto b59 (.cells #[.int .i64 r48.N, .slice p54 r48.Items.length c55] 38 (0, 0))) :: ex) r (fun _ _ => (.s (.s (.s (.s (.s .z)))))) r trivial (.e 20 (by kernel_rfl) (by kernel_rfl) (by kernel_rfl) (.sub (E' := [(2, _), (4, _), (5, _), (7, _), (22, _), (23, _), (24, _), (25, _), (26, _), (27, _), (28, _), (29, _), (30, _), (32, _), (33, _), (34, _), (35, _), (36, _), (37, _), (31, _), (38, _), (39, _), (40, _), (41, _)]) ⟨r, r, r, r, r, r, r, r, r, r, r, r, r, r, r, r, r, r, r, r, r, r, r, r, trivial⟩ (.skips 1 r (.nilS [6, 7, 5, 4, 2] r r (.drop (.s .z) (.region (.skips 1 r (.add r r r r (.sub (E' := [(2, _), (4, _), (5, _), (6, _), (20, _), (21, _)]) ⟨r, r, r, r, r, r, trivial⟩ ?_)))))))))
   exact .skips 1 r (.nil' fun c w ho hs => ⟨((s146 ++ ([({ At := x161.At, Val := r182 } : Item)])), w64 (s150 + 1)), hd, I153, _, _, le156, ho.sub ⟨r, r, r, r, r, trivial⟩, hs.pick (.c (.s .z) (.c (.s .z) (.c (.s .z) (.c .z .n))))⟩)
 refine .exitS [6, 5, 4] r r (.drop .z (.seq (.region (.fieldAddr underlying38 r sizeOf3 r (o := 0) r r r (.load1 isAgg3 r (.s .z) r r r (.skips 1 r (.build zeroValue38 underlying38 BI38 (.c r r r (.t .nil) (.c r r r (.s (.t .nil)) .n)) (by exact ⟨⟨_, _, r, r, r⟩, ⟨⟨_, _, r, r, r⟩, trivial⟩⟩) r r (.storeA sizeOf38 r r .z (.t (.t .nil)) r r (.nilS [4] r r ?_)))))))))
 refine .drop (.s .z) (.pub (.s .z) fun I192 hl193 R194 => ?_)
 have le195 := IH.le.trans le155 hl193
 have le196 := IH.le.trans le156 hl193
 exact .ret (pret results9 (.w isAgg38 sizeOf38 r .z r .n) le195 ⟨({ N := r48.N, Items := s146 } : Vec), _, _, r, R194, hd⟩)

theorem W_law13_Task_Rows {I : IH} {a0 : Law13_Task} {p1 : Option Addr} {c2 : Nat} {p4 : Option Addr} {c5 : Nat} {p7 : Option Addr} {c8 : Nat} {p10 : Option Addr} {c11 : Nat} {Q : (List Int) → Prop} (R3 : RepSl eTriple I p1 c2 a0.L) (R6 : RepSl eItem I p4 c5 a0.X) (R9 : RepSl eItem I p7 c8 a0.Y) (R12 : RepSl eU64 I p10 c11 a0.F) (hd : law13_Task_Rows a0 Q) :
    PFun Tryz.prog 10 [.agg #[.int .i64 a0.Ring, .int .u8 a0.Size.1, .int .u8 a0.Size.2, .slice p1 a0.L.length c2, .slice p4 a0.X.length c5, .slice p7 a0.Y.length c8, .slice p10 a0.F.length c11, .bool a0.Others]] I (fun I_ v => ∃ r p13 c14, v = .slice p13 r.length c14 ∧ RepSl eU64 I_ p13 c14 r ∧ Q r) := by
 refine Fun.enter func10 r ntmps10 r (.c .n) fun w0 M => ?_
 refine .seq (.region (.boxA r r r fun b18 => ?_))
 refine .skips 1 r (.nilS [1] r r (.seq (.seq (.region (.fieldAddr underlying28 r sizeOf26 r (o := 6) r r r (.load1 isAgg26 r .z r r r (.len underlying26 r r r r (.gt r r r r (.nilS [6, 1] r r ?_)))))))))
 refine .condP r hd (fun hb20 hd => ?_) fun hb20 hd => ?_
 · refine .seq (.region (.fieldAddr underlying28 r sizeOf26 r (o := 6) r r r (.load1 isAgg26 r .z r r r ?_)))
   obtain ⟨h21, h22, h23, hd⟩ := hd
   have h29 : Int.toNat 0 ≤ Int.toNat 2 := by omega
   have h30 : Int.toNat 2 ≤ a0.F.length := by omega
   obtain ⟨p24, c25, e27, e28, R26⟩ := RepSl.sliceW R12 (Int.toNat 0) (Int.toNat 2) c11 h29 h30 (.inl rfl)
   exact .sliceW (L := Int.toNat 0) (H := Int.toNat 2) (cm := c11) underlying26 sizeOf85 r r R12.1 r r r (.inl ⟨r, r⟩) (.inr ⟨_, _, r, (by omega), r⟩) (.inl r) h29 h30 r e27 e28 r r (.skips 1 r (.nilS [2] r r (.drop .z (.ret (pret results10 (.t r .n) (.refl _) ⟨((a0.F.take (Int.toNat 2)).drop (Int.toNat 0)), _, _, r, R26, hd⟩)))))
 exact .skipS [1] r r (.seq (.region (.fieldAddr underlying28 r sizeOf26 r (o := 6) r r r (.load1 isAgg26 r .z r r r (.skips 1 r (.nilS [2] r r (.drop .z (.ret (pret results10 (.t r .n) (.refl _) ⟨a0.F, _, _, r, R12, hd⟩)))))))))

theorem W_ref13_SameSums {I : IH} {a0 : List Sum} {a1 : List Sum} {p1 : Option Addr} {c2 : Nat} {p4 : Option Addr} {c5 : Nat} {Q : Bool → Prop} (R3 : RepSl eSum I p1 c2 a0) (R6 : RepSl eSum I p4 c5 a1) (hd : ref13_SameSums a0 a1 Q) :
    PFun Tryz.prog 16 [.slice p1 a0.length c2, .slice p4 a1.length c5] I (fun I_ v => ∃ r, v = .bool r ∧ Q r) := by
 refine Fun.enter func16 r ntmps16 r (.c (.c .n)) fun w0 M => ?_
 refine .seq (.region (.skips 1 r (.nilS [1, 0] r r (.seq (.seq (.region (.skips 1 r (.len underlying41 r r r r (.skips 1 r ?_)))))))))
 refine .len underlying41 r r r r (.ne r r r r (.nilS [10, 1, 0] r r (.condP r hd (fun hb8 hd => ?_) fun hb8 hd => ?_)))
 · exact .seq (.region (.skips 1 r (.nilS [4] r r (.ret (pret results16 (.t r .n) (.refl _) ⟨false, r, hd⟩)))))
 refine .skipS [1, 0] r r (.seq (.seq (.region (.skips 1 r (.nilS [5, 1, 0] r r (.block (.loop hd (fun (s54 : Int) c w => ∃ I_, IH.le I I_ ∧ Ok ⟨26, [], none⟩ [(0, .slice p1 a0.length c2), (1, .slice p4 a1.length c5), (5, .int .i64 s54)] c ∧ Sym w0 M I I_ [] w) (fun c w ho hs => ⟨I, (.refl _), ho.sub ⟨r, r, r, trivial⟩, hs.pick .n⟩) ?_)))))))
 rintro s54 next55 hd c w hst
 obtain ⟨I56, hl57, hok, hsym⟩ := hst
 have le58 := IH.le.trans (.refl _) hl57
 replace R3 := R3.mono hl57
 replace R6 := R6.mono hl57
 refine Cod.at hok hsym (.seq (.seq (.region (.skips 2 r (.len underlying41 r r r r (.lt r r r r (.nilS [14, 5, 1, 0] r r (.condP r hd (fun hb60 hd => ?_) fun hb60 hd => ?_))))))))
 · refine .skipS [5, 1, 0] r r (.seq (.block (.seq (.draw [some 0, some 1, some 2, some 3, some 4, some 5, some 6, some 7, some 8] 9 MX (by kernel_rfl) (by kernel_rfl) (by kernel_rfl) (by kernel_rfl) (by kernel_rfl) (by kernel_rfl) (by kernel_rfl) (fun ex => ex) (fun _ _ => .z) r (.fs [[], []] r (by kernel_rfl) ?_)))))
   obtain ⟨h61, x62, hx63, hd⟩ := hd
   obtain ⟨b64, o65, cs66, e67, hC68, hr69⟩ := R3.2 _ _ hx63
   cases hr69
   refine .f [0, 1] r (by kernel_rfl) r r (fun ex => .ixa underlying41 sizeOf89 r e67 r h61 (idx_lt hx63 h61) r r .mk) (.f [2] r (by kernel_rfl) r r (fun ex => .ldW isAgg89 sizeOf89 hC68 r r r r .mk) (.fs [[], []] r (by kernel_rfl) ?_))
   obtain ⟨h70, x71, hx72, hd⟩ := hd
   obtain ⟨b73, o74, cs75, e76, hC77, hr78⟩ := R6.2 _ _ hx72
   cases hr78
   refine .f [4, 5] r (by kernel_rfl) r r (fun ex => .ixa underlying41 sizeOf89 r e76 r h70 (idx_lt hx72 h70) r r .mk) (.f [6] r (by kernel_rfl) r r (fun ex => .ldW isAgg89 sizeOf89 hC77 r r r r .mk) (.f [3, 7] r (by kernel_rfl) r r (fun ex => .neV r r (EQ89 x62 x71) (EG89 _ _ _ _ _) r r r .mk) (.e 9 (by kernel_rfl) (by kernel_rfl) (by kernel_rfl) (.nilS [25, 5, 1, 0] r r (.condP r hd (fun hb79 hd => ?_) fun hb79 hd => ?_)))))
   · exact .seq (.region (.skips 1 r (.nilS [4] r r (.ret (pret results16 (.t r .n) le58 ⟨false, r, hd⟩)))))
   exact .skipS [5, 1, 0] r r (.region (.skips 1 r (.add r r r r (.sub (E' := [(0, _), (1, _), (15, _), (16, _)]) ⟨r, r, r, r, trivial⟩ (.skips 1 r (.nil' fun c w ho hs => ⟨(w64 (s54 + 1)), hd, I56, le58, ho.sub ⟨r, r, r, trivial⟩, hs.pick .n⟩))))))
 exact .exitS [] r r (.seq (.region (.skips 1 r (.nilS [4] r r (.ret (pret results16 (.t r .n) le58 ⟨true, r, hd⟩))))))

theorem W_csr_within {I : IH} {a0 : Int} {a1 : Int}  {Q : Bool → Prop}  (hd : csr_within a0 a1 Q) :
    PFun Tryz.prog 103 [.int .i64 a0, .int .i64 a1] I (fun I_ v => ∃ r, v = .bool r ∧ Q r) := by
 refine Fun.enter func103 r ntmps103 r (.c (.c .n)) fun w0 M => ?_
 refine .seq (.region (.skips 1 r (.nilS [1, 0] r r (.seq (.region (.skips 1 r (.ge r r r r (.skips 1 r ?_))))))))
 refine splitP hd (fun hb1 hd => ?_) fun hb1 hd => ?_
 · rw [hb1]
   exact .gyes r r r (.move r r r (.gyes r r r (.move r r r (.gyes r r r (.le' r r r r (.skips 2 r (.nilS [4] r r (.ret (pret results103 (.t r .n) (.refl _) ⟨(decide (a0 ≤ a1)), r, hd⟩)))))))))
 rw [hb1]
 exact .skips 5 r (.nilS [4] r r (.ret (pret results103 (.t r .n) (.refl _) ⟨false, r, hd⟩)))

theorem W_cmp_Less_int {I : IH} {a0 : Int} {a1 : Int}  {Q : Bool → Prop}  (hd : cmp_Less_int a0 a1 Q) :
    PFun Tryz.prog 147 [.int .i64 a0, .int .i64 a1] I (fun I_ v => ∃ r, v = .bool r ∧ Q r) := by
 refine Fun.enter func147 r ntmps147 r (.c (.c .n)) fun w0 M => ?_
 refine .seq (.region (.skips 1 r (.nilS [1, 0] r r (.seq (.region (.skips 1 r ?_))))))
 have hw2 := W_cmp_isNaN_int (I := I) hd
 refine .callP call170 r hw2 r r fun v3 hv4 => ?_
 obtain ⟨r1, rfl, hd⟩ := hv4
 refine .skips 1 r ?_
 refine splitP hd (fun hb5 hd => ?_) fun hb5 hd => ?_
 · rw [hb5]
   refine .gyes r r r (.move r r r ?_)
   have hw7 := W_cmp_isNaN_int (I := I) hd
   refine .gyes r r r (.callP call170 r hw7 r r fun v8 hv9 => ?_)
   obtain ⟨r6, rfl, hd⟩ := hv9
   refine .gyes r r r (.not r r r (.skips 2 r ?_))
   refine splitP hd (fun hb10 hd => ?_) fun hb10 hd => ?_
   · rw [hb10]
     exact .skips 5 r (.nilS [4] r r (.ret (pret results147 (.t r .n) (.refl _) ⟨true, r, hd⟩)))
   rw [hb10]
   exact .gyes r r r (.move r r r (.gyes r r r (.move r r r (.gyes r r r (.lt r r r r (.skips 2 r (.nilS [4] r r (.ret (pret results147 (.t r .n) (.refl _) ⟨(decide (a0 < a1)), r, hd⟩)))))))))
 rw [hb5]
 exact .skips 5 r (.gyes r r r (.move r r r (.gyes r r r (.move r r r (.gyes r r r (.lt r r r r (.skips 2 r (.nilS [4] r r (.ret (pret results147 (.t r .n) (.refl _) ⟨(decide (a0 < a1)), r, hd⟩))))))))))

theorem W_slices_IsSorted_int_int {I : IH} {a0 : List Int} {p1 : Option Addr} {c2 : Nat} {Q : Bool → Prop} (R3 : RepSl eI64 I p1 c2 a0) (hd : slices_IsSorted_int_int a0 Q) :
    PFun Tryz.prog 104 [.slice p1 a0.length c2] I (fun I_ v => ∃ r, v = .bool r ∧ Q r) := by
 refine Fun.enter func104 r ntmps104 r (.c .n) fun w0 M => ?_
 refine .seq (.region (.skips 1 r (.nilS [0] r r (.seq (.seq (.region (.skips 1 r (.len underlying29 r r r r (.sub' r r r r ?_)))))))))
 refine .skips 1 r (.nilS [3, 0] r r (.block (.loop hd (fun (s57 : Int) c w => ∃ I_, IH.le I I_ ∧ Ok ⟨21, [], none⟩ [(0, .slice p1 a0.length c2), (3, .int .i64 s57)] c ∧ Sym w0 M I I_ [] w) (fun c w ho hs => ⟨I, (.refl _), ho.sub ⟨r, r, trivial⟩, hs.pick .n⟩) ?_)))
 rintro s57 next58 hd c w hst
 obtain ⟨I59, hl60, hok, hsym⟩ := hst
 have le61 := IH.le.trans (.refl _) hl60
 replace R3 := R3.mono hl60
 refine Cod.at hok hsym (.seq (.seq (.region (.skips 1 r (.gt r r r r (.nilS [8, 3, 0] r r (.condP r hd (fun hb63 hd => ?_) fun hb63 hd => ?_)))))))
 · refine .skipS [3, 0] r r (.seq (.block (.seq (.draw [some 0, some 1, some 2, some 3, some 4, some 5, some 6, some 7, some 8, some 9] 10 MX (by kernel_rfl) (by kernel_rfl) (by kernel_rfl) (by kernel_rfl) (by kernel_rfl) (by kernel_rfl) (by kernel_rfl) (fun ex => ex) (fun _ _ => .z) r (.fs [[], []] r (by kernel_rfl) ?_)))))
   obtain ⟨h64, x65, hx66, hd⟩ := hd
   obtain ⟨b67, o68, cs69, e70, hC71, hr72⟩ := R3.2 _ _ hx66
   cases hr72
   refine .f [0, 1] r (by kernel_rfl) r r (fun ex => .ixa underlying29 sizeOf3 r e70 r h64 (idx_lt hx66 h64) r r .mk) (.f [2] r (by kernel_rfl) r r (fun ex => .ld1 (j := 0) isAgg3 hC71 r r r r r .mk) (.fs [[], []] r (by kernel_rfl) (.f [5] r (by kernel_rfl) r r (fun ex => .sub' r r r r .mk) ?_)))
   obtain ⟨h73, x74, hx75, hd⟩ := hd
   obtain ⟨b76, o77, cs78, e79, hC80, hr81⟩ := R3.2 _ _ hx75
   cases hr81
   refine .f [4, 6] r (by kernel_rfl) r r (fun ex => .ixa underlying29 sizeOf3 r e79 r h73 (idx_lt hx75 h73) r r .mk) (.f [7] r (by kernel_rfl) r r (fun ex => .ld1 (j := 0) isAgg3 hC80 r r r r r .mk) (.w [] [[], [8], [7, 8], [6, 7, 8], [7, 8], [], [3], [2, 3], [2, 3]] [3, 8] r (by kernel_rfl) (by kernel_rfl) (by kernel_rfl) ((dropE_kept r r)) (.inr (dropE_kept r r)) fun ex => ?_))
   have hw83 := W_cmp_Less_int (I := I59) hd
   refine .callP call147 r hw83 r r fun v84 hv85 => ?_
   obtain ⟨r82, rfl, hd⟩ := hv85
   refine .some (fun ex => ex) r (fun _ _ => .z) r trivial (.e 10 (by kernel_rfl) (by kernel_rfl) (by kernel_rfl) (.nilS [20, 3, 0] r r (.condP r hd (fun hb86 hd => ?_) fun hb86 hd => ?_)))
   · exact .seq (.region (.skips 1 r (.nilS [2] r r (.ret (pret results104 (.t r .n) le61 ⟨false, r, hd⟩)))))
   exact .skipS [3, 0] r r (.region (.skips 1 r (.sub' r r r r (.sub (E' := [(0, _), (9, _), (10, _)]) ⟨r, r, r, trivial⟩ (.skips 1 r (.nil' fun c w ho hs => ⟨(w64 (s57 - 1)), hd, I59, le61, ho.sub ⟨r, r, trivial⟩, hs.pick .n⟩))))))
 exact .exitS [] r r (.seq (.region (.skips 1 r (.nilS [2] r r (.ret (pret results104 (.t r .n) le61 ⟨true, r, hd⟩))))))

theorem W_csr_row {I : IH} {a0 : List Int} {a1 : Int} {p1 : Option Addr} {c2 : Nat} {Q : Bool → Prop} (R3 : RepSl eI64 I p1 c2 a0) (hd : csr_row a0 a1 Q) :
    PFun Tryz.prog 105 [.slice p1 a0.length c2, .int .i64 a1] I (fun I_ v => ∃ r, v = .bool r ∧ Q r) := by
 refine Fun.enter func105 r ntmps105 r (.c (.c .n)) fun w0 M => ?_
 refine .seq (.region (.skips 1 r (.nilS [1, 0] r r (.seq (.seq (.region (.skips 1 r (.len underlying29 r r r r (.skips 1 r ?_)))))))))
 refine .nilS [9, 8, 7, 1, 0] r r (.block (.loop hd (fun (s68 : Int) c w => ∃ I_, IH.le I I_ ∧ Ok ⟨33, [], none⟩ [(0, .slice p1 a0.length c2), (1, .int .i64 a1), (7, .slice p1 a0.length c2), (8, .int .i64 (a0.length : Int)), (9, .int .i64 s68)] c ∧ Sym w0 M I I_ [] w) (fun c w ho hs => ⟨I, (.refl _), ho.sub ⟨r, r, r, r, r, trivial⟩, hs.pick .n⟩) ?_))
 rintro s68 next69 hd c w hst
 obtain ⟨I70, hl71, hok, hsym⟩ := hst
 have le72 := IH.le.trans (.refl _) hl71
 replace R3 := R3.mono hl71
 refine Cod.at hok hsym (.seq (.region (.lt r r r r (.nilS [10, 9, 8, 7, 1, 0] r r (.seq (.condP r hd (fun hb74 hd => ?_) fun hb74 hd => ?_))))))
 · refine .skipS [9, 8, 7, 1, 0] r r (.seq (.block (.seq (.region (.skips 1 r ?_)))))
   obtain ⟨h84, x85, hx86, hd⟩ := hd
   obtain ⟨b87, o88, cs89, e90, hC91, hr92⟩ := R3.2 _ _ hx86
   cases hr92
   refine .ixa underlying29 sizeOf3 r e90 r h84 (idx_lt hx86 h84) r r (.ld1 (j := 0) isAgg3 hC91 r r r r r (.skips 2 r (.nilS [6, 5, 9, 8, 7, 1, 0] r r (.seq (.region (.skips 2 r (.sub' r r r r ?_)))))))
   have hw94 := W_csr_within (I := I70) hd
   refine .callP call103 r hw94 r r fun v95 hv96 => ?_
   obtain ⟨r93, rfl, hd⟩ := hv96
   refine .not r r r (.skips 1 r ?_)
   refine splitP hd (fun hb97 hd => ?_) fun hb97 hd => ?_
   · rw [hb97]
     refine .skips 3 r (.gnoU r r r r (.gnoU r r r r (.gnoU r r r r (.gnoU r r r r (.gnoU r r r r (.gnoU r r r r (.gnoU r r r r (.skips 2 r (.nilS [31, 9, 8, 7, 1, 0] r r ?_)))))))))
     exact .condKT r r (.seq (.region (.skips 1 r (.nilS [4] r r (.ret (pret results105 (.t r .n) le72 ⟨false, r, hd⟩))))))
   rw [hb97]
   refine .gyes r r r (.move r r r (.gyes r r r (.gt r r r r (.gyes r r r (.move r r r ?_)))))
   refine splitP hd (fun hb98 hd => ?_) fun hb98 hd => ?_
   · rw [hb98]
     refine .gyes r r r (.move r r r (.gyes r r r (.move r r r (.gyes r r r (.sub' r r r r ?_)))))
     obtain ⟨h99, x100, hx101, hd⟩ := hd
     obtain ⟨b102, o103, cs104, e105, hC106, hr107⟩ := R3.2 _ _ hx101
     cases hr107
     refine .gyes r r r (.ixa underlying29 sizeOf3 r e105 r h99 (idx_lt hx101 h99) r r (.gyes r r r (.ld1 (j := 0) isAgg3 hC106 r r r r r (.gyes r r r (.move r r r (.gyes r r r (.ge r r r r (.gyes r r r (.pickT r r r r r (.skips 1 r (.nilS [31, 9, 8, 7, 1, 0] r r (.condP r hd (fun hb108 hd => ?_) fun hb108 hd => ?_))))))))))))
     · exact .seq (.region (.skips 1 r (.nilS [4] r r (.ret (pret results105 (.t r .n) le72 ⟨false, r, hd⟩)))))
     exact .skipS [9, 8, 7, 1, 0] r r (.region (.add r r r r (.sub (E' := [(0, _), (1, _), (7, _), (8, _), (32, _)]) ⟨r, r, r, r, r, trivial⟩ (.skips 1 r (.nil' fun c w ho hs => ⟨(w64 (s68 + 1)), hd, I70, le72, ho.sub ⟨r, r, r, r, r, trivial⟩, hs.pick .n⟩)))))
   rw [hb98]
   refine .skips 7 r (.gyes r r r (.pickF r r r r r (.skips 1 r (.nilS [31, 9, 8, 7, 1, 0] r r (.condKF r r (.skipS [9, 8, 7, 1, 0] r r (.region (.add r r r r (.sub (E' := [(0, _), (1, _), (7, _), (8, _), (32, _)]) ⟨r, r, r, r, r, trivial⟩ (.skips 1 r ?_))))))))))
   exact .nil' fun c w ho hs => ⟨(w64 (s68 + 1)), hd, I70, le72, ho.sub ⟨r, r, r, r, r, trivial⟩, hs.pick .n⟩
 exact .exitS [] r r (.seq (.region (.skips 1 r (.nilS [4] r r (.ret (pret results105 (.t r .n) le72 ⟨true, r, hd⟩))))))

theorem W_csr_Right {I : IH} {a0 : Rows} {p1 : Option Addr} {c2 : Nat} {p4 : Option Addr} {c5 : Nat} {p7 : Option Addr} {c8 : Nat} {Q : Bool → Prop} (R3 : RepSl eI64 I p1 c2 a0.Start) (R6 : RepSl eI64 I p4 c5 a0.Col) (R9 : RepSl eI64 I p7 c8 a0.Val) (hd : csr_Right a0 Q) :
    PFun Tryz.prog 61 [.agg #[.int .i64 a0.Rows, .int .i64 a0.Cols, .slice p1 a0.Start.length c2, .slice p4 a0.Col.length c5, .slice p7 a0.Val.length c8]] I (fun I_ v => ∃ r, v = .bool r ∧ Q r) := by
 refine Fun.enter func61 r ntmps61 r (.c .n) fun w0 M => ?_
 refine .seq (.region (.boxA r r r fun b12 => ?_))
 refine .skips 1 r (.nilS [1] r r (.seq (.region (.fieldAddr underlying35 r sizeOf29 r (o := 3) r r r (.load1 isAgg29 r .z r r r (.len underlying29 r r r r (.skips 1 r (.nilS [3, 1] r r (.seq ?_)))))))))
 refine .seq (.region (.fieldAddr underlying35 r sizeOf3 r (o := 0) r r r (.load1 isAgg3 r .z r r r ?_)))
 have hw28 := W_csr_within (I := I) hd
 refine .callP call103 r hw28 r r fun v29 hv30 => ?_
 obtain ⟨r27, rfl, hd⟩ := hv30
 refine .not r r r (.skips 1 r ?_)
 refine splitP hd (fun hb31 hd => ?_) fun hb31 hd => ?_
 · rw [hb31]
   exact .skips 25 r (.nilS [37, 3, 1] r r (.condKT r r (.seq (.region (.skips 1 r (.nilS [2] r r (.drop .z (.ret (pret results61 (.t r .n) (.refl _) ⟨false, r, hd⟩)))))))))
 rw [hb31]
 refine .gyes r r r (.fieldAddr underlying35 r sizeOf3 r (o := 1) r r r (.gyes r r r (.load1 isAgg3 r .z r r r ?_)))
 have hw33 := W_csr_within (I := I) hd
 refine .gyes r r r (.callP call103 r hw33 r r fun v34 hv35 => ?_)
 obtain ⟨r32, rfl, hd⟩ := hv35
 refine .gyes r r r (.not r r r (.skips 2 r ?_))
 refine splitP hd (fun hb36 hd => ?_) fun hb36 hd => ?_
 · rw [hb36]
   exact .skips 19 r (.nilS [37, 3, 1] r r (.condKT r r (.seq (.region (.skips 1 r (.nilS [2] r r (.drop .z (.ret (pret results61 (.t r .n) (.refl _) ⟨false, r, hd⟩)))))))))
 rw [hb36]
 refine .gyes r r r (.fieldAddr underlying35 r sizeOf29 r (o := 2) r r r (.gyes r r r (.load1 isAgg29 r .z r r r (.gyes r r r (.len underlying29 r r r r (.gyes r r r (.fieldAddr underlying35 r sizeOf3 r (o := 0) r r r (.gyes r r r (.load1 isAgg3 r .z r r r (.gyes r r r (.add r r r r (.gyes r r r (.ne r r r r (.skips 2 r ?_))))))))))))))
 refine splitP hd (fun hb37 hd => ?_) fun hb37 hd => ?_
 · rw [hb37]
   exact .skips 10 r (.nilS [37, 3, 1] r r (.condKT r r (.seq (.region (.skips 1 r (.nilS [2] r r (.drop .z (.ret (pret results61 (.t r .n) (.refl _) ⟨false, r, hd⟩)))))))))
 rw [hb37]
 refine .gyes r r r (.fieldAddr underlying35 r sizeOf30 r (o := 4) r r r (.gyes r r r (.load1 isAgg30 r .z r r r (.gyes r r r (.len underlying30 r r r r (.gyes r r r (.move r r r (.gyes r r r (.ne r r r r (.skips 2 r ?_))))))))))
 refine splitP hd (fun hb38 hd => ?_) fun hb38 hd => ?_
 · rw [hb38]
   exact .skips 3 r (.nilS [37, 3, 1] r r (.condKT r r (.seq (.region (.skips 1 r (.nilS [2] r r (.drop .z (.ret (pret results61 (.t r .n) (.refl _) ⟨false, r, hd⟩)))))))))
 rw [hb38]
 refine .gyes r r r (.move r r r (.gyes r r r (.gt r r r r (.skips 1 r (.nilS [37, 3, 1] r r (.condP r hd (fun hb39 hd => ?_) fun hb39 hd => ?_))))))
 · exact .seq (.region (.skips 1 r (.nilS [2] r r (.drop .z (.ret (pret results61 (.t r .n) (.refl _) ⟨false, r, hd⟩))))))
 refine .skipS [3, 1] r r (.seq (.seq (.region (.fieldAddr underlying35 r sizeOf29 r (o := 2) r r r (.load1 isAgg29 r .z r r r ?_)))))
 obtain ⟨h65, x66, hx67, hd⟩ := hd
 obtain ⟨b68, o69, cs70, e71, hC72, hr73⟩ := R3.2 _ _ hx67
 cases hr73
 refine .ixa underlying29 sizeOf3 r e71 r h65 (idx_lt hx67 h65) r r (.ld1 (j := 0) isAgg3 hC72 r r r r r (.ne r r r r (.skips 1 r ?_)))
 refine splitP hd (fun hb74 hd => ?_) fun hb74 hd => ?_
 · rw [hb74]
   exact .skips 15 r (.nilS [58, 1] r r (.condKT r r (.seq (.region (.skips 1 r (.nilS [2] r r (.drop .z (.ret (pret results61 (.t r .n) (.refl _) ⟨false, r, hd⟩)))))))))
 rw [hb74]
 refine .gyes r r r (.fieldAddr underlying35 r sizeOf29 r (o := 2) r r r (.gyes r r r (.load1 isAgg29 r .z r r r (.gyes r r r (.fieldAddr underlying35 r sizeOf3 r (o := 0) r r r (.gyes r r r (.load1 isAgg3 r .z r r r ?_)))))))
 obtain ⟨h75, x76, hx77, hd⟩ := hd
 obtain ⟨b78, o79, cs80, e81, hC82, hr83⟩ := R3.2 _ _ hx77
 cases hr83
 refine .gyes r r r (.ixa underlying29 sizeOf3 r e81 r h75 (idx_lt hx77 h75) r r (.gyes r r r (.ld1 (j := 0) isAgg3 hC82 r r r r r (.gyes r r r (.move r r r (.gyes r r r (.ne r r r r (.skips 2 r ?_))))))))
 refine splitP hd (fun hb84 hd => ?_) fun hb84 hd => ?_
 · rw [hb84]
   exact .skips 5 r (.nilS [58, 1] r r (.condKT r r (.seq (.region (.skips 1 r (.nilS [2] r r (.drop .z (.ret (pret results61 (.t r .n) (.refl _) ⟨false, r, hd⟩)))))))))
 rw [hb84]
 refine .gyes r r r (.fieldAddr underlying35 r sizeOf29 r (o := 2) r r r (.gyes r r r (.load1 isAgg29 r .z r r r ?_)))
 have hw86 := W_slices_IsSorted_int_int (I := I) R3 hd
 refine .gyes r r r (.callP call104 r hw86 r r fun v87 hv88 => ?_)
 obtain ⟨r85, rfl, hd⟩ := hv88
 refine .gyes r r r (.not r r r (.skips 1 r (.nilS [58, 1] r r (.condP r hd (fun hb89 hd => ?_) fun hb89 hd => ?_))))
 · exact .seq (.region (.skips 1 r (.nilS [2] r r (.drop .z (.ret (pret results61 (.t r .n) (.refl _) ⟨false, r, hd⟩))))))
 refine .skipS [1] r r (.seq (.seq (.region (.fieldAddr underlying35 r sizeOf3 r (o := 0) r r r (.load1 isAgg3 r .z r r r (.skips 1 r (.nilS [61, 60, 1] r r (.block (.loop hd (fun (s163 : Int) c w => ∃ I_, IH.le I I_ ∧ Ok ⟨83, [], none⟩ [(1, .pointer (some ⟨b12, 0, none⟩)), (60, .int .i64 a0.Rows), (61, .int .i64 s163)] c ∧ Sym w0 M I I_ [pto b12 (.cells #[.int .i64 a0.Rows, .int .i64 a0.Cols, .slice p1 a0.Start.length c2, .slice p4 a0.Col.length c5, .slice p7 a0.Val.length c8] 35 (0, 0))] w) (fun c w ho hs => ⟨I, (.refl _), ho.sub ⟨r, r, r, trivial⟩, hs.pick (.c .z .n)⟩) ?_)))))))))
 rintro s163 next164 hd c w hst
 obtain ⟨I165, hl166, hok, hsym⟩ := hst
 have le167 := IH.le.trans (.refl _) hl166
 replace R3 := R3.mono hl166
 replace R6 := R6.mono hl166
 replace R9 := R9.mono hl166
 refine Cod.at hok hsym (.seq (.region (.lt r r r r (.nilS [62, 61, 60, 1] r r (.seq (.condP r hd (fun hb169 hd => ?_) fun hb169 hd => ?_))))))
 · refine .skipS [61, 60, 1] r r (.seq (.block (.seq (.region (.skips 2 r (.nilS [4, 61, 60, 1] r r (.seq (.draw [some 0, some 1, some 2, some 3, some 4, some 5, some 6, some 7, some 8, some 9, some 10, some 11, some 12, some 13, some 14, some 15, some 16, some 17] 18 MX (by kernel_rfl) (by kernel_rfl) (by kernel_rfl) (by kernel_rfl) (by kernel_rfl) (by kernel_rfl) (by kernel_rfl) (fun ex => (pto b12 (.cells #[.int .i64 a0.Rows, .int .i64 a0.Cols, .slice p1 a0.Start.length c2, .slice p4 a0.Col.length c5, .slice p7 a0.Val.length c8] 35 (0, 0))) :: ex) (fun _ _ => (.s .z)) r (.f [] r (by kernel_rfl) r r (fun ex => .fieldAddr underlying35 r sizeOf29 r (o := 3) r r r .mk) ?_)))))))))
   refine .f [0] r (by kernel_rfl) r r (fun ex => .load1 isAgg29 r .z r r r .mk) (.f [] r (by kernel_rfl) r r (fun ex => .fieldAddr underlying35 r sizeOf29 r (o := 2) r r r .mk) (.f [2] r (by kernel_rfl) r r (fun ex => .load1 isAgg29 r .z r r r .mk) (.fs [[]] r (by kernel_rfl) ?_)))
   obtain ⟨h170, x171, hx172, hd⟩ := hd
   obtain ⟨b173, o174, cs175, e176, hC177, hr178⟩ := R3.2 _ _ hx172
   cases hr178
   refine .f [3, 4] r (by kernel_rfl) r r (fun ex => .ixa underlying29 sizeOf3 r e176 r h170 (idx_lt hx172 h170) r r .mk) (.f [5] r (by kernel_rfl) r r (fun ex => .ld1 (j := 0) isAgg3 hC177 r r r r r .mk) (.f [] r (by kernel_rfl) r r (fun ex => .fieldAddr underlying35 r sizeOf29 r (o := 2) r r r .mk) (.f [7] r (by kernel_rfl) r r (fun ex => .load1 isAgg29 r .z r r r .mk) (.fs [[]] r (by kernel_rfl) (.f [9] r (by kernel_rfl) r r (fun ex => .add r r r r .mk) ?_)))))
   obtain ⟨h179, x180, hx181, hd⟩ := hd
   obtain ⟨b182, o183, cs184, e185, hC186, hr187⟩ := R3.2 _ _ hx181
   cases hr187
   refine .f [8, 10] r (by kernel_rfl) r r (fun ex => .ixa underlying29 sizeOf3 r e185 r h179 (idx_lt hx181 h179) r r .mk) (.f [11] r (by kernel_rfl) r r (fun ex => .ld1 (j := 0) isAgg3 hC186 r r r r r .mk) ?_)
   obtain ⟨h188, h189, h190, hd⟩ := hd
   have h196 : Int.toNat x171 ≤ Int.toNat x180 := by omega
   have h197 : Int.toNat x180 ≤ a0.Col.length := by omega
   obtain ⟨p191, c192, e194, e195, R193⟩ := RepSl.sliceW R6 (Int.toNat x171) (Int.toNat x180) c5 h196 h197 (.inl rfl)
   refine .f [1, 6, 12] r (by kernel_rfl) r r (fun ex => .sliceW (L := Int.toNat x171) (H := Int.toNat x180) (cm := c5) underlying29 sizeOf3 r r R6.1 r r r (.inr ⟨_, _, r, h188, r⟩) (.inr ⟨_, _, r, (by omega), r⟩) (.inl r) h196 h197 r e194 e195 r r .mk) (.f [] r (by kernel_rfl) r r (fun ex => .fieldAddr underlying35 r sizeOf3 r (o := 1) r r r .mk) (.f [14] r (by kernel_rfl) r r (fun ex => .load1 isAgg3 r .z r r r .mk) (.w [] [[], [15], [], [13], [12, 13], [11, 12, 13], [10, 11, 12, 13], [11, 12, 13], [8, 11, 12, 13], [13], [6, 13], [5, 6, 13], [5, 6, 13], [3, 5, 6, 13], [13], [1, 13]] [13, 15] r (by kernel_rfl) (by kernel_rfl) (by kernel_rfl) ((dropE_kept r r)) (.inr (dropE_kept r r)) fun ex => ?_)))
   have hw199 := W_csr_row (I := I165) R193 hd
   refine .callP call105 r hw199 r r fun v200 hv201 => ?_
   obtain ⟨r198, rfl, hd⟩ := hv201
   refine .some (fun ex => (pto b12 (.cells #[.int .i64 a0.Rows, .int .i64 a0.Cols, .slice p1 a0.Start.length c2, .slice p4 a0.Col.length c5, .slice p7 a0.Val.length c8] 35 (0, 0))) :: ex) r (fun _ _ => (.s .z)) r trivial (.f [16] r (by kernel_rfl) r r (fun ex => .not r r r .mk) (.e 18 (by kernel_rfl) (by kernel_rfl) (by kernel_rfl) (.nilS [81, 61, 60, 1] r r (.condP r hd (fun hb202 hd => ?_) fun hb202 hd => ?_))))
   · exact .seq (.region (.skips 1 r (.nilS [2] r r (.drop .z (.ret (pret results61 (.t r .n) le167 ⟨false, r, hd⟩))))))
   exact .skipS [61, 60, 1] r r (.region (.add r r r r (.sub (E' := [(1, _), (60, _), (82, _)]) ⟨r, r, r, trivial⟩ (.skips 1 r (.nil' fun c w ho hs => ⟨(w64 (s163 + 1)), hd, I165, le167, ho.sub ⟨r, r, r, trivial⟩, hs.pick (.c .z .n)⟩)))))
 exact .exitS [] r r (.drop .z (.seq (.region (.skips 1 r (.nilS [2] r r (.ret (pret results61 (.t r .n) le167 ⟨true, r, hd⟩)))))))

theorem W_csr_empty {I : IH} {a0 : Int} {a1 : Int}  {Q : Rows → Prop}  (hd : csr_empty a0 a1 Q) :
    OFun Tryz.prog 148 [.int .i64 a0, .int .i64 a1] I (fun I_ v l => ∃ r p1 c2 p4 c5 p7 c8, v = .agg #[.int .i64 r.Rows, .int .i64 r.Cols, .slice p1 r.Start.length c2, .slice p4 r.Col.length c5, .slice p7 r.Val.length c8] ∧ l = [OwnSl eI64 3 p1 c2 r.Start, OwnSl eI64 3 p4 c5 r.Col, OwnSl eI64 2 p7 c8 r.Val] ∧ Q r) := by
 refine Fun.enter func148 r ntmps148 r (.c (.c .n)) fun w0 M => ?_
 refine .seq (.region (.allocA zeroValue35 r r fun b10 => ?_))
 refine .nilS [4, 1, 0] r r (.seq (.region (.skips 3 r (.add r r r r ?_))))
 obtain ⟨h12, h13, hd⟩ := hd
 refine .make (El := eI64) (zv := 0) 8 underlying29 IN3 r r r r r r h12 h13 r r r fun b14 => ?_
 exact .build zeroValue35 underlying35 BI35 (.c r r r (.t .nil) (.c r r r (.s (.t .nil)) (.c r r r (.s (.s (.t .nil))) .n))) (by exact ⟨⟨_, _, r, r, r⟩, ⟨⟨_, _, r, r, r⟩, ⟨⟨_, _, r, r, r⟩, trivial⟩⟩⟩) r r (.storeA sizeOf35 r r (.s .z) (.t (.t (.t (.t (.t .nil))))) r r (.nilS [4] r r (.own0 eI64 3 (.own0 eI64 2 (.ret (oret results148 (.w isAgg35 sizeOf35 r (.s (.s (.s .z))) r .n) (.refl _) (.c (.s (.s .z)) (.c (.s .z) (.c .z .n))) ⟨({ Rows := a0, Cols := a1, Start := (List.replicate (w64 (a0 + 1)).toNat 0), Col := ([] : List Int), Val := ([] : List Int) } : Rows), _, _, _, _, _, _, r, r, hd⟩))))))

theorem W_csr_sure {I : IH} {a0 : Rows} {p1 : Option Addr} {c2 : Nat} {p4 : Option Addr} {c5 : Nat} {p7 : Option Addr} {c8 : Nat} {Q : Rows → Prop} (R3 : RepSl eI64 I p1 c2 a0.Start) (R6 : RepSl eI64 I p4 c5 a0.Col) (R9 : RepSl eI64 I p7 c8 a0.Val) (hd : csr_sure a0 Q) :
    PFun Tryz.prog 106 [.agg #[.int .i64 a0.Rows, .int .i64 a0.Cols, .slice p1 a0.Start.length c2, .slice p4 a0.Col.length c5, .slice p7 a0.Val.length c8]] I (fun I_ v => ∃ r p10 c11 p13 c14 p16 c17, v = .agg #[.int .i64 r.Rows, .int .i64 r.Cols, .slice p10 r.Start.length c11, .slice p13 r.Col.length c14, .slice p16 r.Val.length c17] ∧ RepSl eI64 I_ p10 c11 r.Start ∧ RepSl eI64 I_ p13 c14 r.Col ∧ RepSl eI64 I_ p16 c17 r.Val ∧ Q r) := by
 refine Fun.enter func106 r ntmps106 r (.c .n) fun w0 M => ?_
 refine .seq (.region (.boxA r r r fun b23 => ?_))
 refine .allocA zeroValue35 r r fun b25 => ?_
 refine .nilS [2, 1] r r (.seq (.seq (.region (.loadW isAgg35 sizeOf35 r (.s .z) r r r ?_))))
 have hw28 := W_csr_Right (I := I) R3 R6 R9 hd
 refine .callP call61 r hw28 r r fun v29 hv30 => ?_
 obtain ⟨r27, rfl, hd⟩ := hv30
 refine .nilS [4, 2, 1] r r (.condP r hd (fun hb31 hd => ?_) fun hb31 hd => ?_)
 · exact .seq (.region (.loadW isAgg35 sizeOf35 r (.s .z) r r r (.storeA sizeOf35 r r .z (.t (.t (.t (.t (.t .nil))))) r r (.nilS [2] r r (.drop (.s .z) (.ret (pret results106 (.w isAgg35 sizeOf35 r .z r .n) (.refl _) ⟨a0, _, _, _, _, _, _, r, R3, R6, R9, hd⟩)))))))
 refine .skipS [2] r r (.drop (.s .z) (.seq (.region ?_)))
 have hw50 := W_csr_empty (I := I) hd
 refine .callO call148 r hw50 r r fun v36 I33 l37 hl34 hv35 => ?_
 obtain ⟨r32, p38, c39, p41, c42, p44, c45, rfl, rfl, hd⟩ := hv35
 have le51 := IH.le.trans (.refl _) hl34
 refine .storeA sizeOf35 r r (.s (.s (.s .z))) (.t (.t (.t (.t (.t .nil))))) r r (.nilS [2] r r (.pub .z fun I52 hl53 R54 => ?_))
 have le55 := IH.le.trans le51 hl53
 refine .pub .z fun I56 hl57 R58 => ?_
 have le59 := IH.le.trans le55 hl57
 replace R54 := R54.mono hl57
 refine .pub .z fun I60 hl61 R62 => ?_
 have le63 := IH.le.trans le59 hl61
 replace R54 := R54.mono hl61
 replace R58 := R58.mono hl61
 exact .ret (pret results106 (.w isAgg35 sizeOf35 r .z r .n) le63 ⟨r32, _, _, _, _, _, _, r, R54, R58, R62, hd⟩)

theorem W_csr_part {I : IH} {a0 : Rows} {a1 : Int} {p1 : Option Addr} {c2 : Nat} {p4 : Option Addr} {c5 : Nat} {p7 : Option Addr} {c8 : Nat} {Q : ((List Int) × (List Int)) → Prop} (R3 : RepSl eI64 I p1 c2 a0.Start) (R6 : RepSl eI64 I p4 c5 a0.Col) (R9 : RepSl eI64 I p7 c8 a0.Val) (hd : csr_part a0 a1 Q) :
    PFun Tryz.prog 107 [.agg #[.int .i64 a0.Rows, .int .i64 a0.Cols, .slice p1 a0.Start.length c2, .slice p4 a0.Col.length c5, .slice p7 a0.Val.length c8], .int .i64 a1] I (fun I_ v => ∃ r p10 c11 p13 c14, v = .tuple #[.slice p10 r.1.length c11, .slice p13 r.2.length c14] ∧ RepSl eI64 I_ p10 c11 r.1 ∧ RepSl eI64 I_ p13 c14 r.2 ∧ Q r) := by
 refine Fun.enter func107 r ntmps107 r (.c (.c .n)) fun w0 M => ?_
 refine .seq (.region (.boxA r r r fun b18 => ?_))
 refine .skips 2 r (.nilS [2, 1] r r (.seq (.draw [some 0, some 1, some 2, some 3, some 4, some 5, some 6, some 7, some 8, some 9, some 10, some 11] 12 MX (by kernel_rfl) (by kernel_rfl) (by kernel_rfl) (by kernel_rfl) (by kernel_rfl) (by kernel_rfl) (by kernel_rfl) (fun ex => (pto b18 (.cells #[.int .i64 a0.Rows, .int .i64 a0.Cols, .slice p1 a0.Start.length c2, .slice p4 a0.Col.length c5, .slice p7 a0.Val.length c8] 35 (0, 0))) :: ex) (fun _ _ => (.s .z)) r (.f [] r (by kernel_rfl) r r (fun ex => .fieldAddr underlying35 r sizeOf29 r (o := 2) r r r .mk) (.f [0] r (by kernel_rfl) r r (fun ex => .load1 isAgg29 r .z r r r .mk) (.fs [[]] r (by kernel_rfl) ?_))))))
 obtain ⟨h38, x39, hx40, hd⟩ := hd
 obtain ⟨b41, o42, cs43, e44, hC45, hr46⟩ := R3.2 _ _ hx40
 cases hr46
 refine .f [1, 2] r (by kernel_rfl) r r (fun ex => .ixa underlying29 sizeOf3 r e44 r h38 (idx_lt hx40 h38) r r .mk) (.f [3] r (by kernel_rfl) r r (fun ex => .ld1 (j := 0) isAgg3 hC45 r r r r r .mk) (.f [] r (by kernel_rfl) r r (fun ex => .fieldAddr underlying35 r sizeOf29 r (o := 2) r r r .mk) (.f [5] r (by kernel_rfl) r r (fun ex => .load1 isAgg29 r .z r r r .mk) (.fs [[]] r (by kernel_rfl) (.f [7] r (by kernel_rfl) r r (fun ex => .add r r r r .mk) ?_)))))
 obtain ⟨h47, x48, hx49, hd⟩ := hd
 obtain ⟨b50, o51, cs52, e53, hC54, hr55⟩ := R3.2 _ _ hx49
 cases hr55
 refine .f [6, 8] r (by kernel_rfl) r r (fun ex => .ixa underlying29 sizeOf3 r e53 r h47 (idx_lt hx49 h47) r r .mk) (.f [9] r (by kernel_rfl) r r (fun ex => .ld1 (j := 0) isAgg3 hC54 r r r r r .mk) (.fs [[4, 0, 1, 2, 3, 4]] r (by kernel_rfl) (.e 12 (by kernel_rfl) (by kernel_rfl) (by kernel_rfl) (.skips 1 r (.nilS [7, 6, 2] r r (.seq (.draw [some 0, some 1, some 2, some 3, some 4, some 5, some 6, some 7, some 8, some 9, some 10, some 11, some 12] 13 MX (by kernel_rfl) (by kernel_rfl) (by kernel_rfl) (by kernel_rfl) (by kernel_rfl) (by kernel_rfl) (by kernel_rfl) (fun ex => (pto b18 (.cells #[.int .i64 a0.Rows, .int .i64 a0.Cols, .slice p1 a0.Start.length c2, .slice p4 a0.Col.length c5, .slice p7 a0.Val.length c8] 35 (0, 0))) :: ex) (fun _ _ => (.s .z)) r (.f [] r (by kernel_rfl) r r (fun ex => .fieldAddr underlying35 r sizeOf29 r (o := 3) r r r .mk) (.f [0] r (by kernel_rfl) r r (fun ex => .load1 isAgg29 r .z r r r .mk) ?_)))))))))
 refine .fs [[], [], []] r (by kernel_rfl) ?_
 obtain ⟨h56, h57, h58, hd⟩ := hd
 have h64 : Int.toNat x39 ≤ Int.toNat x48 := by omega
 have h65 : Int.toNat x48 ≤ a0.Col.length := by omega
 obtain ⟨p59, c60, e62, e63, R61⟩ := RepSl.sliceW R6 (Int.toNat x39) (Int.toNat x48) (Int.toNat x48) h64 h65 (.inr rfl)
 refine .f [1, 2, 3, 4] r (by kernel_rfl) r r (fun ex => .sliceW (L := Int.toNat x39) (H := Int.toNat x48) (cm := Int.toNat x48) underlying29 sizeOf3 r r R6.1 r r r (.inr ⟨_, _, r, h56, r⟩) (.inr ⟨_, _, r, (by omega), r⟩) (.inr r) h64 h65 r e62 e63 r r .mk) (.f [] r (by kernel_rfl) r r (fun ex => .fieldAddr underlying35 r sizeOf30 r (o := 4) r r r .mk) (.f [6] r (by kernel_rfl) r r (fun ex => .load1 isAgg30 r .z r r r .mk) (.fs [[], [], []] r (by kernel_rfl) ?_)))
 obtain ⟨h66, h67, h68, hd⟩ := hd
 have h74 : Int.toNat x39 ≤ Int.toNat x48 := by omega
 have h75 : Int.toNat x48 ≤ a0.Val.length := by omega
 obtain ⟨p69, c70, e72, e73, R71⟩ := RepSl.sliceW R9 (Int.toNat x39) (Int.toNat x48) (Int.toNat x48) h74 h75 (.inr rfl)
 exact .f [7, 8, 9, 10] r (by kernel_rfl) r r (fun ex => .sliceW (L := Int.toNat x39) (H := Int.toNat x48) (cm := Int.toNat x48) underlying30 sizeOf2 r r R9.1 r r r (.inr ⟨_, _, r, h66, r⟩) (.inr ⟨_, _, r, (by omega), r⟩) (.inr r) h74 h75 r e72 e73 r r .mk) (.fs [[5, 0, 1, 2, 3, 4, 5]] r (by kernel_rfl) (.e 13 (by kernel_rfl) (by kernel_rfl) (by kernel_rfl) (.skips 1 r (.nilS [5, 4] r r (.drop .z (.ret (pret results107 (.t r (.t r .n)) (.refl _) ⟨(((a0.Col.take x48.toNat).drop x39.toNat), ((a0.Val.take x48.toNat).drop x39.toNat)), _, _, _, _, r, R61, R71, hd⟩)))))))

theorem W_csr_Triples {I : IH} {a0 : Rows} {p1 : Option Addr} {c2 : Nat} {p4 : Option Addr} {c5 : Nat} {p7 : Option Addr} {c8 : Nat} {Q : (List Triple) → Prop} (R3 : RepSl eI64 I p1 c2 a0.Start) (R6 : RepSl eI64 I p4 c5 a0.Col) (R9 : RepSl eI64 I p7 c8 a0.Val) (hd : csr_Triples a0 Q) :
    OFun Tryz.prog 62 [.agg #[.int .i64 a0.Rows, .int .i64 a0.Cols, .slice p1 a0.Start.length c2, .slice p4 a0.Col.length c5, .slice p7 a0.Val.length c8]] I (fun I_ v l => ∃ r p10 c11, v = .slice p10 r.length c11 ∧ l = [OwnSl eTriple 84 p10 c11 r] ∧ Q r) := by
 refine Fun.enter func62 r ntmps62 r (.c .n) fun w0 M => ?_
 refine .seq (.region (.boxA r r r fun b15 => ?_))
 refine .skips 1 r (.nilS [1] r r (.seq (.region (.loadW isAgg35 sizeOf35 r .z r r r ?_))))
 have hw49 := W_csr_sure (I := I) R3 R6 R9 hd
 refine .call call106 r hw49 r r fun v38 I35 hl36 hv37 => ?_
 obtain ⟨r34, p40, c41, p43, c44, p46, c47, rfl, R42, R45, R48, hd⟩ := hv37
 have le50 := IH.le.trans (.refl _) hl36
 replace R3 := R3.mono hl36
 replace R6 := R6.mono hl36
 replace R9 := R9.mono hl36
 refine .storeA sizeOf35 r r .z (.t (.t (.t (.t (.t .nil))))) r r (.nilS [1] r r (.seq (.region (.skips 1 r (.nilS [3, 1] r r (.seq (.seq (.region (.fieldAddr underlying35 r sizeOf3 r (o := 0) r r r ?_)))))))))
 refine .load1 isAgg3 r .z r r r (.skips 1 r (.nilS [13, 12, 3, 1] r r (.block (.own0 eTriple 84 (.loop hd (fun (s : (List Triple) × Int) c w => match s with | (s394, s398) => ∃ I_ p395 c396, IH.le I35 I_ ∧ Ok ⟨42, [], none⟩ [(1, .pointer (some ⟨b15, 0, none⟩)), (3, .slice p395 s394.length c396), (12, .int .i64 r34.Rows), (13, .int .i64 s398)] c ∧ Sym w0 M I I_ [pto b15 (.cells #[.int .i64 r34.Rows, .int .i64 r34.Cols, .slice p40 r34.Start.length c41, .slice p43 r34.Col.length c44, .slice p46 r34.Val.length c47] 35 (0, 0)), OwnSl eTriple 84 p395 c396 s394] w) (fun c w ho hs => ⟨I35, _, _, (.refl _), ho.sub ⟨r, r, r, r, trivial⟩, hs.pick (.c (.s .z) (.c .z .n))⟩) ?_)))))
 rintro ⟨s394, s398⟩ next400 hd c w hst
 obtain ⟨I401, p395, c396, hl402, hok, hsym⟩ := hst
 have le403 := IH.le.trans le50 hl402
 have le404 := IH.le.trans (.refl _) hl402
 replace R42 := R42.mono hl402
 replace R45 := R45.mono hl402
 replace R48 := R48.mono hl402
 refine Cod.at hok hsym (.seq (.region (.lt r r r r (.nilS [14, 13, 12, 3, 1] r r (.seq (.condP r hd (fun hb406 hd => ?_) fun hb406 hd => ?_))))))
 · refine .skipS [13, 12, 3, 1] r r (.seq (.block (.seq (.region (.skips 2 r (.nilS [4, 13, 12, 3, 1] r r (.seq (.region (.loadW isAgg35 sizeOf35 r .z r r r ?_)))))))))
   refine .skips 1 r ?_
   have hw434 := W_csr_part (I := I401) R42 R45 R48 hd
   refine .call call107 r hw434 r r fun v426 I423 hl424 hv425 => ?_
   obtain ⟨r422, p428, c429, p431, c432, rfl, R430, R433, hd⟩ := hv425
   have le435 := IH.le.trans le403 hl424
   have le436 := IH.le.trans le404 hl424
   replace R42 := R42.mono hl424
   replace R45 := R45.mono hl424
   replace R48 := R48.mono hl424
   refine .skips 1 r (.extract r r r r (.extract r r r r (.skips 2 r (.nilS [6, 5, 4, 13, 12, 3, 1] r r (.seq (.region (.skips 1 r (.len underlying29 r r r r (.skips 1 r ?_)))))))))
   refine .nilS [24, 23, 22, 6, 4, 13, 12, 3, 1] r r (.block (.loop hd (fun (s : (List Triple) × Int) c w => match s with | (s522, s526) => ∃ I_ p523 c524, IH.le I423 I_ ∧ Ok ⟨42, [], none⟩ [(1, .pointer (some ⟨b15, 0, none⟩)), (3, .slice p523 s522.length c524), (4, .int .i64 s398), (6, .slice p431 r422.2.length c432), (12, .int .i64 r34.Rows), (13, .int .i64 s398), (22, .slice p428 r422.1.length c429), (23, .int .i64 (r422.1.length : Int)), (24, .int .i64 s526)] c ∧ Sym w0 M I I_ [pto b15 (.cells #[.int .i64 r34.Rows, .int .i64 r34.Cols, .slice p40 r34.Start.length c41, .slice p43 r34.Col.length c44, .slice p46 r34.Val.length c47] 35 (0, 0)), OwnSl eTriple 84 p523 c524 s522] w) (fun c w ho hs => ⟨I423, _, _, (.refl _), ho.sub ⟨r, r, r, r, r, r, r, r, r, trivial⟩, hs.pick (.c .z (.c .z .n))⟩) ?_))
   rintro ⟨s522, s526⟩ next527 hd c w hst
   obtain ⟨I528, p523, c524, hl529, hok, hsym⟩ := hst
   have le530 := IH.le.trans le435 hl529
   have le531 := IH.le.trans le436 hl529
   have le532 := IH.le.trans (.refl _) hl529
   replace R42 := R42.mono hl529
   replace R45 := R45.mono hl529
   replace R48 := R48.mono hl529
   replace R430 := R430.mono hl529
   replace R433 := R433.mono hl529
   refine Cod.at hok hsym (.seq (.region (.lt r r r r (.nilS [25, 24, 23, 22, 13, 12, 6, 4, 3, 1] r r (.seq (.condP r hd (fun hb534 hd => ?_) fun hb534 hd => ?_))))))
   · refine .skipS [24, 23, 22, 13, 12, 6, 4, 3, 1] r r (.seq (.block (.seq (.region (.skips 1 r ?_)))))
     obtain ⟨h544, x545, hx546, hd⟩ := hd
     obtain ⟨b547, o548, cs549, e550, hC551, hr552⟩ := R430.2 _ _ hx546
     cases hr552
     refine .ixa underlying29 sizeOf3 r e550 r h544 (idx_lt hx546 h544) r r (.ld1 (j := 0) isAgg3 hC551 r r r r r (.skips 2 r (.nilS [8, 7, 24, 23, 22, 13, 12, 6, 4, 3, 1] r r (.region (.skips 5 r ?_)))))
     obtain ⟨h553, x554, hx555, hd⟩ := hd
     obtain ⟨b556, o557, cs558, e559, hC560, hr561⟩ := R433.2 _ _ hx555
     cases hr561
     refine .ixa underlying30 sizeOf2 r e559 r h553 (idx_lt hx555 h553) r r (.ld1 (j := 0) isAgg2 hC560 r r r r r (.build zeroValue84 underlying84 BI84 (.c r r r (.t .nil) (.c r r r (.s (.t .nil)) (.c r r r (.s (.s (.t .nil))) .n))) (by exact ⟨⟨_, _, r, r, r⟩, ⟨⟨_, _, r, r, r⟩, ⟨⟨_, _, r, r, r⟩, trivial⟩⟩⟩) r r (.buildSlice 1 underlying24 sizeOf84 zeroValue84 r r (.c r r r .n) r r fun b562 => ?_)))
     obtain ⟨hl564, hd⟩ := hd
     refine .append (ys := [({ Row := s398, Col := x545, Val := x554 } : Triple)]) 24 (.s (.s .z)) underlying24 underlying24 IN84 r r r r r r r r r (.box .z (.one r) r) hl564 r r fun p565 c566 => ?_
     exact .sub (E' := [(1, _), (4, _), (6, _), (12, _), (13, _), (22, _), (23, _), (24, _), (7, _), (8, _), (29, _), (30, _), (31, _), (32, _), (33, _), (34, _), (35, _), (36, _), (37, _), (38, _)]) ⟨r, r, r, r, r, r, r, r, r, r, r, r, r, r, r, r, r, r, r, r, trivial⟩ (.skips 1 r (.nilS [3, 24, 23, 22, 13, 12, 6, 4, 1] r r (.drop (.s .z) (.region (.add r r r r (.sub (E' := [(1, _), (4, _), (6, _), (12, _), (13, _), (22, _), (23, _), (3, _), (39, _)]) ⟨r, r, r, r, r, r, r, r, r, trivial⟩ (.skips 1 r (.nil' fun c w ho hs => ⟨((s522 ++ ([({ Row := s398, Col := x545, Val := x554 } : Triple)])), w64 (s526 + 1)), hd, I528, _, _, le532, ho.sub ⟨r, r, r, r, r, r, r, r, r, trivial⟩, hs.pick (.c (.s .z) (.c .z .n))⟩))))))))
   exact .exitS [13, 12, 3, 1] r r (.region (.add r r r r (.sub (E' := [(1, _), (3, _), (12, _), (40, _)]) ⟨r, r, r, r, trivial⟩ (.skips 1 r (.nil' fun c w ho hs => ⟨(s522, w64 (s398 + 1)), hd, I528, _, _, le531, ho.sub ⟨r, r, r, r, trivial⟩, hs.pick (.c .z (.c .z .n))⟩)))))
 exact .exitS [3] r r (.drop .z (.seq (.region (.skips 2 r (.nilS [2] r r (.ret (oret results62 (.t r .n) le403 (.c .z .n) ⟨s394, _, _, r, r, hd⟩)))))))

theorem W_csr_order {I : IH} {a0 : Triple} {a1 : Triple}  {Q : Int → Prop}  (hd : csr_order a0 a1 Q) :
    PFun Tryz.prog 109 [.agg (encTriple a0).toArray, .agg (encTriple a1).toArray] I (fun I_ v => ∃ r, v = .int .i64 r ∧ Q r) := by
 refine Fun.enter func109 r ntmps109 r (.c (.c .n)) fun w0 M => ?_
 refine .seq (.region (.boxA r r r fun b5 => ?_))
 refine .boxA r r r fun b7 => ?_
 refine .skips 1 r (.nilS [3, 2] r r (.seq (.draw [some 0, some 1, some 2, some 3, some 5, some 6, some 7, some 8, some 4, some 9, some 10, some 11] 12 MX (by kernel_rfl) (by kernel_rfl) (by kernel_rfl) (by kernel_rfl) (by kernel_rfl) (by kernel_rfl) (by kernel_rfl) (fun ex => (pto b7 (.cells #[.int .i64 a1.Row, .int .i64 a1.Col, .int .i64 a1.Val] 84 (0, 0))) :: (pto b5 (.cells #[.int .i64 a0.Row, .int .i64 a0.Col, .int .i64 a0.Val] 84 (0, 0))) :: ex) (fun _ _ => (.s (.s .z))) r (.f [] r (by kernel_rfl) r r (fun ex => .fieldAddr underlying84 r sizeOf3 r (o := 0) r r r .mk) (.f [0] r (by kernel_rfl) r r (fun ex => .load1 isAgg3 r (.s .z) r r r .mk) (.f [] r (by kernel_rfl) r r (fun ex => .fieldAddr underlying84 r sizeOf3 r (o := 0) r r r .mk) (.f [2] r (by kernel_rfl) r r (fun ex => .load1 isAgg3 r .z r r r .mk) (.f [] r (by kernel_rfl) r r (fun ex => .fieldAddr underlying84 r sizeOf3 r (o := 1) r r r .mk) (.f [5] r (by kernel_rfl) r r (fun ex => .load1 isAgg3 r (.s .z) r r r .mk) ?_)))))))))
 refine .f [] r (by kernel_rfl) r r (fun ex => .fieldAddr underlying84 r sizeOf3 r (o := 1) r r r .mk) (.f [7] r (by kernel_rfl) r r (fun ex => .load1 isAgg3 r .z r r r .mk) (.w [8, 7, 6, 5] [[], [3], [], [1]] [1, 3] r (by kernel_rfl) (by kernel_rfl) (by kernel_rfl) ((dropE_kept r r)) (.inr (dropE_kept r r)) fun ex => ?_))
 have hw10 := W_cmp_Compare_int (I := I) hd
 refine .callP call152 r hw10 r r fun v11 hv12 => ?_
 obtain ⟨r9, rfl, hd⟩ := hv12
 refine .some (fun ex => (pto b7 (.cells #[.int .i64 a1.Row, .int .i64 a1.Col, .int .i64 a1.Val] 84 (0, 0))) :: (pto b5 (.cells #[.int .i64 a0.Row, .int .i64 a0.Col, .int .i64 a0.Val] 84 (0, 0))) :: ex) r (fun _ _ => (.s (.s .z))) r (.cc [7] r (by kernel_rfl) r r r (fun ex => .load1 isAgg3 r .z r r r .mk) (.cc [] r (by kernel_rfl) r r r (fun ex => .fieldAddr underlying84 r sizeOf3 r (o := 1) r r r .mk) (.cc [5] r (by kernel_rfl) r r r (fun ex => .load1 isAgg3 r (.s .z) r r r .mk) (.cc [] r (by kernel_rfl) r r r (fun ex => .fieldAddr underlying84 r sizeOf3 r (o := 1) r r r .mk) trivial)))) (.w [] [[], [8], [], [6]] [6, 8, 4] r (by kernel_rfl) (by kernel_rfl) (by kernel_rfl) ((dropE_kept r r)) (.inr (dropE_kept r r)) fun ex => ?_)
 have hw14 := W_cmp_Compare_int (I := I) hd
 refine .callP call152 r hw14 r r fun v15 hv16 => ?_
 obtain ⟨r13, rfl, hd⟩ := hv16
 refine .some (fun ex => (pto b7 (.cells #[.int .i64 a1.Row, .int .i64 a1.Col, .int .i64 a1.Val] 84 (0, 0))) :: (pto b5 (.cells #[.int .i64 a0.Row, .int .i64 a0.Col, .int .i64 a0.Val] 84 (0, 0))) :: ex) r (fun _ _ => (.s (.s .z))) r trivial (.w [] [] [4, 9] r (by kernel_rfl) (by kernel_rfl) (by kernel_rfl) ((dropE_kept r r)) (.inr (dropE_kept r r)) fun ex => ?_)
 refine .buildSlice 2 underlying29 sizeOf3 zeroValue3 r r (.c r r r (.c r r r .n)) r r fun b17 => ?_
 refine .some (fun ex => (pto b17 (.cells #[.int .i64 r9, .int .i64 r13] 3 (0, 0))) :: (pto b7 (.cells #[.int .i64 a1.Row, .int .i64 a1.Col, .int .i64 a1.Val] 84 (0, 0))) :: (pto b5 (.cells #[.int .i64 a0.Row, .int .i64 a0.Col, .int .i64 a0.Val] 84 (0, 0))) :: ex) r (fun _ _ => (.s (.s (.s .z)))) r trivial (.w [] [] [10, 9] r (by kernel_rfl) (by kernel_rfl) (by kernel_rfl) ((dropE_kept r r)) (.inr (dropE_kept r r)) fun ex => ?_)
 refine .pubB (El := eI64) (ys := ([r9, r13] : List Int)) (k := 2) .z (RepCs.cons (cs := [.int .i64 r9]) r (RepCs.cons (cs := [.int .i64 r13]) r .nil)) r fun I19 hl20 R21 => ?_
 have le22 := IH.le.trans (.refl _) hl20
 have hw24 := W_cmp_Or_int (I := I19) R21 hd
 refine .callP call151 r hw24 r r fun v25 hv26 => ?_
 obtain ⟨r23, rfl, hd⟩ := hv26
 exact .some (fun ex => (pto b7 (.cells #[.int .i64 a1.Row, .int .i64 a1.Col, .int .i64 a1.Val] 84 (0, 0))) :: (pto b5 (.cells #[.int .i64 a0.Row, .int .i64 a0.Col, .int .i64 a0.Val] 84 (0, 0))) :: ex) r (fun _ _ => (.s (.s .z))) r trivial (.e 12 (by kernel_rfl) (by kernel_rfl) (by kernel_rfl) (.skips 1 r (.nilS [4] r r (.drop .z (.drop .z (.ret (pret results109 (.t r .n) le22 ⟨r23, r, hd⟩)))))))

theorem W_csr_built {I : IH} {a0 : Int} {a1 : Int} {a2 : List Triple} {p1 : Option Addr} {c2 : Nat} {Q : Rows → Prop} (R3 : RepSl eTriple I p1 c2 a2) (hd : csr_built a0 a1 a2 Q) :
    PFun Tryz.prog 110 [.int .i64 a0, .int .i64 a1, .slice p1 a2.length c2] I (fun I_ v => ∃ r p4 c5 p7 c8 p10 c11, v = .agg #[.int .i64 r.Rows, .int .i64 r.Cols, .slice p4 r.Start.length c5, .slice p7 r.Col.length c8, .slice p10 r.Val.length c11] ∧ RepSl eI64 I_ p4 c5 r.Start ∧ RepSl eI64 I_ p7 c8 r.Col ∧ RepSl eI64 I_ p10 c11 r.Val ∧ Q r) := by
 refine Fun.enter func110 r ntmps110 r (.c (.c (.c .n))) fun w0 M => ?_
 refine .seq (.region (.allocA zeroValue35 r r fun b15 => ?_))
 refine .nilS [6, 2, 1, 0] r r (.seq (.region (.skips 2 r ?_)))
 have hw57 := W_csr_empty (I := I) hd
 refine .callO call148 r hw57 r r fun v43 I40 l44 hl41 hv42 => ?_
 obtain ⟨r39, p45, c46, p48, c49, p51, c52, rfl, rfl, hd⟩ := hv42
 have le58 := IH.le.trans (.refl _) hl41
 replace R3 := R3.mono hl41
 refine .allocA zeroValue35 r r fun b59 => ?_
 refine .storeA sizeOf35 r r .z (.t (.t (.t (.t (.t .nil))))) r r (.nilS [7, 6, 2, 0] r r (.seq (.seq (.region (.skips 1 r (.len underlying24 r r r r (.skips 1 r (.nilS [16, 15, 14, 7, 6, 0] r r (.block ?_)))))))))
 refine .loop hd (fun (s : (List Int) × (List Int) × (List Int) × Int) c w => match s with | (s417, s421, s425, s429) => ∃ I_ p418 c419 p422 c423 p426 c427, IH.le I40 I_ ∧ Ok ⟨63, [], none⟩ [(0, .int .i64 a0), (6, .pointer (some ⟨b15, 0, none⟩)), (7, .pointer (some ⟨b59, 0, none⟩)), (14, .slice p1 a2.length c2), (15, .int .i64 (a2.length : Int)), (16, .int .i64 s429)] c ∧ Sym w0 M I I_ [pto b15 (.cells #[.int .i64 0, .int .i64 0, .slice none 0 0, .slice none 0 0, .slice none 0 0] 35 (0, 0)), pto b59 (.cells #[.int .i64 r39.Rows, .int .i64 r39.Cols, .slice p418 s417.length c419, .slice p422 s421.length c423, .slice p426 s425.length c427] 35 (0, 0)), OwnSl eI64 3 p418 c419 s417, OwnSl eI64 3 p422 c423 s421, OwnSl eI64 2 p426 c427 s425] w) (fun c w ho hs => ⟨I40, _, _, _, _, _, _, (.refl _), ho.sub ⟨r, r, r, r, r, r, trivial⟩, hs.pick (.c (.s (.s (.s (.s .z)))) (.c .z (.c .z (.c .z (.c .z .n)))))⟩) ?_
 rintro ⟨s417, s421, s425, s429⟩ next430 hd c w hst
 obtain ⟨I431, p418, c419, p422, c423, p426, c427, hl432, hok, hsym⟩ := hst
 have le433 := IH.le.trans le58 hl432
 have le434 := IH.le.trans (.refl _) hl432
 replace R3 := R3.mono hl432
 refine Cod.at hok hsym (.seq (.region (.lt r r r r (.nilS [17, 16, 15, 14, 7, 6, 0] r r (.seq (.condP r hd (fun hb436 hd => ?_) fun hb436 hd => ?_))))))
 · refine .skipS [16, 15, 14, 7, 6, 0] r r (.seq (.block (.seq (.region ?_))))
   obtain ⟨h448, x449, hx450, hd⟩ := hd
   obtain ⟨b451, o452, cs453, e454, hC455, hr456⟩ := R3.2 _ _ hx450
   cases hr456
   refine .ixa underlying24 sizeOf84 r e454 r h448 (idx_lt hx450 h448) r r (.ldW isAgg84 sizeOf84 hC455 r r r r (.allocA zeroValue84 r r fun b457 => ?_))
   refine .storeA sizeOf84 r r .z (.t (.t (.t .nil))) r r (.nilS [9, 16, 15, 14, 7, 6, 0] r r (.seq (.region (.fieldAddr underlying35 r sizeOf29 r (o := 2) r r r (.load1 isAgg29 r (.s (.s .z)) r r r (.fieldAddr underlying84 r sizeOf3 r (o := 0) r r r (.load1 isAgg3 r .z r r r (.add r r r r ?_))))))))
   obtain ⟨h467, x468, hx469, hd⟩ := hd
   refine .ownNe (.s (.s (.s .z))) (idx_ne hx469) fun b470 e471 => ?_
   cases e471
   refine .ixa0 underlying29 sizeOf3 r r h467 (idx_lt hx469 h467) r r (.lo1 (j := 0) isAgg3 (.s (.s (.s .z))) hx469 r r r r r (.add r r r r ?_))
   obtain ⟨h472, x473, hx474, hd⟩ := hd
   refine .ixa0 underlying29 sizeOf3 r r h472 (idx_lt hx474 h472) r r (.stO1 (j := 0) (v' := (w64 (x468 + 1))) sizeOf3 (.s (.s (.s .z))) hx474 r r r (.t .nil) r (.sub (E' := [(0, _), (6, _), (7, _), (14, _), (15, _), (16, _), (9, _), (20, _), (21, .slice (some ⟨b470, 0, none⟩) (s417.set ((w64 (x449.Row + 1)).toNat) (w64 (x468 + 1))).length c419), (22, _), (23, _), (24, _), (25, _), (26, _), (27, _), (28, _)]) ⟨r, r, r, r, r, r, r, r, (by simp only [List.length_set]; rfl), r, r, r, r, r, r, r, trivial⟩ (.reat (.s (.s .z)) (B := pto b59 (.cells #[.int .i64 r39.Rows, .int .i64 r39.Cols, .slice (some ⟨b470, 0, none⟩) (s417.set ((w64 (x449.Row + 1)).toNat) (w64 (x468 + 1))).length c419, .slice p422 s421.length c423, .slice p426 s425.length c427] 35 (0, 0))) (by simp only [List.length_set]) (.nilS [9, 16, 15, 14, 7, 6, 0] r r (.seq (.region (.fieldAddr underlying35 r sizeOf29 r (o := 3) r r r (.load1 isAgg29 r (.s (.s .z)) r r r (.fieldAddr underlying84 r sizeOf3 r (o := 1) r r r ?_)))))))))
   refine .load1 isAgg3 r .z r r r (.buildSlice 1 underlying29 sizeOf3 zeroValue3 r r (.c r r r .n) r r fun b475 => ?_)
   obtain ⟨hl477, hd⟩ := hd
   refine .append (ys := [x449.Col]) 8 (.s (.s (.s (.s (.s .z))))) underlying29 underlying29 IN3 r r r r r r r r r (.box .z (.one r) r) hl477 r r fun p478 c479 => ?_
   refine .fieldAddr underlying35 r sizeOf29 r (o := 3) r r r (.store1 sizeOf29 r r (.s (.s (.s (.s .z)))) (.s (.s (.s (.t .nil)))) r (.nilS [9, 16, 15, 14, 7, 6, 0] r r (.drop (.s .z) (.region (.fieldAddr underlying35 r sizeOf30 r (o := 4) r r r (.load1 isAgg30 r (.s (.s (.s .z))) r r r (.fieldAddr underlying84 r sizeOf2 r (o := 2) r r r (.load1 isAgg2 r (.s .z) r r r (.buildSlice 1 underlying30 sizeOf2 zeroValue2 r r (.c r r r .n) r r fun b481 => ?_)))))))))
   obtain ⟨hl483, hd⟩ := hd
   refine .append (ys := [x449.Val]) 8 (.s (.s (.s (.s (.s (.s .z)))))) underlying30 underlying30 IN2 r r r r r r r r r (.box .z (.one r) r) hl483 r r fun p484 c485 => ?_
   exact .fieldAddr underlying35 r sizeOf30 r (o := 4) r r r (.store1 sizeOf30 r r (.s (.s (.s (.s (.s .z))))) (.s (.s (.s (.s (.t .nil))))) r (.nilS [16, 15, 14, 7, 6, 0] r r (.drop (.s .z) (.drop (.s (.s .z)) (.region (.add r r r r (.sub (E' := [(0, _), (6, _), (7, _), (14, _), (15, _), (43, _)]) ⟨r, r, r, r, r, r, trivial⟩ (.skips 1 r (.nil' fun c w ho hs => ⟨((s417.set ((w64 (x449.Row + 1)).toNat) (w64 (x468 + 1))), (s421 ++ ([x449.Col])), (s425 ++ ([x449.Val])), w64 (s429 + 1)), hd, I431, _, _, _, _, _, _, le434, ho.sub ⟨r, r, r, r, r, r, trivial⟩, hs.pick (.c (.s (.s .z)) (.c (.s (.s .z)) (.c (.s (.s .z)) (.c (.s .z) (.c .z .n)))))⟩)))))))))
 refine .exitS [7, 6, 0] r r (.seq (.seq (.region (.skips 2 r (.nilS [45, 44, 7, 6] r r (.block (.loop hd (fun (s : (List Int) × Int) c w => match s with | (s534, s538) => ∃ I_ p535 c536, IH.le I431 I_ ∧ Ok ⟨63, [], none⟩ [(6, .pointer (some ⟨b15, 0, none⟩)), (7, .pointer (some ⟨b59, 0, none⟩)), (44, .int .i64 a0), (45, .int .i64 s538)] c ∧ Sym w0 M I I_ [pto b15 (.cells #[.int .i64 0, .int .i64 0, .slice none 0 0, .slice none 0 0, .slice none 0 0] 35 (0, 0)), pto b59 (.cells #[.int .i64 r39.Rows, .int .i64 r39.Cols, .slice p535 s534.length c536, .slice p422 s421.length c423, .slice p426 s425.length c427] 35 (0, 0)), OwnSl eI64 3 p535 c536 s534, OwnSl eI64 3 p422 c423 s421, OwnSl eI64 2 p426 c427 s425] w) (fun c w ho hs => ⟨I431, _, _, (.refl _), ho.sub ⟨r, r, r, r, trivial⟩, hs.pick (.c .z (.c .z (.c .z (.c .z (.c .z .n)))))⟩) ?_)))))))
 rintro ⟨s534, s538⟩ next539 hd c w hst
 obtain ⟨I540, p535, c536, hl541, hok, hsym⟩ := hst
 have le542 := IH.le.trans le433 hl541
 have le543 := IH.le.trans le434 hl541
 have le544 := IH.le.trans (.refl _) hl541
 refine Cod.at hok hsym (.seq (.region (.lt r r r r (.nilS [46, 45, 44, 7, 6] r r (.seq (.condP r hd (fun hb546 hd => ?_) fun hb546 hd => ?_))))))
 · refine .skipS [45, 44, 7, 6] r r (.seq (.block (.seq (.region (.skips 2 r (.nilS [10, 45, 44, 7, 6] r r (.ownF (.s (.s .z)) fun hne547 => ?_)))))))
   refine .ownF (.s (.s (.s .z))) fun hne548 => ?_
   refine .ownF (.s (.s (.s (.s .z)))) fun hne549 => ?_
   refine .draw [some 0, some 1, some 2, some 3, some 4, some 5, some 6, some 7, some 8, some 9, some 10, some 11] 12 MX (by kernel_rfl) (by kernel_rfl) (by kernel_rfl) (by kernel_rfl) (by kernel_rfl) (by kernel_rfl) (by kernel_rfl) (fun ex => (pto b15 (.cells #[.int .i64 0, .int .i64 0, .slice none 0 0, .slice none 0 0, .slice none 0 0] 35 (0, 0))) :: (pto b59 (.cells #[.int .i64 r39.Rows, .int .i64 r39.Cols, .slice p535 s534.length c536, .slice p422 s421.length c423, .slice p426 s425.length c427] 35 (0, 0))) :: (OwnSl eI64 3 p535 c536 s534) :: (OwnSl eI64 3 p422 c423 s421) :: (OwnSl eI64 2 p426 c427 s425) :: ex) (fun _ _ => (.s (.s (.s (.s (.s .z)))))) r (.f [] r (by kernel_rfl) r r (fun ex => .fieldAddr underlying35 r sizeOf29 r (o := 2) r r r .mk) (.f [0] r (by kernel_rfl) r r (fun ex => .load1 isAgg29 r (.s .z) r r r .mk) (.fs [[]] r (by kernel_rfl) (.f [2] r (by kernel_rfl) r r (fun ex => .add r r r r .mk) ?_))))
   obtain ⟨h550, x551, hx552, hd⟩ := hd
   obtain ⟨b553, e554⟩ := hne547 (idx_ne hx552)
   cases e554
   refine .f [1, 3] r (by kernel_rfl) r r (fun ex => .ixa0 underlying29 sizeOf3 r r h550 (idx_lt hx552 h550) r r .mk) (.f [4] r (by kernel_rfl) r r (fun ex => .lo1 (j := 0) isAgg3 (.s (.s .z)) hx552 r r r r r .mk) (.f [] r (by kernel_rfl) r r (fun ex => .fieldAddr underlying35 r sizeOf29 r (o := 2) r r r .mk) (.f [6] r (by kernel_rfl) r r (fun ex => .load1 isAgg29 r (.s .z) r r r .mk) (.fs [[]] r (by kernel_rfl) ?_))))
   obtain ⟨h555, x556, hx557, hd⟩ := hd
   refine .f [7, 8] r (by kernel_rfl) r r (fun ex => .ixa0 underlying29 sizeOf3 r r h555 (idx_lt hx557 h555) r r .mk) (.f [9] r (by kernel_rfl) r r (fun ex => .lo1 (j := 0) isAgg3 (.s (.s .z)) hx557 r r r r r .mk) (.f [5, 10] r (by kernel_rfl) r r (fun ex => .add r r r r .mk) (.e 12 (by kernel_rfl) (by kernel_rfl) (by kernel_rfl) ?_)))
   obtain ⟨h558, x559, hx560, hd⟩ := hd
   exact .ixa0 underlying29 sizeOf3 r r h558 (idx_lt hx560 h558) r r (.stO1 (j := 0) (v' := (w64 (x551 + x556))) sizeOf3 (.s (.s .z)) hx560 r r r (.t .nil) r (.sub (E' := [(6, _), (7, _), (44, _), (45, _), (10, _), (48, _), (49, .slice (some ⟨b553, 0, none⟩) (s534.set ((w64 (s538 + 1)).toNat) (w64 (x551 + x556))).length c536), (50, _), (51, _), (52, _), (53, _), (54, _), (55, .slice (some ⟨b553, 0, none⟩) (s534.set ((w64 (s538 + 1)).toNat) (w64 (x551 + x556))).length c536), (56, _), (57, _), (58, _), (59, _), (60, _)]) ⟨r, r, r, r, r, r, (by simp only [List.length_set]; rfl), r, r, r, r, r, (by simp only [List.length_set]; rfl), r, r, r, r, r, trivial⟩ (.reat (.s .z) (B := pto b59 (.cells #[.int .i64 r39.Rows, .int .i64 r39.Cols, .slice (some ⟨b553, 0, none⟩) (s534.set ((w64 (s538 + 1)).toNat) (w64 (x551 + x556))).length c536, .slice p422 s421.length c423, .slice p426 s425.length c427] 35 (0, 0))) (by simp only [List.length_set]) (.nilS [45, 44, 7, 6] r r (.region (.add r r r r (.sub (E' := [(6, _), (7, _), (44, _), (61, _)]) ⟨r, r, r, r, trivial⟩ (.skips 1 r (.nil' fun c w ho hs => ⟨((s534.set ((w64 (s538 + 1)).toNat) (w64 (x551 + x556))), w64 (s538 + 1)), hd, I540, _, _, le544, ho.sub ⟨r, r, r, r, trivial⟩, hs.pick (.c .z (.c .z (.c .z (.c .z (.c .z .n)))))⟩)))))))))
 refine .exitS [7, 6] r r (.seq (.region (.loadW isAgg35 sizeOf35 r (.s .z) r r r (.storeA sizeOf35 r r .z (.t (.t (.t (.t (.t .nil))))) r r (.nilS [6] r r (.drop (.s .z) (.pub (.s .z) fun I561 hl562 R563 => ?_)))))))
 have le564 := IH.le.trans le542 hl562
 have le565 := IH.le.trans le543 hl562
 have le566 := IH.le.trans le544 hl562
 refine .pub (.s .z) fun I567 hl568 R569 => ?_
 have le570 := IH.le.trans le564 hl568
 have le571 := IH.le.trans le565 hl568
 have le572 := IH.le.trans le566 hl568
 replace R563 := R563.mono hl568
 refine .pub (.s .z) fun I573 hl574 R575 => ?_
 have le576 := IH.le.trans le570 hl574
 have le577 := IH.le.trans le571 hl574
 have le578 := IH.le.trans le572 hl574
 replace R563 := R563.mono hl574
 replace R569 := R569.mono hl574
 exact .ret (pret results110 (.w isAgg35 sizeOf35 r .z r .n) le576 ⟨({ Rows := r39.Rows, Cols := r39.Cols, Start := s534, Col := s421, Val := s425 } : Rows), _, _, _, _, _, _, r, R563, R569, R575, hd⟩)

theorem W_csr_Turn {I : IH} {a0 : Rows} {p1 : Option Addr} {c2 : Nat} {p4 : Option Addr} {c5 : Nat} {p7 : Option Addr} {c8 : Nat} {Q : Rows → Prop} (R3 : RepSl eI64 I p1 c2 a0.Start) (R6 : RepSl eI64 I p4 c5 a0.Col) (R9 : RepSl eI64 I p7 c8 a0.Val) (hd : csr_Turn a0 Q) :
    PFun Tryz.prog 63 [.agg #[.int .i64 a0.Rows, .int .i64 a0.Cols, .slice p1 a0.Start.length c2, .slice p4 a0.Col.length c5, .slice p7 a0.Val.length c8]] I (fun I_ v => ∃ r p10 c11 p13 c14 p16 c17, v = .agg #[.int .i64 r.Rows, .int .i64 r.Cols, .slice p10 r.Start.length c11, .slice p13 r.Col.length c14, .slice p16 r.Val.length c17] ∧ RepSl eI64 I_ p10 c11 r.Start ∧ RepSl eI64 I_ p13 c14 r.Col ∧ RepSl eI64 I_ p16 c17 r.Val ∧ Q r) := by
 refine Fun.enter func63 r ntmps63 r (.c .n) fun w0 M => ?_
 refine .seq (.region (.boxA r r r fun b23 => ?_))
 refine .allocA zeroValue35 r r fun b25 => ?_
 refine .nilS [2, 1] r r (.seq (.region (.loadW isAgg35 sizeOf35 r (.s .z) r r r ?_)))
 have hw59 := W_csr_sure (I := I) R3 R6 R9 hd
 refine .call call106 r hw59 r r fun v48 I45 hl46 hv47 => ?_
 obtain ⟨r44, p50, c51, p53, c54, p56, c57, rfl, R52, R55, R58, hd⟩ := hv47
 have le60 := IH.le.trans (.refl _) hl46
 replace R3 := R3.mono hl46
 replace R6 := R6.mono hl46
 replace R9 := R9.mono hl46
 refine .storeA sizeOf35 r r (.s .z) (.t (.t (.t (.t (.t .nil))))) r r (.nilS [2, 1] r r (.seq (.region (.loadW isAgg35 sizeOf35 r (.s .z) r r r ?_))))
 have hw83 := W_csr_Triples (I := I45) R52 R55 R58 hd
 refine .callO call62 r hw83 r r fun v77 I74 l78 hl75 hv76 => ?_
 obtain ⟨r73, p79, c80, rfl, rfl, hd⟩ := hv76
 have le84 := IH.le.trans le60 hl75
 replace R52 := R52.mono hl75
 replace R55 := R55.mono hl75
 replace R58 := R58.mono hl75
 refine .skips 1 r (.nilS [3, 2, 1] r r (.seq (.seq (.region (.skips 1 r (.len underlying24 r r r r (.skips 1 r (.nilS [12, 11, 10, 3, 2, 1] r r (.block ?_)))))))))
 refine .loop hd (fun (s : (List Triple) × Int) c w => match s with | (s227, s232) => ∃ I_ p228 c229, IH.le I74 I_ ∧ Ok ⟨36, [], none⟩ [(1, .pointer (some ⟨b23, 0, none⟩)), (2, .pointer (some ⟨b25, 0, none⟩)), (3, .slice p228 s227.length c229), (10, .slice p228 s227.length c229), (11, .int .i64 (r73.length : Int)), (12, .int .i64 s232)] c ∧ Sym w0 M I I_ [pto b23 (.cells #[.int .i64 r44.Rows, .int .i64 r44.Cols, .slice p50 r44.Start.length c51, .slice p53 r44.Col.length c54, .slice p56 r44.Val.length c57] 35 (0, 0)), pto b25 (.cells #[.int .i64 0, .int .i64 0, .slice none 0 0, .slice none 0 0, .slice none 0 0] 35 (0, 0)), OwnSl eTriple 84 p228 c229 s227] w) (fun c w ho hs => ⟨I74, _, _, (.refl _), ho.sub ⟨r, r, r, r, r, r, trivial⟩, hs.pick (.c (.s (.s .z)) (.c (.s .z) (.c .z .n)))⟩) ?_
 rintro ⟨s227, s232⟩ next233 hd c w hst
 obtain ⟨I234, p228, c229, hl235, hok, hsym⟩ := hst
 have le236 := IH.le.trans le84 hl235
 have le237 := IH.le.trans (.refl _) hl235
 replace R52 := R52.mono hl235
 replace R55 := R55.mono hl235
 replace R58 := R58.mono hl235
 refine Cod.at hok hsym (.seq (.region (.lt r r r r (.nilS [13, 12, 11, 10, 3, 2, 1] r r (.seq (.condP r hd (fun hb239 hd => ?_) fun hb239 hd => ?_))))))
 · refine .skipS [12, 11, 10, 3, 2, 1] r r (.seq (.block (.seq (.region (.skips 1 r ?_)))))
   obtain ⟨h247, x248, hx249, hd⟩ := hd
   refine .ownNe (.s (.s .z)) (idx_ne hx249) fun b250 e251 => ?_
   cases e251
   refine .ixa0 underlying24 sizeOf84 r r h247 (idx_lt hx249 h247) r r (.loA (j := 0) isAgg84 sizeOf84 (.s (.s .z)) hx249 r r (.t (.t (.t .nil))) r r r (.allocA zeroValue84 r r fun b252 => ?_))
   refine .skips 1 r (.storeA sizeOf84 r r .z (.t (.t (.t .nil))) r r (.nilS [4, 5, 12, 11, 10, 3, 2, 1] r r (.region (.skips 2 r (.fieldAddr underlying84 r sizeOf3 r (o := 1) r r r (.load1 isAgg3 r .z r r r (.fieldAddr underlying84 r sizeOf3 r (o := 0) r r r (.load1 isAgg3 r .z r r r (.fieldAddr underlying84 r sizeOf2 r (o := 2) r r r ?_)))))))))
   refine .load1 isAgg2 r .z r r r (.build zeroValue84 underlying84 BI84 (.c r r r (.t .nil) (.c r r r (.s (.t .nil)) (.c r r r (.s (.s (.t .nil))) .n))) (by exact ⟨⟨_, _, r, r, r⟩, ⟨⟨_, _, r, r, r⟩, ⟨⟨_, _, r, r, r⟩, trivial⟩⟩⟩) r r ?_)
   obtain ⟨h254, x255, hx256, hd⟩ := hd
   exact .ixa0 underlying24 sizeOf84 r r h254 (idx_lt hx256 h254) r r (.stOA (j := 0) (v' := ({ Row := x248.Col, Col := x248.Row, Val := x248.Val } : Triple)) sizeOf84 (.s (.s (.s .z))) hx256 r r r (.t (.t (.t .nil))) r r (.sub (E' := [(1, _), (2, _), (3, .slice (some ⟨b250, 0, none⟩) (s227.set s232.toNat ({ Row := x248.Col, Col := x248.Row, Val := x248.Val } : Triple)).length c229), (10, .slice (some ⟨b250, 0, none⟩) (s227.set s232.toNat ({ Row := x248.Col, Col := x248.Row, Val := x248.Val } : Triple)).length c229), (11, _), (12, _), (5, _), (4, _), (17, .slice (some ⟨b250, 0, none⟩) (s227.set s232.toNat ({ Row := x248.Col, Col := x248.Row, Val := x248.Val } : Triple)).length c229), (18, _), (19, _), (20, _), (21, _), (22, _), (23, _), (24, _), (25, _), (26, _)]) ⟨r, r, (by simp only [List.length_set]; rfl), (by simp only [List.length_set]; rfl), r, r, r, r, (by simp only [List.length_set]; rfl), r, r, r, r, r, r, r, r, r, trivial⟩ (.nilS [12, 11, 10, 3, 2, 1] r r (.drop .z (.region (.add r r r r (.sub (E' := [(1, _), (2, _), (3, _), (10, _), (11, _), (27, _)]) ⟨r, r, r, r, r, r, trivial⟩ (.skips 1 r (.nil' fun c w ho hs => ⟨((s227.set s232.toNat ({ Row := x248.Col, Col := x248.Row, Val := x248.Val } : Triple)), w64 (s232 + 1)), hd, I234, _, _, le237, ho.sub ⟨r, r, r, r, r, r, trivial⟩, hs.pick (.c .z (.c .z (.c .z .n)))⟩)))))))))
 refine .exitS [3, 2, 1] r r (.seq (.region (.skips 1 r ?_)))
 have hw257 := Fun.sort (hk := fun _ => ⟨r, r⟩) SL108 isAgg84 sizeOf84 (fun x y J Q hq => W_csr_order (I := J) (a0 := x) (a1 := y) (Q := Q) hq) call109 (I := I234) (T := 84) (a := p228) (cap := c229) hd
 refine .callS (.f call108 r) (.c (.s (.s .z)) .n) hw257 r r fun v258 I259 l260 hl261 hv262 => ?_
 obtain ⟨y263, rfl, hlen264, rfl, hd⟩ := hv262
 have le265 := IH.le.trans le236 hl261
 have le266 := IH.le.trans le237 hl261
 replace R52 := R52.mono hl261
 replace R55 := R55.mono hl261
 replace R58 := R58.mono hl261
 refine .sub (E' := [(1, _), (2, _), (3, .slice p228 y263.length c229), (28, .slice p228 y263.length c229), (29, _)]) ⟨r, r, (by rw [hlen264]; rfl), (by rw [hlen264]; rfl), r, trivial⟩ (.nilS [3, 2, 1] r r (.seq (.region (.fieldAddr underlying35 r sizeOf3 r (o := 1) r r r (.load1 isAgg3 r (.s .z) r r r (.fieldAddr underlying35 r sizeOf3 r (o := 0) r r r (.load1 isAgg3 r (.s .z) r r r (.skips 1 r (.pub .z fun I267 hl268 R269 => ?_)))))))))
 have le270 := IH.le.trans le265 hl268
 have le271 := IH.le.trans le266 hl268
 replace R52 := R52.mono hl268
 replace R55 := R55.mono hl268
 replace R58 := R58.mono hl268
 have hw287 := W_csr_built (I := I267) R269 hd
 refine .call call110 r hw287 r r fun v276 I273 hl274 hv275 => ?_
 obtain ⟨r272, p278, c279, p281, c282, p284, c285, rfl, R280, R283, R286, hd⟩ := hv275
 have le288 := IH.le.trans le270 hl274
 have le289 := IH.le.trans le271 hl274
 replace R52 := R52.mono hl274
 replace R55 := R55.mono hl274
 replace R58 := R58.mono hl274
 replace R269 := R269.mono hl274
 exact .storeA sizeOf35 r r (.s .z) (.t (.t (.t (.t (.t .nil))))) r r (.nilS [2] r r (.drop .z (.ret (pret results63 (.w isAgg35 sizeOf35 r .z r .n) le288 ⟨r272, _, _, _, _, _, _, r, R280, R283, R286, hd⟩))))

theorem W_dcsc_Of {I : IH} {a0 : Rows} {p1 : Option Addr} {c2 : Nat} {p4 : Option Addr} {c5 : Nat} {p7 : Option Addr} {c8 : Nat} {Q : Columns → Prop} (R3 : RepSl eI64 I p1 c2 a0.Start) (R6 : RepSl eI64 I p4 c5 a0.Col) (R9 : RepSl eI64 I p7 c8 a0.Val) (hd : dcsc_Of a0 Q) :
    PFun Tryz.prog 25 [.agg #[.int .i64 a0.Rows, .int .i64 a0.Cols, .slice p1 a0.Start.length c2, .slice p4 a0.Col.length c5, .slice p7 a0.Val.length c8]] I (fun I_ v => ∃ r p10 c11 p13 c14 p16 c17 p19 c20, v = .agg #[.int .i64 r.Rows, .int .i64 r.Cols, .slice p10 r.At.length c11, .slice p13 r.Start.length c14, .slice p16 r.Row.length c17, .slice p19 r.Val.length c20] ∧ RepSl eI64 I_ p10 c11 r.At ∧ RepSl eI64 I_ p13 c14 r.Start ∧ RepSl eI64 I_ p16 c17 r.Row ∧ RepSl eI64 I_ p19 c20 r.Val ∧ Q r) := by
 refine Fun.enter func25 r ntmps25 r (.c .n) fun w0 M => ?_
 refine .seq (.region (.boxA r r r fun b26 => ?_))
 refine .allocA zeroValue32 r r fun b28 => ?_
 refine .nilS [2, 1] r r (.seq (.region ?_))
 have hw78 := W_dcsc_none (I := I) hd
 refine .callO call60 r hw78 r r fun v60 I57 l61 hl58 hv59 => ?_
 obtain ⟨r56, p62, c63, p65, c66, p68, c69, p71, c72, rfl, rfl, hd⟩ := hv59
 have le79 := IH.le.trans (.refl _) hl58
 replace R3 := R3.mono hl58
 replace R6 := R6.mono hl58
 replace R9 := R9.mono hl58
 refine .allocA zeroValue32 r r fun b80 => ?_
 refine .storeA sizeOf32 r r .z (.t (.t (.t (.t (.t (.t .nil)))))) r r (.nilS [3, 2, 1] r r (.seq (.seq (.region (.loadW isAgg35 sizeOf35 r (.s (.s (.s (.s (.s (.s .z)))))) r r r ?_)))))
 have hw88 := W_csr_Right (I := I57) R3 R6 R9 hd
 refine .callP call61 r hw88 r r fun v89 hv90 => ?_
 obtain ⟨r87, rfl, hd⟩ := hv90
 refine .not r r r (.nilS [10, 3, 2, 1] r r (.condP r hd (fun hb91 hd => ?_) fun hb91 hd => ?_))
 · refine .seq (.region (.loadW isAgg32 sizeOf32 r .z r r r (.storeA sizeOf32 r r (.s (.s (.s (.s (.s .z))))) (.t (.t (.t (.t (.t (.t .nil)))))) r r (.nilS [2] r r (.drop .z (.drop (.s (.s (.s (.s (.s .z))))) (.pub .z fun I92 hl93 R94 => ?_)))))))
   have le95 := IH.le.trans le79 hl93
   refine .pub .z fun I96 hl97 R98 => ?_
   have le99 := IH.le.trans le95 hl97
   replace R94 := R94.mono hl97
   refine .pub .z fun I100 hl101 R102 => ?_
   have le103 := IH.le.trans le99 hl101
   replace R94 := R94.mono hl101
   replace R98 := R98.mono hl101
   refine .pub .z fun I104 hl105 R106 => ?_
   have le107 := IH.le.trans le103 hl105
   replace R94 := R94.mono hl105
   replace R98 := R98.mono hl105
   replace R102 := R102.mono hl105
   exact .ret (pret results25 (.w isAgg32 sizeOf32 r .z r .n) le107 ⟨r56, _, _, _, _, _, _, _, _, r, R94, R98, R102, R106, hd⟩)
 refine .skipS [3, 2, 1] r r (.seq (.draw [some 0, some 1, some 2, some 3, some 4, some 5] 6 MX (by kernel_rfl) (by kernel_rfl) (by kernel_rfl) (by kernel_rfl) (by kernel_rfl) (by kernel_rfl) (by kernel_rfl) (fun ex => (pto b80 (.cells #[.int .i64 r56.Rows, .int .i64 r56.Cols, .slice p62 r56.At.length c63, .slice p65 r56.Start.length c66, .slice p68 r56.Row.length c69, .slice p71 r56.Val.length c72] 32 (0, 0))) :: (OwnSl eI64 3 p62 c63 r56.At) :: (OwnSl eI64 3 p65 c66 r56.Start) :: (OwnSl eI64 3 p68 c69 r56.Row) :: (OwnSl eI64 2 p71 c72 r56.Val) :: (pto b28 (.cells #[.int .i64 0, .int .i64 0, .slice none 0 0, .slice none 0 0, .slice none 0 0, .slice none 0 0] 32 (0, 0))) :: (pto b26 (.cells #[.int .i64 a0.Rows, .int .i64 a0.Cols, .slice p1 a0.Start.length c2, .slice p4 a0.Col.length c5, .slice p7 a0.Val.length c8] 35 (0, 0))) :: ex) (fun _ _ => (.s (.s (.s (.s (.s (.s (.s .z)))))))) r (.f [] r (by kernel_rfl) r r (fun ex => .fieldAddr underlying35 r sizeOf3 r (o := 0) r r r .mk) (.f [0] r (by kernel_rfl) r r (fun ex => .load1 isAgg3 r (.s (.s (.s (.s (.s (.s .z)))))) r r r .mk) (.f [] r (by kernel_rfl) r r (fun ex => .fieldAddr underlying35 r sizeOf3 r (o := 1) r r r .mk) (.f [2] r (by kernel_rfl) r r (fun ex => .load1 isAgg3 r (.s (.s (.s (.s (.s (.s .z)))))) r r r .mk) (.f [0, 1] r (by kernel_rfl) r r (fun ex => .fieldAddr underlying32 r sizeOf3 r (o := 0) r r r .mk) (.w [3, 2] [[], [], []] [4, 1, 0, 1] r (by kernel_rfl) (by kernel_rfl) (by kernel_rfl) ((dropE_none r)) (.inr (dropE_none r)) fun ex => ?_))))))))
 refine .store1 sizeOf3 r r .z (.t .nil) r (.none (fun ex => (pto b80 (.cells #[.int .i64 a0.Rows, .int .i64 r56.Cols, .slice p62 r56.At.length c63, .slice p65 r56.Start.length c66, .slice p68 r56.Row.length c69, .slice p71 r56.Val.length c72] 32 (0, 0))) :: (OwnSl eI64 3 p62 c63 r56.At) :: (OwnSl eI64 3 p65 c66 r56.Start) :: (OwnSl eI64 3 p68 c69 r56.Row) :: (OwnSl eI64 2 p71 c72 r56.Val) :: (pto b28 (.cells #[.int .i64 0, .int .i64 0, .slice none 0 0, .slice none 0 0, .slice none 0 0, .slice none 0 0] 32 (0, 0))) :: (pto b26 (.cells #[.int .i64 a0.Rows, .int .i64 a0.Cols, .slice p1 a0.Start.length c2, .slice p4 a0.Col.length c5, .slice p7 a0.Val.length c8] 35 (0, 0))) :: ex) r (fun _ _ => (.s (.s (.s (.s (.s (.s (.s .z)))))))) r (.cc [2] r (by kernel_rfl) r r r (fun ex => .load1 isAgg3 r (.s (.s (.s (.s (.s (.s .z)))))) r r r .mk) (.cc [] r (by kernel_rfl) r r r (fun ex => .fieldAddr underlying35 r sizeOf3 r (o := 1) r r r .mk) trivial)) (.e 6 (by kernel_rfl) (by kernel_rfl) (by kernel_rfl) (.fieldAddr underlying32 r sizeOf3 r (o := 1) r r r (.store1 sizeOf3 r r .z (.s (.t .nil)) r (.nilS [3, 2, 1] r r (.seq (.seq (.region (.loadW isAgg35 sizeOf35 r (.s (.s (.s (.s (.s (.s .z)))))) r r r ?_)))))))))
 have hw152 := W_csr_Turn (I := I57) R3 R6 R9 hd
 refine .call call63 r hw152 r r fun v141 I138 hl139 hv140 => ?_
 obtain ⟨r137, p143, c144, p146, c147, p149, c150, rfl, R145, R148, R151, hd⟩ := hv140
 have le153 := IH.le.trans le79 hl139
 replace R3 := R3.mono hl139
 replace R6 := R6.mono hl139
 replace R9 := R9.mono hl139
 have hw164 := W_csr_Triples (I := I138) R145 R148 R151 hd
 refine .callO call62 r hw164 r r fun v158 I155 l159 hl156 hv157 => ?_
 obtain ⟨r154, p160, c161, rfl, rfl, hd⟩ := hv157
 have le165 := IH.le.trans le153 hl156
 replace R3 := R3.mono hl156
 replace R6 := R6.mono hl156
 replace R9 := R9.mono hl156
 replace R145 := R145.mono hl156
 replace R148 := R148.mono hl156
 replace R151 := R151.mono hl156
 refine .len underlying24 r r r r (.skips 1 r (.nilS [22, 21, 20, 3, 2] r r (.drop (.s (.s (.s (.s (.s (.s (.s .z))))))) (.block (.loop hd (fun (s : (List Int) × (List Int) × (List Int) × (List Int) × Int) c w => match s with | (s615, s619, s623, s627, s631) => ∃ I_ p616 c617 p620 c621 p624 c625 p628 c629, IH.le I155 I_ ∧ Ok ⟨79, [], none⟩ [(2, .pointer (some ⟨b28, 0, none⟩)), (3, .pointer (some ⟨b80, 0, none⟩)), (20, .slice p160 r154.length c161), (21, .int .i64 (r154.length : Int)), (22, .int .i64 s631)] c ∧ Sym w0 M I I_ [pto b28 (.cells #[.int .i64 0, .int .i64 0, .slice none 0 0, .slice none 0 0, .slice none 0 0, .slice none 0 0] 32 (0, 0)), pto b80 (.cells #[.int .i64 a0.Rows, .int .i64 a0.Cols, .slice p616 s615.length c617, .slice p620 s619.length c621, .slice p624 s623.length c625, .slice p628 s627.length c629] 32 (0, 0)), OwnSl eI64 3 p616 c617 s615, OwnSl eI64 3 p620 c621 s619, OwnSl eI64 3 p624 c625 s623, OwnSl eI64 2 p628 c629 s627, OwnSl eTriple 84 p160 c161 r154] w) (fun c w ho hs => ⟨I155, _, _, _, _, _, _, _, _, (.refl _), ho.sub ⟨r, r, r, r, r, trivial⟩, hs.pick (.c (.s (.s (.s (.s (.s (.s .z)))))) (.c (.s .z) (.c (.s .z) (.c (.s .z) (.c (.s .z) (.c (.s .z) (.c .z .n)))))))⟩) ?_)))))
 rintro ⟨s615, s619, s623, s627, s631⟩ next632 hd c w hst
 obtain ⟨I633, p616, c617, p620, c621, p624, c625, p628, c629, hl634, hok, hsym⟩ := hst
 have le635 := IH.le.trans le165 hl634
 have le636 := IH.le.trans (.refl _) hl634
 refine Cod.at hok hsym (.seq (.region (.lt r r r r (.nilS [23, 22, 21, 20, 3, 2] r r (.seq (.condP r hd (fun hb638 hd => ?_) fun hb638 hd => ?_))))))
 · refine .skipS [22, 21, 20, 3, 2] r r (.seq (.block (.seq (.region ?_))))
   obtain ⟨h646, x647, hx648, hd⟩ := hd
   refine .ownNe (.s (.s (.s (.s (.s (.s .z)))))) (idx_ne hx648) fun b649 e650 => ?_
   cases e650
   refine .ixa0 underlying24 sizeOf84 r r h646 (idx_lt hx648 h646) r r (.loA (j := 0) isAgg84 sizeOf84 (.s (.s (.s (.s (.s (.s .z)))))) hx648 r r (.t (.t (.t .nil))) r r r (.allocA zeroValue84 r r fun b651 => ?_))
   refine .storeA sizeOf84 r r .z (.t (.t (.t .nil))) r r (.nilS [5, 22, 21, 20, 3, 2] r r (.seq ?_))
   refine Cod.joinQ (σ := (List Int) × (List Int)) hd (fun (s : (List Int) × (List Int)) c w => match s with | (s753, s757) => ∃ I_ p754 c755 p758 c759, IH.le I633 I_ ∧ Ok ⟨79, [], none⟩ [(2, .pointer (some ⟨b28, 0, none⟩)), (3, .pointer (some ⟨b80, 0, none⟩)), (5, .pointer (some ⟨b651, 0, none⟩)), (20, .slice (some ⟨b649, 0, none⟩) r154.length c161), (21, .int .i64 (r154.length : Int)), (22, .int .i64 s631)] c ∧ Sym w0 M I I_ [pto b28 (.cells #[.int .i64 0, .int .i64 0, .slice none 0 0, .slice none 0 0, .slice none 0 0, .slice none 0 0] 32 (0, 0)), pto b80 (.cells #[.int .i64 a0.Rows, .int .i64 a0.Cols, .slice p754 s753.length c755, .slice p758 s757.length c759, .slice p624 s623.length c625, .slice p628 s627.length c629] 32 (0, 0)), OwnSl eI64 3 p754 c755 s753, OwnSl eI64 3 p758 c759 s757, OwnSl eI64 3 p624 c625 s623, OwnSl eI64 2 p628 c629 s627, pto b651 (.cells #[.int .i64 x647.Row, .int .i64 x647.Col, .int .i64 x647.Val] 84 (0, 0)), OwnSl eTriple 84 (some ⟨b649, 0, none⟩) c161 r154] w) (fun k761 hd => ?_) ?_
   · skip
     refine .seq (.region (.fieldAddr underlying32 r sizeOf29 r (o := 2) r r r (.load1 isAgg29 r (.s (.s .z)) r r r (.len underlying29 r r r r (.skips 1 r (.nilS [6, 5, 22, 21, 20, 3, 2] r r (.seq ?_)))))))
     refine Cod.joinQ (σ := Bool) hd (fun (s782 : Bool) c w => ∃ I_, IH.le I633 I_ ∧ Ok ⟨79, [], none⟩ [(2, .pointer (some ⟨b28, 0, none⟩)), (3, .pointer (some ⟨b80, 0, none⟩)), (5, .pointer (some ⟨b651, 0, none⟩)), (20, .slice (some ⟨b649, 0, none⟩) r154.length c161), (21, .int .i64 (r154.length : Int)), (22, .int .i64 s631), (41, .bool s782)] c ∧ Sym w0 M I I_ [pto b28 (.cells #[.int .i64 0, .int .i64 0, .slice none 0 0, .slice none 0 0, .slice none 0 0, .slice none 0 0] 32 (0, 0)), pto b80 (.cells #[.int .i64 a0.Rows, .int .i64 a0.Cols, .slice p616 s615.length c617, .slice p620 s619.length c621, .slice p624 s623.length c625, .slice p628 s627.length c629] 32 (0, 0)), OwnSl eI64 3 p616 c617 s615, OwnSl eI64 3 p620 c621 s619, OwnSl eI64 3 p624 c625 s623, OwnSl eI64 2 p628 c629 s627, pto b651 (.cells #[.int .i64 x647.Row, .int .i64 x647.Col, .int .i64 x647.Val] 84 (0, 0)), OwnSl eTriple 84 (some ⟨b649, 0, none⟩) c161 r154] w) (fun k783 hd => ?_) ?_
     · skip
       refine .ownF (.s (.s (.s .z))) fun hne784 => ?_
       refine .ownF (.s (.s (.s (.s .z)))) fun hne785 => ?_
       refine .ownF (.s (.s (.s (.s (.s .z))))) fun hne786 => ?_
       refine .ownF (.s (.s (.s (.s (.s (.s .z)))))) fun hne787 => ?_
       refine .draw [some 0, some 1, some 2, some 3, some 4, some 5, some 6, some 7, some 8, some 9, some 10, some 11, some 12] 13 MX (by kernel_rfl) (by kernel_rfl) (by kernel_rfl) (by kernel_rfl) (by kernel_rfl) (by kernel_rfl) (by kernel_rfl) (fun ex => (pto b651 (.cells #[.int .i64 x647.Row, .int .i64 x647.Col, .int .i64 x647.Val] 84 (0, 0))) :: (pto b28 (.cells #[.int .i64 0, .int .i64 0, .slice none 0 0, .slice none 0 0, .slice none 0 0, .slice none 0 0] 32 (0, 0))) :: (pto b80 (.cells #[.int .i64 a0.Rows, .int .i64 a0.Cols, .slice p616 s615.length c617, .slice p620 s619.length c621, .slice p624 s623.length c625, .slice p628 s627.length c629] 32 (0, 0))) :: (OwnSl eI64 3 p616 c617 s615) :: (OwnSl eI64 3 p620 c621 s619) :: (OwnSl eI64 3 p624 c625 s623) :: (OwnSl eI64 2 p628 c629 s627) :: (OwnSl eTriple 84 (some ⟨b649, 0, none⟩) c161 r154) :: ex) (fun _ _ => (.s (.s (.s (.s (.s (.s (.s (.s .z))))))))) r (.fs [[]] r (by kernel_rfl) (.f [0] r (by kernel_rfl) r r (fun ex => .eq r r r r .mk) (.fs [[1]] r (by kernel_rfl) ?_)))
       refine splitP hd (fun hb788 hd => ?_) fun hb788 hd => ?_
       · rw [hb788]
         exact .fs [[2], [3, 2], [2], [5, 2], [4, 6, 2], [7, 2], [2], [9, 2], [8, 10, 2], [2, 11]] r (by kernel_rfl) (.e 13 (by kernel_rfl) (by kernel_rfl) (by kernel_rfl) (.nil' fun c w ho hs => ⟨true, hd, I633, (.refl _), ho.sub ⟨r, r, r, r, r, r, r, trivial⟩, hs.pick (.c (.s .z) (.c (.s .z) (.c (.s .z) (.c (.s .z) (.c (.s .z) (.c (.s .z) (.c .z (.c .z .n))))))))⟩))
       rw [hb788]
       refine .f [2] r (by kernel_rfl) r r (fun ex => .gyes r r r (.fieldAddr underlying32 r sizeOf29 r (o := 2) r r r .mk)) (.f [3, 2] r (by kernel_rfl) r r (fun ex => .gyes r r r (.load1 isAgg29 r (.s (.s .z)) r r r .mk)) (.fs [[2]] r (by kernel_rfl) (.f [5, 2] r (by kernel_rfl) r r (fun ex => .gyes r r r (.sub' r r r r .mk)) ?_)))
       obtain ⟨h789, x790, hx791, hd⟩ := hd
       obtain ⟨b792, e793⟩ := hne784 (idx_ne hx791)
       cases e793
       exact .f [4, 6, 2] r (by kernel_rfl) r r (fun ex => .gyes r r r (.ixa0 underlying29 sizeOf3 r r h789 (idx_lt hx791 h789) r r .mk)) (.f [7, 2] r (by kernel_rfl) r r (fun ex => .gyes r r r (.lo1 (j := 0) isAgg3 (.s (.s (.s .z))) hx791 r r r r r .mk)) (.f [2] r (by kernel_rfl) r r (fun ex => .gyes r r r (.fieldAddr underlying84 r sizeOf3 r (o := 0) r r r .mk)) (.f [9, 2] r (by kernel_rfl) r r (fun ex => .gyes r r r (.load1 isAgg3 r .z r r r .mk)) (.f [8, 10, 2] r (by kernel_rfl) r r (fun ex => .gyes r r r (.ne r r r r .mk)) (.fs [[2, 11]] r (by kernel_rfl) (.e 13 (by kernel_rfl) (by kernel_rfl) (by kernel_rfl) (.nil' fun c w ho hs => ⟨(x790 != x647.Row), hd, I633, (.refl _), ho.sub ⟨r, r, r, r, r, r, r, trivial⟩, hs.pick (.c (.s .z) (.c (.s .z) (.c (.s .z) (.c (.s .z) (.c (.s .z) (.c (.s .z) (.c .z (.c .z .n))))))))⟩)))))))
     rintro s782 hd c w hst
     obtain ⟨I794, hl795, hok, hsym⟩ := hst
     have le796 := IH.le.trans le635 hl795
     have le797 := IH.le.trans le636 hl795
     have le798 := IH.le.trans (.refl _) hl795
     refine Cod.at hok hsym (.condP r hd (fun hb799 hd => ?_) fun hb799 hd => ?_)
     · refine .seq (.region (.fieldAddr underlying32 r sizeOf29 r (o := 2) r r r (.load1 isAgg29 r (.s .z) r r r (.fieldAddr underlying84 r sizeOf3 r (o := 0) r r r (.load1 isAgg3 r (.s (.s (.s (.s (.s (.s .z)))))) r r r (.buildSlice 1 underlying29 sizeOf3 zeroValue3 r r (.c r r r .n) r r fun b800 => ?_))))))
       obtain ⟨hl802, hd⟩ := hd
       refine .append (ys := [x647.Row]) 8 (.s (.s (.s .z))) underlying29 underlying29 IN3 r r r r r r r r r (.box .z (.one r) r) hl802 r r fun p803 c804 => ?_
       refine .fieldAddr underlying32 r sizeOf29 r (o := 2) r r r (.store1 sizeOf29 r r (.s (.s (.s .z))) (.s (.s (.t .nil))) r (.nilS [22, 21, 20, 5, 3, 2] r r (.drop (.s .z) (.region (.fieldAddr underlying32 r sizeOf29 r (o := 3) r r r (.load1 isAgg29 r (.s (.s .z)) r r r (.buildSlice 1 underlying29 sizeOf3 zeroValue3 r r (.c r r r .n) r r fun b806 => ?_)))))))
       obtain ⟨hl808, hd⟩ := hd
       refine .append (ys := [0]) 8 (.s (.s (.s (.s .z)))) underlying29 underlying29 IN3 r r r r r r r r r (.box .z (.one r) r) hl808 r r fun p809 c810 => ?_
       exact .fieldAddr underlying32 r sizeOf29 r (o := 3) r r r (.store1 sizeOf29 r r (.s (.s (.s (.s .z)))) (.s (.s (.s (.t .nil)))) r (.nil' fun c w ho hs => ⟨((s615 ++ ([x647.Row])), (s619 ++ ([0]))), hd, I794, _, _, _, _, le798, ho.sub ⟨r, r, r, r, r, r, trivial⟩, hs.pick (.c (.s (.s (.s .z))) (.c (.s (.s (.s .z))) (.c (.s (.s .z)) (.c .z (.c (.s .z) (.c (.s .z) (.c (.s .z) (.c (.s .z) .n))))))))⟩))
     exact .skip' fun c w ho hs => ⟨(s615, s619), hd, I794, _, _, _, _, le798, ho.sub ⟨r, r, r, r, r, r, trivial⟩, hs.pick (.c .z (.c .z (.c .z (.c .z (.c .z (.c .z (.c .z (.c .z .n))))))))⟩
   rintro ⟨s753, s757⟩ hd c w hst
   obtain ⟨I812, p754, c755, p758, c759, hl813, hok, hsym⟩ := hst
   have le814 := IH.le.trans le635 hl813
   have le815 := IH.le.trans le636 hl813
   have le816 := IH.le.trans (.refl _) hl813
   refine Cod.at hok hsym (.seq (.region (.fieldAddr underlying32 r sizeOf29 r (o := 4) r r r (.load1 isAgg29 r (.s .z) r r r (.fieldAddr underlying84 r sizeOf3 r (o := 1) r r r (.load1 isAgg3 r (.s (.s (.s (.s (.s (.s .z)))))) r r r (.buildSlice 1 underlying29 sizeOf3 zeroValue3 r r (.c r r r .n) r r fun b823 => ?_)))))))
   obtain ⟨hl825, hd⟩ := hd
   refine .append (ys := [x647.Col]) 8 (.s (.s (.s (.s (.s .z))))) underlying29 underlying29 IN3 r r r r r r r r r (.box .z (.one r) r) hl825 r r fun p826 c827 => ?_
   refine .fieldAddr underlying32 r sizeOf29 r (o := 4) r r r (.store1 sizeOf29 r r (.s (.s (.s .z))) (.s (.s (.s (.s (.t .nil))))) r (.nilS [22, 21, 20, 5, 3, 2] r r (.drop (.s .z) (.seq (.region (.fieldAddr underlying32 r sizeOf30 r (o := 5) r r r (.load1 isAgg30 r (.s (.s .z)) r r r (.fieldAddr underlying84 r sizeOf2 r (o := 2) r r r (.load1 isAgg2 r (.s (.s (.s (.s (.s (.s .z)))))) r r r ?_)))))))))
   refine .buildSlice 1 underlying30 sizeOf2 zeroValue2 r r (.c r r r .n) r r fun b829 => ?_
   obtain ⟨hl831, hd⟩ := hd
   refine .append (ys := [x647.Val]) 8 (.s (.s (.s (.s (.s (.s .z)))))) underlying30 underlying30 IN2 r r r r r r r r r (.box .z (.one r) r) hl831 r r fun p832 c833 => ?_
   refine .fieldAddr underlying32 r sizeOf30 r (o := 5) r r r (.store1 sizeOf30 r r (.s (.s (.s (.s .z)))) (.s (.s (.s (.s (.s (.t .nil)))))) r (.nilS [22, 21, 20, 3, 2] r r (.drop (.s .z) (.drop (.s (.s (.s (.s (.s (.s .z)))))) (.region (.fieldAddr underlying32 r sizeOf29 r (o := 3) r r r (.load1 isAgg29 r (.s (.s (.s .z))) r r r (.fieldAddr underlying32 r sizeOf29 r (o := 2) r r r (.load1 isAgg29 r (.s (.s (.s .z))) r r r ?_)))))))))
   refine .len underlying29 r r r r (.fieldAddr underlying32 r sizeOf29 r (o := 4) r r r (.load1 isAgg29 r (.s (.s (.s .z))) r r r (.len underlying29 r r r r ?_)))
   obtain ⟨h835, x836, hx837, hd⟩ := hd
   refine .ownNe (.s (.s (.s (.s (.s .z))))) (idx_ne hx837) fun b838 e839 => ?_
   cases e839
   exact .ixa0 underlying29 sizeOf3 r r h835 (idx_lt hx837 h835) r r (.stO1 (j := 0) (v' := ((s623 ++ ([x647.Col])).length : Int)) sizeOf3 (.s (.s (.s (.s (.s .z))))) hx837 r r r (.t .nil) r (.sub (E' := [(2, _), (3, _), (20, _), (21, _), (22, _), (68, _), (69, .slice (some ⟨b838, 0, none⟩) (s757.set ((s753.length : Int).toNat) ((s623 ++ ([x647.Col])).length : Int)).length c759), (70, _), (71, _), (72, _), (73, _), (74, _), (75, _), (76, _)]) ⟨r, r, r, r, r, r, (by simp only [List.length_set]; rfl), r, r, r, r, r, r, r, trivial⟩ (.reat (.s (.s (.s .z))) (B := pto b80 (.cells #[.int .i64 a0.Rows, .int .i64 a0.Cols, .slice p754 s753.length c755, .slice (some ⟨b838, 0, none⟩) (s757.set ((s753.length : Int).toNat) ((s623 ++ ([x647.Col])).length : Int)).length c759, .slice p826 (s623 ++ ([x647.Col])).length c827, .slice p832 (s627 ++ ([x647.Val])).length c833] 32 (0, 0))) (by simp only [List.length_set]) (.nilS [22, 21, 20, 3, 2] r r (.region (.add r r r r (.sub (E' := [(2, _), (3, _), (20, _), (21, _), (77, _)]) ⟨r, r, r, r, r, trivial⟩ (.skips 1 r (.nil' fun c w ho hs => ⟨(s753, (s757.set ((s753.length : Int).toNat) ((s623 ++ ([x647.Col])).length : Int)), (s623 ++ ([x647.Col])), (s627 ++ ([x647.Val])), w64 (s631 + 1)), hd, I812, _, _, _, _, _, _, _, _, le815, ho.sub ⟨r, r, r, r, r, trivial⟩, hs.pick (.c (.s (.s .z)) (.c (.s (.s .z)) (.c (.s (.s .z)) (.c (.s (.s .z)) (.c (.s .z) (.c .z (.c .z .n)))))))⟩)))))))))
 refine .exitS [3, 2] r r (.drop (.s (.s (.s (.s (.s (.s .z)))))) (.seq (.region (.loadW isAgg32 sizeOf32 r (.s .z) r r r (.storeA sizeOf32 r r .z (.t (.t (.t (.t (.t (.t .nil)))))) r r (.nilS [2] r r (.drop (.s .z) (.pub (.s .z) fun I840 hl841 R842 => ?_))))))))
 have le843 := IH.le.trans le635 hl841
 have le844 := IH.le.trans le636 hl841
 refine .pub (.s .z) fun I845 hl846 R847 => ?_
 have le848 := IH.le.trans le843 hl846
 have le849 := IH.le.trans le844 hl846
 replace R842 := R842.mono hl846
 refine .pub (.s .z) fun I850 hl851 R852 => ?_
 have le853 := IH.le.trans le848 hl851
 have le854 := IH.le.trans le849 hl851
 replace R842 := R842.mono hl851
 replace R847 := R847.mono hl851
 refine .pub (.s .z) fun I855 hl856 R857 => ?_
 have le858 := IH.le.trans le853 hl856
 have le859 := IH.le.trans le854 hl856
 replace R842 := R842.mono hl856
 replace R847 := R847.mono hl856
 replace R852 := R852.mono hl856
 exact .ret (pret results25 (.w isAgg32 sizeOf32 r .z r .n) le858 ⟨({ Rows := a0.Rows, Cols := a0.Cols, At := s615, Start := s619, Row := s623, Val := s627 } : Columns), _, _, _, _, _, _, _, _, r, R842, R847, R852, R857, hd⟩)

theorem W_flags_words {I : IH} {a0 : Int}  {Q : Int → Prop}  (hd : flags_words a0 Q) :
    PFun Tryz.prog 159 [.int .i64 a0] I (fun I_ v => ∃ r, v = .int .i64 r ∧ Q r) := by
 refine Fun.enter func159 r ntmps159 r (.c .n) fun w0 M => ?_
 refine .seq (.region (.skips 1 r (.nilS [0] r r (.seq (.region (.skips 1 r (.maxI r r r r (.minI r r r r (.add r r r r ?_)))))))))
 exact .shr' r r (by decide) r r (.skips 1 r (.nilS [2] r r (.ret (pret results159 (.t r .n) (.refl _) ⟨(shr .i64 (w64 ((if 4096 < (if 0 > a0 then 0 else a0) then 4096 else (if 0 > a0 then 0 else a0)) + 63)) 6), r, hd⟩))))

theorem W_flags_New {I : IH} {a0 : Int}  {Q : (List Int) → Prop}  (hd : flags_New a0 Q) :
    OFun Tryz.prog 118 [.int .i64 a0] I (fun I_ v l => ∃ r p1 c2, v = .slice p1 r.length c2 ∧ l = [OwnSl eU64 85 p1 c2 r] ∧ Q r) := by
 refine Fun.enter func118 r ntmps118 r (.c .n) fun w0 M => ?_
 refine .seq (.region (.skips 1 r (.nilS [0] r r (.seq (.region (.skips 1 r ?_))))))
 have hw5 := W_flags_words (I := I) hd
 refine .callP call159 r hw5 r r fun v6 hv7 => ?_
 obtain ⟨r4, rfl, hd⟩ := hv7
 obtain ⟨h8, h9, hd⟩ := hd
 refine .make (El := eU64) (zv := 0) 8 underlying26 IN85 r r r r r r h8 h9 r r r fun b10 => ?_
 exact .skips 1 r (.nilS [2] r r (.ret (oret results118 (.t r .n) (.refl _) (.c .z .n) ⟨(List.replicate r4.toNat 0), _, _, r, r, hd⟩)))

theorem W_devec_New {I : IH} {a0 : Int}  {Q : Dense → Prop}  (hd : devec_New a0 Q) :
    OFun Tryz.prog 68 [.int .i64 a0] I (fun I_ v l => ∃ r p1 c2 p4 c5, v = .agg #[.int .i64 r.N, .slice p1 r.Has.length c2, .slice p4 r.Vals.length c5] ∧ RepSl eU64 I_ p1 c2 r.Has ∧ l = [OwnSl eI64 2 p4 c5 r.Vals] ∧ Q r) := by
 refine Fun.enter func68 r ntmps68 r (.c .n) fun w0 M => ?_
 refine .seq (.region (.allocA zeroValue62 r r fun b9 => ?_))
 refine .nilS [2, 0] r r (.seq (.seq (.region (.skips 1 r (.lt r r r r (.skips 1 r ?_))))))
 refine splitP hd (fun hb11 hd => ?_) fun hb11 hd => ?_
 · rw [hb11]
   refine .skips 3 r (.nilS [8, 2, 0] r r (.condKT r r (.region (.sub (E' := [(2, _), (8, _)]) ⟨r, r, trivial⟩ (.skips 1 r (.nilS [0, 2] r r (.seq (.draw [some 0, some 1, some 3, some 4, some 2, none, some 5] 6 MX (by kernel_rfl) (by kernel_rfl) (by kernel_rfl) (by kernel_rfl) (by kernel_rfl) (by kernel_rfl) (by kernel_rfl) (fun ex => (pto b9 (.cells #[.int .i64 0, .slice none 0 0, .slice none 0 0] 62 (0, 0))) :: ex) (fun _ _ => (.s .z)) r (.fs [[], [], []] r (by kernel_rfl) ?_)))))))))
   obtain ⟨h13, h14, hd⟩ := hd
   refine .a (fun b => .slice (some ⟨b, 0, none⟩) (List.replicate (Int.toNat 0) (0 : Int)).length (Int.toNat 0)) (fun b => OwnSl eI64 2 (some ⟨b, 0, none⟩) (Int.toNat 0) (List.replicate (Int.toNat 0) (0 : Int))) r r r r (fun _ L hL ex => .make (El := eI64) (zv := 0) 8 underlying30 IN2 r r r r r r h13 h14 r r r fun b => .mk (val := fun b => .slice (some ⟨b, 0, none⟩) (List.replicate (Int.toNat 0) (0 : Int)).length (Int.toNat 0)) (atom := fun b => OwnSl eI64 2 (some ⟨b, 0, none⟩) (Int.toNat 0) (List.replicate (Int.toNat 0) (0 : Int))) hL b) (.w [3, 0] [[]] [1] r (by kernel_rfl) (by kernel_rfl) (by kernel_rfl) ((dropE_kept r r)) (.inr (dropE_kept r r)) fun ex => ?_)
   have hw25 := W_flags_New (I := I) hd
   refine .callO call118 r hw25 r r fun v19 I16 l20 hl17 hv18 => ?_
   obtain ⟨r15, p21, c22, rfl, rfl, hd⟩ := hv18
   have le26 := IH.le.trans (.refl _) hl17
   refine .some (fun ex => (OwnSl eU64 85 p21 c22 r15) :: (pto b9 (.cells #[.int .i64 0, .slice none 0 0, .slice none 0 0] 62 (0, 0))) :: ex) r (fun _ _ => (.s (.s .z))) r (.ccs [[], []] r r (by kernel_rfl) trivial) (.b r fun b27 => DrawD.nop (.f [0, 2, 4] r (by kernel_rfl) r r (fun ex => .build zeroValue62 underlying62 BI62 (.c r r r (.t .nil) (.c r r r (.s (.t .nil)) (.c r r r (.s (.s (.t .nil))) .n))) (by exact ⟨⟨_, _, r, r, r⟩, ⟨⟨_, _, r, r, r⟩, ⟨⟨_, _, r, r, r⟩, trivial⟩⟩⟩) r r .mk) (.e 6 (by kernel_rfl) (by kernel_rfl) (by kernel_rfl) (.storeA sizeOf62 r r (.s .z) (.t (.t (.t .nil))) r r (.nilS [2] r r (.pub .z fun I28 hl29 R30 => ?_))))))
   have le31 := IH.le.trans le26 hl29
   exact .ret (oret results68 (.w isAgg62 sizeOf62 r .z r .n) le31 (.c (.s .z) .n) ⟨({ N := 0, Has := r15, Vals := (List.replicate (Int.toNat 0) (0 : Int)) } : Dense), _, _, _, _, r, R30, r, hd⟩)
 rw [hb11]
 refine .gyes r r r (.move r r r (.gyes r r r (.gt r r r r (.skips 1 r (.nilS [8, 2, 0] r r (.condP r hd (fun hb32 hd => ?_) fun hb32 hd => ?_))))))
 · refine .region (.sub (E' := [(2, _), (8, _)]) ⟨r, r, trivial⟩ (.skips 1 r (.nilS [0, 2] r r (.seq (.draw [some 0, some 1, some 3, some 4, some 2, none, some 5] 6 MX (by kernel_rfl) (by kernel_rfl) (by kernel_rfl) (by kernel_rfl) (by kernel_rfl) (by kernel_rfl) (by kernel_rfl) (fun ex => (pto b9 (.cells #[.int .i64 0, .slice none 0 0, .slice none 0 0] 62 (0, 0))) :: ex) (fun _ _ => (.s .z)) r (.fs [[], [], []] r (by kernel_rfl) ?_))))))
   obtain ⟨h34, h35, hd⟩ := hd
   refine .a (fun b => .slice (some ⟨b, 0, none⟩) (List.replicate (Int.toNat 0) (0 : Int)).length (Int.toNat 0)) (fun b => OwnSl eI64 2 (some ⟨b, 0, none⟩) (Int.toNat 0) (List.replicate (Int.toNat 0) (0 : Int))) r r r r (fun _ L hL ex => .make (El := eI64) (zv := 0) 8 underlying30 IN2 r r r r r r h34 h35 r r r fun b => .mk (val := fun b => .slice (some ⟨b, 0, none⟩) (List.replicate (Int.toNat 0) (0 : Int)).length (Int.toNat 0)) (atom := fun b => OwnSl eI64 2 (some ⟨b, 0, none⟩) (Int.toNat 0) (List.replicate (Int.toNat 0) (0 : Int))) hL b) (.w [3, 0] [[]] [1] r (by kernel_rfl) (by kernel_rfl) (by kernel_rfl) ((dropE_kept r r)) (.inr (dropE_kept r r)) fun ex => ?_)
   have hw46 := W_flags_New (I := I) hd
   refine .callO call118 r hw46 r r fun v40 I37 l41 hl38 hv39 => ?_
   obtain ⟨r36, p42, c43, rfl, rfl, hd⟩ := hv39
   have le47 := IH.le.trans (.refl _) hl38
   refine .some (fun ex => (OwnSl eU64 85 p42 c43 r36) :: (pto b9 (.cells #[.int .i64 0, .slice none 0 0, .slice none 0 0] 62 (0, 0))) :: ex) r (fun _ _ => (.s (.s .z))) r (.ccs [[], []] r r (by kernel_rfl) trivial) (.b r fun b48 => DrawD.nop (.f [0, 2, 4] r (by kernel_rfl) r r (fun ex => .build zeroValue62 underlying62 BI62 (.c r r r (.t .nil) (.c r r r (.s (.t .nil)) (.c r r r (.s (.s (.t .nil))) .n))) (by exact ⟨⟨_, _, r, r, r⟩, ⟨⟨_, _, r, r, r⟩, ⟨⟨_, _, r, r, r⟩, trivial⟩⟩⟩) r r .mk) (.e 6 (by kernel_rfl) (by kernel_rfl) (by kernel_rfl) (.storeA sizeOf62 r r (.s .z) (.t (.t (.t .nil))) r r (.nilS [2] r r (.pub .z fun I49 hl50 R51 => ?_))))))
   have le52 := IH.le.trans le47 hl50
   exact .ret (oret results68 (.w isAgg62 sizeOf62 r .z r .n) le52 (.c (.s .z) .n) ⟨({ N := 0, Has := r36, Vals := (List.replicate (Int.toNat 0) (0 : Int)) } : Dense), _, _, _, _, r, R51, r, hd⟩)
 refine .skipS [2, 0] r r (.seq (.draw [some 0, some 1, some 3, some 4, some 2, none, some 5] 6 MX (by kernel_rfl) (by kernel_rfl) (by kernel_rfl) (by kernel_rfl) (by kernel_rfl) (by kernel_rfl) (by kernel_rfl) (fun ex => (pto b9 (.cells #[.int .i64 0, .slice none 0 0, .slice none 0 0] 62 (0, 0))) :: ex) (fun _ _ => (.s .z)) r (.fs [[], [], []] r (by kernel_rfl) ?_)))
 obtain ⟨h54, h55, hd⟩ := hd
 refine .a (fun b => .slice (some ⟨b, 0, none⟩) (List.replicate a0.toNat (0 : Int)).length a0.toNat) (fun b => OwnSl eI64 2 (some ⟨b, 0, none⟩) a0.toNat (List.replicate a0.toNat (0 : Int))) r r r r (fun _ L hL ex => .make (El := eI64) (zv := 0) 8 underlying30 IN2 r r r r r r h54 h55 r r r fun b => .mk (val := fun b => .slice (some ⟨b, 0, none⟩) (List.replicate a0.toNat (0 : Int)).length a0.toNat) (atom := fun b => OwnSl eI64 2 (some ⟨b, 0, none⟩) a0.toNat (List.replicate a0.toNat (0 : Int))) hL b) (.w [3, 0] [[]] [1] r (by kernel_rfl) (by kernel_rfl) (by kernel_rfl) ((dropE_kept r r)) (.inr (dropE_kept r r)) fun ex => ?_)
 have hw66 := W_flags_New (I := I) hd
 refine .callO call118 r hw66 r r fun v60 I57 l61 hl58 hv59 => ?_
 obtain ⟨r56, p62, c63, rfl, rfl, hd⟩ := hv59
 have le67 := IH.le.trans (.refl _) hl58
 refine .some (fun ex => (OwnSl eU64 85 p62 c63 r56) :: (pto b9 (.cells #[.int .i64 0, .slice none 0 0, .slice none 0 0] 62 (0, 0))) :: ex) r (fun _ _ => (.s (.s .z))) r (.ccs [[], []] r r (by kernel_rfl) trivial) (.b r fun b68 => DrawD.nop (.f [0, 2, 4] r (by kernel_rfl) r r (fun ex => .build zeroValue62 underlying62 BI62 (.c r r r (.t .nil) (.c r r r (.s (.t .nil)) (.c r r r (.s (.s (.t .nil))) .n))) (by exact ⟨⟨_, _, r, r, r⟩, ⟨⟨_, _, r, r, r⟩, ⟨⟨_, _, r, r, r⟩, trivial⟩⟩⟩) r r .mk) (.e 6 (by kernel_rfl) (by kernel_rfl) (by kernel_rfl) (.storeA sizeOf62 r r (.s .z) (.t (.t (.t .nil))) r r (.nilS [2] r r (.pub .z fun I69 hl70 R71 => ?_))))))
 have le72 := IH.le.trans le67 hl70
 exact .ret (oret results68 (.w isAgg62 sizeOf62 r .z r .n) le72 (.c (.s .z) .n) ⟨({ N := a0, Has := r56, Vals := (List.replicate a0.toNat (0 : Int)) } : Dense), _, _, _, _, r, R71, r, hd⟩)

theorem W_csr_bounds {I : IH} {a0 : Int × Int} {a1 : Int}  {Q : (Int × Int) → Prop}  (hd : csr_bounds a0 a1 Q) :
    PFun Tryz.prog 153 [.agg #[.int .i64 a0.1, .int .i64 a0.2], .int .i64 a1] I (fun I_ v => ∃ r, v = .tuple #[.int .i64 r.1, .int .i64 r.2] ∧ Q r) := by
 refine Fun.enter func153 r ntmps153 r (.c (.c .n)) fun w0 M => ?_
 refine .seq (.region (.boxA r r r fun b3 => ?_))
 refine .skips 2 r (.nilS [2, 1] r r (.seq (.region (.ixArr (i := 0) underlying56 sizeOf3 r r (by decide) (o := 0) r r r (.load1 isAgg3 r .z r r r (.maxI r r r r (.skips 1 r (.nilS [6, 2, 1] r r (.seq ?_)))))))))
 refine .region (.ixArr (i := 1) underlying56 sizeOf3 r r (by decide) (o := 1) r r r (.load1 isAgg3 r .z r r r (.skips 1 r (.minI r r r r (.skips 1 r (.nilS [7, 6] r r (.drop .z (.seq (.seq ?_)))))))))
 refine .region (.skips 2 r (.le' r r r r (.nilS [17, 7, 6] r r (.condP r hd (fun hb5 hd => ?_) fun hb5 hd => ?_))))
 · exact .seq (.region (.skips 3 r (.nilS [5, 4] r r (.ret (pret results153 (.t r (.t r .n)) (.refl _) ⟨((if 0 > a0.1 then 0 else a0.1), 0), r, hd⟩)))))
 exact .skipS [7, 6] r r (.seq (.region (.skips 3 r (.sub' r r r r (.skips 2 r (.nilS [5, 4] r r (.ret (pret results153 (.t r (.t r .n)) (.refl _) ⟨((if 0 > a0.1 then 0 else a0.1), w64 ((if a1 < a0.2 then a1 else a0.2) - (if 0 > a0.1 then 0 else a0.1))), r, hd⟩))))))))

theorem W_csr_Row {I : IH} {a0 : Rows} {a1 : Int} {p1 : Option Addr} {c2 : Nat} {p4 : Option Addr} {c5 : Nat} {p7 : Option Addr} {c8 : Nat} {Q : (List Item) → Prop} (R3 : RepSl eI64 I p1 c2 a0.Start) (R6 : RepSl eI64 I p4 c5 a0.Col) (R9 : RepSl eI64 I p7 c8 a0.Val) (hd : csr_Row a0 a1 Q) :
    PFun Tryz.prog 154 [.agg #[.int .i64 a0.Rows, .int .i64 a0.Cols, .slice p1 a0.Start.length c2, .slice p4 a0.Col.length c5, .slice p7 a0.Val.length c8], .int .i64 a1] I (fun I_ v => ∃ r p10 c11, v = .slice p10 r.length c11 ∧ RepSl eItem I_ p10 c11 r ∧ Q r) := by
 refine Fun.enter func154 r ntmps154 r (.c (.c .n)) fun w0 M => ?_
 refine .seq (.region (.boxA r r r fun b15 => ?_))
 refine .skips 1 r (.nilS [2, 1] r r (.seq (.region (.loadW isAgg35 sizeOf35 r .z r r r ?_))))
 have hw49 := W_csr_sure (I := I) R3 R6 R9 hd
 refine .call call106 r hw49 r r fun v38 I35 hl36 hv37 => ?_
 obtain ⟨r34, p40, c41, p43, c44, p46, c47, rfl, R42, R45, R48, hd⟩ := hv37
 have le50 := IH.le.trans (.refl _) hl36
 replace R3 := R3.mono hl36
 replace R6 := R6.mono hl36
 replace R9 := R9.mono hl36
 refine .storeA sizeOf35 r r .z (.t (.t (.t (.t (.t .nil))))) r r (.nilS [2, 1] r r (.seq (.seq (.region (.skips 1 r (.fieldAddr underlying35 r sizeOf3 r (o := 0) r r r (.load1 isAgg3 r .z r r r (.sub' r r r r ?_))))))))
 have hw57 := W_csr_within (I := I35) hd
 refine .callP call103 r hw57 r r fun v58 hv59 => ?_
 obtain ⟨r56, rfl, hd⟩ := hv59
 refine .not r r r (.nilS [17, 2, 1] r r (.condP r hd (fun hb60 hd => ?_) fun hb60 hd => ?_))
 · exact .seq (.region (.skips 1 r (.nilS [4] r r (.drop .z (.ret (pret results154 (.t r .n) le50 ⟨([] : List Item), _, _, r, (.nil _ _ _), hd⟩))))))
 refine .skipS [2, 1] r r (.seq (.region (.skips 1 r (.nilS [5, 2, 1] r r (.seq (.region (.loadW isAgg35 sizeOf35 r .z r r r (.skips 1 r ?_))))))))
 have hw87 := W_csr_part (I := I35) R42 R45 R48 hd
 refine .call call107 r hw87 r r fun v79 I76 hl77 hv78 => ?_
 obtain ⟨r75, p81, c82, p84, c85, rfl, R83, R86, hd⟩ := hv78
 have le88 := IH.le.trans le50 hl77
 replace R42 := R42.mono hl77
 replace R45 := R45.mono hl77
 replace R48 := R48.mono hl77
 refine .skips 1 r (.extract r r r r (.extract r r r r (.skips 2 r (.nilS [7, 6, 5] r r (.drop .z (.seq (.seq (.region (.skips 1 r ?_)))))))))
 refine .len underlying29 r r r r (.skips 1 r (.nilS [26, 25, 24, 7, 5] r r (.block (.own0 eItem 67 (.loop hd (fun (s : (List Item) × Int) c w => match s with | (s157, s161) => ∃ I_ p158 c159, IH.le I76 I_ ∧ Ok ⟨42, [], none⟩ [(5, .slice p158 s157.length c159), (7, .slice p84 r75.2.length c85), (24, .slice p81 r75.1.length c82), (25, .int .i64 (r75.1.length : Int)), (26, .int .i64 s161)] c ∧ Sym w0 M I I_ [OwnSl eItem 67 p158 c159 s157] w) (fun c w ho hs => ⟨I76, _, _, (.refl _), ho.sub ⟨r, r, r, r, r, trivial⟩, hs.pick (.c .z .n)⟩) ?_)))))
 rintro ⟨s157, s161⟩ next163 hd c w hst
 obtain ⟨I164, p158, c159, hl165, hok, hsym⟩ := hst
 have le166 := IH.le.trans le88 hl165
 have le167 := IH.le.trans (.refl _) hl165
 replace R83 := R83.mono hl165
 replace R86 := R86.mono hl165
 refine Cod.at hok hsym (.seq (.region (.lt r r r r (.nilS [27, 26, 25, 24, 7, 5] r r (.seq (.condP r hd (fun hb169 hd => ?_) fun hb169 hd => ?_))))))
 · refine .skipS [26, 25, 24, 7, 5] r r (.seq (.block (.seq (.region (.skips 1 r ?_)))))
   obtain ⟨h170, x171, hx172, hd⟩ := hd
   obtain ⟨b173, o174, cs175, e176, hC177, hr178⟩ := R83.2 _ _ hx172
   cases hr178
   refine .ixa underlying29 sizeOf3 r e176 r h170 (idx_lt hx172 h170) r r (.ld1 (j := 0) isAgg3 hC177 r r r r r (.skips 2 r (.nilS [9, 8, 26, 25, 24, 7, 5] r r (.region (.skips 4 r ?_)))))
   obtain ⟨h179, x180, hx181, hd⟩ := hd
   obtain ⟨b182, o183, cs184, e185, hC186, hr187⟩ := R86.2 _ _ hx181
   cases hr187
   refine .ixa underlying30 sizeOf2 r e185 r h179 (idx_lt hx181 h179) r r (.ld1 (j := 0) isAgg2 hC186 r r r r r (.build zeroValue67 underlying67 BI67 (.c r r r (.t .nil) (.c r r r (.s (.t .nil)) .n)) (by exact ⟨⟨_, _, r, r, r⟩, ⟨⟨_, _, r, r, r⟩, trivial⟩⟩) r r (.buildSlice 1 underlying25 sizeOf67 zeroValue67 r r (.c r r r .n) r r fun b188 => ?_)))
   obtain ⟨hl190, hd⟩ := hd
   refine .append (ys := [({ At := x171, Val := x180 } : Item)]) 16 (.s .z) underlying25 underlying25 IN67 r r r r r r r r r (.box .z (.one r) r) hl190 r r fun p191 c192 => ?_
   exact .sub (E' := [(7, _), (24, _), (25, _), (26, _), (8, _), (9, _), (31, _), (32, _), (33, _), (34, _), (35, _), (36, _), (37, _), (38, _), (39, _)]) ⟨r, r, r, r, r, r, r, r, r, r, r, r, r, r, r, trivial⟩ (.skips 1 r (.nilS [5, 26, 25, 24, 7] r r (.drop (.s .z) (.region (.add r r r r (.sub (E' := [(7, _), (24, _), (25, _), (5, _), (40, _)]) ⟨r, r, r, r, r, trivial⟩ (.skips 1 r (.nil' fun c w ho hs => ⟨((s157 ++ ([({ At := x171, Val := x180 } : Item)])), w64 (s161 + 1)), hd, I164, _, _, le167, ho.sub ⟨r, r, r, r, r, trivial⟩, hs.pick (.c .z .n)⟩))))))))
 refine .exitS [5] r r (.seq (.region (.skips 2 r (.nilS [4] r r (.pub .z fun I194 hl195 R196 => ?_)))))
 have le197 := IH.le.trans le166 hl195
 have le198 := IH.le.trans le167 hl195
 exact .ret (pret results154 (.t r .n) le197 ⟨s157, _, _, r, R196, hd⟩)

theorem W_csr_Cut {I : IH} {a0 : Rows} {a1 : Int × Int} {a2 : Int × Int} {p1 : Option Addr} {c2 : Nat} {p4 : Option Addr} {c5 : Nat} {p7 : Option Addr} {c8 : Nat} {Q : Rows → Prop} (R3 : RepSl eI64 I p1 c2 a0.Start) (R6 : RepSl eI64 I p4 c5 a0.Col) (R9 : RepSl eI64 I p7 c8 a0.Val) (hd : csr_Cut a0 a1 a2 Q) :
    PFun Tryz.prog 111 [.agg #[.int .i64 a0.Rows, .int .i64 a0.Cols, .slice p1 a0.Start.length c2, .slice p4 a0.Col.length c5, .slice p7 a0.Val.length c8], .agg #[.int .i64 a1.1, .int .i64 a1.2], .agg #[.int .i64 a2.1, .int .i64 a2.2]] I (fun I_ v => ∃ r p10 c11 p13 c14 p16 c17, v = .agg #[.int .i64 r.Rows, .int .i64 r.Cols, .slice p10 r.Start.length c11, .slice p13 r.Col.length c14, .slice p16 r.Val.length c17] ∧ RepSl eI64 I_ p10 c11 r.Start ∧ RepSl eI64 I_ p13 c14 r.Col ∧ RepSl eI64 I_ p16 c17 r.Val ∧ Q r) := by
 refine Fun.enter func111 r ntmps111 r (.c (.c (.c .n))) fun w0 M => ?_
 refine .seq (.region (.boxA r r r fun b27 => ?_))
 refine .boxA r r r fun b29 => ?_
 refine .boxA r r r fun b31 => ?_
 refine .allocA zeroValue35 r r fun b33 => ?_
 refine .nilS [6, 5, 4, 3] r r (.seq (.region (.loadW isAgg35 sizeOf35 r (.s (.s (.s .z))) r r r ?_)))
 have hw67 := W_csr_sure (I := I) R3 R6 R9 hd
 refine .call call106 r hw67 r r fun v56 I53 hl54 hv55 => ?_
 obtain ⟨r52, p58, c59, p61, c62, p64, c65, rfl, R60, R63, R66, hd⟩ := hv55
 have le68 := IH.le.trans (.refl _) hl54
 replace R3 := R3.mono hl54
 replace R6 := R6.mono hl54
 replace R9 := R9.mono hl54
 refine .storeA sizeOf35 r r (.s (.s (.s .z))) (.t (.t (.t (.t (.t .nil))))) r r (.nilS [6, 5, 4, 3] r r (.seq (.region (.loadW isAgg56 sizeOf56 r (.s (.s .z)) r r r (.fieldAddr underlying35 r sizeOf3 r (o := 0) r r r (.load1 isAgg3 r (.s (.s (.s .z))) r r r ?_))))))
 have hw74 := W_csr_bounds (I := I53) hd
 refine .callP call153 r hw74 r r fun v75 hv76 => ?_
 obtain ⟨r73, rfl, hd⟩ := hv76
 refine .skips 1 r (.extract r r r r (.extract r r r r (.skips 2 r (.nilS [8, 7, 6, 5, 3] r r (.drop (.s (.s .z)) (.seq (.region (.loadW isAgg56 sizeOf56 r (.s .z) r r r (.fieldAddr underlying35 r sizeOf3 r (o := 1) r r r ?_)))))))))
 refine .load1 isAgg3 r (.s (.s .z)) r r r ?_
 have hw82 := W_csr_bounds (I := I53) hd
 refine .callP call153 r hw82 r r fun v83 hv84 => ?_
 obtain ⟨r81, rfl, hd⟩ := hv84
 refine .skips 1 r (.extract r r r r (.extract r r r r (.skips 2 r (.nilS [10, 9, 8, 7, 6, 3] r r (.drop (.s .z) (.seq (.region (.skips 1 r (.nilS [11, 10, 9, 8, 7, 6, 3] r r ?_)))))))))
 refine .seq (.seq (.region (.skips 2 r (.nilS [32, 31, 11, 10, 9, 8, 7, 6, 3] r r (.block (.own0 eTriple 84 (.loop hd (fun (s : (List Triple) × Int) c w => match s with | (s454, s458) => ∃ I_ p455 c456, IH.le I53 I_ ∧ Ok ⟨74, [], none⟩ [(3, .pointer (some ⟨b27, 0, none⟩)), (6, .pointer (some ⟨b33, 0, none⟩)), (7, .int .i64 r73.1), (8, .int .i64 r73.2), (9, .int .i64 r81.1), (10, .int .i64 r81.2), (11, .slice p455 s454.length c456), (31, .int .i64 r73.2), (32, .int .i64 s458)] c ∧ Sym w0 M I I_ [pto b27 (.cells #[.int .i64 r52.Rows, .int .i64 r52.Cols, .slice p58 r52.Start.length c59, .slice p61 r52.Col.length c62, .slice p64 r52.Val.length c65] 35 (0, 0)), pto b33 (.cells #[.int .i64 0, .int .i64 0, .slice none 0 0, .slice none 0 0, .slice none 0 0] 35 (0, 0)), OwnSl eTriple 84 p455 c456 s454] w) (fun c w ho hs => ⟨I53, _, _, (.refl _), ho.sub ⟨r, r, r, r, r, r, r, r, r, trivial⟩, hs.pick (.c (.s (.s .z)) (.c (.s .z) (.c .z .n)))⟩) ?_)))))))
 rintro ⟨s454, s458⟩ next460 hd c w hst
 obtain ⟨I461, p455, c456, hl462, hok, hsym⟩ := hst
 have le463 := IH.le.trans le68 hl462
 have le464 := IH.le.trans (.refl _) hl462
 replace R60 := R60.mono hl462
 replace R63 := R63.mono hl462
 replace R66 := R66.mono hl462
 refine Cod.at hok hsym (.seq (.region (.lt r r r r (.nilS [33, 32, 31, 11, 10, 9, 8, 7, 6, 3] r r (.seq (.condP r hd (fun hb466 hd => ?_) fun hb466 hd => ?_))))))
 · refine .skipS [32, 31, 11, 10, 9, 8, 7, 6, 3] r r (.seq (.block (.seq (.region (.skips 2 r (.nilS [12, 32, 31, 11, 10, 9, 8, 7, 6, 3] r r (.seq (.region (.loadW isAgg35 sizeOf35 r .z r r r ?_)))))))))
   refine .skips 2 r (.add r r r r ?_)
   have hw488 := W_csr_Row (I := I461) R60 R63 R66 hd
   refine .call call154 r hw488 r r fun v483 I480 hl481 hv482 => ?_
   obtain ⟨r479, p485, c486, rfl, R487, hd⟩ := hv482
   have le489 := IH.le.trans le463 hl481
   have le490 := IH.le.trans le464 hl481
   replace R60 := R60.mono hl481
   replace R63 := R63.mono hl481
   replace R66 := R66.mono hl481
   refine .len underlying25 r r r r (.skips 1 r (.nilS [41, 40, 39, 12, 32, 31, 11, 10, 9, 8, 7, 6, 3] r r (.block (.loop hd (fun (s : (List Triple) × Int) c w => match s with | (s588, s592) => ∃ I_ p589 c590, IH.le I480 I_ ∧ Ok ⟨74, [], none⟩ [(3, .pointer (some ⟨b27, 0, none⟩)), (6, .pointer (some ⟨b33, 0, none⟩)), (7, .int .i64 r73.1), (8, .int .i64 r73.2), (9, .int .i64 r81.1), (10, .int .i64 r81.2), (11, .slice p589 s588.length c590), (12, .int .i64 s458), (31, .int .i64 r73.2), (32, .int .i64 s458), (39, .slice p485 r479.length c486), (40, .int .i64 (r479.length : Int)), (41, .int .i64 s592)] c ∧ Sym w0 M I I_ [pto b27 (.cells #[.int .i64 r52.Rows, .int .i64 r52.Cols, .slice p58 r52.Start.length c59, .slice p61 r52.Col.length c62, .slice p64 r52.Val.length c65] 35 (0, 0)), pto b33 (.cells #[.int .i64 0, .int .i64 0, .slice none 0 0, .slice none 0 0, .slice none 0 0] 35 (0, 0)), OwnSl eTriple 84 p589 c590 s588] w) (fun c w ho hs => ⟨I480, _, _, (.refl _), ho.sub ⟨r, r, r, r, r, r, r, r, r, r, r, r, r, trivial⟩, hs.pick (.c .z (.c .z (.c .z .n)))⟩) ?_))))
   rintro ⟨s588, s592⟩ next593 hd c w hst
   obtain ⟨I594, p589, c590, hl595, hok, hsym⟩ := hst
   have le596 := IH.le.trans le489 hl595
   have le597 := IH.le.trans le490 hl595
   have le598 := IH.le.trans (.refl _) hl595
   replace R60 := R60.mono hl595
   replace R63 := R63.mono hl595
   replace R66 := R66.mono hl595
   replace R487 := R487.mono hl595
   refine Cod.at hok hsym (.seq (.region (.lt r r r r (.nilS [42, 41, 40, 39, 32, 31, 12, 11, 10, 9, 8, 7, 6, 3] r r (.seq (.condP r hd (fun hb600 hd => ?_) fun hb600 hd => ?_))))))
   · refine .skipS [41, 40, 39, 32, 31, 12, 11, 10, 9, 8, 7, 6, 3] r r (.seq (.block (.seq (.region ?_))))
     obtain ⟨h612, x613, hx614, hd⟩ := hd
     obtain ⟨b615, o616, cs617, e618, hC619, hr620⟩ := R487.2 _ _ hx614
     cases hr620
     refine .ixa underlying25 sizeOf67 r e618 r h612 (idx_lt hx614 h612) r r (.ldW isAgg67 sizeOf67 hC619 r r r r (.allocA zeroValue67 r r fun b621 => ?_))
     refine .storeA sizeOf67 r r .z (.t (.t .nil)) r r (.nilS [14, 41, 40, 39, 32, 31, 12, 11, 10, 9, 8, 7, 6, 3] r r (.seq ?_))
     refine Cod.joinQ (σ := Bool) hd (fun (s625 : Bool) c w => ∃ I_, IH.le I594 I_ ∧ Ok ⟨74, [], none⟩ [(3, .pointer (some ⟨b27, 0, none⟩)), (6, .pointer (some ⟨b33, 0, none⟩)), (7, .int .i64 r73.1), (8, .int .i64 r73.2), (9, .int .i64 r81.1), (10, .int .i64 r81.2), (11, .slice p589 s588.length c590), (12, .int .i64 s458), (14, .pointer (some ⟨b621, 0, none⟩)), (31, .int .i64 r73.2), (32, .int .i64 s458), (39, .slice p485 r479.length c486), (40, .int .i64 (r479.length : Int)), (41, .int .i64 s592), (56, .bool s625)] c ∧ Sym w0 M I I_ [pto b27 (.cells #[.int .i64 r52.Rows, .int .i64 r52.Cols, .slice p58 r52.Start.length c59, .slice p61 r52.Col.length c62, .slice p64 r52.Val.length c65] 35 (0, 0)), pto b33 (.cells #[.int .i64 0, .int .i64 0, .slice none 0 0, .slice none 0 0, .slice none 0 0] 35 (0, 0)), OwnSl eTriple 84 p589 c590 s588, pto b621 (.cells #[.int .i64 x613.At, .int .i64 x613.Val] 67 (0, 0))] w) (fun k626 hd => ?_) ?_
     · skip
       refine .region (.fieldAddr underlying67 r sizeOf3 r (o := 0) r r r (.load1 isAgg3 r .z r r r (.skips 1 r (.ge r r r r (.skips 1 r ?_)))))
       refine splitP hd (fun hb627 hd => ?_) fun hb627 hd => ?_
       · rw [hb627]
         exact .gyes r r r (.fieldAddr underlying67 r sizeOf3 r (o := 0) r r r (.gyes r r r (.load1 isAgg3 r .z r r r (.gyes r r r (.move r r r (.gyes r r r (.sub' r r r r (.gyes r r r (.move r r r (.gyes r r r (.lt r r r r (.skips 1 r (.nil' fun c w ho hs => ⟨(decide ((w64 (x613.At - r81.1)) < r81.2)), hd, I594, (.refl _), ho.sub ⟨r, r, r, r, r, r, r, r, r, r, r, r, r, r, r, trivial⟩, hs.pick (.c (.s .z) (.c (.s .z) (.c (.s .z) (.c .z .n))))⟩)))))))))))))
       rw [hb627]
       exact .skips 7 r (.nil' fun c w ho hs => ⟨false, hd, I594, (.refl _), ho.sub ⟨r, r, r, r, r, r, r, r, r, r, r, r, r, r, r, trivial⟩, hs.pick (.c (.s .z) (.c (.s .z) (.c (.s .z) (.c .z .n))))⟩)
     rintro s625 hd c w hst
     obtain ⟨I628, hl629, hok, hsym⟩ := hst
     have le630 := IH.le.trans le596 hl629
     have le631 := IH.le.trans le597 hl629
     have le632 := IH.le.trans le598 hl629
     have le633 := IH.le.trans (.refl _) hl629
     replace R60 := R60.mono hl629
     replace R63 := R63.mono hl629
     replace R66 := R66.mono hl629
     replace R487 := R487.mono hl629
     refine Cod.at hok hsym (.condP r hd (fun hb634 hd => ?_) fun hb634 hd => ?_)
     · refine .region (.skips 2 r (.fieldAddr underlying67 r sizeOf3 r (o := 0) r r r (.load1 isAgg3 r (.s (.s (.s .z))) r r r (.skips 1 r (.sub' r r r r (.fieldAddr underlying67 r sizeOf2 r (o := 1) r r r (.load1 isAgg2 r (.s (.s (.s .z))) r r r (.build zeroValue84 underlying84 BI84 (.c r r r (.t .nil) (.c r r r (.s (.t .nil)) (.c r r r (.s (.s (.t .nil))) .n))) (by exact ⟨⟨_, _, r, r, r⟩, ⟨⟨_, _, r, r, r⟩, ⟨⟨_, _, r, r, r⟩, trivial⟩⟩⟩) r r (.buildSlice 1 underlying24 sizeOf84 zeroValue84 r r (.c r r r .n) r r fun b635 => ?_)))))))))
       obtain ⟨hl637, hd⟩ := hd
       refine .append (ys := [({ Row := s458, Col := w64 (x613.At - r81.1), Val := x613.Val } : Triple)]) 24 (.s (.s (.s .z))) underlying24 underlying24 IN84 r r r r r r r r r (.box .z (.one r) r) hl637 r r fun p638 c639 => ?_
       exact .sub (E' := [(3, _), (6, _), (7, _), (8, _), (9, _), (10, _), (12, _), (14, _), (31, _), (32, _), (39, _), (40, _), (41, _), (56, _), (57, _), (58, _), (59, _), (60, _), (61, _), (62, _), (63, _), (64, _), (65, _), (66, _), (67, _)]) ⟨r, r, r, r, r, r, r, r, r, r, r, r, r, r, r, r, r, r, r, r, r, r, r, r, r, trivial⟩ (.skips 1 r (.nilS [11, 41, 40, 39, 32, 31, 12, 10, 9, 8, 7, 6, 3] r r (.drop (.s .z) (.drop (.s (.s (.s .z))) (.region (.add r r r r (.sub (E' := [(3, _), (6, _), (7, _), (8, _), (9, _), (10, _), (12, _), (31, _), (32, _), (39, _), (40, _), (11, _), (68, _)]) ⟨r, r, r, r, r, r, r, r, r, r, r, r, r, trivial⟩ (.skips 1 r (.nil' fun c w ho hs => ⟨((s588 ++ ([({ Row := s458, Col := w64 (x613.At - r81.1), Val := x613.Val } : Triple)])), w64 (s592 + 1)), hd, I628, _, _, le632, ho.sub ⟨r, r, r, r, r, r, r, r, r, r, r, r, r, trivial⟩, hs.pick (.c (.s .z) (.c (.s .z) (.c .z .n)))⟩)))))))))
     exact .skipS [41, 40, 39, 32, 31, 12, 11, 10, 9, 8, 7, 6, 3] r r (.drop (.s (.s (.s .z))) (.region (.add r r r r (.sub (E' := [(3, _), (6, _), (7, _), (8, _), (9, _), (10, _), (11, _), (12, _), (31, _), (32, _), (39, _), (40, _), (68, _)]) ⟨r, r, r, r, r, r, r, r, r, r, r, r, r, trivial⟩ (.skips 1 r (.nil' fun c w ho hs => ⟨(s588, w64 (s592 + 1)), hd, I628, _, _, le632, ho.sub ⟨r, r, r, r, r, r, r, r, r, r, r, r, r, trivial⟩, hs.pick (.c .z (.c .z (.c .z .n)))⟩))))))
   exact .exitS [32, 31, 11, 10, 9, 8, 7, 6, 3] r r (.region (.add r r r r (.sub (E' := [(3, _), (6, _), (7, _), (8, _), (9, _), (10, _), (11, _), (31, _), (69, _)]) ⟨r, r, r, r, r, r, r, r, r, trivial⟩ (.skips 1 r (.nil' fun c w ho hs => ⟨(s588, w64 (s458 + 1)), hd, I594, _, _, le597, ho.sub ⟨r, r, r, r, r, r, r, r, r, trivial⟩, hs.pick (.c .z (.c .z (.c .z .n)))⟩)))))
 refine .exitS [11, 10, 8, 6] r r (.drop .z (.seq (.region (.skips 3 r (.pub (.s .z) fun I641 hl642 R643 => ?_)))))
 have le644 := IH.le.trans le463 hl642
 have le645 := IH.le.trans le464 hl642
 have hw661 := W_csr_built (I := I641) R643 hd
 refine .call call110 r hw661 r r fun v650 I647 hl648 hv649 => ?_
 obtain ⟨r646, p652, c653, p655, c656, p658, c659, rfl, R654, R657, R660, hd⟩ := hv649
 have le662 := IH.le.trans le644 hl648
 have le663 := IH.le.trans le645 hl648
 replace R643 := R643.mono hl648
 exact .storeA sizeOf35 r r .z (.t (.t (.t (.t (.t .nil))))) r r (.nilS [6] r r (.ret (pret results111 (.w isAgg35 sizeOf35 r .z r .n) le662 ⟨r646, _, _, _, _, _, _, r, R654, R657, R660, hd⟩)))

theorem W_flags_each_555 {I : IH} {a0 : List Int} {p1 : Option Addr} {c2 : Nat} {Q : (List Int) → Prop} (R3 : RepSl eU64 I p1 c2 a0) (hd : flags_each_555 a0 Q) :
    Fun Tryz.prog 190 #[.slice p1 a0.length c2] I [] (fun I_ v l => ∃ r b4 p5 c6, v = .func (.func 194) #[] #[.pointer (some ⟨b4, 0, none⟩)] ∧ RepSl eU64 I_ p5 c6 r ∧ l = [pto b4 (.cells #[.slice p5 r.length c6] 26 (0, 0))] ∧ Q r) := by
 refine Fun.enter (vs := [.slice p1 a0.length c2]) func190 r ntmps190 r (.c .n) fun w0 M => ?_
 refine .seq (.region (.box1 r r r r fun b4 => ?_))
 exact .skips 1 r (.nilS [1] r r (.seq (.region (.mkFn r r r r (.skips 1 r (.nilS [2] r r (.ret (oret results190 (.t r .n) (.refl _) (.c .z .n) ⟨a0, _, _, _, r, R3, r, hd⟩))))))))

theorem W_flags_each_1_6c7 {I : IH} {o0 : Nat} {o1 : Int} {o2 : Int} {o3 : List Int} {Y : Nat → Int → Int → Int → ((Bool × Nat × Int) → Prop) → Prop} {b5 : Nat} {b6 : Nat} {b7 : Nat} {p8 : Option Addr} {c9 : Nat} {lr : Nat} {Rr : Nat → HA} {Q : (Nat × Int) → Prop} (hY : ∀ {J_ : IH}, I.le J_ → ∀ {y11 : Nat} {y12 : Int} {y14 : Int} {x16 : Int}  {Qy : (Bool × Nat × Int) → Prop}, Y y11 y12 y14 x16 Qy → RFun Tryz.prog lr [.int .i64 x16] J_ [Rr y11, pto b5 (.cells #[.int .i64 y12] 3 (0, 0)), pto b6 (.cells #[.int .i64 y14] 3 (0, 0))] (fun I_ v l => ∃ r, v = .bool r.1 ∧ l = [Rr r.2.1, pto b5 (.cells #[.int .i64 y12] 3 (0, 0)), pto b6 (.cells #[.int .i64 r.2.2] 3 (0, 0))] ∧ Qy r)) (R10 : RepSl eU64 I p8 c9 o3) (hd : flags_each_1_6c7 o0 o1 o2 o3 Y Q) :
    Fun Tryz.prog 194 #[.func (.yield lr) #[] #[], .pointer (some ⟨b7, 0, none⟩)] I [Rr o0, pto b5 (.cells #[.int .i64 o1] 3 (0, 0)), pto b6 (.cells #[.int .i64 o2] 3 (0, 0)), pto b7 (.cells #[.slice p8 o3.length c9] 26 (0, 0))] (fun I_ v l => ∃ r, v = .tuple #[] ∧ l = [Rr r.1, pto b5 (.cells #[.int .i64 o1] 3 (0, 0)), pto b6 (.cells #[.int .i64 r.2] 3 (0, 0)), pto b7 (.cells #[.slice p8 o3.length c9] 26 (0, 0))] ∧ Q r) := by
 refine Fun.enter (vs := [.func (.yield lr) #[] #[], .pointer (some ⟨b7, 0, none⟩)]) func194 r ntmps194 r (.c (.c .n)) fun w0 M => ?_
 refine .seq (.region (.load1 isAgg26 r (.s (.s (.s .z))) r r r (.len underlying26 r r r r (.skips 1 r (.nilS [8, 7, 6, 1, 0] r r (.block (.loop hd (fun (s : Int × Int × Nat) c w => match s with | (s196, s197, s198) => ∃ I_, IH.le I I_ ∧ Ok ⟨31, [], none⟩ [(0, .func (.yield lr) #[] #[]), (1, .pointer (some ⟨b7, 0, none⟩)), (6, .slice p8 o3.length c9), (7, .int .i64 (o3.length : Int)), (8, .int .i64 s197)] c ∧ Sym w0 M I I_ [pto b5 (.cells #[.int .i64 o1] 3 (0, 0)), pto b6 (.cells #[.int .i64 s196] 3 (0, 0)), pto b7 (.cells #[.slice p8 o3.length c9] 26 (0, 0)), Rr s198] w) (fun c w ho hs => ⟨I, (.refl _), ho.sub ⟨r, r, r, r, r, trivial⟩, hs.pick (.c (.s .z) (.c (.s .z) (.c (.s .z) (.c .z .n))))⟩) ?_)))))))
 rintro ⟨s196, s197, s198⟩ next199 hd c w hst
 obtain ⟨I200, hl201, hok, hsym⟩ := hst
 have le202 := IH.le.trans (.refl _) hl201
 replace R10 := R10.mono hl201
 refine Cod.at hok hsym (.seq (.region (.lt r r r r (.nilS [9, 8, 7, 6, 1, 0] r r (.seq (.condP r hd (fun hb204 hd => ?_) fun hb204 hd => ?_))))))
 · refine .skipS [8, 7, 6, 1, 0] r r (.seq (.block (.seq (.region (.skips 1 r ?_)))))
   obtain ⟨h214, x215, hx216, hd⟩ := hd
   obtain ⟨b217, o218, cs219, e220, hC221, hr222⟩ := R10.2 _ _ hx216
   cases hr222
   refine .ixa underlying26 sizeOf85 r e220 r h214 (idx_lt hx216 h214) r r (.ld1 (j := 0) isAgg85 hC221 r r r r r (.skips 2 r (.nilS [4, 3, 8, 7, 6, 1, 0] r r (.seq (.region (.skips 1 r (.shl' r r (by decide) r r (.skips 1 r (.nilS [5, 4, 8, 7, 6, 1, 0] r r ?_)))))))))
   refine .block (.loop hd (fun (s : Int × Int × Int × Nat) c w => match s with | (s267, s268, s269, s270) => ∃ I_, IH.le I200 I_ ∧ Ok ⟨31, [], none⟩ [(0, .func (.yield lr) #[] #[]), (1, .pointer (some ⟨b7, 0, none⟩)), (4, .int .u64 s268), (5, .int .i64 s269), (6, .slice p8 o3.length c9), (7, .int .i64 (o3.length : Int)), (8, .int .i64 s197)] c ∧ Sym w0 M I I_ [pto b5 (.cells #[.int .i64 o1] 3 (0, 0)), pto b6 (.cells #[.int .i64 s267] 3 (0, 0)), pto b7 (.cells #[.slice p8 o3.length c9] 26 (0, 0)), Rr s270] w) (fun c w ho hs => ⟨I200, (.refl _), ho.sub ⟨r, r, r, r, r, r, r, trivial⟩, hs.pick (.c .z (.c .z (.c .z (.c .z .n))))⟩) ?_)
   rintro ⟨s267, s268, s269, s270⟩ next271 hd c w hst
   obtain ⟨I272, hl273, hok, hsym⟩ := hst
   have le274 := IH.le.trans le202 hl273
   have le275 := IH.le.trans (.refl _) hl273
   replace R10 := R10.mono hl273
   refine Cod.at hok hsym (.seq (.seq (.region (.skips 1 r (.ne r r r r (.nilS [16, 8, 7, 6, 5, 4, 1, 0] r r (.condP r hd (fun hb277 hd => ?_) fun hb277 hd => ?_)))))))
   · refine .skipS [8, 7, 6, 5, 4, 1, 0] r r (.seq (.block (.seq (.region (.skips 1 r (.and r r r r (.eq r r r r (.skips 1 r ?_))))))))
     refine splitP hd (fun hb278 hd => ?_) fun hb278 hd => ?_
     · rw [hb278]
       refine .gyes r r r (.move r r r (.gyes r r r (.move r r r ?_)))
       have hw279 := hY (J_ := I272) le274 (y11 := s270) (y12 := o1) (y14 := s267) (x16 := s269) hd
       refine .gyes r r r (.callY r r (.c (.s (.s (.s .z))) (.c .z (.c .z .n))) hw279 r r fun v283 I280 l284 hl281 hv282 => ?_)
       obtain ⟨r285, rfl, rfl, hd⟩ := hv282
       have le289 := IH.le.trans le274 hl281
       have le290 := IH.le.trans le275 hl281
       replace R10 := R10.mono hl281
       refine .re (m' := [Rr r285.2.1, pto b5 (.cells #[.int .i64 o1] 3 (0, 0)), pto b6 (.cells #[.int .i64 r285.2.2] 3 (0, 0)), pto b7 (.cells #[.slice p8 o3.length c9] 26 (0, 0))]) r (.gyes r r r (.not r r r (.skips 1 r (.nilS [29, 8, 7, 6, 5, 4, 1, 0] r r (.condP r hd (fun hb291 hd => ?_) fun hb291 hd => ?_)))))
       · exact .ret (oret results194 .n le289 (.c .z (.c .z (.c .z (.c .z .n)))) ⟨(r285.2.1, r285.2.2), r, r, hd⟩)
       refine .skipS [8, 7, 6, 5, 4, 1, 0] r r (.region (.skips 1 r (.shr' r r (by decide) r r (.skips 1 r (.add r r r r (.sub (E' := [(0, _), (1, _), (5, _), (6, _), (7, _), (8, _), (17, _), (18, _), (19, _), (20, _)]) ⟨r, r, r, r, r, r, r, r, r, r, trivial⟩ (.skips 1 r (.sub (E' := [(0, _), (1, _), (6, _), (7, _), (8, _), (17, _), (18, _), (19, _), (20, _), (4, _)]) ⟨r, r, r, r, r, r, r, r, r, r, trivial⟩ (.skips 1 r ?_)))))))))
       exact .nil' fun c w ho hs => ⟨(r285.2.2, shr .u64 s268 1, w64 (s269 + 1), r285.2.1), hd, I280, le290, ho.sub ⟨r, r, r, r, r, r, r, trivial⟩, hs.pick (.c (.s .z) (.c (.s .z) (.c (.s .z) (.c .z .n))))⟩
     rw [hb278]
     refine .skips 5 r (.nilS [29, 8, 7, 6, 5, 4, 1, 0] r r (.condKF r r (.skipS [8, 7, 6, 5, 4, 1, 0] r r (.region (.skips 1 r (.shr' r r (by decide) r r (.skips 1 r (.add r r r r (.sub (E' := [(0, _), (1, _), (5, _), (6, _), (7, _), (8, _), (17, _), (18, _), (19, _), (20, _)]) ⟨r, r, r, r, r, r, r, r, r, r, trivial⟩ ?_)))))))))
     exact .skips 1 r (.sub (E' := [(0, _), (1, _), (6, _), (7, _), (8, _), (17, _), (18, _), (19, _), (20, _), (4, _)]) ⟨r, r, r, r, r, r, r, r, r, r, trivial⟩ (.skips 1 r (.nil' fun c w ho hs => ⟨(s267, shr .u64 s268 1, w64 (s269 + 1), s270), hd, I272, le275, ho.sub ⟨r, r, r, r, r, r, r, trivial⟩, hs.pick (.c .z (.c .z (.c .z (.c .z .n))))⟩)))
   exact .exitS [8, 7, 6, 1, 0] r r (.region (.add r r r r (.sub (E' := [(0, _), (1, _), (6, _), (7, _), (30, _)]) ⟨r, r, r, r, r, trivial⟩ (.skips 1 r (.nil' fun c w ho hs => ⟨(s267, w64 (s197 + 1), s270), hd, I272, le274, ho.sub ⟨r, r, r, r, r, trivial⟩, hs.pick (.c .z (.c .z (.c .z (.c .z .n))))⟩)))))
 exact .exit (oretN results194 .n le202 (.c (.s (.s (.s .z))) (.c .z (.c .z (.c .z .n)))) ⟨(s198, s196), r, r, hd⟩)

theorem W_flags_Next {I : IH} {a0 : List Int} {a1 : Int} {p1 : Option Addr} {c2 : Nat} {Q : Int → Prop} (R3 : RepSl eU64 I p1 c2 a0) (hd : flags_Next a0 a1 Q) :
    PFun Tryz.prog 181 [.slice p1 a0.length c2, .int .i64 a1] I (fun I_ v => ∃ r, v = .int .i64 r ∧ Q r) := by
 refine Fun.enter func181 r ntmps181 r (.c (.c .n)) fun w0 M => ?_
 refine .marks0 (.seq (.region (.box1 r r r r fun b8 => ?_)))
 refine .alloc1 zeroValue3 r r r fun b10 => ?_
 refine .nilS [4, 3, 0] r r (.seq (.seq (.region (.skips 1 r ?_))))
 have hw25 := W_flags_each_555 (I := I) (a0 := a0) R3 hd
 refine .callS (.f call190 r) .n hw25 r r fun v29 I26 l30 hl27 hv28 => ?_
 obtain ⟨r31, b33, p34, c35, rfl, R36, rfl, hd⟩ := hv28
 have le37 := IH.le.trans (.refl _) hl27
 replace R3 := R3.mono hl27
 refine .re (m' := [pto b33 (.cells #[.slice p34 r31.length c35] 26 (0, 0)), pto b10 (.cells #[.int .i64 0] 3 (0, 0)), pto b8 (.cells #[.int .i64 a1] 3 (0, 0)), Marks ([])]) r (.nilS [7, 4, 3] r r (.block (.rangeF [.ret] r call194 (.c (.s (.s (.s .z))) (.c (.s (.s .z)) (.c (.s .z) (.c .z .n)))) fun lr D rc hrc => ?_)))
 refine ⟨_, W_flags_each_1_6c7 (I := I26) (lr := lr) (Rr := recA lr [.ret] rc) (o0 := 0) (o1 := a1) (o2 := 0) (o3 := r31) (b5 := b8) (b6 := b10) (b7 := b33) (p8 := p34) (c9 := c35) ?_ R36 hd, ?_⟩
 · skip
   intro I hJ y53 y54 y56 x58 Qy  hd
   replace R36 := R36.mono hJ
   obtain ⟨rfl, hd⟩ := hd
   refine RFun.mk hrc r fun w0 M => ?_
   refine .region (.skips 1 r (.nil' fun c w ho hs => beginR (E' := [(3, _), (4, _), (5, _)]) ho ⟨r, r, r, trivial⟩ hs .z (.block (.seq (.region (.skips 1 r (.load1 isAgg3 r (.s .z) r r r (.ge r r r r (.nilS [11, 5, 4] r r ?_)))))))))
   refine .condP r hd (fun hb59 hd => ?_) fun hb59 hd => ?_
   · refine .seq (.region (.skips 1 r (.store1 sizeOf3 r r (.s (.s .z)) (.t .nil) r (.nilS [] r r ?_))))
     exact .ret fun c w ho hs => endR (js := [.ret]) 1 (.inr rfl) (.refl _) .z (.c .z (.c .z .n)) ⟨(false, 1, x58), rfl, rfl, hd⟩ hs
   exact .skip' fun c w ho hs => endR 0 (.inl rfl) (.refl _) .z (.c .z (.c .z .n)) ⟨(true, 0, y56), rfl, rfl, hd⟩ hs
 intro v63 I60 l' hl61 hv62
 obtain ⟨r64, rfl, rfl, hd⟩ := hv62
 have le68 := IH.le.trans le37 hl61
 replace R36 := R36.mono hl61
 refine ⟨_, _, r, fun hj => ?_, fun i hj => ?_⟩
 · have hd := hd.1 (decide_eq_true hj)
   exact .re (m' := [Marks (D :: []), pto b8 (.cells #[.int .i64 a1] 3 (0, 0)), pto b10 (.cells #[.int .i64 r64.2] 3 (0, 0)), pto b33 (.cells #[.slice p34 r31.length c35] 26 (0, 0))]) r (.mkS [4] r r (.drop (.s .z) (.drop (.s (.s .z)) (.seq (.region (.store1 sizeOf3 r r (.s .z) (.t .nil) r (.nilS [4] r r (.ret (pretM .z results181 (.s isAgg3 r .z .n) le68 ⟨(-1), r, hd⟩)))))))))
 obtain ⟨hz, hd⟩ := hd.2 (decide_eq_false (by omega))
 obtain rfl : i = 0 := by omega
 refine ⟨_, r, ?_⟩
 exact .re (m' := [Marks (D :: []), pto b8 (.cells #[.int .i64 a1] 3 (0, 0)), pto b10 (.cells #[.int .i64 r64.2] 3 (0, 0)), pto b33 (.cells #[.slice p34 r31.length c35] 26 (0, 0))]) r (.ret (pretM .z results181 (.s isAgg3 r (.s .z) .n) le68 ⟨r64.2, r, hd⟩))

theorem W_flags_Right {I : IH} {a0 : List Int} {a1 : Int} {p1 : Option Addr} {c2 : Nat} {Q : Bool → Prop} (R3 : RepSl eU64 I p1 c2 a0) (hd : flags_Right a0 a1 Q) :
    PFun Tryz.prog 155 [.slice p1 a0.length c2, .int .i64 a1] I (fun I_ v => ∃ r, v = .bool r ∧ Q r) := by
 refine Fun.enter func155 r ntmps155 r (.c (.c .n)) fun w0 M => ?_
 refine .seq (.region (.skips 1 r (.nilS [1, 0] r r (.seq (.region (.skips 1 r (.ge r r r r (.skips 1 r ?_))))))))
 refine splitP hd (fun hb4 hd => ?_) fun hb4 hd => ?_
 · rw [hb4]
   refine .gyes r r r (.move r r r (.gyes r r r (.le' r r r r (.skips 2 r ?_))))
   refine splitP hd (fun hb5 hd => ?_) fun hb5 hd => ?_
   · rw [hb5]
     refine .gyes r r r (.move r r r (.gyes r r r (.len underlying26 r r r r (.gyes r r r (.move r r r ?_)))))
     have hw7 := W_flags_words (I := I) hd
     refine .gyes r r r (.callP call159 r hw7 r r fun v8 hv9 => ?_)
     obtain ⟨r6, rfl, hd⟩ := hv9
     refine .gyes r r r (.eq r r r r (.skips 2 r ?_))
     refine splitP hd (fun hb10 hd => ?_) fun hb10 hd => ?_
     · rw [hb10]
       refine .gyes r r r (.move r r r (.gyes r r r (.move r r r ?_)))
       have hw12 := W_flags_Next (I := I) R3 hd
       refine .gyes r r r (.callP call181 r hw12 r r fun v13 hv14 => ?_)
       obtain ⟨r11, rfl, hd⟩ := hv14
       exact .gyes r r r (.lt r r r r (.skips 2 r (.nilS [4] r r (.ret (pret results155 (.t r .n) (.refl _) ⟨(decide (r11 < 0)), r, hd⟩)))))
     rw [hb10]
     exact .skips 6 r (.nilS [4] r r (.ret (pret results155 (.t r .n) (.refl _) ⟨false, r, hd⟩)))
   rw [hb5]
   exact .skips 13 r (.nilS [4] r r (.ret (pret results155 (.t r .n) (.refl _) ⟨false, r, hd⟩)))
 rw [hb4]
 exact .skips 17 r (.nilS [4] r r (.ret (pret results155 (.t r .n) (.refl _) ⟨false, r, hd⟩)))

theorem W_devec_Right {I : IH} {a0 : Dense} {p1 : Option Addr} {c2 : Nat} {p4 : Option Addr} {c5 : Nat} {Q : Bool → Prop} (R3 : RepSl eU64 I p1 c2 a0.Has) (R6 : RepSl eI64 I p4 c5 a0.Vals) (hd : devec_Right a0 Q) :
    PFun Tryz.prog 112 [.agg #[.int .i64 a0.N, .slice p1 a0.Has.length c2, .slice p4 a0.Vals.length c5]] I (fun I_ v => ∃ r, v = .bool r ∧ Q r) := by
 refine Fun.enter func112 r ntmps112 r (.c .n) fun w0 M => ?_
 refine .seq (.region (.boxA r r r fun b9 => ?_))
 refine .skips 1 r (.nilS [1] r r (.seq (.seq (.region (.fieldAddr underlying62 r sizeOf26 r (o := 1) r r r (.load1 isAgg26 r .z r r r (.fieldAddr underlying62 r sizeOf3 r (o := 0) r r r (.load1 isAgg3 r .z r r r ?_))))))))
 have hw18 := W_flags_Right (I := I) R3 hd
 refine .callP call155 r hw18 r r fun v19 hv20 => ?_
 obtain ⟨r17, rfl, hd⟩ := hv20
 refine .not r r r (.skips 1 r ?_)
 refine splitP hd (fun hb21 hd => ?_) fun hb21 hd => ?_
 · rw [hb21]
   exact .skips 7 r (.nilS [18, 1] r r (.condKT r r (.seq (.region (.skips 1 r (.nilS [2] r r (.drop .z (.ret (pret results112 (.t r .n) (.refl _) ⟨false, r, hd⟩)))))))))
 rw [hb21]
 refine .gyes r r r (.fieldAddr underlying62 r sizeOf30 r (o := 2) r r r (.gyes r r r (.load1 isAgg30 r .z r r r (.gyes r r r (.len underlying30 r r r r (.gyes r r r (.fieldAddr underlying62 r sizeOf3 r (o := 0) r r r (.gyes r r r (.load1 isAgg3 r .z r r r (.gyes r r r (.ne r r r r (.skips 1 r (.nilS [18, 1] r r (.condP r hd (fun hb22 hd => ?_) fun hb22 hd => ?_))))))))))))))
 · exact .seq (.region (.skips 1 r (.nilS [2] r r (.drop .z (.ret (pret results112 (.t r .n) (.refl _) ⟨false, r, hd⟩))))))
 refine .skipS [1] r r (.seq (.seq (.region (.fieldAddr underlying62 r sizeOf30 r (o := 2) r r r (.load1 isAgg30 r .z r r r (.len underlying30 r r r r (.skips 1 r (.nilS [22, 21, 20, 1] r r (.block ?_)))))))))
 refine .loop hd (fun (s78 : Int) c w => ∃ I_, IH.le I I_ ∧ Ok ⟨37, [], none⟩ [(1, .pointer (some ⟨b9, 0, none⟩)), (20, .slice p4 a0.Vals.length c5), (21, .int .i64 (a0.Vals.length : Int)), (22, .int .i64 s78)] c ∧ Sym w0 M I I_ [pto b9 (.cells #[.int .i64 a0.N, .slice p1 a0.Has.length c2, .slice p4 a0.Vals.length c5] 62 (0, 0))] w) (fun c w ho hs => ⟨I, (.refl _), ho.sub ⟨r, r, r, r, trivial⟩, hs.pick (.c .z .n)⟩) ?_
 rintro s78 next79 hd c w hst
 obtain ⟨I80, hl81, hok, hsym⟩ := hst
 have le82 := IH.le.trans (.refl _) hl81
 replace R3 := R3.mono hl81
 replace R6 := R6.mono hl81
 refine Cod.at hok hsym (.seq (.region (.lt r r r r (.nilS [23, 22, 21, 20, 1] r r (.seq (.condP r hd (fun hb84 hd => ?_) fun hb84 hd => ?_))))))
 · refine .skipS [22, 21, 20, 1] r r (.seq (.block (.seq (.region (.skips 1 r ?_)))))
   obtain ⟨h94, x95, hx96, hd⟩ := hd
   obtain ⟨b97, o98, cs99, e100, hC101, hr102⟩ := R6.2 _ _ hx96
   cases hr102
   refine .ixa underlying30 sizeOf2 r e100 r h94 (idx_lt hx96 h94) r r (.ld1 (j := 0) isAgg2 hC101 r r r r r (.skips 2 r (.nilS [4, 3, 22, 21, 20, 1] r r (.seq (.region (.skips 1 r (.ne r r r r (.skips 1 r ?_))))))))
   refine splitP hd (fun hb103 hd => ?_) fun hb103 hd => ?_
   · rw [hb103]
     refine .gyes r r r (.fieldAddr underlying62 r sizeOf26 r (o := 1) r r r (.gyes r r r (.load1 isAgg26 r .z r r r (.gyes r r r (.move r r r ?_)))))
     have hw105 := W_flags_Has (I := I80) R3 hd
     refine .gyes r r r (.callP call74 r hw105 r r fun v106 hv107 => ?_)
     obtain ⟨r104, rfl, hd⟩ := hv107
     refine .gyes r r r (.not r r r (.skips 1 r (.nilS [35, 22, 21, 20, 1] r r (.condP r hd (fun hb108 hd => ?_) fun hb108 hd => ?_))))
     · exact .seq (.region (.skips 1 r (.nilS [2] r r (.drop .z (.ret (pret results112 (.t r .n) le82 ⟨false, r, hd⟩))))))
     exact .skipS [22, 21, 20, 1] r r (.region (.add r r r r (.sub (E' := [(1, _), (20, _), (21, _), (36, _)]) ⟨r, r, r, r, trivial⟩ (.skips 1 r (.nil' fun c w ho hs => ⟨(w64 (s78 + 1)), hd, I80, le82, ho.sub ⟨r, r, r, r, trivial⟩, hs.pick (.c .z .n)⟩)))))
   rw [hb103]
   exact .skips 6 r (.nilS [35, 22, 21, 20, 1] r r (.condKF r r (.skipS [22, 21, 20, 1] r r (.region (.add r r r r (.sub (E' := [(1, _), (20, _), (21, _), (36, _)]) ⟨r, r, r, r, trivial⟩ (.skips 1 r (.nil' fun c w ho hs => ⟨(w64 (s78 + 1)), hd, I80, le82, ho.sub ⟨r, r, r, r, trivial⟩, hs.pick (.c .z .n)⟩))))))))
 exact .exitS [] r r (.drop .z (.seq (.region (.skips 1 r (.nilS [2] r r (.ret (pret results112 (.t r .n) le82 ⟨true, r, hd⟩)))))))

theorem W_pull_sure {I : IH} {a0 : Rows} {a1 : Dense} {p1 : Option Addr} {c2 : Nat} {p4 : Option Addr} {c5 : Nat} {p7 : Option Addr} {c8 : Nat} {p10 : Option Addr} {c11 : Nat} {p13 : Option Addr} {c14 : Nat} {Q : (Rows × Dense) → Prop} (R3 : RepSl eI64 I p1 c2 a0.Start) (R6 : RepSl eI64 I p4 c5 a0.Col) (R9 : RepSl eI64 I p7 c8 a0.Val) (R12 : RepSl eU64 I p10 c11 a1.Has) (R15 : RepSl eI64 I p13 c14 a1.Vals) (hd : pull_sure a0 a1 Q) :
    PFun Tryz.prog 64 [.agg #[.int .i64 a0.Rows, .int .i64 a0.Cols, .slice p1 a0.Start.length c2, .slice p4 a0.Col.length c5, .slice p7 a0.Val.length c8], .agg #[.int .i64 a1.N, .slice p10 a1.Has.length c11, .slice p13 a1.Vals.length c14]] I (fun I_ v => ∃ r p16 c17 p19 c20 p22 c23 p25 c26 p28 c29, v = .tuple #[.agg #[.int .i64 r.1.Rows, .int .i64 r.1.Cols, .slice p16 r.1.Start.length c17, .slice p19 r.1.Col.length c20, .slice p22 r.1.Val.length c23], .agg #[.int .i64 r.2.N, .slice p25 r.2.Has.length c26, .slice p28 r.2.Vals.length c29]] ∧ RepSl eI64 I_ p16 c17 r.1.Start ∧ RepSl eI64 I_ p19 c20 r.1.Col ∧ RepSl eI64 I_ p22 c23 r.1.Val ∧ RepSl eU64 I_ p25 c26 r.2.Has ∧ RepSl eI64 I_ p28 c29 r.2.Vals ∧ Q r) := by
 refine Fun.enter func64 r ntmps64 r (.c (.c .n)) fun w0 M => ?_
 refine .seq (.region (.boxA r r r fun b39 => ?_))
 refine .boxA r r r fun b41 => ?_
 refine .allocA zeroValue35 r r fun b43 => ?_
 refine .allocA zeroValue62 r r fun b45 => ?_
 refine .nilS [5, 4, 3, 2] r r (.seq ?_)
 refine Cod.joinQ (σ := Int × Int × (List Int) × (List Int) × (List Int)) hd (fun (s : Int × Int × (List Int) × (List Int) × (List Int)) c w => match s with | (s91, s92, s93, s97, s101) => ∃ I_ p94 c95 p98 c99 p102 c103, IH.le I I_ ∧ RepSl eI64 I_ p94 c95 s93 ∧ RepSl eI64 I_ p98 c99 s97 ∧ RepSl eI64 I_ p102 c103 s101 ∧ Ok ⟨19, [], none⟩ [(2, .pointer (some ⟨b39, 0, none⟩)), (3, .pointer (some ⟨b41, 0, none⟩)), (4, .pointer (some ⟨b43, 0, none⟩)), (5, .pointer (some ⟨b45, 0, none⟩))] c ∧ Sym w0 M I I_ [pto b39 (.cells #[.int .i64 s91, .int .i64 s92, .slice p94 s93.length c95, .slice p98 s97.length c99, .slice p102 s101.length c103] 35 (0, 0)), pto b41 (.cells #[.int .i64 a1.N, .slice p10 a1.Has.length c11, .slice p13 a1.Vals.length c14] 62 (0, 0)), pto b43 (.cells #[.int .i64 0, .int .i64 0, .slice none 0 0, .slice none 0 0, .slice none 0 0] 35 (0, 0)), pto b45 (.cells #[.int .i64 0, .slice none 0 0, .slice none 0 0] 62 (0, 0))] w) (fun k105 hd => ?_) ?_
 · skip
   refine .seq (.region (.loadW isAgg35 sizeOf35 r (.s (.s (.s .z))) r r r ?_))
   have hw107 := W_csr_Right (I := I) R3 R6 R9 hd
   refine .callP call61 r hw107 r r fun v108 hv109 => ?_
   obtain ⟨r106, rfl, hd⟩ := hv109
   refine .not r r r (.nilS [8, 5, 4, 3, 2] r r (.condP r hd (fun hb110 hd => ?_) fun hb110 hd => ?_))
   · refine .region (.loadW isAgg35 sizeOf35 r (.s (.s (.s .z))) r r r (.buildArr zeroValue56 underlying56 sizeOf3 .n r r (.buildArr zeroValue56 underlying56 sizeOf3 .n r r ?_)))
     have hw126 := W_csr_Cut (I := I) R3 R6 R9 hd
     refine .call call111 r hw126 r r fun v115 I112 hl113 hv114 => ?_
     obtain ⟨r111, p117, c118, p120, c121, p123, c124, rfl, R119, R122, R125, hd⟩ := hv114
     have le127 := IH.le.trans (.refl _) hl113
     replace R3 := R3.mono hl113
     replace R6 := R6.mono hl113
     replace R9 := R9.mono hl113
     replace R12 := R12.mono hl113
     replace R15 := R15.mono hl113
     exact .storeA sizeOf35 r r (.s (.s (.s .z))) (.t (.t (.t (.t (.t .nil))))) r r (.nil' fun c w ho hs => ⟨(r111.Rows, r111.Cols, r111.Start, r111.Col, r111.Val), hd, I112, _, _, _, _, _, _, le127, R119, R122, R125, ho.sub ⟨r, r, r, r, trivial⟩, hs.pick (.c (.s (.s (.s .z))) (.c (.s (.s .z)) (.c (.s .z) (.c .z .n))))⟩)
   exact .skip' fun c w ho hs => ⟨(a0.Rows, a0.Cols, a0.Start, a0.Col, a0.Val), hd, I, _, _, _, _, _, _, (.refl _), R3, R6, R9, ho.sub ⟨r, r, r, r, trivial⟩, hs.pick (.c (.s (.s (.s .z))) (.c (.s (.s .z)) (.c (.s .z) (.c .z .n))))⟩
 rintro ⟨s91, s92, s93, s97, s101⟩ hd c w hst
 obtain ⟨I128, p94, c95, p98, c99, p102, c103, hl129, R96, R100, R104, hok, hsym⟩ := hst
 have le130 := IH.le.trans (.refl _) hl129
 replace R12 := R12.mono hl129
 replace R15 := R15.mono hl129
 refine Cod.at hok hsym (.seq (.seq (.region (.loadW isAgg62 sizeOf62 r (.s .z) r r r ?_))))
 have hw132 := W_devec_Right (I := I128) R12 R15 hd
 refine .callP call112 r hw132 r r fun v133 hv134 => ?_
 obtain ⟨r131, rfl, hd⟩ := hv134
 refine .not r r r (.nilS [15, 5, 4, 3, 2] r r (.condP r hd (fun hb135 hd => ?_) fun hb135 hd => ?_))
 · refine .region ?_
   have hw149 := W_devec_New (I := I128) hd
   refine .callO call68 r hw149 r r fun v140 I137 l141 hl138 hv139 => ?_
   obtain ⟨r136, p142, c143, p145, c146, rfl, R144, rfl, hd⟩ := hv139
   have le150 := IH.le.trans le130 hl138
   replace R12 := R12.mono hl138
   replace R15 := R15.mono hl138
   replace R96 := R96.mono hl138
   replace R100 := R100.mono hl138
   replace R104 := R104.mono hl138
   refine .storeA sizeOf62 r r (.s (.s .z)) (.t (.t (.t .nil))) r r (.nilS [5, 4, 3, 2] r r (.seq (.draw [some 0, some 1, some 2] 3 MX (by kernel_rfl) (by kernel_rfl) (by kernel_rfl) (by kernel_rfl) (by kernel_rfl) (by kernel_rfl) (by kernel_rfl) (fun ex => (OwnSl eI64 2 p145 c146 r136.Vals) :: (pto b39 (.cells #[.int .i64 s91, .int .i64 s92, .slice p94 s93.length c95, .slice p98 s97.length c99, .slice p102 s101.length c103] 35 (0, 0))) :: (pto b41 (.cells #[.int .i64 r136.N, .slice p142 r136.Has.length c143, .slice p145 r136.Vals.length c146] 62 (0, 0))) :: (pto b43 (.cells #[.int .i64 0, .int .i64 0, .slice none 0 0, .slice none 0 0, .slice none 0 0] 35 (0, 0))) :: (pto b45 (.cells #[.int .i64 0, .slice none 0 0, .slice none 0 0] 62 (0, 0))) :: ex) (fun _ _ => (.s (.s (.s (.s (.s .z)))))) r (.f [] r (by kernel_rfl) r r (fun ex => .loadW isAgg35 sizeOf35 r (.s .z) r r r .mk) (.f [] r (by kernel_rfl) r r (fun ex => .loadW isAgg62 sizeOf62 r (.s (.s .z)) r r r .mk) (.w [1] [[]] [0, 0] r (by kernel_rfl) (by kernel_rfl) (by kernel_rfl) ((dropE_none r)) (.inr (dropE_none r)) fun ex => ?_))))))
   refine .storeA sizeOf35 r r (.s (.s (.s .z))) (.t (.t (.t (.t (.t .nil))))) r r (.none (fun ex => (OwnSl eI64 2 p145 c146 r136.Vals) :: (pto b39 (.cells #[.int .i64 s91, .int .i64 s92, .slice p94 s93.length c95, .slice p98 s97.length c99, .slice p102 s101.length c103] 35 (0, 0))) :: (pto b41 (.cells #[.int .i64 r136.N, .slice p142 r136.Has.length c143, .slice p145 r136.Vals.length c146] 62 (0, 0))) :: (pto b43 (.cells #[.int .i64 s91, .int .i64 s92, .slice p94 s93.length c95, .slice p98 s97.length c99, .slice p102 s101.length c103] 35 (0, 0))) :: (pto b45 (.cells #[.int .i64 0, .slice none 0 0, .slice none 0 0] 62 (0, 0))) :: ex) r (fun _ _ => (.s (.s (.s (.s (.s .z)))))) r (.cc [] r (by kernel_rfl) r r r (fun ex => .loadW isAgg62 sizeOf62 r (.s (.s .z)) r r r .mk) trivial) (.e 3 (by kernel_rfl) (by kernel_rfl) (by kernel_rfl) (.storeA sizeOf62 r r (.s (.s (.s (.s .z)))) (.t (.t (.t .nil))) r r (.nilS [5, 4] r r (.drop (.s .z) (.drop (.s .z) (.pub .z fun I151 hl152 R153 => ?_)))))))
   have le154 := IH.le.trans le150 hl152
   replace R96 := R96.mono hl152
   replace R100 := R100.mono hl152
   replace R104 := R104.mono hl152
   replace R144 := R144.mono hl152
   exact .ret (pret results64 (.w isAgg35 sizeOf35 r .z r (.w isAgg62 sizeOf62 r (.s .z) r .n)) le154 ⟨(({ Rows := s91, Cols := s92, Start := s93, Col := s97, Val := s101 } : Rows), r136), _, _, _, _, _, _, _, _, _, _, r, R96, R100, R104, R144, R153, hd⟩)
 refine .skipS [5, 4, 3, 2] r r (.seq (.draw [some 0, some 1, some 2] 3 MX (by kernel_rfl) (by kernel_rfl) (by kernel_rfl) (by kernel_rfl) (by kernel_rfl) (by kernel_rfl) (by kernel_rfl) (fun ex => (pto b39 (.cells #[.int .i64 s91, .int .i64 s92, .slice p94 s93.length c95, .slice p98 s97.length c99, .slice p102 s101.length c103] 35 (0, 0))) :: (pto b41 (.cells #[.int .i64 a1.N, .slice p10 a1.Has.length c11, .slice p13 a1.Vals.length c14] 62 (0, 0))) :: (pto b43 (.cells #[.int .i64 0, .int .i64 0, .slice none 0 0, .slice none 0 0, .slice none 0 0] 35 (0, 0))) :: (pto b45 (.cells #[.int .i64 0, .slice none 0 0, .slice none 0 0] 62 (0, 0))) :: ex) (fun _ _ => (.s (.s (.s (.s .z))))) r (.f [] r (by kernel_rfl) r r (fun ex => .loadW isAgg35 sizeOf35 r .z r r r .mk) (.f [] r (by kernel_rfl) r r (fun ex => .loadW isAgg62 sizeOf62 r (.s .z) r r r .mk) (.w [1] [[]] [0, 0] r (by kernel_rfl) (by kernel_rfl) (by kernel_rfl) ((dropE_none r)) (.inr (dropE_none r)) fun ex => ?_)))))
 exact .storeA sizeOf35 r r (.s (.s .z)) (.t (.t (.t (.t (.t .nil))))) r r (.none (fun ex => (pto b39 (.cells #[.int .i64 s91, .int .i64 s92, .slice p94 s93.length c95, .slice p98 s97.length c99, .slice p102 s101.length c103] 35 (0, 0))) :: (pto b41 (.cells #[.int .i64 a1.N, .slice p10 a1.Has.length c11, .slice p13 a1.Vals.length c14] 62 (0, 0))) :: (pto b43 (.cells #[.int .i64 s91, .int .i64 s92, .slice p94 s93.length c95, .slice p98 s97.length c99, .slice p102 s101.length c103] 35 (0, 0))) :: (pto b45 (.cells #[.int .i64 0, .slice none 0 0, .slice none 0 0] 62 (0, 0))) :: ex) r (fun _ _ => (.s (.s (.s (.s .z))))) r (.cc [] r (by kernel_rfl) r r r (fun ex => .loadW isAgg62 sizeOf62 r (.s .z) r r r .mk) trivial) (.e 3 (by kernel_rfl) (by kernel_rfl) (by kernel_rfl) (.storeA sizeOf62 r r (.s (.s (.s .z))) (.t (.t (.t .nil))) r r (.nilS [5, 4] r r (.drop .z (.drop .z (.ret (pret results64 (.w isAgg35 sizeOf35 r .z r (.w isAgg62 sizeOf62 r (.s .z) r .n)) le130 ⟨(({ Rows := s91, Cols := s92, Start := s93, Col := s97, Val := s101 } : Rows), a1), _, _, _, _, _, _, _, _, _, _, r, R96, R100, R104, R12, R15, hd⟩))))))))

theorem W_pull_adder_6fc {I : IH} {a0 : Int}  {Q : (Bool × Int × Wide) → Prop}  (hd : pull_adder_6fc a0 Q) :
    Fun Tryz.prog 114 #[.int .i64 a0] I [] (fun I_ v l => ∃ r b1 b2 b3, v = .tuple #[.func (.func 156) #[] #[.pointer (some ⟨b1, 0, none⟩), .pointer (some ⟨b2, 0, none⟩), .pointer (some ⟨b3, 0, none⟩)], .func (.func 157) #[] #[.pointer (some ⟨b3, 0, none⟩), .pointer (some ⟨b1, 0, none⟩)]] ∧ l = [pto b1 (.cells #[.bool r.1] 4 (0, 0)), pto b2 (.cells #[.int .i64 r.2.1] 22 (0, 0)), pto b3 (.cells #[.int .i64 r.2.2.Hi, .int .u64 r.2.2.Lo] 87 (0, 0))] ∧ Q r) := by
 refine Fun.enter (vs := [.int .i64 a0]) func114 r ntmps114 r (.c .n) fun w0 M => ?_
 refine .seq (.region (.box1 r r r r fun b3 => ?_))
 refine .skips 2 r (.nilS [1] r r (.seq (.region (.allocA zeroValue87 r r fun b7 => ?_))))
 refine .nilS [4, 1] r r (.seq (.region (.alloc1 zeroValue4 r r r fun b9 => ?_)))
 refine .store1 sizeOf4 r r .z (.t .nil) r (.nilS [5, 4, 1] r r (.seq (.region (.mkFn r r r r (.skips 1 r (.nilS [2, 5, 4] r r (.seq (.region (.skips 1 r ?_)))))))))
 exact .mkFn r r r r (.sub (E' := [(4, _), (5, _), (7, _), (8, _)]) ⟨r, r, r, r, trivial⟩ (.skips 2 r (.nilS [3, 2] r r (.ret (oret results114 (.t r (.t r .n)) (.refl _) (.c .z (.c (.s .z) (.c .z .n))) ⟨(false, a0, ({ Hi := 0, Lo := 0 } : Wide)), _, _, _, r, r, hd⟩)))))

theorem W_pull_adder_1_b72 {I : IH} {o0 : Bool} {o1 : Int} {o2 : Wide} {a0 : Wide} {b4 : Nat} {b5 : Nat} {b6 : Nat} {Q : (Bool × Wide) → Prop}  (hd : pull_adder_1_b72 o0 o1 o2 a0 Q) :
    Fun Tryz.prog 156 #[.agg (encWide a0).toArray, .pointer (some ⟨b4, 0, none⟩), .pointer (some ⟨b5, 0, none⟩), .pointer (some ⟨b6, 0, none⟩)] I [pto b4 (.cells #[.bool o0] 4 (0, 0)), pto b5 (.cells #[.int .i64 o1] 22 (0, 0)), pto b6 (.cells #[.int .i64 o2.Hi, .int .u64 o2.Lo] 87 (0, 0))] (fun I_ v l => ∃ r, v = .tuple #[] ∧ l = [pto b4 (.cells #[.bool r.1] 4 (0, 0)), pto b5 (.cells #[.int .i64 o1] 22 (0, 0)), pto b6 (.cells #[.int .i64 r.2.Hi, .int .u64 r.2.Lo] 87 (0, 0))] ∧ Q r) := by
 refine Fun.enter (vs := [.agg (encWide a0).toArray, .pointer (some ⟨b4, 0, none⟩), .pointer (some ⟨b5, 0, none⟩), .pointer (some ⟨b6, 0, none⟩)]) func156 r ntmps156 r (.c (.c (.c (.c .n)))) fun w0 M => ?_
 refine .seq (.region (.boxA r r r fun b9 => ?_))
 refine .nilS [4, 3, 2, 1] r r (.seq (.seq (.region (.load1 isAgg4 r (.s .z) r r r (.nilS [5, 4, 3, 2, 1] r r (.condP r hd (fun hb11 hd => ?_) fun hb11 hd => ?_))))))
 · refine .region (.load1 isAgg22 r (.s (.s .z)) r r r (.loadW isAgg87 sizeOf87 r (.s (.s (.s .z))) r r r (.loadW isAgg87 sizeOf87 r .z r r r ?_)))
   have hw13 := W_ring_Add (I := I) hd
   refine .callP call102 r hw13 r r fun v14 hv15 => ?_
   obtain ⟨r12, rfl, hd⟩ := hv15
   exact .storeA sizeOf87 r r .z (.t (.t .nil)) r r (.nilS [4, 3, 1] r r (.region (.loadW isAgg87 sizeOf87 r .z r r r (.storeA sizeOf87 r r (.s (.s (.s .z))) (.t (.t .nil)) r r (.store1 sizeOf4 r r (.s .z) (.t .nil) r (.nil' (oretN results156 .n (.refl _) (.c (.s .z) (.c (.s .z) (.c (.s .z) .n))) ⟨(true, r12), r, r, hd⟩)))))))
 exact .skipS [4, 3, 1] r r (.region (.loadW isAgg87 sizeOf87 r .z r r r (.storeA sizeOf87 r r (.s (.s (.s .z))) (.t (.t .nil)) r r (.store1 sizeOf4 r r (.s .z) (.t .nil) r (.nil' (oretN results156 .n (.refl _) (.c (.s .z) (.c (.s .z) (.c (.s .z) .n))) ⟨(true, a0), r, r, hd⟩))))))

theorem W_pull_adder_2_cdb {I : IH} {o0 : Wide} {o1 : Bool} {b3 : Nat} {b4 : Nat} {Q : (Wide × Bool) → Prop}  (hd : pull_adder_2_cdb o0 o1 Q) :
    Fun Tryz.prog 157 #[.pointer (some ⟨b3, 0, none⟩), .pointer (some ⟨b4, 0, none⟩)] I [pto b3 (.cells #[.int .i64 o0.Hi, .int .u64 o0.Lo] 87 (0, 0)), pto b4 (.cells #[.bool o1] 4 (0, 0))] (fun I_ v l => ∃ r, v = .tuple #[.agg (encWide r.1).toArray, .bool r.2] ∧ l = [pto b3 (.cells #[.int .i64 o0.Hi, .int .u64 o0.Lo] 87 (0, 0)), pto b4 (.cells #[.bool o1] 4 (0, 0))] ∧ Q r) := by
 refine Fun.enter (vs := [.pointer (some ⟨b3, 0, none⟩), .pointer (some ⟨b4, 0, none⟩)]) func157 r ntmps157 r (.c (.c .n)) fun w0 M => ?_
 refine .seq (.region (.allocA zeroValue87 r r fun b5 => ?_))
 refine .skips 1 r (.nilS [2, 1, 0] r r (.seq (.draw [some 0, some 1, some 2] 3 MX (by kernel_rfl) (by kernel_rfl) (by kernel_rfl) (by kernel_rfl) (by kernel_rfl) (by kernel_rfl) (by kernel_rfl) (fun ex => (pto b5 (.cells #[.int .i64 0, .int .u64 0] 87 (0, 0))) :: (pto b3 (.cells #[.int .i64 o0.Hi, .int .u64 o0.Lo] 87 (0, 0))) :: (pto b4 (.cells #[.bool o1] 4 (0, 0))) :: ex) (fun _ _ => (.s (.s (.s .z)))) r (.f [] r (by kernel_rfl) r r (fun ex => .loadW isAgg87 sizeOf87 r (.s .z) r r r .mk) (.f [] r (by kernel_rfl) r r (fun ex => .load1 isAgg4 r (.s (.s .z)) r r r .mk) (.w [1] [[]] [0, 0] r (by kernel_rfl) (by kernel_rfl) (by kernel_rfl) ((dropE_none r)) (.inr (dropE_none r)) fun ex => ?_))))))
 exact .storeA sizeOf87 r r .z (.t (.t .nil)) r r (.none (fun ex => (pto b5 (.cells #[.int .i64 o0.Hi, .int .u64 o0.Lo] 87 (0, 0))) :: (pto b3 (.cells #[.int .i64 o0.Hi, .int .u64 o0.Lo] 87 (0, 0))) :: (pto b4 (.cells #[.bool o1] 4 (0, 0))) :: ex) r (fun _ _ => (.s (.s (.s .z)))) r (.cc [] r (by kernel_rfl) r r r (fun ex => .load1 isAgg4 r (.s (.s .z)) r r r .mk) trivial) (.e 3 (by kernel_rfl) (by kernel_rfl) (by kernel_rfl) (.skips 1 r (.nilS [3, 2, 1, 0] r r (.ret (oret results157 (.w isAgg87 sizeOf87 r .z r (.t r .n)) (.refl _) (.c (.s .z) (.c (.s .z) .n)) ⟨(o0, o1), r, r, hd⟩))))))

theorem W_pull_row {I : IH} {a0 : Int} {a1 : Rows} {a2 : Int} {a3 : Dense} {p1 : Option Addr} {c2 : Nat} {p4 : Option Addr} {c5 : Nat} {p7 : Option Addr} {c8 : Nat} {p10 : Option Addr} {c11 : Nat} {p13 : Option Addr} {c14 : Nat} {Q : (Wide × Bool) → Prop} (R3 : RepSl eI64 I p1 c2 a1.Start) (R6 : RepSl eI64 I p4 c5 a1.Col) (R9 : RepSl eI64 I p7 c8 a1.Val) (R12 : RepSl eU64 I p10 c11 a3.Has) (R15 : RepSl eI64 I p13 c14 a3.Vals) (hd : pull_row a0 a1 a2 a3 Q) :
    PFun Tryz.prog 66 [.int .i64 a0, .agg #[.int .i64 a1.Rows, .int .i64 a1.Cols, .slice p1 a1.Start.length c2, .slice p4 a1.Col.length c5, .slice p7 a1.Val.length c8], .int .i64 a2, .agg #[.int .i64 a3.N, .slice p10 a3.Has.length c11, .slice p13 a3.Vals.length c14]] I (fun I_ v => ∃ r, v = .tuple #[.agg (encWide r.1).toArray, .bool r.2] ∧ Q r) := by
 refine Fun.enter func66 r ntmps66 r (.c (.c (.c (.c .n)))) fun w0 M => ?_
 refine .seq (.region (.boxA r r r fun b22 => ?_))
 refine .boxA r r r fun b24 => ?_
 refine .allocA zeroValue87 r r fun b26 => ?_
 refine .skips 1 r (.nilS [8, 7, 5, 2, 0] r r (.seq (.region (.skips 1 r ?_))))
 have hw42 := W_pull_adder_6fc (I := I) (a0 := a0) hd
 refine .callS (.f call114 r) .n hw42 r r fun v46 I43 l47 hl44 hv45 => ?_
 obtain ⟨r48, b52, b53, b54, rfl, rfl, hd⟩ := hv45
 have le55 := IH.le.trans (.refl _) hl44
 replace R3 := R3.mono hl44
 replace R6 := R6.mono hl44
 replace R9 := R9.mono hl44
 replace R12 := R12.mono hl44
 replace R15 := R15.mono hl44
 refine .re (m' := [pto b52 (.cells #[.bool r48.1] 4 (0, 0)), pto b53 (.cells #[.int .i64 r48.2.1] 22 (0, 0)), pto b54 (.cells #[.int .i64 r48.2.2.Hi, .int .u64 r48.2.2.Lo] 87 (0, 0)), pto b26 (.cells #[.int .i64 0, .int .u64 0] 87 (0, 0)), pto b24 (.cells #[.int .i64 a3.N, .slice p10 a3.Has.length c11, .slice p13 a3.Vals.length c14] 62 (0, 0)), pto b22 (.cells #[.int .i64 a1.Rows, .int .i64 a1.Cols, .slice p1 a1.Start.length c2, .slice p4 a1.Col.length c5, .slice p7 a1.Val.length c8] 35 (0, 0))]) r (.skips 1 r (.extract r r r r (.extract r r r r (.skips 2 r (.nilS [11, 10, 8, 7, 5, 2, 0] r r (.seq (.seq (.region (.fieldAddr underlying35 r sizeOf29 r (o := 2) r r r ?_)))))))))
 refine .load1 isAgg29 r (.s (.s (.s (.s (.s .z))))) r r r (.skips 1 r ?_)
 obtain ⟨h65, x66, hx67, hd⟩ := hd
 obtain ⟨b68, o69, cs70, e71, hC72, hr73⟩ := R3.2 _ _ hx67
 cases hr73
 refine .ixa underlying29 sizeOf3 r e71 r h65 (idx_lt hx67 h65) r r (.ld1 (j := 0) isAgg3 hC72 r r r r r (.skips 1 r (.nilS [12, 11, 10, 8, 7, 5, 2, 0] r r (.block (.loop hd (fun (s : Bool × Int × Int × Int) c w => match s with | (s250, s251, s252, s253) => ∃ I_, IH.le I43 I_ ∧ Ok ⟨61, [], none⟩ [(0, .int .i64 a0), (2, .int .i64 a2), (5, .pointer (some ⟨b22, 0, none⟩)), (7, .pointer (some ⟨b24, 0, none⟩)), (8, .pointer (some ⟨b26, 0, none⟩)), (10, .func (.func 156) #[] #[.pointer (some ⟨b52, 0, none⟩), .pointer (some ⟨b53, 0, none⟩), .pointer (some ⟨b54, 0, none⟩)]), (11, .func (.func 157) #[] #[.pointer (some ⟨b54, 0, none⟩), .pointer (some ⟨b52, 0, none⟩)]), (12, .int .i64 s253)] c ∧ Sym w0 M I I_ [pto b22 (.cells #[.int .i64 a1.Rows, .int .i64 a1.Cols, .slice p1 a1.Start.length c2, .slice p4 a1.Col.length c5, .slice p7 a1.Val.length c8] 35 (0, 0)), pto b24 (.cells #[.int .i64 a3.N, .slice p10 a3.Has.length c11, .slice p13 a3.Vals.length c14] 62 (0, 0)), pto b26 (.cells #[.int .i64 0, .int .u64 0] 87 (0, 0)), pto b52 (.cells #[.bool s250] 4 (0, 0)), pto b53 (.cells #[.int .i64 r48.2.1] 22 (0, 0)), pto b54 (.cells #[.int .i64 s251, .int .u64 s252] 87 (0, 0))] w) (fun c w ho hs => ⟨I43, (.refl _), ho.sub ⟨r, r, r, r, r, r, r, r, trivial⟩, hs.pick (.c (.s (.s (.s (.s (.s .z))))) (.c (.s (.s (.s (.s .z)))) (.c (.s (.s (.s .z))) (.c .z (.c .z (.c .z .n))))))⟩) ?_)))))
 rintro ⟨s250, s251, s252, s253⟩ next254 hd c w hst
 obtain ⟨I255, hl256, hok, hsym⟩ := hst
 have le257 := IH.le.trans le55 hl256
 have le258 := IH.le.trans (.refl _) hl256
 replace R3 := R3.mono hl256
 replace R6 := R6.mono hl256
 replace R9 := R9.mono hl256
 replace R12 := R12.mono hl256
 replace R15 := R15.mono hl256
 refine Cod.at hok hsym (.seq (.seq (.region (.skips 1 r (.fieldAddr underlying35 r sizeOf29 r (o := 2) r r r (.load1 isAgg29 r .z r r r (.skips 1 r (.add r r r r ?_))))))))
 obtain ⟨h269, x270, hx271, hd⟩ := hd
 obtain ⟨b272, o273, cs274, e275, hC276, hr277⟩ := R3.2 _ _ hx271
 cases hr277
 refine .ixa underlying29 sizeOf3 r e275 r h269 (idx_lt hx271 h269) r r (.ld1 (j := 0) isAgg3 hC276 r r r r r (.lt r r r r (.nilS [31, 12, 11, 10, 8, 7, 5, 2, 0] r r (.condP r hd (fun hb278 hd => ?_) fun hb278 hd => ?_))))
 · refine .skipS [12, 11, 10, 8, 7, 5, 2, 0] r r (.seq (.block (.seq (.region (.fieldAddr underlying35 r sizeOf29 r (o := 3) r r r (.load1 isAgg29 r .z r r r (.skips 1 r ?_)))))))
   obtain ⟨h288, x289, hx290, hd⟩ := hd
   obtain ⟨b291, o292, cs293, e294, hC295, hr296⟩ := R6.2 _ _ hx290
   cases hr296
   refine .ixa underlying29 sizeOf3 r e294 r h288 (idx_lt hx290 h288) r r (.ld1 (j := 0) isAgg3 hC295 r r r r r (.skips 1 r (.nilS [13, 12, 11, 10, 8, 7, 5, 2, 0] r r (.seq (.region (.fieldAddr underlying62 r sizeOf26 r (o := 1) r r r (.load1 isAgg26 r (.s .z) r r r (.skips 1 r ?_))))))))
   have hw302 := W_flags_Has (I := I255) R12 hd
   refine .callP call74 r hw302 r r fun v303 hv304 => ?_
   obtain ⟨r301, rfl, hd⟩ := hv304
   refine .nilS [42, 13, 12, 11, 10, 8, 7, 5, 2, 0] r r (.condP r hd (fun hb305 hd => ?_) fun hb305 hd => ?_)
   · refine .draw [some 0, some 1, some 2, some 3, some 4, some 5, some 6, some 7, some 8, some 9, some 10, some 11, some 12, some 13] 14 MX (by kernel_rfl) (by kernel_rfl) (by kernel_rfl) (by kernel_rfl) (by kernel_rfl) (by kernel_rfl) (by kernel_rfl) (fun ex => (pto b22 (.cells #[.int .i64 a1.Rows, .int .i64 a1.Cols, .slice p1 a1.Start.length c2, .slice p4 a1.Col.length c5, .slice p7 a1.Val.length c8] 35 (0, 0))) :: (pto b24 (.cells #[.int .i64 a3.N, .slice p10 a3.Has.length c11, .slice p13 a3.Vals.length c14] 62 (0, 0))) :: (pto b26 (.cells #[.int .i64 0, .int .u64 0] 87 (0, 0))) :: (pto b52 (.cells #[.bool s250] 4 (0, 0))) :: (pto b53 (.cells #[.int .i64 r48.2.1] 22 (0, 0))) :: (pto b54 (.cells #[.int .i64 s251, .int .u64 s252] 87 (0, 0))) :: ex) (fun _ _ => (.s (.s (.s (.s (.s (.s .z))))))) r (.fs [[], []] r (by kernel_rfl) (.f [] r (by kernel_rfl) r r (fun ex => .fieldAddr underlying35 r sizeOf30 r (o := 4) r r r .mk) (.f [2] r (by kernel_rfl) r r (fun ex => .load1 isAgg30 r .z r r r .mk) (.fs [[]] r (by kernel_rfl) ?_))))
     obtain ⟨h306, x307, hx308, hd⟩ := hd
     obtain ⟨b309, o310, cs311, e312, hC313, hr314⟩ := R9.2 _ _ hx308
     cases hr314
     refine .f [3, 4] r (by kernel_rfl) r r (fun ex => .ixa underlying30 sizeOf2 r e312 r h306 (idx_lt hx308 h306) r r .mk) (.f [5] r (by kernel_rfl) r r (fun ex => .ld1 (j := 0) isAgg2 hC313 r r r r r .mk) (.f [] r (by kernel_rfl) r r (fun ex => .fieldAddr underlying62 r sizeOf30 r (o := 2) r r r .mk) (.f [7] r (by kernel_rfl) r r (fun ex => .load1 isAgg30 r (.s .z) r r r .mk) (.fs [[]] r (by kernel_rfl) ?_))))
     obtain ⟨h315, x316, hx317, hd⟩ := hd
     obtain ⟨b318, o319, cs320, e321, hC322, hr323⟩ := R15.2 _ _ hx317
     cases hr323
     refine .f [8, 9] r (by kernel_rfl) r r (fun ex => .ixa underlying30 sizeOf2 r e321 r h315 (idx_lt hx317 h315) r r .mk) (.f [10] r (by kernel_rfl) r r (fun ex => .ld1 (j := 0) isAgg2 hC322 r r r r r .mk) (.w [0] [[], [11], [10, 11], [10, 11], [8, 10, 11], [], [6], [5, 6], [5, 6], [3, 5, 6], []] [1, 6, 11] r (by kernel_rfl) (by kernel_rfl) (by kernel_rfl) ((dropE_kept r r)) (.inr (dropE_kept r r)) fun ex => ?_))
     have hw325 := W_ring_Mul (I := I255) hd
     refine .callP call75 r hw325 r r fun v326 hv327 => ?_
     obtain ⟨r324, rfl, hd⟩ := hv327
     refine .some (fun ex => (pto b22 (.cells #[.int .i64 a1.Rows, .int .i64 a1.Cols, .slice p1 a1.Start.length c2, .slice p4 a1.Col.length c5, .slice p7 a1.Val.length c8] 35 (0, 0))) :: (pto b24 (.cells #[.int .i64 a3.N, .slice p10 a3.Has.length c11, .slice p13 a3.Vals.length c14] 62 (0, 0))) :: (pto b26 (.cells #[.int .i64 0, .int .u64 0] 87 (0, 0))) :: (pto b52 (.cells #[.bool s250] 4 (0, 0))) :: (pto b53 (.cells #[.int .i64 r48.2.1] 22 (0, 0))) :: (pto b54 (.cells #[.int .i64 s251, .int .u64 s252] 87 (0, 0))) :: ex) r (fun _ _ => (.s (.s (.s (.s (.s (.s .z))))))) r (.ccs [[]] r r (by kernel_rfl) trivial) (.w [] [[]] [0, 12, 12] r (by kernel_rfl) (by kernel_rfl) (by kernel_rfl) ((dropE_kept r r)) (.inr (dropE_kept r r)) fun ex => ?_)
     have hw328 := W_pull_adder_1_b72 (I := I255) (o0 := s250) (o1 := r48.2.1) (o2 := ({ Hi := s251, Lo := s252 } : Wide)) (a0 := r324) (b4 := b52) (b5 := b53) (b6 := b54) hd
     refine .callS (.c call156 r r) (.c (.s (.s (.s .z))) (.c (.s (.s (.s .z))) (.c (.s (.s (.s .z))) .n))) hw328 r r fun v332 I329 l333 hl330 hv331 => ?_
     obtain ⟨r334, rfl, rfl, hd⟩ := hv331
     have le339 := IH.le.trans le257 hl330
     have le340 := IH.le.trans le258 hl330
     replace R3 := R3.mono hl330
     replace R6 := R6.mono hl330
     replace R9 := R9.mono hl330
     replace R12 := R12.mono hl330
     replace R15 := R15.mono hl330
     replace hC313 := hC313.mono hl330
     replace hC322 := hC322.mono hl330
     exact .re (m' := (pto b52 (.cells #[.bool r334.1] 4 (0, 0))) :: (pto b53 (.cells #[.int .i64 r48.2.1] 22 (0, 0))) :: (pto b54 (.cells #[.int .i64 r334.2.Hi, .int .u64 r334.2.Lo] 87 (0, 0))) :: (pto b22 (.cells #[.int .i64 a1.Rows, .int .i64 a1.Cols, .slice p1 a1.Start.length c2, .slice p4 a1.Col.length c5, .slice p7 a1.Val.length c8] 35 (0, 0))) :: (pto b24 (.cells #[.int .i64 a3.N, .slice p10 a3.Has.length c11, .slice p13 a3.Vals.length c14] 62 (0, 0))) :: (pto b26 (.cells #[.int .i64 0, .int .u64 0] 87 (0, 0))) :: ex) r (.some (fun ex => (pto b52 (.cells #[.bool r334.1] 4 (0, 0))) :: (pto b53 (.cells #[.int .i64 r48.2.1] 22 (0, 0))) :: (pto b54 (.cells #[.int .i64 r334.2.Hi, .int .u64 r334.2.Lo] 87 (0, 0))) :: (pto b22 (.cells #[.int .i64 a1.Rows, .int .i64 a1.Cols, .slice p1 a1.Start.length c2, .slice p4 a1.Col.length c5, .slice p7 a1.Val.length c8] 35 (0, 0))) :: (pto b24 (.cells #[.int .i64 a3.N, .slice p10 a3.Has.length c11, .slice p13 a3.Vals.length c14] 62 (0, 0))) :: (pto b26 (.cells #[.int .i64 0, .int .u64 0] 87 (0, 0))) :: ex) r (fun _ _ => (.s (.s (.s (.s (.s (.s .z))))))) r trivial (.e 14 (by kernel_rfl) (by kernel_rfl) (by kernel_rfl) (.nilS [12, 11, 10, 8, 7, 5, 2, 0] r r (.region (.skips 1 r (.add r r r r (.sub (E' := [(0, _), (2, _), (5, _), (7, _), (8, _), (10, _), (11, _), (32, _), (33, _)]) ⟨r, r, r, r, r, r, r, r, r, trivial⟩ (.skips 1 r (.nil' fun c w ho hs => ⟨(r334.1, r334.2.Hi, r334.2.Lo, w64 (s253 + 1)), hd, I329, le340, ho.sub ⟨r, r, r, r, r, r, r, r, trivial⟩, hs.pick (.c (.s (.s (.s .z))) (.c (.s (.s (.s .z))) (.c (.s (.s (.s .z))) (.c .z (.c .z (.c .z .n))))))⟩)))))))))
   exact .skipS [12, 11, 10, 8, 7, 5, 2, 0] r r (.region (.skips 1 r (.add r r r r (.sub (E' := [(0, _), (2, _), (5, _), (7, _), (8, _), (10, _), (11, _), (32, _), (33, _)]) ⟨r, r, r, r, r, r, r, r, r, trivial⟩ (.skips 1 r (.nil' fun c w ho hs => ⟨(s250, s251, s252, w64 (s253 + 1)), hd, I255, le258, ho.sub ⟨r, r, r, r, r, r, r, r, trivial⟩, hs.pick (.c .z (.c .z (.c .z (.c .z (.c .z (.c .z .n))))))⟩))))))
 refine .exitS [11, 8] r r (.drop .z (.drop .z (.drop (.s (.s .z)) (.seq (.region (.skips 1 r ?_))))))
 have hw341 := W_pull_adder_2_cdb (I := I255) (o0 := ({ Hi := s251, Lo := s252 } : Wide)) (o1 := s250) (b3 := b54) (b4 := b52) hd
 refine .callS (.c call157 r r) (.c (.s (.s .z)) (.c (.s .z) .n)) hw341 r r fun v345 I342 l346 hl343 hv344 => ?_
 obtain ⟨r347, rfl, rfl, hd⟩ := hv344
 have le348 := IH.le.trans le257 hl343
 have le349 := IH.le.trans le258 hl343
 exact .re (m' := [pto b54 (.cells #[.int .i64 s251, .int .u64 s252] 87 (0, 0)), pto b52 (.cells #[.bool s250] 4 (0, 0)), pto b26 (.cells #[.int .i64 0, .int .u64 0] 87 (0, 0))]) r (.extract r r r r (.extract r r r r (.storeA sizeOf87 r r (.s (.s .z)) (.t (.t .nil)) r r (.skips 1 r (.nilS [9, 8] r r (.drop .z (.drop .z (.ret (pret results66 (.w isAgg87 sizeOf87 r .z r (.t r .n)) le348 ⟨(r347.1, r347.2), r, hd⟩)))))))))

theorem W_pull_asked_064 {I : IH} {a0 : Int} {a1 : List Int} {a2 : Bool} {p1 : Option Addr} {c2 : Nat} {Q : (Int × (List Int) × Bool) → Prop} (R3 : RepSl eU64 I p1 c2 a1) (hd : pull_asked_064 a0 a1 a2 Q) :
    Fun Tryz.prog 65 #[.int .i64 a0, .slice p1 a1.length c2, .bool a2] I [] (fun I_ v l => ∃ r b4 b5 p6 c7 b9, v = .func (.func 113) #[] #[.pointer (some ⟨b4, 0, none⟩), .pointer (some ⟨b5, 0, none⟩), .pointer (some ⟨b9, 0, none⟩)] ∧ RepSl eU64 I_ p6 c7 r.2.1 ∧ l = [pto b4 (.cells #[.int .i64 r.1] 3 (0, 0)), pto b5 (.cells #[.slice p6 r.2.1.length c7] 26 (0, 0)), pto b9 (.cells #[.bool r.2.2] 4 (0, 0))] ∧ Q r) := by
 refine Fun.enter (vs := [.int .i64 a0, .slice p1 a1.length c2, .bool a2]) func65 r ntmps65 r (.c (.c (.c .n))) fun w0 M => ?_
 refine .seq (.region (.box1 r r r r fun b4 => ?_))
 refine .box1 r r r r fun b6 => ?_
 refine .box1 r r r r fun b8 => ?_
 exact .skips 1 r (.nilS [5, 4, 3] r r (.seq (.region (.mkFn r r r r (.skips 1 r (.nilS [6] r r (.ret (oret results65 (.t r .n) (.refl _) (.c (.s (.s .z)) (.c (.s .z) (.c .z .n))) ⟨(a0, a1, a2), _, _, _, _, _, r, R3, r, hd⟩))))))))

theorem W_pull_asked_1_839 {I : IH} {o0 : Nat} {o1 : Int} {o2 : Rows} {o3 : Dense} {o4 : List Sum} {o5 : Int} {o6 : List Int} {o7 : Bool} {Y : Nat → Int → Rows → Dense → (List Sum) → Int → ((Bool × Nat × (List Sum)) → Prop) → Prop} {b9 : Nat} {b10 : Nat} {p11 : Option Addr} {c12 : Nat} {p14 : Option Addr} {c15 : Nat} {p17 : Option Addr} {c18 : Nat} {b20 : Nat} {p21 : Option Addr} {c22 : Nat} {p24 : Option Addr} {c25 : Nat} {b27 : Nat} {p28 : Option Addr} {c29 : Nat} {b32 : Nat} {b33 : Nat} {p34 : Option Addr} {c35 : Nat} {b37 : Nat} {lr : Nat} {Rr : Nat → HA} {Q : (Nat × (List Sum)) → Prop} (hY : ∀ {J_ : IH}, I.le J_ → ∀ {y38 : Nat} {y39 : Int} {y41 : Rows} {y52 : Dense} {y60 : List Sum} {x66 : Int} {p43 : Option Addr} {c44 : Nat} {p46 : Option Addr} {c47 : Nat} {p49 : Option Addr} {c50 : Nat} {p54 : Option Addr} {c55 : Nat} {p57 : Option Addr} {c58 : Nat} {p62 : Option Addr} {c63 : Nat} {Qy : (Bool × Nat × (List Sum)) → Prop}, RepSl eI64 J_ p43 c44 y41.Start → RepSl eI64 J_ p46 c47 y41.Col → RepSl eI64 J_ p49 c50 y41.Val → RepSl eU64 J_ p54 c55 y52.Has → RepSl eI64 J_ p57 c58 y52.Vals → Y y38 y39 y41 y52 y60 x66 Qy → RFun Tryz.prog lr [.int .i64 x66] J_ [Rr y38, pto b9 (.cells #[.int .i64 y39] 22 (0, 0)), pto b10 (.cells #[.int .i64 y41.Rows, .int .i64 y41.Cols, .slice p43 y41.Start.length c44, .slice p46 y41.Col.length c47, .slice p49 y41.Val.length c50] 35 (0, 0)), pto b20 (.cells #[.int .i64 y52.N, .slice p54 y52.Has.length c55, .slice p57 y52.Vals.length c58] 62 (0, 0)), pto b27 (.cells #[.slice p62 y60.length c63] 41 (0, 0)), OwnSl eSum 89 p62 c63 y60] (fun I_ v l => ∃ r p68 c69, v = .bool r.1 ∧ l = [Rr r.2.1, pto b9 (.cells #[.int .i64 y39] 22 (0, 0)), pto b10 (.cells #[.int .i64 y41.Rows, .int .i64 y41.Cols, .slice p43 y41.Start.length c44, .slice p46 y41.Col.length c47, .slice p49 y41.Val.length c50] 35 (0, 0)), pto b20 (.cells #[.int .i64 y52.N, .slice p54 y52.Has.length c55, .slice p57 y52.Vals.length c58] 62 (0, 0)), pto b27 (.cells #[.slice p68 r.2.2.length c69] 41 (0, 0)), OwnSl eSum 89 p68 c69 r.2.2] ∧ Qy r)) (R13 : RepSl eI64 I p11 c12 o2.Start) (R16 : RepSl eI64 I p14 c15 o2.Col) (R19 : RepSl eI64 I p17 c18 o2.Val) (R23 : RepSl eU64 I p21 c22 o3.Has) (R26 : RepSl eI64 I p24 c25 o3.Vals) (R36 : RepSl eU64 I p34 c35 o6) (hd : pull_asked_1_839 o0 o1 o2 o3 o4 o5 o6 o7 Y Q) :
    Fun Tryz.prog 113 #[.func (.yield lr) #[] #[], .pointer (some ⟨b32, 0, none⟩), .pointer (some ⟨b33, 0, none⟩), .pointer (some ⟨b37, 0, none⟩)] I [Rr o0, pto b9 (.cells #[.int .i64 o1] 22 (0, 0)), pto b10 (.cells #[.int .i64 o2.Rows, .int .i64 o2.Cols, .slice p11 o2.Start.length c12, .slice p14 o2.Col.length c15, .slice p17 o2.Val.length c18] 35 (0, 0)), pto b20 (.cells #[.int .i64 o3.N, .slice p21 o3.Has.length c22, .slice p24 o3.Vals.length c25] 62 (0, 0)), pto b27 (.cells #[.slice p28 o4.length c29] 41 (0, 0)), OwnSl eSum 89 p28 c29 o4, pto b32 (.cells #[.int .i64 o5] 3 (0, 0)), pto b33 (.cells #[.slice p34 o6.length c35] 26 (0, 0)), pto b37 (.cells #[.bool o7] 4 (0, 0))] (fun I_ v l => ∃ r p39 c40, v = .tuple #[] ∧ l = [Rr r.1, pto b9 (.cells #[.int .i64 o1] 22 (0, 0)), pto b10 (.cells #[.int .i64 o2.Rows, .int .i64 o2.Cols, .slice p11 o2.Start.length c12, .slice p14 o2.Col.length c15, .slice p17 o2.Val.length c18] 35 (0, 0)), pto b20 (.cells #[.int .i64 o3.N, .slice p21 o3.Has.length c22, .slice p24 o3.Vals.length c25] 62 (0, 0)), pto b27 (.cells #[.slice p39 r.2.length c40] 41 (0, 0)), OwnSl eSum 89 p39 c40 r.2, pto b32 (.cells #[.int .i64 o5] 3 (0, 0)), pto b33 (.cells #[.slice p34 o6.length c35] 26 (0, 0)), pto b37 (.cells #[.bool o7] 4 (0, 0))] ∧ Q r) := by
 refine Fun.enter (vs := [.func (.yield lr) #[] #[], .pointer (some ⟨b32, 0, none⟩), .pointer (some ⟨b33, 0, none⟩), .pointer (some ⟨b37, 0, none⟩)]) func113 r ntmps113 r (.c (.c (.c (.c .n)))) fun w0 M => ?_
 refine .seq (.region (.load1 isAgg3 r (.s (.s (.s (.s (.s (.s .z)))))) r r r (.skips 1 r (.nilS [7, 6, 3, 2, 1, 0] r r (.block (.loop hd (fun (s : (List Sum) × Int × Nat) c w => match s with | (s131, s135, s136) => ∃ I_ p132 c133, IH.le I I_ ∧ Ok ⟨22, [], none⟩ [(0, .func (.yield lr) #[] #[]), (1, .pointer (some ⟨b32, 0, none⟩)), (2, .pointer (some ⟨b33, 0, none⟩)), (3, .pointer (some ⟨b37, 0, none⟩)), (6, .int .i64 o5), (7, .int .i64 s135)] c ∧ Sym w0 M I I_ [pto b9 (.cells #[.int .i64 o1] 22 (0, 0)), pto b10 (.cells #[.int .i64 o2.Rows, .int .i64 o2.Cols, .slice p11 o2.Start.length c12, .slice p14 o2.Col.length c15, .slice p17 o2.Val.length c18] 35 (0, 0)), pto b20 (.cells #[.int .i64 o3.N, .slice p21 o3.Has.length c22, .slice p24 o3.Vals.length c25] 62 (0, 0)), pto b27 (.cells #[.slice p132 s131.length c133] 41 (0, 0)), OwnSl eSum 89 p132 c133 s131, pto b32 (.cells #[.int .i64 o5] 3 (0, 0)), pto b33 (.cells #[.slice p34 o6.length c35] 26 (0, 0)), pto b37 (.cells #[.bool o7] 4 (0, 0)), Rr s136] w) (fun c w ho hs => ⟨I, _, _, (.refl _), ho.sub ⟨r, r, r, r, r, r, trivial⟩, hs.pick (.c (.s .z) (.c (.s .z) (.c (.s .z) (.c (.s .z) (.c (.s .z) (.c (.s .z) (.c (.s .z) (.c (.s .z) (.c .z .n)))))))))⟩) ?_))))))
 rintro ⟨s131, s135, s136⟩ next137 hd c w hst
 obtain ⟨I138, p132, c133, hl139, hok, hsym⟩ := hst
 have le140 := IH.le.trans (.refl _) hl139
 replace R13 := R13.mono hl139
 replace R16 := R16.mono hl139
 replace R19 := R19.mono hl139
 replace R23 := R23.mono hl139
 replace R26 := R26.mono hl139
 replace R36 := R36.mono hl139
 refine Cod.at hok hsym (.seq (.region (.lt r r r r (.nilS [8, 7, 6, 3, 2, 1, 0] r r (.seq (.condP r hd (fun hb142 hd => ?_) fun hb142 hd => ?_))))))
 · refine .skipS [7, 6, 3, 2, 1, 0] r r (.seq (.block (.seq (.region (.skips 2 r (.nilS [5, 7, 6, 3, 2, 1, 0] r r (.seq (.draw [some 0, some 1, some 3, some 2, some 4, some 5, some 6, some 7, some 8, some 9, some 10] 11 MX (by kernel_rfl) (by kernel_rfl) (by kernel_rfl) (by kernel_rfl) (by kernel_rfl) (by kernel_rfl) (by kernel_rfl) (fun ex => (pto b9 (.cells #[.int .i64 o1] 22 (0, 0))) :: (pto b10 (.cells #[.int .i64 o2.Rows, .int .i64 o2.Cols, .slice p11 o2.Start.length c12, .slice p14 o2.Col.length c15, .slice p17 o2.Val.length c18] 35 (0, 0))) :: (pto b20 (.cells #[.int .i64 o3.N, .slice p21 o3.Has.length c22, .slice p24 o3.Vals.length c25] 62 (0, 0))) :: (pto b27 (.cells #[.slice p132 s131.length c133] 41 (0, 0))) :: (OwnSl eSum 89 p132 c133 s131) :: (pto b32 (.cells #[.int .i64 o5] 3 (0, 0))) :: (pto b33 (.cells #[.slice p34 o6.length c35] 26 (0, 0))) :: (pto b37 (.cells #[.bool o7] 4 (0, 0))) :: (Rr s136) :: ex) (fun _ _ => (.s (.s (.s (.s (.s (.s (.s (.s (.s .z)))))))))) r (.f [] r (by kernel_rfl) r r (fun ex => .load1 isAgg26 r (.s (.s (.s (.s (.s (.s .z)))))) r r r .mk) ?_)))))))))
   refine .fs [[]] r (by kernel_rfl) (.f [] r (by kernel_rfl) r r (fun ex => .load1 isAgg4 r (.s (.s (.s (.s (.s (.s (.s .z))))))) r r r .mk) (.w [3] [[], []] [0, 1] r (by kernel_rfl) (by kernel_rfl) (by kernel_rfl) ((dropE_kept r r)) (.inr (dropE_kept r r)) fun ex => ?_))
   have hw144 := W_flags_Has (I := I138) R36 hd
   refine .callP call74 r hw144 r r fun v145 hv146 => ?_
   obtain ⟨r143, rfl, hd⟩ := hv146
   refine .some (fun ex => (pto b9 (.cells #[.int .i64 o1] 22 (0, 0))) :: (pto b10 (.cells #[.int .i64 o2.Rows, .int .i64 o2.Cols, .slice p11 o2.Start.length c12, .slice p14 o2.Col.length c15, .slice p17 o2.Val.length c18] 35 (0, 0))) :: (pto b20 (.cells #[.int .i64 o3.N, .slice p21 o3.Has.length c22, .slice p24 o3.Vals.length c25] 62 (0, 0))) :: (pto b27 (.cells #[.slice p132 s131.length c133] 41 (0, 0))) :: (OwnSl eSum 89 p132 c133 s131) :: (pto b32 (.cells #[.int .i64 o5] 3 (0, 0))) :: (pto b33 (.cells #[.slice p34 o6.length c35] 26 (0, 0))) :: (pto b37 (.cells #[.bool o7] 4 (0, 0))) :: (Rr s136) :: ex) r (fun _ _ => (.s (.s (.s (.s (.s (.s (.s (.s (.s .z)))))))))) r (.cc [] r (by kernel_rfl) r r r (fun ex => .load1 isAgg4 r (.s (.s (.s (.s (.s (.s (.s .z))))))) r r r .mk) trivial) (.f [2, 3] r (by kernel_rfl) r r (fun ex => .neB underlying4 r r r r .mk) (.fs [[4, 2]] r (by kernel_rfl) ?_))
   refine splitP hd (fun hb147 hd => ?_) fun hb147 hd => ?_
   · refine .f [5] r (by kernel_rfl) r r (fun ex => .gyes r r hb147 (.move r r r .mk)) (.f [5] r (by kernel_rfl) r r (fun ex => .gyes r r hb147 (.move r r r .mk)) (.w [] [[], [], [], [5], [4, 5]] [6, 7, 5, 5] r (by kernel_rfl) (by kernel_rfl) (by kernel_rfl) ((dropE_kept r r)) (.inr (dropE_kept r r)) fun ex => ?_))
     have hw148 := hY (J_ := I138) le140 (y38 := s136) (y39 := o1) (y41 := o2) (y52 := o3) (y60 := s131) (x66 := s135) (p43 := p11) (c44 := c12) (p46 := p14) (c47 := c15) (p49 := p17) (c50 := c18) (p54 := p21) (c55 := c22) (p57 := p24) (c58 := c25) (p62 := p132) (c63 := c133) R13 R16 R19 R23 R26 hd
     refine .gyes r r hb147 (.callY r r (.c (.s (.s (.s (.s (.s (.s (.s (.s .z)))))))) (.c .z (.c .z (.c .z (.c .z (.c .z .n)))))) hw148 r r fun v152 I149 l153 hl150 hv151 => ?_)
     obtain ⟨r154, p158, c159, rfl, rfl, hd⟩ := hv151
     have le162 := IH.le.trans le140 hl150
     replace R13 := R13.mono hl150
     replace R16 := R16.mono hl150
     replace R19 := R19.mono hl150
     replace R23 := R23.mono hl150
     replace R26 := R26.mono hl150
     replace R36 := R36.mono hl150
     refine .re (m' := (Rr r154.2.1) :: (pto b9 (.cells #[.int .i64 o1] 22 (0, 0))) :: (pto b10 (.cells #[.int .i64 o2.Rows, .int .i64 o2.Cols, .slice p11 o2.Start.length c12, .slice p14 o2.Col.length c15, .slice p17 o2.Val.length c18] 35 (0, 0))) :: (pto b20 (.cells #[.int .i64 o3.N, .slice p21 o3.Has.length c22, .slice p24 o3.Vals.length c25] 62 (0, 0))) :: (pto b27 (.cells #[.slice p158 r154.2.2.length c159] 41 (0, 0))) :: (OwnSl eSum 89 p158 c159 r154.2.2) :: (pto b32 (.cells #[.int .i64 o5] 3 (0, 0))) :: (pto b33 (.cells #[.slice p34 o6.length c35] 26 (0, 0))) :: (pto b37 (.cells #[.bool o7] 4 (0, 0))) :: ex) r (.some (fun ex => (Rr r154.2.1) :: (pto b9 (.cells #[.int .i64 o1] 22 (0, 0))) :: (pto b10 (.cells #[.int .i64 o2.Rows, .int .i64 o2.Cols, .slice p11 o2.Start.length c12, .slice p14 o2.Col.length c15, .slice p17 o2.Val.length c18] 35 (0, 0))) :: (pto b20 (.cells #[.int .i64 o3.N, .slice p21 o3.Has.length c22, .slice p24 o3.Vals.length c25] 62 (0, 0))) :: (pto b27 (.cells #[.slice p158 r154.2.2.length c159] 41 (0, 0))) :: (OwnSl eSum 89 p158 c159 r154.2.2) :: (pto b32 (.cells #[.int .i64 o5] 3 (0, 0))) :: (pto b33 (.cells #[.slice p34 o6.length c35] 26 (0, 0))) :: (pto b37 (.cells #[.bool o7] 4 (0, 0))) :: ex) r (fun _ _ => (.s (.s (.s (.s (.s (.s (.s (.s (.s .z)))))))))) r trivial (.f [8, 5] r (by kernel_rfl) r r (fun ex => .gyes r r hb147 (.not r r r .mk)) (.f [5, 9] r (by kernel_rfl) r r (fun ex => .pickT r hb147 r r r .mk) (.e 11 (by kernel_rfl) (by kernel_rfl) (by kernel_rfl) (.nilS [20, 7, 6, 3, 2, 1, 0] r r (.condP r hd (fun hb163 hd => ?_) fun hb163 hd => ?_))))))
     · exact .ret (oret results113 .n le162 (.c .z (.c .z (.c .z (.c .z (.c .z (.c .z (.c .z (.c .z (.c .z .n))))))))) ⟨(r154.2.1, r154.2.2), _, _, r, r, hd⟩)
     exact .skipS [7, 6, 3, 2, 1, 0] r r (.region (.add r r r r (.sub (E' := [(0, _), (1, _), (2, _), (3, _), (6, _), (21, _)]) ⟨r, r, r, r, r, r, trivial⟩ (.skips 1 r (.nil' fun c w ho hs => ⟨(r154.2.2, w64 (s135 + 1), r154.2.1), hd, I149, _, _, le162, ho.sub ⟨r, r, r, r, r, r, trivial⟩, hs.pick (.c (.s .z) (.c (.s .z) (.c (.s .z) (.c (.s .z) (.c (.s .z) (.c (.s .z) (.c (.s .z) (.c (.s .z) (.c .z .n)))))))))⟩)))))
   refine .f [5] r (by kernel_rfl) r r (fun ex => .gno r r hb147 r r .mk) (.f [5] r (by kernel_rfl) r r (fun ex => .gno r r hb147 r r .mk) (.f [6, 7, 5, 5] r (by kernel_rfl) r r (fun ex => .gno r r hb147 r r .mk) (.f [8, 5] r (by kernel_rfl) r r (fun ex => .gno r r hb147 r r .mk) (.f [5, 9] r (by kernel_rfl) r r (fun ex => .pickF r hb147 r r r .mk) (.e 11 (by kernel_rfl) (by kernel_rfl) (by kernel_rfl) (.nilS [20, 7, 6, 3, 2, 1, 0] r r (.condKF r r (.skipS [7, 6, 3, 2, 1, 0] r r (.region ?_)))))))))
   exact .add r r r r (.sub (E' := [(0, _), (1, _), (2, _), (3, _), (6, _), (21, _)]) ⟨r, r, r, r, r, r, trivial⟩ (.skips 1 r (.nil' fun c w ho hs => ⟨(s131, w64 (s135 + 1), s136), hd, I138, _, _, le140, ho.sub ⟨r, r, r, r, r, r, trivial⟩, hs.pick (.c .z (.c .z (.c .z (.c .z (.c .z (.c .z (.c .z (.c .z (.c .z .n)))))))))⟩)))
 exact .exit (oretN results113 .n le140 (.c (.s (.s (.s (.s (.s (.s (.s (.s .z)))))))) (.c .z (.c .z (.c .z (.c .z (.c .z (.c .z (.c .z (.c .z .n))))))))) ⟨(s136, s131), _, _, r, r, hd⟩)

theorem W_pull_Sums {I : IH} {a0 : Int} {a1 : Rows} {a2 : Dense} {a3 : List Int} {a4 : Bool} {p1 : Option Addr} {c2 : Nat} {p4 : Option Addr} {c5 : Nat} {p7 : Option Addr} {c8 : Nat} {p10 : Option Addr} {c11 : Nat} {p13 : Option Addr} {c14 : Nat} {p16 : Option Addr} {c17 : Nat} {Q : ((List Sum) × Int) → Prop} (R3 : RepSl eI64 I p1 c2 a1.Start) (R6 : RepSl eI64 I p4 c5 a1.Col) (R9 : RepSl eI64 I p7 c8 a1.Val) (R12 : RepSl eU64 I p10 c11 a2.Has) (R15 : RepSl eI64 I p13 c14 a2.Vals) (R18 : RepSl eU64 I p16 c17 a3) (hd : pull_Sums a0 a1 a2 a3 a4 Q) :
    PFun Tryz.prog 26 [.int .i64 a0, .agg #[.int .i64 a1.Rows, .int .i64 a1.Cols, .slice p1 a1.Start.length c2, .slice p4 a1.Col.length c5, .slice p7 a1.Val.length c8], .agg #[.int .i64 a2.N, .slice p10 a2.Has.length c11, .slice p13 a2.Vals.length c14], .slice p16 a3.length c17, .bool a4] I (fun I_ v => ∃ r p19 c20, v = .tuple #[.slice p19 r.1.length c20, .int .i64 r.2] ∧ RepSl eSum I_ p19 c20 r.1 ∧ Q r) := by
 refine Fun.enter func26 r ntmps26 r (.c (.c (.c (.c (.c .n))))) fun w0 M => ?_
 refine .marks0 (.seq (.region (.box1 r r r r fun b28 => ?_)))
 refine .boxA r r r fun b30 => ?_
 refine .boxA r r r fun b32 => ?_
 refine .skips 2 r (.nilS [7, 6, 5, 4, 3] r r (.seq (.region (.loadW isAgg35 sizeOf35 r (.s .z) r r r (.loadW isAgg62 sizeOf62 r .z r r r ?_)))))
 have hw78 := W_pull_sure (I := I) R3 R6 R9 R12 R15 hd
 refine .call call64 r hw78 r r fun v61 I58 hl59 hv60 => ?_
 obtain ⟨r57, p63, c64, p66, c67, p69, c70, p72, c73, p75, c76, rfl, R65, R68, R71, R74, R77, hd⟩ := hv60
 have le79 := IH.le.trans (.refl _) hl59
 replace R3 := R3.mono hl59
 replace R6 := R6.mono hl59
 replace R9 := R9.mono hl59
 replace R12 := R12.mono hl59
 replace R15 := R15.mono hl59
 replace R18 := R18.mono hl59
 refine .skips 1 r (.extract r r r r (.extract r r r r (.storeA sizeOf35 r r (.s .z) (.t (.t (.t (.t (.t .nil))))) r r (.storeA sizeOf62 r r .z (.t (.t (.t .nil))) r r (.nilS [7, 6, 5, 4, 3] r r (.seq (.block (.seq (.region ?_)))))))))
 refine .load1 isAgg22 r (.s (.s .z)) r r r ?_
 have hw95 := W_ring_Is (I := I58) hd
 refine .callP call36 r hw95 r r fun v96 hv97 => ?_
 obtain ⟨r94, rfl, hd⟩ := hv97
 refine .not r r r (.skips 1 r (.nilS [22, 7, 6, 5, 4, 3] r r (.condP r hd (fun hb98 hd => ?_) fun hb98 hd => ?_)))
 · exact .seq (.region (.skips 2 r (.nilS [11, 10] r r (.drop .z (.drop .z (.drop .z (.ret (pretM .z results26 (.t r (.t r .n)) le79 ⟨(([] : List Sum), 8), _, _, r, (.nil _ _ _), hd⟩))))))))
 refine .seq (.region (.fieldAddr underlying62 r sizeOf3 r (o := 0) r r r (.load1 isAgg3 r .z r r r (.fieldAddr underlying35 r sizeOf3 r (o := 1) r r r (.load1 isAgg3 r (.s .z) r r r (.ne r r r r (.skips 1 r (.nilS [26, 7, 6, 5, 4, 3] r r (.condP r hd (fun hb99 hd => ?_) fun hb99 hd => ?_)))))))))
 · exact .seq (.region (.skips 2 r (.nilS [11, 10] r r (.drop .z (.drop .z (.drop .z (.ret (pretM .z results26 (.t r (.t r .n)) le79 ⟨(([] : List Sum), 4), _, _, r, (.nil _ _ _), hd⟩))))))))
 refine .skipS [7, 6, 5, 4, 3] r r (.seq (.region (.alloc1 zeroValue41 r r r fun b102 => ?_)))
 refine .nilS [12, 7, 6, 5, 4, 3] r r (.seq (.seq (.region (.fieldAddr underlying35 r sizeOf3 r (o := 0) r r r (.load1 isAgg3 r (.s (.s .z)) r r r (.skips 2 r ?_))))))
 have hw121 := W_pull_asked_064 (I := I58) (a0 := r57.1.Rows) (a1 := a3) (a2 := a4) R18 hd
 refine .callS (.f call65 r) .n hw121 r r fun v125 I122 l126 hl123 hv124 => ?_
 obtain ⟨r127, b131, b132, p133, c134, b136, rfl, R135, rfl, hd⟩ := hv124
 have le137 := IH.le.trans le79 hl123
 replace R18 := R18.mono hl123
 replace R65 := R65.mono hl123
 replace R68 := R68.mono hl123
 replace R71 := R71.mono hl123
 replace R74 := R74.mono hl123
 replace R77 := R77.mono hl123
 refine .re (m' := [pto b131 (.cells #[.int .i64 r127.1] 3 (0, 0)), pto b132 (.cells #[.slice p133 r127.2.1.length c134] 26 (0, 0)), pto b136 (.cells #[.bool r127.2.2] 4 (0, 0)), pto b102 (.cells #[.slice none 0 0] 41 (0, 0)), pto b32 (.cells #[.int .i64 r57.2.N, .slice p72 r57.2.Has.length c73, .slice p75 r57.2.Vals.length c76] 62 (0, 0)), pto b30 (.cells #[.int .i64 r57.1.Rows, .int .i64 r57.1.Cols, .slice p63 r57.1.Start.length c64, .slice p66 r57.1.Col.length c67, .slice p69 r57.1.Val.length c70] 35 (0, 0)), pto b28 (.cells #[.int .i64 a0] 22 (0, 0)), Marks ([])]) r (.nilS [36, 12, 7, 6, 5] r r (.block (.own0 eSum 89 (.rangeF [] r call113 (.c (.s (.s (.s (.s (.s (.s (.s (.s .z)))))))) (.c (.s (.s (.s (.s (.s (.s (.s .z))))))) (.c (.s (.s (.s (.s (.s (.s .z)))))) (.c (.s (.s (.s (.s (.s .z))))) (.c (.s (.s (.s (.s .z)))) (.c .z (.c .z (.c .z (.c .z .n))))))))) fun lr D rc hrc => ?_))))
 refine ⟨_, W_pull_asked_1_839 (I := I122) (lr := lr) (Rr := recA lr [] rc) (o0 := 0) (o1 := a0) (o2 := r57.1) (o3 := r57.2) (o4 := ([] : List Sum)) (o5 := r127.1) (o6 := r127.2.1) (o7 := r127.2.2) (b9 := b28) (b10 := b30) (p11 := p63) (c12 := c64) (p14 := p66) (c15 := c67) (p17 := p69) (c18 := c70) (b20 := b32) (p21 := p72) (c22 := c73) (p24 := p75) (c25 := c76) (b27 := b102) (p28 := none) (c29 := 0) (b32 := b131) (b33 := b132) (p34 := p133) (c35 := c134) (b37 := b136) ?_ R65 R68 R71 R74 R77 R135 hd, ?_⟩
 · skip
   intro I hJ y236 y237 y239 y250 y258 x264 p241 c242 p244 c245 p247 c248 p252 c253 p255 c256 p260 c261 Qy R243 R246 R249 R254 R257 hd
   replace R65 := R65.mono hJ
   replace R68 := R68.mono hJ
   replace R71 := R71.mono hJ
   replace R74 := R74.mono hJ
   replace R77 := R77.mono hJ
   replace R135 := R135.mono hJ
   obtain ⟨rfl, hd⟩ := hd
   refine RFun.mk hrc r fun w0 M => ?_
   refine .region (.skips 1 r (.nil' fun c w ho hs => beginR (E' := [(5, _), (6, _), (7, _), (12, _), (13, _)]) ho ⟨r, r, r, r, r, trivial⟩ hs .z (.block (.seq (.region (.load1 isAgg22 r (.s .z) r r r (.loadW isAgg35 sizeOf35 r (.s (.s .z)) r r r (.skips 1 r (.loadW isAgg62 sizeOf62 r (.s (.s (.s .z))) r r r ?_)))))))))
   have hw272 := W_pull_row (I := I) R243 R246 R249 R254 R257 hd
   refine .callP call66 r hw272 r r fun v273 hv274 => ?_
   obtain ⟨r271, rfl, hd⟩ := hv274
   refine .skips 1 r (.extract r r r r (.extract r r r r (.allocA zeroValue87 r r fun b275 => ?_)))
   refine .storeA sizeOf87 r r .z (.t (.t .nil)) r r (.skips 1 r (.nilS [15, 14, 13, 12] r r (.seq (.region (.skips 1 r (.nilS [46, 14, 13, 12] r r (.condP r hd (fun hb277 hd => ?_) fun hb277 hd => ?_)))))))
   · refine .region (.load1 isAgg41 r (.s (.s (.s (.s (.s .z))))) r r r (.skips 1 r (.loadW isAgg87 sizeOf87 r .z r r r (.build zeroValue89 underlying89 BI89 (.c r r r (.t .nil) (.c r r r (.s (.t (.t .nil))) .n)) (by exact ⟨⟨_, _, r, r, r⟩, ⟨⟨_, _, r, r, r⟩, trivial⟩⟩) r r (.buildSlice 1 underlying41 sizeOf89 zeroValue89 r r (.c r r r .n) r r fun b278 => ?_)))))
     obtain ⟨hl280, hd⟩ := hd
     refine .append (ys := [({ At := x264, Val := r271.1 } : Sum)]) 24 (.s (.s (.s (.s (.s (.s (.s .z))))))) underlying41 underlying41 IN89 r r r r r r r r r (.box .z (.one r) r) hl280 r r fun p281 c282 => ?_
     refine .store1 sizeOf41 r r (.s (.s (.s (.s (.s (.s (.s .z))))))) (.t .nil) r ?_
     exact .nil' fun c w ho hs => endR 0 (.inl rfl) (.refl _) (.s (.s (.s .z))) (.c (.s (.s (.s .z))) (.c (.s (.s (.s .z))) (.c (.s (.s (.s .z))) (.c (.s (.s (.s .z))) (.c .z .n))))) ⟨(true, 0, (y258 ++ ([({ At := x264, Val := r271.1 } : Sum)]))), _, _, rfl, rfl, hd⟩ hs
   exact .skip' fun c w ho hs => endR 0 (.inl rfl) (.refl _) (.s .z) (.c (.s .z) (.c (.s .z) (.c (.s .z) (.c (.s .z) (.c (.s .z) .n))))) ⟨(true, 0, y258), _, _, rfl, rfl, hd⟩ hs
 intro v287 I284 l' hl285 hv286
 obtain ⟨r288, p292, c293, rfl, rfl, hd⟩ := hv286
 have le296 := IH.le.trans le137 hl285
 replace R65 := R65.mono hl285
 replace R68 := R68.mono hl285
 replace R71 := R71.mono hl285
 replace R74 := R74.mono hl285
 replace R77 := R77.mono hl285
 replace R135 := R135.mono hl285
 obtain ⟨hz, hd⟩ := hd
 refine ⟨_, _, r, fun hj => ?_, fun i hj => absurd (hz.symm.trans hj) (by simp)⟩
 refine .re (m' := [Marks (D :: []), pto b28 (.cells #[.int .i64 a0] 22 (0, 0)), pto b30 (.cells #[.int .i64 r57.1.Rows, .int .i64 r57.1.Cols, .slice p63 r57.1.Start.length c64, .slice p66 r57.1.Col.length c67, .slice p69 r57.1.Val.length c70] 35 (0, 0)), pto b32 (.cells #[.int .i64 r57.2.N, .slice p72 r57.2.Has.length c73, .slice p75 r57.2.Vals.length c76] 62 (0, 0)), pto b102 (.cells #[.slice p292 r288.2.length c293] 41 (0, 0)), OwnSl eSum 89 p292 c293 r288.2, pto b131 (.cells #[.int .i64 r127.1] 3 (0, 0)), pto b132 (.cells #[.slice p133 r127.2.1.length c134] 26 (0, 0)), pto b136 (.cells #[.bool r127.2.2] 4 (0, 0))]) r (.mkS [12] r r (.drop (.s .z) (.drop (.s .z) (.drop (.s .z) (.drop (.s (.s (.s .z))) (.drop (.s (.s (.s .z))) (.drop (.s (.s (.s .z))) (.seq (.region ?_)))))))))
 refine .load1 isAgg41 r (.s .z) r r r (.skips 2 r (.nilS [11, 10] r r (.drop (.s .z) (.pub (.s .z) fun I297 hl298 R299 => ?_))))
 have le300 := IH.le.trans le296 hl298
 exact .ret (pretM .z results26 (.t r (.t r .n)) le300 ⟨(r288.2, 0), _, _, r, R299, hd⟩)

theorem W_flags_Of {I : IH} {a0 : Int} {a1 : List Int} {p1 : Option Addr} {c2 : Nat} {Q : (List Int) → Prop} (R3 : RepSl eI64 I p1 c2 a1) (hd : flags_Of a0 a1 Q) :
    PFun Tryz.prog 69 [.int .i64 a0, .slice p1 a1.length c2] I (fun I_ v => ∃ r p4 c5, v = .slice p4 r.length c5 ∧ RepSl eU64 I_ p4 c5 r ∧ Q r) := by
 refine Fun.enter func69 r ntmps69 r (.c (.c .n)) fun w0 M => ?_
 refine .seq (.region (.skips 1 r (.nilS [1, 0] r r (.seq (.region (.skips 1 r ?_))))))
 have hw29 := W_flags_New (I := I) hd
 refine .callO call118 r hw29 r r fun v23 I20 l24 hl21 hv22 => ?_
 obtain ⟨r19, p25, c26, rfl, rfl, hd⟩ := hv22
 have le30 := IH.le.trans (.refl _) hl21
 replace R3 := R3.mono hl21
 refine .skips 1 r (.nilS [5, 1, 0] r r (.seq (.seq (.region (.skips 1 r (.len underlying29 r r r r (.skips 1 r (.nilS [12, 11, 10, 5, 0] r r (.block ?_)))))))))
 refine .loop hd (fun (s : (List Int) × Int) c w => match s with | (s156, s160) => ∃ I_ p157 c158, IH.le I20 I_ ∧ Ok ⟨35, [], none⟩ [(0, .int .i64 a0), (5, .slice p157 s156.length c158), (10, .slice p1 a1.length c2), (11, .int .i64 (a1.length : Int)), (12, .int .i64 s160)] c ∧ Sym w0 M I I_ [OwnSl eU64 85 p157 c158 s156] w) (fun c w ho hs => ⟨I20, _, _, (.refl _), ho.sub ⟨r, r, r, r, r, trivial⟩, hs.pick (.c .z .n)⟩) ?_
 rintro ⟨s156, s160⟩ next161 hd c w hst
 obtain ⟨I162, p157, c158, hl163, hok, hsym⟩ := hst
 have le164 := IH.le.trans le30 hl163
 have le165 := IH.le.trans (.refl _) hl163
 replace R3 := R3.mono hl163
 refine Cod.at hok hsym (.seq (.region (.lt r r r r (.nilS [13, 12, 11, 10, 5, 0] r r (.seq (.condP r hd (fun hb167 hd => ?_) fun hb167 hd => ?_))))))
 · refine .skipS [12, 11, 10, 5, 0] r r (.seq (.block (.seq (.region ?_))))
   obtain ⟨h177, x178, hx179, hd⟩ := hd
   obtain ⟨b180, o181, cs182, e183, hC184, hr185⟩ := R3.2 _ _ hx179
   cases hr185
   refine .ixa underlying29 sizeOf3 r e183 r h177 (idx_lt hx179 h177) r r (.ld1 (j := 0) isAgg3 hC184 r r r r r (.skips 1 r (.nilS [7, 12, 11, 10, 5, 0] r r (.seq ?_))))
   refine Cod.joinQ (σ := Bool) hd (fun (s196 : Bool) c w => ∃ I_, IH.le I162 I_ ∧ Ok ⟨35, [], none⟩ [(0, .int .i64 a0), (5, .slice p157 s156.length c158), (7, .int .i64 x178), (10, .slice p1 a1.length c2), (11, .int .i64 (a1.length : Int)), (12, .int .i64 s160), (23, .bool s196)] c ∧ Sym w0 M I I_ [OwnSl eU64 85 p157 c158 s156] w) (fun k197 hd => ?_) ?_
   · skip
     refine .region (.skips 2 r (.lt r r r r (.skips 1 r ?_)))
     refine splitP hd (fun hb198 hd => ?_) fun hb198 hd => ?_
     · rw [hb198]
       refine .gyes r r r (.move r r r (.gyes r r r (.move r r r ?_)))
       have hw200 := fun (J : IH) (hJ : IH.le I162 J) (hL : lentAll J [OwnSl eU64 85 p157 c158 s156]) => W_flags_within (I := J) (lent hL.1) hd
       refine .gyes r r r (.callB (.f call119 r) (.c .z .n) hw200 r r fun v201 _ hv202 => ?_)
       obtain ⟨r199, rfl, hd⟩ := hv202
       exact .skips 1 r (.nil' fun c w ho hs => ⟨r199, hd, I162, (.refl _), ho.sub ⟨r, r, r, r, r, r, r, trivial⟩, hs.pick (.c .z .n)⟩)
     rw [hb198]
     exact .skips 4 r (.nil' fun c w ho hs => ⟨false, hd, I162, (.refl _), ho.sub ⟨r, r, r, r, r, r, r, trivial⟩, hs.pick (.c .z .n)⟩)
   rintro s196 hd c w hst
   obtain ⟨I203, hl204, hok, hsym⟩ := hst
   have le205 := IH.le.trans le164 hl204
   have le206 := IH.le.trans le165 hl204
   have le207 := IH.le.trans (.refl _) hl204
   replace R3 := R3.mono hl204
   refine Cod.at hok hsym (.condP r hd (fun hb208 hd => ?_) fun hb208 hd => ?_)
   · refine .ownF .z fun hne209 => ?_
     refine .draw [some 0, some 1, some 2, some 3, some 4, some 5, some 6, some 7] 8 MX (by kernel_rfl) (by kernel_rfl) (by kernel_rfl) (by kernel_rfl) (by kernel_rfl) (by kernel_rfl) (by kernel_rfl) (fun ex => (OwnSl eU64 85 p157 c158 s156) :: ex) (fun _ _ => (.s .z)) r (.fs [[], []] r (by kernel_rfl) (.f [1] r (by kernel_rfl) r r (fun ex => .shr' r r (by decide) r r .mk) ?_))
     obtain ⟨h210, x211, hx212, hd⟩ := hd
     obtain ⟨b213, e214⟩ := hne209 (idx_ne hx212)
     cases e214
     refine .f [0, 2] r (by kernel_rfl) r r (fun ex => .ixa0 underlying26 sizeOf85 r r h210 (idx_lt hx212 h210) r r .mk) (.f [3] r (by kernel_rfl) r r (fun ex => .lo1 (j := 0) isAgg85 .z hx212 r r r r r .mk) (.fs [[]] r (by kernel_rfl) (.w [4, 3, 2, 1, 0] [[]] [5] r (by kernel_rfl) (by kernel_rfl) (by kernel_rfl) ((dropE_kept r r)) (.inr (dropE_kept r r)) fun ex => ?_)))
     have hw216 := W_flags_bit (I := I203) hd
     refine .callP call120 r hw216 r r fun v217 hv218 => ?_
     obtain ⟨r215, rfl, hd⟩ := hv218
     refine .some (fun ex => (OwnSl eU64 85 (some ⟨b213, 0, none⟩) c158 s156) :: ex) r (fun _ _ => (.s .z)) r (.cc [3] r (by kernel_rfl) r r r (fun ex => .lo1 (j := 0) isAgg85 .z hx212 r r r r r .mk) (.cc [0, 2] r (by kernel_rfl) r r r (fun ex => .ixa0 underlying26 sizeOf85 r r h210 (idx_lt hx212 h210) r r .mk) (.cc [1] r (by kernel_rfl) r r r (fun ex => .shr' r r (by decide) r r .mk) (.ccs [[], []] r r (by kernel_rfl) trivial)))) (.f [4, 6] r (by kernel_rfl) r r (fun ex => .or r r r r .mk) (.e 8 (by kernel_rfl) (by kernel_rfl) (by kernel_rfl) ?_))
     obtain ⟨h219, x220, hx221, hd⟩ := hd
     exact .ixa0 underlying26 sizeOf85 r r h219 (idx_lt hx221 h219) r r (.stO1 (j := 0) (v' := (bor .u64 x211 r215)) sizeOf85 .z hx221 r r r (.t .nil) r (.sub (E' := [(0, _), (5, .slice (some ⟨b213, 0, none⟩) (s156.set ((shr .i64 x178 6).toNat) (bor .u64 x211 r215)).length c158), (7, _), (10, _), (11, _), (12, _), (23, _), (24, .slice (some ⟨b213, 0, none⟩) (s156.set ((shr .i64 x178 6).toNat) (bor .u64 x211 r215)).length c158), (25, _), (26, _), (27, _), (28, _), (29, _), (30, _), (31, _), (32, _)]) ⟨r, (by simp only [List.length_set]; rfl), r, r, r, r, r, (by simp only [List.length_set]; rfl), r, r, r, r, r, r, r, r, trivial⟩ (.nilS [12, 11, 10, 5, 0] r r (.region (.add r r r r (.sub (E' := [(0, _), (5, _), (10, _), (11, _), (33, _)]) ⟨r, r, r, r, r, trivial⟩ (.skips 1 r (.nil' fun c w ho hs => ⟨((s156.set ((shr .i64 x178 6).toNat) (bor .u64 x211 r215)), w64 (s160 + 1)), hd, I203, _, _, le206, ho.sub ⟨r, r, r, r, r, trivial⟩, hs.pick (.c .z .n)⟩))))))))
   exact .skipS [12, 11, 10, 5, 0] r r (.region (.add r r r r (.sub (E' := [(0, _), (5, _), (10, _), (11, _), (33, _)]) ⟨r, r, r, r, r, trivial⟩ (.skips 1 r (.nil' fun c w ho hs => ⟨(s156, w64 (s160 + 1)), hd, I203, _, _, le206, ho.sub ⟨r, r, r, r, r, trivial⟩, hs.pick (.c .z .n)⟩)))))
 refine .exitS [5] r r (.seq (.region (.skips 2 r (.nilS [4] r r (.pub .z fun I222 hl223 R224 => ?_)))))
 have le225 := IH.le.trans le164 hl223
 have le226 := IH.le.trans le165 hl223
 exact .ret (pret results69 (.t r .n) le225 ⟨s156, _, _, r, R224, hd⟩)

theorem W_devec_Of {I : IH} {a0 : Vec} {p1 : Option Addr} {c2 : Nat} {Q : Dense → Prop} (R3 : RepSl eItem I p1 c2 a0.Items) (hd : devec_Of a0 Q) :
    PFun Tryz.prog 27 [.agg #[.int .i64 a0.N, .slice p1 a0.Items.length c2]] I (fun I_ v => ∃ r p4 c5 p7 c8, v = .agg #[.int .i64 r.N, .slice p4 r.Has.length c5, .slice p7 r.Vals.length c8] ∧ RepSl eU64 I_ p4 c5 r.Has ∧ RepSl eI64 I_ p7 c8 r.Vals ∧ Q r) := by
 refine Fun.enter func27 r ntmps27 r (.c .n) fun w0 M => ?_
 refine .seq (.region (.boxA r r r fun b14 => ?_))
 refine .allocA zeroValue62 r r fun b16 => ?_
 refine .nilS [2, 1] r r (.seq (.seq (.region (.loadW isAgg38 sizeOf38 r (.s .z) r r r ?_))))
 have hw39 := W_spvec_Right (I := I) R3 hd
 refine .callP call67 r hw39 r r fun v40 hv41 => ?_
 obtain ⟨r38, rfl, hd⟩ := hv41
 refine .not r r r (.nilS [8, 2, 1] r r (.condP r hd (fun hb42 hd => ?_) fun hb42 hd => ?_))
 · refine .seq (.region ?_)
   have hw56 := W_devec_New (I := I) hd
   refine .callO call68 r hw56 r r fun v47 I44 l48 hl45 hv46 => ?_
   obtain ⟨r43, p49, c50, p52, c53, rfl, R51, rfl, hd⟩ := hv46
   have le57 := IH.le.trans (.refl _) hl45
   replace R3 := R3.mono hl45
   refine .storeA sizeOf62 r r (.s .z) (.t (.t (.t .nil))) r r (.nilS [2] r r (.drop (.s (.s .z)) (.pub .z fun I58 hl59 R60 => ?_)))
   have le61 := IH.le.trans le57 hl59
   replace R51 := R51.mono hl59
   exact .ret (pret results27 (.w isAgg62 sizeOf62 r .z r .n) le61 ⟨r43, _, _, _, _, r, R51, R60, hd⟩)
 refine .skipS [2, 1] r r (.seq (.region (.fieldAddr underlying38 r sizeOf3 r (o := 0) r r r (.load1 isAgg3 r (.s .z) r r r ?_))))
 have hw92 := W_devec_New (I := I) hd
 refine .callO call68 r hw92 r r fun v83 I80 l84 hl81 hv82 => ?_
 obtain ⟨r79, p85, c86, p88, c89, rfl, R87, rfl, hd⟩ := hv82
 have le93 := IH.le.trans (.refl _) hl81
 replace R3 := R3.mono hl81
 refine .allocA zeroValue62 r r fun b94 => ?_
 refine .storeA sizeOf62 r r .z (.t (.t (.t .nil))) r r (.nilS [3, 2, 1] r r (.seq (.seq (.region (.fieldAddr underlying38 r sizeOf25 r (o := 1) r r r (.load1 isAgg25 r (.s (.s (.s .z))) r r r (.len underlying25 r r r r (.skips 1 r (.nilS [16, 15, 14, 3, 2, 1] r r ?_)))))))))
 refine .block (.loop hd (fun (s : (List Int) × Int) c w => match s with | (s226, s230) => ∃ I_ p227 c228, IH.le I80 I_ ∧ Ok ⟨35, [], none⟩ [(1, .pointer (some ⟨b14, 0, none⟩)), (2, .pointer (some ⟨b16, 0, none⟩)), (3, .pointer (some ⟨b94, 0, none⟩)), (14, .slice p1 a0.Items.length c2), (15, .int .i64 (a0.Items.length : Int)), (16, .int .i64 s230)] c ∧ Sym w0 M I I_ [pto b14 (.cells #[.int .i64 a0.N, .slice p1 a0.Items.length c2] 38 (0, 0)), pto b16 (.cells #[.int .i64 0, .slice none 0 0, .slice none 0 0] 62 (0, 0)), pto b94 (.cells #[.int .i64 r79.N, .slice p85 r79.Has.length c86, .slice p227 s226.length c228] 62 (0, 0)), OwnSl eI64 2 p227 c228 s226] w) (fun c w ho hs => ⟨I80, _, _, (.refl _), ho.sub ⟨r, r, r, r, r, r, trivial⟩, hs.pick (.c (.s (.s (.s .z))) (.c (.s (.s .z)) (.c .z (.c .z .n))))⟩) ?_)
 rintro ⟨s226, s230⟩ next231 hd c w hst
 obtain ⟨I232, p227, c228, hl233, hok, hsym⟩ := hst
 have le234 := IH.le.trans le93 hl233
 have le235 := IH.le.trans (.refl _) hl233
 replace R3 := R3.mono hl233
 replace R87 := R87.mono hl233
 refine Cod.at hok hsym (.seq (.region (.lt r r r r (.nilS [17, 16, 15, 14, 3, 2, 1] r r (.seq (.condP r hd (fun hb237 hd => ?_) fun hb237 hd => ?_))))))
 · refine .skipS [16, 15, 14, 3, 2, 1] r r (.seq (.block (.seq (.region ?_))))
   obtain ⟨h238, x239, hx240, hd⟩ := hd
   obtain ⟨b241, o242, cs243, e244, hC245, hr246⟩ := R3.2 _ _ hx240
   cases hr246
   refine .ixa underlying25 sizeOf67 r e244 r h238 (idx_lt hx240 h238) r r (.ldW isAgg67 sizeOf67 hC245 r r r r (.allocA zeroValue67 r r fun b247 => ?_))
   refine .storeA sizeOf67 r r .z (.t (.t .nil)) r r (.nilS [5, 16, 15, 14, 3, 2, 1] r r (.region (.fieldAddr underlying62 r sizeOf30 r (o := 2) r r r (.load1 isAgg30 r (.s (.s (.s .z))) r r r (.fieldAddr underlying67 r sizeOf3 r (o := 0) r r r (.load1 isAgg3 r .z r r r (.fieldAddr underlying67 r sizeOf2 r (o := 1) r r r (.load1 isAgg2 r .z r r r ?_))))))))
   obtain ⟨h249, x250, hx251, hd⟩ := hd
   refine .ownNe (.s (.s (.s (.s .z)))) (idx_ne hx251) fun b252 e253 => ?_
   cases e253
   refine .ixa0 underlying30 sizeOf2 r r h249 (idx_lt hx251 h249) r r (.stO1 (j := 0) (v' := x239.Val) sizeOf2 (.s (.s (.s (.s .z)))) hx251 r r r (.t .nil) r (.sub (E' := [(1, _), (2, _), (3, _), (14, _), (15, _), (16, _), (5, _), (20, _), (21, .slice (some ⟨b252, 0, none⟩) (s226.set x239.At.toNat x239.Val).length c228), (22, _), (23, _), (24, _), (25, _), (26, _)]) ⟨r, r, r, r, r, r, r, r, (by simp only [List.length_set]; rfl), r, r, r, r, r, trivial⟩ (.reat (.s (.s (.s .z))) (B := pto b94 (.cells #[.int .i64 r79.N, .slice p85 r79.Has.length c86, .slice (some ⟨b252, 0, none⟩) (s226.set x239.At.toNat x239.Val).length c228] 62 (0, 0))) (by simp only [List.length_set]) (.nilS [16, 15, 14, 3, 2, 1] r r (.drop .z (.region (.add r r r r (.sub (E' := [(1, _), (2, _), (3, _), (14, _), (15, _), (27, _)]) ⟨r, r, r, r, r, r, trivial⟩ (.skips 1 r ?_)))))))))
   exact .nil' fun c w ho hs => ⟨((s226.set x239.At.toNat x239.Val), w64 (s230 + 1)), hd, I232, _, _, le235, ho.sub ⟨r, r, r, r, r, r, trivial⟩, hs.pick (.c .z (.c .z (.c .z (.c .z .n))))⟩
 refine .exitS [3, 2, 1] r r (.seq (.draw [some 0, some 1, some 2, some 3, some 4] 5 MX (by kernel_rfl) (by kernel_rfl) (by kernel_rfl) (by kernel_rfl) (by kernel_rfl) (by kernel_rfl) (by kernel_rfl) (fun ex => (pto b14 (.cells #[.int .i64 a0.N, .slice p1 a0.Items.length c2] 38 (0, 0))) :: (pto b16 (.cells #[.int .i64 0, .slice none 0 0, .slice none 0 0] 62 (0, 0))) :: (pto b94 (.cells #[.int .i64 r79.N, .slice p85 r79.Has.length c86, .slice p227 s226.length c228] 62 (0, 0))) :: (OwnSl eI64 2 p227 c228 s226) :: ex) (fun _ _ => (.s (.s (.s (.s .z))))) r (.f [] r (by kernel_rfl) r r (fun ex => .fieldAddr underlying38 r sizeOf3 r (o := 0) r r r .mk) (.f [0] r (by kernel_rfl) r r (fun ex => .load1 isAgg3 r .z r r r .mk) (.f [] r (by kernel_rfl) r r (fun ex => .loadW isAgg38 sizeOf38 r .z r r r .mk) (.w [1, 0] [[]] [2] r (by kernel_rfl) (by kernel_rfl) (by kernel_rfl) ((dropE_kept r r)) (.inr (dropE_kept r r)) fun ex => ?_))))))
 have hw263 := W_spvec_Places (I := I232) R3 hd
 refine .call call47 r hw263 r r fun v258 I255 hl256 hv257 => ?_
 obtain ⟨r254, p260, c261, rfl, R262, hd⟩ := hv257
 have le264 := IH.le.trans le234 hl256
 have le265 := IH.le.trans le235 hl256
 replace R3 := R3.mono hl256
 replace R87 := R87.mono hl256
 refine .some (fun ex => (pto b14 (.cells #[.int .i64 a0.N, .slice p1 a0.Items.length c2] 38 (0, 0))) :: (pto b16 (.cells #[.int .i64 0, .slice none 0 0, .slice none 0 0] 62 (0, 0))) :: (pto b94 (.cells #[.int .i64 r79.N, .slice p85 r79.Has.length c86, .slice p227 s226.length c228] 62 (0, 0))) :: (OwnSl eI64 2 p227 c228 s226) :: ex) r (fun _ _ => (.s (.s (.s (.s .z))))) r (.cc [0] r (by kernel_rfl) r r r (fun ex => .load1 isAgg3 r .z r r r .mk) (.cc [] r (by kernel_rfl) r r r (fun ex => .fieldAddr underlying38 r sizeOf3 r (o := 0) r r r .mk) trivial)) (.w [] [[], [1]] [1, 3, 3] r (by kernel_rfl) (by kernel_rfl) (by kernel_rfl) ((dropE_kept r r)) (.inr (dropE_kept r r)) fun ex => ?_)
 have hw275 := W_flags_Of (I := I255) R262 hd
 refine .call call69 r hw275 r r fun v270 I267 hl268 hv269 => ?_
 obtain ⟨r266, p272, c273, rfl, R274, hd⟩ := hv269
 have le276 := IH.le.trans le264 hl268
 have le277 := IH.le.trans le265 hl268
 replace R3 := R3.mono hl268
 replace R87 := R87.mono hl268
 replace R262 := R262.mono hl268
 refine .some (fun ex => (pto b14 (.cells #[.int .i64 a0.N, .slice p1 a0.Items.length c2] 38 (0, 0))) :: (pto b16 (.cells #[.int .i64 0, .slice none 0 0, .slice none 0 0] 62 (0, 0))) :: (pto b94 (.cells #[.int .i64 r79.N, .slice p85 r79.Has.length c86, .slice p227 s226.length c228] 62 (0, 0))) :: (OwnSl eI64 2 p227 c228 s226) :: ex) r (fun _ _ => (.s (.s (.s (.s .z))))) r trivial (.e 5 (by kernel_rfl) (by kernel_rfl) (by kernel_rfl) (.fieldAddr underlying62 r sizeOf26 r (o := 1) r r r (.store1 sizeOf26 r r (.s (.s .z)) (.s (.t .nil)) r (.nilS [3, 2] r r (.drop .z (.seq (.region (.loadW isAgg62 sizeOf62 r (.s .z) r r r (.storeA sizeOf62 r r .z (.t (.t (.t .nil))) r r ?_)))))))))
 refine .nilS [2] r r (.drop (.s .z) (.pub (.s .z) fun I278 hl279 R280 => ?_))
 have le281 := IH.le.trans le276 hl279
 have le282 := IH.le.trans le277 hl279
 replace R274 := R274.mono hl279
 exact .ret (pret results27 (.w isAgg62 sizeOf62 r .z r .n) le281 ⟨({ N := r79.N, Has := r266, Vals := s226 } : Dense), _, _, _, _, r, R274, R280, hd⟩)

end Go.Proofs.YtdfiinkpdaggeaaGreat
