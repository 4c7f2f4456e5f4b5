/- The walks (printed by a program of ours). -/
import Derived.Test.YtjobeiikppmidaaV2
namespace Go.Proofs.Ytjobeiikppmidaa
open Go Go.Fw
set_option linter.unusedVariables false
set_option linter.unusedSimpArgs false
set_option maxRecDepth 8000
set_option maxHeartbeats 1000000
open Try
theorem W_law07_Size {I : IH} {a0 : Int}  {Q : Int → Prop}  (hd : law07_Size a0 Q) :
    PFun Try.prog 20 [.int .u8 a0] I (fun I_ v => ∃ r, v = .int .i64 r ∧ Q r) := by
 refine Fun.enter func20 rfl ntmps20 rfl (.c .n) fun w0 M => ?_
 refine .seq (.region (.skips 1 rfl (.nilS [0] rfl rfl (.seq (.region (.skips 1 rfl (.conv underlying5 underlying3 rfl rfl rfl (.rem rfl rfl (by decide) rfl rfl (.skips 1 rfl ?_)))))))))
 exact .nilS [2] rfl rfl (.ret (pret results20 (.t rfl .n) (.refl _) ⟨((w64 (a0)).tmod 40), rfl, hd⟩))

theorem W_law07_Few {I : IH} {a0 : List Triple} {p1 : Option Addr} {c2 : Nat} {Q : (List Triple) → Prop} (R3 : RepSl eTriple I p1 c2 a0) (hd : law07_Few a0 Q) :
    PFun Try.prog 21 [.slice p1 a0.length c2] I (fun I_ v => ∃ r p4 c5, v = .slice p4 r.length c5 ∧ RepSl eTriple I_ p4 c5 r ∧ Q r) := by
 refine Fun.enter func21 rfl ntmps21 rfl (.c .n) fun w0 M => ?_
 refine .seq (.region (.skips 1 rfl (.nilS [0] rfl rfl (.seq (.seq (.region (.skips 1 rfl (.len underlying23 rfl rfl rfl rfl (.gt rfl rfl rfl rfl ?_)))))))))
 refine .nilS [5, 0] rfl rfl (.condP rfl hd (fun hb7 hd => ?_) fun hb7 hd => ?_)
 · refine .region (.skips 1 rfl ?_)
   obtain ⟨h8, h9, h10, hd⟩ := hd
   have h16 : Int.toNat 0 ≤ Int.toNat 60 := by omega
   have h17 : Int.toNat 60 ≤ a0.length := by omega
   obtain ⟨p11, c12, e14, e15, R13⟩ := RepSl.sliceW R3 (Int.toNat 0) (Int.toNat 60) c2 h16 h17 (.inl rfl)
   exact .sliceW (L := Int.toNat 0) (H := Int.toNat 60) (cm := c2) underlying23 sizeOf49 rfl rfl R3.1 rfl rfl rfl (.inl ⟨rfl, rfl⟩) (.inr ⟨_, _, rfl, (by omega), rfl⟩) (.inl rfl) h16 h17 rfl e14 e15 rfl rfl (.sub (E' := [(5, _), (6, _), (7, _)]) ⟨rfl, rfl, rfl, trivial⟩ (.skips 1 rfl (.nilS [0] rfl rfl (.seq (.region (.skips 2 rfl (.nilS [2] rfl rfl (.ret (pret results21 (.t rfl .n) (.refl _) ⟨((a0.take (Int.toNat 60)).drop (Int.toNat 0)), _, _, rfl, R13, hd⟩)))))))))
 exact .skipS [0] rfl rfl (.seq (.region (.skips 2 rfl (.nilS [2] rfl rfl (.ret (pret results21 (.t rfl .n) (.refl _) ⟨a0, _, _, rfl, R3, hd⟩))))))

theorem W_law07_Some {I : IH} {a0 : Int × Int} {a1 : List Triple} {p1 : Option Addr} {c2 : Nat} {Q : Rows → Prop} (R3 : RepSl eTriple I p1 c2 a1) (hd : law07_Some a0 a1 Q) :
    PFun Try.prog 6 [.agg #[.int .u8 a0.1, .int .u8 a0.2], .slice p1 a1.length c2] I (fun I_ v => ∃ r p4 c5 p7 c8 p10 c11, v = .agg #[.int .i64 r.Rows, .int .i64 r.Cols, .slice p4 r.Start.length c5, .slice p7 r.Col.length c8, .slice p10 r.Val.length c11] ∧ RepSl eI64 I_ p4 c5 r.Start ∧ RepSl eI64 I_ p7 c8 r.Col ∧ RepSl eI64 I_ p10 c11 r.Val ∧ Q r) := by
 refine Fun.enter func6 rfl ntmps6 rfl (.c (.c .n)) fun w0 M => ?_
 refine .seq (.region (.boxA rfl rfl rfl fun b17 => ?_))
 refine .allocA zeroValue27 rfl rfl fun b19 => ?_
 refine .nilS [4, 2, 1] rfl rfl (.seq (.draw [some 0, some 1, some 3, some 4, some 2, some 5, some 6] 7 MX (by kernel_rfl) (by kernel_rfl) (by kernel_rfl) (by kernel_rfl) (by kernel_rfl) (by kernel_rfl) (by kernel_rfl) (fun ex => (pto b19 (.cells #[.int .i64 0, .int .i64 0, .slice none 0 0, .slice none 0 0, .slice none 0 0] 27 (0, 0))) :: (pto b17 (.cells #[.int .u8 a0.1, .int .u8 a0.2] 22 (0, 0))) :: ex) (fun _ _ => (.s (.s .z))) rfl (.f [] rfl (by kernel_rfl) rfl rfl (fun ex => .ixArr (i := 0) underlying22 sizeOf5 rfl rfl (by decide) (o := 0) rfl rfl rfl .mk) (.f [0] rfl (by kernel_rfl) rfl rfl (fun ex => .load1 isAgg5 rfl (.s .z) rfl rfl rfl .mk) (.f [] rfl (by kernel_rfl) rfl rfl (fun ex => .ixArr (i := 1) underlying22 sizeOf5 rfl rfl (by decide) (o := 1) rfl rfl rfl .mk) (.f [3] rfl (by kernel_rfl) rfl rfl (fun ex => .load1 isAgg5 rfl (.s .z) rfl rfl rfl .mk) (.w [4, 3] [[], [1]] [1] rfl (by kernel_rfl) (by kernel_rfl) (by kernel_rfl) ((dropE_kept rfl rfl)) (.inr (dropE_kept rfl rfl)) fun ex => ?_)))))))
 have hw30 := W_law07_Size (I := I) hd
 refine .callP call20 rfl hw30 rfl rfl fun v31 hv32 => ?_
 obtain ⟨r29, rfl, hd⟩ := hv32
 refine .some (fun ex => (pto b19 (.cells #[.int .i64 0, .int .i64 0, .slice none 0 0, .slice none 0 0, .slice none 0 0] 27 (0, 0))) :: (pto b17 (.cells #[.int .u8 a0.1, .int .u8 a0.2] 22 (0, 0))) :: ex) rfl (fun _ _ => (.s (.s .z))) rfl (.cc [3] rfl (by kernel_rfl) rfl rfl rfl (fun ex => .load1 isAgg5 rfl (.s .z) rfl rfl rfl .mk) (.cc [] rfl (by kernel_rfl) rfl rfl rfl (fun ex => .ixArr (i := 1) underlying22 sizeOf5 rfl rfl (by decide) (o := 1) rfl rfl rfl .mk) trivial)) (.w [] [[], [4]] [4, 2] rfl (by kernel_rfl) (by kernel_rfl) (by kernel_rfl) ((dropE_kept rfl rfl)) (.inr (dropE_kept rfl rfl)) fun ex => ?_)
 have hw34 := W_law07_Size (I := I) hd
 refine .callP call20 rfl hw34 rfl rfl fun v35 hv36 => ?_
 obtain ⟨r33, rfl, hd⟩ := hv36
 refine .some (fun ex => (pto b19 (.cells #[.int .i64 0, .int .i64 0, .slice none 0 0, .slice none 0 0, .slice none 0 0] 27 (0, 0))) :: (pto b17 (.cells #[.int .u8 a0.1, .int .u8 a0.2] 22 (0, 0))) :: ex) rfl (fun _ _ => (.s (.s .z))) rfl trivial (.fs [[2, 5, 0, 1, 2]] rfl (by kernel_rfl) (.e 7 (by kernel_rfl) (by kernel_rfl) (by kernel_rfl) (.skips 1 rfl (.nilS [6, 5, 4, 1] rfl rfl (.drop (.s .z) (.seq (.region (.skips 1 rfl (.nilS [7, 6, 5, 4, 1] rfl rfl ?_)))))))))
 refine .seq (.region (.skips 1 rfl ?_))
 have hw57 := W_law07_Few (I := I) R3 hd
 refine .call call21 rfl hw57 rfl rfl fun v52 I49 hl50 hv51 => ?_
 obtain ⟨r48, p54, c55, rfl, R56, hd⟩ := hv51
 have le58 := IH.le.trans (.refl _) hl50
 replace R3 := R3.mono hl50
 refine .sub (E' := [(4, _), (5, _), (6, _), (7, _), (18, _), (19, _)]) ⟨rfl, rfl, rfl, rfl, rfl, rfl, trivial⟩ (.skips 1 rfl (.nilS [1, 7, 6, 5, 4] rfl rfl (.seq (.seq (.region (.skips 1 rfl (.nilS [8, 1, 7, 6, 5, 4] rfl rfl (.block (.own0 eTriple 49 ?_)))))))))
 refine .loop hd (fun (s : (List Triple) × Int) c w => match s with | (s307, s311) => ∃ I_ p308 c309, IH.le I49 I_ ∧ Ok ⟨73, [], none⟩ [(1, .slice p54 r48.length c55), (4, .pointer (some ⟨b19, 0, none⟩)), (5, .int .i64 r29), (6, .int .i64 r33), (7, .slice p308 s307.length c309), (8, .int .i64 s311)] c ∧ Sym w0 M I I_ [pto b19 (.cells #[.int .i64 0, .int .i64 0, .slice none 0 0, .slice none 0 0, .slice none 0 0] 27 (0, 0)), OwnSl eTriple 49 p308 c309 s307] w) (fun c w ho hs => ⟨I49, _, _, (.refl _), ho.sub ⟨rfl, rfl, rfl, rfl, rfl, rfl, trivial⟩, hs.pick (.c (.s .z) (.c .z .n))⟩) ?_
 rintro ⟨s307, s311⟩ next313 hd c w hst
 obtain ⟨I314, p308, c309, hl315, hok, hsym⟩ := hst
 have le316 := IH.le.trans le58 hl315
 have le317 := IH.le.trans (.refl _) hl315
 replace R56 := R56.mono hl315
 refine Cod.at hok hsym (.seq (.seq (.region (.skips 2 rfl (.len underlying23 rfl rfl rfl rfl (.lt rfl rfl rfl rfl (.nilS [23, 8, 7, 6, 5, 4, 1] rfl rfl (.condP rfl hd (fun hb319 hd => ?_) fun hb319 hd => ?_))))))))
 · refine .skipS [8, 7, 6, 5, 4, 1] rfl rfl (.seq (.block (.seq (.region (.skips 2 rfl ?_)))))
   obtain ⟨h331, x332, hx333, hd⟩ := hd
   obtain ⟨b334, o335, cs336, e337, hC338, hr339⟩ := R56.2 _ _ hx333
   cases hr339
   refine .ixa underlying23 sizeOf49 rfl e337 rfl h331 (idx_lt hx333 h331) rfl rfl (.ldW isAgg49 sizeOf49 hC338 rfl rfl rfl rfl (.allocA zeroValue49 rfl rfl fun b340 => ?_))
   refine .storeA sizeOf49 rfl rfl .z (.t (.t (.t .nil))) rfl rfl (.nilS [9, 8, 7, 6, 5, 4, 1] rfl rfl (.seq (.seq (.region (.fieldAddr underlying49 rfl sizeOf3 rfl (o := 0) rfl rfl rfl (.load1 isAgg3 rfl .z rfl rfl rfl (.lt rfl rfl rfl rfl (.skips 1 rfl ?_))))))))
   refine splitP hd (fun hb346 hd => ?_) fun hb346 hd => ?_
   · rw [hb346]
     refine .skips 12 rfl (.nilS [45, 9, 8, 7, 6, 5, 4, 1] rfl rfl (.condKT rfl rfl (.exitS [8, 7, 6, 5, 4, 1] rfl rfl (.drop .z (.region (.skips 1 rfl (.add rfl rfl rfl rfl (.sub (E' := [(1, _), (4, _), (5, _), (6, _), (7, _), (24, _), (25, _)]) ⟨rfl, rfl, rfl, rfl, rfl, rfl, rfl, trivial⟩ (.skips 1 rfl ?_)))))))))
     exact .nil' fun c w ho hs => ⟨(s307, w64 (s311 + 1)), hd, I314, _, _, le317, ho.sub ⟨rfl, rfl, rfl, rfl, rfl, rfl, trivial⟩, hs.pick (.c .z (.c .z .n))⟩
   rw [hb346]
   refine .gyes rfl rfl rfl (.fieldAddr underlying49 rfl sizeOf3 rfl (o := 1) rfl rfl rfl (.gyes rfl rfl rfl (.load1 isAgg3 rfl .z rfl rfl rfl (.gyes rfl rfl rfl (.lt rfl rfl rfl rfl (.skips 2 rfl ?_))))))
   refine splitP hd (fun hb347 hd => ?_) fun hb347 hd => ?_
   · rw [hb347]
     refine .skips 7 rfl (.nilS [45, 9, 8, 7, 6, 5, 4, 1] rfl rfl (.condKT rfl rfl (.exitS [8, 7, 6, 5, 4, 1] rfl rfl (.drop .z (.region (.skips 1 rfl (.add rfl rfl rfl rfl (.sub (E' := [(1, _), (4, _), (5, _), (6, _), (7, _), (24, _), (25, _)]) ⟨rfl, rfl, rfl, rfl, rfl, rfl, rfl, trivial⟩ (.skips 1 rfl ?_)))))))))
     exact .nil' fun c w ho hs => ⟨(s307, w64 (s311 + 1)), hd, I314, _, _, le317, ho.sub ⟨rfl, rfl, rfl, rfl, rfl, rfl, trivial⟩, hs.pick (.c .z (.c .z .n))⟩
   rw [hb347]
   refine .gyes rfl rfl rfl (.move rfl rfl rfl (.gyes rfl rfl rfl (.eq rfl rfl rfl rfl (.skips 2 rfl ?_))))
   refine splitP hd (fun hb348 hd => ?_) fun hb348 hd => ?_
   · rw [hb348]
     refine .skips 3 rfl (.nilS [45, 9, 8, 7, 6, 5, 4, 1] rfl rfl (.condKT rfl rfl (.exitS [8, 7, 6, 5, 4, 1] rfl rfl (.drop .z (.region (.skips 1 rfl (.add rfl rfl rfl rfl (.sub (E' := [(1, _), (4, _), (5, _), (6, _), (7, _), (24, _), (25, _)]) ⟨rfl, rfl, rfl, rfl, rfl, rfl, rfl, trivial⟩ (.skips 1 rfl ?_)))))))))
     exact .nil' fun c w ho hs => ⟨(s307, w64 (s311 + 1)), hd, I314, _, _, le317, ho.sub ⟨rfl, rfl, rfl, rfl, rfl, rfl, trivial⟩, hs.pick (.c .z (.c .z .n))⟩
   rw [hb348]
   refine .gyes rfl rfl rfl (.move rfl rfl rfl (.gyes rfl rfl rfl (.eq rfl rfl rfl rfl (.skips 1 rfl (.nilS [45, 9, 8, 7, 6, 5, 4, 1] rfl rfl (.condP rfl hd (fun hb349 hd => ?_) fun hb349 hd => ?_))))))
   · exact .exitS [8, 7, 6, 5, 4, 1] rfl rfl (.drop .z (.region (.skips 1 rfl (.add rfl rfl rfl rfl (.sub (E' := [(1, _), (4, _), (5, _), (6, _), (7, _), (24, _), (25, _)]) ⟨rfl, rfl, rfl, rfl, rfl, rfl, rfl, trivial⟩ (.skips 1 rfl (.nil' fun c w ho hs => ⟨(s307, w64 (s311 + 1)), hd, I314, _, _, le317, ho.sub ⟨rfl, rfl, rfl, rfl, rfl, rfl, trivial⟩, hs.pick (.c .z (.c .z .n))⟩)))))))
   refine .skipS [9, 8, 7, 6, 5, 4, 1] rfl rfl (.seq (.region (.fieldAddr underlying49 rfl sizeOf3 rfl (o := 0) rfl rfl rfl (.load1 isAgg3 rfl .z rfl rfl rfl (.skips 1 rfl ?_)))))
   obtain ⟨hz351, hd⟩ := hd
   refine .rem rfl rfl hz351 rfl rfl (.fieldAddr underlying49 rfl sizeOf3 rfl (o := 0) rfl rfl rfl (.store1 sizeOf3 rfl rfl .z (.t .nil) rfl (.nilS [9, 8, 7, 6, 5, 4, 1] rfl rfl (.seq (.region (.fieldAddr underlying49 rfl sizeOf3 rfl (o := 1) rfl rfl rfl (.load1 isAgg3 rfl .z rfl rfl rfl (.skips 1 rfl ?_))))))))
   obtain ⟨hz352, hd⟩ := hd
   refine .rem rfl rfl hz352 rfl rfl (.fieldAddr underlying49 rfl sizeOf3 rfl (o := 1) rfl rfl rfl (.store1 sizeOf3 rfl rfl .z (.s (.t .nil)) rfl (.nilS [9, 8, 7, 6, 5, 4, 1] rfl rfl (.region (.skips 1 rfl (.loadW isAgg49 sizeOf49 rfl .z rfl rfl rfl (.buildSlice 1 underlying23 sizeOf49 zeroValue49 rfl rfl (.c rfl rfl rfl .n) rfl rfl fun b353 => ?_)))))))
   obtain ⟨hl355, hd⟩ := hd
   refine .append (ys := [({ Row := x332.Row.tmod r29, Col := x332.Col.tmod r33, Val := x332.Val } : Triple)]) 24 (.s (.s (.s .z))) underlying23 underlying23 IN49 rfl rfl rfl rfl rfl rfl rfl rfl rfl (.box .z (.one rfl) rfl) hl355 rfl rfl fun p356 c357 => ?_
   refine .sub (E' := [(1, _), (4, _), (5, _), (6, _), (8, _), (9, _), (56, _), (57, _), (58, _), (59, _)]) ⟨rfl, rfl, rfl, rfl, rfl, rfl, rfl, rfl, rfl, rfl, trivial⟩ (.skips 1 rfl (.nilS [7, 8, 6, 5, 4, 1] rfl rfl (.drop (.s .z) (.drop (.s .z) (.region (.skips 1 rfl (.add rfl rfl rfl rfl (.sub (E' := [(1, _), (4, _), (5, _), (6, _), (7, _), (24, _), (25, _)]) ⟨rfl, rfl, rfl, rfl, rfl, rfl, rfl, trivial⟩ (.skips 1 rfl ?_)))))))))
   exact .nil' fun c w ho hs => ⟨((s307 ++ ([({ Row := x332.Row.tmod r29, Col := x332.Col.tmod r33, Val := x332.Val } : Triple)])), w64 (s311 + 1)), hd, I314, _, _, le317, ho.sub ⟨rfl, rfl, rfl, rfl, rfl, rfl, trivial⟩, hs.pick (.c (.s .z) (.c .z .n))⟩
 refine .exitS [7, 6, 5, 4] rfl rfl (.seq (.region (.skips 3 rfl (.pub (.s .z) fun I384 hl385 R386 => ?_))))
 have le387 := IH.le.trans le316 hl385
 have le388 := IH.le.trans le317 hl385
 have hw404 := W_ref07_Of (I := I384) R386 hd
 refine .call call22 rfl hw404 rfl rfl fun v393 I390 hl391 hv392 => ?_
 obtain ⟨r389, p395, c396, p398, c399, p401, c402, rfl, R397, R400, R403, hd⟩ := hv392
 have le405 := IH.le.trans le387 hl391
 have le406 := IH.le.trans le388 hl391
 replace R386 := R386.mono hl391
 refine .skips 1 rfl (.extract rfl rfl rfl rfl (.extract rfl rfl rfl rfl (.allocA zeroValue27 rfl rfl fun b407 => ?_)))
 refine .storeA sizeOf27 rfl rfl .z (.t (.t (.t (.t (.t .nil))))) rfl rfl (.skips 1 rfl (.nilS [11, 10, 6, 5, 4] rfl rfl (.seq (.seq (.region (.skips 1 rfl (.ne rfl rfl rfl rfl (.nilS [68, 10, 6, 5, 4] rfl rfl (.condP rfl hd (fun hb409 hd => ?_) fun hb409 hd => ?_)))))))))
 · refine .seq (.region (.skips 2 rfl ?_))
   have hw428 := W_ref07_Empty (I := I390) hd
   refine .callO call23 rfl hw428 rfl rfl fun v414 I411 l415 hl412 hv413 => ?_
   obtain ⟨r410, p416, c417, p419, c420, p422, c423, rfl, rfl, hd⟩ := hv413
   have le429 := IH.le.trans le405 hl412
   have le430 := IH.le.trans le406 hl412
   replace R397 := R397.mono hl412
   replace R400 := R400.mono hl412
   replace R403 := R403.mono hl412
   refine .storeA sizeOf27 rfl rfl (.s (.s (.s (.s .z)))) (.t (.t (.t (.t (.t .nil))))) rfl rfl (.nilS [4] rfl rfl (.drop (.s (.s (.s .z))) (.pub .z fun I431 hl432 R433 => ?_)))
   have le434 := IH.le.trans le429 hl432
   have le435 := IH.le.trans le430 hl432
   refine .pub .z fun I436 hl437 R438 => ?_
   have le439 := IH.le.trans le434 hl437
   have le440 := IH.le.trans le435 hl437
   replace R433 := R433.mono hl437
   refine .pub .z fun I441 hl442 R443 => ?_
   have le444 := IH.le.trans le439 hl442
   have le445 := IH.le.trans le440 hl442
   replace R433 := R433.mono hl442
   replace R438 := R438.mono hl442
   exact .ret (pret results6 (.w isAgg27 sizeOf27 rfl .z rfl .n) le444 ⟨r410, _, _, _, _, _, _, rfl, R433, R438, R443, hd⟩)
 exact .skipS [10, 4] rfl rfl (.seq (.region (.loadW isAgg27 sizeOf27 rfl .z rfl rfl rfl (.storeA sizeOf27 rfl rfl (.s .z) (.t (.t (.t (.t (.t .nil))))) rfl rfl (.nilS [4] rfl rfl (.drop .z (.ret (pret results6 (.w isAgg27 sizeOf27 rfl .z rfl .n) le405 ⟨r389.1, _, _, _, _, _, _, rfl, R397, R400, R403, hd⟩))))))))

theorem W_law08_DcscBack {I : IH} {a0 : Int × Int} {a1 : List Triple} {p1 : Option Addr} {c2 : Nat} {Q : Bool → Prop} (R3 : RepSl eTriple I p1 c2 a1) (hd : law08_DcscBack a0 a1 Q) :
    PFun Try.prog 3 [.agg #[.int .u8 a0.1, .int .u8 a0.2], .slice p1 a1.length c2] I (fun I_ v => ∃ r, v = .bool r ∧ Q r) := by
 refine Fun.enter func3 rfl ntmps3 rfl (.c (.c .n)) fun w0 M => ?_
 refine .seq (.region (.boxA rfl rfl rfl fun b6 => ?_))
 refine .skips 1 rfl (.nilS [2, 1] rfl rfl (.seq (.region (.loadW isAgg22 sizeOf22 rfl .z rfl rfl rfl (.skips 1 rfl ?_)))))
 have hw42 := W_law07_Some (I := I) R3 hd
 refine .call call6 rfl hw42 rfl rfl fun v31 I28 hl29 hv30 => ?_
 obtain ⟨r27, p33, c34, p36, c37, p39, c40, rfl, R35, R38, R41, hd⟩ := hv30
 have le43 := IH.le.trans (.refl _) hl29
 replace R3 := R3.mono hl29
 refine .allocA zeroValue27 rfl rfl fun b44 => ?_
 refine .storeA sizeOf27 rfl rfl .z (.t (.t (.t (.t (.t .nil))))) rfl rfl (.nilS [5] rfl rfl (.drop (.s .z) (.seq (.region (.loadW isAgg27 sizeOf27 rfl .z rfl rfl rfl ?_)))))
 have hw86 := W_dcsc_Of (I := I28) R35 R38 R41 hd
 refine .call call7 rfl hw86 rfl rfl fun v72 I69 hl70 hv71 => ?_
 obtain ⟨r68, p74, c75, p77, c78, p80, c81, p83, c84, rfl, R76, R79, R82, R85, hd⟩ := hv71
 have le87 := IH.le.trans le43 hl70
 replace R35 := R35.mono hl70
 replace R38 := R38.mono hl70
 replace R41 := R41.mono hl70
 refine .allocA zeroValue30 rfl rfl fun b88 => ?_
 refine .storeA sizeOf30 rfl rfl .z (.t (.t (.t (.t (.t (.t .nil)))))) rfl rfl (.nilS [6, 5] rfl rfl (.seq (.draw [some 0, some 1, some 2, some 3, some 4, some 5, some 6, some 8, some 7, some 9, some 10, some 11, some 12, some 15, some 13, some 14, some 16, some 17] 18 MX (by kernel_rfl) (by kernel_rfl) (by kernel_rfl) (by kernel_rfl) (by kernel_rfl) (by kernel_rfl) (by kernel_rfl) (fun ex => (pto b88 (.cells #[.int .i64 r68.Rows, .int .i64 r68.Cols, .slice p74 r68.At.length c75, .slice p77 r68.Start.length c78, .slice p80 r68.Row.length c81, .slice p83 r68.Val.length c84] 30 (0, 0))) :: (pto b44 (.cells #[.int .i64 r27.Rows, .int .i64 r27.Cols, .slice p33 r27.Start.length c34, .slice p36 r27.Col.length c37, .slice p39 r27.Val.length c40] 27 (0, 0))) :: ex) (fun _ _ => (.s (.s .z))) rfl (.w [] [] [] rfl (by kernel_rfl) (by kernel_rfl) (by kernel_rfl) ((dropE_kept rfl rfl)) (.inr (dropE_kept rfl rfl)) fun ex => ?_))))
 have hw91 := W_law08_live (I := I69) hd
 refine .callP call8 rfl hw91 rfl rfl fun v92 hv93 => ?_
 obtain ⟨r90, rfl, hd⟩ := hv93
 refine .some (fun ex => (pto b88 (.cells #[.int .i64 r68.Rows, .int .i64 r68.Cols, .slice p74 r68.At.length c75, .slice p77 r68.Start.length c78, .slice p80 r68.Row.length c81, .slice p83 r68.Val.length c84] 30 (0, 0))) :: (pto b44 (.cells #[.int .i64 r27.Rows, .int .i64 r27.Cols, .slice p33 r27.Start.length c34, .slice p36 r27.Col.length c37, .slice p39 r27.Val.length c40] 27 (0, 0))) :: ex) rfl (fun _ _ => (.s (.s .z))) rfl trivial (.fs [[0, 0]] rfl (by kernel_rfl) ?_)
 refine splitP hd (fun hb94 hd => ?_) fun hb94 hd => ?_
 · refine .f [1] rfl (by kernel_rfl) rfl rfl (fun ex => .gyes rfl rfl hb94 (.loadW isAgg30 sizeOf30 rfl .z rfl rfl rfl .mk)) (.w [] [[], []] [2, 1, 1] rfl (by kernel_rfl) (by kernel_rfl) (by kernel_rfl) ((dropE_kept rfl rfl)) (.inr (dropE_kept rfl rfl)) fun ex => ?_)
   have hw96 := W_dcsc_Right (I := I69) R76 R79 R82 R85 hd
   refine .gyes rfl rfl hb94 (.callP call9 rfl hw96 rfl rfl fun v97 hv98 => ?_)
   obtain ⟨r95, rfl, hd⟩ := hv98
   refine .some (fun ex => (pto b88 (.cells #[.int .i64 r68.Rows, .int .i64 r68.Cols, .slice p74 r68.At.length c75, .slice p77 r68.Start.length c78, .slice p80 r68.Row.length c81, .slice p83 r68.Val.length c84] 30 (0, 0))) :: (pto b44 (.cells #[.int .i64 r27.Rows, .int .i64 r27.Cols, .slice p33 r27.Start.length c34, .slice p36 r27.Col.length c37, .slice p39 r27.Val.length c40] 27 (0, 0))) :: ex) rfl (fun _ _ => (.s (.s .z))) rfl trivial (.f [1, 3] rfl (by kernel_rfl) rfl rfl (fun ex => .pickT rfl hb94 rfl rfl rfl .mk) (.fs [[4, 3]] rfl (by kernel_rfl) ?_))
   refine splitP hd (fun hb99 hd => ?_) fun hb99 hd => ?_
   · refine .f [5] rfl (by kernel_rfl) rfl rfl (fun ex => .gyes rfl rfl hb99 (.loadW isAgg30 sizeOf30 rfl .z rfl rfl rfl .mk)) (.f [5] rfl (by kernel_rfl) rfl rfl (fun ex => .gyes rfl rfl hb99 (.loadW isAgg27 sizeOf27 rfl (.s .z) rfl rfl rfl .mk)) (.w [8] [[], [], [5]] [6, 5, 5] rfl (by kernel_rfl) (by kernel_rfl) (by kernel_rfl) ((dropE_kept rfl rfl)) (.inr (dropE_kept rfl rfl)) fun ex => ?_))
     have hw115 := W_dcsc_Back (I := I69) R76 R79 R82 R85 hd
     refine .gyes rfl rfl hb99 (.call call11 rfl hw115 rfl rfl fun v104 I101 hl102 hv103 => ?_)
     obtain ⟨r100, p106, c107, p109, c110, p112, c113, rfl, R108, R111, R114, hd⟩ := hv103
     have le116 := IH.le.trans le87 hl102
     replace R35 := R35.mono hl102
     replace R38 := R38.mono hl102
     replace R41 := R41.mono hl102
     replace R76 := R76.mono hl102
     replace R79 := R79.mono hl102
     replace R82 := R82.mono hl102
     replace R85 := R85.mono hl102
     refine .some (fun ex => (pto b88 (.cells #[.int .i64 r68.Rows, .int .i64 r68.Cols, .slice p74 r68.At.length c75, .slice p77 r68.Start.length c78, .slice p80 r68.Row.length c81, .slice p83 r68.Val.length c84] 30 (0, 0))) :: (pto b44 (.cells #[.int .i64 r27.Rows, .int .i64 r27.Cols, .slice p33 r27.Start.length c34, .slice p36 r27.Col.length c37, .slice p39 r27.Val.length c40] 27 (0, 0))) :: ex) rfl (fun _ _ => (.s (.s .z))) rfl (.cc [5] rfl (by kernel_rfl) rfl rfl rfl (fun ex => .gyes rfl rfl hb99 (.loadW isAgg27 sizeOf27 rfl (.s .z) rfl rfl rfl .mk)) trivial) (.w [] [[]] [7, 8, 7, 5] rfl (by kernel_rfl) (by kernel_rfl) (by kernel_rfl) ((dropE_kept rfl rfl)) (.inr (dropE_kept rfl rfl)) fun ex => ?_)
     have hw118 := W_ref07_Same (I := I101) R108 R111 R114 R35 R38 R41 hd
     refine .gyes rfl rfl hb99 (.callP call10 rfl hw118 rfl rfl fun v119 hv120 => ?_)
     obtain ⟨r117, rfl, hd⟩ := hv120
     refine .some (fun ex => (pto b88 (.cells #[.int .i64 r68.Rows, .int .i64 r68.Cols, .slice p74 r68.At.length c75, .slice p77 r68.Start.length c78, .slice p80 r68.Row.length c81, .slice p83 r68.Val.length c84] 30 (0, 0))) :: (pto b44 (.cells #[.int .i64 r27.Rows, .int .i64 r27.Cols, .slice p33 r27.Start.length c34, .slice p36 r27.Col.length c37, .slice p39 r27.Val.length c40] 27 (0, 0))) :: ex) rfl (fun _ _ => (.s (.s .z))) rfl trivial (.f [5, 9] rfl (by kernel_rfl) rfl rfl (fun ex => .pickT rfl hb99 rfl rfl rfl .mk) (.fs [[10, 9]] rfl (by kernel_rfl) ?_))
     refine splitP hd (fun hb121 hd => ?_) fun hb121 hd => ?_
     · refine .f [11] rfl (by kernel_rfl) rfl rfl (fun ex => .gyes rfl rfl hb121 (.loadW isAgg30 sizeOf30 rfl .z rfl rfl rfl .mk)) (.f [11] rfl (by kernel_rfl) rfl rfl (fun ex => .gyes rfl rfl hb121 (.loadW isAgg30 sizeOf30 rfl .z rfl rfl rfl .mk)) (.w [15] [[], [], [11]] [12, 11, 11] rfl (by kernel_rfl) (by kernel_rfl) (by kernel_rfl) ((dropE_kept rfl rfl)) (.inr (dropE_kept rfl rfl)) fun ex => ?_))
       have hw137 := W_dcsc_Back (I := I101) R76 R79 R82 R85 hd
       refine .gyes rfl rfl hb121 (.call call11 rfl hw137 rfl rfl fun v126 I123 hl124 hv125 => ?_)
       obtain ⟨r122, p128, c129, p131, c132, p134, c135, rfl, R130, R133, R136, hd⟩ := hv125
       have le138 := IH.le.trans le116 hl124
       replace R35 := R35.mono hl124
       replace R38 := R38.mono hl124
       replace R41 := R41.mono hl124
       replace R76 := R76.mono hl124
       replace R79 := R79.mono hl124
       replace R82 := R82.mono hl124
       replace R85 := R85.mono hl124
       replace R108 := R108.mono hl124
       replace R111 := R111.mono hl124
       replace R114 := R114.mono hl124
       refine .some (fun ex => (pto b88 (.cells #[.int .i64 r68.Rows, .int .i64 r68.Cols, .slice p74 r68.At.length c75, .slice p77 r68.Start.length c78, .slice p80 r68.Row.length c81, .slice p83 r68.Val.length c84] 30 (0, 0))) :: (pto b44 (.cells #[.int .i64 r27.Rows, .int .i64 r27.Cols, .slice p33 r27.Start.length c34, .slice p36 r27.Col.length c37, .slice p39 r27.Val.length c40] 27 (0, 0))) :: ex) rfl (fun _ _ => (.s (.s .z))) rfl (.cc [11] rfl (by kernel_rfl) rfl rfl rfl (fun ex => .gyes rfl rfl hb121 (.loadW isAgg30 sizeOf30 rfl .z rfl rfl rfl .mk)) trivial) (.w [15] [] [13, 13, 11] rfl (by kernel_rfl) (by kernel_rfl) (by kernel_rfl) ((dropE_kept rfl rfl)) (.inr (dropE_kept rfl rfl)) fun ex => ?_)
       have hw157 := W_dcsc_Of (I := I123) R130 R133 R136 hd
       refine .gyes rfl rfl hb121 (.call call7 rfl hw157 rfl rfl fun v143 I140 hl141 hv142 => ?_)
       obtain ⟨r139, p145, c146, p148, c149, p151, c152, p154, c155, rfl, R147, R150, R153, R156, hd⟩ := hv142
       have le158 := IH.le.trans le138 hl141
       replace R35 := R35.mono hl141
       replace R38 := R38.mono hl141
       replace R41 := R41.mono hl141
       replace R76 := R76.mono hl141
       replace R79 := R79.mono hl141
       replace R82 := R82.mono hl141
       replace R85 := R85.mono hl141
       replace R108 := R108.mono hl141
       replace R111 := R111.mono hl141
       replace R114 := R114.mono hl141
       replace R130 := R130.mono hl141
       replace R133 := R133.mono hl141
       replace R136 := R136.mono hl141
       refine .some (fun ex => (pto b88 (.cells #[.int .i64 r68.Rows, .int .i64 r68.Cols, .slice p74 r68.At.length c75, .slice p77 r68.Start.length c78, .slice p80 r68.Row.length c81, .slice p83 r68.Val.length c84] 30 (0, 0))) :: (pto b44 (.cells #[.int .i64 r27.Rows, .int .i64 r27.Cols, .slice p33 r27.Start.length c34, .slice p36 r27.Col.length c37, .slice p39 r27.Val.length c40] 27 (0, 0))) :: ex) rfl (fun _ _ => (.s (.s .z))) rfl (.cc [11] rfl (by kernel_rfl) rfl rfl rfl (fun ex => .gyes rfl rfl hb121 (.loadW isAgg30 sizeOf30 rfl .z rfl rfl rfl .mk)) trivial) (.w [] [[]] [14, 15, 14, 11] rfl (by kernel_rfl) (by kernel_rfl) (by kernel_rfl) ((dropE_kept rfl rfl)) (.inr (dropE_kept rfl rfl)) fun ex => ?_)
       have hw160 := W_dcsc_Same (I := I140) R147 R150 R153 R156 R76 R79 R82 R85 hd
       refine .gyes rfl rfl hb121 (.callP call12 rfl hw160 rfl rfl fun v161 hv162 => ?_)
       obtain ⟨r159, rfl, hd⟩ := hv162
       exact .some (fun ex => (pto b88 (.cells #[.int .i64 r68.Rows, .int .i64 r68.Cols, .slice p74 r68.At.length c75, .slice p77 r68.Start.length c78, .slice p80 r68.Row.length c81, .slice p83 r68.Val.length c84] 30 (0, 0))) :: (pto b44 (.cells #[.int .i64 r27.Rows, .int .i64 r27.Cols, .slice p33 r27.Start.length c34, .slice p36 r27.Col.length c37, .slice p39 r27.Val.length c40] 27 (0, 0))) :: ex) rfl (fun _ _ => (.s (.s .z))) rfl trivial (.f [11, 16] rfl (by kernel_rfl) rfl rfl (fun ex => .pickT rfl hb121 rfl rfl rfl .mk) (.e 18 (by kernel_rfl) (by kernel_rfl) (by kernel_rfl) (.skips 1 rfl (.nilS [4] rfl rfl (.drop .z (.drop .z (.ret (pret results3 (.t rfl .n) le158 ⟨r159, rfl, hd⟩))))))))
     refine .f [11] rfl (by kernel_rfl) rfl rfl (fun ex => .gno rfl rfl hb121 rfl rfl .mk) (.f [11] rfl (by kernel_rfl) rfl rfl (fun ex => .gno rfl rfl hb121 rfl rfl .mk) (.f [12, 11, 11] rfl (by kernel_rfl) rfl rfl (fun ex => .gno rfl rfl hb121 rfl rfl .mk) (.f [13, 13, 11] rfl (by kernel_rfl) rfl rfl (fun ex => .gno rfl rfl hb121 rfl rfl .mk) (.f [14, 15, 14, 11] rfl (by kernel_rfl) rfl rfl (fun ex => .gno rfl rfl hb121 rfl rfl .mk) (.f [11, 16] rfl (by kernel_rfl) rfl rfl (fun ex => .pickF rfl hb121 rfl rfl rfl .mk) (.e 18 (by kernel_rfl) (by kernel_rfl) (by kernel_rfl) (.skips 1 rfl (.nilS [4] rfl rfl (.drop .z ?_)))))))))
     exact .drop .z (.ret (pret results3 (.t rfl .n) le116 ⟨false, rfl, hd⟩))
   refine .f [5] rfl (by kernel_rfl) rfl rfl (fun ex => .gno rfl rfl hb99 rfl rfl .mk) (.f [5] rfl (by kernel_rfl) rfl rfl (fun ex => .gno rfl rfl hb99 rfl rfl .mk) (.f [6, 5, 5] rfl (by kernel_rfl) rfl rfl (fun ex => .gno rfl rfl hb99 rfl rfl .mk) (.f [7, 8, 7, 5] rfl (by kernel_rfl) rfl rfl (fun ex => .gno rfl rfl hb99 rfl rfl .mk) (.f [5, 9] rfl (by kernel_rfl) rfl rfl (fun ex => .pickF rfl hb99 rfl rfl rfl .mk) (.fs [[10, 9], [11], [11], [12, 11, 11], [13, 13, 11], [14, 15, 14, 11], [11, 16]] rfl (by kernel_rfl) (.e 18 (by kernel_rfl) (by kernel_rfl) (by kernel_rfl) (.skips 1 rfl (.nilS [4] rfl rfl (.drop .z ?_)))))))))
   exact .drop .z (.ret (pret results3 (.t rfl .n) le87 ⟨false, rfl, hd⟩))
 exact .f [1] rfl (by kernel_rfl) rfl rfl (fun ex => .gno rfl rfl hb94 rfl rfl .mk) (.f [2, 1, 1] rfl (by kernel_rfl) rfl rfl (fun ex => .gno rfl rfl hb94 rfl rfl .mk) (.f [1, 3] rfl (by kernel_rfl) rfl rfl (fun ex => .pickF rfl hb94 rfl rfl rfl .mk) (.fs [[4, 3], [5], [5], [6, 5, 5], [7, 8, 7, 5], [5, 9], [10, 9], [11], [11], [12, 11, 11], [13, 13, 11], [14, 15, 14, 11], [11, 16]] rfl (by kernel_rfl) (.e 18 (by kernel_rfl) (by kernel_rfl) (by kernel_rfl) (.skips 1 rfl (.nilS [4] rfl rfl (.drop .z (.drop .z (.ret (pret results3 (.t rfl .n) le87 ⟨false, rfl, hd⟩))))))))))

end Go.Proofs.Ytjobeiikppmidaa
