/- The walks (printed by a program of ours). -/
import Derived.Test.YtjobeiikppmidaaV2
namespace Go.Proofs.Ytjobeiikppmidaa
open Go Go.Fw
set_option linter.unusedVariables false
set_option linter.unusedSimpArgs false
set_option maxRecDepth 8000
set_option maxHeartbeats 1000000
open Try
theorem W_law07_Size {I : IH} {a0 : Int}  {Q : Int → Prop}  (hd : law07_Size a0 Q) :
    PFun Try.prog 20 [.int .u8 a0] I (fun I_ v => ∃ r, v = .int .i64 r ∧ Q r) := by
 refine Fun.enter func20 rfl ntmps20 rfl (.c .n) fun w0 M => ?_
 refine .seq (.region (.skips 1 rfl (.nilS [0] rfl rfl (.seq (.region (.skips 1 rfl (.conv underlying5 underlying3 rfl rfl rfl (.rem rfl rfl (by decide) rfl rfl (.skips 1 rfl ?_)))))))))
 exact .nilS [2] rfl rfl (.ret (pret results20 (.t rfl .n) (.refl _) ⟨((w64 (a0)).tmod 40), rfl, hd⟩))

theorem W_law07_Few {I : IH} {a0 : List Triple} {p1 : Option Addr} {c2 : Nat} {Q : (List Triple) → Prop} (R3 : RepSl eTriple I p1 c2 a0) (hd : law07_Few a0 Q) :
    PFun Try.prog 21 [.slice p1 a0.length c2] I (fun I_ v => ∃ r p4 c5, v = .slice p4 r.length c5 ∧ RepSl eTriple I_ p4 c5 r ∧ Q r) := by
 refine Fun.enter func21 rfl ntmps21 rfl (.c .n) fun w0 M => ?_
 refine .seq (.region (.skips 1 rfl (.nilS [0] rfl rfl (.seq (.seq (.region (.skips 1 rfl (.len underlying23 rfl rfl rfl rfl (.gt rfl rfl rfl rfl ?_)))))))))
 refine .nilS [5, 0] rfl rfl (.condP rfl hd (fun hb7 hd => ?_) fun hb7 hd => ?_)
 · refine .region (.skips 1 rfl ?_)
   obtain ⟨h8, h9, h10, hd⟩ := hd
   have h16 : Int.toNat 0 ≤ Int.toNat 60 := by omega
   have h17 : Int.toNat 60 ≤ a0.length := by omega
   obtain ⟨p11, c12, e14, e15, R13⟩ := RepSl.sliceW R3 (Int.toNat 0) (Int.toNat 60) c2 h16 h17 (.inl rfl)
   exact .sliceW (L := Int.toNat 0) (H := Int.toNat 60) (cm := c2) underlying23 sizeOf49 rfl rfl R3.1 rfl rfl rfl (.inl ⟨rfl, rfl⟩) (.inr ⟨_, _, rfl, (by omega), rfl⟩) (.inl rfl) h16 h17 rfl e14 e15 rfl rfl (.sub (E' := [(5, _), (6, _), (7, _)]) ⟨rfl, rfl, rfl, trivial⟩ (.skips 1 rfl (.nilS [0] rfl rfl (.seq (.region (.skips 2 rfl (.nilS [2] rfl rfl (.ret (pret results21 (.t rfl .n) (.refl _) ⟨((a0.take (Int.toNat 60)).drop (Int.toNat 0)), _, _, rfl, R13, hd⟩)))))))))
 exact .skipS [0] rfl rfl (.seq (.region (.skips 2 rfl (.nilS [2] rfl rfl (.ret (pret results21 (.t rfl .n) (.refl _) ⟨a0, _, _, rfl, R3, hd⟩))))))

theorem W_law07_Some {I : IH} {a0 : Int × Int} {a1 : List Triple} {p1 : Option Addr} {c2 : Nat} {Q : Rows → Prop} (R3 : RepSl eTriple I p1 c2 a1) (hd : law07_Some a0 a1 Q) :
    PFun Try.prog 6 [.agg #[.int .u8 a0.1, .int .u8 a0.2], .slice p1 a1.length c2] I (fun I_ v => ∃ r p4 c5 p7 c8 p10 c11, v = .agg #[.int .i64 r.Rows, .int .i64 r.Cols, .slice p4 r.Start.length c5, .slice p7 r.Col.length c8, .slice p10 r.Val.length c11] ∧ RepSl eI64 I_ p4 c5 r.Start ∧ RepSl eI64 I_ p7 c8 r.Col ∧ RepSl eI64 I_ p10 c11 r.Val ∧ Q r) := by
 refine Fun.enter func6 rfl ntmps6 rfl (.c (.c .n)) fun w0 M => ?_
 refine .seq (.region (.boxA rfl rfl rfl fun b17 => ?_))
 refine .allocA zeroValue27 rfl rfl fun b19 => ?_
 refine .nilS [4, 2, 1] rfl rfl (.seq (.draw [some 0, some 1, some 3, some 4, some 2, some 5, some 6] 7 MX (by kernel_rfl) (by kernel_rfl) (by kernel_rfl) (by kernel_rfl) (by kernel_rfl) (by kernel_rfl) (by kernel_rfl) (fun ex => (pto b19 (.cells #[.int .i64 0, .int .i64 0, .slice none 0 0, .slice none 0 0, .slice none 0 0] 27 (0, 0))) :: (pto b17 (.cells #[.int .u8 a0.1, .int .u8 a0.2] 22 (0, 0))) :: ex) (fun _ _ => (.s (.s .z))) rfl (.f [] rfl (by kernel_rfl) rfl rfl (fun ex => .ixArr (i := 0) underlying22 sizeOf5 rfl rfl (by decide) (o := 0) rfl rfl rfl .mk) (.f [0] rfl (by kernel_rfl) rfl rfl (fun ex => .load1 isAgg5 rfl (.s .z) rfl rfl rfl .mk) (.f [] rfl (by kernel_rfl) rfl rfl (fun ex => .ixArr (i := 1) underlying22 sizeOf5 rfl rfl (by decide) (o := 1) rfl rfl rfl .mk) (.f [3] rfl (by kernel_rfl) rfl rfl (fun ex => .load1 isAgg5 rfl (.s .z) rfl rfl rfl .mk) (.w [4, 3] [[], [1]] [1] rfl (by kernel_rfl) (by kernel_rfl) (by kernel_rfl) ((dropE_kept rfl rfl)) (.inr (dropE_kept rfl rfl)) fun ex => ?_)))))))
 have hw30 := W_law07_Size (I := I) hd
 refine .callP call20 rfl hw30 rfl rfl fun v31 hv32 => ?_
 obtain ⟨r29, rfl, hd⟩ := hv32
 refine .some (fun ex => (pto b19 (.cells #[.int .i64 0, .int .i64 0, .slice none 0 0, .slice none 0 0, .slice none 0 0] 27 (0, 0))) :: (pto b17 (.cells #[.int .u8 a0.1, .int .u8 a0.2] 22 (0, 0))) :: ex) rfl (fun _ _ => (.s (.s .z))) rfl (.cc [3] rfl (by kernel_rfl) rfl rfl rfl (fun ex => .load1 isAgg5 rfl (.s .z) rfl rfl rfl .mk) (.cc [] rfl (by kernel_rfl) rfl rfl rfl (fun ex => .ixArr (i := 1) underlying22 sizeOf5 rfl rfl (by decide) (o := 1) rfl rfl rfl .mk) trivial)) (.w [] [[], [4]] [4, 2] rfl (by kernel_rfl) (by kernel_rfl) (by kernel_rfl) ((dropE_kept rfl rfl)) (.inr (dropE_kept rfl rfl)) fun ex => ?_)
 have hw34 := W_law07_Size (I := I) hd
 refine .callP call20 rfl hw34 rfl rfl fun v35 hv36 => ?_
 obtain ⟨r33, rfl, hd⟩ := hv36
 refine .some (fun ex => (pto b19 (.cells #[.int .i64 0, .int .i64 0, .slice none 0 0, .slice none 0 0, .slice none 0 0] 27 (0, 0))) :: (pto b17 (.cells #[.int .u8 a0.1, .int .u8 a0.2] 22 (0, 0))) :: ex) rfl (fun _ _ => (.s (.s .z))) rfl trivial (.fs [[2, 5, 0, 1, 2]] rfl (by kernel_rfl) (.e 7 (by kernel_rfl) (by kernel_rfl) (by kernel_rfl) (.skips 1 rfl (.nilS [6, 5, 4, 1] rfl rfl (.drop (.s .z) (.seq (.region (.skips 1 rfl (.nilS [7, 6, 5, 4, 1] rfl rfl ?_)))))))))
 refine .seq (.region (.skips 1 rfl ?_))
 have hw57 := W_law07_Few (I := I) R3 hd
 refine .call call21 rfl hw57 rfl rfl fun v52 I49 hl50 hv51 => ?_
 obtain ⟨r48, p54, c55, rfl, R56, hd⟩ := hv51
 have le58 := IH.le.trans (.refl _) hl50
 replace R3 := R3.mono hl50
 refine .sub (E' := [(4, _), (5, _), (6, _), (7, _), (18, _), (19, _)]) ⟨rfl, rfl, rfl, rfl, rfl, rfl, trivial⟩ (.skips 1 rfl (.nilS [1, 7, 6, 5, 4] rfl rfl (.seq (.seq (.region (.skips 1 rfl (.nilS [8, 1, 7, 6, 5, 4] rfl rfl (.block (.own0 eTriple 49 ?_)))))))))
 refine .loop hd (fun (s : (List Triple) × Int) c w => match s with | (s307, s311) => ∃ I_ p308 c309, IH.le I49 I_ ∧ Ok ⟨73, [], none⟩ [(1, .slice p54 r48.length c55), (4, .pointer (some ⟨b19, 0, none⟩)), (5, .int .i64 r29), (6, .int .i64 r33), (7, .slice p308 s307.length c309), (8, .int .i64 s311)] c ∧ Sym w0 M I I_ [pto b19 (.cells #[.int .i64 0, .int .i64 0, .slice none 0 0, .slice none 0 0, .slice none 0 0] 27 (0, 0)), OwnSl eTriple 49 p308 c309 s307] w) (fun c w ho hs => ⟨I49, _, _, (.refl _), ho.sub ⟨rfl, rfl, rfl, rfl, rfl, rfl, trivial⟩, hs.pick (.c (.s .z) (.c .z .n))⟩) ?_
 rintro ⟨s307, s311⟩ next313 hd c w hst
 obtain ⟨I314, p308, c309, hl315, hok, hsym⟩ := hst
 have le316 := IH.le.trans le58 hl315
 have le317 := IH.le.trans (.refl _) hl315
 replace R56 := R56.mono hl315
 refine Cod.at hok hsym (.seq (.seq (.region (.skips 2 rfl (.len underlying23 rfl rfl rfl rfl (.lt rfl rfl rfl rfl (.nilS [23, 8, 7, 6, 5, 4, 1] rfl rfl (.condP rfl hd (fun hb319 hd => ?_) fun hb319 hd => ?_))))))))
 · refine .skipS [8, 7, 6, 5, 4, 1] rfl rfl (.seq (.block (.seq (.region (.skips 2 rfl ?_)))))
   obtain ⟨h331, x332, hx333, hd⟩ := hd
   obtain ⟨b334, o335, cs336, e337, hC338, hr339⟩ := R56.2 _ _ hx333
   cases hr339
   refine .ixa underlying23 sizeOf49 rfl e337 rfl h331 (idx_lt hx333 h331) rfl rfl (.ldW isAgg49 sizeOf49 hC338 rfl rfl rfl rfl (.allocA zeroValue49 rfl rfl fun b340 => ?_))
   refine .storeA sizeOf49 rfl rfl .z (.t (.t (.t .nil))) rfl rfl (.nilS [9, 8, 7, 6, 5, 4, 1] rfl rfl (.seq (.seq (.region (.fieldAddr underlying49 rfl sizeOf3 rfl (o := 0) rfl rfl rfl (.load1 isAgg3 rfl .z rfl rfl rfl (.lt rfl rfl rfl rfl (.skips 1 rfl ?_))))))))
   refine splitP hd (fun hb346 hd => ?_) fun hb346 hd => ?_
   · rw [hb346]
     refine .skips 12 rfl (.nilS [45, 9, 8, 7, 6, 5, 4, 1] rfl rfl (.condKT rfl rfl (.exitS [8, 7, 6, 5, 4, 1] rfl rfl (.drop .z (.region (.skips 1 rfl (.add rfl rfl rfl rfl (.sub (E' := [(1, _), (4, _), (5, _), (6, _), (7, _), (24, _), (25, _)]) ⟨rfl, rfl, rfl, rfl, rfl, rfl, rfl, trivial⟩ (.skips 1 rfl ?_)))))))))
     exact .nil' fun c w ho hs => ⟨(s307, w64 (s311 + 1)), hd, I314, _, _, le317, ho.sub ⟨rfl, rfl, rfl, rfl, rfl, rfl, trivial⟩, hs.pick (.c .z (.c .z .n))⟩
   rw [hb346]
   refine .gyes rfl rfl rfl (.fieldAddr underlying49 rfl sizeOf3 rfl (o := 1) rfl rfl rfl (.gyes rfl rfl rfl (.load1 isAgg3 rfl .z rfl rfl rfl (.gyes rfl rfl rfl (.lt rfl rfl rfl rfl (.skips 2 rfl ?_))))))
   refine splitP hd (fun hb347 hd => ?_) fun hb347 hd => ?_
   · rw [hb347]
     refine .skips 7 rfl (.nilS [45, 9, 8, 7, 6, 5, 4, 1] rfl rfl (.condKT rfl rfl (.exitS [8, 7, 6, 5, 4, 1] rfl rfl (.drop .z (.region (.skips 1 rfl (.add rfl rfl rfl rfl (.sub (E' := [(1, _), (4, _), (5, _), (6, _), (7, _), (24, _), (25, _)]) ⟨rfl, rfl, rfl, rfl, rfl, rfl, rfl, trivial⟩ (.skips 1 rfl ?_)))))))))
     exact .nil' fun c w ho hs => ⟨(s307, w64 (s311 + 1)), hd, I314, _, _, le317, ho.sub ⟨rfl, rfl, rfl, rfl, rfl, rfl, trivial⟩, hs.pick (.c .z (.c .z .n))⟩
   rw [hb347]
   refine .gyes rfl rfl rfl (.move rfl rfl rfl (.gyes rfl rfl rfl (.eq rfl rfl rfl rfl (.skips 2 rfl ?_))))
   refine splitP hd (fun hb348 hd => ?_) fun hb348 hd => ?_
   · rw [hb348]
     refine .skips 3 rfl (.nilS [45, 9, 8, 7, 6, 5, 4, 1] rfl rfl (.condKT rfl rfl (.exitS [8, 7, 6, 5, 4, 1] rfl rfl (.drop .z (.region (.skips 1 rfl (.add rfl rfl rfl rfl (.sub (E' := [(1, _), (4, _), (5, _), (6, _), (7, _), (24, _), (25, _)]) ⟨rfl, rfl, rfl, rfl, rfl, rfl, rfl, trivial⟩ (.skips 1 rfl ?_)))))))))
     exact .nil' fun c w ho hs => ⟨(s307, w64 (s311 + 1)), hd, I314, _, _, le317, ho.sub ⟨rfl, rfl, rfl, rfl, rfl, rfl, trivial⟩, hs.pick (.c .z (.c .z .n))⟩
   rw [hb348]
   refine .gyes rfl rfl rfl (.move rfl rfl rfl (.gyes rfl rfl rfl (.eq rfl rfl rfl rfl (.skips 1 rfl (.nilS [45, 9, 8, 7, 6, 5, 4, 1] rfl rfl (.condP rfl hd (fun hb349 hd => ?_) fun hb349 hd => ?_))))))
   · exact .exitS [8, 7, 6, 5, 4, 1] rfl rfl (.drop .z (.region (.skips 1 rfl (.add rfl rfl rfl rfl (.sub (E' := [(1, _), (4, _), (5, _), (6, _), (7, _), (24, _), (25, _)]) ⟨rfl, rfl, rfl, rfl, rfl, rfl, rfl, trivial⟩ (.skips 1 rfl (.nil' fun c w ho hs => ⟨(s307, w64 (s311 + 1)), hd, I314, _, _, le317, ho.sub ⟨rfl, rfl, rfl, rfl, rfl, rfl, trivial⟩, hs.pick (.c .z (.c .z .n))⟩)))))))
   refine .skipS [9, 8, 7, 6, 5, 4, 1] rfl rfl (.seq (.region (.fieldAddr underlying49 rfl sizeOf3 rfl (o := 0) rfl rfl rfl (.load1 isAgg3 rfl .z rfl rfl rfl (.skips 1 rfl ?_)))))
   obtain ⟨hz351, hd⟩ := hd
   refine .rem rfl rfl hz351 rfl rfl (.fieldAddr underlying49 rfl sizeOf3 rfl (o := 0) rfl rfl rfl (.store1 sizeOf3 rfl rfl .z (.t .nil) rfl (.nilS [9, 8, 7, 6, 5, 4, 1] rfl rfl (.seq (.region (.fieldAddr underlying49 rfl sizeOf3 rfl (o := 1) rfl rfl rfl (.load1 isAgg3 rfl .z rfl rfl rfl (.skips 1 rfl ?_))))))))
   obtain ⟨hz352, hd⟩ := hd
   refine .rem rfl rfl hz352 rfl rfl (.fieldAddr underlying49 rfl sizeOf3 rfl (o := 1) rfl rfl rfl (.store1 sizeOf3 rfl rfl .z (.s (.t .nil)) rfl (.nilS [9, 8, 7, 6, 5, 4, 1] rfl rfl (.region (.skips 1 rfl (.loadW isAgg49 sizeOf49 rfl .z rfl rfl rfl (.buildSlice 1 underlying23 sizeOf49 zeroValue49 rfl rfl (.c rfl rfl rfl .n) rfl rfl fun b353 => ?_)))))))
   obtain ⟨hl355, hd⟩ := hd
   refine .append (ys := [({ Row := x332.Row.tmod r29, Col := x332.Col.tmod r33, Val := x332.Val } : Triple)]) 24 (.s (.s (.s .z))) underlying23 underlying23 IN49 rfl rfl rfl rfl rfl rfl rfl rfl rfl (.box .z (.one rfl) rfl) hl355 rfl rfl fun p356 c357 => ?_
   refine .sub (E' := [(1, _), (4, _), (5, _), (6, _), (8, _), (9, _), (56, _), (57, _), (58, _), (59, _)]) ⟨rfl, rfl, rfl, rfl, rfl, rfl, rfl, rfl, rfl, rfl, trivial⟩ (.skips 1 rfl (.nilS [7, 8, 6, 5, 4, 1] rfl rfl (.drop (.s .z) (.drop (.s .z) (.region (.skips 1 rfl (.add rfl rfl rfl rfl (.sub (E' := [(1, _), (4, _), (5, _), (6, _), (7, _), (24, _), (25, _)]) ⟨rfl, rfl, rfl, rfl, rfl, rfl, rfl, trivial⟩ (.skips 1 rfl ?_)))))))))
   exact .nil' fun c w ho hs => ⟨((s307 ++ ([({ Row := x332.Row.tmod r29, Col := x332.Col.tmod r33, Val := x332.Val } : Triple)])), w64 (s311 + 1)), hd, I314, _, _, le317, ho.sub ⟨rfl, rfl, rfl, rfl, rfl, rfl, trivial⟩, hs.pick (.c (.s .z) (.c .z .n))⟩
 refine .exitS [7, 6, 5, 4] rfl rfl (.seq (.region (.skips 3 rfl (.pub (.s .z) fun I384 hl385 R386 => ?_))))
 have le387 := IH.le.trans le316 hl385
 have le388 := IH.le.trans le317 hl385
 have hw404 := W_ref07_Of (I := I384) R386 hd
 refine .call call22 rfl hw404 rfl rfl fun v393 I390 hl391 hv392 => ?_
 obtain ⟨r389, p395, c396, p398, c399, p401, c402, rfl, R397, R400, R403, hd⟩ := hv392
 have le405 := IH.le.trans le387 hl391
 have le406 := IH.le.trans le388 hl391
 replace R386 := R386.mono hl391
 refine .skips 1 rfl (.extract rfl rfl rfl rfl (.extract rfl rfl rfl rfl (.allocA zeroValue27 rfl rfl fun b407 => ?_)))
 refine .storeA sizeOf27 rfl rfl .z (.t (.t (.t (.t (.t .nil))))) rfl rfl (.skips 1 rfl (.nilS [11, 10, 6, 5, 4] rfl rfl (.seq (.seq (.region (.skips 1 rfl (.ne rfl rfl rfl rfl (.nilS [68, 10, 6, 5, 4] rfl rfl (.condP rfl hd (fun hb409 hd => ?_) fun hb409 hd => ?_)))))))))
 · refine .seq (.region (.skips 2 rfl ?_))
   have hw428 := W_ref07_Empty (I := I390) hd
   refine .callO call23 rfl hw428 rfl rfl fun v414 I411 l415 hl412 hv413 => ?_
   obtain ⟨r410, p416, c417, p419, c420, p422, c423, rfl, rfl, hd⟩ := hv413
   have le429 := IH.le.trans le405 hl412
   have le430 := IH.le.trans le406 hl412
   replace R397 := R397.mono hl412
   replace R400 := R400.mono hl412
   replace R403 := R403.mono hl412
   refine .storeA sizeOf27 rfl rfl (.s (.s (.s (.s .z)))) (.t (.t (.t (.t (.t .nil))))) rfl rfl (.nilS [4] rfl rfl (.drop (.s (.s (.s .z))) (.pub .z fun I431 hl432 R433 => ?_)))
   have le434 := IH.le.trans le429 hl432
   have le435 := IH.le.trans le430 hl432
   refine .pub .z fun I436 hl437 R438 => ?_
   have le439 := IH.le.trans le434 hl437
   have le440 := IH.le.trans le435 hl437
   replace R433 := R433.mono hl437
   refine .pub .z fun I441 hl442 R443 => ?_
   have le444 := IH.le.trans le439 hl442
   have le445 := IH.le.trans le440 hl442
   replace R433 := R433.mono hl442
   replace R438 := R438.mono hl442
   exact .ret (pret results6 (.w isAgg27 sizeOf27 rfl .z rfl .n) le444 ⟨r410, _, _, _, _, _, _, rfl, R433, R438, R443, hd⟩)
 exact .skipS [10, 4] rfl rfl (.seq (.region (.loadW isAgg27 sizeOf27 rfl .z rfl rfl rfl (.storeA sizeOf27 rfl rfl (.s .z) (.t (.t (.t (.t (.t .nil))))) rfl rfl (.nilS [4] rfl rfl (.drop .z (.ret (pret results6 (.w isAgg27 sizeOf27 rfl .z rfl .n) le405 ⟨r389.1, _, _, _, _, _, _, rfl, R397, R400, R403, hd⟩))))))))

theorem W_law08_DcscFull {I : IH} {a0 : Int × Int} {a1 : List Triple} {p1 : Option Addr} {c2 : Nat} {Q : Bool → Prop} (R3 : RepSl eTriple I p1 c2 a1) (hd : law08_DcscFull a0 a1 Q) :
    PFun Try.prog 5 [.agg #[.int .u8 a0.1, .int .u8 a0.2], .slice p1 a1.length c2] I (fun I_ v => ∃ r, v = .bool r ∧ Q r) := by
 refine Fun.enter func5 rfl ntmps5 rfl (.c (.c .n)) fun w0 M => ?_
 refine .seq (.region (.boxA rfl rfl rfl fun b6 => ?_))
 refine .skips 1 rfl (.nilS [2, 1] rfl rfl (.seq (.region (.loadW isAgg22 sizeOf22 rfl .z rfl rfl rfl (.skips 1 rfl ?_)))))
 have hw62 := W_law07_Some (I := I) R3 hd
 refine .call call6 rfl hw62 rfl rfl fun v51 I48 hl49 hv50 => ?_
 obtain ⟨r47, p53, c54, p56, c57, p59, c60, rfl, R55, R58, R61, hd⟩ := hv50
 have le63 := IH.le.trans (.refl _) hl49
 replace R3 := R3.mono hl49
 have hw82 := W_dcsc_Of (I := I48) R55 R58 R61 hd
 refine .call call7 rfl hw82 rfl rfl fun v68 I65 hl66 hv67 => ?_
 obtain ⟨r64, p70, c71, p73, c74, p76, c77, p79, c80, rfl, R72, R75, R78, R81, hd⟩ := hv67
 have le83 := IH.le.trans le63 hl66
 replace R3 := R3.mono hl66
 replace R55 := R55.mono hl66
 replace R58 := R58.mono hl66
 replace R61 := R61.mono hl66
 refine .allocA zeroValue30 rfl rfl fun b84 => ?_
 refine .storeA sizeOf30 rfl rfl .z (.t (.t (.t (.t (.t (.t .nil)))))) rfl rfl (.nilS [5] rfl rfl (.drop (.s .z) (.seq (.seq (.region (.skips 1 rfl (.nilS [6, 5] rfl rfl (.block (.loop hd (fun (s218 : Int) c w => ∃ I_, IH.le I65 I_ ∧ Ok ⟨44, [], none⟩ [(5, .pointer (some ⟨b84, 0, none⟩)), (6, .int .i64 s218)] c ∧ Sym w0 M I I_ [pto b84 (.cells #[.int .i64 r64.Rows, .int .i64 r64.Cols, .slice p70 r64.At.length c71, .slice p73 r64.Start.length c74, .slice p76 r64.Row.length c77, .slice p79 r64.Val.length c80] 30 (0, 0))] w) (fun c w ho hs => ⟨I65, (.refl _), ho.sub ⟨rfl, rfl, trivial⟩, hs.pick (.c .z .n)⟩) ?_)))))))))
 rintro s218 next219 hd c w hst
 obtain ⟨I220, hl221, hok, hsym⟩ := hst
 have le222 := IH.le.trans le83 hl221
 have le223 := IH.le.trans (.refl _) hl221
 replace R72 := R72.mono hl221
 replace R75 := R75.mono hl221
 replace R78 := R78.mono hl221
 replace R81 := R81.mono hl221
 refine Cod.at hok hsym (.seq (.seq (.region (.skips 1 rfl (.fieldAddr underlying30 rfl sizeOf24 rfl (o := 2) rfl rfl rfl (.load1 isAgg24 rfl .z rfl rfl rfl (.len underlying24 rfl rfl rfl rfl (.lt rfl rfl rfl rfl (.nilS [15, 6, 5] rfl rfl ?_)))))))))
 refine .condP rfl hd (fun hb225 hd => ?_) fun hb225 hd => ?_
 · refine .skipS [6, 5] rfl rfl (.seq (.block (.seq (.draw [some 0, some 1, some 2, some 3, some 4, some 5, some 6, some 7, some 8] 9 MX (by kernel_rfl) (by kernel_rfl) (by kernel_rfl) (by kernel_rfl) (by kernel_rfl) (by kernel_rfl) (by kernel_rfl) (fun ex => (pto b84 (.cells #[.int .i64 r64.Rows, .int .i64 r64.Cols, .slice p70 r64.At.length c71, .slice p73 r64.Start.length c74, .slice p76 r64.Row.length c77, .slice p79 r64.Val.length c80] 30 (0, 0))) :: ex) (fun _ _ => (.s .z)) rfl (.f [] rfl (by kernel_rfl) rfl rfl (fun ex => .loadW isAgg30 sizeOf30 rfl .z rfl rfl rfl .mk) (.f [] rfl (by kernel_rfl) rfl rfl (fun ex => .fieldAddr underlying30 rfl sizeOf24 rfl (o := 2) rfl rfl rfl .mk) (.f [1] rfl (by kernel_rfl) rfl rfl (fun ex => .load1 isAgg24 rfl .z rfl rfl rfl .mk) (.fs [[]] rfl (by kernel_rfl) ?_))))))))
   obtain ⟨h226, x227, hx228, hd⟩ := hd
   obtain ⟨b229, o230, cs231, e232, hC233, hr234⟩ := R72.2 _ _ hx228
   cases hr234
   refine .f [2, 3] rfl (by kernel_rfl) rfl rfl (fun ex => .ixa underlying24 sizeOf3 rfl e232 rfl h226 (idx_lt hx228 h226) rfl rfl .mk) (.f [4] rfl (by kernel_rfl) rfl rfl (fun ex => .ld1 (j := 0) isAgg3 hC233 rfl rfl rfl rfl rfl .mk) (.w [] [[], [5], [4, 5], [4, 5], [2, 4, 5], []] [0, 5] rfl (by kernel_rfl) (by kernel_rfl) (by kernel_rfl) ((dropE_kept rfl rfl)) (.inr (dropE_kept rfl rfl)) fun ex => ?_))
   have hw244 := W_dcsc_Column (I := I220) R72 R75 R78 R81 hd
   refine .call call14 rfl hw244 rfl rfl fun v239 I236 hl237 hv238 => ?_
   obtain ⟨r235, p241, c242, rfl, R243, hd⟩ := hv238
   have le245 := IH.le.trans le222 hl237
   have le246 := IH.le.trans le223 hl237
   replace R72 := R72.mono hl237
   replace R75 := R75.mono hl237
   replace R78 := R78.mono hl237
   replace R81 := R81.mono hl237
   replace hC233 := hC233.mono hl237
   refine .some (fun ex => (pto b84 (.cells #[.int .i64 r64.Rows, .int .i64 r64.Cols, .slice p70 r64.At.length c71, .slice p73 r64.Start.length c74, .slice p76 r64.Row.length c77, .slice p79 r64.Val.length c80] 30 (0, 0))) :: ex) rfl (fun _ _ => (.s .z)) rfl trivial (.f [6] rfl (by kernel_rfl) rfl rfl (fun ex => .len underlying39 rfl rfl rfl rfl .mk) (.f [7] rfl (by kernel_rfl) rfl rfl (fun ex => .eq rfl rfl rfl rfl .mk) (.e 9 (by kernel_rfl) (by kernel_rfl) (by kernel_rfl) (.nilS [26, 6, 5] rfl rfl (.condP rfl hd (fun hb247 hd => ?_) fun hb247 hd => ?_)))))
   · exact .seq (.region (.skips 1 rfl (.nilS [4] rfl rfl (.drop .z (.ret (pret results5 (.t rfl .n) le245 ⟨false, rfl, hd⟩))))))
   exact .skipS [6, 5] rfl rfl (.region (.skips 1 rfl (.add rfl rfl rfl rfl (.sub (E' := [(5, _), (16, _), (17, _)]) ⟨rfl, rfl, rfl, trivial⟩ (.skips 1 rfl (.nil' fun c w ho hs => ⟨(w64 (s218 + 1)), hd, I236, le246, ho.sub ⟨rfl, rfl, trivial⟩, hs.pick (.c .z .n)⟩))))))
 refine .exitS [5] rfl rfl (.seq (.draw [some 0, some 1, some 2, some 4, some 3, some 5, some 6, some 7, some 8, some 9, some 10, some 11, some 13, some 12, some 14, some 15, some 16] 17 MX (by kernel_rfl) (by kernel_rfl) (by kernel_rfl) (by kernel_rfl) (by kernel_rfl) (by kernel_rfl) (by kernel_rfl) (fun ex => (pto b84 (.cells #[.int .i64 r64.Rows, .int .i64 r64.Cols, .slice p70 r64.At.length c71, .slice p73 r64.Start.length c74, .slice p76 r64.Row.length c77, .slice p79 r64.Val.length c80] 30 (0, 0))) :: ex) (fun _ _ => (.s .z)) rfl (.w [] [] [] rfl (by kernel_rfl) (by kernel_rfl) (by kernel_rfl) ((dropE_kept rfl rfl)) (.inr (dropE_kept rfl rfl)) fun ex => ?_)))
 have hw249 := W_law08_live (I := I220) hd
 refine .callP call8 rfl hw249 rfl rfl fun v250 hv251 => ?_
 obtain ⟨r248, rfl, hd⟩ := hv251
 refine .some (fun ex => (pto b84 (.cells #[.int .i64 r64.Rows, .int .i64 r64.Cols, .slice p70 r64.At.length c71, .slice p73 r64.Start.length c74, .slice p76 r64.Row.length c77, .slice p79 r64.Val.length c80] 30 (0, 0))) :: ex) rfl (fun _ _ => (.s .z)) rfl trivial (.fs [[0, 0]] rfl (by kernel_rfl) ?_)
 refine splitP hd (fun hb252 hd => ?_) fun hb252 hd => ?_
 · refine .f [1] rfl (by kernel_rfl) rfl rfl (fun ex => .gyes rfl rfl hb252 (.loadW isAgg30 sizeOf30 rfl .z rfl rfl rfl .mk)) (.f [1] rfl (by kernel_rfl) rfl rfl (fun ex => .gyes rfl rfl hb252 (.loadW isAgg30 sizeOf30 rfl .z rfl rfl rfl .mk)) (.w [4] [[], []] [2, 1, 1] rfl (by kernel_rfl) (by kernel_rfl) (by kernel_rfl) ((dropE_kept rfl rfl)) (.inr (dropE_kept rfl rfl)) fun ex => ?_))
   have hw254 := W_dcsc_Many (I := I220) R72 R75 R78 R81 hd
   refine .gyes rfl rfl hb252 (.callP call17 rfl hw254 rfl rfl fun v255 hv256 => ?_)
   obtain ⟨r253, rfl, hd⟩ := hv256
   refine .some (fun ex => (pto b84 (.cells #[.int .i64 r64.Rows, .int .i64 r64.Cols, .slice p70 r64.At.length c71, .slice p73 r64.Start.length c74, .slice p76 r64.Row.length c77, .slice p79 r64.Val.length c80] 30 (0, 0))) :: ex) rfl (fun _ _ => (.s .z)) rfl (.cc [1] rfl (by kernel_rfl) rfl rfl rfl (fun ex => .gyes rfl rfl hb252 (.loadW isAgg30 sizeOf30 rfl .z rfl rfl rfl .mk)) trivial) (.w [] [[]] [4, 3, 1] rfl (by kernel_rfl) (by kernel_rfl) (by kernel_rfl) ((dropE_kept rfl rfl)) (.inr (dropE_kept rfl rfl)) fun ex => ?_)
   have hw258 := W_dcsc_Count (I := I220) R72 R75 R78 R81 hd
   refine .gyes rfl rfl hb252 (.callP call18 rfl hw258 rfl rfl fun v259 hv260 => ?_)
   obtain ⟨r257, rfl, hd⟩ := hv260
   refine .some (fun ex => (pto b84 (.cells #[.int .i64 r64.Rows, .int .i64 r64.Cols, .slice p70 r64.At.length c71, .slice p73 r64.Start.length c74, .slice p76 r64.Row.length c77, .slice p79 r64.Val.length c80] 30 (0, 0))) :: ex) rfl (fun _ _ => (.s .z)) rfl trivial (.f [3, 5, 1] rfl (by kernel_rfl) rfl rfl (fun ex => .gyes rfl rfl hb252 (.le' rfl rfl rfl rfl .mk)) (.f [1, 6] rfl (by kernel_rfl) rfl rfl (fun ex => .pickT rfl hb252 rfl rfl rfl .mk) (.fs [[7, 5]] rfl (by kernel_rfl) ?_)))
   refine splitP hd (fun hb261 hd => ?_) fun hb261 hd => ?_
   · refine .f [8] rfl (by kernel_rfl) rfl rfl (fun ex => .gyes rfl rfl hb261 (.loadW isAgg30 sizeOf30 rfl .z rfl rfl rfl .mk)) (.f [8] rfl (by kernel_rfl) rfl rfl (fun ex => .gyes rfl rfl hb261 (.fieldAddr underlying30 rfl sizeOf24 rfl (o := 2) rfl rfl rfl .mk)) (.f [10, 8] rfl (by kernel_rfl) rfl rfl (fun ex => .gyes rfl rfl hb261 (.load1 isAgg24 rfl .z rfl rfl rfl .mk)) (.f [8] rfl (by kernel_rfl) rfl rfl (fun ex => .gyes rfl rfl hb261 (.loadW isAgg30 sizeOf30 rfl .z rfl rfl rfl .mk)) (.w [13] [[], [11], [], [], [8], [7, 8]] [9, 11, 8, 8] rfl (by kernel_rfl) (by kernel_rfl) (by kernel_rfl) ((dropE_kept rfl rfl)) (.inr (dropE_kept rfl rfl)) fun ex => ?_))))
     have hw263 := W_dcsc_Work (I := I220) R72 R75 R78 R81 R72 hd
     refine .gyes rfl rfl hb261 (.callP call19 rfl hw263 rfl rfl fun v264 hv265 => ?_)
     obtain ⟨r262, rfl, hd⟩ := hv265
     refine .some (fun ex => (pto b84 (.cells #[.int .i64 r64.Rows, .int .i64 r64.Cols, .slice p70 r64.At.length c71, .slice p73 r64.Start.length c74, .slice p76 r64.Row.length c77, .slice p79 r64.Val.length c80] 30 (0, 0))) :: ex) rfl (fun _ _ => (.s .z)) rfl (.cc [8] rfl (by kernel_rfl) rfl rfl rfl (fun ex => .gyes rfl rfl hb261 (.loadW isAgg30 sizeOf30 rfl .z rfl rfl rfl .mk)) trivial) (.w [] [[]] [13, 12, 8] rfl (by kernel_rfl) (by kernel_rfl) (by kernel_rfl) ((dropE_kept rfl rfl)) (.inr (dropE_kept rfl rfl)) fun ex => ?_)
     have hw267 := W_dcsc_Count (I := I220) R72 R75 R78 R81 hd
     refine .gyes rfl rfl hb261 (.callP call18 rfl hw267 rfl rfl fun v268 hv269 => ?_)
     obtain ⟨r266, rfl, hd⟩ := hv269
     exact .some (fun ex => (pto b84 (.cells #[.int .i64 r64.Rows, .int .i64 r64.Cols, .slice p70 r64.At.length c71, .slice p73 r64.Start.length c74, .slice p76 r64.Row.length c77, .slice p79 r64.Val.length c80] 30 (0, 0))) :: ex) rfl (fun _ _ => (.s .z)) rfl trivial (.f [12, 14, 8] rfl (by kernel_rfl) rfl rfl (fun ex => .gyes rfl rfl hb261 (.eq rfl rfl rfl rfl .mk)) (.f [8, 15] rfl (by kernel_rfl) rfl rfl (fun ex => .pickT rfl hb261 rfl rfl rfl .mk) (.e 17 (by kernel_rfl) (by kernel_rfl) (by kernel_rfl) (.skips 1 rfl (.nilS [4] rfl rfl (.drop .z (.ret (pret results5 (.t rfl .n) le222 ⟨(r262 == r266), rfl, hd⟩))))))))
   refine .f [8] rfl (by kernel_rfl) rfl rfl (fun ex => .gno rfl rfl hb261 rfl rfl .mk) (.f [8] rfl (by kernel_rfl) rfl rfl (fun ex => .gno rfl rfl hb261 rfl rfl .mk) (.f [10, 8] rfl (by kernel_rfl) rfl rfl (fun ex => .gno rfl rfl hb261 rfl rfl .mk) (.f [8] rfl (by kernel_rfl) rfl rfl (fun ex => .gno rfl rfl hb261 rfl rfl .mk) (.f [9, 11, 8, 8] rfl (by kernel_rfl) rfl rfl (fun ex => .gno rfl rfl hb261 rfl rfl .mk) (.f [13, 12, 8] rfl (by kernel_rfl) rfl rfl (fun ex => .gno rfl rfl hb261 rfl rfl .mk) (.f [12, 14, 8] rfl (by kernel_rfl) rfl rfl (fun ex => .gno rfl rfl hb261 rfl rfl .mk) (.f [8, 15] rfl (by kernel_rfl) rfl rfl (fun ex => .pickF rfl hb261 rfl rfl rfl .mk) (.e 17 (by kernel_rfl) (by kernel_rfl) (by kernel_rfl) (.skips 1 rfl ?_)))))))))
   exact .nilS [4] rfl rfl (.drop .z (.ret (pret results5 (.t rfl .n) le222 ⟨false, rfl, hd⟩)))
 refine .f [1] rfl (by kernel_rfl) rfl rfl (fun ex => .gno rfl rfl hb252 rfl rfl .mk) (.f [1] rfl (by kernel_rfl) rfl rfl (fun ex => .gno rfl rfl hb252 rfl rfl .mk) (.f [2, 1, 1] rfl (by kernel_rfl) rfl rfl (fun ex => .gno rfl rfl hb252 rfl rfl .mk) (.f [4, 3, 1] rfl (by kernel_rfl) rfl rfl (fun ex => .gno rfl rfl hb252 rfl rfl .mk) (.f [3, 5, 1] rfl (by kernel_rfl) rfl rfl (fun ex => .gno rfl rfl hb252 rfl rfl .mk) (.f [1, 6] rfl (by kernel_rfl) rfl rfl (fun ex => .pickF rfl hb252 rfl rfl rfl .mk) (.fs [[7, 5], [8], [8], [10, 8], [8], [9, 11, 8, 8], [13, 12, 8], [12, 14, 8], [8, 15]] rfl (by kernel_rfl) (.e 17 (by kernel_rfl) (by kernel_rfl) (by kernel_rfl) (.skips 1 rfl (.nilS [4] rfl rfl ?_)))))))))
 exact .drop .z (.ret (pret results5 (.t rfl .n) le222 ⟨false, rfl, hd⟩))

end Go.Proofs.Ytjobeiikppmidaa
