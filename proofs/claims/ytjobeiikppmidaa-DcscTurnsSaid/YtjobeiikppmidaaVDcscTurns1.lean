/- The walks (printed by a program of ours). -/
import Derived.Test.YtjobeiikppmidaaV2
namespace Go.Proofs.Ytjobeiikppmidaa
open Go Go.Fw
set_option linter.unusedVariables false
set_option linter.unusedSimpArgs false
set_option maxRecDepth 8000
set_option maxHeartbeats 1000000
open Try
theorem W_law07_Size {I : IH} {a0 : Int}  {Q : Int → Prop}  (hd : law07_Size a0 Q) :
    PFun Try.prog 20 [.int .u8 a0] I (fun I_ v => ∃ r, v = .int .i64 r ∧ Q r) := by
 refine Fun.enter func20 rfl ntmps20 rfl (.c .n) fun w0 M => ?_
 refine .seq (.region (.skips 1 rfl (.nilS [0] rfl rfl (.seq (.region (.skips 1 rfl (.conv underlying5 underlying3 rfl rfl rfl (.rem rfl rfl (by decide) rfl rfl (.skips 1 rfl ?_)))))))))
 exact .nilS [2] rfl rfl (.ret (pret results20 (.t rfl .n) (.refl _) ⟨((w64 (a0)).tmod 40), rfl, hd⟩))

theorem W_law07_Few {I : IH} {a0 : List Triple} {p1 : Option Addr} {c2 : Nat} {Q : (List Triple) → Prop} (R3 : RepSl eTriple I p1 c2 a0) (hd : law07_Few a0 Q) :
    PFun Try.prog 21 [.slice p1 a0.length c2] I (fun I_ v => ∃ r p4 c5, v = .slice p4 r.length c5 ∧ RepSl eTriple I_ p4 c5 r ∧ Q r) := by
 refine Fun.enter func21 rfl ntmps21 rfl (.c .n) fun w0 M => ?_
 refine .seq (.region (.skips 1 rfl (.nilS [0] rfl rfl (.seq (.seq (.region (.skips 1 rfl (.len underlying23 rfl rfl rfl rfl (.gt rfl rfl rfl rfl ?_)))))))))
 refine .nilS [5, 0] rfl rfl (.condP rfl hd (fun hb7 hd => ?_) fun hb7 hd => ?_)
 · refine .region (.skips 1 rfl ?_)
   obtain ⟨h8, h9, h10, hd⟩ := hd
   have h16 : Int.toNat 0 ≤ Int.toNat 60 := by omega
   have h17 : Int.toNat 60 ≤ a0.length := by omega
   obtain ⟨p11, c12, e14, e15, R13⟩ := RepSl.sliceW R3 (Int.toNat 0) (Int.toNat 60) c2 h16 h17 (.inl rfl)
   exact .sliceW (L := Int.toNat 0) (H := Int.toNat 60) (cm := c2) underlying23 sizeOf49 rfl rfl R3.1 rfl rfl rfl (.inl ⟨rfl, rfl⟩) (.inr ⟨_, _, rfl, (by omega), rfl⟩) (.inl rfl) h16 h17 rfl e14 e15 rfl rfl (.sub (E' := [(5, _), (6, _), (7, _)]) ⟨rfl, rfl, rfl, trivial⟩ (.skips 1 rfl (.nilS [0] rfl rfl (.seq (.region (.skips 2 rfl (.nilS [2] rfl rfl (.ret (pret results21 (.t rfl .n) (.refl _) ⟨((a0.take (Int.toNat 60)).drop (Int.toNat 0)), _, _, rfl, R13, hd⟩)))))))))
 exact .skipS [0] rfl rfl (.seq (.region (.skips 2 rfl (.nilS [2] rfl rfl (.ret (pret results21 (.t rfl .n) (.refl _) ⟨a0, _, _, rfl, R3, hd⟩))))))

theorem W_law07_Some {I : IH} {a0 : Int × Int} {a1 : List Triple} {p1 : Option Addr} {c2 : Nat} {Q : Rows → Prop} (R3 : RepSl eTriple I p1 c2 a1) (hd : law07_Some a0 a1 Q) :
    PFun Try.prog 6 [.agg #[.int .u8 a0.1, .int .u8 a0.2], .slice p1 a1.length c2] I (fun I_ v => ∃ r p4 c5 p7 c8 p10 c11, v = .agg #[.int .i64 r.Rows, .int .i64 r.Cols, .slice p4 r.Start.length c5, .slice p7 r.Col.length c8, .slice p10 r.Val.length c11] ∧ RepSl eI64 I_ p4 c5 r.Start ∧ RepSl eI64 I_ p7 c8 r.Col ∧ RepSl eI64 I_ p10 c11 r.Val ∧ Q r) := by
 refine Fun.enter func6 rfl ntmps6 rfl (.c (.c .n)) fun w0 M => ?_
 refine .seq (.region (.boxA rfl rfl rfl fun b17 => ?_))
 refine .allocA zeroValue27 rfl rfl fun b19 => ?_
 refine .nilS [4, 2, 1] rfl rfl (.seq (.draw [some 0, some 1, some 3, some 4, some 2, some 5, some 6] 7 MX (by kernel_rfl) (by kernel_rfl) (by kernel_rfl) (by kernel_rfl) (by kernel_rfl) (by kernel_rfl) (by kernel_rfl) (fun ex => (pto b19 (.cells #[.int .i64 0, .int .i64 0, .slice none 0 0, .slice none 0 0, .slice none 0 0] 27 (0, 0))) :: (pto b17 (.cells #[.int .u8 a0.1, .int .u8 a0.2] 22 (0, 0))) :: ex) (fun _ _ => (.s (.s .z))) rfl (.f [] rfl (by kernel_rfl) rfl rfl (fun ex => .ixArr (i := 0) underlying22 sizeOf5 rfl rfl (by decide) (o := 0) rfl rfl rfl .mk) (.f [0] rfl (by kernel_rfl) rfl rfl (fun ex => .load1 isAgg5 rfl (.s .z) rfl rfl rfl .mk) (.f [] rfl (by kernel_rfl) rfl rfl (fun ex => .ixArr (i := 1) underlying22 sizeOf5 rfl rfl (by decide) (o := 1) rfl rfl rfl .mk) (.f [3] rfl (by kernel_rfl) rfl rfl (fun ex => .load1 isAgg5 rfl (.s .z) rfl rfl rfl .mk) (.w [4, 3] [[], [1]] [1] rfl (by kernel_rfl) (by kernel_rfl) (by kernel_rfl) ((dropE_kept rfl rfl)) (.inr (dropE_kept rfl rfl)) fun ex => ?_)))))))
 have hw30 := W_law07_Size (I := I) hd
 refine .callP call20 rfl hw30 rfl rfl fun v31 hv32 => ?_
 obtain ⟨r29, rfl, hd⟩ := hv32
 refine .some (fun ex => (pto b19 (.cells #[.int .i64 0, .int .i64 0, .slice none 0 0, .slice none 0 0, .slice none 0 0] 27 (0, 0))) :: (pto b17 (.cells #[.int .u8 a0.1, .int .u8 a0.2] 22 (0, 0))) :: ex) rfl (fun _ _ => (.s (.s .z))) rfl (.cc [3] rfl (by kernel_rfl) rfl rfl rfl (fun ex => .load1 isAgg5 rfl (.s .z) rfl rfl rfl .mk) (.cc [] rfl (by kernel_rfl) rfl rfl rfl (fun ex => .ixArr (i := 1) underlying22 sizeOf5 rfl rfl (by decide) (o := 1) rfl rfl rfl .mk) trivial)) (.w [] [[], [4]] [4, 2] rfl (by kernel_rfl) (by kernel_rfl) (by kernel_rfl) ((dropE_kept rfl rfl)) (.inr (dropE_kept rfl rfl)) fun ex => ?_)
 have hw34 := W_law07_Size (I := I) hd
 refine .callP call20 rfl hw34 rfl rfl fun v35 hv36 => ?_
 obtain ⟨r33, rfl, hd⟩ := hv36
 refine .some (fun ex => (pto b19 (.cells #[.int .i64 0, .int .i64 0, .slice none 0 0, .slice none 0 0, .slice none 0 0] 27 (0, 0))) :: (pto b17 (.cells #[.int .u8 a0.1, .int .u8 a0.2] 22 (0, 0))) :: ex) rfl (fun _ _ => (.s (.s .z))) rfl trivial (.fs [[2, 5, 0, 1, 2]] rfl (by kernel_rfl) (.e 7 (by kernel_rfl) (by kernel_rfl) (by kernel_rfl) (.skips 1 rfl (.nilS [6, 5, 4, 1] rfl rfl (.drop (.s .z) (.seq (.region (.skips 1 rfl (.nilS [7, 6, 5, 4, 1] rfl rfl ?_)))))))))
 refine .seq (.region (.skips 1 rfl ?_))
 have hw57 := W_law07_Few (I := I) R3 hd
 refine .call call21 rfl hw57 rfl rfl fun v52 I49 hl50 hv51 => ?_
 obtain ⟨r48, p54, c55, rfl, R56, hd⟩ := hv51
 have le58 := IH.le.trans (.refl _) hl50
 replace R3 := R3.mono hl50
 refine .sub (E' := [(4, _), (5, _), (6, _), (7, _), (18, _), (19, _)]) ⟨rfl, rfl, rfl, rfl, rfl, rfl, trivial⟩ (.skips 1 rfl (.nilS [1, 7, 6, 5, 4] rfl rfl (.seq (.seq (.region (.skips 1 rfl (.nilS [8, 1, 7, 6, 5, 4] rfl rfl (.block (.own0 eTriple 49 ?_)))))))))
 refine .loop hd (fun (s : (List Triple) × Int) c w => match s with | (s307, s311) => ∃ I_ p308 c309, IH.le I49 I_ ∧ Ok ⟨73, [], none⟩ [(1, .slice p54 r48.length c55), (4, .pointer (some ⟨b19, 0, none⟩)), (5, .int .i64 r29), (6, .int .i64 r33), (7, .slice p308 s307.length c309), (8, .int .i64 s311)] c ∧ Sym w0 M I I_ [pto b19 (.cells #[.int .i64 0, .int .i64 0, .slice none 0 0, .slice none 0 0, .slice none 0 0] 27 (0, 0)), OwnSl eTriple 49 p308 c309 s307] w) (fun c w ho hs => ⟨I49, _, _, (.refl _), ho.sub ⟨rfl, rfl, rfl, rfl, rfl, rfl, trivial⟩, hs.pick (.c (.s .z) (.c .z .n))⟩) ?_
 rintro ⟨s307, s311⟩ next313 hd c w hst
 obtain ⟨I314, p308, c309, hl315, hok, hsym⟩ := hst
 have le316 := IH.le.trans le58 hl315
 have le317 := IH.le.trans (.refl _) hl315
 replace R56 := R56.mono hl315
 refine Cod.at hok hsym (.seq (.seq (.region (.skips 2 rfl (.len underlying23 rfl rfl rfl rfl (.lt rfl rfl rfl rfl (.nilS [23, 8, 7, 6, 5, 4, 1] rfl rfl (.condP rfl hd (fun hb319 hd => ?_) fun hb319 hd => ?_))))))))
 · refine .skipS [8, 7, 6, 5, 4, 1] rfl rfl (.seq (.block (.seq (.region (.skips 2 rfl ?_)))))
   obtain ⟨h331, x332, hx333, hd⟩ := hd
   obtain ⟨b334, o335, cs336, e337, hC338, hr339⟩ := R56.2 _ _ hx333
   cases hr339
   refine .ixa underlying23 sizeOf49 rfl e337 rfl h331 (idx_lt hx333 h331) rfl rfl (.ldW isAgg49 sizeOf49 hC338 rfl rfl rfl rfl (.allocA zeroValue49 rfl rfl fun b340 => ?_))
   refine .storeA sizeOf49 rfl rfl .z (.t (.t (.t .nil))) rfl rfl (.nilS [9, 8, 7, 6, 5, 4, 1] rfl rfl (.seq (.seq (.region (.fieldAddr underlying49 rfl sizeOf3 rfl (o := 0) rfl rfl rfl (.load1 isAgg3 rfl .z rfl rfl rfl (.lt rfl rfl rfl rfl (.skips 1 rfl ?_))))))))
   refine splitP hd (fun hb346 hd => ?_) fun hb346 hd => ?_
   · rw [hb346]
     refine .skips 12 rfl (.nilS [45, 9, 8, 7, 6, 5, 4, 1] rfl rfl (.condKT rfl rfl (.exitS [8, 7, 6, 5, 4, 1] rfl rfl (.drop .z (.region (.skips 1 rfl (.add rfl rfl rfl rfl (.sub (E' := [(1, _), (4, _), (5, _), (6, _), (7, _), (24, _), (25, _)]) ⟨rfl, rfl, rfl, rfl, rfl, rfl, rfl, trivial⟩ (.skips 1 rfl ?_)))))))))
     exact .nil' fun c w ho hs => ⟨(s307, w64 (s311 + 1)), hd, I314, _, _, le317, ho.sub ⟨rfl, rfl, rfl, rfl, rfl, rfl, trivial⟩, hs.pick (.c .z (.c .z .n))⟩
   rw [hb346]
   refine .gyes rfl rfl rfl (.fieldAddr underlying49 rfl sizeOf3 rfl (o := 1) rfl rfl rfl (.gyes rfl rfl rfl (.load1 isAgg3 rfl .z rfl rfl rfl (.gyes rfl rfl rfl (.lt rfl rfl rfl rfl (.skips 2 rfl ?_))))))
   refine splitP hd (fun hb347 hd => ?_) fun hb347 hd => ?_
   · rw [hb347]
     refine .skips 7 rfl (.nilS [45, 9, 8, 7, 6, 5, 4, 1] rfl rfl (.condKT rfl rfl (.exitS [8, 7, 6, 5, 4, 1] rfl rfl (.drop .z (.region (.skips 1 rfl (.add rfl rfl rfl rfl (.sub (E' := [(1, _), (4, _), (5, _), (6, _), (7, _), (24, _), (25, _)]) ⟨rfl, rfl, rfl, rfl, rfl, rfl, rfl, trivial⟩ (.skips 1 rfl ?_)))))))))
     exact .nil' fun c w ho hs => ⟨(s307, w64 (s311 + 1)), hd, I314, _, _, le317, ho.sub ⟨rfl, rfl, rfl, rfl, rfl, rfl, trivial⟩, hs.pick (.c .z (.c .z .n))⟩
   rw [hb347]
   refine .gyes rfl rfl rfl (.move rfl rfl rfl (.gyes rfl rfl rfl (.eq rfl rfl rfl rfl (.skips 2 rfl ?_))))
   refine splitP hd (fun hb348 hd => ?_) fun hb348 hd => ?_
   · rw [hb348]
     refine .skips 3 rfl (.nilS [45, 9, 8, 7, 6, 5, 4, 1] rfl rfl (.condKT rfl rfl (.exitS [8, 7, 6, 5, 4, 1] rfl rfl (.drop .z (.region (.skips 1 rfl (.add rfl rfl rfl rfl (.sub (E' := [(1, _), (4, _), (5, _), (6, _), (7, _), (24, _), (25, _)]) ⟨rfl, rfl, rfl, rfl, rfl, rfl, rfl, trivial⟩ (.skips 1 rfl ?_)))))))))
     exact .nil' fun c w ho hs => ⟨(s307, w64 (s311 + 1)), hd, I314, _, _, le317, ho.sub ⟨rfl, rfl, rfl, rfl, rfl, rfl, trivial⟩, hs.pick (.c .z (.c .z .n))⟩
   rw [hb348]
   refine .gyes rfl rfl rfl (.move rfl rfl rfl (.gyes rfl rfl rfl (.eq rfl rfl rfl rfl (.skips 1 rfl (.nilS [45, 9, 8, 7, 6, 5, 4, 1] rfl rfl (.condP rfl hd (fun hb349 hd => ?_) fun hb349 hd => ?_))))))
   · exact .exitS [8, 7, 6, 5, 4, 1] rfl rfl (.drop .z (.region (.skips 1 rfl (.add rfl rfl rfl rfl (.sub (E' := [(1, _), (4, _), (5, _), (6, _), (7, _), (24, _), (25, _)]) ⟨rfl, rfl, rfl, rfl, rfl, rfl, rfl, trivial⟩ (.skips 1 rfl (.nil' fun c w ho hs => ⟨(s307, w64 (s311 + 1)), hd, I314, _, _, le317, ho.sub ⟨rfl, rfl, rfl, rfl, rfl, rfl, trivial⟩, hs.pick (.c .z (.c .z .n))⟩)))))))
   refine .skipS [9, 8, 7, 6, 5, 4, 1] rfl rfl (.seq (.region (.fieldAddr underlying49 rfl sizeOf3 rfl (o := 0) rfl rfl rfl (.load1 isAgg3 rfl .z rfl rfl rfl (.skips 1 rfl ?_)))))
   obtain ⟨hz351, hd⟩ := hd
   refine .rem rfl rfl hz351 rfl rfl (.fieldAddr underlying49 rfl sizeOf3 rfl (o := 0) rfl rfl rfl (.store1 sizeOf3 rfl rfl .z (.t .nil) rfl (.nilS [9, 8, 7, 6, 5, 4, 1] rfl rfl (.seq (.region (.fieldAddr underlying49 rfl sizeOf3 rfl (o := 1) rfl rfl rfl (.load1 isAgg3 rfl .z rfl rfl rfl (.skips 1 rfl ?_))))))))
   obtain ⟨hz352, hd⟩ := hd
   refine .rem rfl rfl hz352 rfl rfl (.fieldAddr underlying49 rfl sizeOf3 rfl (o := 1) rfl rfl rfl (.store1 sizeOf3 rfl rfl .z (.s (.t .nil)) rfl (.nilS [9, 8, 7, 6, 5, 4, 1] rfl rfl (.region (.skips 1 rfl (.loadW isAgg49 sizeOf49 rfl .z rfl rfl rfl (.buildSlice 1 underlying23 sizeOf49 zeroValue49 rfl rfl (.c rfl rfl rfl .n) rfl rfl fun b353 => ?_)))))))
   obtain ⟨hl355, hd⟩ := hd
   refine .append (ys := [({ Row := x332.Row.tmod r29, Col := x332.Col.tmod r33, Val := x332.Val } : Triple)]) 24 (.s (.s (.s .z))) underlying23 underlying23 IN49 rfl rfl rfl rfl rfl rfl rfl rfl rfl (.box .z (.one rfl) rfl) hl355 rfl rfl fun p356 c357 => ?_
   refine .sub (E' := [(1, _), (4, _), (5, _), (6, _), (8, _), (9, _), (56, _), (57, _), (58, _), (59, _)]) ⟨rfl, rfl, rfl, rfl, rfl, rfl, rfl, rfl, rfl, rfl, trivial⟩ (.skips 1 rfl (.nilS [7, 8, 6, 5, 4, 1] rfl rfl (.drop (.s .z) (.drop (.s .z) (.region (.skips 1 rfl (.add rfl rfl rfl rfl (.sub (E' := [(1, _), (4, _), (5, _), (6, _), (7, _), (24, _), (25, _)]) ⟨rfl, rfl, rfl, rfl, rfl, rfl, rfl, trivial⟩ (.skips 1 rfl ?_)))))))))
   exact .nil' fun c w ho hs => ⟨((s307 ++ ([({ Row := x332.Row.tmod r29, Col := x332.Col.tmod r33, Val := x332.Val } : Triple)])), w64 (s311 + 1)), hd, I314, _, _, le317, ho.sub ⟨rfl, rfl, rfl, rfl, rfl, rfl, trivial⟩, hs.pick (.c (.s .z) (.c .z .n))⟩
 refine .exitS [7, 6, 5, 4] rfl rfl (.seq (.region (.skips 3 rfl (.pub (.s .z) fun I384 hl385 R386 => ?_))))
 have le387 := IH.le.trans le316 hl385
 have le388 := IH.le.trans le317 hl385
 have hw404 := W_ref07_Of (I := I384) R386 hd
 refine .call call22 rfl hw404 rfl rfl fun v393 I390 hl391 hv392 => ?_
 obtain ⟨r389, p395, c396, p398, c399, p401, c402, rfl, R397, R400, R403, hd⟩ := hv392
 have le405 := IH.le.trans le387 hl391
 have le406 := IH.le.trans le388 hl391
 replace R386 := R386.mono hl391
 refine .skips 1 rfl (.extract rfl rfl rfl rfl (.extract rfl rfl rfl rfl (.allocA zeroValue27 rfl rfl fun b407 => ?_)))
 refine .storeA sizeOf27 rfl rfl .z (.t (.t (.t (.t (.t .nil))))) rfl rfl (.skips 1 rfl (.nilS [11, 10, 6, 5, 4] rfl rfl (.seq (.seq (.region (.skips 1 rfl (.ne rfl rfl rfl rfl (.nilS [68, 10, 6, 5, 4] rfl rfl (.condP rfl hd (fun hb409 hd => ?_) fun hb409 hd => ?_)))))))))
 · refine .seq (.region (.skips 2 rfl ?_))
   have hw428 := W_ref07_Empty (I := I390) hd
   refine .callO call23 rfl hw428 rfl rfl fun v414 I411 l415 hl412 hv413 => ?_
   obtain ⟨r410, p416, c417, p419, c420, p422, c423, rfl, rfl, hd⟩ := hv413
   have le429 := IH.le.trans le405 hl412
   have le430 := IH.le.trans le406 hl412
   replace R397 := R397.mono hl412
   replace R400 := R400.mono hl412
   replace R403 := R403.mono hl412
   refine .storeA sizeOf27 rfl rfl (.s (.s (.s (.s .z)))) (.t (.t (.t (.t (.t .nil))))) rfl rfl (.nilS [4] rfl rfl (.drop (.s (.s (.s .z))) (.pub .z fun I431 hl432 R433 => ?_)))
   have le434 := IH.le.trans le429 hl432
   have le435 := IH.le.trans le430 hl432
   refine .pub .z fun I436 hl437 R438 => ?_
   have le439 := IH.le.trans le434 hl437
   have le440 := IH.le.trans le435 hl437
   replace R433 := R433.mono hl437
   refine .pub .z fun I441 hl442 R443 => ?_
   have le444 := IH.le.trans le439 hl442
   have le445 := IH.le.trans le440 hl442
   replace R433 := R433.mono hl442
   replace R438 := R438.mono hl442
   exact .ret (pret results6 (.w isAgg27 sizeOf27 rfl .z rfl .n) le444 ⟨r410, _, _, _, _, _, _, rfl, R433, R438, R443, hd⟩)
 exact .skipS [10, 4] rfl rfl (.seq (.region (.loadW isAgg27 sizeOf27 rfl .z rfl rfl rfl (.storeA sizeOf27 rfl rfl (.s .z) (.t (.t (.t (.t (.t .nil))))) rfl rfl (.nilS [4] rfl rfl (.drop .z (.ret (pret results6 (.w isAgg27 sizeOf27 rfl .z rfl .n) le405 ⟨r389.1, _, _, _, _, _, _, rfl, R397, R400, R403, hd⟩))))))))

theorem W_ref07_SameItems {I : IH} {a0 : List Item} {a1 : List Item} {p1 : Option Addr} {c2 : Nat} {p4 : Option Addr} {c5 : Nat} {Q : Bool → Prop} (R3 : RepSl eItem I p1 c2 a0) (R6 : RepSl eItem I p4 c5 a1) (hd : ref07_SameItems a0 a1 Q) :
    PFun Try.prog 13 [.slice p1 a0.length c2, .slice p4 a1.length c5] I (fun I_ v => ∃ r, v = .bool r ∧ Q r) := by
 refine Fun.enter func13 rfl ntmps13 rfl (.c (.c .n)) fun w0 M => ?_
 refine .seq (.region (.skips 1 rfl (.nilS [1, 0] rfl rfl (.seq (.seq (.region (.skips 1 rfl (.len underlying39 rfl rfl rfl rfl (.skips 1 rfl ?_)))))))))
 refine .len underlying39 rfl rfl rfl rfl (.ne rfl rfl rfl rfl (.nilS [10, 1, 0] rfl rfl (.condP rfl hd (fun hb8 hd => ?_) fun hb8 hd => ?_)))
 · exact .seq (.region (.skips 1 rfl (.nilS [4] rfl rfl (.ret (pret results13 (.t rfl .n) (.refl _) ⟨false, rfl, hd⟩)))))
 refine .skipS [1, 0] rfl rfl (.seq (.seq (.region (.skips 1 rfl (.nilS [5, 1, 0] rfl rfl (.block (.loop hd (fun (s54 : Int) c w => ∃ I_, IH.le I I_ ∧ Ok ⟨26, [], none⟩ [(0, .slice p1 a0.length c2), (1, .slice p4 a1.length c5), (5, .int .i64 s54)] c ∧ Sym w0 M I I_ [] w) (fun c w ho hs => ⟨I, (.refl _), ho.sub ⟨rfl, rfl, rfl, trivial⟩, hs.pick .n⟩) ?_)))))))
 rintro s54 next55 hd c w hst
 obtain ⟨I56, hl57, hok, hsym⟩ := hst
 have le58 := IH.le.trans (.refl _) hl57
 replace R3 := R3.mono hl57
 replace R6 := R6.mono hl57
 refine Cod.at hok hsym (.seq (.seq (.region (.skips 2 rfl (.len underlying39 rfl rfl rfl rfl (.lt rfl rfl rfl rfl (.nilS [14, 5, 1, 0] rfl rfl (.condP rfl hd (fun hb60 hd => ?_) fun hb60 hd => ?_))))))))
 · refine .skipS [5, 1, 0] rfl rfl (.seq (.block (.seq (.draw [some 0, some 1, some 2, some 3, some 4, some 5, some 6, some 7, some 8] 9 MX (by kernel_rfl) (by kernel_rfl) (by kernel_rfl) (by kernel_rfl) (by kernel_rfl) (by kernel_rfl) (by kernel_rfl) (fun ex => ex) (fun _ _ => .z) rfl (.fs [[], []] rfl (by kernel_rfl) ?_)))))
   obtain ⟨h61, x62, hx63, hd⟩ := hd
   obtain ⟨b64, o65, cs66, e67, hC68, hr69⟩ := R3.2 _ _ hx63
   cases hr69
   refine .f [0, 1] rfl (by kernel_rfl) rfl rfl (fun ex => .ixa underlying39 sizeOf59 rfl e67 rfl h61 (idx_lt hx63 h61) rfl rfl .mk) (.f [2] rfl (by kernel_rfl) rfl rfl (fun ex => .ldW isAgg59 sizeOf59 hC68 rfl rfl rfl rfl .mk) (.fs [[], []] rfl (by kernel_rfl) ?_))
   obtain ⟨h70, x71, hx72, hd⟩ := hd
   obtain ⟨b73, o74, cs75, e76, hC77, hr78⟩ := R6.2 _ _ hx72
   cases hr78
   refine .f [4, 5] rfl (by kernel_rfl) rfl rfl (fun ex => .ixa underlying39 sizeOf59 rfl e76 rfl h70 (idx_lt hx72 h70) rfl rfl .mk) (.f [6] rfl (by kernel_rfl) rfl rfl (fun ex => .ldW isAgg59 sizeOf59 hC77 rfl rfl rfl rfl .mk) (.f [3, 7] rfl (by kernel_rfl) rfl rfl (fun ex => .neV rfl rfl (EQ59 x62 x71) (EG59 _ _ _ _ _) rfl rfl rfl .mk) (.e 9 (by kernel_rfl) (by kernel_rfl) (by kernel_rfl) (.nilS [25, 5, 1, 0] rfl rfl (.condP rfl hd (fun hb79 hd => ?_) fun hb79 hd => ?_)))))
   · exact .seq (.region (.skips 1 rfl (.nilS [4] rfl rfl (.ret (pret results13 (.t rfl .n) le58 ⟨false, rfl, hd⟩)))))
   exact .skipS [5, 1, 0] rfl rfl (.region (.skips 1 rfl (.add rfl rfl rfl rfl (.sub (E' := [(0, _), (1, _), (15, _), (16, _)]) ⟨rfl, rfl, rfl, rfl, trivial⟩ (.skips 1 rfl (.nil' fun c w ho hs => ⟨(w64 (s54 + 1)), hd, I56, le58, ho.sub ⟨rfl, rfl, rfl, trivial⟩, hs.pick .n⟩))))))
 exact .exitS [] rfl rfl (.seq (.region (.skips 1 rfl (.nilS [4] rfl rfl (.ret (pret results13 (.t rfl .n) le58 ⟨true, rfl, hd⟩))))))

theorem W_ref07_Right {I : IH} {a0 : Rows} {p1 : Option Addr} {c2 : Nat} {p4 : Option Addr} {c5 : Nat} {p7 : Option Addr} {c8 : Nat} {Q : Bool → Prop} (R3 : RepSl eI64 I p1 c2 a0.Start) (R6 : RepSl eI64 I p4 c5 a0.Col) (R9 : RepSl eI64 I p7 c8 a0.Val) (hd : ref07_Right a0 Q) :
    PFun Try.prog 58 [.agg #[.int .i64 a0.Rows, .int .i64 a0.Cols, .slice p1 a0.Start.length c2, .slice p4 a0.Col.length c5, .slice p7 a0.Val.length c8]] I (fun I_ v => ∃ r, v = .bool r ∧ Q r) := by
 refine Fun.enter func58 rfl ntmps58 rfl (.c .n) fun w0 M => ?_
 refine .seq (.region (.boxA rfl rfl rfl fun b12 => ?_))
 refine .skips 1 rfl (.nilS [1] rfl rfl (.seq (.seq (.region (.fieldAddr underlying27 rfl sizeOf3 rfl (o := 0) rfl rfl rfl (.load1 isAgg3 rfl .z rfl rfl rfl (.lt rfl rfl rfl rfl (.skips 1 rfl ?_))))))))
 refine splitP hd (fun hb21 hd => ?_) fun hb21 hd => ?_
 · rw [hb21]
   exact .skips 38 rfl (.nilS [46, 1] rfl rfl (.condKT rfl rfl (.seq (.region (.skips 1 rfl (.nilS [2] rfl rfl (.drop .z (.ret (pret results58 (.t rfl .n) (.refl _) ⟨false, rfl, hd⟩)))))))))
 rw [hb21]
 refine .gyes rfl rfl rfl (.fieldAddr underlying27 rfl sizeOf3 rfl (o := 0) rfl rfl rfl (.gyes rfl rfl rfl (.load1 isAgg3 rfl .z rfl rfl rfl (.gyes rfl rfl rfl (.gt rfl rfl rfl rfl (.skips 2 rfl ?_))))))
 refine splitP hd (fun hb22 hd => ?_) fun hb22 hd => ?_
 · rw [hb22]
   exact .skips 33 rfl (.nilS [46, 1] rfl rfl (.condKT rfl rfl (.seq (.region (.skips 1 rfl (.nilS [2] rfl rfl (.drop .z (.ret (pret results58 (.t rfl .n) (.refl _) ⟨false, rfl, hd⟩)))))))))
 rw [hb22]
 refine .gyes rfl rfl rfl (.fieldAddr underlying27 rfl sizeOf3 rfl (o := 1) rfl rfl rfl (.gyes rfl rfl rfl (.load1 isAgg3 rfl .z rfl rfl rfl (.gyes rfl rfl rfl (.lt rfl rfl rfl rfl (.skips 2 rfl ?_))))))
 refine splitP hd (fun hb23 hd => ?_) fun hb23 hd => ?_
 · rw [hb23]
   exact .skips 28 rfl (.nilS [46, 1] rfl rfl (.condKT rfl rfl (.seq (.region (.skips 1 rfl (.nilS [2] rfl rfl (.drop .z (.ret (pret results58 (.t rfl .n) (.refl _) ⟨false, rfl, hd⟩)))))))))
 rw [hb23]
 refine .gyes rfl rfl rfl (.fieldAddr underlying27 rfl sizeOf3 rfl (o := 1) rfl rfl rfl (.gyes rfl rfl rfl (.load1 isAgg3 rfl .z rfl rfl rfl (.gyes rfl rfl rfl (.gt rfl rfl rfl rfl (.skips 2 rfl ?_))))))
 refine splitP hd (fun hb24 hd => ?_) fun hb24 hd => ?_
 · rw [hb24]
   exact .skips 23 rfl (.nilS [46, 1] rfl rfl (.condKT rfl rfl (.seq (.region (.skips 1 rfl (.nilS [2] rfl rfl (.drop .z (.ret (pret results58 (.t rfl .n) (.refl _) ⟨false, rfl, hd⟩)))))))))
 rw [hb24]
 refine .gyes rfl rfl rfl (.fieldAddr underlying27 rfl sizeOf24 rfl (o := 2) rfl rfl rfl (.gyes rfl rfl rfl (.load1 isAgg24 rfl .z rfl rfl rfl (.gyes rfl rfl rfl (.len underlying24 rfl rfl rfl rfl (.gyes rfl rfl rfl (.fieldAddr underlying27 rfl sizeOf3 rfl (o := 0) rfl rfl rfl (.gyes rfl rfl rfl (.load1 isAgg3 rfl .z rfl rfl rfl (.gyes rfl rfl rfl (.add rfl rfl rfl rfl (.gyes rfl rfl rfl (.ne rfl rfl rfl rfl (.skips 2 rfl ?_))))))))))))))
 refine splitP hd (fun hb25 hd => ?_) fun hb25 hd => ?_
 · rw [hb25]
   exact .skips 14 rfl (.nilS [46, 1] rfl rfl (.condKT rfl rfl (.seq (.region (.skips 1 rfl (.nilS [2] rfl rfl (.drop .z (.ret (pret results58 (.t rfl .n) (.refl _) ⟨false, rfl, hd⟩)))))))))
 rw [hb25]
 refine .gyes rfl rfl rfl (.fieldAddr underlying27 rfl sizeOf24 rfl (o := 3) rfl rfl rfl (.gyes rfl rfl rfl (.load1 isAgg24 rfl .z rfl rfl rfl (.gyes rfl rfl rfl (.len underlying24 rfl rfl rfl rfl (.gyes rfl rfl rfl (.fieldAddr underlying27 rfl sizeOf25 rfl (o := 4) rfl rfl rfl (.gyes rfl rfl rfl (.load1 isAgg25 rfl .z rfl rfl rfl (.gyes rfl rfl rfl (.len underlying25 rfl rfl rfl rfl (.gyes rfl rfl rfl (.ne rfl rfl rfl rfl (.skips 2 rfl ?_))))))))))))))
 refine splitP hd (fun hb26 hd => ?_) fun hb26 hd => ?_
 · rw [hb26]
   exact .skips 5 rfl (.nilS [46, 1] rfl rfl (.condKT rfl rfl (.seq (.region (.skips 1 rfl (.nilS [2] rfl rfl (.drop .z (.ret (pret results58 (.t rfl .n) (.refl _) ⟨false, rfl, hd⟩)))))))))
 rw [hb26]
 refine .gyes rfl rfl rfl (.fieldAddr underlying27 rfl sizeOf24 rfl (o := 3) rfl rfl rfl (.gyes rfl rfl rfl (.load1 isAgg24 rfl .z rfl rfl rfl (.gyes rfl rfl rfl (.len underlying24 rfl rfl rfl rfl (.gyes rfl rfl rfl (.gt rfl rfl rfl rfl (.skips 1 rfl (.nilS [46, 1] rfl rfl (.condP rfl hd (fun hb27 hd => ?_) fun hb27 hd => ?_))))))))))
 · exact .seq (.region (.skips 1 rfl (.nilS [2] rfl rfl (.drop .z (.ret (pret results58 (.t rfl .n) (.refl _) ⟨false, rfl, hd⟩))))))
 refine .skipS [1] rfl rfl (.seq (.seq (.draw [some 0, some 1, some 2, some 3, some 4, some 5, some 6, some 7, some 8, some 9, some 10, some 11, some 12, some 13, some 14, some 15, some 16] 17 MX (by kernel_rfl) (by kernel_rfl) (by kernel_rfl) (by kernel_rfl) (by kernel_rfl) (by kernel_rfl) (by kernel_rfl) (fun ex => (pto b12 (.cells #[.int .i64 a0.Rows, .int .i64 a0.Cols, .slice p1 a0.Start.length c2, .slice p4 a0.Col.length c5, .slice p7 a0.Val.length c8] 27 (0, 0))) :: ex) (fun _ _ => (.s .z)) rfl (.f [] rfl (by kernel_rfl) rfl rfl (fun ex => .fieldAddr underlying27 rfl sizeOf24 rfl (o := 2) rfl rfl rfl .mk) (.f [0] rfl (by kernel_rfl) rfl rfl (fun ex => .load1 isAgg24 rfl .z rfl rfl rfl .mk) ?_)))))
 obtain ⟨h48, x49, hx50, hd⟩ := hd
 obtain ⟨b51, o52, cs53, e54, hC55, hr56⟩ := R3.2 _ _ hx50
 cases hr56
 refine .f [1] rfl (by kernel_rfl) rfl rfl (fun ex => .ixa underlying24 sizeOf3 rfl e54 rfl h48 (idx_lt hx50 h48) rfl rfl .mk) (.f [2] rfl (by kernel_rfl) rfl rfl (fun ex => .ld1 (j := 0) isAgg3 hC55 rfl rfl rfl rfl rfl .mk) (.f [3] rfl (by kernel_rfl) rfl rfl (fun ex => .ne rfl rfl rfl rfl .mk) (.fs [[4]] rfl (by kernel_rfl) ?_)))
 refine splitP hd (fun hb57 hd => ?_) fun hb57 hd => ?_
 · refine .f [5] rfl (by kernel_rfl) rfl rfl (fun ex => .gno rfl rfl hb57 rfl rfl .mk) (.f [6, 5] rfl (by kernel_rfl) rfl rfl (fun ex => .gno rfl rfl hb57 rfl rfl .mk) (.f [5] rfl (by kernel_rfl) rfl rfl (fun ex => .gno rfl rfl hb57 rfl rfl .mk) (.f [8, 5] rfl (by kernel_rfl) rfl rfl (fun ex => .gno rfl rfl hb57 rfl rfl .mk) (.f [7, 9, 5] rfl (by kernel_rfl) rfl rfl (fun ex => .gno rfl rfl hb57 rfl rfl .mk) (.f [10, 5] rfl (by kernel_rfl) rfl rfl (fun ex => .gno rfl rfl hb57 rfl rfl .mk) (.f [5] rfl (by kernel_rfl) rfl rfl (fun ex => .gno rfl rfl hb57 rfl rfl .mk) (.f [12, 5] rfl (by kernel_rfl) rfl rfl (fun ex => .gno rfl rfl hb57 rfl rfl .mk) (.f [13, 5] rfl (by kernel_rfl) rfl rfl (fun ex => .gno rfl rfl hb57 rfl rfl .mk) (.f [11, 14, 5] rfl (by kernel_rfl) rfl rfl (fun ex => .gno rfl rfl hb57 rfl rfl .mk) ?_)))))))))
   exact .f [5, 15] rfl (by kernel_rfl) rfl rfl (fun ex => .pickT rfl hb57 rfl rfl rfl .mk) (.e 17 (by kernel_rfl) (by kernel_rfl) (by kernel_rfl) (.nilS [63, 1] rfl rfl (.condKT rfl rfl (.seq (.region (.skips 1 rfl (.nilS [2] rfl rfl (.drop .z (.ret (pret results58 (.t rfl .n) (.refl _) ⟨false, rfl, hd⟩))))))))))
 refine .f [5] rfl (by kernel_rfl) rfl rfl (fun ex => .gyes rfl rfl hb57 (.fieldAddr underlying27 rfl sizeOf24 rfl (o := 2) rfl rfl rfl .mk)) (.f [6, 5] rfl (by kernel_rfl) rfl rfl (fun ex => .gyes rfl rfl hb57 (.load1 isAgg24 rfl .z rfl rfl rfl .mk)) (.f [5] rfl (by kernel_rfl) rfl rfl (fun ex => .gyes rfl rfl hb57 (.fieldAddr underlying27 rfl sizeOf3 rfl (o := 0) rfl rfl rfl .mk)) (.f [8, 5] rfl (by kernel_rfl) rfl rfl (fun ex => .gyes rfl rfl hb57 (.load1 isAgg3 rfl .z rfl rfl rfl .mk)) ?_)))
 obtain ⟨h58, x59, hx60, hd⟩ := hd
 obtain ⟨b61, o62, cs63, e64, hC65, hr66⟩ := R3.2 _ _ hx60
 cases hr66
 refine .f [7, 9, 5] rfl (by kernel_rfl) rfl rfl (fun ex => .gyes rfl rfl hb57 (.ixa underlying24 sizeOf3 rfl e64 rfl h58 (idx_lt hx60 h58) rfl rfl .mk)) (.f [10, 5] rfl (by kernel_rfl) rfl rfl (fun ex => .gyes rfl rfl hb57 (.ld1 (j := 0) isAgg3 hC65 rfl rfl rfl rfl rfl .mk)) (.f [5] rfl (by kernel_rfl) rfl rfl (fun ex => .gyes rfl rfl hb57 (.fieldAddr underlying27 rfl sizeOf24 rfl (o := 3) rfl rfl rfl .mk)) (.f [12, 5] rfl (by kernel_rfl) rfl rfl (fun ex => .gyes rfl rfl hb57 (.load1 isAgg24 rfl .z rfl rfl rfl .mk)) (.f [13, 5] rfl (by kernel_rfl) rfl rfl (fun ex => .gyes rfl rfl hb57 (.len underlying24 rfl rfl rfl rfl .mk)) (.f [11, 14, 5] rfl (by kernel_rfl) rfl rfl (fun ex => .gyes rfl rfl hb57 (.ne rfl rfl rfl rfl .mk)) (.f [5, 15] rfl (by kernel_rfl) rfl rfl (fun ex => .pickF rfl hb57 rfl rfl rfl .mk) (.e 17 (by kernel_rfl) (by kernel_rfl) (by kernel_rfl) (.nilS [63, 1] rfl rfl (.condP rfl hd (fun hb67 hd => ?_) fun hb67 hd => ?_)))))))))
 · exact .seq (.region (.skips 1 rfl (.nilS [2] rfl rfl (.drop .z (.ret (pret results58 (.t rfl .n) (.refl _) ⟨false, rfl, hd⟩))))))
 refine .skipS [1] rfl rfl (.seq (.seq (.region (.skips 1 rfl (.nilS [3, 1] rfl rfl (.block (.loop hd (fun (s697 : Int) c w => ∃ I_, IH.le I I_ ∧ Ok ⟨156, [], none⟩ [(1, .pointer (some ⟨b12, 0, none⟩)), (3, .int .i64 s697)] c ∧ Sym w0 M I I_ [pto b12 (.cells #[.int .i64 a0.Rows, .int .i64 a0.Cols, .slice p1 a0.Start.length c2, .slice p4 a0.Col.length c5, .slice p7 a0.Val.length c8] 27 (0, 0))] w) (fun c w ho hs => ⟨I, (.refl _), ho.sub ⟨rfl, rfl, trivial⟩, hs.pick (.c .z .n)⟩) ?_)))))))
 rintro s697 next698 hd c w hst
 obtain ⟨I699, hl700, hok, hsym⟩ := hst
 have le701 := IH.le.trans (.refl _) hl700
 replace R3 := R3.mono hl700
 replace R6 := R6.mono hl700
 replace R9 := R9.mono hl700
 refine Cod.at hok hsym (.seq (.seq (.region (.skips 1 rfl (.fieldAddr underlying27 rfl sizeOf3 rfl (o := 0) rfl rfl rfl (.load1 isAgg3 rfl .z rfl rfl rfl (.lt rfl rfl rfl rfl (.nilS [67, 3, 1] rfl rfl (.condP rfl hd (fun hb703 hd => ?_) fun hb703 hd => ?_)))))))))
 · refine .skipS [3, 1] rfl rfl (.seq (.block (.seq (.seq (.draw [some 0, some 1, some 2, some 3, some 4, some 5, some 6, some 7, some 8, some 9, some 10, some 11, some 12, some 13, some 14, some 15, some 16, some 17, some 18, some 19, some 20, some 21, some 22, some 23, some 24, some 25, some 26, some 27, some 28, some 29, some 30, some 31] 32 MX (by kernel_rfl) (by kernel_rfl) (by kernel_rfl) (by kernel_rfl) (by kernel_rfl) (by kernel_rfl) (by kernel_rfl) (fun ex => (pto b12 (.cells #[.int .i64 a0.Rows, .int .i64 a0.Cols, .slice p1 a0.Start.length c2, .slice p4 a0.Col.length c5, .slice p7 a0.Val.length c8] 27 (0, 0))) :: ex) (fun _ _ => (.s .z)) rfl (.f [] rfl (by kernel_rfl) rfl rfl (fun ex => .fieldAddr underlying27 rfl sizeOf24 rfl (o := 2) rfl rfl rfl .mk) (.f [0] rfl (by kernel_rfl) rfl rfl (fun ex => .load1 isAgg24 rfl .z rfl rfl rfl .mk) (.fs [[]] rfl (by kernel_rfl) ?_))))))))
   obtain ⟨h743, x744, hx745, hd⟩ := hd
   obtain ⟨b746, o747, cs748, e749, hC750, hr751⟩ := R3.2 _ _ hx745
   cases hr751
   refine .f [1, 2] rfl (by kernel_rfl) rfl rfl (fun ex => .ixa underlying24 sizeOf3 rfl e749 rfl h743 (idx_lt hx745 h743) rfl rfl .mk) (.f [3] rfl (by kernel_rfl) rfl rfl (fun ex => .ld1 (j := 0) isAgg3 hC750 rfl rfl rfl rfl rfl .mk) (.f [] rfl (by kernel_rfl) rfl rfl (fun ex => .fieldAddr underlying27 rfl sizeOf24 rfl (o := 2) rfl rfl rfl .mk) (.f [5] rfl (by kernel_rfl) rfl rfl (fun ex => .load1 isAgg24 rfl .z rfl rfl rfl .mk) (.fs [[]] rfl (by kernel_rfl) (.f [7] rfl (by kernel_rfl) rfl rfl (fun ex => .add rfl rfl rfl rfl .mk) ?_)))))
   obtain ⟨h752, x753, hx754, hd⟩ := hd
   obtain ⟨b755, o756, cs757, e758, hC759, hr760⟩ := R3.2 _ _ hx754
   cases hr760
   refine .f [6, 8] rfl (by kernel_rfl) rfl rfl (fun ex => .ixa underlying24 sizeOf3 rfl e758 rfl h752 (idx_lt hx754 h752) rfl rfl .mk) (.f [9] rfl (by kernel_rfl) rfl rfl (fun ex => .ld1 (j := 0) isAgg3 hC759 rfl rfl rfl rfl rfl .mk) (.f [4, 10] rfl (by kernel_rfl) rfl rfl (fun ex => .gt rfl rfl rfl rfl .mk) (.fs [[11]] rfl (by kernel_rfl) ?_)))
   refine splitP hd (fun hb761 hd => ?_) fun hb761 hd => ?_
   · refine .f [12] rfl (by kernel_rfl) rfl rfl (fun ex => .gno rfl rfl hb761 rfl rfl .mk) (.f [13, 12] rfl (by kernel_rfl) rfl rfl (fun ex => .gno rfl rfl hb761 rfl rfl .mk) (.f [12] rfl (by kernel_rfl) rfl rfl (fun ex => .gno rfl rfl hb761 rfl rfl .mk) (.f [14, 15, 12] rfl (by kernel_rfl) rfl rfl (fun ex => .gno rfl rfl hb761 rfl rfl .mk) (.f [16, 12] rfl (by kernel_rfl) rfl rfl (fun ex => .gno rfl rfl hb761 rfl rfl .mk) (.f [17, 12] rfl (by kernel_rfl) rfl rfl (fun ex => .gno rfl rfl hb761 rfl rfl .mk) (.f [12, 18] rfl (by kernel_rfl) rfl rfl (fun ex => .pickT rfl hb761 rfl rfl rfl .mk) (.fs [[19, 12], [20], [21, 20], [20], [23, 20], [22, 24, 20], [25, 20], [20], [27, 20], [28, 20], [26, 29, 20], [20, 30]] rfl (by kernel_rfl) (.e 32 (by kernel_rfl) (by kernel_rfl) (by kernel_rfl) (.nilS [101, 3, 1] rfl rfl ?_)))))))))
     exact .condKT rfl rfl (.seq (.region (.skips 1 rfl (.nilS [2] rfl rfl (.drop .z (.ret (pret results58 (.t rfl .n) le701 ⟨false, rfl, hd⟩)))))))
   refine .f [12] rfl (by kernel_rfl) rfl rfl (fun ex => .gyes rfl rfl hb761 (.fieldAddr underlying27 rfl sizeOf24 rfl (o := 2) rfl rfl rfl .mk)) (.f [13, 12] rfl (by kernel_rfl) rfl rfl (fun ex => .gyes rfl rfl hb761 (.load1 isAgg24 rfl .z rfl rfl rfl .mk)) (.f [12] rfl (by kernel_rfl) rfl rfl (fun ex => .gyes rfl rfl hb761 (.move rfl rfl rfl .mk)) ?_))
   obtain ⟨h762, x763, hx764, hd⟩ := hd
   obtain ⟨b765, o766, cs767, e768, hC769, hr770⟩ := R3.2 _ _ hx764
   cases hr770
   refine .f [14, 15, 12] rfl (by kernel_rfl) rfl rfl (fun ex => .gyes rfl rfl hb761 (.ixa underlying24 sizeOf3 rfl e768 rfl h762 (idx_lt hx764 h762) rfl rfl .mk)) (.f [16, 12] rfl (by kernel_rfl) rfl rfl (fun ex => .gyes rfl rfl hb761 (.ld1 (j := 0) isAgg3 hC769 rfl rfl rfl rfl rfl .mk)) (.f [17, 12] rfl (by kernel_rfl) rfl rfl (fun ex => .gyes rfl rfl hb761 (.lt rfl rfl rfl rfl .mk)) (.f [12, 18] rfl (by kernel_rfl) rfl rfl (fun ex => .pickF rfl hb761 rfl rfl rfl .mk) (.fs [[19, 12]] rfl (by kernel_rfl) ?_))))
   refine splitP hd (fun hb771 hd => ?_) fun hb771 hd => ?_
   · refine .f [20] rfl (by kernel_rfl) rfl rfl (fun ex => .gno rfl rfl hb771 rfl rfl .mk) (.f [21, 20] rfl (by kernel_rfl) rfl rfl (fun ex => .gno rfl rfl hb771 rfl rfl .mk) (.f [20] rfl (by kernel_rfl) rfl rfl (fun ex => .gno rfl rfl hb771 rfl rfl .mk) (.f [23, 20] rfl (by kernel_rfl) rfl rfl (fun ex => .gno rfl rfl hb771 rfl rfl .mk) (.f [22, 24, 20] rfl (by kernel_rfl) rfl rfl (fun ex => .gno rfl rfl hb771 rfl rfl .mk) (.f [25, 20] rfl (by kernel_rfl) rfl rfl (fun ex => .gno rfl rfl hb771 rfl rfl .mk) (.f [20] rfl (by kernel_rfl) rfl rfl (fun ex => .gno rfl rfl hb771 rfl rfl .mk) (.f [27, 20] rfl (by kernel_rfl) rfl rfl (fun ex => .gno rfl rfl hb771 rfl rfl .mk) (.f [28, 20] rfl (by kernel_rfl) rfl rfl (fun ex => .gno rfl rfl hb771 rfl rfl .mk) (.f [26, 29, 20] rfl (by kernel_rfl) rfl rfl (fun ex => .gno rfl rfl hb771 rfl rfl .mk) ?_)))))))))
     exact .f [20, 30] rfl (by kernel_rfl) rfl rfl (fun ex => .pickT rfl hb771 rfl rfl rfl .mk) (.e 32 (by kernel_rfl) (by kernel_rfl) (by kernel_rfl) (.nilS [101, 3, 1] rfl rfl (.condKT rfl rfl (.seq (.region (.skips 1 rfl (.nilS [2] rfl rfl (.drop .z (.ret (pret results58 (.t rfl .n) le701 ⟨false, rfl, hd⟩))))))))))
   refine .f [20] rfl (by kernel_rfl) rfl rfl (fun ex => .gyes rfl rfl hb771 (.fieldAddr underlying27 rfl sizeOf24 rfl (o := 2) rfl rfl rfl .mk)) (.f [21, 20] rfl (by kernel_rfl) rfl rfl (fun ex => .gyes rfl rfl hb771 (.load1 isAgg24 rfl .z rfl rfl rfl .mk)) (.f [20] rfl (by kernel_rfl) rfl rfl (fun ex => .gyes rfl rfl hb771 (.move rfl rfl rfl .mk)) (.f [23, 20] rfl (by kernel_rfl) rfl rfl (fun ex => .gyes rfl rfl hb771 (.add rfl rfl rfl rfl .mk)) ?_)))
   obtain ⟨h772, x773, hx774, hd⟩ := hd
   obtain ⟨b775, o776, cs777, e778, hC779, hr780⟩ := R3.2 _ _ hx774
   cases hr780
   refine .f [22, 24, 20] rfl (by kernel_rfl) rfl rfl (fun ex => .gyes rfl rfl hb771 (.ixa underlying24 sizeOf3 rfl e778 rfl h772 (idx_lt hx774 h772) rfl rfl .mk)) (.f [25, 20] rfl (by kernel_rfl) rfl rfl (fun ex => .gyes rfl rfl hb771 (.ld1 (j := 0) isAgg3 hC779 rfl rfl rfl rfl rfl .mk)) (.f [20] rfl (by kernel_rfl) rfl rfl (fun ex => .gyes rfl rfl hb771 (.fieldAddr underlying27 rfl sizeOf24 rfl (o := 3) rfl rfl rfl .mk)) (.f [27, 20] rfl (by kernel_rfl) rfl rfl (fun ex => .gyes rfl rfl hb771 (.load1 isAgg24 rfl .z rfl rfl rfl .mk)) (.f [28, 20] rfl (by kernel_rfl) rfl rfl (fun ex => .gyes rfl rfl hb771 (.len underlying24 rfl rfl rfl rfl .mk)) (.f [26, 29, 20] rfl (by kernel_rfl) rfl rfl (fun ex => .gyes rfl rfl hb771 (.gt rfl rfl rfl rfl .mk)) (.f [20, 30] rfl (by kernel_rfl) rfl rfl (fun ex => .pickF rfl hb771 rfl rfl rfl .mk) (.e 32 (by kernel_rfl) (by kernel_rfl) (by kernel_rfl) (.nilS [101, 3, 1] rfl rfl (.condP rfl hd (fun hb781 hd => ?_) fun hb781 hd => ?_)))))))))
   · exact .seq (.region (.skips 1 rfl (.nilS [2] rfl rfl (.drop .z (.ret (pret results58 (.t rfl .n) le701 ⟨false, rfl, hd⟩))))))
   refine .skipS [3, 1] rfl rfl (.seq (.region (.fieldAddr underlying27 rfl sizeOf24 rfl (o := 2) rfl rfl rfl (.load1 isAgg24 rfl .z rfl rfl rfl (.skips 1 rfl ?_)))))
   obtain ⟨h791, x792, hx793, hd⟩ := hd
   obtain ⟨b794, o795, cs796, e797, hC798, hr799⟩ := R3.2 _ _ hx793
   cases hr799
   refine .ixa underlying24 sizeOf3 rfl e797 rfl h791 (idx_lt hx793 h791) rfl rfl (.ld1 (j := 0) isAgg3 hC798 rfl rfl rfl rfl rfl (.skips 1 rfl (.nilS [4, 3, 1] rfl rfl (.block (.loop hd (fun (s941 : Int) c w => ∃ I_, IH.le I699 I_ ∧ Ok ⟨156, [], none⟩ [(1, .pointer (some ⟨b12, 0, none⟩)), (3, .int .i64 s697), (4, .int .i64 s941)] c ∧ Sym w0 M I I_ [pto b12 (.cells #[.int .i64 a0.Rows, .int .i64 a0.Cols, .slice p1 a0.Start.length c2, .slice p4 a0.Col.length c5, .slice p7 a0.Val.length c8] 27 (0, 0))] w) (fun c w ho hs => ⟨I699, (.refl _), ho.sub ⟨rfl, rfl, rfl, trivial⟩, hs.pick (.c .z .n)⟩) ?_)))))
   rintro s941 next942 hd c w hst
   obtain ⟨I943, hl944, hok, hsym⟩ := hst
   have le945 := IH.le.trans le701 hl944
   have le946 := IH.le.trans (.refl _) hl944
   replace R3 := R3.mono hl944
   replace R6 := R6.mono hl944
   replace R9 := R9.mono hl944
   refine Cod.at hok hsym (.seq (.seq (.region (.skips 1 rfl (.fieldAddr underlying27 rfl sizeOf24 rfl (o := 2) rfl rfl rfl (.load1 isAgg24 rfl .z rfl rfl rfl (.skips 1 rfl (.add rfl rfl rfl rfl ?_))))))))
   obtain ⟨h957, x958, hx959, hd⟩ := hd
   obtain ⟨b960, o961, cs962, e963, hC964, hr965⟩ := R3.2 _ _ hx959
   cases hr965
   refine .ixa underlying24 sizeOf3 rfl e963 rfl h957 (idx_lt hx959 h957) rfl rfl (.ld1 (j := 0) isAgg3 hC964 rfl rfl rfl rfl rfl (.lt rfl rfl rfl rfl (.nilS [114, 4, 3, 1] rfl rfl (.condP rfl hd (fun hb966 hd => ?_) fun hb966 hd => ?_))))
   · refine .skipS [4, 3, 1] rfl rfl (.seq (.block (.seq (.draw [some 0, some 1, some 2, some 3, some 4, some 5, some 6, some 7, some 8, some 9, some 10, some 11, some 12, some 13, some 14, some 15, some 16, some 17, some 18, some 19, some 20, some 21, some 22, some 23, some 24, some 25, some 26, some 27, some 28, some 29, some 30, some 31, some 32, some 33, some 34, some 35, some 36, some 37, some 38] 39 MX (by kernel_rfl) (by kernel_rfl) (by kernel_rfl) (by kernel_rfl) (by kernel_rfl) (by kernel_rfl) (by kernel_rfl) (fun ex => (pto b12 (.cells #[.int .i64 a0.Rows, .int .i64 a0.Cols, .slice p1 a0.Start.length c2, .slice p4 a0.Col.length c5, .slice p7 a0.Val.length c8] 27 (0, 0))) :: ex) (fun _ _ => (.s .z)) rfl (.f [] rfl (by kernel_rfl) rfl rfl (fun ex => .fieldAddr underlying27 rfl sizeOf24 rfl (o := 3) rfl rfl rfl .mk) (.f [0] rfl (by kernel_rfl) rfl rfl (fun ex => .load1 isAgg24 rfl .z rfl rfl rfl .mk) (.fs [[]] rfl (by kernel_rfl) ?_)))))))
     obtain ⟨h967, x968, hx969, hd⟩ := hd
     obtain ⟨b970, o971, cs972, e973, hC974, hr975⟩ := R6.2 _ _ hx969
     cases hr975
     refine .f [1, 2] rfl (by kernel_rfl) rfl rfl (fun ex => .ixa underlying24 sizeOf3 rfl e973 rfl h967 (idx_lt hx969 h967) rfl rfl .mk) (.f [3] rfl (by kernel_rfl) rfl rfl (fun ex => .ld1 (j := 0) isAgg3 hC974 rfl rfl rfl rfl rfl .mk) (.f [4] rfl (by kernel_rfl) rfl rfl (fun ex => .lt rfl rfl rfl rfl .mk) (.fs [[5]] rfl (by kernel_rfl) ?_)))
     refine splitP hd (fun hb976 hd => ?_) fun hb976 hd => ?_
     · refine .f [6] rfl (by kernel_rfl) rfl rfl (fun ex => .gno rfl rfl hb976 rfl rfl .mk) (.f [7, 6] rfl (by kernel_rfl) rfl rfl (fun ex => .gno rfl rfl hb976 rfl rfl .mk) (.f [6] rfl (by kernel_rfl) rfl rfl (fun ex => .gno rfl rfl hb976 rfl rfl .mk) (.f [8, 9, 6] rfl (by kernel_rfl) rfl rfl (fun ex => .gno rfl rfl hb976 rfl rfl .mk) (.f [10, 6] rfl (by kernel_rfl) rfl rfl (fun ex => .gno rfl rfl hb976 rfl rfl .mk) (.f [6] rfl (by kernel_rfl) rfl rfl (fun ex => .gno rfl rfl hb976 rfl rfl .mk) (.f [12, 6] rfl (by kernel_rfl) rfl rfl (fun ex => .gno rfl rfl hb976 rfl rfl .mk) (.f [11, 13, 6] rfl (by kernel_rfl) rfl rfl (fun ex => .gno rfl rfl hb976 rfl rfl .mk) (.f [6, 14] rfl (by kernel_rfl) rfl rfl (fun ex => .pickT rfl hb976 rfl rfl rfl .mk) (.fs [[15, 6], [16], [16], [18, 16], [16], [19, 20, 16], [21, 16], [17, 22, 16], [23, 16, 16], [24], [25, 24], [24], [26, 27, 24], [28, 24], [24], [30, 24], [24], [32, 24], [31, 33, 24], [34, 24], [29, 35, 24], [24, 36, 16], [16, 37]] rfl (by kernel_rfl) ?_)))))))))
       exact .e 39 (by kernel_rfl) (by kernel_rfl) (by kernel_rfl) (.nilS [155, 4, 3, 1] rfl rfl (.condKT rfl rfl (.seq (.region (.skips 1 rfl (.nilS [2] rfl rfl (.drop .z (.ret (pret results58 (.t rfl .n) le945 ⟨false, rfl, hd⟩)))))))))
     refine .f [6] rfl (by kernel_rfl) rfl rfl (fun ex => .gyes rfl rfl hb976 (.fieldAddr underlying27 rfl sizeOf24 rfl (o := 3) rfl rfl rfl .mk)) (.f [7, 6] rfl (by kernel_rfl) rfl rfl (fun ex => .gyes rfl rfl hb976 (.load1 isAgg24 rfl .z rfl rfl rfl .mk)) (.f [6] rfl (by kernel_rfl) rfl rfl (fun ex => .gyes rfl rfl hb976 (.move rfl rfl rfl .mk)) ?_))
     obtain ⟨h977, x978, hx979, hd⟩ := hd
     obtain ⟨b980, o981, cs982, e983, hC984, hr985⟩ := R6.2 _ _ hx979
     cases hr985
     refine .f [8, 9, 6] rfl (by kernel_rfl) rfl rfl (fun ex => .gyes rfl rfl hb976 (.ixa underlying24 sizeOf3 rfl e983 rfl h977 (idx_lt hx979 h977) rfl rfl .mk)) (.f [10, 6] rfl (by kernel_rfl) rfl rfl (fun ex => .gyes rfl rfl hb976 (.ld1 (j := 0) isAgg3 hC984 rfl rfl rfl rfl rfl .mk)) (.f [6] rfl (by kernel_rfl) rfl rfl (fun ex => .gyes rfl rfl hb976 (.fieldAddr underlying27 rfl sizeOf3 rfl (o := 1) rfl rfl rfl .mk)) (.f [12, 6] rfl (by kernel_rfl) rfl rfl (fun ex => .gyes rfl rfl hb976 (.load1 isAgg3 rfl .z rfl rfl rfl .mk)) (.f [11, 13, 6] rfl (by kernel_rfl) rfl rfl (fun ex => .gyes rfl rfl hb976 (.ge rfl rfl rfl rfl .mk)) (.f [6, 14] rfl (by kernel_rfl) rfl rfl (fun ex => .pickF rfl hb976 rfl rfl rfl .mk) (.fs [[15, 6]] rfl (by kernel_rfl) ?_))))))
     refine splitP hd (fun hb986 hd => ?_) fun hb986 hd => ?_
     · refine .f [16] rfl (by kernel_rfl) rfl rfl (fun ex => .gno rfl rfl hb986 rfl rfl .mk) (.f [16] rfl (by kernel_rfl) rfl rfl (fun ex => .gno rfl rfl hb986 rfl rfl .mk) (.f [18, 16] rfl (by kernel_rfl) rfl rfl (fun ex => .gno rfl rfl hb986 rfl rfl .mk) (.f [16] rfl (by kernel_rfl) rfl rfl (fun ex => .gno rfl rfl hb986 rfl rfl .mk) (.f [19, 20, 16] rfl (by kernel_rfl) rfl rfl (fun ex => .gno rfl rfl hb986 rfl rfl .mk) (.f [21, 16] rfl (by kernel_rfl) rfl rfl (fun ex => .gno rfl rfl hb986 rfl rfl .mk) (.f [17, 22, 16] rfl (by kernel_rfl) rfl rfl (fun ex => .gno rfl rfl hb986 rfl rfl .mk) (.f [23, 16, 16] rfl (by kernel_rfl) rfl rfl (fun ex => .gno rfl rfl hb986 rfl rfl .mk) (.fs [[24], [25, 24], [24], [26, 27, 24], [28, 24], [24], [30, 24], [24], [32, 24], [31, 33, 24], [34, 24], [29, 35, 24]] rfl (by kernel_rfl) (.f [24, 36, 16] rfl (by kernel_rfl) rfl rfl (fun ex => .gno rfl rfl hb986 rfl rfl .mk) ?_)))))))))
       exact .f [16, 37] rfl (by kernel_rfl) rfl rfl (fun ex => .pickT rfl hb986 rfl rfl rfl .mk) (.e 39 (by kernel_rfl) (by kernel_rfl) (by kernel_rfl) (.nilS [155, 4, 3, 1] rfl rfl (.condKT rfl rfl (.seq (.region (.skips 1 rfl (.nilS [2] rfl rfl (.drop .z (.ret (pret results58 (.t rfl .n) le945 ⟨false, rfl, hd⟩))))))))))
     refine .f [16] rfl (by kernel_rfl) rfl rfl (fun ex => .gyes rfl rfl hb986 (.move rfl rfl rfl .mk)) (.f [16] rfl (by kernel_rfl) rfl rfl (fun ex => .gyes rfl rfl hb986 (.fieldAddr underlying27 rfl sizeOf24 rfl (o := 2) rfl rfl rfl .mk)) (.f [18, 16] rfl (by kernel_rfl) rfl rfl (fun ex => .gyes rfl rfl hb986 (.load1 isAgg24 rfl .z rfl rfl rfl .mk)) (.f [16] rfl (by kernel_rfl) rfl rfl (fun ex => .gyes rfl rfl hb986 (.move rfl rfl rfl .mk)) ?_)))
     obtain ⟨h987, x988, hx989, hd⟩ := hd
     obtain ⟨b990, o991, cs992, e993, hC994, hr995⟩ := R3.2 _ _ hx989
     cases hr995
     refine .f [19, 20, 16] rfl (by kernel_rfl) rfl rfl (fun ex => .gyes rfl rfl hb986 (.ixa underlying24 sizeOf3 rfl e993 rfl h987 (idx_lt hx989 h987) rfl rfl .mk)) (.f [21, 16] rfl (by kernel_rfl) rfl rfl (fun ex => .gyes rfl rfl hb986 (.ld1 (j := 0) isAgg3 hC994 rfl rfl rfl rfl rfl .mk)) (.f [17, 22, 16] rfl (by kernel_rfl) rfl rfl (fun ex => .gyes rfl rfl hb986 (.gt rfl rfl rfl rfl .mk)) (.f [23, 16, 16] rfl (by kernel_rfl) rfl rfl (fun ex => .gyes rfl rfl hb986 (.move rfl rfl rfl .mk)) ?_)))
     refine splitP hd (fun hb996 hd => ?_) fun hb996 hd => ?_
     · refine .f [24] rfl (by kernel_rfl) rfl rfl (fun ex => .gyes rfl rfl hb996 (.fieldAddr underlying27 rfl sizeOf24 rfl (o := 3) rfl rfl rfl .mk)) (.f [25, 24] rfl (by kernel_rfl) rfl rfl (fun ex => .gyes rfl rfl hb996 (.load1 isAgg24 rfl .z rfl rfl rfl .mk)) (.f [24] rfl (by kernel_rfl) rfl rfl (fun ex => .gyes rfl rfl hb996 (.move rfl rfl rfl .mk)) ?_))
       obtain ⟨h997, x998, hx999, hd⟩ := hd
       obtain ⟨b1000, o1001, cs1002, e1003, hC1004, hr1005⟩ := R6.2 _ _ hx999
       cases hr1005
       refine .f [26, 27, 24] rfl (by kernel_rfl) rfl rfl (fun ex => .gyes rfl rfl hb996 (.ixa underlying24 sizeOf3 rfl e1003 rfl h997 (idx_lt hx999 h997) rfl rfl .mk)) (.f [28, 24] rfl (by kernel_rfl) rfl rfl (fun ex => .gyes rfl rfl hb996 (.ld1 (j := 0) isAgg3 hC1004 rfl rfl rfl rfl rfl .mk)) (.f [24] rfl (by kernel_rfl) rfl rfl (fun ex => .gyes rfl rfl hb996 (.fieldAddr underlying27 rfl sizeOf24 rfl (o := 3) rfl rfl rfl .mk)) (.f [30, 24] rfl (by kernel_rfl) rfl rfl (fun ex => .gyes rfl rfl hb996 (.load1 isAgg24 rfl .z rfl rfl rfl .mk)) (.f [24] rfl (by kernel_rfl) rfl rfl (fun ex => .gyes rfl rfl hb996 (.move rfl rfl rfl .mk)) (.f [32, 24] rfl (by kernel_rfl) rfl rfl (fun ex => .gyes rfl rfl hb996 (.sub' rfl rfl rfl rfl .mk)) ?_)))))
       obtain ⟨h1006, x1007, hx1008, hd⟩ := hd
       obtain ⟨b1009, o1010, cs1011, e1012, hC1013, hr1014⟩ := R6.2 _ _ hx1008
       cases hr1014
       refine .f [31, 33, 24] rfl (by kernel_rfl) rfl rfl (fun ex => .gyes rfl rfl hb996 (.ixa underlying24 sizeOf3 rfl e1012 rfl h1006 (idx_lt hx1008 h1006) rfl rfl .mk)) (.f [34, 24] rfl (by kernel_rfl) rfl rfl (fun ex => .gyes rfl rfl hb996 (.ld1 (j := 0) isAgg3 hC1013 rfl rfl rfl rfl rfl .mk)) (.f [29, 35, 24] rfl (by kernel_rfl) rfl rfl (fun ex => .gyes rfl rfl hb996 (.le' rfl rfl rfl rfl .mk)) (.f [24, 36, 16] rfl (by kernel_rfl) rfl rfl (fun ex => .gyes rfl rfl hb986 (.pickT rfl hb996 rfl rfl rfl .mk)) (.f [16, 37] rfl (by kernel_rfl) rfl rfl (fun ex => .pickF rfl hb986 rfl rfl rfl .mk) (.e 39 (by kernel_rfl) (by kernel_rfl) (by kernel_rfl) (.nilS [155, 4, 3, 1] rfl rfl (.condP rfl hd (fun hb1015 hd => ?_) fun hb1015 hd => ?_)))))))
       · exact .seq (.region (.skips 1 rfl (.nilS [2] rfl rfl (.drop .z (.ret (pret results58 (.t rfl .n) le945 ⟨false, rfl, hd⟩))))))
       exact .skipS [4, 3, 1] rfl rfl (.region (.skips 1 rfl (.add rfl rfl rfl rfl (.sub (E' := [(1, _), (3, _), (115, _), (116, _)]) ⟨rfl, rfl, rfl, rfl, trivial⟩ (.skips 1 rfl (.nil' fun c w ho hs => ⟨(w64 (s941 + 1)), hd, I943, le946, ho.sub ⟨rfl, rfl, rfl, trivial⟩, hs.pick (.c .z .n)⟩))))))
     refine .f [24] rfl (by kernel_rfl) rfl rfl (fun ex => .gno rfl rfl hb996 rfl rfl .mk) (.f [25, 24] rfl (by kernel_rfl) rfl rfl (fun ex => .gno rfl rfl hb996 rfl rfl .mk) (.f [24] rfl (by kernel_rfl) rfl rfl (fun ex => .gno rfl rfl hb996 rfl rfl .mk) (.f [26, 27, 24] rfl (by kernel_rfl) rfl rfl (fun ex => .gno rfl rfl hb996 rfl rfl .mk) (.f [28, 24] rfl (by kernel_rfl) rfl rfl (fun ex => .gno rfl rfl hb996 rfl rfl .mk) (.f [24] rfl (by kernel_rfl) rfl rfl (fun ex => .gno rfl rfl hb996 rfl rfl .mk) (.f [30, 24] rfl (by kernel_rfl) rfl rfl (fun ex => .gno rfl rfl hb996 rfl rfl .mk) (.f [24] rfl (by kernel_rfl) rfl rfl (fun ex => .gno rfl rfl hb996 rfl rfl .mk) (.f [32, 24] rfl (by kernel_rfl) rfl rfl (fun ex => .gno rfl rfl hb996 rfl rfl .mk) (.f [31, 33, 24] rfl (by kernel_rfl) rfl rfl (fun ex => .gno rfl rfl hb996 rfl rfl .mk) ?_)))))))))
     refine .f [34, 24] rfl (by kernel_rfl) rfl rfl (fun ex => .gno rfl rfl hb996 rfl rfl .mk) (.f [29, 35, 24] rfl (by kernel_rfl) rfl rfl (fun ex => .gno rfl rfl hb996 rfl rfl .mk) (.f [24, 36, 16] rfl (by kernel_rfl) rfl rfl (fun ex => .gyes rfl rfl hb986 (.pickF rfl hb996 rfl rfl rfl .mk)) (.f [16, 37] rfl (by kernel_rfl) rfl rfl (fun ex => .pickF rfl hb986 rfl rfl rfl .mk) (.e 39 (by kernel_rfl) (by kernel_rfl) (by kernel_rfl) (.nilS [155, 4, 3, 1] rfl rfl (.condKF rfl rfl (.skipS [4, 3, 1] rfl rfl (.region (.skips 1 rfl ?_)))))))))
     exact .add rfl rfl rfl rfl (.sub (E' := [(1, _), (3, _), (115, _), (116, _)]) ⟨rfl, rfl, rfl, rfl, trivial⟩ (.skips 1 rfl (.nil' fun c w ho hs => ⟨(w64 (s941 + 1)), hd, I943, le946, ho.sub ⟨rfl, rfl, rfl, trivial⟩, hs.pick (.c .z .n)⟩)))
   exact .exitS [3, 1] rfl rfl (.region (.skips 1 rfl (.add rfl rfl rfl rfl (.sub (E' := [(1, _), (68, _), (69, _)]) ⟨rfl, rfl, rfl, trivial⟩ (.skips 1 rfl (.nil' fun c w ho hs => ⟨(w64 (s697 + 1)), hd, I943, le945, ho.sub ⟨rfl, rfl, trivial⟩, hs.pick (.c .z .n)⟩))))))
 exact .exitS [] rfl rfl (.drop .z (.seq (.region (.skips 1 rfl (.nilS [2] rfl rfl (.ret (pret results58 (.t rfl .n) le701 ⟨true, rfl, hd⟩)))))))

theorem W_ref07_Sure {I : IH} {a0 : Rows} {p1 : Option Addr} {c2 : Nat} {p4 : Option Addr} {c5 : Nat} {p7 : Option Addr} {c8 : Nat} {Q : Rows → Prop} (R3 : RepSl eI64 I p1 c2 a0.Start) (R6 : RepSl eI64 I p4 c5 a0.Col) (R9 : RepSl eI64 I p7 c8 a0.Val) (hd : ref07_Sure a0 Q) :
    PFun Try.prog 39 [.agg #[.int .i64 a0.Rows, .int .i64 a0.Cols, .slice p1 a0.Start.length c2, .slice p4 a0.Col.length c5, .slice p7 a0.Val.length c8]] I (fun I_ v => ∃ r p10 c11 p13 c14 p16 c17, v = .agg #[.int .i64 r.Rows, .int .i64 r.Cols, .slice p10 r.Start.length c11, .slice p13 r.Col.length c14, .slice p16 r.Val.length c17] ∧ RepSl eI64 I_ p10 c11 r.Start ∧ RepSl eI64 I_ p13 c14 r.Col ∧ RepSl eI64 I_ p16 c17 r.Val ∧ Q r) := by
 refine Fun.enter func39 rfl ntmps39 rfl (.c .n) fun w0 M => ?_
 refine .seq (.region (.boxA rfl rfl rfl fun b23 => ?_))
 refine .allocA zeroValue27 rfl rfl fun b25 => ?_
 refine .nilS [2, 1] rfl rfl (.seq (.seq (.region (.loadW isAgg27 sizeOf27 rfl (.s .z) rfl rfl rfl ?_))))
 have hw28 := W_ref07_Right (I := I) R3 R6 R9 hd
 refine .callP call58 rfl hw28 rfl rfl fun v29 hv30 => ?_
 obtain ⟨r27, rfl, hd⟩ := hv30
 refine .nilS [4, 2, 1] rfl rfl (.condP rfl hd (fun hb31 hd => ?_) fun hb31 hd => ?_)
 · exact .seq (.region (.loadW isAgg27 sizeOf27 rfl (.s .z) rfl rfl rfl (.storeA sizeOf27 rfl rfl .z (.t (.t (.t (.t (.t .nil))))) rfl rfl (.nilS [2] rfl rfl (.drop (.s .z) (.ret (pret results39 (.w isAgg27 sizeOf27 rfl .z rfl .n) (.refl _) ⟨a0, _, _, _, _, _, _, rfl, R3, R6, R9, hd⟩)))))))
 refine .skipS [2] rfl rfl (.drop (.s .z) (.seq (.region ?_)))
 have hw50 := W_ref07_Empty (I := I) hd
 refine .callO call23 rfl hw50 rfl rfl fun v36 I33 l37 hl34 hv35 => ?_
 obtain ⟨r32, p38, c39, p41, c42, p44, c45, rfl, rfl, hd⟩ := hv35
 have le51 := IH.le.trans (.refl _) hl34
 refine .storeA sizeOf27 rfl rfl (.s (.s (.s .z))) (.t (.t (.t (.t (.t .nil))))) rfl rfl (.nilS [2] rfl rfl (.pub .z fun I52 hl53 R54 => ?_))
 have le55 := IH.le.trans le51 hl53
 refine .pub .z fun I56 hl57 R58 => ?_
 have le59 := IH.le.trans le55 hl57
 replace R54 := R54.mono hl57
 refine .pub .z fun I60 hl61 R62 => ?_
 have le63 := IH.le.trans le59 hl61
 replace R54 := R54.mono hl61
 replace R58 := R58.mono hl61
 exact .ret (pret results39 (.w isAgg27 sizeOf27 rfl .z rfl .n) le63 ⟨r32, _, _, _, _, _, _, rfl, R54, R58, R62, hd⟩)

theorem W_ref07_Row {I : IH} {a0 : Rows} {a1 : Int} {p1 : Option Addr} {c2 : Nat} {p4 : Option Addr} {c5 : Nat} {p7 : Option Addr} {c8 : Nat} {Q : (List Item) → Prop} (R3 : RepSl eI64 I p1 c2 a0.Start) (R6 : RepSl eI64 I p4 c5 a0.Col) (R9 : RepSl eI64 I p7 c8 a0.Val) (hd : ref07_Row a0 a1 Q) :
    PFun Try.prog 15 [.agg #[.int .i64 a0.Rows, .int .i64 a0.Cols, .slice p1 a0.Start.length c2, .slice p4 a0.Col.length c5, .slice p7 a0.Val.length c8], .int .i64 a1] I (fun I_ v => ∃ r p10 c11, v = .slice p10 r.length c11 ∧ RepSl eItem I_ p10 c11 r ∧ Q r) := by
 refine Fun.enter func15 rfl ntmps15 rfl (.c (.c .n)) fun w0 M => ?_
 refine .seq (.region (.boxA rfl rfl rfl fun b15 => ?_))
 refine .skips 1 rfl (.nilS [2, 1] rfl rfl (.seq (.region (.loadW isAgg27 sizeOf27 rfl .z rfl rfl rfl ?_))))
 have hw49 := W_ref07_Sure (I := I) R3 R6 R9 hd
 refine .call call39 rfl hw49 rfl rfl fun v38 I35 hl36 hv37 => ?_
 obtain ⟨r34, p40, c41, p43, c44, p46, c47, rfl, R42, R45, R48, hd⟩ := hv37
 have le50 := IH.le.trans (.refl _) hl36
 replace R3 := R3.mono hl36
 replace R6 := R6.mono hl36
 replace R9 := R9.mono hl36
 refine .storeA sizeOf27 rfl rfl .z (.t (.t (.t (.t (.t .nil))))) rfl rfl (.nilS [2, 1] rfl rfl (.seq (.region (.skips 1 rfl (.nilS [5, 2, 1] rfl rfl (.seq (.seq (.region (.skips 1 rfl ?_)))))))))
 refine .lt rfl rfl rfl rfl (.skips 1 rfl ?_)
 refine splitP hd (fun hb53 hd => ?_) fun hb53 hd => ?_
 · rw [hb53]
   exact .skips 5 rfl (.nilS [16, 5, 2, 1] rfl rfl (.condKT rfl rfl (.seq (.region (.skips 2 rfl (.nilS [4] rfl rfl (.drop .z (.ret (pret results15 (.t rfl .n) le50 ⟨([] : List Item), _, _, rfl, (.nil _ _ _), hd⟩)))))))))
 rw [hb53]
 refine .gyes rfl rfl rfl (.move rfl rfl rfl (.gyes rfl rfl rfl (.fieldAddr underlying27 rfl sizeOf3 rfl (o := 0) rfl rfl rfl (.gyes rfl rfl rfl (.load1 isAgg3 rfl .z rfl rfl rfl (.gyes rfl rfl rfl (.ge rfl rfl rfl rfl (.skips 1 rfl (.nilS [16, 5, 2, 1] rfl rfl (.condP rfl hd (fun hb54 hd => ?_) fun hb54 hd => ?_))))))))))
 · exact .seq (.region (.skips 2 rfl (.nilS [4] rfl rfl (.drop .z (.ret (pret results15 (.t rfl .n) le50 ⟨([] : List Item), _, _, rfl, (.nil _ _ _), hd⟩))))))
 refine .skipS [5, 2, 1] rfl rfl (.seq (.seq (.region (.fieldAddr underlying27 rfl sizeOf24 rfl (o := 2) rfl rfl rfl (.load1 isAgg24 rfl .z rfl rfl rfl (.skips 1 rfl ?_))))))
 obtain ⟨h64, x65, hx66, hd⟩ := hd
 obtain ⟨b67, o68, cs69, e70, hC71, hr72⟩ := R42.2 _ _ hx66
 cases hr72
 refine .ixa underlying24 sizeOf3 rfl e70 rfl h64 (idx_lt hx66 h64) rfl rfl (.ld1 (j := 0) isAgg3 hC71 rfl rfl rfl rfl rfl (.skips 1 rfl (.nilS [6, 5, 2, 1] rfl rfl (.block (.own0 eItem 59 (.loop hd (fun (s : (List Item) × Int) c w => match s with | (s178, s182) => ∃ I_ p179 c180, IH.le I35 I_ ∧ Ok ⟨48, [], none⟩ [(1, .int .i64 a1), (2, .pointer (some ⟨b15, 0, none⟩)), (5, .slice p179 s178.length c180), (6, .int .i64 s182)] c ∧ Sym w0 M I I_ [pto b15 (.cells #[.int .i64 r34.Rows, .int .i64 r34.Cols, .slice p40 r34.Start.length c41, .slice p43 r34.Col.length c44, .slice p46 r34.Val.length c47] 27 (0, 0)), OwnSl eItem 59 p179 c180 s178] w) (fun c w ho hs => ⟨I35, _, _, (.refl _), ho.sub ⟨rfl, rfl, rfl, rfl, trivial⟩, hs.pick (.c (.s .z) (.c .z .n))⟩) ?_))))))
 rintro ⟨s178, s182⟩ next184 hd c w hst
 obtain ⟨I185, p179, c180, hl186, hok, hsym⟩ := hst
 have le187 := IH.le.trans le50 hl186
 have le188 := IH.le.trans (.refl _) hl186
 replace R42 := R42.mono hl186
 replace R45 := R45.mono hl186
 replace R48 := R48.mono hl186
 refine Cod.at hok hsym (.seq (.seq (.region (.skips 1 rfl (.fieldAddr underlying27 rfl sizeOf24 rfl (o := 2) rfl rfl rfl (.load1 isAgg24 rfl .z rfl rfl rfl (.skips 1 rfl (.add rfl rfl rfl rfl ?_))))))))
 obtain ⟨h199, x200, hx201, hd⟩ := hd
 obtain ⟨b202, o203, cs204, e205, hC206, hr207⟩ := R42.2 _ _ hx201
 cases hr207
 refine .ixa underlying24 sizeOf3 rfl e205 rfl h199 (idx_lt hx201 h199) rfl rfl (.ld1 (j := 0) isAgg3 hC206 rfl rfl rfl rfl rfl (.lt rfl rfl rfl rfl (.nilS [30, 6, 5, 2, 1] rfl rfl (.condP rfl hd (fun hb208 hd => ?_) fun hb208 hd => ?_))))
 · refine .skipS [6, 5, 2, 1] rfl rfl (.seq (.block (.ownF (.s .z) fun hne209 => ?_)))
   refine .draw [some 0, some 1, some 2, some 3, some 4, some 5, some 6, some 7, some 8, some 9, some 10, some 11, some 12, some 13] 14 MX (by kernel_rfl) (by kernel_rfl) (by kernel_rfl) (by kernel_rfl) (by kernel_rfl) (by kernel_rfl) (by kernel_rfl) (fun ex => (pto b15 (.cells #[.int .i64 r34.Rows, .int .i64 r34.Cols, .slice p40 r34.Start.length c41, .slice p43 r34.Col.length c44, .slice p46 r34.Val.length c47] 27 (0, 0))) :: (OwnSl eItem 59 p179 c180 s178) :: ex) (fun _ _ => (.s (.s .z))) rfl (.fs [[]] rfl (by kernel_rfl) (.f [] rfl (by kernel_rfl) rfl rfl (fun ex => .fieldAddr underlying27 rfl sizeOf24 rfl (o := 3) rfl rfl rfl .mk) (.f [1] rfl (by kernel_rfl) rfl rfl (fun ex => .load1 isAgg24 rfl .z rfl rfl rfl .mk) (.fs [[]] rfl (by kernel_rfl) ?_))))
   obtain ⟨h210, x211, hx212, hd⟩ := hd
   obtain ⟨b213, o214, cs215, e216, hC217, hr218⟩ := R45.2 _ _ hx212
   cases hr218
   refine .f [2, 3] rfl (by kernel_rfl) rfl rfl (fun ex => .ixa underlying24 sizeOf3 rfl e216 rfl h210 (idx_lt hx212 h210) rfl rfl .mk) (.f [4] rfl (by kernel_rfl) rfl rfl (fun ex => .ld1 (j := 0) isAgg3 hC217 rfl rfl rfl rfl rfl .mk) (.f [] rfl (by kernel_rfl) rfl rfl (fun ex => .fieldAddr underlying27 rfl sizeOf25 rfl (o := 4) rfl rfl rfl .mk) (.f [6] rfl (by kernel_rfl) rfl rfl (fun ex => .load1 isAgg25 rfl .z rfl rfl rfl .mk) (.fs [[]] rfl (by kernel_rfl) ?_))))
   obtain ⟨h219, x220, hx221, hd⟩ := hd
   obtain ⟨b222, o223, cs224, e225, hC226, hr227⟩ := R48.2 _ _ hx221
   cases hr227
   refine .f [7, 8] rfl (by kernel_rfl) rfl rfl (fun ex => .ixa underlying25 sizeOf2 rfl e225 rfl h219 (idx_lt hx221 h219) rfl rfl .mk) (.f [9] rfl (by kernel_rfl) rfl rfl (fun ex => .ld1 (j := 0) isAgg2 hC226 rfl rfl rfl rfl rfl .mk) (.f [5, 10] rfl (by kernel_rfl) rfl rfl (fun ex => .build zeroValue59 underlying59 BI59 (.c rfl rfl rfl (.t .nil) (.c rfl rfl rfl (.s (.t .nil)) .n)) (by exact ⟨⟨_, _, rfl, rfl, rfl⟩, ⟨⟨_, _, rfl, rfl, rfl⟩, trivial⟩⟩) rfl rfl .mk) (.w [0] [[], [11], [10, 11], [9, 10, 11], [9, 10, 11], [7, 9, 10, 11], [11], [5, 11], [4, 5, 11], [4, 5, 11], [2, 4, 5, 11]] [11] rfl (by kernel_rfl) (by kernel_rfl) (by kernel_rfl) ((dropE_kept rfl rfl)) (.inr (dropE_kept rfl rfl)) fun ex => ?_)))
   refine .buildSlice 1 underlying39 sizeOf59 zeroValue59 rfl rfl (.c rfl rfl rfl .n) rfl rfl fun b228 => ?_
   refine .some (fun ex => (pto b228 (.cells #[.int .i64 x211, .int .i64 x220] 59 (0, 0))) :: (pto b15 (.cells #[.int .i64 r34.Rows, .int .i64 r34.Cols, .slice p40 r34.Start.length c41, .slice p43 r34.Col.length c44, .slice p46 r34.Val.length c47] 27 (0, 0))) :: (OwnSl eItem 59 p179 c180 s178) :: ex) rfl (fun _ _ => (.s (.s (.s .z)))) rfl (.ccs [[]] rfl rfl (by kernel_rfl) trivial) (.w [] [[]] [0, 12] rfl (by kernel_rfl) (by kernel_rfl) (by kernel_rfl) ((dropE_kept rfl rfl)) (.inr (dropE_kept rfl rfl)) fun ex => ?_)
   obtain ⟨hl230, hd⟩ := hd
   refine .append (ys := [({ At := x211, Val := x220 } : Item)]) 16 (.s (.s .z)) underlying39 underlying39 IN59 rfl rfl rfl rfl rfl rfl rfl rfl rfl (.box .z (.one rfl) rfl) hl230 rfl rfl fun p231 c232 => ?_
   refine .some (fun ex => (OwnSl eItem 59 p231 c232 (s178 ++ ([({ At := x211, Val := x220 } : Item)]))) :: (pto b228 (.cells #[.int .i64 x211, .int .i64 x220] 59 (0, 0))) :: (pto b15 (.cells #[.int .i64 r34.Rows, .int .i64 r34.Cols, .slice p40 r34.Start.length c41, .slice p43 r34.Col.length c44, .slice p46 r34.Val.length c47] 27 (0, 0))) :: ex) rfl (fun _ _ => (.s (.s (.s .z)))) rfl trivial (.e 14 (by kernel_rfl) (by kernel_rfl) (by kernel_rfl) (.sub (E' := [(1, _), (2, _), (6, _), (33, _), (34, _), (35, _), (36, _), (37, _), (38, _), (39, _), (40, _), (41, _), (42, _), (43, _), (44, _), (45, _), (46, _)]) ⟨rfl, rfl, rfl, rfl, rfl, rfl, rfl, rfl, rfl, rfl, rfl, rfl, rfl, rfl, rfl, rfl, rfl, trivial⟩ (.skips 1 rfl (.nilS [5, 6, 2, 1] rfl rfl (.drop (.s .z) (.region (.skips 1 rfl (.add rfl rfl rfl rfl (.sub (E' := [(1, _), (2, _), (5, _), (31, _), (32, _)]) ⟨rfl, rfl, rfl, rfl, rfl, trivial⟩ ?_)))))))))
   exact .skips 1 rfl (.nil' fun c w ho hs => ⟨((s178 ++ ([({ At := x211, Val := x220 } : Item)])), w64 (s182 + 1)), hd, I185, _, _, le188, ho.sub ⟨rfl, rfl, rfl, rfl, trivial⟩, hs.pick (.c (.s .z) (.c .z .n))⟩)
 refine .exitS [5] rfl rfl (.drop .z (.seq (.region (.skips 2 rfl (.nilS [4] rfl rfl (.pub .z fun I234 hl235 R236 => ?_))))))
 have le237 := IH.le.trans le187 hl235
 have le238 := IH.le.trans le188 hl235
 exact .ret (pret results15 (.t rfl .n) le237 ⟨s178, _, _, rfl, R236, hd⟩)

theorem W_ref07_Triples {I : IH} {a0 : Rows} {p1 : Option Addr} {c2 : Nat} {p4 : Option Addr} {c5 : Nat} {p7 : Option Addr} {c8 : Nat} {Q : (List Triple) → Prop} (R3 : RepSl eI64 I p1 c2 a0.Start) (R6 : RepSl eI64 I p4 c5 a0.Col) (R9 : RepSl eI64 I p7 c8 a0.Val) (hd : ref07_Triples a0 Q) :
    PFun Try.prog 40 [.agg #[.int .i64 a0.Rows, .int .i64 a0.Cols, .slice p1 a0.Start.length c2, .slice p4 a0.Col.length c5, .slice p7 a0.Val.length c8]] I (fun I_ v => ∃ r p10 c11, v = .slice p10 r.length c11 ∧ RepSl eTriple I_ p10 c11 r ∧ Q r) := by
 refine Fun.enter func40 rfl ntmps40 rfl (.c .n) fun w0 M => ?_
 refine .seq (.region (.boxA rfl rfl rfl fun b15 => ?_))
 refine .skips 1 rfl (.nilS [1] rfl rfl (.seq (.region (.loadW isAgg27 sizeOf27 rfl .z rfl rfl rfl ?_))))
 have hw49 := W_ref07_Sure (I := I) R3 R6 R9 hd
 refine .call call39 rfl hw49 rfl rfl fun v38 I35 hl36 hv37 => ?_
 obtain ⟨r34, p40, c41, p43, c44, p46, c47, rfl, R42, R45, R48, hd⟩ := hv37
 have le50 := IH.le.trans (.refl _) hl36
 replace R3 := R3.mono hl36
 replace R6 := R6.mono hl36
 replace R9 := R9.mono hl36
 refine .storeA sizeOf27 rfl rfl .z (.t (.t (.t (.t (.t .nil))))) rfl rfl (.nilS [1] rfl rfl (.seq (.region (.skips 1 rfl (.nilS [3, 1] rfl rfl (.seq (.seq (.region (.skips 1 rfl ?_)))))))))
 refine .nilS [4, 3, 1] rfl rfl (.block (.own0 eTriple 49 (.loop hd (fun (s : (List Triple) × Int) c w => match s with | (s427, s431) => ∃ I_ p428 c429, IH.le I35 I_ ∧ Ok ⟨45, [], none⟩ [(1, .pointer (some ⟨b15, 0, none⟩)), (3, .slice p428 s427.length c429), (4, .int .i64 s431)] c ∧ Sym w0 M I I_ [pto b15 (.cells #[.int .i64 r34.Rows, .int .i64 r34.Cols, .slice p40 r34.Start.length c41, .slice p43 r34.Col.length c44, .slice p46 r34.Val.length c47] 27 (0, 0)), OwnSl eTriple 49 p428 c429 s427] w) (fun c w ho hs => ⟨I35, _, _, (.refl _), ho.sub ⟨rfl, rfl, rfl, trivial⟩, hs.pick (.c (.s .z) (.c .z .n))⟩) ?_)))
 rintro ⟨s427, s431⟩ next433 hd c w hst
 obtain ⟨I434, p428, c429, hl435, hok, hsym⟩ := hst
 have le436 := IH.le.trans le50 hl435
 have le437 := IH.le.trans (.refl _) hl435
 replace R42 := R42.mono hl435
 replace R45 := R45.mono hl435
 replace R48 := R48.mono hl435
 refine Cod.at hok hsym (.seq (.seq (.region (.skips 1 rfl (.fieldAddr underlying27 rfl sizeOf3 rfl (o := 0) rfl rfl rfl (.load1 isAgg3 rfl .z rfl rfl rfl (.lt rfl rfl rfl rfl (.nilS [11, 4, 3, 1] rfl rfl (.condP rfl hd (fun hb439 hd => ?_) fun hb439 hd => ?_)))))))))
 · refine .skipS [4, 3, 1] rfl rfl (.seq (.block (.seq (.region (.fieldAddr underlying27 rfl sizeOf24 rfl (o := 2) rfl rfl rfl (.load1 isAgg24 rfl .z rfl rfl rfl (.skips 1 rfl ?_)))))))
   obtain ⟨h449, x450, hx451, hd⟩ := hd
   obtain ⟨b452, o453, cs454, e455, hC456, hr457⟩ := R42.2 _ _ hx451
   cases hr457
   refine .ixa underlying24 sizeOf3 rfl e455 rfl h449 (idx_lt hx451 h449) rfl rfl (.ld1 (j := 0) isAgg3 hC456 rfl rfl rfl rfl rfl (.skips 1 rfl (.nilS [5, 4, 3, 1] rfl rfl (.block (.loop hd (fun (s : (List Triple) × Int) c w => match s with | (s563, s567) => ∃ I_ p564 c565, IH.le I434 I_ ∧ Ok ⟨45, [], none⟩ [(1, .pointer (some ⟨b15, 0, none⟩)), (3, .slice p564 s563.length c565), (4, .int .i64 s431), (5, .int .i64 s567)] c ∧ Sym w0 M I I_ [pto b15 (.cells #[.int .i64 r34.Rows, .int .i64 r34.Cols, .slice p40 r34.Start.length c41, .slice p43 r34.Col.length c44, .slice p46 r34.Val.length c47] 27 (0, 0)), OwnSl eTriple 49 p564 c565 s563] w) (fun c w ho hs => ⟨I434, _, _, (.refl _), ho.sub ⟨rfl, rfl, rfl, rfl, trivial⟩, hs.pick (.c .z (.c .z .n))⟩) ?_)))))
   rintro ⟨s563, s567⟩ next568 hd c w hst
   obtain ⟨I569, p564, c565, hl570, hok, hsym⟩ := hst
   have le571 := IH.le.trans le436 hl570
   have le572 := IH.le.trans le437 hl570
   have le573 := IH.le.trans (.refl _) hl570
   replace R42 := R42.mono hl570
   replace R45 := R45.mono hl570
   replace R48 := R48.mono hl570
   refine Cod.at hok hsym (.seq (.seq (.region (.skips 1 rfl (.fieldAddr underlying27 rfl sizeOf24 rfl (o := 2) rfl rfl rfl (.load1 isAgg24 rfl .z rfl rfl rfl (.skips 1 rfl (.add rfl rfl rfl rfl ?_))))))))
   obtain ⟨h584, x585, hx586, hd⟩ := hd
   obtain ⟨b587, o588, cs589, e590, hC591, hr592⟩ := R42.2 _ _ hx586
   cases hr592
   refine .ixa underlying24 sizeOf3 rfl e590 rfl h584 (idx_lt hx586 h584) rfl rfl (.ld1 (j := 0) isAgg3 hC591 rfl rfl rfl rfl rfl (.lt rfl rfl rfl rfl (.nilS [26, 5, 4, 3, 1] rfl rfl (.condP rfl hd (fun hb593 hd => ?_) fun hb593 hd => ?_))))
   · refine .skipS [5, 4, 3, 1] rfl rfl (.seq (.block (.ownF (.s .z) fun hne594 => ?_)))
     refine .draw [some 0, some 1, some 2, some 3, some 4, some 5, some 6, some 7, some 8, some 9, some 10, some 11, some 12, some 13, some 14] 15 MX (by kernel_rfl) (by kernel_rfl) (by kernel_rfl) (by kernel_rfl) (by kernel_rfl) (by kernel_rfl) (by kernel_rfl) (fun ex => (pto b15 (.cells #[.int .i64 r34.Rows, .int .i64 r34.Cols, .slice p40 r34.Start.length c41, .slice p43 r34.Col.length c44, .slice p46 r34.Val.length c47] 27 (0, 0))) :: (OwnSl eTriple 49 p564 c565 s563) :: ex) (fun _ _ => (.s (.s .z))) rfl (.fs [[], []] rfl (by kernel_rfl) (.f [] rfl (by kernel_rfl) rfl rfl (fun ex => .fieldAddr underlying27 rfl sizeOf24 rfl (o := 3) rfl rfl rfl .mk) (.f [2] rfl (by kernel_rfl) rfl rfl (fun ex => .load1 isAgg24 rfl .z rfl rfl rfl .mk) (.fs [[]] rfl (by kernel_rfl) ?_))))
     obtain ⟨h595, x596, hx597, hd⟩ := hd
     obtain ⟨b598, o599, cs600, e601, hC602, hr603⟩ := R45.2 _ _ hx597
     cases hr603
     refine .f [3, 4] rfl (by kernel_rfl) rfl rfl (fun ex => .ixa underlying24 sizeOf3 rfl e601 rfl h595 (idx_lt hx597 h595) rfl rfl .mk) (.f [5] rfl (by kernel_rfl) rfl rfl (fun ex => .ld1 (j := 0) isAgg3 hC602 rfl rfl rfl rfl rfl .mk) (.f [] rfl (by kernel_rfl) rfl rfl (fun ex => .fieldAddr underlying27 rfl sizeOf25 rfl (o := 4) rfl rfl rfl .mk) (.f [7] rfl (by kernel_rfl) rfl rfl (fun ex => .load1 isAgg25 rfl .z rfl rfl rfl .mk) (.fs [[]] rfl (by kernel_rfl) ?_))))
     obtain ⟨h604, x605, hx606, hd⟩ := hd
     obtain ⟨b607, o608, cs609, e610, hC611, hr612⟩ := R48.2 _ _ hx606
     cases hr612
     refine .f [8, 9] rfl (by kernel_rfl) rfl rfl (fun ex => .ixa underlying25 sizeOf2 rfl e610 rfl h604 (idx_lt hx606 h604) rfl rfl .mk) (.f [10] rfl (by kernel_rfl) rfl rfl (fun ex => .ld1 (j := 0) isAgg2 hC611 rfl rfl rfl rfl rfl .mk) (.f [1, 6, 11] rfl (by kernel_rfl) rfl rfl (fun ex => .build zeroValue49 underlying49 BI49 (.c rfl rfl rfl (.t .nil) (.c rfl rfl rfl (.s (.t .nil)) (.c rfl rfl rfl (.s (.s (.t .nil))) .n))) (by exact ⟨⟨_, _, rfl, rfl, rfl⟩, ⟨⟨_, _, rfl, rfl, rfl⟩, ⟨⟨_, _, rfl, rfl, rfl⟩, trivial⟩⟩⟩) rfl rfl .mk) (.w [0] [[], [12], [11, 12], [10, 11, 12], [10, 11, 12], [8, 10, 11, 12], [12], [6, 12], [5, 6, 12], [5, 6, 12], [3, 5, 6, 12], [12]] [12] rfl (by kernel_rfl) (by kernel_rfl) (by kernel_rfl) ((dropE_kept rfl rfl)) (.inr (dropE_kept rfl rfl)) fun ex => ?_)))
     refine .buildSlice 1 underlying23 sizeOf49 zeroValue49 rfl rfl (.c rfl rfl rfl .n) rfl rfl fun b613 => ?_
     refine .some (fun ex => (pto b613 (.cells #[.int .i64 s431, .int .i64 x596, .int .i64 x605] 49 (0, 0))) :: (pto b15 (.cells #[.int .i64 r34.Rows, .int .i64 r34.Cols, .slice p40 r34.Start.length c41, .slice p43 r34.Col.length c44, .slice p46 r34.Val.length c47] 27 (0, 0))) :: (OwnSl eTriple 49 p564 c565 s563) :: ex) rfl (fun _ _ => (.s (.s (.s .z)))) rfl (.ccs [[]] rfl rfl (by kernel_rfl) trivial) (.w [] [[]] [0, 13] rfl (by kernel_rfl) (by kernel_rfl) (by kernel_rfl) ((dropE_kept rfl rfl)) (.inr (dropE_kept rfl rfl)) fun ex => ?_)
     obtain ⟨hl615, hd⟩ := hd
     refine .append (ys := [({ Row := s431, Col := x596, Val := x605 } : Triple)]) 24 (.s (.s .z)) underlying23 underlying23 IN49 rfl rfl rfl rfl rfl rfl rfl rfl rfl (.box .z (.one rfl) rfl) hl615 rfl rfl fun p616 c617 => ?_
     refine .some (fun ex => (OwnSl eTriple 49 p616 c617 (s563 ++ ([({ Row := s431, Col := x596, Val := x605 } : Triple)]))) :: (pto b613 (.cells #[.int .i64 s431, .int .i64 x596, .int .i64 x605] 49 (0, 0))) :: (pto b15 (.cells #[.int .i64 r34.Rows, .int .i64 r34.Cols, .slice p40 r34.Start.length c41, .slice p43 r34.Col.length c44, .slice p46 r34.Val.length c47] 27 (0, 0))) :: ex) rfl (fun _ _ => (.s (.s (.s .z)))) rfl trivial (.e 15 (by kernel_rfl) (by kernel_rfl) (by kernel_rfl) (.sub (E' := [(1, _), (4, _), (5, _), (29, _), (30, _), (31, _), (32, _), (33, _), (34, _), (35, _), (36, _), (37, _), (38, _), (39, _), (40, _), (41, _), (42, _), (43, _)]) ⟨rfl, rfl, rfl, rfl, rfl, rfl, rfl, rfl, rfl, rfl, rfl, rfl, rfl, rfl, rfl, rfl, rfl, rfl, trivial⟩ (.skips 1 rfl (.nilS [3, 5, 4, 1] rfl rfl (.drop (.s .z) (.region (.skips 1 rfl (.add rfl rfl rfl rfl (.sub (E' := [(1, _), (4, _), (3, _), (27, _), (28, _)]) ⟨rfl, rfl, rfl, rfl, rfl, trivial⟩ ?_)))))))))
     exact .skips 1 rfl (.nil' fun c w ho hs => ⟨((s563 ++ ([({ Row := s431, Col := x596, Val := x605 } : Triple)])), w64 (s567 + 1)), hd, I569, _, _, le573, ho.sub ⟨rfl, rfl, rfl, rfl, trivial⟩, hs.pick (.c (.s .z) (.c .z .n))⟩)
   exact .exitS [4, 3, 1] rfl rfl (.region (.skips 1 rfl (.add rfl rfl rfl rfl (.sub (E' := [(1, _), (3, _), (12, _), (13, _)]) ⟨rfl, rfl, rfl, rfl, trivial⟩ (.skips 1 rfl (.nil' fun c w ho hs => ⟨(s563, w64 (s431 + 1)), hd, I569, _, _, le572, ho.sub ⟨rfl, rfl, rfl, trivial⟩, hs.pick (.c .z (.c .z .n))⟩))))))
 refine .exitS [3] rfl rfl (.drop .z (.seq (.region (.skips 2 rfl (.nilS [2] rfl rfl (.pub .z fun I619 hl620 R621 => ?_))))))
 have le622 := IH.le.trans le436 hl620
 have le623 := IH.le.trans le437 hl620
 exact .ret (pret results40 (.t rfl .n) le622 ⟨s427, _, _, rfl, R621, hd⟩)

theorem W_ref07_Turn {I : IH} {a0 : Rows} {p1 : Option Addr} {c2 : Nat} {p4 : Option Addr} {c5 : Nat} {p7 : Option Addr} {c8 : Nat} {Q : Rows → Prop} (R3 : RepSl eI64 I p1 c2 a0.Start) (R6 : RepSl eI64 I p4 c5 a0.Col) (R9 : RepSl eI64 I p7 c8 a0.Val) (hd : ref07_Turn a0 Q) :
    PFun Try.prog 16 [.agg #[.int .i64 a0.Rows, .int .i64 a0.Cols, .slice p1 a0.Start.length c2, .slice p4 a0.Col.length c5, .slice p7 a0.Val.length c8]] I (fun I_ v => ∃ r p10 c11 p13 c14 p16 c17, v = .agg #[.int .i64 r.Rows, .int .i64 r.Cols, .slice p10 r.Start.length c11, .slice p13 r.Col.length c14, .slice p16 r.Val.length c17] ∧ RepSl eI64 I_ p10 c11 r.Start ∧ RepSl eI64 I_ p13 c14 r.Col ∧ RepSl eI64 I_ p16 c17 r.Val ∧ Q r) := by
 refine Fun.enter func16 rfl ntmps16 rfl (.c .n) fun w0 M => ?_
 refine .seq (.region (.boxA rfl rfl rfl fun b23 => ?_))
 refine .allocA zeroValue27 rfl rfl fun b25 => ?_
 refine .nilS [2, 1] rfl rfl (.seq (.region (.loadW isAgg27 sizeOf27 rfl (.s .z) rfl rfl rfl ?_)))
 have hw59 := W_ref07_Sure (I := I) R3 R6 R9 hd
 refine .call call39 rfl hw59 rfl rfl fun v48 I45 hl46 hv47 => ?_
 obtain ⟨r44, p50, c51, p53, c54, p56, c57, rfl, R52, R55, R58, hd⟩ := hv47
 have le60 := IH.le.trans (.refl _) hl46
 replace R3 := R3.mono hl46
 replace R6 := R6.mono hl46
 replace R9 := R9.mono hl46
 refine .storeA sizeOf27 rfl rfl (.s .z) (.t (.t (.t (.t (.t .nil))))) rfl rfl (.nilS [2, 1] rfl rfl (.seq (.region (.loadW isAgg27 sizeOf27 rfl (.s .z) rfl rfl rfl ?_))))
 have hw81 := W_ref07_Triples (I := I45) R52 R55 R58 hd
 refine .call call40 rfl hw81 rfl rfl fun v76 I73 hl74 hv75 => ?_
 obtain ⟨r72, p78, c79, rfl, R80, hd⟩ := hv75
 have le82 := IH.le.trans le60 hl74
 replace R52 := R52.mono hl74
 replace R55 := R55.mono hl74
 replace R58 := R58.mono hl74
 refine .skips 1 rfl (.nilS [3, 2, 1] rfl rfl (.seq (.region (.skips 1 rfl (.nilS [4, 3, 2, 1] rfl rfl (.seq (.seq (.region (.skips 1 rfl ?_)))))))))
 refine .nilS [5, 4, 3, 2, 1] rfl rfl (.block (.own0 eTriple 49 (.loop hd (fun (s : (List Triple) × Int) c w => match s with | (s429, s433) => ∃ I_ p430 c431, IH.le I73 I_ ∧ Ok ⟨51, [], none⟩ [(1, .pointer (some ⟨b23, 0, none⟩)), (2, .pointer (some ⟨b25, 0, none⟩)), (3, .slice p78 r72.length c79), (4, .slice p430 s429.length c431), (5, .int .i64 s433)] c ∧ Sym w0 M I I_ [pto b23 (.cells #[.int .i64 r44.Rows, .int .i64 r44.Cols, .slice p50 r44.Start.length c51, .slice p53 r44.Col.length c54, .slice p56 r44.Val.length c57] 27 (0, 0)), pto b25 (.cells #[.int .i64 0, .int .i64 0, .slice none 0 0, .slice none 0 0, .slice none 0 0] 27 (0, 0)), OwnSl eTriple 49 p430 c431 s429] w) (fun c w ho hs => ⟨I73, _, _, (.refl _), ho.sub ⟨rfl, rfl, rfl, rfl, rfl, trivial⟩, hs.pick (.c (.s (.s .z)) (.c (.s .z) (.c .z .n)))⟩) ?_)))
 rintro ⟨s429, s433⟩ next435 hd c w hst
 obtain ⟨I436, p430, c431, hl437, hok, hsym⟩ := hst
 have le438 := IH.le.trans le82 hl437
 have le439 := IH.le.trans (.refl _) hl437
 replace R52 := R52.mono hl437
 replace R55 := R55.mono hl437
 replace R58 := R58.mono hl437
 replace R80 := R80.mono hl437
 refine Cod.at hok hsym (.seq (.seq (.region (.skips 1 rfl (.fieldAddr underlying27 rfl sizeOf3 rfl (o := 1) rfl rfl rfl (.load1 isAgg3 rfl .z rfl rfl rfl (.lt rfl rfl rfl rfl (.nilS [14, 5, 4, 3, 2, 1] rfl rfl (.condP rfl hd (fun hb441 hd => ?_) fun hb441 hd => ?_)))))))))
 · refine .skipS [5, 4, 3, 2, 1] rfl rfl (.seq (.block (.seq (.region (.skips 1 rfl (.nilS [6, 5, 4, 3, 2, 1] rfl rfl (.block (.loop hd (fun (s : (List Triple) × Int) c w => match s with | (s549, s553) => ∃ I_ p550 c551, IH.le I436 I_ ∧ Ok ⟨51, [], none⟩ [(1, .pointer (some ⟨b23, 0, none⟩)), (2, .pointer (some ⟨b25, 0, none⟩)), (3, .slice p78 r72.length c79), (4, .slice p550 s549.length c551), (5, .int .i64 s433), (6, .int .i64 s553)] c ∧ Sym w0 M I I_ [pto b23 (.cells #[.int .i64 r44.Rows, .int .i64 r44.Cols, .slice p50 r44.Start.length c51, .slice p53 r44.Col.length c54, .slice p56 r44.Val.length c57] 27 (0, 0)), pto b25 (.cells #[.int .i64 0, .int .i64 0, .slice none 0 0, .slice none 0 0, .slice none 0 0] 27 (0, 0)), OwnSl eTriple 49 p550 c551 s549] w) (fun c w ho hs => ⟨I436, _, _, (.refl _), ho.sub ⟨rfl, rfl, rfl, rfl, rfl, rfl, trivial⟩, hs.pick (.c .z (.c .z (.c .z .n)))⟩) ?_))))))))
   rintro ⟨s549, s553⟩ next554 hd c w hst
   obtain ⟨I555, p550, c551, hl556, hok, hsym⟩ := hst
   have le557 := IH.le.trans le438 hl556
   have le558 := IH.le.trans le439 hl556
   have le559 := IH.le.trans (.refl _) hl556
   replace R52 := R52.mono hl556
   replace R55 := R55.mono hl556
   replace R58 := R58.mono hl556
   replace R80 := R80.mono hl556
   refine Cod.at hok hsym (.seq (.seq (.region (.skips 2 rfl (.len underlying23 rfl rfl rfl rfl (.lt rfl rfl rfl rfl (.nilS [20, 6, 5, 4, 3, 2, 1] rfl rfl (.condP rfl hd (fun hb561 hd => ?_) fun hb561 hd => ?_))))))))
   · refine .skipS [6, 5, 4, 3, 2, 1] rfl rfl (.seq (.block (.seq (.region (.skips 2 rfl ?_)))))
     obtain ⟨h571, x572, hx573, hd⟩ := hd
     obtain ⟨b574, o575, cs576, e577, hC578, hr579⟩ := R80.2 _ _ hx573
     cases hr579
     refine .ixa underlying23 sizeOf49 rfl e577 rfl h571 (idx_lt hx573 h571) rfl rfl (.fieldAddr underlying49 rfl sizeOf3 rfl (o := o575 + s553.toNat * 3 + 1) rfl rfl rfl (.ld1 (j := 1) isAgg3 hC578 rfl rfl rfl rfl rfl (.skips 1 rfl (.eq rfl rfl rfl rfl (.nilS [29, 6, 5, 4, 3, 2, 1] rfl rfl (.condP rfl hd (fun hb580 hd => ?_) fun hb580 hd => ?_))))))
     · refine .ownF (.s (.s .z)) fun hne581 => ?_
       refine .draw [some 0, some 1, some 2, some 3, some 4, some 5, some 6, some 7, some 8, some 9, some 10, some 11, some 12, some 13, some 14] 15 MX (by kernel_rfl) (by kernel_rfl) (by kernel_rfl) (by kernel_rfl) (by kernel_rfl) (by kernel_rfl) (by kernel_rfl) (fun ex => (pto b23 (.cells #[.int .i64 r44.Rows, .int .i64 r44.Cols, .slice p50 r44.Start.length c51, .slice p53 r44.Col.length c54, .slice p56 r44.Val.length c57] 27 (0, 0))) :: (pto b25 (.cells #[.int .i64 0, .int .i64 0, .slice none 0 0, .slice none 0 0, .slice none 0 0] 27 (0, 0))) :: (OwnSl eTriple 49 p550 c551 s549) :: ex) (fun _ _ => (.s (.s (.s .z)))) rfl (.fs [[], [], [], []] rfl (by kernel_rfl) ?_)
       obtain ⟨h582, x583, hx584, hd⟩ := hd
       obtain ⟨b585, o586, cs587, e588, hC589, hr590⟩ := R80.2 _ _ hx584
       cases hr590
       refine .f [2, 3] rfl (by kernel_rfl) rfl rfl (fun ex => .ixa underlying23 sizeOf49 rfl e588 rfl h582 (idx_lt hx584 h582) rfl rfl .mk) (.f [4] rfl (by kernel_rfl) rfl rfl (fun ex => .fieldAddr underlying49 rfl sizeOf3 rfl (o := o586 + s553.toNat * 3) rfl rfl rfl .mk) (.f [5] rfl (by kernel_rfl) rfl rfl (fun ex => .ld1 (j := 0) isAgg3 hC589 rfl rfl rfl rfl rfl .mk) (.fs [[], []] rfl (by kernel_rfl) ?_)))
       obtain ⟨h591, x592, hx593, hd⟩ := hd
       obtain ⟨b594, o595, cs596, e597, hC598, hr599⟩ := R80.2 _ _ hx593
       cases hr599
       refine .f [7, 8] rfl (by kernel_rfl) rfl rfl (fun ex => .ixa underlying23 sizeOf49 rfl e597 rfl h591 (idx_lt hx593 h591) rfl rfl .mk) (.f [9] rfl (by kernel_rfl) rfl rfl (fun ex => .fieldAddr underlying49 rfl sizeOf2 rfl (o := o595 + s553.toNat * 3 + 2) rfl rfl rfl .mk) (.f [10] rfl (by kernel_rfl) rfl rfl (fun ex => .ld1 (j := 2) isAgg2 hC598 rfl rfl rfl rfl rfl .mk) (.f [1, 6, 11] rfl (by kernel_rfl) rfl rfl (fun ex => .build zeroValue49 underlying49 BI49 (.c rfl rfl rfl (.t .nil) (.c rfl rfl rfl (.s (.t .nil)) (.c rfl rfl rfl (.s (.s (.t .nil))) .n))) (by exact ⟨⟨_, _, rfl, rfl, rfl⟩, ⟨⟨_, _, rfl, rfl, rfl⟩, ⟨⟨_, _, rfl, rfl, rfl⟩, trivial⟩⟩⟩) rfl rfl .mk) (.w [0] [[], [12], [11, 12], [10, 11, 12], [9, 10, 11, 12], [9, 10, 11, 12], [12], [6, 12], [5, 6, 12], [4, 5, 6, 12], [4, 5, 6, 12], [12]] [12] rfl (by kernel_rfl) (by kernel_rfl) (by kernel_rfl) ((dropE_kept rfl rfl)) (.inr (dropE_kept rfl rfl)) fun ex => ?_))))
       refine .buildSlice 1 underlying23 sizeOf49 zeroValue49 rfl rfl (.c rfl rfl rfl .n) rfl rfl fun b600 => ?_
       refine .some (fun ex => (pto b600 (.cells #[.int .i64 s433, .int .i64 x583.Row, .int .i64 x592.Val] 49 (0, 0))) :: (pto b23 (.cells #[.int .i64 r44.Rows, .int .i64 r44.Cols, .slice p50 r44.Start.length c51, .slice p53 r44.Col.length c54, .slice p56 r44.Val.length c57] 27 (0, 0))) :: (pto b25 (.cells #[.int .i64 0, .int .i64 0, .slice none 0 0, .slice none 0 0, .slice none 0 0] 27 (0, 0))) :: (OwnSl eTriple 49 p550 c551 s549) :: ex) rfl (fun _ _ => (.s (.s (.s (.s .z))))) rfl (.ccs [[]] rfl rfl (by kernel_rfl) trivial) (.w [] [[]] [0, 13] rfl (by kernel_rfl) (by kernel_rfl) (by kernel_rfl) ((dropE_kept rfl rfl)) (.inr (dropE_kept rfl rfl)) fun ex => ?_)
       obtain ⟨hl602, hd⟩ := hd
       refine .append (ys := [({ Row := s433, Col := x583.Row, Val := x592.Val } : Triple)]) 24 (.s (.s (.s .z))) underlying23 underlying23 IN49 rfl rfl rfl rfl rfl rfl rfl rfl rfl (.box .z (.one rfl) rfl) hl602 rfl rfl fun p603 c604 => ?_
       refine .some (fun ex => (OwnSl eTriple 49 p603 c604 (s549 ++ ([({ Row := s433, Col := x583.Row, Val := x592.Val } : Triple)]))) :: (pto b600 (.cells #[.int .i64 s433, .int .i64 x583.Row, .int .i64 x592.Val] 49 (0, 0))) :: (pto b23 (.cells #[.int .i64 r44.Rows, .int .i64 r44.Cols, .slice p50 r44.Start.length c51, .slice p53 r44.Col.length c54, .slice p56 r44.Val.length c57] 27 (0, 0))) :: (pto b25 (.cells #[.int .i64 0, .int .i64 0, .slice none 0 0, .slice none 0 0, .slice none 0 0] 27 (0, 0))) :: ex) rfl (fun _ _ => (.s (.s (.s (.s .z))))) rfl trivial (.e 15 (by kernel_rfl) (by kernel_rfl) (by kernel_rfl) (.sub (E' := [(1, _), (2, _), (3, _), (5, _), (6, _), (29, _), (30, _), (31, _), (32, _), (33, _), (34, _), (35, _), (36, _), (37, _), (38, _), (39, _), (40, _), (41, _), (42, _), (43, _), (44, _)]) ⟨rfl, rfl, rfl, rfl, rfl, rfl, rfl, rfl, rfl, rfl, rfl, rfl, rfl, rfl, rfl, rfl, rfl, rfl, rfl, rfl, rfl, trivial⟩ (.skips 1 rfl (.nilS [4, 6, 5, 3, 2, 1] rfl rfl (.drop (.s .z) (.region (.skips 1 rfl (.add rfl rfl rfl rfl (.sub (E' := [(1, _), (2, _), (3, _), (5, _), (4, _), (21, _), (22, _)]) ⟨rfl, rfl, rfl, rfl, rfl, rfl, rfl, trivial⟩ ?_)))))))))
       exact .skips 1 rfl (.nil' fun c w ho hs => ⟨((s549 ++ ([({ Row := s433, Col := x583.Row, Val := x592.Val } : Triple)])), w64 (s553 + 1)), hd, I555, _, _, le559, ho.sub ⟨rfl, rfl, rfl, rfl, rfl, rfl, trivial⟩, hs.pick (.c (.s .z) (.c (.s .z) (.c .z .n)))⟩)
     exact .skipS [6, 5, 4, 3, 2, 1] rfl rfl (.region (.skips 1 rfl (.add rfl rfl rfl rfl (.sub (E' := [(1, _), (2, _), (3, _), (4, _), (5, _), (21, _), (22, _)]) ⟨rfl, rfl, rfl, rfl, rfl, rfl, rfl, trivial⟩ (.skips 1 rfl (.nil' fun c w ho hs => ⟨(s549, w64 (s553 + 1)), hd, I555, _, _, le559, ho.sub ⟨rfl, rfl, rfl, rfl, rfl, rfl, trivial⟩, hs.pick (.c .z (.c .z (.c .z .n)))⟩))))))
   exact .exitS [5, 4, 3, 2, 1] rfl rfl (.region (.skips 1 rfl (.add rfl rfl rfl rfl (.sub (E' := [(1, _), (2, _), (3, _), (4, _), (15, _), (16, _)]) ⟨rfl, rfl, rfl, rfl, rfl, rfl, trivial⟩ (.skips 1 rfl (.nil' fun c w ho hs => ⟨(s549, w64 (s433 + 1)), hd, I555, _, _, le558, ho.sub ⟨rfl, rfl, rfl, rfl, rfl, trivial⟩, hs.pick (.c .z (.c .z (.c .z .n)))⟩))))))
 refine .exitS [4, 2, 1] rfl rfl (.seq (.region (.fieldAddr underlying27 rfl sizeOf3 rfl (o := 1) rfl rfl rfl (.load1 isAgg3 rfl .z rfl rfl rfl (.fieldAddr underlying27 rfl sizeOf3 rfl (o := 0) rfl rfl rfl (.load1 isAgg3 rfl .z rfl rfl rfl (.skips 1 rfl (.pub (.s (.s .z)) fun I606 hl607 R608 => ?_))))))))
 have le609 := IH.le.trans le438 hl607
 have le610 := IH.le.trans le439 hl607
 replace R52 := R52.mono hl607
 replace R55 := R55.mono hl607
 replace R58 := R58.mono hl607
 have hw626 := W_ref07_built (I := I606) R608 hd
 refine .call call41 rfl hw626 rfl rfl fun v615 I612 hl613 hv614 => ?_
 obtain ⟨r611, p617, c618, p620, c621, p623, c624, rfl, R619, R622, R625, hd⟩ := hv614
 have le627 := IH.le.trans le609 hl613
 have le628 := IH.le.trans le610 hl613
 replace R52 := R52.mono hl613
 replace R55 := R55.mono hl613
 replace R58 := R58.mono hl613
 replace R608 := R608.mono hl613
 exact .storeA sizeOf27 rfl rfl (.s .z) (.t (.t (.t (.t (.t .nil))))) rfl rfl (.nilS [2] rfl rfl (.drop .z (.ret (pret results16 (.w isAgg27 sizeOf27 rfl .z rfl .n) le627 ⟨r611, _, _, _, _, _, _, rfl, R619, R622, R625, hd⟩))))

theorem W_law08_DcscTurns {I : IH} {a0 : Int × Int} {a1 : List Triple} {a2 : Int} {p1 : Option Addr} {c2 : Nat} {Q : Bool → Prop} (R3 : RepSl eTriple I p1 c2 a1) (hd : law08_DcscTurns a0 a1 a2 Q) :
    PFun Try.prog 4 [.agg #[.int .u8 a0.1, .int .u8 a0.2], .slice p1 a1.length c2, .int .u8 a2] I (fun I_ v => ∃ r, v = .bool r ∧ Q r) := by
 refine Fun.enter func4 rfl ntmps4 rfl (.c (.c (.c .n))) fun w0 M => ?_
 refine .seq (.region (.boxA rfl rfl rfl fun b6 => ?_))
 refine .skips 1 rfl (.nilS [3, 2, 1] rfl rfl (.seq (.region (.loadW isAgg22 sizeOf22 rfl .z rfl rfl rfl (.skips 1 rfl ?_)))))
 have hw42 := W_law07_Some (I := I) R3 hd
 refine .call call6 rfl hw42 rfl rfl fun v31 I28 hl29 hv30 => ?_
 obtain ⟨r27, p33, c34, p36, c37, p39, c40, rfl, R35, R38, R41, hd⟩ := hv30
 have le43 := IH.le.trans (.refl _) hl29
 replace R3 := R3.mono hl29
 refine .allocA zeroValue27 rfl rfl fun b44 => ?_
 refine .storeA sizeOf27 rfl rfl .z (.t (.t (.t (.t (.t .nil))))) rfl rfl (.nilS [7, 2] rfl rfl (.drop (.s .z) (.seq (.draw [some 0, some 1, some 2, some 4, some 5, some 7, some 9, some 10, some 3, some 6, some 8, some 11, some 12, some 13] 14 MX (by kernel_rfl) (by kernel_rfl) (by kernel_rfl) (by kernel_rfl) (by kernel_rfl) (by kernel_rfl) (by kernel_rfl) (fun ex => (pto b44 (.cells #[.int .i64 r27.Rows, .int .i64 r27.Cols, .slice p33 r27.Start.length c34, .slice p36 r27.Col.length c37, .slice p39 r27.Val.length c40] 27 (0, 0))) :: ex) (fun _ _ => (.s .z)) rfl (.w [] [] [] rfl (by kernel_rfl) (by kernel_rfl) (by kernel_rfl) ((dropE_kept rfl rfl)) (.inr (dropE_kept rfl rfl)) fun ex => ?_)))))
 have hw47 := W_law08_live (I := I28) hd
 refine .callP call8 rfl hw47 rfl rfl fun v48 hv49 => ?_
 obtain ⟨r46, rfl, hd⟩ := hv49
 refine .some (fun ex => (pto b44 (.cells #[.int .i64 r27.Rows, .int .i64 r27.Cols, .slice p33 r27.Start.length c34, .slice p36 r27.Col.length c37, .slice p39 r27.Val.length c40] 27 (0, 0))) :: ex) rfl (fun _ _ => (.s .z)) rfl trivial (.fs [[0, 0]] rfl (by kernel_rfl) ?_)
 refine splitP hd (fun hb50 hd => ?_) fun hb50 hd => ?_
 · refine .f [1] rfl (by kernel_rfl) rfl rfl (fun ex => .gyes rfl rfl hb50 (.loadW isAgg27 sizeOf27 rfl .z rfl rfl rfl .mk)) (.f [1] rfl (by kernel_rfl) rfl rfl (fun ex => .gyes rfl rfl hb50 (.move rfl rfl rfl .mk)) (.f [4, 1] rfl (by kernel_rfl) rfl rfl (fun ex => .gyes rfl rfl hb50 (.conv underlying5 underlying3 rfl rfl rfl .mk)) (.f [1] rfl (by kernel_rfl) rfl rfl (fun ex => .gyes rfl rfl hb50 (.loadW isAgg27 sizeOf27 rfl .z rfl rfl rfl .mk)) (.f [1] rfl (by kernel_rfl) rfl rfl (fun ex => .gyes rfl rfl hb50 (.move rfl rfl rfl .mk)) (.f [9, 1] rfl (by kernel_rfl) rfl rfl (fun ex => .gyes rfl rfl hb50 (.conv underlying5 underlying3 rfl rfl rfl .mk)) (.w [10, 9, 7, 5, 4] [[], []] [2, 1, 1] rfl (by kernel_rfl) (by kernel_rfl) (by kernel_rfl) ((dropE_kept rfl rfl)) (.inr (dropE_kept rfl rfl)) fun ex => ?_))))))
   have hw69 := W_dcsc_Of (I := I28) R35 R38 R41 hd
   refine .gyes rfl rfl hb50 (.call call7 rfl hw69 rfl rfl fun v55 I52 hl53 hv54 => ?_)
   obtain ⟨r51, p57, c58, p60, c61, p63, c64, p66, c67, rfl, R59, R62, R65, R68, hd⟩ := hv54
   have le70 := IH.le.trans le43 hl53
   replace R35 := R35.mono hl53
   replace R38 := R38.mono hl53
   replace R41 := R41.mono hl53
   refine .some (fun ex => (pto b44 (.cells #[.int .i64 r27.Rows, .int .i64 r27.Cols, .slice p33 r27.Start.length c34, .slice p36 r27.Col.length c37, .slice p39 r27.Val.length c40] 27 (0, 0))) :: ex) rfl (fun _ _ => (.s .z)) rfl (.cc [9, 1] rfl (by kernel_rfl) rfl rfl rfl (fun ex => .gyes rfl rfl hb50 (.conv underlying5 underlying3 rfl rfl rfl .mk)) (.cc [1] rfl (by kernel_rfl) rfl rfl rfl (fun ex => .gyes rfl rfl hb50 (.move rfl rfl rfl .mk)) (.cc [1] rfl (by kernel_rfl) rfl rfl rfl (fun ex => .gyes rfl rfl hb50 (.loadW isAgg27 sizeOf27 rfl .z rfl rfl rfl .mk)) (.cc [4, 1] rfl (by kernel_rfl) rfl rfl rfl (fun ex => .gyes rfl rfl hb50 (.conv underlying5 underlying3 rfl rfl rfl .mk)) (.cc [1] rfl (by kernel_rfl) rfl rfl rfl (fun ex => .gyes rfl rfl hb50 (.move rfl rfl rfl .mk)) trivial))))) (.w [10, 9, 7] [[], [5]] [3, 5, 3, 1] rfl (by kernel_rfl) (by kernel_rfl) (by kernel_rfl) ((dropE_kept rfl rfl)) (.inr (dropE_kept rfl rfl)) fun ex => ?_)
   have hw80 := W_dcsc_Column (I := I52) R59 R62 R65 R68 hd
   refine .gyes rfl rfl hb50 (.call call14 rfl hw80 rfl rfl fun v75 I72 hl73 hv74 => ?_)
   obtain ⟨r71, p77, c78, rfl, R79, hd⟩ := hv74
   have le81 := IH.le.trans le70 hl73
   replace R35 := R35.mono hl73
   replace R38 := R38.mono hl73
   replace R41 := R41.mono hl73
   replace R59 := R59.mono hl73
   replace R62 := R62.mono hl73
   replace R65 := R65.mono hl73
   replace R68 := R68.mono hl73
   refine .some (fun ex => (pto b44 (.cells #[.int .i64 r27.Rows, .int .i64 r27.Cols, .slice p33 r27.Start.length c34, .slice p36 r27.Col.length c37, .slice p39 r27.Val.length c40] 27 (0, 0))) :: ex) rfl (fun _ _ => (.s .z)) rfl (.cc [9, 1] rfl (by kernel_rfl) rfl rfl rfl (fun ex => .gyes rfl rfl hb50 (.conv underlying5 underlying3 rfl rfl rfl .mk)) (.cc [1] rfl (by kernel_rfl) rfl rfl rfl (fun ex => .gyes rfl rfl hb50 (.move rfl rfl rfl .mk)) (.cc [1] rfl (by kernel_rfl) rfl rfl rfl (fun ex => .gyes rfl rfl hb50 (.loadW isAgg27 sizeOf27 rfl .z rfl rfl rfl .mk)) trivial))) (.w [10, 9] [[]] [7, 6, 1] rfl (by kernel_rfl) (by kernel_rfl) (by kernel_rfl) ((dropE_kept rfl rfl)) (.inr (dropE_kept rfl rfl)) fun ex => ?_)
   have hw97 := W_ref07_Turn (I := I72) R35 R38 R41 hd
   refine .gyes rfl rfl hb50 (.call call16 rfl hw97 rfl rfl fun v86 I83 hl84 hv85 => ?_)
   obtain ⟨r82, p88, c89, p91, c92, p94, c95, rfl, R90, R93, R96, hd⟩ := hv85
   have le98 := IH.le.trans le81 hl84
   replace R35 := R35.mono hl84
   replace R38 := R38.mono hl84
   replace R41 := R41.mono hl84
   replace R59 := R59.mono hl84
   replace R62 := R62.mono hl84
   replace R65 := R65.mono hl84
   replace R68 := R68.mono hl84
   replace R79 := R79.mono hl84
   refine .some (fun ex => (pto b44 (.cells #[.int .i64 r27.Rows, .int .i64 r27.Cols, .slice p33 r27.Start.length c34, .slice p36 r27.Col.length c37, .slice p39 r27.Val.length c40] 27 (0, 0))) :: ex) rfl (fun _ _ => (.s .z)) rfl (.cc [9, 1] rfl (by kernel_rfl) rfl rfl rfl (fun ex => .gyes rfl rfl hb50 (.conv underlying5 underlying3 rfl rfl rfl .mk)) (.cc [1] rfl (by kernel_rfl) rfl rfl rfl (fun ex => .gyes rfl rfl hb50 (.move rfl rfl rfl .mk)) trivial)) (.w [] [[], [10]] [8, 10, 8, 1] rfl (by kernel_rfl) (by kernel_rfl) (by kernel_rfl) ((dropE_kept rfl rfl)) (.inr (dropE_kept rfl rfl)) fun ex => ?_)
   have hw108 := W_ref07_Row (I := I83) R90 R93 R96 hd
   refine .gyes rfl rfl hb50 (.call call15 rfl hw108 rfl rfl fun v103 I100 hl101 hv102 => ?_)
   obtain ⟨r99, p105, c106, rfl, R107, hd⟩ := hv102
   have le109 := IH.le.trans le98 hl101
   replace R35 := R35.mono hl101
   replace R38 := R38.mono hl101
   replace R41 := R41.mono hl101
   replace R59 := R59.mono hl101
   replace R62 := R62.mono hl101
   replace R65 := R65.mono hl101
   replace R68 := R68.mono hl101
   replace R79 := R79.mono hl101
   replace R90 := R90.mono hl101
   replace R93 := R93.mono hl101
   replace R96 := R96.mono hl101
   refine .some (fun ex => (pto b44 (.cells #[.int .i64 r27.Rows, .int .i64 r27.Cols, .slice p33 r27.Start.length c34, .slice p36 r27.Col.length c37, .slice p39 r27.Val.length c40] 27 (0, 0))) :: ex) rfl (fun _ _ => (.s .z)) rfl trivial (.w [] [] [6, 11, 11, 1] rfl (by kernel_rfl) (by kernel_rfl) (by kernel_rfl) ((dropE_kept rfl rfl)) (.inr (dropE_kept rfl rfl)) fun ex => ?_)
   have hw111 := W_ref07_SameItems (I := I100) R79 R107 hd
   refine .gyes rfl rfl hb50 (.callP call13 rfl hw111 rfl rfl fun v112 hv113 => ?_)
   obtain ⟨r110, rfl, hd⟩ := hv113
   exact .some (fun ex => (pto b44 (.cells #[.int .i64 r27.Rows, .int .i64 r27.Cols, .slice p33 r27.Start.length c34, .slice p36 r27.Col.length c37, .slice p39 r27.Val.length c40] 27 (0, 0))) :: ex) rfl (fun _ _ => (.s .z)) rfl trivial (.f [1, 12] rfl (by kernel_rfl) rfl rfl (fun ex => .pickT rfl hb50 rfl rfl rfl .mk) (.e 14 (by kernel_rfl) (by kernel_rfl) (by kernel_rfl) (.skips 1 rfl (.nilS [6] rfl rfl (.drop .z (.ret (pret results4 (.t rfl .n) le109 ⟨r110, rfl, hd⟩)))))))
 refine .f [1] rfl (by kernel_rfl) rfl rfl (fun ex => .gno rfl rfl hb50 rfl rfl .mk) (.f [1] rfl (by kernel_rfl) rfl rfl (fun ex => .gno rfl rfl hb50 rfl rfl .mk) (.f [4, 1] rfl (by kernel_rfl) rfl rfl (fun ex => .gno rfl rfl hb50 rfl rfl .mk) (.f [1] rfl (by kernel_rfl) rfl rfl (fun ex => .gno rfl rfl hb50 rfl rfl .mk) (.f [1] rfl (by kernel_rfl) rfl rfl (fun ex => .gno rfl rfl hb50 rfl rfl .mk) (.f [9, 1] rfl (by kernel_rfl) rfl rfl (fun ex => .gno rfl rfl hb50 rfl rfl .mk) (.f [2, 1, 1] rfl (by kernel_rfl) rfl rfl (fun ex => .gno rfl rfl hb50 rfl rfl .mk) (.f [3, 5, 3, 1] rfl (by kernel_rfl) rfl rfl (fun ex => .gno rfl rfl hb50 rfl rfl .mk) (.f [7, 6, 1] rfl (by kernel_rfl) rfl rfl (fun ex => .gno rfl rfl hb50 rfl rfl .mk) (.f [8, 10, 8, 1] rfl (by kernel_rfl) rfl rfl (fun ex => .gno rfl rfl hb50 rfl rfl .mk) ?_)))))))))
 exact .f [6, 11, 11, 1] rfl (by kernel_rfl) rfl rfl (fun ex => .gno rfl rfl hb50 rfl rfl .mk) (.f [1, 12] rfl (by kernel_rfl) rfl rfl (fun ex => .pickF rfl hb50 rfl rfl rfl .mk) (.e 14 (by kernel_rfl) (by kernel_rfl) (by kernel_rfl) (.skips 1 rfl (.nilS [6] rfl rfl (.drop .z (.ret (pret results4 (.t rfl .n) le43 ⟨false, rfl, hd⟩)))))))

end Go.Proofs.Ytjobeiikppmidaa
