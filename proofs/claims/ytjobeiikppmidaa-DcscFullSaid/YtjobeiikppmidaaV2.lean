/- The walks (printed by a program of ours). -/
import Derived.Test.YtjobeiikppmidaaV1
namespace Go.Proofs.Ytjobeiikppmidaa
open Go Go.Fw
set_option linter.unusedVariables false
set_option linter.unusedSimpArgs false
set_option maxRecDepth 8000
set_option maxHeartbeats 1000000
open Try
theorem W_csr_summed {I : IH} {a0 : Int} {a1 : List Triple} {p1 : Option Addr} {c2 : Nat} {Q : ((List Triple) × Int) → Prop} (R3 : RepSl eTriple I p1 c2 a1) (hd : csr_summed a0 a1 Q) :
    PFun Try.prog 56 [.int .i64 a0, .slice p1 a1.length c2] I (fun I_ v => ∃ r p4 c5, v = .tuple #[.slice p4 r.1.length c5, .int .i64 r.2] ∧ RepSl eTriple I_ p4 c5 r.1 ∧ Q r) := by
 refine Fun.enter func56 rfl ntmps56 rfl (.c (.c .n)) fun w0 M => ?_
 refine .seq (.region (.skips 2 rfl (.nilS [1, 0] rfl rfl (.seq (.region (.mkMap kArr2 eWide true rfl rfl fun b9 => ?_))))))
 refine .skips 1 rfl (.nilS [6, 1, 0] rfl rfl (.seq (.seq (.region (.skips 1 rfl (.len underlying23 rfl rfl rfl rfl (.skips 1 rfl (.nilS [21, 20, 19, 6, 0] rfl rfl (.block ?_)))))))))
 refine .loop hd (fun (s : (List ((Int × Int) × Wide)) × Int) c w => match s with | (s294, s295) => ∃ I_, IH.le I I_ ∧ Ok ⟨75, [], none⟩ [(0, .int .i64 a0), (6, .map (some b9)), (19, .slice p1 a1.length c2), (20, .int .i64 (a1.length : Int)), (21, .int .i64 s295)] c ∧ Sym w0 M I I_ [OwnMap kArr2 eWide true b9 s294] w) (fun c w ho hs => ⟨I, (.refl _), ho.sub ⟨rfl, rfl, rfl, rfl, rfl, trivial⟩, hs.pick (.c .z .n)⟩) ?_
 rintro ⟨s294, s295⟩ next296 hd c w hst
 obtain ⟨I297, hl298, hok, hsym⟩ := hst
 have le299 := IH.le.trans (.refl _) hl298
 replace R3 := R3.mono hl298
 refine Cod.at hok hsym (.seq (.region (.lt rfl rfl rfl rfl (.nilS [22, 21, 20, 19, 6, 0] rfl rfl (.seq (.condP rfl hd (fun hb301 hd => ?_) fun hb301 hd => ?_))))))
 · refine .skipS [21, 20, 19, 6, 0] rfl rfl (.seq (.block (.seq (.region ?_))))
   obtain ⟨h313, x314, hx315, hd⟩ := hd
   obtain ⟨b316, o317, cs318, e319, hC320, hr321⟩ := R3.2 _ _ hx315
   cases hr321
   refine .ixa underlying23 sizeOf49 rfl e319 rfl h313 (idx_lt hx315 h313) rfl rfl (.ldW isAgg49 sizeOf49 hC320 rfl rfl rfl rfl (.allocA zeroValue49 rfl rfl fun b322 => ?_))
   refine .storeA sizeOf49 rfl rfl .z (.t (.t (.t .nil))) rfl rfl (.nilS [8, 21, 20, 19, 6, 0] rfl rfl (.seq (.region (.fieldAddr underlying49 rfl sizeOf3 rfl (o := 0) rfl rfl rfl (.load1 isAgg3 rfl .z rfl rfl rfl (.fieldAddr underlying49 rfl sizeOf3 rfl (o := 1) rfl rfl rfl (.load1 isAgg3 rfl .z rfl rfl rfl (.buildArr zeroValue104 underlying104 sizeOf3 (.c rfl rfl rfl (.t .nil) (.c rfl rfl rfl (.s (.t .nil)) .n)) rfl rfl (.allocA zeroValue104 rfl rfl fun b326 => ?_)))))))))
   refine .storeA sizeOf104 rfl rfl .z (.t (.t .nil)) rfl rfl (.nilS [9, 8, 21, 20, 19, 6, 0] rfl rfl (.seq (.region (.fieldAddr underlying49 rfl sizeOf2 rfl (o := 2) rfl rfl rfl (.load1 isAgg2 rfl (.s .z) rfl rfl rfl ?_)))))
   have hw335 := W_wide_Of (I := I297) hd
   refine .callP call70 rfl hw335 rfl rfl fun v336 hv337 => ?_
   obtain ⟨r334, rfl, hd⟩ := hv337
   refine .allocA zeroValue92 rfl rfl fun b338 => ?_
   refine .storeA sizeOf92 rfl rfl .z (.t (.t .nil)) rfl rfl (.nilS [10, 9, 21, 20, 19, 6, 0] rfl rfl (.drop (.s (.s .z)) (.seq (.seq (.region (.skips 1 rfl (.loadW isAgg104 sizeOf104 rfl (.s .z) rfl rfl rfl (.lookM2 (k := (x314.Row, x314.Col)) (El := eWide) (ag := true) (zv := .agg #[.int .i64 0, .int .u64 0]) (z := ({ Hi := 0, Lo := 0 } : Wide)) KA104 underlying103 zeroValue92 ⟨[.int .i64 0, .int .u64 0], rfl, .a⟩ (.s (.s .z)) rfl rfl hd rfl rfl fun v343 r340 t345 cs344 hd hr341 hv342 => ?_))))))))
   cases hr341
   cases hv342
   refine .skips 1 rfl (.extract rfl rfl rfl rfl (.extract rfl rfl rfl rfl (.allocA zeroValue92 rfl rfl fun b346 => ?_)))
   refine .storeA sizeOf92 rfl rfl .z (.t (.t .nil)) rfl rfl (.skips 1 rfl (.nilS [12, 11, 10, 9, 21, 20, 19, 6, 0] rfl rfl (.seq (.region (.skips 1 rfl (.nilS [39, 11, 10, 9, 21, 20, 19, 6, 0] rfl rfl (.condP rfl hd (fun hb348 hd => ?_) fun hb348 hd => ?_)))))))
   · refine .region (.skips 1 rfl (.loadW isAgg92 sizeOf92 rfl .z rfl rfl rfl (.loadW isAgg92 sizeOf92 rfl (.s .z) rfl rfl rfl ?_)))
     have hw350 := W_ring_Add (I := I297) hd
     refine .callP call71 rfl hw350 rfl rfl fun v351 hv352 => ?_
     obtain ⟨r349, rfl, hd⟩ := hv352
     refine .storeA sizeOf92 rfl rfl (.s .z) (.t (.t .nil)) rfl rfl (.nilS [10, 9, 21, 20, 19, 6, 0] rfl rfl (.drop .z (.region (.skips 1 rfl (.loadW isAgg104 sizeOf104 rfl (.s .z) rfl rfl rfl (.loadW isAgg92 sizeOf92 rfl .z rfl rfl rfl (.updM (k := (x314.Row, x314.Col)) (El := eWide) (ag := true) (v := r349) KA104 underlying103 (.s (.s .z)) rfl rfl rfl ⟨[.int .i64 r349.Hi, .int .u64 r349.Lo], rfl, .a⟩ (.nilS [21, 20, 19, 6, 0] rfl rfl (.drop .z ?_)))))))))
     exact .drop .z (.region (.add rfl rfl rfl rfl (.sub (E' := [(0, _), (6, _), (19, _), (20, _), (47, _)]) ⟨rfl, rfl, rfl, rfl, rfl, trivial⟩ (.skips 1 rfl (.nil' fun c w ho hs => ⟨((mput (x314.Row, x314.Col) r349 s294), w64 (s295 + 1)), hd, I297, le299, ho.sub ⟨rfl, rfl, rfl, rfl, rfl, trivial⟩, hs.pick (.c .z .n)⟩)))))
   refine .skipS [10, 9, 21, 20, 19, 6, 0] rfl rfl (.drop .z (.region (.skips 1 rfl (.loadW isAgg104 sizeOf104 rfl (.s .z) rfl rfl rfl (.loadW isAgg92 sizeOf92 rfl .z rfl rfl rfl (.updM (k := (x314.Row, x314.Col)) (El := eWide) (ag := true) (v := r334) KA104 underlying103 (.s (.s .z)) rfl rfl rfl ⟨[.int .i64 r334.Hi, .int .u64 r334.Lo], rfl, .a⟩ (.nilS [21, 20, 19, 6, 0] rfl rfl (.drop .z (.drop .z ?_)))))))))
   exact .region (.add rfl rfl rfl rfl (.sub (E' := [(0, _), (6, _), (19, _), (20, _), (47, _)]) ⟨rfl, rfl, rfl, rfl, rfl, trivial⟩ (.skips 1 rfl (.nil' fun c w ho hs => ⟨((mput (x314.Row, x314.Col) r334 s294), w64 (s295 + 1)), hd, I297, le299, ho.sub ⟨rfl, rfl, rfl, rfl, rfl, trivial⟩, hs.pick (.c .z .n)⟩))))
 refine .exitS [6, 0] rfl rfl (.seq (.region (.skips 1 rfl (.nilS [13, 6, 0] rfl rfl (.seq (.seq (.region (.skips 1 rfl (.rangeM underlying103 .z rfl rfl rfl fun b354 => ?_)))))))))
 refine .nilS [49, 13, 0] rfl rfl (.block (.own0 eTriple 49 (.loop hd (fun (s : (List Triple) × (List ((Int × Int) × Wide))) c w => match s with | (s459, s463) => ∃ I_ p460 c461, IH.le I297 I_ ∧ Ok ⟨75, [], none⟩ [(0, .int .i64 a0), (13, .slice p460 s459.length c461), (49, .pointer (some ⟨b354, 0, none⟩))] c ∧ Sym w0 M I I_ [OwnSl eTriple 49 p460 c461 s459, OwnIt kArr2 eWide true b9 b354 s294 s463 none] w) (fun c w ho hs => ⟨I297, _, _, (.refl _), ho.sub ⟨rfl, rfl, rfl, trivial⟩, hs.pick (.c .z (.c .z .n))⟩) ?_)))
 rintro ⟨s459, s463⟩ next465 hd c w hst
 obtain ⟨I466, p460, c461, hl467, hok, hsym⟩ := hst
 have le468 := IH.le.trans le299 hl467
 have le469 := IH.le.trans (.refl _) hl467
 refine Cod.at hok hsym (.seq (.region (.nextM (.s .z) rfl hd rfl rfl (fun hd hn490 => ?_) (fun p484 l485 v486 cs487 hd hr488 hv489 hn490 => ?_))))
 · skip
   refine .extract rfl rfl rfl rfl (.nilS [51, 49, 13, 0] rfl rfl (.seq (.condKF rfl rfl (.exitS [13] rfl rfl (.drop (.s .z) (.seq (.region (.skips 1 rfl ?_))))))))
   have hw491 := Fun.sort (hk := fun _ => ⟨rfl, rfl⟩) SL49 isAgg49 sizeOf49 (fun x y J Q hq => W_csr_order (I := J) (a0 := x) (a1 := y) (Q := Q) hq) call50 (I := I466) (T := 49) (a := p460) (cap := c461) hd
   refine .callS (.f call49 rfl) (.c .z .n) hw491 rfl rfl fun v492 I493 l494 hl495 hv496 => ?_
   obtain ⟨y497, rfl, hlen498, rfl, hd⟩ := hv496
   have le499 := IH.le.trans le468 hl495
   have le500 := IH.le.trans le469 hl495
   refine .sub (E' := [(13, .slice p460 y497.length c461), (72, .slice p460 y497.length c461), (73, _)]) ⟨(by rw [hlen498]; rfl), (by rw [hlen498]; rfl), rfl, trivial⟩ (.nilS [13] rfl rfl (.seq (.region (.skips 3 rfl (.nilS [5, 4] rfl rfl (.pub .z fun I501 hl502 R503 => ?_))))))
   have le504 := IH.le.trans le499 hl502
   have le505 := IH.le.trans le500 hl502
   exact .ret (pret results56 (.t rfl (.t rfl .n)) le504 ⟨(y497, 0), _, _, rfl, R503, hd⟩)
 cases hr488
 cases hv489
 refine .extract rfl rfl rfl rfl (.nilS [51, 49, 13, 0] rfl rfl (.seq (.condKT rfl rfl (.skipS [49, 13, 0] rfl rfl (.block (.seq (.region (.entryM .z rfl rfl rfl (.extract rfl rfl rfl rfl ?_)))))))))
 refine .extract rfl rfl rfl rfl (.allocA zeroValue104 rfl rfl fun b510 => ?_)
 refine .allocA zeroValue92 rfl rfl fun b512 => ?_
 refine .storeA sizeOf104 rfl rfl (.s .z) (.t (.t .nil)) rfl rfl (.storeA sizeOf92 rfl rfl .z (.t (.t .nil)) rfl rfl (.nilS [15, 14, 49, 13, 0] rfl rfl (.seq (.region (.skips 1 rfl (.loadW isAgg92 sizeOf92 rfl .z rfl rfl rfl ?_))))))
 have hw519 := W_ring_Narrow (I := I466) hd
 refine .callP call72 rfl hw519 rfl rfl fun v520 hv521 => ?_
 obtain ⟨r518, rfl, hd⟩ := hv521
 refine .skips 1 rfl (.extract rfl rfl rfl rfl (.extract rfl rfl rfl rfl (.skips 2 rfl (.nilS [17, 16, 14, 49, 13, 0] rfl rfl (.drop .z (.seq (.seq (.region (.skips 1 rfl ?_)))))))))
 refine .not rfl rfl rfl (.nilS [62, 16, 14, 49, 13, 0] rfl rfl (.condP rfl hd (fun hb522 hd => ?_) fun hb522 hd => ?_))
 · exact .seq (.region (.skips 2 rfl (.nilS [5, 4] rfl rfl (.drop .z (.drop .z (.drop .z (.ret (pret results56 (.t rfl (.t rfl .n)) le468 ⟨(([] : List Triple), 12), _, _, rfl, (.nil _ _ _), hd⟩))))))))
 refine .skipS [16, 14, 49, 13, 0] rfl rfl (.region (.skips 1 rfl (.ixArr (i := 0) underlying104 sizeOf3 rfl rfl (by decide) (o := 0) rfl rfl rfl (.load1 isAgg3 rfl .z rfl rfl rfl (.ixArr (i := 1) underlying104 sizeOf3 rfl rfl (by decide) (o := 1) rfl rfl rfl (.load1 isAgg3 rfl .z rfl rfl rfl (.skips 1 rfl (.build zeroValue49 underlying49 BI49 (.c rfl rfl rfl (.t .nil) (.c rfl rfl rfl (.s (.t .nil)) (.c rfl rfl rfl (.s (.s (.t .nil))) .n))) (by exact ⟨⟨_, _, rfl, rfl, rfl⟩, ⟨⟨_, _, rfl, rfl, rfl⟩, ⟨⟨_, _, rfl, rfl, rfl⟩, trivial⟩⟩⟩) rfl rfl (.buildSlice 1 underlying23 sizeOf49 zeroValue49 rfl rfl (.c rfl rfl rfl .n) rfl rfl fun b523 => ?_)))))))))
 obtain ⟨hl525, hd⟩ := hd
 refine .append (ys := [({ Row := p484.1.1, Col := p484.1.2, Val := r518.1 } : Triple)]) 24 (.s (.s (.s .z))) underlying23 underlying23 IN49 rfl rfl rfl rfl rfl rfl rfl rfl rfl (.box .z (.one rfl) rfl) hl525 rfl rfl fun p526 c527 => ?_
 exact .sub (E' := [(0, _), (49, _), (14, _), (16, _), (63, _), (64, _), (65, _), (66, _), (67, _), (68, _), (69, _), (70, _), (71, _)]) ⟨rfl, rfl, rfl, rfl, rfl, rfl, rfl, rfl, rfl, rfl, rfl, rfl, rfl, trivial⟩ (.skips 1 rfl (.nil' fun c w ho hs => ⟨((s459 ++ ([({ Row := p484.1.1, Col := p484.1.2, Val := r518.1 } : Triple)])), l485), hd, I466, _, _, le469, ho.sub ⟨rfl, rfl, rfl, trivial⟩, hs.pick (.c .z (.c (.s (.s .z)) .n))⟩))

theorem W_csr_Of_1_fca {I : IH} {o0 : Int} {o1 : Int} {a0 : Triple} {b3 : Nat} {b4 : Nat} {Q : Bool → Prop}  (hd : csr_Of_1_fca o0 o1 a0 Q) :
    Fun Try.prog 55 #[.agg (encTriple a0).toArray, .pointer (some ⟨b3, 0, none⟩), .pointer (some ⟨b4, 0, none⟩)] I [pto b3 (.cells #[.int .i64 o0] 3 (0, 0)), pto b4 (.cells #[.int .i64 o1] 3 (0, 0))] (fun I_ v l => ∃ r, v = .bool r ∧ l = [pto b3 (.cells #[.int .i64 o0] 3 (0, 0)), pto b4 (.cells #[.int .i64 o1] 3 (0, 0))] ∧ Q r) := by
 refine Fun.enter (vs := [.agg (encTriple a0).toArray, .pointer (some ⟨b3, 0, none⟩), .pointer (some ⟨b4, 0, none⟩)]) func55 rfl ntmps55 rfl (.c (.c (.c .n))) fun w0 M => ?_
 refine .seq (.region (.boxA rfl rfl rfl fun b7 => ?_))
 refine .skips 1 rfl (.nilS [3, 2, 1] rfl rfl (.seq (.region (.fieldAddr underlying49 rfl sizeOf3 rfl (o := 0) rfl rfl rfl (.load1 isAgg3 rfl .z rfl rfl rfl (.load1 isAgg3 rfl (.s .z) rfl rfl rfl (.sub' rfl rfl rfl rfl ?_)))))))
 have hw10 := W_csr_within (I := I) hd
 refine .callP call44 rfl hw10 rfl rfl fun v11 hv12 => ?_
 obtain ⟨r9, rfl, hd⟩ := hv12
 refine .not rfl rfl rfl (.skips 1 rfl ?_)
 refine splitP hd (fun hb13 hd => ?_) fun hb13 hd => ?_
 · rw [hb13]
   exact .skips 8 rfl (.nilS [4, 2, 1] rfl rfl (.drop .z (.ret (oret results55 (.t rfl .n) (.refl _) (.c .z (.c .z .n)) ⟨true, rfl, rfl, hd⟩))))
 rw [hb13]
 refine .gyes rfl rfl rfl (.fieldAddr underlying49 rfl sizeOf3 rfl (o := 1) rfl rfl rfl (.gyes rfl rfl rfl (.load1 isAgg3 rfl .z rfl rfl rfl (.gyes rfl rfl rfl (.load1 isAgg3 rfl (.s (.s .z)) rfl rfl rfl (.gyes rfl rfl rfl (.sub' rfl rfl rfl rfl ?_)))))))
 have hw15 := W_csr_within (I := I) hd
 refine .gyes rfl rfl rfl (.callP call44 rfl hw15 rfl rfl fun v16 hv17 => ?_)
 obtain ⟨r14, rfl, hd⟩ := hv17
 exact .gyes rfl rfl rfl (.not rfl rfl rfl (.skips 2 rfl (.nilS [4, 2, 1] rfl rfl (.drop .z (.ret (oret results55 (.t rfl .n) (.refl _) (.c .z (.c .z .n)) ⟨(!r14), rfl, rfl, hd⟩))))))

theorem W_slices_IndexFunc_api_Triple_api_Triple_77e {I : IH} {o0 : Int} {o1 : Int} {a0 : List Triple} {b3 : Nat} {b4 : Nat} {p5 : Option Addr} {c6 : Nat} {Q : Int → Prop} (R7 : RepSl eTriple I p5 c6 a0) (hd : slices_IndexFunc_api_Triple_api_Triple_77e o0 o1 a0 Q) :
    Fun Try.prog 69 #[.slice p5 a0.length c6, .func (.func 55) #[] #[.pointer (some ⟨b3, 0, none⟩), .pointer (some ⟨b4, 0, none⟩)]] I [pto b3 (.cells #[.int .i64 o0] 3 (0, 0)), pto b4 (.cells #[.int .i64 o1] 3 (0, 0))] (fun I_ v l => ∃ r, v = .int .i64 r ∧ l = [pto b3 (.cells #[.int .i64 o0] 3 (0, 0)), pto b4 (.cells #[.int .i64 o1] 3 (0, 0))] ∧ Q r) := by
 refine Fun.enter (vs := [.slice p5 a0.length c6, .func (.func 55) #[] #[.pointer (some ⟨b3, 0, none⟩), .pointer (some ⟨b4, 0, none⟩)]]) func69 rfl ntmps69 rfl (.c (.c .n)) fun w0 M => ?_
 refine .seq (.region (.skips 1 rfl (.nilS [1, 0] rfl rfl (.seq (.seq (.region (.skips 1 rfl (.len underlying23 rfl rfl rfl rfl (.skips 1 rfl ?_)))))))))
 refine .nilS [8, 7, 1, 0] rfl rfl (.block (.loop hd (fun (s51 : Int) c w => ∃ I_, IH.le I I_ ∧ Ok ⟨19, [], none⟩ [(0, .slice p5 a0.length c6), (1, .func (.func 55) #[] #[.pointer (some ⟨b3, 0, none⟩), .pointer (some ⟨b4, 0, none⟩)]), (7, .int .i64 (a0.length : Int)), (8, .int .i64 s51)] c ∧ Sym w0 M I I_ [pto b3 (.cells #[.int .i64 o0] 3 (0, 0)), pto b4 (.cells #[.int .i64 o1] 3 (0, 0))] w) (fun c w ho hs => ⟨I, (.refl _), ho.sub ⟨rfl, rfl, rfl, rfl, trivial⟩, hs.pick (.c .z (.c .z .n))⟩) ?_))
 rintro s51 next52 hd c w hst
 obtain ⟨I53, hl54, hok, hsym⟩ := hst
 have le55 := IH.le.trans (.refl _) hl54
 replace R7 := R7.mono hl54
 refine Cod.at hok hsym (.seq (.region (.lt rfl rfl rfl rfl (.nilS [9, 8, 7, 1, 0] rfl rfl (.seq (.condP rfl hd (fun hb57 hd => ?_) fun hb57 hd => ?_))))))
 · refine .skipS [8, 7, 1, 0] rfl rfl (.seq (.block (.seq (.region (.skips 2 rfl (.nilS [5, 8, 7, 1, 0] rfl rfl (.seq (.region (.skips 3 rfl ?_)))))))))
   obtain ⟨h58, x59, hx60, hd⟩ := hd
   obtain ⟨b61, o62, cs63, e64, hC65, hr66⟩ := R7.2 _ _ hx60
   cases hr66
   refine .ixa underlying23 sizeOf49 rfl e64 rfl h58 (idx_lt hx60 h58) rfl rfl (.ldW isAgg49 sizeOf49 hC65 rfl rfl rfl rfl ?_)
   have hw67 := W_csr_Of_1_fca (I := I53) (o0 := o0) (o1 := o1) (a0 := x59) (b3 := b3) (b4 := b4) hd
   refine .callS (.c call55 rfl rfl) (.c .z (.c .z .n)) hw67 rfl rfl fun v71 I68 l72 hl69 hv70 => ?_
   obtain ⟨r73, rfl, rfl, hd⟩ := hv70
   have le74 := IH.le.trans le55 hl69
   replace R7 := R7.mono hl69
   replace hC65 := hC65.mono hl69
   refine .re (m' := [pto b3 (.cells #[.int .i64 o0] 3 (0, 0)), pto b4 (.cells #[.int .i64 o1] 3 (0, 0))]) rfl (.nilS [16, 5, 8, 7, 1, 0] rfl rfl (.condP rfl hd (fun hb75 hd => ?_) fun hb75 hd => ?_))
   · exact .seq (.region (.skips 2 rfl (.nilS [4, 1] rfl rfl (.ret (oret results69 (.t rfl .n) le74 (.c .z (.c .z .n)) ⟨s51, rfl, rfl, hd⟩)))))
   exact .skipS [8, 7, 1, 0] rfl rfl (.region (.add rfl rfl rfl rfl (.sub (E' := [(0, _), (1, _), (7, _), (18, _)]) ⟨rfl, rfl, rfl, rfl, trivial⟩ (.skips 1 rfl (.nil' fun c w ho hs => ⟨(w64 (s51 + 1)), hd, I68, le74, ho.sub ⟨rfl, rfl, rfl, rfl, trivial⟩, hs.pick (.c .z (.c .z .n))⟩)))))
 exact .exitS [1] rfl rfl (.seq (.region (.skips 1 rfl (.nilS [4, 1] rfl rfl (.ret (oret results69 (.t rfl .n) le55 (.c .z (.c .z .n)) ⟨(-1), rfl, rfl, hd⟩))))))

theorem W_slices_ContainsFunc_api_Triple_api_Triple_988 {I : IH} {o0 : Int} {o1 : Int} {a0 : List Triple} {b3 : Nat} {b4 : Nat} {p5 : Option Addr} {c6 : Nat} {Q : Bool → Prop} (R7 : RepSl eTriple I p5 c6 a0) (hd : slices_ContainsFunc_api_Triple_api_Triple_988 o0 o1 a0 Q) :
    Fun Try.prog 54 #[.slice p5 a0.length c6, .func (.func 55) #[] #[.pointer (some ⟨b3, 0, none⟩), .pointer (some ⟨b4, 0, none⟩)]] I [pto b3 (.cells #[.int .i64 o0] 3 (0, 0)), pto b4 (.cells #[.int .i64 o1] 3 (0, 0))] (fun I_ v l => ∃ r, v = .bool r ∧ l = [pto b3 (.cells #[.int .i64 o0] 3 (0, 0)), pto b4 (.cells #[.int .i64 o1] 3 (0, 0))] ∧ Q r) := by
 refine Fun.enter (vs := [.slice p5 a0.length c6, .func (.func 55) #[] #[.pointer (some ⟨b3, 0, none⟩), .pointer (some ⟨b4, 0, none⟩)]]) func54 rfl ntmps54 rfl (.c (.c .n)) fun w0 M => ?_
 refine .seq (.region (.skips 1 rfl (.nilS [1, 0] rfl rfl (.seq (.region (.skips 2 rfl ?_))))))
 have hw8 := W_slices_IndexFunc_api_Triple_api_Triple_77e (I := I) (o0 := o0) (o1 := o1) (a0 := a0) (b3 := b3) (b4 := b4) R7 hd
 refine .callS (.f call69 rfl) (.c .z (.c .z .n)) hw8 rfl rfl fun v12 I9 l13 hl10 hv11 => ?_
 obtain ⟨r14, rfl, rfl, hd⟩ := hv11
 have le15 := IH.le.trans (.refl _) hl10
 replace R7 := R7.mono hl10
 exact .re (m' := [pto b3 (.cells #[.int .i64 o0] 3 (0, 0)), pto b4 (.cells #[.int .i64 o1] 3 (0, 0))]) rfl (.ge rfl rfl rfl rfl (.skips 1 rfl (.nilS [4, 1] rfl rfl (.ret (oret results54 (.t rfl .n) le15 (.c .z (.c .z .n)) ⟨(decide (0 ≤ r14)), rfl, rfl, hd⟩)))))

theorem W_csr_Of {I : IH} {a0 : Int} {a1 : Int} {a2 : Int} {a3 : List Triple} {p1 : Option Addr} {c2 : Nat} {Q : (Rows × Int) → Prop} (R3 : RepSl eTriple I p1 c2 a3) (hd : csr_Of a0 a1 a2 a3 Q) :
    PFun Try.prog 34 [.int .i64 a0, .int .i64 a1, .int .i64 a2, .slice p1 a3.length c2] I (fun I_ v => ∃ r p4 c5 p7 c8 p10 c11, v = .tuple #[.agg #[.int .i64 r.1.Rows, .int .i64 r.1.Cols, .slice p4 r.1.Start.length c5, .slice p7 r.1.Col.length c8, .slice p10 r.1.Val.length c11], .int .i64 r.2] ∧ RepSl eI64 I_ p4 c5 r.1.Start ∧ RepSl eI64 I_ p7 c8 r.1.Col ∧ RepSl eI64 I_ p10 c11 r.1.Val ∧ Q r) := by
 refine Fun.enter func34 rfl ntmps34 rfl (.c (.c (.c (.c .n)))) fun w0 M => ?_
 refine .seq (.region (.box1 rfl rfl rfl rfl fun b19 => ?_))
 refine .box1 rfl rfl rfl rfl fun b21 => ?_
 refine .allocA zeroValue27 rfl rfl fun b23 => ?_
 refine .skips 1 rfl (.nilS [8, 6, 5, 3, 0] rfl rfl (.seq (.block (.seq (.region (.skips 1 rfl ?_))))))
 have hw82 := W_ring_Is (I := I) hd
 refine .callP call53 rfl hw82 rfl rfl fun v83 hv84 => ?_
 obtain ⟨r81, rfl, hd⟩ := hv84
 refine .not rfl rfl rfl (.skips 1 rfl (.nilS [12, 8, 6, 5, 3, 0] rfl rfl (.condP rfl hd (fun hb85 hd => ?_) fun hb85 hd => ?_)))
 · exact .seq (.region (.build zeroValue27 underlying27 BI27 .n (by exact trivial) rfl rfl (.storeA sizeOf27 rfl rfl .z (.t (.t (.t (.t (.t .nil))))) rfl rfl (.skips 1 rfl (.nilS [9, 8] rfl rfl (.drop (.s .z) (.drop (.s .z) (.ret (pret results34 (.w isAgg27 sizeOf27 rfl .z rfl (.t rfl .n)) (.refl _) ⟨(({ Rows := 0, Cols := 0, Start := ([] : List Int), Col := ([] : List Int), Val := ([] : List Int) } : Rows), 8), _, _, _, _, _, _, rfl, (.nil _ _ _), (.nil _ _ _), (.nil _ _ _), hd⟩)))))))))
 refine .seq ?_
 refine Cod.joinQ (σ := Bool) hd (fun (s104 : Bool) c w => ∃ I_, IH.le I I_ ∧ Ok ⟨51, [], none⟩ [(0, .int .i64 a0), (3, .slice p1 a3.length c2), (5, .pointer (some ⟨b19, 0, none⟩)), (6, .pointer (some ⟨b21, 0, none⟩)), (8, .pointer (some ⟨b23, 0, none⟩)), (17, .bool s104)] c ∧ Sym w0 M I I_ [pto b19 (.cells #[.int .i64 a1] 3 (0, 0)), pto b21 (.cells #[.int .i64 a2] 3 (0, 0)), pto b23 (.cells #[.int .i64 0, .int .i64 0, .slice none 0 0, .slice none 0 0, .slice none 0 0] 27 (0, 0))] w) (fun k105 hd => ?_) ?_
 · skip
   refine .region (.load1 isAgg3 rfl (.s (.s .z)) rfl rfl rfl ?_)
   have hw107 := W_csr_within (I := I) hd
   refine .callP call44 rfl hw107 rfl rfl fun v108 hv109 => ?_
   obtain ⟨r106, rfl, hd⟩ := hv109
   refine .not rfl rfl rfl (.skips 1 rfl ?_)
   refine splitP hd (fun hb110 hd => ?_) fun hb110 hd => ?_
   · rw [hb110]
     exact .skips 5 rfl (.nil' fun c w ho hs => ⟨true, hd, I, (.refl _), ho.sub ⟨rfl, rfl, rfl, rfl, rfl, rfl, trivial⟩, hs.pick (.c (.s (.s .z)) (.c (.s .z) (.c .z .n)))⟩)
   rw [hb110]
   refine .gyes rfl rfl rfl (.load1 isAgg3 rfl (.s .z) rfl rfl rfl ?_)
   have hw112 := W_csr_within (I := I) hd
   refine .gyes rfl rfl rfl (.callP call44 rfl hw112 rfl rfl fun v113 hv114 => ?_)
   obtain ⟨r111, rfl, hd⟩ := hv114
   exact .gyes rfl rfl rfl (.not rfl rfl rfl (.skips 2 rfl (.nil' fun c w ho hs => ⟨(!r111), hd, I, (.refl _), ho.sub ⟨rfl, rfl, rfl, rfl, rfl, rfl, trivial⟩, hs.pick (.c (.s (.s .z)) (.c (.s .z) (.c .z .n)))⟩)))
 rintro s104 hd c w hst
 obtain ⟨I115, hl116, hok, hsym⟩ := hst
 have le117 := IH.le.trans (.refl _) hl116
 replace R3 := R3.mono hl116
 refine Cod.at hok hsym (.condP rfl hd (fun hb118 hd => ?_) fun hb118 hd => ?_)
 · exact .seq (.region (.build zeroValue27 underlying27 BI27 .n (by exact trivial) rfl rfl (.storeA sizeOf27 rfl rfl (.s (.s .z)) (.t (.t (.t (.t (.t .nil))))) rfl rfl (.skips 1 rfl (.nilS [9, 8] rfl rfl (.drop .z (.drop .z (.ret (pret results34 (.w isAgg27 sizeOf27 rfl .z rfl (.t rfl .n)) le117 ⟨(({ Rows := 0, Cols := 0, Start := ([] : List Int), Col := ([] : List Int), Val := ([] : List Int) } : Rows), 3), _, _, _, _, _, _, rfl, (.nil _ _ _), (.nil _ _ _), (.nil _ _ _), hd⟩)))))))))
 refine .seq (.region (.skips 1 rfl (.len underlying23 rfl rfl rfl rfl (.gt rfl rfl rfl rfl (.skips 1 rfl (.nilS [27, 8, 6, 5, 3, 0] rfl rfl (.condP rfl hd (fun hb119 hd => ?_) fun hb119 hd => ?_)))))))
 · exact .seq (.region (.build zeroValue27 underlying27 BI27 .n (by exact trivial) rfl rfl (.storeA sizeOf27 rfl rfl (.s (.s .z)) (.t (.t (.t (.t (.t .nil))))) rfl rfl (.skips 1 rfl (.nilS [9, 8] rfl rfl (.drop .z (.drop .z (.ret (pret results34 (.w isAgg27 sizeOf27 rfl .z rfl (.t rfl .n)) le117 ⟨(({ Rows := 0, Cols := 0, Start := ([] : List Int), Col := ([] : List Int), Val := ([] : List Int) } : Rows), 5), _, _, _, _, _, _, rfl, (.nil _ _ _), (.nil _ _ _), (.nil _ _ _), hd⟩)))))))))
 refine .seq (.region (.skips 1 rfl (.mkFn rfl rfl rfl rfl ?_)))
 have hw120 := W_slices_ContainsFunc_api_Triple_api_Triple_988 (I := I115) (o0 := a1) (o1 := a2) (a0 := a3) (b3 := b19) (b4 := b21) R3 hd
 refine .callS (.f call54 rfl) (.c .z (.c .z .n)) hw120 rfl rfl fun v124 I121 l125 hl122 hv123 => ?_
 obtain ⟨r126, rfl, rfl, hd⟩ := hv123
 have le127 := IH.le.trans le117 hl122
 replace R3 := R3.mono hl122
 refine .re (m' := [pto b19 (.cells #[.int .i64 a1] 3 (0, 0)), pto b21 (.cells #[.int .i64 a2] 3 (0, 0)), pto b23 (.cells #[.int .i64 0, .int .i64 0, .slice none 0 0, .slice none 0 0, .slice none 0 0] 27 (0, 0))]) rfl (.skips 1 rfl (.nilS [32, 8, 6, 5, 3, 0] rfl rfl (.condP rfl hd (fun hb128 hd => ?_) fun hb128 hd => ?_)))
 · exact .seq (.region (.build zeroValue27 underlying27 BI27 .n (by exact trivial) rfl rfl (.storeA sizeOf27 rfl rfl (.s (.s .z)) (.t (.t (.t (.t (.t .nil))))) rfl rfl (.skips 1 rfl (.nilS [9, 8] rfl rfl (.drop .z (.drop .z (.ret (pret results34 (.w isAgg27 sizeOf27 rfl .z rfl (.t rfl .n)) le127 ⟨(({ Rows := 0, Cols := 0, Start := ([] : List Int), Col := ([] : List Int), Val := ([] : List Int) } : Rows), 3), _, _, _, _, _, _, rfl, (.nil _ _ _), (.nil _ _ _), (.nil _ _ _), hd⟩)))))))))
 refine .skipS [8, 6, 5, 3, 0] rfl rfl (.seq (.region (.skips 2 rfl ?_)))
 have hw149 := W_csr_summed (I := I121) R3 hd
 refine .call call56 rfl hw149 rfl rfl fun v144 I141 hl142 hv143 => ?_
 obtain ⟨r140, p146, c147, rfl, R148, hd⟩ := hv143
 have le150 := IH.le.trans le127 hl142
 replace R3 := R3.mono hl142
 refine .skips 1 rfl (.extract rfl rfl rfl rfl (.extract rfl rfl rfl rfl (.skips 2 rfl (.nilS [11, 10, 8, 6, 5] rfl rfl (.seq (.seq (.region (.skips 1 rfl (.ne rfl rfl rfl rfl ?_)))))))))
 refine .nilS [44, 11, 10, 8, 6, 5] rfl rfl (.condP rfl hd (fun hb151 hd => ?_) fun hb151 hd => ?_)
 · exact .seq (.region (.build zeroValue27 underlying27 BI27 .n (by exact trivial) rfl rfl (.skips 1 rfl (.storeA sizeOf27 rfl rfl (.s (.s .z)) (.t (.t (.t (.t (.t .nil))))) rfl rfl (.skips 1 rfl (.nilS [9, 8] rfl rfl (.drop .z (.drop .z (.ret (pret results34 (.w isAgg27 sizeOf27 rfl .z rfl (.t rfl .n)) le150 ⟨(({ Rows := 0, Cols := 0, Start := ([] : List Int), Col := ([] : List Int), Val := ([] : List Int) } : Rows), r140.2), _, _, _, _, _, _, rfl, (.nil _ _ _), (.nil _ _ _), (.nil _ _ _), hd⟩))))))))))
 refine .skipS [10, 8, 6, 5] rfl rfl (.seq (.region (.load1 isAgg3 rfl .z rfl rfl rfl (.load1 isAgg3 rfl (.s .z) rfl rfl rfl (.skips 1 rfl ?_)))))
 have hw167 := W_csr_built (I := I141) R148 hd
 refine .call call51 rfl hw167 rfl rfl fun v156 I153 hl154 hv155 => ?_
 obtain ⟨r152, p158, c159, p161, c162, p164, c165, rfl, R160, R163, R166, hd⟩ := hv155
 have le168 := IH.le.trans le150 hl154
 replace R148 := R148.mono hl154
 exact .storeA sizeOf27 rfl rfl (.s (.s .z)) (.t (.t (.t (.t (.t .nil))))) rfl rfl (.skips 1 rfl (.nilS [9, 8] rfl rfl (.drop .z (.drop .z (.ret (pret results34 (.w isAgg27 sizeOf27 rfl .z rfl (.t rfl .n)) le168 ⟨(r152, 0), _, _, _, _, _, _, rfl, R160, R163, R166, hd⟩))))))

theorem W_dcsc_items_9d2 {I : IH} {a0 : Columns} {a1 : Int} {p1 : Option Addr} {c2 : Nat} {p4 : Option Addr} {c5 : Nat} {p7 : Option Addr} {c8 : Nat} {p10 : Option Addr} {c11 : Nat} {Q : (Columns × Int) → Prop} (R3 : RepSl eI64 I p1 c2 a0.At) (R6 : RepSl eI64 I p4 c5 a0.Start) (R9 : RepSl eI64 I p7 c8 a0.Row) (R12 : RepSl eI64 I p10 c11 a0.Val) (hd : dcsc_items_9d2 a0 a1 Q) :
    Fun Try.prog 33 #[.agg #[.int .i64 a0.Rows, .int .i64 a0.Cols, .slice p1 a0.At.length c2, .slice p4 a0.Start.length c5, .slice p7 a0.Row.length c8, .slice p10 a0.Val.length c11], .int .i64 a1] I [] (fun I_ v l => ∃ r b13 p14 c15 p17 c18 p20 c21 p23 c24 b26, v = .func (.func 52) #[] #[.pointer (some ⟨b13, 0, none⟩), .pointer (some ⟨b26, 0, none⟩)] ∧ RepSl eI64 I_ p14 c15 r.1.At ∧ RepSl eI64 I_ p17 c18 r.1.Start ∧ RepSl eI64 I_ p20 c21 r.1.Row ∧ RepSl eI64 I_ p23 c24 r.1.Val ∧ l = [pto b13 (.cells #[.int .i64 r.1.Rows, .int .i64 r.1.Cols, .slice p14 r.1.At.length c15, .slice p17 r.1.Start.length c18, .slice p20 r.1.Row.length c21, .slice p23 r.1.Val.length c24] 30 (0, 0)), pto b26 (.cells #[.int .i64 r.2] 3 (0, 0))] ∧ Q r) := by
 refine Fun.enter (vs := [.agg #[.int .i64 a0.Rows, .int .i64 a0.Cols, .slice p1 a0.At.length c2, .slice p4 a0.Start.length c5, .slice p7 a0.Row.length c8, .slice p10 a0.Val.length c11], .int .i64 a1]) func33 rfl ntmps33 rfl (.c (.c .n)) fun w0 M => ?_
 refine .seq (.region (.boxA rfl rfl rfl fun b13 => ?_))
 refine .box1 rfl rfl rfl rfl fun b15 => ?_
 exact .skips 1 rfl (.nilS [3, 2] rfl rfl (.seq (.region (.mkFn rfl rfl rfl rfl (.skips 1 rfl (.nilS [4] rfl rfl (.ret (oret results33 (.t rfl .n) (.refl _) (.c (.s .z) (.c .z .n)) ⟨(a0, a1), _, _, _, _, _, _, _, _, _, _, rfl, R3, R6, R9, R12, rfl, hd⟩))))))))

theorem W_dcsc_items_1_8e9 {I : IH} {o0 : Nat} {o1 : List Triple} {o2 : Int} {o3 : Columns} {o4 : Int} {Y : Nat → (List Triple) → Int → Item → ((Bool × Nat × (List Triple)) → Prop) → Prop} {b6 : Nat} {p7 : Option Addr} {c8 : Nat} {b11 : Nat} {b12 : Nat} {p13 : Option Addr} {c14 : Nat} {p16 : Option Addr} {c17 : Nat} {p19 : Option Addr} {c20 : Nat} {p22 : Option Addr} {c23 : Nat} {b25 : Nat} {lr : Nat} {Rr : Nat → HA} {Q : (Nat × (List Triple)) → Prop} (hY : ∀ {J_ : IH}, I.le J_ → ∀ {y26 : Nat} {y27 : List Triple} {y33 : Int} {x35 : Item} {p29 : Option Addr} {c30 : Nat} {Qy : (Bool × Nat × (List Triple)) → Prop}, Y y26 y27 y33 x35 Qy → RFun Try.prog lr [.agg (encItem x35).toArray] J_ [Rr y26, pto b6 (.cells #[.slice p29 y27.length c30] 23 (0, 0)), OwnSl eTriple 49 p29 c30 y27, pto b11 (.cells #[.int .i64 y33] 3 (0, 0))] (fun I_ v l => ∃ r p37 c38, v = .bool r.1 ∧ l = [Rr r.2.1, pto b6 (.cells #[.slice p37 r.2.2.length c38] 23 (0, 0)), OwnSl eTriple 49 p37 c38 r.2.2, pto b11 (.cells #[.int .i64 y33] 3 (0, 0))] ∧ Qy r)) (R15 : RepSl eI64 I p13 c14 o3.At) (R18 : RepSl eI64 I p16 c17 o3.Start) (R21 : RepSl eI64 I p19 c20 o3.Row) (R24 : RepSl eI64 I p22 c23 o3.Val) (hd : dcsc_items_1_8e9 o0 o1 o2 o3 o4 Y Q) :
    Fun Try.prog 52 #[.func (.yield lr) #[] #[], .pointer (some ⟨b12, 0, none⟩), .pointer (some ⟨b25, 0, none⟩)] I [Rr o0, pto b6 (.cells #[.slice p7 o1.length c8] 23 (0, 0)), OwnSl eTriple 49 p7 c8 o1, pto b11 (.cells #[.int .i64 o2] 3 (0, 0)), pto b12 (.cells #[.int .i64 o3.Rows, .int .i64 o3.Cols, .slice p13 o3.At.length c14, .slice p16 o3.Start.length c17, .slice p19 o3.Row.length c20, .slice p22 o3.Val.length c23] 30 (0, 0)), pto b25 (.cells #[.int .i64 o4] 3 (0, 0))] (fun I_ v l => ∃ r p27 c28, v = .tuple #[] ∧ l = [Rr r.1, pto b6 (.cells #[.slice p27 r.2.length c28] 23 (0, 0)), OwnSl eTriple 49 p27 c28 r.2, pto b11 (.cells #[.int .i64 o2] 3 (0, 0)), pto b12 (.cells #[.int .i64 o3.Rows, .int .i64 o3.Cols, .slice p13 o3.At.length c14, .slice p16 o3.Start.length c17, .slice p19 o3.Row.length c20, .slice p22 o3.Val.length c23] 30 (0, 0)), pto b25 (.cells #[.int .i64 o4] 3 (0, 0))] ∧ Q r) := by
 refine Fun.enter (vs := [.func (.yield lr) #[] #[], .pointer (some ⟨b12, 0, none⟩), .pointer (some ⟨b25, 0, none⟩)]) func52 rfl ntmps52 rfl (.c (.c (.c .n))) fun w0 M => ?_
 refine .seq (.region (.fieldAddr underlying30 rfl sizeOf24 rfl (o := 3) rfl rfl rfl (.load1 isAgg24 rfl (.s (.s (.s (.s .z)))) rfl rfl rfl (.load1 isAgg3 rfl (.s (.s (.s (.s (.s .z))))) rfl rfl rfl ?_))))
 obtain ⟨h45, x46, hx47, hd⟩ := hd
 obtain ⟨b48, o49, cs50, e51, hC52, hr53⟩ := R18.2 _ _ hx47
 cases hr53
 refine .ixa underlying24 sizeOf3 rfl e51 rfl h45 (idx_lt hx47 h45) rfl rfl (.ld1 (j := 0) isAgg3 hC52 rfl rfl rfl rfl rfl (.skips 1 rfl (.nilS [4, 2, 1, 0] rfl rfl (.block (.loop hd (fun (s : (List Triple) × Int × Nat) c w => match s with | (s182, s186, s187) => ∃ I_ p183 c184, IH.le I I_ ∧ Ok ⟨34, [], none⟩ [(0, .func (.yield lr) #[] #[]), (1, .pointer (some ⟨b12, 0, none⟩)), (2, .pointer (some ⟨b25, 0, none⟩)), (4, .int .i64 s186)] c ∧ Sym w0 M I I_ [pto b6 (.cells #[.slice p183 s182.length c184] 23 (0, 0)), OwnSl eTriple 49 p183 c184 s182, pto b11 (.cells #[.int .i64 o2] 3 (0, 0)), pto b12 (.cells #[.int .i64 o3.Rows, .int .i64 o3.Cols, .slice p13 o3.At.length c14, .slice p16 o3.Start.length c17, .slice p19 o3.Row.length c20, .slice p22 o3.Val.length c23] 30 (0, 0)), pto b25 (.cells #[.int .i64 o4] 3 (0, 0)), Rr s187] w) (fun c w ho hs => ⟨I, _, _, (.refl _), ho.sub ⟨rfl, rfl, rfl, rfl, trivial⟩, hs.pick (.c (.s .z) (.c (.s .z) (.c (.s .z) (.c (.s .z) (.c (.s .z) (.c .z .n))))))⟩) ?_)))))
 rintro ⟨s182, s186, s187⟩ next188 hd c w hst
 obtain ⟨I189, p183, c184, hl190, hok, hsym⟩ := hst
 have le191 := IH.le.trans (.refl _) hl190
 replace R15 := R15.mono hl190
 replace R18 := R18.mono hl190
 replace R21 := R21.mono hl190
 replace R24 := R24.mono hl190
 refine Cod.at hok hsym (.seq (.seq (.region (.skips 1 rfl (.fieldAddr underlying30 rfl sizeOf24 rfl (o := 3) rfl rfl rfl (.load1 isAgg24 rfl (.s (.s (.s .z))) rfl rfl rfl (.load1 isAgg3 rfl (.s (.s (.s (.s .z)))) rfl rfl rfl (.add rfl rfl rfl rfl ?_))))))))
 obtain ⟨h202, x203, hx204, hd⟩ := hd
 obtain ⟨b205, o206, cs207, e208, hC209, hr210⟩ := R18.2 _ _ hx204
 cases hr210
 refine .ixa underlying24 sizeOf3 rfl e208 rfl h202 (idx_lt hx204 h202) rfl rfl (.ld1 (j := 0) isAgg3 hC209 rfl rfl rfl rfl rfl (.lt rfl rfl rfl rfl (.nilS [17, 4, 2, 1, 0] rfl rfl (.condP rfl hd (fun hb211 hd => ?_) fun hb211 hd => ?_))))
 · refine .skipS [4, 2, 1, 0] rfl rfl (.seq (.block (.seq (.ownF (.s .z) fun hne212 => ?_))))
   refine .draw [some 0, some 1, some 2, some 3, some 4, some 5, some 6, some 7, some 8, some 9, some 10, some 11, some 12, some 13] 14 MX (by kernel_rfl) (by kernel_rfl) (by kernel_rfl) (by kernel_rfl) (by kernel_rfl) (by kernel_rfl) (by kernel_rfl) (fun ex => (pto b6 (.cells #[.slice p183 s182.length c184] 23 (0, 0))) :: (OwnSl eTriple 49 p183 c184 s182) :: (pto b11 (.cells #[.int .i64 o2] 3 (0, 0))) :: (pto b12 (.cells #[.int .i64 o3.Rows, .int .i64 o3.Cols, .slice p13 o3.At.length c14, .slice p16 o3.Start.length c17, .slice p19 o3.Row.length c20, .slice p22 o3.Val.length c23] 30 (0, 0))) :: (pto b25 (.cells #[.int .i64 o4] 3 (0, 0))) :: (Rr s187) :: ex) (fun _ _ => (.s (.s (.s (.s (.s (.s .z))))))) rfl (.fs [[]] rfl (by kernel_rfl) (.f [] rfl (by kernel_rfl) rfl rfl (fun ex => .fieldAddr underlying30 rfl sizeOf24 rfl (o := 4) rfl rfl rfl .mk) (.f [1] rfl (by kernel_rfl) rfl rfl (fun ex => .load1 isAgg24 rfl (.s (.s (.s .z))) rfl rfl rfl .mk) (.fs [[]] rfl (by kernel_rfl) ?_))))
   obtain ⟨h213, x214, hx215, hd⟩ := hd
   obtain ⟨b216, o217, cs218, e219, hC220, hr221⟩ := R21.2 _ _ hx215
   cases hr221
   refine .f [2, 3] rfl (by kernel_rfl) rfl rfl (fun ex => .ixa underlying24 sizeOf3 rfl e219 rfl h213 (idx_lt hx215 h213) rfl rfl .mk) (.f [4] rfl (by kernel_rfl) rfl rfl (fun ex => .ld1 (j := 0) isAgg3 hC220 rfl rfl rfl rfl rfl .mk) (.f [] rfl (by kernel_rfl) rfl rfl (fun ex => .fieldAddr underlying30 rfl sizeOf25 rfl (o := 5) rfl rfl rfl .mk) (.f [6] rfl (by kernel_rfl) rfl rfl (fun ex => .load1 isAgg25 rfl (.s (.s (.s .z))) rfl rfl rfl .mk) (.fs [[]] rfl (by kernel_rfl) ?_))))
   obtain ⟨h222, x223, hx224, hd⟩ := hd
   obtain ⟨b225, o226, cs227, e228, hC229, hr230⟩ := R24.2 _ _ hx224
   cases hr230
   refine .f [7, 8] rfl (by kernel_rfl) rfl rfl (fun ex => .ixa underlying25 sizeOf2 rfl e228 rfl h222 (idx_lt hx224 h222) rfl rfl .mk) (.f [9] rfl (by kernel_rfl) rfl rfl (fun ex => .ld1 (j := 0) isAgg2 hC229 rfl rfl rfl rfl rfl .mk) (.f [5, 10] rfl (by kernel_rfl) rfl rfl (fun ex => .build zeroValue59 underlying59 BI59 (.c rfl rfl rfl (.t .nil) (.c rfl rfl rfl (.s (.t .nil)) .n)) (by exact ⟨⟨_, _, rfl, rfl, rfl⟩, ⟨⟨_, _, rfl, rfl, rfl⟩, trivial⟩⟩) rfl rfl .mk) (.w [] [[], [11], [10, 11], [9, 10, 11], [9, 10, 11], [7, 9, 10, 11], [11], [5, 11], [4, 5, 11], [4, 5, 11], [2, 4, 5, 11], []] [0, 11] rfl (by kernel_rfl) (by kernel_rfl) (by kernel_rfl) ((dropE_kept rfl rfl)) (.inr (dropE_kept rfl rfl)) fun ex => ?_)))
   have hw231 := hY (J_ := I189) le191 (y26 := s187) (y27 := s182) (y33 := o2) (x35 := ({ At := x214, Val := x223 } : Item)) (p29 := p183) (c30 := c184) hd
   refine .callY rfl rfl (.c (.s (.s (.s (.s (.s .z))))) (.c .z (.c .z (.c .z .n)))) hw231 rfl rfl fun v235 I232 l236 hl233 hv234 => ?_
   obtain ⟨r237, p241, c242, rfl, rfl, hd⟩ := hv234
   have le245 := IH.le.trans le191 hl233
   replace R15 := R15.mono hl233
   replace R18 := R18.mono hl233
   replace R21 := R21.mono hl233
   replace R24 := R24.mono hl233
   replace hC220 := hC220.mono hl233
   replace hC229 := hC229.mono hl233
   refine .re (m' := (Rr r237.2.1) :: (pto b6 (.cells #[.slice p241 r237.2.2.length c242] 23 (0, 0))) :: (OwnSl eTriple 49 p241 c242 r237.2.2) :: (pto b11 (.cells #[.int .i64 o2] 3 (0, 0))) :: (pto b12 (.cells #[.int .i64 o3.Rows, .int .i64 o3.Cols, .slice p13 o3.At.length c14, .slice p16 o3.Start.length c17, .slice p19 o3.Row.length c20, .slice p22 o3.Val.length c23] 30 (0, 0))) :: (pto b25 (.cells #[.int .i64 o4] 3 (0, 0))) :: ex) rfl (.some (fun ex => (Rr r237.2.1) :: (pto b6 (.cells #[.slice p241 r237.2.2.length c242] 23 (0, 0))) :: (OwnSl eTriple 49 p241 c242 r237.2.2) :: (pto b11 (.cells #[.int .i64 o2] 3 (0, 0))) :: (pto b12 (.cells #[.int .i64 o3.Rows, .int .i64 o3.Cols, .slice p13 o3.At.length c14, .slice p16 o3.Start.length c17, .slice p19 o3.Row.length c20, .slice p22 o3.Val.length c23] 30 (0, 0))) :: (pto b25 (.cells #[.int .i64 o4] 3 (0, 0))) :: ex) rfl (fun _ _ => (.s (.s (.s (.s (.s (.s .z))))))) rfl trivial (.f [12] rfl (by kernel_rfl) rfl rfl (fun ex => .not rfl rfl rfl .mk) (.e 14 (by kernel_rfl) (by kernel_rfl) (by kernel_rfl) (.nilS [33, 4, 2, 1, 0] rfl rfl (.condP rfl hd (fun hb246 hd => ?_) fun hb246 hd => ?_)))))
   · exact .ret (oret results52 .n le245 (.c .z (.c .z (.c .z (.c .z (.c .z (.c .z .n)))))) ⟨(r237.2.1, r237.2.2), _, _, rfl, rfl, hd⟩)
   exact .skipS [4, 2, 1, 0] rfl rfl (.region (.skips 1 rfl (.add rfl rfl rfl rfl (.sub (E' := [(0, _), (1, _), (2, _), (18, _), (19, _)]) ⟨rfl, rfl, rfl, rfl, rfl, trivial⟩ (.skips 1 rfl (.nil' fun c w ho hs => ⟨(r237.2.2, w64 (s186 + 1), r237.2.1), hd, I232, _, _, le245, ho.sub ⟨rfl, rfl, rfl, rfl, trivial⟩, hs.pick (.c (.s .z) (.c (.s .z) (.c (.s .z) (.c (.s .z) (.c (.s .z) (.c .z .n))))))⟩))))))
 exact .exit (oretN results52 .n le191 (.c (.s (.s (.s (.s (.s .z))))) (.c .z (.c .z (.c .z (.c .z (.c .z .n)))))) ⟨(s187, s182), _, _, rfl, rfl, hd⟩)

theorem W_dcsc_Back {I : IH} {a0 : Columns} {p1 : Option Addr} {c2 : Nat} {p4 : Option Addr} {c5 : Nat} {p7 : Option Addr} {c8 : Nat} {p10 : Option Addr} {c11 : Nat} {Q : Rows → Prop} (R3 : RepSl eI64 I p1 c2 a0.At) (R6 : RepSl eI64 I p4 c5 a0.Start) (R9 : RepSl eI64 I p7 c8 a0.Row) (R12 : RepSl eI64 I p10 c11 a0.Val) (hd : dcsc_Back a0 Q) :
    PFun Try.prog 11 [.agg #[.int .i64 a0.Rows, .int .i64 a0.Cols, .slice p1 a0.At.length c2, .slice p4 a0.Start.length c5, .slice p7 a0.Row.length c8, .slice p10 a0.Val.length c11]] I (fun I_ v => ∃ r p13 c14 p16 c17 p19 c20, v = .agg #[.int .i64 r.Rows, .int .i64 r.Cols, .slice p13 r.Start.length c14, .slice p16 r.Col.length c17, .slice p19 r.Val.length c20] ∧ RepSl eI64 I_ p13 c14 r.Start ∧ RepSl eI64 I_ p16 c17 r.Col ∧ RepSl eI64 I_ p19 c20 r.Val ∧ Q r) := by
 refine Fun.enter func11 rfl ntmps11 rfl (.c .n) fun w0 M => ?_
 refine .marks0 (.seq (.region (.boxA rfl rfl rfl fun b26 => ?_)))
 refine .allocA zeroValue27 rfl rfl fun b28 => ?_
 refine .nilS [2, 1] rfl rfl (.seq (.region (.loadW isAgg30 sizeOf30 rfl (.s .z) rfl rfl rfl ?_)))
 have hw68 := W_dcsc_sure (I := I) R3 R6 R9 R12 hd
 refine .call call32 rfl hw68 rfl rfl fun v54 I51 hl52 hv53 => ?_
 obtain ⟨r50, p56, c57, p59, c60, p62, c63, p65, c66, rfl, R58, R61, R64, R67, hd⟩ := hv53
 have le69 := IH.le.trans (.refl _) hl52
 replace R3 := R3.mono hl52
 replace R6 := R6.mono hl52
 replace R9 := R9.mono hl52
 replace R12 := R12.mono hl52
 refine .storeA sizeOf30 rfl rfl (.s .z) (.t (.t (.t (.t (.t (.t .nil)))))) rfl rfl (.nilS [2, 1] rfl rfl (.seq (.region (.alloc1 zeroValue23 rfl rfl rfl fun b72 => ?_))))
 refine .nilS [3, 2, 1] rfl rfl (.seq (.seq (.region (.fieldAddr underlying30 rfl sizeOf24 rfl (o := 2) rfl rfl rfl (.load1 isAgg24 rfl (.s (.s .z)) rfl rfl rfl (.len underlying24 rfl rfl rfl rfl (.skips 1 rfl (.nilS [14, 13, 12, 3, 2, 1] rfl rfl (.block ?_)))))))))
 refine .own0 eTriple 49 (.loop hd (fun (s : (List Triple) × Int) c w => match s with | (s841, s845) => ∃ I_ ds846 p842 c843, IH.le I51 I_ ∧ Ok ⟨43, ds846, none⟩ [(1, .pointer (some ⟨b26, 0, none⟩)), (2, .pointer (some ⟨b28, 0, none⟩)), (3, .pointer (some ⟨b72, 0, none⟩)), (12, .slice p56 r50.At.length c57), (13, .int .i64 (r50.At.length : Int)), (14, .int .i64 s845)] c ∧ Sym w0 M I I_ [pto b26 (.cells #[.int .i64 r50.Rows, .int .i64 r50.Cols, .slice p56 r50.At.length c57, .slice p59 r50.Start.length c60, .slice p62 r50.Row.length c63, .slice p65 r50.Val.length c66] 30 (0, 0)), pto b28 (.cells #[.int .i64 0, .int .i64 0, .slice none 0 0, .slice none 0 0, .slice none 0 0] 27 (0, 0)), pto b72 (.cells #[.slice p842 s841.length c843] 23 (0, 0)), OwnSl eTriple 49 p842 c843 s841, Marks ds846] w) (fun c w ho hs => ⟨I51, _, _, _, (.refl _), ho.sub ⟨rfl, rfl, rfl, rfl, rfl, rfl, trivial⟩, hs.pick (.c (.s (.s (.s .z))) (.c (.s (.s .z)) (.c (.s .z) (.c .z (.c .z .n)))))⟩) ?_)
 rintro ⟨s841, s845⟩ next848 hd c w hst
 obtain ⟨I849, ds846, p842, c843, hl850, hok, hsym⟩ := hst
 have le851 := IH.le.trans le69 hl850
 have le852 := IH.le.trans (.refl _) hl850
 replace R58 := R58.mono hl850
 replace R61 := R61.mono hl850
 replace R64 := R64.mono hl850
 replace R67 := R67.mono hl850
 refine Cod.at (n := ⟨43, ds846, none⟩) hok hsym (.seq (.region (.lt rfl rfl rfl rfl (.nilS [15, 14, 13, 12, 3, 2, 1] rfl rfl (.seq (.condP rfl hd (fun hb854 hd => ?_) fun hb854 hd => ?_))))))
 · refine .skipS [14, 13, 12, 3, 2, 1] rfl rfl (.seq (.block (.seq (.region (.skips 1 rfl ?_)))))
   obtain ⟨h866, x867, hx868, hd⟩ := hd
   obtain ⟨b869, o870, cs871, e872, hC873, hr874⟩ := R58.2 _ _ hx868
   cases hr874
   refine .ixa underlying24 sizeOf3 rfl e872 rfl h866 (idx_lt hx868 h866) rfl rfl (.ld1 (j := 0) isAgg3 hC873 rfl rfl rfl rfl rfl (.alloc1 zeroValue3 rfl rfl rfl fun b875 => ?_))
   refine .skips 1 rfl (.store1 sizeOf3 rfl rfl .z (.t .nil) rfl (.nilS [4, 5, 14, 13, 12, 3, 2, 1] rfl rfl (.seq (.region (.loadW isAgg30 sizeOf30 rfl (.s .z) rfl rfl rfl (.skips 1 rfl ?_))))))
   have hw902 := W_dcsc_items_9d2 (I := I849) (a0 := r50) (a1 := s845) R58 R61 R64 R67 hd
   refine .callS (.f call33 rfl) .n hw902 rfl rfl fun v906 I903 l907 hl904 hv905 => ?_
   obtain ⟨r908, b911, p912, c913, p915, c916, p918, c919, p921, c922, b924, rfl, R914, R917, R920, R923, rfl, hd⟩ := hv905
   have le925 := IH.le.trans le851 hl904
   have le926 := IH.le.trans le852 hl904
   replace R58 := R58.mono hl904
   replace R61 := R61.mono hl904
   replace R64 := R64.mono hl904
   replace R67 := R67.mono hl904
   refine .re (m' := [pto b911 (.cells #[.int .i64 r908.1.Rows, .int .i64 r908.1.Cols, .slice p912 r908.1.At.length c913, .slice p915 r908.1.Start.length c916, .slice p918 r908.1.Row.length c919, .slice p921 r908.1.Val.length c922] 30 (0, 0)), pto b924 (.cells #[.int .i64 r908.2] 3 (0, 0)), pto b875 (.cells #[.int .i64 x867] 3 (0, 0)), pto b26 (.cells #[.int .i64 r50.Rows, .int .i64 r50.Cols, .slice p56 r50.At.length c57, .slice p59 r50.Start.length c60, .slice p62 r50.Row.length c63, .slice p65 r50.Val.length c66] 30 (0, 0)), pto b28 (.cells #[.int .i64 0, .int .i64 0, .slice none 0 0, .slice none 0 0, .slice none 0 0] 27 (0, 0)), pto b72 (.cells #[.slice p842 s841.length c843] 23 (0, 0)), OwnSl eTriple 49 p842 c843 s841, Marks ds846]) rfl (.nilS [21, 5, 14, 13, 12, 3, 2, 1] rfl rfl (.block (.rangeF [] rfl call52 (.c (.s (.s (.s (.s (.s (.s (.s .z))))))) (.c (.s (.s (.s (.s (.s .z))))) (.c (.s (.s (.s (.s (.s .z))))) (.c (.s (.s .z)) (.c .z (.c .z .n)))))) fun lr D rc hrc => ?_)))
   refine ⟨_, W_dcsc_items_1_8e9 (I := I903) (lr := lr) (Rr := recA lr [] rc) (o0 := 0) (o1 := s841) (o2 := x867) (o3 := r908.1) (o4 := r908.2) (b6 := b72) (p7 := p842) (c8 := c843) (b11 := b875) (b12 := b911) (p13 := p912) (c14 := c913) (p16 := p915) (c17 := c916) (p19 := p918) (c20 := c919) (p22 := p921) (c23 := c922) (b25 := b924) ?_ R914 R917 R920 R923 hd, ?_⟩
   · skip
     intro I hJ y964 y965 y971 x973 p967 c968 Qy  hd
     replace R58 := R58.mono hJ
     replace R61 := R61.mono hJ
     replace R64 := R64.mono hJ
     replace R67 := R67.mono hJ
     replace R914 := R914.mono hJ
     replace R917 := R917.mono hJ
     replace R920 := R920.mono hJ
     replace R923 := R923.mono hJ
     obtain ⟨rfl, hd⟩ := hd
     refine RFun.mk hrc rfl fun w0 M => ?_
     refine .region (.allocA zeroValue59 rfl rfl fun b974 => ?_)
     refine .storeA sizeOf59 rfl rfl .z (.t (.t .nil)) rfl rfl (.nil' fun c w ho hs => beginR (E' := [(3, _), (5, _), (6, _)]) ho ⟨rfl, rfl, rfl, trivial⟩ hs (.s .z) (.block (.region (.load1 isAgg23 rfl (.s (.s .z)) rfl rfl rfl (.fieldAddr underlying59 rfl sizeOf3 rfl (o := 0) rfl rfl rfl (.load1 isAgg3 rfl .z rfl rfl rfl (.load1 isAgg3 rfl (.s (.s (.s (.s .z)))) rfl rfl rfl (.fieldAddr underlying59 rfl sizeOf2 rfl (o := 1) rfl rfl rfl (.load1 isAgg2 rfl .z rfl rfl rfl ?_)))))))))
     refine .build zeroValue49 underlying49 BI49 (.c rfl rfl rfl (.t .nil) (.c rfl rfl rfl (.s (.t .nil)) (.c rfl rfl rfl (.s (.s (.t .nil))) .n))) (by exact ⟨⟨_, _, rfl, rfl, rfl⟩, ⟨⟨_, _, rfl, rfl, rfl⟩, ⟨⟨_, _, rfl, rfl, rfl⟩, trivial⟩⟩⟩) rfl rfl (.buildSlice 1 underlying23 sizeOf49 zeroValue49 rfl rfl (.c rfl rfl rfl .n) rfl rfl fun b976 => ?_)
     obtain ⟨hl978, hd⟩ := hd
     refine .append (ys := [({ Row := x973.At, Col := y971, Val := x973.Val } : Triple)]) 24 (.s (.s (.s (.s .z)))) underlying23 underlying23 IN49 rfl rfl rfl rfl rfl rfl rfl rfl rfl (.box .z (.one rfl) rfl) hl978 rfl rfl fun p979 c980 => ?_
     exact .store1 sizeOf23 rfl rfl (.s (.s (.s (.s .z)))) (.t .nil) rfl (.nil' fun c w ho hs => endR 0 (.inl rfl) (.refl _) (.s (.s (.s .z))) (.c (.s (.s (.s .z))) (.c .z (.c (.s (.s .z)) .n))) ⟨(true, 0, (y965 ++ ([({ Row := x973.At, Col := y971, Val := x973.Val } : Triple)]))), _, _, rfl, rfl, hd⟩ hs)
   intro v985 I982 l' hl983 hv984
   obtain ⟨r986, p990, c991, rfl, rfl, hd⟩ := hv984
   have le994 := IH.le.trans le925 hl983
   have le995 := IH.le.trans le926 hl983
   replace R58 := R58.mono hl983
   replace R61 := R61.mono hl983
   replace R64 := R64.mono hl983
   replace R67 := R67.mono hl983
   replace R914 := R914.mono hl983
   replace R917 := R917.mono hl983
   replace R920 := R920.mono hl983
   replace R923 := R923.mono hl983
   obtain ⟨hz, hd⟩ := hd
   refine ⟨_, _, rfl, fun hj => ?_, fun i hj => absurd (hz.symm.trans hj) (by simp)⟩
   exact .re (m' := [Marks (D :: ds846), pto b72 (.cells #[.slice p990 r986.2.length c991] 23 (0, 0)), OwnSl eTriple 49 p990 c991 r986.2, pto b875 (.cells #[.int .i64 x867] 3 (0, 0)), pto b911 (.cells #[.int .i64 r908.1.Rows, .int .i64 r908.1.Cols, .slice p912 r908.1.At.length c913, .slice p915 r908.1.Start.length c916, .slice p918 r908.1.Row.length c919, .slice p921 r908.1.Val.length c922] 30 (0, 0)), pto b924 (.cells #[.int .i64 r908.2] 3 (0, 0)), pto b26 (.cells #[.int .i64 r50.Rows, .int .i64 r50.Cols, .slice p56 r50.At.length c57, .slice p59 r50.Start.length c60, .slice p62 r50.Row.length c63, .slice p65 r50.Val.length c66] 30 (0, 0)), pto b28 (.cells #[.int .i64 0, .int .i64 0, .slice none 0 0, .slice none 0 0, .slice none 0 0] 27 (0, 0))]) rfl (.mkS [14, 13, 12, 3, 2, 1] rfl rfl (.drop (.s (.s (.s .z))) (.drop (.s (.s (.s .z))) (.drop (.s (.s (.s .z))) (.region (.add rfl rfl rfl rfl (.sub (E' := [(1, _), (2, _), (3, _), (12, _), (13, _), (32, _)]) ⟨rfl, rfl, rfl, rfl, rfl, rfl, trivial⟩ (.skips 1 rfl (.nil' fun c w ho hs => ⟨(r986.2, w64 (s845 + 1)), hd, I982, _, _, _, le995, ho.sub ⟨rfl, rfl, rfl, rfl, rfl, rfl, trivial⟩, hs.pick (.c (.s (.s (.s .z))) (.c (.s (.s (.s .z))) (.c (.s .z) (.c (.s .z) (.c .z .n)))))⟩)))))))))
 refine .exitS [3, 2, 1] rfl rfl (.seq (.region (.fieldAddr underlying30 rfl sizeOf3 rfl (o := 0) rfl rfl rfl (.load1 isAgg3 rfl .z rfl rfl rfl (.fieldAddr underlying30 rfl sizeOf3 rfl (o := 1) rfl rfl rfl (.load1 isAgg3 rfl .z rfl rfl rfl (.load1 isAgg23 rfl (.s (.s .z)) rfl rfl rfl (.pub (.s (.s (.s .z))) fun I996 hl997 R998 => ?_))))))))
 have le999 := IH.le.trans le851 hl997
 have le1000 := IH.le.trans le852 hl997
 replace R58 := R58.mono hl997
 replace R61 := R61.mono hl997
 replace R64 := R64.mono hl997
 replace R67 := R67.mono hl997
 have hw1016 := W_csr_Of (I := I996) R998 hd
 refine .call call34 rfl hw1016 rfl rfl fun v1005 I1002 hl1003 hv1004 => ?_
 obtain ⟨r1001, p1007, c1008, p1010, c1011, p1013, c1014, rfl, R1009, R1012, R1015, hd⟩ := hv1004
 have le1017 := IH.le.trans le999 hl1003
 have le1018 := IH.le.trans le1000 hl1003
 replace R58 := R58.mono hl1003
 replace R61 := R61.mono hl1003
 replace R64 := R64.mono hl1003
 replace R67 := R67.mono hl1003
 replace R998 := R998.mono hl1003
 refine .skips 1 rfl (.extract rfl rfl rfl rfl (.extract rfl rfl rfl rfl (.allocA zeroValue27 rfl rfl fun b1019 => ?_)))
 refine .storeA sizeOf27 rfl rfl .z (.t (.t (.t (.t (.t .nil))))) rfl rfl (.skips 1 rfl (.nilS [7, 2] rfl rfl (.drop (.s .z) (.drop (.s (.s .z)) (.seq (.region (.loadW isAgg27 sizeOf27 rfl .z rfl rfl rfl (.storeA sizeOf27 rfl rfl (.s .z) (.t (.t (.t (.t (.t .nil))))) rfl rfl (.nilS [2] rfl rfl ?_)))))))))
 exact .drop .z (.ret (pretM (.s .z) results11 (.w isAgg27 sizeOf27 rfl .z rfl .n) le1017 ⟨r1001.1, _, _, _, _, _, _, rfl, R1009, R1012, R1015, hd⟩))

theorem W_slices_Equal_int_int {I : IH} {a0 : List Int} {a1 : List Int} {p1 : Option Addr} {c2 : Nat} {p4 : Option Addr} {c5 : Nat} {Q : Bool → Prop} (R3 : RepSl eI64 I p1 c2 a0) (R6 : RepSl eI64 I p4 c5 a1) (hd : slices_Equal_int_int a0 a1 Q) :
    PFun Try.prog 35 [.slice p1 a0.length c2, .slice p4 a1.length c5] I (fun I_ v => ∃ r, v = .bool r ∧ Q r) := by
 refine Fun.enter func35 rfl ntmps35 rfl (.c (.c .n)) fun w0 M => ?_
 refine .seq (.region (.skips 1 rfl (.nilS [1, 0] rfl rfl (.seq (.seq (.region (.skips 1 rfl (.len underlying24 rfl rfl rfl rfl (.skips 1 rfl ?_)))))))))
 refine .len underlying24 rfl rfl rfl rfl (.ne rfl rfl rfl rfl (.nilS [10, 1, 0] rfl rfl (.condP rfl hd (fun hb8 hd => ?_) fun hb8 hd => ?_)))
 · exact .seq (.region (.skips 1 rfl (.nilS [4] rfl rfl (.ret (pret results35 (.t rfl .n) (.refl _) ⟨false, rfl, hd⟩)))))
 refine .skipS [1, 0] rfl rfl (.seq (.seq (.region (.skips 1 rfl (.len underlying24 rfl rfl rfl rfl (.skips 1 rfl (.nilS [13, 12, 1, 0] rfl rfl (.block (.loop hd (fun (s54 : Int) c w => ∃ I_, IH.le I I_ ∧ Ok ⟨26, [], none⟩ [(0, .slice p1 a0.length c2), (1, .slice p4 a1.length c5), (12, .int .i64 (a0.length : Int)), (13, .int .i64 s54)] c ∧ Sym w0 M I I_ [] w) (fun c w ho hs => ⟨I, (.refl _), ho.sub ⟨rfl, rfl, rfl, rfl, trivial⟩, hs.pick .n⟩) ?_)))))))))
 rintro s54 next55 hd c w hst
 obtain ⟨I56, hl57, hok, hsym⟩ := hst
 have le58 := IH.le.trans (.refl _) hl57
 replace R3 := R3.mono hl57
 replace R6 := R6.mono hl57
 refine Cod.at hok hsym (.seq (.region (.lt rfl rfl rfl rfl (.nilS [14, 13, 12, 1, 0] rfl rfl (.seq (.condP rfl hd (fun hb60 hd => ?_) fun hb60 hd => ?_))))))
 · refine .skipS [13, 12, 1, 0] rfl rfl (.seq (.block (.seq (.region (.skips 2 rfl (.nilS [5, 13, 12, 1, 0] rfl rfl (.seq (.draw [some 0, some 1, some 2, some 3, some 4, some 5, some 6, some 7, some 8] 9 MX (by kernel_rfl) (by kernel_rfl) (by kernel_rfl) (by kernel_rfl) (by kernel_rfl) (by kernel_rfl) (by kernel_rfl) (fun ex => ex) (fun _ _ => .z) rfl (.fs [[], []] rfl (by kernel_rfl) ?_)))))))))
   obtain ⟨h61, x62, hx63, hd⟩ := hd
   obtain ⟨b64, o65, cs66, e67, hC68, hr69⟩ := R3.2 _ _ hx63
   cases hr69
   refine .f [0, 1] rfl (by kernel_rfl) rfl rfl (fun ex => .ixa underlying24 sizeOf3 rfl e67 rfl h61 (idx_lt hx63 h61) rfl rfl .mk) (.f [2] rfl (by kernel_rfl) rfl rfl (fun ex => .ld1 (j := 0) isAgg3 hC68 rfl rfl rfl rfl rfl .mk) (.fs [[], []] rfl (by kernel_rfl) ?_))
   obtain ⟨h70, x71, hx72, hd⟩ := hd
   obtain ⟨b73, o74, cs75, e76, hC77, hr78⟩ := R6.2 _ _ hx72
   cases hr78
   refine .f [4, 5] rfl (by kernel_rfl) rfl rfl (fun ex => .ixa underlying24 sizeOf3 rfl e76 rfl h70 (idx_lt hx72 h70) rfl rfl .mk) (.f [6] rfl (by kernel_rfl) rfl rfl (fun ex => .ld1 (j := 0) isAgg3 hC77 rfl rfl rfl rfl rfl .mk) (.f [3, 7] rfl (by kernel_rfl) rfl rfl (fun ex => .ne rfl rfl rfl rfl .mk) (.e 9 (by kernel_rfl) (by kernel_rfl) (by kernel_rfl) (.nilS [24, 13, 12, 1, 0] rfl rfl (.condP rfl hd (fun hb79 hd => ?_) fun hb79 hd => ?_)))))
   · exact .seq (.region (.skips 1 rfl (.nilS [4] rfl rfl (.ret (pret results35 (.t rfl .n) le58 ⟨false, rfl, hd⟩)))))
   exact .skipS [13, 12, 1, 0] rfl rfl (.region (.add rfl rfl rfl rfl (.sub (E' := [(0, _), (1, _), (12, _), (25, _)]) ⟨rfl, rfl, rfl, rfl, trivial⟩ (.skips 1 rfl (.nil' fun c w ho hs => ⟨(w64 (s54 + 1)), hd, I56, le58, ho.sub ⟨rfl, rfl, rfl, rfl, trivial⟩, hs.pick .n⟩)))))
 exact .exitS [] rfl rfl (.seq (.region (.skips 1 rfl (.nilS [4] rfl rfl (.ret (pret results35 (.t rfl .n) le58 ⟨true, rfl, hd⟩))))))

theorem W_slices_Equal_int64_int64 {I : IH} {a0 : List Int} {a1 : List Int} {p1 : Option Addr} {c2 : Nat} {p4 : Option Addr} {c5 : Nat} {Q : Bool → Prop} (R3 : RepSl eI64 I p1 c2 a0) (R6 : RepSl eI64 I p4 c5 a1) (hd : slices_Equal_int64_int64 a0 a1 Q) :
    PFun Try.prog 36 [.slice p1 a0.length c2, .slice p4 a1.length c5] I (fun I_ v => ∃ r, v = .bool r ∧ Q r) := by
 refine Fun.enter func36 rfl ntmps36 rfl (.c (.c .n)) fun w0 M => ?_
 refine .seq (.region (.skips 1 rfl (.nilS [1, 0] rfl rfl (.seq (.seq (.region (.skips 1 rfl (.len underlying25 rfl rfl rfl rfl (.skips 1 rfl ?_)))))))))
 refine .len underlying25 rfl rfl rfl rfl (.ne rfl rfl rfl rfl (.nilS [10, 1, 0] rfl rfl (.condP rfl hd (fun hb8 hd => ?_) fun hb8 hd => ?_)))
 · exact .seq (.region (.skips 1 rfl (.nilS [4] rfl rfl (.ret (pret results36 (.t rfl .n) (.refl _) ⟨false, rfl, hd⟩)))))
 refine .skipS [1, 0] rfl rfl (.seq (.seq (.region (.skips 1 rfl (.len underlying25 rfl rfl rfl rfl (.skips 1 rfl (.nilS [13, 12, 1, 0] rfl rfl (.block (.loop hd (fun (s54 : Int) c w => ∃ I_, IH.le I I_ ∧ Ok ⟨26, [], none⟩ [(0, .slice p1 a0.length c2), (1, .slice p4 a1.length c5), (12, .int .i64 (a0.length : Int)), (13, .int .i64 s54)] c ∧ Sym w0 M I I_ [] w) (fun c w ho hs => ⟨I, (.refl _), ho.sub ⟨rfl, rfl, rfl, rfl, trivial⟩, hs.pick .n⟩) ?_)))))))))
 rintro s54 next55 hd c w hst
 obtain ⟨I56, hl57, hok, hsym⟩ := hst
 have le58 := IH.le.trans (.refl _) hl57
 replace R3 := R3.mono hl57
 replace R6 := R6.mono hl57
 refine Cod.at hok hsym (.seq (.region (.lt rfl rfl rfl rfl (.nilS [14, 13, 12, 1, 0] rfl rfl (.seq (.condP rfl hd (fun hb60 hd => ?_) fun hb60 hd => ?_))))))
 · refine .skipS [13, 12, 1, 0] rfl rfl (.seq (.block (.seq (.region (.skips 2 rfl (.nilS [5, 13, 12, 1, 0] rfl rfl (.seq (.draw [some 0, some 1, some 2, some 3, some 4, some 5, some 6, some 7, some 8] 9 MX (by kernel_rfl) (by kernel_rfl) (by kernel_rfl) (by kernel_rfl) (by kernel_rfl) (by kernel_rfl) (by kernel_rfl) (fun ex => ex) (fun _ _ => .z) rfl (.fs [[], []] rfl (by kernel_rfl) ?_)))))))))
   obtain ⟨h61, x62, hx63, hd⟩ := hd
   obtain ⟨b64, o65, cs66, e67, hC68, hr69⟩ := R3.2 _ _ hx63
   cases hr69
   refine .f [0, 1] rfl (by kernel_rfl) rfl rfl (fun ex => .ixa underlying25 sizeOf2 rfl e67 rfl h61 (idx_lt hx63 h61) rfl rfl .mk) (.f [2] rfl (by kernel_rfl) rfl rfl (fun ex => .ld1 (j := 0) isAgg2 hC68 rfl rfl rfl rfl rfl .mk) (.fs [[], []] rfl (by kernel_rfl) ?_))
   obtain ⟨h70, x71, hx72, hd⟩ := hd
   obtain ⟨b73, o74, cs75, e76, hC77, hr78⟩ := R6.2 _ _ hx72
   cases hr78
   refine .f [4, 5] rfl (by kernel_rfl) rfl rfl (fun ex => .ixa underlying25 sizeOf2 rfl e76 rfl h70 (idx_lt hx72 h70) rfl rfl .mk) (.f [6] rfl (by kernel_rfl) rfl rfl (fun ex => .ld1 (j := 0) isAgg2 hC77 rfl rfl rfl rfl rfl .mk) (.f [3, 7] rfl (by kernel_rfl) rfl rfl (fun ex => .ne rfl rfl rfl rfl .mk) (.e 9 (by kernel_rfl) (by kernel_rfl) (by kernel_rfl) (.nilS [24, 13, 12, 1, 0] rfl rfl (.condP rfl hd (fun hb79 hd => ?_) fun hb79 hd => ?_)))))
   · exact .seq (.region (.skips 1 rfl (.nilS [4] rfl rfl (.ret (pret results36 (.t rfl .n) le58 ⟨false, rfl, hd⟩)))))
   exact .skipS [13, 12, 1, 0] rfl rfl (.region (.add rfl rfl rfl rfl (.sub (E' := [(0, _), (1, _), (12, _), (25, _)]) ⟨rfl, rfl, rfl, rfl, trivial⟩ (.skips 1 rfl (.nil' fun c w ho hs => ⟨(w64 (s54 + 1)), hd, I56, le58, ho.sub ⟨rfl, rfl, rfl, rfl, trivial⟩, hs.pick .n⟩)))))
 exact .exitS [] rfl rfl (.seq (.region (.skips 1 rfl (.nilS [4] rfl rfl (.ret (pret results36 (.t rfl .n) le58 ⟨true, rfl, hd⟩))))))

theorem W_dcsc_Same {I : IH} {a0 : Columns} {a1 : Columns} {p1 : Option Addr} {c2 : Nat} {p4 : Option Addr} {c5 : Nat} {p7 : Option Addr} {c8 : Nat} {p10 : Option Addr} {c11 : Nat} {p13 : Option Addr} {c14 : Nat} {p16 : Option Addr} {c17 : Nat} {p19 : Option Addr} {c20 : Nat} {p22 : Option Addr} {c23 : Nat} {Q : Bool → Prop} (R3 : RepSl eI64 I p1 c2 a0.At) (R6 : RepSl eI64 I p4 c5 a0.Start) (R9 : RepSl eI64 I p7 c8 a0.Row) (R12 : RepSl eI64 I p10 c11 a0.Val) (R15 : RepSl eI64 I p13 c14 a1.At) (R18 : RepSl eI64 I p16 c17 a1.Start) (R21 : RepSl eI64 I p19 c20 a1.Row) (R24 : RepSl eI64 I p22 c23 a1.Val) (hd : dcsc_Same a0 a1 Q) :
    PFun Try.prog 12 [.agg #[.int .i64 a0.Rows, .int .i64 a0.Cols, .slice p1 a0.At.length c2, .slice p4 a0.Start.length c5, .slice p7 a0.Row.length c8, .slice p10 a0.Val.length c11], .agg #[.int .i64 a1.Rows, .int .i64 a1.Cols, .slice p13 a1.At.length c14, .slice p16 a1.Start.length c17, .slice p19 a1.Row.length c20, .slice p22 a1.Val.length c23]] I (fun I_ v => ∃ r, v = .bool r ∧ Q r) := by
 refine Fun.enter func12 rfl ntmps12 rfl (.c (.c .n)) fun w0 M => ?_
 refine .seq (.region (.boxA rfl rfl rfl fun b29 => ?_))
 refine .boxA rfl rfl rfl fun b31 => ?_
 refine .skips 1 rfl (.nilS [3, 2] rfl rfl (.seq (.region (.fieldAddr underlying30 rfl sizeOf3 rfl (o := 0) rfl rfl rfl (.load1 isAgg3 rfl (.s .z) rfl rfl rfl (.fieldAddr underlying30 rfl sizeOf3 rfl (o := 0) rfl rfl rfl (.load1 isAgg3 rfl .z rfl rfl rfl (.eq rfl rfl rfl rfl (.skips 1 rfl ?_)))))))))
 refine splitP hd (fun hb33 hd => ?_) fun hb33 hd => ?_
 · rw [hb33]
   refine .gyes rfl rfl rfl (.fieldAddr underlying30 rfl sizeOf3 rfl (o := 1) rfl rfl rfl (.gyes rfl rfl rfl (.load1 isAgg3 rfl (.s .z) rfl rfl rfl (.gyes rfl rfl rfl (.fieldAddr underlying30 rfl sizeOf3 rfl (o := 1) rfl rfl rfl (.gyes rfl rfl rfl (.load1 isAgg3 rfl .z rfl rfl rfl (.gyes rfl rfl rfl (.eq rfl rfl rfl rfl (.skips 2 rfl ?_))))))))))
   refine splitP hd (fun hb34 hd => ?_) fun hb34 hd => ?_
   · rw [hb34]
     refine .gyes rfl rfl rfl (.fieldAddr underlying30 rfl sizeOf24 rfl (o := 2) rfl rfl rfl (.gyes rfl rfl rfl (.load1 isAgg24 rfl (.s .z) rfl rfl rfl (.gyes rfl rfl rfl (.fieldAddr underlying30 rfl sizeOf24 rfl (o := 2) rfl rfl rfl (.gyes rfl rfl rfl (.load1 isAgg24 rfl .z rfl rfl rfl ?_)))))))
     have hw36 := W_slices_Equal_int_int (I := I) R3 R15 hd
     refine .gyes rfl rfl rfl (.callP call35 rfl hw36 rfl rfl fun v37 hv38 => ?_)
     obtain ⟨r35, rfl, hd⟩ := hv38
     refine .skips 2 rfl ?_
     refine splitP hd (fun hb39 hd => ?_) fun hb39 hd => ?_
     · rw [hb39]
       refine .gyes rfl rfl rfl (.fieldAddr underlying30 rfl sizeOf24 rfl (o := 3) rfl rfl rfl (.gyes rfl rfl rfl (.load1 isAgg24 rfl (.s .z) rfl rfl rfl (.gyes rfl rfl rfl (.fieldAddr underlying30 rfl sizeOf24 rfl (o := 3) rfl rfl rfl (.gyes rfl rfl rfl (.load1 isAgg24 rfl .z rfl rfl rfl ?_)))))))
       have hw41 := W_slices_Equal_int_int (I := I) R6 R18 hd
       refine .gyes rfl rfl rfl (.callP call35 rfl hw41 rfl rfl fun v42 hv43 => ?_)
       obtain ⟨r40, rfl, hd⟩ := hv43
       refine .skips 2 rfl ?_
       refine splitP hd (fun hb44 hd => ?_) fun hb44 hd => ?_
       · rw [hb44]
         refine .gyes rfl rfl rfl (.fieldAddr underlying30 rfl sizeOf24 rfl (o := 4) rfl rfl rfl (.gyes rfl rfl rfl (.load1 isAgg24 rfl (.s .z) rfl rfl rfl (.gyes rfl rfl rfl (.fieldAddr underlying30 rfl sizeOf24 rfl (o := 4) rfl rfl rfl (.gyes rfl rfl rfl (.load1 isAgg24 rfl .z rfl rfl rfl ?_)))))))
         have hw46 := W_slices_Equal_int_int (I := I) R9 R21 hd
         refine .gyes rfl rfl rfl (.callP call35 rfl hw46 rfl rfl fun v47 hv48 => ?_)
         obtain ⟨r45, rfl, hd⟩ := hv48
         refine .skips 2 rfl ?_
         refine splitP hd (fun hb49 hd => ?_) fun hb49 hd => ?_
         · rw [hb49]
           refine .gyes rfl rfl rfl (.fieldAddr underlying30 rfl sizeOf25 rfl (o := 5) rfl rfl rfl (.gyes rfl rfl rfl (.load1 isAgg25 rfl (.s .z) rfl rfl rfl (.gyes rfl rfl rfl (.fieldAddr underlying30 rfl sizeOf25 rfl (o := 5) rfl rfl rfl (.gyes rfl rfl rfl (.load1 isAgg25 rfl .z rfl rfl rfl ?_)))))))
           have hw51 := W_slices_Equal_int64_int64 (I := I) R12 R24 hd
           refine .gyes rfl rfl rfl (.callP call36 rfl hw51 rfl rfl fun v52 hv53 => ?_)
           obtain ⟨r50, rfl, hd⟩ := hv53
           exact .skips 2 rfl (.nilS [4] rfl rfl (.drop .z (.drop .z (.ret (pret results12 (.t rfl .n) (.refl _) ⟨r50, rfl, hd⟩)))))
         rw [hb49]
         exact .skips 7 rfl (.nilS [4] rfl rfl (.drop .z (.drop .z (.ret (pret results12 (.t rfl .n) (.refl _) ⟨false, rfl, hd⟩)))))
       rw [hb44]
       exact .skips 14 rfl (.nilS [4] rfl rfl (.drop .z (.drop .z (.ret (pret results12 (.t rfl .n) (.refl _) ⟨false, rfl, hd⟩)))))
     rw [hb39]
     exact .skips 21 rfl (.nilS [4] rfl rfl (.drop .z (.drop .z (.ret (pret results12 (.t rfl .n) (.refl _) ⟨false, rfl, hd⟩)))))
   rw [hb34]
   exact .skips 28 rfl (.nilS [4] rfl rfl (.drop .z (.drop .z (.ret (pret results12 (.t rfl .n) (.refl _) ⟨false, rfl, hd⟩)))))
 rw [hb33]
 exact .skips 35 rfl (.nilS [4] rfl rfl (.drop .z (.drop .z (.ret (pret results12 (.t rfl .n) (.refl _) ⟨false, rfl, hd⟩)))))

theorem W_dcsc_place {I : IH} {a0 : Columns} {a1 : Int} {p1 : Option Addr} {c2 : Nat} {p4 : Option Addr} {c5 : Nat} {p7 : Option Addr} {c8 : Nat} {p10 : Option Addr} {c11 : Nat} {Q : Int → Prop} (R3 : RepSl eI64 I p1 c2 a0.At) (R6 : RepSl eI64 I p4 c5 a0.Start) (R9 : RepSl eI64 I p7 c8 a0.Row) (R12 : RepSl eI64 I p10 c11 a0.Val) (hd : dcsc_place a0 a1 Q) :
    PFun Try.prog 37 [.agg #[.int .i64 a0.Rows, .int .i64 a0.Cols, .slice p1 a0.At.length c2, .slice p4 a0.Start.length c5, .slice p7 a0.Row.length c8, .slice p10 a0.Val.length c11], .int .i64 a1] I (fun I_ v => ∃ r, v = .int .i64 r ∧ Q r) := by
 refine Fun.enter func37 rfl ntmps37 rfl (.c (.c .n)) fun w0 M => ?_
 refine .seq (.region (.boxA rfl rfl rfl fun b15 => ?_))
 refine .skips 1 rfl (.nilS [2, 1] rfl rfl (.scope (.seq (.draw [some 0, some 1, some 2, some 3] 4 MX (by kernel_rfl) (by kernel_rfl) (by kernel_rfl) (by kernel_rfl) (by kernel_rfl) (by kernel_rfl) (by kernel_rfl) (fun ex => (pto b15 (.cells #[.int .i64 a0.Rows, .int .i64 a0.Cols, .slice p1 a0.At.length c2, .slice p4 a0.Start.length c5, .slice p7 a0.Row.length c8, .slice p10 a0.Val.length c11] 30 (0, 0))) :: ex) (fun _ _ => (.s .z)) rfl (.f [] rfl (by kernel_rfl) rfl rfl (fun ex => .fieldAddr underlying30 rfl sizeOf24 rfl (o := 2) rfl rfl rfl .mk) (.f [0] rfl (by kernel_rfl) rfl rfl (fun ex => .load1 isAgg24 rfl .z rfl rfl rfl .mk) (.f [1] rfl (by kernel_rfl) rfl rfl (fun ex => .len underlying24 rfl rfl rfl rfl .mk) (.fs [[]] rfl (by kernel_rfl) (.e 4 (by kernel_rfl) (by kernel_rfl) (by kernel_rfl) ?_)))))))))
 refine .skips 1 rfl (.nilS [6, 5, 2, 1] rfl rfl (.seq (.labelS [6, 5, 2, 1] rfl rfl (.seq ?_))))
 refine Cod.joinQ (σ := Int × Int) hd (fun (s : Int × Int) c w => match s with | (s227, s228) => ∃ I_, IH.le I I_ ∧ Ok ⟨44, [], none⟩ [(5, .int .i64 s227), (6, .int .i64 s228)] c ∧ Sym w0 M I I_ [] w) (fun k229 hd => ?_) ?_
 · skip
   refine .block (.loop hd (fun (s : Int × Int) c w => match s with | (s298, s299) => ∃ I_, IH.le I I_ ∧ Ok ⟨44, [], none⟩ [(1, .int .i64 a1), (2, .pointer (some ⟨b15, 0, none⟩)), (5, .int .i64 s298), (6, .int .i64 s299)] c ∧ Sym w0 M I I_ [pto b15 (.cells #[.int .i64 a0.Rows, .int .i64 a0.Cols, .slice p1 a0.At.length c2, .slice p4 a0.Start.length c5, .slice p7 a0.Row.length c8, .slice p10 a0.Val.length c11] 30 (0, 0))] w) (fun c w ho hs => ⟨I, (.refl _), ho.sub ⟨rfl, rfl, rfl, rfl, trivial⟩, hs.pick (.c .z .n)⟩) ?_)
   rintro ⟨s298, s299⟩ next300 hd c w hst
   obtain ⟨I301, hl302, hok, hsym⟩ := hst
   have le303 := IH.le.trans (.refl _) hl302
   replace R3 := R3.mono hl302
   replace R6 := R6.mono hl302
   replace R9 := R9.mono hl302
   replace R12 := R12.mono hl302
   refine Cod.at hok hsym (.seq (.seq (.region (.skips 2 rfl (.lt rfl rfl rfl rfl (.nilS [13, 6, 5, 2, 1] rfl rfl (.condP rfl hd (fun hb305 hd => ?_) fun hb305 hd => ?_)))))))
   · refine .skipS [6, 5, 2, 1] rfl rfl (.block (.seq (.region (.skips 3 rfl (.sub' rfl rfl rfl rfl (.quo rfl rfl (by decide) rfl rfl (.add rfl rfl rfl rfl (.skips 1 rfl (.nilS [7, 6, 5, 2, 1] rfl rfl ?_)))))))))
     refine .block (.seq (.region (.fieldAddr underlying30 rfl sizeOf24 rfl (o := 2) rfl rfl rfl (.load1 isAgg24 rfl .z rfl rfl rfl (.skips 1 rfl ?_)))))
     obtain ⟨h315, x316, hx317, hd⟩ := hd
     obtain ⟨b318, o319, cs320, e321, hC322, hr323⟩ := R3.2 _ _ hx317
     cases hr323
     refine .ixa underlying24 sizeOf3 rfl e321 rfl h315 (idx_lt hx317 h315) rfl rfl (.ld1 (j := 0) isAgg3 hC322 rfl rfl rfl rfl rfl (.skips 1 rfl (.eq rfl rfl rfl rfl (.skips 1 rfl (.nilS [21, 7, 6, 5, 2, 1] rfl rfl (.condP rfl hd (fun hb324 hd => ?_) fun hb324 hd => ?_))))))
     · exact .seq (.region (.skips 1 rfl (.sub (E' := [(1, _), (2, _), (6, _), (7, _), (21, _), (29, _)]) ⟨rfl, rfl, rfl, rfl, rfl, rfl, trivial⟩ (.skips 1 rfl (.nilS [5, 6] rfl rfl (.drop .z (.exit fun c w ho hs => ⟨(w64 (s298 + (w64 ((w64 (s299 - s298)).tdiv 2))), s299), hd, I301, le303, ho.sub ⟨rfl, rfl, trivial⟩, hs.pick .n⟩)))))))
     refine .seq (.region (.fieldAddr underlying30 rfl sizeOf24 rfl (o := 2) rfl rfl rfl (.load1 isAgg24 rfl .z rfl rfl rfl (.skips 1 rfl ?_))))
     obtain ⟨h325, x326, hx327, hd⟩ := hd
     obtain ⟨b328, o329, cs330, e331, hC332, hr333⟩ := R3.2 _ _ hx327
     cases hr333
     refine .ixa underlying24 sizeOf3 rfl e331 rfl h325 (idx_lt hx327 h325) rfl rfl (.ld1 (j := 0) isAgg3 hC332 rfl rfl rfl rfl rfl (.skips 1 rfl (.lt rfl rfl rfl rfl (.skips 1 rfl (.nilS [30, 7, 6, 5, 2, 1] rfl rfl (.condP rfl hd (fun hb334 hd => ?_) fun hb334 hd => ?_))))))
     · exact .region (.skips 1 rfl (.add rfl rfl rfl rfl (.sub (E' := [(1, _), (2, _), (6, _), (7, _), (30, _), (38, _), (39, _)]) ⟨rfl, rfl, rfl, rfl, rfl, rfl, rfl, trivial⟩ (.skips 1 rfl (.nil' fun c w ho hs => ⟨(w64 ((w64 (s298 + (w64 ((w64 (s299 - s298)).tdiv 2)))) + 1), s299), hd, I301, le303, ho.sub ⟨rfl, rfl, rfl, rfl, trivial⟩, hs.pick (.c .z .n)⟩)))))
     exact .region (.skips 1 rfl (.sub (E' := [(1, _), (2, _), (5, _), (7, _), (30, _), (20, _)]) ⟨rfl, rfl, rfl, rfl, rfl, rfl, trivial⟩ (.skips 1 rfl (.nil' fun c w ho hs => ⟨(s298, w64 (s298 + (w64 ((w64 (s299 - s298)).tdiv 2)))), hd, I301, le303, ho.sub ⟨rfl, rfl, rfl, rfl, trivial⟩, hs.pick (.c .z .n)⟩))))
   exact .exit fun c w ho hs => ⟨(s298, s299), hd, I301, le303, ho.sub ⟨rfl, rfl, trivial⟩, hs.pick .n⟩
 rintro ⟨s227, s228⟩ hd c w hst
 obtain ⟨I335, hl336, hok, hsym⟩ := hst
 have le337 := IH.le.trans (.refl _) hl336
 refine Cod.at hok hsym (.seq (.seq (.region (.skips 2 rfl (.lt rfl rfl rfl rfl (.nilS [42, 5] rfl rfl (.condP rfl hd (fun hb338 hd => ?_) fun hb338 hd => ?_)))))))
 · exact .seq (.region (.skips 2 rfl (.nilS [4] rfl rfl (.ret (pret results37 (.t rfl .n) le337 ⟨s227, rfl, hd⟩)))))
 exact .skipS [] rfl rfl (.seq (.region (.skips 1 rfl (.nilS [4] rfl rfl (.ret (pret results37 (.t rfl .n) le337 ⟨(-1), rfl, hd⟩))))))

theorem W_dcsc_items_1_1ae {I : IH} {o0 : Nat} {o1 : List Item} {o2 : Columns} {o3 : Int} {Y : Nat → (List Item) → Item → ((Bool × Nat × (List Item)) → Prop) → Prop} {b5 : Nat} {p6 : Option Addr} {c7 : Nat} {b10 : Nat} {p11 : Option Addr} {c12 : Nat} {p14 : Option Addr} {c15 : Nat} {p17 : Option Addr} {c18 : Nat} {p20 : Option Addr} {c21 : Nat} {b23 : Nat} {lr : Nat} {Rr : Nat → HA} {Q : (Nat × (List Item)) → Prop} (hY : ∀ {J_ : IH}, I.le J_ → ∀ {y24 : Nat} {y25 : List Item} {x31 : Item} {p27 : Option Addr} {c28 : Nat} {Qy : (Bool × Nat × (List Item)) → Prop}, Y y24 y25 x31 Qy → RFun Try.prog lr [.agg (encItem x31).toArray] J_ [Rr y24, pto b5 (.cells #[.slice p27 y25.length c28] 39 (0, 0)), OwnSl eItem 59 p27 c28 y25] (fun I_ v l => ∃ r p33 c34, v = .bool r.1 ∧ l = [Rr r.2.1, pto b5 (.cells #[.slice p33 r.2.2.length c34] 39 (0, 0)), OwnSl eItem 59 p33 c34 r.2.2] ∧ Qy r)) (R13 : RepSl eI64 I p11 c12 o2.At) (R16 : RepSl eI64 I p14 c15 o2.Start) (R19 : RepSl eI64 I p17 c18 o2.Row) (R22 : RepSl eI64 I p20 c21 o2.Val) (hd : dcsc_items_1_1ae o0 o1 o2 o3 Y Q) :
    Fun Try.prog 52 #[.func (.yield lr) #[] #[], .pointer (some ⟨b10, 0, none⟩), .pointer (some ⟨b23, 0, none⟩)] I [Rr o0, pto b5 (.cells #[.slice p6 o1.length c7] 39 (0, 0)), OwnSl eItem 59 p6 c7 o1, pto b10 (.cells #[.int .i64 o2.Rows, .int .i64 o2.Cols, .slice p11 o2.At.length c12, .slice p14 o2.Start.length c15, .slice p17 o2.Row.length c18, .slice p20 o2.Val.length c21] 30 (0, 0)), pto b23 (.cells #[.int .i64 o3] 3 (0, 0))] (fun I_ v l => ∃ r p25 c26, v = .tuple #[] ∧ l = [Rr r.1, pto b5 (.cells #[.slice p25 r.2.length c26] 39 (0, 0)), OwnSl eItem 59 p25 c26 r.2, pto b10 (.cells #[.int .i64 o2.Rows, .int .i64 o2.Cols, .slice p11 o2.At.length c12, .slice p14 o2.Start.length c15, .slice p17 o2.Row.length c18, .slice p20 o2.Val.length c21] 30 (0, 0)), pto b23 (.cells #[.int .i64 o3] 3 (0, 0))] ∧ Q r) := by
 refine Fun.enter (vs := [.func (.yield lr) #[] #[], .pointer (some ⟨b10, 0, none⟩), .pointer (some ⟨b23, 0, none⟩)]) func52 rfl ntmps52 rfl (.c (.c (.c .n))) fun w0 M => ?_
 refine .seq (.region (.fieldAddr underlying30 rfl sizeOf24 rfl (o := 3) rfl rfl rfl (.load1 isAgg24 rfl (.s (.s (.s .z))) rfl rfl rfl (.load1 isAgg3 rfl (.s (.s (.s (.s .z)))) rfl rfl rfl ?_))))
 obtain ⟨h41, x42, hx43, hd⟩ := hd
 obtain ⟨b44, o45, cs46, e47, hC48, hr49⟩ := R16.2 _ _ hx43
 cases hr49
 refine .ixa underlying24 sizeOf3 rfl e47 rfl h41 (idx_lt hx43 h41) rfl rfl (.ld1 (j := 0) isAgg3 hC48 rfl rfl rfl rfl rfl (.skips 1 rfl (.nilS [4, 2, 1, 0] rfl rfl (.block (.loop hd (fun (s : (List Item) × Int × Nat) c w => match s with | (s178, s182, s183) => ∃ I_ p179 c180, IH.le I I_ ∧ Ok ⟨34, [], none⟩ [(0, .func (.yield lr) #[] #[]), (1, .pointer (some ⟨b10, 0, none⟩)), (2, .pointer (some ⟨b23, 0, none⟩)), (4, .int .i64 s182)] c ∧ Sym w0 M I I_ [pto b5 (.cells #[.slice p179 s178.length c180] 39 (0, 0)), OwnSl eItem 59 p179 c180 s178, pto b10 (.cells #[.int .i64 o2.Rows, .int .i64 o2.Cols, .slice p11 o2.At.length c12, .slice p14 o2.Start.length c15, .slice p17 o2.Row.length c18, .slice p20 o2.Val.length c21] 30 (0, 0)), pto b23 (.cells #[.int .i64 o3] 3 (0, 0)), Rr s183] w) (fun c w ho hs => ⟨I, _, _, (.refl _), ho.sub ⟨rfl, rfl, rfl, rfl, trivial⟩, hs.pick (.c (.s .z) (.c (.s .z) (.c (.s .z) (.c (.s .z) (.c .z .n)))))⟩) ?_)))))
 rintro ⟨s178, s182, s183⟩ next184 hd c w hst
 obtain ⟨I185, p179, c180, hl186, hok, hsym⟩ := hst
 have le187 := IH.le.trans (.refl _) hl186
 replace R13 := R13.mono hl186
 replace R16 := R16.mono hl186
 replace R19 := R19.mono hl186
 replace R22 := R22.mono hl186
 refine Cod.at hok hsym (.seq (.seq (.region (.skips 1 rfl (.fieldAddr underlying30 rfl sizeOf24 rfl (o := 3) rfl rfl rfl (.load1 isAgg24 rfl (.s (.s .z)) rfl rfl rfl (.load1 isAgg3 rfl (.s (.s (.s .z))) rfl rfl rfl (.add rfl rfl rfl rfl ?_))))))))
 obtain ⟨h198, x199, hx200, hd⟩ := hd
 obtain ⟨b201, o202, cs203, e204, hC205, hr206⟩ := R16.2 _ _ hx200
 cases hr206
 refine .ixa underlying24 sizeOf3 rfl e204 rfl h198 (idx_lt hx200 h198) rfl rfl (.ld1 (j := 0) isAgg3 hC205 rfl rfl rfl rfl rfl (.lt rfl rfl rfl rfl (.nilS [17, 4, 2, 1, 0] rfl rfl (.condP rfl hd (fun hb207 hd => ?_) fun hb207 hd => ?_))))
 · refine .skipS [4, 2, 1, 0] rfl rfl (.seq (.block (.seq (.ownF (.s .z) fun hne208 => ?_))))
   refine .draw [some 0, some 1, some 2, some 3, some 4, some 5, some 6, some 7, some 8, some 9, some 10, some 11, some 12, some 13] 14 MX (by kernel_rfl) (by kernel_rfl) (by kernel_rfl) (by kernel_rfl) (by kernel_rfl) (by kernel_rfl) (by kernel_rfl) (fun ex => (pto b5 (.cells #[.slice p179 s178.length c180] 39 (0, 0))) :: (OwnSl eItem 59 p179 c180 s178) :: (pto b10 (.cells #[.int .i64 o2.Rows, .int .i64 o2.Cols, .slice p11 o2.At.length c12, .slice p14 o2.Start.length c15, .slice p17 o2.Row.length c18, .slice p20 o2.Val.length c21] 30 (0, 0))) :: (pto b23 (.cells #[.int .i64 o3] 3 (0, 0))) :: (Rr s183) :: ex) (fun _ _ => (.s (.s (.s (.s (.s .z)))))) rfl (.fs [[]] rfl (by kernel_rfl) (.f [] rfl (by kernel_rfl) rfl rfl (fun ex => .fieldAddr underlying30 rfl sizeOf24 rfl (o := 4) rfl rfl rfl .mk) (.f [1] rfl (by kernel_rfl) rfl rfl (fun ex => .load1 isAgg24 rfl (.s (.s .z)) rfl rfl rfl .mk) (.fs [[]] rfl (by kernel_rfl) ?_))))
   obtain ⟨h209, x210, hx211, hd⟩ := hd
   obtain ⟨b212, o213, cs214, e215, hC216, hr217⟩ := R19.2 _ _ hx211
   cases hr217
   refine .f [2, 3] rfl (by kernel_rfl) rfl rfl (fun ex => .ixa underlying24 sizeOf3 rfl e215 rfl h209 (idx_lt hx211 h209) rfl rfl .mk) (.f [4] rfl (by kernel_rfl) rfl rfl (fun ex => .ld1 (j := 0) isAgg3 hC216 rfl rfl rfl rfl rfl .mk) (.f [] rfl (by kernel_rfl) rfl rfl (fun ex => .fieldAddr underlying30 rfl sizeOf25 rfl (o := 5) rfl rfl rfl .mk) (.f [6] rfl (by kernel_rfl) rfl rfl (fun ex => .load1 isAgg25 rfl (.s (.s .z)) rfl rfl rfl .mk) (.fs [[]] rfl (by kernel_rfl) ?_))))
   obtain ⟨h218, x219, hx220, hd⟩ := hd
   obtain ⟨b221, o222, cs223, e224, hC225, hr226⟩ := R22.2 _ _ hx220
   cases hr226
   refine .f [7, 8] rfl (by kernel_rfl) rfl rfl (fun ex => .ixa underlying25 sizeOf2 rfl e224 rfl h218 (idx_lt hx220 h218) rfl rfl .mk) (.f [9] rfl (by kernel_rfl) rfl rfl (fun ex => .ld1 (j := 0) isAgg2 hC225 rfl rfl rfl rfl rfl .mk) (.f [5, 10] rfl (by kernel_rfl) rfl rfl (fun ex => .build zeroValue59 underlying59 BI59 (.c rfl rfl rfl (.t .nil) (.c rfl rfl rfl (.s (.t .nil)) .n)) (by exact ⟨⟨_, _, rfl, rfl, rfl⟩, ⟨⟨_, _, rfl, rfl, rfl⟩, trivial⟩⟩) rfl rfl .mk) (.w [] [[], [11], [10, 11], [9, 10, 11], [9, 10, 11], [7, 9, 10, 11], [11], [5, 11], [4, 5, 11], [4, 5, 11], [2, 4, 5, 11], []] [0, 11] rfl (by kernel_rfl) (by kernel_rfl) (by kernel_rfl) ((dropE_kept rfl rfl)) (.inr (dropE_kept rfl rfl)) fun ex => ?_)))
   have hw227 := hY (J_ := I185) le187 (y24 := s183) (y25 := s178) (x31 := ({ At := x210, Val := x219 } : Item)) (p27 := p179) (c28 := c180) hd
   refine .callY rfl rfl (.c (.s (.s (.s (.s .z)))) (.c .z (.c .z .n))) hw227 rfl rfl fun v231 I228 l232 hl229 hv230 => ?_
   obtain ⟨r233, p237, c238, rfl, rfl, hd⟩ := hv230
   have le241 := IH.le.trans le187 hl229
   replace R13 := R13.mono hl229
   replace R16 := R16.mono hl229
   replace R19 := R19.mono hl229
   replace R22 := R22.mono hl229
   replace hC216 := hC216.mono hl229
   replace hC225 := hC225.mono hl229
   refine .re (m' := (Rr r233.2.1) :: (pto b5 (.cells #[.slice p237 r233.2.2.length c238] 39 (0, 0))) :: (OwnSl eItem 59 p237 c238 r233.2.2) :: (pto b10 (.cells #[.int .i64 o2.Rows, .int .i64 o2.Cols, .slice p11 o2.At.length c12, .slice p14 o2.Start.length c15, .slice p17 o2.Row.length c18, .slice p20 o2.Val.length c21] 30 (0, 0))) :: (pto b23 (.cells #[.int .i64 o3] 3 (0, 0))) :: ex) rfl (.some (fun ex => (Rr r233.2.1) :: (pto b5 (.cells #[.slice p237 r233.2.2.length c238] 39 (0, 0))) :: (OwnSl eItem 59 p237 c238 r233.2.2) :: (pto b10 (.cells #[.int .i64 o2.Rows, .int .i64 o2.Cols, .slice p11 o2.At.length c12, .slice p14 o2.Start.length c15, .slice p17 o2.Row.length c18, .slice p20 o2.Val.length c21] 30 (0, 0))) :: (pto b23 (.cells #[.int .i64 o3] 3 (0, 0))) :: ex) rfl (fun _ _ => (.s (.s (.s (.s (.s .z)))))) rfl trivial (.f [12] rfl (by kernel_rfl) rfl rfl (fun ex => .not rfl rfl rfl .mk) (.e 14 (by kernel_rfl) (by kernel_rfl) (by kernel_rfl) (.nilS [33, 4, 2, 1, 0] rfl rfl (.condP rfl hd (fun hb242 hd => ?_) fun hb242 hd => ?_)))))
   · exact .ret (oret results52 .n le241 (.c .z (.c .z (.c .z (.c .z (.c .z .n))))) ⟨(r233.2.1, r233.2.2), _, _, rfl, rfl, hd⟩)
   exact .skipS [4, 2, 1, 0] rfl rfl (.region (.skips 1 rfl (.add rfl rfl rfl rfl (.sub (E' := [(0, _), (1, _), (2, _), (18, _), (19, _)]) ⟨rfl, rfl, rfl, rfl, rfl, trivial⟩ (.skips 1 rfl (.nil' fun c w ho hs => ⟨(r233.2.2, w64 (s182 + 1), r233.2.1), hd, I228, _, _, le241, ho.sub ⟨rfl, rfl, rfl, rfl, trivial⟩, hs.pick (.c (.s .z) (.c (.s .z) (.c (.s .z) (.c (.s .z) (.c .z .n)))))⟩))))))
 exact .exit (oretN results52 .n le187 (.c (.s (.s (.s (.s .z)))) (.c .z (.c .z (.c .z (.c .z .n))))) ⟨(s183, s178), _, _, rfl, rfl, hd⟩)

theorem W_slices_AppendSeq_api_Item_api_Item_828 {I : IH} {o0 : Columns} {o1 : Int} {b3 : Nat} {p4 : Option Addr} {c5 : Nat} {p7 : Option Addr} {c8 : Nat} {p10 : Option Addr} {c11 : Nat} {p13 : Option Addr} {c14 : Nat} {b16 : Nat} {Q : (List Item) → Prop} (R6 : RepSl eI64 I p4 c5 o0.At) (R9 : RepSl eI64 I p7 c8 o0.Start) (R12 : RepSl eI64 I p10 c11 o0.Row) (R15 : RepSl eI64 I p13 c14 o0.Val) (hd : slices_AppendSeq_api_Item_api_Item_828 o0 o1 Q) :
    Fun Try.prog 57 #[.slice none 0 0, .func (.func 52) #[] #[.pointer (some ⟨b3, 0, none⟩), .pointer (some ⟨b16, 0, none⟩)]] I [pto b3 (.cells #[.int .i64 o0.Rows, .int .i64 o0.Cols, .slice p4 o0.At.length c5, .slice p7 o0.Start.length c8, .slice p10 o0.Row.length c11, .slice p13 o0.Val.length c14] 30 (0, 0)), pto b16 (.cells #[.int .i64 o1] 3 (0, 0))] (fun I_ v l => ∃ r p17 c18, v = .slice p17 r.length c18 ∧ RepSl eItem I_ p17 c18 r ∧ l = [pto b3 (.cells #[.int .i64 o0.Rows, .int .i64 o0.Cols, .slice p4 o0.At.length c5, .slice p7 o0.Start.length c8, .slice p10 o0.Row.length c11, .slice p13 o0.Val.length c14] 30 (0, 0)), pto b16 (.cells #[.int .i64 o1] 3 (0, 0))] ∧ Q r) := by
 refine Fun.enter (vs := [.slice none 0 0, .func (.func 52) #[] #[.pointer (some ⟨b3, 0, none⟩), .pointer (some ⟨b16, 0, none⟩)]]) func57 rfl ntmps57 rfl (.c (.c .n)) fun w0 M => ?_
 refine .marks0 (.seq (.region (.box1 rfl rfl rfl rfl fun b19 => ?_)))
 refine .skips 1 rfl (.nilS [2, 1] rfl rfl (.seq (.seq (.region (.skips 1 rfl (.nilS [6, 2, 1] rfl rfl (.block (.own0 eItem 59 (.rangeF [] rfl call52 (.c (.s (.s .z)) (.c (.s .z) (.c .z (.c .z (.c .z .n))))) fun lr D rc hrc => ?_)))))))))
 refine ⟨_, W_dcsc_items_1_1ae (I := I) (lr := lr) (Rr := recA lr [] rc) (o0 := 0) (o1 := ([] : List Item)) (o2 := o0) (o3 := o1) (b5 := b19) (p6 := none) (c7 := 0) (b10 := b3) (p11 := p4) (c12 := c5) (p14 := p7) (c15 := c8) (p17 := p10) (c18 := c11) (p20 := p13) (c21 := c14) (b23 := b16) ?_ R6 R9 R12 R15 hd, ?_⟩
 · skip
   intro I hJ y55 y56 x62 p58 c59 Qy  hd
   replace R6 := R6.mono hJ
   replace R9 := R9.mono hJ
   replace R12 := R12.mono hJ
   replace R15 := R15.mono hJ
   obtain ⟨rfl, hd⟩ := hd
   refine RFun.mk hrc rfl fun w0 M => ?_
   refine .region (.allocA zeroValue59 rfl rfl fun b63 => ?_)
   refine .storeA sizeOf59 rfl rfl .z (.t (.t .nil)) rfl rfl (.nil' fun c w ho hs => beginR (E' := [(2, _), (5, _)]) ho ⟨rfl, rfl, trivial⟩ hs (.s .z) (.block (.region (.load1 isAgg39 rfl (.s (.s .z)) rfl rfl rfl (.loadW isAgg59 sizeOf59 rfl .z rfl rfl rfl (.buildSlice 1 underlying39 sizeOf59 zeroValue59 rfl rfl (.c rfl rfl rfl .n) rfl rfl fun b65 => ?_))))))
   obtain ⟨hl67, hd⟩ := hd
   refine .append (ys := [x62]) 16 (.s (.s (.s (.s .z)))) underlying39 underlying39 IN59 rfl rfl rfl rfl rfl rfl rfl rfl rfl (.box .z (.one rfl) rfl) hl67 rfl rfl fun p68 c69 => ?_
   exact .store1 sizeOf39 rfl rfl (.s (.s (.s (.s .z)))) (.t .nil) rfl (.nil' fun c w ho hs => endR 0 (.inl rfl) (.refl _) (.s (.s (.s .z))) (.c (.s (.s (.s .z))) (.c .z .n)) ⟨(true, 0, (y56 ++ ([x62]))), _, _, rfl, rfl, hd⟩ hs)
 intro v74 I71 l' hl72 hv73
 obtain ⟨r75, p79, c80, rfl, rfl, hd⟩ := hv73
 have le83 := IH.le.trans (.refl _) hl72
 replace R6 := R6.mono hl72
 replace R9 := R9.mono hl72
 replace R12 := R12.mono hl72
 replace R15 := R15.mono hl72
 obtain ⟨hz, hd⟩ := hd
 refine ⟨_, _, rfl, fun hj => ?_, fun i hj => absurd (hz.symm.trans hj) (by simp)⟩
 refine .re (m' := [Marks (D :: []), pto b19 (.cells #[.slice p79 r75.2.length c80] 39 (0, 0)), OwnSl eItem 59 p79 c80 r75.2, pto b3 (.cells #[.int .i64 o0.Rows, .int .i64 o0.Cols, .slice p4 o0.At.length c5, .slice p7 o0.Start.length c8, .slice p10 o0.Row.length c11, .slice p13 o0.Val.length c14] 30 (0, 0)), pto b16 (.cells #[.int .i64 o1] 3 (0, 0))]) rfl (.mkS [2, 1] rfl rfl (.seq (.region (.load1 isAgg39 rfl (.s .z) rfl rfl rfl (.skips 1 rfl (.nilS [4, 1] rfl rfl (.drop (.s .z) (.pub (.s .z) fun I84 hl85 R86 => ?_))))))))
 have le87 := IH.le.trans le83 hl85
 replace R6 := R6.mono hl85
 replace R9 := R9.mono hl85
 replace R12 := R12.mono hl85
 replace R15 := R15.mono hl85
 exact .ret (oretM .z results57 (.t rfl .n) le87 (.c .z (.c .z .n)) ⟨r75.2, _, _, rfl, R86, rfl, hd⟩)

theorem W_slices_Collect_api_Item_d7d {I : IH} {o0 : Columns} {o1 : Int} {b3 : Nat} {p4 : Option Addr} {c5 : Nat} {p7 : Option Addr} {c8 : Nat} {p10 : Option Addr} {c11 : Nat} {p13 : Option Addr} {c14 : Nat} {b16 : Nat} {Q : (List Item) → Prop} (R6 : RepSl eI64 I p4 c5 o0.At) (R9 : RepSl eI64 I p7 c8 o0.Start) (R12 : RepSl eI64 I p10 c11 o0.Row) (R15 : RepSl eI64 I p13 c14 o0.Val) (hd : slices_Collect_api_Item_d7d o0 o1 Q) :
    Fun Try.prog 38 #[.func (.func 52) #[] #[.pointer (some ⟨b3, 0, none⟩), .pointer (some ⟨b16, 0, none⟩)]] I [pto b3 (.cells #[.int .i64 o0.Rows, .int .i64 o0.Cols, .slice p4 o0.At.length c5, .slice p7 o0.Start.length c8, .slice p10 o0.Row.length c11, .slice p13 o0.Val.length c14] 30 (0, 0)), pto b16 (.cells #[.int .i64 o1] 3 (0, 0))] (fun I_ v l => ∃ r p17 c18, v = .slice p17 r.length c18 ∧ RepSl eItem I_ p17 c18 r ∧ l = [pto b3 (.cells #[.int .i64 o0.Rows, .int .i64 o0.Cols, .slice p4 o0.At.length c5, .slice p7 o0.Start.length c8, .slice p10 o0.Row.length c11, .slice p13 o0.Val.length c14] 30 (0, 0)), pto b16 (.cells #[.int .i64 o1] 3 (0, 0))] ∧ Q r) := by
 refine Fun.enter (vs := [.func (.func 52) #[] #[.pointer (some ⟨b3, 0, none⟩), .pointer (some ⟨b16, 0, none⟩)]]) func38 rfl ntmps38 rfl (.c .n) fun w0 M => ?_
 refine .seq (.region (.skips 1 rfl (.nilS [0] rfl rfl (.seq (.region (.skips 1 rfl ?_))))))
 have hw17 := W_slices_AppendSeq_api_Item_api_Item_828 (I := I) (o0 := o0) (o1 := o1) (b3 := b3) (p4 := p4) (c5 := c5) (p7 := p7) (c8 := c8) (p10 := p10) (c11 := c11) (p13 := p13) (c14 := c14) (b16 := b16) R6 R9 R12 R15 hd
 refine .callS (.f call57 rfl) (.c .z (.c .z .n)) hw17 rfl rfl fun v21 I18 l22 hl19 hv20 => ?_
 obtain ⟨r23, p24, c25, rfl, R26, rfl, hd⟩ := hv20
 have le27 := IH.le.trans (.refl _) hl19
 replace R6 := R6.mono hl19
 replace R9 := R9.mono hl19
 replace R12 := R12.mono hl19
 replace R15 := R15.mono hl19
 exact .re (m' := [pto b3 (.cells #[.int .i64 o0.Rows, .int .i64 o0.Cols, .slice p4 o0.At.length c5, .slice p7 o0.Start.length c8, .slice p10 o0.Row.length c11, .slice p13 o0.Val.length c14] 30 (0, 0)), pto b16 (.cells #[.int .i64 o1] 3 (0, 0))]) rfl (.skips 1 rfl (.nilS [2, 0] rfl rfl (.ret (oret results38 (.t rfl .n) le27 (.c .z (.c .z .n)) ⟨r23, _, _, rfl, R26, rfl, hd⟩))))

theorem W_dcsc_Column {I : IH} {a0 : Columns} {a1 : Int} {p1 : Option Addr} {c2 : Nat} {p4 : Option Addr} {c5 : Nat} {p7 : Option Addr} {c8 : Nat} {p10 : Option Addr} {c11 : Nat} {Q : (List Item) → Prop} (R3 : RepSl eI64 I p1 c2 a0.At) (R6 : RepSl eI64 I p4 c5 a0.Start) (R9 : RepSl eI64 I p7 c8 a0.Row) (R12 : RepSl eI64 I p10 c11 a0.Val) (hd : dcsc_Column a0 a1 Q) :
    PFun Try.prog 14 [.agg #[.int .i64 a0.Rows, .int .i64 a0.Cols, .slice p1 a0.At.length c2, .slice p4 a0.Start.length c5, .slice p7 a0.Row.length c8, .slice p10 a0.Val.length c11], .int .i64 a1] I (fun I_ v => ∃ r p13 c14, v = .slice p13 r.length c14 ∧ RepSl eItem I_ p13 c14 r ∧ Q r) := by
 refine Fun.enter func14 rfl ntmps14 rfl (.c (.c .n)) fun w0 M => ?_
 refine .seq (.region (.boxA rfl rfl rfl fun b18 => ?_))
 refine .skips 1 rfl (.nilS [2, 1] rfl rfl (.seq (.region (.loadW isAgg30 sizeOf30 rfl .z rfl rfl rfl ?_))))
 have hw58 := W_dcsc_sure (I := I) R3 R6 R9 R12 hd
 refine .call call32 rfl hw58 rfl rfl fun v44 I41 hl42 hv43 => ?_
 obtain ⟨r40, p46, c47, p49, c50, p52, c53, p55, c56, rfl, R48, R51, R54, R57, hd⟩ := hv43
 have le59 := IH.le.trans (.refl _) hl42
 replace R3 := R3.mono hl42
 replace R6 := R6.mono hl42
 replace R9 := R9.mono hl42
 replace R12 := R12.mono hl42
 refine .storeA sizeOf30 rfl rfl .z (.t (.t (.t (.t (.t (.t .nil)))))) rfl rfl (.nilS [2, 1] rfl rfl (.seq (.region (.loadW isAgg30 sizeOf30 rfl .z rfl rfl rfl (.skips 1 rfl ?_)))))
 have hw65 := W_dcsc_place (I := I41) R48 R51 R54 R57 hd
 refine .callP call37 rfl hw65 rfl rfl fun v66 hv67 => ?_
 obtain ⟨r64, rfl, hd⟩ := hv67
 refine .skips 1 rfl (.nilS [5, 2] rfl rfl (.seq (.seq (.region (.skips 1 rfl (.lt rfl rfl rfl rfl (.nilS [12, 5, 2] rfl rfl (.condP rfl hd (fun hb68 hd => ?_) fun hb68 hd => ?_))))))))
 · exact .seq (.region (.skips 1 rfl (.nilS [4] rfl rfl (.drop .z (.ret (pret results14 (.t rfl .n) le59 ⟨([] : List Item), _, _, rfl, (.nil _ _ _), hd⟩))))))
 refine .skipS [5, 2] rfl rfl (.seq (.region (.loadW isAgg30 sizeOf30 rfl .z rfl rfl rfl (.skips 1 rfl ?_))))
 have hw69 := W_dcsc_items_9d2 (I := I41) (a0 := r40) (a1 := r64) R48 R51 R54 R57 hd
 refine .callS (.f call33 rfl) .n hw69 rfl rfl fun v73 I70 l74 hl71 hv72 => ?_
 obtain ⟨r75, b78, p79, c80, p82, c83, p85, c86, p88, c89, b91, rfl, R81, R84, R87, R90, rfl, hd⟩ := hv72
 have le92 := IH.le.trans le59 hl71
 replace R48 := R48.mono hl71
 replace R51 := R51.mono hl71
 replace R54 := R54.mono hl71
 replace R57 := R57.mono hl71
 refine .re (m' := [pto b78 (.cells #[.int .i64 r75.1.Rows, .int .i64 r75.1.Cols, .slice p79 r75.1.At.length c80, .slice p82 r75.1.Start.length c83, .slice p85 r75.1.Row.length c86, .slice p88 r75.1.Val.length c89] 30 (0, 0)), pto b91 (.cells #[.int .i64 r75.2] 3 (0, 0)), pto b18 (.cells #[.int .i64 r40.Rows, .int .i64 r40.Cols, .slice p46 r40.At.length c47, .slice p49 r40.Start.length c50, .slice p52 r40.Row.length c53, .slice p55 r40.Val.length c56] 30 (0, 0))]) rfl ?_
 have hw93 := W_slices_Collect_api_Item_d7d (I := I70) (o0 := r75.1) (o1 := r75.2) (b3 := b78) (p4 := p79) (c5 := c80) (p7 := p82) (c8 := c83) (p10 := p85) (c11 := c86) (p13 := p88) (c14 := c89) (b16 := b91) R81 R84 R87 R90 hd
 refine .callS (.f call38 rfl) (.c .z (.c .z .n)) hw93 rfl rfl fun v97 I94 l98 hl95 hv96 => ?_
 obtain ⟨r99, p100, c101, rfl, R102, rfl, hd⟩ := hv96
 have le103 := IH.le.trans le92 hl95
 replace R48 := R48.mono hl95
 replace R51 := R51.mono hl95
 replace R54 := R54.mono hl95
 replace R57 := R57.mono hl95
 replace R81 := R81.mono hl95
 replace R84 := R84.mono hl95
 replace R87 := R87.mono hl95
 replace R90 := R90.mono hl95
 exact .re (m' := [pto b78 (.cells #[.int .i64 r75.1.Rows, .int .i64 r75.1.Cols, .slice p79 r75.1.At.length c80, .slice p82 r75.1.Start.length c83, .slice p85 r75.1.Row.length c86, .slice p88 r75.1.Val.length c89] 30 (0, 0)), pto b91 (.cells #[.int .i64 r75.2] 3 (0, 0)), pto b18 (.cells #[.int .i64 r40.Rows, .int .i64 r40.Cols, .slice p46 r40.At.length c47, .slice p49 r40.Start.length c50, .slice p52 r40.Row.length c53, .slice p55 r40.Val.length c56] 30 (0, 0))]) rfl (.skips 1 rfl (.nilS [4] rfl rfl (.drop .z (.drop .z (.drop .z (.ret (pret results14 (.t rfl .n) le103 ⟨r99, _, _, rfl, R102, hd⟩)))))))

theorem W_dcsc_Many {I : IH} {a0 : Columns} {p1 : Option Addr} {c2 : Nat} {p4 : Option Addr} {c5 : Nat} {p7 : Option Addr} {c8 : Nat} {p10 : Option Addr} {c11 : Nat} {Q : Int → Prop} (R3 : RepSl eI64 I p1 c2 a0.At) (R6 : RepSl eI64 I p4 c5 a0.Start) (R9 : RepSl eI64 I p7 c8 a0.Row) (R12 : RepSl eI64 I p10 c11 a0.Val) (hd : dcsc_Many a0 Q) :
    PFun Try.prog 17 [.agg #[.int .i64 a0.Rows, .int .i64 a0.Cols, .slice p1 a0.At.length c2, .slice p4 a0.Start.length c5, .slice p7 a0.Row.length c8, .slice p10 a0.Val.length c11]] I (fun I_ v => ∃ r, v = .int .i64 r ∧ Q r) := by
 refine Fun.enter func17 rfl ntmps17 rfl (.c .n) fun w0 M => ?_
 refine .seq (.region (.boxA rfl rfl rfl fun b13 => ?_))
 refine .skips 1 rfl (.nilS [1] rfl rfl (.seq (.region (.loadW isAgg30 sizeOf30 rfl .z rfl rfl rfl ?_))))
 have hw33 := W_dcsc_sure (I := I) R3 R6 R9 R12 hd
 refine .call call32 rfl hw33 rfl rfl fun v19 I16 hl17 hv18 => ?_
 obtain ⟨r15, p21, c22, p24, c25, p27, c28, p30, c31, rfl, R23, R26, R29, R32, hd⟩ := hv18
 have le34 := IH.le.trans (.refl _) hl17
 replace R3 := R3.mono hl17
 replace R6 := R6.mono hl17
 replace R9 := R9.mono hl17
 replace R12 := R12.mono hl17
 exact .field1 underlying30 rfl isAgg24 rfl rfl rfl rfl (.len underlying24 rfl rfl rfl rfl (.skips 1 rfl (.nilS [2] rfl rfl (.drop .z (.ret (pret results17 (.t rfl .n) le34 ⟨(r15.At.length : Int), rfl, hd⟩))))))

theorem W_dcsc_Count {I : IH} {a0 : Columns} {p1 : Option Addr} {c2 : Nat} {p4 : Option Addr} {c5 : Nat} {p7 : Option Addr} {c8 : Nat} {p10 : Option Addr} {c11 : Nat} {Q : Int → Prop} (R3 : RepSl eI64 I p1 c2 a0.At) (R6 : RepSl eI64 I p4 c5 a0.Start) (R9 : RepSl eI64 I p7 c8 a0.Row) (R12 : RepSl eI64 I p10 c11 a0.Val) (hd : dcsc_Count a0 Q) :
    PFun Try.prog 18 [.agg #[.int .i64 a0.Rows, .int .i64 a0.Cols, .slice p1 a0.At.length c2, .slice p4 a0.Start.length c5, .slice p7 a0.Row.length c8, .slice p10 a0.Val.length c11]] I (fun I_ v => ∃ r, v = .int .i64 r ∧ Q r) := by
 refine Fun.enter func18 rfl ntmps18 rfl (.c .n) fun w0 M => ?_
 refine .seq (.region (.boxA rfl rfl rfl fun b13 => ?_))
 refine .skips 1 rfl (.nilS [1] rfl rfl (.seq (.region (.loadW isAgg30 sizeOf30 rfl .z rfl rfl rfl ?_))))
 have hw33 := W_dcsc_sure (I := I) R3 R6 R9 R12 hd
 refine .call call32 rfl hw33 rfl rfl fun v19 I16 hl17 hv18 => ?_
 obtain ⟨r15, p21, c22, p24, c25, p27, c28, p30, c31, rfl, R23, R26, R29, R32, hd⟩ := hv18
 have le34 := IH.le.trans (.refl _) hl17
 replace R3 := R3.mono hl17
 replace R6 := R6.mono hl17
 replace R9 := R9.mono hl17
 replace R12 := R12.mono hl17
 exact .field1 underlying30 rfl isAgg24 rfl rfl rfl rfl (.len underlying24 rfl rfl rfl rfl (.skips 1 rfl (.nilS [2] rfl rfl (.drop .z (.ret (pret results18 (.t rfl .n) le34 ⟨(r15.Row.length : Int), rfl, hd⟩))))))

theorem W_dcsc_Work {I : IH} {a0 : Columns} {a1 : List Int} {p1 : Option Addr} {c2 : Nat} {p4 : Option Addr} {c5 : Nat} {p7 : Option Addr} {c8 : Nat} {p10 : Option Addr} {c11 : Nat} {p13 : Option Addr} {c14 : Nat} {Q : Int → Prop} (R3 : RepSl eI64 I p1 c2 a0.At) (R6 : RepSl eI64 I p4 c5 a0.Start) (R9 : RepSl eI64 I p7 c8 a0.Row) (R12 : RepSl eI64 I p10 c11 a0.Val) (R15 : RepSl eI64 I p13 c14 a1) (hd : dcsc_Work a0 a1 Q) :
    PFun Try.prog 19 [.agg #[.int .i64 a0.Rows, .int .i64 a0.Cols, .slice p1 a0.At.length c2, .slice p4 a0.Start.length c5, .slice p7 a0.Row.length c8, .slice p10 a0.Val.length c11], .slice p13 a1.length c14] I (fun I_ v => ∃ r, v = .int .i64 r ∧ Q r) := by
 refine Fun.enter func19 rfl ntmps19 rfl (.c (.c .n)) fun w0 M => ?_
 refine .seq (.region (.boxA rfl rfl rfl fun b18 => ?_))
 refine .skips 1 rfl (.nilS [2, 1] rfl rfl (.seq (.region (.loadW isAgg30 sizeOf30 rfl .z rfl rfl rfl ?_))))
 have hw58 := W_dcsc_sure (I := I) R3 R6 R9 R12 hd
 refine .call call32 rfl hw58 rfl rfl fun v44 I41 hl42 hv43 => ?_
 obtain ⟨r40, p46, c47, p49, c50, p52, c53, p55, c56, rfl, R48, R51, R54, R57, hd⟩ := hv43
 have le59 := IH.le.trans (.refl _) hl42
 replace R3 := R3.mono hl42
 replace R6 := R6.mono hl42
 replace R9 := R9.mono hl42
 replace R12 := R12.mono hl42
 replace R15 := R15.mono hl42
 refine .storeA sizeOf30 rfl rfl .z (.t (.t (.t (.t (.t (.t .nil)))))) rfl rfl (.nilS [2, 1] rfl rfl (.seq (.region (.skips 1 rfl (.nilS [5, 2, 1] rfl rfl (.seq (.seq (.region (.skips 1 rfl ?_)))))))))
 refine .len underlying24 rfl rfl rfl rfl (.skips 1 rfl (.nilS [13, 12, 11, 5, 2] rfl rfl (.block (.loop hd (fun (s : Int × Int) c w => match s with | (s160, s161) => ∃ I_, IH.le I41 I_ ∧ Ok ⟨38, [], none⟩ [(2, .pointer (some ⟨b18, 0, none⟩)), (5, .int .i64 s160), (11, .slice p13 a1.length c14), (12, .int .i64 (a1.length : Int)), (13, .int .i64 s161)] c ∧ Sym w0 M I I_ [pto b18 (.cells #[.int .i64 r40.Rows, .int .i64 r40.Cols, .slice p46 r40.At.length c47, .slice p49 r40.Start.length c50, .slice p52 r40.Row.length c53, .slice p55 r40.Val.length c56] 30 (0, 0))] w) (fun c w ho hs => ⟨I41, (.refl _), ho.sub ⟨rfl, rfl, rfl, rfl, rfl, trivial⟩, hs.pick (.c .z .n)⟩) ?_))))
 rintro ⟨s160, s161⟩ next162 hd c w hst
 obtain ⟨I163, hl164, hok, hsym⟩ := hst
 have le165 := IH.le.trans le59 hl164
 have le166 := IH.le.trans (.refl _) hl164
 replace R15 := R15.mono hl164
 replace R48 := R48.mono hl164
 replace R51 := R51.mono hl164
 replace R54 := R54.mono hl164
 replace R57 := R57.mono hl164
 refine Cod.at hok hsym (.seq (.region (.lt rfl rfl rfl rfl (.nilS [14, 13, 12, 11, 5, 2] rfl rfl (.seq (.condP rfl hd (fun hb168 hd => ?_) fun hb168 hd => ?_))))))
 · refine .skipS [13, 12, 11, 5, 2] rfl rfl (.seq (.block (.seq (.region ?_))))
   obtain ⟨h178, x179, hx180, hd⟩ := hd
   obtain ⟨b181, o182, cs183, e184, hC185, hr186⟩ := R15.2 _ _ hx180
   cases hr186
   refine .ixa underlying24 sizeOf3 rfl e184 rfl h178 (idx_lt hx180 h178) rfl rfl (.ld1 (j := 0) isAgg3 hC185 rfl rfl rfl rfl rfl (.skips 1 rfl (.nilS [7, 13, 12, 11, 5, 2] rfl rfl (.seq (.region (.loadW isAgg30 sizeOf30 rfl .z rfl rfl rfl (.skips 1 rfl ?_)))))))
   have hw192 := W_dcsc_place (I := I163) R48 R51 R54 R57 hd
   refine .callP call37 rfl hw192 rfl rfl fun v193 hv194 => ?_
   obtain ⟨r191, rfl, hd⟩ := hv194
   refine .skips 1 rfl (.nilS [8, 13, 12, 11, 5, 2] rfl rfl (.seq (.region (.skips 1 rfl (.ge rfl rfl rfl rfl (.nilS [21, 8, 13, 12, 11, 5, 2] rfl rfl (.condP rfl hd (fun hb195 hd => ?_) fun hb195 hd => ?_)))))))
   · refine .draw [some 0, some 1, some 2, some 3, some 4, some 5, some 6, some 7, some 8, some 9, some 10, some 11, some 12, some 13] 14 MX (by kernel_rfl) (by kernel_rfl) (by kernel_rfl) (by kernel_rfl) (by kernel_rfl) (by kernel_rfl) (by kernel_rfl) (fun ex => (pto b18 (.cells #[.int .i64 r40.Rows, .int .i64 r40.Cols, .slice p46 r40.At.length c47, .slice p49 r40.Start.length c50, .slice p52 r40.Row.length c53, .slice p55 r40.Val.length c56] 30 (0, 0))) :: ex) (fun _ _ => (.s .z)) rfl (.fs [[]] rfl (by kernel_rfl) (.f [] rfl (by kernel_rfl) rfl rfl (fun ex => .fieldAddr underlying30 rfl sizeOf24 rfl (o := 3) rfl rfl rfl .mk) (.f [1] rfl (by kernel_rfl) rfl rfl (fun ex => .load1 isAgg24 rfl .z rfl rfl rfl .mk) (.fs [[]] rfl (by kernel_rfl) (.f [3] rfl (by kernel_rfl) rfl rfl (fun ex => .add rfl rfl rfl rfl .mk) ?_)))))
     obtain ⟨h196, x197, hx198, hd⟩ := hd
     obtain ⟨b199, o200, cs201, e202, hC203, hr204⟩ := R51.2 _ _ hx198
     cases hr204
     refine .f [2, 4] rfl (by kernel_rfl) rfl rfl (fun ex => .ixa underlying24 sizeOf3 rfl e202 rfl h196 (idx_lt hx198 h196) rfl rfl .mk) (.f [5] rfl (by kernel_rfl) rfl rfl (fun ex => .ld1 (j := 0) isAgg3 hC203 rfl rfl rfl rfl rfl .mk) (.f [] rfl (by kernel_rfl) rfl rfl (fun ex => .fieldAddr underlying30 rfl sizeOf24 rfl (o := 3) rfl rfl rfl .mk) (.f [7] rfl (by kernel_rfl) rfl rfl (fun ex => .load1 isAgg24 rfl .z rfl rfl rfl .mk) (.fs [[]] rfl (by kernel_rfl) ?_))))
     obtain ⟨h205, x206, hx207, hd⟩ := hd
     obtain ⟨b208, o209, cs210, e211, hC212, hr213⟩ := R51.2 _ _ hx207
     cases hr213
     refine .f [8, 9] rfl (by kernel_rfl) rfl rfl (fun ex => .ixa underlying24 sizeOf3 rfl e211 rfl h205 (idx_lt hx207 h205) rfl rfl .mk) (.f [10] rfl (by kernel_rfl) rfl rfl (fun ex => .ld1 (j := 0) isAgg3 hC212 rfl rfl rfl rfl rfl .mk) (.f [6, 11] rfl (by kernel_rfl) rfl rfl (fun ex => .sub' rfl rfl rfl rfl .mk) (.f [0, 12] rfl (by kernel_rfl) rfl rfl (fun ex => .add rfl rfl rfl rfl .mk) (.e 14 (by kernel_rfl) (by kernel_rfl) (by kernel_rfl) (.sub (E' := [(2, _), (11, _), (12, _), (13, _), (8, _), (21, _), (22, _), (23, _), (24, _), (25, _), (26, _), (27, _), (28, _), (29, _), (30, _), (31, _), (32, _), (33, _), (34, _), (35, _)]) ⟨rfl, rfl, rfl, rfl, rfl, rfl, rfl, rfl, rfl, rfl, rfl, rfl, rfl, rfl, rfl, rfl, rfl, rfl, rfl, rfl, trivial⟩ (.skips 1 rfl (.nilS [5, 13, 12, 11, 2] rfl rfl (.region (.add rfl rfl rfl rfl ?_)))))))))
     exact .sub (E' := [(2, _), (11, _), (12, _), (5, _), (36, _)]) ⟨rfl, rfl, rfl, rfl, rfl, trivial⟩ (.skips 1 rfl (.nil' fun c w ho hs => ⟨(w64 (s160 + (w64 (x197 - x206))), w64 (s161 + 1)), hd, I163, le166, ho.sub ⟨rfl, rfl, rfl, rfl, rfl, trivial⟩, hs.pick (.c .z .n)⟩))
   exact .skipS [13, 12, 11, 5, 2] rfl rfl (.region (.add rfl rfl rfl rfl (.sub (E' := [(2, _), (5, _), (11, _), (12, _), (36, _)]) ⟨rfl, rfl, rfl, rfl, rfl, trivial⟩ (.skips 1 rfl (.nil' fun c w ho hs => ⟨(s160, w64 (s161 + 1)), hd, I163, le166, ho.sub ⟨rfl, rfl, rfl, rfl, rfl, trivial⟩, hs.pick (.c .z .n)⟩)))))
 exact .exitS [5] rfl rfl (.drop .z (.seq (.region (.skips 2 rfl (.nilS [4] rfl rfl (.ret (pret results19 (.t rfl .n) le165 ⟨s160, rfl, hd⟩)))))))

theorem W_law08_live {I : IH}   {Q : Bool → Prop}  (hd : law08_live Q) :
    PFun Try.prog 8 [] I (fun I_ v => ∃ r, v = .bool r ∧ Q r) := by
 refine Fun.enter func8 rfl ntmps8 rfl .n fun w0 M => ?_
 refine .seq (.region (.skips 1 rfl (.nilS [] rfl rfl (.seq (.region (.build zeroValue49 underlying49 BI49 (.c rfl rfl rfl (.t .nil) (.c rfl rfl rfl (.s (.t .nil)) (.c rfl rfl rfl (.s (.s (.t .nil))) .n))) (by exact ⟨⟨_, _, rfl, rfl, rfl⟩, ⟨⟨_, _, rfl, rfl, rfl⟩, ⟨⟨_, _, rfl, rfl, rfl⟩, trivial⟩⟩⟩) rfl rfl (.buildSlice 1 underlying23 sizeOf49 zeroValue49 rfl rfl (.c rfl rfl rfl .n) rfl rfl fun b26 => ?_)))))))
 refine .pubB (El := eTriple) (ys := ([({ Row := 1, Col := 700, Val := 4 } : Triple)] : List Triple)) (k := 1) .z (.one rfl) rfl fun I28 hl29 R30 => ?_
 have le31 := IH.le.trans (.refl _) hl29
 have hw47 := W_ref07_Of (I := I28) R30 hd
 refine .call call22 rfl hw47 rfl rfl fun v36 I33 hl34 hv35 => ?_
 obtain ⟨r32, p38, c39, p41, c42, p44, c45, rfl, R40, R43, R46, hd⟩ := hv35
 have le48 := IH.le.trans le31 hl34
 replace R30 := R30.mono hl34
 refine .skips 1 rfl (.extract rfl rfl rfl rfl (.extract rfl rfl rfl rfl (.allocA zeroValue27 rfl rfl fun b49 => ?_)))
 refine .storeA sizeOf27 rfl rfl .z (.t (.t (.t (.t (.t .nil))))) rfl rfl (.skips 1 rfl (.nilS [1] rfl rfl (.seq (.region (.loadW isAgg27 sizeOf27 rfl .z rfl rfl rfl ?_)))))
 have hw91 := W_dcsc_Of (I := I33) R40 R43 R46 hd
 refine .call call7 rfl hw91 rfl rfl fun v77 I74 hl75 hv76 => ?_
 obtain ⟨r73, p79, c80, p82, c83, p85, c86, p88, c89, rfl, R81, R84, R87, R90, hd⟩ := hv76
 have le92 := IH.le.trans le48 hl75
 replace R40 := R40.mono hl75
 replace R43 := R43.mono hl75
 replace R46 := R46.mono hl75
 refine .allocA zeroValue30 rfl rfl fun b93 => ?_
 refine .storeA sizeOf30 rfl rfl .z (.t (.t (.t (.t (.t (.t .nil)))))) rfl rfl (.nilS [3, 1] rfl rfl (.seq (.region (.loadW isAgg30 sizeOf30 rfl .z rfl rfl rfl ?_))))
 have hw115 := W_dcsc_Column (I := I74) R81 R84 R87 R90 hd
 refine .call call14 rfl hw115 rfl rfl fun v110 I107 hl108 hv109 => ?_
 obtain ⟨r106, p112, c113, rfl, R114, hd⟩ := hv109
 have le116 := IH.le.trans le92 hl108
 replace R40 := R40.mono hl108
 replace R43 := R43.mono hl108
 replace R46 := R46.mono hl108
 replace R81 := R81.mono hl108
 replace R84 := R84.mono hl108
 replace R87 := R87.mono hl108
 replace R90 := R90.mono hl108
 refine .skips 1 rfl (.nilS [4, 3, 1] rfl rfl (.seq (.draw [some 0, some 1, some 2, some 3, some 4, some 5, some 6, some 7, some 8, some 9, some 10, some 11, some 12, some 13, some 14, some 15, some 16, some 17, some 18, some 19, some 20, some 21, some 22, some 23, some 24, some 25, some 26, some 27, some 29, some 28, some 30, some 31, some 32, some 33, some 34, some 35, some 36, some 37, some 38, some 39, some 40, some 41, some 42, some 43, some 44, some 45, some 46, some 47, some 48, some 49, some 50, some 51, some 52, some 53, some 54, some 55, some 56, some 57] 58 MX (by kernel_rfl) (by kernel_rfl) (by kernel_rfl) (by kernel_rfl) (by kernel_rfl) (by kernel_rfl) (by kernel_rfl) (fun ex => (pto b93 (.cells #[.int .i64 r73.Rows, .int .i64 r73.Cols, .slice p79 r73.At.length c80, .slice p82 r73.Start.length c83, .slice p85 r73.Row.length c86, .slice p88 r73.Val.length c89] 30 (0, 0))) :: (pto b49 (.cells #[.int .i64 r32.1.Rows, .int .i64 r32.1.Cols, .slice p38 r32.1.Start.length c39, .slice p41 r32.1.Col.length c42, .slice p44 r32.1.Val.length c45] 27 (0, 0))) :: ex) (fun _ _ => (.s (.s .z))) rfl (.f [] rfl (by kernel_rfl) rfl rfl (fun ex => .loadW isAgg30 sizeOf30 rfl .z rfl rfl rfl .mk) (.w [] [[]] [0] rfl (by kernel_rfl) (by kernel_rfl) (by kernel_rfl) ((dropE_kept rfl rfl)) (.inr (dropE_kept rfl rfl)) fun ex => ?_)))))
 have hw118 := W_dcsc_Many (I := I107) R81 R84 R87 R90 hd
 refine .callP call17 rfl hw118 rfl rfl fun v119 hv120 => ?_
 obtain ⟨r117, rfl, hd⟩ := hv120
 refine .some (fun ex => (pto b93 (.cells #[.int .i64 r73.Rows, .int .i64 r73.Cols, .slice p79 r73.At.length c80, .slice p82 r73.Start.length c83, .slice p85 r73.Row.length c86, .slice p88 r73.Val.length c89] 30 (0, 0))) :: (pto b49 (.cells #[.int .i64 r32.1.Rows, .int .i64 r32.1.Cols, .slice p38 r32.1.Start.length c39, .slice p41 r32.1.Col.length c42, .slice p44 r32.1.Val.length c45] 27 (0, 0))) :: ex) rfl (fun _ _ => (.s (.s .z))) rfl trivial (.f [1] rfl (by kernel_rfl) rfl rfl (fun ex => .eq rfl rfl rfl rfl .mk) (.fs [[2, 1]] rfl (by kernel_rfl) ?_))
 refine splitP hd (fun hb121 hd => ?_) fun hb121 hd => ?_
 · refine .f [3] rfl (by kernel_rfl) rfl rfl (fun ex => .gyes rfl rfl hb121 (.loadW isAgg30 sizeOf30 rfl .z rfl rfl rfl .mk)) (.w [] [[], [], [3]] [4, 3, 3] rfl (by kernel_rfl) (by kernel_rfl) (by kernel_rfl) ((dropE_kept rfl rfl)) (.inr (dropE_kept rfl rfl)) fun ex => ?_)
   have hw123 := W_dcsc_Count (I := I107) R81 R84 R87 R90 hd
   refine .gyes rfl rfl hb121 (.callP call18 rfl hw123 rfl rfl fun v124 hv125 => ?_)
   obtain ⟨r122, rfl, hd⟩ := hv125
   refine .some (fun ex => (pto b93 (.cells #[.int .i64 r73.Rows, .int .i64 r73.Cols, .slice p79 r73.At.length c80, .slice p82 r73.Start.length c83, .slice p85 r73.Row.length c86, .slice p88 r73.Val.length c89] 30 (0, 0))) :: (pto b49 (.cells #[.int .i64 r32.1.Rows, .int .i64 r32.1.Cols, .slice p38 r32.1.Start.length c39, .slice p41 r32.1.Col.length c42, .slice p44 r32.1.Val.length c45] 27 (0, 0))) :: ex) rfl (fun _ _ => (.s (.s .z))) rfl trivial (.f [5, 3] rfl (by kernel_rfl) rfl rfl (fun ex => .gyes rfl rfl hb121 (.eq rfl rfl rfl rfl .mk)) (.f [3, 6] rfl (by kernel_rfl) rfl rfl (fun ex => .pickT rfl hb121 rfl rfl rfl .mk) (.fs [[7, 5]] rfl (by kernel_rfl) ?_)))
   refine splitP hd (fun hb126 hd => ?_) fun hb126 hd => ?_
   · refine .f [8] rfl (by kernel_rfl) rfl rfl (fun ex => .gyes rfl rfl hb126 (.move rfl rfl rfl .mk)) (.f [9, 8] rfl (by kernel_rfl) rfl rfl (fun ex => .gyes rfl rfl hb126 (.len underlying39 rfl rfl rfl rfl .mk)) (.f [10, 8] rfl (by kernel_rfl) rfl rfl (fun ex => .gyes rfl rfl hb126 (.eq rfl rfl rfl rfl .mk)) (.f [8, 11] rfl (by kernel_rfl) rfl rfl (fun ex => .pickT rfl hb126 rfl rfl rfl .mk) (.fs [[12, 8]] rfl (by kernel_rfl) ?_))))
     refine splitP hd (fun hb127 hd => ?_) fun hb127 hd => ?_
     · refine .f [13] rfl (by kernel_rfl) rfl rfl (fun ex => .gyes rfl rfl hb127 (.move rfl rfl rfl .mk)) ?_
       obtain ⟨h128, x129, hx130, hd⟩ := hd
       obtain ⟨b131, o132, cs133, e134, hC135, hr136⟩ := R114.2 _ _ hx130
       cases hr136
       refine .f [14, 13] rfl (by kernel_rfl) rfl rfl (fun ex => .gyes rfl rfl hb127 (.ixa underlying39 sizeOf59 rfl e134 rfl h128 (idx_lt hx130 h128) rfl rfl .mk)) (.f [15, 13] rfl (by kernel_rfl) rfl rfl (fun ex => .gyes rfl rfl hb127 (.ldW isAgg59 sizeOf59 hC135 rfl rfl rfl rfl .mk)) (.f [13] rfl (by kernel_rfl) rfl rfl (fun ex => .gyes rfl rfl hb127 (.build zeroValue59 underlying59 BI59 (.c rfl rfl rfl (.t .nil) (.c rfl rfl rfl (.s (.t .nil)) .n)) (by exact ⟨⟨_, _, rfl, rfl, rfl⟩, ⟨⟨_, _, rfl, rfl, rfl⟩, trivial⟩⟩) rfl rfl .mk)) (.f [16, 17, 13] rfl (by kernel_rfl) rfl rfl (fun ex => .gyes rfl rfl hb127 (.eqV rfl rfl (EQ59 x129 ({ At := 1, Val := 4 } : Item)) (EG59 _ _ _ _ _) rfl rfl rfl .mk)) (.f [13, 18] rfl (by kernel_rfl) rfl rfl (fun ex => .pickT rfl hb127 rfl rfl rfl .mk) (.fs [[19, 13]] rfl (by kernel_rfl) ?_)))))
       refine splitP hd (fun hb137 hd => ?_) fun hb137 hd => ?_
       · refine .f [20] rfl (by kernel_rfl) rfl rfl (fun ex => .gyes rfl rfl hb137 (.loadW isAgg30 sizeOf30 rfl .z rfl rfl rfl .mk)) (.w [] [[], [], [20], [19, 20], [18, 19, 20], [18, 19, 20], [16, 18, 19, 20], [15, 16, 18, 19, 20], [20], [13, 20], [12, 13, 20], [11, 12, 13, 20], [10, 11, 12, 13, 20], [13, 20], [8, 13, 20], [7, 8, 13, 20]] [21, 20, 20] rfl (by kernel_rfl) (by kernel_rfl) (by kernel_rfl) ((dropE_kept rfl rfl)) (.inr (dropE_kept rfl rfl)) fun ex => ?_)
         have hw147 := W_dcsc_Column (I := I107) R81 R84 R87 R90 hd
         refine .gyes rfl rfl hb137 (.call call14 rfl hw147 rfl rfl fun v142 I139 hl140 hv141 => ?_)
         obtain ⟨r138, p144, c145, rfl, R146, hd⟩ := hv141
         have le148 := IH.le.trans le116 hl140
         replace R40 := R40.mono hl140
         replace R43 := R43.mono hl140
         replace R46 := R46.mono hl140
         replace R81 := R81.mono hl140
         replace R84 := R84.mono hl140
         replace R87 := R87.mono hl140
         replace R90 := R90.mono hl140
         replace R114 := R114.mono hl140
         replace hC135 := hC135.mono hl140
         refine .some (fun ex => (pto b93 (.cells #[.int .i64 r73.Rows, .int .i64 r73.Cols, .slice p79 r73.At.length c80, .slice p82 r73.Start.length c83, .slice p85 r73.Row.length c86, .slice p88 r73.Val.length c89] 30 (0, 0))) :: (pto b49 (.cells #[.int .i64 r32.1.Rows, .int .i64 r32.1.Cols, .slice p38 r32.1.Start.length c39, .slice p41 r32.1.Col.length c42, .slice p44 r32.1.Val.length c45] 27 (0, 0))) :: ex) rfl (fun _ _ => (.s (.s .z))) rfl trivial (.f [22, 20] rfl (by kernel_rfl) rfl rfl (fun ex => .gyes rfl rfl hb137 (.len underlying39 rfl rfl rfl rfl .mk)) (.f [23, 20] rfl (by kernel_rfl) rfl rfl (fun ex => .gyes rfl rfl hb137 (.eq rfl rfl rfl rfl .mk)) (.f [20, 24] rfl (by kernel_rfl) rfl rfl (fun ex => .pickT rfl hb137 rfl rfl rfl .mk) (.fs [[25, 22]] rfl (by kernel_rfl) ?_))))
         refine splitP hd (fun hb149 hd => ?_) fun hb149 hd => ?_
         · refine .f [26] rfl (by kernel_rfl) rfl rfl (fun ex => .gyes rfl rfl hb149 (.loadW isAgg30 sizeOf30 rfl .z rfl rfl rfl .mk)) (.f [26] rfl (by kernel_rfl) rfl rfl (fun ex => .gyes rfl rfl hb149 (.loadW isAgg27 sizeOf27 rfl (.s .z) rfl rfl rfl .mk)) (.w [29] [[], [], [26], [25, 26], [24, 25, 26]] [27, 26, 26] rfl (by kernel_rfl) (by kernel_rfl) (by kernel_rfl) ((dropE_kept rfl rfl)) (.inr (dropE_kept rfl rfl)) fun ex => ?_))
           have hw165 := W_dcsc_Back (I := I139) R81 R84 R87 R90 hd
           refine .gyes rfl rfl hb149 (.call call11 rfl hw165 rfl rfl fun v154 I151 hl152 hv153 => ?_)
           obtain ⟨r150, p156, c157, p159, c160, p162, c163, rfl, R158, R161, R164, hd⟩ := hv153
           have le166 := IH.le.trans le148 hl152
           replace R40 := R40.mono hl152
           replace R43 := R43.mono hl152
           replace R46 := R46.mono hl152
           replace R81 := R81.mono hl152
           replace R84 := R84.mono hl152
           replace R87 := R87.mono hl152
           replace R90 := R90.mono hl152
           replace R114 := R114.mono hl152
           replace hC135 := hC135.mono hl152
           replace R146 := R146.mono hl152
           refine .some (fun ex => (pto b93 (.cells #[.int .i64 r73.Rows, .int .i64 r73.Cols, .slice p79 r73.At.length c80, .slice p82 r73.Start.length c83, .slice p85 r73.Row.length c86, .slice p88 r73.Val.length c89] 30 (0, 0))) :: (pto b49 (.cells #[.int .i64 r32.1.Rows, .int .i64 r32.1.Cols, .slice p38 r32.1.Start.length c39, .slice p41 r32.1.Col.length c42, .slice p44 r32.1.Val.length c45] 27 (0, 0))) :: ex) rfl (fun _ _ => (.s (.s .z))) rfl (.cc [26] rfl (by kernel_rfl) rfl rfl rfl (fun ex => .gyes rfl rfl hb149 (.loadW isAgg27 sizeOf27 rfl (.s .z) rfl rfl rfl .mk)) trivial) (.w [] [[]] [28, 29, 28, 26] rfl (by kernel_rfl) (by kernel_rfl) (by kernel_rfl) ((dropE_kept rfl rfl)) (.inr (dropE_kept rfl rfl)) fun ex => ?_)
           have hw168 := W_ref07_Same (I := I151) R158 R161 R164 R40 R43 R46 hd
           refine .gyes rfl rfl hb149 (.callP call10 rfl hw168 rfl rfl fun v169 hv170 => ?_)
           obtain ⟨r167, rfl, hd⟩ := hv170
           refine .some (fun ex => (pto b93 (.cells #[.int .i64 r73.Rows, .int .i64 r73.Cols, .slice p79 r73.At.length c80, .slice p82 r73.Start.length c83, .slice p85 r73.Row.length c86, .slice p88 r73.Val.length c89] 30 (0, 0))) :: (pto b49 (.cells #[.int .i64 r32.1.Rows, .int .i64 r32.1.Cols, .slice p38 r32.1.Start.length c39, .slice p41 r32.1.Col.length c42, .slice p44 r32.1.Val.length c45] 27 (0, 0))) :: ex) rfl (fun _ _ => (.s (.s .z))) rfl trivial (.f [26, 30] rfl (by kernel_rfl) rfl rfl (fun ex => .pickT rfl hb149 rfl rfl rfl .mk) (.fs [[31, 30]] rfl (by kernel_rfl) ?_))
           refine splitP hd (fun hb171 hd => ?_) fun hb171 hd => ?_
           · refine .f [32] rfl (by kernel_rfl) rfl rfl (fun ex => .gyes rfl rfl hb171 (.loadW isAgg30 sizeOf30 rfl .z rfl rfl rfl .mk)) (.w [] [[], [], [32]] [33, 32, 32] rfl (by kernel_rfl) (by kernel_rfl) (by kernel_rfl) ((dropE_kept rfl rfl)) (.inr (dropE_kept rfl rfl)) fun ex => ?_)
             have hw173 := W_dcsc_Right (I := I151) R81 R84 R87 R90 hd
             refine .gyes rfl rfl hb171 (.callP call9 rfl hw173 rfl rfl fun v174 hv175 => ?_)
             obtain ⟨r172, rfl, hd⟩ := hv175
             refine .some (fun ex => (pto b93 (.cells #[.int .i64 r73.Rows, .int .i64 r73.Cols, .slice p79 r73.At.length c80, .slice p82 r73.Start.length c83, .slice p85 r73.Row.length c86, .slice p88 r73.Val.length c89] 30 (0, 0))) :: (pto b49 (.cells #[.int .i64 r32.1.Rows, .int .i64 r32.1.Cols, .slice p38 r32.1.Start.length c39, .slice p41 r32.1.Col.length c42, .slice p44 r32.1.Val.length c45] 27 (0, 0))) :: ex) rfl (fun _ _ => (.s (.s .z))) rfl trivial (.f [32, 34] rfl (by kernel_rfl) rfl rfl (fun ex => .pickT rfl hb171 rfl rfl rfl .mk) (.fs [[35, 34]] rfl (by kernel_rfl) ?_))
             refine splitP hd (fun hb176 hd => ?_) fun hb176 hd => ?_
             · refine .f [36] rfl (by kernel_rfl) rfl rfl (fun ex => .gyes rfl rfl hb176 (.build zeroValue30 underlying30 BI30 .n (by exact trivial) rfl rfl .mk)) (.w [] [[], [], [36]] [37, 36, 36] rfl (by kernel_rfl) (by kernel_rfl) (by kernel_rfl) ((dropE_kept rfl rfl)) (.inr (dropE_kept rfl rfl)) fun ex => ?_)
               have hw178 := W_dcsc_Right (I := I151) (.nil _ none 0) (.nil _ none 0) (.nil _ none 0) (.nil _ none 0) hd
               refine .gyes rfl rfl hb176 (.callP call9 rfl hw178 rfl rfl fun v179 hv180 => ?_)
               obtain ⟨r177, rfl, hd⟩ := hv180
               refine .some (fun ex => (pto b93 (.cells #[.int .i64 r73.Rows, .int .i64 r73.Cols, .slice p79 r73.At.length c80, .slice p82 r73.Start.length c83, .slice p85 r73.Row.length c86, .slice p88 r73.Val.length c89] 30 (0, 0))) :: (pto b49 (.cells #[.int .i64 r32.1.Rows, .int .i64 r32.1.Cols, .slice p38 r32.1.Start.length c39, .slice p41 r32.1.Col.length c42, .slice p44 r32.1.Val.length c45] 27 (0, 0))) :: ex) rfl (fun _ _ => (.s (.s .z))) rfl trivial (.f [38, 36] rfl (by kernel_rfl) rfl rfl (fun ex => .gyes rfl rfl hb176 (.not rfl rfl rfl .mk)) (.f [36, 39] rfl (by kernel_rfl) rfl rfl (fun ex => .pickT rfl hb176 rfl rfl rfl .mk) (.fs [[40, 38]] rfl (by kernel_rfl) ?_)))
               refine splitP hd (fun hb181 hd => ?_) fun hb181 hd => ?_
               · refine .f [41] rfl (by kernel_rfl) rfl rfl (fun ex => .gyes rfl rfl hb181 (.loadW isAgg30 sizeOf30 rfl .z rfl rfl rfl .mk)) (.w [42] [[], [41], [40, 41]] [41] rfl (by kernel_rfl) (by kernel_rfl) (by kernel_rfl) ((dropE_kept rfl rfl)) (.inr (dropE_kept rfl rfl)) fun ex => ?_)
                 refine .gyes rfl rfl hb181 (.buildSlice 3 underlying24 sizeOf3 zeroValue3 rfl rfl (.c rfl rfl rfl (.c rfl rfl rfl (.c rfl rfl rfl .n))) rfl rfl fun b182 => ?_)
                 refine .some (fun ex => (pto b182 (.cells #[.int .i64 700, .int .i64 700, .int .i64 1] 3 (0, 0))) :: (pto b93 (.cells #[.int .i64 r73.Rows, .int .i64 r73.Cols, .slice p79 r73.At.length c80, .slice p82 r73.Start.length c83, .slice p85 r73.Row.length c86, .slice p88 r73.Val.length c89] 30 (0, 0))) :: (pto b49 (.cells #[.int .i64 r32.1.Rows, .int .i64 r32.1.Cols, .slice p38 r32.1.Start.length c39, .slice p41 r32.1.Col.length c42, .slice p44 r32.1.Val.length c45] 27 (0, 0))) :: ex) rfl (fun _ _ => (.s (.s (.s .z)))) rfl (.cc [41] rfl (by kernel_rfl) rfl rfl rfl (fun ex => .gyes rfl rfl hb181 (.loadW isAgg30 sizeOf30 rfl (.s .z) rfl rfl rfl .mk)) trivial) (.w [] [[]] [42, 43, 41, 41] rfl (by kernel_rfl) (by kernel_rfl) (by kernel_rfl) ((dropE_kept rfl rfl)) (.inr (dropE_kept rfl rfl)) fun ex => ?_)
                 refine .pubB (El := eI64) (ys := ([700, 700, 1] : List Int)) (k := 3) .z (RepCs.cons (cs := [.int .i64 700]) rfl (RepCs.cons (cs := [.int .i64 700]) rfl (RepCs.cons (cs := [.int .i64 1]) rfl .nil))) rfl fun I184 hl185 R186 => ?_
                 have le187 := IH.le.trans le166 hl185
                 replace R40 := R40.mono hl185
                 replace R43 := R43.mono hl185
                 replace R46 := R46.mono hl185
                 replace R81 := R81.mono hl185
                 replace R84 := R84.mono hl185
                 replace R87 := R87.mono hl185
                 replace R90 := R90.mono hl185
                 replace R114 := R114.mono hl185
                 replace hC135 := hC135.mono hl185
                 replace R146 := R146.mono hl185
                 replace R158 := R158.mono hl185
                 replace R161 := R161.mono hl185
                 replace R164 := R164.mono hl185
                 have hw189 := W_dcsc_Work (I := I184) R81 R84 R87 R90 R186 hd
                 refine .gyes rfl rfl hb181 (.callP call19 rfl hw189 rfl rfl fun v190 hv191 => ?_)
                 obtain ⟨r188, rfl, hd⟩ := hv191
                 refine .some (fun ex => (pto b93 (.cells #[.int .i64 r73.Rows, .int .i64 r73.Cols, .slice p79 r73.At.length c80, .slice p82 r73.Start.length c83, .slice p85 r73.Row.length c86, .slice p88 r73.Val.length c89] 30 (0, 0))) :: (pto b49 (.cells #[.int .i64 r32.1.Rows, .int .i64 r32.1.Cols, .slice p38 r32.1.Start.length c39, .slice p41 r32.1.Col.length c42, .slice p44 r32.1.Val.length c45] 27 (0, 0))) :: ex) rfl (fun _ _ => (.s (.s .z))) rfl trivial (.f [44, 41] rfl (by kernel_rfl) rfl rfl (fun ex => .gyes rfl rfl hb181 (.eq rfl rfl rfl rfl .mk)) (.f [41, 45] rfl (by kernel_rfl) rfl rfl (fun ex => .pickT rfl hb181 rfl rfl rfl .mk) (.fs [[46, 44]] rfl (by kernel_rfl) ?_)))
                 refine splitP hd (fun hb192 hd => ?_) fun hb192 hd => ?_
                 · refine .f [47] rfl (by kernel_rfl) rfl rfl (fun ex => .gyes rfl rfl hb192 (.loadW isAgg30 sizeOf30 rfl .z rfl rfl rfl .mk)) (.f [47] rfl (by kernel_rfl) rfl rfl (fun ex => .gyes rfl rfl hb192 (.loadW isAgg30 sizeOf30 rfl .z rfl rfl rfl .mk)) (.w [] [[], [], [], [47], [46, 47]] [48, 49, 47, 47] rfl (by kernel_rfl) (by kernel_rfl) (by kernel_rfl) ((dropE_kept rfl rfl)) (.inr (dropE_kept rfl rfl)) fun ex => ?_))
                   have hw194 := W_dcsc_Same (I := I184) R81 R84 R87 R90 R81 R84 R87 R90 hd
                   refine .gyes rfl rfl hb192 (.callP call12 rfl hw194 rfl rfl fun v195 hv196 => ?_)
                   obtain ⟨r193, rfl, hd⟩ := hv196
                   refine .some (fun ex => (pto b93 (.cells #[.int .i64 r73.Rows, .int .i64 r73.Cols, .slice p79 r73.At.length c80, .slice p82 r73.Start.length c83, .slice p85 r73.Row.length c86, .slice p88 r73.Val.length c89] 30 (0, 0))) :: (pto b49 (.cells #[.int .i64 r32.1.Rows, .int .i64 r32.1.Cols, .slice p38 r32.1.Start.length c39, .slice p41 r32.1.Col.length c42, .slice p44 r32.1.Val.length c45] 27 (0, 0))) :: ex) rfl (fun _ _ => (.s (.s .z))) rfl trivial (.f [47, 50] rfl (by kernel_rfl) rfl rfl (fun ex => .pickT rfl hb192 rfl rfl rfl .mk) (.fs [[51, 50]] rfl (by kernel_rfl) ?_))
                   refine splitP hd (fun hb197 hd => ?_) fun hb197 hd => ?_
                   · refine .f [52] rfl (by kernel_rfl) rfl rfl (fun ex => .gyes rfl rfl hb197 (.loadW isAgg30 sizeOf30 rfl .z rfl rfl rfl .mk)) (.f [52] rfl (by kernel_rfl) rfl rfl (fun ex => .gyes rfl rfl hb197 (.build zeroValue30 underlying30 BI30 .n (by exact trivial) rfl rfl .mk)) (.w [] [[], [], [], [52]] [53, 54, 52, 52] rfl (by kernel_rfl) (by kernel_rfl) (by kernel_rfl) ((dropE_kept rfl rfl)) (.inr (dropE_kept rfl rfl)) fun ex => ?_))
                     have hw199 := W_dcsc_Same (I := I184) R81 R84 R87 R90 (.nil _ none 0) (.nil _ none 0) (.nil _ none 0) (.nil _ none 0) hd
                     refine .gyes rfl rfl hb197 (.callP call12 rfl hw199 rfl rfl fun v200 hv201 => ?_)
                     obtain ⟨r198, rfl, hd⟩ := hv201
                     exact .some (fun ex => (pto b93 (.cells #[.int .i64 r73.Rows, .int .i64 r73.Cols, .slice p79 r73.At.length c80, .slice p82 r73.Start.length c83, .slice p85 r73.Row.length c86, .slice p88 r73.Val.length c89] 30 (0, 0))) :: (pto b49 (.cells #[.int .i64 r32.1.Rows, .int .i64 r32.1.Cols, .slice p38 r32.1.Start.length c39, .slice p41 r32.1.Col.length c42, .slice p44 r32.1.Val.length c45] 27 (0, 0))) :: ex) rfl (fun _ _ => (.s (.s .z))) rfl trivial (.f [55, 52] rfl (by kernel_rfl) rfl rfl (fun ex => .gyes rfl rfl hb197 (.not rfl rfl rfl .mk)) (.f [52, 56] rfl (by kernel_rfl) rfl rfl (fun ex => .pickT rfl hb197 rfl rfl rfl .mk) (.e 58 (by kernel_rfl) (by kernel_rfl) (by kernel_rfl) (.skips 1 rfl (.nilS [0] rfl rfl (.drop .z (.drop .z (.ret (pret results8 (.t rfl .n) le187 ⟨(!r198), rfl, hd⟩)))))))))
                   refine .f [52] rfl (by kernel_rfl) rfl rfl (fun ex => .gno rfl rfl hb197 rfl rfl .mk) (.f [52] rfl (by kernel_rfl) rfl rfl (fun ex => .gno rfl rfl hb197 rfl rfl .mk) (.f [53, 54, 52, 52] rfl (by kernel_rfl) rfl rfl (fun ex => .gno rfl rfl hb197 rfl rfl .mk) (.f [55, 52] rfl (by kernel_rfl) rfl rfl (fun ex => .gno rfl rfl hb197 rfl rfl .mk) (.f [52, 56] rfl (by kernel_rfl) rfl rfl (fun ex => .pickF rfl hb197 rfl rfl rfl .mk) (.e 58 (by kernel_rfl) (by kernel_rfl) (by kernel_rfl) (.skips 1 rfl (.nilS [0] rfl rfl (.drop .z (.drop .z ?_)))))))))
                   exact .ret (pret results8 (.t rfl .n) le187 ⟨false, rfl, hd⟩)
                 refine .f [47] rfl (by kernel_rfl) rfl rfl (fun ex => .gno rfl rfl hb192 rfl rfl .mk) (.f [47] rfl (by kernel_rfl) rfl rfl (fun ex => .gno rfl rfl hb192 rfl rfl .mk) (.f [48, 49, 47, 47] rfl (by kernel_rfl) rfl rfl (fun ex => .gno rfl rfl hb192 rfl rfl .mk) (.f [47, 50] rfl (by kernel_rfl) rfl rfl (fun ex => .pickF rfl hb192 rfl rfl rfl .mk) (.fs [[51, 50], [52], [52], [53, 54, 52, 52], [55, 52], [52, 56]] rfl (by kernel_rfl) (.e 58 (by kernel_rfl) (by kernel_rfl) (by kernel_rfl) (.skips 1 rfl (.nilS [0] rfl rfl (.drop .z (.drop .z ?_)))))))))
                 exact .ret (pret results8 (.t rfl .n) le187 ⟨false, rfl, hd⟩)
               refine .f [41] rfl (by kernel_rfl) rfl rfl (fun ex => .gno rfl rfl hb181 rfl rfl .mk) (.f [41] rfl (by kernel_rfl) rfl rfl (fun ex => .gno rfl rfl hb181 rfl rfl .mk) (.f [42, 43, 41, 41] rfl (by kernel_rfl) rfl rfl (fun ex => .gno rfl rfl hb181 rfl rfl .mk) (.f [44, 41] rfl (by kernel_rfl) rfl rfl (fun ex => .gno rfl rfl hb181 rfl rfl .mk) (.f [41, 45] rfl (by kernel_rfl) rfl rfl (fun ex => .pickF rfl hb181 rfl rfl rfl .mk) (.fs [[46, 44], [47], [47], [48, 49, 47, 47], [47, 50], [51, 50], [52], [52], [53, 54, 52, 52], [55, 52], [52, 56]] rfl (by kernel_rfl) (.e 58 (by kernel_rfl) (by kernel_rfl) (by kernel_rfl) (.skips 1 rfl (.nilS [0] rfl rfl (.drop .z ?_)))))))))
               exact .drop .z (.ret (pret results8 (.t rfl .n) le166 ⟨false, rfl, hd⟩))
             refine .f [36] rfl (by kernel_rfl) rfl rfl (fun ex => .gno rfl rfl hb176 rfl rfl .mk) (.f [37, 36, 36] rfl (by kernel_rfl) rfl rfl (fun ex => .gno rfl rfl hb176 rfl rfl .mk) (.f [38, 36] rfl (by kernel_rfl) rfl rfl (fun ex => .gno rfl rfl hb176 rfl rfl .mk) (.f [36, 39] rfl (by kernel_rfl) rfl rfl (fun ex => .pickF rfl hb176 rfl rfl rfl .mk) (.fs [[40, 38], [41], [41], [42, 43, 41, 41], [44, 41], [41, 45], [46, 44], [47], [47], [48, 49, 47, 47], [47, 50], [51, 50], [52], [52], [53, 54, 52, 52], [55, 52], [52, 56]] rfl (by kernel_rfl) (.e 58 (by kernel_rfl) (by kernel_rfl) (by kernel_rfl) (.skips 1 rfl (.nilS [0] rfl rfl (.drop .z (.drop .z ?_)))))))))
             exact .ret (pret results8 (.t rfl .n) le166 ⟨false, rfl, hd⟩)
           exact .f [32] rfl (by kernel_rfl) rfl rfl (fun ex => .gno rfl rfl hb171 rfl rfl .mk) (.f [33, 32, 32] rfl (by kernel_rfl) rfl rfl (fun ex => .gno rfl rfl hb171 rfl rfl .mk) (.f [32, 34] rfl (by kernel_rfl) rfl rfl (fun ex => .pickF rfl hb171 rfl rfl rfl .mk) (.fs [[35, 34], [36], [37, 36, 36], [38, 36], [36, 39], [40, 38], [41], [41], [42, 43, 41, 41], [44, 41], [41, 45], [46, 44], [47], [47], [48, 49, 47, 47], [47, 50], [51, 50], [52], [52], [53, 54, 52, 52], [55, 52], [52, 56]] rfl (by kernel_rfl) (.e 58 (by kernel_rfl) (by kernel_rfl) (by kernel_rfl) (.skips 1 rfl (.nilS [0] rfl rfl (.drop .z (.drop .z (.ret (pret results8 (.t rfl .n) le166 ⟨false, rfl, hd⟩))))))))))
         refine .f [26] rfl (by kernel_rfl) rfl rfl (fun ex => .gno rfl rfl hb149 rfl rfl .mk) (.f [26] rfl (by kernel_rfl) rfl rfl (fun ex => .gno rfl rfl hb149 rfl rfl .mk) (.f [27, 26, 26] rfl (by kernel_rfl) rfl rfl (fun ex => .gno rfl rfl hb149 rfl rfl .mk) (.f [28, 29, 28, 26] rfl (by kernel_rfl) rfl rfl (fun ex => .gno rfl rfl hb149 rfl rfl .mk) (.f [26, 30] rfl (by kernel_rfl) rfl rfl (fun ex => .pickF rfl hb149 rfl rfl rfl .mk) (.fs [[31, 30], [32], [33, 32, 32], [32, 34], [35, 34], [36], [37, 36, 36], [38, 36], [36, 39], [40, 38], [41], [41], [42, 43, 41, 41], [44, 41], [41, 45], [46, 44], [47], [47], [48, 49, 47, 47], [47, 50], [51, 50], [52], [52], [53, 54, 52, 52], [55, 52], [52, 56]] rfl (by kernel_rfl) (.e 58 (by kernel_rfl) (by kernel_rfl) (by kernel_rfl) (.skips 1 rfl (.nilS [0] rfl rfl (.drop .z ?_)))))))))
         exact .drop .z (.ret (pret results8 (.t rfl .n) le148 ⟨false, rfl, hd⟩))
       refine .f [20] rfl (by kernel_rfl) rfl rfl (fun ex => .gno rfl rfl hb137 rfl rfl .mk) (.f [21, 20, 20] rfl (by kernel_rfl) rfl rfl (fun ex => .gno rfl rfl hb137 rfl rfl .mk) (.f [22, 20] rfl (by kernel_rfl) rfl rfl (fun ex => .gno rfl rfl hb137 rfl rfl .mk) (.f [23, 20] rfl (by kernel_rfl) rfl rfl (fun ex => .gno rfl rfl hb137 rfl rfl .mk) (.f [20, 24] rfl (by kernel_rfl) rfl rfl (fun ex => .pickF rfl hb137 rfl rfl rfl .mk) (.fs [[25, 22], [26], [26], [27, 26, 26], [28, 29, 28, 26], [26, 30], [31, 30], [32], [33, 32, 32], [32, 34], [35, 34], [36], [37, 36, 36], [38, 36], [36, 39], [40, 38], [41], [41], [42, 43, 41, 41], [44, 41], [41, 45], [46, 44], [47], [47], [48, 49, 47, 47], [47, 50], [51, 50], [52], [52], [53, 54, 52, 52], [55, 52], [52, 56]] rfl (by kernel_rfl) (.e 58 (by kernel_rfl) (by kernel_rfl) (by kernel_rfl) (.skips 1 rfl (.nilS [0] rfl rfl (.drop .z ?_)))))))))
       exact .drop .z (.ret (pret results8 (.t rfl .n) le116 ⟨false, rfl, hd⟩))
     refine .f [13] rfl (by kernel_rfl) rfl rfl (fun ex => .gno rfl rfl hb127 rfl rfl .mk) (.f [14, 13] rfl (by kernel_rfl) rfl rfl (fun ex => .gno rfl rfl hb127 rfl rfl .mk) (.f [15, 13] rfl (by kernel_rfl) rfl rfl (fun ex => .gno rfl rfl hb127 rfl rfl .mk) (.f [13] rfl (by kernel_rfl) rfl rfl (fun ex => .gno rfl rfl hb127 rfl rfl .mk) (.f [16, 17, 13] rfl (by kernel_rfl) rfl rfl (fun ex => .gno rfl rfl hb127 rfl rfl .mk) (.f [13, 18] rfl (by kernel_rfl) rfl rfl (fun ex => .pickF rfl hb127 rfl rfl rfl .mk) (.fs [[19, 13], [20], [21, 20, 20], [22, 20], [23, 20], [20, 24], [25, 22], [26], [26], [27, 26, 26], [28, 29, 28, 26], [26, 30], [31, 30], [32], [33, 32, 32], [32, 34], [35, 34], [36], [37, 36, 36], [38, 36], [36, 39], [40, 38], [41], [41], [42, 43, 41, 41], [44, 41], [41, 45], [46, 44], [47], [47], [48, 49, 47, 47], [47, 50], [51, 50], [52], [52], [53, 54, 52, 52], [55, 52], [52, 56]] rfl (by kernel_rfl) (.e 58 (by kernel_rfl) (by kernel_rfl) (by kernel_rfl) (.skips 1 rfl (.nilS [0] rfl rfl ?_)))))))))
     exact .drop .z (.drop .z (.ret (pret results8 (.t rfl .n) le116 ⟨false, rfl, hd⟩)))
   refine .f [8] rfl (by kernel_rfl) rfl rfl (fun ex => .gno rfl rfl hb126 rfl rfl .mk) (.f [9, 8] rfl (by kernel_rfl) rfl rfl (fun ex => .gno rfl rfl hb126 rfl rfl .mk) (.f [10, 8] rfl (by kernel_rfl) rfl rfl (fun ex => .gno rfl rfl hb126 rfl rfl .mk) (.f [8, 11] rfl (by kernel_rfl) rfl rfl (fun ex => .pickF rfl hb126 rfl rfl rfl .mk) (.fs [[12, 8], [13], [14, 13], [15, 13], [13], [16, 17, 13], [13, 18], [19, 13], [20], [21, 20, 20], [22, 20], [23, 20], [20, 24], [25, 22], [26], [26], [27, 26, 26], [28, 29, 28, 26], [26, 30], [31, 30], [32], [33, 32, 32], [32, 34], [35, 34], [36], [37, 36, 36], [38, 36], [36, 39], [40, 38], [41], [41], [42, 43, 41, 41], [44, 41], [41, 45], [46, 44], [47], [47], [48, 49, 47, 47], [47, 50], [51, 50], [52], [52], [53, 54, 52, 52], [55, 52], [52, 56]] rfl (by kernel_rfl) (.e 58 (by kernel_rfl) (by kernel_rfl) (by kernel_rfl) (.skips 1 rfl (.nilS [0] rfl rfl (.drop .z (.drop .z ?_)))))))))
   exact .ret (pret results8 (.t rfl .n) le116 ⟨false, rfl, hd⟩)
 refine .f [3] rfl (by kernel_rfl) rfl rfl (fun ex => .gno rfl rfl hb121 rfl rfl .mk) (.f [4, 3, 3] rfl (by kernel_rfl) rfl rfl (fun ex => .gno rfl rfl hb121 rfl rfl .mk) (.f [5, 3] rfl (by kernel_rfl) rfl rfl (fun ex => .gno rfl rfl hb121 rfl rfl .mk) (.f [3, 6] rfl (by kernel_rfl) rfl rfl (fun ex => .pickF rfl hb121 rfl rfl rfl .mk) (.fs [[7, 5], [8], [9, 8], [10, 8], [8, 11], [12, 8], [13], [14, 13], [15, 13], [13], [16, 17, 13], [13, 18], [19, 13], [20], [21, 20, 20], [22, 20], [23, 20], [20, 24], [25, 22], [26], [26], [27, 26, 26], [28, 29, 28, 26], [26, 30], [31, 30], [32], [33, 32, 32], [32, 34], [35, 34], [36], [37, 36, 36], [38, 36], [36, 39], [40, 38], [41], [41], [42, 43, 41, 41], [44, 41], [41, 45], [46, 44], [47], [47], [48, 49, 47, 47], [47, 50], [51, 50], [52], [52], [53, 54, 52, 52], [55, 52], [52, 56]] rfl (by kernel_rfl) (.e 58 (by kernel_rfl) (by kernel_rfl) (by kernel_rfl) (.skips 1 rfl (.nilS [0] rfl rfl (.drop .z (.drop .z ?_)))))))))
 exact .ret (pret results8 (.t rfl .n) le116 ⟨false, rfl, hd⟩)

end Go.Proofs.Ytjobeiikppmidaa
