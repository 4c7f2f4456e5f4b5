/- The walks (printed by a program of ours). -/
import Derived.Test.YtmidnfbbnmigeaaGreatV2
namespace Go.Proofs.YtmidnfbbnmigeaaGreat
open Go Go.Fw
set_option linter.unusedVariables false
set_option linter.unusedSimpArgs false
set_option maxRecDepth 8000
set_option maxHeartbeats 1000000
open Tryz
theorem W_ref16_Direction {I : IH} {a0 : Int} {a1 : Int} {a2 : Int} {Q : Int → Prop}  (hd : ref16_Direction a0 a1 a2 Q) :
  PFun prog 9 [.int .i64 a0, .int .i64 a1, .int .i64 a2] I (fun _ => o0_ Q) := by
 refine Fun.enter func9 r ntmps9 r (.c (.c (.c .n))) fun w0 M => ?_
 refine .sr (.ks 1 r (.nilS [2, 1, 0] r r (.seq (.sr (.ks 3 r ?_)))))
 refine splitP hd (fun hb3 hd => ?_) fun hb3 hd => ?_
 · rw [hb3]
   exact .ks 3 r (.nilS [12, 2, 1, 0] r r (.condKT r r (.sr (.ks 2 r (.nilS [6] r r (.ret (pret results9 (.t r .n) (.refl _) ⟨a0, r, hd⟩)))))))
 rw [hb3]
 refine .ks 3 r (.nilS [12, 2, 1, 0] r r (.condP r hd (fun hb4 hd => ?_) fun hb4 hd => ?_))
 · exact .sr (.ks 2 r (.nilS [6] r r (.ret (pret results9 (.t r .n) (.refl _) ⟨a0, r, hd⟩))))
 refine .skipS [2, 1] r r (.seq (.sr (.ks 2 r (.quo r r (by decide) r r (.ks 1 r (.nilS [17] r r (.condP r hd (fun hb5 hd => ?_) fun hb5 hd => ?_)))))))
 · exact .sr (.ks 1 r (.nilS [6] r r (.ret (pret results9 (.t r .n) (.refl _) ⟨1, r, hd⟩))))
 exact .skipS [] r r (.sr (.ks 1 r (.nilS [6] r r (.ret (pret results9 (.t r .n) (.refl _) ⟨2, r, hd⟩)))))

theorem W_law13_Right {I : IH} {a0 : Int} {Q : Int → Prop}  (hd : law13_Right a0 Q) :
  PFun prog 27 [.int .i64 a0] I (fun _ => o0_ Q) := by
 refine Fun.enter func27 r ntmps27 r (.c .n) fun w0 M => ?_
 refine .sr (.ks 1 r (.nilS [0] r r (.seq (.sr (.ks 3 r ?_)))))
 refine splitP hd (fun hb1 hd => ?_) fun hb1 hd => ?_
 · rw [hb1]
   exact .ks 3 r (.nilS [8, 0] r r (.condKT r r (.sr (.ks 1 r (.nilS [2] r r (.ret (pret results27 (.t r .n) (.refl _) ⟨1, r, hd⟩)))))))
 rw [hb1]
 refine .ks 3 r (.nilS [8, 0] r r (.condP r hd (fun hb2 hd => ?_) fun hb2 hd => ?_))
 · exact .sr (.ks 1 r (.nilS [2] r r (.ret (pret results27 (.t r .n) (.refl _) ⟨1, r, hd⟩))))
 exact .skipS [0] r r (.sr (.ks 2 r (.nilS [2] r r (.ret (pret results27 (.t r .n) (.refl _) ⟨a0, r, hd⟩)))))

theorem W_law07_Size {I : IH} {a0 : Int} {Q : Int → Prop}  (hd : law07_Size a0 Q) :
  PFun prog 35 [.int .u8 a0] I (fun _ => o0_ Q) := by
 refine Fun.enter func35 r ntmps35 r (.c .n) fun w0 M => ?_
 exact .sr (.ks 1 r (.nilS [0] r r (.sr (.ks 1 r (.conv underlying5 un3 r r r (.rem r r (by decide) r r (.ks 1 r (.nilS [2] r r (.ret (pret results35 (.t r .n) (.refl _) ⟨((w64 (a0)).tmod 40), r, hd⟩))))))))))

theorem W_law07_Few {I : IH} {a0 : List Triple} {p1 : Option Addr} {c2 : Nat} {Q : (List Triple) → Prop} (R3 : RepSl eTriple I p1 c2 a0) (hd : law07_Few a0 Q) :
  PFun prog 69 [.slice p1 a0.length c2] I (fun I_ v => ∃ r p4 c5, v = .slice p4 r.length c5 ∧ RepSl eTriple I_ p4 c5 r ∧ Q r) := by
 refine Fun.enter func69 r ntmps69 r (.c .n) fun w0 M => ?_
 refine .sr (.ks 1 r (.nilS [0] r r (.seq (.sr (.ks 1 r (.len un31 r r r r (.ks 1 r (.nilS [5, 0] r r (.condP r hd (fun hb7 hd => ?_) fun hb7 hd => ?_)))))))))
 · refine .region (.ks 1 r ?_)
   obtain ⟨h8, h9, h10, hd⟩ := hd
   have h16 : Int.toNat 0 ≤ Int.toNat 60 := by omega
   have h17 : Int.toNat 60 ≤ a0.length := by omega
   obtain ⟨p11, c12, e14, e15, R13⟩ := RepSl.sliceW R3 (Int.toNat 0) (Int.toNat 60) c2 h16 h17 (.inl rfl)
   exact .sliceW (L := Int.toNat 0) (H := Int.toNat 60) (cm := c2) un31 sz78 r r R3.1 r r r (.inl ⟨r, r⟩) (.inr ⟨_, _, r, (by omega), r⟩) (.inl r) h16 h17 r e14 e15 r r (.ks 1 r (.nilS [0] r r (.sr (.ks 2 r (.nilS [2] r r (.ret (pret results69 (.t r .n) (.refl _) ⟨((a0.take (Int.toNat 60)).drop (Int.toNat 0)), _, _, r, R13, hd⟩)))))))
 exact .skipS [0] r r (.sr (.ks 2 r (.nilS [2] r r (.ret (pret results69 (.t r .n) (.refl _) ⟨a0, _, _, r, R3, hd⟩)))))

theorem W_law07_Some {I : IH} {a0 : Int × Int} {a1 : List Triple} {p1 : Option Addr} {c2 : Nat} {Q : Rows → Prop} (R3 : RepSl eTriple I p1 c2 a1) (hd : law07_Some a0 a1 Q) :
  PFun prog 33 [.agg #[.int .u8 a0.1, .int .u8 a0.2], .slice p1 a1.length c2] I (o10_ Q) := by
 refine Fun.enter func33 r ntmps33 r (.c (.c .n)) fun w0 M => ?_
 refine .sr (.boxA r r r fun b17 => ?_)
 refine .allocA zv39 r r fun b19 => ?_
 refine .nilS [4, 2, 1] r r (.seq (.dr [0, 1, 3, 4, 2, 5, 6] 7 (.g r r r (fun _ => .ixArr (i := 0) underlying30 sizeOf5 r r (by decide) (o := 0) r r r .mk) (.g r r r (fun _ => .load1 isAgg5 r (.s .z) r r r .mk) (.g r r r (fun _ => .ixArr (i := 1) underlying30 sizeOf5 r r (by decide) (o := 1) r r r .mk) (.g r r r (fun _ => .load1 isAgg5 r (.s .z) r r r .mk) (.ww r fun ex => ?_)))))))
 have hw30 := W_law07_Size (I := I) hd
 refine .callP call35 r hw30 r r fun v31 hv32 => ?_
 obtain ⟨r29, rfl, hd⟩ := hv32
 refine .so 2 r r r (.cg r r r r (fun _ => .load1 isAgg5 r (.s .z) r r r .mk) (.cg r r r r (fun _ => .ixArr (i := 1) underlying30 sizeOf5 r r (by decide) (o := 1) r r r .mk) trivial)) (.ww r fun ex => ?_)
 have hw34 := W_law07_Size (I := I) hd
 refine .callP call35 r hw34 r r fun v35 hv36 => ?_
 obtain ⟨r33, rfl, hd⟩ := hv36
 refine .so 2 r r r trivial (.fk 1 r (.e2 7 (.ks 1 r (.nilS [6, 5, 4, 1] r r (.drop (.s .z) (.sr (.ks 1 r (.nilS [7, 6, 5, 4, 1] r r (.sr ?_)))))))))
 refine .ks 1 r ?_
 have hw56 := W_law07_Few (I := I) R3 hd
 refine .call call69 r hw56 r r fun v51 I48 hl49 hv50 => ?_
 obtain ⟨r47, p53, c54, rfl, R55, hd⟩ := hv50
 replace R3 := R3.mono hl49
 refine .ks 1 r (.nilS [1, 7, 6, 5, 4] r r (.seq (.sr (.ks 1 r (.nilS [8, 1, 7, 6, 5, 4] r r (.block (.own0 eTriple 78 (.loop hd (fun (s : (List Triple) × Int) c w => match s with | (s304, s308) => ∃ I_ p305 c306, IH.le I48 I_ ∧ Ok ⟨73, [], none⟩ [(1, .slice p53 r47.length c54), (4, .pointer (some ⟨b19, 0, none⟩)), (5, .int .i64 r29), (6, .int .i64 r33), (7, .slice p305 s304.length c306), (8, .int .i64 s308)] c ∧ Sym w0 M I I_ [pto b19 (.cells #[.int .i64 0, .int .i64 0, .slice none 0 0, .slice none 0 0, .slice none 0 0] 39 (0, 0)), OwnSl eTriple 78 p305 c306 s304] w) (fun c w ho hs => ⟨I48, _, _, (.refl _), ho.sub ⟨r, r, r, r, r, r, trivial⟩, hs.pick (.c (.s .z) (.c .z .n))⟩) ?_))))))))
 rintro ⟨s304, s308⟩ next310 hd c w hst
 obtain ⟨I311, p305, c306, hl312, hok, hsym⟩ := hst
 have le313 := IH.le.trans hl49 hl312
 replace R55 := R55.mono hl312
 refine Cod.at hok hsym (.seq (.sr (.ks 2 r (.len un31 r r r r (.ks 1 r (.nilS [23, 8, 7, 6, 5, 4, 1] r r (.condP r hd (fun hb315 hd => ?_) fun hb315 hd => ?_)))))))
 · refine .skipS [8, 7, 6, 5, 4, 1] r r (.seq (.block (.sr (.ks 2 r ?_))))
   obtain ⟨h327, x328, hx329, hd⟩ := hd
   obtain ⟨b330, o331, cs332, e333, hC334, hr335⟩ := R55.2 _ _ hx329
   cases hr335
   refine .ixa un31 sz78 r e333 r h327 (idx_lt hx329 h327) r r (.ldW isAgg78 sz78 hC334 r r r r (.allocA zv78 r r fun b336 => ?_))
   refine .storeA sz78 r r .z (.t (.t (.t .nil))) r r (.nilS [9, 8, 7, 6, 5, 4, 1] r r (.seq (.sr (.fa un78 r sz3 r (o := 0) r r r (.load1 ia3 r .z r r r (.ks 2 r ?_))))))
   refine splitP hd (fun hb342 hd => ?_) fun hb342 hd => ?_
   · rw [hb342]
     exact .ks 12 r (.nilS [45, 9, 8, 7, 6, 5, 4, 1] r r (.condKT r r (.exitS [8, 7, 6, 5, 4, 1] r r (.drop .z (.region (.ks 3 r (.nil' fun c w ho hs => ⟨(s304, w64 (s308 + 1)), hd, I311, _, _, hl312, ho.sub ⟨r, r, r, r, r, r, trivial⟩, hs.pick (.c .z (.c .z .n))⟩)))))))
   rw [hb342]
   refine .gyes r r r (.fa un78 r sz3 r (o := 1) r r r (.gyes r r r (.load1 ia3 r .z r r r (.ks 3 r ?_))))
   refine splitP hd (fun hb343 hd => ?_) fun hb343 hd => ?_
   · rw [hb343]
     exact .ks 7 r (.nilS [45, 9, 8, 7, 6, 5, 4, 1] r r (.condKT r r (.exitS [8, 7, 6, 5, 4, 1] r r (.drop .z (.region (.ks 3 r (.nil' fun c w ho hs => ⟨(s304, w64 (s308 + 1)), hd, I311, _, _, hl312, ho.sub ⟨r, r, r, r, r, r, trivial⟩, hs.pick (.c .z (.c .z .n))⟩)))))))
   rw [hb343]
   refine .ks 4 r ?_
   refine splitP hd (fun hb344 hd => ?_) fun hb344 hd => ?_
   · rw [hb344]
     exact .ks 3 r (.nilS [45, 9, 8, 7, 6, 5, 4, 1] r r (.condKT r r (.exitS [8, 7, 6, 5, 4, 1] r r (.drop .z (.region (.ks 3 r (.nil' fun c w ho hs => ⟨(s304, w64 (s308 + 1)), hd, I311, _, _, hl312, ho.sub ⟨r, r, r, r, r, r, trivial⟩, hs.pick (.c .z (.c .z .n))⟩)))))))
   rw [hb344]
   refine .ks 3 r (.nilS [45, 9, 8, 7, 6, 5, 4, 1] r r (.condP r hd (fun hb345 hd => ?_) fun hb345 hd => ?_))
   · exact .exitS [8, 7, 6, 5, 4, 1] r r (.drop .z (.region (.ks 3 r (.nil' fun c w ho hs => ⟨(s304, w64 (s308 + 1)), hd, I311, _, _, hl312, ho.sub ⟨r, r, r, r, r, r, trivial⟩, hs.pick (.c .z (.c .z .n))⟩))))
   refine .skipS [9, 8, 7, 6, 5, 4, 1] r r (.sr (.fa un78 r sz3 r (o := 0) r r r (.load1 ia3 r .z r r r (.ks 1 r ?_))))
   obtain ⟨hz347, hd⟩ := hd
   refine .rem r r hz347 r r (.fa un78 r sz3 r (o := 0) r r r (.store1 sz3 r r .z (.t .nil) r (.nilS [9, 8, 7, 6, 5, 4, 1] r r (.sr (.fa un78 r sz3 r (o := 1) r r r (.load1 ia3 r .z r r r (.ks 1 r ?_)))))))
   obtain ⟨hz348, hd⟩ := hd
   refine .rem r r hz348 r r (.fa un78 r sz3 r (o := 1) r r r (.store1 sz3 r r .z (.s (.t .nil)) r (.nilS [9, 8, 7, 6, 5, 4, 1] r r (.region (.ks 1 r (.loadW isAgg78 sz78 r .z r r r (.buildSlice 1 un31 sz78 zv78 r r (.c r r r .n) r r fun b349 => ?_)))))))
   obtain ⟨hl351, hd⟩ := hd
   refine .append (ys := [({ Row := x328.Row.tmod r29, Col := x328.Col.tmod r33, Val := x328.Val } : Triple)]) 24 (.s (.s (.s .z))) un31 un31 IN78 r r r r r r r r r (.box .z (.one r) r) hl351 r r fun p352 c353 => ?_
   exact .ks 1 r (.nilS [7, 8, 6, 5, 4, 1] r r (.drop (.s .z) (.drop (.s .z) (.region (.ks 3 r (.nil' fun c w ho hs => ⟨((s304 ++ ([({ Row := x328.Row.tmod r29, Col := x328.Col.tmod r33, Val := x328.Val } : Triple)])), w64 (s308 + 1)), hd, I311, _, _, hl312, ho.sub ⟨r, r, r, r, r, r, trivial⟩, hs.pick (.c (.s .z) (.c .z .n))⟩))))))
 refine .exitS [7, 6, 5, 4] r r (.sr (.ks 3 r (.pub (.s .z) fun I380 hl381 R382 => ?_)))
 have le383 := IH.le.trans le313 hl381
 have le384 := IH.le.trans hl312 hl381
 have hw400 := W_ref07_Of (I := I380) R382 hd
 refine .call call32 r hw400 r r fun v389 I386 hl387 hv388 => ?_
 obtain ⟨r385, p391, c392, p394, c395, p397, c398, rfl, R393, R396, R399, hd⟩ := hv388
 have le401 := IH.le.trans le383 hl387
 have le402 := IH.le.trans le384 hl387
 replace R382 := R382.mono hl387
 refine .ks 3 r (.allocA zv39 r r fun b403 => ?_)
 refine .storeA sz39 r r .z (.t (.t (.t (.t (.t .nil))))) r r (.ks 1 r (.nilS [11, 10, 6, 5, 4] r r (.seq (.sr (.ks 2 r (.nilS [68, 10, 6, 5, 4] r r (.condP r hd (fun hb405 hd => ?_) fun hb405 hd => ?_)))))))
 · refine .sr (.ks 2 r ?_)
   have hw424 := W_ref07_Empty (I := I386) hd
   refine .callO call70 r hw424 r r fun v410 I407 l411 hl408 hv409 => ?_
   obtain ⟨r406, p412, c413, p415, c416, p418, c419, rfl, rfl, hd⟩ := hv409
   have le425 := IH.le.trans le401 hl408
   have le426 := IH.le.trans le402 hl408
   replace R393 := R393.mono hl408
   replace R396 := R396.mono hl408
   replace R399 := R399.mono hl408
   refine .storeA sz39 r r (.s (.s (.s (.s .z)))) (.t (.t (.t (.t (.t .nil))))) r r (.nilS [4] r r (.drop (.s (.s (.s .z))) (.pub .z fun I427 hl428 R429 => ?_)))
   have le430 := IH.le.trans le425 hl428
   have le431 := IH.le.trans le426 hl428
   refine .pub .z fun I432 hl433 R434 => ?_
   have le435 := IH.le.trans le430 hl433
   have le436 := IH.le.trans le431 hl433
   replace R429 := R429.mono hl433
   refine .pub .z fun I437 hl438 R439 => ?_
   have le440 := IH.le.trans le435 hl438
   have le441 := IH.le.trans le436 hl438
   replace R429 := R429.mono hl438
   replace R434 := R434.mono hl438
   exact .ret (pret results33 (.w ia39 sz39 r .z r .n) le440 ⟨r406, _, _, _, _, _, _, r, R429, R434, R439, hd⟩)
 exact .skipS [10, 4] r r (.sr (.loadW ia39 sz39 r .z r r r (.storeA sz39 r r (.s .z) (.t (.t (.t (.t (.t .nil))))) r r (.nilS [4] r r (.drop .z (.ret (pret results33 (.w ia39 sz39 r .z r .n) le401 ⟨r385.1, _, _, _, _, _, _, r, R393, R396, R399, hd⟩)))))))

theorem W_law02_Value {I : IH} {a0 : Int} {a1 : Int} {Q : Int → Prop}  (hd : law02_Value a0 a1 Q) :
  PFun prog 36 [.int .i64 a0, .int .i64 a1] I (fun _ => o0_ Q) := by
 refine Fun.enter func36 r ntmps36 r (.c (.c .n)) fun w0 M => ?_
 refine .sr (.ks 1 r (.nilS [1, 0] r r (.sr (.ks 1 r (.nilS [5, 1] r r (.block (.sr (.ks 2 r (.nilS [12, 5, 1] r r ?_)))))))))
 refine .condP r hd (fun hb1 hd => ?_) fun hb1 hd => ?_
 · exact .sr (.ks 2 r (.nilS [4] r r (.ret (pret results36 (.t r .n) (.refl _) ⟨a1, r, hd⟩))))
 refine .sr (.ks 2 r (.nilS [15, 1] r r (.condP r hd (fun hb2 hd => ?_) fun hb2 hd => ?_)))
 · exact .sr (.ks 3 r (.nilS [4] r r (.ret (pret results36 (.t r .n) (.refl _) ⟨(bnd .i64 a1 1), r, hd⟩))))
 refine .sr (.ks 3 r (.nilS [1] r r (.seq (.sr (.ks 1 r (.rem r r (by decide) r r (.ks 1 r (.nilS [10, 1] r r (.condP r hd (fun hb3 hd => ?_) fun hb3 hd => ?_)))))))))
 · exact .sr (.ks 1 r (.nilS [4] r r (.ret (pret results36 (.t r .n) (.refl _) ⟨4611686018427387904, r, hd⟩))))
 exact .skipS [1] r r (.sr (.ks 2 r (.nilS [4] r r (.ret (pret results36 (.t r .n) (.refl _) ⟨(bnd .i64 a1 4611686018427387903), r, hd⟩)))))

theorem W_law02_Factor {I : IH} {a0 : Int} {a1 : Int} {Q : Int → Prop}  (hd : law02_Factor a0 a1 Q) :
  PFun prog 34 [.int .i64 a0, .int .i64 a1] I (fun _ => o0_ Q) := by
 refine Fun.enter func34 r ntmps34 r (.c (.c .n)) fun w0 M => ?_
 refine .sr (.ks 1 r (.nilS [1, 0] r r (.seq (.sr (.ks 2 r (.nilS [6, 1, 0] r r (.condP r hd (fun hb1 hd => ?_) fun hb1 hd => ?_)))))))
 · exact .sr (.ks 1 r (.rem r r (by decide) r r (.ks 1 r (.nilS [4] r r (.ret (pret results34 (.t r .n) (.refl _) ⟨(a1.tmod 2147483648), r, hd⟩))))))
 refine .skipS [1, 0] r r (.sr (.ks 2 r ?_))
 have hw3 := W_law02_Value (I := I) hd
 refine .callP call36 r hw3 r r fun v4 hv5 => ?_
 obtain ⟨r2, rfl, hd⟩ := hv5
 exact .ks 1 r (.nilS [4] r r (.ret (pret results34 (.t r .n) (.refl _) ⟨r2, r, hd⟩)))

theorem W_law13_Task_Matrix {I : IH} {a0 : Law13_Task} {p1 : Option Addr} {c2 : Nat} {p4 : Option Addr} {c5 : Nat} {p7 : Option Addr} {c8 : Nat} {p10 : Option Addr} {c11 : Nat} {Q : Rows → Prop} (R3 : RepSl eTriple I p1 c2 a0.L) (R6 : RepSl eItem I p4 c5 a0.X) (R9 : RepSl eItem I p7 c8 a0.Y) (R12 : RepSl eU64 I p10 c11 a0.F) (hd : law13_Task_Matrix a0 Q) :
  PFun prog 12 [.agg #[.int .i64 a0.Ring, .int .u8 a0.Size.1, .int .u8 a0.Size.2, .slice p1 a0.L.length c2, .slice p4 a0.X.length c5, .slice p7 a0.Y.length c8, .slice p10 a0.F.length c11, .bool a0.Others]] I (fun I_ v => ∃ r p13 c14 p16 c17 p19 c20, v = .agg #[.int .i64 r.Rows, .int .i64 r.Cols, .slice p13 r.Start.length c14, .slice p16 r.Col.length c17, .slice p19 r.Val.length c20] ∧ RepSl eI64 I_ p13 c14 r.Start ∧ RepSl eI64 I_ p16 c17 r.Col ∧ RepSl eI64 I_ p19 c20 r.Val ∧ Q r) := by
 refine Fun.enter func12 r ntmps12 r (.c .n) fun w0 M => ?_
 refine .sr (.boxA r r r fun b26 => ?_)
 refine .allocA zv39 r r fun b28 => ?_
 refine .nilS [2, 1] r r (.sr (.fa un35 r sizeOf30 r (o := 1) r r r (.loadA isAgg30 sizeOf30 r (.s .z) (.s (.t (.t .nil))) r r r (.fa un35 r sizeOf31 r (o := 3) r r r (.load1 isAgg31 r (.s .z) r r r ?_)))))
 have hw63 := W_law07_Some (I := I) R3 hd
 refine .call call33 r hw63 r r fun v52 I49 hl50 hv51 => ?_
 obtain ⟨r48, p54, c55, p57, c58, p60, c61, rfl, R56, R59, R62, hd⟩ := hv51
 replace R3 := R3.mono hl50
 replace R6 := R6.mono hl50
 replace R9 := R9.mono hl50
 replace R12 := R12.mono hl50
 refine .allocA zv39 r r fun b64 => ?_
 refine .storeA sz39 r r .z (.t (.t (.t (.t (.t .nil))))) r r (.nilS [3, 2, 1] r r (.sr (.fa un35 r sz29 r (o := 0) r r r (.load1 ia29 r (.s (.s .z)) r r r ?_))))
 have hw71 := W_law13_Right (I := I49) hd
 refine .callP call27 r hw71 r r fun v72 hv73 => ?_
 obtain ⟨r70, rfl, hd⟩ := hv73
 refine .ks 1 r (.nilS [4, 3, 2] r r (.drop (.s (.s .z)) (.sr (.ks 1 r (.nilS [5, 4, 3, 2] r r (.seq (.sr (.ks 1 r (.nilS [6, 5, 4, 3, 2] r r ?_)))))))))
 refine .block (.own0 eI64 2 (.loop hd (fun (s : (List Int) × Int) c w => match s with | (s132, s136) => ∃ I_ p133 c134, IH.le I49 I_ ∧ Ok ⟨35, [], none⟩ [(2, .pointer (some ⟨b28, 0, none⟩)), (3, .pointer (some ⟨b64, 0, none⟩)), (4, .int .i64 r70), (5, .slice p133 s132.length c134), (6, .int .i64 s136)] c ∧ Sym w0 M I I_ [pto b28 (.cells #[.int .i64 0, .int .i64 0, .slice none 0 0, .slice none 0 0, .slice none 0 0] 39 (0, 0)), pto b64 (.cells #[.int .i64 r48.Rows, .int .i64 r48.Cols, .slice p54 r48.Start.length c55, .slice p57 r48.Col.length c58, .slice p60 r48.Val.length c61] 39 (0, 0)), OwnSl eI64 2 p133 c134 s132] w) (fun c w ho hs => ⟨I49, _, _, (.refl _), ho.sub ⟨r, r, r, r, r, trivial⟩, hs.pick (.c (.s (.s .z)) (.c (.s .z) (.c .z .n)))⟩) ?_))
 rintro ⟨s132, s136⟩ next138 hd c w hst
 obtain ⟨I139, p133, c134, hl140, hok, hsym⟩ := hst
 have le141 := IH.le.trans hl50 hl140
 replace R56 := R56.mono hl140
 replace R59 := R59.mono hl140
 replace R62 := R62.mono hl140
 refine Cod.at hok hsym (.seq (.sr (.ks 1 r (.fa un39 r sz37 r (o := 4) r r r (.load1 ia37 r (.s .z) r r r (.len un37 r r r r (.ks 1 r (.nilS [19, 6, 5, 4, 3, 2] r r (.condP r hd (fun hb143 hd => ?_) fun hb143 hd => ?_)))))))))
 · refine .skipS [6, 5, 4, 3, 2] r r (.seq (.block (.region (.ks 2 r (.fa un39 r sz37 r (o := 4) r r r (.load1 ia37 r (.s .z) r r r (.ks 1 r ?_)))))))
   obtain ⟨h144, x145, hx146, hd⟩ := hd
   obtain ⟨b147, o148, cs149, e150, hC151, hr152⟩ := R62.2 _ _ hx146
   cases hr152
   refine .ixa un37 sz2 r e150 r h144 (idx_lt hx146 h144) r r (.ld1 (j := 0) ia2 hC151 r r r r r ?_)
   have hw154 := W_law02_Factor (I := I139) hd
   refine .callP call34 r hw154 r r fun v155 hv156 => ?_
   obtain ⟨r153, rfl, hd⟩ := hv156
   refine .buildSlice 1 un37 sz2 zeroValue2 r r (.c r r r .n) r r fun b157 => ?_
   obtain ⟨hl159, hd⟩ := hd
   refine .append (ys := [r153]) 8 (.s (.s (.s .z))) un37 un37 IN2 r r r r r r r r r (.box .z (.one r) r) hl159 r r fun p160 c161 => ?_
   exact .ks 1 r (.nilS [5, 6, 4, 3, 2] r r (.drop (.s .z) (.region (.ks 3 r (.nil' fun c w ho hs => ⟨((s132 ++ ([r153])), w64 (s136 + 1)), hd, I139, _, _, hl140, ho.sub ⟨r, r, r, r, r, trivial⟩, hs.pick (.c (.s .z) (.c (.s .z) (.c .z .n)))⟩)))))
 refine .exitS [5, 3, 2] r r (.sr (.ks 1 r (.fa un39 r sz37 r (o := 4) r r r (.store1 sz37 r r (.s .z) (.s (.s (.s (.s (.t .nil))))) r (.nilS [3, 2] r r (.sr (.loadW ia39 sz39 r (.s .z) r r r (.storeA sz39 r r .z (.t (.t (.t (.t (.t .nil))))) r r (.nilS [2] r r ?_)))))))))
 refine .drop (.s .z) (.pub (.s .z) fun I163 hl164 R165 => ?_)
 have le166 := IH.le.trans le141 hl164
 have le167 := IH.le.trans hl140 hl164
 replace R56 := R56.mono hl164
 replace R59 := R59.mono hl164
 exact .ret (pret results12 (.w ia39 sz39 r .z r .n) le166 ⟨({ Rows := r48.Rows, Cols := r48.Cols, Start := r48.Start, Col := r48.Col, Val := s132 } : Rows), _, _, _, _, _, _, r, R56, R59, R165, hd⟩)

theorem W_ref09_Of {I : IH} {a0 : Int} {a1 : Int} {a2 : List Item} {p1 : Option Addr} {c2 : Nat} {Q : (Vec × Int) → Prop} (R3 : RepSl eItem I p1 c2 a2) (hd : ref09_Of a0 a1 a2 Q) :
  PFun prog 53 [.int .i64 a0, .int .i64 a1, .slice p1 a2.length c2] I (fun I_ v => ∃ r p4 c5, v = .tuple #[.agg #[.int .i64 r.1.N, .slice p4 r.1.Items.length c5], .int .i64 r.2] ∧ RepSl eItem I_ p4 c5 r.1.Items ∧ Q r) := by
 refine Fun.enter func53 r ntmps53 r (.c (.c (.c .n))) fun w0 M => ?_
 refine .sr (.allocA zv42 r r fun b9 => ?_)
 refine .ks 1 r (.nilS [6, 2, 1, 0] r r (.seq (.sr (.ks 1 r ?_))))
 have hw17 := W_ref02_Is (I := I) hd
 refine .callP call46 r hw17 r r fun v18 hv19 => ?_
 obtain ⟨r16, rfl, hd⟩ := hv19
 refine .ks 1 r (.nilS [15, 6, 2, 1, 0] r r (.condP r hd (fun hb20 hd => ?_) fun hb20 hd => ?_))
 · exact .sr (.build zv42 un42 BI42 .n (by exact trivial) r r (.storeA sz42 r r .z (.t (.t .nil)) r r (.ks 1 r (.nilS [7, 6] r r (.ret (pret results53 (.w ia42 sz42 r .z r (.t r .n)) (.refl _) ⟨(({ N := 0, Items := ([] : List Item) } : Vec), 8), _, _, r, (.nil _ _ _), hd⟩))))))
 refine .skipS [6, 2, 1, 0] r r (.seq (.sr (.ks 3 r ?_)))
 refine splitP hd (fun hb23 hd => ?_) fun hb23 hd => ?_
 · rw [hb23]
   exact .ks 3 r (.nilS [22, 6, 2, 1, 0] r r (.condKT r r (.sr (.build zv42 un42 BI42 .n (by exact trivial) r r (.storeA sz42 r r .z (.t (.t .nil)) r r (.ks 1 r (.nilS [7, 6] r r (.ret (pret results53 (.w ia42 sz42 r .z r (.t r .n)) (.refl _) ⟨(({ N := 0, Items := ([] : List Item) } : Vec), 3), _, _, r, (.nil _ _ _), hd⟩)))))))))
 rw [hb23]
 refine .ks 3 r (.nilS [22, 6, 2, 1, 0] r r (.condP r hd (fun hb24 hd => ?_) fun hb24 hd => ?_))
 · exact .sr (.build zv42 un42 BI42 .n (by exact trivial) r r (.storeA sz42 r r .z (.t (.t .nil)) r r (.ks 1 r (.nilS [7, 6] r r (.ret (pret results53 (.w ia42 sz42 r .z r (.t r .n)) (.refl _) ⟨(({ N := 0, Items := ([] : List Item) } : Vec), 3), _, _, r, (.nil _ _ _), hd⟩))))))
 refine .skipS [6, 2, 1, 0] r r (.sr (.ks 1 r (.nilS [8, 6, 2, 1, 0] r r (.seq (.sr (.ks 1 r (.nilS [9, 8, 6, 2, 1, 0] r r (.block (.own0 eEdge 116 ?_)))))))))
 refine .loop hd (fun (s : (List Edge) × Int) c w => match s with | (s399, s403) => ∃ I_ p400 c401, IH.le I I_ ∧ Ok ⟨95, [], none⟩ [(0, .int .i64 a0), (1, .int .i64 a1), (2, .slice p1 a2.length c2), (6, .pointer (some ⟨b9, 0, none⟩)), (8, .slice p400 s399.length c401), (9, .int .i64 s403)] c ∧ Sym w0 M I I_ [pto b9 (.cells #[.int .i64 0, .slice none 0 0] 42 (0, 0)), OwnSl eEdge 116 p400 c401 s399] w) (fun c w ho hs => ⟨I, _, _, (.refl _), ho.sub ⟨r, r, r, r, r, r, trivial⟩, hs.pick (.c (.s .z) (.c .z .n))⟩) ?_
 rintro ⟨s399, s403⟩ next405 hd c w hst
 obtain ⟨I406, p400, c401, hl407, hok, hsym⟩ := hst
 replace R3 := R3.mono hl407
 refine Cod.at hok hsym (.seq (.sr (.ks 2 r (.len un32 r r r r (.ks 1 r (.nilS [27, 9, 8, 6, 2, 1, 0] r r (.condP r hd (fun hb409 hd => ?_) fun hb409 hd => ?_)))))))
 · refine .skipS [9, 8, 6, 2, 1, 0] r r (.seq (.block (.seq (.sr (.ks 2 r ?_)))))
   obtain ⟨h430, x431, hx432, hd⟩ := hd
   obtain ⟨b433, o434, cs435, e436, hC437, hr438⟩ := R3.2 _ _ hx432
   cases hr438
   refine .ixa un32 sz80 r e436 r h430 (idx_lt hx432 h430) r r (.fa un80 r sz3 r (o := o434 + s403.toNat * 2) r r r (.ld1 (j := 0) ia3 hC437 r r r r r (.ks 2 r ?_)))
   refine splitP hd (fun hb439 hd => ?_) fun hb439 hd => ?_
   · rw [hb439]
     exact .ks 8 r (.nilS [44, 9, 8, 6, 2, 1, 0] r r (.condKT r r (.sr (.build zv42 un42 BI42 .n (by exact trivial) r r (.storeA sz42 r r .z (.t (.t .nil)) r r (.ks 1 r (.nilS [7, 6] r r (.drop (.s .z) (.ret (pret results53 (.w ia42 sz42 r .z r (.t r .n)) hl407 ⟨(({ N := 0, Items := ([] : List Item) } : Vec), 3), _, _, r, (.nil _ _ _), hd⟩))))))))))
   rw [hb439]
   refine .ks 2 r ?_
   obtain ⟨h440, x441, hx442, hd⟩ := hd
   obtain ⟨b443, o444, cs445, e446, hC447, hr448⟩ := R3.2 _ _ hx442
   cases hr448
   refine .gyes r r r (.ixa un32 sz80 r e446 r h440 (idx_lt hx442 h440) r r (.gyes r r r (.fa un80 r sz3 r (o := o444 + s403.toNat * 2) r r r (.gyes r r r (.ld1 (j := 0) ia3 hC447 r r r r r (.ks 3 r (.nilS [44, 9, 8, 6, 2, 1, 0] r r (.condP r hd (fun hb449 hd => ?_) fun hb449 hd => ?_))))))))
   · exact .sr (.build zv42 un42 BI42 .n (by exact trivial) r r (.storeA sz42 r r .z (.t (.t .nil)) r r (.ks 1 r (.nilS [7, 6] r r (.drop (.s .z) (.ret (pret results53 (.w ia42 sz42 r .z r (.t r .n)) hl407 ⟨(({ N := 0, Items := ([] : List Item) } : Vec), 3), _, _, r, (.nil _ _ _), hd⟩)))))))
   refine .skipS [9, 8, 6, 2, 1, 0] r r (.ownF (.s .z) fun hne450 => ?_)
   refine .dr [0, 1, 2, 3, 4, 5, 6, 7, 8, 9, 10, 11, 12, 13] 14 (.fk 3 r ?_)
   obtain ⟨h451, x452, hx453, hd⟩ := hd
   obtain ⟨b454, o455, cs456, e457, hC458, hr459⟩ := R3.2 _ _ hx453
   cases hr459
   refine .g r r r (fun _ => .ixa un32 sz80 r e457 r h451 (idx_lt hx453 h451) r r .mk) (.g r r r (fun _ => .fa un80 r sz3 r (o := o455 + s403.toNat * 2) r r r .mk) (.g r r r (fun _ => .ld1 (j := 0) ia3 hC458 r r r r r .mk) (.fk 2 r ?_)))
   obtain ⟨h460, x461, hx462, hd⟩ := hd
   obtain ⟨b463, o464, cs465, e466, hC467, hr468⟩ := R3.2 _ _ hx462
   cases hr468
   refine .g r r r (fun _ => .ixa un32 sz80 r e466 r h460 (idx_lt hx462 h460) r r .mk) (.g r r r (fun _ => .fa un80 r sz2 r (o := o464 + s403.toNat * 2 + 1) r r r .mk) (.g r r r (fun _ => .ld1 (j := 1) ia2 hC467 r r r r r .mk) (.g r r r (fun _ => .build zv116 un116 BI116 (.c r r r (.s (.t .nil)) (.c r r r (.s (.s (.t .nil))) .n)) (by exact ⟨⟨_, _, r, r, r⟩, ⟨⟨_, _, r, r, r⟩, trivial⟩⟩) r r .mk) (.ww r fun ex => ?_))))
   refine .buildSlice 1 un114 sz116 zv116 r r (.c r r r .n) r r fun b469 => ?_
   refine .so 3 r r r (.ck 1 r r trivial) (.ww r fun ex => ?_)
   obtain ⟨hl471, hd⟩ := hd
   refine .append (ys := [({ From := 0, To := x452.At, W := x461.Val } : Edge)]) 24 (.s (.s .z)) un114 un114 IN116 r r r r r r r r r (.box .z (.one r) r) hl471 r r fun p472 c473 => ?_
   exact .so 3 r r r trivial (.e2 14 (.ks 1 r (.nilS [8, 9, 6, 2, 1, 0] r r (.drop (.s .z) (.region (.ks 3 r (.nil' fun c w ho hs => ⟨((s399 ++ ([({ From := 0, To := x452.At, W := x461.Val } : Edge)])), w64 (s403 + 1)), hd, I406, _, _, hl407, ho.sub ⟨r, r, r, r, r, r, trivial⟩, hs.pick (.c (.s .z) (.c .z .n))⟩)))))))
 refine .exitS [8, 6, 1, 0] r r (.sr (.ks 2 r (.pub (.s .z) fun I490 hl491 R492 => ?_)))
 have le493 := IH.le.trans hl407 hl491
 have hw503 := W_ref05_Combine (I := I490) R492 hd
 refine .call call67 r hw503 r r fun v498 I495 hl496 hv497 => ?_
 obtain ⟨r494, p500, c501, rfl, R502, hd⟩ := hv497
 have le504 := IH.le.trans le493 hl496
 replace R492 := R492.mono hl496
 refine .ks 5 r (.nilS [10, 8, 6, 1] r r (.seq (.sr (.ks 2 r (.nilS [67, 10, 8, 6, 1] r r (.condP r hd (fun hb506 hd => ?_) fun hb506 hd => ?_))))))
 · exact .sr (.build zv42 un42 BI42 .n (by exact trivial) r r (.ks 1 r (.storeA sz42 r r .z (.t (.t .nil)) r r (.ks 1 r (.nilS [7, 6] r r (.ret (pret results53 (.w ia42 sz42 r .z r (.t r .n)) le504 ⟨(({ N := 0, Items := ([] : List Item) } : Vec), r494.2), _, _, r, (.nil _ _ _), hd⟩)))))))
 refine .skipS [8, 6, 1] r r (.sr (.ks 1 r (.build zv42 un42 BI42 (.c r r r (.t .nil) .n) (by exact ⟨⟨_, _, r, r, r⟩, trivial⟩) r r (.allocA zv42 r r fun b509 => ?_))))
 refine .storeA sz42 r r .z (.t (.t .nil)) r r (.nilS [11, 8, 6] r r (.seq (.sr (.ks 1 r (.nilS [12, 11, 8, 6] r r (.block (.own0 eItem 80 (.loop hd (fun (s : (List Item) × Int) c w => match s with | (s580, s584) => ∃ I_ p581 c582, IH.le I495 I_ ∧ Ok ⟨95, [], none⟩ [(6, .pointer (some ⟨b9, 0, none⟩)), (8, .slice p500 r494.1.length c501), (11, .pointer (some ⟨b509, 0, none⟩)), (12, .int .i64 s584)] c ∧ Sym w0 M I I_ [pto b9 (.cells #[.int .i64 0, .slice none 0 0] 42 (0, 0)), pto b509 (.cells #[.int .i64 a1, .slice p581 s580.length c582] 42 (0, 0)), OwnSl eItem 80 p581 c582 s580] w) (fun c w ho hs => ⟨I495, _, _, (.refl _), ho.sub ⟨r, r, r, r, trivial⟩, hs.pick (.c (.s (.s .z)) (.c (.s .z) (.c .z .n)))⟩) ?_))))))))
 rintro ⟨s580, s584⟩ next586 hd c w hst
 obtain ⟨I587, p581, c582, hl588, hok, hsym⟩ := hst
 have le589 := IH.le.trans le504 hl588
 replace R502 := R502.mono hl588
 refine Cod.at hok hsym (.seq (.sr (.ks 2 r (.len un114 r r r r (.ks 1 r (.nilS [75, 12, 11, 8, 6] r r (.condP r hd (fun hb591 hd => ?_) fun hb591 hd => ?_)))))))
 · refine .skipS [12, 11, 8, 6] r r (.seq (.block (.ownF (.s (.s .z)) fun hne592 => ?_)))
   refine .dr [0, 1, 2, 3, 4, 5, 6, 7, 8, 9, 10, 11, 12, 13, 14] 15 (.g r r r (fun _ => .fa un42 r sz32 r (o := 1) r r r .mk) (.g r r r (fun _ => .load1 ia32 r (.s .z) r r r .mk) (.fk 2 r ?_)))
   obtain ⟨h593, x594, hx595, hd⟩ := hd
   obtain ⟨b596, o597, cs598, e599, hC600, hr601⟩ := R502.2 _ _ hx595
   cases hr601
   refine .g r r r (fun _ => .ixa un114 sz116 r e599 r h593 (idx_lt hx595 h593) r r .mk) (.g r r r (fun _ => .fa un116 r sz3 r (o := o597 + s584.toNat * 3 + 1) r r r .mk) (.g r r r (fun _ => .ld1 (j := 1) ia3 hC600 r r r r r .mk) (.fk 2 r ?_)))
   obtain ⟨h602, x603, hx604, hd⟩ := hd
   obtain ⟨b605, o606, cs607, e608, hC609, hr610⟩ := R502.2 _ _ hx604
   cases hr610
   refine .g r r r (fun _ => .ixa un114 sz116 r e608 r h602 (idx_lt hx604 h602) r r .mk) (.g r r r (fun _ => .fa un116 r sz2 r (o := o606 + s584.toNat * 3 + 2) r r r .mk) (.g r r r (fun _ => .ld1 (j := 2) ia2 hC609 r r r r r .mk) (.g r r r (fun _ => .build zv80 un80 BI80 (.c r r r (.t .nil) (.c r r r (.s (.t .nil)) .n)) (by exact ⟨⟨_, _, r, r, r⟩, ⟨⟨_, _, r, r, r⟩, trivial⟩⟩) r r .mk) (.ww r fun ex => ?_))))
   refine .buildSlice 1 un32 sz80 zv80 r r (.c r r r .n) r r fun b611 => ?_
   refine .so 4 r r r (.cg r r r r (fun _ => .load1 ia32 r (.s (.s .z)) r r r .mk) (.cg r r r r (fun _ => .fa un42 r sz32 r (o := 1) r r r .mk) trivial)) (.ww r fun ex => ?_)
   obtain ⟨hl613, hd⟩ := hd
   refine .append (ys := [({ At := x594.To, Val := x603.W } : Item)]) 16 (.s (.s (.s .z))) un32 un32 IN80 r r r r r r r r r (.box .z (.one r) r) hl613 r r fun p614 c615 => ?_
   exact .so 4 r r r trivial (.e2 15 (.fa un42 r sz32 r (o := 1) r r r (.store1 sz32 r r (.s (.s (.s .z))) (.s (.t .nil)) r (.nilS [12, 11, 8, 6] r r (.drop (.s .z) (.region (.ks 3 r (.nil' fun c w ho hs => ⟨((s580 ++ ([({ At := x594.To, Val := x603.W } : Item)])), w64 (s584 + 1)), hd, I587, _, _, hl588, ho.sub ⟨r, r, r, r, trivial⟩, hs.pick (.c (.s .z) (.c (.s .z) (.c .z .n)))⟩))))))))
 refine .exitS [11, 6] r r (.sr (.loadW ia42 sz42 r (.s .z) r r r (.storeA sz42 r r .z (.t (.t .nil)) r r (.ks 1 r (.nilS [7, 6] r r (.drop (.s .z) (.pub (.s .z) fun I617 hl618 R619 => ?_)))))))
 have le620 := IH.le.trans le589 hl618
 have le621 := IH.le.trans hl588 hl618
 exact .ret (pret results53 (.w ia42 sz42 r .z r (.t r .n)) le620 ⟨(({ N := a1, Items := s580 } : Vec), 0), _, _, r, R619, hd⟩)

theorem W_law09_Some {I : IH} {a0 : Int} {a1 : List Item} {p1 : Option Addr} {c2 : Nat} {Q : Vec → Prop} (R3 : RepSl eItem I p1 c2 a1) (hd : law09_Some a0 a1 Q) :
  PFun prog 20 [.int .u8 a0, .slice p1 a1.length c2] I (o6_ Q) := by
 refine Fun.enter func20 r ntmps20 r (.c (.c .n)) fun w0 M => ?_
 refine .sr (.allocA zv42 r r fun b9 => ?_)
 refine .nilS [4, 1, 0] r r (.sr (.ks 1 r (.conv underlying5 un3 r r r (.rem r r (by decide) r r (.ks 1 r (.nilS [5, 4, 1] r r (.sr (.ks 1 r (.nilS [6, 5, 4, 1] r r ?_)))))))))
 refine .seq ?_
 refine Cod.joinQ (σ := (List Item)) hd (fun (s361 : (List Item)) c w => ∃ I_ p362 c363, IH.le I I_ ∧ Ok ⟨56, [], none⟩ [(4, .pointer (some ⟨b9, 0, none⟩)), (5, .int .i64 ((w64 (a0)).tmod 60)), (6, .slice p362 s361.length c363)] c ∧ Sym w0 M I I_ [pto b9 (.cells #[.int .i64 0, .slice none 0 0] 42 (0, 0)), OwnSl eItem 80 p362 c363 s361] w) (fun k365 hd => ?_) ?_
 · skip
   refine .sr (.ks 1 r (.nilS [7, 6, 5, 4, 1] r r (.block (.own0 eItem 80 (.loop hd (fun (s : (List Item) × Int) c w => match s with | (s481, s485) => ∃ I_ p482 c483, IH.le I I_ ∧ Ok ⟨56, [], none⟩ [(1, .slice p1 a1.length c2), (4, .pointer (some ⟨b9, 0, none⟩)), (5, .int .i64 ((w64 (a0)).tmod 60)), (6, .slice p482 s481.length c483), (7, .int .i64 s485)] c ∧ Sym w0 M I I_ [pto b9 (.cells #[.int .i64 0, .slice none 0 0] 42 (0, 0)), OwnSl eItem 80 p482 c483 s481] w) (fun c w ho hs => ⟨I, _, _, (.refl _), ho.sub ⟨r, r, r, r, r, trivial⟩, hs.pick (.c (.s .z) (.c .z .n))⟩) ?_)))))
   rintro ⟨s481, s485⟩ next487 hd c w hst
   obtain ⟨I488, p482, c483, hl489, hok, hsym⟩ := hst
   replace R3 := R3.mono hl489
   refine Cod.at hok hsym (.seq (.sr (.ks 2 r (.len un32 r r r r (.ks 2 r ?_)))))
   refine splitP hd (fun hb493 hd => ?_) fun hb493 hd => ?_
   · rw [hb493]
     refine .ks 4 r ?_
     refine splitP hd (fun hb494 hd => ?_) fun hb494 hd => ?_
     · rw [hb494]
       refine .ks 3 r (.nilS [24, 7, 6, 5, 4, 1] r r (.condP r hd (fun hb495 hd => ?_) fun hb495 hd => ?_))
       · refine .skipS [7, 6, 5, 4, 1] r r (.seq (.block (.sr (.ks 2 r ?_))))
         obtain ⟨h505, x506, hx507, hd⟩ := hd
         obtain ⟨b508, o509, cs510, e511, hC512, hr513⟩ := R3.2 _ _ hx507
         cases hr513
         refine .ixa un32 sz80 r e511 r h505 (idx_lt hx507 h505) r r (.fa un80 r sz3 r (o := o509 + s485.toNat * 2) r r r (.ld1 (j := 0) ia3 hC512 r r r r r (.ks 1 r (.nilS [32, 7, 6, 5, 4, 1] r r (.condP r hd (fun hb514 hd => ?_) fun hb514 hd => ?_)))))
         · refine .ownF (.s .z) fun hne515 => ?_
           refine .dr [0, 1, 2, 3, 4, 5, 6, 7, 8, 9, 10, 11, 12, 13, 14, 15] 16 (.fk 3 r ?_)
           obtain ⟨h516, x517, hx518, hd⟩ := hd
           obtain ⟨b519, o520, cs521, e522, hC523, hr524⟩ := R3.2 _ _ hx518
           cases hr524
           refine .g r r r (fun _ => .ixa un32 sz80 r e522 r h516 (idx_lt hx518 h516) r r .mk) (.g r r r (fun _ => .fa un80 r sz3 r (o := o520 + s485.toNat * 2) r r r .mk) (.g r r r (fun _ => .ld1 (j := 0) ia3 hC523 r r r r r .mk) (.fk 1 r ?_)))
           obtain ⟨hz525, hd⟩ := hd
           refine .g r r r (fun _ => .rem r r hz525 r r .mk) (.fk 2 r ?_)
           obtain ⟨h526, x527, hx528, hd⟩ := hd
           obtain ⟨b529, o530, cs531, e532, hC533, hr534⟩ := R3.2 _ _ hx528
           cases hr534
           refine .g r r r (fun _ => .ixa un32 sz80 r e532 r h526 (idx_lt hx528 h526) r r .mk) (.g r r r (fun _ => .fa un80 r sz2 r (o := o530 + s485.toNat * 2 + 1) r r r .mk) (.g r r r (fun _ => .ld1 (j := 1) ia2 hC533 r r r r r .mk) (.g r r r (fun _ => .build zv80 un80 BI80 (.c r r r (.t .nil) (.c r r r (.s (.t .nil)) .n)) (by exact ⟨⟨_, _, r, r, r⟩, ⟨⟨_, _, r, r, r⟩, trivial⟩⟩) r r .mk) (.ww r fun ex => ?_))))
           refine .buildSlice 1 un32 sz80 zv80 r r (.c r r r .n) r r fun b535 => ?_
           refine .so 3 r r r (.ck 1 r r trivial) (.ww r fun ex => ?_)
           obtain ⟨hl537, hd⟩ := hd
           refine .append (ys := [({ At := x517.At.tmod ((w64 (a0)).tmod 60), Val := x527.Val } : Item)]) 16 (.s (.s .z)) un32 un32 IN80 r r r r r r r r r (.box .z (.one r) r) hl537 r r fun p538 c539 => ?_
           exact .so 3 r r r trivial (.e2 16 (.ks 1 r (.nilS [6, 7, 5, 4, 1] r r (.drop (.s .z) (.region (.ks 3 r (.nil' fun c w ho hs => ⟨((s481 ++ ([({ At := x517.At.tmod ((w64 (a0)).tmod 60), Val := x527.Val } : Item)])), w64 (s485 + 1)), hd, I488, _, _, hl489, ho.sub ⟨r, r, r, r, r, trivial⟩, hs.pick (.c (.s .z) (.c .z .n))⟩)))))))
         exact .skipS [7, 6, 5, 4, 1] r r (.region (.ks 3 r (.nil' fun c w ho hs => ⟨(s481, w64 (s485 + 1)), hd, I488, _, _, hl489, ho.sub ⟨r, r, r, r, r, trivial⟩, hs.pick (.c .z (.c .z .n))⟩)))
       exact .exit fun c w ho hs => ⟨s481, hd, I488, _, _, hl489, ho.sub ⟨r, r, r, trivial⟩, hs.pick (.c .z (.c .z .n))⟩
     rw [hb494]
     exact .ks 3 r (.nilS [24, 7, 6, 5, 4, 1] r r (.condKF r r (.exit fun c w ho hs => ⟨s481, hd, I488, _, _, hl489, ho.sub ⟨r, r, r, trivial⟩, hs.pick (.c .z (.c .z .n))⟩)))
   rw [hb493]
   exact .ks 7 r (.nilS [24, 7, 6, 5, 4, 1] r r (.condKF r r (.exit fun c w ho hs => ⟨s481, hd, I488, _, _, hl489, ho.sub ⟨r, r, r, trivial⟩, hs.pick (.c .z (.c .z .n))⟩)))
 rintro s361 hd c w hst
 obtain ⟨I541, p362, c363, hl542, hok, hsym⟩ := hst
 refine Cod.at hok hsym (.sr (.ks 2 r (.pub (.s .z) fun I543 hl544 R545 => ?_)))
 have le546 := IH.le.trans hl542 hl544
 have hw556 := W_ref09_Of (I := I543) R545 hd
 refine .call call53 r hw556 r r fun v551 I548 hl549 hv550 => ?_
 obtain ⟨r547, p553, c554, rfl, R555, hd⟩ := hv550
 have le557 := IH.le.trans le546 hl549
 replace R545 := R545.mono hl549
 refine .ks 3 r (.allocA zv42 r r fun b558 => ?_)
 exact .storeA sz42 r r .z (.t (.t .nil)) r r (.ks 1 r (.nilS [8, 4] r r (.sr (.loadW ia42 sz42 r .z r r r (.storeA sz42 r r (.s .z) (.t (.t .nil)) r r (.nilS [4] r r (.drop .z (.ret (pret results20 (.w ia42 sz42 r .z r .n) le557 ⟨r547.1, _, _, r, R555, hd⟩)))))))))

theorem W_law13_Task_Vector {I : IH} {a0 : Law13_Task} {a1 : List Item} {p1 : Option Addr} {c2 : Nat} {p4 : Option Addr} {c5 : Nat} {p7 : Option Addr} {c8 : Nat} {p10 : Option Addr} {c11 : Nat} {p13 : Option Addr} {c14 : Nat} {Q : Vec → Prop} (R3 : RepSl eTriple I p1 c2 a0.L) (R6 : RepSl eItem I p4 c5 a0.X) (R9 : RepSl eItem I p7 c8 a0.Y) (R12 : RepSl eU64 I p10 c11 a0.F) (R15 : RepSl eItem I p13 c14 a1) (hd : law13_Task_Vector a0 a1 Q) :
  PFun prog 13 [.agg #[.int .i64 a0.Ring, .int .u8 a0.Size.1, .int .u8 a0.Size.2, .slice p1 a0.L.length c2, .slice p4 a0.X.length c5, .slice p7 a0.Y.length c8, .slice p10 a0.F.length c11, .bool a0.Others], .slice p13 a1.length c14] I (fun I_ v => ∃ r p16 c17, v = .agg #[.int .i64 r.N, .slice p16 r.Items.length c17] ∧ RepSl eItem I_ p16 c17 r.Items ∧ Q r) := by
 refine Fun.enter func13 r ntmps13 r (.c (.c .n)) fun w0 M => ?_
 refine .sr (.boxA r r r fun b23 => ?_)
 refine .allocA zv42 r r fun b25 => ?_
 refine .nilS [4, 2, 1] r r (.sr (.fa un35 r sizeOf30 r (o := 1) r r r (.ixArr (i := 1) underlying30 sizeOf5 r r (by decide) (o := 2) r r r (.load1 isAgg5 r (.s .z) r r r ?_))))
 have hw44 := W_law07_Size (I := I) hd
 refine .callP call35 r hw44 r r fun v45 hv46 => ?_
 obtain ⟨r43, rfl, hd⟩ := hv46
 refine .conv un3 underlying5 r r r (.ks 1 r ?_)
 have hw56 := W_law09_Some (I := I) R15 hd
 refine .call call20 r hw56 r r fun v51 I48 hl49 hv50 => ?_
 obtain ⟨r47, p53, c54, rfl, R55, hd⟩ := hv50
 replace R3 := R3.mono hl49
 replace R6 := R6.mono hl49
 replace R9 := R9.mono hl49
 replace R12 := R12.mono hl49
 replace R15 := R15.mono hl49
 refine .allocA zv42 r r fun b57 => ?_
 refine .storeA sz42 r r .z (.t (.t .nil)) r r (.nilS [5, 4, 2] r r (.sr (.ks 1 r (.nilS [6, 5, 4, 2] r r (.seq (.sr (.ks 1 r (.nilS [7, 6, 5, 4, 2] r r (.block ?_)))))))))
 refine .own0 eItem 80 (.loop hd (fun (s : (List Item) × Int) c w => match s with | (s144, s148) => ∃ I_ p145 c146, IH.le I48 I_ ∧ Ok ⟨46, [], none⟩ [(2, .pointer (some ⟨b23, 0, none⟩)), (4, .pointer (some ⟨b25, 0, none⟩)), (5, .pointer (some ⟨b57, 0, none⟩)), (6, .slice p145 s144.length c146), (7, .int .i64 s148)] c ∧ Sym w0 M I I_ [pto b23 (.cells #[.int .i64 a0.Ring, .int .u8 a0.Size.1, .int .u8 a0.Size.2, .slice p1 a0.L.length c2, .slice p4 a0.X.length c5, .slice p7 a0.Y.length c8, .slice p10 a0.F.length c11, .bool a0.Others] 35 (0, 0)), pto b25 (.cells #[.int .i64 0, .slice none 0 0] 42 (0, 0)), pto b57 (.cells #[.int .i64 r47.N, .slice p53 r47.Items.length c54] 42 (0, 0)), OwnSl eItem 80 p145 c146 s144] w) (fun c w ho hs => ⟨I48, _, _, (.refl _), ho.sub ⟨r, r, r, r, r, trivial⟩, hs.pick (.c (.s (.s (.s .z))) (.c (.s (.s .z)) (.c (.s .z) (.c .z .n))))⟩) ?_)
 rintro ⟨s144, s148⟩ next150 hd c w hst
 obtain ⟨I151, p145, c146, hl152, hok, hsym⟩ := hst
 have le153 := IH.le.trans hl49 hl152
 replace R3 := R3.mono hl152
 replace R6 := R6.mono hl152
 replace R9 := R9.mono hl152
 replace R12 := R12.mono hl152
 replace R55 := R55.mono hl152
 refine Cod.at hok hsym (.seq (.sr (.ks 1 r (.fa un42 r sz32 r (o := 1) r r r (.load1 ia32 r (.s (.s .z)) r r r (.len un32 r r r r (.ks 1 r (.nilS [19, 7, 6, 5, 4, 2] r r (.condP r hd (fun hb155 hd => ?_) fun hb155 hd => ?_)))))))))
 · refine .skipS [7, 6, 5, 4, 2] r r (.seq (.block (.ownF (.s (.s (.s .z))) fun hne156 => ?_)))
   refine .dr [0, 1, 2, 3, 4, 5, 6, 7, 8, 10, 11, 12, 13, 14, 15, 9, 16, 17, 18, 19] 20 (.fk 1 r (.g r r r (fun _ => .fa un42 r sz32 r (o := 1) r r r .mk) (.g r r r (fun _ => .load1 ia32 r (.s (.s .z)) r r r .mk) (.fk 1 r ?_))))
   obtain ⟨h157, x158, hx159, hd⟩ := hd
   obtain ⟨b160, o161, cs162, e163, hC164, hr165⟩ := R55.2 _ _ hx159
   cases hr165
   refine .g r r r (fun _ => .ixa un32 sz80 r e163 r h157 (idx_lt hx159 h157) r r .mk) (.g r r r (fun _ => .fa un80 r sz3 r (o := o161 + s148.toNat * 2) r r r .mk) (.g r r r (fun _ => .ld1 (j := 0) ia3 hC164 r r r r r .mk) (.g r r r (fun _ => .fa un35 r sz29 r (o := 0) r r r .mk) (.g r r r (fun _ => .load1 ia29 r .z r r r .mk) (.g r r r (fun _ => .fa un42 r sz32 r (o := 1) r r r .mk) (.g r r r (fun _ => .load1 ia32 r (.s (.s .z)) r r r .mk) (.fk 1 r ?_)))))))
   obtain ⟨h166, x167, hx168, hd⟩ := hd
   obtain ⟨b169, o170, cs171, e172, hC173, hr174⟩ := R55.2 _ _ hx168
   cases hr174
   refine .g r r r (fun _ => .ixa un32 sz80 r e172 r h166 (idx_lt hx168 h166) r r .mk) (.g r r r (fun _ => .fa un80 r sz2 r (o := o170 + s148.toNat * 2 + 1) r r r .mk) (.g r r r (fun _ => .ld1 (j := 1) ia2 hC173 r r r r r .mk) (.ww r fun ex => ?_)))
   have hw176 := W_law13_Right (I := I151) hd
   refine .callP call27 r hw176 r r fun v177 hv178 => ?_
   obtain ⟨r175, rfl, hd⟩ := hv178
   refine .so 4 r r r (.cg r r r r (fun _ => .ld1 (j := 1) ia2 hC173 r r r r r .mk) (.cg r r r r (fun _ => .fa un80 r sz2 r (o := o170 + s148.toNat * 2 + 1) r r r .mk) (.cg r r r r (fun _ => .ixa un32 sz80 r e172 r h166 (idx_lt hx168 h166) r r .mk) (.ck 1 r r (.cg r r r r (fun _ => .load1 ia32 r (.s (.s .z)) r r r .mk) (.cg r r r r (fun _ => .fa un42 r sz32 r (o := 1) r r r .mk) (.cg r r r r (fun _ => .ld1 (j := 0) ia3 hC164 r r r r r .mk) (.cg r r r r (fun _ => .fa un80 r sz3 r (o := o161 + s148.toNat * 2) r r r .mk) (.cg r r r r (fun _ => .ixa un32 sz80 r e163 r h157 (idx_lt hx159 h157) r r .mk) (.ck 1 r r (.cg r r r r (fun _ => .load1 ia32 r (.s (.s .z)) r r r .mk) (.cg r r r r (fun _ => .fa un42 r sz32 r (o := 1) r r r .mk) (.ck 1 r r trivial))))))))))))) (.ww r fun ex => ?_)
   have hw180 := W_law02_Value (I := I151) hd
   refine .callP call36 r hw180 r r fun v181 hv182 => ?_
   obtain ⟨r179, rfl, hd⟩ := hv182
   refine .so 4 r r r (.cg r r r r (fun _ => .ld1 (j := 0) ia3 hC164 r r r r r .mk) (.cg r r r r (fun _ => .fa un80 r sz3 r (o := o161 + s148.toNat * 2) r r r .mk) (.cg r r r r (fun _ => .ixa un32 sz80 r e163 r h157 (idx_lt hx159 h157) r r .mk) (.ck 1 r r (.cg r r r r (fun _ => .load1 ia32 r (.s (.s .z)) r r r .mk) (.cg r r r r (fun _ => .fa un42 r sz32 r (o := 1) r r r .mk) (.ck 1 r r trivial))))))) (.g r r r (fun _ => .build zv80 un80 BI80 (.c r r r (.t .nil) (.c r r r (.s (.t .nil)) .n)) (by exact ⟨⟨_, _, r, r, r⟩, ⟨⟨_, _, r, r, r⟩, trivial⟩⟩) r r .mk) (.ww r fun ex => ?_))
   refine .buildSlice 1 un32 sz80 zv80 r r (.c r r r .n) r r fun b183 => ?_
   refine .so 5 r r r (.ck 1 r r trivial) (.ww r fun ex => ?_)
   obtain ⟨hl185, hd⟩ := hd
   refine .append (ys := [({ At := x158.At, Val := r179 } : Item)]) 16 (.s (.s (.s (.s .z)))) un32 un32 IN80 r r r r r r r r r (.box .z (.one r) r) hl185 r r fun p186 c187 => ?_
   exact .so 5 r r r trivial (.e2 20 (.ks 1 r (.nilS [6, 7, 5, 4, 2] r r (.drop (.s .z) (.region (.ks 3 r (.nil' fun c w ho hs => ⟨((s144 ++ ([({ At := x158.At, Val := r179 } : Item)])), w64 (s148 + 1)), hd, I151, _, _, hl152, ho.sub ⟨r, r, r, r, r, trivial⟩, hs.pick (.c (.s .z) (.c (.s .z) (.c (.s .z) (.c .z .n))))⟩)))))))
 refine .exitS [6, 5, 4] r r (.drop .z (.sr (.fa un42 r sz3 r (o := 0) r r r (.load1 ia3 r (.s .z) r r r (.ks 1 r (.build zv42 un42 BI42 (.c r r r (.t .nil) (.c r r r (.s (.t .nil)) .n)) (by exact ⟨⟨_, _, r, r, r⟩, ⟨⟨_, _, r, r, r⟩, trivial⟩⟩) r r (.storeA sz42 r r .z (.t (.t .nil)) r r (.nilS [4] r r (.drop (.s .z) ?_)))))))))
 refine .pub (.s .z) fun I189 hl190 R191 => ?_
 have le192 := IH.le.trans le153 hl190
 have le193 := IH.le.trans hl152 hl190
 exact .ret (pret results13 (.w ia42 sz42 r .z r .n) le192 ⟨({ N := r47.N, Items := s144 } : Vec), _, _, r, R191, hd⟩)

theorem W_ref09_Right {I : IH} {a0 : Vec} {p1 : Option Addr} {c2 : Nat} {Q : Bool → Prop} (R3 : RepSl eItem I p1 c2 a0.Items) (hd : ref09_Right a0 Q) :
  PFun prog 37 [.agg #[.int .i64 a0.N, .slice p1 a0.Items.length c2]] I (fun _ => o1_ Q) := by
 refine Fun.enter func37 r ntmps37 r (.c .n) fun w0 M => ?_
 refine .sr (.boxA r r r fun b6 => ?_)
 refine .ks 1 r (.nilS [1] r r (.seq (.sr (.fa un42 r sz3 r (o := 0) r r r (.load1 ia3 r .z r r r (.ks 2 r ?_))))))
 refine splitP hd (fun hb10 hd => ?_) fun hb10 hd => ?_
 · rw [hb10]
   exact .ks 4 r (.nilS [11, 1] r r (.condKT r r (.sr (.ks 1 r (.nilS [2] r r (.drop .z (.ret (pret results37 (.t r .n) (.refl _) ⟨false, r, hd⟩))))))))
 rw [hb10]
 refine .gyes r r r (.fa un42 r sz3 r (o := 0) r r r (.gyes r r r (.load1 ia3 r .z r r r (.ks 2 r (.nilS [11, 1] r r (.condP r hd (fun hb11 hd => ?_) fun hb11 hd => ?_))))))
 · exact .sr (.ks 1 r (.nilS [2] r r (.drop .z (.ret (pret results37 (.t r .n) (.refl _) ⟨false, r, hd⟩)))))
 refine .skipS [1] r r (.seq (.sr (.ks 1 r (.nilS [3, 1] r r (.block (.loop hd (fun (s79 : Int) c w => ∃ I_, IH.le I I_ ∧ Ok ⟨57, [], none⟩ [(1, .pointer (some ⟨b6, 0, none⟩)), (3, .int .i64 s79)] c ∧ Sym w0 M I I_ [pto b6 (.cells #[.int .i64 a0.N, .slice p1 a0.Items.length c2] 42 (0, 0))] w) (fun c w ho hs => ⟨I, (.refl _), ho.sub ⟨r, r, trivial⟩, hs.pick (.c .z .n)⟩) ?_))))))
 rintro s79 next80 hd c w hst
 obtain ⟨I81, hl82, hok, hsym⟩ := hst
 replace R3 := R3.mono hl82
 refine Cod.at hok hsym (.seq (.sr (.ks 1 r (.fa un42 r sz32 r (o := 1) r r r (.load1 ia32 r .z r r r (.len un32 r r r r (.ks 1 r (.nilS [16, 3, 1] r r (.condP r hd (fun hb84 hd => ?_) fun hb84 hd => ?_)))))))))
 · refine .skipS [3, 1] r r (.seq (.block (.seq (.dr [0, 1, 2, 3, 4, 5, 6, 7, 8, 9, 10, 11, 12, 13, 14, 15, 16, 17, 18, 19, 20, 21, 22, 23, 24, 25, 26, 27, 28, 29, 30, 31, 32, 33, 34, 35, 36, 37] 38 (.g r r r (fun _ => .fa un42 r sz32 r (o := 1) r r r .mk) (.g r r r (fun _ => .load1 ia32 r .z r r r .mk) (.fk 1 r ?_)))))))
   obtain ⟨h85, x86, hx87, hd⟩ := hd
   obtain ⟨b88, o89, cs90, e91, hC92, hr93⟩ := R3.2 _ _ hx87
   cases hr93
   refine .g r r r (fun _ => .ixa un32 sz80 r e91 r h85 (idx_lt hx87 h85) r r .mk) (.g r r r (fun _ => .fa un80 r sz3 r (o := o89 + s79.toNat * 2) r r r .mk) (.g r r r (fun _ => .ld1 (j := 0) ia3 hC92 r r r r r .mk) (.fk 2 r ?_)))
   refine splitP hd (fun hb94 hd => ?_) fun hb94 hd => ?_
   · rw [hb94]
     exact .fk 30 r (.e2 38 (.nilS [56, 3, 1] r r (.condKT r r (.sr (.ks 1 r (.nilS [2] r r (.drop .z (.ret (pret results37 (.t r .n) hl82 ⟨false, r, hd⟩)))))))))
   rw [hb94]
   refine .g r r r (fun _ => .gyes r r r (.fa un42 r sz32 r (o := 1) r r r .mk)) (.g r r r (fun _ => .gyes r r r (.load1 ia32 r .z r r r .mk)) (.fk 1 r ?_))
   obtain ⟨h95, x96, hx97, hd⟩ := hd
   obtain ⟨b98, o99, cs100, e101, hC102, hr103⟩ := R3.2 _ _ hx97
   cases hr103
   refine .g r r r (fun _ => .gyes r r r (.ixa un32 sz80 r e101 r h95 (idx_lt hx97 h95) r r .mk)) (.g r r r (fun _ => .gyes r r r (.fa un80 r sz3 r (o := o99 + s79.toNat * 2) r r r .mk)) (.g r r r (fun _ => .gyes r r r (.ld1 (j := 0) ia3 hC102 r r r r r .mk)) (.g r r r (fun _ => .gyes r r r (.fa un42 r sz3 r (o := 0) r r r .mk)) (.g r r r (fun _ => .gyes r r r (.load1 ia3 r .z r r r .mk)) (.fk 3 r ?_)))))
   refine splitP hd (fun hb104 hd => ?_) fun hb104 hd => ?_
   · rw [hb104]
     exact .fk 19 r (.e2 38 (.nilS [56, 3, 1] r r (.condKT r r (.sr (.ks 1 r (.nilS [2] r r (.drop .z (.ret (pret results37 (.t r .n) hl82 ⟨false, r, hd⟩)))))))))
   rw [hb104]
   refine .fk 3 r ?_
   refine splitP hd (fun hb105 hd => ?_) fun hb105 hd => ?_
   · rw [hb105]
     refine .g r r r (fun _ => .gyes r r r (.fa un42 r sz32 r (o := 1) r r r .mk)) (.g r r r (fun _ => .gyes r r r (.load1 ia32 r .z r r r .mk)) (.fk 1 r ?_))
     obtain ⟨h106, x107, hx108, hd⟩ := hd
     obtain ⟨b109, o110, cs111, e112, hC113, hr114⟩ := R3.2 _ _ hx108
     cases hr114
     refine .g r r r (fun _ => .gyes r r r (.ixa un32 sz80 r e112 r h106 (idx_lt hx108 h106) r r .mk)) (.g r r r (fun _ => .gyes r r r (.fa un80 r sz3 r (o := o110 + s79.toNat * 2) r r r .mk)) (.g r r r (fun _ => .gyes r r r (.ld1 (j := 0) ia3 hC113 r r r r r .mk)) (.g r r r (fun _ => .gyes r r r (.fa un42 r sz32 r (o := 1) r r r .mk)) (.g r r r (fun _ => .gyes r r r (.load1 ia32 r .z r r r .mk)) (.fk 2 r ?_)))))
     obtain ⟨h115, x116, hx117, hd⟩ := hd
     obtain ⟨b118, o119, cs120, e121, hC122, hr123⟩ := R3.2 _ _ hx117
     cases hr123
     refine .g r r r (fun _ => .gyes r r r (.ixa un32 sz80 r e121 r h115 (idx_lt hx117 h115) r r .mk)) (.g r r r (fun _ => .gyes r r r (.fa un80 r sz3 r (o := o119 + (w64 (s79 - 1)).toNat * 2) r r r .mk)) (.g r r r (fun _ => .gyes r r r (.ld1 (j := 0) ia3 hC122 r r r r r .mk)) (.fk 3 r (.e2 38 (.nilS [56, 3, 1] r r (.condP r hd (fun hb124 hd => ?_) fun hb124 hd => ?_))))))
     · exact .sr (.ks 1 r (.nilS [2] r r (.drop .z (.ret (pret results37 (.t r .n) hl82 ⟨false, r, hd⟩)))))
     exact .skipS [3, 1] r r (.region (.ks 3 r (.nil' fun c w ho hs => ⟨(w64 (s79 + 1)), hd, I81, hl82, ho.sub ⟨r, r, trivial⟩, hs.pick (.c .z .n)⟩)))
   rw [hb105]
   exact .fk 16 r (.e2 38 (.nilS [56, 3, 1] r r (.condKF r r (.skipS [3, 1] r r (.region (.ks 3 r (.nil' fun c w ho hs => ⟨(w64 (s79 + 1)), hd, I81, hl82, ho.sub ⟨r, r, trivial⟩, hs.pick (.c .z .n)⟩)))))))
 exact .exitS [] r r (.drop .z (.sr (.ks 1 r (.nilS [2] r r (.ret (pret results37 (.t r .n) hl82 ⟨true, r, hd⟩))))))

theorem W_ref09_Sure {I : IH} {a0 : Vec} {p1 : Option Addr} {c2 : Nat} {Q : Vec → Prop} (R3 : RepSl eItem I p1 c2 a0.Items) (hd : ref09_Sure a0 Q) :
  PFun prog 14 [.agg #[.int .i64 a0.N, .slice p1 a0.Items.length c2]] I (o6_ Q) := by
 refine Fun.enter func14 r ntmps14 r (.c .n) fun w0 M => ?_
 refine .sr (.boxA r r r fun b11 => ?_)
 refine .allocA zv42 r r fun b13 => ?_
 refine .nilS [2, 1] r r (.seq (.sr (.loadW ia42 sz42 r (.s .z) r r r ?_)))
 have hw16 := W_ref09_Right (I := I) R3 hd
 refine .callP call37 r hw16 r r fun v17 hv18 => ?_
 obtain ⟨r15, rfl, hd⟩ := hv18
 refine .nilS [4, 2, 1] r r (.condP r hd (fun hb19 hd => ?_) fun hb19 hd => ?_)
 · exact .sr (.loadW ia42 sz42 r (.s .z) r r r (.storeA sz42 r r .z (.t (.t .nil)) r r (.nilS [2] r r (.drop (.s .z) (.ret (pret results14 (.w ia42 sz42 r .z r .n) (.refl _) ⟨a0, _, _, r, R3, hd⟩))))))
 exact .skipS [2] r r (.drop (.s .z) (.sr (.build zv42 un42 BI42 .n (by exact trivial) r r (.storeA sz42 r r .z (.t (.t .nil)) r r (.nilS [2] r r (.ret (pret results14 (.w ia42 sz42 r .z r .n) (.refl _) ⟨({ N := 0, Items := ([] : List Item) } : Vec), _, _, r, (.nil _ _ _), hd⟩)))))))

theorem W_ref03_words {I : IH} {a0 : Int} {Q : Int → Prop}  (hd : ref03_words a0 Q) :
  PFun prog 118 [.int .i64 a0] I (fun _ => o0_ Q) := by
 refine Fun.enter func118 r ntmps118 r (.c .n) fun w0 M => ?_
 refine .sr (.ks 1 r (.nilS [0] r r (.seq ?_)))
 refine Cod.joinQ (σ := Int) hd (fun (s3 : Int) c w => ∃ I_, IH.le I I_ ∧ Ok ⟨10, [], none⟩ [(0, .int .i64 s3)] c ∧ Sym w0 M I I_ [] w) (fun k4 hd => ?_) ?_
 · skip
   refine .sr (.ks 2 r (.nilS [4, 0] r r (.condP r hd (fun hb5 hd => ?_) fun hb5 hd => ?_)))
   · exact .region (.ks 1 r (.nil' fun c w ho hs => ⟨4096, hd, I, (.refl _), ho.sub ⟨r, trivial⟩, hs.pick .n⟩))
   exact .skip' fun c w ho hs => ⟨a0, hd, I, (.refl _), ho.sub ⟨r, trivial⟩, hs.pick .n⟩
 rintro s3 hd c w hst
 obtain ⟨I6, hl7, hok, hsym⟩ := hst
 refine Cod.at hok hsym (.seq (.sr (.ks 2 r (.nilS [6, 0] r r (.condP r hd (fun hb8 hd => ?_) fun hb8 hd => ?_)))))
 · exact .sr (.ks 1 r (.nilS [2] r r (.ret (pret results118 (.t r .n) hl7 ⟨0, r, hd⟩))))
 exact .skipS [0] r r (.sr (.ks 2 r (.quo r r (by decide) r r (.ks 1 r (.nilS [2] r r (.ret (pret results118 (.t r .n) hl7 ⟨(w64 ((w64 (s3 + 63)).tdiv 64)), r, hd⟩)))))))

theorem W_ref03_New {I : IH} {a0 : Int} {Q : (List Int) → Prop}  (hd : ref03_New a0 Q) :
  PFun prog 85 [.int .i64 a0] I (fun I_ v => ∃ r p1 c2, v = .slice p1 r.length c2 ∧ RepSl eU64 I_ p1 c2 r ∧ Q r) := by
 refine Fun.enter func85 r ntmps85 r (.c .n) fun w0 M => ?_
 refine .sr (.ks 1 r (.nilS [0] r r (.sr (.ks 1 r ?_))))
 have hw5 := W_ref03_words (I := I) hd
 refine .callP call118 r hw5 r r fun v6 hv7 => ?_
 obtain ⟨r4, rfl, hd⟩ := hv7
 obtain ⟨h8, h9, hd⟩ := hd
 refine .make (El := eU64) (zv := 0) 8 un33 IN81 r r r r r r h8 h9 r r r fun b10 => ?_
 refine .ks 1 r (.nilS [2] r r (.pub .z fun I13 hl14 R15 => ?_))
 exact .ret (pret results85 (.t r .n) hl14 ⟨(List.replicate r4.toNat 0), _, _, r, R15, hd⟩)

theorem W_ref10_New {I : IH} {a0 : Int} {Q : Dense → Prop}  (hd : ref10_New a0 Q) :
  OFun prog 51 [.int .i64 a0] I (o2_ Q) := by
 refine Fun.enter func51 r ntmps51 r (.c .n) fun w0 M => ?_
 refine .sr (.allocA zv53 r r fun b9 => ?_)
 refine .nilS [2, 0] r r (.seq (.sr (.ks 3 r ?_)))
 refine splitP hd (fun hb11 hd => ?_) fun hb11 hd => ?_
 · rw [hb11]
   refine .ks 3 r (.nilS [8, 2, 0] r r (.condKT r r (.region (.ks 1 r (.nilS [0, 2] r r (.seq (.dr [0, 1, 3, 4, 2, 999, 5] 6 (.fk 3 r ?_))))))))
   obtain ⟨h13, h14, hd⟩ := hd
   refine .a (fun b => .slice (some ⟨b, 0, none⟩) (List.replicate (Int.toNat 0) (0 : Int)).length (Int.toNat 0)) (fun b => OwnSl eI64 2 (some ⟨b, 0, none⟩) (Int.toNat 0) (List.replicate (Int.toNat 0) (0 : Int))) r r r r (fun _ L hL ex => .make (El := eI64) (zv := 0) 8 un37 IN2 r r r r r r h13 h14 r r r fun b => .mk (val := fun b => .slice (some ⟨b, 0, none⟩) (List.replicate (Int.toNat 0) (0 : Int)).length (Int.toNat 0)) (atom := fun b => OwnSl eI64 2 (some ⟨b, 0, none⟩) (Int.toNat 0) (List.replicate (Int.toNat 0) (0 : Int))) hL b) (.ww r fun ex => ?_)
   have hw24 := W_ref03_New (I := I) hd
   refine .call call85 r hw24 r r fun v19 I16 hl17 hv18 => ?_
   obtain ⟨r15, p21, c22, rfl, R23, hd⟩ := hv18
   exact .so 1 r r r (.ck 2 r r trivial) (.b r fun b25 => DrawD.nop (.g r r r (fun _ => .build zv53 un53 BI53 (.c r r r (.t .nil) (.c r r r (.s (.t .nil)) (.c r r r (.s (.s (.t .nil))) .n))) (by exact ⟨⟨_, _, r, r, r⟩, ⟨⟨_, _, r, r, r⟩, ⟨⟨_, _, r, r, r⟩, trivial⟩⟩⟩) r r .mk) (.e2 6 (.storeA sz53 r r .z (.t (.t (.t .nil))) r r (.nilS [2] r r (.ret (oret results51 (.w ia53 sz53 r .z r .n) hl17 (.c (.s .z) .n) ⟨({ N := 0, Has := r15, Vals := (List.replicate (Int.toNat 0) (0 : Int)) } : Dense), _, _, _, _, r, R23, r, hd⟩)))))))
 rw [hb11]
 refine .ks 3 r (.nilS [8, 2, 0] r r (.condP r hd (fun hb26 hd => ?_) fun hb26 hd => ?_))
 · refine .region (.ks 1 r (.nilS [0, 2] r r (.seq (.dr [0, 1, 3, 4, 2, 999, 5] 6 (.fk 3 r ?_)))))
   obtain ⟨h28, h29, hd⟩ := hd
   refine .a (fun b => .slice (some ⟨b, 0, none⟩) (List.replicate (Int.toNat 0) (0 : Int)).length (Int.toNat 0)) (fun b => OwnSl eI64 2 (some ⟨b, 0, none⟩) (Int.toNat 0) (List.replicate (Int.toNat 0) (0 : Int))) r r r r (fun _ L hL ex => .make (El := eI64) (zv := 0) 8 un37 IN2 r r r r r r h28 h29 r r r fun b => .mk (val := fun b => .slice (some ⟨b, 0, none⟩) (List.replicate (Int.toNat 0) (0 : Int)).length (Int.toNat 0)) (atom := fun b => OwnSl eI64 2 (some ⟨b, 0, none⟩) (Int.toNat 0) (List.replicate (Int.toNat 0) (0 : Int))) hL b) (.ww r fun ex => ?_)
   have hw39 := W_ref03_New (I := I) hd
   refine .call call85 r hw39 r r fun v34 I31 hl32 hv33 => ?_
   obtain ⟨r30, p36, c37, rfl, R38, hd⟩ := hv33
   exact .so 1 r r r (.ck 2 r r trivial) (.b r fun b40 => DrawD.nop (.g r r r (fun _ => .build zv53 un53 BI53 (.c r r r (.t .nil) (.c r r r (.s (.t .nil)) (.c r r r (.s (.s (.t .nil))) .n))) (by exact ⟨⟨_, _, r, r, r⟩, ⟨⟨_, _, r, r, r⟩, ⟨⟨_, _, r, r, r⟩, trivial⟩⟩⟩) r r .mk) (.e2 6 (.storeA sz53 r r .z (.t (.t (.t .nil))) r r (.nilS [2] r r (.ret (oret results51 (.w ia53 sz53 r .z r .n) hl32 (.c (.s .z) .n) ⟨({ N := 0, Has := r30, Vals := (List.replicate (Int.toNat 0) (0 : Int)) } : Dense), _, _, _, _, r, R38, r, hd⟩)))))))
 refine .skipS [2, 0] r r (.seq (.dr [0, 1, 3, 4, 2, 999, 5] 6 (.fk 3 r ?_)))
 obtain ⟨h42, h43, hd⟩ := hd
 refine .a (fun b => .slice (some ⟨b, 0, none⟩) (List.replicate a0.toNat (0 : Int)).length a0.toNat) (fun b => OwnSl eI64 2 (some ⟨b, 0, none⟩) a0.toNat (List.replicate a0.toNat (0 : Int))) r r r r (fun _ L hL ex => .make (El := eI64) (zv := 0) 8 un37 IN2 r r r r r r h42 h43 r r r fun b => .mk (val := fun b => .slice (some ⟨b, 0, none⟩) (List.replicate a0.toNat (0 : Int)).length a0.toNat) (atom := fun b => OwnSl eI64 2 (some ⟨b, 0, none⟩) a0.toNat (List.replicate a0.toNat (0 : Int))) hL b) (.ww r fun ex => ?_)
 have hw53 := W_ref03_New (I := I) hd
 refine .call call85 r hw53 r r fun v48 I45 hl46 hv47 => ?_
 obtain ⟨r44, p50, c51, rfl, R52, hd⟩ := hv47
 exact .so 1 r r r (.ck 2 r r trivial) (.b r fun b54 => DrawD.nop (.g r r r (fun _ => .build zv53 un53 BI53 (.c r r r (.t .nil) (.c r r r (.s (.t .nil)) (.c r r r (.s (.s (.t .nil))) .n))) (by exact ⟨⟨_, _, r, r, r⟩, ⟨⟨_, _, r, r, r⟩, ⟨⟨_, _, r, r, r⟩, trivial⟩⟩⟩) r r .mk) (.e2 6 (.storeA sz53 r r .z (.t (.t (.t .nil))) r r (.nilS [2] r r (.ret (oret results51 (.w ia53 sz53 r .z r .n) hl46 (.c (.s .z) .n) ⟨({ N := a0, Has := r44, Vals := (List.replicate a0.toNat (0 : Int)) } : Dense), _, _, _, _, r, R52, r, hd⟩)))))))

theorem W_ref03_set {I : IH} {a0 : List Int} {a1 : Int} {a2 : Bool} {p1 : Option Addr} {c2 : Nat} {Q : (List Int) → Prop} (R3 : RepSl eU64 I p1 c2 a0) (hd : ref03_set a0 a1 a2 Q) :
  PFun prog 119 [.slice p1 a0.length c2, .int .i64 a1, .bool a2] I (o13_ Q) := by
 refine Fun.enter func119 r ntmps119 r (.c (.c (.c .n))) fun w0 M => ?_
 refine .sr (.ks 1 r (.nilS [2, 1, 0] r r (.sr (.ks 1 r (.nilS [7, 2, 1, 0] r r (.sr (.ks 2 r (.own0 eU64 81 ?_))))))))
 obtain ⟨hl13, hd⟩ := hd
 refine .append (ys := a0) 8 .z un33 un33 IN81 r r r r r r r r r (.imm R3 r) hl13 r r fun p14 c15 => ?_
 refine .ks 1 r (.nilS [7, 2, 1, 0] r r (.seq (.sr (.ks 3 r ?_))))
 refine splitP hd (fun hb19 hd => ?_) fun hb19 hd => ?_
 · rw [hb19]
   refine .ks 6 r (.nilS [20, 7, 2, 1] r r (.condKT r r (.sr (.ks 2 r (.nilS [6] r r (.pub .z fun I20 hl21 R22 => ?_))))))
   exact .ret (pret results119 (.t r .n) hl21 ⟨(([] : List Int) ++ a0), _, _, r, R22, hd⟩)
 rw [hb19]
 refine .ks 1 r (.gyes r r r (.quo r r (by decide) r r (.ks 1 r (.gyes r r r (.len un33 r r r r (.ks 2 r (.nilS [20, 7, 2, 1] r r (.condP r hd (fun hb23 hd => ?_) fun hb23 hd => ?_))))))))
 · refine .sr (.ks 2 r (.nilS [6] r r (.pub .z fun I24 hl25 R26 => ?_)))
   exact .ret (pret results119 (.t r .n) hl25 ⟨(([] : List Int) ++ a0), _, _, r, R26, hd⟩)
 refine .skipS [7, 2, 1] r r (.sr (.ks 1 r (.rem r r (by decide) r r (.conv un3 underlying125 r r r ?_))))
 obtain ⟨hz28, hd⟩ := hd
 refine .shl' r r hz28 r r (.ks 1 r (.nilS [8, 7, 2, 1] r r (.seq (.sr (.ks 1 r (.nilS [26, 8, 7, 1] r r (.condP r hd (fun hb29 hd => ?_) fun hb29 hd => ?_)))))))
 · refine .region (.ks 2 r (.quo r r (by decide) r r (.ks 2 r (.quo r r (by decide) r r ?_))))
   obtain ⟨h30, x31, hx32, hd⟩ := hd
   refine .ownNe .z (idx_ne hx32) fun b33 e34 => ?_
   cases e34
   refine .ixa0 un33 sz81 r r h30 (idx_lt hx32 h30) r r (.lo1 (j := 0) ia81 .z hx32 r r r r r (.ks 2 r ?_))
   obtain ⟨h35, x36, hx37, hd⟩ := hd
   refine .ixa0 un33 sz81 r r h35 (idx_lt hx37 h35) r r (.stO1 (j := 0) (v' := (bor .u64 x31 (shl .u64 1 (IntKind.wrap .u64 (a1.tmod 64))))) sz81 .z hx37 r r r (.t .nil) r (.sub (E' := [(1, _), (7, .slice (some ⟨b33, 0, none⟩) ((([] : List Int) ++ a0).set ((w64 (a1.tdiv 64)).toNat) (bor .u64 x31 (shl .u64 1 (IntKind.wrap .u64 (a1.tmod 64))))).length c15), (8, _), (26, _), (27, .slice (some ⟨b33, 0, none⟩) ((([] : List Int) ++ a0).set ((w64 (a1.tdiv 64)).toNat) (bor .u64 x31 (shl .u64 1 (IntKind.wrap .u64 (a1.tmod 64))))).length c15), (28, _), (29, _), (30, .slice (some ⟨b33, 0, none⟩) ((([] : List Int) ++ a0).set ((w64 (a1.tdiv 64)).toNat) (bor .u64 x31 (shl .u64 1 (IntKind.wrap .u64 (a1.tmod 64))))).length c15), (31, _), (32, _), (33, _), (34, _), (35, _), (36, _), (37, _)]) ⟨r, (by simp only [List.length_set]; rfl), r, r, (by simp only [List.length_set]; rfl), r, r, (by simp only [List.length_set]; rfl), r, r, r, r, r, r, r, trivial⟩ (.nilS [7] r r (.sr (.ks 2 r (.nilS [6] r r (.pub .z fun I38 hl39 R40 => ?_)))))))
   exact .ret (pret results119 (.t r .n) hl39 ⟨((([] : List Int) ++ a0).set ((w64 (a1.tdiv 64)).toNat) (bor .u64 x31 (shl .u64 1 (IntKind.wrap .u64 (a1.tmod 64))))), _, _, r, R40, hd⟩)
 refine .region (.ks 2 r (.quo r r (by decide) r r (.ks 2 r (.quo r r (by decide) r r ?_))))
 obtain ⟨h41, x42, hx43, hd⟩ := hd
 refine .ownNe .z (idx_ne hx43) fun b44 e45 => ?_
 cases e45
 refine .ixa0 un33 sz81 r r h41 (idx_lt hx43 h41) r r (.lo1 (j := 0) ia81 .z hx43 r r r r r (.ks 2 r ?_))
 obtain ⟨h46, x47, hx48, hd⟩ := hd
 refine .ixa0 un33 sz81 r r h46 (idx_lt hx48 h46) r r (.stO1 (j := 0) (v' := (bandn .u64 x42 (shl .u64 1 (IntKind.wrap .u64 (a1.tmod 64))))) sz81 .z hx48 r r r (.t .nil) r (.sub (E' := [(1, _), (7, .slice (some ⟨b44, 0, none⟩) ((([] : List Int) ++ a0).set ((w64 (a1.tdiv 64)).toNat) (bandn .u64 x42 (shl .u64 1 (IntKind.wrap .u64 (a1.tmod 64))))).length c15), (8, _), (26, _), (38, .slice (some ⟨b44, 0, none⟩) ((([] : List Int) ++ a0).set ((w64 (a1.tdiv 64)).toNat) (bandn .u64 x42 (shl .u64 1 (IntKind.wrap .u64 (a1.tmod 64))))).length c15), (39, _), (40, _), (41, .slice (some ⟨b44, 0, none⟩) ((([] : List Int) ++ a0).set ((w64 (a1.tdiv 64)).toNat) (bandn .u64 x42 (shl .u64 1 (IntKind.wrap .u64 (a1.tmod 64))))).length c15), (42, _), (43, _), (44, _), (45, _), (46, _), (47, _), (48, _)]) ⟨r, (by simp only [List.length_set]; rfl), r, r, (by simp only [List.length_set]; rfl), r, r, (by simp only [List.length_set]; rfl), r, r, r, r, r, r, r, trivial⟩ (.nilS [7] r r (.sr (.ks 2 r (.nilS [6] r r (.pub .z fun I49 hl50 R51 => ?_)))))))
 exact .ret (pret results119 (.t r .n) hl50 ⟨((([] : List Int) ++ a0).set ((w64 (a1.tdiv 64)).toNat) (bandn .u64 x42 (shl .u64 1 (IntKind.wrap .u64 (a1.tmod 64))))), _, _, r, R51, hd⟩)

theorem W_ref03_Put {I : IH} {a0 : List Int} {a1 : Int} {p1 : Option Addr} {c2 : Nat} {Q : (List Int) → Prop} (R3 : RepSl eU64 I p1 c2 a0) (hd : ref03_Put a0 a1 Q) :
  PFun prog 86 [.slice p1 a0.length c2, .int .i64 a1] I (o13_ Q) := by
 refine Fun.enter func86 r ntmps86 r (.c (.c .n)) fun w0 M => ?_
 refine .sr (.ks 1 r (.nilS [1, 0] r r (.sr (.ks 2 r ?_))))
 have hw16 := W_ref03_set (I := I) R3 hd
 refine .call call119 r hw16 r r fun v11 I8 hl9 hv10 => ?_
 obtain ⟨r7, p13, c14, rfl, R15, hd⟩ := hv10
 replace R3 := R3.mono hl9
 exact .ks 1 r (.nilS [4] r r (.ret (pret results86 (.t r .n) hl9 ⟨r7, _, _, r, R15, hd⟩)))

theorem W_ref03_Of {I : IH} {a0 : Int} {a1 : List Int} {p1 : Option Addr} {c2 : Nat} {Q : (List Int) → Prop} (R3 : RepSl eI64 I p1 c2 a1) (hd : ref03_Of a0 a1 Q) :
  PFun prog 52 [.int .i64 a0, .slice p1 a1.length c2] I (o13_ Q) := by
 refine Fun.enter func52 r ntmps52 r (.c (.c .n)) fun w0 M => ?_
 refine .sr (.ks 1 r (.nilS [1, 0] r r (.sr (.ks 1 r ?_))))
 have hw26 := W_ref03_New (I := I) hd
 refine .call call85 r hw26 r r fun v21 I18 hl19 hv20 => ?_
 obtain ⟨r17, p23, c24, rfl, R25, hd⟩ := hv20
 replace R3 := R3.mono hl19
 refine .ks 1 r (.nilS [5, 1, 0] r r (.seq (.sr (.ks 1 r (.nilS [6, 5, 1, 0] r r (.block (.loop hd (fun (s : (List Int) × Int) c w => match s with | (s146, s150) => ∃ I_ p147 c148, IH.le I18 I_ ∧ RepSl eU64 I_ p147 c148 s146 ∧ Ok ⟨42, [], none⟩ [(0, .int .i64 a0), (1, .slice p1 a1.length c2), (5, .slice p147 s146.length c148), (6, .int .i64 s150)] c ∧ Sym w0 M I I_ [] w) (fun c w ho hs => ⟨I18, _, _, (.refl _), R25, ho.sub ⟨r, r, r, r, trivial⟩, hs.pick .n⟩) ?_)))))))
 rintro ⟨s146, s150⟩ next151 hd c w hst
 obtain ⟨I152, p147, c148, hl153, R149, hok, hsym⟩ := hst
 have le154 := IH.le.trans hl19 hl153
 replace R3 := R3.mono hl153
 refine Cod.at hok hsym (.seq (.sr (.ks 2 r (.len un36 r r r r (.ks 1 r (.nilS [12, 6, 5, 1, 0] r r (.condP r hd (fun hb156 hd => ?_) fun hb156 hd => ?_)))))))
 · refine .skipS [6, 5, 1, 0] r r (.seq (.block (.sr (.ks 2 r ?_))))
   obtain ⟨h157, x158, hx159, hd⟩ := hd
   obtain ⟨b160, o161, cs162, e163, hC164, hr165⟩ := R3.2 _ _ hx159
   cases hr165
   refine .ixa un36 sz3 r e163 r h157 (idx_lt hx159 h157) r r (.ld1 (j := 0) ia3 hC164 r r r r r (.ks 2 r ?_))
   refine splitP hd (fun hb166 hd => ?_) fun hb166 hd => ?_
   · rw [hb166]
     refine .ks 2 r ?_
     obtain ⟨h167, x168, hx169, hd⟩ := hd
     obtain ⟨b170, o171, cs172, e173, hC174, hr175⟩ := R3.2 _ _ hx169
     cases hr175
     refine .gyes r r r (.ixa un36 sz3 r e173 r h167 (idx_lt hx169 h167) r r (.gyes r r r (.ld1 (j := 0) ia3 hC174 r r r r r (.ks 4 r ?_))))
     refine splitP hd (fun hb176 hd => ?_) fun hb176 hd => ?_
     · rw [hb176]
       refine .ks 2 r ?_
       obtain ⟨h177, x178, hx179, hd⟩ := hd
       obtain ⟨b180, o181, cs182, e183, hC184, hr185⟩ := R3.2 _ _ hx179
       cases hr185
       refine .gyes r r r (.ixa un36 sz3 r e183 r h177 (idx_lt hx179 h177) r r (.gyes r r r (.ld1 (j := 0) ia3 hC184 r r r r r (.ks 2 r (.nilS [34, 6, 5, 1, 0] r r (.condP r hd (fun hb186 hd => ?_) fun hb186 hd => ?_))))))
       · refine .region (.ks 3 r ?_)
         obtain ⟨h187, x188, hx189, hd⟩ := hd
         obtain ⟨b190, o191, cs192, e193, hC194, hr195⟩ := R3.2 _ _ hx189
         cases hr195
         refine .ixa un36 sz3 r e193 r h187 (idx_lt hx189 h187) r r (.ld1 (j := 0) ia3 hC194 r r r r r ?_)
         have hw205 := W_ref03_Put (I := I152) R149 hd
         refine .call call86 r hw205 r r fun v200 I197 hl198 hv199 => ?_
         obtain ⟨r196, p202, c203, rfl, R204, hd⟩ := hv199
         have le206 := IH.le.trans le154 hl198
         have le207 := IH.le.trans hl153 hl198
         replace R3 := R3.mono hl198
         replace R149 := R149.mono hl198
         replace hC194 := hC194.mono hl198
         exact .ks 1 r (.nilS [5, 6, 1, 0] r r (.region (.ks 3 r (.nil' fun c w ho hs => ⟨(r196, w64 (s150 + 1)), hd, I197, _, _, le207, R204, ho.sub ⟨r, r, r, r, trivial⟩, hs.pick .n⟩))))
       exact .skipS [6, 5, 1, 0] r r (.region (.ks 3 r (.nil' fun c w ho hs => ⟨(s146, w64 (s150 + 1)), hd, I152, _, _, hl153, R149, ho.sub ⟨r, r, r, r, trivial⟩, hs.pick .n⟩)))
     rw [hb176]
     exact .ks 6 r (.nilS [34, 6, 5, 1, 0] r r (.condKF r r (.skipS [6, 5, 1, 0] r r (.region (.ks 3 r (.nil' fun c w ho hs => ⟨(s146, w64 (s150 + 1)), hd, I152, _, _, hl153, R149, ho.sub ⟨r, r, r, r, trivial⟩, hs.pick .n⟩))))))
   rw [hb166]
   exact .ks 14 r (.nilS [34, 6, 5, 1, 0] r r (.condKF r r (.skipS [6, 5, 1, 0] r r (.region (.ks 3 r (.nil' fun c w ho hs => ⟨(s146, w64 (s150 + 1)), hd, I152, _, _, hl153, R149, ho.sub ⟨r, r, r, r, trivial⟩, hs.pick .n⟩))))))
 exact .exitS [5] r r (.sr (.ks 2 r (.nilS [4] r r (.ret (pret results52 (.t r .n) le154 ⟨s146, _, _, r, R149, hd⟩)))))

theorem W_ref10_Of {I : IH} {a0 : Vec} {p1 : Option Addr} {c2 : Nat} {Q : Dense → Prop} (R3 : RepSl eItem I p1 c2 a0.Items) (hd : ref10_Of a0 Q) :
  PFun prog 19 [.agg #[.int .i64 a0.N, .slice p1 a0.Items.length c2]] I (o14_ Q) := by
 refine Fun.enter func19 r ntmps19 r (.c .n) fun w0 M => ?_
 refine .sr (.boxA r r r fun b14 => ?_)
 refine .allocA zv53 r r fun b16 => ?_
 refine .nilS [2, 1] r r (.sr (.loadW ia42 sz42 r (.s .z) r r r ?_))
 have hw37 := W_ref09_Sure (I := I) R3 hd
 refine .call call14 r hw37 r r fun v32 I29 hl30 hv31 => ?_
 obtain ⟨r28, p34, c35, rfl, R36, hd⟩ := hv31
 replace R3 := R3.mono hl30
 refine .storeA sz42 r r (.s .z) (.t (.t .nil)) r r (.nilS [2, 1] r r (.sr (.fa un42 r sz3 r (o := 0) r r r (.load1 ia3 r (.s .z) r r r ?_))))
 have hw68 := W_ref10_New (I := I29) hd
 refine .callO call51 r hw68 r r fun v59 I56 l60 hl57 hv58 => ?_
 obtain ⟨r55, p61, c62, p64, c65, rfl, R63, rfl, hd⟩ := hv58
 have le69 := IH.le.trans hl30 hl57
 replace R36 := R36.mono hl57
 refine .allocA zv53 r r fun b70 => ?_
 refine .storeA sz53 r r .z (.t (.t (.t .nil))) r r (.nilS [3, 2, 1] r r (.sr (.ks 1 r (.nilS [4, 3, 2, 1] r r (.seq (.sr (.ks 1 r (.nilS [5, 4, 3, 2, 1] r r (.block ?_)))))))))
 refine .own0 eI64 3 (.loop hd (fun (s : (List Int) × (List Int) × Int) c w => match s with | (s429, s433, s437) => ∃ I_ p430 c431 p434 c435, IH.le I56 I_ ∧ Ok ⟨48, [], none⟩ [(1, .pointer (some ⟨b14, 0, none⟩)), (2, .pointer (some ⟨b16, 0, none⟩)), (3, .pointer (some ⟨b70, 0, none⟩)), (4, .slice p434 s433.length c435), (5, .int .i64 s437)] c ∧ Sym w0 M I I_ [pto b14 (.cells #[.int .i64 r28.N, .slice p34 r28.Items.length c35] 42 (0, 0)), pto b16 (.cells #[.int .i64 0, .slice none 0 0, .slice none 0 0] 53 (0, 0)), pto b70 (.cells #[.int .i64 r55.N, .slice p61 r55.Has.length c62, .slice p430 s429.length c431] 53 (0, 0)), OwnSl eI64 2 p430 c431 s429, OwnSl eI64 3 p434 c435 s433] w) (fun c w ho hs => ⟨I56, _, _, _, _, (.refl _), ho.sub ⟨r, r, r, r, r, trivial⟩, hs.pick (.c (.s (.s (.s (.s .z)))) (.c (.s (.s (.s .z))) (.c (.s .z) (.c (.s .z) (.c .z .n)))))⟩) ?_)
 rintro ⟨s429, s433, s437⟩ next439 hd c w hst
 obtain ⟨I440, p430, c431, p434, c435, hl441, hok, hsym⟩ := hst
 have le442 := IH.le.trans le69 hl441
 replace R36 := R36.mono hl441
 replace R63 := R63.mono hl441
 refine Cod.at hok hsym (.seq (.sr (.ks 1 r (.fa un42 r sz32 r (o := 1) r r r (.load1 ia32 r .z r r r (.len un32 r r r r (.ks 1 r (.nilS [15, 5, 4, 3, 2, 1] r r (.condP r hd (fun hb444 hd => ?_) fun hb444 hd => ?_)))))))))
 · refine .skipS [5, 4, 3, 2, 1] r r (.seq (.block (.sr (.ks 1 r (.fa un42 r sz32 r (o := 1) r r r (.load1 ia32 r .z r r r (.ks 1 r ?_)))))))
   obtain ⟨h460, x461, hx462, hd⟩ := hd
   obtain ⟨b463, o464, cs465, e466, hC467, hr468⟩ := R36.2 _ _ hx462
   cases hr468
   refine .ixa un32 sz80 r e466 r h460 (idx_lt hx462 h460) r r (.fa un80 r sz3 r (o := o464 + s437.toNat * 2) r r r (.ld1 (j := 0) ia3 hC467 r r r r r (.buildSlice 1 un36 sz3 zv3 r r (.c r r r .n) r r fun b469 => ?_)))
   obtain ⟨hl471, hd⟩ := hd
   refine .append (ys := [x461.At]) 8 (.s (.s (.s (.s (.s .z))))) un36 un36 IN3 r r r r r r r r r (.box .z (.one r) r) hl471 r r fun p472 c473 => ?_
   refine .ks 1 r (.nilS [4, 5, 3, 2, 1] r r (.drop (.s .z) (.ownF .z fun hne475 => ?_)))
   refine .ownF (.s (.s (.s (.s .z)))) fun hne476 => ?_
   refine .dr [0, 1, 2, 3, 4, 5, 6, 7, 8, 9, 10, 11, 12, 13] 14 (.g r r r (fun _ => .fa un53 r sz37 r (o := 2) r r r .mk) (.g r r r (fun _ => .load1 ia37 r (.s (.s (.s .z))) r r r .mk) (.g r r r (fun _ => .fa un42 r sz32 r (o := 1) r r r .mk) (.g r r r (fun _ => .load1 ia32 r (.s .z) r r r .mk) (.fk 1 r ?_)))))
   obtain ⟨h477, x478, hx479, hd⟩ := hd
   obtain ⟨b480, o481, cs482, e483, hC484, hr485⟩ := R36.2 _ _ hx479
   cases hr485
   refine .g r r r (fun _ => .ixa un32 sz80 r e483 r h477 (idx_lt hx479 h477) r r .mk) (.g r r r (fun _ => .fa un80 r sz3 r (o := o481 + s437.toNat * 2) r r r .mk) (.g r r r (fun _ => .ld1 (j := 0) ia3 hC484 r r r r r .mk) (.g r r r (fun _ => .fa un42 r sz32 r (o := 1) r r r .mk) (.g r r r (fun _ => .load1 ia32 r (.s .z) r r r .mk) (.fk 1 r ?_)))))
   obtain ⟨h486, x487, hx488, hd⟩ := hd
   obtain ⟨b489, o490, cs491, e492, hC493, hr494⟩ := R36.2 _ _ hx488
   cases hr494
   refine .g r r r (fun _ => .ixa un32 sz80 r e492 r h486 (idx_lt hx488 h486) r r .mk) (.g r r r (fun _ => .fa un80 r sz2 r (o := o490 + s437.toNat * 2 + 1) r r r .mk) (.g r r r (fun _ => .ld1 (j := 1) ia2 hC493 r r r r r .mk) (.e2 14 ?_)))
   obtain ⟨h495, x496, hx497, hd⟩ := hd
   obtain ⟨b498, e499⟩ := hne476 (idx_ne hx497)
   cases e499
   exact .ixa0 un37 sz2 r r h495 (idx_lt hx497 h495) r r (.stO1 (j := 0) (v' := x487.Val) sz2 (.s (.s (.s (.s .z)))) hx497 r r r (.t .nil) r (.sub (E' := [(1, _), (2, _), (3, _), (5, _), (4, _), (27, _), (28, .slice (some ⟨b498, 0, none⟩) (s429.set x478.At.toNat x487.Val).length c431), (29, _), (30, _), (31, _), (32, _), (33, _), (34, _), (35, _), (36, _), (37, _), (38, _), (39, _), (40, _), (41, _)]) ⟨r, r, r, r, r, r, (by simp only [List.length_set]; rfl), r, r, r, r, r, r, r, r, r, r, r, r, r, trivial⟩ (.reat (.s (.s (.s .z))) (B := pto b70 (.cells #[.int .i64 r55.N, .slice p61 r55.Has.length c62, .slice (some ⟨b498, 0, none⟩) (s429.set x478.At.toNat x487.Val).length c431] 53 (0, 0))) (by simp only [List.length_set]) (.nilS [4, 5, 3, 2, 1] r r (.region (.ks 3 r (.nil' fun c w ho hs => ⟨((s429.set x478.At.toNat x487.Val), (s433 ++ ([x461.At])), w64 (s437 + 1)), hd, I440, _, _, _, _, hl441, ho.sub ⟨r, r, r, r, r, trivial⟩, hs.pick (.c (.s .z) (.c (.s .z) (.c (.s .z) (.c (.s .z) (.c .z .n)))))⟩)))))))
 refine .exitS [4, 3, 2, 1] r r (.sr (.fa un42 r sz3 r (o := 0) r r r (.load1 ia3 r .z r r r (.ks 1 r (.pub (.s (.s (.s (.s .z)))) fun I500 hl501 R502 => ?_)))))
 have le503 := IH.le.trans le442 hl501
 have le504 := IH.le.trans hl441 hl501
 replace R36 := R36.mono hl501
 replace R63 := R63.mono hl501
 have hw514 := W_ref03_Of (I := I500) R502 hd
 refine .call call52 r hw514 r r fun v509 I506 hl507 hv508 => ?_
 obtain ⟨r505, p511, c512, rfl, R513, hd⟩ := hv508
 have le515 := IH.le.trans le503 hl507
 have le516 := IH.le.trans le504 hl507
 replace R36 := R36.mono hl507
 replace R63 := R63.mono hl507
 replace R502 := R502.mono hl507
 refine .fa un53 r sz33 r (o := 1) r r r (.store1 sz33 r r (.s (.s .z)) (.s (.t .nil)) r (.nilS [3, 2] r r (.drop .z (.sr (.loadW ia53 sz53 r (.s .z) r r r (.storeA sz53 r r .z (.t (.t (.t .nil))) r r (.nilS [2] r r (.drop (.s .z) (.pub (.s .z) fun I517 hl518 R519 => ?_)))))))))
 have le520 := IH.le.trans le515 hl518
 have le521 := IH.le.trans le516 hl518
 replace R513 := R513.mono hl518
 exact .ret (pret results19 (.w ia53 sz53 r .z r .n) le520 ⟨({ N := r55.N, Has := r505, Vals := s429 } : Dense), _, _, _, _, r, R513, R519, hd⟩)

theorem W_ref03_Has {I : IH} {a0 : List Int} {a1 : Int} {p1 : Option Addr} {c2 : Nat} {Q : Bool → Prop} (R3 : RepSl eU64 I p1 c2 a0) (hd : ref03_Has a0 a1 Q) :
  PFun prog 47 [.slice p1 a0.length c2, .int .i64 a1] I (fun _ => o1_ Q) := by
 refine Fun.enter func47 r ntmps47 r (.c (.c .n)) fun w0 M => ?_
 refine .sr (.ks 1 r (.nilS [1, 0] r r (.sr (.ks 3 r ?_))))
 refine splitP hd (fun hb4 hd => ?_) fun hb4 hd => ?_
 · rw [hb4]
   refine .ks 1 r (.gyes r r r (.quo r r (by decide) r r (.ks 1 r (.gyes r r r (.len un33 r r r r (.ks 3 r ?_))))))
   refine splitP hd (fun hb5 hd => ?_) fun hb5 hd => ?_
   · rw [hb5]
     refine .ks 2 r (.gyes r r r (.quo r r (by decide) r r ?_))
     obtain ⟨h6, x7, hx8, hd⟩ := hd
     obtain ⟨b9, o10, cs11, e12, hC13, hr14⟩ := R3.2 _ _ hx8
     cases hr14
     refine .gyes r r r (.ixa un33 sz81 r e12 r h6 (idx_lt hx8 h6) r r (.gyes r r r (.ld1 (j := 0) ia81 hC13 r r r r r (.ks 1 r (.gyes r r r (.rem r r (by decide) r r (.gyes r r r (.conv un3 underlying125 r r r ?_))))))))
     obtain ⟨hz15, hd⟩ := hd
     exact .gyes r r r (.shr' r r hz15 r r (.ks 4 r (.nilS [4] r r (.ret (pret results47 (.t r .n) (.refl _) ⟨((bnd .u64 (shr .u64 x7 (IntKind.wrap .u64 (a1.tmod 64))) 1) == 1), r, hd⟩)))))
   rw [hb5]
   exact .ks 13 r (.nilS [4] r r (.ret (pret results47 (.t r .n) (.refl _) ⟨false, r, hd⟩)))
 rw [hb4]
 exact .ks 20 r (.nilS [4] r r (.ret (pret results47 (.t r .n) (.refl _) ⟨false, r, hd⟩)))

theorem W_ref03_List {I : IH} {a0 : List Int} {p1 : Option Addr} {c2 : Nat} {Q : (List Int) → Prop} (R3 : RepSl eU64 I p1 c2 a0) (hd : ref03_List a0 Q) :
  PFun prog 79 [.slice p1 a0.length c2] I (o7_ Q) := by
 refine Fun.enter func79 r ntmps79 r (.c .n) fun w0 M => ?_
 refine .sr (.ks 1 r (.nilS [0] r r (.sr (.ks 1 r (.nilS [3, 0] r r (.seq (.sr (.ks 1 r (.nilS [4, 3, 0] r r ?_)))))))))
 refine .block (.own0 eI64 3 (.loop hd (fun (s : (List Int) × Int) c w => match s with | (s49, s53) => ∃ I_ p50 c51, IH.le I I_ ∧ Ok ⟨20, [], none⟩ [(0, .slice p1 a0.length c2), (3, .slice p50 s49.length c51), (4, .int .i64 s53)] c ∧ Sym w0 M I I_ [OwnSl eI64 3 p50 c51 s49] w) (fun c w ho hs => ⟨I, _, _, (.refl _), ho.sub ⟨r, r, r, trivial⟩, hs.pick (.c .z .n)⟩) ?_))
 rintro ⟨s49, s53⟩ next55 hd c w hst
 obtain ⟨I56, p50, c51, hl57, hok, hsym⟩ := hst
 replace R3 := R3.mono hl57
 refine Cod.at hok hsym (.seq (.sr (.ks 2 r (.len un33 r r r r (.ks 2 r (.nilS [9, 4, 3, 0] r r (.condP r hd (fun hb59 hd => ?_) fun hb59 hd => ?_)))))))
 · refine .skipS [4, 3, 0] r r (.seq (.block (.sr (.ks 2 r ?_))))
   have hw61 := W_ref03_Has (I := I56) R3 hd
   refine .callP call47 r hw61 r r fun v62 hv63 => ?_
   obtain ⟨r60, rfl, hd⟩ := hv63
   refine .nilS [14, 4, 3, 0] r r (.condP r hd (fun hb64 hd => ?_) fun hb64 hd => ?_)
   · refine .region (.ks 2 r (.buildSlice 1 un36 sz3 zv3 r r (.c r r r .n) r r fun b65 => ?_))
     obtain ⟨hl67, hd⟩ := hd
     refine .append (ys := [s53]) 8 (.s .z) un36 un36 IN3 r r r r r r r r r (.box .z (.one r) r) hl67 r r fun p68 c69 => ?_
     exact .ks 1 r (.nilS [3, 4, 0] r r (.drop (.s .z) (.region (.ks 3 r (.nil' fun c w ho hs => ⟨((s49 ++ ([s53])), w64 (s53 + 1)), hd, I56, _, _, hl57, ho.sub ⟨r, r, r, trivial⟩, hs.pick (.c .z .n)⟩)))))
   exact .skipS [4, 3, 0] r r (.region (.ks 3 r (.nil' fun c w ho hs => ⟨(s49, w64 (s53 + 1)), hd, I56, _, _, hl57, ho.sub ⟨r, r, r, trivial⟩, hs.pick (.c .z .n)⟩)))
 refine .exitS [3] r r (.sr (.ks 2 r (.nilS [2] r r (.pub .z fun I71 hl72 R73 => ?_))))
 have le74 := IH.le.trans hl57 hl72
 exact .ret (pret results79 (.t r .n) le74 ⟨s49, _, _, r, R73, hd⟩)

theorem W_ref03_Right {I : IH} {a0 : List Int} {a1 : Int} {p1 : Option Addr} {c2 : Nat} {Q : Bool → Prop} (R3 : RepSl eU64 I p1 c2 a0) (hd : ref03_Right a0 a1 Q) :
  PFun prog 116 [.slice p1 a0.length c2, .int .i64 a1] I (fun _ => o1_ Q) := by
 refine Fun.enter func116 r ntmps116 r (.c (.c .n)) fun w0 M => ?_
 refine .sr (.ks 1 r (.nilS [1, 0] r r (.seq (.sr (.ks 3 r ?_)))))
 refine splitP hd (fun hb11 hd => ?_) fun hb11 hd => ?_
 · rw [hb11]
   exact .ks 10 r (.nilS [18, 1, 0] r r (.condKT r r (.sr (.ks 1 r (.nilS [4] r r (.ret (pret results116 (.t r .n) (.refl _) ⟨false, r, hd⟩)))))))
 rw [hb11]
 refine .ks 4 r ?_
 refine splitP hd (fun hb12 hd => ?_) fun hb12 hd => ?_
 · rw [hb12]
   exact .ks 6 r (.nilS [18, 1, 0] r r (.condKT r r (.sr (.ks 1 r (.nilS [4] r r (.ret (pret results116 (.t r .n) (.refl _) ⟨false, r, hd⟩)))))))
 rw [hb12]
 refine .ks 1 r (.gyes r r r (.len un33 r r r r (.ks 1 r ?_)))
 have hw14 := W_ref03_words (I := I) hd
 refine .gyes r r r (.callP call118 r hw14 r r fun v15 hv16 => ?_)
 obtain ⟨r13, rfl, hd⟩ := hv16
 refine .ks 2 r (.nilS [18, 1, 0] r r (.condP r hd (fun hb17 hd => ?_) fun hb17 hd => ?_))
 · exact .sr (.ks 1 r (.nilS [4] r r (.ret (pret results116 (.t r .n) (.refl _) ⟨false, r, hd⟩))))
 refine .skipS [1, 0] r r (.sr (.ks 1 r ?_))
 have hw37 := W_ref03_List (I := I) R3 hd
 refine .call call79 r hw37 r r fun v32 I29 hl30 hv31 => ?_
 obtain ⟨r28, p34, c35, rfl, R36, hd⟩ := hv31
 replace R3 := R3.mono hl30
 refine .ks 1 r (.nilS [5, 1] r r (.sr (.ks 1 r (.len un36 r r r r (.ks 2 r ?_)))))
 refine splitP hd (fun hb38 hd => ?_) fun hb38 hd => ?_
 · rw [hb38]
   exact .ks 10 r (.nilS [4] r r (.ret (pret results116 (.t r .n) hl30 ⟨true, r, hd⟩)))
 rw [hb38]
 refine .ks 2 r (.gyes r r r (.len un36 r r r r (.ks 1 r ?_)))
 obtain ⟨h39, x40, hx41, hd⟩ := hd
 obtain ⟨b42, o43, cs44, e45, hC46, hr47⟩ := R36.2 _ _ hx41
 cases hr47
 exact .gyes r r r (.ixa un36 sz3 r e45 r h39 (idx_lt hx41 h39) r r (.gyes r r r (.ld1 (j := 0) ia3 hC46 r r r r r (.ks 4 r (.nilS [4] r r (.ret (pret results116 (.t r .n) hl30 ⟨(decide (x40 < a1)), r, hd⟩)))))))

theorem W_ref10_Right {I : IH} {a0 : Dense} {p1 : Option Addr} {c2 : Nat} {p4 : Option Addr} {c5 : Nat} {Q : Bool → Prop} (R3 : RepSl eU64 I p1 c2 a0.Has) (R6 : RepSl eI64 I p4 c5 a0.Vals) (hd : ref10_Right a0 Q) :
  PFun prog 78 [.agg #[.int .i64 a0.N, .slice p1 a0.Has.length c2, .slice p4 a0.Vals.length c5]] I (fun _ => o1_ Q) := by
 refine Fun.enter func78 r ntmps78 r (.c .n) fun w0 M => ?_
 refine .sr (.boxA r r r fun b9 => ?_)
 refine .ks 1 r (.nilS [1] r r (.seq (.sr (.fa un53 r sz3 r (o := 0) r r r (.load1 ia3 r .z r r r (.ks 2 r ?_))))))
 refine splitP hd (fun hb19 hd => ?_) fun hb19 hd => ?_
 · rw [hb19]
   exact .ks 20 r (.nilS [27, 1] r r (.condKT r r (.sr (.ks 1 r (.nilS [2] r r (.drop .z (.ret (pret results78 (.t r .n) (.refl _) ⟨false, r, hd⟩))))))))
 rw [hb19]
 refine .gyes r r r (.fa un53 r sz3 r (o := 0) r r r (.gyes r r r (.load1 ia3 r .z r r r (.ks 3 r ?_))))
 refine splitP hd (fun hb20 hd => ?_) fun hb20 hd => ?_
 · rw [hb20]
   exact .ks 15 r (.nilS [27, 1] r r (.condKT r r (.sr (.ks 1 r (.nilS [2] r r (.drop .z (.ret (pret results78 (.t r .n) (.refl _) ⟨false, r, hd⟩))))))))
 rw [hb20]
 refine .gyes r r r (.fa un53 r sz33 r (o := 1) r r r (.gyes r r r (.load1 ia33 r .z r r r (.gyes r r r (.fa un53 r sz3 r (o := 0) r r r (.gyes r r r (.load1 ia3 r .z r r r ?_)))))))
 have hw22 := W_ref03_Right (I := I) R3 hd
 refine .gyes r r r (.callP call116 r hw22 r r fun v23 hv24 => ?_)
 obtain ⟨r21, rfl, hd⟩ := hv24
 refine .ks 3 r ?_
 refine splitP hd (fun hb25 hd => ?_) fun hb25 hd => ?_
 · rw [hb25]
   exact .ks 7 r (.nilS [27, 1] r r (.condKT r r (.sr (.ks 1 r (.nilS [2] r r (.drop .z (.ret (pret results78 (.t r .n) (.refl _) ⟨false, r, hd⟩))))))))
 rw [hb25]
 refine .gyes r r r (.fa un53 r sz37 r (o := 2) r r r (.gyes r r r (.load1 ia37 r .z r r r (.gyes r r r (.len un37 r r r r (.gyes r r r (.fa un53 r sz3 r (o := 0) r r r (.gyes r r r (.load1 ia3 r .z r r r (.ks 2 r (.nilS [27, 1] r r (.condP r hd (fun hb26 hd => ?_) fun hb26 hd => ?_))))))))))))
 · exact .sr (.ks 1 r (.nilS [2] r r (.drop .z (.ret (pret results78 (.t r .n) (.refl _) ⟨false, r, hd⟩)))))
 refine .skipS [1] r r (.seq (.sr (.ks 1 r (.nilS [3, 1] r r (.block (.loop hd (fun (s64 : Int) c w => ∃ I_, IH.le I I_ ∧ Ok ⟨47, [], none⟩ [(1, .pointer (some ⟨b9, 0, none⟩)), (3, .int .i64 s64)] c ∧ Sym w0 M I I_ [pto b9 (.cells #[.int .i64 a0.N, .slice p1 a0.Has.length c2, .slice p4 a0.Vals.length c5] 53 (0, 0))] w) (fun c w ho hs => ⟨I, (.refl _), ho.sub ⟨r, r, trivial⟩, hs.pick (.c .z .n)⟩) ?_))))))
 rintro s64 next65 hd c w hst
 obtain ⟨I66, hl67, hok, hsym⟩ := hst
 replace R3 := R3.mono hl67
 replace R6 := R6.mono hl67
 refine Cod.at hok hsym (.seq (.sr (.ks 1 r (.fa un53 r sz3 r (o := 0) r r r (.load1 ia3 r .z r r r (.ks 1 r (.nilS [31, 3, 1] r r (.condP r hd (fun hb69 hd => ?_) fun hb69 hd => ?_))))))))
 · refine .skipS [3, 1] r r (.seq (.block (.sr (.fa un53 r sz33 r (o := 1) r r r (.load1 ia33 r .z r r r (.ks 1 r ?_))))))
   have hw71 := W_ref03_Has (I := I66) R3 hd
   refine .callP call47 r hw71 r r fun v72 hv73 => ?_
   obtain ⟨r70, rfl, hd⟩ := hv73
   refine .ks 2 r ?_
   refine splitP hd (fun hb74 hd => ?_) fun hb74 hd => ?_
   · rw [hb74]
     refine .gyes r r r (.fa un53 r sz37 r (o := 2) r r r (.gyes r r r (.load1 ia37 r .z r r r (.ks 1 r ?_))))
     obtain ⟨h75, x76, hx77, hd⟩ := hd
     obtain ⟨b78, o79, cs80, e81, hC82, hr83⟩ := R6.2 _ _ hx77
     cases hr83
     refine .gyes r r r (.ixa un37 sz2 r e81 r h75 (idx_lt hx77 h75) r r (.gyes r r r (.ld1 (j := 0) ia2 hC82 r r r r r (.ks 2 r (.nilS [46, 3, 1] r r (.condP r hd (fun hb84 hd => ?_) fun hb84 hd => ?_))))))
     · exact .sr (.ks 1 r (.nilS [2] r r (.drop .z (.ret (pret results78 (.t r .n) hl67 ⟨false, r, hd⟩)))))
     exact .skipS [3, 1] r r (.region (.ks 3 r (.nil' fun c w ho hs => ⟨(w64 (s64 + 1)), hd, I66, hl67, ho.sub ⟨r, r, trivial⟩, hs.pick (.c .z .n)⟩)))
   rw [hb74]
   exact .ks 7 r (.nilS [46, 3, 1] r r (.condKF r r (.skipS [3, 1] r r (.region (.ks 3 r (.nil' fun c w ho hs => ⟨(w64 (s64 + 1)), hd, I66, hl67, ho.sub ⟨r, r, trivial⟩, hs.pick (.c .z .n)⟩))))))
 exact .exitS [] r r (.drop .z (.sr (.ks 1 r (.nilS [2] r r (.ret (pret results78 (.t r .n) hl67 ⟨true, r, hd⟩))))))

theorem W_ref10_Back {I : IH} {a0 : Dense} {p1 : Option Addr} {c2 : Nat} {p4 : Option Addr} {c5 : Nat} {Q : Vec → Prop} (R3 : RepSl eU64 I p1 c2 a0.Has) (R6 : RepSl eI64 I p4 c5 a0.Vals) (hd : ref10_Back a0 Q) :
  PFun prog 45 [.agg #[.int .i64 a0.N, .slice p1 a0.Has.length c2, .slice p4 a0.Vals.length c5]] I (o4_ Q) := by
 refine Fun.enter func45 r ntmps45 r (.c .n) fun w0 M => ?_
 refine .sr (.boxA r r r fun b14 => ?_)
 refine .allocA zv42 r r fun b16 => ?_
 refine .nilS [2, 1] r r (.seq (.sr (.loadW ia53 sz53 r (.s .z) r r r ?_)))
 have hw24 := W_ref10_Right (I := I) R3 R6 hd
 refine .callP call78 r hw24 r r fun v25 hv26 => ?_
 obtain ⟨r23, rfl, hd⟩ := hv26
 refine .ks 1 r (.nilS [8, 2, 1] r r (.condP r hd (fun hb27 hd => ?_) fun hb27 hd => ?_))
 · exact .sr (.build zv42 un42 BI42 .n (by exact trivial) r r (.storeA sz42 r r .z (.t (.t .nil)) r r (.nilS [2] r r (.drop (.s .z) (.ret (pret results45 (.w ia42 sz42 r .z r .n) (.refl _) ⟨({ N := 0, Items := ([] : List Item) } : Vec), _, _, r, (.nil _ _ _), hd⟩))))))
 refine .skipS [2, 1] r r (.sr (.fa un53 r sz3 r (o := 0) r r r (.load1 ia3 r (.s .z) r r r (.build zv42 un42 BI42 (.c r r r (.t .nil) .n) (by exact ⟨⟨_, _, r, r, r⟩, trivial⟩) r r (.allocA zv42 r r fun b30 => ?_)))))
 refine .storeA sz42 r r .z (.t (.t .nil)) r r (.nilS [3, 2, 1] r r (.sr (.fa un53 r sz33 r (o := 1) r r r (.load1 ia33 r (.s (.s .z)) r r r ?_))))
 have hw51 := W_ref03_List (I := I) R3 hd
 refine .call call79 r hw51 r r fun v46 I43 hl44 hv45 => ?_
 obtain ⟨r42, p48, c49, rfl, R50, hd⟩ := hv45
 replace R3 := R3.mono hl44
 replace R6 := R6.mono hl44
 refine .ks 1 r (.nilS [4, 3, 2, 1] r r (.seq (.sr (.ks 1 r (.nilS [5, 4, 3, 2, 1] r r (.block (.own0 eItem 80 (.loop hd (fun (s : (List Item) × Int) c w => match s with | (s139, s143) => ∃ I_ p140 c141, IH.le I43 I_ ∧ Ok ⟨41, [], none⟩ [(1, .pointer (some ⟨b14, 0, none⟩)), (2, .pointer (some ⟨b16, 0, none⟩)), (3, .pointer (some ⟨b30, 0, none⟩)), (4, .slice p48 r42.length c49), (5, .int .i64 s143)] c ∧ Sym w0 M I I_ [pto b14 (.cells #[.int .i64 a0.N, .slice p1 a0.Has.length c2, .slice p4 a0.Vals.length c5] 53 (0, 0)), pto b16 (.cells #[.int .i64 0, .slice none 0 0] 42 (0, 0)), pto b30 (.cells #[.int .i64 a0.N, .slice p140 s139.length c141] 42 (0, 0)), OwnSl eItem 80 p140 c141 s139] w) (fun c w ho hs => ⟨I43, _, _, (.refl _), ho.sub ⟨r, r, r, r, r, trivial⟩, hs.pick (.c (.s (.s (.s .z))) (.c (.s (.s .z)) (.c (.s .z) (.c .z .n))))⟩) ?_))))))))
 rintro ⟨s139, s143⟩ next145 hd c w hst
 obtain ⟨I146, p140, c141, hl147, hok, hsym⟩ := hst
 have le148 := IH.le.trans hl44 hl147
 replace R3 := R3.mono hl147
 replace R6 := R6.mono hl147
 replace R50 := R50.mono hl147
 refine Cod.at hok hsym (.seq (.sr (.ks 2 r (.len un36 r r r r (.ks 1 r (.nilS [19, 5, 4, 3, 2, 1] r r (.condP r hd (fun hb150 hd => ?_) fun hb150 hd => ?_)))))))
 · refine .skipS [5, 4, 3, 2, 1] r r (.seq (.block (.ownF (.s (.s (.s .z))) fun hne151 => ?_)))
   refine .dr [0, 1, 2, 3, 4, 5, 6, 7, 8, 9, 10, 11, 12, 13, 14, 15, 16] 17 (.g r r r (fun _ => .fa un42 r sz32 r (o := 1) r r r .mk) (.g r r r (fun _ => .load1 ia32 r (.s (.s .z)) r r r .mk) (.fk 2 r ?_)))
   obtain ⟨h152, x153, hx154, hd⟩ := hd
   obtain ⟨b155, o156, cs157, e158, hC159, hr160⟩ := R50.2 _ _ hx154
   cases hr160
   refine .g r r r (fun _ => .ixa un36 sz3 r e158 r h152 (idx_lt hx154 h152) r r .mk) (.g r r r (fun _ => .ld1 (j := 0) ia3 hC159 r r r r r .mk) (.g r r r (fun _ => .fa un53 r sz37 r (o := 2) r r r .mk) (.g r r r (fun _ => .load1 ia37 r .z r r r .mk) (.fk 2 r ?_))))
   obtain ⟨h161, x162, hx163, hd⟩ := hd
   obtain ⟨b164, o165, cs166, e167, hC168, hr169⟩ := R50.2 _ _ hx163
   cases hr169
   refine .g r r r (fun _ => .ixa un36 sz3 r e167 r h161 (idx_lt hx163 h161) r r .mk) (.g r r r (fun _ => .ld1 (j := 0) ia3 hC168 r r r r r .mk) ?_)
   obtain ⟨h170, x171, hx172, hd⟩ := hd
   obtain ⟨b173, o174, cs175, e176, hC177, hr178⟩ := R6.2 _ _ hx172
   cases hr178
   refine .g r r r (fun _ => .ixa un37 sz2 r e176 r h170 (idx_lt hx172 h170) r r .mk) (.g r r r (fun _ => .ld1 (j := 0) ia2 hC177 r r r r r .mk) (.g r r r (fun _ => .build zv80 un80 BI80 (.c r r r (.t .nil) (.c r r r (.s (.t .nil)) .n)) (by exact ⟨⟨_, _, r, r, r⟩, ⟨⟨_, _, r, r, r⟩, trivial⟩⟩) r r .mk) (.ww r fun ex => ?_)))
   refine .buildSlice 1 un32 sz80 zv80 r r (.c r r r .n) r r fun b179 => ?_
   refine .so 5 r r r (.cg r r r r (fun _ => .load1 ia32 r (.s (.s (.s .z))) r r r .mk) (.cg r r r r (fun _ => .fa un42 r sz32 r (o := 1) r r r .mk) trivial)) (.ww r fun ex => ?_)
   obtain ⟨hl181, hd⟩ := hd
   refine .append (ys := [({ At := x153, Val := x171 } : Item)]) 16 (.s (.s (.s (.s .z)))) un32 un32 IN80 r r r r r r r r r (.box .z (.one r) r) hl181 r r fun p182 c183 => ?_
   exact .so 5 r r r trivial (.e2 17 (.fa un42 r sz32 r (o := 1) r r r (.store1 sz32 r r (.s (.s (.s (.s .z)))) (.s (.t .nil)) r (.nilS [5, 4, 3, 2, 1] r r (.drop (.s .z) (.region (.ks 3 r (.nil' fun c w ho hs => ⟨((s139 ++ ([({ At := x153, Val := x171 } : Item)])), w64 (s143 + 1)), hd, I146, _, _, hl147, ho.sub ⟨r, r, r, r, r, trivial⟩, hs.pick (.c (.s .z) (.c (.s .z) (.c (.s .z) (.c .z .n))))⟩))))))))
 refine .exitS [3, 2] r r (.drop .z (.sr (.loadW ia42 sz42 r (.s .z) r r r (.storeA sz42 r r .z (.t (.t .nil)) r r (.nilS [2] r r (.drop (.s .z) (.pub (.s .z) fun I185 hl186 R187 => ?_)))))))
 have le188 := IH.le.trans le148 hl186
 have le189 := IH.le.trans hl147 hl186
 exact .ret (pret results45 (.w ia42 sz42 r .z r .n) le188 ⟨({ N := a0.N, Items := s139 } : Vec), _, _, r, R187, hd⟩)

theorem W_ref09_Get {I : IH} {a0 : Vec} {a1 : Int} {p1 : Option Addr} {c2 : Nat} {Q : (Int × Bool) → Prop} (R3 : RepSl eItem I p1 c2 a0.Items) (hd : ref09_Get a0 a1 Q) :
  PFun prog 48 [.agg #[.int .i64 a0.N, .slice p1 a0.Items.length c2], .int .i64 a1] I (fun _ => o17_ Q) := by
 refine Fun.enter func48 r ntmps48 r (.c (.c .n)) fun w0 M => ?_
 refine .sr (.boxA r r r fun b6 => ?_)
 refine .ks 2 r (.nilS [2, 1] r r (.sr (.loadW ia42 sz42 r .z r r r ?_)))
 have hw27 := W_ref09_Sure (I := I) R3 hd
 refine .call call14 r hw27 r r fun v22 I19 hl20 hv21 => ?_
 obtain ⟨r18, p24, c25, rfl, R26, hd⟩ := hv21
 replace R3 := R3.mono hl20
 refine .storeA sz42 r r .z (.t (.t .nil)) r r (.nilS [2, 1] r r (.seq (.sr (.ks 1 r (.nilS [6, 2, 1] r r (.block (.loop hd (fun (s91 : Int) c w => ∃ I_, IH.le I19 I_ ∧ Ok ⟨30, [], none⟩ [(1, .int .i64 a1), (2, .pointer (some ⟨b6, 0, none⟩)), (6, .int .i64 s91)] c ∧ Sym w0 M I I_ [pto b6 (.cells #[.int .i64 r18.N, .slice p24 r18.Items.length c25] 42 (0, 0))] w) (fun c w ho hs => ⟨I19, (.refl _), ho.sub ⟨r, r, r, trivial⟩, hs.pick (.c .z .n)⟩) ?_)))))))
 rintro s91 next92 hd c w hst
 obtain ⟨I93, hl94, hok, hsym⟩ := hst
 have le95 := IH.le.trans hl20 hl94
 replace R26 := R26.mono hl94
 refine Cod.at hok hsym (.seq (.sr (.ks 1 r (.fa un42 r sz32 r (o := 1) r r r (.load1 ia32 r .z r r r (.len un32 r r r r (.ks 1 r (.nilS [13, 6, 2, 1] r r (.condP r hd (fun hb97 hd => ?_) fun hb97 hd => ?_)))))))))
 · refine .skipS [6, 2, 1] r r (.seq (.block (.sr (.fa un42 r sz32 r (o := 1) r r r (.load1 ia32 r .z r r r (.ks 1 r ?_))))))
   obtain ⟨h107, x108, hx109, hd⟩ := hd
   obtain ⟨b110, o111, cs112, e113, hC114, hr115⟩ := R26.2 _ _ hx109
   cases hr115
   refine .ixa un32 sz80 r e113 r h107 (idx_lt hx109 h107) r r (.fa un80 r sz3 r (o := o111 + s91.toNat * 2) r r r (.ld1 (j := 0) ia3 hC114 r r r r r (.ks 2 r (.nilS [23, 6, 2, 1] r r (.condP r hd (fun hb116 hd => ?_) fun hb116 hd => ?_)))))
   · refine .sr (.fa un42 r sz32 r (o := 1) r r r (.load1 ia32 r .z r r r (.ks 1 r ?_)))
     obtain ⟨h117, x118, hx119, hd⟩ := hd
     obtain ⟨b120, o121, cs122, e123, hC124, hr125⟩ := R26.2 _ _ hx119
     cases hr125
     exact .ixa un32 sz80 r e123 r h117 (idx_lt hx119 h117) r r (.fa un80 r sz2 r (o := o121 + s91.toNat * 2 + 1) r r r (.ld1 (j := 1) ia2 hC124 r r r r r (.ks 2 r (.nilS [5, 4] r r (.drop .z (.ret (pret results48 (.t r (.t r .n)) le95 ⟨(x118.Val, true), r, hd⟩)))))))
   exact .skipS [6, 2, 1] r r (.region (.ks 3 r (.nil' fun c w ho hs => ⟨(w64 (s91 + 1)), hd, I93, hl94, ho.sub ⟨r, r, r, trivial⟩, hs.pick (.c .z .n)⟩)))
 exact .exitS [] r r (.drop .z (.sr (.ks 2 r (.nilS [5, 4] r r (.ret (pret results48 (.t r (.t r .n)) le95 ⟨(0, false), r, hd⟩))))))

theorem W_ref01_Minus {I : IH} {a0 : Wide} {Q : Wide → Prop}  (hd : ref01_Minus a0 Q) :
  PFun prog 117 [.agg (encWide a0).toArray] I (fun _ => o16_ Q) := by
 refine Fun.enter func117 r ntmps117 r (.c .n) fun w0 M => ?_
 refine .sr (.boxA r r r fun b5 => ?_)
 refine .allocA zv83 r r fun b7 => ?_
 refine .nilS [2, 1] r r (.sr (.fa un83 r sz2 r (o := 0) r r r (.load1 ia2 r (.s .z) r r r (.invS r r r r (.fa un83 r sz81 r (o := 1) r r r (.load1 ia81 r (.s .z) r r r (.invU (M := 18446744073709551615) r (by decide) r r r (.build zv83 un83 BI83 (.c r r r (.t .nil) (.c r r r (.s (.t .nil)) .n)) (by exact ⟨⟨_, _, r, r, r⟩, ⟨⟨_, _, r, r, r⟩, trivial⟩⟩) r r (.build zv83 un83 BI83 (.c r r r (.s (.t .nil)) .n) (by exact ⟨⟨_, _, r, r, r⟩, trivial⟩) r r ?_)))))))))
 have hw10 := W_ref01_Add (I := I) hd
 refine .callP call80 r hw10 r r fun v11 hv12 => ?_
 obtain ⟨r9, rfl, hd⟩ := hv12
 exact .storeA sz83 r r .z (.t (.t .nil)) r r (.nilS [2] r r (.drop (.s .z) (.ret (pret results117 (.w ia83 sz83 r .z r .n) (.refl _) ⟨r9, r, hd⟩))))

theorem W_ref01_Mul {I : IH} {a0 : Int} {a1 : Int} {Q : Wide → Prop}  (hd : ref01_Mul a0 a1 Q) :
  PFun prog 84 [.int .i64 a0, .int .i64 a1] I (fun _ => o16_ Q) := by
 refine Fun.enter func84 r ntmps84 r (.c (.c .n)) fun w0 M => ?_
 refine .sr (.allocA zv83 r r fun b3 => ?_)
 refine .nilS [4, 1, 0] r r (.sr (.ks 1 r ?_))
 have hw12 := W_ref01_Of (I := I) hd
 refine .callP call81 r hw12 r r fun v13 hv14 => ?_
 obtain ⟨r11, rfl, hd⟩ := hv14
 refine .allocA zv83 r r fun b15 => ?_
 refine .storeA sz83 r r .z (.t (.t .nil)) r r (.nilS [5, 4, 1] r r (.sr (.ks 3 r (.nilS [6, 5, 4, 1] r r (.sr (.ks 1 r (.conv un2 un81 r r r (.ks 1 r (.nilS [7, 6, 5, 4] r r ?_)))))))))
 refine .seq ?_
 refine Cod.joinQ (σ := Int) hd (fun (s19 : Int) c w => ∃ I_, IH.le I I_ ∧ Ok ⟨35, [], none⟩ [(4, .pointer (some ⟨b3, 0, none⟩)), (5, .pointer (some ⟨b15, 0, none⟩)), (6, .bool (decide (a1 < 0))), (7, .int .u64 s19)] c ∧ Sym w0 M I I_ [pto b3 (.cells #[.int .i64 0, .int .u64 0] 83 (0, 0)), pto b15 (.cells #[.int .i64 r11.Hi, .int .u64 r11.Lo] 83 (0, 0))] w) (fun k20 hd => ?_) ?_
 · skip
   refine .sr (.ks 1 r (.nilS [15, 7, 6, 5, 4] r r (.condP r hd (fun hb21 hd => ?_) fun hb21 hd => ?_)))
   · exact .region (.ks 1 r (.neg r r r (.ks 1 r (.nil' fun c w ho hs => ⟨(IntKind.wrap .u64 (0 - (IntKind.wrap .u64 (a1)))), hd, I, (.refl _), ho.sub ⟨r, r, r, r, trivial⟩, hs.pick (.c (.s .z) (.c .z .n))⟩))))
   exact .skip' fun c w ho hs => ⟨(IntKind.wrap .u64 (a1)), hd, I, (.refl _), ho.sub ⟨r, r, r, r, trivial⟩, hs.pick (.c (.s .z) (.c .z .n))⟩
 rintro s19 hd c w hst
 obtain ⟨I22, hl23, hok, hsym⟩ := hst
 refine Cod.at hok hsym (.sr (.allocA zv83 r r fun b26 => ?_))
 refine .nilS [8, 7, 6, 5, 4] r r (.seq (.block (.loop hd (fun (s : Int × Int × Int × Int × Int) c w => match s with | (s142, s143, s144, s145, s146) => ∃ I_, IH.le I22 I_ ∧ Ok ⟨35, [], none⟩ [(4, .pointer (some ⟨b3, 0, none⟩)), (5, .pointer (some ⟨b15, 0, none⟩)), (6, .bool (decide (a1 < 0))), (7, .int .u64 s144), (8, .pointer (some ⟨b26, 0, none⟩))] c ∧ Sym w0 M I I_ [pto b3 (.cells #[.int .i64 0, .int .u64 0] 83 (0, 0)), pto b15 (.cells #[.int .i64 s142, .int .u64 s143] 83 (0, 0)), pto b26 (.cells #[.int .i64 s145, .int .u64 s146] 83 (0, 0))] w) (fun c w ho hs => ⟨I22, (.refl _), ho.sub ⟨r, r, r, r, r, trivial⟩, hs.pick (.c (.s .z) (.c (.s .z) (.c .z .n)))⟩) ?_)))
 rintro ⟨s142, s143, s144, s145, s146⟩ next147 hd c w hst
 obtain ⟨I148, hl149, hok, hsym⟩ := hst
 have le150 := IH.le.trans hl23 hl149
 refine Cod.at hok hsym (.seq (.sr (.ks 2 r (.nilS [19, 8, 7, 6, 5, 4] r r (.condP r hd (fun hb152 hd => ?_) fun hb152 hd => ?_)))))
 · refine .skipS [8, 7, 6, 5, 4] r r (.block (.seq (.sr (.ks 1 r (.rem r r (by decide) r r (.ks 1 r (.nilS [22, 8, 7, 6, 5, 4] r r (.condP r hd (fun hb153 hd => ?_) fun hb153 hd => ?_))))))))
   · refine .region (.loadW ia83 sz83 r (.s (.s .z)) r r r (.loadW ia83 sz83 r (.s .z) r r r ?_))
     have hw155 := W_ref01_Add (I := I148) hd
     refine .callP call80 r hw155 r r fun v156 hv157 => ?_
     obtain ⟨r154, rfl, hd⟩ := hv157
     refine .storeA sz83 r r (.s (.s .z)) (.t (.t .nil)) r r (.nilS [8, 7, 6, 5, 4] r r (.sr (.loadW ia83 sz83 r (.s .z) r r r (.loadW ia83 sz83 r (.s .z) r r r ?_))))
     have hw159 := W_ref01_Add (I := I148) hd
     refine .callP call80 r hw159 r r fun v160 hv161 => ?_
     obtain ⟨r158, rfl, hd⟩ := hv161
     exact .storeA sz83 r r (.s .z) (.t (.t .nil)) r r (.nilS [8, 7, 6, 5, 4] r r (.region (.ks 1 r (.quo r r (by decide) r r (.ks 1 r (.nil' fun c w ho hs => ⟨(r158.Hi, r158.Lo, IntKind.wrap .u64 (s144.tdiv 2), r154.Hi, r154.Lo), hd, I148, hl149, ho.sub ⟨r, r, r, r, r, trivial⟩, hs.pick (.c .z (.c .z (.c .z .n)))⟩))))))
   refine .skipS [8, 7, 6, 5, 4] r r (.sr (.loadW ia83 sz83 r (.s .z) r r r (.loadW ia83 sz83 r (.s .z) r r r ?_)))
   have hw163 := W_ref01_Add (I := I148) hd
   refine .callP call80 r hw163 r r fun v164 hv165 => ?_
   obtain ⟨r162, rfl, hd⟩ := hv165
   exact .storeA sz83 r r (.s .z) (.t (.t .nil)) r r (.nilS [8, 7, 6, 5, 4] r r (.region (.ks 1 r (.quo r r (by decide) r r (.ks 1 r (.nil' fun c w ho hs => ⟨(r162.Hi, r162.Lo, IntKind.wrap .u64 (s144.tdiv 2), s145, s146), hd, I148, hl149, ho.sub ⟨r, r, r, r, r, trivial⟩, hs.pick (.c .z (.c .z (.c .z .n)))⟩))))))
 refine .exitS [8, 6, 4] r r (.drop (.s .z) (.seq (.sr (.ks 1 r (.nilS [31, 8, 4] r r (.condP r hd (fun hb166 hd => ?_) fun hb166 hd => ?_))))))
 · refine .sr (.loadW ia83 sz83 r (.s .z) r r r ?_)
   have hw168 := W_ref01_Minus (I := I148) hd
   refine .callP call117 r hw168 r r fun v169 hv170 => ?_
   obtain ⟨r167, rfl, hd⟩ := hv170
   exact .storeA sz83 r r .z (.t (.t .nil)) r r (.nilS [4] r r (.drop (.s .z) (.ret (pret results84 (.w ia83 sz83 r .z r .n) le150 ⟨r167, r, hd⟩))))
 exact .skipS [8, 4] r r (.sr (.loadW ia83 sz83 r (.s .z) r r r (.storeA sz83 r r .z (.t (.t .nil)) r r (.nilS [4] r r (.drop (.s .z) (.ret (pret results84 (.w ia83 sz83 r .z r .n) le150 ⟨({ Hi := s145, Lo := s146 } : Wide), r, hd⟩)))))))

theorem W_ref02_Mul {I : IH} {a0 : Int} {a1 : Int} {a2 : Int} {Q : Wide → Prop}  (hd : ref02_Mul a0 a1 a2 Q) :
  PFun prog 49 [.int .i64 a0, .int .i64 a1, .int .i64 a2] I (fun _ => o16_ Q) := by
 refine Fun.enter func49 r ntmps49 r (.c (.c (.c .n))) fun w0 M => ?_
 refine .sr (.allocA zv83 r r fun b3 => ?_)
 refine .nilS [6, 2, 1, 0] r r (.seq ?_)
 refine Cod.joinQ (σ := Bool) hd (fun (s7 : Bool) c w => ∃ I_, IH.le I I_ ∧ Ok ⟨59, [], none⟩ [(0, .int .i64 a0), (1, .int .i64 a1), (2, .int .i64 a2), (6, .pointer (some ⟨b3, 0, none⟩)), (7, .bool s7)] c ∧ Sym w0 M I I_ [pto b3 (.cells #[.int .i64 0, .int .u64 0] 83 (0, 0))] w) (fun k8 hd => ?_) ?_
 · skip
   refine .region (.ks 3 r ?_)
   refine splitP hd (fun hb9 hd => ?_) fun hb9 hd => ?_
   · rw [hb9]
     exact .ks 4 r (.nil' fun c w ho hs => ⟨true, hd, I, (.refl _), ho.sub ⟨r, r, r, r, r, trivial⟩, hs.pick (.c .z .n)⟩)
   rw [hb9]
   exact .ks 4 r (.nil' fun c w ho hs => ⟨(decide (4611686018427387904 ≤ a2)), hd, I, (.refl _), ho.sub ⟨r, r, r, r, r, trivial⟩, hs.pick (.c .z .n)⟩)
 rintro s7 hd c w hst
 obtain ⟨I10, hl11, hok, hsym⟩ := hst
 refine Cod.at hok hsym (.sr (.ks 1 r (.nilS [15, 7, 6, 2, 1] r r (.block (.sr (.ks 2 r (.nilS [17, 15, 7, 6, 2, 1] r r (.condP r hd (fun hb12 hd => ?_) fun hb12 hd => ?_))))))))
 · refine .sr (.ks 1 r ?_)
   have hw28 := W_ref01_Of (I := I10) hd
   refine .callP call81 r hw28 r r fun v29 hv30 => ?_
   obtain ⟨r27, rfl, hd⟩ := hv30
   refine .ks 1 r ?_
   have hw32 := W_ref01_Of (I := I10) hd
   refine .callP call81 r hw32 r r fun v33 hv34 => ?_
   obtain ⟨r31, rfl, hd⟩ := hv34
   have hw36 := W_ref01_Add (I := I10) hd
   refine .callP call80 r hw36 r r fun v37 hv38 => ?_
   obtain ⟨r35, rfl, hd⟩ := hv38
   refine .allocA zv83 r r fun b39 => ?_
   refine .storeA sz83 r r .z (.t (.t .nil)) r r (.nilS [8, 7, 6] r r (.seq (.seq (.dr [0, 1, 2, 3, 4, 5, 6] 7 (.fk 2 r ?_)))))
   refine splitP hd (fun hb41 hd => ?_) fun hb41 hd => ?_
   · refine .g r r r (fun _ => .gno r r hb41 r r .mk) (.g r r r (fun _ => .gno r r hb41 r r .mk) (.g r r r (fun _ => .gno r r hb41 r r .mk) (.g r r r (fun _ => .gno r r hb41 r r .mk) (.g r r r (fun _ => .pickT r hb41 r r r .mk) (.e2 7 (.nilS [30, 8, 6] r r (.condKT r r (.sr ?_))))))))
     have hw43 := W_ref01_Of (I := I10) hd
     refine .callP call81 r hw43 r r fun v44 hv45 => ?_
     obtain ⟨r42, rfl, hd⟩ := hv45
     exact .storeA sz83 r r (.s .z) (.t (.t .nil)) r r (.nilS [6] r r (.drop .z (.ret (pret results49 (.w ia83 sz83 r .z r .n) hl11 ⟨r42, r, hd⟩))))
   refine .g r r r (fun _ => .gyes r r hb41 (.loadW ia83 sz83 r .z r r r .mk)) (.ww r fun ex => ?_)
   have hw47 := W_ref01_Of (I := I10) hd
   refine .gyes r r hb41 (.callP call81 r hw47 r r fun v48 hv49 => ?_)
   obtain ⟨r46, rfl, hd⟩ := hv49
   refine .so 2 r r r (.cg r r r r (fun _ => .gyes r r hb41 (.loadW ia83 sz83 r .z r r r .mk)) trivial) (.ww r fun ex => ?_)
   have hw51 := W_ref01_Compare (I := I10) hd
   refine .gyes r r hb41 (.callP call82 r hw51 r r fun v52 hv53 => ?_)
   obtain ⟨r50, rfl, hd⟩ := hv53
   refine .so 2 r r r trivial (.g r r r (fun _ => .gyes r r hb41 (.gt r r r r .mk)) (.g r r r (fun _ => .pickF r hb41 r r r .mk) (.e2 7 (.nilS [30, 8, 6] r r (.condP r hd (fun hb54 hd => ?_) fun hb54 hd => ?_)))))
   · refine .sr ?_
     have hw56 := W_ref01_Of (I := I10) hd
     refine .callP call81 r hw56 r r fun v57 hv58 => ?_
     obtain ⟨r55, rfl, hd⟩ := hv58
     exact .storeA sz83 r r (.s .z) (.t (.t .nil)) r r (.nilS [6] r r (.drop .z (.ret (pret results49 (.w ia83 sz83 r .z r .n) hl11 ⟨r55, r, hd⟩))))
   exact .skipS [8, 6] r r (.sr (.loadW ia83 sz83 r .z r r r (.storeA sz83 r r (.s .z) (.t (.t .nil)) r r (.nilS [6] r r (.drop .z (.ret (pret results49 (.w ia83 sz83 r .z r .n) hl11 ⟨r35, r, hd⟩)))))))
 refine .sr (.ks 2 r (.nilS [33, 15, 7, 6, 2, 1] r r (.condP r hd (fun hb59 hd => ?_) fun hb59 hd => ?_)))
 · refine .seq (.sr (.ks 1 r (.nilS [35, 6, 1] r r (.condP r hd (fun hb60 hd => ?_) fun hb60 hd => ?_))))
   · refine .sr ?_
     have hw62 := W_ref01_Of (I := I10) hd
     refine .callP call81 r hw62 r r fun v63 hv64 => ?_
     obtain ⟨r61, rfl, hd⟩ := hv64
     exact .storeA sz83 r r .z (.t (.t .nil)) r r (.nilS [6] r r (.ret (pret results49 (.w ia83 sz83 r .z r .n) hl11 ⟨r61, r, hd⟩)))
   refine .skipS [6, 1] r r (.sr (.ks 1 r ?_))
   have hw66 := W_ref01_Of (I := I10) hd
   refine .callP call81 r hw66 r r fun v67 hv68 => ?_
   obtain ⟨r65, rfl, hd⟩ := hv68
   exact .storeA sz83 r r .z (.t (.t .nil)) r r (.nilS [6] r r (.ret (pret results49 (.w ia83 sz83 r .z r .n) hl11 ⟨r65, r, hd⟩)))
 refine .sr (.ks 2 r (.nilS [39, 15, 7, 6, 2, 1] r r (.condP r hd (fun hb69 hd => ?_) fun hb69 hd => ?_)))
 · refine .seq (.sr (.ks 1 r (.nilS [41, 6, 2] r r (.condP r hd (fun hb70 hd => ?_) fun hb70 hd => ?_))))
   · refine .sr ?_
     have hw72 := W_ref01_Of (I := I10) hd
     refine .callP call81 r hw72 r r fun v73 hv74 => ?_
     obtain ⟨r71, rfl, hd⟩ := hv74
     exact .storeA sz83 r r .z (.t (.t .nil)) r r (.nilS [6] r r (.ret (pret results49 (.w ia83 sz83 r .z r .n) hl11 ⟨r71, r, hd⟩)))
   refine .skipS [6, 2] r r (.sr (.ks 1 r ?_))
   have hw76 := W_ref01_Of (I := I10) hd
   refine .callP call81 r hw76 r r fun v77 hv78 => ?_
   obtain ⟨r75, rfl, hd⟩ := hv78
   exact .storeA sz83 r r .z (.t (.t .nil)) r r (.nilS [6] r r (.ret (pret results49 (.w ia83 sz83 r .z r .n) hl11 ⟨r75, r, hd⟩)))
 refine .sr (.ks 2 r (.nilS [45, 15, 6, 2, 1] r r (.condP r hd (fun hb79 hd => ?_) fun hb79 hd => ?_)))
 · refine .sr (.ks 3 r ?_)
   refine splitP hd (fun hb80 hd => ?_) fun hb80 hd => ?_
   · rw [hb80]
     refine .ks 3 r ?_
     have hw82 := W_ref02_truth (I := I10) hd
     refine .callP call83 r hw82 r r fun v83 hv84 => ?_
     obtain ⟨r81, rfl, hd⟩ := hv84
     exact .storeA sz83 r r .z (.t (.t .nil)) r r (.nilS [6] r r (.ret (pret results49 (.w ia83 sz83 r .z r .n) hl11 ⟨r81, r, hd⟩)))
   rw [hb80]
   refine .ks 3 r ?_
   have hw86 := W_ref02_truth (I := I10) hd
   refine .callP call83 r hw86 r r fun v87 hv88 => ?_
   obtain ⟨r85, rfl, hd⟩ := hv88
   exact .storeA sz83 r r .z (.t (.t .nil)) r r (.nilS [6] r r (.ret (pret results49 (.w ia83 sz83 r .z r .n) hl11 ⟨r85, r, hd⟩)))
 refine .sr (.ks 2 r (.nilS [54, 6, 2, 1] r r (.condP r hd (fun hb89 hd => ?_) fun hb89 hd => ?_)))
 · refine .sr (.ks 2 r ?_)
   have hw91 := W_ref01_Mul (I := I10) hd
   refine .callP call84 r hw91 r r fun v92 hv93 => ?_
   obtain ⟨r90, rfl, hd⟩ := hv93
   exact .storeA sz83 r r .z (.t (.t .nil)) r r (.nilS [6] r r (.ret (pret results49 (.w ia83 sz83 r .z r .n) hl11 ⟨r90, r, hd⟩)))
 exact .sr (.build zv83 un83 BI83 .n (by exact trivial) r r (.storeA sz83 r r .z (.t (.t .nil)) r r (.nilS [6] r r (.ret (pret results49 (.w ia83 sz83 r .z r .n) hl11 ⟨({ Hi := 0, Lo := 0 } : Wide), r, hd⟩)))))

theorem W_ref13_Sums {I : IH} {a0 : Int} {a1 : Rows} {a2 : Dense} {a3 : List Int} {a4 : Bool} {p1 : Option Addr} {c2 : Nat} {p4 : Option Addr} {c5 : Nat} {p7 : Option Addr} {c8 : Nat} {p10 : Option Addr} {c11 : Nat} {p13 : Option Addr} {c14 : Nat} {p16 : Option Addr} {c17 : Nat} {Q : ((List Sum) × Int) → Prop} (R3 : RepSl eI64 I p1 c2 a1.Start) (R6 : RepSl eI64 I p4 c5 a1.Col) (R9 : RepSl eI64 I p7 c8 a1.Val) (R12 : RepSl eU64 I p10 c11 a2.Has) (R15 : RepSl eI64 I p13 c14 a2.Vals) (R18 : RepSl eU64 I p16 c17 a3) (hd : ref13_Sums a0 a1 a2 a3 a4 Q) :
  PFun prog 18 [.int .i64 a0, .agg #[.int .i64 a1.Rows, .int .i64 a1.Cols, .slice p1 a1.Start.length c2, .slice p4 a1.Col.length c5, .slice p7 a1.Val.length c8], .agg #[.int .i64 a2.N, .slice p10 a2.Has.length c11, .slice p13 a2.Vals.length c14], .slice p16 a3.length c17, .bool a4] I (o18_ Q) := by
 refine Fun.enter func18 r ntmps18 r (.c (.c (.c (.c (.c .n))))) fun w0 M => ?_
 refine .sr (.boxA r r r fun b26 => ?_)
 refine .boxA r r r fun b28 => ?_
 refine .ks 2 r (.nilS [7, 6, 4, 3, 0] r r (.sr (.loadW ia39 sz39 r (.s .z) r r r ?_)))
 have hw61 := W_ref07_Sure (I := I) R3 R6 R9 hd
 refine .call call44 r hw61 r r fun v50 I47 hl48 hv49 => ?_
 obtain ⟨r46, p52, c53, p55, c56, p58, c59, rfl, R54, R57, R60, hd⟩ := hv49
 replace R3 := R3.mono hl48
 replace R6 := R6.mono hl48
 replace R9 := R9.mono hl48
 replace R12 := R12.mono hl48
 replace R15 := R15.mono hl48
 replace R18 := R18.mono hl48
 refine .storeA sz39 r r (.s .z) (.t (.t (.t (.t (.t .nil))))) r r (.nilS [7, 6, 4, 3, 0] r r (.sr (.loadW ia53 sz53 r .z r r r ?_)))
 have hw84 := W_ref10_Back (I := I47) R12 R15 hd
 refine .call call45 r hw84 r r fun v79 I76 hl77 hv78 => ?_
 obtain ⟨r75, p81, c82, rfl, R83, hd⟩ := hv78
 have le85 := IH.le.trans hl48 hl77
 replace R12 := R12.mono hl77
 replace R15 := R15.mono hl77
 replace R18 := R18.mono hl77
 replace R54 := R54.mono hl77
 replace R57 := R57.mono hl77
 replace R60 := R60.mono hl77
 refine .allocA zv42 r r fun b86 => ?_
 refine .storeA sz42 r r .z (.t (.t .nil)) r r (.nilS [12, 6, 4, 3, 0] r r (.drop (.s .z) (.seq (.sr (.ks 1 r ?_)))))
 have hw94 := W_ref02_Is (I := I76) hd
 refine .callP call46 r hw94 r r fun v95 hv96 => ?_
 obtain ⟨r93, rfl, hd⟩ := hv96
 refine .ks 1 r (.nilS [27, 12, 6, 4, 3, 0] r r (.condP r hd (fun hb97 hd => ?_) fun hb97 hd => ?_))
 · exact .sr (.ks 2 r (.nilS [11, 10] r r (.drop .z (.drop .z (.ret (pret results18 (.t r (.t r .n)) le85 ⟨(([] : List Sum), 8), _, _, r, (.nil _ _ _), hd⟩))))))
 refine .skipS [12, 6, 4, 3, 0] r r (.seq (.sr (.fa un42 r sz3 r (o := 0) r r r (.load1 ia3 r .z r r r (.fa un39 r sz3 r (o := 1) r r r (.load1 ia3 r (.s .z) r r r (.ks 1 r (.nilS [32, 12, 6, 4, 3, 0] r r (.condP r hd (fun hb99 hd => ?_) fun hb99 hd => ?_)))))))))
 · exact .sr (.ks 2 r (.nilS [11, 10] r r (.drop .z (.drop .z (.ret (pret results18 (.t r (.t r .n)) le85 ⟨(([] : List Sum), 4), _, _, r, (.nil _ _ _), hd⟩))))))
 refine .skipS [12, 6, 4, 3, 0] r r (.sr (.ks 1 r (.nilS [13, 12, 6, 4, 3, 0] r r (.seq (.sr (.ks 1 r (.nilS [14, 13, 12, 6, 4, 3, 0] r r (.block (.own0 eSum 85 ?_)))))))))
 refine .loop hd (fun (s : (List Sum) × Int) c w => match s with | (s1302, s1306) => ∃ I_ p1303 c1304, IH.le I76 I_ ∧ Ok ⟨93, [], none⟩ [(0, .int .i64 a0), (3, .slice p16 a3.length c17), (4, .bool a4), (6, .pointer (some ⟨b26, 0, none⟩)), (12, .pointer (some ⟨b86, 0, none⟩)), (13, .slice p1303 s1302.length c1304), (14, .int .i64 s1306)] c ∧ Sym w0 M I I_ [pto b26 (.cells #[.int .i64 r46.Rows, .int .i64 r46.Cols, .slice p52 r46.Start.length c53, .slice p55 r46.Col.length c56, .slice p58 r46.Val.length c59] 39 (0, 0)), pto b86 (.cells #[.int .i64 r75.N, .slice p81 r75.Items.length c82] 42 (0, 0)), OwnSl eSum 85 p1303 c1304 s1302] w) (fun c w ho hs => ⟨I76, _, _, (.refl _), ho.sub ⟨r, r, r, r, r, r, r, trivial⟩, hs.pick (.c (.s (.s .z)) (.c (.s .z) (.c .z .n)))⟩) ?_
 rintro ⟨s1302, s1306⟩ next1308 hd c w hst
 obtain ⟨I1309, p1303, c1304, hl1310, hok, hsym⟩ := hst
 have le1311 := IH.le.trans le85 hl1310
 replace R18 := R18.mono hl1310
 replace R54 := R54.mono hl1310
 replace R57 := R57.mono hl1310
 replace R60 := R60.mono hl1310
 replace R83 := R83.mono hl1310
 refine Cod.at hok hsym (.seq (.sr (.ks 1 r (.fa un39 r sz3 r (o := 0) r r r (.load1 ia3 r .z r r r (.ks 1 r (.nilS [36, 14, 13, 12, 6, 4, 3, 0] r r (.condP r hd (fun hb1313 hd => ?_) fun hb1313 hd => ?_))))))))
 · refine .skipS [14, 13, 12, 6, 4, 3, 0] r r (.seq (.block (.seq (.sr (.ks 2 r ?_)))))
   have hw1320 := W_ref03_Has (I := I1309) R18 hd
   refine .callP call47 r hw1320 r r fun v1321 hv1322 => ?_
   obtain ⟨r1319, rfl, hd⟩ := hv1322
   refine .ks 1 r (.eqB underlying4 r r r r (.nilS [43, 14, 13, 12, 6, 4, 3, 0] r r (.condP r hd (fun hb1323 hd => ?_) fun hb1323 hd => ?_)))
   · exact .exitS [14, 13, 12, 6, 4, 3, 0] r r (.region (.ks 3 r (.nil' fun c w ho hs => ⟨(s1302, w64 (s1306 + 1)), hd, I1309, _, _, hl1310, ho.sub ⟨r, r, r, r, r, r, r, trivial⟩, hs.pick (.c .z (.c .z (.c .z .n)))⟩)))
   refine .skipS [14, 13, 12, 6, 4, 3, 0] r r (.sr (.allocA zv83 r r fun b1326 => ?_))
   refine .nilS [15, 14, 13, 12, 6, 4, 3, 0] r r (.sr (.ks 1 r (.nilS [16, 15, 14, 13, 12, 6, 4, 3, 0] r r (.seq (.sr (.fa un39 r sz36 r (o := 2) r r r (.load1 ia36 r (.s .z) r r r (.ks 1 r ?_))))))))
   obtain ⟨h1626, x1627, hx1628, hd⟩ := hd
   obtain ⟨b1629, o1630, cs1631, e1632, hC1633, hr1634⟩ := R54.2 _ _ hx1628
   cases hr1634
   refine .ixa un36 sz3 r e1632 r h1626 (idx_lt hx1628 h1626) r r (.ld1 (j := 0) ia3 hC1633 r r r r r (.ks 1 r (.nilS [17, 16, 15, 14, 13, 12, 6, 4, 3, 0] r r (.block (.loop hd (fun (s : Int × Int × Bool × Int) c w => match s with | (s1812, s1813, s1814, s1815) => ∃ I_, IH.le I1309 I_ ∧ Ok ⟨93, [], none⟩ [(0, .int .i64 a0), (3, .slice p16 a3.length c17), (4, .bool a4), (6, .pointer (some ⟨b26, 0, none⟩)), (12, .pointer (some ⟨b86, 0, none⟩)), (13, .slice p1303 s1302.length c1304), (14, .int .i64 s1306), (15, .pointer (some ⟨b1326, 0, none⟩)), (16, .bool s1814), (17, .int .i64 s1815)] c ∧ Sym w0 M I I_ [pto b26 (.cells #[.int .i64 r46.Rows, .int .i64 r46.Cols, .slice p52 r46.Start.length c53, .slice p55 r46.Col.length c56, .slice p58 r46.Val.length c59] 39 (0, 0)), pto b86 (.cells #[.int .i64 r75.N, .slice p81 r75.Items.length c82] 42 (0, 0)), OwnSl eSum 85 p1303 c1304 s1302, pto b1326 (.cells #[.int .i64 s1812, .int .u64 s1813] 83 (0, 0))] w) (fun c w ho hs => ⟨I1309, (.refl _), ho.sub ⟨r, r, r, r, r, r, r, r, r, r, trivial⟩, hs.pick (.c (.s .z) (.c (.s .z) (.c (.s .z) (.c .z .n))))⟩) ?_)))))
   rintro ⟨s1812, s1813, s1814, s1815⟩ next1816 hd c w hst
   obtain ⟨I1817, hl1818, hok, hsym⟩ := hst
   have le1819 := IH.le.trans le1311 hl1818
   have le1820 := IH.le.trans hl1310 hl1818
   replace R18 := R18.mono hl1818
   replace R54 := R54.mono hl1818
   replace R57 := R57.mono hl1818
   replace R60 := R60.mono hl1818
   replace R83 := R83.mono hl1818
   refine Cod.at hok hsym (.seq (.sr (.ks 1 r (.fa un39 r sz36 r (o := 2) r r r (.load1 ia36 r .z r r r (.ks 2 r ?_))))))
   obtain ⟨h1831, x1832, hx1833, hd⟩ := hd
   obtain ⟨b1834, o1835, cs1836, e1837, hC1838, hr1839⟩ := R54.2 _ _ hx1833
   cases hr1839
   refine .ixa un36 sz3 r e1837 r h1831 (idx_lt hx1833 h1831) r r (.ld1 (j := 0) ia3 hC1838 r r r r r (.ks 1 r (.nilS [56, 17, 16, 15, 14, 13, 12, 6, 4, 3, 0] r r (.condP r hd (fun hb1840 hd => ?_) fun hb1840 hd => ?_))))
   · refine .skipS [17, 16, 15, 14, 13, 12, 6, 4, 3, 0] r r (.seq (.block (.seq (.ownF (.s (.s .z)) fun hne1855 => ?_))))
     refine .dr [0, 1, 2, 3, 4, 5, 6, 7, 8, 9, 10] 11 (.g r r r (fun _ => .loadW ia42 sz42 r (.s .z) r r r .mk) (.g r r r (fun _ => .fa un39 r sz36 r (o := 3) r r r .mk) (.g r r r (fun _ => .load1 ia36 r .z r r r .mk) (.fk 1 r ?_))))
     obtain ⟨h1856, x1857, hx1858, hd⟩ := hd
     obtain ⟨b1859, o1860, cs1861, e1862, hC1863, hr1864⟩ := R57.2 _ _ hx1858
     cases hr1864
     refine .g r r r (fun _ => .ixa un36 sz3 r e1862 r h1856 (idx_lt hx1858 h1856) r r .mk) (.g r r r (fun _ => .ld1 (j := 0) ia3 hC1863 r r r r r .mk) (.ww r fun ex => ?_))
     have hw1866 := W_ref09_Get (I := I1817) R83 hd
     refine .callP call48 r hw1866 r r fun v1867 hv1868 => ?_
     obtain ⟨r1865, rfl, hd⟩ := hv1868
     refine .so 4 r r r trivial (.fk 4 r (.e2 11 (.ks 1 r (.nilS [19, 18, 17, 16, 15, 14, 13, 12, 6, 4, 3, 0] r r (.seq (.sr (.ks 2 r (.nilS [70, 18, 17, 16, 15, 14, 13, 12, 6, 4, 3, 0] r r (.condP r hd (fun hb1870 hd => ?_) fun hb1870 hd => ?_)))))))))
     · exact .exitS [17, 16, 15, 14, 13, 12, 6, 4, 3, 0] r r (.region (.ks 3 r (.nil' fun c w ho hs => ⟨(s1812, s1813, s1814, w64 (s1815 + 1)), hd, I1817, hl1818, ho.sub ⟨r, r, r, r, r, r, r, r, r, r, trivial⟩, hs.pick (.c .z (.c .z (.c .z (.c .z .n))))⟩)))
     refine .skipS [18, 17, 16, 15, 14, 13, 12, 6, 4, 3, 0] r r (.sr (.ks 1 r (.fa un39 r sz37 r (o := 4) r r r (.load1 ia37 r .z r r r (.ks 1 r ?_)))))
     obtain ⟨h1886, x1887, hx1888, hd⟩ := hd
     obtain ⟨b1889, o1890, cs1891, e1892, hC1893, hr1894⟩ := R60.2 _ _ hx1888
     cases hr1894
     refine .ixa un37 sz2 r e1892 r h1886 (idx_lt hx1888 h1886) r r (.ld1 (j := 0) ia2 hC1893 r r r r r (.ks 1 r ?_))
     have hw1896 := W_ref02_Mul (I := I1817) hd
     refine .callP call49 r hw1896 r r fun v1897 hv1898 => ?_
     obtain ⟨r1895, rfl, hd⟩ := hv1898
     refine .allocA zv83 r r fun b1899 => ?_
     refine .storeA sz83 r r .z (.t (.t .nil)) r r (.nilS [20, 17, 16, 15, 14, 13, 12, 6, 4, 3, 0] r r (.seq (.sr (.ks 1 r (.nilS [79, 20, 17, 15, 14, 13, 12, 6, 4, 3, 0] r r (.condP r hd (fun hb1901 hd => ?_) fun hb1901 hd => ?_))))))
     · refine .region (.ks 1 r (.loadW ia83 sz83 r (.s (.s (.s (.s .z)))) r r r (.loadW ia83 sz83 r .z r r r ?_)))
       have hw1903 := W_ref02_Add (I := I1817) hd
       refine .callP call50 r hw1903 r r fun v1904 hv1905 => ?_
       obtain ⟨r1902, rfl, hd⟩ := hv1905
       exact .storeA sz83 r r (.s (.s (.s (.s .z)))) (.t (.t .nil)) r r (.nilS [17, 15, 14, 13, 12, 6, 4, 3, 0] r r (.drop .z (.region (.ks 1 r (.nilS [16, 17, 15, 14, 13, 12, 6, 4, 3, 0] r r (.region (.ks 3 r (.nil' fun c w ho hs => ⟨(r1902.Hi, r1902.Lo, true, w64 (s1815 + 1)), hd, I1817, hl1818, ho.sub ⟨r, r, r, r, r, r, r, r, r, r, trivial⟩, hs.pick (.c .z (.c .z (.c .z (.c .z .n))))⟩))))))))
     refine .region (.loadW ia83 sz83 r .z r r r (.storeA sz83 r r (.s (.s (.s (.s .z)))) (.t (.t .nil)) r r (.nilS [17, 15, 14, 13, 12, 6, 4, 3, 0] r r (.drop .z (.region (.ks 1 r (.nilS [16, 17, 15, 14, 13, 12, 6, 4, 3, 0] r r (.region (.ks 3 r ?_)))))))))
     exact .nil' fun c w ho hs => ⟨(r1895.Hi, r1895.Lo, true, w64 (s1815 + 1)), hd, I1817, hl1818, ho.sub ⟨r, r, r, r, r, r, r, r, r, r, trivial⟩, hs.pick (.c .z (.c .z (.c .z (.c .z .n))))⟩
   refine .exitS [16, 15, 14, 13, 12, 6, 4, 3, 0] r r (.sr (.ks 1 r (.nilS [85, 15, 14, 13, 12, 6, 4, 3, 0] r r (.condP r hd (fun hb1906 hd => ?_) fun hb1906 hd => ?_))))
   · refine .region (.ks 2 r (.loadW ia83 sz83 r (.s (.s (.s .z))) r r r (.build zv85 un85 BI85 (.c r r r (.t .nil) (.c r r r (.s (.t (.t .nil))) .n)) (by exact ⟨⟨_, _, r, r, r⟩, ⟨⟨_, _, r, r, r⟩, trivial⟩⟩) r r (.buildSlice 1 un45 sz85 zv85 r r (.c r r r .n) r r fun b1907 => ?_))))
     obtain ⟨hl1909, hd⟩ := hd
     refine .append (ys := [({ At := s1306, Val := ({ Hi := s1812, Lo := s1813 } : Wide) } : Sum)]) 24 (.s (.s (.s .z))) un45 un45 IN85 r r r r r r r r r (.box .z (.one r) r) hl1909 r r fun p1910 c1911 => ?_
     exact .ks 1 r (.nilS [13, 14, 12, 6, 4, 3, 0] r r (.drop (.s .z) (.drop (.s (.s (.s .z))) (.region (.ks 3 r (.nil' fun c w ho hs => ⟨((s1302 ++ ([({ At := s1306, Val := ({ Hi := s1812, Lo := s1813 } : Wide) } : Sum)])), w64 (s1306 + 1)), hd, I1817, _, _, le1820, ho.sub ⟨r, r, r, r, r, r, r, trivial⟩, hs.pick (.c (.s .z) (.c (.s .z) (.c .z .n)))⟩))))))
   exact .skipS [14, 13, 12, 6, 4, 3, 0] r r (.drop (.s (.s (.s .z))) (.region (.ks 3 r (.nil' fun c w ho hs => ⟨(s1302, w64 (s1306 + 1)), hd, I1817, _, _, le1820, ho.sub ⟨r, r, r, r, r, r, r, trivial⟩, hs.pick (.c .z (.c .z (.c .z .n)))⟩))))
 refine .exitS [13] r r (.drop .z (.drop .z (.sr (.ks 3 r (.nilS [11, 10] r r (.pub .z fun I1913 hl1914 R1915 => ?_))))))
 have le1916 := IH.le.trans le1311 hl1914
 have le1917 := IH.le.trans hl1310 hl1914
 exact .ret (pret results18 (.t r (.t r .n)) le1916 ⟨(s1302, 0), _, _, r, R1915, hd⟩)

theorem W_law13_Task_Rows {I : IH} {a0 : Law13_Task} {p1 : Option Addr} {c2 : Nat} {p4 : Option Addr} {c5 : Nat} {p7 : Option Addr} {c8 : Nat} {p10 : Option Addr} {c11 : Nat} {Q : (List Int) → Prop} (R3 : RepSl eTriple I p1 c2 a0.L) (R6 : RepSl eItem I p4 c5 a0.X) (R9 : RepSl eItem I p7 c8 a0.Y) (R12 : RepSl eU64 I p10 c11 a0.F) (hd : law13_Task_Rows a0 Q) :
  PFun prog 28 [.agg #[.int .i64 a0.Ring, .int .u8 a0.Size.1, .int .u8 a0.Size.2, .slice p1 a0.L.length c2, .slice p4 a0.X.length c5, .slice p7 a0.Y.length c8, .slice p10 a0.F.length c11, .bool a0.Others]] I (fun I_ v => ∃ r p13 c14, v = .slice p13 r.length c14 ∧ RepSl eU64 I_ p13 c14 r ∧ Q r) := by
 refine Fun.enter func28 r ntmps28 r (.c .n) fun w0 M => ?_
 refine .sr (.boxA r r r fun b18 => ?_)
 refine .ks 1 r (.nilS [1] r r (.seq (.sr (.fa un35 r sz33 r (o := 6) r r r (.load1 ia33 r .z r r r (.len un33 r r r r (.ks 1 r (.nilS [6, 1] r r (.condP r hd (fun hb20 hd => ?_) fun hb20 hd => ?_)))))))))
 · refine .sr (.fa un35 r sz33 r (o := 6) r r r (.load1 ia33 r .z r r r ?_))
   obtain ⟨h21, h22, h23, hd⟩ := hd
   have h29 : Int.toNat 0 ≤ Int.toNat 2 := by omega
   have h30 : Int.toNat 2 ≤ a0.F.length := by omega
   obtain ⟨p24, c25, e27, e28, R26⟩ := RepSl.sliceW R12 (Int.toNat 0) (Int.toNat 2) c11 h29 h30 (.inl rfl)
   exact .sliceW (L := Int.toNat 0) (H := Int.toNat 2) (cm := c11) un33 sz81 r r R12.1 r r r (.inl ⟨r, r⟩) (.inr ⟨_, _, r, (by omega), r⟩) (.inl r) h29 h30 r e27 e28 r r (.ks 1 r (.nilS [2] r r (.drop .z (.ret (pret results28 (.t r .n) (.refl _) ⟨((a0.F.take (Int.toNat 2)).drop (Int.toNat 0)), _, _, r, R26, hd⟩)))))
 exact .skipS [1] r r (.sr (.fa un35 r sz33 r (o := 6) r r r (.load1 ia33 r .z r r r (.ks 1 r (.nilS [2] r r (.drop .z (.ret (pret results28 (.t r .n) (.refl _) ⟨a0.F, _, _, r, R12, hd⟩))))))))

theorem W_csr_Triples {I : IH} {a0 : Rows} {p1 : Option Addr} {c2 : Nat} {p4 : Option Addr} {c5 : Nat} {p7 : Option Addr} {c8 : Nat} {Q : (List Triple) → Prop} (R3 : RepSl eI64 I p1 c2 a0.Start) (R6 : RepSl eI64 I p4 c5 a0.Col) (R9 : RepSl eI64 I p7 c8 a0.Val) (hd : csr_Triples a0 Q) :
  OFun prog 63 [.agg #[.int .i64 a0.Rows, .int .i64 a0.Cols, .slice p1 a0.Start.length c2, .slice p4 a0.Col.length c5, .slice p7 a0.Val.length c8]] I (fun I_ v l => ∃ r p10 c11, v = .slice p10 r.length c11 ∧ l = [OwnSl eTriple 78 p10 c11 r] ∧ Q r) := by
 refine Fun.enter func63 r ntmps63 r (.c .n) fun w0 M => ?_
 refine .sr (.boxA r r r fun b15 => ?_)
 refine .ks 1 r (.nilS [1] r r (.sr (.loadW ia39 sz39 r .z r r r ?_)))
 have hw48 := W_csr_sure (I := I) R3 R6 R9 hd
 refine .call call73 r hw48 r r fun v37 I34 hl35 hv36 => ?_
 obtain ⟨r33, p39, c40, p42, c43, p45, c46, rfl, R41, R44, R47, hd⟩ := hv36
 replace R3 := R3.mono hl35
 replace R6 := R6.mono hl35
 replace R9 := R9.mono hl35
 refine .storeA sz39 r r .z (.t (.t (.t (.t (.t .nil))))) r r (.nilS [1] r r (.sr (.ks 1 r (.nilS [3, 1] r r (.seq (.sr (.fa un39 r sz3 r (o := 0) r r r (.load1 ia3 r .z r r r (.ks 1 r ?_)))))))))
 refine .nilS [13, 12, 3, 1] r r (.block (.own0 eTriple 78 (.loop hd (fun (s : (List Triple) × Int) c w => match s with | (s386, s390) => ∃ I_ p387 c388, IH.le I34 I_ ∧ Ok ⟨42, [], none⟩ [(1, .pointer (some ⟨b15, 0, none⟩)), (3, .slice p387 s386.length c388), (12, .int .i64 r33.Rows), (13, .int .i64 s390)] c ∧ Sym w0 M I I_ [pto b15 (.cells #[.int .i64 r33.Rows, .int .i64 r33.Cols, .slice p39 r33.Start.length c40, .slice p42 r33.Col.length c43, .slice p45 r33.Val.length c46] 39 (0, 0)), OwnSl eTriple 78 p387 c388 s386] w) (fun c w ho hs => ⟨I34, _, _, (.refl _), ho.sub ⟨r, r, r, r, trivial⟩, hs.pick (.c (.s .z) (.c .z .n))⟩) ?_)))
 rintro ⟨s386, s390⟩ next392 hd c w hst
 obtain ⟨I393, p387, c388, hl394, hok, hsym⟩ := hst
 have le395 := IH.le.trans hl35 hl394
 replace R41 := R41.mono hl394
 replace R44 := R44.mono hl394
 replace R47 := R47.mono hl394
 refine Cod.at hok hsym (.sr (.ks 1 r (.nilS [14, 13, 12, 3, 1] r r (.seq (.condP r hd (fun hb397 hd => ?_) fun hb397 hd => ?_)))))
 · refine .skipS [13, 12, 3, 1] r r (.seq (.block (.sr (.ks 2 r (.nilS [4, 13, 12, 3, 1] r r (.sr (.loadW ia39 sz39 r .z r r r (.ks 1 r ?_))))))))
   have hw425 := W_csr_part (I := I393) R41 R44 R47 hd
   refine .call call97 r hw425 r r fun v417 I414 hl415 hv416 => ?_
   obtain ⟨r413, p419, c420, p422, c423, rfl, R421, R424, hd⟩ := hv416
   have le426 := IH.le.trans le395 hl415
   have le427 := IH.le.trans hl394 hl415
   replace R41 := R41.mono hl415
   replace R44 := R44.mono hl415
   replace R47 := R47.mono hl415
   refine .ks 5 r (.nilS [6, 5, 4, 13, 12, 3, 1] r r (.sr (.ks 1 r (.len un36 r r r r (.ks 1 r (.nilS [24, 23, 22, 6, 4, 13, 12, 3, 1] r r (.block (.loop hd (fun (s : (List Triple) × Int) c w => match s with | (s513, s517) => ∃ I_ p514 c515, IH.le I414 I_ ∧ Ok ⟨42, [], none⟩ [(1, .pointer (some ⟨b15, 0, none⟩)), (3, .slice p514 s513.length c515), (4, .int .i64 s390), (6, .slice p422 r413.2.length c423), (12, .int .i64 r33.Rows), (13, .int .i64 s390), (22, .slice p419 r413.1.length c420), (23, .int .i64 (r413.1.length : Int)), (24, .int .i64 s517)] c ∧ Sym w0 M I I_ [pto b15 (.cells #[.int .i64 r33.Rows, .int .i64 r33.Cols, .slice p39 r33.Start.length c40, .slice p42 r33.Col.length c43, .slice p45 r33.Val.length c46] 39 (0, 0)), OwnSl eTriple 78 p514 c515 s513] w) (fun c w ho hs => ⟨I414, _, _, (.refl _), ho.sub ⟨r, r, r, r, r, r, r, r, r, trivial⟩, hs.pick (.c .z (.c .z .n))⟩) ?_))))))))
   rintro ⟨s513, s517⟩ next518 hd c w hst
   obtain ⟨I519, p514, c515, hl520, hok, hsym⟩ := hst
   have le521 := IH.le.trans le426 hl520
   have le522 := IH.le.trans le427 hl520
   replace R41 := R41.mono hl520
   replace R44 := R44.mono hl520
   replace R47 := R47.mono hl520
   replace R421 := R421.mono hl520
   replace R424 := R424.mono hl520
   refine Cod.at hok hsym (.sr (.ks 1 r (.nilS [25, 24, 23, 22, 13, 12, 6, 4, 3, 1] r r (.seq (.condP r hd (fun hb524 hd => ?_) fun hb524 hd => ?_)))))
   · refine .skipS [24, 23, 22, 13, 12, 6, 4, 3, 1] r r (.seq (.block (.sr (.ks 1 r ?_))))
     obtain ⟨h534, x535, hx536, hd⟩ := hd
     obtain ⟨b537, o538, cs539, e540, hC541, hr542⟩ := R421.2 _ _ hx536
     cases hr542
     refine .ixa un36 sz3 r e540 r h534 (idx_lt hx536 h534) r r (.ld1 (j := 0) ia3 hC541 r r r r r (.ks 2 r (.nilS [8, 7, 24, 23, 22, 13, 12, 6, 4, 3, 1] r r (.region (.ks 5 r ?_)))))
     obtain ⟨h543, x544, hx545, hd⟩ := hd
     obtain ⟨b546, o547, cs548, e549, hC550, hr551⟩ := R424.2 _ _ hx545
     cases hr551
     refine .ixa un37 sz2 r e549 r h543 (idx_lt hx545 h543) r r (.ld1 (j := 0) ia2 hC550 r r r r r (.build zv78 un78 BI78 (.c r r r (.t .nil) (.c r r r (.s (.t .nil)) (.c r r r (.s (.s (.t .nil))) .n))) (by exact ⟨⟨_, _, r, r, r⟩, ⟨⟨_, _, r, r, r⟩, ⟨⟨_, _, r, r, r⟩, trivial⟩⟩⟩) r r (.buildSlice 1 un31 sz78 zv78 r r (.c r r r .n) r r fun b552 => ?_)))
     obtain ⟨hl554, hd⟩ := hd
     refine .append (ys := [({ Row := s390, Col := x535, Val := x544 } : Triple)]) 24 (.s (.s .z)) un31 un31 IN78 r r r r r r r r r (.box .z (.one r) r) hl554 r r fun p555 c556 => ?_
     exact .ks 1 r (.nilS [3, 24, 23, 22, 13, 12, 6, 4, 1] r r (.drop (.s .z) (.region (.ks 2 r (.nil' fun c w ho hs => ⟨((s513 ++ ([({ Row := s390, Col := x535, Val := x544 } : Triple)])), w64 (s517 + 1)), hd, I519, _, _, hl520, ho.sub ⟨r, r, r, r, r, r, r, r, r, trivial⟩, hs.pick (.c (.s .z) (.c .z .n))⟩)))))
   exact .exitS [13, 12, 3, 1] r r (.region (.ks 2 r (.nil' fun c w ho hs => ⟨(s513, w64 (s390 + 1)), hd, I519, _, _, le522, ho.sub ⟨r, r, r, r, trivial⟩, hs.pick (.c .z (.c .z .n))⟩)))
 exact .exitS [3] r r (.drop .z (.sr (.ks 2 r (.nilS [2] r r (.ret (oret results63 (.t r .n) le395 (.c .z .n) ⟨s386, _, _, r, r, hd⟩))))))

theorem W_csr_order {I : IH} {a0 : Triple} {a1 : Triple} {Q : Int → Prop}  (hd : csr_order a0 a1 Q) :
  PFun prog 99 [.agg (encTriple a0).toArray, .agg (encTriple a1).toArray] I (fun _ => o0_ Q) := by
 refine Fun.enter func99 r ntmps99 r (.c (.c .n)) fun w0 M => ?_
 refine .sr (.boxA r r r fun b5 => ?_)
 refine .boxA r r r fun b7 => ?_
 refine .ks 1 r (.nilS [3, 2] r r (.seq (.dr [0, 1, 2, 3, 5, 6, 7, 8, 4, 9, 10, 11] 12 (.g r r r (fun _ => .fa un78 r sz3 r (o := 0) r r r .mk) (.g r r r (fun _ => .load1 ia3 r (.s .z) r r r .mk) (.g r r r (fun _ => .fa un78 r sz3 r (o := 0) r r r .mk) (.g r r r (fun _ => .load1 ia3 r .z r r r .mk) (.g r r r (fun _ => .fa un78 r sz3 r (o := 1) r r r .mk) (.g r r r (fun _ => .load1 ia3 r (.s .z) r r r .mk) ?_)))))))))
 refine .g r r r (fun _ => .fa un78 r sz3 r (o := 1) r r r .mk) (.g r r r (fun _ => .load1 ia3 r .z r r r .mk) (.ww r fun ex => ?_))
 have hw10 := W_cmp_Compare_int (I := I) hd
 refine .callP call131 r hw10 r r fun v11 hv12 => ?_
 obtain ⟨r9, rfl, hd⟩ := hv12
 refine .so 2 r r r (.cg r r r r (fun _ => .load1 ia3 r .z r r r .mk) (.cg r r r r (fun _ => .fa un78 r sz3 r (o := 1) r r r .mk) (.cg r r r r (fun _ => .load1 ia3 r (.s .z) r r r .mk) (.cg r r r r (fun _ => .fa un78 r sz3 r (o := 1) r r r .mk) trivial)))) (.ww r fun ex => ?_)
 have hw14 := W_cmp_Compare_int (I := I) hd
 refine .callP call131 r hw14 r r fun v15 hv16 => ?_
 obtain ⟨r13, rfl, hd⟩ := hv16
 refine .so 2 r r r trivial (.ww r fun ex => ?_)
 refine .buildSlice 2 un36 sz3 zv3 r r (.c r r r (.c r r r .n)) r r fun b17 => ?_
 refine .so 3 r r r trivial (.ww r fun ex => ?_)
 refine .pubB (El := eI64) (ys := ([r9, r13] : List Int)) (k := 2) .z (RepCs.cons (cs := [.int .i64 r9]) r (RepCs.cons (cs := [.int .i64 r13]) r .nil)) r fun I19 hl20 R21 => ?_
 have hw23 := W_cmp_Or_int (I := I19) R21 hd
 refine .callP call130 r hw23 r r fun v24 hv25 => ?_
 obtain ⟨r22, rfl, hd⟩ := hv25
 exact .so 2 r r r trivial (.e2 12 (.ks 1 r (.nilS [4] r r (.drop .z (.drop .z (.ret (pret results99 (.t r .n) hl20 ⟨r22, r, hd⟩)))))))

theorem W_csr_Turn {I : IH} {a0 : Rows} {p1 : Option Addr} {c2 : Nat} {p4 : Option Addr} {c5 : Nat} {p7 : Option Addr} {c8 : Nat} {Q : Rows → Prop} (R3 : RepSl eI64 I p1 c2 a0.Start) (R6 : RepSl eI64 I p4 c5 a0.Col) (R9 : RepSl eI64 I p7 c8 a0.Val) (hd : csr_Turn a0 Q) :
  PFun prog 64 [.agg #[.int .i64 a0.Rows, .int .i64 a0.Cols, .slice p1 a0.Start.length c2, .slice p4 a0.Col.length c5, .slice p7 a0.Val.length c8]] I (o9_ Q) := by
 refine Fun.enter func64 r ntmps64 r (.c .n) fun w0 M => ?_
 refine .sr (.boxA r r r fun b23 => ?_)
 refine .allocA zv39 r r fun b25 => ?_
 refine .nilS [2, 1] r r (.sr (.loadW ia39 sz39 r (.s .z) r r r ?_))
 have hw58 := W_csr_sure (I := I) R3 R6 R9 hd
 refine .call call73 r hw58 r r fun v47 I44 hl45 hv46 => ?_
 obtain ⟨r43, p49, c50, p52, c53, p55, c56, rfl, R51, R54, R57, hd⟩ := hv46
 replace R3 := R3.mono hl45
 replace R6 := R6.mono hl45
 replace R9 := R9.mono hl45
 refine .storeA sz39 r r (.s .z) (.t (.t (.t (.t (.t .nil))))) r r (.nilS [2, 1] r r (.sr (.loadW ia39 sz39 r (.s .z) r r r ?_)))
 have hw81 := W_csr_Triples (I := I44) R51 R54 R57 hd
 refine .callO call63 r hw81 r r fun v75 I72 l76 hl73 hv74 => ?_
 obtain ⟨r71, p77, c78, rfl, rfl, hd⟩ := hv74
 have le82 := IH.le.trans hl45 hl73
 replace R51 := R51.mono hl73
 replace R54 := R54.mono hl73
 replace R57 := R57.mono hl73
 refine .ks 1 r (.nilS [3, 2, 1] r r (.seq (.sr (.ks 1 r (.len un31 r r r r (.ks 1 r (.nilS [12, 11, 10, 3, 2, 1] r r (.block (.loop hd (fun (s : (List Triple) × Int) c w => match s with | (s224, s229) => ∃ I_ p225 c226, IH.le I72 I_ ∧ Ok ⟨36, [], none⟩ [(1, .pointer (some ⟨b23, 0, none⟩)), (2, .pointer (some ⟨b25, 0, none⟩)), (3, .slice p225 s224.length c226), (10, .slice p225 s224.length c226), (11, .int .i64 (r71.length : Int)), (12, .int .i64 s229)] c ∧ Sym w0 M I I_ [pto b23 (.cells #[.int .i64 r43.Rows, .int .i64 r43.Cols, .slice p49 r43.Start.length c50, .slice p52 r43.Col.length c53, .slice p55 r43.Val.length c56] 39 (0, 0)), pto b25 (.cells #[.int .i64 0, .int .i64 0, .slice none 0 0, .slice none 0 0, .slice none 0 0] 39 (0, 0)), OwnSl eTriple 78 p225 c226 s224] w) (fun c w ho hs => ⟨I72, _, _, (.refl _), ho.sub ⟨r, r, r, r, r, r, trivial⟩, hs.pick (.c (.s (.s .z)) (.c (.s .z) (.c .z .n)))⟩) ?_)))))))))
 rintro ⟨s224, s229⟩ next230 hd c w hst
 obtain ⟨I231, p225, c226, hl232, hok, hsym⟩ := hst
 have le233 := IH.le.trans le82 hl232
 replace R51 := R51.mono hl232
 replace R54 := R54.mono hl232
 replace R57 := R57.mono hl232
 refine Cod.at hok hsym (.sr (.ks 1 r (.nilS [13, 12, 11, 10, 3, 2, 1] r r (.seq (.condP r hd (fun hb235 hd => ?_) fun hb235 hd => ?_)))))
 · refine .skipS [12, 11, 10, 3, 2, 1] r r (.seq (.block (.sr (.ks 1 r ?_))))
   obtain ⟨h243, x244, hx245, hd⟩ := hd
   refine .ownNe (.s (.s .z)) (idx_ne hx245) fun b246 e247 => ?_
   cases e247
   refine .ixa0 un31 sz78 r r h243 (idx_lt hx245 h243) r r (.loA (j := 0) isAgg78 sz78 (.s (.s .z)) hx245 r r (.t (.t (.t .nil))) r r r (.allocA zv78 r r fun b248 => ?_))
   refine .ks 1 r (.storeA sz78 r r .z (.t (.t (.t .nil))) r r (.nilS [4, 5, 12, 11, 10, 3, 2, 1] r r (.region (.ks 2 r (.fa un78 r sz3 r (o := 1) r r r (.load1 ia3 r .z r r r (.fa un78 r sz3 r (o := 0) r r r (.load1 ia3 r .z r r r (.fa un78 r sz2 r (o := 2) r r r ?_)))))))))
   refine .load1 ia2 r .z r r r (.build zv78 un78 BI78 (.c r r r (.t .nil) (.c r r r (.s (.t .nil)) (.c r r r (.s (.s (.t .nil))) .n))) (by exact ⟨⟨_, _, r, r, r⟩, ⟨⟨_, _, r, r, r⟩, ⟨⟨_, _, r, r, r⟩, trivial⟩⟩⟩) r r ?_)
   obtain ⟨h250, x251, hx252, hd⟩ := hd
   exact .ixa0 un31 sz78 r r h250 (idx_lt hx252 h250) r r (.stOA (j := 0) (v' := ({ Row := x244.Col, Col := x244.Row, Val := x244.Val } : Triple)) sz78 (.s (.s (.s .z))) hx252 r r r (.t (.t (.t .nil))) r r (.sub (E' := [(1, _), (2, _), (3, .slice (some ⟨b246, 0, none⟩) (s224.set s229.toNat ({ Row := x244.Col, Col := x244.Row, Val := x244.Val } : Triple)).length c226), (10, .slice (some ⟨b246, 0, none⟩) (s224.set s229.toNat ({ Row := x244.Col, Col := x244.Row, Val := x244.Val } : Triple)).length c226), (11, _), (12, _), (5, _), (4, _), (17, .slice (some ⟨b246, 0, none⟩) (s224.set s229.toNat ({ Row := x244.Col, Col := x244.Row, Val := x244.Val } : Triple)).length c226), (18, _), (19, _), (20, _), (21, _), (22, _), (23, _), (24, _), (25, _), (26, _)]) ⟨r, r, (by simp only [List.length_set]; rfl), (by simp only [List.length_set]; rfl), r, r, r, r, (by simp only [List.length_set]; rfl), r, r, r, r, r, r, r, r, r, trivial⟩ (.nilS [12, 11, 10, 3, 2, 1] r r (.drop .z (.region (.ks 2 r (.nil' fun c w ho hs => ⟨((s224.set s229.toNat ({ Row := x244.Col, Col := x244.Row, Val := x244.Val } : Triple)), w64 (s229 + 1)), hd, I231, _, _, hl232, ho.sub ⟨r, r, r, r, r, r, trivial⟩, hs.pick (.c .z (.c .z (.c .z .n)))⟩)))))))
 refine .exitS [3, 2, 1] r r (.sr (.ks 1 r ?_))
 have hw253 := Fun.sort (hk := fun _ => ⟨r, r⟩) SL98 isAgg78 sz78 (fun x y J Q hq => W_csr_order (I := J) (a0 := x) (a1 := y) (Q := Q) hq) call99 (I := I231) (T := 78) (a := p225) (cap := c226) hd
 refine .callS (.f call98 r) (.c (.s (.s .z)) .n) hw253 r r fun v254 I255 l256 hl257 hv258 => ?_
 obtain ⟨y259, rfl, hlen260, rfl, hd⟩ := hv258
 have le261 := IH.le.trans le233 hl257
 have le262 := IH.le.trans hl232 hl257
 replace R51 := R51.mono hl257
 replace R54 := R54.mono hl257
 replace R57 := R57.mono hl257
 refine .sub (E' := [(1, _), (2, _), (3, .slice p225 y259.length c226), (28, .slice p225 y259.length c226), (29, _)]) ⟨r, r, (by rw [hlen260]; rfl), (by rw [hlen260]; rfl), r, trivial⟩ (.nilS [3, 2, 1] r r (.sr (.fa un39 r sz3 r (o := 1) r r r (.load1 ia3 r (.s .z) r r r (.fa un39 r sz3 r (o := 0) r r r (.load1 ia3 r (.s .z) r r r (.ks 1 r (.pub .z fun I263 hl264 R265 => ?_))))))))
 have le266 := IH.le.trans le261 hl264
 have le267 := IH.le.trans le262 hl264
 replace R51 := R51.mono hl264
 replace R54 := R54.mono hl264
 replace R57 := R57.mono hl264
 have hw283 := W_csr_built (I := I263) R265 hd
 refine .call call100 r hw283 r r fun v272 I269 hl270 hv271 => ?_
 obtain ⟨r268, p274, c275, p277, c278, p280, c281, rfl, R276, R279, R282, hd⟩ := hv271
 have le284 := IH.le.trans le266 hl270
 have le285 := IH.le.trans le267 hl270
 replace R51 := R51.mono hl270
 replace R54 := R54.mono hl270
 replace R57 := R57.mono hl270
 replace R265 := R265.mono hl270
 exact .storeA sz39 r r (.s .z) (.t (.t (.t (.t (.t .nil))))) r r (.nilS [2] r r (.drop .z (.ret (pret results64 (.w ia39 sz39 r .z r .n) le284 ⟨r268, _, _, _, _, _, _, r, R276, R279, R282, hd⟩))))

theorem W_dcsc_Of {I : IH} {a0 : Rows} {p1 : Option Addr} {c2 : Nat} {p4 : Option Addr} {c5 : Nat} {p7 : Option Addr} {c8 : Nat} {Q : Columns → Prop} (R3 : RepSl eI64 I p1 c2 a0.Start) (R6 : RepSl eI64 I p4 c5 a0.Col) (R9 : RepSl eI64 I p7 c8 a0.Val) (hd : dcsc_Of a0 Q) :
  PFun prog 29 [.agg #[.int .i64 a0.Rows, .int .i64 a0.Cols, .slice p1 a0.Start.length c2, .slice p4 a0.Col.length c5, .slice p7 a0.Val.length c8]] I (o12_ Q) := by
 refine Fun.enter func29 r ntmps29 r (.c .n) fun w0 M => ?_
 refine .sr (.boxA r r r fun b26 => ?_)
 refine .allocA zv50 r r fun b28 => ?_
 refine .nilS [2, 1] r r (.sr ?_)
 have hw77 := W_dcsc_none (I := I) hd
 refine .callO call61 r hw77 r r fun v59 I56 l60 hl57 hv58 => ?_
 obtain ⟨r55, p61, c62, p64, c65, p67, c68, p70, c71, rfl, rfl, hd⟩ := hv58
 replace R3 := R3.mono hl57
 replace R6 := R6.mono hl57
 replace R9 := R9.mono hl57
 refine .allocA zv50 r r fun b78 => ?_
 refine .storeA sz50 r r .z (.t (.t (.t (.t (.t (.t .nil)))))) r r (.nilS [3, 2, 1] r r (.seq (.sr (.loadW ia39 sz39 r (.s (.s (.s (.s (.s (.s .z)))))) r r r ?_))))
 have hw86 := W_csr_Right (I := I56) R3 R6 R9 hd
 refine .callP call62 r hw86 r r fun v87 hv88 => ?_
 obtain ⟨r85, rfl, hd⟩ := hv88
 refine .ks 1 r (.nilS [10, 3, 2, 1] r r (.condP r hd (fun hb89 hd => ?_) fun hb89 hd => ?_))
 · refine .sr (.loadW ia50 sz50 r .z r r r (.storeA sz50 r r (.s (.s (.s (.s (.s .z))))) (.t (.t (.t (.t (.t (.t .nil)))))) r r (.nilS [2] r r (.drop .z (.drop (.s (.s (.s (.s (.s .z))))) (.pub .z fun I90 hl91 R92 => ?_))))))
   have le93 := IH.le.trans hl57 hl91
   refine .pub .z fun I94 hl95 R96 => ?_
   have le97 := IH.le.trans le93 hl95
   replace R92 := R92.mono hl95
   refine .pub .z fun I98 hl99 R100 => ?_
   have le101 := IH.le.trans le97 hl99
   replace R92 := R92.mono hl99
   replace R96 := R96.mono hl99
   refine .pub .z fun I102 hl103 R104 => ?_
   have le105 := IH.le.trans le101 hl103
   replace R92 := R92.mono hl103
   replace R96 := R96.mono hl103
   replace R100 := R100.mono hl103
   exact .ret (pret results29 (.w ia50 sz50 r .z r .n) le105 ⟨r55, _, _, _, _, _, _, _, _, r, R92, R96, R100, R104, hd⟩)
 refine .skipS [3, 2, 1] r r (.seq (.dr [0, 1, 2, 3, 4, 5] 6 (.g r r r (fun _ => .fa un39 r sz3 r (o := 0) r r r .mk) (.g r r r (fun _ => .load1 ia3 r (.s (.s (.s (.s (.s (.s .z)))))) r r r .mk) (.g r r r (fun _ => .fa un39 r sz3 r (o := 1) r r r .mk) (.g r r r (fun _ => .load1 ia3 r (.s (.s (.s (.s (.s (.s .z)))))) r r r .mk) (.g r r r (fun _ => .fa un50 r sz3 r (o := 0) r r r .mk) (.ww r fun ex => ?_))))))))
 refine .store1 sz3 r r .z (.t .nil) r (.sn 7 r r r (.cg r r r r (fun _ => .load1 ia3 r (.s (.s (.s (.s (.s (.s .z)))))) r r r .mk) (.cg r r r r (fun _ => .fa un39 r sz3 r (o := 1) r r r .mk) trivial)) (.e2 6 (.fa un50 r sz3 r (o := 1) r r r (.store1 sz3 r r .z (.s (.t .nil)) r (.nilS [3, 2, 1] r r (.seq (.sr (.loadW ia39 sz39 r (.s (.s (.s (.s (.s (.s .z)))))) r r r ?_))))))))
 have hw150 := W_csr_Turn (I := I56) R3 R6 R9 hd
 refine .call call64 r hw150 r r fun v139 I136 hl137 hv138 => ?_
 obtain ⟨r135, p141, c142, p144, c145, p147, c148, rfl, R143, R146, R149, hd⟩ := hv138
 have le151 := IH.le.trans hl57 hl137
 replace R3 := R3.mono hl137
 replace R6 := R6.mono hl137
 replace R9 := R9.mono hl137
 have hw162 := W_csr_Triples (I := I136) R143 R146 R149 hd
 refine .callO call63 r hw162 r r fun v156 I153 l157 hl154 hv155 => ?_
 obtain ⟨r152, p158, c159, rfl, rfl, hd⟩ := hv155
 have le163 := IH.le.trans le151 hl154
 replace R3 := R3.mono hl154
 replace R6 := R6.mono hl154
 replace R9 := R9.mono hl154
 replace R143 := R143.mono hl154
 replace R146 := R146.mono hl154
 replace R149 := R149.mono hl154
 refine .len un31 r r r r (.ks 1 r (.nilS [22, 21, 20, 3, 2] r r (.drop (.s (.s (.s (.s (.s (.s (.s .z))))))) (.block (.loop hd (fun (s : (List Int) × (List Int) × (List Int) × (List Int) × Int) c w => match s with | (s605, s609, s613, s617, s621) => ∃ I_ p606 c607 p610 c611 p614 c615 p618 c619, IH.le I153 I_ ∧ Ok ⟨79, [], none⟩ [(2, .pointer (some ⟨b28, 0, none⟩)), (3, .pointer (some ⟨b78, 0, none⟩)), (20, .slice p158 r152.length c159), (21, .int .i64 (r152.length : Int)), (22, .int .i64 s621)] c ∧ Sym w0 M I I_ [pto b28 (.cells #[.int .i64 0, .int .i64 0, .slice none 0 0, .slice none 0 0, .slice none 0 0, .slice none 0 0] 50 (0, 0)), pto b78 (.cells #[.int .i64 a0.Rows, .int .i64 a0.Cols, .slice p606 s605.length c607, .slice p610 s609.length c611, .slice p614 s613.length c615, .slice p618 s617.length c619] 50 (0, 0)), OwnSl eI64 3 p606 c607 s605, OwnSl eI64 3 p610 c611 s609, OwnSl eI64 3 p614 c615 s613, OwnSl eI64 2 p618 c619 s617, OwnSl eTriple 78 p158 c159 r152] w) (fun c w ho hs => ⟨I153, _, _, _, _, _, _, _, _, (.refl _), ho.sub ⟨r, r, r, r, r, trivial⟩, hs.pick (.c (.s (.s (.s (.s (.s (.s .z)))))) (.c (.s .z) (.c (.s .z) (.c (.s .z) (.c (.s .z) (.c (.s .z) (.c .z .n)))))))⟩) ?_)))))
 rintro ⟨s605, s609, s613, s617, s621⟩ next622 hd c w hst
 obtain ⟨I623, p606, c607, p610, c611, p614, c615, p618, c619, hl624, hok, hsym⟩ := hst
 have le625 := IH.le.trans le163 hl624
 refine Cod.at hok hsym (.sr (.ks 1 r (.nilS [23, 22, 21, 20, 3, 2] r r (.seq (.condP r hd (fun hb627 hd => ?_) fun hb627 hd => ?_)))))
 · refine .skipS [22, 21, 20, 3, 2] r r (.seq (.block (.sr ?_)))
   obtain ⟨h635, x636, hx637, hd⟩ := hd
   refine .ownNe (.s (.s (.s (.s (.s (.s .z)))))) (idx_ne hx637) fun b638 e639 => ?_
   cases e639
   refine .ixa0 un31 sz78 r r h635 (idx_lt hx637 h635) r r (.loA (j := 0) isAgg78 sz78 (.s (.s (.s (.s (.s (.s .z)))))) hx637 r r (.t (.t (.t .nil))) r r r (.allocA zv78 r r fun b640 => ?_))
   refine .storeA sz78 r r .z (.t (.t (.t .nil))) r r (.nilS [5, 22, 21, 20, 3, 2] r r (.seq ?_))
   refine Cod.joinQ (σ := (List Int) × (List Int)) hd (fun (s : (List Int) × (List Int)) c w => match s with | (s740, s744) => ∃ I_ p741 c742 p745 c746, IH.le I623 I_ ∧ Ok ⟨79, [], none⟩ [(2, .pointer (some ⟨b28, 0, none⟩)), (3, .pointer (some ⟨b78, 0, none⟩)), (5, .pointer (some ⟨b640, 0, none⟩)), (20, .slice (some ⟨b638, 0, none⟩) r152.length c159), (21, .int .i64 (r152.length : Int)), (22, .int .i64 s621)] c ∧ Sym w0 M I I_ [pto b28 (.cells #[.int .i64 0, .int .i64 0, .slice none 0 0, .slice none 0 0, .slice none 0 0, .slice none 0 0] 50 (0, 0)), pto b78 (.cells #[.int .i64 a0.Rows, .int .i64 a0.Cols, .slice p741 s740.length c742, .slice p745 s744.length c746, .slice p614 s613.length c615, .slice p618 s617.length c619] 50 (0, 0)), OwnSl eI64 3 p741 c742 s740, OwnSl eI64 3 p745 c746 s744, OwnSl eI64 3 p614 c615 s613, OwnSl eI64 2 p618 c619 s617, pto b640 (.cells #[.int .i64 x636.Row, .int .i64 x636.Col, .int .i64 x636.Val] 78 (0, 0)), OwnSl eTriple 78 (some ⟨b638, 0, none⟩) c159 r152] w) (fun k748 hd => ?_) ?_
   · skip
     refine .sr (.fa un50 r sz36 r (o := 2) r r r (.load1 ia36 r (.s (.s .z)) r r r (.len un36 r r r r (.ks 1 r (.nilS [6, 5, 22, 21, 20, 3, 2] r r (.seq ?_))))))
     refine Cod.joinQ (σ := Bool) hd (fun (s769 : Bool) c w => ∃ I_, IH.le I623 I_ ∧ Ok ⟨79, [], none⟩ [(2, .pointer (some ⟨b28, 0, none⟩)), (3, .pointer (some ⟨b78, 0, none⟩)), (5, .pointer (some ⟨b640, 0, none⟩)), (20, .slice (some ⟨b638, 0, none⟩) r152.length c159), (21, .int .i64 (r152.length : Int)), (22, .int .i64 s621), (41, .bool s769)] c ∧ Sym w0 M I I_ [pto b28 (.cells #[.int .i64 0, .int .i64 0, .slice none 0 0, .slice none 0 0, .slice none 0 0, .slice none 0 0] 50 (0, 0)), pto b78 (.cells #[.int .i64 a0.Rows, .int .i64 a0.Cols, .slice p606 s605.length c607, .slice p610 s609.length c611, .slice p614 s613.length c615, .slice p618 s617.length c619] 50 (0, 0)), OwnSl eI64 3 p606 c607 s605, OwnSl eI64 3 p610 c611 s609, OwnSl eI64 3 p614 c615 s613, OwnSl eI64 2 p618 c619 s617, pto b640 (.cells #[.int .i64 x636.Row, .int .i64 x636.Col, .int .i64 x636.Val] 78 (0, 0)), OwnSl eTriple 78 (some ⟨b638, 0, none⟩) c159 r152] w) (fun k770 hd => ?_) ?_
     · skip
       refine .ownF (.s (.s (.s .z))) fun hne771 => ?_
       refine .ownF (.s (.s (.s (.s .z)))) fun hne772 => ?_
       refine .ownF (.s (.s (.s (.s (.s .z))))) fun hne773 => ?_
       refine .ownF (.s (.s (.s (.s (.s (.s .z)))))) fun hne774 => ?_
       refine .dr [0, 1, 2, 3, 4, 5, 6, 7, 8, 9, 10, 11, 12] 13 (.fk 3 r ?_)
       refine splitP hd (fun hb775 hd => ?_) fun hb775 hd => ?_
       · rw [hb775]
         exact .fk 10 r (.e2 13 (.nil' fun c w ho hs => ⟨true, hd, I623, (.refl _), ho.sub ⟨r, r, r, r, r, r, r, trivial⟩, hs.pick (.c (.s .z) (.c (.s .z) (.c (.s .z) (.c (.s .z) (.c (.s .z) (.c (.s .z) (.c .z (.c .z .n))))))))⟩))
       rw [hb775]
       refine .g r r r (fun _ => .gyes r r r (.fa un50 r sz36 r (o := 2) r r r .mk)) (.g r r r (fun _ => .gyes r r r (.load1 ia36 r (.s (.s .z)) r r r .mk)) (.fk 2 r ?_))
       obtain ⟨h776, x777, hx778, hd⟩ := hd
       obtain ⟨b779, e780⟩ := hne771 (idx_ne hx778)
       cases e780
       exact .g r r r (fun _ => .gyes r r r (.ixa0 un36 sz3 r r h776 (idx_lt hx778 h776) r r .mk)) (.g r r r (fun _ => .gyes r r r (.lo1 (j := 0) ia3 (.s (.s (.s .z))) hx778 r r r r r .mk)) (.g r r r (fun _ => .gyes r r r (.fa un78 r sz3 r (o := 0) r r r .mk)) (.g r r r (fun _ => .gyes r r r (.load1 ia3 r .z r r r .mk)) (.fk 2 r (.e2 13 (.nil' fun c w ho hs => ⟨(x777 != x636.Row), hd, I623, (.refl _), ho.sub ⟨r, r, r, r, r, r, r, trivial⟩, hs.pick (.c (.s .z) (.c (.s .z) (.c (.s .z) (.c (.s .z) (.c (.s .z) (.c (.s .z) (.c .z (.c .z .n))))))))⟩))))))
     rintro s769 hd c w hst
     obtain ⟨I781, hl782, hok, hsym⟩ := hst
     have le783 := IH.le.trans le625 hl782
     have le784 := IH.le.trans hl624 hl782
     refine Cod.at hok hsym (.condP r hd (fun hb785 hd => ?_) fun hb785 hd => ?_)
     · refine .sr (.fa un50 r sz36 r (o := 2) r r r (.load1 ia36 r (.s .z) r r r (.fa un78 r sz3 r (o := 0) r r r (.load1 ia3 r (.s (.s (.s (.s (.s (.s .z)))))) r r r (.buildSlice 1 un36 sz3 zv3 r r (.c r r r .n) r r fun b786 => ?_)))))
       obtain ⟨hl788, hd⟩ := hd
       refine .append (ys := [x636.Row]) 8 (.s (.s (.s .z))) un36 un36 IN3 r r r r r r r r r (.box .z (.one r) r) hl788 r r fun p789 c790 => ?_
       refine .fa un50 r sz36 r (o := 2) r r r (.store1 sz36 r r (.s (.s (.s .z))) (.s (.s (.t .nil))) r (.nilS [22, 21, 20, 5, 3, 2] r r (.drop (.s .z) (.region (.fa un50 r sz36 r (o := 3) r r r (.load1 ia36 r (.s (.s .z)) r r r (.buildSlice 1 un36 sz3 zv3 r r (.c r r r .n) r r fun b792 => ?_)))))))
       obtain ⟨hl794, hd⟩ := hd
       refine .append (ys := [0]) 8 (.s (.s (.s (.s .z)))) un36 un36 IN3 r r r r r r r r r (.box .z (.one r) r) hl794 r r fun p795 c796 => ?_
       exact .fa un50 r sz36 r (o := 3) r r r (.store1 sz36 r r (.s (.s (.s (.s .z)))) (.s (.s (.s (.t .nil)))) r (.nil' fun c w ho hs => ⟨((s605 ++ ([x636.Row])), (s609 ++ ([0]))), hd, I781, _, _, _, _, hl782, ho.sub ⟨r, r, r, r, r, r, trivial⟩, hs.pick (.c (.s (.s (.s .z))) (.c (.s (.s (.s .z))) (.c (.s (.s .z)) (.c .z (.c (.s .z) (.c (.s .z) (.c (.s .z) (.c (.s .z) .n))))))))⟩))
     exact .skip' fun c w ho hs => ⟨(s605, s609), hd, I781, _, _, _, _, hl782, ho.sub ⟨r, r, r, r, r, r, trivial⟩, hs.pick (.c .z (.c .z (.c .z (.c .z (.c .z (.c .z (.c .z (.c .z .n))))))))⟩
   rintro ⟨s740, s744⟩ hd c w hst
   obtain ⟨I798, p741, c742, p745, c746, hl799, hok, hsym⟩ := hst
   have le800 := IH.le.trans le625 hl799
   have le801 := IH.le.trans hl624 hl799
   refine Cod.at hok hsym (.sr (.fa un50 r sz36 r (o := 4) r r r (.load1 ia36 r (.s .z) r r r (.fa un78 r sz3 r (o := 1) r r r (.load1 ia3 r (.s (.s (.s (.s (.s (.s .z)))))) r r r (.buildSlice 1 un36 sz3 zv3 r r (.c r r r .n) r r fun b808 => ?_))))))
   obtain ⟨hl810, hd⟩ := hd
   refine .append (ys := [x636.Col]) 8 (.s (.s (.s (.s (.s .z))))) un36 un36 IN3 r r r r r r r r r (.box .z (.one r) r) hl810 r r fun p811 c812 => ?_
   refine .fa un50 r sz36 r (o := 4) r r r (.store1 sz36 r r (.s (.s (.s .z))) (.s (.s (.s (.s (.t .nil))))) r (.nilS [22, 21, 20, 5, 3, 2] r r (.drop (.s .z) (.sr (.fa un50 r sz37 r (o := 5) r r r (.load1 ia37 r (.s (.s .z)) r r r (.fa un78 r sz2 r (o := 2) r r r (.load1 ia2 r (.s (.s (.s (.s (.s (.s .z)))))) r r r (.buildSlice 1 un37 sz2 zeroValue2 r r (.c r r r .n) r r fun b814 => ?_)))))))))
   obtain ⟨hl816, hd⟩ := hd
   refine .append (ys := [x636.Val]) 8 (.s (.s (.s (.s (.s (.s .z)))))) un37 un37 IN2 r r r r r r r r r (.box .z (.one r) r) hl816 r r fun p817 c818 => ?_
   refine .fa un50 r sz37 r (o := 5) r r r (.store1 sz37 r r (.s (.s (.s (.s .z)))) (.s (.s (.s (.s (.s (.t .nil)))))) r (.nilS [22, 21, 20, 3, 2] r r (.drop (.s .z) (.drop (.s (.s (.s (.s (.s (.s .z)))))) (.region (.fa un50 r sz36 r (o := 3) r r r (.load1 ia36 r (.s (.s (.s .z))) r r r (.fa un50 r sz36 r (o := 2) r r r (.load1 ia36 r (.s (.s (.s .z))) r r r ?_)))))))))
   refine .len un36 r r r r (.fa un50 r sz36 r (o := 4) r r r (.load1 ia36 r (.s (.s (.s .z))) r r r (.len un36 r r r r ?_)))
   obtain ⟨h820, x821, hx822, hd⟩ := hd
   refine .ownNe (.s (.s (.s (.s (.s .z))))) (idx_ne hx822) fun b823 e824 => ?_
   cases e824
   exact .ixa0 un36 sz3 r r h820 (idx_lt hx822 h820) r r (.stO1 (j := 0) (v' := ((s613 ++ ([x636.Col])).length : Int)) sz3 (.s (.s (.s (.s (.s .z))))) hx822 r r r (.t .nil) r (.sub (E' := [(2, _), (3, _), (20, _), (21, _), (22, _), (68, _), (69, .slice (some ⟨b823, 0, none⟩) (s744.set ((s740.length : Int).toNat) ((s613 ++ ([x636.Col])).length : Int)).length c746), (70, _), (71, _), (72, _), (73, _), (74, _), (75, _), (76, _)]) ⟨r, r, r, r, r, r, (by simp only [List.length_set]; rfl), r, r, r, r, r, r, r, trivial⟩ (.reat (.s (.s (.s .z))) (B := pto b78 (.cells #[.int .i64 a0.Rows, .int .i64 a0.Cols, .slice p741 s740.length c742, .slice (some ⟨b823, 0, none⟩) (s744.set ((s740.length : Int).toNat) ((s613 ++ ([x636.Col])).length : Int)).length c746, .slice p811 (s613 ++ ([x636.Col])).length c812, .slice p817 (s617 ++ ([x636.Val])).length c818] 50 (0, 0))) (by simp only [List.length_set]) (.nilS [22, 21, 20, 3, 2] r r (.region (.ks 2 r (.nil' fun c w ho hs => ⟨(s740, (s744.set ((s740.length : Int).toNat) ((s613 ++ ([x636.Col])).length : Int)), (s613 ++ ([x636.Col])), (s617 ++ ([x636.Val])), w64 (s621 + 1)), hd, I798, _, _, _, _, _, _, _, _, le801, ho.sub ⟨r, r, r, r, r, trivial⟩, hs.pick (.c (.s (.s .z)) (.c (.s (.s .z)) (.c (.s (.s .z)) (.c (.s (.s .z)) (.c (.s .z) (.c .z (.c .z .n)))))))⟩)))))))
 refine .exitS [3, 2] r r (.drop (.s (.s (.s (.s (.s (.s .z)))))) (.sr (.loadW ia50 sz50 r (.s .z) r r r (.storeA sz50 r r .z (.t (.t (.t (.t (.t (.t .nil)))))) r r (.nilS [2] r r (.drop (.s .z) (.pub (.s .z) fun I825 hl826 R827 => ?_)))))))
 have le828 := IH.le.trans le625 hl826
 have le829 := IH.le.trans hl624 hl826
 refine .pub (.s .z) fun I830 hl831 R832 => ?_
 have le833 := IH.le.trans le828 hl831
 have le834 := IH.le.trans le829 hl831
 replace R827 := R827.mono hl831
 refine .pub (.s .z) fun I835 hl836 R837 => ?_
 have le838 := IH.le.trans le833 hl836
 have le839 := IH.le.trans le834 hl836
 replace R827 := R827.mono hl836
 replace R832 := R832.mono hl836
 refine .pub (.s .z) fun I840 hl841 R842 => ?_
 have le843 := IH.le.trans le838 hl841
 have le844 := IH.le.trans le839 hl841
 replace R827 := R827.mono hl841
 replace R832 := R832.mono hl841
 replace R837 := R837.mono hl841
 exact .ret (pret results29 (.w ia50 sz50 r .z r .n) le843 ⟨({ Rows := a0.Rows, Cols := a0.Cols, At := s605, Start := s609, Row := s613, Val := s617 } : Columns), _, _, _, _, _, _, _, _, r, R827, R832, R837, R842, hd⟩)

theorem W_ref13_SameSums {I : IH} {a0 : List Sum} {a1 : List Sum} {p1 : Option Addr} {c2 : Nat} {p4 : Option Addr} {c5 : Nat} {Q : Bool → Prop} (R3 : RepSl eSum I p1 c2 a0) (R6 : RepSl eSum I p4 c5 a1) (hd : ref13_SameSums a0 a1 Q) :
  PFun prog 30 [.slice p1 a0.length c2, .slice p4 a1.length c5] I (fun _ => o1_ Q) := by
 refine Fun.enter func30 r ntmps30 r (.c (.c .n)) fun w0 M => ?_
 refine .sr (.ks 1 r (.nilS [1, 0] r r (.seq (.sr (.ks 1 r (.len un45 r r r r (.ks 1 r (.len un45 r r r r (.ks 1 r ?_)))))))))
 refine .nilS [10, 1, 0] r r (.condP r hd (fun hb8 hd => ?_) fun hb8 hd => ?_)
 · exact .sr (.ks 1 r (.nilS [4] r r (.ret (pret results30 (.t r .n) (.refl _) ⟨false, r, hd⟩))))
 refine .skipS [1, 0] r r (.seq (.sr (.ks 1 r (.nilS [5, 1, 0] r r (.block (.loop hd (fun (s54 : Int) c w => ∃ I_, IH.le I I_ ∧ Ok ⟨26, [], none⟩ [(0, .slice p1 a0.length c2), (1, .slice p4 a1.length c5), (5, .int .i64 s54)] c ∧ Sym w0 M I I_ [] w) (fun c w ho hs => ⟨I, (.refl _), ho.sub ⟨r, r, r, trivial⟩, hs.pick .n⟩) ?_))))))
 rintro s54 next55 hd c w hst
 obtain ⟨I56, hl57, hok, hsym⟩ := hst
 replace R3 := R3.mono hl57
 replace R6 := R6.mono hl57
 refine Cod.at hok hsym (.seq (.sr (.ks 2 r (.len un45 r r r r (.ks 1 r (.nilS [14, 5, 1, 0] r r (.condP r hd (fun hb59 hd => ?_) fun hb59 hd => ?_)))))))
 · refine .skipS [5, 1, 0] r r (.seq (.block (.seq (.dr [0, 1, 2, 3, 4, 5, 6, 7, 8] 9 (.fk 2 r ?_)))))
   obtain ⟨h60, x61, hx62, hd⟩ := hd
   obtain ⟨b63, o64, cs65, e66, hC67, hr68⟩ := R3.2 _ _ hx62
   cases hr68
   refine .g r r r (fun _ => .ixa un45 sz85 r e66 r h60 (idx_lt hx62 h60) r r .mk) (.g r r r (fun _ => .ldW isAgg85 sz85 hC67 r r r r .mk) (.fk 2 r ?_))
   obtain ⟨h69, x70, hx71, hd⟩ := hd
   obtain ⟨b72, o73, cs74, e75, hC76, hr77⟩ := R6.2 _ _ hx71
   cases hr77
   refine .g r r r (fun _ => .ixa un45 sz85 r e75 r h69 (idx_lt hx71 h69) r r .mk) (.g r r r (fun _ => .ldW isAgg85 sz85 hC76 r r r r .mk) (.g r r r (fun _ => .neV r r (EQ85 x61 x70) (EG85 _ _ _ _ _) r r r .mk) (.e2 9 (.nilS [25, 5, 1, 0] r r (.condP r hd (fun hb78 hd => ?_) fun hb78 hd => ?_)))))
   · exact .sr (.ks 1 r (.nilS [4] r r (.ret (pret results30 (.t r .n) hl57 ⟨false, r, hd⟩))))
   exact .skipS [5, 1, 0] r r (.region (.ks 3 r (.nil' fun c w ho hs => ⟨(w64 (s54 + 1)), hd, I56, hl57, ho.sub ⟨r, r, r, trivial⟩, hs.pick .n⟩)))
 exact .exitS [] r r (.sr (.ks 1 r (.nilS [4] r r (.ret (pret results30 (.t r .n) hl57 ⟨true, r, hd⟩)))))

theorem W_ref08_Right {I : IH} {a0 : Columns} {p1 : Option Addr} {c2 : Nat} {p4 : Option Addr} {c5 : Nat} {p7 : Option Addr} {c8 : Nat} {p10 : Option Addr} {c11 : Nat} {Q : Bool → Prop} (R3 : RepSl eI64 I p1 c2 a0.At) (R6 : RepSl eI64 I p4 c5 a0.Start) (R9 : RepSl eI64 I p7 c8 a0.Row) (R12 : RepSl eI64 I p10 c11 a0.Val) (hd : ref08_Right a0 Q) :
  PFun prog 161 [.agg #[.int .i64 a0.Rows, .int .i64 a0.Cols, .slice p1 a0.At.length c2, .slice p4 a0.Start.length c5, .slice p7 a0.Row.length c8, .slice p10 a0.Val.length c11]] I (fun _ => o1_ Q) := by
 refine Fun.enter func161 r ntmps161 r (.c .n) fun w0 M => ?_
 refine .sr (.boxA r r r fun b15 => ?_)
 refine .ks 1 r (.nilS [1] r r (.seq (.sr (.fa un50 r sz3 r (o := 0) r r r (.load1 ia3 r .z r r r (.ks 2 r ?_))))))
 refine splitP hd (fun hb24 hd => ?_) fun hb24 hd => ?_
 · rw [hb24]
   exact .ks 39 r (.nilS [47, 1] r r (.condKT r r (.sr (.ks 1 r (.nilS [2] r r (.drop .z (.ret (pret results161 (.t r .n) (.refl _) ⟨false, r, hd⟩))))))))
 rw [hb24]
 refine .gyes r r r (.fa un50 r sz3 r (o := 0) r r r (.gyes r r r (.load1 ia3 r .z r r r (.ks 3 r ?_))))
 refine splitP hd (fun hb25 hd => ?_) fun hb25 hd => ?_
 · rw [hb25]
   exact .ks 34 r (.nilS [47, 1] r r (.condKT r r (.sr (.ks 1 r (.nilS [2] r r (.drop .z (.ret (pret results161 (.t r .n) (.refl _) ⟨false, r, hd⟩))))))))
 rw [hb25]
 refine .gyes r r r (.fa un50 r sz3 r (o := 1) r r r (.gyes r r r (.load1 ia3 r .z r r r (.ks 3 r ?_))))
 refine splitP hd (fun hb26 hd => ?_) fun hb26 hd => ?_
 · rw [hb26]
   exact .ks 29 r (.nilS [47, 1] r r (.condKT r r (.sr (.ks 1 r (.nilS [2] r r (.drop .z (.ret (pret results161 (.t r .n) (.refl _) ⟨false, r, hd⟩))))))))
 rw [hb26]
 refine .gyes r r r (.fa un50 r sz3 r (o := 1) r r r (.gyes r r r (.load1 ia3 r .z r r r (.ks 3 r ?_))))
 refine splitP hd (fun hb27 hd => ?_) fun hb27 hd => ?_
 · rw [hb27]
   exact .ks 24 r (.nilS [47, 1] r r (.condKT r r (.sr (.ks 1 r (.nilS [2] r r (.drop .z (.ret (pret results161 (.t r .n) (.refl _) ⟨false, r, hd⟩))))))))
 rw [hb27]
 refine .gyes r r r (.fa un50 r sz36 r (o := 3) r r r (.gyes r r r (.load1 ia36 r .z r r r (.gyes r r r (.len un36 r r r r (.gyes r r r (.fa un50 r sz36 r (o := 2) r r r (.gyes r r r (.load1 ia36 r .z r r r (.gyes r r r (.len un36 r r r r (.ks 4 r ?_))))))))))))
 refine splitP hd (fun hb28 hd => ?_) fun hb28 hd => ?_
 · rw [hb28]
   exact .ks 14 r (.nilS [47, 1] r r (.condKT r r (.sr (.ks 1 r (.nilS [2] r r (.drop .z (.ret (pret results161 (.t r .n) (.refl _) ⟨false, r, hd⟩))))))))
 rw [hb28]
 refine .gyes r r r (.fa un50 r sz36 r (o := 4) r r r (.gyes r r r (.load1 ia36 r .z r r r (.gyes r r r (.len un36 r r r r (.gyes r r r (.fa un50 r sz37 r (o := 5) r r r (.gyes r r r (.load1 ia37 r .z r r r (.gyes r r r (.len un37 r r r r (.ks 3 r ?_))))))))))))
 refine splitP hd (fun hb29 hd => ?_) fun hb29 hd => ?_
 · rw [hb29]
   exact .ks 5 r (.nilS [47, 1] r r (.condKT r r (.sr (.ks 1 r (.nilS [2] r r (.drop .z (.ret (pret results161 (.t r .n) (.refl _) ⟨false, r, hd⟩))))))))
 rw [hb29]
 refine .gyes r r r (.fa un50 r sz36 r (o := 4) r r r (.gyes r r r (.load1 ia36 r .z r r r (.gyes r r r (.len un36 r r r r (.ks 2 r (.nilS [47, 1] r r (.condP r hd (fun hb30 hd => ?_) fun hb30 hd => ?_))))))))
 · exact .sr (.ks 1 r (.nilS [2] r r (.drop .z (.ret (pret results161 (.t r .n) (.refl _) ⟨false, r, hd⟩)))))
 refine .skipS [1] r r (.seq (.seq (.dr [0, 1, 2, 3, 4, 5, 6, 7, 8, 9, 10, 11, 12, 13, 14, 15, 16, 17] 18 (.g r r r (fun _ => .fa un50 r sz36 r (o := 3) r r r .mk) (.g r r r (fun _ => .load1 ia36 r .z r r r .mk) ?_)))))
 obtain ⟨h51, x52, hx53, hd⟩ := hd
 obtain ⟨b54, o55, cs56, e57, hC58, hr59⟩ := R6.2 _ _ hx53
 cases hr59
 refine .g r r r (fun _ => .ixa un36 sz3 r e57 r h51 (idx_lt hx53 h51) r r .mk) (.g r r r (fun _ => .ld1 (j := 0) ia3 hC58 r r r r r .mk) (.fk 2 r ?_))
 refine splitP hd (fun hb60 hd => ?_) fun hb60 hd => ?_
 · rw [hb60]
   exact .fk 12 r (.e2 18 (.nilS [65, 1] r r (.condKT r r (.sr (.ks 1 r (.nilS [2] r r (.drop .z (.ret (pret results161 (.t r .n) (.refl _) ⟨false, r, hd⟩)))))))))
 rw [hb60]
 refine .g r r r (fun _ => .gyes r r r (.fa un50 r sz36 r (o := 3) r r r .mk)) (.g r r r (fun _ => .gyes r r r (.load1 ia36 r .z r r r .mk)) (.g r r r (fun _ => .gyes r r r (.fa un50 r sz36 r (o := 2) r r r .mk)) (.g r r r (fun _ => .gyes r r r (.load1 ia36 r .z r r r .mk)) (.g r r r (fun _ => .gyes r r r (.len un36 r r r r .mk)) ?_))))
 obtain ⟨h61, x62, hx63, hd⟩ := hd
 obtain ⟨b64, o65, cs66, e67, hC68, hr69⟩ := R6.2 _ _ hx63
 cases hr69
 refine .g r r r (fun _ => .gyes r r r (.ixa un36 sz3 r e67 r h61 (idx_lt hx63 h61) r r .mk)) (.g r r r (fun _ => .gyes r r r (.ld1 (j := 0) ia3 hC68 r r r r r .mk)) (.g r r r (fun _ => .gyes r r r (.fa un50 r sz36 r (o := 4) r r r .mk)) (.g r r r (fun _ => .gyes r r r (.load1 ia36 r .z r r r .mk)) (.g r r r (fun _ => .gyes r r r (.len un36 r r r r .mk)) (.fk 2 r (.e2 18 (.nilS [65, 1] r r (.condP r hd (fun hb70 hd => ?_) fun hb70 hd => ?_))))))))
 · exact .sr (.ks 1 r (.nilS [2] r r (.drop .z (.ret (pret results161 (.t r .n) (.refl _) ⟨false, r, hd⟩)))))
 refine .skipS [1] r r (.seq (.sr (.ks 1 r (.nilS [3, 1] r r (.block (.loop hd (fun (s862 : Int) c w => ∃ I_, IH.le I I_ ∧ Ok ⟨193, [], none⟩ [(1, .pointer (some ⟨b15, 0, none⟩)), (3, .int .i64 s862)] c ∧ Sym w0 M I I_ [pto b15 (.cells #[.int .i64 a0.Rows, .int .i64 a0.Cols, .slice p1 a0.At.length c2, .slice p4 a0.Start.length c5, .slice p7 a0.Row.length c8, .slice p10 a0.Val.length c11] 50 (0, 0))] w) (fun c w ho hs => ⟨I, (.refl _), ho.sub ⟨r, r, trivial⟩, hs.pick (.c .z .n)⟩) ?_))))))
 rintro s862 next863 hd c w hst
 obtain ⟨I864, hl865, hok, hsym⟩ := hst
 replace R3 := R3.mono hl865
 replace R6 := R6.mono hl865
 replace R9 := R9.mono hl865
 replace R12 := R12.mono hl865
 refine Cod.at hok hsym (.seq (.sr (.ks 1 r (.fa un50 r sz36 r (o := 2) r r r (.load1 ia36 r .z r r r (.len un36 r r r r (.ks 1 r (.nilS [70, 3, 1] r r (.condP r hd (fun hb867 hd => ?_) fun hb867 hd => ?_)))))))))
 · refine .skipS [3, 1] r r (.seq (.block (.seq ?_)))
   refine Cod.joinQ (σ := Unit) hd (fun (_ : Unit) c w => ∃ I_, IH.le I864 I_ ∧ Ok ⟨193, [], none⟩ [(1, .pointer (some ⟨b15, 0, none⟩)), (3, .int .i64 s862)] c ∧ Sym w0 M I I_ [pto b15 (.cells #[.int .i64 a0.Rows, .int .i64 a0.Cols, .slice p1 a0.At.length c2, .slice p4 a0.Start.length c5, .slice p7 a0.Row.length c8, .slice p10 a0.Val.length c11] 50 (0, 0))] w) (fun k948 hd => ?_) ?_
   · skip
     refine .seq (.dr [0, 1, 2, 3, 4, 5, 6, 7, 8, 9, 10, 11, 12, 13, 14, 15, 16, 17, 18, 19, 20, 21, 22, 23, 24, 25, 26, 27, 28, 29, 30, 31, 32, 33] 34 (.g r r r (fun _ => .fa un50 r sz36 r (o := 2) r r r .mk) (.g r r r (fun _ => .load1 ia36 r .z r r r .mk) (.fk 1 r ?_))))
     obtain ⟨h949, x950, hx951, hd⟩ := hd
     obtain ⟨b952, o953, cs954, e955, hC956, hr957⟩ := R3.2 _ _ hx951
     cases hr957
     refine .g r r r (fun _ => .ixa un36 sz3 r e955 r h949 (idx_lt hx951 h949) r r .mk) (.g r r r (fun _ => .ld1 (j := 0) ia3 hC956 r r r r r .mk) (.fk 2 r ?_))
     refine splitP hd (fun hb958 hd => ?_) fun hb958 hd => ?_
     · rw [hb958]
       exact .fk 27 r (.e2 34 (.nilS [106, 3, 1] r r (.condKT r r (.sr (.ks 1 r (.nilS [2] r r (.drop .z (.ret (pret results161 (.t r .n) hl865 ⟨false, r, hd⟩)))))))))
     rw [hb958]
     refine .g r r r (fun _ => .gyes r r r (.fa un50 r sz36 r (o := 2) r r r .mk)) (.g r r r (fun _ => .gyes r r r (.load1 ia36 r .z r r r .mk)) (.fk 1 r ?_))
     obtain ⟨h959, x960, hx961, hd⟩ := hd
     obtain ⟨b962, o963, cs964, e965, hC966, hr967⟩ := R3.2 _ _ hx961
     cases hr967
     refine .g r r r (fun _ => .gyes r r r (.ixa un36 sz3 r e965 r h959 (idx_lt hx961 h959) r r .mk)) (.g r r r (fun _ => .gyes r r r (.ld1 (j := 0) ia3 hC966 r r r r r .mk)) (.g r r r (fun _ => .gyes r r r (.fa un50 r sz3 r (o := 1) r r r .mk)) (.g r r r (fun _ => .gyes r r r (.load1 ia3 r .z r r r .mk)) (.fk 3 r ?_))))
     refine splitP hd (fun hb968 hd => ?_) fun hb968 hd => ?_
     · rw [hb968]
       exact .fk 17 r (.e2 34 (.nilS [106, 3, 1] r r (.condKT r r (.sr (.ks 1 r (.nilS [2] r r (.drop .z (.ret (pret results161 (.t r .n) hl865 ⟨false, r, hd⟩)))))))))
     rw [hb968]
     refine .fk 3 r ?_
     refine splitP hd (fun hb969 hd => ?_) fun hb969 hd => ?_
     · rw [hb969]
       refine .g r r r (fun _ => .gyes r r r (.fa un50 r sz36 r (o := 2) r r r .mk)) (.g r r r (fun _ => .gyes r r r (.load1 ia36 r .z r r r .mk)) (.fk 1 r ?_))
       obtain ⟨h970, x971, hx972, hd⟩ := hd
       obtain ⟨b973, o974, cs975, e976, hC977, hr978⟩ := R3.2 _ _ hx972
       cases hr978
       refine .g r r r (fun _ => .gyes r r r (.ixa un36 sz3 r e976 r h970 (idx_lt hx972 h970) r r .mk)) (.g r r r (fun _ => .gyes r r r (.ld1 (j := 0) ia3 hC977 r r r r r .mk)) (.g r r r (fun _ => .gyes r r r (.fa un50 r sz36 r (o := 2) r r r .mk)) (.g r r r (fun _ => .gyes r r r (.load1 ia36 r .z r r r .mk)) (.fk 2 r ?_))))
       obtain ⟨h979, x980, hx981, hd⟩ := hd
       obtain ⟨b982, o983, cs984, e985, hC986, hr987⟩ := R3.2 _ _ hx981
       cases hr987
       refine .g r r r (fun _ => .gyes r r r (.ixa un36 sz3 r e985 r h979 (idx_lt hx981 h979) r r .mk)) (.g r r r (fun _ => .gyes r r r (.ld1 (j := 0) ia3 hC986 r r r r r .mk)) (.fk 3 r (.e2 34 (.nilS [106, 3, 1] r r (.condP r hd (fun hb988 hd => ?_) fun hb988 hd => ?_)))))
       · exact .sr (.ks 1 r (.nilS [2] r r (.drop .z (.ret (pret results161 (.t r .n) hl865 ⟨false, r, hd⟩)))))
       exact .skip' fun c w ho hs => ⟨(), hd, I864, (.refl _), ho.sub ⟨r, r, trivial⟩, hs.pick (.c .z .n)⟩
     rw [hb969]
     exact .fk 14 r (.e2 34 (.nilS [106, 3, 1] r r (.condKF r r (.skip' fun c w ho hs => ⟨(), hd, I864, (.refl _), ho.sub ⟨r, r, trivial⟩, hs.pick (.c .z .n)⟩))))
   rintro ⟨⟩ hd c w hst
   obtain ⟨I989, hl990, hok, hsym⟩ := hst
   have le991 := IH.le.trans hl865 hl990
   replace R3 := R3.mono hl990
   replace R6 := R6.mono hl990
   replace R9 := R9.mono hl990
   replace R12 := R12.mono hl990
   refine Cod.at hok hsym (.seq (.seq (.dr [0, 1, 2, 3, 4, 5, 6, 7, 8, 9, 10, 11, 12, 13, 14, 15, 16, 17, 18, 19, 20, 21, 22, 23, 24, 25, 26, 27, 28, 29, 30, 31] 32 (.g r r r (fun _ => .fa un50 r sz36 r (o := 3) r r r .mk) (.g r r r (fun _ => .load1 ia36 r .z r r r .mk) (.fk 1 r ?_))))))
   obtain ⟨h1031, x1032, hx1033, hd⟩ := hd
   obtain ⟨b1034, o1035, cs1036, e1037, hC1038, hr1039⟩ := R6.2 _ _ hx1033
   cases hr1039
   refine .g r r r (fun _ => .ixa un36 sz3 r e1037 r h1031 (idx_lt hx1033 h1031) r r .mk) (.g r r r (fun _ => .ld1 (j := 0) ia3 hC1038 r r r r r .mk) (.fk 2 r ?_))
   refine splitP hd (fun hb1040 hd => ?_) fun hb1040 hd => ?_
   · rw [hb1040]
     exact .fk 25 r (.e2 32 (.nilS [138, 3, 1] r r (.condKT r r (.sr (.ks 1 r (.nilS [2] r r (.drop .z (.ret (pret results161 (.t r .n) le991 ⟨false, r, hd⟩)))))))))
   rw [hb1040]
   refine .g r r r (fun _ => .gyes r r r (.fa un50 r sz36 r (o := 3) r r r .mk)) (.g r r r (fun _ => .gyes r r r (.load1 ia36 r .z r r r .mk)) (.fk 1 r ?_))
   obtain ⟨h1041, x1042, hx1043, hd⟩ := hd
   obtain ⟨b1044, o1045, cs1046, e1047, hC1048, hr1049⟩ := R6.2 _ _ hx1043
   cases hr1049
   refine .g r r r (fun _ => .gyes r r r (.ixa un36 sz3 r e1047 r h1041 (idx_lt hx1043 h1041) r r .mk)) (.g r r r (fun _ => .gyes r r r (.ld1 (j := 0) ia3 hC1048 r r r r r .mk)) (.g r r r (fun _ => .gyes r r r (.fa un50 r sz36 r (o := 3) r r r .mk)) (.g r r r (fun _ => .gyes r r r (.load1 ia36 r .z r r r .mk)) (.fk 2 r ?_))))
   obtain ⟨h1050, x1051, hx1052, hd⟩ := hd
   obtain ⟨b1053, o1054, cs1055, e1056, hC1057, hr1058⟩ := R6.2 _ _ hx1052
   cases hr1058
   refine .g r r r (fun _ => .gyes r r r (.ixa un36 sz3 r e1056 r h1050 (idx_lt hx1052 h1050) r r .mk)) (.g r r r (fun _ => .gyes r r r (.ld1 (j := 0) ia3 hC1057 r r r r r .mk)) (.fk 3 r ?_))
   refine splitP hd (fun hb1059 hd => ?_) fun hb1059 hd => ?_
   · rw [hb1059]
     exact .fk 11 r (.e2 32 (.nilS [138, 3, 1] r r (.condKT r r (.sr (.ks 1 r (.nilS [2] r r (.drop .z (.ret (pret results161 (.t r .n) le991 ⟨false, r, hd⟩)))))))))
   rw [hb1059]
   refine .g r r r (fun _ => .gyes r r r (.fa un50 r sz36 r (o := 3) r r r .mk)) (.g r r r (fun _ => .gyes r r r (.load1 ia36 r .z r r r .mk)) (.fk 2 r ?_))
   obtain ⟨h1060, x1061, hx1062, hd⟩ := hd
   obtain ⟨b1063, o1064, cs1065, e1066, hC1067, hr1068⟩ := R6.2 _ _ hx1062
   cases hr1068
   refine .g r r r (fun _ => .gyes r r r (.ixa un36 sz3 r e1066 r h1060 (idx_lt hx1062 h1060) r r .mk)) (.g r r r (fun _ => .gyes r r r (.ld1 (j := 0) ia3 hC1067 r r r r r .mk)) (.g r r r (fun _ => .gyes r r r (.fa un50 r sz36 r (o := 4) r r r .mk)) (.g r r r (fun _ => .gyes r r r (.load1 ia36 r .z r r r .mk)) (.g r r r (fun _ => .gyes r r r (.len un36 r r r r .mk)) (.fk 2 r (.e2 32 (.nilS [138, 3, 1] r r (.condP r hd (fun hb1069 hd => ?_) fun hb1069 hd => ?_))))))))
   · exact .sr (.ks 1 r (.nilS [2] r r (.drop .z (.ret (pret results161 (.t r .n) le991 ⟨false, r, hd⟩)))))
   refine .skipS [3, 1] r r (.sr (.fa un50 r sz36 r (o := 3) r r r (.load1 ia36 r .z r r r (.ks 1 r ?_))))
   obtain ⟨h1079, x1080, hx1081, hd⟩ := hd
   obtain ⟨b1082, o1083, cs1084, e1085, hC1086, hr1087⟩ := R6.2 _ _ hx1081
   cases hr1087
   refine .ixa un36 sz3 r e1085 r h1079 (idx_lt hx1081 h1079) r r (.ld1 (j := 0) ia3 hC1086 r r r r r (.ks 1 r (.nilS [4, 3, 1] r r (.block (.loop hd (fun (s1229 : Int) c w => ∃ I_, IH.le I989 I_ ∧ Ok ⟨193, [], none⟩ [(1, .pointer (some ⟨b15, 0, none⟩)), (3, .int .i64 s862), (4, .int .i64 s1229)] c ∧ Sym w0 M I I_ [pto b15 (.cells #[.int .i64 a0.Rows, .int .i64 a0.Cols, .slice p1 a0.At.length c2, .slice p4 a0.Start.length c5, .slice p7 a0.Row.length c8, .slice p10 a0.Val.length c11] 50 (0, 0))] w) (fun c w ho hs => ⟨I989, (.refl _), ho.sub ⟨r, r, r, trivial⟩, hs.pick (.c .z .n)⟩) ?_)))))
   rintro s1229 next1230 hd c w hst
   obtain ⟨I1231, hl1232, hok, hsym⟩ := hst
   have le1233 := IH.le.trans le991 hl1232
   have le1234 := IH.le.trans hl990 hl1232
   replace R3 := R3.mono hl1232
   replace R6 := R6.mono hl1232
   replace R9 := R9.mono hl1232
   replace R12 := R12.mono hl1232
   refine Cod.at hok hsym (.seq (.sr (.ks 1 r (.fa un50 r sz36 r (o := 3) r r r (.load1 ia36 r .z r r r (.ks 2 r ?_))))))
   obtain ⟨h1245, x1246, hx1247, hd⟩ := hd
   obtain ⟨b1248, o1249, cs1250, e1251, hC1252, hr1253⟩ := R6.2 _ _ hx1247
   cases hr1253
   refine .ixa un36 sz3 r e1251 r h1245 (idx_lt hx1247 h1245) r r (.ld1 (j := 0) ia3 hC1252 r r r r r (.ks 1 r (.nilS [151, 4, 3, 1] r r (.condP r hd (fun hb1254 hd => ?_) fun hb1254 hd => ?_))))
   · refine .skipS [4, 3, 1] r r (.seq (.block (.seq (.dr [0, 1, 2, 3, 4, 5, 6, 7, 8, 9, 10, 11, 12, 13, 14, 15, 16, 17, 18, 19, 20, 21, 22, 23, 24, 25, 26, 27, 28, 29, 30, 31, 32, 33, 34, 35, 36, 37, 38] 39 (.g r r r (fun _ => .fa un50 r sz36 r (o := 4) r r r .mk) (.g r r r (fun _ => .load1 ia36 r .z r r r .mk) (.fk 1 r ?_)))))))
     obtain ⟨h1255, x1256, hx1257, hd⟩ := hd
     obtain ⟨b1258, o1259, cs1260, e1261, hC1262, hr1263⟩ := R9.2 _ _ hx1257
     cases hr1263
     refine .g r r r (fun _ => .ixa un36 sz3 r e1261 r h1255 (idx_lt hx1257 h1255) r r .mk) (.g r r r (fun _ => .ld1 (j := 0) ia3 hC1262 r r r r r .mk) (.fk 2 r ?_))
     refine splitP hd (fun hb1264 hd => ?_) fun hb1264 hd => ?_
     · rw [hb1264]
       exact .fk 32 r (.e2 39 (.nilS [192, 4, 3, 1] r r (.condKT r r (.sr (.ks 1 r (.nilS [2] r r (.drop .z (.ret (pret results161 (.t r .n) le1233 ⟨false, r, hd⟩)))))))))
     rw [hb1264]
     refine .g r r r (fun _ => .gyes r r r (.fa un50 r sz36 r (o := 4) r r r .mk)) (.g r r r (fun _ => .gyes r r r (.load1 ia36 r .z r r r .mk)) (.fk 1 r ?_))
     obtain ⟨h1265, x1266, hx1267, hd⟩ := hd
     obtain ⟨b1268, o1269, cs1270, e1271, hC1272, hr1273⟩ := R9.2 _ _ hx1267
     cases hr1273
     refine .g r r r (fun _ => .gyes r r r (.ixa un36 sz3 r e1271 r h1265 (idx_lt hx1267 h1265) r r .mk)) (.g r r r (fun _ => .gyes r r r (.ld1 (j := 0) ia3 hC1272 r r r r r .mk)) (.g r r r (fun _ => .gyes r r r (.fa un50 r sz3 r (o := 0) r r r .mk)) (.g r r r (fun _ => .gyes r r r (.load1 ia3 r .z r r r .mk)) (.fk 3 r ?_))))
     refine splitP hd (fun hb1274 hd => ?_) fun hb1274 hd => ?_
     · rw [hb1274]
       exact .fk 22 r (.e2 39 (.nilS [192, 4, 3, 1] r r (.condKT r r (.sr (.ks 1 r (.nilS [2] r r (.drop .z (.ret (pret results161 (.t r .n) le1233 ⟨false, r, hd⟩)))))))))
     rw [hb1274]
     refine .fk 1 r (.g r r r (fun _ => .gyes r r r (.fa un50 r sz36 r (o := 3) r r r .mk)) (.g r r r (fun _ => .gyes r r r (.load1 ia36 r .z r r r .mk)) (.fk 1 r ?_)))
     obtain ⟨h1275, x1276, hx1277, hd⟩ := hd
     obtain ⟨b1278, o1279, cs1280, e1281, hC1282, hr1283⟩ := R6.2 _ _ hx1277
     cases hr1283
     refine .g r r r (fun _ => .gyes r r r (.ixa un36 sz3 r e1281 r h1275 (idx_lt hx1277 h1275) r r .mk)) (.g r r r (fun _ => .gyes r r r (.ld1 (j := 0) ia3 hC1282 r r r r r .mk)) (.fk 2 r ?_))
     refine splitP hd (fun hb1284 hd => ?_) fun hb1284 hd => ?_
     · rw [hb1284]
       refine .g r r r (fun _ => .gyes r r r (.fa un50 r sz36 r (o := 4) r r r .mk)) (.g r r r (fun _ => .gyes r r r (.load1 ia36 r .z r r r .mk)) (.fk 1 r ?_))
       obtain ⟨h1285, x1286, hx1287, hd⟩ := hd
       obtain ⟨b1288, o1289, cs1290, e1291, hC1292, hr1293⟩ := R9.2 _ _ hx1287
       cases hr1293
       refine .g r r r (fun _ => .gyes r r r (.ixa un36 sz3 r e1291 r h1285 (idx_lt hx1287 h1285) r r .mk)) (.g r r r (fun _ => .gyes r r r (.ld1 (j := 0) ia3 hC1292 r r r r r .mk)) (.g r r r (fun _ => .gyes r r r (.fa un50 r sz36 r (o := 4) r r r .mk)) (.g r r r (fun _ => .gyes r r r (.load1 ia36 r .z r r r .mk)) (.fk 2 r ?_))))
       obtain ⟨h1294, x1295, hx1296, hd⟩ := hd
       obtain ⟨b1297, o1298, cs1299, e1300, hC1301, hr1302⟩ := R9.2 _ _ hx1296
       cases hr1302
       refine .g r r r (fun _ => .gyes r r r (.ixa un36 sz3 r e1300 r h1294 (idx_lt hx1296 h1294) r r .mk)) (.g r r r (fun _ => .gyes r r r (.ld1 (j := 0) ia3 hC1301 r r r r r .mk)) (.fk 3 r (.e2 39 (.nilS [192, 4, 3, 1] r r (.condP r hd (fun hb1303 hd => ?_) fun hb1303 hd => ?_)))))
       · exact .sr (.ks 1 r (.nilS [2] r r (.drop .z (.ret (pret results161 (.t r .n) le1233 ⟨false, r, hd⟩)))))
       exact .skipS [4, 3, 1] r r (.region (.ks 3 r (.nil' fun c w ho hs => ⟨(w64 (s1229 + 1)), hd, I1231, hl1232, ho.sub ⟨r, r, r, trivial⟩, hs.pick (.c .z .n)⟩)))
     rw [hb1284]
     exact .fk 14 r (.e2 39 (.nilS [192, 4, 3, 1] r r (.condKF r r (.skipS [4, 3, 1] r r (.region (.ks 3 r (.nil' fun c w ho hs => ⟨(w64 (s1229 + 1)), hd, I1231, hl1232, ho.sub ⟨r, r, r, trivial⟩, hs.pick (.c .z .n)⟩)))))))
   exact .exitS [3, 1] r r (.region (.ks 3 r (.nil' fun c w ho hs => ⟨(w64 (s862 + 1)), hd, I1231, le1233, ho.sub ⟨r, r, trivial⟩, hs.pick (.c .z .n)⟩)))
 exact .exitS [] r r (.drop .z (.sr (.ks 1 r (.nilS [2] r r (.ret (pret results161 (.t r .n) hl865 ⟨true, r, hd⟩))))))

theorem W_ref08_Sure {I : IH} {a0 : Columns} {p1 : Option Addr} {c2 : Nat} {p4 : Option Addr} {c5 : Nat} {p7 : Option Addr} {c8 : Nat} {p10 : Option Addr} {c11 : Nat} {Q : Columns → Prop} (R3 : RepSl eI64 I p1 c2 a0.At) (R6 : RepSl eI64 I p4 c5 a0.Start) (R9 : RepSl eI64 I p7 c8 a0.Row) (R12 : RepSl eI64 I p10 c11 a0.Val) (hd : ref08_Sure a0 Q) :
  PFun prog 132 [.agg #[.int .i64 a0.Rows, .int .i64 a0.Cols, .slice p1 a0.At.length c2, .slice p4 a0.Start.length c5, .slice p7 a0.Row.length c8, .slice p10 a0.Val.length c11]] I (o5_ Q) := by
 refine Fun.enter func132 r ntmps132 r (.c .n) fun w0 M => ?_
 refine .sr (.boxA r r r fun b29 => ?_)
 refine .allocA zv50 r r fun b31 => ?_
 refine .nilS [2, 1] r r (.seq (.sr (.loadW ia50 sz50 r (.s .z) r r r ?_)))
 have hw34 := W_ref08_Right (I := I) R3 R6 R9 R12 hd
 refine .callP call161 r hw34 r r fun v35 hv36 => ?_
 obtain ⟨r33, rfl, hd⟩ := hv36
 refine .nilS [4, 2, 1] r r (.condP r hd (fun hb37 hd => ?_) fun hb37 hd => ?_)
 · exact .sr (.loadW ia50 sz50 r (.s .z) r r r (.storeA sz50 r r .z (.t (.t (.t (.t (.t (.t .nil)))))) r r (.nilS [2] r r (.drop (.s .z) (.ret (pret results132 (.w ia50 sz50 r .z r .n) (.refl _) ⟨a0, _, _, _, _, _, _, _, _, r, R3, R6, R9, R12, hd⟩))))))
 refine .skipS [2] r r (.drop (.s .z) (.sr (.buildSlice 1 un36 sz3 zv3 r r (.c r r r .n) r r fun b38 => ?_)))
 refine .ownB (El := eI64) (ys := ([0] : List Int)) .z (.one r) r (.build zv50 un50 BI50 (.c r r r (.s (.s (.s (.t .nil)))) .n) (by exact ⟨⟨_, _, r, r, r⟩, trivial⟩) r r (.storeA sz50 r r (.s .z) (.t (.t (.t (.t (.t (.t .nil)))))) r r (.nilS [2] r r (.pub .z fun I41 hl42 R43 => ?_))))
 exact .ret (pret results132 (.w ia50 sz50 r .z r .n) hl42 ⟨({ Rows := 0, Cols := 0, At := ([] : List Int), Start := ([0] : List Int), Row := ([] : List Int), Val := ([] : List Int) } : Columns), _, _, _, _, _, _, _, _, r, (.nil _ _ _), R43, (.nil _ _ _), (.nil _ _ _), hd⟩)

theorem W_ref08_Column {I : IH} {a0 : Columns} {a1 : Int} {p1 : Option Addr} {c2 : Nat} {p4 : Option Addr} {c5 : Nat} {p7 : Option Addr} {c8 : Nat} {p10 : Option Addr} {c11 : Nat} {Q : (List Item) → Prop} (R3 : RepSl eI64 I p1 c2 a0.At) (R6 : RepSl eI64 I p4 c5 a0.Start) (R9 : RepSl eI64 I p7 c8 a0.Row) (R12 : RepSl eI64 I p10 c11 a0.Val) (hd : ref08_Column a0 a1 Q) :
  PFun prog 101 [.agg #[.int .i64 a0.Rows, .int .i64 a0.Cols, .slice p1 a0.At.length c2, .slice p4 a0.Start.length c5, .slice p7 a0.Row.length c8, .slice p10 a0.Val.length c11], .int .i64 a1] I (o19_ Q) := by
 refine Fun.enter func101 r ntmps101 r (.c (.c .n)) fun w0 M => ?_
 refine .sr (.boxA r r r fun b18 => ?_)
 refine .ks 1 r (.nilS [2, 1] r r (.sr (.loadW ia50 sz50 r .z r r r ?_)))
 have hw57 := W_ref08_Sure (I := I) R3 R6 R9 R12 hd
 refine .call call132 r hw57 r r fun v43 I40 hl41 hv42 => ?_
 obtain ⟨r39, p45, c46, p48, c49, p51, c52, p54, c55, rfl, R47, R50, R53, R56, hd⟩ := hv42
 replace R3 := R3.mono hl41
 replace R6 := R6.mono hl41
 replace R9 := R9.mono hl41
 replace R12 := R12.mono hl41
 refine .storeA sz50 r r .z (.t (.t (.t (.t (.t (.t .nil)))))) r r (.nilS [2, 1] r r (.sr (.ks 1 r (.nilS [5, 2, 1] r r (.seq (.sr (.ks 1 r (.nilS [6, 5, 2, 1] r r (.block ?_)))))))))
 refine .own0 eItem 80 (.loop hd (fun (s : (List Item) × Int) c w => match s with | (s556, s560) => ∃ I_ p557 c558, IH.le I40 I_ ∧ Ok ⟨64, [], none⟩ [(1, .int .i64 a1), (2, .pointer (some ⟨b18, 0, none⟩)), (5, .slice p557 s556.length c558), (6, .int .i64 s560)] c ∧ Sym w0 M I I_ [pto b18 (.cells #[.int .i64 r39.Rows, .int .i64 r39.Cols, .slice p45 r39.At.length c46, .slice p48 r39.Start.length c49, .slice p51 r39.Row.length c52, .slice p54 r39.Val.length c55] 50 (0, 0)), OwnSl eItem 80 p557 c558 s556] w) (fun c w ho hs => ⟨I40, _, _, (.refl _), ho.sub ⟨r, r, r, r, trivial⟩, hs.pick (.c (.s .z) (.c .z .n))⟩) ?_)
 rintro ⟨s556, s560⟩ next562 hd c w hst
 obtain ⟨I563, p557, c558, hl564, hok, hsym⟩ := hst
 have le565 := IH.le.trans hl41 hl564
 replace R47 := R47.mono hl564
 replace R50 := R50.mono hl564
 replace R53 := R53.mono hl564
 replace R56 := R56.mono hl564
 refine Cod.at hok hsym (.seq (.sr (.ks 1 r (.fa un50 r sz36 r (o := 2) r r r (.load1 ia36 r .z r r r (.len un36 r r r r (.ks 2 r ?_)))))))
 refine splitP hd (fun hb568 hd => ?_) fun hb568 hd => ?_
 · rw [hb568]
   refine .ks 2 r (.gyes r r r (.fa un50 r sz36 r (o := 3) r r r (.gyes r r r (.load1 ia36 r .z r r r (.gyes r r r (.len un36 r r r r (.ks 2 r (.nilS [22, 6, 5, 2, 1] r r (.condP r hd (fun hb569 hd => ?_) fun hb569 hd => ?_)))))))))
   · refine .skipS [6, 5, 2, 1] r r (.seq (.block (.sr (.fa un50 r sz36 r (o := 3) r r r (.load1 ia36 r .z r r r (.ks 1 r ?_))))))
     obtain ⟨h579, x580, hx581, hd⟩ := hd
     obtain ⟨b582, o583, cs584, e585, hC586, hr587⟩ := R50.2 _ _ hx581
     cases hr587
     refine .ixa un36 sz3 r e585 r h579 (idx_lt hx581 h579) r r (.ld1 (j := 0) ia3 hC586 r r r r r (.ks 1 r (.nilS [7, 6, 5, 2, 1] r r (.block (.loop hd (fun (s : (List Item) × Int) c w => match s with | (s733, s737) => ∃ I_ p734 c735, IH.le I563 I_ ∧ Ok ⟨64, [], none⟩ [(1, .int .i64 a1), (2, .pointer (some ⟨b18, 0, none⟩)), (5, .slice p734 s733.length c735), (6, .int .i64 s560), (7, .int .i64 s737)] c ∧ Sym w0 M I I_ [pto b18 (.cells #[.int .i64 r39.Rows, .int .i64 r39.Cols, .slice p45 r39.At.length c46, .slice p48 r39.Start.length c49, .slice p51 r39.Row.length c52, .slice p54 r39.Val.length c55] 50 (0, 0)), OwnSl eItem 80 p734 c735 s733] w) (fun c w ho hs => ⟨I563, _, _, (.refl _), ho.sub ⟨r, r, r, r, r, trivial⟩, hs.pick (.c .z (.c .z .n))⟩) ?_)))))
     rintro ⟨s733, s737⟩ next738 hd c w hst
     obtain ⟨I739, p734, c735, hl740, hok, hsym⟩ := hst
     have le741 := IH.le.trans le565 hl740
     have le742 := IH.le.trans hl564 hl740
     replace R47 := R47.mono hl740
     replace R50 := R50.mono hl740
     replace R53 := R53.mono hl740
     replace R56 := R56.mono hl740
     refine Cod.at hok hsym (.seq (.sr (.ks 1 r (.fa un50 r sz36 r (o := 3) r r r (.load1 ia36 r .z r r r (.ks 2 r ?_))))))
     obtain ⟨h763, x764, hx765, hd⟩ := hd
     obtain ⟨b766, o767, cs768, e769, hC770, hr771⟩ := R50.2 _ _ hx765
     cases hr771
     refine .ixa un36 sz3 r e769 r h763 (idx_lt hx765 h763) r r (.ld1 (j := 0) ia3 hC770 r r r r r (.ks 2 r ?_))
     refine splitP hd (fun hb772 hd => ?_) fun hb772 hd => ?_
     · rw [hb772]
       refine .gyes r r r (.fa un50 r sz36 r (o := 2) r r r (.gyes r r r (.load1 ia36 r .z r r r (.ks 1 r ?_))))
       obtain ⟨h773, x774, hx775, hd⟩ := hd
       obtain ⟨b776, o777, cs778, e779, hC780, hr781⟩ := R47.2 _ _ hx775
       cases hr781
       refine .gyes r r r (.ixa un36 sz3 r e779 r h773 (idx_lt hx775 h773) r r (.gyes r r r (.ld1 (j := 0) ia3 hC780 r r r r r (.ks 3 r (.nilS [46, 7, 6, 5, 2, 1] r r (.condP r hd (fun hb782 hd => ?_) fun hb782 hd => ?_))))))
       · refine .skipS [7, 6, 5, 2, 1] r r (.seq (.block (.ownF (.s .z) fun hne783 => ?_)))
         refine .dr [0, 1, 2, 3, 4, 5, 6, 7, 8, 9, 10, 11, 12, 13] 14 (.fk 1 r (.g r r r (fun _ => .fa un50 r sz36 r (o := 4) r r r .mk) (.g r r r (fun _ => .load1 ia36 r .z r r r .mk) (.fk 1 r ?_))))
         obtain ⟨h784, x785, hx786, hd⟩ := hd
         obtain ⟨b787, o788, cs789, e790, hC791, hr792⟩ := R53.2 _ _ hx786
         cases hr792
         refine .g r r r (fun _ => .ixa un36 sz3 r e790 r h784 (idx_lt hx786 h784) r r .mk) (.g r r r (fun _ => .ld1 (j := 0) ia3 hC791 r r r r r .mk) (.g r r r (fun _ => .fa un50 r sz37 r (o := 5) r r r .mk) (.g r r r (fun _ => .load1 ia37 r .z r r r .mk) (.fk 1 r ?_))))
         obtain ⟨h793, x794, hx795, hd⟩ := hd
         obtain ⟨b796, o797, cs798, e799, hC800, hr801⟩ := R56.2 _ _ hx795
         cases hr801
         refine .g r r r (fun _ => .ixa un37 sz2 r e799 r h793 (idx_lt hx795 h793) r r .mk) (.g r r r (fun _ => .ld1 (j := 0) ia2 hC800 r r r r r .mk) (.g r r r (fun _ => .build zv80 un80 BI80 (.c r r r (.t .nil) (.c r r r (.s (.t .nil)) .n)) (by exact ⟨⟨_, _, r, r, r⟩, ⟨⟨_, _, r, r, r⟩, trivial⟩⟩) r r .mk) (.ww r fun ex => ?_)))
         refine .buildSlice 1 un32 sz80 zv80 r r (.c r r r .n) r r fun b802 => ?_
         refine .so 3 r r r (.ck 1 r r trivial) (.ww r fun ex => ?_)
         obtain ⟨hl804, hd⟩ := hd
         refine .append (ys := [({ At := x785, Val := x794 } : Item)]) 16 (.s (.s .z)) un32 un32 IN80 r r r r r r r r r (.box .z (.one r) r) hl804 r r fun p805 c806 => ?_
         exact .so 3 r r r trivial (.e2 14 (.ks 1 r (.nilS [5, 7, 6, 2, 1] r r (.drop (.s .z) (.region (.ks 3 r (.nil' fun c w ho hs => ⟨((s733 ++ ([({ At := x785, Val := x794 } : Item)])), w64 (s737 + 1)), hd, I739, _, _, hl740, ho.sub ⟨r, r, r, r, r, trivial⟩, hs.pick (.c (.s .z) (.c .z .n))⟩)))))))
       exact .exitS [6, 5, 2, 1] r r (.region (.ks 3 r (.nil' fun c w ho hs => ⟨(s733, w64 (s560 + 1)), hd, I739, _, _, le742, ho.sub ⟨r, r, r, r, trivial⟩, hs.pick (.c .z (.c .z .n))⟩)))
     rw [hb772]
     exact .ks 8 r (.nilS [46, 7, 6, 5, 2, 1] r r (.condKF r r (.exitS [6, 5, 2, 1] r r (.region (.ks 3 r (.nil' fun c w ho hs => ⟨(s733, w64 (s560 + 1)), hd, I739, _, _, le742, ho.sub ⟨r, r, r, r, trivial⟩, hs.pick (.c .z (.c .z .n))⟩))))))
   refine .exitS [5] r r (.drop .z (.sr (.ks 2 r (.nilS [4] r r (.pub .z fun I808 hl809 R810 => ?_)))))
   have le811 := IH.le.trans le565 hl809
   have le812 := IH.le.trans hl564 hl809
   exact .ret (pret results101 (.t r .n) le811 ⟨s556, _, _, r, R810, hd⟩)
 rw [hb568]
 refine .ks 7 r (.nilS [22, 6, 5, 2, 1] r r (.condKF r r (.exitS [5] r r (.drop .z (.sr (.ks 2 r (.nilS [4] r r (.pub .z fun I813 hl814 R815 => ?_))))))))
 have le816 := IH.le.trans le565 hl814
 have le817 := IH.le.trans hl564 hl814
 exact .ret (pret results101 (.t r .n) le816 ⟨s556, _, _, r, R815, hd⟩)

theorem W_ref08_Work {I : IH} {a0 : Columns} {a1 : List Int} {p1 : Option Addr} {c2 : Nat} {p4 : Option Addr} {c5 : Nat} {p7 : Option Addr} {c8 : Nat} {p10 : Option Addr} {c11 : Nat} {p13 : Option Addr} {c14 : Nat} {Q : Int → Prop} (R3 : RepSl eI64 I p1 c2 a0.At) (R6 : RepSl eI64 I p4 c5 a0.Start) (R9 : RepSl eI64 I p7 c8 a0.Row) (R12 : RepSl eI64 I p10 c11 a0.Val) (R15 : RepSl eI64 I p13 c14 a1) (hd : ref08_Work a0 a1 Q) :
  PFun prog 65 [.agg #[.int .i64 a0.Rows, .int .i64 a0.Cols, .slice p1 a0.At.length c2, .slice p4 a0.Start.length c5, .slice p7 a0.Row.length c8, .slice p10 a0.Val.length c11], .slice p13 a1.length c14] I (fun _ => o0_ Q) := by
 refine Fun.enter func65 r ntmps65 r (.c (.c .n)) fun w0 M => ?_
 refine .sr (.boxA r r r fun b18 => ?_)
 refine .ks 1 r (.nilS [2, 1] r r (.sr (.ks 1 r (.nilS [5, 2, 1] r r (.seq (.sr (.ks 1 r (.nilS [6, 5, 2, 1] r r (.block ?_)))))))))
 refine .loop hd (fun (s : Int × Int) c w => match s with | (s68, s69) => ∃ I_, IH.le I I_ ∧ Ok ⟨23, [], none⟩ [(1, .slice p13 a1.length c14), (2, .pointer (some ⟨b18, 0, none⟩)), (5, .int .i64 s68), (6, .int .i64 s69)] c ∧ Sym w0 M I I_ [pto b18 (.cells #[.int .i64 a0.Rows, .int .i64 a0.Cols, .slice p1 a0.At.length c2, .slice p4 a0.Start.length c5, .slice p7 a0.Row.length c8, .slice p10 a0.Val.length c11] 50 (0, 0))] w) (fun c w ho hs => ⟨I, (.refl _), ho.sub ⟨r, r, r, r, trivial⟩, hs.pick (.c .z .n)⟩) ?_
 rintro ⟨s68, s69⟩ next70 hd c w hst
 obtain ⟨I71, hl72, hok, hsym⟩ := hst
 replace R3 := R3.mono hl72
 replace R6 := R6.mono hl72
 replace R9 := R9.mono hl72
 replace R12 := R12.mono hl72
 replace R15 := R15.mono hl72
 refine Cod.at hok hsym (.seq (.sr (.ks 2 r (.len un36 r r r r (.ks 1 r (.nilS [10, 6, 5, 2, 1] r r (.condP r hd (fun hb74 hd => ?_) fun hb74 hd => ?_)))))))
 · refine .skipS [6, 5, 2, 1] r r (.seq (.block (.dr [0, 1, 2, 3, 4, 5, 6, 7, 8] 9 (.fk 1 r (.g r r r (fun _ => .loadW ia50 sz50 r .z r r r .mk) (.fk 2 r ?_))))))
   obtain ⟨h75, x76, hx77, hd⟩ := hd
   obtain ⟨b78, o79, cs80, e81, hC82, hr83⟩ := R15.2 _ _ hx77
   cases hr83
   refine .g r r r (fun _ => .ixa un36 sz3 r e81 r h75 (idx_lt hx77 h75) r r .mk) (.g r r r (fun _ => .ld1 (j := 0) ia3 hC82 r r r r r .mk) (.ww r fun ex => ?_))
   have hw93 := W_ref08_Column (I := I71) R3 R6 R9 R12 hd
   refine .call call101 r hw93 r r fun v88 I85 hl86 hv87 => ?_
   obtain ⟨r84, p90, c91, rfl, R92, hd⟩ := hv87
   have le94 := IH.le.trans hl72 hl86
   replace R3 := R3.mono hl86
   replace R6 := R6.mono hl86
   replace R9 := R9.mono hl86
   replace R12 := R12.mono hl86
   replace R15 := R15.mono hl86
   replace hC82 := hC82.mono hl86
   exact .so 1 r r r (.ck 1 r r trivial) (.g r r r (fun _ => .len un32 r r r r .mk) (.fk 1 r (.e2 9 (.ks 1 r (.nilS [5, 6, 2, 1] r r (.region (.ks 3 r (.nil' fun c w ho hs => ⟨(w64 (s68 + (r84.length : Int)), w64 (s69 + 1)), hd, I85, le94, ho.sub ⟨r, r, r, r, trivial⟩, hs.pick (.c .z .n)⟩))))))))
 exact .exitS [5] r r (.drop .z (.sr (.ks 2 r (.nilS [4] r r (.ret (pret results65 (.t r .n) hl72 ⟨s68, r, hd⟩))))))

theorem W_ref09_Places {I : IH} {a0 : Vec} {p1 : Option Addr} {c2 : Nat} {Q : (List Int) → Prop} (R3 : RepSl eItem I p1 c2 a0.Items) (hd : ref09_Places a0 Q) :
  PFun prog 66 [.agg #[.int .i64 a0.N, .slice p1 a0.Items.length c2]] I (o7_ Q) := by
 refine Fun.enter func66 r ntmps66 r (.c .n) fun w0 M => ?_
 refine .sr (.boxA r r r fun b9 => ?_)
 refine .ks 1 r (.nilS [1] r r (.sr (.loadW ia42 sz42 r .z r r r ?_)))
 have hw30 := W_ref09_Sure (I := I) R3 hd
 refine .call call14 r hw30 r r fun v25 I22 hl23 hv24 => ?_
 obtain ⟨r21, p27, c28, rfl, R29, hd⟩ := hv24
 replace R3 := R3.mono hl23
 refine .storeA sz42 r r .z (.t (.t .nil)) r r (.nilS [1] r r (.sr (.ks 1 r (.nilS [3, 1] r r (.seq (.sr (.ks 1 r (.nilS [4, 3, 1] r r (.block ?_)))))))))
 refine .own0 eI64 3 (.loop hd (fun (s : (List Int) × Int) c w => match s with | (s81, s85) => ∃ I_ p82 c83, IH.le I22 I_ ∧ Ok ⟨24, [], none⟩ [(1, .pointer (some ⟨b9, 0, none⟩)), (3, .slice p82 s81.length c83), (4, .int .i64 s85)] c ∧ Sym w0 M I I_ [pto b9 (.cells #[.int .i64 r21.N, .slice p27 r21.Items.length c28] 42 (0, 0)), OwnSl eI64 3 p82 c83 s81] w) (fun c w ho hs => ⟨I22, _, _, (.refl _), ho.sub ⟨r, r, r, trivial⟩, hs.pick (.c (.s .z) (.c .z .n))⟩) ?_)
 rintro ⟨s81, s85⟩ next87 hd c w hst
 obtain ⟨I88, p82, c83, hl89, hok, hsym⟩ := hst
 have le90 := IH.le.trans hl23 hl89
 replace R29 := R29.mono hl89
 refine Cod.at hok hsym (.seq (.sr (.ks 1 r (.fa un42 r sz32 r (o := 1) r r r (.load1 ia32 r .z r r r (.len un32 r r r r (.ks 1 r (.nilS [11, 4, 3, 1] r r (.condP r hd (fun hb92 hd => ?_) fun hb92 hd => ?_)))))))))
 · refine .skipS [4, 3, 1] r r (.seq (.block (.region (.ks 1 r (.fa un42 r sz32 r (o := 1) r r r (.load1 ia32 r .z r r r (.ks 1 r ?_)))))))
   obtain ⟨h93, x94, hx95, hd⟩ := hd
   obtain ⟨b96, o97, cs98, e99, hC100, hr101⟩ := R29.2 _ _ hx95
   cases hr101
   refine .ixa un32 sz80 r e99 r h93 (idx_lt hx95 h93) r r (.fa un80 r sz3 r (o := o97 + s85.toNat * 2) r r r (.ld1 (j := 0) ia3 hC100 r r r r r (.buildSlice 1 un36 sz3 zv3 r r (.c r r r .n) r r fun b102 => ?_)))
   obtain ⟨hl104, hd⟩ := hd
   refine .append (ys := [x94.At]) 8 (.s (.s .z)) un36 un36 IN3 r r r r r r r r r (.box .z (.one r) r) hl104 r r fun p105 c106 => ?_
   exact .ks 1 r (.nilS [3, 4, 1] r r (.drop (.s .z) (.region (.ks 3 r (.nil' fun c w ho hs => ⟨((s81 ++ ([x94.At])), w64 (s85 + 1)), hd, I88, _, _, hl89, ho.sub ⟨r, r, r, trivial⟩, hs.pick (.c (.s .z) (.c .z .n))⟩)))))
 refine .exitS [3] r r (.drop .z (.sr (.ks 2 r (.nilS [2] r r (.pub .z fun I108 hl109 R110 => ?_)))))
 have le111 := IH.le.trans le90 hl109
 have le112 := IH.le.trans hl89 hl109
 exact .ret (pret results66 (.t r .n) le111 ⟨s81, _, _, r, R110, hd⟩)

theorem W_ref14_Work {I : IH} {a0 : Columns} {a1 : Vec} {p1 : Option Addr} {c2 : Nat} {p4 : Option Addr} {c5 : Nat} {p7 : Option Addr} {c8 : Nat} {p10 : Option Addr} {c11 : Nat} {p13 : Option Addr} {c14 : Nat} {Q : Int → Prop} (R3 : RepSl eI64 I p1 c2 a0.At) (R6 : RepSl eI64 I p4 c5 a0.Start) (R9 : RepSl eI64 I p7 c8 a0.Row) (R12 : RepSl eI64 I p10 c11 a0.Val) (R15 : RepSl eItem I p13 c14 a1.Items) (hd : ref14_Work a0 a1 Q) :
  PFun prog 31 [.agg #[.int .i64 a0.Rows, .int .i64 a0.Cols, .slice p1 a0.At.length c2, .slice p4 a0.Start.length c5, .slice p7 a0.Row.length c8, .slice p10 a0.Val.length c11], .agg #[.int .i64 a1.N, .slice p13 a1.Items.length c14]] I (fun _ => o0_ Q) := by
 refine Fun.enter func31 r ntmps31 r (.c (.c .n)) fun w0 M => ?_
 refine .sr (.boxA r r r fun b16 => ?_)
 refine .boxA r r r fun b18 => ?_
 refine .ks 1 r (.nilS [3, 2] r r (.seq (.dr [0, 1, 2, 3] 4 (.g r r r (fun _ => .loadW ia50 sz50 r (.s .z) r r r .mk) (.g r r r (fun _ => .loadW ia42 sz42 r .z r r r .mk) (.ww r fun ex => ?_))))))
 have hw29 := W_ref09_Places (I := I) R15 hd
 refine .call call66 r hw29 r r fun v24 I21 hl22 hv23 => ?_
 obtain ⟨r20, p26, c27, rfl, R28, hd⟩ := hv23
 replace R3 := R3.mono hl22
 replace R6 := R6.mono hl22
 replace R9 := R9.mono hl22
 replace R12 := R12.mono hl22
 replace R15 := R15.mono hl22
 refine .so 2 r r r (.cg r r r r (fun _ => .loadW ia50 sz50 r (.s .z) r r r .mk) trivial) (.ww r fun ex => ?_)
 have hw31 := W_ref08_Work (I := I21) R3 R6 R9 R12 R28 hd
 refine .callP call65 r hw31 r r fun v32 hv33 => ?_
 obtain ⟨r30, rfl, hd⟩ := hv33
 exact .so 2 r r r trivial (.e2 4 (.ks 1 r (.nilS [4] r r (.drop .z (.drop .z (.ret (pret results31 (.t r .n) hl22 ⟨r30, r, hd⟩)))))))

theorem W_law16_PolicySame {I : IH} {a0 : Law13_Task} {a1 : Int} {a2 : Int} {p1 : Option Addr} {c2 : Nat} {p4 : Option Addr} {c5 : Nat} {p7 : Option Addr} {c8 : Nat} {p10 : Option Addr} {c11 : Nat} {Q : Bool → Prop} (R3 : RepSl eTriple I p1 c2 a0.L) (R6 : RepSl eItem I p4 c5 a0.X) (R9 : RepSl eItem I p7 c8 a0.Y) (R12 : RepSl eU64 I p10 c11 a0.F) (hd : law16_PolicySame a0 a1 a2 Q) :
  PFun prog 6 [.agg #[.int .i64 a0.Ring, .int .u8 a0.Size.1, .int .u8 a0.Size.2, .slice p1 a0.L.length c2, .slice p4 a0.X.length c5, .slice p7 a0.Y.length c8, .slice p10 a0.F.length c11, .bool a0.Others], .int .i64 a1, .int .i64 a2] I (fun _ => o1_ Q) := by
 refine Fun.enter func6 r ntmps6 r (.c (.c (.c .n))) fun w0 M => ?_
 refine .sr (.boxA r r r fun b15 => ?_)
 refine .ks 1 r (.nilS [3, 2, 1] r r (.sr (.fa un35 r sz29 r (o := 0) r r r (.load1 ia29 r .z r r r ?_))))
 have hw22 := W_law13_Right (I := I) hd
 refine .callP call27 r hw22 r r fun v23 hv24 => ?_
 obtain ⟨r21, rfl, hd⟩ := hv24
 refine .ks 1 r (.nilS [7, 3, 2, 1] r r (.seq (.dr [0, 2, 3, 4, 6, 8, 9, 1, 5, 7, 999, 10, 11] 12 (.g r r r (fun _ => .loadW isAgg35 sizeOf35 r .z r r r .mk) (.g r r r (fun _ => .loadW isAgg35 sizeOf35 r .z r r r .mk) (.g r r r (fun _ => .fa un35 r sz32 r (o := 4) r r r .mk) (.g r r r (fun _ => .load1 ia32 r .z r r r .mk) (.g r r r (fun _ => .loadW isAgg35 sizeOf35 r .z r r r .mk) (.a (fun b => .pointer (some ⟨b, 0, none⟩)) (fun b => pto b (.cells #[.int .i64 0, .int .i64 0, .slice none 0 0, .slice none 0 0, .slice none 0 0] 39 (0, 0))) r r r r (fun _ L hL ex => .allocA zv39 r r fun b => .mk (val := fun b => .pointer (some ⟨b, 0, none⟩)) (atom := fun b => pto b (.cells #[.int .i64 0, .int .i64 0, .slice none 0 0, .slice none 0 0, .slice none 0 0] 39 (0, 0))) hL b) ?_)))))))))
 refine .a (fun b => .pointer (some ⟨b, 0, none⟩)) (fun b => pto b (.cells #[.int .i64 0, .slice none 0 0] 42 (0, 0))) r r r r (fun _ L hL ex => .allocA zv42 r r fun b => .mk (val := fun b => .pointer (some ⟨b, 0, none⟩)) (atom := fun b => pto b (.cells #[.int .i64 0, .slice none 0 0] 42 (0, 0))) hL b) (.ww r fun ex => ?_)
 have hw84 := W_law13_Task_Matrix (I := I) R3 R6 R9 R12 hd
 refine .call call12 r hw84 r r fun v73 I70 hl71 hv72 => ?_
 obtain ⟨r69, p75, c76, p78, c79, p81, c82, rfl, R77, R80, R83, hd⟩ := hv72
 replace R3 := R3.mono hl71
 replace R6 := R6.mono hl71
 replace R9 := R9.mono hl71
 replace R12 := R12.mono hl71
 refine .so 1 r r r (.cg r r r r (fun _ => .loadW isAgg35 sizeOf35 r .z r r r .mk) (.cg r r r r (fun _ => .load1 ia32 r .z r r r .mk) (.cg r r r r (fun _ => .fa un35 r sz32 r (o := 4) r r r .mk) (.cg r r r r (fun _ => .loadW isAgg35 sizeOf35 r .z r r r .mk) trivial)))) (.ww r fun ex => ?_)
 have hw94 := W_law13_Task_Vector (I := I70) R3 R6 R9 R12 R6 hd
 refine .call call13 r hw94 r r fun v89 I86 hl87 hv88 => ?_
 obtain ⟨r85, p91, c92, rfl, R93, hd⟩ := hv88
 have le95 := IH.le.trans hl71 hl87
 replace R3 := R3.mono hl87
 replace R6 := R6.mono hl87
 replace R9 := R9.mono hl87
 replace R12 := R12.mono hl87
 replace R77 := R77.mono hl87
 replace R80 := R80.mono hl87
 replace R83 := R83.mono hl87
 refine .so 1 r r r (.cg r r r r (fun _ => .loadW isAgg35 sizeOf35 r .z r r r .mk) trivial) (.ww r fun ex => ?_)
 have hw105 := W_law13_Task_Rows (I := I86) R3 R6 R9 R12 hd
 refine .call call28 r hw105 r r fun v100 I97 hl98 hv99 => ?_
 obtain ⟨r96, p102, c103, rfl, R104, hd⟩ := hv99
 have le106 := IH.le.trans le95 hl98
 replace R3 := R3.mono hl98
 replace R6 := R6.mono hl98
 replace R9 := R9.mono hl98
 replace R12 := R12.mono hl98
 replace R77 := R77.mono hl98
 replace R80 := R80.mono hl98
 replace R83 := R83.mono hl98
 replace R93 := R93.mono hl98
 refine .so 1 r r r trivial (.b r fun b107 b108 => DrawD.nop (.ww r fun ex => ?_))
 refine .storeA sz39 r r (.s (.s .z)) (.t (.t (.t (.t (.t .nil))))) r r (.sn 3 r r r trivial (.ww r fun ex => ?_))
 refine .storeA sz42 r r (.s .z) (.t (.t .nil)) r r (.sn 3 r r r trivial (.e2 12 (.ks 1 r (.nilS [10, 8, 9, 7, 3, 2, 1] r r (.seq (.dr [0, 1, 2, 4, 5, 6, 3, 7, 8, 9, 10, 11] 12 (.fk 1 r (.g r r r (fun _ => .loadW ia39 sz39 r (.s (.s .z)) r r r .mk) (.g r r r (fun _ => .loadW ia42 sz42 r (.s .z) r r r .mk) ?_)))))))))
 refine .fk 1 r (.g r r r (fun _ => .fa un35 r sz4 r (o := 7) r r r .mk) (.g r r r (fun _ => .load1 ia4 r .z r r r .mk) (.ww r fun ex => ?_)))
 have hw146 := W_ref10_Of (I := I97) R93 hd
 refine .call call19 r hw146 r r fun v138 I135 hl136 hv137 => ?_
 obtain ⟨r134, p140, c141, p143, c144, rfl, R142, R145, hd⟩ := hv137
 have le147 := IH.le.trans le106 hl136
 replace R3 := R3.mono hl136
 replace R6 := R6.mono hl136
 replace R9 := R9.mono hl136
 replace R12 := R12.mono hl136
 replace R77 := R77.mono hl136
 replace R80 := R80.mono hl136
 replace R83 := R83.mono hl136
 replace R93 := R93.mono hl136
 replace R104 := R104.mono hl136
 refine .so 3 r r r (.cg r r r r (fun _ => .load1 ia4 r .z r r r .mk) (.cg r r r r (fun _ => .fa un35 r sz4 r (o := 7) r r r .mk) (.ck 1 r r (.cg r r r r (fun _ => .loadW ia39 sz39 r (.s (.s .z)) r r r .mk) (.ck 1 r r trivial))))) (.ww r fun ex => ?_)
 have hw157 := W_ref13_Sums (I := I135) R77 R80 R83 R142 R145 R104 hd
 refine .call call18 r hw157 r r fun v152 I149 hl150 hv151 => ?_
 obtain ⟨r148, p154, c155, rfl, R156, hd⟩ := hv151
 have le158 := IH.le.trans le147 hl150
 replace R3 := R3.mono hl150
 replace R6 := R6.mono hl150
 replace R9 := R9.mono hl150
 replace R12 := R12.mono hl150
 replace R77 := R77.mono hl150
 replace R80 := R80.mono hl150
 replace R83 := R83.mono hl150
 replace R93 := R93.mono hl150
 replace R104 := R104.mono hl150
 replace R142 := R142.mono hl150
 replace R145 := R145.mono hl150
 refine .so 3 r r r trivial (.fk 4 r (.e2 12 (.ks 1 r (.nilS [12, 11, 10, 8, 9, 7, 3, 2, 1] r r (.seq (.dr [0, 1, 2, 4, 5, 7, 8, 9, 10, 12, 3, 6, 11, 999] 13 (.fk 1 r (.g r r r (fun _ => .loadW ia39 sz39 r (.s (.s .z)) r r r .mk) (.g r r r (fun _ => .loadW ia39 sz39 r (.s (.s .z)) r r r .mk) ?_)))))))))
 refine .fk 1 r (.g r r r (fun _ => .loadW ia42 sz42 r (.s .z) r r r .mk) (.fk 1 r (.g r r r (fun _ => .fa un35 r sz4 r (o := 7) r r r .mk) (.g r r r (fun _ => .load1 ia4 r .z r r r .mk) (.fk 1 r (.a (fun b => .pointer (some ⟨b, 0, none⟩)) (fun b => pto b (.cells #[.int .i64 0, .int .i64 0, .int .i64 0, .slice none 0 0, .slice none 0 0, .slice none 0 0, .int .i64 0, .int .i64 0, .slice none 0 0, .slice none 0 0, .slice none 0 0, .slice none 0 0, .int .i64 0, .int .i64 0, .slice none 0 0, .int .i64 0, .slice none 0 0, .slice none 0 0, .slice none 0 0, .bool false, .int .i64 0] 58 (0, 0))) r r r r (fun _ L hL ex => .allocA zeroValue58 r r fun b => .mk (val := fun b => .pointer (some ⟨b, 0, none⟩)) (atom := fun b => pto b (.cells #[.int .i64 0, .int .i64 0, .int .i64 0, .slice none 0 0, .slice none 0 0, .slice none 0 0, .int .i64 0, .int .i64 0, .slice none 0 0, .slice none 0 0, .slice none 0 0, .slice none 0 0, .int .i64 0, .int .i64 0, .slice none 0 0, .int .i64 0, .slice none 0 0, .slice none 0 0, .slice none 0 0, .bool false, .int .i64 0] 58 (0, 0))) hL b) (.ww r fun ex => ?_)))))))
 have hw217 := W_dcsc_Of (I := I149) R77 R80 R83 hd
 refine .call call29 r hw217 r r fun v203 I200 hl201 hv202 => ?_
 obtain ⟨r199, p205, c206, p208, c209, p211, c212, p214, c215, rfl, R207, R210, R213, R216, hd⟩ := hv202
 have le218 := IH.le.trans le158 hl201
 replace R3 := R3.mono hl201
 replace R6 := R6.mono hl201
 replace R9 := R9.mono hl201
 replace R12 := R12.mono hl201
 replace R77 := R77.mono hl201
 replace R80 := R80.mono hl201
 replace R83 := R83.mono hl201
 replace R93 := R93.mono hl201
 replace R104 := R104.mono hl201
 replace R156 := R156.mono hl201
 refine .so 3 r r r (.ck 1 r r (.cg r r r r (fun _ => .load1 ia4 r .z r r r .mk) (.cg r r r r (fun _ => .fa un35 r sz4 r (o := 7) r r r .mk) (.ck 1 r r (.cg r r r r (fun _ => .loadW ia42 sz42 r (.s .z) r r r .mk) (.ck 1 r r (.cg r r r r (fun _ => .loadW ia39 sz39 r (.s (.s .z)) r r r .mk) (.ck 1 r r trivial)))))))) (.ww r fun ex => ?_)
 have hw234 := W_policy_Hold (I := I200) R93 hd
 refine .call call21 r hw234 r r fun v223 I220 hl221 hv222 => ?_
 obtain ⟨r219, p225, c226, p228, c229, p231, c232, rfl, R227, R230, R233, hd⟩ := hv222
 have le235 := IH.le.trans le218 hl221
 replace R3 := R3.mono hl221
 replace R6 := R6.mono hl221
 replace R9 := R9.mono hl221
 replace R12 := R12.mono hl221
 replace R77 := R77.mono hl221
 replace R80 := R80.mono hl221
 replace R83 := R83.mono hl221
 replace R93 := R93.mono hl221
 replace R104 := R104.mono hl221
 replace R156 := R156.mono hl221
 replace R207 := R207.mono hl221
 replace R210 := R210.mono hl221
 replace R213 := R213.mono hl221
 replace R216 := R216.mono hl221
 refine .so 3 r r r (.ck 1 r r (.cg r r r r (fun _ => .load1 ia4 r .z r r r .mk) (.cg r r r r (fun _ => .fa un35 r sz4 r (o := 7) r r r .mk) (.ck 1 r r (.cg r r r r (fun _ => .loadW ia39 sz39 r (.s (.s .z)) r r r .mk) (.ck 1 r r trivial)))))) (.g r r r (fun _ => .build zeroValue58 un58 BI58 (.c r r r (.t .nil) (.c r r r (.s (.t (.t (.t (.t (.t .nil)))))) (.c r r r (.s (.s (.s (.s (.s (.s (.t (.t (.t (.t (.t (.t .nil)))))))))))) (.c r r r (.s (.s (.s (.s (.s (.s (.s (.s (.s (.s (.s (.s (.t (.t (.t (.t (.t (.t .nil)))))))))))))))))) (.c r r r (.s (.s (.s (.s (.s (.s (.s (.s (.s (.s (.s (.s (.s (.s (.s (.s (.s (.s (.t .nil))))))))))))))))))) (.c r r r (.s (.s (.s (.s (.s (.s (.s (.s (.s (.s (.s (.s (.s (.s (.s (.s (.s (.s (.s (.t .nil)))))))))))))))))))) (.c r r r (.s (.s (.s (.s (.s (.s (.s (.s (.s (.s (.s (.s (.s (.s (.s (.s (.s (.s (.s (.s (.t .nil))))))))))))))))))))) .n))))))) (by exact ⟨⟨_, _, r, r, r⟩, ⟨⟨_, _, r, r, r⟩, ⟨⟨_, _, r, r, r⟩, ⟨⟨_, _, r, r, r⟩, ⟨⟨_, _, r, r, r⟩, ⟨⟨_, _, r, r, r⟩, ⟨⟨_, _, r, r, r⟩, trivial⟩⟩⟩⟩⟩⟩⟩) r r .mk) (.b r fun b236 => DrawD.nop (.e2 13 (.storeA sizeOf58 r r (.s (.s (.s .z))) (.t (.t (.t (.t (.t (.t (.t (.t (.t (.t (.t (.t (.t (.t (.t (.t (.t (.t (.t (.t (.t .nil))))))))))))))))))))) r r (.nilS [13, 12, 11, 8, 9, 1] r r (.drop .z (.sr (.loadW isAgg58 sizeOf58 r (.s (.s .z)) r r r ?_))))))))
 have hw257 := W_policy_Sums (I := I220) (a0 := ({ Ring := r21, Rows := r69, Cols := r199, X := r219, Set := r96, Others := a0.Others, Way := a1 } : Policy_Task)) R77 R80 R83 R207 R210 R213 R216 R227 R230 R233 R104 hd
 refine .call call15 r hw257 r r fun v252 I249 hl250 hv251 => ?_
 obtain ⟨r248, p254, c255, rfl, R256, hd⟩ := hv251
 have le258 := IH.le.trans le235 hl250
 replace R77 := R77.mono hl250
 replace R80 := R80.mono hl250
 replace R83 := R83.mono hl250
 replace R93 := R93.mono hl250
 replace R104 := R104.mono hl250
 replace R156 := R156.mono hl250
 replace R207 := R207.mono hl250
 replace R210 := R210.mono hl250
 replace R213 := R213.mono hl250
 replace R216 := R216.mono hl250
 replace R227 := R227.mono hl250
 replace R230 := R230.mono hl250
 replace R233 := R233.mono hl250
 refine .ks 7 r (.nilS [16, 15, 14, 12, 11, 8, 9, 1] r r (.drop (.s (.s .z)) (.seq (.dr [0, 1, 2, 3, 4, 5, 6, 7, 8, 9, 10, 11, 12, 13, 14, 15, 16, 17, 19, 21, 22, 23, 18, 20, 24, 25, 26] 27 (.ww r fun ex => ?_)))))
 have hw260 := W_law16_live (I := I249) hd
 refine .callP call7 r hw260 r r fun v261 hv262 => ?_
 obtain ⟨r259, rfl, hd⟩ := hv262
 refine .so 2 r r r trivial (.fk 1 r ?_)
 refine splitP hd (fun hb263 hd => ?_) fun hb263 hd => ?_
 · refine .g r r r (fun _ => .gyes r r hb263 (.move r r r .mk)) (.g r r r (fun _ => .gyes r r hb263 (.eq r r r r .mk)) (.g r r r (fun _ => .pickT r hb263 r r r .mk) (.fk 1 r ?_)))
   refine splitP hd (fun hb264 hd => ?_) fun hb264 hd => ?_
   · refine .g r r r (fun _ => .gyes r r hb264 (.move r r r .mk)) (.g r r r (fun _ => .gyes r r hb264 (.eq r r r r .mk)) (.g r r r (fun _ => .pickT r hb264 r r r .mk) (.fk 1 r ?_)))
     refine splitP hd (fun hb265 hd => ?_) fun hb265 hd => ?_
     · refine .g r r r (fun _ => .gyes r r hb265 (.move r r r .mk)) (.g r r r (fun _ => .gyes r r hb265 (.move r r r .mk)) (.ww r fun ex => ?_))
       have hw267 := W_ref13_SameSums (I := I249) R256 R156 hd
       refine .gyes r r hb265 (.callP call30 r hw267 r r fun v268 hv269 => ?_)
       obtain ⟨r266, rfl, hd⟩ := hv269
       refine .so 2 r r r trivial (.g r r r (fun _ => .pickT r hb265 r r r .mk) (.fk 1 r ?_))
       refine splitP hd (fun hb270 hd => ?_) fun hb270 hd => ?_
       · refine .g r r r (fun _ => .gyes r r hb270 (.move r r r .mk)) (.g r r r (fun _ => .gyes r r hb270 (.move r r r .mk)) (.g r r r (fun _ => .gyes r r hb270 (.loadW ia39 sz39 r (.s .z) r r r .mk)) (.g r r r (fun _ => .gyes r r hb270 (.loadW ia42 sz42 r .z r r r .mk)) (.g r r r (fun _ => .gyes r r hb270 (.fa un39 r sz36 r (o := 3) r r r .mk)) (.g r r r (fun _ => .gyes r r hb270 (.load1 ia36 r (.s .z) r r r .mk)) (.g r r r (fun _ => .gyes r r hb270 (.len un36 r r r r .mk)) (.ww r fun ex => ?_)))))))
         have hw289 := W_ref08_Of (I := I249) R77 R80 R83 hd
         refine .gyes r r hb270 (.call call16 r hw289 r r fun v275 I272 hl273 hv274 => ?_)
         obtain ⟨r271, p277, c278, p280, c281, p283, c284, p286, c287, rfl, R279, R282, R285, R288, hd⟩ := hv274
         have le290 := IH.le.trans le258 hl273
         replace R77 := R77.mono hl273
         replace R80 := R80.mono hl273
         replace R83 := R83.mono hl273
         replace R93 := R93.mono hl273
         replace R156 := R156.mono hl273
         replace R256 := R256.mono hl273
         refine .so 2 r r r (.cg r r r r (fun _ => .gyes r r hb270 (.len un36 r r r r .mk)) (.cg r r r r (fun _ => .gyes r r hb270 (.load1 ia36 r (.s .z) r r r .mk)) (.cg r r r r (fun _ => .gyes r r hb270 (.fa un39 r sz36 r (o := 3) r r r .mk)) (.cg r r r r (fun _ => .gyes r r hb270 (.loadW ia42 sz42 r .z r r r .mk)) (.cg r r r r (fun _ => .gyes r r hb270 (.move r r r .mk)) (.cg r r r r (fun _ => .gyes r r hb270 (.move r r r .mk)) trivial)))))) (.ww r fun ex => ?_)
         have hw292 := W_ref14_Work (I := I272) R279 R282 R285 R288 R93 hd
         refine .gyes r r hb270 (.callP call31 r hw292 r r fun v293 hv294 => ?_)
         obtain ⟨r291, rfl, hd⟩ := hv294
         refine .so 2 r r r (.cg r r r r (fun _ => .gyes r r hb270 (.len un36 r r r r .mk)) (.cg r r r r (fun _ => .gyes r r hb270 (.load1 ia36 r (.s .z) r r r .mk)) (.cg r r r r (fun _ => .gyes r r hb270 (.fa un39 r sz36 r (o := 3) r r r .mk)) (.cg r r r r (fun _ => .gyes r r hb270 (.move r r r .mk)) (.cg r r r r (fun _ => .gyes r r hb270 (.move r r r .mk)) trivial))))) (.ww r fun ex => ?_)
         have hw296 := W_ref16_Direction (I := I272) hd
         refine .gyes r r hb270 (.callP call9 r hw296 r r fun v297 hv298 => ?_)
         obtain ⟨r295, rfl, hd⟩ := hv298
         exact .so 2 r r r (.cg r r r r (fun _ => .gyes r r hb270 (.move r r r .mk)) trivial) (.g r r r (fun _ => .gyes r r hb270 (.eq r r r r .mk)) (.g r r r (fun _ => .pickT r hb270 r r r .mk) (.e2 27 (.ks 1 r (.nilS [6] r r (.drop .z (.drop .z (.ret (pret results6 (.t r .n) le290 ⟨(r248.2.1 == r295), r, hd⟩)))))))))
       refine .g r r r (fun _ => .gno r r hb270 r r .mk) (.g r r r (fun _ => .gno r r hb270 r r .mk) (.g r r r (fun _ => .gno r r hb270 r r .mk) (.g r r r (fun _ => .gno r r hb270 r r .mk) (.g r r r (fun _ => .gno r r hb270 r r .mk) (.g r r r (fun _ => .gno r r hb270 r r .mk) (.g r r r (fun _ => .gno r r hb270 r r .mk) (.g r r r (fun _ => .gno r r hb270 r r .mk) (.g r r r (fun _ => .gno r r hb270 r r .mk) (.g r r r (fun _ => .gno r r hb270 r r .mk) ?_)))))))))
       exact .g r r r (fun _ => .gno r r hb270 r r .mk) (.g r r r (fun _ => .pickF r hb270 r r r .mk) (.e2 27 (.ks 1 r (.nilS [6] r r (.drop .z (.drop .z (.ret (pret results6 (.t r .n) le258 ⟨false, r, hd⟩))))))))
     refine .g r r r (fun _ => .gno r r hb265 r r .mk) (.g r r r (fun _ => .gno r r hb265 r r .mk) (.g r r r (fun _ => .gno r r hb265 r r .mk) (.g r r r (fun _ => .pickF r hb265 r r r .mk) (.fk 13 r (.e2 27 (.ks 1 r (.nilS [6] r r (.drop .z (.drop .z ?_)))))))))
     exact .ret (pret results6 (.t r .n) le258 ⟨false, r, hd⟩)
   exact .g r r r (fun _ => .gno r r hb264 r r .mk) (.g r r r (fun _ => .gno r r hb264 r r .mk) (.g r r r (fun _ => .pickF r hb264 r r r .mk) (.fk 18 r (.e2 27 (.ks 1 r (.nilS [6] r r (.drop .z (.drop .z (.ret (pret results6 (.t r .n) le258 ⟨false, r, hd⟩))))))))))
 exact .g r r r (fun _ => .gno r r hb263 r r .mk) (.g r r r (fun _ => .gno r r hb263 r r .mk) (.g r r r (fun _ => .pickF r hb263 r r r .mk) (.fk 22 r (.e2 27 (.ks 1 r (.nilS [6] r r (.drop .z (.drop .z (.ret (pret results6 (.t r .n) le258 ⟨false, r, hd⟩))))))))))

end Go.Proofs.YtmidnfbbnmigeaaGreat
