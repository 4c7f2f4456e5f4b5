/- The walks (printed by a program of ours). -/
import Derived.Test.YtjabmpfcpekpdaaGreatV2
namespace Go.Proofs.YtjabmpfcpekpdaaGreat
open Go Go.Fw
set_option linter.unusedVariables false
set_option linter.unusedSimpArgs false
set_option maxRecDepth 8000
set_option maxHeartbeats 1000000
open Tryz
theorem W_law15_small {I : IH} {a0 : Int} {Q : Int → Prop}  (hd : law15_small a0 Q) :
  PFun prog 31 [.int .u8 a0] I (fun I_ v => ∃ r, v = .int .u8 r ∧ Q r) := by
 refine Fun.enter func31 r ntmps31 r (.c .n) fun w0 M => ?_
 exact .sr (.ks 1 r (.nilS [0] r r (.sr (.ks 1 r (.rem r r (by decide) r r (.ks 1 r (.nilS [2] r r (.ret (pret results31 (.t r .n) (.refl _) ⟨(a0.tmod 14), r, hd⟩)))))))))

theorem W_law13_Right {I : IH} {a0 : Int} {Q : Int → Prop}  (hd : law13_Right a0 Q) :
  PFun prog 22 [.int .i64 a0] I (fun _ => o0_ Q) := by
 refine Fun.enter func22 r ntmps22 r (.c .n) fun w0 M => ?_
 refine .sr (.ks 1 r (.nilS [0] r r (.seq (.sr (.ks 3 r ?_)))))
 refine splitP hd (fun hb1 hd => ?_) fun hb1 hd => ?_
 · rw [hb1]
   exact .ks 3 r (.nilS [8, 0] r r (.condKT r r (.sr (.ks 1 r (.nilS [2] r r (.ret (pret results22 (.t r .n) (.refl _) ⟨1, r, hd⟩)))))))
 rw [hb1]
 refine .ks 3 r (.nilS [8, 0] r r (.condP r hd (fun hb2 hd => ?_) fun hb2 hd => ?_))
 · exact .sr (.ks 1 r (.nilS [2] r r (.ret (pret results22 (.t r .n) (.refl _) ⟨1, r, hd⟩))))
 exact .skipS [0] r r (.sr (.ks 2 r (.nilS [2] r r (.ret (pret results22 (.t r .n) (.refl _) ⟨a0, r, hd⟩)))))

theorem W_law07_Size {I : IH} {a0 : Int} {Q : Int → Prop}  (hd : law07_Size a0 Q) :
  PFun prog 117 [.int .u8 a0] I (fun _ => o0_ Q) := by
 refine Fun.enter func117 r ntmps117 r (.c .n) fun w0 M => ?_
 exact .sr (.ks 1 r (.nilS [0] r r (.sr (.ks 1 r (.conv underlying5 un3 r r r (.rem r r (by decide) r r (.ks 1 r (.nilS [2] r r (.ret (pret results117 (.t r .n) (.refl _) ⟨((w64 (a0)).tmod 40), r, hd⟩))))))))))

theorem W_law07_Few {I : IH} {a0 : List Triple} {p1 : Option Addr} {c2 : Nat} {Q : (List Triple) → Prop} (R3 : RepSl eTriple I p1 c2 a0) (hd : law07_Few a0 Q) :
  PFun prog 118 [.slice p1 a0.length c2] I (fun I_ v => ∃ r p4 c5, v = .slice p4 r.length c5 ∧ RepSl eTriple I_ p4 c5 r ∧ Q r) := by
 refine Fun.enter func118 r ntmps118 r (.c .n) fun w0 M => ?_
 refine .sr (.ks 1 r (.nilS [0] r r (.seq (.sr (.ks 1 r (.len un24 r r r r (.ks 1 r (.nilS [5, 0] r r (.condP r hd (fun hb7 hd => ?_) fun hb7 hd => ?_)))))))))
 · refine .region (.ks 1 r ?_)
   obtain ⟨h8, h9, h10, hd⟩ := hd
   have h16 : Int.toNat 0 ≤ Int.toNat 60 := by omega
   have h17 : Int.toNat 60 ≤ a0.length := by omega
   obtain ⟨p11, c12, e14, e15, R13⟩ := RepSl.sliceW R3 (Int.toNat 0) (Int.toNat 60) c2 h16 h17 (.inl rfl)
   exact .sliceW (L := Int.toNat 0) (H := Int.toNat 60) (cm := c2) un24 sz91 r r R3.1 r r r (.inl ⟨r, r⟩) (.inr ⟨_, _, r, (by omega), r⟩) (.inl r) h16 h17 r e14 e15 r r (.ks 1 r (.nilS [0] r r (.sr (.ks 2 r (.nilS [2] r r (.ret (pret results118 (.t r .n) (.refl _) ⟨((a0.take (Int.toNat 60)).drop (Int.toNat 0)), _, _, r, R13, hd⟩)))))))
 exact .skipS [0] r r (.sr (.ks 2 r (.nilS [2] r r (.ret (pret results118 (.t r .n) (.refl _) ⟨a0, _, _, r, R3, hd⟩)))))

theorem W_law07_Some {I : IH} {a0 : Int × Int} {a1 : List Triple} {p1 : Option Addr} {c2 : Nat} {Q : Rows → Prop} (R3 : RepSl eTriple I p1 c2 a1) (hd : law07_Some a0 a1 Q) :
  PFun prog 79 [.agg #[.int .u8 a0.1, .int .u8 a0.2], .slice p1 a1.length c2] I (o3_ Q) := by
 refine Fun.enter func79 r ntmps79 r (.c (.c .n)) fun w0 M => ?_
 refine .sr (.boxA r r r fun b17 => ?_)
 refine .allocA zv30 r r fun b19 => ?_
 refine .nilS [4, 2, 1] r r (.seq (.dr [0, 1, 3, 4, 2, 5, 6] 7 (.g r r r (fun _ => .ixArr (i := 0) un76 sz5 r r (by decide) (o := 0) r r r .mk) (.g r r r (fun _ => .load1 isAgg5 r (.s .z) r r r .mk) (.g r r r (fun _ => .ixArr (i := 1) un76 sz5 r r (by decide) (o := 1) r r r .mk) (.g r r r (fun _ => .load1 isAgg5 r (.s .z) r r r .mk) (.ww r fun ex => ?_)))))))
 have hw30 := W_law07_Size (I := I) hd
 refine .callP call117 r hw30 r r fun v31 hv32 => ?_
 obtain ⟨r29, rfl, hd⟩ := hv32
 refine .so 2 r r r (.cg r r r r (fun _ => .load1 isAgg5 r (.s .z) r r r .mk) (.cg r r r r (fun _ => .ixArr (i := 1) un76 sz5 r r (by decide) (o := 1) r r r .mk) trivial)) (.ww r fun ex => ?_)
 have hw34 := W_law07_Size (I := I) hd
 refine .callP call117 r hw34 r r fun v35 hv36 => ?_
 obtain ⟨r33, rfl, hd⟩ := hv36
 refine .so 2 r r r trivial (.fk 1 r (.e2 7 (.ks 1 r (.nilS [6, 5, 4, 1] r r (.drop (.s .z) (.sr (.ks 1 r (.nilS [7, 6, 5, 4, 1] r r (.sr ?_)))))))))
 refine .ks 1 r ?_
 have hw56 := W_law07_Few (I := I) R3 hd
 refine .call call118 r hw56 r r fun v51 I48 hl49 hv50 => ?_
 obtain ⟨r47, p53, c54, rfl, R55, hd⟩ := hv50
 replace R3 := R3.mono hl49
 refine .ks 1 r (.nilS [1, 7, 6, 5, 4] r r (.seq (.sr (.ks 1 r (.nilS [8, 1, 7, 6, 5, 4] r r (.block (.own0 eTriple 91 (.loop hd (fun (s : (List Triple) × Int) c w => match s with | (s304, s308) => ∃ I_ p305 c306, IH.le I48 I_ ∧ Ok ⟨73, [], none⟩ [(1, .slice p53 r47.length c54), (4, .pointer (some ⟨b19, 0, none⟩)), (5, .int .i64 r29), (6, .int .i64 r33), (7, .slice p305 s304.length c306), (8, .int .i64 s308)] c ∧ Sym w0 M I I_ [pto b19 (.cells #[.int .i64 0, .int .i64 0, .slice none 0 0, .slice none 0 0, .slice none 0 0] 30 (0, 0)), OwnSl eTriple 91 p305 c306 s304] w) (fun c w ho hs => ⟨I48, _, _, (.refl _), ho.sub ⟨r, r, r, r, r, r, trivial⟩, hs.pick (.c (.s .z) (.c .z .n))⟩) ?_))))))))
 rintro ⟨s304, s308⟩ next310 hd c w hst
 obtain ⟨I311, p305, c306, hl312, hok, hsym⟩ := hst
 have le313 := IH.le.trans hl49 hl312
 replace R55 := R55.mono hl312
 refine Cod.at hok hsym (.seq (.sr (.ks 2 r (.len un24 r r r r (.ks 1 r (.nilS [23, 8, 7, 6, 5, 4, 1] r r (.condP r hd (fun hb315 hd => ?_) fun hb315 hd => ?_)))))))
 · refine .skipS [8, 7, 6, 5, 4, 1] r r (.seq (.block (.sr (.ks 2 r ?_))))
   obtain ⟨h327, x328, hx329, hd⟩ := hd
   obtain ⟨b330, o331, cs332, e333, hC334, hr335⟩ := R55.2 _ _ hx329
   cases hr335
   refine .ixa un24 sz91 r e333 r h327 (idx_lt hx329 h327) r r (.ldW isAgg91 sz91 hC334 r r r r (.allocA zv91 r r fun b336 => ?_))
   refine .storeA sz91 r r .z (.t (.t (.t .nil))) r r (.nilS [9, 8, 7, 6, 5, 4, 1] r r (.seq (.sr (.fa un91 r sz3 r (o := 0) r r r (.load1 ia3 r .z r r r (.ks 2 r ?_))))))
   refine splitP hd (fun hb342 hd => ?_) fun hb342 hd => ?_
   · rw [hb342]
     exact .ks 12 r (.nilS [45, 9, 8, 7, 6, 5, 4, 1] r r (.condKT r r (.exitS [8, 7, 6, 5, 4, 1] r r (.drop .z (.region (.ks 3 r (.nil' fun c w ho hs => ⟨(s304, w64 (s308 + 1)), hd, I311, _, _, hl312, ho.sub ⟨r, r, r, r, r, r, trivial⟩, hs.pick (.c .z (.c .z .n))⟩)))))))
   rw [hb342]
   refine .gyes r r r (.fa un91 r sz3 r (o := 1) r r r (.gyes r r r (.load1 ia3 r .z r r r (.ks 3 r ?_))))
   refine splitP hd (fun hb343 hd => ?_) fun hb343 hd => ?_
   · rw [hb343]
     exact .ks 7 r (.nilS [45, 9, 8, 7, 6, 5, 4, 1] r r (.condKT r r (.exitS [8, 7, 6, 5, 4, 1] r r (.drop .z (.region (.ks 3 r (.nil' fun c w ho hs => ⟨(s304, w64 (s308 + 1)), hd, I311, _, _, hl312, ho.sub ⟨r, r, r, r, r, r, trivial⟩, hs.pick (.c .z (.c .z .n))⟩)))))))
   rw [hb343]
   refine .ks 4 r ?_
   refine splitP hd (fun hb344 hd => ?_) fun hb344 hd => ?_
   · rw [hb344]
     exact .ks 3 r (.nilS [45, 9, 8, 7, 6, 5, 4, 1] r r (.condKT r r (.exitS [8, 7, 6, 5, 4, 1] r r (.drop .z (.region (.ks 3 r (.nil' fun c w ho hs => ⟨(s304, w64 (s308 + 1)), hd, I311, _, _, hl312, ho.sub ⟨r, r, r, r, r, r, trivial⟩, hs.pick (.c .z (.c .z .n))⟩)))))))
   rw [hb344]
   refine .ks 3 r (.nilS [45, 9, 8, 7, 6, 5, 4, 1] r r (.condP r hd (fun hb345 hd => ?_) fun hb345 hd => ?_))
   · exact .exitS [8, 7, 6, 5, 4, 1] r r (.drop .z (.region (.ks 3 r (.nil' fun c w ho hs => ⟨(s304, w64 (s308 + 1)), hd, I311, _, _, hl312, ho.sub ⟨r, r, r, r, r, r, trivial⟩, hs.pick (.c .z (.c .z .n))⟩))))
   refine .skipS [9, 8, 7, 6, 5, 4, 1] r r (.sr (.fa un91 r sz3 r (o := 0) r r r (.load1 ia3 r .z r r r (.ks 1 r ?_))))
   obtain ⟨hz347, hd⟩ := hd
   refine .rem r r hz347 r r (.fa un91 r sz3 r (o := 0) r r r (.store1 sz3 r r .z (.t .nil) r (.nilS [9, 8, 7, 6, 5, 4, 1] r r (.sr (.fa un91 r sz3 r (o := 1) r r r (.load1 ia3 r .z r r r (.ks 1 r ?_)))))))
   obtain ⟨hz348, hd⟩ := hd
   refine .rem r r hz348 r r (.fa un91 r sz3 r (o := 1) r r r (.store1 sz3 r r .z (.s (.t .nil)) r (.nilS [9, 8, 7, 6, 5, 4, 1] r r (.region (.ks 1 r (.loadW isAgg91 sz91 r .z r r r (.buildSlice 1 un24 sz91 zv91 r r (.c r r r .n) r r fun b349 => ?_)))))))
   obtain ⟨hl351, hd⟩ := hd
   refine .append (ys := [({ Row := x328.Row.tmod r29, Col := x328.Col.tmod r33, Val := x328.Val } : Triple)]) 24 (.s (.s (.s .z))) un24 un24 IN91 r r r r r r r r r (.box .z (.one r) r) hl351 r r fun p352 c353 => ?_
   exact .ks 1 r (.nilS [7, 8, 6, 5, 4, 1] r r (.drop (.s .z) (.drop (.s .z) (.region (.ks 3 r (.nil' fun c w ho hs => ⟨((s304 ++ ([({ Row := x328.Row.tmod r29, Col := x328.Col.tmod r33, Val := x328.Val } : Triple)])), w64 (s308 + 1)), hd, I311, _, _, hl312, ho.sub ⟨r, r, r, r, r, r, trivial⟩, hs.pick (.c (.s .z) (.c .z .n))⟩))))))
 refine .exitS [7, 6, 5, 4] r r (.sr (.ks 3 r (.pub (.s .z) fun I380 hl381 R382 => ?_)))
 have le383 := IH.le.trans le313 hl381
 have le384 := IH.le.trans hl312 hl381
 have hw400 := W_ref07_Of (I := I380) R382 hd
 refine .call call51 r hw400 r r fun v389 I386 hl387 hv388 => ?_
 obtain ⟨r385, p391, c392, p394, c395, p397, c398, rfl, R393, R396, R399, hd⟩ := hv388
 have le401 := IH.le.trans le383 hl387
 have le402 := IH.le.trans le384 hl387
 replace R382 := R382.mono hl387
 refine .ks 3 r (.allocA zv30 r r fun b403 => ?_)
 refine .storeA sz30 r r .z (.t (.t (.t (.t (.t .nil))))) r r (.ks 1 r (.nilS [11, 10, 6, 5, 4] r r (.seq (.sr (.ks 2 r (.nilS [68, 10, 6, 5, 4] r r (.condP r hd (fun hb405 hd => ?_) fun hb405 hd => ?_)))))))
 · refine .sr (.ks 2 r ?_)
   have hw424 := W_ref07_Empty (I := I386) hd
   refine .callO call84 r hw424 r r fun v410 I407 l411 hl408 hv409 => ?_
   obtain ⟨r406, p412, c413, p415, c416, p418, c419, rfl, rfl, hd⟩ := hv409
   have le425 := IH.le.trans le401 hl408
   have le426 := IH.le.trans le402 hl408
   replace R393 := R393.mono hl408
   replace R396 := R396.mono hl408
   replace R399 := R399.mono hl408
   refine .storeA sz30 r r (.s (.s (.s (.s .z)))) (.t (.t (.t (.t (.t .nil))))) r r (.nilS [4] r r (.drop (.s (.s (.s .z))) (.pub .z fun I427 hl428 R429 => ?_)))
   have le430 := IH.le.trans le425 hl428
   have le431 := IH.le.trans le426 hl428
   refine .pub .z fun I432 hl433 R434 => ?_
   have le435 := IH.le.trans le430 hl433
   have le436 := IH.le.trans le431 hl433
   replace R429 := R429.mono hl433
   refine .pub .z fun I437 hl438 R439 => ?_
   have le440 := IH.le.trans le435 hl438
   have le441 := IH.le.trans le436 hl438
   replace R429 := R429.mono hl438
   replace R434 := R434.mono hl438
   exact .ret (pret results79 (.w ia30 sz30 r .z r .n) le440 ⟨r406, _, _, _, _, _, _, r, R429, R434, R439, hd⟩)
 exact .skipS [10, 4] r r (.sr (.loadW ia30 sz30 r .z r r r (.storeA sz30 r r (.s .z) (.t (.t (.t (.t (.t .nil))))) r r (.nilS [4] r r (.drop .z (.ret (pret results79 (.w ia30 sz30 r .z r .n) le401 ⟨r385.1, _, _, _, _, _, _, r, R393, R396, R399, hd⟩)))))))

theorem W_law02_Value {I : IH} {a0 : Int} {a1 : Int} {Q : Int → Prop}  (hd : law02_Value a0 a1 Q) :
  PFun prog 119 [.int .i64 a0, .int .i64 a1] I (fun _ => o0_ Q) := by
 refine Fun.enter func119 r ntmps119 r (.c (.c .n)) fun w0 M => ?_
 refine .sr (.ks 1 r (.nilS [1, 0] r r (.sr (.ks 1 r (.nilS [5, 1] r r (.block (.sr (.ks 2 r (.nilS [12, 5, 1] r r ?_)))))))))
 refine .condP r hd (fun hb1 hd => ?_) fun hb1 hd => ?_
 · exact .sr (.ks 2 r (.nilS [4] r r (.ret (pret results119 (.t r .n) (.refl _) ⟨a1, r, hd⟩))))
 refine .sr (.ks 2 r (.nilS [15, 1] r r (.condP r hd (fun hb2 hd => ?_) fun hb2 hd => ?_)))
 · exact .sr (.ks 3 r (.nilS [4] r r (.ret (pret results119 (.t r .n) (.refl _) ⟨(bnd .i64 a1 1), r, hd⟩))))
 refine .sr (.ks 3 r (.nilS [1] r r (.seq (.sr (.ks 1 r (.rem r r (by decide) r r (.ks 1 r (.nilS [10, 1] r r (.condP r hd (fun hb3 hd => ?_) fun hb3 hd => ?_)))))))))
 · exact .sr (.ks 1 r (.nilS [4] r r (.ret (pret results119 (.t r .n) (.refl _) ⟨4611686018427387904, r, hd⟩))))
 exact .skipS [1] r r (.sr (.ks 2 r (.nilS [4] r r (.ret (pret results119 (.t r .n) (.refl _) ⟨(bnd .i64 a1 4611686018427387903), r, hd⟩)))))

theorem W_law02_Factor {I : IH} {a0 : Int} {a1 : Int} {Q : Int → Prop}  (hd : law02_Factor a0 a1 Q) :
  PFun prog 80 [.int .i64 a0, .int .i64 a1] I (fun _ => o0_ Q) := by
 refine Fun.enter func80 r ntmps80 r (.c (.c .n)) fun w0 M => ?_
 refine .sr (.ks 1 r (.nilS [1, 0] r r (.seq (.sr (.ks 2 r (.nilS [6, 1, 0] r r (.condP r hd (fun hb1 hd => ?_) fun hb1 hd => ?_)))))))
 · exact .sr (.ks 1 r (.rem r r (by decide) r r (.ks 1 r (.nilS [4] r r (.ret (pret results80 (.t r .n) (.refl _) ⟨(a1.tmod 2147483648), r, hd⟩))))))
 refine .skipS [1, 0] r r (.sr (.ks 2 r ?_))
 have hw3 := W_law02_Value (I := I) hd
 refine .callP call119 r hw3 r r fun v4 hv5 => ?_
 obtain ⟨r2, rfl, hd⟩ := hv5
 exact .ks 1 r (.nilS [4] r r (.ret (pret results80 (.t r .n) (.refl _) ⟨r2, r, hd⟩)))

theorem W_law13_Task_Matrix {I : IH} {a0 : Law13_Task} {p1 : Option Addr} {c2 : Nat} {p4 : Option Addr} {c5 : Nat} {p7 : Option Addr} {c8 : Nat} {p10 : Option Addr} {c11 : Nat} {Q : Rows → Prop} (R3 : RepSl eTriple I p1 c2 a0.L) (R6 : RepSl eItem I p4 c5 a0.X) (R9 : RepSl eItem I p7 c8 a0.Y) (R12 : RepSl eU64 I p10 c11 a0.F) (hd : law13_Task_Matrix a0 Q) :
  PFun prog 32 [.agg #[.int .i64 a0.Ring, .int .u8 a0.Size.1, .int .u8 a0.Size.2, .slice p1 a0.L.length c2, .slice p4 a0.X.length c5, .slice p7 a0.Y.length c8, .slice p10 a0.F.length c11, .bool a0.Others]] I (fun I_ v => ∃ r p13 c14 p16 c17 p19 c20, v = .agg #[.int .i64 r.Rows, .int .i64 r.Cols, .slice p13 r.Start.length c14, .slice p16 r.Col.length c17, .slice p19 r.Val.length c20] ∧ RepSl eI64 I_ p13 c14 r.Start ∧ RepSl eI64 I_ p16 c17 r.Col ∧ RepSl eI64 I_ p19 c20 r.Val ∧ Q r) := by
 refine Fun.enter func32 r ntmps32 r (.c .n) fun w0 M => ?_
 refine .sr (.boxA r r r fun b26 => ?_)
 refine .allocA zv30 r r fun b28 => ?_
 refine .nilS [2, 1] r r (.sr (.fa un78 r sizeOf76 r (o := 1) r r r (.loadA isAgg76 sizeOf76 r (.s .z) (.s (.t (.t .nil))) r r r (.fa un78 r sizeOf24 r (o := 3) r r r (.load1 isAgg24 r (.s .z) r r r ?_)))))
 have hw63 := W_law07_Some (I := I) R3 hd
 refine .call call79 r hw63 r r fun v52 I49 hl50 hv51 => ?_
 obtain ⟨r48, p54, c55, p57, c58, p60, c61, rfl, R56, R59, R62, hd⟩ := hv51
 replace R3 := R3.mono hl50
 replace R6 := R6.mono hl50
 replace R9 := R9.mono hl50
 replace R12 := R12.mono hl50
 refine .allocA zv30 r r fun b64 => ?_
 refine .storeA sz30 r r .z (.t (.t (.t (.t (.t .nil))))) r r (.nilS [3, 2, 1] r r (.sr (.fa un78 r sz22 r (o := 0) r r r (.load1 ia22 r (.s (.s .z)) r r r ?_))))
 have hw71 := W_law13_Right (I := I49) hd
 refine .callP call22 r hw71 r r fun v72 hv73 => ?_
 obtain ⟨r70, rfl, hd⟩ := hv73
 refine .ks 1 r (.nilS [4, 3, 2] r r (.drop (.s (.s .z)) (.sr (.ks 1 r (.nilS [5, 4, 3, 2] r r (.seq (.sr (.ks 1 r (.nilS [6, 5, 4, 3, 2] r r ?_)))))))))
 refine .block (.own0 eI64 2 (.loop hd (fun (s : (List Int) × Int) c w => match s with | (s132, s136) => ∃ I_ p133 c134, IH.le I49 I_ ∧ Ok ⟨35, [], none⟩ [(2, .pointer (some ⟨b28, 0, none⟩)), (3, .pointer (some ⟨b64, 0, none⟩)), (4, .int .i64 r70), (5, .slice p133 s132.length c134), (6, .int .i64 s136)] c ∧ Sym w0 M I I_ [pto b28 (.cells #[.int .i64 0, .int .i64 0, .slice none 0 0, .slice none 0 0, .slice none 0 0] 30 (0, 0)), pto b64 (.cells #[.int .i64 r48.Rows, .int .i64 r48.Cols, .slice p54 r48.Start.length c55, .slice p57 r48.Col.length c58, .slice p60 r48.Val.length c61] 30 (0, 0)), OwnSl eI64 2 p133 c134 s132] w) (fun c w ho hs => ⟨I49, _, _, (.refl _), ho.sub ⟨r, r, r, r, r, trivial⟩, hs.pick (.c (.s (.s .z)) (.c (.s .z) (.c .z .n)))⟩) ?_))
 rintro ⟨s132, s136⟩ next138 hd c w hst
 obtain ⟨I139, p133, c134, hl140, hok, hsym⟩ := hst
 have le141 := IH.le.trans hl50 hl140
 replace R56 := R56.mono hl140
 replace R59 := R59.mono hl140
 replace R62 := R62.mono hl140
 refine Cod.at hok hsym (.seq (.sr (.ks 1 r (.fa un30 r sz28 r (o := 4) r r r (.load1 ia28 r (.s .z) r r r (.len un28 r r r r (.ks 1 r (.nilS [19, 6, 5, 4, 3, 2] r r (.condP r hd (fun hb143 hd => ?_) fun hb143 hd => ?_)))))))))
 · refine .skipS [6, 5, 4, 3, 2] r r (.seq (.block (.region (.ks 2 r (.fa un30 r sz28 r (o := 4) r r r (.load1 ia28 r (.s .z) r r r (.ks 1 r ?_)))))))
   obtain ⟨h144, x145, hx146, hd⟩ := hd
   obtain ⟨b147, o148, cs149, e150, hC151, hr152⟩ := R62.2 _ _ hx146
   cases hr152
   refine .ixa un28 sz2 r e150 r h144 (idx_lt hx146 h144) r r (.ld1 (j := 0) ia2 hC151 r r r r r ?_)
   have hw154 := W_law02_Factor (I := I139) hd
   refine .callP call80 r hw154 r r fun v155 hv156 => ?_
   obtain ⟨r153, rfl, hd⟩ := hv156
   refine .buildSlice 1 un28 sz2 zeroValue2 r r (.c r r r .n) r r fun b157 => ?_
   obtain ⟨hl159, hd⟩ := hd
   refine .append (ys := [r153]) 8 (.s (.s (.s .z))) un28 un28 IN2 r r r r r r r r r (.box .z (.one r) r) hl159 r r fun p160 c161 => ?_
   exact .ks 1 r (.nilS [5, 6, 4, 3, 2] r r (.drop (.s .z) (.region (.ks 3 r (.nil' fun c w ho hs => ⟨((s132 ++ ([r153])), w64 (s136 + 1)), hd, I139, _, _, hl140, ho.sub ⟨r, r, r, r, r, trivial⟩, hs.pick (.c (.s .z) (.c (.s .z) (.c .z .n)))⟩)))))
 refine .exitS [5, 3, 2] r r (.sr (.ks 1 r (.fa un30 r sz28 r (o := 4) r r r (.store1 sz28 r r (.s .z) (.s (.s (.s (.s (.t .nil))))) r (.nilS [3, 2] r r (.sr (.loadW ia30 sz30 r (.s .z) r r r (.storeA sz30 r r .z (.t (.t (.t (.t (.t .nil))))) r r (.nilS [2] r r ?_)))))))))
 refine .drop (.s .z) (.pub (.s .z) fun I163 hl164 R165 => ?_)
 have le166 := IH.le.trans le141 hl164
 have le167 := IH.le.trans hl140 hl164
 replace R56 := R56.mono hl164
 replace R59 := R59.mono hl164
 exact .ret (pret results32 (.w ia30 sz30 r .z r .n) le166 ⟨({ Rows := r48.Rows, Cols := r48.Cols, Start := r48.Start, Col := r48.Col, Val := s132 } : Rows), _, _, _, _, _, _, r, R56, R59, R165, hd⟩)

theorem W_law15_Task_Three {I : IH} {a0 : Law15_Task} {p1 : Option Addr} {c2 : Nat} {p4 : Option Addr} {c5 : Nat} {p7 : Option Addr} {c8 : Nat} {Q : (Rows × Rows × Rows) → Prop} (R3 : RepSl eTriple I p1 c2 a0.A) (R6 : RepSl eTriple I p4 c5 a0.B) (R9 : RepSl eTriple I p7 c8 a0.M) (hd : law15_Task_Three a0 Q) :
  PFun prog 8 [.agg #[.int .i64 a0.Ring, .int .u8 a0.Size.1, .int .u8 a0.Size.2.1, .int .u8 a0.Size.2.2, .slice p1 a0.A.length c2, .slice p4 a0.B.length c5, .slice p7 a0.M.length c8]] I (fun I_ v => ∃ r p10 c11 p13 c14 p16 c17 p19 c20 p22 c23 p25 c26 p28 c29 p31 c32 p34 c35, v = .agg #[.int .i64 r.1.Rows, .int .i64 r.1.Cols, .slice p10 r.1.Start.length c11, .slice p13 r.1.Col.length c14, .slice p16 r.1.Val.length c17, .int .i64 r.2.1.Rows, .int .i64 r.2.1.Cols, .slice p19 r.2.1.Start.length c20, .slice p22 r.2.1.Col.length c23, .slice p25 r.2.1.Val.length c26, .int .i64 r.2.2.Rows, .int .i64 r.2.2.Cols, .slice p28 r.2.2.Start.length c29, .slice p31 r.2.2.Col.length c32, .slice p34 r.2.2.Val.length c35] ∧ RepSl eI64 I_ p10 c11 r.1.Start ∧ RepSl eI64 I_ p13 c14 r.1.Col ∧ RepSl eI64 I_ p16 c17 r.1.Val ∧ RepSl eI64 I_ p19 c20 r.2.1.Start ∧ RepSl eI64 I_ p22 c23 r.2.1.Col ∧ RepSl eI64 I_ p25 c26 r.2.1.Val ∧ RepSl eI64 I_ p28 c29 r.2.2.Start ∧ RepSl eI64 I_ p31 c32 r.2.2.Col ∧ RepSl eI64 I_ p34 c35 r.2.2.Val ∧ Q r) := by
 refine Fun.enter func8 r ntmps8 r (.c .n) fun w0 M => ?_
 refine .sr (.boxA r r r fun b41 => ?_)
 refine .allocA zv31 r r fun b43 => ?_
 refine .nilS [2, 1] r r (.seq (.dr [0, 1, 2, 4, 5, 6, 8, 9, 10, 3, 7, 11, 12, 13] 14 (.g r r r (fun _ => .fa un26 r sizeOf23 r (o := 1) r r r .mk) (.g r r r (fun _ => .ixArr (i := 0) un23 sz5 r r (by decide) (o := 1) r r r .mk) (.g r r r (fun _ => .load1 isAgg5 r (.s .z) r r r .mk) (.g r r r (fun _ => .fa un26 r sizeOf23 r (o := 1) r r r .mk) (.g r r r (fun _ => .ixArr (i := 1) un23 sz5 r r (by decide) (o := 2) r r r .mk) (.g r r r (fun _ => .load1 isAgg5 r (.s .z) r r r .mk) (.g r r r (fun _ => .fa un26 r sizeOf23 r (o := 1) r r r .mk) ?_)))))))))
 refine .g r r r (fun _ => .ixArr (i := 2) un23 sz5 r r (by decide) (o := 3) r r r .mk) (.g r r r (fun _ => .load1 isAgg5 r (.s .z) r r r .mk) (.ww r fun ex => ?_))
 have hw58 := W_law15_small (I := I) hd
 refine .callP call31 r hw58 r r fun v59 hv60 => ?_
 obtain ⟨r57, rfl, hd⟩ := hv60
 refine .so 2 r r r (.cg r r r r (fun _ => .load1 isAgg5 r (.s .z) r r r .mk) (.cg r r r r (fun _ => .ixArr (i := 2) un23 sz5 r r (by decide) (o := 3) r r r .mk) (.cg r r r r (fun _ => .fa un26 r sizeOf23 r (o := 1) r r r .mk) (.cg r r r r (fun _ => .load1 isAgg5 r (.s .z) r r r .mk) (.cg r r r r (fun _ => .ixArr (i := 1) un23 sz5 r r (by decide) (o := 2) r r r .mk) (.cg r r r r (fun _ => .fa un26 r sizeOf23 r (o := 1) r r r .mk) trivial)))))) (.ww r fun ex => ?_)
 have hw62 := W_law15_small (I := I) hd
 refine .callP call31 r hw62 r r fun v63 hv64 => ?_
 obtain ⟨r61, rfl, hd⟩ := hv64
 refine .so 2 r r r (.cg r r r r (fun _ => .load1 isAgg5 r (.s .z) r r r .mk) (.cg r r r r (fun _ => .ixArr (i := 2) un23 sz5 r r (by decide) (o := 3) r r r .mk) (.cg r r r r (fun _ => .fa un26 r sizeOf23 r (o := 1) r r r .mk) trivial))) (.ww r fun ex => ?_)
 have hw66 := W_law15_small (I := I) hd
 refine .callP call31 r hw66 r r fun v67 hv68 => ?_
 obtain ⟨r65, rfl, hd⟩ := hv68
 refine .so 2 r r r trivial (.fk 2 r (.e2 14 (.ks 1 r (.nilS [5, 4, 3, 2, 1] r r (.sr (.fa un26 r sz22 r (o := 0) r r r (.load1 ia22 r (.s .z) r r r (.ks 2 r (.buildArr zeroValue76 un76 sz5 (.c r r r (.t .nil) (.c r r r (.s (.t .nil)) .n)) r r ?_)))))))))
 refine .fa un26 r sizeOf24 r (o := 4) r r r (.load1 isAgg24 r (.s .z) r r r (.build zv78 un78 BI78 (.c r r r (.t .nil) (.c r r r (.s (.t (.t .nil))) (.c r r r (.s (.s (.s (.t .nil)))) .n))) (by exact ⟨⟨_, _, r, r, r⟩, ⟨⟨_, _, r, r, r⟩, ⟨⟨_, _, r, r, r⟩, trivial⟩⟩⟩) r r (.allocA zv78 r r fun b71 => ?_)))
 refine .storeA sizeOf78 r r .z (.t (.t (.t (.t (.t (.t (.t (.t .nil)))))))) r r (.nilS [6, 5, 4, 3, 2, 1] r r (.sr (.fa un26 r sz22 r (o := 0) r r r (.load1 ia22 r (.s (.s .z)) r r r (.ks 2 r (.buildArr zeroValue76 un76 sz5 (.c r r r (.t .nil) (.c r r r (.s (.t .nil)) .n)) r r (.fa un26 r sizeOf24 r (o := 5) r r r (.load1 isAgg24 r (.s (.s .z)) r r r (.build zv78 un78 BI78 (.c r r r (.t .nil) (.c r r r (.s (.t (.t .nil))) (.c r r r (.s (.s (.s (.t .nil)))) .n))) (by exact ⟨⟨_, _, r, r, r⟩, ⟨⟨_, _, r, r, r⟩, ⟨⟨_, _, r, r, r⟩, trivial⟩⟩⟩) r r ?_)))))))))
 refine .allocA zv78 r r fun b75 => ?_
 refine .storeA sizeOf78 r r .z (.t (.t (.t (.t (.t (.t (.t (.t .nil)))))))) r r (.nilS [7, 6, 5, 3, 2, 1] r r (.sr (.fa un26 r sz22 r (o := 0) r r r (.load1 ia22 r (.s (.s (.s .z))) r r r (.ks 2 r (.buildArr zeroValue76 un76 sz5 (.c r r r (.t .nil) (.c r r r (.s (.t .nil)) .n)) r r (.fa un26 r sizeOf24 r (o := 6) r r r (.load1 isAgg24 r (.s (.s (.s .z))) r r r (.build zv78 un78 BI78 (.c r r r (.t .nil) (.c r r r (.s (.t (.t .nil))) (.c r r r (.s (.s (.s (.t .nil)))) .n))) (by exact ⟨⟨_, _, r, r, r⟩, ⟨⟨_, _, r, r, r⟩, ⟨⟨_, _, r, r, r⟩, trivial⟩⟩⟩) r r ?_)))))))))
 refine .allocA zv78 r r fun b77 => ?_
 refine .storeA sizeOf78 r r .z (.t (.t (.t (.t (.t (.t (.t (.t .nil)))))))) r r (.nilS [8, 7, 6, 2] r r (.drop (.s (.s (.s (.s .z)))) (.seq (.dr [0, 2, 4, 1, 3, 5, 6] 7 (.g r r r (fun _ => .loadW isAgg78 sizeOf78 r (.s (.s .z)) r r r .mk) (.g r r r (fun _ => .loadW isAgg78 sizeOf78 r (.s .z) r r r .mk) (.g r r r (fun _ => .loadW isAgg78 sizeOf78 r .z r r r .mk) (.ww r fun ex => ?_))))))))
 have hw94 := W_law13_Task_Matrix (I := I) (a0 := ({ Ring := a0.Ring, Size := (r57, r61), L := a0.A, X := ([] : List Item), Y := ([] : List Item), F := ([] : List Int), Others := false } : Law13_Task)) R3 (.nil _ none 0) (.nil _ none 0) (.nil _ none 0) hd
 refine .call call32 r hw94 r r fun v83 I80 hl81 hv82 => ?_
 obtain ⟨r79, p85, c86, p88, c89, p91, c92, rfl, R87, R90, R93, hd⟩ := hv82
 replace R3 := R3.mono hl81
 replace R6 := R6.mono hl81
 replace R9 := R9.mono hl81
 refine .so 4 r r r (.cg r r r r (fun _ => .loadW isAgg78 sizeOf78 r .z r r r .mk) (.cg r r r r (fun _ => .loadW isAgg78 sizeOf78 r (.s .z) r r r .mk) trivial)) (.ww r fun ex => ?_)
 have hw110 := W_law13_Task_Matrix (I := I80) (a0 := ({ Ring := a0.Ring, Size := (r61, r65), L := a0.B, X := ([] : List Item), Y := ([] : List Item), F := ([] : List Int), Others := false } : Law13_Task)) R6 (.nil _ none 0) (.nil _ none 0) (.nil _ none 0) hd
 refine .call call32 r hw110 r r fun v99 I96 hl97 hv98 => ?_
 obtain ⟨r95, p101, c102, p104, c105, p107, c108, rfl, R103, R106, R109, hd⟩ := hv98
 have le111 := IH.le.trans hl81 hl97
 replace R3 := R3.mono hl97
 replace R6 := R6.mono hl97
 replace R9 := R9.mono hl97
 replace R87 := R87.mono hl97
 replace R90 := R90.mono hl97
 replace R93 := R93.mono hl97
 refine .so 4 r r r (.cg r r r r (fun _ => .loadW isAgg78 sizeOf78 r .z r r r .mk) trivial) (.ww r fun ex => ?_)
 have hw127 := W_law13_Task_Matrix (I := I96) (a0 := ({ Ring := a0.Ring, Size := (r57, r65), L := a0.M, X := ([] : List Item), Y := ([] : List Item), F := ([] : List Int), Others := false } : Law13_Task)) R9 (.nil _ none 0) (.nil _ none 0) (.nil _ none 0) hd
 refine .call call32 r hw127 r r fun v116 I113 hl114 hv115 => ?_
 obtain ⟨r112, p118, c119, p121, c122, p124, c125, rfl, R120, R123, R126, hd⟩ := hv115
 have le128 := IH.le.trans le111 hl114
 replace R3 := R3.mono hl114
 replace R6 := R6.mono hl114
 replace R9 := R9.mono hl114
 replace R87 := R87.mono hl114
 replace R90 := R90.mono hl114
 replace R93 := R93.mono hl114
 replace R103 := R103.mono hl114
 replace R106 := R106.mono hl114
 replace R109 := R109.mono hl114
 exact .so 4 r r r trivial (.g r r r (fun _ => .buildArr zv31 un31 sz30 (.c r r r (.t (.t (.t (.t (.t .nil))))) (.c r r r (.s (.s (.s (.s (.s (.t (.t (.t (.t (.t .nil)))))))))) (.c r r r (.s (.s (.s (.s (.s (.s (.s (.s (.s (.s (.t (.t (.t (.t (.t .nil))))))))))))))) .n))) r r .mk) (.e2 7 (.storeA sizeOf31 r r (.s (.s (.s .z))) (.t (.t (.t (.t (.t (.t (.t (.t (.t (.t (.t (.t (.t (.t (.t .nil))))))))))))))) r r (.nilS [2] r r (.drop .z (.drop .z (.drop .z (.ret (pret results8 (.w isAgg31 sizeOf31 r .z r .n) le128 ⟨(r79, r95, r112), _, _, _, _, _, _, _, _, _, _, _, _, _, _, _, _, _, _, r, R87, R90, R93, R103, R106, R109, R120, R123, R126, hd⟩)))))))))

theorem W_ref07_Right {I : IH} {a0 : Rows} {p1 : Option Addr} {c2 : Nat} {p4 : Option Addr} {c5 : Nat} {p7 : Option Addr} {c8 : Nat} {Q : Bool → Prop} (R3 : RepSl eI64 I p1 c2 a0.Start) (R6 : RepSl eI64 I p4 c5 a0.Col) (R9 : RepSl eI64 I p7 c8 a0.Val) (hd : ref07_Right a0 Q) :
  PFun prog 83 [.agg #[.int .i64 a0.Rows, .int .i64 a0.Cols, .slice p1 a0.Start.length c2, .slice p4 a0.Col.length c5, .slice p7 a0.Val.length c8]] I (fun _ => o1_ Q) := by
 refine Fun.enter func83 r ntmps83 r (.c .n) fun w0 M => ?_
 refine .sr (.boxA r r r fun b12 => ?_)
 refine .ks 1 r (.nilS [1] r r (.seq (.sr (.fa un30 r sz3 r (o := 0) r r r (.load1 ia3 r .z r r r (.ks 2 r ?_))))))
 refine splitP hd (fun hb21 hd => ?_) fun hb21 hd => ?_
 · rw [hb21]
   exact .ks 38 r (.nilS [46, 1] r r (.condKT r r (.sr (.ks 1 r (.nilS [2] r r (.drop .z (.ret (pret results83 (.t r .n) (.refl _) ⟨false, r, hd⟩))))))))
 rw [hb21]
 refine .gyes r r r (.fa un30 r sz3 r (o := 0) r r r (.gyes r r r (.load1 ia3 r .z r r r (.ks 3 r ?_))))
 refine splitP hd (fun hb22 hd => ?_) fun hb22 hd => ?_
 · rw [hb22]
   exact .ks 33 r (.nilS [46, 1] r r (.condKT r r (.sr (.ks 1 r (.nilS [2] r r (.drop .z (.ret (pret results83 (.t r .n) (.refl _) ⟨false, r, hd⟩))))))))
 rw [hb22]
 refine .gyes r r r (.fa un30 r sz3 r (o := 1) r r r (.gyes r r r (.load1 ia3 r .z r r r (.ks 3 r ?_))))
 refine splitP hd (fun hb23 hd => ?_) fun hb23 hd => ?_
 · rw [hb23]
   exact .ks 28 r (.nilS [46, 1] r r (.condKT r r (.sr (.ks 1 r (.nilS [2] r r (.drop .z (.ret (pret results83 (.t r .n) (.refl _) ⟨false, r, hd⟩))))))))
 rw [hb23]
 refine .gyes r r r (.fa un30 r sz3 r (o := 1) r r r (.gyes r r r (.load1 ia3 r .z r r r (.ks 3 r ?_))))
 refine splitP hd (fun hb24 hd => ?_) fun hb24 hd => ?_
 · rw [hb24]
   exact .ks 23 r (.nilS [46, 1] r r (.condKT r r (.sr (.ks 1 r (.nilS [2] r r (.drop .z (.ret (pret results83 (.t r .n) (.refl _) ⟨false, r, hd⟩))))))))
 rw [hb24]
 refine .gyes r r r (.fa un30 r sz27 r (o := 2) r r r (.gyes r r r (.load1 ia27 r .z r r r (.gyes r r r (.len un27 r r r r (.gyes r r r (.fa un30 r sz3 r (o := 0) r r r (.gyes r r r (.load1 ia3 r .z r r r (.ks 4 r ?_))))))))))
 refine splitP hd (fun hb25 hd => ?_) fun hb25 hd => ?_
 · rw [hb25]
   exact .ks 14 r (.nilS [46, 1] r r (.condKT r r (.sr (.ks 1 r (.nilS [2] r r (.drop .z (.ret (pret results83 (.t r .n) (.refl _) ⟨false, r, hd⟩))))))))
 rw [hb25]
 refine .gyes r r r (.fa un30 r sz27 r (o := 3) r r r (.gyes r r r (.load1 ia27 r .z r r r (.gyes r r r (.len un27 r r r r (.gyes r r r (.fa un30 r sz28 r (o := 4) r r r (.gyes r r r (.load1 ia28 r .z r r r (.gyes r r r (.len un28 r r r r (.ks 3 r ?_))))))))))))
 refine splitP hd (fun hb26 hd => ?_) fun hb26 hd => ?_
 · rw [hb26]
   exact .ks 5 r (.nilS [46, 1] r r (.condKT r r (.sr (.ks 1 r (.nilS [2] r r (.drop .z (.ret (pret results83 (.t r .n) (.refl _) ⟨false, r, hd⟩))))))))
 rw [hb26]
 refine .gyes r r r (.fa un30 r sz27 r (o := 3) r r r (.gyes r r r (.load1 ia27 r .z r r r (.gyes r r r (.len un27 r r r r (.ks 2 r (.nilS [46, 1] r r (.condP r hd (fun hb27 hd => ?_) fun hb27 hd => ?_))))))))
 · exact .sr (.ks 1 r (.nilS [2] r r (.drop .z (.ret (pret results83 (.t r .n) (.refl _) ⟨false, r, hd⟩)))))
 refine .skipS [1] r r (.seq (.seq (.dr [0, 1, 2, 3, 4, 5, 6, 7, 8, 9, 10, 11, 12, 13, 14, 15, 16] 17 (.g r r r (fun _ => .fa un30 r sz27 r (o := 2) r r r .mk) (.g r r r (fun _ => .load1 ia27 r .z r r r .mk) ?_)))))
 obtain ⟨h48, x49, hx50, hd⟩ := hd
 obtain ⟨b51, o52, cs53, e54, hC55, hr56⟩ := R3.2 _ _ hx50
 cases hr56
 refine .g r r r (fun _ => .ixa un27 sz3 r e54 r h48 (idx_lt hx50 h48) r r .mk) (.g r r r (fun _ => .ld1 (j := 0) ia3 hC55 r r r r r .mk) (.fk 2 r ?_))
 refine splitP hd (fun hb57 hd => ?_) fun hb57 hd => ?_
 · rw [hb57]
   exact .fk 11 r (.e2 17 (.nilS [63, 1] r r (.condKT r r (.sr (.ks 1 r (.nilS [2] r r (.drop .z (.ret (pret results83 (.t r .n) (.refl _) ⟨false, r, hd⟩)))))))))
 rw [hb57]
 refine .g r r r (fun _ => .gyes r r r (.fa un30 r sz27 r (o := 2) r r r .mk)) (.g r r r (fun _ => .gyes r r r (.load1 ia27 r .z r r r .mk)) (.g r r r (fun _ => .gyes r r r (.fa un30 r sz3 r (o := 0) r r r .mk)) (.g r r r (fun _ => .gyes r r r (.load1 ia3 r .z r r r .mk)) ?_)))
 obtain ⟨h58, x59, hx60, hd⟩ := hd
 obtain ⟨b61, o62, cs63, e64, hC65, hr66⟩ := R3.2 _ _ hx60
 cases hr66
 refine .g r r r (fun _ => .gyes r r r (.ixa un27 sz3 r e64 r h58 (idx_lt hx60 h58) r r .mk)) (.g r r r (fun _ => .gyes r r r (.ld1 (j := 0) ia3 hC65 r r r r r .mk)) (.g r r r (fun _ => .gyes r r r (.fa un30 r sz27 r (o := 3) r r r .mk)) (.g r r r (fun _ => .gyes r r r (.load1 ia27 r .z r r r .mk)) (.g r r r (fun _ => .gyes r r r (.len un27 r r r r .mk)) (.fk 2 r (.e2 17 (.nilS [63, 1] r r (.condP r hd (fun hb67 hd => ?_) fun hb67 hd => ?_))))))))
 · exact .sr (.ks 1 r (.nilS [2] r r (.drop .z (.ret (pret results83 (.t r .n) (.refl _) ⟨false, r, hd⟩)))))
 refine .skipS [1] r r (.seq (.sr (.ks 1 r (.nilS [3, 1] r r (.block (.loop hd (fun (s695 : Int) c w => ∃ I_, IH.le I I_ ∧ Ok ⟨156, [], none⟩ [(1, .pointer (some ⟨b12, 0, none⟩)), (3, .int .i64 s695)] c ∧ Sym w0 M I I_ [pto b12 (.cells #[.int .i64 a0.Rows, .int .i64 a0.Cols, .slice p1 a0.Start.length c2, .slice p4 a0.Col.length c5, .slice p7 a0.Val.length c8] 30 (0, 0))] w) (fun c w ho hs => ⟨I, (.refl _), ho.sub ⟨r, r, trivial⟩, hs.pick (.c .z .n)⟩) ?_))))))
 rintro s695 next696 hd c w hst
 obtain ⟨I697, hl698, hok, hsym⟩ := hst
 replace R3 := R3.mono hl698
 replace R6 := R6.mono hl698
 replace R9 := R9.mono hl698
 refine Cod.at hok hsym (.seq (.sr (.ks 1 r (.fa un30 r sz3 r (o := 0) r r r (.load1 ia3 r .z r r r (.ks 1 r (.nilS [67, 3, 1] r r (.condP r hd (fun hb700 hd => ?_) fun hb700 hd => ?_))))))))
 · refine .skipS [3, 1] r r (.seq (.block (.seq (.seq (.dr [0, 1, 2, 3, 4, 5, 6, 7, 8, 9, 10, 11, 12, 13, 14, 15, 16, 17, 18, 19, 20, 21, 22, 23, 24, 25, 26, 27, 28, 29, 30, 31] 32 (.g r r r (fun _ => .fa un30 r sz27 r (o := 2) r r r .mk) (.g r r r (fun _ => .load1 ia27 r .z r r r .mk) (.fk 1 r ?_))))))))
   obtain ⟨h740, x741, hx742, hd⟩ := hd
   obtain ⟨b743, o744, cs745, e746, hC747, hr748⟩ := R3.2 _ _ hx742
   cases hr748
   refine .g r r r (fun _ => .ixa un27 sz3 r e746 r h740 (idx_lt hx742 h740) r r .mk) (.g r r r (fun _ => .ld1 (j := 0) ia3 hC747 r r r r r .mk) (.g r r r (fun _ => .fa un30 r sz27 r (o := 2) r r r .mk) (.g r r r (fun _ => .load1 ia27 r .z r r r .mk) (.fk 2 r ?_))))
   obtain ⟨h749, x750, hx751, hd⟩ := hd
   obtain ⟨b752, o753, cs754, e755, hC756, hr757⟩ := R3.2 _ _ hx751
   cases hr757
   refine .g r r r (fun _ => .ixa un27 sz3 r e755 r h749 (idx_lt hx751 h749) r r .mk) (.g r r r (fun _ => .ld1 (j := 0) ia3 hC756 r r r r r .mk) (.fk 2 r ?_))
   refine splitP hd (fun hb758 hd => ?_) fun hb758 hd => ?_
   · rw [hb758]
     exact .fk 19 r (.e2 32 (.nilS [101, 3, 1] r r (.condKT r r (.sr (.ks 1 r (.nilS [2] r r (.drop .z (.ret (pret results83 (.t r .n) hl698 ⟨false, r, hd⟩)))))))))
   rw [hb758]
   refine .g r r r (fun _ => .gyes r r r (.fa un30 r sz27 r (o := 2) r r r .mk)) (.g r r r (fun _ => .gyes r r r (.load1 ia27 r .z r r r .mk)) (.fk 1 r ?_))
   obtain ⟨h759, x760, hx761, hd⟩ := hd
   obtain ⟨b762, o763, cs764, e765, hC766, hr767⟩ := R3.2 _ _ hx761
   cases hr767
   refine .g r r r (fun _ => .gyes r r r (.ixa un27 sz3 r e765 r h759 (idx_lt hx761 h759) r r .mk)) (.g r r r (fun _ => .gyes r r r (.ld1 (j := 0) ia3 hC766 r r r r r .mk)) (.fk 3 r ?_))
   refine splitP hd (fun hb768 hd => ?_) fun hb768 hd => ?_
   · rw [hb768]
     exact .fk 11 r (.e2 32 (.nilS [101, 3, 1] r r (.condKT r r (.sr (.ks 1 r (.nilS [2] r r (.drop .z (.ret (pret results83 (.t r .n) hl698 ⟨false, r, hd⟩)))))))))
   rw [hb768]
   refine .g r r r (fun _ => .gyes r r r (.fa un30 r sz27 r (o := 2) r r r .mk)) (.g r r r (fun _ => .gyes r r r (.load1 ia27 r .z r r r .mk)) (.fk 2 r ?_))
   obtain ⟨h769, x770, hx771, hd⟩ := hd
   obtain ⟨b772, o773, cs774, e775, hC776, hr777⟩ := R3.2 _ _ hx771
   cases hr777
   refine .g r r r (fun _ => .gyes r r r (.ixa un27 sz3 r e775 r h769 (idx_lt hx771 h769) r r .mk)) (.g r r r (fun _ => .gyes r r r (.ld1 (j := 0) ia3 hC776 r r r r r .mk)) (.g r r r (fun _ => .gyes r r r (.fa un30 r sz27 r (o := 3) r r r .mk)) (.g r r r (fun _ => .gyes r r r (.load1 ia27 r .z r r r .mk)) (.g r r r (fun _ => .gyes r r r (.len un27 r r r r .mk)) (.fk 2 r (.e2 32 (.nilS [101, 3, 1] r r (.condP r hd (fun hb778 hd => ?_) fun hb778 hd => ?_))))))))
   · exact .sr (.ks 1 r (.nilS [2] r r (.drop .z (.ret (pret results83 (.t r .n) hl698 ⟨false, r, hd⟩)))))
   refine .skipS [3, 1] r r (.sr (.fa un30 r sz27 r (o := 2) r r r (.load1 ia27 r .z r r r (.ks 1 r ?_))))
   obtain ⟨h788, x789, hx790, hd⟩ := hd
   obtain ⟨b791, o792, cs793, e794, hC795, hr796⟩ := R3.2 _ _ hx790
   cases hr796
   refine .ixa un27 sz3 r e794 r h788 (idx_lt hx790 h788) r r (.ld1 (j := 0) ia3 hC795 r r r r r (.ks 1 r (.nilS [4, 3, 1] r r (.block (.loop hd (fun (s938 : Int) c w => ∃ I_, IH.le I697 I_ ∧ Ok ⟨156, [], none⟩ [(1, .pointer (some ⟨b12, 0, none⟩)), (3, .int .i64 s695), (4, .int .i64 s938)] c ∧ Sym w0 M I I_ [pto b12 (.cells #[.int .i64 a0.Rows, .int .i64 a0.Cols, .slice p1 a0.Start.length c2, .slice p4 a0.Col.length c5, .slice p7 a0.Val.length c8] 30 (0, 0))] w) (fun c w ho hs => ⟨I697, (.refl _), ho.sub ⟨r, r, r, trivial⟩, hs.pick (.c .z .n)⟩) ?_)))))
   rintro s938 next939 hd c w hst
   obtain ⟨I940, hl941, hok, hsym⟩ := hst
   have le942 := IH.le.trans hl698 hl941
   replace R3 := R3.mono hl941
   replace R6 := R6.mono hl941
   replace R9 := R9.mono hl941
   refine Cod.at hok hsym (.seq (.sr (.ks 1 r (.fa un30 r sz27 r (o := 2) r r r (.load1 ia27 r .z r r r (.ks 2 r ?_))))))
   obtain ⟨h953, x954, hx955, hd⟩ := hd
   obtain ⟨b956, o957, cs958, e959, hC960, hr961⟩ := R3.2 _ _ hx955
   cases hr961
   refine .ixa un27 sz3 r e959 r h953 (idx_lt hx955 h953) r r (.ld1 (j := 0) ia3 hC960 r r r r r (.ks 1 r (.nilS [114, 4, 3, 1] r r (.condP r hd (fun hb962 hd => ?_) fun hb962 hd => ?_))))
   · refine .skipS [4, 3, 1] r r (.seq (.block (.seq (.dr [0, 1, 2, 3, 4, 5, 6, 7, 8, 9, 10, 11, 12, 13, 14, 15, 16, 17, 18, 19, 20, 21, 22, 23, 24, 25, 26, 27, 28, 29, 30, 31, 32, 33, 34, 35, 36, 37, 38] 39 (.g r r r (fun _ => .fa un30 r sz27 r (o := 3) r r r .mk) (.g r r r (fun _ => .load1 ia27 r .z r r r .mk) (.fk 1 r ?_)))))))
     obtain ⟨h963, x964, hx965, hd⟩ := hd
     obtain ⟨b966, o967, cs968, e969, hC970, hr971⟩ := R6.2 _ _ hx965
     cases hr971
     refine .g r r r (fun _ => .ixa un27 sz3 r e969 r h963 (idx_lt hx965 h963) r r .mk) (.g r r r (fun _ => .ld1 (j := 0) ia3 hC970 r r r r r .mk) (.fk 2 r ?_))
     refine splitP hd (fun hb972 hd => ?_) fun hb972 hd => ?_
     · rw [hb972]
       exact .fk 32 r (.e2 39 (.nilS [155, 4, 3, 1] r r (.condKT r r (.sr (.ks 1 r (.nilS [2] r r (.drop .z (.ret (pret results83 (.t r .n) le942 ⟨false, r, hd⟩)))))))))
     rw [hb972]
     refine .g r r r (fun _ => .gyes r r r (.fa un30 r sz27 r (o := 3) r r r .mk)) (.g r r r (fun _ => .gyes r r r (.load1 ia27 r .z r r r .mk)) (.fk 1 r ?_))
     obtain ⟨h973, x974, hx975, hd⟩ := hd
     obtain ⟨b976, o977, cs978, e979, hC980, hr981⟩ := R6.2 _ _ hx975
     cases hr981
     refine .g r r r (fun _ => .gyes r r r (.ixa un27 sz3 r e979 r h973 (idx_lt hx975 h973) r r .mk)) (.g r r r (fun _ => .gyes r r r (.ld1 (j := 0) ia3 hC980 r r r r r .mk)) (.g r r r (fun _ => .gyes r r r (.fa un30 r sz3 r (o := 1) r r r .mk)) (.g r r r (fun _ => .gyes r r r (.load1 ia3 r .z r r r .mk)) (.fk 3 r ?_))))
     refine splitP hd (fun hb982 hd => ?_) fun hb982 hd => ?_
     · rw [hb982]
       exact .fk 22 r (.e2 39 (.nilS [155, 4, 3, 1] r r (.condKT r r (.sr (.ks 1 r (.nilS [2] r r (.drop .z (.ret (pret results83 (.t r .n) le942 ⟨false, r, hd⟩)))))))))
     rw [hb982]
     refine .fk 1 r (.g r r r (fun _ => .gyes r r r (.fa un30 r sz27 r (o := 2) r r r .mk)) (.g r r r (fun _ => .gyes r r r (.load1 ia27 r .z r r r .mk)) (.fk 1 r ?_)))
     obtain ⟨h983, x984, hx985, hd⟩ := hd
     obtain ⟨b986, o987, cs988, e989, hC990, hr991⟩ := R3.2 _ _ hx985
     cases hr991
     refine .g r r r (fun _ => .gyes r r r (.ixa un27 sz3 r e989 r h983 (idx_lt hx985 h983) r r .mk)) (.g r r r (fun _ => .gyes r r r (.ld1 (j := 0) ia3 hC990 r r r r r .mk)) (.fk 2 r ?_))
     refine splitP hd (fun hb992 hd => ?_) fun hb992 hd => ?_
     · rw [hb992]
       refine .g r r r (fun _ => .gyes r r r (.fa un30 r sz27 r (o := 3) r r r .mk)) (.g r r r (fun _ => .gyes r r r (.load1 ia27 r .z r r r .mk)) (.fk 1 r ?_))
       obtain ⟨h993, x994, hx995, hd⟩ := hd
       obtain ⟨b996, o997, cs998, e999, hC1000, hr1001⟩ := R6.2 _ _ hx995
       cases hr1001
       refine .g r r r (fun _ => .gyes r r r (.ixa un27 sz3 r e999 r h993 (idx_lt hx995 h993) r r .mk)) (.g r r r (fun _ => .gyes r r r (.ld1 (j := 0) ia3 hC1000 r r r r r .mk)) (.g r r r (fun _ => .gyes r r r (.fa un30 r sz27 r (o := 3) r r r .mk)) (.g r r r (fun _ => .gyes r r r (.load1 ia27 r .z r r r .mk)) (.fk 2 r ?_))))
       obtain ⟨h1002, x1003, hx1004, hd⟩ := hd
       obtain ⟨b1005, o1006, cs1007, e1008, hC1009, hr1010⟩ := R6.2 _ _ hx1004
       cases hr1010
       refine .g r r r (fun _ => .gyes r r r (.ixa un27 sz3 r e1008 r h1002 (idx_lt hx1004 h1002) r r .mk)) (.g r r r (fun _ => .gyes r r r (.ld1 (j := 0) ia3 hC1009 r r r r r .mk)) (.fk 3 r (.e2 39 (.nilS [155, 4, 3, 1] r r (.condP r hd (fun hb1011 hd => ?_) fun hb1011 hd => ?_)))))
       · exact .sr (.ks 1 r (.nilS [2] r r (.drop .z (.ret (pret results83 (.t r .n) le942 ⟨false, r, hd⟩)))))
       exact .skipS [4, 3, 1] r r (.region (.ks 3 r (.nil' fun c w ho hs => ⟨(w64 (s938 + 1)), hd, I940, hl941, ho.sub ⟨r, r, r, trivial⟩, hs.pick (.c .z .n)⟩)))
     rw [hb992]
     exact .fk 14 r (.e2 39 (.nilS [155, 4, 3, 1] r r (.condKF r r (.skipS [4, 3, 1] r r (.region (.ks 3 r (.nil' fun c w ho hs => ⟨(w64 (s938 + 1)), hd, I940, hl941, ho.sub ⟨r, r, r, trivial⟩, hs.pick (.c .z .n)⟩)))))))
   exact .exitS [3, 1] r r (.region (.ks 3 r (.nil' fun c w ho hs => ⟨(w64 (s695 + 1)), hd, I940, le942, ho.sub ⟨r, r, trivial⟩, hs.pick (.c .z .n)⟩)))
 exact .exitS [] r r (.drop .z (.sr (.ks 1 r (.nilS [2] r r (.ret (pret results83 (.t r .n) hl698 ⟨true, r, hd⟩))))))

theorem W_ref07_Sure {I : IH} {a0 : Rows} {p1 : Option Addr} {c2 : Nat} {p4 : Option Addr} {c5 : Nat} {p7 : Option Addr} {c8 : Nat} {Q : Rows → Prop} (R3 : RepSl eI64 I p1 c2 a0.Start) (R6 : RepSl eI64 I p4 c5 a0.Col) (R9 : RepSl eI64 I p7 c8 a0.Val) (hd : ref07_Sure a0 Q) :
  PFun prog 37 [.agg #[.int .i64 a0.Rows, .int .i64 a0.Cols, .slice p1 a0.Start.length c2, .slice p4 a0.Col.length c5, .slice p7 a0.Val.length c8]] I (o7_ Q) := by
 refine Fun.enter func37 r ntmps37 r (.c .n) fun w0 M => ?_
 refine .sr (.boxA r r r fun b23 => ?_)
 refine .allocA zv30 r r fun b25 => ?_
 refine .nilS [2, 1] r r (.seq (.sr (.loadW ia30 sz30 r (.s .z) r r r ?_)))
 have hw28 := W_ref07_Right (I := I) R3 R6 R9 hd
 refine .callP call83 r hw28 r r fun v29 hv30 => ?_
 obtain ⟨r27, rfl, hd⟩ := hv30
 refine .nilS [4, 2, 1] r r (.condP r hd (fun hb31 hd => ?_) fun hb31 hd => ?_)
 · exact .sr (.loadW ia30 sz30 r (.s .z) r r r (.storeA sz30 r r .z (.t (.t (.t (.t (.t .nil))))) r r (.nilS [2] r r (.drop (.s .z) (.ret (pret results37 (.w ia30 sz30 r .z r .n) (.refl _) ⟨a0, _, _, _, _, _, _, r, R3, R6, R9, hd⟩))))))
 refine .skipS [2] r r (.drop (.s .z) (.sr ?_))
 have hw50 := W_ref07_Empty (I := I) hd
 refine .callO call84 r hw50 r r fun v36 I33 l37 hl34 hv35 => ?_
 obtain ⟨r32, p38, c39, p41, c42, p44, c45, rfl, rfl, hd⟩ := hv35
 refine .storeA sz30 r r (.s (.s (.s .z))) (.t (.t (.t (.t (.t .nil))))) r r (.nilS [2] r r (.pub .z fun I51 hl52 R53 => ?_))
 have le54 := IH.le.trans hl34 hl52
 refine .pub .z fun I55 hl56 R57 => ?_
 have le58 := IH.le.trans le54 hl56
 replace R53 := R53.mono hl56
 refine .pub .z fun I59 hl60 R61 => ?_
 have le62 := IH.le.trans le58 hl60
 replace R53 := R53.mono hl60
 replace R57 := R57.mono hl60
 exact .ret (pret results37 (.w ia30 sz30 r .z r .n) le62 ⟨r32, _, _, _, _, _, _, r, R53, R57, R61, hd⟩)

theorem W_ref07_Triples {I : IH} {a0 : Rows} {p1 : Option Addr} {c2 : Nat} {p4 : Option Addr} {c5 : Nat} {p7 : Option Addr} {c8 : Nat} {Q : (List Triple) → Prop} (R3 : RepSl eI64 I p1 c2 a0.Start) (R6 : RepSl eI64 I p4 c5 a0.Col) (R9 : RepSl eI64 I p7 c8 a0.Val) (hd : ref07_Triples a0 Q) :
  PFun prog 39 [.agg #[.int .i64 a0.Rows, .int .i64 a0.Cols, .slice p1 a0.Start.length c2, .slice p4 a0.Col.length c5, .slice p7 a0.Val.length c8]] I (fun I_ v => ∃ r p10 c11, v = .slice p10 r.length c11 ∧ RepSl eTriple I_ p10 c11 r ∧ Q r) := by
 refine Fun.enter func39 r ntmps39 r (.c .n) fun w0 M => ?_
 refine .sr (.boxA r r r fun b15 => ?_)
 refine .ks 1 r (.nilS [1] r r (.sr (.loadW ia30 sz30 r .z r r r ?_)))
 have hw48 := W_ref07_Sure (I := I) R3 R6 R9 hd
 refine .call call37 r hw48 r r fun v37 I34 hl35 hv36 => ?_
 obtain ⟨r33, p39, c40, p42, c43, p45, c46, rfl, R41, R44, R47, hd⟩ := hv36
 replace R3 := R3.mono hl35
 replace R6 := R6.mono hl35
 replace R9 := R9.mono hl35
 refine .storeA sz30 r r .z (.t (.t (.t (.t (.t .nil))))) r r (.nilS [1] r r (.sr (.ks 1 r (.nilS [3, 1] r r (.seq (.sr (.ks 1 r (.nilS [4, 3, 1] r r (.block ?_)))))))))
 refine .own0 eTriple 91 (.loop hd (fun (s : (List Triple) × Int) c w => match s with | (s423, s427) => ∃ I_ p424 c425, IH.le I34 I_ ∧ Ok ⟨45, [], none⟩ [(1, .pointer (some ⟨b15, 0, none⟩)), (3, .slice p424 s423.length c425), (4, .int .i64 s427)] c ∧ Sym w0 M I I_ [pto b15 (.cells #[.int .i64 r33.Rows, .int .i64 r33.Cols, .slice p39 r33.Start.length c40, .slice p42 r33.Col.length c43, .slice p45 r33.Val.length c46] 30 (0, 0)), OwnSl eTriple 91 p424 c425 s423] w) (fun c w ho hs => ⟨I34, _, _, (.refl _), ho.sub ⟨r, r, r, trivial⟩, hs.pick (.c (.s .z) (.c .z .n))⟩) ?_)
 rintro ⟨s423, s427⟩ next429 hd c w hst
 obtain ⟨I430, p424, c425, hl431, hok, hsym⟩ := hst
 have le432 := IH.le.trans hl35 hl431
 replace R41 := R41.mono hl431
 replace R44 := R44.mono hl431
 replace R47 := R47.mono hl431
 refine Cod.at hok hsym (.seq (.sr (.ks 1 r (.fa un30 r sz3 r (o := 0) r r r (.load1 ia3 r .z r r r (.ks 1 r (.nilS [11, 4, 3, 1] r r (.condP r hd (fun hb434 hd => ?_) fun hb434 hd => ?_))))))))
 · refine .skipS [4, 3, 1] r r (.seq (.block (.sr (.fa un30 r sz27 r (o := 2) r r r (.load1 ia27 r .z r r r (.ks 1 r ?_))))))
   obtain ⟨h444, x445, hx446, hd⟩ := hd
   obtain ⟨b447, o448, cs449, e450, hC451, hr452⟩ := R41.2 _ _ hx446
   cases hr452
   refine .ixa un27 sz3 r e450 r h444 (idx_lt hx446 h444) r r (.ld1 (j := 0) ia3 hC451 r r r r r (.ks 1 r (.nilS [5, 4, 3, 1] r r (.block (.loop hd (fun (s : (List Triple) × Int) c w => match s with | (s558, s562) => ∃ I_ p559 c560, IH.le I430 I_ ∧ Ok ⟨45, [], none⟩ [(1, .pointer (some ⟨b15, 0, none⟩)), (3, .slice p559 s558.length c560), (4, .int .i64 s427), (5, .int .i64 s562)] c ∧ Sym w0 M I I_ [pto b15 (.cells #[.int .i64 r33.Rows, .int .i64 r33.Cols, .slice p39 r33.Start.length c40, .slice p42 r33.Col.length c43, .slice p45 r33.Val.length c46] 30 (0, 0)), OwnSl eTriple 91 p559 c560 s558] w) (fun c w ho hs => ⟨I430, _, _, (.refl _), ho.sub ⟨r, r, r, r, trivial⟩, hs.pick (.c .z (.c .z .n))⟩) ?_)))))
   rintro ⟨s558, s562⟩ next563 hd c w hst
   obtain ⟨I564, p559, c560, hl565, hok, hsym⟩ := hst
   have le566 := IH.le.trans le432 hl565
   have le567 := IH.le.trans hl431 hl565
   replace R41 := R41.mono hl565
   replace R44 := R44.mono hl565
   replace R47 := R47.mono hl565
   refine Cod.at hok hsym (.seq (.sr (.ks 1 r (.fa un30 r sz27 r (o := 2) r r r (.load1 ia27 r .z r r r (.ks 2 r ?_))))))
   obtain ⟨h578, x579, hx580, hd⟩ := hd
   obtain ⟨b581, o582, cs583, e584, hC585, hr586⟩ := R41.2 _ _ hx580
   cases hr586
   refine .ixa un27 sz3 r e584 r h578 (idx_lt hx580 h578) r r (.ld1 (j := 0) ia3 hC585 r r r r r (.ks 1 r (.nilS [26, 5, 4, 3, 1] r r (.condP r hd (fun hb587 hd => ?_) fun hb587 hd => ?_))))
   · refine .skipS [5, 4, 3, 1] r r (.seq (.block (.ownF (.s .z) fun hne588 => ?_)))
     refine .dr [0, 1, 2, 3, 4, 5, 6, 7, 8, 9, 10, 11, 12, 13, 14] 15 (.fk 2 r (.g r r r (fun _ => .fa un30 r sz27 r (o := 3) r r r .mk) (.g r r r (fun _ => .load1 ia27 r .z r r r .mk) (.fk 1 r ?_))))
     obtain ⟨h589, x590, hx591, hd⟩ := hd
     obtain ⟨b592, o593, cs594, e595, hC596, hr597⟩ := R44.2 _ _ hx591
     cases hr597
     refine .g r r r (fun _ => .ixa un27 sz3 r e595 r h589 (idx_lt hx591 h589) r r .mk) (.g r r r (fun _ => .ld1 (j := 0) ia3 hC596 r r r r r .mk) (.g r r r (fun _ => .fa un30 r sz28 r (o := 4) r r r .mk) (.g r r r (fun _ => .load1 ia28 r .z r r r .mk) (.fk 1 r ?_))))
     obtain ⟨h598, x599, hx600, hd⟩ := hd
     obtain ⟨b601, o602, cs603, e604, hC605, hr606⟩ := R47.2 _ _ hx600
     cases hr606
     refine .g r r r (fun _ => .ixa un28 sz2 r e604 r h598 (idx_lt hx600 h598) r r .mk) (.g r r r (fun _ => .ld1 (j := 0) ia2 hC605 r r r r r .mk) (.g r r r (fun _ => .build zv91 un91 BI91 (.c r r r (.t .nil) (.c r r r (.s (.t .nil)) (.c r r r (.s (.s (.t .nil))) .n))) (by exact ⟨⟨_, _, r, r, r⟩, ⟨⟨_, _, r, r, r⟩, ⟨⟨_, _, r, r, r⟩, trivial⟩⟩⟩) r r .mk) (.ww r fun ex => ?_)))
     refine .buildSlice 1 un24 sz91 zv91 r r (.c r r r .n) r r fun b607 => ?_
     refine .so 3 r r r (.ck 1 r r trivial) (.ww r fun ex => ?_)
     obtain ⟨hl609, hd⟩ := hd
     refine .append (ys := [({ Row := s427, Col := x590, Val := x599 } : Triple)]) 24 (.s (.s .z)) un24 un24 IN91 r r r r r r r r r (.box .z (.one r) r) hl609 r r fun p610 c611 => ?_
     exact .so 3 r r r trivial (.e2 15 (.ks 1 r (.nilS [3, 5, 4, 1] r r (.drop (.s .z) (.region (.ks 3 r (.nil' fun c w ho hs => ⟨((s558 ++ ([({ Row := s427, Col := x590, Val := x599 } : Triple)])), w64 (s562 + 1)), hd, I564, _, _, hl565, ho.sub ⟨r, r, r, r, trivial⟩, hs.pick (.c (.s .z) (.c .z .n))⟩)))))))
   exact .exitS [4, 3, 1] r r (.region (.ks 3 r (.nil' fun c w ho hs => ⟨(s558, w64 (s427 + 1)), hd, I564, _, _, le567, ho.sub ⟨r, r, r, trivial⟩, hs.pick (.c .z (.c .z .n))⟩)))
 refine .exitS [3] r r (.drop .z (.sr (.ks 2 r (.nilS [2] r r (.pub .z fun I613 hl614 R615 => ?_)))))
 have le616 := IH.le.trans le432 hl614
 have le617 := IH.le.trans hl431 hl614
 exact .ret (pret results39 (.t r .n) le616 ⟨s423, _, _, r, R615, hd⟩)

theorem W_ref07_Row {I : IH} {a0 : Rows} {a1 : Int} {p1 : Option Addr} {c2 : Nat} {p4 : Option Addr} {c5 : Nat} {p7 : Option Addr} {c8 : Nat} {Q : (List Item) → Prop} (R3 : RepSl eI64 I p1 c2 a0.Start) (R6 : RepSl eI64 I p4 c5 a0.Col) (R9 : RepSl eI64 I p7 c8 a0.Val) (hd : ref07_Row a0 a1 Q) :
  PFun prog 26 [.agg #[.int .i64 a0.Rows, .int .i64 a0.Cols, .slice p1 a0.Start.length c2, .slice p4 a0.Col.length c5, .slice p7 a0.Val.length c8], .int .i64 a1] I (o10_ Q) := by
 refine Fun.enter func26 r ntmps26 r (.c (.c .n)) fun w0 M => ?_
 refine .sr (.boxA r r r fun b15 => ?_)
 refine .ks 1 r (.nilS [2, 1] r r (.sr (.loadW ia30 sz30 r .z r r r ?_)))
 have hw48 := W_ref07_Sure (I := I) R3 R6 R9 hd
 refine .call call37 r hw48 r r fun v37 I34 hl35 hv36 => ?_
 obtain ⟨r33, p39, c40, p42, c43, p45, c46, rfl, R41, R44, R47, hd⟩ := hv36
 replace R3 := R3.mono hl35
 replace R6 := R6.mono hl35
 replace R9 := R9.mono hl35
 refine .storeA sz30 r r .z (.t (.t (.t (.t (.t .nil))))) r r (.nilS [2, 1] r r (.sr (.ks 1 r (.nilS [5, 2, 1] r r (.seq (.sr (.ks 3 r ?_)))))))
 refine splitP hd (fun hb51 hd => ?_) fun hb51 hd => ?_
 · rw [hb51]
   exact .ks 5 r (.nilS [16, 5, 2, 1] r r (.condKT r r (.sr (.ks 2 r (.nilS [4] r r (.drop .z (.ret (pret results26 (.t r .n) hl35 ⟨([] : List Item), _, _, r, (.nil _ _ _), hd⟩))))))))
 rw [hb51]
 refine .ks 1 r (.gyes r r r (.fa un30 r sz3 r (o := 0) r r r (.gyes r r r (.load1 ia3 r .z r r r (.ks 2 r (.nilS [16, 5, 2, 1] r r (.condP r hd (fun hb52 hd => ?_) fun hb52 hd => ?_)))))))
 · exact .sr (.ks 2 r (.nilS [4] r r (.drop .z (.ret (pret results26 (.t r .n) hl35 ⟨([] : List Item), _, _, r, (.nil _ _ _), hd⟩)))))
 refine .skipS [5, 2, 1] r r (.seq (.sr (.fa un30 r sz27 r (o := 2) r r r (.load1 ia27 r .z r r r (.ks 1 r ?_)))))
 obtain ⟨h62, x63, hx64, hd⟩ := hd
 obtain ⟨b65, o66, cs67, e68, hC69, hr70⟩ := R41.2 _ _ hx64
 cases hr70
 refine .ixa un27 sz3 r e68 r h62 (idx_lt hx64 h62) r r (.ld1 (j := 0) ia3 hC69 r r r r r (.ks 1 r (.nilS [6, 5, 2, 1] r r (.block (.own0 eItem 115 (.loop hd (fun (s : (List Item) × Int) c w => match s with | (s176, s180) => ∃ I_ p177 c178, IH.le I34 I_ ∧ Ok ⟨48, [], none⟩ [(1, .int .i64 a1), (2, .pointer (some ⟨b15, 0, none⟩)), (5, .slice p177 s176.length c178), (6, .int .i64 s180)] c ∧ Sym w0 M I I_ [pto b15 (.cells #[.int .i64 r33.Rows, .int .i64 r33.Cols, .slice p39 r33.Start.length c40, .slice p42 r33.Col.length c43, .slice p45 r33.Val.length c46] 30 (0, 0)), OwnSl eItem 115 p177 c178 s176] w) (fun c w ho hs => ⟨I34, _, _, (.refl _), ho.sub ⟨r, r, r, r, trivial⟩, hs.pick (.c (.s .z) (.c .z .n))⟩) ?_))))))
 rintro ⟨s176, s180⟩ next182 hd c w hst
 obtain ⟨I183, p177, c178, hl184, hok, hsym⟩ := hst
 have le185 := IH.le.trans hl35 hl184
 replace R41 := R41.mono hl184
 replace R44 := R44.mono hl184
 replace R47 := R47.mono hl184
 refine Cod.at hok hsym (.seq (.sr (.ks 1 r (.fa un30 r sz27 r (o := 2) r r r (.load1 ia27 r .z r r r (.ks 2 r ?_))))))
 obtain ⟨h196, x197, hx198, hd⟩ := hd
 obtain ⟨b199, o200, cs201, e202, hC203, hr204⟩ := R41.2 _ _ hx198
 cases hr204
 refine .ixa un27 sz3 r e202 r h196 (idx_lt hx198 h196) r r (.ld1 (j := 0) ia3 hC203 r r r r r (.ks 1 r (.nilS [30, 6, 5, 2, 1] r r (.condP r hd (fun hb205 hd => ?_) fun hb205 hd => ?_))))
 · refine .skipS [6, 5, 2, 1] r r (.seq (.block (.ownF (.s .z) fun hne206 => ?_)))
   refine .dr [0, 1, 2, 3, 4, 5, 6, 7, 8, 9, 10, 11, 12, 13] 14 (.fk 1 r (.g r r r (fun _ => .fa un30 r sz27 r (o := 3) r r r .mk) (.g r r r (fun _ => .load1 ia27 r .z r r r .mk) (.fk 1 r ?_))))
   obtain ⟨h207, x208, hx209, hd⟩ := hd
   obtain ⟨b210, o211, cs212, e213, hC214, hr215⟩ := R44.2 _ _ hx209
   cases hr215
   refine .g r r r (fun _ => .ixa un27 sz3 r e213 r h207 (idx_lt hx209 h207) r r .mk) (.g r r r (fun _ => .ld1 (j := 0) ia3 hC214 r r r r r .mk) (.g r r r (fun _ => .fa un30 r sz28 r (o := 4) r r r .mk) (.g r r r (fun _ => .load1 ia28 r .z r r r .mk) (.fk 1 r ?_))))
   obtain ⟨h216, x217, hx218, hd⟩ := hd
   obtain ⟨b219, o220, cs221, e222, hC223, hr224⟩ := R47.2 _ _ hx218
   cases hr224
   refine .g r r r (fun _ => .ixa un28 sz2 r e222 r h216 (idx_lt hx218 h216) r r .mk) (.g r r r (fun _ => .ld1 (j := 0) ia2 hC223 r r r r r .mk) (.g r r r (fun _ => .build zeroValue115 un115 BI115 (.c r r r (.t .nil) (.c r r r (.s (.t .nil)) .n)) (by exact ⟨⟨_, _, r, r, r⟩, ⟨⟨_, _, r, r, r⟩, trivial⟩⟩) r r .mk) (.ww r fun ex => ?_)))
   refine .buildSlice 1 un61 sz115 zeroValue115 r r (.c r r r .n) r r fun b225 => ?_
   refine .so 3 r r r (.ck 1 r r trivial) (.ww r fun ex => ?_)
   obtain ⟨hl227, hd⟩ := hd
   refine .append (ys := [({ At := x208, Val := x217 } : Item)]) 16 (.s (.s .z)) un61 un61 IN115 r r r r r r r r r (.box .z (.one r) r) hl227 r r fun p228 c229 => ?_
   exact .so 3 r r r trivial (.e2 14 (.ks 1 r (.nilS [5, 6, 2, 1] r r (.drop (.s .z) (.region (.ks 3 r (.nil' fun c w ho hs => ⟨((s176 ++ ([({ At := x208, Val := x217 } : Item)])), w64 (s180 + 1)), hd, I183, _, _, hl184, ho.sub ⟨r, r, r, r, trivial⟩, hs.pick (.c (.s .z) (.c .z .n))⟩)))))))
 refine .exitS [5] r r (.drop .z (.sr (.ks 2 r (.nilS [4] r r (.pub .z fun I231 hl232 R233 => ?_)))))
 have le234 := IH.le.trans le185 hl232
 have le235 := IH.le.trans hl184 hl232
 exact .ret (pret results26 (.t r .n) le234 ⟨s176, _, _, r, R233, hd⟩)

theorem W_law15_full {I : IH} {a0 : Int} {a1 : Int} {Q : Rows → Prop}  (hd : law15_full a0 a1 Q) :
  PFun prog 25 [.int .i64 a0, .int .i64 a1] I (fun I_ v => ∃ r p1 c2 p4 c5 p7 c8, v = .agg #[.int .i64 r.Rows, .int .i64 r.Cols, .slice p1 r.Start.length c2, .slice p4 r.Col.length c5, .slice p7 r.Val.length c8] ∧ RepSl eI64 I_ p1 c2 r.Start ∧ RepSl eI64 I_ p4 c5 r.Col ∧ RepSl eI64 I_ p7 c8 r.Val ∧ Q r) := by
 refine Fun.enter func25 r ntmps25 r (.c (.c .n)) fun w0 M => ?_
 refine .sr (.allocA zv30 r r fun b12 => ?_)
 refine .nilS [4, 1, 0] r r (.sr (.ks 1 r (.nilS [5, 4, 1, 0] r r (.seq (.sr (.ks 1 r (.nilS [6, 5, 4, 1, 0] r r (.block (.own0 eTriple 91 ?_)))))))))
 refine .loop hd (fun (s : (List Triple) × Int) c w => match s with | (s303, s307) => ∃ I_ p304 c305, IH.le I I_ ∧ Ok ⟨34, [], none⟩ [(0, .int .i64 a0), (1, .int .i64 a1), (4, .pointer (some ⟨b12, 0, none⟩)), (5, .slice p304 s303.length c305), (6, .int .i64 s307)] c ∧ Sym w0 M I I_ [pto b12 (.cells #[.int .i64 0, .int .i64 0, .slice none 0 0, .slice none 0 0, .slice none 0 0] 30 (0, 0)), OwnSl eTriple 91 p304 c305 s303] w) (fun c w ho hs => ⟨I, _, _, (.refl _), ho.sub ⟨r, r, r, r, r, trivial⟩, hs.pick (.c (.s .z) (.c .z .n))⟩) ?_
 rintro ⟨s303, s307⟩ next309 hd c w hst
 obtain ⟨I310, p304, c305, hl311, hok, hsym⟩ := hst
 refine Cod.at hok hsym (.seq (.sr (.ks 3 r (.nilS [12, 6, 5, 4, 1, 0] r r (.condP r hd (fun hb313 hd => ?_) fun hb313 hd => ?_)))))
 · refine .skipS [6, 5, 4, 1, 0] r r (.seq (.block (.sr (.ks 1 r (.nilS [7, 6, 5, 4, 1, 0] r r (.block (.loop hd (fun (s : (List Triple) × Int) c w => match s with | (s345, s349) => ∃ I_ p346 c347, IH.le I310 I_ ∧ Ok ⟨34, [], none⟩ [(0, .int .i64 a0), (1, .int .i64 a1), (4, .pointer (some ⟨b12, 0, none⟩)), (5, .slice p346 s345.length c347), (6, .int .i64 s307), (7, .int .i64 s349)] c ∧ Sym w0 M I I_ [pto b12 (.cells #[.int .i64 0, .int .i64 0, .slice none 0 0, .slice none 0 0, .slice none 0 0] 30 (0, 0)), OwnSl eTriple 91 p346 c347 s345] w) (fun c w ho hs => ⟨I310, _, _, (.refl _), ho.sub ⟨r, r, r, r, r, r, trivial⟩, hs.pick (.c .z (.c .z .n))⟩) ?_)))))))
   rintro ⟨s345, s349⟩ next350 hd c w hst
   obtain ⟨I351, p346, c347, hl352, hok, hsym⟩ := hst
   have le353 := IH.le.trans hl311 hl352
   refine Cod.at hok hsym (.seq (.sr (.ks 3 r (.nilS [17, 7, 6, 5, 4, 1, 0] r r (.condP r hd (fun hb355 hd => ?_) fun hb355 hd => ?_)))))
   · refine .skipS [7, 6, 5, 4, 1, 0] r r (.seq (.block (.region (.ks 3 r (.build zv91 un91 BI91 (.c r r r (.t .nil) (.c r r r (.s (.t .nil)) (.c r r r (.s (.s (.t .nil))) .n))) (by exact ⟨⟨_, _, r, r, r⟩, ⟨⟨_, _, r, r, r⟩, ⟨⟨_, _, r, r, r⟩, trivial⟩⟩⟩) r r (.buildSlice 1 un24 sz91 zv91 r r (.c r r r .n) r r fun b356 => ?_))))))
     obtain ⟨hl358, hd⟩ := hd
     refine .append (ys := [({ Row := s307, Col := s349, Val := 1 } : Triple)]) 24 (.s (.s .z)) un24 un24 IN91 r r r r r r r r r (.box .z (.one r) r) hl358 r r fun p359 c360 => ?_
     exact .ks 1 r (.nilS [5, 7, 6, 4, 1, 0] r r (.drop (.s .z) (.region (.ks 3 r (.nil' fun c w ho hs => ⟨((s345 ++ ([({ Row := s307, Col := s349, Val := 1 } : Triple)])), w64 (s349 + 1)), hd, I351, _, _, hl352, ho.sub ⟨r, r, r, r, r, r, trivial⟩, hs.pick (.c (.s .z) (.c .z .n))⟩)))))
   exact .exitS [6, 5, 4, 1, 0] r r (.region (.ks 3 r (.nil' fun c w ho hs => ⟨(s345, w64 (s307 + 1)), hd, I351, _, _, le353, ho.sub ⟨r, r, r, r, r, trivial⟩, hs.pick (.c .z (.c .z .n))⟩)))
 refine .exitS [5, 4, 1, 0] r r (.sr (.ks 3 r (.pub (.s .z) fun I362 hl363 R364 => ?_)))
 have le365 := IH.le.trans hl311 hl363
 have hw381 := W_ref07_Of (I := I362) R364 hd
 refine .call call51 r hw381 r r fun v370 I367 hl368 hv369 => ?_
 obtain ⟨r366, p372, c373, p375, c376, p378, c379, rfl, R374, R377, R380, hd⟩ := hv369
 have le382 := IH.le.trans le365 hl368
 replace R364 := R364.mono hl368
 refine .ks 3 r (.allocA zv30 r r fun b383 => ?_)
 exact .storeA sz30 r r .z (.t (.t (.t (.t (.t .nil))))) r r (.ks 1 r (.nilS [8, 4] r r (.sr (.loadW ia30 sz30 r .z r r r (.storeA sz30 r r (.s .z) (.t (.t (.t (.t (.t .nil))))) r r (.nilS [4] r r (.drop .z (.ret (pret results25 (.w ia30 sz30 r .z r .n) le382 ⟨r366.1, _, _, _, _, _, _, r, R374, R377, R380, hd⟩)))))))))

theorem W_ref07_Turn {I : IH} {a0 : Rows} {p1 : Option Addr} {c2 : Nat} {p4 : Option Addr} {c5 : Nat} {p7 : Option Addr} {c8 : Nat} {Q : Rows → Prop} (R3 : RepSl eI64 I p1 c2 a0.Start) (R6 : RepSl eI64 I p4 c5 a0.Col) (R9 : RepSl eI64 I p7 c8 a0.Val) (hd : ref07_Turn a0 Q) :
  PFun prog 27 [.agg #[.int .i64 a0.Rows, .int .i64 a0.Cols, .slice p1 a0.Start.length c2, .slice p4 a0.Col.length c5, .slice p7 a0.Val.length c8]] I (o7_ Q) := by
 refine Fun.enter func27 r ntmps27 r (.c .n) fun w0 M => ?_
 refine .sr (.boxA r r r fun b23 => ?_)
 refine .allocA zv30 r r fun b25 => ?_
 refine .nilS [2, 1] r r (.sr (.loadW ia30 sz30 r (.s .z) r r r ?_))
 have hw58 := W_ref07_Sure (I := I) R3 R6 R9 hd
 refine .call call37 r hw58 r r fun v47 I44 hl45 hv46 => ?_
 obtain ⟨r43, p49, c50, p52, c53, p55, c56, rfl, R51, R54, R57, hd⟩ := hv46
 replace R3 := R3.mono hl45
 replace R6 := R6.mono hl45
 replace R9 := R9.mono hl45
 refine .storeA sz30 r r (.s .z) (.t (.t (.t (.t (.t .nil))))) r r (.nilS [2, 1] r r (.sr (.loadW ia30 sz30 r (.s .z) r r r ?_)))
 have hw79 := W_ref07_Triples (I := I44) R51 R54 R57 hd
 refine .call call39 r hw79 r r fun v74 I71 hl72 hv73 => ?_
 obtain ⟨r70, p76, c77, rfl, R78, hd⟩ := hv73
 have le80 := IH.le.trans hl45 hl72
 replace R51 := R51.mono hl72
 replace R54 := R54.mono hl72
 replace R57 := R57.mono hl72
 refine .ks 1 r (.nilS [3, 2, 1] r r (.sr (.ks 1 r (.nilS [4, 3, 2, 1] r r (.seq (.sr (.ks 1 r (.nilS [5, 4, 3, 2, 1] r r (.block ?_)))))))))
 refine .own0 eTriple 91 (.loop hd (fun (s : (List Triple) × Int) c w => match s with | (s425, s429) => ∃ I_ p426 c427, IH.le I71 I_ ∧ Ok ⟨51, [], none⟩ [(1, .pointer (some ⟨b23, 0, none⟩)), (2, .pointer (some ⟨b25, 0, none⟩)), (3, .slice p76 r70.length c77), (4, .slice p426 s425.length c427), (5, .int .i64 s429)] c ∧ Sym w0 M I I_ [pto b23 (.cells #[.int .i64 r43.Rows, .int .i64 r43.Cols, .slice p49 r43.Start.length c50, .slice p52 r43.Col.length c53, .slice p55 r43.Val.length c56] 30 (0, 0)), pto b25 (.cells #[.int .i64 0, .int .i64 0, .slice none 0 0, .slice none 0 0, .slice none 0 0] 30 (0, 0)), OwnSl eTriple 91 p426 c427 s425] w) (fun c w ho hs => ⟨I71, _, _, (.refl _), ho.sub ⟨r, r, r, r, r, trivial⟩, hs.pick (.c (.s (.s .z)) (.c (.s .z) (.c .z .n)))⟩) ?_)
 rintro ⟨s425, s429⟩ next431 hd c w hst
 obtain ⟨I432, p426, c427, hl433, hok, hsym⟩ := hst
 have le434 := IH.le.trans le80 hl433
 replace R51 := R51.mono hl433
 replace R54 := R54.mono hl433
 replace R57 := R57.mono hl433
 replace R78 := R78.mono hl433
 refine Cod.at hok hsym (.seq (.sr (.ks 1 r (.fa un30 r sz3 r (o := 1) r r r (.load1 ia3 r .z r r r (.ks 1 r (.nilS [14, 5, 4, 3, 2, 1] r r (.condP r hd (fun hb436 hd => ?_) fun hb436 hd => ?_))))))))
 · refine .skipS [5, 4, 3, 2, 1] r r (.seq (.block (.sr (.ks 1 r (.nilS [6, 5, 4, 3, 2, 1] r r (.block (.loop hd (fun (s : (List Triple) × Int) c w => match s with | (s544, s548) => ∃ I_ p545 c546, IH.le I432 I_ ∧ Ok ⟨51, [], none⟩ [(1, .pointer (some ⟨b23, 0, none⟩)), (2, .pointer (some ⟨b25, 0, none⟩)), (3, .slice p76 r70.length c77), (4, .slice p545 s544.length c546), (5, .int .i64 s429), (6, .int .i64 s548)] c ∧ Sym w0 M I I_ [pto b23 (.cells #[.int .i64 r43.Rows, .int .i64 r43.Cols, .slice p49 r43.Start.length c50, .slice p52 r43.Col.length c53, .slice p55 r43.Val.length c56] 30 (0, 0)), pto b25 (.cells #[.int .i64 0, .int .i64 0, .slice none 0 0, .slice none 0 0, .slice none 0 0] 30 (0, 0)), OwnSl eTriple 91 p545 c546 s544] w) (fun c w ho hs => ⟨I432, _, _, (.refl _), ho.sub ⟨r, r, r, r, r, r, trivial⟩, hs.pick (.c .z (.c .z (.c .z .n)))⟩) ?_)))))))
   rintro ⟨s544, s548⟩ next549 hd c w hst
   obtain ⟨I550, p545, c546, hl551, hok, hsym⟩ := hst
   have le552 := IH.le.trans le434 hl551
   have le553 := IH.le.trans hl433 hl551
   replace R51 := R51.mono hl551
   replace R54 := R54.mono hl551
   replace R57 := R57.mono hl551
   replace R78 := R78.mono hl551
   refine Cod.at hok hsym (.seq (.sr (.ks 2 r (.len un24 r r r r (.ks 1 r (.nilS [20, 6, 5, 4, 3, 2, 1] r r (.condP r hd (fun hb555 hd => ?_) fun hb555 hd => ?_)))))))
   · refine .skipS [6, 5, 4, 3, 2, 1] r r (.seq (.block (.sr (.ks 2 r ?_))))
     obtain ⟨h565, x566, hx567, hd⟩ := hd
     obtain ⟨b568, o569, cs570, e571, hC572, hr573⟩ := R78.2 _ _ hx567
     cases hr573
     refine .ixa un24 sz91 r e571 r h565 (idx_lt hx567 h565) r r (.fa un91 r sz3 r (o := o569 + s548.toNat * 3 + 1) r r r (.ld1 (j := 1) ia3 hC572 r r r r r (.ks 2 r (.nilS [29, 6, 5, 4, 3, 2, 1] r r (.condP r hd (fun hb574 hd => ?_) fun hb574 hd => ?_)))))
     · refine .ownF (.s (.s .z)) fun hne575 => ?_
       refine .dr [0, 1, 2, 3, 4, 5, 6, 7, 8, 9, 10, 11, 12, 13, 14] 15 (.fk 4 r ?_)
       obtain ⟨h576, x577, hx578, hd⟩ := hd
       obtain ⟨b579, o580, cs581, e582, hC583, hr584⟩ := R78.2 _ _ hx578
       cases hr584
       refine .g r r r (fun _ => .ixa un24 sz91 r e582 r h576 (idx_lt hx578 h576) r r .mk) (.g r r r (fun _ => .fa un91 r sz3 r (o := o580 + s548.toNat * 3) r r r .mk) (.g r r r (fun _ => .ld1 (j := 0) ia3 hC583 r r r r r .mk) (.fk 2 r ?_)))
       obtain ⟨h585, x586, hx587, hd⟩ := hd
       obtain ⟨b588, o589, cs590, e591, hC592, hr593⟩ := R78.2 _ _ hx587
       cases hr593
       refine .g r r r (fun _ => .ixa un24 sz91 r e591 r h585 (idx_lt hx587 h585) r r .mk) (.g r r r (fun _ => .fa un91 r sz2 r (o := o589 + s548.toNat * 3 + 2) r r r .mk) (.g r r r (fun _ => .ld1 (j := 2) ia2 hC592 r r r r r .mk) (.g r r r (fun _ => .build zv91 un91 BI91 (.c r r r (.t .nil) (.c r r r (.s (.t .nil)) (.c r r r (.s (.s (.t .nil))) .n))) (by exact ⟨⟨_, _, r, r, r⟩, ⟨⟨_, _, r, r, r⟩, ⟨⟨_, _, r, r, r⟩, trivial⟩⟩⟩) r r .mk) (.ww r fun ex => ?_))))
       refine .buildSlice 1 un24 sz91 zv91 r r (.c r r r .n) r r fun b594 => ?_
       refine .so 4 r r r (.ck 1 r r trivial) (.ww r fun ex => ?_)
       obtain ⟨hl596, hd⟩ := hd
       refine .append (ys := [({ Row := s429, Col := x577.Row, Val := x586.Val } : Triple)]) 24 (.s (.s (.s .z))) un24 un24 IN91 r r r r r r r r r (.box .z (.one r) r) hl596 r r fun p597 c598 => ?_
       exact .so 4 r r r trivial (.e2 15 (.ks 1 r (.nilS [4, 6, 5, 3, 2, 1] r r (.drop (.s .z) (.region (.ks 3 r (.nil' fun c w ho hs => ⟨((s544 ++ ([({ Row := s429, Col := x577.Row, Val := x586.Val } : Triple)])), w64 (s548 + 1)), hd, I550, _, _, hl551, ho.sub ⟨r, r, r, r, r, r, trivial⟩, hs.pick (.c (.s .z) (.c (.s .z) (.c .z .n)))⟩)))))))
     exact .skipS [6, 5, 4, 3, 2, 1] r r (.region (.ks 3 r (.nil' fun c w ho hs => ⟨(s544, w64 (s548 + 1)), hd, I550, _, _, hl551, ho.sub ⟨r, r, r, r, r, r, trivial⟩, hs.pick (.c .z (.c .z (.c .z .n)))⟩)))
   exact .exitS [5, 4, 3, 2, 1] r r (.region (.ks 3 r (.nil' fun c w ho hs => ⟨(s544, w64 (s429 + 1)), hd, I550, _, _, le553, ho.sub ⟨r, r, r, r, r, trivial⟩, hs.pick (.c .z (.c .z (.c .z .n)))⟩)))
 refine .exitS [4, 2, 1] r r (.sr (.fa un30 r sz3 r (o := 1) r r r (.load1 ia3 r .z r r r (.fa un30 r sz3 r (o := 0) r r r (.load1 ia3 r .z r r r (.ks 1 r (.pub (.s (.s .z)) fun I600 hl601 R602 => ?_)))))))
 have le603 := IH.le.trans le434 hl601
 have le604 := IH.le.trans hl433 hl601
 replace R51 := R51.mono hl601
 replace R54 := R54.mono hl601
 replace R57 := R57.mono hl601
 have hw620 := W_ref07_built (I := I600) R602 hd
 refine .call call72 r hw620 r r fun v609 I606 hl607 hv608 => ?_
 obtain ⟨r605, p611, c612, p614, c615, p617, c618, rfl, R613, R616, R619, hd⟩ := hv608
 have le621 := IH.le.trans le603 hl607
 have le622 := IH.le.trans le604 hl607
 replace R51 := R51.mono hl607
 replace R54 := R54.mono hl607
 replace R57 := R57.mono hl607
 replace R602 := R602.mono hl607
 exact .storeA sz30 r r (.s .z) (.t (.t (.t (.t (.t .nil))))) r r (.nilS [2] r r (.drop .z (.ret (pret results27 (.w ia30 sz30 r .z r .n) le621 ⟨r605, _, _, _, _, _, _, r, R613, R616, R619, hd⟩))))

theorem W_flags_within {I : IH} {a0 : List Int} {a1 : Int} {p1 : Option Addr} {c2 : Nat} {Q : Bool → Prop} (R3 : RepSl eU64 I p1 c2 a0) (hd : flags_within a0 a1 Q) :
  PFun prog 143 [.slice p1 a0.length c2, .int .i64 a1] I (fun _ => o1_ Q) := by
 refine Fun.enter func143 r ntmps143 r (.c (.c .n)) fun w0 M => ?_
 refine .sr (.ks 1 r (.nilS [1, 0] r r (.sr (.ks 3 r ?_))))
 refine splitP hd (fun hb4 hd => ?_) fun hb4 hd => ?_
 · rw [hb4]
   exact .ks 1 r (.gyes r r r (.shr' r r (by decide) r r (.ks 1 r (.gyes r r r (.len un68 r r r r (.ks 3 r (.nilS [4] r r (.ret (pret results143 (.t r .n) (.refl _) ⟨(decide ((shr .i64 a1 6) < (a0.length : Int))), r, hd⟩)))))))))
 rw [hb4]
 exact .ks 7 r (.nilS [4] r r (.ret (pret results143 (.t r .n) (.refl _) ⟨false, r, hd⟩)))

theorem W_flags_bit {I : IH} {a0 : Int} {Q : Int → Prop}  (hd : flags_bit a0 Q) :
  PFun prog 144 [.int .i64 a0] I (fun _ => o11_ Q) := by
 refine Fun.enter func144 r ntmps144 r (.c .n) fun w0 M => ?_
 refine .sr (.ks 1 r (.nilS [0] r r (.sr (.ks 1 r (.conv un3 underlying135 r r r (.ks 1 r ?_))))))
 obtain ⟨hz1, hd⟩ := hd
 exact .shl' r r hz1 r r (.ks 1 r (.nilS [2] r r (.ret (pret results144 (.t r .n) (.refl _) ⟨(shl .u64 1 (bnd .u64 (IntKind.wrap .u64 (a0)) 63)), r, hd⟩))))

theorem W_flags_Has {I : IH} {a0 : List Int} {a1 : Int} {p1 : Option Addr} {c2 : Nat} {Q : Bool → Prop} (R3 : RepSl eU64 I p1 c2 a0) (hd : flags_Has a0 a1 Q) :
  PFun prog 112 [.slice p1 a0.length c2, .int .i64 a1] I (fun _ => o1_ Q) := by
 refine Fun.enter func112 r ntmps112 r (.c (.c .n)) fun w0 M => ?_
 refine .sr (.ks 1 r (.nilS [1, 0] r r (.seq (.dr [0, 1, 2, 3, 4, 5, 6, 7, 8, 9, 10, 11, 12, 13] 14 (.fk 2 r (.ww r fun ex => ?_))))))
 have hw5 := W_flags_within (I := I) R3 hd
 refine .callP call143 r hw5 r r fun v6 hv7 => ?_
 obtain ⟨r4, rfl, hd⟩ := hv7
 refine .so 0 r r r trivial (.fk 1 r ?_)
 refine splitP hd (fun hb8 hd => ?_) fun hb8 hd => ?_
 · refine .g r r r (fun _ => .gyes r r hb8 (.move r r r .mk)) (.g r r r (fun _ => .gyes r r hb8 (.move r r r .mk)) (.g r r r (fun _ => .gyes r r hb8 (.shr' r r (by decide) r r .mk)) ?_))
   obtain ⟨h9, x10, hx11, hd⟩ := hd
   obtain ⟨b12, o13, cs14, e15, hC16, hr17⟩ := R3.2 _ _ hx11
   cases hr17
   refine .g r r r (fun _ => .gyes r r hb8 (.ixa un68 sz55 r e15 r h9 (idx_lt hx11 h9) r r .mk)) (.g r r r (fun _ => .gyes r r hb8 (.ld1 (j := 0) ia55 hC16 r r r r r .mk)) (.g r r r (fun _ => .gyes r r hb8 (.move r r r .mk)) (.ww r fun ex => ?_)))
   have hw19 := W_flags_bit (I := I) hd
   refine .gyes r r hb8 (.callP call144 r hw19 r r fun v20 hv21 => ?_)
   obtain ⟨r18, rfl, hd⟩ := hv21
   exact .so 0 r r r (.cg r r r r (fun _ => .gyes r r hb8 (.ld1 (j := 0) ia55 hC16 r r r r r .mk)) (.cg r r r r (fun _ => .gyes r r hb8 (.ixa un68 sz55 r e15 r h9 (idx_lt hx11 h9) r r .mk)) (.cg r r r r (fun _ => .gyes r r hb8 (.shr' r r (by decide) r r .mk)) (.cg r r r r (fun _ => .gyes r r hb8 (.move r r r .mk)) (.cg r r r r (fun _ => .gyes r r hb8 (.move r r r .mk)) trivial))))) (.g r r r (fun _ => .gyes r r hb8 (.and r r r r .mk)) (.g r r r (fun _ => .gyes r r hb8 (.ne r r r r .mk)) (.g r r r (fun _ => .pickT r hb8 r r r .mk) (.e2 14 (.ks 1 r (.nilS [4] r r (.ret (pret results112 (.t r .n) (.refl _) ⟨((bnd .u64 x10 r18) != 0), r, hd⟩))))))))
 refine .g r r r (fun _ => .gno r r hb8 r r .mk) (.g r r r (fun _ => .gno r r hb8 r r .mk) (.g r r r (fun _ => .gno r r hb8 r r .mk) (.g r r r (fun _ => .gno r r hb8 r r .mk) (.g r r r (fun _ => .gno r r hb8 r r .mk) (.g r r r (fun _ => .gno r r hb8 r r .mk) (.g r r r (fun _ => .gno r r hb8 r r .mk) (.g r r r (fun _ => .gno r r hb8 r r .mk) (.g r r r (fun _ => .gno r r hb8 r r .mk) (.g r r r (fun _ => .pickF r hb8 r r r .mk) ?_)))))))))
 exact .e2 14 (.ks 1 r (.nilS [4] r r (.ret (pret results112 (.t r .n) (.refl _) ⟨false, r, hd⟩))))

theorem W_flags_words {I : IH} {a0 : Int} {Q : Int → Prop}  (hd : flags_words a0 Q) :
  PFun prog 161 [.int .i64 a0] I (fun _ => o0_ Q) := by
 refine Fun.enter func161 r ntmps161 r (.c .n) fun w0 M => ?_
 refine .sr (.ks 1 r (.nilS [0] r r (.sr (.ks 1 r (.maxI r r r r (.minI r r r r (.ks 1 r (.shr' r r (by decide) r r (.ks 1 r ?_)))))))))
 exact .nilS [2] r r (.ret (pret results161 (.t r .n) (.refl _) ⟨(shr .i64 (w64 ((if 4096 < (if 0 > a0 then 0 else a0) then 4096 else (if 0 > a0 then 0 else a0)) + 63)) 6), r, hd⟩))

theorem W_flags_each_555 {I : IH} {a0 : List Int} {p1 : Option Addr} {c2 : Nat} {Q : (List Int) → Prop} (R3 : RepSl eU64 I p1 c2 a0) (hd : flags_each_555 a0 Q) :
  Fun prog 168 #[.slice p1 a0.length c2] I [] (fun I_ v l => ∃ r b4 p5 c6, v = .func (.func 169) #[] #[.pointer (some ⟨b4, 0, none⟩)] ∧ RepSl eU64 I_ p5 c6 r ∧ l = [pto b4 (.cells #[.slice p5 r.length c6] 68 (0, 0))] ∧ Q r) := by
 refine Fun.enter (vs := [.slice p1 a0.length c2]) func168 r ntmps168 r (.c .n) fun w0 M => ?_
 refine .sr (.box1 r r r r fun b4 => ?_)
 exact .ks 1 r (.nilS [1] r r (.sr (.mkFn r r r r (.ks 1 r (.nilS [2] r r (.ret (oret results168 (.t r .n) (.refl _) (.c .z .n) ⟨a0, _, _, _, r, R3, r, hd⟩)))))))

theorem W_flags_each_1_6c7 {I : IH} {o0 : Nat} {o1 : Int} {o2 : Int} {o3 : List Int} {Y : Nat → Int → Int → Int → ((Bool × Nat × Int) → Prop) → Prop} {b5 : Nat} {b6 : Nat} {b7 : Nat} {p8 : Option Addr} {c9 : Nat} {lr : Nat} {Rr : Nat → HA} {Q : (Nat × Int) → Prop} (hY : ∀ {J_ : IH}, I.le J_ → ∀ {y11 : Nat} {y12 : Int} {y14 : Int} {x16 : Int} {Qy : (Bool × Nat × Int) → Prop}, Y y11 y12 y14 x16 Qy → RFun prog lr [.int .i64 x16] J_ [Rr y11, pto b5 (.cells #[.int .i64 y12] 3 (0, 0)), pto b6 (.cells #[.int .i64 y14] 3 (0, 0))] (fun I_ v l => ∃ r, v = .bool r.1 ∧ l = [Rr r.2.1, pto b5 (.cells #[.int .i64 y12] 3 (0, 0)), pto b6 (.cells #[.int .i64 r.2.2] 3 (0, 0))] ∧ Qy r)) (R10 : RepSl eU64 I p8 c9 o3) (hd : flags_each_1_6c7 o0 o1 o2 o3 Y Q) :
  Fun prog 169 #[.func (.yield lr) #[] #[], .pointer (some ⟨b7, 0, none⟩)] I [Rr o0, pto b5 (.cells #[.int .i64 o1] 3 (0, 0)), pto b6 (.cells #[.int .i64 o2] 3 (0, 0)), pto b7 (.cells #[.slice p8 o3.length c9] 68 (0, 0))] (fun I_ v l => ∃ r, v = .tuple #[] ∧ l = [Rr r.1, pto b5 (.cells #[.int .i64 o1] 3 (0, 0)), pto b6 (.cells #[.int .i64 r.2] 3 (0, 0)), pto b7 (.cells #[.slice p8 o3.length c9] 68 (0, 0))] ∧ Q r) := by
 refine Fun.enter (vs := [.func (.yield lr) #[] #[], .pointer (some ⟨b7, 0, none⟩)]) func169 r ntmps169 r (.c (.c .n)) fun w0 M => ?_
 refine .sr (.load1 isAgg68 r (.s (.s (.s .z))) r r r (.len un68 r r r r (.ks 1 r (.nilS [8, 7, 6, 1, 0] r r (.block (.loop hd (fun (s : Int × Int × Nat) c w => match s with | (s190, s191, s192) => ∃ I_, IH.le I I_ ∧ Ok ⟨31, [], none⟩ [(0, .func (.yield lr) #[] #[]), (1, .pointer (some ⟨b7, 0, none⟩)), (6, .slice p8 o3.length c9), (7, .int .i64 (o3.length : Int)), (8, .int .i64 s191)] c ∧ Sym w0 M I I_ [pto b5 (.cells #[.int .i64 o1] 3 (0, 0)), pto b6 (.cells #[.int .i64 s190] 3 (0, 0)), pto b7 (.cells #[.slice p8 o3.length c9] 68 (0, 0)), Rr s192] w) (fun c w ho hs => ⟨I, (.refl _), ho.sub ⟨r, r, r, r, r, trivial⟩, hs.pick (.c (.s .z) (.c (.s .z) (.c (.s .z) (.c .z .n))))⟩) ?_))))))
 rintro ⟨s190, s191, s192⟩ next193 hd c w hst
 obtain ⟨I194, hl195, hok, hsym⟩ := hst
 replace R10 := R10.mono hl195
 refine Cod.at hok hsym (.sr (.ks 1 r (.nilS [9, 8, 7, 6, 1, 0] r r (.seq (.condP r hd (fun hb197 hd => ?_) fun hb197 hd => ?_)))))
 · refine .skipS [8, 7, 6, 1, 0] r r (.seq (.block (.sr (.ks 1 r ?_))))
   obtain ⟨h207, x208, hx209, hd⟩ := hd
   obtain ⟨b210, o211, cs212, e213, hC214, hr215⟩ := R10.2 _ _ hx209
   cases hr215
   refine .ixa un68 sz55 r e213 r h207 (idx_lt hx209 h207) r r (.ld1 (j := 0) ia55 hC214 r r r r r (.ks 2 r (.nilS [4, 3, 8, 7, 6, 1, 0] r r (.sr (.ks 1 r (.shl' r r (by decide) r r (.ks 1 r (.nilS [5, 4, 8, 7, 6, 1, 0] r r (.block ?_)))))))))
   refine .loop hd (fun (s : Int × Int × Int × Nat) c w => match s with | (s258, s259, s260, s261) => ∃ I_, IH.le I194 I_ ∧ Ok ⟨31, [], none⟩ [(0, .func (.yield lr) #[] #[]), (1, .pointer (some ⟨b7, 0, none⟩)), (4, .int .u64 s259), (5, .int .i64 s260), (6, .slice p8 o3.length c9), (7, .int .i64 (o3.length : Int)), (8, .int .i64 s191)] c ∧ Sym w0 M I I_ [pto b5 (.cells #[.int .i64 o1] 3 (0, 0)), pto b6 (.cells #[.int .i64 s258] 3 (0, 0)), pto b7 (.cells #[.slice p8 o3.length c9] 68 (0, 0)), Rr s261] w) (fun c w ho hs => ⟨I194, (.refl _), ho.sub ⟨r, r, r, r, r, r, r, trivial⟩, hs.pick (.c .z (.c .z (.c .z (.c .z .n))))⟩) ?_
   rintro ⟨s258, s259, s260, s261⟩ next262 hd c w hst
   obtain ⟨I263, hl264, hok, hsym⟩ := hst
   have le265 := IH.le.trans hl195 hl264
   replace R10 := R10.mono hl264
   refine Cod.at hok hsym (.seq (.sr (.ks 2 r (.nilS [16, 8, 7, 6, 5, 4, 1, 0] r r (.condP r hd (fun hb267 hd => ?_) fun hb267 hd => ?_)))))
   · refine .skipS [8, 7, 6, 5, 4, 1, 0] r r (.seq (.block (.sr (.ks 4 r ?_))))
     refine splitP hd (fun hb268 hd => ?_) fun hb268 hd => ?_
     · rw [hb268]
       refine .ks 2 r ?_
       have hw269 := hY (J_ := I263) le265 (y11 := s261) (y12 := o1) (y14 := s258) (x16 := s260) hd
       refine .gyes r r r (.callY r r (.c (.s (.s (.s .z))) (.c .z (.c .z .n))) hw269 r r fun v273 I270 l274 hl271 hv272 => ?_)
       obtain ⟨r275, rfl, rfl, hd⟩ := hv272
       have le279 := IH.le.trans le265 hl271
       have le280 := IH.le.trans hl264 hl271
       replace R10 := R10.mono hl271
       refine .re (m' := [Rr r275.2.1, pto b5 (.cells #[.int .i64 o1] 3 (0, 0)), pto b6 (.cells #[.int .i64 r275.2.2] 3 (0, 0)), pto b7 (.cells #[.slice p8 o3.length c9] 68 (0, 0))]) r (.ks 2 r (.nilS [29, 8, 7, 6, 5, 4, 1, 0] r r (.condP r hd (fun hb281 hd => ?_) fun hb281 hd => ?_)))
       · exact .ret (oret results169 .n le279 (.c .z (.c .z (.c .z (.c .z .n)))) ⟨(r275.2.1, r275.2.2), r, r, hd⟩)
       exact .skipS [8, 7, 6, 5, 4, 1, 0] r r (.region (.ks 1 r (.shr' r r (by decide) r r (.ks 4 r (.nil' fun c w ho hs => ⟨(r275.2.2, shr .u64 s259 1, w64 (s260 + 1), r275.2.1), hd, I270, le280, ho.sub ⟨r, r, r, r, r, r, r, trivial⟩, hs.pick (.c (.s .z) (.c (.s .z) (.c (.s .z) (.c .z .n))))⟩)))))
     rw [hb268]
     exact .ks 5 r (.nilS [29, 8, 7, 6, 5, 4, 1, 0] r r (.condKF r r (.skipS [8, 7, 6, 5, 4, 1, 0] r r (.region (.ks 1 r (.shr' r r (by decide) r r (.ks 4 r (.nil' fun c w ho hs => ⟨(s258, shr .u64 s259 1, w64 (s260 + 1), s261), hd, I263, hl264, ho.sub ⟨r, r, r, r, r, r, r, trivial⟩, hs.pick (.c .z (.c .z (.c .z (.c .z .n))))⟩))))))))
   exact .exitS [8, 7, 6, 1, 0] r r (.region (.ks 2 r (.nil' fun c w ho hs => ⟨(s258, w64 (s191 + 1), s261), hd, I263, le265, ho.sub ⟨r, r, r, r, r, trivial⟩, hs.pick (.c .z (.c .z (.c .z (.c .z .n))))⟩)))
 exact .exit (oretN results169 .n hl195 (.c (.s (.s (.s .z))) (.c .z (.c .z (.c .z .n)))) ⟨(s192, s190), r, r, hd⟩)

theorem W_flags_Next {I : IH} {a0 : List Int} {a1 : Int} {p1 : Option Addr} {c2 : Nat} {Q : Int → Prop} (R3 : RepSl eU64 I p1 c2 a0) (hd : flags_Next a0 a1 Q) :
  PFun prog 162 [.slice p1 a0.length c2, .int .i64 a1] I (fun _ => o0_ Q) := by
 refine Fun.enter func162 r ntmps162 r (.c (.c .n)) fun w0 M => ?_
 refine .marks0 (.sr (.box1 r r r r fun b8 => ?_))
 refine .alloc1 zv3 r r r fun b10 => ?_
 refine .nilS [4, 3, 0] r r (.seq (.sr (.ks 1 r ?_)))
 have hw24 := W_flags_each_555 (I := I) (a0 := a0) R3 hd
 refine .callS (.f call168 r) .n hw24 r r fun v28 I25 l29 hl26 hv27 => ?_
 obtain ⟨r30, b32, p33, c34, rfl, R35, rfl, hd⟩ := hv27
 replace R3 := R3.mono hl26
 refine .re (m' := [pto b32 (.cells #[.slice p33 r30.length c34] 68 (0, 0)), pto b10 (.cells #[.int .i64 0] 3 (0, 0)), pto b8 (.cells #[.int .i64 a1] 3 (0, 0)), Marks ([])]) r (.nilS [7, 4, 3] r r (.block (.rangeF [.ret] r call169 (.c (.s (.s (.s .z))) (.c (.s (.s .z)) (.c (.s .z) (.c .z .n)))) fun lr D rc hrc => ?_)))
 refine ⟨_, W_flags_each_1_6c7 (I := I25) (lr := lr) (Rr := recA lr [.ret] rc) (o0 := 0) (o1 := a1) (o2 := 0) (o3 := r30) (b5 := b8) (b6 := b10) (b7 := b32) (p8 := p33) (c9 := c34) ?_ R35 hd, ?_⟩
 · skip
   intro I hJ y51 y52 y54 x56 Qy  hd
   replace R35 := R35.mono hJ
   obtain ⟨rfl, hd⟩ := hd
   refine RFun.mk hrc r fun w0 M => ?_
   refine .region (.ks 1 r (.nil' fun c w ho hs => beginR (E' := [(3, _), (4, _), (5, _)]) ho ⟨r, r, r, trivial⟩ hs .z (.block (.sr (.ks 1 r (.load1 ia3 r (.s .z) r r r (.ks 1 r (.nilS [11, 5, 4] r r (.condP r hd (fun hb57 hd => ?_) fun hb57 hd => ?_)))))))))
   · refine .sr (.ks 1 r (.store1 sz3 r r (.s (.s .z)) (.t .nil) r (.nilS [] r r ?_)))
     exact .ret fun c w ho hs => endR (js := [.ret]) 1 (.inr rfl) (.refl _) .z (.c .z (.c .z .n)) ⟨(false, 1, x56), rfl, rfl, hd⟩ hs
   exact .skip' fun c w ho hs => endR 0 (.inl rfl) (.refl _) .z (.c .z (.c .z .n)) ⟨(true, 0, y54), rfl, rfl, hd⟩ hs
 intro v61 I58 l' hl59 hv60
 obtain ⟨r62, rfl, rfl, hd⟩ := hv60
 have le66 := IH.le.trans hl26 hl59
 replace R35 := R35.mono hl59
 refine ⟨_, _, r, fun hj => ?_, fun i hj => ?_⟩
 · have hd := hd.1 (decide_eq_true hj)
   exact .re (m' := [Marks (D :: []), pto b8 (.cells #[.int .i64 a1] 3 (0, 0)), pto b10 (.cells #[.int .i64 r62.2] 3 (0, 0)), pto b32 (.cells #[.slice p33 r30.length c34] 68 (0, 0))]) r (.mkS [4] r r (.drop (.s .z) (.drop (.s (.s .z)) (.sr (.store1 sz3 r r (.s .z) (.t .nil) r (.nilS [4] r r (.ret (pretM .z results162 (.s ia3 r .z .n) le66 ⟨(-1), r, hd⟩))))))))
 obtain ⟨hz, hd⟩ := hd.2 (decide_eq_false (by omega))
 obtain rfl : i = 0 := by omega
 refine ⟨_, r, ?_⟩
 exact .re (m' := [Marks (D :: []), pto b8 (.cells #[.int .i64 a1] 3 (0, 0)), pto b10 (.cells #[.int .i64 r62.2] 3 (0, 0)), pto b32 (.cells #[.slice p33 r30.length c34] 68 (0, 0))]) r (.ret (pretM .z results162 (.s ia3 r (.s .z) .n) le66 ⟨r62.2, r, hd⟩))

theorem W_flags_Right {I : IH} {a0 : List Int} {a1 : Int} {p1 : Option Addr} {c2 : Nat} {Q : Bool → Prop} (R3 : RepSl eU64 I p1 c2 a0) (hd : flags_Right a0 a1 Q) :
  PFun prog 141 [.slice p1 a0.length c2, .int .i64 a1] I (fun _ => o1_ Q) := by
 refine Fun.enter func141 r ntmps141 r (.c (.c .n)) fun w0 M => ?_
 refine .sr (.ks 1 r (.nilS [1, 0] r r (.sr (.ks 3 r ?_))))
 refine splitP hd (fun hb4 hd => ?_) fun hb4 hd => ?_
 · rw [hb4]
   refine .ks 4 r ?_
   refine splitP hd (fun hb5 hd => ?_) fun hb5 hd => ?_
   · rw [hb5]
     refine .ks 1 r (.gyes r r r (.len un68 r r r r (.ks 1 r ?_)))
     have hw7 := W_flags_words (I := I) hd
     refine .gyes r r r (.callP call161 r hw7 r r fun v8 hv9 => ?_)
     obtain ⟨r6, rfl, hd⟩ := hv9
     refine .ks 3 r ?_
     refine splitP hd (fun hb10 hd => ?_) fun hb10 hd => ?_
     · rw [hb10]
       refine .ks 2 r ?_
       have hw12 := W_flags_Next (I := I) R3 hd
       refine .gyes r r r (.callP call162 r hw12 r r fun v13 hv14 => ?_)
       obtain ⟨r11, rfl, hd⟩ := hv14
       exact .ks 3 r (.nilS [4] r r (.ret (pret results141 (.t r .n) (.refl _) ⟨(decide (r11 < 0)), r, hd⟩)))
     rw [hb10]
     exact .ks 6 r (.nilS [4] r r (.ret (pret results141 (.t r .n) (.refl _) ⟨false, r, hd⟩)))
   rw [hb5]
   exact .ks 13 r (.nilS [4] r r (.ret (pret results141 (.t r .n) (.refl _) ⟨false, r, hd⟩)))
 rw [hb4]
 exact .ks 17 r (.nilS [4] r r (.ret (pret results141 (.t r .n) (.refl _) ⟨false, r, hd⟩)))

theorem W_devec_Right {I : IH} {a0 : Dense} {p1 : Option Addr} {c2 : Nat} {p4 : Option Addr} {c5 : Nat} {Q : Bool → Prop} (R3 : RepSl eU64 I p1 c2 a0.Has) (R6 : RepSl eI64 I p4 c5 a0.Vals) (hd : devec_Right a0 Q) :
  PFun prog 109 [.agg #[.int .i64 a0.N, .slice p1 a0.Has.length c2, .slice p4 a0.Vals.length c5]] I (fun _ => o1_ Q) := by
 refine Fun.enter func109 r ntmps109 r (.c .n) fun w0 M => ?_
 refine .sr (.boxA r r r fun b9 => ?_)
 refine .ks 1 r (.nilS [1] r r (.seq (.sr (.fa un70 r sizeOf68 r (o := 1) r r r (.load1 isAgg68 r .z r r r (.fa un70 r sz3 r (o := 0) r r r (.load1 ia3 r .z r r r ?_)))))))
 have hw18 := W_flags_Right (I := I) R3 hd
 refine .callP call141 r hw18 r r fun v19 hv20 => ?_
 obtain ⟨r17, rfl, hd⟩ := hv20
 refine .ks 2 r ?_
 refine splitP hd (fun hb21 hd => ?_) fun hb21 hd => ?_
 · rw [hb21]
   exact .ks 7 r (.nilS [18, 1] r r (.condKT r r (.sr (.ks 1 r (.nilS [2] r r (.drop .z (.ret (pret results109 (.t r .n) (.refl _) ⟨false, r, hd⟩))))))))
 rw [hb21]
 refine .gyes r r r (.fa un70 r sz28 r (o := 2) r r r (.gyes r r r (.load1 ia28 r .z r r r (.gyes r r r (.len un28 r r r r (.gyes r r r (.fa un70 r sz3 r (o := 0) r r r (.gyes r r r (.load1 ia3 r .z r r r (.ks 2 r (.nilS [18, 1] r r (.condP r hd (fun hb22 hd => ?_) fun hb22 hd => ?_))))))))))))
 · exact .sr (.ks 1 r (.nilS [2] r r (.drop .z (.ret (pret results109 (.t r .n) (.refl _) ⟨false, r, hd⟩)))))
 refine .skipS [1] r r (.seq (.sr (.fa un70 r sz28 r (o := 2) r r r (.load1 ia28 r .z r r r (.len un28 r r r r (.ks 1 r (.nilS [22, 21, 20, 1] r r (.block (.loop hd (fun (s78 : Int) c w => ∃ I_, IH.le I I_ ∧ Ok ⟨37, [], none⟩ [(1, .pointer (some ⟨b9, 0, none⟩)), (20, .slice p4 a0.Vals.length c5), (21, .int .i64 (a0.Vals.length : Int)), (22, .int .i64 s78)] c ∧ Sym w0 M I I_ [pto b9 (.cells #[.int .i64 a0.N, .slice p1 a0.Has.length c2, .slice p4 a0.Vals.length c5] 70 (0, 0))] w) (fun c w ho hs => ⟨I, (.refl _), ho.sub ⟨r, r, r, r, trivial⟩, hs.pick (.c .z .n)⟩) ?_)))))))))
 rintro s78 next79 hd c w hst
 obtain ⟨I80, hl81, hok, hsym⟩ := hst
 replace R3 := R3.mono hl81
 replace R6 := R6.mono hl81
 refine Cod.at hok hsym (.sr (.ks 1 r (.nilS [23, 22, 21, 20, 1] r r (.seq (.condP r hd (fun hb83 hd => ?_) fun hb83 hd => ?_)))))
 · refine .skipS [22, 21, 20, 1] r r (.seq (.block (.sr (.ks 1 r ?_))))
   obtain ⟨h93, x94, hx95, hd⟩ := hd
   obtain ⟨b96, o97, cs98, e99, hC100, hr101⟩ := R6.2 _ _ hx95
   cases hr101
   refine .ixa un28 sz2 r e99 r h93 (idx_lt hx95 h93) r r (.ld1 (j := 0) ia2 hC100 r r r r r (.ks 2 r (.nilS [4, 3, 22, 21, 20, 1] r r (.sr (.ks 3 r ?_)))))
   refine splitP hd (fun hb102 hd => ?_) fun hb102 hd => ?_
   · rw [hb102]
     refine .gyes r r r (.fa un70 r sizeOf68 r (o := 1) r r r (.gyes r r r (.load1 isAgg68 r .z r r r (.ks 1 r ?_))))
     have hw104 := W_flags_Has (I := I80) R3 hd
     refine .gyes r r r (.callP call112 r hw104 r r fun v105 hv106 => ?_)
     obtain ⟨r103, rfl, hd⟩ := hv106
     refine .ks 2 r (.nilS [35, 22, 21, 20, 1] r r (.condP r hd (fun hb107 hd => ?_) fun hb107 hd => ?_))
     · exact .sr (.ks 1 r (.nilS [2] r r (.drop .z (.ret (pret results109 (.t r .n) hl81 ⟨false, r, hd⟩)))))
     exact .skipS [22, 21, 20, 1] r r (.region (.ks 2 r (.nil' fun c w ho hs => ⟨(w64 (s78 + 1)), hd, I80, hl81, ho.sub ⟨r, r, r, r, trivial⟩, hs.pick (.c .z .n)⟩)))
   rw [hb102]
   exact .ks 6 r (.nilS [35, 22, 21, 20, 1] r r (.condKF r r (.skipS [22, 21, 20, 1] r r (.region (.ks 2 r (.nil' fun c w ho hs => ⟨(w64 (s78 + 1)), hd, I80, hl81, ho.sub ⟨r, r, r, r, trivial⟩, hs.pick (.c .z .n)⟩))))))
 exact .exitS [] r r (.drop .z (.sr (.ks 1 r (.nilS [2] r r (.ret (pret results109 (.t r .n) hl81 ⟨true, r, hd⟩))))))

theorem W_flags_New {I : IH} {a0 : Int} {Q : (List Int) → Prop}  (hd : flags_New a0 Q) :
  PFun prog 142 [.int .i64 a0] I (o15_ Q) := by
 refine Fun.enter func142 r ntmps142 r (.c .n) fun w0 M => ?_
 refine .sr (.ks 1 r (.nilS [0] r r (.sr (.ks 1 r ?_))))
 have hw5 := W_flags_words (I := I) hd
 refine .callP call161 r hw5 r r fun v6 hv7 => ?_
 obtain ⟨r4, rfl, hd⟩ := hv7
 obtain ⟨h8, h9, hd⟩ := hd
 refine .make (El := eU64) (zv := 0) 8 un68 IN55 r r r r r r h8 h9 r r r fun b10 => ?_
 refine .ks 1 r (.nilS [2] r r (.pub .z fun I13 hl14 R15 => ?_))
 exact .ret (pret results142 (.t r .n) hl14 ⟨(List.replicate r4.toNat 0), _, _, r, R15, hd⟩)

theorem W_devec_New {I : IH} {a0 : Int} {Q : Dense → Prop}  (hd : devec_New a0 Q) :
  PFun prog 110 [.int .i64 a0] I (fun I_ v => ∃ r p1 c2 p4 c5, v = .agg #[.int .i64 r.N, .slice p1 r.Has.length c2, .slice p4 r.Vals.length c5] ∧ RepSl eU64 I_ p1 c2 r.Has ∧ RepSl eI64 I_ p4 c5 r.Vals ∧ Q r) := by
 refine Fun.enter func110 r ntmps110 r (.c .n) fun w0 M => ?_
 refine .sr (.allocA zv70 r r fun b9 => ?_)
 refine .nilS [2, 0] r r (.seq (.sr (.ks 3 r ?_)))
 refine splitP hd (fun hb11 hd => ?_) fun hb11 hd => ?_
 · rw [hb11]
   refine .ks 3 r (.nilS [8, 2, 0] r r (.condKT r r (.region (.ks 1 r (.nilS [0, 2] r r (.seq (.dr [0, 1, 3, 4, 2, 999, 5] 6 (.fk 3 r ?_))))))))
   obtain ⟨h13, h14, hd⟩ := hd
   refine .a (fun b => .slice (some ⟨b, 0, none⟩) (List.replicate (Int.toNat 0) (0 : Int)).length (Int.toNat 0)) (fun b => OwnSl eI64 2 (some ⟨b, 0, none⟩) (Int.toNat 0) (List.replicate (Int.toNat 0) (0 : Int))) r r r r (fun _ L hL ex => .make (El := eI64) (zv := 0) 8 un28 IN2 r r r r r r h13 h14 r r r fun b => .mk (val := fun b => .slice (some ⟨b, 0, none⟩) (List.replicate (Int.toNat 0) (0 : Int)).length (Int.toNat 0)) (atom := fun b => OwnSl eI64 2 (some ⟨b, 0, none⟩) (Int.toNat 0) (List.replicate (Int.toNat 0) (0 : Int))) hL b) (.ww r fun ex => ?_)
   have hw24 := W_flags_New (I := I) hd
   refine .call call142 r hw24 r r fun v19 I16 hl17 hv18 => ?_
   obtain ⟨r15, p21, c22, rfl, R23, hd⟩ := hv18
   refine .so 1 r r r (.ck 2 r r trivial) (.b r fun b25 => DrawD.nop (.g r r r (fun _ => .build zv70 un70 BI70 (.c r r r (.t .nil) (.c r r r (.s (.t .nil)) (.c r r r (.s (.s (.t .nil))) .n))) (by exact ⟨⟨_, _, r, r, r⟩, ⟨⟨_, _, r, r, r⟩, ⟨⟨_, _, r, r, r⟩, trivial⟩⟩⟩) r r .mk) (.e2 6 (.storeA sz70 r r .z (.t (.t (.t .nil))) r r (.nilS [2] r r (.pub (.s .z) fun I26 hl27 R28 => ?_))))))
   have le29 := IH.le.trans hl17 hl27
   replace R23 := R23.mono hl27
   exact .ret (pret results110 (.w ia70 sz70 r .z r .n) le29 ⟨({ N := 0, Has := r15, Vals := (List.replicate (Int.toNat 0) (0 : Int)) } : Dense), _, _, _, _, r, R23, R28, hd⟩)
 rw [hb11]
 refine .ks 3 r (.nilS [8, 2, 0] r r (.condP r hd (fun hb30 hd => ?_) fun hb30 hd => ?_))
 · refine .region (.ks 1 r (.nilS [0, 2] r r (.seq (.dr [0, 1, 3, 4, 2, 999, 5] 6 (.fk 3 r ?_)))))
   obtain ⟨h32, h33, hd⟩ := hd
   refine .a (fun b => .slice (some ⟨b, 0, none⟩) (List.replicate (Int.toNat 0) (0 : Int)).length (Int.toNat 0)) (fun b => OwnSl eI64 2 (some ⟨b, 0, none⟩) (Int.toNat 0) (List.replicate (Int.toNat 0) (0 : Int))) r r r r (fun _ L hL ex => .make (El := eI64) (zv := 0) 8 un28 IN2 r r r r r r h32 h33 r r r fun b => .mk (val := fun b => .slice (some ⟨b, 0, none⟩) (List.replicate (Int.toNat 0) (0 : Int)).length (Int.toNat 0)) (atom := fun b => OwnSl eI64 2 (some ⟨b, 0, none⟩) (Int.toNat 0) (List.replicate (Int.toNat 0) (0 : Int))) hL b) (.ww r fun ex => ?_)
   have hw43 := W_flags_New (I := I) hd
   refine .call call142 r hw43 r r fun v38 I35 hl36 hv37 => ?_
   obtain ⟨r34, p40, c41, rfl, R42, hd⟩ := hv37
   refine .so 1 r r r (.ck 2 r r trivial) (.b r fun b44 => DrawD.nop (.g r r r (fun _ => .build zv70 un70 BI70 (.c r r r (.t .nil) (.c r r r (.s (.t .nil)) (.c r r r (.s (.s (.t .nil))) .n))) (by exact ⟨⟨_, _, r, r, r⟩, ⟨⟨_, _, r, r, r⟩, ⟨⟨_, _, r, r, r⟩, trivial⟩⟩⟩) r r .mk) (.e2 6 (.storeA sz70 r r .z (.t (.t (.t .nil))) r r (.nilS [2] r r (.pub (.s .z) fun I45 hl46 R47 => ?_))))))
   have le48 := IH.le.trans hl36 hl46
   replace R42 := R42.mono hl46
   exact .ret (pret results110 (.w ia70 sz70 r .z r .n) le48 ⟨({ N := 0, Has := r34, Vals := (List.replicate (Int.toNat 0) (0 : Int)) } : Dense), _, _, _, _, r, R42, R47, hd⟩)
 refine .skipS [2, 0] r r (.seq (.dr [0, 1, 3, 4, 2, 999, 5] 6 (.fk 3 r ?_)))
 obtain ⟨h50, h51, hd⟩ := hd
 refine .a (fun b => .slice (some ⟨b, 0, none⟩) (List.replicate a0.toNat (0 : Int)).length a0.toNat) (fun b => OwnSl eI64 2 (some ⟨b, 0, none⟩) a0.toNat (List.replicate a0.toNat (0 : Int))) r r r r (fun _ L hL ex => .make (El := eI64) (zv := 0) 8 un28 IN2 r r r r r r h50 h51 r r r fun b => .mk (val := fun b => .slice (some ⟨b, 0, none⟩) (List.replicate a0.toNat (0 : Int)).length a0.toNat) (atom := fun b => OwnSl eI64 2 (some ⟨b, 0, none⟩) a0.toNat (List.replicate a0.toNat (0 : Int))) hL b) (.ww r fun ex => ?_)
 have hw61 := W_flags_New (I := I) hd
 refine .call call142 r hw61 r r fun v56 I53 hl54 hv55 => ?_
 obtain ⟨r52, p58, c59, rfl, R60, hd⟩ := hv55
 refine .so 1 r r r (.ck 2 r r trivial) (.b r fun b62 => DrawD.nop (.g r r r (fun _ => .build zv70 un70 BI70 (.c r r r (.t .nil) (.c r r r (.s (.t .nil)) (.c r r r (.s (.s (.t .nil))) .n))) (by exact ⟨⟨_, _, r, r, r⟩, ⟨⟨_, _, r, r, r⟩, ⟨⟨_, _, r, r, r⟩, trivial⟩⟩⟩) r r .mk) (.e2 6 (.storeA sz70 r r .z (.t (.t (.t .nil))) r r (.nilS [2] r r (.pub (.s .z) fun I63 hl64 R65 => ?_))))))
 have le66 := IH.le.trans hl54 hl64
 replace R60 := R60.mono hl64
 exact .ret (pret results110 (.w ia70 sz70 r .z r .n) le66 ⟨({ N := a0, Has := r52, Vals := (List.replicate a0.toNat (0 : Int)) } : Dense), _, _, _, _, r, R60, R65, hd⟩)

theorem W_pull_sure {I : IH} {a0 : Rows} {a1 : Dense} {p1 : Option Addr} {c2 : Nat} {p4 : Option Addr} {c5 : Nat} {p7 : Option Addr} {c8 : Nat} {p10 : Option Addr} {c11 : Nat} {p13 : Option Addr} {c14 : Nat} {Q : (Rows × Dense) → Prop} (R3 : RepSl eI64 I p1 c2 a0.Start) (R6 : RepSl eI64 I p4 c5 a0.Col) (R9 : RepSl eI64 I p7 c8 a0.Val) (R12 : RepSl eU64 I p10 c11 a1.Has) (R15 : RepSl eI64 I p13 c14 a1.Vals) (hd : pull_sure a0 a1 Q) :
  PFun prog 73 [.agg #[.int .i64 a0.Rows, .int .i64 a0.Cols, .slice p1 a0.Start.length c2, .slice p4 a0.Col.length c5, .slice p7 a0.Val.length c8], .agg #[.int .i64 a1.N, .slice p10 a1.Has.length c11, .slice p13 a1.Vals.length c14]] I (fun I_ v => ∃ r p16 c17 p19 c20 p22 c23 p25 c26 p28 c29, v = .tuple #[.agg #[.int .i64 r.1.Rows, .int .i64 r.1.Cols, .slice p16 r.1.Start.length c17, .slice p19 r.1.Col.length c20, .slice p22 r.1.Val.length c23], .agg #[.int .i64 r.2.N, .slice p25 r.2.Has.length c26, .slice p28 r.2.Vals.length c29]] ∧ RepSl eI64 I_ p16 c17 r.1.Start ∧ RepSl eI64 I_ p19 c20 r.1.Col ∧ RepSl eI64 I_ p22 c23 r.1.Val ∧ RepSl eU64 I_ p25 c26 r.2.Has ∧ RepSl eI64 I_ p28 c29 r.2.Vals ∧ Q r) := by
 refine Fun.enter func73 r ntmps73 r (.c (.c .n)) fun w0 M => ?_
 refine .sr (.boxA r r r fun b39 => ?_)
 refine .boxA r r r fun b41 => ?_
 refine .allocA zv30 r r fun b43 => ?_
 refine .allocA zv70 r r fun b45 => ?_
 refine .nilS [5, 4, 3, 2] r r (.seq ?_)
 refine Cod.joinQ (σ := Int × Int × (List Int) × (List Int) × (List Int)) hd (fun (s : Int × Int × (List Int) × (List Int) × (List Int)) c w => match s with | (s89, s90, s91, s95, s99) => ∃ I_ p92 c93 p96 c97 p100 c101, IH.le I I_ ∧ RepSl eI64 I_ p92 c93 s91 ∧ RepSl eI64 I_ p96 c97 s95 ∧ RepSl eI64 I_ p100 c101 s99 ∧ Ok ⟨19, [], none⟩ [(2, .pointer (some ⟨b39, 0, none⟩)), (3, .pointer (some ⟨b41, 0, none⟩)), (4, .pointer (some ⟨b43, 0, none⟩)), (5, .pointer (some ⟨b45, 0, none⟩))] c ∧ Sym w0 M I I_ [pto b39 (.cells #[.int .i64 s89, .int .i64 s90, .slice p92 s91.length c93, .slice p96 s95.length c97, .slice p100 s99.length c101] 30 (0, 0)), pto b41 (.cells #[.int .i64 a1.N, .slice p10 a1.Has.length c11, .slice p13 a1.Vals.length c14] 70 (0, 0)), pto b43 (.cells #[.int .i64 0, .int .i64 0, .slice none 0 0, .slice none 0 0, .slice none 0 0] 30 (0, 0)), pto b45 (.cells #[.int .i64 0, .slice none 0 0, .slice none 0 0] 70 (0, 0))] w) (fun k103 hd => ?_) ?_
 · skip
   refine .sr (.loadW ia30 sz30 r (.s (.s (.s .z))) r r r ?_)
   have hw105 := W_csr_Right (I := I) R3 R6 R9 hd
   refine .callP call81 r hw105 r r fun v106 hv107 => ?_
   obtain ⟨r104, rfl, hd⟩ := hv107
   refine .ks 1 r (.nilS [8, 5, 4, 3, 2] r r (.condP r hd (fun hb108 hd => ?_) fun hb108 hd => ?_))
   · refine .region (.loadW ia30 sz30 r (.s (.s (.s .z))) r r r (.buildArr zv46 un46 sz3 .n r r (.buildArr zv46 un46 sz3 .n r r ?_)))
     have hw124 := W_csr_Cut (I := I) R3 R6 R9 hd
     refine .call call23 r hw124 r r fun v113 I110 hl111 hv112 => ?_
     obtain ⟨r109, p115, c116, p118, c119, p121, c122, rfl, R117, R120, R123, hd⟩ := hv112
     replace R3 := R3.mono hl111
     replace R6 := R6.mono hl111
     replace R9 := R9.mono hl111
     replace R12 := R12.mono hl111
     replace R15 := R15.mono hl111
     exact .storeA sz30 r r (.s (.s (.s .z))) (.t (.t (.t (.t (.t .nil))))) r r (.nil' fun c w ho hs => ⟨(r109.Rows, r109.Cols, r109.Start, r109.Col, r109.Val), hd, I110, _, _, _, _, _, _, hl111, R117, R120, R123, ho.sub ⟨r, r, r, r, trivial⟩, hs.pick (.c (.s (.s (.s .z))) (.c (.s (.s .z)) (.c (.s .z) (.c .z .n))))⟩)
   exact .skip' fun c w ho hs => ⟨(a0.Rows, a0.Cols, a0.Start, a0.Col, a0.Val), hd, I, _, _, _, _, _, _, (.refl _), R3, R6, R9, ho.sub ⟨r, r, r, r, trivial⟩, hs.pick (.c (.s (.s (.s .z))) (.c (.s (.s .z)) (.c (.s .z) (.c .z .n))))⟩
 rintro ⟨s89, s90, s91, s95, s99⟩ hd c w hst
 obtain ⟨I125, p92, c93, p96, c97, p100, c101, hl126, R94, R98, R102, hok, hsym⟩ := hst
 replace R12 := R12.mono hl126
 replace R15 := R15.mono hl126
 refine Cod.at hok hsym (.seq (.sr (.loadW ia70 sz70 r (.s .z) r r r ?_)))
 have hw128 := W_devec_Right (I := I125) R12 R15 hd
 refine .callP call109 r hw128 r r fun v129 hv130 => ?_
 obtain ⟨r127, rfl, hd⟩ := hv130
 refine .ks 1 r (.nilS [15, 5, 4, 3, 2] r r (.condP r hd (fun hb131 hd => ?_) fun hb131 hd => ?_))
 · refine .region ?_
   have hw144 := W_devec_New (I := I125) hd
   refine .call call110 r hw144 r r fun v136 I133 hl134 hv135 => ?_
   obtain ⟨r132, p138, c139, p141, c142, rfl, R140, R143, hd⟩ := hv135
   have le145 := IH.le.trans hl126 hl134
   replace R12 := R12.mono hl134
   replace R15 := R15.mono hl134
   replace R94 := R94.mono hl134
   replace R98 := R98.mono hl134
   replace R102 := R102.mono hl134
   refine .storeA sz70 r r (.s .z) (.t (.t (.t .nil))) r r (.nilS [5, 4, 3, 2] r r (.seq (.dr [0, 1, 2] 3 (.g r r r (fun _ => .loadW ia30 sz30 r .z r r r .mk) (.g r r r (fun _ => .loadW ia70 sz70 r (.s .z) r r r .mk) (.ww r fun ex => ?_))))))
   exact .storeA sz30 r r (.s (.s .z)) (.t (.t (.t (.t (.t .nil))))) r r (.sn 4 r r r (.cg r r r r (fun _ => .loadW ia70 sz70 r (.s .z) r r r .mk) trivial) (.e2 3 (.storeA sz70 r r (.s (.s (.s .z))) (.t (.t (.t .nil))) r r (.nilS [5, 4] r r (.drop .z (.drop .z (.ret (pret results73 (.w ia30 sz30 r .z r (.w ia70 sz70 r (.s .z) r .n)) le145 ⟨(({ Rows := s89, Cols := s90, Start := s91, Col := s95, Val := s99 } : Rows), r132), _, _, _, _, _, _, _, _, _, _, r, R94, R98, R102, R140, R143, hd⟩))))))))
 refine .skipS [5, 4, 3, 2] r r (.seq (.dr [0, 1, 2] 3 (.g r r r (fun _ => .loadW ia30 sz30 r .z r r r .mk) (.g r r r (fun _ => .loadW ia70 sz70 r (.s .z) r r r .mk) (.ww r fun ex => ?_)))))
 exact .storeA sz30 r r (.s (.s .z)) (.t (.t (.t (.t (.t .nil))))) r r (.sn 4 r r r (.cg r r r r (fun _ => .loadW ia70 sz70 r (.s .z) r r r .mk) trivial) (.e2 3 (.storeA sz70 r r (.s (.s (.s .z))) (.t (.t (.t .nil))) r r (.nilS [5, 4] r r (.drop .z (.drop .z (.ret (pret results73 (.w ia30 sz30 r .z r (.w ia70 sz70 r (.s .z) r .n)) hl126 ⟨(({ Rows := s89, Cols := s90, Start := s91, Col := s95, Val := s99 } : Rows), a1), _, _, _, _, _, _, _, _, _, _, r, R94, R98, R102, R12, R15, hd⟩))))))))

theorem W_pull_adder_6fc {I : IH} {a0 : Int} {Q : (Bool × Int × Wide) → Prop}  (hd : pull_adder_6fc a0 Q) :
  Fun prog 113 #[.int .i64 a0] I [] (fun I_ v l => ∃ r b1 b2 b3, v = .tuple #[.func (.func 145) #[] #[.pointer (some ⟨b1, 0, none⟩), .pointer (some ⟨b2, 0, none⟩), .pointer (some ⟨b3, 0, none⟩)], .func (.func 146) #[] #[.pointer (some ⟨b3, 0, none⟩), .pointer (some ⟨b1, 0, none⟩)]] ∧ l = [pto b1 (.cells #[.bool r.1] 4 (0, 0)), pto b2 (.cells #[.int .i64 r.2.1] 22 (0, 0)), pto b3 (.cells #[.int .i64 r.2.2.Hi, .int .u64 r.2.2.Lo] 57 (0, 0))] ∧ Q r) := by
 refine Fun.enter (vs := [.int .i64 a0]) func113 r ntmps113 r (.c .n) fun w0 M => ?_
 refine .sr (.box1 r r r r fun b3 => ?_)
 refine .ks 2 r (.nilS [1] r r (.sr (.allocA zv57 r r fun b7 => ?_)))
 refine .nilS [4, 1] r r (.sr (.alloc1 zeroValue4 r r r fun b9 => ?_))
 refine .store1 sizeOf4 r r .z (.t .nil) r (.nilS [5, 4, 1] r r (.sr (.mkFn r r r r (.ks 1 r (.nilS [2, 5, 4] r r (.sr (.ks 1 r (.mkFn r r r r (.ks 2 r ?_)))))))))
 exact .nilS [3, 2] r r (.ret (oret results113 (.t r (.t r .n)) (.refl _) (.c .z (.c (.s .z) (.c .z .n))) ⟨(false, a0, ({ Hi := 0, Lo := 0 } : Wide)), _, _, _, r, r, hd⟩))

theorem W_pull_adder_1_b72 {I : IH} {o0 : Bool} {o1 : Int} {o2 : Wide} {a0 : Wide} {b4 : Nat} {b5 : Nat} {b6 : Nat} {Q : (Bool × Wide) → Prop}  (hd : pull_adder_1_b72 o0 o1 o2 a0 Q) :
  Fun prog 145 #[.agg (encWide a0).toArray, .pointer (some ⟨b4, 0, none⟩), .pointer (some ⟨b5, 0, none⟩), .pointer (some ⟨b6, 0, none⟩)] I [pto b4 (.cells #[.bool o0] 4 (0, 0)), pto b5 (.cells #[.int .i64 o1] 22 (0, 0)), pto b6 (.cells #[.int .i64 o2.Hi, .int .u64 o2.Lo] 57 (0, 0))] (fun I_ v l => ∃ r, v = .tuple #[] ∧ l = [pto b4 (.cells #[.bool r.1] 4 (0, 0)), pto b5 (.cells #[.int .i64 o1] 22 (0, 0)), pto b6 (.cells #[.int .i64 r.2.Hi, .int .u64 r.2.Lo] 57 (0, 0))] ∧ Q r) := by
 refine Fun.enter (vs := [.agg (encWide a0).toArray, .pointer (some ⟨b4, 0, none⟩), .pointer (some ⟨b5, 0, none⟩), .pointer (some ⟨b6, 0, none⟩)]) func145 r ntmps145 r (.c (.c (.c (.c .n)))) fun w0 M => ?_
 refine .sr (.boxA r r r fun b9 => ?_)
 refine .nilS [4, 3, 2, 1] r r (.seq (.sr (.load1 isAgg4 r (.s .z) r r r (.nilS [5, 4, 3, 2, 1] r r (.condP r hd (fun hb11 hd => ?_) fun hb11 hd => ?_)))))
 · refine .region (.load1 ia22 r (.s (.s .z)) r r r (.loadW ia57 sz57 r (.s (.s (.s .z))) r r r (.loadW ia57 sz57 r .z r r r ?_)))
   have hw13 := W_ring_Add (I := I) hd
   refine .callP call46 r hw13 r r fun v14 hv15 => ?_
   obtain ⟨r12, rfl, hd⟩ := hv15
   exact .storeA sz57 r r .z (.t (.t .nil)) r r (.nilS [4, 3, 1] r r (.region (.loadW ia57 sz57 r .z r r r (.storeA sz57 r r (.s (.s (.s .z))) (.t (.t .nil)) r r (.store1 sizeOf4 r r (.s .z) (.t .nil) r (.nil' (oretN results145 .n (.refl _) (.c (.s .z) (.c (.s .z) (.c (.s .z) .n))) ⟨(true, r12), r, r, hd⟩)))))))
 exact .skipS [4, 3, 1] r r (.region (.loadW ia57 sz57 r .z r r r (.storeA sz57 r r (.s (.s (.s .z))) (.t (.t .nil)) r r (.store1 sizeOf4 r r (.s .z) (.t .nil) r (.nil' (oretN results145 .n (.refl _) (.c (.s .z) (.c (.s .z) (.c (.s .z) .n))) ⟨(true, a0), r, r, hd⟩))))))

theorem W_pull_adder_2_cdb {I : IH} {o0 : Wide} {o1 : Bool} {b3 : Nat} {b4 : Nat} {Q : (Wide × Bool) → Prop}  (hd : pull_adder_2_cdb o0 o1 Q) :
  Fun prog 146 #[.pointer (some ⟨b3, 0, none⟩), .pointer (some ⟨b4, 0, none⟩)] I [pto b3 (.cells #[.int .i64 o0.Hi, .int .u64 o0.Lo] 57 (0, 0)), pto b4 (.cells #[.bool o1] 4 (0, 0))] (fun I_ v l => ∃ r, v = .tuple #[.agg (encWide r.1).toArray, .bool r.2] ∧ l = [pto b3 (.cells #[.int .i64 o0.Hi, .int .u64 o0.Lo] 57 (0, 0)), pto b4 (.cells #[.bool o1] 4 (0, 0))] ∧ Q r) := by
 refine Fun.enter (vs := [.pointer (some ⟨b3, 0, none⟩), .pointer (some ⟨b4, 0, none⟩)]) func146 r ntmps146 r (.c (.c .n)) fun w0 M => ?_
 refine .sr (.allocA zv57 r r fun b5 => ?_)
 refine .ks 1 r (.nilS [2, 1, 0] r r (.seq (.dr [0, 1, 2] 3 (.g r r r (fun _ => .loadW ia57 sz57 r (.s .z) r r r .mk) (.g r r r (fun _ => .load1 isAgg4 r (.s (.s .z)) r r r .mk) (.ww r fun ex => ?_))))))
 exact .storeA sz57 r r .z (.t (.t .nil)) r r (.sn 3 r r r (.cg r r r r (fun _ => .load1 isAgg4 r (.s (.s .z)) r r r .mk) trivial) (.e2 3 (.ks 1 r (.nilS [3, 2, 1, 0] r r (.ret (oret results146 (.w ia57 sz57 r .z r (.t r .n)) (.refl _) (.c (.s .z) (.c (.s .z) .n)) ⟨(o0, o1), r, r, hd⟩))))))

theorem W_pull_row {I : IH} {a0 : Int} {a1 : Rows} {a2 : Int} {a3 : Dense} {p1 : Option Addr} {c2 : Nat} {p4 : Option Addr} {c5 : Nat} {p7 : Option Addr} {c8 : Nat} {p10 : Option Addr} {c11 : Nat} {p13 : Option Addr} {c14 : Nat} {Q : (Wide × Bool) → Prop} (R3 : RepSl eI64 I p1 c2 a1.Start) (R6 : RepSl eI64 I p4 c5 a1.Col) (R9 : RepSl eI64 I p7 c8 a1.Val) (R12 : RepSl eU64 I p10 c11 a3.Has) (R15 : RepSl eI64 I p13 c14 a3.Vals) (hd : pull_row a0 a1 a2 a3 Q) :
  PFun prog 75 [.int .i64 a0, .agg #[.int .i64 a1.Rows, .int .i64 a1.Cols, .slice p1 a1.Start.length c2, .slice p4 a1.Col.length c5, .slice p7 a1.Val.length c8], .int .i64 a2, .agg #[.int .i64 a3.N, .slice p10 a3.Has.length c11, .slice p13 a3.Vals.length c14]] I (fun I_ v => ∃ r, v = .tuple #[.agg (encWide r.1).toArray, .bool r.2] ∧ Q r) := by
 refine Fun.enter func75 r ntmps75 r (.c (.c (.c (.c .n)))) fun w0 M => ?_
 refine .sr (.boxA r r r fun b22 => ?_)
 refine .boxA r r r fun b24 => ?_
 refine .allocA zv57 r r fun b26 => ?_
 refine .ks 1 r (.nilS [8, 7, 5, 2, 0] r r (.sr (.ks 1 r ?_)))
 have hw41 := W_pull_adder_6fc (I := I) (a0 := a0) hd
 refine .callS (.f call113 r) .n hw41 r r fun v45 I42 l46 hl43 hv44 => ?_
 obtain ⟨r47, b51, b52, b53, rfl, rfl, hd⟩ := hv44
 replace R3 := R3.mono hl43
 replace R6 := R6.mono hl43
 replace R9 := R9.mono hl43
 replace R12 := R12.mono hl43
 replace R15 := R15.mono hl43
 refine .re (m' := [pto b51 (.cells #[.bool r47.1] 4 (0, 0)), pto b52 (.cells #[.int .i64 r47.2.1] 22 (0, 0)), pto b53 (.cells #[.int .i64 r47.2.2.Hi, .int .u64 r47.2.2.Lo] 57 (0, 0)), pto b26 (.cells #[.int .i64 0, .int .u64 0] 57 (0, 0)), pto b24 (.cells #[.int .i64 a3.N, .slice p10 a3.Has.length c11, .slice p13 a3.Vals.length c14] 70 (0, 0)), pto b22 (.cells #[.int .i64 a1.Rows, .int .i64 a1.Cols, .slice p1 a1.Start.length c2, .slice p4 a1.Col.length c5, .slice p7 a1.Val.length c8] 30 (0, 0))]) r (.ks 5 r (.nilS [11, 10, 8, 7, 5, 2, 0] r r (.seq (.sr (.fa un30 r sz27 r (o := 2) r r r (.load1 ia27 r (.s (.s (.s (.s (.s .z))))) r r r (.ks 1 r ?_)))))))
 obtain ⟨h63, x64, hx65, hd⟩ := hd
 obtain ⟨b66, o67, cs68, e69, hC70, hr71⟩ := R3.2 _ _ hx65
 cases hr71
 refine .ixa un27 sz3 r e69 r h63 (idx_lt hx65 h63) r r (.ld1 (j := 0) ia3 hC70 r r r r r (.ks 1 r (.nilS [12, 11, 10, 8, 7, 5, 2, 0] r r (.block (.loop hd (fun (s : Bool × Int × Int × Int) c w => match s with | (s246, s247, s248, s249) => ∃ I_, IH.le I42 I_ ∧ Ok ⟨61, [], none⟩ [(0, .int .i64 a0), (2, .int .i64 a2), (5, .pointer (some ⟨b22, 0, none⟩)), (7, .pointer (some ⟨b24, 0, none⟩)), (8, .pointer (some ⟨b26, 0, none⟩)), (10, .func (.func 145) #[] #[.pointer (some ⟨b51, 0, none⟩), .pointer (some ⟨b52, 0, none⟩), .pointer (some ⟨b53, 0, none⟩)]), (11, .func (.func 146) #[] #[.pointer (some ⟨b53, 0, none⟩), .pointer (some ⟨b51, 0, none⟩)]), (12, .int .i64 s249)] c ∧ Sym w0 M I I_ [pto b22 (.cells #[.int .i64 a1.Rows, .int .i64 a1.Cols, .slice p1 a1.Start.length c2, .slice p4 a1.Col.length c5, .slice p7 a1.Val.length c8] 30 (0, 0)), pto b24 (.cells #[.int .i64 a3.N, .slice p10 a3.Has.length c11, .slice p13 a3.Vals.length c14] 70 (0, 0)), pto b26 (.cells #[.int .i64 0, .int .u64 0] 57 (0, 0)), pto b51 (.cells #[.bool s246] 4 (0, 0)), pto b52 (.cells #[.int .i64 r47.2.1] 22 (0, 0)), pto b53 (.cells #[.int .i64 s247, .int .u64 s248] 57 (0, 0))] w) (fun c w ho hs => ⟨I42, (.refl _), ho.sub ⟨r, r, r, r, r, r, r, r, trivial⟩, hs.pick (.c (.s (.s (.s (.s (.s .z))))) (.c (.s (.s (.s (.s .z)))) (.c (.s (.s (.s .z))) (.c .z (.c .z (.c .z .n))))))⟩) ?_)))))
 rintro ⟨s246, s247, s248, s249⟩ next250 hd c w hst
 obtain ⟨I251, hl252, hok, hsym⟩ := hst
 have le253 := IH.le.trans hl43 hl252
 replace R3 := R3.mono hl252
 replace R6 := R6.mono hl252
 replace R9 := R9.mono hl252
 replace R12 := R12.mono hl252
 replace R15 := R15.mono hl252
 refine Cod.at hok hsym (.seq (.sr (.ks 1 r (.fa un30 r sz27 r (o := 2) r r r (.load1 ia27 r .z r r r (.ks 2 r ?_))))))
 obtain ⟨h264, x265, hx266, hd⟩ := hd
 obtain ⟨b267, o268, cs269, e270, hC271, hr272⟩ := R3.2 _ _ hx266
 cases hr272
 refine .ixa un27 sz3 r e270 r h264 (idx_lt hx266 h264) r r (.ld1 (j := 0) ia3 hC271 r r r r r (.ks 1 r (.nilS [31, 12, 11, 10, 8, 7, 5, 2, 0] r r (.condP r hd (fun hb273 hd => ?_) fun hb273 hd => ?_))))
 · refine .skipS [12, 11, 10, 8, 7, 5, 2, 0] r r (.seq (.block (.sr (.fa un30 r sz27 r (o := 3) r r r (.load1 ia27 r .z r r r (.ks 1 r ?_))))))
   obtain ⟨h283, x284, hx285, hd⟩ := hd
   obtain ⟨b286, o287, cs288, e289, hC290, hr291⟩ := R6.2 _ _ hx285
   cases hr291
   refine .ixa un27 sz3 r e289 r h283 (idx_lt hx285 h283) r r (.ld1 (j := 0) ia3 hC290 r r r r r (.ks 1 r (.nilS [13, 12, 11, 10, 8, 7, 5, 2, 0] r r (.sr (.fa un70 r sizeOf68 r (o := 1) r r r (.load1 isAgg68 r (.s .z) r r r (.ks 1 r ?_)))))))
   have hw297 := W_flags_Has (I := I251) R12 hd
   refine .callP call112 r hw297 r r fun v298 hv299 => ?_
   obtain ⟨r296, rfl, hd⟩ := hv299
   refine .nilS [42, 13, 12, 11, 10, 8, 7, 5, 2, 0] r r (.condP r hd (fun hb300 hd => ?_) fun hb300 hd => ?_)
   · refine .dr [0, 1, 2, 3, 4, 5, 6, 7, 8, 9, 10, 11, 12, 13] 14 (.fk 2 r (.g r r r (fun _ => .fa un30 r sz28 r (o := 4) r r r .mk) (.g r r r (fun _ => .load1 ia28 r .z r r r .mk) (.fk 1 r ?_))))
     obtain ⟨h301, x302, hx303, hd⟩ := hd
     obtain ⟨b304, o305, cs306, e307, hC308, hr309⟩ := R9.2 _ _ hx303
     cases hr309
     refine .g r r r (fun _ => .ixa un28 sz2 r e307 r h301 (idx_lt hx303 h301) r r .mk) (.g r r r (fun _ => .ld1 (j := 0) ia2 hC308 r r r r r .mk) (.g r r r (fun _ => .fa un70 r sz28 r (o := 2) r r r .mk) (.g r r r (fun _ => .load1 ia28 r (.s .z) r r r .mk) (.fk 1 r ?_))))
     obtain ⟨h310, x311, hx312, hd⟩ := hd
     obtain ⟨b313, o314, cs315, e316, hC317, hr318⟩ := R15.2 _ _ hx312
     cases hr318
     refine .g r r r (fun _ => .ixa un28 sz2 r e316 r h310 (idx_lt hx312 h310) r r .mk) (.g r r r (fun _ => .ld1 (j := 0) ia2 hC317 r r r r r .mk) (.ww r fun ex => ?_))
     have hw320 := W_ring_Mul (I := I251) hd
     refine .callP call82 r hw320 r r fun v321 hv322 => ?_
     obtain ⟨r319, rfl, hd⟩ := hv322
     refine .so 6 r r r (.ck 1 r r trivial) (.ww r fun ex => ?_)
     have hw323 := W_pull_adder_1_b72 (I := I251) (o0 := s246) (o1 := r47.2.1) (o2 := ({ Hi := s247, Lo := s248 } : Wide)) (a0 := r319) (b4 := b51) (b5 := b52) (b6 := b53) hd
     refine .callS (.c call145 r r) (.c (.s (.s (.s .z))) (.c (.s (.s (.s .z))) (.c (.s (.s (.s .z))) .n))) hw323 r r fun v327 I324 l328 hl325 hv326 => ?_
     obtain ⟨r329, rfl, rfl, hd⟩ := hv326
     have le334 := IH.le.trans le253 hl325
     have le335 := IH.le.trans hl252 hl325
     replace R3 := R3.mono hl325
     replace R6 := R6.mono hl325
     replace R9 := R9.mono hl325
     replace R12 := R12.mono hl325
     replace R15 := R15.mono hl325
     replace hC308 := hC308.mono hl325
     replace hC317 := hC317.mono hl325
     exact .re (m' := (pto b51 (.cells #[.bool r329.1] 4 (0, 0))) :: (pto b52 (.cells #[.int .i64 r47.2.1] 22 (0, 0))) :: (pto b53 (.cells #[.int .i64 r329.2.Hi, .int .u64 r329.2.Lo] 57 (0, 0))) :: (pto b22 (.cells #[.int .i64 a1.Rows, .int .i64 a1.Cols, .slice p1 a1.Start.length c2, .slice p4 a1.Col.length c5, .slice p7 a1.Val.length c8] 30 (0, 0))) :: (pto b24 (.cells #[.int .i64 a3.N, .slice p10 a3.Has.length c11, .slice p13 a3.Vals.length c14] 70 (0, 0))) :: (pto b26 (.cells #[.int .i64 0, .int .u64 0] 57 (0, 0))) :: ex) r (.so 6 r r r trivial (.e2 14 (.nilS [12, 11, 10, 8, 7, 5, 2, 0] r r (.region (.ks 3 r (.nil' fun c w ho hs => ⟨(r329.1, r329.2.Hi, r329.2.Lo, w64 (s249 + 1)), hd, I324, le335, ho.sub ⟨r, r, r, r, r, r, r, r, trivial⟩, hs.pick (.c (.s (.s (.s .z))) (.c (.s (.s (.s .z))) (.c (.s (.s (.s .z))) (.c .z (.c .z (.c .z .n))))))⟩))))))
   exact .skipS [12, 11, 10, 8, 7, 5, 2, 0] r r (.region (.ks 3 r (.nil' fun c w ho hs => ⟨(s246, s247, s248, w64 (s249 + 1)), hd, I251, hl252, ho.sub ⟨r, r, r, r, r, r, r, r, trivial⟩, hs.pick (.c .z (.c .z (.c .z (.c .z (.c .z (.c .z .n))))))⟩)))
 refine .exitS [11, 8] r r (.drop .z (.drop .z (.drop (.s (.s .z)) (.sr (.ks 1 r ?_)))))
 have hw336 := W_pull_adder_2_cdb (I := I251) (o0 := ({ Hi := s247, Lo := s248 } : Wide)) (o1 := s246) (b3 := b53) (b4 := b51) hd
 refine .callS (.c call146 r r) (.c (.s (.s .z)) (.c (.s .z) .n)) hw336 r r fun v340 I337 l341 hl338 hv339 => ?_
 obtain ⟨r342, rfl, rfl, hd⟩ := hv339
 have le343 := IH.le.trans le253 hl338
 have le344 := IH.le.trans hl252 hl338
 exact .re (m' := [pto b53 (.cells #[.int .i64 s247, .int .u64 s248] 57 (0, 0)), pto b51 (.cells #[.bool s246] 4 (0, 0)), pto b26 (.cells #[.int .i64 0, .int .u64 0] 57 (0, 0))]) r (.ks 2 r (.storeA sz57 r r (.s (.s .z)) (.t (.t .nil)) r r (.ks 1 r (.nilS [9, 8] r r (.drop .z (.drop .z (.ret (pret results75 (.w ia57 sz57 r .z r (.t r .n)) le343 ⟨(r342.1, r342.2), r, hd⟩))))))))

theorem W_pull_asked_064 {I : IH} {a0 : Int} {a1 : List Int} {a2 : Bool} {p1 : Option Addr} {c2 : Nat} {Q : (Int × (List Int) × Bool) → Prop} (R3 : RepSl eU64 I p1 c2 a1) (hd : pull_asked_064 a0 a1 a2 Q) :
  Fun prog 74 #[.int .i64 a0, .slice p1 a1.length c2, .bool a2] I [] (fun I_ v l => ∃ r b4 b5 p6 c7 b9, v = .func (.func 111) #[] #[.pointer (some ⟨b4, 0, none⟩), .pointer (some ⟨b5, 0, none⟩), .pointer (some ⟨b9, 0, none⟩)] ∧ RepSl eU64 I_ p6 c7 r.2.1 ∧ l = [pto b4 (.cells #[.int .i64 r.1] 3 (0, 0)), pto b5 (.cells #[.slice p6 r.2.1.length c7] 68 (0, 0)), pto b9 (.cells #[.bool r.2.2] 4 (0, 0))] ∧ Q r) := by
 refine Fun.enter (vs := [.int .i64 a0, .slice p1 a1.length c2, .bool a2]) func74 r ntmps74 r (.c (.c (.c .n))) fun w0 M => ?_
 refine .sr (.box1 r r r r fun b4 => ?_)
 refine .box1 r r r r fun b6 => ?_
 refine .box1 r r r r fun b8 => ?_
 exact .ks 1 r (.nilS [5, 4, 3] r r (.sr (.mkFn r r r r (.ks 1 r (.nilS [6] r r (.ret (oret results74 (.t r .n) (.refl _) (.c (.s (.s .z)) (.c (.s .z) (.c .z .n))) ⟨(a0, a1, a2), _, _, _, _, _, r, R3, r, hd⟩)))))))

theorem W_pull_asked_1_839 {I : IH} {o0 : Nat} {o1 : Int} {o2 : Rows} {o3 : Dense} {o4 : List Sum} {o5 : Int} {o6 : List Int} {o7 : Bool} {Y : Nat → Int → Rows → Dense → (List Sum) → Int → ((Bool × Nat × (List Sum)) → Prop) → Prop} {b9 : Nat} {b10 : Nat} {p11 : Option Addr} {c12 : Nat} {p14 : Option Addr} {c15 : Nat} {p17 : Option Addr} {c18 : Nat} {b20 : Nat} {p21 : Option Addr} {c22 : Nat} {p24 : Option Addr} {c25 : Nat} {b27 : Nat} {p28 : Option Addr} {c29 : Nat} {b32 : Nat} {b33 : Nat} {p34 : Option Addr} {c35 : Nat} {b37 : Nat} {lr : Nat} {Rr : Nat → HA} {Q : (Nat × (List Sum)) → Prop} (hY : ∀ {J_ : IH}, I.le J_ → ∀ {y38 : Nat} {y39 : Int} {y41 : Rows} {y52 : Dense} {y60 : List Sum} {x66 : Int} {p43 : Option Addr} {c44 : Nat} {p46 : Option Addr} {c47 : Nat} {p49 : Option Addr} {c50 : Nat} {p54 : Option Addr} {c55 : Nat} {p57 : Option Addr} {c58 : Nat} {p62 : Option Addr} {c63 : Nat} {Qy : (Bool × Nat × (List Sum)) → Prop}, RepSl eI64 J_ p43 c44 y41.Start → RepSl eI64 J_ p46 c47 y41.Col → RepSl eI64 J_ p49 c50 y41.Val → RepSl eU64 J_ p54 c55 y52.Has → RepSl eI64 J_ p57 c58 y52.Vals → Y y38 y39 y41 y52 y60 x66 Qy → RFun prog lr [.int .i64 x66] J_ [Rr y38, pto b9 (.cells #[.int .i64 y39] 22 (0, 0)), pto b10 (.cells #[.int .i64 y41.Rows, .int .i64 y41.Cols, .slice p43 y41.Start.length c44, .slice p46 y41.Col.length c47, .slice p49 y41.Val.length c50] 30 (0, 0)), pto b20 (.cells #[.int .i64 y52.N, .slice p54 y52.Has.length c55, .slice p57 y52.Vals.length c58] 70 (0, 0)), pto b27 (.cells #[.slice p62 y60.length c63] 65 (0, 0)), OwnSl eSum 73 p62 c63 y60] (fun I_ v l => ∃ r p68 c69, v = .bool r.1 ∧ l = [Rr r.2.1, pto b9 (.cells #[.int .i64 y39] 22 (0, 0)), pto b10 (.cells #[.int .i64 y41.Rows, .int .i64 y41.Cols, .slice p43 y41.Start.length c44, .slice p46 y41.Col.length c47, .slice p49 y41.Val.length c50] 30 (0, 0)), pto b20 (.cells #[.int .i64 y52.N, .slice p54 y52.Has.length c55, .slice p57 y52.Vals.length c58] 70 (0, 0)), pto b27 (.cells #[.slice p68 r.2.2.length c69] 65 (0, 0)), OwnSl eSum 73 p68 c69 r.2.2] ∧ Qy r)) (R13 : RepSl eI64 I p11 c12 o2.Start) (R16 : RepSl eI64 I p14 c15 o2.Col) (R19 : RepSl eI64 I p17 c18 o2.Val) (R23 : RepSl eU64 I p21 c22 o3.Has) (R26 : RepSl eI64 I p24 c25 o3.Vals) (R36 : RepSl eU64 I p34 c35 o6) (hd : pull_asked_1_839 o0 o1 o2 o3 o4 o5 o6 o7 Y Q) :
  Fun prog 111 #[.func (.yield lr) #[] #[], .pointer (some ⟨b32, 0, none⟩), .pointer (some ⟨b33, 0, none⟩), .pointer (some ⟨b37, 0, none⟩)] I [Rr o0, pto b9 (.cells #[.int .i64 o1] 22 (0, 0)), pto b10 (.cells #[.int .i64 o2.Rows, .int .i64 o2.Cols, .slice p11 o2.Start.length c12, .slice p14 o2.Col.length c15, .slice p17 o2.Val.length c18] 30 (0, 0)), pto b20 (.cells #[.int .i64 o3.N, .slice p21 o3.Has.length c22, .slice p24 o3.Vals.length c25] 70 (0, 0)), pto b27 (.cells #[.slice p28 o4.length c29] 65 (0, 0)), OwnSl eSum 73 p28 c29 o4, pto b32 (.cells #[.int .i64 o5] 3 (0, 0)), pto b33 (.cells #[.slice p34 o6.length c35] 68 (0, 0)), pto b37 (.cells #[.bool o7] 4 (0, 0))] (fun I_ v l => ∃ r p39 c40, v = .tuple #[] ∧ l = [Rr r.1, pto b9 (.cells #[.int .i64 o1] 22 (0, 0)), pto b10 (.cells #[.int .i64 o2.Rows, .int .i64 o2.Cols, .slice p11 o2.Start.length c12, .slice p14 o2.Col.length c15, .slice p17 o2.Val.length c18] 30 (0, 0)), pto b20 (.cells #[.int .i64 o3.N, .slice p21 o3.Has.length c22, .slice p24 o3.Vals.length c25] 70 (0, 0)), pto b27 (.cells #[.slice p39 r.2.length c40] 65 (0, 0)), OwnSl eSum 73 p39 c40 r.2, pto b32 (.cells #[.int .i64 o5] 3 (0, 0)), pto b33 (.cells #[.slice p34 o6.length c35] 68 (0, 0)), pto b37 (.cells #[.bool o7] 4 (0, 0))] ∧ Q r) := by
 refine Fun.enter (vs := [.func (.yield lr) #[] #[], .pointer (some ⟨b32, 0, none⟩), .pointer (some ⟨b33, 0, none⟩), .pointer (some ⟨b37, 0, none⟩)]) func111 r ntmps111 r (.c (.c (.c (.c .n)))) fun w0 M => ?_
 refine .sr (.load1 ia3 r (.s (.s (.s (.s (.s (.s .z)))))) r r r (.ks 1 r (.nilS [7, 6, 3, 2, 1, 0] r r (.block (.loop hd (fun (s : (List Sum) × Int × Nat) c w => match s with | (s129, s133, s134) => ∃ I_ p130 c131, IH.le I I_ ∧ Ok ⟨22, [], none⟩ [(0, .func (.yield lr) #[] #[]), (1, .pointer (some ⟨b32, 0, none⟩)), (2, .pointer (some ⟨b33, 0, none⟩)), (3, .pointer (some ⟨b37, 0, none⟩)), (6, .int .i64 o5), (7, .int .i64 s133)] c ∧ Sym w0 M I I_ [pto b9 (.cells #[.int .i64 o1] 22 (0, 0)), pto b10 (.cells #[.int .i64 o2.Rows, .int .i64 o2.Cols, .slice p11 o2.Start.length c12, .slice p14 o2.Col.length c15, .slice p17 o2.Val.length c18] 30 (0, 0)), pto b20 (.cells #[.int .i64 o3.N, .slice p21 o3.Has.length c22, .slice p24 o3.Vals.length c25] 70 (0, 0)), pto b27 (.cells #[.slice p130 s129.length c131] 65 (0, 0)), OwnSl eSum 73 p130 c131 s129, pto b32 (.cells #[.int .i64 o5] 3 (0, 0)), pto b33 (.cells #[.slice p34 o6.length c35] 68 (0, 0)), pto b37 (.cells #[.bool o7] 4 (0, 0)), Rr s134] w) (fun c w ho hs => ⟨I, _, _, (.refl _), ho.sub ⟨r, r, r, r, r, r, trivial⟩, hs.pick (.c (.s .z) (.c (.s .z) (.c (.s .z) (.c (.s .z) (.c (.s .z) (.c (.s .z) (.c (.s .z) (.c (.s .z) (.c .z .n)))))))))⟩) ?_)))))
 rintro ⟨s129, s133, s134⟩ next135 hd c w hst
 obtain ⟨I136, p130, c131, hl137, hok, hsym⟩ := hst
 replace R13 := R13.mono hl137
 replace R16 := R16.mono hl137
 replace R19 := R19.mono hl137
 replace R23 := R23.mono hl137
 replace R26 := R26.mono hl137
 replace R36 := R36.mono hl137
 refine Cod.at hok hsym (.sr (.ks 1 r (.nilS [8, 7, 6, 3, 2, 1, 0] r r (.seq (.condP r hd (fun hb139 hd => ?_) fun hb139 hd => ?_)))))
 · refine .skipS [7, 6, 3, 2, 1, 0] r r (.seq (.block (.sr (.ks 2 r (.nilS [5, 7, 6, 3, 2, 1, 0] r r (.seq (.dr [0, 1, 3, 2, 4, 5, 6, 7, 8, 9, 10] 11 (.g r r r (fun _ => .load1 isAgg68 r (.s (.s (.s (.s (.s (.s .z)))))) r r r .mk) (.fk 1 r ?_)))))))))
   refine .g r r r (fun _ => .load1 isAgg4 r (.s (.s (.s (.s (.s (.s (.s .z))))))) r r r .mk) (.ww r fun ex => ?_)
   have hw141 := W_flags_Has (I := I136) R36 hd
   refine .callP call112 r hw141 r r fun v142 hv143 => ?_
   obtain ⟨r140, rfl, hd⟩ := hv143
   refine .so 9 r r r (.cg r r r r (fun _ => .load1 isAgg4 r (.s (.s (.s (.s (.s (.s (.s .z))))))) r r r .mk) trivial) (.g r r r (fun _ => .neB underlying4 r r r r .mk) (.fk 1 r ?_))
   refine splitP hd (fun hb144 hd => ?_) fun hb144 hd => ?_
   · refine .g r r r (fun _ => .gyes r r hb144 (.move r r r .mk)) (.g r r r (fun _ => .gyes r r hb144 (.move r r r .mk)) (.ww r fun ex => ?_))
     have hw145 := hY (J_ := I136) hl137 (y38 := s134) (y39 := o1) (y41 := o2) (y52 := o3) (y60 := s129) (x66 := s133) (p43 := p11) (c44 := c12) (p46 := p14) (c47 := c15) (p49 := p17) (c50 := c18) (p54 := p21) (c55 := c22) (p57 := p24) (c58 := c25) (p62 := p130) (c63 := c131) R13 R16 R19 R23 R26 hd
     refine .gyes r r hb144 (.callY r r (.c (.s (.s (.s (.s (.s (.s (.s (.s .z)))))))) (.c .z (.c .z (.c .z (.c .z (.c .z .n)))))) hw145 r r fun v149 I146 l150 hl147 hv148 => ?_)
     obtain ⟨r151, p155, c156, rfl, rfl, hd⟩ := hv148
     have le159 := IH.le.trans hl137 hl147
     replace R13 := R13.mono hl147
     replace R16 := R16.mono hl147
     replace R19 := R19.mono hl147
     replace R23 := R23.mono hl147
     replace R26 := R26.mono hl147
     replace R36 := R36.mono hl147
     refine .re (m' := (Rr r151.2.1) :: (pto b9 (.cells #[.int .i64 o1] 22 (0, 0))) :: (pto b10 (.cells #[.int .i64 o2.Rows, .int .i64 o2.Cols, .slice p11 o2.Start.length c12, .slice p14 o2.Col.length c15, .slice p17 o2.Val.length c18] 30 (0, 0))) :: (pto b20 (.cells #[.int .i64 o3.N, .slice p21 o3.Has.length c22, .slice p24 o3.Vals.length c25] 70 (0, 0))) :: (pto b27 (.cells #[.slice p155 r151.2.2.length c156] 65 (0, 0))) :: (OwnSl eSum 73 p155 c156 r151.2.2) :: (pto b32 (.cells #[.int .i64 o5] 3 (0, 0))) :: (pto b33 (.cells #[.slice p34 o6.length c35] 68 (0, 0))) :: (pto b37 (.cells #[.bool o7] 4 (0, 0))) :: ex) r (.so 9 r r r trivial (.g r r r (fun _ => .gyes r r hb144 (.not r r r .mk)) (.g r r r (fun _ => .pickT r hb144 r r r .mk) (.e2 11 (.nilS [20, 7, 6, 3, 2, 1, 0] r r (.condP r hd (fun hb160 hd => ?_) fun hb160 hd => ?_))))))
     · exact .ret (oret results111 .n le159 (.c .z (.c .z (.c .z (.c .z (.c .z (.c .z (.c .z (.c .z (.c .z .n))))))))) ⟨(r151.2.1, r151.2.2), _, _, r, r, hd⟩)
     exact .skipS [7, 6, 3, 2, 1, 0] r r (.region (.ks 2 r (.nil' fun c w ho hs => ⟨(r151.2.2, w64 (s133 + 1), r151.2.1), hd, I146, _, _, le159, ho.sub ⟨r, r, r, r, r, r, trivial⟩, hs.pick (.c (.s .z) (.c (.s .z) (.c (.s .z) (.c (.s .z) (.c (.s .z) (.c (.s .z) (.c (.s .z) (.c (.s .z) (.c .z .n)))))))))⟩)))
   refine .g r r r (fun _ => .gno r r hb144 r r .mk) (.g r r r (fun _ => .gno r r hb144 r r .mk) (.g r r r (fun _ => .gno r r hb144 r r .mk) (.g r r r (fun _ => .gno r r hb144 r r .mk) (.g r r r (fun _ => .pickF r hb144 r r r .mk) (.e2 11 (.nilS [20, 7, 6, 3, 2, 1, 0] r r (.condKF r r (.skipS [7, 6, 3, 2, 1, 0] r r (.region ?_)))))))))
   exact .ks 2 r (.nil' fun c w ho hs => ⟨(s129, w64 (s133 + 1), s134), hd, I136, _, _, hl137, ho.sub ⟨r, r, r, r, r, r, trivial⟩, hs.pick (.c .z (.c .z (.c .z (.c .z (.c .z (.c .z (.c .z (.c .z (.c .z .n)))))))))⟩)
 exact .exit (oretN results111 .n hl137 (.c (.s (.s (.s (.s (.s (.s (.s (.s .z)))))))) (.c .z (.c .z (.c .z (.c .z (.c .z (.c .z (.c .z (.c .z .n))))))))) ⟨(s134, s129), _, _, r, r, hd⟩)

theorem W_pull_Sums {I : IH} {a0 : Int} {a1 : Rows} {a2 : Dense} {a3 : List Int} {a4 : Bool} {p1 : Option Addr} {c2 : Nat} {p4 : Option Addr} {c5 : Nat} {p7 : Option Addr} {c8 : Nat} {p10 : Option Addr} {c11 : Nat} {p13 : Option Addr} {c14 : Nat} {p16 : Option Addr} {c17 : Nat} {Q : ((List Sum) × Int) → Prop} (R3 : RepSl eI64 I p1 c2 a1.Start) (R6 : RepSl eI64 I p4 c5 a1.Col) (R9 : RepSl eI64 I p7 c8 a1.Val) (R12 : RepSl eU64 I p10 c11 a2.Has) (R15 : RepSl eI64 I p13 c14 a2.Vals) (R18 : RepSl eU64 I p16 c17 a3) (hd : pull_Sums a0 a1 a2 a3 a4 Q) :
  PFun prog 28 [.int .i64 a0, .agg #[.int .i64 a1.Rows, .int .i64 a1.Cols, .slice p1 a1.Start.length c2, .slice p4 a1.Col.length c5, .slice p7 a1.Val.length c8], .agg #[.int .i64 a2.N, .slice p10 a2.Has.length c11, .slice p13 a2.Vals.length c14], .slice p16 a3.length c17, .bool a4] I (fun I_ v => ∃ r p19 c20, v = .tuple #[.slice p19 r.1.length c20, .int .i64 r.2] ∧ RepSl eSum I_ p19 c20 r.1 ∧ Q r) := by
 refine Fun.enter func28 r ntmps28 r (.c (.c (.c (.c (.c .n))))) fun w0 M => ?_
 refine .marks0 (.sr (.box1 r r r r fun b28 => ?_))
 refine .boxA r r r fun b30 => ?_
 refine .boxA r r r fun b32 => ?_
 refine .ks 2 r (.nilS [7, 6, 5, 4, 3] r r (.sr (.loadW ia30 sz30 r (.s .z) r r r (.loadW ia70 sz70 r .z r r r ?_))))
 have hw77 := W_pull_sure (I := I) R3 R6 R9 R12 R15 hd
 refine .call call73 r hw77 r r fun v60 I57 hl58 hv59 => ?_
 obtain ⟨r56, p62, c63, p65, c66, p68, c69, p71, c72, p74, c75, rfl, R64, R67, R70, R73, R76, hd⟩ := hv59
 replace R3 := R3.mono hl58
 replace R6 := R6.mono hl58
 replace R9 := R9.mono hl58
 replace R12 := R12.mono hl58
 replace R15 := R15.mono hl58
 replace R18 := R18.mono hl58
 refine .ks 3 r (.storeA sz30 r r (.s .z) (.t (.t (.t (.t (.t .nil))))) r r (.storeA sz70 r r .z (.t (.t (.t .nil))) r r (.nilS [7, 6, 5, 4, 3] r r (.seq (.block (.sr (.load1 ia22 r (.s (.s .z)) r r r ?_)))))))
 have hw93 := W_ring_Is (I := I57) hd
 refine .callP call34 r hw93 r r fun v94 hv95 => ?_
 obtain ⟨r92, rfl, hd⟩ := hv95
 refine .ks 2 r (.nilS [22, 7, 6, 5, 4, 3] r r (.condP r hd (fun hb96 hd => ?_) fun hb96 hd => ?_))
 · exact .sr (.ks 2 r (.nilS [11, 10] r r (.drop .z (.drop .z (.drop .z (.ret (pretM .z results28 (.t r (.t r .n)) hl58 ⟨(([] : List Sum), 8), _, _, r, (.nil _ _ _), hd⟩)))))))
 refine .sr (.fa un70 r sz3 r (o := 0) r r r (.load1 ia3 r .z r r r (.fa un30 r sz3 r (o := 1) r r r (.load1 ia3 r (.s .z) r r r (.ks 2 r (.nilS [26, 7, 6, 5, 4, 3] r r (.condP r hd (fun hb97 hd => ?_) fun hb97 hd => ?_)))))))
 · exact .sr (.ks 2 r (.nilS [11, 10] r r (.drop .z (.drop .z (.drop .z (.ret (pretM .z results28 (.t r (.t r .n)) hl58 ⟨(([] : List Sum), 4), _, _, r, (.nil _ _ _), hd⟩)))))))
 refine .skipS [7, 6, 5, 4, 3] r r (.sr (.alloc1 zeroValue65 r r r fun b100 => ?_))
 refine .nilS [12, 7, 6, 5, 4, 3] r r (.seq (.sr (.fa un30 r sz3 r (o := 0) r r r (.load1 ia3 r (.s (.s .z)) r r r (.ks 2 r ?_)))))
 have hw119 := W_pull_asked_064 (I := I57) (a0 := r56.1.Rows) (a1 := a3) (a2 := a4) R18 hd
 refine .callS (.f call74 r) .n hw119 r r fun v123 I120 l124 hl121 hv122 => ?_
 obtain ⟨r125, b129, b130, p131, c132, b134, rfl, R133, rfl, hd⟩ := hv122
 have le135 := IH.le.trans hl58 hl121
 replace R18 := R18.mono hl121
 replace R64 := R64.mono hl121
 replace R67 := R67.mono hl121
 replace R70 := R70.mono hl121
 replace R73 := R73.mono hl121
 replace R76 := R76.mono hl121
 refine .re (m' := [pto b129 (.cells #[.int .i64 r125.1] 3 (0, 0)), pto b130 (.cells #[.slice p131 r125.2.1.length c132] 68 (0, 0)), pto b134 (.cells #[.bool r125.2.2] 4 (0, 0)), pto b100 (.cells #[.slice none 0 0] 65 (0, 0)), pto b32 (.cells #[.int .i64 r56.2.N, .slice p71 r56.2.Has.length c72, .slice p74 r56.2.Vals.length c75] 70 (0, 0)), pto b30 (.cells #[.int .i64 r56.1.Rows, .int .i64 r56.1.Cols, .slice p62 r56.1.Start.length c63, .slice p65 r56.1.Col.length c66, .slice p68 r56.1.Val.length c69] 30 (0, 0)), pto b28 (.cells #[.int .i64 a0] 22 (0, 0)), Marks ([])]) r (.nilS [36, 12, 7, 6, 5] r r (.block (.own0 eSum 73 (.rangeF [] r call111 (.c (.s (.s (.s (.s (.s (.s (.s (.s .z)))))))) (.c (.s (.s (.s (.s (.s (.s (.s .z))))))) (.c (.s (.s (.s (.s (.s (.s .z)))))) (.c (.s (.s (.s (.s (.s .z))))) (.c (.s (.s (.s (.s .z)))) (.c .z (.c .z (.c .z (.c .z .n))))))))) fun lr D rc hrc => ?_))))
 refine ⟨_, W_pull_asked_1_839 (I := I120) (lr := lr) (Rr := recA lr [] rc) (o0 := 0) (o1 := a0) (o2 := r56.1) (o3 := r56.2) (o4 := ([] : List Sum)) (o5 := r125.1) (o6 := r125.2.1) (o7 := r125.2.2) (b9 := b28) (b10 := b30) (p11 := p62) (c12 := c63) (p14 := p65) (c15 := c66) (p17 := p68) (c18 := c69) (b20 := b32) (p21 := p71) (c22 := c72) (p24 := p74) (c25 := c75) (b27 := b100) (p28 := none) (c29 := 0) (b32 := b129) (b33 := b130) (p34 := p131) (c35 := c132) (b37 := b134) ?_ R64 R67 R70 R73 R76 R133 hd, ?_⟩
 · skip
   intro I hJ y234 y235 y237 y248 y256 x262 p239 c240 p242 c243 p245 c246 p250 c251 p253 c254 p258 c259 Qy R241 R244 R247 R252 R255 hd
   replace R64 := R64.mono hJ
   replace R67 := R67.mono hJ
   replace R70 := R70.mono hJ
   replace R73 := R73.mono hJ
   replace R76 := R76.mono hJ
   replace R133 := R133.mono hJ
   obtain ⟨rfl, hd⟩ := hd
   refine RFun.mk hrc r fun w0 M => ?_
   refine .region (.ks 1 r (.nil' fun c w ho hs => beginR (E' := [(5, _), (6, _), (7, _), (12, _), (13, _)]) ho ⟨r, r, r, r, r, trivial⟩ hs .z (.block (.sr (.load1 ia22 r (.s .z) r r r (.loadW ia30 sz30 r (.s (.s .z)) r r r (.ks 1 r (.loadW ia70 sz70 r (.s (.s (.s .z))) r r r ?_))))))))
   have hw270 := W_pull_row (I := I) R241 R244 R247 R252 R255 hd
   refine .callP call75 r hw270 r r fun v271 hv272 => ?_
   obtain ⟨r269, rfl, hd⟩ := hv272
   refine .ks 3 r (.allocA zv57 r r fun b273 => ?_)
   refine .storeA sz57 r r .z (.t (.t .nil)) r r (.ks 1 r (.nilS [15, 14, 13, 12] r r (.sr (.ks 1 r (.nilS [46, 14, 13, 12] r r (.condP r hd (fun hb275 hd => ?_) fun hb275 hd => ?_))))))
   · refine .region (.load1 isAgg65 r (.s (.s (.s (.s (.s .z))))) r r r (.ks 1 r (.loadW ia57 sz57 r .z r r r (.build zeroValue73 underlying73 BI73 (.c r r r (.t .nil) (.c r r r (.s (.t (.t .nil))) .n)) (by exact ⟨⟨_, _, r, r, r⟩, ⟨⟨_, _, r, r, r⟩, trivial⟩⟩) r r (.buildSlice 1 un65 sizeOf73 zeroValue73 r r (.c r r r .n) r r fun b276 => ?_)))))
     obtain ⟨hl278, hd⟩ := hd
     refine .append (ys := [({ At := x262, Val := r269.1 } : Sum)]) 24 (.s (.s (.s (.s (.s (.s (.s .z))))))) un65 un65 IN73 r r r r r r r r r (.box .z (.one r) r) hl278 r r fun p279 c280 => ?_
     refine .store1 sizeOf65 r r (.s (.s (.s (.s (.s (.s (.s .z))))))) (.t .nil) r ?_
     exact .nil' fun c w ho hs => endR 0 (.inl rfl) (.refl _) (.s (.s (.s .z))) (.c (.s (.s (.s .z))) (.c (.s (.s (.s .z))) (.c (.s (.s (.s .z))) (.c (.s (.s (.s .z))) (.c .z .n))))) ⟨(true, 0, (y256 ++ ([({ At := x262, Val := r269.1 } : Sum)]))), _, _, rfl, rfl, hd⟩ hs
   exact .skip' fun c w ho hs => endR 0 (.inl rfl) (.refl _) (.s .z) (.c (.s .z) (.c (.s .z) (.c (.s .z) (.c (.s .z) (.c (.s .z) .n))))) ⟨(true, 0, y256), _, _, rfl, rfl, hd⟩ hs
 intro v285 I282 l' hl283 hv284
 obtain ⟨r286, p290, c291, rfl, rfl, hd⟩ := hv284
 have le294 := IH.le.trans le135 hl283
 replace R64 := R64.mono hl283
 replace R67 := R67.mono hl283
 replace R70 := R70.mono hl283
 replace R73 := R73.mono hl283
 replace R76 := R76.mono hl283
 replace R133 := R133.mono hl283
 obtain ⟨hz, hd⟩ := hd
 refine ⟨_, _, r, fun hj => ?_, fun i hj => absurd (hz.symm.trans hj) (by simp)⟩
 refine .re (m' := [Marks (D :: []), pto b28 (.cells #[.int .i64 a0] 22 (0, 0)), pto b30 (.cells #[.int .i64 r56.1.Rows, .int .i64 r56.1.Cols, .slice p62 r56.1.Start.length c63, .slice p65 r56.1.Col.length c66, .slice p68 r56.1.Val.length c69] 30 (0, 0)), pto b32 (.cells #[.int .i64 r56.2.N, .slice p71 r56.2.Has.length c72, .slice p74 r56.2.Vals.length c75] 70 (0, 0)), pto b100 (.cells #[.slice p290 r286.2.length c291] 65 (0, 0)), OwnSl eSum 73 p290 c291 r286.2, pto b129 (.cells #[.int .i64 r125.1] 3 (0, 0)), pto b130 (.cells #[.slice p131 r125.2.1.length c132] 68 (0, 0)), pto b134 (.cells #[.bool r125.2.2] 4 (0, 0))]) r (.mkS [12] r r (.drop (.s .z) (.drop (.s .z) (.drop (.s .z) (.drop (.s (.s (.s .z))) (.drop (.s (.s (.s .z))) (.drop (.s (.s (.s .z))) (.sr (.load1 isAgg65 r (.s .z) r r r ?_)))))))))
 refine .ks 2 r (.nilS [11, 10] r r (.drop (.s .z) (.pub (.s .z) fun I295 hl296 R297 => ?_)))
 have le298 := IH.le.trans le294 hl296
 exact .ret (pretM .z results28 (.t r (.t r .n)) le298 ⟨(r286.2, 0), _, _, r, R297, hd⟩)

theorem W_ref09_Right {I : IH} {a0 : Vec} {p1 : Option Addr} {c2 : Nat} {Q : Bool → Prop} (R3 : RepSl eItem I p1 c2 a0.Items) (hd : ref09_Right a0 Q) :
  PFun prog 114 [.agg #[.int .i64 a0.N, .slice p1 a0.Items.length c2]] I (fun _ => o1_ Q) := by
 refine Fun.enter func114 r ntmps114 r (.c .n) fun w0 M => ?_
 refine .sr (.boxA r r r fun b6 => ?_)
 refine .ks 1 r (.nilS [1] r r (.seq (.sr (.fa un64 r sz3 r (o := 0) r r r (.load1 ia3 r .z r r r (.ks 2 r ?_))))))
 refine splitP hd (fun hb10 hd => ?_) fun hb10 hd => ?_
 · rw [hb10]
   exact .ks 4 r (.nilS [11, 1] r r (.condKT r r (.sr (.ks 1 r (.nilS [2] r r (.drop .z (.ret (pret results114 (.t r .n) (.refl _) ⟨false, r, hd⟩))))))))
 rw [hb10]
 refine .gyes r r r (.fa un64 r sz3 r (o := 0) r r r (.gyes r r r (.load1 ia3 r .z r r r (.ks 2 r (.nilS [11, 1] r r (.condP r hd (fun hb11 hd => ?_) fun hb11 hd => ?_))))))
 · exact .sr (.ks 1 r (.nilS [2] r r (.drop .z (.ret (pret results114 (.t r .n) (.refl _) ⟨false, r, hd⟩)))))
 refine .skipS [1] r r (.seq (.sr (.ks 1 r (.nilS [3, 1] r r (.block (.loop hd (fun (s79 : Int) c w => ∃ I_, IH.le I I_ ∧ Ok ⟨57, [], none⟩ [(1, .pointer (some ⟨b6, 0, none⟩)), (3, .int .i64 s79)] c ∧ Sym w0 M I I_ [pto b6 (.cells #[.int .i64 a0.N, .slice p1 a0.Items.length c2] 64 (0, 0))] w) (fun c w ho hs => ⟨I, (.refl _), ho.sub ⟨r, r, trivial⟩, hs.pick (.c .z .n)⟩) ?_))))))
 rintro s79 next80 hd c w hst
 obtain ⟨I81, hl82, hok, hsym⟩ := hst
 replace R3 := R3.mono hl82
 refine Cod.at hok hsym (.seq (.sr (.ks 1 r (.fa un64 r sizeOf61 r (o := 1) r r r (.load1 isAgg61 r .z r r r (.len un61 r r r r (.ks 1 r (.nilS [16, 3, 1] r r (.condP r hd (fun hb84 hd => ?_) fun hb84 hd => ?_)))))))))
 · refine .skipS [3, 1] r r (.seq (.block (.seq (.dr [0, 1, 2, 3, 4, 5, 6, 7, 8, 9, 10, 11, 12, 13, 14, 15, 16, 17, 18, 19, 20, 21, 22, 23, 24, 25, 26, 27, 28, 29, 30, 31, 32, 33, 34, 35, 36, 37] 38 (.g r r r (fun _ => .fa un64 r sizeOf61 r (o := 1) r r r .mk) (.g r r r (fun _ => .load1 isAgg61 r .z r r r .mk) (.fk 1 r ?_)))))))
   obtain ⟨h85, x86, hx87, hd⟩ := hd
   obtain ⟨b88, o89, cs90, e91, hC92, hr93⟩ := R3.2 _ _ hx87
   cases hr93
   refine .g r r r (fun _ => .ixa un61 sz115 r e91 r h85 (idx_lt hx87 h85) r r .mk) (.g r r r (fun _ => .fa un115 r sz3 r (o := o89 + s79.toNat * 2) r r r .mk) (.g r r r (fun _ => .ld1 (j := 0) ia3 hC92 r r r r r .mk) (.fk 2 r ?_)))
   refine splitP hd (fun hb94 hd => ?_) fun hb94 hd => ?_
   · rw [hb94]
     exact .fk 30 r (.e2 38 (.nilS [56, 3, 1] r r (.condKT r r (.sr (.ks 1 r (.nilS [2] r r (.drop .z (.ret (pret results114 (.t r .n) hl82 ⟨false, r, hd⟩)))))))))
   rw [hb94]
   refine .g r r r (fun _ => .gyes r r r (.fa un64 r sizeOf61 r (o := 1) r r r .mk)) (.g r r r (fun _ => .gyes r r r (.load1 isAgg61 r .z r r r .mk)) (.fk 1 r ?_))
   obtain ⟨h95, x96, hx97, hd⟩ := hd
   obtain ⟨b98, o99, cs100, e101, hC102, hr103⟩ := R3.2 _ _ hx97
   cases hr103
   refine .g r r r (fun _ => .gyes r r r (.ixa un61 sz115 r e101 r h95 (idx_lt hx97 h95) r r .mk)) (.g r r r (fun _ => .gyes r r r (.fa un115 r sz3 r (o := o99 + s79.toNat * 2) r r r .mk)) (.g r r r (fun _ => .gyes r r r (.ld1 (j := 0) ia3 hC102 r r r r r .mk)) (.g r r r (fun _ => .gyes r r r (.fa un64 r sz3 r (o := 0) r r r .mk)) (.g r r r (fun _ => .gyes r r r (.load1 ia3 r .z r r r .mk)) (.fk 3 r ?_)))))
   refine splitP hd (fun hb104 hd => ?_) fun hb104 hd => ?_
   · rw [hb104]
     exact .fk 19 r (.e2 38 (.nilS [56, 3, 1] r r (.condKT r r (.sr (.ks 1 r (.nilS [2] r r (.drop .z (.ret (pret results114 (.t r .n) hl82 ⟨false, r, hd⟩)))))))))
   rw [hb104]
   refine .fk 3 r ?_
   refine splitP hd (fun hb105 hd => ?_) fun hb105 hd => ?_
   · rw [hb105]
     refine .g r r r (fun _ => .gyes r r r (.fa un64 r sizeOf61 r (o := 1) r r r .mk)) (.g r r r (fun _ => .gyes r r r (.load1 isAgg61 r .z r r r .mk)) (.fk 1 r ?_))
     obtain ⟨h106, x107, hx108, hd⟩ := hd
     obtain ⟨b109, o110, cs111, e112, hC113, hr114⟩ := R3.2 _ _ hx108
     cases hr114
     refine .g r r r (fun _ => .gyes r r r (.ixa un61 sz115 r e112 r h106 (idx_lt hx108 h106) r r .mk)) (.g r r r (fun _ => .gyes r r r (.fa un115 r sz3 r (o := o110 + s79.toNat * 2) r r r .mk)) (.g r r r (fun _ => .gyes r r r (.ld1 (j := 0) ia3 hC113 r r r r r .mk)) (.g r r r (fun _ => .gyes r r r (.fa un64 r sizeOf61 r (o := 1) r r r .mk)) (.g r r r (fun _ => .gyes r r r (.load1 isAgg61 r .z r r r .mk)) (.fk 2 r ?_)))))
     obtain ⟨h115, x116, hx117, hd⟩ := hd
     obtain ⟨b118, o119, cs120, e121, hC122, hr123⟩ := R3.2 _ _ hx117
     cases hr123
     refine .g r r r (fun _ => .gyes r r r (.ixa un61 sz115 r e121 r h115 (idx_lt hx117 h115) r r .mk)) (.g r r r (fun _ => .gyes r r r (.fa un115 r sz3 r (o := o119 + (w64 (s79 - 1)).toNat * 2) r r r .mk)) (.g r r r (fun _ => .gyes r r r (.ld1 (j := 0) ia3 hC122 r r r r r .mk)) (.fk 3 r (.e2 38 (.nilS [56, 3, 1] r r (.condP r hd (fun hb124 hd => ?_) fun hb124 hd => ?_))))))
     · exact .sr (.ks 1 r (.nilS [2] r r (.drop .z (.ret (pret results114 (.t r .n) hl82 ⟨false, r, hd⟩)))))
     exact .skipS [3, 1] r r (.region (.ks 3 r (.nil' fun c w ho hs => ⟨(w64 (s79 + 1)), hd, I81, hl82, ho.sub ⟨r, r, trivial⟩, hs.pick (.c .z .n)⟩)))
   rw [hb105]
   exact .fk 16 r (.e2 38 (.nilS [56, 3, 1] r r (.condKF r r (.skipS [3, 1] r r (.region (.ks 3 r (.nil' fun c w ho hs => ⟨(w64 (s79 + 1)), hd, I81, hl82, ho.sub ⟨r, r, trivial⟩, hs.pick (.c .z .n)⟩)))))))
 exact .exitS [] r r (.drop .z (.sr (.ks 1 r (.nilS [2] r r (.ret (pret results114 (.t r .n) hl82 ⟨true, r, hd⟩))))))

theorem W_ref09_Sure {I : IH} {a0 : Vec} {p1 : Option Addr} {c2 : Nat} {Q : Vec → Prop} (R3 : RepSl eItem I p1 c2 a0.Items) (hd : ref09_Sure a0 Q) :
  PFun prog 76 [.agg #[.int .i64 a0.N, .slice p1 a0.Items.length c2]] I (fun I_ v => ∃ r p4 c5, v = .agg #[.int .i64 r.N, .slice p4 r.Items.length c5] ∧ RepSl eItem I_ p4 c5 r.Items ∧ Q r) := by
 refine Fun.enter func76 r ntmps76 r (.c .n) fun w0 M => ?_
 refine .sr (.boxA r r r fun b11 => ?_)
 refine .allocA zeroValue64 r r fun b13 => ?_
 refine .nilS [2, 1] r r (.seq (.sr (.loadW isAgg64 sizeOf64 r (.s .z) r r r ?_)))
 have hw16 := W_ref09_Right (I := I) R3 hd
 refine .callP call114 r hw16 r r fun v17 hv18 => ?_
 obtain ⟨r15, rfl, hd⟩ := hv18
 refine .nilS [4, 2, 1] r r (.condP r hd (fun hb19 hd => ?_) fun hb19 hd => ?_)
 · exact .sr (.loadW isAgg64 sizeOf64 r (.s .z) r r r (.storeA sizeOf64 r r .z (.t (.t .nil)) r r (.nilS [2] r r (.drop (.s .z) (.ret (pret results76 (.w isAgg64 sizeOf64 r .z r .n) (.refl _) ⟨a0, _, _, r, R3, hd⟩))))))
 exact .skipS [2] r r (.drop (.s .z) (.sr (.build zeroValue64 un64 BI64 .n (by exact trivial) r r (.storeA sizeOf64 r r .z (.t (.t .nil)) r r (.nilS [2] r r (.ret (pret results76 (.w isAgg64 sizeOf64 r .z r .n) (.refl _) ⟨({ N := 0, Items := ([] : List Item) } : Vec), _, _, r, (.nil _ _ _), hd⟩)))))))

theorem W_ref03_words {I : IH} {a0 : Int} {Q : Int → Prop}  (hd : ref03_words a0 Q) :
  PFun prog 147 [.int .i64 a0] I (fun _ => o0_ Q) := by
 refine Fun.enter func147 r ntmps147 r (.c .n) fun w0 M => ?_
 refine .sr (.ks 1 r (.nilS [0] r r (.seq ?_)))
 refine Cod.joinQ (σ := Int) hd (fun (s3 : Int) c w => ∃ I_, IH.le I I_ ∧ Ok ⟨10, [], none⟩ [(0, .int .i64 s3)] c ∧ Sym w0 M I I_ [] w) (fun k4 hd => ?_) ?_
 · skip
   refine .sr (.ks 2 r (.nilS [4, 0] r r (.condP r hd (fun hb5 hd => ?_) fun hb5 hd => ?_)))
   · exact .region (.ks 1 r (.nil' fun c w ho hs => ⟨4096, hd, I, (.refl _), ho.sub ⟨r, trivial⟩, hs.pick .n⟩))
   exact .skip' fun c w ho hs => ⟨a0, hd, I, (.refl _), ho.sub ⟨r, trivial⟩, hs.pick .n⟩
 rintro s3 hd c w hst
 obtain ⟨I6, hl7, hok, hsym⟩ := hst
 refine Cod.at hok hsym (.seq (.sr (.ks 2 r (.nilS [6, 0] r r (.condP r hd (fun hb8 hd => ?_) fun hb8 hd => ?_)))))
 · exact .sr (.ks 1 r (.nilS [2] r r (.ret (pret results147 (.t r .n) hl7 ⟨0, r, hd⟩))))
 exact .skipS [0] r r (.sr (.ks 2 r (.quo r r (by decide) r r (.ks 1 r (.nilS [2] r r (.ret (pret results147 (.t r .n) hl7 ⟨(w64 ((w64 (s3 + 63)).tdiv 64)), r, hd⟩)))))))

theorem W_ref03_New {I : IH} {a0 : Int} {Q : (List Int) → Prop}  (hd : ref03_New a0 Q) :
  PFun prog 115 [.int .i64 a0] I (o15_ Q) := by
 refine Fun.enter func115 r ntmps115 r (.c .n) fun w0 M => ?_
 refine .sr (.ks 1 r (.nilS [0] r r (.sr (.ks 1 r ?_))))
 have hw5 := W_ref03_words (I := I) hd
 refine .callP call147 r hw5 r r fun v6 hv7 => ?_
 obtain ⟨r4, rfl, hd⟩ := hv7
 obtain ⟨h8, h9, hd⟩ := hd
 refine .make (El := eU64) (zv := 0) 8 un68 IN55 r r r r r r h8 h9 r r r fun b10 => ?_
 refine .ks 1 r (.nilS [2] r r (.pub .z fun I13 hl14 R15 => ?_))
 exact .ret (pret results115 (.t r .n) hl14 ⟨(List.replicate r4.toNat 0), _, _, r, R15, hd⟩)

theorem W_ref10_New {I : IH} {a0 : Int} {Q : Dense → Prop}  (hd : ref10_New a0 Q) :
  OFun prog 77 [.int .i64 a0] I (fun I_ v l => ∃ r p1 c2 p4 c5, v = .agg #[.int .i64 r.N, .slice p1 r.Has.length c2, .slice p4 r.Vals.length c5] ∧ RepSl eU64 I_ p1 c2 r.Has ∧ l = [OwnSl eI64 2 p4 c5 r.Vals] ∧ Q r) := by
 refine Fun.enter func77 r ntmps77 r (.c .n) fun w0 M => ?_
 refine .sr (.allocA zv70 r r fun b9 => ?_)
 refine .nilS [2, 0] r r (.seq (.sr (.ks 3 r ?_)))
 refine splitP hd (fun hb11 hd => ?_) fun hb11 hd => ?_
 · rw [hb11]
   refine .ks 3 r (.nilS [8, 2, 0] r r (.condKT r r (.region (.ks 1 r (.nilS [0, 2] r r (.seq (.dr [0, 1, 3, 4, 2, 999, 5] 6 (.fk 3 r ?_))))))))
   obtain ⟨h13, h14, hd⟩ := hd
   refine .a (fun b => .slice (some ⟨b, 0, none⟩) (List.replicate (Int.toNat 0) (0 : Int)).length (Int.toNat 0)) (fun b => OwnSl eI64 2 (some ⟨b, 0, none⟩) (Int.toNat 0) (List.replicate (Int.toNat 0) (0 : Int))) r r r r (fun _ L hL ex => .make (El := eI64) (zv := 0) 8 un28 IN2 r r r r r r h13 h14 r r r fun b => .mk (val := fun b => .slice (some ⟨b, 0, none⟩) (List.replicate (Int.toNat 0) (0 : Int)).length (Int.toNat 0)) (atom := fun b => OwnSl eI64 2 (some ⟨b, 0, none⟩) (Int.toNat 0) (List.replicate (Int.toNat 0) (0 : Int))) hL b) (.ww r fun ex => ?_)
   have hw24 := W_ref03_New (I := I) hd
   refine .call call115 r hw24 r r fun v19 I16 hl17 hv18 => ?_
   obtain ⟨r15, p21, c22, rfl, R23, hd⟩ := hv18
   exact .so 1 r r r (.ck 2 r r trivial) (.b r fun b25 => DrawD.nop (.g r r r (fun _ => .build zv70 un70 BI70 (.c r r r (.t .nil) (.c r r r (.s (.t .nil)) (.c r r r (.s (.s (.t .nil))) .n))) (by exact ⟨⟨_, _, r, r, r⟩, ⟨⟨_, _, r, r, r⟩, ⟨⟨_, _, r, r, r⟩, trivial⟩⟩⟩) r r .mk) (.e2 6 (.storeA sz70 r r .z (.t (.t (.t .nil))) r r (.nilS [2] r r (.ret (oret results77 (.w ia70 sz70 r .z r .n) hl17 (.c (.s .z) .n) ⟨({ N := 0, Has := r15, Vals := (List.replicate (Int.toNat 0) (0 : Int)) } : Dense), _, _, _, _, r, R23, r, hd⟩)))))))
 rw [hb11]
 refine .ks 3 r (.nilS [8, 2, 0] r r (.condP r hd (fun hb26 hd => ?_) fun hb26 hd => ?_))
 · refine .region (.ks 1 r (.nilS [0, 2] r r (.seq (.dr [0, 1, 3, 4, 2, 999, 5] 6 (.fk 3 r ?_)))))
   obtain ⟨h28, h29, hd⟩ := hd
   refine .a (fun b => .slice (some ⟨b, 0, none⟩) (List.replicate (Int.toNat 0) (0 : Int)).length (Int.toNat 0)) (fun b => OwnSl eI64 2 (some ⟨b, 0, none⟩) (Int.toNat 0) (List.replicate (Int.toNat 0) (0 : Int))) r r r r (fun _ L hL ex => .make (El := eI64) (zv := 0) 8 un28 IN2 r r r r r r h28 h29 r r r fun b => .mk (val := fun b => .slice (some ⟨b, 0, none⟩) (List.replicate (Int.toNat 0) (0 : Int)).length (Int.toNat 0)) (atom := fun b => OwnSl eI64 2 (some ⟨b, 0, none⟩) (Int.toNat 0) (List.replicate (Int.toNat 0) (0 : Int))) hL b) (.ww r fun ex => ?_)
   have hw39 := W_ref03_New (I := I) hd
   refine .call call115 r hw39 r r fun v34 I31 hl32 hv33 => ?_
   obtain ⟨r30, p36, c37, rfl, R38, hd⟩ := hv33
   exact .so 1 r r r (.ck 2 r r trivial) (.b r fun b40 => DrawD.nop (.g r r r (fun _ => .build zv70 un70 BI70 (.c r r r (.t .nil) (.c r r r (.s (.t .nil)) (.c r r r (.s (.s (.t .nil))) .n))) (by exact ⟨⟨_, _, r, r, r⟩, ⟨⟨_, _, r, r, r⟩, ⟨⟨_, _, r, r, r⟩, trivial⟩⟩⟩) r r .mk) (.e2 6 (.storeA sz70 r r .z (.t (.t (.t .nil))) r r (.nilS [2] r r (.ret (oret results77 (.w ia70 sz70 r .z r .n) hl32 (.c (.s .z) .n) ⟨({ N := 0, Has := r30, Vals := (List.replicate (Int.toNat 0) (0 : Int)) } : Dense), _, _, _, _, r, R38, r, hd⟩)))))))
 refine .skipS [2, 0] r r (.seq (.dr [0, 1, 3, 4, 2, 999, 5] 6 (.fk 3 r ?_)))
 obtain ⟨h42, h43, hd⟩ := hd
 refine .a (fun b => .slice (some ⟨b, 0, none⟩) (List.replicate a0.toNat (0 : Int)).length a0.toNat) (fun b => OwnSl eI64 2 (some ⟨b, 0, none⟩) a0.toNat (List.replicate a0.toNat (0 : Int))) r r r r (fun _ L hL ex => .make (El := eI64) (zv := 0) 8 un28 IN2 r r r r r r h42 h43 r r r fun b => .mk (val := fun b => .slice (some ⟨b, 0, none⟩) (List.replicate a0.toNat (0 : Int)).length a0.toNat) (atom := fun b => OwnSl eI64 2 (some ⟨b, 0, none⟩) a0.toNat (List.replicate a0.toNat (0 : Int))) hL b) (.ww r fun ex => ?_)
 have hw53 := W_ref03_New (I := I) hd
 refine .call call115 r hw53 r r fun v48 I45 hl46 hv47 => ?_
 obtain ⟨r44, p50, c51, rfl, R52, hd⟩ := hv47
 exact .so 1 r r r (.ck 2 r r trivial) (.b r fun b54 => DrawD.nop (.g r r r (fun _ => .build zv70 un70 BI70 (.c r r r (.t .nil) (.c r r r (.s (.t .nil)) (.c r r r (.s (.s (.t .nil))) .n))) (by exact ⟨⟨_, _, r, r, r⟩, ⟨⟨_, _, r, r, r⟩, ⟨⟨_, _, r, r, r⟩, trivial⟩⟩⟩) r r .mk) (.e2 6 (.storeA sz70 r r .z (.t (.t (.t .nil))) r r (.nilS [2] r r (.ret (oret results77 (.w ia70 sz70 r .z r .n) hl46 (.c (.s .z) .n) ⟨({ N := a0, Has := r44, Vals := (List.replicate a0.toNat (0 : Int)) } : Dense), _, _, _, _, r, R52, r, hd⟩)))))))

theorem W_ref03_set {I : IH} {a0 : List Int} {a1 : Int} {a2 : Bool} {p1 : Option Addr} {c2 : Nat} {Q : (List Int) → Prop} (R3 : RepSl eU64 I p1 c2 a0) (hd : ref03_set a0 a1 a2 Q) :
  PFun prog 148 [.slice p1 a0.length c2, .int .i64 a1, .bool a2] I (o16_ Q) := by
 refine Fun.enter func148 r ntmps148 r (.c (.c (.c .n))) fun w0 M => ?_
 refine .sr (.ks 1 r (.nilS [2, 1, 0] r r (.sr (.ks 1 r (.nilS [7, 2, 1, 0] r r (.sr (.ks 2 r (.own0 eU64 55 ?_))))))))
 obtain ⟨hl13, hd⟩ := hd
 refine .append (ys := a0) 8 .z un68 un68 IN55 r r r r r r r r r (.imm R3 r) hl13 r r fun p14 c15 => ?_
 refine .ks 1 r (.nilS [7, 2, 1, 0] r r (.seq (.sr (.ks 3 r ?_))))
 refine splitP hd (fun hb19 hd => ?_) fun hb19 hd => ?_
 · rw [hb19]
   refine .ks 6 r (.nilS [20, 7, 2, 1] r r (.condKT r r (.sr (.ks 2 r (.nilS [6] r r (.pub .z fun I20 hl21 R22 => ?_))))))
   exact .ret (pret results148 (.t r .n) hl21 ⟨(([] : List Int) ++ a0), _, _, r, R22, hd⟩)
 rw [hb19]
 refine .ks 1 r (.gyes r r r (.quo r r (by decide) r r (.ks 1 r (.gyes r r r (.len un68 r r r r (.ks 2 r (.nilS [20, 7, 2, 1] r r (.condP r hd (fun hb23 hd => ?_) fun hb23 hd => ?_))))))))
 · refine .sr (.ks 2 r (.nilS [6] r r (.pub .z fun I24 hl25 R26 => ?_)))
   exact .ret (pret results148 (.t r .n) hl25 ⟨(([] : List Int) ++ a0), _, _, r, R26, hd⟩)
 refine .skipS [7, 2, 1] r r (.sr (.ks 1 r (.rem r r (by decide) r r (.conv un3 underlying135 r r r ?_))))
 obtain ⟨hz28, hd⟩ := hd
 refine .shl' r r hz28 r r (.ks 1 r (.nilS [8, 7, 2, 1] r r (.seq (.sr (.ks 1 r (.nilS [26, 8, 7, 1] r r (.condP r hd (fun hb29 hd => ?_) fun hb29 hd => ?_)))))))
 · refine .region (.ks 2 r (.quo r r (by decide) r r (.ks 2 r (.quo r r (by decide) r r ?_))))
   obtain ⟨h30, x31, hx32, hd⟩ := hd
   refine .ownNe .z (idx_ne hx32) fun b33 e34 => ?_
   cases e34
   refine .ixa0 un68 sz55 r r h30 (idx_lt hx32 h30) r r (.lo1 (j := 0) ia55 .z hx32 r r r r r (.ks 2 r ?_))
   obtain ⟨h35, x36, hx37, hd⟩ := hd
   refine .ixa0 un68 sz55 r r h35 (idx_lt hx37 h35) r r (.stO1 (j := 0) (v' := (bor .u64 x31 (shl .u64 1 (IntKind.wrap .u64 (a1.tmod 64))))) sz55 .z hx37 r r r (.t .nil) r (.sub (E' := [(1, _), (7, .slice (some ⟨b33, 0, none⟩) ((([] : List Int) ++ a0).set ((w64 (a1.tdiv 64)).toNat) (bor .u64 x31 (shl .u64 1 (IntKind.wrap .u64 (a1.tmod 64))))).length c15), (8, _), (26, _), (27, .slice (some ⟨b33, 0, none⟩) ((([] : List Int) ++ a0).set ((w64 (a1.tdiv 64)).toNat) (bor .u64 x31 (shl .u64 1 (IntKind.wrap .u64 (a1.tmod 64))))).length c15), (28, _), (29, _), (30, .slice (some ⟨b33, 0, none⟩) ((([] : List Int) ++ a0).set ((w64 (a1.tdiv 64)).toNat) (bor .u64 x31 (shl .u64 1 (IntKind.wrap .u64 (a1.tmod 64))))).length c15), (31, _), (32, _), (33, _), (34, _), (35, _), (36, _), (37, _)]) ⟨r, (by simp only [List.length_set]; rfl), r, r, (by simp only [List.length_set]; rfl), r, r, (by simp only [List.length_set]; rfl), r, r, r, r, r, r, r, trivial⟩ (.nilS [7] r r (.sr (.ks 2 r (.nilS [6] r r (.pub .z fun I38 hl39 R40 => ?_)))))))
   exact .ret (pret results148 (.t r .n) hl39 ⟨((([] : List Int) ++ a0).set ((w64 (a1.tdiv 64)).toNat) (bor .u64 x31 (shl .u64 1 (IntKind.wrap .u64 (a1.tmod 64))))), _, _, r, R40, hd⟩)
 refine .region (.ks 2 r (.quo r r (by decide) r r (.ks 2 r (.quo r r (by decide) r r ?_))))
 obtain ⟨h41, x42, hx43, hd⟩ := hd
 refine .ownNe .z (idx_ne hx43) fun b44 e45 => ?_
 cases e45
 refine .ixa0 un68 sz55 r r h41 (idx_lt hx43 h41) r r (.lo1 (j := 0) ia55 .z hx43 r r r r r (.ks 2 r ?_))
 obtain ⟨h46, x47, hx48, hd⟩ := hd
 refine .ixa0 un68 sz55 r r h46 (idx_lt hx48 h46) r r (.stO1 (j := 0) (v' := (bandn .u64 x42 (shl .u64 1 (IntKind.wrap .u64 (a1.tmod 64))))) sz55 .z hx48 r r r (.t .nil) r (.sub (E' := [(1, _), (7, .slice (some ⟨b44, 0, none⟩) ((([] : List Int) ++ a0).set ((w64 (a1.tdiv 64)).toNat) (bandn .u64 x42 (shl .u64 1 (IntKind.wrap .u64 (a1.tmod 64))))).length c15), (8, _), (26, _), (38, .slice (some ⟨b44, 0, none⟩) ((([] : List Int) ++ a0).set ((w64 (a1.tdiv 64)).toNat) (bandn .u64 x42 (shl .u64 1 (IntKind.wrap .u64 (a1.tmod 64))))).length c15), (39, _), (40, _), (41, .slice (some ⟨b44, 0, none⟩) ((([] : List Int) ++ a0).set ((w64 (a1.tdiv 64)).toNat) (bandn .u64 x42 (shl .u64 1 (IntKind.wrap .u64 (a1.tmod 64))))).length c15), (42, _), (43, _), (44, _), (45, _), (46, _), (47, _), (48, _)]) ⟨r, (by simp only [List.length_set]; rfl), r, r, (by simp only [List.length_set]; rfl), r, r, (by simp only [List.length_set]; rfl), r, r, r, r, r, r, r, trivial⟩ (.nilS [7] r r (.sr (.ks 2 r (.nilS [6] r r (.pub .z fun I49 hl50 R51 => ?_)))))))
 exact .ret (pret results148 (.t r .n) hl50 ⟨((([] : List Int) ++ a0).set ((w64 (a1.tdiv 64)).toNat) (bandn .u64 x42 (shl .u64 1 (IntKind.wrap .u64 (a1.tmod 64))))), _, _, r, R51, hd⟩)

theorem W_ref03_Put {I : IH} {a0 : List Int} {a1 : Int} {p1 : Option Addr} {c2 : Nat} {Q : (List Int) → Prop} (R3 : RepSl eU64 I p1 c2 a0) (hd : ref03_Put a0 a1 Q) :
  PFun prog 116 [.slice p1 a0.length c2, .int .i64 a1] I (o16_ Q) := by
 refine Fun.enter func116 r ntmps116 r (.c (.c .n)) fun w0 M => ?_
 refine .sr (.ks 1 r (.nilS [1, 0] r r (.sr (.ks 2 r ?_))))
 have hw16 := W_ref03_set (I := I) R3 hd
 refine .call call148 r hw16 r r fun v11 I8 hl9 hv10 => ?_
 obtain ⟨r7, p13, c14, rfl, R15, hd⟩ := hv10
 replace R3 := R3.mono hl9
 exact .ks 1 r (.nilS [4] r r (.ret (pret results116 (.t r .n) hl9 ⟨r7, _, _, r, R15, hd⟩)))

theorem W_ref03_Of {I : IH} {a0 : Int} {a1 : List Int} {p1 : Option Addr} {c2 : Nat} {Q : (List Int) → Prop} (R3 : RepSl eI64 I p1 c2 a1) (hd : ref03_Of a0 a1 Q) :
  PFun prog 78 [.int .i64 a0, .slice p1 a1.length c2] I (o16_ Q) := by
 refine Fun.enter func78 r ntmps78 r (.c (.c .n)) fun w0 M => ?_
 refine .sr (.ks 1 r (.nilS [1, 0] r r (.sr (.ks 1 r ?_))))
 have hw26 := W_ref03_New (I := I) hd
 refine .call call115 r hw26 r r fun v21 I18 hl19 hv20 => ?_
 obtain ⟨r17, p23, c24, rfl, R25, hd⟩ := hv20
 replace R3 := R3.mono hl19
 refine .ks 1 r (.nilS [5, 1, 0] r r (.seq (.sr (.ks 1 r (.nilS [6, 5, 1, 0] r r (.block (.loop hd (fun (s : (List Int) × Int) c w => match s with | (s146, s150) => ∃ I_ p147 c148, IH.le I18 I_ ∧ RepSl eU64 I_ p147 c148 s146 ∧ Ok ⟨42, [], none⟩ [(0, .int .i64 a0), (1, .slice p1 a1.length c2), (5, .slice p147 s146.length c148), (6, .int .i64 s150)] c ∧ Sym w0 M I I_ [] w) (fun c w ho hs => ⟨I18, _, _, (.refl _), R25, ho.sub ⟨r, r, r, r, trivial⟩, hs.pick .n⟩) ?_)))))))
 rintro ⟨s146, s150⟩ next151 hd c w hst
 obtain ⟨I152, p147, c148, hl153, R149, hok, hsym⟩ := hst
 have le154 := IH.le.trans hl19 hl153
 replace R3 := R3.mono hl153
 refine Cod.at hok hsym (.seq (.sr (.ks 2 r (.len un27 r r r r (.ks 1 r (.nilS [12, 6, 5, 1, 0] r r (.condP r hd (fun hb156 hd => ?_) fun hb156 hd => ?_)))))))
 · refine .skipS [6, 5, 1, 0] r r (.seq (.block (.sr (.ks 2 r ?_))))
   obtain ⟨h157, x158, hx159, hd⟩ := hd
   obtain ⟨b160, o161, cs162, e163, hC164, hr165⟩ := R3.2 _ _ hx159
   cases hr165
   refine .ixa un27 sz3 r e163 r h157 (idx_lt hx159 h157) r r (.ld1 (j := 0) ia3 hC164 r r r r r (.ks 2 r ?_))
   refine splitP hd (fun hb166 hd => ?_) fun hb166 hd => ?_
   · rw [hb166]
     refine .ks 2 r ?_
     obtain ⟨h167, x168, hx169, hd⟩ := hd
     obtain ⟨b170, o171, cs172, e173, hC174, hr175⟩ := R3.2 _ _ hx169
     cases hr175
     refine .gyes r r r (.ixa un27 sz3 r e173 r h167 (idx_lt hx169 h167) r r (.gyes r r r (.ld1 (j := 0) ia3 hC174 r r r r r (.ks 4 r ?_))))
     refine splitP hd (fun hb176 hd => ?_) fun hb176 hd => ?_
     · rw [hb176]
       refine .ks 2 r ?_
       obtain ⟨h177, x178, hx179, hd⟩ := hd
       obtain ⟨b180, o181, cs182, e183, hC184, hr185⟩ := R3.2 _ _ hx179
       cases hr185
       refine .gyes r r r (.ixa un27 sz3 r e183 r h177 (idx_lt hx179 h177) r r (.gyes r r r (.ld1 (j := 0) ia3 hC184 r r r r r (.ks 2 r (.nilS [34, 6, 5, 1, 0] r r (.condP r hd (fun hb186 hd => ?_) fun hb186 hd => ?_))))))
       · refine .region (.ks 3 r ?_)
         obtain ⟨h187, x188, hx189, hd⟩ := hd
         obtain ⟨b190, o191, cs192, e193, hC194, hr195⟩ := R3.2 _ _ hx189
         cases hr195
         refine .ixa un27 sz3 r e193 r h187 (idx_lt hx189 h187) r r (.ld1 (j := 0) ia3 hC194 r r r r r ?_)
         have hw205 := W_ref03_Put (I := I152) R149 hd
         refine .call call116 r hw205 r r fun v200 I197 hl198 hv199 => ?_
         obtain ⟨r196, p202, c203, rfl, R204, hd⟩ := hv199
         have le206 := IH.le.trans le154 hl198
         have le207 := IH.le.trans hl153 hl198
         replace R3 := R3.mono hl198
         replace R149 := R149.mono hl198
         replace hC194 := hC194.mono hl198
         exact .ks 1 r (.nilS [5, 6, 1, 0] r r (.region (.ks 3 r (.nil' fun c w ho hs => ⟨(r196, w64 (s150 + 1)), hd, I197, _, _, le207, R204, ho.sub ⟨r, r, r, r, trivial⟩, hs.pick .n⟩))))
       exact .skipS [6, 5, 1, 0] r r (.region (.ks 3 r (.nil' fun c w ho hs => ⟨(s146, w64 (s150 + 1)), hd, I152, _, _, hl153, R149, ho.sub ⟨r, r, r, r, trivial⟩, hs.pick .n⟩)))
     rw [hb176]
     exact .ks 6 r (.nilS [34, 6, 5, 1, 0] r r (.condKF r r (.skipS [6, 5, 1, 0] r r (.region (.ks 3 r (.nil' fun c w ho hs => ⟨(s146, w64 (s150 + 1)), hd, I152, _, _, hl153, R149, ho.sub ⟨r, r, r, r, trivial⟩, hs.pick .n⟩))))))
   rw [hb166]
   exact .ks 14 r (.nilS [34, 6, 5, 1, 0] r r (.condKF r r (.skipS [6, 5, 1, 0] r r (.region (.ks 3 r (.nil' fun c w ho hs => ⟨(s146, w64 (s150 + 1)), hd, I152, _, _, hl153, R149, ho.sub ⟨r, r, r, r, trivial⟩, hs.pick .n⟩))))))
 exact .exitS [5] r r (.sr (.ks 2 r (.nilS [4] r r (.ret (pret results78 (.t r .n) le154 ⟨s146, _, _, r, R149, hd⟩)))))

theorem W_ref10_Of {I : IH} {a0 : Vec} {p1 : Option Addr} {c2 : Nat} {Q : Dense → Prop} (R3 : RepSl eItem I p1 c2 a0.Items) (hd : ref10_Of a0 Q) :
  PFun prog 29 [.agg #[.int .i64 a0.N, .slice p1 a0.Items.length c2]] I (fun I_ v => ∃ r p4 c5 p7 c8, v = .agg #[.int .i64 r.N, .slice p4 r.Has.length c5, .slice p7 r.Vals.length c8] ∧ RepSl eU64 I_ p4 c5 r.Has ∧ RepSl eI64 I_ p7 c8 r.Vals ∧ Q r) := by
 refine Fun.enter func29 r ntmps29 r (.c .n) fun w0 M => ?_
 refine .sr (.boxA r r r fun b14 => ?_)
 refine .allocA zv70 r r fun b16 => ?_
 refine .nilS [2, 1] r r (.sr (.loadW isAgg64 sizeOf64 r (.s .z) r r r ?_))
 have hw37 := W_ref09_Sure (I := I) R3 hd
 refine .call call76 r hw37 r r fun v32 I29 hl30 hv31 => ?_
 obtain ⟨r28, p34, c35, rfl, R36, hd⟩ := hv31
 replace R3 := R3.mono hl30
 refine .storeA sizeOf64 r r (.s .z) (.t (.t .nil)) r r (.nilS [2, 1] r r (.sr (.fa un64 r sz3 r (o := 0) r r r (.load1 ia3 r (.s .z) r r r ?_))))
 have hw68 := W_ref10_New (I := I29) hd
 refine .callO call77 r hw68 r r fun v59 I56 l60 hl57 hv58 => ?_
 obtain ⟨r55, p61, c62, p64, c65, rfl, R63, rfl, hd⟩ := hv58
 have le69 := IH.le.trans hl30 hl57
 replace R36 := R36.mono hl57
 refine .allocA zv70 r r fun b70 => ?_
 refine .storeA sz70 r r .z (.t (.t (.t .nil))) r r (.nilS [3, 2, 1] r r (.sr (.ks 1 r (.nilS [4, 3, 2, 1] r r (.seq (.sr (.ks 1 r (.nilS [5, 4, 3, 2, 1] r r (.block ?_)))))))))
 refine .own0 eI64 3 (.loop hd (fun (s : (List Int) × (List Int) × Int) c w => match s with | (s429, s433, s437) => ∃ I_ p430 c431 p434 c435, IH.le I56 I_ ∧ Ok ⟨48, [], none⟩ [(1, .pointer (some ⟨b14, 0, none⟩)), (2, .pointer (some ⟨b16, 0, none⟩)), (3, .pointer (some ⟨b70, 0, none⟩)), (4, .slice p434 s433.length c435), (5, .int .i64 s437)] c ∧ Sym w0 M I I_ [pto b14 (.cells #[.int .i64 r28.N, .slice p34 r28.Items.length c35] 64 (0, 0)), pto b16 (.cells #[.int .i64 0, .slice none 0 0, .slice none 0 0] 70 (0, 0)), pto b70 (.cells #[.int .i64 r55.N, .slice p61 r55.Has.length c62, .slice p430 s429.length c431] 70 (0, 0)), OwnSl eI64 2 p430 c431 s429, OwnSl eI64 3 p434 c435 s433] w) (fun c w ho hs => ⟨I56, _, _, _, _, (.refl _), ho.sub ⟨r, r, r, r, r, trivial⟩, hs.pick (.c (.s (.s (.s (.s .z)))) (.c (.s (.s (.s .z))) (.c (.s .z) (.c (.s .z) (.c .z .n)))))⟩) ?_)
 rintro ⟨s429, s433, s437⟩ next439 hd c w hst
 obtain ⟨I440, p430, c431, p434, c435, hl441, hok, hsym⟩ := hst
 have le442 := IH.le.trans le69 hl441
 replace R36 := R36.mono hl441
 replace R63 := R63.mono hl441
 refine Cod.at hok hsym (.seq (.sr (.ks 1 r (.fa un64 r sizeOf61 r (o := 1) r r r (.load1 isAgg61 r .z r r r (.len un61 r r r r (.ks 1 r (.nilS [15, 5, 4, 3, 2, 1] r r (.condP r hd (fun hb444 hd => ?_) fun hb444 hd => ?_)))))))))
 · refine .skipS [5, 4, 3, 2, 1] r r (.seq (.block (.sr (.ks 1 r (.fa un64 r sizeOf61 r (o := 1) r r r (.load1 isAgg61 r .z r r r (.ks 1 r ?_)))))))
   obtain ⟨h460, x461, hx462, hd⟩ := hd
   obtain ⟨b463, o464, cs465, e466, hC467, hr468⟩ := R36.2 _ _ hx462
   cases hr468
   refine .ixa un61 sz115 r e466 r h460 (idx_lt hx462 h460) r r (.fa un115 r sz3 r (o := o464 + s437.toNat * 2) r r r (.ld1 (j := 0) ia3 hC467 r r r r r (.buildSlice 1 un27 sz3 zv3 r r (.c r r r .n) r r fun b469 => ?_)))
   obtain ⟨hl471, hd⟩ := hd
   refine .append (ys := [x461.At]) 8 (.s (.s (.s (.s (.s .z))))) un27 un27 IN3 r r r r r r r r r (.box .z (.one r) r) hl471 r r fun p472 c473 => ?_
   refine .ks 1 r (.nilS [4, 5, 3, 2, 1] r r (.drop (.s .z) (.ownF .z fun hne475 => ?_)))
   refine .ownF (.s (.s (.s (.s .z)))) fun hne476 => ?_
   refine .dr [0, 1, 2, 3, 4, 5, 6, 7, 8, 9, 10, 11, 12, 13] 14 (.g r r r (fun _ => .fa un70 r sz28 r (o := 2) r r r .mk) (.g r r r (fun _ => .load1 ia28 r (.s (.s (.s .z))) r r r .mk) (.g r r r (fun _ => .fa un64 r sizeOf61 r (o := 1) r r r .mk) (.g r r r (fun _ => .load1 isAgg61 r (.s .z) r r r .mk) (.fk 1 r ?_)))))
   obtain ⟨h477, x478, hx479, hd⟩ := hd
   obtain ⟨b480, o481, cs482, e483, hC484, hr485⟩ := R36.2 _ _ hx479
   cases hr485
   refine .g r r r (fun _ => .ixa un61 sz115 r e483 r h477 (idx_lt hx479 h477) r r .mk) (.g r r r (fun _ => .fa un115 r sz3 r (o := o481 + s437.toNat * 2) r r r .mk) (.g r r r (fun _ => .ld1 (j := 0) ia3 hC484 r r r r r .mk) (.g r r r (fun _ => .fa un64 r sizeOf61 r (o := 1) r r r .mk) (.g r r r (fun _ => .load1 isAgg61 r (.s .z) r r r .mk) (.fk 1 r ?_)))))
   obtain ⟨h486, x487, hx488, hd⟩ := hd
   obtain ⟨b489, o490, cs491, e492, hC493, hr494⟩ := R36.2 _ _ hx488
   cases hr494
   refine .g r r r (fun _ => .ixa un61 sz115 r e492 r h486 (idx_lt hx488 h486) r r .mk) (.g r r r (fun _ => .fa un115 r sz2 r (o := o490 + s437.toNat * 2 + 1) r r r .mk) (.g r r r (fun _ => .ld1 (j := 1) ia2 hC493 r r r r r .mk) (.e2 14 ?_)))
   obtain ⟨h495, x496, hx497, hd⟩ := hd
   obtain ⟨b498, e499⟩ := hne476 (idx_ne hx497)
   cases e499
   exact .ixa0 un28 sz2 r r h495 (idx_lt hx497 h495) r r (.stO1 (j := 0) (v' := x487.Val) sz2 (.s (.s (.s (.s .z)))) hx497 r r r (.t .nil) r (.sub (E' := [(1, _), (2, _), (3, _), (5, _), (4, _), (27, _), (28, .slice (some ⟨b498, 0, none⟩) (s429.set x478.At.toNat x487.Val).length c431), (29, _), (30, _), (31, _), (32, _), (33, _), (34, _), (35, _), (36, _), (37, _), (38, _), (39, _), (40, _), (41, _)]) ⟨r, r, r, r, r, r, (by simp only [List.length_set]; rfl), r, r, r, r, r, r, r, r, r, r, r, r, r, trivial⟩ (.reat (.s (.s (.s .z))) (B := pto b70 (.cells #[.int .i64 r55.N, .slice p61 r55.Has.length c62, .slice (some ⟨b498, 0, none⟩) (s429.set x478.At.toNat x487.Val).length c431] 70 (0, 0))) (by simp only [List.length_set]) (.nilS [4, 5, 3, 2, 1] r r (.region (.ks 3 r (.nil' fun c w ho hs => ⟨((s429.set x478.At.toNat x487.Val), (s433 ++ ([x461.At])), w64 (s437 + 1)), hd, I440, _, _, _, _, hl441, ho.sub ⟨r, r, r, r, r, trivial⟩, hs.pick (.c (.s .z) (.c (.s .z) (.c (.s .z) (.c (.s .z) (.c .z .n)))))⟩)))))))
 refine .exitS [4, 3, 2, 1] r r (.sr (.fa un64 r sz3 r (o := 0) r r r (.load1 ia3 r .z r r r (.ks 1 r (.pub (.s (.s (.s (.s .z)))) fun I500 hl501 R502 => ?_)))))
 have le503 := IH.le.trans le442 hl501
 have le504 := IH.le.trans hl441 hl501
 replace R36 := R36.mono hl501
 replace R63 := R63.mono hl501
 have hw514 := W_ref03_Of (I := I500) R502 hd
 refine .call call78 r hw514 r r fun v509 I506 hl507 hv508 => ?_
 obtain ⟨r505, p511, c512, rfl, R513, hd⟩ := hv508
 have le515 := IH.le.trans le503 hl507
 have le516 := IH.le.trans le504 hl507
 replace R36 := R36.mono hl507
 replace R63 := R63.mono hl507
 replace R502 := R502.mono hl507
 refine .fa un70 r sizeOf68 r (o := 1) r r r (.store1 sizeOf68 r r (.s (.s .z)) (.s (.t .nil)) r (.nilS [3, 2] r r (.drop .z (.sr (.loadW ia70 sz70 r (.s .z) r r r (.storeA sz70 r r .z (.t (.t (.t .nil))) r r (.nilS [2] r r (.drop (.s .z) (.pub (.s .z) fun I517 hl518 R519 => ?_)))))))))
 have le520 := IH.le.trans le515 hl518
 have le521 := IH.le.trans le516 hl518
 replace R513 := R513.mono hl518
 exact .ret (pret results29 (.w ia70 sz70 r .z r .n) le520 ⟨({ N := r55.N, Has := r505, Vals := s429 } : Dense), _, _, _, _, r, R513, R519, hd⟩)

theorem W_ref13_SameSums {I : IH} {a0 : List Sum} {a1 : List Sum} {p1 : Option Addr} {c2 : Nat} {p4 : Option Addr} {c5 : Nat} {Q : Bool → Prop} (R3 : RepSl eSum I p1 c2 a0) (R6 : RepSl eSum I p4 c5 a1) (hd : ref13_SameSums a0 a1 Q) :
  PFun prog 30 [.slice p1 a0.length c2, .slice p4 a1.length c5] I (fun _ => o1_ Q) := by
 refine Fun.enter func30 r ntmps30 r (.c (.c .n)) fun w0 M => ?_
 refine .sr (.ks 1 r (.nilS [1, 0] r r (.seq (.sr (.ks 1 r (.len un65 r r r r (.ks 1 r (.len un65 r r r r (.ks 1 r ?_)))))))))
 refine .nilS [10, 1, 0] r r (.condP r hd (fun hb8 hd => ?_) fun hb8 hd => ?_)
 · exact .sr (.ks 1 r (.nilS [4] r r (.ret (pret results30 (.t r .n) (.refl _) ⟨false, r, hd⟩))))
 refine .skipS [1, 0] r r (.seq (.sr (.ks 1 r (.nilS [5, 1, 0] r r (.block (.loop hd (fun (s54 : Int) c w => ∃ I_, IH.le I I_ ∧ Ok ⟨26, [], none⟩ [(0, .slice p1 a0.length c2), (1, .slice p4 a1.length c5), (5, .int .i64 s54)] c ∧ Sym w0 M I I_ [] w) (fun c w ho hs => ⟨I, (.refl _), ho.sub ⟨r, r, r, trivial⟩, hs.pick .n⟩) ?_))))))
 rintro s54 next55 hd c w hst
 obtain ⟨I56, hl57, hok, hsym⟩ := hst
 replace R3 := R3.mono hl57
 replace R6 := R6.mono hl57
 refine Cod.at hok hsym (.seq (.sr (.ks 2 r (.len un65 r r r r (.ks 1 r (.nilS [14, 5, 1, 0] r r (.condP r hd (fun hb59 hd => ?_) fun hb59 hd => ?_)))))))
 · refine .skipS [5, 1, 0] r r (.seq (.block (.seq (.dr [0, 1, 2, 3, 4, 5, 6, 7, 8] 9 (.fk 2 r ?_)))))
   obtain ⟨h60, x61, hx62, hd⟩ := hd
   obtain ⟨b63, o64, cs65, e66, hC67, hr68⟩ := R3.2 _ _ hx62
   cases hr68
   refine .g r r r (fun _ => .ixa un65 sizeOf73 r e66 r h60 (idx_lt hx62 h60) r r .mk) (.g r r r (fun _ => .ldW isAgg73 sizeOf73 hC67 r r r r .mk) (.fk 2 r ?_))
   obtain ⟨h69, x70, hx71, hd⟩ := hd
   obtain ⟨b72, o73, cs74, e75, hC76, hr77⟩ := R6.2 _ _ hx71
   cases hr77
   refine .g r r r (fun _ => .ixa un65 sizeOf73 r e75 r h69 (idx_lt hx71 h69) r r .mk) (.g r r r (fun _ => .ldW isAgg73 sizeOf73 hC76 r r r r .mk) (.g r r r (fun _ => .neV r r (EQ73 x61 x70) (EG73 _ _ _ _ _) r r r .mk) (.e2 9 (.nilS [25, 5, 1, 0] r r (.condP r hd (fun hb78 hd => ?_) fun hb78 hd => ?_)))))
   · exact .sr (.ks 1 r (.nilS [4] r r (.ret (pret results30 (.t r .n) hl57 ⟨false, r, hd⟩))))
   exact .skipS [5, 1, 0] r r (.region (.ks 3 r (.nil' fun c w ho hs => ⟨(w64 (s54 + 1)), hd, I56, hl57, ho.sub ⟨r, r, r, trivial⟩, hs.pick .n⟩)))
 exact .exitS [] r r (.sr (.ks 1 r (.nilS [4] r r (.ret (pret results30 (.t r .n) hl57 ⟨true, r, hd⟩)))))

theorem W_law15_GemmColumns {I : IH} {a0 : Law15_Task} {a1 : Int} {p1 : Option Addr} {c2 : Nat} {p4 : Option Addr} {c5 : Nat} {p7 : Option Addr} {c8 : Nat} {Q : Bool → Prop} (R3 : RepSl eTriple I p1 c2 a0.A) (R6 : RepSl eTriple I p4 c5 a0.B) (R9 : RepSl eTriple I p7 c8 a0.M) (hd : law15_GemmColumns a0 a1 Q) :
  PFun prog 7 [.agg #[.int .i64 a0.Ring, .int .u8 a0.Size.1, .int .u8 a0.Size.2.1, .int .u8 a0.Size.2.2, .slice p1 a0.A.length c2, .slice p4 a0.B.length c5, .slice p7 a0.M.length c8], .int .u8 a1] I (fun _ => o1_ Q) := by
 refine Fun.enter func7 r ntmps7 r (.c (.c .n)) fun w0 M => ?_
 refine .sr (.boxA r r r fun b12 => ?_)
 refine .ks 1 r (.nilS [2, 1] r r (.sr (.loadW isAgg26 sizeOf26 r .z r r r ?_)))
 have hw83 := W_law15_Task_Three (I := I) R3 R6 R9 hd
 refine .call call8 r hw83 r r fun v54 I51 hl52 hv53 => ?_
 obtain ⟨r50, p56, c57, p59, c60, p62, c63, p65, c66, p68, c69, p71, c72, p74, c75, p77, c78, p80, c81, rfl, R58, R61, R64, R67, R70, R73, R76, R79, R82, hd⟩ := hv53
 replace R3 := R3.mono hl52
 replace R6 := R6.mono hl52
 replace R9 := R9.mono hl52
 refine .allocA zv31 r r fun b84 => ?_
 refine .storeA sizeOf31 r r .z (.t (.t (.t (.t (.t (.t (.t (.t (.t (.t (.t (.t (.t (.t (.t .nil))))))))))))))) r r (.nilS [5, 2, 1] r r (.sr (.fa un26 r sz22 r (o := 0) r r r (.load1 ia22 r (.s .z) r r r ?_))))
 have hw91 := W_law13_Right (I := I51) hd
 refine .callP call22 r hw91 r r fun v92 hv93 => ?_
 obtain ⟨r90, rfl, hd⟩ := hv93
 refine .ks 1 r (.nilS [6, 5, 1] r r (.drop (.s .z) (.seq (.sr (.ixArr (i := 1) un31 sz30 r r (by decide) (o := 5) r r r (.fa un30 r sz3 r (o := 6) r r r (.load1 ia3 r .z r r r (.ks 1 r (.nilS [23, 6, 5, 1] r r ?_)))))))))
 refine .condP r hd (fun hb99 hd => ?_) fun hb99 hd => ?_
 · refine .sr ?_
   have hw101 := W_law15_live (I := I51) hd
   refine .callP call15 r hw101 r r fun v102 hv103 => ?_
   obtain ⟨r100, rfl, hd⟩ := hv103
   exact .ks 1 r (.nilS [4] r r (.drop .z (.ret (pret results7 (.t r .n) hl52 ⟨r100, r, hd⟩))))
 refine .skipS [6, 5, 1] r r (.sr (.ks 1 r (.conv underlying5 un3 r r r (.ixArr (i := 1) un31 sz30 r r (by decide) (o := 5) r r r (.fa un30 r sz3 r (o := 6) r r r (.load1 ia3 r .z r r r ?_))))))
 obtain ⟨hz105, hd⟩ := hd
 refine .rem r r hz105 r r (.ks 1 r (.nilS [7, 6, 5] r r (.seq (.dr [0, 1, 2, 3, 4, 5, 6, 7, 8, 9, 10, 11, 12, 13, 14, 15, 16] 17 (.fk 1 r (.g r r r (fun _ => .ixArr (i := 0) un31 sz30 r r (by decide) (o := 0) r r r .mk) (.g r r r (fun _ => .loadA ia30 sz30 r .z (.t (.t (.t (.t (.t .nil))))) r r r .mk) (.g r r r (fun _ => .ixArr (i := 1) un31 sz30 r r (by decide) (o := 5) r r r .mk) (.g r r r (fun _ => .loadA ia30 sz30 r .z (.s (.s (.s (.s (.s (.t (.t (.t (.t (.t .nil)))))))))) r r r .mk) ?_)))))))))
 refine .g r r r (fun _ => .ixArr (i := 0) un31 sz30 r r (by decide) (o := 0) r r r .mk) (.g r r r (fun _ => .fa un30 r sz3 r (o := 0) r r r .mk) (.g r r r (fun _ => .load1 ia3 r .z r r r .mk) (.g r r r (fun _ => .ixArr (i := 1) un31 sz30 r r (by decide) (o := 5) r r r .mk) (.g r r r (fun _ => .fa un30 r sz3 r (o := 6) r r r .mk) (.g r r r (fun _ => .load1 ia3 r .z r r r .mk) (.ww r fun ex => ?_))))))
 have hw149 := W_law15_full (I := I51) hd
 refine .call call25 r hw149 r r fun v138 I135 hl136 hv137 => ?_
 obtain ⟨r134, p140, c141, p143, c144, p146, c147, rfl, R142, R145, R148, hd⟩ := hv137
 have le150 := IH.le.trans hl52 hl136
 replace R58 := R58.mono hl136
 replace R61 := R61.mono hl136
 replace R64 := R64.mono hl136
 replace R67 := R67.mono hl136
 replace R70 := R70.mono hl136
 replace R73 := R73.mono hl136
 replace R76 := R76.mono hl136
 replace R79 := R79.mono hl136
 replace R82 := R82.mono hl136
 refine .so 1 r r r (.cg r r r r (fun _ => .loadA ia30 sz30 r .z (.s (.s (.s (.s (.s (.t (.t (.t (.t (.t .nil)))))))))) r r r .mk) (.cg r r r r (fun _ => .ixArr (i := 1) un31 sz30 r r (by decide) (o := 5) r r r .mk) (.cg r r r r (fun _ => .loadA ia30 sz30 r .z (.t (.t (.t (.t (.t .nil))))) r r r .mk) (.cg r r r r (fun _ => .ixArr (i := 0) un31 sz30 r r (by decide) (o := 0) r r r .mk) (.ck 1 r r trivial))))) (.ww r fun ex => ?_)
 have hw160 := W_gemm_Cells (I := I135) R58 R61 R64 R67 R70 R73 R142 R145 R148 hd
 refine .call call9 r hw160 r r fun v155 I152 hl153 hv154 => ?_
 obtain ⟨r151, p157, c158, rfl, R159, hd⟩ := hv154
 have le161 := IH.le.trans le150 hl153
 replace R58 := R58.mono hl153
 replace R61 := R61.mono hl153
 replace R64 := R64.mono hl153
 replace R67 := R67.mono hl153
 replace R70 := R70.mono hl153
 replace R73 := R73.mono hl153
 replace R76 := R76.mono hl153
 replace R79 := R79.mono hl153
 replace R82 := R82.mono hl153
 replace R142 := R142.mono hl153
 replace R145 := R145.mono hl153
 replace R148 := R148.mono hl153
 refine .so 1 r r r trivial (.fk 4 r (.e2 17 (.ks 1 r (.nilS [9, 8, 7, 6, 5] r r (.seq (.dr [0, 1, 2, 3, 4, 6, 9, 5, 7, 8, 999] 10 (.g r r r (fun _ => .ixArr (i := 1) un31 sz30 r r (by decide) (o := 5) r r r .mk) (.g r r r (fun _ => .fa un30 r sz3 r (o := 5) r r r .mk) (.g r r r (fun _ => .load1 ia3 r .z r r r .mk) ?_)))))))))
 refine .g r r r (fun _ => .ixArr (i := 1) un31 sz30 r r (by decide) (o := 5) r r r .mk) (.g r r r (fun _ => .loadA ia30 sz30 r .z (.s (.s (.s (.s (.s (.t (.t (.t (.t (.t .nil)))))))))) r r r .mk) (.fk 1 r (.a (fun b => .pointer (some ⟨b, 0, none⟩)) (fun b => pto b (.cells #[.int .i64 0, .slice none 0 0] 64 (0, 0))) r r r r (fun _ L hL ex => .allocA zeroValue64 r r fun b => .mk (val := fun b => .pointer (some ⟨b, 0, none⟩)) (atom := fun b => pto b (.cells #[.int .i64 0, .slice none 0 0] 64 (0, 0))) hL b) (.ww r fun ex => ?_))))
 have hw208 := W_ref07_Turn (I := I152) R67 R70 R73 hd
 refine .call call27 r hw208 r r fun v197 I194 hl195 hv196 => ?_
 obtain ⟨r193, p199, c200, p202, c203, p205, c206, rfl, R201, R204, R207, hd⟩ := hv196
 have le209 := IH.le.trans le161 hl195
 replace R58 := R58.mono hl195
 replace R61 := R61.mono hl195
 replace R64 := R64.mono hl195
 replace R67 := R67.mono hl195
 replace R70 := R70.mono hl195
 replace R73 := R73.mono hl195
 replace R76 := R76.mono hl195
 replace R79 := R79.mono hl195
 replace R82 := R82.mono hl195
 replace R159 := R159.mono hl195
 refine .so 1 r r r (.ck 1 r r (.cg r r r r (fun _ => .load1 ia3 r .z r r r .mk) (.cg r r r r (fun _ => .fa un30 r sz3 r (o := 5) r r r .mk) (.cg r r r r (fun _ => .ixArr (i := 1) un31 sz30 r r (by decide) (o := 5) r r r .mk) trivial)))) (.ww r fun ex => ?_)
 have hw219 := W_ref07_Row (I := I194) R201 R204 R207 hd
 refine .call call26 r hw219 r r fun v214 I211 hl212 hv213 => ?_
 obtain ⟨r210, p216, c217, rfl, R218, hd⟩ := hv213
 have le220 := IH.le.trans le209 hl212
 replace R58 := R58.mono hl212
 replace R61 := R61.mono hl212
 replace R64 := R64.mono hl212
 replace R67 := R67.mono hl212
 replace R70 := R70.mono hl212
 replace R73 := R73.mono hl212
 replace R76 := R76.mono hl212
 replace R79 := R79.mono hl212
 replace R82 := R82.mono hl212
 replace R159 := R159.mono hl212
 replace R201 := R201.mono hl212
 replace R204 := R204.mono hl212
 replace R207 := R207.mono hl212
 refine .so 1 r r r (.cg r r r r (fun _ => .load1 ia3 r .z r r r .mk) (.cg r r r r (fun _ => .fa un30 r sz3 r (o := 5) r r r .mk) (.cg r r r r (fun _ => .ixArr (i := 1) un31 sz30 r r (by decide) (o := 5) r r r .mk) trivial))) (.g r r r (fun _ => .build zeroValue64 un64 BI64 (.c r r r (.t .nil) (.c r r r (.s (.t .nil)) .n)) (by exact ⟨⟨_, _, r, r, r⟩, ⟨⟨_, _, r, r, r⟩, trivial⟩⟩) r r .mk) (.b r fun b221 => DrawD.nop (.e2 10 (.storeA sizeOf64 r r (.s .z) (.t (.t .nil)) r r (.nilS [10, 9, 8, 7, 6, 5] r r (.seq (.dr [0, 1, 2, 3, 4, 5, 6, 7, 8, 9] 10 (.fk 1 r (.g r r r (fun _ => .ixArr (i := 0) un31 sz30 r r (by decide) (o := 0) r r r .mk) ?_)))))))))
 refine .g r r r (fun _ => .loadA ia30 sz30 r .z (.t (.t (.t (.t (.t .nil))))) r r r .mk) (.g r r r (fun _ => .loadW isAgg64 sizeOf64 r (.s .z) r r r .mk) (.ww r fun ex => ?_))
 have hw259 := W_ref10_Of (I := I211) (a0 := ({ N := r50.2.1.Rows, Items := r210 } : Vec)) R218 hd
 refine .call call29 r hw259 r r fun v251 I248 hl249 hv250 => ?_
 obtain ⟨r247, p253, c254, p256, c257, rfl, R255, R258, hd⟩ := hv250
 have le260 := IH.le.trans le220 hl249
 replace R58 := R58.mono hl249
 replace R61 := R61.mono hl249
 replace R64 := R64.mono hl249
 replace R67 := R67.mono hl249
 replace R70 := R70.mono hl249
 replace R73 := R73.mono hl249
 replace R76 := R76.mono hl249
 replace R79 := R79.mono hl249
 replace R82 := R82.mono hl249
 replace R159 := R159.mono hl249
 replace R218 := R218.mono hl249
 refine .so 2 r r r (.cg r r r r (fun _ => .loadA ia30 sz30 r .z (.t (.t (.t (.t (.t .nil))))) r r r .mk) (.cg r r r r (fun _ => .ixArr (i := 0) un31 sz30 r r (by decide) (o := 0) r r r .mk) (.ck 1 r r trivial))) (.ww r fun ex => ?_)
 have hw270 := W_pull_Sums (I := I248) R58 R61 R64 R255 R258 (.nil _ none 0) hd
 refine .call call28 r hw270 r r fun v265 I262 hl263 hv264 => ?_
 obtain ⟨r261, p267, c268, rfl, R269, hd⟩ := hv264
 have le271 := IH.le.trans le260 hl263
 replace R58 := R58.mono hl263
 replace R61 := R61.mono hl263
 replace R64 := R64.mono hl263
 replace R67 := R67.mono hl263
 replace R70 := R70.mono hl263
 replace R73 := R73.mono hl263
 replace R76 := R76.mono hl263
 replace R79 := R79.mono hl263
 replace R82 := R82.mono hl263
 replace R159 := R159.mono hl263
 replace R218 := R218.mono hl263
 replace R255 := R255.mono hl263
 replace R258 := R258.mono hl263
 refine .so 2 r r r trivial (.fk 4 r (.e2 10 (.ks 1 r (.nilS [12, 11, 9, 8, 7] r r (.drop .z (.drop .z (.sr (.ks 1 r (.nilS [13, 12, 11, 9, 8, 7] r r ?_)))))))))
 refine .seq (.sr (.ks 1 r (.nilS [14, 13, 12, 11, 9, 8, 7] r r (.block (.own0 eSum 73 (.loop hd (fun (s : (List Sum) × Int) c w => match s with | (s542, s546) => ∃ I_ p543 c544, IH.le I262 I_ ∧ Ok ⟨106, [], none⟩ [(7, .int .i64 ((w64 (a1)).tmod r50.2.1.Cols)), (8, .slice p157 r151.1.length c158), (9, .int .i64 r151.2), (11, .slice p267 r261.1.length c268), (12, .int .i64 r261.2), (13, .slice p543 s542.length c544), (14, .int .i64 s546)] c ∧ Sym w0 M I I_ [OwnSl eSum 73 p543 c544 s542] w) (fun c w ho hs => ⟨I262, _, _, (.refl _), ho.sub ⟨r, r, r, r, r, r, r, trivial⟩, hs.pick (.c .z .n)⟩) ?_))))))
 rintro ⟨s542, s546⟩ next548 hd c w hst
 obtain ⟨I549, p543, c544, hl550, hok, hsym⟩ := hst
 have le551 := IH.le.trans le271 hl550
 replace R159 := R159.mono hl550
 replace R269 := R269.mono hl550
 refine Cod.at hok hsym (.seq (.sr (.ks 2 r (.len un33 r r r r (.ks 1 r (.nilS [68, 14, 13, 12, 11, 9, 8, 7] r r (.condP r hd (fun hb553 hd => ?_) fun hb553 hd => ?_)))))))
 · refine .skipS [14, 13, 12, 11, 9, 8, 7] r r (.seq (.block (.sr (.ks 2 r ?_))))
   obtain ⟨h563, x564, hx565, hd⟩ := hd
   obtain ⟨b566, o567, cs568, e569, hC570, hr571⟩ := R159.2 _ _ hx565
   cases hr571
   refine .ixa un33 sz59 r e569 r h563 (idx_lt hx565 h563) r r (.fa un59 r sz3 r (o := o567 + s546.toNat * 4 + 1) r r r (.ld1 (j := 1) ia3 hC570 r r r r r (.ks 2 r (.nilS [77, 14, 13, 12, 11, 9, 8, 7] r r (.condP r hd (fun hb572 hd => ?_) fun hb572 hd => ?_)))))
   · refine .ownF .z fun hne573 => ?_
     refine .dr [0, 1, 2, 3, 4, 5, 6, 7, 8, 9, 10, 11, 12, 13] 14 (.fk 3 r ?_)
     obtain ⟨h574, x575, hx576, hd⟩ := hd
     obtain ⟨b577, o578, cs579, e580, hC581, hr582⟩ := R159.2 _ _ hx576
     cases hr582
     refine .g r r r (fun _ => .ixa un33 sz59 r e580 r h574 (idx_lt hx576 h574) r r .mk) (.g r r r (fun _ => .fa un59 r sz3 r (o := o578 + s546.toNat * 4) r r r .mk) (.g r r r (fun _ => .ld1 (j := 0) ia3 hC581 r r r r r .mk) (.fk 2 r ?_)))
     obtain ⟨h583, x584, hx585, hd⟩ := hd
     obtain ⟨b586, o587, cs588, e589, hC590, hr591⟩ := R159.2 _ _ hx585
     cases hr591
     refine .g r r r (fun _ => .ixa un33 sz59 r e589 r h583 (idx_lt hx585 h583) r r .mk) (.g r r r (fun _ => .fa un59 r sz57 r (o := o587 + s546.toNat * 4 + 2) r r r .mk) (.g r r r (fun _ => .ldA (j := 2) ia57 sz57 hC590 r r (.s (.s (.t (.t .nil)))) r r r .mk) (.g r r r (fun _ => .build zeroValue73 underlying73 BI73 (.c r r r (.t .nil) (.c r r r (.s (.t (.t .nil))) .n)) (by exact ⟨⟨_, _, r, r, r⟩, ⟨⟨_, _, r, r, r⟩, trivial⟩⟩) r r .mk) (.ww r fun ex => ?_))))
     refine .buildSlice 1 un65 sizeOf73 zeroValue73 r r (.c r r r .n) r r fun b592 => ?_
     refine .so 2 r r r (.ck 1 r r trivial) (.ww r fun ex => ?_)
     obtain ⟨hl594, hd⟩ := hd
     refine .append (ys := [({ At := x575.Row, Val := x584.Val } : Sum)]) 24 (.s .z) un65 un65 IN73 r r r r r r r r r (.box .z (.one r) r) hl594 r r fun p595 c596 => ?_
     exact .so 2 r r r trivial (.e2 14 (.ks 1 r (.nilS [13, 14, 12, 11, 9, 8, 7] r r (.drop (.s .z) (.region (.ks 3 r (.nil' fun c w ho hs => ⟨((s542 ++ ([({ At := x575.Row, Val := x584.Val } : Sum)])), w64 (s546 + 1)), hd, I549, _, _, hl550, ho.sub ⟨r, r, r, r, r, r, r, trivial⟩, hs.pick (.c .z .n)⟩)))))))
   exact .skipS [14, 13, 12, 11, 9, 8, 7] r r (.region (.ks 3 r (.nil' fun c w ho hs => ⟨(s542, w64 (s546 + 1)), hd, I549, _, _, hl550, ho.sub ⟨r, r, r, r, r, r, r, trivial⟩, hs.pick (.c .z .n)⟩)))
 refine .exitS [13, 12, 11, 9] r r (.sr ?_)
 have hw599 := W_law15_live (I := I549) hd
 refine .callP call15 r hw599 r r fun v600 hv601 => ?_
 obtain ⟨r598, rfl, hd⟩ := hv601
 refine .ks 1 r ?_
 refine splitP hd (fun hb602 hd => ?_) fun hb602 hd => ?_
 · rw [hb602]
   refine .ks 4 r ?_
   refine splitP hd (fun hb603 hd => ?_) fun hb603 hd => ?_
   · rw [hb603]
     refine .ks 4 r ?_
     refine splitP hd (fun hb604 hd => ?_) fun hb604 hd => ?_
     · rw [hb604]
       refine .ks 2 r ?_
       have hw606 := fun (J : IH) (hJ : IH.le I549 J) (hL : lentAll J [OwnSl eSum 73 p543 c544 s542]) => W_ref13_SameSums (I := J) (lent hL.1) (R269.mono hJ) hd
       refine .gyes r r r (.callB (.f call30 r) (.c .z .n) hw606 r r fun v607 _ hv608 => ?_)
       obtain ⟨r605, rfl, hd⟩ := hv608
       exact .ks 2 r (.nilS [4] r r (.drop .z (.ret (pret results7 (.t r .n) le551 ⟨r605, r, hd⟩))))
     rw [hb604]
     exact .ks 5 r (.nilS [4] r r (.drop .z (.ret (pret results7 (.t r .n) le551 ⟨false, r, hd⟩))))
   rw [hb603]
   exact .ks 9 r (.nilS [4] r r (.drop .z (.ret (pret results7 (.t r .n) le551 ⟨false, r, hd⟩))))
 rw [hb602]
 exact .ks 13 r (.nilS [4] r r (.drop .z (.ret (pret results7 (.t r .n) le551 ⟨false, r, hd⟩))))

end Go.Proofs.YtjabmpfcpekpdaaGreat
