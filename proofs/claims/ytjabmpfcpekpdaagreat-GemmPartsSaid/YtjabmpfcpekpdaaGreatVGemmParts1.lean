/- The walks (printed by a program of ours). -/
import Derived.Test.YtjabmpfcpekpdaaGreatV2
namespace Go.Proofs.YtjabmpfcpekpdaaGreat
open Go Go.Fw
set_option linter.unusedVariables false
set_option linter.unusedSimpArgs false
set_option maxRecDepth 8000
set_option maxHeartbeats 1000000
open Tryz
theorem W_law15_small {I : IH} {a0 : Int} {Q : Int → Prop}  (hd : law15_small a0 Q) :
  PFun prog 31 [.int .u8 a0] I (fun I_ v => ∃ r, v = .int .u8 r ∧ Q r) := by
 refine Fun.enter func31 r ntmps31 r (.c .n) fun w0 M => ?_
 exact .sr (.ks 1 r (.nilS [0] r r (.sr (.ks 1 r (.rem r r (by decide) r r (.ks 1 r (.nilS [2] r r (.ret (pret results31 (.t r .n) (.refl _) ⟨(a0.tmod 14), r, hd⟩)))))))))

theorem W_law13_Right {I : IH} {a0 : Int} {Q : Int → Prop}  (hd : law13_Right a0 Q) :
  PFun prog 22 [.int .i64 a0] I (fun _ => o0_ Q) := by
 refine Fun.enter func22 r ntmps22 r (.c .n) fun w0 M => ?_
 refine .sr (.ks 1 r (.nilS [0] r r (.seq (.sr (.ks 3 r ?_)))))
 refine splitP hd (fun hb1 hd => ?_) fun hb1 hd => ?_
 · rw [hb1]
   exact .ks 3 r (.nilS [8, 0] r r (.condKT r r (.sr (.ks 1 r (.nilS [2] r r (.ret (pret results22 (.t r .n) (.refl _) ⟨1, r, hd⟩)))))))
 rw [hb1]
 refine .ks 3 r (.nilS [8, 0] r r (.condP r hd (fun hb2 hd => ?_) fun hb2 hd => ?_))
 · exact .sr (.ks 1 r (.nilS [2] r r (.ret (pret results22 (.t r .n) (.refl _) ⟨1, r, hd⟩))))
 exact .skipS [0] r r (.sr (.ks 2 r (.nilS [2] r r (.ret (pret results22 (.t r .n) (.refl _) ⟨a0, r, hd⟩)))))

theorem W_law07_Size {I : IH} {a0 : Int} {Q : Int → Prop}  (hd : law07_Size a0 Q) :
  PFun prog 117 [.int .u8 a0] I (fun _ => o0_ Q) := by
 refine Fun.enter func117 r ntmps117 r (.c .n) fun w0 M => ?_
 exact .sr (.ks 1 r (.nilS [0] r r (.sr (.ks 1 r (.conv underlying5 un3 r r r (.rem r r (by decide) r r (.ks 1 r (.nilS [2] r r (.ret (pret results117 (.t r .n) (.refl _) ⟨((w64 (a0)).tmod 40), r, hd⟩))))))))))

theorem W_law07_Few {I : IH} {a0 : List Triple} {p1 : Option Addr} {c2 : Nat} {Q : (List Triple) → Prop} (R3 : RepSl eTriple I p1 c2 a0) (hd : law07_Few a0 Q) :
  PFun prog 118 [.slice p1 a0.length c2] I (fun I_ v => ∃ r p4 c5, v = .slice p4 r.length c5 ∧ RepSl eTriple I_ p4 c5 r ∧ Q r) := by
 refine Fun.enter func118 r ntmps118 r (.c .n) fun w0 M => ?_
 refine .sr (.ks 1 r (.nilS [0] r r (.seq (.sr (.ks 1 r (.len un24 r r r r (.ks 1 r (.nilS [5, 0] r r (.condP r hd (fun hb7 hd => ?_) fun hb7 hd => ?_)))))))))
 · refine .region (.ks 1 r ?_)
   obtain ⟨h8, h9, h10, hd⟩ := hd
   have h16 : Int.toNat 0 ≤ Int.toNat 60 := by omega
   have h17 : Int.toNat 60 ≤ a0.length := by omega
   obtain ⟨p11, c12, e14, e15, R13⟩ := RepSl.sliceW R3 (Int.toNat 0) (Int.toNat 60) c2 h16 h17 (.inl rfl)
   exact .sliceW (L := Int.toNat 0) (H := Int.toNat 60) (cm := c2) un24 sz91 r r R3.1 r r r (.inl ⟨r, r⟩) (.inr ⟨_, _, r, (by omega), r⟩) (.inl r) h16 h17 r e14 e15 r r (.ks 1 r (.nilS [0] r r (.sr (.ks 2 r (.nilS [2] r r (.ret (pret results118 (.t r .n) (.refl _) ⟨((a0.take (Int.toNat 60)).drop (Int.toNat 0)), _, _, r, R13, hd⟩)))))))
 exact .skipS [0] r r (.sr (.ks 2 r (.nilS [2] r r (.ret (pret results118 (.t r .n) (.refl _) ⟨a0, _, _, r, R3, hd⟩)))))

theorem W_law07_Some {I : IH} {a0 : Int × Int} {a1 : List Triple} {p1 : Option Addr} {c2 : Nat} {Q : Rows → Prop} (R3 : RepSl eTriple I p1 c2 a1) (hd : law07_Some a0 a1 Q) :
  PFun prog 79 [.agg #[.int .u8 a0.1, .int .u8 a0.2], .slice p1 a1.length c2] I (o3_ Q) := by
 refine Fun.enter func79 r ntmps79 r (.c (.c .n)) fun w0 M => ?_
 refine .sr (.boxA r r r fun b17 => ?_)
 refine .allocA zv30 r r fun b19 => ?_
 refine .nilS [4, 2, 1] r r (.seq (.dr [0, 1, 3, 4, 2, 5, 6] 7 (.g r r r (fun _ => .ixArr (i := 0) un76 sz5 r r (by decide) (o := 0) r r r .mk) (.g r r r (fun _ => .load1 isAgg5 r (.s .z) r r r .mk) (.g r r r (fun _ => .ixArr (i := 1) un76 sz5 r r (by decide) (o := 1) r r r .mk) (.g r r r (fun _ => .load1 isAgg5 r (.s .z) r r r .mk) (.ww r fun ex => ?_)))))))
 have hw30 := W_law07_Size (I := I) hd
 refine .callP call117 r hw30 r r fun v31 hv32 => ?_
 obtain ⟨r29, rfl, hd⟩ := hv32
 refine .so 2 r r r (.cg r r r r (fun _ => .load1 isAgg5 r (.s .z) r r r .mk) (.cg r r r r (fun _ => .ixArr (i := 1) un76 sz5 r r (by decide) (o := 1) r r r .mk) trivial)) (.ww r fun ex => ?_)
 have hw34 := W_law07_Size (I := I) hd
 refine .callP call117 r hw34 r r fun v35 hv36 => ?_
 obtain ⟨r33, rfl, hd⟩ := hv36
 refine .so 2 r r r trivial (.fk 1 r (.e2 7 (.ks 1 r (.nilS [6, 5, 4, 1] r r (.drop (.s .z) (.sr (.ks 1 r (.nilS [7, 6, 5, 4, 1] r r (.sr ?_)))))))))
 refine .ks 1 r ?_
 have hw56 := W_law07_Few (I := I) R3 hd
 refine .call call118 r hw56 r r fun v51 I48 hl49 hv50 => ?_
 obtain ⟨r47, p53, c54, rfl, R55, hd⟩ := hv50
 replace R3 := R3.mono hl49
 refine .ks 1 r (.nilS [1, 7, 6, 5, 4] r r (.seq (.sr (.ks 1 r (.nilS [8, 1, 7, 6, 5, 4] r r (.block (.own0 eTriple 91 (.loop hd (fun (s : (List Triple) × Int) c w => match s with | (s304, s308) => ∃ I_ p305 c306, IH.le I48 I_ ∧ Ok ⟨73, [], none⟩ [(1, .slice p53 r47.length c54), (4, .pointer (some ⟨b19, 0, none⟩)), (5, .int .i64 r29), (6, .int .i64 r33), (7, .slice p305 s304.length c306), (8, .int .i64 s308)] c ∧ Sym w0 M I I_ [pto b19 (.cells #[.int .i64 0, .int .i64 0, .slice none 0 0, .slice none 0 0, .slice none 0 0] 30 (0, 0)), OwnSl eTriple 91 p305 c306 s304] w) (fun c w ho hs => ⟨I48, _, _, (.refl _), ho.sub ⟨r, r, r, r, r, r, trivial⟩, hs.pick (.c (.s .z) (.c .z .n))⟩) ?_))))))))
 rintro ⟨s304, s308⟩ next310 hd c w hst
 obtain ⟨I311, p305, c306, hl312, hok, hsym⟩ := hst
 have le313 := IH.le.trans hl49 hl312
 replace R55 := R55.mono hl312
 refine Cod.at hok hsym (.seq (.sr (.ks 2 r (.len un24 r r r r (.ks 1 r (.nilS [23, 8, 7, 6, 5, 4, 1] r r (.condP r hd (fun hb315 hd => ?_) fun hb315 hd => ?_)))))))
 · refine .skipS [8, 7, 6, 5, 4, 1] r r (.seq (.block (.sr (.ks 2 r ?_))))
   obtain ⟨h327, x328, hx329, hd⟩ := hd
   obtain ⟨b330, o331, cs332, e333, hC334, hr335⟩ := R55.2 _ _ hx329
   cases hr335
   refine .ixa un24 sz91 r e333 r h327 (idx_lt hx329 h327) r r (.ldW isAgg91 sz91 hC334 r r r r (.allocA zv91 r r fun b336 => ?_))
   refine .storeA sz91 r r .z (.t (.t (.t .nil))) r r (.nilS [9, 8, 7, 6, 5, 4, 1] r r (.seq (.sr (.fa un91 r sz3 r (o := 0) r r r (.load1 ia3 r .z r r r (.ks 2 r ?_))))))
   refine splitP hd (fun hb342 hd => ?_) fun hb342 hd => ?_
   · rw [hb342]
     exact .ks 12 r (.nilS [45, 9, 8, 7, 6, 5, 4, 1] r r (.condKT r r (.exitS [8, 7, 6, 5, 4, 1] r r (.drop .z (.region (.ks 3 r (.nil' fun c w ho hs => ⟨(s304, w64 (s308 + 1)), hd, I311, _, _, hl312, ho.sub ⟨r, r, r, r, r, r, trivial⟩, hs.pick (.c .z (.c .z .n))⟩)))))))
   rw [hb342]
   refine .gyes r r r (.fa un91 r sz3 r (o := 1) r r r (.gyes r r r (.load1 ia3 r .z r r r (.ks 3 r ?_))))
   refine splitP hd (fun hb343 hd => ?_) fun hb343 hd => ?_
   · rw [hb343]
     exact .ks 7 r (.nilS [45, 9, 8, 7, 6, 5, 4, 1] r r (.condKT r r (.exitS [8, 7, 6, 5, 4, 1] r r (.drop .z (.region (.ks 3 r (.nil' fun c w ho hs => ⟨(s304, w64 (s308 + 1)), hd, I311, _, _, hl312, ho.sub ⟨r, r, r, r, r, r, trivial⟩, hs.pick (.c .z (.c .z .n))⟩)))))))
   rw [hb343]
   refine .ks 4 r ?_
   refine splitP hd (fun hb344 hd => ?_) fun hb344 hd => ?_
   · rw [hb344]
     exact .ks 3 r (.nilS [45, 9, 8, 7, 6, 5, 4, 1] r r (.condKT r r (.exitS [8, 7, 6, 5, 4, 1] r r (.drop .z (.region (.ks 3 r (.nil' fun c w ho hs => ⟨(s304, w64 (s308 + 1)), hd, I311, _, _, hl312, ho.sub ⟨r, r, r, r, r, r, trivial⟩, hs.pick (.c .z (.c .z .n))⟩)))))))
   rw [hb344]
   refine .ks 3 r (.nilS [45, 9, 8, 7, 6, 5, 4, 1] r r (.condP r hd (fun hb345 hd => ?_) fun hb345 hd => ?_))
   · exact .exitS [8, 7, 6, 5, 4, 1] r r (.drop .z (.region (.ks 3 r (.nil' fun c w ho hs => ⟨(s304, w64 (s308 + 1)), hd, I311, _, _, hl312, ho.sub ⟨r, r, r, r, r, r, trivial⟩, hs.pick (.c .z (.c .z .n))⟩))))
   refine .skipS [9, 8, 7, 6, 5, 4, 1] r r (.sr (.fa un91 r sz3 r (o := 0) r r r (.load1 ia3 r .z r r r (.ks 1 r ?_))))
   obtain ⟨hz347, hd⟩ := hd
   refine .rem r r hz347 r r (.fa un91 r sz3 r (o := 0) r r r (.store1 sz3 r r .z (.t .nil) r (.nilS [9, 8, 7, 6, 5, 4, 1] r r (.sr (.fa un91 r sz3 r (o := 1) r r r (.load1 ia3 r .z r r r (.ks 1 r ?_)))))))
   obtain ⟨hz348, hd⟩ := hd
   refine .rem r r hz348 r r (.fa un91 r sz3 r (o := 1) r r r (.store1 sz3 r r .z (.s (.t .nil)) r (.nilS [9, 8, 7, 6, 5, 4, 1] r r (.region (.ks 1 r (.loadW isAgg91 sz91 r .z r r r (.buildSlice 1 un24 sz91 zv91 r r (.c r r r .n) r r fun b349 => ?_)))))))
   obtain ⟨hl351, hd⟩ := hd
   refine .append (ys := [({ Row := x328.Row.tmod r29, Col := x328.Col.tmod r33, Val := x328.Val } : Triple)]) 24 (.s (.s (.s .z))) un24 un24 IN91 r r r r r r r r r (.box .z (.one r) r) hl351 r r fun p352 c353 => ?_
   exact .ks 1 r (.nilS [7, 8, 6, 5, 4, 1] r r (.drop (.s .z) (.drop (.s .z) (.region (.ks 3 r (.nil' fun c w ho hs => ⟨((s304 ++ ([({ Row := x328.Row.tmod r29, Col := x328.Col.tmod r33, Val := x328.Val } : Triple)])), w64 (s308 + 1)), hd, I311, _, _, hl312, ho.sub ⟨r, r, r, r, r, r, trivial⟩, hs.pick (.c (.s .z) (.c .z .n))⟩))))))
 refine .exitS [7, 6, 5, 4] r r (.sr (.ks 3 r (.pub (.s .z) fun I380 hl381 R382 => ?_)))
 have le383 := IH.le.trans le313 hl381
 have le384 := IH.le.trans hl312 hl381
 have hw400 := W_ref07_Of (I := I380) R382 hd
 refine .call call51 r hw400 r r fun v389 I386 hl387 hv388 => ?_
 obtain ⟨r385, p391, c392, p394, c395, p397, c398, rfl, R393, R396, R399, hd⟩ := hv388
 have le401 := IH.le.trans le383 hl387
 have le402 := IH.le.trans le384 hl387
 replace R382 := R382.mono hl387
 refine .ks 3 r (.allocA zv30 r r fun b403 => ?_)
 refine .storeA sz30 r r .z (.t (.t (.t (.t (.t .nil))))) r r (.ks 1 r (.nilS [11, 10, 6, 5, 4] r r (.seq (.sr (.ks 2 r (.nilS [68, 10, 6, 5, 4] r r (.condP r hd (fun hb405 hd => ?_) fun hb405 hd => ?_)))))))
 · refine .sr (.ks 2 r ?_)
   have hw424 := W_ref07_Empty (I := I386) hd
   refine .callO call84 r hw424 r r fun v410 I407 l411 hl408 hv409 => ?_
   obtain ⟨r406, p412, c413, p415, c416, p418, c419, rfl, rfl, hd⟩ := hv409
   have le425 := IH.le.trans le401 hl408
   have le426 := IH.le.trans le402 hl408
   replace R393 := R393.mono hl408
   replace R396 := R396.mono hl408
   replace R399 := R399.mono hl408
   refine .storeA sz30 r r (.s (.s (.s (.s .z)))) (.t (.t (.t (.t (.t .nil))))) r r (.nilS [4] r r (.drop (.s (.s (.s .z))) (.pub .z fun I427 hl428 R429 => ?_)))
   have le430 := IH.le.trans le425 hl428
   have le431 := IH.le.trans le426 hl428
   refine .pub .z fun I432 hl433 R434 => ?_
   have le435 := IH.le.trans le430 hl433
   have le436 := IH.le.trans le431 hl433
   replace R429 := R429.mono hl433
   refine .pub .z fun I437 hl438 R439 => ?_
   have le440 := IH.le.trans le435 hl438
   have le441 := IH.le.trans le436 hl438
   replace R429 := R429.mono hl438
   replace R434 := R434.mono hl438
   exact .ret (pret results79 (.w ia30 sz30 r .z r .n) le440 ⟨r406, _, _, _, _, _, _, r, R429, R434, R439, hd⟩)
 exact .skipS [10, 4] r r (.sr (.loadW ia30 sz30 r .z r r r (.storeA sz30 r r (.s .z) (.t (.t (.t (.t (.t .nil))))) r r (.nilS [4] r r (.drop .z (.ret (pret results79 (.w ia30 sz30 r .z r .n) le401 ⟨r385.1, _, _, _, _, _, _, r, R393, R396, R399, hd⟩)))))))

theorem W_law02_Value {I : IH} {a0 : Int} {a1 : Int} {Q : Int → Prop}  (hd : law02_Value a0 a1 Q) :
  PFun prog 119 [.int .i64 a0, .int .i64 a1] I (fun _ => o0_ Q) := by
 refine Fun.enter func119 r ntmps119 r (.c (.c .n)) fun w0 M => ?_
 refine .sr (.ks 1 r (.nilS [1, 0] r r (.sr (.ks 1 r (.nilS [5, 1] r r (.block (.sr (.ks 2 r (.nilS [12, 5, 1] r r ?_)))))))))
 refine .condP r hd (fun hb1 hd => ?_) fun hb1 hd => ?_
 · exact .sr (.ks 2 r (.nilS [4] r r (.ret (pret results119 (.t r .n) (.refl _) ⟨a1, r, hd⟩))))
 refine .sr (.ks 2 r (.nilS [15, 1] r r (.condP r hd (fun hb2 hd => ?_) fun hb2 hd => ?_)))
 · exact .sr (.ks 3 r (.nilS [4] r r (.ret (pret results119 (.t r .n) (.refl _) ⟨(bnd .i64 a1 1), r, hd⟩))))
 refine .sr (.ks 3 r (.nilS [1] r r (.seq (.sr (.ks 1 r (.rem r r (by decide) r r (.ks 1 r (.nilS [10, 1] r r (.condP r hd (fun hb3 hd => ?_) fun hb3 hd => ?_)))))))))
 · exact .sr (.ks 1 r (.nilS [4] r r (.ret (pret results119 (.t r .n) (.refl _) ⟨4611686018427387904, r, hd⟩))))
 exact .skipS [1] r r (.sr (.ks 2 r (.nilS [4] r r (.ret (pret results119 (.t r .n) (.refl _) ⟨(bnd .i64 a1 4611686018427387903), r, hd⟩)))))

theorem W_law02_Factor {I : IH} {a0 : Int} {a1 : Int} {Q : Int → Prop}  (hd : law02_Factor a0 a1 Q) :
  PFun prog 80 [.int .i64 a0, .int .i64 a1] I (fun _ => o0_ Q) := by
 refine Fun.enter func80 r ntmps80 r (.c (.c .n)) fun w0 M => ?_
 refine .sr (.ks 1 r (.nilS [1, 0] r r (.seq (.sr (.ks 2 r (.nilS [6, 1, 0] r r (.condP r hd (fun hb1 hd => ?_) fun hb1 hd => ?_)))))))
 · exact .sr (.ks 1 r (.rem r r (by decide) r r (.ks 1 r (.nilS [4] r r (.ret (pret results80 (.t r .n) (.refl _) ⟨(a1.tmod 2147483648), r, hd⟩))))))
 refine .skipS [1, 0] r r (.sr (.ks 2 r ?_))
 have hw3 := W_law02_Value (I := I) hd
 refine .callP call119 r hw3 r r fun v4 hv5 => ?_
 obtain ⟨r2, rfl, hd⟩ := hv5
 exact .ks 1 r (.nilS [4] r r (.ret (pret results80 (.t r .n) (.refl _) ⟨r2, r, hd⟩)))

theorem W_law13_Task_Matrix {I : IH} {a0 : Law13_Task} {p1 : Option Addr} {c2 : Nat} {p4 : Option Addr} {c5 : Nat} {p7 : Option Addr} {c8 : Nat} {p10 : Option Addr} {c11 : Nat} {Q : Rows → Prop} (R3 : RepSl eTriple I p1 c2 a0.L) (R6 : RepSl eItem I p4 c5 a0.X) (R9 : RepSl eItem I p7 c8 a0.Y) (R12 : RepSl eU64 I p10 c11 a0.F) (hd : law13_Task_Matrix a0 Q) :
  PFun prog 32 [.agg #[.int .i64 a0.Ring, .int .u8 a0.Size.1, .int .u8 a0.Size.2, .slice p1 a0.L.length c2, .slice p4 a0.X.length c5, .slice p7 a0.Y.length c8, .slice p10 a0.F.length c11, .bool a0.Others]] I (fun I_ v => ∃ r p13 c14 p16 c17 p19 c20, v = .agg #[.int .i64 r.Rows, .int .i64 r.Cols, .slice p13 r.Start.length c14, .slice p16 r.Col.length c17, .slice p19 r.Val.length c20] ∧ RepSl eI64 I_ p13 c14 r.Start ∧ RepSl eI64 I_ p16 c17 r.Col ∧ RepSl eI64 I_ p19 c20 r.Val ∧ Q r) := by
 refine Fun.enter func32 r ntmps32 r (.c .n) fun w0 M => ?_
 refine .sr (.boxA r r r fun b26 => ?_)
 refine .allocA zv30 r r fun b28 => ?_
 refine .nilS [2, 1] r r (.sr (.fa un78 r sizeOf76 r (o := 1) r r r (.loadA isAgg76 sizeOf76 r (.s .z) (.s (.t (.t .nil))) r r r (.fa un78 r sizeOf24 r (o := 3) r r r (.load1 isAgg24 r (.s .z) r r r ?_)))))
 have hw63 := W_law07_Some (I := I) R3 hd
 refine .call call79 r hw63 r r fun v52 I49 hl50 hv51 => ?_
 obtain ⟨r48, p54, c55, p57, c58, p60, c61, rfl, R56, R59, R62, hd⟩ := hv51
 replace R3 := R3.mono hl50
 replace R6 := R6.mono hl50
 replace R9 := R9.mono hl50
 replace R12 := R12.mono hl50
 refine .allocA zv30 r r fun b64 => ?_
 refine .storeA sz30 r r .z (.t (.t (.t (.t (.t .nil))))) r r (.nilS [3, 2, 1] r r (.sr (.fa un78 r sz22 r (o := 0) r r r (.load1 ia22 r (.s (.s .z)) r r r ?_))))
 have hw71 := W_law13_Right (I := I49) hd
 refine .callP call22 r hw71 r r fun v72 hv73 => ?_
 obtain ⟨r70, rfl, hd⟩ := hv73
 refine .ks 1 r (.nilS [4, 3, 2] r r (.drop (.s (.s .z)) (.sr (.ks 1 r (.nilS [5, 4, 3, 2] r r (.seq (.sr (.ks 1 r (.nilS [6, 5, 4, 3, 2] r r ?_)))))))))
 refine .block (.own0 eI64 2 (.loop hd (fun (s : (List Int) × Int) c w => match s with | (s132, s136) => ∃ I_ p133 c134, IH.le I49 I_ ∧ Ok ⟨35, [], none⟩ [(2, .pointer (some ⟨b28, 0, none⟩)), (3, .pointer (some ⟨b64, 0, none⟩)), (4, .int .i64 r70), (5, .slice p133 s132.length c134), (6, .int .i64 s136)] c ∧ Sym w0 M I I_ [pto b28 (.cells #[.int .i64 0, .int .i64 0, .slice none 0 0, .slice none 0 0, .slice none 0 0] 30 (0, 0)), pto b64 (.cells #[.int .i64 r48.Rows, .int .i64 r48.Cols, .slice p54 r48.Start.length c55, .slice p57 r48.Col.length c58, .slice p60 r48.Val.length c61] 30 (0, 0)), OwnSl eI64 2 p133 c134 s132] w) (fun c w ho hs => ⟨I49, _, _, (.refl _), ho.sub ⟨r, r, r, r, r, trivial⟩, hs.pick (.c (.s (.s .z)) (.c (.s .z) (.c .z .n)))⟩) ?_))
 rintro ⟨s132, s136⟩ next138 hd c w hst
 obtain ⟨I139, p133, c134, hl140, hok, hsym⟩ := hst
 have le141 := IH.le.trans hl50 hl140
 replace R56 := R56.mono hl140
 replace R59 := R59.mono hl140
 replace R62 := R62.mono hl140
 refine Cod.at hok hsym (.seq (.sr (.ks 1 r (.fa un30 r sz28 r (o := 4) r r r (.load1 ia28 r (.s .z) r r r (.len un28 r r r r (.ks 1 r (.nilS [19, 6, 5, 4, 3, 2] r r (.condP r hd (fun hb143 hd => ?_) fun hb143 hd => ?_)))))))))
 · refine .skipS [6, 5, 4, 3, 2] r r (.seq (.block (.region (.ks 2 r (.fa un30 r sz28 r (o := 4) r r r (.load1 ia28 r (.s .z) r r r (.ks 1 r ?_)))))))
   obtain ⟨h144, x145, hx146, hd⟩ := hd
   obtain ⟨b147, o148, cs149, e150, hC151, hr152⟩ := R62.2 _ _ hx146
   cases hr152
   refine .ixa un28 sz2 r e150 r h144 (idx_lt hx146 h144) r r (.ld1 (j := 0) ia2 hC151 r r r r r ?_)
   have hw154 := W_law02_Factor (I := I139) hd
   refine .callP call80 r hw154 r r fun v155 hv156 => ?_
   obtain ⟨r153, rfl, hd⟩ := hv156
   refine .buildSlice 1 un28 sz2 zeroValue2 r r (.c r r r .n) r r fun b157 => ?_
   obtain ⟨hl159, hd⟩ := hd
   refine .append (ys := [r153]) 8 (.s (.s (.s .z))) un28 un28 IN2 r r r r r r r r r (.box .z (.one r) r) hl159 r r fun p160 c161 => ?_
   exact .ks 1 r (.nilS [5, 6, 4, 3, 2] r r (.drop (.s .z) (.region (.ks 3 r (.nil' fun c w ho hs => ⟨((s132 ++ ([r153])), w64 (s136 + 1)), hd, I139, _, _, hl140, ho.sub ⟨r, r, r, r, r, trivial⟩, hs.pick (.c (.s .z) (.c (.s .z) (.c .z .n)))⟩)))))
 refine .exitS [5, 3, 2] r r (.sr (.ks 1 r (.fa un30 r sz28 r (o := 4) r r r (.store1 sz28 r r (.s .z) (.s (.s (.s (.s (.t .nil))))) r (.nilS [3, 2] r r (.sr (.loadW ia30 sz30 r (.s .z) r r r (.storeA sz30 r r .z (.t (.t (.t (.t (.t .nil))))) r r (.nilS [2] r r ?_)))))))))
 refine .drop (.s .z) (.pub (.s .z) fun I163 hl164 R165 => ?_)
 have le166 := IH.le.trans le141 hl164
 have le167 := IH.le.trans hl140 hl164
 replace R56 := R56.mono hl164
 replace R59 := R59.mono hl164
 exact .ret (pret results32 (.w ia30 sz30 r .z r .n) le166 ⟨({ Rows := r48.Rows, Cols := r48.Cols, Start := r48.Start, Col := r48.Col, Val := s132 } : Rows), _, _, _, _, _, _, r, R56, R59, R165, hd⟩)

theorem W_law15_Task_Three {I : IH} {a0 : Law15_Task} {p1 : Option Addr} {c2 : Nat} {p4 : Option Addr} {c5 : Nat} {p7 : Option Addr} {c8 : Nat} {Q : (Rows × Rows × Rows) → Prop} (R3 : RepSl eTriple I p1 c2 a0.A) (R6 : RepSl eTriple I p4 c5 a0.B) (R9 : RepSl eTriple I p7 c8 a0.M) (hd : law15_Task_Three a0 Q) :
  PFun prog 8 [.agg #[.int .i64 a0.Ring, .int .u8 a0.Size.1, .int .u8 a0.Size.2.1, .int .u8 a0.Size.2.2, .slice p1 a0.A.length c2, .slice p4 a0.B.length c5, .slice p7 a0.M.length c8]] I (fun I_ v => ∃ r p10 c11 p13 c14 p16 c17 p19 c20 p22 c23 p25 c26 p28 c29 p31 c32 p34 c35, v = .agg #[.int .i64 r.1.Rows, .int .i64 r.1.Cols, .slice p10 r.1.Start.length c11, .slice p13 r.1.Col.length c14, .slice p16 r.1.Val.length c17, .int .i64 r.2.1.Rows, .int .i64 r.2.1.Cols, .slice p19 r.2.1.Start.length c20, .slice p22 r.2.1.Col.length c23, .slice p25 r.2.1.Val.length c26, .int .i64 r.2.2.Rows, .int .i64 r.2.2.Cols, .slice p28 r.2.2.Start.length c29, .slice p31 r.2.2.Col.length c32, .slice p34 r.2.2.Val.length c35] ∧ RepSl eI64 I_ p10 c11 r.1.Start ∧ RepSl eI64 I_ p13 c14 r.1.Col ∧ RepSl eI64 I_ p16 c17 r.1.Val ∧ RepSl eI64 I_ p19 c20 r.2.1.Start ∧ RepSl eI64 I_ p22 c23 r.2.1.Col ∧ RepSl eI64 I_ p25 c26 r.2.1.Val ∧ RepSl eI64 I_ p28 c29 r.2.2.Start ∧ RepSl eI64 I_ p31 c32 r.2.2.Col ∧ RepSl eI64 I_ p34 c35 r.2.2.Val ∧ Q r) := by
 refine Fun.enter func8 r ntmps8 r (.c .n) fun w0 M => ?_
 refine .sr (.boxA r r r fun b41 => ?_)
 refine .allocA zv31 r r fun b43 => ?_
 refine .nilS [2, 1] r r (.seq (.dr [0, 1, 2, 4, 5, 6, 8, 9, 10, 3, 7, 11, 12, 13] 14 (.g r r r (fun _ => .fa un26 r sizeOf23 r (o := 1) r r r .mk) (.g r r r (fun _ => .ixArr (i := 0) un23 sz5 r r (by decide) (o := 1) r r r .mk) (.g r r r (fun _ => .load1 isAgg5 r (.s .z) r r r .mk) (.g r r r (fun _ => .fa un26 r sizeOf23 r (o := 1) r r r .mk) (.g r r r (fun _ => .ixArr (i := 1) un23 sz5 r r (by decide) (o := 2) r r r .mk) (.g r r r (fun _ => .load1 isAgg5 r (.s .z) r r r .mk) (.g r r r (fun _ => .fa un26 r sizeOf23 r (o := 1) r r r .mk) ?_)))))))))
 refine .g r r r (fun _ => .ixArr (i := 2) un23 sz5 r r (by decide) (o := 3) r r r .mk) (.g r r r (fun _ => .load1 isAgg5 r (.s .z) r r r .mk) (.ww r fun ex => ?_))
 have hw58 := W_law15_small (I := I) hd
 refine .callP call31 r hw58 r r fun v59 hv60 => ?_
 obtain ⟨r57, rfl, hd⟩ := hv60
 refine .so 2 r r r (.cg r r r r (fun _ => .load1 isAgg5 r (.s .z) r r r .mk) (.cg r r r r (fun _ => .ixArr (i := 2) un23 sz5 r r (by decide) (o := 3) r r r .mk) (.cg r r r r (fun _ => .fa un26 r sizeOf23 r (o := 1) r r r .mk) (.cg r r r r (fun _ => .load1 isAgg5 r (.s .z) r r r .mk) (.cg r r r r (fun _ => .ixArr (i := 1) un23 sz5 r r (by decide) (o := 2) r r r .mk) (.cg r r r r (fun _ => .fa un26 r sizeOf23 r (o := 1) r r r .mk) trivial)))))) (.ww r fun ex => ?_)
 have hw62 := W_law15_small (I := I) hd
 refine .callP call31 r hw62 r r fun v63 hv64 => ?_
 obtain ⟨r61, rfl, hd⟩ := hv64
 refine .so 2 r r r (.cg r r r r (fun _ => .load1 isAgg5 r (.s .z) r r r .mk) (.cg r r r r (fun _ => .ixArr (i := 2) un23 sz5 r r (by decide) (o := 3) r r r .mk) (.cg r r r r (fun _ => .fa un26 r sizeOf23 r (o := 1) r r r .mk) trivial))) (.ww r fun ex => ?_)
 have hw66 := W_law15_small (I := I) hd
 refine .callP call31 r hw66 r r fun v67 hv68 => ?_
 obtain ⟨r65, rfl, hd⟩ := hv68
 refine .so 2 r r r trivial (.fk 2 r (.e2 14 (.ks 1 r (.nilS [5, 4, 3, 2, 1] r r (.sr (.fa un26 r sz22 r (o := 0) r r r (.load1 ia22 r (.s .z) r r r (.ks 2 r (.buildArr zeroValue76 un76 sz5 (.c r r r (.t .nil) (.c r r r (.s (.t .nil)) .n)) r r ?_)))))))))
 refine .fa un26 r sizeOf24 r (o := 4) r r r (.load1 isAgg24 r (.s .z) r r r (.build zv78 un78 BI78 (.c r r r (.t .nil) (.c r r r (.s (.t (.t .nil))) (.c r r r (.s (.s (.s (.t .nil)))) .n))) (by exact ⟨⟨_, _, r, r, r⟩, ⟨⟨_, _, r, r, r⟩, ⟨⟨_, _, r, r, r⟩, trivial⟩⟩⟩) r r (.allocA zv78 r r fun b71 => ?_)))
 refine .storeA sizeOf78 r r .z (.t (.t (.t (.t (.t (.t (.t (.t .nil)))))))) r r (.nilS [6, 5, 4, 3, 2, 1] r r (.sr (.fa un26 r sz22 r (o := 0) r r r (.load1 ia22 r (.s (.s .z)) r r r (.ks 2 r (.buildArr zeroValue76 un76 sz5 (.c r r r (.t .nil) (.c r r r (.s (.t .nil)) .n)) r r (.fa un26 r sizeOf24 r (o := 5) r r r (.load1 isAgg24 r (.s (.s .z)) r r r (.build zv78 un78 BI78 (.c r r r (.t .nil) (.c r r r (.s (.t (.t .nil))) (.c r r r (.s (.s (.s (.t .nil)))) .n))) (by exact ⟨⟨_, _, r, r, r⟩, ⟨⟨_, _, r, r, r⟩, ⟨⟨_, _, r, r, r⟩, trivial⟩⟩⟩) r r ?_)))))))))
 refine .allocA zv78 r r fun b75 => ?_
 refine .storeA sizeOf78 r r .z (.t (.t (.t (.t (.t (.t (.t (.t .nil)))))))) r r (.nilS [7, 6, 5, 3, 2, 1] r r (.sr (.fa un26 r sz22 r (o := 0) r r r (.load1 ia22 r (.s (.s (.s .z))) r r r (.ks 2 r (.buildArr zeroValue76 un76 sz5 (.c r r r (.t .nil) (.c r r r (.s (.t .nil)) .n)) r r (.fa un26 r sizeOf24 r (o := 6) r r r (.load1 isAgg24 r (.s (.s (.s .z))) r r r (.build zv78 un78 BI78 (.c r r r (.t .nil) (.c r r r (.s (.t (.t .nil))) (.c r r r (.s (.s (.s (.t .nil)))) .n))) (by exact ⟨⟨_, _, r, r, r⟩, ⟨⟨_, _, r, r, r⟩, ⟨⟨_, _, r, r, r⟩, trivial⟩⟩⟩) r r ?_)))))))))
 refine .allocA zv78 r r fun b77 => ?_
 refine .storeA sizeOf78 r r .z (.t (.t (.t (.t (.t (.t (.t (.t .nil)))))))) r r (.nilS [8, 7, 6, 2] r r (.drop (.s (.s (.s (.s .z)))) (.seq (.dr [0, 2, 4, 1, 3, 5, 6] 7 (.g r r r (fun _ => .loadW isAgg78 sizeOf78 r (.s (.s .z)) r r r .mk) (.g r r r (fun _ => .loadW isAgg78 sizeOf78 r (.s .z) r r r .mk) (.g r r r (fun _ => .loadW isAgg78 sizeOf78 r .z r r r .mk) (.ww r fun ex => ?_))))))))
 have hw94 := W_law13_Task_Matrix (I := I) (a0 := ({ Ring := a0.Ring, Size := (r57, r61), L := a0.A, X := ([] : List Item), Y := ([] : List Item), F := ([] : List Int), Others := false } : Law13_Task)) R3 (.nil _ none 0) (.nil _ none 0) (.nil _ none 0) hd
 refine .call call32 r hw94 r r fun v83 I80 hl81 hv82 => ?_
 obtain ⟨r79, p85, c86, p88, c89, p91, c92, rfl, R87, R90, R93, hd⟩ := hv82
 replace R3 := R3.mono hl81
 replace R6 := R6.mono hl81
 replace R9 := R9.mono hl81
 refine .so 4 r r r (.cg r r r r (fun _ => .loadW isAgg78 sizeOf78 r .z r r r .mk) (.cg r r r r (fun _ => .loadW isAgg78 sizeOf78 r (.s .z) r r r .mk) trivial)) (.ww r fun ex => ?_)
 have hw110 := W_law13_Task_Matrix (I := I80) (a0 := ({ Ring := a0.Ring, Size := (r61, r65), L := a0.B, X := ([] : List Item), Y := ([] : List Item), F := ([] : List Int), Others := false } : Law13_Task)) R6 (.nil _ none 0) (.nil _ none 0) (.nil _ none 0) hd
 refine .call call32 r hw110 r r fun v99 I96 hl97 hv98 => ?_
 obtain ⟨r95, p101, c102, p104, c105, p107, c108, rfl, R103, R106, R109, hd⟩ := hv98
 have le111 := IH.le.trans hl81 hl97
 replace R3 := R3.mono hl97
 replace R6 := R6.mono hl97
 replace R9 := R9.mono hl97
 replace R87 := R87.mono hl97
 replace R90 := R90.mono hl97
 replace R93 := R93.mono hl97
 refine .so 4 r r r (.cg r r r r (fun _ => .loadW isAgg78 sizeOf78 r .z r r r .mk) trivial) (.ww r fun ex => ?_)
 have hw127 := W_law13_Task_Matrix (I := I96) (a0 := ({ Ring := a0.Ring, Size := (r57, r65), L := a0.M, X := ([] : List Item), Y := ([] : List Item), F := ([] : List Int), Others := false } : Law13_Task)) R9 (.nil _ none 0) (.nil _ none 0) (.nil _ none 0) hd
 refine .call call32 r hw127 r r fun v116 I113 hl114 hv115 => ?_
 obtain ⟨r112, p118, c119, p121, c122, p124, c125, rfl, R120, R123, R126, hd⟩ := hv115
 have le128 := IH.le.trans le111 hl114
 replace R3 := R3.mono hl114
 replace R6 := R6.mono hl114
 replace R9 := R9.mono hl114
 replace R87 := R87.mono hl114
 replace R90 := R90.mono hl114
 replace R93 := R93.mono hl114
 replace R103 := R103.mono hl114
 replace R106 := R106.mono hl114
 replace R109 := R109.mono hl114
 exact .so 4 r r r trivial (.g r r r (fun _ => .buildArr zv31 un31 sz30 (.c r r r (.t (.t (.t (.t (.t .nil))))) (.c r r r (.s (.s (.s (.s (.s (.t (.t (.t (.t (.t .nil)))))))))) (.c r r r (.s (.s (.s (.s (.s (.s (.s (.s (.s (.s (.t (.t (.t (.t (.t .nil))))))))))))))) .n))) r r .mk) (.e2 7 (.storeA sizeOf31 r r (.s (.s (.s .z))) (.t (.t (.t (.t (.t (.t (.t (.t (.t (.t (.t (.t (.t (.t (.t .nil))))))))))))))) r r (.nilS [2] r r (.drop .z (.drop .z (.drop .z (.ret (pret results8 (.w isAgg31 sizeOf31 r .z r .n) le128 ⟨(r79, r95, r112), _, _, _, _, _, _, _, _, _, _, _, _, _, _, _, _, _, _, r, R87, R90, R93, R103, R106, R109, R120, R123, R126, hd⟩)))))))))

theorem W_ref15_SameCells {I : IH} {a0 : List Cell} {a1 : List Cell} {p1 : Option Addr} {c2 : Nat} {p4 : Option Addr} {c5 : Nat} {Q : Bool → Prop} (R3 : RepSl eCell I p1 c2 a0) (R6 : RepSl eCell I p4 c5 a1) (hd : ref15_SameCells a0 a1 Q) :
  PFun prog 16 [.slice p1 a0.length c2, .slice p4 a1.length c5] I (fun _ => o1_ Q) := by
 refine Fun.enter func16 r ntmps16 r (.c (.c .n)) fun w0 M => ?_
 refine .sr (.ks 1 r (.nilS [1, 0] r r (.seq (.sr (.ks 1 r (.len un33 r r r r (.ks 1 r (.len un33 r r r r (.ks 1 r ?_)))))))))
 refine .nilS [10, 1, 0] r r (.condP r hd (fun hb8 hd => ?_) fun hb8 hd => ?_)
 · exact .sr (.ks 1 r (.nilS [4] r r (.ret (pret results16 (.t r .n) (.refl _) ⟨false, r, hd⟩))))
 refine .skipS [1, 0] r r (.seq (.sr (.ks 1 r (.nilS [5, 1, 0] r r (.block (.loop hd (fun (s54 : Int) c w => ∃ I_, IH.le I I_ ∧ Ok ⟨26, [], none⟩ [(0, .slice p1 a0.length c2), (1, .slice p4 a1.length c5), (5, .int .i64 s54)] c ∧ Sym w0 M I I_ [] w) (fun c w ho hs => ⟨I, (.refl _), ho.sub ⟨r, r, r, trivial⟩, hs.pick .n⟩) ?_))))))
 rintro s54 next55 hd c w hst
 obtain ⟨I56, hl57, hok, hsym⟩ := hst
 replace R3 := R3.mono hl57
 replace R6 := R6.mono hl57
 refine Cod.at hok hsym (.seq (.sr (.ks 2 r (.len un33 r r r r (.ks 1 r (.nilS [14, 5, 1, 0] r r (.condP r hd (fun hb59 hd => ?_) fun hb59 hd => ?_)))))))
 · refine .skipS [5, 1, 0] r r (.seq (.block (.seq (.dr [0, 1, 2, 3, 4, 5, 6, 7, 8] 9 (.fk 2 r ?_)))))
   obtain ⟨h60, x61, hx62, hd⟩ := hd
   obtain ⟨b63, o64, cs65, e66, hC67, hr68⟩ := R3.2 _ _ hx62
   cases hr68
   refine .g r r r (fun _ => .ixa un33 sz59 r e66 r h60 (idx_lt hx62 h60) r r .mk) (.g r r r (fun _ => .ldW ia59 sz59 hC67 r r r r .mk) (.fk 2 r ?_))
   obtain ⟨h69, x70, hx71, hd⟩ := hd
   obtain ⟨b72, o73, cs74, e75, hC76, hr77⟩ := R6.2 _ _ hx71
   cases hr77
   refine .g r r r (fun _ => .ixa un33 sz59 r e75 r h69 (idx_lt hx71 h69) r r .mk) (.g r r r (fun _ => .ldW ia59 sz59 hC76 r r r r .mk) (.g r r r (fun _ => .neV r r (EQ59 x61 x70) (EG59 _ _ _ _ _) r r r .mk) (.e2 9 (.nilS [25, 5, 1, 0] r r (.condP r hd (fun hb78 hd => ?_) fun hb78 hd => ?_)))))
   · exact .sr (.ks 1 r (.nilS [4] r r (.ret (pret results16 (.t r .n) hl57 ⟨false, r, hd⟩))))
   exact .skipS [5, 1, 0] r r (.region (.ks 3 r (.nil' fun c w ho hs => ⟨(w64 (s54 + 1)), hd, I56, hl57, ho.sub ⟨r, r, r, trivial⟩, hs.pick .n⟩)))
 exact .exitS [] r r (.sr (.ks 1 r (.nilS [4] r r (.ret (pret results16 (.t r .n) hl57 ⟨true, r, hd⟩)))))

theorem W_law15_GemmParts {I : IH} {a0 : Law15_Task} {a1 : Int} {p1 : Option Addr} {c2 : Nat} {p4 : Option Addr} {c5 : Nat} {p7 : Option Addr} {c8 : Nat} {Q : Bool → Prop} (R3 : RepSl eTriple I p1 c2 a0.A) (R6 : RepSl eTriple I p4 c5 a0.B) (R9 : RepSl eTriple I p7 c8 a0.M) (hd : law15_GemmParts a0 a1 Q) :
  PFun prog 5 [.agg #[.int .i64 a0.Ring, .int .u8 a0.Size.1, .int .u8 a0.Size.2.1, .int .u8 a0.Size.2.2, .slice p1 a0.A.length c2, .slice p4 a0.B.length c5, .slice p7 a0.M.length c8], .int .u8 a1] I (fun _ => o1_ Q) := by
 refine Fun.enter func5 r ntmps5 r (.c (.c .n)) fun w0 M => ?_
 refine .sr (.boxA r r r fun b12 => ?_)
 refine .ks 1 r (.nilS [2, 1] r r (.sr (.loadW isAgg26 sizeOf26 r .z r r r ?_)))
 have hw83 := W_law15_Task_Three (I := I) R3 R6 R9 hd
 refine .call call8 r hw83 r r fun v54 I51 hl52 hv53 => ?_
 obtain ⟨r50, p56, c57, p59, c60, p62, c63, p65, c66, p68, c69, p71, c72, p74, c75, p77, c78, p80, c81, rfl, R58, R61, R64, R67, R70, R73, R76, R79, R82, hd⟩ := hv53
 replace R3 := R3.mono hl52
 replace R6 := R6.mono hl52
 replace R9 := R9.mono hl52
 refine .allocA zv31 r r fun b84 => ?_
 refine .storeA sizeOf31 r r .z (.t (.t (.t (.t (.t (.t (.t (.t (.t (.t (.t (.t (.t (.t (.t .nil))))))))))))))) r r (.nilS [5, 2, 1] r r (.sr (.fa un26 r sz22 r (o := 0) r r r (.load1 ia22 r (.s .z) r r r ?_))))
 have hw91 := W_law13_Right (I := I51) hd
 refine .callP call22 r hw91 r r fun v92 hv93 => ?_
 obtain ⟨r90, rfl, hd⟩ := hv93
 refine .ks 1 r (.nilS [6, 5, 1] r r (.drop (.s .z) (.sr (.ixArr (i := 0) un31 sz30 r r (by decide) (o := 0) r r r (.fa un30 r sz3 r (o := 1) r r r (.load1 ia3 r .z r r r (.ks 1 r (.nilS [7, 6, 5, 1] r r (.sr ?_)))))))))
 refine .ks 1 r (.conv underlying5 un3 r r r (.ks 2 r ?_))
 obtain ⟨hz95, hd⟩ := hd
 refine .rem r r hz95 r r (.ks 1 r (.nilS [8, 7, 6, 5] r r (.seq (.dr [0, 1, 2, 3, 4, 5, 6, 7, 8, 9, 999, 10] 11 (.g r r r (fun _ => .ixArr (i := 0) un31 sz30 r r (by decide) (o := 0) r r r .mk) (.g r r r (fun _ => .fa un30 r sz3 r (o := 0) r r r .mk) (.g r r r (fun _ => .load1 ia3 r .z r r r .mk) (.g r r r (fun _ => .buildArr zv46 un46 sz3 (.c r r r (.t .nil) (.c r r r (.s (.t .nil)) .n)) r r .mk) (.g r r r (fun _ => .ixArr (i := 1) un31 sz30 r r (by decide) (o := 5) r r r .mk) ?_)))))))))
 refine .g r r r (fun _ => .fa un30 r sz3 r (o := 6) r r r .mk) (.g r r r (fun _ => .load1 ia3 r .z r r r .mk) (.g r r r (fun _ => .buildArr zv46 un46 sz3 (.c r r r (.t .nil) (.c r r r (.s (.t .nil)) .n)) r r .mk) (.a (fun b => .pointer (some ⟨b, 0, none⟩)) (fun b => pto b (.cells #[.int .i64 0, .int .i64 0] 46 (0, 0))) r r r r (fun _ L hL ex => .allocA zv46 r r fun b => .mk (val := fun b => .pointer (some ⟨b, 0, none⟩)) (atom := fun b => pto b (.cells #[.int .i64 0, .int .i64 0] 46 (0, 0))) hL b) (.ww r fun ex => ?_))))
 refine .allocA zv46 r r fun b101 => ?_
 refine .so 2 r r r (.cg r r r r (fun _ => .buildArr zv46 un46 sz3 (.c r r r (.t .nil) (.c r r r (.s (.t .nil)) .n)) r r .mk) (.cg r r r r (fun _ => .load1 ia3 r (.s .z) r r r .mk) (.cg r r r r (fun _ => .fa un30 r sz3 r (o := 6) r r r .mk) (.cg r r r r (fun _ => .ixArr (i := 1) un31 sz30 r r (by decide) (o := 5) r r r .mk) (.cg r r r r (fun _ => .buildArr zv46 un46 sz3 (.c r r r (.t .nil) (.c r r r (.s (.t .nil)) .n)) r r .mk) (.cg r r r r (fun _ => .load1 ia3 r (.s .z) r r r .mk) (.cg r r r r (fun _ => .fa un30 r sz3 r (o := 0) r r r .mk) (.cg r r r r (fun _ => .ixArr (i := 0) un31 sz30 r r (by decide) (o := 0) r r r .mk) trivial)))))))) (.b r fun b103 => DrawD.nop (.ww r fun ex => ?_))
 refine .storeA sz46 r r (.s (.s .z)) (.t (.t .nil)) r r (.sn 3 r r r (.cg r r r r (fun _ => .buildArr zv46 un46 sz3 (.c r r r (.t .nil) (.c r r r (.s (.t .nil)) .n)) r r .mk) (.cg r r r r (fun _ => .load1 ia3 r (.s .z) r r r .mk) (.cg r r r r (fun _ => .fa un30 r sz3 r (o := 6) r r r .mk) (.cg r r r r (fun _ => .ixArr (i := 1) un31 sz30 r r (by decide) (o := 5) r r r .mk) trivial)))) (.e2 11 (.storeA sz46 r r .z (.t (.t .nil)) r r (.nilS [9, 10, 8, 7, 6, 5] r r (.sr (.ks 1 r (.ixArr (i := 0) un31 sz30 r r (by decide) (o := 0) r r r (.loadA ia30 sz30 r (.s .z) (.t (.t (.t (.t (.t .nil))))) r r r (.ixArr (i := 1) un31 sz30 r r (by decide) (o := 5) r r r ?_)))))))))
 refine .loadA ia30 sz30 r (.s .z) (.s (.s (.s (.s (.s (.t (.t (.t (.t (.t .nil)))))))))) r r r (.ixArr (i := 2) un31 sz30 r r (by decide) (o := 10) r r r (.loadA ia30 sz30 r (.s .z) (.s (.s (.s (.s (.s (.s (.s (.s (.s (.s (.t (.t (.t (.t (.t .nil))))))))))))))) r r r ?_))
 have hw124 := W_gemm_Cells (I := I51) R58 R61 R64 R67 R70 R73 R76 R79 R82 hd
 refine .call call9 r hw124 r r fun v119 I116 hl117 hv118 => ?_
 obtain ⟨r115, p121, c122, rfl, R123, hd⟩ := hv118
 have le125 := IH.le.trans hl52 hl117
 replace R58 := R58.mono hl117
 replace R61 := R61.mono hl117
 replace R64 := R64.mono hl117
 replace R67 := R67.mono hl117
 replace R70 := R70.mono hl117
 replace R73 := R73.mono hl117
 replace R76 := R76.mono hl117
 replace R79 := R79.mono hl117
 replace R82 := R82.mono hl117
 refine .ks 5 r (.nilS [12, 11, 9, 10, 8, 7, 6, 5] r r (.seq (.sr (.ks 3 r ?_))))
 refine splitP hd (fun hb156 hd => ?_) fun hb156 hd => ?_
 · rw [hb156]
   refine .ks 20 r (.nilS [73, 12, 11, 9, 10, 8, 7, 6, 5] r r (.condKT r r (.sr ?_)))
   have hw158 := W_law15_live (I := I116) hd
   refine .callP call15 r hw158 r r fun v159 hv160 => ?_
   obtain ⟨r157, rfl, hd⟩ := hv160
   refine .ks 1 r ?_
   refine splitP hd (fun hb161 hd => ?_) fun hb161 hd => ?_
   · rw [hb161]
     exact .ks 4 r (.nilS [4] r r (.drop .z (.drop .z (.drop .z (.ret (pret results5 (.t r .n) le125 ⟨(r115.2 == 0), r, hd⟩))))))
   rw [hb161]
   exact .ks 4 r (.nilS [4] r r (.drop .z (.drop .z (.drop .z (.ret (pret results5 (.t r .n) le125 ⟨false, r, hd⟩))))))
 rw [hb156]
 refine .gyes r r r (.ixArr (i := 0) un31 sz30 r r (by decide) (o := 0) r r r (.gyes r r r (.fa un30 r sz3 r (o := 0) r r r (.gyes r r r (.load1 ia3 r (.s .z) r r r (.ks 3 r ?_))))))
 refine splitP hd (fun hb162 hd => ?_) fun hb162 hd => ?_
 · rw [hb162]
   refine .ks 14 r (.nilS [73, 12, 11, 9, 10, 8, 7, 6, 5] r r (.condKT r r (.sr ?_)))
   have hw164 := W_law15_live (I := I116) hd
   refine .callP call15 r hw164 r r fun v165 hv166 => ?_
   obtain ⟨r163, rfl, hd⟩ := hv166
   refine .ks 1 r ?_
   refine splitP hd (fun hb167 hd => ?_) fun hb167 hd => ?_
   · rw [hb167]
     exact .ks 4 r (.nilS [4] r r (.drop .z (.drop .z (.drop .z (.ret (pret results5 (.t r .n) le125 ⟨(r115.2 == 0), r, hd⟩))))))
   rw [hb167]
   exact .ks 4 r (.nilS [4] r r (.drop .z (.drop .z (.drop .z (.ret (pret results5 (.t r .n) le125 ⟨false, r, hd⟩))))))
 rw [hb162]
 refine .gyes r r r (.ixArr (i := 1) un31 sz30 r r (by decide) (o := 5) r r r (.gyes r r r (.fa un30 r sz3 r (o := 6) r r r (.gyes r r r (.load1 ia3 r (.s .z) r r r (.ks 3 r ?_))))))
 refine splitP hd (fun hb168 hd => ?_) fun hb168 hd => ?_
 · rw [hb168]
   refine .ks 8 r (.nilS [73, 12, 11, 9, 10, 8, 7, 6, 5] r r (.condKT r r (.sr ?_)))
   have hw170 := W_law15_live (I := I116) hd
   refine .callP call15 r hw170 r r fun v171 hv172 => ?_
   obtain ⟨r169, rfl, hd⟩ := hv172
   refine .ks 1 r ?_
   refine splitP hd (fun hb173 hd => ?_) fun hb173 hd => ?_
   · rw [hb173]
     exact .ks 4 r (.nilS [4] r r (.drop .z (.drop .z (.drop .z (.ret (pret results5 (.t r .n) le125 ⟨(r115.2 == 0), r, hd⟩))))))
   rw [hb173]
   exact .ks 4 r (.nilS [4] r r (.drop .z (.drop .z (.drop .z (.ret (pret results5 (.t r .n) le125 ⟨false, r, hd⟩))))))
 rw [hb168]
 refine .ks 4 r ?_
 refine splitP hd (fun hb174 hd => ?_) fun hb174 hd => ?_
 · rw [hb174]
   refine .ks 4 r (.nilS [73, 12, 11, 9, 10, 8, 7, 6, 5] r r (.condKT r r (.sr ?_)))
   have hw176 := W_law15_live (I := I116) hd
   refine .callP call15 r hw176 r r fun v177 hv178 => ?_
   obtain ⟨r175, rfl, hd⟩ := hv178
   refine .ks 1 r ?_
   refine splitP hd (fun hb179 hd => ?_) fun hb179 hd => ?_
   · rw [hb179]
     exact .ks 4 r (.nilS [4] r r (.drop .z (.drop .z (.drop .z (.ret (pret results5 (.t r .n) le125 ⟨(r115.2 == 0), r, hd⟩))))))
   rw [hb179]
   exact .ks 4 r (.nilS [4] r r (.drop .z (.drop .z (.drop .z (.ret (pret results5 (.t r .n) le125 ⟨false, r, hd⟩))))))
 rw [hb174]
 refine .ks 4 r (.nilS [73, 12, 11, 9, 10, 8, 7, 6, 5] r r (.condP r hd (fun hb180 hd => ?_) fun hb180 hd => ?_))
 · refine .sr ?_
   have hw182 := W_law15_live (I := I116) hd
   refine .callP call15 r hw182 r r fun v183 hv184 => ?_
   obtain ⟨r181, rfl, hd⟩ := hv184
   refine .ks 1 r ?_
   refine splitP hd (fun hb185 hd => ?_) fun hb185 hd => ?_
   · rw [hb185]
     exact .ks 4 r (.nilS [4] r r (.drop .z (.drop .z (.drop .z (.ret (pret results5 (.t r .n) le125 ⟨(r115.2 == 0), r, hd⟩))))))
   rw [hb185]
   exact .ks 4 r (.nilS [4] r r (.drop .z (.drop .z (.drop .z (.ret (pret results5 (.t r .n) le125 ⟨false, r, hd⟩))))))
 refine .skipS [12, 11, 9, 10, 8, 7, 6, 5] r r (.seq (.dr [0, 1, 2, 3, 4, 5, 7, 8, 9, 10, 11, 13, 14, 6, 12, 15, 16, 17, 18, 19] 20 (.fk 1 r (.g r r r (fun _ => .ixArr (i := 0) un31 sz30 r r (by decide) (o := 0) r r r .mk) (.g r r r (fun _ => .loadA ia30 sz30 r (.s .z) (.t (.t (.t (.t (.t .nil))))) r r r .mk) (.g r r r (fun _ => .loadW isAgg46 sz46 r (.s (.s .z)) r r r .mk) (.fk 1 r (.g r r r (fun _ => .buildArr zv46 un46 sz3 (.c r r r (.t .nil) (.c r r r (.s (.t .nil)) .n)) r r .mk) (.g r r r (fun _ => .ixArr (i := 1) un31 sz30 r r (by decide) (o := 5) r r r .mk) ?_)))))))))
 refine .g r r r (fun _ => .loadA ia30 sz30 r (.s .z) (.s (.s (.s (.s (.s (.t (.t (.t (.t (.t .nil)))))))))) r r r .mk) (.fk 1 r (.g r r r (fun _ => .buildArr zv46 un46 sz3 (.c r r r (.t .nil) (.c r r r (.s (.t .nil)) .n)) r r .mk) (.g r r r (fun _ => .loadW isAgg46 sz46 r .z r r r .mk) (.g r r r (fun _ => .ixArr (i := 2) un31 sz30 r r (by decide) (o := 10) r r r .mk) (.g r r r (fun _ => .loadA ia30 sz30 r (.s .z) (.s (.s (.s (.s (.s (.s (.s (.s (.s (.s (.t (.t (.t (.t (.t .nil))))))))))))))) r r r .mk) (.ww r fun ex => ?_))))))
 have hw246 := W_csr_Cut (I := I116) R58 R61 R64 hd
 refine .call call23 r hw246 r r fun v235 I232 hl233 hv234 => ?_
 obtain ⟨r231, p237, c238, p240, c241, p243, c244, rfl, R239, R242, R245, hd⟩ := hv234
 have le247 := IH.le.trans le125 hl233
 replace R58 := R58.mono hl233
 replace R61 := R61.mono hl233
 replace R64 := R64.mono hl233
 replace R67 := R67.mono hl233
 replace R70 := R70.mono hl233
 replace R73 := R73.mono hl233
 replace R76 := R76.mono hl233
 replace R79 := R79.mono hl233
 replace R82 := R82.mono hl233
 replace R123 := R123.mono hl233
 refine .so 3 r r r (.cg r r r r (fun _ => .loadA ia30 sz30 r (.s .z) (.s (.s (.s (.s (.s (.s (.s (.s (.s (.s (.t (.t (.t (.t (.t .nil))))))))))))))) r r r .mk) (.cg r r r r (fun _ => .ixArr (i := 2) un31 sz30 r r (by decide) (o := 10) r r r .mk) (.cg r r r r (fun _ => .loadW isAgg46 sz46 r .z r r r .mk) (.cg r r r r (fun _ => .buildArr zv46 un46 sz3 (.c r r r (.t .nil) (.c r r r (.s (.t .nil)) .n)) r r .mk) (.ck 1 r r (.cg r r r r (fun _ => .loadA ia30 sz30 r (.s .z) (.s (.s (.s (.s (.s (.t (.t (.t (.t (.t .nil)))))))))) r r r .mk) (.cg r r r r (fun _ => .ixArr (i := 1) un31 sz30 r r (by decide) (o := 5) r r r .mk) (.ck 1 r r trivial)))))))) (.ww r fun ex => ?_)
 have hw263 := W_csr_Cut (I := I232) R67 R70 R73 hd
 refine .call call23 r hw263 r r fun v252 I249 hl250 hv251 => ?_
 obtain ⟨r248, p254, c255, p257, c258, p260, c261, rfl, R256, R259, R262, hd⟩ := hv251
 have le264 := IH.le.trans le247 hl250
 replace R58 := R58.mono hl250
 replace R61 := R61.mono hl250
 replace R64 := R64.mono hl250
 replace R67 := R67.mono hl250
 replace R70 := R70.mono hl250
 replace R73 := R73.mono hl250
 replace R76 := R76.mono hl250
 replace R79 := R79.mono hl250
 replace R82 := R82.mono hl250
 replace R123 := R123.mono hl250
 replace R239 := R239.mono hl250
 replace R242 := R242.mono hl250
 replace R245 := R245.mono hl250
 refine .so 3 r r r (.cg r r r r (fun _ => .loadA ia30 sz30 r (.s .z) (.s (.s (.s (.s (.s (.s (.s (.s (.s (.s (.t (.t (.t (.t (.t .nil))))))))))))))) r r r .mk) (.cg r r r r (fun _ => .ixArr (i := 2) un31 sz30 r r (by decide) (o := 10) r r r .mk) (.ck 1 r r trivial))) (.ww r fun ex => ?_)
 have hw274 := W_gemm_Cells (I := I249) R239 R242 R245 R256 R259 R262 R76 R79 R82 hd
 refine .call call9 r hw274 r r fun v269 I266 hl267 hv268 => ?_
 obtain ⟨r265, p271, c272, rfl, R273, hd⟩ := hv268
 have le275 := IH.le.trans le264 hl267
 replace R58 := R58.mono hl267
 replace R61 := R61.mono hl267
 replace R64 := R64.mono hl267
 replace R67 := R67.mono hl267
 replace R70 := R70.mono hl267
 replace R73 := R73.mono hl267
 replace R76 := R76.mono hl267
 replace R79 := R79.mono hl267
 replace R82 := R82.mono hl267
 replace R123 := R123.mono hl267
 replace R239 := R239.mono hl267
 replace R242 := R242.mono hl267
 replace R245 := R245.mono hl267
 replace R256 := R256.mono hl267
 replace R259 := R259.mono hl267
 replace R262 := R262.mono hl267
 refine .so 3 r r r trivial (.fk 4 r (.e2 20 (.ks 1 r (.nilS [14, 13, 12, 11, 9, 10, 8, 7, 6, 5] r r (.seq (.dr [0, 1, 2, 3, 4, 5, 6, 8, 9, 10, 11, 12, 13, 15, 16, 7, 14, 17, 18, 19, 20, 21] 22 (.fk 1 r (.g r r r (fun _ => .ixArr (i := 0) un31 sz30 r r (by decide) (o := 0) r r r .mk) (.g r r r (fun _ => .loadA ia30 sz30 r (.s .z) (.t (.t (.t (.t (.t .nil))))) r r r .mk) ?_)))))))))
 refine .g r r r (fun _ => .loadW isAgg46 sz46 r (.s (.s .z)) r r r .mk) (.fk 2 r (.g r r r (fun _ => .buildArr zv46 un46 sz3 (.c r r r (.t .nil) (.c r r r (.s (.t .nil)) .n)) r r .mk) (.g r r r (fun _ => .ixArr (i := 1) un31 sz30 r r (by decide) (o := 5) r r r .mk) (.g r r r (fun _ => .loadA ia30 sz30 r (.s .z) (.s (.s (.s (.s (.s (.t (.t (.t (.t (.t .nil)))))))))) r r r .mk) (.fk 2 r (.g r r r (fun _ => .buildArr zv46 un46 sz3 (.c r r r (.t .nil) (.c r r r (.s (.t .nil)) .n)) r r .mk) (.g r r r (fun _ => .loadW isAgg46 sz46 r .z r r r .mk) (.g r r r (fun _ => .ixArr (i := 2) un31 sz30 r r (by decide) (o := 10) r r r .mk) (.g r r r (fun _ => .loadA ia30 sz30 r (.s .z) (.s (.s (.s (.s (.s (.s (.s (.s (.s (.s (.t (.t (.t (.t (.t .nil))))))))))))))) r r r .mk) ?_)))))))))
 refine .ww r fun ex => ?_
 have hw336 := W_csr_Cut (I := I266) R58 R61 R64 hd
 refine .call call23 r hw336 r r fun v325 I322 hl323 hv324 => ?_
 obtain ⟨r321, p327, c328, p330, c331, p333, c334, rfl, R329, R332, R335, hd⟩ := hv324
 have le337 := IH.le.trans le275 hl323
 replace R58 := R58.mono hl323
 replace R61 := R61.mono hl323
 replace R64 := R64.mono hl323
 replace R67 := R67.mono hl323
 replace R70 := R70.mono hl323
 replace R73 := R73.mono hl323
 replace R76 := R76.mono hl323
 replace R79 := R79.mono hl323
 replace R82 := R82.mono hl323
 replace R123 := R123.mono hl323
 replace R273 := R273.mono hl323
 refine .so 3 r r r (.cg r r r r (fun _ => .loadA ia30 sz30 r (.s .z) (.s (.s (.s (.s (.s (.s (.s (.s (.s (.s (.t (.t (.t (.t (.t .nil))))))))))))))) r r r .mk) (.cg r r r r (fun _ => .ixArr (i := 2) un31 sz30 r r (by decide) (o := 10) r r r .mk) (.cg r r r r (fun _ => .loadW isAgg46 sz46 r .z r r r .mk) (.cg r r r r (fun _ => .buildArr zv46 un46 sz3 (.c r r r (.t .nil) (.c r r r (.s (.t .nil)) .n)) r r .mk) (.ck 2 r r (.cg r r r r (fun _ => .loadA ia30 sz30 r (.s .z) (.s (.s (.s (.s (.s (.t (.t (.t (.t (.t .nil)))))))))) r r r .mk) (.cg r r r r (fun _ => .ixArr (i := 1) un31 sz30 r r (by decide) (o := 5) r r r .mk) (.ck 1 r r trivial)))))))) (.ww r fun ex => ?_)
 have hw353 := W_csr_Cut (I := I322) R67 R70 R73 hd
 refine .call call23 r hw353 r r fun v342 I339 hl340 hv341 => ?_
 obtain ⟨r338, p344, c345, p347, c348, p350, c351, rfl, R346, R349, R352, hd⟩ := hv341
 have le354 := IH.le.trans le337 hl340
 replace R58 := R58.mono hl340
 replace R61 := R61.mono hl340
 replace R64 := R64.mono hl340
 replace R67 := R67.mono hl340
 replace R70 := R70.mono hl340
 replace R73 := R73.mono hl340
 replace R76 := R76.mono hl340
 replace R79 := R79.mono hl340
 replace R82 := R82.mono hl340
 replace R123 := R123.mono hl340
 replace R273 := R273.mono hl340
 replace R329 := R329.mono hl340
 replace R332 := R332.mono hl340
 replace R335 := R335.mono hl340
 refine .so 3 r r r (.cg r r r r (fun _ => .loadA ia30 sz30 r (.s .z) (.s (.s (.s (.s (.s (.s (.s (.s (.s (.s (.t (.t (.t (.t (.t .nil))))))))))))))) r r r .mk) (.cg r r r r (fun _ => .ixArr (i := 2) un31 sz30 r r (by decide) (o := 10) r r r .mk) (.ck 1 r r trivial))) (.ww r fun ex => ?_)
 have hw364 := W_gemm_Cells (I := I339) R329 R332 R335 R346 R349 R352 R76 R79 R82 hd
 refine .call call9 r hw364 r r fun v359 I356 hl357 hv358 => ?_
 obtain ⟨r355, p361, c362, rfl, R363, hd⟩ := hv358
 have le365 := IH.le.trans le354 hl357
 replace R58 := R58.mono hl357
 replace R61 := R61.mono hl357
 replace R64 := R64.mono hl357
 replace R67 := R67.mono hl357
 replace R70 := R70.mono hl357
 replace R73 := R73.mono hl357
 replace R76 := R76.mono hl357
 replace R79 := R79.mono hl357
 replace R82 := R82.mono hl357
 replace R123 := R123.mono hl357
 replace R273 := R273.mono hl357
 replace R329 := R329.mono hl357
 replace R332 := R332.mono hl357
 replace R335 := R335.mono hl357
 replace R346 := R346.mono hl357
 replace R349 := R349.mono hl357
 replace R352 := R352.mono hl357
 refine .so 3 r r r trivial (.fk 4 r (.e2 22 (.ks 1 r (.nilS [16, 15, 14, 13, 12, 11, 6] r r (.drop .z (.drop .z (.drop .z (.sr (.ks 3 r ?_)))))))))
 refine .buildSlice 2 un45 sz33 zeroValue33 r r (.c r r r (.c r r r .n)) r r fun b383 => ?_
 refine .pubB (El := (slEl eCell)) (ys := ([r265.1, r355.1] : List (List Cell))) (k := 2) .z (RepCs.cons (cs := [.slice p271 r265.1.length c272]) ⟨_, _, r, R273⟩ (RepCs.cons (cs := [.slice p361 r355.1.length c362]) ⟨_, _, r, R363⟩ .nil)) r fun I385 hl386 R387 => ?_
 have le388 := IH.le.trans le365 hl386
 replace R123 := R123.mono hl386
 replace R273 := R273.mono hl386
 replace R363 := R363.mono hl386
 have hw398 := W_gemm_Merge (I := I385) R387 hd
 refine .call call18 r hw398 r r fun v393 I390 hl391 hv392 => ?_
 obtain ⟨r389, p395, c396, rfl, R397, hd⟩ := hv392
 have le399 := IH.le.trans le388 hl391
 replace R123 := R123.mono hl391
 replace R273 := R273.mono hl391
 replace R363 := R363.mono hl391
 replace R387 := R387.mono hl391
 refine .ks 5 r (.nilS [18, 17, 16, 14, 12, 11] r r (.sr ?_))
 have hw401 := W_law15_live (I := I390) hd
 refine .callP call15 r hw401 r r fun v402 hv403 => ?_
 obtain ⟨r400, rfl, hd⟩ := hv403
 refine .ks 1 r ?_
 refine splitP hd (fun hb404 hd => ?_) fun hb404 hd => ?_
 · rw [hb404]
   refine .ks 4 r ?_
   refine splitP hd (fun hb405 hd => ?_) fun hb405 hd => ?_
   · rw [hb405]
     refine .ks 4 r ?_
     refine splitP hd (fun hb406 hd => ?_) fun hb406 hd => ?_
     · rw [hb406]
       refine .ks 4 r ?_
       refine splitP hd (fun hb407 hd => ?_) fun hb407 hd => ?_
       · rw [hb407]
         refine .ks 4 r ?_
         refine splitP hd (fun hb408 hd => ?_) fun hb408 hd => ?_
         · rw [hb408]
           refine .ks 2 r ?_
           have hw410 := W_ref15_SameCells (I := I390) R123 R397 hd
           refine .gyes r r r (.callP call16 r hw410 r r fun v411 hv412 => ?_)
           obtain ⟨r409, rfl, hd⟩ := hv412
           exact .ks 2 r (.nilS [4] r r (.ret (pret results5 (.t r .n) le399 ⟨r409, r, hd⟩)))
         rw [hb408]
         exact .ks 5 r (.nilS [4] r r (.ret (pret results5 (.t r .n) le399 ⟨false, r, hd⟩)))
       rw [hb407]
       exact .ks 9 r (.nilS [4] r r (.ret (pret results5 (.t r .n) le399 ⟨false, r, hd⟩)))
     rw [hb406]
     exact .ks 13 r (.nilS [4] r r (.ret (pret results5 (.t r .n) le399 ⟨false, r, hd⟩)))
   rw [hb405]
   exact .ks 17 r (.nilS [4] r r (.ret (pret results5 (.t r .n) le399 ⟨false, r, hd⟩)))
 rw [hb404]
 exact .ks 21 r (.nilS [4] r r (.ret (pret results5 (.t r .n) le399 ⟨false, r, hd⟩)))

end Go.Proofs.YtjabmpfcpekpdaaGreat
