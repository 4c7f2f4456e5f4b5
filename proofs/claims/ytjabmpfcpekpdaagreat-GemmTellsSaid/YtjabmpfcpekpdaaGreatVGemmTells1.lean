/- The walks (printed by a program of ours). -/
import Derived.Test.YtjabmpfcpekpdaaGreatV2
namespace Go.Proofs.YtjabmpfcpekpdaaGreat
open Go Go.Fw
set_option linter.unusedVariables false
set_option linter.unusedSimpArgs false
set_option maxRecDepth 8000
set_option maxHeartbeats 1000000
open Tryz
theorem W_law15_small {I : IH} {a0 : Int} {Q : Int → Prop}  (hd : law15_small a0 Q) :
  PFun prog 31 [.int .u8 a0] I (fun I_ v => ∃ r, v = .int .u8 r ∧ Q r) := by
 refine Fun.enter func31 r ntmps31 r (.c .n) fun w0 M => ?_
 exact .sr (.ks 1 r (.nilS [0] r r (.sr (.ks 1 r (.rem r r (by decide) r r (.ks 1 r (.nilS [2] r r (.ret (pret results31 (.t r .n) (.refl _) ⟨(a0.tmod 14), r, hd⟩)))))))))

theorem W_law13_Right {I : IH} {a0 : Int} {Q : Int → Prop}  (hd : law13_Right a0 Q) :
  PFun prog 22 [.int .i64 a0] I (fun _ => o0_ Q) := by
 refine Fun.enter func22 r ntmps22 r (.c .n) fun w0 M => ?_
 refine .sr (.ks 1 r (.nilS [0] r r (.seq (.sr (.ks 3 r ?_)))))
 refine splitP hd (fun hb1 hd => ?_) fun hb1 hd => ?_
 · rw [hb1]
   exact .ks 3 r (.nilS [8, 0] r r (.condKT r r (.sr (.ks 1 r (.nilS [2] r r (.ret (pret results22 (.t r .n) (.refl _) ⟨1, r, hd⟩)))))))
 rw [hb1]
 refine .ks 3 r (.nilS [8, 0] r r (.condP r hd (fun hb2 hd => ?_) fun hb2 hd => ?_))
 · exact .sr (.ks 1 r (.nilS [2] r r (.ret (pret results22 (.t r .n) (.refl _) ⟨1, r, hd⟩))))
 exact .skipS [0] r r (.sr (.ks 2 r (.nilS [2] r r (.ret (pret results22 (.t r .n) (.refl _) ⟨a0, r, hd⟩)))))

theorem W_law07_Size {I : IH} {a0 : Int} {Q : Int → Prop}  (hd : law07_Size a0 Q) :
  PFun prog 117 [.int .u8 a0] I (fun _ => o0_ Q) := by
 refine Fun.enter func117 r ntmps117 r (.c .n) fun w0 M => ?_
 exact .sr (.ks 1 r (.nilS [0] r r (.sr (.ks 1 r (.conv underlying5 un3 r r r (.rem r r (by decide) r r (.ks 1 r (.nilS [2] r r (.ret (pret results117 (.t r .n) (.refl _) ⟨((w64 (a0)).tmod 40), r, hd⟩))))))))))

theorem W_law07_Few {I : IH} {a0 : List Triple} {p1 : Option Addr} {c2 : Nat} {Q : (List Triple) → Prop} (R3 : RepSl eTriple I p1 c2 a0) (hd : law07_Few a0 Q) :
  PFun prog 118 [.slice p1 a0.length c2] I (fun I_ v => ∃ r p4 c5, v = .slice p4 r.length c5 ∧ RepSl eTriple I_ p4 c5 r ∧ Q r) := by
 refine Fun.enter func118 r ntmps118 r (.c .n) fun w0 M => ?_
 refine .sr (.ks 1 r (.nilS [0] r r (.seq (.sr (.ks 1 r (.len un24 r r r r (.ks 1 r (.nilS [5, 0] r r (.condP r hd (fun hb7 hd => ?_) fun hb7 hd => ?_)))))))))
 · refine .region (.ks 1 r ?_)
   obtain ⟨h8, h9, h10, hd⟩ := hd
   have h16 : Int.toNat 0 ≤ Int.toNat 60 := by omega
   have h17 : Int.toNat 60 ≤ a0.length := by omega
   obtain ⟨p11, c12, e14, e15, R13⟩ := RepSl.sliceW R3 (Int.toNat 0) (Int.toNat 60) c2 h16 h17 (.inl rfl)
   exact .sliceW (L := Int.toNat 0) (H := Int.toNat 60) (cm := c2) un24 sz91 r r R3.1 r r r (.inl ⟨r, r⟩) (.inr ⟨_, _, r, (by omega), r⟩) (.inl r) h16 h17 r e14 e15 r r (.ks 1 r (.nilS [0] r r (.sr (.ks 2 r (.nilS [2] r r (.ret (pret results118 (.t r .n) (.refl _) ⟨((a0.take (Int.toNat 60)).drop (Int.toNat 0)), _, _, r, R13, hd⟩)))))))
 exact .skipS [0] r r (.sr (.ks 2 r (.nilS [2] r r (.ret (pret results118 (.t r .n) (.refl _) ⟨a0, _, _, r, R3, hd⟩)))))

theorem W_law07_Some {I : IH} {a0 : Int × Int} {a1 : List Triple} {p1 : Option Addr} {c2 : Nat} {Q : Rows → Prop} (R3 : RepSl eTriple I p1 c2 a1) (hd : law07_Some a0 a1 Q) :
  PFun prog 79 [.agg #[.int .u8 a0.1, .int .u8 a0.2], .slice p1 a1.length c2] I (o3_ Q) := by
 refine Fun.enter func79 r ntmps79 r (.c (.c .n)) fun w0 M => ?_
 refine .sr (.boxA r r r fun b17 => ?_)
 refine .allocA zv30 r r fun b19 => ?_
 refine .nilS [4, 2, 1] r r (.seq (.dr [0, 1, 3, 4, 2, 5, 6] 7 (.g r r r (fun _ => .ixArr (i := 0) un76 sz5 r r (by decide) (o := 0) r r r .mk) (.g r r r (fun _ => .load1 isAgg5 r (.s .z) r r r .mk) (.g r r r (fun _ => .ixArr (i := 1) un76 sz5 r r (by decide) (o := 1) r r r .mk) (.g r r r (fun _ => .load1 isAgg5 r (.s .z) r r r .mk) (.ww r fun ex => ?_)))))))
 have hw30 := W_law07_Size (I := I) hd
 refine .callP call117 r hw30 r r fun v31 hv32 => ?_
 obtain ⟨r29, rfl, hd⟩ := hv32
 refine .so 2 r r r (.cg r r r r (fun _ => .load1 isAgg5 r (.s .z) r r r .mk) (.cg r r r r (fun _ => .ixArr (i := 1) un76 sz5 r r (by decide) (o := 1) r r r .mk) trivial)) (.ww r fun ex => ?_)
 have hw34 := W_law07_Size (I := I) hd
 refine .callP call117 r hw34 r r fun v35 hv36 => ?_
 obtain ⟨r33, rfl, hd⟩ := hv36
 refine .so 2 r r r trivial (.fk 1 r (.e2 7 (.ks 1 r (.nilS [6, 5, 4, 1] r r (.drop (.s .z) (.sr (.ks 1 r (.nilS [7, 6, 5, 4, 1] r r (.sr ?_)))))))))
 refine .ks 1 r ?_
 have hw56 := W_law07_Few (I := I) R3 hd
 refine .call call118 r hw56 r r fun v51 I48 hl49 hv50 => ?_
 obtain ⟨r47, p53, c54, rfl, R55, hd⟩ := hv50
 replace R3 := R3.mono hl49
 refine .ks 1 r (.nilS [1, 7, 6, 5, 4] r r (.seq (.sr (.ks 1 r (.nilS [8, 1, 7, 6, 5, 4] r r (.block (.own0 eTriple 91 (.loop hd (fun (s : (List Triple) × Int) c w => match s with | (s304, s308) => ∃ I_ p305 c306, IH.le I48 I_ ∧ Ok ⟨73, [], none⟩ [(1, .slice p53 r47.length c54), (4, .pointer (some ⟨b19, 0, none⟩)), (5, .int .i64 r29), (6, .int .i64 r33), (7, .slice p305 s304.length c306), (8, .int .i64 s308)] c ∧ Sym w0 M I I_ [pto b19 (.cells #[.int .i64 0, .int .i64 0, .slice none 0 0, .slice none 0 0, .slice none 0 0] 30 (0, 0)), OwnSl eTriple 91 p305 c306 s304] w) (fun c w ho hs => ⟨I48, _, _, (.refl _), ho.sub ⟨r, r, r, r, r, r, trivial⟩, hs.pick (.c (.s .z) (.c .z .n))⟩) ?_))))))))
 rintro ⟨s304, s308⟩ next310 hd c w hst
 obtain ⟨I311, p305, c306, hl312, hok, hsym⟩ := hst
 have le313 := IH.le.trans hl49 hl312
 replace R55 := R55.mono hl312
 refine Cod.at hok hsym (.seq (.sr (.ks 2 r (.len un24 r r r r (.ks 1 r (.nilS [23, 8, 7, 6, 5, 4, 1] r r (.condP r hd (fun hb315 hd => ?_) fun hb315 hd => ?_)))))))
 · refine .skipS [8, 7, 6, 5, 4, 1] r r (.seq (.block (.sr (.ks 2 r ?_))))
   obtain ⟨h327, x328, hx329, hd⟩ := hd
   obtain ⟨b330, o331, cs332, e333, hC334, hr335⟩ := R55.2 _ _ hx329
   cases hr335
   refine .ixa un24 sz91 r e333 r h327 (idx_lt hx329 h327) r r (.ldW isAgg91 sz91 hC334 r r r r (.allocA zv91 r r fun b336 => ?_))
   refine .storeA sz91 r r .z (.t (.t (.t .nil))) r r (.nilS [9, 8, 7, 6, 5, 4, 1] r r (.seq (.sr (.fa un91 r sz3 r (o := 0) r r r (.load1 ia3 r .z r r r (.ks 2 r ?_))))))
   refine splitP hd (fun hb342 hd => ?_) fun hb342 hd => ?_
   · rw [hb342]
     exact .ks 12 r (.nilS [45, 9, 8, 7, 6, 5, 4, 1] r r (.condKT r r (.exitS [8, 7, 6, 5, 4, 1] r r (.drop .z (.region (.ks 3 r (.nil' fun c w ho hs => ⟨(s304, w64 (s308 + 1)), hd, I311, _, _, hl312, ho.sub ⟨r, r, r, r, r, r, trivial⟩, hs.pick (.c .z (.c .z .n))⟩)))))))
   rw [hb342]
   refine .gyes r r r (.fa un91 r sz3 r (o := 1) r r r (.gyes r r r (.load1 ia3 r .z r r r (.ks 3 r ?_))))
   refine splitP hd (fun hb343 hd => ?_) fun hb343 hd => ?_
   · rw [hb343]
     exact .ks 7 r (.nilS [45, 9, 8, 7, 6, 5, 4, 1] r r (.condKT r r (.exitS [8, 7, 6, 5, 4, 1] r r (.drop .z (.region (.ks 3 r (.nil' fun c w ho hs => ⟨(s304, w64 (s308 + 1)), hd, I311, _, _, hl312, ho.sub ⟨r, r, r, r, r, r, trivial⟩, hs.pick (.c .z (.c .z .n))⟩)))))))
   rw [hb343]
   refine .ks 4 r ?_
   refine splitP hd (fun hb344 hd => ?_) fun hb344 hd => ?_
   · rw [hb344]
     exact .ks 3 r (.nilS [45, 9, 8, 7, 6, 5, 4, 1] r r (.condKT r r (.exitS [8, 7, 6, 5, 4, 1] r r (.drop .z (.region (.ks 3 r (.nil' fun c w ho hs => ⟨(s304, w64 (s308 + 1)), hd, I311, _, _, hl312, ho.sub ⟨r, r, r, r, r, r, trivial⟩, hs.pick (.c .z (.c .z .n))⟩)))))))
   rw [hb344]
   refine .ks 3 r (.nilS [45, 9, 8, 7, 6, 5, 4, 1] r r (.condP r hd (fun hb345 hd => ?_) fun hb345 hd => ?_))
   · exact .exitS [8, 7, 6, 5, 4, 1] r r (.drop .z (.region (.ks 3 r (.nil' fun c w ho hs => ⟨(s304, w64 (s308 + 1)), hd, I311, _, _, hl312, ho.sub ⟨r, r, r, r, r, r, trivial⟩, hs.pick (.c .z (.c .z .n))⟩))))
   refine .skipS [9, 8, 7, 6, 5, 4, 1] r r (.sr (.fa un91 r sz3 r (o := 0) r r r (.load1 ia3 r .z r r r (.ks 1 r ?_))))
   obtain ⟨hz347, hd⟩ := hd
   refine .rem r r hz347 r r (.fa un91 r sz3 r (o := 0) r r r (.store1 sz3 r r .z (.t .nil) r (.nilS [9, 8, 7, 6, 5, 4, 1] r r (.sr (.fa un91 r sz3 r (o := 1) r r r (.load1 ia3 r .z r r r (.ks 1 r ?_)))))))
   obtain ⟨hz348, hd⟩ := hd
   refine .rem r r hz348 r r (.fa un91 r sz3 r (o := 1) r r r (.store1 sz3 r r .z (.s (.t .nil)) r (.nilS [9, 8, 7, 6, 5, 4, 1] r r (.region (.ks 1 r (.loadW isAgg91 sz91 r .z r r r (.buildSlice 1 un24 sz91 zv91 r r (.c r r r .n) r r fun b349 => ?_)))))))
   obtain ⟨hl351, hd⟩ := hd
   refine .append (ys := [({ Row := x328.Row.tmod r29, Col := x328.Col.tmod r33, Val := x328.Val } : Triple)]) 24 (.s (.s (.s .z))) un24 un24 IN91 r r r r r r r r r (.box .z (.one r) r) hl351 r r fun p352 c353 => ?_
   exact .ks 1 r (.nilS [7, 8, 6, 5, 4, 1] r r (.drop (.s .z) (.drop (.s .z) (.region (.ks 3 r (.nil' fun c w ho hs => ⟨((s304 ++ ([({ Row := x328.Row.tmod r29, Col := x328.Col.tmod r33, Val := x328.Val } : Triple)])), w64 (s308 + 1)), hd, I311, _, _, hl312, ho.sub ⟨r, r, r, r, r, r, trivial⟩, hs.pick (.c (.s .z) (.c .z .n))⟩))))))
 refine .exitS [7, 6, 5, 4] r r (.sr (.ks 3 r (.pub (.s .z) fun I380 hl381 R382 => ?_)))
 have le383 := IH.le.trans le313 hl381
 have le384 := IH.le.trans hl312 hl381
 have hw400 := W_ref07_Of (I := I380) R382 hd
 refine .call call51 r hw400 r r fun v389 I386 hl387 hv388 => ?_
 obtain ⟨r385, p391, c392, p394, c395, p397, c398, rfl, R393, R396, R399, hd⟩ := hv388
 have le401 := IH.le.trans le383 hl387
 have le402 := IH.le.trans le384 hl387
 replace R382 := R382.mono hl387
 refine .ks 3 r (.allocA zv30 r r fun b403 => ?_)
 refine .storeA sz30 r r .z (.t (.t (.t (.t (.t .nil))))) r r (.ks 1 r (.nilS [11, 10, 6, 5, 4] r r (.seq (.sr (.ks 2 r (.nilS [68, 10, 6, 5, 4] r r (.condP r hd (fun hb405 hd => ?_) fun hb405 hd => ?_)))))))
 · refine .sr (.ks 2 r ?_)
   have hw424 := W_ref07_Empty (I := I386) hd
   refine .callO call84 r hw424 r r fun v410 I407 l411 hl408 hv409 => ?_
   obtain ⟨r406, p412, c413, p415, c416, p418, c419, rfl, rfl, hd⟩ := hv409
   have le425 := IH.le.trans le401 hl408
   have le426 := IH.le.trans le402 hl408
   replace R393 := R393.mono hl408
   replace R396 := R396.mono hl408
   replace R399 := R399.mono hl408
   refine .storeA sz30 r r (.s (.s (.s (.s .z)))) (.t (.t (.t (.t (.t .nil))))) r r (.nilS [4] r r (.drop (.s (.s (.s .z))) (.pub .z fun I427 hl428 R429 => ?_)))
   have le430 := IH.le.trans le425 hl428
   have le431 := IH.le.trans le426 hl428
   refine .pub .z fun I432 hl433 R434 => ?_
   have le435 := IH.le.trans le430 hl433
   have le436 := IH.le.trans le431 hl433
   replace R429 := R429.mono hl433
   refine .pub .z fun I437 hl438 R439 => ?_
   have le440 := IH.le.trans le435 hl438
   have le441 := IH.le.trans le436 hl438
   replace R429 := R429.mono hl438
   replace R434 := R434.mono hl438
   exact .ret (pret results79 (.w ia30 sz30 r .z r .n) le440 ⟨r406, _, _, _, _, _, _, r, R429, R434, R439, hd⟩)
 exact .skipS [10, 4] r r (.sr (.loadW ia30 sz30 r .z r r r (.storeA sz30 r r (.s .z) (.t (.t (.t (.t (.t .nil))))) r r (.nilS [4] r r (.drop .z (.ret (pret results79 (.w ia30 sz30 r .z r .n) le401 ⟨r385.1, _, _, _, _, _, _, r, R393, R396, R399, hd⟩)))))))

theorem W_law02_Value {I : IH} {a0 : Int} {a1 : Int} {Q : Int → Prop}  (hd : law02_Value a0 a1 Q) :
  PFun prog 119 [.int .i64 a0, .int .i64 a1] I (fun _ => o0_ Q) := by
 refine Fun.enter func119 r ntmps119 r (.c (.c .n)) fun w0 M => ?_
 refine .sr (.ks 1 r (.nilS [1, 0] r r (.sr (.ks 1 r (.nilS [5, 1] r r (.block (.sr (.ks 2 r (.nilS [12, 5, 1] r r ?_)))))))))
 refine .condP r hd (fun hb1 hd => ?_) fun hb1 hd => ?_
 · exact .sr (.ks 2 r (.nilS [4] r r (.ret (pret results119 (.t r .n) (.refl _) ⟨a1, r, hd⟩))))
 refine .sr (.ks 2 r (.nilS [15, 1] r r (.condP r hd (fun hb2 hd => ?_) fun hb2 hd => ?_)))
 · exact .sr (.ks 3 r (.nilS [4] r r (.ret (pret results119 (.t r .n) (.refl _) ⟨(bnd .i64 a1 1), r, hd⟩))))
 refine .sr (.ks 3 r (.nilS [1] r r (.seq (.sr (.ks 1 r (.rem r r (by decide) r r (.ks 1 r (.nilS [10, 1] r r (.condP r hd (fun hb3 hd => ?_) fun hb3 hd => ?_)))))))))
 · exact .sr (.ks 1 r (.nilS [4] r r (.ret (pret results119 (.t r .n) (.refl _) ⟨4611686018427387904, r, hd⟩))))
 exact .skipS [1] r r (.sr (.ks 2 r (.nilS [4] r r (.ret (pret results119 (.t r .n) (.refl _) ⟨(bnd .i64 a1 4611686018427387903), r, hd⟩)))))

theorem W_law02_Factor {I : IH} {a0 : Int} {a1 : Int} {Q : Int → Prop}  (hd : law02_Factor a0 a1 Q) :
  PFun prog 80 [.int .i64 a0, .int .i64 a1] I (fun _ => o0_ Q) := by
 refine Fun.enter func80 r ntmps80 r (.c (.c .n)) fun w0 M => ?_
 refine .sr (.ks 1 r (.nilS [1, 0] r r (.seq (.sr (.ks 2 r (.nilS [6, 1, 0] r r (.condP r hd (fun hb1 hd => ?_) fun hb1 hd => ?_)))))))
 · exact .sr (.ks 1 r (.rem r r (by decide) r r (.ks 1 r (.nilS [4] r r (.ret (pret results80 (.t r .n) (.refl _) ⟨(a1.tmod 2147483648), r, hd⟩))))))
 refine .skipS [1, 0] r r (.sr (.ks 2 r ?_))
 have hw3 := W_law02_Value (I := I) hd
 refine .callP call119 r hw3 r r fun v4 hv5 => ?_
 obtain ⟨r2, rfl, hd⟩ := hv5
 exact .ks 1 r (.nilS [4] r r (.ret (pret results80 (.t r .n) (.refl _) ⟨r2, r, hd⟩)))

theorem W_law13_Task_Matrix {I : IH} {a0 : Law13_Task} {p1 : Option Addr} {c2 : Nat} {p4 : Option Addr} {c5 : Nat} {p7 : Option Addr} {c8 : Nat} {p10 : Option Addr} {c11 : Nat} {Q : Rows → Prop} (R3 : RepSl eTriple I p1 c2 a0.L) (R6 : RepSl eItem I p4 c5 a0.X) (R9 : RepSl eItem I p7 c8 a0.Y) (R12 : RepSl eU64 I p10 c11 a0.F) (hd : law13_Task_Matrix a0 Q) :
  PFun prog 32 [.agg #[.int .i64 a0.Ring, .int .u8 a0.Size.1, .int .u8 a0.Size.2, .slice p1 a0.L.length c2, .slice p4 a0.X.length c5, .slice p7 a0.Y.length c8, .slice p10 a0.F.length c11, .bool a0.Others]] I (fun I_ v => ∃ r p13 c14 p16 c17 p19 c20, v = .agg #[.int .i64 r.Rows, .int .i64 r.Cols, .slice p13 r.Start.length c14, .slice p16 r.Col.length c17, .slice p19 r.Val.length c20] ∧ RepSl eI64 I_ p13 c14 r.Start ∧ RepSl eI64 I_ p16 c17 r.Col ∧ RepSl eI64 I_ p19 c20 r.Val ∧ Q r) := by
 refine Fun.enter func32 r ntmps32 r (.c .n) fun w0 M => ?_
 refine .sr (.boxA r r r fun b26 => ?_)
 refine .allocA zv30 r r fun b28 => ?_
 refine .nilS [2, 1] r r (.sr (.fa un78 r sizeOf76 r (o := 1) r r r (.loadA isAgg76 sizeOf76 r (.s .z) (.s (.t (.t .nil))) r r r (.fa un78 r sizeOf24 r (o := 3) r r r (.load1 isAgg24 r (.s .z) r r r ?_)))))
 have hw63 := W_law07_Some (I := I) R3 hd
 refine .call call79 r hw63 r r fun v52 I49 hl50 hv51 => ?_
 obtain ⟨r48, p54, c55, p57, c58, p60, c61, rfl, R56, R59, R62, hd⟩ := hv51
 replace R3 := R3.mono hl50
 replace R6 := R6.mono hl50
 replace R9 := R9.mono hl50
 replace R12 := R12.mono hl50
 refine .allocA zv30 r r fun b64 => ?_
 refine .storeA sz30 r r .z (.t (.t (.t (.t (.t .nil))))) r r (.nilS [3, 2, 1] r r (.sr (.fa un78 r sz22 r (o := 0) r r r (.load1 ia22 r (.s (.s .z)) r r r ?_))))
 have hw71 := W_law13_Right (I := I49) hd
 refine .callP call22 r hw71 r r fun v72 hv73 => ?_
 obtain ⟨r70, rfl, hd⟩ := hv73
 refine .ks 1 r (.nilS [4, 3, 2] r r (.drop (.s (.s .z)) (.sr (.ks 1 r (.nilS [5, 4, 3, 2] r r (.seq (.sr (.ks 1 r (.nilS [6, 5, 4, 3, 2] r r ?_)))))))))
 refine .block (.own0 eI64 2 (.loop hd (fun (s : (List Int) × Int) c w => match s with | (s132, s136) => ∃ I_ p133 c134, IH.le I49 I_ ∧ Ok ⟨35, [], none⟩ [(2, .pointer (some ⟨b28, 0, none⟩)), (3, .pointer (some ⟨b64, 0, none⟩)), (4, .int .i64 r70), (5, .slice p133 s132.length c134), (6, .int .i64 s136)] c ∧ Sym w0 M I I_ [pto b28 (.cells #[.int .i64 0, .int .i64 0, .slice none 0 0, .slice none 0 0, .slice none 0 0] 30 (0, 0)), pto b64 (.cells #[.int .i64 r48.Rows, .int .i64 r48.Cols, .slice p54 r48.Start.length c55, .slice p57 r48.Col.length c58, .slice p60 r48.Val.length c61] 30 (0, 0)), OwnSl eI64 2 p133 c134 s132] w) (fun c w ho hs => ⟨I49, _, _, (.refl _), ho.sub ⟨r, r, r, r, r, trivial⟩, hs.pick (.c (.s (.s .z)) (.c (.s .z) (.c .z .n)))⟩) ?_))
 rintro ⟨s132, s136⟩ next138 hd c w hst
 obtain ⟨I139, p133, c134, hl140, hok, hsym⟩ := hst
 have le141 := IH.le.trans hl50 hl140
 replace R56 := R56.mono hl140
 replace R59 := R59.mono hl140
 replace R62 := R62.mono hl140
 refine Cod.at hok hsym (.seq (.sr (.ks 1 r (.fa un30 r sz28 r (o := 4) r r r (.load1 ia28 r (.s .z) r r r (.len un28 r r r r (.ks 1 r (.nilS [19, 6, 5, 4, 3, 2] r r (.condP r hd (fun hb143 hd => ?_) fun hb143 hd => ?_)))))))))
 · refine .skipS [6, 5, 4, 3, 2] r r (.seq (.block (.region (.ks 2 r (.fa un30 r sz28 r (o := 4) r r r (.load1 ia28 r (.s .z) r r r (.ks 1 r ?_)))))))
   obtain ⟨h144, x145, hx146, hd⟩ := hd
   obtain ⟨b147, o148, cs149, e150, hC151, hr152⟩ := R62.2 _ _ hx146
   cases hr152
   refine .ixa un28 sz2 r e150 r h144 (idx_lt hx146 h144) r r (.ld1 (j := 0) ia2 hC151 r r r r r ?_)
   have hw154 := W_law02_Factor (I := I139) hd
   refine .callP call80 r hw154 r r fun v155 hv156 => ?_
   obtain ⟨r153, rfl, hd⟩ := hv156
   refine .buildSlice 1 un28 sz2 zeroValue2 r r (.c r r r .n) r r fun b157 => ?_
   obtain ⟨hl159, hd⟩ := hd
   refine .append (ys := [r153]) 8 (.s (.s (.s .z))) un28 un28 IN2 r r r r r r r r r (.box .z (.one r) r) hl159 r r fun p160 c161 => ?_
   exact .ks 1 r (.nilS [5, 6, 4, 3, 2] r r (.drop (.s .z) (.region (.ks 3 r (.nil' fun c w ho hs => ⟨((s132 ++ ([r153])), w64 (s136 + 1)), hd, I139, _, _, hl140, ho.sub ⟨r, r, r, r, r, trivial⟩, hs.pick (.c (.s .z) (.c (.s .z) (.c .z .n)))⟩)))))
 refine .exitS [5, 3, 2] r r (.sr (.ks 1 r (.fa un30 r sz28 r (o := 4) r r r (.store1 sz28 r r (.s .z) (.s (.s (.s (.s (.t .nil))))) r (.nilS [3, 2] r r (.sr (.loadW ia30 sz30 r (.s .z) r r r (.storeA sz30 r r .z (.t (.t (.t (.t (.t .nil))))) r r (.nilS [2] r r ?_)))))))))
 refine .drop (.s .z) (.pub (.s .z) fun I163 hl164 R165 => ?_)
 have le166 := IH.le.trans le141 hl164
 have le167 := IH.le.trans hl140 hl164
 replace R56 := R56.mono hl164
 replace R59 := R59.mono hl164
 exact .ret (pret results32 (.w ia30 sz30 r .z r .n) le166 ⟨({ Rows := r48.Rows, Cols := r48.Cols, Start := r48.Start, Col := r48.Col, Val := s132 } : Rows), _, _, _, _, _, _, r, R56, R59, R165, hd⟩)

theorem W_law15_Task_Three {I : IH} {a0 : Law15_Task} {p1 : Option Addr} {c2 : Nat} {p4 : Option Addr} {c5 : Nat} {p7 : Option Addr} {c8 : Nat} {Q : (Rows × Rows × Rows) → Prop} (R3 : RepSl eTriple I p1 c2 a0.A) (R6 : RepSl eTriple I p4 c5 a0.B) (R9 : RepSl eTriple I p7 c8 a0.M) (hd : law15_Task_Three a0 Q) :
  PFun prog 8 [.agg #[.int .i64 a0.Ring, .int .u8 a0.Size.1, .int .u8 a0.Size.2.1, .int .u8 a0.Size.2.2, .slice p1 a0.A.length c2, .slice p4 a0.B.length c5, .slice p7 a0.M.length c8]] I (fun I_ v => ∃ r p10 c11 p13 c14 p16 c17 p19 c20 p22 c23 p25 c26 p28 c29 p31 c32 p34 c35, v = .agg #[.int .i64 r.1.Rows, .int .i64 r.1.Cols, .slice p10 r.1.Start.length c11, .slice p13 r.1.Col.length c14, .slice p16 r.1.Val.length c17, .int .i64 r.2.1.Rows, .int .i64 r.2.1.Cols, .slice p19 r.2.1.Start.length c20, .slice p22 r.2.1.Col.length c23, .slice p25 r.2.1.Val.length c26, .int .i64 r.2.2.Rows, .int .i64 r.2.2.Cols, .slice p28 r.2.2.Start.length c29, .slice p31 r.2.2.Col.length c32, .slice p34 r.2.2.Val.length c35] ∧ RepSl eI64 I_ p10 c11 r.1.Start ∧ RepSl eI64 I_ p13 c14 r.1.Col ∧ RepSl eI64 I_ p16 c17 r.1.Val ∧ RepSl eI64 I_ p19 c20 r.2.1.Start ∧ RepSl eI64 I_ p22 c23 r.2.1.Col ∧ RepSl eI64 I_ p25 c26 r.2.1.Val ∧ RepSl eI64 I_ p28 c29 r.2.2.Start ∧ RepSl eI64 I_ p31 c32 r.2.2.Col ∧ RepSl eI64 I_ p34 c35 r.2.2.Val ∧ Q r) := by
 refine Fun.enter func8 r ntmps8 r (.c .n) fun w0 M => ?_
 refine .sr (.boxA r r r fun b41 => ?_)
 refine .allocA zv31 r r fun b43 => ?_
 refine .nilS [2, 1] r r (.seq (.dr [0, 1, 2, 4, 5, 6, 8, 9, 10, 3, 7, 11, 12, 13] 14 (.g r r r (fun _ => .fa un26 r sizeOf23 r (o := 1) r r r .mk) (.g r r r (fun _ => .ixArr (i := 0) un23 sz5 r r (by decide) (o := 1) r r r .mk) (.g r r r (fun _ => .load1 isAgg5 r (.s .z) r r r .mk) (.g r r r (fun _ => .fa un26 r sizeOf23 r (o := 1) r r r .mk) (.g r r r (fun _ => .ixArr (i := 1) un23 sz5 r r (by decide) (o := 2) r r r .mk) (.g r r r (fun _ => .load1 isAgg5 r (.s .z) r r r .mk) (.g r r r (fun _ => .fa un26 r sizeOf23 r (o := 1) r r r .mk) ?_)))))))))
 refine .g r r r (fun _ => .ixArr (i := 2) un23 sz5 r r (by decide) (o := 3) r r r .mk) (.g r r r (fun _ => .load1 isAgg5 r (.s .z) r r r .mk) (.ww r fun ex => ?_))
 have hw58 := W_law15_small (I := I) hd
 refine .callP call31 r hw58 r r fun v59 hv60 => ?_
 obtain ⟨r57, rfl, hd⟩ := hv60
 refine .so 2 r r r (.cg r r r r (fun _ => .load1 isAgg5 r (.s .z) r r r .mk) (.cg r r r r (fun _ => .ixArr (i := 2) un23 sz5 r r (by decide) (o := 3) r r r .mk) (.cg r r r r (fun _ => .fa un26 r sizeOf23 r (o := 1) r r r .mk) (.cg r r r r (fun _ => .load1 isAgg5 r (.s .z) r r r .mk) (.cg r r r r (fun _ => .ixArr (i := 1) un23 sz5 r r (by decide) (o := 2) r r r .mk) (.cg r r r r (fun _ => .fa un26 r sizeOf23 r (o := 1) r r r .mk) trivial)))))) (.ww r fun ex => ?_)
 have hw62 := W_law15_small (I := I) hd
 refine .callP call31 r hw62 r r fun v63 hv64 => ?_
 obtain ⟨r61, rfl, hd⟩ := hv64
 refine .so 2 r r r (.cg r r r r (fun _ => .load1 isAgg5 r (.s .z) r r r .mk) (.cg r r r r (fun _ => .ixArr (i := 2) un23 sz5 r r (by decide) (o := 3) r r r .mk) (.cg r r r r (fun _ => .fa un26 r sizeOf23 r (o := 1) r r r .mk) trivial))) (.ww r fun ex => ?_)
 have hw66 := W_law15_small (I := I) hd
 refine .callP call31 r hw66 r r fun v67 hv68 => ?_
 obtain ⟨r65, rfl, hd⟩ := hv68
 refine .so 2 r r r trivial (.fk 2 r (.e2 14 (.ks 1 r (.nilS [5, 4, 3, 2, 1] r r (.sr (.fa un26 r sz22 r (o := 0) r r r (.load1 ia22 r (.s .z) r r r (.ks 2 r (.buildArr zeroValue76 un76 sz5 (.c r r r (.t .nil) (.c r r r (.s (.t .nil)) .n)) r r ?_)))))))))
 refine .fa un26 r sizeOf24 r (o := 4) r r r (.load1 isAgg24 r (.s .z) r r r (.build zv78 un78 BI78 (.c r r r (.t .nil) (.c r r r (.s (.t (.t .nil))) (.c r r r (.s (.s (.s (.t .nil)))) .n))) (by exact ⟨⟨_, _, r, r, r⟩, ⟨⟨_, _, r, r, r⟩, ⟨⟨_, _, r, r, r⟩, trivial⟩⟩⟩) r r (.allocA zv78 r r fun b71 => ?_)))
 refine .storeA sizeOf78 r r .z (.t (.t (.t (.t (.t (.t (.t (.t .nil)))))))) r r (.nilS [6, 5, 4, 3, 2, 1] r r (.sr (.fa un26 r sz22 r (o := 0) r r r (.load1 ia22 r (.s (.s .z)) r r r (.ks 2 r (.buildArr zeroValue76 un76 sz5 (.c r r r (.t .nil) (.c r r r (.s (.t .nil)) .n)) r r (.fa un26 r sizeOf24 r (o := 5) r r r (.load1 isAgg24 r (.s (.s .z)) r r r (.build zv78 un78 BI78 (.c r r r (.t .nil) (.c r r r (.s (.t (.t .nil))) (.c r r r (.s (.s (.s (.t .nil)))) .n))) (by exact ⟨⟨_, _, r, r, r⟩, ⟨⟨_, _, r, r, r⟩, ⟨⟨_, _, r, r, r⟩, trivial⟩⟩⟩) r r ?_)))))))))
 refine .allocA zv78 r r fun b75 => ?_
 refine .storeA sizeOf78 r r .z (.t (.t (.t (.t (.t (.t (.t (.t .nil)))))))) r r (.nilS [7, 6, 5, 3, 2, 1] r r (.sr (.fa un26 r sz22 r (o := 0) r r r (.load1 ia22 r (.s (.s (.s .z))) r r r (.ks 2 r (.buildArr zeroValue76 un76 sz5 (.c r r r (.t .nil) (.c r r r (.s (.t .nil)) .n)) r r (.fa un26 r sizeOf24 r (o := 6) r r r (.load1 isAgg24 r (.s (.s (.s .z))) r r r (.build zv78 un78 BI78 (.c r r r (.t .nil) (.c r r r (.s (.t (.t .nil))) (.c r r r (.s (.s (.s (.t .nil)))) .n))) (by exact ⟨⟨_, _, r, r, r⟩, ⟨⟨_, _, r, r, r⟩, ⟨⟨_, _, r, r, r⟩, trivial⟩⟩⟩) r r ?_)))))))))
 refine .allocA zv78 r r fun b77 => ?_
 refine .storeA sizeOf78 r r .z (.t (.t (.t (.t (.t (.t (.t (.t .nil)))))))) r r (.nilS [8, 7, 6, 2] r r (.drop (.s (.s (.s (.s .z)))) (.seq (.dr [0, 2, 4, 1, 3, 5, 6] 7 (.g r r r (fun _ => .loadW isAgg78 sizeOf78 r (.s (.s .z)) r r r .mk) (.g r r r (fun _ => .loadW isAgg78 sizeOf78 r (.s .z) r r r .mk) (.g r r r (fun _ => .loadW isAgg78 sizeOf78 r .z r r r .mk) (.ww r fun ex => ?_))))))))
 have hw94 := W_law13_Task_Matrix (I := I) (a0 := ({ Ring := a0.Ring, Size := (r57, r61), L := a0.A, X := ([] : List Item), Y := ([] : List Item), F := ([] : List Int), Others := false } : Law13_Task)) R3 (.nil _ none 0) (.nil _ none 0) (.nil _ none 0) hd
 refine .call call32 r hw94 r r fun v83 I80 hl81 hv82 => ?_
 obtain ⟨r79, p85, c86, p88, c89, p91, c92, rfl, R87, R90, R93, hd⟩ := hv82
 replace R3 := R3.mono hl81
 replace R6 := R6.mono hl81
 replace R9 := R9.mono hl81
 refine .so 4 r r r (.cg r r r r (fun _ => .loadW isAgg78 sizeOf78 r .z r r r .mk) (.cg r r r r (fun _ => .loadW isAgg78 sizeOf78 r (.s .z) r r r .mk) trivial)) (.ww r fun ex => ?_)
 have hw110 := W_law13_Task_Matrix (I := I80) (a0 := ({ Ring := a0.Ring, Size := (r61, r65), L := a0.B, X := ([] : List Item), Y := ([] : List Item), F := ([] : List Int), Others := false } : Law13_Task)) R6 (.nil _ none 0) (.nil _ none 0) (.nil _ none 0) hd
 refine .call call32 r hw110 r r fun v99 I96 hl97 hv98 => ?_
 obtain ⟨r95, p101, c102, p104, c105, p107, c108, rfl, R103, R106, R109, hd⟩ := hv98
 have le111 := IH.le.trans hl81 hl97
 replace R3 := R3.mono hl97
 replace R6 := R6.mono hl97
 replace R9 := R9.mono hl97
 replace R87 := R87.mono hl97
 replace R90 := R90.mono hl97
 replace R93 := R93.mono hl97
 refine .so 4 r r r (.cg r r r r (fun _ => .loadW isAgg78 sizeOf78 r .z r r r .mk) trivial) (.ww r fun ex => ?_)
 have hw127 := W_law13_Task_Matrix (I := I96) (a0 := ({ Ring := a0.Ring, Size := (r57, r65), L := a0.M, X := ([] : List Item), Y := ([] : List Item), F := ([] : List Int), Others := false } : Law13_Task)) R9 (.nil _ none 0) (.nil _ none 0) (.nil _ none 0) hd
 refine .call call32 r hw127 r r fun v116 I113 hl114 hv115 => ?_
 obtain ⟨r112, p118, c119, p121, c122, p124, c125, rfl, R120, R123, R126, hd⟩ := hv115
 have le128 := IH.le.trans le111 hl114
 replace R3 := R3.mono hl114
 replace R6 := R6.mono hl114
 replace R9 := R9.mono hl114
 replace R87 := R87.mono hl114
 replace R90 := R90.mono hl114
 replace R93 := R93.mono hl114
 replace R103 := R103.mono hl114
 replace R106 := R106.mono hl114
 replace R109 := R109.mono hl114
 exact .so 4 r r r trivial (.g r r r (fun _ => .buildArr zv31 un31 sz30 (.c r r r (.t (.t (.t (.t (.t .nil))))) (.c r r r (.s (.s (.s (.s (.s (.t (.t (.t (.t (.t .nil)))))))))) (.c r r r (.s (.s (.s (.s (.s (.s (.s (.s (.s (.s (.t (.t (.t (.t (.t .nil))))))))))))))) .n))) r r .mk) (.e2 7 (.storeA sizeOf31 r r (.s (.s (.s .z))) (.t (.t (.t (.t (.t (.t (.t (.t (.t (.t (.t (.t (.t (.t (.t .nil))))))))))))))) r r (.nilS [2] r r (.drop .z (.drop .z (.drop .z (.ret (pret results8 (.w isAgg31 sizeOf31 r .z r .n) le128 ⟨(r79, r95, r112), _, _, _, _, _, _, _, _, _, _, _, _, _, _, _, _, _, _, r, R87, R90, R93, R103, R106, R109, R120, R123, R126, hd⟩)))))))))

theorem W_ref07_Right {I : IH} {a0 : Rows} {p1 : Option Addr} {c2 : Nat} {p4 : Option Addr} {c5 : Nat} {p7 : Option Addr} {c8 : Nat} {Q : Bool → Prop} (R3 : RepSl eI64 I p1 c2 a0.Start) (R6 : RepSl eI64 I p4 c5 a0.Col) (R9 : RepSl eI64 I p7 c8 a0.Val) (hd : ref07_Right a0 Q) :
  PFun prog 83 [.agg #[.int .i64 a0.Rows, .int .i64 a0.Cols, .slice p1 a0.Start.length c2, .slice p4 a0.Col.length c5, .slice p7 a0.Val.length c8]] I (fun _ => o1_ Q) := by
 refine Fun.enter func83 r ntmps83 r (.c .n) fun w0 M => ?_
 refine .sr (.boxA r r r fun b12 => ?_)
 refine .ks 1 r (.nilS [1] r r (.seq (.sr (.fa un30 r sz3 r (o := 0) r r r (.load1 ia3 r .z r r r (.ks 2 r ?_))))))
 refine splitP hd (fun hb21 hd => ?_) fun hb21 hd => ?_
 · rw [hb21]
   exact .ks 38 r (.nilS [46, 1] r r (.condKT r r (.sr (.ks 1 r (.nilS [2] r r (.drop .z (.ret (pret results83 (.t r .n) (.refl _) ⟨false, r, hd⟩))))))))
 rw [hb21]
 refine .gyes r r r (.fa un30 r sz3 r (o := 0) r r r (.gyes r r r (.load1 ia3 r .z r r r (.ks 3 r ?_))))
 refine splitP hd (fun hb22 hd => ?_) fun hb22 hd => ?_
 · rw [hb22]
   exact .ks 33 r (.nilS [46, 1] r r (.condKT r r (.sr (.ks 1 r (.nilS [2] r r (.drop .z (.ret (pret results83 (.t r .n) (.refl _) ⟨false, r, hd⟩))))))))
 rw [hb22]
 refine .gyes r r r (.fa un30 r sz3 r (o := 1) r r r (.gyes r r r (.load1 ia3 r .z r r r (.ks 3 r ?_))))
 refine splitP hd (fun hb23 hd => ?_) fun hb23 hd => ?_
 · rw [hb23]
   exact .ks 28 r (.nilS [46, 1] r r (.condKT r r (.sr (.ks 1 r (.nilS [2] r r (.drop .z (.ret (pret results83 (.t r .n) (.refl _) ⟨false, r, hd⟩))))))))
 rw [hb23]
 refine .gyes r r r (.fa un30 r sz3 r (o := 1) r r r (.gyes r r r (.load1 ia3 r .z r r r (.ks 3 r ?_))))
 refine splitP hd (fun hb24 hd => ?_) fun hb24 hd => ?_
 · rw [hb24]
   exact .ks 23 r (.nilS [46, 1] r r (.condKT r r (.sr (.ks 1 r (.nilS [2] r r (.drop .z (.ret (pret results83 (.t r .n) (.refl _) ⟨false, r, hd⟩))))))))
 rw [hb24]
 refine .gyes r r r (.fa un30 r sz27 r (o := 2) r r r (.gyes r r r (.load1 ia27 r .z r r r (.gyes r r r (.len un27 r r r r (.gyes r r r (.fa un30 r sz3 r (o := 0) r r r (.gyes r r r (.load1 ia3 r .z r r r (.ks 4 r ?_))))))))))
 refine splitP hd (fun hb25 hd => ?_) fun hb25 hd => ?_
 · rw [hb25]
   exact .ks 14 r (.nilS [46, 1] r r (.condKT r r (.sr (.ks 1 r (.nilS [2] r r (.drop .z (.ret (pret results83 (.t r .n) (.refl _) ⟨false, r, hd⟩))))))))
 rw [hb25]
 refine .gyes r r r (.fa un30 r sz27 r (o := 3) r r r (.gyes r r r (.load1 ia27 r .z r r r (.gyes r r r (.len un27 r r r r (.gyes r r r (.fa un30 r sz28 r (o := 4) r r r (.gyes r r r (.load1 ia28 r .z r r r (.gyes r r r (.len un28 r r r r (.ks 3 r ?_))))))))))))
 refine splitP hd (fun hb26 hd => ?_) fun hb26 hd => ?_
 · rw [hb26]
   exact .ks 5 r (.nilS [46, 1] r r (.condKT r r (.sr (.ks 1 r (.nilS [2] r r (.drop .z (.ret (pret results83 (.t r .n) (.refl _) ⟨false, r, hd⟩))))))))
 rw [hb26]
 refine .gyes r r r (.fa un30 r sz27 r (o := 3) r r r (.gyes r r r (.load1 ia27 r .z r r r (.gyes r r r (.len un27 r r r r (.ks 2 r (.nilS [46, 1] r r (.condP r hd (fun hb27 hd => ?_) fun hb27 hd => ?_))))))))
 · exact .sr (.ks 1 r (.nilS [2] r r (.drop .z (.ret (pret results83 (.t r .n) (.refl _) ⟨false, r, hd⟩)))))
 refine .skipS [1] r r (.seq (.seq (.dr [0, 1, 2, 3, 4, 5, 6, 7, 8, 9, 10, 11, 12, 13, 14, 15, 16] 17 (.g r r r (fun _ => .fa un30 r sz27 r (o := 2) r r r .mk) (.g r r r (fun _ => .load1 ia27 r .z r r r .mk) ?_)))))
 obtain ⟨h48, x49, hx50, hd⟩ := hd
 obtain ⟨b51, o52, cs53, e54, hC55, hr56⟩ := R3.2 _ _ hx50
 cases hr56
 refine .g r r r (fun _ => .ixa un27 sz3 r e54 r h48 (idx_lt hx50 h48) r r .mk) (.g r r r (fun _ => .ld1 (j := 0) ia3 hC55 r r r r r .mk) (.fk 2 r ?_))
 refine splitP hd (fun hb57 hd => ?_) fun hb57 hd => ?_
 · rw [hb57]
   exact .fk 11 r (.e2 17 (.nilS [63, 1] r r (.condKT r r (.sr (.ks 1 r (.nilS [2] r r (.drop .z (.ret (pret results83 (.t r .n) (.refl _) ⟨false, r, hd⟩)))))))))
 rw [hb57]
 refine .g r r r (fun _ => .gyes r r r (.fa un30 r sz27 r (o := 2) r r r .mk)) (.g r r r (fun _ => .gyes r r r (.load1 ia27 r .z r r r .mk)) (.g r r r (fun _ => .gyes r r r (.fa un30 r sz3 r (o := 0) r r r .mk)) (.g r r r (fun _ => .gyes r r r (.load1 ia3 r .z r r r .mk)) ?_)))
 obtain ⟨h58, x59, hx60, hd⟩ := hd
 obtain ⟨b61, o62, cs63, e64, hC65, hr66⟩ := R3.2 _ _ hx60
 cases hr66
 refine .g r r r (fun _ => .gyes r r r (.ixa un27 sz3 r e64 r h58 (idx_lt hx60 h58) r r .mk)) (.g r r r (fun _ => .gyes r r r (.ld1 (j := 0) ia3 hC65 r r r r r .mk)) (.g r r r (fun _ => .gyes r r r (.fa un30 r sz27 r (o := 3) r r r .mk)) (.g r r r (fun _ => .gyes r r r (.load1 ia27 r .z r r r .mk)) (.g r r r (fun _ => .gyes r r r (.len un27 r r r r .mk)) (.fk 2 r (.e2 17 (.nilS [63, 1] r r (.condP r hd (fun hb67 hd => ?_) fun hb67 hd => ?_))))))))
 · exact .sr (.ks 1 r (.nilS [2] r r (.drop .z (.ret (pret results83 (.t r .n) (.refl _) ⟨false, r, hd⟩)))))
 refine .skipS [1] r r (.seq (.sr (.ks 1 r (.nilS [3, 1] r r (.block (.loop hd (fun (s695 : Int) c w => ∃ I_, IH.le I I_ ∧ Ok ⟨156, [], none⟩ [(1, .pointer (some ⟨b12, 0, none⟩)), (3, .int .i64 s695)] c ∧ Sym w0 M I I_ [pto b12 (.cells #[.int .i64 a0.Rows, .int .i64 a0.Cols, .slice p1 a0.Start.length c2, .slice p4 a0.Col.length c5, .slice p7 a0.Val.length c8] 30 (0, 0))] w) (fun c w ho hs => ⟨I, (.refl _), ho.sub ⟨r, r, trivial⟩, hs.pick (.c .z .n)⟩) ?_))))))
 rintro s695 next696 hd c w hst
 obtain ⟨I697, hl698, hok, hsym⟩ := hst
 replace R3 := R3.mono hl698
 replace R6 := R6.mono hl698
 replace R9 := R9.mono hl698
 refine Cod.at hok hsym (.seq (.sr (.ks 1 r (.fa un30 r sz3 r (o := 0) r r r (.load1 ia3 r .z r r r (.ks 1 r (.nilS [67, 3, 1] r r (.condP r hd (fun hb700 hd => ?_) fun hb700 hd => ?_))))))))
 · refine .skipS [3, 1] r r (.seq (.block (.seq (.seq (.dr [0, 1, 2, 3, 4, 5, 6, 7, 8, 9, 10, 11, 12, 13, 14, 15, 16, 17, 18, 19, 20, 21, 22, 23, 24, 25, 26, 27, 28, 29, 30, 31] 32 (.g r r r (fun _ => .fa un30 r sz27 r (o := 2) r r r .mk) (.g r r r (fun _ => .load1 ia27 r .z r r r .mk) (.fk 1 r ?_))))))))
   obtain ⟨h740, x741, hx742, hd⟩ := hd
   obtain ⟨b743, o744, cs745, e746, hC747, hr748⟩ := R3.2 _ _ hx742
   cases hr748
   refine .g r r r (fun _ => .ixa un27 sz3 r e746 r h740 (idx_lt hx742 h740) r r .mk) (.g r r r (fun _ => .ld1 (j := 0) ia3 hC747 r r r r r .mk) (.g r r r (fun _ => .fa un30 r sz27 r (o := 2) r r r .mk) (.g r r r (fun _ => .load1 ia27 r .z r r r .mk) (.fk 2 r ?_))))
   obtain ⟨h749, x750, hx751, hd⟩ := hd
   obtain ⟨b752, o753, cs754, e755, hC756, hr757⟩ := R3.2 _ _ hx751
   cases hr757
   refine .g r r r (fun _ => .ixa un27 sz3 r e755 r h749 (idx_lt hx751 h749) r r .mk) (.g r r r (fun _ => .ld1 (j := 0) ia3 hC756 r r r r r .mk) (.fk 2 r ?_))
   refine splitP hd (fun hb758 hd => ?_) fun hb758 hd => ?_
   · rw [hb758]
     exact .fk 19 r (.e2 32 (.nilS [101, 3, 1] r r (.condKT r r (.sr (.ks 1 r (.nilS [2] r r (.drop .z (.ret (pret results83 (.t r .n) hl698 ⟨false, r, hd⟩)))))))))
   rw [hb758]
   refine .g r r r (fun _ => .gyes r r r (.fa un30 r sz27 r (o := 2) r r r .mk)) (.g r r r (fun _ => .gyes r r r (.load1 ia27 r .z r r r .mk)) (.fk 1 r ?_))
   obtain ⟨h759, x760, hx761, hd⟩ := hd
   obtain ⟨b762, o763, cs764, e765, hC766, hr767⟩ := R3.2 _ _ hx761
   cases hr767
   refine .g r r r (fun _ => .gyes r r r (.ixa un27 sz3 r e765 r h759 (idx_lt hx761 h759) r r .mk)) (.g r r r (fun _ => .gyes r r r (.ld1 (j := 0) ia3 hC766 r r r r r .mk)) (.fk 3 r ?_))
   refine splitP hd (fun hb768 hd => ?_) fun hb768 hd => ?_
   · rw [hb768]
     exact .fk 11 r (.e2 32 (.nilS [101, 3, 1] r r (.condKT r r (.sr (.ks 1 r (.nilS [2] r r (.drop .z (.ret (pret results83 (.t r .n) hl698 ⟨false, r, hd⟩)))))))))
   rw [hb768]
   refine .g r r r (fun _ => .gyes r r r (.fa un30 r sz27 r (o := 2) r r r .mk)) (.g r r r (fun _ => .gyes r r r (.load1 ia27 r .z r r r .mk)) (.fk 2 r ?_))
   obtain ⟨h769, x770, hx771, hd⟩ := hd
   obtain ⟨b772, o773, cs774, e775, hC776, hr777⟩ := R3.2 _ _ hx771
   cases hr777
   refine .g r r r (fun _ => .gyes r r r (.ixa un27 sz3 r e775 r h769 (idx_lt hx771 h769) r r .mk)) (.g r r r (fun _ => .gyes r r r (.ld1 (j := 0) ia3 hC776 r r r r r .mk)) (.g r r r (fun _ => .gyes r r r (.fa un30 r sz27 r (o := 3) r r r .mk)) (.g r r r (fun _ => .gyes r r r (.load1 ia27 r .z r r r .mk)) (.g r r r (fun _ => .gyes r r r (.len un27 r r r r .mk)) (.fk 2 r (.e2 32 (.nilS [101, 3, 1] r r (.condP r hd (fun hb778 hd => ?_) fun hb778 hd => ?_))))))))
   · exact .sr (.ks 1 r (.nilS [2] r r (.drop .z (.ret (pret results83 (.t r .n) hl698 ⟨false, r, hd⟩)))))
   refine .skipS [3, 1] r r (.sr (.fa un30 r sz27 r (o := 2) r r r (.load1 ia27 r .z r r r (.ks 1 r ?_))))
   obtain ⟨h788, x789, hx790, hd⟩ := hd
   obtain ⟨b791, o792, cs793, e794, hC795, hr796⟩ := R3.2 _ _ hx790
   cases hr796
   refine .ixa un27 sz3 r e794 r h788 (idx_lt hx790 h788) r r (.ld1 (j := 0) ia3 hC795 r r r r r (.ks 1 r (.nilS [4, 3, 1] r r (.block (.loop hd (fun (s938 : Int) c w => ∃ I_, IH.le I697 I_ ∧ Ok ⟨156, [], none⟩ [(1, .pointer (some ⟨b12, 0, none⟩)), (3, .int .i64 s695), (4, .int .i64 s938)] c ∧ Sym w0 M I I_ [pto b12 (.cells #[.int .i64 a0.Rows, .int .i64 a0.Cols, .slice p1 a0.Start.length c2, .slice p4 a0.Col.length c5, .slice p7 a0.Val.length c8] 30 (0, 0))] w) (fun c w ho hs => ⟨I697, (.refl _), ho.sub ⟨r, r, r, trivial⟩, hs.pick (.c .z .n)⟩) ?_)))))
   rintro s938 next939 hd c w hst
   obtain ⟨I940, hl941, hok, hsym⟩ := hst
   have le942 := IH.le.trans hl698 hl941
   replace R3 := R3.mono hl941
   replace R6 := R6.mono hl941
   replace R9 := R9.mono hl941
   refine Cod.at hok hsym (.seq (.sr (.ks 1 r (.fa un30 r sz27 r (o := 2) r r r (.load1 ia27 r .z r r r (.ks 2 r ?_))))))
   obtain ⟨h953, x954, hx955, hd⟩ := hd
   obtain ⟨b956, o957, cs958, e959, hC960, hr961⟩ := R3.2 _ _ hx955
   cases hr961
   refine .ixa un27 sz3 r e959 r h953 (idx_lt hx955 h953) r r (.ld1 (j := 0) ia3 hC960 r r r r r (.ks 1 r (.nilS [114, 4, 3, 1] r r (.condP r hd (fun hb962 hd => ?_) fun hb962 hd => ?_))))
   · refine .skipS [4, 3, 1] r r (.seq (.block (.seq (.dr [0, 1, 2, 3, 4, 5, 6, 7, 8, 9, 10, 11, 12, 13, 14, 15, 16, 17, 18, 19, 20, 21, 22, 23, 24, 25, 26, 27, 28, 29, 30, 31, 32, 33, 34, 35, 36, 37, 38] 39 (.g r r r (fun _ => .fa un30 r sz27 r (o := 3) r r r .mk) (.g r r r (fun _ => .load1 ia27 r .z r r r .mk) (.fk 1 r ?_)))))))
     obtain ⟨h963, x964, hx965, hd⟩ := hd
     obtain ⟨b966, o967, cs968, e969, hC970, hr971⟩ := R6.2 _ _ hx965
     cases hr971
     refine .g r r r (fun _ => .ixa un27 sz3 r e969 r h963 (idx_lt hx965 h963) r r .mk) (.g r r r (fun _ => .ld1 (j := 0) ia3 hC970 r r r r r .mk) (.fk 2 r ?_))
     refine splitP hd (fun hb972 hd => ?_) fun hb972 hd => ?_
     · rw [hb972]
       exact .fk 32 r (.e2 39 (.nilS [155, 4, 3, 1] r r (.condKT r r (.sr (.ks 1 r (.nilS [2] r r (.drop .z (.ret (pret results83 (.t r .n) le942 ⟨false, r, hd⟩)))))))))
     rw [hb972]
     refine .g r r r (fun _ => .gyes r r r (.fa un30 r sz27 r (o := 3) r r r .mk)) (.g r r r (fun _ => .gyes r r r (.load1 ia27 r .z r r r .mk)) (.fk 1 r ?_))
     obtain ⟨h973, x974, hx975, hd⟩ := hd
     obtain ⟨b976, o977, cs978, e979, hC980, hr981⟩ := R6.2 _ _ hx975
     cases hr981
     refine .g r r r (fun _ => .gyes r r r (.ixa un27 sz3 r e979 r h973 (idx_lt hx975 h973) r r .mk)) (.g r r r (fun _ => .gyes r r r (.ld1 (j := 0) ia3 hC980 r r r r r .mk)) (.g r r r (fun _ => .gyes r r r (.fa un30 r sz3 r (o := 1) r r r .mk)) (.g r r r (fun _ => .gyes r r r (.load1 ia3 r .z r r r .mk)) (.fk 3 r ?_))))
     refine splitP hd (fun hb982 hd => ?_) fun hb982 hd => ?_
     · rw [hb982]
       exact .fk 22 r (.e2 39 (.nilS [155, 4, 3, 1] r r (.condKT r r (.sr (.ks 1 r (.nilS [2] r r (.drop .z (.ret (pret results83 (.t r .n) le942 ⟨false, r, hd⟩)))))))))
     rw [hb982]
     refine .fk 1 r (.g r r r (fun _ => .gyes r r r (.fa un30 r sz27 r (o := 2) r r r .mk)) (.g r r r (fun _ => .gyes r r r (.load1 ia27 r .z r r r .mk)) (.fk 1 r ?_)))
     obtain ⟨h983, x984, hx985, hd⟩ := hd
     obtain ⟨b986, o987, cs988, e989, hC990, hr991⟩ := R3.2 _ _ hx985
     cases hr991
     refine .g r r r (fun _ => .gyes r r r (.ixa un27 sz3 r e989 r h983 (idx_lt hx985 h983) r r .mk)) (.g r r r (fun _ => .gyes r r r (.ld1 (j := 0) ia3 hC990 r r r r r .mk)) (.fk 2 r ?_))
     refine splitP hd (fun hb992 hd => ?_) fun hb992 hd => ?_
     · rw [hb992]
       refine .g r r r (fun _ => .gyes r r r (.fa un30 r sz27 r (o := 3) r r r .mk)) (.g r r r (fun _ => .gyes r r r (.load1 ia27 r .z r r r .mk)) (.fk 1 r ?_))
       obtain ⟨h993, x994, hx995, hd⟩ := hd
       obtain ⟨b996, o997, cs998, e999, hC1000, hr1001⟩ := R6.2 _ _ hx995
       cases hr1001
       refine .g r r r (fun _ => .gyes r r r (.ixa un27 sz3 r e999 r h993 (idx_lt hx995 h993) r r .mk)) (.g r r r (fun _ => .gyes r r r (.ld1 (j := 0) ia3 hC1000 r r r r r .mk)) (.g r r r (fun _ => .gyes r r r (.fa un30 r sz27 r (o := 3) r r r .mk)) (.g r r r (fun _ => .gyes r r r (.load1 ia27 r .z r r r .mk)) (.fk 2 r ?_))))
       obtain ⟨h1002, x1003, hx1004, hd⟩ := hd
       obtain ⟨b1005, o1006, cs1007, e1008, hC1009, hr1010⟩ := R6.2 _ _ hx1004
       cases hr1010
       refine .g r r r (fun _ => .gyes r r r (.ixa un27 sz3 r e1008 r h1002 (idx_lt hx1004 h1002) r r .mk)) (.g r r r (fun _ => .gyes r r r (.ld1 (j := 0) ia3 hC1009 r r r r r .mk)) (.fk 3 r (.e2 39 (.nilS [155, 4, 3, 1] r r (.condP r hd (fun hb1011 hd => ?_) fun hb1011 hd => ?_)))))
       · exact .sr (.ks 1 r (.nilS [2] r r (.drop .z (.ret (pret results83 (.t r .n) le942 ⟨false, r, hd⟩)))))
       exact .skipS [4, 3, 1] r r (.region (.ks 3 r (.nil' fun c w ho hs => ⟨(w64 (s938 + 1)), hd, I940, hl941, ho.sub ⟨r, r, r, trivial⟩, hs.pick (.c .z .n)⟩)))
     rw [hb992]
     exact .fk 14 r (.e2 39 (.nilS [155, 4, 3, 1] r r (.condKF r r (.skipS [4, 3, 1] r r (.region (.ks 3 r (.nil' fun c w ho hs => ⟨(w64 (s938 + 1)), hd, I940, hl941, ho.sub ⟨r, r, r, trivial⟩, hs.pick (.c .z .n)⟩)))))))
   exact .exitS [3, 1] r r (.region (.ks 3 r (.nil' fun c w ho hs => ⟨(w64 (s695 + 1)), hd, I940, le942, ho.sub ⟨r, r, trivial⟩, hs.pick (.c .z .n)⟩)))
 exact .exitS [] r r (.drop .z (.sr (.ks 1 r (.nilS [2] r r (.ret (pret results83 (.t r .n) hl698 ⟨true, r, hd⟩))))))

theorem W_ref07_Sure {I : IH} {a0 : Rows} {p1 : Option Addr} {c2 : Nat} {p4 : Option Addr} {c5 : Nat} {p7 : Option Addr} {c8 : Nat} {Q : Rows → Prop} (R3 : RepSl eI64 I p1 c2 a0.Start) (R6 : RepSl eI64 I p4 c5 a0.Col) (R9 : RepSl eI64 I p7 c8 a0.Val) (hd : ref07_Sure a0 Q) :
  PFun prog 37 [.agg #[.int .i64 a0.Rows, .int .i64 a0.Cols, .slice p1 a0.Start.length c2, .slice p4 a0.Col.length c5, .slice p7 a0.Val.length c8]] I (o7_ Q) := by
 refine Fun.enter func37 r ntmps37 r (.c .n) fun w0 M => ?_
 refine .sr (.boxA r r r fun b23 => ?_)
 refine .allocA zv30 r r fun b25 => ?_
 refine .nilS [2, 1] r r (.seq (.sr (.loadW ia30 sz30 r (.s .z) r r r ?_)))
 have hw28 := W_ref07_Right (I := I) R3 R6 R9 hd
 refine .callP call83 r hw28 r r fun v29 hv30 => ?_
 obtain ⟨r27, rfl, hd⟩ := hv30
 refine .nilS [4, 2, 1] r r (.condP r hd (fun hb31 hd => ?_) fun hb31 hd => ?_)
 · exact .sr (.loadW ia30 sz30 r (.s .z) r r r (.storeA sz30 r r .z (.t (.t (.t (.t (.t .nil))))) r r (.nilS [2] r r (.drop (.s .z) (.ret (pret results37 (.w ia30 sz30 r .z r .n) (.refl _) ⟨a0, _, _, _, _, _, _, r, R3, R6, R9, hd⟩))))))
 refine .skipS [2] r r (.drop (.s .z) (.sr ?_))
 have hw50 := W_ref07_Empty (I := I) hd
 refine .callO call84 r hw50 r r fun v36 I33 l37 hl34 hv35 => ?_
 obtain ⟨r32, p38, c39, p41, c42, p44, c45, rfl, rfl, hd⟩ := hv35
 refine .storeA sz30 r r (.s (.s (.s .z))) (.t (.t (.t (.t (.t .nil))))) r r (.nilS [2] r r (.pub .z fun I51 hl52 R53 => ?_))
 have le54 := IH.le.trans hl34 hl52
 refine .pub .z fun I55 hl56 R57 => ?_
 have le58 := IH.le.trans le54 hl56
 replace R53 := R53.mono hl56
 refine .pub .z fun I59 hl60 R61 => ?_
 have le62 := IH.le.trans le58 hl60
 replace R53 := R53.mono hl60
 replace R57 := R57.mono hl60
 exact .ret (pret results37 (.w ia30 sz30 r .z r .n) le62 ⟨r32, _, _, _, _, _, _, r, R53, R57, R61, hd⟩)

theorem W_ref07_Triples {I : IH} {a0 : Rows} {p1 : Option Addr} {c2 : Nat} {p4 : Option Addr} {c5 : Nat} {p7 : Option Addr} {c8 : Nat} {Q : (List Triple) → Prop} (R3 : RepSl eI64 I p1 c2 a0.Start) (R6 : RepSl eI64 I p4 c5 a0.Col) (R9 : RepSl eI64 I p7 c8 a0.Val) (hd : ref07_Triples a0 Q) :
  PFun prog 39 [.agg #[.int .i64 a0.Rows, .int .i64 a0.Cols, .slice p1 a0.Start.length c2, .slice p4 a0.Col.length c5, .slice p7 a0.Val.length c8]] I (fun I_ v => ∃ r p10 c11, v = .slice p10 r.length c11 ∧ RepSl eTriple I_ p10 c11 r ∧ Q r) := by
 refine Fun.enter func39 r ntmps39 r (.c .n) fun w0 M => ?_
 refine .sr (.boxA r r r fun b15 => ?_)
 refine .ks 1 r (.nilS [1] r r (.sr (.loadW ia30 sz30 r .z r r r ?_)))
 have hw48 := W_ref07_Sure (I := I) R3 R6 R9 hd
 refine .call call37 r hw48 r r fun v37 I34 hl35 hv36 => ?_
 obtain ⟨r33, p39, c40, p42, c43, p45, c46, rfl, R41, R44, R47, hd⟩ := hv36
 replace R3 := R3.mono hl35
 replace R6 := R6.mono hl35
 replace R9 := R9.mono hl35
 refine .storeA sz30 r r .z (.t (.t (.t (.t (.t .nil))))) r r (.nilS [1] r r (.sr (.ks 1 r (.nilS [3, 1] r r (.seq (.sr (.ks 1 r (.nilS [4, 3, 1] r r (.block ?_)))))))))
 refine .own0 eTriple 91 (.loop hd (fun (s : (List Triple) × Int) c w => match s with | (s423, s427) => ∃ I_ p424 c425, IH.le I34 I_ ∧ Ok ⟨45, [], none⟩ [(1, .pointer (some ⟨b15, 0, none⟩)), (3, .slice p424 s423.length c425), (4, .int .i64 s427)] c ∧ Sym w0 M I I_ [pto b15 (.cells #[.int .i64 r33.Rows, .int .i64 r33.Cols, .slice p39 r33.Start.length c40, .slice p42 r33.Col.length c43, .slice p45 r33.Val.length c46] 30 (0, 0)), OwnSl eTriple 91 p424 c425 s423] w) (fun c w ho hs => ⟨I34, _, _, (.refl _), ho.sub ⟨r, r, r, trivial⟩, hs.pick (.c (.s .z) (.c .z .n))⟩) ?_)
 rintro ⟨s423, s427⟩ next429 hd c w hst
 obtain ⟨I430, p424, c425, hl431, hok, hsym⟩ := hst
 have le432 := IH.le.trans hl35 hl431
 replace R41 := R41.mono hl431
 replace R44 := R44.mono hl431
 replace R47 := R47.mono hl431
 refine Cod.at hok hsym (.seq (.sr (.ks 1 r (.fa un30 r sz3 r (o := 0) r r r (.load1 ia3 r .z r r r (.ks 1 r (.nilS [11, 4, 3, 1] r r (.condP r hd (fun hb434 hd => ?_) fun hb434 hd => ?_))))))))
 · refine .skipS [4, 3, 1] r r (.seq (.block (.sr (.fa un30 r sz27 r (o := 2) r r r (.load1 ia27 r .z r r r (.ks 1 r ?_))))))
   obtain ⟨h444, x445, hx446, hd⟩ := hd
   obtain ⟨b447, o448, cs449, e450, hC451, hr452⟩ := R41.2 _ _ hx446
   cases hr452
   refine .ixa un27 sz3 r e450 r h444 (idx_lt hx446 h444) r r (.ld1 (j := 0) ia3 hC451 r r r r r (.ks 1 r (.nilS [5, 4, 3, 1] r r (.block (.loop hd (fun (s : (List Triple) × Int) c w => match s with | (s558, s562) => ∃ I_ p559 c560, IH.le I430 I_ ∧ Ok ⟨45, [], none⟩ [(1, .pointer (some ⟨b15, 0, none⟩)), (3, .slice p559 s558.length c560), (4, .int .i64 s427), (5, .int .i64 s562)] c ∧ Sym w0 M I I_ [pto b15 (.cells #[.int .i64 r33.Rows, .int .i64 r33.Cols, .slice p39 r33.Start.length c40, .slice p42 r33.Col.length c43, .slice p45 r33.Val.length c46] 30 (0, 0)), OwnSl eTriple 91 p559 c560 s558] w) (fun c w ho hs => ⟨I430, _, _, (.refl _), ho.sub ⟨r, r, r, r, trivial⟩, hs.pick (.c .z (.c .z .n))⟩) ?_)))))
   rintro ⟨s558, s562⟩ next563 hd c w hst
   obtain ⟨I564, p559, c560, hl565, hok, hsym⟩ := hst
   have le566 := IH.le.trans le432 hl565
   have le567 := IH.le.trans hl431 hl565
   replace R41 := R41.mono hl565
   replace R44 := R44.mono hl565
   replace R47 := R47.mono hl565
   refine Cod.at hok hsym (.seq (.sr (.ks 1 r (.fa un30 r sz27 r (o := 2) r r r (.load1 ia27 r .z r r r (.ks 2 r ?_))))))
   obtain ⟨h578, x579, hx580, hd⟩ := hd
   obtain ⟨b581, o582, cs583, e584, hC585, hr586⟩ := R41.2 _ _ hx580
   cases hr586
   refine .ixa un27 sz3 r e584 r h578 (idx_lt hx580 h578) r r (.ld1 (j := 0) ia3 hC585 r r r r r (.ks 1 r (.nilS [26, 5, 4, 3, 1] r r (.condP r hd (fun hb587 hd => ?_) fun hb587 hd => ?_))))
   · refine .skipS [5, 4, 3, 1] r r (.seq (.block (.ownF (.s .z) fun hne588 => ?_)))
     refine .dr [0, 1, 2, 3, 4, 5, 6, 7, 8, 9, 10, 11, 12, 13, 14] 15 (.fk 2 r (.g r r r (fun _ => .fa un30 r sz27 r (o := 3) r r r .mk) (.g r r r (fun _ => .load1 ia27 r .z r r r .mk) (.fk 1 r ?_))))
     obtain ⟨h589, x590, hx591, hd⟩ := hd
     obtain ⟨b592, o593, cs594, e595, hC596, hr597⟩ := R44.2 _ _ hx591
     cases hr597
     refine .g r r r (fun _ => .ixa un27 sz3 r e595 r h589 (idx_lt hx591 h589) r r .mk) (.g r r r (fun _ => .ld1 (j := 0) ia3 hC596 r r r r r .mk) (.g r r r (fun _ => .fa un30 r sz28 r (o := 4) r r r .mk) (.g r r r (fun _ => .load1 ia28 r .z r r r .mk) (.fk 1 r ?_))))
     obtain ⟨h598, x599, hx600, hd⟩ := hd
     obtain ⟨b601, o602, cs603, e604, hC605, hr606⟩ := R47.2 _ _ hx600
     cases hr606
     refine .g r r r (fun _ => .ixa un28 sz2 r e604 r h598 (idx_lt hx600 h598) r r .mk) (.g r r r (fun _ => .ld1 (j := 0) ia2 hC605 r r r r r .mk) (.g r r r (fun _ => .build zv91 un91 BI91 (.c r r r (.t .nil) (.c r r r (.s (.t .nil)) (.c r r r (.s (.s (.t .nil))) .n))) (by exact ⟨⟨_, _, r, r, r⟩, ⟨⟨_, _, r, r, r⟩, ⟨⟨_, _, r, r, r⟩, trivial⟩⟩⟩) r r .mk) (.ww r fun ex => ?_)))
     refine .buildSlice 1 un24 sz91 zv91 r r (.c r r r .n) r r fun b607 => ?_
     refine .so 3 r r r (.ck 1 r r trivial) (.ww r fun ex => ?_)
     obtain ⟨hl609, hd⟩ := hd
     refine .append (ys := [({ Row := s427, Col := x590, Val := x599 } : Triple)]) 24 (.s (.s .z)) un24 un24 IN91 r r r r r r r r r (.box .z (.one r) r) hl609 r r fun p610 c611 => ?_
     exact .so 3 r r r trivial (.e2 15 (.ks 1 r (.nilS [3, 5, 4, 1] r r (.drop (.s .z) (.region (.ks 3 r (.nil' fun c w ho hs => ⟨((s558 ++ ([({ Row := s427, Col := x590, Val := x599 } : Triple)])), w64 (s562 + 1)), hd, I564, _, _, hl565, ho.sub ⟨r, r, r, r, trivial⟩, hs.pick (.c (.s .z) (.c .z .n))⟩)))))))
   exact .exitS [4, 3, 1] r r (.region (.ks 3 r (.nil' fun c w ho hs => ⟨(s558, w64 (s427 + 1)), hd, I564, _, _, le567, ho.sub ⟨r, r, r, trivial⟩, hs.pick (.c .z (.c .z .n))⟩)))
 refine .exitS [3] r r (.drop .z (.sr (.ks 2 r (.nilS [2] r r (.pub .z fun I613 hl614 R615 => ?_)))))
 have le616 := IH.le.trans le432 hl614
 have le617 := IH.le.trans hl431 hl614
 exact .ret (pret results39 (.t r .n) le616 ⟨s423, _, _, r, R615, hd⟩)

theorem W_ref07_Row {I : IH} {a0 : Rows} {a1 : Int} {p1 : Option Addr} {c2 : Nat} {p4 : Option Addr} {c5 : Nat} {p7 : Option Addr} {c8 : Nat} {Q : (List Item) → Prop} (R3 : RepSl eI64 I p1 c2 a0.Start) (R6 : RepSl eI64 I p4 c5 a0.Col) (R9 : RepSl eI64 I p7 c8 a0.Val) (hd : ref07_Row a0 a1 Q) :
  PFun prog 26 [.agg #[.int .i64 a0.Rows, .int .i64 a0.Cols, .slice p1 a0.Start.length c2, .slice p4 a0.Col.length c5, .slice p7 a0.Val.length c8], .int .i64 a1] I (o10_ Q) := by
 refine Fun.enter func26 r ntmps26 r (.c (.c .n)) fun w0 M => ?_
 refine .sr (.boxA r r r fun b15 => ?_)
 refine .ks 1 r (.nilS [2, 1] r r (.sr (.loadW ia30 sz30 r .z r r r ?_)))
 have hw48 := W_ref07_Sure (I := I) R3 R6 R9 hd
 refine .call call37 r hw48 r r fun v37 I34 hl35 hv36 => ?_
 obtain ⟨r33, p39, c40, p42, c43, p45, c46, rfl, R41, R44, R47, hd⟩ := hv36
 replace R3 := R3.mono hl35
 replace R6 := R6.mono hl35
 replace R9 := R9.mono hl35
 refine .storeA sz30 r r .z (.t (.t (.t (.t (.t .nil))))) r r (.nilS [2, 1] r r (.sr (.ks 1 r (.nilS [5, 2, 1] r r (.seq (.sr (.ks 3 r ?_)))))))
 refine splitP hd (fun hb51 hd => ?_) fun hb51 hd => ?_
 · rw [hb51]
   exact .ks 5 r (.nilS [16, 5, 2, 1] r r (.condKT r r (.sr (.ks 2 r (.nilS [4] r r (.drop .z (.ret (pret results26 (.t r .n) hl35 ⟨([] : List Item), _, _, r, (.nil _ _ _), hd⟩))))))))
 rw [hb51]
 refine .ks 1 r (.gyes r r r (.fa un30 r sz3 r (o := 0) r r r (.gyes r r r (.load1 ia3 r .z r r r (.ks 2 r (.nilS [16, 5, 2, 1] r r (.condP r hd (fun hb52 hd => ?_) fun hb52 hd => ?_)))))))
 · exact .sr (.ks 2 r (.nilS [4] r r (.drop .z (.ret (pret results26 (.t r .n) hl35 ⟨([] : List Item), _, _, r, (.nil _ _ _), hd⟩)))))
 refine .skipS [5, 2, 1] r r (.seq (.sr (.fa un30 r sz27 r (o := 2) r r r (.load1 ia27 r .z r r r (.ks 1 r ?_)))))
 obtain ⟨h62, x63, hx64, hd⟩ := hd
 obtain ⟨b65, o66, cs67, e68, hC69, hr70⟩ := R41.2 _ _ hx64
 cases hr70
 refine .ixa un27 sz3 r e68 r h62 (idx_lt hx64 h62) r r (.ld1 (j := 0) ia3 hC69 r r r r r (.ks 1 r (.nilS [6, 5, 2, 1] r r (.block (.own0 eItem 115 (.loop hd (fun (s : (List Item) × Int) c w => match s with | (s176, s180) => ∃ I_ p177 c178, IH.le I34 I_ ∧ Ok ⟨48, [], none⟩ [(1, .int .i64 a1), (2, .pointer (some ⟨b15, 0, none⟩)), (5, .slice p177 s176.length c178), (6, .int .i64 s180)] c ∧ Sym w0 M I I_ [pto b15 (.cells #[.int .i64 r33.Rows, .int .i64 r33.Cols, .slice p39 r33.Start.length c40, .slice p42 r33.Col.length c43, .slice p45 r33.Val.length c46] 30 (0, 0)), OwnSl eItem 115 p177 c178 s176] w) (fun c w ho hs => ⟨I34, _, _, (.refl _), ho.sub ⟨r, r, r, r, trivial⟩, hs.pick (.c (.s .z) (.c .z .n))⟩) ?_))))))
 rintro ⟨s176, s180⟩ next182 hd c w hst
 obtain ⟨I183, p177, c178, hl184, hok, hsym⟩ := hst
 have le185 := IH.le.trans hl35 hl184
 replace R41 := R41.mono hl184
 replace R44 := R44.mono hl184
 replace R47 := R47.mono hl184
 refine Cod.at hok hsym (.seq (.sr (.ks 1 r (.fa un30 r sz27 r (o := 2) r r r (.load1 ia27 r .z r r r (.ks 2 r ?_))))))
 obtain ⟨h196, x197, hx198, hd⟩ := hd
 obtain ⟨b199, o200, cs201, e202, hC203, hr204⟩ := R41.2 _ _ hx198
 cases hr204
 refine .ixa un27 sz3 r e202 r h196 (idx_lt hx198 h196) r r (.ld1 (j := 0) ia3 hC203 r r r r r (.ks 1 r (.nilS [30, 6, 5, 2, 1] r r (.condP r hd (fun hb205 hd => ?_) fun hb205 hd => ?_))))
 · refine .skipS [6, 5, 2, 1] r r (.seq (.block (.ownF (.s .z) fun hne206 => ?_)))
   refine .dr [0, 1, 2, 3, 4, 5, 6, 7, 8, 9, 10, 11, 12, 13] 14 (.fk 1 r (.g r r r (fun _ => .fa un30 r sz27 r (o := 3) r r r .mk) (.g r r r (fun _ => .load1 ia27 r .z r r r .mk) (.fk 1 r ?_))))
   obtain ⟨h207, x208, hx209, hd⟩ := hd
   obtain ⟨b210, o211, cs212, e213, hC214, hr215⟩ := R44.2 _ _ hx209
   cases hr215
   refine .g r r r (fun _ => .ixa un27 sz3 r e213 r h207 (idx_lt hx209 h207) r r .mk) (.g r r r (fun _ => .ld1 (j := 0) ia3 hC214 r r r r r .mk) (.g r r r (fun _ => .fa un30 r sz28 r (o := 4) r r r .mk) (.g r r r (fun _ => .load1 ia28 r .z r r r .mk) (.fk 1 r ?_))))
   obtain ⟨h216, x217, hx218, hd⟩ := hd
   obtain ⟨b219, o220, cs221, e222, hC223, hr224⟩ := R47.2 _ _ hx218
   cases hr224
   refine .g r r r (fun _ => .ixa un28 sz2 r e222 r h216 (idx_lt hx218 h216) r r .mk) (.g r r r (fun _ => .ld1 (j := 0) ia2 hC223 r r r r r .mk) (.g r r r (fun _ => .build zeroValue115 un115 BI115 (.c r r r (.t .nil) (.c r r r (.s (.t .nil)) .n)) (by exact ⟨⟨_, _, r, r, r⟩, ⟨⟨_, _, r, r, r⟩, trivial⟩⟩) r r .mk) (.ww r fun ex => ?_)))
   refine .buildSlice 1 un61 sz115 zeroValue115 r r (.c r r r .n) r r fun b225 => ?_
   refine .so 3 r r r (.ck 1 r r trivial) (.ww r fun ex => ?_)
   obtain ⟨hl227, hd⟩ := hd
   refine .append (ys := [({ At := x208, Val := x217 } : Item)]) 16 (.s (.s .z)) un61 un61 IN115 r r r r r r r r r (.box .z (.one r) r) hl227 r r fun p228 c229 => ?_
   exact .so 3 r r r trivial (.e2 14 (.ks 1 r (.nilS [5, 6, 2, 1] r r (.drop (.s .z) (.region (.ks 3 r (.nil' fun c w ho hs => ⟨((s176 ++ ([({ At := x208, Val := x217 } : Item)])), w64 (s180 + 1)), hd, I183, _, _, hl184, ho.sub ⟨r, r, r, r, trivial⟩, hs.pick (.c (.s .z) (.c .z .n))⟩)))))))
 refine .exitS [5] r r (.drop .z (.sr (.ks 2 r (.nilS [4] r r (.pub .z fun I231 hl232 R233 => ?_)))))
 have le234 := IH.le.trans le185 hl232
 have le235 := IH.le.trans hl184 hl232
 exact .ret (pret results26 (.t r .n) le234 ⟨s176, _, _, r, R233, hd⟩)

theorem W_ref07_Get {I : IH} {a0 : Rows} {a1 : Int} {a2 : Int} {p1 : Option Addr} {c2 : Nat} {p4 : Option Addr} {c5 : Nat} {p7 : Option Addr} {c8 : Nat} {Q : (Int × Bool) → Prop} (R3 : RepSl eI64 I p1 c2 a0.Start) (R6 : RepSl eI64 I p4 c5 a0.Col) (R9 : RepSl eI64 I p7 c8 a0.Val) (hd : ref07_Get a0 a1 a2 Q) :
  PFun prog 40 [.agg #[.int .i64 a0.Rows, .int .i64 a0.Cols, .slice p1 a0.Start.length c2, .slice p4 a0.Col.length c5, .slice p7 a0.Val.length c8], .int .i64 a1, .int .i64 a2] I (fun _ => o5_ Q) := by
 refine Fun.enter func40 r ntmps40 r (.c (.c (.c .n))) fun w0 M => ?_
 refine .sr (.boxA r r r fun b12 => ?_)
 refine .ks 2 r (.nilS [3, 2, 1] r r (.sr (.loadW ia30 sz30 r .z r r r (.ks 1 r ?_))))
 have hw33 := W_ref07_Row (I := I) R3 R6 R9 hd
 refine .call call26 r hw33 r r fun v28 I25 hl26 hv27 => ?_
 obtain ⟨r24, p30, c31, rfl, R32, hd⟩ := hv27
 replace R3 := R3.mono hl26
 replace R6 := R6.mono hl26
 replace R9 := R9.mono hl26
 refine .ks 1 r (.nilS [8, 2] r r (.drop .z (.seq (.sr (.ks 1 r (.nilS [9, 8, 2] r r (.block (.loop hd (fun (s97 : Int) c w => ∃ I_, IH.le I25 I_ ∧ Ok ⟨31, [], none⟩ [(2, .int .i64 a2), (8, .slice p30 r24.length c31), (9, .int .i64 s97)] c ∧ Sym w0 M I I_ [] w) (fun c w ho hs => ⟨I25, (.refl _), ho.sub ⟨r, r, r, trivial⟩, hs.pick .n⟩) ?_))))))))
 rintro s97 next98 hd c w hst
 obtain ⟨I99, hl100, hok, hsym⟩ := hst
 have le101 := IH.le.trans hl26 hl100
 replace R32 := R32.mono hl100
 refine Cod.at hok hsym (.seq (.sr (.ks 2 r (.len un61 r r r r (.ks 1 r (.nilS [16, 9, 8, 2] r r (.condP r hd (fun hb103 hd => ?_) fun hb103 hd => ?_)))))))
 · refine .skipS [9, 8, 2] r r (.seq (.block (.sr (.ks 2 r ?_))))
   obtain ⟨h113, x114, hx115, hd⟩ := hd
   obtain ⟨b116, o117, cs118, e119, hC120, hr121⟩ := R32.2 _ _ hx115
   cases hr121
   refine .ixa un61 sz115 r e119 r h113 (idx_lt hx115 h113) r r (.fa un115 r sz3 r (o := o117 + s97.toNat * 2) r r r (.ld1 (j := 0) ia3 hC120 r r r r r (.ks 2 r (.nilS [25, 9, 8, 2] r r (.condP r hd (fun hb122 hd => ?_) fun hb122 hd => ?_)))))
   · refine .sr (.ks 2 r ?_)
     obtain ⟨h123, x124, hx125, hd⟩ := hd
     obtain ⟨b126, o127, cs128, e129, hC130, hr131⟩ := R32.2 _ _ hx125
     cases hr131
     exact .ixa un61 sz115 r e129 r h123 (idx_lt hx125 h123) r r (.fa un115 r sz2 r (o := o127 + s97.toNat * 2 + 1) r r r (.ld1 (j := 1) ia2 hC130 r r r r r (.ks 2 r (.nilS [7, 6] r r (.ret (pret results40 (.t r (.t r .n)) le101 ⟨(x124.Val, true), r, hd⟩))))))
   exact .skipS [9, 8, 2] r r (.region (.ks 3 r (.nil' fun c w ho hs => ⟨(w64 (s97 + 1)), hd, I99, hl100, ho.sub ⟨r, r, r, trivial⟩, hs.pick .n⟩)))
 exact .exitS [] r r (.sr (.ks 2 r (.nilS [7, 6] r r (.ret (pret results40 (.t r (.t r .n)) le101 ⟨(0, false), r, hd⟩)))))

theorem W_ref01_Minus {I : IH} {a0 : Wide} {Q : Wide → Prop}  (hd : ref01_Minus a0 Q) :
  PFun prog 123 [.agg (encWide a0).toArray] I (fun _ => o4_ Q) := by
 refine Fun.enter func123 r ntmps123 r (.c .n) fun w0 M => ?_
 refine .sr (.boxA r r r fun b5 => ?_)
 refine .allocA zv57 r r fun b7 => ?_
 refine .nilS [2, 1] r r (.sr (.fa un57 r sz2 r (o := 0) r r r (.load1 ia2 r (.s .z) r r r (.invS r r r r (.fa un57 r sz55 r (o := 1) r r r (.load1 ia55 r (.s .z) r r r (.invU (M := 18446744073709551615) r (by decide) r r r (.build zv57 un57 BI57 (.c r r r (.t .nil) (.c r r r (.s (.t .nil)) .n)) (by exact ⟨⟨_, _, r, r, r⟩, ⟨⟨_, _, r, r, r⟩, trivial⟩⟩) r r (.build zv57 un57 BI57 (.c r r r (.s (.t .nil)) .n) (by exact ⟨⟨_, _, r, r, r⟩, trivial⟩) r r ?_)))))))))
 have hw10 := W_ref01_Add (I := I) hd
 refine .callP call85 r hw10 r r fun v11 hv12 => ?_
 obtain ⟨r9, rfl, hd⟩ := hv12
 exact .storeA sz57 r r .z (.t (.t .nil)) r r (.nilS [2] r r (.drop (.s .z) (.ret (pret results123 (.w ia57 sz57 r .z r .n) (.refl _) ⟨r9, r, hd⟩))))

theorem W_ref01_Mul {I : IH} {a0 : Int} {a1 : Int} {Q : Wide → Prop}  (hd : ref01_Mul a0 a1 Q) :
  PFun prog 88 [.int .i64 a0, .int .i64 a1] I (fun _ => o4_ Q) := by
 refine Fun.enter func88 r ntmps88 r (.c (.c .n)) fun w0 M => ?_
 refine .sr (.allocA zv57 r r fun b3 => ?_)
 refine .nilS [4, 1, 0] r r (.sr (.ks 1 r ?_))
 have hw12 := W_ref01_Of (I := I) hd
 refine .callP call48 r hw12 r r fun v13 hv14 => ?_
 obtain ⟨r11, rfl, hd⟩ := hv14
 refine .allocA zv57 r r fun b15 => ?_
 refine .storeA sz57 r r .z (.t (.t .nil)) r r (.nilS [5, 4, 1] r r (.sr (.ks 3 r (.nilS [6, 5, 4, 1] r r (.sr (.ks 1 r (.conv un2 un55 r r r (.ks 1 r (.nilS [7, 6, 5, 4] r r ?_)))))))))
 refine .seq ?_
 refine Cod.joinQ (σ := Int) hd (fun (s19 : Int) c w => ∃ I_, IH.le I I_ ∧ Ok ⟨35, [], none⟩ [(4, .pointer (some ⟨b3, 0, none⟩)), (5, .pointer (some ⟨b15, 0, none⟩)), (6, .bool (decide (a1 < 0))), (7, .int .u64 s19)] c ∧ Sym w0 M I I_ [pto b3 (.cells #[.int .i64 0, .int .u64 0] 57 (0, 0)), pto b15 (.cells #[.int .i64 r11.Hi, .int .u64 r11.Lo] 57 (0, 0))] w) (fun k20 hd => ?_) ?_
 · skip
   refine .sr (.ks 1 r (.nilS [15, 7, 6, 5, 4] r r (.condP r hd (fun hb21 hd => ?_) fun hb21 hd => ?_)))
   · exact .region (.ks 1 r (.neg r r r (.ks 1 r (.nil' fun c w ho hs => ⟨(IntKind.wrap .u64 (0 - (IntKind.wrap .u64 (a1)))), hd, I, (.refl _), ho.sub ⟨r, r, r, r, trivial⟩, hs.pick (.c (.s .z) (.c .z .n))⟩))))
   exact .skip' fun c w ho hs => ⟨(IntKind.wrap .u64 (a1)), hd, I, (.refl _), ho.sub ⟨r, r, r, r, trivial⟩, hs.pick (.c (.s .z) (.c .z .n))⟩
 rintro s19 hd c w hst
 obtain ⟨I22, hl23, hok, hsym⟩ := hst
 refine Cod.at hok hsym (.sr (.allocA zv57 r r fun b26 => ?_))
 refine .nilS [8, 7, 6, 5, 4] r r (.seq (.block (.loop hd (fun (s : Int × Int × Int × Int × Int) c w => match s with | (s142, s143, s144, s145, s146) => ∃ I_, IH.le I22 I_ ∧ Ok ⟨35, [], none⟩ [(4, .pointer (some ⟨b3, 0, none⟩)), (5, .pointer (some ⟨b15, 0, none⟩)), (6, .bool (decide (a1 < 0))), (7, .int .u64 s144), (8, .pointer (some ⟨b26, 0, none⟩))] c ∧ Sym w0 M I I_ [pto b3 (.cells #[.int .i64 0, .int .u64 0] 57 (0, 0)), pto b15 (.cells #[.int .i64 s142, .int .u64 s143] 57 (0, 0)), pto b26 (.cells #[.int .i64 s145, .int .u64 s146] 57 (0, 0))] w) (fun c w ho hs => ⟨I22, (.refl _), ho.sub ⟨r, r, r, r, r, trivial⟩, hs.pick (.c (.s .z) (.c (.s .z) (.c .z .n)))⟩) ?_)))
 rintro ⟨s142, s143, s144, s145, s146⟩ next147 hd c w hst
 obtain ⟨I148, hl149, hok, hsym⟩ := hst
 have le150 := IH.le.trans hl23 hl149
 refine Cod.at hok hsym (.seq (.sr (.ks 2 r (.nilS [19, 8, 7, 6, 5, 4] r r (.condP r hd (fun hb152 hd => ?_) fun hb152 hd => ?_)))))
 · refine .skipS [8, 7, 6, 5, 4] r r (.block (.seq (.sr (.ks 1 r (.rem r r (by decide) r r (.ks 1 r (.nilS [22, 8, 7, 6, 5, 4] r r (.condP r hd (fun hb153 hd => ?_) fun hb153 hd => ?_))))))))
   · refine .region (.loadW ia57 sz57 r (.s (.s .z)) r r r (.loadW ia57 sz57 r (.s .z) r r r ?_))
     have hw155 := W_ref01_Add (I := I148) hd
     refine .callP call85 r hw155 r r fun v156 hv157 => ?_
     obtain ⟨r154, rfl, hd⟩ := hv157
     refine .storeA sz57 r r (.s (.s .z)) (.t (.t .nil)) r r (.nilS [8, 7, 6, 5, 4] r r (.sr (.loadW ia57 sz57 r (.s .z) r r r (.loadW ia57 sz57 r (.s .z) r r r ?_))))
     have hw159 := W_ref01_Add (I := I148) hd
     refine .callP call85 r hw159 r r fun v160 hv161 => ?_
     obtain ⟨r158, rfl, hd⟩ := hv161
     exact .storeA sz57 r r (.s .z) (.t (.t .nil)) r r (.nilS [8, 7, 6, 5, 4] r r (.region (.ks 1 r (.quo r r (by decide) r r (.ks 1 r (.nil' fun c w ho hs => ⟨(r158.Hi, r158.Lo, IntKind.wrap .u64 (s144.tdiv 2), r154.Hi, r154.Lo), hd, I148, hl149, ho.sub ⟨r, r, r, r, r, trivial⟩, hs.pick (.c .z (.c .z (.c .z .n)))⟩))))))
   refine .skipS [8, 7, 6, 5, 4] r r (.sr (.loadW ia57 sz57 r (.s .z) r r r (.loadW ia57 sz57 r (.s .z) r r r ?_)))
   have hw163 := W_ref01_Add (I := I148) hd
   refine .callP call85 r hw163 r r fun v164 hv165 => ?_
   obtain ⟨r162, rfl, hd⟩ := hv165
   exact .storeA sz57 r r (.s .z) (.t (.t .nil)) r r (.nilS [8, 7, 6, 5, 4] r r (.region (.ks 1 r (.quo r r (by decide) r r (.ks 1 r (.nil' fun c w ho hs => ⟨(r162.Hi, r162.Lo, IntKind.wrap .u64 (s144.tdiv 2), s145, s146), hd, I148, hl149, ho.sub ⟨r, r, r, r, r, trivial⟩, hs.pick (.c .z (.c .z (.c .z .n)))⟩))))))
 refine .exitS [8, 6, 4] r r (.drop (.s .z) (.seq (.sr (.ks 1 r (.nilS [31, 8, 4] r r (.condP r hd (fun hb166 hd => ?_) fun hb166 hd => ?_))))))
 · refine .sr (.loadW ia57 sz57 r (.s .z) r r r ?_)
   have hw168 := W_ref01_Minus (I := I148) hd
   refine .callP call123 r hw168 r r fun v169 hv170 => ?_
   obtain ⟨r167, rfl, hd⟩ := hv170
   exact .storeA sz57 r r .z (.t (.t .nil)) r r (.nilS [4] r r (.drop (.s .z) (.ret (pret results88 (.w ia57 sz57 r .z r .n) le150 ⟨r167, r, hd⟩))))
 exact .skipS [8, 4] r r (.sr (.loadW ia57 sz57 r (.s .z) r r r (.storeA sz57 r r .z (.t (.t .nil)) r r (.nilS [4] r r (.drop (.s .z) (.ret (pret results88 (.w ia57 sz57 r .z r .n) le150 ⟨({ Hi := s145, Lo := s146 } : Wide), r, hd⟩)))))))

theorem W_ref02_Mul {I : IH} {a0 : Int} {a1 : Int} {a2 : Int} {Q : Wide → Prop}  (hd : ref02_Mul a0 a1 a2 Q) :
  PFun prog 41 [.int .i64 a0, .int .i64 a1, .int .i64 a2] I (fun _ => o4_ Q) := by
 refine Fun.enter func41 r ntmps41 r (.c (.c (.c .n))) fun w0 M => ?_
 refine .sr (.allocA zv57 r r fun b3 => ?_)
 refine .nilS [6, 2, 1, 0] r r (.seq ?_)
 refine Cod.joinQ (σ := Bool) hd (fun (s7 : Bool) c w => ∃ I_, IH.le I I_ ∧ Ok ⟨59, [], none⟩ [(0, .int .i64 a0), (1, .int .i64 a1), (2, .int .i64 a2), (6, .pointer (some ⟨b3, 0, none⟩)), (7, .bool s7)] c ∧ Sym w0 M I I_ [pto b3 (.cells #[.int .i64 0, .int .u64 0] 57 (0, 0))] w) (fun k8 hd => ?_) ?_
 · skip
   refine .region (.ks 3 r ?_)
   refine splitP hd (fun hb9 hd => ?_) fun hb9 hd => ?_
   · rw [hb9]
     exact .ks 4 r (.nil' fun c w ho hs => ⟨true, hd, I, (.refl _), ho.sub ⟨r, r, r, r, r, trivial⟩, hs.pick (.c .z .n)⟩)
   rw [hb9]
   exact .ks 4 r (.nil' fun c w ho hs => ⟨(decide (4611686018427387904 ≤ a2)), hd, I, (.refl _), ho.sub ⟨r, r, r, r, r, trivial⟩, hs.pick (.c .z .n)⟩)
 rintro s7 hd c w hst
 obtain ⟨I10, hl11, hok, hsym⟩ := hst
 refine Cod.at hok hsym (.sr (.ks 1 r (.nilS [15, 7, 6, 2, 1] r r (.block (.sr (.ks 2 r (.nilS [17, 15, 7, 6, 2, 1] r r (.condP r hd (fun hb12 hd => ?_) fun hb12 hd => ?_))))))))
 · refine .sr (.ks 1 r ?_)
   have hw28 := W_ref01_Of (I := I10) hd
   refine .callP call48 r hw28 r r fun v29 hv30 => ?_
   obtain ⟨r27, rfl, hd⟩ := hv30
   refine .ks 1 r ?_
   have hw32 := W_ref01_Of (I := I10) hd
   refine .callP call48 r hw32 r r fun v33 hv34 => ?_
   obtain ⟨r31, rfl, hd⟩ := hv34
   have hw36 := W_ref01_Add (I := I10) hd
   refine .callP call85 r hw36 r r fun v37 hv38 => ?_
   obtain ⟨r35, rfl, hd⟩ := hv38
   refine .allocA zv57 r r fun b39 => ?_
   refine .storeA sz57 r r .z (.t (.t .nil)) r r (.nilS [8, 7, 6] r r (.seq (.seq (.dr [0, 1, 2, 3, 4, 5, 6] 7 (.fk 2 r ?_)))))
   refine splitP hd (fun hb41 hd => ?_) fun hb41 hd => ?_
   · refine .g r r r (fun _ => .gno r r hb41 r r .mk) (.g r r r (fun _ => .gno r r hb41 r r .mk) (.g r r r (fun _ => .gno r r hb41 r r .mk) (.g r r r (fun _ => .gno r r hb41 r r .mk) (.g r r r (fun _ => .pickT r hb41 r r r .mk) (.e2 7 (.nilS [30, 8, 6] r r (.condKT r r (.sr ?_))))))))
     have hw43 := W_ref01_Of (I := I10) hd
     refine .callP call48 r hw43 r r fun v44 hv45 => ?_
     obtain ⟨r42, rfl, hd⟩ := hv45
     exact .storeA sz57 r r (.s .z) (.t (.t .nil)) r r (.nilS [6] r r (.drop .z (.ret (pret results41 (.w ia57 sz57 r .z r .n) hl11 ⟨r42, r, hd⟩))))
   refine .g r r r (fun _ => .gyes r r hb41 (.loadW ia57 sz57 r .z r r r .mk)) (.ww r fun ex => ?_)
   have hw47 := W_ref01_Of (I := I10) hd
   refine .gyes r r hb41 (.callP call48 r hw47 r r fun v48 hv49 => ?_)
   obtain ⟨r46, rfl, hd⟩ := hv49
   refine .so 2 r r r (.cg r r r r (fun _ => .gyes r r hb41 (.loadW ia57 sz57 r .z r r r .mk)) trivial) (.ww r fun ex => ?_)
   have hw51 := W_ref01_Compare (I := I10) hd
   refine .gyes r r hb41 (.callP call86 r hw51 r r fun v52 hv53 => ?_)
   obtain ⟨r50, rfl, hd⟩ := hv53
   refine .so 2 r r r trivial (.g r r r (fun _ => .gyes r r hb41 (.gt r r r r .mk)) (.g r r r (fun _ => .pickF r hb41 r r r .mk) (.e2 7 (.nilS [30, 8, 6] r r (.condP r hd (fun hb54 hd => ?_) fun hb54 hd => ?_)))))
   · refine .sr ?_
     have hw56 := W_ref01_Of (I := I10) hd
     refine .callP call48 r hw56 r r fun v57 hv58 => ?_
     obtain ⟨r55, rfl, hd⟩ := hv58
     exact .storeA sz57 r r (.s .z) (.t (.t .nil)) r r (.nilS [6] r r (.drop .z (.ret (pret results41 (.w ia57 sz57 r .z r .n) hl11 ⟨r55, r, hd⟩))))
   exact .skipS [8, 6] r r (.sr (.loadW ia57 sz57 r .z r r r (.storeA sz57 r r (.s .z) (.t (.t .nil)) r r (.nilS [6] r r (.drop .z (.ret (pret results41 (.w ia57 sz57 r .z r .n) hl11 ⟨r35, r, hd⟩)))))))
 refine .sr (.ks 2 r (.nilS [33, 15, 7, 6, 2, 1] r r (.condP r hd (fun hb59 hd => ?_) fun hb59 hd => ?_)))
 · refine .seq (.sr (.ks 1 r (.nilS [35, 6, 1] r r (.condP r hd (fun hb60 hd => ?_) fun hb60 hd => ?_))))
   · refine .sr ?_
     have hw62 := W_ref01_Of (I := I10) hd
     refine .callP call48 r hw62 r r fun v63 hv64 => ?_
     obtain ⟨r61, rfl, hd⟩ := hv64
     exact .storeA sz57 r r .z (.t (.t .nil)) r r (.nilS [6] r r (.ret (pret results41 (.w ia57 sz57 r .z r .n) hl11 ⟨r61, r, hd⟩)))
   refine .skipS [6, 1] r r (.sr (.ks 1 r ?_))
   have hw66 := W_ref01_Of (I := I10) hd
   refine .callP call48 r hw66 r r fun v67 hv68 => ?_
   obtain ⟨r65, rfl, hd⟩ := hv68
   exact .storeA sz57 r r .z (.t (.t .nil)) r r (.nilS [6] r r (.ret (pret results41 (.w ia57 sz57 r .z r .n) hl11 ⟨r65, r, hd⟩)))
 refine .sr (.ks 2 r (.nilS [39, 15, 7, 6, 2, 1] r r (.condP r hd (fun hb69 hd => ?_) fun hb69 hd => ?_)))
 · refine .seq (.sr (.ks 1 r (.nilS [41, 6, 2] r r (.condP r hd (fun hb70 hd => ?_) fun hb70 hd => ?_))))
   · refine .sr ?_
     have hw72 := W_ref01_Of (I := I10) hd
     refine .callP call48 r hw72 r r fun v73 hv74 => ?_
     obtain ⟨r71, rfl, hd⟩ := hv74
     exact .storeA sz57 r r .z (.t (.t .nil)) r r (.nilS [6] r r (.ret (pret results41 (.w ia57 sz57 r .z r .n) hl11 ⟨r71, r, hd⟩)))
   refine .skipS [6, 2] r r (.sr (.ks 1 r ?_))
   have hw76 := W_ref01_Of (I := I10) hd
   refine .callP call48 r hw76 r r fun v77 hv78 => ?_
   obtain ⟨r75, rfl, hd⟩ := hv78
   exact .storeA sz57 r r .z (.t (.t .nil)) r r (.nilS [6] r r (.ret (pret results41 (.w ia57 sz57 r .z r .n) hl11 ⟨r75, r, hd⟩)))
 refine .sr (.ks 2 r (.nilS [45, 15, 6, 2, 1] r r (.condP r hd (fun hb79 hd => ?_) fun hb79 hd => ?_)))
 · refine .sr (.ks 3 r ?_)
   refine splitP hd (fun hb80 hd => ?_) fun hb80 hd => ?_
   · rw [hb80]
     refine .ks 3 r ?_
     have hw82 := W_ref02_truth (I := I10) hd
     refine .callP call87 r hw82 r r fun v83 hv84 => ?_
     obtain ⟨r81, rfl, hd⟩ := hv84
     exact .storeA sz57 r r .z (.t (.t .nil)) r r (.nilS [6] r r (.ret (pret results41 (.w ia57 sz57 r .z r .n) hl11 ⟨r81, r, hd⟩)))
   rw [hb80]
   refine .ks 3 r ?_
   have hw86 := W_ref02_truth (I := I10) hd
   refine .callP call87 r hw86 r r fun v87 hv88 => ?_
   obtain ⟨r85, rfl, hd⟩ := hv88
   exact .storeA sz57 r r .z (.t (.t .nil)) r r (.nilS [6] r r (.ret (pret results41 (.w ia57 sz57 r .z r .n) hl11 ⟨r85, r, hd⟩)))
 refine .sr (.ks 2 r (.nilS [54, 6, 2, 1] r r (.condP r hd (fun hb89 hd => ?_) fun hb89 hd => ?_)))
 · refine .sr (.ks 2 r ?_)
   have hw91 := W_ref01_Mul (I := I10) hd
   refine .callP call88 r hw91 r r fun v92 hv93 => ?_
   obtain ⟨r90, rfl, hd⟩ := hv93
   exact .storeA sz57 r r .z (.t (.t .nil)) r r (.nilS [6] r r (.ret (pret results41 (.w ia57 sz57 r .z r .n) hl11 ⟨r90, r, hd⟩)))
 exact .sr (.build zv57 un57 BI57 .n (by exact trivial) r r (.storeA sz57 r r .z (.t (.t .nil)) r r (.nilS [6] r r (.ret (pret results41 (.w ia57 sz57 r .z r .n) hl11 ⟨({ Hi := 0, Lo := 0 } : Wide), r, hd⟩)))))

theorem W_ref15_Cells {I : IH} {a0 : Int} {a1 : Rows} {a2 : Rows} {a3 : Rows} {p1 : Option Addr} {c2 : Nat} {p4 : Option Addr} {c5 : Nat} {p7 : Option Addr} {c8 : Nat} {p10 : Option Addr} {c11 : Nat} {p13 : Option Addr} {c14 : Nat} {p16 : Option Addr} {c17 : Nat} {p19 : Option Addr} {c20 : Nat} {p22 : Option Addr} {c23 : Nat} {p25 : Option Addr} {c26 : Nat} {Q : ((List Cell) × Int) → Prop} (R3 : RepSl eI64 I p1 c2 a1.Start) (R6 : RepSl eI64 I p4 c5 a1.Col) (R9 : RepSl eI64 I p7 c8 a1.Val) (R12 : RepSl eI64 I p10 c11 a2.Start) (R15 : RepSl eI64 I p13 c14 a2.Col) (R18 : RepSl eI64 I p16 c17 a2.Val) (R21 : RepSl eI64 I p19 c20 a3.Start) (R24 : RepSl eI64 I p22 c23 a3.Col) (R27 : RepSl eI64 I p25 c26 a3.Val) (hd : ref15_Cells a0 a1 a2 a3 Q) :
  PFun prog 10 [.int .i64 a0, .agg #[.int .i64 a1.Rows, .int .i64 a1.Cols, .slice p1 a1.Start.length c2, .slice p4 a1.Col.length c5, .slice p7 a1.Val.length c8], .agg #[.int .i64 a2.Rows, .int .i64 a2.Cols, .slice p10 a2.Start.length c11, .slice p13 a2.Col.length c14, .slice p16 a2.Val.length c17], .agg #[.int .i64 a3.Rows, .int .i64 a3.Cols, .slice p19 a3.Start.length c20, .slice p22 a3.Col.length c23, .slice p25 a3.Val.length c26]] I (o12_ Q) := by
 refine Fun.enter func10 r ntmps10 r (.c (.c (.c (.c .n)))) fun w0 M => ?_
 refine .sr (.boxA r r r fun b37 => ?_)
 refine .boxA r r r fun b39 => ?_
 refine .boxA r r r fun b41 => ?_
 refine .ks 2 r (.nilS [7, 6, 5, 0] r r (.seq (.dr [0, 2, 4, 1, 3, 5, 6, 7] 8 (.g r r r (fun _ => .loadW ia30 sz30 r (.s (.s .z)) r r r .mk) (.g r r r (fun _ => .loadW ia30 sz30 r (.s .z) r r r .mk) (.g r r r (fun _ => .loadW ia30 sz30 r .z r r r .mk) (.ww r fun ex => ?_)))))))
 have hw108 := W_ref07_Sure (I := I) R3 R6 R9 hd
 refine .call call37 r hw108 r r fun v97 I94 hl95 hv96 => ?_
 obtain ⟨r93, p99, c100, p102, c103, p105, c106, rfl, R101, R104, R107, hd⟩ := hv96
 replace R3 := R3.mono hl95
 replace R6 := R6.mono hl95
 replace R9 := R9.mono hl95
 replace R12 := R12.mono hl95
 replace R15 := R15.mono hl95
 replace R18 := R18.mono hl95
 replace R21 := R21.mono hl95
 replace R24 := R24.mono hl95
 replace R27 := R27.mono hl95
 refine .so 3 r r r (.cg r r r r (fun _ => .loadW ia30 sz30 r .z r r r .mk) (.cg r r r r (fun _ => .loadW ia30 sz30 r (.s .z) r r r .mk) trivial)) (.ww r fun ex => ?_)
 have hw124 := W_ref07_Sure (I := I94) R12 R15 R18 hd
 refine .call call37 r hw124 r r fun v113 I110 hl111 hv112 => ?_
 obtain ⟨r109, p115, c116, p118, c119, p121, c122, rfl, R117, R120, R123, hd⟩ := hv112
 have le125 := IH.le.trans hl95 hl111
 replace R3 := R3.mono hl111
 replace R6 := R6.mono hl111
 replace R9 := R9.mono hl111
 replace R12 := R12.mono hl111
 replace R15 := R15.mono hl111
 replace R18 := R18.mono hl111
 replace R21 := R21.mono hl111
 replace R24 := R24.mono hl111
 replace R27 := R27.mono hl111
 replace R101 := R101.mono hl111
 replace R104 := R104.mono hl111
 replace R107 := R107.mono hl111
 refine .so 3 r r r (.cg r r r r (fun _ => .loadW ia30 sz30 r .z r r r .mk) trivial) (.ww r fun ex => ?_)
 have hw141 := W_ref07_Sure (I := I110) R21 R24 R27 hd
 refine .call call37 r hw141 r r fun v130 I127 hl128 hv129 => ?_
 obtain ⟨r126, p132, c133, p135, c136, p138, c139, rfl, R134, R137, R140, hd⟩ := hv129
 have le142 := IH.le.trans le125 hl128
 replace R3 := R3.mono hl128
 replace R6 := R6.mono hl128
 replace R9 := R9.mono hl128
 replace R12 := R12.mono hl128
 replace R15 := R15.mono hl128
 replace R18 := R18.mono hl128
 replace R21 := R21.mono hl128
 replace R24 := R24.mono hl128
 replace R27 := R27.mono hl128
 replace R101 := R101.mono hl128
 replace R104 := R104.mono hl128
 replace R107 := R107.mono hl128
 replace R117 := R117.mono hl128
 replace R120 := R120.mono hl128
 replace R123 := R123.mono hl128
 refine .so 3 r r r trivial (.ww r fun ex => ?_)
 refine .storeA sz30 r r (.s (.s .z)) (.t (.t (.t (.t (.t .nil))))) r r (.sn 3 r r r trivial (.ww r fun ex => ?_))
 refine .storeA sz30 r r (.s .z) (.t (.t (.t (.t (.t .nil))))) r r (.sn 3 r r r trivial (.e2 8 (.storeA sz30 r r .z (.t (.t (.t (.t (.t .nil))))) r r (.nilS [7, 6, 5, 0] r r (.seq (.sr (.ks 1 r ?_)))))))
 have hw149 := W_ref02_Is (I := I127) hd
 refine .callP call38 r hw149 r r fun v150 hv151 => ?_
 obtain ⟨r148, rfl, hd⟩ := hv151
 refine .ks 1 r (.nilS [27, 7, 6, 5, 0] r r (.condP r hd (fun hb152 hd => ?_) fun hb152 hd => ?_))
 · exact .sr (.ks 2 r (.nilS [9, 8] r r (.drop .z (.drop .z (.drop .z (.ret (pret results10 (.t r (.t r .n)) le142 ⟨(([] : List Cell), 8), _, _, r, (.nil _ _ _), hd⟩)))))))
 refine .skipS [7, 6, 5, 0] r r (.seq (.sr (.fa un30 r sz3 r (o := 1) r r r (.load1 ia3 r (.s (.s .z)) r r r (.fa un30 r sz3 r (o := 0) r r r (.load1 ia3 r (.s .z) r r r (.ks 2 r ?_)))))))
 refine splitP hd (fun hb156 hd => ?_) fun hb156 hd => ?_
 · rw [hb156]
   exact .ks 13 r (.nilS [46, 7, 6, 5, 0] r r (.condKT r r (.sr (.ks 2 r (.nilS [9, 8] r r (.drop .z (.drop .z (.drop .z (.ret (pret results10 (.t r (.t r .n)) le142 ⟨(([] : List Cell), 4), _, _, r, (.nil _ _ _), hd⟩))))))))))
 rw [hb156]
 refine .gyes r r r (.fa un30 r sz3 r (o := 0) r r r (.gyes r r r (.load1 ia3 r .z r r r (.gyes r r r (.fa un30 r sz3 r (o := 0) r r r (.gyes r r r (.load1 ia3 r (.s (.s .z)) r r r (.ks 3 r ?_))))))))
 refine splitP hd (fun hb157 hd => ?_) fun hb157 hd => ?_
 · rw [hb157]
   exact .ks 6 r (.nilS [46, 7, 6, 5, 0] r r (.condKT r r (.sr (.ks 2 r (.nilS [9, 8] r r (.drop .z (.drop .z (.drop .z (.ret (pret results10 (.t r (.t r .n)) le142 ⟨(([] : List Cell), 4), _, _, r, (.nil _ _ _), hd⟩))))))))))
 rw [hb157]
 refine .gyes r r r (.fa un30 r sz3 r (o := 1) r r r (.gyes r r r (.load1 ia3 r .z r r r (.gyes r r r (.fa un30 r sz3 r (o := 1) r r r (.gyes r r r (.load1 ia3 r (.s .z) r r r (.ks 2 r (.nilS [46, 7, 6, 5, 0] r r (.condP r hd (fun hb158 hd => ?_) fun hb158 hd => ?_))))))))))
 · exact .sr (.ks 2 r (.nilS [9, 8] r r (.drop .z (.drop .z (.drop .z (.ret (pret results10 (.t r (.t r .n)) le142 ⟨(([] : List Cell), 4), _, _, r, (.nil _ _ _), hd⟩)))))))
 refine .skipS [7, 6, 5, 0] r r (.sr (.ks 1 r (.nilS [10, 7, 6, 5, 0] r r (.sr (.loadW ia30 sz30 r .z r r r ?_)))))
 have hw179 := W_ref07_Triples (I := I127) R134 R137 R140 hd
 refine .call call39 r hw179 r r fun v174 I171 hl172 hv173 => ?_
 obtain ⟨r170, p176, c177, rfl, R178, hd⟩ := hv173
 have le180 := IH.le.trans le142 hl172
 replace R101 := R101.mono hl172
 replace R104 := R104.mono hl172
 replace R107 := R107.mono hl172
 replace R117 := R117.mono hl172
 replace R120 := R120.mono hl172
 replace R123 := R123.mono hl172
 replace R134 := R134.mono hl172
 replace R137 := R137.mono hl172
 replace R140 := R140.mono hl172
 refine .ks 1 r (.nilS [11, 10, 6, 5, 0] r r (.drop .z (.seq (.sr (.ks 1 r (.nilS [12, 11, 10, 6, 5, 0] r r (.block (.own0 eCell 59 (.loop hd (fun (s : (List Cell) × Int) c w => match s with | (s1920, s1924) => ∃ I_ p1921 c1922, IH.le I171 I_ ∧ Ok ⟨126, [], none⟩ [(0, .int .i64 a0), (5, .pointer (some ⟨b37, 0, none⟩)), (6, .pointer (some ⟨b39, 0, none⟩)), (10, .slice p1921 s1920.length c1922), (11, .slice p176 r170.length c177), (12, .int .i64 s1924)] c ∧ Sym w0 M I I_ [pto b37 (.cells #[.int .i64 r93.Rows, .int .i64 r93.Cols, .slice p99 r93.Start.length c100, .slice p102 r93.Col.length c103, .slice p105 r93.Val.length c106] 30 (0, 0)), pto b39 (.cells #[.int .i64 r109.Rows, .int .i64 r109.Cols, .slice p115 r109.Start.length c116, .slice p118 r109.Col.length c119, .slice p121 r109.Val.length c122] 30 (0, 0)), OwnSl eCell 59 p1921 c1922 s1920] w) (fun c w ho hs => ⟨I171, _, _, (.refl _), ho.sub ⟨r, r, r, r, r, r, trivial⟩, hs.pick (.c (.s (.s .z)) (.c (.s .z) (.c .z .n)))⟩) ?_)))))))))
 rintro ⟨s1920, s1924⟩ next1926 hd c w hst
 obtain ⟨I1927, p1921, c1922, hl1928, hok, hsym⟩ := hst
 have le1929 := IH.le.trans le180 hl1928
 replace R101 := R101.mono hl1928
 replace R104 := R104.mono hl1928
 replace R107 := R107.mono hl1928
 replace R117 := R117.mono hl1928
 replace R120 := R120.mono hl1928
 replace R123 := R123.mono hl1928
 replace R178 := R178.mono hl1928
 refine Cod.at hok hsym (.seq (.sr (.ks 2 r (.len un24 r r r r (.ks 1 r (.nilS [52, 12, 11, 10, 6, 5, 0] r r (.condP r hd (fun hb1931 hd => ?_) fun hb1931 hd => ?_)))))))
 · refine .skipS [12, 11, 10, 6, 5, 0] r r (.seq (.block (.sr (.allocA zv57 r r fun b1934 => ?_))))
   refine .nilS [13, 12, 11, 10, 6, 5, 0] r r (.sr (.ks 1 r (.nilS [14, 13, 12, 11, 10, 6, 5, 0] r r (.seq (.seq (.ownF (.s (.s (.s .z))) fun hne2378 => ?_))))))
   refine .dr [0, 1, 2, 3, 4, 5, 6, 7, 8] 9 (.g r r r (fun _ => .fa un30 r sz27 r (o := 2) r r r .mk) (.g r r r (fun _ => .load1 ia27 r (.s .z) r r r .mk) (.fk 2 r ?_)))
   obtain ⟨h2379, x2380, hx2381, hd⟩ := hd
   obtain ⟨b2382, o2383, cs2384, e2385, hC2386, hr2387⟩ := R178.2 _ _ hx2381
   cases hr2387
   refine .g r r r (fun _ => .ixa un24 sz91 r e2385 r h2379 (idx_lt hx2381 h2379) r r .mk) (.g r r r (fun _ => .fa un91 r sz3 r (o := o2383 + s1924.toNat * 3) r r r .mk) (.g r r r (fun _ => .ld1 (j := 0) ia3 hC2386 r r r r r .mk) ?_))
   obtain ⟨h2388, x2389, hx2390, hd⟩ := hd
   obtain ⟨b2391, o2392, cs2393, e2394, hC2395, hr2396⟩ := R101.2 _ _ hx2390
   cases hr2396
   refine .g r r r (fun _ => .ixa un27 sz3 r e2394 r h2388 (idx_lt hx2390 h2388) r r .mk) (.g r r r (fun _ => .ld1 (j := 0) ia3 hC2395 r r r r r .mk) (.e2 9 (.ks 1 r (.nilS [15, 14, 13, 12, 11, 10, 6, 5, 0] r r (.block (.loop hd (fun (s : Int × Int × Bool × Int) c w => match s with | (s2650, s2651, s2652, s2653) => ∃ I_, IH.le I1927 I_ ∧ Ok ⟨126, [], none⟩ [(0, .int .i64 a0), (5, .pointer (some ⟨b37, 0, none⟩)), (6, .pointer (some ⟨b39, 0, none⟩)), (10, .slice p1921 s1920.length c1922), (11, .slice p176 r170.length c177), (12, .int .i64 s1924), (13, .pointer (some ⟨b1934, 0, none⟩)), (14, .bool s2652), (15, .int .i64 s2653)] c ∧ Sym w0 M I I_ [pto b37 (.cells #[.int .i64 r93.Rows, .int .i64 r93.Cols, .slice p99 r93.Start.length c100, .slice p102 r93.Col.length c103, .slice p105 r93.Val.length c106] 30 (0, 0)), pto b39 (.cells #[.int .i64 r109.Rows, .int .i64 r109.Cols, .slice p115 r109.Start.length c116, .slice p118 r109.Col.length c119, .slice p121 r109.Val.length c122] 30 (0, 0)), OwnSl eCell 59 p1921 c1922 s1920, pto b1934 (.cells #[.int .i64 s2650, .int .u64 s2651] 57 (0, 0))] w) (fun c w ho hs => ⟨I1927, (.refl _), ho.sub ⟨r, r, r, r, r, r, r, r, r, trivial⟩, hs.pick (.c (.s .z) (.c (.s .z) (.c (.s .z) (.c .z .n))))⟩) ?_))))))
   rintro ⟨s2650, s2651, s2652, s2653⟩ next2654 hd c w hst
   obtain ⟨I2655, hl2656, hok, hsym⟩ := hst
   have le2657 := IH.le.trans le1929 hl2656
   have le2658 := IH.le.trans hl1928 hl2656
   replace R101 := R101.mono hl2656
   replace R104 := R104.mono hl2656
   replace R107 := R107.mono hl2656
   replace R117 := R117.mono hl2656
   replace R120 := R120.mono hl2656
   replace R123 := R123.mono hl2656
   replace R178 := R178.mono hl2656
   refine Cod.at hok hsym (.seq (.seq (.ownF (.s (.s .z)) fun hne2679 => ?_)))
   refine .dr [0, 1, 2, 3, 4, 5, 6, 7, 8, 9, 10, 11] 12 (.fk 1 r (.g r r r (fun _ => .fa un30 r sz27 r (o := 2) r r r .mk) (.g r r r (fun _ => .load1 ia27 r .z r r r .mk) (.fk 2 r ?_))))
   obtain ⟨h2680, x2681, hx2682, hd⟩ := hd
   obtain ⟨b2683, o2684, cs2685, e2686, hC2687, hr2688⟩ := R178.2 _ _ hx2682
   cases hr2688
   refine .g r r r (fun _ => .ixa un24 sz91 r e2686 r h2680 (idx_lt hx2682 h2680) r r .mk) (.g r r r (fun _ => .fa un91 r sz3 r (o := o2684 + s1924.toNat * 3) r r r .mk) (.g r r r (fun _ => .ld1 (j := 0) ia3 hC2687 r r r r r .mk) (.fk 1 r ?_)))
   obtain ⟨h2689, x2690, hx2691, hd⟩ := hd
   obtain ⟨b2692, o2693, cs2694, e2695, hC2696, hr2697⟩ := R101.2 _ _ hx2691
   cases hr2697
   refine .g r r r (fun _ => .ixa un27 sz3 r e2695 r h2689 (idx_lt hx2691 h2689) r r .mk) (.g r r r (fun _ => .ld1 (j := 0) ia3 hC2696 r r r r r .mk) (.fk 1 r (.e2 12 (.nilS [75, 15, 14, 13, 12, 11, 10, 6, 5, 0] r r (.condP r hd (fun hb2698 hd => ?_) fun hb2698 hd => ?_)))))
   · refine .skipS [15, 14, 13, 12, 11, 10, 6, 5, 0] r r (.seq (.block (.seq (.ownF (.s (.s .z)) fun hne2722 => ?_))))
     refine .dr [0, 1, 2, 3, 4, 5, 6, 7, 8, 9, 10, 11, 12, 13, 14, 15] 16 (.g r r r (fun _ => .loadW ia30 sz30 r (.s .z) r r r .mk) (.g r r r (fun _ => .fa un30 r sz27 r (o := 3) r r r .mk) (.g r r r (fun _ => .load1 ia27 r .z r r r .mk) (.fk 1 r ?_))))
     obtain ⟨h2723, x2724, hx2725, hd⟩ := hd
     obtain ⟨b2726, o2727, cs2728, e2729, hC2730, hr2731⟩ := R104.2 _ _ hx2725
     cases hr2731
     refine .g r r r (fun _ => .ixa un27 sz3 r e2729 r h2723 (idx_lt hx2725 h2723) r r .mk) (.g r r r (fun _ => .ld1 (j := 0) ia3 hC2730 r r r r r .mk) (.fk 2 r ?_))
     obtain ⟨h2732, x2733, hx2734, hd⟩ := hd
     obtain ⟨b2735, o2736, cs2737, e2738, hC2739, hr2740⟩ := R178.2 _ _ hx2734
     cases hr2740
     refine .g r r r (fun _ => .ixa un24 sz91 r e2738 r h2732 (idx_lt hx2734 h2732) r r .mk) (.g r r r (fun _ => .fa un91 r sz3 r (o := o2736 + s1924.toNat * 3 + 1) r r r .mk) (.g r r r (fun _ => .ld1 (j := 1) ia3 hC2739 r r r r r .mk) (.ww r fun ex => ?_)))
     have hw2742 := W_ref07_Get (I := I2655) R117 R120 R123 hd
     refine .callP call40 r hw2742 r r fun v2743 hv2744 => ?_
     obtain ⟨r2741, rfl, hd⟩ := hv2744
     refine .so 4 r r r trivial (.fk 4 r (.e2 16 (.ks 1 r (.nilS [17, 16, 15, 14, 13, 12, 11, 10, 6, 5, 0] r r (.seq (.sr (.ks 2 r (.nilS [94, 16, 15, 14, 13, 12, 11, 10, 6, 5, 0] r r (.condP r hd (fun hb2746 hd => ?_) fun hb2746 hd => ?_)))))))))
     · exact .exitS [15, 14, 13, 12, 11, 10, 6, 5, 0] r r (.region (.ks 3 r (.nil' fun c w ho hs => ⟨(s2650, s2651, s2652, w64 (s2653 + 1)), hd, I2655, hl2656, ho.sub ⟨r, r, r, r, r, r, r, r, r, trivial⟩, hs.pick (.c .z (.c .z (.c .z (.c .z .n))))⟩)))
     refine .skipS [16, 15, 14, 13, 12, 11, 10, 6, 5, 0] r r (.sr (.ks 1 r (.fa un30 r sz28 r (o := 4) r r r (.load1 ia28 r .z r r r (.ks 1 r ?_)))))
     obtain ⟨h2762, x2763, hx2764, hd⟩ := hd
     obtain ⟨b2765, o2766, cs2767, e2768, hC2769, hr2770⟩ := R107.2 _ _ hx2764
     cases hr2770
     refine .ixa un28 sz2 r e2768 r h2762 (idx_lt hx2764 h2762) r r (.ld1 (j := 0) ia2 hC2769 r r r r r (.ks 1 r ?_))
     have hw2772 := W_ref02_Mul (I := I2655) hd
     refine .callP call41 r hw2772 r r fun v2773 hv2774 => ?_
     obtain ⟨r2771, rfl, hd⟩ := hv2774
     refine .allocA zv57 r r fun b2775 => ?_
     refine .storeA sz57 r r .z (.t (.t .nil)) r r (.nilS [18, 15, 14, 13, 12, 11, 10, 6, 5, 0] r r (.seq (.sr (.ks 1 r (.nilS [103, 18, 15, 13, 12, 11, 10, 6, 5, 0] r r (.condP r hd (fun hb2777 hd => ?_) fun hb2777 hd => ?_))))))
     · refine .region (.ks 1 r (.loadW ia57 sz57 r (.s (.s (.s (.s .z)))) r r r (.loadW ia57 sz57 r .z r r r ?_)))
       have hw2779 := W_ref02_Add (I := I2655) hd
       refine .callP call42 r hw2779 r r fun v2780 hv2781 => ?_
       obtain ⟨r2778, rfl, hd⟩ := hv2781
       exact .storeA sz57 r r (.s (.s (.s (.s .z)))) (.t (.t .nil)) r r (.nilS [15, 13, 12, 11, 10, 6, 5, 0] r r (.drop .z (.region (.ks 1 r (.nilS [14, 15, 13, 12, 11, 10, 6, 5, 0] r r (.region (.ks 3 r (.nil' fun c w ho hs => ⟨(r2778.Hi, r2778.Lo, true, w64 (s2653 + 1)), hd, I2655, hl2656, ho.sub ⟨r, r, r, r, r, r, r, r, r, trivial⟩, hs.pick (.c .z (.c .z (.c .z (.c .z .n))))⟩))))))))
     refine .region (.loadW ia57 sz57 r .z r r r (.storeA sz57 r r (.s (.s (.s (.s .z)))) (.t (.t .nil)) r r (.nilS [15, 13, 12, 11, 10, 6, 5, 0] r r (.drop .z (.region (.ks 1 r (.nilS [14, 15, 13, 12, 11, 10, 6, 5, 0] r r (.region (.ks 3 r ?_)))))))))
     exact .nil' fun c w ho hs => ⟨(r2771.Hi, r2771.Lo, true, w64 (s2653 + 1)), hd, I2655, hl2656, ho.sub ⟨r, r, r, r, r, r, r, r, r, trivial⟩, hs.pick (.c .z (.c .z (.c .z (.c .z .n))))⟩
   refine .exitS [14, 13, 12, 11, 10, 6, 5, 0] r r (.sr (.ks 1 r (.nilS [109, 13, 12, 11, 10, 6, 5, 0] r r (.condP r hd (fun hb2782 hd => ?_) fun hb2782 hd => ?_))))
   · refine .ownF (.s (.s .z)) fun hne2783 => ?_
     refine .dr [0, 1, 2, 3, 4, 5, 6, 7, 8, 9, 10, 11, 12, 13, 14] 15 (.fk 3 r ?_)
     obtain ⟨h2784, x2785, hx2786, hd⟩ := hd
     obtain ⟨b2787, o2788, cs2789, e2790, hC2791, hr2792⟩ := R178.2 _ _ hx2786
     cases hr2792
     refine .g r r r (fun _ => .ixa un24 sz91 r e2790 r h2784 (idx_lt hx2786 h2784) r r .mk) (.g r r r (fun _ => .fa un91 r sz3 r (o := o2788 + s1924.toNat * 3) r r r .mk) (.g r r r (fun _ => .ld1 (j := 0) ia3 hC2791 r r r r r .mk) (.fk 2 r ?_)))
     obtain ⟨h2793, x2794, hx2795, hd⟩ := hd
     obtain ⟨b2796, o2797, cs2798, e2799, hC2800, hr2801⟩ := R178.2 _ _ hx2795
     cases hr2801
     refine .g r r r (fun _ => .ixa un24 sz91 r e2799 r h2793 (idx_lt hx2795 h2793) r r .mk) (.g r r r (fun _ => .fa un91 r sz3 r (o := o2797 + s1924.toNat * 3 + 1) r r r .mk) (.g r r r (fun _ => .ld1 (j := 1) ia3 hC2800 r r r r r .mk) (.g r r r (fun _ => .loadW ia57 sz57 r (.s (.s (.s .z))) r r r .mk) (.g r r r (fun _ => .build zv59 un59 BI59 (.c r r r (.t .nil) (.c r r r (.s (.t .nil)) (.c r r r (.s (.s (.t (.t .nil)))) .n))) (by exact ⟨⟨_, _, r, r, r⟩, ⟨⟨_, _, r, r, r⟩, ⟨⟨_, _, r, r, r⟩, trivial⟩⟩⟩) r r .mk) (.ww r fun ex => ?_)))))
     refine .buildSlice 1 un33 sz59 zv59 r r (.c r r r .n) r r fun b2802 => ?_
     refine .so 5 r r r (.ck 1 r r trivial) (.ww r fun ex => ?_)
     obtain ⟨hl2804, hd⟩ := hd
     refine .append (ys := [({ Row := x2785.Row, Col := x2794.Col, Val := ({ Hi := s2650, Lo := s2651 } : Wide) } : Cell)]) 32 (.s (.s (.s .z))) un33 un33 IN59 r r r r r r r r r (.box .z (.one r) r) hl2804 r r fun p2805 c2806 => ?_
     exact .so 5 r r r trivial (.e2 15 (.ks 1 r (.nilS [10, 12, 11, 6, 5, 0] r r (.drop (.s .z) (.drop (.s (.s (.s .z))) (.region (.ks 3 r (.nil' fun c w ho hs => ⟨((s1920 ++ ([({ Row := x2785.Row, Col := x2794.Col, Val := ({ Hi := s2650, Lo := s2651 } : Wide) } : Cell)])), w64 (s1924 + 1)), hd, I2655, _, _, le2658, ho.sub ⟨r, r, r, r, r, r, trivial⟩, hs.pick (.c (.s .z) (.c (.s .z) (.c .z .n)))⟩))))))))
   exact .skipS [12, 11, 10, 6, 5, 0] r r (.drop (.s (.s (.s .z))) (.region (.ks 3 r (.nil' fun c w ho hs => ⟨(s1920, w64 (s1924 + 1)), hd, I2655, _, _, le2658, ho.sub ⟨r, r, r, r, r, r, trivial⟩, hs.pick (.c .z (.c .z (.c .z .n)))⟩))))
 refine .exitS [10] r r (.drop .z (.drop .z (.sr (.ks 3 r (.nilS [9, 8] r r (.pub .z fun I2808 hl2809 R2810 => ?_))))))
 have le2811 := IH.le.trans le1929 hl2809
 have le2812 := IH.le.trans hl1928 hl2809
 exact .ret (pret results10 (.t r (.t r .n)) le2811 ⟨(s1920, 0), _, _, r, R2810, hd⟩)

theorem W_ref02_least {I : IH} {a0 : Int} {Q : Bool → Prop}  (hd : ref02_least a0 Q) :
  PFun prog 94 [.int .i64 a0] I (fun _ => o1_ Q) := by
 refine Fun.enter func94 r ntmps94 r (.c .n) fun w0 M => ?_
 refine .sr (.ks 1 r (.nilS [0] r r (.sr (.ks 3 r ?_))))
 refine splitP hd (fun hb1 hd => ?_) fun hb1 hd => ?_
 · rw [hb1]
   exact .ks 8 r (.nilS [2] r r (.ret (pret results94 (.t r .n) (.refl _) ⟨true, r, hd⟩)))
 rw [hb1]
 refine .ks 4 r ?_
 refine splitP hd (fun hb2 hd => ?_) fun hb2 hd => ?_
 · rw [hb2]
   exact .ks 4 r (.nilS [2] r r (.ret (pret results94 (.t r .n) (.refl _) ⟨true, r, hd⟩)))
 rw [hb2]
 exact .ks 4 r (.nilS [2] r r (.ret (pret results94 (.t r .n) (.refl _) ⟨(a0 == 4), r, hd⟩)))

theorem W_ref02_Zero {I : IH} {a0 : Int} {Q : Int → Prop}  (hd : ref02_Zero a0 Q) :
  PFun prog 49 [.int .i64 a0] I (fun _ => o0_ Q) := by
 refine Fun.enter func49 r ntmps49 r (.c .n) fun w0 M => ?_
 refine .sr (.ks 1 r (.nilS [0] r r (.seq (.sr (.ks 1 r ?_)))))
 have hw2 := W_ref02_least (I := I) hd
 refine .callP call94 r hw2 r r fun v3 hv4 => ?_
 obtain ⟨r1, rfl, hd⟩ := hv4
 refine .nilS [4] r r (.condP r hd (fun hb5 hd => ?_) fun hb5 hd => ?_)
 · exact .sr (.ks 1 r (.nilS [2] r r (.ret (pret results49 (.t r .n) (.refl _) ⟨4611686018427387904, r, hd⟩))))
 exact .skipS [] r r (.sr (.ks 1 r (.nilS [2] r r (.ret (pret results49 (.t r .n) (.refl _) ⟨0, r, hd⟩)))))

theorem W_ref15_ahead {I : IH} {a0 : Cell} {a1 : Cell} {Q : Bool → Prop}  (hd : ref15_ahead a0 a1 Q) :
  PFun prog 61 [.agg (encCell a0).toArray, .agg (encCell a1).toArray] I (fun _ => o1_ Q) := by
 refine Fun.enter func61 r ntmps61 r (.c (.c .n)) fun w0 M => ?_
 refine .sr (.boxA r r r fun b5 => ?_)
 refine .boxA r r r fun b7 => ?_
 refine .ks 1 r (.nilS [3, 2] r r (.sr (.fa un59 r sz3 r (o := 0) r r r (.load1 ia3 r (.s .z) r r r (.fa un59 r sz3 r (o := 0) r r r (.load1 ia3 r .z r r r (.ks 2 r ?_)))))))
 refine splitP hd (fun hb9 hd => ?_) fun hb9 hd => ?_
 · rw [hb9]
   exact .ks 14 r (.nilS [4] r r (.drop .z (.drop .z (.ret (pret results61 (.t r .n) (.refl _) ⟨true, r, hd⟩)))))
 rw [hb9]
 refine .gyes r r r (.fa un59 r sz3 r (o := 0) r r r (.gyes r r r (.load1 ia3 r (.s .z) r r r (.gyes r r r (.fa un59 r sz3 r (o := 0) r r r (.gyes r r r (.load1 ia3 r .z r r r (.ks 2 r ?_))))))))
 refine splitP hd (fun hb10 hd => ?_) fun hb10 hd => ?_
 · rw [hb10]
   exact .gyes r r r (.fa un59 r sz3 r (o := 1) r r r (.gyes r r r (.load1 ia3 r (.s .z) r r r (.gyes r r r (.fa un59 r sz3 r (o := 1) r r r (.gyes r r r (.load1 ia3 r .z r r r (.ks 4 r (.nilS [4] r r (.drop .z (.drop .z (.ret (pret results61 (.t r .n) (.refl _) ⟨(decide (a0.Col < a1.Col)), r, hd⟩)))))))))))))
 rw [hb10]
 exact .ks 8 r (.nilS [4] r r (.drop .z (.drop .z (.ret (pret results61 (.t r .n) (.refl _) ⟨false, r, hd⟩)))))

theorem W_ref15_rises {I : IH} {a0 : List Cell} {p1 : Option Addr} {c2 : Nat} {Q : Bool → Prop} (R3 : RepSl eCell I p1 c2 a0) (hd : ref15_rises a0 Q) :
  PFun prog 60 [.slice p1 a0.length c2] I (fun _ => o1_ Q) := by
 refine Fun.enter func60 r ntmps60 r (.c .n) fun w0 M => ?_
 refine .sr (.ks 1 r (.nilS [0] r r (.seq (.sr (.ks 1 r (.nilS [3, 0] r r (.block (.loop hd (fun (s57 : Int) c w => ∃ I_, IH.le I I_ ∧ Ok ⟨21, [], none⟩ [(0, .slice p1 a0.length c2), (3, .int .i64 s57)] c ∧ Sym w0 M I I_ [] w) (fun c w ho hs => ⟨I, (.refl _), ho.sub ⟨r, r, trivial⟩, hs.pick .n⟩) ?_))))))))
 rintro s57 next58 hd c w hst
 obtain ⟨I59, hl60, hok, hsym⟩ := hst
 replace R3 := R3.mono hl60
 refine Cod.at hok hsym (.seq (.sr (.ks 2 r (.len un33 r r r r (.ks 1 r (.nilS [7, 3, 0] r r (.condP r hd (fun hb62 hd => ?_) fun hb62 hd => ?_)))))))
 · refine .skipS [3, 0] r r (.seq (.block (.seq (.dr [0, 1, 2, 3, 4, 5, 6, 7, 8, 9, 10] 11 (.fk 3 r ?_)))))
   obtain ⟨h63, x64, hx65, hd⟩ := hd
   obtain ⟨b66, o67, cs68, e69, hC70, hr71⟩ := R3.2 _ _ hx65
   cases hr71
   refine .g r r r (fun _ => .ixa un33 sz59 r e69 r h63 (idx_lt hx65 h63) r r .mk) (.g r r r (fun _ => .ldW ia59 sz59 hC70 r r r r .mk) (.fk 2 r ?_))
   obtain ⟨h72, x73, hx74, hd⟩ := hd
   obtain ⟨b75, o76, cs77, e78, hC79, hr80⟩ := R3.2 _ _ hx74
   cases hr80
   refine .g r r r (fun _ => .ixa un33 sz59 r e78 r h72 (idx_lt hx74 h72) r r .mk) (.g r r r (fun _ => .ldW ia59 sz59 hC79 r r r r .mk) (.ww r fun ex => ?_))
   have hw82 := W_ref15_ahead (I := I59) hd
   refine .callP call61 r hw82 r r fun v83 hv84 => ?_
   obtain ⟨r81, rfl, hd⟩ := hv84
   refine .so 0 r r r trivial (.fk 1 r (.e2 11 (.nilS [20, 3, 0] r r (.condP r hd (fun hb85 hd => ?_) fun hb85 hd => ?_))))
   · exact .sr (.ks 1 r (.nilS [2] r r (.ret (pret results60 (.t r .n) hl60 ⟨false, r, hd⟩))))
   exact .skipS [3, 0] r r (.region (.ks 3 r (.nil' fun c w ho hs => ⟨(w64 (s57 + 1)), hd, I59, hl60, ho.sub ⟨r, r, trivial⟩, hs.pick .n⟩)))
 exact .exitS [] r r (.sr (.ks 1 r (.nilS [2] r r (.ret (pret results60 (.t r .n) hl60 ⟨true, r, hd⟩)))))

theorem W_ref15_Done {I : IH} {a0 : Int} {a1 : Int} {a2 : Int} {a3 : List Cell} {p1 : Option Addr} {c2 : Nat} {Q : (Rows × Int) → Prop} (R3 : RepSl eCell I p1 c2 a3) (hd : ref15_Done a0 a1 a2 a3 Q) :
  PFun prog 21 [.int .i64 a0, .int .i64 a1, .int .i64 a2, .slice p1 a3.length c2] I (o6_ Q) := by
 refine Fun.enter func21 r ntmps21 r (.c (.c (.c (.c .n)))) fun w0 M => ?_
 refine .sr (.allocA zv30 r r fun b15 => ?_)
 refine .ks 1 r (.nilS [8, 3, 2, 1, 0] r r (.seq (.sr (.ks 1 r ?_))))
 have hw23 := W_ref02_Is (I := I) hd
 refine .callP call38 r hw23 r r fun v24 hv25 => ?_
 obtain ⟨r22, rfl, hd⟩ := hv25
 refine .ks 1 r (.nilS [17, 8, 3, 2, 1, 0] r r (.condP r hd (fun hb26 hd => ?_) fun hb26 hd => ?_))
 · exact .sr (.build zv30 un30 BI30 .n (by exact trivial) r r (.storeA sz30 r r .z (.t (.t (.t (.t (.t .nil))))) r r (.ks 1 r (.nilS [9, 8] r r (.ret (pret results21 (.w ia30 sz30 r .z r (.t r .n)) (.refl _) ⟨(({ Rows := 0, Cols := 0, Start := ([] : List Int), Col := ([] : List Int), Val := ([] : List Int) } : Rows), 8), _, _, _, _, _, _, r, (.nil _ _ _), (.nil _ _ _), (.nil _ _ _), hd⟩))))))
 refine .skipS [8, 3, 2, 1, 0] r r (.seq (.sr (.ks 3 r ?_)))
 refine splitP hd (fun hb31 hd => ?_) fun hb31 hd => ?_
 · rw [hb31]
   exact .ks 11 r (.nilS [32, 8, 3, 2, 1, 0] r r (.condKT r r (.sr (.build zv30 un30 BI30 .n (by exact trivial) r r (.storeA sz30 r r .z (.t (.t (.t (.t (.t .nil))))) r r (.ks 1 r (.nilS [9, 8] r r (.ret (pret results21 (.w ia30 sz30 r .z r (.t r .n)) (.refl _) ⟨(({ Rows := 0, Cols := 0, Start := ([] : List Int), Col := ([] : List Int), Val := ([] : List Int) } : Rows), 3), _, _, _, _, _, _, r, (.nil _ _ _), (.nil _ _ _), (.nil _ _ _), hd⟩)))))))))
 rw [hb31]
 refine .ks 4 r ?_
 refine splitP hd (fun hb32 hd => ?_) fun hb32 hd => ?_
 · rw [hb32]
   exact .ks 7 r (.nilS [32, 8, 3, 2, 1, 0] r r (.condKT r r (.sr (.build zv30 un30 BI30 .n (by exact trivial) r r (.storeA sz30 r r .z (.t (.t (.t (.t (.t .nil))))) r r (.ks 1 r (.nilS [9, 8] r r (.ret (pret results21 (.w ia30 sz30 r .z r (.t r .n)) (.refl _) ⟨(({ Rows := 0, Cols := 0, Start := ([] : List Int), Col := ([] : List Int), Val := ([] : List Int) } : Rows), 3), _, _, _, _, _, _, r, (.nil _ _ _), (.nil _ _ _), (.nil _ _ _), hd⟩)))))))))
 rw [hb32]
 refine .ks 4 r ?_
 refine splitP hd (fun hb33 hd => ?_) fun hb33 hd => ?_
 · rw [hb33]
   exact .ks 3 r (.nilS [32, 8, 3, 2, 1, 0] r r (.condKT r r (.sr (.build zv30 un30 BI30 .n (by exact trivial) r r (.storeA sz30 r r .z (.t (.t (.t (.t (.t .nil))))) r r (.ks 1 r (.nilS [9, 8] r r (.ret (pret results21 (.w ia30 sz30 r .z r (.t r .n)) (.refl _) ⟨(({ Rows := 0, Cols := 0, Start := ([] : List Int), Col := ([] : List Int), Val := ([] : List Int) } : Rows), 3), _, _, _, _, _, _, r, (.nil _ _ _), (.nil _ _ _), (.nil _ _ _), hd⟩)))))))))
 rw [hb33]
 refine .ks 3 r (.nilS [32, 8, 3, 2, 1, 0] r r (.condP r hd (fun hb34 hd => ?_) fun hb34 hd => ?_))
 · exact .sr (.build zv30 un30 BI30 .n (by exact trivial) r r (.storeA sz30 r r .z (.t (.t (.t (.t (.t .nil))))) r r (.ks 1 r (.nilS [9, 8] r r (.ret (pret results21 (.w ia30 sz30 r .z r (.t r .n)) (.refl _) ⟨(({ Rows := 0, Cols := 0, Start := ([] : List Int), Col := ([] : List Int), Val := ([] : List Int) } : Rows), 3), _, _, _, _, _, _, r, (.nil _ _ _), (.nil _ _ _), (.nil _ _ _), hd⟩))))))
 refine .skipS [8, 3, 2, 1, 0] r r (.seq (.sr (.ks 1 r (.nilS [10, 8, 3, 2, 1, 0] r r (.block (.loop hd (fun (s255 : Int) c w => ∃ I_, IH.le I I_ ∧ Ok ⟨125, [], none⟩ [(0, .int .i64 a0), (1, .int .i64 a1), (2, .int .i64 a2), (3, .slice p1 a3.length c2), (8, .pointer (some ⟨b15, 0, none⟩)), (10, .int .i64 s255)] c ∧ Sym w0 M I I_ [pto b15 (.cells #[.int .i64 0, .int .i64 0, .slice none 0 0, .slice none 0 0, .slice none 0 0] 30 (0, 0))] w) (fun c w ho hs => ⟨I, (.refl _), ho.sub ⟨r, r, r, r, r, r, trivial⟩, hs.pick (.c .z .n)⟩) ?_))))))
 rintro s255 next256 hd c w hst
 obtain ⟨I257, hl258, hok, hsym⟩ := hst
 replace R3 := R3.mono hl258
 refine Cod.at hok hsym (.seq (.sr (.ks 2 r (.len un33 r r r r (.ks 1 r (.nilS [37, 10, 8, 3, 2, 1, 0] r r (.condP r hd (fun hb260 hd => ?_) fun hb260 hd => ?_)))))))
 · refine .skipS [10, 8, 3, 2, 1, 0] r r (.seq (.block (.sr (.ks 2 r ?_))))
   obtain ⟨h261, x262, hx263, hd⟩ := hd
   obtain ⟨b264, o265, cs266, e267, hC268, hr269⟩ := R3.2 _ _ hx263
   cases hr269
   refine .ixa un33 sz59 r e267 r h261 (idx_lt hx263 h261) r r (.fa un59 r sz3 r (o := o265 + s255.toNat * 4) r r r (.ld1 (j := 0) ia3 hC268 r r r r r (.ks 2 r ?_)))
   refine splitP hd (fun hb270 hd => ?_) fun hb270 hd => ?_
   · rw [hb270]
     exact .ks 25 r (.nilS [71, 10, 8, 3, 2, 1, 0] r r (.condKT r r (.sr (.build zv30 un30 BI30 .n (by exact trivial) r r (.storeA sz30 r r .z (.t (.t (.t (.t (.t .nil))))) r r (.ks 1 r (.nilS [9, 8] r r (.ret (pret results21 (.w ia30 sz30 r .z r (.t r .n)) hl258 ⟨(({ Rows := 0, Cols := 0, Start := ([] : List Int), Col := ([] : List Int), Val := ([] : List Int) } : Rows), 3), _, _, _, _, _, _, r, (.nil _ _ _), (.nil _ _ _), (.nil _ _ _), hd⟩)))))))))
   rw [hb270]
   refine .ks 2 r ?_
   obtain ⟨h271, x272, hx273, hd⟩ := hd
   obtain ⟨b274, o275, cs276, e277, hC278, hr279⟩ := R3.2 _ _ hx273
   cases hr279
   refine .gyes r r r (.ixa un33 sz59 r e277 r h271 (idx_lt hx273 h271) r r (.gyes r r r (.fa un59 r sz3 r (o := o275 + s255.toNat * 4) r r r (.gyes r r r (.ld1 (j := 0) ia3 hC278 r r r r r (.ks 4 r ?_))))))
   refine splitP hd (fun hb280 hd => ?_) fun hb280 hd => ?_
   · rw [hb280]
     exact .ks 16 r (.nilS [71, 10, 8, 3, 2, 1, 0] r r (.condKT r r (.sr (.build zv30 un30 BI30 .n (by exact trivial) r r (.storeA sz30 r r .z (.t (.t (.t (.t (.t .nil))))) r r (.ks 1 r (.nilS [9, 8] r r (.ret (pret results21 (.w ia30 sz30 r .z r (.t r .n)) hl258 ⟨(({ Rows := 0, Cols := 0, Start := ([] : List Int), Col := ([] : List Int), Val := ([] : List Int) } : Rows), 3), _, _, _, _, _, _, r, (.nil _ _ _), (.nil _ _ _), (.nil _ _ _), hd⟩)))))))))
   rw [hb280]
   refine .ks 2 r ?_
   obtain ⟨h281, x282, hx283, hd⟩ := hd
   obtain ⟨b284, o285, cs286, e287, hC288, hr289⟩ := R3.2 _ _ hx283
   cases hr289
   refine .gyes r r r (.ixa un33 sz59 r e287 r h281 (idx_lt hx283 h281) r r (.gyes r r r (.fa un59 r sz3 r (o := o285 + s255.toNat * 4 + 1) r r r (.gyes r r r (.ld1 (j := 1) ia3 hC288 r r r r r (.ks 3 r ?_))))))
   refine splitP hd (fun hb290 hd => ?_) fun hb290 hd => ?_
   · rw [hb290]
     exact .ks 8 r (.nilS [71, 10, 8, 3, 2, 1, 0] r r (.condKT r r (.sr (.build zv30 un30 BI30 .n (by exact trivial) r r (.storeA sz30 r r .z (.t (.t (.t (.t (.t .nil))))) r r (.ks 1 r (.nilS [9, 8] r r (.ret (pret results21 (.w ia30 sz30 r .z r (.t r .n)) hl258 ⟨(({ Rows := 0, Cols := 0, Start := ([] : List Int), Col := ([] : List Int), Val := ([] : List Int) } : Rows), 3), _, _, _, _, _, _, r, (.nil _ _ _), (.nil _ _ _), (.nil _ _ _), hd⟩)))))))))
   rw [hb290]
   refine .ks 2 r ?_
   obtain ⟨h291, x292, hx293, hd⟩ := hd
   obtain ⟨b294, o295, cs296, e297, hC298, hr299⟩ := R3.2 _ _ hx293
   cases hr299
   refine .gyes r r r (.ixa un33 sz59 r e297 r h291 (idx_lt hx293 h291) r r (.gyes r r r (.fa un59 r sz3 r (o := o295 + s255.toNat * 4 + 1) r r r (.gyes r r r (.ld1 (j := 1) ia3 hC298 r r r r r (.ks 3 r (.nilS [71, 10, 8, 3, 2, 1, 0] r r (.condP r hd (fun hb300 hd => ?_) fun hb300 hd => ?_))))))))
   · exact .sr (.build zv30 un30 BI30 .n (by exact trivial) r r (.storeA sz30 r r .z (.t (.t (.t (.t (.t .nil))))) r r (.ks 1 r (.nilS [9, 8] r r (.ret (pret results21 (.w ia30 sz30 r .z r (.t r .n)) hl258 ⟨(({ Rows := 0, Cols := 0, Start := ([] : List Int), Col := ([] : List Int), Val := ([] : List Int) } : Rows), 3), _, _, _, _, _, _, r, (.nil _ _ _), (.nil _ _ _), (.nil _ _ _), hd⟩))))))
   exact .skipS [10, 8, 3, 2, 1, 0] r r (.region (.ks 3 r (.nil' fun c w ho hs => ⟨(w64 (s255 + 1)), hd, I257, hl258, ho.sub ⟨r, r, r, r, r, r, trivial⟩, hs.pick (.c .z .n)⟩)))
 refine .exitS [8, 3, 2, 1, 0] r r (.seq (.sr (.ks 1 r ?_)))
 have hw307 := W_ref15_rises (I := I257) R3 hd
 refine .callP call60 r hw307 r r fun v308 hv309 => ?_
 obtain ⟨r306, rfl, hd⟩ := hv309
 refine .ks 1 r (.nilS [75, 8, 3, 2, 1, 0] r r (.condP r hd (fun hb310 hd => ?_) fun hb310 hd => ?_))
 · exact .sr (.build zv30 un30 BI30 .n (by exact trivial) r r (.storeA sz30 r r .z (.t (.t (.t (.t (.t .nil))))) r r (.ks 1 r (.nilS [9, 8] r r (.ret (pret results21 (.w ia30 sz30 r .z r (.t r .n)) hl258 ⟨(({ Rows := 0, Cols := 0, Start := ([] : List Int), Col := ([] : List Int), Val := ([] : List Int) } : Rows), 6), _, _, _, _, _, _, r, (.nil _ _ _), (.nil _ _ _), (.nil _ _ _), hd⟩))))))
 refine .skipS [8, 3, 2, 1, 0] r r (.seq (.sr (.ks 1 r (.len un33 r r r r (.ks 1 r (.nilS [79, 8, 3, 2, 1, 0] r r (.condP r hd (fun hb312 hd => ?_) fun hb312 hd => ?_)))))))
 · exact .sr (.build zv30 un30 BI30 .n (by exact trivial) r r (.storeA sz30 r r .z (.t (.t (.t (.t (.t .nil))))) r r (.ks 1 r (.nilS [9, 8] r r (.ret (pret results21 (.w ia30 sz30 r .z r (.t r .n)) hl258 ⟨(({ Rows := 0, Cols := 0, Start := ([] : List Int), Col := ([] : List Int), Val := ([] : List Int) } : Rows), 5), _, _, _, _, _, _, r, (.nil _ _ _), (.nil _ _ _), (.nil _ _ _), hd⟩))))))
 refine .skipS [8, 3, 2, 1, 0] r r (.sr (.ks 1 r (.nilS [11, 8, 3, 2, 1, 0] r r (.seq (.sr (.ks 1 r (.nilS [12, 11, 8, 3, 2, 1, 0] r r (.block (.own0 eTriple 91 ?_)))))))))
 refine .loop hd (fun (s : (List Triple) × Int) c w => match s with | (s673, s677) => ∃ I_ p674 c675, IH.le I257 I_ ∧ Ok ⟨125, [], none⟩ [(0, .int .i64 a0), (1, .int .i64 a1), (2, .int .i64 a2), (3, .slice p1 a3.length c2), (8, .pointer (some ⟨b15, 0, none⟩)), (11, .slice p674 s673.length c675), (12, .int .i64 s677)] c ∧ Sym w0 M I I_ [pto b15 (.cells #[.int .i64 0, .int .i64 0, .slice none 0 0, .slice none 0 0, .slice none 0 0] 30 (0, 0)), OwnSl eTriple 91 p674 c675 s673] w) (fun c w ho hs => ⟨I257, _, _, (.refl _), ho.sub ⟨r, r, r, r, r, r, r, trivial⟩, hs.pick (.c (.s .z) (.c .z .n))⟩) ?_
 rintro ⟨s673, s677⟩ next679 hd c w hst
 obtain ⟨I680, p674, c675, hl681, hok, hsym⟩ := hst
 have le682 := IH.le.trans hl258 hl681
 replace R3 := R3.mono hl681
 refine Cod.at hok hsym (.seq (.sr (.ks 2 r (.len un33 r r r r (.ks 1 r (.nilS [84, 12, 11, 8, 3, 2, 1, 0] r r (.condP r hd (fun hb684 hd => ?_) fun hb684 hd => ?_)))))))
 · refine .skipS [12, 11, 8, 3, 2, 1, 0] r r (.seq (.block (.sr (.ks 2 r ?_))))
   obtain ⟨h698, x699, hx700, hd⟩ := hd
   obtain ⟨b701, o702, cs703, e704, hC705, hr706⟩ := R3.2 _ _ hx700
   cases hr706
   refine .ixa un33 sz59 r e704 r h698 (idx_lt hx700 h698) r r (.fa un59 r sz57 r (o := o702 + s677.toNat * 4 + 2) r r r (.ldA (j := 2) ia57 sz57 hC705 r r (.s (.s (.t (.t .nil)))) r r r ?_))
   have hw708 := W_ref01_Narrow (I := I680) hd
   refine .callP call50 r hw708 r r fun v709 hv710 => ?_
   obtain ⟨r707, rfl, hd⟩ := hv710
   refine .ks 5 r (.nilS [14, 13, 12, 11, 8, 3, 2, 1, 0] r r (.seq (.sr (.ks 2 r (.nilS [97, 13, 12, 11, 8, 3, 2, 1, 0] r r (.condP r hd (fun hb712 hd => ?_) fun hb712 hd => ?_))))))
   · exact .sr (.build zv30 un30 BI30 .n (by exact trivial) r r (.storeA sz30 r r .z (.t (.t (.t (.t (.t .nil))))) r r (.ks 1 r (.nilS [9, 8] r r (.drop (.s .z) (.ret (pret results21 (.w ia30 sz30 r .z r (.t r .n)) le682 ⟨(({ Rows := 0, Cols := 0, Start := ([] : List Int), Col := ([] : List Int), Val := ([] : List Int) } : Rows), 12), _, _, _, _, _, _, r, (.nil _ _ _), (.nil _ _ _), (.nil _ _ _), hd⟩)))))))
   refine .skipS [13, 12, 11, 8, 3, 2, 1, 0] r r (.sr (.ks 2 r ?_))
   have hw718 := W_ref02_Zero (I := I680) hd
   refine .callP call49 r hw718 r r fun v719 hv720 => ?_
   obtain ⟨r717, rfl, hd⟩ := hv720
   refine .ks 1 r (.nilS [102, 13, 12, 11, 8, 3, 2, 1, 0] r r (.condP r hd (fun hb721 hd => ?_) fun hb721 hd => ?_))
   · refine .ownF (.s .z) fun hne722 => ?_
     refine .dr [0, 1, 2, 3, 4, 5, 6, 7, 8, 9, 10, 11, 12, 13, 14] 15 (.fk 3 r ?_)
     obtain ⟨h723, x724, hx725, hd⟩ := hd
     obtain ⟨b726, o727, cs728, e729, hC730, hr731⟩ := R3.2 _ _ hx725
     cases hr731
     refine .g r r r (fun _ => .ixa un33 sz59 r e729 r h723 (idx_lt hx725 h723) r r .mk) (.g r r r (fun _ => .fa un59 r sz3 r (o := o727 + s677.toNat * 4) r r r .mk) (.g r r r (fun _ => .ld1 (j := 0) ia3 hC730 r r r r r .mk) (.fk 2 r ?_)))
     obtain ⟨h732, x733, hx734, hd⟩ := hd
     obtain ⟨b735, o736, cs737, e738, hC739, hr740⟩ := R3.2 _ _ hx734
     cases hr740
     refine .g r r r (fun _ => .ixa un33 sz59 r e738 r h732 (idx_lt hx734 h732) r r .mk) (.g r r r (fun _ => .fa un59 r sz3 r (o := o736 + s677.toNat * 4 + 1) r r r .mk) (.g r r r (fun _ => .ld1 (j := 1) ia3 hC739 r r r r r .mk) (.fk 1 r (.g r r r (fun _ => .build zv91 un91 BI91 (.c r r r (.t .nil) (.c r r r (.s (.t .nil)) (.c r r r (.s (.s (.t .nil))) .n))) (by exact ⟨⟨_, _, r, r, r⟩, ⟨⟨_, _, r, r, r⟩, ⟨⟨_, _, r, r, r⟩, trivial⟩⟩⟩) r r .mk) (.ww r fun ex => ?_)))))
     refine .buildSlice 1 un24 sz91 zv91 r r (.c r r r .n) r r fun b741 => ?_
     refine .so 3 r r r (.ck 1 r r trivial) (.ww r fun ex => ?_)
     obtain ⟨hl743, hd⟩ := hd
     refine .append (ys := [({ Row := x724.Row, Col := x733.Col, Val := r707.1 } : Triple)]) 24 (.s (.s .z)) un24 un24 IN91 r r r r r r r r r (.box .z (.one r) r) hl743 r r fun p744 c745 => ?_
     exact .so 3 r r r trivial (.e2 15 (.ks 1 r (.nilS [11, 12, 8, 3, 2, 1, 0] r r (.drop (.s .z) (.region (.ks 3 r (.nil' fun c w ho hs => ⟨((s673 ++ ([({ Row := x724.Row, Col := x733.Col, Val := r707.1 } : Triple)])), w64 (s677 + 1)), hd, I680, _, _, hl681, ho.sub ⟨r, r, r, r, r, r, r, trivial⟩, hs.pick (.c (.s .z) (.c .z .n))⟩)))))))
   exact .skipS [12, 11, 8, 3, 2, 1, 0] r r (.region (.ks 3 r (.nil' fun c w ho hs => ⟨(s673, w64 (s677 + 1)), hd, I680, _, _, hl681, ho.sub ⟨r, r, r, r, r, r, r, trivial⟩, hs.pick (.c .z (.c .z .n))⟩)))
 refine .exitS [11, 8, 2, 1, 0] r r (.sr (.ks 4 r (.pub (.s .z) fun I747 hl748 R749 => ?_)))
 have le750 := IH.le.trans le682 hl748
 have le751 := IH.le.trans hl681 hl748
 have hw767 := W_ref07_Of (I := I747) R749 hd
 refine .call call51 r hw767 r r fun v756 I753 hl754 hv755 => ?_
 obtain ⟨r752, p758, c759, p761, c762, p764, c765, rfl, R760, R763, R766, hd⟩ := hv755
 have le768 := IH.le.trans le750 hl754
 have le769 := IH.le.trans le751 hl754
 replace R749 := R749.mono hl754
 exact .ks 2 r (.storeA sz30 r r .z (.t (.t (.t (.t (.t .nil))))) r r (.ks 1 r (.nilS [9, 8] r r (.ret (pret results21 (.w ia30 sz30 r .z r (.t r .n)) le768 ⟨(r752.1, r752.2), _, _, _, _, _, _, r, R760, R763, R766, hd⟩)))))

theorem W_ref15_Times {I : IH} {a0 : Int} {a1 : Rows} {a2 : Rows} {a3 : Rows} {p1 : Option Addr} {c2 : Nat} {p4 : Option Addr} {c5 : Nat} {p7 : Option Addr} {c8 : Nat} {p10 : Option Addr} {c11 : Nat} {p13 : Option Addr} {c14 : Nat} {p16 : Option Addr} {c17 : Nat} {p19 : Option Addr} {c20 : Nat} {p22 : Option Addr} {c23 : Nat} {p25 : Option Addr} {c26 : Nat} {Q : (Rows × Int) → Prop} (R3 : RepSl eI64 I p1 c2 a1.Start) (R6 : RepSl eI64 I p4 c5 a1.Col) (R9 : RepSl eI64 I p7 c8 a1.Val) (R12 : RepSl eI64 I p10 c11 a2.Start) (R15 : RepSl eI64 I p13 c14 a2.Col) (R18 : RepSl eI64 I p16 c17 a2.Val) (R21 : RepSl eI64 I p19 c20 a3.Start) (R24 : RepSl eI64 I p22 c23 a3.Col) (R27 : RepSl eI64 I p25 c26 a3.Val) (hd : ref15_Times a0 a1 a2 a3 Q) :
  PFun prog 12 [.int .i64 a0, .agg #[.int .i64 a1.Rows, .int .i64 a1.Cols, .slice p1 a1.Start.length c2, .slice p4 a1.Col.length c5, .slice p7 a1.Val.length c8], .agg #[.int .i64 a2.Rows, .int .i64 a2.Cols, .slice p10 a2.Start.length c11, .slice p13 a2.Col.length c14, .slice p16 a2.Val.length c17], .agg #[.int .i64 a3.Rows, .int .i64 a3.Cols, .slice p19 a3.Start.length c20, .slice p22 a3.Col.length c23, .slice p25 a3.Val.length c26]] I (o13_ Q) := by
 refine Fun.enter func12 r ntmps12 r (.c (.c (.c (.c .n)))) fun w0 M => ?_
 refine .sr (.boxA r r r fun b45 => ?_)
 refine .boxA r r r fun b47 => ?_
 refine .boxA r r r fun b49 => ?_
 refine .allocA zv30 r r fun b51 => ?_
 refine .ks 1 r (.nilS [8, 7, 6, 5, 0] r r (.sr (.ks 1 r (.loadW ia30 sz30 r (.s (.s (.s .z))) r r r (.loadW ia30 sz30 r (.s (.s .z)) r r r (.loadW ia30 sz30 r (.s .z) r r r ?_))))))
 have hw72 := W_ref15_Cells (I := I) R3 R6 R9 R12 R15 R18 R21 R24 R27 hd
 refine .call call10 r hw72 r r fun v67 I64 hl65 hv66 => ?_
 obtain ⟨r63, p69, c70, rfl, R71, hd⟩ := hv66
 replace R3 := R3.mono hl65
 replace R6 := R6.mono hl65
 replace R9 := R9.mono hl65
 replace R12 := R12.mono hl65
 replace R15 := R15.mono hl65
 replace R18 := R18.mono hl65
 replace R21 := R21.mono hl65
 replace R24 := R24.mono hl65
 replace R27 := R27.mono hl65
 refine .ks 5 r (.nilS [11, 10, 8, 6, 5, 0] r r (.drop (.s .z) (.seq (.sr (.ks 2 r (.nilS [21, 11, 10, 8, 6, 5, 0] r r (.condP r hd (fun hb74 hd => ?_) fun hb74 hd => ?_)))))))
 · exact .sr (.build zv30 un30 BI30 .n (by exact trivial) r r (.ks 1 r (.storeA sz30 r r .z (.t (.t (.t (.t (.t .nil))))) r r (.ks 1 r (.nilS [9, 8] r r (.drop (.s .z) (.drop (.s .z) (.ret (pret results12 (.w ia30 sz30 r .z r (.t r .n)) hl65 ⟨(({ Rows := 0, Cols := 0, Start := ([] : List Int), Col := ([] : List Int), Val := ([] : List Int) } : Rows), r63.2), _, _, _, _, _, _, r, (.nil _ _ _), (.nil _ _ _), (.nil _ _ _), hd⟩)))))))))
 refine .skipS [10, 8, 6, 5, 0] r r (.seq (.dr [0, 1, 4, 7, 2, 3, 5, 6, 8, 9, 10] 11 (.fk 1 r (.g r r r (fun _ => .loadW ia30 sz30 r (.s (.s .z)) r r r .mk) (.g r r r (fun _ => .loadW ia30 sz30 r (.s .z) r r r .mk) (.fk 1 r (.ww r fun ex => ?_)))))))
 have hw90 := W_ref07_Sure (I := I64) R3 R6 R9 hd
 refine .call call37 r hw90 r r fun v79 I76 hl77 hv78 => ?_
 obtain ⟨r75, p81, c82, p84, c85, p87, c88, rfl, R83, R86, R89, hd⟩ := hv78
 have le91 := IH.le.trans hl65 hl77
 replace R3 := R3.mono hl77
 replace R6 := R6.mono hl77
 replace R9 := R9.mono hl77
 replace R12 := R12.mono hl77
 replace R15 := R15.mono hl77
 replace R18 := R18.mono hl77
 replace R71 := R71.mono hl77
 refine .so 3 r r r (.ck 1 r r (.cg r r r r (fun _ => .loadW ia30 sz30 r (.s .z) r r r .mk) (.ck 1 r r trivial))) (.g r r r (fun _ => .field1 un30 r ia3 r r r r .mk) (.ww r fun ex => ?_))
 have hw107 := W_ref07_Sure (I := I76) R12 R15 R18 hd
 refine .call call37 r hw107 r r fun v96 I93 hl94 hv95 => ?_
 obtain ⟨r92, p98, c99, p101, c102, p104, c105, rfl, R100, R103, R106, hd⟩ := hv95
 have le108 := IH.le.trans le91 hl94
 replace R3 := R3.mono hl94
 replace R6 := R6.mono hl94
 replace R9 := R9.mono hl94
 replace R12 := R12.mono hl94
 replace R15 := R15.mono hl94
 replace R18 := R18.mono hl94
 replace R71 := R71.mono hl94
 replace R83 := R83.mono hl94
 replace R86 := R86.mono hl94
 replace R89 := R89.mono hl94
 refine .so 3 r r r (.cg r r r r (fun _ => .field1 un30 r ia3 r r r r .mk) (.ck 2 r r trivial)) (.g r r r (fun _ => .field1 un30 r ia3 r r r r .mk) (.ww r fun ex => ?_))
 have hw124 := W_ref15_Done (I := I93) R71 hd
 refine .call call21 r hw124 r r fun v113 I110 hl111 hv112 => ?_
 obtain ⟨r109, p115, c116, p118, c119, p121, c122, rfl, R117, R120, R123, hd⟩ := hv112
 have le125 := IH.le.trans le108 hl111
 replace R3 := R3.mono hl111
 replace R6 := R6.mono hl111
 replace R9 := R9.mono hl111
 replace R12 := R12.mono hl111
 replace R15 := R15.mono hl111
 replace R18 := R18.mono hl111
 replace R71 := R71.mono hl111
 replace R83 := R83.mono hl111
 replace R86 := R86.mono hl111
 replace R89 := R89.mono hl111
 replace R100 := R100.mono hl111
 replace R103 := R103.mono hl111
 replace R106 := R106.mono hl111
 exact .so 3 r r r trivial (.fk 2 r (.e2 11 (.storeA sz30 r r .z (.t (.t (.t (.t (.t .nil))))) r r (.ks 1 r (.nilS [9, 8] r r (.drop (.s .z) (.drop (.s .z) (.ret (pret results12 (.w ia30 sz30 r .z r (.t r .n)) le125 ⟨(r109.1, r109.2), _, _, _, _, _, _, r, R117, R120, R123, hd⟩)))))))))

theorem W_ref15_Total {I : IH} {a0 : Int} {a1 : Rows} {p1 : Option Addr} {c2 : Nat} {p4 : Option Addr} {c5 : Nat} {p7 : Option Addr} {c8 : Nat} {Q : (Int × Int) → Prop} (R3 : RepSl eI64 I p1 c2 a1.Start) (R6 : RepSl eI64 I p4 c5 a1.Col) (R9 : RepSl eI64 I p7 c8 a1.Val) (hd : ref15_Total a0 a1 Q) :
  PFun prog 14 [.int .i64 a0, .agg #[.int .i64 a1.Rows, .int .i64 a1.Cols, .slice p1 a1.Start.length c2, .slice p4 a1.Col.length c5, .slice p7 a1.Val.length c8]] I (fun _ => o8_ Q) := by
 refine Fun.enter func14 r ntmps14 r (.c (.c .n)) fun w0 M => ?_
 refine .sr (.boxA r r r fun b12 => ?_)
 refine .ks 2 r (.nilS [3, 0] r r (.sr (.loadW ia30 sz30 r .z r r r ?_)))
 have hw33 := W_ref07_Triples (I := I) R3 R6 R9 hd
 refine .call call39 r hw33 r r fun v28 I25 hl26 hv27 => ?_
 obtain ⟨r24, p30, c31, rfl, R32, hd⟩ := hv27
 replace R3 := R3.mono hl26
 replace R6 := R6.mono hl26
 replace R9 := R9.mono hl26
 refine .ks 1 r (.nilS [6, 0] r r (.drop .z (.seq (.sr (.ks 1 r ?_)))))
 have hw40 := W_ref02_Is (I := I25) hd
 refine .callP call38 r hw40 r r fun v41 hv42 => ?_
 obtain ⟨r39, rfl, hd⟩ := hv42
 refine .ks 1 r (.nilS [16, 6, 0] r r (.condP r hd (fun hb43 hd => ?_) fun hb43 hd => ?_))
 · exact .sr (.ks 2 r (.nilS [5, 4] r r (.ret (pret results14 (.t r (.t r .n)) hl26 ⟨(0, 8), r, hd⟩))))
 refine .skipS [6, 0] r r (.sr (.ks 1 r ?_))
 have hw55 := W_ref02_Zero (I := I25) hd
 refine .callP call49 r hw55 r r fun v56 hv57 => ?_
 obtain ⟨r54, rfl, hd⟩ := hv57
 have hw59 := W_ref01_Of (I := I25) hd
 refine .callP call48 r hw59 r r fun v60 hv61 => ?_
 obtain ⟨r58, rfl, hd⟩ := hv61
 refine .allocA zv57 r r fun b62 => ?_
 refine .storeA sz57 r r .z (.t (.t .nil)) r r (.nilS [7, 6, 0] r r (.seq (.sr (.ks 1 r (.nilS [8, 7, 6, 0] r r (.block (.loop hd (fun (s : Int × Int × Int) c w => match s with | (s264, s265, s266) => ∃ I_, IH.le I25 I_ ∧ Ok ⟨47, [], none⟩ [(0, .int .i64 a0), (6, .slice p30 r24.length c31), (7, .pointer (some ⟨b62, 0, none⟩)), (8, .int .i64 s266)] c ∧ Sym w0 M I I_ [pto b62 (.cells #[.int .i64 s264, .int .u64 s265] 57 (0, 0))] w) (fun c w ho hs => ⟨I25, (.refl _), ho.sub ⟨r, r, r, r, trivial⟩, hs.pick (.c .z .n)⟩) ?_)))))))
 rintro ⟨s264, s265, s266⟩ next267 hd c w hst
 obtain ⟨I268, hl269, hok, hsym⟩ := hst
 have le270 := IH.le.trans hl26 hl269
 replace R32 := R32.mono hl269
 refine Cod.at hok hsym (.seq (.sr (.ks 2 r (.len un24 r r r r (.ks 1 r (.nilS [23, 8, 7, 6, 0] r r (.condP r hd (fun hb272 hd => ?_) fun hb272 hd => ?_)))))))
 · refine .skipS [8, 7, 6, 0] r r (.seq (.block (.sr (.ks 2 r ?_))))
   obtain ⟨h288, x289, hx290, hd⟩ := hd
   obtain ⟨b291, o292, cs293, e294, hC295, hr296⟩ := R32.2 _ _ hx290
   cases hr296
   refine .ixa un24 sz91 r e294 r h288 (idx_lt hx290 h288) r r (.fa un91 r sz2 r (o := o292 + s266.toNat * 3 + 2) r r r (.ld1 (j := 2) ia2 hC295 r r r r r ?_))
   have hw298 := W_ref01_Of (I := I268) hd
   refine .callP call48 r hw298 r r fun v299 hv300 => ?_
   obtain ⟨r297, rfl, hd⟩ := hv300
   refine .allocA zv57 r r fun b301 => ?_
   refine .storeA sz57 r r .z (.t (.t .nil)) r r (.nilS [9, 8, 7, 6, 0] r r (.sr (.ks 2 r (.nilS [33, 9, 8, 7, 6, 0] r r (.condP r hd (fun hb303 hd => ?_) fun hb303 hd => ?_)))))
   · exact .region (.loadW ia57 sz57 r .z r r r (.storeA sz57 r r (.s .z) (.t (.t .nil)) r r (.nilS [8, 7, 6, 0] r r (.drop .z (.region (.ks 3 r (.nil' fun c w ho hs => ⟨(r297.Hi, r297.Lo, w64 (s266 + 1)), hd, I268, hl269, ho.sub ⟨r, r, r, r, trivial⟩, hs.pick (.c .z .n)⟩)))))))
   refine .region (.ks 1 r (.loadW ia57 sz57 r (.s .z) r r r (.loadW ia57 sz57 r .z r r r ?_)))
   have hw305 := W_ref02_Add (I := I268) hd
   refine .callP call42 r hw305 r r fun v306 hv307 => ?_
   obtain ⟨r304, rfl, hd⟩ := hv307
   exact .storeA sz57 r r (.s .z) (.t (.t .nil)) r r (.nilS [8, 7, 6, 0] r r (.drop .z (.region (.ks 3 r (.nil' fun c w ho hs => ⟨(r304.Hi, r304.Lo, w64 (s266 + 1)), hd, I268, hl269, ho.sub ⟨r, r, r, r, trivial⟩, hs.pick (.c .z .n)⟩)))))
 refine .exitS [7] r r (.sr (.loadW ia57 sz57 r .z r r r ?_))
 have hw313 := W_ref01_Narrow (I := I268) hd
 refine .callP call50 r hw313 r r fun v314 hv315 => ?_
 obtain ⟨r312, rfl, hd⟩ := hv315
 refine .ks 5 r (.nilS [11, 10] r r (.drop .z (.seq (.sr (.ks 2 r (.nilS [45, 10] r r (.condP r hd (fun hb316 hd => ?_) fun hb316 hd => ?_)))))))
 · exact .sr (.ks 2 r (.nilS [5, 4] r r (.ret (pret results14 (.t r (.t r .n)) le270 ⟨(0, 12), r, hd⟩))))
 exact .skipS [10] r r (.sr (.ks 3 r (.nilS [5, 4] r r (.ret (pret results14 (.t r (.t r .n)) le270 ⟨(r312.1, 0), r, hd⟩)))))

theorem W_ref15_SameCells {I : IH} {a0 : List Cell} {a1 : List Cell} {p1 : Option Addr} {c2 : Nat} {p4 : Option Addr} {c5 : Nat} {Q : Bool → Prop} (R3 : RepSl eCell I p1 c2 a0) (R6 : RepSl eCell I p4 c5 a1) (hd : ref15_SameCells a0 a1 Q) :
  PFun prog 16 [.slice p1 a0.length c2, .slice p4 a1.length c5] I (fun _ => o1_ Q) := by
 refine Fun.enter func16 r ntmps16 r (.c (.c .n)) fun w0 M => ?_
 refine .sr (.ks 1 r (.nilS [1, 0] r r (.seq (.sr (.ks 1 r (.len un33 r r r r (.ks 1 r (.len un33 r r r r (.ks 1 r ?_)))))))))
 refine .nilS [10, 1, 0] r r (.condP r hd (fun hb8 hd => ?_) fun hb8 hd => ?_)
 · exact .sr (.ks 1 r (.nilS [4] r r (.ret (pret results16 (.t r .n) (.refl _) ⟨false, r, hd⟩))))
 refine .skipS [1, 0] r r (.seq (.sr (.ks 1 r (.nilS [5, 1, 0] r r (.block (.loop hd (fun (s54 : Int) c w => ∃ I_, IH.le I I_ ∧ Ok ⟨26, [], none⟩ [(0, .slice p1 a0.length c2), (1, .slice p4 a1.length c5), (5, .int .i64 s54)] c ∧ Sym w0 M I I_ [] w) (fun c w ho hs => ⟨I, (.refl _), ho.sub ⟨r, r, r, trivial⟩, hs.pick .n⟩) ?_))))))
 rintro s54 next55 hd c w hst
 obtain ⟨I56, hl57, hok, hsym⟩ := hst
 replace R3 := R3.mono hl57
 replace R6 := R6.mono hl57
 refine Cod.at hok hsym (.seq (.sr (.ks 2 r (.len un33 r r r r (.ks 1 r (.nilS [14, 5, 1, 0] r r (.condP r hd (fun hb59 hd => ?_) fun hb59 hd => ?_)))))))
 · refine .skipS [5, 1, 0] r r (.seq (.block (.seq (.dr [0, 1, 2, 3, 4, 5, 6, 7, 8] 9 (.fk 2 r ?_)))))
   obtain ⟨h60, x61, hx62, hd⟩ := hd
   obtain ⟨b63, o64, cs65, e66, hC67, hr68⟩ := R3.2 _ _ hx62
   cases hr68
   refine .g r r r (fun _ => .ixa un33 sz59 r e66 r h60 (idx_lt hx62 h60) r r .mk) (.g r r r (fun _ => .ldW ia59 sz59 hC67 r r r r .mk) (.fk 2 r ?_))
   obtain ⟨h69, x70, hx71, hd⟩ := hd
   obtain ⟨b72, o73, cs74, e75, hC76, hr77⟩ := R6.2 _ _ hx71
   cases hr77
   refine .g r r r (fun _ => .ixa un33 sz59 r e75 r h69 (idx_lt hx71 h69) r r .mk) (.g r r r (fun _ => .ldW ia59 sz59 hC76 r r r r .mk) (.g r r r (fun _ => .neV r r (EQ59 x61 x70) (EG59 _ _ _ _ _) r r r .mk) (.e2 9 (.nilS [25, 5, 1, 0] r r (.condP r hd (fun hb78 hd => ?_) fun hb78 hd => ?_)))))
   · exact .sr (.ks 1 r (.nilS [4] r r (.ret (pret results16 (.t r .n) hl57 ⟨false, r, hd⟩))))
   exact .skipS [5, 1, 0] r r (.region (.ks 3 r (.nil' fun c w ho hs => ⟨(w64 (s54 + 1)), hd, I56, hl57, ho.sub ⟨r, r, r, trivial⟩, hs.pick .n⟩)))
 exact .exitS [] r r (.sr (.ks 1 r (.nilS [4] r r (.ret (pret results16 (.t r .n) hl57 ⟨true, r, hd⟩)))))

theorem W_ref03_SameInts {I : IH} {a0 : List Int} {a1 : List Int} {p1 : Option Addr} {c2 : Nat} {p4 : Option Addr} {c5 : Nat} {Q : Bool → Prop} (R3 : RepSl eI64 I p1 c2 a0) (R6 : RepSl eI64 I p4 c5 a1) (hd : ref03_SameInts a0 a1 Q) :
  PFun prog 52 [.slice p1 a0.length c2, .slice p4 a1.length c5] I (fun _ => o1_ Q) := by
 refine Fun.enter func52 r ntmps52 r (.c (.c .n)) fun w0 M => ?_
 refine .sr (.ks 1 r (.nilS [1, 0] r r (.seq (.sr (.ks 1 r (.len un27 r r r r (.ks 1 r (.len un27 r r r r (.ks 1 r ?_)))))))))
 refine .nilS [10, 1, 0] r r (.condP r hd (fun hb8 hd => ?_) fun hb8 hd => ?_)
 · exact .sr (.ks 1 r (.nilS [4] r r (.ret (pret results52 (.t r .n) (.refl _) ⟨false, r, hd⟩))))
 refine .skipS [1, 0] r r (.seq (.sr (.ks 1 r (.nilS [5, 1, 0] r r (.block (.loop hd (fun (s54 : Int) c w => ∃ I_, IH.le I I_ ∧ Ok ⟨26, [], none⟩ [(0, .slice p1 a0.length c2), (1, .slice p4 a1.length c5), (5, .int .i64 s54)] c ∧ Sym w0 M I I_ [] w) (fun c w ho hs => ⟨I, (.refl _), ho.sub ⟨r, r, r, trivial⟩, hs.pick .n⟩) ?_))))))
 rintro s54 next55 hd c w hst
 obtain ⟨I56, hl57, hok, hsym⟩ := hst
 replace R3 := R3.mono hl57
 replace R6 := R6.mono hl57
 refine Cod.at hok hsym (.seq (.sr (.ks 2 r (.len un27 r r r r (.ks 1 r (.nilS [14, 5, 1, 0] r r (.condP r hd (fun hb59 hd => ?_) fun hb59 hd => ?_)))))))
 · refine .skipS [5, 1, 0] r r (.seq (.block (.seq (.dr [0, 1, 2, 3, 4, 5, 6, 7, 8] 9 (.fk 2 r ?_)))))
   obtain ⟨h60, x61, hx62, hd⟩ := hd
   obtain ⟨b63, o64, cs65, e66, hC67, hr68⟩ := R3.2 _ _ hx62
   cases hr68
   refine .g r r r (fun _ => .ixa un27 sz3 r e66 r h60 (idx_lt hx62 h60) r r .mk) (.g r r r (fun _ => .ld1 (j := 0) ia3 hC67 r r r r r .mk) (.fk 2 r ?_))
   obtain ⟨h69, x70, hx71, hd⟩ := hd
   obtain ⟨b72, o73, cs74, e75, hC76, hr77⟩ := R6.2 _ _ hx71
   cases hr77
   refine .g r r r (fun _ => .ixa un27 sz3 r e75 r h69 (idx_lt hx71 h69) r r .mk) (.g r r r (fun _ => .ld1 (j := 0) ia3 hC76 r r r r r .mk) (.fk 1 r (.e2 9 (.nilS [25, 5, 1, 0] r r (.condP r hd (fun hb78 hd => ?_) fun hb78 hd => ?_)))))
   · exact .sr (.ks 1 r (.nilS [4] r r (.ret (pret results52 (.t r .n) hl57 ⟨false, r, hd⟩))))
   exact .skipS [5, 1, 0] r r (.region (.ks 3 r (.nil' fun c w ho hs => ⟨(w64 (s54 + 1)), hd, I56, hl57, ho.sub ⟨r, r, r, trivial⟩, hs.pick .n⟩)))
 exact .exitS [] r r (.sr (.ks 1 r (.nilS [4] r r (.ret (pret results52 (.t r .n) hl57 ⟨true, r, hd⟩)))))

theorem W_ref07_SameVals {I : IH} {a0 : List Int} {a1 : List Int} {p1 : Option Addr} {c2 : Nat} {p4 : Option Addr} {c5 : Nat} {Q : Bool → Prop} (R3 : RepSl eI64 I p1 c2 a0) (R6 : RepSl eI64 I p4 c5 a1) (hd : ref07_SameVals a0 a1 Q) :
  PFun prog 53 [.slice p1 a0.length c2, .slice p4 a1.length c5] I (fun _ => o1_ Q) := by
 refine Fun.enter func53 r ntmps53 r (.c (.c .n)) fun w0 M => ?_
 refine .sr (.ks 1 r (.nilS [1, 0] r r (.seq (.sr (.ks 1 r (.len un28 r r r r (.ks 1 r (.len un28 r r r r (.ks 1 r ?_)))))))))
 refine .nilS [10, 1, 0] r r (.condP r hd (fun hb8 hd => ?_) fun hb8 hd => ?_)
 · exact .sr (.ks 1 r (.nilS [4] r r (.ret (pret results53 (.t r .n) (.refl _) ⟨false, r, hd⟩))))
 refine .skipS [1, 0] r r (.seq (.sr (.ks 1 r (.nilS [5, 1, 0] r r (.block (.loop hd (fun (s54 : Int) c w => ∃ I_, IH.le I I_ ∧ Ok ⟨26, [], none⟩ [(0, .slice p1 a0.length c2), (1, .slice p4 a1.length c5), (5, .int .i64 s54)] c ∧ Sym w0 M I I_ [] w) (fun c w ho hs => ⟨I, (.refl _), ho.sub ⟨r, r, r, trivial⟩, hs.pick .n⟩) ?_))))))
 rintro s54 next55 hd c w hst
 obtain ⟨I56, hl57, hok, hsym⟩ := hst
 replace R3 := R3.mono hl57
 replace R6 := R6.mono hl57
 refine Cod.at hok hsym (.seq (.sr (.ks 2 r (.len un28 r r r r (.ks 1 r (.nilS [14, 5, 1, 0] r r (.condP r hd (fun hb59 hd => ?_) fun hb59 hd => ?_)))))))
 · refine .skipS [5, 1, 0] r r (.seq (.block (.seq (.dr [0, 1, 2, 3, 4, 5, 6, 7, 8] 9 (.fk 2 r ?_)))))
   obtain ⟨h60, x61, hx62, hd⟩ := hd
   obtain ⟨b63, o64, cs65, e66, hC67, hr68⟩ := R3.2 _ _ hx62
   cases hr68
   refine .g r r r (fun _ => .ixa un28 sz2 r e66 r h60 (idx_lt hx62 h60) r r .mk) (.g r r r (fun _ => .ld1 (j := 0) ia2 hC67 r r r r r .mk) (.fk 2 r ?_))
   obtain ⟨h69, x70, hx71, hd⟩ := hd
   obtain ⟨b72, o73, cs74, e75, hC76, hr77⟩ := R6.2 _ _ hx71
   cases hr77
   refine .g r r r (fun _ => .ixa un28 sz2 r e75 r h69 (idx_lt hx71 h69) r r .mk) (.g r r r (fun _ => .ld1 (j := 0) ia2 hC76 r r r r r .mk) (.fk 1 r (.e2 9 (.nilS [25, 5, 1, 0] r r (.condP r hd (fun hb78 hd => ?_) fun hb78 hd => ?_)))))
   · exact .sr (.ks 1 r (.nilS [4] r r (.ret (pret results53 (.t r .n) hl57 ⟨false, r, hd⟩))))
   exact .skipS [5, 1, 0] r r (.region (.ks 3 r (.nil' fun c w ho hs => ⟨(w64 (s54 + 1)), hd, I56, hl57, ho.sub ⟨r, r, r, trivial⟩, hs.pick .n⟩)))
 exact .exitS [] r r (.sr (.ks 1 r (.nilS [4] r r (.ret (pret results53 (.t r .n) hl57 ⟨true, r, hd⟩)))))

theorem W_ref07_Same {I : IH} {a0 : Rows} {a1 : Rows} {p1 : Option Addr} {c2 : Nat} {p4 : Option Addr} {c5 : Nat} {p7 : Option Addr} {c8 : Nat} {p10 : Option Addr} {c11 : Nat} {p13 : Option Addr} {c14 : Nat} {p16 : Option Addr} {c17 : Nat} {Q : Bool → Prop} (R3 : RepSl eI64 I p1 c2 a0.Start) (R6 : RepSl eI64 I p4 c5 a0.Col) (R9 : RepSl eI64 I p7 c8 a0.Val) (R12 : RepSl eI64 I p10 c11 a1.Start) (R15 : RepSl eI64 I p13 c14 a1.Col) (R18 : RepSl eI64 I p16 c17 a1.Val) (hd : ref07_Same a0 a1 Q) :
  PFun prog 17 [.agg #[.int .i64 a0.Rows, .int .i64 a0.Cols, .slice p1 a0.Start.length c2, .slice p4 a0.Col.length c5, .slice p7 a0.Val.length c8], .agg #[.int .i64 a1.Rows, .int .i64 a1.Cols, .slice p10 a1.Start.length c11, .slice p13 a1.Col.length c14, .slice p16 a1.Val.length c17]] I (fun _ => o1_ Q) := by
 refine Fun.enter func17 r ntmps17 r (.c (.c .n)) fun w0 M => ?_
 refine .sr (.boxA r r r fun b23 => ?_)
 refine .boxA r r r fun b25 => ?_
 refine .ks 1 r (.nilS [3, 2] r r (.sr (.fa un30 r sz3 r (o := 0) r r r (.load1 ia3 r (.s .z) r r r (.fa un30 r sz3 r (o := 0) r r r (.load1 ia3 r .z r r r (.ks 2 r ?_)))))))
 refine splitP hd (fun hb27 hd => ?_) fun hb27 hd => ?_
 · rw [hb27]
   refine .gyes r r r (.fa un30 r sz3 r (o := 1) r r r (.gyes r r r (.load1 ia3 r (.s .z) r r r (.gyes r r r (.fa un30 r sz3 r (o := 1) r r r (.gyes r r r (.load1 ia3 r .z r r r (.ks 3 r ?_))))))))
   refine splitP hd (fun hb28 hd => ?_) fun hb28 hd => ?_
   · rw [hb28]
     refine .gyes r r r (.fa un30 r sz27 r (o := 2) r r r (.gyes r r r (.load1 ia27 r (.s .z) r r r (.gyes r r r (.fa un30 r sz27 r (o := 2) r r r (.gyes r r r (.load1 ia27 r .z r r r ?_)))))))
     have hw30 := W_ref03_SameInts (I := I) R3 R12 hd
     refine .gyes r r r (.callP call52 r hw30 r r fun v31 hv32 => ?_)
     obtain ⟨r29, rfl, hd⟩ := hv32
     refine .ks 2 r ?_
     refine splitP hd (fun hb33 hd => ?_) fun hb33 hd => ?_
     · rw [hb33]
       refine .gyes r r r (.fa un30 r sz27 r (o := 3) r r r (.gyes r r r (.load1 ia27 r (.s .z) r r r (.gyes r r r (.fa un30 r sz27 r (o := 3) r r r (.gyes r r r (.load1 ia27 r .z r r r ?_)))))))
       have hw35 := W_ref03_SameInts (I := I) R6 R15 hd
       refine .gyes r r r (.callP call52 r hw35 r r fun v36 hv37 => ?_)
       obtain ⟨r34, rfl, hd⟩ := hv37
       refine .ks 2 r ?_
       refine splitP hd (fun hb38 hd => ?_) fun hb38 hd => ?_
       · rw [hb38]
         refine .gyes r r r (.fa un30 r sz28 r (o := 4) r r r (.gyes r r r (.load1 ia28 r (.s .z) r r r (.gyes r r r (.fa un30 r sz28 r (o := 4) r r r (.gyes r r r (.load1 ia28 r .z r r r ?_)))))))
         have hw40 := W_ref07_SameVals (I := I) R9 R18 hd
         refine .gyes r r r (.callP call53 r hw40 r r fun v41 hv42 => ?_)
         obtain ⟨r39, rfl, hd⟩ := hv42
         exact .ks 2 r (.nilS [4] r r (.drop .z (.drop .z (.ret (pret results17 (.t r .n) (.refl _) ⟨r39, r, hd⟩)))))
       rw [hb38]
       exact .ks 7 r (.nilS [4] r r (.drop .z (.drop .z (.ret (pret results17 (.t r .n) (.refl _) ⟨false, r, hd⟩)))))
     rw [hb33]
     exact .ks 14 r (.nilS [4] r r (.drop .z (.drop .z (.ret (pret results17 (.t r .n) (.refl _) ⟨false, r, hd⟩)))))
   rw [hb28]
   exact .ks 21 r (.nilS [4] r r (.drop .z (.drop .z (.ret (pret results17 (.t r .n) (.refl _) ⟨false, r, hd⟩)))))
 rw [hb27]
 exact .ks 28 r (.nilS [4] r r (.drop .z (.drop .z (.ret (pret results17 (.t r .n) (.refl _) ⟨false, r, hd⟩)))))

theorem W_law15_GemmTells {I : IH} {a0 : Law15_Task} {p1 : Option Addr} {c2 : Nat} {p4 : Option Addr} {c5 : Nat} {p7 : Option Addr} {c8 : Nat} {Q : Bool → Prop} (R3 : RepSl eTriple I p1 c2 a0.A) (R6 : RepSl eTriple I p4 c5 a0.B) (R9 : RepSl eTriple I p7 c8 a0.M) (hd : law15_GemmTells a0 Q) :
  PFun prog 3 [.agg #[.int .i64 a0.Ring, .int .u8 a0.Size.1, .int .u8 a0.Size.2.1, .int .u8 a0.Size.2.2, .slice p1 a0.A.length c2, .slice p4 a0.B.length c5, .slice p7 a0.M.length c8]] I (fun _ => o1_ Q) := by
 refine Fun.enter func3 r ntmps3 r (.c .n) fun w0 M => ?_
 refine .sr (.boxA r r r fun b12 => ?_)
 refine .ks 1 r (.nilS [1] r r (.sr (.loadW isAgg26 sizeOf26 r .z r r r ?_)))
 have hw83 := W_law15_Task_Three (I := I) R3 R6 R9 hd
 refine .call call8 r hw83 r r fun v54 I51 hl52 hv53 => ?_
 obtain ⟨r50, p56, c57, p59, c60, p62, c63, p65, c66, p68, c69, p71, c72, p74, c75, p77, c78, p80, c81, rfl, R58, R61, R64, R67, R70, R73, R76, R79, R82, hd⟩ := hv53
 replace R3 := R3.mono hl52
 replace R6 := R6.mono hl52
 replace R9 := R9.mono hl52
 refine .allocA zv31 r r fun b84 => ?_
 refine .storeA sizeOf31 r r .z (.t (.t (.t (.t (.t (.t (.t (.t (.t (.t (.t (.t (.t (.t (.t .nil))))))))))))))) r r (.nilS [3, 1] r r (.sr (.fa un26 r sz22 r (o := 0) r r r (.load1 ia22 r (.s .z) r r r (.ixArr (i := 0) un31 sz30 r r (by decide) (o := 0) r r r (.loadA ia30 sz30 r .z (.t (.t (.t (.t (.t .nil))))) r r r (.ixArr (i := 1) un31 sz30 r r (by decide) (o := 5) r r r (.loadA ia30 sz30 r .z (.s (.s (.s (.s (.s (.t (.t (.t (.t (.t .nil)))))))))) r r r (.ixArr (i := 2) un31 sz30 r r (by decide) (o := 10) r r r ?_)))))))))
 refine .loadA ia30 sz30 r .z (.s (.s (.s (.s (.s (.s (.s (.s (.s (.s (.t (.t (.t (.t (.t .nil))))))))))))))) r r r ?_
 have hw106 := W_gemm_Cells (I := I51) R58 R61 R64 R67 R70 R73 R76 R79 R82 hd
 refine .call call9 r hw106 r r fun v101 I98 hl99 hv100 => ?_
 obtain ⟨r97, p103, c104, rfl, R105, hd⟩ := hv100
 have le107 := IH.le.trans hl52 hl99
 replace R3 := R3.mono hl99
 replace R6 := R6.mono hl99
 replace R9 := R9.mono hl99
 replace R58 := R58.mono hl99
 replace R61 := R61.mono hl99
 replace R64 := R64.mono hl99
 replace R67 := R67.mono hl99
 replace R70 := R70.mono hl99
 replace R73 := R73.mono hl99
 replace R76 := R76.mono hl99
 replace R79 := R79.mono hl99
 replace R82 := R82.mono hl99
 refine .ks 5 r (.nilS [5, 4, 3, 1] r r (.sr (.fa un26 r sz22 r (o := 0) r r r (.load1 ia22 r (.s .z) r r r (.ixArr (i := 0) un31 sz30 r r (by decide) (o := 0) r r r (.loadA ia30 sz30 r .z (.t (.t (.t (.t (.t .nil))))) r r r (.ixArr (i := 1) un31 sz30 r r (by decide) (o := 5) r r r (.loadA ia30 sz30 r .z (.s (.s (.s (.s (.s (.t (.t (.t (.t (.t .nil)))))))))) r r r (.ixArr (i := 2) un31 sz30 r r (by decide) (o := 10) r r r ?_)))))))))
 refine .loadA ia30 sz30 r .z (.s (.s (.s (.s (.s (.s (.s (.s (.s (.s (.t (.t (.t (.t (.t .nil))))))))))))))) r r r ?_
 have hw128 := W_ref15_Cells (I := I98) R58 R61 R64 R67 R70 R73 R76 R79 R82 hd
 refine .call call10 r hw128 r r fun v123 I120 hl121 hv122 => ?_
 obtain ⟨r119, p125, c126, rfl, R127, hd⟩ := hv122
 have le129 := IH.le.trans le107 hl121
 replace R3 := R3.mono hl121
 replace R6 := R6.mono hl121
 replace R9 := R9.mono hl121
 replace R58 := R58.mono hl121
 replace R61 := R61.mono hl121
 replace R64 := R64.mono hl121
 replace R67 := R67.mono hl121
 replace R70 := R70.mono hl121
 replace R73 := R73.mono hl121
 replace R76 := R76.mono hl121
 replace R79 := R79.mono hl121
 replace R82 := R82.mono hl121
 replace R105 := R105.mono hl121
 refine .ks 5 r (.nilS [7, 6, 5, 4, 3, 1] r r (.sr (.fa un26 r sz22 r (o := 0) r r r (.load1 ia22 r (.s .z) r r r (.ixArr (i := 0) un31 sz30 r r (by decide) (o := 0) r r r (.loadA ia30 sz30 r .z (.t (.t (.t (.t (.t .nil))))) r r r (.ixArr (i := 1) un31 sz30 r r (by decide) (o := 5) r r r (.loadA ia30 sz30 r .z (.s (.s (.s (.s (.s (.t (.t (.t (.t (.t .nil)))))))))) r r r (.ixArr (i := 2) un31 sz30 r r (by decide) (o := 10) r r r ?_)))))))))
 refine .loadA ia30 sz30 r .z (.s (.s (.s (.s (.s (.s (.s (.s (.s (.s (.t (.t (.t (.t (.t .nil))))))))))))))) r r r ?_
 have hw164 := W_gemm_Times (I := I120) R58 R61 R64 R67 R70 R73 R76 R79 R82 hd
 refine .call call11 r hw164 r r fun v153 I150 hl151 hv152 => ?_
 obtain ⟨r149, p155, c156, p158, c159, p161, c162, rfl, R157, R160, R163, hd⟩ := hv152
 have le165 := IH.le.trans le129 hl151
 replace R3 := R3.mono hl151
 replace R6 := R6.mono hl151
 replace R9 := R9.mono hl151
 replace R58 := R58.mono hl151
 replace R61 := R61.mono hl151
 replace R64 := R64.mono hl151
 replace R67 := R67.mono hl151
 replace R70 := R70.mono hl151
 replace R73 := R73.mono hl151
 replace R76 := R76.mono hl151
 replace R79 := R79.mono hl151
 replace R82 := R82.mono hl151
 replace R105 := R105.mono hl151
 replace R127 := R127.mono hl151
 refine .ks 3 r (.allocA zv30 r r fun b166 => ?_)
 refine .storeA sz30 r r .z (.t (.t (.t (.t (.t .nil))))) r r (.ks 1 r (.nilS [9, 8, 7, 6, 5, 4, 3, 1] r r (.sr (.fa un26 r sz22 r (o := 0) r r r (.load1 ia22 r (.s (.s .z)) r r r (.ixArr (i := 0) un31 sz30 r r (by decide) (o := 0) r r r (.loadA ia30 sz30 r (.s .z) (.t (.t (.t (.t (.t .nil))))) r r r (.ixArr (i := 1) un31 sz30 r r (by decide) (o := 5) r r r (.loadA ia30 sz30 r (.s .z) (.s (.s (.s (.s (.s (.t (.t (.t (.t (.t .nil)))))))))) r r r ?_)))))))))
 refine .ixArr (i := 2) un31 sz30 r r (by decide) (o := 10) r r r (.loadA ia30 sz30 r (.s .z) (.s (.s (.s (.s (.s (.s (.s (.s (.s (.s (.t (.t (.t (.t (.t .nil))))))))))))))) r r r ?_)
 have hw202 := W_ref15_Times (I := I150) R58 R61 R64 R67 R70 R73 R76 R79 R82 hd
 refine .call call12 r hw202 r r fun v191 I188 hl189 hv190 => ?_
 obtain ⟨r187, p193, c194, p196, c197, p199, c200, rfl, R195, R198, R201, hd⟩ := hv190
 have le203 := IH.le.trans le165 hl189
 replace R3 := R3.mono hl189
 replace R6 := R6.mono hl189
 replace R9 := R9.mono hl189
 replace R58 := R58.mono hl189
 replace R61 := R61.mono hl189
 replace R64 := R64.mono hl189
 replace R67 := R67.mono hl189
 replace R70 := R70.mono hl189
 replace R73 := R73.mono hl189
 replace R76 := R76.mono hl189
 replace R79 := R79.mono hl189
 replace R82 := R82.mono hl189
 replace R105 := R105.mono hl189
 replace R127 := R127.mono hl189
 replace R157 := R157.mono hl189
 replace R160 := R160.mono hl189
 replace R163 := R163.mono hl189
 refine .ks 3 r (.allocA zv30 r r fun b204 => ?_)
 refine .storeA sz30 r r .z (.t (.t (.t (.t (.t .nil))))) r r (.ks 1 r (.nilS [11, 10, 9, 8, 7, 6, 5, 4, 3, 1] r r (.sr (.fa un26 r sz22 r (o := 0) r r r (.load1 ia22 r (.s (.s (.s .z))) r r r (.ixArr (i := 0) un31 sz30 r r (by decide) (o := 0) r r r (.loadA ia30 sz30 r (.s (.s .z)) (.t (.t (.t (.t (.t .nil))))) r r r ?_)))))))
 have hw211 := W_gemm_Total (I := I188) R58 R61 R64 hd
 refine .callP call13 r hw211 r r fun v212 hv213 => ?_
 obtain ⟨r210, rfl, hd⟩ := hv213
 refine .ks 5 r (.nilS [13, 12, 11, 10, 9, 8, 7, 6, 5, 4, 3, 1] r r (.sr (.fa un26 r sz22 r (o := 0) r r r (.load1 ia22 r (.s (.s (.s .z))) r r r (.ixArr (i := 0) un31 sz30 r r (by decide) (o := 0) r r r (.loadA ia30 sz30 r (.s (.s .z)) (.t (.t (.t (.t (.t .nil))))) r r r ?_))))))
 have hw219 := W_ref15_Total (I := I188) R58 R61 R64 hd
 refine .callP call14 r hw219 r r fun v220 hv221 => ?_
 obtain ⟨r218, rfl, hd⟩ := hv221
 refine .ks 5 r (.nilS [15, 14, 13, 12, 11, 10, 9, 8, 7, 6, 5, 4, 3, 1] r r (.sr (.fa un26 r sz22 r (o := 0) r r r (.load1 ia22 r (.s (.s (.s .z))) r r r (.ixArr (i := 0) un31 sz30 r r (by decide) (o := 0) r r r (.loadA ia30 sz30 r (.s (.s .z)) (.t (.t (.t (.t (.t .nil))))) r r r (.ixArr (i := 2) un31 sz30 r r (by decide) (o := 10) r r r (.loadA ia30 sz30 r (.s (.s .z)) (.s (.s (.s (.s (.s (.s (.s (.s (.s (.s (.t (.t (.t (.t (.t .nil))))))))))))))) r r r (.ixArr (i := 1) un31 sz30 r r (by decide) (o := 5) r r r ?_)))))))))
 refine .loadA ia30 sz30 r (.s (.s .z)) (.s (.s (.s (.s (.s (.t (.t (.t (.t (.t .nil)))))))))) r r r ?_
 have hw242 := W_gemm_Cells (I := I188) R58 R61 R64 R76 R79 R82 R67 R70 R73 hd
 refine .call call9 r hw242 r r fun v237 I234 hl235 hv236 => ?_
 obtain ⟨r233, p239, c240, rfl, R241, hd⟩ := hv236
 have le243 := IH.le.trans le203 hl235
 replace R3 := R3.mono hl235
 replace R6 := R6.mono hl235
 replace R9 := R9.mono hl235
 replace R58 := R58.mono hl235
 replace R61 := R61.mono hl235
 replace R64 := R64.mono hl235
 replace R67 := R67.mono hl235
 replace R70 := R70.mono hl235
 replace R73 := R73.mono hl235
 replace R76 := R76.mono hl235
 replace R79 := R79.mono hl235
 replace R82 := R82.mono hl235
 replace R105 := R105.mono hl235
 replace R127 := R127.mono hl235
 replace R157 := R157.mono hl235
 replace R160 := R160.mono hl235
 replace R163 := R163.mono hl235
 replace R195 := R195.mono hl235
 replace R198 := R198.mono hl235
 replace R201 := R201.mono hl235
 refine .ks 5 r (.nilS [17, 15, 14, 13, 12, 11, 10, 9, 8, 7, 6, 5, 4, 3, 1] r r (.sr (.fa un26 r sz22 r (o := 0) r r r (.load1 ia22 r (.s (.s (.s .z))) r r r (.ixArr (i := 0) un31 sz30 r r (by decide) (o := 0) r r r (.loadA ia30 sz30 r (.s (.s .z)) (.t (.t (.t (.t (.t .nil))))) r r r (.ixArr (i := 2) un31 sz30 r r (by decide) (o := 10) r r r (.loadA ia30 sz30 r (.s (.s .z)) (.s (.s (.s (.s (.s (.s (.s (.s (.s (.s (.t (.t (.t (.t (.t .nil))))))))))))))) r r r (.ixArr (i := 1) un31 sz30 r r (by decide) (o := 5) r r r ?_)))))))))
 refine .loadA ia30 sz30 r (.s (.s .z)) (.s (.s (.s (.s (.s (.t (.t (.t (.t (.t .nil)))))))))) r r r ?_
 have hw264 := W_ref15_Cells (I := I234) R58 R61 R64 R76 R79 R82 R67 R70 R73 hd
 refine .call call10 r hw264 r r fun v259 I256 hl257 hv258 => ?_
 obtain ⟨r255, p261, c262, rfl, R263, hd⟩ := hv258
 have le265 := IH.le.trans le243 hl257
 replace R3 := R3.mono hl257
 replace R6 := R6.mono hl257
 replace R9 := R9.mono hl257
 replace R58 := R58.mono hl257
 replace R61 := R61.mono hl257
 replace R64 := R64.mono hl257
 replace R67 := R67.mono hl257
 replace R70 := R70.mono hl257
 replace R73 := R73.mono hl257
 replace R76 := R76.mono hl257
 replace R79 := R79.mono hl257
 replace R82 := R82.mono hl257
 replace R105 := R105.mono hl257
 replace R127 := R127.mono hl257
 replace R157 := R157.mono hl257
 replace R160 := R160.mono hl257
 replace R163 := R163.mono hl257
 replace R195 := R195.mono hl257
 replace R198 := R198.mono hl257
 replace R201 := R201.mono hl257
 refine .ks 5 r (.nilS [19, 17, 15, 14, 13, 12, 11, 10, 9, 8, 7, 6, 5, 4] r r (.drop (.s (.s .z)) (.drop (.s (.s .z)) (.sr ?_))))
 have hw267 := W_law15_live (I := I256) hd
 refine .callP call15 r hw267 r r fun v268 hv269 => ?_
 obtain ⟨r266, rfl, hd⟩ := hv269
 refine .ks 1 r ?_
 refine splitP hd (fun hb270 hd => ?_) fun hb270 hd => ?_
 · rw [hb270]
   refine .ks 2 r ?_
   have hw272 := W_ref15_SameCells (I := I256) R105 R127 hd
   refine .gyes r r r (.callP call16 r hw272 r r fun v273 hv274 => ?_)
   obtain ⟨r271, rfl, hd⟩ := hv274
   refine .ks 2 r ?_
   refine splitP hd (fun hb275 hd => ?_) fun hb275 hd => ?_
   · rw [hb275]
     refine .ks 5 r ?_
     refine splitP hd (fun hb276 hd => ?_) fun hb276 hd => ?_
     · rw [hb276]
       refine .gyes r r r (.loadW ia30 sz30 r (.s .z) r r r (.gyes r r r (.loadW ia30 sz30 r .z r r r ?_)))
       have hw278 := W_ref07_Same (I := I256) R157 R160 R163 R195 R198 R201 hd
       refine .gyes r r r (.callP call17 r hw278 r r fun v279 hv280 => ?_)
       obtain ⟨r277, rfl, hd⟩ := hv280
       refine .ks 2 r ?_
       refine splitP hd (fun hb281 hd => ?_) fun hb281 hd => ?_
       · rw [hb281]
         refine .ks 5 r ?_
         refine splitP hd (fun hb282 hd => ?_) fun hb282 hd => ?_
         · rw [hb282]
           refine .ks 5 r ?_
           refine splitP hd (fun hb283 hd => ?_) fun hb283 hd => ?_
           · rw [hb283]
             refine .ks 5 r ?_
             refine splitP hd (fun hb284 hd => ?_) fun hb284 hd => ?_
             · rw [hb284]
               exact .ks 5 r (.nilS [2] r r (.drop .z (.drop .z (.ret (pret results3 (.t r .n) le265 ⟨(r233.2 == r255.2), r, hd⟩)))))
             rw [hb284]
             exact .ks 5 r (.nilS [2] r r (.drop .z (.drop .z (.ret (pret results3 (.t r .n) le265 ⟨false, r, hd⟩)))))
           rw [hb283]
           exact .ks 10 r (.nilS [2] r r (.drop .z (.drop .z (.ret (pret results3 (.t r .n) le265 ⟨false, r, hd⟩)))))
         rw [hb282]
         exact .ks 15 r (.nilS [2] r r (.drop .z (.drop .z (.ret (pret results3 (.t r .n) le265 ⟨false, r, hd⟩)))))
       rw [hb281]
       exact .ks 20 r (.nilS [2] r r (.drop .z (.drop .z (.ret (pret results3 (.t r .n) le265 ⟨false, r, hd⟩)))))
     rw [hb276]
     exact .ks 25 r (.nilS [2] r r (.drop .z (.drop .z (.ret (pret results3 (.t r .n) le265 ⟨false, r, hd⟩)))))
   rw [hb275]
   exact .ks 30 r (.nilS [2] r r (.drop .z (.drop .z (.ret (pret results3 (.t r .n) le265 ⟨false, r, hd⟩)))))
 rw [hb270]
 exact .ks 35 r (.nilS [2] r r (.drop .z (.drop .z (.ret (pret results3 (.t r .n) le265 ⟨false, r, hd⟩)))))

end Go.Proofs.YtjabmpfcpekpdaaGreat
