/- The walks (printed by a program of ours). -/
import Derived.Test.YtjabmpfcpekpdaaGreatV2
namespace Go.Proofs.YtjabmpfcpekpdaaGreat
open Go Go.Fw
set_option linter.unusedVariables false
set_option linter.unusedSimpArgs false
set_option maxRecDepth 8000
set_option maxHeartbeats 1000000
open Tryz
theorem W_law15_small {I : IH} {a0 : Int} {Q : Int → Prop}  (hd : law15_small a0 Q) :
  PFun prog 31 [.int .u8 a0] I (fun I_ v => ∃ r, v = .int .u8 r ∧ Q r) := by
 refine Fun.enter func31 r ntmps31 r (.c .n) fun w0 M => ?_
 exact .sr (.ks 1 r (.nilS [0] r r (.sr (.ks 1 r (.rem r r (by decide) r r (.ks 1 r (.nilS [2] r r (.ret (pret results31 (.t r .n) (.refl _) ⟨(a0.tmod 14), r, hd⟩)))))))))

theorem W_law13_Right {I : IH} {a0 : Int} {Q : Int → Prop}  (hd : law13_Right a0 Q) :
  PFun prog 22 [.int .i64 a0] I (fun _ => o0_ Q) := by
 refine Fun.enter func22 r ntmps22 r (.c .n) fun w0 M => ?_
 refine .sr (.ks 1 r (.nilS [0] r r (.seq (.sr (.ks 3 r ?_)))))
 refine splitP hd (fun hb1 hd => ?_) fun hb1 hd => ?_
 · rw [hb1]
   exact .ks 3 r (.nilS [8, 0] r r (.condKT r r (.sr (.ks 1 r (.nilS [2] r r (.ret (pret results22 (.t r .n) (.refl _) ⟨1, r, hd⟩)))))))
 rw [hb1]
 refine .ks 3 r (.nilS [8, 0] r r (.condP r hd (fun hb2 hd => ?_) fun hb2 hd => ?_))
 · exact .sr (.ks 1 r (.nilS [2] r r (.ret (pret results22 (.t r .n) (.refl _) ⟨1, r, hd⟩))))
 exact .skipS [0] r r (.sr (.ks 2 r (.nilS [2] r r (.ret (pret results22 (.t r .n) (.refl _) ⟨a0, r, hd⟩)))))

theorem W_law07_Size {I : IH} {a0 : Int} {Q : Int → Prop}  (hd : law07_Size a0 Q) :
  PFun prog 117 [.int .u8 a0] I (fun _ => o0_ Q) := by
 refine Fun.enter func117 r ntmps117 r (.c .n) fun w0 M => ?_
 exact .sr (.ks 1 r (.nilS [0] r r (.sr (.ks 1 r (.conv underlying5 un3 r r r (.rem r r (by decide) r r (.ks 1 r (.nilS [2] r r (.ret (pret results117 (.t r .n) (.refl _) ⟨((w64 (a0)).tmod 40), r, hd⟩))))))))))

theorem W_law07_Few {I : IH} {a0 : List Triple} {p1 : Option Addr} {c2 : Nat} {Q : (List Triple) → Prop} (R3 : RepSl eTriple I p1 c2 a0) (hd : law07_Few a0 Q) :
  PFun prog 118 [.slice p1 a0.length c2] I (fun I_ v => ∃ r p4 c5, v = .slice p4 r.length c5 ∧ RepSl eTriple I_ p4 c5 r ∧ Q r) := by
 refine Fun.enter func118 r ntmps118 r (.c .n) fun w0 M => ?_
 refine .sr (.ks 1 r (.nilS [0] r r (.seq (.sr (.ks 1 r (.len un24 r r r r (.ks 1 r (.nilS [5, 0] r r (.condP r hd (fun hb7 hd => ?_) fun hb7 hd => ?_)))))))))
 · refine .region (.ks 1 r ?_)
   obtain ⟨h8, h9, h10, hd⟩ := hd
   have h16 : Int.toNat 0 ≤ Int.toNat 60 := by omega
   have h17 : Int.toNat 60 ≤ a0.length := by omega
   obtain ⟨p11, c12, e14, e15, R13⟩ := RepSl.sliceW R3 (Int.toNat 0) (Int.toNat 60) c2 h16 h17 (.inl rfl)
   exact .sliceW (L := Int.toNat 0) (H := Int.toNat 60) (cm := c2) un24 sz91 r r R3.1 r r r (.inl ⟨r, r⟩) (.inr ⟨_, _, r, (by omega), r⟩) (.inl r) h16 h17 r e14 e15 r r (.ks 1 r (.nilS [0] r r (.sr (.ks 2 r (.nilS [2] r r (.ret (pret results118 (.t r .n) (.refl _) ⟨((a0.take (Int.toNat 60)).drop (Int.toNat 0)), _, _, r, R13, hd⟩)))))))
 exact .skipS [0] r r (.sr (.ks 2 r (.nilS [2] r r (.ret (pret results118 (.t r .n) (.refl _) ⟨a0, _, _, r, R3, hd⟩)))))

theorem W_law07_Some {I : IH} {a0 : Int × Int} {a1 : List Triple} {p1 : Option Addr} {c2 : Nat} {Q : Rows → Prop} (R3 : RepSl eTriple I p1 c2 a1) (hd : law07_Some a0 a1 Q) :
  PFun prog 79 [.agg #[.int .u8 a0.1, .int .u8 a0.2], .slice p1 a1.length c2] I (o3_ Q) := by
 refine Fun.enter func79 r ntmps79 r (.c (.c .n)) fun w0 M => ?_
 refine .sr (.boxA r r r fun b17 => ?_)
 refine .allocA zv30 r r fun b19 => ?_
 refine .nilS [4, 2, 1] r r (.seq (.dr [0, 1, 3, 4, 2, 5, 6] 7 (.g r r r (fun _ => .ixArr (i := 0) un76 sz5 r r (by decide) (o := 0) r r r .mk) (.g r r r (fun _ => .load1 isAgg5 r (.s .z) r r r .mk) (.g r r r (fun _ => .ixArr (i := 1) un76 sz5 r r (by decide) (o := 1) r r r .mk) (.g r r r (fun _ => .load1 isAgg5 r (.s .z) r r r .mk) (.ww r fun ex => ?_)))))))
 have hw30 := W_law07_Size (I := I) hd
 refine .callP call117 r hw30 r r fun v31 hv32 => ?_
 obtain ⟨r29, rfl, hd⟩ := hv32
 refine .so 2 r r r (.cg r r r r (fun _ => .load1 isAgg5 r (.s .z) r r r .mk) (.cg r r r r (fun _ => .ixArr (i := 1) un76 sz5 r r (by decide) (o := 1) r r r .mk) trivial)) (.ww r fun ex => ?_)
 have hw34 := W_law07_Size (I := I) hd
 refine .callP call117 r hw34 r r fun v35 hv36 => ?_
 obtain ⟨r33, rfl, hd⟩ := hv36
 refine .so 2 r r r trivial (.fk 1 r (.e2 7 (.ks 1 r (.nilS [6, 5, 4, 1] r r (.drop (.s .z) (.sr (.ks 1 r (.nilS [7, 6, 5, 4, 1] r r (.sr ?_)))))))))
 refine .ks 1 r ?_
 have hw56 := W_law07_Few (I := I) R3 hd
 refine .call call118 r hw56 r r fun v51 I48 hl49 hv50 => ?_
 obtain ⟨r47, p53, c54, rfl, R55, hd⟩ := hv50
 replace R3 := R3.mono hl49
 refine .ks 1 r (.nilS [1, 7, 6, 5, 4] r r (.seq (.sr (.ks 1 r (.nilS [8, 1, 7, 6, 5, 4] r r (.block (.own0 eTriple 91 (.loop hd (fun (s : (List Triple) × Int) c w => match s with | (s304, s308) => ∃ I_ p305 c306, IH.le I48 I_ ∧ Ok ⟨73, [], none⟩ [(1, .slice p53 r47.length c54), (4, .pointer (some ⟨b19, 0, none⟩)), (5, .int .i64 r29), (6, .int .i64 r33), (7, .slice p305 s304.length c306), (8, .int .i64 s308)] c ∧ Sym w0 M I I_ [pto b19 (.cells #[.int .i64 0, .int .i64 0, .slice none 0 0, .slice none 0 0, .slice none 0 0] 30 (0, 0)), OwnSl eTriple 91 p305 c306 s304] w) (fun c w ho hs => ⟨I48, _, _, (.refl _), ho.sub ⟨r, r, r, r, r, r, trivial⟩, hs.pick (.c (.s .z) (.c .z .n))⟩) ?_))))))))
 rintro ⟨s304, s308⟩ next310 hd c w hst
 obtain ⟨I311, p305, c306, hl312, hok, hsym⟩ := hst
 have le313 := IH.le.trans hl49 hl312
 replace R55 := R55.mono hl312
 refine Cod.at hok hsym (.seq (.sr (.ks 2 r (.len un24 r r r r (.ks 1 r (.nilS [23, 8, 7, 6, 5, 4, 1] r r (.condP r hd (fun hb315 hd => ?_) fun hb315 hd => ?_)))))))
 · refine .skipS [8, 7, 6, 5, 4, 1] r r (.seq (.block (.sr (.ks 2 r ?_))))
   obtain ⟨h327, x328, hx329, hd⟩ := hd
   obtain ⟨b330, o331, cs332, e333, hC334, hr335⟩ := R55.2 _ _ hx329
   cases hr335
   refine .ixa un24 sz91 r e333 r h327 (idx_lt hx329 h327) r r (.ldW isAgg91 sz91 hC334 r r r r (.allocA zv91 r r fun b336 => ?_))
   refine .storeA sz91 r r .z (.t (.t (.t .nil))) r r (.nilS [9, 8, 7, 6, 5, 4, 1] r r (.seq (.sr (.fa un91 r sz3 r (o := 0) r r r (.load1 ia3 r .z r r r (.ks 2 r ?_))))))
   refine splitP hd (fun hb342 hd => ?_) fun hb342 hd => ?_
   · rw [hb342]
     exact .ks 12 r (.nilS [45, 9, 8, 7, 6, 5, 4, 1] r r (.condKT r r (.exitS [8, 7, 6, 5, 4, 1] r r (.drop .z (.region (.ks 3 r (.nil' fun c w ho hs => ⟨(s304, w64 (s308 + 1)), hd, I311, _, _, hl312, ho.sub ⟨r, r, r, r, r, r, trivial⟩, hs.pick (.c .z (.c .z .n))⟩)))))))
   rw [hb342]
   refine .gyes r r r (.fa un91 r sz3 r (o := 1) r r r (.gyes r r r (.load1 ia3 r .z r r r (.ks 3 r ?_))))
   refine splitP hd (fun hb343 hd => ?_) fun hb343 hd => ?_
   · rw [hb343]
     exact .ks 7 r (.nilS [45, 9, 8, 7, 6, 5, 4, 1] r r (.condKT r r (.exitS [8, 7, 6, 5, 4, 1] r r (.drop .z (.region (.ks 3 r (.nil' fun c w ho hs => ⟨(s304, w64 (s308 + 1)), hd, I311, _, _, hl312, ho.sub ⟨r, r, r, r, r, r, trivial⟩, hs.pick (.c .z (.c .z .n))⟩)))))))
   rw [hb343]
   refine .ks 4 r ?_
   refine splitP hd (fun hb344 hd => ?_) fun hb344 hd => ?_
   · rw [hb344]
     exact .ks 3 r (.nilS [45, 9, 8, 7, 6, 5, 4, 1] r r (.condKT r r (.exitS [8, 7, 6, 5, 4, 1] r r (.drop .z (.region (.ks 3 r (.nil' fun c w ho hs => ⟨(s304, w64 (s308 + 1)), hd, I311, _, _, hl312, ho.sub ⟨r, r, r, r, r, r, trivial⟩, hs.pick (.c .z (.c .z .n))⟩)))))))
   rw [hb344]
   refine .ks 3 r (.nilS [45, 9, 8, 7, 6, 5, 4, 1] r r (.condP r hd (fun hb345 hd => ?_) fun hb345 hd => ?_))
   · exact .exitS [8, 7, 6, 5, 4, 1] r r (.drop .z (.region (.ks 3 r (.nil' fun c w ho hs => ⟨(s304, w64 (s308 + 1)), hd, I311, _, _, hl312, ho.sub ⟨r, r, r, r, r, r, trivial⟩, hs.pick (.c .z (.c .z .n))⟩))))
   refine .skipS [9, 8, 7, 6, 5, 4, 1] r r (.sr (.fa un91 r sz3 r (o := 0) r r r (.load1 ia3 r .z r r r (.ks 1 r ?_))))
   obtain ⟨hz347, hd⟩ := hd
   refine .rem r r hz347 r r (.fa un91 r sz3 r (o := 0) r r r (.store1 sz3 r r .z (.t .nil) r (.nilS [9, 8, 7, 6, 5, 4, 1] r r (.sr (.fa un91 r sz3 r (o := 1) r r r (.load1 ia3 r .z r r r (.ks 1 r ?_)))))))
   obtain ⟨hz348, hd⟩ := hd
   refine .rem r r hz348 r r (.fa un91 r sz3 r (o := 1) r r r (.store1 sz3 r r .z (.s (.t .nil)) r (.nilS [9, 8, 7, 6, 5, 4, 1] r r (.region (.ks 1 r (.loadW isAgg91 sz91 r .z r r r (.buildSlice 1 un24 sz91 zv91 r r (.c r r r .n) r r fun b349 => ?_)))))))
   obtain ⟨hl351, hd⟩ := hd
   refine .append (ys := [({ Row := x328.Row.tmod r29, Col := x328.Col.tmod r33, Val := x328.Val } : Triple)]) 24 (.s (.s (.s .z))) un24 un24 IN91 r r r r r r r r r (.box .z (.one r) r) hl351 r r fun p352 c353 => ?_
   exact .ks 1 r (.nilS [7, 8, 6, 5, 4, 1] r r (.drop (.s .z) (.drop (.s .z) (.region (.ks 3 r (.nil' fun c w ho hs => ⟨((s304 ++ ([({ Row := x328.Row.tmod r29, Col := x328.Col.tmod r33, Val := x328.Val } : Triple)])), w64 (s308 + 1)), hd, I311, _, _, hl312, ho.sub ⟨r, r, r, r, r, r, trivial⟩, hs.pick (.c (.s .z) (.c .z .n))⟩))))))
 refine .exitS [7, 6, 5, 4] r r (.sr (.ks 3 r (.pub (.s .z) fun I380 hl381 R382 => ?_)))
 have le383 := IH.le.trans le313 hl381
 have le384 := IH.le.trans hl312 hl381
 have hw400 := W_ref07_Of (I := I380) R382 hd
 refine .call call51 r hw400 r r fun v389 I386 hl387 hv388 => ?_
 obtain ⟨r385, p391, c392, p394, c395, p397, c398, rfl, R393, R396, R399, hd⟩ := hv388
 have le401 := IH.le.trans le383 hl387
 have le402 := IH.le.trans le384 hl387
 replace R382 := R382.mono hl387
 refine .ks 3 r (.allocA zv30 r r fun b403 => ?_)
 refine .storeA sz30 r r .z (.t (.t (.t (.t (.t .nil))))) r r (.ks 1 r (.nilS [11, 10, 6, 5, 4] r r (.seq (.sr (.ks 2 r (.nilS [68, 10, 6, 5, 4] r r (.condP r hd (fun hb405 hd => ?_) fun hb405 hd => ?_)))))))
 · refine .sr (.ks 2 r ?_)
   have hw424 := W_ref07_Empty (I := I386) hd
   refine .callO call84 r hw424 r r fun v410 I407 l411 hl408 hv409 => ?_
   obtain ⟨r406, p412, c413, p415, c416, p418, c419, rfl, rfl, hd⟩ := hv409
   have le425 := IH.le.trans le401 hl408
   have le426 := IH.le.trans le402 hl408
   replace R393 := R393.mono hl408
   replace R396 := R396.mono hl408
   replace R399 := R399.mono hl408
   refine .storeA sz30 r r (.s (.s (.s (.s .z)))) (.t (.t (.t (.t (.t .nil))))) r r (.nilS [4] r r (.drop (.s (.s (.s .z))) (.pub .z fun I427 hl428 R429 => ?_)))
   have le430 := IH.le.trans le425 hl428
   have le431 := IH.le.trans le426 hl428
   refine .pub .z fun I432 hl433 R434 => ?_
   have le435 := IH.le.trans le430 hl433
   have le436 := IH.le.trans le431 hl433
   replace R429 := R429.mono hl433
   refine .pub .z fun I437 hl438 R439 => ?_
   have le440 := IH.le.trans le435 hl438
   have le441 := IH.le.trans le436 hl438
   replace R429 := R429.mono hl438
   replace R434 := R434.mono hl438
   exact .ret (pret results79 (.w ia30 sz30 r .z r .n) le440 ⟨r406, _, _, _, _, _, _, r, R429, R434, R439, hd⟩)
 exact .skipS [10, 4] r r (.sr (.loadW ia30 sz30 r .z r r r (.storeA sz30 r r (.s .z) (.t (.t (.t (.t (.t .nil))))) r r (.nilS [4] r r (.drop .z (.ret (pret results79 (.w ia30 sz30 r .z r .n) le401 ⟨r385.1, _, _, _, _, _, _, r, R393, R396, R399, hd⟩)))))))

theorem W_law02_Value {I : IH} {a0 : Int} {a1 : Int} {Q : Int → Prop}  (hd : law02_Value a0 a1 Q) :
  PFun prog 119 [.int .i64 a0, .int .i64 a1] I (fun _ => o0_ Q) := by
 refine Fun.enter func119 r ntmps119 r (.c (.c .n)) fun w0 M => ?_
 refine .sr (.ks 1 r (.nilS [1, 0] r r (.sr (.ks 1 r (.nilS [5, 1] r r (.block (.sr (.ks 2 r (.nilS [12, 5, 1] r r ?_)))))))))
 refine .condP r hd (fun hb1 hd => ?_) fun hb1 hd => ?_
 · exact .sr (.ks 2 r (.nilS [4] r r (.ret (pret results119 (.t r .n) (.refl _) ⟨a1, r, hd⟩))))
 refine .sr (.ks 2 r (.nilS [15, 1] r r (.condP r hd (fun hb2 hd => ?_) fun hb2 hd => ?_)))
 · exact .sr (.ks 3 r (.nilS [4] r r (.ret (pret results119 (.t r .n) (.refl _) ⟨(bnd .i64 a1 1), r, hd⟩))))
 refine .sr (.ks 3 r (.nilS [1] r r (.seq (.sr (.ks 1 r (.rem r r (by decide) r r (.ks 1 r (.nilS [10, 1] r r (.condP r hd (fun hb3 hd => ?_) fun hb3 hd => ?_)))))))))
 · exact .sr (.ks 1 r (.nilS [4] r r (.ret (pret results119 (.t r .n) (.refl _) ⟨4611686018427387904, r, hd⟩))))
 exact .skipS [1] r r (.sr (.ks 2 r (.nilS [4] r r (.ret (pret results119 (.t r .n) (.refl _) ⟨(bnd .i64 a1 4611686018427387903), r, hd⟩)))))

theorem W_law02_Factor {I : IH} {a0 : Int} {a1 : Int} {Q : Int → Prop}  (hd : law02_Factor a0 a1 Q) :
  PFun prog 80 [.int .i64 a0, .int .i64 a1] I (fun _ => o0_ Q) := by
 refine Fun.enter func80 r ntmps80 r (.c (.c .n)) fun w0 M => ?_
 refine .sr (.ks 1 r (.nilS [1, 0] r r (.seq (.sr (.ks 2 r (.nilS [6, 1, 0] r r (.condP r hd (fun hb1 hd => ?_) fun hb1 hd => ?_)))))))
 · exact .sr (.ks 1 r (.rem r r (by decide) r r (.ks 1 r (.nilS [4] r r (.ret (pret results80 (.t r .n) (.refl _) ⟨(a1.tmod 2147483648), r, hd⟩))))))
 refine .skipS [1, 0] r r (.sr (.ks 2 r ?_))
 have hw3 := W_law02_Value (I := I) hd
 refine .callP call119 r hw3 r r fun v4 hv5 => ?_
 obtain ⟨r2, rfl, hd⟩ := hv5
 exact .ks 1 r (.nilS [4] r r (.ret (pret results80 (.t r .n) (.refl _) ⟨r2, r, hd⟩)))

theorem W_law13_Task_Matrix {I : IH} {a0 : Law13_Task} {p1 : Option Addr} {c2 : Nat} {p4 : Option Addr} {c5 : Nat} {p7 : Option Addr} {c8 : Nat} {p10 : Option Addr} {c11 : Nat} {Q : Rows → Prop} (R3 : RepSl eTriple I p1 c2 a0.L) (R6 : RepSl eItem I p4 c5 a0.X) (R9 : RepSl eItem I p7 c8 a0.Y) (R12 : RepSl eU64 I p10 c11 a0.F) (hd : law13_Task_Matrix a0 Q) :
  PFun prog 32 [.agg #[.int .i64 a0.Ring, .int .u8 a0.Size.1, .int .u8 a0.Size.2, .slice p1 a0.L.length c2, .slice p4 a0.X.length c5, .slice p7 a0.Y.length c8, .slice p10 a0.F.length c11, .bool a0.Others]] I (fun I_ v => ∃ r p13 c14 p16 c17 p19 c20, v = .agg #[.int .i64 r.Rows, .int .i64 r.Cols, .slice p13 r.Start.length c14, .slice p16 r.Col.length c17, .slice p19 r.Val.length c20] ∧ RepSl eI64 I_ p13 c14 r.Start ∧ RepSl eI64 I_ p16 c17 r.Col ∧ RepSl eI64 I_ p19 c20 r.Val ∧ Q r) := by
 refine Fun.enter func32 r ntmps32 r (.c .n) fun w0 M => ?_
 refine .sr (.boxA r r r fun b26 => ?_)
 refine .allocA zv30 r r fun b28 => ?_
 refine .nilS [2, 1] r r (.sr (.fa un78 r sizeOf76 r (o := 1) r r r (.loadA isAgg76 sizeOf76 r (.s .z) (.s (.t (.t .nil))) r r r (.fa un78 r sizeOf24 r (o := 3) r r r (.load1 isAgg24 r (.s .z) r r r ?_)))))
 have hw63 := W_law07_Some (I := I) R3 hd
 refine .call call79 r hw63 r r fun v52 I49 hl50 hv51 => ?_
 obtain ⟨r48, p54, c55, p57, c58, p60, c61, rfl, R56, R59, R62, hd⟩ := hv51
 replace R3 := R3.mono hl50
 replace R6 := R6.mono hl50
 replace R9 := R9.mono hl50
 replace R12 := R12.mono hl50
 refine .allocA zv30 r r fun b64 => ?_
 refine .storeA sz30 r r .z (.t (.t (.t (.t (.t .nil))))) r r (.nilS [3, 2, 1] r r (.sr (.fa un78 r sz22 r (o := 0) r r r (.load1 ia22 r (.s (.s .z)) r r r ?_))))
 have hw71 := W_law13_Right (I := I49) hd
 refine .callP call22 r hw71 r r fun v72 hv73 => ?_
 obtain ⟨r70, rfl, hd⟩ := hv73
 refine .ks 1 r (.nilS [4, 3, 2] r r (.drop (.s (.s .z)) (.sr (.ks 1 r (.nilS [5, 4, 3, 2] r r (.seq (.sr (.ks 1 r (.nilS [6, 5, 4, 3, 2] r r ?_)))))))))
 refine .block (.own0 eI64 2 (.loop hd (fun (s : (List Int) × Int) c w => match s with | (s132, s136) => ∃ I_ p133 c134, IH.le I49 I_ ∧ Ok ⟨35, [], none⟩ [(2, .pointer (some ⟨b28, 0, none⟩)), (3, .pointer (some ⟨b64, 0, none⟩)), (4, .int .i64 r70), (5, .slice p133 s132.length c134), (6, .int .i64 s136)] c ∧ Sym w0 M I I_ [pto b28 (.cells #[.int .i64 0, .int .i64 0, .slice none 0 0, .slice none 0 0, .slice none 0 0] 30 (0, 0)), pto b64 (.cells #[.int .i64 r48.Rows, .int .i64 r48.Cols, .slice p54 r48.Start.length c55, .slice p57 r48.Col.length c58, .slice p60 r48.Val.length c61] 30 (0, 0)), OwnSl eI64 2 p133 c134 s132] w) (fun c w ho hs => ⟨I49, _, _, (.refl _), ho.sub ⟨r, r, r, r, r, trivial⟩, hs.pick (.c (.s (.s .z)) (.c (.s .z) (.c .z .n)))⟩) ?_))
 rintro ⟨s132, s136⟩ next138 hd c w hst
 obtain ⟨I139, p133, c134, hl140, hok, hsym⟩ := hst
 have le141 := IH.le.trans hl50 hl140
 replace R56 := R56.mono hl140
 replace R59 := R59.mono hl140
 replace R62 := R62.mono hl140
 refine Cod.at hok hsym (.seq (.sr (.ks 1 r (.fa un30 r sz28 r (o := 4) r r r (.load1 ia28 r (.s .z) r r r (.len un28 r r r r (.ks 1 r (.nilS [19, 6, 5, 4, 3, 2] r r (.condP r hd (fun hb143 hd => ?_) fun hb143 hd => ?_)))))))))
 · refine .skipS [6, 5, 4, 3, 2] r r (.seq (.block (.region (.ks 2 r (.fa un30 r sz28 r (o := 4) r r r (.load1 ia28 r (.s .z) r r r (.ks 1 r ?_)))))))
   obtain ⟨h144, x145, hx146, hd⟩ := hd
   obtain ⟨b147, o148, cs149, e150, hC151, hr152⟩ := R62.2 _ _ hx146
   cases hr152
   refine .ixa un28 sz2 r e150 r h144 (idx_lt hx146 h144) r r (.ld1 (j := 0) ia2 hC151 r r r r r ?_)
   have hw154 := W_law02_Factor (I := I139) hd
   refine .callP call80 r hw154 r r fun v155 hv156 => ?_
   obtain ⟨r153, rfl, hd⟩ := hv156
   refine .buildSlice 1 un28 sz2 zeroValue2 r r (.c r r r .n) r r fun b157 => ?_
   obtain ⟨hl159, hd⟩ := hd
   refine .append (ys := [r153]) 8 (.s (.s (.s .z))) un28 un28 IN2 r r r r r r r r r (.box .z (.one r) r) hl159 r r fun p160 c161 => ?_
   exact .ks 1 r (.nilS [5, 6, 4, 3, 2] r r (.drop (.s .z) (.region (.ks 3 r (.nil' fun c w ho hs => ⟨((s132 ++ ([r153])), w64 (s136 + 1)), hd, I139, _, _, hl140, ho.sub ⟨r, r, r, r, r, trivial⟩, hs.pick (.c (.s .z) (.c (.s .z) (.c .z .n)))⟩)))))
 refine .exitS [5, 3, 2] r r (.sr (.ks 1 r (.fa un30 r sz28 r (o := 4) r r r (.store1 sz28 r r (.s .z) (.s (.s (.s (.s (.t .nil))))) r (.nilS [3, 2] r r (.sr (.loadW ia30 sz30 r (.s .z) r r r (.storeA sz30 r r .z (.t (.t (.t (.t (.t .nil))))) r r (.nilS [2] r r ?_)))))))))
 refine .drop (.s .z) (.pub (.s .z) fun I163 hl164 R165 => ?_)
 have le166 := IH.le.trans le141 hl164
 have le167 := IH.le.trans hl140 hl164
 replace R56 := R56.mono hl164
 replace R59 := R59.mono hl164
 exact .ret (pret results32 (.w ia30 sz30 r .z r .n) le166 ⟨({ Rows := r48.Rows, Cols := r48.Cols, Start := r48.Start, Col := r48.Col, Val := s132 } : Rows), _, _, _, _, _, _, r, R56, R59, R165, hd⟩)

theorem W_law15_Task_Three {I : IH} {a0 : Law15_Task} {p1 : Option Addr} {c2 : Nat} {p4 : Option Addr} {c5 : Nat} {p7 : Option Addr} {c8 : Nat} {Q : (Rows × Rows × Rows) → Prop} (R3 : RepSl eTriple I p1 c2 a0.A) (R6 : RepSl eTriple I p4 c5 a0.B) (R9 : RepSl eTriple I p7 c8 a0.M) (hd : law15_Task_Three a0 Q) :
  PFun prog 8 [.agg #[.int .i64 a0.Ring, .int .u8 a0.Size.1, .int .u8 a0.Size.2.1, .int .u8 a0.Size.2.2, .slice p1 a0.A.length c2, .slice p4 a0.B.length c5, .slice p7 a0.M.length c8]] I (fun I_ v => ∃ r p10 c11 p13 c14 p16 c17 p19 c20 p22 c23 p25 c26 p28 c29 p31 c32 p34 c35, v = .agg #[.int .i64 r.1.Rows, .int .i64 r.1.Cols, .slice p10 r.1.Start.length c11, .slice p13 r.1.Col.length c14, .slice p16 r.1.Val.length c17, .int .i64 r.2.1.Rows, .int .i64 r.2.1.Cols, .slice p19 r.2.1.Start.length c20, .slice p22 r.2.1.Col.length c23, .slice p25 r.2.1.Val.length c26, .int .i64 r.2.2.Rows, .int .i64 r.2.2.Cols, .slice p28 r.2.2.Start.length c29, .slice p31 r.2.2.Col.length c32, .slice p34 r.2.2.Val.length c35] ∧ RepSl eI64 I_ p10 c11 r.1.Start ∧ RepSl eI64 I_ p13 c14 r.1.Col ∧ RepSl eI64 I_ p16 c17 r.1.Val ∧ RepSl eI64 I_ p19 c20 r.2.1.Start ∧ RepSl eI64 I_ p22 c23 r.2.1.Col ∧ RepSl eI64 I_ p25 c26 r.2.1.Val ∧ RepSl eI64 I_ p28 c29 r.2.2.Start ∧ RepSl eI64 I_ p31 c32 r.2.2.Col ∧ RepSl eI64 I_ p34 c35 r.2.2.Val ∧ Q r) := by
 refine Fun.enter func8 r ntmps8 r (.c .n) fun w0 M => ?_
 refine .sr (.boxA r r r fun b41 => ?_)
 refine .allocA zv31 r r fun b43 => ?_
 refine .nilS [2, 1] r r (.seq (.dr [0, 1, 2, 4, 5, 6, 8, 9, 10, 3, 7, 11, 12, 13] 14 (.g r r r (fun _ => .fa un26 r sizeOf23 r (o := 1) r r r .mk) (.g r r r (fun _ => .ixArr (i := 0) un23 sz5 r r (by decide) (o := 1) r r r .mk) (.g r r r (fun _ => .load1 isAgg5 r (.s .z) r r r .mk) (.g r r r (fun _ => .fa un26 r sizeOf23 r (o := 1) r r r .mk) (.g r r r (fun _ => .ixArr (i := 1) un23 sz5 r r (by decide) (o := 2) r r r .mk) (.g r r r (fun _ => .load1 isAgg5 r (.s .z) r r r .mk) (.g r r r (fun _ => .fa un26 r sizeOf23 r (o := 1) r r r .mk) ?_)))))))))
 refine .g r r r (fun _ => .ixArr (i := 2) un23 sz5 r r (by decide) (o := 3) r r r .mk) (.g r r r (fun _ => .load1 isAgg5 r (.s .z) r r r .mk) (.ww r fun ex => ?_))
 have hw58 := W_law15_small (I := I) hd
 refine .callP call31 r hw58 r r fun v59 hv60 => ?_
 obtain ⟨r57, rfl, hd⟩ := hv60
 refine .so 2 r r r (.cg r r r r (fun _ => .load1 isAgg5 r (.s .z) r r r .mk) (.cg r r r r (fun _ => .ixArr (i := 2) un23 sz5 r r (by decide) (o := 3) r r r .mk) (.cg r r r r (fun _ => .fa un26 r sizeOf23 r (o := 1) r r r .mk) (.cg r r r r (fun _ => .load1 isAgg5 r (.s .z) r r r .mk) (.cg r r r r (fun _ => .ixArr (i := 1) un23 sz5 r r (by decide) (o := 2) r r r .mk) (.cg r r r r (fun _ => .fa un26 r sizeOf23 r (o := 1) r r r .mk) trivial)))))) (.ww r fun ex => ?_)
 have hw62 := W_law15_small (I := I) hd
 refine .callP call31 r hw62 r r fun v63 hv64 => ?_
 obtain ⟨r61, rfl, hd⟩ := hv64
 refine .so 2 r r r (.cg r r r r (fun _ => .load1 isAgg5 r (.s .z) r r r .mk) (.cg r r r r (fun _ => .ixArr (i := 2) un23 sz5 r r (by decide) (o := 3) r r r .mk) (.cg r r r r (fun _ => .fa un26 r sizeOf23 r (o := 1) r r r .mk) trivial))) (.ww r fun ex => ?_)
 have hw66 := W_law15_small (I := I) hd
 refine .callP call31 r hw66 r r fun v67 hv68 => ?_
 obtain ⟨r65, rfl, hd⟩ := hv68
 refine .so 2 r r r trivial (.fk 2 r (.e2 14 (.ks 1 r (.nilS [5, 4, 3, 2, 1] r r (.sr (.fa un26 r sz22 r (o := 0) r r r (.load1 ia22 r (.s .z) r r r (.ks 2 r (.buildArr zeroValue76 un76 sz5 (.c r r r (.t .nil) (.c r r r (.s (.t .nil)) .n)) r r ?_)))))))))
 refine .fa un26 r sizeOf24 r (o := 4) r r r (.load1 isAgg24 r (.s .z) r r r (.build zv78 un78 BI78 (.c r r r (.t .nil) (.c r r r (.s (.t (.t .nil))) (.c r r r (.s (.s (.s (.t .nil)))) .n))) (by exact ⟨⟨_, _, r, r, r⟩, ⟨⟨_, _, r, r, r⟩, ⟨⟨_, _, r, r, r⟩, trivial⟩⟩⟩) r r (.allocA zv78 r r fun b71 => ?_)))
 refine .storeA sizeOf78 r r .z (.t (.t (.t (.t (.t (.t (.t (.t .nil)))))))) r r (.nilS [6, 5, 4, 3, 2, 1] r r (.sr (.fa un26 r sz22 r (o := 0) r r r (.load1 ia22 r (.s (.s .z)) r r r (.ks 2 r (.buildArr zeroValue76 un76 sz5 (.c r r r (.t .nil) (.c r r r (.s (.t .nil)) .n)) r r (.fa un26 r sizeOf24 r (o := 5) r r r (.load1 isAgg24 r (.s (.s .z)) r r r (.build zv78 un78 BI78 (.c r r r (.t .nil) (.c r r r (.s (.t (.t .nil))) (.c r r r (.s (.s (.s (.t .nil)))) .n))) (by exact ⟨⟨_, _, r, r, r⟩, ⟨⟨_, _, r, r, r⟩, ⟨⟨_, _, r, r, r⟩, trivial⟩⟩⟩) r r ?_)))))))))
 refine .allocA zv78 r r fun b75 => ?_
 refine .storeA sizeOf78 r r .z (.t (.t (.t (.t (.t (.t (.t (.t .nil)))))))) r r (.nilS [7, 6, 5, 3, 2, 1] r r (.sr (.fa un26 r sz22 r (o := 0) r r r (.load1 ia22 r (.s (.s (.s .z))) r r r (.ks 2 r (.buildArr zeroValue76 un76 sz5 (.c r r r (.t .nil) (.c r r r (.s (.t .nil)) .n)) r r (.fa un26 r sizeOf24 r (o := 6) r r r (.load1 isAgg24 r (.s (.s (.s .z))) r r r (.build zv78 un78 BI78 (.c r r r (.t .nil) (.c r r r (.s (.t (.t .nil))) (.c r r r (.s (.s (.s (.t .nil)))) .n))) (by exact ⟨⟨_, _, r, r, r⟩, ⟨⟨_, _, r, r, r⟩, ⟨⟨_, _, r, r, r⟩, trivial⟩⟩⟩) r r ?_)))))))))
 refine .allocA zv78 r r fun b77 => ?_
 refine .storeA sizeOf78 r r .z (.t (.t (.t (.t (.t (.t (.t (.t .nil)))))))) r r (.nilS [8, 7, 6, 2] r r (.drop (.s (.s (.s (.s .z)))) (.seq (.dr [0, 2, 4, 1, 3, 5, 6] 7 (.g r r r (fun _ => .loadW isAgg78 sizeOf78 r (.s (.s .z)) r r r .mk) (.g r r r (fun _ => .loadW isAgg78 sizeOf78 r (.s .z) r r r .mk) (.g r r r (fun _ => .loadW isAgg78 sizeOf78 r .z r r r .mk) (.ww r fun ex => ?_))))))))
 have hw94 := W_law13_Task_Matrix (I := I) (a0 := ({ Ring := a0.Ring, Size := (r57, r61), L := a0.A, X := ([] : List Item), Y := ([] : List Item), F := ([] : List Int), Others := false } : Law13_Task)) R3 (.nil _ none 0) (.nil _ none 0) (.nil _ none 0) hd
 refine .call call32 r hw94 r r fun v83 I80 hl81 hv82 => ?_
 obtain ⟨r79, p85, c86, p88, c89, p91, c92, rfl, R87, R90, R93, hd⟩ := hv82
 replace R3 := R3.mono hl81
 replace R6 := R6.mono hl81
 replace R9 := R9.mono hl81
 refine .so 4 r r r (.cg r r r r (fun _ => .loadW isAgg78 sizeOf78 r .z r r r .mk) (.cg r r r r (fun _ => .loadW isAgg78 sizeOf78 r (.s .z) r r r .mk) trivial)) (.ww r fun ex => ?_)
 have hw110 := W_law13_Task_Matrix (I := I80) (a0 := ({ Ring := a0.Ring, Size := (r61, r65), L := a0.B, X := ([] : List Item), Y := ([] : List Item), F := ([] : List Int), Others := false } : Law13_Task)) R6 (.nil _ none 0) (.nil _ none 0) (.nil _ none 0) hd
 refine .call call32 r hw110 r r fun v99 I96 hl97 hv98 => ?_
 obtain ⟨r95, p101, c102, p104, c105, p107, c108, rfl, R103, R106, R109, hd⟩ := hv98
 have le111 := IH.le.trans hl81 hl97
 replace R3 := R3.mono hl97
 replace R6 := R6.mono hl97
 replace R9 := R9.mono hl97
 replace R87 := R87.mono hl97
 replace R90 := R90.mono hl97
 replace R93 := R93.mono hl97
 refine .so 4 r r r (.cg r r r r (fun _ => .loadW isAgg78 sizeOf78 r .z r r r .mk) trivial) (.ww r fun ex => ?_)
 have hw127 := W_law13_Task_Matrix (I := I96) (a0 := ({ Ring := a0.Ring, Size := (r57, r65), L := a0.M, X := ([] : List Item), Y := ([] : List Item), F := ([] : List Int), Others := false } : Law13_Task)) R9 (.nil _ none 0) (.nil _ none 0) (.nil _ none 0) hd
 refine .call call32 r hw127 r r fun v116 I113 hl114 hv115 => ?_
 obtain ⟨r112, p118, c119, p121, c122, p124, c125, rfl, R120, R123, R126, hd⟩ := hv115
 have le128 := IH.le.trans le111 hl114
 replace R3 := R3.mono hl114
 replace R6 := R6.mono hl114
 replace R9 := R9.mono hl114
 replace R87 := R87.mono hl114
 replace R90 := R90.mono hl114
 replace R93 := R93.mono hl114
 replace R103 := R103.mono hl114
 replace R106 := R106.mono hl114
 replace R109 := R109.mono hl114
 exact .so 4 r r r trivial (.g r r r (fun _ => .buildArr zv31 un31 sz30 (.c r r r (.t (.t (.t (.t (.t .nil))))) (.c r r r (.s (.s (.s (.s (.s (.t (.t (.t (.t (.t .nil)))))))))) (.c r r r (.s (.s (.s (.s (.s (.s (.s (.s (.s (.s (.t (.t (.t (.t (.t .nil))))))))))))))) .n))) r r .mk) (.e2 7 (.storeA sizeOf31 r r (.s (.s (.s .z))) (.t (.t (.t (.t (.t (.t (.t (.t (.t (.t (.t (.t (.t (.t (.t .nil))))))))))))))) r r (.nilS [2] r r (.drop .z (.drop .z (.drop .z (.ret (pret results8 (.w isAgg31 sizeOf31 r .z r .n) le128 ⟨(r79, r95, r112), _, _, _, _, _, _, _, _, _, _, _, _, _, _, _, _, _, _, r, R87, R90, R93, R103, R106, R109, R120, R123, R126, hd⟩)))))))))

theorem W_csr_Turn {I : IH} {a0 : Rows} {p1 : Option Addr} {c2 : Nat} {p4 : Option Addr} {c5 : Nat} {p7 : Option Addr} {c8 : Nat} {Q : Rows → Prop} (R3 : RepSl eI64 I p1 c2 a0.Start) (R6 : RepSl eI64 I p4 c5 a0.Col) (R9 : RepSl eI64 I p7 c8 a0.Val) (hd : csr_Turn a0 Q) :
  PFun prog 24 [.agg #[.int .i64 a0.Rows, .int .i64 a0.Cols, .slice p1 a0.Start.length c2, .slice p4 a0.Col.length c5, .slice p7 a0.Val.length c8]] I (o7_ Q) := by
 refine Fun.enter func24 r ntmps24 r (.c .n) fun w0 M => ?_
 refine .sr (.boxA r r r fun b23 => ?_)
 refine .allocA zv30 r r fun b25 => ?_
 refine .nilS [2, 1] r r (.sr (.loadW ia30 sz30 r (.s .z) r r r ?_))
 have hw58 := W_csr_sure (I := I) R3 R6 R9 hd
 refine .call call66 r hw58 r r fun v47 I44 hl45 hv46 => ?_
 obtain ⟨r43, p49, c50, p52, c53, p55, c56, rfl, R51, R54, R57, hd⟩ := hv46
 replace R3 := R3.mono hl45
 replace R6 := R6.mono hl45
 replace R9 := R9.mono hl45
 refine .storeA sz30 r r (.s .z) (.t (.t (.t (.t (.t .nil))))) r r (.nilS [2, 1] r r (.sr (.loadW ia30 sz30 r (.s .z) r r r ?_)))
 have hw81 := W_csr_Triples (I := I44) R51 R54 R57 hd
 refine .callO call43 r hw81 r r fun v75 I72 l76 hl73 hv74 => ?_
 obtain ⟨r71, p77, c78, rfl, rfl, hd⟩ := hv74
 have le82 := IH.le.trans hl45 hl73
 replace R51 := R51.mono hl73
 replace R54 := R54.mono hl73
 replace R57 := R57.mono hl73
 refine .ks 1 r (.nilS [3, 2, 1] r r (.seq (.sr (.ks 1 r (.len un24 r r r r (.ks 1 r (.nilS [12, 11, 10, 3, 2, 1] r r (.block (.loop hd (fun (s : (List Triple) × Int) c w => match s with | (s224, s229) => ∃ I_ p225 c226, IH.le I72 I_ ∧ Ok ⟨36, [], none⟩ [(1, .pointer (some ⟨b23, 0, none⟩)), (2, .pointer (some ⟨b25, 0, none⟩)), (3, .slice p225 s224.length c226), (10, .slice p225 s224.length c226), (11, .int .i64 (r71.length : Int)), (12, .int .i64 s229)] c ∧ Sym w0 M I I_ [pto b23 (.cells #[.int .i64 r43.Rows, .int .i64 r43.Cols, .slice p49 r43.Start.length c50, .slice p52 r43.Col.length c53, .slice p55 r43.Val.length c56] 30 (0, 0)), pto b25 (.cells #[.int .i64 0, .int .i64 0, .slice none 0 0, .slice none 0 0, .slice none 0 0] 30 (0, 0)), OwnSl eTriple 91 p225 c226 s224] w) (fun c w ho hs => ⟨I72, _, _, (.refl _), ho.sub ⟨r, r, r, r, r, r, trivial⟩, hs.pick (.c (.s (.s .z)) (.c (.s .z) (.c .z .n)))⟩) ?_)))))))))
 rintro ⟨s224, s229⟩ next230 hd c w hst
 obtain ⟨I231, p225, c226, hl232, hok, hsym⟩ := hst
 have le233 := IH.le.trans le82 hl232
 replace R51 := R51.mono hl232
 replace R54 := R54.mono hl232
 replace R57 := R57.mono hl232
 refine Cod.at hok hsym (.sr (.ks 1 r (.nilS [13, 12, 11, 10, 3, 2, 1] r r (.seq (.condP r hd (fun hb235 hd => ?_) fun hb235 hd => ?_)))))
 · refine .skipS [12, 11, 10, 3, 2, 1] r r (.seq (.block (.sr (.ks 1 r ?_))))
   obtain ⟨h243, x244, hx245, hd⟩ := hd
   refine .ownNe (.s (.s .z)) (idx_ne hx245) fun b246 e247 => ?_
   cases e247
   refine .ixa0 un24 sz91 r r h243 (idx_lt hx245 h243) r r (.loA (j := 0) isAgg91 sz91 (.s (.s .z)) hx245 r r (.t (.t (.t .nil))) r r r (.allocA zv91 r r fun b248 => ?_))
   refine .ks 1 r (.storeA sz91 r r .z (.t (.t (.t .nil))) r r (.nilS [4, 5, 12, 11, 10, 3, 2, 1] r r (.region (.ks 2 r (.fa un91 r sz3 r (o := 1) r r r (.load1 ia3 r .z r r r (.fa un91 r sz3 r (o := 0) r r r (.load1 ia3 r .z r r r (.fa un91 r sz2 r (o := 2) r r r ?_)))))))))
   refine .load1 ia2 r .z r r r (.build zv91 un91 BI91 (.c r r r (.t .nil) (.c r r r (.s (.t .nil)) (.c r r r (.s (.s (.t .nil))) .n))) (by exact ⟨⟨_, _, r, r, r⟩, ⟨⟨_, _, r, r, r⟩, ⟨⟨_, _, r, r, r⟩, trivial⟩⟩⟩) r r ?_)
   obtain ⟨h250, x251, hx252, hd⟩ := hd
   exact .ixa0 un24 sz91 r r h250 (idx_lt hx252 h250) r r (.stOA (j := 0) (v' := ({ Row := x244.Col, Col := x244.Row, Val := x244.Val } : Triple)) sz91 (.s (.s (.s .z))) hx252 r r r (.t (.t (.t .nil))) r r (.sub (E' := [(1, _), (2, _), (3, .slice (some ⟨b246, 0, none⟩) (s224.set s229.toNat ({ Row := x244.Col, Col := x244.Row, Val := x244.Val } : Triple)).length c226), (10, .slice (some ⟨b246, 0, none⟩) (s224.set s229.toNat ({ Row := x244.Col, Col := x244.Row, Val := x244.Val } : Triple)).length c226), (11, _), (12, _), (5, _), (4, _), (17, .slice (some ⟨b246, 0, none⟩) (s224.set s229.toNat ({ Row := x244.Col, Col := x244.Row, Val := x244.Val } : Triple)).length c226), (18, _), (19, _), (20, _), (21, _), (22, _), (23, _), (24, _), (25, _), (26, _)]) ⟨r, r, (by simp only [List.length_set]; rfl), (by simp only [List.length_set]; rfl), r, r, r, r, (by simp only [List.length_set]; rfl), r, r, r, r, r, r, r, r, r, trivial⟩ (.nilS [12, 11, 10, 3, 2, 1] r r (.drop .z (.region (.ks 2 r (.nil' fun c w ho hs => ⟨((s224.set s229.toNat ({ Row := x244.Col, Col := x244.Row, Val := x244.Val } : Triple)), w64 (s229 + 1)), hd, I231, _, _, hl232, ho.sub ⟨r, r, r, r, r, r, trivial⟩, hs.pick (.c .z (.c .z (.c .z .n)))⟩)))))))
 refine .exitS [3, 2, 1] r r (.sr (.ks 1 r ?_))
 have hw253 := Fun.sort (hk := fun _ => ⟨r, r⟩) SL70 isAgg91 sz91 (fun x y J Q hq => W_csr_order (I := J) (a0 := x) (a1 := y) (Q := Q) hq) call71 (I := I231) (T := 91) (a := p225) (cap := c226) hd
 refine .callS (.f call70 r) (.c (.s (.s .z)) .n) hw253 r r fun v254 I255 l256 hl257 hv258 => ?_
 obtain ⟨y259, rfl, hlen260, rfl, hd⟩ := hv258
 have le261 := IH.le.trans le233 hl257
 have le262 := IH.le.trans hl232 hl257
 replace R51 := R51.mono hl257
 replace R54 := R54.mono hl257
 replace R57 := R57.mono hl257
 refine .sub (E' := [(1, _), (2, _), (3, .slice p225 y259.length c226), (28, .slice p225 y259.length c226), (29, _)]) ⟨r, r, (by rw [hlen260]; rfl), (by rw [hlen260]; rfl), r, trivial⟩ (.nilS [3, 2, 1] r r (.sr (.fa un30 r sz3 r (o := 1) r r r (.load1 ia3 r (.s .z) r r r (.fa un30 r sz3 r (o := 0) r r r (.load1 ia3 r (.s .z) r r r (.ks 1 r (.pub .z fun I263 hl264 R265 => ?_))))))))
 have le266 := IH.le.trans le261 hl264
 have le267 := IH.le.trans le262 hl264
 replace R51 := R51.mono hl264
 replace R54 := R54.mono hl264
 replace R57 := R57.mono hl264
 have hw283 := W_csr_built (I := I263) R265 hd
 refine .call call69 r hw283 r r fun v272 I269 hl270 hv271 => ?_
 obtain ⟨r268, p274, c275, p277, c278, p280, c281, rfl, R276, R279, R282, hd⟩ := hv271
 have le284 := IH.le.trans le266 hl270
 have le285 := IH.le.trans le267 hl270
 replace R51 := R51.mono hl270
 replace R54 := R54.mono hl270
 replace R57 := R57.mono hl270
 replace R265 := R265.mono hl270
 exact .storeA sz30 r r (.s .z) (.t (.t (.t (.t (.t .nil))))) r r (.nilS [2] r r (.drop .z (.ret (pret results24 (.w ia30 sz30 r .z r .n) le284 ⟨r268, _, _, _, _, _, _, r, R276, R279, R282, hd⟩))))

theorem W_law15_GemmTurns {I : IH} {a0 : Law15_Task} {p1 : Option Addr} {c2 : Nat} {p4 : Option Addr} {c5 : Nat} {p7 : Option Addr} {c8 : Nat} {Q : Bool → Prop} (R3 : RepSl eTriple I p1 c2 a0.A) (R6 : RepSl eTriple I p4 c5 a0.B) (R9 : RepSl eTriple I p7 c8 a0.M) (hd : law15_GemmTurns a0 Q) :
  PFun prog 6 [.agg #[.int .i64 a0.Ring, .int .u8 a0.Size.1, .int .u8 a0.Size.2.1, .int .u8 a0.Size.2.2, .slice p1 a0.A.length c2, .slice p4 a0.B.length c5, .slice p7 a0.M.length c8]] I (fun _ => o1_ Q) := by
 refine Fun.enter func6 r ntmps6 r (.c .n) fun w0 M => ?_
 refine .sr (.boxA r r r fun b12 => ?_)
 refine .ks 1 r (.nilS [1] r r (.seq ?_))
 refine Cod.joinQ (σ := Int) hd (fun (s18 : Int) c w => ∃ I_, IH.le I I_ ∧ Ok ⟨103, [], none⟩ [(1, .pointer (some ⟨b12, 0, none⟩))] c ∧ Sym w0 M I I_ [pto b12 (.cells #[.int .i64 s18, .int .u8 a0.Size.1, .int .u8 a0.Size.2.1, .int .u8 a0.Size.2.2, .slice p1 a0.A.length c2, .slice p4 a0.B.length c5, .slice p7 a0.M.length c8] 26 (0, 0))] w) (fun k19 hd => ?_) ?_
 · skip
   refine .sr (.fa un26 r sz22 r (o := 0) r r r (.load1 ia22 r .z r r r (.ks 2 r ?_)))
   refine splitP hd (fun hb20 hd => ?_) fun hb20 hd => ?_
   · rw [hb20]
     exact .ks 4 r (.nilS [19, 1] r r (.condKT r r (.region (.fa un26 r sz22 r (o := 0) r r r (.store1 sz22 r r .z (.t .nil) r (.nil' fun c w ho hs => ⟨1, hd, I, (.refl _), ho.sub ⟨r, trivial⟩, hs.pick (.c .z .n)⟩))))))
   rw [hb20]
   refine .gyes r r r (.fa un26 r sz22 r (o := 0) r r r (.gyes r r r (.load1 ia22 r .z r r r (.ks 2 r (.nilS [19, 1] r r (.condP r hd (fun hb21 hd => ?_) fun hb21 hd => ?_))))))
   · exact .region (.fa un26 r sz22 r (o := 0) r r r (.store1 sz22 r r .z (.t .nil) r (.nil' fun c w ho hs => ⟨1, hd, I, (.refl _), ho.sub ⟨r, trivial⟩, hs.pick (.c .z .n)⟩)))
   exact .skip' fun c w ho hs => ⟨a0.Ring, hd, I, (.refl _), ho.sub ⟨r, trivial⟩, hs.pick (.c .z .n)⟩
 rintro s18 hd c w hst
 obtain ⟨I22, hl23, hok, hsym⟩ := hst
 replace R3 := R3.mono hl23
 replace R6 := R6.mono hl23
 replace R9 := R9.mono hl23
 refine Cod.at hok hsym (.sr (.fa un26 r sz22 r (o := 0) r r r (.load1 ia22 r .z r r r ?_)))
 have hw29 := W_law13_Right (I := I22) hd
 refine .callP call22 r hw29 r r fun v30 hv31 => ?_
 obtain ⟨r28, rfl, hd⟩ := hv31
 refine .ks 1 r (.nilS [3, 1] r r (.sr (.loadW isAgg26 sizeOf26 r .z r r r ?_)))
 have hw102 := W_law15_Task_Three (I := I22) (a0 := ({ Ring := s18, Size := a0.Size, A := a0.A, B := a0.B, M := a0.M } : Law15_Task)) R3 R6 R9 hd
 refine .call call8 r hw102 r r fun v73 I70 hl71 hv72 => ?_
 obtain ⟨r69, p75, c76, p78, c79, p81, c82, p84, c85, p87, c88, p90, c91, p93, c94, p96, c97, p99, c100, rfl, R77, R80, R83, R86, R89, R92, R95, R98, R101, hd⟩ := hv72
 have le103 := IH.le.trans hl23 hl71
 replace R3 := R3.mono hl71
 replace R6 := R6.mono hl71
 replace R9 := R9.mono hl71
 refine .allocA zv31 r r fun b104 => ?_
 refine .storeA sizeOf31 r r .z (.t (.t (.t (.t (.t (.t (.t (.t (.t (.t (.t (.t (.t (.t (.t .nil))))))))))))))) r r (.nilS [4, 3] r r (.drop (.s .z) (.sr (.ks 1 r (.ixArr (i := 0) un31 sz30 r r (by decide) (o := 0) r r r (.loadA ia30 sz30 r .z (.t (.t (.t (.t (.t .nil))))) r r r (.ixArr (i := 1) un31 sz30 r r (by decide) (o := 5) r r r (.loadA ia30 sz30 r .z (.s (.s (.s (.s (.s (.t (.t (.t (.t (.t .nil)))))))))) r r r (.ixArr (i := 2) un31 sz30 r r (by decide) (o := 10) r r r ?_)))))))))
 refine .loadA ia30 sz30 r .z (.s (.s (.s (.s (.s (.s (.s (.s (.s (.s (.t (.t (.t (.t (.t .nil))))))))))))))) r r r ?_
 have hw126 := W_gemm_Cells (I := I70) R77 R80 R83 R86 R89 R92 R95 R98 R101 hd
 refine .call call9 r hw126 r r fun v121 I118 hl119 hv120 => ?_
 obtain ⟨r117, p123, c124, rfl, R125, hd⟩ := hv120
 have le127 := IH.le.trans le103 hl119
 replace R77 := R77.mono hl119
 replace R80 := R80.mono hl119
 replace R83 := R83.mono hl119
 replace R86 := R86.mono hl119
 replace R89 := R89.mono hl119
 replace R92 := R92.mono hl119
 replace R95 := R95.mono hl119
 replace R98 := R98.mono hl119
 replace R101 := R101.mono hl119
 refine .ks 5 r (.nilS [6, 5, 4, 3] r r (.seq (.dr [0, 1, 2, 4, 5, 7, 8, 3, 6, 9, 10, 11, 12, 13, 14] 15 (.fk 1 r (.g r r r (fun _ => .ixArr (i := 1) un31 sz30 r r (by decide) (o := 5) r r r .mk) (.g r r r (fun _ => .loadA ia30 sz30 r .z (.s (.s (.s (.s (.s (.t (.t (.t (.t (.t .nil)))))))))) r r r .mk) (.g r r r (fun _ => .ixArr (i := 0) un31 sz30 r r (by decide) (o := 0) r r r .mk) (.g r r r (fun _ => .loadA ia30 sz30 r .z (.t (.t (.t (.t (.t .nil))))) r r r .mk) (.g r r r (fun _ => .ixArr (i := 2) un31 sz30 r r (by decide) (o := 10) r r r .mk) ?_)))))))))
 refine .g r r r (fun _ => .loadA ia30 sz30 r .z (.s (.s (.s (.s (.s (.s (.s (.s (.s (.s (.t (.t (.t (.t (.t .nil))))))))))))))) r r r .mk) (.ww r fun ex => ?_)
 have hw205 := W_csr_Turn (I := I118) R86 R89 R92 hd
 refine .call call24 r hw205 r r fun v194 I191 hl192 hv193 => ?_
 obtain ⟨r190, p196, c197, p199, c200, p202, c203, rfl, R198, R201, R204, hd⟩ := hv193
 have le206 := IH.le.trans le127 hl192
 replace R77 := R77.mono hl192
 replace R80 := R80.mono hl192
 replace R83 := R83.mono hl192
 replace R86 := R86.mono hl192
 replace R89 := R89.mono hl192
 replace R92 := R92.mono hl192
 replace R95 := R95.mono hl192
 replace R98 := R98.mono hl192
 replace R101 := R101.mono hl192
 replace R125 := R125.mono hl192
 refine .so 1 r r r (.cg r r r r (fun _ => .loadA ia30 sz30 r .z (.s (.s (.s (.s (.s (.s (.s (.s (.s (.s (.t (.t (.t (.t (.t .nil))))))))))))))) r r r .mk) (.cg r r r r (fun _ => .ixArr (i := 2) un31 sz30 r r (by decide) (o := 10) r r r .mk) (.cg r r r r (fun _ => .loadA ia30 sz30 r .z (.t (.t (.t (.t (.t .nil))))) r r r .mk) (.cg r r r r (fun _ => .ixArr (i := 0) un31 sz30 r r (by decide) (o := 0) r r r .mk) (.ck 1 r r trivial))))) (.ww r fun ex => ?_)
 have hw222 := W_csr_Turn (I := I191) R77 R80 R83 hd
 refine .call call24 r hw222 r r fun v211 I208 hl209 hv210 => ?_
 obtain ⟨r207, p213, c214, p216, c217, p219, c220, rfl, R215, R218, R221, hd⟩ := hv210
 have le223 := IH.le.trans le206 hl209
 replace R77 := R77.mono hl209
 replace R80 := R80.mono hl209
 replace R83 := R83.mono hl209
 replace R86 := R86.mono hl209
 replace R89 := R89.mono hl209
 replace R92 := R92.mono hl209
 replace R95 := R95.mono hl209
 replace R98 := R98.mono hl209
 replace R101 := R101.mono hl209
 replace R125 := R125.mono hl209
 replace R198 := R198.mono hl209
 replace R201 := R201.mono hl209
 replace R204 := R204.mono hl209
 refine .so 1 r r r (.cg r r r r (fun _ => .loadA ia30 sz30 r .z (.s (.s (.s (.s (.s (.s (.s (.s (.s (.s (.t (.t (.t (.t (.t .nil))))))))))))))) r r r .mk) (.cg r r r r (fun _ => .ixArr (i := 2) un31 sz30 r r (by decide) (o := 10) r r r .mk) (.ck 1 r r trivial))) (.ww r fun ex => ?_)
 have hw239 := W_csr_Turn (I := I208) R95 R98 R101 hd
 refine .call call24 r hw239 r r fun v228 I225 hl226 hv227 => ?_
 obtain ⟨r224, p230, c231, p233, c234, p236, c237, rfl, R232, R235, R238, hd⟩ := hv227
 have le240 := IH.le.trans le223 hl226
 replace R77 := R77.mono hl226
 replace R80 := R80.mono hl226
 replace R83 := R83.mono hl226
 replace R86 := R86.mono hl226
 replace R89 := R89.mono hl226
 replace R92 := R92.mono hl226
 replace R95 := R95.mono hl226
 replace R98 := R98.mono hl226
 replace R101 := R101.mono hl226
 replace R125 := R125.mono hl226
 replace R198 := R198.mono hl226
 replace R201 := R201.mono hl226
 replace R204 := R204.mono hl226
 replace R215 := R215.mono hl226
 replace R218 := R218.mono hl226
 replace R221 := R221.mono hl226
 refine .so 1 r r r (.ck 1 r r trivial) (.ww r fun ex => ?_)
 have hw250 := W_gemm_Cells (I := I225) R198 R201 R204 R215 R218 R221 R232 R235 R238 hd
 refine .call call9 r hw250 r r fun v245 I242 hl243 hv244 => ?_
 obtain ⟨r241, p247, c248, rfl, R249, hd⟩ := hv244
 have le251 := IH.le.trans le240 hl243
 replace R77 := R77.mono hl243
 replace R80 := R80.mono hl243
 replace R83 := R83.mono hl243
 replace R86 := R86.mono hl243
 replace R89 := R89.mono hl243
 replace R92 := R92.mono hl243
 replace R95 := R95.mono hl243
 replace R98 := R98.mono hl243
 replace R101 := R101.mono hl243
 replace R125 := R125.mono hl243
 replace R198 := R198.mono hl243
 replace R201 := R201.mono hl243
 replace R204 := R204.mono hl243
 replace R215 := R215.mono hl243
 replace R218 := R218.mono hl243
 replace R221 := R221.mono hl243
 replace R232 := R232.mono hl243
 replace R235 := R235.mono hl243
 replace R238 := R238.mono hl243
 refine .so 1 r r r trivial (.fk 4 r (.e2 15 (.ks 1 r (.nilS [8, 7, 6, 5] r r (.drop .z (.seq (.sr (.ks 3 r ?_))))))))
 refine splitP hd (fun hb255 hd => ?_) fun hb255 hd => ?_
 · rw [hb255]
   exact .ks 10 r (.nilS [63, 7, 5] r r (.condKT r r (.sr (.ks 1 r (.nilS [2] r r (.ret (pret results6 (.t r .n) le251 ⟨false, r, hd⟩)))))))
 rw [hb255]
 refine .ks 4 r ?_
 refine splitP hd (fun hb256 hd => ?_) fun hb256 hd => ?_
 · rw [hb256]
   exact .ks 6 r (.nilS [63, 7, 5] r r (.condKT r r (.sr (.ks 1 r (.nilS [2] r r (.ret (pret results6 (.t r .n) le251 ⟨false, r, hd⟩)))))))
 rw [hb256]
 refine .ks 1 r (.gyes r r r (.len un33 r r r r (.ks 1 r (.gyes r r r (.len un33 r r r r (.ks 2 r (.nilS [63, 7, 5] r r (.condP r hd (fun hb257 hd => ?_) fun hb257 hd => ?_))))))))
 · exact .sr (.ks 1 r (.nilS [2] r r (.ret (pret results6 (.t r .n) le251 ⟨false, r, hd⟩))))
 refine .skipS [7, 5] r r (.seq (.sr (.ks 1 r (.nilS [9, 7, 5] r r (.block (.loop hd (fun (s523 : Int) c w => ∃ I_, IH.le I242 I_ ∧ Ok ⟨103, [], none⟩ [(5, .slice p123 r117.1.length c124), (7, .slice p247 r241.1.length c248), (9, .int .i64 s523)] c ∧ Sym w0 M I I_ [] w) (fun c w ho hs => ⟨I242, (.refl _), ho.sub ⟨r, r, r, trivial⟩, hs.pick .n⟩) ?_))))))
 rintro s523 next524 hd c w hst
 obtain ⟨I525, hl526, hok, hsym⟩ := hst
 have le527 := IH.le.trans le251 hl526
 replace R125 := R125.mono hl526
 replace R249 := R249.mono hl526
 refine Cod.at hok hsym (.seq (.sr (.ks 2 r (.len un33 r r r r (.ks 1 r (.nilS [67, 9, 7, 5] r r (.condP r hd (fun hb529 hd => ?_) fun hb529 hd => ?_)))))))
 · refine .skipS [9, 7, 5] r r (.seq (.block (.sr (.ks 1 r (.nilS [10, 9, 7, 5] r r (.seq (.sr (.ks 1 r (.nilS [11, 10, 9, 7, 5] r r ?_)))))))))
   refine .block (.loop hd (fun (s : Bool × Int) c w => match s with | (s613, s614) => ∃ I_, IH.le I525 I_ ∧ Ok ⟨103, [], none⟩ [(5, .slice p123 r117.1.length c124), (7, .slice p247 r241.1.length c248), (9, .int .i64 s523), (10, .bool s613), (11, .int .i64 s614)] c ∧ Sym w0 M I I_ [] w) (fun c w ho hs => ⟨I525, (.refl _), ho.sub ⟨r, r, r, r, r, trivial⟩, hs.pick .n⟩) ?_)
   rintro ⟨s613, s614⟩ next615 hd c w hst
   obtain ⟨I616, hl617, hok, hsym⟩ := hst
   have le618 := IH.le.trans le527 hl617
   have le619 := IH.le.trans hl526 hl617
   replace R125 := R125.mono hl617
   replace R249 := R249.mono hl617
   refine Cod.at hok hsym (.seq (.sr (.ks 2 r (.len un33 r r r r (.ks 1 r (.nilS [73, 11, 10, 9, 7, 5] r r (.condP r hd (fun hb621 hd => ?_) fun hb621 hd => ?_)))))))
   · refine .skipS [11, 10, 9, 7, 5] r r (.seq (.block (.dr [0, 1, 2, 3, 4, 5, 6, 7, 8, 9, 10, 11, 12, 13, 14, 15, 16, 17, 18, 19, 20, 21, 22, 23] 24 (.fk 2 r ?_))))
     refine splitP hd (fun hb622 hd => ?_) fun hb622 hd => ?_
     · rw [hb622]
       exact .fk 22 r (.e2 24 (.ks 1 r (.nilS [10, 11, 9, 7, 5] r r (.region (.ks 3 r (.nil' fun c w ho hs => ⟨(true, w64 (s614 + 1)), hd, I616, hl617, ho.sub ⟨r, r, r, r, r, trivial⟩, hs.pick .n⟩))))))
     rw [hb622]
     refine .fk 2 r ?_
     obtain ⟨h623, x624, hx625, hd⟩ := hd
     obtain ⟨b626, o627, cs628, e629, hC630, hr631⟩ := R249.2 _ _ hx625
     cases hr631
     refine .g r r r (fun _ => .gyes r r r (.ixa un33 sz59 r e629 r h623 (idx_lt hx625 h623) r r .mk)) (.g r r r (fun _ => .gyes r r r (.ldW ia59 sz59 hC630 r r r r .mk)) (.fk 2 r ?_))
     obtain ⟨h632, x633, hx634, hd⟩ := hd
     obtain ⟨b635, o636, cs637, e638, hC639, hr640⟩ := R125.2 _ _ hx634
     cases hr640
     refine .g r r r (fun _ => .gyes r r r (.ixa un33 sz59 r e638 r h632 (idx_lt hx634 h632) r r .mk)) (.g r r r (fun _ => .gyes r r r (.fa un59 r sz3 r (o := o636 + s523.toNat * 4 + 1) r r r .mk)) (.g r r r (fun _ => .gyes r r r (.ld1 (j := 1) ia3 hC639 r r r r r .mk)) (.fk 2 r ?_)))
     obtain ⟨h641, x642, hx643, hd⟩ := hd
     obtain ⟨b644, o645, cs646, e647, hC648, hr649⟩ := R125.2 _ _ hx643
     cases hr649
     refine .g r r r (fun _ => .gyes r r r (.ixa un33 sz59 r e647 r h641 (idx_lt hx643 h641) r r .mk)) (.g r r r (fun _ => .gyes r r r (.fa un59 r sz3 r (o := o645 + s523.toNat * 4) r r r .mk)) (.g r r r (fun _ => .gyes r r r (.ld1 (j := 0) ia3 hC648 r r r r r .mk)) (.fk 2 r ?_)))
     obtain ⟨h650, x651, hx652, hd⟩ := hd
     obtain ⟨b653, o654, cs655, e656, hC657, hr658⟩ := R125.2 _ _ hx652
     cases hr658
     refine .g r r r (fun _ => .gyes r r r (.ixa un33 sz59 r e656 r h650 (idx_lt hx652 h650) r r .mk)) (.g r r r (fun _ => .gyes r r r (.fa un59 r sz57 r (o := o654 + s523.toNat * 4 + 2) r r r .mk)) (.g r r r (fun _ => .gyes r r r (.ldA (j := 2) ia57 sz57 hC657 r r (.s (.s (.t (.t .nil)))) r r r .mk)) (.g r r r (fun _ => .gyes r r r (.build zv59 un59 BI59 (.c r r r (.t .nil) (.c r r r (.s (.t .nil)) (.c r r r (.s (.s (.t (.t .nil)))) .n))) (by exact ⟨⟨_, _, r, r, r⟩, ⟨⟨_, _, r, r, r⟩, ⟨⟨_, _, r, r, r⟩, trivial⟩⟩⟩) r r .mk)) (.g r r r (fun _ => .gyes r r r (.eqV r r (EQ59 x624 ({ Row := x633.Col, Col := x642.Row, Val := x651.Val } : Cell)) (EG59 _ _ _ _ _) r r r .mk)) (.fk 1 r (.e2 24 (.ks 1 r (.nilS [10, 11, 9, 7, 5] r r (.region ?_)))))))))
     exact .ks 3 r (.nil' fun c w ho hs => ⟨(x624 == ({ Row := x633.Col, Col := x642.Row, Val := x651.Val } : Cell), w64 (s614 + 1)), hd, I616, hl617, ho.sub ⟨r, r, r, r, r, trivial⟩, hs.pick .n⟩)
   refine .exitS [10, 9, 7, 5] r r (.sr (.ks 2 r (.nilS [101, 9, 7, 5] r r (.condP r hd (fun hb659 hd => ?_) fun hb659 hd => ?_))))
   · exact .sr (.ks 1 r (.nilS [2] r r (.ret (pret results6 (.t r .n) le618 ⟨false, r, hd⟩))))
   exact .skipS [9, 7, 5] r r (.region (.ks 3 r (.nil' fun c w ho hs => ⟨(w64 (s523 + 1)), hd, I616, le619, ho.sub ⟨r, r, r, trivial⟩, hs.pick .n⟩)))
 refine .exitS [] r r (.sr ?_)
 have hw661 := W_law15_live (I := I525) hd
 refine .callP call15 r hw661 r r fun v662 hv663 => ?_
 obtain ⟨r660, rfl, hd⟩ := hv663
 exact .ks 1 r (.nilS [2] r r (.ret (pret results6 (.t r .n) le527 ⟨r660, r, hd⟩)))

end Go.Proofs.YtjabmpfcpekpdaaGreat
