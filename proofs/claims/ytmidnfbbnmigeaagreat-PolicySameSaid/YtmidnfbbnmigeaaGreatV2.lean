/- The walks (printed by a program of ours). -/
import Derived.Test.YtmidnfbbnmigeaaGreatV1
namespace Go.Proofs.YtmidnfbbnmigeaaGreat
open Go Go.Fw
set_option linter.unusedVariables false
set_option linter.unusedSimpArgs false
set_option maxRecDepth 8000
set_option maxHeartbeats 1000000
open Tryz
theorem W_push_sure {I : IH} {a0 : Columns} {a1 : Vec} {p1 : Option Addr} {c2 : Nat} {p4 : Option Addr} {c5 : Nat} {p7 : Option Addr} {c8 : Nat} {p10 : Option Addr} {c11 : Nat} {p13 : Option Addr} {c14 : Nat} {Q : (Columns × Vec) → Prop} (R3 : RepSl eI64 I p1 c2 a0.At) (R6 : RepSl eI64 I p4 c5 a0.Start) (R9 : RepSl eI64 I p7 c8 a0.Row) (R12 : RepSl eI64 I p10 c11 a0.Val) (R15 : RepSl eItem I p13 c14 a1.Items) (hd : push_sure a0 a1 Q) :
  PFun prog 108 [.agg #[.int .i64 a0.Rows, .int .i64 a0.Cols, .slice p1 a0.At.length c2, .slice p4 a0.Start.length c5, .slice p7 a0.Row.length c8, .slice p10 a0.Val.length c11], .agg #[.int .i64 a1.N, .slice p13 a1.Items.length c14]] I (fun I_ v => ∃ r p16 c17 p19 c20 p22 c23 p25 c26 p28 c29, v = .tuple #[.agg #[.int .i64 r.1.Rows, .int .i64 r.1.Cols, .slice p16 r.1.At.length c17, .slice p19 r.1.Start.length c20, .slice p22 r.1.Row.length c23, .slice p25 r.1.Val.length c26], .agg #[.int .i64 r.2.N, .slice p28 r.2.Items.length c29]] ∧ RepSl eI64 I_ p16 c17 r.1.At ∧ RepSl eI64 I_ p19 c20 r.1.Start ∧ RepSl eI64 I_ p22 c23 r.1.Row ∧ RepSl eI64 I_ p25 c26 r.1.Val ∧ RepSl eItem I_ p28 c29 r.2.Items ∧ Q r) := by
 refine Fun.enter func108 r ntmps108 r (.c (.c .n)) fun w0 M => ?_
 refine .sr (.boxA r r r fun b39 => ?_)
 refine .boxA r r r fun b41 => ?_
 refine .allocA zv50 r r fun b43 => ?_
 refine .allocA zv42 r r fun b45 => ?_
 refine .nilS [5, 4, 3, 2] r r (.seq ?_)
 refine Cod.joinQ (σ := Int × Int × (List Int) × (List Int) × (List Int) × (List Int)) hd (fun (s : Int × Int × (List Int) × (List Int) × (List Int) × (List Int)) c w => match s with | (s63, s64, s65, s69, s73, s77) => ∃ I_ p66 c67 p70 c71 p74 c75 p78 c79, IH.le I I_ ∧ RepSl eI64 I_ p66 c67 s65 ∧ RepSl eI64 I_ p70 c71 s69 ∧ RepSl eI64 I_ p74 c75 s73 ∧ RepSl eI64 I_ p78 c79 s77 ∧ Ok ⟨17, [], none⟩ [(2, .pointer (some ⟨b39, 0, none⟩)), (3, .pointer (some ⟨b41, 0, none⟩)), (4, .pointer (some ⟨b43, 0, none⟩)), (5, .pointer (some ⟨b45, 0, none⟩))] c ∧ Sym w0 M I I_ [pto b39 (.cells #[.int .i64 s63, .int .i64 s64, .slice p66 s65.length c67, .slice p70 s69.length c71, .slice p74 s73.length c75, .slice p78 s77.length c79] 50 (0, 0)), pto b41 (.cells #[.int .i64 a1.N, .slice p13 a1.Items.length c14] 42 (0, 0)), pto b43 (.cells #[.int .i64 0, .int .i64 0, .slice none 0 0, .slice none 0 0, .slice none 0 0, .slice none 0 0] 50 (0, 0)), pto b45 (.cells #[.int .i64 0, .slice none 0 0] 42 (0, 0))] w) (fun k81 hd => ?_) ?_
 · skip
   refine .sr (.loadW ia50 sz50 r (.s (.s (.s .z))) r r r ?_)
   have hw83 := W_dcsc_Right (I := I) R3 R6 R9 R12 hd
   refine .callP call133 r hw83 r r fun v84 hv85 => ?_
   obtain ⟨r82, rfl, hd⟩ := hv85
   refine .ks 1 r (.nilS [8, 5, 4, 3, 2] r r (.condP r hd (fun hb86 hd => ?_) fun hb86 hd => ?_))
   · refine .region (.buildSlice 1 un36 sz3 zv3 r r (.c r r r .n) r r fun b87 => ?_)
     refine .ownB (El := eI64) (ys := ([0] : List Int)) .z (.one r) r (.build zv50 un50 BI50 (.c r r r (.s (.s (.s (.t .nil)))) .n) (by exact ⟨⟨_, _, r, r, r⟩, trivial⟩) r r (.storeA sz50 r r (.s (.s (.s (.s .z)))) (.t (.t (.t (.t (.t (.t .nil)))))) r r (.pub .z fun I90 hl91 R92 => ?_)))
     replace R15 := R15.mono hl91
     exact .nil' fun c w ho hs => ⟨(0, 0, ([] : List Int), ([0] : List Int), ([] : List Int), ([] : List Int)), hd, I90, _, _, _, _, _, _, _, _, hl91, .nil _ _ _, R92, .nil _ _ _, .nil _ _ _, ho.sub ⟨r, r, r, r, trivial⟩, hs.pick (.c (.s (.s (.s .z))) (.c (.s (.s .z)) (.c (.s .z) (.c .z .n))))⟩
   exact .skip' fun c w ho hs => ⟨(a0.Rows, a0.Cols, a0.At, a0.Start, a0.Row, a0.Val), hd, I, _, _, _, _, _, _, _, _, (.refl _), R3, R6, R9, R12, ho.sub ⟨r, r, r, r, trivial⟩, hs.pick (.c (.s (.s (.s .z))) (.c (.s (.s .z)) (.c (.s .z) (.c .z .n))))⟩
 rintro ⟨s63, s64, s65, s69, s73, s77⟩ hd c w hst
 obtain ⟨I93, p66, c67, p70, c71, p74, c75, p78, c79, hl94, R68, R72, R76, R80, hok, hsym⟩ := hst
 replace R15 := R15.mono hl94
 refine Cod.at hok hsym (.seq (.sr (.loadW ia42 sz42 r (.s .z) r r r ?_)))
 have hw96 := W_spvec_Right (I := I93) R15 hd
 refine .callP call54 r hw96 r r fun v97 hv98 => ?_
 obtain ⟨r95, rfl, hd⟩ := hv98
 refine .ks 1 r (.nilS [13, 5, 4, 3, 2] r r (.condP r hd (fun hb99 hd => ?_) fun hb99 hd => ?_))
 · refine .region (.build zv42 un42 BI42 .n (by exact trivial) r r (.storeA sz42 r r (.s .z) (.t (.t .nil)) r r (.nilS [5, 4, 3, 2] r r (.seq (.dr [0, 1, 2] 3 (.g r r r (fun _ => .loadW ia50 sz50 r .z r r r .mk) (.g r r r (fun _ => .loadW ia42 sz42 r (.s .z) r r r .mk) (.ww r fun ex => ?_))))))))
   exact .storeA sz50 r r (.s (.s .z)) (.t (.t (.t (.t (.t (.t .nil)))))) r r (.sn 4 r r r (.cg r r r r (fun _ => .loadW ia42 sz42 r (.s .z) r r r .mk) trivial) (.e2 3 (.storeA sz42 r r (.s (.s (.s .z))) (.t (.t .nil)) r r (.nilS [5, 4] r r (.drop .z (.drop .z (.ret (pret results108 (.w ia50 sz50 r .z r (.w ia42 sz42 r (.s .z) r .n)) hl94 ⟨(({ Rows := s63, Cols := s64, At := s65, Start := s69, Row := s73, Val := s77 } : Columns), ({ N := 0, Items := ([] : List Item) } : Vec)), _, _, _, _, _, _, _, _, _, _, r, R68, R72, R76, R80, (.nil _ _ _), hd⟩))))))))
 refine .skipS [5, 4, 3, 2] r r (.seq (.dr [0, 1, 2] 3 (.g r r r (fun _ => .loadW ia50 sz50 r .z r r r .mk) (.g r r r (fun _ => .loadW ia42 sz42 r (.s .z) r r r .mk) (.ww r fun ex => ?_)))))
 exact .storeA sz50 r r (.s (.s .z)) (.t (.t (.t (.t (.t (.t .nil)))))) r r (.sn 4 r r r (.cg r r r r (fun _ => .loadW ia42 sz42 r (.s .z) r r r .mk) trivial) (.e2 3 (.storeA sz42 r r (.s (.s (.s .z))) (.t (.t .nil)) r r (.nilS [5, 4] r r (.drop .z (.drop .z (.ret (pret results108 (.w ia50 sz50 r .z r (.w ia42 sz42 r (.s .z) r .n)) hl94 ⟨(({ Rows := s63, Cols := s64, At := s65, Start := s69, Row := s73, Val := s77 } : Columns), a1), _, _, _, _, _, _, _, _, _, _, r, R68, R72, R76, R80, R15, hd⟩))))))))

theorem W_ring_Is {I : IH} {a0 : Int} {Q : Bool → Prop}  (hd : ring_Is a0 Q) :
  PFun prog 109 [.int .i64 a0] I (fun _ => o1_ Q) := by
 refine Fun.enter func109 r ntmps109 r (.c .n) fun w0 M => ?_
 refine .sr (.ks 1 r (.nilS [0] r r (.sr (.ks 3 r ?_))))
 refine splitP hd (fun hb1 hd => ?_) fun hb1 hd => ?_
 · rw [hb1]
   exact .ks 4 r (.nilS [2] r r (.ret (pret results109 (.t r .n) (.refl _) ⟨(decide (a0 < 6)), r, hd⟩)))
 rw [hb1]
 exact .ks 4 r (.nilS [2] r r (.ret (pret results109 (.t r .n) (.refl _) ⟨false, r, hd⟩)))

theorem W_wide_Of {I : IH} {a0 : Int} {Q : Wide → Prop}  (hd : wide_Of a0 Q) :
  PFun prog 166 [.int .i64 a0] I (fun _ => o16_ Q) := by
 refine Fun.enter func166 r ntmps166 r (.c .n) fun w0 M => ?_
 refine .sr (.allocA zv83 r r fun b1 => ?_)
 exact .nilS [2, 0] r r (.sr (.ks 1 r (.shr' r r (by decide) r r (.ks 1 r (.conv un2 un81 r r r (.build zv83 un83 BI83 (.c r r r (.t .nil) (.c r r r (.s (.t .nil)) .n)) (by exact ⟨⟨_, _, r, r, r⟩, ⟨⟨_, _, r, r, r⟩, trivial⟩⟩) r r (.storeA sz83 r r .z (.t (.t .nil)) r r (.nilS [2] r r (.ret (pret results166 (.w ia83 sz83 r .z r .n) (.refl _) ⟨({ Hi := shr .i64 a0 63, Lo := IntKind.wrap .u64 (a0) } : Wide), r, hd⟩))))))))))

theorem W_ring_truth {I : IH} {a0 : Bool} {Q : Wide → Prop}  (hd : ring_truth a0 Q) :
  PFun prog 164 [.bool a0] I (fun _ => o16_ Q) := by
 refine Fun.enter func164 r ntmps164 r (.c .n) fun w0 M => ?_
 refine .sr (.allocA zv83 r r fun b3 => ?_)
 refine .nilS [2, 0] r r (.seq (.sr (.ks 1 r (.nilS [3, 2] r r (.condP r hd (fun hb5 hd => ?_) fun hb5 hd => ?_)))))
 · refine .sr ?_
   have hw7 := W_wide_Of (I := I) hd
   refine .callP call166 r hw7 r r fun v8 hv9 => ?_
   obtain ⟨r6, rfl, hd⟩ := hv9
   exact .storeA sz83 r r .z (.t (.t .nil)) r r (.nilS [2] r r (.ret (pret results164 (.w ia83 sz83 r .z r .n) (.refl _) ⟨r6, r, hd⟩)))
 exact .skipS [2] r r (.sr (.build zv83 un83 BI83 .n (by exact trivial) r r (.storeA sz83 r r .z (.t (.t .nil)) r r (.nilS [2] r r (.ret (pret results164 (.w ia83 sz83 r .z r .n) (.refl _) ⟨({ Hi := 0, Lo := 0 } : Wide), r, hd⟩))))))

theorem W_wide_halves {I : IH} {a0 : Int} {Q : (Int × Int) → Prop}  (hd : wide_halves a0 Q) :
  PFun prog 193 [.int .u64 a0] I (fun I_ v => ∃ r, v = .agg #[.int .u64 r.1, .int .u64 r.2] ∧ Q r) := by
 refine Fun.enter func193 r ntmps193 r (.c .n) fun w0 M => ?_
 refine .sr (.allocA zv235 r r fun b1 => ?_)
 refine .nilS [2, 0] r r (.sr (.ks 1 r (.shl' r r (by decide) r r (.shr' r r (by decide) r r (.ks 1 r (.shr' r r (by decide) r r (.buildArr zv235 un235 sz81 (.c r r r (.t .nil) (.c r r r (.s (.t .nil)) .n)) r r (.storeA sizeOf235 r r .z (.t (.t .nil)) r r (.nilS [2] r r ?_)))))))))
 exact .ret (pret results193 (.w isAgg235 sizeOf235 r .z r .n) (.refl _) ⟨(shr .u64 (shl .u64 a0 32) 32, shr .u64 a0 32), r, hd⟩)

theorem W_wide_product {I : IH} {a0 : Int} {a1 : Int} {Q : Wide → Prop}  (hd : wide_product a0 a1 Q) :
  PFun prog 185 [.int .u64 a0, .int .u64 a1] I (fun _ => o16_ Q) := by
 refine Fun.enter func185 r ntmps185 r (.c (.c .n)) fun w0 M => ?_
 refine .sr (.allocA zv83 r r fun b3 => ?_)
 refine .nilS [4, 1, 0] r r (.sr (.ks 1 r ?_))
 have hw18 := W_wide_halves (I := I) hd
 refine .callP call193 r hw18 r r fun v19 hv20 => ?_
 obtain ⟨r17, rfl, hd⟩ := hv20
 refine .ks 1 r ?_
 have hw22 := W_wide_halves (I := I) hd
 refine .callP call193 r hw22 r r fun v23 hv24 => ?_
 obtain ⟨r21, rfl, hd⟩ := hv24
 refine .allocA zv235 r r fun b25 => ?_
 refine .allocA zv235 r r fun b27 => ?_
 refine .storeA sizeOf235 r r (.s .z) (.t (.t .nil)) r r (.storeA sizeOf235 r r .z (.t (.t .nil)) r r (.nilS [6, 5, 4] r r (.sr (.ixArr (i := 0) un235 sz81 r r (by decide) (o := 0) r r r (.load1 ia81 r (.s .z) r r r (.ixArr (i := 0) un235 sz81 r r (by decide) (o := 0) r r r (.load1 ia81 r .z r r r (.ks 2 r (.nilS [7, 6, 5, 4] r r ?_)))))))))
 refine .seq (.dr [0, 1, 2, 3, 4, 5, 10, 6, 7, 8, 9, 999] 11 (.g r r r (fun _ => .ixArr (i := 1) un235 sz81 r r (by decide) (o := 1) r r r .mk) (.g r r r (fun _ => .load1 ia81 r (.s .z) r r r .mk) (.g r r r (fun _ => .ixArr (i := 0) un235 sz81 r r (by decide) (o := 0) r r r .mk) (.g r r r (fun _ => .load1 ia81 r .z r r r .mk) (.fk 2 r (.a (fun b => .pointer (some ⟨b, 0, none⟩)) (fun b => pto b (.cells #[.int .u64 0, .int .u64 0] 235 (0, 0))) r r r r (fun _ L hL ex => .allocA zv235 r r fun b => .mk (val := fun b => .pointer (some ⟨b, 0, none⟩)) (atom := fun b => pto b (.cells #[.int .u64 0, .int .u64 0] 235 (0, 0))) hL b) (.ww r fun ex => ?_))))))))
 have hw41 := W_wide_halves (I := I) hd
 refine .callP call193 r hw41 r r fun v42 hv43 => ?_
 obtain ⟨r40, rfl, hd⟩ := hv43
 refine .so 3 r r r (.ck 1 r r (.cg r r r r (fun _ => .load1 ia81 r .z r r r .mk) (.cg r r r r (fun _ => .ixArr (i := 0) un235 sz81 r r (by decide) (o := 0) r r r .mk) (.cg r r r r (fun _ => .load1 ia81 r (.s .z) r r r .mk) (.cg r r r r (fun _ => .ixArr (i := 1) un235 sz81 r r (by decide) (o := 1) r r r .mk) trivial))))) (.g r r r (fun _ => .index1 (i := 1) un235 sz81 ia81 r r (by decide) r r r .mk) (.fk 1 r (.ww r fun ex => ?_)))
 have hw45 := W_wide_halves (I := I) hd
 refine .callP call193 r hw45 r r fun v46 hv47 => ?_
 obtain ⟨r44, rfl, hd⟩ := hv47
 refine .so 3 r r r trivial (.b r fun b48 => DrawD.nop (.e2 11 (.storeA sizeOf235 r r (.s (.s (.s .z))) (.t (.t .nil)) r r (.nilS [8, 7, 6, 5, 4] r r (.sr (.ixArr (i := 0) un235 sz81 r r (by decide) (o := 0) r r r (.load1 ia81 r (.s .z) r r r (.ixArr (i := 1) un235 sz81 r r (by decide) (o := 1) r r r (.load1 ia81 r .z r r r ?_)))))))))
 refine .ks 1 r (.ixArr (i := 0) un235 sz81 r r (by decide) (o := 0) r r r (.load1 ia81 r (.s (.s (.s .z))) r r r (.ks 1 r ?_)))
 have hw56 := W_wide_halves (I := I) hd
 refine .callP call193 r hw56 r r fun v57 hv58 => ?_
 obtain ⟨r55, rfl, hd⟩ := hv58
 refine .allocA zv235 r r fun b59 => ?_
 refine .storeA sizeOf235 r r .z (.t (.t .nil)) r r (.nilS [9, 8, 7, 6, 5, 4] r r (.seq (.dr [0, 1, 2, 3, 4, 5, 6, 7, 8, 9, 10, 11, 12, 13, 14, 15, 16, 17, 18, 19] 20 (.g r r r (fun _ => .ixArr (i := 1) un235 sz81 r r (by decide) (o := 1) r r r .mk) (.g r r r (fun _ => .load1 ia81 r (.s (.s .z)) r r r .mk) (.g r r r (fun _ => .ixArr (i := 1) un235 sz81 r r (by decide) (o := 1) r r r .mk) (.g r r r (fun _ => .load1 ia81 r (.s .z) r r r .mk) (.fk 1 r (.g r r r (fun _ => .ixArr (i := 1) un235 sz81 r r (by decide) (o := 1) r r r .mk) ?_)))))))))
 refine .g r r r (fun _ => .load1 ia81 r (.s (.s (.s (.s .z)))) r r r .mk) (.fk 1 r (.g r r r (fun _ => .ixArr (i := 1) un235 sz81 r r (by decide) (o := 1) r r r .mk) (.g r r r (fun _ => .load1 ia81 r .z r r r .mk) (.fk 1 r (.g r r r (fun _ => .conv un81 un2 r r r .mk) (.g r r r (fun _ => .ixArr (i := 0) un235 sz81 r r (by decide) (o := 0) r r r .mk) (.g r r r (fun _ => .load1 ia81 r .z r r r .mk) (.g r r r (fun _ => .shl' r r (by decide) r r .mk) (.fk 1 r ?_)))))))))
 refine .ww r fun ex => ?_
 have hw62 := W_wide_halves (I := I) hd
 refine .callP call193 r hw62 r r fun v63 hv64 => ?_
 obtain ⟨r61, rfl, hd⟩ := hv64
 refine .so 5 r r r (.cg r r r r (fun _ => .shl' r r (by decide) r r .mk) (.cg r r r r (fun _ => .load1 ia81 r .z r r r .mk) (.cg r r r r (fun _ => .ixArr (i := 0) un235 sz81 r r (by decide) (o := 0) r r r .mk) (.cg r r r r (fun _ => .conv un81 un2 r r r .mk) (.ck 1 r r (.cg r r r r (fun _ => .load1 ia81 r .z r r r .mk) (.cg r r r r (fun _ => .ixArr (i := 1) un235 sz81 r r (by decide) (o := 1) r r r .mk) (.ck 1 r r (.cg r r r r (fun _ => .load1 ia81 r (.s (.s (.s (.s .z)))) r r r .mk) (.cg r r r r (fun _ => .ixArr (i := 1) un235 sz81 r r (by decide) (o := 1) r r r .mk) (.ck 1 r r (.cg r r r r (fun _ => .load1 ia81 r (.s .z) r r r .mk) (.cg r r r r (fun _ => .ixArr (i := 1) un235 sz81 r r (by decide) (o := 1) r r r .mk) (.cg r r r r (fun _ => .load1 ia81 r (.s (.s .z)) r r r .mk) (.cg r r r r (fun _ => .ixArr (i := 1) un235 sz81 r r (by decide) (o := 1) r r r .mk) trivial))))))))))))))) (.g r r r (fun _ => .index1 (i := 0) un235 sz81 ia81 r r (by decide) r r r .mk) (.fk 1 r (.g r r r (fun _ => .build zv83 un83 BI83 (.c r r r (.t .nil) (.c r r r (.s (.t .nil)) .n)) (by exact ⟨⟨_, _, r, r, r⟩, ⟨⟨_, _, r, r, r⟩, trivial⟩⟩) r r .mk) (.e2 20 (.storeA sz83 r r (.s (.s (.s .z))) (.t (.t .nil)) r r (.nilS [4] r r (.drop .z (.drop .z (.drop .z ?_)))))))))
 exact .drop (.s .z) (.ret (pret results185 (.w ia83 sz83 r .z r .n) (.refl _) ⟨({ Hi := w64 (IntKind.wrap .u64 ((IntKind.wrap .u64 ((IntKind.wrap .u64 (r17.2 * r21.2)) + r44.2)) + r55.2)), Lo := bor .u64 (shl .u64 r55.1 32) r61.1 } : Wide), r, hd⟩))

theorem W_wide_size {I : IH} {a0 : Int} {Q : Int → Prop}  (hd : wide_size a0 Q) :
  PFun prog 186 [.int .i64 a0] I (fun _ => o3_ Q) := by
 refine Fun.enter func186 r ntmps186 r (.c .n) fun w0 M => ?_
 refine .sr (.ks 1 r (.nilS [0] r r (.seq (.sr (.ks 2 r (.nilS [4, 0] r r (.condP r hd (fun hb1 hd => ?_) fun hb1 hd => ?_)))))))
 · exact .sr (.ks 1 r (.conv un2 un81 r r r (.neg r r r (.ks 1 r (.nilS [2] r r (.ret (pret results186 (.t r .n) (.refl _) ⟨(IntKind.wrap .u64 (0 - (IntKind.wrap .u64 (a0)))), r, hd⟩)))))))
 exact .skipS [0] r r (.sr (.ks 1 r (.conv un2 un81 r r r (.ks 1 r (.nilS [2] r r (.ret (pret results186 (.t r .n) (.refl _) ⟨(IntKind.wrap .u64 (a0)), r, hd⟩)))))))

theorem W_wide_carry {I : IH} {a0 : Bool} {Q : Int → Prop}  (hd : wide_carry a0 Q) :
  PFun prog 189 [.bool a0] I (fun _ => o3_ Q) := by
 refine Fun.enter func189 r ntmps189 r (.c .n) fun w0 M => ?_
 refine .sr (.ks 1 r (.nilS [0] r r (.seq (.sr (.ks 1 r (.nilS [3] r r (.condP r hd (fun hb1 hd => ?_) fun hb1 hd => ?_)))))))
 · exact .sr (.ks 1 r (.nilS [2] r r (.ret (pret results189 (.t r .n) (.refl _) ⟨1, r, hd⟩))))
 exact .skipS [] r r (.sr (.ks 1 r (.nilS [2] r r (.ret (pret results189 (.t r .n) (.refl _) ⟨0, r, hd⟩)))))

theorem W_wide_Sub {I : IH} {a0 : Wide} {a1 : Wide} {Q : Wide → Prop}  (hd : wide_Sub a0 a1 Q) :
  PFun prog 187 [.agg (encWide a0).toArray, .agg (encWide a1).toArray] I (fun _ => o16_ Q) := by
 refine Fun.enter func187 r ntmps187 r (.c (.c .n)) fun w0 M => ?_
 refine .sr (.boxA r r r fun b7 => ?_)
 refine .boxA r r r fun b9 => ?_
 refine .allocA zv83 r r fun b11 => ?_
 refine .nilS [4, 3, 2] r r (.seq (.dr [0, 1, 2, 3, 4, 5, 6, 7, 8, 9, 10, 11, 15, 16, 17, 18, 19, 12, 13, 14, 20] 21 (.g r r r (fun _ => .fa un83 r sz2 r (o := 0) r r r .mk) (.g r r r (fun _ => .load1 ia2 r (.s (.s .z)) r r r .mk) (.g r r r (fun _ => .conv un2 un81 r r r .mk) (.g r r r (fun _ => .fa un83 r sz2 r (o := 0) r r r .mk) (.g r r r (fun _ => .load1 ia2 r (.s .z) r r r .mk) (.g r r r (fun _ => .conv un2 un81 r r r .mk) (.fk 1 r ?_)))))))))
 refine .g r r r (fun _ => .fa un83 r sz81 r (o := 1) r r r .mk) (.g r r r (fun _ => .load1 ia81 r (.s (.s .z)) r r r .mk) (.g r r r (fun _ => .fa un83 r sz81 r (o := 1) r r r .mk) (.g r r r (fun _ => .load1 ia81 r (.s .z) r r r .mk) (.fk 1 r (.g r r r (fun _ => .fa un83 r sz81 r (o := 1) r r r .mk) (.g r r r (fun _ => .load1 ia81 r (.s (.s .z)) r r r .mk) (.g r r r (fun _ => .fa un83 r sz81 r (o := 1) r r r .mk) (.g r r r (fun _ => .load1 ia81 r (.s .z) r r r .mk) (.fk 1 r ?_)))))))))
 refine .ww r fun ex => ?_
 have hw14 := W_wide_carry (I := I) hd
 refine .callP call189 r hw14 r r fun v15 hv16 => ?_
 obtain ⟨r13, rfl, hd⟩ := hv16
 exact .so 3 r r r (.ck 1 r r (.cg r r r r (fun _ => .load1 ia81 r (.s .z) r r r .mk) (.cg r r r r (fun _ => .fa un83 r sz81 r (o := 1) r r r .mk) (.cg r r r r (fun _ => .load1 ia81 r (.s (.s .z)) r r r .mk) (.cg r r r r (fun _ => .fa un83 r sz81 r (o := 1) r r r .mk) (.ck 1 r r (.cg r r r r (fun _ => .conv un2 un81 r r r .mk) (.cg r r r r (fun _ => .load1 ia2 r (.s .z) r r r .mk) (.cg r r r r (fun _ => .fa un83 r sz2 r (o := 0) r r r .mk) (.cg r r r r (fun _ => .conv un2 un81 r r r .mk) (.cg r r r r (fun _ => .load1 ia2 r (.s (.s .z)) r r r .mk) (.cg r r r r (fun _ => .fa un83 r sz2 r (o := 0) r r r .mk) trivial)))))))))))) (.fk 1 r (.g r r r (fun _ => .conv un81 un2 r r r .mk) (.g r r r (fun _ => .build zv83 un83 BI83 (.c r r r (.t .nil) (.c r r r (.s (.t .nil)) .n)) (by exact ⟨⟨_, _, r, r, r⟩, ⟨⟨_, _, r, r, r⟩, trivial⟩⟩) r r .mk) (.e2 21 (.storeA sz83 r r .z (.t (.t .nil)) r r (.nilS [4] r r (.drop (.s .z) (.drop (.s .z) (.ret (pret results187 (.w ia83 sz83 r .z r .n) (.refl _) ⟨({ Hi := w64 (IntKind.wrap .u64 ((IntKind.wrap .u64 ((IntKind.wrap .u64 (a0.Hi)) - (IntKind.wrap .u64 (a1.Hi)))) - r13)), Lo := IntKind.wrap .u64 (a0.Lo - a1.Lo) } : Wide), r, hd⟩))))))))))

theorem W_wide_Mul {I : IH} {a0 : Int} {a1 : Int} {Q : Wide → Prop}  (hd : wide_Mul a0 a1 Q) :
  PFun prog 165 [.int .i64 a0, .int .i64 a1] I (fun _ => o16_ Q) := by
 refine Fun.enter func165 r ntmps165 r (.c (.c .n)) fun w0 M => ?_
 refine .sr (.allocA zv83 r r fun b3 => ?_)
 refine .nilS [4, 1, 0] r r (.sr (.ks 1 r ?_))
 have hw20 := W_wide_size (I := I) hd
 refine .callP call186 r hw20 r r fun v21 hv22 => ?_
 obtain ⟨r19, rfl, hd⟩ := hv22
 refine .ks 1 r ?_
 have hw24 := W_wide_size (I := I) hd
 refine .callP call186 r hw24 r r fun v25 hv26 => ?_
 obtain ⟨r23, rfl, hd⟩ := hv26
 have hw28 := W_wide_product (I := I) hd
 refine .callP call185 r hw28 r r fun v29 hv30 => ?_
 obtain ⟨r27, rfl, hd⟩ := hv30
 refine .allocA zv83 r r fun b31 => ?_
 refine .storeA sz83 r r .z (.t (.t .nil)) r r (.nilS [5, 4, 1, 0] r r (.seq (.sr (.ks 4 r (.neB underlying4 r r r r (.nilS [15, 5, 4] r r (.condP r hd (fun hb33 hd => ?_) fun hb33 hd => ?_)))))))
 · refine .sr (.build zv83 un83 BI83 .n (by exact trivial) r r (.loadW ia83 sz83 r .z r r r ?_))
   have hw35 := W_wide_Sub (I := I) hd
   refine .callP call187 r hw35 r r fun v36 hv37 => ?_
   obtain ⟨r34, rfl, hd⟩ := hv37
   exact .storeA sz83 r r (.s .z) (.t (.t .nil)) r r (.nilS [4] r r (.drop .z (.ret (pret results165 (.w ia83 sz83 r .z r .n) (.refl _) ⟨r34, r, hd⟩))))
 exact .skipS [5, 4] r r (.sr (.loadW ia83 sz83 r .z r r r (.storeA sz83 r r (.s .z) (.t (.t .nil)) r r (.nilS [4] r r (.drop .z (.ret (pret results165 (.w ia83 sz83 r .z r .n) (.refl _) ⟨r27, r, hd⟩)))))))

theorem W_cmp_isNaN_int64 {I : IH} {a0 : Int} {Q : Bool → Prop}  (hd : cmp_isNaN_int64 a0 Q) :
  PFun prog 196 [.int .i64 a0] I (fun _ => o1_ Q) := by
 refine Fun.enter func196 r ntmps196 r (.c .n) fun w0 M => ?_
 exact .sr (.ks 1 r (.nilS [0] r r (.sr (.ks 4 r (.nilS [2] r r (.ret (pret results196 (.t r .n) (.refl _) ⟨(a0 != a0), r, hd⟩)))))))

theorem W_cmp_Compare_int64 {I : IH} {a0 : Int} {a1 : Int} {Q : Int → Prop}  (hd : cmp_Compare_int64 a0 a1 Q) :
  PFun prog 194 [.int .i64 a0, .int .i64 a1] I (fun _ => o0_ Q) := by
 refine Fun.enter func194 r ntmps194 r (.c (.c .n)) fun w0 M => ?_
 refine .sr (.ks 1 r (.nilS [1, 0] r r (.sr (.ks 1 r ?_))))
 have hw6 := W_cmp_isNaN_int64 (I := I) hd
 refine .callP call196 r hw6 r r fun v7 hv8 => ?_
 obtain ⟨r5, rfl, hd⟩ := hv8
 refine .ks 1 r (.nilS [5, 1, 0] r r (.sr (.ks 1 r ?_)))
 have hw14 := W_cmp_isNaN_int64 (I := I) hd
 refine .callP call196 r hw14 r r fun v15 hv16 => ?_
 obtain ⟨r13, rfl, hd⟩ := hv16
 refine .ks 1 r (.nilS [6, 5, 1, 0] r r (.seq (.sr (.ks 1 r (.nilS [11, 6, 1, 0] r r (.condP r hd (fun hb19 hd => ?_) fun hb19 hd => ?_))))))
 · refine .seq (.sr (.ks 1 r (.nilS [12] r r (.condP r hd (fun hb20 hd => ?_) fun hb20 hd => ?_))))
   · exact .sr (.ks 1 r (.nilS [4] r r (.ret (pret results194 (.t r .n) (.refl _) ⟨0, r, hd⟩))))
   exact .skipS [] r r (.sr (.ks 1 r (.nilS [4] r r (.ret (pret results194 (.t r .n) (.refl _) ⟨(-1), r, hd⟩)))))
 refine .skipS [6, 1, 0] r r (.seq (.sr (.ks 1 r (.nilS [13, 1, 0] r r (.condP r hd (fun hb22 hd => ?_) fun hb22 hd => ?_)))))
 · exact .sr (.ks 1 r (.nilS [4] r r (.ret (pret results194 (.t r .n) (.refl _) ⟨1, r, hd⟩))))
 refine .skipS [1, 0] r r (.seq (.sr (.ks 3 r (.nilS [16, 1, 0] r r (.condP r hd (fun hb24 hd => ?_) fun hb24 hd => ?_)))))
 · exact .sr (.ks 1 r (.nilS [4] r r (.ret (pret results194 (.t r .n) (.refl _) ⟨(-1), r, hd⟩))))
 refine .skipS [1, 0] r r (.seq (.sr (.ks 3 r (.nilS [19] r r (.condP r hd (fun hb25 hd => ?_) fun hb25 hd => ?_)))))
 · exact .sr (.ks 1 r (.nilS [4] r r (.ret (pret results194 (.t r .n) (.refl _) ⟨1, r, hd⟩))))
 exact .skipS [] r r (.sr (.ks 1 r (.nilS [4] r r (.ret (pret results194 (.t r .n) (.refl _) ⟨0, r, hd⟩)))))

theorem W_cmp_isNaN_uint64 {I : IH} {a0 : Int} {Q : Bool → Prop}  (hd : cmp_isNaN_uint64 a0 Q) :
  PFun prog 197 [.int .u64 a0] I (fun _ => o1_ Q) := by
 refine Fun.enter func197 r ntmps197 r (.c .n) fun w0 M => ?_
 exact .sr (.ks 1 r (.nilS [0] r r (.sr (.ks 4 r (.nilS [2] r r (.ret (pret results197 (.t r .n) (.refl _) ⟨(a0 != a0), r, hd⟩)))))))

theorem W_cmp_Compare_uint64 {I : IH} {a0 : Int} {a1 : Int} {Q : Int → Prop}  (hd : cmp_Compare_uint64 a0 a1 Q) :
  PFun prog 195 [.int .u64 a0, .int .u64 a1] I (fun _ => o0_ Q) := by
 refine Fun.enter func195 r ntmps195 r (.c (.c .n)) fun w0 M => ?_
 refine .sr (.ks 1 r (.nilS [1, 0] r r (.sr (.ks 1 r ?_))))
 have hw6 := W_cmp_isNaN_uint64 (I := I) hd
 refine .callP call197 r hw6 r r fun v7 hv8 => ?_
 obtain ⟨r5, rfl, hd⟩ := hv8
 refine .ks 1 r (.nilS [5, 1, 0] r r (.sr (.ks 1 r ?_)))
 have hw14 := W_cmp_isNaN_uint64 (I := I) hd
 refine .callP call197 r hw14 r r fun v15 hv16 => ?_
 obtain ⟨r13, rfl, hd⟩ := hv16
 refine .ks 1 r (.nilS [6, 5, 1, 0] r r (.seq (.sr (.ks 1 r (.nilS [11, 6, 1, 0] r r (.condP r hd (fun hb19 hd => ?_) fun hb19 hd => ?_))))))
 · refine .seq (.sr (.ks 1 r (.nilS [12] r r (.condP r hd (fun hb20 hd => ?_) fun hb20 hd => ?_))))
   · exact .sr (.ks 1 r (.nilS [4] r r (.ret (pret results195 (.t r .n) (.refl _) ⟨0, r, hd⟩))))
   exact .skipS [] r r (.sr (.ks 1 r (.nilS [4] r r (.ret (pret results195 (.t r .n) (.refl _) ⟨(-1), r, hd⟩)))))
 refine .skipS [6, 1, 0] r r (.seq (.sr (.ks 1 r (.nilS [13, 1, 0] r r (.condP r hd (fun hb22 hd => ?_) fun hb22 hd => ?_)))))
 · exact .sr (.ks 1 r (.nilS [4] r r (.ret (pret results195 (.t r .n) (.refl _) ⟨1, r, hd⟩))))
 refine .skipS [1, 0] r r (.seq (.sr (.ks 3 r (.nilS [16, 1, 0] r r (.condP r hd (fun hb24 hd => ?_) fun hb24 hd => ?_)))))
 · exact .sr (.ks 1 r (.nilS [4] r r (.ret (pret results195 (.t r .n) (.refl _) ⟨(-1), r, hd⟩))))
 refine .skipS [1, 0] r r (.seq (.sr (.ks 3 r (.nilS [19] r r (.condP r hd (fun hb25 hd => ?_) fun hb25 hd => ?_)))))
 · exact .sr (.ks 1 r (.nilS [4] r r (.ret (pret results195 (.t r .n) (.refl _) ⟨1, r, hd⟩))))
 exact .skipS [] r r (.sr (.ks 1 r (.nilS [4] r r (.ret (pret results195 (.t r .n) (.refl _) ⟨0, r, hd⟩)))))

theorem W_wide_Compare {I : IH} {a0 : Wide} {a1 : Wide} {Q : Int → Prop}  (hd : wide_Compare a0 a1 Q) :
  PFun prog 188 [.agg (encWide a0).toArray, .agg (encWide a1).toArray] I (fun _ => o0_ Q) := by
 refine Fun.enter func188 r ntmps188 r (.c (.c .n)) fun w0 M => ?_
 refine .sr (.boxA r r r fun b5 => ?_)
 refine .boxA r r r fun b7 => ?_
 refine .ks 1 r (.nilS [3, 2] r r (.seq (.dr [0, 1, 2, 3, 5, 6, 7, 8, 4, 9, 10, 11] 12 (.g r r r (fun _ => .fa un83 r sz2 r (o := 0) r r r .mk) (.g r r r (fun _ => .load1 ia2 r (.s .z) r r r .mk) (.g r r r (fun _ => .fa un83 r sz2 r (o := 0) r r r .mk) (.g r r r (fun _ => .load1 ia2 r .z r r r .mk) (.g r r r (fun _ => .fa un83 r sz81 r (o := 1) r r r .mk) (.g r r r (fun _ => .load1 ia81 r (.s .z) r r r .mk) ?_)))))))))
 refine .g r r r (fun _ => .fa un83 r sz81 r (o := 1) r r r .mk) (.g r r r (fun _ => .load1 ia81 r .z r r r .mk) (.ww r fun ex => ?_))
 have hw10 := W_cmp_Compare_int64 (I := I) hd
 refine .callP call194 r hw10 r r fun v11 hv12 => ?_
 obtain ⟨r9, rfl, hd⟩ := hv12
 refine .so 2 r r r (.cg r r r r (fun _ => .load1 ia81 r .z r r r .mk) (.cg r r r r (fun _ => .fa un83 r sz81 r (o := 1) r r r .mk) (.cg r r r r (fun _ => .load1 ia81 r (.s .z) r r r .mk) (.cg r r r r (fun _ => .fa un83 r sz81 r (o := 1) r r r .mk) trivial)))) (.ww r fun ex => ?_)
 have hw14 := W_cmp_Compare_uint64 (I := I) hd
 refine .callP call195 r hw14 r r fun v15 hv16 => ?_
 obtain ⟨r13, rfl, hd⟩ := hv16
 refine .so 2 r r r trivial (.ww r fun ex => ?_)
 refine .buildSlice 2 un36 sz3 zv3 r r (.c r r r (.c r r r .n)) r r fun b17 => ?_
 refine .so 3 r r r trivial (.ww r fun ex => ?_)
 refine .pubB (El := eI64) (ys := ([r9, r13] : List Int)) (k := 2) .z (RepCs.cons (cs := [.int .i64 r9]) r (RepCs.cons (cs := [.int .i64 r13]) r .nil)) r fun I19 hl20 R21 => ?_
 have hw23 := W_cmp_Or_int (I := I19) R21 hd
 refine .callP call130 r hw23 r r fun v24 hv25 => ?_
 obtain ⟨r22, rfl, hd⟩ := hv25
 exact .so 2 r r r trivial (.e2 12 (.ks 1 r (.nilS [4] r r (.drop .z (.drop .z (.ret (pret results188 (.t r .n) hl20 ⟨r22, r, hd⟩)))))))

theorem W_ring_lesser {I : IH} {a0 : Wide} {a1 : Wide} {Q : Wide → Prop}  (hd : ring_lesser a0 a1 Q) :
  PFun prog 167 [.agg (encWide a0).toArray, .agg (encWide a1).toArray] I (fun _ => o16_ Q) := by
 refine Fun.enter func167 r ntmps167 r (.c (.c .n)) fun w0 M => ?_
 refine .sr (.boxA r r r fun b7 => ?_)
 refine .boxA r r r fun b9 => ?_
 refine .allocA zv83 r r fun b11 => ?_
 refine .nilS [4, 3, 2] r r (.seq (.sr (.loadW ia83 sz83 r (.s (.s .z)) r r r (.loadW ia83 sz83 r (.s .z) r r r ?_))))
 have hw14 := W_wide_Compare (I := I) hd
 refine .callP call188 r hw14 r r fun v15 hv16 => ?_
 obtain ⟨r13, rfl, hd⟩ := hv16
 refine .ks 1 r (.nilS [8, 4, 3, 2] r r (.condP r hd (fun hb17 hd => ?_) fun hb17 hd => ?_))
 · exact .sr (.loadW ia83 sz83 r (.s (.s .z)) r r r (.storeA sz83 r r .z (.t (.t .nil)) r r (.nilS [4] r r (.drop (.s .z) (.drop (.s .z) (.ret (pret results167 (.w ia83 sz83 r .z r .n) (.refl _) ⟨a0, r, hd⟩)))))))
 exact .skipS [4, 3] r r (.drop (.s (.s .z)) (.sr (.loadW ia83 sz83 r (.s .z) r r r (.storeA sz83 r r .z (.t (.t .nil)) r r (.nilS [4] r r (.drop (.s .z) (.ret (pret results167 (.w ia83 sz83 r .z r .n) (.refl _) ⟨a1, r, hd⟩))))))))

theorem W_wide_Add {I : IH} {a0 : Wide} {a1 : Wide} {Q : Wide → Prop}  (hd : wide_Add a0 a1 Q) :
  PFun prog 168 [.agg (encWide a0).toArray, .agg (encWide a1).toArray] I (fun _ => o16_ Q) := by
 refine Fun.enter func168 r ntmps168 r (.c (.c .n)) fun w0 M => ?_
 refine .sr (.boxA r r r fun b7 => ?_)
 refine .boxA r r r fun b9 => ?_
 refine .allocA zv83 r r fun b11 => ?_
 refine .nilS [4, 3, 2] r r (.sr (.fa un83 r sz81 r (o := 1) r r r (.load1 ia81 r (.s (.s .z)) r r r (.fa un83 r sz81 r (o := 1) r r r (.load1 ia81 r (.s .z) r r r (.ks 2 r (.nilS [5, 4, 3, 2] r r (.seq (.dr [0, 1, 2, 3, 4, 5, 6, 7, 8, 9, 10, 14, 11, 12, 13, 15] 16 ?_)))))))))
 refine .g r r r (fun _ => .fa un83 r sz2 r (o := 0) r r r .mk) (.g r r r (fun _ => .load1 ia2 r (.s (.s .z)) r r r .mk) (.g r r r (fun _ => .conv un2 un81 r r r .mk) (.g r r r (fun _ => .fa un83 r sz2 r (o := 0) r r r .mk) (.g r r r (fun _ => .load1 ia2 r (.s .z) r r r .mk) (.g r r r (fun _ => .conv un2 un81 r r r .mk) (.fk 2 r (.g r r r (fun _ => .fa un83 r sz81 r (o := 1) r r r .mk) (.g r r r (fun _ => .load1 ia81 r (.s .z) r r r .mk) (.fk 2 r ?_)))))))))
 refine .ww r fun ex => ?_
 have hw14 := W_wide_carry (I := I) hd
 refine .callP call189 r hw14 r r fun v15 hv16 => ?_
 obtain ⟨r13, rfl, hd⟩ := hv16
 exact .so 3 r r r (.ck 2 r r (.cg r r r r (fun _ => .conv un2 un81 r r r .mk) (.cg r r r r (fun _ => .load1 ia2 r (.s .z) r r r .mk) (.cg r r r r (fun _ => .fa un83 r sz2 r (o := 0) r r r .mk) (.cg r r r r (fun _ => .conv un2 un81 r r r .mk) (.cg r r r r (fun _ => .load1 ia2 r (.s (.s .z)) r r r .mk) (.cg r r r r (fun _ => .fa un83 r sz2 r (o := 0) r r r .mk) trivial))))))) (.fk 1 r (.g r r r (fun _ => .conv un81 un2 r r r .mk) (.g r r r (fun _ => .build zv83 un83 BI83 (.c r r r (.t .nil) (.c r r r (.s (.t .nil)) .n)) (by exact ⟨⟨_, _, r, r, r⟩, ⟨⟨_, _, r, r, r⟩, trivial⟩⟩) r r .mk) (.e2 16 (.storeA sz83 r r .z (.t (.t .nil)) r r (.nilS [4] r r (.drop (.s .z) (.drop (.s .z) (.ret (pret results168 (.w ia83 sz83 r .z r .n) (.refl _) ⟨({ Hi := w64 (IntKind.wrap .u64 ((IntKind.wrap .u64 ((IntKind.wrap .u64 (a0.Hi)) + (IntKind.wrap .u64 (a1.Hi)))) + r13)), Lo := IntKind.wrap .u64 (a0.Lo + a1.Lo) } : Wide), r, hd⟩))))))))))

theorem W_ring_Mul {I : IH} {a0 : Int} {a1 : Int} {a2 : Int} {Q : Wide → Prop}  (hd : ring_Mul a0 a1 a2 Q) :
  PFun prog 135 [.int .i64 a0, .int .i64 a1, .int .i64 a2] I (fun _ => o16_ Q) := by
 refine Fun.enter func135 r ntmps135 r (.c (.c (.c .n))) fun w0 M => ?_
 refine .sr (.allocA zv83 r r fun b3 => ?_)
 refine .nilS [6, 2, 1, 0] r r (.seq (.sr (.ks 1 r (.nilS [8, 6, 2, 1, 0] r r (.block (.sr (.ks 2 r (.nilS [9, 8, 6, 2, 1, 0] r r (.condP r hd (fun hb20 hd => ?_) fun hb20 hd => ?_)))))))))
 · refine .sr (.ks 3 r ?_)
   refine splitP hd (fun hb21 hd => ?_) fun hb21 hd => ?_
   · rw [hb21]
     refine .ks 3 r ?_
     have hw23 := W_ring_truth (I := I) hd
     refine .callP call164 r hw23 r r fun v24 hv25 => ?_
     obtain ⟨r22, rfl, hd⟩ := hv25
     exact .storeA sz83 r r .z (.t (.t .nil)) r r (.nilS [6] r r (.ret (pret results135 (.w ia83 sz83 r .z r .n) (.refl _) ⟨r22, r, hd⟩)))
   rw [hb21]
   refine .ks 3 r ?_
   have hw27 := W_ring_truth (I := I) hd
   refine .callP call164 r hw27 r r fun v28 hv29 => ?_
   obtain ⟨r26, rfl, hd⟩ := hv29
   exact .storeA sz83 r r .z (.t (.t .nil)) r r (.nilS [6] r r (.ret (pret results135 (.w ia83 sz83 r .z r .n) (.refl _) ⟨r26, r, hd⟩)))
 refine .sr (.ks 2 r (.nilS [18, 6, 2, 1, 0] r r (.condP r hd (fun hb30 hd => ?_) fun hb30 hd => ?_)))
 · refine .sr (.ks 2 r ?_)
   have hw32 := W_wide_Mul (I := I) hd
   refine .callP call165 r hw32 r r fun v33 hv34 => ?_
   obtain ⟨r31, rfl, hd⟩ := hv34
   exact .storeA sz83 r r .z (.t (.t .nil)) r r (.nilS [6] r r (.ret (pret results135 (.w ia83 sz83 r .z r .n) (.refl _) ⟨r31, r, hd⟩)))
 refine .skipS [6, 2, 1, 0] r r (.seq ?_)
 refine Cod.joinQ (σ := Unit) hd (fun (_ : Unit) c w => ∃ I_, IH.le I I_ ∧ Ok ⟨51, [], none⟩ [(0, .int .i64 a0), (1, .int .i64 a1), (2, .int .i64 a2), (6, .pointer (some ⟨b3, 0, none⟩))] c ∧ Sym w0 M I I_ [pto b3 (.cells #[.int .i64 0, .int .u64 0] 83 (0, 0))] w) (fun k55 hd => ?_) ?_
 · skip
   refine .sr (.ks 1 r ?_)
   have hw57 := W_ring_Is (I := I) hd
   refine .callP call109 r hw57 r r fun v58 hv59 => ?_
   obtain ⟨r56, rfl, hd⟩ := hv59
   refine .ks 1 r ?_
   refine splitP hd (fun hb60 hd => ?_) fun hb60 hd => ?_
   · rw [hb60]
     refine .ks 2 r (.gyes r r r (.maxI r r r r (.ks 2 r (.nilS [30, 6, 2, 1, 0] r r (.condP r hd (fun hb61 hd => ?_) fun hb61 hd => ?_)))))
     · refine .sr ?_
       have hw63 := W_wide_Of (I := I) hd
       refine .callP call166 r hw63 r r fun v64 hv65 => ?_
       obtain ⟨r62, rfl, hd⟩ := hv65
       exact .storeA sz83 r r .z (.t (.t .nil)) r r (.nilS [6] r r (.ret (pret results135 (.w ia83 sz83 r .z r .n) (.refl _) ⟨r62, r, hd⟩)))
     exact .skip' fun c w ho hs => ⟨(), hd, I, (.refl _), ho.sub ⟨r, r, r, r, trivial⟩, hs.pick (.c .z .n)⟩
   rw [hb60]
   exact .ks 5 r (.nilS [30, 6, 2, 1, 0] r r (.condKF r r (.skip' fun c w ho hs => ⟨(), hd, I, (.refl _), ho.sub ⟨r, r, r, r, trivial⟩, hs.pick (.c .z .n)⟩)))
 rintro ⟨⟩ hd c w hst
 obtain ⟨I66, hl67, hok, hsym⟩ := hst
 refine Cod.at hok hsym (.sr (.build zv83 un83 BI83 .n (by exact trivial) r r (.allocA zv83 r r fun b70 => ?_)))
 refine .storeA sz83 r r .z (.t (.t .nil)) r r (.nilS [7, 6, 2, 1, 0] r r (.seq (.sr (.ks 1 r (.nilS [33, 7, 6, 2, 1] r r (.block (.seq (.block (.seq ?_)))))))))
 refine Cod.joinQ (σ := Int × Int) hd (fun (s : Int × Int) c w => match s with | (s88, s89) => ∃ I_, IH.le I66 I_ ∧ Ok ⟨51, [], none⟩ [(2, .int .i64 a2), (6, .pointer (some ⟨b3, 0, none⟩)), (7, .pointer (some ⟨b70, 0, none⟩))] c ∧ Sym w0 M I I_ [pto b3 (.cells #[.int .i64 0, .int .u64 0] 83 (0, 0)), pto b70 (.cells #[.int .i64 s88, .int .u64 s89] 83 (0, 0))] w) (fun k90 hd => ?_) ?_
 · skip
   refine .block (.seq (.block (.seq (.seq (.sr (.ks 2 r (.nilS [34, 33, 7, 6, 2, 1] r r (.condP r hd (fun hb92 hd => ?_) fun hb92 hd => ?_))))))))
   · refine .exitS [7, 6, 2, 1] r r (.region (.ks 1 r ?_))
     have hw94 := W_wide_Of (I := I66) hd
     refine .callP call166 r hw94 r r fun v95 hv96 => ?_
     obtain ⟨r93, rfl, hd⟩ := hv96
     exact .storeA sz83 r r .z (.t (.t .nil)) r r (.nil' fun c w ho hs => ⟨(r93.Hi, r93.Lo), hd, I66, (.refl _), ho.sub ⟨r, r, r, trivial⟩, hs.pick (.c (.s .z) (.c .z .n))⟩)
   refine .skipS [33, 7, 6, 2, 1] r r (.seq (.sr (.ks 2 r (.nilS [36, 33, 7, 6, 2, 1] r r (.condP r hd (fun hb97 hd => ?_) fun hb97 hd => ?_)))))
   · exact .exit fun c w ho hs => ⟨(0, 0), hd, I66, (.refl _), ho.sub ⟨r, r, r, trivial⟩, hs.pick (.c (.s .z) (.c .z .n))⟩
   refine .skipS [33, 7, 6, 1] r r (.sr (.ks 2 r (.nilS [38, 7, 6, 1] r r (.condP r hd (fun hb98 hd => ?_) fun hb98 hd => ?_))))
   · refine .exitS [6, 1] r r (.drop .z (.seq (.sr (.ks 1 r ?_))))
     have hw100 := W_wide_Of (I := I66) hd
     refine .callP call166 r hw100 r r fun v101 hv102 => ?_
     obtain ⟨r99, rfl, hd⟩ := hv102
     exact .storeA sz83 r r .z (.t (.t .nil)) r r (.nilS [6] r r (.ret (pret results135 (.w ia83 sz83 r .z r .n) hl67 ⟨r99, r, hd⟩)))
   exact .skipS [7, 6] r r (.exitS [7, 6] r r (.sr (.loadW ia83 sz83 r .z r r r (.storeA sz83 r r (.s .z) (.t (.t .nil)) r r (.nilS [6] r r (.drop .z (.ret (pret results135 (.w ia83 sz83 r .z r .n) hl67 ⟨({ Hi := 0, Lo := 0 } : Wide), r, hd⟩))))))))
 rintro ⟨s88, s89⟩ hd c w hst
 obtain ⟨I103, hl104, hok, hsym⟩ := hst
 have le105 := IH.le.trans hl67 hl104
 refine Cod.at hok hsym (.seq (.seq (.dr [1, 2, 0, 3, 4, 5] 6 (.g r r r (fun _ => .loadW ia83 sz83 r (.s .z) r r r .mk) (.fk 1 r (.ww r fun ex => ?_))))))
 have hw107 := W_wide_Of (I := I103) hd
 refine .callP call166 r hw107 r r fun v108 hv109 => ?_
 obtain ⟨r106, rfl, hd⟩ := hv109
 refine .so 2 r r r (.ck 1 r r (.cg r r r r (fun _ => .loadW ia83 sz83 r (.s .z) r r r .mk) trivial)) (.ww r fun ex => ?_)
 have hw111 := W_wide_Of (I := I103) hd
 refine .callP call166 r hw111 r r fun v112 hv113 => ?_
 obtain ⟨r110, rfl, hd⟩ := hv113
 refine .so 2 r r r (.cg r r r r (fun _ => .loadW ia83 sz83 r (.s .z) r r r .mk) trivial) (.ww r fun ex => ?_)
 have hw115 := W_wide_Add (I := I103) hd
 refine .callP call168 r hw115 r r fun v116 hv117 => ?_
 obtain ⟨r114, rfl, hd⟩ := hv117
 refine .so 2 r r r trivial (.ww r fun ex => ?_)
 have hw119 := W_ring_lesser (I := I103) hd
 refine .callP call167 r hw119 r r fun v120 hv121 => ?_
 obtain ⟨r118, rfl, hd⟩ := hv121
 exact .so 2 r r r trivial (.e2 6 (.storeA sz83 r r .z (.t (.t .nil)) r r (.nilS [6] r r (.drop (.s .z) (.ret (pret results135 (.w ia83 sz83 r .z r .n) le105 ⟨r118, r, hd⟩))))))

theorem W_push_column {I : IH} {a0 : Int} {a1 : List Item} {a2 : Int} {a3 : List Int} {a4 : Bool} {p1 : Option Addr} {c2 : Nat} {p4 : Option Addr} {c5 : Nat} {Q : (List Sum) → Prop} (R3 : RepSl eItem I p1 c2 a1) (R6 : RepSl eU64 I p4 c5 a3) (hd : push_column a0 a1 a2 a3 a4 Q) :
  PFun prog 110 [.int .i64 a0, .slice p1 a1.length c2, .int .i64 a2, .slice p4 a3.length c5, .bool a4] I (fun I_ v => ∃ r p7 c8, v = .slice p7 r.length c8 ∧ RepSl eSum I_ p7 c8 r ∧ Q r) := by
 refine Fun.enter func110 r ntmps110 r (.c (.c (.c (.c (.c .n))))) fun w0 M => ?_
 refine .sr (.ks 1 r (.nilS [4, 3, 2, 1, 0] r r (.sr (.ks 1 r (.nilS [11, 4, 3, 2, 1, 0] r r (.seq (.sr (.ks 1 r (.len un32 r r r r ?_)))))))))
 refine .ks 1 r (.nilS [16, 15, 14, 11, 4, 3, 2, 0] r r (.block (.own0 eSum 85 (.loop hd (fun (s : (List Sum) × Int) c w => match s with | (s112, s116) => ∃ I_ p113 c114, IH.le I I_ ∧ Ok ⟨39, [], none⟩ [(0, .int .i64 a0), (2, .int .i64 a2), (3, .slice p4 a3.length c5), (4, .bool a4), (11, .slice p113 s112.length c114), (14, .slice p1 a1.length c2), (15, .int .i64 (a1.length : Int)), (16, .int .i64 s116)] c ∧ Sym w0 M I I_ [OwnSl eSum 85 p113 c114 s112] w) (fun c w ho hs => ⟨I, _, _, (.refl _), ho.sub ⟨r, r, r, r, r, r, r, r, trivial⟩, hs.pick (.c .z .n)⟩) ?_))))
 rintro ⟨s112, s116⟩ next118 hd c w hst
 obtain ⟨I119, p113, c114, hl120, hok, hsym⟩ := hst
 replace R3 := R3.mono hl120
 replace R6 := R6.mono hl120
 refine Cod.at hok hsym (.sr (.ks 1 r (.nilS [17, 16, 15, 14, 11, 4, 3, 2, 0] r r (.seq (.condP r hd (fun hb122 hd => ?_) fun hb122 hd => ?_)))))
 · refine .skipS [16, 15, 14, 11, 4, 3, 2, 0] r r (.seq (.block (.sr ?_)))
   obtain ⟨h134, x135, hx136, hd⟩ := hd
   obtain ⟨b137, o138, cs139, e140, hC141, hr142⟩ := R3.2 _ _ hx136
   cases hr142
   refine .ixa un32 sz80 r e140 r h134 (idx_lt hx136 h134) r r (.ldW isAgg80 sz80 hC141 r r r r (.allocA zv80 r r fun b143 => ?_))
   refine .storeA sz80 r r .z (.t (.t .nil)) r r (.nilS [13, 16, 15, 14, 11, 4, 3, 2, 0] r r (.sr (.ks 1 r (.fa un80 r sz3 r (o := 0) r r r (.load1 ia3 r .z r r r ?_)))))
   have hw150 := W_flags_Has (I := I119) R6 hd
   refine .callP call134 r hw150 r r fun v151 hv152 => ?_
   obtain ⟨r149, rfl, hd⟩ := hv152
   refine .ks 1 r (.neB underlying4 r r r r (.nilS [25, 13, 16, 15, 14, 11, 4, 3, 2, 0] r r (.condP r hd (fun hb153 hd => ?_) fun hb153 hd => ?_)))
   · refine .dr [0, 1, 2, 3, 4, 5, 6, 7, 8, 9, 10] 11 (.fk 1 r (.g r r r (fun _ => .fa un80 r sz3 r (o := 0) r r r .mk) (.g r r r (fun _ => .load1 ia3 r .z r r r .mk) (.fk 1 r (.g r r r (fun _ => .fa un80 r sz2 r (o := 1) r r r .mk) (.g r r r (fun _ => .load1 ia2 r .z r r r .mk) (.fk 1 r (.ww r fun ex => ?_))))))))
     have hw155 := W_ring_Mul (I := I119) hd
     refine .callP call135 r hw155 r r fun v156 hv157 => ?_
     obtain ⟨r154, rfl, hd⟩ := hv157
     refine .so 2 r r r (.cg r r r r (fun _ => .load1 ia3 r .z r r r .mk) (.cg r r r r (fun _ => .fa un80 r sz3 r (o := 0) r r r .mk) (.ck 1 r r trivial))) (.g r r r (fun _ => .build zv85 un85 BI85 (.c r r r (.t .nil) (.c r r r (.s (.t (.t .nil))) .n)) (by exact ⟨⟨_, _, r, r, r⟩, ⟨⟨_, _, r, r, r⟩, trivial⟩⟩) r r .mk) (.ww r fun ex => ?_))
     refine .buildSlice 1 un45 sz85 zv85 r r (.c r r r .n) r r fun b158 => ?_
     refine .so 3 r r r (.ck 1 r r trivial) (.ww r fun ex => ?_)
     obtain ⟨hl160, hd⟩ := hd
     refine .append (ys := [({ At := x135.At, Val := r154 } : Sum)]) 24 (.s (.s .z)) un45 un45 IN85 r r r r r r r r r (.box .z (.one r) r) hl160 r r fun p161 c162 => ?_
     exact .so 3 r r r trivial (.e2 11 (.ks 1 r (.nilS [11, 16, 15, 14, 4, 3, 2, 0] r r (.drop (.s .z) (.drop (.s .z) (.region (.ks 2 r (.nil' fun c w ho hs => ⟨((s112 ++ ([({ At := x135.At, Val := r154 } : Sum)])), w64 (s116 + 1)), hd, I119, _, _, hl120, ho.sub ⟨r, r, r, r, r, r, r, r, trivial⟩, hs.pick (.c .z .n)⟩))))))))
   exact .skipS [16, 15, 14, 11, 4, 3, 2, 0] r r (.drop .z (.region (.ks 2 r (.nil' fun c w ho hs => ⟨(s112, w64 (s116 + 1)), hd, I119, _, _, hl120, ho.sub ⟨r, r, r, r, r, r, r, r, trivial⟩, hs.pick (.c .z .n)⟩))))
 refine .exitS [11] r r (.sr (.ks 2 r (.nilS [10] r r (.pub .z fun I164 hl165 R166 => ?_))))
 have le167 := IH.le.trans hl120 hl165
 exact .ret (pret results110 (.t r .n) le167 ⟨s112, _, _, r, R166, hd⟩)

theorem W_dcsc_items_9d2 {I : IH} {a0 : Columns} {a1 : Int} {p1 : Option Addr} {c2 : Nat} {p4 : Option Addr} {c5 : Nat} {p7 : Option Addr} {c8 : Nat} {p10 : Option Addr} {c11 : Nat} {Q : (Columns × Int) → Prop} (R3 : RepSl eI64 I p1 c2 a0.At) (R6 : RepSl eI64 I p4 c5 a0.Start) (R9 : RepSl eI64 I p7 c8 a0.Row) (R12 : RepSl eI64 I p10 c11 a0.Val) (hd : dcsc_items_9d2 a0 a1 Q) :
  Fun prog 137 #[.agg #[.int .i64 a0.Rows, .int .i64 a0.Cols, .slice p1 a0.At.length c2, .slice p4 a0.Start.length c5, .slice p7 a0.Row.length c8, .slice p10 a0.Val.length c11], .int .i64 a1] I [] (fun I_ v l => ∃ r b13 p14 c15 p17 c18 p20 c21 p23 c24 b26, v = .func (.func 170) #[] #[.pointer (some ⟨b13, 0, none⟩), .pointer (some ⟨b26, 0, none⟩)] ∧ RepSl eI64 I_ p14 c15 r.1.At ∧ RepSl eI64 I_ p17 c18 r.1.Start ∧ RepSl eI64 I_ p20 c21 r.1.Row ∧ RepSl eI64 I_ p23 c24 r.1.Val ∧ l = [pto b13 (.cells #[.int .i64 r.1.Rows, .int .i64 r.1.Cols, .slice p14 r.1.At.length c15, .slice p17 r.1.Start.length c18, .slice p20 r.1.Row.length c21, .slice p23 r.1.Val.length c24] 50 (0, 0)), pto b26 (.cells #[.int .i64 r.2] 3 (0, 0))] ∧ Q r) := by
 refine Fun.enter (vs := [.agg #[.int .i64 a0.Rows, .int .i64 a0.Cols, .slice p1 a0.At.length c2, .slice p4 a0.Start.length c5, .slice p7 a0.Row.length c8, .slice p10 a0.Val.length c11], .int .i64 a1]) func137 r ntmps137 r (.c (.c .n)) fun w0 M => ?_
 refine .sr (.boxA r r r fun b13 => ?_)
 refine .box1 r r r r fun b15 => ?_
 exact .ks 1 r (.nilS [3, 2] r r (.sr (.mkFn r r r r (.ks 1 r (.nilS [4] r r (.ret (oret results137 (.t r .n) (.refl _) (.c (.s .z) (.c .z .n)) ⟨(a0, a1), _, _, _, _, _, _, _, _, _, _, r, R3, R6, R9, R12, r, hd⟩)))))))

theorem W_dcsc_items_1_1ae {I : IH} {o0 : Nat} {o1 : List Item} {o2 : Columns} {o3 : Int} {Y : Nat → (List Item) → Item → ((Bool × Nat × (List Item)) → Prop) → Prop} {b5 : Nat} {p6 : Option Addr} {c7 : Nat} {b10 : Nat} {p11 : Option Addr} {c12 : Nat} {p14 : Option Addr} {c15 : Nat} {p17 : Option Addr} {c18 : Nat} {p20 : Option Addr} {c21 : Nat} {b23 : Nat} {lr : Nat} {Rr : Nat → HA} {Q : (Nat × (List Item)) → Prop} (hY : ∀ {J_ : IH}, I.le J_ → ∀ {y24 : Nat} {y25 : List Item} {x31 : Item} {p27 : Option Addr} {c28 : Nat} {Qy : (Bool × Nat × (List Item)) → Prop}, Y y24 y25 x31 Qy → RFun prog lr [.agg (encItem x31).toArray] J_ [Rr y24, pto b5 (.cells #[.slice p27 y25.length c28] 32 (0, 0)), OwnSl eItem 80 p27 c28 y25] (fun I_ v l => ∃ r p33 c34, v = .bool r.1 ∧ l = [Rr r.2.1, pto b5 (.cells #[.slice p33 r.2.2.length c34] 32 (0, 0)), OwnSl eItem 80 p33 c34 r.2.2] ∧ Qy r)) (R13 : RepSl eI64 I p11 c12 o2.At) (R16 : RepSl eI64 I p14 c15 o2.Start) (R19 : RepSl eI64 I p17 c18 o2.Row) (R22 : RepSl eI64 I p20 c21 o2.Val) (hd : dcsc_items_1_1ae o0 o1 o2 o3 Y Q) :
  Fun prog 170 #[.func (.yield lr) #[] #[], .pointer (some ⟨b10, 0, none⟩), .pointer (some ⟨b23, 0, none⟩)] I [Rr o0, pto b5 (.cells #[.slice p6 o1.length c7] 32 (0, 0)), OwnSl eItem 80 p6 c7 o1, pto b10 (.cells #[.int .i64 o2.Rows, .int .i64 o2.Cols, .slice p11 o2.At.length c12, .slice p14 o2.Start.length c15, .slice p17 o2.Row.length c18, .slice p20 o2.Val.length c21] 50 (0, 0)), pto b23 (.cells #[.int .i64 o3] 3 (0, 0))] (fun I_ v l => ∃ r p25 c26, v = .tuple #[] ∧ l = [Rr r.1, pto b5 (.cells #[.slice p25 r.2.length c26] 32 (0, 0)), OwnSl eItem 80 p25 c26 r.2, pto b10 (.cells #[.int .i64 o2.Rows, .int .i64 o2.Cols, .slice p11 o2.At.length c12, .slice p14 o2.Start.length c15, .slice p17 o2.Row.length c18, .slice p20 o2.Val.length c21] 50 (0, 0)), pto b23 (.cells #[.int .i64 o3] 3 (0, 0))] ∧ Q r) := by
 refine Fun.enter (vs := [.func (.yield lr) #[] #[], .pointer (some ⟨b10, 0, none⟩), .pointer (some ⟨b23, 0, none⟩)]) func170 r ntmps170 r (.c (.c (.c .n))) fun w0 M => ?_
 refine .sr (.fa un50 r sz36 r (o := 3) r r r (.load1 ia36 r (.s (.s (.s .z))) r r r (.load1 ia3 r (.s (.s (.s (.s .z)))) r r r ?_)))
 obtain ⟨h41, x42, hx43, hd⟩ := hd
 obtain ⟨b44, o45, cs46, e47, hC48, hr49⟩ := R16.2 _ _ hx43
 cases hr49
 refine .ixa un36 sz3 r e47 r h41 (idx_lt hx43 h41) r r (.ld1 (j := 0) ia3 hC48 r r r r r (.ks 1 r (.nilS [4, 2, 1, 0] r r (.block (.loop hd (fun (s : (List Item) × Int × Nat) c w => match s with | (s176, s180, s181) => ∃ I_ p177 c178, IH.le I I_ ∧ Ok ⟨34, [], none⟩ [(0, .func (.yield lr) #[] #[]), (1, .pointer (some ⟨b10, 0, none⟩)), (2, .pointer (some ⟨b23, 0, none⟩)), (4, .int .i64 s180)] c ∧ Sym w0 M I I_ [pto b5 (.cells #[.slice p177 s176.length c178] 32 (0, 0)), OwnSl eItem 80 p177 c178 s176, pto b10 (.cells #[.int .i64 o2.Rows, .int .i64 o2.Cols, .slice p11 o2.At.length c12, .slice p14 o2.Start.length c15, .slice p17 o2.Row.length c18, .slice p20 o2.Val.length c21] 50 (0, 0)), pto b23 (.cells #[.int .i64 o3] 3 (0, 0)), Rr s181] w) (fun c w ho hs => ⟨I, _, _, (.refl _), ho.sub ⟨r, r, r, r, trivial⟩, hs.pick (.c (.s .z) (.c (.s .z) (.c (.s .z) (.c (.s .z) (.c .z .n)))))⟩) ?_)))))
 rintro ⟨s176, s180, s181⟩ next182 hd c w hst
 obtain ⟨I183, p177, c178, hl184, hok, hsym⟩ := hst
 replace R13 := R13.mono hl184
 replace R16 := R16.mono hl184
 replace R19 := R19.mono hl184
 replace R22 := R22.mono hl184
 refine Cod.at hok hsym (.seq (.sr (.ks 1 r (.fa un50 r sz36 r (o := 3) r r r (.load1 ia36 r (.s (.s .z)) r r r (.load1 ia3 r (.s (.s (.s .z))) r r r (.ks 1 r ?_)))))))
 obtain ⟨h195, x196, hx197, hd⟩ := hd
 obtain ⟨b198, o199, cs200, e201, hC202, hr203⟩ := R16.2 _ _ hx197
 cases hr203
 refine .ixa un36 sz3 r e201 r h195 (idx_lt hx197 h195) r r (.ld1 (j := 0) ia3 hC202 r r r r r (.ks 1 r (.nilS [17, 4, 2, 1, 0] r r (.condP r hd (fun hb204 hd => ?_) fun hb204 hd => ?_))))
 · refine .skipS [4, 2, 1, 0] r r (.seq (.block (.seq (.ownF (.s .z) fun hne205 => ?_))))
   refine .dr [0, 1, 2, 3, 4, 5, 6, 7, 8, 9, 10, 11, 12, 13] 14 (.fk 1 r (.g r r r (fun _ => .fa un50 r sz36 r (o := 4) r r r .mk) (.g r r r (fun _ => .load1 ia36 r (.s (.s .z)) r r r .mk) (.fk 1 r ?_))))
   obtain ⟨h206, x207, hx208, hd⟩ := hd
   obtain ⟨b209, o210, cs211, e212, hC213, hr214⟩ := R19.2 _ _ hx208
   cases hr214
   refine .g r r r (fun _ => .ixa un36 sz3 r e212 r h206 (idx_lt hx208 h206) r r .mk) (.g r r r (fun _ => .ld1 (j := 0) ia3 hC213 r r r r r .mk) (.g r r r (fun _ => .fa un50 r sz37 r (o := 5) r r r .mk) (.g r r r (fun _ => .load1 ia37 r (.s (.s .z)) r r r .mk) (.fk 1 r ?_))))
   obtain ⟨h215, x216, hx217, hd⟩ := hd
   obtain ⟨b218, o219, cs220, e221, hC222, hr223⟩ := R22.2 _ _ hx217
   cases hr223
   refine .g r r r (fun _ => .ixa un37 sz2 r e221 r h215 (idx_lt hx217 h215) r r .mk) (.g r r r (fun _ => .ld1 (j := 0) ia2 hC222 r r r r r .mk) (.g r r r (fun _ => .build zv80 un80 BI80 (.c r r r (.t .nil) (.c r r r (.s (.t .nil)) .n)) (by exact ⟨⟨_, _, r, r, r⟩, ⟨⟨_, _, r, r, r⟩, trivial⟩⟩) r r .mk) (.ww r fun ex => ?_)))
   have hw224 := hY (J_ := I183) hl184 (y24 := s181) (y25 := s176) (x31 := ({ At := x207, Val := x216 } : Item)) (p27 := p177) (c28 := c178) hd
   refine .callY r r (.c (.s (.s (.s (.s .z)))) (.c .z (.c .z .n))) hw224 r r fun v228 I225 l229 hl226 hv227 => ?_
   obtain ⟨r230, p234, c235, rfl, rfl, hd⟩ := hv227
   have le238 := IH.le.trans hl184 hl226
   replace R13 := R13.mono hl226
   replace R16 := R16.mono hl226
   replace R19 := R19.mono hl226
   replace R22 := R22.mono hl226
   replace hC213 := hC213.mono hl226
   replace hC222 := hC222.mono hl226
   refine .re (m' := (Rr r230.2.1) :: (pto b5 (.cells #[.slice p234 r230.2.2.length c235] 32 (0, 0))) :: (OwnSl eItem 80 p234 c235 r230.2.2) :: (pto b10 (.cells #[.int .i64 o2.Rows, .int .i64 o2.Cols, .slice p11 o2.At.length c12, .slice p14 o2.Start.length c15, .slice p17 o2.Row.length c18, .slice p20 o2.Val.length c21] 50 (0, 0))) :: (pto b23 (.cells #[.int .i64 o3] 3 (0, 0))) :: ex) r (.so 5 r r r trivial (.fk 1 r (.e2 14 (.nilS [33, 4, 2, 1, 0] r r (.condP r hd (fun hb239 hd => ?_) fun hb239 hd => ?_)))))
   · exact .ret (oret results170 .n le238 (.c .z (.c .z (.c .z (.c .z (.c .z .n))))) ⟨(r230.2.1, r230.2.2), _, _, r, r, hd⟩)
   exact .skipS [4, 2, 1, 0] r r (.region (.ks 3 r (.nil' fun c w ho hs => ⟨(r230.2.2, w64 (s180 + 1), r230.2.1), hd, I225, _, _, le238, ho.sub ⟨r, r, r, r, trivial⟩, hs.pick (.c (.s .z) (.c (.s .z) (.c (.s .z) (.c (.s .z) (.c .z .n)))))⟩)))
 exact .exit (oretN results170 .n hl184 (.c (.s (.s (.s (.s .z)))) (.c .z (.c .z (.c .z (.c .z .n))))) ⟨(s181, s176), _, _, r, r, hd⟩)

theorem W_slices_AppendSeq_api_Item_api_Item_828 {I : IH} {o0 : Columns} {o1 : Int} {b3 : Nat} {p4 : Option Addr} {c5 : Nat} {p7 : Option Addr} {c8 : Nat} {p10 : Option Addr} {c11 : Nat} {p13 : Option Addr} {c14 : Nat} {b16 : Nat} {Q : (List Item) → Prop} (R6 : RepSl eI64 I p4 c5 o0.At) (R9 : RepSl eI64 I p7 c8 o0.Start) (R12 : RepSl eI64 I p10 c11 o0.Row) (R15 : RepSl eI64 I p13 c14 o0.Val) (hd : slices_AppendSeq_api_Item_api_Item_828 o0 o1 Q) :
  Fun prog 169 #[.slice none 0 0, .func (.func 170) #[] #[.pointer (some ⟨b3, 0, none⟩), .pointer (some ⟨b16, 0, none⟩)]] I [pto b3 (.cells #[.int .i64 o0.Rows, .int .i64 o0.Cols, .slice p4 o0.At.length c5, .slice p7 o0.Start.length c8, .slice p10 o0.Row.length c11, .slice p13 o0.Val.length c14] 50 (0, 0)), pto b16 (.cells #[.int .i64 o1] 3 (0, 0))] (fun I_ v l => ∃ r p17 c18, v = .slice p17 r.length c18 ∧ RepSl eItem I_ p17 c18 r ∧ l = [pto b3 (.cells #[.int .i64 o0.Rows, .int .i64 o0.Cols, .slice p4 o0.At.length c5, .slice p7 o0.Start.length c8, .slice p10 o0.Row.length c11, .slice p13 o0.Val.length c14] 50 (0, 0)), pto b16 (.cells #[.int .i64 o1] 3 (0, 0))] ∧ Q r) := by
 refine Fun.enter (vs := [.slice none 0 0, .func (.func 170) #[] #[.pointer (some ⟨b3, 0, none⟩), .pointer (some ⟨b16, 0, none⟩)]]) func169 r ntmps169 r (.c (.c .n)) fun w0 M => ?_
 refine .marks0 (.sr (.box1 r r r r fun b19 => ?_))
 refine .ks 1 r (.nilS [2, 1] r r (.seq (.sr (.ks 1 r (.nilS [6, 2, 1] r r (.block (.own0 eItem 80 (.rangeF [] r call170 (.c (.s (.s .z)) (.c (.s .z) (.c .z (.c .z (.c .z .n))))) fun lr D rc hrc => ?_))))))))
 refine ⟨_, W_dcsc_items_1_1ae (I := I) (lr := lr) (Rr := recA lr [] rc) (o0 := 0) (o1 := ([] : List Item)) (o2 := o0) (o3 := o1) (b5 := b19) (p6 := none) (c7 := 0) (b10 := b3) (p11 := p4) (c12 := c5) (p14 := p7) (c15 := c8) (p17 := p10) (c18 := c11) (p20 := p13) (c21 := c14) (b23 := b16) ?_ R6 R9 R12 R15 hd, ?_⟩
 · skip
   intro I hJ y55 y56 x62 p58 c59 Qy  hd
   replace R6 := R6.mono hJ
   replace R9 := R9.mono hJ
   replace R12 := R12.mono hJ
   replace R15 := R15.mono hJ
   obtain ⟨rfl, hd⟩ := hd
   refine RFun.mk hrc r fun w0 M => ?_
   refine .region (.allocA zv80 r r fun b63 => ?_)
   refine .storeA sz80 r r .z (.t (.t .nil)) r r (.nil' fun c w ho hs => beginR (E' := [(2, _), (5, _)]) ho ⟨r, r, trivial⟩ hs (.s .z) (.block (.region (.load1 ia32 r (.s (.s .z)) r r r (.loadW isAgg80 sz80 r .z r r r (.buildSlice 1 un32 sz80 zv80 r r (.c r r r .n) r r fun b65 => ?_))))))
   obtain ⟨hl67, hd⟩ := hd
   refine .append (ys := [x62]) 16 (.s (.s (.s (.s .z)))) un32 un32 IN80 r r r r r r r r r (.box .z (.one r) r) hl67 r r fun p68 c69 => ?_
   refine .store1 sz32 r r (.s (.s (.s (.s .z)))) (.t .nil) r ?_
   exact .nil' fun c w ho hs => endR 0 (.inl rfl) (.refl _) (.s (.s (.s .z))) (.c (.s (.s (.s .z))) (.c .z .n)) ⟨(true, 0, (y56 ++ ([x62]))), _, _, rfl, rfl, hd⟩ hs
 intro v74 I71 l' hl72 hv73
 obtain ⟨r75, p79, c80, rfl, rfl, hd⟩ := hv73
 replace R6 := R6.mono hl72
 replace R9 := R9.mono hl72
 replace R12 := R12.mono hl72
 replace R15 := R15.mono hl72
 obtain ⟨hz, hd⟩ := hd
 refine ⟨_, _, r, fun hj => ?_, fun i hj => absurd (hz.symm.trans hj) (by simp)⟩
 refine .re (m' := [Marks (D :: []), pto b19 (.cells #[.slice p79 r75.2.length c80] 32 (0, 0)), OwnSl eItem 80 p79 c80 r75.2, pto b3 (.cells #[.int .i64 o0.Rows, .int .i64 o0.Cols, .slice p4 o0.At.length c5, .slice p7 o0.Start.length c8, .slice p10 o0.Row.length c11, .slice p13 o0.Val.length c14] 50 (0, 0)), pto b16 (.cells #[.int .i64 o1] 3 (0, 0))]) r (.mkS [2, 1] r r (.sr (.load1 ia32 r (.s .z) r r r (.ks 1 r (.nilS [4, 1] r r (.drop (.s .z) (.pub (.s .z) fun I83 hl84 R85 => ?_)))))))
 have le86 := IH.le.trans hl72 hl84
 replace R6 := R6.mono hl84
 replace R9 := R9.mono hl84
 replace R12 := R12.mono hl84
 replace R15 := R15.mono hl84
 exact .ret (oretM .z results169 (.t r .n) le86 (.c .z (.c .z .n)) ⟨r75.2, _, _, r, R85, r, hd⟩)

theorem W_slices_Collect_api_Item_d7d {I : IH} {o0 : Columns} {o1 : Int} {b3 : Nat} {p4 : Option Addr} {c5 : Nat} {p7 : Option Addr} {c8 : Nat} {p10 : Option Addr} {c11 : Nat} {p13 : Option Addr} {c14 : Nat} {b16 : Nat} {Q : (List Item) → Prop} (R6 : RepSl eI64 I p4 c5 o0.At) (R9 : RepSl eI64 I p7 c8 o0.Start) (R12 : RepSl eI64 I p10 c11 o0.Row) (R15 : RepSl eI64 I p13 c14 o0.Val) (hd : slices_Collect_api_Item_d7d o0 o1 Q) :
  Fun prog 136 #[.func (.func 170) #[] #[.pointer (some ⟨b3, 0, none⟩), .pointer (some ⟨b16, 0, none⟩)]] I [pto b3 (.cells #[.int .i64 o0.Rows, .int .i64 o0.Cols, .slice p4 o0.At.length c5, .slice p7 o0.Start.length c8, .slice p10 o0.Row.length c11, .slice p13 o0.Val.length c14] 50 (0, 0)), pto b16 (.cells #[.int .i64 o1] 3 (0, 0))] (fun I_ v l => ∃ r p17 c18, v = .slice p17 r.length c18 ∧ RepSl eItem I_ p17 c18 r ∧ l = [pto b3 (.cells #[.int .i64 o0.Rows, .int .i64 o0.Cols, .slice p4 o0.At.length c5, .slice p7 o0.Start.length c8, .slice p10 o0.Row.length c11, .slice p13 o0.Val.length c14] 50 (0, 0)), pto b16 (.cells #[.int .i64 o1] 3 (0, 0))] ∧ Q r) := by
 refine Fun.enter (vs := [.func (.func 170) #[] #[.pointer (some ⟨b3, 0, none⟩), .pointer (some ⟨b16, 0, none⟩)]]) func136 r ntmps136 r (.c .n) fun w0 M => ?_
 refine .sr (.ks 1 r (.nilS [0] r r (.sr (.ks 1 r ?_))))
 have hw17 := W_slices_AppendSeq_api_Item_api_Item_828 (I := I) (o0 := o0) (o1 := o1) (b3 := b3) (p4 := p4) (c5 := c5) (p7 := p7) (c8 := c8) (p10 := p10) (c11 := c11) (p13 := p13) (c14 := c14) (b16 := b16) R6 R9 R12 R15 hd
 refine .callS (.f call169 r) (.c .z (.c .z .n)) hw17 r r fun v21 I18 l22 hl19 hv20 => ?_
 obtain ⟨r23, p24, c25, rfl, R26, rfl, hd⟩ := hv20
 replace R6 := R6.mono hl19
 replace R9 := R9.mono hl19
 replace R12 := R12.mono hl19
 replace R15 := R15.mono hl19
 exact .re (m' := [pto b3 (.cells #[.int .i64 o0.Rows, .int .i64 o0.Cols, .slice p4 o0.At.length c5, .slice p7 o0.Start.length c8, .slice p10 o0.Row.length c11, .slice p13 o0.Val.length c14] 50 (0, 0)), pto b16 (.cells #[.int .i64 o1] 3 (0, 0))]) r (.ks 1 r (.nilS [2, 0] r r (.ret (oret results136 (.t r .n) hl19 (.c .z (.c .z .n)) ⟨r23, _, _, r, R26, r, hd⟩))))

theorem W_dcsc_Column {I : IH} {a0 : Columns} {a1 : Int} {p1 : Option Addr} {c2 : Nat} {p4 : Option Addr} {c5 : Nat} {p7 : Option Addr} {c8 : Nat} {p10 : Option Addr} {c11 : Nat} {Q : (List Item) → Prop} (R3 : RepSl eI64 I p1 c2 a0.At) (R6 : RepSl eI64 I p4 c5 a0.Start) (R9 : RepSl eI64 I p7 c8 a0.Row) (R12 : RepSl eI64 I p10 c11 a0.Val) (hd : dcsc_Column a0 a1 Q) :
  PFun prog 111 [.agg #[.int .i64 a0.Rows, .int .i64 a0.Cols, .slice p1 a0.At.length c2, .slice p4 a0.Start.length c5, .slice p7 a0.Row.length c8, .slice p10 a0.Val.length c11], .int .i64 a1] I (o19_ Q) := by
 refine Fun.enter func111 r ntmps111 r (.c (.c .n)) fun w0 M => ?_
 refine .sr (.boxA r r r fun b18 => ?_)
 refine .ks 1 r (.nilS [2, 1] r r (.sr (.loadW ia50 sz50 r .z r r r ?_)))
 have hw57 := W_dcsc_sure (I := I) R3 R6 R9 R12 hd
 refine .call call104 r hw57 r r fun v43 I40 hl41 hv42 => ?_
 obtain ⟨r39, p45, c46, p48, c49, p51, c52, p54, c55, rfl, R47, R50, R53, R56, hd⟩ := hv42
 replace R3 := R3.mono hl41
 replace R6 := R6.mono hl41
 replace R9 := R9.mono hl41
 replace R12 := R12.mono hl41
 refine .storeA sz50 r r .z (.t (.t (.t (.t (.t (.t .nil)))))) r r (.nilS [2, 1] r r (.sr (.loadW ia50 sz50 r .z r r r (.ks 1 r ?_))))
 have hw63 := W_dcsc_place (I := I40) R47 R50 R53 R56 hd
 refine .callP call105 r hw63 r r fun v64 hv65 => ?_
 obtain ⟨r62, rfl, hd⟩ := hv65
 refine .ks 1 r (.nilS [5, 2] r r (.seq (.sr (.ks 2 r (.nilS [12, 5, 2] r r (.condP r hd (fun hb66 hd => ?_) fun hb66 hd => ?_))))))
 · exact .sr (.ks 1 r (.nilS [4] r r (.drop .z (.ret (pret results111 (.t r .n) hl41 ⟨([] : List Item), _, _, r, (.nil _ _ _), hd⟩)))))
 refine .skipS [5, 2] r r (.sr (.loadW ia50 sz50 r .z r r r (.ks 1 r ?_)))
 have hw67 := W_dcsc_items_9d2 (I := I40) (a0 := r39) (a1 := r62) R47 R50 R53 R56 hd
 refine .callS (.f call137 r) .n hw67 r r fun v71 I68 l72 hl69 hv70 => ?_
 obtain ⟨r73, b76, p77, c78, p80, c81, p83, c84, p86, c87, b89, rfl, R79, R82, R85, R88, rfl, hd⟩ := hv70
 have le90 := IH.le.trans hl41 hl69
 replace R47 := R47.mono hl69
 replace R50 := R50.mono hl69
 replace R53 := R53.mono hl69
 replace R56 := R56.mono hl69
 refine .re (m' := [pto b76 (.cells #[.int .i64 r73.1.Rows, .int .i64 r73.1.Cols, .slice p77 r73.1.At.length c78, .slice p80 r73.1.Start.length c81, .slice p83 r73.1.Row.length c84, .slice p86 r73.1.Val.length c87] 50 (0, 0)), pto b89 (.cells #[.int .i64 r73.2] 3 (0, 0)), pto b18 (.cells #[.int .i64 r39.Rows, .int .i64 r39.Cols, .slice p45 r39.At.length c46, .slice p48 r39.Start.length c49, .slice p51 r39.Row.length c52, .slice p54 r39.Val.length c55] 50 (0, 0))]) r ?_
 have hw91 := W_slices_Collect_api_Item_d7d (I := I68) (o0 := r73.1) (o1 := r73.2) (b3 := b76) (p4 := p77) (c5 := c78) (p7 := p80) (c8 := c81) (p10 := p83) (c11 := c84) (p13 := p86) (c14 := c87) (b16 := b89) R79 R82 R85 R88 hd
 refine .callS (.f call136 r) (.c .z (.c .z .n)) hw91 r r fun v95 I92 l96 hl93 hv94 => ?_
 obtain ⟨r97, p98, c99, rfl, R100, rfl, hd⟩ := hv94
 have le101 := IH.le.trans le90 hl93
 replace R47 := R47.mono hl93
 replace R50 := R50.mono hl93
 replace R53 := R53.mono hl93
 replace R56 := R56.mono hl93
 replace R79 := R79.mono hl93
 replace R82 := R82.mono hl93
 replace R85 := R85.mono hl93
 replace R88 := R88.mono hl93
 exact .re (m' := [pto b76 (.cells #[.int .i64 r73.1.Rows, .int .i64 r73.1.Cols, .slice p77 r73.1.At.length c78, .slice p80 r73.1.Start.length c81, .slice p83 r73.1.Row.length c84, .slice p86 r73.1.Val.length c87] 50 (0, 0)), pto b89 (.cells #[.int .i64 r73.2] 3 (0, 0)), pto b18 (.cells #[.int .i64 r39.Rows, .int .i64 r39.Cols, .slice p45 r39.At.length c46, .slice p48 r39.Start.length c49, .slice p51 r39.Row.length c52, .slice p54 r39.Val.length c55] 50 (0, 0))]) r (.ks 1 r (.nilS [4] r r (.drop .z (.drop .z (.drop .z (.ret (pret results111 (.t r .n) le101 ⟨r97, _, _, r, R100, hd⟩)))))))

theorem W_push_rises {I : IH} {a0 : List Sum} {p1 : Option Addr} {c2 : Nat} {Q : Bool → Prop} (R3 : RepSl eSum I p1 c2 a0) (hd : push_rises a0 Q) :
  PFun prog 140 [.slice p1 a0.length c2] I (fun _ => o1_ Q) := by
 refine Fun.enter func140 r ntmps140 r (.c .n) fun w0 M => ?_
 refine .sr (.ks 1 r (.nilS [0] r r (.seq (.sr (.ks 1 r (.len un45 r r r r (.ks 1 r (.nilS [6, 5, 0] r r (.block ?_)))))))))
 refine .loop hd (fun (s31 : Int) c w => ∃ I_, IH.le I I_ ∧ Ok ⟨26, [], none⟩ [(0, .slice p1 a0.length c2), (5, .int .i64 (a0.length : Int)), (6, .int .i64 s31)] c ∧ Sym w0 M I I_ [] w) (fun c w ho hs => ⟨I, (.refl _), ho.sub ⟨r, r, r, trivial⟩, hs.pick .n⟩) ?_
 rintro s31 next32 hd c w hst
 obtain ⟨I33, hl34, hok, hsym⟩ := hst
 replace R3 := R3.mono hl34
 refine Cod.at hok hsym (.sr (.ks 1 r (.nilS [7, 6, 5, 0] r r (.seq (.condP r hd (fun hb36 hd => ?_) fun hb36 hd => ?_)))))
 · refine .skipS [6, 5, 0] r r (.seq (.block (.sr (.ks 2 r (.nilS [3, 6, 5, 0] r r (.seq (.dr [0, 1, 2, 3, 4, 5, 6, 7, 8, 9, 10, 11, 12, 13, 14, 15] 16 (.fk 3 r ?_))))))))
   refine splitP hd (fun hb37 hd => ?_) fun hb37 hd => ?_
   · rw [hb37]
     refine .fk 3 r ?_
     obtain ⟨h38, x39, hx40, hd⟩ := hd
     obtain ⟨b41, o42, cs43, e44, hC45, hr46⟩ := R3.2 _ _ hx40
     cases hr46
     refine .g r r r (fun _ => .gyes r r r (.ixa un45 sz85 r e44 r h38 (idx_lt hx40 h38) r r .mk)) (.g r r r (fun _ => .gyes r r r (.fa un85 r sz3 r (o := o42 + (w64 (s31 - 1)).toNat * 3) r r r .mk)) (.g r r r (fun _ => .gyes r r r (.ld1 (j := 0) ia3 hC45 r r r r r .mk)) (.fk 2 r ?_)))
     obtain ⟨h47, x48, hx49, hd⟩ := hd
     obtain ⟨b50, o51, cs52, e53, hC54, hr55⟩ := R3.2 _ _ hx49
     cases hr55
     refine .g r r r (fun _ => .gyes r r r (.ixa un45 sz85 r e53 r h47 (idx_lt hx49 h47) r r .mk)) (.g r r r (fun _ => .gyes r r r (.fa un85 r sz3 r (o := o51 + s31.toNat * 3) r r r .mk)) (.g r r r (fun _ => .gyes r r r (.ld1 (j := 0) ia3 hC54 r r r r r .mk)) (.fk 2 r (.e2 16 (.nilS [24, 6, 5, 0] r r (.condP r hd (fun hb56 hd => ?_) fun hb56 hd => ?_))))))
     · exact .sr (.ks 1 r (.nilS [2] r r (.ret (pret results140 (.t r .n) hl34 ⟨false, r, hd⟩))))
     exact .skipS [6, 5, 0] r r (.region (.ks 2 r (.nil' fun c w ho hs => ⟨(w64 (s31 + 1)), hd, I33, hl34, ho.sub ⟨r, r, r, trivial⟩, hs.pick .n⟩)))
   rw [hb37]
   exact .fk 13 r (.e2 16 (.nilS [24, 6, 5, 0] r r (.condKF r r (.skipS [6, 5, 0] r r (.region (.ks 2 r (.nil' fun c w ho hs => ⟨(w64 (s31 + 1)), hd, I33, hl34, ho.sub ⟨r, r, r, trivial⟩, hs.pick .n⟩)))))))
 exact .exitS [] r r (.sr (.ks 1 r (.nilS [2] r r (.ret (pret results140 (.t r .n) hl34 ⟨true, r, hd⟩)))))

theorem W_push_heads_Len {I : IH} {a0 : List Push_head} {p1 : Option Addr} {c2 : Nat} {Q : Int → Prop} (R3 : RepSl ePush_head I p1 c2 a0) (hd : push_heads_Len a0 Q) :
  PFun prog 142 [.slice p1 a0.length c2] I (fun _ => o0_ Q) := by
 refine Fun.enter func142 r ntmps142 r (.c .n) fun w0 M => ?_
 exact .sr (.ks 1 r (.nilS [0] r r (.sr (.ks 1 r (.len un185 r r r r (.ks 1 r (.nilS [2] r r (.ret (pret results142 (.t r .n) (.refl _) ⟨(a0.length : Int), r, hd⟩)))))))))

theorem W_ring_Add {I : IH} {a0 : Int} {a1 : Wide} {a2 : Wide} {Q : Wide → Prop}  (hd : ring_Add a0 a1 a2 Q) :
  PFun prog 174 [.int .i64 a0, .agg (encWide a1).toArray, .agg (encWide a2).toArray] I (fun _ => o16_ Q) := by
 refine Fun.enter func174 r ntmps174 r (.c (.c (.c .n))) fun w0 M => ?_
 refine .sr (.boxA r r r fun b7 => ?_)
 refine .boxA r r r fun b9 => ?_
 refine .allocA zv83 r r fun b11 => ?_
 refine .nilS [6, 5, 4, 0] r r (.seq (.sr (.ks 1 r (.nilS [7, 6, 5, 4] r r (.block (.seq ?_))))))
 refine Cod.joinQ (σ := Bool) hd (fun (s17 : Bool) c w => ∃ I_, IH.le I I_ ∧ Ok ⟨32, [], none⟩ [(4, .pointer (some ⟨b7, 0, none⟩)), (5, .pointer (some ⟨b9, 0, none⟩)), (6, .pointer (some ⟨b11, 0, none⟩)), (7, .int .i64 a0), (8, .bool s17)] c ∧ Sym w0 M I I_ [pto b7 (.cells #[.int .i64 a1.Hi, .int .u64 a1.Lo] 83 (0, 0)), pto b9 (.cells #[.int .i64 a2.Hi, .int .u64 a2.Lo] 83 (0, 0)), pto b11 (.cells #[.int .i64 0, .int .u64 0] 83 (0, 0))] w) (fun k18 hd => ?_) ?_
 · skip
   refine .sr (.ks 2 r (.nilS [8, 7, 6, 5, 4] r r (.condP r hd (fun hb19 hd => ?_) fun hb19 hd => ?_)))
   · exact .skip' fun c w ho hs => ⟨(a0 == 1), hd, I, (.refl _), ho.sub ⟨r, r, r, r, r, trivial⟩, hs.pick (.c (.s (.s .z)) (.c (.s .z) (.c .z .n)))⟩
   refine .sr (.ks 2 r (.nilS [8, 7, 6, 5, 4] r r (.condP r hd (fun hb20 hd => ?_) fun hb20 hd => ?_)))
   · exact .skip' fun c w ho hs => ⟨(a0 == 3), hd, I, (.refl _), ho.sub ⟨r, r, r, r, r, trivial⟩, hs.pick (.c (.s (.s .z)) (.c (.s .z) (.c .z .n)))⟩
   exact .region (.ks 2 r (.nil' fun c w ho hs => ⟨(a0 == 4), hd, I, (.refl _), ho.sub ⟨r, r, r, r, r, trivial⟩, hs.pick (.c (.s (.s .z)) (.c (.s .z) (.c .z .n)))⟩))
 rintro s17 hd c w hst
 obtain ⟨I21, hl22, hok, hsym⟩ := hst
 refine Cod.at hok hsym (.condP r hd (fun hb23 hd => ?_) fun hb23 hd => ?_)
 · refine .sr (.loadW ia83 sz83 r .z r r r (.loadW ia83 sz83 r (.s .z) r r r ?_))
   have hw25 := W_ring_lesser (I := I21) hd
   refine .callP call167 r hw25 r r fun v26 hv27 => ?_
   obtain ⟨r24, rfl, hd⟩ := hv27
   exact .storeA sz83 r r (.s (.s .z)) (.t (.t .nil)) r r (.nilS [6] r r (.drop .z (.drop .z (.ret (pret results174 (.w ia83 sz83 r .z r .n) hl22 ⟨r24, r, hd⟩)))))
 refine .sr (.ks 2 r (.nilS [15, 7, 6, 5, 4] r r (.condP r hd (fun hb28 hd => ?_) fun hb28 hd => ?_)))
 · refine .sr (.loadW ia83 sz83 r .z r r r (.loadW ia83 sz83 r (.s .z) r r r (.neV r r (EQ83 a1 a2) (EG83 _ _ _ _ _) r r r (.ks 1 r ?_))))
   refine splitP hd (fun hb29 hd => ?_) fun hb29 hd => ?_
   · rw [hb29]
     refine .ks 4 r ?_
     have hw31 := W_ring_truth (I := I21) hd
     refine .callP call164 r hw31 r r fun v32 hv33 => ?_
     obtain ⟨r30, rfl, hd⟩ := hv33
     exact .storeA sz83 r r (.s (.s .z)) (.t (.t .nil)) r r (.nilS [6] r r (.drop .z (.drop .z (.ret (pret results174 (.w ia83 sz83 r .z r .n) hl22 ⟨r30, r, hd⟩)))))
   rw [hb29]
   refine .gyes r r r (.loadW ia83 sz83 r .z r r r (.gyes r r r (.build zv83 un83 BI83 .n (by exact trivial) r r (.gyes r r r (.neV r r (EQ83 a1 ({ Hi := 0, Lo := 0 } : Wide)) (EG83 _ _ _ _ _) r r r (.ks 1 r ?_))))))
   have hw35 := W_ring_truth (I := I21) hd
   refine .callP call164 r hw35 r r fun v36 hv37 => ?_
   obtain ⟨r34, rfl, hd⟩ := hv37
   exact .storeA sz83 r r (.s (.s .z)) (.t (.t .nil)) r r (.nilS [6] r r (.drop .z (.drop .z (.ret (pret results174 (.w ia83 sz83 r .z r .n) hl22 ⟨r34, r, hd⟩)))))
 refine .sr (.ks 2 r (.nilS [26, 6, 5, 4] r r (.condP r hd (fun hb38 hd => ?_) fun hb38 hd => ?_)))
 · refine .sr (.loadW ia83 sz83 r .z r r r (.loadW ia83 sz83 r (.s .z) r r r ?_))
   have hw40 := W_wide_Add (I := I21) hd
   refine .callP call168 r hw40 r r fun v41 hv42 => ?_
   obtain ⟨r39, rfl, hd⟩ := hv42
   exact .storeA sz83 r r (.s (.s .z)) (.t (.t .nil)) r r (.nilS [6] r r (.drop .z (.drop .z (.ret (pret results174 (.w ia83 sz83 r .z r .n) hl22 ⟨r39, r, hd⟩)))))
 exact .skipS [6] r r (.drop .z (.drop .z (.sr (.build zv83 un83 BI83 .n (by exact trivial) r r (.storeA sz83 r r .z (.t (.t .nil)) r r (.nilS [6] r r (.ret (pret results174 (.w ia83 sz83 r .z r .n) hl22 ⟨({ Hi := 0, Lo := 0 } : Wide), r, hd⟩))))))))

theorem W_push_Merge_1_d96 {I : IH} {a0 : List Sum} {p1 : Option Addr} {c2 : Nat} {Q : Bool → Prop} (R3 : RepSl eSum I p1 c2 a0) (hd : push_Merge_1_d96 a0 Q) :
  Fun prog 139 #[.slice p1 a0.length c2] I [] (fun I_ v l => ∃ r, v = .bool r ∧ l = [] ∧ Q r) := by
 refine Fun.enter (vs := [.slice p1 a0.length c2]) func139 r ntmps139 r (.c .n) fun w0 M => ?_
 refine .sr (.ks 1 r (.nilS [0] r r (.sr (.ks 1 r ?_))))
 have hw5 := W_push_rises (I := I) R3 hd
 refine .callP call140 r hw5 r r fun v6 hv7 => ?_
 obtain ⟨r4, rfl, hd⟩ := hv7
 exact .ks 2 r (.nilS [2] r r (.ret (oret results139 (.t r .n) (.refl _) .n ⟨(!r4), r, r, hd⟩)))

theorem W_slices_IndexFunc_api_Sum_api_Sum_acf {I : IH} {a0 : List (List Sum)} {p1 : Option Addr} {c2 : Nat} {Q : Int → Prop} (R3 : RepSl (slEl eSum) I p1 c2 a0) (hd : slices_IndexFunc_api_Sum_api_Sum_acf a0 Q) :
  Fun prog 171 #[.slice p1 a0.length c2, .func (.func 139) #[] #[]] I [] (fun I_ v l => ∃ r, v = .int .i64 r ∧ l = [] ∧ Q r) := by
 refine Fun.enter (vs := [.slice p1 a0.length c2, .func (.func 139) #[] #[]]) func171 r ntmps171 r (.c (.c .n)) fun w0 M => ?_
 refine .sr (.ks 1 r (.nilS [1, 0] r r (.seq (.sr (.ks 1 r (.len un155 r r r r (.ks 1 r (.nilS [8, 7, 1, 0] r r (.block ?_)))))))))
 refine .loop hd (fun (s51 : Int) c w => ∃ I_, IH.le I I_ ∧ Ok ⟨19, [], none⟩ [(0, .slice p1 a0.length c2), (1, .func (.func 139) #[] #[]), (7, .int .i64 (a0.length : Int)), (8, .int .i64 s51)] c ∧ Sym w0 M I I_ [] w) (fun c w ho hs => ⟨I, (.refl _), ho.sub ⟨r, r, r, r, trivial⟩, hs.pick .n⟩) ?_
 rintro s51 next52 hd c w hst
 obtain ⟨I53, hl54, hok, hsym⟩ := hst
 replace R3 := R3.mono hl54
 refine Cod.at hok hsym (.sr (.ks 1 r (.nilS [9, 8, 7, 1, 0] r r (.seq (.condP r hd (fun hb56 hd => ?_) fun hb56 hd => ?_)))))
 · refine .skipS [8, 7, 1, 0] r r (.seq (.block (.sr (.ks 2 r (.nilS [5, 8, 7, 1, 0] r r (.sr (.ks 3 r ?_)))))))
   obtain ⟨h57, x58, hx59, hd⟩ := hd
   obtain ⟨b60, o61, cs62, e63, hC64, hr65⟩ := R3.2 _ _ hx59
   obtain ⟨p66, c67, rfl, R68⟩ := hr65
   refine .ixa un155 sz45 r e63 r h57 (idx_lt hx59 h57) r r (.ld1 (j := 0) ia45 hC64 r r r r r ?_)
   have hw69 := W_push_Merge_1_d96 (I := I53) (a0 := x58) R68 hd
   refine .callS (.c call139 r r) .n hw69 r r fun v73 I70 l74 hl71 hv72 => ?_
   obtain ⟨r75, rfl, rfl, hd⟩ := hv72
   have le76 := IH.le.trans hl54 hl71
   replace R3 := R3.mono hl71
   replace R68 := R68.mono hl71
   replace hC64 := hC64.mono hl71
   refine .re (m' := []) r (.nilS [16, 5, 8, 7, 1, 0] r r (.condP r hd (fun hb77 hd => ?_) fun hb77 hd => ?_))
   · exact .sr (.ks 2 r (.nilS [4, 1] r r (.ret (oret results171 (.t r .n) le76 .n ⟨s51, r, r, hd⟩))))
   exact .skipS [8, 7, 1, 0] r r (.region (.ks 2 r (.nil' fun c w ho hs => ⟨(w64 (s51 + 1)), hd, I70, le76, ho.sub ⟨r, r, r, r, trivial⟩, hs.pick .n⟩)))
 exact .exitS [1] r r (.sr (.ks 1 r (.nilS [4, 1] r r (.ret (oret results171 (.t r .n) hl54 .n ⟨(-1), r, r, hd⟩)))))

theorem W_slices_ContainsFunc_api_Sum_api_Sum_bfd {I : IH} {a0 : List (List Sum)} {p1 : Option Addr} {c2 : Nat} {Q : Bool → Prop} (R3 : RepSl (slEl eSum) I p1 c2 a0) (hd : slices_ContainsFunc_api_Sum_api_Sum_bfd a0 Q) :
  Fun prog 138 #[.slice p1 a0.length c2, .func (.func 139) #[] #[]] I [] (fun I_ v l => ∃ r, v = .bool r ∧ l = [] ∧ Q r) := by
 refine Fun.enter (vs := [.slice p1 a0.length c2, .func (.func 139) #[] #[]]) func138 r ntmps138 r (.c (.c .n)) fun w0 M => ?_
 refine .sr (.ks 1 r (.nilS [1, 0] r r (.sr (.ks 2 r ?_))))
 have hw4 := W_slices_IndexFunc_api_Sum_api_Sum_acf (I := I) (a0 := a0) R3 hd
 refine .callS (.f call171 r) .n hw4 r r fun v8 I5 l9 hl6 hv7 => ?_
 obtain ⟨r10, rfl, rfl, hd⟩ := hv7
 replace R3 := R3.mono hl6
 exact .re (m' := []) r (.ks 2 r (.nilS [4, 1] r r (.ret (oret results138 (.t r .n) hl6 .n ⟨(decide (0 ≤ r10)), r, r, hd⟩))))

theorem W_push_heads_Push_5fa {I : IH} {o0 : Push_merger} {a0 : Push_head} {b2 : Nat} {p3 : Option Addr} {c4 : Nat} {p6 : Option Addr} {c7 : Nat} {p11 : Option Addr} {c12 : Nat} {Q : Push_merger → Prop} (R13 : RepSl eSum I p11 c12 a0.l) (hd : push_heads_Push_5fa o0 a0 Q) :
  Fun prog 216 #[.pointer (some ⟨b2, 0, none⟩), .iface 213 (.agg #[.slice p11 a0.l.length c12, .int .i64 a0.which])] I [pto b2 (.cells #[.slice p3 o0.heads.length c4, .int .i64 o0.r, .slice p6 o0.out.length c7] 187 (0, 0)), OwnSl ePush_head 213 p3 c4 o0.heads, OwnSl eSum 85 p6 c7 o0.out] (fun I_ v l => ∃ r p15 c16 p18 c19, v = .tuple #[] ∧ l = [pto b2 (.cells #[.slice p15 r.heads.length c16, .int .i64 r.r, .slice p18 r.out.length c19] 187 (0, 0)), OwnSl ePush_head 213 p15 c16 r.heads, OwnSl eSum 85 p18 c19 r.out] ∧ Q r) := by
 refine Fun.enter (vs := [.pointer (some ⟨b2, 0, none⟩), .iface 213 (.agg #[.slice p11 a0.l.length c12, .int .i64 a0.which])]) func216 r ntmps216 r (.c (.c .n)) fun w0 M => ?_
 refine .sr (.ks 1 r (.assertOk un213 r r r r (.ks 3 r (.allocA zeroValue213 r r fun b16 => ?_))))
 refine .storeA sz213 r r .z (.t (.t .nil)) r r (.ks 1 r (.nilS [5, 4, 0] r r (.sr (.ks 1 r (.nilS [11, 4, 0] r r (.condKT r r (.dr [0, 1, 2, 3, 4, 5, 6] 7 (.fk 2 r (.g r r r (fun _ => .nilCheckP r r r .mk) ?_)))))))))
 refine .g r r r (fun _ => .load1 ia185 r (.s .z) r r r .mk) (.g r r r (fun _ => .loadW isAgg213 sz213 r .z r r r .mk) (.ww r fun ex => ?_))
 refine .buildSlice 1 un185 sz213 zeroValue213 r r (.c r r r .n) r r fun b18 => ?_
 refine .so 5 r r r (.cg r r r r (fun _ => .load1 ia185 r (.s (.s .z)) r r r .mk) (.cg r r r r (fun _ => .nilCheckP r r r .mk) (.ck 2 r r trivial))) (.ww r fun ex => ?_)
 obtain ⟨hl20, hd⟩ := hd
 refine .append (ys := [a0]) 32 (.s (.s (.s .z))) un185 un185 IN213 r r r r r r r r r (.box .z (.one ⟨_, _, r, R13⟩) r) hl20 r r fun p21 c22 => ?_
 exact .so 5 r r r (.ck 1 r r trivial) (.e2 7 (.nilCheckP r r r (.store1 sizeOf185 r r (.s (.s (.s .z))) (.t .nil) r (.nil' (oretN results216 .n (.refl _) (.c (.s (.s (.s .z))) (.c .z (.c (.s (.s .z)) .n))) ⟨({ heads := (o0.heads ++ ([a0])), r := o0.r, out := o0.out } : Push_merger), _, _, _, _, r, r, hd⟩)))))

theorem W_push_heads_Len_66a {I : IH} {o0 : List Push_head} {p2 : Option Addr} {c3 : Nat} {Q : Int → Prop}  (hd : push_heads_Len_66a o0 Q) :
  Fun prog 142 #[.slice p2 o0.length c3] I [OwnSl ePush_head 213 p2 c3 o0] (fun I_ v l => ∃ r, v = .int .i64 r ∧ l = [OwnSl ePush_head 213 p2 c3 o0] ∧ Q r) := by
 refine Fun.enter (vs := [.slice p2 o0.length c3]) func142 r ntmps142 r (.c .n) fun w0 M => ?_
 exact .sr (.ks 1 r (.nilS [0] r r (.sr (.ks 1 r (.len un185 r r r r (.ks 1 r (.nilS [2, 0] r r (.ret (oret results142 (.t r .n) (.refl _) (.c .z .n) ⟨(o0.length : Int), r, r, hd⟩)))))))))

theorem W_push_heads_Less_706 {I : IH} {o0 : List Push_head} {a0 : Int} {a1 : Int} {p2 : Option Addr} {c3 : Nat} {Q : Bool → Prop}  (hd : push_heads_Less_706 o0 a0 a1 Q) :
  Fun prog 214 #[.slice p2 o0.length c3, .int .i64 a0, .int .i64 a1] I [OwnSl ePush_head 213 p2 c3 o0] (fun I_ v l => ∃ r, v = .bool r ∧ l = [OwnSl ePush_head 213 p2 c3 o0] ∧ Q r) := by
 refine Fun.enter (vs := [.slice p2 o0.length c3, .int .i64 a0, .int .i64 a1]) func214 r ntmps214 r (.c (.c (.c .n))) fun w0 M => ?_
 refine .sr (.ks 1 r (.nilS [2, 1, 0] r r (.seq (.ownF .z fun hne4 => ?_))))
 refine .openS .z fun css5 hrep6 => ?_
 refine .dr [0, 1, 2, 3, 4, 5, 6, 7, 8, 9, 10, 11, 12, 13, 14, 15, 17, 18, 19, 20, 21, 22, 23, 24, 25, 26, 16, 27, 28, 29, 30] 31 (.fk 2 r ?_)
 obtain ⟨h7, x8, hx9, hd⟩ := hd
 obtain ⟨b10, e11⟩ := hne4 (idx_ne hx9)
 cases e11
 obtain ⟨cs12, hc13, hcs14, hr15⟩ := hrep6.get hx9
 obtain ⟨p16, c17, rfl, R18⟩ := hr15
 refine .g r r r (fun _ => .ixa0 un185 sz213 r r h7 (idx_lt hx9 h7) r r .mk) (.g r r r (fun _ => .fa un213 r sz45 r (o := a0.toNat * 2) r r r .mk) (.g r r r (fun _ => .lo1 (j := 0) ia45 .z hcs14 r r r r r .mk) ?_))
 obtain ⟨h19, x20, hx21, hd⟩ := hd
 obtain ⟨b22, o23, cs24, e25, hC26, hr27⟩ := R18.2 _ _ hx21
 cases hr27
 refine .g r r r (fun _ => .ixa un45 sz85 r e25 r h19 (idx_lt hx21 h19) r r .mk) (.g r r r (fun _ => .fa un85 r sz3 r (o := o23 + (Int.toNat 0) * 3) r r r .mk) (.g r r r (fun _ => .ld1 (j := 0) ia3 hC26 r r r r r .mk) (.fk 2 r ?_)))
 obtain ⟨h28, x29, hx30, hd⟩ := hd
 obtain ⟨cs31, hc32, hcs33, hr34⟩ := hrep6.get hx30
 obtain ⟨p35, c36, rfl, R37⟩ := hr34
 refine .g r r r (fun _ => .ixa0 un185 sz213 r r h28 (idx_lt hx30 h28) r r .mk) (.g r r r (fun _ => .fa un213 r sz45 r (o := a1.toNat * 2) r r r .mk) (.g r r r (fun _ => .lo1 (j := 0) ia45 .z hcs33 r r r r r .mk) ?_))
 obtain ⟨h38, x39, hx40, hd⟩ := hd
 obtain ⟨b41, o42, cs43, e44, hC45, hr46⟩ := R37.2 _ _ hx40
 cases hr46
 refine .g r r r (fun _ => .ixa un45 sz85 r e44 r h38 (idx_lt hx40 h38) r r .mk) (.g r r r (fun _ => .fa un85 r sz3 r (o := o42 + (Int.toNat 0) * 3) r r r .mk) (.g r r r (fun _ => .ld1 (j := 0) ia3 hC45 r r r r r .mk) (.fk 2 r ?_)))
 obtain ⟨h47, x48, hx49, hd⟩ := hd
 obtain ⟨cs50, hc51, hcs52, hr53⟩ := hrep6.get hx49
 obtain ⟨p54, c55, rfl, R56⟩ := hr53
 refine .g r r r (fun _ => .ixa0 un185 sz213 r r h47 (idx_lt hx49 h47) r r .mk) (.g r r r (fun _ => .fa un213 r sz3 r (o := a0.toNat * 2 + 1) r r r .mk) (.g r r r (fun _ => .lo1 (j := 1) ia3 .z hcs52 r r r r r .mk) (.fk 2 r ?_)))
 obtain ⟨h57, x58, hx59, hd⟩ := hd
 obtain ⟨cs60, hc61, hcs62, hr63⟩ := hrep6.get hx59
 obtain ⟨p64, c65, rfl, R66⟩ := hr63
 refine .g r r r (fun _ => .ixa0 un185 sz213 r r h57 (idx_lt hx59 h57) r r .mk) (.g r r r (fun _ => .fa un213 r sz3 r (o := a1.toNat * 2 + 1) r r r .mk) (.g r r r (fun _ => .lo1 (j := 1) ia3 .z hcs62 r r r r r .mk) (.ww r fun ex => ?_)))
 have hw68 := W_cmp_Compare_int (I := I) hd
 refine .callP call131 r hw68 r r fun v69 hv70 => ?_
 obtain ⟨r67, rfl, hd⟩ := hv70
 refine .so 1 r r r (.cg r r r r (fun _ => .lo1 (j := 1) ia3 .z hcs62 r r r r r .mk) (.cg r r r r (fun _ => .fa un213 r sz3 r (o := a1.toNat * 2 + 1) r r r .mk) (.cg r r r r (fun _ => .ixa0 un185 sz213 r r h57 (idx_lt hx59 h57) r r .mk) (.ck 2 r r (.cg r r r r (fun _ => .lo1 (j := 1) ia3 .z hcs52 r r r r r .mk) (.cg r r r r (fun _ => .fa un213 r sz3 r (o := a0.toNat * 2 + 1) r r r .mk) (.cg r r r r (fun _ => .ixa0 un185 sz213 r r h47 (idx_lt hx49 h47) r r .mk) (.ck 2 r r trivial)))))))) (.ww r fun ex => ?_)
 have hw72 := W_cmp_Compare_int (I := I) hd
 refine .callP call131 r hw72 r r fun v73 hv74 => ?_
 obtain ⟨r71, rfl, hd⟩ := hv74
 refine .so 1 r r r trivial (.ww r fun ex => ?_)
 refine .buildSlice 2 un36 sz3 zv3 r r (.c r r r (.c r r r .n)) r r fun b75 => ?_
 refine .so 2 r r r trivial (.ww r fun ex => ?_)
 refine .pubB (El := eI64) (ys := ([r67, r71] : List Int)) (k := 2) .z (RepCs.cons (cs := [.int .i64 r67]) r (RepCs.cons (cs := [.int .i64 r71]) r .nil)) r fun I77 hl78 R79 => ?_
 replace hrep6 := hrep6.mono hl78
 replace R18 := R18.mono hl78
 replace hC26 := hC26.mono hl78
 replace R37 := R37.mono hl78
 replace hC45 := hC45.mono hl78
 have hw81 := W_cmp_Or_int (I := I77) R79 hd
 refine .callP call130 r hw81 r r fun v82 hv83 => ?_
 obtain ⟨r80, rfl, hd⟩ := hv83
 exact .so 1 r r r trivial (.fk 1 r (.e2 31 (.closeS .z hrep6 (.ks 1 r (.nilS [6, 0] r r (.ret (oret results214 (.t r .n) hl78 (.c .z .n) ⟨(decide (r80 < 0)), r, r, hd⟩)))))))

theorem W_push_heads_Swap_c73 {I : IH} {o0 : List Push_head} {a0 : Int} {a1 : Int} {p2 : Option Addr} {c3 : Nat} {Q : (List Push_head) → Prop}  (hd : push_heads_Swap_c73 o0 a0 a1 Q) :
  Fun prog 217 #[.slice p2 o0.length c3, .int .i64 a0, .int .i64 a1] I [OwnSl ePush_head 213 p2 c3 o0] (fun I_ v l => ∃ r, v = .tuple #[] ∧ r.length = o0.length ∧ l = [OwnSl ePush_head 213 p2 c3 r] ∧ Q r) := by
 refine Fun.enter (vs := [.slice p2 o0.length c3, .int .i64 a0, .int .i64 a1]) func217 r ntmps217 r (.c (.c (.c .n))) fun w0 M => ?_
 refine .ownF .z fun hne4 => ?_
 refine .openS .z fun css5 hrep6 => ?_
 refine .dr [0, 1, 2, 3, 4, 5, 6, 7, 8, 9, 10, 11, 12, 13] 14 (.fk 6 r ?_)
 obtain ⟨h7, x8, hx9, hd⟩ := hd
 obtain ⟨b10, e11⟩ := hne4 (idx_ne hx9)
 cases e11
 obtain ⟨cs12, hc13, hcs14, hr15⟩ := hrep6.get hx9
 obtain ⟨p16, c17, rfl, R18⟩ := hr15
 refine .g r r r (fun _ => .ixa0 un185 sz213 r r h7 (idx_lt hx9 h7) r r .mk) (.g r r r (fun _ => .loA (j := 0) isAgg213 sz213 .z hcs14 r r (.t (.t .nil)) r r r .mk) (.fk 2 r ?_))
 obtain ⟨h19, x20, hx21, hd⟩ := hd
 obtain ⟨cs22, hc23, hcs24, hr25⟩ := hrep6.get hx21
 obtain ⟨p26, c27, rfl, R28⟩ := hr25
 refine .g r r r (fun _ => .ixa0 un185 sz213 r r h19 (idx_lt hx21 h19) r r .mk) (.g r r r (fun _ => .loA (j := 0) isAgg213 sz213 .z hcs24 r r (.t (.t .nil)) r r r .mk) ?_)
 obtain ⟨h29, x30, hx31, hd⟩ := hd
 obtain ⟨cs32, hc33, hcs34, hr35⟩ := hrep6.get hx31
 obtain ⟨p36, c37, rfl, R38⟩ := hr35
 refine .g r r r (fun _ => .ixa0 un185 sz213 r r h29 (idx_lt hx31 h29) r r .mk) (.ww r fun ex => ?_)
 have hrep39 := hrep6.set (x := x8) a0.toNat (cs := [.slice p16 x8.l.length c17, .int .i64 x8.which]) ⟨_, _, r, R18⟩ ⟨r, r⟩
 refine .stOA (j := 0) (v' := ⟨[.slice p16 x8.l.length c17, .int .i64 x8.which], r, r⟩) sz213 .z hcs34 r r r (.t (.t .nil)) r r (.sn 1 r r r (.ck 2 r r trivial) (.e2 14 (.sub (E' := [(0, .slice (some ⟨b10, 0, none⟩) (o0.set a0.toNat x8).length c3), (1, _), (2, _), (6, .slice (some ⟨b10, 0, none⟩) (o0.set a0.toNat x8).length c3), (7, _), (8, .slice (some ⟨b10, 0, none⟩) (o0.set a0.toNat x8).length c3), (9, _), (10, .slice (some ⟨b10, 0, none⟩) (o0.set a0.toNat x8).length c3), (11, _), (12, _), (13, _), (14, .slice (some ⟨b10, 0, none⟩) (o0.set a0.toNat x8).length c3), (15, _), (16, _), (17, _), (18, _)]) ⟨(by simp only [List.length_set]; rfl), r, r, (by simp only [List.length_set]; rfl), r, (by simp only [List.length_set]; rfl), r, (by simp only [List.length_set]; rfl), r, r, r, (by simp only [List.length_set]; rfl), r, r, r, r, trivial⟩ (.closeS .z hrep39 ?_))))
 obtain ⟨h40, x41, hx42, hd⟩ := hd
 refine .ixa0 un185 sz213 r r h40 (idx_lt hx42 h40) r r (.openS .z fun css43 hrep44 => ?_)
 obtain ⟨cs45, hc46, hcs47, hr48⟩ := hrep44.get hx42
 obtain ⟨p49, c50, rfl, R51⟩ := hr48
 have hrep52 := hrep44.set (x := x20) a1.toNat (cs := [.slice p26 x20.l.length c27, .int .i64 x20.which]) ⟨_, _, r, R28⟩ ⟨r, r⟩
 exact .stOA (j := 0) (v' := ⟨[.slice p26 x20.l.length c27, .int .i64 x20.which], r, r⟩) sz213 .z hcs47 r r r (.t (.t .nil)) r r (.closeS .z hrep52 (.sub (E' := [(0, .slice (some ⟨b10, 0, none⟩) ((o0.set a0.toNat x8).set a1.toNat x20).length c3), (1, _), (2, _), (6, .slice (some ⟨b10, 0, none⟩) ((o0.set a0.toNat x8).set a1.toNat x20).length c3), (7, _), (8, .slice (some ⟨b10, 0, none⟩) ((o0.set a0.toNat x8).set a1.toNat x20).length c3), (9, _), (10, .slice (some ⟨b10, 0, none⟩) ((o0.set a0.toNat x8).set a1.toNat x20).length c3), (11, _), (12, _), (13, _), (14, .slice (some ⟨b10, 0, none⟩) ((o0.set a0.toNat x8).set a1.toNat x20).length c3), (15, _), (16, _), (17, _), (18, _), (19, _)]) ⟨(by simp only [List.length_set]; rfl), r, r, (by simp only [List.length_set]; rfl), r, (by simp only [List.length_set]; rfl), r, (by simp only [List.length_set]; rfl), r, r, r, (by simp only [List.length_set]; rfl), r, r, r, r, r, trivial⟩ (.nil' (oretN results217 .n (.refl _) (.c .z .n) ⟨((o0.set a0.toNat x8).set a1.toNat x20), r, (by simp only [List.length_set]), r, hd⟩))))

theorem W_container_heap_up_248 {I : IH} {o0 : Push_merger} {a0 : Int} {b2 : Nat} {p3 : Option Addr} {c4 : Nat} {p6 : Option Addr} {c7 : Nat} {Q : Push_merger → Prop}  (hd : container_heap_up_248 o0 a0 Q) :
  Fun prog 190 #[.iface 211 (.pointer (some ⟨b2, 0, none⟩)), .int .i64 a0] I [pto b2 (.cells #[.slice p3 o0.heads.length c4, .int .i64 o0.r, .slice p6 o0.out.length c7] 187 (0, 0)), OwnSl ePush_head 213 p3 c4 o0.heads, OwnSl eSum 85 p6 c7 o0.out] (fun I_ v l => ∃ r p12 c13 p15 c16, v = .tuple #[] ∧ l = [pto b2 (.cells #[.slice p12 r.heads.length c13, .int .i64 r.r, .slice p15 r.out.length c16] 187 (0, 0)), OwnSl ePush_head 213 p12 c13 r.heads, OwnSl eSum 85 p15 c16 r.out] ∧ Q r) := by
 refine Fun.enter (vs := [.iface 211 (.pointer (some ⟨b2, 0, none⟩)), .int .i64 a0]) func190 r ntmps190 r (.c (.c .n)) fun w0 M => ?_
 refine .block (.loop hd (fun (s : (List Push_head) × Int) c w => match s with | (s68, s72) => ∃ I_ p69 c70, IH.le I I_ ∧ Ok ⟨23, [], none⟩ [(0, .iface 211 (.pointer (some ⟨b2, 0, none⟩))), (1, .int .i64 s72)] c ∧ Sym w0 M I I_ [pto b2 (.cells #[.slice p69 s68.length c70, .int .i64 o0.r, .slice p6 o0.out.length c7] 187 (0, 0)), OwnSl ePush_head 213 p69 c70 s68, OwnSl eSum 85 p6 c7 o0.out] w) (fun c w ho hs => ⟨I, _, _, (.refl _), ho.sub ⟨r, r, trivial⟩, hs.pick (.c .z (.c .z (.c .z .n)))⟩) ?_)
 rintro ⟨s68, s72⟩ next73 hd c w hst
 obtain ⟨I74, p69, c70, hl75, hok, hsym⟩ := hst
 refine Cod.at hok hsym (.block (.sr (.ks 2 r (.quo r r (by decide) r r (.ks 1 r (.nilS [4, 1, 0] r r (.seq (.sr (.ks 4 r ?_)))))))))
 refine splitP hd (fun hb76 hd => ?_) fun hb76 hd => ?_
 · rw [hb76]
   exact .ks 6 r (.nilS [17, 4, 1, 0] r r (.condKT r r (.exit (oretN results190 .n hl75 (.c .z (.c .z (.c .z .n))) ⟨({ heads := s68, r := o0.r, out := o0.out } : Push_merger), _, _, _, _, r, r, hd⟩))))
 rw [hb76]
 refine .ks 3 r ?_
 have hw77 := W_push_heads_Less_706 (I := I74) (o0 := s68) (a0 := s72) (a1 := (w64 ((w64 (s72 - 1)).tdiv 2))) (p2 := p69) (c3 := c70) hd
 refine .gyes r r r (.callS (.iv call214 (methodV (method_val MD IN211 r r r un211) ia185 .z r) r r) (.c (.s .z) .n) hw77 r r fun v81 I78 l82 hl79 hv80 => ?_)
 obtain ⟨r83, rfl, rfl, hd⟩ := hv80
 have le84 := IH.le.trans hl75 hl79
 refine .re (m' := [OwnSl ePush_head 213 p69 c70 s68, pto b2 (.cells #[.slice p69 s68.length c70, .int .i64 o0.r, .slice p6 o0.out.length c7] 187 (0, 0)), OwnSl eSum 85 p6 c7 o0.out]) r (.ks 2 r (.nilS [17, 4, 1, 0] r r (.condP r hd (fun hb85 hd => ?_) fun hb85 hd => ?_)))
 · exact .exit (oretN results190 .n le84 (.c (.s .z) (.c .z (.c .z .n))) ⟨({ heads := s68, r := o0.r, out := o0.out } : Push_merger), _, _, _, _, r, r, hd⟩)
 refine .skipS [4, 1, 0] r r (.sr (.ks 3 r ?_))
 have hw86 := W_push_heads_Swap_c73 (I := I78) (o0 := s68) (a0 := (w64 ((w64 (s72 - 1)).tdiv 2))) (a1 := s72) (p2 := p69) (c3 := c70) hd
 refine .callS (.iv call217 (methodV (method_val MD IN211 r r r un211) ia185 (.s .z) r) r r) (.c .z .n) hw86 r r fun v90 I87 l91 hl88 hv89 => ?_
 obtain ⟨r92, rfl, hlen96, rfl, hd⟩ := hv89
 have le97 := IH.le.trans le84 hl88
 exact .reat (.s .z) (B := pto b2 (.cells #[.slice p69 r92.length c70, .int .i64 o0.r, .slice p6 o0.out.length c7] 187 (0, 0))) (by rw [hlen96]) (.nilS [4, 0] r r (.region (.ks 2 r (.nil' fun c w ho hs => ⟨(r92, w64 ((w64 (s72 - 1)).tdiv 2)), hd, I87, _, _, le97, ho.sub ⟨r, r, trivial⟩, hs.pick (.c (.s .z) (.c .z (.c .z .n)))⟩))))

theorem W_container_heap_Push_f07 {I : IH} {o0 : Push_merger} {a0 : Push_head} {b2 : Nat} {p3 : Option Addr} {c4 : Nat} {p6 : Option Addr} {c7 : Nat} {p11 : Option Addr} {c12 : Nat} {Q : Push_merger → Prop} (R13 : RepSl eSum I p11 c12 a0.l) (hd : container_heap_Push_f07 o0 a0 Q) :
  Fun prog 172 #[.iface 211 (.pointer (some ⟨b2, 0, none⟩)), .iface 213 (.agg #[.slice p11 a0.l.length c12, .int .i64 a0.which])] I [pto b2 (.cells #[.slice p3 o0.heads.length c4, .int .i64 o0.r, .slice p6 o0.out.length c7] 187 (0, 0)), OwnSl ePush_head 213 p3 c4 o0.heads, OwnSl eSum 85 p6 c7 o0.out] (fun I_ v l => ∃ r p15 c16 p18 c19, v = .tuple #[] ∧ l = [pto b2 (.cells #[.slice p15 r.heads.length c16, .int .i64 r.r, .slice p18 r.out.length c19] 187 (0, 0)), OwnSl ePush_head 213 p15 c16 r.heads, OwnSl eSum 85 p18 c19 r.out] ∧ Q r) := by
 refine Fun.enter (vs := [.iface 211 (.pointer (some ⟨b2, 0, none⟩)), .iface 213 (.agg #[.slice p11 a0.l.length c12, .int .i64 a0.which])]) func172 r ntmps172 r (.c (.c .n)) fun w0 M => ?_
 refine .sr (.ks 2 r ?_)
 have hw14 := W_push_heads_Push_5fa (I := I) (o0 := o0) (a0 := a0) (b2 := b2) (p3 := p3) (c4 := c4) (p6 := p6) (c7 := c7) R13 hd
 refine .callS (.i call216 (method_ptr MD IN211 r r r un211) r r) (.c .z (.c .z (.c .z .n))) hw14 r r fun v18 I15 l19 hl16 hv17 => ?_
 obtain ⟨r20, p23, c24, p26, c27, rfl, rfl, hd⟩ := hv17
 replace R13 := R13.mono hl16
 refine .re (m' := [pto b2 (.cells #[.slice p23 r20.heads.length c24, .int .i64 r20.r, .slice p26 r20.out.length c27] 187 (0, 0)), OwnSl ePush_head 213 p23 c24 r20.heads, OwnSl eSum 85 p26 c27 r20.out]) r (.nilS [0] r r (.region (.ks 2 r ?_)))
 have hw31 := W_push_heads_Len_66a (I := I15) (o0 := r20.heads) (p2 := p23) (c3 := c24) hd
 refine .callS (.iv call142 (methodV (method_val MD IN211 r r r un211) ia185 .z r) r r) (.c (.s .z) .n) hw31 r r fun v35 I32 l36 hl33 hv34 => ?_
 obtain ⟨r37, rfl, rfl, hd⟩ := hv34
 have le38 := IH.le.trans hl16 hl33
 refine .re (m' := [OwnSl ePush_head 213 p23 c24 r20.heads, pto b2 (.cells #[.slice p23 r20.heads.length c24, .int .i64 r20.r, .slice p26 r20.out.length c27] 187 (0, 0)), OwnSl eSum 85 p26 c27 r20.out]) r (.ks 1 r ?_)
 have hw39 := W_container_heap_up_248 (I := I32) (o0 := r20) (a0 := (w64 (r37 - 1))) (b2 := b2) (p3 := p23) (c4 := c24) (p6 := p26) (c7 := c27) hd
 refine .callS (.f call190 r) (.c (.s .z) (.c .z (.c .z .n))) hw39 r r fun v43 I40 l44 hl41 hv42 => ?_
 obtain ⟨r45, p48, c49, p51, c52, rfl, rfl, hd⟩ := hv42
 have le56 := IH.le.trans le38 hl41
 exact .re (m' := [pto b2 (.cells #[.slice p48 r45.heads.length c49, .int .i64 r45.r, .slice p51 r45.out.length c52] 187 (0, 0)), OwnSl ePush_head 213 p48 c49 r45.heads, OwnSl eSum 85 p51 c52 r45.out]) r (.nil' (oretN results172 .n le56 (.c .z (.c .z (.c .z .n))) ⟨r45, _, _, _, _, r, r, hd⟩))

theorem W_push_merger_put_46e {I : IH} {o0 : Push_merger} {a0 : List Sum} {a1 : Int} {b2 : Nat} {p3 : Option Addr} {c4 : Nat} {p6 : Option Addr} {c7 : Nat} {p11 : Option Addr} {c12 : Nat} {Q : Push_merger → Prop} (R13 : RepSl eSum I p11 c12 a0) (hd : push_merger_put_46e o0 a0 a1 Q) :
  Fun prog 141 #[.pointer (some ⟨b2, 0, none⟩), .slice p11 a0.length c12, .int .i64 a1] I [pto b2 (.cells #[.slice p3 o0.heads.length c4, .int .i64 o0.r, .slice p6 o0.out.length c7] 187 (0, 0)), OwnSl ePush_head 213 p3 c4 o0.heads, OwnSl eSum 85 p6 c7 o0.out] (fun I_ v l => ∃ r p15 c16 p18 c19, v = .tuple #[] ∧ l = [pto b2 (.cells #[.slice p15 r.heads.length c16, .int .i64 r.r, .slice p18 r.out.length c19] 187 (0, 0)), OwnSl ePush_head 213 p15 c16 r.heads, OwnSl eSum 85 p18 c19 r.out] ∧ Q r) := by
 refine Fun.enter (vs := [.pointer (some ⟨b2, 0, none⟩), .slice p11 a0.length c12, .int .i64 a1]) func141 r ntmps141 r (.c (.c (.c .n))) fun w0 M => ?_
 refine .sr (.ks 1 r (.len un45 r r r r (.ks 1 r (.nilS [8, 2, 1, 0] r r (.condP r hd (fun hb14 hd => ?_) fun hb14 hd => ?_)))))
 · refine .region (.ks 1 r (.nilCheckP r r r (.fa un187 r sizeOf185 r (o := 0) r r r (.mkIface un211 r r r r (.ks 2 r (.build zeroValue213 un213 BI213 (.c r r r (.t .nil) (.c r r r (.s (.t .nil)) .n)) (by exact ⟨⟨_, _, r, r, r⟩, ⟨⟨_, _, r, r, r⟩, trivial⟩⟩) r r (.mkIface un213 r r r r ?_)))))))
   have hw15 := W_container_heap_Push_f07 (I := I) (o0 := o0) (a0 := ({ l := a0, which := a1 } : Push_head)) (b2 := b2) (p3 := p3) (c4 := c4) (p6 := p6) (c7 := c7) R13 hd
   refine .callS (.f call172 r) (.c .z (.c .z (.c .z .n))) hw15 r r fun v19 I16 l20 hl17 hv18 => ?_
   obtain ⟨r21, p24, c25, p27, c28, rfl, rfl, hd⟩ := hv18
   replace R13 := R13.mono hl17
   exact .re (m' := [pto b2 (.cells #[.slice p24 r21.heads.length c25, .int .i64 r21.r, .slice p27 r21.out.length c28] 187 (0, 0)), OwnSl ePush_head 213 p24 c25 r21.heads, OwnSl eSum 85 p27 c28 r21.out]) r (.nil' (oretN results141 .n hl17 (.c .z (.c .z (.c .z .n))) ⟨r21, _, _, _, _, r, r, hd⟩))
 exact .skip' (oretN results141 .n (.refl _) (.c .z (.c .z (.c .z .n))) ⟨o0, _, _, _, _, r, r, hd⟩)

theorem W_container_heap_down_206 {I : IH} {o0 : Push_merger} {a0 : Int} {a1 : Int} {b2 : Nat} {p3 : Option Addr} {c4 : Nat} {p6 : Option Addr} {c7 : Nat} {Q : (Bool × Push_merger) → Prop}  (hd : container_heap_down_206 o0 a0 a1 Q) :
  Fun prog 191 #[.iface 211 (.pointer (some ⟨b2, 0, none⟩)), .int .i64 a0, .int .i64 a1] I [pto b2 (.cells #[.slice p3 o0.heads.length c4, .int .i64 o0.r, .slice p6 o0.out.length c7] 187 (0, 0)), OwnSl ePush_head 213 p3 c4 o0.heads, OwnSl eSum 85 p6 c7 o0.out] (fun I_ v l => ∃ r p12 c13 p15 c16, v = .bool r.1 ∧ l = [pto b2 (.cells #[.slice p12 r.2.heads.length c13, .int .i64 r.2.r, .slice p15 r.2.out.length c16] 187 (0, 0)), OwnSl ePush_head 213 p12 c13 r.2.heads, OwnSl eSum 85 p15 c16 r.2.out] ∧ Q r) := by
 refine Fun.enter (vs := [.iface 211 (.pointer (some ⟨b2, 0, none⟩)), .int .i64 a0, .int .i64 a1]) func191 r ntmps191 r (.c (.c (.c .n))) fun w0 M => ?_
 refine .sr (.ks 1 r (.nilS [2, 1, 0] r r (.sr (.ks 2 r (.nilS [7, 2, 1, 0] r r (.seq (.block (.loop hd (fun (s : (List Push_head) × Int) c w => match s with | (s138, s142) => ∃ I_ p139 c140, IH.le I I_ ∧ Ok ⟨48, [], none⟩ [(0, .iface 211 (.pointer (some ⟨b2, 0, none⟩))), (1, .int .i64 a0), (2, .int .i64 a1), (7, .int .i64 s142)] c ∧ Sym w0 M I I_ [pto b2 (.cells #[.slice p139 s138.length c140, .int .i64 o0.r, .slice p6 o0.out.length c7] 187 (0, 0)), OwnSl ePush_head 213 p139 c140 s138, OwnSl eSum 85 p6 c7 o0.out] w) (fun c w ho hs => ⟨I, _, _, (.refl _), ho.sub ⟨r, r, r, r, trivial⟩, hs.pick (.c .z (.c .z (.c .z .n)))⟩) ?_))))))))
 rintro ⟨s138, s142⟩ next143 hd c w hst
 obtain ⟨I144, p139, c140, hl145, hok, hsym⟩ := hst
 refine Cod.at hok hsym (.block (.sr (.ks 4 r (.nilS [8, 7, 2, 1, 0] r r (.seq (.sr (.ks 4 r ?_)))))))
 refine splitP hd (fun hb148 hd => ?_) fun hb148 hd => ?_
 · rw [hb148]
   exact .ks 3 r (.nilS [21, 8, 7, 2, 1, 0] r r (.condKT r r (.exitS [7, 1, 0] r r (.sr (.ks 4 r (.nilS [6, 0] r r (.ret (oret results191 (.t r .n) hl145 (.c .z (.c .z (.c .z .n))) ⟨(decide (a0 < s142), ({ heads := s138, r := o0.r, out := o0.out } : Push_merger)), _, _, _, _, r, r, hd⟩))))))))
 rw [hb148]
 refine .ks 3 r (.nilS [21, 8, 7, 2, 1, 0] r r (.condP r hd (fun hb149 hd => ?_) fun hb149 hd => ?_))
 · exact .exitS [7, 1, 0] r r (.sr (.ks 4 r (.nilS [6, 0] r r (.ret (oret results191 (.t r .n) hl145 (.c .z (.c .z (.c .z .n))) ⟨(decide (a0 < s142), ({ heads := s138, r := o0.r, out := o0.out } : Push_merger)), _, _, _, _, r, r, hd⟩)))))
 refine .skipS [8, 7, 2, 1, 0] r r (.sr (.ks 2 r (.nilS [9, 8, 7, 2, 1, 0] r r (.seq ?_))))
 refine Cod.joinQ (σ := Int) hd (fun (s170 : Int) c w => ∃ I_, IH.le I144 I_ ∧ Ok ⟨48, [], none⟩ [(0, .iface 211 (.pointer (some ⟨b2, 0, none⟩))), (1, .int .i64 a0), (2, .int .i64 a1), (7, .int .i64 s142), (9, .int .i64 s170)] c ∧ Sym w0 M I I_ [pto b2 (.cells #[.slice p139 s138.length c140, .int .i64 o0.r, .slice p6 o0.out.length c7] 187 (0, 0)), OwnSl ePush_head 213 p139 c140 s138, OwnSl eSum 85 p6 c7 o0.out] w) (fun k171 hd => ?_) ?_
 · skip
   refine .sr (.ks 3 r (.nilS [10, 9, 8, 7, 2, 1, 0] r r (.sr (.ks 4 r ?_))))
   refine splitP hd (fun hb172 hd => ?_) fun hb172 hd => ?_
   · rw [hb172]
     refine .ks 3 r ?_
     have hw173 := W_push_heads_Less_706 (I := I144) (o0 := s138) (a0 := (w64 ((w64 ((w64 (2 * s142)) + 1)) + 1))) (a1 := (w64 ((w64 (2 * s142)) + 1))) (p2 := p139) (c3 := c140) hd
     refine .gyes r r r (.callS (.iv call214 (methodV (method_val MD IN211 r r r un211) ia185 .z r) r r) (.c (.s .z) .n) hw173 r r fun v177 I174 l178 hl175 hv176 => ?_)
     obtain ⟨r179, rfl, rfl, hd⟩ := hv176
     have le180 := IH.le.trans hl145 hl175
     refine .re (m' := [OwnSl ePush_head 213 p139 c140 s138, pto b2 (.cells #[.slice p139 s138.length c140, .int .i64 o0.r, .slice p6 o0.out.length c7] 187 (0, 0)), OwnSl eSum 85 p6 c7 o0.out]) r (.ks 1 r (.nilS [33, 10, 9, 7, 2, 1, 0] r r (.condP r hd (fun hb181 hd => ?_) fun hb181 hd => ?_)))
     · exact .region (.ks 2 r (.nil' fun c w ho hs => ⟨(w64 ((w64 ((w64 (2 * s142)) + 1)) + 1)), hd, I174, hl175, ho.sub ⟨r, r, r, r, r, trivial⟩, hs.pick (.c (.s .z) (.c .z (.c .z .n)))⟩))
     exact .skip' fun c w ho hs => ⟨(w64 ((w64 (2 * s142)) + 1)), hd, I174, hl175, ho.sub ⟨r, r, r, r, r, trivial⟩, hs.pick (.c (.s .z) (.c .z (.c .z .n)))⟩
   rw [hb172]
   exact .ks 5 r (.nilS [33, 10, 9, 7, 2, 1, 0] r r (.condKF r r (.skip' fun c w ho hs => ⟨(w64 ((w64 (2 * s142)) + 1)), hd, I144, (.refl _), ho.sub ⟨r, r, r, r, r, trivial⟩, hs.pick (.c .z (.c .z (.c .z .n)))⟩)))
 rintro s170 hd c w hst
 obtain ⟨I182, hl183, hok, hsym⟩ := hst
 have le184 := IH.le.trans hl145 hl183
 refine Cod.at hok hsym (.seq (.sr (.ks 3 r ?_)))
 have hw185 := W_push_heads_Less_706 (I := I182) (o0 := s138) (a0 := s170) (a1 := s142) (p2 := p139) (c3 := c140) hd
 refine .callS (.iv call214 (methodV (method_val MD IN211 r r r un211) ia185 .z r) r r) (.c (.s .z) .n) hw185 r r fun v189 I186 l190 hl187 hv188 => ?_
 obtain ⟨r191, rfl, rfl, hd⟩ := hv188
 have le192 := IH.le.trans le184 hl187
 have le193 := IH.le.trans hl183 hl187
 refine .re (m' := [OwnSl ePush_head 213 p139 c140 s138, pto b2 (.cells #[.slice p139 s138.length c140, .int .i64 o0.r, .slice p6 o0.out.length c7] 187 (0, 0)), OwnSl eSum 85 p6 c7 o0.out]) r (.ks 1 r (.nilS [39, 9, 7, 2, 1, 0] r r (.condP r hd (fun hb194 hd => ?_) fun hb194 hd => ?_)))
 · exact .exitS [7, 1, 0] r r (.sr (.ks 4 r (.nilS [6, 0] r r (.ret (oret results191 (.t r .n) le192 (.c (.s .z) (.c .z (.c .z .n))) ⟨(decide (a0 < s142), ({ heads := s138, r := o0.r, out := o0.out } : Push_merger)), _, _, _, _, r, r, hd⟩)))))
 refine .skipS [9, 7, 2, 1, 0] r r (.sr (.ks 3 r ?_))
 have hw195 := W_push_heads_Swap_c73 (I := I186) (o0 := s138) (a0 := s142) (a1 := s170) (p2 := p139) (c3 := c140) hd
 refine .callS (.iv call217 (methodV (method_val MD IN211 r r r un211) ia185 (.s .z) r) r r) (.c .z .n) hw195 r r fun v199 I196 l200 hl197 hv198 => ?_
 obtain ⟨r201, rfl, hlen205, rfl, hd⟩ := hv198
 have le206 := IH.le.trans le192 hl197
 have le207 := IH.le.trans le193 hl197
 exact .reat (.s .z) (B := pto b2 (.cells #[.slice p139 r201.length c140, .int .i64 o0.r, .slice p6 o0.out.length c7] 187 (0, 0))) (by rw [hlen205]) (.nilS [9, 2, 1, 0] r r (.region (.ks 2 r (.nil' fun c w ho hs => ⟨(r201, s170), hd, I196, _, _, le206, ho.sub ⟨r, r, r, r, trivial⟩, hs.pick (.c (.s .z) (.c .z (.c .z .n)))⟩))))

theorem W_push_heads_Pop_df2 {I : IH} {o0 : Push_merger} {b2 : Nat} {p3 : Option Addr} {c4 : Nat} {p6 : Option Addr} {c7 : Nat} {Q : (Push_head × Push_merger) → Prop}  (hd : push_heads_Pop_df2 o0 Q) :
  Fun prog 215 #[.pointer (some ⟨b2, 0, none⟩)] I [pto b2 (.cells #[.slice p3 o0.heads.length c4, .int .i64 o0.r, .slice p6 o0.out.length c7] 187 (0, 0)), OwnSl ePush_head 213 p3 c4 o0.heads, OwnSl eSum 85 p6 c7 o0.out] (fun I_ v l => ∃ r p20 c21 p12 c13 p15 c16, v = .iface 213 (.agg #[.slice p20 r.1.l.length c21, .int .i64 r.1.which]) ∧ RepSl eSum I_ p20 c21 r.1.l ∧ l = [pto b2 (.cells #[.slice p12 r.2.heads.length c13, .int .i64 r.2.r, .slice p15 r.2.out.length c16] 187 (0, 0)), OwnSl ePush_head 213 p12 c13 r.2.heads, OwnSl eSum 85 p15 c16 r.2.out] ∧ Q r) := by
 refine Fun.enter (vs := [.pointer (some ⟨b2, 0, none⟩)]) func215 r ntmps215 r (.c .n) fun w0 M => ?_
 refine .sr (.ks 1 r (.nilS [0] r r (.sr (.ks 1 r (.nilCheckP r r r (.load1 ia185 r .z r r r (.len un185 r r r r (.ks 2 r (.nilS [3, 0] r r ?_)))))))))
 refine .sr (.ks 1 r (.nilCheckP r r r (.load1 ia185 r .z r r r (.ks 1 r ?_))))
 obtain ⟨h23, x24, hx25, hd⟩ := hd
 refine .ownNe (.s .z) (idx_ne hx25) fun b26 e27 => ?_
 cases e27
 refine .ixa0 un185 sz213 r r h23 (idx_lt hx25 h23) r r (.loEW isAgg213 sz213 (.s .z) hx25 r r r r r fun cs31 hr32 => ?_)
 obtain ⟨p28, c29, rfl, R30⟩ := hr32
 refine .allocA zeroValue213 r r fun b33 => ?_
 refine .storeA sz213 r r .z (.t (.t .nil)) r r (.nilS [4, 3, 0] r r (.sr (.ks 2 r (.nilCheckP r r r (.load1 ia185 r (.s .z) r r r (.ks 1 r ?_))))))
 obtain ⟨h35, h36, h37, hd⟩ := hd
 refine .sliceT (H := (w64 ((o0.heads.length : Int) - 1)).toNat) un185 sz213 r r (.s (.s .z)) (.s (.s .z)) r (by omega) r (by omega) r r (.nilCheckP r r r (.store1 sizeOf185 r r (.s .z) (.t .nil) r (.nilS [4, 0] r r (.sr (.loadW isAgg213 sz213 r .z r r r (.mkIface un213 r r r r (.ks 1 r (.nilS [2, 0] r r (.drop .z ?_)))))))))
 exact .ret (oret results215 (.t r .n) (.refl _) (.c .z (.c .z (.c .z .n))) ⟨(x24, ({ heads := (o0.heads.take (w64 ((o0.heads.length : Int) - 1)).toNat), r := o0.r, out := o0.out } : Push_merger)), _, _, _, _, _, _, r, R30, r, hd⟩)

theorem W_container_heap_Pop_4c3 {I : IH} {o0 : Push_merger} {b2 : Nat} {p3 : Option Addr} {c4 : Nat} {p6 : Option Addr} {c7 : Nat} {Q : (Push_head × Push_merger) → Prop}  (hd : container_heap_Pop_4c3 o0 Q) :
  Fun prog 173 #[.iface 211 (.pointer (some ⟨b2, 0, none⟩))] I [pto b2 (.cells #[.slice p3 o0.heads.length c4, .int .i64 o0.r, .slice p6 o0.out.length c7] 187 (0, 0)), OwnSl ePush_head 213 p3 c4 o0.heads, OwnSl eSum 85 p6 c7 o0.out] (fun I_ v l => ∃ r p20 c21 p12 c13 p15 c16, v = .iface 213 (.agg #[.slice p20 r.1.l.length c21, .int .i64 r.1.which]) ∧ RepSl eSum I_ p20 c21 r.1.l ∧ l = [pto b2 (.cells #[.slice p12 r.2.heads.length c13, .int .i64 r.2.r, .slice p15 r.2.out.length c16] 187 (0, 0)), OwnSl ePush_head 213 p12 c13 r.2.heads, OwnSl eSum 85 p15 c16 r.2.out] ∧ Q r) := by
 refine Fun.enter (vs := [.iface 211 (.pointer (some ⟨b2, 0, none⟩))]) func173 r ntmps173 r (.c .n) fun w0 M => ?_
 refine .sr (.ks 1 r (.nilS [0] r r (.sr (.ks 1 r ?_))))
 have hw18 := W_push_heads_Len_66a (I := I) (o0 := o0.heads) (p2 := p3) (c3 := c4) hd
 refine .callS (.iv call142 (methodV (method_val MD IN211 r r r un211) ia185 .z r) r r) (.c (.s .z) .n) hw18 r r fun v22 I19 l23 hl20 hv21 => ?_
 obtain ⟨r24, rfl, rfl, hd⟩ := hv21
 refine .re (m' := [OwnSl ePush_head 213 p3 c4 o0.heads, pto b2 (.cells #[.slice p3 o0.heads.length c4, .int .i64 o0.r, .slice p6 o0.out.length c7] 187 (0, 0)), OwnSl eSum 85 p6 c7 o0.out]) r (.ks 2 r (.nilS [3, 0] r r (.sr (.ks 2 r ?_))))
 have hw25 := W_push_heads_Swap_c73 (I := I19) (o0 := o0.heads) (a0 := 0) (a1 := (w64 (r24 - 1))) (p2 := p3) (c3 := c4) hd
 refine .callS (.iv call217 (methodV (method_val MD IN211 r r r un211) ia185 (.s .z) r) r r) (.c .z .n) hw25 r r fun v29 I26 l30 hl27 hv28 => ?_
 obtain ⟨r31, rfl, hlen35, rfl, hd⟩ := hv28
 have le36 := IH.le.trans hl20 hl27
 refine .reat (.s .z) (B := pto b2 (.cells #[.slice p3 r31.length c4, .int .i64 o0.r, .slice p6 o0.out.length c7] 187 (0, 0))) (by rw [hlen35]) (.nilS [3, 0] r r (.sr (.ks 2 r ?_)))
 have hw37 := W_container_heap_down_206 (I := I26) (o0 := ({ heads := r31, r := o0.r, out := o0.out } : Push_merger)) (a0 := 0) (a1 := (w64 (r24 - 1))) (b2 := b2) (p3 := p3) (c4 := c4) (p6 := p6) (c7 := c7) hd
 refine .callS (.f call191 r) (.c (.s .z) (.c .z (.c .z .n))) hw37 r r fun v41 I38 l42 hl39 hv40 => ?_
 obtain ⟨r43, p46, c47, p49, c50, rfl, rfl, hd⟩ := hv40
 have le54 := IH.le.trans le36 hl39
 refine .re (m' := [pto b2 (.cells #[.slice p46 r43.2.heads.length c47, .int .i64 r43.2.r, .slice p49 r43.2.out.length c50] 187 (0, 0)), OwnSl ePush_head 213 p46 c47 r43.2.heads, OwnSl eSum 85 p49 c50 r43.2.out]) r (.nilS [0] r r (.sr (.ks 1 r ?_)))
 have hw55 := W_push_heads_Pop_df2 (I := I38) (o0 := r43.2) (b2 := b2) (p3 := p46) (c4 := c47) (p6 := p49) (c7 := c50) hd
 refine .callS (.i call215 (method_ptr MD IN211 r r r un211) r r) (.c .z (.c .z (.c .z .n))) hw55 r r fun v59 I56 l60 hl57 hv58 => ?_
 obtain ⟨r61, p62, c63, p67, c68, p70, c71, rfl, R64, rfl, hd⟩ := hv58
 have le75 := IH.le.trans le54 hl57
 exact .re (m' := [pto b2 (.cells #[.slice p67 r61.2.heads.length c68, .int .i64 r61.2.r, .slice p70 r61.2.out.length c71] 187 (0, 0)), OwnSl ePush_head 213 p67 c68 r61.2.heads, OwnSl eSum 85 p70 c71 r61.2.out]) r (.ks 1 r (.nilS [2, 0] r r (.ret (oret results173 (.t r .n) le75 (.c .z (.c .z (.c .z .n))) ⟨(r61.1, r61.2), _, _, _, _, _, _, r, R64, r, hd⟩))))

theorem W_push_merger_next_d58 {I : IH} {o0 : Push_merger} {b2 : Nat} {p3 : Option Addr} {c4 : Nat} {p6 : Option Addr} {c7 : Nat} {Q : Push_merger → Prop}  (hd : push_merger_next_d58 o0 Q) :
  Fun prog 143 #[.pointer (some ⟨b2, 0, none⟩)] I [pto b2 (.cells #[.slice p3 o0.heads.length c4, .int .i64 o0.r, .slice p6 o0.out.length c7] 187 (0, 0)), OwnSl ePush_head 213 p3 c4 o0.heads, OwnSl eSum 85 p6 c7 o0.out] (fun I_ v l => ∃ r p12 c13 p15 c16, v = .tuple #[] ∧ l = [pto b2 (.cells #[.slice p12 r.heads.length c13, .int .i64 r.r, .slice p15 r.out.length c16] 187 (0, 0)), OwnSl ePush_head 213 p12 c13 r.heads, OwnSl eSum 85 p15 c16 r.out] ∧ Q r) := by
 refine Fun.enter (vs := [.pointer (some ⟨b2, 0, none⟩)]) func143 r ntmps143 r (.c .n) fun w0 M => ?_
 refine .sr (.ks 1 r (.nilCheckP r r r (.fa un187 r sizeOf185 r (o := 0) r r r (.load1 ia185 r .z r r r ?_))))
 obtain ⟨h23, x24, hx25, hd⟩ := hd
 refine .ownNe (.s .z) (idx_ne hx25) fun b26 e27 => ?_
 cases e27
 refine .ixa0 un185 sz213 r r h23 (idx_lt hx25 h23) r r (.loEW isAgg213 sz213 (.s .z) hx25 r r r r r fun cs31 hr32 => ?_)
 obtain ⟨p28, c29, rfl, R30⟩ := hr32
 refine .allocA zeroValue213 r r fun b33 => ?_
 refine .storeA sz213 r r .z (.t (.t .nil)) r r (.nilS [2, 0] r r (.sr (.ks 1 r (.nilCheckP r r r (.fa un187 r sizeOf185 r (o := 0) r r r (.mkIface un211 r r r r ?_))))))
 have hw55 := W_container_heap_Pop_4c3 (I := I) (o0 := o0) (b2 := b2) (p3 := some ⟨b26, 0, none⟩) (c4 := c4) (p6 := p6) (c7 := c7) hd
 refine .callS (.f call173 r) (.c (.s .z) (.c (.s .z) (.c (.s .z) .n))) hw55 r r fun v59 I56 l60 hl57 hv58 => ?_
 obtain ⟨r61, p62, c63, p67, c68, p70, c71, rfl, R64, rfl, hd⟩ := hv58
 replace R30 := R30.mono hl57
 refine .re (m' := [pto b2 (.cells #[.slice p67 r61.2.heads.length c68, .int .i64 r61.2.r, .slice p70 r61.2.out.length c71] 187 (0, 0)), OwnSl ePush_head 213 p67 c68 r61.2.heads, OwnSl eSum 85 p70 c71 r61.2.out, pto b33 (.cells #[.slice p28 x24.l.length c29, .int .i64 x24.which] 213 (0, 0))]) r (.nilS [2, 0] r r (.sr (.fa un213 r sz45 r (o := 0) r r r (.load1 ia45 r (.s (.s (.s .z))) r r r ?_))))
 obtain ⟨h86, x87, hx88, hd⟩ := hd
 obtain ⟨b89, o90, cs91, e92, hC93, hr94⟩ := R30.2 _ _ hx88
 cases hr94
 refine .ixa un45 sz85 r e92 r h86 (idx_lt hx88 h86) r r (.ldW isAgg85 sz85 hC93 r r r r (.allocA zv85 r r fun b95 => ?_))
 refine .storeA sz85 r r .z (.t (.t (.t .nil))) r r (.nilS [3, 2, 0] r r (.seq (.dr [0, 1, 2, 3, 4, 5, 6] 7 (.fk 1 r (.g r r r (fun _ => .fa un213 r sz45 r (o := 0) r r r .mk) (.g r r r (fun _ => .load1 ia45 r (.s (.s (.s (.s .z)))) r r r .mk) ?_))))))
 obtain ⟨h125, h126, h127, hd⟩ := hd
 have h133 : Int.toNat 1 ≤ Int.toNat (x24.l.length : Int) := by omega
 have h134 : Int.toNat (x24.l.length : Int) ≤ x24.l.length := by omega
 obtain ⟨p128, c129, e131, e132, R130⟩ := RepSl.sliceW R30 (Int.toNat 1) (Int.toNat (x24.l.length : Int)) c29 h133 h134 (.inl rfl)
 refine .g r r r (fun _ => .sliceW (L := Int.toNat 1) (H := Int.toNat (x24.l.length : Int)) (cm := c29) un45 sz85 r r R30.1 r r r (.inr ⟨_, _, r, h125, r⟩) (.inl ⟨r, r, r⟩) (.inl r) h133 h134 r e131 e132 r r .mk) (.g r r r (fun _ => .fa un213 r sz3 r (o := 1) r r r .mk) (.g r r r (fun _ => .load1 ia3 r (.s (.s (.s (.s .z)))) r r r .mk) (.ww r fun ex => ?_)))
 have hw135 := W_push_merger_put_46e (I := I56) (o0 := r61.2) (a0 := ((x24.l.take (x24.l.length : Int).toNat).drop (Int.toNat 1))) (a1 := x24.which) (b2 := b2) (p3 := p67) (c4 := c68) (p6 := p70) (c7 := c71) R130 hd
 refine .callS (.f call141 r) (.c (.s .z) (.c (.s .z) (.c (.s .z) .n))) hw135 r r fun v139 I136 l140 hl137 hv138 => ?_
 obtain ⟨r141, p144, c145, p147, c148, rfl, rfl, hd⟩ := hv138
 have le152 := IH.le.trans hl57 hl137
 replace R30 := R30.mono hl137
 replace R130 := R130.mono hl137
 refine .re (m' := (pto b2 (.cells #[.slice p144 r141.heads.length c145, .int .i64 r141.r, .slice p147 r141.out.length c148] 187 (0, 0))) :: (OwnSl ePush_head 213 p144 c145 r141.heads) :: (OwnSl eSum 85 p147 c148 r141.out) :: (pto b95 (.cells #[.int .i64 x87.At, .int .i64 x87.Val.Hi, .int .u64 x87.Val.Lo] 85 (0, 0))) :: (pto b33 (.cells #[.slice p28 x24.l.length c29, .int .i64 x24.which] 213 (0, 0))) :: ex) r (.so 5 r r r trivial (.e2 7 (.nilS [3, 0] r r (.drop (.s (.s (.s (.s .z)))) (.seq (.sr (.ks 1 r (.nilCheckP r r r (.fa un187 r sz45 r (o := 2) r r r ?_)))))))))
 refine .load1 ia45 r .z r r r (.len un45 r r r r (.ks 1 r (.nilS [4, 3, 0] r r (.seq ?_))))
 refine Cod.joinQ (σ := Bool) hd (fun (s213 : Bool) c w => ∃ I_, IH.le I136 I_ ∧ Ok ⟨82, [], none⟩ [(0, .pointer (some ⟨b2, 0, none⟩)), (3, .pointer (some ⟨b95, 0, none⟩)), (4, .int .i64 (r141.out.length : Int)), (47, .bool s213)] c ∧ Sym w0 M I I_ [pto b2 (.cells #[.slice p144 r141.heads.length c145, .int .i64 r141.r, .slice p147 r141.out.length c148] 187 (0, 0)), OwnSl ePush_head 213 p144 c145 r141.heads, OwnSl eSum 85 p147 c148 r141.out, pto b95 (.cells #[.int .i64 x87.At, .int .i64 x87.Val.Hi, .int .u64 x87.Val.Lo] 85 (0, 0))] w) (fun k214 hd => ?_) ?_
 · skip
   refine .ownF (.s .z) fun hne215 => ?_
   refine .ownF (.s (.s .z)) fun hne216 => ?_
   refine .dr [0, 1, 2, 3, 4, 5, 6, 7, 8, 9, 10, 11, 12, 13, 14, 15] 16 (.fk 3 r ?_)
   refine splitP hd (fun hb217 hd => ?_) fun hb217 hd => ?_
   · rw [hb217]
     refine .fk 1 r (.g r r r (fun _ => .gyes r r r (.nilCheckP r r r .mk)) (.g r r r (fun _ => .gyes r r r (.fa un187 r sz45 r (o := 2) r r r .mk)) (.g r r r (fun _ => .gyes r r r (.load1 ia45 r .z r r r .mk)) (.fk 2 r ?_))))
     obtain ⟨h218, x219, hx220, hd⟩ := hd
     obtain ⟨b221, e222⟩ := hne216 (idx_ne hx220)
     cases e222
     exact .g r r r (fun _ => .gyes r r r (.ixa0 un45 sz85 r r h218 (idx_lt hx220 h218) r r .mk)) (.g r r r (fun _ => .gyes r r r (.fa un85 r sz3 r (o := ((w64 ((r141.out.length : Int) - 1)).toNat) * 3) r r r .mk)) (.g r r r (fun _ => .gyes r r r (.lo1 (j := 0) ia3 (.s (.s .z)) hx220 r r r r r .mk)) (.g r r r (fun _ => .gyes r r r (.fa un85 r sz3 r (o := 0) r r r .mk)) (.g r r r (fun _ => .gyes r r r (.load1 ia3 r (.s (.s (.s .z))) r r r .mk)) (.fk 2 r (.e2 16 (.nil' fun c w ho hs => ⟨(x219.At == x87.At), hd, I136, (.refl _), ho.sub ⟨r, r, r, r, trivial⟩, hs.pick (.c .z (.c .z (.c .z (.c .z .n))))⟩)))))))
   rw [hb217]
   exact .fk 13 r (.e2 16 (.nil' fun c w ho hs => ⟨false, hd, I136, (.refl _), ho.sub ⟨r, r, r, r, trivial⟩, hs.pick (.c .z (.c .z (.c .z (.c .z .n))))⟩))
 rintro s213 hd c w hst
 obtain ⟨I223, hl224, hok, hsym⟩ := hst
 have le225 := IH.le.trans le152 hl224
 refine Cod.at hok hsym (.condP r hd (fun hb226 hd => ?_) fun hb226 hd => ?_)
 · refine .seq (.ownF (.s .z) fun hne227 => ?_)
   refine .ownF (.s (.s .z)) fun hne228 => ?_
   refine .dr [0, 1, 2, 3, 4, 5, 6, 7, 8, 9, 10, 11, 12, 13, 14, 15, 16, 17, 18, 19, 20, 21, 22, 23, 24] 25 (.fk 1 r (.g r r r (fun _ => .nilCheckP r r r .mk) (.g r r r (fun _ => .fa un187 r sz45 r (o := 2) r r r .mk) (.g r r r (fun _ => .load1 ia45 r .z r r r .mk) (.fk 3 r (.g r r r (fun _ => .nilCheckP r r r .mk) (.g r r r (fun _ => .fa un187 r sz29 r (o := 1) r r r .mk) (.g r r r (fun _ => .load1 ia29 r .z r r r .mk) (.fk 1 r ?_)))))))))
   refine .g r r r (fun _ => .nilCheckP r r r .mk) (.g r r r (fun _ => .fa un187 r sz45 r (o := 2) r r r .mk) (.g r r r (fun _ => .load1 ia45 r .z r r r .mk) (.fk 2 r ?_)))
   obtain ⟨h229, x230, hx231, hd⟩ := hd
   obtain ⟨b232, e233⟩ := hne228 (idx_ne hx231)
   cases e233
   refine .g r r r (fun _ => .ixa0 un45 sz85 r r h229 (idx_lt hx231 h229) r r .mk) (.g r r r (fun _ => .fa un85 r sz83 r (o := ((w64 ((r141.out.length : Int) - 1)).toNat) * 3 + 1) r r r .mk) (.g r r r (fun _ => .loA (j := 1) ia83 sz83 (.s (.s .z)) hx231 r r (.s (.t (.t .nil))) r r r .mk) (.g r r r (fun _ => .fa un85 r sz83 r (o := 1) r r r .mk) (.g r r r (fun _ => .loadA ia83 sz83 r (.s (.s (.s .z))) (.s (.t (.t .nil))) r r r .mk) (.ww r fun ex => ?_)))))
   have hw235 := W_ring_Add (I := I223) hd
   refine .callP call174 r hw235 r r fun v236 hv237 => ?_
   obtain ⟨r234, rfl, hd⟩ := hv237
   refine .so 4 r r r (.ck 2 r r (.cg r r r r (fun _ => .load1 ia45 r .z r r r .mk) (.cg r r r r (fun _ => .fa un187 r sz45 r (o := 2) r r r .mk) (.cg r r r r (fun _ => .nilCheckP r r r .mk) (.ck 1 r r trivial))))) ?_
   obtain ⟨h238, x239, hx240, hd⟩ := hd
   refine .g r r r (fun _ => .ixa0 un45 sz85 r r h238 (idx_lt hx240 h238) r r .mk) (.g r r r (fun _ => .fa un85 r sz83 r (o := ((w64 ((r141.out.length : Int) - 1)).toNat) * 3 + 1) r r r .mk) (.ww r fun ex => ?_))
   exact .stOA (j := 1) (v' := ({ At := x239.At, Val := r234 } : Sum)) sz83 (.s (.s .z)) hx240 r r r (.s (.t (.t .nil))) r r (.reat .z (B := pto b2 (.cells #[.slice p144 r141.heads.length c145, .int .i64 r141.r, .slice (some ⟨b232, 0, none⟩) (r141.out.set ((w64 ((r141.out.length : Int) - 1)).toNat) ({ At := x239.At, Val := r234 } : Sum)).length c148] 187 (0, 0))) (by simp only [List.length_set]) (.sn 4 r r r trivial (.e2 25 (.sub (E' := [(0, _), (3, _), (4, _), (47, _), (48, _), (49, _), (50, _), (51, .slice (some ⟨b232, 0, none⟩) (r141.out.set ((w64 ((r141.out.length : Int) - 1)).toNat) ({ At := x239.At, Val := r234 } : Sum)).length c148), (52, _), (53, _), (54, _), (55, _), (56, _), (57, _), (58, _), (59, _), (60, _), (61, .slice (some ⟨b232, 0, none⟩) (r141.out.set ((w64 ((r141.out.length : Int) - 1)).toNat) ({ At := x239.At, Val := r234 } : Sum)).length c148), (62, _), (63, _), (64, _), (65, _), (66, _), (67, _), (68, _), (69, _), (70, _), (71, _)]) ⟨r, r, r, r, r, r, r, (by simp only [List.length_set]; rfl), r, r, r, r, r, r, r, r, r, (by simp only [List.length_set]; rfl), r, r, r, r, r, r, r, r, r, r, trivial⟩ (.reat .z (B := pto b2 (.cells #[.slice p144 r141.heads.length c145, .int .i64 r141.r, .slice (some ⟨b232, 0, none⟩) (r141.out.set ((w64 ((r141.out.length : Int) - 1)).toNat) ({ At := x239.At, Val := r234 } : Sum)).length c148] 187 (0, 0))) (by simp only [List.length_set]) (.nilS [0] r r (.drop (.s (.s (.s .z))) (.ret (oret results143 .n le225 (.c .z (.c .z (.c .z .n))) ⟨({ heads := r141.heads, r := r141.r, out := (r141.out.set ((w64 ((r141.out.length : Int) - 1)).toNat) ({ At := x239.At, Val := r234 } : Sum)) } : Push_merger), _, _, _, _, r, r, hd⟩)))))))))
 refine .skipS [3, 0] r r (.dr [0, 1, 2, 3, 4, 5, 6, 7, 8, 9, 10] 11 (.fk 2 r (.g r r r (fun _ => .nilCheckP r r r .mk) (.g r r r (fun _ => .fa un187 r sz45 r (o := 2) r r r .mk) (.g r r r (fun _ => .load1 ia45 r .z r r r .mk) (.g r r r (fun _ => .loadW isAgg85 sz85 r (.s (.s (.s .z))) r r r .mk) (.ww r fun ex => ?_)))))))
 refine .buildSlice 1 un45 sz85 zv85 r r (.c r r r .n) r r fun b241 => ?_
 refine .so 5 r r r (.cg r r r r (fun _ => .load1 ia45 r (.s .z) r r r .mk) (.cg r r r r (fun _ => .fa un187 r sz45 r (o := 2) r r r .mk) (.cg r r r r (fun _ => .nilCheckP r r r .mk) (.ck 2 r r trivial)))) (.ww r fun ex => ?_)
 obtain ⟨hl243, hd⟩ := hd
 refine .append (ys := [x87]) 24 (.s (.s (.s .z))) un45 un45 IN85 r r r r r r r r r (.box .z (.one r) r) hl243 r r fun p244 c245 => ?_
 refine .so 5 r r r (.ck 1 r r trivial) (.g r r r (fun _ => .nilCheckP r r r .mk) (.g r r r (fun _ => .fa un187 r sz45 r (o := 2) r r r .mk) (.ww r fun ex => ?_)))
 exact .store1 sz45 r r (.s (.s .z)) (.s (.s (.t .nil))) r (.sn 5 r r r trivial (.e2 11 (.nil' (oretN results143 .n le225 (.c (.s (.s .z)) (.c (.s (.s .z)) (.c .z .n))) ⟨({ heads := r141.heads, r := r141.r, out := (r141.out ++ ([x87])) } : Push_merger), _, _, _, _, r, r, hd⟩))))

theorem W_push_Merge {I : IH} {a0 : Int} {a1 : List (List Sum)} {p1 : Option Addr} {c2 : Nat} {Q : ((List Sum) × Int) → Prop} (R3 : RepSl (slEl eSum) I p1 c2 a1) (hd : push_Merge a0 a1 Q) :
  PFun prog 112 [.int .i64 a0, .slice p1 a1.length c2] I (fun I_ v => ∃ r p4 c5, v = .tuple #[.slice p4 r.1.length c5, .int .i64 r.2] ∧ RepSl eSum I_ p4 c5 r.1 ∧ Q r) := by
 refine Fun.enter func112 r ntmps112 r (.c (.c .n)) fun w0 M => ?_
 refine .sr (.ks 2 r (.nilS [1, 0] r r (.seq (.sr (.ks 1 r ?_)))))
 have hw13 := W_ring_Is (I := I) hd
 refine .callP call109 r hw13 r r fun v14 hv15 => ?_
 obtain ⟨r12, rfl, hd⟩ := hv15
 refine .ks 1 r (.nilS [11, 1, 0] r r (.condP r hd (fun hb16 hd => ?_) fun hb16 hd => ?_))
 · exact .sr (.ks 2 r (.nilS [5, 4] r r (.ret (pret results112 (.t r (.t r .n)) (.refl _) ⟨(([] : List Sum), 8), _, _, r, (.nil _ _ _), hd⟩))))
 refine .skipS [1, 0] r r (.seq (.sr (.ks 1 r ?_)))
 have hw25 := W_slices_ContainsFunc_api_Sum_api_Sum_bfd (I := I) (a0 := a1) R3 hd
 refine .callS (.f call138 r) .n hw25 r r fun v29 I26 l30 hl27 hv28 => ?_
 obtain ⟨r31, rfl, rfl, hd⟩ := hv28
 replace R3 := R3.mono hl27
 refine .re (m' := []) r (.nilS [13, 1, 0] r r (.condP r hd (fun hb32 hd => ?_) fun hb32 hd => ?_))
 · exact .sr (.ks 2 r (.nilS [5, 4] r r (.ret (pret results112 (.t r (.t r .n)) hl27 ⟨(([] : List Sum), 6), _, _, r, (.nil _ _ _), hd⟩))))
 refine .skipS [1, 0] r r (.sr (.ks 1 r (.build zeroValue187 un187 BI187 (.c r r r (.s (.t .nil)) .n) (by exact ⟨⟨_, _, r, r, r⟩, trivial⟩) r r (.boxA r r r fun b35 => ?_))))
 refine .ks 1 r (.nilS [6, 1] r r (.seq (.sr (.ks 1 r (.len un155 r r r r (.ks 1 r (.nilS [19, 18, 17, 6] r r (.block (.own0 ePush_head 213 ?_)))))))))
 refine .own0 eSum 85 (.loop hd (fun (s : (List Push_head) × Int × (List Sum) × Int) c w => match s with | (s278, s282, s283, s287) => ∃ I_ p279 c280 p284 c285, IH.le I26 I_ ∧ Ok ⟨41, [], none⟩ [(6, .pointer (some ⟨b35, 0, none⟩)), (17, .slice p1 a1.length c2), (18, .int .i64 (a1.length : Int)), (19, .int .i64 s287)] c ∧ Sym w0 M I I_ [pto b35 (.cells #[.slice p279 s278.length c280, .int .i64 s282, .slice p284 s283.length c285] 187 (0, 0)), OwnSl ePush_head 213 p279 c280 s278, OwnSl eSum 85 p284 c285 s283] w) (fun c w ho hs => ⟨I26, _, _, _, _, (.refl _), ho.sub ⟨r, r, r, r, trivial⟩, hs.pick (.c (.s (.s .z)) (.c (.s .z) (.c .z .n)))⟩) ?_)
 rintro ⟨s278, s282, s283, s287⟩ next290 hd c w hst
 obtain ⟨I291, p279, c280, p284, c285, hl292, hok, hsym⟩ := hst
 have le293 := IH.le.trans hl27 hl292
 replace R3 := R3.mono hl292
 refine Cod.at hok hsym (.sr (.ks 1 r (.nilS [20, 19, 18, 17, 6] r r (.seq (.condP r hd (fun hb295 hd => ?_) fun hb295 hd => ?_)))))
 · refine .skipS [19, 18, 17, 6] r r (.seq (.block (.sr (.ks 1 r ?_))))
   obtain ⟨h296, x297, hx298, hd⟩ := hd
   obtain ⟨b299, o300, cs301, e302, hC303, hr304⟩ := R3.2 _ _ hx298
   obtain ⟨p305, c306, rfl, R307⟩ := hr304
   refine .ixa un155 sz45 r e302 r h296 (idx_lt hx298 h296) r r (.ld1 (j := 0) ia45 hC303 r r r r r (.ks 2 r (.nilS [8, 7, 19, 18, 17, 6] r r (.region (.ks 3 r ?_)))))
   have hw308 := W_push_merger_put_46e (I := I291) (o0 := ({ heads := s278, r := s282, out := s283 } : Push_merger)) (a0 := x297) (a1 := s287) (b2 := b35) (p3 := p279) (c4 := c280) (p6 := p284) (c7 := c285) R307 hd
   refine .callS (.f call141 r) (.c .z (.c .z (.c .z .n))) hw308 r r fun v312 I309 l313 hl310 hv311 => ?_
   obtain ⟨r314, p317, c318, p320, c321, rfl, rfl, hd⟩ := hv311
   have le325 := IH.le.trans le293 hl310
   have le326 := IH.le.trans hl292 hl310
   replace R3 := R3.mono hl310
   replace R307 := R307.mono hl310
   exact .re (m' := [pto b35 (.cells #[.slice p317 r314.heads.length c318, .int .i64 r314.r, .slice p320 r314.out.length c321] 187 (0, 0)), OwnSl ePush_head 213 p317 c318 r314.heads, OwnSl eSum 85 p320 c321 r314.out]) r (.nilS [19, 18, 17, 6] r r (.region (.ks 2 r (.nil' fun c w ho hs => ⟨(r314.heads, r314.r, r314.out, w64 (s287 + 1)), hd, I309, _, _, _, _, le326, ho.sub ⟨r, r, r, r, trivial⟩, hs.pick (.c .z (.c .z (.c .z .n)))⟩))))
 refine .exitS [6] r r (.seq (.block (.loop hd (fun (s : (List Push_head) × Int × (List Sum)) c w => match s with | (s402, s406, s407) => ∃ I_ p403 c404 p408 c409, IH.le I291 I_ ∧ Ok ⟨41, [], none⟩ [(6, .pointer (some ⟨b35, 0, none⟩))] c ∧ Sym w0 M I I_ [pto b35 (.cells #[.slice p403 s402.length c404, .int .i64 s406, .slice p408 s407.length c409] 187 (0, 0)), OwnSl ePush_head 213 p403 c404 s402, OwnSl eSum 85 p408 c409 s407] w) (fun c w ho hs => ⟨I291, _, _, _, _, (.refl _), ho.sub ⟨r, trivial⟩, hs.pick (.c .z (.c .z (.c .z .n)))⟩) ?_)))
 rintro ⟨s402, s406, s407⟩ next411 hd c w hst
 obtain ⟨I412, p403, c404, p408, c409, hl413, hok, hsym⟩ := hst
 have le414 := IH.le.trans le293 hl413
 have le415 := IH.le.trans hl292 hl413
 refine Cod.at hok hsym (.seq (.sr (.ks 1 r (.nilCheckP r r r (.fa un187 r sizeOf185 r (o := 0) r r r (.load1 ia185 r .z r r r ?_))))))
 have hw417 := fun (J : IH) (hJ : IH.le I412 J) (hL : lentAll J [OwnSl ePush_head 213 p403 c404 s402]) => W_push_heads_Len (I := J) (lent hL.1) hd
 refine .callB (.f call142 r) (.c (.s .z) .n) hw417 r r fun v418 _ hv419 => ?_
 obtain ⟨r416, rfl, hd⟩ := hv419
 refine .ks 1 r (.nilS [34, 6] r r (.condP r hd (fun hb420 hd => ?_) fun hb420 hd => ?_))
 · refine .skipS [6] r r (.block (.region (.ks 1 r ?_)))
   have hw421 := W_push_merger_next_d58 (I := I412) (o0 := ({ heads := s402, r := s406, out := s407 } : Push_merger)) (b2 := b35) (p3 := p403) (c4 := c404) (p6 := p408) (c7 := c409) hd
   refine .callS (.f call143 r) (.c .z (.c .z (.c .z .n))) hw421 r r fun v425 I422 l426 hl423 hv424 => ?_
   obtain ⟨r427, p430, c431, p433, c434, rfl, rfl, hd⟩ := hv424
   have le438 := IH.le.trans le414 hl423
   have le439 := IH.le.trans le415 hl423
   have le440 := IH.le.trans hl413 hl423
   exact .re (m' := [pto b35 (.cells #[.slice p430 r427.heads.length c431, .int .i64 r427.r, .slice p433 r427.out.length c434] 187 (0, 0)), OwnSl ePush_head 213 p430 c431 r427.heads, OwnSl eSum 85 p433 c434 r427.out]) r (.nil' fun c w ho hs => ⟨(r427.heads, r427.r, r427.out), hd, I422, _, _, _, _, le440, ho.sub ⟨r, trivial⟩, hs.pick (.c .z (.c .z (.c .z .n)))⟩)
 refine .exitS [6] r r (.sr (.ks 1 r (.nilCheckP r r r (.fa un187 r sz45 r (o := 2) r r r (.load1 ia45 r .z r r r (.ks 2 r (.nilS [5, 4] r r (.drop .z (.drop .z ?_)))))))))
 refine .pub .z fun I441 hl442 R443 => ?_
 have le444 := IH.le.trans le414 hl442
 have le445 := IH.le.trans le415 hl442
 have le446 := IH.le.trans hl413 hl442
 exact .ret (pret results112 (.t r (.t r .n)) le444 ⟨(s407, 0), _, _, r, R443, hd⟩)

theorem W_push_Sums {I : IH} {a0 : Int} {a1 : Columns} {a2 : Vec} {a3 : List Int} {a4 : Bool} {p1 : Option Addr} {c2 : Nat} {p4 : Option Addr} {c5 : Nat} {p7 : Option Addr} {c8 : Nat} {p10 : Option Addr} {c11 : Nat} {p13 : Option Addr} {c14 : Nat} {p16 : Option Addr} {c17 : Nat} {Q : ((List Sum) × Int) → Prop} (R3 : RepSl eI64 I p1 c2 a1.At) (R6 : RepSl eI64 I p4 c5 a1.Start) (R9 : RepSl eI64 I p7 c8 a1.Row) (R12 : RepSl eI64 I p10 c11 a1.Val) (R15 : RepSl eItem I p13 c14 a2.Items) (R18 : RepSl eU64 I p16 c17 a3) (hd : push_Sums a0 a1 a2 a3 a4 Q) :
  PFun prog 74 [.int .i64 a0, .agg #[.int .i64 a1.Rows, .int .i64 a1.Cols, .slice p1 a1.At.length c2, .slice p4 a1.Start.length c5, .slice p7 a1.Row.length c8, .slice p10 a1.Val.length c11], .agg #[.int .i64 a2.N, .slice p13 a2.Items.length c14], .slice p16 a3.length c17, .bool a4] I (o18_ Q) := by
 refine Fun.enter func74 r ntmps74 r (.c (.c (.c (.c (.c .n))))) fun w0 M => ?_
 refine .sr (.boxA r r r fun b26 => ?_)
 refine .boxA r r r fun b28 => ?_
 refine .ks 2 r (.nilS [7, 6, 4, 3, 0] r r (.sr (.loadW ia50 sz50 r (.s .z) r r r (.loadW ia42 sz42 r .z r r r ?_))))
 have hw73 := W_push_sure (I := I) R3 R6 R9 R12 R15 hd
 refine .call call108 r hw73 r r fun v56 I53 hl54 hv55 => ?_
 obtain ⟨r52, p58, c59, p61, c62, p64, c65, p67, c68, p70, c71, rfl, R60, R63, R66, R69, R72, hd⟩ := hv55
 replace R3 := R3.mono hl54
 replace R6 := R6.mono hl54
 replace R9 := R9.mono hl54
 replace R12 := R12.mono hl54
 replace R15 := R15.mono hl54
 replace R18 := R18.mono hl54
 refine .ks 3 r (.storeA sz50 r r (.s .z) (.t (.t (.t (.t (.t (.t .nil)))))) r r (.storeA sz42 r r .z (.t (.t .nil)) r r (.nilS [7, 6, 4, 3, 0] r r (.seq (.block (.sr (.ks 1 r ?_)))))))
 have hw89 := W_ring_Is (I := I53) hd
 refine .callP call109 r hw89 r r fun v90 hv91 => ?_
 obtain ⟨r88, rfl, hd⟩ := hv91
 refine .ks 2 r (.nilS [21, 7, 6, 4, 3, 0] r r (.condP r hd (fun hb92 hd => ?_) fun hb92 hd => ?_))
 · exact .sr (.ks 2 r (.nilS [11, 10] r r (.drop .z (.drop .z (.ret (pret results74 (.t r (.t r .n)) hl54 ⟨(([] : List Sum), 8), _, _, r, (.nil _ _ _), hd⟩))))))
 refine .sr (.fa un42 r sz3 r (o := 0) r r r (.load1 ia3 r .z r r r (.fa un50 r sz3 r (o := 1) r r r (.load1 ia3 r (.s .z) r r r (.ks 2 r (.nilS [25, 7, 6, 4, 3, 0] r r (.condP r hd (fun hb93 hd => ?_) fun hb93 hd => ?_)))))))
 · exact .sr (.ks 2 r (.nilS [11, 10] r r (.drop .z (.drop .z (.ret (pret results74 (.t r (.t r .n)) hl54 ⟨(([] : List Sum), 4), _, _, r, (.nil _ _ _), hd⟩))))))
 refine .skipS [7, 6, 4, 3, 0] r r (.sr (.ks 1 r (.nilS [12, 7, 6, 4, 3, 0] r r (.seq (.sr (.fa un42 r sz32 r (o := 1) r r r (.load1 ia32 r .z r r r (.len un32 r r r r (.ks 1 r ?_)))))))))
 refine .nilS [34, 33, 32, 12, 6, 4, 3, 0] r r (.drop .z (.block (.own0 (slEl eSum) 45 (.loop hd (fun (s : (List (List Sum)) × Int) c w => match s with | (s216, s220) => ∃ I_ p217 c218, IH.le I53 I_ ∧ Ok ⟨57, [], none⟩ [(0, .int .i64 a0), (3, .slice p16 a3.length c17), (4, .bool a4), (6, .pointer (some ⟨b26, 0, none⟩)), (12, .slice p217 s216.length c218), (32, .slice p70 r52.2.Items.length c71), (33, .int .i64 (r52.2.Items.length : Int)), (34, .int .i64 s220)] c ∧ Sym w0 M I I_ [pto b26 (.cells #[.int .i64 r52.1.Rows, .int .i64 r52.1.Cols, .slice p58 r52.1.At.length c59, .slice p61 r52.1.Start.length c62, .slice p64 r52.1.Row.length c65, .slice p67 r52.1.Val.length c68] 50 (0, 0)), OwnSl (slEl eSum) 45 p217 c218 s216] w) (fun c w ho hs => ⟨I53, _, _, (.refl _), ho.sub ⟨r, r, r, r, r, r, r, r, trivial⟩, hs.pick (.c (.s .z) (.c .z .n))⟩) ?_))))
 rintro ⟨s216, s220⟩ next222 hd c w hst
 obtain ⟨I223, p217, c218, hl224, hok, hsym⟩ := hst
 have le225 := IH.le.trans hl54 hl224
 replace R18 := R18.mono hl224
 replace R60 := R60.mono hl224
 replace R63 := R63.mono hl224
 replace R66 := R66.mono hl224
 replace R69 := R69.mono hl224
 replace R72 := R72.mono hl224
 refine Cod.at hok hsym (.sr (.ks 1 r (.nilS [35, 34, 33, 32, 12, 6, 4, 3, 0] r r (.seq (.condP r hd (fun hb227 hd => ?_) fun hb227 hd => ?_)))))
 · refine .skipS [34, 33, 32, 12, 6, 4, 3, 0] r r (.seq (.block (.sr ?_)))
   obtain ⟨h239, x240, hx241, hd⟩ := hd
   obtain ⟨b242, o243, cs244, e245, hC246, hr247⟩ := R72.2 _ _ hx241
   cases hr247
   refine .ixa un32 sz80 r e245 r h239 (idx_lt hx241 h239) r r (.ldW isAgg80 sz80 hC246 r r r r (.allocA zv80 r r fun b248 => ?_))
   refine .storeA sz80 r r .z (.t (.t .nil)) r r (.nilS [14, 34, 33, 32, 12, 6, 4, 3, 0] r r (.dr [0, 1, 2, 3, 4, 6, 7, 8, 9, 5, 10, 11, 12] 13 (.fk 2 r (.g r r r (fun _ => .loadW ia50 sz50 r (.s .z) r r r .mk) (.g r r r (fun _ => .fa un80 r sz3 r (o := 0) r r r .mk) (.g r r r (fun _ => .load1 ia3 r .z r r r .mk) (.g r r r (fun _ => .fa un80 r sz2 r (o := 1) r r r .mk) (.g r r r (fun _ => .load1 ia2 r .z r r r .mk) (.fk 2 r ?_)))))))))
   refine .ww r fun ex => ?_
   have hw259 := W_dcsc_Column (I := I223) R60 R63 R66 R69 hd
   refine .call call111 r hw259 r r fun v254 I251 hl252 hv253 => ?_
   obtain ⟨r250, p256, c257, rfl, R258, hd⟩ := hv253
   have le260 := IH.le.trans le225 hl252
   have le261 := IH.le.trans hl224 hl252
   replace R18 := R18.mono hl252
   replace R60 := R60.mono hl252
   replace R63 := R63.mono hl252
   replace R66 := R66.mono hl252
   replace R69 := R69.mono hl252
   replace R72 := R72.mono hl252
   refine .so 3 r r r (.ck 2 r r (.cg r r r r (fun _ => .load1 ia2 r .z r r r .mk) (.cg r r r r (fun _ => .fa un80 r sz2 r (o := 1) r r r .mk) (.ck 2 r r trivial)))) (.ww r fun ex => ?_)
   have hw271 := W_push_column (I := I251) R258 R18 hd
   refine .call call110 r hw271 r r fun v266 I263 hl264 hv265 => ?_
   obtain ⟨r262, p268, c269, rfl, R270, hd⟩ := hv265
   have le272 := IH.le.trans le260 hl264
   have le273 := IH.le.trans le261 hl264
   replace R18 := R18.mono hl264
   replace R60 := R60.mono hl264
   replace R63 := R63.mono hl264
   replace R66 := R66.mono hl264
   replace R69 := R69.mono hl264
   replace R72 := R72.mono hl264
   replace R258 := R258.mono hl264
   refine .so 3 r r r (.ck 1 r r trivial) (.ww r fun ex => ?_)
   refine .buildSlice 1 un155 sz45 zeroValue45 r r (.c r r r .n) r r fun b274 => ?_
   refine .so 4 r r r (.ck 1 r r trivial) (.ww r fun ex => ?_)
   obtain ⟨hl276, hd⟩ := hd
   refine .append (ys := [r262]) 24 (.s (.s (.s .z))) un155 un155 IN45 r r r r r r r r r (.box .z (.one ⟨_, _, r, R270⟩) r) hl276 r r fun p277 c278 => ?_
   exact .so 4 r r r trivial (.e2 13 (.ks 1 r (.nilS [12, 34, 33, 32, 6, 4, 3, 0] r r (.drop (.s .z) (.drop (.s .z) (.region (.ks 2 r (.nil' fun c w ho hs => ⟨((s216 ++ ([r262])), w64 (s220 + 1)), hd, I263, _, _, le273, ho.sub ⟨r, r, r, r, r, r, r, r, trivial⟩, hs.pick (.c (.s .z) (.c .z .n))⟩))))))))
 refine .exitS [12, 0] r r (.drop .z (.sr (.ks 2 r (.pub .z fun I280 hl281 R282 => ?_))))
 have le283 := IH.le.trans le225 hl281
 have le284 := IH.le.trans hl224 hl281
 have hw294 := W_push_Merge (I := I280) R282 hd
 refine .call call112 r hw294 r r fun v289 I286 hl287 hv288 => ?_
 obtain ⟨r285, p291, c292, rfl, R293, hd⟩ := hv288
 have le295 := IH.le.trans le283 hl287
 have le296 := IH.le.trans le284 hl287
 replace R282 := R282.mono hl287
 exact .ks 4 r (.nilS [11, 10] r r (.ret (pret results74 (.t r (.t r .n)) le295 ⟨(r285.1, r285.2), _, _, r, R293, hd⟩)))

theorem W_csr_bounds {I : IH} {a0 : Int × Int} {a1 : Int} {Q : (Int × Int) → Prop}  (hd : csr_bounds a0 a1 Q) :
  PFun prog 175 [.agg #[.int .i64 a0.1, .int .i64 a0.2], .int .i64 a1] I (fun I_ v => ∃ r, v = .tuple #[.int .i64 r.1, .int .i64 r.2] ∧ Q r) := by
 refine Fun.enter func175 r ntmps175 r (.c (.c .n)) fun w0 M => ?_
 refine .sr (.boxA r r r fun b3 => ?_)
 refine .ks 2 r (.nilS [2, 1] r r (.sr (.ixArr (i := 0) un24 sz3 r r (by decide) (o := 0) r r r (.load1 ia3 r .z r r r (.maxI r r r r (.ks 1 r (.nilS [6, 2, 1] r r (.sr (.ixArr (i := 1) un24 sz3 r r (by decide) (o := 1) r r r ?_)))))))))
 refine .load1 ia3 r .z r r r (.ks 1 r (.minI r r r r (.ks 1 r (.nilS [7, 6] r r (.drop .z (.seq (.sr (.ks 3 r (.nilS [17, 7, 6] r r ?_)))))))))
 refine .condP r hd (fun hb5 hd => ?_) fun hb5 hd => ?_
 · exact .sr (.ks 3 r (.nilS [5, 4] r r (.ret (pret results175 (.t r (.t r .n)) (.refl _) ⟨((if 0 > a0.1 then 0 else a0.1), 0), r, hd⟩))))
 exact .skipS [7, 6] r r (.sr (.ks 6 r (.nilS [5, 4] r r (.ret (pret results175 (.t r (.t r .n)) (.refl _) ⟨((if 0 > a0.1 then 0 else a0.1), w64 ((if a1 < a0.2 then a1 else a0.2) - (if 0 > a0.1 then 0 else a0.1))), r, hd⟩)))))

theorem W_csr_Row {I : IH} {a0 : Rows} {a1 : Int} {p1 : Option Addr} {c2 : Nat} {p4 : Option Addr} {c5 : Nat} {p7 : Option Addr} {c8 : Nat} {Q : (List Item) → Prop} (R3 : RepSl eI64 I p1 c2 a0.Start) (R6 : RepSl eI64 I p4 c5 a0.Col) (R9 : RepSl eI64 I p7 c8 a0.Val) (hd : csr_Row a0 a1 Q) :
  PFun prog 176 [.agg #[.int .i64 a0.Rows, .int .i64 a0.Cols, .slice p1 a0.Start.length c2, .slice p4 a0.Col.length c5, .slice p7 a0.Val.length c8], .int .i64 a1] I (o11_ Q) := by
 refine Fun.enter func176 r ntmps176 r (.c (.c .n)) fun w0 M => ?_
 refine .sr (.boxA r r r fun b15 => ?_)
 refine .ks 1 r (.nilS [2, 1] r r (.sr (.loadW ia39 sz39 r .z r r r ?_)))
 have hw48 := W_csr_sure (I := I) R3 R6 R9 hd
 refine .call call73 r hw48 r r fun v37 I34 hl35 hv36 => ?_
 obtain ⟨r33, p39, c40, p42, c43, p45, c46, rfl, R41, R44, R47, hd⟩ := hv36
 replace R3 := R3.mono hl35
 replace R6 := R6.mono hl35
 replace R9 := R9.mono hl35
 refine .storeA sz39 r r .z (.t (.t (.t (.t (.t .nil))))) r r (.nilS [2, 1] r r (.seq (.sr (.ks 1 r (.fa un39 r sz3 r (o := 0) r r r (.load1 ia3 r .z r r r (.ks 1 r ?_)))))))
 have hw55 := W_csr_within (I := I34) hd
 refine .callP call94 r hw55 r r fun v56 hv57 => ?_
 obtain ⟨r54, rfl, hd⟩ := hv57
 refine .ks 1 r (.nilS [17, 2, 1] r r (.condP r hd (fun hb58 hd => ?_) fun hb58 hd => ?_))
 · exact .sr (.ks 1 r (.nilS [4] r r (.drop .z (.ret (pret results176 (.t r .n) hl35 ⟨([] : List Item), _, _, r, (.nil _ _ _), hd⟩)))))
 refine .skipS [2, 1] r r (.sr (.ks 1 r (.nilS [5, 2, 1] r r (.sr (.loadW ia39 sz39 r .z r r r (.ks 1 r ?_))))))
 have hw85 := W_csr_part (I := I34) R41 R44 R47 hd
 refine .call call97 r hw85 r r fun v77 I74 hl75 hv76 => ?_
 obtain ⟨r73, p79, c80, p82, c83, rfl, R81, R84, hd⟩ := hv76
 have le86 := IH.le.trans hl35 hl75
 replace R41 := R41.mono hl75
 replace R44 := R44.mono hl75
 replace R47 := R47.mono hl75
 refine .ks 5 r (.nilS [7, 6, 5] r r (.drop .z (.seq (.sr (.ks 1 r (.len un36 r r r r (.ks 1 r (.nilS [26, 25, 24, 7, 5] r r (.block ?_)))))))))
 refine .own0 eItem 80 (.loop hd (fun (s : (List Item) × Int) c w => match s with | (s155, s159) => ∃ I_ p156 c157, IH.le I74 I_ ∧ Ok ⟨42, [], none⟩ [(5, .slice p156 s155.length c157), (7, .slice p82 r73.2.length c83), (24, .slice p79 r73.1.length c80), (25, .int .i64 (r73.1.length : Int)), (26, .int .i64 s159)] c ∧ Sym w0 M I I_ [OwnSl eItem 80 p156 c157 s155] w) (fun c w ho hs => ⟨I74, _, _, (.refl _), ho.sub ⟨r, r, r, r, r, trivial⟩, hs.pick (.c .z .n)⟩) ?_)
 rintro ⟨s155, s159⟩ next161 hd c w hst
 obtain ⟨I162, p156, c157, hl163, hok, hsym⟩ := hst
 have le164 := IH.le.trans le86 hl163
 replace R81 := R81.mono hl163
 replace R84 := R84.mono hl163
 refine Cod.at hok hsym (.sr (.ks 1 r (.nilS [27, 26, 25, 24, 7, 5] r r (.seq (.condP r hd (fun hb166 hd => ?_) fun hb166 hd => ?_)))))
 · refine .skipS [26, 25, 24, 7, 5] r r (.seq (.block (.sr (.ks 1 r ?_))))
   obtain ⟨h167, x168, hx169, hd⟩ := hd
   obtain ⟨b170, o171, cs172, e173, hC174, hr175⟩ := R81.2 _ _ hx169
   cases hr175
   refine .ixa un36 sz3 r e173 r h167 (idx_lt hx169 h167) r r (.ld1 (j := 0) ia3 hC174 r r r r r (.ks 2 r (.nilS [9, 8, 26, 25, 24, 7, 5] r r (.region (.ks 4 r ?_)))))
   obtain ⟨h176, x177, hx178, hd⟩ := hd
   obtain ⟨b179, o180, cs181, e182, hC183, hr184⟩ := R84.2 _ _ hx178
   cases hr184
   refine .ixa un37 sz2 r e182 r h176 (idx_lt hx178 h176) r r (.ld1 (j := 0) ia2 hC183 r r r r r (.build zv80 un80 BI80 (.c r r r (.t .nil) (.c r r r (.s (.t .nil)) .n)) (by exact ⟨⟨_, _, r, r, r⟩, ⟨⟨_, _, r, r, r⟩, trivial⟩⟩) r r (.buildSlice 1 un32 sz80 zv80 r r (.c r r r .n) r r fun b185 => ?_)))
   obtain ⟨hl187, hd⟩ := hd
   refine .append (ys := [({ At := x168, Val := x177 } : Item)]) 16 (.s .z) un32 un32 IN80 r r r r r r r r r (.box .z (.one r) r) hl187 r r fun p188 c189 => ?_
   exact .ks 1 r (.nilS [5, 26, 25, 24, 7] r r (.drop (.s .z) (.region (.ks 2 r (.nil' fun c w ho hs => ⟨((s155 ++ ([({ At := x168, Val := x177 } : Item)])), w64 (s159 + 1)), hd, I162, _, _, hl163, ho.sub ⟨r, r, r, r, r, trivial⟩, hs.pick (.c .z .n)⟩)))))
 refine .exitS [5] r r (.sr (.ks 2 r (.nilS [4] r r (.pub .z fun I191 hl192 R193 => ?_))))
 have le194 := IH.le.trans le164 hl192
 have le195 := IH.le.trans hl163 hl192
 exact .ret (pret results176 (.t r .n) le194 ⟨s155, _, _, r, R193, hd⟩)

theorem W_csr_Cut {I : IH} {a0 : Rows} {a1 : Int × Int} {a2 : Int × Int} {p1 : Option Addr} {c2 : Nat} {p4 : Option Addr} {c5 : Nat} {p7 : Option Addr} {c8 : Nat} {Q : Rows → Prop} (R3 : RepSl eI64 I p1 c2 a0.Start) (R6 : RepSl eI64 I p4 c5 a0.Col) (R9 : RepSl eI64 I p7 c8 a0.Val) (hd : csr_Cut a0 a1 a2 Q) :
  PFun prog 144 [.agg #[.int .i64 a0.Rows, .int .i64 a0.Cols, .slice p1 a0.Start.length c2, .slice p4 a0.Col.length c5, .slice p7 a0.Val.length c8], .agg #[.int .i64 a1.1, .int .i64 a1.2], .agg #[.int .i64 a2.1, .int .i64 a2.2]] I (o9_ Q) := by
 refine Fun.enter func144 r ntmps144 r (.c (.c (.c .n))) fun w0 M => ?_
 refine .sr (.boxA r r r fun b27 => ?_)
 refine .boxA r r r fun b29 => ?_
 refine .boxA r r r fun b31 => ?_
 refine .allocA zv39 r r fun b33 => ?_
 refine .nilS [6, 5, 4, 3] r r (.sr (.loadW ia39 sz39 r (.s (.s (.s .z))) r r r ?_))
 have hw66 := W_csr_sure (I := I) R3 R6 R9 hd
 refine .call call73 r hw66 r r fun v55 I52 hl53 hv54 => ?_
 obtain ⟨r51, p57, c58, p60, c61, p63, c64, rfl, R59, R62, R65, hd⟩ := hv54
 replace R3 := R3.mono hl53
 replace R6 := R6.mono hl53
 replace R9 := R9.mono hl53
 refine .storeA sz39 r r (.s (.s (.s .z))) (.t (.t (.t (.t (.t .nil))))) r r (.nilS [6, 5, 4, 3] r r (.sr (.loadW isAgg24 sizeOf24 r (.s (.s .z)) r r r (.fa un39 r sz3 r (o := 0) r r r (.load1 ia3 r (.s (.s (.s .z))) r r r ?_)))))
 have hw72 := W_csr_bounds (I := I52) hd
 refine .callP call175 r hw72 r r fun v73 hv74 => ?_
 obtain ⟨r71, rfl, hd⟩ := hv74
 refine .ks 5 r (.nilS [8, 7, 6, 5, 3] r r (.drop (.s (.s .z)) (.sr (.loadW isAgg24 sizeOf24 r (.s .z) r r r (.fa un39 r sz3 r (o := 1) r r r (.load1 ia3 r (.s (.s .z)) r r r ?_))))))
 have hw80 := W_csr_bounds (I := I52) hd
 refine .callP call175 r hw80 r r fun v81 hv82 => ?_
 obtain ⟨r79, rfl, hd⟩ := hv82
 refine .ks 5 r (.nilS [10, 9, 8, 7, 6, 3] r r (.drop (.s .z) (.sr (.ks 1 r (.nilS [11, 10, 9, 8, 7, 6, 3] r r (.seq (.sr (.ks 2 r (.nilS [32, 31, 11, 10, 9, 8, 7, 6, 3] r r ?_)))))))))
 refine .block (.own0 eTriple 78 (.loop hd (fun (s : (List Triple) × Int) c w => match s with | (s440, s444) => ∃ I_ p441 c442, IH.le I52 I_ ∧ Ok ⟨74, [], none⟩ [(3, .pointer (some ⟨b27, 0, none⟩)), (6, .pointer (some ⟨b33, 0, none⟩)), (7, .int .i64 r71.1), (8, .int .i64 r71.2), (9, .int .i64 r79.1), (10, .int .i64 r79.2), (11, .slice p441 s440.length c442), (31, .int .i64 r71.2), (32, .int .i64 s444)] c ∧ Sym w0 M I I_ [pto b27 (.cells #[.int .i64 r51.Rows, .int .i64 r51.Cols, .slice p57 r51.Start.length c58, .slice p60 r51.Col.length c61, .slice p63 r51.Val.length c64] 39 (0, 0)), pto b33 (.cells #[.int .i64 0, .int .i64 0, .slice none 0 0, .slice none 0 0, .slice none 0 0] 39 (0, 0)), OwnSl eTriple 78 p441 c442 s440] w) (fun c w ho hs => ⟨I52, _, _, (.refl _), ho.sub ⟨r, r, r, r, r, r, r, r, r, trivial⟩, hs.pick (.c (.s (.s .z)) (.c (.s .z) (.c .z .n)))⟩) ?_))
 rintro ⟨s440, s444⟩ next446 hd c w hst
 obtain ⟨I447, p441, c442, hl448, hok, hsym⟩ := hst
 have le449 := IH.le.trans hl53 hl448
 replace R59 := R59.mono hl448
 replace R62 := R62.mono hl448
 replace R65 := R65.mono hl448
 refine Cod.at hok hsym (.sr (.ks 1 r (.nilS [33, 32, 31, 11, 10, 9, 8, 7, 6, 3] r r (.seq (.condP r hd (fun hb451 hd => ?_) fun hb451 hd => ?_)))))
 · refine .skipS [32, 31, 11, 10, 9, 8, 7, 6, 3] r r (.seq (.block (.sr (.ks 2 r (.nilS [12, 32, 31, 11, 10, 9, 8, 7, 6, 3] r r (.sr (.loadW ia39 sz39 r .z r r r (.ks 3 r ?_))))))))
   have hw473 := W_csr_Row (I := I447) R59 R62 R65 hd
   refine .call call176 r hw473 r r fun v468 I465 hl466 hv467 => ?_
   obtain ⟨r464, p470, c471, rfl, R472, hd⟩ := hv467
   have le474 := IH.le.trans le449 hl466
   have le475 := IH.le.trans hl448 hl466
   replace R59 := R59.mono hl466
   replace R62 := R62.mono hl466
   replace R65 := R65.mono hl466
   refine .len un32 r r r r (.ks 1 r (.nilS [41, 40, 39, 12, 32, 31, 11, 10, 9, 8, 7, 6, 3] r r (.block (.loop hd (fun (s : (List Triple) × Int) c w => match s with | (s571, s575) => ∃ I_ p572 c573, IH.le I465 I_ ∧ Ok ⟨74, [], none⟩ [(3, .pointer (some ⟨b27, 0, none⟩)), (6, .pointer (some ⟨b33, 0, none⟩)), (7, .int .i64 r71.1), (8, .int .i64 r71.2), (9, .int .i64 r79.1), (10, .int .i64 r79.2), (11, .slice p572 s571.length c573), (12, .int .i64 s444), (31, .int .i64 r71.2), (32, .int .i64 s444), (39, .slice p470 r464.length c471), (40, .int .i64 (r464.length : Int)), (41, .int .i64 s575)] c ∧ Sym w0 M I I_ [pto b27 (.cells #[.int .i64 r51.Rows, .int .i64 r51.Cols, .slice p57 r51.Start.length c58, .slice p60 r51.Col.length c61, .slice p63 r51.Val.length c64] 39 (0, 0)), pto b33 (.cells #[.int .i64 0, .int .i64 0, .slice none 0 0, .slice none 0 0, .slice none 0 0] 39 (0, 0)), OwnSl eTriple 78 p572 c573 s571] w) (fun c w ho hs => ⟨I465, _, _, (.refl _), ho.sub ⟨r, r, r, r, r, r, r, r, r, r, r, r, r, trivial⟩, hs.pick (.c .z (.c .z (.c .z .n)))⟩) ?_))))
   rintro ⟨s571, s575⟩ next576 hd c w hst
   obtain ⟨I577, p572, c573, hl578, hok, hsym⟩ := hst
   have le579 := IH.le.trans le474 hl578
   have le580 := IH.le.trans le475 hl578
   replace R59 := R59.mono hl578
   replace R62 := R62.mono hl578
   replace R65 := R65.mono hl578
   replace R472 := R472.mono hl578
   refine Cod.at hok hsym (.sr (.ks 1 r (.nilS [42, 41, 40, 39, 32, 31, 12, 11, 10, 9, 8, 7, 6, 3] r r (.seq (.condP r hd (fun hb582 hd => ?_) fun hb582 hd => ?_)))))
   · refine .skipS [41, 40, 39, 32, 31, 12, 11, 10, 9, 8, 7, 6, 3] r r (.seq (.block (.sr ?_)))
     obtain ⟨h594, x595, hx596, hd⟩ := hd
     obtain ⟨b597, o598, cs599, e600, hC601, hr602⟩ := R472.2 _ _ hx596
     cases hr602
     refine .ixa un32 sz80 r e600 r h594 (idx_lt hx596 h594) r r (.ldW isAgg80 sz80 hC601 r r r r (.allocA zv80 r r fun b603 => ?_))
     refine .storeA sz80 r r .z (.t (.t .nil)) r r (.nilS [14, 41, 40, 39, 32, 31, 12, 11, 10, 9, 8, 7, 6, 3] r r (.seq ?_))
     refine Cod.joinQ (σ := Bool) hd (fun (s607 : Bool) c w => ∃ I_, IH.le I577 I_ ∧ Ok ⟨74, [], none⟩ [(3, .pointer (some ⟨b27, 0, none⟩)), (6, .pointer (some ⟨b33, 0, none⟩)), (7, .int .i64 r71.1), (8, .int .i64 r71.2), (9, .int .i64 r79.1), (10, .int .i64 r79.2), (11, .slice p572 s571.length c573), (12, .int .i64 s444), (14, .pointer (some ⟨b603, 0, none⟩)), (31, .int .i64 r71.2), (32, .int .i64 s444), (39, .slice p470 r464.length c471), (40, .int .i64 (r464.length : Int)), (41, .int .i64 s575), (56, .bool s607)] c ∧ Sym w0 M I I_ [pto b27 (.cells #[.int .i64 r51.Rows, .int .i64 r51.Cols, .slice p57 r51.Start.length c58, .slice p60 r51.Col.length c61, .slice p63 r51.Val.length c64] 39 (0, 0)), pto b33 (.cells #[.int .i64 0, .int .i64 0, .slice none 0 0, .slice none 0 0, .slice none 0 0] 39 (0, 0)), OwnSl eTriple 78 p572 c573 s571, pto b603 (.cells #[.int .i64 x595.At, .int .i64 x595.Val] 80 (0, 0))] w) (fun k608 hd => ?_) ?_
     · skip
       refine .region (.fa un80 r sz3 r (o := 0) r r r (.load1 ia3 r .z r r r (.ks 3 r ?_)))
       refine splitP hd (fun hb609 hd => ?_) fun hb609 hd => ?_
       · rw [hb609]
         exact .gyes r r r (.fa un80 r sz3 r (o := 0) r r r (.gyes r r r (.load1 ia3 r .z r r r (.ks 5 r (.nil' fun c w ho hs => ⟨(decide ((w64 (x595.At - r79.1)) < r79.2)), hd, I577, (.refl _), ho.sub ⟨r, r, r, r, r, r, r, r, r, r, r, r, r, r, r, trivial⟩, hs.pick (.c (.s .z) (.c (.s .z) (.c (.s .z) (.c .z .n))))⟩)))))
       rw [hb609]
       exact .ks 7 r (.nil' fun c w ho hs => ⟨false, hd, I577, (.refl _), ho.sub ⟨r, r, r, r, r, r, r, r, r, r, r, r, r, r, r, trivial⟩, hs.pick (.c (.s .z) (.c (.s .z) (.c (.s .z) (.c .z .n))))⟩)
     rintro s607 hd c w hst
     obtain ⟨I610, hl611, hok, hsym⟩ := hst
     have le612 := IH.le.trans le579 hl611
     have le613 := IH.le.trans le580 hl611
     have le614 := IH.le.trans hl578 hl611
     replace R59 := R59.mono hl611
     replace R62 := R62.mono hl611
     replace R65 := R65.mono hl611
     replace R472 := R472.mono hl611
     refine Cod.at hok hsym (.condP r hd (fun hb615 hd => ?_) fun hb615 hd => ?_)
     · refine .region (.ks 2 r (.fa un80 r sz3 r (o := 0) r r r (.load1 ia3 r (.s (.s (.s .z))) r r r (.ks 2 r (.fa un80 r sz2 r (o := 1) r r r (.load1 ia2 r (.s (.s (.s .z))) r r r (.build zv78 un78 BI78 (.c r r r (.t .nil) (.c r r r (.s (.t .nil)) (.c r r r (.s (.s (.t .nil))) .n))) (by exact ⟨⟨_, _, r, r, r⟩, ⟨⟨_, _, r, r, r⟩, ⟨⟨_, _, r, r, r⟩, trivial⟩⟩⟩) r r (.buildSlice 1 un31 sz78 zv78 r r (.c r r r .n) r r fun b616 => ?_))))))))
       obtain ⟨hl618, hd⟩ := hd
       refine .append (ys := [({ Row := s444, Col := w64 (x595.At - r79.1), Val := x595.Val } : Triple)]) 24 (.s (.s (.s .z))) un31 un31 IN78 r r r r r r r r r (.box .z (.one r) r) hl618 r r fun p619 c620 => ?_
       exact .ks 1 r (.nilS [11, 41, 40, 39, 32, 31, 12, 10, 9, 8, 7, 6, 3] r r (.drop (.s .z) (.drop (.s (.s (.s .z))) (.region (.ks 2 r (.nil' fun c w ho hs => ⟨((s571 ++ ([({ Row := s444, Col := w64 (x595.At - r79.1), Val := x595.Val } : Triple)])), w64 (s575 + 1)), hd, I610, _, _, le614, ho.sub ⟨r, r, r, r, r, r, r, r, r, r, r, r, r, trivial⟩, hs.pick (.c (.s .z) (.c (.s .z) (.c .z .n)))⟩))))))
     exact .skipS [41, 40, 39, 32, 31, 12, 11, 10, 9, 8, 7, 6, 3] r r (.drop (.s (.s (.s .z))) (.region (.ks 2 r (.nil' fun c w ho hs => ⟨(s571, w64 (s575 + 1)), hd, I610, _, _, le614, ho.sub ⟨r, r, r, r, r, r, r, r, r, r, r, r, r, trivial⟩, hs.pick (.c .z (.c .z (.c .z .n)))⟩))))
   exact .exitS [32, 31, 11, 10, 9, 8, 7, 6, 3] r r (.region (.ks 2 r (.nil' fun c w ho hs => ⟨(s571, w64 (s444 + 1)), hd, I577, _, _, le580, ho.sub ⟨r, r, r, r, r, r, r, r, r, trivial⟩, hs.pick (.c .z (.c .z (.c .z .n)))⟩)))
 refine .exitS [11, 10, 8, 6] r r (.drop .z (.sr (.ks 3 r (.pub (.s .z) fun I622 hl623 R624 => ?_))))
 have le625 := IH.le.trans le449 hl623
 have le626 := IH.le.trans hl448 hl623
 have hw642 := W_csr_built (I := I622) R624 hd
 refine .call call100 r hw642 r r fun v631 I628 hl629 hv630 => ?_
 obtain ⟨r627, p633, c634, p636, c637, p639, c640, rfl, R635, R638, R641, hd⟩ := hv630
 have le643 := IH.le.trans le625 hl629
 have le644 := IH.le.trans le626 hl629
 replace R624 := R624.mono hl629
 exact .storeA sz39 r r .z (.t (.t (.t (.t (.t .nil))))) r r (.nilS [6] r r (.ret (pret results144 (.w ia39 sz39 r .z r .n) le643 ⟨r627, _, _, _, _, _, _, r, R635, R638, R641, hd⟩)))

theorem W_pull_sure {I : IH} {a0 : Rows} {a1 : Dense} {p1 : Option Addr} {c2 : Nat} {p4 : Option Addr} {c5 : Nat} {p7 : Option Addr} {c8 : Nat} {p10 : Option Addr} {c11 : Nat} {p13 : Option Addr} {c14 : Nat} {Q : (Rows × Dense) → Prop} (R3 : RepSl eI64 I p1 c2 a0.Start) (R6 : RepSl eI64 I p4 c5 a0.Col) (R9 : RepSl eI64 I p7 c8 a0.Val) (R12 : RepSl eU64 I p10 c11 a1.Has) (R15 : RepSl eI64 I p13 c14 a1.Vals) (hd : pull_sure a0 a1 Q) :
  PFun prog 113 [.agg #[.int .i64 a0.Rows, .int .i64 a0.Cols, .slice p1 a0.Start.length c2, .slice p4 a0.Col.length c5, .slice p7 a0.Val.length c8], .agg #[.int .i64 a1.N, .slice p10 a1.Has.length c11, .slice p13 a1.Vals.length c14]] I (fun I_ v => ∃ r p16 c17 p19 c20 p22 c23 p25 c26 p28 c29, v = .tuple #[.agg #[.int .i64 r.1.Rows, .int .i64 r.1.Cols, .slice p16 r.1.Start.length c17, .slice p19 r.1.Col.length c20, .slice p22 r.1.Val.length c23], .agg #[.int .i64 r.2.N, .slice p25 r.2.Has.length c26, .slice p28 r.2.Vals.length c29]] ∧ RepSl eI64 I_ p16 c17 r.1.Start ∧ RepSl eI64 I_ p19 c20 r.1.Col ∧ RepSl eI64 I_ p22 c23 r.1.Val ∧ RepSl eU64 I_ p25 c26 r.2.Has ∧ RepSl eI64 I_ p28 c29 r.2.Vals ∧ Q r) := by
 refine Fun.enter func113 r ntmps113 r (.c (.c .n)) fun w0 M => ?_
 refine .sr (.boxA r r r fun b39 => ?_)
 refine .boxA r r r fun b41 => ?_
 refine .allocA zv39 r r fun b43 => ?_
 refine .allocA zv53 r r fun b45 => ?_
 refine .nilS [5, 4, 3, 2] r r (.seq ?_)
 refine Cod.joinQ (σ := Int × Int × (List Int) × (List Int) × (List Int)) hd (fun (s : Int × Int × (List Int) × (List Int) × (List Int)) c w => match s with | (s89, s90, s91, s95, s99) => ∃ I_ p92 c93 p96 c97 p100 c101, IH.le I I_ ∧ RepSl eI64 I_ p92 c93 s91 ∧ RepSl eI64 I_ p96 c97 s95 ∧ RepSl eI64 I_ p100 c101 s99 ∧ Ok ⟨19, [], none⟩ [(2, .pointer (some ⟨b39, 0, none⟩)), (3, .pointer (some ⟨b41, 0, none⟩)), (4, .pointer (some ⟨b43, 0, none⟩)), (5, .pointer (some ⟨b45, 0, none⟩))] c ∧ Sym w0 M I I_ [pto b39 (.cells #[.int .i64 s89, .int .i64 s90, .slice p92 s91.length c93, .slice p96 s95.length c97, .slice p100 s99.length c101] 39 (0, 0)), pto b41 (.cells #[.int .i64 a1.N, .slice p10 a1.Has.length c11, .slice p13 a1.Vals.length c14] 53 (0, 0)), pto b43 (.cells #[.int .i64 0, .int .i64 0, .slice none 0 0, .slice none 0 0, .slice none 0 0] 39 (0, 0)), pto b45 (.cells #[.int .i64 0, .slice none 0 0, .slice none 0 0] 53 (0, 0))] w) (fun k103 hd => ?_) ?_
 · skip
   refine .sr (.loadW ia39 sz39 r (.s (.s (.s .z))) r r r ?_)
   have hw105 := W_csr_Right (I := I) R3 R6 R9 hd
   refine .callP call62 r hw105 r r fun v106 hv107 => ?_
   obtain ⟨r104, rfl, hd⟩ := hv107
   refine .ks 1 r (.nilS [8, 5, 4, 3, 2] r r (.condP r hd (fun hb108 hd => ?_) fun hb108 hd => ?_))
   · refine .region (.loadW ia39 sz39 r (.s (.s (.s .z))) r r r (.buildArr zeroValue24 un24 sz3 .n r r (.buildArr zeroValue24 un24 sz3 .n r r ?_)))
     have hw124 := W_csr_Cut (I := I) R3 R6 R9 hd
     refine .call call144 r hw124 r r fun v113 I110 hl111 hv112 => ?_
     obtain ⟨r109, p115, c116, p118, c119, p121, c122, rfl, R117, R120, R123, hd⟩ := hv112
     replace R3 := R3.mono hl111
     replace R6 := R6.mono hl111
     replace R9 := R9.mono hl111
     replace R12 := R12.mono hl111
     replace R15 := R15.mono hl111
     exact .storeA sz39 r r (.s (.s (.s .z))) (.t (.t (.t (.t (.t .nil))))) r r (.nil' fun c w ho hs => ⟨(r109.Rows, r109.Cols, r109.Start, r109.Col, r109.Val), hd, I110, _, _, _, _, _, _, hl111, R117, R120, R123, ho.sub ⟨r, r, r, r, trivial⟩, hs.pick (.c (.s (.s (.s .z))) (.c (.s (.s .z)) (.c (.s .z) (.c .z .n))))⟩)
   exact .skip' fun c w ho hs => ⟨(a0.Rows, a0.Cols, a0.Start, a0.Col, a0.Val), hd, I, _, _, _, _, _, _, (.refl _), R3, R6, R9, ho.sub ⟨r, r, r, r, trivial⟩, hs.pick (.c (.s (.s (.s .z))) (.c (.s (.s .z)) (.c (.s .z) (.c .z .n))))⟩
 rintro ⟨s89, s90, s91, s95, s99⟩ hd c w hst
 obtain ⟨I125, p92, c93, p96, c97, p100, c101, hl126, R94, R98, R102, hok, hsym⟩ := hst
 replace R12 := R12.mono hl126
 replace R15 := R15.mono hl126
 refine Cod.at hok hsym (.seq (.sr (.loadW ia53 sz53 r (.s .z) r r r ?_)))
 have hw128 := W_devec_Right (I := I125) R12 R15 hd
 refine .callP call124 r hw128 r r fun v129 hv130 => ?_
 obtain ⟨r127, rfl, hd⟩ := hv130
 refine .ks 1 r (.nilS [15, 5, 4, 3, 2] r r (.condP r hd (fun hb131 hd => ?_) fun hb131 hd => ?_))
 · refine .region ?_
   have hw145 := W_devec_New (I := I125) hd
   refine .callO call90 r hw145 r r fun v136 I133 l137 hl134 hv135 => ?_
   obtain ⟨r132, p138, c139, p141, c142, rfl, R140, rfl, hd⟩ := hv135
   have le146 := IH.le.trans hl126 hl134
   replace R12 := R12.mono hl134
   replace R15 := R15.mono hl134
   replace R94 := R94.mono hl134
   replace R98 := R98.mono hl134
   replace R102 := R102.mono hl134
   refine .storeA sz53 r r (.s (.s .z)) (.t (.t (.t .nil))) r r (.nilS [5, 4, 3, 2] r r (.seq (.dr [0, 1, 2] 3 (.g r r r (fun _ => .loadW ia39 sz39 r (.s .z) r r r .mk) (.g r r r (fun _ => .loadW ia53 sz53 r (.s (.s .z)) r r r .mk) (.ww r fun ex => ?_))))))
   refine .storeA sz39 r r (.s (.s (.s .z))) (.t (.t (.t (.t (.t .nil))))) r r (.sn 5 r r r (.cg r r r r (fun _ => .loadW ia53 sz53 r (.s (.s .z)) r r r .mk) trivial) (.e2 3 (.storeA sz53 r r (.s (.s (.s (.s .z)))) (.t (.t (.t .nil))) r r (.nilS [5, 4] r r (.drop (.s .z) (.drop (.s .z) (.pub .z fun I147 hl148 R149 => ?_)))))))
   have le150 := IH.le.trans le146 hl148
   replace R94 := R94.mono hl148
   replace R98 := R98.mono hl148
   replace R102 := R102.mono hl148
   replace R140 := R140.mono hl148
   exact .ret (pret results113 (.w ia39 sz39 r .z r (.w ia53 sz53 r (.s .z) r .n)) le150 ⟨(({ Rows := s89, Cols := s90, Start := s91, Col := s95, Val := s99 } : Rows), r132), _, _, _, _, _, _, _, _, _, _, r, R94, R98, R102, R140, R149, hd⟩)
 refine .skipS [5, 4, 3, 2] r r (.seq (.dr [0, 1, 2] 3 (.g r r r (fun _ => .loadW ia39 sz39 r .z r r r .mk) (.g r r r (fun _ => .loadW ia53 sz53 r (.s .z) r r r .mk) (.ww r fun ex => ?_)))))
 exact .storeA sz39 r r (.s (.s .z)) (.t (.t (.t (.t (.t .nil))))) r r (.sn 4 r r r (.cg r r r r (fun _ => .loadW ia53 sz53 r (.s .z) r r r .mk) trivial) (.e2 3 (.storeA sz53 r r (.s (.s (.s .z))) (.t (.t (.t .nil))) r r (.nilS [5, 4] r r (.drop .z (.drop .z (.ret (pret results113 (.w ia39 sz39 r .z r (.w ia53 sz53 r (.s .z) r .n)) hl126 ⟨(({ Rows := s89, Cols := s90, Start := s91, Col := s95, Val := s99 } : Rows), a1), _, _, _, _, _, _, _, _, _, _, r, R94, R98, R102, R12, R15, hd⟩))))))))

theorem W_pull_adder_6fc {I : IH} {a0 : Int} {Q : (Bool × Int × Wide) → Prop}  (hd : pull_adder_6fc a0 Q) :
  Fun prog 146 #[.int .i64 a0] I [] (fun I_ v l => ∃ r b1 b2 b3, v = .tuple #[.func (.func 177) #[] #[.pointer (some ⟨b1, 0, none⟩), .pointer (some ⟨b2, 0, none⟩), .pointer (some ⟨b3, 0, none⟩)], .func (.func 178) #[] #[.pointer (some ⟨b3, 0, none⟩), .pointer (some ⟨b1, 0, none⟩)]] ∧ l = [pto b1 (.cells #[.bool r.1] 4 (0, 0)), pto b2 (.cells #[.int .i64 r.2.1] 29 (0, 0)), pto b3 (.cells #[.int .i64 r.2.2.Hi, .int .u64 r.2.2.Lo] 83 (0, 0))] ∧ Q r) := by
 refine Fun.enter (vs := [.int .i64 a0]) func146 r ntmps146 r (.c .n) fun w0 M => ?_
 refine .sr (.box1 r r r r fun b3 => ?_)
 refine .ks 2 r (.nilS [1] r r (.sr (.allocA zv83 r r fun b7 => ?_)))
 refine .nilS [4, 1] r r (.sr (.alloc1 zeroValue4 r r r fun b9 => ?_))
 refine .store1 sz4 r r .z (.t .nil) r (.nilS [5, 4, 1] r r (.sr (.mkFn r r r r (.ks 1 r (.nilS [2, 5, 4] r r (.sr (.ks 1 r (.mkFn r r r r (.ks 2 r ?_)))))))))
 exact .nilS [3, 2] r r (.ret (oret results146 (.t r (.t r .n)) (.refl _) (.c .z (.c (.s .z) (.c .z .n))) ⟨(false, a0, ({ Hi := 0, Lo := 0 } : Wide)), _, _, _, r, r, hd⟩))

theorem W_pull_adder_1_b72 {I : IH} {o0 : Bool} {o1 : Int} {o2 : Wide} {a0 : Wide} {b4 : Nat} {b5 : Nat} {b6 : Nat} {Q : (Bool × Wide) → Prop}  (hd : pull_adder_1_b72 o0 o1 o2 a0 Q) :
  Fun prog 177 #[.agg (encWide a0).toArray, .pointer (some ⟨b4, 0, none⟩), .pointer (some ⟨b5, 0, none⟩), .pointer (some ⟨b6, 0, none⟩)] I [pto b4 (.cells #[.bool o0] 4 (0, 0)), pto b5 (.cells #[.int .i64 o1] 29 (0, 0)), pto b6 (.cells #[.int .i64 o2.Hi, .int .u64 o2.Lo] 83 (0, 0))] (fun I_ v l => ∃ r, v = .tuple #[] ∧ l = [pto b4 (.cells #[.bool r.1] 4 (0, 0)), pto b5 (.cells #[.int .i64 o1] 29 (0, 0)), pto b6 (.cells #[.int .i64 r.2.Hi, .int .u64 r.2.Lo] 83 (0, 0))] ∧ Q r) := by
 refine Fun.enter (vs := [.agg (encWide a0).toArray, .pointer (some ⟨b4, 0, none⟩), .pointer (some ⟨b5, 0, none⟩), .pointer (some ⟨b6, 0, none⟩)]) func177 r ntmps177 r (.c (.c (.c (.c .n)))) fun w0 M => ?_
 refine .sr (.boxA r r r fun b9 => ?_)
 refine .nilS [4, 3, 2, 1] r r (.seq (.sr (.load1 ia4 r (.s .z) r r r (.nilS [5, 4, 3, 2, 1] r r (.condP r hd (fun hb11 hd => ?_) fun hb11 hd => ?_)))))
 · refine .region (.load1 ia29 r (.s (.s .z)) r r r (.loadW ia83 sz83 r (.s (.s (.s .z))) r r r (.loadW ia83 sz83 r .z r r r ?_)))
   have hw13 := W_ring_Add (I := I) hd
   refine .callP call174 r hw13 r r fun v14 hv15 => ?_
   obtain ⟨r12, rfl, hd⟩ := hv15
   exact .storeA sz83 r r .z (.t (.t .nil)) r r (.nilS [4, 3, 1] r r (.region (.loadW ia83 sz83 r .z r r r (.storeA sz83 r r (.s (.s (.s .z))) (.t (.t .nil)) r r (.store1 sz4 r r (.s .z) (.t .nil) r (.nil' (oretN results177 .n (.refl _) (.c (.s .z) (.c (.s .z) (.c (.s .z) .n))) ⟨(true, r12), r, r, hd⟩)))))))
 exact .skipS [4, 3, 1] r r (.region (.loadW ia83 sz83 r .z r r r (.storeA sz83 r r (.s (.s (.s .z))) (.t (.t .nil)) r r (.store1 sz4 r r (.s .z) (.t .nil) r (.nil' (oretN results177 .n (.refl _) (.c (.s .z) (.c (.s .z) (.c (.s .z) .n))) ⟨(true, a0), r, r, hd⟩))))))

theorem W_pull_adder_2_cdb {I : IH} {o0 : Wide} {o1 : Bool} {b3 : Nat} {b4 : Nat} {Q : (Wide × Bool) → Prop}  (hd : pull_adder_2_cdb o0 o1 Q) :
  Fun prog 178 #[.pointer (some ⟨b3, 0, none⟩), .pointer (some ⟨b4, 0, none⟩)] I [pto b3 (.cells #[.int .i64 o0.Hi, .int .u64 o0.Lo] 83 (0, 0)), pto b4 (.cells #[.bool o1] 4 (0, 0))] (fun I_ v l => ∃ r, v = .tuple #[.agg (encWide r.1).toArray, .bool r.2] ∧ l = [pto b3 (.cells #[.int .i64 o0.Hi, .int .u64 o0.Lo] 83 (0, 0)), pto b4 (.cells #[.bool o1] 4 (0, 0))] ∧ Q r) := by
 refine Fun.enter (vs := [.pointer (some ⟨b3, 0, none⟩), .pointer (some ⟨b4, 0, none⟩)]) func178 r ntmps178 r (.c (.c .n)) fun w0 M => ?_
 refine .sr (.allocA zv83 r r fun b5 => ?_)
 refine .ks 1 r (.nilS [2, 1, 0] r r (.seq (.dr [0, 1, 2] 3 (.g r r r (fun _ => .loadW ia83 sz83 r (.s .z) r r r .mk) (.g r r r (fun _ => .load1 ia4 r (.s (.s .z)) r r r .mk) (.ww r fun ex => ?_))))))
 exact .storeA sz83 r r .z (.t (.t .nil)) r r (.sn 3 r r r (.cg r r r r (fun _ => .load1 ia4 r (.s (.s .z)) r r r .mk) trivial) (.e2 3 (.ks 1 r (.nilS [3, 2, 1, 0] r r (.ret (oret results178 (.w ia83 sz83 r .z r (.t r .n)) (.refl _) (.c (.s .z) (.c (.s .z) .n)) ⟨(o0, o1), r, r, hd⟩))))))

theorem W_pull_row {I : IH} {a0 : Int} {a1 : Rows} {a2 : Int} {a3 : Dense} {p1 : Option Addr} {c2 : Nat} {p4 : Option Addr} {c5 : Nat} {p7 : Option Addr} {c8 : Nat} {p10 : Option Addr} {c11 : Nat} {p13 : Option Addr} {c14 : Nat} {Q : (Wide × Bool) → Prop} (R3 : RepSl eI64 I p1 c2 a1.Start) (R6 : RepSl eI64 I p4 c5 a1.Col) (R9 : RepSl eI64 I p7 c8 a1.Val) (R12 : RepSl eU64 I p10 c11 a3.Has) (R15 : RepSl eI64 I p13 c14 a3.Vals) (hd : pull_row a0 a1 a2 a3 Q) :
  PFun prog 115 [.int .i64 a0, .agg #[.int .i64 a1.Rows, .int .i64 a1.Cols, .slice p1 a1.Start.length c2, .slice p4 a1.Col.length c5, .slice p7 a1.Val.length c8], .int .i64 a2, .agg #[.int .i64 a3.N, .slice p10 a3.Has.length c11, .slice p13 a3.Vals.length c14]] I (fun I_ v => ∃ r, v = .tuple #[.agg (encWide r.1).toArray, .bool r.2] ∧ Q r) := by
 refine Fun.enter func115 r ntmps115 r (.c (.c (.c (.c .n)))) fun w0 M => ?_
 refine .sr (.boxA r r r fun b22 => ?_)
 refine .boxA r r r fun b24 => ?_
 refine .allocA zv83 r r fun b26 => ?_
 refine .ks 1 r (.nilS [8, 7, 5, 2, 0] r r (.sr (.ks 1 r ?_)))
 have hw41 := W_pull_adder_6fc (I := I) (a0 := a0) hd
 refine .callS (.f call146 r) .n hw41 r r fun v45 I42 l46 hl43 hv44 => ?_
 obtain ⟨r47, b51, b52, b53, rfl, rfl, hd⟩ := hv44
 replace R3 := R3.mono hl43
 replace R6 := R6.mono hl43
 replace R9 := R9.mono hl43
 replace R12 := R12.mono hl43
 replace R15 := R15.mono hl43
 refine .re (m' := [pto b51 (.cells #[.bool r47.1] 4 (0, 0)), pto b52 (.cells #[.int .i64 r47.2.1] 29 (0, 0)), pto b53 (.cells #[.int .i64 r47.2.2.Hi, .int .u64 r47.2.2.Lo] 83 (0, 0)), pto b26 (.cells #[.int .i64 0, .int .u64 0] 83 (0, 0)), pto b24 (.cells #[.int .i64 a3.N, .slice p10 a3.Has.length c11, .slice p13 a3.Vals.length c14] 53 (0, 0)), pto b22 (.cells #[.int .i64 a1.Rows, .int .i64 a1.Cols, .slice p1 a1.Start.length c2, .slice p4 a1.Col.length c5, .slice p7 a1.Val.length c8] 39 (0, 0))]) r (.ks 5 r (.nilS [11, 10, 8, 7, 5, 2, 0] r r (.seq (.sr (.fa un39 r sz36 r (o := 2) r r r (.load1 ia36 r (.s (.s (.s (.s (.s .z))))) r r r (.ks 1 r ?_)))))))
 obtain ⟨h63, x64, hx65, hd⟩ := hd
 obtain ⟨b66, o67, cs68, e69, hC70, hr71⟩ := R3.2 _ _ hx65
 cases hr71
 refine .ixa un36 sz3 r e69 r h63 (idx_lt hx65 h63) r r (.ld1 (j := 0) ia3 hC70 r r r r r (.ks 1 r (.nilS [12, 11, 10, 8, 7, 5, 2, 0] r r (.block (.loop hd (fun (s : Bool × Int × Int × Int) c w => match s with | (s246, s247, s248, s249) => ∃ I_, IH.le I42 I_ ∧ Ok ⟨61, [], none⟩ [(0, .int .i64 a0), (2, .int .i64 a2), (5, .pointer (some ⟨b22, 0, none⟩)), (7, .pointer (some ⟨b24, 0, none⟩)), (8, .pointer (some ⟨b26, 0, none⟩)), (10, .func (.func 177) #[] #[.pointer (some ⟨b51, 0, none⟩), .pointer (some ⟨b52, 0, none⟩), .pointer (some ⟨b53, 0, none⟩)]), (11, .func (.func 178) #[] #[.pointer (some ⟨b53, 0, none⟩), .pointer (some ⟨b51, 0, none⟩)]), (12, .int .i64 s249)] c ∧ Sym w0 M I I_ [pto b22 (.cells #[.int .i64 a1.Rows, .int .i64 a1.Cols, .slice p1 a1.Start.length c2, .slice p4 a1.Col.length c5, .slice p7 a1.Val.length c8] 39 (0, 0)), pto b24 (.cells #[.int .i64 a3.N, .slice p10 a3.Has.length c11, .slice p13 a3.Vals.length c14] 53 (0, 0)), pto b26 (.cells #[.int .i64 0, .int .u64 0] 83 (0, 0)), pto b51 (.cells #[.bool s246] 4 (0, 0)), pto b52 (.cells #[.int .i64 r47.2.1] 29 (0, 0)), pto b53 (.cells #[.int .i64 s247, .int .u64 s248] 83 (0, 0))] w) (fun c w ho hs => ⟨I42, (.refl _), ho.sub ⟨r, r, r, r, r, r, r, r, trivial⟩, hs.pick (.c (.s (.s (.s (.s (.s .z))))) (.c (.s (.s (.s (.s .z)))) (.c (.s (.s (.s .z))) (.c .z (.c .z (.c .z .n))))))⟩) ?_)))))
 rintro ⟨s246, s247, s248, s249⟩ next250 hd c w hst
 obtain ⟨I251, hl252, hok, hsym⟩ := hst
 have le253 := IH.le.trans hl43 hl252
 replace R3 := R3.mono hl252
 replace R6 := R6.mono hl252
 replace R9 := R9.mono hl252
 replace R12 := R12.mono hl252
 replace R15 := R15.mono hl252
 refine Cod.at hok hsym (.seq (.sr (.ks 1 r (.fa un39 r sz36 r (o := 2) r r r (.load1 ia36 r .z r r r (.ks 2 r ?_))))))
 obtain ⟨h264, x265, hx266, hd⟩ := hd
 obtain ⟨b267, o268, cs269, e270, hC271, hr272⟩ := R3.2 _ _ hx266
 cases hr272
 refine .ixa un36 sz3 r e270 r h264 (idx_lt hx266 h264) r r (.ld1 (j := 0) ia3 hC271 r r r r r (.ks 1 r (.nilS [31, 12, 11, 10, 8, 7, 5, 2, 0] r r (.condP r hd (fun hb273 hd => ?_) fun hb273 hd => ?_))))
 · refine .skipS [12, 11, 10, 8, 7, 5, 2, 0] r r (.seq (.block (.sr (.fa un39 r sz36 r (o := 3) r r r (.load1 ia36 r .z r r r (.ks 1 r ?_))))))
   obtain ⟨h283, x284, hx285, hd⟩ := hd
   obtain ⟨b286, o287, cs288, e289, hC290, hr291⟩ := R6.2 _ _ hx285
   cases hr291
   refine .ixa un36 sz3 r e289 r h283 (idx_lt hx285 h283) r r (.ld1 (j := 0) ia3 hC290 r r r r r (.ks 1 r (.nilS [13, 12, 11, 10, 8, 7, 5, 2, 0] r r (.sr (.fa un53 r sz33 r (o := 1) r r r (.load1 ia33 r (.s .z) r r r (.ks 1 r ?_)))))))
   have hw297 := W_flags_Has (I := I251) R12 hd
   refine .callP call134 r hw297 r r fun v298 hv299 => ?_
   obtain ⟨r296, rfl, hd⟩ := hv299
   refine .nilS [42, 13, 12, 11, 10, 8, 7, 5, 2, 0] r r (.condP r hd (fun hb300 hd => ?_) fun hb300 hd => ?_)
   · refine .dr [0, 1, 2, 3, 4, 5, 6, 7, 8, 9, 10, 11, 12, 13] 14 (.fk 2 r (.g r r r (fun _ => .fa un39 r sz37 r (o := 4) r r r .mk) (.g r r r (fun _ => .load1 ia37 r .z r r r .mk) (.fk 1 r ?_))))
     obtain ⟨h301, x302, hx303, hd⟩ := hd
     obtain ⟨b304, o305, cs306, e307, hC308, hr309⟩ := R9.2 _ _ hx303
     cases hr309
     refine .g r r r (fun _ => .ixa un37 sz2 r e307 r h301 (idx_lt hx303 h301) r r .mk) (.g r r r (fun _ => .ld1 (j := 0) ia2 hC308 r r r r r .mk) (.g r r r (fun _ => .fa un53 r sz37 r (o := 2) r r r .mk) (.g r r r (fun _ => .load1 ia37 r (.s .z) r r r .mk) (.fk 1 r ?_))))
     obtain ⟨h310, x311, hx312, hd⟩ := hd
     obtain ⟨b313, o314, cs315, e316, hC317, hr318⟩ := R15.2 _ _ hx312
     cases hr318
     refine .g r r r (fun _ => .ixa un37 sz2 r e316 r h310 (idx_lt hx312 h310) r r .mk) (.g r r r (fun _ => .ld1 (j := 0) ia2 hC317 r r r r r .mk) (.ww r fun ex => ?_))
     have hw320 := W_ring_Mul (I := I251) hd
     refine .callP call135 r hw320 r r fun v321 hv322 => ?_
     obtain ⟨r319, rfl, hd⟩ := hv322
     refine .so 6 r r r (.ck 1 r r trivial) (.ww r fun ex => ?_)
     have hw323 := W_pull_adder_1_b72 (I := I251) (o0 := s246) (o1 := r47.2.1) (o2 := ({ Hi := s247, Lo := s248 } : Wide)) (a0 := r319) (b4 := b51) (b5 := b52) (b6 := b53) hd
     refine .callS (.c call177 r r) (.c (.s (.s (.s .z))) (.c (.s (.s (.s .z))) (.c (.s (.s (.s .z))) .n))) hw323 r r fun v327 I324 l328 hl325 hv326 => ?_
     obtain ⟨r329, rfl, rfl, hd⟩ := hv326
     have le334 := IH.le.trans le253 hl325
     have le335 := IH.le.trans hl252 hl325
     replace R3 := R3.mono hl325
     replace R6 := R6.mono hl325
     replace R9 := R9.mono hl325
     replace R12 := R12.mono hl325
     replace R15 := R15.mono hl325
     replace hC308 := hC308.mono hl325
     replace hC317 := hC317.mono hl325
     exact .re (m' := (pto b51 (.cells #[.bool r329.1] 4 (0, 0))) :: (pto b52 (.cells #[.int .i64 r47.2.1] 29 (0, 0))) :: (pto b53 (.cells #[.int .i64 r329.2.Hi, .int .u64 r329.2.Lo] 83 (0, 0))) :: (pto b22 (.cells #[.int .i64 a1.Rows, .int .i64 a1.Cols, .slice p1 a1.Start.length c2, .slice p4 a1.Col.length c5, .slice p7 a1.Val.length c8] 39 (0, 0))) :: (pto b24 (.cells #[.int .i64 a3.N, .slice p10 a3.Has.length c11, .slice p13 a3.Vals.length c14] 53 (0, 0))) :: (pto b26 (.cells #[.int .i64 0, .int .u64 0] 83 (0, 0))) :: ex) r (.so 6 r r r trivial (.e2 14 (.nilS [12, 11, 10, 8, 7, 5, 2, 0] r r (.region (.ks 3 r (.nil' fun c w ho hs => ⟨(r329.1, r329.2.Hi, r329.2.Lo, w64 (s249 + 1)), hd, I324, le335, ho.sub ⟨r, r, r, r, r, r, r, r, trivial⟩, hs.pick (.c (.s (.s (.s .z))) (.c (.s (.s (.s .z))) (.c (.s (.s (.s .z))) (.c .z (.c .z (.c .z .n))))))⟩))))))
   exact .skipS [12, 11, 10, 8, 7, 5, 2, 0] r r (.region (.ks 3 r (.nil' fun c w ho hs => ⟨(s246, s247, s248, w64 (s249 + 1)), hd, I251, hl252, ho.sub ⟨r, r, r, r, r, r, r, r, trivial⟩, hs.pick (.c .z (.c .z (.c .z (.c .z (.c .z (.c .z .n))))))⟩)))
 refine .exitS [11, 8] r r (.drop .z (.drop .z (.drop (.s (.s .z)) (.sr (.ks 1 r ?_)))))
 have hw336 := W_pull_adder_2_cdb (I := I251) (o0 := ({ Hi := s247, Lo := s248 } : Wide)) (o1 := s246) (b3 := b53) (b4 := b51) hd
 refine .callS (.c call178 r r) (.c (.s (.s .z)) (.c (.s .z) .n)) hw336 r r fun v340 I337 l341 hl338 hv339 => ?_
 obtain ⟨r342, rfl, rfl, hd⟩ := hv339
 have le343 := IH.le.trans le253 hl338
 have le344 := IH.le.trans hl252 hl338
 exact .re (m' := [pto b53 (.cells #[.int .i64 s247, .int .u64 s248] 83 (0, 0)), pto b51 (.cells #[.bool s246] 4 (0, 0)), pto b26 (.cells #[.int .i64 0, .int .u64 0] 83 (0, 0))]) r (.ks 2 r (.storeA sz83 r r (.s (.s .z)) (.t (.t .nil)) r r (.ks 1 r (.nilS [9, 8] r r (.drop .z (.drop .z (.ret (pret results115 (.w ia83 sz83 r .z r (.t r .n)) le343 ⟨(r342.1, r342.2), r, hd⟩))))))))

theorem W_pull_asked_064 {I : IH} {a0 : Int} {a1 : List Int} {a2 : Bool} {p1 : Option Addr} {c2 : Nat} {Q : (Int × (List Int) × Bool) → Prop} (R3 : RepSl eU64 I p1 c2 a1) (hd : pull_asked_064 a0 a1 a2 Q) :
  Fun prog 114 #[.int .i64 a0, .slice p1 a1.length c2, .bool a2] I [] (fun I_ v l => ∃ r b4 b5 p6 c7 b9, v = .func (.func 145) #[] #[.pointer (some ⟨b4, 0, none⟩), .pointer (some ⟨b5, 0, none⟩), .pointer (some ⟨b9, 0, none⟩)] ∧ RepSl eU64 I_ p6 c7 r.2.1 ∧ l = [pto b4 (.cells #[.int .i64 r.1] 3 (0, 0)), pto b5 (.cells #[.slice p6 r.2.1.length c7] 33 (0, 0)), pto b9 (.cells #[.bool r.2.2] 4 (0, 0))] ∧ Q r) := by
 refine Fun.enter (vs := [.int .i64 a0, .slice p1 a1.length c2, .bool a2]) func114 r ntmps114 r (.c (.c (.c .n))) fun w0 M => ?_
 refine .sr (.box1 r r r r fun b4 => ?_)
 refine .box1 r r r r fun b6 => ?_
 refine .box1 r r r r fun b8 => ?_
 exact .ks 1 r (.nilS [5, 4, 3] r r (.sr (.mkFn r r r r (.ks 1 r (.nilS [6] r r (.ret (oret results114 (.t r .n) (.refl _) (.c (.s (.s .z)) (.c (.s .z) (.c .z .n))) ⟨(a0, a1, a2), _, _, _, _, _, r, R3, r, hd⟩)))))))

theorem W_pull_asked_1_839 {I : IH} {o0 : Nat} {o1 : Int} {o2 : Rows} {o3 : Dense} {o4 : List Sum} {o5 : Int} {o6 : List Int} {o7 : Bool} {Y : Nat → Int → Rows → Dense → (List Sum) → Int → ((Bool × Nat × (List Sum)) → Prop) → Prop} {b9 : Nat} {b10 : Nat} {p11 : Option Addr} {c12 : Nat} {p14 : Option Addr} {c15 : Nat} {p17 : Option Addr} {c18 : Nat} {b20 : Nat} {p21 : Option Addr} {c22 : Nat} {p24 : Option Addr} {c25 : Nat} {b27 : Nat} {p28 : Option Addr} {c29 : Nat} {b32 : Nat} {b33 : Nat} {p34 : Option Addr} {c35 : Nat} {b37 : Nat} {lr : Nat} {Rr : Nat → HA} {Q : (Nat × (List Sum)) → Prop} (hY : ∀ {J_ : IH}, I.le J_ → ∀ {y38 : Nat} {y39 : Int} {y41 : Rows} {y52 : Dense} {y60 : List Sum} {x66 : Int} {p43 : Option Addr} {c44 : Nat} {p46 : Option Addr} {c47 : Nat} {p49 : Option Addr} {c50 : Nat} {p54 : Option Addr} {c55 : Nat} {p57 : Option Addr} {c58 : Nat} {p62 : Option Addr} {c63 : Nat} {Qy : (Bool × Nat × (List Sum)) → Prop}, RepSl eI64 J_ p43 c44 y41.Start → RepSl eI64 J_ p46 c47 y41.Col → RepSl eI64 J_ p49 c50 y41.Val → RepSl eU64 J_ p54 c55 y52.Has → RepSl eI64 J_ p57 c58 y52.Vals → Y y38 y39 y41 y52 y60 x66 Qy → RFun prog lr [.int .i64 x66] J_ [Rr y38, pto b9 (.cells #[.int .i64 y39] 29 (0, 0)), pto b10 (.cells #[.int .i64 y41.Rows, .int .i64 y41.Cols, .slice p43 y41.Start.length c44, .slice p46 y41.Col.length c47, .slice p49 y41.Val.length c50] 39 (0, 0)), pto b20 (.cells #[.int .i64 y52.N, .slice p54 y52.Has.length c55, .slice p57 y52.Vals.length c58] 53 (0, 0)), pto b27 (.cells #[.slice p62 y60.length c63] 45 (0, 0)), OwnSl eSum 85 p62 c63 y60] (fun I_ v l => ∃ r p68 c69, v = .bool r.1 ∧ l = [Rr r.2.1, pto b9 (.cells #[.int .i64 y39] 29 (0, 0)), pto b10 (.cells #[.int .i64 y41.Rows, .int .i64 y41.Cols, .slice p43 y41.Start.length c44, .slice p46 y41.Col.length c47, .slice p49 y41.Val.length c50] 39 (0, 0)), pto b20 (.cells #[.int .i64 y52.N, .slice p54 y52.Has.length c55, .slice p57 y52.Vals.length c58] 53 (0, 0)), pto b27 (.cells #[.slice p68 r.2.2.length c69] 45 (0, 0)), OwnSl eSum 85 p68 c69 r.2.2] ∧ Qy r)) (R13 : RepSl eI64 I p11 c12 o2.Start) (R16 : RepSl eI64 I p14 c15 o2.Col) (R19 : RepSl eI64 I p17 c18 o2.Val) (R23 : RepSl eU64 I p21 c22 o3.Has) (R26 : RepSl eI64 I p24 c25 o3.Vals) (R36 : RepSl eU64 I p34 c35 o6) (hd : pull_asked_1_839 o0 o1 o2 o3 o4 o5 o6 o7 Y Q) :
  Fun prog 145 #[.func (.yield lr) #[] #[], .pointer (some ⟨b32, 0, none⟩), .pointer (some ⟨b33, 0, none⟩), .pointer (some ⟨b37, 0, none⟩)] I [Rr o0, pto b9 (.cells #[.int .i64 o1] 29 (0, 0)), pto b10 (.cells #[.int .i64 o2.Rows, .int .i64 o2.Cols, .slice p11 o2.Start.length c12, .slice p14 o2.Col.length c15, .slice p17 o2.Val.length c18] 39 (0, 0)), pto b20 (.cells #[.int .i64 o3.N, .slice p21 o3.Has.length c22, .slice p24 o3.Vals.length c25] 53 (0, 0)), pto b27 (.cells #[.slice p28 o4.length c29] 45 (0, 0)), OwnSl eSum 85 p28 c29 o4, pto b32 (.cells #[.int .i64 o5] 3 (0, 0)), pto b33 (.cells #[.slice p34 o6.length c35] 33 (0, 0)), pto b37 (.cells #[.bool o7] 4 (0, 0))] (fun I_ v l => ∃ r p39 c40, v = .tuple #[] ∧ l = [Rr r.1, pto b9 (.cells #[.int .i64 o1] 29 (0, 0)), pto b10 (.cells #[.int .i64 o2.Rows, .int .i64 o2.Cols, .slice p11 o2.Start.length c12, .slice p14 o2.Col.length c15, .slice p17 o2.Val.length c18] 39 (0, 0)), pto b20 (.cells #[.int .i64 o3.N, .slice p21 o3.Has.length c22, .slice p24 o3.Vals.length c25] 53 (0, 0)), pto b27 (.cells #[.slice p39 r.2.length c40] 45 (0, 0)), OwnSl eSum 85 p39 c40 r.2, pto b32 (.cells #[.int .i64 o5] 3 (0, 0)), pto b33 (.cells #[.slice p34 o6.length c35] 33 (0, 0)), pto b37 (.cells #[.bool o7] 4 (0, 0))] ∧ Q r) := by
 refine Fun.enter (vs := [.func (.yield lr) #[] #[], .pointer (some ⟨b32, 0, none⟩), .pointer (some ⟨b33, 0, none⟩), .pointer (some ⟨b37, 0, none⟩)]) func145 r ntmps145 r (.c (.c (.c (.c .n)))) fun w0 M => ?_
 refine .sr (.load1 ia3 r (.s (.s (.s (.s (.s (.s .z)))))) r r r (.ks 1 r (.nilS [7, 6, 3, 2, 1, 0] r r (.block (.loop hd (fun (s : (List Sum) × Int × Nat) c w => match s with | (s129, s133, s134) => ∃ I_ p130 c131, IH.le I I_ ∧ Ok ⟨22, [], none⟩ [(0, .func (.yield lr) #[] #[]), (1, .pointer (some ⟨b32, 0, none⟩)), (2, .pointer (some ⟨b33, 0, none⟩)), (3, .pointer (some ⟨b37, 0, none⟩)), (6, .int .i64 o5), (7, .int .i64 s133)] c ∧ Sym w0 M I I_ [pto b9 (.cells #[.int .i64 o1] 29 (0, 0)), pto b10 (.cells #[.int .i64 o2.Rows, .int .i64 o2.Cols, .slice p11 o2.Start.length c12, .slice p14 o2.Col.length c15, .slice p17 o2.Val.length c18] 39 (0, 0)), pto b20 (.cells #[.int .i64 o3.N, .slice p21 o3.Has.length c22, .slice p24 o3.Vals.length c25] 53 (0, 0)), pto b27 (.cells #[.slice p130 s129.length c131] 45 (0, 0)), OwnSl eSum 85 p130 c131 s129, pto b32 (.cells #[.int .i64 o5] 3 (0, 0)), pto b33 (.cells #[.slice p34 o6.length c35] 33 (0, 0)), pto b37 (.cells #[.bool o7] 4 (0, 0)), Rr s134] w) (fun c w ho hs => ⟨I, _, _, (.refl _), ho.sub ⟨r, r, r, r, r, r, trivial⟩, hs.pick (.c (.s .z) (.c (.s .z) (.c (.s .z) (.c (.s .z) (.c (.s .z) (.c (.s .z) (.c (.s .z) (.c (.s .z) (.c .z .n)))))))))⟩) ?_)))))
 rintro ⟨s129, s133, s134⟩ next135 hd c w hst
 obtain ⟨I136, p130, c131, hl137, hok, hsym⟩ := hst
 replace R13 := R13.mono hl137
 replace R16 := R16.mono hl137
 replace R19 := R19.mono hl137
 replace R23 := R23.mono hl137
 replace R26 := R26.mono hl137
 replace R36 := R36.mono hl137
 refine Cod.at hok hsym (.sr (.ks 1 r (.nilS [8, 7, 6, 3, 2, 1, 0] r r (.seq (.condP r hd (fun hb139 hd => ?_) fun hb139 hd => ?_)))))
 · refine .skipS [7, 6, 3, 2, 1, 0] r r (.seq (.block (.sr (.ks 2 r (.nilS [5, 7, 6, 3, 2, 1, 0] r r (.seq (.dr [0, 1, 3, 2, 4, 5, 6, 7, 8, 9, 10] 11 (.g r r r (fun _ => .load1 ia33 r (.s (.s (.s (.s (.s (.s .z)))))) r r r .mk) (.fk 1 r ?_)))))))))
   refine .g r r r (fun _ => .load1 ia4 r (.s (.s (.s (.s (.s (.s (.s .z))))))) r r r .mk) (.ww r fun ex => ?_)
   have hw141 := W_flags_Has (I := I136) R36 hd
   refine .callP call134 r hw141 r r fun v142 hv143 => ?_
   obtain ⟨r140, rfl, hd⟩ := hv143
   refine .so 9 r r r (.cg r r r r (fun _ => .load1 ia4 r (.s (.s (.s (.s (.s (.s (.s .z))))))) r r r .mk) trivial) (.g r r r (fun _ => .neB underlying4 r r r r .mk) (.fk 1 r ?_))
   refine splitP hd (fun hb144 hd => ?_) fun hb144 hd => ?_
   · refine .g r r r (fun _ => .gyes r r hb144 (.move r r r .mk)) (.g r r r (fun _ => .gyes r r hb144 (.move r r r .mk)) (.ww r fun ex => ?_))
     have hw145 := hY (J_ := I136) hl137 (y38 := s134) (y39 := o1) (y41 := o2) (y52 := o3) (y60 := s129) (x66 := s133) (p43 := p11) (c44 := c12) (p46 := p14) (c47 := c15) (p49 := p17) (c50 := c18) (p54 := p21) (c55 := c22) (p57 := p24) (c58 := c25) (p62 := p130) (c63 := c131) R13 R16 R19 R23 R26 hd
     refine .gyes r r hb144 (.callY r r (.c (.s (.s (.s (.s (.s (.s (.s (.s .z)))))))) (.c .z (.c .z (.c .z (.c .z (.c .z .n)))))) hw145 r r fun v149 I146 l150 hl147 hv148 => ?_)
     obtain ⟨r151, p155, c156, rfl, rfl, hd⟩ := hv148
     have le159 := IH.le.trans hl137 hl147
     replace R13 := R13.mono hl147
     replace R16 := R16.mono hl147
     replace R19 := R19.mono hl147
     replace R23 := R23.mono hl147
     replace R26 := R26.mono hl147
     replace R36 := R36.mono hl147
     refine .re (m' := (Rr r151.2.1) :: (pto b9 (.cells #[.int .i64 o1] 29 (0, 0))) :: (pto b10 (.cells #[.int .i64 o2.Rows, .int .i64 o2.Cols, .slice p11 o2.Start.length c12, .slice p14 o2.Col.length c15, .slice p17 o2.Val.length c18] 39 (0, 0))) :: (pto b20 (.cells #[.int .i64 o3.N, .slice p21 o3.Has.length c22, .slice p24 o3.Vals.length c25] 53 (0, 0))) :: (pto b27 (.cells #[.slice p155 r151.2.2.length c156] 45 (0, 0))) :: (OwnSl eSum 85 p155 c156 r151.2.2) :: (pto b32 (.cells #[.int .i64 o5] 3 (0, 0))) :: (pto b33 (.cells #[.slice p34 o6.length c35] 33 (0, 0))) :: (pto b37 (.cells #[.bool o7] 4 (0, 0))) :: ex) r (.so 9 r r r trivial (.g r r r (fun _ => .gyes r r hb144 (.not r r r .mk)) (.g r r r (fun _ => .pickT r hb144 r r r .mk) (.e2 11 (.nilS [20, 7, 6, 3, 2, 1, 0] r r (.condP r hd (fun hb160 hd => ?_) fun hb160 hd => ?_))))))
     · exact .ret (oret results145 .n le159 (.c .z (.c .z (.c .z (.c .z (.c .z (.c .z (.c .z (.c .z (.c .z .n))))))))) ⟨(r151.2.1, r151.2.2), _, _, r, r, hd⟩)
     exact .skipS [7, 6, 3, 2, 1, 0] r r (.region (.ks 2 r (.nil' fun c w ho hs => ⟨(r151.2.2, w64 (s133 + 1), r151.2.1), hd, I146, _, _, le159, ho.sub ⟨r, r, r, r, r, r, trivial⟩, hs.pick (.c (.s .z) (.c (.s .z) (.c (.s .z) (.c (.s .z) (.c (.s .z) (.c (.s .z) (.c (.s .z) (.c (.s .z) (.c .z .n)))))))))⟩)))
   refine .g r r r (fun _ => .gno r r hb144 r r .mk) (.g r r r (fun _ => .gno r r hb144 r r .mk) (.g r r r (fun _ => .gno r r hb144 r r .mk) (.g r r r (fun _ => .gno r r hb144 r r .mk) (.g r r r (fun _ => .pickF r hb144 r r r .mk) (.e2 11 (.nilS [20, 7, 6, 3, 2, 1, 0] r r (.condKF r r (.skipS [7, 6, 3, 2, 1, 0] r r (.region ?_)))))))))
   exact .ks 2 r (.nil' fun c w ho hs => ⟨(s129, w64 (s133 + 1), s134), hd, I136, _, _, hl137, ho.sub ⟨r, r, r, r, r, r, trivial⟩, hs.pick (.c .z (.c .z (.c .z (.c .z (.c .z (.c .z (.c .z (.c .z (.c .z .n)))))))))⟩)
 exact .exit (oretN results145 .n hl137 (.c (.s (.s (.s (.s (.s (.s (.s (.s .z)))))))) (.c .z (.c .z (.c .z (.c .z (.c .z (.c .z (.c .z (.c .z .n))))))))) ⟨(s134, s129), _, _, r, r, hd⟩)

theorem W_pull_Sums {I : IH} {a0 : Int} {a1 : Rows} {a2 : Dense} {a3 : List Int} {a4 : Bool} {p1 : Option Addr} {c2 : Nat} {p4 : Option Addr} {c5 : Nat} {p7 : Option Addr} {c8 : Nat} {p10 : Option Addr} {c11 : Nat} {p13 : Option Addr} {c14 : Nat} {p16 : Option Addr} {c17 : Nat} {Q : ((List Sum) × Int) → Prop} (R3 : RepSl eI64 I p1 c2 a1.Start) (R6 : RepSl eI64 I p4 c5 a1.Col) (R9 : RepSl eI64 I p7 c8 a1.Val) (R12 : RepSl eU64 I p10 c11 a2.Has) (R15 : RepSl eI64 I p13 c14 a2.Vals) (R18 : RepSl eU64 I p16 c17 a3) (hd : pull_Sums a0 a1 a2 a3 a4 Q) :
  PFun prog 75 [.int .i64 a0, .agg #[.int .i64 a1.Rows, .int .i64 a1.Cols, .slice p1 a1.Start.length c2, .slice p4 a1.Col.length c5, .slice p7 a1.Val.length c8], .agg #[.int .i64 a2.N, .slice p10 a2.Has.length c11, .slice p13 a2.Vals.length c14], .slice p16 a3.length c17, .bool a4] I (o18_ Q) := by
 refine Fun.enter func75 r ntmps75 r (.c (.c (.c (.c (.c .n))))) fun w0 M => ?_
 refine .marks0 (.sr (.box1 r r r r fun b28 => ?_))
 refine .boxA r r r fun b30 => ?_
 refine .boxA r r r fun b32 => ?_
 refine .ks 2 r (.nilS [7, 6, 5, 4, 3] r r (.sr (.loadW ia39 sz39 r (.s .z) r r r (.loadW ia53 sz53 r .z r r r ?_))))
 have hw77 := W_pull_sure (I := I) R3 R6 R9 R12 R15 hd
 refine .call call113 r hw77 r r fun v60 I57 hl58 hv59 => ?_
 obtain ⟨r56, p62, c63, p65, c66, p68, c69, p71, c72, p74, c75, rfl, R64, R67, R70, R73, R76, hd⟩ := hv59
 replace R3 := R3.mono hl58
 replace R6 := R6.mono hl58
 replace R9 := R9.mono hl58
 replace R12 := R12.mono hl58
 replace R15 := R15.mono hl58
 replace R18 := R18.mono hl58
 refine .ks 3 r (.storeA sz39 r r (.s .z) (.t (.t (.t (.t (.t .nil))))) r r (.storeA sz53 r r .z (.t (.t (.t .nil))) r r (.nilS [7, 6, 5, 4, 3] r r (.seq (.block (.sr (.load1 ia29 r (.s (.s .z)) r r r ?_)))))))
 have hw93 := W_ring_Is (I := I57) hd
 refine .callP call109 r hw93 r r fun v94 hv95 => ?_
 obtain ⟨r92, rfl, hd⟩ := hv95
 refine .ks 2 r (.nilS [22, 7, 6, 5, 4, 3] r r (.condP r hd (fun hb96 hd => ?_) fun hb96 hd => ?_))
 · exact .sr (.ks 2 r (.nilS [11, 10] r r (.drop .z (.drop .z (.drop .z (.ret (pretM .z results75 (.t r (.t r .n)) hl58 ⟨(([] : List Sum), 8), _, _, r, (.nil _ _ _), hd⟩)))))))
 refine .sr (.fa un53 r sz3 r (o := 0) r r r (.load1 ia3 r .z r r r (.fa un39 r sz3 r (o := 1) r r r (.load1 ia3 r (.s .z) r r r (.ks 2 r (.nilS [26, 7, 6, 5, 4, 3] r r (.condP r hd (fun hb97 hd => ?_) fun hb97 hd => ?_)))))))
 · exact .sr (.ks 2 r (.nilS [11, 10] r r (.drop .z (.drop .z (.drop .z (.ret (pretM .z results75 (.t r (.t r .n)) hl58 ⟨(([] : List Sum), 4), _, _, r, (.nil _ _ _), hd⟩)))))))
 refine .skipS [7, 6, 5, 4, 3] r r (.sr (.alloc1 zeroValue45 r r r fun b100 => ?_))
 refine .nilS [12, 7, 6, 5, 4, 3] r r (.seq (.sr (.fa un39 r sz3 r (o := 0) r r r (.load1 ia3 r (.s (.s .z)) r r r (.ks 2 r ?_)))))
 have hw119 := W_pull_asked_064 (I := I57) (a0 := r56.1.Rows) (a1 := a3) (a2 := a4) R18 hd
 refine .callS (.f call114 r) .n hw119 r r fun v123 I120 l124 hl121 hv122 => ?_
 obtain ⟨r125, b129, b130, p131, c132, b134, rfl, R133, rfl, hd⟩ := hv122
 have le135 := IH.le.trans hl58 hl121
 replace R18 := R18.mono hl121
 replace R64 := R64.mono hl121
 replace R67 := R67.mono hl121
 replace R70 := R70.mono hl121
 replace R73 := R73.mono hl121
 replace R76 := R76.mono hl121
 refine .re (m' := [pto b129 (.cells #[.int .i64 r125.1] 3 (0, 0)), pto b130 (.cells #[.slice p131 r125.2.1.length c132] 33 (0, 0)), pto b134 (.cells #[.bool r125.2.2] 4 (0, 0)), pto b100 (.cells #[.slice none 0 0] 45 (0, 0)), pto b32 (.cells #[.int .i64 r56.2.N, .slice p71 r56.2.Has.length c72, .slice p74 r56.2.Vals.length c75] 53 (0, 0)), pto b30 (.cells #[.int .i64 r56.1.Rows, .int .i64 r56.1.Cols, .slice p62 r56.1.Start.length c63, .slice p65 r56.1.Col.length c66, .slice p68 r56.1.Val.length c69] 39 (0, 0)), pto b28 (.cells #[.int .i64 a0] 29 (0, 0)), Marks ([])]) r (.nilS [36, 12, 7, 6, 5] r r (.block (.own0 eSum 85 (.rangeF [] r call145 (.c (.s (.s (.s (.s (.s (.s (.s (.s .z)))))))) (.c (.s (.s (.s (.s (.s (.s (.s .z))))))) (.c (.s (.s (.s (.s (.s (.s .z)))))) (.c (.s (.s (.s (.s (.s .z))))) (.c (.s (.s (.s (.s .z)))) (.c .z (.c .z (.c .z (.c .z .n))))))))) fun lr D rc hrc => ?_))))
 refine ⟨_, W_pull_asked_1_839 (I := I120) (lr := lr) (Rr := recA lr [] rc) (o0 := 0) (o1 := a0) (o2 := r56.1) (o3 := r56.2) (o4 := ([] : List Sum)) (o5 := r125.1) (o6 := r125.2.1) (o7 := r125.2.2) (b9 := b28) (b10 := b30) (p11 := p62) (c12 := c63) (p14 := p65) (c15 := c66) (p17 := p68) (c18 := c69) (b20 := b32) (p21 := p71) (c22 := c72) (p24 := p74) (c25 := c75) (b27 := b100) (p28 := none) (c29 := 0) (b32 := b129) (b33 := b130) (p34 := p131) (c35 := c132) (b37 := b134) ?_ R64 R67 R70 R73 R76 R133 hd, ?_⟩
 · skip
   intro I hJ y234 y235 y237 y248 y256 x262 p239 c240 p242 c243 p245 c246 p250 c251 p253 c254 p258 c259 Qy R241 R244 R247 R252 R255 hd
   replace R64 := R64.mono hJ
   replace R67 := R67.mono hJ
   replace R70 := R70.mono hJ
   replace R73 := R73.mono hJ
   replace R76 := R76.mono hJ
   replace R133 := R133.mono hJ
   obtain ⟨rfl, hd⟩ := hd
   refine RFun.mk hrc r fun w0 M => ?_
   refine .region (.ks 1 r (.nil' fun c w ho hs => beginR (E' := [(5, _), (6, _), (7, _), (12, _), (13, _)]) ho ⟨r, r, r, r, r, trivial⟩ hs .z (.block (.sr (.load1 ia29 r (.s .z) r r r (.loadW ia39 sz39 r (.s (.s .z)) r r r (.ks 1 r (.loadW ia53 sz53 r (.s (.s (.s .z))) r r r ?_))))))))
   have hw270 := W_pull_row (I := I) R241 R244 R247 R252 R255 hd
   refine .callP call115 r hw270 r r fun v271 hv272 => ?_
   obtain ⟨r269, rfl, hd⟩ := hv272
   refine .ks 3 r (.allocA zv83 r r fun b273 => ?_)
   refine .storeA sz83 r r .z (.t (.t .nil)) r r (.ks 1 r (.nilS [15, 14, 13, 12] r r (.sr (.ks 1 r (.nilS [46, 14, 13, 12] r r (.condP r hd (fun hb275 hd => ?_) fun hb275 hd => ?_))))))
   · refine .region (.load1 ia45 r (.s (.s (.s (.s (.s .z))))) r r r (.ks 1 r (.loadW ia83 sz83 r .z r r r (.build zv85 un85 BI85 (.c r r r (.t .nil) (.c r r r (.s (.t (.t .nil))) .n)) (by exact ⟨⟨_, _, r, r, r⟩, ⟨⟨_, _, r, r, r⟩, trivial⟩⟩) r r (.buildSlice 1 un45 sz85 zv85 r r (.c r r r .n) r r fun b276 => ?_)))))
     obtain ⟨hl278, hd⟩ := hd
     refine .append (ys := [({ At := x262, Val := r269.1 } : Sum)]) 24 (.s (.s (.s (.s (.s (.s (.s .z))))))) un45 un45 IN85 r r r r r r r r r (.box .z (.one r) r) hl278 r r fun p279 c280 => ?_
     refine .store1 sz45 r r (.s (.s (.s (.s (.s (.s (.s .z))))))) (.t .nil) r ?_
     exact .nil' fun c w ho hs => endR 0 (.inl rfl) (.refl _) (.s (.s (.s .z))) (.c (.s (.s (.s .z))) (.c (.s (.s (.s .z))) (.c (.s (.s (.s .z))) (.c (.s (.s (.s .z))) (.c .z .n))))) ⟨(true, 0, (y256 ++ ([({ At := x262, Val := r269.1 } : Sum)]))), _, _, rfl, rfl, hd⟩ hs
   exact .skip' fun c w ho hs => endR 0 (.inl rfl) (.refl _) (.s .z) (.c (.s .z) (.c (.s .z) (.c (.s .z) (.c (.s .z) (.c (.s .z) .n))))) ⟨(true, 0, y256), _, _, rfl, rfl, hd⟩ hs
 intro v285 I282 l' hl283 hv284
 obtain ⟨r286, p290, c291, rfl, rfl, hd⟩ := hv284
 have le294 := IH.le.trans le135 hl283
 replace R64 := R64.mono hl283
 replace R67 := R67.mono hl283
 replace R70 := R70.mono hl283
 replace R73 := R73.mono hl283
 replace R76 := R76.mono hl283
 replace R133 := R133.mono hl283
 obtain ⟨hz, hd⟩ := hd
 refine ⟨_, _, r, fun hj => ?_, fun i hj => absurd (hz.symm.trans hj) (by simp)⟩
 refine .re (m' := [Marks (D :: []), pto b28 (.cells #[.int .i64 a0] 29 (0, 0)), pto b30 (.cells #[.int .i64 r56.1.Rows, .int .i64 r56.1.Cols, .slice p62 r56.1.Start.length c63, .slice p65 r56.1.Col.length c66, .slice p68 r56.1.Val.length c69] 39 (0, 0)), pto b32 (.cells #[.int .i64 r56.2.N, .slice p71 r56.2.Has.length c72, .slice p74 r56.2.Vals.length c75] 53 (0, 0)), pto b100 (.cells #[.slice p290 r286.2.length c291] 45 (0, 0)), OwnSl eSum 85 p290 c291 r286.2, pto b129 (.cells #[.int .i64 r125.1] 3 (0, 0)), pto b130 (.cells #[.slice p131 r125.2.1.length c132] 33 (0, 0)), pto b134 (.cells #[.bool r125.2.2] 4 (0, 0))]) r (.mkS [12] r r (.drop (.s .z) (.drop (.s .z) (.drop (.s .z) (.drop (.s (.s (.s .z))) (.drop (.s (.s (.s .z))) (.drop (.s (.s (.s .z))) (.sr (.load1 ia45 r (.s .z) r r r ?_)))))))))
 refine .ks 2 r (.nilS [11, 10] r r (.drop (.s .z) (.pub (.s .z) fun I295 hl296 R297 => ?_)))
 have le298 := IH.le.trans le294 hl296
 exact .ret (pretM .z results75 (.t r (.t r .n)) le298 ⟨(r286.2, 0), _, _, r, R297, hd⟩)

theorem W_policy_Task_pull_afb {I : IH} {a0 : Policy_Task} {p1 : Option Addr} {c2 : Nat} {p4 : Option Addr} {c5 : Nat} {p7 : Option Addr} {c8 : Nat} {p10 : Option Addr} {c11 : Nat} {p13 : Option Addr} {c14 : Nat} {p16 : Option Addr} {c17 : Nat} {p19 : Option Addr} {c20 : Nat} {p22 : Option Addr} {c23 : Nat} {p25 : Option Addr} {c26 : Nat} {p28 : Option Addr} {c29 : Nat} {p31 : Option Addr} {c32 : Nat} {Q : ((List Sum) × Int) → Prop} (R3 : RepSl eI64 I p1 c2 a0.Rows.Start) (R6 : RepSl eI64 I p4 c5 a0.Rows.Col) (R9 : RepSl eI64 I p7 c8 a0.Rows.Val) (R12 : RepSl eI64 I p10 c11 a0.Cols.At) (R15 : RepSl eI64 I p13 c14 a0.Cols.Start) (R18 : RepSl eI64 I p16 c17 a0.Cols.Row) (R21 : RepSl eI64 I p19 c20 a0.Cols.Val) (R24 : RepSl eItem I p22 c23 a0.X.Vec.Items) (R27 : RepSl eU64 I p25 c26 a0.X.Dense.Has) (R30 : RepSl eI64 I p28 c29 a0.X.Dense.Vals) (R33 : RepSl eU64 I p31 c32 a0.Set) (hd : policy_Task_pull_afb a0 Q) :
  Fun prog 41 #[.agg #[.int .i64 a0.Ring, .int .i64 a0.Rows.Rows, .int .i64 a0.Rows.Cols, .slice p1 a0.Rows.Start.length c2, .slice p4 a0.Rows.Col.length c5, .slice p7 a0.Rows.Val.length c8, .int .i64 a0.Cols.Rows, .int .i64 a0.Cols.Cols, .slice p10 a0.Cols.At.length c11, .slice p13 a0.Cols.Start.length c14, .slice p16 a0.Cols.Row.length c17, .slice p19 a0.Cols.Val.length c20, .int .i64 a0.X.Form, .int .i64 a0.X.Vec.N, .slice p22 a0.X.Vec.Items.length c23, .int .i64 a0.X.Dense.N, .slice p25 a0.X.Dense.Has.length c26, .slice p28 a0.X.Dense.Vals.length c29, .slice p31 a0.Set.length c32, .bool a0.Others, .int .i64 a0.Way]] I [] (fun I_ v l => ∃ r p34 c35, v = .tuple #[.slice p34 r.1.length c35, .int .i64 r.2] ∧ RepSl eSum I_ p34 c35 r.1 ∧ l = [] ∧ Q r) := by
 refine Fun.enter (vs := [.agg #[.int .i64 a0.Ring, .int .i64 a0.Rows.Rows, .int .i64 a0.Rows.Cols, .slice p1 a0.Rows.Start.length c2, .slice p4 a0.Rows.Col.length c5, .slice p7 a0.Rows.Val.length c8, .int .i64 a0.Cols.Rows, .int .i64 a0.Cols.Cols, .slice p10 a0.Cols.At.length c11, .slice p13 a0.Cols.Start.length c14, .slice p16 a0.Cols.Row.length c17, .slice p19 a0.Cols.Val.length c20, .int .i64 a0.X.Form, .int .i64 a0.X.Vec.N, .slice p22 a0.X.Vec.Items.length c23, .int .i64 a0.X.Dense.N, .slice p25 a0.X.Dense.Has.length c26, .slice p28 a0.X.Dense.Vals.length c29, .slice p31 a0.Set.length c32, .bool a0.Others, .int .i64 a0.Way]]) func41 r ntmps41 r (.c .n) fun w0 M => ?_
 refine .sr (.boxA r r r fun b36 => ?_)
 refine .ks 2 r (.nilS [1] r r (.seq (.dr [0, 1, 2, 3, 4, 5, 7, 8, 9, 10, 6, 11, 12, 13] 14 (.g r r r (fun _ => .fa un58 r sz29 r (o := 0) r r r .mk) (.g r r r (fun _ => .load1 ia29 r .z r r r .mk) (.g r r r (fun _ => .fa un58 r sz39 r (o := 1) r r r .mk) (.g r r r (fun _ => .loadA ia39 sz39 r .z (.s (.t (.t (.t (.t (.t .nil)))))) r r r .mk) (.g r r r (fun _ => .fa un58 r sz55 r (o := 12) r r r .mk) (.g r r r (fun _ => .loadA ia55 sz55 r .z (.s (.s (.s (.s (.s (.s (.s (.s (.s (.s (.s (.s (.t (.t (.t (.t (.t (.t .nil)))))))))))))))))) r r r .mk) ?_)))))))))
 refine .g r r r (fun _ => .fa un58 r sz33 r (o := 18) r r r .mk) (.g r r r (fun _ => .load1 ia33 r .z r r r .mk) (.g r r r (fun _ => .fa un58 r sz4 r (o := 19) r r r .mk) (.g r r r (fun _ => .load1 ia4 r .z r r r .mk) (.ww r fun ex => ?_))))
 have hw50 := W_policy_Dense (I := I) R24 R27 R30 hd
 refine .call call25 r hw50 r r fun v42 I39 hl40 hv41 => ?_
 obtain ⟨r38, p44, c45, p47, c48, rfl, R46, R49, hd⟩ := hv41
 replace R3 := R3.mono hl40
 replace R6 := R6.mono hl40
 replace R9 := R9.mono hl40
 replace R12 := R12.mono hl40
 replace R15 := R15.mono hl40
 replace R18 := R18.mono hl40
 replace R21 := R21.mono hl40
 replace R24 := R24.mono hl40
 replace R27 := R27.mono hl40
 replace R30 := R30.mono hl40
 replace R33 := R33.mono hl40
 refine .so 1 r r r (.cg r r r r (fun _ => .load1 ia4 r .z r r r .mk) (.cg r r r r (fun _ => .fa un58 r sz4 r (o := 19) r r r .mk) (.cg r r r r (fun _ => .load1 ia33 r .z r r r .mk) (.cg r r r r (fun _ => .fa un58 r sz33 r (o := 18) r r r .mk) (.cg r r r r (fun _ => .loadA ia39 sz39 r .z (.s (.t (.t (.t (.t (.t .nil)))))) r r r .mk) (.cg r r r r (fun _ => .fa un58 r sz39 r (o := 1) r r r .mk) (.cg r r r r (fun _ => .load1 ia29 r .z r r r .mk) (.cg r r r r (fun _ => .fa un58 r sz29 r (o := 0) r r r .mk) trivial)))))))) (.ww r fun ex => ?_)
 have hw60 := W_pull_Sums (I := I39) R3 R6 R9 R46 R49 R33 hd
 refine .call call75 r hw60 r r fun v55 I52 hl53 hv54 => ?_
 obtain ⟨r51, p57, c58, rfl, R59, hd⟩ := hv54
 have le61 := IH.le.trans hl40 hl53
 replace R3 := R3.mono hl53
 replace R6 := R6.mono hl53
 replace R9 := R9.mono hl53
 replace R12 := R12.mono hl53
 replace R15 := R15.mono hl53
 replace R18 := R18.mono hl53
 replace R21 := R21.mono hl53
 replace R24 := R24.mono hl53
 replace R27 := R27.mono hl53
 replace R30 := R30.mono hl53
 replace R33 := R33.mono hl53
 replace R46 := R46.mono hl53
 replace R49 := R49.mono hl53
 exact .so 1 r r r trivial (.fk 2 r (.e2 14 (.ks 2 r (.nilS [3, 2] r r (.drop .z (.ret (oret results41 (.t r (.t r .n)) le61 .n ⟨(r51.1, r51.2), _, _, r, R59, r, hd⟩)))))))

theorem W_policy_Task_push_e34 {I : IH} {a0 : Policy_Task} {p1 : Option Addr} {c2 : Nat} {p4 : Option Addr} {c5 : Nat} {p7 : Option Addr} {c8 : Nat} {p10 : Option Addr} {c11 : Nat} {p13 : Option Addr} {c14 : Nat} {p16 : Option Addr} {c17 : Nat} {p19 : Option Addr} {c20 : Nat} {p22 : Option Addr} {c23 : Nat} {p25 : Option Addr} {c26 : Nat} {p28 : Option Addr} {c29 : Nat} {p31 : Option Addr} {c32 : Nat} {Q : ((List Sum) × Int) → Prop} (R3 : RepSl eI64 I p1 c2 a0.Rows.Start) (R6 : RepSl eI64 I p4 c5 a0.Rows.Col) (R9 : RepSl eI64 I p7 c8 a0.Rows.Val) (R12 : RepSl eI64 I p10 c11 a0.Cols.At) (R15 : RepSl eI64 I p13 c14 a0.Cols.Start) (R18 : RepSl eI64 I p16 c17 a0.Cols.Row) (R21 : RepSl eI64 I p19 c20 a0.Cols.Val) (R24 : RepSl eItem I p22 c23 a0.X.Vec.Items) (R27 : RepSl eU64 I p25 c26 a0.X.Dense.Has) (R30 : RepSl eI64 I p28 c29 a0.X.Dense.Vals) (R33 : RepSl eU64 I p31 c32 a0.Set) (hd : policy_Task_push_e34 a0 Q) :
  Fun prog 40 #[.agg #[.int .i64 a0.Ring, .int .i64 a0.Rows.Rows, .int .i64 a0.Rows.Cols, .slice p1 a0.Rows.Start.length c2, .slice p4 a0.Rows.Col.length c5, .slice p7 a0.Rows.Val.length c8, .int .i64 a0.Cols.Rows, .int .i64 a0.Cols.Cols, .slice p10 a0.Cols.At.length c11, .slice p13 a0.Cols.Start.length c14, .slice p16 a0.Cols.Row.length c17, .slice p19 a0.Cols.Val.length c20, .int .i64 a0.X.Form, .int .i64 a0.X.Vec.N, .slice p22 a0.X.Vec.Items.length c23, .int .i64 a0.X.Dense.N, .slice p25 a0.X.Dense.Has.length c26, .slice p28 a0.X.Dense.Vals.length c29, .slice p31 a0.Set.length c32, .bool a0.Others, .int .i64 a0.Way]] I [] (fun I_ v l => ∃ r p34 c35, v = .tuple #[.slice p34 r.1.length c35, .int .i64 r.2] ∧ RepSl eSum I_ p34 c35 r.1 ∧ l = [] ∧ Q r) := by
 refine Fun.enter (vs := [.agg #[.int .i64 a0.Ring, .int .i64 a0.Rows.Rows, .int .i64 a0.Rows.Cols, .slice p1 a0.Rows.Start.length c2, .slice p4 a0.Rows.Col.length c5, .slice p7 a0.Rows.Val.length c8, .int .i64 a0.Cols.Rows, .int .i64 a0.Cols.Cols, .slice p10 a0.Cols.At.length c11, .slice p13 a0.Cols.Start.length c14, .slice p16 a0.Cols.Row.length c17, .slice p19 a0.Cols.Val.length c20, .int .i64 a0.X.Form, .int .i64 a0.X.Vec.N, .slice p22 a0.X.Vec.Items.length c23, .int .i64 a0.X.Dense.N, .slice p25 a0.X.Dense.Has.length c26, .slice p28 a0.X.Dense.Vals.length c29, .slice p31 a0.Set.length c32, .bool a0.Others, .int .i64 a0.Way]]) func40 r ntmps40 r (.c .n) fun w0 M => ?_
 refine .sr (.boxA r r r fun b36 => ?_)
 refine .ks 2 r (.nilS [1] r r (.seq (.dr [0, 1, 2, 3, 4, 5, 7, 8, 9, 10, 6, 11, 12, 13] 14 (.g r r r (fun _ => .fa un58 r sz29 r (o := 0) r r r .mk) (.g r r r (fun _ => .load1 ia29 r .z r r r .mk) (.g r r r (fun _ => .fa un58 r sz50 r (o := 6) r r r .mk) (.g r r r (fun _ => .loadA ia50 sz50 r .z (.s (.s (.s (.s (.s (.s (.t (.t (.t (.t (.t (.t .nil)))))))))))) r r r .mk) (.g r r r (fun _ => .fa un58 r sz55 r (o := 12) r r r .mk) (.g r r r (fun _ => .loadA ia55 sz55 r .z (.s (.s (.s (.s (.s (.s (.s (.s (.s (.s (.s (.s (.t (.t (.t (.t (.t (.t .nil)))))))))))))))))) r r r .mk) ?_)))))))))
 refine .g r r r (fun _ => .fa un58 r sz33 r (o := 18) r r r .mk) (.g r r r (fun _ => .load1 ia33 r .z r r r .mk) (.g r r r (fun _ => .fa un58 r sz4 r (o := 19) r r r .mk) (.g r r r (fun _ => .load1 ia4 r .z r r r .mk) (.ww r fun ex => ?_))))
 have hw47 := W_policy_Vec (I := I) R24 R27 R30 hd
 refine .call call23 r hw47 r r fun v42 I39 hl40 hv41 => ?_
 obtain ⟨r38, p44, c45, rfl, R46, hd⟩ := hv41
 replace R3 := R3.mono hl40
 replace R6 := R6.mono hl40
 replace R9 := R9.mono hl40
 replace R12 := R12.mono hl40
 replace R15 := R15.mono hl40
 replace R18 := R18.mono hl40
 replace R21 := R21.mono hl40
 replace R24 := R24.mono hl40
 replace R27 := R27.mono hl40
 replace R30 := R30.mono hl40
 replace R33 := R33.mono hl40
 refine .so 1 r r r (.cg r r r r (fun _ => .load1 ia4 r .z r r r .mk) (.cg r r r r (fun _ => .fa un58 r sz4 r (o := 19) r r r .mk) (.cg r r r r (fun _ => .load1 ia33 r .z r r r .mk) (.cg r r r r (fun _ => .fa un58 r sz33 r (o := 18) r r r .mk) (.cg r r r r (fun _ => .loadA ia50 sz50 r .z (.s (.s (.s (.s (.s (.s (.t (.t (.t (.t (.t (.t .nil)))))))))))) r r r .mk) (.cg r r r r (fun _ => .fa un58 r sz50 r (o := 6) r r r .mk) (.cg r r r r (fun _ => .load1 ia29 r .z r r r .mk) (.cg r r r r (fun _ => .fa un58 r sz29 r (o := 0) r r r .mk) trivial)))))))) (.ww r fun ex => ?_)
 have hw57 := W_push_Sums (I := I39) R12 R15 R18 R21 R46 R33 hd
 refine .call call74 r hw57 r r fun v52 I49 hl50 hv51 => ?_
 obtain ⟨r48, p54, c55, rfl, R56, hd⟩ := hv51
 have le58 := IH.le.trans hl40 hl50
 replace R3 := R3.mono hl50
 replace R6 := R6.mono hl50
 replace R9 := R9.mono hl50
 replace R12 := R12.mono hl50
 replace R15 := R15.mono hl50
 replace R18 := R18.mono hl50
 replace R21 := R21.mono hl50
 replace R24 := R24.mono hl50
 replace R27 := R27.mono hl50
 replace R30 := R30.mono hl50
 replace R33 := R33.mono hl50
 replace R46 := R46.mono hl50
 exact .so 1 r r r trivial (.fk 2 r (.e2 14 (.ks 2 r (.nilS [3, 2] r r (.drop .z (.ret (oret results40 (.t r (.t r .n)) le58 .n ⟨(r48.1, r48.2), _, _, r, R56, r, hd⟩)))))))

theorem W_policy_Sums {I : IH} {a0 : Policy_Task} {p1 : Option Addr} {c2 : Nat} {p4 : Option Addr} {c5 : Nat} {p7 : Option Addr} {c8 : Nat} {p10 : Option Addr} {c11 : Nat} {p13 : Option Addr} {c14 : Nat} {p16 : Option Addr} {c17 : Nat} {p19 : Option Addr} {c20 : Nat} {p22 : Option Addr} {c23 : Nat} {p25 : Option Addr} {c26 : Nat} {p28 : Option Addr} {c29 : Nat} {p31 : Option Addr} {c32 : Nat} {Q : ((List Sum) × Int × Int) → Prop} (R3 : RepSl eI64 I p1 c2 a0.Rows.Start) (R6 : RepSl eI64 I p4 c5 a0.Rows.Col) (R9 : RepSl eI64 I p7 c8 a0.Rows.Val) (R12 : RepSl eI64 I p10 c11 a0.Cols.At) (R15 : RepSl eI64 I p13 c14 a0.Cols.Start) (R18 : RepSl eI64 I p16 c17 a0.Cols.Row) (R21 : RepSl eI64 I p19 c20 a0.Cols.Val) (R24 : RepSl eItem I p22 c23 a0.X.Vec.Items) (R27 : RepSl eU64 I p25 c26 a0.X.Dense.Has) (R30 : RepSl eI64 I p28 c29 a0.X.Dense.Vals) (R33 : RepSl eU64 I p31 c32 a0.Set) (hd : policy_Sums a0 Q) :
  PFun prog 15 [.agg #[.int .i64 a0.Ring, .int .i64 a0.Rows.Rows, .int .i64 a0.Rows.Cols, .slice p1 a0.Rows.Start.length c2, .slice p4 a0.Rows.Col.length c5, .slice p7 a0.Rows.Val.length c8, .int .i64 a0.Cols.Rows, .int .i64 a0.Cols.Cols, .slice p10 a0.Cols.At.length c11, .slice p13 a0.Cols.Start.length c14, .slice p16 a0.Cols.Row.length c17, .slice p19 a0.Cols.Val.length c20, .int .i64 a0.X.Form, .int .i64 a0.X.Vec.N, .slice p22 a0.X.Vec.Items.length c23, .int .i64 a0.X.Dense.N, .slice p25 a0.X.Dense.Has.length c26, .slice p28 a0.X.Dense.Vals.length c29, .slice p31 a0.Set.length c32, .bool a0.Others, .int .i64 a0.Way]] I (fun I_ v => ∃ r p34 c35, v = .tuple #[.slice p34 r.1.length c35, .int .i64 r.2.1, .int .i64 r.2.2] ∧ RepSl eSum I_ p34 c35 r.1 ∧ Q r) := by
 refine Fun.enter func15 r ntmps15 r (.c .n) fun w0 M => ?_
 refine .sr (.boxA r r r fun b39 => ?_)
 refine .ks 3 r (.nilS [1] r r (.seq (.dr [0, 1, 2, 3, 4, 5, 8, 9, 6, 7, 10, 11] 12 (.g r r r (fun _ => .fa un58 r sizeOf22 r (o := 20) r r r .mk) (.g r r r (fun _ => .load1 isAgg22 r .z r r r .mk) (.g r r r (fun _ => .fa un58 r sz50 r (o := 6) r r r .mk) (.g r r r (fun _ => .loadA ia50 sz50 r .z (.s (.s (.s (.s (.s (.s (.t (.t (.t (.t (.t (.t .nil)))))))))))) r r r .mk) (.g r r r (fun _ => .fa un58 r sz55 r (o := 12) r r r .mk) (.g r r r (fun _ => .loadA ia55 sz55 r .z (.s (.s (.s (.s (.s (.s (.s (.s (.s (.s (.s (.s (.t (.t (.t (.t (.t (.t .nil)))))))))))))))))) r r r .mk) ?_)))))))))
 refine .g r r r (fun _ => .fa un58 r sz39 r (o := 1) r r r .mk) (.g r r r (fun _ => .loadA ia39 sz39 r .z (.s (.t (.t (.t (.t (.t .nil)))))) r r r .mk) (.ww r fun ex => ?_))
 have hw72 := W_policy_Vec (I := I) R24 R27 R30 hd
 refine .call call23 r hw72 r r fun v67 I64 hl65 hv66 => ?_
 obtain ⟨r63, p69, c70, rfl, R71, hd⟩ := hv66
 replace R3 := R3.mono hl65
 replace R6 := R6.mono hl65
 replace R9 := R9.mono hl65
 replace R12 := R12.mono hl65
 replace R15 := R15.mono hl65
 replace R18 := R18.mono hl65
 replace R21 := R21.mono hl65
 replace R24 := R24.mono hl65
 replace R27 := R27.mono hl65
 replace R30 := R30.mono hl65
 replace R33 := R33.mono hl65
 refine .so 1 r r r (.cg r r r r (fun _ => .loadA ia39 sz39 r .z (.s (.t (.t (.t (.t (.t .nil)))))) r r r .mk) (.cg r r r r (fun _ => .fa un58 r sz39 r (o := 1) r r r .mk) (.cg r r r r (fun _ => .loadA ia50 sz50 r .z (.s (.s (.s (.s (.s (.s (.t (.t (.t (.t (.t (.t .nil)))))))))))) r r r .mk) (.cg r r r r (fun _ => .fa un58 r sz50 r (o := 6) r r r .mk) (.cg r r r r (fun _ => .load1 isAgg22 r .z r r r .mk) (.cg r r r r (fun _ => .fa un58 r sizeOf22 r (o := 20) r r r .mk) trivial)))))) (.ww r fun ex => ?_)
 have hw74 := W_push_Work (I := I64) R12 R15 R18 R21 R71 hd
 refine .callP call38 r hw74 r r fun v75 hv76 => ?_
 obtain ⟨r73, rfl, hd⟩ := hv76
 refine .so 1 r r r (.cg r r r r (fun _ => .loadA ia39 sz39 r .z (.s (.t (.t (.t (.t (.t .nil)))))) r r r .mk) (.cg r r r r (fun _ => .fa un58 r sz39 r (o := 1) r r r .mk) (.cg r r r r (fun _ => .load1 isAgg22 r .z r r r .mk) (.cg r r r r (fun _ => .fa un58 r sizeOf22 r (o := 20) r r r .mk) trivial)))) (.ww r fun ex => ?_)
 have hw78 := W_csr_Count (I := I64) R3 R6 R9 hd
 refine .callP call39 r hw78 r r fun v79 hv80 => ?_
 obtain ⟨r77, rfl, hd⟩ := hv80
 refine .so 1 r r r (.cg r r r r (fun _ => .load1 isAgg22 r .z r r r .mk) (.cg r r r r (fun _ => .fa un58 r sizeOf22 r (o := 20) r r r .mk) trivial)) (.ww r fun ex => ?_)
 have hw82 := W_policy_Direction (I := I64) hd
 refine .callP call8 r hw82 r r fun v83 hv84 => ?_
 obtain ⟨r81, rfl, hd⟩ := hv84
 refine .so 1 r r r trivial (.e2 12 (.ks 1 r (.nilS [5, 1] r r (.sr (.loadW isAgg58 sizeOf58 r .z r r r (.mkFn r r r r (.ks 1 r (.nilS [6, 5, 1] r r (.seq ?_)))))))))
 refine .sr (.ks 2 r (.nilS [24, 6, 5, 1] r r (.condP r hd (fun hb87 hd => ?_) fun hb87 hd => ?_)))
 · refine .region (.loadW isAgg58 sizeOf58 r .z r r r (.mkFn r r r r (.ks 1 r (.nilS [6, 5] r r (.drop .z (.sr (.ks 1 r ?_)))))))
   have hw99 := W_policy_Task_pull_afb (I := I64) (a0 := a0) R3 R6 R9 R12 R15 R18 R21 R24 R27 R30 R33 hd
   refine .callS (.c call41 r r) .n hw99 r r fun v103 I100 l104 hl101 hv102 => ?_
   obtain ⟨r105, p106, c107, rfl, R108, rfl, hd⟩ := hv102
   have le109 := IH.le.trans hl65 hl101
   replace R3 := R3.mono hl101
   replace R6 := R6.mono hl101
   replace R9 := R9.mono hl101
   replace R12 := R12.mono hl101
   replace R15 := R15.mono hl101
   replace R18 := R18.mono hl101
   replace R21 := R21.mono hl101
   replace R24 := R24.mono hl101
   replace R27 := R27.mono hl101
   replace R30 := R30.mono hl101
   replace R33 := R33.mono hl101
   refine .re (m' := []) r (.ks 5 r (.nilS [8, 7, 5] r r (.seq (.sr (.ks 2 r (.nilS [33, 8, 7, 5] r r (.condP r hd (fun hb110 hd => ?_) fun hb110 hd => ?_)))))))
   · exact .sr (.ks 4 r (.nilS [4, 3, 2] r r (.ret (pret results15 (.t r (.t r (.t r .n))) le109 ⟨(([] : List Sum), 0, r105.2), _, _, r, (.nil _ _ _), hd⟩))))
   exact .skipS [8, 7, 5] r r (.sr (.ks 6 r (.nilS [4, 3, 2] r r (.ret (pret results15 (.t r (.t r (.t r .n))) le109 ⟨(r105.1, r81, r105.2), _, _, r, R108, hd⟩)))))
 refine .skipS [6, 5] r r (.drop .z (.sr (.ks 1 r ?_)))
 have hw122 := W_policy_Task_push_e34 (I := I64) (a0 := a0) R3 R6 R9 R12 R15 R18 R21 R24 R27 R30 R33 hd
 refine .callS (.c call40 r r) .n hw122 r r fun v126 I123 l127 hl124 hv125 => ?_
 obtain ⟨r128, p129, c130, rfl, R131, rfl, hd⟩ := hv125
 have le132 := IH.le.trans hl65 hl124
 replace R3 := R3.mono hl124
 replace R6 := R6.mono hl124
 replace R9 := R9.mono hl124
 replace R12 := R12.mono hl124
 replace R15 := R15.mono hl124
 replace R18 := R18.mono hl124
 replace R21 := R21.mono hl124
 replace R24 := R24.mono hl124
 replace R27 := R27.mono hl124
 replace R30 := R30.mono hl124
 replace R33 := R33.mono hl124
 refine .re (m' := []) r (.ks 5 r (.nilS [8, 7, 5] r r (.seq (.sr (.ks 2 r (.nilS [33, 8, 7, 5] r r (.condP r hd (fun hb133 hd => ?_) fun hb133 hd => ?_)))))))
 · exact .sr (.ks 4 r (.nilS [4, 3, 2] r r (.ret (pret results15 (.t r (.t r (.t r .n))) le132 ⟨(([] : List Sum), 0, r128.2), _, _, r, (.nil _ _ _), hd⟩))))
 exact .skipS [8, 7, 5] r r (.sr (.ks 6 r (.nilS [4, 3, 2] r r (.ret (pret results15 (.t r (.t r (.t r .n))) le132 ⟨(r128.1, r81, r128.2), _, _, r, R131, hd⟩)))))

theorem W_law16_live {I : IH} {Q : Bool → Prop}  (hd : law16_live Q) :
  PFun prog 7 [] I (fun _ => o1_ Q) := by
 refine Fun.enter func7 r ntmps7 r .n fun w0 M => ?_
 refine .sr (.ks 1 r (.nilS [] r r (.sr (.build zv78 un78 BI78 (.c r r r (.s (.t .nil)) (.c r r r (.s (.s (.t .nil))) .n)) (by exact ⟨⟨_, _, r, r, r⟩, ⟨⟨_, _, r, r, r⟩, trivial⟩⟩) r r (.buildSlice 1 un31 sz78 zv78 r r (.c r r r .n) r r fun b25 => ?_)))))
 refine .pubB (El := eTriple) (ys := ([({ Row := 0, Col := 3, Val := 2 } : Triple)] : List Triple)) (k := 1) .z (.one r) r fun I27 hl28 R29 => ?_
 have hw45 := W_ref07_Of (I := I27) R29 hd
 refine .call call32 r hw45 r r fun v34 I31 hl32 hv33 => ?_
 obtain ⟨r30, p36, c37, p39, c40, p42, c43, rfl, R38, R41, R44, hd⟩ := hv33
 have le46 := IH.le.trans hl28 hl32
 replace R29 := R29.mono hl32
 refine .ks 3 r (.allocA zv39 r r fun b47 => ?_)
 refine .storeA sz39 r r .z (.t (.t (.t (.t (.t .nil))))) r r (.ks 1 r (.nilS [1] r r (.sr (.build zv80 un80 BI80 (.c r r r (.t .nil) (.c r r r (.s (.t .nil)) .n)) (by exact ⟨⟨_, _, r, r, r⟩, ⟨⟨_, _, r, r, r⟩, trivial⟩⟩) r r (.buildSlice 1 un32 sz80 zv80 r r (.c r r r .n) r r fun b54 => ?_)))))
 refine .ownB (El := eItem) (ys := ([({ At := 3, Val := 5 } : Item)] : List Item)) .z (.one r) r (.build zv42 un42 BI42 (.c r r r (.t .nil) (.c r r r (.s (.t .nil)) .n)) (by exact ⟨⟨_, _, r, r, r⟩, ⟨⟨_, _, r, r, r⟩, trivial⟩⟩) r r (.allocA zv42 r r fun b57 => ?_))
 refine .storeA sz42 r r .z (.t (.t .nil)) r r (.nilS [3, 1] r r (.sr (.loadW ia42 sz42 r .z r r r (.pub (.s .z) fun I82 hl83 R84 => ?_))))
 have le85 := IH.le.trans le46 hl83
 replace R38 := R38.mono hl83
 replace R41 := R41.mono hl83
 replace R44 := R44.mono hl83
 have hw101 := W_policy_Hold (I := I82) (a1 := ({ N := 8, Items := ([({ At := 3, Val := 5 } : Item)] : List Item) } : Vec)) R84 hd
 refine .call call21 r hw101 r r fun v90 I87 hl88 hv89 => ?_
 obtain ⟨r86, p92, c93, p95, c96, p98, c99, rfl, R94, R97, R100, hd⟩ := hv89
 have le102 := IH.le.trans le85 hl88
 replace R38 := R38.mono hl88
 replace R41 := R41.mono hl88
 replace R44 := R44.mono hl88
 replace R84 := R84.mono hl88
 refine .allocA zv55 r r fun b103 => ?_
 refine .storeA sz55 r r .z (.t (.t (.t (.t (.t (.t .nil)))))) r r (.nilS [4, 3, 1] r r (.sr (.loadW ia42 sz42 r (.s .z) r r r ?_)))
 have hw139 := W_policy_Hold (I := I87) (a1 := ({ N := 8, Items := ([({ At := 3, Val := 5 } : Item)] : List Item) } : Vec)) R84 hd
 refine .call call21 r hw139 r r fun v128 I125 hl126 hv127 => ?_
 obtain ⟨r124, p130, c131, p133, c134, p136, c137, rfl, R132, R135, R138, hd⟩ := hv127
 have le140 := IH.le.trans le102 hl126
 replace R38 := R38.mono hl126
 replace R41 := R41.mono hl126
 replace R44 := R44.mono hl126
 replace R84 := R84.mono hl126
 replace R94 := R94.mono hl126
 replace R97 := R97.mono hl126
 replace R100 := R100.mono hl126
 refine .allocA zv55 r r fun b141 => ?_
 refine .storeA sz55 r r .z (.t (.t (.t (.t (.t (.t .nil)))))) r r (.nilS [5, 4, 3, 1] r r (.seq (.dr [0, 1, 3, 2, 4, 5, 6, 7, 8, 9, 10, 11] 12 (.g r r r (fun _ => .loadW ia39 sz39 r (.s (.s (.s .z))) r r r .mk) (.g r r r (fun _ => .loadW ia39 sz39 r (.s (.s (.s .z))) r r r .mk) (.g r r r (fun _ => .loadW ia55 sz55 r (.s .z) r r r .mk) (.ww r fun ex => ?_)))))))
 have hw192 := W_ref08_Of (I := I125) R38 R41 R44 hd
 refine .call call16 r hw192 r r fun v178 I175 hl176 hv177 => ?_
 obtain ⟨r174, p180, c181, p183, c184, p186, c187, p189, c190, rfl, R182, R185, R188, R191, hd⟩ := hv177
 have le193 := IH.le.trans le140 hl176
 replace R38 := R38.mono hl176
 replace R41 := R41.mono hl176
 replace R44 := R44.mono hl176
 replace R84 := R84.mono hl176
 replace R94 := R94.mono hl176
 replace R97 := R97.mono hl176
 replace R100 := R100.mono hl176
 replace R132 := R132.mono hl176
 replace R135 := R135.mono hl176
 replace R138 := R138.mono hl176
 refine .so 4 r r r (.cg r r r r (fun _ => .loadW ia55 sz55 r (.s .z) r r r .mk) (.cg r r r r (fun _ => .loadW ia39 sz39 r (.s (.s (.s .z))) r r r .mk) trivial)) (.g r r r (fun _ => .build zeroValue58 un58 BI58 (.c r r r (.t .nil) (.c r r r (.s (.t (.t (.t (.t (.t .nil)))))) (.c r r r (.s (.s (.s (.s (.s (.s (.t (.t (.t (.t (.t (.t .nil)))))))))))) (.c r r r (.s (.s (.s (.s (.s (.s (.s (.s (.s (.s (.s (.s (.t (.t (.t (.t (.t (.t .nil)))))))))))))))))) (.c r r r (.s (.s (.s (.s (.s (.s (.s (.s (.s (.s (.s (.s (.s (.s (.s (.s (.s (.s (.s (.t .nil)))))))))))))))))))) .n))))) (by exact ⟨⟨_, _, r, r, r⟩, ⟨⟨_, _, r, r, r⟩, ⟨⟨_, _, r, r, r⟩, ⟨⟨_, _, r, r, r⟩, ⟨⟨_, _, r, r, r⟩, trivial⟩⟩⟩⟩⟩) r r .mk) (.ww r fun ex => ?_))
 have hw203 := W_policy_Sums (I := I175) (a0 := ({ Ring := 1, Rows := r30.1, Cols := r174, X := r86, Set := ([] : List Int), Others := true, Way := 0 } : Policy_Task)) R38 R41 R44 R182 R185 R188 R191 R94 R97 R100 (.nil _ none 0) hd
 refine .call call15 r hw203 r r fun v198 I195 hl196 hv197 => ?_
 obtain ⟨r194, p200, c201, rfl, R202, hd⟩ := hv197
 have le204 := IH.le.trans le193 hl196
 replace R38 := R38.mono hl196
 replace R41 := R41.mono hl196
 replace R44 := R44.mono hl196
 replace R84 := R84.mono hl196
 replace R94 := R94.mono hl196
 replace R97 := R97.mono hl196
 replace R100 := R100.mono hl196
 replace R132 := R132.mono hl196
 replace R135 := R135.mono hl196
 replace R138 := R138.mono hl196
 replace R182 := R182.mono hl196
 replace R185 := R185.mono hl196
 replace R188 := R188.mono hl196
 replace R191 := R191.mono hl196
 refine .so 4 r r r trivial (.fk 6 r (.e2 12 (.ks 1 r (.nilS [8, 7, 6, 5, 4, 3] r r (.drop (.s (.s (.s .z))) (.sr (.build zeroValue58 un58 BI58 .n (by exact trivial) r r ?_)))))))
 have hw225 := W_policy_Sums (I := I195) (a0 := ({ Ring := 0, Rows := ({ Rows := 0, Cols := 0, Start := ([] : List Int), Col := ([] : List Int), Val := ([] : List Int) } : Rows), Cols := ({ Rows := 0, Cols := 0, At := ([] : List Int), Start := ([] : List Int), Row := ([] : List Int), Val := ([] : List Int) } : Columns), X := ({ Form := 0, Vec := ({ N := 0, Items := ([] : List Item) } : Vec), Dense := ({ N := 0, Has := ([] : List Int), Vals := ([] : List Int) } : Dense) } : Held), Set := ([] : List Int), Others := false, Way := 0 } : Policy_Task)) (.nil _ none 0) (.nil _ none 0) (.nil _ none 0) (.nil _ none 0) (.nil _ none 0) (.nil _ none 0) (.nil _ none 0) (.nil _ none 0) (.nil _ none 0) (.nil _ none 0) (.nil _ none 0) hd
 refine .call call15 r hw225 r r fun v220 I217 hl218 hv219 => ?_
 obtain ⟨r216, p222, c223, rfl, R224, hd⟩ := hv219
 have le226 := IH.le.trans le204 hl218
 replace R84 := R84.mono hl218
 replace R94 := R94.mono hl218
 replace R97 := R97.mono hl218
 replace R100 := R100.mono hl218
 replace R132 := R132.mono hl218
 replace R135 := R135.mono hl218
 replace R138 := R138.mono hl218
 replace R202 := R202.mono hl218
 refine .ks 7 r (.nilS [11, 10, 8, 7, 6, 5, 4, 3] r r (.seq (.dr [0, 1, 2, 3, 4, 5, 6, 7, 8, 9, 10, 11, 12, 13, 14, 15, 16, 17, 18, 19, 20, 21, 22, 23, 24, 25, 26, 27, 28, 29, 30, 32, 31, 33, 34, 35, 36, 37, 38, 39, 40, 41, 42, 43, 44, 45, 46, 47, 48, 49, 50, 51, 52, 53, 54, 55, 56, 57, 58, 59, 60, 61, 62, 63, 64, 65, 66, 67, 68, 69] 70 (.ww r fun ex => ?_))))
 have hw228 := W_policy_Shape (I := I217) hd
 refine .callP call10 r hw228 r r fun v229 hv230 => ?_
 obtain ⟨r227, rfl, hd⟩ := hv230
 refine .so 3 r r r trivial (.fk 2 r ?_)
 refine splitP hd (fun hb231 hd => ?_) fun hb231 hd => ?_
 · refine .ww r fun ex => ?_
   have hw233 := W_policy_Shape (I := I217) hd
   refine .gyes r r hb231 (.callP call10 r hw233 r r fun v234 hv235 => ?_)
   obtain ⟨r232, rfl, hd⟩ := hv235
   refine .so 3 r r r trivial (.g r r r (fun _ => .gyes r r hb231 (.eq r r r r .mk)) (.g r r r (fun _ => .pickT r hb231 r r r .mk) (.fk 1 r ?_)))
   refine splitP hd (fun hb236 hd => ?_) fun hb236 hd => ?_
   · refine .ww r fun ex => ?_
     have hw238 := W_policy_Direction (I := I217) hd
     refine .gyes r r hb236 (.callP call8 r hw238 r r fun v239 hv240 => ?_)
     obtain ⟨r237, rfl, hd⟩ := hv240
     refine .so 3 r r r trivial (.g r r r (fun _ => .gyes r r hb236 (.eq r r r r .mk)) (.g r r r (fun _ => .pickT r hb236 r r r .mk) (.fk 1 r ?_)))
     refine splitP hd (fun hb241 hd => ?_) fun hb241 hd => ?_
     · refine .ww r fun ex => ?_
       have hw243 := W_policy_Direction (I := I217) hd
       refine .gyes r r hb241 (.callP call8 r hw243 r r fun v244 hv245 => ?_)
       obtain ⟨r242, rfl, hd⟩ := hv245
       refine .so 3 r r r trivial (.g r r r (fun _ => .gyes r r hb241 (.eq r r r r .mk)) (.g r r r (fun _ => .pickT r hb241 r r r .mk) (.fk 1 r ?_)))
       refine splitP hd (fun hb246 hd => ?_) fun hb246 hd => ?_
       · refine .g r r r (fun _ => .gyes r r hb246 (.fa un55 r sizeOf23 r (o := 0) r r r .mk)) (.g r r r (fun _ => .gyes r r hb246 (.load1 isAgg23 r (.s .z) r r r .mk)) (.g r r r (fun _ => .gyes r r hb246 (.eq r r r r .mk)) (.g r r r (fun _ => .pickT r hb246 r r r .mk) (.fk 1 r ?_))))
         refine splitP hd (fun hb247 hd => ?_) fun hb247 hd => ?_
         · refine .g r r r (fun _ => .gyes r r hb247 (.loadW ia55 sz55 r (.s .z) r r r .mk)) (.ww r fun ex => ?_)
           have hw249 := W_policy_Size (I := I217) R94 R97 R100 hd
           refine .gyes r r hb247 (.callP call26 r hw249 r r fun v250 hv251 => ?_)
           obtain ⟨r248, rfl, hd⟩ := hv251
           refine .so 3 r r r trivial (.g r r r (fun _ => .gyes r r hb247 (.eq r r r r .mk)) (.g r r r (fun _ => .pickT r hb247 r r r .mk) (.fk 1 r ?_)))
           refine splitP hd (fun hb252 hd => ?_) fun hb252 hd => ?_
           · refine .g r r r (fun _ => .gyes r r hb252 (.loadW ia55 sz55 r .z r r r .mk)) (.ww r fun ex => ?_)
             have hw254 := W_policy_Size (I := I217) R132 R135 R138 hd
             refine .gyes r r hb252 (.callP call26 r hw254 r r fun v255 hv256 => ?_)
             obtain ⟨r253, rfl, hd⟩ := hv256
             refine .so 3 r r r trivial (.g r r r (fun _ => .gyes r r hb252 (.eq r r r r .mk)) (.g r r r (fun _ => .pickT r hb252 r r r .mk) (.fk 1 r ?_)))
             refine splitP hd (fun hb257 hd => ?_) fun hb257 hd => ?_
             · refine .g r r r (fun _ => .gyes r r hb257 (.loadW ia55 sz55 r .z r r r .mk)) (.g r r r (fun _ => .gyes r r hb257 (.loadW ia42 sz42 r (.s (.s .z)) r r r .mk)) (.ww r fun ex => ?_))
               have hw267 := W_policy_Vec (I := I217) R132 R135 R138 hd
               refine .gyes r r hb257 (.call call23 r hw267 r r fun v262 I259 hl260 hv261 => ?_)
               obtain ⟨r258, p264, c265, rfl, R266, hd⟩ := hv261
               have le268 := IH.le.trans le226 hl260
               replace R84 := R84.mono hl260
               replace R94 := R94.mono hl260
               replace R97 := R97.mono hl260
               replace R100 := R100.mono hl260
               replace R132 := R132.mono hl260
               replace R135 := R135.mono hl260
               replace R138 := R138.mono hl260
               replace R202 := R202.mono hl260
               refine .so 3 r r r (.cg r r r r (fun _ => .gyes r r hb257 (.loadW ia42 sz42 r (.s (.s .z)) r r r .mk)) trivial) (.ww r fun ex => ?_)
               have hw270 := W_ref09_Same (I := I259) (a1 := ({ N := 8, Items := ([({ At := 3, Val := 5 } : Item)] : List Item) } : Vec)) R266 R84 hd
               refine .gyes r r hb257 (.callP call22 r hw270 r r fun v271 hv272 => ?_)
               obtain ⟨r269, rfl, hd⟩ := hv272
               refine .so 3 r r r trivial (.g r r r (fun _ => .pickT r hb257 r r r .mk) (.fk 1 r ?_))
               refine splitP hd (fun hb273 hd => ?_) fun hb273 hd => ?_
               · refine .g r r r (fun _ => .gyes r r hb273 (.loadW ia55 sz55 r (.s .z) r r r .mk)) (.ww r fun ex => ?_)
                 have hw286 := W_policy_Dense (I := I259) R94 R97 R100 hd
                 refine .gyes r r hb273 (.call call25 r hw286 r r fun v278 I275 hl276 hv277 => ?_)
                 obtain ⟨r274, p280, c281, p283, c284, rfl, R282, R285, hd⟩ := hv277
                 have le287 := IH.le.trans le268 hl276
                 replace R84 := R84.mono hl276
                 replace R94 := R94.mono hl276
                 replace R97 := R97.mono hl276
                 replace R100 := R100.mono hl276
                 replace R132 := R132.mono hl276
                 replace R135 := R135.mono hl276
                 replace R138 := R138.mono hl276
                 replace R202 := R202.mono hl276
                 replace R266 := R266.mono hl276
                 refine .so 3 r r r trivial (.g r r r (fun _ => .gyes r r hb273 (.field1 un53 r ia3 r r r r .mk)) (.g r r r (fun _ => .gyes r r hb273 (.eq r r r r .mk)) (.g r r r (fun _ => .pickT r hb273 r r r .mk) (.fk 1 r ?_))))
                 refine splitP hd (fun hb288 hd => ?_) fun hb288 hd => ?_
                 · rw [hb288]
                   refine .fk 4 r ?_
                   refine splitP hd (fun hb289 hd => ?_) fun hb289 hd => ?_
                   · rw [hb289]
                     refine .fk 4 r ?_
                     refine splitP hd (fun hb290 hd => ?_) fun hb290 hd => ?_
                     · rw [hb290]
                       refine .fk 1 r (.g r r r (fun _ => .gyes r r r (.len un45 r r r r .mk)) (.fk 3 r ?_))
                       refine splitP hd (fun hb291 hd => ?_) fun hb291 hd => ?_
                       · rw [hb291]
                         refine .fk 1 r ?_
                         obtain ⟨h292, x293, hx294, hd⟩ := hd
                         obtain ⟨b295, o296, cs297, e298, hC299, hr300⟩ := R202.2 _ _ hx294
                         cases hr300
                         refine .g r r r (fun _ => .gyes r r r (.ixa un45 sz85 r e298 r h292 (idx_lt hx294 h292) r r .mk)) (.g r r r (fun _ => .gyes r r r (.fa un85 r sz83 r (o := o296 + (Int.toNat 0) * 3 + 1) r r r .mk)) (.g r r r (fun _ => .gyes r r r (.ldA (j := 1) ia83 sz83 hC299 r r (.s (.t (.t .nil))) r r r .mk)) (.g r r r (fun _ => .gyes r r r (.build zv83 un83 BI83 (.c r r r (.s (.t .nil)) .n) (by exact ⟨⟨_, _, r, r, r⟩, trivial⟩) r r .mk)) (.g r r r (fun _ => .gyes r r r (.eqV r r (EQ83 x293.Val ({ Hi := 0, Lo := 7 } : Wide)) (EG83 _ _ _ _ _) r r r .mk)) (.fk 2 r ?_)))))
                         refine splitP hd (fun hb301 hd => ?_) fun hb301 hd => ?_
                         · rw [hb301]
                           refine .fk 4 r ?_
                           refine splitP hd (fun hb302 hd => ?_) fun hb302 hd => ?_
                           · rw [hb302]
                             exact .fk 3 r (.e2 70 (.ks 1 r (.nilS [0] r r (.drop .z (.drop .z (.drop .z (.ret (pret results7 (.t r .n) le287 ⟨(r216.2.1 == 0), r, hd⟩))))))))
                           rw [hb302]
                           exact .fk 3 r (.e2 70 (.ks 1 r (.nilS [0] r r (.drop .z (.drop .z (.drop .z (.ret (pret results7 (.t r .n) le287 ⟨false, r, hd⟩))))))))
                         rw [hb301]
                         exact .fk 7 r (.e2 70 (.ks 1 r (.nilS [0] r r (.drop .z (.drop .z (.drop .z (.ret (pret results7 (.t r .n) le287 ⟨false, r, hd⟩))))))))
                       rw [hb291]
                       exact .fk 15 r (.e2 70 (.ks 1 r (.nilS [0] r r (.drop .z (.drop .z (.drop .z (.ret (pret results7 (.t r .n) le287 ⟨false, r, hd⟩))))))))
                     rw [hb290]
                     exact .fk 20 r (.e2 70 (.ks 1 r (.nilS [0] r r (.drop .z (.drop .z (.drop .z (.ret (pret results7 (.t r .n) le287 ⟨false, r, hd⟩))))))))
                   rw [hb289]
                   exact .fk 24 r (.e2 70 (.ks 1 r (.nilS [0] r r (.drop .z (.drop .z (.drop .z (.ret (pret results7 (.t r .n) le287 ⟨false, r, hd⟩))))))))
                 rw [hb288]
                 exact .fk 28 r (.e2 70 (.ks 1 r (.nilS [0] r r (.drop .z (.drop .z (.drop .z (.ret (pret results7 (.t r .n) le287 ⟨false, r, hd⟩))))))))
               refine .g r r r (fun _ => .gno r r hb273 r r .mk) (.g r r r (fun _ => .gno r r hb273 r r .mk) (.g r r r (fun _ => .gno r r hb273 r r .mk) (.g r r r (fun _ => .gno r r hb273 r r .mk) (.g r r r (fun _ => .pickF r hb273 r r r .mk) (.fk 29 r (.e2 70 (.ks 1 r (.nilS [0] r r (.drop .z ?_)))))))))
               exact .drop .z (.drop .z (.ret (pret results7 (.t r .n) le268 ⟨false, r, hd⟩)))
             refine .g r r r (fun _ => .gno r r hb257 r r .mk) (.g r r r (fun _ => .gno r r hb257 r r .mk) (.g r r r (fun _ => .gno r r hb257 r r .mk) (.g r r r (fun _ => .gno r r hb257 r r .mk) (.g r r r (fun _ => .pickF r hb257 r r r .mk) (.fk 35 r (.e2 70 (.ks 1 r (.nilS [0] r r (.drop .z ?_)))))))))
             exact .drop .z (.drop .z (.ret (pret results7 (.t r .n) le226 ⟨false, r, hd⟩)))
           refine .g r r r (fun _ => .gno r r hb252 r r .mk) (.g r r r (fun _ => .gno r r hb252 r r .mk) (.g r r r (fun _ => .gno r r hb252 r r .mk) (.g r r r (fun _ => .pickF r hb252 r r r .mk) (.fk 41 r (.e2 70 (.ks 1 r (.nilS [0] r r (.drop .z (.drop .z ?_)))))))))
           exact .drop .z (.ret (pret results7 (.t r .n) le226 ⟨false, r, hd⟩))
         refine .g r r r (fun _ => .gno r r hb247 r r .mk) (.g r r r (fun _ => .gno r r hb247 r r .mk) (.g r r r (fun _ => .gno r r hb247 r r .mk) (.g r r r (fun _ => .pickF r hb247 r r r .mk) (.fk 46 r (.e2 70 (.ks 1 r (.nilS [0] r r (.drop .z (.drop .z ?_)))))))))
         exact .drop .z (.ret (pret results7 (.t r .n) le226 ⟨false, r, hd⟩))
       refine .g r r r (fun _ => .gno r r hb246 r r .mk) (.g r r r (fun _ => .gno r r hb246 r r .mk) (.g r r r (fun _ => .gno r r hb246 r r .mk) (.g r r r (fun _ => .pickF r hb246 r r r .mk) (.fk 51 r (.e2 70 (.ks 1 r (.nilS [0] r r (.drop .z (.drop .z ?_)))))))))
       exact .drop .z (.ret (pret results7 (.t r .n) le226 ⟨false, r, hd⟩))
     refine .g r r r (fun _ => .gno r r hb241 r r .mk) (.g r r r (fun _ => .gno r r hb241 r r .mk) (.g r r r (fun _ => .pickF r hb241 r r r .mk) (.fk 56 r (.e2 70 (.ks 1 r (.nilS [0] r r (.drop .z (.drop .z (.drop .z ?_)))))))))
     exact .ret (pret results7 (.t r .n) le226 ⟨false, r, hd⟩)
   refine .g r r r (fun _ => .gno r r hb236 r r .mk) (.g r r r (fun _ => .gno r r hb236 r r .mk) (.g r r r (fun _ => .pickF r hb236 r r r .mk) (.fk 60 r (.e2 70 (.ks 1 r (.nilS [0] r r (.drop .z (.drop .z (.drop .z ?_)))))))))
   exact .ret (pret results7 (.t r .n) le226 ⟨false, r, hd⟩)
 refine .g r r r (fun _ => .gno r r hb231 r r .mk) (.g r r r (fun _ => .gno r r hb231 r r .mk) (.g r r r (fun _ => .pickF r hb231 r r r .mk) (.fk 64 r (.e2 70 (.ks 1 r (.nilS [0] r r (.drop .z (.drop .z (.drop .z ?_)))))))))
 exact .ret (pret results7 (.t r .n) le226 ⟨false, r, hd⟩)

end Go.Proofs.YtmidnfbbnmigeaaGreat
