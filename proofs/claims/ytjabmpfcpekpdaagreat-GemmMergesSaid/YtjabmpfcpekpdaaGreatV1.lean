/- The walks (printed by a program of ours). -/
import Derived.Test.YtjabmpfcpekpdaaGreatSL
namespace Go.Proofs.YtjabmpfcpekpdaaGreat
open Go Go.Fw
set_option linter.unusedVariables false
set_option linter.unusedSimpArgs false
set_option maxRecDepth 8000
set_option maxHeartbeats 1000000
open Tryz
theorem W_ref02_Is {I : IH} {a0 : Int} {Q : Bool → Prop}  (hd : ref02_Is a0 Q) :
  PFun prog 38 [.int .i64 a0] I (fun _ => o1_ Q) := by
 refine Fun.enter func38 r ntmps38 r (.c .n) fun w0 M => ?_
 refine .sr (.ks 1 r (.nilS [0] r r (.sr (.ks 3 r ?_))))
 refine splitP hd (fun hb1 hd => ?_) fun hb1 hd => ?_
 · rw [hb1]
   exact .ks 4 r (.nilS [2] r r (.ret (pret results38 (.t r .n) (.refl _) ⟨(decide (a0 ≤ 5)), r, hd⟩)))
 rw [hb1]
 exact .ks 4 r (.nilS [2] r r (.ret (pret results38 (.t r .n) (.refl _) ⟨false, r, hd⟩)))

theorem W_ref07_Empty {I : IH} {a0 : Int} {a1 : Int} {Q : Rows → Prop}  (hd : ref07_Empty a0 a1 Q) :
  OFun prog 84 [.int .i64 a0, .int .i64 a1] I (fun _ => o2_ Q) := by
 refine Fun.enter func84 r ntmps84 r (.c (.c .n)) fun w0 M => ?_
 refine .sr (.allocA zv30 r r fun b10 => ?_)
 refine .nilS [4, 1, 0] r r (.sr (.ks 4 r ?_))
 obtain ⟨h12, h13, hd⟩ := hd
 refine .make (El := eI64) (zv := 0) 8 un27 IN3 r r r r r r h12 h13 r r r fun b14 => ?_
 exact .build zv30 un30 BI30 (.c r r r (.t .nil) (.c r r r (.s (.t .nil)) (.c r r r (.s (.s (.t .nil))) .n))) (by exact ⟨⟨_, _, r, r, r⟩, ⟨⟨_, _, r, r, r⟩, ⟨⟨_, _, r, r, r⟩, trivial⟩⟩⟩) r r (.storeA sz30 r r (.s .z) (.t (.t (.t (.t (.t .nil))))) r r (.nilS [4] r r (.own0 eI64 3 (.own0 eI64 2 (.ret (oret results84 (.w ia30 sz30 r (.s (.s (.s .z))) r .n) (.refl _) (.c (.s (.s .z)) (.c (.s .z) (.c .z .n))) ⟨({ Rows := a0, Cols := a1, Start := (List.replicate (w64 (a0 + 1)).toNat 0), Col := ([] : List Int), Val := ([] : List Int) } : Rows), _, _, _, _, _, _, r, r, hd⟩))))))

theorem W_ref07_built {I : IH} {a0 : Int} {a1 : Int} {a2 : List Triple} {p1 : Option Addr} {c2 : Nat} {Q : Rows → Prop} (R3 : RepSl eTriple I p1 c2 a2) (hd : ref07_built a0 a1 a2 Q) :
  PFun prog 72 [.int .i64 a0, .int .i64 a1, .slice p1 a2.length c2] I (o3_ Q) := by
 refine Fun.enter func72 r ntmps72 r (.c (.c (.c .n))) fun w0 M => ?_
 refine .sr (.allocA zv30 r r fun b15 => ?_)
 refine .nilS [6, 2, 1, 0] r r (.sr (.ks 2 r ?_))
 have hw56 := W_ref07_Empty (I := I) hd
 refine .callO call84 r hw56 r r fun v42 I39 l43 hl40 hv41 => ?_
 obtain ⟨r38, p44, c45, p47, c48, p50, c51, rfl, rfl, hd⟩ := hv41
 replace R3 := R3.mono hl40
 refine .allocA zv30 r r fun b57 => ?_
 refine .storeA sz30 r r .z (.t (.t (.t (.t (.t .nil))))) r r (.nilS [7, 6, 2, 0] r r (.seq (.sr (.ks 1 r (.nilS [8, 7, 6, 2, 0] r r (.block (.loop hd (fun (s : (List Int) × (List Int) × (List Int) × Int) c w => match s with | (s390, s394, s398, s402) => ∃ I_ p391 c392 p395 c396 p399 c400, IH.le I39 I_ ∧ Ok ⟨58, [], none⟩ [(0, .int .i64 a0), (2, .slice p1 a2.length c2), (6, .pointer (some ⟨b15, 0, none⟩)), (7, .pointer (some ⟨b57, 0, none⟩)), (8, .int .i64 s402)] c ∧ Sym w0 M I I_ [pto b15 (.cells #[.int .i64 0, .int .i64 0, .slice none 0 0, .slice none 0 0, .slice none 0 0] 30 (0, 0)), pto b57 (.cells #[.int .i64 r38.Rows, .int .i64 r38.Cols, .slice p391 s390.length c392, .slice p395 s394.length c396, .slice p399 s398.length c400] 30 (0, 0)), OwnSl eI64 3 p391 c392 s390, OwnSl eI64 3 p395 c396 s394, OwnSl eI64 2 p399 c400 s398] w) (fun c w ho hs => ⟨I39, _, _, _, _, _, _, (.refl _), ho.sub ⟨r, r, r, r, r, trivial⟩, hs.pick (.c (.s (.s (.s (.s .z)))) (.c .z (.c .z (.c .z (.c .z .n)))))⟩) ?_)))))))
 rintro ⟨s390, s394, s398, s402⟩ next403 hd c w hst
 obtain ⟨I404, p391, c392, p395, c396, p399, c400, hl405, hok, hsym⟩ := hst
 have le406 := IH.le.trans hl40 hl405
 replace R3 := R3.mono hl405
 refine Cod.at hok hsym (.seq (.sr (.ks 2 r (.len un24 r r r r (.ks 1 r (.nilS [16, 8, 7, 6, 2, 0] r r (.condP r hd (fun hb408 hd => ?_) fun hb408 hd => ?_)))))))
 · refine .skipS [8, 7, 6, 2, 0] r r (.seq (.block (.seq (.ownF (.s (.s .z)) fun hne427 => ?_))))
   refine .ownF (.s (.s (.s .z))) fun hne428 => ?_
   refine .ownF (.s (.s (.s (.s .z)))) fun hne429 => ?_
   refine .dr [0, 1, 2, 3, 4, 5, 6, 7, 8] 9 (.g r r r (fun _ => .fa un30 r sz27 r (o := 3) r r r .mk) (.g r r r (fun _ => .load1 ia27 r (.s .z) r r r .mk) (.fk 2 r ?_)))
   obtain ⟨h430, x431, hx432, hd⟩ := hd
   obtain ⟨b433, o434, cs435, e436, hC437, hr438⟩ := R3.2 _ _ hx432
   cases hr438
   refine .g r r r (fun _ => .ixa un24 sz91 r e436 r h430 (idx_lt hx432 h430) r r .mk) (.g r r r (fun _ => .fa un91 r sz3 r (o := o434 + s402.toNat * 3 + 1) r r r .mk) (.g r r r (fun _ => .ld1 (j := 1) ia3 hC437 r r r r r .mk) (.ww r fun ex => ?_)))
   refine .buildSlice 1 un27 sz3 zv3 r r (.c r r r .n) r r fun b439 => ?_
   refine .so 6 r r r (.cg r r r r (fun _ => .load1 ia27 r (.s (.s .z)) r r r .mk) (.cg r r r r (fun _ => .fa un30 r sz27 r (o := 3) r r r .mk) trivial)) (.ww r fun ex => ?_)
   obtain ⟨hl441, hd⟩ := hd
   refine .append (ys := [x431.Col]) 8 (.s (.s (.s (.s .z)))) un27 un27 IN3 r r r r r r r r r (.box .z (.one r) r) hl441 r r fun p442 c443 => ?_
   refine .so 6 r r r trivial (.e2 9 (.fa un30 r sz27 r (o := 3) r r r (.store1 sz27 r r (.s (.s (.s .z))) (.s (.s (.s (.t .nil)))) r (.nilS [8, 7, 6, 2, 0] r r (.drop (.s .z) (.seq (.ownF .z fun hne463 => ?_)))))))
   refine .ownF (.s (.s (.s .z))) fun hne464 => ?_
   refine .ownF (.s (.s (.s (.s .z)))) fun hne465 => ?_
   refine .dr [0, 1, 2, 3, 4, 5, 6, 7, 8] 9 (.g r r r (fun _ => .fa un30 r sz28 r (o := 4) r r r .mk) (.g r r r (fun _ => .load1 ia28 r (.s (.s .z)) r r r .mk) (.fk 2 r ?_)))
   obtain ⟨h466, x467, hx468, hd⟩ := hd
   obtain ⟨b469, o470, cs471, e472, hC473, hr474⟩ := R3.2 _ _ hx468
   cases hr474
   refine .g r r r (fun _ => .ixa un24 sz91 r e472 r h466 (idx_lt hx468 h466) r r .mk) (.g r r r (fun _ => .fa un91 r sz2 r (o := o470 + s402.toNat * 3 + 2) r r r .mk) (.g r r r (fun _ => .ld1 (j := 2) ia2 hC473 r r r r r .mk) (.ww r fun ex => ?_)))
   refine .buildSlice 1 un28 sz2 zeroValue2 r r (.c r r r .n) r r fun b475 => ?_
   refine .so 6 r r r (.cg r r r r (fun _ => .load1 ia28 r (.s (.s (.s .z))) r r r .mk) (.cg r r r r (fun _ => .fa un30 r sz28 r (o := 4) r r r .mk) trivial)) (.ww r fun ex => ?_)
   obtain ⟨hl477, hd⟩ := hd
   refine .append (ys := [x467.Val]) 8 (.s (.s (.s (.s (.s .z))))) un28 un28 IN2 r r r r r r r r r (.box .z (.one r) r) hl477 r r fun p478 c479 => ?_
   refine .so 6 r r r trivial (.e2 9 (.fa un30 r sz28 r (o := 4) r r r (.store1 sz28 r r (.s (.s (.s (.s .z)))) (.s (.s (.s (.s (.t .nil))))) r (.nilS [8, 7, 6, 2, 0] r r (.drop (.s .z) (.sr (.ks 2 r ?_)))))))
   obtain ⟨h490, x491, hx492, hd⟩ := hd
   obtain ⟨b493, o494, cs495, e496, hC497, hr498⟩ := R3.2 _ _ hx492
   cases hr498
   refine .ixa un24 sz91 r e496 r h490 (idx_lt hx492 h490) r r (.fa un91 r sz3 r (o := o494 + s402.toNat * 3) r r r (.ld1 (j := 0) ia3 hC497 r r r r r (.ks 2 r (.nilS [9, 8, 7, 6, 2, 0] r r (.block (.loop hd (fun (s : (List Int) × Int) c w => match s with | (s534, s538) => ∃ I_ p535 c536, IH.le I404 I_ ∧ Ok ⟨58, [], none⟩ [(0, .int .i64 a0), (2, .slice p1 a2.length c2), (6, .pointer (some ⟨b15, 0, none⟩)), (7, .pointer (some ⟨b57, 0, none⟩)), (8, .int .i64 s402), (9, .int .i64 s538)] c ∧ Sym w0 M I I_ [pto b15 (.cells #[.int .i64 0, .int .i64 0, .slice none 0 0, .slice none 0 0, .slice none 0 0] 30 (0, 0)), pto b57 (.cells #[.int .i64 r38.Rows, .int .i64 r38.Cols, .slice p535 s534.length c536, .slice p442 (s394 ++ ([x431.Col])).length c443, .slice p478 (s398 ++ ([x467.Val])).length c479] 30 (0, 0)), OwnSl eI64 3 p535 c536 s534, OwnSl eI64 3 p442 c443 (s394 ++ ([x431.Col])), OwnSl eI64 2 p478 c479 (s398 ++ ([x467.Val]))] w) (fun c w ho hs => ⟨I404, _, _, (.refl _), ho.sub ⟨r, r, r, r, r, r, trivial⟩, hs.pick (.c (.s (.s .z)) (.c (.s (.s .z)) (.c (.s (.s .z)) (.c (.s .z) (.c .z .n)))))⟩) ?_))))))
   rintro ⟨s534, s538⟩ next539 hd c w hst
   obtain ⟨I540, p535, c536, hl541, hok, hsym⟩ := hst
   have le542 := IH.le.trans le406 hl541
   have le543 := IH.le.trans hl405 hl541
   replace R3 := R3.mono hl541
   refine Cod.at hok hsym (.seq (.sr (.ks 3 r (.nilS [47, 9, 8, 7, 6, 2, 0] r r (.condP r hd (fun hb545 hd => ?_) fun hb545 hd => ?_)))))
   · refine .skipS [9, 8, 7, 6, 2, 0] r r (.seq (.block (.region (.fa un30 r sz27 r (o := 2) r r r (.load1 ia27 r (.s .z) r r r (.ks 1 r ?_))))))
     obtain ⟨h546, x547, hx548, hd⟩ := hd
     refine .ownNe (.s (.s .z)) (idx_ne hx548) fun b549 e550 => ?_
     cases e550
     refine .ixa0 un27 sz3 r r h546 (idx_lt hx548 h546) r r (.lo1 (j := 0) ia3 (.s (.s .z)) hx548 r r r r r (.ks 1 r ?_))
     obtain ⟨h551, x552, hx553, hd⟩ := hd
     exact .ixa0 un27 sz3 r r h551 (idx_lt hx553 h551) r r (.stO1 (j := 0) (v' := (w64 (x547 + 1))) sz3 (.s (.s .z)) hx553 r r r (.t .nil) r (.sub (E' := [(0, _), (2, _), (6, _), (7, _), (8, _), (9, _), (50, _), (51, .slice (some ⟨b549, 0, none⟩) (s534.set s538.toNat (w64 (x547 + 1))).length c536), (52, _), (53, _), (54, _), (55, _), (56, _)]) ⟨r, r, r, r, r, r, r, (by simp only [List.length_set]; rfl), r, r, r, r, r, trivial⟩ (.reat (.s .z) (B := pto b57 (.cells #[.int .i64 r38.Rows, .int .i64 r38.Cols, .slice (some ⟨b549, 0, none⟩) (s534.set s538.toNat (w64 (x547 + 1))).length c536, .slice p442 (s394 ++ ([x431.Col])).length c443, .slice p478 (s398 ++ ([x467.Val])).length c479] 30 (0, 0))) (by simp only [List.length_set]) (.nilS [9, 8, 7, 6, 2, 0] r r (.region (.ks 3 r (.nil' fun c w ho hs => ⟨((s534.set s538.toNat (w64 (x547 + 1))), w64 (s538 + 1)), hd, I540, _, _, hl541, ho.sub ⟨r, r, r, r, r, r, trivial⟩, hs.pick (.c .z (.c .z (.c .z (.c .z (.c .z .n)))))⟩)))))))
   exact .exitS [8, 7, 6, 2, 0] r r (.region (.ks 3 r (.nil' fun c w ho hs => ⟨(s534, (s394 ++ ([x431.Col])), (s398 ++ ([x467.Val])), w64 (s402 + 1)), hd, I540, _, _, _, _, _, _, le543, ho.sub ⟨r, r, r, r, r, trivial⟩, hs.pick (.c .z (.c .z (.c .z (.c .z (.c .z .n)))))⟩)))
 refine .exitS [7, 6] r r (.sr (.loadW ia30 sz30 r (.s .z) r r r (.storeA sz30 r r .z (.t (.t (.t (.t (.t .nil))))) r r (.nilS [6] r r (.drop (.s .z) (.pub (.s .z) fun I554 hl555 R556 => ?_))))))
 have le557 := IH.le.trans le406 hl555
 have le558 := IH.le.trans hl405 hl555
 refine .pub (.s .z) fun I559 hl560 R561 => ?_
 have le562 := IH.le.trans le557 hl560
 have le563 := IH.le.trans le558 hl560
 replace R556 := R556.mono hl560
 refine .pub (.s .z) fun I564 hl565 R566 => ?_
 have le567 := IH.le.trans le562 hl565
 have le568 := IH.le.trans le563 hl565
 replace R556 := R556.mono hl565
 replace R561 := R561.mono hl565
 exact .ret (pret results72 (.w ia30 sz30 r .z r .n) le567 ⟨({ Rows := r38.Rows, Cols := r38.Cols, Start := s390, Col := s394, Val := s398 } : Rows), _, _, _, _, _, _, r, R556, R561, R566, hd⟩)

theorem W_ref01_Add {I : IH} {a0 : Wide} {a1 : Wide} {Q : Wide → Prop}  (hd : ref01_Add a0 a1 Q) :
  PFun prog 85 [.agg (encWide a0).toArray, .agg (encWide a1).toArray] I (fun _ => o4_ Q) := by
 refine Fun.enter func85 r ntmps85 r (.c (.c .n)) fun w0 M => ?_
 refine .sr (.boxA r r r fun b7 => ?_)
 refine .boxA r r r fun b9 => ?_
 refine .allocA zv57 r r fun b11 => ?_
 refine .nilS [4, 3, 2] r r (.sr (.fa un57 r sz55 r (o := 1) r r r (.load1 ia55 r (.s (.s .z)) r r r (.fa un57 r sz55 r (o := 1) r r r (.load1 ia55 r (.s .z) r r r (.ks 2 r (.nilS [5, 4, 3, 2] r r (.sr (.fa un57 r sz2 r (o := 0) r r r ?_)))))))))
 refine .load1 ia2 r (.s (.s .z)) r r r (.fa un57 r sz2 r (o := 0) r r r (.load1 ia2 r (.s .z) r r r (.ks 2 r (.nilS [6, 5, 4, 2] r r (.drop (.s .z) (.seq (.sr (.ks 1 r (.fa un57 r sz55 r (o := 1) r r r ?_)))))))))
 refine .load1 ia55 r (.s .z) r r r (.ks 1 r (.nilS [20, 6, 5, 4] r r (.drop (.s .z) (.condP r hd (fun hb13 hd => ?_) fun hb13 hd => ?_))))
 · exact .region (.ks 3 r (.nilS [6, 5, 4] r r (.sr (.ks 2 r (.build zv57 un57 BI57 (.c r r r (.t .nil) (.c r r r (.s (.t .nil)) .n)) (by exact ⟨⟨_, _, r, r, r⟩, ⟨⟨_, _, r, r, r⟩, trivial⟩⟩) r r (.storeA sz57 r r .z (.t (.t .nil)) r r (.nilS [4] r r (.ret (pret results85 (.w ia57 sz57 r .z r .n) (.refl _) ⟨({ Hi := w64 ((w64 (a0.Hi + a1.Hi)) + 1), Lo := IntKind.wrap .u64 (a0.Lo + a1.Lo) } : Wide), r, hd⟩)))))))))
 exact .skipS [6, 5, 4] r r (.sr (.ks 2 r (.build zv57 un57 BI57 (.c r r r (.t .nil) (.c r r r (.s (.t .nil)) .n)) (by exact ⟨⟨_, _, r, r, r⟩, ⟨⟨_, _, r, r, r⟩, trivial⟩⟩) r r (.storeA sz57 r r .z (.t (.t .nil)) r r (.nilS [4] r r (.ret (pret results85 (.w ia57 sz57 r .z r .n) (.refl _) ⟨({ Hi := w64 (a0.Hi + a1.Hi), Lo := IntKind.wrap .u64 (a0.Lo + a1.Lo) } : Wide), r, hd⟩)))))))

theorem W_ref01_Compare {I : IH} {a0 : Wide} {a1 : Wide} {Q : Int → Prop}  (hd : ref01_Compare a0 a1 Q) :
  PFun prog 86 [.agg (encWide a0).toArray, .agg (encWide a1).toArray] I (fun _ => o0_ Q) := by
 refine Fun.enter func86 r ntmps86 r (.c (.c .n)) fun w0 M => ?_
 refine .sr (.boxA r r r fun b5 => ?_)
 refine .boxA r r r fun b7 => ?_
 refine .ks 1 r (.nilS [3, 2] r r (.seq ?_))
 refine Cod.joinQ (σ := Unit) hd (fun (_ : Unit) c w => ∃ I_, IH.le I I_ ∧ Ok ⟨27, [], none⟩ [(2, .pointer (some ⟨b5, 0, none⟩)), (3, .pointer (some ⟨b7, 0, none⟩))] c ∧ Sym w0 M I I_ [pto b5 (.cells #[.int .i64 a0.Hi, .int .u64 a0.Lo] 57 (0, 0)), pto b7 (.cells #[.int .i64 a1.Hi, .int .u64 a1.Lo] 57 (0, 0))] w) (fun k15 hd => ?_) ?_
 · skip
   refine .sr (.fa un57 r sz2 r (o := 0) r r r (.load1 ia2 r (.s .z) r r r (.fa un57 r sz2 r (o := 0) r r r (.load1 ia2 r .z r r r (.ks 2 r ?_)))))
   refine splitP hd (fun hb16 hd => ?_) fun hb16 hd => ?_
   · rw [hb16]
     exact .ks 13 r (.nilS [23, 3, 2] r r (.condKT r r (.sr (.ks 1 r (.nilS [4] r r (.drop .z (.drop .z (.ret (pret results86 (.t r .n) (.refl _) ⟨(-1), r, hd⟩)))))))))
   rw [hb16]
   refine .gyes r r r (.fa un57 r sz2 r (o := 0) r r r (.gyes r r r (.load1 ia2 r (.s .z) r r r (.gyes r r r (.fa un57 r sz2 r (o := 0) r r r (.gyes r r r (.load1 ia2 r .z r r r (.ks 2 r ?_))))))))
   refine splitP hd (fun hb17 hd => ?_) fun hb17 hd => ?_
   · rw [hb17]
     refine .gyes r r r (.fa un57 r sz55 r (o := 1) r r r (.gyes r r r (.load1 ia55 r (.s .z) r r r (.gyes r r r (.fa un57 r sz55 r (o := 1) r r r (.gyes r r r (.load1 ia55 r .z r r r (.ks 3 r (.nilS [23, 3, 2] r r (.condP r hd (fun hb18 hd => ?_) fun hb18 hd => ?_))))))))))
     · exact .sr (.ks 1 r (.nilS [4] r r (.drop .z (.drop .z (.ret (pret results86 (.t r .n) (.refl _) ⟨(-1), r, hd⟩))))))
     exact .skip' fun c w ho hs => ⟨(), hd, I, (.refl _), ho.sub ⟨r, r, trivial⟩, hs.pick (.c (.s .z) (.c .z .n))⟩
   rw [hb17]
   exact .ks 7 r (.nilS [23, 3, 2] r r (.condKF r r (.skip' fun c w ho hs => ⟨(), hd, I, (.refl _), ho.sub ⟨r, r, trivial⟩, hs.pick (.c (.s .z) (.c .z .n))⟩)))
 rintro ⟨⟩ hd c w hst
 obtain ⟨I19, hl20, hok, hsym⟩ := hst
 refine Cod.at hok hsym (.seq (.sr (.loadW ia57 sz57 r .z r r r (.loadW ia57 sz57 r (.s .z) r r r (.eqV r r (EQ57 a0 a1) (EG57 _ _ _ _ _) r r r (.nilS [26] r r (.drop .z (.drop .z (.condP r hd (fun hb21 hd => ?_) fun hb21 hd => ?_)))))))))
 · exact .sr (.ks 1 r (.nilS [4] r r (.ret (pret results86 (.t r .n) hl20 ⟨0, r, hd⟩))))
 exact .skipS [] r r (.sr (.ks 1 r (.nilS [4] r r (.ret (pret results86 (.t r .n) hl20 ⟨1, r, hd⟩)))))

theorem W_ref02_truth {I : IH} {a0 : Bool} {Q : Wide → Prop}  (hd : ref02_truth a0 Q) :
  PFun prog 87 [.bool a0] I (fun _ => o4_ Q) := by
 refine Fun.enter func87 r ntmps87 r (.c .n) fun w0 M => ?_
 refine .sr (.allocA zv57 r r fun b3 => ?_)
 refine .nilS [2, 0] r r (.seq (.sr (.ks 1 r (.nilS [3, 2] r r (.condP r hd (fun hb5 hd => ?_) fun hb5 hd => ?_)))))
 · exact .sr (.build zv57 un57 BI57 (.c r r r (.s (.t .nil)) .n) (by exact ⟨⟨_, _, r, r, r⟩, trivial⟩) r r (.storeA sz57 r r .z (.t (.t .nil)) r r (.nilS [2] r r (.ret (pret results87 (.w ia57 sz57 r .z r .n) (.refl _) ⟨({ Hi := 0, Lo := 1 } : Wide), r, hd⟩)))))
 exact .skipS [2] r r (.sr (.build zv57 un57 BI57 .n (by exact trivial) r r (.storeA sz57 r r .z (.t (.t .nil)) r r (.nilS [2] r r (.ret (pret results87 (.w ia57 sz57 r .z r .n) (.refl _) ⟨({ Hi := 0, Lo := 0 } : Wide), r, hd⟩))))))

theorem W_ref02_Add {I : IH} {a0 : Int} {a1 : Wide} {a2 : Wide} {Q : Wide → Prop}  (hd : ref02_Add a0 a1 a2 Q) :
  PFun prog 42 [.int .i64 a0, .agg (encWide a1).toArray, .agg (encWide a2).toArray] I (fun _ => o4_ Q) := by
 refine Fun.enter func42 r ntmps42 r (.c (.c (.c .n))) fun w0 M => ?_
 refine .sr (.boxA r r r fun b7 => ?_)
 refine .boxA r r r fun b9 => ?_
 refine .allocA zv57 r r fun b11 => ?_
 refine .nilS [6, 5, 4, 0] r r (.sr (.ks 1 r (.nilS [7, 6, 5, 4] r r (.block (.seq ?_)))))
 refine Cod.joinQ (σ := Bool) hd (fun (s17 : Bool) c w => ∃ I_, IH.le I I_ ∧ Ok ⟨35, [], none⟩ [(4, .pointer (some ⟨b7, 0, none⟩)), (5, .pointer (some ⟨b9, 0, none⟩)), (6, .pointer (some ⟨b11, 0, none⟩)), (7, .int .i64 a0), (9, .bool s17)] c ∧ Sym w0 M I I_ [pto b7 (.cells #[.int .i64 a1.Hi, .int .u64 a1.Lo] 57 (0, 0)), pto b9 (.cells #[.int .i64 a2.Hi, .int .u64 a2.Lo] 57 (0, 0)), pto b11 (.cells #[.int .i64 0, .int .u64 0] 57 (0, 0))] w) (fun k18 hd => ?_) ?_
 · skip
   refine .sr (.ks 2 r (.nilS [9, 7, 6, 5, 4] r r (.condP r hd (fun hb19 hd => ?_) fun hb19 hd => ?_)))
   · exact .skip' fun c w ho hs => ⟨(a0 == 1), hd, I, (.refl _), ho.sub ⟨r, r, r, r, r, trivial⟩, hs.pick (.c (.s (.s .z)) (.c (.s .z) (.c .z .n)))⟩
   refine .sr (.ks 2 r (.nilS [9, 7, 6, 5, 4] r r (.condP r hd (fun hb20 hd => ?_) fun hb20 hd => ?_)))
   · exact .skip' fun c w ho hs => ⟨(a0 == 3), hd, I, (.refl _), ho.sub ⟨r, r, r, r, r, trivial⟩, hs.pick (.c (.s (.s .z)) (.c (.s .z) (.c .z .n)))⟩
   exact .region (.ks 2 r (.nil' fun c w ho hs => ⟨(a0 == 4), hd, I, (.refl _), ho.sub ⟨r, r, r, r, r, trivial⟩, hs.pick (.c (.s (.s .z)) (.c (.s .z) (.c .z .n)))⟩))
 rintro s17 hd c w hst
 obtain ⟨I21, hl22, hok, hsym⟩ := hst
 refine Cod.at hok hsym (.condP r hd (fun hb23 hd => ?_) fun hb23 hd => ?_)
 · refine .seq (.sr (.loadW ia57 sz57 r (.s .z) r r r (.loadW ia57 sz57 r .z r r r ?_)))
   have hw25 := W_ref01_Compare (I := I21) hd
   refine .callP call86 r hw25 r r fun v26 hv27 => ?_
   obtain ⟨r24, rfl, hd⟩ := hv27
   refine .ks 1 r (.nilS [16, 6, 5, 4] r r (.condP r hd (fun hb28 hd => ?_) fun hb28 hd => ?_))
   · exact .sr (.loadW ia57 sz57 r (.s .z) r r r (.storeA sz57 r r (.s (.s .z)) (.t (.t .nil)) r r (.nilS [6] r r (.drop .z (.drop .z (.ret (pret results42 (.w ia57 sz57 r .z r .n) hl22 ⟨a2, r, hd⟩)))))))
   exact .skipS [6, 4] r r (.drop (.s .z) (.sr (.loadW ia57 sz57 r .z r r r (.storeA sz57 r r (.s .z) (.t (.t .nil)) r r (.nilS [6] r r (.drop .z (.ret (pret results42 (.w ia57 sz57 r .z r .n) hl22 ⟨a1, r, hd⟩))))))))
 refine .sr (.ks 2 r (.nilS [19, 7, 6, 5, 4] r r (.condP r hd (fun hb29 hd => ?_) fun hb29 hd => ?_)))
 · refine .sr (.loadW ia57 sz57 r .z r r r (.build zv57 un57 BI57 .n (by exact trivial) r r (.neV r r (EQ57 a1 ({ Hi := 0, Lo := 0 } : Wide)) (EG57 _ _ _ _ _) r r r (.ks 1 r ?_))))
   refine splitP hd (fun hb30 hd => ?_) fun hb30 hd => ?_
   · rw [hb30]
     refine .ks 4 r ?_
     have hw32 := W_ref02_truth (I := I21) hd
     refine .callP call87 r hw32 r r fun v33 hv34 => ?_
     obtain ⟨r31, rfl, hd⟩ := hv34
     exact .storeA sz57 r r (.s (.s .z)) (.t (.t .nil)) r r (.nilS [6] r r (.drop .z (.drop .z (.ret (pret results42 (.w ia57 sz57 r .z r .n) hl22 ⟨r31, r, hd⟩)))))
   rw [hb30]
   refine .gyes r r r (.loadW ia57 sz57 r (.s .z) r r r (.gyes r r r (.build zv57 un57 BI57 .n (by exact trivial) r r (.gyes r r r (.neV r r (EQ57 a2 ({ Hi := 0, Lo := 0 } : Wide)) (EG57 _ _ _ _ _) r r r (.ks 1 r ?_))))))
   have hw36 := W_ref02_truth (I := I21) hd
   refine .callP call87 r hw36 r r fun v37 hv38 => ?_
   obtain ⟨r35, rfl, hd⟩ := hv38
   exact .storeA sz57 r r (.s (.s .z)) (.t (.t .nil)) r r (.nilS [6] r r (.drop .z (.drop .z (.ret (pret results42 (.w ia57 sz57 r .z r .n) hl22 ⟨r35, r, hd⟩)))))
 refine .sr (.ks 2 r (.nilS [30, 6, 5, 4] r r (.condP r hd (fun hb39 hd => ?_) fun hb39 hd => ?_)))
 · refine .sr (.loadW ia57 sz57 r .z r r r (.loadW ia57 sz57 r (.s .z) r r r ?_))
   have hw41 := W_ref01_Add (I := I21) hd
   refine .callP call85 r hw41 r r fun v42 hv43 => ?_
   obtain ⟨r40, rfl, hd⟩ := hv43
   exact .storeA sz57 r r (.s (.s .z)) (.t (.t .nil)) r r (.nilS [6] r r (.drop .z (.drop .z (.ret (pret results42 (.w ia57 sz57 r .z r .n) hl22 ⟨r40, r, hd⟩)))))
 exact .sr (.build zv57 un57 BI57 .n (by exact trivial) r r (.storeA sz57 r r (.s (.s .z)) (.t (.t .nil)) r r (.nilS [6] r r (.drop .z (.drop .z (.ret (pret results42 (.w ia57 sz57 r .z r .n) hl22 ⟨({ Hi := 0, Lo := 0 } : Wide), r, hd⟩)))))))

theorem W_ref01_Of {I : IH} {a0 : Int} {Q : Wide → Prop}  (hd : ref01_Of a0 Q) :
  PFun prog 48 [.int .i64 a0] I (fun _ => o4_ Q) := by
 refine Fun.enter func48 r ntmps48 r (.c .n) fun w0 M => ?_
 refine .sr (.allocA zv57 r r fun b3 => ?_)
 refine .nilS [2, 0] r r (.seq (.sr (.ks 2 r (.nilS [4, 2, 0] r r (.condP r hd (fun hb5 hd => ?_) fun hb5 hd => ?_)))))
 · exact .sr (.ks 1 r (.conv un2 un55 r r r (.build zv57 un57 BI57 (.c r r r (.t .nil) (.c r r r (.s (.t .nil)) .n)) (by exact ⟨⟨_, _, r, r, r⟩, ⟨⟨_, _, r, r, r⟩, trivial⟩⟩) r r (.storeA sz57 r r .z (.t (.t .nil)) r r (.nilS [2] r r (.ret (pret results48 (.w ia57 sz57 r .z r .n) (.refl _) ⟨({ Hi := (-1), Lo := IntKind.wrap .u64 (a0) } : Wide), r, hd⟩)))))))
 exact .skipS [2, 0] r r (.sr (.ks 1 r (.conv un2 un55 r r r (.build zv57 un57 BI57 (.c r r r (.s (.t .nil)) .n) (by exact ⟨⟨_, _, r, r, r⟩, trivial⟩) r r (.storeA sz57 r r .z (.t (.t .nil)) r r (.nilS [2] r r (.ret (pret results48 (.w ia57 sz57 r .z r .n) (.refl _) ⟨({ Hi := 0, Lo := IntKind.wrap .u64 (a0) } : Wide), r, hd⟩))))))))

theorem W_ref01_Narrow {I : IH} {a0 : Wide} {Q : (Int × Bool) → Prop}  (hd : ref01_Narrow a0 Q) :
  PFun prog 50 [.agg (encWide a0).toArray] I (fun _ => o5_ Q) := by
 refine Fun.enter func50 r ntmps50 r (.c .n) fun w0 M => ?_
 refine .sr (.boxA r r r fun b3 => ?_)
 refine .ks 2 r (.nilS [1] r r (.sr (.fa un57 r sz55 r (o := 1) r r r (.load1 ia55 r .z r r r (.conv un55 un2 r r r (.ks 1 r (.nilS [4, 1] r r (.seq (.sr ?_)))))))))
 refine .fa un57 r sz2 r (o := 0) r r r (.load1 ia2 r .z r r r (.ks 2 r ?_))
 refine splitP hd (fun hb5 hd => ?_) fun hb5 hd => ?_
 · rw [hb5]
   refine .ks 4 r ?_
   refine splitP hd (fun hb6 hd => ?_) fun hb6 hd => ?_
   · rw [hb6]
     exact .ks 8 r (.nilS [23, 4] r r (.drop .z (.condKT r r (.sr (.ks 3 r (.nilS [3, 2] r r (.ret (pret results50 (.t r (.t r .n)) (.refl _) ⟨(w64 (a0.Lo), true), r, hd⟩))))))))
   rw [hb6]
   refine .gyes r r r (.fa un57 r sz2 r (o := 0) r r r (.gyes r r r (.load1 ia2 r .z r r r (.ks 2 r ?_))))
   refine splitP hd (fun hb7 hd => ?_) fun hb7 hd => ?_
   · rw [hb7]
     refine .ks 4 r (.nilS [23, 4] r r (.drop .z (.condP r hd (fun hb8 hd => ?_) fun hb8 hd => ?_)))
     · exact .sr (.ks 3 r (.nilS [3, 2] r r (.ret (pret results50 (.t r (.t r .n)) (.refl _) ⟨(w64 (a0.Lo), true), r, hd⟩))))
     exact .skipS [] r r (.sr (.ks 2 r (.nilS [3, 2] r r (.ret (pret results50 (.t r (.t r .n)) (.refl _) ⟨(0, false), r, hd⟩)))))
   rw [hb7]
   exact .ks 4 r (.nilS [23, 4] r r (.drop .z (.condKF r r (.skipS [] r r (.sr (.ks 2 r (.nilS [3, 2] r r (.ret (pret results50 (.t r (.t r .n)) (.refl _) ⟨(0, false), r, hd⟩)))))))))
 rw [hb5]
 refine .ks 4 r (.gyes r r r (.fa un57 r sz2 r (o := 0) r r r (.gyes r r r (.load1 ia2 r .z r r r (.ks 2 r ?_)))))
 refine splitP hd (fun hb9 hd => ?_) fun hb9 hd => ?_
 · rw [hb9]
   refine .ks 4 r (.nilS [23, 4] r r (.drop .z (.condP r hd (fun hb10 hd => ?_) fun hb10 hd => ?_)))
   · exact .sr (.ks 3 r (.nilS [3, 2] r r (.ret (pret results50 (.t r (.t r .n)) (.refl _) ⟨(w64 (a0.Lo), true), r, hd⟩))))
   exact .skipS [] r r (.sr (.ks 2 r (.nilS [3, 2] r r (.ret (pret results50 (.t r (.t r .n)) (.refl _) ⟨(0, false), r, hd⟩)))))
 rw [hb9]
 exact .ks 4 r (.nilS [23, 4] r r (.drop .z (.condKF r r (.skipS [] r r (.sr (.ks 2 r (.nilS [3, 2] r r (.ret (pret results50 (.t r (.t r .n)) (.refl _) ⟨(0, false), r, hd⟩)))))))))

theorem W_ref05_below {I : IH} {a0 : Edge} {a1 : Edge} {Q : Bool → Prop}  (hd : ref05_below a0 a1 Q) :
  PFun prog 126 [.agg (encEdge a0).toArray, .agg (encEdge a1).toArray] I (fun _ => o1_ Q) := by
 refine Fun.enter func126 r ntmps126 r (.c (.c .n)) fun w0 M => ?_
 refine .sr (.boxA r r r fun b5 => ?_)
 refine .boxA r r r fun b7 => ?_
 refine .ks 1 r (.nilS [3, 2] r r (.sr (.fa un138 r sz3 r (o := 0) r r r (.load1 ia3 r (.s .z) r r r (.fa un138 r sz3 r (o := 0) r r r (.load1 ia3 r .z r r r (.ks 2 r ?_)))))))
 refine splitP hd (fun hb9 hd => ?_) fun hb9 hd => ?_
 · rw [hb9]
   exact .ks 14 r (.nilS [4] r r (.drop .z (.drop .z (.ret (pret results126 (.t r .n) (.refl _) ⟨true, r, hd⟩)))))
 rw [hb9]
 refine .gyes r r r (.fa un138 r sz3 r (o := 0) r r r (.gyes r r r (.load1 ia3 r (.s .z) r r r (.gyes r r r (.fa un138 r sz3 r (o := 0) r r r (.gyes r r r (.load1 ia3 r .z r r r (.ks 2 r ?_))))))))
 refine splitP hd (fun hb10 hd => ?_) fun hb10 hd => ?_
 · rw [hb10]
   exact .gyes r r r (.fa un138 r sz3 r (o := 1) r r r (.gyes r r r (.load1 ia3 r (.s .z) r r r (.gyes r r r (.fa un138 r sz3 r (o := 1) r r r (.gyes r r r (.load1 ia3 r .z r r r (.ks 4 r (.nilS [4] r r (.drop .z (.drop .z (.ret (pret results126 (.t r .n) (.refl _) ⟨(decide (a0.To < a1.To)), r, hd⟩)))))))))))))
 rw [hb10]
 exact .ks 8 r (.nilS [4] r r (.drop .z (.drop .z (.ret (pret results126 (.t r .n) (.refl _) ⟨false, r, hd⟩)))))

theorem W_ref05_Combine {I : IH} {a0 : Int} {a1 : List Edge} {p1 : Option Addr} {c2 : Nat} {Q : ((List Edge) × Int) → Prop} (R3 : RepSl eEdge I p1 c2 a1) (hd : ref05_Combine a0 a1 Q) :
  PFun prog 95 [.int .i64 a0, .slice p1 a1.length c2] I (fun I_ v => ∃ r p4 c5, v = .tuple #[.slice p4 r.1.length c5, .int .i64 r.2] ∧ RepSl eEdge I_ p4 c5 r.1 ∧ Q r) := by
 refine Fun.enter func95 r ntmps95 r (.c (.c .n)) fun w0 M => ?_
 refine .sr (.ks 2 r (.nilS [1, 0] r r (.seq (.sr (.ks 1 r ?_)))))
 have hw13 := W_ref02_Is (I := I) hd
 refine .callP call38 r hw13 r r fun v14 hv15 => ?_
 obtain ⟨r12, rfl, hd⟩ := hv15
 refine .ks 1 r (.nilS [17, 1, 0] r r (.condP r hd (fun hb16 hd => ?_) fun hb16 hd => ?_))
 · exact .sr (.ks 2 r (.nilS [5, 4] r r (.ret (pret results95 (.t r (.t r .n)) (.refl _) ⟨(([] : List Edge), 8), _, _, r, (.nil _ _ _), hd⟩))))
 refine .skipS [1, 0] r r (.sr (.ks 1 r (.nilS [6, 1, 0] r r (.sr (.ks 1 r (.nilS [7, 6, 1, 0] r r (.seq (.sr (.ks 1 r ?_)))))))))
 refine .nilS [8, 7, 6, 1, 0] r r (.block (.own0 eEdge 138 (.own0 eWide 57 (.loop hd (fun (s : (List Edge) × (List Wide) × Int) c w => match s with | (s2656, s2660, s2664) => ∃ I_ p2657 c2658 p2661 c2662, IH.le I I_ ∧ Ok ⟨145, [], none⟩ [(0, .int .i64 a0), (1, .slice p1 a1.length c2), (6, .slice p2657 s2656.length c2658), (7, .slice p2661 s2660.length c2662), (8, .int .i64 s2664)] c ∧ Sym w0 M I I_ [OwnSl eEdge 138 p2657 c2658 s2656, OwnSl eWide 57 p2661 c2662 s2660] w) (fun c w ho hs => ⟨I, _, _, _, _, (.refl _), ho.sub ⟨r, r, r, r, r, trivial⟩, hs.pick (.c (.s .z) (.c .z .n))⟩) ?_))))
 rintro ⟨s2656, s2660, s2664⟩ next2667 hd c w hst
 obtain ⟨I2668, p2657, c2658, p2661, c2662, hl2669, hok, hsym⟩ := hst
 replace R3 := R3.mono hl2669
 refine Cod.at hok hsym (.seq (.sr (.ks 2 r (.len un136 r r r r (.ks 1 r (.nilS [21, 8, 7, 6, 1, 0] r r (.condP r hd (fun hb2671 hd => ?_) fun hb2671 hd => ?_)))))))
 · refine .skipS [8, 7, 6, 1, 0] r r (.seq (.block (.sr (.ks 1 r (.nilS [9, 8, 7, 6, 1, 0] r r (.seq ?_))))))
   refine Cod.joinQ (σ := Int) hd (fun (s2820 : Int) c w => ∃ I_, IH.le I2668 I_ ∧ Ok ⟨145, [], none⟩ [(0, .int .i64 a0), (1, .slice p1 a1.length c2), (6, .slice p2657 s2656.length c2658), (7, .slice p2661 s2660.length c2662), (8, .int .i64 s2664), (9, .int .i64 s2820)] c ∧ Sym w0 M I I_ [OwnSl eEdge 138 p2657 c2658 s2656, OwnSl eWide 57 p2661 c2662 s2660] w) (fun k2821 hd => ?_) ?_
   · skip
     refine .block (.loop hd (fun (s2869 : Int) c w => ∃ I_, IH.le I2668 I_ ∧ Ok ⟨145, [], none⟩ [(0, .int .i64 a0), (1, .slice p1 a1.length c2), (6, .slice p2657 s2656.length c2658), (7, .slice p2661 s2660.length c2662), (8, .int .i64 s2664), (9, .int .i64 s2869)] c ∧ Sym w0 M I I_ [OwnSl eEdge 138 p2657 c2658 s2656, OwnSl eWide 57 p2661 c2662 s2660] w) (fun c w ho hs => ⟨I2668, (.refl _), ho.sub ⟨r, r, r, r, r, r, trivial⟩, hs.pick (.c .z (.c .z .n))⟩) ?_)
     rintro s2869 next2870 hd c w hst
     obtain ⟨I2871, hl2872, hok, hsym⟩ := hst
     have le2873 := IH.le.trans hl2669 hl2872
     replace R3 := R3.mono hl2872
     refine Cod.at hok hsym (.seq (.seq (.ownF .z fun hne2874 => ?_)))
     refine .ownF (.s .z) fun hne2875 => ?_
     refine .dr [0, 1, 2, 3, 4, 5, 6, 7, 8, 9, 10, 11, 12, 13, 14] 15 (.fk 2 r (.g r r r (fun _ => .len un136 r r r r .mk) (.fk 2 r ?_)))
     refine splitP hd (fun hb2876 hd => ?_) fun hb2876 hd => ?_
     · refine .g r r r (fun _ => .gyes r r hb2876 (.move r r r .mk)) (.g r r r (fun _ => .gyes r r hb2876 (.move r r r .mk)) ?_)
       obtain ⟨h2877, x2878, hx2879, hd⟩ := hd
       obtain ⟨b2880, e2881⟩ := hne2874 (idx_ne hx2879)
       cases e2881
       refine .g r r r (fun _ => .gyes r r hb2876 (.ixa0 un136 sz138 r r h2877 (idx_lt hx2879 h2877) r r .mk)) (.g r r r (fun _ => .gyes r r hb2876 (.loA (j := 0) isAgg138 sz138 .z hx2879 r r (.t (.t (.t .nil))) r r r .mk)) (.g r r r (fun _ => .gyes r r hb2876 (.move r r r .mk)) (.g r r r (fun _ => .gyes r r hb2876 (.move r r r .mk)) ?_)))
       obtain ⟨h2882, x2883, hx2884, hd⟩ := hd
       obtain ⟨b2885, o2886, cs2887, e2888, hC2889, hr2890⟩ := R3.2 _ _ hx2884
       cases hr2890
       refine .g r r r (fun _ => .gyes r r hb2876 (.ixa un136 sz138 r e2888 r h2882 (idx_lt hx2884 h2882) r r .mk)) (.g r r r (fun _ => .gyes r r hb2876 (.ldW isAgg138 sz138 hC2889 r r r r .mk)) (.ww r fun ex => ?_))
       have hw2892 := W_ref05_below (I := I2871) hd
       refine .gyes r r hb2876 (.callP call126 r hw2892 r r fun v2893 hv2894 => ?_)
       obtain ⟨r2891, rfl, hd⟩ := hv2894
       refine .so 2 r r r trivial (.g r r r (fun _ => .pickT r hb2876 r r r .mk) (.e2 15 (.nilS [38, 9, 8, 7, 6, 1, 0] r r (.condP r hd (fun hb2895 hd => ?_) fun hb2895 hd => ?_))))
       · exact .skipS [9, 8, 7, 6, 1, 0] r r (.block (.region (.ks 3 r (.nil' fun c w ho hs => ⟨(w64 (s2869 + 1)), hd, I2871, hl2872, ho.sub ⟨r, r, r, r, r, r, trivial⟩, hs.pick (.c .z (.c .z .n))⟩))))
       exact .exit fun c w ho hs => ⟨s2869, hd, I2871, hl2872, ho.sub ⟨r, r, r, r, r, r, trivial⟩, hs.pick (.c .z (.c .z .n))⟩
     refine .g r r r (fun _ => .gno r r hb2876 r r .mk) (.g r r r (fun _ => .gno r r hb2876 r r .mk) (.g r r r (fun _ => .gno r r hb2876 r r .mk) (.g r r r (fun _ => .gno r r hb2876 r r .mk) (.g r r r (fun _ => .gno r r hb2876 r r .mk) (.g r r r (fun _ => .gno r r hb2876 r r .mk) (.g r r r (fun _ => .gno r r hb2876 r r .mk) (.g r r r (fun _ => .gno r r hb2876 r r .mk) (.g r r r (fun _ => .gno r r hb2876 r r .mk) (.g r r r (fun _ => .pickF r hb2876 r r r .mk) ?_)))))))))
     exact .e2 15 (.nilS [38, 9, 8, 7, 6, 1, 0] r r (.condKF r r (.exit fun c w ho hs => ⟨s2869, hd, I2871, hl2872, ho.sub ⟨r, r, r, r, r, r, trivial⟩, hs.pick (.c .z (.c .z .n))⟩)))
   rintro s2820 hd c w hst
   obtain ⟨I2896, hl2897, hok, hsym⟩ := hst
   have le2898 := IH.le.trans hl2669 hl2897
   replace R3 := R3.mono hl2897
   refine Cod.at hok hsym (.sr (.ks 2 r ?_))
   obtain ⟨h2914, x2915, hx2916, hd⟩ := hd
   obtain ⟨b2917, o2918, cs2919, e2920, hC2921, hr2922⟩ := R3.2 _ _ hx2916
   cases hr2922
   refine .ixa un136 sz138 r e2920 r h2914 (idx_lt hx2916 h2914) r r (.fa un138 r sz2 r (o := o2918 + s2664.toNat * 3 + 2) r r r (.ld1 (j := 2) ia2 hC2921 r r r r r ?_))
   have hw2924 := W_ref01_Of (I := I2896) hd
   refine .callP call48 r hw2924 r r fun v2925 hv2926 => ?_
   obtain ⟨r2923, rfl, hd⟩ := hv2926
   refine .allocA zv57 r r fun b2927 => ?_
   refine .storeA sz57 r r .z (.t (.t .nil)) r r (.nilS [10, 9, 8, 7, 6, 1, 0] r r (.seq (.seq ?_)))
   refine Cod.joinQ (σ := Bool) hd (fun (s3055 : Bool) c w => ∃ I_, IH.le I2896 I_ ∧ Ok ⟨145, [], none⟩ [(0, .int .i64 a0), (1, .slice p1 a1.length c2), (6, .slice p2657 s2656.length c2658), (7, .slice p2661 s2660.length c2662), (8, .int .i64 s2664), (9, .int .i64 s2820), (10, .pointer (some ⟨b2927, 0, none⟩)), (62, .bool s3055)] c ∧ Sym w0 M I I_ [OwnSl eEdge 138 p2657 c2658 s2656, OwnSl eWide 57 p2661 c2662 s2660, pto b2927 (.cells #[.int .i64 r2923.Hi, .int .u64 r2923.Lo] 57 (0, 0))] w) (fun k3056 hd => ?_) ?_
   · skip
     refine .ownF (.s .z) fun hne3057 => ?_
     refine .ownF (.s (.s .z)) fun hne3058 => ?_
     refine .dr [0, 1, 2, 3, 4, 5, 6, 7, 8, 9, 10, 11, 12, 13, 14, 15] 16 (.fk 2 r (.g r r r (fun _ => .len un136 r r r r .mk) (.fk 2 r ?_)))
     refine splitP hd (fun hb3059 hd => ?_) fun hb3059 hd => ?_
     · refine .g r r r (fun _ => .gyes r r hb3059 (.move r r r .mk)) (.g r r r (fun _ => .gyes r r hb3059 (.move r r r .mk)) ?_)
       obtain ⟨h3060, x3061, hx3062, hd⟩ := hd
       obtain ⟨b3063, o3064, cs3065, e3066, hC3067, hr3068⟩ := R3.2 _ _ hx3062
       cases hr3068
       refine .g r r r (fun _ => .gyes r r hb3059 (.ixa un136 sz138 r e3066 r h3060 (idx_lt hx3062 h3060) r r .mk)) (.g r r r (fun _ => .gyes r r hb3059 (.ldW isAgg138 sz138 hC3067 r r r r .mk)) (.g r r r (fun _ => .gyes r r hb3059 (.move r r r .mk)) (.g r r r (fun _ => .gyes r r hb3059 (.move r r r .mk)) ?_)))
       obtain ⟨h3069, x3070, hx3071, hd⟩ := hd
       obtain ⟨b3072, e3073⟩ := hne3057 (idx_ne hx3071)
       cases e3073
       refine .g r r r (fun _ => .gyes r r hb3059 (.ixa0 un136 sz138 r r h3069 (idx_lt hx3071 h3069) r r .mk)) (.g r r r (fun _ => .gyes r r hb3059 (.loA (j := 0) isAgg138 sz138 (.s .z) hx3071 r r (.t (.t (.t .nil))) r r r .mk)) (.ww r fun ex => ?_))
       have hw3075 := W_ref05_below (I := I2896) hd
       refine .gyes r r hb3059 (.callP call126 r hw3075 r r fun v3076 hv3077 => ?_)
       obtain ⟨r3074, rfl, hd⟩ := hv3077
       exact .so 3 r r r trivial (.g r r r (fun _ => .gyes r r hb3059 (.not r r r .mk)) (.g r r r (fun _ => .pickT r hb3059 r r r .mk) (.e2 16 (.nil' fun c w ho hs => ⟨(!r3074), hd, I2896, (.refl _), ho.sub ⟨r, r, r, r, r, r, r, r, trivial⟩, hs.pick (.c (.s .z) (.c (.s .z) (.c .z .n)))⟩))))
     refine .g r r r (fun _ => .gno r r hb3059 r r .mk) (.g r r r (fun _ => .gno r r hb3059 r r .mk) (.g r r r (fun _ => .gno r r hb3059 r r .mk) (.g r r r (fun _ => .gno r r hb3059 r r .mk) (.g r r r (fun _ => .gno r r hb3059 r r .mk) (.g r r r (fun _ => .gno r r hb3059 r r .mk) (.g r r r (fun _ => .gno r r hb3059 r r .mk) (.g r r r (fun _ => .gno r r hb3059 r r .mk) (.g r r r (fun _ => .gno r r hb3059 r r .mk) (.g r r r (fun _ => .gno r r hb3059 r r .mk) ?_)))))))))
     exact .g r r r (fun _ => .pickF r hb3059 r r r .mk) (.e2 16 (.nil' fun c w ho hs => ⟨false, hd, I2896, (.refl _), ho.sub ⟨r, r, r, r, r, r, r, r, trivial⟩, hs.pick (.c (.s .z) (.c (.s .z) (.c .z .n)))⟩))
   rintro s3055 hd c w hst
   obtain ⟨I3078, hl3079, hok, hsym⟩ := hst
   have le3080 := IH.le.trans le2898 hl3079
   have le3081 := IH.le.trans hl2897 hl3079
   replace R3 := R3.mono hl3079
   refine Cod.at hok hsym (.condP r hd (fun hb3082 hd => ?_) fun hb3082 hd => ?_)
   · refine .seq (.ownF .z fun hne3083 => ?_)
     refine .ownF (.s .z) fun hne3084 => ?_
     refine .dr [0, 1, 2, 3, 4, 5, 6, 7, 8] 9 (.fk 5 r ?_)
     obtain ⟨h3085, x3086, hx3087, hd⟩ := hd
     obtain ⟨b3088, e3089⟩ := hne3084 (idx_ne hx3087)
     cases e3089
     refine .g r r r (fun _ => .ixa0 un169 sz57 r r h3085 (idx_lt hx3087 h3085) r r .mk) (.g r r r (fun _ => .loA (j := 0) ia57 sz57 (.s .z) hx3087 r r (.t (.t .nil)) r r r .mk) (.g r r r (fun _ => .loadW ia57 sz57 r (.s (.s .z)) r r r .mk) (.ww r fun ex => ?_)))
     have hw3091 := W_ref02_Add (I := I3078) hd
     refine .callP call42 r hw3091 r r fun v3092 hv3093 => ?_
     obtain ⟨r3090, rfl, hd⟩ := hv3093
     refine .so 3 r r r (.ck 2 r r trivial) (.e2 9 ?_)
     obtain ⟨h3094, x3095, hx3096, hd⟩ := hd
     exact .ixa0 un169 sz57 r r h3094 (idx_lt hx3096 h3094) r r (.stOA (j := 0) (v' := r3090) sz57 (.s .z) hx3096 r r r (.t (.t .nil)) r r (.sub (E' := [(0, _), (1, _), (6, _), (7, .slice (some ⟨b3088, 0, none⟩) (s2660.set s2820.toNat r3090).length c2662), (8, _), (9, _), (10, _), (62, _), (63, .slice (some ⟨b3088, 0, none⟩) (s2660.set s2820.toNat r3090).length c2662), (64, _), (65, _), (66, .slice (some ⟨b3088, 0, none⟩) (s2660.set s2820.toNat r3090).length c2662), (67, _), (68, _), (69, _), (70, _), (71, _), (72, _)]) ⟨r, r, r, (by simp only [List.length_set]; rfl), r, r, r, r, (by simp only [List.length_set]; rfl), r, r, (by simp only [List.length_set]; rfl), r, r, r, r, r, r, trivial⟩ (.nilS [8, 7, 6, 1, 0] r r (.drop (.s (.s .z)) (.exitS [8, 7, 6, 1, 0] r r (.region (.ks 3 r (.nil' fun c w ho hs => ⟨(s2656, (s2660.set s2820.toNat r3090), w64 (s2664 + 1)), hd, I3078, _, _, _, _, le3080, ho.sub ⟨r, r, r, r, r, trivial⟩, hs.pick (.c .z (.c .z .n))⟩))))))))
   refine .skipS [10, 9, 8, 7, 6, 1, 0] r r (.sr (.ks 1 r (.build zeroValue138 un138 BI138 .n (by exact trivial) r r (.buildSlice 1 un136 sz138 zeroValue138 r r (.c r r r .n) r r fun b3103 => ?_))))
   obtain ⟨hl3105, hd⟩ := hd
   refine .append (ys := [({ From := 0, To := 0, W := 0 } : Edge)]) 24 (.s .z) un136 un136 IN138 r r r r r r r r r (.box .z (.one r) r) hl3105 r r fun p3106 c3107 => ?_
   refine .ks 1 r (.nilS [6, 10, 9, 8, 7, 1, 0] r r (.drop (.s .z) (.sr (.ks 1 r (.build zv57 un57 BI57 .n (by exact trivial) r r (.buildSlice 1 un169 sz57 zv57 r r (.c r r r .n) r r fun b3115 => ?_))))))
   obtain ⟨hl3117, hd⟩ := hd
   refine .append (ys := [({ Hi := 0, Lo := 0 } : Wide)]) 16 (.s (.s .z)) un169 un169 IN57 r r r r r r r r r (.box .z (.one r) r) hl3117 r r fun p3118 c3119 => ?_
   refine .ks 1 r (.nilS [7, 6, 10, 9, 8, 1, 0] r r (.drop (.s .z) (.seq (.sr (.ks 1 r (.len un136 r r r r (.ks 2 r (.nilS [11, 7, 6, 10, 9, 8, 1, 0] r r (.block ?_)))))))))
   refine .loop hd (fun (s : (List Edge) × (List Wide) × Int) c w => match s with | (s3280, s3284, s3288) => ∃ I_ p3281 c3282 p3285 c3286, IH.le I3078 I_ ∧ Ok ⟨145, [], none⟩ [(0, .int .i64 a0), (1, .slice p1 a1.length c2), (6, .slice p3281 s3280.length c3282), (7, .slice p3285 s3284.length c3286), (8, .int .i64 s2664), (9, .int .i64 s2820), (10, .pointer (some ⟨b2927, 0, none⟩)), (11, .int .i64 s3288)] c ∧ Sym w0 M I I_ [OwnSl eEdge 138 p3281 c3282 s3280, OwnSl eWide 57 p3285 c3286 s3284, pto b2927 (.cells #[.int .i64 r2923.Hi, .int .u64 r2923.Lo] 57 (0, 0))] w) (fun c w ho hs => ⟨I3078, _, _, _, _, (.refl _), ho.sub ⟨r, r, r, r, r, r, r, r, trivial⟩, hs.pick (.c (.s .z) (.c .z (.c .z .n)))⟩) ?_
   rintro ⟨s3280, s3284, s3288⟩ next3289 hd c w hst
   obtain ⟨I3290, p3281, c3282, p3285, c3286, hl3291, hok, hsym⟩ := hst
   have le3292 := IH.le.trans le3080 hl3291
   have le3293 := IH.le.trans le3081 hl3291
   have le3294 := IH.le.trans hl3079 hl3291
   replace R3 := R3.mono hl3291
   refine Cod.at hok hsym (.seq (.sr (.ks 3 r (.nilS [86, 11, 10, 9, 8, 7, 6, 1, 0] r r (.condP r hd (fun hb3296 hd => ?_) fun hb3296 hd => ?_)))))
   · refine .skipS [11, 10, 9, 8, 7, 6, 1, 0] r r (.seq (.block (.sr (.ks 5 r ?_))))
     obtain ⟨h3297, x3298, hx3299, hd⟩ := hd
     refine .ownNe .z (idx_ne hx3299) fun b3300 e3301 => ?_
     cases e3301
     refine .ixa0 un136 sz138 r r h3297 (idx_lt hx3299 h3297) r r (.loA (j := 0) isAgg138 sz138 .z hx3299 r r (.t (.t (.t .nil))) r r r ?_)
     obtain ⟨h3302, x3303, hx3304, hd⟩ := hd
     refine .ixa0 un136 sz138 r r h3302 (idx_lt hx3304 h3302) r r (.stOA (j := 0) (v' := x3298) sz138 .z hx3304 r r r (.t (.t (.t .nil))) r r (.sub (E' := [(0, _), (1, _), (6, .slice (some ⟨b3300, 0, none⟩) (s3280.set s3288.toNat x3298).length c3282), (7, _), (8, _), (9, _), (10, _), (11, _), (89, .slice (some ⟨b3300, 0, none⟩) (s3280.set s3288.toNat x3298).length c3282), (90, _), (91, .slice (some ⟨b3300, 0, none⟩) (s3280.set s3288.toNat x3298).length c3282), (92, _), (93, _), (94, _), (95, _), (96, _)]) ⟨r, r, (by simp only [List.length_set]; rfl), r, r, r, r, r, (by simp only [List.length_set]; rfl), r, (by simp only [List.length_set]; rfl), r, r, r, r, r, trivial⟩ (.nilS [11, 10, 9, 8, 7, 6, 1, 0] r r (.region (.ks 5 r ?_)))))
     obtain ⟨h3305, x3306, hx3307, hd⟩ := hd
     refine .ownNe (.s .z) (idx_ne hx3307) fun b3308 e3309 => ?_
     cases e3309
     refine .ixa0 un169 sz57 r r h3305 (idx_lt hx3307 h3305) r r (.loA (j := 0) ia57 sz57 (.s .z) hx3307 r r (.t (.t .nil)) r r r ?_)
     obtain ⟨h3310, x3311, hx3312, hd⟩ := hd
     exact .ixa0 un169 sz57 r r h3310 (idx_lt hx3312 h3310) r r (.stOA (j := 0) (v' := x3306) sz57 (.s .z) hx3312 r r r (.t (.t .nil)) r r (.sub (E' := [(0, _), (1, _), (6, _), (7, .slice (some ⟨b3308, 0, none⟩) (s3284.set s3288.toNat x3306).length c3286), (8, _), (9, _), (10, _), (11, _), (97, .slice (some ⟨b3308, 0, none⟩) (s3284.set s3288.toNat x3306).length c3286), (98, _), (99, .slice (some ⟨b3308, 0, none⟩) (s3284.set s3288.toNat x3306).length c3286), (100, _), (101, _), (102, _), (103, _), (104, _)]) ⟨r, r, r, (by simp only [List.length_set]; rfl), r, r, r, r, (by simp only [List.length_set]; rfl), r, (by simp only [List.length_set]; rfl), r, r, r, r, r, trivial⟩ (.nilS [11, 10, 9, 8, 7, 6, 1, 0] r r (.region (.ks 3 r (.nil' fun c w ho hs => ⟨((s3280.set s3288.toNat x3298), (s3284.set s3288.toNat x3306), w64 (s3288 - 1)), hd, I3290, _, _, _, _, hl3291, ho.sub ⟨r, r, r, r, r, r, r, r, trivial⟩, hs.pick (.c .z (.c .z (.c .z .n)))⟩))))))
   refine .exitS [10, 9, 8, 7, 6, 1, 0] r r (.seq (.ownF .z fun hne3313 => ?_))
   refine .ownF (.s .z) fun hne3314 => ?_
   refine .dr [0, 1, 2, 3, 4, 5, 6, 7, 8, 9, 10, 11, 12] 13 (.fk 4 r ?_)
   obtain ⟨h3315, x3316, hx3317, hd⟩ := hd
   obtain ⟨b3318, o3319, cs3320, e3321, hC3322, hr3323⟩ := R3.2 _ _ hx3317
   cases hr3323
   refine .g r r r (fun _ => .ixa un136 sz138 r e3321 r h3315 (idx_lt hx3317 h3315) r r .mk) (.g r r r (fun _ => .fa un138 r sz3 r (o := o3319 + s2664.toNat * 3) r r r .mk) (.g r r r (fun _ => .ld1 (j := 0) ia3 hC3322 r r r r r .mk) (.fk 2 r ?_)))
   obtain ⟨h3324, x3325, hx3326, hd⟩ := hd
   obtain ⟨b3327, o3328, cs3329, e3330, hC3331, hr3332⟩ := R3.2 _ _ hx3326
   cases hr3332
   refine .g r r r (fun _ => .ixa un136 sz138 r e3330 r h3324 (idx_lt hx3326 h3324) r r .mk) (.g r r r (fun _ => .fa un138 r sz3 r (o := o3328 + s2664.toNat * 3 + 1) r r r .mk) (.g r r r (fun _ => .ld1 (j := 1) ia3 hC3331 r r r r r .mk) (.g r r r (fun _ => .build zeroValue138 un138 BI138 (.c r r r (.t .nil) (.c r r r (.s (.t .nil)) .n)) (by exact ⟨⟨_, _, r, r, r⟩, ⟨⟨_, _, r, r, r⟩, trivial⟩⟩) r r .mk) (.e2 13 ?_))))
   obtain ⟨h3333, x3334, hx3335, hd⟩ := hd
   obtain ⟨b3336, e3337⟩ := hne3313 (idx_ne hx3335)
   cases e3337
   refine .ixa0 un136 sz138 r r h3333 (idx_lt hx3335 h3333) r r (.stOA (j := 0) (v' := ({ From := x3316.From, To := x3325.To, W := 0 } : Edge)) sz138 .z hx3335 r r r (.t (.t (.t .nil))) r r (.sub (E' := [(0, _), (1, _), (6, .slice (some ⟨b3336, 0, none⟩) (s3280.set s2820.toNat ({ From := x3316.From, To := x3325.To, W := 0 } : Edge)).length c3282), (7, _), (8, _), (9, _), (10, _), (105, .slice (some ⟨b3336, 0, none⟩) (s3280.set s2820.toNat ({ From := x3316.From, To := x3325.To, W := 0 } : Edge)).length c3282), (106, _), (107, _), (108, _), (109, _), (110, _), (111, _), (112, _), (113, _), (114, _), (115, _), (116, _), (117, _), (118, _)]) ⟨r, r, (by simp only [List.length_set]; rfl), r, r, r, r, (by simp only [List.length_set]; rfl), r, r, r, r, r, r, r, r, r, r, r, r, r, trivial⟩ (.nilS [10, 9, 8, 7, 6, 1, 0] r r (.region (.ks 2 r (.loadW ia57 sz57 r (.s (.s .z)) r r r ?_))))))
   obtain ⟨h3338, x3339, hx3340, hd⟩ := hd
   obtain ⟨b3341, e3342⟩ := hne3314 (idx_ne hx3340)
   cases e3342
   exact .ixa0 un169 sz57 r r h3338 (idx_lt hx3340 h3338) r r (.stOA (j := 0) (v' := r2923) sz57 (.s .z) hx3340 r r r (.t (.t .nil)) r r (.sub (E' := [(0, _), (1, _), (6, _), (7, .slice (some ⟨b3341, 0, none⟩) (s3284.set s2820.toNat r2923).length c3286), (8, _), (9, _), (10, _), (119, .slice (some ⟨b3341, 0, none⟩) (s3284.set s2820.toNat r2923).length c3286), (120, _), (121, _), (122, _)]) ⟨r, r, r, (by simp only [List.length_set]; rfl), r, r, r, (by simp only [List.length_set]; rfl), r, r, r, trivial⟩ (.nilS [8, 7, 6, 1, 0] r r (.drop (.s (.s .z)) (.region (.ks 3 r (.nil' fun c w ho hs => ⟨((s3280.set s2820.toNat ({ From := x3316.From, To := x3325.To, W := 0 } : Edge)), (s3284.set s2820.toNat r2923), w64 (s2664 + 1)), hd, I3290, _, _, _, _, le3292, ho.sub ⟨r, r, r, r, r, trivial⟩, hs.pick (.c .z (.c .z .n))⟩)))))))
 refine .exitS [7, 6] r r (.seq (.sr (.ks 1 r (.nilS [12, 7, 6] r r (.block (.loop hd (fun (s : (List Edge) × Int) c w => match s with | (s3410, s3414) => ∃ I_ p3411 c3412, IH.le I2668 I_ ∧ Ok ⟨145, [], none⟩ [(6, .slice p3411 s3410.length c3412), (7, .slice p2661 s2660.length c2662), (12, .int .i64 s3414)] c ∧ Sym w0 M I I_ [OwnSl eEdge 138 p3411 c3412 s3410, OwnSl eWide 57 p2661 c2662 s2660] w) (fun c w ho hs => ⟨I2668, _, _, (.refl _), ho.sub ⟨r, r, r, trivial⟩, hs.pick (.c .z (.c .z .n))⟩) ?_))))))
 rintro ⟨s3410, s3414⟩ next3415 hd c w hst
 obtain ⟨I3416, p3411, c3412, hl3417, hok, hsym⟩ := hst
 have le3418 := IH.le.trans hl2669 hl3417
 refine Cod.at hok hsym (.seq (.sr (.ks 2 r (.len un136 r r r r (.ks 1 r (.nilS [126, 12, 7, 6] r r (.condP r hd (fun hb3420 hd => ?_) fun hb3420 hd => ?_)))))))
 · refine .skipS [12, 7, 6] r r (.seq (.block (.sr (.ks 2 r ?_))))
   obtain ⟨h3430, x3431, hx3432, hd⟩ := hd
   refine .ownNe (.s .z) (idx_ne hx3432) fun b3433 e3434 => ?_
   cases e3434
   refine .ixa0 un169 sz57 r r h3430 (idx_lt hx3432 h3430) r r (.loA (j := 0) ia57 sz57 (.s .z) hx3432 r r (.t (.t .nil)) r r r ?_)
   have hw3436 := W_ref01_Narrow (I := I3416) hd
   refine .callP call50 r hw3436 r r fun v3437 hv3438 => ?_
   obtain ⟨r3435, rfl, hd⟩ := hv3438
   refine .ks 5 r (.nilS [14, 13, 12, 7, 6] r r (.seq (.sr (.ks 2 r (.nilS [138, 13, 12, 7, 6] r r (.condP r hd (fun hb3439 hd => ?_) fun hb3439 hd => ?_))))))
   · exact .sr (.ks 2 r (.nilS [5, 4] r r (.drop .z (.drop .z (.ret (pret results95 (.t r (.t r .n)) le3418 ⟨(([] : List Edge), 12), _, _, r, (.nil _ _ _), hd⟩))))))
   refine .skipS [13, 12, 7, 6] r r (.region (.ks 3 r ?_))
   obtain ⟨h3440, x3441, hx3442, hd⟩ := hd
   refine .ownNe .z (idx_ne hx3442) fun b3443 e3444 => ?_
   cases e3444
   exact .ixa0 un136 sz138 r r h3440 (idx_lt hx3442 h3440) r r (.fa un138 r sz2 r (o := s3414.toNat * 3 + 2) r r r (.stO1 (j := 2) (v' := ({ From := x3441.From, To := x3441.To, W := r3435.1 } : Edge)) sz2 .z hx3442 r r r (.s (.s (.t .nil))) r (.sub (E' := [(6, .slice (some ⟨b3443, 0, none⟩) (s3410.set s3414.toNat ({ From := x3441.From, To := x3441.To, W := r3435.1 } : Edge)).length c3412), (7, _), (12, _), (13, _), (139, .slice (some ⟨b3443, 0, none⟩) (s3410.set s3414.toNat ({ From := x3441.From, To := x3441.To, W := r3435.1 } : Edge)).length c3412), (140, _), (141, _), (142, _), (143, _)]) ⟨(by simp only [List.length_set]; rfl), r, r, r, (by simp only [List.length_set]; rfl), r, r, r, r, trivial⟩ (.nilS [12, 7, 6] r r (.region (.ks 3 r (.nil' fun c w ho hs => ⟨((s3410.set s3414.toNat ({ From := x3441.From, To := x3441.To, W := r3435.1 } : Edge)), w64 (s3414 + 1)), hd, I3416, _, _, hl3417, ho.sub ⟨r, r, r, trivial⟩, hs.pick (.c .z (.c .z .n))⟩)))))))
 refine .exitS [6] r r (.drop (.s .z) (.sr (.ks 3 r (.nilS [5, 4] r r (.pub .z fun I3445 hl3446 R3447 => ?_)))))
 have le3448 := IH.le.trans le3418 hl3446
 have le3449 := IH.le.trans hl3417 hl3446
 exact .ret (pret results95 (.t r (.t r .n)) le3448 ⟨(s3410, 0), _, _, r, R3447, hd⟩)

theorem W_ref07_Of {I : IH} {a0 : Int} {a1 : Int} {a2 : Int} {a3 : List Triple} {p1 : Option Addr} {c2 : Nat} {Q : (Rows × Int) → Prop} (R3 : RepSl eTriple I p1 c2 a3) (hd : ref07_Of a0 a1 a2 a3 Q) :
  PFun prog 51 [.int .i64 a0, .int .i64 a1, .int .i64 a2, .slice p1 a3.length c2] I (o6_ Q) := by
 refine Fun.enter func51 r ntmps51 r (.c (.c (.c (.c .n)))) fun w0 M => ?_
 refine .sr (.allocA zv30 r r fun b15 => ?_)
 refine .ks 1 r (.nilS [8, 3, 2, 1, 0] r r (.seq (.sr (.ks 1 r ?_))))
 have hw23 := W_ref02_Is (I := I) hd
 refine .callP call38 r hw23 r r fun v24 hv25 => ?_
 obtain ⟨r22, rfl, hd⟩ := hv25
 refine .ks 1 r (.nilS [17, 8, 3, 2, 1, 0] r r (.condP r hd (fun hb26 hd => ?_) fun hb26 hd => ?_))
 · exact .sr (.build zv30 un30 BI30 .n (by exact trivial) r r (.storeA sz30 r r .z (.t (.t (.t (.t (.t .nil))))) r r (.ks 1 r (.nilS [9, 8] r r (.ret (pret results51 (.w ia30 sz30 r .z r (.t r .n)) (.refl _) ⟨(({ Rows := 0, Cols := 0, Start := ([] : List Int), Col := ([] : List Int), Val := ([] : List Int) } : Rows), 8), _, _, _, _, _, _, r, (.nil _ _ _), (.nil _ _ _), (.nil _ _ _), hd⟩))))))
 refine .skipS [8, 3, 2, 1, 0] r r (.seq (.sr (.ks 3 r ?_)))
 refine splitP hd (fun hb31 hd => ?_) fun hb31 hd => ?_
 · rw [hb31]
   exact .ks 11 r (.nilS [32, 8, 3, 2, 1, 0] r r (.condKT r r (.sr (.build zv30 un30 BI30 .n (by exact trivial) r r (.storeA sz30 r r .z (.t (.t (.t (.t (.t .nil))))) r r (.ks 1 r (.nilS [9, 8] r r (.ret (pret results51 (.w ia30 sz30 r .z r (.t r .n)) (.refl _) ⟨(({ Rows := 0, Cols := 0, Start := ([] : List Int), Col := ([] : List Int), Val := ([] : List Int) } : Rows), 3), _, _, _, _, _, _, r, (.nil _ _ _), (.nil _ _ _), (.nil _ _ _), hd⟩)))))))))
 rw [hb31]
 refine .ks 4 r ?_
 refine splitP hd (fun hb32 hd => ?_) fun hb32 hd => ?_
 · rw [hb32]
   exact .ks 7 r (.nilS [32, 8, 3, 2, 1, 0] r r (.condKT r r (.sr (.build zv30 un30 BI30 .n (by exact trivial) r r (.storeA sz30 r r .z (.t (.t (.t (.t (.t .nil))))) r r (.ks 1 r (.nilS [9, 8] r r (.ret (pret results51 (.w ia30 sz30 r .z r (.t r .n)) (.refl _) ⟨(({ Rows := 0, Cols := 0, Start := ([] : List Int), Col := ([] : List Int), Val := ([] : List Int) } : Rows), 3), _, _, _, _, _, _, r, (.nil _ _ _), (.nil _ _ _), (.nil _ _ _), hd⟩)))))))))
 rw [hb32]
 refine .ks 4 r ?_
 refine splitP hd (fun hb33 hd => ?_) fun hb33 hd => ?_
 · rw [hb33]
   exact .ks 3 r (.nilS [32, 8, 3, 2, 1, 0] r r (.condKT r r (.sr (.build zv30 un30 BI30 .n (by exact trivial) r r (.storeA sz30 r r .z (.t (.t (.t (.t (.t .nil))))) r r (.ks 1 r (.nilS [9, 8] r r (.ret (pret results51 (.w ia30 sz30 r .z r (.t r .n)) (.refl _) ⟨(({ Rows := 0, Cols := 0, Start := ([] : List Int), Col := ([] : List Int), Val := ([] : List Int) } : Rows), 3), _, _, _, _, _, _, r, (.nil _ _ _), (.nil _ _ _), (.nil _ _ _), hd⟩)))))))))
 rw [hb33]
 refine .ks 3 r (.nilS [32, 8, 3, 2, 1, 0] r r (.condP r hd (fun hb34 hd => ?_) fun hb34 hd => ?_))
 · exact .sr (.build zv30 un30 BI30 .n (by exact trivial) r r (.storeA sz30 r r .z (.t (.t (.t (.t (.t .nil))))) r r (.ks 1 r (.nilS [9, 8] r r (.ret (pret results51 (.w ia30 sz30 r .z r (.t r .n)) (.refl _) ⟨(({ Rows := 0, Cols := 0, Start := ([] : List Int), Col := ([] : List Int), Val := ([] : List Int) } : Rows), 3), _, _, _, _, _, _, r, (.nil _ _ _), (.nil _ _ _), (.nil _ _ _), hd⟩))))))
 refine .skipS [8, 3, 2, 1, 0] r r (.seq (.sr (.ks 1 r (.len un24 r r r r (.ks 1 r (.nilS [36, 8, 3, 2, 1, 0] r r (.condP r hd (fun hb36 hd => ?_) fun hb36 hd => ?_)))))))
 · exact .sr (.build zv30 un30 BI30 .n (by exact trivial) r r (.storeA sz30 r r .z (.t (.t (.t (.t (.t .nil))))) r r (.ks 1 r (.nilS [9, 8] r r (.ret (pret results51 (.w ia30 sz30 r .z r (.t r .n)) (.refl _) ⟨(({ Rows := 0, Cols := 0, Start := ([] : List Int), Col := ([] : List Int), Val := ([] : List Int) } : Rows), 5), _, _, _, _, _, _, r, (.nil _ _ _), (.nil _ _ _), (.nil _ _ _), hd⟩))))))
 refine .skipS [8, 3, 2, 1, 0] r r (.sr (.ks 1 r (.nilS [10, 8, 3, 2, 1, 0] r r (.seq (.sr (.ks 1 r (.nilS [11, 10, 8, 3, 2, 1, 0] r r (.block (.own0 eEdge 138 ?_)))))))))
 refine .loop hd (fun (s : (List Edge) × Int) c w => match s with | (s656, s660) => ∃ I_ p657 c658, IH.le I I_ ∧ Ok ⟨135, [], none⟩ [(0, .int .i64 a0), (1, .int .i64 a1), (2, .int .i64 a2), (3, .slice p1 a3.length c2), (8, .pointer (some ⟨b15, 0, none⟩)), (10, .slice p657 s656.length c658), (11, .int .i64 s660)] c ∧ Sym w0 M I I_ [pto b15 (.cells #[.int .i64 0, .int .i64 0, .slice none 0 0, .slice none 0 0, .slice none 0 0] 30 (0, 0)), OwnSl eEdge 138 p657 c658 s656] w) (fun c w ho hs => ⟨I, _, _, (.refl _), ho.sub ⟨r, r, r, r, r, r, r, trivial⟩, hs.pick (.c (.s .z) (.c .z .n))⟩) ?_
 rintro ⟨s656, s660⟩ next662 hd c w hst
 obtain ⟨I663, p657, c658, hl664, hok, hsym⟩ := hst
 replace R3 := R3.mono hl664
 refine Cod.at hok hsym (.seq (.sr (.ks 2 r (.len un24 r r r r (.ks 1 r (.nilS [41, 11, 10, 8, 3, 2, 1, 0] r r (.condP r hd (fun hb666 hd => ?_) fun hb666 hd => ?_)))))))
 · refine .skipS [11, 10, 8, 3, 2, 1, 0] r r (.seq (.block (.seq (.sr (.ks 2 r ?_)))))
   obtain ⟨h707, x708, hx709, hd⟩ := hd
   obtain ⟨b710, o711, cs712, e713, hC714, hr715⟩ := R3.2 _ _ hx709
   cases hr715
   refine .ixa un24 sz91 r e713 r h707 (idx_lt hx709 h707) r r (.fa un91 r sz3 r (o := o711 + s660.toNat * 3) r r r (.ld1 (j := 0) ia3 hC714 r r r r r (.ks 2 r ?_)))
   refine splitP hd (fun hb716 hd => ?_) fun hb716 hd => ?_
   · rw [hb716]
     exact .ks 25 r (.nilS [75, 11, 10, 8, 3, 2, 1, 0] r r (.condKT r r (.sr (.build zv30 un30 BI30 .n (by exact trivial) r r (.storeA sz30 r r .z (.t (.t (.t (.t (.t .nil))))) r r (.ks 1 r (.nilS [9, 8] r r (.drop (.s .z) (.ret (pret results51 (.w ia30 sz30 r .z r (.t r .n)) hl664 ⟨(({ Rows := 0, Cols := 0, Start := ([] : List Int), Col := ([] : List Int), Val := ([] : List Int) } : Rows), 3), _, _, _, _, _, _, r, (.nil _ _ _), (.nil _ _ _), (.nil _ _ _), hd⟩))))))))))
   rw [hb716]
   refine .ks 2 r ?_
   obtain ⟨h717, x718, hx719, hd⟩ := hd
   obtain ⟨b720, o721, cs722, e723, hC724, hr725⟩ := R3.2 _ _ hx719
   cases hr725
   refine .gyes r r r (.ixa un24 sz91 r e723 r h717 (idx_lt hx719 h717) r r (.gyes r r r (.fa un91 r sz3 r (o := o721 + s660.toNat * 3) r r r (.gyes r r r (.ld1 (j := 0) ia3 hC724 r r r r r (.ks 4 r ?_))))))
   refine splitP hd (fun hb726 hd => ?_) fun hb726 hd => ?_
   · rw [hb726]
     exact .ks 16 r (.nilS [75, 11, 10, 8, 3, 2, 1, 0] r r (.condKT r r (.sr (.build zv30 un30 BI30 .n (by exact trivial) r r (.storeA sz30 r r .z (.t (.t (.t (.t (.t .nil))))) r r (.ks 1 r (.nilS [9, 8] r r (.drop (.s .z) (.ret (pret results51 (.w ia30 sz30 r .z r (.t r .n)) hl664 ⟨(({ Rows := 0, Cols := 0, Start := ([] : List Int), Col := ([] : List Int), Val := ([] : List Int) } : Rows), 3), _, _, _, _, _, _, r, (.nil _ _ _), (.nil _ _ _), (.nil _ _ _), hd⟩))))))))))
   rw [hb726]
   refine .ks 2 r ?_
   obtain ⟨h727, x728, hx729, hd⟩ := hd
   obtain ⟨b730, o731, cs732, e733, hC734, hr735⟩ := R3.2 _ _ hx729
   cases hr735
   refine .gyes r r r (.ixa un24 sz91 r e733 r h727 (idx_lt hx729 h727) r r (.gyes r r r (.fa un91 r sz3 r (o := o731 + s660.toNat * 3 + 1) r r r (.gyes r r r (.ld1 (j := 1) ia3 hC734 r r r r r (.ks 3 r ?_))))))
   refine splitP hd (fun hb736 hd => ?_) fun hb736 hd => ?_
   · rw [hb736]
     exact .ks 8 r (.nilS [75, 11, 10, 8, 3, 2, 1, 0] r r (.condKT r r (.sr (.build zv30 un30 BI30 .n (by exact trivial) r r (.storeA sz30 r r .z (.t (.t (.t (.t (.t .nil))))) r r (.ks 1 r (.nilS [9, 8] r r (.drop (.s .z) (.ret (pret results51 (.w ia30 sz30 r .z r (.t r .n)) hl664 ⟨(({ Rows := 0, Cols := 0, Start := ([] : List Int), Col := ([] : List Int), Val := ([] : List Int) } : Rows), 3), _, _, _, _, _, _, r, (.nil _ _ _), (.nil _ _ _), (.nil _ _ _), hd⟩))))))))))
   rw [hb736]
   refine .ks 2 r ?_
   obtain ⟨h737, x738, hx739, hd⟩ := hd
   obtain ⟨b740, o741, cs742, e743, hC744, hr745⟩ := R3.2 _ _ hx739
   cases hr745
   refine .gyes r r r (.ixa un24 sz91 r e743 r h737 (idx_lt hx739 h737) r r (.gyes r r r (.fa un91 r sz3 r (o := o741 + s660.toNat * 3 + 1) r r r (.gyes r r r (.ld1 (j := 1) ia3 hC744 r r r r r (.ks 3 r (.nilS [75, 11, 10, 8, 3, 2, 1, 0] r r (.condP r hd (fun hb746 hd => ?_) fun hb746 hd => ?_))))))))
   · exact .sr (.build zv30 un30 BI30 .n (by exact trivial) r r (.storeA sz30 r r .z (.t (.t (.t (.t (.t .nil))))) r r (.ks 1 r (.nilS [9, 8] r r (.drop (.s .z) (.ret (pret results51 (.w ia30 sz30 r .z r (.t r .n)) hl664 ⟨(({ Rows := 0, Cols := 0, Start := ([] : List Int), Col := ([] : List Int), Val := ([] : List Int) } : Rows), 3), _, _, _, _, _, _, r, (.nil _ _ _), (.nil _ _ _), (.nil _ _ _), hd⟩)))))))
   refine .skipS [11, 10, 8, 3, 2, 1, 0] r r (.ownF (.s .z) fun hne747 => ?_)
   refine .dr [0, 1, 2, 3, 4, 5, 6, 7, 8, 9, 10, 11, 12, 13, 14, 15, 16, 17, 18] 19 (.fk 3 r ?_)
   obtain ⟨h748, x749, hx750, hd⟩ := hd
   obtain ⟨b751, o752, cs753, e754, hC755, hr756⟩ := R3.2 _ _ hx750
   cases hr756
   refine .g r r r (fun _ => .ixa un24 sz91 r e754 r h748 (idx_lt hx750 h748) r r .mk) (.g r r r (fun _ => .fa un91 r sz3 r (o := o752 + s660.toNat * 3) r r r .mk) (.g r r r (fun _ => .ld1 (j := 0) ia3 hC755 r r r r r .mk) (.fk 2 r ?_)))
   obtain ⟨h757, x758, hx759, hd⟩ := hd
   obtain ⟨b760, o761, cs762, e763, hC764, hr765⟩ := R3.2 _ _ hx759
   cases hr765
   refine .g r r r (fun _ => .ixa un24 sz91 r e763 r h757 (idx_lt hx759 h757) r r .mk) (.g r r r (fun _ => .fa un91 r sz3 r (o := o761 + s660.toNat * 3 + 1) r r r .mk) (.g r r r (fun _ => .ld1 (j := 1) ia3 hC764 r r r r r .mk) (.fk 2 r ?_)))
   obtain ⟨h766, x767, hx768, hd⟩ := hd
   obtain ⟨b769, o770, cs771, e772, hC773, hr774⟩ := R3.2 _ _ hx768
   cases hr774
   refine .g r r r (fun _ => .ixa un24 sz91 r e772 r h766 (idx_lt hx768 h766) r r .mk) (.g r r r (fun _ => .fa un91 r sz2 r (o := o770 + s660.toNat * 3 + 2) r r r .mk) (.g r r r (fun _ => .ld1 (j := 2) ia2 hC773 r r r r r .mk) (.g r r r (fun _ => .build zeroValue138 un138 BI138 (.c r r r (.t .nil) (.c r r r (.s (.t .nil)) (.c r r r (.s (.s (.t .nil))) .n))) (by exact ⟨⟨_, _, r, r, r⟩, ⟨⟨_, _, r, r, r⟩, ⟨⟨_, _, r, r, r⟩, trivial⟩⟩⟩) r r .mk) (.ww r fun ex => ?_))))
   refine .buildSlice 1 un136 sz138 zeroValue138 r r (.c r r r .n) r r fun b775 => ?_
   refine .so 3 r r r (.ck 1 r r trivial) (.ww r fun ex => ?_)
   obtain ⟨hl777, hd⟩ := hd
   refine .append (ys := [({ From := x749.Row, To := x758.Col, W := x767.Val } : Edge)]) 24 (.s (.s .z)) un136 un136 IN138 r r r r r r r r r (.box .z (.one r) r) hl777 r r fun p778 c779 => ?_
   exact .so 3 r r r trivial (.e2 19 (.ks 1 r (.nilS [10, 11, 8, 3, 2, 1, 0] r r (.drop (.s .z) (.region (.ks 3 r (.nil' fun c w ho hs => ⟨((s656 ++ ([({ From := x749.Row, To := x758.Col, W := x767.Val } : Edge)])), w64 (s660 + 1)), hd, I663, _, _, hl664, ho.sub ⟨r, r, r, r, r, r, r, trivial⟩, hs.pick (.c (.s .z) (.c .z .n))⟩)))))))
 refine .exitS [10, 8, 2, 1, 0] r r (.sr (.ks 2 r (.pub (.s .z) fun I796 hl797 R798 => ?_)))
 have le799 := IH.le.trans hl664 hl797
 have hw809 := W_ref05_Combine (I := I796) R798 hd
 refine .call call95 r hw809 r r fun v804 I801 hl802 hv803 => ?_
 obtain ⟨r800, p806, c807, rfl, R808, hd⟩ := hv803
 have le810 := IH.le.trans le799 hl802
 replace R798 := R798.mono hl802
 refine .ks 5 r (.nilS [12, 10, 8, 2, 1] r r (.seq (.sr (.ks 2 r (.nilS [103, 12, 10, 8, 2, 1] r r (.condP r hd (fun hb812 hd => ?_) fun hb812 hd => ?_))))))
 · exact .sr (.build zv30 un30 BI30 .n (by exact trivial) r r (.ks 1 r (.storeA sz30 r r .z (.t (.t (.t (.t (.t .nil))))) r r (.ks 1 r (.nilS [9, 8] r r (.ret (pret results51 (.w ia30 sz30 r .z r (.t r .n)) le810 ⟨(({ Rows := 0, Cols := 0, Start := ([] : List Int), Col := ([] : List Int), Val := ([] : List Int) } : Rows), r800.2), _, _, _, _, _, _, r, (.nil _ _ _), (.nil _ _ _), (.nil _ _ _), hd⟩)))))))
 refine .skipS [10, 8, 2, 1] r r (.sr (.ks 1 r (.nilS [13, 10, 8, 2, 1] r r (.seq (.sr (.ks 1 r (.nilS [14, 13, 10, 8, 2, 1] r r (.block (.own0 eTriple 91 ?_)))))))))
 refine .loop hd (fun (s : (List Triple) × Int) c w => match s with | (s900, s904) => ∃ I_ p901 c902, IH.le I801 I_ ∧ Ok ⟨135, [], none⟩ [(1, .int .i64 a1), (2, .int .i64 a2), (8, .pointer (some ⟨b15, 0, none⟩)), (10, .slice p806 r800.1.length c807), (13, .slice p901 s900.length c902), (14, .int .i64 s904)] c ∧ Sym w0 M I I_ [pto b15 (.cells #[.int .i64 0, .int .i64 0, .slice none 0 0, .slice none 0 0, .slice none 0 0] 30 (0, 0)), OwnSl eTriple 91 p901 c902 s900] w) (fun c w ho hs => ⟨I801, _, _, (.refl _), ho.sub ⟨r, r, r, r, r, r, trivial⟩, hs.pick (.c (.s .z) (.c .z .n))⟩) ?_
 rintro ⟨s900, s904⟩ next906 hd c w hst
 obtain ⟨I907, p901, c902, hl908, hok, hsym⟩ := hst
 have le909 := IH.le.trans le810 hl908
 replace R808 := R808.mono hl908
 refine Cod.at hok hsym (.seq (.sr (.ks 2 r (.len un136 r r r r (.ks 1 r (.nilS [109, 14, 13, 10, 8, 2, 1] r r (.condP r hd (fun hb911 hd => ?_) fun hb911 hd => ?_)))))))
 · refine .skipS [14, 13, 10, 8, 2, 1] r r (.seq (.block (.ownF (.s .z) fun hne912 => ?_)))
   refine .dr [0, 1, 2, 3, 4, 5, 6, 7, 8, 9, 10, 11, 12, 13, 14, 15, 16, 17, 18] 19 (.fk 3 r ?_)
   obtain ⟨h913, x914, hx915, hd⟩ := hd
   obtain ⟨b916, o917, cs918, e919, hC920, hr921⟩ := R808.2 _ _ hx915
   cases hr921
   refine .g r r r (fun _ => .ixa un136 sz138 r e919 r h913 (idx_lt hx915 h913) r r .mk) (.g r r r (fun _ => .fa un138 r sz3 r (o := o917 + s904.toNat * 3) r r r .mk) (.g r r r (fun _ => .ld1 (j := 0) ia3 hC920 r r r r r .mk) (.fk 2 r ?_)))
   obtain ⟨h922, x923, hx924, hd⟩ := hd
   obtain ⟨b925, o926, cs927, e928, hC929, hr930⟩ := R808.2 _ _ hx924
   cases hr930
   refine .g r r r (fun _ => .ixa un136 sz138 r e928 r h922 (idx_lt hx924 h922) r r .mk) (.g r r r (fun _ => .fa un138 r sz3 r (o := o926 + s904.toNat * 3 + 1) r r r .mk) (.g r r r (fun _ => .ld1 (j := 1) ia3 hC929 r r r r r .mk) (.fk 2 r ?_)))
   obtain ⟨h931, x932, hx933, hd⟩ := hd
   obtain ⟨b934, o935, cs936, e937, hC938, hr939⟩ := R808.2 _ _ hx933
   cases hr939
   refine .g r r r (fun _ => .ixa un136 sz138 r e937 r h931 (idx_lt hx933 h931) r r .mk) (.g r r r (fun _ => .fa un138 r sz2 r (o := o935 + s904.toNat * 3 + 2) r r r .mk) (.g r r r (fun _ => .ld1 (j := 2) ia2 hC938 r r r r r .mk) (.g r r r (fun _ => .build zv91 un91 BI91 (.c r r r (.t .nil) (.c r r r (.s (.t .nil)) (.c r r r (.s (.s (.t .nil))) .n))) (by exact ⟨⟨_, _, r, r, r⟩, ⟨⟨_, _, r, r, r⟩, ⟨⟨_, _, r, r, r⟩, trivial⟩⟩⟩) r r .mk) (.ww r fun ex => ?_))))
   refine .buildSlice 1 un24 sz91 zv91 r r (.c r r r .n) r r fun b940 => ?_
   refine .so 3 r r r (.ck 1 r r trivial) (.ww r fun ex => ?_)
   obtain ⟨hl942, hd⟩ := hd
   refine .append (ys := [({ Row := x914.From, Col := x923.To, Val := x932.W } : Triple)]) 24 (.s (.s .z)) un24 un24 IN91 r r r r r r r r r (.box .z (.one r) r) hl942 r r fun p943 c944 => ?_
   exact .so 3 r r r trivial (.e2 19 (.ks 1 r (.nilS [13, 14, 10, 8, 2, 1] r r (.drop (.s .z) (.region (.ks 3 r (.nil' fun c w ho hs => ⟨((s900 ++ ([({ Row := x914.From, Col := x923.To, Val := x932.W } : Triple)])), w64 (s904 + 1)), hd, I907, _, _, hl908, ho.sub ⟨r, r, r, r, r, r, trivial⟩, hs.pick (.c (.s .z) (.c .z .n))⟩)))))))
 refine .exitS [13, 8, 2, 1] r r (.sr (.ks 3 r (.pub (.s .z) fun I946 hl947 R948 => ?_)))
 have le949 := IH.le.trans le909 hl947
 have le950 := IH.le.trans hl908 hl947
 have hw966 := W_ref07_built (I := I946) R948 hd
 refine .call call72 r hw966 r r fun v955 I952 hl953 hv954 => ?_
 obtain ⟨r951, p957, c958, p960, c961, p963, c964, rfl, R959, R962, R965, hd⟩ := hv954
 have le967 := IH.le.trans le949 hl953
 have le968 := IH.le.trans le950 hl953
 replace R948 := R948.mono hl953
 exact .storeA sz30 r r .z (.t (.t (.t (.t (.t .nil))))) r r (.ks 1 r (.nilS [9, 8] r r (.ret (pret results51 (.w ia30 sz30 r .z r (.t r .n)) le967 ⟨(r951, 0), _, _, _, _, _, _, r, R959, R962, R965, hd⟩))))

theorem W_csr_within {I : IH} {a0 : Int} {a1 : Int} {Q : Bool → Prop}  (hd : csr_within a0 a1 Q) :
  PFun prog 102 [.int .i64 a0, .int .i64 a1] I (fun _ => o1_ Q) := by
 refine Fun.enter func102 r ntmps102 r (.c (.c .n)) fun w0 M => ?_
 refine .sr (.ks 1 r (.nilS [1, 0] r r (.sr (.ks 3 r ?_))))
 refine splitP hd (fun hb1 hd => ?_) fun hb1 hd => ?_
 · rw [hb1]
   exact .ks 5 r (.nilS [4] r r (.ret (pret results102 (.t r .n) (.refl _) ⟨(decide (a0 ≤ a1)), r, hd⟩)))
 rw [hb1]
 exact .ks 5 r (.nilS [4] r r (.ret (pret results102 (.t r .n) (.refl _) ⟨false, r, hd⟩)))

theorem W_cmp_isNaN_int {I : IH} {a0 : Int} {Q : Bool → Prop}  (hd : cmp_isNaN_int a0 Q) :
  PFun prog 129 [.int .i64 a0] I (fun _ => o1_ Q) := by
 refine Fun.enter func129 r ntmps129 r (.c .n) fun w0 M => ?_
 exact .sr (.ks 1 r (.nilS [0] r r (.sr (.ks 4 r (.nilS [2] r r (.ret (pret results129 (.t r .n) (.refl _) ⟨(a0 != a0), r, hd⟩)))))))

theorem W_cmp_Less_int {I : IH} {a0 : Int} {a1 : Int} {Q : Bool → Prop}  (hd : cmp_Less_int a0 a1 Q) :
  PFun prog 149 [.int .i64 a0, .int .i64 a1] I (fun _ => o1_ Q) := by
 refine Fun.enter func149 r ntmps149 r (.c (.c .n)) fun w0 M => ?_
 refine .sr (.ks 1 r (.nilS [1, 0] r r (.sr (.ks 1 r ?_))))
 have hw2 := W_cmp_isNaN_int (I := I) hd
 refine .callP call129 r hw2 r r fun v3 hv4 => ?_
 obtain ⟨r1, rfl, hd⟩ := hv4
 refine .ks 1 r ?_
 refine splitP hd (fun hb5 hd => ?_) fun hb5 hd => ?_
 · rw [hb5]
   refine .ks 1 r ?_
   have hw7 := W_cmp_isNaN_int (I := I) hd
   refine .gyes r r r (.callP call129 r hw7 r r fun v8 hv9 => ?_)
   obtain ⟨r6, rfl, hd⟩ := hv9
   refine .ks 3 r ?_
   refine splitP hd (fun hb10 hd => ?_) fun hb10 hd => ?_
   · rw [hb10]
     exact .ks 5 r (.nilS [4] r r (.ret (pret results149 (.t r .n) (.refl _) ⟨true, r, hd⟩)))
   rw [hb10]
   exact .ks 5 r (.nilS [4] r r (.ret (pret results149 (.t r .n) (.refl _) ⟨(decide (a0 < a1)), r, hd⟩)))
 rw [hb5]
 exact .ks 10 r (.nilS [4] r r (.ret (pret results149 (.t r .n) (.refl _) ⟨(decide (a0 < a1)), r, hd⟩)))

theorem W_slices_IsSorted_int_int {I : IH} {a0 : List Int} {p1 : Option Addr} {c2 : Nat} {Q : Bool → Prop} (R3 : RepSl eI64 I p1 c2 a0) (hd : slices_IsSorted_int_int a0 Q) :
  PFun prog 120 [.slice p1 a0.length c2] I (fun _ => o1_ Q) := by
 refine Fun.enter func120 r ntmps120 r (.c .n) fun w0 M => ?_
 refine .sr (.ks 1 r (.nilS [0] r r (.seq (.sr (.ks 1 r (.len un27 r r r r (.ks 2 r (.nilS [3, 0] r r (.block ?_)))))))))
 refine .loop hd (fun (s57 : Int) c w => ∃ I_, IH.le I I_ ∧ Ok ⟨21, [], none⟩ [(0, .slice p1 a0.length c2), (3, .int .i64 s57)] c ∧ Sym w0 M I I_ [] w) (fun c w ho hs => ⟨I, (.refl _), ho.sub ⟨r, r, trivial⟩, hs.pick .n⟩) ?_
 rintro s57 next58 hd c w hst
 obtain ⟨I59, hl60, hok, hsym⟩ := hst
 replace R3 := R3.mono hl60
 refine Cod.at hok hsym (.seq (.sr (.ks 2 r (.nilS [8, 3, 0] r r (.condP r hd (fun hb62 hd => ?_) fun hb62 hd => ?_)))))
 · refine .skipS [3, 0] r r (.seq (.block (.seq (.dr [0, 1, 2, 3, 4, 5, 6, 7, 8, 9] 10 (.fk 2 r ?_)))))
   obtain ⟨h63, x64, hx65, hd⟩ := hd
   obtain ⟨b66, o67, cs68, e69, hC70, hr71⟩ := R3.2 _ _ hx65
   cases hr71
   refine .g r r r (fun _ => .ixa un27 sz3 r e69 r h63 (idx_lt hx65 h63) r r .mk) (.g r r r (fun _ => .ld1 (j := 0) ia3 hC70 r r r r r .mk) (.fk 3 r ?_))
   obtain ⟨h72, x73, hx74, hd⟩ := hd
   obtain ⟨b75, o76, cs77, e78, hC79, hr80⟩ := R3.2 _ _ hx74
   cases hr80
   refine .g r r r (fun _ => .ixa un27 sz3 r e78 r h72 (idx_lt hx74 h72) r r .mk) (.g r r r (fun _ => .ld1 (j := 0) ia3 hC79 r r r r r .mk) (.ww r fun ex => ?_))
   have hw82 := W_cmp_Less_int (I := I59) hd
   refine .callP call149 r hw82 r r fun v83 hv84 => ?_
   obtain ⟨r81, rfl, hd⟩ := hv84
   refine .so 0 r r r trivial (.e2 10 (.nilS [20, 3, 0] r r (.condP r hd (fun hb85 hd => ?_) fun hb85 hd => ?_)))
   · exact .sr (.ks 1 r (.nilS [2] r r (.ret (pret results120 (.t r .n) hl60 ⟨false, r, hd⟩))))
   exact .skipS [3, 0] r r (.region (.ks 3 r (.nil' fun c w ho hs => ⟨(w64 (s57 - 1)), hd, I59, hl60, ho.sub ⟨r, r, trivial⟩, hs.pick .n⟩)))
 exact .exitS [] r r (.sr (.ks 1 r (.nilS [2] r r (.ret (pret results120 (.t r .n) hl60 ⟨true, r, hd⟩)))))

theorem W_csr_row {I : IH} {a0 : List Int} {a1 : Int} {p1 : Option Addr} {c2 : Nat} {Q : Bool → Prop} (R3 : RepSl eI64 I p1 c2 a0) (hd : csr_row a0 a1 Q) :
  PFun prog 121 [.slice p1 a0.length c2, .int .i64 a1] I (fun _ => o1_ Q) := by
 refine Fun.enter func121 r ntmps121 r (.c (.c .n)) fun w0 M => ?_
 refine .sr (.ks 1 r (.nilS [1, 0] r r (.seq (.sr (.ks 1 r (.len un27 r r r r (.ks 1 r (.nilS [9, 8, 7, 1, 0] r r (.block ?_)))))))))
 refine .loop hd (fun (s68 : Int) c w => ∃ I_, IH.le I I_ ∧ Ok ⟨33, [], none⟩ [(0, .slice p1 a0.length c2), (1, .int .i64 a1), (7, .slice p1 a0.length c2), (8, .int .i64 (a0.length : Int)), (9, .int .i64 s68)] c ∧ Sym w0 M I I_ [] w) (fun c w ho hs => ⟨I, (.refl _), ho.sub ⟨r, r, r, r, r, trivial⟩, hs.pick .n⟩) ?_
 rintro s68 next69 hd c w hst
 obtain ⟨I70, hl71, hok, hsym⟩ := hst
 replace R3 := R3.mono hl71
 refine Cod.at hok hsym (.sr (.ks 1 r (.nilS [10, 9, 8, 7, 1, 0] r r (.seq (.condP r hd (fun hb73 hd => ?_) fun hb73 hd => ?_)))))
 · refine .skipS [9, 8, 7, 1, 0] r r (.seq (.block (.sr (.ks 1 r ?_))))
   obtain ⟨h83, x84, hx85, hd⟩ := hd
   obtain ⟨b86, o87, cs88, e89, hC90, hr91⟩ := R3.2 _ _ hx85
   cases hr91
   refine .ixa un27 sz3 r e89 r h83 (idx_lt hx85 h83) r r (.ld1 (j := 0) ia3 hC90 r r r r r (.ks 2 r (.nilS [6, 5, 9, 8, 7, 1, 0] r r (.sr (.ks 3 r ?_)))))
   have hw93 := W_csr_within (I := I70) hd
   refine .callP call102 r hw93 r r fun v94 hv95 => ?_
   obtain ⟨r92, rfl, hd⟩ := hv95
   refine .ks 2 r ?_
   refine splitP hd (fun hb96 hd => ?_) fun hb96 hd => ?_
   · rw [hb96]
     exact .ks 12 r (.nilS [31, 9, 8, 7, 1, 0] r r (.condKT r r (.sr (.ks 1 r (.nilS [4] r r (.ret (pret results121 (.t r .n) hl71 ⟨false, r, hd⟩)))))))
   rw [hb96]
   refine .ks 3 r ?_
   refine splitP hd (fun hb97 hd => ?_) fun hb97 hd => ?_
   · rw [hb97]
     refine .ks 3 r ?_
     obtain ⟨h98, x99, hx100, hd⟩ := hd
     obtain ⟨b101, o102, cs103, e104, hC105, hr106⟩ := R3.2 _ _ hx100
     cases hr106
     refine .gyes r r r (.ixa un27 sz3 r e104 r h98 (idx_lt hx100 h98) r r (.gyes r r r (.ld1 (j := 0) ia3 hC105 r r r r r (.ks 4 r (.nilS [31, 9, 8, 7, 1, 0] r r (.condP r hd (fun hb107 hd => ?_) fun hb107 hd => ?_))))))
     · exact .sr (.ks 1 r (.nilS [4] r r (.ret (pret results121 (.t r .n) hl71 ⟨false, r, hd⟩))))
     exact .skipS [9, 8, 7, 1, 0] r r (.region (.ks 2 r (.nil' fun c w ho hs => ⟨(w64 (s68 + 1)), hd, I70, hl71, ho.sub ⟨r, r, r, r, r, trivial⟩, hs.pick .n⟩)))
   rw [hb97]
   exact .ks 9 r (.nilS [31, 9, 8, 7, 1, 0] r r (.condKF r r (.skipS [9, 8, 7, 1, 0] r r (.region (.ks 2 r (.nil' fun c w ho hs => ⟨(w64 (s68 + 1)), hd, I70, hl71, ho.sub ⟨r, r, r, r, r, trivial⟩, hs.pick .n⟩))))))
 exact .exitS [] r r (.sr (.ks 1 r (.nilS [4] r r (.ret (pret results121 (.t r .n) hl71 ⟨true, r, hd⟩)))))

theorem W_csr_Right {I : IH} {a0 : Rows} {p1 : Option Addr} {c2 : Nat} {p4 : Option Addr} {c5 : Nat} {p7 : Option Addr} {c8 : Nat} {Q : Bool → Prop} (R3 : RepSl eI64 I p1 c2 a0.Start) (R6 : RepSl eI64 I p4 c5 a0.Col) (R9 : RepSl eI64 I p7 c8 a0.Val) (hd : csr_Right a0 Q) :
  PFun prog 81 [.agg #[.int .i64 a0.Rows, .int .i64 a0.Cols, .slice p1 a0.Start.length c2, .slice p4 a0.Col.length c5, .slice p7 a0.Val.length c8]] I (fun _ => o1_ Q) := by
 refine Fun.enter func81 r ntmps81 r (.c .n) fun w0 M => ?_
 refine .sr (.boxA r r r fun b12 => ?_)
 refine .ks 1 r (.nilS [1] r r (.sr (.fa un30 r sz27 r (o := 3) r r r (.load1 ia27 r .z r r r (.len un27 r r r r (.ks 1 r (.nilS [3, 1] r r (.seq (.sr ?_)))))))))
 refine .fa un30 r sz3 r (o := 0) r r r (.load1 ia3 r .z r r r ?_)
 have hw28 := W_csr_within (I := I) hd
 refine .callP call102 r hw28 r r fun v29 hv30 => ?_
 obtain ⟨r27, rfl, hd⟩ := hv30
 refine .ks 2 r ?_
 refine splitP hd (fun hb31 hd => ?_) fun hb31 hd => ?_
 · rw [hb31]
   exact .ks 25 r (.nilS [37, 3, 1] r r (.condKT r r (.sr (.ks 1 r (.nilS [2] r r (.drop .z (.ret (pret results81 (.t r .n) (.refl _) ⟨false, r, hd⟩))))))))
 rw [hb31]
 refine .gyes r r r (.fa un30 r sz3 r (o := 1) r r r (.gyes r r r (.load1 ia3 r .z r r r ?_)))
 have hw33 := W_csr_within (I := I) hd
 refine .gyes r r r (.callP call102 r hw33 r r fun v34 hv35 => ?_)
 obtain ⟨r32, rfl, hd⟩ := hv35
 refine .ks 3 r ?_
 refine splitP hd (fun hb36 hd => ?_) fun hb36 hd => ?_
 · rw [hb36]
   exact .ks 19 r (.nilS [37, 3, 1] r r (.condKT r r (.sr (.ks 1 r (.nilS [2] r r (.drop .z (.ret (pret results81 (.t r .n) (.refl _) ⟨false, r, hd⟩))))))))
 rw [hb36]
 refine .gyes r r r (.fa un30 r sz27 r (o := 2) r r r (.gyes r r r (.load1 ia27 r .z r r r (.gyes r r r (.len un27 r r r r (.gyes r r r (.fa un30 r sz3 r (o := 0) r r r (.gyes r r r (.load1 ia3 r .z r r r (.ks 4 r ?_))))))))))
 refine splitP hd (fun hb37 hd => ?_) fun hb37 hd => ?_
 · rw [hb37]
   exact .ks 10 r (.nilS [37, 3, 1] r r (.condKT r r (.sr (.ks 1 r (.nilS [2] r r (.drop .z (.ret (pret results81 (.t r .n) (.refl _) ⟨false, r, hd⟩))))))))
 rw [hb37]
 refine .gyes r r r (.fa un30 r sz28 r (o := 4) r r r (.gyes r r r (.load1 ia28 r .z r r r (.gyes r r r (.len un28 r r r r (.ks 4 r ?_))))))
 refine splitP hd (fun hb38 hd => ?_) fun hb38 hd => ?_
 · rw [hb38]
   exact .ks 3 r (.nilS [37, 3, 1] r r (.condKT r r (.sr (.ks 1 r (.nilS [2] r r (.drop .z (.ret (pret results81 (.t r .n) (.refl _) ⟨false, r, hd⟩))))))))
 rw [hb38]
 refine .ks 3 r (.nilS [37, 3, 1] r r (.condP r hd (fun hb39 hd => ?_) fun hb39 hd => ?_))
 · exact .sr (.ks 1 r (.nilS [2] r r (.drop .z (.ret (pret results81 (.t r .n) (.refl _) ⟨false, r, hd⟩)))))
 refine .skipS [3, 1] r r (.seq (.sr (.fa un30 r sz27 r (o := 2) r r r (.load1 ia27 r .z r r r ?_))))
 obtain ⟨h65, x66, hx67, hd⟩ := hd
 obtain ⟨b68, o69, cs70, e71, hC72, hr73⟩ := R3.2 _ _ hx67
 cases hr73
 refine .ixa un27 sz3 r e71 r h65 (idx_lt hx67 h65) r r (.ld1 (j := 0) ia3 hC72 r r r r r (.ks 2 r ?_))
 refine splitP hd (fun hb74 hd => ?_) fun hb74 hd => ?_
 · rw [hb74]
   exact .ks 15 r (.nilS [58, 1] r r (.condKT r r (.sr (.ks 1 r (.nilS [2] r r (.drop .z (.ret (pret results81 (.t r .n) (.refl _) ⟨false, r, hd⟩))))))))
 rw [hb74]
 refine .gyes r r r (.fa un30 r sz27 r (o := 2) r r r (.gyes r r r (.load1 ia27 r .z r r r (.gyes r r r (.fa un30 r sz3 r (o := 0) r r r (.gyes r r r (.load1 ia3 r .z r r r ?_)))))))
 obtain ⟨h75, x76, hx77, hd⟩ := hd
 obtain ⟨b78, o79, cs80, e81, hC82, hr83⟩ := R3.2 _ _ hx77
 cases hr83
 refine .gyes r r r (.ixa un27 sz3 r e81 r h75 (idx_lt hx77 h75) r r (.gyes r r r (.ld1 (j := 0) ia3 hC82 r r r r r (.ks 4 r ?_))))
 refine splitP hd (fun hb84 hd => ?_) fun hb84 hd => ?_
 · rw [hb84]
   exact .ks 5 r (.nilS [58, 1] r r (.condKT r r (.sr (.ks 1 r (.nilS [2] r r (.drop .z (.ret (pret results81 (.t r .n) (.refl _) ⟨false, r, hd⟩))))))))
 rw [hb84]
 refine .gyes r r r (.fa un30 r sz27 r (o := 2) r r r (.gyes r r r (.load1 ia27 r .z r r r ?_)))
 have hw86 := W_slices_IsSorted_int_int (I := I) R3 hd
 refine .gyes r r r (.callP call120 r hw86 r r fun v87 hv88 => ?_)
 obtain ⟨r85, rfl, hd⟩ := hv88
 refine .ks 2 r (.nilS [58, 1] r r (.condP r hd (fun hb89 hd => ?_) fun hb89 hd => ?_))
 · exact .sr (.ks 1 r (.nilS [2] r r (.drop .z (.ret (pret results81 (.t r .n) (.refl _) ⟨false, r, hd⟩)))))
 refine .skipS [1] r r (.seq (.sr (.fa un30 r sz3 r (o := 0) r r r (.load1 ia3 r .z r r r (.ks 1 r (.nilS [61, 60, 1] r r (.block (.loop hd (fun (s163 : Int) c w => ∃ I_, IH.le I I_ ∧ Ok ⟨83, [], none⟩ [(1, .pointer (some ⟨b12, 0, none⟩)), (60, .int .i64 a0.Rows), (61, .int .i64 s163)] c ∧ Sym w0 M I I_ [pto b12 (.cells #[.int .i64 a0.Rows, .int .i64 a0.Cols, .slice p1 a0.Start.length c2, .slice p4 a0.Col.length c5, .slice p7 a0.Val.length c8] 30 (0, 0))] w) (fun c w ho hs => ⟨I, (.refl _), ho.sub ⟨r, r, r, trivial⟩, hs.pick (.c .z .n)⟩) ?_))))))))
 rintro s163 next164 hd c w hst
 obtain ⟨I165, hl166, hok, hsym⟩ := hst
 replace R3 := R3.mono hl166
 replace R6 := R6.mono hl166
 replace R9 := R9.mono hl166
 refine Cod.at hok hsym (.sr (.ks 1 r (.nilS [62, 61, 60, 1] r r (.seq (.condP r hd (fun hb168 hd => ?_) fun hb168 hd => ?_)))))
 · refine .skipS [61, 60, 1] r r (.seq (.block (.sr (.ks 2 r (.nilS [4, 61, 60, 1] r r (.seq (.dr [0, 1, 2, 3, 4, 5, 6, 7, 8, 9, 10, 11, 12, 13, 14, 15, 16, 17] 18 (.g r r r (fun _ => .fa un30 r sz27 r (o := 3) r r r .mk) (.g r r r (fun _ => .load1 ia27 r .z r r r .mk) ?_)))))))))
   refine .g r r r (fun _ => .fa un30 r sz27 r (o := 2) r r r .mk) (.g r r r (fun _ => .load1 ia27 r .z r r r .mk) (.fk 1 r ?_))
   obtain ⟨h169, x170, hx171, hd⟩ := hd
   obtain ⟨b172, o173, cs174, e175, hC176, hr177⟩ := R3.2 _ _ hx171
   cases hr177
   refine .g r r r (fun _ => .ixa un27 sz3 r e175 r h169 (idx_lt hx171 h169) r r .mk) (.g r r r (fun _ => .ld1 (j := 0) ia3 hC176 r r r r r .mk) (.g r r r (fun _ => .fa un30 r sz27 r (o := 2) r r r .mk) (.g r r r (fun _ => .load1 ia27 r .z r r r .mk) (.fk 2 r ?_))))
   obtain ⟨h178, x179, hx180, hd⟩ := hd
   obtain ⟨b181, o182, cs183, e184, hC185, hr186⟩ := R3.2 _ _ hx180
   cases hr186
   refine .g r r r (fun _ => .ixa un27 sz3 r e184 r h178 (idx_lt hx180 h178) r r .mk) (.g r r r (fun _ => .ld1 (j := 0) ia3 hC185 r r r r r .mk) ?_)
   obtain ⟨h187, h188, h189, hd⟩ := hd
   have h195 : Int.toNat x170 ≤ Int.toNat x179 := by omega
   have h196 : Int.toNat x179 ≤ a0.Col.length := by omega
   obtain ⟨p190, c191, e193, e194, R192⟩ := RepSl.sliceW R6 (Int.toNat x170) (Int.toNat x179) c5 h195 h196 (.inl rfl)
   refine .g r r r (fun _ => .sliceW (L := Int.toNat x170) (H := Int.toNat x179) (cm := c5) un27 sz3 r r R6.1 r r r (.inr ⟨_, _, r, h187, r⟩) (.inr ⟨_, _, r, (by omega), r⟩) (.inl r) h195 h196 r e193 e194 r r .mk) (.g r r r (fun _ => .fa un30 r sz3 r (o := 1) r r r .mk) (.g r r r (fun _ => .load1 ia3 r .z r r r .mk) (.ww r fun ex => ?_)))
   have hw198 := W_csr_row (I := I165) R192 hd
   refine .callP call121 r hw198 r r fun v199 hv200 => ?_
   obtain ⟨r197, rfl, hd⟩ := hv200
   refine .so 1 r r r trivial (.fk 1 r (.e2 18 (.nilS [81, 61, 60, 1] r r (.condP r hd (fun hb201 hd => ?_) fun hb201 hd => ?_))))
   · exact .sr (.ks 1 r (.nilS [2] r r (.drop .z (.ret (pret results81 (.t r .n) hl166 ⟨false, r, hd⟩)))))
   exact .skipS [61, 60, 1] r r (.region (.ks 2 r (.nil' fun c w ho hs => ⟨(w64 (s163 + 1)), hd, I165, hl166, ho.sub ⟨r, r, r, trivial⟩, hs.pick (.c .z .n)⟩)))
 exact .exitS [] r r (.drop .z (.sr (.ks 1 r (.nilS [2] r r (.ret (pret results81 (.t r .n) hl166 ⟨true, r, hd⟩))))))

theorem W_csr_empty {I : IH} {a0 : Int} {a1 : Int} {Q : Rows → Prop}  (hd : csr_empty a0 a1 Q) :
  OFun prog 106 [.int .i64 a0, .int .i64 a1] I (fun _ => o2_ Q) := by
 refine Fun.enter func106 r ntmps106 r (.c (.c .n)) fun w0 M => ?_
 refine .sr (.allocA zv30 r r fun b10 => ?_)
 refine .nilS [4, 1, 0] r r (.sr (.ks 4 r ?_))
 obtain ⟨h12, h13, hd⟩ := hd
 refine .make (El := eI64) (zv := 0) 8 un27 IN3 r r r r r r h12 h13 r r r fun b14 => ?_
 exact .build zv30 un30 BI30 (.c r r r (.t .nil) (.c r r r (.s (.t .nil)) (.c r r r (.s (.s (.t .nil))) .n))) (by exact ⟨⟨_, _, r, r, r⟩, ⟨⟨_, _, r, r, r⟩, ⟨⟨_, _, r, r, r⟩, trivial⟩⟩⟩) r r (.storeA sz30 r r (.s .z) (.t (.t (.t (.t (.t .nil))))) r r (.nilS [4] r r (.own0 eI64 3 (.own0 eI64 2 (.ret (oret results106 (.w ia30 sz30 r (.s (.s (.s .z))) r .n) (.refl _) (.c (.s (.s .z)) (.c (.s .z) (.c .z .n))) ⟨({ Rows := a0, Cols := a1, Start := (List.replicate (w64 (a0 + 1)).toNat 0), Col := ([] : List Int), Val := ([] : List Int) } : Rows), _, _, _, _, _, _, r, r, hd⟩))))))

theorem W_csr_sure {I : IH} {a0 : Rows} {p1 : Option Addr} {c2 : Nat} {p4 : Option Addr} {c5 : Nat} {p7 : Option Addr} {c8 : Nat} {Q : Rows → Prop} (R3 : RepSl eI64 I p1 c2 a0.Start) (R6 : RepSl eI64 I p4 c5 a0.Col) (R9 : RepSl eI64 I p7 c8 a0.Val) (hd : csr_sure a0 Q) :
  PFun prog 66 [.agg #[.int .i64 a0.Rows, .int .i64 a0.Cols, .slice p1 a0.Start.length c2, .slice p4 a0.Col.length c5, .slice p7 a0.Val.length c8]] I (o7_ Q) := by
 refine Fun.enter func66 r ntmps66 r (.c .n) fun w0 M => ?_
 refine .sr (.boxA r r r fun b23 => ?_)
 refine .allocA zv30 r r fun b25 => ?_
 refine .nilS [2, 1] r r (.seq (.sr (.loadW ia30 sz30 r (.s .z) r r r ?_)))
 have hw28 := W_csr_Right (I := I) R3 R6 R9 hd
 refine .callP call81 r hw28 r r fun v29 hv30 => ?_
 obtain ⟨r27, rfl, hd⟩ := hv30
 refine .nilS [4, 2, 1] r r (.condP r hd (fun hb31 hd => ?_) fun hb31 hd => ?_)
 · exact .sr (.loadW ia30 sz30 r (.s .z) r r r (.storeA sz30 r r .z (.t (.t (.t (.t (.t .nil))))) r r (.nilS [2] r r (.drop (.s .z) (.ret (pret results66 (.w ia30 sz30 r .z r .n) (.refl _) ⟨a0, _, _, _, _, _, _, r, R3, R6, R9, hd⟩))))))
 refine .skipS [2] r r (.drop (.s .z) (.sr ?_))
 have hw50 := W_csr_empty (I := I) hd
 refine .callO call106 r hw50 r r fun v36 I33 l37 hl34 hv35 => ?_
 obtain ⟨r32, p38, c39, p41, c42, p44, c45, rfl, rfl, hd⟩ := hv35
 refine .storeA sz30 r r (.s (.s (.s .z))) (.t (.t (.t (.t (.t .nil))))) r r (.nilS [2] r r (.pub .z fun I51 hl52 R53 => ?_))
 have le54 := IH.le.trans hl34 hl52
 refine .pub .z fun I55 hl56 R57 => ?_
 have le58 := IH.le.trans le54 hl56
 replace R53 := R53.mono hl56
 refine .pub .z fun I59 hl60 R61 => ?_
 have le62 := IH.le.trans le58 hl60
 replace R53 := R53.mono hl60
 replace R57 := R57.mono hl60
 exact .ret (pret results66 (.w ia30 sz30 r .z r .n) le62 ⟨r32, _, _, _, _, _, _, r, R53, R57, R61, hd⟩)

theorem W_csr_bounds {I : IH} {a0 : Int × Int} {a1 : Int} {Q : (Int × Int) → Prop}  (hd : csr_bounds a0 a1 Q) :
  PFun prog 67 [.agg #[.int .i64 a0.1, .int .i64 a0.2], .int .i64 a1] I (fun _ => o8_ Q) := by
 refine Fun.enter func67 r ntmps67 r (.c (.c .n)) fun w0 M => ?_
 refine .sr (.boxA r r r fun b3 => ?_)
 refine .ks 2 r (.nilS [2, 1] r r (.sr (.ixArr (i := 0) un46 sz3 r r (by decide) (o := 0) r r r (.load1 ia3 r .z r r r (.maxI r r r r (.ks 1 r (.nilS [6, 2, 1] r r (.sr (.ixArr (i := 1) un46 sz3 r r (by decide) (o := 1) r r r ?_)))))))))
 refine .load1 ia3 r .z r r r (.ks 1 r (.minI r r r r (.ks 1 r (.nilS [7, 6] r r (.drop .z (.seq (.sr (.ks 3 r (.nilS [17, 7, 6] r r ?_)))))))))
 refine .condP r hd (fun hb5 hd => ?_) fun hb5 hd => ?_
 · exact .sr (.ks 3 r (.nilS [5, 4] r r (.ret (pret results67 (.t r (.t r .n)) (.refl _) ⟨((if 0 > a0.1 then 0 else a0.1), 0), r, hd⟩))))
 exact .skipS [7, 6] r r (.sr (.ks 6 r (.nilS [5, 4] r r (.ret (pret results67 (.t r (.t r .n)) (.refl _) ⟨((if 0 > a0.1 then 0 else a0.1), w64 ((if a1 < a0.2 then a1 else a0.2) - (if 0 > a0.1 then 0 else a0.1))), r, hd⟩)))))

theorem W_csr_part {I : IH} {a0 : Rows} {a1 : Int} {p1 : Option Addr} {c2 : Nat} {p4 : Option Addr} {c5 : Nat} {p7 : Option Addr} {c8 : Nat} {Q : ((List Int) × (List Int)) → Prop} (R3 : RepSl eI64 I p1 c2 a0.Start) (R6 : RepSl eI64 I p4 c5 a0.Col) (R9 : RepSl eI64 I p7 c8 a0.Val) (hd : csr_part a0 a1 Q) :
  PFun prog 89 [.agg #[.int .i64 a0.Rows, .int .i64 a0.Cols, .slice p1 a0.Start.length c2, .slice p4 a0.Col.length c5, .slice p7 a0.Val.length c8], .int .i64 a1] I (o9_ Q) := by
 refine Fun.enter func89 r ntmps89 r (.c (.c .n)) fun w0 M => ?_
 refine .sr (.boxA r r r fun b18 => ?_)
 refine .ks 2 r (.nilS [2, 1] r r (.seq (.dr [0, 1, 2, 3, 4, 5, 6, 7, 8, 9, 10, 11] 12 (.g r r r (fun _ => .fa un30 r sz27 r (o := 2) r r r .mk) (.g r r r (fun _ => .load1 ia27 r .z r r r .mk) (.fk 1 r ?_))))))
 obtain ⟨h38, x39, hx40, hd⟩ := hd
 obtain ⟨b41, o42, cs43, e44, hC45, hr46⟩ := R3.2 _ _ hx40
 cases hr46
 refine .g r r r (fun _ => .ixa un27 sz3 r e44 r h38 (idx_lt hx40 h38) r r .mk) (.g r r r (fun _ => .ld1 (j := 0) ia3 hC45 r r r r r .mk) (.g r r r (fun _ => .fa un30 r sz27 r (o := 2) r r r .mk) (.g r r r (fun _ => .load1 ia27 r .z r r r .mk) (.fk 2 r ?_))))
 obtain ⟨h47, x48, hx49, hd⟩ := hd
 obtain ⟨b50, o51, cs52, e53, hC54, hr55⟩ := R3.2 _ _ hx49
 cases hr55
 refine .g r r r (fun _ => .ixa un27 sz3 r e53 r h47 (idx_lt hx49 h47) r r .mk) (.g r r r (fun _ => .ld1 (j := 0) ia3 hC54 r r r r r .mk) (.fk 1 r (.e2 12 (.ks 1 r (.nilS [7, 6, 2] r r (.seq (.dr [0, 1, 2, 3, 4, 5, 6, 7, 8, 9, 10, 11, 12] 13 (.g r r r (fun _ => .fa un30 r sz27 r (o := 3) r r r .mk) (.g r r r (fun _ => .load1 ia27 r .z r r r .mk) ?_)))))))))
 refine .fk 3 r ?_
 obtain ⟨h56, h57, h58, hd⟩ := hd
 have h64 : Int.toNat x39 ≤ Int.toNat x48 := by omega
 have h65 : Int.toNat x48 ≤ a0.Col.length := by omega
 obtain ⟨p59, c60, e62, e63, R61⟩ := RepSl.sliceW R6 (Int.toNat x39) (Int.toNat x48) (Int.toNat x48) h64 h65 (.inr rfl)
 refine .g r r r (fun _ => .sliceW (L := Int.toNat x39) (H := Int.toNat x48) (cm := Int.toNat x48) un27 sz3 r r R6.1 r r r (.inr ⟨_, _, r, h56, r⟩) (.inr ⟨_, _, r, (by omega), r⟩) (.inr r) h64 h65 r e62 e63 r r .mk) (.g r r r (fun _ => .fa un30 r sz28 r (o := 4) r r r .mk) (.g r r r (fun _ => .load1 ia28 r .z r r r .mk) (.fk 3 r ?_)))
 obtain ⟨h66, h67, h68, hd⟩ := hd
 have h74 : Int.toNat x39 ≤ Int.toNat x48 := by omega
 have h75 : Int.toNat x48 ≤ a0.Val.length := by omega
 obtain ⟨p69, c70, e72, e73, R71⟩ := RepSl.sliceW R9 (Int.toNat x39) (Int.toNat x48) (Int.toNat x48) h74 h75 (.inr rfl)
 exact .g r r r (fun _ => .sliceW (L := Int.toNat x39) (H := Int.toNat x48) (cm := Int.toNat x48) un28 sz2 r r R9.1 r r r (.inr ⟨_, _, r, h66, r⟩) (.inr ⟨_, _, r, (by omega), r⟩) (.inr r) h74 h75 r e72 e73 r r .mk) (.fk 1 r (.e2 13 (.ks 1 r (.nilS [5, 4] r r (.drop .z (.ret (pret results89 (.t r (.t r .n)) (.refl _) ⟨(((a0.Col.take x48.toNat).drop x39.toNat), ((a0.Val.take x48.toNat).drop x39.toNat)), _, _, _, _, r, R61, R71, hd⟩)))))))

theorem W_csr_Row {I : IH} {a0 : Rows} {a1 : Int} {p1 : Option Addr} {c2 : Nat} {p4 : Option Addr} {c5 : Nat} {p7 : Option Addr} {c8 : Nat} {Q : (List Item) → Prop} (R3 : RepSl eI64 I p1 c2 a0.Start) (R6 : RepSl eI64 I p4 c5 a0.Col) (R9 : RepSl eI64 I p7 c8 a0.Val) (hd : csr_Row a0 a1 Q) :
  PFun prog 68 [.agg #[.int .i64 a0.Rows, .int .i64 a0.Cols, .slice p1 a0.Start.length c2, .slice p4 a0.Col.length c5, .slice p7 a0.Val.length c8], .int .i64 a1] I (o10_ Q) := by
 refine Fun.enter func68 r ntmps68 r (.c (.c .n)) fun w0 M => ?_
 refine .sr (.boxA r r r fun b15 => ?_)
 refine .ks 1 r (.nilS [2, 1] r r (.sr (.loadW ia30 sz30 r .z r r r ?_)))
 have hw48 := W_csr_sure (I := I) R3 R6 R9 hd
 refine .call call66 r hw48 r r fun v37 I34 hl35 hv36 => ?_
 obtain ⟨r33, p39, c40, p42, c43, p45, c46, rfl, R41, R44, R47, hd⟩ := hv36
 replace R3 := R3.mono hl35
 replace R6 := R6.mono hl35
 replace R9 := R9.mono hl35
 refine .storeA sz30 r r .z (.t (.t (.t (.t (.t .nil))))) r r (.nilS [2, 1] r r (.seq (.sr (.ks 1 r (.fa un30 r sz3 r (o := 0) r r r (.load1 ia3 r .z r r r (.ks 1 r ?_)))))))
 have hw55 := W_csr_within (I := I34) hd
 refine .callP call102 r hw55 r r fun v56 hv57 => ?_
 obtain ⟨r54, rfl, hd⟩ := hv57
 refine .ks 1 r (.nilS [17, 2, 1] r r (.condP r hd (fun hb58 hd => ?_) fun hb58 hd => ?_))
 · exact .sr (.ks 1 r (.nilS [4] r r (.drop .z (.ret (pret results68 (.t r .n) hl35 ⟨([] : List Item), _, _, r, (.nil _ _ _), hd⟩)))))
 refine .skipS [2, 1] r r (.sr (.ks 1 r (.nilS [5, 2, 1] r r (.sr (.loadW ia30 sz30 r .z r r r (.ks 1 r ?_))))))
 have hw85 := W_csr_part (I := I34) R41 R44 R47 hd
 refine .call call89 r hw85 r r fun v77 I74 hl75 hv76 => ?_
 obtain ⟨r73, p79, c80, p82, c83, rfl, R81, R84, hd⟩ := hv76
 have le86 := IH.le.trans hl35 hl75
 replace R41 := R41.mono hl75
 replace R44 := R44.mono hl75
 replace R47 := R47.mono hl75
 refine .ks 5 r (.nilS [7, 6, 5] r r (.drop .z (.seq (.sr (.ks 1 r (.len un27 r r r r (.ks 1 r (.nilS [26, 25, 24, 7, 5] r r (.block ?_)))))))))
 refine .own0 eItem 115 (.loop hd (fun (s : (List Item) × Int) c w => match s with | (s155, s159) => ∃ I_ p156 c157, IH.le I74 I_ ∧ Ok ⟨42, [], none⟩ [(5, .slice p156 s155.length c157), (7, .slice p82 r73.2.length c83), (24, .slice p79 r73.1.length c80), (25, .int .i64 (r73.1.length : Int)), (26, .int .i64 s159)] c ∧ Sym w0 M I I_ [OwnSl eItem 115 p156 c157 s155] w) (fun c w ho hs => ⟨I74, _, _, (.refl _), ho.sub ⟨r, r, r, r, r, trivial⟩, hs.pick (.c .z .n)⟩) ?_)
 rintro ⟨s155, s159⟩ next161 hd c w hst
 obtain ⟨I162, p156, c157, hl163, hok, hsym⟩ := hst
 have le164 := IH.le.trans le86 hl163
 replace R81 := R81.mono hl163
 replace R84 := R84.mono hl163
 refine Cod.at hok hsym (.sr (.ks 1 r (.nilS [27, 26, 25, 24, 7, 5] r r (.seq (.condP r hd (fun hb166 hd => ?_) fun hb166 hd => ?_)))))
 · refine .skipS [26, 25, 24, 7, 5] r r (.seq (.block (.sr (.ks 1 r ?_))))
   obtain ⟨h167, x168, hx169, hd⟩ := hd
   obtain ⟨b170, o171, cs172, e173, hC174, hr175⟩ := R81.2 _ _ hx169
   cases hr175
   refine .ixa un27 sz3 r e173 r h167 (idx_lt hx169 h167) r r (.ld1 (j := 0) ia3 hC174 r r r r r (.ks 2 r (.nilS [9, 8, 26, 25, 24, 7, 5] r r (.region (.ks 4 r ?_)))))
   obtain ⟨h176, x177, hx178, hd⟩ := hd
   obtain ⟨b179, o180, cs181, e182, hC183, hr184⟩ := R84.2 _ _ hx178
   cases hr184
   refine .ixa un28 sz2 r e182 r h176 (idx_lt hx178 h176) r r (.ld1 (j := 0) ia2 hC183 r r r r r (.build zeroValue115 un115 BI115 (.c r r r (.t .nil) (.c r r r (.s (.t .nil)) .n)) (by exact ⟨⟨_, _, r, r, r⟩, ⟨⟨_, _, r, r, r⟩, trivial⟩⟩) r r (.buildSlice 1 un61 sz115 zeroValue115 r r (.c r r r .n) r r fun b185 => ?_)))
   obtain ⟨hl187, hd⟩ := hd
   refine .append (ys := [({ At := x168, Val := x177 } : Item)]) 16 (.s .z) un61 un61 IN115 r r r r r r r r r (.box .z (.one r) r) hl187 r r fun p188 c189 => ?_
   exact .ks 1 r (.nilS [5, 26, 25, 24, 7] r r (.drop (.s .z) (.region (.ks 2 r (.nil' fun c w ho hs => ⟨((s155 ++ ([({ At := x168, Val := x177 } : Item)])), w64 (s159 + 1)), hd, I162, _, _, hl163, ho.sub ⟨r, r, r, r, r, trivial⟩, hs.pick (.c .z .n)⟩)))))
 refine .exitS [5] r r (.sr (.ks 2 r (.nilS [4] r r (.pub .z fun I191 hl192 R193 => ?_))))
 have le194 := IH.le.trans le164 hl192
 have le195 := IH.le.trans hl163 hl192
 exact .ret (pret results68 (.t r .n) le194 ⟨s155, _, _, r, R193, hd⟩)

theorem W_csr_built {I : IH} {a0 : Int} {a1 : Int} {a2 : List Triple} {p1 : Option Addr} {c2 : Nat} {Q : Rows → Prop} (R3 : RepSl eTriple I p1 c2 a2) (hd : csr_built a0 a1 a2 Q) :
  PFun prog 69 [.int .i64 a0, .int .i64 a1, .slice p1 a2.length c2] I (o3_ Q) := by
 refine Fun.enter func69 r ntmps69 r (.c (.c (.c .n))) fun w0 M => ?_
 refine .sr (.allocA zv30 r r fun b15 => ?_)
 refine .nilS [6, 2, 1, 0] r r (.sr (.ks 2 r ?_))
 have hw56 := W_csr_empty (I := I) hd
 refine .callO call106 r hw56 r r fun v42 I39 l43 hl40 hv41 => ?_
 obtain ⟨r38, p44, c45, p47, c48, p50, c51, rfl, rfl, hd⟩ := hv41
 replace R3 := R3.mono hl40
 refine .allocA zv30 r r fun b57 => ?_
 refine .storeA sz30 r r .z (.t (.t (.t (.t (.t .nil))))) r r (.nilS [7, 6, 2, 0] r r (.seq (.sr (.ks 1 r (.len un24 r r r r (.ks 1 r (.nilS [16, 15, 14, 7, 6, 0] r r (.block (.loop hd (fun (s : (List Int) × (List Int) × (List Int) × Int) c w => match s with | (s414, s418, s422, s426) => ∃ I_ p415 c416 p419 c420 p423 c424, IH.le I39 I_ ∧ Ok ⟨63, [], none⟩ [(0, .int .i64 a0), (6, .pointer (some ⟨b15, 0, none⟩)), (7, .pointer (some ⟨b57, 0, none⟩)), (14, .slice p1 a2.length c2), (15, .int .i64 (a2.length : Int)), (16, .int .i64 s426)] c ∧ Sym w0 M I I_ [pto b15 (.cells #[.int .i64 0, .int .i64 0, .slice none 0 0, .slice none 0 0, .slice none 0 0] 30 (0, 0)), pto b57 (.cells #[.int .i64 r38.Rows, .int .i64 r38.Cols, .slice p415 s414.length c416, .slice p419 s418.length c420, .slice p423 s422.length c424] 30 (0, 0)), OwnSl eI64 3 p415 c416 s414, OwnSl eI64 3 p419 c420 s418, OwnSl eI64 2 p423 c424 s422] w) (fun c w ho hs => ⟨I39, _, _, _, _, _, _, (.refl _), ho.sub ⟨r, r, r, r, r, r, trivial⟩, hs.pick (.c (.s (.s (.s (.s .z)))) (.c .z (.c .z (.c .z (.c .z .n)))))⟩) ?_)))))))))
 rintro ⟨s414, s418, s422, s426⟩ next427 hd c w hst
 obtain ⟨I428, p415, c416, p419, c420, p423, c424, hl429, hok, hsym⟩ := hst
 have le430 := IH.le.trans hl40 hl429
 replace R3 := R3.mono hl429
 refine Cod.at hok hsym (.sr (.ks 1 r (.nilS [17, 16, 15, 14, 7, 6, 0] r r (.seq (.condP r hd (fun hb432 hd => ?_) fun hb432 hd => ?_)))))
 · refine .skipS [16, 15, 14, 7, 6, 0] r r (.seq (.block (.sr ?_)))
   obtain ⟨h444, x445, hx446, hd⟩ := hd
   obtain ⟨b447, o448, cs449, e450, hC451, hr452⟩ := R3.2 _ _ hx446
   cases hr452
   refine .ixa un24 sz91 r e450 r h444 (idx_lt hx446 h444) r r (.ldW isAgg91 sz91 hC451 r r r r (.allocA zv91 r r fun b453 => ?_))
   refine .storeA sz91 r r .z (.t (.t (.t .nil))) r r (.nilS [9, 16, 15, 14, 7, 6, 0] r r (.sr (.fa un30 r sz27 r (o := 2) r r r (.load1 ia27 r (.s (.s .z)) r r r (.fa un91 r sz3 r (o := 0) r r r (.load1 ia3 r .z r r r (.ks 1 r ?_)))))))
   obtain ⟨h463, x464, hx465, hd⟩ := hd
   refine .ownNe (.s (.s (.s .z))) (idx_ne hx465) fun b466 e467 => ?_
   cases e467
   refine .ixa0 un27 sz3 r r h463 (idx_lt hx465 h463) r r (.lo1 (j := 0) ia3 (.s (.s (.s .z))) hx465 r r r r r (.ks 1 r ?_))
   obtain ⟨h468, x469, hx470, hd⟩ := hd
   refine .ixa0 un27 sz3 r r h468 (idx_lt hx470 h468) r r (.stO1 (j := 0) (v' := (w64 (x464 + 1))) sz3 (.s (.s (.s .z))) hx470 r r r (.t .nil) r (.sub (E' := [(0, _), (6, _), (7, _), (14, _), (15, _), (16, _), (9, _), (20, _), (21, .slice (some ⟨b466, 0, none⟩) (s414.set ((w64 (x445.Row + 1)).toNat) (w64 (x464 + 1))).length c416), (22, _), (23, _), (24, _), (25, _), (26, _), (27, _), (28, _)]) ⟨r, r, r, r, r, r, r, r, (by simp only [List.length_set]; rfl), r, r, r, r, r, r, r, trivial⟩ (.reat (.s (.s .z)) (B := pto b57 (.cells #[.int .i64 r38.Rows, .int .i64 r38.Cols, .slice (some ⟨b466, 0, none⟩) (s414.set ((w64 (x445.Row + 1)).toNat) (w64 (x464 + 1))).length c416, .slice p419 s418.length c420, .slice p423 s422.length c424] 30 (0, 0))) (by simp only [List.length_set]) (.nilS [9, 16, 15, 14, 7, 6, 0] r r (.sr (.fa un30 r sz27 r (o := 3) r r r (.load1 ia27 r (.s (.s .z)) r r r (.fa un91 r sz3 r (o := 1) r r r (.load1 ia3 r .z r r r ?_)))))))))
   refine .buildSlice 1 un27 sz3 zv3 r r (.c r r r .n) r r fun b471 => ?_
   obtain ⟨hl473, hd⟩ := hd
   refine .append (ys := [x445.Col]) 8 (.s (.s (.s (.s (.s .z))))) un27 un27 IN3 r r r r r r r r r (.box .z (.one r) r) hl473 r r fun p474 c475 => ?_
   refine .fa un30 r sz27 r (o := 3) r r r (.store1 sz27 r r (.s (.s (.s (.s .z)))) (.s (.s (.s (.t .nil)))) r (.nilS [9, 16, 15, 14, 7, 6, 0] r r (.drop (.s .z) (.region (.fa un30 r sz28 r (o := 4) r r r (.load1 ia28 r (.s (.s (.s .z))) r r r (.fa un91 r sz2 r (o := 2) r r r (.load1 ia2 r (.s .z) r r r (.buildSlice 1 un28 sz2 zeroValue2 r r (.c r r r .n) r r fun b477 => ?_)))))))))
   obtain ⟨hl479, hd⟩ := hd
   refine .append (ys := [x445.Val]) 8 (.s (.s (.s (.s (.s (.s .z)))))) un28 un28 IN2 r r r r r r r r r (.box .z (.one r) r) hl479 r r fun p480 c481 => ?_
   exact .fa un30 r sz28 r (o := 4) r r r (.store1 sz28 r r (.s (.s (.s (.s (.s .z))))) (.s (.s (.s (.s (.t .nil))))) r (.nilS [16, 15, 14, 7, 6, 0] r r (.drop (.s .z) (.drop (.s (.s .z)) (.region (.ks 2 r (.nil' fun c w ho hs => ⟨((s414.set ((w64 (x445.Row + 1)).toNat) (w64 (x464 + 1))), (s418 ++ ([x445.Col])), (s422 ++ ([x445.Val])), w64 (s426 + 1)), hd, I428, _, _, _, _, _, _, hl429, ho.sub ⟨r, r, r, r, r, r, trivial⟩, hs.pick (.c (.s (.s .z)) (.c (.s (.s .z)) (.c (.s (.s .z)) (.c (.s .z) (.c .z .n)))))⟩)))))))
 refine .exitS [7, 6, 0] r r (.seq (.sr (.ks 2 r (.nilS [45, 44, 7, 6] r r (.block (.loop hd (fun (s : (List Int) × Int) c w => match s with | (s530, s534) => ∃ I_ p531 c532, IH.le I428 I_ ∧ Ok ⟨63, [], none⟩ [(6, .pointer (some ⟨b15, 0, none⟩)), (7, .pointer (some ⟨b57, 0, none⟩)), (44, .int .i64 a0), (45, .int .i64 s534)] c ∧ Sym w0 M I I_ [pto b15 (.cells #[.int .i64 0, .int .i64 0, .slice none 0 0, .slice none 0 0, .slice none 0 0] 30 (0, 0)), pto b57 (.cells #[.int .i64 r38.Rows, .int .i64 r38.Cols, .slice p531 s530.length c532, .slice p419 s418.length c420, .slice p423 s422.length c424] 30 (0, 0)), OwnSl eI64 3 p531 c532 s530, OwnSl eI64 3 p419 c420 s418, OwnSl eI64 2 p423 c424 s422] w) (fun c w ho hs => ⟨I428, _, _, (.refl _), ho.sub ⟨r, r, r, r, trivial⟩, hs.pick (.c .z (.c .z (.c .z (.c .z (.c .z .n)))))⟩) ?_))))))
 rintro ⟨s530, s534⟩ next535 hd c w hst
 obtain ⟨I536, p531, c532, hl537, hok, hsym⟩ := hst
 have le538 := IH.le.trans le430 hl537
 have le539 := IH.le.trans hl429 hl537
 refine Cod.at hok hsym (.sr (.ks 1 r (.nilS [46, 45, 44, 7, 6] r r (.seq (.condP r hd (fun hb541 hd => ?_) fun hb541 hd => ?_)))))
 · refine .skipS [45, 44, 7, 6] r r (.seq (.block (.sr (.ks 2 r (.nilS [10, 45, 44, 7, 6] r r (.ownF (.s (.s .z)) fun hne542 => ?_))))))
   refine .ownF (.s (.s (.s .z))) fun hne543 => ?_
   refine .ownF (.s (.s (.s (.s .z)))) fun hne544 => ?_
   refine .dr [0, 1, 2, 3, 4, 5, 6, 7, 8, 9, 10, 11] 12 (.g r r r (fun _ => .fa un30 r sz27 r (o := 2) r r r .mk) (.g r r r (fun _ => .load1 ia27 r (.s .z) r r r .mk) (.fk 2 r ?_)))
   obtain ⟨h545, x546, hx547, hd⟩ := hd
   obtain ⟨b548, e549⟩ := hne542 (idx_ne hx547)
   cases e549
   refine .g r r r (fun _ => .ixa0 un27 sz3 r r h545 (idx_lt hx547 h545) r r .mk) (.g r r r (fun _ => .lo1 (j := 0) ia3 (.s (.s .z)) hx547 r r r r r .mk) (.g r r r (fun _ => .fa un30 r sz27 r (o := 2) r r r .mk) (.g r r r (fun _ => .load1 ia27 r (.s .z) r r r .mk) (.fk 1 r ?_))))
   obtain ⟨h550, x551, hx552, hd⟩ := hd
   refine .g r r r (fun _ => .ixa0 un27 sz3 r r h550 (idx_lt hx552 h550) r r .mk) (.g r r r (fun _ => .lo1 (j := 0) ia3 (.s (.s .z)) hx552 r r r r r .mk) (.fk 1 r (.e2 12 ?_)))
   obtain ⟨h553, x554, hx555, hd⟩ := hd
   exact .ixa0 un27 sz3 r r h553 (idx_lt hx555 h553) r r (.stO1 (j := 0) (v' := (w64 (x546 + x551))) sz3 (.s (.s .z)) hx555 r r r (.t .nil) r (.sub (E' := [(6, _), (7, _), (44, _), (45, _), (10, _), (48, _), (49, .slice (some ⟨b548, 0, none⟩) (s530.set ((w64 (s534 + 1)).toNat) (w64 (x546 + x551))).length c532), (50, _), (51, _), (52, _), (53, _), (54, _), (55, .slice (some ⟨b548, 0, none⟩) (s530.set ((w64 (s534 + 1)).toNat) (w64 (x546 + x551))).length c532), (56, _), (57, _), (58, _), (59, _), (60, _)]) ⟨r, r, r, r, r, r, (by simp only [List.length_set]; rfl), r, r, r, r, r, (by simp only [List.length_set]; rfl), r, r, r, r, r, trivial⟩ (.reat (.s .z) (B := pto b57 (.cells #[.int .i64 r38.Rows, .int .i64 r38.Cols, .slice (some ⟨b548, 0, none⟩) (s530.set ((w64 (s534 + 1)).toNat) (w64 (x546 + x551))).length c532, .slice p419 s418.length c420, .slice p423 s422.length c424] 30 (0, 0))) (by simp only [List.length_set]) (.nilS [45, 44, 7, 6] r r (.region (.ks 2 r (.nil' fun c w ho hs => ⟨((s530.set ((w64 (s534 + 1)).toNat) (w64 (x546 + x551))), w64 (s534 + 1)), hd, I536, _, _, hl537, ho.sub ⟨r, r, r, r, trivial⟩, hs.pick (.c .z (.c .z (.c .z (.c .z (.c .z .n)))))⟩)))))))
 refine .exitS [7, 6] r r (.sr (.loadW ia30 sz30 r (.s .z) r r r (.storeA sz30 r r .z (.t (.t (.t (.t (.t .nil))))) r r (.nilS [6] r r (.drop (.s .z) (.pub (.s .z) fun I556 hl557 R558 => ?_))))))
 have le559 := IH.le.trans le538 hl557
 have le560 := IH.le.trans le539 hl557
 have le561 := IH.le.trans hl537 hl557
 refine .pub (.s .z) fun I562 hl563 R564 => ?_
 have le565 := IH.le.trans le559 hl563
 have le566 := IH.le.trans le560 hl563
 have le567 := IH.le.trans le561 hl563
 replace R558 := R558.mono hl563
 refine .pub (.s .z) fun I568 hl569 R570 => ?_
 have le571 := IH.le.trans le565 hl569
 have le572 := IH.le.trans le566 hl569
 have le573 := IH.le.trans le567 hl569
 replace R558 := R558.mono hl569
 replace R564 := R564.mono hl569
 exact .ret (pret results69 (.w ia30 sz30 r .z r .n) le571 ⟨({ Rows := r38.Rows, Cols := r38.Cols, Start := s530, Col := s418, Val := s422 } : Rows), _, _, _, _, _, _, r, R558, R564, R570, hd⟩)

theorem W_csr_Cut {I : IH} {a0 : Rows} {a1 : Int × Int} {a2 : Int × Int} {p1 : Option Addr} {c2 : Nat} {p4 : Option Addr} {c5 : Nat} {p7 : Option Addr} {c8 : Nat} {Q : Rows → Prop} (R3 : RepSl eI64 I p1 c2 a0.Start) (R6 : RepSl eI64 I p4 c5 a0.Col) (R9 : RepSl eI64 I p7 c8 a0.Val) (hd : csr_Cut a0 a1 a2 Q) :
  PFun prog 23 [.agg #[.int .i64 a0.Rows, .int .i64 a0.Cols, .slice p1 a0.Start.length c2, .slice p4 a0.Col.length c5, .slice p7 a0.Val.length c8], .agg #[.int .i64 a1.1, .int .i64 a1.2], .agg #[.int .i64 a2.1, .int .i64 a2.2]] I (o7_ Q) := by
 refine Fun.enter func23 r ntmps23 r (.c (.c (.c .n))) fun w0 M => ?_
 refine .sr (.boxA r r r fun b27 => ?_)
 refine .boxA r r r fun b29 => ?_
 refine .boxA r r r fun b31 => ?_
 refine .allocA zv30 r r fun b33 => ?_
 refine .nilS [6, 5, 4, 3] r r (.sr (.loadW ia30 sz30 r (.s (.s (.s .z))) r r r ?_))
 have hw66 := W_csr_sure (I := I) R3 R6 R9 hd
 refine .call call66 r hw66 r r fun v55 I52 hl53 hv54 => ?_
 obtain ⟨r51, p57, c58, p60, c61, p63, c64, rfl, R59, R62, R65, hd⟩ := hv54
 replace R3 := R3.mono hl53
 replace R6 := R6.mono hl53
 replace R9 := R9.mono hl53
 refine .storeA sz30 r r (.s (.s (.s .z))) (.t (.t (.t (.t (.t .nil))))) r r (.nilS [6, 5, 4, 3] r r (.sr (.loadW isAgg46 sz46 r (.s (.s .z)) r r r (.fa un30 r sz3 r (o := 0) r r r (.load1 ia3 r (.s (.s (.s .z))) r r r ?_)))))
 have hw72 := W_csr_bounds (I := I52) hd
 refine .callP call67 r hw72 r r fun v73 hv74 => ?_
 obtain ⟨r71, rfl, hd⟩ := hv74
 refine .ks 5 r (.nilS [8, 7, 6, 5, 3] r r (.drop (.s (.s .z)) (.sr (.loadW isAgg46 sz46 r (.s .z) r r r (.fa un30 r sz3 r (o := 1) r r r (.load1 ia3 r (.s (.s .z)) r r r ?_))))))
 have hw80 := W_csr_bounds (I := I52) hd
 refine .callP call67 r hw80 r r fun v81 hv82 => ?_
 obtain ⟨r79, rfl, hd⟩ := hv82
 refine .ks 5 r (.nilS [10, 9, 8, 7, 6, 3] r r (.drop (.s .z) (.sr (.ks 1 r (.nilS [11, 10, 9, 8, 7, 6, 3] r r (.seq (.sr (.ks 2 r (.nilS [32, 31, 11, 10, 9, 8, 7, 6, 3] r r ?_)))))))))
 refine .block (.own0 eTriple 91 (.loop hd (fun (s : (List Triple) × Int) c w => match s with | (s440, s444) => ∃ I_ p441 c442, IH.le I52 I_ ∧ Ok ⟨74, [], none⟩ [(3, .pointer (some ⟨b27, 0, none⟩)), (6, .pointer (some ⟨b33, 0, none⟩)), (7, .int .i64 r71.1), (8, .int .i64 r71.2), (9, .int .i64 r79.1), (10, .int .i64 r79.2), (11, .slice p441 s440.length c442), (31, .int .i64 r71.2), (32, .int .i64 s444)] c ∧ Sym w0 M I I_ [pto b27 (.cells #[.int .i64 r51.Rows, .int .i64 r51.Cols, .slice p57 r51.Start.length c58, .slice p60 r51.Col.length c61, .slice p63 r51.Val.length c64] 30 (0, 0)), pto b33 (.cells #[.int .i64 0, .int .i64 0, .slice none 0 0, .slice none 0 0, .slice none 0 0] 30 (0, 0)), OwnSl eTriple 91 p441 c442 s440] w) (fun c w ho hs => ⟨I52, _, _, (.refl _), ho.sub ⟨r, r, r, r, r, r, r, r, r, trivial⟩, hs.pick (.c (.s (.s .z)) (.c (.s .z) (.c .z .n)))⟩) ?_))
 rintro ⟨s440, s444⟩ next446 hd c w hst
 obtain ⟨I447, p441, c442, hl448, hok, hsym⟩ := hst
 have le449 := IH.le.trans hl53 hl448
 replace R59 := R59.mono hl448
 replace R62 := R62.mono hl448
 replace R65 := R65.mono hl448
 refine Cod.at hok hsym (.sr (.ks 1 r (.nilS [33, 32, 31, 11, 10, 9, 8, 7, 6, 3] r r (.seq (.condP r hd (fun hb451 hd => ?_) fun hb451 hd => ?_)))))
 · refine .skipS [32, 31, 11, 10, 9, 8, 7, 6, 3] r r (.seq (.block (.sr (.ks 2 r (.nilS [12, 32, 31, 11, 10, 9, 8, 7, 6, 3] r r (.sr (.loadW ia30 sz30 r .z r r r (.ks 3 r ?_))))))))
   have hw473 := W_csr_Row (I := I447) R59 R62 R65 hd
   refine .call call68 r hw473 r r fun v468 I465 hl466 hv467 => ?_
   obtain ⟨r464, p470, c471, rfl, R472, hd⟩ := hv467
   have le474 := IH.le.trans le449 hl466
   have le475 := IH.le.trans hl448 hl466
   replace R59 := R59.mono hl466
   replace R62 := R62.mono hl466
   replace R65 := R65.mono hl466
   refine .len un61 r r r r (.ks 1 r (.nilS [41, 40, 39, 12, 32, 31, 11, 10, 9, 8, 7, 6, 3] r r (.block (.loop hd (fun (s : (List Triple) × Int) c w => match s with | (s571, s575) => ∃ I_ p572 c573, IH.le I465 I_ ∧ Ok ⟨74, [], none⟩ [(3, .pointer (some ⟨b27, 0, none⟩)), (6, .pointer (some ⟨b33, 0, none⟩)), (7, .int .i64 r71.1), (8, .int .i64 r71.2), (9, .int .i64 r79.1), (10, .int .i64 r79.2), (11, .slice p572 s571.length c573), (12, .int .i64 s444), (31, .int .i64 r71.2), (32, .int .i64 s444), (39, .slice p470 r464.length c471), (40, .int .i64 (r464.length : Int)), (41, .int .i64 s575)] c ∧ Sym w0 M I I_ [pto b27 (.cells #[.int .i64 r51.Rows, .int .i64 r51.Cols, .slice p57 r51.Start.length c58, .slice p60 r51.Col.length c61, .slice p63 r51.Val.length c64] 30 (0, 0)), pto b33 (.cells #[.int .i64 0, .int .i64 0, .slice none 0 0, .slice none 0 0, .slice none 0 0] 30 (0, 0)), OwnSl eTriple 91 p572 c573 s571] w) (fun c w ho hs => ⟨I465, _, _, (.refl _), ho.sub ⟨r, r, r, r, r, r, r, r, r, r, r, r, r, trivial⟩, hs.pick (.c .z (.c .z (.c .z .n)))⟩) ?_))))
   rintro ⟨s571, s575⟩ next576 hd c w hst
   obtain ⟨I577, p572, c573, hl578, hok, hsym⟩ := hst
   have le579 := IH.le.trans le474 hl578
   have le580 := IH.le.trans le475 hl578
   replace R59 := R59.mono hl578
   replace R62 := R62.mono hl578
   replace R65 := R65.mono hl578
   replace R472 := R472.mono hl578
   refine Cod.at hok hsym (.sr (.ks 1 r (.nilS [42, 41, 40, 39, 32, 31, 12, 11, 10, 9, 8, 7, 6, 3] r r (.seq (.condP r hd (fun hb582 hd => ?_) fun hb582 hd => ?_)))))
   · refine .skipS [41, 40, 39, 32, 31, 12, 11, 10, 9, 8, 7, 6, 3] r r (.seq (.block (.sr ?_)))
     obtain ⟨h594, x595, hx596, hd⟩ := hd
     obtain ⟨b597, o598, cs599, e600, hC601, hr602⟩ := R472.2 _ _ hx596
     cases hr602
     refine .ixa un61 sz115 r e600 r h594 (idx_lt hx596 h594) r r (.ldW isAgg115 sz115 hC601 r r r r (.allocA zeroValue115 r r fun b603 => ?_))
     refine .storeA sz115 r r .z (.t (.t .nil)) r r (.nilS [14, 41, 40, 39, 32, 31, 12, 11, 10, 9, 8, 7, 6, 3] r r (.seq ?_))
     refine Cod.joinQ (σ := Bool) hd (fun (s607 : Bool) c w => ∃ I_, IH.le I577 I_ ∧ Ok ⟨74, [], none⟩ [(3, .pointer (some ⟨b27, 0, none⟩)), (6, .pointer (some ⟨b33, 0, none⟩)), (7, .int .i64 r71.1), (8, .int .i64 r71.2), (9, .int .i64 r79.1), (10, .int .i64 r79.2), (11, .slice p572 s571.length c573), (12, .int .i64 s444), (14, .pointer (some ⟨b603, 0, none⟩)), (31, .int .i64 r71.2), (32, .int .i64 s444), (39, .slice p470 r464.length c471), (40, .int .i64 (r464.length : Int)), (41, .int .i64 s575), (56, .bool s607)] c ∧ Sym w0 M I I_ [pto b27 (.cells #[.int .i64 r51.Rows, .int .i64 r51.Cols, .slice p57 r51.Start.length c58, .slice p60 r51.Col.length c61, .slice p63 r51.Val.length c64] 30 (0, 0)), pto b33 (.cells #[.int .i64 0, .int .i64 0, .slice none 0 0, .slice none 0 0, .slice none 0 0] 30 (0, 0)), OwnSl eTriple 91 p572 c573 s571, pto b603 (.cells #[.int .i64 x595.At, .int .i64 x595.Val] 115 (0, 0))] w) (fun k608 hd => ?_) ?_
     · skip
       refine .region (.fa un115 r sz3 r (o := 0) r r r (.load1 ia3 r .z r r r (.ks 3 r ?_)))
       refine splitP hd (fun hb609 hd => ?_) fun hb609 hd => ?_
       · rw [hb609]
         exact .gyes r r r (.fa un115 r sz3 r (o := 0) r r r (.gyes r r r (.load1 ia3 r .z r r r (.ks 5 r (.nil' fun c w ho hs => ⟨(decide ((w64 (x595.At - r79.1)) < r79.2)), hd, I577, (.refl _), ho.sub ⟨r, r, r, r, r, r, r, r, r, r, r, r, r, r, r, trivial⟩, hs.pick (.c (.s .z) (.c (.s .z) (.c (.s .z) (.c .z .n))))⟩)))))
       rw [hb609]
       exact .ks 7 r (.nil' fun c w ho hs => ⟨false, hd, I577, (.refl _), ho.sub ⟨r, r, r, r, r, r, r, r, r, r, r, r, r, r, r, trivial⟩, hs.pick (.c (.s .z) (.c (.s .z) (.c (.s .z) (.c .z .n))))⟩)
     rintro s607 hd c w hst
     obtain ⟨I610, hl611, hok, hsym⟩ := hst
     have le612 := IH.le.trans le579 hl611
     have le613 := IH.le.trans le580 hl611
     have le614 := IH.le.trans hl578 hl611
     replace R59 := R59.mono hl611
     replace R62 := R62.mono hl611
     replace R65 := R65.mono hl611
     replace R472 := R472.mono hl611
     refine Cod.at hok hsym (.condP r hd (fun hb615 hd => ?_) fun hb615 hd => ?_)
     · refine .region (.ks 2 r (.fa un115 r sz3 r (o := 0) r r r (.load1 ia3 r (.s (.s (.s .z))) r r r (.ks 2 r (.fa un115 r sz2 r (o := 1) r r r (.load1 ia2 r (.s (.s (.s .z))) r r r (.build zv91 un91 BI91 (.c r r r (.t .nil) (.c r r r (.s (.t .nil)) (.c r r r (.s (.s (.t .nil))) .n))) (by exact ⟨⟨_, _, r, r, r⟩, ⟨⟨_, _, r, r, r⟩, ⟨⟨_, _, r, r, r⟩, trivial⟩⟩⟩) r r (.buildSlice 1 un24 sz91 zv91 r r (.c r r r .n) r r fun b616 => ?_))))))))
       obtain ⟨hl618, hd⟩ := hd
       refine .append (ys := [({ Row := s444, Col := w64 (x595.At - r79.1), Val := x595.Val } : Triple)]) 24 (.s (.s (.s .z))) un24 un24 IN91 r r r r r r r r r (.box .z (.one r) r) hl618 r r fun p619 c620 => ?_
       exact .ks 1 r (.nilS [11, 41, 40, 39, 32, 31, 12, 10, 9, 8, 7, 6, 3] r r (.drop (.s .z) (.drop (.s (.s (.s .z))) (.region (.ks 2 r (.nil' fun c w ho hs => ⟨((s571 ++ ([({ Row := s444, Col := w64 (x595.At - r79.1), Val := x595.Val } : Triple)])), w64 (s575 + 1)), hd, I610, _, _, le614, ho.sub ⟨r, r, r, r, r, r, r, r, r, r, r, r, r, trivial⟩, hs.pick (.c (.s .z) (.c (.s .z) (.c .z .n)))⟩))))))
     exact .skipS [41, 40, 39, 32, 31, 12, 11, 10, 9, 8, 7, 6, 3] r r (.drop (.s (.s (.s .z))) (.region (.ks 2 r (.nil' fun c w ho hs => ⟨(s571, w64 (s575 + 1)), hd, I610, _, _, le614, ho.sub ⟨r, r, r, r, r, r, r, r, r, r, r, r, r, trivial⟩, hs.pick (.c .z (.c .z (.c .z .n)))⟩))))
   exact .exitS [32, 31, 11, 10, 9, 8, 7, 6, 3] r r (.region (.ks 2 r (.nil' fun c w ho hs => ⟨(s571, w64 (s444 + 1)), hd, I577, _, _, le580, ho.sub ⟨r, r, r, r, r, r, r, r, r, trivial⟩, hs.pick (.c .z (.c .z (.c .z .n)))⟩)))
 refine .exitS [11, 10, 8, 6] r r (.drop .z (.sr (.ks 3 r (.pub (.s .z) fun I622 hl623 R624 => ?_))))
 have le625 := IH.le.trans le449 hl623
 have le626 := IH.le.trans hl448 hl623
 have hw642 := W_csr_built (I := I622) R624 hd
 refine .call call69 r hw642 r r fun v631 I628 hl629 hv630 => ?_
 obtain ⟨r627, p633, c634, p636, c637, p639, c640, rfl, R635, R638, R641, hd⟩ := hv630
 have le643 := IH.le.trans le625 hl629
 have le644 := IH.le.trans le626 hl629
 replace R624 := R624.mono hl629
 exact .storeA sz30 r r .z (.t (.t (.t (.t (.t .nil))))) r r (.nilS [6] r r (.ret (pret results23 (.w ia30 sz30 r .z r .n) le643 ⟨r627, _, _, _, _, _, _, r, R635, R638, R641, hd⟩)))

theorem W_gemm_sure {I : IH} {a0 : List Rows} {p1 : Option Addr} {c2 : Nat} {Q : (List Rows) → Prop} (R3 : RepSl eRows I p1 c2 a0) (hd : gemm_sure a0 Q) :
  PFun prog 33 [.slice p1 a0.length c2] I (fun I_ v => ∃ r p4 c5, v = .slice p4 r.length c5 ∧ RepSl eRows I_ p4 c5 r ∧ Q r) := by
 refine Fun.enter func33 r ntmps33 r (.c .n) fun w0 M => ?_
 refine .sr (.ks 1 r (.nilS [0] r r (.sr (.ks 1 r (.nilS [3, 0] r r (.seq (.sr (.ks 1 r (.len un80 r r r r ?_)))))))))
 refine .ks 1 r (.nilS [8, 7, 6, 3] r r (.block (.own0 eRows 30 (.loop hd (fun (s : (List Rows) × Int) c w => match s with | (s174, s178) => ∃ I_ p175 c176, IH.le I I_ ∧ Ok ⟨25, [], none⟩ [(3, .slice p175 s174.length c176), (6, .slice p1 a0.length c2), (7, .int .i64 (a0.length : Int)), (8, .int .i64 s178)] c ∧ Sym w0 M I I_ [OwnSl eRows 30 p175 c176 s174] w) (fun c w ho hs => ⟨I, _, _, (.refl _), ho.sub ⟨r, r, r, r, trivial⟩, hs.pick (.c .z .n)⟩) ?_))))
 rintro ⟨s174, s178⟩ next180 hd c w hst
 obtain ⟨I181, p175, c176, hl182, hok, hsym⟩ := hst
 replace R3 := R3.mono hl182
 refine Cod.at hok hsym (.sr (.ks 1 r (.nilS [9, 8, 7, 6, 3] r r (.seq (.condP r hd (fun hb184 hd => ?_) fun hb184 hd => ?_)))))
 · refine .skipS [8, 7, 6, 3] r r (.seq (.block (.sr ?_)))
   obtain ⟨h205, x206, hx207, hd⟩ := hd
   obtain ⟨b208, o209, cs210, e211, hC212, hr213⟩ := R3.2 _ _ hx207
   obtain ⟨p214, c215, p217, c218, p220, c221, rfl, R216, R219, R222⟩ := hr213
   refine .ixa un80 sz30 r e211 r h205 (idx_lt hx207 h205) r r (.ldW ia30 sz30 hC212 r r r r (.allocA zv30 r r fun b223 => ?_))
   refine .storeA sz30 r r .z (.t (.t (.t (.t (.t .nil))))) r r (.nilS [5, 8, 7, 6, 3] r r (.seq (.sr (.loadW ia30 sz30 r .z r r r ?_))))
   have hw226 := W_csr_Right (I := I181) R216 R219 R222 hd
   refine .callP call81 r hw226 r r fun v227 hv228 => ?_
   obtain ⟨r225, rfl, hd⟩ := hv228
   refine .ks 1 r (.nilS [14, 5, 8, 7, 6, 3] r r (.condP r hd (fun hb229 hd => ?_) fun hb229 hd => ?_))
   · refine .region (.loadW ia30 sz30 r .z r r r (.buildArr zv46 un46 sz3 .n r r (.buildArr zv46 un46 sz3 .n r r ?_)))
     have hw245 := W_csr_Cut (I := I181) R216 R219 R222 hd
     refine .call call23 r hw245 r r fun v234 I231 hl232 hv233 => ?_
     obtain ⟨r230, p236, c237, p239, c240, p242, c243, rfl, R238, R241, R244, hd⟩ := hv233
     have le246 := IH.le.trans hl182 hl232
     replace R3 := R3.mono hl232
     replace R216 := R216.mono hl232
     replace R219 := R219.mono hl232
     replace R222 := R222.mono hl232
     refine .storeA sz30 r r .z (.t (.t (.t (.t (.t .nil))))) r r (.nilS [5, 8, 7, 6, 3] r r (.region (.ks 1 r (.loadW ia30 sz30 r .z r r r (.buildSlice 1 un80 sz30 zv30 r r (.c r r r .n) r r fun b247 => ?_)))))
     obtain ⟨hl249, hd⟩ := hd
     refine .append (ys := [r230]) 88 (.s (.s .z)) un80 un80 IN30 r r r r r r r r r (.box .z (.one ⟨_, _, _, _, _, _, r, R238, R241, R244⟩) r) hl249 r r fun p250 c251 => ?_
     exact .ks 1 r (.nilS [3, 8, 7, 6] r r (.drop (.s .z) (.drop (.s .z) (.region (.ks 2 r (.nil' fun c w ho hs => ⟨((s174 ++ ([r230])), w64 (s178 + 1)), hd, I231, _, _, le246, ho.sub ⟨r, r, r, r, trivial⟩, hs.pick (.c .z .n)⟩))))))
   refine .skipS [5, 8, 7, 6, 3] r r (.region (.ks 1 r (.loadW ia30 sz30 r .z r r r (.buildSlice 1 un80 sz30 zv30 r r (.c r r r .n) r r fun b253 => ?_))))
   obtain ⟨hl255, hd⟩ := hd
   refine .append (ys := [x206]) 88 (.s (.s .z)) un80 un80 IN30 r r r r r r r r r (.box .z (.one ⟨_, _, _, _, _, _, r, R216, R219, R222⟩) r) hl255 r r fun p256 c257 => ?_
   exact .ks 1 r (.nilS [3, 8, 7, 6] r r (.drop (.s .z) (.drop (.s .z) (.region (.ks 2 r (.nil' fun c w ho hs => ⟨((s174 ++ ([x206])), w64 (s178 + 1)), hd, I181, _, _, hl182, ho.sub ⟨r, r, r, r, trivial⟩, hs.pick (.c .z .n)⟩))))))
 refine .exitS [3] r r (.sr (.ks 2 r (.nilS [2] r r (.pub .z fun I259 hl260 R261 => ?_))))
 have le262 := IH.le.trans hl182 hl260
 exact .ret (pret results33 (.t r .n) le262 ⟨s174, _, _, r, R261, hd⟩)

theorem W_ring_Is {I : IH} {a0 : Int} {Q : Bool → Prop}  (hd : ring_Is a0 Q) :
  PFun prog 34 [.int .i64 a0] I (fun _ => o1_ Q) := by
 refine Fun.enter func34 r ntmps34 r (.c .n) fun w0 M => ?_
 refine .sr (.ks 1 r (.nilS [0] r r (.sr (.ks 3 r ?_))))
 refine splitP hd (fun hb1 hd => ?_) fun hb1 hd => ?_
 · rw [hb1]
   exact .ks 4 r (.nilS [2] r r (.ret (pret results34 (.t r .n) (.refl _) ⟨(decide (a0 < 6)), r, hd⟩)))
 rw [hb1]
 exact .ks 4 r (.nilS [2] r r (.ret (pret results34 (.t r .n) (.refl _) ⟨false, r, hd⟩)))

theorem W_gemm_part {I : IH} {a0 : Rows} {a1 : Int} {p1 : Option Addr} {c2 : Nat} {p4 : Option Addr} {c5 : Nat} {p7 : Option Addr} {c8 : Nat} {Q : ((List Int) × (List Int)) → Prop} (R3 : RepSl eI64 I p1 c2 a0.Start) (R6 : RepSl eI64 I p4 c5 a0.Col) (R9 : RepSl eI64 I p7 c8 a0.Val) (hd : gemm_part a0 a1 Q) :
  PFun prog 35 [.agg #[.int .i64 a0.Rows, .int .i64 a0.Cols, .slice p1 a0.Start.length c2, .slice p4 a0.Col.length c5, .slice p7 a0.Val.length c8], .int .i64 a1] I (o9_ Q) := by
 refine Fun.enter func35 r ntmps35 r (.c (.c .n)) fun w0 M => ?_
 refine .sr (.boxA r r r fun b18 => ?_)
 refine .ks 2 r (.nilS [2, 1] r r (.seq (.dr [0, 1, 2, 3, 4, 5, 6, 7, 8, 9, 10, 11] 12 (.g r r r (fun _ => .fa un30 r sz27 r (o := 2) r r r .mk) (.g r r r (fun _ => .load1 ia27 r .z r r r .mk) (.fk 1 r ?_))))))
 obtain ⟨h38, x39, hx40, hd⟩ := hd
 obtain ⟨b41, o42, cs43, e44, hC45, hr46⟩ := R3.2 _ _ hx40
 cases hr46
 refine .g r r r (fun _ => .ixa un27 sz3 r e44 r h38 (idx_lt hx40 h38) r r .mk) (.g r r r (fun _ => .ld1 (j := 0) ia3 hC45 r r r r r .mk) (.g r r r (fun _ => .fa un30 r sz27 r (o := 2) r r r .mk) (.g r r r (fun _ => .load1 ia27 r .z r r r .mk) (.fk 2 r ?_))))
 obtain ⟨h47, x48, hx49, hd⟩ := hd
 obtain ⟨b50, o51, cs52, e53, hC54, hr55⟩ := R3.2 _ _ hx49
 cases hr55
 refine .g r r r (fun _ => .ixa un27 sz3 r e53 r h47 (idx_lt hx49 h47) r r .mk) (.g r r r (fun _ => .ld1 (j := 0) ia3 hC54 r r r r r .mk) (.fk 1 r (.e2 12 (.ks 1 r (.nilS [7, 6, 2] r r (.seq (.dr [0, 1, 2, 3, 4, 5, 6, 7, 8, 9, 10, 11, 12] 13 (.g r r r (fun _ => .fa un30 r sz27 r (o := 3) r r r .mk) (.g r r r (fun _ => .load1 ia27 r .z r r r .mk) ?_)))))))))
 refine .fk 3 r ?_
 obtain ⟨h56, h57, h58, hd⟩ := hd
 have h64 : Int.toNat x39 ≤ Int.toNat x48 := by omega
 have h65 : Int.toNat x48 ≤ a0.Col.length := by omega
 obtain ⟨p59, c60, e62, e63, R61⟩ := RepSl.sliceW R6 (Int.toNat x39) (Int.toNat x48) (Int.toNat x48) h64 h65 (.inr rfl)
 refine .g r r r (fun _ => .sliceW (L := Int.toNat x39) (H := Int.toNat x48) (cm := Int.toNat x48) un27 sz3 r r R6.1 r r r (.inr ⟨_, _, r, h56, r⟩) (.inr ⟨_, _, r, (by omega), r⟩) (.inr r) h64 h65 r e62 e63 r r .mk) (.g r r r (fun _ => .fa un30 r sz28 r (o := 4) r r r .mk) (.g r r r (fun _ => .load1 ia28 r .z r r r .mk) (.fk 3 r ?_)))
 obtain ⟨h66, h67, h68, hd⟩ := hd
 have h74 : Int.toNat x39 ≤ Int.toNat x48 := by omega
 have h75 : Int.toNat x48 ≤ a0.Val.length := by omega
 obtain ⟨p69, c70, e72, e73, R71⟩ := RepSl.sliceW R9 (Int.toNat x39) (Int.toNat x48) (Int.toNat x48) h74 h75 (.inr rfl)
 exact .g r r r (fun _ => .sliceW (L := Int.toNat x39) (H := Int.toNat x48) (cm := Int.toNat x48) un28 sz2 r r R9.1 r r r (.inr ⟨_, _, r, h66, r⟩) (.inr ⟨_, _, r, (by omega), r⟩) (.inr r) h74 h75 r e72 e73 r r .mk) (.fk 1 r (.e2 13 (.ks 1 r (.nilS [5, 4] r r (.drop .z (.ret (pret results35 (.t r (.t r .n)) (.refl _) ⟨(((a0.Col.take x48.toNat).drop x39.toNat), ((a0.Val.take x48.toNat).drop x39.toNat)), _, _, _, _, r, R61, R71, hd⟩)))))))

theorem W_cmp_Or_int {I : IH} {a0 : List Int} {p1 : Option Addr} {c2 : Nat} {Q : Int → Prop} (R3 : RepSl eI64 I p1 c2 a0) (hd : cmp_Or_int a0 Q) :
  PFun prog 99 [.slice p1 a0.length c2] I (fun _ => o0_ Q) := by
 refine Fun.enter func99 r ntmps99 r (.c .n) fun w0 M => ?_
 refine .sr (.ks 1 r (.nilS [0] r r (.sr (.ks 1 r (.nilS [3, 0] r r (.seq (.sr (.ks 1 r (.len un27 r r r r ?_)))))))))
 refine .ks 1 r (.nilS [8, 7, 6, 3] r r (.block (.loop hd (fun (s31 : Int) c w => ∃ I_, IH.le I I_ ∧ Ok ⟨18, [], none⟩ [(3, .int .i64 0), (6, .slice p1 a0.length c2), (7, .int .i64 (a0.length : Int)), (8, .int .i64 s31)] c ∧ Sym w0 M I I_ [] w) (fun c w ho hs => ⟨I, (.refl _), ho.sub ⟨r, r, r, r, trivial⟩, hs.pick .n⟩) ?_)))
 rintro s31 next32 hd c w hst
 obtain ⟨I33, hl34, hok, hsym⟩ := hst
 replace R3 := R3.mono hl34
 refine Cod.at hok hsym (.sr (.ks 1 r (.nilS [9, 8, 7, 6, 3] r r (.seq (.condP r hd (fun hb36 hd => ?_) fun hb36 hd => ?_)))))
 · refine .skipS [8, 7, 6, 3] r r (.seq (.block (.sr ?_)))
   obtain ⟨h37, x38, hx39, hd⟩ := hd
   obtain ⟨b40, o41, cs42, e43, hC44, hr45⟩ := R3.2 _ _ hx39
   cases hr45
   refine .ixa un27 sz3 r e43 r h37 (idx_lt hx39 h37) r r (.ld1 (j := 0) ia3 hC44 r r r r r (.ks 1 r (.nilS [5, 8, 7, 6, 3] r r (.sr (.ks 3 r (.nilS [14, 5, 8, 7, 6, 3] r r (.condP r hd (fun hb46 hd => ?_) fun hb46 hd => ?_)))))))
   · exact .sr (.ks 2 r (.nilS [2] r r (.ret (pret results99 (.t r .n) hl34 ⟨x38, r, hd⟩))))
   exact .skipS [8, 7, 6, 3] r r (.region (.ks 2 r (.nil' fun c w ho hs => ⟨(w64 (s31 + 1)), hd, I33, hl34, ho.sub ⟨r, r, r, r, trivial⟩, hs.pick .n⟩)))
 exact .exitS [3] r r (.sr (.ks 2 r (.nilS [2] r r (.ret (pret results99 (.t r .n) hl34 ⟨0, r, hd⟩)))))

theorem W_cmp_isNaN_int64 {I : IH} {a0 : Int} {Q : Bool → Prop}  (hd : cmp_isNaN_int64 a0 Q) :
  PFun prog 164 [.int .i64 a0] I (fun _ => o1_ Q) := by
 refine Fun.enter func164 r ntmps164 r (.c .n) fun w0 M => ?_
 exact .sr (.ks 1 r (.nilS [0] r r (.sr (.ks 4 r (.nilS [2] r r (.ret (pret results164 (.t r .n) (.refl _) ⟨(a0 != a0), r, hd⟩)))))))

theorem W_cmp_Compare_int64 {I : IH} {a0 : Int} {a1 : Int} {Q : Int → Prop}  (hd : cmp_Compare_int64 a0 a1 Q) :
  PFun prog 153 [.int .i64 a0, .int .i64 a1] I (fun _ => o0_ Q) := by
 refine Fun.enter func153 r ntmps153 r (.c (.c .n)) fun w0 M => ?_
 refine .sr (.ks 1 r (.nilS [1, 0] r r (.sr (.ks 1 r ?_))))
 have hw6 := W_cmp_isNaN_int64 (I := I) hd
 refine .callP call164 r hw6 r r fun v7 hv8 => ?_
 obtain ⟨r5, rfl, hd⟩ := hv8
 refine .ks 1 r (.nilS [5, 1, 0] r r (.sr (.ks 1 r ?_)))
 have hw14 := W_cmp_isNaN_int64 (I := I) hd
 refine .callP call164 r hw14 r r fun v15 hv16 => ?_
 obtain ⟨r13, rfl, hd⟩ := hv16
 refine .ks 1 r (.nilS [6, 5, 1, 0] r r (.seq (.sr (.ks 1 r (.nilS [11, 6, 1, 0] r r (.condP r hd (fun hb19 hd => ?_) fun hb19 hd => ?_))))))
 · refine .seq (.sr (.ks 1 r (.nilS [12] r r (.condP r hd (fun hb20 hd => ?_) fun hb20 hd => ?_))))
   · exact .sr (.ks 1 r (.nilS [4] r r (.ret (pret results153 (.t r .n) (.refl _) ⟨0, r, hd⟩))))
   exact .skipS [] r r (.sr (.ks 1 r (.nilS [4] r r (.ret (pret results153 (.t r .n) (.refl _) ⟨(-1), r, hd⟩)))))
 refine .skipS [6, 1, 0] r r (.seq (.sr (.ks 1 r (.nilS [13, 1, 0] r r (.condP r hd (fun hb22 hd => ?_) fun hb22 hd => ?_)))))
 · exact .sr (.ks 1 r (.nilS [4] r r (.ret (pret results153 (.t r .n) (.refl _) ⟨1, r, hd⟩))))
 refine .skipS [1, 0] r r (.seq (.sr (.ks 3 r (.nilS [16, 1, 0] r r (.condP r hd (fun hb24 hd => ?_) fun hb24 hd => ?_)))))
 · exact .sr (.ks 1 r (.nilS [4] r r (.ret (pret results153 (.t r .n) (.refl _) ⟨(-1), r, hd⟩))))
 refine .skipS [1, 0] r r (.seq (.sr (.ks 3 r (.nilS [19] r r (.condP r hd (fun hb25 hd => ?_) fun hb25 hd => ?_)))))
 · exact .sr (.ks 1 r (.nilS [4] r r (.ret (pret results153 (.t r .n) (.refl _) ⟨1, r, hd⟩))))
 exact .skipS [] r r (.sr (.ks 1 r (.nilS [4] r r (.ret (pret results153 (.t r .n) (.refl _) ⟨0, r, hd⟩)))))

theorem W_cmp_isNaN_uint64 {I : IH} {a0 : Int} {Q : Bool → Prop}  (hd : cmp_isNaN_uint64 a0 Q) :
  PFun prog 165 [.int .u64 a0] I (fun _ => o1_ Q) := by
 refine Fun.enter func165 r ntmps165 r (.c .n) fun w0 M => ?_
 exact .sr (.ks 1 r (.nilS [0] r r (.sr (.ks 4 r (.nilS [2] r r (.ret (pret results165 (.t r .n) (.refl _) ⟨(a0 != a0), r, hd⟩)))))))

theorem W_cmp_Compare_uint64 {I : IH} {a0 : Int} {a1 : Int} {Q : Int → Prop}  (hd : cmp_Compare_uint64 a0 a1 Q) :
  PFun prog 154 [.int .u64 a0, .int .u64 a1] I (fun _ => o0_ Q) := by
 refine Fun.enter func154 r ntmps154 r (.c (.c .n)) fun w0 M => ?_
 refine .sr (.ks 1 r (.nilS [1, 0] r r (.sr (.ks 1 r ?_))))
 have hw6 := W_cmp_isNaN_uint64 (I := I) hd
 refine .callP call165 r hw6 r r fun v7 hv8 => ?_
 obtain ⟨r5, rfl, hd⟩ := hv8
 refine .ks 1 r (.nilS [5, 1, 0] r r (.sr (.ks 1 r ?_)))
 have hw14 := W_cmp_isNaN_uint64 (I := I) hd
 refine .callP call165 r hw14 r r fun v15 hv16 => ?_
 obtain ⟨r13, rfl, hd⟩ := hv16
 refine .ks 1 r (.nilS [6, 5, 1, 0] r r (.seq (.sr (.ks 1 r (.nilS [11, 6, 1, 0] r r (.condP r hd (fun hb19 hd => ?_) fun hb19 hd => ?_))))))
 · refine .seq (.sr (.ks 1 r (.nilS [12] r r (.condP r hd (fun hb20 hd => ?_) fun hb20 hd => ?_))))
   · exact .sr (.ks 1 r (.nilS [4] r r (.ret (pret results154 (.t r .n) (.refl _) ⟨0, r, hd⟩))))
   exact .skipS [] r r (.sr (.ks 1 r (.nilS [4] r r (.ret (pret results154 (.t r .n) (.refl _) ⟨(-1), r, hd⟩)))))
 refine .skipS [6, 1, 0] r r (.seq (.sr (.ks 1 r (.nilS [13, 1, 0] r r (.condP r hd (fun hb22 hd => ?_) fun hb22 hd => ?_)))))
 · exact .sr (.ks 1 r (.nilS [4] r r (.ret (pret results154 (.t r .n) (.refl _) ⟨1, r, hd⟩))))
 refine .skipS [1, 0] r r (.seq (.sr (.ks 3 r (.nilS [16, 1, 0] r r (.condP r hd (fun hb24 hd => ?_) fun hb24 hd => ?_)))))
 · exact .sr (.ks 1 r (.nilS [4] r r (.ret (pret results154 (.t r .n) (.refl _) ⟨(-1), r, hd⟩))))
 refine .skipS [1, 0] r r (.seq (.sr (.ks 3 r (.nilS [19] r r (.condP r hd (fun hb25 hd => ?_) fun hb25 hd => ?_)))))
 · exact .sr (.ks 1 r (.nilS [4] r r (.ret (pret results154 (.t r .n) (.refl _) ⟨1, r, hd⟩))))
 exact .skipS [] r r (.sr (.ks 1 r (.nilS [4] r r (.ret (pret results154 (.t r .n) (.refl _) ⟨0, r, hd⟩)))))

theorem W_wide_Compare {I : IH} {a0 : Wide} {a1 : Wide} {Q : Int → Prop}  (hd : wide_Compare a0 a1 Q) :
  PFun prog 124 [.agg (encWide a0).toArray, .agg (encWide a1).toArray] I (fun _ => o0_ Q) := by
 refine Fun.enter func124 r ntmps124 r (.c (.c .n)) fun w0 M => ?_
 refine .sr (.boxA r r r fun b5 => ?_)
 refine .boxA r r r fun b7 => ?_
 refine .ks 1 r (.nilS [3, 2] r r (.seq (.dr [0, 1, 2, 3, 5, 6, 7, 8, 4, 9, 10, 11] 12 (.g r r r (fun _ => .fa un57 r sz2 r (o := 0) r r r .mk) (.g r r r (fun _ => .load1 ia2 r (.s .z) r r r .mk) (.g r r r (fun _ => .fa un57 r sz2 r (o := 0) r r r .mk) (.g r r r (fun _ => .load1 ia2 r .z r r r .mk) (.g r r r (fun _ => .fa un57 r sz55 r (o := 1) r r r .mk) (.g r r r (fun _ => .load1 ia55 r (.s .z) r r r .mk) ?_)))))))))
 refine .g r r r (fun _ => .fa un57 r sz55 r (o := 1) r r r .mk) (.g r r r (fun _ => .load1 ia55 r .z r r r .mk) (.ww r fun ex => ?_))
 have hw10 := W_cmp_Compare_int64 (I := I) hd
 refine .callP call153 r hw10 r r fun v11 hv12 => ?_
 obtain ⟨r9, rfl, hd⟩ := hv12
 refine .so 2 r r r (.cg r r r r (fun _ => .load1 ia55 r .z r r r .mk) (.cg r r r r (fun _ => .fa un57 r sz55 r (o := 1) r r r .mk) (.cg r r r r (fun _ => .load1 ia55 r (.s .z) r r r .mk) (.cg r r r r (fun _ => .fa un57 r sz55 r (o := 1) r r r .mk) trivial)))) (.ww r fun ex => ?_)
 have hw14 := W_cmp_Compare_uint64 (I := I) hd
 refine .callP call154 r hw14 r r fun v15 hv16 => ?_
 obtain ⟨r13, rfl, hd⟩ := hv16
 refine .so 2 r r r trivial (.ww r fun ex => ?_)
 refine .buildSlice 2 un27 sz3 zv3 r r (.c r r r (.c r r r .n)) r r fun b17 => ?_
 refine .so 3 r r r trivial (.ww r fun ex => ?_)
 refine .pubB (El := eI64) (ys := ([r9, r13] : List Int)) (k := 2) .z (RepCs.cons (cs := [.int .i64 r9]) r (RepCs.cons (cs := [.int .i64 r13]) r .nil)) r fun I19 hl20 R21 => ?_
 have hw23 := W_cmp_Or_int (I := I19) R21 hd
 refine .callP call99 r hw23 r r fun v24 hv25 => ?_
 obtain ⟨r22, rfl, hd⟩ := hv25
 exact .so 2 r r r trivial (.e2 12 (.ks 1 r (.nilS [4] r r (.drop .z (.drop .z (.ret (pret results124 (.t r .n) hl20 ⟨r22, r, hd⟩)))))))

theorem W_ring_lesser {I : IH} {a0 : Wide} {a1 : Wide} {Q : Wide → Prop}  (hd : ring_lesser a0 a1 Q) :
  PFun prog 90 [.agg (encWide a0).toArray, .agg (encWide a1).toArray] I (fun _ => o4_ Q) := by
 refine Fun.enter func90 r ntmps90 r (.c (.c .n)) fun w0 M => ?_
 refine .sr (.boxA r r r fun b7 => ?_)
 refine .boxA r r r fun b9 => ?_
 refine .allocA zv57 r r fun b11 => ?_
 refine .nilS [4, 3, 2] r r (.seq (.sr (.loadW ia57 sz57 r (.s (.s .z)) r r r (.loadW ia57 sz57 r (.s .z) r r r ?_))))
 have hw14 := W_wide_Compare (I := I) hd
 refine .callP call124 r hw14 r r fun v15 hv16 => ?_
 obtain ⟨r13, rfl, hd⟩ := hv16
 refine .ks 1 r (.nilS [8, 4, 3, 2] r r (.condP r hd (fun hb17 hd => ?_) fun hb17 hd => ?_))
 · exact .sr (.loadW ia57 sz57 r (.s (.s .z)) r r r (.storeA sz57 r r .z (.t (.t .nil)) r r (.nilS [4] r r (.drop (.s .z) (.drop (.s .z) (.ret (pret results90 (.w ia57 sz57 r .z r .n) (.refl _) ⟨a0, r, hd⟩)))))))
 exact .skipS [4, 3] r r (.drop (.s (.s .z)) (.sr (.loadW ia57 sz57 r (.s .z) r r r (.storeA sz57 r r .z (.t (.t .nil)) r r (.nilS [4] r r (.drop (.s .z) (.ret (pret results90 (.w ia57 sz57 r .z r .n) (.refl _) ⟨a1, r, hd⟩))))))))

theorem W_wide_Of {I : IH} {a0 : Int} {Q : Wide → Prop}  (hd : wide_Of a0 Q) :
  PFun prog 45 [.int .i64 a0] I (fun _ => o4_ Q) := by
 refine Fun.enter func45 r ntmps45 r (.c .n) fun w0 M => ?_
 refine .sr (.allocA zv57 r r fun b1 => ?_)
 exact .nilS [2, 0] r r (.sr (.ks 1 r (.shr' r r (by decide) r r (.ks 1 r (.conv un2 un55 r r r (.build zv57 un57 BI57 (.c r r r (.t .nil) (.c r r r (.s (.t .nil)) .n)) (by exact ⟨⟨_, _, r, r, r⟩, ⟨⟨_, _, r, r, r⟩, trivial⟩⟩) r r (.storeA sz57 r r .z (.t (.t .nil)) r r (.nilS [2] r r (.ret (pret results45 (.w ia57 sz57 r .z r .n) (.refl _) ⟨({ Hi := shr .i64 a0 63, Lo := IntKind.wrap .u64 (a0) } : Wide), r, hd⟩))))))))))

theorem W_ring_truth {I : IH} {a0 : Bool} {Q : Wide → Prop}  (hd : ring_truth a0 Q) :
  PFun prog 91 [.bool a0] I (fun _ => o4_ Q) := by
 refine Fun.enter func91 r ntmps91 r (.c .n) fun w0 M => ?_
 refine .sr (.allocA zv57 r r fun b3 => ?_)
 refine .nilS [2, 0] r r (.seq (.sr (.ks 1 r (.nilS [3, 2] r r (.condP r hd (fun hb5 hd => ?_) fun hb5 hd => ?_)))))
 · refine .sr ?_
   have hw7 := W_wide_Of (I := I) hd
   refine .callP call45 r hw7 r r fun v8 hv9 => ?_
   obtain ⟨r6, rfl, hd⟩ := hv9
   exact .storeA sz57 r r .z (.t (.t .nil)) r r (.nilS [2] r r (.ret (pret results91 (.w ia57 sz57 r .z r .n) (.refl _) ⟨r6, r, hd⟩)))
 exact .skipS [2] r r (.sr (.build zv57 un57 BI57 .n (by exact trivial) r r (.storeA sz57 r r .z (.t (.t .nil)) r r (.nilS [2] r r (.ret (pret results91 (.w ia57 sz57 r .z r .n) (.refl _) ⟨({ Hi := 0, Lo := 0 } : Wide), r, hd⟩))))))

theorem W_wide_carry {I : IH} {a0 : Bool} {Q : Int → Prop}  (hd : wide_carry a0 Q) :
  PFun prog 125 [.bool a0] I (fun _ => o11_ Q) := by
 refine Fun.enter func125 r ntmps125 r (.c .n) fun w0 M => ?_
 refine .sr (.ks 1 r (.nilS [0] r r (.seq (.sr (.ks 1 r (.nilS [3] r r (.condP r hd (fun hb1 hd => ?_) fun hb1 hd => ?_)))))))
 · exact .sr (.ks 1 r (.nilS [2] r r (.ret (pret results125 (.t r .n) (.refl _) ⟨1, r, hd⟩))))
 exact .skipS [] r r (.sr (.ks 1 r (.nilS [2] r r (.ret (pret results125 (.t r .n) (.refl _) ⟨0, r, hd⟩)))))

theorem W_wide_Add {I : IH} {a0 : Wide} {a1 : Wide} {Q : Wide → Prop}  (hd : wide_Add a0 a1 Q) :
  PFun prog 92 [.agg (encWide a0).toArray, .agg (encWide a1).toArray] I (fun _ => o4_ Q) := by
 refine Fun.enter func92 r ntmps92 r (.c (.c .n)) fun w0 M => ?_
 refine .sr (.boxA r r r fun b7 => ?_)
 refine .boxA r r r fun b9 => ?_
 refine .allocA zv57 r r fun b11 => ?_
 refine .nilS [4, 3, 2] r r (.sr (.fa un57 r sz55 r (o := 1) r r r (.load1 ia55 r (.s (.s .z)) r r r (.fa un57 r sz55 r (o := 1) r r r (.load1 ia55 r (.s .z) r r r (.ks 2 r (.nilS [5, 4, 3, 2] r r (.seq (.dr [0, 1, 2, 3, 4, 5, 6, 7, 8, 9, 10, 14, 11, 12, 13, 15] 16 ?_)))))))))
 refine .g r r r (fun _ => .fa un57 r sz2 r (o := 0) r r r .mk) (.g r r r (fun _ => .load1 ia2 r (.s (.s .z)) r r r .mk) (.g r r r (fun _ => .conv un2 un55 r r r .mk) (.g r r r (fun _ => .fa un57 r sz2 r (o := 0) r r r .mk) (.g r r r (fun _ => .load1 ia2 r (.s .z) r r r .mk) (.g r r r (fun _ => .conv un2 un55 r r r .mk) (.fk 2 r (.g r r r (fun _ => .fa un57 r sz55 r (o := 1) r r r .mk) (.g r r r (fun _ => .load1 ia55 r (.s .z) r r r .mk) (.fk 2 r ?_)))))))))
 refine .ww r fun ex => ?_
 have hw14 := W_wide_carry (I := I) hd
 refine .callP call125 r hw14 r r fun v15 hv16 => ?_
 obtain ⟨r13, rfl, hd⟩ := hv16
 exact .so 3 r r r (.ck 2 r r (.cg r r r r (fun _ => .conv un2 un55 r r r .mk) (.cg r r r r (fun _ => .load1 ia2 r (.s .z) r r r .mk) (.cg r r r r (fun _ => .fa un57 r sz2 r (o := 0) r r r .mk) (.cg r r r r (fun _ => .conv un2 un55 r r r .mk) (.cg r r r r (fun _ => .load1 ia2 r (.s (.s .z)) r r r .mk) (.cg r r r r (fun _ => .fa un57 r sz2 r (o := 0) r r r .mk) trivial))))))) (.fk 1 r (.g r r r (fun _ => .conv un55 un2 r r r .mk) (.g r r r (fun _ => .build zv57 un57 BI57 (.c r r r (.t .nil) (.c r r r (.s (.t .nil)) .n)) (by exact ⟨⟨_, _, r, r, r⟩, ⟨⟨_, _, r, r, r⟩, trivial⟩⟩) r r .mk) (.e2 16 (.storeA sz57 r r .z (.t (.t .nil)) r r (.nilS [4] r r (.drop (.s .z) (.drop (.s .z) (.ret (pret results92 (.w ia57 sz57 r .z r .n) (.refl _) ⟨({ Hi := w64 (IntKind.wrap .u64 ((IntKind.wrap .u64 ((IntKind.wrap .u64 (a0.Hi)) + (IntKind.wrap .u64 (a1.Hi)))) + r13)), Lo := IntKind.wrap .u64 (a0.Lo + a1.Lo) } : Wide), r, hd⟩))))))))))

theorem W_ring_Add {I : IH} {a0 : Int} {a1 : Wide} {a2 : Wide} {Q : Wide → Prop}  (hd : ring_Add a0 a1 a2 Q) :
  PFun prog 46 [.int .i64 a0, .agg (encWide a1).toArray, .agg (encWide a2).toArray] I (fun _ => o4_ Q) := by
 refine Fun.enter func46 r ntmps46 r (.c (.c (.c .n))) fun w0 M => ?_
 refine .sr (.boxA r r r fun b7 => ?_)
 refine .boxA r r r fun b9 => ?_
 refine .allocA zv57 r r fun b11 => ?_
 refine .nilS [6, 5, 4, 0] r r (.seq (.sr (.ks 1 r (.nilS [7, 6, 5, 4] r r (.block (.seq ?_))))))
 refine Cod.joinQ (σ := Bool) hd (fun (s17 : Bool) c w => ∃ I_, IH.le I I_ ∧ Ok ⟨32, [], none⟩ [(4, .pointer (some ⟨b7, 0, none⟩)), (5, .pointer (some ⟨b9, 0, none⟩)), (6, .pointer (some ⟨b11, 0, none⟩)), (7, .int .i64 a0), (8, .bool s17)] c ∧ Sym w0 M I I_ [pto b7 (.cells #[.int .i64 a1.Hi, .int .u64 a1.Lo] 57 (0, 0)), pto b9 (.cells #[.int .i64 a2.Hi, .int .u64 a2.Lo] 57 (0, 0)), pto b11 (.cells #[.int .i64 0, .int .u64 0] 57 (0, 0))] w) (fun k18 hd => ?_) ?_
 · skip
   refine .sr (.ks 2 r (.nilS [8, 7, 6, 5, 4] r r (.condP r hd (fun hb19 hd => ?_) fun hb19 hd => ?_)))
   · exact .skip' fun c w ho hs => ⟨(a0 == 1), hd, I, (.refl _), ho.sub ⟨r, r, r, r, r, trivial⟩, hs.pick (.c (.s (.s .z)) (.c (.s .z) (.c .z .n)))⟩
   refine .sr (.ks 2 r (.nilS [8, 7, 6, 5, 4] r r (.condP r hd (fun hb20 hd => ?_) fun hb20 hd => ?_)))
   · exact .skip' fun c w ho hs => ⟨(a0 == 3), hd, I, (.refl _), ho.sub ⟨r, r, r, r, r, trivial⟩, hs.pick (.c (.s (.s .z)) (.c (.s .z) (.c .z .n)))⟩
   exact .region (.ks 2 r (.nil' fun c w ho hs => ⟨(a0 == 4), hd, I, (.refl _), ho.sub ⟨r, r, r, r, r, trivial⟩, hs.pick (.c (.s (.s .z)) (.c (.s .z) (.c .z .n)))⟩))
 rintro s17 hd c w hst
 obtain ⟨I21, hl22, hok, hsym⟩ := hst
 refine Cod.at hok hsym (.condP r hd (fun hb23 hd => ?_) fun hb23 hd => ?_)
 · refine .sr (.loadW ia57 sz57 r .z r r r (.loadW ia57 sz57 r (.s .z) r r r ?_))
   have hw25 := W_ring_lesser (I := I21) hd
   refine .callP call90 r hw25 r r fun v26 hv27 => ?_
   obtain ⟨r24, rfl, hd⟩ := hv27
   exact .storeA sz57 r r (.s (.s .z)) (.t (.t .nil)) r r (.nilS [6] r r (.drop .z (.drop .z (.ret (pret results46 (.w ia57 sz57 r .z r .n) hl22 ⟨r24, r, hd⟩)))))
 refine .sr (.ks 2 r (.nilS [15, 7, 6, 5, 4] r r (.condP r hd (fun hb28 hd => ?_) fun hb28 hd => ?_)))
 · refine .sr (.loadW ia57 sz57 r .z r r r (.loadW ia57 sz57 r (.s .z) r r r (.neV r r (EQ57 a1 a2) (EG57 _ _ _ _ _) r r r (.ks 1 r ?_))))
   refine splitP hd (fun hb29 hd => ?_) fun hb29 hd => ?_
   · rw [hb29]
     refine .ks 4 r ?_
     have hw31 := W_ring_truth (I := I21) hd
     refine .callP call91 r hw31 r r fun v32 hv33 => ?_
     obtain ⟨r30, rfl, hd⟩ := hv33
     exact .storeA sz57 r r (.s (.s .z)) (.t (.t .nil)) r r (.nilS [6] r r (.drop .z (.drop .z (.ret (pret results46 (.w ia57 sz57 r .z r .n) hl22 ⟨r30, r, hd⟩)))))
   rw [hb29]
   refine .gyes r r r (.loadW ia57 sz57 r .z r r r (.gyes r r r (.build zv57 un57 BI57 .n (by exact trivial) r r (.gyes r r r (.neV r r (EQ57 a1 ({ Hi := 0, Lo := 0 } : Wide)) (EG57 _ _ _ _ _) r r r (.ks 1 r ?_))))))
   have hw35 := W_ring_truth (I := I21) hd
   refine .callP call91 r hw35 r r fun v36 hv37 => ?_
   obtain ⟨r34, rfl, hd⟩ := hv37
   exact .storeA sz57 r r (.s (.s .z)) (.t (.t .nil)) r r (.nilS [6] r r (.drop .z (.drop .z (.ret (pret results46 (.w ia57 sz57 r .z r .n) hl22 ⟨r34, r, hd⟩)))))
 refine .sr (.ks 2 r (.nilS [26, 6, 5, 4] r r (.condP r hd (fun hb38 hd => ?_) fun hb38 hd => ?_)))
 · refine .sr (.loadW ia57 sz57 r .z r r r (.loadW ia57 sz57 r (.s .z) r r r ?_))
   have hw40 := W_wide_Add (I := I21) hd
   refine .callP call92 r hw40 r r fun v41 hv42 => ?_
   obtain ⟨r39, rfl, hd⟩ := hv42
   exact .storeA sz57 r r (.s (.s .z)) (.t (.t .nil)) r r (.nilS [6] r r (.drop .z (.drop .z (.ret (pret results46 (.w ia57 sz57 r .z r .n) hl22 ⟨r39, r, hd⟩)))))
 exact .skipS [6] r r (.drop .z (.drop .z (.sr (.build zv57 un57 BI57 .n (by exact trivial) r r (.storeA sz57 r r .z (.t (.t .nil)) r r (.nilS [6] r r (.ret (pret results46 (.w ia57 sz57 r .z r .n) hl22 ⟨({ Hi := 0, Lo := 0 } : Wide), r, hd⟩))))))))

theorem W_wide_halves {I : IH} {a0 : Int} {Q : (Int × Int) → Prop}  (hd : wide_halves a0 Q) :
  PFun prog 163 [.int .u64 a0] I (fun I_ v => ∃ r, v = .agg #[.int .u64 r.1, .int .u64 r.2] ∧ Q r) := by
 refine Fun.enter func163 r ntmps163 r (.c .n) fun w0 M => ?_
 refine .sr (.allocA zv200 r r fun b1 => ?_)
 refine .nilS [2, 0] r r (.sr (.ks 1 r (.shl' r r (by decide) r r (.shr' r r (by decide) r r (.ks 1 r (.shr' r r (by decide) r r (.buildArr zv200 un200 sz55 (.c r r r (.t .nil) (.c r r r (.s (.t .nil)) .n)) r r (.storeA sizeOf200 r r .z (.t (.t .nil)) r r (.nilS [2] r r ?_)))))))))
 exact .ret (pret results163 (.w isAgg200 sizeOf200 r .z r .n) (.refl _) ⟨(shr .u64 (shl .u64 a0 32) 32, shr .u64 a0 32), r, hd⟩)

theorem W_wide_product {I : IH} {a0 : Int} {a1 : Int} {Q : Wide → Prop}  (hd : wide_product a0 a1 Q) :
  PFun prog 150 [.int .u64 a0, .int .u64 a1] I (fun _ => o4_ Q) := by
 refine Fun.enter func150 r ntmps150 r (.c (.c .n)) fun w0 M => ?_
 refine .sr (.allocA zv57 r r fun b3 => ?_)
 refine .nilS [4, 1, 0] r r (.sr (.ks 1 r ?_))
 have hw18 := W_wide_halves (I := I) hd
 refine .callP call163 r hw18 r r fun v19 hv20 => ?_
 obtain ⟨r17, rfl, hd⟩ := hv20
 refine .ks 1 r ?_
 have hw22 := W_wide_halves (I := I) hd
 refine .callP call163 r hw22 r r fun v23 hv24 => ?_
 obtain ⟨r21, rfl, hd⟩ := hv24
 refine .allocA zv200 r r fun b25 => ?_
 refine .allocA zv200 r r fun b27 => ?_
 refine .storeA sizeOf200 r r (.s .z) (.t (.t .nil)) r r (.storeA sizeOf200 r r .z (.t (.t .nil)) r r (.nilS [6, 5, 4] r r (.sr (.ixArr (i := 0) un200 sz55 r r (by decide) (o := 0) r r r (.load1 ia55 r (.s .z) r r r (.ixArr (i := 0) un200 sz55 r r (by decide) (o := 0) r r r (.load1 ia55 r .z r r r (.ks 2 r (.nilS [7, 6, 5, 4] r r ?_)))))))))
 refine .seq (.dr [0, 1, 2, 3, 4, 5, 10, 6, 7, 8, 9, 999] 11 (.g r r r (fun _ => .ixArr (i := 1) un200 sz55 r r (by decide) (o := 1) r r r .mk) (.g r r r (fun _ => .load1 ia55 r (.s .z) r r r .mk) (.g r r r (fun _ => .ixArr (i := 0) un200 sz55 r r (by decide) (o := 0) r r r .mk) (.g r r r (fun _ => .load1 ia55 r .z r r r .mk) (.fk 2 r (.a (fun b => .pointer (some ⟨b, 0, none⟩)) (fun b => pto b (.cells #[.int .u64 0, .int .u64 0] 200 (0, 0))) r r r r (fun _ L hL ex => .allocA zv200 r r fun b => .mk (val := fun b => .pointer (some ⟨b, 0, none⟩)) (atom := fun b => pto b (.cells #[.int .u64 0, .int .u64 0] 200 (0, 0))) hL b) (.ww r fun ex => ?_))))))))
 have hw41 := W_wide_halves (I := I) hd
 refine .callP call163 r hw41 r r fun v42 hv43 => ?_
 obtain ⟨r40, rfl, hd⟩ := hv43
 refine .so 3 r r r (.ck 1 r r (.cg r r r r (fun _ => .load1 ia55 r .z r r r .mk) (.cg r r r r (fun _ => .ixArr (i := 0) un200 sz55 r r (by decide) (o := 0) r r r .mk) (.cg r r r r (fun _ => .load1 ia55 r (.s .z) r r r .mk) (.cg r r r r (fun _ => .ixArr (i := 1) un200 sz55 r r (by decide) (o := 1) r r r .mk) trivial))))) (.g r r r (fun _ => .index1 (i := 1) un200 sz55 ia55 r r (by decide) r r r .mk) (.fk 1 r (.ww r fun ex => ?_)))
 have hw45 := W_wide_halves (I := I) hd
 refine .callP call163 r hw45 r r fun v46 hv47 => ?_
 obtain ⟨r44, rfl, hd⟩ := hv47
 refine .so 3 r r r trivial (.b r fun b48 => DrawD.nop (.e2 11 (.storeA sizeOf200 r r (.s (.s (.s .z))) (.t (.t .nil)) r r (.nilS [8, 7, 6, 5, 4] r r (.sr (.ixArr (i := 0) un200 sz55 r r (by decide) (o := 0) r r r (.load1 ia55 r (.s .z) r r r (.ixArr (i := 1) un200 sz55 r r (by decide) (o := 1) r r r (.load1 ia55 r .z r r r ?_)))))))))
 refine .ks 1 r (.ixArr (i := 0) un200 sz55 r r (by decide) (o := 0) r r r (.load1 ia55 r (.s (.s (.s .z))) r r r (.ks 1 r ?_)))
 have hw56 := W_wide_halves (I := I) hd
 refine .callP call163 r hw56 r r fun v57 hv58 => ?_
 obtain ⟨r55, rfl, hd⟩ := hv58
 refine .allocA zv200 r r fun b59 => ?_
 refine .storeA sizeOf200 r r .z (.t (.t .nil)) r r (.nilS [9, 8, 7, 6, 5, 4] r r (.seq (.dr [0, 1, 2, 3, 4, 5, 6, 7, 8, 9, 10, 11, 12, 13, 14, 15, 16, 17, 18, 19] 20 (.g r r r (fun _ => .ixArr (i := 1) un200 sz55 r r (by decide) (o := 1) r r r .mk) (.g r r r (fun _ => .load1 ia55 r (.s (.s .z)) r r r .mk) (.g r r r (fun _ => .ixArr (i := 1) un200 sz55 r r (by decide) (o := 1) r r r .mk) (.g r r r (fun _ => .load1 ia55 r (.s .z) r r r .mk) (.fk 1 r (.g r r r (fun _ => .ixArr (i := 1) un200 sz55 r r (by decide) (o := 1) r r r .mk) ?_)))))))))
 refine .g r r r (fun _ => .load1 ia55 r (.s (.s (.s (.s .z)))) r r r .mk) (.fk 1 r (.g r r r (fun _ => .ixArr (i := 1) un200 sz55 r r (by decide) (o := 1) r r r .mk) (.g r r r (fun _ => .load1 ia55 r .z r r r .mk) (.fk 1 r (.g r r r (fun _ => .conv un55 un2 r r r .mk) (.g r r r (fun _ => .ixArr (i := 0) un200 sz55 r r (by decide) (o := 0) r r r .mk) (.g r r r (fun _ => .load1 ia55 r .z r r r .mk) (.g r r r (fun _ => .shl' r r (by decide) r r .mk) (.fk 1 r ?_)))))))))
 refine .ww r fun ex => ?_
 have hw62 := W_wide_halves (I := I) hd
 refine .callP call163 r hw62 r r fun v63 hv64 => ?_
 obtain ⟨r61, rfl, hd⟩ := hv64
 refine .so 5 r r r (.cg r r r r (fun _ => .shl' r r (by decide) r r .mk) (.cg r r r r (fun _ => .load1 ia55 r .z r r r .mk) (.cg r r r r (fun _ => .ixArr (i := 0) un200 sz55 r r (by decide) (o := 0) r r r .mk) (.cg r r r r (fun _ => .conv un55 un2 r r r .mk) (.ck 1 r r (.cg r r r r (fun _ => .load1 ia55 r .z r r r .mk) (.cg r r r r (fun _ => .ixArr (i := 1) un200 sz55 r r (by decide) (o := 1) r r r .mk) (.ck 1 r r (.cg r r r r (fun _ => .load1 ia55 r (.s (.s (.s (.s .z)))) r r r .mk) (.cg r r r r (fun _ => .ixArr (i := 1) un200 sz55 r r (by decide) (o := 1) r r r .mk) (.ck 1 r r (.cg r r r r (fun _ => .load1 ia55 r (.s .z) r r r .mk) (.cg r r r r (fun _ => .ixArr (i := 1) un200 sz55 r r (by decide) (o := 1) r r r .mk) (.cg r r r r (fun _ => .load1 ia55 r (.s (.s .z)) r r r .mk) (.cg r r r r (fun _ => .ixArr (i := 1) un200 sz55 r r (by decide) (o := 1) r r r .mk) trivial))))))))))))))) (.g r r r (fun _ => .index1 (i := 0) un200 sz55 ia55 r r (by decide) r r r .mk) (.fk 1 r (.g r r r (fun _ => .build zv57 un57 BI57 (.c r r r (.t .nil) (.c r r r (.s (.t .nil)) .n)) (by exact ⟨⟨_, _, r, r, r⟩, ⟨⟨_, _, r, r, r⟩, trivial⟩⟩) r r .mk) (.e2 20 (.storeA sz57 r r (.s (.s (.s .z))) (.t (.t .nil)) r r (.nilS [4] r r (.drop .z (.drop .z (.drop .z ?_)))))))))
 exact .drop (.s .z) (.ret (pret results150 (.w ia57 sz57 r .z r .n) (.refl _) ⟨({ Hi := w64 (IntKind.wrap .u64 ((IntKind.wrap .u64 ((IntKind.wrap .u64 (r17.2 * r21.2)) + r44.2)) + r55.2)), Lo := bor .u64 (shl .u64 r55.1 32) r61.1 } : Wide), r, hd⟩))

theorem W_wide_size {I : IH} {a0 : Int} {Q : Int → Prop}  (hd : wide_size a0 Q) :
  PFun prog 151 [.int .i64 a0] I (fun _ => o11_ Q) := by
 refine Fun.enter func151 r ntmps151 r (.c .n) fun w0 M => ?_
 refine .sr (.ks 1 r (.nilS [0] r r (.seq (.sr (.ks 2 r (.nilS [4, 0] r r (.condP r hd (fun hb1 hd => ?_) fun hb1 hd => ?_)))))))
 · exact .sr (.ks 1 r (.conv un2 un55 r r r (.neg r r r (.ks 1 r (.nilS [2] r r (.ret (pret results151 (.t r .n) (.refl _) ⟨(IntKind.wrap .u64 (0 - (IntKind.wrap .u64 (a0)))), r, hd⟩)))))))
 exact .skipS [0] r r (.sr (.ks 1 r (.conv un2 un55 r r r (.ks 1 r (.nilS [2] r r (.ret (pret results151 (.t r .n) (.refl _) ⟨(IntKind.wrap .u64 (a0)), r, hd⟩)))))))

theorem W_wide_Sub {I : IH} {a0 : Wide} {a1 : Wide} {Q : Wide → Prop}  (hd : wide_Sub a0 a1 Q) :
  PFun prog 152 [.agg (encWide a0).toArray, .agg (encWide a1).toArray] I (fun _ => o4_ Q) := by
 refine Fun.enter func152 r ntmps152 r (.c (.c .n)) fun w0 M => ?_
 refine .sr (.boxA r r r fun b7 => ?_)
 refine .boxA r r r fun b9 => ?_
 refine .allocA zv57 r r fun b11 => ?_
 refine .nilS [4, 3, 2] r r (.seq (.dr [0, 1, 2, 3, 4, 5, 6, 7, 8, 9, 10, 11, 15, 16, 17, 18, 19, 12, 13, 14, 20] 21 (.g r r r (fun _ => .fa un57 r sz2 r (o := 0) r r r .mk) (.g r r r (fun _ => .load1 ia2 r (.s (.s .z)) r r r .mk) (.g r r r (fun _ => .conv un2 un55 r r r .mk) (.g r r r (fun _ => .fa un57 r sz2 r (o := 0) r r r .mk) (.g r r r (fun _ => .load1 ia2 r (.s .z) r r r .mk) (.g r r r (fun _ => .conv un2 un55 r r r .mk) (.fk 1 r ?_)))))))))
 refine .g r r r (fun _ => .fa un57 r sz55 r (o := 1) r r r .mk) (.g r r r (fun _ => .load1 ia55 r (.s (.s .z)) r r r .mk) (.g r r r (fun _ => .fa un57 r sz55 r (o := 1) r r r .mk) (.g r r r (fun _ => .load1 ia55 r (.s .z) r r r .mk) (.fk 1 r (.g r r r (fun _ => .fa un57 r sz55 r (o := 1) r r r .mk) (.g r r r (fun _ => .load1 ia55 r (.s (.s .z)) r r r .mk) (.g r r r (fun _ => .fa un57 r sz55 r (o := 1) r r r .mk) (.g r r r (fun _ => .load1 ia55 r (.s .z) r r r .mk) (.fk 1 r ?_)))))))))
 refine .ww r fun ex => ?_
 have hw14 := W_wide_carry (I := I) hd
 refine .callP call125 r hw14 r r fun v15 hv16 => ?_
 obtain ⟨r13, rfl, hd⟩ := hv16
 exact .so 3 r r r (.ck 1 r r (.cg r r r r (fun _ => .load1 ia55 r (.s .z) r r r .mk) (.cg r r r r (fun _ => .fa un57 r sz55 r (o := 1) r r r .mk) (.cg r r r r (fun _ => .load1 ia55 r (.s (.s .z)) r r r .mk) (.cg r r r r (fun _ => .fa un57 r sz55 r (o := 1) r r r .mk) (.ck 1 r r (.cg r r r r (fun _ => .conv un2 un55 r r r .mk) (.cg r r r r (fun _ => .load1 ia2 r (.s .z) r r r .mk) (.cg r r r r (fun _ => .fa un57 r sz2 r (o := 0) r r r .mk) (.cg r r r r (fun _ => .conv un2 un55 r r r .mk) (.cg r r r r (fun _ => .load1 ia2 r (.s (.s .z)) r r r .mk) (.cg r r r r (fun _ => .fa un57 r sz2 r (o := 0) r r r .mk) trivial)))))))))))) (.fk 1 r (.g r r r (fun _ => .conv un55 un2 r r r .mk) (.g r r r (fun _ => .build zv57 un57 BI57 (.c r r r (.t .nil) (.c r r r (.s (.t .nil)) .n)) (by exact ⟨⟨_, _, r, r, r⟩, ⟨⟨_, _, r, r, r⟩, trivial⟩⟩) r r .mk) (.e2 21 (.storeA sz57 r r .z (.t (.t .nil)) r r (.nilS [4] r r (.drop (.s .z) (.drop (.s .z) (.ret (pret results152 (.w ia57 sz57 r .z r .n) (.refl _) ⟨({ Hi := w64 (IntKind.wrap .u64 ((IntKind.wrap .u64 ((IntKind.wrap .u64 (a0.Hi)) - (IntKind.wrap .u64 (a1.Hi)))) - r13)), Lo := IntKind.wrap .u64 (a0.Lo - a1.Lo) } : Wide), r, hd⟩))))))))))

theorem W_wide_Mul {I : IH} {a0 : Int} {a1 : Int} {Q : Wide → Prop}  (hd : wide_Mul a0 a1 Q) :
  PFun prog 122 [.int .i64 a0, .int .i64 a1] I (fun _ => o4_ Q) := by
 refine Fun.enter func122 r ntmps122 r (.c (.c .n)) fun w0 M => ?_
 refine .sr (.allocA zv57 r r fun b3 => ?_)
 refine .nilS [4, 1, 0] r r (.sr (.ks 1 r ?_))
 have hw20 := W_wide_size (I := I) hd
 refine .callP call151 r hw20 r r fun v21 hv22 => ?_
 obtain ⟨r19, rfl, hd⟩ := hv22
 refine .ks 1 r ?_
 have hw24 := W_wide_size (I := I) hd
 refine .callP call151 r hw24 r r fun v25 hv26 => ?_
 obtain ⟨r23, rfl, hd⟩ := hv26
 have hw28 := W_wide_product (I := I) hd
 refine .callP call150 r hw28 r r fun v29 hv30 => ?_
 obtain ⟨r27, rfl, hd⟩ := hv30
 refine .allocA zv57 r r fun b31 => ?_
 refine .storeA sz57 r r .z (.t (.t .nil)) r r (.nilS [5, 4, 1, 0] r r (.seq (.sr (.ks 4 r (.neB underlying4 r r r r (.nilS [15, 5, 4] r r (.condP r hd (fun hb33 hd => ?_) fun hb33 hd => ?_)))))))
 · refine .sr (.build zv57 un57 BI57 .n (by exact trivial) r r (.loadW ia57 sz57 r .z r r r ?_))
   have hw35 := W_wide_Sub (I := I) hd
   refine .callP call152 r hw35 r r fun v36 hv37 => ?_
   obtain ⟨r34, rfl, hd⟩ := hv37
   exact .storeA sz57 r r (.s .z) (.t (.t .nil)) r r (.nilS [4] r r (.drop .z (.ret (pret results122 (.w ia57 sz57 r .z r .n) (.refl _) ⟨r34, r, hd⟩))))
 exact .skipS [5, 4] r r (.sr (.loadW ia57 sz57 r .z r r r (.storeA sz57 r r (.s .z) (.t (.t .nil)) r r (.nilS [4] r r (.drop .z (.ret (pret results122 (.w ia57 sz57 r .z r .n) (.refl _) ⟨r27, r, hd⟩)))))))

theorem W_ring_Mul {I : IH} {a0 : Int} {a1 : Int} {a2 : Int} {Q : Wide → Prop}  (hd : ring_Mul a0 a1 a2 Q) :
  PFun prog 82 [.int .i64 a0, .int .i64 a1, .int .i64 a2] I (fun _ => o4_ Q) := by
 refine Fun.enter func82 r ntmps82 r (.c (.c (.c .n))) fun w0 M => ?_
 refine .sr (.allocA zv57 r r fun b3 => ?_)
 refine .nilS [6, 2, 1, 0] r r (.seq (.sr (.ks 1 r (.nilS [8, 6, 2, 1, 0] r r (.block (.sr (.ks 2 r (.nilS [9, 8, 6, 2, 1, 0] r r (.condP r hd (fun hb20 hd => ?_) fun hb20 hd => ?_)))))))))
 · refine .sr (.ks 3 r ?_)
   refine splitP hd (fun hb21 hd => ?_) fun hb21 hd => ?_
   · rw [hb21]
     refine .ks 3 r ?_
     have hw23 := W_ring_truth (I := I) hd
     refine .callP call91 r hw23 r r fun v24 hv25 => ?_
     obtain ⟨r22, rfl, hd⟩ := hv25
     exact .storeA sz57 r r .z (.t (.t .nil)) r r (.nilS [6] r r (.ret (pret results82 (.w ia57 sz57 r .z r .n) (.refl _) ⟨r22, r, hd⟩)))
   rw [hb21]
   refine .ks 3 r ?_
   have hw27 := W_ring_truth (I := I) hd
   refine .callP call91 r hw27 r r fun v28 hv29 => ?_
   obtain ⟨r26, rfl, hd⟩ := hv29
   exact .storeA sz57 r r .z (.t (.t .nil)) r r (.nilS [6] r r (.ret (pret results82 (.w ia57 sz57 r .z r .n) (.refl _) ⟨r26, r, hd⟩)))
 refine .sr (.ks 2 r (.nilS [18, 6, 2, 1, 0] r r (.condP r hd (fun hb30 hd => ?_) fun hb30 hd => ?_)))
 · refine .sr (.ks 2 r ?_)
   have hw32 := W_wide_Mul (I := I) hd
   refine .callP call122 r hw32 r r fun v33 hv34 => ?_
   obtain ⟨r31, rfl, hd⟩ := hv34
   exact .storeA sz57 r r .z (.t (.t .nil)) r r (.nilS [6] r r (.ret (pret results82 (.w ia57 sz57 r .z r .n) (.refl _) ⟨r31, r, hd⟩)))
 refine .skipS [6, 2, 1, 0] r r (.seq ?_)
 refine Cod.joinQ (σ := Unit) hd (fun (_ : Unit) c w => ∃ I_, IH.le I I_ ∧ Ok ⟨51, [], none⟩ [(0, .int .i64 a0), (1, .int .i64 a1), (2, .int .i64 a2), (6, .pointer (some ⟨b3, 0, none⟩))] c ∧ Sym w0 M I I_ [pto b3 (.cells #[.int .i64 0, .int .u64 0] 57 (0, 0))] w) (fun k55 hd => ?_) ?_
 · skip
   refine .sr (.ks 1 r ?_)
   have hw57 := W_ring_Is (I := I) hd
   refine .callP call34 r hw57 r r fun v58 hv59 => ?_
   obtain ⟨r56, rfl, hd⟩ := hv59
   refine .ks 1 r ?_
   refine splitP hd (fun hb60 hd => ?_) fun hb60 hd => ?_
   · rw [hb60]
     refine .ks 2 r (.gyes r r r (.maxI r r r r (.ks 2 r (.nilS [30, 6, 2, 1, 0] r r (.condP r hd (fun hb61 hd => ?_) fun hb61 hd => ?_)))))
     · refine .sr ?_
       have hw63 := W_wide_Of (I := I) hd
       refine .callP call45 r hw63 r r fun v64 hv65 => ?_
       obtain ⟨r62, rfl, hd⟩ := hv65
       exact .storeA sz57 r r .z (.t (.t .nil)) r r (.nilS [6] r r (.ret (pret results82 (.w ia57 sz57 r .z r .n) (.refl _) ⟨r62, r, hd⟩)))
     exact .skip' fun c w ho hs => ⟨(), hd, I, (.refl _), ho.sub ⟨r, r, r, r, trivial⟩, hs.pick (.c .z .n)⟩
   rw [hb60]
   exact .ks 5 r (.nilS [30, 6, 2, 1, 0] r r (.condKF r r (.skip' fun c w ho hs => ⟨(), hd, I, (.refl _), ho.sub ⟨r, r, r, r, trivial⟩, hs.pick (.c .z .n)⟩)))
 rintro ⟨⟩ hd c w hst
 obtain ⟨I66, hl67, hok, hsym⟩ := hst
 refine Cod.at hok hsym (.sr (.build zv57 un57 BI57 .n (by exact trivial) r r (.allocA zv57 r r fun b70 => ?_)))
 refine .storeA sz57 r r .z (.t (.t .nil)) r r (.nilS [7, 6, 2, 1, 0] r r (.seq (.sr (.ks 1 r (.nilS [33, 7, 6, 2, 1] r r (.block (.seq (.block (.seq ?_)))))))))
 refine Cod.joinQ (σ := Int × Int) hd (fun (s : Int × Int) c w => match s with | (s88, s89) => ∃ I_, IH.le I66 I_ ∧ Ok ⟨51, [], none⟩ [(2, .int .i64 a2), (6, .pointer (some ⟨b3, 0, none⟩)), (7, .pointer (some ⟨b70, 0, none⟩))] c ∧ Sym w0 M I I_ [pto b3 (.cells #[.int .i64 0, .int .u64 0] 57 (0, 0)), pto b70 (.cells #[.int .i64 s88, .int .u64 s89] 57 (0, 0))] w) (fun k90 hd => ?_) ?_
 · skip
   refine .block (.seq (.block (.seq (.seq (.sr (.ks 2 r (.nilS [34, 33, 7, 6, 2, 1] r r (.condP r hd (fun hb92 hd => ?_) fun hb92 hd => ?_))))))))
   · refine .exitS [7, 6, 2, 1] r r (.region (.ks 1 r ?_))
     have hw94 := W_wide_Of (I := I66) hd
     refine .callP call45 r hw94 r r fun v95 hv96 => ?_
     obtain ⟨r93, rfl, hd⟩ := hv96
     exact .storeA sz57 r r .z (.t (.t .nil)) r r (.nil' fun c w ho hs => ⟨(r93.Hi, r93.Lo), hd, I66, (.refl _), ho.sub ⟨r, r, r, trivial⟩, hs.pick (.c (.s .z) (.c .z .n))⟩)
   refine .skipS [33, 7, 6, 2, 1] r r (.seq (.sr (.ks 2 r (.nilS [36, 33, 7, 6, 2, 1] r r (.condP r hd (fun hb97 hd => ?_) fun hb97 hd => ?_)))))
   · exact .exit fun c w ho hs => ⟨(0, 0), hd, I66, (.refl _), ho.sub ⟨r, r, r, trivial⟩, hs.pick (.c (.s .z) (.c .z .n))⟩
   refine .skipS [33, 7, 6, 1] r r (.sr (.ks 2 r (.nilS [38, 7, 6, 1] r r (.condP r hd (fun hb98 hd => ?_) fun hb98 hd => ?_))))
   · refine .exitS [6, 1] r r (.drop .z (.seq (.sr (.ks 1 r ?_))))
     have hw100 := W_wide_Of (I := I66) hd
     refine .callP call45 r hw100 r r fun v101 hv102 => ?_
     obtain ⟨r99, rfl, hd⟩ := hv102
     exact .storeA sz57 r r .z (.t (.t .nil)) r r (.nilS [6] r r (.ret (pret results82 (.w ia57 sz57 r .z r .n) hl67 ⟨r99, r, hd⟩)))
   exact .skipS [7, 6] r r (.exitS [7, 6] r r (.sr (.loadW ia57 sz57 r .z r r r (.storeA sz57 r r (.s .z) (.t (.t .nil)) r r (.nilS [6] r r (.drop .z (.ret (pret results82 (.w ia57 sz57 r .z r .n) hl67 ⟨({ Hi := 0, Lo := 0 } : Wide), r, hd⟩))))))))
 rintro ⟨s88, s89⟩ hd c w hst
 obtain ⟨I103, hl104, hok, hsym⟩ := hst
 have le105 := IH.le.trans hl67 hl104
 refine Cod.at hok hsym (.seq (.seq (.dr [1, 2, 0, 3, 4, 5] 6 (.g r r r (fun _ => .loadW ia57 sz57 r (.s .z) r r r .mk) (.fk 1 r (.ww r fun ex => ?_))))))
 have hw107 := W_wide_Of (I := I103) hd
 refine .callP call45 r hw107 r r fun v108 hv109 => ?_
 obtain ⟨r106, rfl, hd⟩ := hv109
 refine .so 2 r r r (.ck 1 r r (.cg r r r r (fun _ => .loadW ia57 sz57 r (.s .z) r r r .mk) trivial)) (.ww r fun ex => ?_)
 have hw111 := W_wide_Of (I := I103) hd
 refine .callP call45 r hw111 r r fun v112 hv113 => ?_
 obtain ⟨r110, rfl, hd⟩ := hv113
 refine .so 2 r r r (.cg r r r r (fun _ => .loadW ia57 sz57 r (.s .z) r r r .mk) trivial) (.ww r fun ex => ?_)
 have hw115 := W_wide_Add (I := I103) hd
 refine .callP call92 r hw115 r r fun v116 hv117 => ?_
 obtain ⟨r114, rfl, hd⟩ := hv117
 refine .so 2 r r r trivial (.ww r fun ex => ?_)
 have hw119 := W_ring_lesser (I := I103) hd
 refine .callP call90 r hw119 r r fun v120 hv121 => ?_
 obtain ⟨r118, rfl, hd⟩ := hv121
 exact .so 2 r r r trivial (.e2 6 (.storeA sz57 r r .z (.t (.t .nil)) r r (.nilS [6] r r (.drop (.s .z) (.ret (pret results82 (.w ia57 sz57 r .z r .n) le105 ⟨r118, r, hd⟩))))))

theorem W_gemm_row_3a1 {I : IH} {o0 : List (Int × Bool)} {a0 : Int} {a1 : Rows} {a2 : Rows} {a3 : Int} {b2 : Nat} {p3 : Option Addr} {c4 : Nat} {p6 : Option Addr} {c7 : Nat} {p9 : Option Addr} {c10 : Nat} {p12 : Option Addr} {c13 : Nat} {p15 : Option Addr} {c16 : Nat} {p18 : Option Addr} {c19 : Nat} {Q : (List (Int × Wide)) → Prop} (R5 : RepSl eI64 I p3 c4 a1.Start) (R8 : RepSl eI64 I p6 c7 a1.Col) (R11 : RepSl eI64 I p9 c10 a1.Val) (R14 : RepSl eI64 I p12 c13 a2.Start) (R17 : RepSl eI64 I p15 c16 a2.Col) (R20 : RepSl eI64 I p18 c19 a2.Val) (hd : gemm_row_3a1 o0 a0 a1 a2 a3 Q) :
  Fun prog 36 #[.int .i64 a0, .agg #[.int .i64 a1.Rows, .int .i64 a1.Cols, .slice p3 a1.Start.length c4, .slice p6 a1.Col.length c7, .slice p9 a1.Val.length c10], .agg #[.int .i64 a2.Rows, .int .i64 a2.Cols, .slice p12 a2.Start.length c13, .slice p15 a2.Col.length c16, .slice p18 a2.Val.length c19], .int .i64 a3, .map (some b2)] I [OwnMap (Value.int .i64) eB false b2 o0] (fun I_ v l => ∃ r b21, v = .map (some b21) ∧ l = [OwnMap (Value.int .i64) eB false b2 o0, OwnMap (Value.int .i64) eWide true b21 r] ∧ Q r) := by
 refine Fun.enter (vs := [.int .i64 a0, .agg #[.int .i64 a1.Rows, .int .i64 a1.Cols, .slice p3 a1.Start.length c4, .slice p6 a1.Col.length c7, .slice p9 a1.Val.length c10], .agg #[.int .i64 a2.Rows, .int .i64 a2.Cols, .slice p12 a2.Start.length c13, .slice p15 a2.Col.length c16, .slice p18 a2.Val.length c19], .int .i64 a3, .map (some b2)]) func36 r ntmps36 r (.c (.c (.c (.c (.c .n))))) fun w0 M => ?_
 refine .sr (.boxA r r r fun b25 => ?_)
 refine .boxA r r r fun b27 => ?_
 refine .ks 1 r (.nilS [7, 6, 4, 3, 0] r r (.sr (.mkMap (Value.int .i64) eWide true r r fun b31 => ?_)))
 refine .ks 1 r (.nilS [11, 7, 6, 4, 3, 0] r r (.sr (.loadW ia30 sz30 r (.s (.s .z)) r r r (.ks 1 r ?_))))
 have hw58 := W_gemm_part (I := I) R5 R8 R11 hd
 refine .call call35 r hw58 r r fun v50 I47 hl48 hv49 => ?_
 obtain ⟨r46, p52, c53, p55, c56, rfl, R54, R57, hd⟩ := hv49
 replace R5 := R5.mono hl48
 replace R8 := R8.mono hl48
 replace R11 := R11.mono hl48
 replace R14 := R14.mono hl48
 replace R17 := R17.mono hl48
 replace R20 := R20.mono hl48
 refine .ks 5 r (.nilS [13, 12, 11, 7, 4, 0] r r (.drop (.s (.s .z)) (.seq (.sr (.ks 1 r (.len un27 r r r r (.ks 1 r (.nilS [32, 31, 30, 13, 11, 7, 4, 0] r r (.block ?_)))))))))
 refine .loop hd (fun (s : (List (Int × Wide)) × Int) c w => match s with | (s757, s758) => ∃ I_, IH.le I47 I_ ∧ Ok ⟨81, [], none⟩ [(0, .int .i64 a0), (4, .map (some b2)), (7, .pointer (some ⟨b27, 0, none⟩)), (11, .map (some b31)), (13, .slice p55 r46.2.length c56), (30, .slice p52 r46.1.length c53), (31, .int .i64 (r46.1.length : Int)), (32, .int .i64 s758)] c ∧ Sym w0 M I I_ [OwnMap (Value.int .i64) eB false b2 o0, pto b27 (.cells #[.int .i64 a2.Rows, .int .i64 a2.Cols, .slice p12 a2.Start.length c13, .slice p15 a2.Col.length c16, .slice p18 a2.Val.length c19] 30 (0, 0)), OwnMap (Value.int .i64) eWide true b31 s757] w) (fun c w ho hs => ⟨I47, (.refl _), ho.sub ⟨r, r, r, r, r, r, r, r, trivial⟩, hs.pick (.c (.s (.s .z)) (.c (.s .z) (.c .z .n)))⟩) ?_
 rintro ⟨s757, s758⟩ next759 hd c w hst
 obtain ⟨I760, hl761, hok, hsym⟩ := hst
 have le762 := IH.le.trans hl48 hl761
 replace R14 := R14.mono hl761
 replace R17 := R17.mono hl761
 replace R20 := R20.mono hl761
 replace R54 := R54.mono hl761
 replace R57 := R57.mono hl761
 refine Cod.at hok hsym (.sr (.ks 1 r (.nilS [33, 32, 31, 30, 13, 11, 7, 4, 0] r r (.seq (.condP r hd (fun hb764 hd => ?_) fun hb764 hd => ?_)))))
 · refine .skipS [32, 31, 30, 13, 11, 7, 4, 0] r r (.seq (.block (.sr (.ks 1 r ?_))))
   obtain ⟨h774, x775, hx776, hd⟩ := hd
   obtain ⟨b777, o778, cs779, e780, hC781, hr782⟩ := R54.2 _ _ hx776
   cases hr782
   refine .ixa un27 sz3 r e780 r h774 (idx_lt hx776 h774) r r (.ld1 (j := 0) ia3 hC781 r r r r r (.ks 2 r (.nilS [15, 14, 32, 31, 30, 13, 11, 7, 4, 0] r r (.sr (.loadW ia30 sz30 r (.s .z) r r r (.ks 1 r ?_))))))
   have hw810 := W_gemm_part (I := I760) R14 R17 R20 hd
   refine .call call35 r hw810 r r fun v802 I799 hl800 hv801 => ?_
   obtain ⟨r798, p804, c805, p807, c808, rfl, R806, R809, hd⟩ := hv801
   have le811 := IH.le.trans le762 hl800
   have le812 := IH.le.trans hl761 hl800
   replace R14 := R14.mono hl800
   replace R17 := R17.mono hl800
   replace R20 := R20.mono hl800
   replace R54 := R54.mono hl800
   replace R57 := R57.mono hl800
   refine .ks 5 r (.nilS [17, 16, 14, 32, 31, 30, 13, 11, 7, 4, 0] r r (.sr (.ks 1 r (.len un27 r r r r (.ks 1 r (.nilS [45, 44, 43, 17, 14, 32, 31, 30, 13, 11, 7, 4, 0] r r (.block (.loop hd (fun (s : (List (Int × Wide)) × Int) c w => match s with | (s1009, s1010) => ∃ I_, IH.le I799 I_ ∧ Ok ⟨81, [], none⟩ [(0, .int .i64 a0), (4, .map (some b2)), (7, .pointer (some ⟨b27, 0, none⟩)), (11, .map (some b31)), (13, .slice p55 r46.2.length c56), (14, .int .i64 s758), (17, .slice p807 r798.2.length c808), (30, .slice p52 r46.1.length c53), (31, .int .i64 (r46.1.length : Int)), (32, .int .i64 s758), (43, .slice p804 r798.1.length c805), (44, .int .i64 (r798.1.length : Int)), (45, .int .i64 s1010)] c ∧ Sym w0 M I I_ [OwnMap (Value.int .i64) eB false b2 o0, pto b27 (.cells #[.int .i64 a2.Rows, .int .i64 a2.Cols, .slice p12 a2.Start.length c13, .slice p15 a2.Col.length c16, .slice p18 a2.Val.length c19] 30 (0, 0)), OwnMap (Value.int .i64) eWide true b31 s1009] w) (fun c w ho hs => ⟨I799, (.refl _), ho.sub ⟨r, r, r, r, r, r, r, r, r, r, r, r, r, trivial⟩, hs.pick (.c .z (.c .z (.c .z .n)))⟩) ?_))))))))
   rintro ⟨s1009, s1010⟩ next1011 hd c w hst
   obtain ⟨I1012, hl1013, hok, hsym⟩ := hst
   have le1014 := IH.le.trans le811 hl1013
   have le1015 := IH.le.trans le812 hl1013
   replace R14 := R14.mono hl1013
   replace R17 := R17.mono hl1013
   replace R20 := R20.mono hl1013
   replace R54 := R54.mono hl1013
   replace R57 := R57.mono hl1013
   replace R806 := R806.mono hl1013
   replace R809 := R809.mono hl1013
   refine Cod.at hok hsym (.sr (.ks 1 r (.nilS [46, 45, 44, 43, 32, 31, 30, 17, 14, 13, 11, 7, 4, 0] r r (.seq (.condP r hd (fun hb1017 hd => ?_) fun hb1017 hd => ?_)))))
   · refine .skipS [45, 44, 43, 32, 31, 30, 17, 14, 13, 11, 7, 4, 0] r r (.seq (.block (.sr (.ks 1 r ?_))))
     obtain ⟨h1027, x1028, hx1029, hd⟩ := hd
     obtain ⟨b1030, o1031, cs1032, e1033, hC1034, hr1035⟩ := R806.2 _ _ hx1029
     cases hr1035
     refine .ixa un27 sz3 r e1033 r h1027 (idx_lt hx1029 h1027) r r (.ld1 (j := 0) ia3 hC1034 r r r r r (.ks 2 r (.nilS [19, 18, 45, 44, 43, 32, 31, 30, 17, 14, 13, 11, 7, 4, 0] r r (.seq (.sr (.ks 2 r (.lookM (k := x1028) (El := eB) (ag := false) (zv := .bool false) (z := false) (keyInt un3) underlying85 zeroValue4 ⟨[.bool false], r, .s⟩ .z r r hd r r fun v1046 r1043 cs1047 hd hr1044 hv1045 => ?_)))))))
     cases hr1044
     cases hv1045
     refine .ks 1 r (.nilS [53, 19, 18, 45, 44, 43, 32, 31, 30, 17, 14, 13, 11, 7, 4, 0] r r (.condP r hd (fun hb1049 hd => ?_) fun hb1049 hd => ?_))
     · exact .exitS [45, 44, 43, 32, 31, 30, 17, 14, 13, 11, 7, 4, 0] r r (.region (.ks 2 r (.nil' fun c w ho hs => ⟨(s1009, w64 (s1010 + 1)), hd, I1012, hl1013, ho.sub ⟨r, r, r, r, r, r, r, r, r, r, r, r, r, trivial⟩, hs.pick (.c .z (.c .z (.c .z .n)))⟩)))
     refine .skipS [19, 18, 45, 44, 43, 32, 31, 30, 17, 14, 13, 11, 7, 4, 0] r r (.seq (.dr [0, 1, 2, 3, 4, 5, 6, 7, 8, 10, 9, 999] 11 (.fk 3 r ?_)))
     obtain ⟨h1074, x1075, hx1076, hd⟩ := hd
     obtain ⟨b1077, o1078, cs1079, e1080, hC1081, hr1082⟩ := R57.2 _ _ hx1076
     cases hr1082
     refine .g r r r (fun _ => .ixa un28 sz2 r e1080 r h1074 (idx_lt hx1076 h1074) r r .mk) (.g r r r (fun _ => .ld1 (j := 0) ia2 hC1081 r r r r r .mk) (.fk 2 r ?_))
     obtain ⟨h1083, x1084, hx1085, hd⟩ := hd
     obtain ⟨b1086, o1087, cs1088, e1089, hC1090, hr1091⟩ := R809.2 _ _ hx1085
     cases hr1091
     refine .g r r r (fun _ => .ixa un28 sz2 r e1089 r h1083 (idx_lt hx1085 h1083) r r .mk) (.g r r r (fun _ => .ld1 (j := 0) ia2 hC1090 r r r r r .mk) (.a (fun b => .pointer (some ⟨b, 0, none⟩)) (fun b => pto b (.cells #[.int .i64 0, .int .u64 0] 57 (0, 0))) r r r r (fun _ L hL ex => .allocA zv57 r r fun b => .mk (val := fun b => .pointer (some ⟨b, 0, none⟩)) (atom := fun b => pto b (.cells #[.int .i64 0, .int .u64 0] 57 (0, 0))) hL b) (.ww r fun ex => ?_)))
     have hw1094 := W_ring_Mul (I := I1012) hd
     refine .callP call82 r hw1094 r r fun v1095 hv1096 => ?_
     obtain ⟨r1093, rfl, hd⟩ := hv1096
     refine .so 3 r r r trivial (.b r fun b1097 => DrawD.nop (.e2 11 (.storeA sz57 r r (.s (.s (.s .z))) (.t (.t .nil)) r r (.nilS [20, 19, 45, 44, 43, 32, 31, 30, 17, 14, 13, 11, 7, 4, 0] r r (.seq (.sr (.ks 2 r (.lookM2 (k := x1028) (El := eWide) (ag := true) (zv := .agg #[.int .i64 0, .int .u64 0]) (z := ({ Hi := 0, Lo := 0 } : Wide)) (keyInt un3) underlying86 zv57 ⟨[.int .i64 0, .int .u64 0], r, .a⟩ (.s (.s .z)) r r hd r r fun v1101 r1098 t1103 cs1102 hd hr1099 hv1100 => ?_))))))))
     cases hr1099
     cases hv1100
     refine .ks 3 r (.allocA zv57 r r fun b1104 => ?_)
     refine .storeA sz57 r r .z (.t (.t .nil)) r r (.ks 1 r (.nilS [22, 21, 20, 19, 45, 44, 43, 32, 31, 30, 17, 14, 13, 11, 7, 4, 0] r r (.sr (.ks 1 r (.nilS [70, 21, 20, 19, 45, 44, 43, 32, 31, 30, 17, 14, 13, 11, 7, 4, 0] r r (.condP r hd (fun hb1106 hd => ?_) fun hb1106 hd => ?_))))))
     · refine .region (.ks 1 r (.loadW ia57 sz57 r .z r r r (.loadW ia57 sz57 r (.s (.s (.s (.s .z)))) r r r ?_)))
       have hw1108 := W_ring_Add (I := I1012) hd
       refine .callP call46 r hw1108 r r fun v1109 hv1110 => ?_
       obtain ⟨r1107, rfl, hd⟩ := hv1110
       refine .storeA sz57 r r (.s (.s (.s (.s .z)))) (.t (.t .nil)) r r (.nilS [20, 19, 45, 44, 43, 32, 31, 30, 17, 14, 13, 11, 7, 4, 0] r r (.drop .z (.region (.ks 2 r (.loadW ia57 sz57 r (.s (.s (.s .z))) r r r (.updM (k := x1028) (El := eWide) (ag := true) (v := r1107) (keyInt un3) underlying86 (.s (.s .z)) r r r ⟨[.int .i64 r1107.Hi, .int .u64 r1107.Lo], r, .a⟩ (.nilS [45, 44, 43, 32, 31, 30, 17, 14, 13, 11, 7, 4, 0] r r (.drop (.s (.s (.s .z))) (.region ?_)))))))))
       exact .ks 2 r (.nil' fun c w ho hs => ⟨((mput x1028 r1107 s1009), w64 (s1010 + 1)), hd, I1012, hl1013, ho.sub ⟨r, r, r, r, r, r, r, r, r, r, r, r, r, trivial⟩, hs.pick (.c .z (.c .z (.c .z .n)))⟩)
     refine .skipS [20, 19, 45, 44, 43, 32, 31, 30, 17, 14, 13, 11, 7, 4, 0] r r (.drop .z (.region (.ks 2 r (.loadW ia57 sz57 r (.s (.s (.s .z))) r r r (.updM (k := x1028) (El := eWide) (ag := true) (v := r1093) (keyInt un3) underlying86 (.s (.s .z)) r r r ⟨[.int .i64 r1093.Hi, .int .u64 r1093.Lo], r, .a⟩ (.nilS [45, 44, 43, 32, 31, 30, 17, 14, 13, 11, 7, 4, 0] r r (.drop (.s (.s (.s .z))) (.region (.ks 2 r ?_)))))))))
     exact .nil' fun c w ho hs => ⟨((mput x1028 r1093 s1009), w64 (s1010 + 1)), hd, I1012, hl1013, ho.sub ⟨r, r, r, r, r, r, r, r, r, r, r, r, r, trivial⟩, hs.pick (.c .z (.c .z (.c .z .n)))⟩
   exact .exitS [32, 31, 30, 13, 11, 7, 4, 0] r r (.region (.ks 2 r (.nil' fun c w ho hs => ⟨(s1009, w64 (s758 + 1)), hd, I1012, le1015, ho.sub ⟨r, r, r, r, r, r, r, r, trivial⟩, hs.pick (.c .z (.c .z (.c .z .n)))⟩)))
 exact .exitS [11, 4] r r (.drop (.s .z) (.sr (.ks 2 r (.nilS [10, 4] r r (.ret (oret results36 (.t r .n) le762 (.c .z (.c .z .n)) ⟨s757, _, r, r, hd⟩))))))

theorem W_gemm_Cells {I : IH} {a0 : Int} {a1 : Rows} {a2 : Rows} {a3 : Rows} {p1 : Option Addr} {c2 : Nat} {p4 : Option Addr} {c5 : Nat} {p7 : Option Addr} {c8 : Nat} {p10 : Option Addr} {c11 : Nat} {p13 : Option Addr} {c14 : Nat} {p16 : Option Addr} {c17 : Nat} {p19 : Option Addr} {c20 : Nat} {p22 : Option Addr} {c23 : Nat} {p25 : Option Addr} {c26 : Nat} {Q : ((List Cell) × Int) → Prop} (R3 : RepSl eI64 I p1 c2 a1.Start) (R6 : RepSl eI64 I p4 c5 a1.Col) (R9 : RepSl eI64 I p7 c8 a1.Val) (R12 : RepSl eI64 I p10 c11 a2.Start) (R15 : RepSl eI64 I p13 c14 a2.Col) (R18 : RepSl eI64 I p16 c17 a2.Val) (R21 : RepSl eI64 I p19 c20 a3.Start) (R24 : RepSl eI64 I p22 c23 a3.Col) (R27 : RepSl eI64 I p25 c26 a3.Val) (hd : gemm_Cells a0 a1 a2 a3 Q) :
  PFun prog 9 [.int .i64 a0, .agg #[.int .i64 a1.Rows, .int .i64 a1.Cols, .slice p1 a1.Start.length c2, .slice p4 a1.Col.length c5, .slice p7 a1.Val.length c8], .agg #[.int .i64 a2.Rows, .int .i64 a2.Cols, .slice p10 a2.Start.length c11, .slice p13 a2.Col.length c14, .slice p16 a2.Val.length c17], .agg #[.int .i64 a3.Rows, .int .i64 a3.Cols, .slice p19 a3.Start.length c20, .slice p22 a3.Col.length c23, .slice p25 a3.Val.length c26]] I (o12_ Q) := by
 refine Fun.enter func9 r ntmps9 r (.c (.c (.c (.c .n)))) fun w0 M => ?_
 refine .sr (.boxA r r r fun b37 => ?_)
 refine .boxA r r r fun b39 => ?_
 refine .boxA r r r fun b41 => ?_
 refine .ks 2 r (.nilS [7, 6, 5, 0] r r (.sr (.loadW ia30 sz30 r (.s (.s .z)) r r r (.loadW ia30 sz30 r (.s .z) r r r (.loadW ia30 sz30 r .z r r r (.buildSlice 3 un80 sz30 zv30 r r (.c r r r (.c r r r (.c r r r .n))) r r fun b59 => ?_))))))
 refine .pubB (El := eRows) (ys := ([a1, a2, a3] : List Rows)) (k := 3) .z (RepCs.cons (cs := [.int .i64 a1.Rows, .int .i64 a1.Cols, .slice p1 a1.Start.length c2, .slice p4 a1.Col.length c5, .slice p7 a1.Val.length c8]) ⟨_, _, _, _, _, _, r, R3, R6, R9⟩ (RepCs.cons (cs := [.int .i64 a2.Rows, .int .i64 a2.Cols, .slice p10 a2.Start.length c11, .slice p13 a2.Col.length c14, .slice p16 a2.Val.length c17]) ⟨_, _, _, _, _, _, r, R12, R15, R18⟩ (RepCs.cons (cs := [.int .i64 a3.Rows, .int .i64 a3.Cols, .slice p19 a3.Start.length c20, .slice p22 a3.Col.length c23, .slice p25 a3.Val.length c26]) ⟨_, _, _, _, _, _, r, R21, R24, R27⟩ .nil))) r fun I61 hl62 R63 => ?_
 replace R3 := R3.mono hl62
 replace R6 := R6.mono hl62
 replace R9 := R9.mono hl62
 replace R12 := R12.mono hl62
 replace R15 := R15.mono hl62
 replace R18 := R18.mono hl62
 replace R21 := R21.mono hl62
 replace R24 := R24.mono hl62
 replace R27 := R27.mono hl62
 have hw73 := W_gemm_sure (I := I61) R63 hd
 refine .call call33 r hw73 r r fun v68 I65 hl66 hv67 => ?_
 obtain ⟨r64, p70, c71, rfl, R72, hd⟩ := hv67
 have le74 := IH.le.trans hl62 hl66
 replace R3 := R3.mono hl66
 replace R6 := R6.mono hl66
 replace R9 := R9.mono hl66
 replace R12 := R12.mono hl66
 replace R15 := R15.mono hl66
 replace R18 := R18.mono hl66
 replace R21 := R21.mono hl66
 replace R24 := R24.mono hl66
 replace R27 := R27.mono hl66
 replace R63 := R63.mono hl66
 refine .ks 1 r (.nilS [10, 7, 6, 5, 0] r r (.seq (.dr [0, 1, 2, 3, 4, 5, 6, 7, 8, 9, 10] 11 (.fk 1 r ?_))))
 obtain ⟨h129, x130, hx131, hd⟩ := hd
 obtain ⟨b132, o133, cs134, e135, hC136, hr137⟩ := R72.2 _ _ hx131
 obtain ⟨p138, c139, p141, c142, p144, c145, rfl, R140, R143, R146⟩ := hr137
 refine .g r r r (fun _ => .ixa un80 sz30 r e135 r h129 (idx_lt hx131 h129) r r .mk) (.g r r r (fun _ => .ldW ia30 sz30 hC136 r r r r .mk) (.fk 1 r ?_))
 obtain ⟨h147, x148, hx149, hd⟩ := hd
 obtain ⟨b150, o151, cs152, e153, hC154, hr155⟩ := R72.2 _ _ hx149
 obtain ⟨p156, c157, p159, c160, p162, c163, rfl, R158, R161, R164⟩ := hr155
 refine .g r r r (fun _ => .ixa un80 sz30 r e153 r h147 (idx_lt hx149 h147) r r .mk) (.g r r r (fun _ => .ldW ia30 sz30 hC154 r r r r .mk) (.fk 1 r ?_))
 obtain ⟨h165, x166, hx167, hd⟩ := hd
 obtain ⟨b168, o169, cs170, e171, hC172, hr173⟩ := R72.2 _ _ hx167
 obtain ⟨p174, c175, p177, c178, p180, c181, rfl, R176, R179, R182⟩ := hr173
 refine .g r r r (fun _ => .ixa un80 sz30 r e171 r h165 (idx_lt hx167 h165) r r .mk) (.g r r r (fun _ => .ldW ia30 sz30 hC172 r r r r .mk) (.ww r fun ex => ?_))
 refine .storeA sz30 r r (.s (.s .z)) (.t (.t (.t (.t (.t .nil))))) r r (.sn 3 r r r (.cg r r r r (fun _ => .ldW ia30 sz30 hC172 r r r r .mk) (.cg r r r r (fun _ => .ixa un80 sz30 r e171 r h165 (idx_lt hx167 h165) r r .mk) (.ck 1 r r (.cg r r r r (fun _ => .ldW ia30 sz30 hC154 r r r r .mk) (.cg r r r r (fun _ => .ixa un80 sz30 r e153 r h147 (idx_lt hx149 h147) r r .mk) (.ck 1 r r trivial)))))) (.ww r fun ex => ?_))
 refine .storeA sz30 r r (.s .z) (.t (.t (.t (.t (.t .nil))))) r r (.sn 3 r r r (.cg r r r r (fun _ => .ldW ia30 sz30 hC172 r r r r .mk) (.cg r r r r (fun _ => .ixa un80 sz30 r e171 r h165 (idx_lt hx167 h165) r r .mk) (.ck 1 r r trivial))) (.e2 11 (.storeA sz30 r r .z (.t (.t (.t (.t (.t .nil))))) r r (.nilS [7, 6, 5, 0] r r (.seq (.block (.sr (.ks 1 r ?_))))))))
 have hw200 := W_ring_Is (I := I65) hd
 refine .callP call34 r hw200 r r fun v201 hv202 => ?_
 obtain ⟨r199, rfl, hd⟩ := hv202
 refine .ks 2 r (.nilS [37, 7, 6, 5, 0] r r (.condP r hd (fun hb203 hd => ?_) fun hb203 hd => ?_))
 · exact .sr (.ks 2 r (.nilS [9, 8] r r (.drop .z (.drop .z (.drop .z (.ret (pret results9 (.t r (.t r .n)) le74 ⟨(([] : List Cell), 8), _, _, r, (.nil _ _ _), hd⟩)))))))
 refine .seq (.sr (.fa un30 r sz3 r (o := 1) r r r (.load1 ia3 r (.s (.s .z)) r r r (.fa un30 r sz3 r (o := 0) r r r (.load1 ia3 r (.s .z) r r r (.ks 2 r (.nilS [41, 7, 6, 5, 0] r r (.condP r hd (fun hb204 hd => ?_) fun hb204 hd => ?_))))))))
 · exact .skipS [41, 7, 6, 5, 0] r r (.condKT r hb204 (.sr (.ks 2 r (.nilS [9, 8] r r (.drop .z (.drop .z (.drop .z (.ret (pret results9 (.t r (.t r .n)) le74 ⟨(([] : List Cell), 4), _, _, r, (.nil _ _ _), hd⟩)))))))))
 refine .sr (.fa un30 r sz3 r (o := 0) r r r (.load1 ia3 r .z r r r (.fa un30 r sz3 r (o := 0) r r r (.load1 ia3 r (.s (.s .z)) r r r (.ks 2 r (.nilS [41, 7, 6, 5, 0] r r (.condP r hd (fun hb205 hd => ?_) fun hb205 hd => ?_)))))))
 · exact .skipS [41, 7, 6, 5, 0] r r (.condKT r hb205 (.sr (.ks 2 r (.nilS [9, 8] r r (.drop .z (.drop .z (.drop .z (.ret (pret results9 (.t r (.t r .n)) le74 ⟨(([] : List Cell), 4), _, _, r, (.nil _ _ _), hd⟩)))))))))
 refine .region (.fa un30 r sz3 r (o := 1) r r r (.load1 ia3 r .z r r r (.fa un30 r sz3 r (o := 1) r r r (.load1 ia3 r (.s .z) r r r (.ks 2 r (.nilS [41, 7, 6, 5, 0] r r (.condP r hd (fun hb206 hd => ?_) fun hb206 hd => ?_)))))))
 · exact .sr (.ks 2 r (.nilS [9, 8] r r (.drop .z (.drop .z (.drop .z (.ret (pret results9 (.t r (.t r .n)) le74 ⟨(([] : List Cell), 4), _, _, r, (.nil _ _ _), hd⟩)))))))
 refine .skipS [7, 6, 5, 0] r r (.sr (.ks 1 r (.nilS [11, 7, 6, 5, 0] r r (.seq (.sr (.fa un30 r sz3 r (o := 0) r r r (.load1 ia3 r .z r r r (.ks 1 r (.nilS [59, 58, 11, 7, 6, 5, 0] r r ?_)))))))))
 refine .block (.own0 eCell 59 (.loop hd (fun (s : (List Cell) × Int) c w => match s with | (s834, s838) => ∃ I_ p835 c836, IH.le I65 I_ ∧ Ok ⟨107, [], none⟩ [(0, .int .i64 a0), (5, .pointer (some ⟨b37, 0, none⟩)), (6, .pointer (some ⟨b39, 0, none⟩)), (7, .pointer (some ⟨b41, 0, none⟩)), (11, .slice p835 s834.length c836), (58, .int .i64 x166.Rows), (59, .int .i64 s838)] c ∧ Sym w0 M I I_ [pto b37 (.cells #[.int .i64 x130.Rows, .int .i64 x130.Cols, .slice p138 x130.Start.length c139, .slice p141 x130.Col.length c142, .slice p144 x130.Val.length c145] 30 (0, 0)), pto b39 (.cells #[.int .i64 x148.Rows, .int .i64 x148.Cols, .slice p156 x148.Start.length c157, .slice p159 x148.Col.length c160, .slice p162 x148.Val.length c163] 30 (0, 0)), pto b41 (.cells #[.int .i64 x166.Rows, .int .i64 x166.Cols, .slice p174 x166.Start.length c175, .slice p177 x166.Col.length c178, .slice p180 x166.Val.length c181] 30 (0, 0)), OwnSl eCell 59 p835 c836 s834] w) (fun c w ho hs => ⟨I65, _, _, (.refl _), ho.sub ⟨r, r, r, r, r, r, r, trivial⟩, hs.pick (.c (.s (.s (.s .z))) (.c (.s (.s .z)) (.c (.s .z) (.c .z .n))))⟩) ?_))
 rintro ⟨s834, s838⟩ next840 hd c w hst
 obtain ⟨I841, p835, c836, hl842, hok, hsym⟩ := hst
 have le843 := IH.le.trans le74 hl842
 replace R140 := R140.mono hl842
 replace R143 := R143.mono hl842
 replace R146 := R146.mono hl842
 replace R158 := R158.mono hl842
 replace R161 := R161.mono hl842
 replace R164 := R164.mono hl842
 replace R176 := R176.mono hl842
 replace R179 := R179.mono hl842
 replace R182 := R182.mono hl842
 refine Cod.at hok hsym (.sr (.ks 1 r (.nilS [60, 59, 58, 11, 7, 6, 5, 0] r r (.seq (.condP r hd (fun hb845 hd => ?_) fun hb845 hd => ?_)))))
 · refine .skipS [59, 58, 11, 7, 6, 5, 0] r r (.seq (.block (.sr (.ks 2 r (.nilS [12, 59, 58, 11, 7, 6, 5, 0] r r (.sr (.loadW ia30 sz30 r (.s (.s .z)) r r r (.ks 1 r ?_))))))))
   have hw873 := W_gemm_part (I := I841) R176 R179 R182 hd
   refine .call call35 r hw873 r r fun v865 I862 hl863 hv864 => ?_
   obtain ⟨r861, p867, c868, p870, c871, rfl, R869, R872, hd⟩ := hv864
   have le874 := IH.le.trans le843 hl863
   have le875 := IH.le.trans hl842 hl863
   replace R140 := R140.mono hl863
   replace R143 := R143.mono hl863
   replace R146 := R146.mono hl863
   replace R158 := R158.mono hl863
   replace R161 := R161.mono hl863
   replace R164 := R164.mono hl863
   replace R176 := R176.mono hl863
   replace R179 := R179.mono hl863
   replace R182 := R182.mono hl863
   refine .ks 5 r (.nilS [13, 12, 59, 58, 11, 7, 6, 5, 0] r r (.sr (.mkMap (Value.int .i64) eB false r r fun b878 => ?_)))
   refine .ks 1 r (.nilS [15, 13, 12, 59, 58, 11, 7, 6, 5, 0] r r (.seq (.sr (.ks 1 r (.len un27 r r r r (.ks 1 r (.nilS [71, 70, 69, 15, 13, 12, 59, 58, 11, 7, 6, 5, 0] r r (.block (.loop hd (fun (s : (List (Int × Bool)) × Int) c w => match s with | (s954, s955) => ∃ I_, IH.le I862 I_ ∧ Ok ⟨107, [], none⟩ [(0, .int .i64 a0), (5, .pointer (some ⟨b37, 0, none⟩)), (6, .pointer (some ⟨b39, 0, none⟩)), (7, .pointer (some ⟨b41, 0, none⟩)), (11, .slice p835 s834.length c836), (12, .int .i64 s838), (13, .slice p867 r861.1.length c868), (15, .map (some b878)), (58, .int .i64 x166.Rows), (59, .int .i64 s838), (69, .slice p867 r861.1.length c868), (70, .int .i64 (r861.1.length : Int)), (71, .int .i64 s955)] c ∧ Sym w0 M I I_ [pto b37 (.cells #[.int .i64 x130.Rows, .int .i64 x130.Cols, .slice p138 x130.Start.length c139, .slice p141 x130.Col.length c142, .slice p144 x130.Val.length c145] 30 (0, 0)), pto b39 (.cells #[.int .i64 x148.Rows, .int .i64 x148.Cols, .slice p156 x148.Start.length c157, .slice p159 x148.Col.length c160, .slice p162 x148.Val.length c163] 30 (0, 0)), pto b41 (.cells #[.int .i64 x166.Rows, .int .i64 x166.Cols, .slice p174 x166.Start.length c175, .slice p177 x166.Col.length c178, .slice p180 x166.Val.length c181] 30 (0, 0)), OwnSl eCell 59 p835 c836 s834, OwnMap (Value.int .i64) eB false b878 s954] w) (fun c w ho hs => ⟨I862, (.refl _), ho.sub ⟨r, r, r, r, r, r, r, r, r, r, r, r, r, trivial⟩, hs.pick (.c (.s .z) (.c (.s .z) (.c (.s .z) (.c (.s .z) (.c .z .n)))))⟩) ?_)))))))))
   rintro ⟨s954, s955⟩ next956 hd c w hst
   obtain ⟨I957, hl958, hok, hsym⟩ := hst
   have le959 := IH.le.trans le874 hl958
   have le960 := IH.le.trans le875 hl958
   replace R140 := R140.mono hl958
   replace R143 := R143.mono hl958
   replace R146 := R146.mono hl958
   replace R158 := R158.mono hl958
   replace R161 := R161.mono hl958
   replace R164 := R164.mono hl958
   replace R176 := R176.mono hl958
   replace R179 := R179.mono hl958
   replace R182 := R182.mono hl958
   replace R869 := R869.mono hl958
   refine Cod.at hok hsym (.sr (.ks 1 r (.nilS [72, 71, 70, 69, 59, 58, 15, 13, 12, 11, 7, 6, 5, 0] r r (.seq (.condP r hd (fun hb962 hd => ?_) fun hb962 hd => ?_)))))
   · refine .skipS [71, 70, 69, 59, 58, 15, 13, 12, 11, 7, 6, 5, 0] r r (.seq (.block (.sr ?_)))
     obtain ⟨h963, x964, hx965, hd⟩ := hd
     obtain ⟨b966, o967, cs968, e969, hC970, hr971⟩ := R869.2 _ _ hx965
     cases hr971
     refine .ixa un27 sz3 r e969 r h963 (idx_lt hx965 h963) r r (.ld1 (j := 0) ia3 hC970 r r r r r (.ks 1 r (.nilS [17, 71, 70, 69, 59, 58, 15, 13, 12, 11, 7, 6, 5, 0] r r (.region (.ks 2 r (.updM (k := x964) (El := eB) (ag := false) (v := true) (keyInt un3) underlying85 (.s (.s (.s (.s .z)))) r r r ⟨[.bool true], r, .s⟩ (.nilS [71, 70, 69, 59, 58, 15, 13, 12, 11, 7, 6, 5, 0] r r (.region (.ks 2 r ?_)))))))))
     exact .nil' fun c w ho hs => ⟨((mput x964 true s954), w64 (s955 + 1)), hd, I957, hl958, ho.sub ⟨r, r, r, r, r, r, r, r, r, r, r, r, r, trivial⟩, hs.pick (.c .z (.c .z (.c .z (.c .z (.c .z .n)))))⟩
   refine .exitS [59, 58, 15, 13, 12, 11, 7, 6, 5, 0] r r (.sr (.ks 1 r (.loadW ia30 sz30 r .z r r r (.loadW ia30 sz30 r (.s .z) r r r (.ks 2 r ?_)))))
   have hw984 := W_gemm_row_3a1 (I := I957) (o0 := s954) (a0 := a0) (a1 := x130) (a2 := x148) (a3 := s838) (b2 := b878) R140 R143 R146 R158 R161 R164 hd
   refine .callS (.f call36 r) (.c (.s (.s (.s (.s .z)))) .n) hw984 r r fun v988 I985 l989 hl986 hv987 => ?_
   obtain ⟨r990, b992, rfl, rfl, hd⟩ := hv987
   have le993 := IH.le.trans le959 hl986
   have le994 := IH.le.trans le960 hl986
   have le995 := IH.le.trans hl958 hl986
   replace R140 := R140.mono hl986
   replace R143 := R143.mono hl986
   replace R146 := R146.mono hl986
   replace R158 := R158.mono hl986
   replace R161 := R161.mono hl986
   replace R164 := R164.mono hl986
   replace R176 := R176.mono hl986
   replace R179 := R179.mono hl986
   replace R182 := R182.mono hl986
   replace R869 := R869.mono hl986
   refine .re (m' := [OwnMap (Value.int .i64) eB false b878 s954, OwnMap (Value.int .i64) eWide true b992 r990, pto b37 (.cells #[.int .i64 x130.Rows, .int .i64 x130.Cols, .slice p138 x130.Start.length c139, .slice p141 x130.Col.length c142, .slice p144 x130.Val.length c145] 30 (0, 0)), pto b39 (.cells #[.int .i64 x148.Rows, .int .i64 x148.Cols, .slice p156 x148.Start.length c157, .slice p159 x148.Col.length c160, .slice p162 x148.Val.length c163] 30 (0, 0)), pto b41 (.cells #[.int .i64 x166.Rows, .int .i64 x166.Cols, .slice p174 x166.Start.length c175, .slice p177 x166.Col.length c178, .slice p180 x166.Val.length c181] 30 (0, 0)), OwnSl eCell 59 p835 c836 s834]) r (.ks 1 r (.nilS [18, 59, 58, 13, 12, 11, 7, 6, 5, 0] r r (.drop .z (.sr (.ks 1 r (.len un27 r r r r (.ks 1 r (.nilS [86, 85, 84, 18, 59, 58, 12, 11, 7, 6, 5, 0] r r (.block ?_)))))))))
   refine .loop hd (fun (s : (List Cell) × Int) c w => match s with | (s1097, s1101) => ∃ I_ p1098 c1099, IH.le I985 I_ ∧ Ok ⟨107, [], none⟩ [(0, .int .i64 a0), (5, .pointer (some ⟨b37, 0, none⟩)), (6, .pointer (some ⟨b39, 0, none⟩)), (7, .pointer (some ⟨b41, 0, none⟩)), (11, .slice p1098 s1097.length c1099), (12, .int .i64 s838), (18, .map (some b992)), (58, .int .i64 x166.Rows), (59, .int .i64 s838), (84, .slice p867 r861.1.length c868), (85, .int .i64 (r861.1.length : Int)), (86, .int .i64 s1101)] c ∧ Sym w0 M I I_ [pto b37 (.cells #[.int .i64 x130.Rows, .int .i64 x130.Cols, .slice p138 x130.Start.length c139, .slice p141 x130.Col.length c142, .slice p144 x130.Val.length c145] 30 (0, 0)), pto b39 (.cells #[.int .i64 x148.Rows, .int .i64 x148.Cols, .slice p156 x148.Start.length c157, .slice p159 x148.Col.length c160, .slice p162 x148.Val.length c163] 30 (0, 0)), pto b41 (.cells #[.int .i64 x166.Rows, .int .i64 x166.Cols, .slice p174 x166.Start.length c175, .slice p177 x166.Col.length c178, .slice p180 x166.Val.length c181] 30 (0, 0)), OwnSl eCell 59 p1098 c1099 s1097, OwnMap (Value.int .i64) eWide true b992 r990] w) (fun c w ho hs => ⟨I985, _, _, (.refl _), ho.sub ⟨r, r, r, r, r, r, r, r, r, r, r, r, trivial⟩, hs.pick (.c (.s .z) (.c (.s .z) (.c (.s .z) (.c (.s .z) (.c .z .n)))))⟩) ?_
   rintro ⟨s1097, s1101⟩ next1102 hd c w hst
   obtain ⟨I1103, p1098, c1099, hl1104, hok, hsym⟩ := hst
   have le1105 := IH.le.trans le993 hl1104
   have le1106 := IH.le.trans le994 hl1104
   have le1107 := IH.le.trans le995 hl1104
   replace R140 := R140.mono hl1104
   replace R143 := R143.mono hl1104
   replace R146 := R146.mono hl1104
   replace R158 := R158.mono hl1104
   replace R161 := R161.mono hl1104
   replace R164 := R164.mono hl1104
   replace R176 := R176.mono hl1104
   replace R179 := R179.mono hl1104
   replace R182 := R182.mono hl1104
   replace R869 := R869.mono hl1104
   refine Cod.at hok hsym (.sr (.ks 1 r (.nilS [87, 86, 85, 84, 59, 58, 18, 12, 11, 7, 6, 5, 0] r r (.seq (.condP r hd (fun hb1109 hd => ?_) fun hb1109 hd => ?_)))))
   · refine .skipS [86, 85, 84, 59, 58, 18, 12, 11, 7, 6, 5, 0] r r (.seq (.block (.sr ?_)))
     obtain ⟨h1119, x1120, hx1121, hd⟩ := hd
     obtain ⟨b1122, o1123, cs1124, e1125, hC1126, hr1127⟩ := R869.2 _ _ hx1121
     cases hr1127
     refine .ixa un27 sz3 r e1125 r h1119 (idx_lt hx1121 h1119) r r (.ld1 (j := 0) ia3 hC1126 r r r r r (.ks 1 r (.nilS [20, 86, 85, 84, 59, 58, 18, 12, 11, 7, 6, 5, 0] r r (.sr (.ks 2 r (.lookM2 (k := x1120) (El := eWide) (ag := true) (zv := .agg #[.int .i64 0, .int .u64 0]) (z := ({ Hi := 0, Lo := 0 } : Wide)) (keyInt un3) underlying86 zv57 ⟨[.int .i64 0, .int .u64 0], r, .a⟩ (.s (.s (.s (.s .z)))) r r hd r r fun v1139 r1136 t1141 cs1140 hd hr1137 hv1138 => ?_))))))
     cases hr1137
     cases hv1138
     refine .ks 3 r (.allocA zv57 r r fun b1142 => ?_)
     refine .storeA sz57 r r .z (.t (.t .nil)) r r (.ks 1 r (.nilS [22, 21, 20, 86, 85, 84, 59, 58, 18, 12, 11, 7, 6, 5, 0] r r (.sr (.ks 1 r (.nilS [96, 21, 20, 86, 85, 84, 59, 58, 18, 12, 11, 7, 6, 5, 0] r r (.condP r hd (fun hb1144 hd => ?_) fun hb1144 hd => ?_))))))
     · refine .region (.ks 3 r (.loadW ia57 sz57 r .z r r r (.build zv59 un59 BI59 (.c r r r (.t .nil) (.c r r r (.s (.t .nil)) (.c r r r (.s (.s (.t (.t .nil)))) .n))) (by exact ⟨⟨_, _, r, r, r⟩, ⟨⟨_, _, r, r, r⟩, ⟨⟨_, _, r, r, r⟩, trivial⟩⟩⟩) r r (.buildSlice 1 un33 sz59 zv59 r r (.c r r r .n) r r fun b1145 => ?_))))
       obtain ⟨hl1147, hd⟩ := hd
       refine .append (ys := [({ Row := s838, Col := x1120, Val := r1136 } : Cell)]) 32 (.s (.s (.s (.s (.s .z))))) un33 un33 IN59 r r r r r r r r r (.box .z (.one r) r) hl1147 r r fun p1148 c1149 => ?_
       exact .ks 1 r (.nilS [11, 86, 85, 84, 59, 58, 18, 12, 7, 6, 5, 0] r r (.drop (.s .z) (.drop (.s .z) (.region (.ks 2 r (.nil' fun c w ho hs => ⟨((s1097 ++ ([({ Row := s838, Col := x1120, Val := r1136 } : Cell)])), w64 (s1101 + 1)), hd, I1103, _, _, hl1104, ho.sub ⟨r, r, r, r, r, r, r, r, r, r, r, r, trivial⟩, hs.pick (.c (.s .z) (.c (.s .z) (.c (.s .z) (.c .z (.c .z .n)))))⟩))))))
     exact .skipS [86, 85, 84, 59, 58, 18, 12, 11, 7, 6, 5, 0] r r (.drop .z (.region (.ks 2 r (.nil' fun c w ho hs => ⟨(s1097, w64 (s1101 + 1)), hd, I1103, _, _, hl1104, ho.sub ⟨r, r, r, r, r, r, r, r, r, r, r, r, trivial⟩, hs.pick (.c .z (.c .z (.c .z (.c .z (.c .z .n)))))⟩))))
   exact .exitS [59, 58, 11, 7, 6, 5, 0] r r (.drop (.s (.s (.s (.s .z)))) (.region (.ks 2 r (.nil' fun c w ho hs => ⟨(s1097, w64 (s838 + 1)), hd, I1103, _, _, le1106, ho.sub ⟨r, r, r, r, r, r, r, trivial⟩, hs.pick (.c .z (.c .z (.c .z (.c .z .n))))⟩))))
 refine .exitS [11] r r (.drop .z (.drop .z (.drop .z (.sr (.ks 3 r (.nilS [9, 8] r r (.pub .z fun I1151 hl1152 R1153 => ?_)))))))
 have le1154 := IH.le.trans le843 hl1152
 have le1155 := IH.le.trans hl842 hl1152
 exact .ret (pret results9 (.t r (.t r .n)) le1154 ⟨(s834, 0), _, _, r, R1153, hd⟩)

theorem W_ring_Zero {I : IH} {a0 : Int} {Q : Int → Prop}  (hd : ring_Zero a0 Q) :
  PFun prog 44 [.int .i64 a0] I (fun _ => o0_ Q) := by
 refine Fun.enter func44 r ntmps44 r (.c .n) fun w0 M => ?_
 refine .sr (.ks 1 r (.nilS [0] r r (.seq (.sr (.ks 1 r (.nilS [3] r r (.block (.seq (.sr ?_)))))))))
 refine .ks 2 r (.nilS [4, 3] r r (.condP r hd (fun hb1 hd => ?_) fun hb1 hd => ?_))
 · exact .skipS [4] r r (.condKT r hb1 (.sr (.ks 1 r (.nilS [2] r r (.ret (pret results44 (.t r .n) (.refl _) ⟨4611686018427387904, r, hd⟩))))))
 refine .sr (.ks 2 r (.nilS [4, 3] r r (.condP r hd (fun hb2 hd => ?_) fun hb2 hd => ?_)))
 · exact .skipS [4] r r (.condKT r hb2 (.sr (.ks 1 r (.nilS [2] r r (.ret (pret results44 (.t r .n) (.refl _) ⟨4611686018427387904, r, hd⟩))))))
 refine .region (.ks 2 r (.nilS [4] r r (.condP r hd (fun hb3 hd => ?_) fun hb3 hd => ?_)))
 · exact .sr (.ks 1 r (.nilS [2] r r (.ret (pret results44 (.t r .n) (.refl _) ⟨4611686018427387904, r, hd⟩))))
 exact .skipS [] r r (.sr (.ks 1 r (.nilS [2] r r (.ret (pret results44 (.t r .n) (.refl _) ⟨0, r, hd⟩)))))

theorem W_wide_Narrow {I : IH} {a0 : Wide} {Q : (Int × Bool) → Prop}  (hd : wide_Narrow a0 Q) :
  PFun prog 93 [.agg (encWide a0).toArray] I (fun _ => o5_ Q) := by
 refine Fun.enter func93 r ntmps93 r (.c .n) fun w0 M => ?_
 refine .sr (.boxA r r r fun b3 => ?_)
 refine .ks 2 r (.nilS [1] r r (.sr (.fa un57 r sz55 r (o := 1) r r r (.load1 ia55 r .z r r r (.conv un55 un2 r r r (.ks 1 r (.nilS [4, 1] r r (.seq (.seq ?_)))))))))
 refine .dr [0, 2, 1, 3] 4 (.fk 1 r (.g r r r (fun _ => .loadW ia57 sz57 r .z r r r .mk) (.ww r fun ex => ?_)))
 have hw6 := W_wide_Of (I := I) hd
 refine .callP call45 r hw6 r r fun v7 hv8 => ?_
 obtain ⟨r5, rfl, hd⟩ := hv8
 refine .so 1 r r r (.cg r r r r (fun _ => .loadW ia57 sz57 r .z r r r .mk) trivial) (.g r r r (fun _ => .neV r r (EQ57 r5 a0) (EG57 _ _ _ _ _) r r r .mk) (.e2 4 (.nilS [11, 4] r r (.drop .z (.condP r hd (fun hb9 hd => ?_) fun hb9 hd => ?_)))))
 · exact .sr (.ks 2 r (.nilS [3, 2] r r (.ret (pret results93 (.t r (.t r .n)) (.refl _) ⟨(0, false), r, hd⟩))))
 exact .skipS [4] r r (.sr (.ks 3 r (.nilS [3, 2] r r (.ret (pret results93 (.t r (.t r .n)) (.refl _) ⟨(w64 (a0.Lo), true), r, hd⟩)))))

theorem W_ring_Narrow {I : IH} {a0 : Int} {a1 : Wide} {Q : (Int × Bool) → Prop}  (hd : ring_Narrow a0 a1 Q) :
  PFun prog 47 [.int .i64 a0, .agg (encWide a1).toArray] I (fun _ => o5_ Q) := by
 refine Fun.enter func47 r ntmps47 r (.c (.c .n)) fun w0 M => ?_
 refine .sr (.boxA r r r fun b1 => ?_)
 refine .ks 2 r (.nilS [3] r r (.sr (.loadW ia57 sz57 r .z r r r ?_)))
 have hw4 := W_wide_Narrow (I := I) hd
 refine .callP call93 r hw4 r r fun v5 hv6 => ?_
 obtain ⟨r3, rfl, hd⟩ := hv6
 exact .ks 4 r (.nilS [5, 4] r r (.drop .z (.ret (pret results47 (.t r (.t r .n)) (.refl _) ⟨(r3.1, r3.2), r, hd⟩))))

theorem W_cmp_Compare_int {I : IH} {a0 : Int} {a1 : Int} {Q : Int → Prop}  (hd : cmp_Compare_int a0 a1 Q) :
  PFun prog 100 [.int .i64 a0, .int .i64 a1] I (fun _ => o0_ Q) := by
 refine Fun.enter func100 r ntmps100 r (.c (.c .n)) fun w0 M => ?_
 refine .sr (.ks 1 r (.nilS [1, 0] r r (.sr (.ks 1 r ?_))))
 have hw6 := W_cmp_isNaN_int (I := I) hd
 refine .callP call129 r hw6 r r fun v7 hv8 => ?_
 obtain ⟨r5, rfl, hd⟩ := hv8
 refine .ks 1 r (.nilS [5, 1, 0] r r (.sr (.ks 1 r ?_)))
 have hw14 := W_cmp_isNaN_int (I := I) hd
 refine .callP call129 r hw14 r r fun v15 hv16 => ?_
 obtain ⟨r13, rfl, hd⟩ := hv16
 refine .ks 1 r (.nilS [6, 5, 1, 0] r r (.seq (.sr (.ks 1 r (.nilS [11, 6, 1, 0] r r (.condP r hd (fun hb19 hd => ?_) fun hb19 hd => ?_))))))
 · refine .seq (.sr (.ks 1 r (.nilS [12] r r (.condP r hd (fun hb20 hd => ?_) fun hb20 hd => ?_))))
   · exact .sr (.ks 1 r (.nilS [4] r r (.ret (pret results100 (.t r .n) (.refl _) ⟨0, r, hd⟩))))
   exact .skipS [] r r (.sr (.ks 1 r (.nilS [4] r r (.ret (pret results100 (.t r .n) (.refl _) ⟨(-1), r, hd⟩)))))
 refine .skipS [6, 1, 0] r r (.seq (.sr (.ks 1 r (.nilS [13, 1, 0] r r (.condP r hd (fun hb22 hd => ?_) fun hb22 hd => ?_)))))
 · exact .sr (.ks 1 r (.nilS [4] r r (.ret (pret results100 (.t r .n) (.refl _) ⟨1, r, hd⟩))))
 refine .skipS [1, 0] r r (.seq (.sr (.ks 3 r (.nilS [16, 1, 0] r r (.condP r hd (fun hb24 hd => ?_) fun hb24 hd => ?_)))))
 · exact .sr (.ks 1 r (.nilS [4] r r (.ret (pret results100 (.t r .n) (.refl _) ⟨(-1), r, hd⟩))))
 refine .skipS [1, 0] r r (.seq (.sr (.ks 3 r (.nilS [19] r r (.condP r hd (fun hb25 hd => ?_) fun hb25 hd => ?_)))))
 · exact .sr (.ks 1 r (.nilS [4] r r (.ret (pret results100 (.t r .n) (.refl _) ⟨1, r, hd⟩))))
 exact .skipS [] r r (.sr (.ks 1 r (.nilS [4] r r (.ret (pret results100 (.t r .n) (.refl _) ⟨0, r, hd⟩)))))

theorem W_gemm_order {I : IH} {a0 : Cell} {a1 : Cell} {Q : Int → Prop}  (hd : gemm_order a0 a1 Q) :
  PFun prog 59 [.agg (encCell a0).toArray, .agg (encCell a1).toArray] I (fun _ => o0_ Q) := by
 refine Fun.enter func59 r ntmps59 r (.c (.c .n)) fun w0 M => ?_
 refine .sr (.boxA r r r fun b5 => ?_)
 refine .boxA r r r fun b7 => ?_
 refine .ks 1 r (.nilS [3, 2] r r (.seq (.dr [0, 1, 2, 3, 5, 6, 7, 8, 4, 9, 10, 11] 12 (.g r r r (fun _ => .fa un59 r sz3 r (o := 0) r r r .mk) (.g r r r (fun _ => .load1 ia3 r (.s .z) r r r .mk) (.g r r r (fun _ => .fa un59 r sz3 r (o := 0) r r r .mk) (.g r r r (fun _ => .load1 ia3 r .z r r r .mk) (.g r r r (fun _ => .fa un59 r sz3 r (o := 1) r r r .mk) (.g r r r (fun _ => .load1 ia3 r (.s .z) r r r .mk) ?_)))))))))
 refine .g r r r (fun _ => .fa un59 r sz3 r (o := 1) r r r .mk) (.g r r r (fun _ => .load1 ia3 r .z r r r .mk) (.ww r fun ex => ?_))
 have hw10 := W_cmp_Compare_int (I := I) hd
 refine .callP call100 r hw10 r r fun v11 hv12 => ?_
 obtain ⟨r9, rfl, hd⟩ := hv12
 refine .so 2 r r r (.cg r r r r (fun _ => .load1 ia3 r .z r r r .mk) (.cg r r r r (fun _ => .fa un59 r sz3 r (o := 1) r r r .mk) (.cg r r r r (fun _ => .load1 ia3 r (.s .z) r r r .mk) (.cg r r r r (fun _ => .fa un59 r sz3 r (o := 1) r r r .mk) trivial)))) (.ww r fun ex => ?_)
 have hw14 := W_cmp_Compare_int (I := I) hd
 refine .callP call100 r hw14 r r fun v15 hv16 => ?_
 obtain ⟨r13, rfl, hd⟩ := hv16
 refine .so 2 r r r trivial (.ww r fun ex => ?_)
 refine .buildSlice 2 un27 sz3 zv3 r r (.c r r r (.c r r r .n)) r r fun b17 => ?_
 refine .so 3 r r r trivial (.ww r fun ex => ?_)
 refine .pubB (El := eI64) (ys := ([r9, r13] : List Int)) (k := 2) .z (RepCs.cons (cs := [.int .i64 r9]) r (RepCs.cons (cs := [.int .i64 r13]) r .nil)) r fun I19 hl20 R21 => ?_
 have hw23 := W_cmp_Or_int (I := I19) R21 hd
 refine .callP call99 r hw23 r r fun v24 hv25 => ?_
 obtain ⟨r22, rfl, hd⟩ := hv25
 exact .so 2 r r r trivial (.e2 12 (.ks 1 r (.nilS [4] r r (.drop .z (.drop .z (.ret (pret results59 (.t r .n) hl20 ⟨r22, r, hd⟩)))))))

theorem W_gemm_rises {I : IH} {a0 : List Cell} {p1 : Option Addr} {c2 : Nat} {Q : Bool → Prop} (R3 : RepSl eCell I p1 c2 a0) (hd : gemm_rises a0 Q) :
  PFun prog 56 [.slice p1 a0.length c2] I (fun _ => o1_ Q) := by
 refine Fun.enter func56 r ntmps56 r (.c .n) fun w0 M => ?_
 refine .sr (.ks 1 r (.nilS [0] r r (.seq (.sr (.ks 1 r (.len un33 r r r r (.ks 1 r (.nilS [6, 5, 0] r r (.block ?_)))))))))
 refine .loop hd (fun (s35 : Int) c w => ∃ I_, IH.le I I_ ∧ Ok ⟨25, [], none⟩ [(0, .slice p1 a0.length c2), (5, .int .i64 (a0.length : Int)), (6, .int .i64 s35)] c ∧ Sym w0 M I I_ [] w) (fun c w ho hs => ⟨I, (.refl _), ho.sub ⟨r, r, r, trivial⟩, hs.pick .n⟩) ?_
 rintro s35 next36 hd c w hst
 obtain ⟨I37, hl38, hok, hsym⟩ := hst
 replace R3 := R3.mono hl38
 refine Cod.at hok hsym (.sr (.ks 1 r (.nilS [7, 6, 5, 0] r r (.seq (.condP r hd (fun hb40 hd => ?_) fun hb40 hd => ?_)))))
 · refine .skipS [6, 5, 0] r r (.seq (.block (.sr (.ks 2 r (.nilS [3, 6, 5, 0] r r (.seq (.dr [0, 1, 2, 3, 4, 5, 6, 7, 8, 9, 10, 11, 12, 13, 14] 15 (.fk 3 r ?_))))))))
   refine splitP hd (fun hb41 hd => ?_) fun hb41 hd => ?_
   · refine .g r r r (fun _ => .gyes r r hb41 (.move r r r .mk)) (.g r r r (fun _ => .gyes r r hb41 (.move r r r .mk)) (.g r r r (fun _ => .gyes r r hb41 (.sub' r r r r .mk)) ?_))
     obtain ⟨h42, x43, hx44, hd⟩ := hd
     obtain ⟨b45, o46, cs47, e48, hC49, hr50⟩ := R3.2 _ _ hx44
     cases hr50
     refine .g r r r (fun _ => .gyes r r hb41 (.ixa un33 sz59 r e48 r h42 (idx_lt hx44 h42) r r .mk)) (.g r r r (fun _ => .gyes r r hb41 (.ldW ia59 sz59 hC49 r r r r .mk)) (.g r r r (fun _ => .gyes r r hb41 (.move r r r .mk)) (.g r r r (fun _ => .gyes r r hb41 (.move r r r .mk)) ?_)))
     obtain ⟨h51, x52, hx53, hd⟩ := hd
     obtain ⟨b54, o55, cs56, e57, hC58, hr59⟩ := R3.2 _ _ hx53
     cases hr59
     refine .g r r r (fun _ => .gyes r r hb41 (.ixa un33 sz59 r e57 r h51 (idx_lt hx53 h51) r r .mk)) (.g r r r (fun _ => .gyes r r hb41 (.ldW ia59 sz59 hC58 r r r r .mk)) (.ww r fun ex => ?_))
     have hw61 := W_gemm_order (I := I37) hd
     refine .gyes r r hb41 (.callP call59 r hw61 r r fun v62 hv63 => ?_)
     obtain ⟨r60, rfl, hd⟩ := hv63
     refine .so 0 r r r trivial (.g r r r (fun _ => .gyes r r hb41 (.ge r r r r .mk)) (.g r r r (fun _ => .pickT r hb41 r r r .mk) (.e2 15 (.nilS [23, 6, 5, 0] r r (.condP r hd (fun hb64 hd => ?_) fun hb64 hd => ?_)))))
     · exact .sr (.ks 1 r (.nilS [2] r r (.ret (pret results56 (.t r .n) hl38 ⟨false, r, hd⟩))))
     exact .skipS [6, 5, 0] r r (.region (.ks 2 r (.nil' fun c w ho hs => ⟨(w64 (s35 + 1)), hd, I37, hl38, ho.sub ⟨r, r, r, trivial⟩, hs.pick .n⟩)))
   refine .g r r r (fun _ => .gno r r hb41 r r .mk) (.g r r r (fun _ => .gno r r hb41 r r .mk) (.g r r r (fun _ => .gno r r hb41 r r .mk) (.g r r r (fun _ => .gno r r hb41 r r .mk) (.g r r r (fun _ => .gno r r hb41 r r .mk) (.g r r r (fun _ => .gno r r hb41 r r .mk) (.g r r r (fun _ => .gno r r hb41 r r .mk) (.g r r r (fun _ => .gno r r hb41 r r .mk) (.g r r r (fun _ => .gno r r hb41 r r .mk) (.g r r r (fun _ => .gno r r hb41 r r .mk) ?_)))))))))
   exact .g r r r (fun _ => .gno r r hb41 r r .mk) (.g r r r (fun _ => .pickF r hb41 r r r .mk) (.e2 15 (.nilS [23, 6, 5, 0] r r (.condKF r r (.skipS [6, 5, 0] r r (.region (.ks 2 r (.nil' fun c w ho hs => ⟨(w64 (s35 + 1)), hd, I37, hl38, ho.sub ⟨r, r, r, trivial⟩, hs.pick .n⟩))))))))
 exact .exitS [] r r (.sr (.ks 1 r (.nilS [2] r r (.ret (pret results56 (.t r .n) hl38 ⟨true, r, hd⟩)))))

theorem W_gemm_within {I : IH} {a0 : Int} {a1 : Int} {Q : Bool → Prop}  (hd : gemm_within a0 a1 Q) :
  PFun prog 62 [.int .i64 a0, .int .i64 a1] I (fun _ => o1_ Q) := by
 refine Fun.enter func62 r ntmps62 r (.c (.c .n)) fun w0 M => ?_
 refine .sr (.ks 1 r (.nilS [1, 0] r r (.sr (.ks 3 r ?_))))
 refine splitP hd (fun hb1 hd => ?_) fun hb1 hd => ?_
 · rw [hb1]
   exact .ks 5 r (.nilS [4] r r (.ret (pret results62 (.t r .n) (.refl _) ⟨(decide (a0 ≤ a1)), r, hd⟩)))
 rw [hb1]
 exact .ks 5 r (.nilS [4] r r (.ret (pret results62 (.t r .n) (.refl _) ⟨false, r, hd⟩)))

theorem W_csr_order {I : IH} {a0 : Triple} {a1 : Triple} {Q : Int → Prop}  (hd : csr_order a0 a1 Q) :
  PFun prog 71 [.agg (encTriple a0).toArray, .agg (encTriple a1).toArray] I (fun _ => o0_ Q) := by
 refine Fun.enter func71 r ntmps71 r (.c (.c .n)) fun w0 M => ?_
 refine .sr (.boxA r r r fun b5 => ?_)
 refine .boxA r r r fun b7 => ?_
 refine .ks 1 r (.nilS [3, 2] r r (.seq (.dr [0, 1, 2, 3, 5, 6, 7, 8, 4, 9, 10, 11] 12 (.g r r r (fun _ => .fa un91 r sz3 r (o := 0) r r r .mk) (.g r r r (fun _ => .load1 ia3 r (.s .z) r r r .mk) (.g r r r (fun _ => .fa un91 r sz3 r (o := 0) r r r .mk) (.g r r r (fun _ => .load1 ia3 r .z r r r .mk) (.g r r r (fun _ => .fa un91 r sz3 r (o := 1) r r r .mk) (.g r r r (fun _ => .load1 ia3 r (.s .z) r r r .mk) ?_)))))))))
 refine .g r r r (fun _ => .fa un91 r sz3 r (o := 1) r r r .mk) (.g r r r (fun _ => .load1 ia3 r .z r r r .mk) (.ww r fun ex => ?_))
 have hw10 := W_cmp_Compare_int (I := I) hd
 refine .callP call100 r hw10 r r fun v11 hv12 => ?_
 obtain ⟨r9, rfl, hd⟩ := hv12
 refine .so 2 r r r (.cg r r r r (fun _ => .load1 ia3 r .z r r r .mk) (.cg r r r r (fun _ => .fa un91 r sz3 r (o := 1) r r r .mk) (.cg r r r r (fun _ => .load1 ia3 r (.s .z) r r r .mk) (.cg r r r r (fun _ => .fa un91 r sz3 r (o := 1) r r r .mk) trivial)))) (.ww r fun ex => ?_)
 have hw14 := W_cmp_Compare_int (I := I) hd
 refine .callP call100 r hw14 r r fun v15 hv16 => ?_
 obtain ⟨r13, rfl, hd⟩ := hv16
 refine .so 2 r r r trivial (.ww r fun ex => ?_)
 refine .buildSlice 2 un27 sz3 zv3 r r (.c r r r (.c r r r .n)) r r fun b17 => ?_
 refine .so 3 r r r trivial (.ww r fun ex => ?_)
 refine .pubB (El := eI64) (ys := ([r9, r13] : List Int)) (k := 2) .z (RepCs.cons (cs := [.int .i64 r9]) r (RepCs.cons (cs := [.int .i64 r13]) r .nil)) r fun I19 hl20 R21 => ?_
 have hw23 := W_cmp_Or_int (I := I19) R21 hd
 refine .callP call99 r hw23 r r fun v24 hv25 => ?_
 obtain ⟨r22, rfl, hd⟩ := hv25
 exact .so 2 r r r trivial (.e2 12 (.ks 1 r (.nilS [4] r r (.drop .z (.drop .z (.ret (pret results71 (.t r .n) hl20 ⟨r22, r, hd⟩)))))))

theorem W_csr_summed {I : IH} {a0 : Int} {a1 : List Triple} {p1 : Option Addr} {c2 : Nat} {Q : ((List Triple) × Int) → Prop} (R3 : RepSl eTriple I p1 c2 a1) (hd : csr_summed a0 a1 Q) :
  PFun prog 105 [.int .i64 a0, .slice p1 a1.length c2] I (fun I_ v => ∃ r p4 c5, v = .tuple #[.slice p4 r.1.length c5, .int .i64 r.2] ∧ RepSl eTriple I_ p4 c5 r.1 ∧ Q r) := by
 refine Fun.enter func105 r ntmps105 r (.c (.c .n)) fun w0 M => ?_
 refine .sr (.ks 2 r (.nilS [1, 0] r r (.sr (.mkMap kArr2 eWide true r r fun b9 => ?_))))
 refine .ks 1 r (.nilS [6, 1, 0] r r (.seq (.sr (.ks 1 r (.len un24 r r r r (.ks 1 r (.nilS [21, 20, 19, 6, 0] r r (.block (.loop hd (fun (s : (List ((Int × Int) × Wide)) × Int) c w => match s with | (s293, s294) => ∃ I_, IH.le I I_ ∧ Ok ⟨75, [], none⟩ [(0, .int .i64 a0), (6, .map (some b9)), (19, .slice p1 a1.length c2), (20, .int .i64 (a1.length : Int)), (21, .int .i64 s294)] c ∧ Sym w0 M I I_ [OwnMap kArr2 eWide true b9 s293] w) (fun c w ho hs => ⟨I, (.refl _), ho.sub ⟨r, r, r, r, r, trivial⟩, hs.pick (.c .z .n)⟩) ?_)))))))))
 rintro ⟨s293, s294⟩ next295 hd c w hst
 obtain ⟨I296, hl297, hok, hsym⟩ := hst
 replace R3 := R3.mono hl297
 refine Cod.at hok hsym (.sr (.ks 1 r (.nilS [22, 21, 20, 19, 6, 0] r r (.seq (.condP r hd (fun hb299 hd => ?_) fun hb299 hd => ?_)))))
 · refine .skipS [21, 20, 19, 6, 0] r r (.seq (.block (.sr ?_)))
   obtain ⟨h311, x312, hx313, hd⟩ := hd
   obtain ⟨b314, o315, cs316, e317, hC318, hr319⟩ := R3.2 _ _ hx313
   cases hr319
   refine .ixa un24 sz91 r e317 r h311 (idx_lt hx313 h311) r r (.ldW isAgg91 sz91 hC318 r r r r (.allocA zv91 r r fun b320 => ?_))
   refine .storeA sz91 r r .z (.t (.t (.t .nil))) r r (.nilS [8, 21, 20, 19, 6, 0] r r (.sr (.fa un91 r sz3 r (o := 0) r r r (.load1 ia3 r .z r r r (.fa un91 r sz3 r (o := 1) r r r (.load1 ia3 r .z r r r (.buildArr zv46 un46 sz3 (.c r r r (.t .nil) (.c r r r (.s (.t .nil)) .n)) r r (.allocA zv46 r r fun b324 => ?_))))))))
   refine .storeA sz46 r r .z (.t (.t .nil)) r r (.nilS [9, 8, 21, 20, 19, 6, 0] r r (.sr (.fa un91 r sz2 r (o := 2) r r r (.load1 ia2 r (.s .z) r r r ?_))))
   have hw333 := W_wide_Of (I := I296) hd
   refine .callP call45 r hw333 r r fun v334 hv335 => ?_
   obtain ⟨r332, rfl, hd⟩ := hv335
   refine .allocA zv57 r r fun b336 => ?_
   refine .storeA sz57 r r .z (.t (.t .nil)) r r (.nilS [10, 9, 21, 20, 19, 6, 0] r r (.drop (.s (.s .z)) (.seq (.sr (.ks 1 r (.loadW isAgg46 sz46 r (.s .z) r r r (.lookM2 (k := (x312.Row, x312.Col)) (El := eWide) (ag := true) (zv := .agg #[.int .i64 0, .int .u64 0]) (z := ({ Hi := 0, Lo := 0 } : Wide)) KA46 underlying174 zv57 ⟨[.int .i64 0, .int .u64 0], r, .a⟩ (.s (.s .z)) r r hd r r fun v341 r338 t343 cs342 hd hr339 hv340 => ?_)))))))
   cases hr339
   cases hv340
   refine .ks 3 r (.allocA zv57 r r fun b344 => ?_)
   refine .storeA sz57 r r .z (.t (.t .nil)) r r (.ks 1 r (.nilS [12, 11, 10, 9, 21, 20, 19, 6, 0] r r (.sr (.ks 1 r (.nilS [39, 11, 10, 9, 21, 20, 19, 6, 0] r r (.condP r hd (fun hb346 hd => ?_) fun hb346 hd => ?_))))))
   · refine .region (.ks 1 r (.loadW ia57 sz57 r .z r r r (.loadW ia57 sz57 r (.s .z) r r r ?_)))
     have hw348 := W_ring_Add (I := I296) hd
     refine .callP call46 r hw348 r r fun v349 hv350 => ?_
     obtain ⟨r347, rfl, hd⟩ := hv350
     refine .storeA sz57 r r (.s .z) (.t (.t .nil)) r r (.nilS [10, 9, 21, 20, 19, 6, 0] r r (.drop .z (.region (.ks 1 r (.loadW isAgg46 sz46 r (.s .z) r r r (.loadW ia57 sz57 r .z r r r (.updM (k := (x312.Row, x312.Col)) (El := eWide) (ag := true) (v := r347) KA46 underlying174 (.s (.s .z)) r r r ⟨[.int .i64 r347.Hi, .int .u64 r347.Lo], r, .a⟩ (.nilS [21, 20, 19, 6, 0] r r (.drop .z ?_)))))))))
     exact .drop .z (.region (.ks 2 r (.nil' fun c w ho hs => ⟨((mput (x312.Row, x312.Col) r347 s293), w64 (s294 + 1)), hd, I296, hl297, ho.sub ⟨r, r, r, r, r, trivial⟩, hs.pick (.c .z .n)⟩)))
   refine .skipS [10, 9, 21, 20, 19, 6, 0] r r (.drop .z (.region (.ks 1 r (.loadW isAgg46 sz46 r (.s .z) r r r (.loadW ia57 sz57 r .z r r r (.updM (k := (x312.Row, x312.Col)) (El := eWide) (ag := true) (v := r332) KA46 underlying174 (.s (.s .z)) r r r ⟨[.int .i64 r332.Hi, .int .u64 r332.Lo], r, .a⟩ (.nilS [21, 20, 19, 6, 0] r r (.drop .z (.drop .z ?_)))))))))
   exact .region (.ks 2 r (.nil' fun c w ho hs => ⟨((mput (x312.Row, x312.Col) r332 s293), w64 (s294 + 1)), hd, I296, hl297, ho.sub ⟨r, r, r, r, r, trivial⟩, hs.pick (.c .z .n)⟩))
 refine .exitS [6, 0] r r (.sr (.ks 1 r (.nilS [13, 6, 0] r r (.seq (.sr (.ks 1 r (.rangeM underlying174 .z r r r fun b352 => ?_)))))))
 refine .nilS [49, 13, 0] r r (.block (.own0 eTriple 91 (.loop hd (fun (s : (List Triple) × (List ((Int × Int) × Wide))) c w => match s with | (s457, s461) => ∃ I_ p458 c459, IH.le I296 I_ ∧ Ok ⟨75, [], none⟩ [(0, .int .i64 a0), (13, .slice p458 s457.length c459), (49, .pointer (some ⟨b352, 0, none⟩))] c ∧ Sym w0 M I I_ [OwnSl eTriple 91 p458 c459 s457, OwnIt kArr2 eWide true b9 b352 s293 s461 none] w) (fun c w ho hs => ⟨I296, _, _, (.refl _), ho.sub ⟨r, r, r, trivial⟩, hs.pick (.c .z (.c .z .n))⟩) ?_)))
 rintro ⟨s457, s461⟩ next463 hd c w hst
 obtain ⟨I464, p458, c459, hl465, hok, hsym⟩ := hst
 have le466 := IH.le.trans hl297 hl465
 refine Cod.at hok hsym (.sr (.nextM (.s .z) r hd r r (fun hd hn487 => ?_) (fun p481 l482 v483 cs484 hd hr485 hv486 hn487 => ?_)))
 · skip
   refine .ks 1 r (.nilS [51, 49, 13, 0] r r (.seq (.condKF r r (.exitS [13] r r (.drop (.s .z) (.sr (.ks 1 r ?_)))))))
   have hw488 := Fun.sort (hk := fun _ => ⟨r, r⟩) SL70 isAgg91 sz91 (fun x y J Q hq => W_csr_order (I := J) (a0 := x) (a1 := y) (Q := Q) hq) call71 (I := I464) (T := 91) (a := p458) (cap := c459) hd
   refine .callS (.f call70 r) (.c .z .n) hw488 r r fun v489 I490 l491 hl492 hv493 => ?_
   obtain ⟨y494, rfl, hlen495, rfl, hd⟩ := hv493
   have le496 := IH.le.trans le466 hl492
   have le497 := IH.le.trans hl465 hl492
   refine .sub (E' := [(13, .slice p458 y494.length c459), (72, .slice p458 y494.length c459), (73, _)]) ⟨(by rw [hlen495]; rfl), (by rw [hlen495]; rfl), r, trivial⟩ (.nilS [13] r r (.sr (.ks 3 r (.nilS [5, 4] r r (.pub .z fun I498 hl499 R500 => ?_)))))
   have le501 := IH.le.trans le496 hl499
   have le502 := IH.le.trans le497 hl499
   exact .ret (pret results105 (.t r (.t r .n)) le501 ⟨(y494, 0), _, _, r, R500, hd⟩)
 cases hr485
 cases hv486
 refine .ks 1 r (.nilS [51, 49, 13, 0] r r (.seq (.condKT r r (.skipS [49, 13, 0] r r (.block (.sr (.entryM .z r r r (.ks 2 r (.allocA zv46 r r fun b507 => ?_)))))))))
 refine .allocA zv57 r r fun b509 => ?_
 refine .storeA sz46 r r (.s .z) (.t (.t .nil)) r r (.storeA sz57 r r .z (.t (.t .nil)) r r (.nilS [15, 14, 49, 13, 0] r r (.sr (.ks 1 r (.loadW ia57 sz57 r .z r r r ?_)))))
 have hw516 := W_ring_Narrow (I := I464) hd
 refine .callP call47 r hw516 r r fun v517 hv518 => ?_
 obtain ⟨r515, rfl, hd⟩ := hv518
 refine .ks 5 r (.nilS [17, 16, 14, 49, 13, 0] r r (.drop .z (.seq (.sr (.ks 2 r (.nilS [62, 16, 14, 49, 13, 0] r r (.condP r hd (fun hb519 hd => ?_) fun hb519 hd => ?_)))))))
 · exact .sr (.ks 2 r (.nilS [5, 4] r r (.drop .z (.drop .z (.drop .z (.ret (pret results105 (.t r (.t r .n)) le466 ⟨(([] : List Triple), 12), _, _, r, (.nil _ _ _), hd⟩)))))))
 refine .skipS [16, 14, 49, 13, 0] r r (.region (.ks 1 r (.ixArr (i := 0) un46 sz3 r r (by decide) (o := 0) r r r (.load1 ia3 r .z r r r (.ixArr (i := 1) un46 sz3 r r (by decide) (o := 1) r r r (.load1 ia3 r .z r r r (.ks 1 r (.build zv91 un91 BI91 (.c r r r (.t .nil) (.c r r r (.s (.t .nil)) (.c r r r (.s (.s (.t .nil))) .n))) (by exact ⟨⟨_, _, r, r, r⟩, ⟨⟨_, _, r, r, r⟩, ⟨⟨_, _, r, r, r⟩, trivial⟩⟩⟩) r r (.buildSlice 1 un24 sz91 zv91 r r (.c r r r .n) r r fun b520 => ?_)))))))))
 obtain ⟨hl522, hd⟩ := hd
 refine .append (ys := [({ Row := p481.1.1, Col := p481.1.2, Val := r515.1 } : Triple)]) 24 (.s (.s (.s .z))) un24 un24 IN91 r r r r r r r r r (.box .z (.one r) r) hl522 r r fun p523 c524 => ?_
 exact .ks 1 r (.nil' fun c w ho hs => ⟨((s457 ++ ([({ Row := p481.1.1, Col := p481.1.2, Val := r515.1 } : Triple)])), l482), hd, I464, _, _, hl465, ho.sub ⟨r, r, r, trivial⟩, hs.pick (.c .z (.c (.s (.s .z)) .n))⟩)

theorem W_csr_Of_1_fca {I : IH} {o0 : Int} {o1 : Int} {a0 : Triple} {b3 : Nat} {b4 : Nat} {Q : Bool → Prop}  (hd : csr_Of_1_fca o0 o1 a0 Q) :
  Fun prog 104 #[.agg (encTriple a0).toArray, .pointer (some ⟨b3, 0, none⟩), .pointer (some ⟨b4, 0, none⟩)] I [pto b3 (.cells #[.int .i64 o0] 3 (0, 0)), pto b4 (.cells #[.int .i64 o1] 3 (0, 0))] (fun I_ v l => ∃ r, v = .bool r ∧ l = [pto b3 (.cells #[.int .i64 o0] 3 (0, 0)), pto b4 (.cells #[.int .i64 o1] 3 (0, 0))] ∧ Q r) := by
 refine Fun.enter (vs := [.agg (encTriple a0).toArray, .pointer (some ⟨b3, 0, none⟩), .pointer (some ⟨b4, 0, none⟩)]) func104 r ntmps104 r (.c (.c (.c .n))) fun w0 M => ?_
 refine .sr (.boxA r r r fun b7 => ?_)
 refine .ks 1 r (.nilS [3, 2, 1] r r (.sr (.fa un91 r sz3 r (o := 0) r r r (.load1 ia3 r .z r r r (.load1 ia3 r (.s .z) r r r (.ks 1 r ?_))))))
 have hw10 := W_csr_within (I := I) hd
 refine .callP call102 r hw10 r r fun v11 hv12 => ?_
 obtain ⟨r9, rfl, hd⟩ := hv12
 refine .ks 2 r ?_
 refine splitP hd (fun hb13 hd => ?_) fun hb13 hd => ?_
 · rw [hb13]
   exact .ks 8 r (.nilS [4, 2, 1] r r (.drop .z (.ret (oret results104 (.t r .n) (.refl _) (.c .z (.c .z .n)) ⟨true, r, r, hd⟩))))
 rw [hb13]
 refine .gyes r r r (.fa un91 r sz3 r (o := 1) r r r (.gyes r r r (.load1 ia3 r .z r r r (.gyes r r r (.load1 ia3 r (.s (.s .z)) r r r (.ks 1 r ?_))))))
 have hw15 := W_csr_within (I := I) hd
 refine .gyes r r r (.callP call102 r hw15 r r fun v16 hv17 => ?_)
 obtain ⟨r14, rfl, hd⟩ := hv17
 exact .ks 3 r (.nilS [4, 2, 1] r r (.drop .z (.ret (oret results104 (.t r .n) (.refl _) (.c .z (.c .z .n)) ⟨(!r14), r, r, hd⟩))))

theorem W_slices_IndexFunc_api_Triple_api_Triple_77e {I : IH} {o0 : Int} {o1 : Int} {a0 : List Triple} {b3 : Nat} {b4 : Nat} {p5 : Option Addr} {c6 : Nat} {Q : Int → Prop} (R7 : RepSl eTriple I p5 c6 a0) (hd : slices_IndexFunc_api_Triple_api_Triple_77e o0 o1 a0 Q) :
  Fun prog 130 #[.slice p5 a0.length c6, .func (.func 104) #[] #[.pointer (some ⟨b3, 0, none⟩), .pointer (some ⟨b4, 0, none⟩)]] I [pto b3 (.cells #[.int .i64 o0] 3 (0, 0)), pto b4 (.cells #[.int .i64 o1] 3 (0, 0))] (fun I_ v l => ∃ r, v = .int .i64 r ∧ l = [pto b3 (.cells #[.int .i64 o0] 3 (0, 0)), pto b4 (.cells #[.int .i64 o1] 3 (0, 0))] ∧ Q r) := by
 refine Fun.enter (vs := [.slice p5 a0.length c6, .func (.func 104) #[] #[.pointer (some ⟨b3, 0, none⟩), .pointer (some ⟨b4, 0, none⟩)]]) func130 r ntmps130 r (.c (.c .n)) fun w0 M => ?_
 refine .sr (.ks 1 r (.nilS [1, 0] r r (.seq (.sr (.ks 1 r (.len un24 r r r r (.ks 1 r (.nilS [8, 7, 1, 0] r r (.block ?_)))))))))
 refine .loop hd (fun (s49 : Int) c w => ∃ I_, IH.le I I_ ∧ Ok ⟨19, [], none⟩ [(0, .slice p5 a0.length c6), (1, .func (.func 104) #[] #[.pointer (some ⟨b3, 0, none⟩), .pointer (some ⟨b4, 0, none⟩)]), (7, .int .i64 (a0.length : Int)), (8, .int .i64 s49)] c ∧ Sym w0 M I I_ [pto b3 (.cells #[.int .i64 o0] 3 (0, 0)), pto b4 (.cells #[.int .i64 o1] 3 (0, 0))] w) (fun c w ho hs => ⟨I, (.refl _), ho.sub ⟨r, r, r, r, trivial⟩, hs.pick (.c .z (.c .z .n))⟩) ?_
 rintro s49 next50 hd c w hst
 obtain ⟨I51, hl52, hok, hsym⟩ := hst
 replace R7 := R7.mono hl52
 refine Cod.at hok hsym (.sr (.ks 1 r (.nilS [9, 8, 7, 1, 0] r r (.seq (.condP r hd (fun hb54 hd => ?_) fun hb54 hd => ?_)))))
 · refine .skipS [8, 7, 1, 0] r r (.seq (.block (.sr (.ks 2 r (.nilS [5, 8, 7, 1, 0] r r (.sr (.ks 3 r ?_)))))))
   obtain ⟨h55, x56, hx57, hd⟩ := hd
   obtain ⟨b58, o59, cs60, e61, hC62, hr63⟩ := R7.2 _ _ hx57
   cases hr63
   refine .ixa un24 sz91 r e61 r h55 (idx_lt hx57 h55) r r (.ldW isAgg91 sz91 hC62 r r r r ?_)
   have hw64 := W_csr_Of_1_fca (I := I51) (o0 := o0) (o1 := o1) (a0 := x56) (b3 := b3) (b4 := b4) hd
   refine .callS (.c call104 r r) (.c .z (.c .z .n)) hw64 r r fun v68 I65 l69 hl66 hv67 => ?_
   obtain ⟨r70, rfl, rfl, hd⟩ := hv67
   have le71 := IH.le.trans hl52 hl66
   replace R7 := R7.mono hl66
   replace hC62 := hC62.mono hl66
   refine .re (m' := [pto b3 (.cells #[.int .i64 o0] 3 (0, 0)), pto b4 (.cells #[.int .i64 o1] 3 (0, 0))]) r (.nilS [16, 5, 8, 7, 1, 0] r r (.condP r hd (fun hb72 hd => ?_) fun hb72 hd => ?_))
   · exact .sr (.ks 2 r (.nilS [4, 1] r r (.ret (oret results130 (.t r .n) le71 (.c .z (.c .z .n)) ⟨s49, r, r, hd⟩))))
   exact .skipS [8, 7, 1, 0] r r (.region (.ks 2 r (.nil' fun c w ho hs => ⟨(w64 (s49 + 1)), hd, I65, le71, ho.sub ⟨r, r, r, r, trivial⟩, hs.pick (.c .z (.c .z .n))⟩)))
 exact .exitS [1] r r (.sr (.ks 1 r (.nilS [4, 1] r r (.ret (oret results130 (.t r .n) hl52 (.c .z (.c .z .n)) ⟨(-1), r, r, hd⟩)))))

theorem W_slices_ContainsFunc_api_Triple_api_Triple_988 {I : IH} {o0 : Int} {o1 : Int} {a0 : List Triple} {b3 : Nat} {b4 : Nat} {p5 : Option Addr} {c6 : Nat} {Q : Bool → Prop} (R7 : RepSl eTriple I p5 c6 a0) (hd : slices_ContainsFunc_api_Triple_api_Triple_988 o0 o1 a0 Q) :
  Fun prog 103 #[.slice p5 a0.length c6, .func (.func 104) #[] #[.pointer (some ⟨b3, 0, none⟩), .pointer (some ⟨b4, 0, none⟩)]] I [pto b3 (.cells #[.int .i64 o0] 3 (0, 0)), pto b4 (.cells #[.int .i64 o1] 3 (0, 0))] (fun I_ v l => ∃ r, v = .bool r ∧ l = [pto b3 (.cells #[.int .i64 o0] 3 (0, 0)), pto b4 (.cells #[.int .i64 o1] 3 (0, 0))] ∧ Q r) := by
 refine Fun.enter (vs := [.slice p5 a0.length c6, .func (.func 104) #[] #[.pointer (some ⟨b3, 0, none⟩), .pointer (some ⟨b4, 0, none⟩)]]) func103 r ntmps103 r (.c (.c .n)) fun w0 M => ?_
 refine .sr (.ks 1 r (.nilS [1, 0] r r (.sr (.ks 2 r ?_))))
 have hw8 := W_slices_IndexFunc_api_Triple_api_Triple_77e (I := I) (o0 := o0) (o1 := o1) (a0 := a0) (b3 := b3) (b4 := b4) R7 hd
 refine .callS (.f call130 r) (.c .z (.c .z .n)) hw8 r r fun v12 I9 l13 hl10 hv11 => ?_
 obtain ⟨r14, rfl, rfl, hd⟩ := hv11
 replace R7 := R7.mono hl10
 exact .re (m' := [pto b3 (.cells #[.int .i64 o0] 3 (0, 0)), pto b4 (.cells #[.int .i64 o1] 3 (0, 0))]) r (.ks 2 r (.nilS [4, 1] r r (.ret (oret results103 (.t r .n) hl10 (.c .z (.c .z .n)) ⟨(decide (0 ≤ r14)), r, r, hd⟩))))

theorem W_csr_Of {I : IH} {a0 : Int} {a1 : Int} {a2 : Int} {a3 : List Triple} {p1 : Option Addr} {c2 : Nat} {Q : (Rows × Int) → Prop} (R3 : RepSl eTriple I p1 c2 a3) (hd : csr_Of a0 a1 a2 a3 Q) :
  PFun prog 65 [.int .i64 a0, .int .i64 a1, .int .i64 a2, .slice p1 a3.length c2] I (o6_ Q) := by
 refine Fun.enter func65 r ntmps65 r (.c (.c (.c (.c .n)))) fun w0 M => ?_
 refine .sr (.box1 r r r r fun b19 => ?_)
 refine .box1 r r r r fun b21 => ?_
 refine .allocA zv30 r r fun b23 => ?_
 refine .ks 1 r (.nilS [8, 6, 5, 3, 0] r r (.seq (.block (.sr (.ks 1 r ?_)))))
 have hw81 := W_ring_Is (I := I) hd
 refine .callP call34 r hw81 r r fun v82 hv83 => ?_
 obtain ⟨r80, rfl, hd⟩ := hv83
 refine .ks 2 r (.nilS [12, 8, 6, 5, 3, 0] r r (.condP r hd (fun hb84 hd => ?_) fun hb84 hd => ?_))
 · exact .sr (.build zv30 un30 BI30 .n (by exact trivial) r r (.storeA sz30 r r .z (.t (.t (.t (.t (.t .nil))))) r r (.ks 1 r (.nilS [9, 8] r r (.drop (.s .z) (.drop (.s .z) (.ret (pret results65 (.w ia30 sz30 r .z r (.t r .n)) (.refl _) ⟨(({ Rows := 0, Cols := 0, Start := ([] : List Int), Col := ([] : List Int), Val := ([] : List Int) } : Rows), 8), _, _, _, _, _, _, r, (.nil _ _ _), (.nil _ _ _), (.nil _ _ _), hd⟩))))))))
 refine .seq ?_
 refine Cod.joinQ (σ := Bool) hd (fun (s103 : Bool) c w => ∃ I_, IH.le I I_ ∧ Ok ⟨51, [], none⟩ [(0, .int .i64 a0), (3, .slice p1 a3.length c2), (5, .pointer (some ⟨b19, 0, none⟩)), (6, .pointer (some ⟨b21, 0, none⟩)), (8, .pointer (some ⟨b23, 0, none⟩)), (17, .bool s103)] c ∧ Sym w0 M I I_ [pto b19 (.cells #[.int .i64 a1] 3 (0, 0)), pto b21 (.cells #[.int .i64 a2] 3 (0, 0)), pto b23 (.cells #[.int .i64 0, .int .i64 0, .slice none 0 0, .slice none 0 0, .slice none 0 0] 30 (0, 0))] w) (fun k104 hd => ?_) ?_
 · skip
   refine .region (.load1 ia3 r (.s (.s .z)) r r r ?_)
   have hw106 := W_csr_within (I := I) hd
   refine .callP call102 r hw106 r r fun v107 hv108 => ?_
   obtain ⟨r105, rfl, hd⟩ := hv108
   refine .ks 2 r ?_
   refine splitP hd (fun hb109 hd => ?_) fun hb109 hd => ?_
   · rw [hb109]
     exact .ks 5 r (.nil' fun c w ho hs => ⟨true, hd, I, (.refl _), ho.sub ⟨r, r, r, r, r, r, trivial⟩, hs.pick (.c (.s (.s .z)) (.c (.s .z) (.c .z .n)))⟩)
   rw [hb109]
   refine .gyes r r r (.load1 ia3 r (.s .z) r r r ?_)
   have hw111 := W_csr_within (I := I) hd
   refine .gyes r r r (.callP call102 r hw111 r r fun v112 hv113 => ?_)
   obtain ⟨r110, rfl, hd⟩ := hv113
   exact .ks 3 r (.nil' fun c w ho hs => ⟨(!r110), hd, I, (.refl _), ho.sub ⟨r, r, r, r, r, r, trivial⟩, hs.pick (.c (.s (.s .z)) (.c (.s .z) (.c .z .n)))⟩)
 rintro s103 hd c w hst
 obtain ⟨I114, hl115, hok, hsym⟩ := hst
 replace R3 := R3.mono hl115
 refine Cod.at hok hsym (.condP r hd (fun hb116 hd => ?_) fun hb116 hd => ?_)
 · exact .sr (.build zv30 un30 BI30 .n (by exact trivial) r r (.storeA sz30 r r (.s (.s .z)) (.t (.t (.t (.t (.t .nil))))) r r (.ks 1 r (.nilS [9, 8] r r (.drop .z (.drop .z (.ret (pret results65 (.w ia30 sz30 r .z r (.t r .n)) hl115 ⟨(({ Rows := 0, Cols := 0, Start := ([] : List Int), Col := ([] : List Int), Val := ([] : List Int) } : Rows), 3), _, _, _, _, _, _, r, (.nil _ _ _), (.nil _ _ _), (.nil _ _ _), hd⟩))))))))
 refine .sr (.ks 1 r (.len un24 r r r r (.ks 2 r (.nilS [27, 8, 6, 5, 3, 0] r r (.condP r hd (fun hb117 hd => ?_) fun hb117 hd => ?_)))))
 · exact .sr (.build zv30 un30 BI30 .n (by exact trivial) r r (.storeA sz30 r r (.s (.s .z)) (.t (.t (.t (.t (.t .nil))))) r r (.ks 1 r (.nilS [9, 8] r r (.drop .z (.drop .z (.ret (pret results65 (.w ia30 sz30 r .z r (.t r .n)) hl115 ⟨(({ Rows := 0, Cols := 0, Start := ([] : List Int), Col := ([] : List Int), Val := ([] : List Int) } : Rows), 5), _, _, _, _, _, _, r, (.nil _ _ _), (.nil _ _ _), (.nil _ _ _), hd⟩))))))))
 refine .sr (.ks 1 r (.mkFn r r r r ?_))
 have hw118 := W_slices_ContainsFunc_api_Triple_api_Triple_988 (I := I114) (o0 := a1) (o1 := a2) (a0 := a3) (b3 := b19) (b4 := b21) R3 hd
 refine .callS (.f call103 r) (.c .z (.c .z .n)) hw118 r r fun v122 I119 l123 hl120 hv121 => ?_
 obtain ⟨r124, rfl, rfl, hd⟩ := hv121
 have le125 := IH.le.trans hl115 hl120
 replace R3 := R3.mono hl120
 refine .re (m' := [pto b19 (.cells #[.int .i64 a1] 3 (0, 0)), pto b21 (.cells #[.int .i64 a2] 3 (0, 0)), pto b23 (.cells #[.int .i64 0, .int .i64 0, .slice none 0 0, .slice none 0 0, .slice none 0 0] 30 (0, 0))]) r (.ks 1 r (.nilS [32, 8, 6, 5, 3, 0] r r (.condP r hd (fun hb126 hd => ?_) fun hb126 hd => ?_)))
 · exact .sr (.build zv30 un30 BI30 .n (by exact trivial) r r (.storeA sz30 r r (.s (.s .z)) (.t (.t (.t (.t (.t .nil))))) r r (.ks 1 r (.nilS [9, 8] r r (.drop .z (.drop .z (.ret (pret results65 (.w ia30 sz30 r .z r (.t r .n)) le125 ⟨(({ Rows := 0, Cols := 0, Start := ([] : List Int), Col := ([] : List Int), Val := ([] : List Int) } : Rows), 3), _, _, _, _, _, _, r, (.nil _ _ _), (.nil _ _ _), (.nil _ _ _), hd⟩))))))))
 refine .skipS [8, 6, 5, 3, 0] r r (.sr (.ks 2 r ?_))
 have hw147 := W_csr_summed (I := I119) R3 hd
 refine .call call105 r hw147 r r fun v142 I139 hl140 hv141 => ?_
 obtain ⟨r138, p144, c145, rfl, R146, hd⟩ := hv141
 have le148 := IH.le.trans le125 hl140
 replace R3 := R3.mono hl140
 refine .ks 5 r (.nilS [11, 10, 8, 6, 5] r r (.seq (.sr (.ks 2 r (.nilS [44, 11, 10, 8, 6, 5] r r (.condP r hd (fun hb149 hd => ?_) fun hb149 hd => ?_))))))
 · exact .sr (.build zv30 un30 BI30 .n (by exact trivial) r r (.ks 1 r (.storeA sz30 r r (.s (.s .z)) (.t (.t (.t (.t (.t .nil))))) r r (.ks 1 r (.nilS [9, 8] r r (.drop .z (.drop .z (.ret (pret results65 (.w ia30 sz30 r .z r (.t r .n)) le148 ⟨(({ Rows := 0, Cols := 0, Start := ([] : List Int), Col := ([] : List Int), Val := ([] : List Int) } : Rows), r138.2), _, _, _, _, _, _, r, (.nil _ _ _), (.nil _ _ _), (.nil _ _ _), hd⟩)))))))))
 refine .skipS [10, 8, 6, 5] r r (.sr (.load1 ia3 r .z r r r (.load1 ia3 r (.s .z) r r r (.ks 1 r ?_))))
 have hw165 := W_csr_built (I := I139) R146 hd
 refine .call call69 r hw165 r r fun v154 I151 hl152 hv153 => ?_
 obtain ⟨r150, p156, c157, p159, c160, p162, c163, rfl, R158, R161, R164, hd⟩ := hv153
 have le166 := IH.le.trans le148 hl152
 replace R146 := R146.mono hl152
 exact .storeA sz30 r r (.s (.s .z)) (.t (.t (.t (.t (.t .nil))))) r r (.ks 1 r (.nilS [9, 8] r r (.drop .z (.drop .z (.ret (pret results65 (.w ia30 sz30 r .z r (.t r .n)) le166 ⟨(r150, 0), _, _, _, _, _, _, r, R158, R161, R164, hd⟩))))))

theorem W_gemm_Done_1_bab {I : IH} {o0 : Int} {o1 : Int} {a0 : Cell} {b3 : Nat} {b4 : Nat} {Q : Bool → Prop}  (hd : gemm_Done_1_bab o0 o1 a0 Q) :
  Fun prog 64 #[.agg (encCell a0).toArray, .pointer (some ⟨b3, 0, none⟩), .pointer (some ⟨b4, 0, none⟩)] I [pto b3 (.cells #[.int .i64 o0] 3 (0, 0)), pto b4 (.cells #[.int .i64 o1] 3 (0, 0))] (fun I_ v l => ∃ r, v = .bool r ∧ l = [pto b3 (.cells #[.int .i64 o0] 3 (0, 0)), pto b4 (.cells #[.int .i64 o1] 3 (0, 0))] ∧ Q r) := by
 refine Fun.enter (vs := [.agg (encCell a0).toArray, .pointer (some ⟨b3, 0, none⟩), .pointer (some ⟨b4, 0, none⟩)]) func64 r ntmps64 r (.c (.c (.c .n))) fun w0 M => ?_
 refine .sr (.boxA r r r fun b7 => ?_)
 refine .ks 1 r (.nilS [3, 2, 1] r r (.sr (.fa un59 r sz3 r (o := 0) r r r (.load1 ia3 r .z r r r (.load1 ia3 r (.s .z) r r r (.ks 1 r ?_))))))
 have hw10 := W_gemm_within (I := I) hd
 refine .callP call62 r hw10 r r fun v11 hv12 => ?_
 obtain ⟨r9, rfl, hd⟩ := hv12
 refine .ks 2 r ?_
 refine splitP hd (fun hb13 hd => ?_) fun hb13 hd => ?_
 · rw [hb13]
   exact .ks 8 r (.nilS [4, 2, 1] r r (.drop .z (.ret (oret results64 (.t r .n) (.refl _) (.c .z (.c .z .n)) ⟨true, r, r, hd⟩))))
 rw [hb13]
 refine .gyes r r r (.fa un59 r sz3 r (o := 1) r r r (.gyes r r r (.load1 ia3 r .z r r r (.gyes r r r (.load1 ia3 r (.s (.s .z)) r r r (.ks 1 r ?_))))))
 have hw15 := W_gemm_within (I := I) hd
 refine .gyes r r r (.callP call62 r hw15 r r fun v16 hv17 => ?_)
 obtain ⟨r14, rfl, hd⟩ := hv17
 exact .ks 3 r (.nilS [4, 2, 1] r r (.drop .z (.ret (oret results64 (.t r .n) (.refl _) (.c .z (.c .z .n)) ⟨(!r14), r, r, hd⟩))))

theorem W_slices_IndexFunc_api_Cell_api_Cell_05b {I : IH} {o0 : Int} {o1 : Int} {a0 : List Cell} {b3 : Nat} {b4 : Nat} {p5 : Option Addr} {c6 : Nat} {Q : Int → Prop} (R7 : RepSl eCell I p5 c6 a0) (hd : slices_IndexFunc_api_Cell_api_Cell_05b o0 o1 a0 Q) :
  Fun prog 101 #[.slice p5 a0.length c6, .func (.func 64) #[] #[.pointer (some ⟨b3, 0, none⟩), .pointer (some ⟨b4, 0, none⟩)]] I [pto b3 (.cells #[.int .i64 o0] 3 (0, 0)), pto b4 (.cells #[.int .i64 o1] 3 (0, 0))] (fun I_ v l => ∃ r, v = .int .i64 r ∧ l = [pto b3 (.cells #[.int .i64 o0] 3 (0, 0)), pto b4 (.cells #[.int .i64 o1] 3 (0, 0))] ∧ Q r) := by
 refine Fun.enter (vs := [.slice p5 a0.length c6, .func (.func 64) #[] #[.pointer (some ⟨b3, 0, none⟩), .pointer (some ⟨b4, 0, none⟩)]]) func101 r ntmps101 r (.c (.c .n)) fun w0 M => ?_
 refine .sr (.ks 1 r (.nilS [1, 0] r r (.seq (.sr (.ks 1 r (.len un33 r r r r (.ks 1 r (.nilS [8, 7, 1, 0] r r (.block ?_)))))))))
 refine .loop hd (fun (s49 : Int) c w => ∃ I_, IH.le I I_ ∧ Ok ⟨19, [], none⟩ [(0, .slice p5 a0.length c6), (1, .func (.func 64) #[] #[.pointer (some ⟨b3, 0, none⟩), .pointer (some ⟨b4, 0, none⟩)]), (7, .int .i64 (a0.length : Int)), (8, .int .i64 s49)] c ∧ Sym w0 M I I_ [pto b3 (.cells #[.int .i64 o0] 3 (0, 0)), pto b4 (.cells #[.int .i64 o1] 3 (0, 0))] w) (fun c w ho hs => ⟨I, (.refl _), ho.sub ⟨r, r, r, r, trivial⟩, hs.pick (.c .z (.c .z .n))⟩) ?_
 rintro s49 next50 hd c w hst
 obtain ⟨I51, hl52, hok, hsym⟩ := hst
 replace R7 := R7.mono hl52
 refine Cod.at hok hsym (.sr (.ks 1 r (.nilS [9, 8, 7, 1, 0] r r (.seq (.condP r hd (fun hb54 hd => ?_) fun hb54 hd => ?_)))))
 · refine .skipS [8, 7, 1, 0] r r (.seq (.block (.sr (.ks 2 r (.nilS [5, 8, 7, 1, 0] r r (.sr (.ks 3 r ?_)))))))
   obtain ⟨h55, x56, hx57, hd⟩ := hd
   obtain ⟨b58, o59, cs60, e61, hC62, hr63⟩ := R7.2 _ _ hx57
   cases hr63
   refine .ixa un33 sz59 r e61 r h55 (idx_lt hx57 h55) r r (.ldW ia59 sz59 hC62 r r r r ?_)
   have hw64 := W_gemm_Done_1_bab (I := I51) (o0 := o0) (o1 := o1) (a0 := x56) (b3 := b3) (b4 := b4) hd
   refine .callS (.c call64 r r) (.c .z (.c .z .n)) hw64 r r fun v68 I65 l69 hl66 hv67 => ?_
   obtain ⟨r70, rfl, rfl, hd⟩ := hv67
   have le71 := IH.le.trans hl52 hl66
   replace R7 := R7.mono hl66
   replace hC62 := hC62.mono hl66
   refine .re (m' := [pto b3 (.cells #[.int .i64 o0] 3 (0, 0)), pto b4 (.cells #[.int .i64 o1] 3 (0, 0))]) r (.nilS [16, 5, 8, 7, 1, 0] r r (.condP r hd (fun hb72 hd => ?_) fun hb72 hd => ?_))
   · exact .sr (.ks 2 r (.nilS [4, 1] r r (.ret (oret results101 (.t r .n) le71 (.c .z (.c .z .n)) ⟨s49, r, r, hd⟩))))
   exact .skipS [8, 7, 1, 0] r r (.region (.ks 2 r (.nil' fun c w ho hs => ⟨(w64 (s49 + 1)), hd, I65, le71, ho.sub ⟨r, r, r, r, trivial⟩, hs.pick (.c .z (.c .z .n))⟩)))
 exact .exitS [1] r r (.sr (.ks 1 r (.nilS [4, 1] r r (.ret (oret results101 (.t r .n) hl52 (.c .z (.c .z .n)) ⟨(-1), r, r, hd⟩)))))

theorem W_slices_ContainsFunc_api_Cell_api_Cell_72c {I : IH} {o0 : Int} {o1 : Int} {a0 : List Cell} {b3 : Nat} {b4 : Nat} {p5 : Option Addr} {c6 : Nat} {Q : Bool → Prop} (R7 : RepSl eCell I p5 c6 a0) (hd : slices_ContainsFunc_api_Cell_api_Cell_72c o0 o1 a0 Q) :
  Fun prog 63 #[.slice p5 a0.length c6, .func (.func 64) #[] #[.pointer (some ⟨b3, 0, none⟩), .pointer (some ⟨b4, 0, none⟩)]] I [pto b3 (.cells #[.int .i64 o0] 3 (0, 0)), pto b4 (.cells #[.int .i64 o1] 3 (0, 0))] (fun I_ v l => ∃ r, v = .bool r ∧ l = [pto b3 (.cells #[.int .i64 o0] 3 (0, 0)), pto b4 (.cells #[.int .i64 o1] 3 (0, 0))] ∧ Q r) := by
 refine Fun.enter (vs := [.slice p5 a0.length c6, .func (.func 64) #[] #[.pointer (some ⟨b3, 0, none⟩), .pointer (some ⟨b4, 0, none⟩)]]) func63 r ntmps63 r (.c (.c .n)) fun w0 M => ?_
 refine .sr (.ks 1 r (.nilS [1, 0] r r (.sr (.ks 2 r ?_))))
 have hw8 := W_slices_IndexFunc_api_Cell_api_Cell_05b (I := I) (o0 := o0) (o1 := o1) (a0 := a0) (b3 := b3) (b4 := b4) R7 hd
 refine .callS (.f call101 r) (.c .z (.c .z .n)) hw8 r r fun v12 I9 l13 hl10 hv11 => ?_
 obtain ⟨r14, rfl, rfl, hd⟩ := hv11
 replace R7 := R7.mono hl10
 exact .re (m' := [pto b3 (.cells #[.int .i64 o0] 3 (0, 0)), pto b4 (.cells #[.int .i64 o1] 3 (0, 0))]) r (.ks 2 r (.nilS [4, 1] r r (.ret (oret results63 (.t r .n) hl10 (.c .z (.c .z .n)) ⟨(decide (0 ≤ r14)), r, r, hd⟩))))

theorem W_gemm_Done {I : IH} {a0 : Int} {a1 : Int} {a2 : Int} {a3 : List Cell} {p1 : Option Addr} {c2 : Nat} {Q : (Rows × Int) → Prop} (R3 : RepSl eCell I p1 c2 a3) (hd : gemm_Done a0 a1 a2 a3 Q) :
  PFun prog 20 [.int .i64 a0, .int .i64 a1, .int .i64 a2, .slice p1 a3.length c2] I (o6_ Q) := by
 refine Fun.enter func20 r ntmps20 r (.c (.c (.c (.c .n)))) fun w0 M => ?_
 refine .sr (.box1 r r r r fun b19 => ?_)
 refine .box1 r r r r fun b21 => ?_
 refine .allocA zv30 r r fun b23 => ?_
 refine .ks 1 r (.nilS [8, 6, 5, 3, 0] r r (.seq (.block (.sr (.ks 1 r ?_)))))
 have hw98 := W_ring_Is (I := I) hd
 refine .callP call34 r hw98 r r fun v99 hv100 => ?_
 obtain ⟨r97, rfl, hd⟩ := hv100
 refine .ks 2 r (.nilS [15, 8, 6, 5, 3, 0] r r (.condP r hd (fun hb101 hd => ?_) fun hb101 hd => ?_))
 · exact .sr (.build zv30 un30 BI30 .n (by exact trivial) r r (.storeA sz30 r r .z (.t (.t (.t (.t (.t .nil))))) r r (.ks 1 r (.nilS [9, 8] r r (.drop (.s .z) (.drop (.s .z) (.ret (pret results20 (.w ia30 sz30 r .z r (.t r .n)) (.refl _) ⟨(({ Rows := 0, Cols := 0, Start := ([] : List Int), Col := ([] : List Int), Val := ([] : List Int) } : Rows), 8), _, _, _, _, _, _, r, (.nil _ _ _), (.nil _ _ _), (.nil _ _ _), hd⟩))))))))
 refine .seq ?_
 refine Cod.joinQ (σ := Bool) hd (fun (s120 : Bool) c w => ∃ I_, IH.le I I_ ∧ Ok ⟨82, [], none⟩ [(0, .int .i64 a0), (3, .slice p1 a3.length c2), (5, .pointer (some ⟨b19, 0, none⟩)), (6, .pointer (some ⟨b21, 0, none⟩)), (8, .pointer (some ⟨b23, 0, none⟩)), (20, .bool s120)] c ∧ Sym w0 M I I_ [pto b19 (.cells #[.int .i64 a1] 3 (0, 0)), pto b21 (.cells #[.int .i64 a2] 3 (0, 0)), pto b23 (.cells #[.int .i64 0, .int .i64 0, .slice none 0 0, .slice none 0 0, .slice none 0 0] 30 (0, 0))] w) (fun k121 hd => ?_) ?_
 · skip
   refine .region (.load1 ia3 r (.s (.s .z)) r r r ?_)
   have hw123 := W_gemm_within (I := I) hd
   refine .callP call62 r hw123 r r fun v124 hv125 => ?_
   obtain ⟨r122, rfl, hd⟩ := hv125
   refine .ks 2 r ?_
   refine splitP hd (fun hb126 hd => ?_) fun hb126 hd => ?_
   · rw [hb126]
     exact .ks 5 r (.nil' fun c w ho hs => ⟨true, hd, I, (.refl _), ho.sub ⟨r, r, r, r, r, r, trivial⟩, hs.pick (.c (.s (.s .z)) (.c (.s .z) (.c .z .n)))⟩)
   rw [hb126]
   refine .gyes r r r (.load1 ia3 r (.s .z) r r r ?_)
   have hw128 := W_gemm_within (I := I) hd
   refine .gyes r r r (.callP call62 r hw128 r r fun v129 hv130 => ?_)
   obtain ⟨r127, rfl, hd⟩ := hv130
   exact .ks 3 r (.nil' fun c w ho hs => ⟨(!r127), hd, I, (.refl _), ho.sub ⟨r, r, r, r, r, r, trivial⟩, hs.pick (.c (.s (.s .z)) (.c (.s .z) (.c .z .n)))⟩)
 rintro s120 hd c w hst
 obtain ⟨I131, hl132, hok, hsym⟩ := hst
 replace R3 := R3.mono hl132
 refine Cod.at hok hsym (.condP r hd (fun hb133 hd => ?_) fun hb133 hd => ?_)
 · exact .sr (.build zv30 un30 BI30 .n (by exact trivial) r r (.storeA sz30 r r (.s (.s .z)) (.t (.t (.t (.t (.t .nil))))) r r (.ks 1 r (.nilS [9, 8] r r (.drop .z (.drop .z (.ret (pret results20 (.w ia30 sz30 r .z r (.t r .n)) hl132 ⟨(({ Rows := 0, Cols := 0, Start := ([] : List Int), Col := ([] : List Int), Val := ([] : List Int) } : Rows), 3), _, _, _, _, _, _, r, (.nil _ _ _), (.nil _ _ _), (.nil _ _ _), hd⟩))))))))
 refine .sr (.ks 1 r (.mkFn r r r r ?_))
 have hw142 := W_slices_ContainsFunc_api_Cell_api_Cell_72c (I := I131) (o0 := a1) (o1 := a2) (a0 := a3) (b3 := b19) (b4 := b21) R3 hd
 refine .callS (.f call63 r) (.c .z (.c .z .n)) hw142 r r fun v146 I143 l147 hl144 hv145 => ?_
 obtain ⟨r148, rfl, rfl, hd⟩ := hv145
 have le149 := IH.le.trans hl132 hl144
 replace R3 := R3.mono hl144
 refine .re (m' := [pto b19 (.cells #[.int .i64 a1] 3 (0, 0)), pto b21 (.cells #[.int .i64 a2] 3 (0, 0)), pto b23 (.cells #[.int .i64 0, .int .i64 0, .slice none 0 0, .slice none 0 0, .slice none 0 0] 30 (0, 0))]) r (.ks 1 r (.nilS [30, 8, 6, 5, 3, 0] r r (.condP r hd (fun hb150 hd => ?_) fun hb150 hd => ?_)))
 · exact .sr (.build zv30 un30 BI30 .n (by exact trivial) r r (.storeA sz30 r r (.s (.s .z)) (.t (.t (.t (.t (.t .nil))))) r r (.ks 1 r (.nilS [9, 8] r r (.drop .z (.drop .z (.ret (pret results20 (.w ia30 sz30 r .z r (.t r .n)) le149 ⟨(({ Rows := 0, Cols := 0, Start := ([] : List Int), Col := ([] : List Int), Val := ([] : List Int) } : Rows), 3), _, _, _, _, _, _, r, (.nil _ _ _), (.nil _ _ _), (.nil _ _ _), hd⟩))))))))
 refine .sr (.ks 1 r ?_)
 have hw156 := W_gemm_rises (I := I143) R3 hd
 refine .callP call56 r hw156 r r fun v157 hv158 => ?_
 obtain ⟨r155, rfl, hd⟩ := hv158
 refine .ks 2 r (.nilS [35, 8, 6, 5, 3, 0] r r (.condP r hd (fun hb159 hd => ?_) fun hb159 hd => ?_))
 · exact .sr (.build zv30 un30 BI30 .n (by exact trivial) r r (.storeA sz30 r r (.s (.s .z)) (.t (.t (.t (.t (.t .nil))))) r r (.ks 1 r (.nilS [9, 8] r r (.drop .z (.drop .z (.ret (pret results20 (.w ia30 sz30 r .z r (.t r .n)) le149 ⟨(({ Rows := 0, Cols := 0, Start := ([] : List Int), Col := ([] : List Int), Val := ([] : List Int) } : Rows), 6), _, _, _, _, _, _, r, (.nil _ _ _), (.nil _ _ _), (.nil _ _ _), hd⟩))))))))
 refine .sr (.ks 1 r (.len un33 r r r r (.ks 2 r (.nilS [40, 8, 6, 5, 3, 0] r r (.condP r hd (fun hb160 hd => ?_) fun hb160 hd => ?_)))))
 · exact .sr (.build zv30 un30 BI30 .n (by exact trivial) r r (.storeA sz30 r r (.s (.s .z)) (.t (.t (.t (.t (.t .nil))))) r r (.ks 1 r (.nilS [9, 8] r r (.drop .z (.drop .z (.ret (pret results20 (.w ia30 sz30 r .z r (.t r .n)) le149 ⟨(({ Rows := 0, Cols := 0, Start := ([] : List Int), Col := ([] : List Int), Val := ([] : List Int) } : Rows), 5), _, _, _, _, _, _, r, (.nil _ _ _), (.nil _ _ _), (.nil _ _ _), hd⟩))))))))
 refine .skipS [8, 6, 5, 3, 0] r r (.sr (.ks 1 r (.nilS [10, 8, 6, 5, 3, 0] r r (.seq (.sr (.ks 1 r (.len un33 r r r r (.ks 1 r (.nilS [47, 46, 45, 10, 8, 6, 5, 0] r r ?_)))))))))
 refine .block (.own0 eTriple 91 (.loop hd (fun (s : (List Triple) × Int) c w => match s with | (s448, s452) => ∃ I_ p449 c450, IH.le I143 I_ ∧ Ok ⟨82, [], none⟩ [(0, .int .i64 a0), (5, .pointer (some ⟨b19, 0, none⟩)), (6, .pointer (some ⟨b21, 0, none⟩)), (8, .pointer (some ⟨b23, 0, none⟩)), (10, .slice p449 s448.length c450), (45, .slice p1 a3.length c2), (46, .int .i64 (a3.length : Int)), (47, .int .i64 s452)] c ∧ Sym w0 M I I_ [pto b19 (.cells #[.int .i64 a1] 3 (0, 0)), pto b21 (.cells #[.int .i64 a2] 3 (0, 0)), pto b23 (.cells #[.int .i64 0, .int .i64 0, .slice none 0 0, .slice none 0 0, .slice none 0 0] 30 (0, 0)), OwnSl eTriple 91 p449 c450 s448] w) (fun c w ho hs => ⟨I143, _, _, (.refl _), ho.sub ⟨r, r, r, r, r, r, r, r, trivial⟩, hs.pick (.c (.s .z) (.c (.s .z) (.c (.s .z) (.c .z .n))))⟩) ?_))
 rintro ⟨s448, s452⟩ next454 hd c w hst
 obtain ⟨I455, p449, c450, hl456, hok, hsym⟩ := hst
 have le457 := IH.le.trans le149 hl456
 replace R3 := R3.mono hl456
 refine Cod.at hok hsym (.sr (.ks 1 r (.nilS [48, 47, 46, 45, 10, 8, 6, 5, 0] r r (.seq (.condP r hd (fun hb459 hd => ?_) fun hb459 hd => ?_)))))
 · refine .skipS [47, 46, 45, 10, 8, 6, 5, 0] r r (.seq (.block (.sr ?_)))
   obtain ⟨h471, x472, hx473, hd⟩ := hd
   obtain ⟨b474, o475, cs476, e477, hC478, hr479⟩ := R3.2 _ _ hx473
   cases hr479
   refine .ixa un33 sz59 r e477 r h471 (idx_lt hx473 h471) r r (.ldW ia59 sz59 hC478 r r r r (.allocA zv59 r r fun b480 => ?_))
   refine .storeA sz59 r r .z (.t (.t (.t (.t .nil)))) r r (.nilS [12, 47, 46, 45, 10, 8, 6, 5, 0] r r (.sr (.ks 1 r (.fa un59 r sz57 r (o := 2) r r r (.loadA ia57 sz57 r .z (.s (.s (.t (.t .nil)))) r r r ?_)))))
   have hw487 := W_ring_Narrow (I := I455) hd
   refine .callP call47 r hw487 r r fun v488 hv489 => ?_
   obtain ⟨r486, rfl, hd⟩ := hv489
   refine .ks 5 r (.nilS [14, 13, 12, 47, 46, 45, 10, 8, 6, 5, 0] r r (.seq (.sr (.ks 2 r (.nilS [59, 13, 12, 47, 46, 45, 10, 8, 6, 5, 0] r r (.condP r hd (fun hb491 hd => ?_) fun hb491 hd => ?_))))))
   · exact .sr (.build zv30 un30 BI30 .n (by exact trivial) r r (.storeA sz30 r r (.s (.s (.s .z))) (.t (.t (.t (.t (.t .nil))))) r r (.ks 1 r (.nilS [9, 8] r r (.drop .z (.drop .z (.drop .z (.drop (.s .z) (.ret (pret results20 (.w ia30 sz30 r .z r (.t r .n)) le457 ⟨(({ Rows := 0, Cols := 0, Start := ([] : List Int), Col := ([] : List Int), Val := ([] : List Int) } : Rows), 12), _, _, _, _, _, _, r, (.nil _ _ _), (.nil _ _ _), (.nil _ _ _), hd⟩))))))))))
   refine .skipS [13, 12, 47, 46, 45, 10, 8, 6, 5, 0] r r (.sr (.ks 2 r ?_))
   have hw497 := W_ring_Zero (I := I455) hd
   refine .callP call44 r hw497 r r fun v498 hv499 => ?_
   obtain ⟨r496, rfl, hd⟩ := hv499
   refine .ks 1 r (.nilS [64, 13, 12, 47, 46, 45, 10, 8, 6, 5, 0] r r (.condP r hd (fun hb500 hd => ?_) fun hb500 hd => ?_))
   · refine .region (.ks 1 r (.fa un59 r sz3 r (o := 0) r r r (.load1 ia3 r .z r r r (.fa un59 r sz3 r (o := 1) r r r (.load1 ia3 r .z r r r (.ks 1 r (.build zv91 un91 BI91 (.c r r r (.t .nil) (.c r r r (.s (.t .nil)) (.c r r r (.s (.s (.t .nil))) .n))) (by exact ⟨⟨_, _, r, r, r⟩, ⟨⟨_, _, r, r, r⟩, ⟨⟨_, _, r, r, r⟩, trivial⟩⟩⟩) r r (.buildSlice 1 un24 sz91 zv91 r r (.c r r r .n) r r fun b501 => ?_))))))))
     obtain ⟨hl503, hd⟩ := hd
     refine .append (ys := [({ Row := x472.Row, Col := x472.Col, Val := r486.1 } : Triple)]) 24 (.s (.s (.s (.s (.s .z))))) un24 un24 IN91 r r r r r r r r r (.box .z (.one r) r) hl503 r r fun p504 c505 => ?_
     exact .ks 1 r (.nilS [10, 47, 46, 45, 8, 6, 5, 0] r r (.drop (.s .z) (.drop (.s .z) (.region (.ks 2 r (.nil' fun c w ho hs => ⟨((s448 ++ ([({ Row := x472.Row, Col := x472.Col, Val := r486.1 } : Triple)])), w64 (s452 + 1)), hd, I455, _, _, hl456, ho.sub ⟨r, r, r, r, r, r, r, r, trivial⟩, hs.pick (.c (.s .z) (.c (.s .z) (.c (.s .z) (.c .z .n))))⟩))))))
   exact .skipS [47, 46, 45, 10, 8, 6, 5, 0] r r (.drop .z (.region (.ks 2 r (.nil' fun c w ho hs => ⟨(s448, w64 (s452 + 1)), hd, I455, _, _, hl456, ho.sub ⟨r, r, r, r, r, r, r, r, trivial⟩, hs.pick (.c .z (.c .z (.c .z (.c .z .n))))⟩))))
 refine .exitS [10, 8, 6, 5, 0] r r (.sr (.ks 1 r (.load1 ia3 r .z r r r (.load1 ia3 r (.s .z) r r r (.ks 1 r (.pub (.s (.s (.s .z))) fun I507 hl508 R509 => ?_))))))
 have le510 := IH.le.trans le457 hl508
 have le511 := IH.le.trans hl456 hl508
 have hw527 := W_csr_Of (I := I507) R509 hd
 refine .call call65 r hw527 r r fun v516 I513 hl514 hv515 => ?_
 obtain ⟨r512, p518, c519, p521, c522, p524, c525, rfl, R520, R523, R526, hd⟩ := hv515
 have le528 := IH.le.trans le510 hl514
 have le529 := IH.le.trans le511 hl514
 replace R509 := R509.mono hl514
 exact .ks 2 r (.storeA sz30 r r (.s (.s .z)) (.t (.t (.t (.t (.t .nil))))) r r (.ks 1 r (.nilS [9, 8] r r (.drop .z (.drop .z (.ret (pret results20 (.w ia30 sz30 r .z r (.t r .n)) le528 ⟨(r512.1, r512.2), _, _, _, _, _, _, r, R520, R523, R526, hd⟩)))))))

theorem W_gemm_Times {I : IH} {a0 : Int} {a1 : Rows} {a2 : Rows} {a3 : Rows} {p1 : Option Addr} {c2 : Nat} {p4 : Option Addr} {c5 : Nat} {p7 : Option Addr} {c8 : Nat} {p10 : Option Addr} {c11 : Nat} {p13 : Option Addr} {c14 : Nat} {p16 : Option Addr} {c17 : Nat} {p19 : Option Addr} {c20 : Nat} {p22 : Option Addr} {c23 : Nat} {p25 : Option Addr} {c26 : Nat} {Q : (Rows × Int) → Prop} (R3 : RepSl eI64 I p1 c2 a1.Start) (R6 : RepSl eI64 I p4 c5 a1.Col) (R9 : RepSl eI64 I p7 c8 a1.Val) (R12 : RepSl eI64 I p10 c11 a2.Start) (R15 : RepSl eI64 I p13 c14 a2.Col) (R18 : RepSl eI64 I p16 c17 a2.Val) (R21 : RepSl eI64 I p19 c20 a3.Start) (R24 : RepSl eI64 I p22 c23 a3.Col) (R27 : RepSl eI64 I p25 c26 a3.Val) (hd : gemm_Times a0 a1 a2 a3 Q) :
  PFun prog 11 [.int .i64 a0, .agg #[.int .i64 a1.Rows, .int .i64 a1.Cols, .slice p1 a1.Start.length c2, .slice p4 a1.Col.length c5, .slice p7 a1.Val.length c8], .agg #[.int .i64 a2.Rows, .int .i64 a2.Cols, .slice p10 a2.Start.length c11, .slice p13 a2.Col.length c14, .slice p16 a2.Val.length c17], .agg #[.int .i64 a3.Rows, .int .i64 a3.Cols, .slice p19 a3.Start.length c20, .slice p22 a3.Col.length c23, .slice p25 a3.Val.length c26]] I (o13_ Q) := by
 refine Fun.enter func11 r ntmps11 r (.c (.c (.c (.c .n)))) fun w0 M => ?_
 refine .sr (.boxA r r r fun b45 => ?_)
 refine .boxA r r r fun b47 => ?_
 refine .boxA r r r fun b49 => ?_
 refine .allocA zv30 r r fun b51 => ?_
 refine .ks 1 r (.nilS [8, 7, 6, 5, 0] r r (.sr (.ks 1 r (.loadW ia30 sz30 r (.s (.s (.s .z))) r r r (.loadW ia30 sz30 r (.s (.s .z)) r r r (.loadW ia30 sz30 r (.s .z) r r r ?_))))))
 have hw72 := W_gemm_Cells (I := I) R3 R6 R9 R12 R15 R18 R21 R24 R27 hd
 refine .call call9 r hw72 r r fun v67 I64 hl65 hv66 => ?_
 obtain ⟨r63, p69, c70, rfl, R71, hd⟩ := hv66
 replace R3 := R3.mono hl65
 replace R6 := R6.mono hl65
 replace R9 := R9.mono hl65
 replace R12 := R12.mono hl65
 replace R15 := R15.mono hl65
 replace R18 := R18.mono hl65
 replace R21 := R21.mono hl65
 replace R24 := R24.mono hl65
 replace R27 := R27.mono hl65
 refine .ks 5 r (.nilS [11, 10, 8, 6, 5, 0] r r (.drop (.s .z) (.seq (.sr (.ks 2 r (.nilS [22, 11, 10, 8, 6, 5, 0] r r (.condP r hd (fun hb74 hd => ?_) fun hb74 hd => ?_)))))))
 · exact .sr (.build zv30 un30 BI30 .n (by exact trivial) r r (.ks 1 r (.storeA sz30 r r .z (.t (.t (.t (.t (.t .nil))))) r r (.ks 1 r (.nilS [9, 8] r r (.drop (.s .z) (.drop (.s .z) (.ret (pret results11 (.w ia30 sz30 r .z r (.t r .n)) hl65 ⟨(({ Rows := 0, Cols := 0, Start := ([] : List Int), Col := ([] : List Int), Val := ([] : List Int) } : Rows), r63.2), _, _, _, _, _, _, r, (.nil _ _ _), (.nil _ _ _), (.nil _ _ _), hd⟩)))))))))
 refine .skipS [10, 8, 6, 5, 0] r r (.sr (.loadW ia30 sz30 r (.s (.s .z)) r r r (.loadW ia30 sz30 r (.s .z) r r r (.buildSlice 2 un80 sz30 zv30 r r (.c r r r (.c r r r .n)) r r fun b92 => ?_))))
 refine .pubB (El := eRows) (ys := ([a1, a2] : List Rows)) (k := 2) .z (RepCs.cons (cs := [.int .i64 a1.Rows, .int .i64 a1.Cols, .slice p1 a1.Start.length c2, .slice p4 a1.Col.length c5, .slice p7 a1.Val.length c8]) ⟨_, _, _, _, _, _, r, R3, R6, R9⟩ (RepCs.cons (cs := [.int .i64 a2.Rows, .int .i64 a2.Cols, .slice p10 a2.Start.length c11, .slice p13 a2.Col.length c14, .slice p16 a2.Val.length c17]) ⟨_, _, _, _, _, _, r, R12, R15, R18⟩ .nil)) r fun I94 hl95 R96 => ?_
 have le97 := IH.le.trans hl65 hl95
 replace R3 := R3.mono hl95
 replace R6 := R6.mono hl95
 replace R9 := R9.mono hl95
 replace R12 := R12.mono hl95
 replace R15 := R15.mono hl95
 replace R18 := R18.mono hl95
 replace R71 := R71.mono hl95
 have hw107 := W_gemm_sure (I := I94) R96 hd
 refine .call call33 r hw107 r r fun v102 I99 hl100 hv101 => ?_
 obtain ⟨r98, p104, c105, rfl, R106, hd⟩ := hv101
 have le108 := IH.le.trans le97 hl100
 replace R3 := R3.mono hl100
 replace R6 := R6.mono hl100
 replace R9 := R9.mono hl100
 replace R12 := R12.mono hl100
 replace R15 := R15.mono hl100
 replace R18 := R18.mono hl100
 replace R71 := R71.mono hl100
 replace R96 := R96.mono hl100
 refine .ks 1 r (.nilS [12, 10, 8, 0] r r (.drop (.s .z) (.drop (.s .z) (.seq (.dr [0, 1, 2, 3, 4, 5, 6, 7, 8, 9, 10, 11, 12] 13 (.fk 2 r ?_))))))
 obtain ⟨h109, x110, hx111, hd⟩ := hd
 obtain ⟨b112, o113, cs114, e115, hC116, hr117⟩ := R106.2 _ _ hx111
 obtain ⟨p118, c119, p121, c122, p124, c125, rfl, R120, R123, R126⟩ := hr117
 refine .g r r r (fun _ => .ixa un80 sz30 r e115 r h109 (idx_lt hx111 h109) r r .mk) (.g r r r (fun _ => .fa un30 r sz3 r (o := o113 + (Int.toNat 0) * 5) r r r .mk) (.g r r r (fun _ => .ld1 (j := 0) ia3 hC116 r r r r r .mk) (.fk 1 r ?_)))
 obtain ⟨h127, x128, hx129, hd⟩ := hd
 obtain ⟨b130, o131, cs132, e133, hC134, hr135⟩ := R106.2 _ _ hx129
 obtain ⟨p136, c137, p139, c140, p142, c143, rfl, R138, R141, R144⟩ := hr135
 refine .g r r r (fun _ => .ixa un80 sz30 r e133 r h127 (idx_lt hx129 h127) r r .mk) (.g r r r (fun _ => .fa un30 r sz3 r (o := o131 + (Int.toNat 1) * 5 + 1) r r r .mk) (.g r r r (fun _ => .ld1 (j := 1) ia3 hC134 r r r r r .mk) (.fk 1 r (.ww r fun ex => ?_))))
 have hw160 := W_gemm_Done (I := I99) R71 hd
 refine .call call20 r hw160 r r fun v149 I146 hl147 hv148 => ?_
 obtain ⟨r145, p151, c152, p154, c155, p157, c158, rfl, R153, R156, R159, hd⟩ := hv148
 have le161 := IH.le.trans le108 hl147
 replace R71 := R71.mono hl147
 replace R106 := R106.mono hl147
 replace R120 := R120.mono hl147
 replace R123 := R123.mono hl147
 replace R126 := R126.mono hl147
 replace hC116 := hC116.mono hl147
 replace R138 := R138.mono hl147
 replace R141 := R141.mono hl147
 replace R144 := R144.mono hl147
 replace hC134 := hC134.mono hl147
 exact .so 1 r r r trivial (.fk 2 r (.e2 13 (.storeA sz30 r r .z (.t (.t (.t (.t (.t .nil))))) r r (.ks 1 r (.nilS [9, 8] r r (.ret (pret results11 (.w ia30 sz30 r .z r (.t r .n)) le161 ⟨(r145.1, r145.2), _, _, _, _, _, _, r, R153, R156, R159, hd⟩)))))))

theorem W_csr_Triples {I : IH} {a0 : Rows} {p1 : Option Addr} {c2 : Nat} {p4 : Option Addr} {c5 : Nat} {p7 : Option Addr} {c8 : Nat} {Q : (List Triple) → Prop} (R3 : RepSl eI64 I p1 c2 a0.Start) (R6 : RepSl eI64 I p4 c5 a0.Col) (R9 : RepSl eI64 I p7 c8 a0.Val) (hd : csr_Triples a0 Q) :
  OFun prog 43 [.agg #[.int .i64 a0.Rows, .int .i64 a0.Cols, .slice p1 a0.Start.length c2, .slice p4 a0.Col.length c5, .slice p7 a0.Val.length c8]] I (fun I_ v l => ∃ r p10 c11, v = .slice p10 r.length c11 ∧ l = [OwnSl eTriple 91 p10 c11 r] ∧ Q r) := by
 refine Fun.enter func43 r ntmps43 r (.c .n) fun w0 M => ?_
 refine .sr (.boxA r r r fun b15 => ?_)
 refine .ks 1 r (.nilS [1] r r (.sr (.loadW ia30 sz30 r .z r r r ?_)))
 have hw48 := W_csr_sure (I := I) R3 R6 R9 hd
 refine .call call66 r hw48 r r fun v37 I34 hl35 hv36 => ?_
 obtain ⟨r33, p39, c40, p42, c43, p45, c46, rfl, R41, R44, R47, hd⟩ := hv36
 replace R3 := R3.mono hl35
 replace R6 := R6.mono hl35
 replace R9 := R9.mono hl35
 refine .storeA sz30 r r .z (.t (.t (.t (.t (.t .nil))))) r r (.nilS [1] r r (.sr (.ks 1 r (.nilS [3, 1] r r (.seq (.sr (.fa un30 r sz3 r (o := 0) r r r (.load1 ia3 r .z r r r (.ks 1 r ?_)))))))))
 refine .nilS [13, 12, 3, 1] r r (.block (.own0 eTriple 91 (.loop hd (fun (s : (List Triple) × Int) c w => match s with | (s386, s390) => ∃ I_ p387 c388, IH.le I34 I_ ∧ Ok ⟨42, [], none⟩ [(1, .pointer (some ⟨b15, 0, none⟩)), (3, .slice p387 s386.length c388), (12, .int .i64 r33.Rows), (13, .int .i64 s390)] c ∧ Sym w0 M I I_ [pto b15 (.cells #[.int .i64 r33.Rows, .int .i64 r33.Cols, .slice p39 r33.Start.length c40, .slice p42 r33.Col.length c43, .slice p45 r33.Val.length c46] 30 (0, 0)), OwnSl eTriple 91 p387 c388 s386] w) (fun c w ho hs => ⟨I34, _, _, (.refl _), ho.sub ⟨r, r, r, r, trivial⟩, hs.pick (.c (.s .z) (.c .z .n))⟩) ?_)))
 rintro ⟨s386, s390⟩ next392 hd c w hst
 obtain ⟨I393, p387, c388, hl394, hok, hsym⟩ := hst
 have le395 := IH.le.trans hl35 hl394
 replace R41 := R41.mono hl394
 replace R44 := R44.mono hl394
 replace R47 := R47.mono hl394
 refine Cod.at hok hsym (.sr (.ks 1 r (.nilS [14, 13, 12, 3, 1] r r (.seq (.condP r hd (fun hb397 hd => ?_) fun hb397 hd => ?_)))))
 · refine .skipS [13, 12, 3, 1] r r (.seq (.block (.sr (.ks 2 r (.nilS [4, 13, 12, 3, 1] r r (.sr (.loadW ia30 sz30 r .z r r r (.ks 1 r ?_))))))))
   have hw425 := W_csr_part (I := I393) R41 R44 R47 hd
   refine .call call89 r hw425 r r fun v417 I414 hl415 hv416 => ?_
   obtain ⟨r413, p419, c420, p422, c423, rfl, R421, R424, hd⟩ := hv416
   have le426 := IH.le.trans le395 hl415
   have le427 := IH.le.trans hl394 hl415
   replace R41 := R41.mono hl415
   replace R44 := R44.mono hl415
   replace R47 := R47.mono hl415
   refine .ks 5 r (.nilS [6, 5, 4, 13, 12, 3, 1] r r (.sr (.ks 1 r (.len un27 r r r r (.ks 1 r (.nilS [24, 23, 22, 6, 4, 13, 12, 3, 1] r r (.block (.loop hd (fun (s : (List Triple) × Int) c w => match s with | (s513, s517) => ∃ I_ p514 c515, IH.le I414 I_ ∧ Ok ⟨42, [], none⟩ [(1, .pointer (some ⟨b15, 0, none⟩)), (3, .slice p514 s513.length c515), (4, .int .i64 s390), (6, .slice p422 r413.2.length c423), (12, .int .i64 r33.Rows), (13, .int .i64 s390), (22, .slice p419 r413.1.length c420), (23, .int .i64 (r413.1.length : Int)), (24, .int .i64 s517)] c ∧ Sym w0 M I I_ [pto b15 (.cells #[.int .i64 r33.Rows, .int .i64 r33.Cols, .slice p39 r33.Start.length c40, .slice p42 r33.Col.length c43, .slice p45 r33.Val.length c46] 30 (0, 0)), OwnSl eTriple 91 p514 c515 s513] w) (fun c w ho hs => ⟨I414, _, _, (.refl _), ho.sub ⟨r, r, r, r, r, r, r, r, r, trivial⟩, hs.pick (.c .z (.c .z .n))⟩) ?_))))))))
   rintro ⟨s513, s517⟩ next518 hd c w hst
   obtain ⟨I519, p514, c515, hl520, hok, hsym⟩ := hst
   have le521 := IH.le.trans le426 hl520
   have le522 := IH.le.trans le427 hl520
   replace R41 := R41.mono hl520
   replace R44 := R44.mono hl520
   replace R47 := R47.mono hl520
   replace R421 := R421.mono hl520
   replace R424 := R424.mono hl520
   refine Cod.at hok hsym (.sr (.ks 1 r (.nilS [25, 24, 23, 22, 13, 12, 6, 4, 3, 1] r r (.seq (.condP r hd (fun hb524 hd => ?_) fun hb524 hd => ?_)))))
   · refine .skipS [24, 23, 22, 13, 12, 6, 4, 3, 1] r r (.seq (.block (.sr (.ks 1 r ?_))))
     obtain ⟨h534, x535, hx536, hd⟩ := hd
     obtain ⟨b537, o538, cs539, e540, hC541, hr542⟩ := R421.2 _ _ hx536
     cases hr542
     refine .ixa un27 sz3 r e540 r h534 (idx_lt hx536 h534) r r (.ld1 (j := 0) ia3 hC541 r r r r r (.ks 2 r (.nilS [8, 7, 24, 23, 22, 13, 12, 6, 4, 3, 1] r r (.region (.ks 5 r ?_)))))
     obtain ⟨h543, x544, hx545, hd⟩ := hd
     obtain ⟨b546, o547, cs548, e549, hC550, hr551⟩ := R424.2 _ _ hx545
     cases hr551
     refine .ixa un28 sz2 r e549 r h543 (idx_lt hx545 h543) r r (.ld1 (j := 0) ia2 hC550 r r r r r (.build zv91 un91 BI91 (.c r r r (.t .nil) (.c r r r (.s (.t .nil)) (.c r r r (.s (.s (.t .nil))) .n))) (by exact ⟨⟨_, _, r, r, r⟩, ⟨⟨_, _, r, r, r⟩, ⟨⟨_, _, r, r, r⟩, trivial⟩⟩⟩) r r (.buildSlice 1 un24 sz91 zv91 r r (.c r r r .n) r r fun b552 => ?_)))
     obtain ⟨hl554, hd⟩ := hd
     refine .append (ys := [({ Row := s390, Col := x535, Val := x544 } : Triple)]) 24 (.s (.s .z)) un24 un24 IN91 r r r r r r r r r (.box .z (.one r) r) hl554 r r fun p555 c556 => ?_
     exact .ks 1 r (.nilS [3, 24, 23, 22, 13, 12, 6, 4, 1] r r (.drop (.s .z) (.region (.ks 2 r (.nil' fun c w ho hs => ⟨((s513 ++ ([({ Row := s390, Col := x535, Val := x544 } : Triple)])), w64 (s517 + 1)), hd, I519, _, _, hl520, ho.sub ⟨r, r, r, r, r, r, r, r, r, trivial⟩, hs.pick (.c (.s .z) (.c .z .n))⟩)))))
   exact .exitS [13, 12, 3, 1] r r (.region (.ks 2 r (.nil' fun c w ho hs => ⟨(s513, w64 (s390 + 1)), hd, I519, _, _, le522, ho.sub ⟨r, r, r, r, trivial⟩, hs.pick (.c .z (.c .z .n))⟩)))
 exact .exitS [3] r r (.drop .z (.sr (.ks 2 r (.nilS [2] r r (.ret (oret results43 (.t r .n) le395 (.c .z .n) ⟨s386, _, _, r, r, hd⟩))))))

theorem W_gemm_Total {I : IH} {a0 : Int} {a1 : Rows} {p1 : Option Addr} {c2 : Nat} {p4 : Option Addr} {c5 : Nat} {p7 : Option Addr} {c8 : Nat} {Q : (Int × Int) → Prop} (R3 : RepSl eI64 I p1 c2 a1.Start) (R6 : RepSl eI64 I p4 c5 a1.Col) (R9 : RepSl eI64 I p7 c8 a1.Val) (hd : gemm_Total a0 a1 Q) :
  PFun prog 13 [.int .i64 a0, .agg #[.int .i64 a1.Rows, .int .i64 a1.Cols, .slice p1 a1.Start.length c2, .slice p4 a1.Col.length c5, .slice p7 a1.Val.length c8]] I (fun _ => o8_ Q) := by
 refine Fun.enter func13 r ntmps13 r (.c (.c .n)) fun w0 M => ?_
 refine .sr (.boxA r r r fun b12 => ?_)
 refine .ks 2 r (.nilS [3, 0] r r (.seq (.sr (.ks 1 r ?_))))
 have hw20 := W_ring_Is (I := I) hd
 refine .callP call34 r hw20 r r fun v21 hv22 => ?_
 obtain ⟨r19, rfl, hd⟩ := hv22
 refine .ks 1 r (.nilS [14, 3, 0] r r (.condP r hd (fun hb23 hd => ?_) fun hb23 hd => ?_))
 · exact .sr (.ks 2 r (.nilS [5, 4] r r (.drop .z (.ret (pret results13 (.t r (.t r .n)) (.refl _) ⟨(0, 8), r, hd⟩)))))
 refine .skipS [3, 0] r r (.sr (.loadW ia30 sz30 r .z r r r ?_))
 have hw45 := W_csr_Triples (I := I) R3 R6 R9 hd
 refine .callO call43 r hw45 r r fun v39 I36 l40 hl37 hv38 => ?_
 obtain ⟨r35, p41, c42, rfl, rfl, hd⟩ := hv38
 replace R3 := R3.mono hl37
 replace R6 := R6.mono hl37
 replace R9 := R9.mono hl37
 refine .ks 1 r (.nilS [6, 0] r r (.drop (.s .z) (.seq (.sr (.ks 1 r (.len un24 r r r r (.ks 1 r (.nilS [19, 6, 0] r r (.condP r hd (fun hb51 hd => ?_) fun hb51 hd => ?_)))))))))
 · refine .sr (.ks 1 r ?_)
   have hw53 := W_ring_Zero (I := I36) hd
   refine .callP call44 r hw53 r r fun v54 hv55 => ?_
   obtain ⟨r52, rfl, hd⟩ := hv55
   exact .ks 2 r (.nilS [5, 4] r r (.drop .z (.ret (pret results13 (.t r (.t r .n)) hl37 ⟨(r52, 0), r, hd⟩))))
 refine .skipS [6, 0] r r (.sr (.ks 1 r ?_))
 obtain ⟨h67, x68, hx69, hd⟩ := hd
 refine .ownNe .z (idx_ne hx69) fun b70 e71 => ?_
 cases e71
 refine .ixa0 un24 sz91 r r h67 (idx_lt hx69 h67) r r (.fa un91 r sz2 r (o := (Int.toNat 0) * 3 + 2) r r r (.lo1 (j := 2) ia2 .z hx69 r r r r r ?_))
 have hw73 := W_wide_Of (I := I36) hd
 refine .callP call45 r hw73 r r fun v74 hv75 => ?_
 obtain ⟨r72, rfl, hd⟩ := hv75
 refine .allocA zv57 r r fun b76 => ?_
 refine .storeA sz57 r r .z (.t (.t .nil)) r r (.nilS [7, 6, 0] r r (.seq (.sr (.ks 1 r (.pub (.s .z) fun I199 hl200 R201 => ?_)))))
 have le202 := IH.le.trans hl37 hl200
 obtain ⟨h203, h204, h205, hd⟩ := hd
 have h211 : Int.toNat 1 ≤ Int.toNat (r35.length : Int) := by omega
 have h212 : Int.toNat (r35.length : Int) ≤ r35.length := by omega
 obtain ⟨p206, c207, e209, e210, R208⟩ := RepSl.sliceW R201 (Int.toNat 1) (Int.toNat (r35.length : Int)) c42 h211 h212 (.inl rfl)
 refine .sliceW (L := Int.toNat 1) (H := Int.toNat (r35.length : Int)) (cm := c42) un24 sz91 r r R201.1 r r r (.inr ⟨_, _, r, h203, r⟩) (.inl ⟨r, r, r⟩) (.inl r) h211 h212 r e209 e210 r r (.len un24 r r r r (.ks 1 r (.nilS [30, 29, 28, 7, 0] r r (.block (.loop hd (fun (s : Int × Int × Int) c w => match s with | (s264, s265, s266) => ∃ I_, IH.le I199 I_ ∧ Ok ⟨50, [], none⟩ [(0, .int .i64 a0), (7, .pointer (some ⟨b76, 0, none⟩)), (28, .slice p206 ((r35.take (r35.length : Int).toNat).drop (Int.toNat 1)).length c207), (29, .int .i64 (((r35.take (r35.length : Int).toNat).drop (Int.toNat 1)).length : Int)), (30, .int .i64 s266)] c ∧ Sym w0 M I I_ [pto b76 (.cells #[.int .i64 s264, .int .u64 s265] 57 (0, 0))] w) (fun c w ho hs => ⟨I199, (.refl _), ho.sub ⟨r, r, r, r, r, trivial⟩, hs.pick (.c .z .n)⟩) ?_)))))
 rintro ⟨s264, s265, s266⟩ next267 hd c w hst
 obtain ⟨I268, hl269, hok, hsym⟩ := hst
 have le270 := IH.le.trans le202 hl269
 replace R208 := R208.mono hl269
 refine Cod.at hok hsym (.sr (.ks 1 r (.nilS [31, 30, 29, 28, 7, 0] r r (.seq (.condP r hd (fun hb272 hd => ?_) fun hb272 hd => ?_)))))
 · refine .skipS [30, 29, 28, 7, 0] r r (.seq (.block (.sr ?_)))
   obtain ⟨h273, x274, hx275, hd⟩ := hd
   obtain ⟨b276, o277, cs278, e279, hC280, hr281⟩ := R208.2 _ _ hx275
   cases hr281
   refine .ixa un24 sz91 r e279 r h273 (idx_lt hx275 h273) r r (.ldW isAgg91 sz91 hC280 r r r r (.allocA zv91 r r fun b282 => ?_))
   refine .storeA sz91 r r .z (.t (.t (.t .nil))) r r (.nilS [9, 30, 29, 28, 7, 0] r r (.dr [0, 1, 2, 3, 4, 5] 6 (.fk 1 r (.g r r r (fun _ => .loadW ia57 sz57 r (.s .z) r r r .mk) (.g r r r (fun _ => .fa un91 r sz2 r (o := 2) r r r .mk) (.g r r r (fun _ => .load1 ia2 r .z r r r .mk) (.ww r fun ex => ?_)))))))
   have hw285 := W_wide_Of (I := I268) hd
   refine .callP call45 r hw285 r r fun v286 hv287 => ?_
   obtain ⟨r284, rfl, hd⟩ := hv287
   refine .so 2 r r r (.cg r r r r (fun _ => .loadW ia57 sz57 r (.s .z) r r r .mk) (.ck 1 r r trivial)) (.ww r fun ex => ?_)
   have hw289 := W_ring_Add (I := I268) hd
   refine .callP call46 r hw289 r r fun v290 hv291 => ?_
   obtain ⟨r288, rfl, hd⟩ := hv291
   exact .so 2 r r r trivial (.e2 6 (.storeA sz57 r r (.s .z) (.t (.t .nil)) r r (.nilS [30, 29, 28, 7, 0] r r (.drop .z (.region (.ks 2 r (.nil' fun c w ho hs => ⟨(r288.Hi, r288.Lo, w64 (s266 + 1)), hd, I268, hl269, ho.sub ⟨r, r, r, r, r, trivial⟩, hs.pick (.c .z .n)⟩)))))))
 refine .exitS [7, 0] r r (.sr (.ks 1 r (.loadW ia57 sz57 r .z r r r ?_)))
 have hw297 := W_ring_Narrow (I := I268) hd
 refine .callP call47 r hw297 r r fun v298 hv299 => ?_
 obtain ⟨r296, rfl, hd⟩ := hv299
 refine .ks 5 r (.nilS [11, 10] r r (.drop .z (.seq (.sr (.ks 2 r (.nilS [48, 10] r r (.condP r hd (fun hb300 hd => ?_) fun hb300 hd => ?_)))))))
 · exact .sr (.ks 2 r (.nilS [5, 4] r r (.ret (pret results13 (.t r (.t r .n)) le270 ⟨(0, 12), r, hd⟩))))
 exact .skipS [10] r r (.sr (.ks 3 r (.nilS [5, 4] r r (.ret (pret results13 (.t r (.t r .n)) le270 ⟨(r296.1, 0), r, hd⟩)))))

theorem W_slices_Grow_api_Cell_api_Cell {I : IH} {a1 : Int} {Q : (List Cell) → Prop}  (hd : slices_Grow_api_Cell_api_Cell a1 Q) :
  OFun prog 97 [.slice none 0 0, .int .i64 a1] I (fun I_ v l => ∃ r p1 c2, v = .slice p1 r.length c2 ∧ l = [OwnSl eCell 59 p1 c2 r] ∧ Q r) := by
 refine Fun.enter func97 r ntmps97 r (.c (.c .n)) fun w0 M => ?_
 refine .sr (.ks 1 r (.nilS [1, 0] r r (.seq (.sr (.ks 2 r (.nilS [6, 1, 0] r r (.condP r hd (fun hb5 hd => ?_) fun hb5 hd => ?_)))))))
 · refine .region ?_
   exact hd.elim
 refine .skipS [1, 0] r r (.seq (.sr (.ks 2 r (.capOf un33 r r r r (.ks 1 r (.len un33 r r r r (.ks 3 r (.nilS [1, 0] r r (.sr ?_)))))))))
 refine .ks 2 r (.nilS [16, 1, 0] r r (.condP r hd (fun hb6 hd => ?_) fun hb6 hd => ?_))
 · refine .region (.ks 2 r (.capOf un33 r r r r (.slZ un33 sz59 r r (Nat.le_refl _) r r r (.ks 1 r ?_))))
   obtain ⟨h7, h8, hd⟩ := hd
   refine .growN eCell 32 un33 un3 IN59 r r r r r r r r h7 h8 r r fun b9 c10 h11 => ?_
   exact .ks 1 r (.len un33 r r r r (.slZ un33 sz59 r r h11 map_add0 r r (.ks 1 r (.nilS [0] r r (.sr (.ks 2 r (.nilS [4] r r (.ret (oret results97 (.t r .n) (.refl _) (.c .z .n) ⟨([] : List Cell), _, _, r, r, hd⟩)))))))))
 exact .skipS [0] r r (.sr (.ks 2 r (.nilS [4] r r (.own0 eCell 59 (.ret (oret results97 (.t r .n) (.refl _) (.c .z .n) ⟨([] : List Cell), _, _, r, r, hd⟩))))))

end Go.Proofs.YtjabmpfcpekpdaaGreat
