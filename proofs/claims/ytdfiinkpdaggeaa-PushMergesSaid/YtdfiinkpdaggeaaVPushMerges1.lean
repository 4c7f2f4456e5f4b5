/- The walks (printed by a program of ours). -/
import Derived.Test.YtdfiinkpdaggeaaV2
namespace Go.Proofs.Ytdfiinkpdaggeaa
open Go Go.Fw
set_option linter.unusedVariables false
set_option linter.unusedSimpArgs false
set_option maxRecDepth 8000
set_option maxHeartbeats 1000000
open Try
theorem W_ref14_both {I : IH} {a0 : Int} {a1 : List Sum} {a2 : List Sum} {p1 : Option Addr} {c2 : Nat} {p4 : Option Addr} {c5 : Nat} {Q : (List Sum) → Prop} (R3 : RepSl eSum I p1 c2 a1) (R6 : RepSl eSum I p4 c5 a2) (hd : ref14_both a0 a1 a2 Q) :
    PFun Try.prog 16 [.int .i64 a0, .slice p1 a1.length c2, .slice p4 a2.length c5] I (fun I_ v => ∃ r p7 c8, v = .slice p7 r.length c8 ∧ RepSl eSum I_ p7 c8 r ∧ Q r) := by
 refine Fun.enter func16 r ntmps16 r (.c (.c (.c .n))) fun w0 M => ?_
 refine .seq (.region (.skips 1 r (.nilS [2, 1, 0] r r (.seq (.region (.skips 1 r (.nilS [7, 2, 1, 0] r r (.seq (.region ?_)))))))))
 refine .skips 2 r (.nilS [9, 8, 7, 2, 1, 0] r r (.seq (.block (.own0 eSum 46 (.loop hd (fun (s : (List Sum) × Int × Int) c w => match s with | (s456, s460, s461) => ∃ I_ p457 c458, IH.le I I_ ∧ Ok ⟨106, [], none⟩ [(0, .int .i64 a0), (1, .slice p1 a1.length c2), (2, .slice p4 a2.length c5), (7, .slice p457 s456.length c458), (8, .int .i64 s460), (9, .int .i64 s461)] c ∧ Sym w0 M I I_ [OwnSl eSum 46 p457 c458 s456] w) (fun c w ho hs => ⟨I, _, _, (.refl _), ho.sub ⟨r, r, r, r, r, r, trivial⟩, hs.pick (.c .z .n)⟩) ?_)))))
 rintro ⟨s456, s460, s461⟩ next463 hd c w hst
 obtain ⟨I464, p457, c458, hl465, hok, hsym⟩ := hst
 have le466 := IH.le.trans (.refl _) hl465
 replace R3 := R3.mono hl465
 replace R6 := R6.mono hl465
 refine Cod.at hok hsym (.seq ?_)
 refine Cod.joinQ (σ := Unit) hd (fun (_ : Unit) c w => ∃ I_, IH.le I464 I_ ∧ Ok ⟨106, [], none⟩ [(0, .int .i64 a0), (1, .slice p1 a1.length c2), (2, .slice p4 a2.length c5), (7, .slice p457 s456.length c458), (8, .int .i64 s460), (9, .int .i64 s461)] c ∧ Sym w0 M I I_ [OwnSl eSum 46 p457 c458 s456] w) (fun k471 hd => ?_) ?_
 · skip
   refine .seq (.region (.skips 2 r (.len underlying24 r r r r (.lt r r r r (.skips 1 r ?_)))))
   refine splitP hd (fun hb472 hd => ?_) fun hb472 hd => ?_
   · rw [hb472]
     exact .skips 5 r (.nilS [19, 9, 8, 7, 2, 1, 0] r r (.condKT r r (.skip' fun c w ho hs => ⟨(), hd, I464, (.refl _), ho.sub ⟨r, r, r, r, r, r, trivial⟩, hs.pick (.c .z .n)⟩)))
   rw [hb472]
   refine .gyes r r r (.move r r r (.gyes r r r (.move r r r (.gyes r r r (.len underlying24 r r r r (.gyes r r r (.lt r r r r (.skips 1 r (.nilS [19, 9, 8, 7, 2, 1, 0] r r (.condP r hd (fun hb473 hd => ?_) fun hb473 hd => ?_))))))))))
   · exact .skip' fun c w ho hs => ⟨(), hd, I464, (.refl _), ho.sub ⟨r, r, r, r, r, r, trivial⟩, hs.pick (.c .z .n)⟩
   refine .exitS [7] r r (.seq (.region (.skips 2 r (.nilS [6] r r (.pub .z fun I474 hl475 R476 => ?_)))))
   have le477 := IH.le.trans le466 hl475
   have le478 := IH.le.trans (.refl _) hl475
   exact .ret (pret results16 (.t r .n) le477 ⟨s456, _, _, r, R476, hd⟩)
 rintro ⟨⟩ hd c w hst
 obtain ⟨I479, hl480, hok, hsym⟩ := hst
 have le481 := IH.le.trans le466 hl480
 have le482 := IH.le.trans (.refl _) hl480
 replace R3 := R3.mono hl480
 replace R6 := R6.mono hl480
 refine Cod.at hok hsym (.block (.block (.seq ?_)))
 refine Cod.joinQ (σ := Bool) hd (fun (s525 : Bool) c w => ∃ I_, IH.le I479 I_ ∧ Ok ⟨106, [], none⟩ [(0, .int .i64 a0), (1, .slice p1 a1.length c2), (2, .slice p4 a2.length c5), (7, .slice p457 s456.length c458), (8, .int .i64 s460), (9, .int .i64 s461), (45, .bool s525)] c ∧ Sym w0 M I I_ [OwnSl eSum 46 p457 c458 s456] w) (fun k526 hd => ?_) ?_
 · skip
   refine .ownF .z fun hne527 => ?_
   refine .draw [some 0, some 1, some 2, some 3, some 4, some 5, some 6, some 7, some 8, some 9, some 10, some 11, some 12, some 13, some 14, some 15, some 16, some 17, some 18, some 19, some 20, some 21, some 22, some 23] 24 MX (by kernel_rfl) (by kernel_rfl) (by kernel_rfl) (by kernel_rfl) (by kernel_rfl) (by kernel_rfl) (by kernel_rfl) (fun ex => (OwnSl eSum 46 p457 c458 s456) :: ex) (fun _ _ => (.s .z)) r (.fs [[], []] r (by kernel_rfl) (.f [1] r (by kernel_rfl) r r (fun ex => .len underlying24 r r r r .mk) (.f [0, 2] r (by kernel_rfl) r r (fun ex => .eq r r r r .mk) (.fs [[3]] r (by kernel_rfl) ?_))))
   refine splitP hd (fun hb528 hd => ?_) fun hb528 hd => ?_
   · rw [hb528]
     exact .fs [[4], [4], [6, 4], [5, 7, 4], [8, 4, 4], [9], [9], [10, 11, 9], [12, 9], [13, 9], [9], [9], [15, 16, 9], [17, 9], [18, 9], [14, 19, 9], [9, 20, 4], [4, 21], [22, 9]] r (by kernel_rfl) (.e 24 (by kernel_rfl) (by kernel_rfl) (by kernel_rfl) (.nil' fun c w ho hs => ⟨true, hd, I479, (.refl _), ho.sub ⟨r, r, r, r, r, r, r, trivial⟩, hs.pick (.c .z .n)⟩))
   rw [hb528]
   refine .fs [[4], [4]] r (by kernel_rfl) (.f [6, 4] r (by kernel_rfl) r r (fun ex => .gyes r r r (.len underlying24 r r r r .mk)) (.f [5, 7, 4] r (by kernel_rfl) r r (fun ex => .gyes r r r (.lt r r r r .mk)) (.fs [[8, 4, 4]] r (by kernel_rfl) ?_)))
   refine splitP hd (fun hb529 hd => ?_) fun hb529 hd => ?_
   · rw [hb529]
     refine .fs [[9], [9]] r (by kernel_rfl) ?_
     obtain ⟨h530, x531, hx532, hd⟩ := hd
     obtain ⟨b533, o534, cs535, e536, hC537, hr538⟩ := R3.2 _ _ hx532
     cases hr538
     refine .f [10, 11, 9] r (by kernel_rfl) r r (fun ex => .gyes r r r (.ixa underlying24 sizeOf46 r e536 r h530 (idx_lt hx532 h530) r r .mk)) (.f [12, 9] r (by kernel_rfl) r r (fun ex => .gyes r r r (.fieldAddr underlying46 r sizeOf3 r (o := o534 + s460.toNat * 3) r r r .mk)) (.f [13, 9] r (by kernel_rfl) r r (fun ex => .gyes r r r (.ld1 (j := 0) isAgg3 hC537 r r r r r .mk)) (.fs [[9], [9]] r (by kernel_rfl) ?_)))
     obtain ⟨h539, x540, hx541, hd⟩ := hd
     obtain ⟨b542, o543, cs544, e545, hC546, hr547⟩ := R6.2 _ _ hx541
     cases hr547
     exact .f [15, 16, 9] r (by kernel_rfl) r r (fun ex => .gyes r r r (.ixa underlying24 sizeOf46 r e545 r h539 (idx_lt hx541 h539) r r .mk)) (.f [17, 9] r (by kernel_rfl) r r (fun ex => .gyes r r r (.fieldAddr underlying46 r sizeOf3 r (o := o543 + s461.toNat * 3) r r r .mk)) (.f [18, 9] r (by kernel_rfl) r r (fun ex => .gyes r r r (.ld1 (j := 0) isAgg3 hC546 r r r r r .mk)) (.f [14, 19, 9] r (by kernel_rfl) r r (fun ex => .gyes r r r (.lt r r r r .mk)) (.fs [[9, 20, 4], [4, 21], [22, 9]] r (by kernel_rfl) (.e 24 (by kernel_rfl) (by kernel_rfl) (by kernel_rfl) (.nil' fun c w ho hs => ⟨(decide (x531.At < x540.At)), hd, I479, (.refl _), ho.sub ⟨r, r, r, r, r, r, r, trivial⟩, hs.pick (.c .z .n)⟩))))))
   rw [hb529]
   exact .fs [[9], [9], [10, 11, 9], [12, 9], [13, 9], [9], [9], [15, 16, 9], [17, 9], [18, 9], [14, 19, 9], [9, 20, 4], [4, 21], [22, 9]] r (by kernel_rfl) (.e 24 (by kernel_rfl) (by kernel_rfl) (by kernel_rfl) (.nil' fun c w ho hs => ⟨false, hd, I479, (.refl _), ho.sub ⟨r, r, r, r, r, r, r, trivial⟩, hs.pick (.c .z .n)⟩))
 rintro s525 hd c w hst
 obtain ⟨I548, hl549, hok, hsym⟩ := hst
 have le550 := IH.le.trans le481 hl549
 have le551 := IH.le.trans le482 hl549
 have le552 := IH.le.trans (.refl _) hl549
 replace R3 := R3.mono hl549
 replace R6 := R6.mono hl549
 refine Cod.at hok hsym (.condP r hd (fun hb553 hd => ?_) fun hb553 hd => ?_)
 · refine .seq (.region (.skips 3 r ?_))
   obtain ⟨h554, x555, hx556, hd⟩ := hd
   obtain ⟨b557, o558, cs559, e560, hC561, hr562⟩ := R3.2 _ _ hx556
   cases hr562
   refine .ixa underlying24 sizeOf46 r e560 r h554 (idx_lt hx556 h554) r r (.ldW isAgg46 sizeOf46 hC561 r r r r (.buildSlice 1 underlying24 sizeOf46 zeroValue46 r r (.c r r r .n) r r fun b563 => ?_))
   obtain ⟨hl565, hd⟩ := hd
   refine .append (ys := [x555]) 24 (.s .z) underlying24 underlying24 IN46 r r r r r r r r r (.box .z (.one r) r) hl565 r r fun p566 c567 => ?_
   exact .sub (E' := [(0, _), (1, _), (2, _), (8, _), (9, _), (45, _), (69, _), (70, _), (71, _), (72, _), (73, _), (74, _), (75, _)]) ⟨r, r, r, r, r, r, r, r, r, r, r, r, r, trivial⟩ (.skips 1 r (.nilS [7, 9, 8, 2, 1, 0] r r (.drop (.s .z) (.region (.skips 1 r (.add r r r r (.sub (E' := [(0, _), (1, _), (2, _), (9, _), (7, _), (76, _), (77, _)]) ⟨r, r, r, r, r, r, r, trivial⟩ (.skips 1 r (.nil' fun c w ho hs => ⟨((s456 ++ ([x555])), w64 (s460 + 1), s461), hd, I548, _, _, le550, ho.sub ⟨r, r, r, r, r, r, trivial⟩, hs.pick (.c .z .n)⟩)))))))))
 refine .seq ?_
 refine Cod.joinQ (σ := Bool) hd (fun (s609 : Bool) c w => ∃ I_, IH.le I548 I_ ∧ Ok ⟨106, [], none⟩ [(0, .int .i64 a0), (1, .slice p1 a1.length c2), (2, .slice p4 a2.length c5), (7, .slice p457 s456.length c458), (8, .int .i64 s460), (9, .int .i64 s461), (78, .bool s609)] c ∧ Sym w0 M I I_ [OwnSl eSum 46 p457 c458 s456] w) (fun k610 hd => ?_) ?_
 · skip
   refine .ownF .z fun hne611 => ?_
   refine .draw [some 0, some 1, some 2, some 3, some 4, some 5, some 6, some 7, some 8, some 9, some 10, some 11, some 12, some 13, some 14, some 15, some 16, some 17] 18 MX (by kernel_rfl) (by kernel_rfl) (by kernel_rfl) (by kernel_rfl) (by kernel_rfl) (by kernel_rfl) (by kernel_rfl) (fun ex => (OwnSl eSum 46 p457 c458 s456) :: ex) (fun _ _ => (.s .z)) r (.fs [[], []] r (by kernel_rfl) (.f [1] r (by kernel_rfl) r r (fun ex => .len underlying24 r r r r .mk) (.f [0, 2] r (by kernel_rfl) r r (fun ex => .eq r r r r .mk) (.fs [[3]] r (by kernel_rfl) ?_))))
   refine splitP hd (fun hb612 hd => ?_) fun hb612 hd => ?_
   · rw [hb612]
     exact .fs [[4], [4], [5, 6, 4], [7, 4], [8, 4], [4], [4], [10, 11, 4], [12, 4], [13, 4], [9, 14, 4], [4, 15], [16, 4]] r (by kernel_rfl) (.e 18 (by kernel_rfl) (by kernel_rfl) (by kernel_rfl) (.nil' fun c w ho hs => ⟨true, hd, I548, (.refl _), ho.sub ⟨r, r, r, r, r, r, r, trivial⟩, hs.pick (.c .z .n)⟩))
   rw [hb612]
   refine .fs [[4], [4]] r (by kernel_rfl) ?_
   obtain ⟨h613, x614, hx615, hd⟩ := hd
   obtain ⟨b616, o617, cs618, e619, hC620, hr621⟩ := R6.2 _ _ hx615
   cases hr621
   refine .f [5, 6, 4] r (by kernel_rfl) r r (fun ex => .gyes r r r (.ixa underlying24 sizeOf46 r e619 r h613 (idx_lt hx615 h613) r r .mk)) (.f [7, 4] r (by kernel_rfl) r r (fun ex => .gyes r r r (.fieldAddr underlying46 r sizeOf3 r (o := o617 + s461.toNat * 3) r r r .mk)) (.f [8, 4] r (by kernel_rfl) r r (fun ex => .gyes r r r (.ld1 (j := 0) isAgg3 hC620 r r r r r .mk)) (.fs [[4], [4]] r (by kernel_rfl) ?_)))
   obtain ⟨h622, x623, hx624, hd⟩ := hd
   obtain ⟨b625, o626, cs627, e628, hC629, hr630⟩ := R3.2 _ _ hx624
   cases hr630
   exact .f [10, 11, 4] r (by kernel_rfl) r r (fun ex => .gyes r r r (.ixa underlying24 sizeOf46 r e628 r h622 (idx_lt hx624 h622) r r .mk)) (.f [12, 4] r (by kernel_rfl) r r (fun ex => .gyes r r r (.fieldAddr underlying46 r sizeOf3 r (o := o626 + s460.toNat * 3) r r r .mk)) (.f [13, 4] r (by kernel_rfl) r r (fun ex => .gyes r r r (.ld1 (j := 0) isAgg3 hC629 r r r r r .mk)) (.f [9, 14, 4] r (by kernel_rfl) r r (fun ex => .gyes r r r (.lt r r r r .mk)) (.fs [[4, 15], [16, 4]] r (by kernel_rfl) (.e 18 (by kernel_rfl) (by kernel_rfl) (by kernel_rfl) (.nil' fun c w ho hs => ⟨(decide (x614.At < x623.At)), hd, I548, (.refl _), ho.sub ⟨r, r, r, r, r, r, r, trivial⟩, hs.pick (.c .z .n)⟩))))))
 rintro s609 hd c w hst
 obtain ⟨I631, hl632, hok, hsym⟩ := hst
 have le633 := IH.le.trans le550 hl632
 have le634 := IH.le.trans le551 hl632
 have le635 := IH.le.trans le552 hl632
 have le636 := IH.le.trans (.refl _) hl632
 replace R3 := R3.mono hl632
 replace R6 := R6.mono hl632
 refine Cod.at hok hsym (.condP r hd (fun hb637 hd => ?_) fun hb637 hd => ?_)
 · refine .seq (.region (.skips 3 r ?_))
   obtain ⟨h638, x639, hx640, hd⟩ := hd
   obtain ⟨b641, o642, cs643, e644, hC645, hr646⟩ := R6.2 _ _ hx640
   cases hr646
   refine .ixa underlying24 sizeOf46 r e644 r h638 (idx_lt hx640 h638) r r (.ldW isAgg46 sizeOf46 hC645 r r r r (.buildSlice 1 underlying24 sizeOf46 zeroValue46 r r (.c r r r .n) r r fun b647 => ?_))
   obtain ⟨hl649, hd⟩ := hd
   refine .append (ys := [x639]) 24 (.s .z) underlying24 underlying24 IN46 r r r r r r r r r (.box .z (.one r) r) hl649 r r fun p650 c651 => ?_
   exact .sub (E' := [(0, _), (1, _), (2, _), (8, _), (9, _), (78, _), (96, _), (97, _), (98, _), (99, _), (100, _), (101, _), (102, _)]) ⟨r, r, r, r, r, r, r, r, r, r, r, r, r, trivial⟩ (.skips 1 r (.nilS [7, 9, 8, 2, 1, 0] r r (.drop (.s .z) (.region (.skips 1 r (.add r r r r (.sub (E' := [(0, _), (1, _), (2, _), (8, _), (7, _), (103, _), (104, _)]) ⟨r, r, r, r, r, r, r, trivial⟩ (.skips 1 r (.nil' fun c w ho hs => ⟨((s456 ++ ([x639])), s460, w64 (s461 + 1)), hd, I631, _, _, le633, ho.sub ⟨r, r, r, r, r, r, trivial⟩, hs.pick (.c .z .n)⟩)))))))))
 refine .seq (.ownF .z fun hne653 => ?_)
 refine .draw [some 0, some 1, some 2, some 3, some 4, some 5, some 6, some 7, some 8, some 9, some 10, some 11, some 12, some 13, some 14, some 15, some 16, some 17, some 18, some 19, some 20] 21 MX (by kernel_rfl) (by kernel_rfl) (by kernel_rfl) (by kernel_rfl) (by kernel_rfl) (by kernel_rfl) (by kernel_rfl) (fun ex => (OwnSl eSum 46 p457 c458 s456) :: ex) (fun _ _ => (.s .z)) r (.fs [[], [], []] r (by kernel_rfl) ?_)
 obtain ⟨h654, x655, hx656, hd⟩ := hd
 obtain ⟨b657, o658, cs659, e660, hC661, hr662⟩ := R3.2 _ _ hx656
 cases hr662
 refine .f [1, 2] r (by kernel_rfl) r r (fun ex => .ixa underlying24 sizeOf46 r e660 r h654 (idx_lt hx656 h654) r r .mk) (.f [3] r (by kernel_rfl) r r (fun ex => .fieldAddr underlying46 r sizeOf3 r (o := o658 + s460.toNat * 3) r r r .mk) (.f [4] r (by kernel_rfl) r r (fun ex => .ld1 (j := 0) isAgg3 hC661 r r r r r .mk) (.fs [[], [], []] r (by kernel_rfl) ?_)))
 obtain ⟨h663, x664, hx665, hd⟩ := hd
 obtain ⟨b666, o667, cs668, e669, hC670, hr671⟩ := R3.2 _ _ hx665
 cases hr671
 refine .f [7, 8] r (by kernel_rfl) r r (fun ex => .ixa underlying24 sizeOf46 r e669 r h663 (idx_lt hx665 h663) r r .mk) (.f [9] r (by kernel_rfl) r r (fun ex => .fieldAddr underlying46 r sizeOf44 r (o := o667 + s460.toNat * 3 + 1) r r r .mk) (.f [10] r (by kernel_rfl) r r (fun ex => .ldA (j := 1) isAgg44 sizeOf44 hC670 r r (.s (.t (.t .nil))) r r r .mk) (.fs [[], []] r (by kernel_rfl) ?_)))
 obtain ⟨h672, x673, hx674, hd⟩ := hd
 obtain ⟨b675, o676, cs677, e678, hC679, hr680⟩ := R6.2 _ _ hx674
 cases hr680
 refine .f [12, 13] r (by kernel_rfl) r r (fun ex => .ixa underlying24 sizeOf46 r e678 r h672 (idx_lt hx674 h672) r r .mk) (.f [14] r (by kernel_rfl) r r (fun ex => .fieldAddr underlying46 r sizeOf44 r (o := o676 + s461.toNat * 3 + 1) r r r .mk) (.f [15] r (by kernel_rfl) r r (fun ex => .ldA (j := 1) isAgg44 sizeOf44 hC679 r r (.s (.t (.t .nil))) r r r .mk) (.w [5, 4, 3, 2, 1, 0] [[], [16], [15, 16], [14, 15, 16], [14, 15, 16], [], [11], [10, 11], [9, 10, 11], [9, 10, 11], []] [6, 11, 16] r (by kernel_rfl) (by kernel_rfl) (by kernel_rfl) ((dropE_kept r r)) (.inr (dropE_kept r r)) fun ex => ?_)))
 have hw682 := W_ref02_Add (I := I631) hd
 refine .callP call26 r hw682 r r fun v683 hv684 => ?_
 obtain ⟨r681, rfl, hd⟩ := hv684
 refine .some (fun ex => (OwnSl eSum 46 p457 c458 s456) :: ex) r (fun _ _ => (.s .z)) r (.cc [4] r (by kernel_rfl) r r r (fun ex => .ld1 (j := 0) isAgg3 hC661 r r r r r .mk) (.cc [3] r (by kernel_rfl) r r r (fun ex => .fieldAddr underlying46 r sizeOf3 r (o := o658 + s460.toNat * 3) r r r .mk) (.cc [1, 2] r (by kernel_rfl) r r r (fun ex => .ixa underlying24 sizeOf46 r e660 r h654 (idx_lt hx656 h654) r r .mk) (.ccs [[], [], []] r r (by kernel_rfl) trivial)))) (.f [5, 17] r (by kernel_rfl) r r (fun ex => .build zeroValue46 underlying46 BI46 (.c r r r (.t .nil) (.c r r r (.s (.t (.t .nil))) .n)) (by exact ⟨⟨_, _, r, r, r⟩, ⟨⟨_, _, r, r, r⟩, trivial⟩⟩) r r .mk) (.w [0] [[], [18], [5, 18], [4, 5, 18], [3, 4, 5, 18], [3, 4, 5, 18]] [18] r (by kernel_rfl) (by kernel_rfl) (by kernel_rfl) ((dropE_kept r r)) (.inr (dropE_kept r r)) fun ex => ?_))
 refine .buildSlice 1 underlying24 sizeOf46 zeroValue46 r r (.c r r r .n) r r fun b685 => ?_
 refine .some (fun ex => (pto b685 (.cells #[.int .i64 x655.At, .int .i64 r681.Hi, .int .u64 r681.Lo] 46 (0, 0))) :: (OwnSl eSum 46 p457 c458 s456) :: ex) r (fun _ _ => (.s (.s .z))) r (.ccs [[]] r r (by kernel_rfl) trivial) (.w [] [[]] [0, 19, 17] r (by kernel_rfl) (by kernel_rfl) (by kernel_rfl) ((dropE_kept r r)) (.inr (dropE_kept r r)) fun ex => ?_)
 obtain ⟨hl687, hd⟩ := hd
 refine .append (ys := [({ At := x655.At, Val := r681 } : Sum)]) 24 (.s .z) underlying24 underlying24 IN46 r r r r r r r r r (.box .z (.one r) r) hl687 r r fun p688 c689 => ?_
 refine .some (fun ex => (OwnSl eSum 46 p688 c689 (s456 ++ ([({ At := x655.At, Val := r681 } : Sum)]))) :: (pto b685 (.cells #[.int .i64 x655.At, .int .i64 r681.Hi, .int .u64 r681.Lo] 46 (0, 0))) :: ex) r (fun _ _ => (.s (.s .z))) r trivial (.e 21 (by kernel_rfl) (by kernel_rfl) (by kernel_rfl) (.sub (E' := [(0, _), (1, _), (2, _), (8, _), (9, _), (78, _), (20, _), (21, _), (22, _), (23, _), (24, _), (25, _), (26, _), (27, _), (28, _), (29, _), (30, _), (31, _), (32, _), (33, _), (34, _), (35, _), (36, _), (37, _), (38, _), (39, _), (40, _)]) ⟨r, r, r, r, r, r, r, r, r, r, r, r, r, r, r, r, r, r, r, r, r, r, r, r, r, r, r, trivial⟩ (.skips 1 r (.nilS [7, 9, 8, 2, 1, 0] r r (.drop (.s .z) (.seq (.region (.skips 1 r (.add r r r r ?_)))))))))
 exact .sub (E' := [(0, _), (1, _), (2, _), (9, _), (7, _), (41, _), (42, _)]) ⟨r, r, r, r, r, r, r, trivial⟩ (.skips 1 r (.nilS [8, 7, 9, 2, 1, 0] r r (.region (.skips 1 r (.add r r r r (.sub (E' := [(0, _), (1, _), (2, _), (7, _), (8, _), (43, _), (44, _)]) ⟨r, r, r, r, r, r, r, trivial⟩ (.skips 1 r (.nil' fun c w ho hs => ⟨((s456 ++ ([({ At := x655.At, Val := r681 } : Sum)])), w64 (s460 + 1), w64 (s461 + 1)), hd, I631, _, _, le633, ho.sub ⟨r, r, r, r, r, r, trivial⟩, hs.pick (.c .z .n)⟩))))))))

theorem W_ref14_Merge {I : IH} {a0 : Int} {a1 : List (List Sum)} {p1 : Option Addr} {c2 : Nat} {Q : ((List Sum) × Int) → Prop} (R3 : RepSl (slEl eSum) I p1 c2 a1) (hd : ref14_Merge a0 a1 Q) :
    PFun Try.prog 5 [.int .i64 a0, .slice p1 a1.length c2] I (fun I_ v => ∃ r p4 c5, v = .tuple #[.slice p4 r.1.length c5, .int .i64 r.2] ∧ RepSl eSum I_ p4 c5 r.1 ∧ Q r) := by
 refine Fun.enter func5 r ntmps5 r (.c (.c .n)) fun w0 M => ?_
 refine .seq (.region (.skips 2 r (.nilS [1, 0] r r (.seq (.seq (.region (.skips 1 r ?_)))))))
 have hw13 := W_ref02_Is (I := I) hd
 refine .callP call15 r hw13 r r fun v14 hv15 => ?_
 obtain ⟨r12, rfl, hd⟩ := hv15
 refine .not r r r (.nilS [12, 1, 0] r r (.condP r hd (fun hb16 hd => ?_) fun hb16 hd => ?_))
 · exact .seq (.region (.skips 2 r (.nilS [5, 4] r r (.ret (pret results5 (.t r (.t r .n)) (.refl _) ⟨(([] : List Sum), 8), _, _, r, (.nil _ _ _), hd⟩)))))
 refine .skipS [1, 0] r r (.seq (.seq (.region (.skips 1 r (.nilS [6, 1, 0] r r (.block (.loop hd (fun (s1114 : Int) c w => ∃ I_, IH.le I I_ ∧ Ok ⟨60, [], none⟩ [(0, .int .i64 a0), (1, .slice p1 a1.length c2), (6, .int .i64 s1114)] c ∧ Sym w0 M I I_ [] w) (fun c w ho hs => ⟨I, (.refl _), ho.sub ⟨r, r, r, trivial⟩, hs.pick .n⟩) ?_)))))))
 rintro s1114 next1115 hd c w hst
 obtain ⟨I1116, hl1117, hok, hsym⟩ := hst
 have le1118 := IH.le.trans (.refl _) hl1117
 replace R3 := R3.mono hl1117
 refine Cod.at hok hsym (.seq (.seq (.region (.skips 2 r (.len underlying23 r r r r (.lt r r r r (.nilS [16, 6, 1, 0] r r (.condP r hd (fun hb1120 hd => ?_) fun hb1120 hd => ?_))))))))
 · refine .skipS [6, 1, 0] r r (.seq (.block (.seq (.region (.skips 1 r (.nilS [7, 6, 1, 0] r r (.block (.loop hd (fun (s1262 : Int) c w => ∃ I_, IH.le I1116 I_ ∧ Ok ⟨60, [], none⟩ [(0, .int .i64 a0), (1, .slice p1 a1.length c2), (6, .int .i64 s1114), (7, .int .i64 s1262)] c ∧ Sym w0 M I I_ [] w) (fun c w ho hs => ⟨I1116, (.refl _), ho.sub ⟨r, r, r, r, trivial⟩, hs.pick .n⟩) ?_))))))))
   rintro s1262 next1263 hd c w hst
   obtain ⟨I1264, hl1265, hok, hsym⟩ := hst
   have le1266 := IH.le.trans le1118 hl1265
   have le1267 := IH.le.trans (.refl _) hl1265
   replace R3 := R3.mono hl1265
   refine Cod.at hok hsym (.seq (.seq (.region (.skips 3 r ?_))))
   obtain ⟨h1281, x1282, hx1283, hd⟩ := hd
   obtain ⟨b1284, o1285, cs1286, e1287, hC1288, hr1289⟩ := R3.2 _ _ hx1283
   obtain ⟨p1290, c1291, rfl, R1292⟩ := hr1289
   refine .ixa underlying23 sizeOf24 r e1287 r h1281 (idx_lt hx1283 h1281) r r (.ld1 (j := 0) isAgg24 hC1288 r r r r r (.len underlying24 r r r r (.lt r r r r (.nilS [25, 7, 6, 1, 0] r r (.condP r hd (fun hb1293 hd => ?_) fun hb1293 hd => ?_)))))
   · refine .skipS [7, 6, 1, 0] r r (.seq (.block (.seq (.draw [some 0, some 1, some 2, some 3, some 4, some 5, some 6, some 7, some 8, some 9, some 10, some 11, some 12, some 13, some 14, some 15, some 16, some 17] 18 MX (by kernel_rfl) (by kernel_rfl) (by kernel_rfl) (by kernel_rfl) (by kernel_rfl) (by kernel_rfl) (by kernel_rfl) (fun ex => ex) (fun _ _ => .z) r (.fs [[], []] r (by kernel_rfl) ?_)))))
     obtain ⟨h1294, x1295, hx1296, hd⟩ := hd
     obtain ⟨b1297, o1298, cs1299, e1300, hC1301, hr1302⟩ := R3.2 _ _ hx1296
     obtain ⟨p1303, c1304, rfl, R1305⟩ := hr1302
     refine .f [0, 1] r (by kernel_rfl) r r (fun ex => .ixa underlying23 sizeOf24 r e1300 r h1294 (idx_lt hx1296 h1294) r r .mk) (.f [2] r (by kernel_rfl) r r (fun ex => .ld1 (j := 0) isAgg24 hC1301 r r r r r .mk) (.fs [[]] r (by kernel_rfl) ?_))
     obtain ⟨h1306, x1307, hx1308, hd⟩ := hd
     obtain ⟨b1309, o1310, cs1311, e1312, hC1313, hr1314⟩ := R1305.2 _ _ hx1308
     cases hr1314
     refine .f [3, 4] r (by kernel_rfl) r r (fun ex => .ixa underlying24 sizeOf46 r e1312 r h1306 (idx_lt hx1308 h1306) r r .mk) (.f [5] r (by kernel_rfl) r r (fun ex => .fieldAddr underlying46 r sizeOf3 r (o := o1310 + s1262.toNat * 3) r r r .mk) (.f [6] r (by kernel_rfl) r r (fun ex => .ld1 (j := 0) isAgg3 hC1313 r r r r r .mk) (.fs [[], []] r (by kernel_rfl) ?_)))
     obtain ⟨h1315, x1316, hx1317, hd⟩ := hd
     obtain ⟨b1318, o1319, cs1320, e1321, hC1322, hr1323⟩ := R3.2 _ _ hx1317
     obtain ⟨p1324, c1325, rfl, R1326⟩ := hr1323
     refine .f [8, 9] r (by kernel_rfl) r r (fun ex => .ixa underlying23 sizeOf24 r e1321 r h1315 (idx_lt hx1317 h1315) r r .mk) (.f [10] r (by kernel_rfl) r r (fun ex => .ld1 (j := 0) isAgg24 hC1322 r r r r r .mk) (.fs [[]] r (by kernel_rfl) (.f [12] r (by kernel_rfl) r r (fun ex => .sub' r r r r .mk) ?_)))
     obtain ⟨h1327, x1328, hx1329, hd⟩ := hd
     obtain ⟨b1330, o1331, cs1332, e1333, hC1334, hr1335⟩ := R1326.2 _ _ hx1329
     cases hr1335
     refine .f [11, 13] r (by kernel_rfl) r r (fun ex => .ixa underlying24 sizeOf46 r e1333 r h1327 (idx_lt hx1329 h1327) r r .mk) (.f [14] r (by kernel_rfl) r r (fun ex => .fieldAddr underlying46 r sizeOf3 r (o := o1331 + (w64 (s1262 - 1)).toNat * 3) r r r .mk) (.f [15] r (by kernel_rfl) r r (fun ex => .ld1 (j := 0) isAgg3 hC1334 r r r r r .mk) (.f [7, 16] r (by kernel_rfl) r r (fun ex => .le' r r r r .mk) (.e 18 (by kernel_rfl) (by kernel_rfl) (by kernel_rfl) (.nilS [45, 7, 6, 1, 0] r r (.condP r hd (fun hb1336 hd => ?_) fun hb1336 hd => ?_))))))
     · exact .seq (.region (.skips 2 r (.nilS [5, 4] r r (.ret (pret results5 (.t r (.t r .n)) le1266 ⟨(([] : List Sum), 6), _, _, r, (.nil _ _ _), hd⟩)))))
     exact .skipS [7, 6, 1, 0] r r (.region (.skips 1 r (.add r r r r (.sub (E' := [(0, _), (1, _), (6, _), (26, _), (27, _)]) ⟨r, r, r, r, r, trivial⟩ (.skips 1 r (.nil' fun c w ho hs => ⟨(w64 (s1262 + 1)), hd, I1264, le1267, ho.sub ⟨r, r, r, r, trivial⟩, hs.pick .n⟩))))))
   exact .exitS [6, 1, 0] r r (.region (.skips 1 r (.add r r r r (.sub (E' := [(0, _), (1, _), (17, _), (18, _)]) ⟨r, r, r, r, trivial⟩ (.skips 1 r (.nil' fun c w ho hs => ⟨(w64 (s1114 + 1)), hd, I1264, le1266, ho.sub ⟨r, r, r, trivial⟩, hs.pick .n⟩))))))
 refine .exitS [1, 0] r r (.seq (.region (.skips 1 r (.nilS [8, 1, 0] r r (.seq (.seq (.region (.skips 1 r (.nilS [9, 8, 1, 0] r r ?_)))))))))
 refine .block (.loop hd (fun (s : (List Sum) × Int) c w => match s with | (s1404, s1408) => ∃ I_ p1405 c1406, IH.le I1116 I_ ∧ RepSl eSum I_ p1405 c1406 s1404 ∧ Ok ⟨60, [], none⟩ [(0, .int .i64 a0), (1, .slice p1 a1.length c2), (8, .slice p1405 s1404.length c1406), (9, .int .i64 s1408)] c ∧ Sym w0 M I I_ [] w) (fun c w ho hs => ⟨I1116, _, _, (.refl _), .nil _ _ _, ho.sub ⟨r, r, r, r, trivial⟩, hs.pick .n⟩) ?_)
 rintro ⟨s1404, s1408⟩ next1409 hd c w hst
 obtain ⟨I1410, p1405, c1406, hl1411, R1407, hok, hsym⟩ := hst
 have le1412 := IH.le.trans le1118 hl1411
 have le1413 := IH.le.trans (.refl _) hl1411
 replace R3 := R3.mono hl1411
 refine Cod.at hok hsym (.seq (.seq (.region (.skips 2 r (.len underlying23 r r r r (.lt r r r r (.nilS [49, 9, 8, 1, 0] r r (.condP r hd (fun hb1415 hd => ?_) fun hb1415 hd => ?_))))))))
 · refine .skipS [9, 8, 1, 0] r r (.seq (.block (.region (.skips 4 r ?_))))
   obtain ⟨h1416, x1417, hx1418, hd⟩ := hd
   obtain ⟨b1419, o1420, cs1421, e1422, hC1423, hr1424⟩ := R3.2 _ _ hx1418
   obtain ⟨p1425, c1426, rfl, R1427⟩ := hr1424
   refine .ixa underlying23 sizeOf24 r e1422 r h1416 (idx_lt hx1418 h1416) r r (.ld1 (j := 0) isAgg24 hC1423 r r r r r ?_)
   have hw1437 := W_ref14_both (I := I1410) R1407 R1427 hd
   refine .call call16 r hw1437 r r fun v1432 I1429 hl1430 hv1431 => ?_
   obtain ⟨r1428, p1434, c1435, rfl, R1436, hd⟩ := hv1431
   have le1438 := IH.le.trans le1412 hl1430
   have le1439 := IH.le.trans le1413 hl1430
   replace R3 := R3.mono hl1430
   replace R1407 := R1407.mono hl1430
   replace R1427 := R1427.mono hl1430
   replace hC1423 := hC1423.mono hl1430
   exact .sub (E' := [(0, _), (1, _), (9, _), (52, _), (53, _), (54, _), (55, _), (56, _), (57, _), (58, _)]) ⟨r, r, r, r, r, r, r, r, r, r, trivial⟩ (.skips 1 r (.nilS [8, 9, 1, 0] r r (.region (.skips 1 r (.add r r r r (.sub (E' := [(0, _), (1, _), (8, _), (50, _), (51, _)]) ⟨r, r, r, r, r, trivial⟩ (.skips 1 r (.nil' fun c w ho hs => ⟨(r1428, w64 (s1408 + 1)), hd, I1429, _, _, le1439, R1436, ho.sub ⟨r, r, r, r, trivial⟩, hs.pick .n⟩))))))))
 exact .exitS [8] r r (.seq (.region (.skips 3 r (.nilS [5, 4] r r (.ret (pret results5 (.t r (.t r .n)) le1412 ⟨(s1404, 0), _, _, r, R1407, hd⟩))))))

theorem W_ref13_SameSums {I : IH} {a0 : List Sum} {a1 : List Sum} {p1 : Option Addr} {c2 : Nat} {p4 : Option Addr} {c5 : Nat} {Q : Bool → Prop} (R3 : RepSl eSum I p1 c2 a0) (R6 : RepSl eSum I p4 c5 a1) (hd : ref13_SameSums a0 a1 Q) :
    PFun Try.prog 7 [.slice p1 a0.length c2, .slice p4 a1.length c5] I (fun I_ v => ∃ r, v = .bool r ∧ Q r) := by
 refine Fun.enter func7 r ntmps7 r (.c (.c .n)) fun w0 M => ?_
 refine .seq (.region (.skips 1 r (.nilS [1, 0] r r (.seq (.seq (.region (.skips 1 r (.len underlying24 r r r r (.skips 1 r ?_)))))))))
 refine .len underlying24 r r r r (.ne r r r r (.nilS [10, 1, 0] r r (.condP r hd (fun hb8 hd => ?_) fun hb8 hd => ?_)))
 · exact .seq (.region (.skips 1 r (.nilS [4] r r (.ret (pret results7 (.t r .n) (.refl _) ⟨false, r, hd⟩)))))
 refine .skipS [1, 0] r r (.seq (.seq (.region (.skips 1 r (.nilS [5, 1, 0] r r (.block (.loop hd (fun (s54 : Int) c w => ∃ I_, IH.le I I_ ∧ Ok ⟨26, [], none⟩ [(0, .slice p1 a0.length c2), (1, .slice p4 a1.length c5), (5, .int .i64 s54)] c ∧ Sym w0 M I I_ [] w) (fun c w ho hs => ⟨I, (.refl _), ho.sub ⟨r, r, r, trivial⟩, hs.pick .n⟩) ?_)))))))
 rintro s54 next55 hd c w hst
 obtain ⟨I56, hl57, hok, hsym⟩ := hst
 have le58 := IH.le.trans (.refl _) hl57
 replace R3 := R3.mono hl57
 replace R6 := R6.mono hl57
 refine Cod.at hok hsym (.seq (.seq (.region (.skips 2 r (.len underlying24 r r r r (.lt r r r r (.nilS [14, 5, 1, 0] r r (.condP r hd (fun hb60 hd => ?_) fun hb60 hd => ?_))))))))
 · refine .skipS [5, 1, 0] r r (.seq (.block (.seq (.draw [some 0, some 1, some 2, some 3, some 4, some 5, some 6, some 7, some 8] 9 MX (by kernel_rfl) (by kernel_rfl) (by kernel_rfl) (by kernel_rfl) (by kernel_rfl) (by kernel_rfl) (by kernel_rfl) (fun ex => ex) (fun _ _ => .z) r (.fs [[], []] r (by kernel_rfl) ?_)))))
   obtain ⟨h61, x62, hx63, hd⟩ := hd
   obtain ⟨b64, o65, cs66, e67, hC68, hr69⟩ := R3.2 _ _ hx63
   cases hr69
   refine .f [0, 1] r (by kernel_rfl) r r (fun ex => .ixa underlying24 sizeOf46 r e67 r h61 (idx_lt hx63 h61) r r .mk) (.f [2] r (by kernel_rfl) r r (fun ex => .ldW isAgg46 sizeOf46 hC68 r r r r .mk) (.fs [[], []] r (by kernel_rfl) ?_))
   obtain ⟨h70, x71, hx72, hd⟩ := hd
   obtain ⟨b73, o74, cs75, e76, hC77, hr78⟩ := R6.2 _ _ hx72
   cases hr78
   refine .f [4, 5] r (by kernel_rfl) r r (fun ex => .ixa underlying24 sizeOf46 r e76 r h70 (idx_lt hx72 h70) r r .mk) (.f [6] r (by kernel_rfl) r r (fun ex => .ldW isAgg46 sizeOf46 hC77 r r r r .mk) (.f [3, 7] r (by kernel_rfl) r r (fun ex => .neV r r (EQ46 x62 x71) (EG46 _ _ _ _ _) r r r .mk) (.e 9 (by kernel_rfl) (by kernel_rfl) (by kernel_rfl) (.nilS [25, 5, 1, 0] r r (.condP r hd (fun hb79 hd => ?_) fun hb79 hd => ?_)))))
   · exact .seq (.region (.skips 1 r (.nilS [4] r r (.ret (pret results7 (.t r .n) le58 ⟨false, r, hd⟩)))))
   exact .skipS [5, 1, 0] r r (.region (.skips 1 r (.add r r r r (.sub (E' := [(0, _), (1, _), (15, _), (16, _)]) ⟨r, r, r, r, trivial⟩ (.skips 1 r (.nil' fun c w ho hs => ⟨(w64 (s54 + 1)), hd, I56, le58, ho.sub ⟨r, r, r, trivial⟩, hs.pick .n⟩))))))
 exact .exitS [] r r (.seq (.region (.skips 1 r (.nilS [4] r r (.ret (pret results7 (.t r .n) le58 ⟨true, r, hd⟩))))))

theorem W_law14_PushMerges {I : IH} {a0 : Int} {a1 : List (List Sum)} {p1 : Option Addr} {c2 : Nat} {Q : Bool → Prop} (R3 : RepSl (slEl eSum) I p1 c2 a1) (hd : law14_PushMerges a0 a1 Q) :
    PFun Try.prog 3 [.int .i64 a0, .slice p1 a1.length c2] I (fun I_ v => ∃ r, v = .bool r ∧ Q r) := by
 refine Fun.enter func3 r ntmps3 r (.c (.c .n)) fun w0 M => ?_
 refine .seq (.region (.skips 1 r (.nilS [1, 0] r r (.seq ?_))))
 refine Cod.joinQ (σ := (List (List Sum))) hd (fun (s26 : (List (List Sum))) c w => ∃ I_ p27 c28, IH.le I I_ ∧ RepSl (slEl eSum) I_ p27 c28 s26 ∧ Ok ⟨59, [], none⟩ [(0, .int .i64 a0), (1, .slice p27 s26.length c28)] c ∧ Sym w0 M I I_ [] w) (fun k30 hd => ?_) ?_
 · skip
   refine .seq (.region (.skips 1 r (.len underlying23 r r r r (.gt r r r r (.nilS [14, 1, 0] r r (.condP r hd (fun hb31 hd => ?_) fun hb31 hd => ?_))))))
   · refine .region (.skips 1 r ?_)
     obtain ⟨h32, h33, h34, hd⟩ := hd
     have h40 : Int.toNat 0 ≤ Int.toNat 8 := by omega
     have h41 : Int.toNat 8 ≤ a1.length := by omega
     obtain ⟨p35, c36, e38, e39, R37⟩ := RepSl.sliceW R3 (Int.toNat 0) (Int.toNat 8) c2 h40 h41 (.inl rfl)
     exact .sliceW (L := Int.toNat 0) (H := Int.toNat 8) (cm := c2) underlying23 sizeOf24 r r R3.1 r r r (.inl ⟨r, r⟩) (.inr ⟨_, _, r, (by omega), r⟩) (.inl r) h40 h41 r e38 e39 r r (.sub (E' := [(0, _), (14, _), (15, _), (16, _)]) ⟨r, r, r, r, trivial⟩ (.skips 1 r (.nil' fun c w ho hs => ⟨((a1.take (Int.toNat 8)).drop (Int.toNat 0)), hd, I, _, _, (.refl _), R37, ho.sub ⟨r, r, trivial⟩, hs.pick .n⟩)))
   exact .skip' fun c w ho hs => ⟨a1, hd, I, _, _, (.refl _), R3, ho.sub ⟨r, r, trivial⟩, hs.pick .n⟩
 rintro s26 hd c w hst
 obtain ⟨I42, p27, c28, hl43, R29, hok, hsym⟩ := hst
 have le44 := IH.le.trans (.refl _) hl43
 refine Cod.at hok hsym (.seq (.region (.skips 1 r (.nilS [5, 1, 0] r r (.seq (.seq (.region (.skips 1 r (.nilS [6, 5, 1, 0] r r ?_)))))))))
 refine .block (.own0 (slEl eSum) 24 (.loop hd (fun (s : (List (List Sum)) × Int) c w => match s with | (s335, s339) => ∃ I_ p336 c337, IH.le I42 I_ ∧ Ok ⟨59, [], none⟩ [(0, .int .i64 a0), (1, .slice p27 s26.length c28), (5, .slice p336 s335.length c337), (6, .int .i64 s339)] c ∧ Sym w0 M I I_ [OwnSl (slEl eSum) 24 p336 c337 s335] w) (fun c w ho hs => ⟨I42, _, _, (.refl _), ho.sub ⟨r, r, r, r, trivial⟩, hs.pick (.c .z .n)⟩) ?_))
 rintro ⟨s335, s339⟩ next341 hd c w hst
 obtain ⟨I342, p336, c337, hl343, hok, hsym⟩ := hst
 have le344 := IH.le.trans le44 hl343
 have le345 := IH.le.trans (.refl _) hl343
 replace R29 := R29.mono hl343
 refine Cod.at hok hsym (.seq (.seq (.region (.skips 2 r (.len underlying23 r r r r (.lt r r r r (.nilS [20, 6, 5, 1, 0] r r (.condP r hd (fun hb347 hd => ?_) fun hb347 hd => ?_))))))))
 · refine .skipS [6, 5, 1, 0] r r (.seq (.block (.seq (.region (.skips 2 r ?_)))))
   obtain ⟨h360, x361, hx362, hd⟩ := hd
   obtain ⟨b363, o364, cs365, e366, hC367, hr368⟩ := R29.2 _ _ hx362
   obtain ⟨p369, c370, rfl, R371⟩ := hr368
   refine .ixa underlying23 sizeOf24 r e366 r h360 (idx_lt hx362 h360) r r (.ld1 (j := 0) isAgg24 hC367 r r r r r (.skips 1 r (.nilS [7, 6, 5, 1, 0] r r (.seq (.seq (.region (.skips 1 r (.len underlying24 r r r r (.gt r r r r ?_)))))))))
   refine .nilS [29, 7, 6, 5, 1, 0] r r (.condP r hd (fun hb372 hd => ?_) fun hb372 hd => ?_)
   · refine .region (.skips 1 r ?_)
     obtain ⟨h373, h374, h375, hd⟩ := hd
     have h381 : Int.toNat 0 ≤ Int.toNat 30 := by omega
     have h382 : Int.toNat 30 ≤ x361.length := by omega
     obtain ⟨p376, c377, e379, e380, R378⟩ := RepSl.sliceW R371 (Int.toNat 0) (Int.toNat 30) c370 h381 h382 (.inl rfl)
     refine .sliceW (L := Int.toNat 0) (H := Int.toNat 30) (cm := c370) underlying24 sizeOf46 r r R371.1 r r r (.inl ⟨r, r⟩) (.inr ⟨_, _, r, (by omega), r⟩) (.inl r) h381 h382 r e379 e380 r r (.sub (E' := [(0, _), (1, _), (5, _), (6, _), (29, _), (30, _), (31, _)]) ⟨r, r, r, r, r, r, r, trivial⟩ (.skips 1 r (.nilS [7, 6, 5, 1, 0] r r (.region (.skips 2 r (.buildSlice 1 underlying23 sizeOf24 zeroValue24 r r (.c r r r .n) r r fun b383 => ?_))))))
     obtain ⟨hl385, hd⟩ := hd
     refine .append (ys := [((x361.take (Int.toNat 30)).drop (Int.toNat 0))]) 24 (.s .z) underlying23 underlying23 IN24 r r r r r r r r r (.box .z (.one ⟨_, _, r, R378⟩) r) hl385 r r fun p386 c387 => ?_
     exact .sub (E' := [(0, _), (1, _), (6, _), (7, _), (32, _), (33, _), (34, _), (35, _)]) ⟨r, r, r, r, r, r, r, r, trivial⟩ (.skips 1 r (.nilS [5, 6, 1, 0] r r (.drop (.s .z) (.region (.skips 1 r (.add r r r r (.sub (E' := [(0, _), (1, _), (5, _), (21, _), (22, _)]) ⟨r, r, r, r, r, trivial⟩ (.skips 1 r (.nil' fun c w ho hs => ⟨((s335 ++ ([((x361.take (Int.toNat 30)).drop (Int.toNat 0))])), w64 (s339 + 1)), hd, I342, _, _, le345, ho.sub ⟨r, r, r, r, trivial⟩, hs.pick (.c .z .n)⟩)))))))))
   refine .skipS [7, 6, 5, 1, 0] r r (.region (.skips 2 r (.buildSlice 1 underlying23 sizeOf24 zeroValue24 r r (.c r r r .n) r r fun b389 => ?_)))
   obtain ⟨hl391, hd⟩ := hd
   refine .append (ys := [x361]) 24 (.s .z) underlying23 underlying23 IN24 r r r r r r r r r (.box .z (.one ⟨_, _, r, R371⟩) r) hl391 r r fun p392 c393 => ?_
   exact .sub (E' := [(0, _), (1, _), (6, _), (7, _), (32, _), (33, _), (34, _), (35, _)]) ⟨r, r, r, r, r, r, r, r, trivial⟩ (.skips 1 r (.nilS [5, 6, 1, 0] r r (.drop (.s .z) (.region (.skips 1 r (.add r r r r (.sub (E' := [(0, _), (1, _), (5, _), (21, _), (22, _)]) ⟨r, r, r, r, r, trivial⟩ (.skips 1 r (.nil' fun c w ho hs => ⟨((s335 ++ ([x361])), w64 (s339 + 1)), hd, I342, _, _, le345, ho.sub ⟨r, r, r, r, trivial⟩, hs.pick (.c .z .n)⟩)))))))))
 refine .exitS [5, 0] r r (.seq (.region (.skips 2 r (.pub .z fun I412 hl413 R414 => ?_))))
 have le415 := IH.le.trans le344 hl413
 have le416 := IH.le.trans le345 hl413
 have hw426 := W_push_Merge (I := I412) R414 hd
 refine .call call4 r hw426 r r fun v421 I418 hl419 hv420 => ?_
 obtain ⟨r417, p423, c424, rfl, R425, hd⟩ := hv420
 have le427 := IH.le.trans le415 hl419
 have le428 := IH.le.trans le416 hl419
 replace R414 := R414.mono hl419
 refine .skips 1 r (.extract r r r r (.extract r r r r (.skips 2 r (.nilS [9, 8, 5, 0] r r (.seq (.region (.skips 2 r ?_)))))))
 have hw450 := W_ref14_Merge (I := I418) R414 hd
 refine .call call5 r hw450 r r fun v445 I442 hl443 hv444 => ?_
 obtain ⟨r441, p447, c448, rfl, R449, hd⟩ := hv444
 have le451 := IH.le.trans le427 hl443
 have le452 := IH.le.trans le428 hl443
 replace R414 := R414.mono hl443
 replace R425 := R425.mono hl443
 refine .skips 1 r (.extract r r r r (.extract r r r r (.skips 2 r (.nilS [11, 10, 9, 8] r r (.seq (.region ?_))))))
 have hw454 := W_law14_live (I := I442) hd
 refine .callP call6 r hw454 r r fun v455 hv456 => ?_
 obtain ⟨r453, rfl, hd⟩ := hv456
 refine .skips 1 r ?_
 refine splitP hd (fun hb457 hd => ?_) fun hb457 hd => ?_
 · rw [hb457]
   refine .gyes r r r (.move r r r (.gyes r r r (.move r r r ?_)))
   have hw459 := W_ref13_SameSums (I := I442) R425 R449 hd
   refine .gyes r r r (.callP call7 r hw459 r r fun v460 hv461 => ?_)
   obtain ⟨r458, rfl, hd⟩ := hv461
   refine .skips 2 r ?_
   refine splitP hd (fun hb462 hd => ?_) fun hb462 hd => ?_
   · rw [hb462]
     exact .gyes r r r (.move r r r (.gyes r r r (.move r r r (.gyes r r r (.eq r r r r (.skips 2 r (.nilS [4] r r (.ret (pret results3 (.t r .n) le451 ⟨(r417.2 == r441.2), r, hd⟩)))))))))
   rw [hb462]
   exact .skips 5 r (.nilS [4] r r (.ret (pret results3 (.t r .n) le451 ⟨false, r, hd⟩)))
 rw [hb457]
 exact .skips 10 r (.nilS [4] r r (.ret (pret results3 (.t r .n) le451 ⟨false, r, hd⟩)))

end Go.Proofs.Ytdfiinkpdaggeaa
