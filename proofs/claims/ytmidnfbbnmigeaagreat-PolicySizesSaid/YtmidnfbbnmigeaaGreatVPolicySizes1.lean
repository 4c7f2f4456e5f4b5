/- The walks (printed by a program of ours). -/
import Derived.Test.YtmidnfbbnmigeaaGreatV3
namespace Go.Proofs.YtmidnfbbnmigeaaGreat
open Go Go.Fw
set_option linter.unusedVariables false
set_option linter.unusedSimpArgs false
set_option maxRecDepth 8000
set_option maxHeartbeats 1000000
open Tryz
theorem W_ref09_Of {I : IH} {a0 : Int} {a1 : Int} {a2 : List Item} {p1 : Option Addr} {c2 : Nat} {Q : (Vec × Int) → Prop} (R3 : RepSl eItem I p1 c2 a2) (hd : ref09_Of a0 a1 a2 Q) :
    PFun Tryz.prog 53 [.int .i64 a0, .int .i64 a1, .slice p1 a2.length c2] I (fun I_ v => ∃ r p4 c5, v = .tuple #[.agg #[.int .i64 r.1.N, .slice p4 r.1.Items.length c5], .int .i64 r.2] ∧ RepSl eItem I_ p4 c5 r.1.Items ∧ Q r) := by
 refine Fun.enter func53 r ntmps53 r (.c (.c (.c .n))) fun w0 M => ?_
 refine .seq (.region (.allocA zeroValue42 r r fun b9 => ?_))
 refine .skips 1 r (.nilS [6, 2, 1, 0] r r (.seq (.seq (.region (.skips 1 r ?_)))))
 have hw17 := W_ref02_Is (I := I) hd
 refine .callP call46 r hw17 r r fun v18 hv19 => ?_
 obtain ⟨r16, rfl, hd⟩ := hv19
 refine .not r r r (.nilS [15, 6, 2, 1, 0] r r (.condP r hd (fun hb20 hd => ?_) fun hb20 hd => ?_))
 · exact .seq (.region (.build zeroValue42 underlying42 BI42 .n (by exact trivial) r r (.storeA sizeOf42 r r .z (.t (.t .nil)) r r (.skips 1 r (.nilS [7, 6] r r (.ret (pret results53 (.w isAgg42 sizeOf42 r .z r (.t r .n)) (.refl _) ⟨(({ N := 0, Items := ([] : List Item) } : Vec), 8), _, _, r, (.nil _ _ _), hd⟩)))))))
 refine .skipS [6, 2, 1, 0] r r (.seq (.seq (.region (.skips 1 r (.lt r r r r (.skips 1 r ?_))))))
 refine splitP hd (fun hb23 hd => ?_) fun hb23 hd => ?_
 · rw [hb23]
   exact .skips 3 r (.nilS [22, 6, 2, 1, 0] r r (.condKT r r (.seq (.region (.build zeroValue42 underlying42 BI42 .n (by exact trivial) r r (.storeA sizeOf42 r r .z (.t (.t .nil)) r r (.skips 1 r (.nilS [7, 6] r r (.ret (pret results53 (.w isAgg42 sizeOf42 r .z r (.t r .n)) (.refl _) ⟨(({ N := 0, Items := ([] : List Item) } : Vec), 3), _, _, r, (.nil _ _ _), hd⟩))))))))))
 rw [hb23]
 refine .gyes r r r (.move r r r (.gyes r r r (.gt r r r r (.skips 1 r (.nilS [22, 6, 2, 1, 0] r r (.condP r hd (fun hb24 hd => ?_) fun hb24 hd => ?_))))))
 · exact .seq (.region (.build zeroValue42 underlying42 BI42 .n (by exact trivial) r r (.storeA sizeOf42 r r .z (.t (.t .nil)) r r (.skips 1 r (.nilS [7, 6] r r (.ret (pret results53 (.w isAgg42 sizeOf42 r .z r (.t r .n)) (.refl _) ⟨(({ N := 0, Items := ([] : List Item) } : Vec), 3), _, _, r, (.nil _ _ _), hd⟩)))))))
 refine .skipS [6, 2, 1, 0] r r (.seq (.region (.skips 1 r (.nilS [8, 6, 2, 1, 0] r r (.seq (.seq (.region (.skips 1 r (.nilS [9, 8, 6, 2, 1, 0] r r ?_)))))))))
 refine .block (.own0 eEdge 116 (.loop hd (fun (s : (List Edge) × Int) c w => match s with | (s400, s404) => ∃ I_ p401 c402, IH.le I I_ ∧ Ok ⟨95, [], none⟩ [(0, .int .i64 a0), (1, .int .i64 a1), (2, .slice p1 a2.length c2), (6, .pointer (some ⟨b9, 0, none⟩)), (8, .slice p401 s400.length c402), (9, .int .i64 s404)] c ∧ Sym w0 M I I_ [pto b9 (.cells #[.int .i64 0, .slice none 0 0] 42 (0, 0)), OwnSl eEdge 116 p401 c402 s400] w) (fun c w ho hs => ⟨I, _, _, (.refl _), ho.sub ⟨r, r, r, r, r, r, trivial⟩, hs.pick (.c (.s .z) (.c .z .n))⟩) ?_))
 rintro ⟨s400, s404⟩ next406 hd c w hst
 obtain ⟨I407, p401, c402, hl408, hok, hsym⟩ := hst
 have le409 := IH.le.trans (.refl _) hl408
 replace R3 := R3.mono hl408
 refine Cod.at hok hsym (.seq (.seq (.region (.skips 2 r (.len underlying32 r r r r (.lt r r r r (.nilS [27, 9, 8, 6, 2, 1, 0] r r (.condP r hd (fun hb411 hd => ?_) fun hb411 hd => ?_))))))))
 · refine .skipS [9, 8, 6, 2, 1, 0] r r (.seq (.block (.seq (.seq (.region (.skips 2 r ?_))))))
   obtain ⟨h432, x433, hx434, hd⟩ := hd
   obtain ⟨b435, o436, cs437, e438, hC439, hr440⟩ := R3.2 _ _ hx434
   cases hr440
   refine .ixa underlying32 sizeOf80 r e438 r h432 (idx_lt hx434 h432) r r (.fieldAddr underlying80 r sizeOf3 r (o := o436 + s404.toNat * 2) r r r (.ld1 (j := 0) isAgg3 hC439 r r r r r (.lt r r r r (.skips 1 r ?_))))
   refine splitP hd (fun hb441 hd => ?_) fun hb441 hd => ?_
   · rw [hb441]
     refine .skips 8 r (.nilS [44, 9, 8, 6, 2, 1, 0] r r (.condKT r r (.seq (.region (.build zeroValue42 underlying42 BI42 .n (by exact trivial) r r (.storeA sizeOf42 r r .z (.t (.t .nil)) r r (.skips 1 r (.nilS [7, 6] r r (.drop (.s .z) ?_)))))))))
     exact .ret (pret results53 (.w isAgg42 sizeOf42 r .z r (.t r .n)) le409 ⟨(({ N := 0, Items := ([] : List Item) } : Vec), 3), _, _, r, (.nil _ _ _), hd⟩)
   rw [hb441]
   refine .gyes r r r (.move r r r (.gyes r r r (.move r r r ?_)))
   obtain ⟨h442, x443, hx444, hd⟩ := hd
   obtain ⟨b445, o446, cs447, e448, hC449, hr450⟩ := R3.2 _ _ hx444
   cases hr450
   refine .gyes r r r (.ixa underlying32 sizeOf80 r e448 r h442 (idx_lt hx444 h442) r r (.gyes r r r (.fieldAddr underlying80 r sizeOf3 r (o := o446 + s404.toNat * 2) r r r (.gyes r r r (.ld1 (j := 0) isAgg3 hC449 r r r r r (.gyes r r r (.move r r r (.gyes r r r (.ge r r r r (.skips 1 r (.nilS [44, 9, 8, 6, 2, 1, 0] r r (.condP r hd (fun hb451 hd => ?_) fun hb451 hd => ?_))))))))))))
   · exact .seq (.region (.build zeroValue42 underlying42 BI42 .n (by exact trivial) r r (.storeA sizeOf42 r r .z (.t (.t .nil)) r r (.skips 1 r (.nilS [7, 6] r r (.drop (.s .z) (.ret (pret results53 (.w isAgg42 sizeOf42 r .z r (.t r .n)) le409 ⟨(({ N := 0, Items := ([] : List Item) } : Vec), 3), _, _, r, (.nil _ _ _), hd⟩))))))))
   refine .skipS [9, 8, 6, 2, 1, 0] r r (.ownF (.s .z) fun hne452 => ?_)
   refine .draw [some 0, some 1, some 2, some 3, some 4, some 5, some 6, some 7, some 8, some 9, some 10, some 11, some 12, some 13] 14 MX (by kernel_rfl) (by kernel_rfl) (by kernel_rfl) (by kernel_rfl) (by kernel_rfl) (by kernel_rfl) (by kernel_rfl) (fun ex => (pto b9 (.cells #[.int .i64 0, .slice none 0 0] 42 (0, 0))) :: (OwnSl eEdge 116 p401 c402 s400) :: ex) (fun _ _ => (.s (.s .z))) r (.fs [[], [], []] r (by kernel_rfl) ?_)
   obtain ⟨h453, x454, hx455, hd⟩ := hd
   obtain ⟨b456, o457, cs458, e459, hC460, hr461⟩ := R3.2 _ _ hx455
   cases hr461
   refine .f [1, 2] r (by kernel_rfl) r r (fun ex => .ixa underlying32 sizeOf80 r e459 r h453 (idx_lt hx455 h453) r r .mk) (.f [3] r (by kernel_rfl) r r (fun ex => .fieldAddr underlying80 r sizeOf3 r (o := o457 + s404.toNat * 2) r r r .mk) (.f [4] r (by kernel_rfl) r r (fun ex => .ld1 (j := 0) isAgg3 hC460 r r r r r .mk) (.fs [[], []] r (by kernel_rfl) ?_)))
   obtain ⟨h462, x463, hx464, hd⟩ := hd
   obtain ⟨b465, o466, cs467, e468, hC469, hr470⟩ := R3.2 _ _ hx464
   cases hr470
   refine .f [6, 7] r (by kernel_rfl) r r (fun ex => .ixa underlying32 sizeOf80 r e468 r h462 (idx_lt hx464 h462) r r .mk) (.f [8] r (by kernel_rfl) r r (fun ex => .fieldAddr underlying80 r sizeOf2 r (o := o466 + s404.toNat * 2 + 1) r r r .mk) (.f [9] r (by kernel_rfl) r r (fun ex => .ld1 (j := 1) isAgg2 hC469 r r r r r .mk) (.f [5, 10] r (by kernel_rfl) r r (fun ex => .build zeroValue116 underlying116 BI116 (.c r r r (.s (.t .nil)) (.c r r r (.s (.s (.t .nil))) .n)) (by exact ⟨⟨_, _, r, r, r⟩, ⟨⟨_, _, r, r, r⟩, trivial⟩⟩) r r .mk) (.w [0] [[], [11], [10, 11], [9, 10, 11], [8, 9, 10, 11], [8, 9, 10, 11], [11], [5, 11], [4, 5, 11], [3, 4, 5, 11], [3, 4, 5, 11]] [11] r (by kernel_rfl) (by kernel_rfl) (by kernel_rfl) ((dropE_kept r r)) (.inr (dropE_kept r r)) fun ex => ?_))))
   refine .buildSlice 1 underlying114 sizeOf116 zeroValue116 r r (.c r r r .n) r r fun b471 => ?_
   refine .some (fun ex => (pto b471 (.cells #[.int .i64 0, .int .i64 x454.At, .int .i64 x463.Val] 116 (0, 0))) :: (pto b9 (.cells #[.int .i64 0, .slice none 0 0] 42 (0, 0))) :: (OwnSl eEdge 116 p401 c402 s400) :: ex) r (fun _ _ => (.s (.s (.s .z)))) r (.ccs [[]] r r (by kernel_rfl) trivial) (.w [] [[]] [0, 12] r (by kernel_rfl) (by kernel_rfl) (by kernel_rfl) ((dropE_kept r r)) (.inr (dropE_kept r r)) fun ex => ?_)
   obtain ⟨hl473, hd⟩ := hd
   refine .append (ys := [({ From := 0, To := x454.At, W := x463.Val } : Edge)]) 24 (.s (.s .z)) underlying114 underlying114 IN116 r r r r r r r r r (.box .z (.one r) r) hl473 r r fun p474 c475 => ?_
   refine .some (fun ex => (OwnSl eEdge 116 p474 c475 (s400 ++ ([({ From := 0, To := x454.At, W := x463.Val } : Edge)]))) :: (pto b471 (.cells #[.int .i64 0, .int .i64 x454.At, .int .i64 x463.Val] 116 (0, 0))) :: (pto b9 (.cells #[.int .i64 0, .slice none 0 0] 42 (0, 0))) :: ex) r (fun _ _ => (.s (.s (.s .z)))) r trivial (.e 14 (by kernel_rfl) (by kernel_rfl) (by kernel_rfl) (.sub (E' := [(0, _), (1, _), (2, _), (6, _), (9, _), (46, _), (47, _), (48, _), (49, _), (50, _), (51, _), (52, _), (53, _), (54, _), (55, _), (56, _), (57, _), (58, _), (59, _)]) ⟨r, r, r, r, r, r, r, r, r, r, r, r, r, r, r, r, r, r, r, trivial⟩ (.skips 1 r (.nilS [8, 9, 6, 2, 1, 0] r r (.drop (.s .z) (.region (.skips 1 r (.add r r r r (.sub (E' := [(0, _), (1, _), (2, _), (6, _), (8, _), (28, _), (29, _)]) ⟨r, r, r, r, r, r, r, trivial⟩ ?_)))))))))
   exact .skips 1 r (.nil' fun c w ho hs => ⟨((s400 ++ ([({ From := 0, To := x454.At, W := x463.Val } : Edge)])), w64 (s404 + 1)), hd, I407, _, _, le409, ho.sub ⟨r, r, r, r, r, r, trivial⟩, hs.pick (.c (.s .z) (.c .z .n))⟩)
 refine .exitS [8, 6, 1, 0] r r (.seq (.region (.skips 2 r (.pub (.s .z) fun I492 hl493 R494 => ?_))))
 have le495 := IH.le.trans le409 hl493
 have hw505 := W_ref05_Combine (I := I492) R494 hd
 refine .call call67 r hw505 r r fun v500 I497 hl498 hv499 => ?_
 obtain ⟨r496, p502, c503, rfl, R504, hd⟩ := hv499
 have le506 := IH.le.trans le495 hl498
 replace R494 := R494.mono hl498
 refine .skips 1 r (.extract r r r r (.extract r r r r (.sub (E' := [(0, _), (1, _), (6, _), (61, _), (62, _), (63, _), (60, _), (64, _), (65, _)]) ⟨r, r, r, r, r, r, r, r, r, trivial⟩ (.skips 2 r (.nilS [10, 8, 6, 1] r r (.seq (.seq (.region (.skips 1 r ?_)))))))))
 refine .ne r r r r (.nilS [67, 10, 8, 6, 1] r r (.condP r hd (fun hb508 hd => ?_) fun hb508 hd => ?_))
 · exact .seq (.region (.build zeroValue42 underlying42 BI42 .n (by exact trivial) r r (.skips 1 r (.storeA sizeOf42 r r .z (.t (.t .nil)) r r (.skips 1 r (.nilS [7, 6] r r (.ret (pret results53 (.w isAgg42 sizeOf42 r .z r (.t r .n)) le506 ⟨(({ N := 0, Items := ([] : List Item) } : Vec), r496.2), _, _, r, (.nil _ _ _), hd⟩))))))))
 refine .skipS [8, 6, 1] r r (.seq (.region (.skips 1 r (.build zeroValue42 underlying42 BI42 (.c r r r (.t .nil) .n) (by exact ⟨⟨_, _, r, r, r⟩, trivial⟩) r r (.allocA zeroValue42 r r fun b511 => ?_)))))
 refine .storeA sizeOf42 r r .z (.t (.t .nil)) r r (.nilS [11, 8, 6] r r (.seq (.seq (.region (.skips 1 r (.nilS [12, 11, 8, 6] r r (.block (.own0 eItem 80 (.loop hd (fun (s : (List Item) × Int) c w => match s with | (s582, s586) => ∃ I_ p583 c584, IH.le I497 I_ ∧ Ok ⟨95, [], none⟩ [(6, .pointer (some ⟨b9, 0, none⟩)), (8, .slice p502 r496.1.length c503), (11, .pointer (some ⟨b511, 0, none⟩)), (12, .int .i64 s586)] c ∧ Sym w0 M I I_ [pto b9 (.cells #[.int .i64 0, .slice none 0 0] 42 (0, 0)), pto b511 (.cells #[.int .i64 a1, .slice p583 s582.length c584] 42 (0, 0)), OwnSl eItem 80 p583 c584 s582] w) (fun c w ho hs => ⟨I497, _, _, (.refl _), ho.sub ⟨r, r, r, r, trivial⟩, hs.pick (.c (.s (.s .z)) (.c (.s .z) (.c .z .n)))⟩) ?_)))))))))
 rintro ⟨s582, s586⟩ next588 hd c w hst
 obtain ⟨I589, p583, c584, hl590, hok, hsym⟩ := hst
 have le591 := IH.le.trans le506 hl590
 have le592 := IH.le.trans (.refl _) hl590
 replace R504 := R504.mono hl590
 refine Cod.at hok hsym (.seq (.seq (.region (.skips 2 r (.len underlying114 r r r r (.lt r r r r (.nilS [75, 12, 11, 8, 6] r r (.condP r hd (fun hb594 hd => ?_) fun hb594 hd => ?_))))))))
 · refine .skipS [12, 11, 8, 6] r r (.seq (.block (.ownF (.s (.s .z)) fun hne595 => ?_)))
   refine .draw [some 0, some 1, some 2, some 3, some 4, some 5, some 6, some 7, some 8, some 9, some 10, some 11, some 12, some 13, some 14] 15 MX (by kernel_rfl) (by kernel_rfl) (by kernel_rfl) (by kernel_rfl) (by kernel_rfl) (by kernel_rfl) (by kernel_rfl) (fun ex => (pto b9 (.cells #[.int .i64 0, .slice none 0 0] 42 (0, 0))) :: (pto b511 (.cells #[.int .i64 a1, .slice p583 s582.length c584] 42 (0, 0))) :: (OwnSl eItem 80 p583 c584 s582) :: ex) (fun _ _ => (.s (.s (.s .z)))) r (.f [] r (by kernel_rfl) r r (fun ex => .fieldAddr underlying42 r sizeOf32 r (o := 1) r r r .mk) (.f [0] r (by kernel_rfl) r r (fun ex => .load1 isAgg32 r (.s .z) r r r .mk) (.fs [[], []] r (by kernel_rfl) ?_)))
   obtain ⟨h596, x597, hx598, hd⟩ := hd
   obtain ⟨b599, o600, cs601, e602, hC603, hr604⟩ := R504.2 _ _ hx598
   cases hr604
   refine .f [2, 3] r (by kernel_rfl) r r (fun ex => .ixa underlying114 sizeOf116 r e602 r h596 (idx_lt hx598 h596) r r .mk) (.f [4] r (by kernel_rfl) r r (fun ex => .fieldAddr underlying116 r sizeOf3 r (o := o600 + s586.toNat * 3 + 1) r r r .mk) (.f [5] r (by kernel_rfl) r r (fun ex => .ld1 (j := 1) isAgg3 hC603 r r r r r .mk) (.fs [[], []] r (by kernel_rfl) ?_)))
   obtain ⟨h605, x606, hx607, hd⟩ := hd
   obtain ⟨b608, o609, cs610, e611, hC612, hr613⟩ := R504.2 _ _ hx607
   cases hr613
   refine .f [7, 8] r (by kernel_rfl) r r (fun ex => .ixa underlying114 sizeOf116 r e611 r h605 (idx_lt hx607 h605) r r .mk) (.f [9] r (by kernel_rfl) r r (fun ex => .fieldAddr underlying116 r sizeOf2 r (o := o609 + s586.toNat * 3 + 2) r r r .mk) (.f [10] r (by kernel_rfl) r r (fun ex => .ld1 (j := 2) isAgg2 hC612 r r r r r .mk) (.f [6, 11] r (by kernel_rfl) r r (fun ex => .build zeroValue80 underlying80 BI80 (.c r r r (.t .nil) (.c r r r (.s (.t .nil)) .n)) (by exact ⟨⟨_, _, r, r, r⟩, ⟨⟨_, _, r, r, r⟩, trivial⟩⟩) r r .mk) (.w [1, 0] [[], [12], [11, 12], [10, 11, 12], [9, 10, 11, 12], [9, 10, 11, 12], [12], [6, 12], [5, 6, 12], [4, 5, 6, 12], [4, 5, 6, 12]] [12] r (by kernel_rfl) (by kernel_rfl) (by kernel_rfl) ((dropE_kept r r)) (.inr (dropE_kept r r)) fun ex => ?_))))
   refine .buildSlice 1 underlying32 sizeOf80 zeroValue80 r r (.c r r r .n) r r fun b614 => ?_
   refine .some (fun ex => (pto b614 (.cells #[.int .i64 x597.To, .int .i64 x606.W] 80 (0, 0))) :: (pto b9 (.cells #[.int .i64 0, .slice none 0 0] 42 (0, 0))) :: (pto b511 (.cells #[.int .i64 a1, .slice p583 s582.length c584] 42 (0, 0))) :: (OwnSl eItem 80 p583 c584 s582) :: ex) r (fun _ _ => (.s (.s (.s (.s .z))))) r (.cc [0] r (by kernel_rfl) r r r (fun ex => .load1 isAgg32 r (.s (.s .z)) r r r .mk) (.cc [] r (by kernel_rfl) r r r (fun ex => .fieldAddr underlying42 r sizeOf32 r (o := 1) r r r .mk) trivial)) (.w [] [[], [1]] [1, 13] r (by kernel_rfl) (by kernel_rfl) (by kernel_rfl) ((dropE_kept r r)) (.inr (dropE_kept r r)) fun ex => ?_)
   obtain ⟨hl616, hd⟩ := hd
   refine .append (ys := [({ At := x597.To, Val := x606.W } : Item)]) 16 (.s (.s (.s .z))) underlying32 underlying32 IN80 r r r r r r r r r (.box .z (.one r) r) hl616 r r fun p617 c618 => ?_
   refine .some (fun ex => (OwnSl eItem 80 p617 c618 (s582 ++ ([({ At := x597.To, Val := x606.W } : Item)]))) :: (pto b614 (.cells #[.int .i64 x597.To, .int .i64 x606.W] 80 (0, 0))) :: (pto b9 (.cells #[.int .i64 0, .slice none 0 0] 42 (0, 0))) :: (pto b511 (.cells #[.int .i64 a1, .slice p583 s582.length c584] 42 (0, 0))) :: ex) r (fun _ _ => (.s (.s (.s (.s .z))))) r trivial (.e 15 (by kernel_rfl) (by kernel_rfl) (by kernel_rfl) (.fieldAddr underlying42 r sizeOf32 r (o := 1) r r r (.store1 sizeOf32 r r (.s (.s (.s .z))) (.s (.t .nil)) r (.nilS [12, 11, 8, 6] r r (.drop (.s .z) (.region (.skips 1 r (.add r r r r (.sub (E' := [(6, _), (8, _), (11, _), (76, _), (77, _)]) ⟨r, r, r, r, r, trivial⟩ ?_)))))))))
   exact .skips 1 r (.nil' fun c w ho hs => ⟨((s582 ++ ([({ At := x597.To, Val := x606.W } : Item)])), w64 (s586 + 1)), hd, I589, _, _, le592, ho.sub ⟨r, r, r, r, trivial⟩, hs.pick (.c (.s .z) (.c (.s .z) (.c .z .n)))⟩)
 refine .exitS [11, 6] r r (.seq (.region (.loadW isAgg42 sizeOf42 r (.s .z) r r r (.storeA sizeOf42 r r .z (.t (.t .nil)) r r (.skips 1 r (.nilS [7, 6] r r (.drop (.s .z) (.pub (.s .z) fun I620 hl621 R622 => ?_))))))))
 have le623 := IH.le.trans le591 hl621
 have le624 := IH.le.trans le592 hl621
 exact .ret (pret results53 (.w isAgg42 sizeOf42 r .z r (.t r .n)) le623 ⟨(({ N := a1, Items := s582 } : Vec), 0), _, _, r, R622, hd⟩)

theorem W_law09_Some {I : IH} {a0 : Int} {a1 : List Item} {p1 : Option Addr} {c2 : Nat} {Q : Vec → Prop} (R3 : RepSl eItem I p1 c2 a1) (hd : law09_Some a0 a1 Q) :
    PFun Tryz.prog 20 [.int .u8 a0, .slice p1 a1.length c2] I (fun I_ v => ∃ r p4 c5, v = .agg #[.int .i64 r.N, .slice p4 r.Items.length c5] ∧ RepSl eItem I_ p4 c5 r.Items ∧ Q r) := by
 refine Fun.enter func20 r ntmps20 r (.c (.c .n)) fun w0 M => ?_
 refine .seq (.region (.allocA zeroValue42 r r fun b9 => ?_))
 refine .nilS [4, 1, 0] r r (.seq (.region (.skips 1 r (.conv underlying5 underlying3 r r r (.rem r r (by decide) r r (.skips 1 r (.nilS [5, 4, 1] r r (.seq (.region ?_)))))))))
 refine .skips 1 r (.nilS [6, 5, 4, 1] r r (.seq ?_))
 refine Cod.joinQ (σ := (List Item)) hd (fun (s363 : (List Item)) c w => ∃ I_ p364 c365, IH.le I I_ ∧ Ok ⟨56, [], none⟩ [(4, .pointer (some ⟨b9, 0, none⟩)), (5, .int .i64 ((w64 (a0)).tmod 60)), (6, .slice p364 s363.length c365)] c ∧ Sym w0 M I I_ [pto b9 (.cells #[.int .i64 0, .slice none 0 0] 42 (0, 0)), OwnSl eItem 80 p364 c365 s363] w) (fun k367 hd => ?_) ?_
 · skip
   refine .seq (.region (.skips 1 r (.nilS [7, 6, 5, 4, 1] r r (.block (.own0 eItem 80 (.loop hd (fun (s : (List Item) × Int) c w => match s with | (s483, s487) => ∃ I_ p484 c485, IH.le I I_ ∧ Ok ⟨56, [], none⟩ [(1, .slice p1 a1.length c2), (4, .pointer (some ⟨b9, 0, none⟩)), (5, .int .i64 ((w64 (a0)).tmod 60)), (6, .slice p484 s483.length c485), (7, .int .i64 s487)] c ∧ Sym w0 M I I_ [pto b9 (.cells #[.int .i64 0, .slice none 0 0] 42 (0, 0)), OwnSl eItem 80 p484 c485 s483] w) (fun c w ho hs => ⟨I, _, _, (.refl _), ho.sub ⟨r, r, r, r, r, trivial⟩, hs.pick (.c (.s .z) (.c .z .n))⟩) ?_))))))
   rintro ⟨s483, s487⟩ next489 hd c w hst
   obtain ⟨I490, p484, c485, hl491, hok, hsym⟩ := hst
   have le492 := IH.le.trans (.refl _) hl491
   replace R3 := R3.mono hl491
   refine Cod.at hok hsym (.seq (.seq (.region (.skips 2 r (.len underlying32 r r r r (.lt r r r r (.skips 1 r ?_)))))))
   refine splitP hd (fun hb496 hd => ?_) fun hb496 hd => ?_
   · rw [hb496]
     refine .gyes r r r (.move r r r (.gyes r r r (.lt r r r r (.skips 2 r ?_))))
     refine splitP hd (fun hb497 hd => ?_) fun hb497 hd => ?_
     · rw [hb497]
       refine .gyes r r r (.move r r r (.gyes r r r (.gt r r r r (.skips 1 r (.nilS [24, 7, 6, 5, 4, 1] r r (.condP r hd (fun hb498 hd => ?_) fun hb498 hd => ?_))))))
       · refine .skipS [7, 6, 5, 4, 1] r r (.seq (.block (.seq (.region (.skips 2 r ?_)))))
         obtain ⟨h508, x509, hx510, hd⟩ := hd
         obtain ⟨b511, o512, cs513, e514, hC515, hr516⟩ := R3.2 _ _ hx510
         cases hr516
         refine .ixa underlying32 sizeOf80 r e514 r h508 (idx_lt hx510 h508) r r (.fieldAddr underlying80 r sizeOf3 r (o := o512 + s487.toNat * 2) r r r (.ld1 (j := 0) isAgg3 hC515 r r r r r (.ge r r r r (.nilS [32, 7, 6, 5, 4, 1] r r (.condP r hd (fun hb517 hd => ?_) fun hb517 hd => ?_)))))
         · refine .ownF (.s .z) fun hne518 => ?_
           refine .draw [some 0, some 1, some 2, some 3, some 4, some 5, some 6, some 7, some 8, some 9, some 10, some 11, some 12, some 13, some 14, some 15] 16 MX (by kernel_rfl) (by kernel_rfl) (by kernel_rfl) (by kernel_rfl) (by kernel_rfl) (by kernel_rfl) (by kernel_rfl) (fun ex => (pto b9 (.cells #[.int .i64 0, .slice none 0 0] 42 (0, 0))) :: (OwnSl eItem 80 p484 c485 s483) :: ex) (fun _ _ => (.s (.s .z))) r (.fs [[], [], []] r (by kernel_rfl) ?_)
           obtain ⟨h519, x520, hx521, hd⟩ := hd
           obtain ⟨b522, o523, cs524, e525, hC526, hr527⟩ := R3.2 _ _ hx521
           cases hr527
           refine .f [1, 2] r (by kernel_rfl) r r (fun ex => .ixa underlying32 sizeOf80 r e525 r h519 (idx_lt hx521 h519) r r .mk) (.f [3] r (by kernel_rfl) r r (fun ex => .fieldAddr underlying80 r sizeOf3 r (o := o523 + s487.toNat * 2) r r r .mk) (.f [4] r (by kernel_rfl) r r (fun ex => .ld1 (j := 0) isAgg3 hC526 r r r r r .mk) (.fs [[]] r (by kernel_rfl) ?_)))
           obtain ⟨hz528, hd⟩ := hd
           refine .f [5, 6] r (by kernel_rfl) r r (fun ex => .rem r r hz528 r r .mk) (.fs [[], []] r (by kernel_rfl) ?_)
           obtain ⟨h529, x530, hx531, hd⟩ := hd
           obtain ⟨b532, o533, cs534, e535, hC536, hr537⟩ := R3.2 _ _ hx531
           cases hr537
           refine .f [8, 9] r (by kernel_rfl) r r (fun ex => .ixa underlying32 sizeOf80 r e535 r h529 (idx_lt hx531 h529) r r .mk) (.f [10] r (by kernel_rfl) r r (fun ex => .fieldAddr underlying80 r sizeOf2 r (o := o533 + s487.toNat * 2 + 1) r r r .mk) (.f [11] r (by kernel_rfl) r r (fun ex => .ld1 (j := 1) isAgg2 hC536 r r r r r .mk) (.f [7, 12] r (by kernel_rfl) r r (fun ex => .build zeroValue80 underlying80 BI80 (.c r r r (.t .nil) (.c r r r (.s (.t .nil)) .n)) (by exact ⟨⟨_, _, r, r, r⟩, ⟨⟨_, _, r, r, r⟩, trivial⟩⟩) r r .mk) (.w [0] [[], [13], [12, 13], [11, 12, 13], [10, 11, 12, 13], [10, 11, 12, 13], [13], [7, 13], [7, 13], [5, 7, 13], [4, 5, 7, 13], [3, 4, 5, 7, 13], [3, 4, 5, 7, 13]] [13] r (by kernel_rfl) (by kernel_rfl) (by kernel_rfl) ((dropE_kept r r)) (.inr (dropE_kept r r)) fun ex => ?_))))
           refine .buildSlice 1 underlying32 sizeOf80 zeroValue80 r r (.c r r r .n) r r fun b538 => ?_
           refine .some (fun ex => (pto b538 (.cells #[.int .i64 (x520.At.tmod ((w64 (a0)).tmod 60)), .int .i64 x530.Val] 80 (0, 0))) :: (pto b9 (.cells #[.int .i64 0, .slice none 0 0] 42 (0, 0))) :: (OwnSl eItem 80 p484 c485 s483) :: ex) r (fun _ _ => (.s (.s (.s .z)))) r (.ccs [[]] r r (by kernel_rfl) trivial) (.w [] [[]] [0, 14] r (by kernel_rfl) (by kernel_rfl) (by kernel_rfl) ((dropE_kept r r)) (.inr (dropE_kept r r)) fun ex => ?_)
           obtain ⟨hl540, hd⟩ := hd
           refine .append (ys := [({ At := x520.At.tmod ((w64 (a0)).tmod 60), Val := x530.Val } : Item)]) 16 (.s (.s .z)) underlying32 underlying32 IN80 r r r r r r r r r (.box .z (.one r) r) hl540 r r fun p541 c542 => ?_
           refine .some (fun ex => (OwnSl eItem 80 p541 c542 (s483 ++ ([({ At := x520.At.tmod ((w64 (a0)).tmod 60), Val := x530.Val } : Item)]))) :: (pto b538 (.cells #[.int .i64 (x520.At.tmod ((w64 (a0)).tmod 60)), .int .i64 x530.Val] 80 (0, 0))) :: (pto b9 (.cells #[.int .i64 0, .slice none 0 0] 42 (0, 0))) :: ex) r (fun _ _ => (.s (.s (.s .z)))) r trivial (.e 16 (by kernel_rfl) (by kernel_rfl) (by kernel_rfl) (.sub (E' := [(1, _), (4, _), (5, _), (7, _), (32, _), (33, _), (34, _), (35, _), (36, _), (37, _), (38, _), (39, _), (40, _), (41, _), (42, _), (43, _), (44, _), (45, _), (46, _), (47, _), (48, _)]) ⟨r, r, r, r, r, r, r, r, r, r, r, r, r, r, r, r, r, r, r, r, r, trivial⟩ (.skips 1 r (.nilS [6, 7, 5, 4, 1] r r (.drop (.s .z) (.region (.skips 1 r (.add r r r r (.sub (E' := [(1, _), (4, _), (5, _), (6, _), (25, _), (26, _)]) ⟨r, r, r, r, r, r, trivial⟩ ?_)))))))))
           exact .skips 1 r (.nil' fun c w ho hs => ⟨((s483 ++ ([({ At := x520.At.tmod ((w64 (a0)).tmod 60), Val := x530.Val } : Item)])), w64 (s487 + 1)), hd, I490, _, _, le492, ho.sub ⟨r, r, r, r, r, trivial⟩, hs.pick (.c (.s .z) (.c .z .n))⟩)
         exact .skipS [7, 6, 5, 4, 1] r r (.region (.skips 1 r (.add r r r r (.sub (E' := [(1, _), (4, _), (5, _), (6, _), (25, _), (26, _)]) ⟨r, r, r, r, r, r, trivial⟩ (.skips 1 r (.nil' fun c w ho hs => ⟨(s483, w64 (s487 + 1)), hd, I490, _, _, le492, ho.sub ⟨r, r, r, r, r, trivial⟩, hs.pick (.c .z (.c .z .n))⟩))))))
       exact .exit fun c w ho hs => ⟨s483, hd, I490, _, _, le492, ho.sub ⟨r, r, r, trivial⟩, hs.pick (.c .z (.c .z .n))⟩
     rw [hb497]
     exact .skips 3 r (.nilS [24, 7, 6, 5, 4, 1] r r (.condKF r r (.exit fun c w ho hs => ⟨s483, hd, I490, _, _, le492, ho.sub ⟨r, r, r, trivial⟩, hs.pick (.c .z (.c .z .n))⟩)))
   rw [hb496]
   exact .skips 7 r (.nilS [24, 7, 6, 5, 4, 1] r r (.condKF r r (.exit fun c w ho hs => ⟨s483, hd, I490, _, _, le492, ho.sub ⟨r, r, r, trivial⟩, hs.pick (.c .z (.c .z .n))⟩)))
 rintro s363 hd c w hst
 obtain ⟨I544, p364, c365, hl545, hok, hsym⟩ := hst
 have le546 := IH.le.trans (.refl _) hl545
 refine Cod.at hok hsym (.seq (.region (.skips 2 r (.pub (.s .z) fun I547 hl548 R549 => ?_))))
 have le550 := IH.le.trans le546 hl548
 have hw560 := W_ref09_Of (I := I547) R549 hd
 refine .call call53 r hw560 r r fun v555 I552 hl553 hv554 => ?_
 obtain ⟨r551, p557, c558, rfl, R559, hd⟩ := hv554
 have le561 := IH.le.trans le550 hl553
 replace R549 := R549.mono hl553
 refine .skips 1 r (.extract r r r r (.extract r r r r (.allocA zeroValue42 r r fun b562 => ?_)))
 exact .storeA sizeOf42 r r .z (.t (.t .nil)) r r (.skips 1 r (.nilS [8, 4] r r (.seq (.region (.loadW isAgg42 sizeOf42 r .z r r r (.storeA sizeOf42 r r (.s .z) (.t (.t .nil)) r r (.nilS [4] r r (.drop .z (.ret (pret results20 (.w isAgg42 sizeOf42 r .z r .n) le561 ⟨r551.1, _, _, r, R559, hd⟩))))))))))

theorem W_ref09_Right {I : IH} {a0 : Vec} {p1 : Option Addr} {c2 : Nat} {Q : Bool → Prop} (R3 : RepSl eItem I p1 c2 a0.Items) (hd : ref09_Right a0 Q) :
    PFun Tryz.prog 37 [.agg #[.int .i64 a0.N, .slice p1 a0.Items.length c2]] I (fun I_ v => ∃ r, v = .bool r ∧ Q r) := by
 refine Fun.enter func37 r ntmps37 r (.c .n) fun w0 M => ?_
 refine .seq (.region (.boxA r r r fun b6 => ?_))
 refine .skips 1 r (.nilS [1] r r (.seq (.seq (.region (.fieldAddr underlying42 r sizeOf3 r (o := 0) r r r (.load1 isAgg3 r .z r r r (.lt r r r r (.skips 1 r ?_))))))))
 refine splitP hd (fun hb10 hd => ?_) fun hb10 hd => ?_
 · rw [hb10]
   exact .skips 4 r (.nilS [11, 1] r r (.condKT r r (.seq (.region (.skips 1 r (.nilS [2] r r (.drop .z (.ret (pret results37 (.t r .n) (.refl _) ⟨false, r, hd⟩)))))))))
 rw [hb10]
 refine .gyes r r r (.fieldAddr underlying42 r sizeOf3 r (o := 0) r r r (.gyes r r r (.load1 isAgg3 r .z r r r (.gyes r r r (.gt r r r r (.skips 1 r (.nilS [11, 1] r r (.condP r hd (fun hb11 hd => ?_) fun hb11 hd => ?_))))))))
 · exact .seq (.region (.skips 1 r (.nilS [2] r r (.drop .z (.ret (pret results37 (.t r .n) (.refl _) ⟨false, r, hd⟩))))))
 refine .skipS [1] r r (.seq (.seq (.region (.skips 1 r (.nilS [3, 1] r r (.block (.loop hd (fun (s79 : Int) c w => ∃ I_, IH.le I I_ ∧ Ok ⟨57, [], none⟩ [(1, .pointer (some ⟨b6, 0, none⟩)), (3, .int .i64 s79)] c ∧ Sym w0 M I I_ [pto b6 (.cells #[.int .i64 a0.N, .slice p1 a0.Items.length c2] 42 (0, 0))] w) (fun c w ho hs => ⟨I, (.refl _), ho.sub ⟨r, r, trivial⟩, hs.pick (.c .z .n)⟩) ?_)))))))
 rintro s79 next80 hd c w hst
 obtain ⟨I81, hl82, hok, hsym⟩ := hst
 have le83 := IH.le.trans (.refl _) hl82
 replace R3 := R3.mono hl82
 refine Cod.at hok hsym (.seq (.seq (.region (.skips 1 r (.fieldAddr underlying42 r sizeOf32 r (o := 1) r r r (.load1 isAgg32 r .z r r r (.len underlying32 r r r r (.lt r r r r (.nilS [16, 3, 1] r r ?_)))))))))
 refine .condP r hd (fun hb85 hd => ?_) fun hb85 hd => ?_
 · refine .skipS [3, 1] r r (.seq (.block (.seq (.draw [some 0, some 1, some 2, some 3, some 4, some 5, some 6, some 7, some 8, some 9, some 10, some 11, some 12, some 13, some 14, some 15, some 16, some 17, some 18, some 19, some 20, some 21, some 22, some 23, some 24, some 25, some 26, some 27, some 28, some 29, some 30, some 31, some 32, some 33, some 34, some 35, some 36, some 37] 38 MX (by kernel_rfl) (by kernel_rfl) (by kernel_rfl) (by kernel_rfl) (by kernel_rfl) (by kernel_rfl) (by kernel_rfl) (fun ex => (pto b6 (.cells #[.int .i64 a0.N, .slice p1 a0.Items.length c2] 42 (0, 0))) :: ex) (fun _ _ => (.s .z)) r (.f [] r (by kernel_rfl) r r (fun ex => .fieldAddr underlying42 r sizeOf32 r (o := 1) r r r .mk) (.f [0] r (by kernel_rfl) r r (fun ex => .load1 isAgg32 r .z r r r .mk) (.fs [[]] r (by kernel_rfl) ?_)))))))
   obtain ⟨h86, x87, hx88, hd⟩ := hd
   obtain ⟨b89, o90, cs91, e92, hC93, hr94⟩ := R3.2 _ _ hx88
   cases hr94
   refine .f [1, 2] r (by kernel_rfl) r r (fun ex => .ixa underlying32 sizeOf80 r e92 r h86 (idx_lt hx88 h86) r r .mk) (.f [3] r (by kernel_rfl) r r (fun ex => .fieldAddr underlying80 r sizeOf3 r (o := o90 + s79.toNat * 2) r r r .mk) (.f [4] r (by kernel_rfl) r r (fun ex => .ld1 (j := 0) isAgg3 hC93 r r r r r .mk) (.f [5] r (by kernel_rfl) r r (fun ex => .lt r r r r .mk) (.fs [[6]] r (by kernel_rfl) ?_))))
   refine splitP hd (fun hb95 hd => ?_) fun hb95 hd => ?_
   · rw [hb95]
     exact .fs [[7], [8, 7], [7], [9, 10, 7], [11, 7], [12, 7], [7], [14, 7], [13, 15, 7], [7, 16], [17, 7], [18], [19, 18], [20, 18, 18], [21], [22, 21], [21], [23, 24, 21], [25, 21], [26, 21], [21], [28, 21], [21], [30, 21], [29, 31, 21], [32, 21], [33, 21], [27, 34, 21], [21, 35, 18], [18, 36]] r (by kernel_rfl) (.e 38 (by kernel_rfl) (by kernel_rfl) (by kernel_rfl) (.nilS [56, 3, 1] r r (.condKT r r (.seq (.region (.skips 1 r (.nilS [2] r r (.drop .z (.ret (pret results37 (.t r .n) le83 ⟨false, r, hd⟩))))))))))
   rw [hb95]
   refine .f [7] r (by kernel_rfl) r r (fun ex => .gyes r r r (.fieldAddr underlying42 r sizeOf32 r (o := 1) r r r .mk)) (.f [8, 7] r (by kernel_rfl) r r (fun ex => .gyes r r r (.load1 isAgg32 r .z r r r .mk)) (.fs [[7]] r (by kernel_rfl) ?_))
   obtain ⟨h96, x97, hx98, hd⟩ := hd
   obtain ⟨b99, o100, cs101, e102, hC103, hr104⟩ := R3.2 _ _ hx98
   cases hr104
   refine .f [9, 10, 7] r (by kernel_rfl) r r (fun ex => .gyes r r r (.ixa underlying32 sizeOf80 r e102 r h96 (idx_lt hx98 h96) r r .mk)) (.f [11, 7] r (by kernel_rfl) r r (fun ex => .gyes r r r (.fieldAddr underlying80 r sizeOf3 r (o := o100 + s79.toNat * 2) r r r .mk)) (.f [12, 7] r (by kernel_rfl) r r (fun ex => .gyes r r r (.ld1 (j := 0) isAgg3 hC103 r r r r r .mk)) (.f [7] r (by kernel_rfl) r r (fun ex => .gyes r r r (.fieldAddr underlying42 r sizeOf3 r (o := 0) r r r .mk)) (.f [14, 7] r (by kernel_rfl) r r (fun ex => .gyes r r r (.load1 isAgg3 r .z r r r .mk)) (.f [13, 15, 7] r (by kernel_rfl) r r (fun ex => .gyes r r r (.ge r r r r .mk)) (.fs [[7, 16], [17, 7]] r (by kernel_rfl) ?_))))))
   refine splitP hd (fun hb105 hd => ?_) fun hb105 hd => ?_
   · rw [hb105]
     exact .fs [[18], [19, 18], [20, 18, 18], [21], [22, 21], [21], [23, 24, 21], [25, 21], [26, 21], [21], [28, 21], [21], [30, 21], [29, 31, 21], [32, 21], [33, 21], [27, 34, 21], [21, 35, 18], [18, 36]] r (by kernel_rfl) (.e 38 (by kernel_rfl) (by kernel_rfl) (by kernel_rfl) (.nilS [56, 3, 1] r r (.condKT r r (.seq (.region (.skips 1 r (.nilS [2] r r (.drop .z (.ret (pret results37 (.t r .n) le83 ⟨false, r, hd⟩))))))))))
   rw [hb105]
   refine .fs [[18]] r (by kernel_rfl) (.f [19, 18] r (by kernel_rfl) r r (fun ex => .gyes r r r (.gt r r r r .mk)) (.fs [[20, 18, 18]] r (by kernel_rfl) ?_))
   refine splitP hd (fun hb106 hd => ?_) fun hb106 hd => ?_
   · rw [hb106]
     refine .f [21] r (by kernel_rfl) r r (fun ex => .gyes r r r (.fieldAddr underlying42 r sizeOf32 r (o := 1) r r r .mk)) (.f [22, 21] r (by kernel_rfl) r r (fun ex => .gyes r r r (.load1 isAgg32 r .z r r r .mk)) (.fs [[21]] r (by kernel_rfl) ?_))
     obtain ⟨h107, x108, hx109, hd⟩ := hd
     obtain ⟨b110, o111, cs112, e113, hC114, hr115⟩ := R3.2 _ _ hx109
     cases hr115
     refine .f [23, 24, 21] r (by kernel_rfl) r r (fun ex => .gyes r r r (.ixa underlying32 sizeOf80 r e113 r h107 (idx_lt hx109 h107) r r .mk)) (.f [25, 21] r (by kernel_rfl) r r (fun ex => .gyes r r r (.fieldAddr underlying80 r sizeOf3 r (o := o111 + s79.toNat * 2) r r r .mk)) (.f [26, 21] r (by kernel_rfl) r r (fun ex => .gyes r r r (.ld1 (j := 0) isAgg3 hC114 r r r r r .mk)) (.f [21] r (by kernel_rfl) r r (fun ex => .gyes r r r (.fieldAddr underlying42 r sizeOf32 r (o := 1) r r r .mk)) (.f [28, 21] r (by kernel_rfl) r r (fun ex => .gyes r r r (.load1 isAgg32 r .z r r r .mk)) (.fs [[21]] r (by kernel_rfl) (.f [30, 21] r (by kernel_rfl) r r (fun ex => .gyes r r r (.sub' r r r r .mk)) ?_))))))
     obtain ⟨h116, x117, hx118, hd⟩ := hd
     obtain ⟨b119, o120, cs121, e122, hC123, hr124⟩ := R3.2 _ _ hx118
     cases hr124
     refine .f [29, 31, 21] r (by kernel_rfl) r r (fun ex => .gyes r r r (.ixa underlying32 sizeOf80 r e122 r h116 (idx_lt hx118 h116) r r .mk)) (.f [32, 21] r (by kernel_rfl) r r (fun ex => .gyes r r r (.fieldAddr underlying80 r sizeOf3 r (o := o120 + (w64 (s79 - 1)).toNat * 2) r r r .mk)) (.f [33, 21] r (by kernel_rfl) r r (fun ex => .gyes r r r (.ld1 (j := 0) isAgg3 hC123 r r r r r .mk)) (.f [27, 34, 21] r (by kernel_rfl) r r (fun ex => .gyes r r r (.le' r r r r .mk)) (.fs [[21, 35, 18], [18, 36]] r (by kernel_rfl) (.e 38 (by kernel_rfl) (by kernel_rfl) (by kernel_rfl) (.nilS [56, 3, 1] r r (.condP r hd (fun hb125 hd => ?_) fun hb125 hd => ?_)))))))
     · exact .seq (.region (.skips 1 r (.nilS [2] r r (.drop .z (.ret (pret results37 (.t r .n) le83 ⟨false, r, hd⟩))))))
     exact .skipS [3, 1] r r (.region (.skips 1 r (.add r r r r (.sub (E' := [(1, _), (17, _), (18, _)]) ⟨r, r, r, trivial⟩ (.skips 1 r (.nil' fun c w ho hs => ⟨(w64 (s79 + 1)), hd, I81, le83, ho.sub ⟨r, r, trivial⟩, hs.pick (.c .z .n)⟩))))))
   rw [hb106]
   refine .fs [[21], [22, 21], [21], [23, 24, 21], [25, 21], [26, 21], [21], [28, 21], [21], [30, 21], [29, 31, 21], [32, 21], [33, 21], [27, 34, 21], [21, 35, 18], [18, 36]] r (by kernel_rfl) (.e 38 (by kernel_rfl) (by kernel_rfl) (by kernel_rfl) (.nilS [56, 3, 1] r r (.condKF r r (.skipS [3, 1] r r (.region (.skips 1 r (.add r r r r (.sub (E' := [(1, _), (17, _), (18, _)]) ⟨r, r, r, trivial⟩ (.skips 1 r ?_)))))))))
   exact .nil' fun c w ho hs => ⟨(w64 (s79 + 1)), hd, I81, le83, ho.sub ⟨r, r, trivial⟩, hs.pick (.c .z .n)⟩
 exact .exitS [] r r (.drop .z (.seq (.region (.skips 1 r (.nilS [2] r r (.ret (pret results37 (.t r .n) le83 ⟨true, r, hd⟩)))))))

theorem W_ref09_Sure {I : IH} {a0 : Vec} {p1 : Option Addr} {c2 : Nat} {Q : Vec → Prop} (R3 : RepSl eItem I p1 c2 a0.Items) (hd : ref09_Sure a0 Q) :
    PFun Tryz.prog 14 [.agg #[.int .i64 a0.N, .slice p1 a0.Items.length c2]] I (fun I_ v => ∃ r p4 c5, v = .agg #[.int .i64 r.N, .slice p4 r.Items.length c5] ∧ RepSl eItem I_ p4 c5 r.Items ∧ Q r) := by
 refine Fun.enter func14 r ntmps14 r (.c .n) fun w0 M => ?_
 refine .seq (.region (.boxA r r r fun b11 => ?_))
 refine .allocA zeroValue42 r r fun b13 => ?_
 refine .nilS [2, 1] r r (.seq (.seq (.region (.loadW isAgg42 sizeOf42 r (.s .z) r r r ?_))))
 have hw16 := W_ref09_Right (I := I) R3 hd
 refine .callP call37 r hw16 r r fun v17 hv18 => ?_
 obtain ⟨r15, rfl, hd⟩ := hv18
 refine .nilS [4, 2, 1] r r (.condP r hd (fun hb19 hd => ?_) fun hb19 hd => ?_)
 · exact .seq (.region (.loadW isAgg42 sizeOf42 r (.s .z) r r r (.storeA sizeOf42 r r .z (.t (.t .nil)) r r (.nilS [2] r r (.drop (.s .z) (.ret (pret results14 (.w isAgg42 sizeOf42 r .z r .n) (.refl _) ⟨a0, _, _, r, R3, hd⟩)))))))
 exact .skipS [2] r r (.drop (.s .z) (.seq (.region (.build zeroValue42 underlying42 BI42 .n (by exact trivial) r r (.storeA sizeOf42 r r .z (.t (.t .nil)) r r (.nilS [2] r r (.ret (pret results14 (.w isAgg42 sizeOf42 r .z r .n) (.refl _) ⟨({ N := 0, Items := ([] : List Item) } : Vec), _, _, r, (.nil _ _ _), hd⟩))))))))

theorem W_ref03_words {I : IH} {a0 : Int}  {Q : Int → Prop}  (hd : ref03_words a0 Q) :
    PFun Tryz.prog 118 [.int .i64 a0] I (fun I_ v => ∃ r, v = .int .i64 r ∧ Q r) := by
 refine Fun.enter func118 r ntmps118 r (.c .n) fun w0 M => ?_
 refine .seq (.region (.skips 1 r (.nilS [0] r r (.seq ?_))))
 refine Cod.joinQ (σ := Int) hd (fun (s3 : Int) c w => ∃ I_, IH.le I I_ ∧ Ok ⟨10, [], none⟩ [(0, .int .i64 s3)] c ∧ Sym w0 M I I_ [] w) (fun k4 hd => ?_) ?_
 · skip
   refine .seq (.region (.skips 1 r (.gt r r r r (.nilS [4, 0] r r (.condP r hd (fun hb5 hd => ?_) fun hb5 hd => ?_)))))
   · exact .region (.sub (E' := [(4, _)]) ⟨r, trivial⟩ (.skips 1 r (.nil' fun c w ho hs => ⟨4096, hd, I, (.refl _), ho.sub ⟨r, trivial⟩, hs.pick .n⟩)))
   exact .skip' fun c w ho hs => ⟨a0, hd, I, (.refl _), ho.sub ⟨r, trivial⟩, hs.pick .n⟩
 rintro s3 hd c w hst
 obtain ⟨I6, hl7, hok, hsym⟩ := hst
 have le8 := IH.le.trans (.refl _) hl7
 refine Cod.at hok hsym (.seq (.seq (.region (.skips 1 r (.lt r r r r (.nilS [6, 0] r r (.condP r hd (fun hb9 hd => ?_) fun hb9 hd => ?_)))))))
 · exact .seq (.region (.skips 1 r (.nilS [2] r r (.ret (pret results118 (.t r .n) le8 ⟨0, r, hd⟩)))))
 exact .skipS [0] r r (.seq (.region (.skips 1 r (.add r r r r (.quo r r (by decide) r r (.skips 1 r (.nilS [2] r r (.ret (pret results118 (.t r .n) le8 ⟨(w64 ((w64 (s3 + 63)).tdiv 64)), r, hd⟩)))))))))

theorem W_ref03_New {I : IH} {a0 : Int}  {Q : (List Int) → Prop}  (hd : ref03_New a0 Q) :
    PFun Tryz.prog 85 [.int .i64 a0] I (fun I_ v => ∃ r p1 c2, v = .slice p1 r.length c2 ∧ RepSl eU64 I_ p1 c2 r ∧ Q r) := by
 refine Fun.enter func85 r ntmps85 r (.c .n) fun w0 M => ?_
 refine .seq (.region (.skips 1 r (.nilS [0] r r (.seq (.region (.skips 1 r ?_))))))
 have hw5 := W_ref03_words (I := I) hd
 refine .callP call118 r hw5 r r fun v6 hv7 => ?_
 obtain ⟨r4, rfl, hd⟩ := hv7
 obtain ⟨h8, h9, hd⟩ := hd
 refine .make (El := eU64) (zv := 0) 8 underlying33 IN81 r r r r r r h8 h9 r r r fun b10 => ?_
 refine .skips 1 r (.nilS [2] r r (.pub .z fun I13 hl14 R15 => ?_))
 have le16 := IH.le.trans (.refl _) hl14
 exact .ret (pret results85 (.t r .n) le16 ⟨(List.replicate r4.toNat 0), _, _, r, R15, hd⟩)

theorem W_ref10_New {I : IH} {a0 : Int}  {Q : Dense → Prop}  (hd : ref10_New a0 Q) :
    OFun Tryz.prog 51 [.int .i64 a0] I (fun I_ v l => ∃ r p1 c2 p4 c5, v = .agg #[.int .i64 r.N, .slice p1 r.Has.length c2, .slice p4 r.Vals.length c5] ∧ RepSl eU64 I_ p1 c2 r.Has ∧ l = [OwnSl eI64 2 p4 c5 r.Vals] ∧ Q r) := by
 refine Fun.enter func51 r ntmps51 r (.c .n) fun w0 M => ?_
 refine .seq (.region (.allocA zeroValue53 r r fun b9 => ?_))
 refine .nilS [2, 0] r r (.seq (.seq (.region (.skips 1 r (.lt r r r r (.skips 1 r ?_))))))
 refine splitP hd (fun hb11 hd => ?_) fun hb11 hd => ?_
 · rw [hb11]
   refine .skips 3 r (.nilS [8, 2, 0] r r (.condKT r r (.region (.sub (E' := [(2, _), (8, _)]) ⟨r, r, trivial⟩ (.skips 1 r (.nilS [0, 2] r r (.seq (.draw [some 0, some 1, some 3, some 4, some 2, none, some 5] 6 MX (by kernel_rfl) (by kernel_rfl) (by kernel_rfl) (by kernel_rfl) (by kernel_rfl) (by kernel_rfl) (by kernel_rfl) (fun ex => (pto b9 (.cells #[.int .i64 0, .slice none 0 0, .slice none 0 0] 53 (0, 0))) :: ex) (fun _ _ => (.s .z)) r (.fs [[], [], []] r (by kernel_rfl) ?_)))))))))
   obtain ⟨h13, h14, hd⟩ := hd
   refine .a (fun b => .slice (some ⟨b, 0, none⟩) (List.replicate (Int.toNat 0) (0 : Int)).length (Int.toNat 0)) (fun b => OwnSl eI64 2 (some ⟨b, 0, none⟩) (Int.toNat 0) (List.replicate (Int.toNat 0) (0 : Int))) r r r r (fun _ L hL ex => .make (El := eI64) (zv := 0) 8 underlying37 IN2 r r r r r r h13 h14 r r r fun b => .mk (val := fun b => .slice (some ⟨b, 0, none⟩) (List.replicate (Int.toNat 0) (0 : Int)).length (Int.toNat 0)) (atom := fun b => OwnSl eI64 2 (some ⟨b, 0, none⟩) (Int.toNat 0) (List.replicate (Int.toNat 0) (0 : Int))) hL b) (.w [3, 0] [[]] [1] r (by kernel_rfl) (by kernel_rfl) (by kernel_rfl) ((dropE_kept r r)) (.inr (dropE_kept r r)) fun ex => ?_)
   have hw24 := W_ref03_New (I := I) hd
   refine .call call85 r hw24 r r fun v19 I16 hl17 hv18 => ?_
   obtain ⟨r15, p21, c22, rfl, R23, hd⟩ := hv18
   have le25 := IH.le.trans (.refl _) hl17
   exact .some (fun ex => (pto b9 (.cells #[.int .i64 0, .slice none 0 0, .slice none 0 0] 53 (0, 0))) :: ex) r (fun _ _ => (.s .z)) r (.ccs [[], []] r r (by kernel_rfl) trivial) (.b r fun b26 => DrawD.nop (.f [0, 2, 4] r (by kernel_rfl) r r (fun ex => .build zeroValue53 underlying53 BI53 (.c r r r (.t .nil) (.c r r r (.s (.t .nil)) (.c r r r (.s (.s (.t .nil))) .n))) (by exact ⟨⟨_, _, r, r, r⟩, ⟨⟨_, _, r, r, r⟩, ⟨⟨_, _, r, r, r⟩, trivial⟩⟩⟩) r r .mk) (.e 6 (by kernel_rfl) (by kernel_rfl) (by kernel_rfl) (.storeA sizeOf53 r r .z (.t (.t (.t .nil))) r r (.nilS [2] r r (.ret (oret results51 (.w isAgg53 sizeOf53 r .z r .n) le25 (.c (.s .z) .n) ⟨({ N := 0, Has := r15, Vals := (List.replicate (Int.toNat 0) (0 : Int)) } : Dense), _, _, _, _, r, R23, r, hd⟩)))))))
 rw [hb11]
 refine .gyes r r r (.move r r r (.gyes r r r (.gt r r r r (.skips 1 r (.nilS [8, 2, 0] r r (.condP r hd (fun hb27 hd => ?_) fun hb27 hd => ?_))))))
 · refine .region (.sub (E' := [(2, _), (8, _)]) ⟨r, r, trivial⟩ (.skips 1 r (.nilS [0, 2] r r (.seq (.draw [some 0, some 1, some 3, some 4, some 2, none, some 5] 6 MX (by kernel_rfl) (by kernel_rfl) (by kernel_rfl) (by kernel_rfl) (by kernel_rfl) (by kernel_rfl) (by kernel_rfl) (fun ex => (pto b9 (.cells #[.int .i64 0, .slice none 0 0, .slice none 0 0] 53 (0, 0))) :: ex) (fun _ _ => (.s .z)) r (.fs [[], [], []] r (by kernel_rfl) ?_))))))
   obtain ⟨h29, h30, hd⟩ := hd
   refine .a (fun b => .slice (some ⟨b, 0, none⟩) (List.replicate (Int.toNat 0) (0 : Int)).length (Int.toNat 0)) (fun b => OwnSl eI64 2 (some ⟨b, 0, none⟩) (Int.toNat 0) (List.replicate (Int.toNat 0) (0 : Int))) r r r r (fun _ L hL ex => .make (El := eI64) (zv := 0) 8 underlying37 IN2 r r r r r r h29 h30 r r r fun b => .mk (val := fun b => .slice (some ⟨b, 0, none⟩) (List.replicate (Int.toNat 0) (0 : Int)).length (Int.toNat 0)) (atom := fun b => OwnSl eI64 2 (some ⟨b, 0, none⟩) (Int.toNat 0) (List.replicate (Int.toNat 0) (0 : Int))) hL b) (.w [3, 0] [[]] [1] r (by kernel_rfl) (by kernel_rfl) (by kernel_rfl) ((dropE_kept r r)) (.inr (dropE_kept r r)) fun ex => ?_)
   have hw40 := W_ref03_New (I := I) hd
   refine .call call85 r hw40 r r fun v35 I32 hl33 hv34 => ?_
   obtain ⟨r31, p37, c38, rfl, R39, hd⟩ := hv34
   have le41 := IH.le.trans (.refl _) hl33
   exact .some (fun ex => (pto b9 (.cells #[.int .i64 0, .slice none 0 0, .slice none 0 0] 53 (0, 0))) :: ex) r (fun _ _ => (.s .z)) r (.ccs [[], []] r r (by kernel_rfl) trivial) (.b r fun b42 => DrawD.nop (.f [0, 2, 4] r (by kernel_rfl) r r (fun ex => .build zeroValue53 underlying53 BI53 (.c r r r (.t .nil) (.c r r r (.s (.t .nil)) (.c r r r (.s (.s (.t .nil))) .n))) (by exact ⟨⟨_, _, r, r, r⟩, ⟨⟨_, _, r, r, r⟩, ⟨⟨_, _, r, r, r⟩, trivial⟩⟩⟩) r r .mk) (.e 6 (by kernel_rfl) (by kernel_rfl) (by kernel_rfl) (.storeA sizeOf53 r r .z (.t (.t (.t .nil))) r r (.nilS [2] r r (.ret (oret results51 (.w isAgg53 sizeOf53 r .z r .n) le41 (.c (.s .z) .n) ⟨({ N := 0, Has := r31, Vals := (List.replicate (Int.toNat 0) (0 : Int)) } : Dense), _, _, _, _, r, R39, r, hd⟩)))))))
 refine .skipS [2, 0] r r (.seq (.draw [some 0, some 1, some 3, some 4, some 2, none, some 5] 6 MX (by kernel_rfl) (by kernel_rfl) (by kernel_rfl) (by kernel_rfl) (by kernel_rfl) (by kernel_rfl) (by kernel_rfl) (fun ex => (pto b9 (.cells #[.int .i64 0, .slice none 0 0, .slice none 0 0] 53 (0, 0))) :: ex) (fun _ _ => (.s .z)) r (.fs [[], [], []] r (by kernel_rfl) ?_)))
 obtain ⟨h44, h45, hd⟩ := hd
 refine .a (fun b => .slice (some ⟨b, 0, none⟩) (List.replicate a0.toNat (0 : Int)).length a0.toNat) (fun b => OwnSl eI64 2 (some ⟨b, 0, none⟩) a0.toNat (List.replicate a0.toNat (0 : Int))) r r r r (fun _ L hL ex => .make (El := eI64) (zv := 0) 8 underlying37 IN2 r r r r r r h44 h45 r r r fun b => .mk (val := fun b => .slice (some ⟨b, 0, none⟩) (List.replicate a0.toNat (0 : Int)).length a0.toNat) (atom := fun b => OwnSl eI64 2 (some ⟨b, 0, none⟩) a0.toNat (List.replicate a0.toNat (0 : Int))) hL b) (.w [3, 0] [[]] [1] r (by kernel_rfl) (by kernel_rfl) (by kernel_rfl) ((dropE_kept r r)) (.inr (dropE_kept r r)) fun ex => ?_)
 have hw55 := W_ref03_New (I := I) hd
 refine .call call85 r hw55 r r fun v50 I47 hl48 hv49 => ?_
 obtain ⟨r46, p52, c53, rfl, R54, hd⟩ := hv49
 have le56 := IH.le.trans (.refl _) hl48
 exact .some (fun ex => (pto b9 (.cells #[.int .i64 0, .slice none 0 0, .slice none 0 0] 53 (0, 0))) :: ex) r (fun _ _ => (.s .z)) r (.ccs [[], []] r r (by kernel_rfl) trivial) (.b r fun b57 => DrawD.nop (.f [0, 2, 4] r (by kernel_rfl) r r (fun ex => .build zeroValue53 underlying53 BI53 (.c r r r (.t .nil) (.c r r r (.s (.t .nil)) (.c r r r (.s (.s (.t .nil))) .n))) (by exact ⟨⟨_, _, r, r, r⟩, ⟨⟨_, _, r, r, r⟩, ⟨⟨_, _, r, r, r⟩, trivial⟩⟩⟩) r r .mk) (.e 6 (by kernel_rfl) (by kernel_rfl) (by kernel_rfl) (.storeA sizeOf53 r r .z (.t (.t (.t .nil))) r r (.nilS [2] r r (.ret (oret results51 (.w isAgg53 sizeOf53 r .z r .n) le56 (.c (.s .z) .n) ⟨({ N := a0, Has := r46, Vals := (List.replicate a0.toNat (0 : Int)) } : Dense), _, _, _, _, r, R54, r, hd⟩)))))))

theorem W_ref03_set {I : IH} {a0 : List Int} {a1 : Int} {a2 : Bool} {p1 : Option Addr} {c2 : Nat} {Q : (List Int) → Prop} (R3 : RepSl eU64 I p1 c2 a0) (hd : ref03_set a0 a1 a2 Q) :
    PFun Tryz.prog 119 [.slice p1 a0.length c2, .int .i64 a1, .bool a2] I (fun I_ v => ∃ r p4 c5, v = .slice p4 r.length c5 ∧ RepSl eU64 I_ p4 c5 r ∧ Q r) := by
 refine Fun.enter func119 r ntmps119 r (.c (.c (.c .n))) fun w0 M => ?_
 refine .seq (.region (.skips 1 r (.nilS [2, 1, 0] r r (.seq (.region (.skips 1 r (.nilS [7, 2, 1, 0] r r (.seq (.region ?_)))))))))
 refine .skips 2 r (.own0 eU64 81 ?_)
 obtain ⟨hl13, hd⟩ := hd
 refine .append (ys := a0) 8 .z underlying33 underlying33 IN81 r r r r r r r r r (.imm R3 r) hl13 r r fun p14 c15 => ?_
 refine .sub (E' := [(0, _), (1, _), (2, _), (9, _), (10, _), (11, _)]) ⟨r, r, r, r, r, r, trivial⟩ (.skips 1 r (.nilS [7, 2, 1, 0] r r (.seq (.seq (.region (.skips 1 r (.lt r r r r (.skips 1 r ?_))))))))
 refine splitP hd (fun hb19 hd => ?_) fun hb19 hd => ?_
 · rw [hb19]
   refine .skips 6 r (.nilS [20, 7, 2, 1] r r (.condKT r r (.seq (.region (.skips 2 r (.nilS [6] r r (.pub .z fun I20 hl21 R22 => ?_)))))))
   have le23 := IH.le.trans (.refl _) hl21
   exact .ret (pret results119 (.t r .n) le23 ⟨(([] : List Int) ++ a0), _, _, r, R22, hd⟩)
 rw [hb19]
 refine .gyes r r r (.move r r r (.gyes r r r (.quo r r (by decide) r r (.gyes r r r (.move r r r (.gyes r r r (.len underlying33 r r r r (.gyes r r r (.ge r r r r (.skips 1 r (.nilS [20, 7, 2, 1] r r (.condP r hd (fun hb24 hd => ?_) fun hb24 hd => ?_))))))))))))
 · refine .seq (.region (.skips 2 r (.nilS [6] r r (.pub .z fun I25 hl26 R27 => ?_))))
   have le28 := IH.le.trans (.refl _) hl26
   exact .ret (pret results119 (.t r .n) le28 ⟨(([] : List Int) ++ a0), _, _, r, R27, hd⟩)
 refine .skipS [7, 2, 1] r r (.seq (.region (.skips 1 r (.rem r r (by decide) r r (.conv underlying3 underlying125 r r r ?_)))))
 obtain ⟨hz30, hd⟩ := hd
 refine .shl' r r hz30 r r (.skips 1 r (.nilS [8, 7, 2, 1] r r (.seq (.seq (.region (.skips 1 r (.nilS [26, 8, 7, 1] r r (.condP r hd (fun hb31 hd => ?_) fun hb31 hd => ?_))))))))
 · refine .region (.skips 2 r (.quo r r (by decide) r r (.skips 2 r (.quo r r (by decide) r r ?_))))
   obtain ⟨h32, x33, hx34, hd⟩ := hd
   refine .ownNe .z (idx_ne hx34) fun b35 e36 => ?_
   cases e36
   refine .ixa0 underlying33 sizeOf81 r r h32 (idx_lt hx34 h32) r r (.lo1 (j := 0) isAgg81 .z hx34 r r r r r (.skips 1 r (.or r r r r ?_)))
   obtain ⟨h37, x38, hx39, hd⟩ := hd
   refine .ixa0 underlying33 sizeOf81 r r h37 (idx_lt hx39 h37) r r (.stO1 (j := 0) (v' := (bor .u64 x33 (shl .u64 1 (IntKind.wrap .u64 (a1.tmod 64))))) sizeOf81 .z hx39 r r r (.t .nil) r (.sub (E' := [(1, _), (7, .slice (some ⟨b35, 0, none⟩) ((([] : List Int) ++ a0).set ((w64 (a1.tdiv 64)).toNat) (bor .u64 x33 (shl .u64 1 (IntKind.wrap .u64 (a1.tmod 64))))).length c15), (8, _), (26, _), (27, .slice (some ⟨b35, 0, none⟩) ((([] : List Int) ++ a0).set ((w64 (a1.tdiv 64)).toNat) (bor .u64 x33 (shl .u64 1 (IntKind.wrap .u64 (a1.tmod 64))))).length c15), (28, _), (29, _), (30, .slice (some ⟨b35, 0, none⟩) ((([] : List Int) ++ a0).set ((w64 (a1.tdiv 64)).toNat) (bor .u64 x33 (shl .u64 1 (IntKind.wrap .u64 (a1.tmod 64))))).length c15), (31, _), (32, _), (33, _), (34, _), (35, _), (36, _), (37, _)]) ⟨r, (by simp only [List.length_set]; rfl), r, r, (by simp only [List.length_set]; rfl), r, r, (by simp only [List.length_set]; rfl), r, r, r, r, r, r, r, trivial⟩ (.nilS [7] r r (.seq (.region (.skips 2 r (.nilS [6] r r (.pub .z fun I40 hl41 R42 => ?_))))))))
   have le43 := IH.le.trans (.refl _) hl41
   exact .ret (pret results119 (.t r .n) le43 ⟨((([] : List Int) ++ a0).set ((w64 (a1.tdiv 64)).toNat) (bor .u64 x33 (shl .u64 1 (IntKind.wrap .u64 (a1.tmod 64))))), _, _, r, R42, hd⟩)
 refine .region (.skips 2 r (.quo r r (by decide) r r (.skips 2 r (.quo r r (by decide) r r ?_))))
 obtain ⟨h44, x45, hx46, hd⟩ := hd
 refine .ownNe .z (idx_ne hx46) fun b47 e48 => ?_
 cases e48
 refine .ixa0 underlying33 sizeOf81 r r h44 (idx_lt hx46 h44) r r (.lo1 (j := 0) isAgg81 .z hx46 r r r r r (.skips 1 r (.andNot r r r r ?_)))
 obtain ⟨h49, x50, hx51, hd⟩ := hd
 refine .ixa0 underlying33 sizeOf81 r r h49 (idx_lt hx51 h49) r r (.stO1 (j := 0) (v' := (bandn .u64 x45 (shl .u64 1 (IntKind.wrap .u64 (a1.tmod 64))))) sizeOf81 .z hx51 r r r (.t .nil) r (.sub (E' := [(1, _), (7, .slice (some ⟨b47, 0, none⟩) ((([] : List Int) ++ a0).set ((w64 (a1.tdiv 64)).toNat) (bandn .u64 x45 (shl .u64 1 (IntKind.wrap .u64 (a1.tmod 64))))).length c15), (8, _), (26, _), (38, .slice (some ⟨b47, 0, none⟩) ((([] : List Int) ++ a0).set ((w64 (a1.tdiv 64)).toNat) (bandn .u64 x45 (shl .u64 1 (IntKind.wrap .u64 (a1.tmod 64))))).length c15), (39, _), (40, _), (41, .slice (some ⟨b47, 0, none⟩) ((([] : List Int) ++ a0).set ((w64 (a1.tdiv 64)).toNat) (bandn .u64 x45 (shl .u64 1 (IntKind.wrap .u64 (a1.tmod 64))))).length c15), (42, _), (43, _), (44, _), (45, _), (46, _), (47, _), (48, _)]) ⟨r, (by simp only [List.length_set]; rfl), r, r, (by simp only [List.length_set]; rfl), r, r, (by simp only [List.length_set]; rfl), r, r, r, r, r, r, r, trivial⟩ (.nilS [7] r r (.seq (.region (.skips 2 r (.nilS [6] r r (.pub .z fun I52 hl53 R54 => ?_))))))))
 have le55 := IH.le.trans (.refl _) hl53
 exact .ret (pret results119 (.t r .n) le55 ⟨((([] : List Int) ++ a0).set ((w64 (a1.tdiv 64)).toNat) (bandn .u64 x45 (shl .u64 1 (IntKind.wrap .u64 (a1.tmod 64))))), _, _, r, R54, hd⟩)

theorem W_ref03_Put {I : IH} {a0 : List Int} {a1 : Int} {p1 : Option Addr} {c2 : Nat} {Q : (List Int) → Prop} (R3 : RepSl eU64 I p1 c2 a0) (hd : ref03_Put a0 a1 Q) :
    PFun Tryz.prog 86 [.slice p1 a0.length c2, .int .i64 a1] I (fun I_ v => ∃ r p4 c5, v = .slice p4 r.length c5 ∧ RepSl eU64 I_ p4 c5 r ∧ Q r) := by
 refine Fun.enter func86 r ntmps86 r (.c (.c .n)) fun w0 M => ?_
 refine .seq (.region (.skips 1 r (.nilS [1, 0] r r (.seq (.region (.skips 2 r ?_))))))
 have hw16 := W_ref03_set (I := I) R3 hd
 refine .call call119 r hw16 r r fun v11 I8 hl9 hv10 => ?_
 obtain ⟨r7, p13, c14, rfl, R15, hd⟩ := hv10
 have le17 := IH.le.trans (.refl _) hl9
 replace R3 := R3.mono hl9
 exact .skips 1 r (.nilS [4] r r (.ret (pret results86 (.t r .n) le17 ⟨r7, _, _, r, R15, hd⟩)))

theorem W_ref03_Of {I : IH} {a0 : Int} {a1 : List Int} {p1 : Option Addr} {c2 : Nat} {Q : (List Int) → Prop} (R3 : RepSl eI64 I p1 c2 a1) (hd : ref03_Of a0 a1 Q) :
    PFun Tryz.prog 52 [.int .i64 a0, .slice p1 a1.length c2] I (fun I_ v => ∃ r p4 c5, v = .slice p4 r.length c5 ∧ RepSl eU64 I_ p4 c5 r ∧ Q r) := by
 refine Fun.enter func52 r ntmps52 r (.c (.c .n)) fun w0 M => ?_
 refine .seq (.region (.skips 1 r (.nilS [1, 0] r r (.seq (.region (.skips 1 r ?_))))))
 have hw27 := W_ref03_New (I := I) hd
 refine .call call85 r hw27 r r fun v22 I19 hl20 hv21 => ?_
 obtain ⟨r18, p24, c25, rfl, R26, hd⟩ := hv21
 have le28 := IH.le.trans (.refl _) hl20
 replace R3 := R3.mono hl20
 refine .skips 1 r (.nilS [5, 1, 0] r r (.seq (.seq (.region (.skips 1 r (.nilS [6, 5, 1, 0] r r (.block (.loop hd (fun (s : (List Int) × Int) c w => match s with | (s150, s154) => ∃ I_ p151 c152, IH.le I19 I_ ∧ RepSl eU64 I_ p151 c152 s150 ∧ Ok ⟨42, [], none⟩ [(0, .int .i64 a0), (1, .slice p1 a1.length c2), (5, .slice p151 s150.length c152), (6, .int .i64 s154)] c ∧ Sym w0 M I I_ [] w) (fun c w ho hs => ⟨I19, _, _, (.refl _), R26, ho.sub ⟨r, r, r, r, trivial⟩, hs.pick .n⟩) ?_))))))))
 rintro ⟨s150, s154⟩ next155 hd c w hst
 obtain ⟨I156, p151, c152, hl157, R153, hok, hsym⟩ := hst
 have le158 := IH.le.trans le28 hl157
 have le159 := IH.le.trans (.refl _) hl157
 replace R3 := R3.mono hl157
 refine Cod.at hok hsym (.seq (.seq (.region (.skips 2 r (.len underlying36 r r r r (.lt r r r r (.nilS [12, 6, 5, 1, 0] r r (.condP r hd (fun hb161 hd => ?_) fun hb161 hd => ?_))))))))
 · refine .skipS [6, 5, 1, 0] r r (.seq (.block (.seq (.region (.skips 2 r ?_)))))
   obtain ⟨h162, x163, hx164, hd⟩ := hd
   obtain ⟨b165, o166, cs167, e168, hC169, hr170⟩ := R3.2 _ _ hx164
   cases hr170
   refine .ixa underlying36 sizeOf3 r e168 r h162 (idx_lt hx164 h162) r r (.ld1 (j := 0) isAgg3 hC169 r r r r r (.ge r r r r (.skips 1 r ?_)))
   refine splitP hd (fun hb171 hd => ?_) fun hb171 hd => ?_
   · rw [hb171]
     refine .gyes r r r (.move r r r (.gyes r r r (.move r r r ?_)))
     obtain ⟨h172, x173, hx174, hd⟩ := hd
     obtain ⟨b175, o176, cs177, e178, hC179, hr180⟩ := R3.2 _ _ hx174
     cases hr180
     refine .gyes r r r (.ixa underlying36 sizeOf3 r e178 r h172 (idx_lt hx174 h172) r r (.gyes r r r (.ld1 (j := 0) isAgg3 hC179 r r r r r (.gyes r r r (.move r r r (.gyes r r r (.lt r r r r (.skips 2 r ?_))))))))
     refine splitP hd (fun hb181 hd => ?_) fun hb181 hd => ?_
     · rw [hb181]
       refine .gyes r r r (.move r r r (.gyes r r r (.move r r r ?_)))
       obtain ⟨h182, x183, hx184, hd⟩ := hd
       obtain ⟨b185, o186, cs187, e188, hC189, hr190⟩ := R3.2 _ _ hx184
       cases hr190
       refine .gyes r r r (.ixa underlying36 sizeOf3 r e188 r h182 (idx_lt hx184 h182) r r (.gyes r r r (.ld1 (j := 0) isAgg3 hC189 r r r r r (.gyes r r r (.lt r r r r (.skips 1 r (.nilS [34, 6, 5, 1, 0] r r (.condP r hd (fun hb191 hd => ?_) fun hb191 hd => ?_))))))))
       · refine .region (.skips 3 r ?_)
         obtain ⟨h192, x193, hx194, hd⟩ := hd
         obtain ⟨b195, o196, cs197, e198, hC199, hr200⟩ := R3.2 _ _ hx194
         cases hr200
         refine .ixa underlying36 sizeOf3 r e198 r h192 (idx_lt hx194 h192) r r (.ld1 (j := 0) isAgg3 hC199 r r r r r ?_)
         have hw210 := W_ref03_Put (I := I156) R153 hd
         refine .call call86 r hw210 r r fun v205 I202 hl203 hv204 => ?_
         obtain ⟨r201, p207, c208, rfl, R209, hd⟩ := hv204
         have le211 := IH.le.trans le158 hl203
         have le212 := IH.le.trans le159 hl203
         replace R3 := R3.mono hl203
         replace R153 := R153.mono hl203
         replace hC199 := hC199.mono hl203
         exact .sub (E' := [(0, _), (1, _), (6, _), (34, _), (35, _), (36, _), (37, _), (38, _), (39, _), (40, _)]) ⟨r, r, r, r, r, r, r, r, r, r, trivial⟩ (.skips 1 r (.nilS [5, 6, 1, 0] r r (.region (.skips 1 r (.add r r r r (.sub (E' := [(0, _), (1, _), (5, _), (13, _), (14, _)]) ⟨r, r, r, r, r, trivial⟩ (.skips 1 r (.nil' fun c w ho hs => ⟨(r201, w64 (s154 + 1)), hd, I202, _, _, le212, R209, ho.sub ⟨r, r, r, r, trivial⟩, hs.pick .n⟩))))))))
       exact .skipS [6, 5, 1, 0] r r (.region (.skips 1 r (.add r r r r (.sub (E' := [(0, _), (1, _), (5, _), (13, _), (14, _)]) ⟨r, r, r, r, r, trivial⟩ (.skips 1 r (.nil' fun c w ho hs => ⟨(s150, w64 (s154 + 1)), hd, I156, _, _, le159, R153, ho.sub ⟨r, r, r, r, trivial⟩, hs.pick .n⟩))))))
     rw [hb181]
     exact .skips 6 r (.nilS [34, 6, 5, 1, 0] r r (.condKF r r (.skipS [6, 5, 1, 0] r r (.region (.skips 1 r (.add r r r r (.sub (E' := [(0, _), (1, _), (5, _), (13, _), (14, _)]) ⟨r, r, r, r, r, trivial⟩ (.skips 1 r (.nil' fun c w ho hs => ⟨(s150, w64 (s154 + 1)), hd, I156, _, _, le159, R153, ho.sub ⟨r, r, r, r, trivial⟩, hs.pick .n⟩)))))))))
   rw [hb171]
   exact .skips 14 r (.nilS [34, 6, 5, 1, 0] r r (.condKF r r (.skipS [6, 5, 1, 0] r r (.region (.skips 1 r (.add r r r r (.sub (E' := [(0, _), (1, _), (5, _), (13, _), (14, _)]) ⟨r, r, r, r, r, trivial⟩ (.skips 1 r (.nil' fun c w ho hs => ⟨(s150, w64 (s154 + 1)), hd, I156, _, _, le159, R153, ho.sub ⟨r, r, r, r, trivial⟩, hs.pick .n⟩)))))))))
 exact .exitS [5] r r (.seq (.region (.skips 2 r (.nilS [4] r r (.ret (pret results52 (.t r .n) le158 ⟨s150, _, _, r, R153, hd⟩))))))

theorem W_ref10_Of {I : IH} {a0 : Vec} {p1 : Option Addr} {c2 : Nat} {Q : Dense → Prop} (R3 : RepSl eItem I p1 c2 a0.Items) (hd : ref10_Of a0 Q) :
    PFun Tryz.prog 19 [.agg #[.int .i64 a0.N, .slice p1 a0.Items.length c2]] I (fun I_ v => ∃ r p4 c5 p7 c8, v = .agg #[.int .i64 r.N, .slice p4 r.Has.length c5, .slice p7 r.Vals.length c8] ∧ RepSl eU64 I_ p4 c5 r.Has ∧ RepSl eI64 I_ p7 c8 r.Vals ∧ Q r) := by
 refine Fun.enter func19 r ntmps19 r (.c .n) fun w0 M => ?_
 refine .seq (.region (.boxA r r r fun b14 => ?_))
 refine .allocA zeroValue53 r r fun b16 => ?_
 refine .nilS [2, 1] r r (.seq (.region (.loadW isAgg42 sizeOf42 r (.s .z) r r r ?_)))
 have hw38 := W_ref09_Sure (I := I) R3 hd
 refine .call call14 r hw38 r r fun v33 I30 hl31 hv32 => ?_
 obtain ⟨r29, p35, c36, rfl, R37, hd⟩ := hv32
 have le39 := IH.le.trans (.refl _) hl31
 replace R3 := R3.mono hl31
 refine .storeA sizeOf42 r r (.s .z) (.t (.t .nil)) r r (.nilS [2, 1] r r (.seq (.region (.fieldAddr underlying42 r sizeOf3 r (o := 0) r r r (.load1 isAgg3 r (.s .z) r r r ?_)))))
 have hw70 := W_ref10_New (I := I30) hd
 refine .callO call51 r hw70 r r fun v61 I58 l62 hl59 hv60 => ?_
 obtain ⟨r57, p63, c64, p66, c67, rfl, R65, rfl, hd⟩ := hv60
 have le71 := IH.le.trans le39 hl59
 replace R37 := R37.mono hl59
 refine .allocA zeroValue53 r r fun b72 => ?_
 refine .storeA sizeOf53 r r .z (.t (.t (.t .nil))) r r (.nilS [3, 2, 1] r r (.seq (.region (.skips 1 r (.nilS [4, 3, 2, 1] r r (.seq (.seq (.region (.skips 1 r ?_)))))))))
 refine .nilS [5, 4, 3, 2, 1] r r (.block (.own0 eI64 3 (.loop hd (fun (s : (List Int) × (List Int) × Int) c w => match s with | (s432, s436, s440) => ∃ I_ p433 c434 p437 c438, IH.le I58 I_ ∧ Ok ⟨48, [], none⟩ [(1, .pointer (some ⟨b14, 0, none⟩)), (2, .pointer (some ⟨b16, 0, none⟩)), (3, .pointer (some ⟨b72, 0, none⟩)), (4, .slice p437 s436.length c438), (5, .int .i64 s440)] c ∧ Sym w0 M I I_ [pto b14 (.cells #[.int .i64 r29.N, .slice p35 r29.Items.length c36] 42 (0, 0)), pto b16 (.cells #[.int .i64 0, .slice none 0 0, .slice none 0 0] 53 (0, 0)), pto b72 (.cells #[.int .i64 r57.N, .slice p63 r57.Has.length c64, .slice p433 s432.length c434] 53 (0, 0)), OwnSl eI64 2 p433 c434 s432, OwnSl eI64 3 p437 c438 s436] w) (fun c w ho hs => ⟨I58, _, _, _, _, (.refl _), ho.sub ⟨r, r, r, r, r, trivial⟩, hs.pick (.c (.s (.s (.s (.s .z)))) (.c (.s (.s (.s .z))) (.c (.s .z) (.c (.s .z) (.c .z .n)))))⟩) ?_)))
 rintro ⟨s432, s436, s440⟩ next442 hd c w hst
 obtain ⟨I443, p433, c434, p437, c438, hl444, hok, hsym⟩ := hst
 have le445 := IH.le.trans le71 hl444
 have le446 := IH.le.trans (.refl _) hl444
 replace R37 := R37.mono hl444
 replace R65 := R65.mono hl444
 refine Cod.at hok hsym (.seq (.seq (.region (.skips 1 r (.fieldAddr underlying42 r sizeOf32 r (o := 1) r r r (.load1 isAgg32 r .z r r r (.len underlying32 r r r r (.lt r r r r (.nilS [15, 5, 4, 3, 2, 1] r r ?_)))))))))
 refine .condP r hd (fun hb448 hd => ?_) fun hb448 hd => ?_
 · refine .skipS [5, 4, 3, 2, 1] r r (.seq (.block (.seq (.region (.skips 1 r (.fieldAddr underlying42 r sizeOf32 r (o := 1) r r r (.load1 isAgg32 r .z r r r (.skips 1 r ?_))))))))
   obtain ⟨h464, x465, hx466, hd⟩ := hd
   obtain ⟨b467, o468, cs469, e470, hC471, hr472⟩ := R37.2 _ _ hx466
   cases hr472
   refine .ixa underlying32 sizeOf80 r e470 r h464 (idx_lt hx466 h464) r r (.fieldAddr underlying80 r sizeOf3 r (o := o468 + s440.toNat * 2) r r r (.ld1 (j := 0) isAgg3 hC471 r r r r r (.buildSlice 1 underlying36 sizeOf3 zeroValue3 r r (.c r r r .n) r r fun b473 => ?_)))
   obtain ⟨hl475, hd⟩ := hd
   refine .append (ys := [x465.At]) 8 (.s (.s (.s (.s (.s .z))))) underlying36 underlying36 IN3 r r r r r r r r r (.box .z (.one r) r) hl475 r r fun p476 c477 => ?_
   refine .sub (E' := [(1, _), (2, _), (3, _), (5, _), (18, _), (19, _), (20, _), (21, _), (22, _), (23, _), (24, _), (25, _), (26, _)]) ⟨r, r, r, r, r, r, r, r, r, r, r, r, r, trivial⟩ (.skips 1 r (.nilS [4, 5, 3, 2, 1] r r (.drop (.s .z) (.ownF .z fun hne479 => ?_))))
   refine .ownF (.s (.s (.s (.s .z)))) fun hne480 => ?_
   refine .draw [some 0, some 1, some 2, some 3, some 4, some 5, some 6, some 7, some 8, some 9, some 10, some 11, some 12, some 13] 14 MX (by kernel_rfl) (by kernel_rfl) (by kernel_rfl) (by kernel_rfl) (by kernel_rfl) (by kernel_rfl) (by kernel_rfl) (fun ex => (OwnSl eI64 3 p476 c477 (s436 ++ ([x465.At]))) :: (pto b14 (.cells #[.int .i64 r29.N, .slice p35 r29.Items.length c36] 42 (0, 0))) :: (pto b16 (.cells #[.int .i64 0, .slice none 0 0, .slice none 0 0] 53 (0, 0))) :: (pto b72 (.cells #[.int .i64 r57.N, .slice p63 r57.Has.length c64, .slice p433 s432.length c434] 53 (0, 0))) :: (OwnSl eI64 2 p433 c434 s432) :: ex) (fun _ _ => (.s (.s (.s (.s (.s .z)))))) r (.f [] r (by kernel_rfl) r r (fun ex => .fieldAddr underlying53 r sizeOf37 r (o := 2) r r r .mk) (.f [0] r (by kernel_rfl) r r (fun ex => .load1 isAgg37 r (.s (.s (.s .z))) r r r .mk) (.f [] r (by kernel_rfl) r r (fun ex => .fieldAddr underlying42 r sizeOf32 r (o := 1) r r r .mk) (.f [2] r (by kernel_rfl) r r (fun ex => .load1 isAgg32 r (.s .z) r r r .mk) (.fs [[]] r (by kernel_rfl) ?_)))))
   obtain ⟨h481, x482, hx483, hd⟩ := hd
   obtain ⟨b484, o485, cs486, e487, hC488, hr489⟩ := R37.2 _ _ hx483
   cases hr489
   refine .f [3, 4] r (by kernel_rfl) r r (fun ex => .ixa underlying32 sizeOf80 r e487 r h481 (idx_lt hx483 h481) r r .mk) (.f [5] r (by kernel_rfl) r r (fun ex => .fieldAddr underlying80 r sizeOf3 r (o := o485 + s440.toNat * 2) r r r .mk) (.f [6] r (by kernel_rfl) r r (fun ex => .ld1 (j := 0) isAgg3 hC488 r r r r r .mk) (.f [] r (by kernel_rfl) r r (fun ex => .fieldAddr underlying42 r sizeOf32 r (o := 1) r r r .mk) (.f [8] r (by kernel_rfl) r r (fun ex => .load1 isAgg32 r (.s .z) r r r .mk) (.fs [[]] r (by kernel_rfl) ?_)))))
   obtain ⟨h490, x491, hx492, hd⟩ := hd
   obtain ⟨b493, o494, cs495, e496, hC497, hr498⟩ := R37.2 _ _ hx492
   cases hr498
   refine .f [9, 10] r (by kernel_rfl) r r (fun ex => .ixa underlying32 sizeOf80 r e496 r h490 (idx_lt hx492 h490) r r .mk) (.f [11] r (by kernel_rfl) r r (fun ex => .fieldAddr underlying80 r sizeOf2 r (o := o494 + s440.toNat * 2 + 1) r r r .mk) (.f [12] r (by kernel_rfl) r r (fun ex => .ld1 (j := 1) isAgg2 hC497 r r r r r .mk) (.e 14 (by kernel_rfl) (by kernel_rfl) (by kernel_rfl) ?_)))
   obtain ⟨h499, x500, hx501, hd⟩ := hd
   obtain ⟨b502, e503⟩ := hne480 (idx_ne hx501)
   cases e503
   refine .ixa0 underlying37 sizeOf2 r r h499 (idx_lt hx501 h499) r r (.stO1 (j := 0) (v' := x491.Val) sizeOf2 (.s (.s (.s (.s .z)))) hx501 r r r (.t .nil) r (.sub (E' := [(1, _), (2, _), (3, _), (5, _), (4, _), (27, _), (28, .slice (some ⟨b502, 0, none⟩) (s432.set x482.At.toNat x491.Val).length c434), (29, _), (30, _), (31, _), (32, _), (33, _), (34, _), (35, _), (36, _), (37, _), (38, _), (39, _), (40, _), (41, _)]) ⟨r, r, r, r, r, r, (by simp only [List.length_set]; rfl), r, r, r, r, r, r, r, r, r, r, r, r, r, trivial⟩ (.reat (.s (.s (.s .z))) (B := pto b72 (.cells #[.int .i64 r57.N, .slice p63 r57.Has.length c64, .slice (some ⟨b502, 0, none⟩) (s432.set x482.At.toNat x491.Val).length c434] 53 (0, 0))) (by simp only [List.length_set]) (.nilS [4, 5, 3, 2, 1] r r (.region (.skips 1 r (.add r r r r (.sub (E' := [(1, _), (2, _), (3, _), (4, _), (16, _), (17, _)]) ⟨r, r, r, r, r, r, trivial⟩ (.skips 1 r ?_)))))))))
   exact .nil' fun c w ho hs => ⟨((s432.set x482.At.toNat x491.Val), (s436 ++ ([x465.At])), w64 (s440 + 1)), hd, I443, _, _, _, _, le446, ho.sub ⟨r, r, r, r, r, trivial⟩, hs.pick (.c (.s .z) (.c (.s .z) (.c (.s .z) (.c (.s .z) (.c .z .n)))))⟩
 refine .exitS [4, 3, 2, 1] r r (.seq (.region (.fieldAddr underlying42 r sizeOf3 r (o := 0) r r r (.load1 isAgg3 r .z r r r (.skips 1 r (.pub (.s (.s (.s (.s .z)))) fun I504 hl505 R506 => ?_))))))
 have le507 := IH.le.trans le445 hl505
 have le508 := IH.le.trans le446 hl505
 replace R37 := R37.mono hl505
 replace R65 := R65.mono hl505
 have hw518 := W_ref03_Of (I := I504) R506 hd
 refine .call call52 r hw518 r r fun v513 I510 hl511 hv512 => ?_
 obtain ⟨r509, p515, c516, rfl, R517, hd⟩ := hv512
 have le519 := IH.le.trans le507 hl511
 have le520 := IH.le.trans le508 hl511
 replace R37 := R37.mono hl511
 replace R65 := R65.mono hl511
 replace R506 := R506.mono hl511
 refine .fieldAddr underlying53 r sizeOf33 r (o := 1) r r r (.store1 sizeOf33 r r (.s (.s .z)) (.s (.t .nil)) r (.nilS [3, 2] r r (.drop .z (.seq (.region (.loadW isAgg53 sizeOf53 r (.s .z) r r r (.storeA sizeOf53 r r .z (.t (.t (.t .nil))) r r (.nilS [2] r r (.drop (.s .z) ?_)))))))))
 refine .pub (.s .z) fun I521 hl522 R523 => ?_
 have le524 := IH.le.trans le519 hl522
 have le525 := IH.le.trans le520 hl522
 replace R517 := R517.mono hl522
 exact .ret (pret results19 (.w isAgg53 sizeOf53 r .z r .n) le524 ⟨({ N := r57.N, Has := r509, Vals := s432 } : Dense), _, _, _, _, r, R517, R523, hd⟩)

theorem W_ref03_Same {I : IH} {a0 : List Int} {a1 : List Int} {p1 : Option Addr} {c2 : Nat} {p4 : Option Addr} {c5 : Nat} {Q : Bool → Prop} (R3 : RepSl eU64 I p1 c2 a0) (R6 : RepSl eU64 I p4 c5 a1) (hd : ref03_Same a0 a1 Q) :
    PFun Tryz.prog 59 [.slice p1 a0.length c2, .slice p4 a1.length c5] I (fun I_ v => ∃ r, v = .bool r ∧ Q r) := by
 refine Fun.enter func59 r ntmps59 r (.c (.c .n)) fun w0 M => ?_
 refine .seq (.region (.skips 1 r (.nilS [1, 0] r r (.seq (.seq (.region (.skips 1 r (.len underlying33 r r r r (.skips 1 r ?_)))))))))
 refine .len underlying33 r r r r (.ne r r r r (.nilS [10, 1, 0] r r (.condP r hd (fun hb8 hd => ?_) fun hb8 hd => ?_)))
 · exact .seq (.region (.skips 1 r (.nilS [4] r r (.ret (pret results59 (.t r .n) (.refl _) ⟨false, r, hd⟩)))))
 refine .skipS [1, 0] r r (.seq (.seq (.region (.skips 1 r (.nilS [5, 1, 0] r r (.block (.loop hd (fun (s54 : Int) c w => ∃ I_, IH.le I I_ ∧ Ok ⟨26, [], none⟩ [(0, .slice p1 a0.length c2), (1, .slice p4 a1.length c5), (5, .int .i64 s54)] c ∧ Sym w0 M I I_ [] w) (fun c w ho hs => ⟨I, (.refl _), ho.sub ⟨r, r, r, trivial⟩, hs.pick .n⟩) ?_)))))))
 rintro s54 next55 hd c w hst
 obtain ⟨I56, hl57, hok, hsym⟩ := hst
 have le58 := IH.le.trans (.refl _) hl57
 replace R3 := R3.mono hl57
 replace R6 := R6.mono hl57
 refine Cod.at hok hsym (.seq (.seq (.region (.skips 2 r (.len underlying33 r r r r (.lt r r r r (.nilS [14, 5, 1, 0] r r (.condP r hd (fun hb60 hd => ?_) fun hb60 hd => ?_))))))))
 · refine .skipS [5, 1, 0] r r (.seq (.block (.seq (.draw [some 0, some 1, some 2, some 3, some 4, some 5, some 6, some 7, some 8] 9 MX (by kernel_rfl) (by kernel_rfl) (by kernel_rfl) (by kernel_rfl) (by kernel_rfl) (by kernel_rfl) (by kernel_rfl) (fun ex => ex) (fun _ _ => .z) r (.fs [[], []] r (by kernel_rfl) ?_)))))
   obtain ⟨h61, x62, hx63, hd⟩ := hd
   obtain ⟨b64, o65, cs66, e67, hC68, hr69⟩ := R3.2 _ _ hx63
   cases hr69
   refine .f [0, 1] r (by kernel_rfl) r r (fun ex => .ixa underlying33 sizeOf81 r e67 r h61 (idx_lt hx63 h61) r r .mk) (.f [2] r (by kernel_rfl) r r (fun ex => .ld1 (j := 0) isAgg81 hC68 r r r r r .mk) (.fs [[], []] r (by kernel_rfl) ?_))
   obtain ⟨h70, x71, hx72, hd⟩ := hd
   obtain ⟨b73, o74, cs75, e76, hC77, hr78⟩ := R6.2 _ _ hx72
   cases hr78
   refine .f [4, 5] r (by kernel_rfl) r r (fun ex => .ixa underlying33 sizeOf81 r e76 r h70 (idx_lt hx72 h70) r r .mk) (.f [6] r (by kernel_rfl) r r (fun ex => .ld1 (j := 0) isAgg81 hC77 r r r r r .mk) (.f [3, 7] r (by kernel_rfl) r r (fun ex => .ne r r r r .mk) (.e 9 (by kernel_rfl) (by kernel_rfl) (by kernel_rfl) (.nilS [25, 5, 1, 0] r r (.condP r hd (fun hb79 hd => ?_) fun hb79 hd => ?_)))))
   · exact .seq (.region (.skips 1 r (.nilS [4] r r (.ret (pret results59 (.t r .n) le58 ⟨false, r, hd⟩)))))
   exact .skipS [5, 1, 0] r r (.region (.skips 1 r (.add r r r r (.sub (E' := [(0, _), (1, _), (15, _), (16, _)]) ⟨r, r, r, r, trivial⟩ (.skips 1 r (.nil' fun c w ho hs => ⟨(w64 (s54 + 1)), hd, I56, le58, ho.sub ⟨r, r, r, trivial⟩, hs.pick .n⟩))))))
 exact .exitS [] r r (.seq (.region (.skips 1 r (.nilS [4] r r (.ret (pret results59 (.t r .n) le58 ⟨true, r, hd⟩))))))

theorem W_ref07_SameVals {I : IH} {a0 : List Int} {a1 : List Int} {p1 : Option Addr} {c2 : Nat} {p4 : Option Addr} {c5 : Nat} {Q : Bool → Prop} (R3 : RepSl eI64 I p1 c2 a0) (R6 : RepSl eI64 I p4 c5 a1) (hd : ref07_SameVals a0 a1 Q) :
    PFun Tryz.prog 60 [.slice p1 a0.length c2, .slice p4 a1.length c5] I (fun I_ v => ∃ r, v = .bool r ∧ Q r) := by
 refine Fun.enter func60 r ntmps60 r (.c (.c .n)) fun w0 M => ?_
 refine .seq (.region (.skips 1 r (.nilS [1, 0] r r (.seq (.seq (.region (.skips 1 r (.len underlying37 r r r r (.skips 1 r ?_)))))))))
 refine .len underlying37 r r r r (.ne r r r r (.nilS [10, 1, 0] r r (.condP r hd (fun hb8 hd => ?_) fun hb8 hd => ?_)))
 · exact .seq (.region (.skips 1 r (.nilS [4] r r (.ret (pret results60 (.t r .n) (.refl _) ⟨false, r, hd⟩)))))
 refine .skipS [1, 0] r r (.seq (.seq (.region (.skips 1 r (.nilS [5, 1, 0] r r (.block (.loop hd (fun (s54 : Int) c w => ∃ I_, IH.le I I_ ∧ Ok ⟨26, [], none⟩ [(0, .slice p1 a0.length c2), (1, .slice p4 a1.length c5), (5, .int .i64 s54)] c ∧ Sym w0 M I I_ [] w) (fun c w ho hs => ⟨I, (.refl _), ho.sub ⟨r, r, r, trivial⟩, hs.pick .n⟩) ?_)))))))
 rintro s54 next55 hd c w hst
 obtain ⟨I56, hl57, hok, hsym⟩ := hst
 have le58 := IH.le.trans (.refl _) hl57
 replace R3 := R3.mono hl57
 replace R6 := R6.mono hl57
 refine Cod.at hok hsym (.seq (.seq (.region (.skips 2 r (.len underlying37 r r r r (.lt r r r r (.nilS [14, 5, 1, 0] r r (.condP r hd (fun hb60 hd => ?_) fun hb60 hd => ?_))))))))
 · refine .skipS [5, 1, 0] r r (.seq (.block (.seq (.draw [some 0, some 1, some 2, some 3, some 4, some 5, some 6, some 7, some 8] 9 MX (by kernel_rfl) (by kernel_rfl) (by kernel_rfl) (by kernel_rfl) (by kernel_rfl) (by kernel_rfl) (by kernel_rfl) (fun ex => ex) (fun _ _ => .z) r (.fs [[], []] r (by kernel_rfl) ?_)))))
   obtain ⟨h61, x62, hx63, hd⟩ := hd
   obtain ⟨b64, o65, cs66, e67, hC68, hr69⟩ := R3.2 _ _ hx63
   cases hr69
   refine .f [0, 1] r (by kernel_rfl) r r (fun ex => .ixa underlying37 sizeOf2 r e67 r h61 (idx_lt hx63 h61) r r .mk) (.f [2] r (by kernel_rfl) r r (fun ex => .ld1 (j := 0) isAgg2 hC68 r r r r r .mk) (.fs [[], []] r (by kernel_rfl) ?_))
   obtain ⟨h70, x71, hx72, hd⟩ := hd
   obtain ⟨b73, o74, cs75, e76, hC77, hr78⟩ := R6.2 _ _ hx72
   cases hr78
   refine .f [4, 5] r (by kernel_rfl) r r (fun ex => .ixa underlying37 sizeOf2 r e76 r h70 (idx_lt hx72 h70) r r .mk) (.f [6] r (by kernel_rfl) r r (fun ex => .ld1 (j := 0) isAgg2 hC77 r r r r r .mk) (.f [3, 7] r (by kernel_rfl) r r (fun ex => .ne r r r r .mk) (.e 9 (by kernel_rfl) (by kernel_rfl) (by kernel_rfl) (.nilS [25, 5, 1, 0] r r (.condP r hd (fun hb79 hd => ?_) fun hb79 hd => ?_)))))
   · exact .seq (.region (.skips 1 r (.nilS [4] r r (.ret (pret results60 (.t r .n) le58 ⟨false, r, hd⟩)))))
   exact .skipS [5, 1, 0] r r (.region (.skips 1 r (.add r r r r (.sub (E' := [(0, _), (1, _), (15, _), (16, _)]) ⟨r, r, r, r, trivial⟩ (.skips 1 r (.nil' fun c w ho hs => ⟨(w64 (s54 + 1)), hd, I56, le58, ho.sub ⟨r, r, r, trivial⟩, hs.pick .n⟩))))))
 exact .exitS [] r r (.seq (.region (.skips 1 r (.nilS [4] r r (.ret (pret results60 (.t r .n) le58 ⟨true, r, hd⟩))))))

theorem W_ref10_Same {I : IH} {a0 : Dense} {a1 : Dense} {p1 : Option Addr} {c2 : Nat} {p4 : Option Addr} {c5 : Nat} {p7 : Option Addr} {c8 : Nat} {p10 : Option Addr} {c11 : Nat} {Q : Bool → Prop} (R3 : RepSl eU64 I p1 c2 a0.Has) (R6 : RepSl eI64 I p4 c5 a0.Vals) (R9 : RepSl eU64 I p7 c8 a1.Has) (R12 : RepSl eI64 I p10 c11 a1.Vals) (hd : ref10_Same a0 a1 Q) :
    PFun Tryz.prog 24 [.agg #[.int .i64 a0.N, .slice p1 a0.Has.length c2, .slice p4 a0.Vals.length c5], .agg #[.int .i64 a1.N, .slice p7 a1.Has.length c8, .slice p10 a1.Vals.length c11]] I (fun I_ v => ∃ r, v = .bool r ∧ Q r) := by
 refine Fun.enter func24 r ntmps24 r (.c (.c .n)) fun w0 M => ?_
 refine .seq (.region (.boxA r r r fun b17 => ?_))
 refine .boxA r r r fun b19 => ?_
 refine .skips 1 r (.nilS [3, 2] r r (.seq (.region (.fieldAddr underlying53 r sizeOf3 r (o := 0) r r r (.load1 isAgg3 r (.s .z) r r r (.fieldAddr underlying53 r sizeOf3 r (o := 0) r r r (.load1 isAgg3 r .z r r r (.eq r r r r (.skips 1 r ?_)))))))))
 refine splitP hd (fun hb21 hd => ?_) fun hb21 hd => ?_
 · rw [hb21]
   refine .gyes r r r (.fieldAddr underlying53 r sizeOf33 r (o := 1) r r r (.gyes r r r (.load1 isAgg33 r (.s .z) r r r (.gyes r r r (.fieldAddr underlying53 r sizeOf33 r (o := 1) r r r (.gyes r r r (.load1 isAgg33 r .z r r r ?_)))))))
   have hw23 := W_ref03_Same (I := I) R3 R9 hd
   refine .gyes r r r (.callP call59 r hw23 r r fun v24 hv25 => ?_)
   obtain ⟨r22, rfl, hd⟩ := hv25
   refine .skips 2 r ?_
   refine splitP hd (fun hb26 hd => ?_) fun hb26 hd => ?_
   · rw [hb26]
     refine .gyes r r r (.fieldAddr underlying53 r sizeOf37 r (o := 2) r r r (.gyes r r r (.load1 isAgg37 r (.s .z) r r r (.gyes r r r (.fieldAddr underlying53 r sizeOf37 r (o := 2) r r r (.gyes r r r (.load1 isAgg37 r .z r r r ?_)))))))
     have hw28 := W_ref07_SameVals (I := I) R6 R12 hd
     refine .gyes r r r (.callP call60 r hw28 r r fun v29 hv30 => ?_)
     obtain ⟨r27, rfl, hd⟩ := hv30
     exact .skips 2 r (.nilS [4] r r (.drop .z (.drop .z (.ret (pret results24 (.t r .n) (.refl _) ⟨r27, r, hd⟩)))))
   rw [hb26]
   exact .skips 7 r (.nilS [4] r r (.drop .z (.drop .z (.ret (pret results24 (.t r .n) (.refl _) ⟨false, r, hd⟩)))))
 rw [hb21]
 exact .skips 14 r (.nilS [4] r r (.drop .z (.drop .z (.ret (pret results24 (.t r .n) (.refl _) ⟨false, r, hd⟩)))))

theorem W_law16_PolicySizes {I : IH} {a0 : Int} {a1 : List Item} {a2 : Int} {p1 : Option Addr} {c2 : Nat} {Q : Bool → Prop} (R3 : RepSl eItem I p1 c2 a1) (hd : law16_PolicySizes a0 a1 a2 Q) :
    PFun Tryz.prog 5 [.int .u8 a0, .slice p1 a1.length c2, .int .i64 a2] I (fun I_ v => ∃ r, v = .bool r ∧ Q r) := by
 refine Fun.enter func5 r ntmps5 r (.c (.c (.c .n))) fun w0 M => ?_
 refine .seq (.region (.skips 1 r (.nilS [2, 1, 0] r r (.seq (.region (.skips 2 r ?_))))))
 have hw26 := W_law09_Some (I := I) R3 hd
 refine .call call20 r hw26 r r fun v21 I18 hl19 hv20 => ?_
 obtain ⟨r17, p23, c24, rfl, R25, hd⟩ := hv20
 have le27 := IH.le.trans (.refl _) hl19
 replace R3 := R3.mono hl19
 refine .allocA zeroValue42 r r fun b28 => ?_
 refine .storeA sizeOf42 r r .z (.t (.t .nil)) r r (.nilS [7, 2] r r (.seq (.draw [some 0, some 1, some 3, some 5, some 6, some 2, some 4, none, some 7] 8 MX (by kernel_rfl) (by kernel_rfl) (by kernel_rfl) (by kernel_rfl) (by kernel_rfl) (by kernel_rfl) (by kernel_rfl) (fun ex => (pto b28 (.cells #[.int .i64 r17.N, .slice p23 r17.Items.length c24] 42 (0, 0))) :: ex) (fun _ _ => (.s .z)) r (.fs [[]] r (by kernel_rfl) (.f [] r (by kernel_rfl) r r (fun ex => .loadW isAgg42 sizeOf42 r .z r r r .mk) (.f [] r (by kernel_rfl) r r (fun ex => .loadW isAgg42 sizeOf42 r .z r r r .mk) (.a (fun b => .pointer (some ⟨b, 0, none⟩)) (fun b => pto b (.cells #[.int .i64 0, .int .i64 0, .slice none 0 0, .int .i64 0, .slice none 0 0, .slice none 0 0] 55 (0, 0))) r r r r (fun _ L hL ex => .allocA zeroValue55 r r fun b => .mk (val := fun b => .pointer (some ⟨b, 0, none⟩)) (atom := fun b => pto b (.cells #[.int .i64 0, .int .i64 0, .slice none 0 0, .int .i64 0, .slice none 0 0, .slice none 0 0] 55 (0, 0))) hL b) (.a (fun b => .pointer (some ⟨b, 0, none⟩)) (fun b => pto b (.cells #[.int .i64 0, .int .i64 0, .slice none 0 0, .int .i64 0, .slice none 0 0, .slice none 0 0] 55 (0, 0))) r r r r (fun _ L hL ex => .allocA zeroValue55 r r fun b => .mk (val := fun b => .pointer (some ⟨b, 0, none⟩)) (atom := fun b => pto b (.cells #[.int .i64 0, .int .i64 0, .slice none 0 0, .int .i64 0, .slice none 0 0, .slice none 0 0] 55 (0, 0))) hL b) (.w [3] [[], []] [0, 1] r (by kernel_rfl) (by kernel_rfl) (by kernel_rfl) ((dropE_kept r r)) (.inr (dropE_kept r r)) fun ex => ?_)))))))))
 have hw85 := W_policy_Hold (I := I18) R25 hd
 refine .call call21 r hw85 r r fun v74 I71 hl72 hv73 => ?_
 obtain ⟨r70, p76, c77, p79, c80, p82, c83, rfl, R78, R81, R84, hd⟩ := hv73
 have le86 := IH.le.trans le27 hl72
 replace R25 := R25.mono hl72
 refine .some (fun ex => (pto b28 (.cells #[.int .i64 r17.N, .slice p23 r17.Items.length c24] 42 (0, 0))) :: ex) r (fun _ _ => (.s .z)) r (.cc [] r (by kernel_rfl) r r r (fun ex => .loadW isAgg42 sizeOf42 r .z r r r .mk) trivial) (.w [] [[]] [3, 2] r (by kernel_rfl) (by kernel_rfl) (by kernel_rfl) ((dropE_kept r r)) (.inr (dropE_kept r r)) fun ex => ?_)
 have hw102 := W_policy_Hold (I := I71) R25 hd
 refine .call call21 r hw102 r r fun v91 I88 hl89 hv90 => ?_
 obtain ⟨r87, p93, c94, p96, c97, p99, c100, rfl, R95, R98, R101, hd⟩ := hv90
 have le103 := IH.le.trans le86 hl89
 replace R25 := R25.mono hl89
 replace R78 := R78.mono hl89
 replace R81 := R81.mono hl89
 replace R84 := R84.mono hl89
 refine .some (fun ex => (pto b28 (.cells #[.int .i64 r17.N, .slice p23 r17.Items.length c24] 42 (0, 0))) :: ex) r (fun _ _ => (.s .z)) r trivial (.b r fun b104 b105 => DrawD.nop (.w [] [] [5, 2, 4, 0, 1, 2, 5, 6] r (by kernel_rfl) (by kernel_rfl) (by kernel_rfl) ((dropE_none r)) (.inr (dropE_none r)) fun ex => ?_))
 refine .storeA sizeOf55 r r (.s (.s .z)) (.t (.t (.t (.t (.t (.t .nil)))))) r r (.none (fun ex => (pto b28 (.cells #[.int .i64 r17.N, .slice p23 r17.Items.length c24] 42 (0, 0))) :: (pto b104 (.cells #[.int .i64 0, .int .i64 0, .slice none 0 0, .int .i64 0, .slice none 0 0, .slice none 0 0] 55 (0, 0))) :: (pto b105 (.cells #[.int .i64 r70.Form, .int .i64 r70.Vec.N, .slice p76 r70.Vec.Items.length c77, .int .i64 r70.Dense.N, .slice p79 r70.Dense.Has.length c80, .slice p82 r70.Dense.Vals.length c83] 55 (0, 0))) :: ex) r (fun _ _ => (.s (.s (.s .z)))) r trivial (.e 8 (by kernel_rfl) (by kernel_rfl) (by kernel_rfl) (.storeA sizeOf55 r r (.s .z) (.t (.t (.t (.t (.t (.t .nil)))))) r r (.nilS [8, 9, 7] r r (.seq (.draw [some 0, some 1, some 2, some 4, some 3, some 5, some 6, some 7, some 8, some 10, some 9, some 11, some 12, some 13, some 14, some 15, some 17, some 18, some 16, some 19, some 20, some 21, some 22, some 24, some 25, some 26, some 27, some 28, some 23, some 29, some 30] 31 MX (by kernel_rfl) (by kernel_rfl) (by kernel_rfl) (by kernel_rfl) (by kernel_rfl) (by kernel_rfl) (by kernel_rfl) (fun ex => (pto b28 (.cells #[.int .i64 r17.N, .slice p23 r17.Items.length c24] 42 (0, 0))) :: (pto b104 (.cells #[.int .i64 r87.Form, .int .i64 r87.Vec.N, .slice p93 r87.Vec.Items.length c94, .int .i64 r87.Dense.N, .slice p96 r87.Dense.Has.length c97, .slice p99 r87.Dense.Vals.length c100] 55 (0, 0))) :: (pto b105 (.cells #[.int .i64 r70.Form, .int .i64 r70.Vec.N, .slice p76 r70.Vec.Items.length c77, .int .i64 r70.Dense.N, .slice p79 r70.Dense.Has.length c80, .slice p82 r70.Dense.Vals.length c83] 55 (0, 0))) :: ex) (fun _ _ => (.s (.s (.s .z)))) r (.w [] [] [] r (by kernel_rfl) (by kernel_rfl) (by kernel_rfl) ((dropE_kept r r)) (.inr (dropE_kept r r)) fun ex => ?_)))))))
 have hw107 := W_law16_live (I := I88) hd
 refine .callP call7 r hw107 r r fun v108 hv109 => ?_
 obtain ⟨r106, rfl, hd⟩ := hv109
 refine .some (fun ex => (pto b28 (.cells #[.int .i64 r17.N, .slice p23 r17.Items.length c24] 42 (0, 0))) :: (pto b104 (.cells #[.int .i64 r87.Form, .int .i64 r87.Vec.N, .slice p93 r87.Vec.Items.length c94, .int .i64 r87.Dense.N, .slice p96 r87.Dense.Has.length c97, .slice p99 r87.Dense.Vals.length c100] 55 (0, 0))) :: (pto b105 (.cells #[.int .i64 r70.Form, .int .i64 r70.Vec.N, .slice p76 r70.Vec.Items.length c77, .int .i64 r70.Dense.N, .slice p79 r70.Dense.Has.length c80, .slice p82 r70.Dense.Vals.length c83] 55 (0, 0))) :: ex) r (fun _ _ => (.s (.s (.s .z)))) r trivial (.fs [[0, 0]] r (by kernel_rfl) ?_)
 refine splitP hd (fun hb110 hd => ?_) fun hb110 hd => ?_
 · refine .f [1] r (by kernel_rfl) r r (fun ex => .gyes r r hb110 (.loadW isAgg55 sizeOf55 r (.s (.s .z)) r r r .mk)) (.f [1] r (by kernel_rfl) r r (fun ex => .gyes r r hb110 (.loadW isAgg42 sizeOf42 r .z r r r .mk)) (.w [4] [[], []] [2, 1, 1] r (by kernel_rfl) (by kernel_rfl) (by kernel_rfl) ((dropE_kept r r)) (.inr (dropE_kept r r)) fun ex => ?_))
   have hw120 := W_policy_Vec (I := I88) R78 R81 R84 hd
   refine .gyes r r hb110 (.call call23 r hw120 r r fun v115 I112 hl113 hv114 => ?_)
   obtain ⟨r111, p117, c118, rfl, R119, hd⟩ := hv114
   have le121 := IH.le.trans le103 hl113
   replace R25 := R25.mono hl113
   replace R78 := R78.mono hl113
   replace R81 := R81.mono hl113
   replace R84 := R84.mono hl113
   replace R95 := R95.mono hl113
   replace R98 := R98.mono hl113
   replace R101 := R101.mono hl113
   refine .some (fun ex => (pto b28 (.cells #[.int .i64 r17.N, .slice p23 r17.Items.length c24] 42 (0, 0))) :: (pto b104 (.cells #[.int .i64 r87.Form, .int .i64 r87.Vec.N, .slice p93 r87.Vec.Items.length c94, .int .i64 r87.Dense.N, .slice p96 r87.Dense.Has.length c97, .slice p99 r87.Dense.Vals.length c100] 55 (0, 0))) :: (pto b105 (.cells #[.int .i64 r70.Form, .int .i64 r70.Vec.N, .slice p76 r70.Vec.Items.length c77, .int .i64 r70.Dense.N, .slice p79 r70.Dense.Has.length c80, .slice p82 r70.Dense.Vals.length c83] 55 (0, 0))) :: ex) r (fun _ _ => (.s (.s (.s .z)))) r (.cc [1] r (by kernel_rfl) r r r (fun ex => .gyes r r hb110 (.loadW isAgg42 sizeOf42 r .z r r r .mk)) trivial) (.w [] [[]] [3, 4, 3, 1] r (by kernel_rfl) (by kernel_rfl) (by kernel_rfl) ((dropE_kept r r)) (.inr (dropE_kept r r)) fun ex => ?_)
   have hw123 := W_ref09_Same (I := I112) R119 R25 hd
   refine .gyes r r hb110 (.callP call22 r hw123 r r fun v124 hv125 => ?_)
   obtain ⟨r122, rfl, hd⟩ := hv125
   refine .some (fun ex => (pto b28 (.cells #[.int .i64 r17.N, .slice p23 r17.Items.length c24] 42 (0, 0))) :: (pto b104 (.cells #[.int .i64 r87.Form, .int .i64 r87.Vec.N, .slice p93 r87.Vec.Items.length c94, .int .i64 r87.Dense.N, .slice p96 r87.Dense.Has.length c97, .slice p99 r87.Dense.Vals.length c100] 55 (0, 0))) :: (pto b105 (.cells #[.int .i64 r70.Form, .int .i64 r70.Vec.N, .slice p76 r70.Vec.Items.length c77, .int .i64 r70.Dense.N, .slice p79 r70.Dense.Has.length c80, .slice p82 r70.Dense.Vals.length c83] 55 (0, 0))) :: ex) r (fun _ _ => (.s (.s (.s .z)))) r trivial (.f [1, 5] r (by kernel_rfl) r r (fun ex => .pickT r hb110 r r r .mk) (.fs [[6, 5]] r (by kernel_rfl) ?_))
   refine splitP hd (fun hb126 hd => ?_) fun hb126 hd => ?_
   · refine .f [7] r (by kernel_rfl) r r (fun ex => .gyes r r hb126 (.loadW isAgg55 sizeOf55 r (.s (.s .z)) r r r .mk)) (.f [7] r (by kernel_rfl) r r (fun ex => .gyes r r hb126 (.loadW isAgg42 sizeOf42 r .z r r r .mk)) (.w [10] [[], [], [7]] [8, 7, 7] r (by kernel_rfl) (by kernel_rfl) (by kernel_rfl) ((dropE_kept r r)) (.inr (dropE_kept r r)) fun ex => ?_))
     have hw139 := W_policy_Dense (I := I112) R78 R81 R84 hd
     refine .gyes r r hb126 (.call call25 r hw139 r r fun v131 I128 hl129 hv130 => ?_)
     obtain ⟨r127, p133, c134, p136, c137, rfl, R135, R138, hd⟩ := hv130
     have le140 := IH.le.trans le121 hl129
     replace R25 := R25.mono hl129
     replace R78 := R78.mono hl129
     replace R81 := R81.mono hl129
     replace R84 := R84.mono hl129
     replace R95 := R95.mono hl129
     replace R98 := R98.mono hl129
     replace R101 := R101.mono hl129
     replace R119 := R119.mono hl129
     refine .some (fun ex => (pto b28 (.cells #[.int .i64 r17.N, .slice p23 r17.Items.length c24] 42 (0, 0))) :: (pto b104 (.cells #[.int .i64 r87.Form, .int .i64 r87.Vec.N, .slice p93 r87.Vec.Items.length c94, .int .i64 r87.Dense.N, .slice p96 r87.Dense.Has.length c97, .slice p99 r87.Dense.Vals.length c100] 55 (0, 0))) :: (pto b105 (.cells #[.int .i64 r70.Form, .int .i64 r70.Vec.N, .slice p76 r70.Vec.Items.length c77, .int .i64 r70.Dense.N, .slice p79 r70.Dense.Has.length c80, .slice p82 r70.Dense.Vals.length c83] 55 (0, 0))) :: ex) r (fun _ _ => (.s (.s (.s .z)))) r (.cc [7] r (by kernel_rfl) r r r (fun ex => .gyes r r hb126 (.loadW isAgg42 sizeOf42 r .z r r r .mk)) trivial) (.w [] [[]] [10, 9, 7] r (by kernel_rfl) (by kernel_rfl) (by kernel_rfl) ((dropE_kept r r)) (.inr (dropE_kept r r)) fun ex => ?_)
     have hw153 := W_ref10_Of (I := I128) R25 hd
     refine .gyes r r hb126 (.call call19 r hw153 r r fun v145 I142 hl143 hv144 => ?_)
     obtain ⟨r141, p147, c148, p150, c151, rfl, R149, R152, hd⟩ := hv144
     have le154 := IH.le.trans le140 hl143
     replace R25 := R25.mono hl143
     replace R78 := R78.mono hl143
     replace R81 := R81.mono hl143
     replace R84 := R84.mono hl143
     replace R95 := R95.mono hl143
     replace R98 := R98.mono hl143
     replace R101 := R101.mono hl143
     replace R119 := R119.mono hl143
     replace R135 := R135.mono hl143
     replace R138 := R138.mono hl143
     refine .some (fun ex => (pto b28 (.cells #[.int .i64 r17.N, .slice p23 r17.Items.length c24] 42 (0, 0))) :: (pto b104 (.cells #[.int .i64 r87.Form, .int .i64 r87.Vec.N, .slice p93 r87.Vec.Items.length c94, .int .i64 r87.Dense.N, .slice p96 r87.Dense.Has.length c97, .slice p99 r87.Dense.Vals.length c100] 55 (0, 0))) :: (pto b105 (.cells #[.int .i64 r70.Form, .int .i64 r70.Vec.N, .slice p76 r70.Vec.Items.length c77, .int .i64 r70.Dense.N, .slice p79 r70.Dense.Has.length c80, .slice p82 r70.Dense.Vals.length c83] 55 (0, 0))) :: ex) r (fun _ _ => (.s (.s (.s .z)))) r trivial (.w [] [] [9, 11, 11, 7] r (by kernel_rfl) (by kernel_rfl) (by kernel_rfl) ((dropE_kept r r)) (.inr (dropE_kept r r)) fun ex => ?_)
     have hw156 := W_ref10_Same (I := I142) R135 R138 R149 R152 hd
     refine .gyes r r hb126 (.callP call24 r hw156 r r fun v157 hv158 => ?_)
     obtain ⟨r155, rfl, hd⟩ := hv158
     refine .some (fun ex => (pto b28 (.cells #[.int .i64 r17.N, .slice p23 r17.Items.length c24] 42 (0, 0))) :: (pto b104 (.cells #[.int .i64 r87.Form, .int .i64 r87.Vec.N, .slice p93 r87.Vec.Items.length c94, .int .i64 r87.Dense.N, .slice p96 r87.Dense.Has.length c97, .slice p99 r87.Dense.Vals.length c100] 55 (0, 0))) :: (pto b105 (.cells #[.int .i64 r70.Form, .int .i64 r70.Vec.N, .slice p76 r70.Vec.Items.length c77, .int .i64 r70.Dense.N, .slice p79 r70.Dense.Has.length c80, .slice p82 r70.Dense.Vals.length c83] 55 (0, 0))) :: ex) r (fun _ _ => (.s (.s (.s .z)))) r trivial (.f [7, 12] r (by kernel_rfl) r r (fun ex => .pickT r hb126 r r r .mk) (.fs [[13, 12]] r (by kernel_rfl) ?_))
     refine splitP hd (fun hb159 hd => ?_) fun hb159 hd => ?_
     · refine .f [14] r (by kernel_rfl) r r (fun ex => .gyes r r hb159 (.loadW isAgg55 sizeOf55 r (.s (.s .z)) r r r .mk)) (.f [14] r (by kernel_rfl) r r (fun ex => .gyes r r hb159 (.fieldAddr underlying42 r sizeOf3 r (o := 0) r r r .mk)) (.f [17, 14] r (by kernel_rfl) r r (fun ex => .gyes r r hb159 (.load1 isAgg3 r .z r r r .mk)) (.w [18, 17] [[], [], [14]] [15, 14, 14] r (by kernel_rfl) (by kernel_rfl) (by kernel_rfl) ((dropE_kept r r)) (.inr (dropE_kept r r)) fun ex => ?_)))
       have hw161 := W_policy_Size (I := I142) R78 R81 R84 hd
       refine .gyes r r hb159 (.callP call26 r hw161 r r fun v162 hv163 => ?_)
       obtain ⟨r160, rfl, hd⟩ := hv163
       refine .some (fun ex => (pto b28 (.cells #[.int .i64 r17.N, .slice p23 r17.Items.length c24] 42 (0, 0))) :: (pto b104 (.cells #[.int .i64 r87.Form, .int .i64 r87.Vec.N, .slice p93 r87.Vec.Items.length c94, .int .i64 r87.Dense.N, .slice p96 r87.Dense.Has.length c97, .slice p99 r87.Dense.Vals.length c100] 55 (0, 0))) :: (pto b105 (.cells #[.int .i64 r70.Form, .int .i64 r70.Vec.N, .slice p76 r70.Vec.Items.length c77, .int .i64 r70.Dense.N, .slice p79 r70.Dense.Has.length c80, .slice p82 r70.Dense.Vals.length c83] 55 (0, 0))) :: ex) r (fun _ _ => (.s (.s (.s .z)))) r (.cc [17, 14] r (by kernel_rfl) r r r (fun ex => .gyes r r hb159 (.load1 isAgg3 r .z r r r .mk)) (.cc [14] r (by kernel_rfl) r r r (fun ex => .gyes r r hb159 (.fieldAddr underlying42 r sizeOf3 r (o := 0) r r r .mk)) trivial)) (.f [16, 18, 14] r (by kernel_rfl) r r (fun ex => .gyes r r hb159 (.le' r r r r .mk)) (.f [14, 19] r (by kernel_rfl) r r (fun ex => .pickT r hb159 r r r .mk) (.fs [[20, 16]] r (by kernel_rfl) ?_)))
       refine splitP hd (fun hb164 hd => ?_) fun hb164 hd => ?_
       · refine .f [21] r (by kernel_rfl) r r (fun ex => .gyes r r hb164 (.loadW isAgg55 sizeOf55 r (.s .z) r r r .mk)) (.f [21] r (by kernel_rfl) r r (fun ex => .gyes r r hb164 (.fieldAddr underlying42 r sizeOf32 r (o := 1) r r r .mk)) (.f [24, 21] r (by kernel_rfl) r r (fun ex => .gyes r r hb164 (.load1 isAgg32 r .z r r r .mk)) (.f [25, 21] r (by kernel_rfl) r r (fun ex => .gyes r r hb164 (.len underlying32 r r r r .mk)) (.f [26, 21] r (by kernel_rfl) r r (fun ex => .gyes r r hb164 (.mul r r r r .mk)) (.f [27, 21] r (by kernel_rfl) r r (fun ex => .gyes r r hb164 (.add r r r r .mk)) (.w [28, 27, 26, 25, 24] [[], [], [21], [20, 21], [19, 20, 21], [18, 19, 20, 21]] [22, 21, 21] r (by kernel_rfl) (by kernel_rfl) (by kernel_rfl) ((dropE_kept r r)) (.inr (dropE_kept r r)) fun ex => ?_))))))
         have hw166 := W_policy_Size (I := I142) R95 R98 R101 hd
         refine .gyes r r hb164 (.callP call26 r hw166 r r fun v167 hv168 => ?_)
         obtain ⟨r165, rfl, hd⟩ := hv168
         exact .some (fun ex => (pto b28 (.cells #[.int .i64 r17.N, .slice p23 r17.Items.length c24] 42 (0, 0))) :: (pto b104 (.cells #[.int .i64 r87.Form, .int .i64 r87.Vec.N, .slice p93 r87.Vec.Items.length c94, .int .i64 r87.Dense.N, .slice p96 r87.Dense.Has.length c97, .slice p99 r87.Dense.Vals.length c100] 55 (0, 0))) :: (pto b105 (.cells #[.int .i64 r70.Form, .int .i64 r70.Vec.N, .slice p76 r70.Vec.Items.length c77, .int .i64 r70.Dense.N, .slice p79 r70.Dense.Has.length c80, .slice p82 r70.Dense.Vals.length c83] 55 (0, 0))) :: ex) r (fun _ _ => (.s (.s (.s .z)))) r (.cc [27, 21] r (by kernel_rfl) r r r (fun ex => .gyes r r hb164 (.add r r r r .mk)) (.cc [26, 21] r (by kernel_rfl) r r r (fun ex => .gyes r r hb164 (.mul r r r r .mk)) (.cc [25, 21] r (by kernel_rfl) r r r (fun ex => .gyes r r hb164 (.len underlying32 r r r r .mk)) (.cc [24, 21] r (by kernel_rfl) r r r (fun ex => .gyes r r hb164 (.load1 isAgg32 r .z r r r .mk)) (.cc [21] r (by kernel_rfl) r r r (fun ex => .gyes r r hb164 (.fieldAddr underlying42 r sizeOf32 r (o := 1) r r r .mk)) trivial))))) (.f [23, 28, 21] r (by kernel_rfl) r r (fun ex => .gyes r r hb164 (.le' r r r r .mk)) (.f [21, 29] r (by kernel_rfl) r r (fun ex => .pickT r hb164 r r r .mk) (.e 31 (by kernel_rfl) (by kernel_rfl) (by kernel_rfl) (.skips 1 r (.nilS [6] r r (.drop .z (.drop .z (.drop .z (.ret (pret results5 (.t r .n) le154 ⟨(decide (r165 ≤ (w64 ((w64 (8 * (r17.Items.length : Int))) + 7)))), r, hd⟩))))))))))
       refine .f [21] r (by kernel_rfl) r r (fun ex => .gno r r hb164 r r .mk) (.f [21] r (by kernel_rfl) r r (fun ex => .gno r r hb164 r r .mk) (.f [24, 21] r (by kernel_rfl) r r (fun ex => .gno r r hb164 r r .mk) (.f [25, 21] r (by kernel_rfl) r r (fun ex => .gno r r hb164 r r .mk) (.f [26, 21] r (by kernel_rfl) r r (fun ex => .gno r r hb164 r r .mk) (.f [27, 21] r (by kernel_rfl) r r (fun ex => .gno r r hb164 r r .mk) (.f [22, 21, 21] r (by kernel_rfl) r r (fun ex => .gno r r hb164 r r .mk) (.f [23, 28, 21] r (by kernel_rfl) r r (fun ex => .gno r r hb164 r r .mk) (.f [21, 29] r (by kernel_rfl) r r (fun ex => .pickF r hb164 r r r .mk) (.e 31 (by kernel_rfl) (by kernel_rfl) (by kernel_rfl) ?_)))))))))
       exact .skips 1 r (.nilS [6] r r (.drop .z (.drop .z (.drop .z (.ret (pret results5 (.t r .n) le154 ⟨false, r, hd⟩))))))
     refine .f [14] r (by kernel_rfl) r r (fun ex => .gno r r hb159 r r .mk) (.f [14] r (by kernel_rfl) r r (fun ex => .gno r r hb159 r r .mk) (.f [17, 14] r (by kernel_rfl) r r (fun ex => .gno r r hb159 r r .mk) (.f [15, 14, 14] r (by kernel_rfl) r r (fun ex => .gno r r hb159 r r .mk) (.f [16, 18, 14] r (by kernel_rfl) r r (fun ex => .gno r r hb159 r r .mk) (.f [14, 19] r (by kernel_rfl) r r (fun ex => .pickF r hb159 r r r .mk) (.fs [[20, 16], [21], [21], [24, 21], [25, 21], [26, 21], [27, 21], [22, 21, 21], [23, 28, 21], [21, 29]] r (by kernel_rfl) (.e 31 (by kernel_rfl) (by kernel_rfl) (by kernel_rfl) (.skips 1 r (.nilS [6] r r ?_)))))))))
     exact .drop .z (.drop .z (.drop .z (.ret (pret results5 (.t r .n) le154 ⟨false, r, hd⟩))))
   refine .f [7] r (by kernel_rfl) r r (fun ex => .gno r r hb126 r r .mk) (.f [7] r (by kernel_rfl) r r (fun ex => .gno r r hb126 r r .mk) (.f [8, 7, 7] r (by kernel_rfl) r r (fun ex => .gno r r hb126 r r .mk) (.f [10, 9, 7] r (by kernel_rfl) r r (fun ex => .gno r r hb126 r r .mk) (.f [9, 11, 11, 7] r (by kernel_rfl) r r (fun ex => .gno r r hb126 r r .mk) (.f [7, 12] r (by kernel_rfl) r r (fun ex => .pickF r hb126 r r r .mk) (.fs [[13, 12], [14], [14], [17, 14], [15, 14, 14], [16, 18, 14], [14, 19], [20, 16], [21], [21], [24, 21], [25, 21], [26, 21], [27, 21], [22, 21, 21], [23, 28, 21], [21, 29]] r (by kernel_rfl) (.e 31 (by kernel_rfl) (by kernel_rfl) (by kernel_rfl) (.skips 1 r (.nilS [6] r r ?_)))))))))
   exact .drop .z (.drop .z (.drop .z (.ret (pret results5 (.t r .n) le121 ⟨false, r, hd⟩))))
 refine .f [1] r (by kernel_rfl) r r (fun ex => .gno r r hb110 r r .mk) (.f [1] r (by kernel_rfl) r r (fun ex => .gno r r hb110 r r .mk) (.f [2, 1, 1] r (by kernel_rfl) r r (fun ex => .gno r r hb110 r r .mk) (.f [3, 4, 3, 1] r (by kernel_rfl) r r (fun ex => .gno r r hb110 r r .mk) (.f [1, 5] r (by kernel_rfl) r r (fun ex => .pickF r hb110 r r r .mk) (.fs [[6, 5], [7], [7], [8, 7, 7], [10, 9, 7], [9, 11, 11, 7], [7, 12], [13, 12], [14], [14], [17, 14], [15, 14, 14], [16, 18, 14], [14, 19], [20, 16], [21], [21], [24, 21], [25, 21], [26, 21], [27, 21], [22, 21, 21], [23, 28, 21], [21, 29]] r (by kernel_rfl) (.e 31 (by kernel_rfl) (by kernel_rfl) (by kernel_rfl) (.skips 1 r (.nilS [6] r r (.drop .z ?_)))))))))
 exact .drop .z (.drop .z (.ret (pret results5 (.t r .n) le103 ⟨false, r, hd⟩)))

end Go.Proofs.YtmidnfbbnmigeaaGreat
