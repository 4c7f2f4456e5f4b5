/- The walks (printed by a program of ours). -/
import Derived.Test.YtjobeiikppmidaaSL
namespace Go.Proofs.Ytjobeiikppmidaa
open Go Go.Fw
set_option linter.unusedVariables false
set_option linter.unusedSimpArgs false
set_option maxRecDepth 8000
set_option maxHeartbeats 1000000
open Try
theorem W_ref07_Empty {I : IH} {a0 : Int} {a1 : Int}  {Q : Rows → Prop}  (hd : ref07_Empty a0 a1 Q) :
    OFun Try.prog 23 [.int .i64 a0, .int .i64 a1] I (fun I_ v l => ∃ r p1 c2 p4 c5 p7 c8, v = .agg #[.int .i64 r.Rows, .int .i64 r.Cols, .slice p1 r.Start.length c2, .slice p4 r.Col.length c5, .slice p7 r.Val.length c8] ∧ l = [OwnSl eI64 3 p1 c2 r.Start, OwnSl eI64 3 p4 c5 r.Col, OwnSl eI64 2 p7 c8 r.Val] ∧ Q r) := by
 refine Fun.enter func23 rfl ntmps23 rfl (.c (.c .n)) fun w0 M => ?_
 refine .seq (.region (.allocA zeroValue27 rfl rfl fun b10 => ?_))
 refine .nilS [4, 1, 0] rfl rfl (.seq (.region (.skips 3 rfl (.add rfl rfl rfl rfl ?_))))
 obtain ⟨h12, h13, hd⟩ := hd
 refine .make (El := eI64) (zv := 0) 8 underlying24 IN3 rfl rfl rfl rfl rfl rfl h12 h13 rfl rfl rfl fun b14 => ?_
 exact .build zeroValue27 underlying27 BI27 (.c rfl rfl rfl (.t .nil) (.c rfl rfl rfl (.s (.t .nil)) (.c rfl rfl rfl (.s (.s (.t .nil))) .n))) (by exact ⟨⟨_, _, rfl, rfl, rfl⟩, ⟨⟨_, _, rfl, rfl, rfl⟩, ⟨⟨_, _, rfl, rfl, rfl⟩, trivial⟩⟩⟩) rfl rfl (.storeA sizeOf27 rfl rfl (.s .z) (.t (.t (.t (.t (.t .nil))))) rfl rfl (.nilS [4] rfl rfl (.own0 eI64 3 (.own0 eI64 2 (.ret (oret results23 (.w isAgg27 sizeOf27 rfl (.s (.s (.s .z))) rfl .n) (.refl _) (.c (.s (.s .z)) (.c (.s .z) (.c .z .n))) ⟨({ Rows := a0, Cols := a1, Start := (List.replicate (w64 (a0 + 1)).toNat 0), Col := ([] : List Int), Val := ([] : List Int) } : Rows), _, _, _, _, _, _, rfl, rfl, hd⟩))))))

theorem W_ref07_built {I : IH} {a0 : Int} {a1 : Int} {a2 : List Triple} {p1 : Option Addr} {c2 : Nat} {Q : Rows → Prop} (R3 : RepSl eTriple I p1 c2 a2) (hd : ref07_built a0 a1 a2 Q) :
    PFun Try.prog 41 [.int .i64 a0, .int .i64 a1, .slice p1 a2.length c2] I (fun I_ v => ∃ r p4 c5 p7 c8 p10 c11, v = .agg #[.int .i64 r.Rows, .int .i64 r.Cols, .slice p4 r.Start.length c5, .slice p7 r.Col.length c8, .slice p10 r.Val.length c11] ∧ RepSl eI64 I_ p4 c5 r.Start ∧ RepSl eI64 I_ p7 c8 r.Col ∧ RepSl eI64 I_ p10 c11 r.Val ∧ Q r) := by
 refine Fun.enter func41 rfl ntmps41 rfl (.c (.c (.c .n))) fun w0 M => ?_
 refine .seq (.region (.allocA zeroValue27 rfl rfl fun b15 => ?_))
 refine .nilS [6, 2, 1, 0] rfl rfl (.seq (.region (.skips 2 rfl ?_)))
 have hw57 := W_ref07_Empty (I := I) hd
 refine .callO call23 rfl hw57 rfl rfl fun v43 I40 l44 hl41 hv42 => ?_
 obtain ⟨r39, p45, c46, p48, c49, p51, c52, rfl, rfl, hd⟩ := hv42
 have le58 := IH.le.trans (.refl _) hl41
 replace R3 := R3.mono hl41
 refine .allocA zeroValue27 rfl rfl fun b59 => ?_
 refine .storeA sizeOf27 rfl rfl .z (.t (.t (.t (.t (.t .nil))))) rfl rfl (.nilS [7, 6, 2, 0] rfl rfl (.seq (.seq (.region (.skips 1 rfl (.nilS [8, 7, 6, 2, 0] rfl rfl (.block (.loop hd (fun (s : (List Int) × (List Int) × (List Int) × Int) c w => match s with | (s394, s398, s402, s406) => ∃ I_ p395 c396 p399 c400 p403 c404, IH.le I40 I_ ∧ Ok ⟨58, [], none⟩ [(0, .int .i64 a0), (2, .slice p1 a2.length c2), (6, .pointer (some ⟨b15, 0, none⟩)), (7, .pointer (some ⟨b59, 0, none⟩)), (8, .int .i64 s406)] c ∧ Sym w0 M I I_ [pto b15 (.cells #[.int .i64 0, .int .i64 0, .slice none 0 0, .slice none 0 0, .slice none 0 0] 27 (0, 0)), pto b59 (.cells #[.int .i64 r39.Rows, .int .i64 r39.Cols, .slice p395 s394.length c396, .slice p399 s398.length c400, .slice p403 s402.length c404] 27 (0, 0)), OwnSl eI64 3 p395 c396 s394, OwnSl eI64 3 p399 c400 s398, OwnSl eI64 2 p403 c404 s402] w) (fun c w ho hs => ⟨I40, _, _, _, _, _, _, (.refl _), ho.sub ⟨rfl, rfl, rfl, rfl, rfl, trivial⟩, hs.pick (.c (.s (.s (.s (.s .z)))) (.c .z (.c .z (.c .z (.c .z .n)))))⟩) ?_))))))))
 rintro ⟨s394, s398, s402, s406⟩ next407 hd c w hst
 obtain ⟨I408, p395, c396, p399, c400, p403, c404, hl409, hok, hsym⟩ := hst
 have le410 := IH.le.trans le58 hl409
 have le411 := IH.le.trans (.refl _) hl409
 replace R3 := R3.mono hl409
 refine Cod.at hok hsym (.seq (.seq (.region (.skips 2 rfl (.len underlying23 rfl rfl rfl rfl (.lt rfl rfl rfl rfl (.nilS [16, 8, 7, 6, 2, 0] rfl rfl (.condP rfl hd (fun hb413 hd => ?_) fun hb413 hd => ?_))))))))
 · refine .skipS [8, 7, 6, 2, 0] rfl rfl (.seq (.block (.seq (.ownF (.s (.s .z)) fun hne432 => ?_))))
   refine .ownF (.s (.s (.s .z))) fun hne433 => ?_
   refine .ownF (.s (.s (.s (.s .z)))) fun hne434 => ?_
   refine .draw [some 0, some 1, some 2, some 3, some 4, some 5, some 6, some 7, some 8] 9 MX (by kernel_rfl) (by kernel_rfl) (by kernel_rfl) (by kernel_rfl) (by kernel_rfl) (by kernel_rfl) (by kernel_rfl) (fun ex => (pto b15 (.cells #[.int .i64 0, .int .i64 0, .slice none 0 0, .slice none 0 0, .slice none 0 0] 27 (0, 0))) :: (pto b59 (.cells #[.int .i64 r39.Rows, .int .i64 r39.Cols, .slice p395 s394.length c396, .slice p399 s398.length c400, .slice p403 s402.length c404] 27 (0, 0))) :: (OwnSl eI64 3 p395 c396 s394) :: (OwnSl eI64 3 p399 c400 s398) :: (OwnSl eI64 2 p403 c404 s402) :: ex) (fun _ _ => (.s (.s (.s (.s (.s .z)))))) rfl (.f [] rfl (by kernel_rfl) rfl rfl (fun ex => .fieldAddr underlying27 rfl sizeOf24 rfl (o := 3) rfl rfl rfl .mk) (.f [0] rfl (by kernel_rfl) rfl rfl (fun ex => .load1 isAgg24 rfl (.s .z) rfl rfl rfl .mk) (.fs [[], []] rfl (by kernel_rfl) ?_)))
   obtain ⟨h435, x436, hx437, hd⟩ := hd
   obtain ⟨b438, o439, cs440, e441, hC442, hr443⟩ := R3.2 _ _ hx437
   cases hr443
   refine .f [2, 3] rfl (by kernel_rfl) rfl rfl (fun ex => .ixa underlying23 sizeOf49 rfl e441 rfl h435 (idx_lt hx437 h435) rfl rfl .mk) (.f [4] rfl (by kernel_rfl) rfl rfl (fun ex => .fieldAddr underlying49 rfl sizeOf3 rfl (o := o439 + s406.toNat * 3 + 1) rfl rfl rfl .mk) (.f [5] rfl (by kernel_rfl) rfl rfl (fun ex => .ld1 (j := 1) isAgg3 hC442 rfl rfl rfl rfl rfl .mk) (.w [1, 0] [[], [6], [5, 6], [4, 5, 6], [4, 5, 6]] [6] rfl (by kernel_rfl) (by kernel_rfl) (by kernel_rfl) ((dropE_kept rfl rfl)) (.inr (dropE_kept rfl rfl)) fun ex => ?_)))
   refine .buildSlice 1 underlying24 sizeOf3 zeroValue3 rfl rfl (.c rfl rfl rfl .n) rfl rfl fun b444 => ?_
   refine .some (fun ex => (pto b444 (.cells #[.int .i64 x436.Col] 3 (0, 0))) :: (pto b15 (.cells #[.int .i64 0, .int .i64 0, .slice none 0 0, .slice none 0 0, .slice none 0 0] 27 (0, 0))) :: (pto b59 (.cells #[.int .i64 r39.Rows, .int .i64 r39.Cols, .slice p395 s394.length c396, .slice p399 s398.length c400, .slice p403 s402.length c404] 27 (0, 0))) :: (OwnSl eI64 3 p395 c396 s394) :: (OwnSl eI64 3 p399 c400 s398) :: (OwnSl eI64 2 p403 c404 s402) :: ex) rfl (fun _ _ => (.s (.s (.s (.s (.s (.s .z))))))) rfl (.cc [0] rfl (by kernel_rfl) rfl rfl rfl (fun ex => .load1 isAgg24 rfl (.s (.s .z)) rfl rfl rfl .mk) (.cc [] rfl (by kernel_rfl) rfl rfl rfl (fun ex => .fieldAddr underlying27 rfl sizeOf24 rfl (o := 3) rfl rfl rfl .mk) trivial)) (.w [] [[], [1]] [1, 7] rfl (by kernel_rfl) (by kernel_rfl) (by kernel_rfl) ((dropE_kept rfl rfl)) (.inr (dropE_kept rfl rfl)) fun ex => ?_)
   obtain ⟨hl446, hd⟩ := hd
   refine .append (ys := [x436.Col]) 8 (.s (.s (.s (.s .z)))) underlying24 underlying24 IN3 rfl rfl rfl rfl rfl rfl rfl rfl rfl (.box .z (.one rfl) rfl) hl446 rfl rfl fun p447 c448 => ?_
   refine .some (fun ex => (OwnSl eI64 3 p447 c448 (s398 ++ ([x436.Col]))) :: (pto b444 (.cells #[.int .i64 x436.Col] 3 (0, 0))) :: (pto b15 (.cells #[.int .i64 0, .int .i64 0, .slice none 0 0, .slice none 0 0, .slice none 0 0] 27 (0, 0))) :: (pto b59 (.cells #[.int .i64 r39.Rows, .int .i64 r39.Cols, .slice p395 s394.length c396, .slice p399 s398.length c400, .slice p403 s402.length c404] 27 (0, 0))) :: (OwnSl eI64 3 p395 c396 s394) :: (OwnSl eI64 2 p403 c404 s402) :: ex) rfl (fun _ _ => (.s (.s (.s (.s (.s (.s .z))))))) rfl trivial (.e 9 (by kernel_rfl) (by kernel_rfl) (by kernel_rfl) (.fieldAddr underlying27 rfl sizeOf24 rfl (o := 3) rfl rfl rfl (.store1 sizeOf24 rfl rfl (.s (.s (.s .z))) (.s (.s (.s (.t .nil)))) rfl (.nilS [8, 7, 6, 2, 0] rfl rfl (.drop (.s .z) (.seq (.ownF .z fun hne468 => ?_)))))))
   refine .ownF (.s (.s (.s .z))) fun hne469 => ?_
   refine .ownF (.s (.s (.s (.s .z)))) fun hne470 => ?_
   refine .draw [some 0, some 1, some 2, some 3, some 4, some 5, some 6, some 7, some 8] 9 MX (by kernel_rfl) (by kernel_rfl) (by kernel_rfl) (by kernel_rfl) (by kernel_rfl) (by kernel_rfl) (by kernel_rfl) (fun ex => (OwnSl eI64 3 p447 c448 (s398 ++ ([x436.Col]))) :: (pto b15 (.cells #[.int .i64 0, .int .i64 0, .slice none 0 0, .slice none 0 0, .slice none 0 0] 27 (0, 0))) :: (pto b59 (.cells #[.int .i64 r39.Rows, .int .i64 r39.Cols, .slice p395 s394.length c396, .slice p447 (s398 ++ ([x436.Col])).length c448, .slice p403 s402.length c404] 27 (0, 0))) :: (OwnSl eI64 3 p395 c396 s394) :: (OwnSl eI64 2 p403 c404 s402) :: ex) (fun _ _ => (.s (.s (.s (.s (.s .z)))))) rfl (.f [] rfl (by kernel_rfl) rfl rfl (fun ex => .fieldAddr underlying27 rfl sizeOf25 rfl (o := 4) rfl rfl rfl .mk) (.f [0] rfl (by kernel_rfl) rfl rfl (fun ex => .load1 isAgg25 rfl (.s (.s .z)) rfl rfl rfl .mk) (.fs [[], []] rfl (by kernel_rfl) ?_)))
   obtain ⟨h471, x472, hx473, hd⟩ := hd
   obtain ⟨b474, o475, cs476, e477, hC478, hr479⟩ := R3.2 _ _ hx473
   cases hr479
   refine .f [2, 3] rfl (by kernel_rfl) rfl rfl (fun ex => .ixa underlying23 sizeOf49 rfl e477 rfl h471 (idx_lt hx473 h471) rfl rfl .mk) (.f [4] rfl (by kernel_rfl) rfl rfl (fun ex => .fieldAddr underlying49 rfl sizeOf2 rfl (o := o475 + s406.toNat * 3 + 2) rfl rfl rfl .mk) (.f [5] rfl (by kernel_rfl) rfl rfl (fun ex => .ld1 (j := 2) isAgg2 hC478 rfl rfl rfl rfl rfl .mk) (.w [1, 0] [[], [6], [5, 6], [4, 5, 6], [4, 5, 6]] [6] rfl (by kernel_rfl) (by kernel_rfl) (by kernel_rfl) ((dropE_kept rfl rfl)) (.inr (dropE_kept rfl rfl)) fun ex => ?_)))
   refine .buildSlice 1 underlying25 sizeOf2 zeroValue2 rfl rfl (.c rfl rfl rfl .n) rfl rfl fun b480 => ?_
   refine .some (fun ex => (pto b480 (.cells #[.int .i64 x472.Val] 2 (0, 0))) :: (OwnSl eI64 3 p447 c448 (s398 ++ ([x436.Col]))) :: (pto b15 (.cells #[.int .i64 0, .int .i64 0, .slice none 0 0, .slice none 0 0, .slice none 0 0] 27 (0, 0))) :: (pto b59 (.cells #[.int .i64 r39.Rows, .int .i64 r39.Cols, .slice p395 s394.length c396, .slice p447 (s398 ++ ([x436.Col])).length c448, .slice p403 s402.length c404] 27 (0, 0))) :: (OwnSl eI64 3 p395 c396 s394) :: (OwnSl eI64 2 p403 c404 s402) :: ex) rfl (fun _ _ => (.s (.s (.s (.s (.s (.s .z))))))) rfl (.cc [0] rfl (by kernel_rfl) rfl rfl rfl (fun ex => .load1 isAgg25 rfl (.s (.s (.s .z))) rfl rfl rfl .mk) (.cc [] rfl (by kernel_rfl) rfl rfl rfl (fun ex => .fieldAddr underlying27 rfl sizeOf25 rfl (o := 4) rfl rfl rfl .mk) trivial)) (.w [] [[], [1]] [1, 7] rfl (by kernel_rfl) (by kernel_rfl) (by kernel_rfl) ((dropE_kept rfl rfl)) (.inr (dropE_kept rfl rfl)) fun ex => ?_)
   obtain ⟨hl482, hd⟩ := hd
   refine .append (ys := [x472.Val]) 8 (.s (.s (.s (.s (.s .z))))) underlying25 underlying25 IN2 rfl rfl rfl rfl rfl rfl rfl rfl rfl (.box .z (.one rfl) rfl) hl482 rfl rfl fun p483 c484 => ?_
   refine .some (fun ex => (OwnSl eI64 2 p483 c484 (s402 ++ ([x472.Val]))) :: (pto b480 (.cells #[.int .i64 x472.Val] 2 (0, 0))) :: (OwnSl eI64 3 p447 c448 (s398 ++ ([x436.Col]))) :: (pto b15 (.cells #[.int .i64 0, .int .i64 0, .slice none 0 0, .slice none 0 0, .slice none 0 0] 27 (0, 0))) :: (pto b59 (.cells #[.int .i64 r39.Rows, .int .i64 r39.Cols, .slice p395 s394.length c396, .slice p447 (s398 ++ ([x436.Col])).length c448, .slice p403 s402.length c404] 27 (0, 0))) :: (OwnSl eI64 3 p395 c396 s394) :: ex) rfl (fun _ _ => (.s (.s (.s (.s (.s (.s .z))))))) rfl trivial (.e 9 (by kernel_rfl) (by kernel_rfl) (by kernel_rfl) (.fieldAddr underlying27 rfl sizeOf25 rfl (o := 4) rfl rfl rfl (.store1 sizeOf25 rfl rfl (.s (.s (.s (.s .z)))) (.s (.s (.s (.s (.t .nil))))) rfl (.nilS [8, 7, 6, 2, 0] rfl rfl (.drop (.s .z) (.seq (.region (.skips 2 rfl ?_))))))))
   obtain ⟨h495, x496, hx497, hd⟩ := hd
   obtain ⟨b498, o499, cs500, e501, hC502, hr503⟩ := R3.2 _ _ hx497
   cases hr503
   refine .ixa underlying23 sizeOf49 rfl e501 rfl h495 (idx_lt hx497 h495) rfl rfl (.fieldAddr underlying49 rfl sizeOf3 rfl (o := o499 + s406.toNat * 3) rfl rfl rfl (.ld1 (j := 0) isAgg3 hC502 rfl rfl rfl rfl rfl (.add rfl rfl rfl rfl (.skips 1 rfl (.nilS [9, 8, 7, 6, 2, 0] rfl rfl (.block (.loop hd (fun (s : (List Int) × Int) c w => match s with | (s539, s543) => ∃ I_ p540 c541, IH.le I408 I_ ∧ Ok ⟨58, [], none⟩ [(0, .int .i64 a0), (2, .slice p1 a2.length c2), (6, .pointer (some ⟨b15, 0, none⟩)), (7, .pointer (some ⟨b59, 0, none⟩)), (8, .int .i64 s406), (9, .int .i64 s543)] c ∧ Sym w0 M I I_ [pto b15 (.cells #[.int .i64 0, .int .i64 0, .slice none 0 0, .slice none 0 0, .slice none 0 0] 27 (0, 0)), pto b59 (.cells #[.int .i64 r39.Rows, .int .i64 r39.Cols, .slice p540 s539.length c541, .slice p447 (s398 ++ ([x436.Col])).length c448, .slice p483 (s402 ++ ([x472.Val])).length c484] 27 (0, 0)), OwnSl eI64 3 p540 c541 s539, OwnSl eI64 3 p447 c448 (s398 ++ ([x436.Col])), OwnSl eI64 2 p483 c484 (s402 ++ ([x472.Val]))] w) (fun c w ho hs => ⟨I408, _, _, (.refl _), ho.sub ⟨rfl, rfl, rfl, rfl, rfl, rfl, trivial⟩, hs.pick (.c (.s (.s .z)) (.c (.s (.s .z)) (.c (.s (.s .z)) (.c (.s .z) (.c .z .n)))))⟩) ?_)))))))
   rintro ⟨s539, s543⟩ next544 hd c w hst
   obtain ⟨I545, p540, c541, hl546, hok, hsym⟩ := hst
   have le547 := IH.le.trans le410 hl546
   have le548 := IH.le.trans le411 hl546
   have le549 := IH.le.trans (.refl _) hl546
   replace R3 := R3.mono hl546
   refine Cod.at hok hsym (.seq (.seq (.region (.skips 2 rfl (.le' rfl rfl rfl rfl (.nilS [47, 9, 8, 7, 6, 2, 0] rfl rfl (.condP rfl hd (fun hb551 hd => ?_) fun hb551 hd => ?_)))))))
   · refine .skipS [9, 8, 7, 6, 2, 0] rfl rfl (.seq (.block (.region (.fieldAddr underlying27 rfl sizeOf24 rfl (o := 2) rfl rfl rfl (.load1 isAgg24 rfl (.s .z) rfl rfl rfl (.skips 1 rfl ?_))))))
     obtain ⟨h552, x553, hx554, hd⟩ := hd
     refine .ownNe (.s (.s .z)) (idx_ne hx554) fun b555 e556 => ?_
     cases e556
     refine .ixa0 underlying24 sizeOf3 rfl rfl h552 (idx_lt hx554 h552) rfl rfl (.lo1 (j := 0) isAgg3 (.s (.s .z)) hx554 rfl rfl rfl rfl rfl (.add rfl rfl rfl rfl ?_))
     obtain ⟨h557, x558, hx559, hd⟩ := hd
     refine .ixa0 underlying24 sizeOf3 rfl rfl h557 (idx_lt hx559 h557) rfl rfl (.stO1 (j := 0) (v' := (w64 (x553 + 1))) sizeOf3 (.s (.s .z)) hx559 rfl rfl rfl (.t .nil) rfl (.sub (E' := [(0, _), (2, _), (6, _), (7, _), (8, _), (9, _), (50, _), (51, .slice (some ⟨b555, 0, none⟩) (s539.set s543.toNat (w64 (x553 + 1))).length c541), (52, _), (53, _), (54, _), (55, _), (56, _)]) ⟨rfl, rfl, rfl, rfl, rfl, rfl, rfl, (by simp only [List.length_set]; rfl), rfl, rfl, rfl, rfl, rfl, trivial⟩ (.reat (.s .z) (B := pto b59 (.cells #[.int .i64 r39.Rows, .int .i64 r39.Cols, .slice (some ⟨b555, 0, none⟩) (s539.set s543.toNat (w64 (x553 + 1))).length c541, .slice p447 (s398 ++ ([x436.Col])).length c448, .slice p483 (s402 ++ ([x472.Val])).length c484] 27 (0, 0))) (by simp only [List.length_set]) (.nilS [9, 8, 7, 6, 2, 0] rfl rfl (.region (.skips 1 rfl (.add rfl rfl rfl rfl (.sub (E' := [(0, _), (2, _), (6, _), (7, _), (8, _), (48, _), (49, _)]) ⟨rfl, rfl, rfl, rfl, rfl, rfl, rfl, trivial⟩ (.skips 1 rfl ?_)))))))))
     exact .nil' fun c w ho hs => ⟨((s539.set s543.toNat (w64 (x553 + 1))), w64 (s543 + 1)), hd, I545, _, _, le549, ho.sub ⟨rfl, rfl, rfl, rfl, rfl, rfl, trivial⟩, hs.pick (.c .z (.c .z (.c .z (.c .z (.c .z .n)))))⟩
   exact .exitS [8, 7, 6, 2, 0] rfl rfl (.region (.skips 1 rfl (.add rfl rfl rfl rfl (.sub (E' := [(0, _), (2, _), (6, _), (7, _), (17, _), (18, _)]) ⟨rfl, rfl, rfl, rfl, rfl, rfl, trivial⟩ (.skips 1 rfl (.nil' fun c w ho hs => ⟨(s539, (s398 ++ ([x436.Col])), (s402 ++ ([x472.Val])), w64 (s406 + 1)), hd, I545, _, _, _, _, _, _, le548, ho.sub ⟨rfl, rfl, rfl, rfl, rfl, trivial⟩, hs.pick (.c .z (.c .z (.c .z (.c .z (.c .z .n)))))⟩))))))
 refine .exitS [7, 6] rfl rfl (.seq (.region (.loadW isAgg27 sizeOf27 rfl (.s .z) rfl rfl rfl (.storeA sizeOf27 rfl rfl .z (.t (.t (.t (.t (.t .nil))))) rfl rfl (.nilS [6] rfl rfl (.drop (.s .z) (.pub (.s .z) fun I560 hl561 R562 => ?_)))))))
 have le563 := IH.le.trans le410 hl561
 have le564 := IH.le.trans le411 hl561
 refine .pub (.s .z) fun I565 hl566 R567 => ?_
 have le568 := IH.le.trans le563 hl566
 have le569 := IH.le.trans le564 hl566
 replace R562 := R562.mono hl566
 refine .pub (.s .z) fun I570 hl571 R572 => ?_
 have le573 := IH.le.trans le568 hl571
 have le574 := IH.le.trans le569 hl571
 replace R562 := R562.mono hl571
 replace R567 := R567.mono hl571
 exact .ret (pret results41 (.w isAgg27 sizeOf27 rfl .z rfl .n) le573 ⟨({ Rows := r39.Rows, Cols := r39.Cols, Start := s394, Col := s398, Val := s402 } : Rows), _, _, _, _, _, _, rfl, R562, R567, R572, hd⟩)

theorem W_ref02_Is {I : IH} {a0 : Int}  {Q : Bool → Prop}  (hd : ref02_Is a0 Q) :
    PFun Try.prog 42 [.int .i64 a0] I (fun I_ v => ∃ r, v = .bool r ∧ Q r) := by
 refine Fun.enter func42 rfl ntmps42 rfl (.c .n) fun w0 M => ?_
 refine .seq (.region (.skips 1 rfl (.nilS [0] rfl rfl (.seq (.region (.skips 1 rfl (.ge rfl rfl rfl rfl (.skips 1 rfl ?_))))))))
 refine splitP hd (fun hb1 hd => ?_) fun hb1 hd => ?_
 · rw [hb1]
   exact .gyes rfl rfl rfl (.move rfl rfl rfl (.gyes rfl rfl rfl (.le' rfl rfl rfl rfl (.skips 2 rfl (.nilS [2] rfl rfl (.ret (pret results42 (.t rfl .n) (.refl _) ⟨(decide (a0 ≤ 5)), rfl, hd⟩)))))))
 rw [hb1]
 exact .skips 4 rfl (.nilS [2] rfl rfl (.ret (pret results42 (.t rfl .n) (.refl _) ⟨false, rfl, hd⟩)))

theorem W_ref05_below {I : IH} {a0 : Edge} {a1 : Edge}  {Q : Bool → Prop}  (hd : ref05_below a0 a1 Q) :
    PFun Try.prog 59 [.agg (encEdge a0).toArray, .agg (encEdge a1).toArray] I (fun I_ v => ∃ r, v = .bool r ∧ Q r) := by
 refine Fun.enter func59 rfl ntmps59 rfl (.c (.c .n)) fun w0 M => ?_
 refine .seq (.region (.boxA rfl rfl rfl fun b5 => ?_))
 refine .boxA rfl rfl rfl fun b7 => ?_
 refine .skips 1 rfl (.nilS [3, 2] rfl rfl (.seq (.region (.fieldAddr underlying74 rfl sizeOf3 rfl (o := 0) rfl rfl rfl (.load1 isAgg3 rfl (.s .z) rfl rfl rfl (.fieldAddr underlying74 rfl sizeOf3 rfl (o := 0) rfl rfl rfl (.load1 isAgg3 rfl .z rfl rfl rfl (.lt rfl rfl rfl rfl (.skips 1 rfl ?_)))))))))
 refine splitP hd (fun hb9 hd => ?_) fun hb9 hd => ?_
 · rw [hb9]
   refine .skips 6 rfl (.gnoU rfl rfl rfl rfl (.gnoU rfl rfl rfl rfl (.gnoU rfl rfl rfl rfl (.gnoU rfl rfl rfl rfl (.gnoU rfl rfl rfl rfl (.skips 3 rfl (.nilS [4] rfl rfl (.drop .z (.drop .z ?_)))))))))
   exact .ret (pret results59 (.t rfl .n) (.refl _) ⟨true, rfl, hd⟩)
 rw [hb9]
 refine .gyes rfl rfl rfl (.fieldAddr underlying74 rfl sizeOf3 rfl (o := 0) rfl rfl rfl (.gyes rfl rfl rfl (.load1 isAgg3 rfl (.s .z) rfl rfl rfl (.gyes rfl rfl rfl (.fieldAddr underlying74 rfl sizeOf3 rfl (o := 0) rfl rfl rfl (.gyes rfl rfl rfl (.load1 isAgg3 rfl .z rfl rfl rfl (.gyes rfl rfl rfl (.eq rfl rfl rfl rfl (.gyes rfl rfl rfl (.move rfl rfl rfl ?_)))))))))))
 refine splitP hd (fun hb10 hd => ?_) fun hb10 hd => ?_
 · rw [hb10]
   refine .gyes rfl rfl rfl (.fieldAddr underlying74 rfl sizeOf3 rfl (o := 1) rfl rfl rfl (.gyes rfl rfl rfl (.load1 isAgg3 rfl (.s .z) rfl rfl rfl (.gyes rfl rfl rfl (.fieldAddr underlying74 rfl sizeOf3 rfl (o := 1) rfl rfl rfl (.gyes rfl rfl rfl (.load1 isAgg3 rfl .z rfl rfl rfl (.gyes rfl rfl rfl (.lt rfl rfl rfl rfl (.gyes rfl rfl rfl (.pickT rfl rfl rfl rfl rfl (.skips 2 rfl (.nilS [4] rfl rfl (.drop .z (.drop .z ?_)))))))))))))))
   exact .ret (pret results59 (.t rfl .n) (.refl _) ⟨(decide (a0.To < a1.To)), rfl, hd⟩)
 rw [hb10]
 exact .skips 5 rfl (.gyes rfl rfl rfl (.pickF rfl rfl rfl rfl rfl (.skips 2 rfl (.nilS [4] rfl rfl (.drop .z (.drop .z (.ret (pret results59 (.t rfl .n) (.refl _) ⟨false, rfl, hd⟩))))))))

theorem W_ref01_Of {I : IH} {a0 : Int}  {Q : Wide → Prop}  (hd : ref01_Of a0 Q) :
    PFun Try.prog 60 [.int .i64 a0] I (fun I_ v => ∃ r, v = .agg (encWide r).toArray ∧ Q r) := by
 refine Fun.enter func60 rfl ntmps60 rfl (.c .n) fun w0 M => ?_
 refine .seq (.region (.allocA zeroValue92 rfl rfl fun b3 => ?_))
 refine .nilS [2, 0] rfl rfl (.seq (.seq (.region (.skips 1 rfl (.lt rfl rfl rfl rfl (.nilS [4, 2, 0] rfl rfl (.condP rfl hd (fun hb5 hd => ?_) fun hb5 hd => ?_)))))))
 · exact .seq (.region (.skips 1 rfl (.conv underlying2 underlying90 rfl rfl rfl (.build zeroValue92 underlying92 BI92 (.c rfl rfl rfl (.t .nil) (.c rfl rfl rfl (.s (.t .nil)) .n)) (by exact ⟨⟨_, _, rfl, rfl, rfl⟩, ⟨⟨_, _, rfl, rfl, rfl⟩, trivial⟩⟩) rfl rfl (.storeA sizeOf92 rfl rfl .z (.t (.t .nil)) rfl rfl (.nilS [2] rfl rfl (.ret (pret results60 (.w isAgg92 sizeOf92 rfl .z rfl .n) (.refl _) ⟨({ Hi := (-1), Lo := IntKind.wrap .u64 (a0) } : Wide), rfl, hd⟩))))))))
 exact .skipS [2, 0] rfl rfl (.seq (.region (.skips 1 rfl (.conv underlying2 underlying90 rfl rfl rfl (.build zeroValue92 underlying92 BI92 (.c rfl rfl rfl (.s (.t .nil)) .n) (by exact ⟨⟨_, _, rfl, rfl, rfl⟩, trivial⟩) rfl rfl (.storeA sizeOf92 rfl rfl .z (.t (.t .nil)) rfl rfl (.nilS [2] rfl rfl (.ret (pret results60 (.w isAgg92 sizeOf92 rfl .z rfl .n) (.refl _) ⟨({ Hi := 0, Lo := IntKind.wrap .u64 (a0) } : Wide), rfl, hd⟩)))))))))

theorem W_ref01_Compare {I : IH} {a0 : Wide} {a1 : Wide}  {Q : Int → Prop}  (hd : ref01_Compare a0 a1 Q) :
    PFun Try.prog 73 [.agg (encWide a0).toArray, .agg (encWide a1).toArray] I (fun I_ v => ∃ r, v = .int .i64 r ∧ Q r) := by
 refine Fun.enter func73 rfl ntmps73 rfl (.c (.c .n)) fun w0 M => ?_
 refine .seq (.region (.boxA rfl rfl rfl fun b5 => ?_))
 refine .boxA rfl rfl rfl fun b7 => ?_
 refine .skips 1 rfl (.nilS [3, 2] rfl rfl (.seq ?_))
 refine Cod.joinQ (σ := Unit) hd (fun (_ : Unit) c w => ∃ I_, IH.le I I_ ∧ Ok ⟨27, [], none⟩ [(2, .pointer (some ⟨b5, 0, none⟩)), (3, .pointer (some ⟨b7, 0, none⟩))] c ∧ Sym w0 M I I_ [pto b5 (.cells #[.int .i64 a0.Hi, .int .u64 a0.Lo] 92 (0, 0)), pto b7 (.cells #[.int .i64 a1.Hi, .int .u64 a1.Lo] 92 (0, 0))] w) (fun k15 hd => ?_) ?_
 · skip
   refine .seq (.region (.fieldAddr underlying92 rfl sizeOf2 rfl (o := 0) rfl rfl rfl (.load1 isAgg2 rfl (.s .z) rfl rfl rfl (.fieldAddr underlying92 rfl sizeOf2 rfl (o := 0) rfl rfl rfl (.load1 isAgg2 rfl .z rfl rfl rfl (.lt rfl rfl rfl rfl (.skips 1 rfl ?_)))))))
   refine splitP hd (fun hb16 hd => ?_) fun hb16 hd => ?_
   · rw [hb16]
     refine .skips 6 rfl (.gnoU rfl rfl rfl rfl (.gnoU rfl rfl rfl rfl (.gnoU rfl rfl rfl rfl (.gnoU rfl rfl rfl rfl (.gnoU rfl rfl rfl rfl (.skips 2 rfl (.nilS [23, 3, 2] rfl rfl (.condKT rfl rfl (.seq ?_)))))))))
     exact .region (.skips 1 rfl (.nilS [4] rfl rfl (.drop .z (.drop .z (.ret (pret results73 (.t rfl .n) (.refl _) ⟨(-1), rfl, hd⟩))))))
   rw [hb16]
   refine .gyes rfl rfl rfl (.fieldAddr underlying92 rfl sizeOf2 rfl (o := 0) rfl rfl rfl (.gyes rfl rfl rfl (.load1 isAgg2 rfl (.s .z) rfl rfl rfl (.gyes rfl rfl rfl (.fieldAddr underlying92 rfl sizeOf2 rfl (o := 0) rfl rfl rfl (.gyes rfl rfl rfl (.load1 isAgg2 rfl .z rfl rfl rfl (.gyes rfl rfl rfl (.eq rfl rfl rfl rfl (.gyes rfl rfl rfl (.move rfl rfl rfl ?_)))))))))))
   refine splitP hd (fun hb17 hd => ?_) fun hb17 hd => ?_
   · rw [hb17]
     refine .gyes rfl rfl rfl (.fieldAddr underlying92 rfl sizeOf90 rfl (o := 1) rfl rfl rfl (.gyes rfl rfl rfl (.load1 isAgg90 rfl (.s .z) rfl rfl rfl (.gyes rfl rfl rfl (.fieldAddr underlying92 rfl sizeOf90 rfl (o := 1) rfl rfl rfl (.gyes rfl rfl rfl (.load1 isAgg90 rfl .z rfl rfl rfl (.gyes rfl rfl rfl (.lt rfl rfl rfl rfl (.gyes rfl rfl rfl (.pickT rfl rfl rfl rfl rfl (.skips 1 rfl (.nilS [23, 3, 2] rfl rfl (.condP rfl hd (fun hb18 hd => ?_) fun hb18 hd => ?_))))))))))))))
     · exact .seq (.region (.skips 1 rfl (.nilS [4] rfl rfl (.drop .z (.drop .z (.ret (pret results73 (.t rfl .n) (.refl _) ⟨(-1), rfl, hd⟩)))))))
     exact .skip' fun c w ho hs => ⟨(), hd, I, (.refl _), ho.sub ⟨rfl, rfl, trivial⟩, hs.pick (.c (.s .z) (.c .z .n))⟩
   rw [hb17]
   exact .skips 5 rfl (.gyes rfl rfl rfl (.pickF rfl rfl rfl rfl rfl (.skips 1 rfl (.nilS [23, 3, 2] rfl rfl (.condKF rfl rfl (.skip' fun c w ho hs => ⟨(), hd, I, (.refl _), ho.sub ⟨rfl, rfl, trivial⟩, hs.pick (.c (.s .z) (.c .z .n))⟩))))))
 rintro ⟨⟩ hd c w hst
 obtain ⟨I19, hl20, hok, hsym⟩ := hst
 have le21 := IH.le.trans (.refl _) hl20
 refine Cod.at hok hsym (.seq (.seq (.region (.loadW isAgg92 sizeOf92 rfl .z rfl rfl rfl (.loadW isAgg92 sizeOf92 rfl (.s .z) rfl rfl rfl (.eqV rfl rfl (EQ92 a0 a1) (EG92 _ _ _ _ _) rfl rfl rfl (.nilS [26] rfl rfl (.drop .z (.drop .z ?_)))))))))
 refine .condP rfl hd (fun hb22 hd => ?_) fun hb22 hd => ?_
 · exact .seq (.region (.skips 1 rfl (.nilS [4] rfl rfl (.ret (pret results73 (.t rfl .n) le21 ⟨0, rfl, hd⟩)))))
 exact .skipS [] rfl rfl (.seq (.region (.skips 1 rfl (.nilS [4] rfl rfl (.ret (pret results73 (.t rfl .n) le21 ⟨1, rfl, hd⟩))))))

theorem W_ref02_truth {I : IH} {a0 : Bool}  {Q : Wide → Prop}  (hd : ref02_truth a0 Q) :
    PFun Try.prog 74 [.bool a0] I (fun I_ v => ∃ r, v = .agg (encWide r).toArray ∧ Q r) := by
 refine Fun.enter func74 rfl ntmps74 rfl (.c .n) fun w0 M => ?_
 refine .seq (.region (.allocA zeroValue92 rfl rfl fun b3 => ?_))
 refine .nilS [2, 0] rfl rfl (.seq (.seq (.region (.skips 1 rfl (.nilS [3, 2] rfl rfl (.condP rfl hd (fun hb5 hd => ?_) fun hb5 hd => ?_))))))
 · exact .seq (.region (.build zeroValue92 underlying92 BI92 (.c rfl rfl rfl (.s (.t .nil)) .n) (by exact ⟨⟨_, _, rfl, rfl, rfl⟩, trivial⟩) rfl rfl (.storeA sizeOf92 rfl rfl .z (.t (.t .nil)) rfl rfl (.nilS [2] rfl rfl (.ret (pret results74 (.w isAgg92 sizeOf92 rfl .z rfl .n) (.refl _) ⟨({ Hi := 0, Lo := 1 } : Wide), rfl, hd⟩))))))
 exact .skipS [2] rfl rfl (.seq (.region (.build zeroValue92 underlying92 BI92 .n (by exact trivial) rfl rfl (.storeA sizeOf92 rfl rfl .z (.t (.t .nil)) rfl rfl (.nilS [2] rfl rfl (.ret (pret results74 (.w isAgg92 sizeOf92 rfl .z rfl .n) (.refl _) ⟨({ Hi := 0, Lo := 0 } : Wide), rfl, hd⟩)))))))

theorem W_ref01_Add {I : IH} {a0 : Wide} {a1 : Wide}  {Q : Wide → Prop}  (hd : ref01_Add a0 a1 Q) :
    PFun Try.prog 75 [.agg (encWide a0).toArray, .agg (encWide a1).toArray] I (fun I_ v => ∃ r, v = .agg (encWide r).toArray ∧ Q r) := by
 refine Fun.enter func75 rfl ntmps75 rfl (.c (.c .n)) fun w0 M => ?_
 refine .seq (.region (.boxA rfl rfl rfl fun b7 => ?_))
 refine .boxA rfl rfl rfl fun b9 => ?_
 refine .allocA zeroValue92 rfl rfl fun b11 => ?_
 refine .nilS [4, 3, 2] rfl rfl (.seq (.region (.fieldAddr underlying92 rfl sizeOf90 rfl (o := 1) rfl rfl rfl (.load1 isAgg90 rfl (.s (.s .z)) rfl rfl rfl (.fieldAddr underlying92 rfl sizeOf90 rfl (o := 1) rfl rfl rfl (.load1 isAgg90 rfl (.s .z) rfl rfl rfl (.add rfl rfl rfl rfl (.skips 1 rfl (.nilS [5, 4, 3, 2] rfl rfl ?_)))))))))
 refine .seq (.region (.fieldAddr underlying92 rfl sizeOf2 rfl (o := 0) rfl rfl rfl (.load1 isAgg2 rfl (.s (.s .z)) rfl rfl rfl (.fieldAddr underlying92 rfl sizeOf2 rfl (o := 0) rfl rfl rfl (.load1 isAgg2 rfl (.s .z) rfl rfl rfl (.add rfl rfl rfl rfl (.skips 1 rfl (.nilS [6, 5, 4, 2] rfl rfl (.drop (.s .z) ?_)))))))))
 refine .seq (.seq (.region (.skips 1 rfl (.fieldAddr underlying92 rfl sizeOf90 rfl (o := 1) rfl rfl rfl (.load1 isAgg90 rfl (.s .z) rfl rfl rfl (.lt rfl rfl rfl rfl (.nilS [20, 6, 5, 4] rfl rfl (.drop (.s .z) (.condP rfl hd (fun hb13 hd => ?_) fun hb13 hd => ?_)))))))))
 · refine .region (.skips 1 rfl (.add rfl rfl rfl rfl (.sub (E' := [(4, _), (5, _), (20, _), (21, _), (22, _)]) ⟨rfl, rfl, rfl, rfl, rfl, trivial⟩ (.skips 1 rfl (.nilS [6, 5, 4] rfl rfl (.seq (.region (.skips 2 rfl (.build zeroValue92 underlying92 BI92 (.c rfl rfl rfl (.t .nil) (.c rfl rfl rfl (.s (.t .nil)) .n)) (by exact ⟨⟨_, _, rfl, rfl, rfl⟩, ⟨⟨_, _, rfl, rfl, rfl⟩, trivial⟩⟩) rfl rfl ?_)))))))))
   exact .storeA sizeOf92 rfl rfl .z (.t (.t .nil)) rfl rfl (.nilS [4] rfl rfl (.ret (pret results75 (.w isAgg92 sizeOf92 rfl .z rfl .n) (.refl _) ⟨({ Hi := w64 ((w64 (a0.Hi + a1.Hi)) + 1), Lo := IntKind.wrap .u64 (a0.Lo + a1.Lo) } : Wide), rfl, hd⟩)))
 exact .skipS [6, 5, 4] rfl rfl (.seq (.region (.skips 2 rfl (.build zeroValue92 underlying92 BI92 (.c rfl rfl rfl (.t .nil) (.c rfl rfl rfl (.s (.t .nil)) .n)) (by exact ⟨⟨_, _, rfl, rfl, rfl⟩, ⟨⟨_, _, rfl, rfl, rfl⟩, trivial⟩⟩) rfl rfl (.storeA sizeOf92 rfl rfl .z (.t (.t .nil)) rfl rfl (.nilS [4] rfl rfl (.ret (pret results75 (.w isAgg92 sizeOf92 rfl .z rfl .n) (.refl _) ⟨({ Hi := w64 (a0.Hi + a1.Hi), Lo := IntKind.wrap .u64 (a0.Lo + a1.Lo) } : Wide), rfl, hd⟩))))))))

theorem W_ref02_Add {I : IH} {a0 : Int} {a1 : Wide} {a2 : Wide}  {Q : Wide → Prop}  (hd : ref02_Add a0 a1 a2 Q) :
    PFun Try.prog 61 [.int .i64 a0, .agg (encWide a1).toArray, .agg (encWide a2).toArray] I (fun I_ v => ∃ r, v = .agg (encWide r).toArray ∧ Q r) := by
 refine Fun.enter func61 rfl ntmps61 rfl (.c (.c (.c .n))) fun w0 M => ?_
 refine .seq (.region (.boxA rfl rfl rfl fun b7 => ?_))
 refine .boxA rfl rfl rfl fun b9 => ?_
 refine .allocA zeroValue92 rfl rfl fun b11 => ?_
 refine .nilS [6, 5, 4, 0] rfl rfl (.seq (.region (.skips 1 rfl (.nilS [7, 6, 5, 4] rfl rfl (.block (.seq ?_))))))
 refine Cod.joinQ (σ := Bool) hd (fun (s17 : Bool) c w => ∃ I_, IH.le I I_ ∧ Ok ⟨35, [], none⟩ [(4, .pointer (some ⟨b7, 0, none⟩)), (5, .pointer (some ⟨b9, 0, none⟩)), (6, .pointer (some ⟨b11, 0, none⟩)), (7, .int .i64 a0), (9, .bool s17)] c ∧ Sym w0 M I I_ [pto b7 (.cells #[.int .i64 a1.Hi, .int .u64 a1.Lo] 92 (0, 0)), pto b9 (.cells #[.int .i64 a2.Hi, .int .u64 a2.Lo] 92 (0, 0)), pto b11 (.cells #[.int .i64 0, .int .u64 0] 92 (0, 0))] w) (fun k18 hd => ?_) ?_
 · skip
   refine .seq (.region (.eq rfl rfl rfl rfl (.skips 1 rfl (.nilS [9, 7, 6, 5, 4] rfl rfl (.condP rfl hd (fun hb19 hd => ?_) fun hb19 hd => ?_)))))
   · exact .skip' fun c w ho hs => ⟨(a0 == 1), hd, I, (.refl _), ho.sub ⟨rfl, rfl, rfl, rfl, rfl, trivial⟩, hs.pick (.c (.s (.s .z)) (.c (.s .z) (.c .z .n)))⟩
   refine .seq (.region (.eq rfl rfl rfl rfl (.sub (E' := [(4, _), (5, _), (6, _), (7, _), (11, _)]) ⟨rfl, rfl, rfl, rfl, rfl, trivial⟩ (.skips 1 rfl (.nilS [9, 7, 6, 5, 4] rfl rfl (.condP rfl hd (fun hb20 hd => ?_) fun hb20 hd => ?_))))))
   · exact .skip' fun c w ho hs => ⟨(a0 == 3), hd, I, (.refl _), ho.sub ⟨rfl, rfl, rfl, rfl, rfl, trivial⟩, hs.pick (.c (.s (.s .z)) (.c (.s .z) (.c .z .n)))⟩
   exact .region (.eq rfl rfl rfl rfl (.sub (E' := [(4, _), (5, _), (6, _), (7, _), (12, _)]) ⟨rfl, rfl, rfl, rfl, rfl, trivial⟩ (.skips 1 rfl (.nil' fun c w ho hs => ⟨(a0 == 4), hd, I, (.refl _), ho.sub ⟨rfl, rfl, rfl, rfl, rfl, trivial⟩, hs.pick (.c (.s (.s .z)) (.c (.s .z) (.c .z .n)))⟩))))
 rintro s17 hd c w hst
 obtain ⟨I21, hl22, hok, hsym⟩ := hst
 have le23 := IH.le.trans (.refl _) hl22
 refine Cod.at hok hsym (.condP rfl hd (fun hb24 hd => ?_) fun hb24 hd => ?_)
 · refine .seq (.seq (.region (.loadW isAgg92 sizeOf92 rfl (.s .z) rfl rfl rfl (.loadW isAgg92 sizeOf92 rfl .z rfl rfl rfl ?_))))
   have hw26 := W_ref01_Compare (I := I21) hd
   refine .callP call73 rfl hw26 rfl rfl fun v27 hv28 => ?_
   obtain ⟨r25, rfl, hd⟩ := hv28
   refine .lt rfl rfl rfl rfl (.nilS [16, 6, 5, 4] rfl rfl (.condP rfl hd (fun hb29 hd => ?_) fun hb29 hd => ?_))
   · exact .seq (.region (.loadW isAgg92 sizeOf92 rfl (.s .z) rfl rfl rfl (.storeA sizeOf92 rfl rfl (.s (.s .z)) (.t (.t .nil)) rfl rfl (.nilS [6] rfl rfl (.drop .z (.drop .z (.ret (pret results61 (.w isAgg92 sizeOf92 rfl .z rfl .n) le23 ⟨a2, rfl, hd⟩))))))))
   exact .skipS [6, 4] rfl rfl (.drop (.s .z) (.seq (.region (.loadW isAgg92 sizeOf92 rfl .z rfl rfl rfl (.storeA sizeOf92 rfl rfl (.s .z) (.t (.t .nil)) rfl rfl (.nilS [6] rfl rfl (.drop .z (.ret (pret results61 (.w isAgg92 sizeOf92 rfl .z rfl .n) le23 ⟨a1, rfl, hd⟩)))))))))
 refine .seq (.region (.eq rfl rfl rfl rfl (.skips 1 rfl (.nilS [19, 7, 6, 5, 4] rfl rfl (.condP rfl hd (fun hb30 hd => ?_) fun hb30 hd => ?_)))))
 · refine .seq (.region (.loadW isAgg92 sizeOf92 rfl .z rfl rfl rfl (.build zeroValue92 underlying92 BI92 .n (by exact trivial) rfl rfl (.neV rfl rfl (EQ92 a1 ({ Hi := 0, Lo := 0 } : Wide)) (EG92 _ _ _ _ _) rfl rfl rfl (.skips 1 rfl ?_)))))
   refine splitP hd (fun hb31 hd => ?_) fun hb31 hd => ?_
   · rw [hb31]
     refine .skips 4 rfl ?_
     have hw33 := W_ref02_truth (I := I21) hd
     refine .callP call74 rfl hw33 rfl rfl fun v34 hv35 => ?_
     obtain ⟨r32, rfl, hd⟩ := hv35
     exact .storeA sizeOf92 rfl rfl (.s (.s .z)) (.t (.t .nil)) rfl rfl (.nilS [6] rfl rfl (.drop .z (.drop .z (.ret (pret results61 (.w isAgg92 sizeOf92 rfl .z rfl .n) le23 ⟨r32, rfl, hd⟩)))))
   rw [hb31]
   refine .gyes rfl rfl rfl (.loadW isAgg92 sizeOf92 rfl (.s .z) rfl rfl rfl (.gyes rfl rfl rfl (.build zeroValue92 underlying92 BI92 .n (by exact trivial) rfl rfl (.gyes rfl rfl rfl (.neV rfl rfl (EQ92 a2 ({ Hi := 0, Lo := 0 } : Wide)) (EG92 _ _ _ _ _) rfl rfl rfl (.skips 1 rfl ?_))))))
   have hw37 := W_ref02_truth (I := I21) hd
   refine .callP call74 rfl hw37 rfl rfl fun v38 hv39 => ?_
   obtain ⟨r36, rfl, hd⟩ := hv39
   exact .storeA sizeOf92 rfl rfl (.s (.s .z)) (.t (.t .nil)) rfl rfl (.nilS [6] rfl rfl (.drop .z (.drop .z (.ret (pret results61 (.w isAgg92 sizeOf92 rfl .z rfl .n) le23 ⟨r36, rfl, hd⟩)))))
 refine .seq (.region (.eq rfl rfl rfl rfl (.skips 1 rfl (.nilS [30, 6, 5, 4] rfl rfl (.condP rfl hd (fun hb40 hd => ?_) fun hb40 hd => ?_)))))
 · refine .seq (.region (.loadW isAgg92 sizeOf92 rfl .z rfl rfl rfl (.loadW isAgg92 sizeOf92 rfl (.s .z) rfl rfl rfl ?_)))
   have hw42 := W_ref01_Add (I := I21) hd
   refine .callP call75 rfl hw42 rfl rfl fun v43 hv44 => ?_
   obtain ⟨r41, rfl, hd⟩ := hv44
   exact .storeA sizeOf92 rfl rfl (.s (.s .z)) (.t (.t .nil)) rfl rfl (.nilS [6] rfl rfl (.drop .z (.drop .z (.ret (pret results61 (.w isAgg92 sizeOf92 rfl .z rfl .n) le23 ⟨r41, rfl, hd⟩)))))
 exact .seq (.region (.build zeroValue92 underlying92 BI92 .n (by exact trivial) rfl rfl (.storeA sizeOf92 rfl rfl (.s (.s .z)) (.t (.t .nil)) rfl rfl (.nilS [6] rfl rfl (.drop .z (.drop .z (.ret (pret results61 (.w isAgg92 sizeOf92 rfl .z rfl .n) le23 ⟨({ Hi := 0, Lo := 0 } : Wide), rfl, hd⟩))))))))

theorem W_ref01_Narrow {I : IH} {a0 : Wide}  {Q : (Int × Bool) → Prop}  (hd : ref01_Narrow a0 Q) :
    PFun Try.prog 62 [.agg (encWide a0).toArray] I (fun I_ v => ∃ r, v = .tuple #[.int .i64 r.1, .bool r.2] ∧ Q r) := by
 refine Fun.enter func62 rfl ntmps62 rfl (.c .n) fun w0 M => ?_
 refine .seq (.region (.boxA rfl rfl rfl fun b3 => ?_))
 refine .skips 2 rfl (.nilS [1] rfl rfl (.seq (.region (.fieldAddr underlying92 rfl sizeOf90 rfl (o := 1) rfl rfl rfl (.load1 isAgg90 rfl .z rfl rfl rfl (.conv underlying90 underlying2 rfl rfl rfl (.skips 1 rfl (.nilS [4, 1] rfl rfl (.seq ?_)))))))))
 refine .seq (.region (.fieldAddr underlying92 rfl sizeOf2 rfl (o := 0) rfl rfl rfl (.load1 isAgg2 rfl .z rfl rfl rfl (.eq rfl rfl rfl rfl (.skips 1 rfl ?_)))))
 refine splitP hd (fun hb5 hd => ?_) fun hb5 hd => ?_
 · rw [hb5]
   refine .gyes rfl rfl rfl (.move rfl rfl rfl (.gyes rfl rfl rfl (.ge rfl rfl rfl rfl (.skips 2 rfl ?_))))
   refine splitP hd (fun hb6 hd => ?_) fun hb6 hd => ?_
   · rw [hb6]
     refine .skips 4 rfl (.gnoU rfl rfl rfl rfl (.gnoU rfl rfl rfl rfl (.skips 2 rfl (.nilS [23, 4] rfl rfl (.drop .z (.condKT rfl rfl (.seq (.region (.skips 3 rfl ?_)))))))))
     exact .nilS [3, 2] rfl rfl (.ret (pret results62 (.t rfl (.t rfl .n)) (.refl _) ⟨(w64 (a0.Lo), true), rfl, hd⟩))
   rw [hb6]
   refine .gyes rfl rfl rfl (.fieldAddr underlying92 rfl sizeOf2 rfl (o := 0) rfl rfl rfl (.gyes rfl rfl rfl (.load1 isAgg2 rfl .z rfl rfl rfl (.gyes rfl rfl rfl (.eq rfl rfl rfl rfl (.gyes rfl rfl rfl (.move rfl rfl rfl ?_)))))))
   refine splitP hd (fun hb7 hd => ?_) fun hb7 hd => ?_
   · rw [hb7]
     refine .gyes rfl rfl rfl (.move rfl rfl rfl (.gyes rfl rfl rfl (.lt rfl rfl rfl rfl (.gyes rfl rfl rfl (.pickT rfl rfl rfl rfl rfl (.skips 1 rfl (.nilS [23, 4] rfl rfl (.drop .z (.condP rfl hd (fun hb8 hd => ?_) fun hb8 hd => ?_)))))))))
     · exact .seq (.region (.skips 3 rfl (.nilS [3, 2] rfl rfl (.ret (pret results62 (.t rfl (.t rfl .n)) (.refl _) ⟨(w64 (a0.Lo), true), rfl, hd⟩)))))
     exact .skipS [] rfl rfl (.seq (.region (.skips 2 rfl (.nilS [3, 2] rfl rfl (.ret (pret results62 (.t rfl (.t rfl .n)) (.refl _) ⟨(0, false), rfl, hd⟩))))))
   rw [hb7]
   refine .skips 2 rfl (.gyes rfl rfl rfl (.pickF rfl rfl rfl rfl rfl (.skips 1 rfl (.nilS [23, 4] rfl rfl (.drop .z (.condKF rfl rfl (.skipS [] rfl rfl (.seq (.region (.skips 2 rfl ?_))))))))))
   exact .nilS [3, 2] rfl rfl (.ret (pret results62 (.t rfl (.t rfl .n)) (.refl _) ⟨(0, false), rfl, hd⟩))
 rw [hb5]
 refine .skips 4 rfl (.gyes rfl rfl rfl (.fieldAddr underlying92 rfl sizeOf2 rfl (o := 0) rfl rfl rfl (.gyes rfl rfl rfl (.load1 isAgg2 rfl .z rfl rfl rfl (.gyes rfl rfl rfl (.eq rfl rfl rfl rfl (.gyes rfl rfl rfl (.move rfl rfl rfl ?_))))))))
 refine splitP hd (fun hb9 hd => ?_) fun hb9 hd => ?_
 · rw [hb9]
   refine .gyes rfl rfl rfl (.move rfl rfl rfl (.gyes rfl rfl rfl (.lt rfl rfl rfl rfl (.gyes rfl rfl rfl (.pickT rfl rfl rfl rfl rfl (.skips 1 rfl (.nilS [23, 4] rfl rfl (.drop .z (.condP rfl hd (fun hb10 hd => ?_) fun hb10 hd => ?_)))))))))
   · exact .seq (.region (.skips 3 rfl (.nilS [3, 2] rfl rfl (.ret (pret results62 (.t rfl (.t rfl .n)) (.refl _) ⟨(w64 (a0.Lo), true), rfl, hd⟩)))))
   exact .skipS [] rfl rfl (.seq (.region (.skips 2 rfl (.nilS [3, 2] rfl rfl (.ret (pret results62 (.t rfl (.t rfl .n)) (.refl _) ⟨(0, false), rfl, hd⟩))))))
 rw [hb9]
 refine .skips 2 rfl (.gyes rfl rfl rfl (.pickF rfl rfl rfl rfl rfl (.skips 1 rfl (.nilS [23, 4] rfl rfl (.drop .z (.condKF rfl rfl (.skipS [] rfl rfl (.seq (.region (.skips 2 rfl ?_))))))))))
 exact .nilS [3, 2] rfl rfl (.ret (pret results62 (.t rfl (.t rfl .n)) (.refl _) ⟨(0, false), rfl, hd⟩))

theorem W_ref05_Combine {I : IH} {a0 : Int} {a1 : List Edge} {p1 : Option Addr} {c2 : Nat} {Q : ((List Edge) × Int) → Prop} (R3 : RepSl eEdge I p1 c2 a1) (hd : ref05_Combine a0 a1 Q) :
    PFun Try.prog 43 [.int .i64 a0, .slice p1 a1.length c2] I (fun I_ v => ∃ r p4 c5, v = .tuple #[.slice p4 r.1.length c5, .int .i64 r.2] ∧ RepSl eEdge I_ p4 c5 r.1 ∧ Q r) := by
 refine Fun.enter func43 rfl ntmps43 rfl (.c (.c .n)) fun w0 M => ?_
 refine .seq (.region (.skips 2 rfl (.nilS [1, 0] rfl rfl (.seq (.seq (.region (.skips 1 rfl ?_)))))))
 have hw13 := W_ref02_Is (I := I) hd
 refine .callP call42 rfl hw13 rfl rfl fun v14 hv15 => ?_
 obtain ⟨r12, rfl, hd⟩ := hv15
 refine .not rfl rfl rfl (.nilS [17, 1, 0] rfl rfl (.condP rfl hd (fun hb16 hd => ?_) fun hb16 hd => ?_))
 · exact .seq (.region (.skips 2 rfl (.nilS [5, 4] rfl rfl (.ret (pret results43 (.t rfl (.t rfl .n)) (.refl _) ⟨(([] : List Edge), 8), _, _, rfl, (.nil _ _ _), hd⟩)))))
 refine .skipS [1, 0] rfl rfl (.seq (.region (.skips 1 rfl (.nilS [6, 1, 0] rfl rfl (.seq (.region (.skips 1 rfl (.nilS [7, 6, 1, 0] rfl rfl (.seq ?_)))))))))
 refine .seq (.region (.skips 1 rfl (.nilS [8, 7, 6, 1, 0] rfl rfl (.block (.own0 eEdge 74 (.own0 eWide 92 (.loop hd (fun (s : (List Edge) × (List Wide) × Int) c w => match s with | (s2689, s2693, s2697) => ∃ I_ p2690 c2691 p2694 c2695, IH.le I I_ ∧ Ok ⟨145, [], none⟩ [(0, .int .i64 a0), (1, .slice p1 a1.length c2), (6, .slice p2690 s2689.length c2691), (7, .slice p2694 s2693.length c2695), (8, .int .i64 s2697)] c ∧ Sym w0 M I I_ [OwnSl eEdge 74 p2690 c2691 s2689, OwnSl eWide 92 p2694 c2695 s2693] w) (fun c w ho hs => ⟨I, _, _, _, _, (.refl _), ho.sub ⟨rfl, rfl, rfl, rfl, rfl, trivial⟩, hs.pick (.c (.s .z) (.c .z .n))⟩) ?_)))))))
 rintro ⟨s2689, s2693, s2697⟩ next2700 hd c w hst
 obtain ⟨I2701, p2690, c2691, p2694, c2695, hl2702, hok, hsym⟩ := hst
 have le2703 := IH.le.trans (.refl _) hl2702
 replace R3 := R3.mono hl2702
 refine Cod.at hok hsym (.seq (.seq (.region (.skips 2 rfl (.len underlying72 rfl rfl rfl rfl (.lt rfl rfl rfl rfl (.nilS [21, 8, 7, 6, 1, 0] rfl rfl (.condP rfl hd (fun hb2705 hd => ?_) fun hb2705 hd => ?_))))))))
 · refine .skipS [8, 7, 6, 1, 0] rfl rfl (.seq (.block (.seq (.region (.skips 1 rfl (.nilS [9, 8, 7, 6, 1, 0] rfl rfl (.seq ?_)))))))
   refine Cod.joinQ (σ := Int) hd (fun (s2856 : Int) c w => ∃ I_, IH.le I2701 I_ ∧ Ok ⟨145, [], none⟩ [(0, .int .i64 a0), (1, .slice p1 a1.length c2), (6, .slice p2690 s2689.length c2691), (7, .slice p2694 s2693.length c2695), (8, .int .i64 s2697), (9, .int .i64 s2856)] c ∧ Sym w0 M I I_ [OwnSl eEdge 74 p2690 c2691 s2689, OwnSl eWide 92 p2694 c2695 s2693] w) (fun k2857 hd => ?_) ?_
   · skip
     refine .block (.loop hd (fun (s2905 : Int) c w => ∃ I_, IH.le I2701 I_ ∧ Ok ⟨145, [], none⟩ [(0, .int .i64 a0), (1, .slice p1 a1.length c2), (6, .slice p2690 s2689.length c2691), (7, .slice p2694 s2693.length c2695), (8, .int .i64 s2697), (9, .int .i64 s2905)] c ∧ Sym w0 M I I_ [OwnSl eEdge 74 p2690 c2691 s2689, OwnSl eWide 92 p2694 c2695 s2693] w) (fun c w ho hs => ⟨I2701, (.refl _), ho.sub ⟨rfl, rfl, rfl, rfl, rfl, rfl, trivial⟩, hs.pick (.c .z (.c .z .n))⟩) ?_)
     rintro s2905 next2906 hd c w hst
     obtain ⟨I2907, hl2908, hok, hsym⟩ := hst
     have le2909 := IH.le.trans le2703 hl2908
     have le2910 := IH.le.trans (.refl _) hl2908
     replace R3 := R3.mono hl2908
     refine Cod.at hok hsym (.seq (.seq (.ownF .z fun hne2911 => ?_)))
     refine .ownF (.s .z) fun hne2912 => ?_
     refine .draw [some 0, some 1, some 2, some 3, some 4, some 5, some 6, some 7, some 8, some 9, some 10, some 11, some 12, some 13, some 14] 15 MX (by kernel_rfl) (by kernel_rfl) (by kernel_rfl) (by kernel_rfl) (by kernel_rfl) (by kernel_rfl) (by kernel_rfl) (fun ex => (OwnSl eEdge 74 p2690 c2691 s2689) :: (OwnSl eWide 92 p2694 c2695 s2693) :: ex) (fun _ _ => (.s (.s .z))) rfl (.fs [[], []] rfl (by kernel_rfl) (.f [1] rfl (by kernel_rfl) rfl rfl (fun ex => .len underlying72 rfl rfl rfl rfl .mk) (.f [0, 2] rfl (by kernel_rfl) rfl rfl (fun ex => .lt rfl rfl rfl rfl .mk) (.fs [[3]] rfl (by kernel_rfl) ?_))))
     refine splitP hd (fun hb2913 hd => ?_) fun hb2913 hd => ?_
     · refine .f [4] rfl (by kernel_rfl) rfl rfl (fun ex => .gyes rfl rfl hb2913 (.move rfl rfl rfl .mk)) (.f [4] rfl (by kernel_rfl) rfl rfl (fun ex => .gyes rfl rfl hb2913 (.move rfl rfl rfl .mk)) ?_)
       obtain ⟨h2914, x2915, hx2916, hd⟩ := hd
       obtain ⟨b2917, e2918⟩ := hne2911 (idx_ne hx2916)
       cases e2918
       refine .f [5, 6, 4] rfl (by kernel_rfl) rfl rfl (fun ex => .gyes rfl rfl hb2913 (.ixa0 underlying72 sizeOf74 rfl rfl h2914 (idx_lt hx2916 h2914) rfl rfl .mk)) (.f [7, 4] rfl (by kernel_rfl) rfl rfl (fun ex => .gyes rfl rfl hb2913 (.loA (j := 0) isAgg74 sizeOf74 .z hx2916 rfl rfl (.t (.t (.t .nil))) rfl rfl rfl .mk)) (.f [4] rfl (by kernel_rfl) rfl rfl (fun ex => .gyes rfl rfl hb2913 (.move rfl rfl rfl .mk)) (.f [4] rfl (by kernel_rfl) rfl rfl (fun ex => .gyes rfl rfl hb2913 (.move rfl rfl rfl .mk)) ?_)))
       obtain ⟨h2919, x2920, hx2921, hd⟩ := hd
       obtain ⟨b2922, o2923, cs2924, e2925, hC2926, hr2927⟩ := R3.2 _ _ hx2921
       cases hr2927
       refine .f [9, 10, 4] rfl (by kernel_rfl) rfl rfl (fun ex => .gyes rfl rfl hb2913 (.ixa underlying72 sizeOf74 rfl e2925 rfl h2919 (idx_lt hx2921 h2919) rfl rfl .mk)) (.f [11, 4] rfl (by kernel_rfl) rfl rfl (fun ex => .gyes rfl rfl hb2913 (.ldW isAgg74 sizeOf74 hC2926 rfl rfl rfl rfl .mk)) (.w [] [[], [12], [11, 12], [11, 12], [], [8], [7, 8], [7, 8], [], [4], [3, 4], [2, 3, 4], [3, 4]] [8, 12, 4, 4] rfl (by kernel_rfl) (by kernel_rfl) (by kernel_rfl) ((dropE_kept rfl rfl)) (.inr (dropE_kept rfl rfl)) fun ex => ?_))
       have hw2929 := W_ref05_below (I := I2907) hd
       refine .gyes rfl rfl hb2913 (.callP call59 rfl hw2929 rfl rfl fun v2930 hv2931 => ?_)
       obtain ⟨r2928, rfl, hd⟩ := hv2931
       refine .some (fun ex => (OwnSl eEdge 74 (some ⟨b2917, 0, none⟩) c2691 s2689) :: (OwnSl eWide 92 p2694 c2695 s2693) :: ex) rfl (fun _ _ => (.s (.s .z))) rfl trivial (.f [4, 13] rfl (by kernel_rfl) rfl rfl (fun ex => .pickT rfl hb2913 rfl rfl rfl .mk) (.e 15 (by kernel_rfl) (by kernel_rfl) (by kernel_rfl) (.nilS [38, 9, 8, 7, 6, 1, 0] rfl rfl (.condP rfl hd (fun hb2932 hd => ?_) fun hb2932 hd => ?_))))
       · exact .skipS [9, 8, 7, 6, 1, 0] rfl rfl (.block (.region (.skips 1 rfl (.add rfl rfl rfl rfl (.sub (E' := [(0, _), (1, _), (6, _), (7, _), (8, _), (39, _), (40, _)]) ⟨rfl, rfl, rfl, rfl, rfl, rfl, rfl, trivial⟩ (.skips 1 rfl (.nil' fun c w ho hs => ⟨(w64 (s2905 + 1)), hd, I2907, le2910, ho.sub ⟨rfl, rfl, rfl, rfl, rfl, rfl, trivial⟩, hs.pick (.c .z (.c .z .n))⟩)))))))
       exact .exit fun c w ho hs => ⟨s2905, hd, I2907, le2910, ho.sub ⟨rfl, rfl, rfl, rfl, rfl, rfl, trivial⟩, hs.pick (.c .z (.c .z .n))⟩
     refine .f [4] rfl (by kernel_rfl) rfl rfl (fun ex => .gno rfl rfl hb2913 rfl rfl .mk) (.f [4] rfl (by kernel_rfl) rfl rfl (fun ex => .gno rfl rfl hb2913 rfl rfl .mk) (.f [5, 6, 4] rfl (by kernel_rfl) rfl rfl (fun ex => .gno rfl rfl hb2913 rfl rfl .mk) (.f [7, 4] rfl (by kernel_rfl) rfl rfl (fun ex => .gno rfl rfl hb2913 rfl rfl .mk) (.f [4] rfl (by kernel_rfl) rfl rfl (fun ex => .gno rfl rfl hb2913 rfl rfl .mk) (.f [4] rfl (by kernel_rfl) rfl rfl (fun ex => .gno rfl rfl hb2913 rfl rfl .mk) (.f [9, 10, 4] rfl (by kernel_rfl) rfl rfl (fun ex => .gno rfl rfl hb2913 rfl rfl .mk) (.f [11, 4] rfl (by kernel_rfl) rfl rfl (fun ex => .gno rfl rfl hb2913 rfl rfl .mk) (.f [8, 12, 4, 4] rfl (by kernel_rfl) rfl rfl (fun ex => .gno rfl rfl hb2913 rfl rfl .mk) (.f [4, 13] rfl (by kernel_rfl) rfl rfl (fun ex => .pickF rfl hb2913 rfl rfl rfl .mk) ?_)))))))))
     exact .e 15 (by kernel_rfl) (by kernel_rfl) (by kernel_rfl) (.nilS [38, 9, 8, 7, 6, 1, 0] rfl rfl (.condKF rfl rfl (.exit fun c w ho hs => ⟨s2905, hd, I2907, le2910, ho.sub ⟨rfl, rfl, rfl, rfl, rfl, rfl, trivial⟩, hs.pick (.c .z (.c .z .n))⟩)))
   rintro s2856 hd c w hst
   obtain ⟨I2933, hl2934, hok, hsym⟩ := hst
   have le2935 := IH.le.trans le2703 hl2934
   have le2936 := IH.le.trans (.refl _) hl2934
   replace R3 := R3.mono hl2934
   refine Cod.at hok hsym (.seq (.region (.skips 2 rfl ?_)))
   obtain ⟨h2952, x2953, hx2954, hd⟩ := hd
   obtain ⟨b2955, o2956, cs2957, e2958, hC2959, hr2960⟩ := R3.2 _ _ hx2954
   cases hr2960
   refine .ixa underlying72 sizeOf74 rfl e2958 rfl h2952 (idx_lt hx2954 h2952) rfl rfl (.fieldAddr underlying74 rfl sizeOf2 rfl (o := o2956 + s2697.toNat * 3 + 2) rfl rfl rfl (.ld1 (j := 2) isAgg2 hC2959 rfl rfl rfl rfl rfl ?_))
   have hw2962 := W_ref01_Of (I := I2933) hd
   refine .callP call60 rfl hw2962 rfl rfl fun v2963 hv2964 => ?_
   obtain ⟨r2961, rfl, hd⟩ := hv2964
   refine .allocA zeroValue92 rfl rfl fun b2965 => ?_
   refine .storeA sizeOf92 rfl rfl .z (.t (.t .nil)) rfl rfl (.nilS [10, 9, 8, 7, 6, 1, 0] rfl rfl (.seq (.seq ?_)))
   refine Cod.joinQ (σ := Bool) hd (fun (s3094 : Bool) c w => ∃ I_, IH.le I2933 I_ ∧ Ok ⟨145, [], none⟩ [(0, .int .i64 a0), (1, .slice p1 a1.length c2), (6, .slice p2690 s2689.length c2691), (7, .slice p2694 s2693.length c2695), (8, .int .i64 s2697), (9, .int .i64 s2856), (10, .pointer (some ⟨b2965, 0, none⟩)), (62, .bool s3094)] c ∧ Sym w0 M I I_ [OwnSl eEdge 74 p2690 c2691 s2689, OwnSl eWide 92 p2694 c2695 s2693, pto b2965 (.cells #[.int .i64 r2961.Hi, .int .u64 r2961.Lo] 92 (0, 0))] w) (fun k3095 hd => ?_) ?_
   · skip
     refine .ownF (.s .z) fun hne3096 => ?_
     refine .ownF (.s (.s .z)) fun hne3097 => ?_
     refine .draw [some 0, some 1, some 2, some 3, some 4, some 5, some 6, some 7, some 8, some 9, some 10, some 11, some 12, some 13, some 14, some 15] 16 MX (by kernel_rfl) (by kernel_rfl) (by kernel_rfl) (by kernel_rfl) (by kernel_rfl) (by kernel_rfl) (by kernel_rfl) (fun ex => (pto b2965 (.cells #[.int .i64 r2961.Hi, .int .u64 r2961.Lo] 92 (0, 0))) :: (OwnSl eEdge 74 p2690 c2691 s2689) :: (OwnSl eWide 92 p2694 c2695 s2693) :: ex) (fun _ _ => (.s (.s (.s .z)))) rfl (.fs [[], []] rfl (by kernel_rfl) (.f [1] rfl (by kernel_rfl) rfl rfl (fun ex => .len underlying72 rfl rfl rfl rfl .mk) (.f [0, 2] rfl (by kernel_rfl) rfl rfl (fun ex => .lt rfl rfl rfl rfl .mk) (.fs [[3]] rfl (by kernel_rfl) ?_))))
     refine splitP hd (fun hb3098 hd => ?_) fun hb3098 hd => ?_
     · refine .f [4] rfl (by kernel_rfl) rfl rfl (fun ex => .gyes rfl rfl hb3098 (.move rfl rfl rfl .mk)) (.f [4] rfl (by kernel_rfl) rfl rfl (fun ex => .gyes rfl rfl hb3098 (.move rfl rfl rfl .mk)) ?_)
       obtain ⟨h3099, x3100, hx3101, hd⟩ := hd
       obtain ⟨b3102, o3103, cs3104, e3105, hC3106, hr3107⟩ := R3.2 _ _ hx3101
       cases hr3107
       refine .f [5, 6, 4] rfl (by kernel_rfl) rfl rfl (fun ex => .gyes rfl rfl hb3098 (.ixa underlying72 sizeOf74 rfl e3105 rfl h3099 (idx_lt hx3101 h3099) rfl rfl .mk)) (.f [7, 4] rfl (by kernel_rfl) rfl rfl (fun ex => .gyes rfl rfl hb3098 (.ldW isAgg74 sizeOf74 hC3106 rfl rfl rfl rfl .mk)) (.f [4] rfl (by kernel_rfl) rfl rfl (fun ex => .gyes rfl rfl hb3098 (.move rfl rfl rfl .mk)) (.f [4] rfl (by kernel_rfl) rfl rfl (fun ex => .gyes rfl rfl hb3098 (.move rfl rfl rfl .mk)) ?_)))
       obtain ⟨h3108, x3109, hx3110, hd⟩ := hd
       obtain ⟨b3111, e3112⟩ := hne3096 (idx_ne hx3110)
       cases e3112
       refine .f [9, 10, 4] rfl (by kernel_rfl) rfl rfl (fun ex => .gyes rfl rfl hb3098 (.ixa0 underlying72 sizeOf74 rfl rfl h3108 (idx_lt hx3110 h3108) rfl rfl .mk)) (.f [11, 4] rfl (by kernel_rfl) rfl rfl (fun ex => .gyes rfl rfl hb3098 (.loA (j := 0) isAgg74 sizeOf74 (.s .z) hx3110 rfl rfl (.t (.t (.t .nil))) rfl rfl rfl .mk)) (.w [] [[], [12], [11, 12], [11, 12], [], [8], [7, 8], [7, 8], [], [4], [3, 4], [2, 3, 4], [3, 4]] [8, 12, 4, 4] rfl (by kernel_rfl) (by kernel_rfl) (by kernel_rfl) ((dropE_kept rfl rfl)) (.inr (dropE_kept rfl rfl)) fun ex => ?_))
       have hw3114 := W_ref05_below (I := I2933) hd
       refine .gyes rfl rfl hb3098 (.callP call59 rfl hw3114 rfl rfl fun v3115 hv3116 => ?_)
       obtain ⟨r3113, rfl, hd⟩ := hv3116
       exact .some (fun ex => (pto b2965 (.cells #[.int .i64 r2961.Hi, .int .u64 r2961.Lo] 92 (0, 0))) :: (OwnSl eEdge 74 (some ⟨b3111, 0, none⟩) c2691 s2689) :: (OwnSl eWide 92 p2694 c2695 s2693) :: ex) rfl (fun _ _ => (.s (.s (.s .z)))) rfl trivial (.f [13, 4] rfl (by kernel_rfl) rfl rfl (fun ex => .gyes rfl rfl hb3098 (.not rfl rfl rfl .mk)) (.f [4, 14] rfl (by kernel_rfl) rfl rfl (fun ex => .pickT rfl hb3098 rfl rfl rfl .mk) (.e 16 (by kernel_rfl) (by kernel_rfl) (by kernel_rfl) (.nil' fun c w ho hs => ⟨(!r3113), hd, I2933, (.refl _), ho.sub ⟨rfl, rfl, rfl, rfl, rfl, rfl, rfl, rfl, trivial⟩, hs.pick (.c (.s .z) (.c (.s .z) (.c .z .n)))⟩))))
     refine .f [4] rfl (by kernel_rfl) rfl rfl (fun ex => .gno rfl rfl hb3098 rfl rfl .mk) (.f [4] rfl (by kernel_rfl) rfl rfl (fun ex => .gno rfl rfl hb3098 rfl rfl .mk) (.f [5, 6, 4] rfl (by kernel_rfl) rfl rfl (fun ex => .gno rfl rfl hb3098 rfl rfl .mk) (.f [7, 4] rfl (by kernel_rfl) rfl rfl (fun ex => .gno rfl rfl hb3098 rfl rfl .mk) (.f [4] rfl (by kernel_rfl) rfl rfl (fun ex => .gno rfl rfl hb3098 rfl rfl .mk) (.f [4] rfl (by kernel_rfl) rfl rfl (fun ex => .gno rfl rfl hb3098 rfl rfl .mk) (.f [9, 10, 4] rfl (by kernel_rfl) rfl rfl (fun ex => .gno rfl rfl hb3098 rfl rfl .mk) (.f [11, 4] rfl (by kernel_rfl) rfl rfl (fun ex => .gno rfl rfl hb3098 rfl rfl .mk) (.f [8, 12, 4, 4] rfl (by kernel_rfl) rfl rfl (fun ex => .gno rfl rfl hb3098 rfl rfl .mk) (.f [13, 4] rfl (by kernel_rfl) rfl rfl (fun ex => .gno rfl rfl hb3098 rfl rfl .mk) ?_)))))))))
     exact .f [4, 14] rfl (by kernel_rfl) rfl rfl (fun ex => .pickF rfl hb3098 rfl rfl rfl .mk) (.e 16 (by kernel_rfl) (by kernel_rfl) (by kernel_rfl) (.nil' fun c w ho hs => ⟨false, hd, I2933, (.refl _), ho.sub ⟨rfl, rfl, rfl, rfl, rfl, rfl, rfl, rfl, trivial⟩, hs.pick (.c (.s .z) (.c (.s .z) (.c .z .n)))⟩))
   rintro s3094 hd c w hst
   obtain ⟨I3117, hl3118, hok, hsym⟩ := hst
   have le3119 := IH.le.trans le2935 hl3118
   have le3120 := IH.le.trans le2936 hl3118
   have le3121 := IH.le.trans (.refl _) hl3118
   replace R3 := R3.mono hl3118
   refine Cod.at hok hsym (.condP rfl hd (fun hb3122 hd => ?_) fun hb3122 hd => ?_)
   · refine .seq (.ownF .z fun hne3123 => ?_)
     refine .ownF (.s .z) fun hne3124 => ?_
     refine .draw [some 0, some 1, some 2, some 3, some 4, some 5, some 6, some 7, some 8] 9 MX (by kernel_rfl) (by kernel_rfl) (by kernel_rfl) (by kernel_rfl) (by kernel_rfl) (by kernel_rfl) (by kernel_rfl) (fun ex => (OwnSl eEdge 74 p2690 c2691 s2689) :: (OwnSl eWide 92 p2694 c2695 s2693) :: (pto b2965 (.cells #[.int .i64 r2961.Hi, .int .u64 r2961.Lo] 92 (0, 0))) :: ex) (fun _ _ => (.s (.s (.s .z)))) rfl (.fs [[], [], [], [], []] rfl (by kernel_rfl) ?_)
     obtain ⟨h3125, x3126, hx3127, hd⟩ := hd
     obtain ⟨b3128, e3129⟩ := hne3124 (idx_ne hx3127)
     cases e3129
     refine .f [3, 4] rfl (by kernel_rfl) rfl rfl (fun ex => .ixa0 underlying88 sizeOf92 rfl rfl h3125 (idx_lt hx3127 h3125) rfl rfl .mk) (.f [5] rfl (by kernel_rfl) rfl rfl (fun ex => .loA (j := 0) isAgg92 sizeOf92 (.s .z) hx3127 rfl rfl (.t (.t .nil)) rfl rfl rfl .mk) (.f [] rfl (by kernel_rfl) rfl rfl (fun ex => .loadW isAgg92 sizeOf92 rfl (.s (.s .z)) rfl rfl rfl .mk) (.w [1, 0] [[], [], [6], [5, 6], [5, 6], []] [2, 6, 7] rfl (by kernel_rfl) (by kernel_rfl) (by kernel_rfl) ((dropE_kept rfl rfl)) (.inr (dropE_kept rfl rfl)) fun ex => ?_)))
     have hw3131 := W_ref02_Add (I := I3117) hd
     refine .callP call61 rfl hw3131 rfl rfl fun v3132 hv3133 => ?_
     obtain ⟨r3130, rfl, hd⟩ := hv3133
     refine .some (fun ex => (OwnSl eEdge 74 p2690 c2691 s2689) :: (OwnSl eWide 92 (some ⟨b3128, 0, none⟩) c2695 s2693) :: (pto b2965 (.cells #[.int .i64 r2961.Hi, .int .u64 r2961.Lo] 92 (0, 0))) :: ex) rfl (fun _ _ => (.s (.s (.s .z)))) rfl (.ccs [[], []] rfl rfl (by kernel_rfl) trivial) (.e 9 (by kernel_rfl) (by kernel_rfl) (by kernel_rfl) ?_)
     obtain ⟨h3134, x3135, hx3136, hd⟩ := hd
     refine .ixa0 underlying88 sizeOf92 rfl rfl h3134 (idx_lt hx3136 h3134) rfl rfl (.stOA (j := 0) (v' := r3130) sizeOf92 (.s .z) hx3136 rfl rfl rfl (.t (.t .nil)) rfl rfl (.sub (E' := [(0, _), (1, _), (6, _), (7, .slice (some ⟨b3128, 0, none⟩) (s2693.set s2856.toNat r3130).length c2695), (8, _), (9, _), (10, _), (62, _), (63, .slice (some ⟨b3128, 0, none⟩) (s2693.set s2856.toNat r3130).length c2695), (64, _), (65, _), (66, .slice (some ⟨b3128, 0, none⟩) (s2693.set s2856.toNat r3130).length c2695), (67, _), (68, _), (69, _), (70, _), (71, _), (72, _)]) ⟨rfl, rfl, rfl, (by simp only [List.length_set]; rfl), rfl, rfl, rfl, rfl, (by simp only [List.length_set]; rfl), rfl, rfl, (by simp only [List.length_set]; rfl), rfl, rfl, rfl, rfl, rfl, rfl, trivial⟩ (.nilS [8, 7, 6, 1, 0] rfl rfl (.drop (.s (.s .z)) (.exitS [8, 7, 6, 1, 0] rfl rfl (.region (.skips 1 rfl (.add rfl rfl rfl rfl (.sub (E' := [(0, _), (1, _), (6, _), (7, _), (22, _), (23, _)]) ⟨rfl, rfl, rfl, rfl, rfl, rfl, trivial⟩ ?_)))))))))
     exact .skips 1 rfl (.nil' fun c w ho hs => ⟨(s2689, (s2693.set s2856.toNat r3130), w64 (s2697 + 1)), hd, I3117, _, _, _, _, le3119, ho.sub ⟨rfl, rfl, rfl, rfl, rfl, trivial⟩, hs.pick (.c .z (.c .z .n))⟩)
   refine .skipS [10, 9, 8, 7, 6, 1, 0] rfl rfl (.seq (.region (.skips 1 rfl (.build zeroValue74 underlying74 BI74 .n (by exact trivial) rfl rfl (.buildSlice 1 underlying72 sizeOf74 zeroValue74 rfl rfl (.c rfl rfl rfl .n) rfl rfl fun b3143 => ?_)))))
   obtain ⟨hl3145, hd⟩ := hd
   refine .append (ys := [({ From := 0, To := 0, W := 0 } : Edge)]) 24 (.s .z) underlying72 underlying72 IN74 rfl rfl rfl rfl rfl rfl rfl rfl rfl (.box .z (.one rfl) rfl) hl3145 rfl rfl fun p3146 c3147 => ?_
   refine .sub (E' := [(0, _), (1, _), (7, _), (8, _), (9, _), (10, _), (73, _), (74, _), (75, _), (76, _)]) ⟨rfl, rfl, rfl, rfl, rfl, rfl, rfl, rfl, rfl, rfl, trivial⟩ (.skips 1 rfl (.nilS [6, 10, 9, 8, 7, 1, 0] rfl rfl (.drop (.s .z) (.seq (.region (.skips 1 rfl (.build zeroValue92 underlying92 BI92 .n (by exact trivial) rfl rfl (.buildSlice 1 underlying88 sizeOf92 zeroValue92 rfl rfl (.c rfl rfl rfl .n) rfl rfl fun b3155 => ?_))))))))
   obtain ⟨hl3157, hd⟩ := hd
   refine .append (ys := [({ Hi := 0, Lo := 0 } : Wide)]) 16 (.s (.s .z)) underlying88 underlying88 IN92 rfl rfl rfl rfl rfl rfl rfl rfl rfl (.box .z (.one rfl) rfl) hl3157 rfl rfl fun p3158 c3159 => ?_
   refine .sub (E' := [(0, _), (1, _), (8, _), (9, _), (10, _), (6, _), (77, _), (78, _), (79, _), (80, _)]) ⟨rfl, rfl, rfl, rfl, rfl, rfl, rfl, rfl, rfl, rfl, trivial⟩ (.skips 1 rfl (.nilS [7, 6, 10, 9, 8, 1, 0] rfl rfl (.drop (.s .z) (.seq (.seq (.region (.skips 1 rfl (.len underlying72 rfl rfl rfl rfl (.sub' rfl rfl rfl rfl ?_)))))))))
   refine .skips 1 rfl (.nilS [11, 7, 6, 10, 9, 8, 1, 0] rfl rfl (.block (.loop hd (fun (s : (List Edge) × (List Wide) × Int) c w => match s with | (s3321, s3325, s3329) => ∃ I_ p3322 c3323 p3326 c3327, IH.le I3117 I_ ∧ Ok ⟨145, [], none⟩ [(0, .int .i64 a0), (1, .slice p1 a1.length c2), (6, .slice p3322 s3321.length c3323), (7, .slice p3326 s3325.length c3327), (8, .int .i64 s2697), (9, .int .i64 s2856), (10, .pointer (some ⟨b2965, 0, none⟩)), (11, .int .i64 s3329)] c ∧ Sym w0 M I I_ [OwnSl eEdge 74 p3322 c3323 s3321, OwnSl eWide 92 p3326 c3327 s3325, pto b2965 (.cells #[.int .i64 r2961.Hi, .int .u64 r2961.Lo] 92 (0, 0))] w) (fun c w ho hs => ⟨I3117, _, _, _, _, (.refl _), ho.sub ⟨rfl, rfl, rfl, rfl, rfl, rfl, rfl, rfl, trivial⟩, hs.pick (.c (.s .z) (.c .z (.c .z .n)))⟩) ?_)))
   rintro ⟨s3321, s3325, s3329⟩ next3330 hd c w hst
   obtain ⟨I3331, p3322, c3323, p3326, c3327, hl3332, hok, hsym⟩ := hst
   have le3333 := IH.le.trans le3119 hl3332
   have le3334 := IH.le.trans le3120 hl3332
   have le3335 := IH.le.trans le3121 hl3332
   have le3336 := IH.le.trans (.refl _) hl3332
   replace R3 := R3.mono hl3332
   refine Cod.at hok hsym (.seq (.seq (.region (.skips 2 rfl (.gt rfl rfl rfl rfl (.nilS [86, 11, 10, 9, 8, 7, 6, 1, 0] rfl rfl (.condP rfl hd (fun hb3338 hd => ?_) fun hb3338 hd => ?_)))))))
   · refine .skipS [11, 10, 9, 8, 7, 6, 1, 0] rfl rfl (.seq (.block (.seq (.region (.skips 4 rfl (.sub' rfl rfl rfl rfl ?_))))))
     obtain ⟨h3339, x3340, hx3341, hd⟩ := hd
     refine .ownNe .z (idx_ne hx3341) fun b3342 e3343 => ?_
     cases e3343
     refine .ixa0 underlying72 sizeOf74 rfl rfl h3339 (idx_lt hx3341 h3339) rfl rfl (.loA (j := 0) isAgg74 sizeOf74 .z hx3341 rfl rfl (.t (.t (.t .nil))) rfl rfl rfl ?_)
     obtain ⟨h3344, x3345, hx3346, hd⟩ := hd
     refine .ixa0 underlying72 sizeOf74 rfl rfl h3344 (idx_lt hx3346 h3344) rfl rfl (.stOA (j := 0) (v' := x3340) sizeOf74 .z hx3346 rfl rfl rfl (.t (.t (.t .nil))) rfl rfl (.sub (E' := [(0, _), (1, _), (6, .slice (some ⟨b3342, 0, none⟩) (s3321.set s3329.toNat x3340).length c3323), (7, _), (8, _), (9, _), (10, _), (11, _), (89, .slice (some ⟨b3342, 0, none⟩) (s3321.set s3329.toNat x3340).length c3323), (90, _), (91, .slice (some ⟨b3342, 0, none⟩) (s3321.set s3329.toNat x3340).length c3323), (92, _), (93, _), (94, _), (95, _), (96, _)]) ⟨rfl, rfl, (by simp only [List.length_set]; rfl), rfl, rfl, rfl, rfl, rfl, (by simp only [List.length_set]; rfl), rfl, (by simp only [List.length_set]; rfl), rfl, rfl, rfl, rfl, rfl, trivial⟩ (.nilS [11, 10, 9, 8, 7, 6, 1, 0] rfl rfl (.region (.skips 4 rfl (.sub' rfl rfl rfl rfl ?_))))))
     obtain ⟨h3347, x3348, hx3349, hd⟩ := hd
     refine .ownNe (.s .z) (idx_ne hx3349) fun b3350 e3351 => ?_
     cases e3351
     refine .ixa0 underlying88 sizeOf92 rfl rfl h3347 (idx_lt hx3349 h3347) rfl rfl (.loA (j := 0) isAgg92 sizeOf92 (.s .z) hx3349 rfl rfl (.t (.t .nil)) rfl rfl rfl ?_)
     obtain ⟨h3352, x3353, hx3354, hd⟩ := hd
     exact .ixa0 underlying88 sizeOf92 rfl rfl h3352 (idx_lt hx3354 h3352) rfl rfl (.stOA (j := 0) (v' := x3348) sizeOf92 (.s .z) hx3354 rfl rfl rfl (.t (.t .nil)) rfl rfl (.sub (E' := [(0, _), (1, _), (6, _), (7, .slice (some ⟨b3350, 0, none⟩) (s3325.set s3329.toNat x3348).length c3327), (8, _), (9, _), (10, _), (11, _), (97, .slice (some ⟨b3350, 0, none⟩) (s3325.set s3329.toNat x3348).length c3327), (98, _), (99, .slice (some ⟨b3350, 0, none⟩) (s3325.set s3329.toNat x3348).length c3327), (100, _), (101, _), (102, _), (103, _), (104, _)]) ⟨rfl, rfl, rfl, (by simp only [List.length_set]; rfl), rfl, rfl, rfl, rfl, (by simp only [List.length_set]; rfl), rfl, (by simp only [List.length_set]; rfl), rfl, rfl, rfl, rfl, rfl, trivial⟩ (.nilS [11, 10, 9, 8, 7, 6, 1, 0] rfl rfl (.region (.skips 1 rfl (.sub' rfl rfl rfl rfl (.sub (E' := [(0, _), (1, _), (6, _), (7, _), (8, _), (9, _), (10, _), (87, _), (88, _)]) ⟨rfl, rfl, rfl, rfl, rfl, rfl, rfl, rfl, rfl, trivial⟩ (.skips 1 rfl (.nil' fun c w ho hs => ⟨((s3321.set s3329.toNat x3340), (s3325.set s3329.toNat x3348), w64 (s3329 - 1)), hd, I3331, _, _, _, _, le3336, ho.sub ⟨rfl, rfl, rfl, rfl, rfl, rfl, rfl, rfl, trivial⟩, hs.pick (.c .z (.c .z (.c .z .n)))⟩)))))))))
   refine .exitS [10, 9, 8, 7, 6, 1, 0] rfl rfl (.seq (.ownF .z fun hne3355 => ?_))
   refine .ownF (.s .z) fun hne3356 => ?_
   refine .draw [some 0, some 1, some 2, some 3, some 4, some 5, some 6, some 7, some 8, some 9, some 10, some 11, some 12] 13 MX (by kernel_rfl) (by kernel_rfl) (by kernel_rfl) (by kernel_rfl) (by kernel_rfl) (by kernel_rfl) (by kernel_rfl) (fun ex => (OwnSl eEdge 74 p3322 c3323 s3321) :: (OwnSl eWide 92 p3326 c3327 s3325) :: (pto b2965 (.cells #[.int .i64 r2961.Hi, .int .u64 r2961.Lo] 92 (0, 0))) :: ex) (fun _ _ => (.s (.s (.s .z)))) rfl (.fs [[], [], [], []] rfl (by kernel_rfl) ?_)
   obtain ⟨h3357, x3358, hx3359, hd⟩ := hd
   obtain ⟨b3360, o3361, cs3362, e3363, hC3364, hr3365⟩ := R3.2 _ _ hx3359
   cases hr3365
   refine .f [2, 3] rfl (by kernel_rfl) rfl rfl (fun ex => .ixa underlying72 sizeOf74 rfl e3363 rfl h3357 (idx_lt hx3359 h3357) rfl rfl .mk) (.f [4] rfl (by kernel_rfl) rfl rfl (fun ex => .fieldAddr underlying74 rfl sizeOf3 rfl (o := o3361 + s2697.toNat * 3) rfl rfl rfl .mk) (.f [5] rfl (by kernel_rfl) rfl rfl (fun ex => .ld1 (j := 0) isAgg3 hC3364 rfl rfl rfl rfl rfl .mk) (.fs [[], []] rfl (by kernel_rfl) ?_)))
   obtain ⟨h3366, x3367, hx3368, hd⟩ := hd
   obtain ⟨b3369, o3370, cs3371, e3372, hC3373, hr3374⟩ := R3.2 _ _ hx3368
   cases hr3374
   refine .f [7, 8] rfl (by kernel_rfl) rfl rfl (fun ex => .ixa underlying72 sizeOf74 rfl e3372 rfl h3366 (idx_lt hx3368 h3366) rfl rfl .mk) (.f [9] rfl (by kernel_rfl) rfl rfl (fun ex => .fieldAddr underlying74 rfl sizeOf3 rfl (o := o3370 + s2697.toNat * 3 + 1) rfl rfl rfl .mk) (.f [10] rfl (by kernel_rfl) rfl rfl (fun ex => .ld1 (j := 1) isAgg3 hC3373 rfl rfl rfl rfl rfl .mk) (.f [6, 11] rfl (by kernel_rfl) rfl rfl (fun ex => .build zeroValue74 underlying74 BI74 (.c rfl rfl rfl (.t .nil) (.c rfl rfl rfl (.s (.t .nil)) .n)) (by exact ⟨⟨_, _, rfl, rfl, rfl⟩, ⟨⟨_, _, rfl, rfl, rfl⟩, trivial⟩⟩) rfl rfl .mk) (.e 13 (by kernel_rfl) (by kernel_rfl) (by kernel_rfl) ?_))))
   obtain ⟨h3375, x3376, hx3377, hd⟩ := hd
   obtain ⟨b3378, e3379⟩ := hne3355 (idx_ne hx3377)
   cases e3379
   refine .ixa0 underlying72 sizeOf74 rfl rfl h3375 (idx_lt hx3377 h3375) rfl rfl (.stOA (j := 0) (v' := ({ From := x3358.From, To := x3367.To, W := 0 } : Edge)) sizeOf74 .z hx3377 rfl rfl rfl (.t (.t (.t .nil))) rfl rfl (.sub (E' := [(0, _), (1, _), (6, .slice (some ⟨b3378, 0, none⟩) (s3321.set s2856.toNat ({ From := x3358.From, To := x3367.To, W := 0 } : Edge)).length c3323), (7, _), (8, _), (9, _), (10, _), (105, .slice (some ⟨b3378, 0, none⟩) (s3321.set s2856.toNat ({ From := x3358.From, To := x3367.To, W := 0 } : Edge)).length c3323), (106, _), (107, _), (108, _), (109, _), (110, _), (111, _), (112, _), (113, _), (114, _), (115, _), (116, _), (117, _), (118, _)]) ⟨rfl, rfl, (by simp only [List.length_set]; rfl), rfl, rfl, rfl, rfl, (by simp only [List.length_set]; rfl), rfl, rfl, rfl, rfl, rfl, rfl, rfl, rfl, rfl, rfl, rfl, rfl, rfl, trivial⟩ (.nilS [10, 9, 8, 7, 6, 1, 0] rfl rfl (.region (.skips 2 rfl (.loadW isAgg92 sizeOf92 rfl (.s (.s .z)) rfl rfl rfl ?_))))))
   obtain ⟨h3380, x3381, hx3382, hd⟩ := hd
   obtain ⟨b3383, e3384⟩ := hne3356 (idx_ne hx3382)
   cases e3384
   refine .ixa0 underlying88 sizeOf92 rfl rfl h3380 (idx_lt hx3382 h3380) rfl rfl (.stOA (j := 0) (v' := r2961) sizeOf92 (.s .z) hx3382 rfl rfl rfl (.t (.t .nil)) rfl rfl (.sub (E' := [(0, _), (1, _), (6, _), (7, .slice (some ⟨b3383, 0, none⟩) (s3325.set s2856.toNat r2961).length c3327), (8, _), (9, _), (10, _), (119, .slice (some ⟨b3383, 0, none⟩) (s3325.set s2856.toNat r2961).length c3327), (120, _), (121, _), (122, _)]) ⟨rfl, rfl, rfl, (by simp only [List.length_set]; rfl), rfl, rfl, rfl, (by simp only [List.length_set]; rfl), rfl, rfl, rfl, trivial⟩ (.nilS [8, 7, 6, 1, 0] rfl rfl (.drop (.s (.s .z)) (.region (.skips 1 rfl (.add rfl rfl rfl rfl (.sub (E' := [(0, _), (1, _), (6, _), (7, _), (22, _), (23, _)]) ⟨rfl, rfl, rfl, rfl, rfl, rfl, trivial⟩ (.skips 1 rfl ?_)))))))))
   exact .nil' fun c w ho hs => ⟨((s3321.set s2856.toNat ({ From := x3358.From, To := x3367.To, W := 0 } : Edge)), (s3325.set s2856.toNat r2961), w64 (s2697 + 1)), hd, I3331, _, _, _, _, le3333, ho.sub ⟨rfl, rfl, rfl, rfl, rfl, trivial⟩, hs.pick (.c .z (.c .z .n))⟩
 refine .exitS [7, 6] rfl rfl (.seq (.seq (.region (.skips 1 rfl (.nilS [12, 7, 6] rfl rfl (.block (.loop hd (fun (s : (List Edge) × Int) c w => match s with | (s3452, s3456) => ∃ I_ p3453 c3454, IH.le I2701 I_ ∧ Ok ⟨145, [], none⟩ [(6, .slice p3453 s3452.length c3454), (7, .slice p2694 s2693.length c2695), (12, .int .i64 s3456)] c ∧ Sym w0 M I I_ [OwnSl eEdge 74 p3453 c3454 s3452, OwnSl eWide 92 p2694 c2695 s2693] w) (fun c w ho hs => ⟨I2701, _, _, (.refl _), ho.sub ⟨rfl, rfl, rfl, trivial⟩, hs.pick (.c .z (.c .z .n))⟩) ?_)))))))
 rintro ⟨s3452, s3456⟩ next3457 hd c w hst
 obtain ⟨I3458, p3453, c3454, hl3459, hok, hsym⟩ := hst
 have le3460 := IH.le.trans le2703 hl3459
 have le3461 := IH.le.trans (.refl _) hl3459
 refine Cod.at hok hsym (.seq (.seq (.region (.skips 2 rfl (.len underlying72 rfl rfl rfl rfl (.lt rfl rfl rfl rfl (.nilS [126, 12, 7, 6] rfl rfl (.condP rfl hd (fun hb3463 hd => ?_) fun hb3463 hd => ?_))))))))
 · refine .skipS [12, 7, 6] rfl rfl (.seq (.block (.seq (.region (.skips 2 rfl ?_)))))
   obtain ⟨h3473, x3474, hx3475, hd⟩ := hd
   refine .ownNe (.s .z) (idx_ne hx3475) fun b3476 e3477 => ?_
   cases e3477
   refine .ixa0 underlying88 sizeOf92 rfl rfl h3473 (idx_lt hx3475 h3473) rfl rfl (.loA (j := 0) isAgg92 sizeOf92 (.s .z) hx3475 rfl rfl (.t (.t .nil)) rfl rfl rfl ?_)
   have hw3479 := W_ref01_Narrow (I := I3458) hd
   refine .callP call62 rfl hw3479 rfl rfl fun v3480 hv3481 => ?_
   obtain ⟨r3478, rfl, hd⟩ := hv3481
   refine .skips 1 rfl (.extract rfl rfl rfl rfl (.extract rfl rfl rfl rfl (.skips 2 rfl (.nilS [14, 13, 12, 7, 6] rfl rfl (.seq (.seq (.region (.skips 1 rfl (.not rfl rfl rfl ?_)))))))))
   refine .nilS [138, 13, 12, 7, 6] rfl rfl (.condP rfl hd (fun hb3482 hd => ?_) fun hb3482 hd => ?_)
   · exact .seq (.region (.skips 2 rfl (.nilS [5, 4] rfl rfl (.drop .z (.drop .z (.ret (pret results43 (.t rfl (.t rfl .n)) le3460 ⟨(([] : List Edge), 12), _, _, rfl, (.nil _ _ _), hd⟩)))))))
   refine .skipS [13, 12, 7, 6] rfl rfl (.region (.skips 3 rfl ?_))
   obtain ⟨h3483, x3484, hx3485, hd⟩ := hd
   refine .ownNe .z (idx_ne hx3485) fun b3486 e3487 => ?_
   cases e3487
   refine .ixa0 underlying72 sizeOf74 rfl rfl h3483 (idx_lt hx3485 h3483) rfl rfl (.fieldAddr underlying74 rfl sizeOf2 rfl (o := s3456.toNat * 3 + 2) rfl rfl rfl (.stO1 (j := 2) (v' := ({ From := x3484.From, To := x3484.To, W := r3478.1 } : Edge)) sizeOf2 .z hx3485 rfl rfl rfl (.s (.s (.t .nil))) rfl (.sub (E' := [(6, .slice (some ⟨b3486, 0, none⟩) (s3452.set s3456.toNat ({ From := x3484.From, To := x3484.To, W := r3478.1 } : Edge)).length c3454), (7, _), (12, _), (13, _), (139, .slice (some ⟨b3486, 0, none⟩) (s3452.set s3456.toNat ({ From := x3484.From, To := x3484.To, W := r3478.1 } : Edge)).length c3454), (140, _), (141, _), (142, _), (143, _)]) ⟨(by simp only [List.length_set]; rfl), rfl, rfl, rfl, (by simp only [List.length_set]; rfl), rfl, rfl, rfl, rfl, trivial⟩ (.nilS [12, 7, 6] rfl rfl (.region (.skips 1 rfl (.add rfl rfl rfl rfl (.sub (E' := [(6, _), (7, _), (127, _), (128, _)]) ⟨rfl, rfl, rfl, rfl, trivial⟩ (.skips 1 rfl ?_)))))))))
   exact .nil' fun c w ho hs => ⟨((s3452.set s3456.toNat ({ From := x3484.From, To := x3484.To, W := r3478.1 } : Edge)), w64 (s3456 + 1)), hd, I3458, _, _, le3461, ho.sub ⟨rfl, rfl, rfl, trivial⟩, hs.pick (.c .z (.c .z .n))⟩
 refine .exitS [6] rfl rfl (.drop (.s .z) (.seq (.region (.skips 3 rfl (.nilS [5, 4] rfl rfl (.pub .z fun I3488 hl3489 R3490 => ?_))))))
 have le3491 := IH.le.trans le3460 hl3489
 have le3492 := IH.le.trans le3461 hl3489
 exact .ret (pret results43 (.t rfl (.t rfl .n)) le3491 ⟨(s3452, 0), _, _, rfl, R3490, hd⟩)

theorem W_ref07_Of {I : IH} {a0 : Int} {a1 : Int} {a2 : Int} {a3 : List Triple} {p1 : Option Addr} {c2 : Nat} {Q : (Rows × Int) → Prop} (R3 : RepSl eTriple I p1 c2 a3) (hd : ref07_Of a0 a1 a2 a3 Q) :
    PFun Try.prog 22 [.int .i64 a0, .int .i64 a1, .int .i64 a2, .slice p1 a3.length c2] I (fun I_ v => ∃ r p4 c5 p7 c8 p10 c11, v = .tuple #[.agg #[.int .i64 r.1.Rows, .int .i64 r.1.Cols, .slice p4 r.1.Start.length c5, .slice p7 r.1.Col.length c8, .slice p10 r.1.Val.length c11], .int .i64 r.2] ∧ RepSl eI64 I_ p4 c5 r.1.Start ∧ RepSl eI64 I_ p7 c8 r.1.Col ∧ RepSl eI64 I_ p10 c11 r.1.Val ∧ Q r) := by
 refine Fun.enter func22 rfl ntmps22 rfl (.c (.c (.c (.c .n)))) fun w0 M => ?_
 refine .seq (.region (.allocA zeroValue27 rfl rfl fun b15 => ?_))
 refine .skips 1 rfl (.nilS [8, 3, 2, 1, 0] rfl rfl (.seq (.seq (.region (.skips 1 rfl ?_)))))
 have hw23 := W_ref02_Is (I := I) hd
 refine .callP call42 rfl hw23 rfl rfl fun v24 hv25 => ?_
 obtain ⟨r22, rfl, hd⟩ := hv25
 refine .not rfl rfl rfl (.nilS [17, 8, 3, 2, 1, 0] rfl rfl (.condP rfl hd (fun hb26 hd => ?_) fun hb26 hd => ?_))
 · exact .seq (.region (.build zeroValue27 underlying27 BI27 .n (by exact trivial) rfl rfl (.storeA sizeOf27 rfl rfl .z (.t (.t (.t (.t (.t .nil))))) rfl rfl (.skips 1 rfl (.nilS [9, 8] rfl rfl (.ret (pret results22 (.w isAgg27 sizeOf27 rfl .z rfl (.t rfl .n)) (.refl _) ⟨(({ Rows := 0, Cols := 0, Start := ([] : List Int), Col := ([] : List Int), Val := ([] : List Int) } : Rows), 8), _, _, _, _, _, _, rfl, (.nil _ _ _), (.nil _ _ _), (.nil _ _ _), hd⟩)))))))
 refine .skipS [8, 3, 2, 1, 0] rfl rfl (.seq (.seq (.region (.skips 1 rfl (.lt rfl rfl rfl rfl (.skips 1 rfl ?_))))))
 refine splitP hd (fun hb31 hd => ?_) fun hb31 hd => ?_
 · rw [hb31]
   exact .skips 11 rfl (.nilS [32, 8, 3, 2, 1, 0] rfl rfl (.condKT rfl rfl (.seq (.region (.build zeroValue27 underlying27 BI27 .n (by exact trivial) rfl rfl (.storeA sizeOf27 rfl rfl .z (.t (.t (.t (.t (.t .nil))))) rfl rfl (.skips 1 rfl (.nilS [9, 8] rfl rfl (.ret (pret results22 (.w isAgg27 sizeOf27 rfl .z rfl (.t rfl .n)) (.refl _) ⟨(({ Rows := 0, Cols := 0, Start := ([] : List Int), Col := ([] : List Int), Val := ([] : List Int) } : Rows), 3), _, _, _, _, _, _, rfl, (.nil _ _ _), (.nil _ _ _), (.nil _ _ _), hd⟩))))))))))
 rw [hb31]
 refine .gyes rfl rfl rfl (.move rfl rfl rfl (.gyes rfl rfl rfl (.gt rfl rfl rfl rfl (.skips 2 rfl ?_))))
 refine splitP hd (fun hb32 hd => ?_) fun hb32 hd => ?_
 · rw [hb32]
   exact .skips 7 rfl (.nilS [32, 8, 3, 2, 1, 0] rfl rfl (.condKT rfl rfl (.seq (.region (.build zeroValue27 underlying27 BI27 .n (by exact trivial) rfl rfl (.storeA sizeOf27 rfl rfl .z (.t (.t (.t (.t (.t .nil))))) rfl rfl (.skips 1 rfl (.nilS [9, 8] rfl rfl (.ret (pret results22 (.w isAgg27 sizeOf27 rfl .z rfl (.t rfl .n)) (.refl _) ⟨(({ Rows := 0, Cols := 0, Start := ([] : List Int), Col := ([] : List Int), Val := ([] : List Int) } : Rows), 3), _, _, _, _, _, _, rfl, (.nil _ _ _), (.nil _ _ _), (.nil _ _ _), hd⟩))))))))))
 rw [hb32]
 refine .gyes rfl rfl rfl (.move rfl rfl rfl (.gyes rfl rfl rfl (.lt rfl rfl rfl rfl (.skips 2 rfl ?_))))
 refine splitP hd (fun hb33 hd => ?_) fun hb33 hd => ?_
 · rw [hb33]
   exact .skips 3 rfl (.nilS [32, 8, 3, 2, 1, 0] rfl rfl (.condKT rfl rfl (.seq (.region (.build zeroValue27 underlying27 BI27 .n (by exact trivial) rfl rfl (.storeA sizeOf27 rfl rfl .z (.t (.t (.t (.t (.t .nil))))) rfl rfl (.skips 1 rfl (.nilS [9, 8] rfl rfl (.ret (pret results22 (.w isAgg27 sizeOf27 rfl .z rfl (.t rfl .n)) (.refl _) ⟨(({ Rows := 0, Cols := 0, Start := ([] : List Int), Col := ([] : List Int), Val := ([] : List Int) } : Rows), 3), _, _, _, _, _, _, rfl, (.nil _ _ _), (.nil _ _ _), (.nil _ _ _), hd⟩))))))))))
 rw [hb33]
 refine .gyes rfl rfl rfl (.move rfl rfl rfl (.gyes rfl rfl rfl (.gt rfl rfl rfl rfl (.skips 1 rfl (.nilS [32, 8, 3, 2, 1, 0] rfl rfl (.condP rfl hd (fun hb34 hd => ?_) fun hb34 hd => ?_))))))
 · exact .seq (.region (.build zeroValue27 underlying27 BI27 .n (by exact trivial) rfl rfl (.storeA sizeOf27 rfl rfl .z (.t (.t (.t (.t (.t .nil))))) rfl rfl (.skips 1 rfl (.nilS [9, 8] rfl rfl (.ret (pret results22 (.w isAgg27 sizeOf27 rfl .z rfl (.t rfl .n)) (.refl _) ⟨(({ Rows := 0, Cols := 0, Start := ([] : List Int), Col := ([] : List Int), Val := ([] : List Int) } : Rows), 3), _, _, _, _, _, _, rfl, (.nil _ _ _), (.nil _ _ _), (.nil _ _ _), hd⟩)))))))
 refine .skipS [8, 3, 2, 1, 0] rfl rfl (.seq (.seq (.region (.skips 1 rfl (.len underlying23 rfl rfl rfl rfl (.gt rfl rfl rfl rfl (.nilS [36, 8, 3, 2, 1, 0] rfl rfl (.condP rfl hd (fun hb36 hd => ?_) fun hb36 hd => ?_))))))))
 · exact .seq (.region (.build zeroValue27 underlying27 BI27 .n (by exact trivial) rfl rfl (.storeA sizeOf27 rfl rfl .z (.t (.t (.t (.t (.t .nil))))) rfl rfl (.skips 1 rfl (.nilS [9, 8] rfl rfl (.ret (pret results22 (.w isAgg27 sizeOf27 rfl .z rfl (.t rfl .n)) (.refl _) ⟨(({ Rows := 0, Cols := 0, Start := ([] : List Int), Col := ([] : List Int), Val := ([] : List Int) } : Rows), 5), _, _, _, _, _, _, rfl, (.nil _ _ _), (.nil _ _ _), (.nil _ _ _), hd⟩)))))))
 refine .skipS [8, 3, 2, 1, 0] rfl rfl (.seq (.region (.skips 1 rfl (.nilS [10, 8, 3, 2, 1, 0] rfl rfl (.seq (.seq (.region (.skips 1 rfl (.nilS [11, 10, 8, 3, 2, 1, 0] rfl rfl ?_)))))))))
 refine .block (.own0 eEdge 74 (.loop hd (fun (s : (List Edge) × Int) c w => match s with | (s657, s661) => ∃ I_ p658 c659, IH.le I I_ ∧ Ok ⟨135, [], none⟩ [(0, .int .i64 a0), (1, .int .i64 a1), (2, .int .i64 a2), (3, .slice p1 a3.length c2), (8, .pointer (some ⟨b15, 0, none⟩)), (10, .slice p658 s657.length c659), (11, .int .i64 s661)] c ∧ Sym w0 M I I_ [pto b15 (.cells #[.int .i64 0, .int .i64 0, .slice none 0 0, .slice none 0 0, .slice none 0 0] 27 (0, 0)), OwnSl eEdge 74 p658 c659 s657] w) (fun c w ho hs => ⟨I, _, _, (.refl _), ho.sub ⟨rfl, rfl, rfl, rfl, rfl, rfl, rfl, trivial⟩, hs.pick (.c (.s .z) (.c .z .n))⟩) ?_))
 rintro ⟨s657, s661⟩ next663 hd c w hst
 obtain ⟨I664, p658, c659, hl665, hok, hsym⟩ := hst
 have le666 := IH.le.trans (.refl _) hl665
 replace R3 := R3.mono hl665
 refine Cod.at hok hsym (.seq (.seq (.region (.skips 2 rfl (.len underlying23 rfl rfl rfl rfl (.lt rfl rfl rfl rfl (.nilS [41, 11, 10, 8, 3, 2, 1, 0] rfl rfl (.condP rfl hd (fun hb668 hd => ?_) fun hb668 hd => ?_))))))))
 · refine .skipS [11, 10, 8, 3, 2, 1, 0] rfl rfl (.seq (.block (.seq (.seq (.region (.skips 2 rfl ?_))))))
   obtain ⟨h709, x710, hx711, hd⟩ := hd
   obtain ⟨b712, o713, cs714, e715, hC716, hr717⟩ := R3.2 _ _ hx711
   cases hr717
   refine .ixa underlying23 sizeOf49 rfl e715 rfl h709 (idx_lt hx711 h709) rfl rfl (.fieldAddr underlying49 rfl sizeOf3 rfl (o := o713 + s661.toNat * 3) rfl rfl rfl (.ld1 (j := 0) isAgg3 hC716 rfl rfl rfl rfl rfl (.lt rfl rfl rfl rfl (.skips 1 rfl ?_))))
   refine splitP hd (fun hb718 hd => ?_) fun hb718 hd => ?_
   · rw [hb718]
     refine .skips 25 rfl (.nilS [75, 11, 10, 8, 3, 2, 1, 0] rfl rfl (.condKT rfl rfl (.seq (.region (.build zeroValue27 underlying27 BI27 .n (by exact trivial) rfl rfl (.storeA sizeOf27 rfl rfl .z (.t (.t (.t (.t (.t .nil))))) rfl rfl (.skips 1 rfl (.nilS [9, 8] rfl rfl (.drop (.s .z) ?_)))))))))
     exact .ret (pret results22 (.w isAgg27 sizeOf27 rfl .z rfl (.t rfl .n)) le666 ⟨(({ Rows := 0, Cols := 0, Start := ([] : List Int), Col := ([] : List Int), Val := ([] : List Int) } : Rows), 3), _, _, _, _, _, _, rfl, (.nil _ _ _), (.nil _ _ _), (.nil _ _ _), hd⟩)
   rw [hb718]
   refine .gyes rfl rfl rfl (.move rfl rfl rfl (.gyes rfl rfl rfl (.move rfl rfl rfl ?_)))
   obtain ⟨h719, x720, hx721, hd⟩ := hd
   obtain ⟨b722, o723, cs724, e725, hC726, hr727⟩ := R3.2 _ _ hx721
   cases hr727
   refine .gyes rfl rfl rfl (.ixa underlying23 sizeOf49 rfl e725 rfl h719 (idx_lt hx721 h719) rfl rfl (.gyes rfl rfl rfl (.fieldAddr underlying49 rfl sizeOf3 rfl (o := o723 + s661.toNat * 3) rfl rfl rfl (.gyes rfl rfl rfl (.ld1 (j := 0) isAgg3 hC726 rfl rfl rfl rfl rfl (.gyes rfl rfl rfl (.move rfl rfl rfl (.gyes rfl rfl rfl (.ge rfl rfl rfl rfl (.skips 2 rfl ?_))))))))))
   refine splitP hd (fun hb728 hd => ?_) fun hb728 hd => ?_
   · rw [hb728]
     refine .skips 16 rfl (.nilS [75, 11, 10, 8, 3, 2, 1, 0] rfl rfl (.condKT rfl rfl (.seq (.region (.build zeroValue27 underlying27 BI27 .n (by exact trivial) rfl rfl (.storeA sizeOf27 rfl rfl .z (.t (.t (.t (.t (.t .nil))))) rfl rfl (.skips 1 rfl (.nilS [9, 8] rfl rfl (.drop (.s .z) ?_)))))))))
     exact .ret (pret results22 (.w isAgg27 sizeOf27 rfl .z rfl (.t rfl .n)) le666 ⟨(({ Rows := 0, Cols := 0, Start := ([] : List Int), Col := ([] : List Int), Val := ([] : List Int) } : Rows), 3), _, _, _, _, _, _, rfl, (.nil _ _ _), (.nil _ _ _), (.nil _ _ _), hd⟩)
   rw [hb728]
   refine .gyes rfl rfl rfl (.move rfl rfl rfl (.gyes rfl rfl rfl (.move rfl rfl rfl ?_)))
   obtain ⟨h729, x730, hx731, hd⟩ := hd
   obtain ⟨b732, o733, cs734, e735, hC736, hr737⟩ := R3.2 _ _ hx731
   cases hr737
   refine .gyes rfl rfl rfl (.ixa underlying23 sizeOf49 rfl e735 rfl h729 (idx_lt hx731 h729) rfl rfl (.gyes rfl rfl rfl (.fieldAddr underlying49 rfl sizeOf3 rfl (o := o733 + s661.toNat * 3 + 1) rfl rfl rfl (.gyes rfl rfl rfl (.ld1 (j := 1) isAgg3 hC736 rfl rfl rfl rfl rfl (.gyes rfl rfl rfl (.lt rfl rfl rfl rfl (.skips 2 rfl ?_))))))))
   refine splitP hd (fun hb738 hd => ?_) fun hb738 hd => ?_
   · rw [hb738]
     refine .skips 8 rfl (.nilS [75, 11, 10, 8, 3, 2, 1, 0] rfl rfl (.condKT rfl rfl (.seq (.region (.build zeroValue27 underlying27 BI27 .n (by exact trivial) rfl rfl (.storeA sizeOf27 rfl rfl .z (.t (.t (.t (.t (.t .nil))))) rfl rfl (.skips 1 rfl (.nilS [9, 8] rfl rfl (.drop (.s .z) ?_)))))))))
     exact .ret (pret results22 (.w isAgg27 sizeOf27 rfl .z rfl (.t rfl .n)) le666 ⟨(({ Rows := 0, Cols := 0, Start := ([] : List Int), Col := ([] : List Int), Val := ([] : List Int) } : Rows), 3), _, _, _, _, _, _, rfl, (.nil _ _ _), (.nil _ _ _), (.nil _ _ _), hd⟩)
   rw [hb738]
   refine .gyes rfl rfl rfl (.move rfl rfl rfl (.gyes rfl rfl rfl (.move rfl rfl rfl ?_)))
   obtain ⟨h739, x740, hx741, hd⟩ := hd
   obtain ⟨b742, o743, cs744, e745, hC746, hr747⟩ := R3.2 _ _ hx741
   cases hr747
   refine .gyes rfl rfl rfl (.ixa underlying23 sizeOf49 rfl e745 rfl h739 (idx_lt hx741 h739) rfl rfl (.gyes rfl rfl rfl (.fieldAddr underlying49 rfl sizeOf3 rfl (o := o743 + s661.toNat * 3 + 1) rfl rfl rfl (.gyes rfl rfl rfl (.ld1 (j := 1) isAgg3 hC746 rfl rfl rfl rfl rfl (.gyes rfl rfl rfl (.move rfl rfl rfl (.gyes rfl rfl rfl (.ge rfl rfl rfl rfl (.skips 1 rfl (.nilS [75, 11, 10, 8, 3, 2, 1, 0] rfl rfl (.condP rfl hd (fun hb748 hd => ?_) fun hb748 hd => ?_))))))))))))
   · exact .seq (.region (.build zeroValue27 underlying27 BI27 .n (by exact trivial) rfl rfl (.storeA sizeOf27 rfl rfl .z (.t (.t (.t (.t (.t .nil))))) rfl rfl (.skips 1 rfl (.nilS [9, 8] rfl rfl (.drop (.s .z) (.ret (pret results22 (.w isAgg27 sizeOf27 rfl .z rfl (.t rfl .n)) le666 ⟨(({ Rows := 0, Cols := 0, Start := ([] : List Int), Col := ([] : List Int), Val := ([] : List Int) } : Rows), 3), _, _, _, _, _, _, rfl, (.nil _ _ _), (.nil _ _ _), (.nil _ _ _), hd⟩))))))))
   refine .skipS [11, 10, 8, 3, 2, 1, 0] rfl rfl (.ownF (.s .z) fun hne749 => ?_)
   refine .draw [some 0, some 1, some 2, some 3, some 4, some 5, some 6, some 7, some 8, some 9, some 10, some 11, some 12, some 13, some 14, some 15, some 16, some 17, some 18] 19 MX (by kernel_rfl) (by kernel_rfl) (by kernel_rfl) (by kernel_rfl) (by kernel_rfl) (by kernel_rfl) (by kernel_rfl) (fun ex => (pto b15 (.cells #[.int .i64 0, .int .i64 0, .slice none 0 0, .slice none 0 0, .slice none 0 0] 27 (0, 0))) :: (OwnSl eEdge 74 p658 c659 s657) :: ex) (fun _ _ => (.s (.s .z))) rfl (.fs [[], [], []] rfl (by kernel_rfl) ?_)
   obtain ⟨h750, x751, hx752, hd⟩ := hd
   obtain ⟨b753, o754, cs755, e756, hC757, hr758⟩ := R3.2 _ _ hx752
   cases hr758
   refine .f [1, 2] rfl (by kernel_rfl) rfl rfl (fun ex => .ixa underlying23 sizeOf49 rfl e756 rfl h750 (idx_lt hx752 h750) rfl rfl .mk) (.f [3] rfl (by kernel_rfl) rfl rfl (fun ex => .fieldAddr underlying49 rfl sizeOf3 rfl (o := o754 + s661.toNat * 3) rfl rfl rfl .mk) (.f [4] rfl (by kernel_rfl) rfl rfl (fun ex => .ld1 (j := 0) isAgg3 hC757 rfl rfl rfl rfl rfl .mk) (.fs [[], []] rfl (by kernel_rfl) ?_)))
   obtain ⟨h759, x760, hx761, hd⟩ := hd
   obtain ⟨b762, o763, cs764, e765, hC766, hr767⟩ := R3.2 _ _ hx761
   cases hr767
   refine .f [6, 7] rfl (by kernel_rfl) rfl rfl (fun ex => .ixa underlying23 sizeOf49 rfl e765 rfl h759 (idx_lt hx761 h759) rfl rfl .mk) (.f [8] rfl (by kernel_rfl) rfl rfl (fun ex => .fieldAddr underlying49 rfl sizeOf3 rfl (o := o763 + s661.toNat * 3 + 1) rfl rfl rfl .mk) (.f [9] rfl (by kernel_rfl) rfl rfl (fun ex => .ld1 (j := 1) isAgg3 hC766 rfl rfl rfl rfl rfl .mk) (.fs [[], []] rfl (by kernel_rfl) ?_)))
   obtain ⟨h768, x769, hx770, hd⟩ := hd
   obtain ⟨b771, o772, cs773, e774, hC775, hr776⟩ := R3.2 _ _ hx770
   cases hr776
   refine .f [11, 12] rfl (by kernel_rfl) rfl rfl (fun ex => .ixa underlying23 sizeOf49 rfl e774 rfl h768 (idx_lt hx770 h768) rfl rfl .mk) (.f [13] rfl (by kernel_rfl) rfl rfl (fun ex => .fieldAddr underlying49 rfl sizeOf2 rfl (o := o772 + s661.toNat * 3 + 2) rfl rfl rfl .mk) (.f [14] rfl (by kernel_rfl) rfl rfl (fun ex => .ld1 (j := 2) isAgg2 hC775 rfl rfl rfl rfl rfl .mk) (.f [5, 10, 15] rfl (by kernel_rfl) rfl rfl (fun ex => .build zeroValue74 underlying74 BI74 (.c rfl rfl rfl (.t .nil) (.c rfl rfl rfl (.s (.t .nil)) (.c rfl rfl rfl (.s (.s (.t .nil))) .n))) (by exact ⟨⟨_, _, rfl, rfl, rfl⟩, ⟨⟨_, _, rfl, rfl, rfl⟩, ⟨⟨_, _, rfl, rfl, rfl⟩, trivial⟩⟩⟩) rfl rfl .mk) (.w [0] [[], [16], [15, 16], [14, 15, 16], [13, 14, 15, 16], [13, 14, 15, 16], [16], [10, 16], [9, 10, 16], [8, 9, 10, 16], [8, 9, 10, 16], [16], [5, 16], [4, 5, 16], [3, 4, 5, 16], [3, 4, 5, 16]] [16] rfl (by kernel_rfl) (by kernel_rfl) (by kernel_rfl) ((dropE_kept rfl rfl)) (.inr (dropE_kept rfl rfl)) fun ex => ?_))))
   refine .buildSlice 1 underlying72 sizeOf74 zeroValue74 rfl rfl (.c rfl rfl rfl .n) rfl rfl fun b777 => ?_
   refine .some (fun ex => (pto b777 (.cells #[.int .i64 x751.Row, .int .i64 x760.Col, .int .i64 x769.Val] 74 (0, 0))) :: (pto b15 (.cells #[.int .i64 0, .int .i64 0, .slice none 0 0, .slice none 0 0, .slice none 0 0] 27 (0, 0))) :: (OwnSl eEdge 74 p658 c659 s657) :: ex) rfl (fun _ _ => (.s (.s (.s .z)))) rfl (.ccs [[]] rfl rfl (by kernel_rfl) trivial) (.w [] [[]] [0, 17] rfl (by kernel_rfl) (by kernel_rfl) (by kernel_rfl) ((dropE_kept rfl rfl)) (.inr (dropE_kept rfl rfl)) fun ex => ?_)
   obtain ⟨hl779, hd⟩ := hd
   refine .append (ys := [({ From := x751.Row, To := x760.Col, W := x769.Val } : Edge)]) 24 (.s (.s .z)) underlying72 underlying72 IN74 rfl rfl rfl rfl rfl rfl rfl rfl rfl (.box .z (.one rfl) rfl) hl779 rfl rfl fun p780 c781 => ?_
   refine .some (fun ex => (OwnSl eEdge 74 p780 c781 (s657 ++ ([({ From := x751.Row, To := x760.Col, W := x769.Val } : Edge)]))) :: (pto b777 (.cells #[.int .i64 x751.Row, .int .i64 x760.Col, .int .i64 x769.Val] 74 (0, 0))) :: (pto b15 (.cells #[.int .i64 0, .int .i64 0, .slice none 0 0, .slice none 0 0, .slice none 0 0] 27 (0, 0))) :: ex) rfl (fun _ _ => (.s (.s (.s .z)))) rfl trivial (.e 19 (by kernel_rfl) (by kernel_rfl) (by kernel_rfl) (.sub (E' := [(0, _), (1, _), (2, _), (3, _), (8, _), (11, _), (77, _), (78, _), (79, _), (80, _), (81, _), (82, _), (83, _), (84, _), (85, _), (86, _), (87, _), (88, _), (89, _), (90, _), (91, _), (92, _), (93, _), (94, _), (95, _)]) ⟨rfl, rfl, rfl, rfl, rfl, rfl, rfl, rfl, rfl, rfl, rfl, rfl, rfl, rfl, rfl, rfl, rfl, rfl, rfl, rfl, rfl, rfl, rfl, rfl, rfl, trivial⟩ (.skips 1 rfl (.nilS [10, 11, 8, 3, 2, 1, 0] rfl rfl (.drop (.s .z) (.region (.skips 1 rfl (.add rfl rfl rfl rfl (.sub (E' := [(0, _), (1, _), (2, _), (3, _), (8, _), (10, _), (42, _), (43, _)]) ⟨rfl, rfl, rfl, rfl, rfl, rfl, rfl, rfl, trivial⟩ ?_)))))))))
   exact .skips 1 rfl (.nil' fun c w ho hs => ⟨((s657 ++ ([({ From := x751.Row, To := x760.Col, W := x769.Val } : Edge)])), w64 (s661 + 1)), hd, I664, _, _, le666, ho.sub ⟨rfl, rfl, rfl, rfl, rfl, rfl, rfl, trivial⟩, hs.pick (.c (.s .z) (.c .z .n))⟩)
 refine .exitS [10, 8, 2, 1, 0] rfl rfl (.seq (.region (.skips 2 rfl (.pub (.s .z) fun I798 hl799 R800 => ?_))))
 have le801 := IH.le.trans le666 hl799
 have hw811 := W_ref05_Combine (I := I798) R800 hd
 refine .call call43 rfl hw811 rfl rfl fun v806 I803 hl804 hv805 => ?_
 obtain ⟨r802, p808, c809, rfl, R810, hd⟩ := hv805
 have le812 := IH.le.trans le801 hl804
 replace R800 := R800.mono hl804
 refine .skips 1 rfl (.extract rfl rfl rfl rfl (.extract rfl rfl rfl rfl (.sub (E' := [(0, _), (1, _), (2, _), (8, _), (97, _), (98, _), (99, _), (96, _), (100, _), (101, _)]) ⟨rfl, rfl, rfl, rfl, rfl, rfl, rfl, rfl, rfl, rfl, trivial⟩ (.skips 2 rfl (.nilS [12, 10, 8, 2, 1] rfl rfl (.seq (.seq (.region (.skips 1 rfl ?_)))))))))
 refine .ne rfl rfl rfl rfl (.nilS [103, 12, 10, 8, 2, 1] rfl rfl (.condP rfl hd (fun hb814 hd => ?_) fun hb814 hd => ?_))
 · exact .seq (.region (.build zeroValue27 underlying27 BI27 .n (by exact trivial) rfl rfl (.skips 1 rfl (.storeA sizeOf27 rfl rfl .z (.t (.t (.t (.t (.t .nil))))) rfl rfl (.skips 1 rfl (.nilS [9, 8] rfl rfl (.ret (pret results22 (.w isAgg27 sizeOf27 rfl .z rfl (.t rfl .n)) le812 ⟨(({ Rows := 0, Cols := 0, Start := ([] : List Int), Col := ([] : List Int), Val := ([] : List Int) } : Rows), r802.2), _, _, _, _, _, _, rfl, (.nil _ _ _), (.nil _ _ _), (.nil _ _ _), hd⟩))))))))
 refine .skipS [10, 8, 2, 1] rfl rfl (.seq (.region (.skips 1 rfl (.nilS [13, 10, 8, 2, 1] rfl rfl (.seq (.seq (.region (.skips 1 rfl (.nilS [14, 13, 10, 8, 2, 1] rfl rfl ?_)))))))))
 refine .block (.own0 eTriple 49 (.loop hd (fun (s : (List Triple) × Int) c w => match s with | (s902, s906) => ∃ I_ p903 c904, IH.le I803 I_ ∧ Ok ⟨135, [], none⟩ [(1, .int .i64 a1), (2, .int .i64 a2), (8, .pointer (some ⟨b15, 0, none⟩)), (10, .slice p808 r802.1.length c809), (13, .slice p903 s902.length c904), (14, .int .i64 s906)] c ∧ Sym w0 M I I_ [pto b15 (.cells #[.int .i64 0, .int .i64 0, .slice none 0 0, .slice none 0 0, .slice none 0 0] 27 (0, 0)), OwnSl eTriple 49 p903 c904 s902] w) (fun c w ho hs => ⟨I803, _, _, (.refl _), ho.sub ⟨rfl, rfl, rfl, rfl, rfl, rfl, trivial⟩, hs.pick (.c (.s .z) (.c .z .n))⟩) ?_))
 rintro ⟨s902, s906⟩ next908 hd c w hst
 obtain ⟨I909, p903, c904, hl910, hok, hsym⟩ := hst
 have le911 := IH.le.trans le812 hl910
 have le912 := IH.le.trans (.refl _) hl910
 replace R810 := R810.mono hl910
 refine Cod.at hok hsym (.seq (.seq (.region (.skips 2 rfl (.len underlying72 rfl rfl rfl rfl (.lt rfl rfl rfl rfl (.nilS [109, 14, 13, 10, 8, 2, 1] rfl rfl (.condP rfl hd (fun hb914 hd => ?_) fun hb914 hd => ?_))))))))
 · refine .skipS [14, 13, 10, 8, 2, 1] rfl rfl (.seq (.block (.ownF (.s .z) fun hne915 => ?_)))
   refine .draw [some 0, some 1, some 2, some 3, some 4, some 5, some 6, some 7, some 8, some 9, some 10, some 11, some 12, some 13, some 14, some 15, some 16, some 17, some 18] 19 MX (by kernel_rfl) (by kernel_rfl) (by kernel_rfl) (by kernel_rfl) (by kernel_rfl) (by kernel_rfl) (by kernel_rfl) (fun ex => (pto b15 (.cells #[.int .i64 0, .int .i64 0, .slice none 0 0, .slice none 0 0, .slice none 0 0] 27 (0, 0))) :: (OwnSl eTriple 49 p903 c904 s902) :: ex) (fun _ _ => (.s (.s .z))) rfl (.fs [[], [], []] rfl (by kernel_rfl) ?_)
   obtain ⟨h916, x917, hx918, hd⟩ := hd
   obtain ⟨b919, o920, cs921, e922, hC923, hr924⟩ := R810.2 _ _ hx918
   cases hr924
   refine .f [1, 2] rfl (by kernel_rfl) rfl rfl (fun ex => .ixa underlying72 sizeOf74 rfl e922 rfl h916 (idx_lt hx918 h916) rfl rfl .mk) (.f [3] rfl (by kernel_rfl) rfl rfl (fun ex => .fieldAddr underlying74 rfl sizeOf3 rfl (o := o920 + s906.toNat * 3) rfl rfl rfl .mk) (.f [4] rfl (by kernel_rfl) rfl rfl (fun ex => .ld1 (j := 0) isAgg3 hC923 rfl rfl rfl rfl rfl .mk) (.fs [[], []] rfl (by kernel_rfl) ?_)))
   obtain ⟨h925, x926, hx927, hd⟩ := hd
   obtain ⟨b928, o929, cs930, e931, hC932, hr933⟩ := R810.2 _ _ hx927
   cases hr933
   refine .f [6, 7] rfl (by kernel_rfl) rfl rfl (fun ex => .ixa underlying72 sizeOf74 rfl e931 rfl h925 (idx_lt hx927 h925) rfl rfl .mk) (.f [8] rfl (by kernel_rfl) rfl rfl (fun ex => .fieldAddr underlying74 rfl sizeOf3 rfl (o := o929 + s906.toNat * 3 + 1) rfl rfl rfl .mk) (.f [9] rfl (by kernel_rfl) rfl rfl (fun ex => .ld1 (j := 1) isAgg3 hC932 rfl rfl rfl rfl rfl .mk) (.fs [[], []] rfl (by kernel_rfl) ?_)))
   obtain ⟨h934, x935, hx936, hd⟩ := hd
   obtain ⟨b937, o938, cs939, e940, hC941, hr942⟩ := R810.2 _ _ hx936
   cases hr942
   refine .f [11, 12] rfl (by kernel_rfl) rfl rfl (fun ex => .ixa underlying72 sizeOf74 rfl e940 rfl h934 (idx_lt hx936 h934) rfl rfl .mk) (.f [13] rfl (by kernel_rfl) rfl rfl (fun ex => .fieldAddr underlying74 rfl sizeOf2 rfl (o := o938 + s906.toNat * 3 + 2) rfl rfl rfl .mk) (.f [14] rfl (by kernel_rfl) rfl rfl (fun ex => .ld1 (j := 2) isAgg2 hC941 rfl rfl rfl rfl rfl .mk) (.f [5, 10, 15] rfl (by kernel_rfl) rfl rfl (fun ex => .build zeroValue49 underlying49 BI49 (.c rfl rfl rfl (.t .nil) (.c rfl rfl rfl (.s (.t .nil)) (.c rfl rfl rfl (.s (.s (.t .nil))) .n))) (by exact ⟨⟨_, _, rfl, rfl, rfl⟩, ⟨⟨_, _, rfl, rfl, rfl⟩, ⟨⟨_, _, rfl, rfl, rfl⟩, trivial⟩⟩⟩) rfl rfl .mk) (.w [0] [[], [16], [15, 16], [14, 15, 16], [13, 14, 15, 16], [13, 14, 15, 16], [16], [10, 16], [9, 10, 16], [8, 9, 10, 16], [8, 9, 10, 16], [16], [5, 16], [4, 5, 16], [3, 4, 5, 16], [3, 4, 5, 16]] [16] rfl (by kernel_rfl) (by kernel_rfl) (by kernel_rfl) ((dropE_kept rfl rfl)) (.inr (dropE_kept rfl rfl)) fun ex => ?_))))
   refine .buildSlice 1 underlying23 sizeOf49 zeroValue49 rfl rfl (.c rfl rfl rfl .n) rfl rfl fun b943 => ?_
   refine .some (fun ex => (pto b943 (.cells #[.int .i64 x917.From, .int .i64 x926.To, .int .i64 x935.W] 49 (0, 0))) :: (pto b15 (.cells #[.int .i64 0, .int .i64 0, .slice none 0 0, .slice none 0 0, .slice none 0 0] 27 (0, 0))) :: (OwnSl eTriple 49 p903 c904 s902) :: ex) rfl (fun _ _ => (.s (.s (.s .z)))) rfl (.ccs [[]] rfl rfl (by kernel_rfl) trivial) (.w [] [[]] [0, 17] rfl (by kernel_rfl) (by kernel_rfl) (by kernel_rfl) ((dropE_kept rfl rfl)) (.inr (dropE_kept rfl rfl)) fun ex => ?_)
   obtain ⟨hl945, hd⟩ := hd
   refine .append (ys := [({ Row := x917.From, Col := x926.To, Val := x935.W } : Triple)]) 24 (.s (.s .z)) underlying23 underlying23 IN49 rfl rfl rfl rfl rfl rfl rfl rfl rfl (.box .z (.one rfl) rfl) hl945 rfl rfl fun p946 c947 => ?_
   refine .some (fun ex => (OwnSl eTriple 49 p946 c947 (s902 ++ ([({ Row := x917.From, Col := x926.To, Val := x935.W } : Triple)]))) :: (pto b943 (.cells #[.int .i64 x917.From, .int .i64 x926.To, .int .i64 x935.W] 49 (0, 0))) :: (pto b15 (.cells #[.int .i64 0, .int .i64 0, .slice none 0 0, .slice none 0 0, .slice none 0 0] 27 (0, 0))) :: ex) rfl (fun _ _ => (.s (.s (.s .z)))) rfl trivial (.e 19 (by kernel_rfl) (by kernel_rfl) (by kernel_rfl) (.sub (E' := [(1, _), (2, _), (8, _), (10, _), (14, _), (112, _), (113, _), (114, _), (115, _), (116, _), (117, _), (118, _), (119, _), (120, _), (121, _), (122, _), (123, _), (124, _), (125, _), (126, _), (127, _), (128, _), (129, _), (130, _)]) ⟨rfl, rfl, rfl, rfl, rfl, rfl, rfl, rfl, rfl, rfl, rfl, rfl, rfl, rfl, rfl, rfl, rfl, rfl, rfl, rfl, rfl, rfl, rfl, rfl, trivial⟩ (.skips 1 rfl (.nilS [13, 14, 10, 8, 2, 1] rfl rfl (.drop (.s .z) (.region (.skips 1 rfl (.add rfl rfl rfl rfl (.sub (E' := [(1, _), (2, _), (8, _), (10, _), (13, _), (110, _), (111, _)]) ⟨rfl, rfl, rfl, rfl, rfl, rfl, rfl, trivial⟩ ?_)))))))))
   exact .skips 1 rfl (.nil' fun c w ho hs => ⟨((s902 ++ ([({ Row := x917.From, Col := x926.To, Val := x935.W } : Triple)])), w64 (s906 + 1)), hd, I909, _, _, le912, ho.sub ⟨rfl, rfl, rfl, rfl, rfl, rfl, trivial⟩, hs.pick (.c (.s .z) (.c .z .n))⟩)
 refine .exitS [13, 8, 2, 1] rfl rfl (.seq (.region (.skips 3 rfl (.pub (.s .z) fun I949 hl950 R951 => ?_))))
 have le952 := IH.le.trans le911 hl950
 have le953 := IH.le.trans le912 hl950
 have hw969 := W_ref07_built (I := I949) R951 hd
 refine .call call41 rfl hw969 rfl rfl fun v958 I955 hl956 hv957 => ?_
 obtain ⟨r954, p960, c961, p963, c964, p966, c967, rfl, R962, R965, R968, hd⟩ := hv957
 have le970 := IH.le.trans le952 hl956
 have le971 := IH.le.trans le953 hl956
 replace R951 := R951.mono hl956
 exact .storeA sizeOf27 rfl rfl .z (.t (.t (.t (.t (.t .nil))))) rfl rfl (.skips 1 rfl (.nilS [9, 8] rfl rfl (.ret (pret results22 (.w isAgg27 sizeOf27 rfl .z rfl (.t rfl .n)) le970 ⟨(r954, 0), _, _, _, _, _, _, rfl, R962, R965, R968, hd⟩))))

theorem W_dcsc_none {I : IH}   {Q : Columns → Prop}  (hd : dcsc_none Q) :
    OFun Try.prog 24 [] I (fun I_ v l => ∃ r p1 c2 p4 c5 p7 c8 p10 c11, v = .agg #[.int .i64 r.Rows, .int .i64 r.Cols, .slice p1 r.At.length c2, .slice p4 r.Start.length c5, .slice p7 r.Row.length c8, .slice p10 r.Val.length c11] ∧ l = [OwnSl eI64 3 p1 c2 r.At, OwnSl eI64 3 p4 c5 r.Start, OwnSl eI64 3 p7 c8 r.Row, OwnSl eI64 2 p10 c11 r.Val] ∧ Q r) := by
 refine Fun.enter func24 rfl ntmps24 rfl .n fun w0 M => ?_
 refine .seq (.region (.allocA zeroValue30 rfl rfl fun b13 => ?_))
 refine .nilS [0] rfl rfl (.seq (.region (.buildSlice 1 underlying24 sizeOf3 zeroValue3 rfl rfl (.c rfl rfl rfl .n) rfl rfl fun b15 => ?_)))
 exact .ownB (El := eI64) (ys := ([0] : List Int)) .z (.one rfl) rfl (.build zeroValue30 underlying30 BI30 (.c rfl rfl rfl (.s (.s (.s (.t .nil)))) .n) (by exact ⟨⟨_, _, rfl, rfl, rfl⟩, trivial⟩) rfl rfl (.storeA sizeOf30 rfl rfl (.s .z) (.t (.t (.t (.t (.t (.t .nil)))))) rfl rfl (.nilS [0] rfl rfl (.own0 eI64 3 (.own0 eI64 3 (.own0 eI64 2 (.ret (oret results24 (.w isAgg30 sizeOf30 rfl (.s (.s (.s (.s .z)))) rfl .n) (.refl _) (.c (.s (.s .z)) (.c (.s (.s .z)) (.c (.s .z) (.c .z .n)))) ⟨({ Rows := 0, Cols := 0, At := ([] : List Int), Start := ([0] : List Int), Row := ([] : List Int), Val := ([] : List Int) } : Columns), _, _, _, _, _, _, _, _, rfl, rfl, hd⟩))))))))

theorem W_csr_within {I : IH} {a0 : Int} {a1 : Int}  {Q : Bool → Prop}  (hd : csr_within a0 a1 Q) :
    PFun Try.prog 44 [.int .i64 a0, .int .i64 a1] I (fun I_ v => ∃ r, v = .bool r ∧ Q r) := by
 refine Fun.enter func44 rfl ntmps44 rfl (.c (.c .n)) fun w0 M => ?_
 refine .seq (.region (.skips 1 rfl (.nilS [1, 0] rfl rfl (.seq (.region (.skips 1 rfl (.ge rfl rfl rfl rfl (.skips 1 rfl ?_))))))))
 refine splitP hd (fun hb1 hd => ?_) fun hb1 hd => ?_
 · rw [hb1]
   exact .gyes rfl rfl rfl (.move rfl rfl rfl (.gyes rfl rfl rfl (.move rfl rfl rfl (.gyes rfl rfl rfl (.le' rfl rfl rfl rfl (.skips 2 rfl (.nilS [4] rfl rfl (.ret (pret results44 (.t rfl .n) (.refl _) ⟨(decide (a0 ≤ a1)), rfl, hd⟩)))))))))
 rw [hb1]
 exact .skips 5 rfl (.nilS [4] rfl rfl (.ret (pret results44 (.t rfl .n) (.refl _) ⟨false, rfl, hd⟩)))

theorem W_cmp_isNaN_int {I : IH} {a0 : Int}  {Q : Bool → Prop}  (hd : cmp_isNaN_int a0 Q) :
    PFun Try.prog 76 [.int .i64 a0] I (fun I_ v => ∃ r, v = .bool r ∧ Q r) := by
 refine Fun.enter func76 rfl ntmps76 rfl (.c .n) fun w0 M => ?_
 refine .seq (.region (.skips 1 rfl (.nilS [0] rfl rfl (.seq (.region (.skips 2 rfl (.ne rfl rfl rfl rfl (.skips 1 rfl (.nilS [2] rfl rfl ?_)))))))))
 exact .ret (pret results76 (.t rfl .n) (.refl _) ⟨(a0 != a0), rfl, hd⟩)

theorem W_cmp_Less_int {I : IH} {a0 : Int} {a1 : Int}  {Q : Bool → Prop}  (hd : cmp_Less_int a0 a1 Q) :
    PFun Try.prog 63 [.int .i64 a0, .int .i64 a1] I (fun I_ v => ∃ r, v = .bool r ∧ Q r) := by
 refine Fun.enter func63 rfl ntmps63 rfl (.c (.c .n)) fun w0 M => ?_
 refine .seq (.region (.skips 1 rfl (.nilS [1, 0] rfl rfl (.seq (.region (.skips 1 rfl ?_))))))
 have hw2 := W_cmp_isNaN_int (I := I) hd
 refine .callP call76 rfl hw2 rfl rfl fun v3 hv4 => ?_
 obtain ⟨r1, rfl, hd⟩ := hv4
 refine .skips 1 rfl ?_
 refine splitP hd (fun hb5 hd => ?_) fun hb5 hd => ?_
 · rw [hb5]
   refine .gyes rfl rfl rfl (.move rfl rfl rfl ?_)
   have hw7 := W_cmp_isNaN_int (I := I) hd
   refine .gyes rfl rfl rfl (.callP call76 rfl hw7 rfl rfl fun v8 hv9 => ?_)
   obtain ⟨r6, rfl, hd⟩ := hv9
   refine .gyes rfl rfl rfl (.not rfl rfl rfl (.skips 2 rfl ?_))
   refine splitP hd (fun hb10 hd => ?_) fun hb10 hd => ?_
   · rw [hb10]
     exact .skips 5 rfl (.nilS [4] rfl rfl (.ret (pret results63 (.t rfl .n) (.refl _) ⟨true, rfl, hd⟩)))
   rw [hb10]
   exact .gyes rfl rfl rfl (.move rfl rfl rfl (.gyes rfl rfl rfl (.move rfl rfl rfl (.gyes rfl rfl rfl (.lt rfl rfl rfl rfl (.skips 2 rfl (.nilS [4] rfl rfl (.ret (pret results63 (.t rfl .n) (.refl _) ⟨(decide (a0 < a1)), rfl, hd⟩)))))))))
 rw [hb5]
 exact .skips 5 rfl (.gyes rfl rfl rfl (.move rfl rfl rfl (.gyes rfl rfl rfl (.move rfl rfl rfl (.gyes rfl rfl rfl (.lt rfl rfl rfl rfl (.skips 2 rfl (.nilS [4] rfl rfl (.ret (pret results63 (.t rfl .n) (.refl _) ⟨(decide (a0 < a1)), rfl, hd⟩))))))))))

theorem W_slices_IsSorted_int_int {I : IH} {a0 : List Int} {p1 : Option Addr} {c2 : Nat} {Q : Bool → Prop} (R3 : RepSl eI64 I p1 c2 a0) (hd : slices_IsSorted_int_int a0 Q) :
    PFun Try.prog 45 [.slice p1 a0.length c2] I (fun I_ v => ∃ r, v = .bool r ∧ Q r) := by
 refine Fun.enter func45 rfl ntmps45 rfl (.c .n) fun w0 M => ?_
 refine .seq (.region (.skips 1 rfl (.nilS [0] rfl rfl (.seq (.seq (.region (.skips 1 rfl (.len underlying24 rfl rfl rfl rfl (.sub' rfl rfl rfl rfl ?_)))))))))
 refine .skips 1 rfl (.nilS [3, 0] rfl rfl (.block (.loop hd (fun (s57 : Int) c w => ∃ I_, IH.le I I_ ∧ Ok ⟨21, [], none⟩ [(0, .slice p1 a0.length c2), (3, .int .i64 s57)] c ∧ Sym w0 M I I_ [] w) (fun c w ho hs => ⟨I, (.refl _), ho.sub ⟨rfl, rfl, trivial⟩, hs.pick .n⟩) ?_)))
 rintro s57 next58 hd c w hst
 obtain ⟨I59, hl60, hok, hsym⟩ := hst
 have le61 := IH.le.trans (.refl _) hl60
 replace R3 := R3.mono hl60
 refine Cod.at hok hsym (.seq (.seq (.region (.skips 1 rfl (.gt rfl rfl rfl rfl (.nilS [8, 3, 0] rfl rfl (.condP rfl hd (fun hb63 hd => ?_) fun hb63 hd => ?_)))))))
 · refine .skipS [3, 0] rfl rfl (.seq (.block (.seq (.draw [some 0, some 1, some 2, some 3, some 4, some 5, some 6, some 7, some 8, some 9] 10 MX (by kernel_rfl) (by kernel_rfl) (by kernel_rfl) (by kernel_rfl) (by kernel_rfl) (by kernel_rfl) (by kernel_rfl) (fun ex => ex) (fun _ _ => .z) rfl (.fs [[], []] rfl (by kernel_rfl) ?_)))))
   obtain ⟨h64, x65, hx66, hd⟩ := hd
   obtain ⟨b67, o68, cs69, e70, hC71, hr72⟩ := R3.2 _ _ hx66
   cases hr72
   refine .f [0, 1] rfl (by kernel_rfl) rfl rfl (fun ex => .ixa underlying24 sizeOf3 rfl e70 rfl h64 (idx_lt hx66 h64) rfl rfl .mk) (.f [2] rfl (by kernel_rfl) rfl rfl (fun ex => .ld1 (j := 0) isAgg3 hC71 rfl rfl rfl rfl rfl .mk) (.fs [[], []] rfl (by kernel_rfl) (.f [5] rfl (by kernel_rfl) rfl rfl (fun ex => .sub' rfl rfl rfl rfl .mk) ?_)))
   obtain ⟨h73, x74, hx75, hd⟩ := hd
   obtain ⟨b76, o77, cs78, e79, hC80, hr81⟩ := R3.2 _ _ hx75
   cases hr81
   refine .f [4, 6] rfl (by kernel_rfl) rfl rfl (fun ex => .ixa underlying24 sizeOf3 rfl e79 rfl h73 (idx_lt hx75 h73) rfl rfl .mk) (.f [7] rfl (by kernel_rfl) rfl rfl (fun ex => .ld1 (j := 0) isAgg3 hC80 rfl rfl rfl rfl rfl .mk) (.w [] [[], [8], [7, 8], [6, 7, 8], [7, 8], [], [3], [2, 3], [2, 3]] [3, 8] rfl (by kernel_rfl) (by kernel_rfl) (by kernel_rfl) ((dropE_kept rfl rfl)) (.inr (dropE_kept rfl rfl)) fun ex => ?_))
   have hw83 := W_cmp_Less_int (I := I59) hd
   refine .callP call63 rfl hw83 rfl rfl fun v84 hv85 => ?_
   obtain ⟨r82, rfl, hd⟩ := hv85
   refine .some (fun ex => ex) rfl (fun _ _ => .z) rfl trivial (.e 10 (by kernel_rfl) (by kernel_rfl) (by kernel_rfl) (.nilS [20, 3, 0] rfl rfl (.condP rfl hd (fun hb86 hd => ?_) fun hb86 hd => ?_)))
   · exact .seq (.region (.skips 1 rfl (.nilS [2] rfl rfl (.ret (pret results45 (.t rfl .n) le61 ⟨false, rfl, hd⟩)))))
   exact .skipS [3, 0] rfl rfl (.region (.skips 1 rfl (.sub' rfl rfl rfl rfl (.sub (E' := [(0, _), (9, _), (10, _)]) ⟨rfl, rfl, rfl, trivial⟩ (.skips 1 rfl (.nil' fun c w ho hs => ⟨(w64 (s57 - 1)), hd, I59, le61, ho.sub ⟨rfl, rfl, trivial⟩, hs.pick .n⟩))))))
 exact .exitS [] rfl rfl (.seq (.region (.skips 1 rfl (.nilS [2] rfl rfl (.ret (pret results45 (.t rfl .n) le61 ⟨true, rfl, hd⟩))))))

theorem W_csr_row {I : IH} {a0 : List Int} {a1 : Int} {p1 : Option Addr} {c2 : Nat} {Q : Bool → Prop} (R3 : RepSl eI64 I p1 c2 a0) (hd : csr_row a0 a1 Q) :
    PFun Try.prog 46 [.slice p1 a0.length c2, .int .i64 a1] I (fun I_ v => ∃ r, v = .bool r ∧ Q r) := by
 refine Fun.enter func46 rfl ntmps46 rfl (.c (.c .n)) fun w0 M => ?_
 refine .seq (.region (.skips 1 rfl (.nilS [1, 0] rfl rfl (.seq (.seq (.region (.skips 1 rfl (.len underlying24 rfl rfl rfl rfl (.skips 1 rfl ?_)))))))))
 refine .nilS [9, 8, 7, 1, 0] rfl rfl (.block (.loop hd (fun (s68 : Int) c w => ∃ I_, IH.le I I_ ∧ Ok ⟨33, [], none⟩ [(0, .slice p1 a0.length c2), (1, .int .i64 a1), (7, .slice p1 a0.length c2), (8, .int .i64 (a0.length : Int)), (9, .int .i64 s68)] c ∧ Sym w0 M I I_ [] w) (fun c w ho hs => ⟨I, (.refl _), ho.sub ⟨rfl, rfl, rfl, rfl, rfl, trivial⟩, hs.pick .n⟩) ?_))
 rintro s68 next69 hd c w hst
 obtain ⟨I70, hl71, hok, hsym⟩ := hst
 have le72 := IH.le.trans (.refl _) hl71
 replace R3 := R3.mono hl71
 refine Cod.at hok hsym (.seq (.region (.lt rfl rfl rfl rfl (.nilS [10, 9, 8, 7, 1, 0] rfl rfl (.seq (.condP rfl hd (fun hb74 hd => ?_) fun hb74 hd => ?_))))))
 · refine .skipS [9, 8, 7, 1, 0] rfl rfl (.seq (.block (.seq (.region (.skips 1 rfl ?_)))))
   obtain ⟨h84, x85, hx86, hd⟩ := hd
   obtain ⟨b87, o88, cs89, e90, hC91, hr92⟩ := R3.2 _ _ hx86
   cases hr92
   refine .ixa underlying24 sizeOf3 rfl e90 rfl h84 (idx_lt hx86 h84) rfl rfl (.ld1 (j := 0) isAgg3 hC91 rfl rfl rfl rfl rfl (.skips 2 rfl (.nilS [6, 5, 9, 8, 7, 1, 0] rfl rfl (.seq (.region (.skips 2 rfl (.sub' rfl rfl rfl rfl ?_)))))))
   have hw94 := W_csr_within (I := I70) hd
   refine .callP call44 rfl hw94 rfl rfl fun v95 hv96 => ?_
   obtain ⟨r93, rfl, hd⟩ := hv96
   refine .not rfl rfl rfl (.skips 1 rfl ?_)
   refine splitP hd (fun hb97 hd => ?_) fun hb97 hd => ?_
   · rw [hb97]
     refine .skips 3 rfl (.gnoU rfl rfl rfl rfl (.gnoU rfl rfl rfl rfl (.gnoU rfl rfl rfl rfl (.gnoU rfl rfl rfl rfl (.gnoU rfl rfl rfl rfl (.gnoU rfl rfl rfl rfl (.gnoU rfl rfl rfl rfl (.skips 2 rfl (.nilS [31, 9, 8, 7, 1, 0] rfl rfl ?_)))))))))
     exact .condKT rfl rfl (.seq (.region (.skips 1 rfl (.nilS [4] rfl rfl (.ret (pret results46 (.t rfl .n) le72 ⟨false, rfl, hd⟩))))))
   rw [hb97]
   refine .gyes rfl rfl rfl (.move rfl rfl rfl (.gyes rfl rfl rfl (.gt rfl rfl rfl rfl (.gyes rfl rfl rfl (.move rfl rfl rfl ?_)))))
   refine splitP hd (fun hb98 hd => ?_) fun hb98 hd => ?_
   · rw [hb98]
     refine .gyes rfl rfl rfl (.move rfl rfl rfl (.gyes rfl rfl rfl (.move rfl rfl rfl (.gyes rfl rfl rfl (.sub' rfl rfl rfl rfl ?_)))))
     obtain ⟨h99, x100, hx101, hd⟩ := hd
     obtain ⟨b102, o103, cs104, e105, hC106, hr107⟩ := R3.2 _ _ hx101
     cases hr107
     refine .gyes rfl rfl rfl (.ixa underlying24 sizeOf3 rfl e105 rfl h99 (idx_lt hx101 h99) rfl rfl (.gyes rfl rfl rfl (.ld1 (j := 0) isAgg3 hC106 rfl rfl rfl rfl rfl (.gyes rfl rfl rfl (.move rfl rfl rfl (.gyes rfl rfl rfl (.ge rfl rfl rfl rfl (.gyes rfl rfl rfl (.pickT rfl rfl rfl rfl rfl (.skips 1 rfl (.nilS [31, 9, 8, 7, 1, 0] rfl rfl (.condP rfl hd (fun hb108 hd => ?_) fun hb108 hd => ?_))))))))))))
     · exact .seq (.region (.skips 1 rfl (.nilS [4] rfl rfl (.ret (pret results46 (.t rfl .n) le72 ⟨false, rfl, hd⟩)))))
     exact .skipS [9, 8, 7, 1, 0] rfl rfl (.region (.add rfl rfl rfl rfl (.sub (E' := [(0, _), (1, _), (7, _), (8, _), (32, _)]) ⟨rfl, rfl, rfl, rfl, rfl, trivial⟩ (.skips 1 rfl (.nil' fun c w ho hs => ⟨(w64 (s68 + 1)), hd, I70, le72, ho.sub ⟨rfl, rfl, rfl, rfl, rfl, trivial⟩, hs.pick .n⟩)))))
   rw [hb98]
   refine .skips 7 rfl (.gyes rfl rfl rfl (.pickF rfl rfl rfl rfl rfl (.skips 1 rfl (.nilS [31, 9, 8, 7, 1, 0] rfl rfl (.condKF rfl rfl (.skipS [9, 8, 7, 1, 0] rfl rfl (.region (.add rfl rfl rfl rfl (.sub (E' := [(0, _), (1, _), (7, _), (8, _), (32, _)]) ⟨rfl, rfl, rfl, rfl, rfl, trivial⟩ (.skips 1 rfl ?_))))))))))
   exact .nil' fun c w ho hs => ⟨(w64 (s68 + 1)), hd, I70, le72, ho.sub ⟨rfl, rfl, rfl, rfl, rfl, trivial⟩, hs.pick .n⟩
 exact .exitS [] rfl rfl (.seq (.region (.skips 1 rfl (.nilS [4] rfl rfl (.ret (pret results46 (.t rfl .n) le72 ⟨true, rfl, hd⟩))))))

theorem W_csr_Right {I : IH} {a0 : Rows} {p1 : Option Addr} {c2 : Nat} {p4 : Option Addr} {c5 : Nat} {p7 : Option Addr} {c8 : Nat} {Q : Bool → Prop} (R3 : RepSl eI64 I p1 c2 a0.Start) (R6 : RepSl eI64 I p4 c5 a0.Col) (R9 : RepSl eI64 I p7 c8 a0.Val) (hd : csr_Right a0 Q) :
    PFun Try.prog 25 [.agg #[.int .i64 a0.Rows, .int .i64 a0.Cols, .slice p1 a0.Start.length c2, .slice p4 a0.Col.length c5, .slice p7 a0.Val.length c8]] I (fun I_ v => ∃ r, v = .bool r ∧ Q r) := by
 refine Fun.enter func25 rfl ntmps25 rfl (.c .n) fun w0 M => ?_
 refine .seq (.region (.boxA rfl rfl rfl fun b12 => ?_))
 refine .skips 1 rfl (.nilS [1] rfl rfl (.seq (.region (.fieldAddr underlying27 rfl sizeOf24 rfl (o := 3) rfl rfl rfl (.load1 isAgg24 rfl .z rfl rfl rfl (.len underlying24 rfl rfl rfl rfl (.skips 1 rfl (.nilS [3, 1] rfl rfl (.seq ?_)))))))))
 refine .seq (.region (.fieldAddr underlying27 rfl sizeOf3 rfl (o := 0) rfl rfl rfl (.load1 isAgg3 rfl .z rfl rfl rfl ?_)))
 have hw28 := W_csr_within (I := I) hd
 refine .callP call44 rfl hw28 rfl rfl fun v29 hv30 => ?_
 obtain ⟨r27, rfl, hd⟩ := hv30
 refine .not rfl rfl rfl (.skips 1 rfl ?_)
 refine splitP hd (fun hb31 hd => ?_) fun hb31 hd => ?_
 · rw [hb31]
   exact .skips 25 rfl (.nilS [37, 3, 1] rfl rfl (.condKT rfl rfl (.seq (.region (.skips 1 rfl (.nilS [2] rfl rfl (.drop .z (.ret (pret results25 (.t rfl .n) (.refl _) ⟨false, rfl, hd⟩)))))))))
 rw [hb31]
 refine .gyes rfl rfl rfl (.fieldAddr underlying27 rfl sizeOf3 rfl (o := 1) rfl rfl rfl (.gyes rfl rfl rfl (.load1 isAgg3 rfl .z rfl rfl rfl ?_)))
 have hw33 := W_csr_within (I := I) hd
 refine .gyes rfl rfl rfl (.callP call44 rfl hw33 rfl rfl fun v34 hv35 => ?_)
 obtain ⟨r32, rfl, hd⟩ := hv35
 refine .gyes rfl rfl rfl (.not rfl rfl rfl (.skips 2 rfl ?_))
 refine splitP hd (fun hb36 hd => ?_) fun hb36 hd => ?_
 · rw [hb36]
   exact .skips 19 rfl (.nilS [37, 3, 1] rfl rfl (.condKT rfl rfl (.seq (.region (.skips 1 rfl (.nilS [2] rfl rfl (.drop .z (.ret (pret results25 (.t rfl .n) (.refl _) ⟨false, rfl, hd⟩)))))))))
 rw [hb36]
 refine .gyes rfl rfl rfl (.fieldAddr underlying27 rfl sizeOf24 rfl (o := 2) rfl rfl rfl (.gyes rfl rfl rfl (.load1 isAgg24 rfl .z rfl rfl rfl (.gyes rfl rfl rfl (.len underlying24 rfl rfl rfl rfl (.gyes rfl rfl rfl (.fieldAddr underlying27 rfl sizeOf3 rfl (o := 0) rfl rfl rfl (.gyes rfl rfl rfl (.load1 isAgg3 rfl .z rfl rfl rfl (.gyes rfl rfl rfl (.add rfl rfl rfl rfl (.gyes rfl rfl rfl (.ne rfl rfl rfl rfl (.skips 2 rfl ?_))))))))))))))
 refine splitP hd (fun hb37 hd => ?_) fun hb37 hd => ?_
 · rw [hb37]
   exact .skips 10 rfl (.nilS [37, 3, 1] rfl rfl (.condKT rfl rfl (.seq (.region (.skips 1 rfl (.nilS [2] rfl rfl (.drop .z (.ret (pret results25 (.t rfl .n) (.refl _) ⟨false, rfl, hd⟩)))))))))
 rw [hb37]
 refine .gyes rfl rfl rfl (.fieldAddr underlying27 rfl sizeOf25 rfl (o := 4) rfl rfl rfl (.gyes rfl rfl rfl (.load1 isAgg25 rfl .z rfl rfl rfl (.gyes rfl rfl rfl (.len underlying25 rfl rfl rfl rfl (.gyes rfl rfl rfl (.move rfl rfl rfl (.gyes rfl rfl rfl (.ne rfl rfl rfl rfl (.skips 2 rfl ?_))))))))))
 refine splitP hd (fun hb38 hd => ?_) fun hb38 hd => ?_
 · rw [hb38]
   exact .skips 3 rfl (.nilS [37, 3, 1] rfl rfl (.condKT rfl rfl (.seq (.region (.skips 1 rfl (.nilS [2] rfl rfl (.drop .z (.ret (pret results25 (.t rfl .n) (.refl _) ⟨false, rfl, hd⟩)))))))))
 rw [hb38]
 refine .gyes rfl rfl rfl (.move rfl rfl rfl (.gyes rfl rfl rfl (.gt rfl rfl rfl rfl (.skips 1 rfl (.nilS [37, 3, 1] rfl rfl (.condP rfl hd (fun hb39 hd => ?_) fun hb39 hd => ?_))))))
 · exact .seq (.region (.skips 1 rfl (.nilS [2] rfl rfl (.drop .z (.ret (pret results25 (.t rfl .n) (.refl _) ⟨false, rfl, hd⟩))))))
 refine .skipS [3, 1] rfl rfl (.seq (.seq (.region (.fieldAddr underlying27 rfl sizeOf24 rfl (o := 2) rfl rfl rfl (.load1 isAgg24 rfl .z rfl rfl rfl ?_)))))
 obtain ⟨h65, x66, hx67, hd⟩ := hd
 obtain ⟨b68, o69, cs70, e71, hC72, hr73⟩ := R3.2 _ _ hx67
 cases hr73
 refine .ixa underlying24 sizeOf3 rfl e71 rfl h65 (idx_lt hx67 h65) rfl rfl (.ld1 (j := 0) isAgg3 hC72 rfl rfl rfl rfl rfl (.ne rfl rfl rfl rfl (.skips 1 rfl ?_)))
 refine splitP hd (fun hb74 hd => ?_) fun hb74 hd => ?_
 · rw [hb74]
   exact .skips 15 rfl (.nilS [58, 1] rfl rfl (.condKT rfl rfl (.seq (.region (.skips 1 rfl (.nilS [2] rfl rfl (.drop .z (.ret (pret results25 (.t rfl .n) (.refl _) ⟨false, rfl, hd⟩)))))))))
 rw [hb74]
 refine .gyes rfl rfl rfl (.fieldAddr underlying27 rfl sizeOf24 rfl (o := 2) rfl rfl rfl (.gyes rfl rfl rfl (.load1 isAgg24 rfl .z rfl rfl rfl (.gyes rfl rfl rfl (.fieldAddr underlying27 rfl sizeOf3 rfl (o := 0) rfl rfl rfl (.gyes rfl rfl rfl (.load1 isAgg3 rfl .z rfl rfl rfl ?_)))))))
 obtain ⟨h75, x76, hx77, hd⟩ := hd
 obtain ⟨b78, o79, cs80, e81, hC82, hr83⟩ := R3.2 _ _ hx77
 cases hr83
 refine .gyes rfl rfl rfl (.ixa underlying24 sizeOf3 rfl e81 rfl h75 (idx_lt hx77 h75) rfl rfl (.gyes rfl rfl rfl (.ld1 (j := 0) isAgg3 hC82 rfl rfl rfl rfl rfl (.gyes rfl rfl rfl (.move rfl rfl rfl (.gyes rfl rfl rfl (.ne rfl rfl rfl rfl (.skips 2 rfl ?_))))))))
 refine splitP hd (fun hb84 hd => ?_) fun hb84 hd => ?_
 · rw [hb84]
   exact .skips 5 rfl (.nilS [58, 1] rfl rfl (.condKT rfl rfl (.seq (.region (.skips 1 rfl (.nilS [2] rfl rfl (.drop .z (.ret (pret results25 (.t rfl .n) (.refl _) ⟨false, rfl, hd⟩)))))))))
 rw [hb84]
 refine .gyes rfl rfl rfl (.fieldAddr underlying27 rfl sizeOf24 rfl (o := 2) rfl rfl rfl (.gyes rfl rfl rfl (.load1 isAgg24 rfl .z rfl rfl rfl ?_)))
 have hw86 := W_slices_IsSorted_int_int (I := I) R3 hd
 refine .gyes rfl rfl rfl (.callP call45 rfl hw86 rfl rfl fun v87 hv88 => ?_)
 obtain ⟨r85, rfl, hd⟩ := hv88
 refine .gyes rfl rfl rfl (.not rfl rfl rfl (.skips 1 rfl (.nilS [58, 1] rfl rfl (.condP rfl hd (fun hb89 hd => ?_) fun hb89 hd => ?_))))
 · exact .seq (.region (.skips 1 rfl (.nilS [2] rfl rfl (.drop .z (.ret (pret results25 (.t rfl .n) (.refl _) ⟨false, rfl, hd⟩))))))
 refine .skipS [1] rfl rfl (.seq (.seq (.region (.fieldAddr underlying27 rfl sizeOf3 rfl (o := 0) rfl rfl rfl (.load1 isAgg3 rfl .z rfl rfl rfl (.skips 1 rfl (.nilS [61, 60, 1] rfl rfl (.block (.loop hd (fun (s163 : Int) c w => ∃ I_, IH.le I I_ ∧ Ok ⟨83, [], none⟩ [(1, .pointer (some ⟨b12, 0, none⟩)), (60, .int .i64 a0.Rows), (61, .int .i64 s163)] c ∧ Sym w0 M I I_ [pto b12 (.cells #[.int .i64 a0.Rows, .int .i64 a0.Cols, .slice p1 a0.Start.length c2, .slice p4 a0.Col.length c5, .slice p7 a0.Val.length c8] 27 (0, 0))] w) (fun c w ho hs => ⟨I, (.refl _), ho.sub ⟨rfl, rfl, rfl, trivial⟩, hs.pick (.c .z .n)⟩) ?_)))))))))
 rintro s163 next164 hd c w hst
 obtain ⟨I165, hl166, hok, hsym⟩ := hst
 have le167 := IH.le.trans (.refl _) hl166
 replace R3 := R3.mono hl166
 replace R6 := R6.mono hl166
 replace R9 := R9.mono hl166
 refine Cod.at hok hsym (.seq (.region (.lt rfl rfl rfl rfl (.nilS [62, 61, 60, 1] rfl rfl (.seq (.condP rfl hd (fun hb169 hd => ?_) fun hb169 hd => ?_))))))
 · refine .skipS [61, 60, 1] rfl rfl (.seq (.block (.seq (.region (.skips 2 rfl (.nilS [4, 61, 60, 1] rfl rfl (.seq (.draw [some 0, some 1, some 2, some 3, some 4, some 5, some 6, some 7, some 8, some 9, some 10, some 11, some 12, some 13, some 14, some 15, some 16, some 17] 18 MX (by kernel_rfl) (by kernel_rfl) (by kernel_rfl) (by kernel_rfl) (by kernel_rfl) (by kernel_rfl) (by kernel_rfl) (fun ex => (pto b12 (.cells #[.int .i64 a0.Rows, .int .i64 a0.Cols, .slice p1 a0.Start.length c2, .slice p4 a0.Col.length c5, .slice p7 a0.Val.length c8] 27 (0, 0))) :: ex) (fun _ _ => (.s .z)) rfl (.f [] rfl (by kernel_rfl) rfl rfl (fun ex => .fieldAddr underlying27 rfl sizeOf24 rfl (o := 3) rfl rfl rfl .mk) ?_)))))))))
   refine .f [0] rfl (by kernel_rfl) rfl rfl (fun ex => .load1 isAgg24 rfl .z rfl rfl rfl .mk) (.f [] rfl (by kernel_rfl) rfl rfl (fun ex => .fieldAddr underlying27 rfl sizeOf24 rfl (o := 2) rfl rfl rfl .mk) (.f [2] rfl (by kernel_rfl) rfl rfl (fun ex => .load1 isAgg24 rfl .z rfl rfl rfl .mk) (.fs [[]] rfl (by kernel_rfl) ?_)))
   obtain ⟨h170, x171, hx172, hd⟩ := hd
   obtain ⟨b173, o174, cs175, e176, hC177, hr178⟩ := R3.2 _ _ hx172
   cases hr178
   refine .f [3, 4] rfl (by kernel_rfl) rfl rfl (fun ex => .ixa underlying24 sizeOf3 rfl e176 rfl h170 (idx_lt hx172 h170) rfl rfl .mk) (.f [5] rfl (by kernel_rfl) rfl rfl (fun ex => .ld1 (j := 0) isAgg3 hC177 rfl rfl rfl rfl rfl .mk) (.f [] rfl (by kernel_rfl) rfl rfl (fun ex => .fieldAddr underlying27 rfl sizeOf24 rfl (o := 2) rfl rfl rfl .mk) (.f [7] rfl (by kernel_rfl) rfl rfl (fun ex => .load1 isAgg24 rfl .z rfl rfl rfl .mk) (.fs [[]] rfl (by kernel_rfl) (.f [9] rfl (by kernel_rfl) rfl rfl (fun ex => .add rfl rfl rfl rfl .mk) ?_)))))
   obtain ⟨h179, x180, hx181, hd⟩ := hd
   obtain ⟨b182, o183, cs184, e185, hC186, hr187⟩ := R3.2 _ _ hx181
   cases hr187
   refine .f [8, 10] rfl (by kernel_rfl) rfl rfl (fun ex => .ixa underlying24 sizeOf3 rfl e185 rfl h179 (idx_lt hx181 h179) rfl rfl .mk) (.f [11] rfl (by kernel_rfl) rfl rfl (fun ex => .ld1 (j := 0) isAgg3 hC186 rfl rfl rfl rfl rfl .mk) ?_)
   obtain ⟨h188, h189, h190, hd⟩ := hd
   have h196 : Int.toNat x171 ≤ Int.toNat x180 := by omega
   have h197 : Int.toNat x180 ≤ a0.Col.length := by omega
   obtain ⟨p191, c192, e194, e195, R193⟩ := RepSl.sliceW R6 (Int.toNat x171) (Int.toNat x180) c5 h196 h197 (.inl rfl)
   refine .f [1, 6, 12] rfl (by kernel_rfl) rfl rfl (fun ex => .sliceW (L := Int.toNat x171) (H := Int.toNat x180) (cm := c5) underlying24 sizeOf3 rfl rfl R6.1 rfl rfl rfl (.inr ⟨_, _, rfl, h188, rfl⟩) (.inr ⟨_, _, rfl, (by omega), rfl⟩) (.inl rfl) h196 h197 rfl e194 e195 rfl rfl .mk) (.f [] rfl (by kernel_rfl) rfl rfl (fun ex => .fieldAddr underlying27 rfl sizeOf3 rfl (o := 1) rfl rfl rfl .mk) (.f [14] rfl (by kernel_rfl) rfl rfl (fun ex => .load1 isAgg3 rfl .z rfl rfl rfl .mk) (.w [] [[], [15], [], [13], [12, 13], [11, 12, 13], [10, 11, 12, 13], [11, 12, 13], [8, 11, 12, 13], [13], [6, 13], [5, 6, 13], [5, 6, 13], [3, 5, 6, 13], [13], [1, 13]] [13, 15] rfl (by kernel_rfl) (by kernel_rfl) (by kernel_rfl) ((dropE_kept rfl rfl)) (.inr (dropE_kept rfl rfl)) fun ex => ?_)))
   have hw199 := W_csr_row (I := I165) R193 hd
   refine .callP call46 rfl hw199 rfl rfl fun v200 hv201 => ?_
   obtain ⟨r198, rfl, hd⟩ := hv201
   refine .some (fun ex => (pto b12 (.cells #[.int .i64 a0.Rows, .int .i64 a0.Cols, .slice p1 a0.Start.length c2, .slice p4 a0.Col.length c5, .slice p7 a0.Val.length c8] 27 (0, 0))) :: ex) rfl (fun _ _ => (.s .z)) rfl trivial (.f [16] rfl (by kernel_rfl) rfl rfl (fun ex => .not rfl rfl rfl .mk) (.e 18 (by kernel_rfl) (by kernel_rfl) (by kernel_rfl) (.nilS [81, 61, 60, 1] rfl rfl (.condP rfl hd (fun hb202 hd => ?_) fun hb202 hd => ?_))))
   · exact .seq (.region (.skips 1 rfl (.nilS [2] rfl rfl (.drop .z (.ret (pret results25 (.t rfl .n) le167 ⟨false, rfl, hd⟩))))))
   exact .skipS [61, 60, 1] rfl rfl (.region (.add rfl rfl rfl rfl (.sub (E' := [(1, _), (60, _), (82, _)]) ⟨rfl, rfl, rfl, trivial⟩ (.skips 1 rfl (.nil' fun c w ho hs => ⟨(w64 (s163 + 1)), hd, I165, le167, ho.sub ⟨rfl, rfl, rfl, trivial⟩, hs.pick (.c .z .n)⟩)))))
 exact .exitS [] rfl rfl (.drop .z (.seq (.region (.skips 1 rfl (.nilS [2] rfl rfl (.ret (pret results25 (.t rfl .n) le167 ⟨true, rfl, hd⟩)))))))

theorem W_csr_empty {I : IH} {a0 : Int} {a1 : Int}  {Q : Rows → Prop}  (hd : csr_empty a0 a1 Q) :
    OFun Try.prog 64 [.int .i64 a0, .int .i64 a1] I (fun I_ v l => ∃ r p1 c2 p4 c5 p7 c8, v = .agg #[.int .i64 r.Rows, .int .i64 r.Cols, .slice p1 r.Start.length c2, .slice p4 r.Col.length c5, .slice p7 r.Val.length c8] ∧ l = [OwnSl eI64 3 p1 c2 r.Start, OwnSl eI64 3 p4 c5 r.Col, OwnSl eI64 2 p7 c8 r.Val] ∧ Q r) := by
 refine Fun.enter func64 rfl ntmps64 rfl (.c (.c .n)) fun w0 M => ?_
 refine .seq (.region (.allocA zeroValue27 rfl rfl fun b10 => ?_))
 refine .nilS [4, 1, 0] rfl rfl (.seq (.region (.skips 3 rfl (.add rfl rfl rfl rfl ?_))))
 obtain ⟨h12, h13, hd⟩ := hd
 refine .make (El := eI64) (zv := 0) 8 underlying24 IN3 rfl rfl rfl rfl rfl rfl h12 h13 rfl rfl rfl fun b14 => ?_
 exact .build zeroValue27 underlying27 BI27 (.c rfl rfl rfl (.t .nil) (.c rfl rfl rfl (.s (.t .nil)) (.c rfl rfl rfl (.s (.s (.t .nil))) .n))) (by exact ⟨⟨_, _, rfl, rfl, rfl⟩, ⟨⟨_, _, rfl, rfl, rfl⟩, ⟨⟨_, _, rfl, rfl, rfl⟩, trivial⟩⟩⟩) rfl rfl (.storeA sizeOf27 rfl rfl (.s .z) (.t (.t (.t (.t (.t .nil))))) rfl rfl (.nilS [4] rfl rfl (.own0 eI64 3 (.own0 eI64 2 (.ret (oret results64 (.w isAgg27 sizeOf27 rfl (.s (.s (.s .z))) rfl .n) (.refl _) (.c (.s (.s .z)) (.c (.s .z) (.c .z .n))) ⟨({ Rows := a0, Cols := a1, Start := (List.replicate (w64 (a0 + 1)).toNat 0), Col := ([] : List Int), Val := ([] : List Int) } : Rows), _, _, _, _, _, _, rfl, rfl, hd⟩))))))

theorem W_csr_sure {I : IH} {a0 : Rows} {p1 : Option Addr} {c2 : Nat} {p4 : Option Addr} {c5 : Nat} {p7 : Option Addr} {c8 : Nat} {Q : Rows → Prop} (R3 : RepSl eI64 I p1 c2 a0.Start) (R6 : RepSl eI64 I p4 c5 a0.Col) (R9 : RepSl eI64 I p7 c8 a0.Val) (hd : csr_sure a0 Q) :
    PFun Try.prog 47 [.agg #[.int .i64 a0.Rows, .int .i64 a0.Cols, .slice p1 a0.Start.length c2, .slice p4 a0.Col.length c5, .slice p7 a0.Val.length c8]] I (fun I_ v => ∃ r p10 c11 p13 c14 p16 c17, v = .agg #[.int .i64 r.Rows, .int .i64 r.Cols, .slice p10 r.Start.length c11, .slice p13 r.Col.length c14, .slice p16 r.Val.length c17] ∧ RepSl eI64 I_ p10 c11 r.Start ∧ RepSl eI64 I_ p13 c14 r.Col ∧ RepSl eI64 I_ p16 c17 r.Val ∧ Q r) := by
 refine Fun.enter func47 rfl ntmps47 rfl (.c .n) fun w0 M => ?_
 refine .seq (.region (.boxA rfl rfl rfl fun b23 => ?_))
 refine .allocA zeroValue27 rfl rfl fun b25 => ?_
 refine .nilS [2, 1] rfl rfl (.seq (.seq (.region (.loadW isAgg27 sizeOf27 rfl (.s .z) rfl rfl rfl ?_))))
 have hw28 := W_csr_Right (I := I) R3 R6 R9 hd
 refine .callP call25 rfl hw28 rfl rfl fun v29 hv30 => ?_
 obtain ⟨r27, rfl, hd⟩ := hv30
 refine .nilS [4, 2, 1] rfl rfl (.condP rfl hd (fun hb31 hd => ?_) fun hb31 hd => ?_)
 · exact .seq (.region (.loadW isAgg27 sizeOf27 rfl (.s .z) rfl rfl rfl (.storeA sizeOf27 rfl rfl .z (.t (.t (.t (.t (.t .nil))))) rfl rfl (.nilS [2] rfl rfl (.drop (.s .z) (.ret (pret results47 (.w isAgg27 sizeOf27 rfl .z rfl .n) (.refl _) ⟨a0, _, _, _, _, _, _, rfl, R3, R6, R9, hd⟩)))))))
 refine .skipS [2] rfl rfl (.drop (.s .z) (.seq (.region ?_)))
 have hw50 := W_csr_empty (I := I) hd
 refine .callO call64 rfl hw50 rfl rfl fun v36 I33 l37 hl34 hv35 => ?_
 obtain ⟨r32, p38, c39, p41, c42, p44, c45, rfl, rfl, hd⟩ := hv35
 have le51 := IH.le.trans (.refl _) hl34
 refine .storeA sizeOf27 rfl rfl (.s (.s (.s .z))) (.t (.t (.t (.t (.t .nil))))) rfl rfl (.nilS [2] rfl rfl (.pub .z fun I52 hl53 R54 => ?_))
 have le55 := IH.le.trans le51 hl53
 refine .pub .z fun I56 hl57 R58 => ?_
 have le59 := IH.le.trans le55 hl57
 replace R54 := R54.mono hl57
 refine .pub .z fun I60 hl61 R62 => ?_
 have le63 := IH.le.trans le59 hl61
 replace R54 := R54.mono hl61
 replace R58 := R58.mono hl61
 exact .ret (pret results47 (.w isAgg27 sizeOf27 rfl .z rfl .n) le63 ⟨r32, _, _, _, _, _, _, rfl, R54, R58, R62, hd⟩)

theorem W_csr_part {I : IH} {a0 : Rows} {a1 : Int} {p1 : Option Addr} {c2 : Nat} {p4 : Option Addr} {c5 : Nat} {p7 : Option Addr} {c8 : Nat} {Q : ((List Int) × (List Int)) → Prop} (R3 : RepSl eI64 I p1 c2 a0.Start) (R6 : RepSl eI64 I p4 c5 a0.Col) (R9 : RepSl eI64 I p7 c8 a0.Val) (hd : csr_part a0 a1 Q) :
    PFun Try.prog 48 [.agg #[.int .i64 a0.Rows, .int .i64 a0.Cols, .slice p1 a0.Start.length c2, .slice p4 a0.Col.length c5, .slice p7 a0.Val.length c8], .int .i64 a1] I (fun I_ v => ∃ r p10 c11 p13 c14, v = .tuple #[.slice p10 r.1.length c11, .slice p13 r.2.length c14] ∧ RepSl eI64 I_ p10 c11 r.1 ∧ RepSl eI64 I_ p13 c14 r.2 ∧ Q r) := by
 refine Fun.enter func48 rfl ntmps48 rfl (.c (.c .n)) fun w0 M => ?_
 refine .seq (.region (.boxA rfl rfl rfl fun b18 => ?_))
 refine .skips 2 rfl (.nilS [2, 1] rfl rfl (.seq (.draw [some 0, some 1, some 2, some 3, some 4, some 5, some 6, some 7, some 8, some 9, some 10, some 11] 12 MX (by kernel_rfl) (by kernel_rfl) (by kernel_rfl) (by kernel_rfl) (by kernel_rfl) (by kernel_rfl) (by kernel_rfl) (fun ex => (pto b18 (.cells #[.int .i64 a0.Rows, .int .i64 a0.Cols, .slice p1 a0.Start.length c2, .slice p4 a0.Col.length c5, .slice p7 a0.Val.length c8] 27 (0, 0))) :: ex) (fun _ _ => (.s .z)) rfl (.f [] rfl (by kernel_rfl) rfl rfl (fun ex => .fieldAddr underlying27 rfl sizeOf24 rfl (o := 2) rfl rfl rfl .mk) (.f [0] rfl (by kernel_rfl) rfl rfl (fun ex => .load1 isAgg24 rfl .z rfl rfl rfl .mk) (.fs [[]] rfl (by kernel_rfl) ?_))))))
 obtain ⟨h38, x39, hx40, hd⟩ := hd
 obtain ⟨b41, o42, cs43, e44, hC45, hr46⟩ := R3.2 _ _ hx40
 cases hr46
 refine .f [1, 2] rfl (by kernel_rfl) rfl rfl (fun ex => .ixa underlying24 sizeOf3 rfl e44 rfl h38 (idx_lt hx40 h38) rfl rfl .mk) (.f [3] rfl (by kernel_rfl) rfl rfl (fun ex => .ld1 (j := 0) isAgg3 hC45 rfl rfl rfl rfl rfl .mk) (.f [] rfl (by kernel_rfl) rfl rfl (fun ex => .fieldAddr underlying27 rfl sizeOf24 rfl (o := 2) rfl rfl rfl .mk) (.f [5] rfl (by kernel_rfl) rfl rfl (fun ex => .load1 isAgg24 rfl .z rfl rfl rfl .mk) (.fs [[]] rfl (by kernel_rfl) (.f [7] rfl (by kernel_rfl) rfl rfl (fun ex => .add rfl rfl rfl rfl .mk) ?_)))))
 obtain ⟨h47, x48, hx49, hd⟩ := hd
 obtain ⟨b50, o51, cs52, e53, hC54, hr55⟩ := R3.2 _ _ hx49
 cases hr55
 refine .f [6, 8] rfl (by kernel_rfl) rfl rfl (fun ex => .ixa underlying24 sizeOf3 rfl e53 rfl h47 (idx_lt hx49 h47) rfl rfl .mk) (.f [9] rfl (by kernel_rfl) rfl rfl (fun ex => .ld1 (j := 0) isAgg3 hC54 rfl rfl rfl rfl rfl .mk) (.fs [[4, 0, 1, 2, 3, 4]] rfl (by kernel_rfl) (.e 12 (by kernel_rfl) (by kernel_rfl) (by kernel_rfl) (.skips 1 rfl (.nilS [7, 6, 2] rfl rfl (.seq (.draw [some 0, some 1, some 2, some 3, some 4, some 5, some 6, some 7, some 8, some 9, some 10, some 11, some 12] 13 MX (by kernel_rfl) (by kernel_rfl) (by kernel_rfl) (by kernel_rfl) (by kernel_rfl) (by kernel_rfl) (by kernel_rfl) (fun ex => (pto b18 (.cells #[.int .i64 a0.Rows, .int .i64 a0.Cols, .slice p1 a0.Start.length c2, .slice p4 a0.Col.length c5, .slice p7 a0.Val.length c8] 27 (0, 0))) :: ex) (fun _ _ => (.s .z)) rfl (.f [] rfl (by kernel_rfl) rfl rfl (fun ex => .fieldAddr underlying27 rfl sizeOf24 rfl (o := 3) rfl rfl rfl .mk) (.f [0] rfl (by kernel_rfl) rfl rfl (fun ex => .load1 isAgg24 rfl .z rfl rfl rfl .mk) ?_)))))))))
 refine .fs [[], [], []] rfl (by kernel_rfl) ?_
 obtain ⟨h56, h57, h58, hd⟩ := hd
 have h64 : Int.toNat x39 ≤ Int.toNat x48 := by omega
 have h65 : Int.toNat x48 ≤ a0.Col.length := by omega
 obtain ⟨p59, c60, e62, e63, R61⟩ := RepSl.sliceW R6 (Int.toNat x39) (Int.toNat x48) (Int.toNat x48) h64 h65 (.inr rfl)
 refine .f [1, 2, 3, 4] rfl (by kernel_rfl) rfl rfl (fun ex => .sliceW (L := Int.toNat x39) (H := Int.toNat x48) (cm := Int.toNat x48) underlying24 sizeOf3 rfl rfl R6.1 rfl rfl rfl (.inr ⟨_, _, rfl, h56, rfl⟩) (.inr ⟨_, _, rfl, (by omega), rfl⟩) (.inr rfl) h64 h65 rfl e62 e63 rfl rfl .mk) (.f [] rfl (by kernel_rfl) rfl rfl (fun ex => .fieldAddr underlying27 rfl sizeOf25 rfl (o := 4) rfl rfl rfl .mk) (.f [6] rfl (by kernel_rfl) rfl rfl (fun ex => .load1 isAgg25 rfl .z rfl rfl rfl .mk) (.fs [[], [], []] rfl (by kernel_rfl) ?_)))
 obtain ⟨h66, h67, h68, hd⟩ := hd
 have h74 : Int.toNat x39 ≤ Int.toNat x48 := by omega
 have h75 : Int.toNat x48 ≤ a0.Val.length := by omega
 obtain ⟨p69, c70, e72, e73, R71⟩ := RepSl.sliceW R9 (Int.toNat x39) (Int.toNat x48) (Int.toNat x48) h74 h75 (.inr rfl)
 exact .f [7, 8, 9, 10] rfl (by kernel_rfl) rfl rfl (fun ex => .sliceW (L := Int.toNat x39) (H := Int.toNat x48) (cm := Int.toNat x48) underlying25 sizeOf2 rfl rfl R9.1 rfl rfl rfl (.inr ⟨_, _, rfl, h66, rfl⟩) (.inr ⟨_, _, rfl, (by omega), rfl⟩) (.inr rfl) h74 h75 rfl e72 e73 rfl rfl .mk) (.fs [[5, 0, 1, 2, 3, 4, 5]] rfl (by kernel_rfl) (.e 13 (by kernel_rfl) (by kernel_rfl) (by kernel_rfl) (.skips 1 rfl (.nilS [5, 4] rfl rfl (.drop .z (.ret (pret results48 (.t rfl (.t rfl .n)) (.refl _) ⟨(((a0.Col.take x48.toNat).drop x39.toNat), ((a0.Val.take x48.toNat).drop x39.toNat)), _, _, _, _, rfl, R61, R71, hd⟩)))))))

theorem W_csr_Triples {I : IH} {a0 : Rows} {p1 : Option Addr} {c2 : Nat} {p4 : Option Addr} {c5 : Nat} {p7 : Option Addr} {c8 : Nat} {Q : (List Triple) → Prop} (R3 : RepSl eI64 I p1 c2 a0.Start) (R6 : RepSl eI64 I p4 c5 a0.Col) (R9 : RepSl eI64 I p7 c8 a0.Val) (hd : csr_Triples a0 Q) :
    OFun Try.prog 26 [.agg #[.int .i64 a0.Rows, .int .i64 a0.Cols, .slice p1 a0.Start.length c2, .slice p4 a0.Col.length c5, .slice p7 a0.Val.length c8]] I (fun I_ v l => ∃ r p10 c11, v = .slice p10 r.length c11 ∧ l = [OwnSl eTriple 49 p10 c11 r] ∧ Q r) := by
 refine Fun.enter func26 rfl ntmps26 rfl (.c .n) fun w0 M => ?_
 refine .seq (.region (.boxA rfl rfl rfl fun b15 => ?_))
 refine .skips 1 rfl (.nilS [1] rfl rfl (.seq (.region (.loadW isAgg27 sizeOf27 rfl .z rfl rfl rfl ?_))))
 have hw49 := W_csr_sure (I := I) R3 R6 R9 hd
 refine .call call47 rfl hw49 rfl rfl fun v38 I35 hl36 hv37 => ?_
 obtain ⟨r34, p40, c41, p43, c44, p46, c47, rfl, R42, R45, R48, hd⟩ := hv37
 have le50 := IH.le.trans (.refl _) hl36
 replace R3 := R3.mono hl36
 replace R6 := R6.mono hl36
 replace R9 := R9.mono hl36
 refine .storeA sizeOf27 rfl rfl .z (.t (.t (.t (.t (.t .nil))))) rfl rfl (.nilS [1] rfl rfl (.seq (.region (.skips 1 rfl (.nilS [3, 1] rfl rfl (.seq (.seq (.region (.fieldAddr underlying27 rfl sizeOf3 rfl (o := 0) rfl rfl rfl ?_)))))))))
 refine .load1 isAgg3 rfl .z rfl rfl rfl (.skips 1 rfl (.nilS [13, 12, 3, 1] rfl rfl (.block (.own0 eTriple 49 (.loop hd (fun (s : (List Triple) × Int) c w => match s with | (s394, s398) => ∃ I_ p395 c396, IH.le I35 I_ ∧ Ok ⟨42, [], none⟩ [(1, .pointer (some ⟨b15, 0, none⟩)), (3, .slice p395 s394.length c396), (12, .int .i64 r34.Rows), (13, .int .i64 s398)] c ∧ Sym w0 M I I_ [pto b15 (.cells #[.int .i64 r34.Rows, .int .i64 r34.Cols, .slice p40 r34.Start.length c41, .slice p43 r34.Col.length c44, .slice p46 r34.Val.length c47] 27 (0, 0)), OwnSl eTriple 49 p395 c396 s394] w) (fun c w ho hs => ⟨I35, _, _, (.refl _), ho.sub ⟨rfl, rfl, rfl, rfl, trivial⟩, hs.pick (.c (.s .z) (.c .z .n))⟩) ?_)))))
 rintro ⟨s394, s398⟩ next400 hd c w hst
 obtain ⟨I401, p395, c396, hl402, hok, hsym⟩ := hst
 have le403 := IH.le.trans le50 hl402
 have le404 := IH.le.trans (.refl _) hl402
 replace R42 := R42.mono hl402
 replace R45 := R45.mono hl402
 replace R48 := R48.mono hl402
 refine Cod.at hok hsym (.seq (.region (.lt rfl rfl rfl rfl (.nilS [14, 13, 12, 3, 1] rfl rfl (.seq (.condP rfl hd (fun hb406 hd => ?_) fun hb406 hd => ?_))))))
 · refine .skipS [13, 12, 3, 1] rfl rfl (.seq (.block (.seq (.region (.skips 2 rfl (.nilS [4, 13, 12, 3, 1] rfl rfl (.seq (.region (.loadW isAgg27 sizeOf27 rfl .z rfl rfl rfl ?_)))))))))
   refine .skips 1 rfl ?_
   have hw434 := W_csr_part (I := I401) R42 R45 R48 hd
   refine .call call48 rfl hw434 rfl rfl fun v426 I423 hl424 hv425 => ?_
   obtain ⟨r422, p428, c429, p431, c432, rfl, R430, R433, hd⟩ := hv425
   have le435 := IH.le.trans le403 hl424
   have le436 := IH.le.trans le404 hl424
   replace R42 := R42.mono hl424
   replace R45 := R45.mono hl424
   replace R48 := R48.mono hl424
   refine .skips 1 rfl (.extract rfl rfl rfl rfl (.extract rfl rfl rfl rfl (.skips 2 rfl (.nilS [6, 5, 4, 13, 12, 3, 1] rfl rfl (.seq (.region (.skips 1 rfl (.len underlying24 rfl rfl rfl rfl (.skips 1 rfl ?_)))))))))
   refine .nilS [24, 23, 22, 6, 4, 13, 12, 3, 1] rfl rfl (.block (.loop hd (fun (s : (List Triple) × Int) c w => match s with | (s522, s526) => ∃ I_ p523 c524, IH.le I423 I_ ∧ Ok ⟨42, [], none⟩ [(1, .pointer (some ⟨b15, 0, none⟩)), (3, .slice p523 s522.length c524), (4, .int .i64 s398), (6, .slice p431 r422.2.length c432), (12, .int .i64 r34.Rows), (13, .int .i64 s398), (22, .slice p428 r422.1.length c429), (23, .int .i64 (r422.1.length : Int)), (24, .int .i64 s526)] c ∧ Sym w0 M I I_ [pto b15 (.cells #[.int .i64 r34.Rows, .int .i64 r34.Cols, .slice p40 r34.Start.length c41, .slice p43 r34.Col.length c44, .slice p46 r34.Val.length c47] 27 (0, 0)), OwnSl eTriple 49 p523 c524 s522] w) (fun c w ho hs => ⟨I423, _, _, (.refl _), ho.sub ⟨rfl, rfl, rfl, rfl, rfl, rfl, rfl, rfl, rfl, trivial⟩, hs.pick (.c .z (.c .z .n))⟩) ?_))
   rintro ⟨s522, s526⟩ next527 hd c w hst
   obtain ⟨I528, p523, c524, hl529, hok, hsym⟩ := hst
   have le530 := IH.le.trans le435 hl529
   have le531 := IH.le.trans le436 hl529
   have le532 := IH.le.trans (.refl _) hl529
   replace R42 := R42.mono hl529
   replace R45 := R45.mono hl529
   replace R48 := R48.mono hl529
   replace R430 := R430.mono hl529
   replace R433 := R433.mono hl529
   refine Cod.at hok hsym (.seq (.region (.lt rfl rfl rfl rfl (.nilS [25, 24, 23, 22, 13, 12, 6, 4, 3, 1] rfl rfl (.seq (.condP rfl hd (fun hb534 hd => ?_) fun hb534 hd => ?_))))))
   · refine .skipS [24, 23, 22, 13, 12, 6, 4, 3, 1] rfl rfl (.seq (.block (.seq (.region (.skips 1 rfl ?_)))))
     obtain ⟨h544, x545, hx546, hd⟩ := hd
     obtain ⟨b547, o548, cs549, e550, hC551, hr552⟩ := R430.2 _ _ hx546
     cases hr552
     refine .ixa underlying24 sizeOf3 rfl e550 rfl h544 (idx_lt hx546 h544) rfl rfl (.ld1 (j := 0) isAgg3 hC551 rfl rfl rfl rfl rfl (.skips 2 rfl (.nilS [8, 7, 24, 23, 22, 13, 12, 6, 4, 3, 1] rfl rfl (.region (.skips 5 rfl ?_)))))
     obtain ⟨h553, x554, hx555, hd⟩ := hd
     obtain ⟨b556, o557, cs558, e559, hC560, hr561⟩ := R433.2 _ _ hx555
     cases hr561
     refine .ixa underlying25 sizeOf2 rfl e559 rfl h553 (idx_lt hx555 h553) rfl rfl (.ld1 (j := 0) isAgg2 hC560 rfl rfl rfl rfl rfl (.build zeroValue49 underlying49 BI49 (.c rfl rfl rfl (.t .nil) (.c rfl rfl rfl (.s (.t .nil)) (.c rfl rfl rfl (.s (.s (.t .nil))) .n))) (by exact ⟨⟨_, _, rfl, rfl, rfl⟩, ⟨⟨_, _, rfl, rfl, rfl⟩, ⟨⟨_, _, rfl, rfl, rfl⟩, trivial⟩⟩⟩) rfl rfl (.buildSlice 1 underlying23 sizeOf49 zeroValue49 rfl rfl (.c rfl rfl rfl .n) rfl rfl fun b562 => ?_)))
     obtain ⟨hl564, hd⟩ := hd
     refine .append (ys := [({ Row := s398, Col := x545, Val := x554 } : Triple)]) 24 (.s (.s .z)) underlying23 underlying23 IN49 rfl rfl rfl rfl rfl rfl rfl rfl rfl (.box .z (.one rfl) rfl) hl564 rfl rfl fun p565 c566 => ?_
     exact .sub (E' := [(1, _), (4, _), (6, _), (12, _), (13, _), (22, _), (23, _), (24, _), (7, _), (8, _), (29, _), (30, _), (31, _), (32, _), (33, _), (34, _), (35, _), (36, _), (37, _), (38, _)]) ⟨rfl, rfl, rfl, rfl, rfl, rfl, rfl, rfl, rfl, rfl, rfl, rfl, rfl, rfl, rfl, rfl, rfl, rfl, rfl, rfl, trivial⟩ (.skips 1 rfl (.nilS [3, 24, 23, 22, 13, 12, 6, 4, 1] rfl rfl (.drop (.s .z) (.region (.add rfl rfl rfl rfl (.sub (E' := [(1, _), (4, _), (6, _), (12, _), (13, _), (22, _), (23, _), (3, _), (39, _)]) ⟨rfl, rfl, rfl, rfl, rfl, rfl, rfl, rfl, rfl, trivial⟩ (.skips 1 rfl (.nil' fun c w ho hs => ⟨((s522 ++ ([({ Row := s398, Col := x545, Val := x554 } : Triple)])), w64 (s526 + 1)), hd, I528, _, _, le532, ho.sub ⟨rfl, rfl, rfl, rfl, rfl, rfl, rfl, rfl, rfl, trivial⟩, hs.pick (.c (.s .z) (.c .z .n))⟩))))))))
   exact .exitS [13, 12, 3, 1] rfl rfl (.region (.add rfl rfl rfl rfl (.sub (E' := [(1, _), (3, _), (12, _), (40, _)]) ⟨rfl, rfl, rfl, rfl, trivial⟩ (.skips 1 rfl (.nil' fun c w ho hs => ⟨(s522, w64 (s398 + 1)), hd, I528, _, _, le531, ho.sub ⟨rfl, rfl, rfl, rfl, trivial⟩, hs.pick (.c .z (.c .z .n))⟩)))))
 exact .exitS [3] rfl rfl (.drop .z (.seq (.region (.skips 2 rfl (.nilS [2] rfl rfl (.ret (oret results26 (.t rfl .n) le403 (.c .z .n) ⟨s394, _, _, rfl, rfl, hd⟩)))))))

theorem W_cmp_Or_int {I : IH} {a0 : List Int} {p1 : Option Addr} {c2 : Nat} {Q : Int → Prop} (R3 : RepSl eI64 I p1 c2 a0) (hd : cmp_Or_int a0 Q) :
    PFun Try.prog 67 [.slice p1 a0.length c2] I (fun I_ v => ∃ r, v = .int .i64 r ∧ Q r) := by
 refine Fun.enter func67 rfl ntmps67 rfl (.c .n) fun w0 M => ?_
 refine .seq (.region (.skips 1 rfl (.nilS [0] rfl rfl (.seq (.region (.skips 1 rfl (.nilS [3, 0] rfl rfl (.seq (.seq ?_)))))))))
 refine .region (.skips 1 rfl (.len underlying24 rfl rfl rfl rfl (.skips 1 rfl (.nilS [8, 7, 6, 3] rfl rfl (.block (.loop hd (fun (s31 : Int) c w => ∃ I_, IH.le I I_ ∧ Ok ⟨18, [], none⟩ [(3, .int .i64 0), (6, .slice p1 a0.length c2), (7, .int .i64 (a0.length : Int)), (8, .int .i64 s31)] c ∧ Sym w0 M I I_ [] w) (fun c w ho hs => ⟨I, (.refl _), ho.sub ⟨rfl, rfl, rfl, rfl, trivial⟩, hs.pick .n⟩) ?_))))))
 rintro s31 next32 hd c w hst
 obtain ⟨I33, hl34, hok, hsym⟩ := hst
 have le35 := IH.le.trans (.refl _) hl34
 replace R3 := R3.mono hl34
 refine Cod.at hok hsym (.seq (.region (.lt rfl rfl rfl rfl (.nilS [9, 8, 7, 6, 3] rfl rfl (.seq (.condP rfl hd (fun hb37 hd => ?_) fun hb37 hd => ?_))))))
 · refine .skipS [8, 7, 6, 3] rfl rfl (.seq (.block (.seq (.region ?_))))
   obtain ⟨h38, x39, hx40, hd⟩ := hd
   obtain ⟨b41, o42, cs43, e44, hC45, hr46⟩ := R3.2 _ _ hx40
   cases hr46
   refine .ixa underlying24 sizeOf3 rfl e44 rfl h38 (idx_lt hx40 h38) rfl rfl (.ld1 (j := 0) isAgg3 hC45 rfl rfl rfl rfl rfl (.skips 1 rfl (.nilS [5, 8, 7, 6, 3] rfl rfl (.seq (.region (.skips 2 rfl (.ne rfl rfl rfl rfl (.nilS [14, 5, 8, 7, 6, 3] rfl rfl (.condP rfl hd (fun hb47 hd => ?_) fun hb47 hd => ?_)))))))))
   · exact .seq (.region (.skips 2 rfl (.nilS [2] rfl rfl (.ret (pret results67 (.t rfl .n) le35 ⟨x39, rfl, hd⟩)))))
   exact .skipS [8, 7, 6, 3] rfl rfl (.region (.add rfl rfl rfl rfl (.sub (E' := [(3, _), (6, _), (7, _), (16, _)]) ⟨rfl, rfl, rfl, rfl, trivial⟩ (.skips 1 rfl (.nil' fun c w ho hs => ⟨(w64 (s31 + 1)), hd, I33, le35, ho.sub ⟨rfl, rfl, rfl, rfl, trivial⟩, hs.pick .n⟩)))))
 exact .exitS [3] rfl rfl (.seq (.region (.skips 2 rfl (.nilS [2] rfl rfl (.ret (pret results67 (.t rfl .n) le35 ⟨0, rfl, hd⟩))))))

theorem W_cmp_Compare_int {I : IH} {a0 : Int} {a1 : Int}  {Q : Int → Prop}  (hd : cmp_Compare_int a0 a1 Q) :
    PFun Try.prog 68 [.int .i64 a0, .int .i64 a1] I (fun I_ v => ∃ r, v = .int .i64 r ∧ Q r) := by
 refine Fun.enter func68 rfl ntmps68 rfl (.c (.c .n)) fun w0 M => ?_
 refine .seq (.region (.skips 1 rfl (.nilS [1, 0] rfl rfl (.seq (.region (.skips 1 rfl ?_))))))
 have hw6 := W_cmp_isNaN_int (I := I) hd
 refine .callP call76 rfl hw6 rfl rfl fun v7 hv8 => ?_
 obtain ⟨r5, rfl, hd⟩ := hv8
 refine .skips 1 rfl (.nilS [5, 1, 0] rfl rfl (.seq (.region (.skips 1 rfl ?_))))
 have hw14 := W_cmp_isNaN_int (I := I) hd
 refine .callP call76 rfl hw14 rfl rfl fun v15 hv16 => ?_
 obtain ⟨r13, rfl, hd⟩ := hv16
 refine .skips 1 rfl (.nilS [6, 5, 1, 0] rfl rfl (.seq (.seq (.region (.skips 1 rfl (.nilS [11, 6, 1, 0] rfl rfl (.condP rfl hd (fun hb19 hd => ?_) fun hb19 hd => ?_)))))))
 · refine .seq (.seq (.region (.skips 1 rfl (.nilS [12] rfl rfl (.condP rfl hd (fun hb20 hd => ?_) fun hb20 hd => ?_)))))
   · exact .seq (.region (.skips 1 rfl (.nilS [4] rfl rfl (.ret (pret results68 (.t rfl .n) (.refl _) ⟨0, rfl, hd⟩)))))
   exact .skipS [] rfl rfl (.seq (.region (.skips 1 rfl (.nilS [4] rfl rfl (.ret (pret results68 (.t rfl .n) (.refl _) ⟨(-1), rfl, hd⟩))))))
 refine .skipS [6, 1, 0] rfl rfl (.seq (.seq (.region (.skips 1 rfl (.nilS [13, 1, 0] rfl rfl (.condP rfl hd (fun hb22 hd => ?_) fun hb22 hd => ?_))))))
 · exact .seq (.region (.skips 1 rfl (.nilS [4] rfl rfl (.ret (pret results68 (.t rfl .n) (.refl _) ⟨1, rfl, hd⟩)))))
 refine .skipS [1, 0] rfl rfl (.seq (.seq (.region (.skips 2 rfl (.lt rfl rfl rfl rfl (.nilS [16, 1, 0] rfl rfl (.condP rfl hd (fun hb24 hd => ?_) fun hb24 hd => ?_)))))))
 · exact .seq (.region (.skips 1 rfl (.nilS [4] rfl rfl (.ret (pret results68 (.t rfl .n) (.refl _) ⟨(-1), rfl, hd⟩)))))
 refine .skipS [1, 0] rfl rfl (.seq (.seq (.region (.skips 2 rfl (.gt rfl rfl rfl rfl (.nilS [19] rfl rfl (.condP rfl hd (fun hb25 hd => ?_) fun hb25 hd => ?_)))))))
 · exact .seq (.region (.skips 1 rfl (.nilS [4] rfl rfl (.ret (pret results68 (.t rfl .n) (.refl _) ⟨1, rfl, hd⟩)))))
 exact .skipS [] rfl rfl (.seq (.region (.skips 1 rfl (.nilS [4] rfl rfl (.ret (pret results68 (.t rfl .n) (.refl _) ⟨0, rfl, hd⟩))))))

theorem W_csr_order {I : IH} {a0 : Triple} {a1 : Triple}  {Q : Int → Prop}  (hd : csr_order a0 a1 Q) :
    PFun Try.prog 50 [.agg (encTriple a0).toArray, .agg (encTriple a1).toArray] I (fun I_ v => ∃ r, v = .int .i64 r ∧ Q r) := by
 refine Fun.enter func50 rfl ntmps50 rfl (.c (.c .n)) fun w0 M => ?_
 refine .seq (.region (.boxA rfl rfl rfl fun b5 => ?_))
 refine .boxA rfl rfl rfl fun b7 => ?_
 refine .skips 1 rfl (.nilS [3, 2] rfl rfl (.seq (.draw [some 0, some 1, some 2, some 3, some 5, some 6, some 7, some 8, some 4, some 9, some 10, some 11] 12 MX (by kernel_rfl) (by kernel_rfl) (by kernel_rfl) (by kernel_rfl) (by kernel_rfl) (by kernel_rfl) (by kernel_rfl) (fun ex => (pto b7 (.cells #[.int .i64 a1.Row, .int .i64 a1.Col, .int .i64 a1.Val] 49 (0, 0))) :: (pto b5 (.cells #[.int .i64 a0.Row, .int .i64 a0.Col, .int .i64 a0.Val] 49 (0, 0))) :: ex) (fun _ _ => (.s (.s .z))) rfl (.f [] rfl (by kernel_rfl) rfl rfl (fun ex => .fieldAddr underlying49 rfl sizeOf3 rfl (o := 0) rfl rfl rfl .mk) (.f [0] rfl (by kernel_rfl) rfl rfl (fun ex => .load1 isAgg3 rfl (.s .z) rfl rfl rfl .mk) (.f [] rfl (by kernel_rfl) rfl rfl (fun ex => .fieldAddr underlying49 rfl sizeOf3 rfl (o := 0) rfl rfl rfl .mk) (.f [2] rfl (by kernel_rfl) rfl rfl (fun ex => .load1 isAgg3 rfl .z rfl rfl rfl .mk) (.f [] rfl (by kernel_rfl) rfl rfl (fun ex => .fieldAddr underlying49 rfl sizeOf3 rfl (o := 1) rfl rfl rfl .mk) (.f [5] rfl (by kernel_rfl) rfl rfl (fun ex => .load1 isAgg3 rfl (.s .z) rfl rfl rfl .mk) ?_)))))))))
 refine .f [] rfl (by kernel_rfl) rfl rfl (fun ex => .fieldAddr underlying49 rfl sizeOf3 rfl (o := 1) rfl rfl rfl .mk) (.f [7] rfl (by kernel_rfl) rfl rfl (fun ex => .load1 isAgg3 rfl .z rfl rfl rfl .mk) (.w [8, 7, 6, 5] [[], [3], [], [1]] [1, 3] rfl (by kernel_rfl) (by kernel_rfl) (by kernel_rfl) ((dropE_kept rfl rfl)) (.inr (dropE_kept rfl rfl)) fun ex => ?_))
 have hw10 := W_cmp_Compare_int (I := I) hd
 refine .callP call68 rfl hw10 rfl rfl fun v11 hv12 => ?_
 obtain ⟨r9, rfl, hd⟩ := hv12
 refine .some (fun ex => (pto b7 (.cells #[.int .i64 a1.Row, .int .i64 a1.Col, .int .i64 a1.Val] 49 (0, 0))) :: (pto b5 (.cells #[.int .i64 a0.Row, .int .i64 a0.Col, .int .i64 a0.Val] 49 (0, 0))) :: ex) rfl (fun _ _ => (.s (.s .z))) rfl (.cc [7] rfl (by kernel_rfl) rfl rfl rfl (fun ex => .load1 isAgg3 rfl .z rfl rfl rfl .mk) (.cc [] rfl (by kernel_rfl) rfl rfl rfl (fun ex => .fieldAddr underlying49 rfl sizeOf3 rfl (o := 1) rfl rfl rfl .mk) (.cc [5] rfl (by kernel_rfl) rfl rfl rfl (fun ex => .load1 isAgg3 rfl (.s .z) rfl rfl rfl .mk) (.cc [] rfl (by kernel_rfl) rfl rfl rfl (fun ex => .fieldAddr underlying49 rfl sizeOf3 rfl (o := 1) rfl rfl rfl .mk) trivial)))) (.w [] [[], [8], [], [6]] [6, 8, 4] rfl (by kernel_rfl) (by kernel_rfl) (by kernel_rfl) ((dropE_kept rfl rfl)) (.inr (dropE_kept rfl rfl)) fun ex => ?_)
 have hw14 := W_cmp_Compare_int (I := I) hd
 refine .callP call68 rfl hw14 rfl rfl fun v15 hv16 => ?_
 obtain ⟨r13, rfl, hd⟩ := hv16
 refine .some (fun ex => (pto b7 (.cells #[.int .i64 a1.Row, .int .i64 a1.Col, .int .i64 a1.Val] 49 (0, 0))) :: (pto b5 (.cells #[.int .i64 a0.Row, .int .i64 a0.Col, .int .i64 a0.Val] 49 (0, 0))) :: ex) rfl (fun _ _ => (.s (.s .z))) rfl trivial (.w [] [] [4, 9] rfl (by kernel_rfl) (by kernel_rfl) (by kernel_rfl) ((dropE_kept rfl rfl)) (.inr (dropE_kept rfl rfl)) fun ex => ?_)
 refine .buildSlice 2 underlying24 sizeOf3 zeroValue3 rfl rfl (.c rfl rfl rfl (.c rfl rfl rfl .n)) rfl rfl fun b17 => ?_
 refine .some (fun ex => (pto b17 (.cells #[.int .i64 r9, .int .i64 r13] 3 (0, 0))) :: (pto b7 (.cells #[.int .i64 a1.Row, .int .i64 a1.Col, .int .i64 a1.Val] 49 (0, 0))) :: (pto b5 (.cells #[.int .i64 a0.Row, .int .i64 a0.Col, .int .i64 a0.Val] 49 (0, 0))) :: ex) rfl (fun _ _ => (.s (.s (.s .z)))) rfl trivial (.w [] [] [10, 9] rfl (by kernel_rfl) (by kernel_rfl) (by kernel_rfl) ((dropE_kept rfl rfl)) (.inr (dropE_kept rfl rfl)) fun ex => ?_)
 refine .pubB (El := eI64) (ys := ([r9, r13] : List Int)) (k := 2) .z (RepCs.cons (cs := [.int .i64 r9]) rfl (RepCs.cons (cs := [.int .i64 r13]) rfl .nil)) rfl fun I19 hl20 R21 => ?_
 have le22 := IH.le.trans (.refl _) hl20
 have hw24 := W_cmp_Or_int (I := I19) R21 hd
 refine .callP call67 rfl hw24 rfl rfl fun v25 hv26 => ?_
 obtain ⟨r23, rfl, hd⟩ := hv26
 exact .some (fun ex => (pto b7 (.cells #[.int .i64 a1.Row, .int .i64 a1.Col, .int .i64 a1.Val] 49 (0, 0))) :: (pto b5 (.cells #[.int .i64 a0.Row, .int .i64 a0.Col, .int .i64 a0.Val] 49 (0, 0))) :: ex) rfl (fun _ _ => (.s (.s .z))) rfl trivial (.e 12 (by kernel_rfl) (by kernel_rfl) (by kernel_rfl) (.skips 1 rfl (.nilS [4] rfl rfl (.drop .z (.drop .z (.ret (pret results50 (.t rfl .n) le22 ⟨r23, rfl, hd⟩)))))))

theorem W_csr_built {I : IH} {a0 : Int} {a1 : Int} {a2 : List Triple} {p1 : Option Addr} {c2 : Nat} {Q : Rows → Prop} (R3 : RepSl eTriple I p1 c2 a2) (hd : csr_built a0 a1 a2 Q) :
    PFun Try.prog 51 [.int .i64 a0, .int .i64 a1, .slice p1 a2.length c2] I (fun I_ v => ∃ r p4 c5 p7 c8 p10 c11, v = .agg #[.int .i64 r.Rows, .int .i64 r.Cols, .slice p4 r.Start.length c5, .slice p7 r.Col.length c8, .slice p10 r.Val.length c11] ∧ RepSl eI64 I_ p4 c5 r.Start ∧ RepSl eI64 I_ p7 c8 r.Col ∧ RepSl eI64 I_ p10 c11 r.Val ∧ Q r) := by
 refine Fun.enter func51 rfl ntmps51 rfl (.c (.c (.c .n))) fun w0 M => ?_
 refine .seq (.region (.allocA zeroValue27 rfl rfl fun b15 => ?_))
 refine .nilS [6, 2, 1, 0] rfl rfl (.seq (.region (.skips 2 rfl ?_)))
 have hw57 := W_csr_empty (I := I) hd
 refine .callO call64 rfl hw57 rfl rfl fun v43 I40 l44 hl41 hv42 => ?_
 obtain ⟨r39, p45, c46, p48, c49, p51, c52, rfl, rfl, hd⟩ := hv42
 have le58 := IH.le.trans (.refl _) hl41
 replace R3 := R3.mono hl41
 refine .allocA zeroValue27 rfl rfl fun b59 => ?_
 refine .storeA sizeOf27 rfl rfl .z (.t (.t (.t (.t (.t .nil))))) rfl rfl (.nilS [7, 6, 2, 0] rfl rfl (.seq (.seq (.region (.skips 1 rfl (.len underlying23 rfl rfl rfl rfl (.skips 1 rfl (.nilS [16, 15, 14, 7, 6, 0] rfl rfl (.block ?_)))))))))
 refine .loop hd (fun (s : (List Int) × (List Int) × (List Int) × Int) c w => match s with | (s417, s421, s425, s429) => ∃ I_ p418 c419 p422 c423 p426 c427, IH.le I40 I_ ∧ Ok ⟨63, [], none⟩ [(0, .int .i64 a0), (6, .pointer (some ⟨b15, 0, none⟩)), (7, .pointer (some ⟨b59, 0, none⟩)), (14, .slice p1 a2.length c2), (15, .int .i64 (a2.length : Int)), (16, .int .i64 s429)] c ∧ Sym w0 M I I_ [pto b15 (.cells #[.int .i64 0, .int .i64 0, .slice none 0 0, .slice none 0 0, .slice none 0 0] 27 (0, 0)), pto b59 (.cells #[.int .i64 r39.Rows, .int .i64 r39.Cols, .slice p418 s417.length c419, .slice p422 s421.length c423, .slice p426 s425.length c427] 27 (0, 0)), OwnSl eI64 3 p418 c419 s417, OwnSl eI64 3 p422 c423 s421, OwnSl eI64 2 p426 c427 s425] w) (fun c w ho hs => ⟨I40, _, _, _, _, _, _, (.refl _), ho.sub ⟨rfl, rfl, rfl, rfl, rfl, rfl, trivial⟩, hs.pick (.c (.s (.s (.s (.s .z)))) (.c .z (.c .z (.c .z (.c .z .n)))))⟩) ?_
 rintro ⟨s417, s421, s425, s429⟩ next430 hd c w hst
 obtain ⟨I431, p418, c419, p422, c423, p426, c427, hl432, hok, hsym⟩ := hst
 have le433 := IH.le.trans le58 hl432
 have le434 := IH.le.trans (.refl _) hl432
 replace R3 := R3.mono hl432
 refine Cod.at hok hsym (.seq (.region (.lt rfl rfl rfl rfl (.nilS [17, 16, 15, 14, 7, 6, 0] rfl rfl (.seq (.condP rfl hd (fun hb436 hd => ?_) fun hb436 hd => ?_))))))
 · refine .skipS [16, 15, 14, 7, 6, 0] rfl rfl (.seq (.block (.seq (.region ?_))))
   obtain ⟨h448, x449, hx450, hd⟩ := hd
   obtain ⟨b451, o452, cs453, e454, hC455, hr456⟩ := R3.2 _ _ hx450
   cases hr456
   refine .ixa underlying23 sizeOf49 rfl e454 rfl h448 (idx_lt hx450 h448) rfl rfl (.ldW isAgg49 sizeOf49 hC455 rfl rfl rfl rfl (.allocA zeroValue49 rfl rfl fun b457 => ?_))
   refine .storeA sizeOf49 rfl rfl .z (.t (.t (.t .nil))) rfl rfl (.nilS [9, 16, 15, 14, 7, 6, 0] rfl rfl (.seq (.region (.fieldAddr underlying27 rfl sizeOf24 rfl (o := 2) rfl rfl rfl (.load1 isAgg24 rfl (.s (.s .z)) rfl rfl rfl (.fieldAddr underlying49 rfl sizeOf3 rfl (o := 0) rfl rfl rfl (.load1 isAgg3 rfl .z rfl rfl rfl (.add rfl rfl rfl rfl ?_))))))))
   obtain ⟨h467, x468, hx469, hd⟩ := hd
   refine .ownNe (.s (.s (.s .z))) (idx_ne hx469) fun b470 e471 => ?_
   cases e471
   refine .ixa0 underlying24 sizeOf3 rfl rfl h467 (idx_lt hx469 h467) rfl rfl (.lo1 (j := 0) isAgg3 (.s (.s (.s .z))) hx469 rfl rfl rfl rfl rfl (.add rfl rfl rfl rfl ?_))
   obtain ⟨h472, x473, hx474, hd⟩ := hd
   refine .ixa0 underlying24 sizeOf3 rfl rfl h472 (idx_lt hx474 h472) rfl rfl (.stO1 (j := 0) (v' := (w64 (x468 + 1))) sizeOf3 (.s (.s (.s .z))) hx474 rfl rfl rfl (.t .nil) rfl (.sub (E' := [(0, _), (6, _), (7, _), (14, _), (15, _), (16, _), (9, _), (20, _), (21, .slice (some ⟨b470, 0, none⟩) (s417.set ((w64 (x449.Row + 1)).toNat) (w64 (x468 + 1))).length c419), (22, _), (23, _), (24, _), (25, _), (26, _), (27, _), (28, _)]) ⟨rfl, rfl, rfl, rfl, rfl, rfl, rfl, rfl, (by simp only [List.length_set]; rfl), rfl, rfl, rfl, rfl, rfl, rfl, rfl, trivial⟩ (.reat (.s (.s .z)) (B := pto b59 (.cells #[.int .i64 r39.Rows, .int .i64 r39.Cols, .slice (some ⟨b470, 0, none⟩) (s417.set ((w64 (x449.Row + 1)).toNat) (w64 (x468 + 1))).length c419, .slice p422 s421.length c423, .slice p426 s425.length c427] 27 (0, 0))) (by simp only [List.length_set]) (.nilS [9, 16, 15, 14, 7, 6, 0] rfl rfl (.seq (.region (.fieldAddr underlying27 rfl sizeOf24 rfl (o := 3) rfl rfl rfl (.load1 isAgg24 rfl (.s (.s .z)) rfl rfl rfl (.fieldAddr underlying49 rfl sizeOf3 rfl (o := 1) rfl rfl rfl ?_)))))))))
   refine .load1 isAgg3 rfl .z rfl rfl rfl (.buildSlice 1 underlying24 sizeOf3 zeroValue3 rfl rfl (.c rfl rfl rfl .n) rfl rfl fun b475 => ?_)
   obtain ⟨hl477, hd⟩ := hd
   refine .append (ys := [x449.Col]) 8 (.s (.s (.s (.s (.s .z))))) underlying24 underlying24 IN3 rfl rfl rfl rfl rfl rfl rfl rfl rfl (.box .z (.one rfl) rfl) hl477 rfl rfl fun p478 c479 => ?_
   refine .fieldAddr underlying27 rfl sizeOf24 rfl (o := 3) rfl rfl rfl (.store1 sizeOf24 rfl rfl (.s (.s (.s (.s .z)))) (.s (.s (.s (.t .nil)))) rfl (.nilS [9, 16, 15, 14, 7, 6, 0] rfl rfl (.drop (.s .z) (.region (.fieldAddr underlying27 rfl sizeOf25 rfl (o := 4) rfl rfl rfl (.load1 isAgg25 rfl (.s (.s (.s .z))) rfl rfl rfl (.fieldAddr underlying49 rfl sizeOf2 rfl (o := 2) rfl rfl rfl (.load1 isAgg2 rfl (.s .z) rfl rfl rfl (.buildSlice 1 underlying25 sizeOf2 zeroValue2 rfl rfl (.c rfl rfl rfl .n) rfl rfl fun b481 => ?_)))))))))
   obtain ⟨hl483, hd⟩ := hd
   refine .append (ys := [x449.Val]) 8 (.s (.s (.s (.s (.s (.s .z)))))) underlying25 underlying25 IN2 rfl rfl rfl rfl rfl rfl rfl rfl rfl (.box .z (.one rfl) rfl) hl483 rfl rfl fun p484 c485 => ?_
   exact .fieldAddr underlying27 rfl sizeOf25 rfl (o := 4) rfl rfl rfl (.store1 sizeOf25 rfl rfl (.s (.s (.s (.s (.s .z))))) (.s (.s (.s (.s (.t .nil))))) rfl (.nilS [16, 15, 14, 7, 6, 0] rfl rfl (.drop (.s .z) (.drop (.s (.s .z)) (.region (.add rfl rfl rfl rfl (.sub (E' := [(0, _), (6, _), (7, _), (14, _), (15, _), (43, _)]) ⟨rfl, rfl, rfl, rfl, rfl, rfl, trivial⟩ (.skips 1 rfl (.nil' fun c w ho hs => ⟨((s417.set ((w64 (x449.Row + 1)).toNat) (w64 (x468 + 1))), (s421 ++ ([x449.Col])), (s425 ++ ([x449.Val])), w64 (s429 + 1)), hd, I431, _, _, _, _, _, _, le434, ho.sub ⟨rfl, rfl, rfl, rfl, rfl, rfl, trivial⟩, hs.pick (.c (.s (.s .z)) (.c (.s (.s .z)) (.c (.s (.s .z)) (.c (.s .z) (.c .z .n)))))⟩)))))))))
 refine .exitS [7, 6, 0] rfl rfl (.seq (.seq (.region (.skips 2 rfl (.nilS [45, 44, 7, 6] rfl rfl (.block (.loop hd (fun (s : (List Int) × Int) c w => match s with | (s534, s538) => ∃ I_ p535 c536, IH.le I431 I_ ∧ Ok ⟨63, [], none⟩ [(6, .pointer (some ⟨b15, 0, none⟩)), (7, .pointer (some ⟨b59, 0, none⟩)), (44, .int .i64 a0), (45, .int .i64 s538)] c ∧ Sym w0 M I I_ [pto b15 (.cells #[.int .i64 0, .int .i64 0, .slice none 0 0, .slice none 0 0, .slice none 0 0] 27 (0, 0)), pto b59 (.cells #[.int .i64 r39.Rows, .int .i64 r39.Cols, .slice p535 s534.length c536, .slice p422 s421.length c423, .slice p426 s425.length c427] 27 (0, 0)), OwnSl eI64 3 p535 c536 s534, OwnSl eI64 3 p422 c423 s421, OwnSl eI64 2 p426 c427 s425] w) (fun c w ho hs => ⟨I431, _, _, (.refl _), ho.sub ⟨rfl, rfl, rfl, rfl, trivial⟩, hs.pick (.c .z (.c .z (.c .z (.c .z (.c .z .n)))))⟩) ?_)))))))
 rintro ⟨s534, s538⟩ next539 hd c w hst
 obtain ⟨I540, p535, c536, hl541, hok, hsym⟩ := hst
 have le542 := IH.le.trans le433 hl541
 have le543 := IH.le.trans le434 hl541
 have le544 := IH.le.trans (.refl _) hl541
 refine Cod.at hok hsym (.seq (.region (.lt rfl rfl rfl rfl (.nilS [46, 45, 44, 7, 6] rfl rfl (.seq (.condP rfl hd (fun hb546 hd => ?_) fun hb546 hd => ?_))))))
 · refine .skipS [45, 44, 7, 6] rfl rfl (.seq (.block (.seq (.region (.skips 2 rfl (.nilS [10, 45, 44, 7, 6] rfl rfl (.ownF (.s (.s .z)) fun hne547 => ?_)))))))
   refine .ownF (.s (.s (.s .z))) fun hne548 => ?_
   refine .ownF (.s (.s (.s (.s .z)))) fun hne549 => ?_
   refine .draw [some 0, some 1, some 2, some 3, some 4, some 5, some 6, some 7, some 8, some 9, some 10, some 11] 12 MX (by kernel_rfl) (by kernel_rfl) (by kernel_rfl) (by kernel_rfl) (by kernel_rfl) (by kernel_rfl) (by kernel_rfl) (fun ex => (pto b15 (.cells #[.int .i64 0, .int .i64 0, .slice none 0 0, .slice none 0 0, .slice none 0 0] 27 (0, 0))) :: (pto b59 (.cells #[.int .i64 r39.Rows, .int .i64 r39.Cols, .slice p535 s534.length c536, .slice p422 s421.length c423, .slice p426 s425.length c427] 27 (0, 0))) :: (OwnSl eI64 3 p535 c536 s534) :: (OwnSl eI64 3 p422 c423 s421) :: (OwnSl eI64 2 p426 c427 s425) :: ex) (fun _ _ => (.s (.s (.s (.s (.s .z)))))) rfl (.f [] rfl (by kernel_rfl) rfl rfl (fun ex => .fieldAddr underlying27 rfl sizeOf24 rfl (o := 2) rfl rfl rfl .mk) (.f [0] rfl (by kernel_rfl) rfl rfl (fun ex => .load1 isAgg24 rfl (.s .z) rfl rfl rfl .mk) (.fs [[]] rfl (by kernel_rfl) (.f [2] rfl (by kernel_rfl) rfl rfl (fun ex => .add rfl rfl rfl rfl .mk) ?_))))
   obtain ⟨h550, x551, hx552, hd⟩ := hd
   obtain ⟨b553, e554⟩ := hne547 (idx_ne hx552)
   cases e554
   refine .f [1, 3] rfl (by kernel_rfl) rfl rfl (fun ex => .ixa0 underlying24 sizeOf3 rfl rfl h550 (idx_lt hx552 h550) rfl rfl .mk) (.f [4] rfl (by kernel_rfl) rfl rfl (fun ex => .lo1 (j := 0) isAgg3 (.s (.s .z)) hx552 rfl rfl rfl rfl rfl .mk) (.f [] rfl (by kernel_rfl) rfl rfl (fun ex => .fieldAddr underlying27 rfl sizeOf24 rfl (o := 2) rfl rfl rfl .mk) (.f [6] rfl (by kernel_rfl) rfl rfl (fun ex => .load1 isAgg24 rfl (.s .z) rfl rfl rfl .mk) (.fs [[]] rfl (by kernel_rfl) ?_))))
   obtain ⟨h555, x556, hx557, hd⟩ := hd
   refine .f [7, 8] rfl (by kernel_rfl) rfl rfl (fun ex => .ixa0 underlying24 sizeOf3 rfl rfl h555 (idx_lt hx557 h555) rfl rfl .mk) (.f [9] rfl (by kernel_rfl) rfl rfl (fun ex => .lo1 (j := 0) isAgg3 (.s (.s .z)) hx557 rfl rfl rfl rfl rfl .mk) (.f [5, 10] rfl (by kernel_rfl) rfl rfl (fun ex => .add rfl rfl rfl rfl .mk) (.e 12 (by kernel_rfl) (by kernel_rfl) (by kernel_rfl) ?_)))
   obtain ⟨h558, x559, hx560, hd⟩ := hd
   exact .ixa0 underlying24 sizeOf3 rfl rfl h558 (idx_lt hx560 h558) rfl rfl (.stO1 (j := 0) (v' := (w64 (x551 + x556))) sizeOf3 (.s (.s .z)) hx560 rfl rfl rfl (.t .nil) rfl (.sub (E' := [(6, _), (7, _), (44, _), (45, _), (10, _), (48, _), (49, .slice (some ⟨b553, 0, none⟩) (s534.set ((w64 (s538 + 1)).toNat) (w64 (x551 + x556))).length c536), (50, _), (51, _), (52, _), (53, _), (54, _), (55, .slice (some ⟨b553, 0, none⟩) (s534.set ((w64 (s538 + 1)).toNat) (w64 (x551 + x556))).length c536), (56, _), (57, _), (58, _), (59, _), (60, _)]) ⟨rfl, rfl, rfl, rfl, rfl, rfl, (by simp only [List.length_set]; rfl), rfl, rfl, rfl, rfl, rfl, (by simp only [List.length_set]; rfl), rfl, rfl, rfl, rfl, rfl, trivial⟩ (.reat (.s .z) (B := pto b59 (.cells #[.int .i64 r39.Rows, .int .i64 r39.Cols, .slice (some ⟨b553, 0, none⟩) (s534.set ((w64 (s538 + 1)).toNat) (w64 (x551 + x556))).length c536, .slice p422 s421.length c423, .slice p426 s425.length c427] 27 (0, 0))) (by simp only [List.length_set]) (.nilS [45, 44, 7, 6] rfl rfl (.region (.add rfl rfl rfl rfl (.sub (E' := [(6, _), (7, _), (44, _), (61, _)]) ⟨rfl, rfl, rfl, rfl, trivial⟩ (.skips 1 rfl (.nil' fun c w ho hs => ⟨((s534.set ((w64 (s538 + 1)).toNat) (w64 (x551 + x556))), w64 (s538 + 1)), hd, I540, _, _, le544, ho.sub ⟨rfl, rfl, rfl, rfl, trivial⟩, hs.pick (.c .z (.c .z (.c .z (.c .z (.c .z .n)))))⟩)))))))))
 refine .exitS [7, 6] rfl rfl (.seq (.region (.loadW isAgg27 sizeOf27 rfl (.s .z) rfl rfl rfl (.storeA sizeOf27 rfl rfl .z (.t (.t (.t (.t (.t .nil))))) rfl rfl (.nilS [6] rfl rfl (.drop (.s .z) (.pub (.s .z) fun I561 hl562 R563 => ?_)))))))
 have le564 := IH.le.trans le542 hl562
 have le565 := IH.le.trans le543 hl562
 have le566 := IH.le.trans le544 hl562
 refine .pub (.s .z) fun I567 hl568 R569 => ?_
 have le570 := IH.le.trans le564 hl568
 have le571 := IH.le.trans le565 hl568
 have le572 := IH.le.trans le566 hl568
 replace R563 := R563.mono hl568
 refine .pub (.s .z) fun I573 hl574 R575 => ?_
 have le576 := IH.le.trans le570 hl574
 have le577 := IH.le.trans le571 hl574
 have le578 := IH.le.trans le572 hl574
 replace R563 := R563.mono hl574
 replace R569 := R569.mono hl574
 exact .ret (pret results51 (.w isAgg27 sizeOf27 rfl .z rfl .n) le576 ⟨({ Rows := r39.Rows, Cols := r39.Cols, Start := s534, Col := s421, Val := s425 } : Rows), _, _, _, _, _, _, rfl, R563, R569, R575, hd⟩)

theorem W_csr_Turn {I : IH} {a0 : Rows} {p1 : Option Addr} {c2 : Nat} {p4 : Option Addr} {c5 : Nat} {p7 : Option Addr} {c8 : Nat} {Q : Rows → Prop} (R3 : RepSl eI64 I p1 c2 a0.Start) (R6 : RepSl eI64 I p4 c5 a0.Col) (R9 : RepSl eI64 I p7 c8 a0.Val) (hd : csr_Turn a0 Q) :
    PFun Try.prog 27 [.agg #[.int .i64 a0.Rows, .int .i64 a0.Cols, .slice p1 a0.Start.length c2, .slice p4 a0.Col.length c5, .slice p7 a0.Val.length c8]] I (fun I_ v => ∃ r p10 c11 p13 c14 p16 c17, v = .agg #[.int .i64 r.Rows, .int .i64 r.Cols, .slice p10 r.Start.length c11, .slice p13 r.Col.length c14, .slice p16 r.Val.length c17] ∧ RepSl eI64 I_ p10 c11 r.Start ∧ RepSl eI64 I_ p13 c14 r.Col ∧ RepSl eI64 I_ p16 c17 r.Val ∧ Q r) := by
 refine Fun.enter func27 rfl ntmps27 rfl (.c .n) fun w0 M => ?_
 refine .seq (.region (.boxA rfl rfl rfl fun b23 => ?_))
 refine .allocA zeroValue27 rfl rfl fun b25 => ?_
 refine .nilS [2, 1] rfl rfl (.seq (.region (.loadW isAgg27 sizeOf27 rfl (.s .z) rfl rfl rfl ?_)))
 have hw59 := W_csr_sure (I := I) R3 R6 R9 hd
 refine .call call47 rfl hw59 rfl rfl fun v48 I45 hl46 hv47 => ?_
 obtain ⟨r44, p50, c51, p53, c54, p56, c57, rfl, R52, R55, R58, hd⟩ := hv47
 have le60 := IH.le.trans (.refl _) hl46
 replace R3 := R3.mono hl46
 replace R6 := R6.mono hl46
 replace R9 := R9.mono hl46
 refine .storeA sizeOf27 rfl rfl (.s .z) (.t (.t (.t (.t (.t .nil))))) rfl rfl (.nilS [2, 1] rfl rfl (.seq (.region (.loadW isAgg27 sizeOf27 rfl (.s .z) rfl rfl rfl ?_))))
 have hw83 := W_csr_Triples (I := I45) R52 R55 R58 hd
 refine .callO call26 rfl hw83 rfl rfl fun v77 I74 l78 hl75 hv76 => ?_
 obtain ⟨r73, p79, c80, rfl, rfl, hd⟩ := hv76
 have le84 := IH.le.trans le60 hl75
 replace R52 := R52.mono hl75
 replace R55 := R55.mono hl75
 replace R58 := R58.mono hl75
 refine .skips 1 rfl (.nilS [3, 2, 1] rfl rfl (.seq (.seq (.region (.skips 1 rfl (.len underlying23 rfl rfl rfl rfl (.skips 1 rfl (.nilS [12, 11, 10, 3, 2, 1] rfl rfl (.block ?_)))))))))
 refine .loop hd (fun (s : (List Triple) × Int) c w => match s with | (s227, s232) => ∃ I_ p228 c229, IH.le I74 I_ ∧ Ok ⟨36, [], none⟩ [(1, .pointer (some ⟨b23, 0, none⟩)), (2, .pointer (some ⟨b25, 0, none⟩)), (3, .slice p228 s227.length c229), (10, .slice p228 s227.length c229), (11, .int .i64 (r73.length : Int)), (12, .int .i64 s232)] c ∧ Sym w0 M I I_ [pto b23 (.cells #[.int .i64 r44.Rows, .int .i64 r44.Cols, .slice p50 r44.Start.length c51, .slice p53 r44.Col.length c54, .slice p56 r44.Val.length c57] 27 (0, 0)), pto b25 (.cells #[.int .i64 0, .int .i64 0, .slice none 0 0, .slice none 0 0, .slice none 0 0] 27 (0, 0)), OwnSl eTriple 49 p228 c229 s227] w) (fun c w ho hs => ⟨I74, _, _, (.refl _), ho.sub ⟨rfl, rfl, rfl, rfl, rfl, rfl, trivial⟩, hs.pick (.c (.s (.s .z)) (.c (.s .z) (.c .z .n)))⟩) ?_
 rintro ⟨s227, s232⟩ next233 hd c w hst
 obtain ⟨I234, p228, c229, hl235, hok, hsym⟩ := hst
 have le236 := IH.le.trans le84 hl235
 have le237 := IH.le.trans (.refl _) hl235
 replace R52 := R52.mono hl235
 replace R55 := R55.mono hl235
 replace R58 := R58.mono hl235
 refine Cod.at hok hsym (.seq (.region (.lt rfl rfl rfl rfl (.nilS [13, 12, 11, 10, 3, 2, 1] rfl rfl (.seq (.condP rfl hd (fun hb239 hd => ?_) fun hb239 hd => ?_))))))
 · refine .skipS [12, 11, 10, 3, 2, 1] rfl rfl (.seq (.block (.seq (.region (.skips 1 rfl ?_)))))
   obtain ⟨h247, x248, hx249, hd⟩ := hd
   refine .ownNe (.s (.s .z)) (idx_ne hx249) fun b250 e251 => ?_
   cases e251
   refine .ixa0 underlying23 sizeOf49 rfl rfl h247 (idx_lt hx249 h247) rfl rfl (.loA (j := 0) isAgg49 sizeOf49 (.s (.s .z)) hx249 rfl rfl (.t (.t (.t .nil))) rfl rfl rfl (.allocA zeroValue49 rfl rfl fun b252 => ?_))
   refine .skips 1 rfl (.storeA sizeOf49 rfl rfl .z (.t (.t (.t .nil))) rfl rfl (.nilS [4, 5, 12, 11, 10, 3, 2, 1] rfl rfl (.region (.skips 2 rfl (.fieldAddr underlying49 rfl sizeOf3 rfl (o := 1) rfl rfl rfl (.load1 isAgg3 rfl .z rfl rfl rfl (.fieldAddr underlying49 rfl sizeOf3 rfl (o := 0) rfl rfl rfl (.load1 isAgg3 rfl .z rfl rfl rfl (.fieldAddr underlying49 rfl sizeOf2 rfl (o := 2) rfl rfl rfl ?_)))))))))
   refine .load1 isAgg2 rfl .z rfl rfl rfl (.build zeroValue49 underlying49 BI49 (.c rfl rfl rfl (.t .nil) (.c rfl rfl rfl (.s (.t .nil)) (.c rfl rfl rfl (.s (.s (.t .nil))) .n))) (by exact ⟨⟨_, _, rfl, rfl, rfl⟩, ⟨⟨_, _, rfl, rfl, rfl⟩, ⟨⟨_, _, rfl, rfl, rfl⟩, trivial⟩⟩⟩) rfl rfl ?_)
   obtain ⟨h254, x255, hx256, hd⟩ := hd
   exact .ixa0 underlying23 sizeOf49 rfl rfl h254 (idx_lt hx256 h254) rfl rfl (.stOA (j := 0) (v' := ({ Row := x248.Col, Col := x248.Row, Val := x248.Val } : Triple)) sizeOf49 (.s (.s (.s .z))) hx256 rfl rfl rfl (.t (.t (.t .nil))) rfl rfl (.sub (E' := [(1, _), (2, _), (3, .slice (some ⟨b250, 0, none⟩) (s227.set s232.toNat ({ Row := x248.Col, Col := x248.Row, Val := x248.Val } : Triple)).length c229), (10, .slice (some ⟨b250, 0, none⟩) (s227.set s232.toNat ({ Row := x248.Col, Col := x248.Row, Val := x248.Val } : Triple)).length c229), (11, _), (12, _), (5, _), (4, _), (17, .slice (some ⟨b250, 0, none⟩) (s227.set s232.toNat ({ Row := x248.Col, Col := x248.Row, Val := x248.Val } : Triple)).length c229), (18, _), (19, _), (20, _), (21, _), (22, _), (23, _), (24, _), (25, _), (26, _)]) ⟨rfl, rfl, (by simp only [List.length_set]; rfl), (by simp only [List.length_set]; rfl), rfl, rfl, rfl, rfl, (by simp only [List.length_set]; rfl), rfl, rfl, rfl, rfl, rfl, rfl, rfl, rfl, rfl, trivial⟩ (.nilS [12, 11, 10, 3, 2, 1] rfl rfl (.drop .z (.region (.add rfl rfl rfl rfl (.sub (E' := [(1, _), (2, _), (3, _), (10, _), (11, _), (27, _)]) ⟨rfl, rfl, rfl, rfl, rfl, rfl, trivial⟩ (.skips 1 rfl (.nil' fun c w ho hs => ⟨((s227.set s232.toNat ({ Row := x248.Col, Col := x248.Row, Val := x248.Val } : Triple)), w64 (s232 + 1)), hd, I234, _, _, le237, ho.sub ⟨rfl, rfl, rfl, rfl, rfl, rfl, trivial⟩, hs.pick (.c .z (.c .z (.c .z .n)))⟩)))))))))
 refine .exitS [3, 2, 1] rfl rfl (.seq (.region (.skips 1 rfl ?_)))
 have hw257 := Fun.sort (hk := fun _ => ⟨rfl, rfl⟩) SL49 isAgg49 sizeOf49 (fun x y J Q hq => W_csr_order (I := J) (a0 := x) (a1 := y) (Q := Q) hq) call50 (I := I234) (T := 49) (a := p228) (cap := c229) hd
 refine .callS (.f call49 rfl) (.c (.s (.s .z)) .n) hw257 rfl rfl fun v258 I259 l260 hl261 hv262 => ?_
 obtain ⟨y263, rfl, hlen264, rfl, hd⟩ := hv262
 have le265 := IH.le.trans le236 hl261
 have le266 := IH.le.trans le237 hl261
 replace R52 := R52.mono hl261
 replace R55 := R55.mono hl261
 replace R58 := R58.mono hl261
 refine .sub (E' := [(1, _), (2, _), (3, .slice p228 y263.length c229), (28, .slice p228 y263.length c229), (29, _)]) ⟨rfl, rfl, (by rw [hlen264]; rfl), (by rw [hlen264]; rfl), rfl, trivial⟩ (.nilS [3, 2, 1] rfl rfl (.seq (.region (.fieldAddr underlying27 rfl sizeOf3 rfl (o := 1) rfl rfl rfl (.load1 isAgg3 rfl (.s .z) rfl rfl rfl (.fieldAddr underlying27 rfl sizeOf3 rfl (o := 0) rfl rfl rfl (.load1 isAgg3 rfl (.s .z) rfl rfl rfl (.skips 1 rfl (.pub .z fun I267 hl268 R269 => ?_)))))))))
 have le270 := IH.le.trans le265 hl268
 have le271 := IH.le.trans le266 hl268
 replace R52 := R52.mono hl268
 replace R55 := R55.mono hl268
 replace R58 := R58.mono hl268
 have hw287 := W_csr_built (I := I267) R269 hd
 refine .call call51 rfl hw287 rfl rfl fun v276 I273 hl274 hv275 => ?_
 obtain ⟨r272, p278, c279, p281, c282, p284, c285, rfl, R280, R283, R286, hd⟩ := hv275
 have le288 := IH.le.trans le270 hl274
 have le289 := IH.le.trans le271 hl274
 replace R52 := R52.mono hl274
 replace R55 := R55.mono hl274
 replace R58 := R58.mono hl274
 replace R269 := R269.mono hl274
 exact .storeA sizeOf27 rfl rfl (.s .z) (.t (.t (.t (.t (.t .nil))))) rfl rfl (.nilS [2] rfl rfl (.drop .z (.ret (pret results27 (.w isAgg27 sizeOf27 rfl .z rfl .n) le288 ⟨r272, _, _, _, _, _, _, rfl, R280, R283, R286, hd⟩))))

theorem W_dcsc_Of {I : IH} {a0 : Rows} {p1 : Option Addr} {c2 : Nat} {p4 : Option Addr} {c5 : Nat} {p7 : Option Addr} {c8 : Nat} {Q : Columns → Prop} (R3 : RepSl eI64 I p1 c2 a0.Start) (R6 : RepSl eI64 I p4 c5 a0.Col) (R9 : RepSl eI64 I p7 c8 a0.Val) (hd : dcsc_Of a0 Q) :
    PFun Try.prog 7 [.agg #[.int .i64 a0.Rows, .int .i64 a0.Cols, .slice p1 a0.Start.length c2, .slice p4 a0.Col.length c5, .slice p7 a0.Val.length c8]] I (fun I_ v => ∃ r p10 c11 p13 c14 p16 c17 p19 c20, v = .agg #[.int .i64 r.Rows, .int .i64 r.Cols, .slice p10 r.At.length c11, .slice p13 r.Start.length c14, .slice p16 r.Row.length c17, .slice p19 r.Val.length c20] ∧ RepSl eI64 I_ p10 c11 r.At ∧ RepSl eI64 I_ p13 c14 r.Start ∧ RepSl eI64 I_ p16 c17 r.Row ∧ RepSl eI64 I_ p19 c20 r.Val ∧ Q r) := by
 refine Fun.enter func7 rfl ntmps7 rfl (.c .n) fun w0 M => ?_
 refine .seq (.region (.boxA rfl rfl rfl fun b26 => ?_))
 refine .allocA zeroValue30 rfl rfl fun b28 => ?_
 refine .nilS [2, 1] rfl rfl (.seq (.region ?_))
 have hw78 := W_dcsc_none (I := I) hd
 refine .callO call24 rfl hw78 rfl rfl fun v60 I57 l61 hl58 hv59 => ?_
 obtain ⟨r56, p62, c63, p65, c66, p68, c69, p71, c72, rfl, rfl, hd⟩ := hv59
 have le79 := IH.le.trans (.refl _) hl58
 replace R3 := R3.mono hl58
 replace R6 := R6.mono hl58
 replace R9 := R9.mono hl58
 refine .allocA zeroValue30 rfl rfl fun b80 => ?_
 refine .storeA sizeOf30 rfl rfl .z (.t (.t (.t (.t (.t (.t .nil)))))) rfl rfl (.nilS [3, 2, 1] rfl rfl (.seq (.seq (.region (.loadW isAgg27 sizeOf27 rfl (.s (.s (.s (.s (.s (.s .z)))))) rfl rfl rfl ?_)))))
 have hw88 := W_csr_Right (I := I57) R3 R6 R9 hd
 refine .callP call25 rfl hw88 rfl rfl fun v89 hv90 => ?_
 obtain ⟨r87, rfl, hd⟩ := hv90
 refine .not rfl rfl rfl (.nilS [10, 3, 2, 1] rfl rfl (.condP rfl hd (fun hb91 hd => ?_) fun hb91 hd => ?_))
 · refine .seq (.region (.loadW isAgg30 sizeOf30 rfl .z rfl rfl rfl (.storeA sizeOf30 rfl rfl (.s (.s (.s (.s (.s .z))))) (.t (.t (.t (.t (.t (.t .nil)))))) rfl rfl (.nilS [2] rfl rfl (.drop .z (.drop (.s (.s (.s (.s (.s .z))))) (.pub .z fun I92 hl93 R94 => ?_)))))))
   have le95 := IH.le.trans le79 hl93
   refine .pub .z fun I96 hl97 R98 => ?_
   have le99 := IH.le.trans le95 hl97
   replace R94 := R94.mono hl97
   refine .pub .z fun I100 hl101 R102 => ?_
   have le103 := IH.le.trans le99 hl101
   replace R94 := R94.mono hl101
   replace R98 := R98.mono hl101
   refine .pub .z fun I104 hl105 R106 => ?_
   have le107 := IH.le.trans le103 hl105
   replace R94 := R94.mono hl105
   replace R98 := R98.mono hl105
   replace R102 := R102.mono hl105
   exact .ret (pret results7 (.w isAgg30 sizeOf30 rfl .z rfl .n) le107 ⟨r56, _, _, _, _, _, _, _, _, rfl, R94, R98, R102, R106, hd⟩)
 refine .skipS [3, 2, 1] rfl rfl (.seq (.draw [some 0, some 1, some 2, some 3, some 4, some 5] 6 MX (by kernel_rfl) (by kernel_rfl) (by kernel_rfl) (by kernel_rfl) (by kernel_rfl) (by kernel_rfl) (by kernel_rfl) (fun ex => (pto b80 (.cells #[.int .i64 r56.Rows, .int .i64 r56.Cols, .slice p62 r56.At.length c63, .slice p65 r56.Start.length c66, .slice p68 r56.Row.length c69, .slice p71 r56.Val.length c72] 30 (0, 0))) :: (OwnSl eI64 3 p62 c63 r56.At) :: (OwnSl eI64 3 p65 c66 r56.Start) :: (OwnSl eI64 3 p68 c69 r56.Row) :: (OwnSl eI64 2 p71 c72 r56.Val) :: (pto b28 (.cells #[.int .i64 0, .int .i64 0, .slice none 0 0, .slice none 0 0, .slice none 0 0, .slice none 0 0] 30 (0, 0))) :: (pto b26 (.cells #[.int .i64 a0.Rows, .int .i64 a0.Cols, .slice p1 a0.Start.length c2, .slice p4 a0.Col.length c5, .slice p7 a0.Val.length c8] 27 (0, 0))) :: ex) (fun _ _ => (.s (.s (.s (.s (.s (.s (.s .z)))))))) rfl (.f [] rfl (by kernel_rfl) rfl rfl (fun ex => .fieldAddr underlying27 rfl sizeOf3 rfl (o := 0) rfl rfl rfl .mk) (.f [0] rfl (by kernel_rfl) rfl rfl (fun ex => .load1 isAgg3 rfl (.s (.s (.s (.s (.s (.s .z)))))) rfl rfl rfl .mk) (.f [] rfl (by kernel_rfl) rfl rfl (fun ex => .fieldAddr underlying27 rfl sizeOf3 rfl (o := 1) rfl rfl rfl .mk) (.f [2] rfl (by kernel_rfl) rfl rfl (fun ex => .load1 isAgg3 rfl (.s (.s (.s (.s (.s (.s .z)))))) rfl rfl rfl .mk) (.f [0, 1] rfl (by kernel_rfl) rfl rfl (fun ex => .fieldAddr underlying30 rfl sizeOf3 rfl (o := 0) rfl rfl rfl .mk) (.w [3, 2] [[], [], []] [4, 1, 0, 1] rfl (by kernel_rfl) (by kernel_rfl) (by kernel_rfl) ((dropE_none rfl)) (.inr (dropE_none rfl)) fun ex => ?_))))))))
 refine .store1 sizeOf3 rfl rfl .z (.t .nil) rfl (.none (fun ex => (pto b80 (.cells #[.int .i64 a0.Rows, .int .i64 r56.Cols, .slice p62 r56.At.length c63, .slice p65 r56.Start.length c66, .slice p68 r56.Row.length c69, .slice p71 r56.Val.length c72] 30 (0, 0))) :: (OwnSl eI64 3 p62 c63 r56.At) :: (OwnSl eI64 3 p65 c66 r56.Start) :: (OwnSl eI64 3 p68 c69 r56.Row) :: (OwnSl eI64 2 p71 c72 r56.Val) :: (pto b28 (.cells #[.int .i64 0, .int .i64 0, .slice none 0 0, .slice none 0 0, .slice none 0 0, .slice none 0 0] 30 (0, 0))) :: (pto b26 (.cells #[.int .i64 a0.Rows, .int .i64 a0.Cols, .slice p1 a0.Start.length c2, .slice p4 a0.Col.length c5, .slice p7 a0.Val.length c8] 27 (0, 0))) :: ex) rfl (fun _ _ => (.s (.s (.s (.s (.s (.s (.s .z)))))))) rfl (.cc [2] rfl (by kernel_rfl) rfl rfl rfl (fun ex => .load1 isAgg3 rfl (.s (.s (.s (.s (.s (.s .z)))))) rfl rfl rfl .mk) (.cc [] rfl (by kernel_rfl) rfl rfl rfl (fun ex => .fieldAddr underlying27 rfl sizeOf3 rfl (o := 1) rfl rfl rfl .mk) trivial)) (.e 6 (by kernel_rfl) (by kernel_rfl) (by kernel_rfl) (.fieldAddr underlying30 rfl sizeOf3 rfl (o := 1) rfl rfl rfl (.store1 sizeOf3 rfl rfl .z (.s (.t .nil)) rfl (.nilS [3, 2, 1] rfl rfl (.seq (.seq (.region (.loadW isAgg27 sizeOf27 rfl (.s (.s (.s (.s (.s (.s .z)))))) rfl rfl rfl ?_)))))))))
 have hw152 := W_csr_Turn (I := I57) R3 R6 R9 hd
 refine .call call27 rfl hw152 rfl rfl fun v141 I138 hl139 hv140 => ?_
 obtain ⟨r137, p143, c144, p146, c147, p149, c150, rfl, R145, R148, R151, hd⟩ := hv140
 have le153 := IH.le.trans le79 hl139
 replace R3 := R3.mono hl139
 replace R6 := R6.mono hl139
 replace R9 := R9.mono hl139
 have hw164 := W_csr_Triples (I := I138) R145 R148 R151 hd
 refine .callO call26 rfl hw164 rfl rfl fun v158 I155 l159 hl156 hv157 => ?_
 obtain ⟨r154, p160, c161, rfl, rfl, hd⟩ := hv157
 have le165 := IH.le.trans le153 hl156
 replace R3 := R3.mono hl156
 replace R6 := R6.mono hl156
 replace R9 := R9.mono hl156
 replace R145 := R145.mono hl156
 replace R148 := R148.mono hl156
 replace R151 := R151.mono hl156
 refine .len underlying23 rfl rfl rfl rfl (.skips 1 rfl (.nilS [22, 21, 20, 3, 2] rfl rfl (.drop (.s (.s (.s (.s (.s (.s (.s .z))))))) (.block (.loop hd (fun (s : (List Int) × (List Int) × (List Int) × (List Int) × Int) c w => match s with | (s615, s619, s623, s627, s631) => ∃ I_ p616 c617 p620 c621 p624 c625 p628 c629, IH.le I155 I_ ∧ Ok ⟨79, [], none⟩ [(2, .pointer (some ⟨b28, 0, none⟩)), (3, .pointer (some ⟨b80, 0, none⟩)), (20, .slice p160 r154.length c161), (21, .int .i64 (r154.length : Int)), (22, .int .i64 s631)] c ∧ Sym w0 M I I_ [pto b28 (.cells #[.int .i64 0, .int .i64 0, .slice none 0 0, .slice none 0 0, .slice none 0 0, .slice none 0 0] 30 (0, 0)), pto b80 (.cells #[.int .i64 a0.Rows, .int .i64 a0.Cols, .slice p616 s615.length c617, .slice p620 s619.length c621, .slice p624 s623.length c625, .slice p628 s627.length c629] 30 (0, 0)), OwnSl eI64 3 p616 c617 s615, OwnSl eI64 3 p620 c621 s619, OwnSl eI64 3 p624 c625 s623, OwnSl eI64 2 p628 c629 s627, OwnSl eTriple 49 p160 c161 r154] w) (fun c w ho hs => ⟨I155, _, _, _, _, _, _, _, _, (.refl _), ho.sub ⟨rfl, rfl, rfl, rfl, rfl, trivial⟩, hs.pick (.c (.s (.s (.s (.s (.s (.s .z)))))) (.c (.s .z) (.c (.s .z) (.c (.s .z) (.c (.s .z) (.c (.s .z) (.c .z .n)))))))⟩) ?_)))))
 rintro ⟨s615, s619, s623, s627, s631⟩ next632 hd c w hst
 obtain ⟨I633, p616, c617, p620, c621, p624, c625, p628, c629, hl634, hok, hsym⟩ := hst
 have le635 := IH.le.trans le165 hl634
 have le636 := IH.le.trans (.refl _) hl634
 refine Cod.at hok hsym (.seq (.region (.lt rfl rfl rfl rfl (.nilS [23, 22, 21, 20, 3, 2] rfl rfl (.seq (.condP rfl hd (fun hb638 hd => ?_) fun hb638 hd => ?_))))))
 · refine .skipS [22, 21, 20, 3, 2] rfl rfl (.seq (.block (.seq (.region ?_))))
   obtain ⟨h646, x647, hx648, hd⟩ := hd
   refine .ownNe (.s (.s (.s (.s (.s (.s .z)))))) (idx_ne hx648) fun b649 e650 => ?_
   cases e650
   refine .ixa0 underlying23 sizeOf49 rfl rfl h646 (idx_lt hx648 h646) rfl rfl (.loA (j := 0) isAgg49 sizeOf49 (.s (.s (.s (.s (.s (.s .z)))))) hx648 rfl rfl (.t (.t (.t .nil))) rfl rfl rfl (.allocA zeroValue49 rfl rfl fun b651 => ?_))
   refine .storeA sizeOf49 rfl rfl .z (.t (.t (.t .nil))) rfl rfl (.nilS [5, 22, 21, 20, 3, 2] rfl rfl (.seq ?_))
   refine Cod.joinQ (σ := (List Int) × (List Int)) hd (fun (s : (List Int) × (List Int)) c w => match s with | (s753, s757) => ∃ I_ p754 c755 p758 c759, IH.le I633 I_ ∧ Ok ⟨79, [], none⟩ [(2, .pointer (some ⟨b28, 0, none⟩)), (3, .pointer (some ⟨b80, 0, none⟩)), (5, .pointer (some ⟨b651, 0, none⟩)), (20, .slice (some ⟨b649, 0, none⟩) r154.length c161), (21, .int .i64 (r154.length : Int)), (22, .int .i64 s631)] c ∧ Sym w0 M I I_ [pto b28 (.cells #[.int .i64 0, .int .i64 0, .slice none 0 0, .slice none 0 0, .slice none 0 0, .slice none 0 0] 30 (0, 0)), pto b80 (.cells #[.int .i64 a0.Rows, .int .i64 a0.Cols, .slice p754 s753.length c755, .slice p758 s757.length c759, .slice p624 s623.length c625, .slice p628 s627.length c629] 30 (0, 0)), OwnSl eI64 3 p754 c755 s753, OwnSl eI64 3 p758 c759 s757, OwnSl eI64 3 p624 c625 s623, OwnSl eI64 2 p628 c629 s627, pto b651 (.cells #[.int .i64 x647.Row, .int .i64 x647.Col, .int .i64 x647.Val] 49 (0, 0)), OwnSl eTriple 49 (some ⟨b649, 0, none⟩) c161 r154] w) (fun k761 hd => ?_) ?_
   · skip
     refine .seq (.region (.fieldAddr underlying30 rfl sizeOf24 rfl (o := 2) rfl rfl rfl (.load1 isAgg24 rfl (.s (.s .z)) rfl rfl rfl (.len underlying24 rfl rfl rfl rfl (.skips 1 rfl (.nilS [6, 5, 22, 21, 20, 3, 2] rfl rfl (.seq ?_)))))))
     refine Cod.joinQ (σ := Bool) hd (fun (s782 : Bool) c w => ∃ I_, IH.le I633 I_ ∧ Ok ⟨79, [], none⟩ [(2, .pointer (some ⟨b28, 0, none⟩)), (3, .pointer (some ⟨b80, 0, none⟩)), (5, .pointer (some ⟨b651, 0, none⟩)), (20, .slice (some ⟨b649, 0, none⟩) r154.length c161), (21, .int .i64 (r154.length : Int)), (22, .int .i64 s631), (41, .bool s782)] c ∧ Sym w0 M I I_ [pto b28 (.cells #[.int .i64 0, .int .i64 0, .slice none 0 0, .slice none 0 0, .slice none 0 0, .slice none 0 0] 30 (0, 0)), pto b80 (.cells #[.int .i64 a0.Rows, .int .i64 a0.Cols, .slice p616 s615.length c617, .slice p620 s619.length c621, .slice p624 s623.length c625, .slice p628 s627.length c629] 30 (0, 0)), OwnSl eI64 3 p616 c617 s615, OwnSl eI64 3 p620 c621 s619, OwnSl eI64 3 p624 c625 s623, OwnSl eI64 2 p628 c629 s627, pto b651 (.cells #[.int .i64 x647.Row, .int .i64 x647.Col, .int .i64 x647.Val] 49 (0, 0)), OwnSl eTriple 49 (some ⟨b649, 0, none⟩) c161 r154] w) (fun k783 hd => ?_) ?_
     · skip
       refine .ownF (.s (.s (.s .z))) fun hne784 => ?_
       refine .ownF (.s (.s (.s (.s .z)))) fun hne785 => ?_
       refine .ownF (.s (.s (.s (.s (.s .z))))) fun hne786 => ?_
       refine .ownF (.s (.s (.s (.s (.s (.s .z)))))) fun hne787 => ?_
       refine .draw [some 0, some 1, some 2, some 3, some 4, some 5, some 6, some 7, some 8, some 9, some 10, some 11, some 12] 13 MX (by kernel_rfl) (by kernel_rfl) (by kernel_rfl) (by kernel_rfl) (by kernel_rfl) (by kernel_rfl) (by kernel_rfl) (fun ex => (pto b651 (.cells #[.int .i64 x647.Row, .int .i64 x647.Col, .int .i64 x647.Val] 49 (0, 0))) :: (pto b28 (.cells #[.int .i64 0, .int .i64 0, .slice none 0 0, .slice none 0 0, .slice none 0 0, .slice none 0 0] 30 (0, 0))) :: (pto b80 (.cells #[.int .i64 a0.Rows, .int .i64 a0.Cols, .slice p616 s615.length c617, .slice p620 s619.length c621, .slice p624 s623.length c625, .slice p628 s627.length c629] 30 (0, 0))) :: (OwnSl eI64 3 p616 c617 s615) :: (OwnSl eI64 3 p620 c621 s619) :: (OwnSl eI64 3 p624 c625 s623) :: (OwnSl eI64 2 p628 c629 s627) :: (OwnSl eTriple 49 (some ⟨b649, 0, none⟩) c161 r154) :: ex) (fun _ _ => (.s (.s (.s (.s (.s (.s (.s (.s .z))))))))) rfl (.fs [[]] rfl (by kernel_rfl) (.f [0] rfl (by kernel_rfl) rfl rfl (fun ex => .eq rfl rfl rfl rfl .mk) (.fs [[1]] rfl (by kernel_rfl) ?_)))
       refine splitP hd (fun hb788 hd => ?_) fun hb788 hd => ?_
       · refine .f [2] rfl (by kernel_rfl) rfl rfl (fun ex => .gno rfl rfl hb788 rfl rfl .mk) (.f [3, 2] rfl (by kernel_rfl) rfl rfl (fun ex => .gno rfl rfl hb788 rfl rfl .mk) (.f [2] rfl (by kernel_rfl) rfl rfl (fun ex => .gno rfl rfl hb788 rfl rfl .mk) (.f [5, 2] rfl (by kernel_rfl) rfl rfl (fun ex => .gno rfl rfl hb788 rfl rfl .mk) (.f [4, 6, 2] rfl (by kernel_rfl) rfl rfl (fun ex => .gno rfl rfl hb788 rfl rfl .mk) (.f [7, 2] rfl (by kernel_rfl) rfl rfl (fun ex => .gno rfl rfl hb788 rfl rfl .mk) (.f [2] rfl (by kernel_rfl) rfl rfl (fun ex => .gno rfl rfl hb788 rfl rfl .mk) (.f [9, 2] rfl (by kernel_rfl) rfl rfl (fun ex => .gno rfl rfl hb788 rfl rfl .mk) (.f [8, 10, 2] rfl (by kernel_rfl) rfl rfl (fun ex => .gno rfl rfl hb788 rfl rfl .mk) (.f [2, 11] rfl (by kernel_rfl) rfl rfl (fun ex => .pickT rfl hb788 rfl rfl rfl .mk) ?_)))))))))
         exact .e 13 (by kernel_rfl) (by kernel_rfl) (by kernel_rfl) (.nil' fun c w ho hs => ⟨true, hd, I633, (.refl _), ho.sub ⟨rfl, rfl, rfl, rfl, rfl, rfl, rfl, trivial⟩, hs.pick (.c (.s .z) (.c (.s .z) (.c (.s .z) (.c (.s .z) (.c (.s .z) (.c (.s .z) (.c .z (.c .z .n))))))))⟩)
       refine .f [2] rfl (by kernel_rfl) rfl rfl (fun ex => .gyes rfl rfl hb788 (.fieldAddr underlying30 rfl sizeOf24 rfl (o := 2) rfl rfl rfl .mk)) (.f [3, 2] rfl (by kernel_rfl) rfl rfl (fun ex => .gyes rfl rfl hb788 (.load1 isAgg24 rfl (.s (.s .z)) rfl rfl rfl .mk)) (.f [2] rfl (by kernel_rfl) rfl rfl (fun ex => .gyes rfl rfl hb788 (.move rfl rfl rfl .mk)) (.f [5, 2] rfl (by kernel_rfl) rfl rfl (fun ex => .gyes rfl rfl hb788 (.sub' rfl rfl rfl rfl .mk)) ?_)))
       obtain ⟨h789, x790, hx791, hd⟩ := hd
       obtain ⟨b792, e793⟩ := hne784 (idx_ne hx791)
       cases e793
       exact .f [4, 6, 2] rfl (by kernel_rfl) rfl rfl (fun ex => .gyes rfl rfl hb788 (.ixa0 underlying24 sizeOf3 rfl rfl h789 (idx_lt hx791 h789) rfl rfl .mk)) (.f [7, 2] rfl (by kernel_rfl) rfl rfl (fun ex => .gyes rfl rfl hb788 (.lo1 (j := 0) isAgg3 (.s (.s (.s .z))) hx791 rfl rfl rfl rfl rfl .mk)) (.f [2] rfl (by kernel_rfl) rfl rfl (fun ex => .gyes rfl rfl hb788 (.fieldAddr underlying49 rfl sizeOf3 rfl (o := 0) rfl rfl rfl .mk)) (.f [9, 2] rfl (by kernel_rfl) rfl rfl (fun ex => .gyes rfl rfl hb788 (.load1 isAgg3 rfl .z rfl rfl rfl .mk)) (.f [8, 10, 2] rfl (by kernel_rfl) rfl rfl (fun ex => .gyes rfl rfl hb788 (.ne rfl rfl rfl rfl .mk)) (.f [2, 11] rfl (by kernel_rfl) rfl rfl (fun ex => .pickF rfl hb788 rfl rfl rfl .mk) (.e 13 (by kernel_rfl) (by kernel_rfl) (by kernel_rfl) (.nil' fun c w ho hs => ⟨(x790 != x647.Row), hd, I633, (.refl _), ho.sub ⟨rfl, rfl, rfl, rfl, rfl, rfl, rfl, trivial⟩, hs.pick (.c (.s .z) (.c (.s .z) (.c (.s .z) (.c (.s .z) (.c (.s .z) (.c (.s .z) (.c .z (.c .z .n))))))))⟩)))))))
     rintro s782 hd c w hst
     obtain ⟨I794, hl795, hok, hsym⟩ := hst
     have le796 := IH.le.trans le635 hl795
     have le797 := IH.le.trans le636 hl795
     have le798 := IH.le.trans (.refl _) hl795
     refine Cod.at hok hsym (.condP rfl hd (fun hb799 hd => ?_) fun hb799 hd => ?_)
     · refine .seq (.region (.fieldAddr underlying30 rfl sizeOf24 rfl (o := 2) rfl rfl rfl (.load1 isAgg24 rfl (.s .z) rfl rfl rfl (.fieldAddr underlying49 rfl sizeOf3 rfl (o := 0) rfl rfl rfl (.load1 isAgg3 rfl (.s (.s (.s (.s (.s (.s .z)))))) rfl rfl rfl (.buildSlice 1 underlying24 sizeOf3 zeroValue3 rfl rfl (.c rfl rfl rfl .n) rfl rfl fun b800 => ?_))))))
       obtain ⟨hl802, hd⟩ := hd
       refine .append (ys := [x647.Row]) 8 (.s (.s (.s .z))) underlying24 underlying24 IN3 rfl rfl rfl rfl rfl rfl rfl rfl rfl (.box .z (.one rfl) rfl) hl802 rfl rfl fun p803 c804 => ?_
       refine .fieldAddr underlying30 rfl sizeOf24 rfl (o := 2) rfl rfl rfl (.store1 sizeOf24 rfl rfl (.s (.s (.s .z))) (.s (.s (.t .nil))) rfl (.nilS [22, 21, 20, 5, 3, 2] rfl rfl (.drop (.s .z) (.region (.fieldAddr underlying30 rfl sizeOf24 rfl (o := 3) rfl rfl rfl (.load1 isAgg24 rfl (.s (.s .z)) rfl rfl rfl (.buildSlice 1 underlying24 sizeOf3 zeroValue3 rfl rfl (.c rfl rfl rfl .n) rfl rfl fun b806 => ?_)))))))
       obtain ⟨hl808, hd⟩ := hd
       refine .append (ys := [0]) 8 (.s (.s (.s (.s .z)))) underlying24 underlying24 IN3 rfl rfl rfl rfl rfl rfl rfl rfl rfl (.box .z (.one rfl) rfl) hl808 rfl rfl fun p809 c810 => ?_
       exact .fieldAddr underlying30 rfl sizeOf24 rfl (o := 3) rfl rfl rfl (.store1 sizeOf24 rfl rfl (.s (.s (.s (.s .z)))) (.s (.s (.s (.t .nil)))) rfl (.nil' fun c w ho hs => ⟨((s615 ++ ([x647.Row])), (s619 ++ ([0]))), hd, I794, _, _, _, _, le798, ho.sub ⟨rfl, rfl, rfl, rfl, rfl, rfl, trivial⟩, hs.pick (.c (.s (.s (.s .z))) (.c (.s (.s (.s .z))) (.c (.s (.s .z)) (.c .z (.c (.s .z) (.c (.s .z) (.c (.s .z) (.c (.s .z) .n))))))))⟩))
     exact .skip' fun c w ho hs => ⟨(s615, s619), hd, I794, _, _, _, _, le798, ho.sub ⟨rfl, rfl, rfl, rfl, rfl, rfl, trivial⟩, hs.pick (.c .z (.c .z (.c .z (.c .z (.c .z (.c .z (.c .z (.c .z .n))))))))⟩
   rintro ⟨s753, s757⟩ hd c w hst
   obtain ⟨I812, p754, c755, p758, c759, hl813, hok, hsym⟩ := hst
   have le814 := IH.le.trans le635 hl813
   have le815 := IH.le.trans le636 hl813
   have le816 := IH.le.trans (.refl _) hl813
   refine Cod.at hok hsym (.seq (.region (.fieldAddr underlying30 rfl sizeOf24 rfl (o := 4) rfl rfl rfl (.load1 isAgg24 rfl (.s .z) rfl rfl rfl (.fieldAddr underlying49 rfl sizeOf3 rfl (o := 1) rfl rfl rfl (.load1 isAgg3 rfl (.s (.s (.s (.s (.s (.s .z)))))) rfl rfl rfl (.buildSlice 1 underlying24 sizeOf3 zeroValue3 rfl rfl (.c rfl rfl rfl .n) rfl rfl fun b823 => ?_)))))))
   obtain ⟨hl825, hd⟩ := hd
   refine .append (ys := [x647.Col]) 8 (.s (.s (.s (.s (.s .z))))) underlying24 underlying24 IN3 rfl rfl rfl rfl rfl rfl rfl rfl rfl (.box .z (.one rfl) rfl) hl825 rfl rfl fun p826 c827 => ?_
   refine .fieldAddr underlying30 rfl sizeOf24 rfl (o := 4) rfl rfl rfl (.store1 sizeOf24 rfl rfl (.s (.s (.s .z))) (.s (.s (.s (.s (.t .nil))))) rfl (.nilS [22, 21, 20, 5, 3, 2] rfl rfl (.drop (.s .z) (.seq (.region (.fieldAddr underlying30 rfl sizeOf25 rfl (o := 5) rfl rfl rfl (.load1 isAgg25 rfl (.s (.s .z)) rfl rfl rfl (.fieldAddr underlying49 rfl sizeOf2 rfl (o := 2) rfl rfl rfl (.load1 isAgg2 rfl (.s (.s (.s (.s (.s (.s .z)))))) rfl rfl rfl ?_)))))))))
   refine .buildSlice 1 underlying25 sizeOf2 zeroValue2 rfl rfl (.c rfl rfl rfl .n) rfl rfl fun b829 => ?_
   obtain ⟨hl831, hd⟩ := hd
   refine .append (ys := [x647.Val]) 8 (.s (.s (.s (.s (.s (.s .z)))))) underlying25 underlying25 IN2 rfl rfl rfl rfl rfl rfl rfl rfl rfl (.box .z (.one rfl) rfl) hl831 rfl rfl fun p832 c833 => ?_
   refine .fieldAddr underlying30 rfl sizeOf25 rfl (o := 5) rfl rfl rfl (.store1 sizeOf25 rfl rfl (.s (.s (.s (.s .z)))) (.s (.s (.s (.s (.s (.t .nil)))))) rfl (.nilS [22, 21, 20, 3, 2] rfl rfl (.drop (.s .z) (.drop (.s (.s (.s (.s (.s (.s .z)))))) (.region (.fieldAddr underlying30 rfl sizeOf24 rfl (o := 3) rfl rfl rfl (.load1 isAgg24 rfl (.s (.s (.s .z))) rfl rfl rfl (.fieldAddr underlying30 rfl sizeOf24 rfl (o := 2) rfl rfl rfl (.load1 isAgg24 rfl (.s (.s (.s .z))) rfl rfl rfl ?_)))))))))
   refine .len underlying24 rfl rfl rfl rfl (.fieldAddr underlying30 rfl sizeOf24 rfl (o := 4) rfl rfl rfl (.load1 isAgg24 rfl (.s (.s (.s .z))) rfl rfl rfl (.len underlying24 rfl rfl rfl rfl ?_)))
   obtain ⟨h835, x836, hx837, hd⟩ := hd
   refine .ownNe (.s (.s (.s (.s (.s .z))))) (idx_ne hx837) fun b838 e839 => ?_
   cases e839
   exact .ixa0 underlying24 sizeOf3 rfl rfl h835 (idx_lt hx837 h835) rfl rfl (.stO1 (j := 0) (v' := ((s623 ++ ([x647.Col])).length : Int)) sizeOf3 (.s (.s (.s (.s (.s .z))))) hx837 rfl rfl rfl (.t .nil) rfl (.sub (E' := [(2, _), (3, _), (20, _), (21, _), (22, _), (68, _), (69, .slice (some ⟨b838, 0, none⟩) (s757.set ((s753.length : Int).toNat) ((s623 ++ ([x647.Col])).length : Int)).length c759), (70, _), (71, _), (72, _), (73, _), (74, _), (75, _), (76, _)]) ⟨rfl, rfl, rfl, rfl, rfl, rfl, (by simp only [List.length_set]; rfl), rfl, rfl, rfl, rfl, rfl, rfl, rfl, trivial⟩ (.reat (.s (.s (.s .z))) (B := pto b80 (.cells #[.int .i64 a0.Rows, .int .i64 a0.Cols, .slice p754 s753.length c755, .slice (some ⟨b838, 0, none⟩) (s757.set ((s753.length : Int).toNat) ((s623 ++ ([x647.Col])).length : Int)).length c759, .slice p826 (s623 ++ ([x647.Col])).length c827, .slice p832 (s627 ++ ([x647.Val])).length c833] 30 (0, 0))) (by simp only [List.length_set]) (.nilS [22, 21, 20, 3, 2] rfl rfl (.region (.add rfl rfl rfl rfl (.sub (E' := [(2, _), (3, _), (20, _), (21, _), (77, _)]) ⟨rfl, rfl, rfl, rfl, rfl, trivial⟩ (.skips 1 rfl (.nil' fun c w ho hs => ⟨(s753, (s757.set ((s753.length : Int).toNat) ((s623 ++ ([x647.Col])).length : Int)), (s623 ++ ([x647.Col])), (s627 ++ ([x647.Val])), w64 (s631 + 1)), hd, I812, _, _, _, _, _, _, _, _, le815, ho.sub ⟨rfl, rfl, rfl, rfl, rfl, trivial⟩, hs.pick (.c (.s (.s .z)) (.c (.s (.s .z)) (.c (.s (.s .z)) (.c (.s (.s .z)) (.c (.s .z) (.c .z (.c .z .n)))))))⟩)))))))))
 refine .exitS [3, 2] rfl rfl (.drop (.s (.s (.s (.s (.s (.s .z)))))) (.seq (.region (.loadW isAgg30 sizeOf30 rfl (.s .z) rfl rfl rfl (.storeA sizeOf30 rfl rfl .z (.t (.t (.t (.t (.t (.t .nil)))))) rfl rfl (.nilS [2] rfl rfl (.drop (.s .z) (.pub (.s .z) fun I840 hl841 R842 => ?_))))))))
 have le843 := IH.le.trans le635 hl841
 have le844 := IH.le.trans le636 hl841
 refine .pub (.s .z) fun I845 hl846 R847 => ?_
 have le848 := IH.le.trans le843 hl846
 have le849 := IH.le.trans le844 hl846
 replace R842 := R842.mono hl846
 refine .pub (.s .z) fun I850 hl851 R852 => ?_
 have le853 := IH.le.trans le848 hl851
 have le854 := IH.le.trans le849 hl851
 replace R842 := R842.mono hl851
 replace R847 := R847.mono hl851
 refine .pub (.s .z) fun I855 hl856 R857 => ?_
 have le858 := IH.le.trans le853 hl856
 have le859 := IH.le.trans le854 hl856
 replace R842 := R842.mono hl856
 replace R847 := R847.mono hl856
 replace R852 := R852.mono hl856
 exact .ret (pret results7 (.w isAgg30 sizeOf30 rfl .z rfl .n) le858 ⟨({ Rows := a0.Rows, Cols := a0.Cols, At := s615, Start := s619, Row := s623, Val := s627 } : Columns), _, _, _, _, _, _, _, _, rfl, R842, R847, R852, R857, hd⟩)

theorem W_dcsc_within {I : IH} {a0 : Int} {a1 : Int}  {Q : Bool → Prop}  (hd : dcsc_within a0 a1 Q) :
    PFun Try.prog 28 [.int .i64 a0, .int .i64 a1] I (fun I_ v => ∃ r, v = .bool r ∧ Q r) := by
 refine Fun.enter func28 rfl ntmps28 rfl (.c (.c .n)) fun w0 M => ?_
 refine .seq (.region (.skips 1 rfl (.nilS [1, 0] rfl rfl (.seq (.region (.skips 1 rfl (.ge rfl rfl rfl rfl (.skips 1 rfl ?_))))))))
 refine splitP hd (fun hb1 hd => ?_) fun hb1 hd => ?_
 · rw [hb1]
   exact .gyes rfl rfl rfl (.move rfl rfl rfl (.gyes rfl rfl rfl (.move rfl rfl rfl (.gyes rfl rfl rfl (.le' rfl rfl rfl rfl (.skips 2 rfl (.nilS [4] rfl rfl (.ret (pret results28 (.t rfl .n) (.refl _) ⟨(decide (a0 ≤ a1)), rfl, hd⟩)))))))))
 rw [hb1]
 exact .skips 5 rfl (.nilS [4] rfl rfl (.ret (pret results28 (.t rfl .n) (.refl _) ⟨false, rfl, hd⟩)))

theorem W_dcsc_rising {I : IH} {a0 : List Int} {a1 : Int} {p1 : Option Addr} {c2 : Nat} {Q : Bool → Prop} (R3 : RepSl eI64 I p1 c2 a0) (hd : dcsc_rising a0 a1 Q) :
    PFun Try.prog 29 [.slice p1 a0.length c2, .int .i64 a1] I (fun I_ v => ∃ r, v = .bool r ∧ Q r) := by
 refine Fun.enter func29 rfl ntmps29 rfl (.c (.c .n)) fun w0 M => ?_
 refine .seq (.region (.skips 1 rfl (.nilS [1, 0] rfl rfl (.seq (.seq (.region (.skips 1 rfl (.len underlying24 rfl rfl rfl rfl (.skips 1 rfl ?_)))))))))
 refine .nilS [9, 8, 7, 1, 0] rfl rfl (.block (.loop hd (fun (s68 : Int) c w => ∃ I_, IH.le I I_ ∧ Ok ⟨33, [], none⟩ [(0, .slice p1 a0.length c2), (1, .int .i64 a1), (7, .slice p1 a0.length c2), (8, .int .i64 (a0.length : Int)), (9, .int .i64 s68)] c ∧ Sym w0 M I I_ [] w) (fun c w ho hs => ⟨I, (.refl _), ho.sub ⟨rfl, rfl, rfl, rfl, rfl, trivial⟩, hs.pick .n⟩) ?_))
 rintro s68 next69 hd c w hst
 obtain ⟨I70, hl71, hok, hsym⟩ := hst
 have le72 := IH.le.trans (.refl _) hl71
 replace R3 := R3.mono hl71
 refine Cod.at hok hsym (.seq (.region (.lt rfl rfl rfl rfl (.nilS [10, 9, 8, 7, 1, 0] rfl rfl (.seq (.condP rfl hd (fun hb74 hd => ?_) fun hb74 hd => ?_))))))
 · refine .skipS [9, 8, 7, 1, 0] rfl rfl (.seq (.block (.seq (.region (.skips 1 rfl ?_)))))
   obtain ⟨h84, x85, hx86, hd⟩ := hd
   obtain ⟨b87, o88, cs89, e90, hC91, hr92⟩ := R3.2 _ _ hx86
   cases hr92
   refine .ixa underlying24 sizeOf3 rfl e90 rfl h84 (idx_lt hx86 h84) rfl rfl (.ld1 (j := 0) isAgg3 hC91 rfl rfl rfl rfl rfl (.skips 2 rfl (.nilS [6, 5, 9, 8, 7, 1, 0] rfl rfl (.seq (.region (.skips 2 rfl (.sub' rfl rfl rfl rfl ?_)))))))
   have hw94 := W_dcsc_within (I := I70) hd
   refine .callP call28 rfl hw94 rfl rfl fun v95 hv96 => ?_
   obtain ⟨r93, rfl, hd⟩ := hv96
   refine .not rfl rfl rfl (.skips 1 rfl ?_)
   refine splitP hd (fun hb97 hd => ?_) fun hb97 hd => ?_
   · rw [hb97]
     refine .skips 3 rfl (.gnoU rfl rfl rfl rfl (.gnoU rfl rfl rfl rfl (.gnoU rfl rfl rfl rfl (.gnoU rfl rfl rfl rfl (.gnoU rfl rfl rfl rfl (.gnoU rfl rfl rfl rfl (.gnoU rfl rfl rfl rfl (.skips 2 rfl (.nilS [31, 9, 8, 7, 1, 0] rfl rfl ?_)))))))))
     exact .condKT rfl rfl (.seq (.region (.skips 1 rfl (.nilS [4] rfl rfl (.ret (pret results29 (.t rfl .n) le72 ⟨false, rfl, hd⟩))))))
   rw [hb97]
   refine .gyes rfl rfl rfl (.move rfl rfl rfl (.gyes rfl rfl rfl (.gt rfl rfl rfl rfl (.gyes rfl rfl rfl (.move rfl rfl rfl ?_)))))
   refine splitP hd (fun hb98 hd => ?_) fun hb98 hd => ?_
   · rw [hb98]
     refine .gyes rfl rfl rfl (.move rfl rfl rfl (.gyes rfl rfl rfl (.move rfl rfl rfl (.gyes rfl rfl rfl (.sub' rfl rfl rfl rfl ?_)))))
     obtain ⟨h99, x100, hx101, hd⟩ := hd
     obtain ⟨b102, o103, cs104, e105, hC106, hr107⟩ := R3.2 _ _ hx101
     cases hr107
     refine .gyes rfl rfl rfl (.ixa underlying24 sizeOf3 rfl e105 rfl h99 (idx_lt hx101 h99) rfl rfl (.gyes rfl rfl rfl (.ld1 (j := 0) isAgg3 hC106 rfl rfl rfl rfl rfl (.gyes rfl rfl rfl (.move rfl rfl rfl (.gyes rfl rfl rfl (.ge rfl rfl rfl rfl (.gyes rfl rfl rfl (.pickT rfl rfl rfl rfl rfl (.skips 1 rfl (.nilS [31, 9, 8, 7, 1, 0] rfl rfl (.condP rfl hd (fun hb108 hd => ?_) fun hb108 hd => ?_))))))))))))
     · exact .seq (.region (.skips 1 rfl (.nilS [4] rfl rfl (.ret (pret results29 (.t rfl .n) le72 ⟨false, rfl, hd⟩)))))
     exact .skipS [9, 8, 7, 1, 0] rfl rfl (.region (.add rfl rfl rfl rfl (.sub (E' := [(0, _), (1, _), (7, _), (8, _), (32, _)]) ⟨rfl, rfl, rfl, rfl, rfl, trivial⟩ (.skips 1 rfl (.nil' fun c w ho hs => ⟨(w64 (s68 + 1)), hd, I70, le72, ho.sub ⟨rfl, rfl, rfl, rfl, rfl, trivial⟩, hs.pick .n⟩)))))
   rw [hb98]
   refine .skips 7 rfl (.gyes rfl rfl rfl (.pickF rfl rfl rfl rfl rfl (.skips 1 rfl (.nilS [31, 9, 8, 7, 1, 0] rfl rfl (.condKF rfl rfl (.skipS [9, 8, 7, 1, 0] rfl rfl (.region (.add rfl rfl rfl rfl (.sub (E' := [(0, _), (1, _), (7, _), (8, _), (32, _)]) ⟨rfl, rfl, rfl, rfl, rfl, trivial⟩ (.skips 1 rfl ?_))))))))))
   exact .nil' fun c w ho hs => ⟨(w64 (s68 + 1)), hd, I70, le72, ho.sub ⟨rfl, rfl, rfl, rfl, rfl, trivial⟩, hs.pick .n⟩
 exact .exitS [] rfl rfl (.seq (.region (.skips 1 rfl (.nilS [4] rfl rfl (.ret (pret results29 (.t rfl .n) le72 ⟨true, rfl, hd⟩))))))

theorem W_dcsc_Right {I : IH} {a0 : Columns} {p1 : Option Addr} {c2 : Nat} {p4 : Option Addr} {c5 : Nat} {p7 : Option Addr} {c8 : Nat} {p10 : Option Addr} {c11 : Nat} {Q : Bool → Prop} (R3 : RepSl eI64 I p1 c2 a0.At) (R6 : RepSl eI64 I p4 c5 a0.Start) (R9 : RepSl eI64 I p7 c8 a0.Row) (R12 : RepSl eI64 I p10 c11 a0.Val) (hd : dcsc_Right a0 Q) :
    PFun Try.prog 9 [.agg #[.int .i64 a0.Rows, .int .i64 a0.Cols, .slice p1 a0.At.length c2, .slice p4 a0.Start.length c5, .slice p7 a0.Row.length c8, .slice p10 a0.Val.length c11]] I (fun I_ v => ∃ r, v = .bool r ∧ Q r) := by
 refine Fun.enter func9 rfl ntmps9 rfl (.c .n) fun w0 M => ?_
 refine .seq (.region (.boxA rfl rfl rfl fun b15 => ?_))
 refine .skips 1 rfl (.nilS [1] rfl rfl (.seq (.region (.fieldAddr underlying30 rfl sizeOf24 rfl (o := 4) rfl rfl rfl (.load1 isAgg24 rfl .z rfl rfl rfl (.len underlying24 rfl rfl rfl rfl (.skips 1 rfl (.nilS [3, 1] rfl rfl (.seq ?_)))))))))
 refine .seq (.region (.fieldAddr underlying30 rfl sizeOf3 rfl (o := 0) rfl rfl rfl (.load1 isAgg3 rfl .z rfl rfl rfl ?_)))
 have hw31 := W_dcsc_within (I := I) hd
 refine .callP call28 rfl hw31 rfl rfl fun v32 hv33 => ?_
 obtain ⟨r30, rfl, hd⟩ := hv33
 refine .not rfl rfl rfl (.skips 1 rfl ?_)
 refine splitP hd (fun hb34 hd => ?_) fun hb34 hd => ?_
 · rw [hb34]
   exact .skips 26 rfl (.nilS [38, 3, 1] rfl rfl (.condKT rfl rfl (.seq (.region (.skips 1 rfl (.nilS [2] rfl rfl (.drop .z (.ret (pret results9 (.t rfl .n) (.refl _) ⟨false, rfl, hd⟩)))))))))
 rw [hb34]
 refine .gyes rfl rfl rfl (.fieldAddr underlying30 rfl sizeOf3 rfl (o := 1) rfl rfl rfl (.gyes rfl rfl rfl (.load1 isAgg3 rfl .z rfl rfl rfl ?_)))
 have hw36 := W_dcsc_within (I := I) hd
 refine .gyes rfl rfl rfl (.callP call28 rfl hw36 rfl rfl fun v37 hv38 => ?_)
 obtain ⟨r35, rfl, hd⟩ := hv38
 refine .gyes rfl rfl rfl (.not rfl rfl rfl (.skips 2 rfl ?_))
 refine splitP hd (fun hb39 hd => ?_) fun hb39 hd => ?_
 · rw [hb39]
   exact .skips 20 rfl (.nilS [38, 3, 1] rfl rfl (.condKT rfl rfl (.seq (.region (.skips 1 rfl (.nilS [2] rfl rfl (.drop .z (.ret (pret results9 (.t rfl .n) (.refl _) ⟨false, rfl, hd⟩)))))))))
 rw [hb39]
 refine .gyes rfl rfl rfl (.fieldAddr underlying30 rfl sizeOf24 rfl (o := 3) rfl rfl rfl (.gyes rfl rfl rfl (.load1 isAgg24 rfl .z rfl rfl rfl (.gyes rfl rfl rfl (.len underlying24 rfl rfl rfl rfl (.gyes rfl rfl rfl (.fieldAddr underlying30 rfl sizeOf24 rfl (o := 2) rfl rfl rfl (.gyes rfl rfl rfl (.load1 isAgg24 rfl .z rfl rfl rfl (.gyes rfl rfl rfl (.len underlying24 rfl rfl rfl rfl (.gyes rfl rfl rfl (.add rfl rfl rfl rfl (.gyes rfl rfl rfl (.ne rfl rfl rfl rfl (.skips 2 rfl ?_))))))))))))))))
 refine splitP hd (fun hb40 hd => ?_) fun hb40 hd => ?_
 · rw [hb40]
   exact .skips 10 rfl (.nilS [38, 3, 1] rfl rfl (.condKT rfl rfl (.seq (.region (.skips 1 rfl (.nilS [2] rfl rfl (.drop .z (.ret (pret results9 (.t rfl .n) (.refl _) ⟨false, rfl, hd⟩)))))))))
 rw [hb40]
 refine .gyes rfl rfl rfl (.fieldAddr underlying30 rfl sizeOf25 rfl (o := 5) rfl rfl rfl (.gyes rfl rfl rfl (.load1 isAgg25 rfl .z rfl rfl rfl (.gyes rfl rfl rfl (.len underlying25 rfl rfl rfl rfl (.gyes rfl rfl rfl (.move rfl rfl rfl (.gyes rfl rfl rfl (.ne rfl rfl rfl rfl (.skips 2 rfl ?_))))))))))
 refine splitP hd (fun hb41 hd => ?_) fun hb41 hd => ?_
 · rw [hb41]
   exact .skips 3 rfl (.nilS [38, 3, 1] rfl rfl (.condKT rfl rfl (.seq (.region (.skips 1 rfl (.nilS [2] rfl rfl (.drop .z (.ret (pret results9 (.t rfl .n) (.refl _) ⟨false, rfl, hd⟩)))))))))
 rw [hb41]
 refine .gyes rfl rfl rfl (.move rfl rfl rfl (.gyes rfl rfl rfl (.gt rfl rfl rfl rfl (.skips 1 rfl (.nilS [38, 3, 1] rfl rfl (.condP rfl hd (fun hb42 hd => ?_) fun hb42 hd => ?_))))))
 · exact .seq (.region (.skips 1 rfl (.nilS [2] rfl rfl (.drop .z (.ret (pret results9 (.t rfl .n) (.refl _) ⟨false, rfl, hd⟩))))))
 refine .skipS [3, 1] rfl rfl (.seq (.seq (.region (.fieldAddr underlying30 rfl sizeOf24 rfl (o := 2) rfl rfl rfl (.load1 isAgg24 rfl .z rfl rfl rfl (.fieldAddr underlying30 rfl sizeOf3 rfl (o := 1) rfl rfl rfl (.load1 isAgg3 rfl .z rfl rfl rfl ?_)))))))
 have hw74 := W_dcsc_rising (I := I) R3 hd
 refine .callP call29 rfl hw74 rfl rfl fun v75 hv76 => ?_
 obtain ⟨r73, rfl, hd⟩ := hv76
 refine .not rfl rfl rfl (.skips 1 rfl ?_)
 refine splitP hd (fun hb77 hd => ?_) fun hb77 hd => ?_
 · rw [hb77]
   exact .skips 25 rfl (.nilS [70, 1] rfl rfl (.condKT rfl rfl (.seq (.region (.skips 1 rfl (.nilS [2] rfl rfl (.drop .z (.ret (pret results9 (.t rfl .n) (.refl _) ⟨false, rfl, hd⟩)))))))))
 rw [hb77]
 refine .gyes rfl rfl rfl (.fieldAddr underlying30 rfl sizeOf24 rfl (o := 3) rfl rfl rfl (.gyes rfl rfl rfl (.load1 isAgg24 rfl .z rfl rfl rfl (.gyes rfl rfl rfl (.move rfl rfl rfl (.gyes rfl rfl rfl (.add rfl rfl rfl rfl ?_)))))))
 have hw79 := W_dcsc_rising (I := I) R6 hd
 refine .gyes rfl rfl rfl (.callP call29 rfl hw79 rfl rfl fun v80 hv81 => ?_)
 obtain ⟨r78, rfl, hd⟩ := hv81
 refine .gyes rfl rfl rfl (.not rfl rfl rfl (.skips 2 rfl ?_))
 refine splitP hd (fun hb82 hd => ?_) fun hb82 hd => ?_
 · rw [hb82]
   exact .skips 17 rfl (.nilS [70, 1] rfl rfl (.condKT rfl rfl (.seq (.region (.skips 1 rfl (.nilS [2] rfl rfl (.drop .z (.ret (pret results9 (.t rfl .n) (.refl _) ⟨false, rfl, hd⟩)))))))))
 rw [hb82]
 refine .gyes rfl rfl rfl (.fieldAddr underlying30 rfl sizeOf24 rfl (o := 3) rfl rfl rfl (.gyes rfl rfl rfl (.load1 isAgg24 rfl .z rfl rfl rfl ?_)))
 obtain ⟨h83, x84, hx85, hd⟩ := hd
 obtain ⟨b86, o87, cs88, e89, hC90, hr91⟩ := R6.2 _ _ hx85
 cases hr91
 refine .gyes rfl rfl rfl (.ixa underlying24 sizeOf3 rfl e89 rfl h83 (idx_lt hx85 h83) rfl rfl (.gyes rfl rfl rfl (.ld1 (j := 0) isAgg3 hC90 rfl rfl rfl rfl rfl (.gyes rfl rfl rfl (.ne rfl rfl rfl rfl (.skips 2 rfl ?_))))))
 refine splitP hd (fun hb92 hd => ?_) fun hb92 hd => ?_
 · rw [hb92]
   exact .skips 10 rfl (.nilS [70, 1] rfl rfl (.condKT rfl rfl (.seq (.region (.skips 1 rfl (.nilS [2] rfl rfl (.drop .z (.ret (pret results9 (.t rfl .n) (.refl _) ⟨false, rfl, hd⟩)))))))))
 rw [hb92]
 refine .gyes rfl rfl rfl (.fieldAddr underlying30 rfl sizeOf24 rfl (o := 3) rfl rfl rfl (.gyes rfl rfl rfl (.load1 isAgg24 rfl .z rfl rfl rfl (.gyes rfl rfl rfl (.fieldAddr underlying30 rfl sizeOf24 rfl (o := 2) rfl rfl rfl (.gyes rfl rfl rfl (.load1 isAgg24 rfl .z rfl rfl rfl (.gyes rfl rfl rfl (.len underlying24 rfl rfl rfl rfl ?_)))))))))
 obtain ⟨h93, x94, hx95, hd⟩ := hd
 obtain ⟨b96, o97, cs98, e99, hC100, hr101⟩ := R6.2 _ _ hx95
 cases hr101
 refine .gyes rfl rfl rfl (.ixa underlying24 sizeOf3 rfl e99 rfl h93 (idx_lt hx95 h93) rfl rfl (.gyes rfl rfl rfl (.ld1 (j := 0) isAgg3 hC100 rfl rfl rfl rfl rfl (.gyes rfl rfl rfl (.move rfl rfl rfl (.gyes rfl rfl rfl (.ne rfl rfl rfl rfl (.skips 1 rfl (.nilS [70, 1] rfl rfl (.condP rfl hd (fun hb102 hd => ?_) fun hb102 hd => ?_))))))))))
 · exact .seq (.region (.skips 1 rfl (.nilS [2] rfl rfl (.drop .z (.ret (pret results9 (.t rfl .n) (.refl _) ⟨false, rfl, hd⟩))))))
 refine .skipS [1] rfl rfl (.seq (.seq (.region (.fieldAddr underlying30 rfl sizeOf24 rfl (o := 2) rfl rfl rfl (.load1 isAgg24 rfl .z rfl rfl rfl (.len underlying24 rfl rfl rfl rfl (.skips 1 rfl (.nilS [74, 73, 1] rfl rfl (.block ?_)))))))))
 refine .loop hd (fun (s176 : Int) c w => ∃ I_, IH.le I I_ ∧ Ok ⟨96, [], none⟩ [(1, .pointer (some ⟨b15, 0, none⟩)), (73, .int .i64 (a0.At.length : Int)), (74, .int .i64 s176)] c ∧ Sym w0 M I I_ [pto b15 (.cells #[.int .i64 a0.Rows, .int .i64 a0.Cols, .slice p1 a0.At.length c2, .slice p4 a0.Start.length c5, .slice p7 a0.Row.length c8, .slice p10 a0.Val.length c11] 30 (0, 0))] w) (fun c w ho hs => ⟨I, (.refl _), ho.sub ⟨rfl, rfl, rfl, trivial⟩, hs.pick (.c .z .n)⟩) ?_
 rintro s176 next177 hd c w hst
 obtain ⟨I178, hl179, hok, hsym⟩ := hst
 have le180 := IH.le.trans (.refl _) hl179
 replace R3 := R3.mono hl179
 replace R6 := R6.mono hl179
 replace R9 := R9.mono hl179
 replace R12 := R12.mono hl179
 refine Cod.at hok hsym (.seq (.region (.lt rfl rfl rfl rfl (.nilS [75, 74, 73, 1] rfl rfl (.seq (.condP rfl hd (fun hb182 hd => ?_) fun hb182 hd => ?_))))))
 · refine .skipS [74, 73, 1] rfl rfl (.seq (.block (.seq (.region (.skips 2 rfl (.nilS [4, 74, 73, 1] rfl rfl (.seq (.draw [some 0, some 1, some 2, some 3, some 4, some 5, some 6, some 7, some 8, some 9, some 10, some 11, some 12, some 13, some 14, some 15, some 16, some 17] 18 MX (by kernel_rfl) (by kernel_rfl) (by kernel_rfl) (by kernel_rfl) (by kernel_rfl) (by kernel_rfl) (by kernel_rfl) (fun ex => (pto b15 (.cells #[.int .i64 a0.Rows, .int .i64 a0.Cols, .slice p1 a0.At.length c2, .slice p4 a0.Start.length c5, .slice p7 a0.Row.length c8, .slice p10 a0.Val.length c11] 30 (0, 0))) :: ex) (fun _ _ => (.s .z)) rfl (.f [] rfl (by kernel_rfl) rfl rfl (fun ex => .fieldAddr underlying30 rfl sizeOf24 rfl (o := 4) rfl rfl rfl .mk) ?_)))))))))
   refine .f [0] rfl (by kernel_rfl) rfl rfl (fun ex => .load1 isAgg24 rfl .z rfl rfl rfl .mk) (.f [] rfl (by kernel_rfl) rfl rfl (fun ex => .fieldAddr underlying30 rfl sizeOf24 rfl (o := 3) rfl rfl rfl .mk) (.f [2] rfl (by kernel_rfl) rfl rfl (fun ex => .load1 isAgg24 rfl .z rfl rfl rfl .mk) (.fs [[]] rfl (by kernel_rfl) ?_)))
   obtain ⟨h183, x184, hx185, hd⟩ := hd
   obtain ⟨b186, o187, cs188, e189, hC190, hr191⟩ := R6.2 _ _ hx185
   cases hr191
   refine .f [3, 4] rfl (by kernel_rfl) rfl rfl (fun ex => .ixa underlying24 sizeOf3 rfl e189 rfl h183 (idx_lt hx185 h183) rfl rfl .mk) (.f [5] rfl (by kernel_rfl) rfl rfl (fun ex => .ld1 (j := 0) isAgg3 hC190 rfl rfl rfl rfl rfl .mk) (.f [] rfl (by kernel_rfl) rfl rfl (fun ex => .fieldAddr underlying30 rfl sizeOf24 rfl (o := 3) rfl rfl rfl .mk) (.f [7] rfl (by kernel_rfl) rfl rfl (fun ex => .load1 isAgg24 rfl .z rfl rfl rfl .mk) (.fs [[]] rfl (by kernel_rfl) (.f [9] rfl (by kernel_rfl) rfl rfl (fun ex => .add rfl rfl rfl rfl .mk) ?_)))))
   obtain ⟨h192, x193, hx194, hd⟩ := hd
   obtain ⟨b195, o196, cs197, e198, hC199, hr200⟩ := R6.2 _ _ hx194
   cases hr200
   refine .f [8, 10] rfl (by kernel_rfl) rfl rfl (fun ex => .ixa underlying24 sizeOf3 rfl e198 rfl h192 (idx_lt hx194 h192) rfl rfl .mk) (.f [11] rfl (by kernel_rfl) rfl rfl (fun ex => .ld1 (j := 0) isAgg3 hC199 rfl rfl rfl rfl rfl .mk) ?_)
   obtain ⟨h201, h202, h203, hd⟩ := hd
   have h209 : Int.toNat x184 ≤ Int.toNat x193 := by omega
   have h210 : Int.toNat x193 ≤ a0.Row.length := by omega
   obtain ⟨p204, c205, e207, e208, R206⟩ := RepSl.sliceW R9 (Int.toNat x184) (Int.toNat x193) c8 h209 h210 (.inl rfl)
   refine .f [1, 6, 12] rfl (by kernel_rfl) rfl rfl (fun ex => .sliceW (L := Int.toNat x184) (H := Int.toNat x193) (cm := c8) underlying24 sizeOf3 rfl rfl R9.1 rfl rfl rfl (.inr ⟨_, _, rfl, h201, rfl⟩) (.inr ⟨_, _, rfl, (by omega), rfl⟩) (.inl rfl) h209 h210 rfl e207 e208 rfl rfl .mk) (.f [] rfl (by kernel_rfl) rfl rfl (fun ex => .fieldAddr underlying30 rfl sizeOf3 rfl (o := 0) rfl rfl rfl .mk) (.f [14] rfl (by kernel_rfl) rfl rfl (fun ex => .load1 isAgg3 rfl .z rfl rfl rfl .mk) (.w [] [[], [15], [], [13], [12, 13], [11, 12, 13], [10, 11, 12, 13], [11, 12, 13], [8, 11, 12, 13], [13], [6, 13], [5, 6, 13], [5, 6, 13], [3, 5, 6, 13], [13], [1, 13]] [13, 15] rfl (by kernel_rfl) (by kernel_rfl) (by kernel_rfl) ((dropE_kept rfl rfl)) (.inr (dropE_kept rfl rfl)) fun ex => ?_)))
   have hw212 := W_dcsc_rising (I := I178) R206 hd
   refine .callP call29 rfl hw212 rfl rfl fun v213 hv214 => ?_
   obtain ⟨r211, rfl, hd⟩ := hv214
   refine .some (fun ex => (pto b15 (.cells #[.int .i64 a0.Rows, .int .i64 a0.Cols, .slice p1 a0.At.length c2, .slice p4 a0.Start.length c5, .slice p7 a0.Row.length c8, .slice p10 a0.Val.length c11] 30 (0, 0))) :: ex) rfl (fun _ _ => (.s .z)) rfl trivial (.f [16] rfl (by kernel_rfl) rfl rfl (fun ex => .not rfl rfl rfl .mk) (.e 18 (by kernel_rfl) (by kernel_rfl) (by kernel_rfl) (.nilS [94, 74, 73, 1] rfl rfl (.condP rfl hd (fun hb215 hd => ?_) fun hb215 hd => ?_))))
   · exact .seq (.region (.skips 1 rfl (.nilS [2] rfl rfl (.drop .z (.ret (pret results9 (.t rfl .n) le180 ⟨false, rfl, hd⟩))))))
   exact .skipS [74, 73, 1] rfl rfl (.region (.add rfl rfl rfl rfl (.sub (E' := [(1, _), (73, _), (95, _)]) ⟨rfl, rfl, rfl, trivial⟩ (.skips 1 rfl (.nil' fun c w ho hs => ⟨(w64 (s176 + 1)), hd, I178, le180, ho.sub ⟨rfl, rfl, rfl, trivial⟩, hs.pick (.c .z .n)⟩)))))
 exact .exitS [] rfl rfl (.drop .z (.seq (.region (.skips 1 rfl (.nilS [2] rfl rfl (.ret (pret results9 (.t rfl .n) le180 ⟨true, rfl, hd⟩)))))))

theorem W_ref03_SameInts {I : IH} {a0 : List Int} {a1 : List Int} {p1 : Option Addr} {c2 : Nat} {p4 : Option Addr} {c5 : Nat} {Q : Bool → Prop} (R3 : RepSl eI64 I p1 c2 a0) (R6 : RepSl eI64 I p4 c5 a1) (hd : ref03_SameInts a0 a1 Q) :
    PFun Try.prog 30 [.slice p1 a0.length c2, .slice p4 a1.length c5] I (fun I_ v => ∃ r, v = .bool r ∧ Q r) := by
 refine Fun.enter func30 rfl ntmps30 rfl (.c (.c .n)) fun w0 M => ?_
 refine .seq (.region (.skips 1 rfl (.nilS [1, 0] rfl rfl (.seq (.seq (.region (.skips 1 rfl (.len underlying24 rfl rfl rfl rfl (.skips 1 rfl ?_)))))))))
 refine .len underlying24 rfl rfl rfl rfl (.ne rfl rfl rfl rfl (.nilS [10, 1, 0] rfl rfl (.condP rfl hd (fun hb8 hd => ?_) fun hb8 hd => ?_)))
 · exact .seq (.region (.skips 1 rfl (.nilS [4] rfl rfl (.ret (pret results30 (.t rfl .n) (.refl _) ⟨false, rfl, hd⟩)))))
 refine .skipS [1, 0] rfl rfl (.seq (.seq (.region (.skips 1 rfl (.nilS [5, 1, 0] rfl rfl (.block (.loop hd (fun (s54 : Int) c w => ∃ I_, IH.le I I_ ∧ Ok ⟨26, [], none⟩ [(0, .slice p1 a0.length c2), (1, .slice p4 a1.length c5), (5, .int .i64 s54)] c ∧ Sym w0 M I I_ [] w) (fun c w ho hs => ⟨I, (.refl _), ho.sub ⟨rfl, rfl, rfl, trivial⟩, hs.pick .n⟩) ?_)))))))
 rintro s54 next55 hd c w hst
 obtain ⟨I56, hl57, hok, hsym⟩ := hst
 have le58 := IH.le.trans (.refl _) hl57
 replace R3 := R3.mono hl57
 replace R6 := R6.mono hl57
 refine Cod.at hok hsym (.seq (.seq (.region (.skips 2 rfl (.len underlying24 rfl rfl rfl rfl (.lt rfl rfl rfl rfl (.nilS [14, 5, 1, 0] rfl rfl (.condP rfl hd (fun hb60 hd => ?_) fun hb60 hd => ?_))))))))
 · refine .skipS [5, 1, 0] rfl rfl (.seq (.block (.seq (.draw [some 0, some 1, some 2, some 3, some 4, some 5, some 6, some 7, some 8] 9 MX (by kernel_rfl) (by kernel_rfl) (by kernel_rfl) (by kernel_rfl) (by kernel_rfl) (by kernel_rfl) (by kernel_rfl) (fun ex => ex) (fun _ _ => .z) rfl (.fs [[], []] rfl (by kernel_rfl) ?_)))))
   obtain ⟨h61, x62, hx63, hd⟩ := hd
   obtain ⟨b64, o65, cs66, e67, hC68, hr69⟩ := R3.2 _ _ hx63
   cases hr69
   refine .f [0, 1] rfl (by kernel_rfl) rfl rfl (fun ex => .ixa underlying24 sizeOf3 rfl e67 rfl h61 (idx_lt hx63 h61) rfl rfl .mk) (.f [2] rfl (by kernel_rfl) rfl rfl (fun ex => .ld1 (j := 0) isAgg3 hC68 rfl rfl rfl rfl rfl .mk) (.fs [[], []] rfl (by kernel_rfl) ?_))
   obtain ⟨h70, x71, hx72, hd⟩ := hd
   obtain ⟨b73, o74, cs75, e76, hC77, hr78⟩ := R6.2 _ _ hx72
   cases hr78
   refine .f [4, 5] rfl (by kernel_rfl) rfl rfl (fun ex => .ixa underlying24 sizeOf3 rfl e76 rfl h70 (idx_lt hx72 h70) rfl rfl .mk) (.f [6] rfl (by kernel_rfl) rfl rfl (fun ex => .ld1 (j := 0) isAgg3 hC77 rfl rfl rfl rfl rfl .mk) (.f [3, 7] rfl (by kernel_rfl) rfl rfl (fun ex => .ne rfl rfl rfl rfl .mk) (.e 9 (by kernel_rfl) (by kernel_rfl) (by kernel_rfl) (.nilS [25, 5, 1, 0] rfl rfl (.condP rfl hd (fun hb79 hd => ?_) fun hb79 hd => ?_)))))
   · exact .seq (.region (.skips 1 rfl (.nilS [4] rfl rfl (.ret (pret results30 (.t rfl .n) le58 ⟨false, rfl, hd⟩)))))
   exact .skipS [5, 1, 0] rfl rfl (.region (.skips 1 rfl (.add rfl rfl rfl rfl (.sub (E' := [(0, _), (1, _), (15, _), (16, _)]) ⟨rfl, rfl, rfl, rfl, trivial⟩ (.skips 1 rfl (.nil' fun c w ho hs => ⟨(w64 (s54 + 1)), hd, I56, le58, ho.sub ⟨rfl, rfl, rfl, trivial⟩, hs.pick .n⟩))))))
 exact .exitS [] rfl rfl (.seq (.region (.skips 1 rfl (.nilS [4] rfl rfl (.ret (pret results30 (.t rfl .n) le58 ⟨true, rfl, hd⟩))))))

theorem W_ref07_SameVals {I : IH} {a0 : List Int} {a1 : List Int} {p1 : Option Addr} {c2 : Nat} {p4 : Option Addr} {c5 : Nat} {Q : Bool → Prop} (R3 : RepSl eI64 I p1 c2 a0) (R6 : RepSl eI64 I p4 c5 a1) (hd : ref07_SameVals a0 a1 Q) :
    PFun Try.prog 31 [.slice p1 a0.length c2, .slice p4 a1.length c5] I (fun I_ v => ∃ r, v = .bool r ∧ Q r) := by
 refine Fun.enter func31 rfl ntmps31 rfl (.c (.c .n)) fun w0 M => ?_
 refine .seq (.region (.skips 1 rfl (.nilS [1, 0] rfl rfl (.seq (.seq (.region (.skips 1 rfl (.len underlying25 rfl rfl rfl rfl (.skips 1 rfl ?_)))))))))
 refine .len underlying25 rfl rfl rfl rfl (.ne rfl rfl rfl rfl (.nilS [10, 1, 0] rfl rfl (.condP rfl hd (fun hb8 hd => ?_) fun hb8 hd => ?_)))
 · exact .seq (.region (.skips 1 rfl (.nilS [4] rfl rfl (.ret (pret results31 (.t rfl .n) (.refl _) ⟨false, rfl, hd⟩)))))
 refine .skipS [1, 0] rfl rfl (.seq (.seq (.region (.skips 1 rfl (.nilS [5, 1, 0] rfl rfl (.block (.loop hd (fun (s54 : Int) c w => ∃ I_, IH.le I I_ ∧ Ok ⟨26, [], none⟩ [(0, .slice p1 a0.length c2), (1, .slice p4 a1.length c5), (5, .int .i64 s54)] c ∧ Sym w0 M I I_ [] w) (fun c w ho hs => ⟨I, (.refl _), ho.sub ⟨rfl, rfl, rfl, trivial⟩, hs.pick .n⟩) ?_)))))))
 rintro s54 next55 hd c w hst
 obtain ⟨I56, hl57, hok, hsym⟩ := hst
 have le58 := IH.le.trans (.refl _) hl57
 replace R3 := R3.mono hl57
 replace R6 := R6.mono hl57
 refine Cod.at hok hsym (.seq (.seq (.region (.skips 2 rfl (.len underlying25 rfl rfl rfl rfl (.lt rfl rfl rfl rfl (.nilS [14, 5, 1, 0] rfl rfl (.condP rfl hd (fun hb60 hd => ?_) fun hb60 hd => ?_))))))))
 · refine .skipS [5, 1, 0] rfl rfl (.seq (.block (.seq (.draw [some 0, some 1, some 2, some 3, some 4, some 5, some 6, some 7, some 8] 9 MX (by kernel_rfl) (by kernel_rfl) (by kernel_rfl) (by kernel_rfl) (by kernel_rfl) (by kernel_rfl) (by kernel_rfl) (fun ex => ex) (fun _ _ => .z) rfl (.fs [[], []] rfl (by kernel_rfl) ?_)))))
   obtain ⟨h61, x62, hx63, hd⟩ := hd
   obtain ⟨b64, o65, cs66, e67, hC68, hr69⟩ := R3.2 _ _ hx63
   cases hr69
   refine .f [0, 1] rfl (by kernel_rfl) rfl rfl (fun ex => .ixa underlying25 sizeOf2 rfl e67 rfl h61 (idx_lt hx63 h61) rfl rfl .mk) (.f [2] rfl (by kernel_rfl) rfl rfl (fun ex => .ld1 (j := 0) isAgg2 hC68 rfl rfl rfl rfl rfl .mk) (.fs [[], []] rfl (by kernel_rfl) ?_))
   obtain ⟨h70, x71, hx72, hd⟩ := hd
   obtain ⟨b73, o74, cs75, e76, hC77, hr78⟩ := R6.2 _ _ hx72
   cases hr78
   refine .f [4, 5] rfl (by kernel_rfl) rfl rfl (fun ex => .ixa underlying25 sizeOf2 rfl e76 rfl h70 (idx_lt hx72 h70) rfl rfl .mk) (.f [6] rfl (by kernel_rfl) rfl rfl (fun ex => .ld1 (j := 0) isAgg2 hC77 rfl rfl rfl rfl rfl .mk) (.f [3, 7] rfl (by kernel_rfl) rfl rfl (fun ex => .ne rfl rfl rfl rfl .mk) (.e 9 (by kernel_rfl) (by kernel_rfl) (by kernel_rfl) (.nilS [25, 5, 1, 0] rfl rfl (.condP rfl hd (fun hb79 hd => ?_) fun hb79 hd => ?_)))))
   · exact .seq (.region (.skips 1 rfl (.nilS [4] rfl rfl (.ret (pret results31 (.t rfl .n) le58 ⟨false, rfl, hd⟩)))))
   exact .skipS [5, 1, 0] rfl rfl (.region (.skips 1 rfl (.add rfl rfl rfl rfl (.sub (E' := [(0, _), (1, _), (15, _), (16, _)]) ⟨rfl, rfl, rfl, rfl, trivial⟩ (.skips 1 rfl (.nil' fun c w ho hs => ⟨(w64 (s54 + 1)), hd, I56, le58, ho.sub ⟨rfl, rfl, rfl, trivial⟩, hs.pick .n⟩))))))
 exact .exitS [] rfl rfl (.seq (.region (.skips 1 rfl (.nilS [4] rfl rfl (.ret (pret results31 (.t rfl .n) le58 ⟨true, rfl, hd⟩))))))

theorem W_ref07_Same {I : IH} {a0 : Rows} {a1 : Rows} {p1 : Option Addr} {c2 : Nat} {p4 : Option Addr} {c5 : Nat} {p7 : Option Addr} {c8 : Nat} {p10 : Option Addr} {c11 : Nat} {p13 : Option Addr} {c14 : Nat} {p16 : Option Addr} {c17 : Nat} {Q : Bool → Prop} (R3 : RepSl eI64 I p1 c2 a0.Start) (R6 : RepSl eI64 I p4 c5 a0.Col) (R9 : RepSl eI64 I p7 c8 a0.Val) (R12 : RepSl eI64 I p10 c11 a1.Start) (R15 : RepSl eI64 I p13 c14 a1.Col) (R18 : RepSl eI64 I p16 c17 a1.Val) (hd : ref07_Same a0 a1 Q) :
    PFun Try.prog 10 [.agg #[.int .i64 a0.Rows, .int .i64 a0.Cols, .slice p1 a0.Start.length c2, .slice p4 a0.Col.length c5, .slice p7 a0.Val.length c8], .agg #[.int .i64 a1.Rows, .int .i64 a1.Cols, .slice p10 a1.Start.length c11, .slice p13 a1.Col.length c14, .slice p16 a1.Val.length c17]] I (fun I_ v => ∃ r, v = .bool r ∧ Q r) := by
 refine Fun.enter func10 rfl ntmps10 rfl (.c (.c .n)) fun w0 M => ?_
 refine .seq (.region (.boxA rfl rfl rfl fun b23 => ?_))
 refine .boxA rfl rfl rfl fun b25 => ?_
 refine .skips 1 rfl (.nilS [3, 2] rfl rfl (.seq (.region (.fieldAddr underlying27 rfl sizeOf3 rfl (o := 0) rfl rfl rfl (.load1 isAgg3 rfl (.s .z) rfl rfl rfl (.fieldAddr underlying27 rfl sizeOf3 rfl (o := 0) rfl rfl rfl (.load1 isAgg3 rfl .z rfl rfl rfl (.eq rfl rfl rfl rfl (.skips 1 rfl ?_)))))))))
 refine splitP hd (fun hb27 hd => ?_) fun hb27 hd => ?_
 · rw [hb27]
   refine .gyes rfl rfl rfl (.fieldAddr underlying27 rfl sizeOf3 rfl (o := 1) rfl rfl rfl (.gyes rfl rfl rfl (.load1 isAgg3 rfl (.s .z) rfl rfl rfl (.gyes rfl rfl rfl (.fieldAddr underlying27 rfl sizeOf3 rfl (o := 1) rfl rfl rfl (.gyes rfl rfl rfl (.load1 isAgg3 rfl .z rfl rfl rfl (.gyes rfl rfl rfl (.eq rfl rfl rfl rfl (.skips 2 rfl ?_))))))))))
   refine splitP hd (fun hb28 hd => ?_) fun hb28 hd => ?_
   · rw [hb28]
     refine .gyes rfl rfl rfl (.fieldAddr underlying27 rfl sizeOf24 rfl (o := 2) rfl rfl rfl (.gyes rfl rfl rfl (.load1 isAgg24 rfl (.s .z) rfl rfl rfl (.gyes rfl rfl rfl (.fieldAddr underlying27 rfl sizeOf24 rfl (o := 2) rfl rfl rfl (.gyes rfl rfl rfl (.load1 isAgg24 rfl .z rfl rfl rfl ?_)))))))
     have hw30 := W_ref03_SameInts (I := I) R3 R12 hd
     refine .gyes rfl rfl rfl (.callP call30 rfl hw30 rfl rfl fun v31 hv32 => ?_)
     obtain ⟨r29, rfl, hd⟩ := hv32
     refine .skips 2 rfl ?_
     refine splitP hd (fun hb33 hd => ?_) fun hb33 hd => ?_
     · rw [hb33]
       refine .gyes rfl rfl rfl (.fieldAddr underlying27 rfl sizeOf24 rfl (o := 3) rfl rfl rfl (.gyes rfl rfl rfl (.load1 isAgg24 rfl (.s .z) rfl rfl rfl (.gyes rfl rfl rfl (.fieldAddr underlying27 rfl sizeOf24 rfl (o := 3) rfl rfl rfl (.gyes rfl rfl rfl (.load1 isAgg24 rfl .z rfl rfl rfl ?_)))))))
       have hw35 := W_ref03_SameInts (I := I) R6 R15 hd
       refine .gyes rfl rfl rfl (.callP call30 rfl hw35 rfl rfl fun v36 hv37 => ?_)
       obtain ⟨r34, rfl, hd⟩ := hv37
       refine .skips 2 rfl ?_
       refine splitP hd (fun hb38 hd => ?_) fun hb38 hd => ?_
       · rw [hb38]
         refine .gyes rfl rfl rfl (.fieldAddr underlying27 rfl sizeOf25 rfl (o := 4) rfl rfl rfl (.gyes rfl rfl rfl (.load1 isAgg25 rfl (.s .z) rfl rfl rfl (.gyes rfl rfl rfl (.fieldAddr underlying27 rfl sizeOf25 rfl (o := 4) rfl rfl rfl (.gyes rfl rfl rfl (.load1 isAgg25 rfl .z rfl rfl rfl ?_)))))))
         have hw40 := W_ref07_SameVals (I := I) R9 R18 hd
         refine .gyes rfl rfl rfl (.callP call31 rfl hw40 rfl rfl fun v41 hv42 => ?_)
         obtain ⟨r39, rfl, hd⟩ := hv42
         exact .skips 2 rfl (.nilS [4] rfl rfl (.drop .z (.drop .z (.ret (pret results10 (.t rfl .n) (.refl _) ⟨r39, rfl, hd⟩)))))
       rw [hb38]
       exact .skips 7 rfl (.nilS [4] rfl rfl (.drop .z (.drop .z (.ret (pret results10 (.t rfl .n) (.refl _) ⟨false, rfl, hd⟩)))))
     rw [hb33]
     exact .skips 14 rfl (.nilS [4] rfl rfl (.drop .z (.drop .z (.ret (pret results10 (.t rfl .n) (.refl _) ⟨false, rfl, hd⟩)))))
   rw [hb28]
   exact .skips 21 rfl (.nilS [4] rfl rfl (.drop .z (.drop .z (.ret (pret results10 (.t rfl .n) (.refl _) ⟨false, rfl, hd⟩)))))
 rw [hb27]
 exact .skips 28 rfl (.nilS [4] rfl rfl (.drop .z (.drop .z (.ret (pret results10 (.t rfl .n) (.refl _) ⟨false, rfl, hd⟩)))))

theorem W_dcsc_sure {I : IH} {a0 : Columns} {p1 : Option Addr} {c2 : Nat} {p4 : Option Addr} {c5 : Nat} {p7 : Option Addr} {c8 : Nat} {p10 : Option Addr} {c11 : Nat} {Q : Columns → Prop} (R3 : RepSl eI64 I p1 c2 a0.At) (R6 : RepSl eI64 I p4 c5 a0.Start) (R9 : RepSl eI64 I p7 c8 a0.Row) (R12 : RepSl eI64 I p10 c11 a0.Val) (hd : dcsc_sure a0 Q) :
    PFun Try.prog 32 [.agg #[.int .i64 a0.Rows, .int .i64 a0.Cols, .slice p1 a0.At.length c2, .slice p4 a0.Start.length c5, .slice p7 a0.Row.length c8, .slice p10 a0.Val.length c11]] I (fun I_ v => ∃ r p13 c14 p16 c17 p19 c20 p22 c23, v = .agg #[.int .i64 r.Rows, .int .i64 r.Cols, .slice p13 r.At.length c14, .slice p16 r.Start.length c17, .slice p19 r.Row.length c20, .slice p22 r.Val.length c23] ∧ RepSl eI64 I_ p13 c14 r.At ∧ RepSl eI64 I_ p16 c17 r.Start ∧ RepSl eI64 I_ p19 c20 r.Row ∧ RepSl eI64 I_ p22 c23 r.Val ∧ Q r) := by
 refine Fun.enter func32 rfl ntmps32 rfl (.c .n) fun w0 M => ?_
 refine .seq (.region (.boxA rfl rfl rfl fun b29 => ?_))
 refine .allocA zeroValue30 rfl rfl fun b31 => ?_
 refine .nilS [2, 1] rfl rfl (.seq (.seq (.region (.loadW isAgg30 sizeOf30 rfl (.s .z) rfl rfl rfl ?_))))
 have hw34 := W_dcsc_Right (I := I) R3 R6 R9 R12 hd
 refine .callP call9 rfl hw34 rfl rfl fun v35 hv36 => ?_
 obtain ⟨r33, rfl, hd⟩ := hv36
 refine .nilS [4, 2, 1] rfl rfl (.condP rfl hd (fun hb37 hd => ?_) fun hb37 hd => ?_)
 · exact .seq (.region (.loadW isAgg30 sizeOf30 rfl (.s .z) rfl rfl rfl (.storeA sizeOf30 rfl rfl .z (.t (.t (.t (.t (.t (.t .nil)))))) rfl rfl (.nilS [2] rfl rfl (.drop (.s .z) (.ret (pret results32 (.w isAgg30 sizeOf30 rfl .z rfl .n) (.refl _) ⟨a0, _, _, _, _, _, _, _, _, rfl, R3, R6, R9, R12, hd⟩)))))))
 refine .skipS [2] rfl rfl (.drop (.s .z) (.seq (.region ?_)))
 have hw60 := W_dcsc_none (I := I) hd
 refine .callO call24 rfl hw60 rfl rfl fun v42 I39 l43 hl40 hv41 => ?_
 obtain ⟨r38, p44, c45, p47, c48, p50, c51, p53, c54, rfl, rfl, hd⟩ := hv41
 have le61 := IH.le.trans (.refl _) hl40
 refine .storeA sizeOf30 rfl rfl (.s (.s (.s (.s .z)))) (.t (.t (.t (.t (.t (.t .nil)))))) rfl rfl (.nilS [2] rfl rfl (.pub .z fun I62 hl63 R64 => ?_))
 have le65 := IH.le.trans le61 hl63
 refine .pub .z fun I66 hl67 R68 => ?_
 have le69 := IH.le.trans le65 hl67
 replace R64 := R64.mono hl67
 refine .pub .z fun I70 hl71 R72 => ?_
 have le73 := IH.le.trans le69 hl71
 replace R64 := R64.mono hl71
 replace R68 := R68.mono hl71
 refine .pub .z fun I74 hl75 R76 => ?_
 have le77 := IH.le.trans le73 hl75
 replace R64 := R64.mono hl75
 replace R68 := R68.mono hl75
 replace R72 := R72.mono hl75
 exact .ret (pret results32 (.w isAgg30 sizeOf30 rfl .z rfl .n) le77 ⟨r38, _, _, _, _, _, _, _, _, rfl, R64, R68, R72, R76, hd⟩)

theorem W_ring_Is {I : IH} {a0 : Int}  {Q : Bool → Prop}  (hd : ring_Is a0 Q) :
    PFun Try.prog 53 [.int .i64 a0] I (fun I_ v => ∃ r, v = .bool r ∧ Q r) := by
 refine Fun.enter func53 rfl ntmps53 rfl (.c .n) fun w0 M => ?_
 refine .seq (.region (.skips 1 rfl (.nilS [0] rfl rfl (.seq (.region (.skips 1 rfl (.gt rfl rfl rfl rfl (.skips 1 rfl ?_))))))))
 refine splitP hd (fun hb1 hd => ?_) fun hb1 hd => ?_
 · rw [hb1]
   exact .gyes rfl rfl rfl (.move rfl rfl rfl (.gyes rfl rfl rfl (.lt rfl rfl rfl rfl (.skips 2 rfl (.nilS [2] rfl rfl (.ret (pret results53 (.t rfl .n) (.refl _) ⟨(decide (a0 < 6)), rfl, hd⟩)))))))
 rw [hb1]
 exact .skips 4 rfl (.nilS [2] rfl rfl (.ret (pret results53 (.t rfl .n) (.refl _) ⟨false, rfl, hd⟩)))

theorem W_wide_Of {I : IH} {a0 : Int}  {Q : Wide → Prop}  (hd : wide_Of a0 Q) :
    PFun Try.prog 70 [.int .i64 a0] I (fun I_ v => ∃ r, v = .agg (encWide r).toArray ∧ Q r) := by
 refine Fun.enter func70 rfl ntmps70 rfl (.c .n) fun w0 M => ?_
 refine .seq (.region (.allocA zeroValue92 rfl rfl fun b1 => ?_))
 refine .nilS [2, 0] rfl rfl (.seq (.region (.skips 1 rfl (.shr' rfl rfl (by decide) rfl rfl (.skips 1 rfl (.conv underlying2 underlying90 rfl rfl rfl (.build zeroValue92 underlying92 BI92 (.c rfl rfl rfl (.t .nil) (.c rfl rfl rfl (.s (.t .nil)) .n)) (by exact ⟨⟨_, _, rfl, rfl, rfl⟩, ⟨⟨_, _, rfl, rfl, rfl⟩, trivial⟩⟩) rfl rfl (.storeA sizeOf92 rfl rfl .z (.t (.t .nil)) rfl rfl (.nilS [2] rfl rfl ?_)))))))))
 exact .ret (pret results70 (.w isAgg92 sizeOf92 rfl .z rfl .n) (.refl _) ⟨({ Hi := shr .i64 a0 63, Lo := IntKind.wrap .u64 (a0) } : Wide), rfl, hd⟩)

theorem W_cmp_isNaN_int64 {I : IH} {a0 : Int}  {Q : Bool → Prop}  (hd : cmp_isNaN_int64 a0 Q) :
    PFun Try.prog 101 [.int .i64 a0] I (fun I_ v => ∃ r, v = .bool r ∧ Q r) := by
 refine Fun.enter func101 rfl ntmps101 rfl (.c .n) fun w0 M => ?_
 refine .seq (.region (.skips 1 rfl (.nilS [0] rfl rfl (.seq (.region (.skips 2 rfl (.ne rfl rfl rfl rfl (.skips 1 rfl (.nilS [2] rfl rfl ?_)))))))))
 exact .ret (pret results101 (.t rfl .n) (.refl _) ⟨(a0 != a0), rfl, hd⟩)

theorem W_cmp_Compare_int64 {I : IH} {a0 : Int} {a1 : Int}  {Q : Int → Prop}  (hd : cmp_Compare_int64 a0 a1 Q) :
    PFun Try.prog 99 [.int .i64 a0, .int .i64 a1] I (fun I_ v => ∃ r, v = .int .i64 r ∧ Q r) := by
 refine Fun.enter func99 rfl ntmps99 rfl (.c (.c .n)) fun w0 M => ?_
 refine .seq (.region (.skips 1 rfl (.nilS [1, 0] rfl rfl (.seq (.region (.skips 1 rfl ?_))))))
 have hw6 := W_cmp_isNaN_int64 (I := I) hd
 refine .callP call101 rfl hw6 rfl rfl fun v7 hv8 => ?_
 obtain ⟨r5, rfl, hd⟩ := hv8
 refine .skips 1 rfl (.nilS [5, 1, 0] rfl rfl (.seq (.region (.skips 1 rfl ?_))))
 have hw14 := W_cmp_isNaN_int64 (I := I) hd
 refine .callP call101 rfl hw14 rfl rfl fun v15 hv16 => ?_
 obtain ⟨r13, rfl, hd⟩ := hv16
 refine .skips 1 rfl (.nilS [6, 5, 1, 0] rfl rfl (.seq (.seq (.region (.skips 1 rfl (.nilS [11, 6, 1, 0] rfl rfl (.condP rfl hd (fun hb19 hd => ?_) fun hb19 hd => ?_)))))))
 · refine .seq (.seq (.region (.skips 1 rfl (.nilS [12] rfl rfl (.condP rfl hd (fun hb20 hd => ?_) fun hb20 hd => ?_)))))
   · exact .seq (.region (.skips 1 rfl (.nilS [4] rfl rfl (.ret (pret results99 (.t rfl .n) (.refl _) ⟨0, rfl, hd⟩)))))
   exact .skipS [] rfl rfl (.seq (.region (.skips 1 rfl (.nilS [4] rfl rfl (.ret (pret results99 (.t rfl .n) (.refl _) ⟨(-1), rfl, hd⟩))))))
 refine .skipS [6, 1, 0] rfl rfl (.seq (.seq (.region (.skips 1 rfl (.nilS [13, 1, 0] rfl rfl (.condP rfl hd (fun hb22 hd => ?_) fun hb22 hd => ?_))))))
 · exact .seq (.region (.skips 1 rfl (.nilS [4] rfl rfl (.ret (pret results99 (.t rfl .n) (.refl _) ⟨1, rfl, hd⟩)))))
 refine .skipS [1, 0] rfl rfl (.seq (.seq (.region (.skips 2 rfl (.lt rfl rfl rfl rfl (.nilS [16, 1, 0] rfl rfl (.condP rfl hd (fun hb24 hd => ?_) fun hb24 hd => ?_)))))))
 · exact .seq (.region (.skips 1 rfl (.nilS [4] rfl rfl (.ret (pret results99 (.t rfl .n) (.refl _) ⟨(-1), rfl, hd⟩)))))
 refine .skipS [1, 0] rfl rfl (.seq (.seq (.region (.skips 2 rfl (.gt rfl rfl rfl rfl (.nilS [19] rfl rfl (.condP rfl hd (fun hb25 hd => ?_) fun hb25 hd => ?_)))))))
 · exact .seq (.region (.skips 1 rfl (.nilS [4] rfl rfl (.ret (pret results99 (.t rfl .n) (.refl _) ⟨1, rfl, hd⟩)))))
 exact .skipS [] rfl rfl (.seq (.region (.skips 1 rfl (.nilS [4] rfl rfl (.ret (pret results99 (.t rfl .n) (.refl _) ⟨0, rfl, hd⟩))))))

theorem W_cmp_isNaN_uint64 {I : IH} {a0 : Int}  {Q : Bool → Prop}  (hd : cmp_isNaN_uint64 a0 Q) :
    PFun Try.prog 102 [.int .u64 a0] I (fun I_ v => ∃ r, v = .bool r ∧ Q r) := by
 refine Fun.enter func102 rfl ntmps102 rfl (.c .n) fun w0 M => ?_
 refine .seq (.region (.skips 1 rfl (.nilS [0] rfl rfl (.seq (.region (.skips 2 rfl (.ne rfl rfl rfl rfl (.skips 1 rfl (.nilS [2] rfl rfl ?_)))))))))
 exact .ret (pret results102 (.t rfl .n) (.refl _) ⟨(a0 != a0), rfl, hd⟩)

theorem W_cmp_Compare_uint64 {I : IH} {a0 : Int} {a1 : Int}  {Q : Int → Prop}  (hd : cmp_Compare_uint64 a0 a1 Q) :
    PFun Try.prog 100 [.int .u64 a0, .int .u64 a1] I (fun I_ v => ∃ r, v = .int .i64 r ∧ Q r) := by
 refine Fun.enter func100 rfl ntmps100 rfl (.c (.c .n)) fun w0 M => ?_
 refine .seq (.region (.skips 1 rfl (.nilS [1, 0] rfl rfl (.seq (.region (.skips 1 rfl ?_))))))
 have hw6 := W_cmp_isNaN_uint64 (I := I) hd
 refine .callP call102 rfl hw6 rfl rfl fun v7 hv8 => ?_
 obtain ⟨r5, rfl, hd⟩ := hv8
 refine .skips 1 rfl (.nilS [5, 1, 0] rfl rfl (.seq (.region (.skips 1 rfl ?_))))
 have hw14 := W_cmp_isNaN_uint64 (I := I) hd
 refine .callP call102 rfl hw14 rfl rfl fun v15 hv16 => ?_
 obtain ⟨r13, rfl, hd⟩ := hv16
 refine .skips 1 rfl (.nilS [6, 5, 1, 0] rfl rfl (.seq (.seq (.region (.skips 1 rfl (.nilS [11, 6, 1, 0] rfl rfl (.condP rfl hd (fun hb19 hd => ?_) fun hb19 hd => ?_)))))))
 · refine .seq (.seq (.region (.skips 1 rfl (.nilS [12] rfl rfl (.condP rfl hd (fun hb20 hd => ?_) fun hb20 hd => ?_)))))
   · exact .seq (.region (.skips 1 rfl (.nilS [4] rfl rfl (.ret (pret results100 (.t rfl .n) (.refl _) ⟨0, rfl, hd⟩)))))
   exact .skipS [] rfl rfl (.seq (.region (.skips 1 rfl (.nilS [4] rfl rfl (.ret (pret results100 (.t rfl .n) (.refl _) ⟨(-1), rfl, hd⟩))))))
 refine .skipS [6, 1, 0] rfl rfl (.seq (.seq (.region (.skips 1 rfl (.nilS [13, 1, 0] rfl rfl (.condP rfl hd (fun hb22 hd => ?_) fun hb22 hd => ?_))))))
 · exact .seq (.region (.skips 1 rfl (.nilS [4] rfl rfl (.ret (pret results100 (.t rfl .n) (.refl _) ⟨1, rfl, hd⟩)))))
 refine .skipS [1, 0] rfl rfl (.seq (.seq (.region (.skips 2 rfl (.lt rfl rfl rfl rfl (.nilS [16, 1, 0] rfl rfl (.condP rfl hd (fun hb24 hd => ?_) fun hb24 hd => ?_)))))))
 · exact .seq (.region (.skips 1 rfl (.nilS [4] rfl rfl (.ret (pret results100 (.t rfl .n) (.refl _) ⟨(-1), rfl, hd⟩)))))
 refine .skipS [1, 0] rfl rfl (.seq (.seq (.region (.skips 2 rfl (.gt rfl rfl rfl rfl (.nilS [19] rfl rfl (.condP rfl hd (fun hb25 hd => ?_) fun hb25 hd => ?_)))))))
 · exact .seq (.region (.skips 1 rfl (.nilS [4] rfl rfl (.ret (pret results100 (.t rfl .n) (.refl _) ⟨1, rfl, hd⟩)))))
 exact .skipS [] rfl rfl (.seq (.region (.skips 1 rfl (.nilS [4] rfl rfl (.ret (pret results100 (.t rfl .n) (.refl _) ⟨0, rfl, hd⟩))))))

theorem W_wide_Compare {I : IH} {a0 : Wide} {a1 : Wide}  {Q : Int → Prop}  (hd : wide_Compare a0 a1 Q) :
    PFun Try.prog 96 [.agg (encWide a0).toArray, .agg (encWide a1).toArray] I (fun I_ v => ∃ r, v = .int .i64 r ∧ Q r) := by
 refine Fun.enter func96 rfl ntmps96 rfl (.c (.c .n)) fun w0 M => ?_
 refine .seq (.region (.boxA rfl rfl rfl fun b5 => ?_))
 refine .boxA rfl rfl rfl fun b7 => ?_
 refine .skips 1 rfl (.nilS [3, 2] rfl rfl (.seq (.draw [some 0, some 1, some 2, some 3, some 5, some 6, some 7, some 8, some 4, some 9, some 10, some 11] 12 MX (by kernel_rfl) (by kernel_rfl) (by kernel_rfl) (by kernel_rfl) (by kernel_rfl) (by kernel_rfl) (by kernel_rfl) (fun ex => (pto b7 (.cells #[.int .i64 a1.Hi, .int .u64 a1.Lo] 92 (0, 0))) :: (pto b5 (.cells #[.int .i64 a0.Hi, .int .u64 a0.Lo] 92 (0, 0))) :: ex) (fun _ _ => (.s (.s .z))) rfl (.f [] rfl (by kernel_rfl) rfl rfl (fun ex => .fieldAddr underlying92 rfl sizeOf2 rfl (o := 0) rfl rfl rfl .mk) (.f [0] rfl (by kernel_rfl) rfl rfl (fun ex => .load1 isAgg2 rfl (.s .z) rfl rfl rfl .mk) (.f [] rfl (by kernel_rfl) rfl rfl (fun ex => .fieldAddr underlying92 rfl sizeOf2 rfl (o := 0) rfl rfl rfl .mk) (.f [2] rfl (by kernel_rfl) rfl rfl (fun ex => .load1 isAgg2 rfl .z rfl rfl rfl .mk) (.f [] rfl (by kernel_rfl) rfl rfl (fun ex => .fieldAddr underlying92 rfl sizeOf90 rfl (o := 1) rfl rfl rfl .mk) (.f [5] rfl (by kernel_rfl) rfl rfl (fun ex => .load1 isAgg90 rfl (.s .z) rfl rfl rfl .mk) ?_)))))))))
 refine .f [] rfl (by kernel_rfl) rfl rfl (fun ex => .fieldAddr underlying92 rfl sizeOf90 rfl (o := 1) rfl rfl rfl .mk) (.f [7] rfl (by kernel_rfl) rfl rfl (fun ex => .load1 isAgg90 rfl .z rfl rfl rfl .mk) (.w [8, 7, 6, 5] [[], [3], [], [1]] [1, 3] rfl (by kernel_rfl) (by kernel_rfl) (by kernel_rfl) ((dropE_kept rfl rfl)) (.inr (dropE_kept rfl rfl)) fun ex => ?_))
 have hw10 := W_cmp_Compare_int64 (I := I) hd
 refine .callP call99 rfl hw10 rfl rfl fun v11 hv12 => ?_
 obtain ⟨r9, rfl, hd⟩ := hv12
 refine .some (fun ex => (pto b7 (.cells #[.int .i64 a1.Hi, .int .u64 a1.Lo] 92 (0, 0))) :: (pto b5 (.cells #[.int .i64 a0.Hi, .int .u64 a0.Lo] 92 (0, 0))) :: ex) rfl (fun _ _ => (.s (.s .z))) rfl (.cc [7] rfl (by kernel_rfl) rfl rfl rfl (fun ex => .load1 isAgg90 rfl .z rfl rfl rfl .mk) (.cc [] rfl (by kernel_rfl) rfl rfl rfl (fun ex => .fieldAddr underlying92 rfl sizeOf90 rfl (o := 1) rfl rfl rfl .mk) (.cc [5] rfl (by kernel_rfl) rfl rfl rfl (fun ex => .load1 isAgg90 rfl (.s .z) rfl rfl rfl .mk) (.cc [] rfl (by kernel_rfl) rfl rfl rfl (fun ex => .fieldAddr underlying92 rfl sizeOf90 rfl (o := 1) rfl rfl rfl .mk) trivial)))) (.w [] [[], [8], [], [6]] [6, 8, 4] rfl (by kernel_rfl) (by kernel_rfl) (by kernel_rfl) ((dropE_kept rfl rfl)) (.inr (dropE_kept rfl rfl)) fun ex => ?_)
 have hw14 := W_cmp_Compare_uint64 (I := I) hd
 refine .callP call100 rfl hw14 rfl rfl fun v15 hv16 => ?_
 obtain ⟨r13, rfl, hd⟩ := hv16
 refine .some (fun ex => (pto b7 (.cells #[.int .i64 a1.Hi, .int .u64 a1.Lo] 92 (0, 0))) :: (pto b5 (.cells #[.int .i64 a0.Hi, .int .u64 a0.Lo] 92 (0, 0))) :: ex) rfl (fun _ _ => (.s (.s .z))) rfl trivial (.w [] [] [4, 9] rfl (by kernel_rfl) (by kernel_rfl) (by kernel_rfl) ((dropE_kept rfl rfl)) (.inr (dropE_kept rfl rfl)) fun ex => ?_)
 refine .buildSlice 2 underlying24 sizeOf3 zeroValue3 rfl rfl (.c rfl rfl rfl (.c rfl rfl rfl .n)) rfl rfl fun b17 => ?_
 refine .some (fun ex => (pto b17 (.cells #[.int .i64 r9, .int .i64 r13] 3 (0, 0))) :: (pto b7 (.cells #[.int .i64 a1.Hi, .int .u64 a1.Lo] 92 (0, 0))) :: (pto b5 (.cells #[.int .i64 a0.Hi, .int .u64 a0.Lo] 92 (0, 0))) :: ex) rfl (fun _ _ => (.s (.s (.s .z)))) rfl trivial (.w [] [] [10, 9] rfl (by kernel_rfl) (by kernel_rfl) (by kernel_rfl) ((dropE_kept rfl rfl)) (.inr (dropE_kept rfl rfl)) fun ex => ?_)
 refine .pubB (El := eI64) (ys := ([r9, r13] : List Int)) (k := 2) .z (RepCs.cons (cs := [.int .i64 r9]) rfl (RepCs.cons (cs := [.int .i64 r13]) rfl .nil)) rfl fun I19 hl20 R21 => ?_
 have le22 := IH.le.trans (.refl _) hl20
 have hw24 := W_cmp_Or_int (I := I19) R21 hd
 refine .callP call67 rfl hw24 rfl rfl fun v25 hv26 => ?_
 obtain ⟨r23, rfl, hd⟩ := hv26
 exact .some (fun ex => (pto b7 (.cells #[.int .i64 a1.Hi, .int .u64 a1.Lo] 92 (0, 0))) :: (pto b5 (.cells #[.int .i64 a0.Hi, .int .u64 a0.Lo] 92 (0, 0))) :: ex) rfl (fun _ _ => (.s (.s .z))) rfl trivial (.e 12 (by kernel_rfl) (by kernel_rfl) (by kernel_rfl) (.skips 1 rfl (.nilS [4] rfl rfl (.drop .z (.drop .z (.ret (pret results96 (.t rfl .n) le22 ⟨r23, rfl, hd⟩)))))))

theorem W_ring_lesser {I : IH} {a0 : Wide} {a1 : Wide}  {Q : Wide → Prop}  (hd : ring_lesser a0 a1 Q) :
    PFun Try.prog 87 [.agg (encWide a0).toArray, .agg (encWide a1).toArray] I (fun I_ v => ∃ r, v = .agg (encWide r).toArray ∧ Q r) := by
 refine Fun.enter func87 rfl ntmps87 rfl (.c (.c .n)) fun w0 M => ?_
 refine .seq (.region (.boxA rfl rfl rfl fun b7 => ?_))
 refine .boxA rfl rfl rfl fun b9 => ?_
 refine .allocA zeroValue92 rfl rfl fun b11 => ?_
 refine .nilS [4, 3, 2] rfl rfl (.seq (.seq (.region (.loadW isAgg92 sizeOf92 rfl (.s (.s .z)) rfl rfl rfl (.loadW isAgg92 sizeOf92 rfl (.s .z) rfl rfl rfl ?_)))))
 have hw14 := W_wide_Compare (I := I) hd
 refine .callP call96 rfl hw14 rfl rfl fun v15 hv16 => ?_
 obtain ⟨r13, rfl, hd⟩ := hv16
 refine .le' rfl rfl rfl rfl (.nilS [8, 4, 3, 2] rfl rfl (.condP rfl hd (fun hb17 hd => ?_) fun hb17 hd => ?_))
 · exact .seq (.region (.loadW isAgg92 sizeOf92 rfl (.s (.s .z)) rfl rfl rfl (.storeA sizeOf92 rfl rfl .z (.t (.t .nil)) rfl rfl (.nilS [4] rfl rfl (.drop (.s .z) (.drop (.s .z) (.ret (pret results87 (.w isAgg92 sizeOf92 rfl .z rfl .n) (.refl _) ⟨a0, rfl, hd⟩))))))))
 exact .skipS [4, 3] rfl rfl (.drop (.s (.s .z)) (.seq (.region (.loadW isAgg92 sizeOf92 rfl (.s .z) rfl rfl rfl (.storeA sizeOf92 rfl rfl .z (.t (.t .nil)) rfl rfl (.nilS [4] rfl rfl (.drop (.s .z) (.ret (pret results87 (.w isAgg92 sizeOf92 rfl .z rfl .n) (.refl _) ⟨a1, rfl, hd⟩)))))))))

theorem W_ring_truth {I : IH} {a0 : Bool}  {Q : Wide → Prop}  (hd : ring_truth a0 Q) :
    PFun Try.prog 88 [.bool a0] I (fun I_ v => ∃ r, v = .agg (encWide r).toArray ∧ Q r) := by
 refine Fun.enter func88 rfl ntmps88 rfl (.c .n) fun w0 M => ?_
 refine .seq (.region (.allocA zeroValue92 rfl rfl fun b3 => ?_))
 refine .nilS [2, 0] rfl rfl (.seq (.seq (.region (.skips 1 rfl (.nilS [3, 2] rfl rfl (.condP rfl hd (fun hb5 hd => ?_) fun hb5 hd => ?_))))))
 · refine .seq (.region ?_)
   have hw7 := W_wide_Of (I := I) hd
   refine .callP call70 rfl hw7 rfl rfl fun v8 hv9 => ?_
   obtain ⟨r6, rfl, hd⟩ := hv9
   exact .storeA sizeOf92 rfl rfl .z (.t (.t .nil)) rfl rfl (.nilS [2] rfl rfl (.ret (pret results88 (.w isAgg92 sizeOf92 rfl .z rfl .n) (.refl _) ⟨r6, rfl, hd⟩)))
 exact .skipS [2] rfl rfl (.seq (.region (.build zeroValue92 underlying92 BI92 .n (by exact trivial) rfl rfl (.storeA sizeOf92 rfl rfl .z (.t (.t .nil)) rfl rfl (.nilS [2] rfl rfl (.ret (pret results88 (.w isAgg92 sizeOf92 rfl .z rfl .n) (.refl _) ⟨({ Hi := 0, Lo := 0 } : Wide), rfl, hd⟩)))))))

theorem W_wide_carry {I : IH} {a0 : Bool}  {Q : Int → Prop}  (hd : wide_carry a0 Q) :
    PFun Try.prog 97 [.bool a0] I (fun I_ v => ∃ r, v = .int .u64 r ∧ Q r) := by
 refine Fun.enter func97 rfl ntmps97 rfl (.c .n) fun w0 M => ?_
 refine .seq (.region (.skips 1 rfl (.nilS [0] rfl rfl (.seq (.seq (.region (.skips 1 rfl (.nilS [3] rfl rfl (.condP rfl hd (fun hb1 hd => ?_) fun hb1 hd => ?_)))))))))
 · exact .seq (.region (.skips 1 rfl (.nilS [2] rfl rfl (.ret (pret results97 (.t rfl .n) (.refl _) ⟨1, rfl, hd⟩)))))
 exact .skipS [] rfl rfl (.seq (.region (.skips 1 rfl (.nilS [2] rfl rfl (.ret (pret results97 (.t rfl .n) (.refl _) ⟨0, rfl, hd⟩))))))

theorem W_wide_Add {I : IH} {a0 : Wide} {a1 : Wide}  {Q : Wide → Prop}  (hd : wide_Add a0 a1 Q) :
    PFun Try.prog 89 [.agg (encWide a0).toArray, .agg (encWide a1).toArray] I (fun I_ v => ∃ r, v = .agg (encWide r).toArray ∧ Q r) := by
 refine Fun.enter func89 rfl ntmps89 rfl (.c (.c .n)) fun w0 M => ?_
 refine .seq (.region (.boxA rfl rfl rfl fun b7 => ?_))
 refine .boxA rfl rfl rfl fun b9 => ?_
 refine .allocA zeroValue92 rfl rfl fun b11 => ?_
 refine .nilS [4, 3, 2] rfl rfl (.seq (.region (.fieldAddr underlying92 rfl sizeOf90 rfl (o := 1) rfl rfl rfl (.load1 isAgg90 rfl (.s (.s .z)) rfl rfl rfl (.fieldAddr underlying92 rfl sizeOf90 rfl (o := 1) rfl rfl rfl (.load1 isAgg90 rfl (.s .z) rfl rfl rfl (.add rfl rfl rfl rfl (.skips 1 rfl (.nilS [5, 4, 3, 2] rfl rfl ?_)))))))))
 refine .seq (.draw [some 0, some 1, some 2, some 3, some 4, some 5, some 6, some 7, some 8, some 9, some 10, some 14, some 11, some 12, some 13, some 15] 16 MX (by kernel_rfl) (by kernel_rfl) (by kernel_rfl) (by kernel_rfl) (by kernel_rfl) (by kernel_rfl) (by kernel_rfl) (fun ex => (pto b11 (.cells #[.int .i64 0, .int .u64 0] 92 (0, 0))) :: (pto b9 (.cells #[.int .i64 a1.Hi, .int .u64 a1.Lo] 92 (0, 0))) :: (pto b7 (.cells #[.int .i64 a0.Hi, .int .u64 a0.Lo] 92 (0, 0))) :: ex) (fun _ _ => (.s (.s (.s .z)))) rfl (.f [] rfl (by kernel_rfl) rfl rfl (fun ex => .fieldAddr underlying92 rfl sizeOf2 rfl (o := 0) rfl rfl rfl .mk) (.f [0] rfl (by kernel_rfl) rfl rfl (fun ex => .load1 isAgg2 rfl (.s (.s .z)) rfl rfl rfl .mk) (.f [1] rfl (by kernel_rfl) rfl rfl (fun ex => .conv underlying2 underlying90 rfl rfl rfl .mk) (.f [] rfl (by kernel_rfl) rfl rfl (fun ex => .fieldAddr underlying92 rfl sizeOf2 rfl (o := 0) rfl rfl rfl .mk) (.f [3] rfl (by kernel_rfl) rfl rfl (fun ex => .load1 isAgg2 rfl (.s .z) rfl rfl rfl .mk) (.f [4] rfl (by kernel_rfl) rfl rfl (fun ex => .conv underlying2 underlying90 rfl rfl rfl .mk) (.f [2, 5] rfl (by kernel_rfl) rfl rfl (fun ex => .add rfl rfl rfl rfl .mk) (.fs [[]] rfl (by kernel_rfl) ?_)))))))))
 refine .f [] rfl (by kernel_rfl) rfl rfl (fun ex => .fieldAddr underlying92 rfl sizeOf90 rfl (o := 1) rfl rfl rfl .mk) (.f [8] rfl (by kernel_rfl) rfl rfl (fun ex => .load1 isAgg90 rfl (.s .z) rfl rfl rfl .mk) (.f [7, 9] rfl (by kernel_rfl) rfl rfl (fun ex => .lt rfl rfl rfl rfl .mk) (.fs [[]] rfl (by kernel_rfl) (.w [14, 6, 5, 4, 3, 2, 1, 0] [[], [10], [9, 10], [10]] [10] rfl (by kernel_rfl) (by kernel_rfl) (by kernel_rfl) ((dropE_kept rfl rfl)) (.inr (dropE_kept rfl rfl)) fun ex => ?_))))
 have hw14 := W_wide_carry (I := I) hd
 refine .callP call97 rfl hw14 rfl rfl fun v15 hv16 => ?_
 obtain ⟨r13, rfl, hd⟩ := hv16
 exact .some (fun ex => (pto b11 (.cells #[.int .i64 0, .int .u64 0] 92 (0, 0))) :: (pto b9 (.cells #[.int .i64 a1.Hi, .int .u64 a1.Lo] 92 (0, 0))) :: (pto b7 (.cells #[.int .i64 a0.Hi, .int .u64 a0.Lo] 92 (0, 0))) :: ex) rfl (fun _ _ => (.s (.s (.s .z)))) rfl (.ccs [[]] rfl rfl (by kernel_rfl) (.cc [2, 5] rfl (by kernel_rfl) rfl rfl rfl (fun ex => .add rfl rfl rfl rfl .mk) (.cc [4] rfl (by kernel_rfl) rfl rfl rfl (fun ex => .conv underlying2 underlying90 rfl rfl rfl .mk) (.cc [3] rfl (by kernel_rfl) rfl rfl rfl (fun ex => .load1 isAgg2 rfl (.s .z) rfl rfl rfl .mk) (.cc [] rfl (by kernel_rfl) rfl rfl rfl (fun ex => .fieldAddr underlying92 rfl sizeOf2 rfl (o := 0) rfl rfl rfl .mk) (.cc [1] rfl (by kernel_rfl) rfl rfl rfl (fun ex => .conv underlying2 underlying90 rfl rfl rfl .mk) (.cc [0] rfl (by kernel_rfl) rfl rfl rfl (fun ex => .load1 isAgg2 rfl (.s (.s .z)) rfl rfl rfl .mk) (.cc [] rfl (by kernel_rfl) rfl rfl rfl (fun ex => .fieldAddr underlying92 rfl sizeOf2 rfl (o := 0) rfl rfl rfl .mk) trivial)))))))) (.f [6, 11] rfl (by kernel_rfl) rfl rfl (fun ex => .add rfl rfl rfl rfl .mk) (.f [12] rfl (by kernel_rfl) rfl rfl (fun ex => .conv underlying90 underlying2 rfl rfl rfl .mk) (.f [13, 14] rfl (by kernel_rfl) rfl rfl (fun ex => .build zeroValue92 underlying92 BI92 (.c rfl rfl rfl (.t .nil) (.c rfl rfl rfl (.s (.t .nil)) .n)) (by exact ⟨⟨_, _, rfl, rfl, rfl⟩, ⟨⟨_, _, rfl, rfl, rfl⟩, trivial⟩⟩) rfl rfl .mk) (.e 16 (by kernel_rfl) (by kernel_rfl) (by kernel_rfl) (.storeA sizeOf92 rfl rfl .z (.t (.t .nil)) rfl rfl (.nilS [4] rfl rfl (.drop (.s .z) (.drop (.s .z) (.ret (pret results89 (.w isAgg92 sizeOf92 rfl .z rfl .n) (.refl _) ⟨({ Hi := w64 (IntKind.wrap .u64 ((IntKind.wrap .u64 ((IntKind.wrap .u64 (a0.Hi)) + (IntKind.wrap .u64 (a1.Hi)))) + r13)), Lo := IntKind.wrap .u64 (a0.Lo + a1.Lo) } : Wide), rfl, hd⟩))))))))))

theorem W_ring_Add {I : IH} {a0 : Int} {a1 : Wide} {a2 : Wide}  {Q : Wide → Prop}  (hd : ring_Add a0 a1 a2 Q) :
    PFun Try.prog 71 [.int .i64 a0, .agg (encWide a1).toArray, .agg (encWide a2).toArray] I (fun I_ v => ∃ r, v = .agg (encWide r).toArray ∧ Q r) := by
 refine Fun.enter func71 rfl ntmps71 rfl (.c (.c (.c .n))) fun w0 M => ?_
 refine .seq (.region (.boxA rfl rfl rfl fun b7 => ?_))
 refine .boxA rfl rfl rfl fun b9 => ?_
 refine .allocA zeroValue92 rfl rfl fun b11 => ?_
 refine .nilS [6, 5, 4, 0] rfl rfl (.seq (.seq (.region (.skips 1 rfl (.nilS [7, 6, 5, 4] rfl rfl (.block (.seq ?_)))))))
 refine Cod.joinQ (σ := Bool) hd (fun (s17 : Bool) c w => ∃ I_, IH.le I I_ ∧ Ok ⟨32, [], none⟩ [(4, .pointer (some ⟨b7, 0, none⟩)), (5, .pointer (some ⟨b9, 0, none⟩)), (6, .pointer (some ⟨b11, 0, none⟩)), (7, .int .i64 a0), (8, .bool s17)] c ∧ Sym w0 M I I_ [pto b7 (.cells #[.int .i64 a1.Hi, .int .u64 a1.Lo] 92 (0, 0)), pto b9 (.cells #[.int .i64 a2.Hi, .int .u64 a2.Lo] 92 (0, 0)), pto b11 (.cells #[.int .i64 0, .int .u64 0] 92 (0, 0))] w) (fun k18 hd => ?_) ?_
 · skip
   refine .seq (.region (.eq rfl rfl rfl rfl (.skips 1 rfl (.nilS [8, 7, 6, 5, 4] rfl rfl (.condP rfl hd (fun hb19 hd => ?_) fun hb19 hd => ?_)))))
   · exact .skip' fun c w ho hs => ⟨(a0 == 1), hd, I, (.refl _), ho.sub ⟨rfl, rfl, rfl, rfl, rfl, trivial⟩, hs.pick (.c (.s (.s .z)) (.c (.s .z) (.c .z .n)))⟩
   refine .seq (.region (.eq rfl rfl rfl rfl (.sub (E' := [(4, _), (5, _), (6, _), (7, _), (10, _)]) ⟨rfl, rfl, rfl, rfl, rfl, trivial⟩ (.skips 1 rfl (.nilS [8, 7, 6, 5, 4] rfl rfl (.condP rfl hd (fun hb20 hd => ?_) fun hb20 hd => ?_))))))
   · exact .skip' fun c w ho hs => ⟨(a0 == 3), hd, I, (.refl _), ho.sub ⟨rfl, rfl, rfl, rfl, rfl, trivial⟩, hs.pick (.c (.s (.s .z)) (.c (.s .z) (.c .z .n)))⟩
   exact .region (.eq rfl rfl rfl rfl (.sub (E' := [(4, _), (5, _), (6, _), (7, _), (11, _)]) ⟨rfl, rfl, rfl, rfl, rfl, trivial⟩ (.skips 1 rfl (.nil' fun c w ho hs => ⟨(a0 == 4), hd, I, (.refl _), ho.sub ⟨rfl, rfl, rfl, rfl, rfl, trivial⟩, hs.pick (.c (.s (.s .z)) (.c (.s .z) (.c .z .n)))⟩))))
 rintro s17 hd c w hst
 obtain ⟨I21, hl22, hok, hsym⟩ := hst
 have le23 := IH.le.trans (.refl _) hl22
 refine Cod.at hok hsym (.condP rfl hd (fun hb24 hd => ?_) fun hb24 hd => ?_)
 · refine .seq (.region (.loadW isAgg92 sizeOf92 rfl .z rfl rfl rfl (.loadW isAgg92 sizeOf92 rfl (.s .z) rfl rfl rfl ?_)))
   have hw26 := W_ring_lesser (I := I21) hd
   refine .callP call87 rfl hw26 rfl rfl fun v27 hv28 => ?_
   obtain ⟨r25, rfl, hd⟩ := hv28
   exact .storeA sizeOf92 rfl rfl (.s (.s .z)) (.t (.t .nil)) rfl rfl (.nilS [6] rfl rfl (.drop .z (.drop .z (.ret (pret results71 (.w isAgg92 sizeOf92 rfl .z rfl .n) le23 ⟨r25, rfl, hd⟩)))))
 refine .seq (.region (.eq rfl rfl rfl rfl (.skips 1 rfl (.nilS [15, 7, 6, 5, 4] rfl rfl (.condP rfl hd (fun hb29 hd => ?_) fun hb29 hd => ?_)))))
 · refine .seq (.region (.loadW isAgg92 sizeOf92 rfl .z rfl rfl rfl (.loadW isAgg92 sizeOf92 rfl (.s .z) rfl rfl rfl (.neV rfl rfl (EQ92 a1 a2) (EG92 _ _ _ _ _) rfl rfl rfl (.skips 1 rfl ?_)))))
   refine splitP hd (fun hb30 hd => ?_) fun hb30 hd => ?_
   · rw [hb30]
     refine .skips 4 rfl ?_
     have hw32 := W_ring_truth (I := I21) hd
     refine .callP call88 rfl hw32 rfl rfl fun v33 hv34 => ?_
     obtain ⟨r31, rfl, hd⟩ := hv34
     exact .storeA sizeOf92 rfl rfl (.s (.s .z)) (.t (.t .nil)) rfl rfl (.nilS [6] rfl rfl (.drop .z (.drop .z (.ret (pret results71 (.w isAgg92 sizeOf92 rfl .z rfl .n) le23 ⟨r31, rfl, hd⟩)))))
   rw [hb30]
   refine .gyes rfl rfl rfl (.loadW isAgg92 sizeOf92 rfl .z rfl rfl rfl (.gyes rfl rfl rfl (.build zeroValue92 underlying92 BI92 .n (by exact trivial) rfl rfl (.gyes rfl rfl rfl (.neV rfl rfl (EQ92 a1 ({ Hi := 0, Lo := 0 } : Wide)) (EG92 _ _ _ _ _) rfl rfl rfl (.skips 1 rfl ?_))))))
   have hw36 := W_ring_truth (I := I21) hd
   refine .callP call88 rfl hw36 rfl rfl fun v37 hv38 => ?_
   obtain ⟨r35, rfl, hd⟩ := hv38
   exact .storeA sizeOf92 rfl rfl (.s (.s .z)) (.t (.t .nil)) rfl rfl (.nilS [6] rfl rfl (.drop .z (.drop .z (.ret (pret results71 (.w isAgg92 sizeOf92 rfl .z rfl .n) le23 ⟨r35, rfl, hd⟩)))))
 refine .seq (.region (.eq rfl rfl rfl rfl (.skips 1 rfl (.nilS [26, 6, 5, 4] rfl rfl (.condP rfl hd (fun hb39 hd => ?_) fun hb39 hd => ?_)))))
 · refine .seq (.region (.loadW isAgg92 sizeOf92 rfl .z rfl rfl rfl (.loadW isAgg92 sizeOf92 rfl (.s .z) rfl rfl rfl ?_)))
   have hw41 := W_wide_Add (I := I21) hd
   refine .callP call89 rfl hw41 rfl rfl fun v42 hv43 => ?_
   obtain ⟨r40, rfl, hd⟩ := hv43
   exact .storeA sizeOf92 rfl rfl (.s (.s .z)) (.t (.t .nil)) rfl rfl (.nilS [6] rfl rfl (.drop .z (.drop .z (.ret (pret results71 (.w isAgg92 sizeOf92 rfl .z rfl .n) le23 ⟨r40, rfl, hd⟩)))))
 exact .skipS [6] rfl rfl (.drop .z (.drop .z (.seq (.region (.build zeroValue92 underlying92 BI92 .n (by exact trivial) rfl rfl (.storeA sizeOf92 rfl rfl .z (.t (.t .nil)) rfl rfl (.nilS [6] rfl rfl (.ret (pret results71 (.w isAgg92 sizeOf92 rfl .z rfl .n) le23 ⟨({ Hi := 0, Lo := 0 } : Wide), rfl, hd⟩)))))))))

theorem W_wide_Narrow {I : IH} {a0 : Wide}  {Q : (Int × Bool) → Prop}  (hd : wide_Narrow a0 Q) :
    PFun Try.prog 90 [.agg (encWide a0).toArray] I (fun I_ v => ∃ r, v = .tuple #[.int .i64 r.1, .bool r.2] ∧ Q r) := by
 refine Fun.enter func90 rfl ntmps90 rfl (.c .n) fun w0 M => ?_
 refine .seq (.region (.boxA rfl rfl rfl fun b3 => ?_))
 refine .skips 2 rfl (.nilS [1] rfl rfl (.seq (.region (.fieldAddr underlying92 rfl sizeOf90 rfl (o := 1) rfl rfl rfl (.load1 isAgg90 rfl .z rfl rfl rfl (.conv underlying90 underlying2 rfl rfl rfl (.skips 1 rfl (.nilS [4, 1] rfl rfl (.seq ?_)))))))))
 refine .seq (.draw [some 0, some 2, some 1, some 3] 4 MX (by kernel_rfl) (by kernel_rfl) (by kernel_rfl) (by kernel_rfl) (by kernel_rfl) (by kernel_rfl) (by kernel_rfl) (fun ex => (pto b3 (.cells #[.int .i64 a0.Hi, .int .u64 a0.Lo] 92 (0, 0))) :: ex) (fun _ _ => (.s .z)) rfl (.fs [[]] rfl (by kernel_rfl) (.f [] rfl (by kernel_rfl) rfl rfl (fun ex => .loadW isAgg92 sizeOf92 rfl .z rfl rfl rfl .mk) (.w [2] [[]] [0] rfl (by kernel_rfl) (by kernel_rfl) (by kernel_rfl) ((dropE_kept rfl rfl)) (.inr (dropE_kept rfl rfl)) fun ex => ?_))))
 have hw6 := W_wide_Of (I := I) hd
 refine .callP call70 rfl hw6 rfl rfl fun v7 hv8 => ?_
 obtain ⟨r5, rfl, hd⟩ := hv8
 refine .some (fun ex => (pto b3 (.cells #[.int .i64 a0.Hi, .int .u64 a0.Lo] 92 (0, 0))) :: ex) rfl (fun _ _ => (.s .z)) rfl (.cc [] rfl (by kernel_rfl) rfl rfl rfl (fun ex => .loadW isAgg92 sizeOf92 rfl .z rfl rfl rfl .mk) trivial) (.f [1, 2] rfl (by kernel_rfl) rfl rfl (fun ex => .neV rfl rfl (EQ92 r5 a0) (EG92 _ _ _ _ _) rfl rfl rfl .mk) (.e 4 (by kernel_rfl) (by kernel_rfl) (by kernel_rfl) (.nilS [11, 4] rfl rfl (.drop .z (.condP rfl hd (fun hb9 hd => ?_) fun hb9 hd => ?_)))))
 · exact .seq (.region (.skips 2 rfl (.nilS [3, 2] rfl rfl (.ret (pret results90 (.t rfl (.t rfl .n)) (.refl _) ⟨(0, false), rfl, hd⟩)))))
 exact .skipS [4] rfl rfl (.seq (.region (.skips 3 rfl (.nilS [3, 2] rfl rfl (.ret (pret results90 (.t rfl (.t rfl .n)) (.refl _) ⟨(w64 (a0.Lo), true), rfl, hd⟩))))))

theorem W_ring_Narrow {I : IH} {a0 : Int} {a1 : Wide}  {Q : (Int × Bool) → Prop}  (hd : ring_Narrow a0 a1 Q) :
    PFun Try.prog 72 [.int .i64 a0, .agg (encWide a1).toArray] I (fun I_ v => ∃ r, v = .tuple #[.int .i64 r.1, .bool r.2] ∧ Q r) := by
 refine Fun.enter func72 rfl ntmps72 rfl (.c (.c .n)) fun w0 M => ?_
 refine .seq (.region (.boxA rfl rfl rfl fun b1 => ?_))
 refine .skips 2 rfl (.nilS [3] rfl rfl (.seq (.region (.loadW isAgg92 sizeOf92 rfl .z rfl rfl rfl ?_))))
 have hw4 := W_wide_Narrow (I := I) hd
 refine .callP call90 rfl hw4 rfl rfl fun v5 hv6 => ?_
 obtain ⟨r3, rfl, hd⟩ := hv6
 exact .extract rfl rfl rfl rfl (.extract rfl rfl rfl rfl (.skips 2 rfl (.nilS [5, 4] rfl rfl (.drop .z (.ret (pret results72 (.t rfl (.t rfl .n)) (.refl _) ⟨(r3.1, r3.2), rfl, hd⟩))))))

end Go.Proofs.Ytjobeiikppmidaa
