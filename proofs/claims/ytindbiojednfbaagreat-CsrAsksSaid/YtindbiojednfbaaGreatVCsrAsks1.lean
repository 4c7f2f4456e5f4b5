/- The walks (printed by a program of ours). -/
import Derived.Test.YtindbiojednfbaaGreatV2
namespace Go.Proofs.YtindbiojednfbaaGreat
open Go Go.Fw
set_option linter.unusedVariables false
set_option linter.unusedSimpArgs false
set_option maxRecDepth 8000
set_option maxHeartbeats 1000000
theorem W_ref07_Empty {I : IH} {a0 : Int} {a1 : Int}  {Q : Rows → Prop}  (hd : ref07_Empty a0 a1 Q) :
    OFun Tryz.prog 60 [.int .i64 a0, .int .i64 a1] I (fun I_ v l => ∃ r p1 c2 p4 c5 p7 c8, v = .agg #[.int .i64 r.Rows, .int .i64 r.Cols, .slice p1 r.Start.length c2, .slice p4 r.Col.length c5, .slice p7 r.Val.length c8] ∧ l = [OwnSl eI64 3 p1 c2 r.Start, OwnSl eI64 3 p4 c5 r.Col, OwnSl eI64 2 p7 c8 r.Val] ∧ Q r) := by
  refine Fun.enter Tryz.func60 rfl Tryz.ntmps60 rfl (.c (.c .n)) fun w0 M => ?_
  refine .seq ?_
  refine .region ?_
  refine .allocA Tryz.zeroValue29 rfl rfl fun b10 => ?_
  refine .nil' fun c w ho hs => Cod.at (E := [(0, _), (1, _), (4, _)]) (ho.sub ⟨rfl, rfl, rfl, trivial⟩) hs ?_
  refine .seq ?_
  refine .region ?_
  refine .skips 3 rfl ?_
  refine .add rfl rfl rfl rfl ?_
  obtain ⟨h12, h13, hd⟩ := hd
  refine .make (El := eI64) (zv := 0) 8 Tryz.underlying26 IN3 rfl rfl rfl rfl rfl rfl h12 h13 rfl rfl rfl fun b14 => ?_
  refine .build Tryz.zeroValue29 Tryz.underlying29 BI29 (.c rfl rfl rfl (.t .nil) (.c rfl rfl rfl (.s (.t .nil)) (.c rfl rfl rfl (.s (.s (.t .nil))) .n))) (by exact ⟨⟨_, _, rfl, rfl, rfl⟩, ⟨⟨_, _, rfl, rfl, rfl⟩, ⟨⟨_, _, rfl, rfl, rfl⟩, trivial⟩⟩⟩) rfl rfl ?_
  refine .storeA Tryz.sizeOf29 rfl rfl (.s .z) (.t (.t (.t (.t (.t .nil))))) rfl rfl ?_
  refine .nil' fun c w ho hs => Cod.at (E := [(4, _)]) (ho.sub ⟨rfl, trivial⟩) hs ?_
  refine .own0 eI64 3 ?_
  refine .own0 eI64 2 ?_
  exact .ret (oret Tryz.results60 (.w Tryz.isAgg29 Tryz.sizeOf29 rfl (.s (.s (.s .z))) rfl .n) (.refl _) (.c (.s (.s .z)) (.c (.s .z) (.c .z .n))) ⟨({ Rows := a0, Cols := a1, Start := (List.replicate (w64 (a0 + 1)).toNat 0), Col := ([] : List Int), Val := ([] : List Int) } : Rows), _, _, _, _, _, _, rfl, rfl, hd⟩)

theorem W_ref07_built {I : IH} {a0 : Int} {a1 : Int} {a2 : List Triple} {p1 : Option Addr} {c2 : Nat} {Q : Rows → Prop} (R3 : RepSl eTriple I p1 c2 a2) (hd : ref07_built a0 a1 a2 Q) :
    PFun Tryz.prog 44 [.int .i64 a0, .int .i64 a1, .slice p1 a2.length c2] I (fun I_ v => ∃ r p4 c5 p7 c8 p10 c11, v = .agg #[.int .i64 r.Rows, .int .i64 r.Cols, .slice p4 r.Start.length c5, .slice p7 r.Col.length c8, .slice p10 r.Val.length c11] ∧ RepSl eI64 I_ p4 c5 r.Start ∧ RepSl eI64 I_ p7 c8 r.Col ∧ RepSl eI64 I_ p10 c11 r.Val ∧ Q r) := by
  refine Fun.enter Tryz.func44 rfl Tryz.ntmps44 rfl (.c (.c (.c .n))) fun w0 M => ?_
  refine .seq ?_
  refine .region ?_
  refine .allocA Tryz.zeroValue29 rfl rfl fun b15 => ?_
  refine .nil' fun c w ho hs => Cod.at (E := [(0, _), (1, _), (2, _), (6, _)]) (ho.sub ⟨rfl, rfl, rfl, rfl, trivial⟩) hs ?_
  refine .seq ?_
  refine .region ?_
  refine .skips 2 rfl ?_
  have hw57 := W_ref07_Empty (I := I) hd
  refine .callO Tryz.call60 rfl hw57 rfl rfl fun v43 I40 l44 hl41 hv42 => ?_
  obtain ⟨r39, p45, c46, p48, c49, p51, c52, rfl, rfl, hd⟩ := hv42
  have le58 := IH.le.trans (.refl _) hl41
  replace R3 := R3.mono hl41
  refine .allocA Tryz.zeroValue29 rfl rfl fun b59 => ?_
  refine .storeA Tryz.sizeOf29 rfl rfl .z (.t (.t (.t (.t (.t .nil))))) rfl rfl ?_
  refine .nil' fun c w ho hs => Cod.at (E := [(0, _), (2, _), (6, _), (7, _)]) (ho.sub ⟨rfl, rfl, rfl, rfl, trivial⟩) hs ?_
  refine .seq ?_
  refine .seq ?_
  refine .region ?_
  refine .skips 1 rfl ?_
  refine .nil' fun c w ho hs => Cod.at (E := [(0, _), (2, _), (6, _), (7, _), (8, _)]) (ho.sub ⟨rfl, rfl, rfl, rfl, rfl, trivial⟩) hs ?_
  refine .block ?_
  refine .loop hd (fun (s : (List Int) × (List Int) × (List Int) × Int) c w => match s with | (s394, s398, s402, s406) => ∃ I_ p395 c396 p399 c400 p403 c404, IH.le I40 I_ ∧ Ok 58 [(0, .int .i64 a0), (2, .slice p1 a2.length c2), (6, .pointer (some ⟨b15, 0, none⟩)), (7, .pointer (some ⟨b59, 0, none⟩)), (8, .int .i64 s406)] c ∧ Sym w0 M I I_ [pto b15 (.cells #[.int .i64 0, .int .i64 0, .slice none 0 0, .slice none 0 0, .slice none 0 0] 29 (0, 0)), pto b59 (.cells #[.int .i64 r39.Rows, .int .i64 r39.Cols, .slice p395 s394.length c396, .slice p399 s398.length c400, .slice p403 s402.length c404] 29 (0, 0)), OwnSl eI64 3 p395 c396 s394, OwnSl eI64 3 p399 c400 s398, OwnSl eI64 2 p403 c404 s402] w) (fun c w ho hs => ⟨I40, _, _, _, _, _, _, (.refl _), ho.sub ⟨rfl, rfl, rfl, rfl, rfl, trivial⟩, hs.pick (.c (.s (.s (.s (.s .z)))) (.c .z (.c .z (.c .z (.c .z .n)))))⟩) ?_
  rintro ⟨s394, s398, s402, s406⟩ next407 hd c w hst
  obtain ⟨I408, p395, c396, p399, c400, p403, c404, hl409, hok, hsym⟩ := hst
  have le410 := IH.le.trans le58 hl409
  have le411 := IH.le.trans (.refl _) hl409
  replace R3 := R3.mono hl409
  refine Cod.at hok hsym ?_
  refine .seq ?_
  refine .seq ?_
  refine .region ?_
  refine .skips 2 rfl ?_
  refine .len Tryz.underlying24 rfl rfl rfl rfl ?_
  refine .lt rfl rfl rfl rfl ?_
  refine .nil' fun c w ho hs => Cod.at (E := [(0, _), (2, _), (6, _), (7, _), (8, _), (16, _)]) (ho.sub ⟨rfl, rfl, rfl, rfl, rfl, rfl, trivial⟩) hs ?_
  refine .cond rfl (fun hb413 => ?_) (fun hb413 => ?_)
  · have hd := hd.1 hb413
    refine .skip' fun c w ho hs => Cod.at (E := [(0, _), (2, _), (6, _), (7, _), (8, _)]) (ho.sub ⟨rfl, rfl, rfl, rfl, rfl, trivial⟩) hs ?_
    refine .seq ?_
    refine .block ?_
    refine .seq ?_
    refine .ownF (.s (.s .z)) fun hne432 => ?_
    refine .ownF (.s (.s (.s .z))) fun hne433 => ?_
    refine .ownF (.s (.s (.s (.s .z)))) fun hne434 => ?_
    refine .draw [some 0, some 1, some 2, some 3, some 4, some 5, some 6, some 7, some 8] 9 MX (by kernel_rfl) (by kernel_rfl) (by kernel_rfl) (by kernel_rfl) (by kernel_rfl) (by kernel_rfl) (by kernel_rfl) (fun ex => (pto b15 (.cells #[.int .i64 0, .int .i64 0, .slice none 0 0, .slice none 0 0, .slice none 0 0] 29 (0, 0))) :: (pto b59 (.cells #[.int .i64 r39.Rows, .int .i64 r39.Cols, .slice p395 s394.length c396, .slice p399 s398.length c400, .slice p403 s402.length c404] 29 (0, 0))) :: (OwnSl eI64 3 p395 c396 s394) :: (OwnSl eI64 3 p399 c400 s398) :: (OwnSl eI64 2 p403 c404 s402) :: ex) (fun _ _ => (.s (.s (.s (.s (.s .z)))))) rfl ?_
    refine .f [] rfl (by kernel_rfl) rfl rfl (fun ex => .fieldAddr Tryz.underlying29 rfl Tryz.sizeOf26 rfl (o := 3) rfl rfl rfl .mk) ?_
    refine .f [0] rfl (by kernel_rfl) rfl rfl (fun ex => .load1 Tryz.isAgg26 rfl (.s .z) rfl rfl rfl .mk) ?_
    refine .f [] rfl (by kernel_rfl) rfl rfl (fun ex => .move rfl rfl rfl .mk) ?_
    refine .f [] rfl (by kernel_rfl) rfl rfl (fun ex => .move rfl rfl rfl .mk) ?_
    obtain ⟨h435, x436, hx437, hd⟩ := hd
    obtain ⟨b438, o439, cs440, e441, hC442, hr443⟩ := R3.2 _ _ hx437
    cases hr443
    refine .f [2, 3] rfl (by kernel_rfl) rfl rfl (fun ex => .ixa Tryz.underlying24 Tryz.sizeOf60 rfl e441 rfl h435 (idx_lt hx437 h435) rfl rfl .mk) ?_
    refine .f [4] rfl (by kernel_rfl) rfl rfl (fun ex => .fieldAddr Tryz.underlying60 rfl Tryz.sizeOf3 rfl (o := o439 + s406.toNat * 3 + 1) rfl rfl rfl .mk) ?_
    refine .f [5] rfl (by kernel_rfl) rfl rfl (fun ex => .ld1 (j := 1) Tryz.isAgg3 hC442 rfl rfl rfl rfl rfl .mk) ?_
    refine .w [1, 0] [[], [6], [5, 6], [4, 5, 6], [4, 5, 6]] [6] rfl (by kernel_rfl) (by kernel_rfl) (by kernel_rfl) ((dropE_kept rfl rfl)) (.inr (dropE_kept rfl rfl)) fun ex => ?_
    refine .buildSlice 1 Tryz.underlying26 Tryz.sizeOf3 Tryz.zeroValue3 rfl rfl (.c rfl rfl rfl .n) rfl rfl fun b444 => ?_
    refine .some (fun ex => (pto b444 (.cells #[.int .i64 x436.Col] 3 (0, 0))) :: (pto b15 (.cells #[.int .i64 0, .int .i64 0, .slice none 0 0, .slice none 0 0, .slice none 0 0] 29 (0, 0))) :: (pto b59 (.cells #[.int .i64 r39.Rows, .int .i64 r39.Cols, .slice p395 s394.length c396, .slice p399 s398.length c400, .slice p403 s402.length c404] 29 (0, 0))) :: (OwnSl eI64 3 p395 c396 s394) :: (OwnSl eI64 3 p399 c400 s398) :: (OwnSl eI64 2 p403 c404 s402) :: ex) rfl (fun _ _ => (.s (.s (.s (.s (.s (.s .z))))))) rfl (.cc [0] rfl (by kernel_rfl) rfl rfl rfl (fun ex => .load1 Tryz.isAgg26 rfl (.s (.s .z)) rfl rfl rfl .mk) (.cc [] rfl (by kernel_rfl) rfl rfl rfl (fun ex => .fieldAddr Tryz.underlying29 rfl Tryz.sizeOf26 rfl (o := 3) rfl rfl rfl .mk) trivial)) ?_
    refine .w [] [[], [1]] [1, 7] rfl (by kernel_rfl) (by kernel_rfl) (by kernel_rfl) ((dropE_kept rfl rfl)) (.inr (dropE_kept rfl rfl)) fun ex => ?_
    obtain ⟨hl446, hd⟩ := hd
    refine .append (ys := [x436.Col]) 8 (.s (.s (.s (.s .z)))) Tryz.underlying26 Tryz.underlying26 IN3 rfl rfl rfl rfl rfl rfl rfl rfl rfl (.box .z (.one rfl) rfl) hl446 rfl rfl fun p447 c448 => ?_
    refine .some (fun ex => (OwnSl eI64 3 p447 c448 (s398 ++ ([x436.Col]))) :: (pto b444 (.cells #[.int .i64 x436.Col] 3 (0, 0))) :: (pto b15 (.cells #[.int .i64 0, .int .i64 0, .slice none 0 0, .slice none 0 0, .slice none 0 0] 29 (0, 0))) :: (pto b59 (.cells #[.int .i64 r39.Rows, .int .i64 r39.Cols, .slice p395 s394.length c396, .slice p399 s398.length c400, .slice p403 s402.length c404] 29 (0, 0))) :: (OwnSl eI64 3 p395 c396 s394) :: (OwnSl eI64 2 p403 c404 s402) :: ex) rfl (fun _ _ => (.s (.s (.s (.s (.s (.s .z))))))) rfl trivial ?_
    refine .e 9 (by kernel_rfl) (by kernel_rfl) (by kernel_rfl) ?_
    refine .fieldAddr Tryz.underlying29 rfl Tryz.sizeOf26 rfl (o := 3) rfl rfl rfl ?_
    refine .store1 Tryz.sizeOf26 rfl rfl (.s (.s (.s .z))) (.s (.s (.s (.t .nil)))) rfl ?_
    refine .nil' fun c w ho hs => Cod.at (E := [(0, _), (2, _), (6, _), (7, _), (8, _)]) (ho.sub ⟨rfl, rfl, rfl, rfl, rfl, trivial⟩) hs ?_
    refine .drop (.s .z) ?_
    refine .seq ?_
    refine .ownF .z fun hne468 => ?_
    refine .ownF (.s (.s (.s .z))) fun hne469 => ?_
    refine .ownF (.s (.s (.s (.s .z)))) fun hne470 => ?_
    refine .draw [some 0, some 1, some 2, some 3, some 4, some 5, some 6, some 7, some 8] 9 MX (by kernel_rfl) (by kernel_rfl) (by kernel_rfl) (by kernel_rfl) (by kernel_rfl) (by kernel_rfl) (by kernel_rfl) (fun ex => (OwnSl eI64 3 p447 c448 (s398 ++ ([x436.Col]))) :: (pto b15 (.cells #[.int .i64 0, .int .i64 0, .slice none 0 0, .slice none 0 0, .slice none 0 0] 29 (0, 0))) :: (pto b59 (.cells #[.int .i64 r39.Rows, .int .i64 r39.Cols, .slice p395 s394.length c396, .slice p447 (s398 ++ ([x436.Col])).length c448, .slice p403 s402.length c404] 29 (0, 0))) :: (OwnSl eI64 3 p395 c396 s394) :: (OwnSl eI64 2 p403 c404 s402) :: ex) (fun _ _ => (.s (.s (.s (.s (.s .z)))))) rfl ?_
    refine .f [] rfl (by kernel_rfl) rfl rfl (fun ex => .fieldAddr Tryz.underlying29 rfl Tryz.sizeOf27 rfl (o := 4) rfl rfl rfl .mk) ?_
    refine .f [0] rfl (by kernel_rfl) rfl rfl (fun ex => .load1 Tryz.isAgg27 rfl (.s (.s .z)) rfl rfl rfl .mk) ?_
    refine .f [] rfl (by kernel_rfl) rfl rfl (fun ex => .move rfl rfl rfl .mk) ?_
    refine .f [] rfl (by kernel_rfl) rfl rfl (fun ex => .move rfl rfl rfl .mk) ?_
    obtain ⟨h471, x472, hx473, hd⟩ := hd
    obtain ⟨b474, o475, cs476, e477, hC478, hr479⟩ := R3.2 _ _ hx473
    cases hr479
    refine .f [2, 3] rfl (by kernel_rfl) rfl rfl (fun ex => .ixa Tryz.underlying24 Tryz.sizeOf60 rfl e477 rfl h471 (idx_lt hx473 h471) rfl rfl .mk) ?_
    refine .f [4] rfl (by kernel_rfl) rfl rfl (fun ex => .fieldAddr Tryz.underlying60 rfl Tryz.sizeOf2 rfl (o := o475 + s406.toNat * 3 + 2) rfl rfl rfl .mk) ?_
    refine .f [5] rfl (by kernel_rfl) rfl rfl (fun ex => .ld1 (j := 2) Tryz.isAgg2 hC478 rfl rfl rfl rfl rfl .mk) ?_
    refine .w [1, 0] [[], [6], [5, 6], [4, 5, 6], [4, 5, 6]] [6] rfl (by kernel_rfl) (by kernel_rfl) (by kernel_rfl) ((dropE_kept rfl rfl)) (.inr (dropE_kept rfl rfl)) fun ex => ?_
    refine .buildSlice 1 Tryz.underlying27 Tryz.sizeOf2 Tryz.zeroValue2 rfl rfl (.c rfl rfl rfl .n) rfl rfl fun b480 => ?_
    refine .some (fun ex => (pto b480 (.cells #[.int .i64 x472.Val] 2 (0, 0))) :: (OwnSl eI64 3 p447 c448 (s398 ++ ([x436.Col]))) :: (pto b15 (.cells #[.int .i64 0, .int .i64 0, .slice none 0 0, .slice none 0 0, .slice none 0 0] 29 (0, 0))) :: (pto b59 (.cells #[.int .i64 r39.Rows, .int .i64 r39.Cols, .slice p395 s394.length c396, .slice p447 (s398 ++ ([x436.Col])).length c448, .slice p403 s402.length c404] 29 (0, 0))) :: (OwnSl eI64 3 p395 c396 s394) :: (OwnSl eI64 2 p403 c404 s402) :: ex) rfl (fun _ _ => (.s (.s (.s (.s (.s (.s .z))))))) rfl (.cc [0] rfl (by kernel_rfl) rfl rfl rfl (fun ex => .load1 Tryz.isAgg27 rfl (.s (.s (.s .z))) rfl rfl rfl .mk) (.cc [] rfl (by kernel_rfl) rfl rfl rfl (fun ex => .fieldAddr Tryz.underlying29 rfl Tryz.sizeOf27 rfl (o := 4) rfl rfl rfl .mk) trivial)) ?_
    refine .w [] [[], [1]] [1, 7] rfl (by kernel_rfl) (by kernel_rfl) (by kernel_rfl) ((dropE_kept rfl rfl)) (.inr (dropE_kept rfl rfl)) fun ex => ?_
    obtain ⟨hl482, hd⟩ := hd
    refine .append (ys := [x472.Val]) 8 (.s (.s (.s (.s (.s .z))))) Tryz.underlying27 Tryz.underlying27 IN2 rfl rfl rfl rfl rfl rfl rfl rfl rfl (.box .z (.one rfl) rfl) hl482 rfl rfl fun p483 c484 => ?_
    refine .some (fun ex => (OwnSl eI64 2 p483 c484 (s402 ++ ([x472.Val]))) :: (pto b480 (.cells #[.int .i64 x472.Val] 2 (0, 0))) :: (OwnSl eI64 3 p447 c448 (s398 ++ ([x436.Col]))) :: (pto b15 (.cells #[.int .i64 0, .int .i64 0, .slice none 0 0, .slice none 0 0, .slice none 0 0] 29 (0, 0))) :: (pto b59 (.cells #[.int .i64 r39.Rows, .int .i64 r39.Cols, .slice p395 s394.length c396, .slice p447 (s398 ++ ([x436.Col])).length c448, .slice p403 s402.length c404] 29 (0, 0))) :: (OwnSl eI64 3 p395 c396 s394) :: ex) rfl (fun _ _ => (.s (.s (.s (.s (.s (.s .z))))))) rfl trivial ?_
    refine .e 9 (by kernel_rfl) (by kernel_rfl) (by kernel_rfl) ?_
    refine .fieldAddr Tryz.underlying29 rfl Tryz.sizeOf27 rfl (o := 4) rfl rfl rfl ?_
    refine .store1 Tryz.sizeOf27 rfl rfl (.s (.s (.s (.s .z)))) (.s (.s (.s (.s (.t .nil))))) rfl ?_
    refine .nil' fun c w ho hs => Cod.at (E := [(0, _), (2, _), (6, _), (7, _), (8, _)]) (ho.sub ⟨rfl, rfl, rfl, rfl, rfl, trivial⟩) hs ?_
    refine .drop (.s .z) ?_
    refine .seq ?_
    refine .region ?_
    refine .skips 2 rfl ?_
    obtain ⟨h495, x496, hx497, hd⟩ := hd
    obtain ⟨b498, o499, cs500, e501, hC502, hr503⟩ := R3.2 _ _ hx497
    cases hr503
    refine .ixa Tryz.underlying24 Tryz.sizeOf60 rfl e501 rfl h495 (idx_lt hx497 h495) rfl rfl ?_
    refine .fieldAddr Tryz.underlying60 rfl Tryz.sizeOf3 rfl (o := o499 + s406.toNat * 3) rfl rfl rfl ?_
    refine .ld1 (j := 0) Tryz.isAgg3 hC502 rfl rfl rfl rfl rfl ?_
    refine .add rfl rfl rfl rfl ?_
    refine .skips 1 rfl ?_
    refine .nil' fun c w ho hs => Cod.at (E := [(0, _), (2, _), (6, _), (7, _), (8, _), (9, _)]) (ho.sub ⟨rfl, rfl, rfl, rfl, rfl, rfl, trivial⟩) hs ?_
    refine .block ?_
    refine .loop hd (fun (s : (List Int) × Int) c w => match s with | (s539, s543) => ∃ I_ p540 c541, IH.le I408 I_ ∧ Ok 58 [(0, .int .i64 a0), (2, .slice p1 a2.length c2), (6, .pointer (some ⟨b15, 0, none⟩)), (7, .pointer (some ⟨b59, 0, none⟩)), (8, .int .i64 s406), (9, .int .i64 s543)] c ∧ Sym w0 M I I_ [pto b15 (.cells #[.int .i64 0, .int .i64 0, .slice none 0 0, .slice none 0 0, .slice none 0 0] 29 (0, 0)), pto b59 (.cells #[.int .i64 r39.Rows, .int .i64 r39.Cols, .slice p540 s539.length c541, .slice p447 (s398 ++ ([x436.Col])).length c448, .slice p483 (s402 ++ ([x472.Val])).length c484] 29 (0, 0)), OwnSl eI64 3 p540 c541 s539, OwnSl eI64 3 p447 c448 (s398 ++ ([x436.Col])), OwnSl eI64 2 p483 c484 (s402 ++ ([x472.Val]))] w) (fun c w ho hs => ⟨I408, _, _, (.refl _), ho.sub ⟨rfl, rfl, rfl, rfl, rfl, rfl, trivial⟩, hs.pick (.c (.s (.s .z)) (.c (.s (.s .z)) (.c (.s (.s .z)) (.c (.s .z) (.c .z .n)))))⟩) ?_
    rintro ⟨s539, s543⟩ next544 hd c w hst
    obtain ⟨I545, p540, c541, hl546, hok, hsym⟩ := hst
    have le547 := IH.le.trans le410 hl546
    have le548 := IH.le.trans le411 hl546
    have le549 := IH.le.trans (.refl _) hl546
    replace R3 := R3.mono hl546
    refine Cod.at hok hsym ?_
    refine .seq ?_
    refine .seq ?_
    refine .region ?_
    refine .skips 2 rfl ?_
    refine .le' rfl rfl rfl rfl ?_
    refine .nil' fun c w ho hs => Cod.at (E := [(0, _), (2, _), (6, _), (7, _), (8, _), (9, _), (47, _)]) (ho.sub ⟨rfl, rfl, rfl, rfl, rfl, rfl, rfl, trivial⟩) hs ?_
    refine .cond rfl (fun hb551 => ?_) (fun hb551 => ?_)
    · have hd := hd.1 hb551
      refine .skip' fun c w ho hs => Cod.at (E := [(0, _), (2, _), (6, _), (7, _), (8, _), (9, _)]) (ho.sub ⟨rfl, rfl, rfl, rfl, rfl, rfl, trivial⟩) hs ?_
      refine .seq ?_
      refine .block ?_
      refine .region ?_
      refine .fieldAddr Tryz.underlying29 rfl Tryz.sizeOf26 rfl (o := 2) rfl rfl rfl ?_
      refine .load1 Tryz.isAgg26 rfl (.s .z) rfl rfl rfl ?_
      refine .skips 1 rfl ?_
      obtain ⟨h552, x553, hx554, hd⟩ := hd
      refine .ownNe (.s (.s .z)) (idx_ne hx554) fun b555 e556 => ?_
      cases e556
      refine .ixa0 Tryz.underlying26 Tryz.sizeOf3 rfl rfl h552 (idx_lt hx554 h552) rfl rfl ?_
      refine .lo1 (j := 0) Tryz.isAgg3 (.s (.s .z)) hx554 rfl rfl rfl rfl rfl ?_
      refine .add rfl rfl rfl rfl ?_
      obtain ⟨h557, x558, hx559, hd⟩ := hd
      refine .ixa0 Tryz.underlying26 Tryz.sizeOf3 rfl rfl h557 (idx_lt hx559 h557) rfl rfl ?_
      refine .stO1 (j := 0) (v' := (w64 (x553 + 1))) Tryz.sizeOf3 (.s (.s .z)) hx559 rfl rfl rfl (.t .nil) rfl ?_
      refine .sub (E' := [(0, _), (2, _), (6, _), (7, _), (8, _), (9, _), (50, _), (51, .slice (some ⟨b555, 0, none⟩) (s539.set s543.toNat (w64 (x553 + 1))).length c541), (52, _), (53, _), (54, _), (55, _), (56, _)]) ⟨rfl, rfl, rfl, rfl, rfl, rfl, rfl, (by simp only [List.length_set]; rfl), rfl, rfl, rfl, rfl, rfl, trivial⟩ ?_
      refine .reat (.s .z) (B := pto b59 (.cells #[.int .i64 r39.Rows, .int .i64 r39.Cols, .slice (some ⟨b555, 0, none⟩) (s539.set s543.toNat (w64 (x553 + 1))).length c541, .slice p447 (s398 ++ ([x436.Col])).length c448, .slice p483 (s402 ++ ([x472.Val])).length c484] 29 (0, 0))) (by simp only [List.length_set]) ?_
      refine .nil' fun c w ho hs => Cod.at (E := [(0, _), (2, _), (6, _), (7, _), (8, _), (9, _)]) (ho.sub ⟨rfl, rfl, rfl, rfl, rfl, rfl, trivial⟩) hs ?_
      refine .region ?_
      refine .skips 1 rfl ?_
      refine .add rfl rfl rfl rfl ?_
      refine .sub (E' := [(0, _), (2, _), (6, _), (7, _), (8, _), (48, _), (49, _)]) ⟨rfl, rfl, rfl, rfl, rfl, rfl, rfl, trivial⟩ ?_
      refine .skips 1 rfl ?_
      exact .nil' fun c w ho hs => ⟨((s539.set s543.toNat (w64 (x553 + 1))), w64 (s543 + 1)), hd, I545, _, _, le549, ho.sub ⟨rfl, rfl, rfl, rfl, rfl, rfl, trivial⟩, hs.pick (.c .z (.c .z (.c .z (.c .z (.c .z .n)))))⟩
    · have hd := hd.2 hb551
      refine .exit fun c w ho hs => Cod.at (E := [(0, _), (2, _), (6, _), (7, _), (8, _)]) (ho.sub ⟨rfl, rfl, rfl, rfl, rfl, trivial⟩) hs ?_
      refine .region ?_
      refine .skips 1 rfl ?_
      refine .add rfl rfl rfl rfl ?_
      refine .sub (E' := [(0, _), (2, _), (6, _), (7, _), (17, _), (18, _)]) ⟨rfl, rfl, rfl, rfl, rfl, rfl, trivial⟩ ?_
      refine .skips 1 rfl ?_
      exact .nil' fun c w ho hs => ⟨(s539, (s398 ++ ([x436.Col])), (s402 ++ ([x472.Val])), w64 (s406 + 1)), hd, I545, _, _, _, _, _, _, le548, ho.sub ⟨rfl, rfl, rfl, rfl, rfl, trivial⟩, hs.pick (.c .z (.c .z (.c .z (.c .z (.c .z .n)))))⟩
  · have hd := hd.2 hb413
    refine .exit fun c w ho hs => Cod.at (E := [(6, _), (7, _)]) (ho.sub ⟨rfl, rfl, trivial⟩) hs ?_
    refine .seq ?_
    refine .region ?_
    refine .loadW Tryz.isAgg29 Tryz.sizeOf29 rfl (.s .z) rfl rfl rfl ?_
    refine .storeA Tryz.sizeOf29 rfl rfl .z (.t (.t (.t (.t (.t .nil))))) rfl rfl ?_
    refine .nil' fun c w ho hs => Cod.at (E := [(6, _)]) (ho.sub ⟨rfl, trivial⟩) hs ?_
    refine .drop (.s .z) ?_
    refine .pub (.s .z) fun I560 hl561 R562 => ?_
    have le563 := IH.le.trans le410 hl561
    have le564 := IH.le.trans le411 hl561
    refine .pub (.s .z) fun I565 hl566 R567 => ?_
    have le568 := IH.le.trans le563 hl566
    have le569 := IH.le.trans le564 hl566
    replace R562 := R562.mono hl566
    refine .pub (.s .z) fun I570 hl571 R572 => ?_
    have le573 := IH.le.trans le568 hl571
    have le574 := IH.le.trans le569 hl571
    replace R562 := R562.mono hl571
    replace R567 := R567.mono hl571
    exact .ret (pret Tryz.results44 (.w Tryz.isAgg29 Tryz.sizeOf29 rfl .z rfl .n) le573 ⟨({ Rows := r39.Rows, Cols := r39.Cols, Start := s394, Col := s398, Val := s402 } : Rows), _, _, _, _, _, _, rfl, R562, R567, R572, hd⟩)

theorem W_ref03_SameInts {I : IH} {a0 : List Int} {a1 : List Int} {p1 : Option Addr} {c2 : Nat} {p4 : Option Addr} {c5 : Nat} {Q : Bool → Prop} (R3 : RepSl eI64 I p1 c2 a0) (R6 : RepSl eI64 I p4 c5 a1) (hd : ref03_SameInts a0 a1 Q) :
    PFun Tryz.prog 45 [.slice p1 a0.length c2, .slice p4 a1.length c5] I (fun I_ v => ∃ r, v = .bool r ∧ Q r) := by
  refine Fun.enter Tryz.func45 rfl Tryz.ntmps45 rfl (.c (.c .n)) fun w0 M => ?_
  refine .seq ?_
  refine .region ?_
  refine .skips 1 rfl ?_
  refine .nil' fun c w ho hs => Cod.at (E := [(0, _), (1, _)]) (ho.sub ⟨rfl, rfl, trivial⟩) hs ?_
  refine .seq ?_
  refine .seq ?_
  refine .region ?_
  refine .skips 1 rfl ?_
  refine .len Tryz.underlying26 rfl rfl rfl rfl ?_
  refine .skips 1 rfl ?_
  refine .len Tryz.underlying26 rfl rfl rfl rfl ?_
  refine .ne rfl rfl rfl rfl ?_
  refine .nil' fun c w ho hs => Cod.at (E := [(0, _), (1, _), (10, _)]) (ho.sub ⟨rfl, rfl, rfl, trivial⟩) hs ?_
  refine .cond rfl (fun hb8 => ?_) (fun hb8 => ?_)
  · have hd := hd.1 hb8
    refine .seq ?_
    refine .region ?_
    refine .skips 1 rfl ?_
    refine .nil' fun c w ho hs => Cod.at (E := [(4, _)]) (ho.sub ⟨rfl, trivial⟩) hs ?_
    exact .ret (pret Tryz.results45 (.t rfl .n) (.refl _) ⟨false, rfl, hd⟩)
  · have hd := hd.2 hb8
    refine .skip' fun c w ho hs => Cod.at (E := [(0, _), (1, _)]) (ho.sub ⟨rfl, rfl, trivial⟩) hs ?_
    refine .seq ?_
    refine .seq ?_
    refine .region ?_
    refine .skips 1 rfl ?_
    refine .nil' fun c w ho hs => Cod.at (E := [(0, _), (1, _), (5, _)]) (ho.sub ⟨rfl, rfl, rfl, trivial⟩) hs ?_
    refine .block ?_
    refine .loop hd (fun (s54 : Int) c w => ∃ I_, IH.le I I_ ∧ Ok 26 [(0, .slice p1 a0.length c2), (1, .slice p4 a1.length c5), (5, .int .i64 s54)] c ∧ Sym w0 M I I_ [] w) (fun c w ho hs => ⟨I, (.refl _), ho.sub ⟨rfl, rfl, rfl, trivial⟩, hs.pick .n⟩) ?_
    rintro s54 next55 hd c w hst
    obtain ⟨I56, hl57, hok, hsym⟩ := hst
    have le58 := IH.le.trans (.refl _) hl57
    replace R3 := R3.mono hl57
    replace R6 := R6.mono hl57
    refine Cod.at hok hsym ?_
    refine .seq ?_
    refine .seq ?_
    refine .region ?_
    refine .skips 2 rfl ?_
    refine .len Tryz.underlying26 rfl rfl rfl rfl ?_
    refine .lt rfl rfl rfl rfl ?_
    refine .nil' fun c w ho hs => Cod.at (E := [(0, _), (1, _), (5, _), (14, _)]) (ho.sub ⟨rfl, rfl, rfl, rfl, trivial⟩) hs ?_
    refine .cond rfl (fun hb60 => ?_) (fun hb60 => ?_)
    · have hd := hd.1 hb60
      refine .skip' fun c w ho hs => Cod.at (E := [(0, _), (1, _), (5, _)]) (ho.sub ⟨rfl, rfl, rfl, trivial⟩) hs ?_
      refine .seq ?_
      refine .block ?_
      refine .seq ?_
      refine .draw [some 0, some 1, some 2, some 3, some 4, some 5, some 6, some 7, some 8] 9 MX (by kernel_rfl) (by kernel_rfl) (by kernel_rfl) (by kernel_rfl) (by kernel_rfl) (by kernel_rfl) (by kernel_rfl) (fun ex => ex) (fun _ _ => .z) rfl ?_
      refine .f [] rfl (by kernel_rfl) rfl rfl (fun ex => .move rfl rfl rfl .mk) ?_
      refine .f [] rfl (by kernel_rfl) rfl rfl (fun ex => .move rfl rfl rfl .mk) ?_
      obtain ⟨h61, x62, hx63, hd⟩ := hd
      obtain ⟨b64, o65, cs66, e67, hC68, hr69⟩ := R3.2 _ _ hx63
      cases hr69
      refine .f [0, 1] rfl (by kernel_rfl) rfl rfl (fun ex => .ixa Tryz.underlying26 Tryz.sizeOf3 rfl e67 rfl h61 (idx_lt hx63 h61) rfl rfl .mk) ?_
      refine .f [2] rfl (by kernel_rfl) rfl rfl (fun ex => .ld1 (j := 0) Tryz.isAgg3 hC68 rfl rfl rfl rfl rfl .mk) ?_
      refine .f [] rfl (by kernel_rfl) rfl rfl (fun ex => .move rfl rfl rfl .mk) ?_
      refine .f [] rfl (by kernel_rfl) rfl rfl (fun ex => .move rfl rfl rfl .mk) ?_
      obtain ⟨h70, x71, hx72, hd⟩ := hd
      obtain ⟨b73, o74, cs75, e76, hC77, hr78⟩ := R6.2 _ _ hx72
      cases hr78
      refine .f [4, 5] rfl (by kernel_rfl) rfl rfl (fun ex => .ixa Tryz.underlying26 Tryz.sizeOf3 rfl e76 rfl h70 (idx_lt hx72 h70) rfl rfl .mk) ?_
      refine .f [6] rfl (by kernel_rfl) rfl rfl (fun ex => .ld1 (j := 0) Tryz.isAgg3 hC77 rfl rfl rfl rfl rfl .mk) ?_
      refine .f [3, 7] rfl (by kernel_rfl) rfl rfl (fun ex => .ne rfl rfl rfl rfl .mk) ?_
      refine .e 9 (by kernel_rfl) (by kernel_rfl) (by kernel_rfl) ?_
      refine .nil' fun c w ho hs => Cod.at (E := [(0, _), (1, _), (5, _), (25, _)]) (ho.sub ⟨rfl, rfl, rfl, rfl, trivial⟩) hs ?_
      refine .cond rfl (fun hb79 => ?_) (fun hb79 => ?_)
      · have hd := hd.1 hb79
        refine .seq ?_
        refine .region ?_
        refine .skips 1 rfl ?_
        refine .nil' fun c w ho hs => Cod.at (E := [(4, _)]) (ho.sub ⟨rfl, trivial⟩) hs ?_
        exact .ret (pret Tryz.results45 (.t rfl .n) le58 ⟨false, rfl, hd⟩)
      · have hd := hd.2 hb79
        refine .skip' fun c w ho hs => Cod.at (E := [(0, _), (1, _), (5, _)]) (ho.sub ⟨rfl, rfl, rfl, trivial⟩) hs ?_
        refine .region ?_
        refine .skips 1 rfl ?_
        refine .add rfl rfl rfl rfl ?_
        refine .sub (E' := [(0, _), (1, _), (15, _), (16, _)]) ⟨rfl, rfl, rfl, rfl, trivial⟩ ?_
        refine .skips 1 rfl ?_
        exact .nil' fun c w ho hs => ⟨(w64 (s54 + 1)), hd, I56, le58, ho.sub ⟨rfl, rfl, rfl, trivial⟩, hs.pick .n⟩
    · have hd := hd.2 hb60
      refine .exit fun c w ho hs => Cod.at (E := []) (ho.sub trivial) hs ?_
      refine .seq ?_
      refine .region ?_
      refine .skips 1 rfl ?_
      refine .nil' fun c w ho hs => Cod.at (E := [(4, _)]) (ho.sub ⟨rfl, trivial⟩) hs ?_
      exact .ret (pret Tryz.results45 (.t rfl .n) le58 ⟨true, rfl, hd⟩)

theorem W_ref07_SameVals {I : IH} {a0 : List Int} {a1 : List Int} {p1 : Option Addr} {c2 : Nat} {p4 : Option Addr} {c5 : Nat} {Q : Bool → Prop} (R3 : RepSl eI64 I p1 c2 a0) (R6 : RepSl eI64 I p4 c5 a1) (hd : ref07_SameVals a0 a1 Q) :
    PFun Tryz.prog 46 [.slice p1 a0.length c2, .slice p4 a1.length c5] I (fun I_ v => ∃ r, v = .bool r ∧ Q r) := by
  refine Fun.enter Tryz.func46 rfl Tryz.ntmps46 rfl (.c (.c .n)) fun w0 M => ?_
  refine .seq ?_
  refine .region ?_
  refine .skips 1 rfl ?_
  refine .nil' fun c w ho hs => Cod.at (E := [(0, _), (1, _)]) (ho.sub ⟨rfl, rfl, trivial⟩) hs ?_
  refine .seq ?_
  refine .seq ?_
  refine .region ?_
  refine .skips 1 rfl ?_
  refine .len Tryz.underlying27 rfl rfl rfl rfl ?_
  refine .skips 1 rfl ?_
  refine .len Tryz.underlying27 rfl rfl rfl rfl ?_
  refine .ne rfl rfl rfl rfl ?_
  refine .nil' fun c w ho hs => Cod.at (E := [(0, _), (1, _), (10, _)]) (ho.sub ⟨rfl, rfl, rfl, trivial⟩) hs ?_
  refine .cond rfl (fun hb8 => ?_) (fun hb8 => ?_)
  · have hd := hd.1 hb8
    refine .seq ?_
    refine .region ?_
    refine .skips 1 rfl ?_
    refine .nil' fun c w ho hs => Cod.at (E := [(4, _)]) (ho.sub ⟨rfl, trivial⟩) hs ?_
    exact .ret (pret Tryz.results46 (.t rfl .n) (.refl _) ⟨false, rfl, hd⟩)
  · have hd := hd.2 hb8
    refine .skip' fun c w ho hs => Cod.at (E := [(0, _), (1, _)]) (ho.sub ⟨rfl, rfl, trivial⟩) hs ?_
    refine .seq ?_
    refine .seq ?_
    refine .region ?_
    refine .skips 1 rfl ?_
    refine .nil' fun c w ho hs => Cod.at (E := [(0, _), (1, _), (5, _)]) (ho.sub ⟨rfl, rfl, rfl, trivial⟩) hs ?_
    refine .block ?_
    refine .loop hd (fun (s54 : Int) c w => ∃ I_, IH.le I I_ ∧ Ok 26 [(0, .slice p1 a0.length c2), (1, .slice p4 a1.length c5), (5, .int .i64 s54)] c ∧ Sym w0 M I I_ [] w) (fun c w ho hs => ⟨I, (.refl _), ho.sub ⟨rfl, rfl, rfl, trivial⟩, hs.pick .n⟩) ?_
    rintro s54 next55 hd c w hst
    obtain ⟨I56, hl57, hok, hsym⟩ := hst
    have le58 := IH.le.trans (.refl _) hl57
    replace R3 := R3.mono hl57
    replace R6 := R6.mono hl57
    refine Cod.at hok hsym ?_
    refine .seq ?_
    refine .seq ?_
    refine .region ?_
    refine .skips 2 rfl ?_
    refine .len Tryz.underlying27 rfl rfl rfl rfl ?_
    refine .lt rfl rfl rfl rfl ?_
    refine .nil' fun c w ho hs => Cod.at (E := [(0, _), (1, _), (5, _), (14, _)]) (ho.sub ⟨rfl, rfl, rfl, rfl, trivial⟩) hs ?_
    refine .cond rfl (fun hb60 => ?_) (fun hb60 => ?_)
    · have hd := hd.1 hb60
      refine .skip' fun c w ho hs => Cod.at (E := [(0, _), (1, _), (5, _)]) (ho.sub ⟨rfl, rfl, rfl, trivial⟩) hs ?_
      refine .seq ?_
      refine .block ?_
      refine .seq ?_
      refine .draw [some 0, some 1, some 2, some 3, some 4, some 5, some 6, some 7, some 8] 9 MX (by kernel_rfl) (by kernel_rfl) (by kernel_rfl) (by kernel_rfl) (by kernel_rfl) (by kernel_rfl) (by kernel_rfl) (fun ex => ex) (fun _ _ => .z) rfl ?_
      refine .f [] rfl (by kernel_rfl) rfl rfl (fun ex => .move rfl rfl rfl .mk) ?_
      refine .f [] rfl (by kernel_rfl) rfl rfl (fun ex => .move rfl rfl rfl .mk) ?_
      obtain ⟨h61, x62, hx63, hd⟩ := hd
      obtain ⟨b64, o65, cs66, e67, hC68, hr69⟩ := R3.2 _ _ hx63
      cases hr69
      refine .f [0, 1] rfl (by kernel_rfl) rfl rfl (fun ex => .ixa Tryz.underlying27 Tryz.sizeOf2 rfl e67 rfl h61 (idx_lt hx63 h61) rfl rfl .mk) ?_
      refine .f [2] rfl (by kernel_rfl) rfl rfl (fun ex => .ld1 (j := 0) Tryz.isAgg2 hC68 rfl rfl rfl rfl rfl .mk) ?_
      refine .f [] rfl (by kernel_rfl) rfl rfl (fun ex => .move rfl rfl rfl .mk) ?_
      refine .f [] rfl (by kernel_rfl) rfl rfl (fun ex => .move rfl rfl rfl .mk) ?_
      obtain ⟨h70, x71, hx72, hd⟩ := hd
      obtain ⟨b73, o74, cs75, e76, hC77, hr78⟩ := R6.2 _ _ hx72
      cases hr78
      refine .f [4, 5] rfl (by kernel_rfl) rfl rfl (fun ex => .ixa Tryz.underlying27 Tryz.sizeOf2 rfl e76 rfl h70 (idx_lt hx72 h70) rfl rfl .mk) ?_
      refine .f [6] rfl (by kernel_rfl) rfl rfl (fun ex => .ld1 (j := 0) Tryz.isAgg2 hC77 rfl rfl rfl rfl rfl .mk) ?_
      refine .f [3, 7] rfl (by kernel_rfl) rfl rfl (fun ex => .ne rfl rfl rfl rfl .mk) ?_
      refine .e 9 (by kernel_rfl) (by kernel_rfl) (by kernel_rfl) ?_
      refine .nil' fun c w ho hs => Cod.at (E := [(0, _), (1, _), (5, _), (25, _)]) (ho.sub ⟨rfl, rfl, rfl, rfl, trivial⟩) hs ?_
      refine .cond rfl (fun hb79 => ?_) (fun hb79 => ?_)
      · have hd := hd.1 hb79
        refine .seq ?_
        refine .region ?_
        refine .skips 1 rfl ?_
        refine .nil' fun c w ho hs => Cod.at (E := [(4, _)]) (ho.sub ⟨rfl, trivial⟩) hs ?_
        exact .ret (pret Tryz.results46 (.t rfl .n) le58 ⟨false, rfl, hd⟩)
      · have hd := hd.2 hb79
        refine .skip' fun c w ho hs => Cod.at (E := [(0, _), (1, _), (5, _)]) (ho.sub ⟨rfl, rfl, rfl, trivial⟩) hs ?_
        refine .region ?_
        refine .skips 1 rfl ?_
        refine .add rfl rfl rfl rfl ?_
        refine .sub (E' := [(0, _), (1, _), (15, _), (16, _)]) ⟨rfl, rfl, rfl, rfl, trivial⟩ ?_
        refine .skips 1 rfl ?_
        exact .nil' fun c w ho hs => ⟨(w64 (s54 + 1)), hd, I56, le58, ho.sub ⟨rfl, rfl, rfl, trivial⟩, hs.pick .n⟩
    · have hd := hd.2 hb60
      refine .exit fun c w ho hs => Cod.at (E := []) (ho.sub trivial) hs ?_
      refine .seq ?_
      refine .region ?_
      refine .skips 1 rfl ?_
      refine .nil' fun c w ho hs => Cod.at (E := [(4, _)]) (ho.sub ⟨rfl, trivial⟩) hs ?_
      exact .ret (pret Tryz.results46 (.t rfl .n) le58 ⟨true, rfl, hd⟩)

theorem W_ref07_Same {I : IH} {a0 : Rows} {a1 : Rows} {p1 : Option Addr} {c2 : Nat} {p4 : Option Addr} {c5 : Nat} {p7 : Option Addr} {c8 : Nat} {p10 : Option Addr} {c11 : Nat} {p13 : Option Addr} {c14 : Nat} {p16 : Option Addr} {c17 : Nat} {Q : Bool → Prop} (R3 : RepSl eI64 I p1 c2 a0.Start) (R6 : RepSl eI64 I p4 c5 a0.Col) (R9 : RepSl eI64 I p7 c8 a0.Val) (R12 : RepSl eI64 I p10 c11 a1.Start) (R15 : RepSl eI64 I p13 c14 a1.Col) (R18 : RepSl eI64 I p16 c17 a1.Val) (hd : ref07_Same a0 a1 Q) :
    PFun Tryz.prog 13 [.agg #[.int .i64 a0.Rows, .int .i64 a0.Cols, .slice p1 a0.Start.length c2, .slice p4 a0.Col.length c5, .slice p7 a0.Val.length c8], .agg #[.int .i64 a1.Rows, .int .i64 a1.Cols, .slice p10 a1.Start.length c11, .slice p13 a1.Col.length c14, .slice p16 a1.Val.length c17]] I (fun I_ v => ∃ r, v = .bool r ∧ Q r) := by
  refine Fun.enter Tryz.func13 rfl Tryz.ntmps13 rfl (.c (.c .n)) fun w0 M => ?_
  refine .seq ?_
  refine .region ?_
  refine .boxA rfl rfl rfl fun b23 => ?_
  refine .boxA rfl rfl rfl fun b25 => ?_
  refine .skips 1 rfl ?_
  refine .nil' fun c w ho hs => Cod.at (E := [(2, _), (3, _)]) (ho.sub ⟨rfl, rfl, trivial⟩) hs ?_
  refine .seq ?_
  refine .region ?_
  refine .fieldAddr Tryz.underlying29 rfl Tryz.sizeOf3 rfl (o := 0) rfl rfl rfl ?_
  refine .load1 Tryz.isAgg3 rfl (.s .z) rfl rfl rfl ?_
  refine .fieldAddr Tryz.underlying29 rfl Tryz.sizeOf3 rfl (o := 0) rfl rfl rfl ?_
  refine .load1 Tryz.isAgg3 rfl .z rfl rfl rfl ?_
  refine .eq rfl rfl rfl rfl ?_
  refine .skips 1 rfl ?_
  refine split (a0.Rows == a1.Rows) (fun hb27 => ?_) (fun hb27 => ?_)
  · have hd := hd.1 hb27
    rw [hb27]
    refine .gyes rfl rfl rfl (.fieldAddr Tryz.underlying29 rfl Tryz.sizeOf3 rfl (o := 1) rfl rfl rfl ?_)
    refine .gyes rfl rfl rfl (.load1 Tryz.isAgg3 rfl (.s .z) rfl rfl rfl ?_)
    refine .gyes rfl rfl rfl (.fieldAddr Tryz.underlying29 rfl Tryz.sizeOf3 rfl (o := 1) rfl rfl rfl ?_)
    refine .gyes rfl rfl rfl (.load1 Tryz.isAgg3 rfl .z rfl rfl rfl ?_)
    refine .gyes rfl rfl rfl (.eq rfl rfl rfl rfl ?_)
    refine .skips 2 rfl ?_
    refine split (a0.Cols == a1.Cols) (fun hb28 => ?_) (fun hb28 => ?_)
    · have hd := hd.1 hb28
      rw [hb28]
      refine .gyes rfl rfl rfl (.fieldAddr Tryz.underlying29 rfl Tryz.sizeOf26 rfl (o := 2) rfl rfl rfl ?_)
      refine .gyes rfl rfl rfl (.load1 Tryz.isAgg26 rfl (.s .z) rfl rfl rfl ?_)
      refine .gyes rfl rfl rfl (.fieldAddr Tryz.underlying29 rfl Tryz.sizeOf26 rfl (o := 2) rfl rfl rfl ?_)
      refine .gyes rfl rfl rfl (.load1 Tryz.isAgg26 rfl .z rfl rfl rfl ?_)
      have hw35 := W_ref03_SameInts (I := I) R3 R12 hd
      refine .gyes rfl rfl rfl (.call Tryz.call45 rfl hw35 rfl rfl fun v33 I30 hl31 hv32 => ?_)
      obtain ⟨r29, rfl, hd⟩ := hv32
      have le36 := IH.le.trans (.refl _) hl31
      replace R3 := R3.mono hl31
      replace R6 := R6.mono hl31
      replace R9 := R9.mono hl31
      replace R12 := R12.mono hl31
      replace R15 := R15.mono hl31
      replace R18 := R18.mono hl31
      refine .skips 2 rfl ?_
      refine split r29 (fun hb37 => ?_) (fun hb37 => ?_)
      · have hd := hd.1 hb37
        rw [hb37]
        refine .gyes rfl rfl rfl (.fieldAddr Tryz.underlying29 rfl Tryz.sizeOf26 rfl (o := 3) rfl rfl rfl ?_)
        refine .gyes rfl rfl rfl (.load1 Tryz.isAgg26 rfl (.s .z) rfl rfl rfl ?_)
        refine .gyes rfl rfl rfl (.fieldAddr Tryz.underlying29 rfl Tryz.sizeOf26 rfl (o := 3) rfl rfl rfl ?_)
        refine .gyes rfl rfl rfl (.load1 Tryz.isAgg26 rfl .z rfl rfl rfl ?_)
        have hw44 := W_ref03_SameInts (I := I30) R6 R15 hd
        refine .gyes rfl rfl rfl (.call Tryz.call45 rfl hw44 rfl rfl fun v42 I39 hl40 hv41 => ?_)
        obtain ⟨r38, rfl, hd⟩ := hv41
        have le45 := IH.le.trans le36 hl40
        replace R3 := R3.mono hl40
        replace R6 := R6.mono hl40
        replace R9 := R9.mono hl40
        replace R12 := R12.mono hl40
        replace R15 := R15.mono hl40
        replace R18 := R18.mono hl40
        refine .skips 2 rfl ?_
        refine split r38 (fun hb46 => ?_) (fun hb46 => ?_)
        · have hd := hd.1 hb46
          rw [hb46]
          refine .gyes rfl rfl rfl (.fieldAddr Tryz.underlying29 rfl Tryz.sizeOf27 rfl (o := 4) rfl rfl rfl ?_)
          refine .gyes rfl rfl rfl (.load1 Tryz.isAgg27 rfl (.s .z) rfl rfl rfl ?_)
          refine .gyes rfl rfl rfl (.fieldAddr Tryz.underlying29 rfl Tryz.sizeOf27 rfl (o := 4) rfl rfl rfl ?_)
          refine .gyes rfl rfl rfl (.load1 Tryz.isAgg27 rfl .z rfl rfl rfl ?_)
          have hw53 := W_ref07_SameVals (I := I39) R9 R18 hd
          refine .gyes rfl rfl rfl (.call Tryz.call46 rfl hw53 rfl rfl fun v51 I48 hl49 hv50 => ?_)
          obtain ⟨r47, rfl, hd⟩ := hv50
          have le54 := IH.le.trans le45 hl49
          replace R3 := R3.mono hl49
          replace R6 := R6.mono hl49
          replace R9 := R9.mono hl49
          replace R12 := R12.mono hl49
          replace R15 := R15.mono hl49
          replace R18 := R18.mono hl49
          refine .skips 2 rfl ?_
          refine .nil' fun c w ho hs => Cod.at (E := [(4, _)]) (ho.sub ⟨rfl, trivial⟩) hs ?_
          refine .drop .z ?_
          refine .drop .z ?_
          exact .ret (pret Tryz.results13 (.t rfl .n) le54 ⟨r47, rfl, hd⟩)
        · have hd := hd.2 hb46
          rw [hb46]
          refine .skips 7 rfl ?_
          refine .nil' fun c w ho hs => Cod.at (E := [(4, _)]) (ho.sub ⟨rfl, trivial⟩) hs ?_
          refine .drop .z ?_
          refine .drop .z ?_
          exact .ret (pret Tryz.results13 (.t rfl .n) le45 ⟨false, rfl, hd⟩)
      · have hd := hd.2 hb37
        rw [hb37]
        refine .skips 14 rfl ?_
        refine .nil' fun c w ho hs => Cod.at (E := [(4, _)]) (ho.sub ⟨rfl, trivial⟩) hs ?_
        refine .drop .z ?_
        refine .drop .z ?_
        exact .ret (pret Tryz.results13 (.t rfl .n) le36 ⟨false, rfl, hd⟩)
    · have hd := hd.2 hb28
      rw [hb28]
      refine .skips 21 rfl ?_
      refine .nil' fun c w ho hs => Cod.at (E := [(4, _)]) (ho.sub ⟨rfl, trivial⟩) hs ?_
      refine .drop .z ?_
      refine .drop .z ?_
      exact .ret (pret Tryz.results13 (.t rfl .n) (.refl _) ⟨false, rfl, hd⟩)
  · have hd := hd.2 hb27
    rw [hb27]
    refine .skips 28 rfl ?_
    refine .nil' fun c w ho hs => Cod.at (E := [(4, _)]) (ho.sub ⟨rfl, trivial⟩) hs ?_
    refine .drop .z ?_
    refine .drop .z ?_
    exact .ret (pret Tryz.results13 (.t rfl .n) (.refl _) ⟨false, rfl, hd⟩)

theorem W_ref07_Right {I : IH} {a0 : Rows} {p1 : Option Addr} {c2 : Nat} {p4 : Option Addr} {c5 : Nat} {p7 : Option Addr} {c8 : Nat} {Q : Bool → Prop} (R3 : RepSl eI64 I p1 c2 a0.Start) (R6 : RepSl eI64 I p4 c5 a0.Col) (R9 : RepSl eI64 I p7 c8 a0.Val) (hd : ref07_Right a0 Q) :
    PFun Tryz.prog 17 [.agg #[.int .i64 a0.Rows, .int .i64 a0.Cols, .slice p1 a0.Start.length c2, .slice p4 a0.Col.length c5, .slice p7 a0.Val.length c8]] I (fun I_ v => ∃ r, v = .bool r ∧ Q r) := by
  refine Fun.enter Tryz.func17 rfl Tryz.ntmps17 rfl (.c .n) fun w0 M => ?_
  refine .seq ?_
  refine .region ?_
  refine .boxA rfl rfl rfl fun b12 => ?_
  refine .skips 1 rfl ?_
  refine .nil' fun c w ho hs => Cod.at (E := [(1, _)]) (ho.sub ⟨rfl, trivial⟩) hs ?_
  refine .seq ?_
  refine .seq ?_
  refine .region ?_
  refine .fieldAddr Tryz.underlying29 rfl Tryz.sizeOf3 rfl (o := 0) rfl rfl rfl ?_
  refine .load1 Tryz.isAgg3 rfl .z rfl rfl rfl ?_
  refine .lt rfl rfl rfl rfl ?_
  refine .skips 1 rfl ?_
  refine split (decide (a0.Rows < 0)) (fun hb21 => ?_) (fun hb21 => ?_)
  · have hd := hd.1 hb21
    rw [hb21]
    refine .skips 38 rfl ?_
    refine .nil' fun c w ho hs => Cod.at (E := [(1, _), (46, _)]) (ho.sub ⟨rfl, rfl, trivial⟩) hs ?_
    refine .condKT rfl rfl ?_
    refine .seq ?_
    refine .region ?_
    refine .skips 1 rfl ?_
    refine .nil' fun c w ho hs => Cod.at (E := [(2, _)]) (ho.sub ⟨rfl, trivial⟩) hs ?_
    refine .drop .z ?_
    exact .ret (pret Tryz.results17 (.t rfl .n) (.refl _) ⟨false, rfl, hd⟩)
  · have hd := hd.2 hb21
    rw [hb21]
    refine .gyes rfl rfl rfl (.fieldAddr Tryz.underlying29 rfl Tryz.sizeOf3 rfl (o := 0) rfl rfl rfl ?_)
    refine .gyes rfl rfl rfl (.load1 Tryz.isAgg3 rfl .z rfl rfl rfl ?_)
    refine .gyes rfl rfl rfl (.gt rfl rfl rfl rfl ?_)
    refine .skips 2 rfl ?_
    refine split (decide (4096 < a0.Rows)) (fun hb22 => ?_) (fun hb22 => ?_)
    · have hd := hd.1 hb22
      rw [hb22]
      refine .skips 33 rfl ?_
      refine .nil' fun c w ho hs => Cod.at (E := [(1, _), (46, _)]) (ho.sub ⟨rfl, rfl, trivial⟩) hs ?_
      refine .condKT rfl rfl ?_
      refine .seq ?_
      refine .region ?_
      refine .skips 1 rfl ?_
      refine .nil' fun c w ho hs => Cod.at (E := [(2, _)]) (ho.sub ⟨rfl, trivial⟩) hs ?_
      refine .drop .z ?_
      exact .ret (pret Tryz.results17 (.t rfl .n) (.refl _) ⟨false, rfl, hd⟩)
    · have hd := hd.2 hb22
      rw [hb22]
      refine .gyes rfl rfl rfl (.fieldAddr Tryz.underlying29 rfl Tryz.sizeOf3 rfl (o := 1) rfl rfl rfl ?_)
      refine .gyes rfl rfl rfl (.load1 Tryz.isAgg3 rfl .z rfl rfl rfl ?_)
      refine .gyes rfl rfl rfl (.lt rfl rfl rfl rfl ?_)
      refine .skips 2 rfl ?_
      refine split (decide (a0.Cols < 0)) (fun hb23 => ?_) (fun hb23 => ?_)
      · have hd := hd.1 hb23
        rw [hb23]
        refine .skips 28 rfl ?_
        refine .nil' fun c w ho hs => Cod.at (E := [(1, _), (46, _)]) (ho.sub ⟨rfl, rfl, trivial⟩) hs ?_
        refine .condKT rfl rfl ?_
        refine .seq ?_
        refine .region ?_
        refine .skips 1 rfl ?_
        refine .nil' fun c w ho hs => Cod.at (E := [(2, _)]) (ho.sub ⟨rfl, trivial⟩) hs ?_
        refine .drop .z ?_
        exact .ret (pret Tryz.results17 (.t rfl .n) (.refl _) ⟨false, rfl, hd⟩)
      · have hd := hd.2 hb23
        rw [hb23]
        refine .gyes rfl rfl rfl (.fieldAddr Tryz.underlying29 rfl Tryz.sizeOf3 rfl (o := 1) rfl rfl rfl ?_)
        refine .gyes rfl rfl rfl (.load1 Tryz.isAgg3 rfl .z rfl rfl rfl ?_)
        refine .gyes rfl rfl rfl (.gt rfl rfl rfl rfl ?_)
        refine .skips 2 rfl ?_
        refine split (decide (4096 < a0.Cols)) (fun hb24 => ?_) (fun hb24 => ?_)
        · have hd := hd.1 hb24
          rw [hb24]
          refine .skips 23 rfl ?_
          refine .nil' fun c w ho hs => Cod.at (E := [(1, _), (46, _)]) (ho.sub ⟨rfl, rfl, trivial⟩) hs ?_
          refine .condKT rfl rfl ?_
          refine .seq ?_
          refine .region ?_
          refine .skips 1 rfl ?_
          refine .nil' fun c w ho hs => Cod.at (E := [(2, _)]) (ho.sub ⟨rfl, trivial⟩) hs ?_
          refine .drop .z ?_
          exact .ret (pret Tryz.results17 (.t rfl .n) (.refl _) ⟨false, rfl, hd⟩)
        · have hd := hd.2 hb24
          rw [hb24]
          refine .gyes rfl rfl rfl (.fieldAddr Tryz.underlying29 rfl Tryz.sizeOf26 rfl (o := 2) rfl rfl rfl ?_)
          refine .gyes rfl rfl rfl (.load1 Tryz.isAgg26 rfl .z rfl rfl rfl ?_)
          refine .gyes rfl rfl rfl (.len Tryz.underlying26 rfl rfl rfl rfl ?_)
          refine .gyes rfl rfl rfl (.fieldAddr Tryz.underlying29 rfl Tryz.sizeOf3 rfl (o := 0) rfl rfl rfl ?_)
          refine .gyes rfl rfl rfl (.load1 Tryz.isAgg3 rfl .z rfl rfl rfl ?_)
          refine .gyes rfl rfl rfl (.add rfl rfl rfl rfl ?_)
          refine .gyes rfl rfl rfl (.ne rfl rfl rfl rfl ?_)
          refine .skips 2 rfl ?_
          refine split ((a0.Start.length : Int) != (w64 (a0.Rows + 1))) (fun hb25 => ?_) (fun hb25 => ?_)
          · have hd := hd.1 hb25
            rw [hb25]
            refine .skips 14 rfl ?_
            refine .nil' fun c w ho hs => Cod.at (E := [(1, _), (46, _)]) (ho.sub ⟨rfl, rfl, trivial⟩) hs ?_
            refine .condKT rfl rfl ?_
            refine .seq ?_
            refine .region ?_
            refine .skips 1 rfl ?_
            refine .nil' fun c w ho hs => Cod.at (E := [(2, _)]) (ho.sub ⟨rfl, trivial⟩) hs ?_
            refine .drop .z ?_
            exact .ret (pret Tryz.results17 (.t rfl .n) (.refl _) ⟨false, rfl, hd⟩)
          · have hd := hd.2 hb25
            rw [hb25]
            refine .gyes rfl rfl rfl (.fieldAddr Tryz.underlying29 rfl Tryz.sizeOf26 rfl (o := 3) rfl rfl rfl ?_)
            refine .gyes rfl rfl rfl (.load1 Tryz.isAgg26 rfl .z rfl rfl rfl ?_)
            refine .gyes rfl rfl rfl (.len Tryz.underlying26 rfl rfl rfl rfl ?_)
            refine .gyes rfl rfl rfl (.fieldAddr Tryz.underlying29 rfl Tryz.sizeOf27 rfl (o := 4) rfl rfl rfl ?_)
            refine .gyes rfl rfl rfl (.load1 Tryz.isAgg27 rfl .z rfl rfl rfl ?_)
            refine .gyes rfl rfl rfl (.len Tryz.underlying27 rfl rfl rfl rfl ?_)
            refine .gyes rfl rfl rfl (.ne rfl rfl rfl rfl ?_)
            refine .skips 2 rfl ?_
            refine split ((a0.Col.length : Int) != (a0.Val.length : Int)) (fun hb26 => ?_) (fun hb26 => ?_)
            · have hd := hd.1 hb26
              rw [hb26]
              refine .skips 5 rfl ?_
              refine .nil' fun c w ho hs => Cod.at (E := [(1, _), (46, _)]) (ho.sub ⟨rfl, rfl, trivial⟩) hs ?_
              refine .condKT rfl rfl ?_
              refine .seq ?_
              refine .region ?_
              refine .skips 1 rfl ?_
              refine .nil' fun c w ho hs => Cod.at (E := [(2, _)]) (ho.sub ⟨rfl, trivial⟩) hs ?_
              refine .drop .z ?_
              exact .ret (pret Tryz.results17 (.t rfl .n) (.refl _) ⟨false, rfl, hd⟩)
            · have hd := hd.2 hb26
              rw [hb26]
              refine .gyes rfl rfl rfl (.fieldAddr Tryz.underlying29 rfl Tryz.sizeOf26 rfl (o := 3) rfl rfl rfl ?_)
              refine .gyes rfl rfl rfl (.load1 Tryz.isAgg26 rfl .z rfl rfl rfl ?_)
              refine .gyes rfl rfl rfl (.len Tryz.underlying26 rfl rfl rfl rfl ?_)
              refine .gyes rfl rfl rfl (.gt rfl rfl rfl rfl ?_)
              refine .skips 1 rfl ?_
              refine .nil' fun c w ho hs => Cod.at (E := [(1, _), (46, _)]) (ho.sub ⟨rfl, rfl, trivial⟩) hs ?_
              refine .cond rfl (fun hb27 => ?_) (fun hb27 => ?_)
              · have hd := hd.1 hb27
                refine .seq ?_
                refine .region ?_
                refine .skips 1 rfl ?_
                refine .nil' fun c w ho hs => Cod.at (E := [(2, _)]) (ho.sub ⟨rfl, trivial⟩) hs ?_
                refine .drop .z ?_
                exact .ret (pret Tryz.results17 (.t rfl .n) (.refl _) ⟨false, rfl, hd⟩)
              · have hd := hd.2 hb27
                refine .skip' fun c w ho hs => Cod.at (E := [(1, _)]) (ho.sub ⟨rfl, trivial⟩) hs ?_
                refine .seq ?_
                refine .seq ?_
                refine .draw [some 0, some 1, some 2, some 3, some 4, some 5, some 6, some 7, some 8, some 9, some 10, some 11, some 12, some 13, some 14, some 15, some 16] 17 MX (by kernel_rfl) (by kernel_rfl) (by kernel_rfl) (by kernel_rfl) (by kernel_rfl) (by kernel_rfl) (by kernel_rfl) (fun ex => (pto b12 (.cells #[.int .i64 a0.Rows, .int .i64 a0.Cols, .slice p1 a0.Start.length c2, .slice p4 a0.Col.length c5, .slice p7 a0.Val.length c8] 29 (0, 0))) :: ex) (fun _ _ => (.s .z)) rfl ?_
                refine .f [] rfl (by kernel_rfl) rfl rfl (fun ex => .fieldAddr Tryz.underlying29 rfl Tryz.sizeOf26 rfl (o := 2) rfl rfl rfl .mk) ?_
                refine .f [0] rfl (by kernel_rfl) rfl rfl (fun ex => .load1 Tryz.isAgg26 rfl .z rfl rfl rfl .mk) ?_
                obtain ⟨h48, x49, hx50, hd⟩ := hd
                obtain ⟨b51, o52, cs53, e54, hC55, hr56⟩ := R3.2 _ _ hx50
                cases hr56
                refine .f [1] rfl (by kernel_rfl) rfl rfl (fun ex => .ixa Tryz.underlying26 Tryz.sizeOf3 rfl e54 rfl h48 (idx_lt hx50 h48) rfl rfl .mk) ?_
                refine .f [2] rfl (by kernel_rfl) rfl rfl (fun ex => .ld1 (j := 0) Tryz.isAgg3 hC55 rfl rfl rfl rfl rfl .mk) ?_
                refine .f [3] rfl (by kernel_rfl) rfl rfl (fun ex => .ne rfl rfl rfl rfl .mk) ?_
                refine .f [4] rfl (by kernel_rfl) rfl rfl (fun ex => .move rfl rfl rfl .mk) ?_
                refine split (x49 != 0) (fun hb57 => ?_) (fun hb57 => ?_)
                · have hd := hd.1 hb57
                  refine .f [5] rfl (by kernel_rfl) rfl rfl (fun ex => .gno rfl rfl hb57 rfl rfl .mk) ?_
                  refine .f [6, 5] rfl (by kernel_rfl) rfl rfl (fun ex => .gno rfl rfl hb57 rfl rfl .mk) ?_
                  refine .f [5] rfl (by kernel_rfl) rfl rfl (fun ex => .gno rfl rfl hb57 rfl rfl .mk) ?_
                  refine .f [8, 5] rfl (by kernel_rfl) rfl rfl (fun ex => .gno rfl rfl hb57 rfl rfl .mk) ?_
                  refine .f [7, 9, 5] rfl (by kernel_rfl) rfl rfl (fun ex => .gno rfl rfl hb57 rfl rfl .mk) ?_
                  refine .f [10, 5] rfl (by kernel_rfl) rfl rfl (fun ex => .gno rfl rfl hb57 rfl rfl .mk) ?_
                  refine .f [5] rfl (by kernel_rfl) rfl rfl (fun ex => .gno rfl rfl hb57 rfl rfl .mk) ?_
                  refine .f [12, 5] rfl (by kernel_rfl) rfl rfl (fun ex => .gno rfl rfl hb57 rfl rfl .mk) ?_
                  refine .f [13, 5] rfl (by kernel_rfl) rfl rfl (fun ex => .gno rfl rfl hb57 rfl rfl .mk) ?_
                  refine .f [11, 14, 5] rfl (by kernel_rfl) rfl rfl (fun ex => .gno rfl rfl hb57 rfl rfl .mk) ?_
                  refine .f [5, 15] rfl (by kernel_rfl) rfl rfl (fun ex => .pickT rfl hb57 rfl rfl rfl .mk) ?_
                  refine .e 17 (by kernel_rfl) (by kernel_rfl) (by kernel_rfl) ?_
                  refine .nil' fun c w ho hs => Cod.at (E := [(1, _), (63, _)]) (ho.sub ⟨rfl, rfl, trivial⟩) hs ?_
                  refine .condKT rfl rfl ?_
                  refine .seq ?_
                  refine .region ?_
                  refine .skips 1 rfl ?_
                  refine .nil' fun c w ho hs => Cod.at (E := [(2, _)]) (ho.sub ⟨rfl, trivial⟩) hs ?_
                  refine .drop .z ?_
                  exact .ret (pret Tryz.results17 (.t rfl .n) (.refl _) ⟨false, rfl, hd⟩)
                · have hd := hd.2 hb57
                  refine .f [5] rfl (by kernel_rfl) rfl rfl (fun ex => .gyes rfl rfl hb57 (.fieldAddr Tryz.underlying29 rfl Tryz.sizeOf26 rfl (o := 2) rfl rfl rfl .mk)) ?_
                  refine .f [6, 5] rfl (by kernel_rfl) rfl rfl (fun ex => .gyes rfl rfl hb57 (.load1 Tryz.isAgg26 rfl .z rfl rfl rfl .mk)) ?_
                  refine .f [5] rfl (by kernel_rfl) rfl rfl (fun ex => .gyes rfl rfl hb57 (.fieldAddr Tryz.underlying29 rfl Tryz.sizeOf3 rfl (o := 0) rfl rfl rfl .mk)) ?_
                  refine .f [8, 5] rfl (by kernel_rfl) rfl rfl (fun ex => .gyes rfl rfl hb57 (.load1 Tryz.isAgg3 rfl .z rfl rfl rfl .mk)) ?_
                  obtain ⟨h58, x59, hx60, hd⟩ := hd
                  obtain ⟨b61, o62, cs63, e64, hC65, hr66⟩ := R3.2 _ _ hx60
                  cases hr66
                  refine .f [7, 9, 5] rfl (by kernel_rfl) rfl rfl (fun ex => .gyes rfl rfl hb57 (.ixa Tryz.underlying26 Tryz.sizeOf3 rfl e64 rfl h58 (idx_lt hx60 h58) rfl rfl .mk)) ?_
                  refine .f [10, 5] rfl (by kernel_rfl) rfl rfl (fun ex => .gyes rfl rfl hb57 (.ld1 (j := 0) Tryz.isAgg3 hC65 rfl rfl rfl rfl rfl .mk)) ?_
                  refine .f [5] rfl (by kernel_rfl) rfl rfl (fun ex => .gyes rfl rfl hb57 (.fieldAddr Tryz.underlying29 rfl Tryz.sizeOf26 rfl (o := 3) rfl rfl rfl .mk)) ?_
                  refine .f [12, 5] rfl (by kernel_rfl) rfl rfl (fun ex => .gyes rfl rfl hb57 (.load1 Tryz.isAgg26 rfl .z rfl rfl rfl .mk)) ?_
                  refine .f [13, 5] rfl (by kernel_rfl) rfl rfl (fun ex => .gyes rfl rfl hb57 (.len Tryz.underlying26 rfl rfl rfl rfl .mk)) ?_
                  refine .f [11, 14, 5] rfl (by kernel_rfl) rfl rfl (fun ex => .gyes rfl rfl hb57 (.ne rfl rfl rfl rfl .mk)) ?_
                  refine .f [5, 15] rfl (by kernel_rfl) rfl rfl (fun ex => .pickF rfl hb57 rfl rfl rfl .mk) ?_
                  refine .e 17 (by kernel_rfl) (by kernel_rfl) (by kernel_rfl) ?_
                  refine .nil' fun c w ho hs => Cod.at (E := [(1, _), (63, _)]) (ho.sub ⟨rfl, rfl, trivial⟩) hs ?_
                  refine .cond rfl (fun hb67 => ?_) (fun hb67 => ?_)
                  · have hd := hd.1 hb67
                    refine .seq ?_
                    refine .region ?_
                    refine .skips 1 rfl ?_
                    refine .nil' fun c w ho hs => Cod.at (E := [(2, _)]) (ho.sub ⟨rfl, trivial⟩) hs ?_
                    refine .drop .z ?_
                    exact .ret (pret Tryz.results17 (.t rfl .n) (.refl _) ⟨false, rfl, hd⟩)
                  · have hd := hd.2 hb67
                    refine .skip' fun c w ho hs => Cod.at (E := [(1, _)]) (ho.sub ⟨rfl, trivial⟩) hs ?_
                    refine .seq ?_
                    refine .seq ?_
                    refine .region ?_
                    refine .skips 1 rfl ?_
                    refine .nil' fun c w ho hs => Cod.at (E := [(1, _), (3, _)]) (ho.sub ⟨rfl, rfl, trivial⟩) hs ?_
                    refine .block ?_
                    refine .loop hd (fun (s697 : Int) c w => ∃ I_, IH.le I I_ ∧ Ok 156 [(1, .pointer (some ⟨b12, 0, none⟩)), (3, .int .i64 s697)] c ∧ Sym w0 M I I_ [pto b12 (.cells #[.int .i64 a0.Rows, .int .i64 a0.Cols, .slice p1 a0.Start.length c2, .slice p4 a0.Col.length c5, .slice p7 a0.Val.length c8] 29 (0, 0))] w) (fun c w ho hs => ⟨I, (.refl _), ho.sub ⟨rfl, rfl, trivial⟩, hs.pick (.c .z .n)⟩) ?_
                    rintro s697 next698 hd c w hst
                    obtain ⟨I699, hl700, hok, hsym⟩ := hst
                    have le701 := IH.le.trans (.refl _) hl700
                    replace R3 := R3.mono hl700
                    replace R6 := R6.mono hl700
                    replace R9 := R9.mono hl700
                    refine Cod.at hok hsym ?_
                    refine .seq ?_
                    refine .seq ?_
                    refine .region ?_
                    refine .skips 1 rfl ?_
                    refine .fieldAddr Tryz.underlying29 rfl Tryz.sizeOf3 rfl (o := 0) rfl rfl rfl ?_
                    refine .load1 Tryz.isAgg3 rfl .z rfl rfl rfl ?_
                    refine .lt rfl rfl rfl rfl ?_
                    refine .nil' fun c w ho hs => Cod.at (E := [(1, _), (3, _), (67, _)]) (ho.sub ⟨rfl, rfl, rfl, trivial⟩) hs ?_
                    refine .cond rfl (fun hb703 => ?_) (fun hb703 => ?_)
                    · have hd := hd.1 hb703
                      refine .skip' fun c w ho hs => Cod.at (E := [(1, _), (3, _)]) (ho.sub ⟨rfl, rfl, trivial⟩) hs ?_
                      refine .seq ?_
                      refine .block ?_
                      refine .seq ?_
                      refine .seq ?_
                      refine .draw [some 0, some 1, some 2, some 3, some 4, some 5, some 6, some 7, some 8, some 9, some 10, some 11, some 12, some 13, some 14, some 15, some 16, some 17, some 18, some 19, some 20, some 21, some 22, some 23, some 24, some 25, some 26, some 27, some 28, some 29, some 30, some 31] 32 MX (by kernel_rfl) (by kernel_rfl) (by kernel_rfl) (by kernel_rfl) (by kernel_rfl) (by kernel_rfl) (by kernel_rfl) (fun ex => (pto b12 (.cells #[.int .i64 a0.Rows, .int .i64 a0.Cols, .slice p1 a0.Start.length c2, .slice p4 a0.Col.length c5, .slice p7 a0.Val.length c8] 29 (0, 0))) :: ex) (fun _ _ => (.s .z)) rfl ?_
                      refine .f [] rfl (by kernel_rfl) rfl rfl (fun ex => .fieldAddr Tryz.underlying29 rfl Tryz.sizeOf26 rfl (o := 2) rfl rfl rfl .mk) ?_
                      refine .f [0] rfl (by kernel_rfl) rfl rfl (fun ex => .load1 Tryz.isAgg26 rfl .z rfl rfl rfl .mk) ?_
                      refine .f [] rfl (by kernel_rfl) rfl rfl (fun ex => .move rfl rfl rfl .mk) ?_
                      obtain ⟨h743, x744, hx745, hd⟩ := hd
                      obtain ⟨b746, o747, cs748, e749, hC750, hr751⟩ := R3.2 _ _ hx745
                      cases hr751
                      refine .f [1, 2] rfl (by kernel_rfl) rfl rfl (fun ex => .ixa Tryz.underlying26 Tryz.sizeOf3 rfl e749 rfl h743 (idx_lt hx745 h743) rfl rfl .mk) ?_
                      refine .f [3] rfl (by kernel_rfl) rfl rfl (fun ex => .ld1 (j := 0) Tryz.isAgg3 hC750 rfl rfl rfl rfl rfl .mk) ?_
                      refine .f [] rfl (by kernel_rfl) rfl rfl (fun ex => .fieldAddr Tryz.underlying29 rfl Tryz.sizeOf26 rfl (o := 2) rfl rfl rfl .mk) ?_
                      refine .f [5] rfl (by kernel_rfl) rfl rfl (fun ex => .load1 Tryz.isAgg26 rfl .z rfl rfl rfl .mk) ?_
                      refine .f [] rfl (by kernel_rfl) rfl rfl (fun ex => .move rfl rfl rfl .mk) ?_
                      refine .f [7] rfl (by kernel_rfl) rfl rfl (fun ex => .add rfl rfl rfl rfl .mk) ?_
                      obtain ⟨h752, x753, hx754, hd⟩ := hd
                      obtain ⟨b755, o756, cs757, e758, hC759, hr760⟩ := R3.2 _ _ hx754
                      cases hr760
                      refine .f [6, 8] rfl (by kernel_rfl) rfl rfl (fun ex => .ixa Tryz.underlying26 Tryz.sizeOf3 rfl e758 rfl h752 (idx_lt hx754 h752) rfl rfl .mk) ?_
                      refine .f [9] rfl (by kernel_rfl) rfl rfl (fun ex => .ld1 (j := 0) Tryz.isAgg3 hC759 rfl rfl rfl rfl rfl .mk) ?_
                      refine .f [4, 10] rfl (by kernel_rfl) rfl rfl (fun ex => .gt rfl rfl rfl rfl .mk) ?_
                      refine .f [11] rfl (by kernel_rfl) rfl rfl (fun ex => .move rfl rfl rfl .mk) ?_
                      refine split (decide (x753 < x744)) (fun hb761 => ?_) (fun hb761 => ?_)
                      · have hd := hd.1 hb761
                        refine .f [12] rfl (by kernel_rfl) rfl rfl (fun ex => .gno rfl rfl hb761 rfl rfl .mk) ?_
                        refine .f [13, 12] rfl (by kernel_rfl) rfl rfl (fun ex => .gno rfl rfl hb761 rfl rfl .mk) ?_
                        refine .f [12] rfl (by kernel_rfl) rfl rfl (fun ex => .gno rfl rfl hb761 rfl rfl .mk) ?_
                        refine .f [14, 15, 12] rfl (by kernel_rfl) rfl rfl (fun ex => .gno rfl rfl hb761 rfl rfl .mk) ?_
                        refine .f [16, 12] rfl (by kernel_rfl) rfl rfl (fun ex => .gno rfl rfl hb761 rfl rfl .mk) ?_
                        refine .f [17, 12] rfl (by kernel_rfl) rfl rfl (fun ex => .gno rfl rfl hb761 rfl rfl .mk) ?_
                        refine .f [12, 18] rfl (by kernel_rfl) rfl rfl (fun ex => .pickT rfl hb761 rfl rfl rfl .mk) ?_
                        refine .f [19, 12] rfl (by kernel_rfl) rfl rfl (fun ex => .move rfl rfl rfl .mk) ?_
                        refine .f [20] rfl (by kernel_rfl) rfl rfl (fun ex => .gno rfl rfl rfl rfl rfl .mk) ?_
                        refine .f [21, 20] rfl (by kernel_rfl) rfl rfl (fun ex => .gno rfl rfl rfl rfl rfl .mk) ?_
                        refine .f [20] rfl (by kernel_rfl) rfl rfl (fun ex => .gno rfl rfl rfl rfl rfl .mk) ?_
                        refine .f [23, 20] rfl (by kernel_rfl) rfl rfl (fun ex => .gno rfl rfl rfl rfl rfl .mk) ?_
                        refine .f [22, 24, 20] rfl (by kernel_rfl) rfl rfl (fun ex => .gno rfl rfl rfl rfl rfl .mk) ?_
                        refine .f [25, 20] rfl (by kernel_rfl) rfl rfl (fun ex => .gno rfl rfl rfl rfl rfl .mk) ?_
                        refine .f [20] rfl (by kernel_rfl) rfl rfl (fun ex => .gno rfl rfl rfl rfl rfl .mk) ?_
                        refine .f [27, 20] rfl (by kernel_rfl) rfl rfl (fun ex => .gno rfl rfl rfl rfl rfl .mk) ?_
                        refine .f [28, 20] rfl (by kernel_rfl) rfl rfl (fun ex => .gno rfl rfl rfl rfl rfl .mk) ?_
                        refine .f [26, 29, 20] rfl (by kernel_rfl) rfl rfl (fun ex => .gno rfl rfl rfl rfl rfl .mk) ?_
                        refine .f [20, 30] rfl (by kernel_rfl) rfl rfl (fun ex => .pickT rfl rfl rfl rfl rfl .mk) ?_
                        refine .e 32 (by kernel_rfl) (by kernel_rfl) (by kernel_rfl) ?_
                        refine .nil' fun c w ho hs => Cod.at (E := [(1, _), (3, _), (101, _)]) (ho.sub ⟨rfl, rfl, rfl, trivial⟩) hs ?_
                        refine .condKT rfl rfl ?_
                        refine .seq ?_
                        refine .region ?_
                        refine .skips 1 rfl ?_
                        refine .nil' fun c w ho hs => Cod.at (E := [(2, _)]) (ho.sub ⟨rfl, trivial⟩) hs ?_
                        refine .drop .z ?_
                        exact .ret (pret Tryz.results17 (.t rfl .n) le701 ⟨false, rfl, hd⟩)
                      · have hd := hd.2 hb761
                        refine .f [12] rfl (by kernel_rfl) rfl rfl (fun ex => .gyes rfl rfl hb761 (.fieldAddr Tryz.underlying29 rfl Tryz.sizeOf26 rfl (o := 2) rfl rfl rfl .mk)) ?_
                        refine .f [13, 12] rfl (by kernel_rfl) rfl rfl (fun ex => .gyes rfl rfl hb761 (.load1 Tryz.isAgg26 rfl .z rfl rfl rfl .mk)) ?_
                        refine .f [12] rfl (by kernel_rfl) rfl rfl (fun ex => .gyes rfl rfl hb761 (.move rfl rfl rfl .mk)) ?_
                        obtain ⟨h762, x763, hx764, hd⟩ := hd
                        obtain ⟨b765, o766, cs767, e768, hC769, hr770⟩ := R3.2 _ _ hx764
                        cases hr770
                        refine .f [14, 15, 12] rfl (by kernel_rfl) rfl rfl (fun ex => .gyes rfl rfl hb761 (.ixa Tryz.underlying26 Tryz.sizeOf3 rfl e768 rfl h762 (idx_lt hx764 h762) rfl rfl .mk)) ?_
                        refine .f [16, 12] rfl (by kernel_rfl) rfl rfl (fun ex => .gyes rfl rfl hb761 (.ld1 (j := 0) Tryz.isAgg3 hC769 rfl rfl rfl rfl rfl .mk)) ?_
                        refine .f [17, 12] rfl (by kernel_rfl) rfl rfl (fun ex => .gyes rfl rfl hb761 (.lt rfl rfl rfl rfl .mk)) ?_
                        refine .f [12, 18] rfl (by kernel_rfl) rfl rfl (fun ex => .pickF rfl hb761 rfl rfl rfl .mk) ?_
                        refine .f [19, 12] rfl (by kernel_rfl) rfl rfl (fun ex => .move rfl rfl rfl .mk) ?_
                        refine split (decide (x763 < 0)) (fun hb771 => ?_) (fun hb771 => ?_)
                        · have hd := hd.1 hb771
                          refine .f [20] rfl (by kernel_rfl) rfl rfl (fun ex => .gno rfl rfl hb771 rfl rfl .mk) ?_
                          refine .f [21, 20] rfl (by kernel_rfl) rfl rfl (fun ex => .gno rfl rfl hb771 rfl rfl .mk) ?_
                          refine .f [20] rfl (by kernel_rfl) rfl rfl (fun ex => .gno rfl rfl hb771 rfl rfl .mk) ?_
                          refine .f [23, 20] rfl (by kernel_rfl) rfl rfl (fun ex => .gno rfl rfl hb771 rfl rfl .mk) ?_
                          refine .f [22, 24, 20] rfl (by kernel_rfl) rfl rfl (fun ex => .gno rfl rfl hb771 rfl rfl .mk) ?_
                          refine .f [25, 20] rfl (by kernel_rfl) rfl rfl (fun ex => .gno rfl rfl hb771 rfl rfl .mk) ?_
                          refine .f [20] rfl (by kernel_rfl) rfl rfl (fun ex => .gno rfl rfl hb771 rfl rfl .mk) ?_
                          refine .f [27, 20] rfl (by kernel_rfl) rfl rfl (fun ex => .gno rfl rfl hb771 rfl rfl .mk) ?_
                          refine .f [28, 20] rfl (by kernel_rfl) rfl rfl (fun ex => .gno rfl rfl hb771 rfl rfl .mk) ?_
                          refine .f [26, 29, 20] rfl (by kernel_rfl) rfl rfl (fun ex => .gno rfl rfl hb771 rfl rfl .mk) ?_
                          refine .f [20, 30] rfl (by kernel_rfl) rfl rfl (fun ex => .pickT rfl hb771 rfl rfl rfl .mk) ?_
                          refine .e 32 (by kernel_rfl) (by kernel_rfl) (by kernel_rfl) ?_
                          refine .nil' fun c w ho hs => Cod.at (E := [(1, _), (3, _), (101, _)]) (ho.sub ⟨rfl, rfl, rfl, trivial⟩) hs ?_
                          refine .condKT rfl rfl ?_
                          refine .seq ?_
                          refine .region ?_
                          refine .skips 1 rfl ?_
                          refine .nil' fun c w ho hs => Cod.at (E := [(2, _)]) (ho.sub ⟨rfl, trivial⟩) hs ?_
                          refine .drop .z ?_
                          exact .ret (pret Tryz.results17 (.t rfl .n) le701 ⟨false, rfl, hd⟩)
                        · have hd := hd.2 hb771
                          refine .f [20] rfl (by kernel_rfl) rfl rfl (fun ex => .gyes rfl rfl hb771 (.fieldAddr Tryz.underlying29 rfl Tryz.sizeOf26 rfl (o := 2) rfl rfl rfl .mk)) ?_
                          refine .f [21, 20] rfl (by kernel_rfl) rfl rfl (fun ex => .gyes rfl rfl hb771 (.load1 Tryz.isAgg26 rfl .z rfl rfl rfl .mk)) ?_
                          refine .f [20] rfl (by kernel_rfl) rfl rfl (fun ex => .gyes rfl rfl hb771 (.move rfl rfl rfl .mk)) ?_
                          refine .f [23, 20] rfl (by kernel_rfl) rfl rfl (fun ex => .gyes rfl rfl hb771 (.add rfl rfl rfl rfl .mk)) ?_
                          obtain ⟨h772, x773, hx774, hd⟩ := hd
                          obtain ⟨b775, o776, cs777, e778, hC779, hr780⟩ := R3.2 _ _ hx774
                          cases hr780
                          refine .f [22, 24, 20] rfl (by kernel_rfl) rfl rfl (fun ex => .gyes rfl rfl hb771 (.ixa Tryz.underlying26 Tryz.sizeOf3 rfl e778 rfl h772 (idx_lt hx774 h772) rfl rfl .mk)) ?_
                          refine .f [25, 20] rfl (by kernel_rfl) rfl rfl (fun ex => .gyes rfl rfl hb771 (.ld1 (j := 0) Tryz.isAgg3 hC779 rfl rfl rfl rfl rfl .mk)) ?_
                          refine .f [20] rfl (by kernel_rfl) rfl rfl (fun ex => .gyes rfl rfl hb771 (.fieldAddr Tryz.underlying29 rfl Tryz.sizeOf26 rfl (o := 3) rfl rfl rfl .mk)) ?_
                          refine .f [27, 20] rfl (by kernel_rfl) rfl rfl (fun ex => .gyes rfl rfl hb771 (.load1 Tryz.isAgg26 rfl .z rfl rfl rfl .mk)) ?_
                          refine .f [28, 20] rfl (by kernel_rfl) rfl rfl (fun ex => .gyes rfl rfl hb771 (.len Tryz.underlying26 rfl rfl rfl rfl .mk)) ?_
                          refine .f [26, 29, 20] rfl (by kernel_rfl) rfl rfl (fun ex => .gyes rfl rfl hb771 (.gt rfl rfl rfl rfl .mk)) ?_
                          refine .f [20, 30] rfl (by kernel_rfl) rfl rfl (fun ex => .pickF rfl hb771 rfl rfl rfl .mk) ?_
                          refine .e 32 (by kernel_rfl) (by kernel_rfl) (by kernel_rfl) ?_
                          refine .nil' fun c w ho hs => Cod.at (E := [(1, _), (3, _), (101, _)]) (ho.sub ⟨rfl, rfl, rfl, trivial⟩) hs ?_
                          refine .cond rfl (fun hb781 => ?_) (fun hb781 => ?_)
                          · have hd := hd.1 hb781
                            refine .seq ?_
                            refine .region ?_
                            refine .skips 1 rfl ?_
                            refine .nil' fun c w ho hs => Cod.at (E := [(2, _)]) (ho.sub ⟨rfl, trivial⟩) hs ?_
                            refine .drop .z ?_
                            exact .ret (pret Tryz.results17 (.t rfl .n) le701 ⟨false, rfl, hd⟩)
                          · have hd := hd.2 hb781
                            refine .skip' fun c w ho hs => Cod.at (E := [(1, _), (3, _)]) (ho.sub ⟨rfl, rfl, trivial⟩) hs ?_
                            refine .seq ?_
                            refine .region ?_
                            refine .fieldAddr Tryz.underlying29 rfl Tryz.sizeOf26 rfl (o := 2) rfl rfl rfl ?_
                            refine .load1 Tryz.isAgg26 rfl .z rfl rfl rfl ?_
                            refine .skips 1 rfl ?_
                            obtain ⟨h791, x792, hx793, hd⟩ := hd
                            obtain ⟨b794, o795, cs796, e797, hC798, hr799⟩ := R3.2 _ _ hx793
                            cases hr799
                            refine .ixa Tryz.underlying26 Tryz.sizeOf3 rfl e797 rfl h791 (idx_lt hx793 h791) rfl rfl ?_
                            refine .ld1 (j := 0) Tryz.isAgg3 hC798 rfl rfl rfl rfl rfl ?_
                            refine .skips 1 rfl ?_
                            refine .nil' fun c w ho hs => Cod.at (E := [(1, _), (3, _), (4, _)]) (ho.sub ⟨rfl, rfl, rfl, trivial⟩) hs ?_
                            refine .block ?_
                            refine .loop hd (fun (s941 : Int) c w => ∃ I_, IH.le I699 I_ ∧ Ok 156 [(1, .pointer (some ⟨b12, 0, none⟩)), (3, .int .i64 s697), (4, .int .i64 s941)] c ∧ Sym w0 M I I_ [pto b12 (.cells #[.int .i64 a0.Rows, .int .i64 a0.Cols, .slice p1 a0.Start.length c2, .slice p4 a0.Col.length c5, .slice p7 a0.Val.length c8] 29 (0, 0))] w) (fun c w ho hs => ⟨I699, (.refl _), ho.sub ⟨rfl, rfl, rfl, trivial⟩, hs.pick (.c .z .n)⟩) ?_
                            rintro s941 next942 hd c w hst
                            obtain ⟨I943, hl944, hok, hsym⟩ := hst
                            have le945 := IH.le.trans le701 hl944
                            have le946 := IH.le.trans (.refl _) hl944
                            replace R3 := R3.mono hl944
                            replace R6 := R6.mono hl944
                            replace R9 := R9.mono hl944
                            refine Cod.at hok hsym ?_
                            refine .seq ?_
                            refine .seq ?_
                            refine .region ?_
                            refine .skips 1 rfl ?_
                            refine .fieldAddr Tryz.underlying29 rfl Tryz.sizeOf26 rfl (o := 2) rfl rfl rfl ?_
                            refine .load1 Tryz.isAgg26 rfl .z rfl rfl rfl ?_
                            refine .skips 1 rfl ?_
                            refine .add rfl rfl rfl rfl ?_
                            obtain ⟨h957, x958, hx959, hd⟩ := hd
                            obtain ⟨b960, o961, cs962, e963, hC964, hr965⟩ := R3.2 _ _ hx959
                            cases hr965
                            refine .ixa Tryz.underlying26 Tryz.sizeOf3 rfl e963 rfl h957 (idx_lt hx959 h957) rfl rfl ?_
                            refine .ld1 (j := 0) Tryz.isAgg3 hC964 rfl rfl rfl rfl rfl ?_
                            refine .lt rfl rfl rfl rfl ?_
                            refine .nil' fun c w ho hs => Cod.at (E := [(1, _), (3, _), (4, _), (114, _)]) (ho.sub ⟨rfl, rfl, rfl, rfl, trivial⟩) hs ?_
                            refine .cond rfl (fun hb966 => ?_) (fun hb966 => ?_)
                            · have hd := hd.1 hb966
                              refine .skip' fun c w ho hs => Cod.at (E := [(1, _), (3, _), (4, _)]) (ho.sub ⟨rfl, rfl, rfl, trivial⟩) hs ?_
                              refine .seq ?_
                              refine .block ?_
                              refine .seq ?_
                              refine .draw [some 0, some 1, some 2, some 3, some 4, some 5, some 6, some 7, some 8, some 9, some 10, some 11, some 12, some 13, some 14, some 15, some 16, some 17, some 18, some 19, some 20, some 21, some 22, some 23, some 24, some 25, some 26, some 27, some 28, some 29, some 30, some 31, some 32, some 33, some 34, some 35, some 36, some 37, some 38] 39 MX (by kernel_rfl) (by kernel_rfl) (by kernel_rfl) (by kernel_rfl) (by kernel_rfl) (by kernel_rfl) (by kernel_rfl) (fun ex => (pto b12 (.cells #[.int .i64 a0.Rows, .int .i64 a0.Cols, .slice p1 a0.Start.length c2, .slice p4 a0.Col.length c5, .slice p7 a0.Val.length c8] 29 (0, 0))) :: ex) (fun _ _ => (.s .z)) rfl ?_
                              refine .f [] rfl (by kernel_rfl) rfl rfl (fun ex => .fieldAddr Tryz.underlying29 rfl Tryz.sizeOf26 rfl (o := 3) rfl rfl rfl .mk) ?_
                              refine .f [0] rfl (by kernel_rfl) rfl rfl (fun ex => .load1 Tryz.isAgg26 rfl .z rfl rfl rfl .mk) ?_
                              refine .f [] rfl (by kernel_rfl) rfl rfl (fun ex => .move rfl rfl rfl .mk) ?_
                              obtain ⟨h967, x968, hx969, hd⟩ := hd
                              obtain ⟨b970, o971, cs972, e973, hC974, hr975⟩ := R6.2 _ _ hx969
                              cases hr975
                              refine .f [1, 2] rfl (by kernel_rfl) rfl rfl (fun ex => .ixa Tryz.underlying26 Tryz.sizeOf3 rfl e973 rfl h967 (idx_lt hx969 h967) rfl rfl .mk) ?_
                              refine .f [3] rfl (by kernel_rfl) rfl rfl (fun ex => .ld1 (j := 0) Tryz.isAgg3 hC974 rfl rfl rfl rfl rfl .mk) ?_
                              refine .f [4] rfl (by kernel_rfl) rfl rfl (fun ex => .lt rfl rfl rfl rfl .mk) ?_
                              refine .f [5] rfl (by kernel_rfl) rfl rfl (fun ex => .move rfl rfl rfl .mk) ?_
                              refine split (decide (x968 < 0)) (fun hb976 => ?_) (fun hb976 => ?_)
                              · have hd := hd.1 hb976
                                refine .f [6] rfl (by kernel_rfl) rfl rfl (fun ex => .gno rfl rfl hb976 rfl rfl .mk) ?_
                                refine .f [7, 6] rfl (by kernel_rfl) rfl rfl (fun ex => .gno rfl rfl hb976 rfl rfl .mk) ?_
                                refine .f [6] rfl (by kernel_rfl) rfl rfl (fun ex => .gno rfl rfl hb976 rfl rfl .mk) ?_
                                refine .f [8, 9, 6] rfl (by kernel_rfl) rfl rfl (fun ex => .gno rfl rfl hb976 rfl rfl .mk) ?_
                                refine .f [10, 6] rfl (by kernel_rfl) rfl rfl (fun ex => .gno rfl rfl hb976 rfl rfl .mk) ?_
                                refine .f [6] rfl (by kernel_rfl) rfl rfl (fun ex => .gno rfl rfl hb976 rfl rfl .mk) ?_
                                refine .f [12, 6] rfl (by kernel_rfl) rfl rfl (fun ex => .gno rfl rfl hb976 rfl rfl .mk) ?_
                                refine .f [11, 13, 6] rfl (by kernel_rfl) rfl rfl (fun ex => .gno rfl rfl hb976 rfl rfl .mk) ?_
                                refine .f [6, 14] rfl (by kernel_rfl) rfl rfl (fun ex => .pickT rfl hb976 rfl rfl rfl .mk) ?_
                                refine .f [15, 6] rfl (by kernel_rfl) rfl rfl (fun ex => .move rfl rfl rfl .mk) ?_
                                refine .f [16] rfl (by kernel_rfl) rfl rfl (fun ex => .gno rfl rfl rfl rfl rfl .mk) ?_
                                refine .f [16] rfl (by kernel_rfl) rfl rfl (fun ex => .gno rfl rfl rfl rfl rfl .mk) ?_
                                refine .f [18, 16] rfl (by kernel_rfl) rfl rfl (fun ex => .gno rfl rfl rfl rfl rfl .mk) ?_
                                refine .f [16] rfl (by kernel_rfl) rfl rfl (fun ex => .gno rfl rfl rfl rfl rfl .mk) ?_
                                refine .f [19, 20, 16] rfl (by kernel_rfl) rfl rfl (fun ex => .gno rfl rfl rfl rfl rfl .mk) ?_
                                refine .f [21, 16] rfl (by kernel_rfl) rfl rfl (fun ex => .gno rfl rfl rfl rfl rfl .mk) ?_
                                refine .f [17, 22, 16] rfl (by kernel_rfl) rfl rfl (fun ex => .gno rfl rfl rfl rfl rfl .mk) ?_
                                refine .f [23, 16, 16] rfl (by kernel_rfl) rfl rfl (fun ex => .gno rfl rfl rfl rfl rfl .mk) ?_
                                refine .f [24] rfl (by kernel_rfl) rfl rfl (fun ex => .gnoU rfl rfl rfl rfl .mk) ?_
                                refine .f [25, 24] rfl (by kernel_rfl) rfl rfl (fun ex => .gnoU rfl rfl rfl rfl .mk) ?_
                                refine .f [24] rfl (by kernel_rfl) rfl rfl (fun ex => .gnoU rfl rfl rfl rfl .mk) ?_
                                refine .f [26, 27, 24] rfl (by kernel_rfl) rfl rfl (fun ex => .gnoU rfl rfl rfl rfl .mk) ?_
                                refine .f [28, 24] rfl (by kernel_rfl) rfl rfl (fun ex => .gnoU rfl rfl rfl rfl .mk) ?_
                                refine .f [24] rfl (by kernel_rfl) rfl rfl (fun ex => .gnoU rfl rfl rfl rfl .mk) ?_
                                refine .f [30, 24] rfl (by kernel_rfl) rfl rfl (fun ex => .gnoU rfl rfl rfl rfl .mk) ?_
                                refine .f [24] rfl (by kernel_rfl) rfl rfl (fun ex => .gnoU rfl rfl rfl rfl .mk) ?_
                                refine .f [32, 24] rfl (by kernel_rfl) rfl rfl (fun ex => .gnoU rfl rfl rfl rfl .mk) ?_
                                refine .f [31, 33, 24] rfl (by kernel_rfl) rfl rfl (fun ex => .gnoU rfl rfl rfl rfl .mk) ?_
                                refine .f [34, 24] rfl (by kernel_rfl) rfl rfl (fun ex => .gnoU rfl rfl rfl rfl .mk) ?_
                                refine .f [29, 35, 24] rfl (by kernel_rfl) rfl rfl (fun ex => .gnoU rfl rfl rfl rfl .mk) ?_
                                refine .f [24, 36, 16] rfl (by kernel_rfl) rfl rfl (fun ex => .gno rfl rfl rfl rfl rfl .mk) ?_
                                refine .f [16, 37] rfl (by kernel_rfl) rfl rfl (fun ex => .pickT rfl rfl rfl rfl rfl .mk) ?_
                                refine .e 39 (by kernel_rfl) (by kernel_rfl) (by kernel_rfl) ?_
                                refine .nil' fun c w ho hs => Cod.at (E := [(1, _), (3, _), (4, _), (155, _)]) (ho.sub ⟨rfl, rfl, rfl, rfl, trivial⟩) hs ?_
                                refine .condKT rfl rfl ?_
                                refine .seq ?_
                                refine .region ?_
                                refine .skips 1 rfl ?_
                                refine .nil' fun c w ho hs => Cod.at (E := [(2, _)]) (ho.sub ⟨rfl, trivial⟩) hs ?_
                                refine .drop .z ?_
                                exact .ret (pret Tryz.results17 (.t rfl .n) le945 ⟨false, rfl, hd⟩)
                              · have hd := hd.2 hb976
                                refine .f [6] rfl (by kernel_rfl) rfl rfl (fun ex => .gyes rfl rfl hb976 (.fieldAddr Tryz.underlying29 rfl Tryz.sizeOf26 rfl (o := 3) rfl rfl rfl .mk)) ?_
                                refine .f [7, 6] rfl (by kernel_rfl) rfl rfl (fun ex => .gyes rfl rfl hb976 (.load1 Tryz.isAgg26 rfl .z rfl rfl rfl .mk)) ?_
                                refine .f [6] rfl (by kernel_rfl) rfl rfl (fun ex => .gyes rfl rfl hb976 (.move rfl rfl rfl .mk)) ?_
                                obtain ⟨h977, x978, hx979, hd⟩ := hd
                                obtain ⟨b980, o981, cs982, e983, hC984, hr985⟩ := R6.2 _ _ hx979
                                cases hr985
                                refine .f [8, 9, 6] rfl (by kernel_rfl) rfl rfl (fun ex => .gyes rfl rfl hb976 (.ixa Tryz.underlying26 Tryz.sizeOf3 rfl e983 rfl h977 (idx_lt hx979 h977) rfl rfl .mk)) ?_
                                refine .f [10, 6] rfl (by kernel_rfl) rfl rfl (fun ex => .gyes rfl rfl hb976 (.ld1 (j := 0) Tryz.isAgg3 hC984 rfl rfl rfl rfl rfl .mk)) ?_
                                refine .f [6] rfl (by kernel_rfl) rfl rfl (fun ex => .gyes rfl rfl hb976 (.fieldAddr Tryz.underlying29 rfl Tryz.sizeOf3 rfl (o := 1) rfl rfl rfl .mk)) ?_
                                refine .f [12, 6] rfl (by kernel_rfl) rfl rfl (fun ex => .gyes rfl rfl hb976 (.load1 Tryz.isAgg3 rfl .z rfl rfl rfl .mk)) ?_
                                refine .f [11, 13, 6] rfl (by kernel_rfl) rfl rfl (fun ex => .gyes rfl rfl hb976 (.ge rfl rfl rfl rfl .mk)) ?_
                                refine .f [6, 14] rfl (by kernel_rfl) rfl rfl (fun ex => .pickF rfl hb976 rfl rfl rfl .mk) ?_
                                refine .f [15, 6] rfl (by kernel_rfl) rfl rfl (fun ex => .move rfl rfl rfl .mk) ?_
                                refine split (decide (a0.Cols ≤ x978)) (fun hb986 => ?_) (fun hb986 => ?_)
                                · have hd := hd.1 hb986
                                  refine .f [16] rfl (by kernel_rfl) rfl rfl (fun ex => .gno rfl rfl hb986 rfl rfl .mk) ?_
                                  refine .f [16] rfl (by kernel_rfl) rfl rfl (fun ex => .gno rfl rfl hb986 rfl rfl .mk) ?_
                                  refine .f [18, 16] rfl (by kernel_rfl) rfl rfl (fun ex => .gno rfl rfl hb986 rfl rfl .mk) ?_
                                  refine .f [16] rfl (by kernel_rfl) rfl rfl (fun ex => .gno rfl rfl hb986 rfl rfl .mk) ?_
                                  refine .f [19, 20, 16] rfl (by kernel_rfl) rfl rfl (fun ex => .gno rfl rfl hb986 rfl rfl .mk) ?_
                                  refine .f [21, 16] rfl (by kernel_rfl) rfl rfl (fun ex => .gno rfl rfl hb986 rfl rfl .mk) ?_
                                  refine .f [17, 22, 16] rfl (by kernel_rfl) rfl rfl (fun ex => .gno rfl rfl hb986 rfl rfl .mk) ?_
                                  refine .f [23, 16, 16] rfl (by kernel_rfl) rfl rfl (fun ex => .gno rfl rfl hb986 rfl rfl .mk) ?_
                                  refine .f [24] rfl (by kernel_rfl) rfl rfl (fun ex => .gnoU rfl rfl rfl rfl .mk) ?_
                                  refine .f [25, 24] rfl (by kernel_rfl) rfl rfl (fun ex => .gnoU rfl rfl rfl rfl .mk) ?_
                                  refine .f [24] rfl (by kernel_rfl) rfl rfl (fun ex => .gnoU rfl rfl rfl rfl .mk) ?_
                                  refine .f [26, 27, 24] rfl (by kernel_rfl) rfl rfl (fun ex => .gnoU rfl rfl rfl rfl .mk) ?_
                                  refine .f [28, 24] rfl (by kernel_rfl) rfl rfl (fun ex => .gnoU rfl rfl rfl rfl .mk) ?_
                                  refine .f [24] rfl (by kernel_rfl) rfl rfl (fun ex => .gnoU rfl rfl rfl rfl .mk) ?_
                                  refine .f [30, 24] rfl (by kernel_rfl) rfl rfl (fun ex => .gnoU rfl rfl rfl rfl .mk) ?_
                                  refine .f [24] rfl (by kernel_rfl) rfl rfl (fun ex => .gnoU rfl rfl rfl rfl .mk) ?_
                                  refine .f [32, 24] rfl (by kernel_rfl) rfl rfl (fun ex => .gnoU rfl rfl rfl rfl .mk) ?_
                                  refine .f [31, 33, 24] rfl (by kernel_rfl) rfl rfl (fun ex => .gnoU rfl rfl rfl rfl .mk) ?_
                                  refine .f [34, 24] rfl (by kernel_rfl) rfl rfl (fun ex => .gnoU rfl rfl rfl rfl .mk) ?_
                                  refine .f [29, 35, 24] rfl (by kernel_rfl) rfl rfl (fun ex => .gnoU rfl rfl rfl rfl .mk) ?_
                                  refine .f [24, 36, 16] rfl (by kernel_rfl) rfl rfl (fun ex => .gno rfl rfl hb986 rfl rfl .mk) ?_
                                  refine .f [16, 37] rfl (by kernel_rfl) rfl rfl (fun ex => .pickT rfl hb986 rfl rfl rfl .mk) ?_
                                  refine .e 39 (by kernel_rfl) (by kernel_rfl) (by kernel_rfl) ?_
                                  refine .nil' fun c w ho hs => Cod.at (E := [(1, _), (3, _), (4, _), (155, _)]) (ho.sub ⟨rfl, rfl, rfl, rfl, trivial⟩) hs ?_
                                  refine .condKT rfl rfl ?_
                                  refine .seq ?_
                                  refine .region ?_
                                  refine .skips 1 rfl ?_
                                  refine .nil' fun c w ho hs => Cod.at (E := [(2, _)]) (ho.sub ⟨rfl, trivial⟩) hs ?_
                                  refine .drop .z ?_
                                  exact .ret (pret Tryz.results17 (.t rfl .n) le945 ⟨false, rfl, hd⟩)
                                · have hd := hd.2 hb986
                                  refine .f [16] rfl (by kernel_rfl) rfl rfl (fun ex => .gyes rfl rfl hb986 (.move rfl rfl rfl .mk)) ?_
                                  refine .f [16] rfl (by kernel_rfl) rfl rfl (fun ex => .gyes rfl rfl hb986 (.fieldAddr Tryz.underlying29 rfl Tryz.sizeOf26 rfl (o := 2) rfl rfl rfl .mk)) ?_
                                  refine .f [18, 16] rfl (by kernel_rfl) rfl rfl (fun ex => .gyes rfl rfl hb986 (.load1 Tryz.isAgg26 rfl .z rfl rfl rfl .mk)) ?_
                                  refine .f [16] rfl (by kernel_rfl) rfl rfl (fun ex => .gyes rfl rfl hb986 (.move rfl rfl rfl .mk)) ?_
                                  obtain ⟨h987, x988, hx989, hd⟩ := hd
                                  obtain ⟨b990, o991, cs992, e993, hC994, hr995⟩ := R3.2 _ _ hx989
                                  cases hr995
                                  refine .f [19, 20, 16] rfl (by kernel_rfl) rfl rfl (fun ex => .gyes rfl rfl hb986 (.ixa Tryz.underlying26 Tryz.sizeOf3 rfl e993 rfl h987 (idx_lt hx989 h987) rfl rfl .mk)) ?_
                                  refine .f [21, 16] rfl (by kernel_rfl) rfl rfl (fun ex => .gyes rfl rfl hb986 (.ld1 (j := 0) Tryz.isAgg3 hC994 rfl rfl rfl rfl rfl .mk)) ?_
                                  refine .f [17, 22, 16] rfl (by kernel_rfl) rfl rfl (fun ex => .gyes rfl rfl hb986 (.gt rfl rfl rfl rfl .mk)) ?_
                                  refine .f [23, 16, 16] rfl (by kernel_rfl) rfl rfl (fun ex => .gyes rfl rfl hb986 (.move rfl rfl rfl .mk)) ?_
                                  refine split (decide (x988 < s941)) (fun hb996 => ?_) (fun hb996 => ?_)
                                  · have hd := hd.1 hb996
                                    refine .f [24] rfl (by kernel_rfl) rfl rfl (fun ex => .gyes rfl rfl hb996 (.fieldAddr Tryz.underlying29 rfl Tryz.sizeOf26 rfl (o := 3) rfl rfl rfl .mk)) ?_
                                    refine .f [25, 24] rfl (by kernel_rfl) rfl rfl (fun ex => .gyes rfl rfl hb996 (.load1 Tryz.isAgg26 rfl .z rfl rfl rfl .mk)) ?_
                                    refine .f [24] rfl (by kernel_rfl) rfl rfl (fun ex => .gyes rfl rfl hb996 (.move rfl rfl rfl .mk)) ?_
                                    obtain ⟨h997, x998, hx999, hd⟩ := hd
                                    obtain ⟨b1000, o1001, cs1002, e1003, hC1004, hr1005⟩ := R6.2 _ _ hx999
                                    cases hr1005
                                    refine .f [26, 27, 24] rfl (by kernel_rfl) rfl rfl (fun ex => .gyes rfl rfl hb996 (.ixa Tryz.underlying26 Tryz.sizeOf3 rfl e1003 rfl h997 (idx_lt hx999 h997) rfl rfl .mk)) ?_
                                    refine .f [28, 24] rfl (by kernel_rfl) rfl rfl (fun ex => .gyes rfl rfl hb996 (.ld1 (j := 0) Tryz.isAgg3 hC1004 rfl rfl rfl rfl rfl .mk)) ?_
                                    refine .f [24] rfl (by kernel_rfl) rfl rfl (fun ex => .gyes rfl rfl hb996 (.fieldAddr Tryz.underlying29 rfl Tryz.sizeOf26 rfl (o := 3) rfl rfl rfl .mk)) ?_
                                    refine .f [30, 24] rfl (by kernel_rfl) rfl rfl (fun ex => .gyes rfl rfl hb996 (.load1 Tryz.isAgg26 rfl .z rfl rfl rfl .mk)) ?_
                                    refine .f [24] rfl (by kernel_rfl) rfl rfl (fun ex => .gyes rfl rfl hb996 (.move rfl rfl rfl .mk)) ?_
                                    refine .f [32, 24] rfl (by kernel_rfl) rfl rfl (fun ex => .gyes rfl rfl hb996 (.sub' rfl rfl rfl rfl .mk)) ?_
                                    obtain ⟨h1006, x1007, hx1008, hd⟩ := hd
                                    obtain ⟨b1009, o1010, cs1011, e1012, hC1013, hr1014⟩ := R6.2 _ _ hx1008
                                    cases hr1014
                                    refine .f [31, 33, 24] rfl (by kernel_rfl) rfl rfl (fun ex => .gyes rfl rfl hb996 (.ixa Tryz.underlying26 Tryz.sizeOf3 rfl e1012 rfl h1006 (idx_lt hx1008 h1006) rfl rfl .mk)) ?_
                                    refine .f [34, 24] rfl (by kernel_rfl) rfl rfl (fun ex => .gyes rfl rfl hb996 (.ld1 (j := 0) Tryz.isAgg3 hC1013 rfl rfl rfl rfl rfl .mk)) ?_
                                    refine .f [29, 35, 24] rfl (by kernel_rfl) rfl rfl (fun ex => .gyes rfl rfl hb996 (.le' rfl rfl rfl rfl .mk)) ?_
                                    refine .f [24, 36, 16] rfl (by kernel_rfl) rfl rfl (fun ex => .gyes rfl rfl hb986 (.pickT rfl hb996 rfl rfl rfl .mk)) ?_
                                    refine .f [16, 37] rfl (by kernel_rfl) rfl rfl (fun ex => .pickF rfl hb986 rfl rfl rfl .mk) ?_
                                    refine .e 39 (by kernel_rfl) (by kernel_rfl) (by kernel_rfl) ?_
                                    refine .nil' fun c w ho hs => Cod.at (E := [(1, _), (3, _), (4, _), (155, _)]) (ho.sub ⟨rfl, rfl, rfl, rfl, trivial⟩) hs ?_
                                    refine .cond rfl (fun hb1015 => ?_) (fun hb1015 => ?_)
                                    · have hd := hd.1 hb1015
                                      refine .seq ?_
                                      refine .region ?_
                                      refine .skips 1 rfl ?_
                                      refine .nil' fun c w ho hs => Cod.at (E := [(2, _)]) (ho.sub ⟨rfl, trivial⟩) hs ?_
                                      refine .drop .z ?_
                                      exact .ret (pret Tryz.results17 (.t rfl .n) le945 ⟨false, rfl, hd⟩)
                                    · have hd := hd.2 hb1015
                                      refine .skip' fun c w ho hs => Cod.at (E := [(1, _), (3, _), (4, _)]) (ho.sub ⟨rfl, rfl, rfl, trivial⟩) hs ?_
                                      refine .region ?_
                                      refine .skips 1 rfl ?_
                                      refine .add rfl rfl rfl rfl ?_
                                      refine .sub (E' := [(1, _), (3, _), (115, _), (116, _)]) ⟨rfl, rfl, rfl, rfl, trivial⟩ ?_
                                      refine .skips 1 rfl ?_
                                      exact .nil' fun c w ho hs => ⟨(w64 (s941 + 1)), hd, I943, le946, ho.sub ⟨rfl, rfl, rfl, trivial⟩, hs.pick (.c .z .n)⟩
                                  · have hd := hd.2 hb996
                                    refine .f [24] rfl (by kernel_rfl) rfl rfl (fun ex => .gno rfl rfl hb996 rfl rfl .mk) ?_
                                    refine .f [25, 24] rfl (by kernel_rfl) rfl rfl (fun ex => .gno rfl rfl hb996 rfl rfl .mk) ?_
                                    refine .f [24] rfl (by kernel_rfl) rfl rfl (fun ex => .gno rfl rfl hb996 rfl rfl .mk) ?_
                                    refine .f [26, 27, 24] rfl (by kernel_rfl) rfl rfl (fun ex => .gno rfl rfl hb996 rfl rfl .mk) ?_
                                    refine .f [28, 24] rfl (by kernel_rfl) rfl rfl (fun ex => .gno rfl rfl hb996 rfl rfl .mk) ?_
                                    refine .f [24] rfl (by kernel_rfl) rfl rfl (fun ex => .gno rfl rfl hb996 rfl rfl .mk) ?_
                                    refine .f [30, 24] rfl (by kernel_rfl) rfl rfl (fun ex => .gno rfl rfl hb996 rfl rfl .mk) ?_
                                    refine .f [24] rfl (by kernel_rfl) rfl rfl (fun ex => .gno rfl rfl hb996 rfl rfl .mk) ?_
                                    refine .f [32, 24] rfl (by kernel_rfl) rfl rfl (fun ex => .gno rfl rfl hb996 rfl rfl .mk) ?_
                                    refine .f [31, 33, 24] rfl (by kernel_rfl) rfl rfl (fun ex => .gno rfl rfl hb996 rfl rfl .mk) ?_
                                    refine .f [34, 24] rfl (by kernel_rfl) rfl rfl (fun ex => .gno rfl rfl hb996 rfl rfl .mk) ?_
                                    refine .f [29, 35, 24] rfl (by kernel_rfl) rfl rfl (fun ex => .gno rfl rfl hb996 rfl rfl .mk) ?_
                                    refine .f [24, 36, 16] rfl (by kernel_rfl) rfl rfl (fun ex => .gyes rfl rfl hb986 (.pickF rfl hb996 rfl rfl rfl .mk)) ?_
                                    refine .f [16, 37] rfl (by kernel_rfl) rfl rfl (fun ex => .pickF rfl hb986 rfl rfl rfl .mk) ?_
                                    refine .e 39 (by kernel_rfl) (by kernel_rfl) (by kernel_rfl) ?_
                                    refine .nil' fun c w ho hs => Cod.at (E := [(1, _), (3, _), (4, _), (155, _)]) (ho.sub ⟨rfl, rfl, rfl, rfl, trivial⟩) hs ?_
                                    refine .condKF rfl rfl ?_
                                    refine .skip' fun c w ho hs => Cod.at (E := [(1, _), (3, _), (4, _)]) (ho.sub ⟨rfl, rfl, rfl, trivial⟩) hs ?_
                                    refine .region ?_
                                    refine .skips 1 rfl ?_
                                    refine .add rfl rfl rfl rfl ?_
                                    refine .sub (E' := [(1, _), (3, _), (115, _), (116, _)]) ⟨rfl, rfl, rfl, rfl, trivial⟩ ?_
                                    refine .skips 1 rfl ?_
                                    exact .nil' fun c w ho hs => ⟨(w64 (s941 + 1)), hd, I943, le946, ho.sub ⟨rfl, rfl, rfl, trivial⟩, hs.pick (.c .z .n)⟩
                            · have hd := hd.2 hb966
                              refine .exit fun c w ho hs => Cod.at (E := [(1, _), (3, _)]) (ho.sub ⟨rfl, rfl, trivial⟩) hs ?_
                              refine .region ?_
                              refine .skips 1 rfl ?_
                              refine .add rfl rfl rfl rfl ?_
                              refine .sub (E' := [(1, _), (68, _), (69, _)]) ⟨rfl, rfl, rfl, trivial⟩ ?_
                              refine .skips 1 rfl ?_
                              exact .nil' fun c w ho hs => ⟨(w64 (s697 + 1)), hd, I943, le945, ho.sub ⟨rfl, rfl, trivial⟩, hs.pick (.c .z .n)⟩
                    · have hd := hd.2 hb703
                      refine .exit fun c w ho hs => Cod.at (E := []) (ho.sub trivial) hs ?_
                      refine .drop .z ?_
                      refine .seq ?_
                      refine .region ?_
                      refine .skips 1 rfl ?_
                      refine .nil' fun c w ho hs => Cod.at (E := [(2, _)]) (ho.sub ⟨rfl, trivial⟩) hs ?_
                      exact .ret (pret Tryz.results17 (.t rfl .n) le701 ⟨true, rfl, hd⟩)

theorem W_ref07_Sure {I : IH} {a0 : Rows} {p1 : Option Addr} {c2 : Nat} {p4 : Option Addr} {c5 : Nat} {p7 : Option Addr} {c8 : Nat} {Q : Rows → Prop} (R3 : RepSl eI64 I p1 c2 a0.Start) (R6 : RepSl eI64 I p4 c5 a0.Col) (R9 : RepSl eI64 I p7 c8 a0.Val) (hd : ref07_Sure a0 Q) :
    PFun Tryz.prog 52 [.agg #[.int .i64 a0.Rows, .int .i64 a0.Cols, .slice p1 a0.Start.length c2, .slice p4 a0.Col.length c5, .slice p7 a0.Val.length c8]] I (fun I_ v => ∃ r p10 c11 p13 c14 p16 c17, v = .agg #[.int .i64 r.Rows, .int .i64 r.Cols, .slice p10 r.Start.length c11, .slice p13 r.Col.length c14, .slice p16 r.Val.length c17] ∧ RepSl eI64 I_ p10 c11 r.Start ∧ RepSl eI64 I_ p13 c14 r.Col ∧ RepSl eI64 I_ p16 c17 r.Val ∧ Q r) := by
  refine Fun.enter Tryz.func52 rfl Tryz.ntmps52 rfl (.c .n) fun w0 M => ?_
  refine .seq ?_
  refine .region ?_
  refine .boxA rfl rfl rfl fun b23 => ?_
  refine .allocA Tryz.zeroValue29 rfl rfl fun b25 => ?_
  refine .nil' fun c w ho hs => Cod.at (E := [(1, _), (2, _)]) (ho.sub ⟨rfl, rfl, trivial⟩) hs ?_
  refine .seq ?_
  refine .seq ?_
  refine .region ?_
  refine .loadW Tryz.isAgg29 Tryz.sizeOf29 rfl (.s .z) rfl rfl rfl ?_
  have hw33 := W_ref07_Right (I := I) R3 R6 R9 hd
  refine .call Tryz.call17 rfl hw33 rfl rfl fun v31 I28 hl29 hv30 => ?_
  obtain ⟨r27, rfl, hd⟩ := hv30
  have le34 := IH.le.trans (.refl _) hl29
  replace R3 := R3.mono hl29
  replace R6 := R6.mono hl29
  replace R9 := R9.mono hl29
  refine .nil' fun c w ho hs => Cod.at (E := [(1, _), (2, _), (4, _)]) (ho.sub ⟨rfl, rfl, rfl, trivial⟩) hs ?_
  refine .cond rfl (fun hb35 => ?_) (fun hb35 => ?_)
  · have hd := hd.1 hb35
    refine .seq ?_
    refine .region ?_
    refine .loadW Tryz.isAgg29 Tryz.sizeOf29 rfl (.s .z) rfl rfl rfl ?_
    refine .storeA Tryz.sizeOf29 rfl rfl .z (.t (.t (.t (.t (.t .nil))))) rfl rfl ?_
    refine .nil' fun c w ho hs => Cod.at (E := [(2, _)]) (ho.sub ⟨rfl, trivial⟩) hs ?_
    refine .drop (.s .z) ?_
    exact .ret (pret Tryz.results52 (.w Tryz.isAgg29 Tryz.sizeOf29 rfl .z rfl .n) le34 ⟨a0, _, _, _, _, _, _, rfl, R3, R6, R9, hd⟩)
  · have hd := hd.2 hb35
    refine .skip' fun c w ho hs => Cod.at (E := [(2, _)]) (ho.sub ⟨rfl, trivial⟩) hs ?_
    refine .drop (.s .z) ?_
    refine .seq ?_
    refine .region ?_
    have hw54 := W_ref07_Empty (I := I28) hd
    refine .callO Tryz.call60 rfl hw54 rfl rfl fun v40 I37 l41 hl38 hv39 => ?_
    obtain ⟨r36, p42, c43, p45, c46, p48, c49, rfl, rfl, hd⟩ := hv39
    have le55 := IH.le.trans le34 hl38
    refine .storeA Tryz.sizeOf29 rfl rfl (.s (.s (.s .z))) (.t (.t (.t (.t (.t .nil))))) rfl rfl ?_
    refine .nil' fun c w ho hs => Cod.at (E := [(2, _)]) (ho.sub ⟨rfl, trivial⟩) hs ?_
    refine .pub .z fun I56 hl57 R58 => ?_
    have le59 := IH.le.trans le55 hl57
    refine .pub .z fun I60 hl61 R62 => ?_
    have le63 := IH.le.trans le59 hl61
    replace R58 := R58.mono hl61
    refine .pub .z fun I64 hl65 R66 => ?_
    have le67 := IH.le.trans le63 hl65
    replace R58 := R58.mono hl65
    replace R62 := R62.mono hl65
    exact .ret (pret Tryz.results52 (.w Tryz.isAgg29 Tryz.sizeOf29 rfl .z rfl .n) le67 ⟨r36, _, _, _, _, _, _, rfl, R58, R62, R66, hd⟩)

theorem W_ref07_Row {I : IH} {a0 : Rows} {a1 : Int} {p1 : Option Addr} {c2 : Nat} {p4 : Option Addr} {c5 : Nat} {p7 : Option Addr} {c8 : Nat} {Q : (List Item) → Prop} (R3 : RepSl eI64 I p1 c2 a0.Start) (R6 : RepSl eI64 I p4 c5 a0.Col) (R9 : RepSl eI64 I p7 c8 a0.Val) (hd : ref07_Row a0 a1 Q) :
    PFun Tryz.prog 22 [.agg #[.int .i64 a0.Rows, .int .i64 a0.Cols, .slice p1 a0.Start.length c2, .slice p4 a0.Col.length c5, .slice p7 a0.Val.length c8], .int .i64 a1] I (fun I_ v => ∃ r p10 c11, v = .slice p10 r.length c11 ∧ RepSl eItem I_ p10 c11 r ∧ Q r) := by
  refine Fun.enter Tryz.func22 rfl Tryz.ntmps22 rfl (.c (.c .n)) fun w0 M => ?_
  refine .seq ?_
  refine .region ?_
  refine .boxA rfl rfl rfl fun b15 => ?_
  refine .skips 1 rfl ?_
  refine .nil' fun c w ho hs => Cod.at (E := [(1, _), (2, _)]) (ho.sub ⟨rfl, rfl, trivial⟩) hs ?_
  refine .seq ?_
  refine .region ?_
  refine .loadW Tryz.isAgg29 Tryz.sizeOf29 rfl .z rfl rfl rfl ?_
  have hw49 := W_ref07_Sure (I := I) R3 R6 R9 hd
  refine .call Tryz.call52 rfl hw49 rfl rfl fun v38 I35 hl36 hv37 => ?_
  obtain ⟨r34, p40, c41, p43, c44, p46, c47, rfl, R42, R45, R48, hd⟩ := hv37
  have le50 := IH.le.trans (.refl _) hl36
  replace R3 := R3.mono hl36
  replace R6 := R6.mono hl36
  replace R9 := R9.mono hl36
  refine .storeA Tryz.sizeOf29 rfl rfl .z (.t (.t (.t (.t (.t .nil))))) rfl rfl ?_
  refine .nil' fun c w ho hs => Cod.at (E := [(1, _), (2, _)]) (ho.sub ⟨rfl, rfl, trivial⟩) hs ?_
  refine .seq ?_
  refine .region ?_
  refine .skips 1 rfl ?_
  refine .nil' fun c w ho hs => Cod.at (E := [(1, _), (2, _), (5, _)]) (ho.sub ⟨rfl, rfl, rfl, trivial⟩) hs ?_
  refine .seq ?_
  refine .seq ?_
  refine .region ?_
  refine .skips 1 rfl ?_
  refine .lt rfl rfl rfl rfl ?_
  refine .skips 1 rfl ?_
  refine split (decide (a1 < 0)) (fun hb53 => ?_) (fun hb53 => ?_)
  · have hd := hd.1 hb53
    rw [hb53]
    refine .skips 5 rfl ?_
    refine .nil' fun c w ho hs => Cod.at (E := [(1, _), (2, _), (5, _), (16, _)]) (ho.sub ⟨rfl, rfl, rfl, rfl, trivial⟩) hs ?_
    refine .condKT rfl rfl ?_
    refine .seq ?_
    refine .region ?_
    refine .skips 2 rfl ?_
    refine .nil' fun c w ho hs => Cod.at (E := [(4, _)]) (ho.sub ⟨rfl, trivial⟩) hs ?_
    refine .drop .z ?_
    exact .ret (pret Tryz.results22 (.t rfl .n) le50 ⟨([] : List Item), _, _, rfl, (.nil _ _ _), hd⟩)
  · have hd := hd.2 hb53
    rw [hb53]
    refine .gyes rfl rfl rfl (.move rfl rfl rfl ?_)
    refine .gyes rfl rfl rfl (.fieldAddr Tryz.underlying29 rfl Tryz.sizeOf3 rfl (o := 0) rfl rfl rfl ?_)
    refine .gyes rfl rfl rfl (.load1 Tryz.isAgg3 rfl .z rfl rfl rfl ?_)
    refine .gyes rfl rfl rfl (.ge rfl rfl rfl rfl ?_)
    refine .skips 1 rfl ?_
    refine .nil' fun c w ho hs => Cod.at (E := [(1, _), (2, _), (5, _), (16, _)]) (ho.sub ⟨rfl, rfl, rfl, rfl, trivial⟩) hs ?_
    refine .cond rfl (fun hb54 => ?_) (fun hb54 => ?_)
    · have hd := hd.1 hb54
      refine .seq ?_
      refine .region ?_
      refine .skips 2 rfl ?_
      refine .nil' fun c w ho hs => Cod.at (E := [(4, _)]) (ho.sub ⟨rfl, trivial⟩) hs ?_
      refine .drop .z ?_
      exact .ret (pret Tryz.results22 (.t rfl .n) le50 ⟨([] : List Item), _, _, rfl, (.nil _ _ _), hd⟩)
    · have hd := hd.2 hb54
      refine .skip' fun c w ho hs => Cod.at (E := [(1, _), (2, _), (5, _)]) (ho.sub ⟨rfl, rfl, rfl, trivial⟩) hs ?_
      refine .seq ?_
      refine .seq ?_
      refine .region ?_
      refine .fieldAddr Tryz.underlying29 rfl Tryz.sizeOf26 rfl (o := 2) rfl rfl rfl ?_
      refine .load1 Tryz.isAgg26 rfl .z rfl rfl rfl ?_
      refine .skips 1 rfl ?_
      obtain ⟨h64, x65, hx66, hd⟩ := hd
      obtain ⟨b67, o68, cs69, e70, hC71, hr72⟩ := R42.2 _ _ hx66
      cases hr72
      refine .ixa Tryz.underlying26 Tryz.sizeOf3 rfl e70 rfl h64 (idx_lt hx66 h64) rfl rfl ?_
      refine .ld1 (j := 0) Tryz.isAgg3 hC71 rfl rfl rfl rfl rfl ?_
      refine .skips 1 rfl ?_
      refine .nil' fun c w ho hs => Cod.at (E := [(1, _), (2, _), (5, _), (6, _)]) (ho.sub ⟨rfl, rfl, rfl, rfl, trivial⟩) hs ?_
      refine .block ?_
      refine .own0 eItem 82 ?_
      refine .loop hd (fun (s : (List Item) × Int) c w => match s with | (s178, s182) => ∃ I_ p179 c180, IH.le I35 I_ ∧ Ok 48 [(1, .int .i64 a1), (2, .pointer (some ⟨b15, 0, none⟩)), (5, .slice p179 s178.length c180), (6, .int .i64 s182)] c ∧ Sym w0 M I I_ [pto b15 (.cells #[.int .i64 r34.Rows, .int .i64 r34.Cols, .slice p40 r34.Start.length c41, .slice p43 r34.Col.length c44, .slice p46 r34.Val.length c47] 29 (0, 0)), OwnSl eItem 82 p179 c180 s178] w) (fun c w ho hs => ⟨I35, _, _, (.refl _), ho.sub ⟨rfl, rfl, rfl, rfl, trivial⟩, hs.pick (.c (.s .z) (.c .z .n))⟩) ?_
      rintro ⟨s178, s182⟩ next184 hd c w hst
      obtain ⟨I185, p179, c180, hl186, hok, hsym⟩ := hst
      have le187 := IH.le.trans le50 hl186
      have le188 := IH.le.trans (.refl _) hl186
      replace R42 := R42.mono hl186
      replace R45 := R45.mono hl186
      replace R48 := R48.mono hl186
      refine Cod.at hok hsym ?_
      refine .seq ?_
      refine .seq ?_
      refine .region ?_
      refine .skips 1 rfl ?_
      refine .fieldAddr Tryz.underlying29 rfl Tryz.sizeOf26 rfl (o := 2) rfl rfl rfl ?_
      refine .load1 Tryz.isAgg26 rfl .z rfl rfl rfl ?_
      refine .skips 1 rfl ?_
      refine .add rfl rfl rfl rfl ?_
      obtain ⟨h199, x200, hx201, hd⟩ := hd
      obtain ⟨b202, o203, cs204, e205, hC206, hr207⟩ := R42.2 _ _ hx201
      cases hr207
      refine .ixa Tryz.underlying26 Tryz.sizeOf3 rfl e205 rfl h199 (idx_lt hx201 h199) rfl rfl ?_
      refine .ld1 (j := 0) Tryz.isAgg3 hC206 rfl rfl rfl rfl rfl ?_
      refine .lt rfl rfl rfl rfl ?_
      refine .nil' fun c w ho hs => Cod.at (E := [(1, _), (2, _), (5, _), (6, _), (30, _)]) (ho.sub ⟨rfl, rfl, rfl, rfl, rfl, trivial⟩) hs ?_
      refine .cond rfl (fun hb208 => ?_) (fun hb208 => ?_)
      · have hd := hd.1 hb208
        refine .skip' fun c w ho hs => Cod.at (E := [(1, _), (2, _), (5, _), (6, _)]) (ho.sub ⟨rfl, rfl, rfl, rfl, trivial⟩) hs ?_
        refine .seq ?_
        refine .block ?_
        refine .ownF (.s .z) fun hne209 => ?_
        refine .draw [some 0, some 1, some 2, some 3, some 4, some 5, some 6, some 7, some 8, some 9, some 10, some 11, some 12, some 13] 14 MX (by kernel_rfl) (by kernel_rfl) (by kernel_rfl) (by kernel_rfl) (by kernel_rfl) (by kernel_rfl) (by kernel_rfl) (fun ex => (pto b15 (.cells #[.int .i64 r34.Rows, .int .i64 r34.Cols, .slice p40 r34.Start.length c41, .slice p43 r34.Col.length c44, .slice p46 r34.Val.length c47] 29 (0, 0))) :: (OwnSl eItem 82 p179 c180 s178) :: ex) (fun _ _ => (.s (.s .z))) rfl ?_
        refine .f [] rfl (by kernel_rfl) rfl rfl (fun ex => .move rfl rfl rfl .mk) ?_
        refine .f [] rfl (by kernel_rfl) rfl rfl (fun ex => .fieldAddr Tryz.underlying29 rfl Tryz.sizeOf26 rfl (o := 3) rfl rfl rfl .mk) ?_
        refine .f [1] rfl (by kernel_rfl) rfl rfl (fun ex => .load1 Tryz.isAgg26 rfl .z rfl rfl rfl .mk) ?_
        refine .f [] rfl (by kernel_rfl) rfl rfl (fun ex => .move rfl rfl rfl .mk) ?_
        obtain ⟨h210, x211, hx212, hd⟩ := hd
        obtain ⟨b213, o214, cs215, e216, hC217, hr218⟩ := R45.2 _ _ hx212
        cases hr218
        refine .f [2, 3] rfl (by kernel_rfl) rfl rfl (fun ex => .ixa Tryz.underlying26 Tryz.sizeOf3 rfl e216 rfl h210 (idx_lt hx212 h210) rfl rfl .mk) ?_
        refine .f [4] rfl (by kernel_rfl) rfl rfl (fun ex => .ld1 (j := 0) Tryz.isAgg3 hC217 rfl rfl rfl rfl rfl .mk) ?_
        refine .f [] rfl (by kernel_rfl) rfl rfl (fun ex => .fieldAddr Tryz.underlying29 rfl Tryz.sizeOf27 rfl (o := 4) rfl rfl rfl .mk) ?_
        refine .f [6] rfl (by kernel_rfl) rfl rfl (fun ex => .load1 Tryz.isAgg27 rfl .z rfl rfl rfl .mk) ?_
        refine .f [] rfl (by kernel_rfl) rfl rfl (fun ex => .move rfl rfl rfl .mk) ?_
        obtain ⟨h219, x220, hx221, hd⟩ := hd
        obtain ⟨b222, o223, cs224, e225, hC226, hr227⟩ := R48.2 _ _ hx221
        cases hr227
        refine .f [7, 8] rfl (by kernel_rfl) rfl rfl (fun ex => .ixa Tryz.underlying27 Tryz.sizeOf2 rfl e225 rfl h219 (idx_lt hx221 h219) rfl rfl .mk) ?_
        refine .f [9] rfl (by kernel_rfl) rfl rfl (fun ex => .ld1 (j := 0) Tryz.isAgg2 hC226 rfl rfl rfl rfl rfl .mk) ?_
        refine .f [5, 10] rfl (by kernel_rfl) rfl rfl (fun ex => .build Tryz.zeroValue82 Tryz.underlying82 BI82 (.c rfl rfl rfl (.t .nil) (.c rfl rfl rfl (.s (.t .nil)) .n)) (by exact ⟨⟨_, _, rfl, rfl, rfl⟩, ⟨⟨_, _, rfl, rfl, rfl⟩, trivial⟩⟩) rfl rfl .mk) ?_
        refine .w [0] [[], [11], [10, 11], [9, 10, 11], [9, 10, 11], [7, 9, 10, 11], [11], [5, 11], [4, 5, 11], [4, 5, 11], [2, 4, 5, 11]] [11] rfl (by kernel_rfl) (by kernel_rfl) (by kernel_rfl) ((dropE_kept rfl rfl)) (.inr (dropE_kept rfl rfl)) fun ex => ?_
        refine .buildSlice 1 Tryz.underlying41 Tryz.sizeOf82 Tryz.zeroValue82 rfl rfl (.c rfl rfl rfl .n) rfl rfl fun b228 => ?_
        refine .some (fun ex => (pto b228 (.cells #[.int .i64 x211, .int .i64 x220] 82 (0, 0))) :: (pto b15 (.cells #[.int .i64 r34.Rows, .int .i64 r34.Cols, .slice p40 r34.Start.length c41, .slice p43 r34.Col.length c44, .slice p46 r34.Val.length c47] 29 (0, 0))) :: (OwnSl eItem 82 p179 c180 s178) :: ex) rfl (fun _ _ => (.s (.s (.s .z)))) rfl (.cc [] rfl (by kernel_rfl) rfl rfl rfl (fun ex => .move rfl rfl rfl .mk) trivial) ?_
        refine .w [] [[]] [0, 12] rfl (by kernel_rfl) (by kernel_rfl) (by kernel_rfl) ((dropE_kept rfl rfl)) (.inr (dropE_kept rfl rfl)) fun ex => ?_
        obtain ⟨hl230, hd⟩ := hd
        refine .append (ys := [({ At := x211, Val := x220 } : Item)]) 16 (.s (.s .z)) Tryz.underlying41 Tryz.underlying41 IN82 rfl rfl rfl rfl rfl rfl rfl rfl rfl (.box .z (.one rfl) rfl) hl230 rfl rfl fun p231 c232 => ?_
        refine .some (fun ex => (OwnSl eItem 82 p231 c232 (s178 ++ ([({ At := x211, Val := x220 } : Item)]))) :: (pto b228 (.cells #[.int .i64 x211, .int .i64 x220] 82 (0, 0))) :: (pto b15 (.cells #[.int .i64 r34.Rows, .int .i64 r34.Cols, .slice p40 r34.Start.length c41, .slice p43 r34.Col.length c44, .slice p46 r34.Val.length c47] 29 (0, 0))) :: ex) rfl (fun _ _ => (.s (.s (.s .z)))) rfl trivial ?_
        refine .e 14 (by kernel_rfl) (by kernel_rfl) (by kernel_rfl) ?_
        refine .sub (E' := [(1, _), (2, _), (6, _), (33, _), (34, _), (35, _), (36, _), (37, _), (38, _), (39, _), (40, _), (41, _), (42, _), (43, _), (44, _), (45, _), (46, _)]) ⟨rfl, rfl, rfl, rfl, rfl, rfl, rfl, rfl, rfl, rfl, rfl, rfl, rfl, rfl, rfl, rfl, rfl, trivial⟩ ?_
        refine .skips 1 rfl ?_
        refine .nil' fun c w ho hs => Cod.at (E := [(1, _), (2, _), (6, _), (5, _)]) (ho.sub ⟨rfl, rfl, rfl, rfl, trivial⟩) hs ?_
        refine .drop (.s .z) ?_
        refine .region ?_
        refine .skips 1 rfl ?_
        refine .add rfl rfl rfl rfl ?_
        refine .sub (E' := [(1, _), (2, _), (5, _), (31, _), (32, _)]) ⟨rfl, rfl, rfl, rfl, rfl, trivial⟩ ?_
        refine .skips 1 rfl ?_
        exact .nil' fun c w ho hs => ⟨((s178 ++ ([({ At := x211, Val := x220 } : Item)])), w64 (s182 + 1)), hd, I185, _, _, le188, ho.sub ⟨rfl, rfl, rfl, rfl, trivial⟩, hs.pick (.c (.s .z) (.c .z .n))⟩
      · have hd := hd.2 hb208
        refine .exit fun c w ho hs => Cod.at (E := [(5, _)]) (ho.sub ⟨rfl, trivial⟩) hs ?_
        refine .drop .z ?_
        refine .seq ?_
        refine .region ?_
        refine .skips 2 rfl ?_
        refine .nil' fun c w ho hs => Cod.at (E := [(4, _)]) (ho.sub ⟨rfl, trivial⟩) hs ?_
        refine .pub .z fun I234 hl235 R236 => ?_
        have le237 := IH.le.trans le187 hl235
        have le238 := IH.le.trans le188 hl235
        exact .ret (pret Tryz.results22 (.t rfl .n) le237 ⟨s178, _, _, rfl, R236, hd⟩)

theorem W_ref07_Get {I : IH} {a0 : Rows} {a1 : Int} {a2 : Int} {p1 : Option Addr} {c2 : Nat} {p4 : Option Addr} {c5 : Nat} {p7 : Option Addr} {c8 : Nat} {Q : (Int × Bool) → Prop} (R3 : RepSl eI64 I p1 c2 a0.Start) (R6 : RepSl eI64 I p4 c5 a0.Col) (R9 : RepSl eI64 I p7 c8 a0.Val) (hd : ref07_Get a0 a1 a2 Q) :
    PFun Tryz.prog 15 [.agg #[.int .i64 a0.Rows, .int .i64 a0.Cols, .slice p1 a0.Start.length c2, .slice p4 a0.Col.length c5, .slice p7 a0.Val.length c8], .int .i64 a1, .int .i64 a2] I (fun I_ v => ∃ r, v = .tuple #[.int .i64 r.1, .bool r.2] ∧ Q r) := by
  refine Fun.enter Tryz.func15 rfl Tryz.ntmps15 rfl (.c (.c (.c .n))) fun w0 M => ?_
  refine .seq ?_
  refine .region ?_
  refine .boxA rfl rfl rfl fun b12 => ?_
  refine .skips 2 rfl ?_
  refine .nil' fun c w ho hs => Cod.at (E := [(1, _), (2, _), (3, _)]) (ho.sub ⟨rfl, rfl, rfl, trivial⟩) hs ?_
  refine .seq ?_
  refine .region ?_
  refine .loadW Tryz.isAgg29 Tryz.sizeOf29 rfl .z rfl rfl rfl ?_
  refine .skips 1 rfl ?_
  have hw34 := W_ref07_Row (I := I) R3 R6 R9 hd
  refine .call Tryz.call22 rfl hw34 rfl rfl fun v29 I26 hl27 hv28 => ?_
  obtain ⟨r25, p31, c32, rfl, R33, hd⟩ := hv28
  have le35 := IH.le.trans (.refl _) hl27
  replace R3 := R3.mono hl27
  replace R6 := R6.mono hl27
  replace R9 := R9.mono hl27
  refine .skips 1 rfl ?_
  refine .nil' fun c w ho hs => Cod.at (E := [(2, _), (8, _)]) (ho.sub ⟨rfl, rfl, trivial⟩) hs ?_
  refine .drop .z ?_
  refine .seq ?_
  refine .seq ?_
  refine .region ?_
  refine .skips 1 rfl ?_
  refine .nil' fun c w ho hs => Cod.at (E := [(2, _), (8, _), (9, _)]) (ho.sub ⟨rfl, rfl, rfl, trivial⟩) hs ?_
  refine .block ?_
  refine .loop hd (fun (s99 : Int) c w => ∃ I_, IH.le I26 I_ ∧ Ok 31 [(2, .int .i64 a2), (8, .slice p31 r25.length c32), (9, .int .i64 s99)] c ∧ Sym w0 M I I_ [] w) (fun c w ho hs => ⟨I26, (.refl _), ho.sub ⟨rfl, rfl, rfl, trivial⟩, hs.pick .n⟩) ?_
  rintro s99 next100 hd c w hst
  obtain ⟨I101, hl102, hok, hsym⟩ := hst
  have le103 := IH.le.trans le35 hl102
  have le104 := IH.le.trans (.refl _) hl102
  replace R33 := R33.mono hl102
  refine Cod.at hok hsym ?_
  refine .seq ?_
  refine .seq ?_
  refine .region ?_
  refine .skips 2 rfl ?_
  refine .len Tryz.underlying41 rfl rfl rfl rfl ?_
  refine .lt rfl rfl rfl rfl ?_
  refine .nil' fun c w ho hs => Cod.at (E := [(2, _), (8, _), (9, _), (16, _)]) (ho.sub ⟨rfl, rfl, rfl, rfl, trivial⟩) hs ?_
  refine .cond rfl (fun hb106 => ?_) (fun hb106 => ?_)
  · have hd := hd.1 hb106
    refine .skip' fun c w ho hs => Cod.at (E := [(2, _), (8, _), (9, _)]) (ho.sub ⟨rfl, rfl, rfl, trivial⟩) hs ?_
    refine .seq ?_
    refine .block ?_
    refine .seq ?_
    refine .region ?_
    refine .skips 2 rfl ?_
    obtain ⟨h116, x117, hx118, hd⟩ := hd
    obtain ⟨b119, o120, cs121, e122, hC123, hr124⟩ := R33.2 _ _ hx118
    cases hr124
    refine .ixa Tryz.underlying41 Tryz.sizeOf82 rfl e122 rfl h116 (idx_lt hx118 h116) rfl rfl ?_
    refine .fieldAddr Tryz.underlying82 rfl Tryz.sizeOf3 rfl (o := o120 + s99.toNat * 2) rfl rfl rfl ?_
    refine .ld1 (j := 0) Tryz.isAgg3 hC123 rfl rfl rfl rfl rfl ?_
    refine .skips 1 rfl ?_
    refine .eq rfl rfl rfl rfl ?_
    refine .nil' fun c w ho hs => Cod.at (E := [(2, _), (8, _), (9, _), (25, _)]) (ho.sub ⟨rfl, rfl, rfl, rfl, trivial⟩) hs ?_
    refine .cond rfl (fun hb125 => ?_) (fun hb125 => ?_)
    · have hd := hd.1 hb125
      refine .seq ?_
      refine .region ?_
      refine .skips 2 rfl ?_
      obtain ⟨h126, x127, hx128, hd⟩ := hd
      obtain ⟨b129, o130, cs131, e132, hC133, hr134⟩ := R33.2 _ _ hx128
      cases hr134
      refine .ixa Tryz.underlying41 Tryz.sizeOf82 rfl e132 rfl h126 (idx_lt hx128 h126) rfl rfl ?_
      refine .fieldAddr Tryz.underlying82 rfl Tryz.sizeOf2 rfl (o := o130 + s99.toNat * 2 + 1) rfl rfl rfl ?_
      refine .ld1 (j := 1) Tryz.isAgg2 hC133 rfl rfl rfl rfl rfl ?_
      refine .skips 2 rfl ?_
      refine .nil' fun c w ho hs => Cod.at (E := [(6, _), (7, _)]) (ho.sub ⟨rfl, rfl, trivial⟩) hs ?_
      exact .ret (pret Tryz.results15 (.t rfl (.t rfl .n)) le103 ⟨(x127.Val, true), rfl, hd⟩)
    · have hd := hd.2 hb125
      refine .skip' fun c w ho hs => Cod.at (E := [(2, _), (8, _), (9, _)]) (ho.sub ⟨rfl, rfl, rfl, trivial⟩) hs ?_
      refine .region ?_
      refine .skips 1 rfl ?_
      refine .add rfl rfl rfl rfl ?_
      refine .sub (E' := [(2, _), (8, _), (17, _), (18, _)]) ⟨rfl, rfl, rfl, rfl, trivial⟩ ?_
      refine .skips 1 rfl ?_
      exact .nil' fun c w ho hs => ⟨(w64 (s99 + 1)), hd, I101, le104, ho.sub ⟨rfl, rfl, rfl, trivial⟩, hs.pick .n⟩
  · have hd := hd.2 hb106
    refine .exit fun c w ho hs => Cod.at (E := []) (ho.sub trivial) hs ?_
    refine .seq ?_
    refine .region ?_
    refine .skips 2 rfl ?_
    refine .nil' fun c w ho hs => Cod.at (E := [(6, _), (7, _)]) (ho.sub ⟨rfl, rfl, trivial⟩) hs ?_
    exact .ret (pret Tryz.results15 (.t rfl (.t rfl .n)) le103 ⟨(0, false), rfl, hd⟩)

theorem W_ref07_Count {I : IH} {a0 : Rows} {p1 : Option Addr} {c2 : Nat} {p4 : Option Addr} {c5 : Nat} {p7 : Option Addr} {c8 : Nat} {Q : Int → Prop} (R3 : RepSl eI64 I p1 c2 a0.Start) (R6 : RepSl eI64 I p4 c5 a0.Col) (R9 : RepSl eI64 I p7 c8 a0.Val) (hd : ref07_Count a0 Q) :
    PFun Tryz.prog 19 [.agg #[.int .i64 a0.Rows, .int .i64 a0.Cols, .slice p1 a0.Start.length c2, .slice p4 a0.Col.length c5, .slice p7 a0.Val.length c8]] I (fun I_ v => ∃ r, v = .int .i64 r ∧ Q r) := by
  refine Fun.enter Tryz.func19 rfl Tryz.ntmps19 rfl (.c .n) fun w0 M => ?_
  refine .seq ?_
  refine .region ?_
  refine .boxA rfl rfl rfl fun b10 => ?_
  refine .skips 1 rfl ?_
  refine .nil' fun c w ho hs => Cod.at (E := [(1, _)]) (ho.sub ⟨rfl, trivial⟩) hs ?_
  refine .seq ?_
  refine .region ?_
  refine .loadW Tryz.isAgg29 Tryz.sizeOf29 rfl .z rfl rfl rfl ?_
  have hw27 := W_ref07_Sure (I := I) R3 R6 R9 hd
  refine .call Tryz.call52 rfl hw27 rfl rfl fun v16 I13 hl14 hv15 => ?_
  obtain ⟨r12, p18, c19, p21, c22, p24, c25, rfl, R20, R23, R26, hd⟩ := hv15
  have le28 := IH.le.trans (.refl _) hl14
  replace R3 := R3.mono hl14
  replace R6 := R6.mono hl14
  replace R9 := R9.mono hl14
  refine .field1 Tryz.underlying29 rfl Tryz.isAgg26 rfl rfl rfl rfl ?_
  refine .len Tryz.underlying26 rfl rfl rfl rfl ?_
  refine .skips 1 rfl ?_
  refine .nil' fun c w ho hs => Cod.at (E := [(2, _)]) (ho.sub ⟨rfl, trivial⟩) hs ?_
  refine .drop .z ?_
  exact .ret (pret Tryz.results19 (.t rfl .n) le28 ⟨(r12.Col.length : Int), rfl, hd⟩)

theorem W_ref07_SameItems {I : IH} {a0 : List Item} {a1 : List Item} {p1 : Option Addr} {c2 : Nat} {p4 : Option Addr} {c5 : Nat} {Q : Bool → Prop} (R3 : RepSl eItem I p1 c2 a0) (R6 : RepSl eItem I p4 c5 a1) (hd : ref07_SameItems a0 a1 Q) :
    PFun Tryz.prog 20 [.slice p1 a0.length c2, .slice p4 a1.length c5] I (fun I_ v => ∃ r, v = .bool r ∧ Q r) := by
  refine Fun.enter Tryz.func20 rfl Tryz.ntmps20 rfl (.c (.c .n)) fun w0 M => ?_
  refine .seq ?_
  refine .region ?_
  refine .skips 1 rfl ?_
  refine .nil' fun c w ho hs => Cod.at (E := [(0, _), (1, _)]) (ho.sub ⟨rfl, rfl, trivial⟩) hs ?_
  refine .seq ?_
  refine .seq ?_
  refine .region ?_
  refine .skips 1 rfl ?_
  refine .len Tryz.underlying41 rfl rfl rfl rfl ?_
  refine .skips 1 rfl ?_
  refine .len Tryz.underlying41 rfl rfl rfl rfl ?_
  refine .ne rfl rfl rfl rfl ?_
  refine .nil' fun c w ho hs => Cod.at (E := [(0, _), (1, _), (10, _)]) (ho.sub ⟨rfl, rfl, rfl, trivial⟩) hs ?_
  refine .cond rfl (fun hb8 => ?_) (fun hb8 => ?_)
  · have hd := hd.1 hb8
    refine .seq ?_
    refine .region ?_
    refine .skips 1 rfl ?_
    refine .nil' fun c w ho hs => Cod.at (E := [(4, _)]) (ho.sub ⟨rfl, trivial⟩) hs ?_
    exact .ret (pret Tryz.results20 (.t rfl .n) (.refl _) ⟨false, rfl, hd⟩)
  · have hd := hd.2 hb8
    refine .skip' fun c w ho hs => Cod.at (E := [(0, _), (1, _)]) (ho.sub ⟨rfl, rfl, trivial⟩) hs ?_
    refine .seq ?_
    refine .seq ?_
    refine .region ?_
    refine .skips 1 rfl ?_
    refine .nil' fun c w ho hs => Cod.at (E := [(0, _), (1, _), (5, _)]) (ho.sub ⟨rfl, rfl, rfl, trivial⟩) hs ?_
    refine .block ?_
    refine .loop hd (fun (s54 : Int) c w => ∃ I_, IH.le I I_ ∧ Ok 26 [(0, .slice p1 a0.length c2), (1, .slice p4 a1.length c5), (5, .int .i64 s54)] c ∧ Sym w0 M I I_ [] w) (fun c w ho hs => ⟨I, (.refl _), ho.sub ⟨rfl, rfl, rfl, trivial⟩, hs.pick .n⟩) ?_
    rintro s54 next55 hd c w hst
    obtain ⟨I56, hl57, hok, hsym⟩ := hst
    have le58 := IH.le.trans (.refl _) hl57
    replace R3 := R3.mono hl57
    replace R6 := R6.mono hl57
    refine Cod.at hok hsym ?_
    refine .seq ?_
    refine .seq ?_
    refine .region ?_
    refine .skips 2 rfl ?_
    refine .len Tryz.underlying41 rfl rfl rfl rfl ?_
    refine .lt rfl rfl rfl rfl ?_
    refine .nil' fun c w ho hs => Cod.at (E := [(0, _), (1, _), (5, _), (14, _)]) (ho.sub ⟨rfl, rfl, rfl, rfl, trivial⟩) hs ?_
    refine .cond rfl (fun hb60 => ?_) (fun hb60 => ?_)
    · have hd := hd.1 hb60
      refine .skip' fun c w ho hs => Cod.at (E := [(0, _), (1, _), (5, _)]) (ho.sub ⟨rfl, rfl, rfl, trivial⟩) hs ?_
      refine .seq ?_
      refine .block ?_
      refine .seq ?_
      refine .draw [some 0, some 1, some 2, some 3, some 4, some 5, some 6, some 7, some 8] 9 MX (by kernel_rfl) (by kernel_rfl) (by kernel_rfl) (by kernel_rfl) (by kernel_rfl) (by kernel_rfl) (by kernel_rfl) (fun ex => ex) (fun _ _ => .z) rfl ?_
      refine .f [] rfl (by kernel_rfl) rfl rfl (fun ex => .move rfl rfl rfl .mk) ?_
      refine .f [] rfl (by kernel_rfl) rfl rfl (fun ex => .move rfl rfl rfl .mk) ?_
      obtain ⟨h61, x62, hx63, hd⟩ := hd
      obtain ⟨b64, o65, cs66, e67, hC68, hr69⟩ := R3.2 _ _ hx63
      cases hr69
      refine .f [0, 1] rfl (by kernel_rfl) rfl rfl (fun ex => .ixa Tryz.underlying41 Tryz.sizeOf82 rfl e67 rfl h61 (idx_lt hx63 h61) rfl rfl .mk) ?_
      refine .f [2] rfl (by kernel_rfl) rfl rfl (fun ex => .ldW Tryz.isAgg82 Tryz.sizeOf82 hC68 rfl rfl rfl rfl .mk) ?_
      refine .f [] rfl (by kernel_rfl) rfl rfl (fun ex => .move rfl rfl rfl .mk) ?_
      refine .f [] rfl (by kernel_rfl) rfl rfl (fun ex => .move rfl rfl rfl .mk) ?_
      obtain ⟨h70, x71, hx72, hd⟩ := hd
      obtain ⟨b73, o74, cs75, e76, hC77, hr78⟩ := R6.2 _ _ hx72
      cases hr78
      refine .f [4, 5] rfl (by kernel_rfl) rfl rfl (fun ex => .ixa Tryz.underlying41 Tryz.sizeOf82 rfl e76 rfl h70 (idx_lt hx72 h70) rfl rfl .mk) ?_
      refine .f [6] rfl (by kernel_rfl) rfl rfl (fun ex => .ldW Tryz.isAgg82 Tryz.sizeOf82 hC77 rfl rfl rfl rfl .mk) ?_
      refine .f [3, 7] rfl (by kernel_rfl) rfl rfl (fun ex => .neV rfl rfl (EQ82 x62 x71) (EG82 _ _ _ _ _) rfl rfl rfl .mk) ?_
      refine .e 9 (by kernel_rfl) (by kernel_rfl) (by kernel_rfl) ?_
      refine .nil' fun c w ho hs => Cod.at (E := [(0, _), (1, _), (5, _), (25, _)]) (ho.sub ⟨rfl, rfl, rfl, rfl, trivial⟩) hs ?_
      refine .cond rfl (fun hb79 => ?_) (fun hb79 => ?_)
      · have hd := hd.1 hb79
        refine .seq ?_
        refine .region ?_
        refine .skips 1 rfl ?_
        refine .nil' fun c w ho hs => Cod.at (E := [(4, _)]) (ho.sub ⟨rfl, trivial⟩) hs ?_
        exact .ret (pret Tryz.results20 (.t rfl .n) le58 ⟨false, rfl, hd⟩)
      · have hd := hd.2 hb79
        refine .skip' fun c w ho hs => Cod.at (E := [(0, _), (1, _), (5, _)]) (ho.sub ⟨rfl, rfl, rfl, trivial⟩) hs ?_
        refine .region ?_
        refine .skips 1 rfl ?_
        refine .add rfl rfl rfl rfl ?_
        refine .sub (E' := [(0, _), (1, _), (15, _), (16, _)]) ⟨rfl, rfl, rfl, rfl, trivial⟩ ?_
        refine .skips 1 rfl ?_
        exact .nil' fun c w ho hs => ⟨(w64 (s54 + 1)), hd, I56, le58, ho.sub ⟨rfl, rfl, rfl, trivial⟩, hs.pick .n⟩
    · have hd := hd.2 hb60
      refine .exit fun c w ho hs => Cod.at (E := []) (ho.sub trivial) hs ?_
      refine .seq ?_
      refine .region ?_
      refine .skips 1 rfl ?_
      refine .nil' fun c w ho hs => Cod.at (E := [(4, _)]) (ho.sub ⟨rfl, trivial⟩) hs ?_
      exact .ret (pret Tryz.results20 (.t rfl .n) le58 ⟨true, rfl, hd⟩)

theorem W_ref06_SameTriples {I : IH} {a0 : List Triple} {a1 : List Triple} {p1 : Option Addr} {c2 : Nat} {p4 : Option Addr} {c5 : Nat} {Q : Bool → Prop} (R3 : RepSl eTriple I p1 c2 a0) (R6 : RepSl eTriple I p4 c5 a1) (hd : ref06_SameTriples a0 a1 Q) :
    PFun Tryz.prog 23 [.slice p1 a0.length c2, .slice p4 a1.length c5] I (fun I_ v => ∃ r, v = .bool r ∧ Q r) := by
  refine Fun.enter Tryz.func23 rfl Tryz.ntmps23 rfl (.c (.c .n)) fun w0 M => ?_
  refine .seq ?_
  refine .region ?_
  refine .skips 1 rfl ?_
  refine .nil' fun c w ho hs => Cod.at (E := [(0, _), (1, _)]) (ho.sub ⟨rfl, rfl, trivial⟩) hs ?_
  refine .seq ?_
  refine .seq ?_
  refine .region ?_
  refine .skips 1 rfl ?_
  refine .len Tryz.underlying24 rfl rfl rfl rfl ?_
  refine .skips 1 rfl ?_
  refine .len Tryz.underlying24 rfl rfl rfl rfl ?_
  refine .ne rfl rfl rfl rfl ?_
  refine .nil' fun c w ho hs => Cod.at (E := [(0, _), (1, _), (10, _)]) (ho.sub ⟨rfl, rfl, rfl, trivial⟩) hs ?_
  refine .cond rfl (fun hb8 => ?_) (fun hb8 => ?_)
  · have hd := hd.1 hb8
    refine .seq ?_
    refine .region ?_
    refine .skips 1 rfl ?_
    refine .nil' fun c w ho hs => Cod.at (E := [(4, _)]) (ho.sub ⟨rfl, trivial⟩) hs ?_
    exact .ret (pret Tryz.results23 (.t rfl .n) (.refl _) ⟨false, rfl, hd⟩)
  · have hd := hd.2 hb8
    refine .skip' fun c w ho hs => Cod.at (E := [(0, _), (1, _)]) (ho.sub ⟨rfl, rfl, trivial⟩) hs ?_
    refine .seq ?_
    refine .seq ?_
    refine .region ?_
    refine .skips 1 rfl ?_
    refine .nil' fun c w ho hs => Cod.at (E := [(0, _), (1, _), (5, _)]) (ho.sub ⟨rfl, rfl, rfl, trivial⟩) hs ?_
    refine .block ?_
    refine .loop hd (fun (s54 : Int) c w => ∃ I_, IH.le I I_ ∧ Ok 26 [(0, .slice p1 a0.length c2), (1, .slice p4 a1.length c5), (5, .int .i64 s54)] c ∧ Sym w0 M I I_ [] w) (fun c w ho hs => ⟨I, (.refl _), ho.sub ⟨rfl, rfl, rfl, trivial⟩, hs.pick .n⟩) ?_
    rintro s54 next55 hd c w hst
    obtain ⟨I56, hl57, hok, hsym⟩ := hst
    have le58 := IH.le.trans (.refl _) hl57
    replace R3 := R3.mono hl57
    replace R6 := R6.mono hl57
    refine Cod.at hok hsym ?_
    refine .seq ?_
    refine .seq ?_
    refine .region ?_
    refine .skips 2 rfl ?_
    refine .len Tryz.underlying24 rfl rfl rfl rfl ?_
    refine .lt rfl rfl rfl rfl ?_
    refine .nil' fun c w ho hs => Cod.at (E := [(0, _), (1, _), (5, _), (14, _)]) (ho.sub ⟨rfl, rfl, rfl, rfl, trivial⟩) hs ?_
    refine .cond rfl (fun hb60 => ?_) (fun hb60 => ?_)
    · have hd := hd.1 hb60
      refine .skip' fun c w ho hs => Cod.at (E := [(0, _), (1, _), (5, _)]) (ho.sub ⟨rfl, rfl, rfl, trivial⟩) hs ?_
      refine .seq ?_
      refine .block ?_
      refine .seq ?_
      refine .draw [some 0, some 1, some 2, some 3, some 4, some 5, some 6, some 7, some 8] 9 MX (by kernel_rfl) (by kernel_rfl) (by kernel_rfl) (by kernel_rfl) (by kernel_rfl) (by kernel_rfl) (by kernel_rfl) (fun ex => ex) (fun _ _ => .z) rfl ?_
      refine .f [] rfl (by kernel_rfl) rfl rfl (fun ex => .move rfl rfl rfl .mk) ?_
      refine .f [] rfl (by kernel_rfl) rfl rfl (fun ex => .move rfl rfl rfl .mk) ?_
      obtain ⟨h61, x62, hx63, hd⟩ := hd
      obtain ⟨b64, o65, cs66, e67, hC68, hr69⟩ := R3.2 _ _ hx63
      cases hr69
      refine .f [0, 1] rfl (by kernel_rfl) rfl rfl (fun ex => .ixa Tryz.underlying24 Tryz.sizeOf60 rfl e67 rfl h61 (idx_lt hx63 h61) rfl rfl .mk) ?_
      refine .f [2] rfl (by kernel_rfl) rfl rfl (fun ex => .ldW Tryz.isAgg60 Tryz.sizeOf60 hC68 rfl rfl rfl rfl .mk) ?_
      refine .f [] rfl (by kernel_rfl) rfl rfl (fun ex => .move rfl rfl rfl .mk) ?_
      refine .f [] rfl (by kernel_rfl) rfl rfl (fun ex => .move rfl rfl rfl .mk) ?_
      obtain ⟨h70, x71, hx72, hd⟩ := hd
      obtain ⟨b73, o74, cs75, e76, hC77, hr78⟩ := R6.2 _ _ hx72
      cases hr78
      refine .f [4, 5] rfl (by kernel_rfl) rfl rfl (fun ex => .ixa Tryz.underlying24 Tryz.sizeOf60 rfl e76 rfl h70 (idx_lt hx72 h70) rfl rfl .mk) ?_
      refine .f [6] rfl (by kernel_rfl) rfl rfl (fun ex => .ldW Tryz.isAgg60 Tryz.sizeOf60 hC77 rfl rfl rfl rfl .mk) ?_
      refine .f [3, 7] rfl (by kernel_rfl) rfl rfl (fun ex => .neV rfl rfl (EQ60 x62 x71) (EG60 _ _ _ _ _) rfl rfl rfl .mk) ?_
      refine .e 9 (by kernel_rfl) (by kernel_rfl) (by kernel_rfl) ?_
      refine .nil' fun c w ho hs => Cod.at (E := [(0, _), (1, _), (5, _), (25, _)]) (ho.sub ⟨rfl, rfl, rfl, rfl, trivial⟩) hs ?_
      refine .cond rfl (fun hb79 => ?_) (fun hb79 => ?_)
      · have hd := hd.1 hb79
        refine .seq ?_
        refine .region ?_
        refine .skips 1 rfl ?_
        refine .nil' fun c w ho hs => Cod.at (E := [(4, _)]) (ho.sub ⟨rfl, trivial⟩) hs ?_
        exact .ret (pret Tryz.results23 (.t rfl .n) le58 ⟨false, rfl, hd⟩)
      · have hd := hd.2 hb79
        refine .skip' fun c w ho hs => Cod.at (E := [(0, _), (1, _), (5, _)]) (ho.sub ⟨rfl, rfl, rfl, trivial⟩) hs ?_
        refine .region ?_
        refine .skips 1 rfl ?_
        refine .add rfl rfl rfl rfl ?_
        refine .sub (E' := [(0, _), (1, _), (15, _), (16, _)]) ⟨rfl, rfl, rfl, rfl, trivial⟩ ?_
        refine .skips 1 rfl ?_
        exact .nil' fun c w ho hs => ⟨(w64 (s54 + 1)), hd, I56, le58, ho.sub ⟨rfl, rfl, rfl, trivial⟩, hs.pick .n⟩
    · have hd := hd.2 hb60
      refine .exit fun c w ho hs => Cod.at (E := []) (ho.sub trivial) hs ?_
      refine .seq ?_
      refine .region ?_
      refine .skips 1 rfl ?_
      refine .nil' fun c w ho hs => Cod.at (E := [(4, _)]) (ho.sub ⟨rfl, trivial⟩) hs ?_
      exact .ret (pret Tryz.results23 (.t rfl .n) le58 ⟨true, rfl, hd⟩)

theorem W_ref07_Triples {I : IH} {a0 : Rows} {p1 : Option Addr} {c2 : Nat} {p4 : Option Addr} {c5 : Nat} {p7 : Option Addr} {c8 : Nat} {Q : (List Triple) → Prop} (R3 : RepSl eI64 I p1 c2 a0.Start) (R6 : RepSl eI64 I p4 c5 a0.Col) (R9 : RepSl eI64 I p7 c8 a0.Val) (hd : ref07_Triples a0 Q) :
    PFun Tryz.prog 25 [.agg #[.int .i64 a0.Rows, .int .i64 a0.Cols, .slice p1 a0.Start.length c2, .slice p4 a0.Col.length c5, .slice p7 a0.Val.length c8]] I (fun I_ v => ∃ r p10 c11, v = .slice p10 r.length c11 ∧ RepSl eTriple I_ p10 c11 r ∧ Q r) := by
  refine Fun.enter Tryz.func25 rfl Tryz.ntmps25 rfl (.c .n) fun w0 M => ?_
  refine .seq ?_
  refine .region ?_
  refine .boxA rfl rfl rfl fun b15 => ?_
  refine .skips 1 rfl ?_
  refine .nil' fun c w ho hs => Cod.at (E := [(1, _)]) (ho.sub ⟨rfl, trivial⟩) hs ?_
  refine .seq ?_
  refine .region ?_
  refine .loadW Tryz.isAgg29 Tryz.sizeOf29 rfl .z rfl rfl rfl ?_
  have hw49 := W_ref07_Sure (I := I) R3 R6 R9 hd
  refine .call Tryz.call52 rfl hw49 rfl rfl fun v38 I35 hl36 hv37 => ?_
  obtain ⟨r34, p40, c41, p43, c44, p46, c47, rfl, R42, R45, R48, hd⟩ := hv37
  have le50 := IH.le.trans (.refl _) hl36
  replace R3 := R3.mono hl36
  replace R6 := R6.mono hl36
  replace R9 := R9.mono hl36
  refine .storeA Tryz.sizeOf29 rfl rfl .z (.t (.t (.t (.t (.t .nil))))) rfl rfl ?_
  refine .nil' fun c w ho hs => Cod.at (E := [(1, _)]) (ho.sub ⟨rfl, trivial⟩) hs ?_
  refine .seq ?_
  refine .region ?_
  refine .skips 1 rfl ?_
  refine .nil' fun c w ho hs => Cod.at (E := [(1, _), (3, _)]) (ho.sub ⟨rfl, rfl, trivial⟩) hs ?_
  refine .seq ?_
  refine .seq ?_
  refine .region ?_
  refine .skips 1 rfl ?_
  refine .nil' fun c w ho hs => Cod.at (E := [(1, _), (3, _), (4, _)]) (ho.sub ⟨rfl, rfl, rfl, trivial⟩) hs ?_
  refine .block ?_
  refine .own0 eTriple 60 ?_
  refine .loop hd (fun (s : (List Triple) × Int) c w => match s with | (s427, s431) => ∃ I_ p428 c429, IH.le I35 I_ ∧ Ok 45 [(1, .pointer (some ⟨b15, 0, none⟩)), (3, .slice p428 s427.length c429), (4, .int .i64 s431)] c ∧ Sym w0 M I I_ [pto b15 (.cells #[.int .i64 r34.Rows, .int .i64 r34.Cols, .slice p40 r34.Start.length c41, .slice p43 r34.Col.length c44, .slice p46 r34.Val.length c47] 29 (0, 0)), OwnSl eTriple 60 p428 c429 s427] w) (fun c w ho hs => ⟨I35, _, _, (.refl _), ho.sub ⟨rfl, rfl, rfl, trivial⟩, hs.pick (.c (.s .z) (.c .z .n))⟩) ?_
  rintro ⟨s427, s431⟩ next433 hd c w hst
  obtain ⟨I434, p428, c429, hl435, hok, hsym⟩ := hst
  have le436 := IH.le.trans le50 hl435
  have le437 := IH.le.trans (.refl _) hl435
  replace R42 := R42.mono hl435
  replace R45 := R45.mono hl435
  replace R48 := R48.mono hl435
  refine Cod.at hok hsym ?_
  refine .seq ?_
  refine .seq ?_
  refine .region ?_
  refine .skips 1 rfl ?_
  refine .fieldAddr Tryz.underlying29 rfl Tryz.sizeOf3 rfl (o := 0) rfl rfl rfl ?_
  refine .load1 Tryz.isAgg3 rfl .z rfl rfl rfl ?_
  refine .lt rfl rfl rfl rfl ?_
  refine .nil' fun c w ho hs => Cod.at (E := [(1, _), (3, _), (4, _), (11, _)]) (ho.sub ⟨rfl, rfl, rfl, rfl, trivial⟩) hs ?_
  refine .cond rfl (fun hb439 => ?_) (fun hb439 => ?_)
  · have hd := hd.1 hb439
    refine .skip' fun c w ho hs => Cod.at (E := [(1, _), (3, _), (4, _)]) (ho.sub ⟨rfl, rfl, rfl, trivial⟩) hs ?_
    refine .seq ?_
    refine .block ?_
    refine .seq ?_
    refine .region ?_
    refine .fieldAddr Tryz.underlying29 rfl Tryz.sizeOf26 rfl (o := 2) rfl rfl rfl ?_
    refine .load1 Tryz.isAgg26 rfl .z rfl rfl rfl ?_
    refine .skips 1 rfl ?_
    obtain ⟨h449, x450, hx451, hd⟩ := hd
    obtain ⟨b452, o453, cs454, e455, hC456, hr457⟩ := R42.2 _ _ hx451
    cases hr457
    refine .ixa Tryz.underlying26 Tryz.sizeOf3 rfl e455 rfl h449 (idx_lt hx451 h449) rfl rfl ?_
    refine .ld1 (j := 0) Tryz.isAgg3 hC456 rfl rfl rfl rfl rfl ?_
    refine .skips 1 rfl ?_
    refine .nil' fun c w ho hs => Cod.at (E := [(1, _), (3, _), (4, _), (5, _)]) (ho.sub ⟨rfl, rfl, rfl, rfl, trivial⟩) hs ?_
    refine .block ?_
    refine .loop hd (fun (s : (List Triple) × Int) c w => match s with | (s563, s567) => ∃ I_ p564 c565, IH.le I434 I_ ∧ Ok 45 [(1, .pointer (some ⟨b15, 0, none⟩)), (3, .slice p564 s563.length c565), (4, .int .i64 s431), (5, .int .i64 s567)] c ∧ Sym w0 M I I_ [pto b15 (.cells #[.int .i64 r34.Rows, .int .i64 r34.Cols, .slice p40 r34.Start.length c41, .slice p43 r34.Col.length c44, .slice p46 r34.Val.length c47] 29 (0, 0)), OwnSl eTriple 60 p564 c565 s563] w) (fun c w ho hs => ⟨I434, _, _, (.refl _), ho.sub ⟨rfl, rfl, rfl, rfl, trivial⟩, hs.pick (.c .z (.c .z .n))⟩) ?_
    rintro ⟨s563, s567⟩ next568 hd c w hst
    obtain ⟨I569, p564, c565, hl570, hok, hsym⟩ := hst
    have le571 := IH.le.trans le436 hl570
    have le572 := IH.le.trans le437 hl570
    have le573 := IH.le.trans (.refl _) hl570
    replace R42 := R42.mono hl570
    replace R45 := R45.mono hl570
    replace R48 := R48.mono hl570
    refine Cod.at hok hsym ?_
    refine .seq ?_
    refine .seq ?_
    refine .region ?_
    refine .skips 1 rfl ?_
    refine .fieldAddr Tryz.underlying29 rfl Tryz.sizeOf26 rfl (o := 2) rfl rfl rfl ?_
    refine .load1 Tryz.isAgg26 rfl .z rfl rfl rfl ?_
    refine .skips 1 rfl ?_
    refine .add rfl rfl rfl rfl ?_
    obtain ⟨h584, x585, hx586, hd⟩ := hd
    obtain ⟨b587, o588, cs589, e590, hC591, hr592⟩ := R42.2 _ _ hx586
    cases hr592
    refine .ixa Tryz.underlying26 Tryz.sizeOf3 rfl e590 rfl h584 (idx_lt hx586 h584) rfl rfl ?_
    refine .ld1 (j := 0) Tryz.isAgg3 hC591 rfl rfl rfl rfl rfl ?_
    refine .lt rfl rfl rfl rfl ?_
    refine .nil' fun c w ho hs => Cod.at (E := [(1, _), (3, _), (4, _), (5, _), (26, _)]) (ho.sub ⟨rfl, rfl, rfl, rfl, rfl, trivial⟩) hs ?_
    refine .cond rfl (fun hb593 => ?_) (fun hb593 => ?_)
    · have hd := hd.1 hb593
      refine .skip' fun c w ho hs => Cod.at (E := [(1, _), (3, _), (4, _), (5, _)]) (ho.sub ⟨rfl, rfl, rfl, rfl, trivial⟩) hs ?_
      refine .seq ?_
      refine .block ?_
      refine .ownF (.s .z) fun hne594 => ?_
      refine .draw [some 0, some 1, some 2, some 3, some 4, some 5, some 6, some 7, some 8, some 9, some 10, some 11, some 12, some 13, some 14] 15 MX (by kernel_rfl) (by kernel_rfl) (by kernel_rfl) (by kernel_rfl) (by kernel_rfl) (by kernel_rfl) (by kernel_rfl) (fun ex => (pto b15 (.cells #[.int .i64 r34.Rows, .int .i64 r34.Cols, .slice p40 r34.Start.length c41, .slice p43 r34.Col.length c44, .slice p46 r34.Val.length c47] 29 (0, 0))) :: (OwnSl eTriple 60 p564 c565 s563) :: ex) (fun _ _ => (.s (.s .z))) rfl ?_
      refine .f [] rfl (by kernel_rfl) rfl rfl (fun ex => .move rfl rfl rfl .mk) ?_
      refine .f [] rfl (by kernel_rfl) rfl rfl (fun ex => .move rfl rfl rfl .mk) ?_
      refine .f [] rfl (by kernel_rfl) rfl rfl (fun ex => .fieldAddr Tryz.underlying29 rfl Tryz.sizeOf26 rfl (o := 3) rfl rfl rfl .mk) ?_
      refine .f [2] rfl (by kernel_rfl) rfl rfl (fun ex => .load1 Tryz.isAgg26 rfl .z rfl rfl rfl .mk) ?_
      refine .f [] rfl (by kernel_rfl) rfl rfl (fun ex => .move rfl rfl rfl .mk) ?_
      obtain ⟨h595, x596, hx597, hd⟩ := hd
      obtain ⟨b598, o599, cs600, e601, hC602, hr603⟩ := R45.2 _ _ hx597
      cases hr603
      refine .f [3, 4] rfl (by kernel_rfl) rfl rfl (fun ex => .ixa Tryz.underlying26 Tryz.sizeOf3 rfl e601 rfl h595 (idx_lt hx597 h595) rfl rfl .mk) ?_
      refine .f [5] rfl (by kernel_rfl) rfl rfl (fun ex => .ld1 (j := 0) Tryz.isAgg3 hC602 rfl rfl rfl rfl rfl .mk) ?_
      refine .f [] rfl (by kernel_rfl) rfl rfl (fun ex => .fieldAddr Tryz.underlying29 rfl Tryz.sizeOf27 rfl (o := 4) rfl rfl rfl .mk) ?_
      refine .f [7] rfl (by kernel_rfl) rfl rfl (fun ex => .load1 Tryz.isAgg27 rfl .z rfl rfl rfl .mk) ?_
      refine .f [] rfl (by kernel_rfl) rfl rfl (fun ex => .move rfl rfl rfl .mk) ?_
      obtain ⟨h604, x605, hx606, hd⟩ := hd
      obtain ⟨b607, o608, cs609, e610, hC611, hr612⟩ := R48.2 _ _ hx606
      cases hr612
      refine .f [8, 9] rfl (by kernel_rfl) rfl rfl (fun ex => .ixa Tryz.underlying27 Tryz.sizeOf2 rfl e610 rfl h604 (idx_lt hx606 h604) rfl rfl .mk) ?_
      refine .f [10] rfl (by kernel_rfl) rfl rfl (fun ex => .ld1 (j := 0) Tryz.isAgg2 hC611 rfl rfl rfl rfl rfl .mk) ?_
      refine .f [1, 6, 11] rfl (by kernel_rfl) rfl rfl (fun ex => .build Tryz.zeroValue60 Tryz.underlying60 BI60 (.c rfl rfl rfl (.t .nil) (.c rfl rfl rfl (.s (.t .nil)) (.c rfl rfl rfl (.s (.s (.t .nil))) .n))) (by exact ⟨⟨_, _, rfl, rfl, rfl⟩, ⟨⟨_, _, rfl, rfl, rfl⟩, ⟨⟨_, _, rfl, rfl, rfl⟩, trivial⟩⟩⟩) rfl rfl .mk) ?_
      refine .w [0] [[], [12], [11, 12], [10, 11, 12], [10, 11, 12], [8, 10, 11, 12], [12], [6, 12], [5, 6, 12], [5, 6, 12], [3, 5, 6, 12], [12]] [12] rfl (by kernel_rfl) (by kernel_rfl) (by kernel_rfl) ((dropE_kept rfl rfl)) (.inr (dropE_kept rfl rfl)) fun ex => ?_
      refine .buildSlice 1 Tryz.underlying24 Tryz.sizeOf60 Tryz.zeroValue60 rfl rfl (.c rfl rfl rfl .n) rfl rfl fun b613 => ?_
      refine .some (fun ex => (pto b613 (.cells #[.int .i64 s431, .int .i64 x596, .int .i64 x605] 60 (0, 0))) :: (pto b15 (.cells #[.int .i64 r34.Rows, .int .i64 r34.Cols, .slice p40 r34.Start.length c41, .slice p43 r34.Col.length c44, .slice p46 r34.Val.length c47] 29 (0, 0))) :: (OwnSl eTriple 60 p564 c565 s563) :: ex) rfl (fun _ _ => (.s (.s (.s .z)))) rfl (.cc [] rfl (by kernel_rfl) rfl rfl rfl (fun ex => .move rfl rfl rfl .mk) trivial) ?_
      refine .w [] [[]] [0, 13] rfl (by kernel_rfl) (by kernel_rfl) (by kernel_rfl) ((dropE_kept rfl rfl)) (.inr (dropE_kept rfl rfl)) fun ex => ?_
      obtain ⟨hl615, hd⟩ := hd
      refine .append (ys := [({ Row := s431, Col := x596, Val := x605 } : Triple)]) 24 (.s (.s .z)) Tryz.underlying24 Tryz.underlying24 IN60 rfl rfl rfl rfl rfl rfl rfl rfl rfl (.box .z (.one rfl) rfl) hl615 rfl rfl fun p616 c617 => ?_
      refine .some (fun ex => (OwnSl eTriple 60 p616 c617 (s563 ++ ([({ Row := s431, Col := x596, Val := x605 } : Triple)]))) :: (pto b613 (.cells #[.int .i64 s431, .int .i64 x596, .int .i64 x605] 60 (0, 0))) :: (pto b15 (.cells #[.int .i64 r34.Rows, .int .i64 r34.Cols, .slice p40 r34.Start.length c41, .slice p43 r34.Col.length c44, .slice p46 r34.Val.length c47] 29 (0, 0))) :: ex) rfl (fun _ _ => (.s (.s (.s .z)))) rfl trivial ?_
      refine .e 15 (by kernel_rfl) (by kernel_rfl) (by kernel_rfl) ?_
      refine .sub (E' := [(1, _), (4, _), (5, _), (29, _), (30, _), (31, _), (32, _), (33, _), (34, _), (35, _), (36, _), (37, _), (38, _), (39, _), (40, _), (41, _), (42, _), (43, _)]) ⟨rfl, rfl, rfl, rfl, rfl, rfl, rfl, rfl, rfl, rfl, rfl, rfl, rfl, rfl, rfl, rfl, rfl, rfl, trivial⟩ ?_
      refine .skips 1 rfl ?_
      refine .nil' fun c w ho hs => Cod.at (E := [(1, _), (4, _), (5, _), (3, _)]) (ho.sub ⟨rfl, rfl, rfl, rfl, trivial⟩) hs ?_
      refine .drop (.s .z) ?_
      refine .region ?_
      refine .skips 1 rfl ?_
      refine .add rfl rfl rfl rfl ?_
      refine .sub (E' := [(1, _), (4, _), (3, _), (27, _), (28, _)]) ⟨rfl, rfl, rfl, rfl, rfl, trivial⟩ ?_
      refine .skips 1 rfl ?_
      exact .nil' fun c w ho hs => ⟨((s563 ++ ([({ Row := s431, Col := x596, Val := x605 } : Triple)])), w64 (s567 + 1)), hd, I569, _, _, le573, ho.sub ⟨rfl, rfl, rfl, rfl, trivial⟩, hs.pick (.c (.s .z) (.c .z .n))⟩
    · have hd := hd.2 hb593
      refine .exit fun c w ho hs => Cod.at (E := [(1, _), (3, _), (4, _)]) (ho.sub ⟨rfl, rfl, rfl, trivial⟩) hs ?_
      refine .region ?_
      refine .skips 1 rfl ?_
      refine .add rfl rfl rfl rfl ?_
      refine .sub (E' := [(1, _), (3, _), (12, _), (13, _)]) ⟨rfl, rfl, rfl, rfl, trivial⟩ ?_
      refine .skips 1 rfl ?_
      exact .nil' fun c w ho hs => ⟨(s563, w64 (s431 + 1)), hd, I569, _, _, le572, ho.sub ⟨rfl, rfl, rfl, trivial⟩, hs.pick (.c .z (.c .z .n))⟩
  · have hd := hd.2 hb439
    refine .exit fun c w ho hs => Cod.at (E := [(3, _)]) (ho.sub ⟨rfl, trivial⟩) hs ?_
    refine .drop .z ?_
    refine .seq ?_
    refine .region ?_
    refine .skips 2 rfl ?_
    refine .nil' fun c w ho hs => Cod.at (E := [(2, _)]) (ho.sub ⟨rfl, trivial⟩) hs ?_
    refine .pub .z fun I619 hl620 R621 => ?_
    have le622 := IH.le.trans le436 hl620
    have le623 := IH.le.trans le437 hl620
    exact .ret (pret Tryz.results25 (.t rfl .n) le622 ⟨s427, _, _, rfl, R621, hd⟩)

theorem W_ref07_Turn {I : IH} {a0 : Rows} {p1 : Option Addr} {c2 : Nat} {p4 : Option Addr} {c5 : Nat} {p7 : Option Addr} {c8 : Nat} {Q : Rows → Prop} (R3 : RepSl eI64 I p1 c2 a0.Start) (R6 : RepSl eI64 I p4 c5 a0.Col) (R9 : RepSl eI64 I p7 c8 a0.Val) (hd : ref07_Turn a0 Q) :
    PFun Tryz.prog 27 [.agg #[.int .i64 a0.Rows, .int .i64 a0.Cols, .slice p1 a0.Start.length c2, .slice p4 a0.Col.length c5, .slice p7 a0.Val.length c8]] I (fun I_ v => ∃ r p10 c11 p13 c14 p16 c17, v = .agg #[.int .i64 r.Rows, .int .i64 r.Cols, .slice p10 r.Start.length c11, .slice p13 r.Col.length c14, .slice p16 r.Val.length c17] ∧ RepSl eI64 I_ p10 c11 r.Start ∧ RepSl eI64 I_ p13 c14 r.Col ∧ RepSl eI64 I_ p16 c17 r.Val ∧ Q r) := by
  refine Fun.enter Tryz.func27 rfl Tryz.ntmps27 rfl (.c .n) fun w0 M => ?_
  refine .seq ?_
  refine .region ?_
  refine .boxA rfl rfl rfl fun b23 => ?_
  refine .allocA Tryz.zeroValue29 rfl rfl fun b25 => ?_
  refine .nil' fun c w ho hs => Cod.at (E := [(1, _), (2, _)]) (ho.sub ⟨rfl, rfl, trivial⟩) hs ?_
  refine .seq ?_
  refine .region ?_
  refine .loadW Tryz.isAgg29 Tryz.sizeOf29 rfl (.s .z) rfl rfl rfl ?_
  have hw59 := W_ref07_Sure (I := I) R3 R6 R9 hd
  refine .call Tryz.call52 rfl hw59 rfl rfl fun v48 I45 hl46 hv47 => ?_
  obtain ⟨r44, p50, c51, p53, c54, p56, c57, rfl, R52, R55, R58, hd⟩ := hv47
  have le60 := IH.le.trans (.refl _) hl46
  replace R3 := R3.mono hl46
  replace R6 := R6.mono hl46
  replace R9 := R9.mono hl46
  refine .storeA Tryz.sizeOf29 rfl rfl (.s .z) (.t (.t (.t (.t (.t .nil))))) rfl rfl ?_
  refine .nil' fun c w ho hs => Cod.at (E := [(1, _), (2, _)]) (ho.sub ⟨rfl, rfl, trivial⟩) hs ?_
  refine .seq ?_
  refine .region ?_
  refine .loadW Tryz.isAgg29 Tryz.sizeOf29 rfl (.s .z) rfl rfl rfl ?_
  have hw81 := W_ref07_Triples (I := I45) R52 R55 R58 hd
  refine .call Tryz.call25 rfl hw81 rfl rfl fun v76 I73 hl74 hv75 => ?_
  obtain ⟨r72, p78, c79, rfl, R80, hd⟩ := hv75
  have le82 := IH.le.trans le60 hl74
  replace R52 := R52.mono hl74
  replace R55 := R55.mono hl74
  replace R58 := R58.mono hl74
  refine .skips 1 rfl ?_
  refine .nil' fun c w ho hs => Cod.at (E := [(1, _), (2, _), (3, _)]) (ho.sub ⟨rfl, rfl, rfl, trivial⟩) hs ?_
  refine .seq ?_
  refine .region ?_
  refine .skips 1 rfl ?_
  refine .nil' fun c w ho hs => Cod.at (E := [(1, _), (2, _), (3, _), (4, _)]) (ho.sub ⟨rfl, rfl, rfl, rfl, trivial⟩) hs ?_
  refine .seq ?_
  refine .seq ?_
  refine .region ?_
  refine .skips 1 rfl ?_
  refine .nil' fun c w ho hs => Cod.at (E := [(1, _), (2, _), (3, _), (4, _), (5, _)]) (ho.sub ⟨rfl, rfl, rfl, rfl, rfl, trivial⟩) hs ?_
  refine .block ?_
  refine .own0 eTriple 60 ?_
  refine .loop hd (fun (s : (List Triple) × Int) c w => match s with | (s429, s433) => ∃ I_ p430 c431, IH.le I73 I_ ∧ Ok 51 [(1, .pointer (some ⟨b23, 0, none⟩)), (2, .pointer (some ⟨b25, 0, none⟩)), (3, .slice p78 r72.length c79), (4, .slice p430 s429.length c431), (5, .int .i64 s433)] c ∧ Sym w0 M I I_ [pto b23 (.cells #[.int .i64 r44.Rows, .int .i64 r44.Cols, .slice p50 r44.Start.length c51, .slice p53 r44.Col.length c54, .slice p56 r44.Val.length c57] 29 (0, 0)), pto b25 (.cells #[.int .i64 0, .int .i64 0, .slice none 0 0, .slice none 0 0, .slice none 0 0] 29 (0, 0)), OwnSl eTriple 60 p430 c431 s429] w) (fun c w ho hs => ⟨I73, _, _, (.refl _), ho.sub ⟨rfl, rfl, rfl, rfl, rfl, trivial⟩, hs.pick (.c (.s (.s .z)) (.c (.s .z) (.c .z .n)))⟩) ?_
  rintro ⟨s429, s433⟩ next435 hd c w hst
  obtain ⟨I436, p430, c431, hl437, hok, hsym⟩ := hst
  have le438 := IH.le.trans le82 hl437
  have le439 := IH.le.trans (.refl _) hl437
  replace R52 := R52.mono hl437
  replace R55 := R55.mono hl437
  replace R58 := R58.mono hl437
  replace R80 := R80.mono hl437
  refine Cod.at hok hsym ?_
  refine .seq ?_
  refine .seq ?_
  refine .region ?_
  refine .skips 1 rfl ?_
  refine .fieldAddr Tryz.underlying29 rfl Tryz.sizeOf3 rfl (o := 1) rfl rfl rfl ?_
  refine .load1 Tryz.isAgg3 rfl .z rfl rfl rfl ?_
  refine .lt rfl rfl rfl rfl ?_
  refine .nil' fun c w ho hs => Cod.at (E := [(1, _), (2, _), (3, _), (4, _), (5, _), (14, _)]) (ho.sub ⟨rfl, rfl, rfl, rfl, rfl, rfl, trivial⟩) hs ?_
  refine .cond rfl (fun hb441 => ?_) (fun hb441 => ?_)
  · have hd := hd.1 hb441
    refine .skip' fun c w ho hs => Cod.at (E := [(1, _), (2, _), (3, _), (4, _), (5, _)]) (ho.sub ⟨rfl, rfl, rfl, rfl, rfl, trivial⟩) hs ?_
    refine .seq ?_
    refine .block ?_
    refine .seq ?_
    refine .region ?_
    refine .skips 1 rfl ?_
    refine .nil' fun c w ho hs => Cod.at (E := [(1, _), (2, _), (3, _), (4, _), (5, _), (6, _)]) (ho.sub ⟨rfl, rfl, rfl, rfl, rfl, rfl, trivial⟩) hs ?_
    refine .block ?_
    refine .loop hd (fun (s : (List Triple) × Int) c w => match s with | (s549, s553) => ∃ I_ p550 c551, IH.le I436 I_ ∧ Ok 51 [(1, .pointer (some ⟨b23, 0, none⟩)), (2, .pointer (some ⟨b25, 0, none⟩)), (3, .slice p78 r72.length c79), (4, .slice p550 s549.length c551), (5, .int .i64 s433), (6, .int .i64 s553)] c ∧ Sym w0 M I I_ [pto b23 (.cells #[.int .i64 r44.Rows, .int .i64 r44.Cols, .slice p50 r44.Start.length c51, .slice p53 r44.Col.length c54, .slice p56 r44.Val.length c57] 29 (0, 0)), pto b25 (.cells #[.int .i64 0, .int .i64 0, .slice none 0 0, .slice none 0 0, .slice none 0 0] 29 (0, 0)), OwnSl eTriple 60 p550 c551 s549] w) (fun c w ho hs => ⟨I436, _, _, (.refl _), ho.sub ⟨rfl, rfl, rfl, rfl, rfl, rfl, trivial⟩, hs.pick (.c .z (.c .z (.c .z .n)))⟩) ?_
    rintro ⟨s549, s553⟩ next554 hd c w hst
    obtain ⟨I555, p550, c551, hl556, hok, hsym⟩ := hst
    have le557 := IH.le.trans le438 hl556
    have le558 := IH.le.trans le439 hl556
    have le559 := IH.le.trans (.refl _) hl556
    replace R52 := R52.mono hl556
    replace R55 := R55.mono hl556
    replace R58 := R58.mono hl556
    replace R80 := R80.mono hl556
    refine Cod.at hok hsym ?_
    refine .seq ?_
    refine .seq ?_
    refine .region ?_
    refine .skips 2 rfl ?_
    refine .len Tryz.underlying24 rfl rfl rfl rfl ?_
    refine .lt rfl rfl rfl rfl ?_
    refine .nil' fun c w ho hs => Cod.at (E := [(1, _), (2, _), (3, _), (4, _), (5, _), (6, _), (20, _)]) (ho.sub ⟨rfl, rfl, rfl, rfl, rfl, rfl, rfl, trivial⟩) hs ?_
    refine .cond rfl (fun hb561 => ?_) (fun hb561 => ?_)
    · have hd := hd.1 hb561
      refine .skip' fun c w ho hs => Cod.at (E := [(1, _), (2, _), (3, _), (4, _), (5, _), (6, _)]) (ho.sub ⟨rfl, rfl, rfl, rfl, rfl, rfl, trivial⟩) hs ?_
      refine .seq ?_
      refine .block ?_
      refine .seq ?_
      refine .region ?_
      refine .skips 2 rfl ?_
      obtain ⟨h571, x572, hx573, hd⟩ := hd
      obtain ⟨b574, o575, cs576, e577, hC578, hr579⟩ := R80.2 _ _ hx573
      cases hr579
      refine .ixa Tryz.underlying24 Tryz.sizeOf60 rfl e577 rfl h571 (idx_lt hx573 h571) rfl rfl ?_
      refine .fieldAddr Tryz.underlying60 rfl Tryz.sizeOf3 rfl (o := o575 + s553.toNat * 3 + 1) rfl rfl rfl ?_
      refine .ld1 (j := 1) Tryz.isAgg3 hC578 rfl rfl rfl rfl rfl ?_
      refine .skips 1 rfl ?_
      refine .eq rfl rfl rfl rfl ?_
      refine .nil' fun c w ho hs => Cod.at (E := [(1, _), (2, _), (3, _), (4, _), (5, _), (6, _), (29, _)]) (ho.sub ⟨rfl, rfl, rfl, rfl, rfl, rfl, rfl, trivial⟩) hs ?_
      refine .cond rfl (fun hb580 => ?_) (fun hb580 => ?_)
      · have hd := hd.1 hb580
        refine .ownF (.s (.s .z)) fun hne581 => ?_
        refine .draw [some 0, some 1, some 2, some 3, some 4, some 5, some 6, some 7, some 8, some 9, some 10, some 11, some 12, some 13, some 14] 15 MX (by kernel_rfl) (by kernel_rfl) (by kernel_rfl) (by kernel_rfl) (by kernel_rfl) (by kernel_rfl) (by kernel_rfl) (fun ex => (pto b23 (.cells #[.int .i64 r44.Rows, .int .i64 r44.Cols, .slice p50 r44.Start.length c51, .slice p53 r44.Col.length c54, .slice p56 r44.Val.length c57] 29 (0, 0))) :: (pto b25 (.cells #[.int .i64 0, .int .i64 0, .slice none 0 0, .slice none 0 0, .slice none 0 0] 29 (0, 0))) :: (OwnSl eTriple 60 p550 c551 s549) :: ex) (fun _ _ => (.s (.s (.s .z)))) rfl ?_
        refine .f [] rfl (by kernel_rfl) rfl rfl (fun ex => .move rfl rfl rfl .mk) ?_
        refine .f [] rfl (by kernel_rfl) rfl rfl (fun ex => .move rfl rfl rfl .mk) ?_
        refine .f [] rfl (by kernel_rfl) rfl rfl (fun ex => .move rfl rfl rfl .mk) ?_
        refine .f [] rfl (by kernel_rfl) rfl rfl (fun ex => .move rfl rfl rfl .mk) ?_
        obtain ⟨h582, x583, hx584, hd⟩ := hd
        obtain ⟨b585, o586, cs587, e588, hC589, hr590⟩ := R80.2 _ _ hx584
        cases hr590
        refine .f [2, 3] rfl (by kernel_rfl) rfl rfl (fun ex => .ixa Tryz.underlying24 Tryz.sizeOf60 rfl e588 rfl h582 (idx_lt hx584 h582) rfl rfl .mk) ?_
        refine .f [4] rfl (by kernel_rfl) rfl rfl (fun ex => .fieldAddr Tryz.underlying60 rfl Tryz.sizeOf3 rfl (o := o586 + s553.toNat * 3) rfl rfl rfl .mk) ?_
        refine .f [5] rfl (by kernel_rfl) rfl rfl (fun ex => .ld1 (j := 0) Tryz.isAgg3 hC589 rfl rfl rfl rfl rfl .mk) ?_
        refine .f [] rfl (by kernel_rfl) rfl rfl (fun ex => .move rfl rfl rfl .mk) ?_
        refine .f [] rfl (by kernel_rfl) rfl rfl (fun ex => .move rfl rfl rfl .mk) ?_
        obtain ⟨h591, x592, hx593, hd⟩ := hd
        obtain ⟨b594, o595, cs596, e597, hC598, hr599⟩ := R80.2 _ _ hx593
        cases hr599
        refine .f [7, 8] rfl (by kernel_rfl) rfl rfl (fun ex => .ixa Tryz.underlying24 Tryz.sizeOf60 rfl e597 rfl h591 (idx_lt hx593 h591) rfl rfl .mk) ?_
        refine .f [9] rfl (by kernel_rfl) rfl rfl (fun ex => .fieldAddr Tryz.underlying60 rfl Tryz.sizeOf2 rfl (o := o595 + s553.toNat * 3 + 2) rfl rfl rfl .mk) ?_
        refine .f [10] rfl (by kernel_rfl) rfl rfl (fun ex => .ld1 (j := 2) Tryz.isAgg2 hC598 rfl rfl rfl rfl rfl .mk) ?_
        refine .f [1, 6, 11] rfl (by kernel_rfl) rfl rfl (fun ex => .build Tryz.zeroValue60 Tryz.underlying60 BI60 (.c rfl rfl rfl (.t .nil) (.c rfl rfl rfl (.s (.t .nil)) (.c rfl rfl rfl (.s (.s (.t .nil))) .n))) (by exact ⟨⟨_, _, rfl, rfl, rfl⟩, ⟨⟨_, _, rfl, rfl, rfl⟩, ⟨⟨_, _, rfl, rfl, rfl⟩, trivial⟩⟩⟩) rfl rfl .mk) ?_
        refine .w [0] [[], [12], [11, 12], [10, 11, 12], [9, 10, 11, 12], [9, 10, 11, 12], [12], [6, 12], [5, 6, 12], [4, 5, 6, 12], [4, 5, 6, 12], [12]] [12] rfl (by kernel_rfl) (by kernel_rfl) (by kernel_rfl) ((dropE_kept rfl rfl)) (.inr (dropE_kept rfl rfl)) fun ex => ?_
        refine .buildSlice 1 Tryz.underlying24 Tryz.sizeOf60 Tryz.zeroValue60 rfl rfl (.c rfl rfl rfl .n) rfl rfl fun b600 => ?_
        refine .some (fun ex => (pto b600 (.cells #[.int .i64 s433, .int .i64 x583.Row, .int .i64 x592.Val] 60 (0, 0))) :: (pto b23 (.cells #[.int .i64 r44.Rows, .int .i64 r44.Cols, .slice p50 r44.Start.length c51, .slice p53 r44.Col.length c54, .slice p56 r44.Val.length c57] 29 (0, 0))) :: (pto b25 (.cells #[.int .i64 0, .int .i64 0, .slice none 0 0, .slice none 0 0, .slice none 0 0] 29 (0, 0))) :: (OwnSl eTriple 60 p550 c551 s549) :: ex) rfl (fun _ _ => (.s (.s (.s (.s .z))))) rfl (.cc [] rfl (by kernel_rfl) rfl rfl rfl (fun ex => .move rfl rfl rfl .mk) trivial) ?_
        refine .w [] [[]] [0, 13] rfl (by kernel_rfl) (by kernel_rfl) (by kernel_rfl) ((dropE_kept rfl rfl)) (.inr (dropE_kept rfl rfl)) fun ex => ?_
        obtain ⟨hl602, hd⟩ := hd
        refine .append (ys := [({ Row := s433, Col := x583.Row, Val := x592.Val } : Triple)]) 24 (.s (.s (.s .z))) Tryz.underlying24 Tryz.underlying24 IN60 rfl rfl rfl rfl rfl rfl rfl rfl rfl (.box .z (.one rfl) rfl) hl602 rfl rfl fun p603 c604 => ?_
        refine .some (fun ex => (OwnSl eTriple 60 p603 c604 (s549 ++ ([({ Row := s433, Col := x583.Row, Val := x592.Val } : Triple)]))) :: (pto b600 (.cells #[.int .i64 s433, .int .i64 x583.Row, .int .i64 x592.Val] 60 (0, 0))) :: (pto b23 (.cells #[.int .i64 r44.Rows, .int .i64 r44.Cols, .slice p50 r44.Start.length c51, .slice p53 r44.Col.length c54, .slice p56 r44.Val.length c57] 29 (0, 0))) :: (pto b25 (.cells #[.int .i64 0, .int .i64 0, .slice none 0 0, .slice none 0 0, .slice none 0 0] 29 (0, 0))) :: ex) rfl (fun _ _ => (.s (.s (.s (.s .z))))) rfl trivial ?_
        refine .e 15 (by kernel_rfl) (by kernel_rfl) (by kernel_rfl) ?_
        refine .sub (E' := [(1, _), (2, _), (3, _), (5, _), (6, _), (29, _), (30, _), (31, _), (32, _), (33, _), (34, _), (35, _), (36, _), (37, _), (38, _), (39, _), (40, _), (41, _), (42, _), (43, _), (44, _)]) ⟨rfl, rfl, rfl, rfl, rfl, rfl, rfl, rfl, rfl, rfl, rfl, rfl, rfl, rfl, rfl, rfl, rfl, rfl, rfl, rfl, rfl, trivial⟩ ?_
        refine .skips 1 rfl ?_
        refine .nil' fun c w ho hs => Cod.at (E := [(1, _), (2, _), (3, _), (5, _), (6, _), (4, _)]) (ho.sub ⟨rfl, rfl, rfl, rfl, rfl, rfl, trivial⟩) hs ?_
        refine .drop (.s .z) ?_
        refine .region ?_
        refine .skips 1 rfl ?_
        refine .add rfl rfl rfl rfl ?_
        refine .sub (E' := [(1, _), (2, _), (3, _), (5, _), (4, _), (21, _), (22, _)]) ⟨rfl, rfl, rfl, rfl, rfl, rfl, rfl, trivial⟩ ?_
        refine .skips 1 rfl ?_
        exact .nil' fun c w ho hs => ⟨((s549 ++ ([({ Row := s433, Col := x583.Row, Val := x592.Val } : Triple)])), w64 (s553 + 1)), hd, I555, _, _, le559, ho.sub ⟨rfl, rfl, rfl, rfl, rfl, rfl, trivial⟩, hs.pick (.c (.s .z) (.c (.s .z) (.c .z .n)))⟩
      · have hd := hd.2 hb580
        refine .skip' fun c w ho hs => Cod.at (E := [(1, _), (2, _), (3, _), (4, _), (5, _), (6, _)]) (ho.sub ⟨rfl, rfl, rfl, rfl, rfl, rfl, trivial⟩) hs ?_
        refine .region ?_
        refine .skips 1 rfl ?_
        refine .add rfl rfl rfl rfl ?_
        refine .sub (E' := [(1, _), (2, _), (3, _), (4, _), (5, _), (21, _), (22, _)]) ⟨rfl, rfl, rfl, rfl, rfl, rfl, rfl, trivial⟩ ?_
        refine .skips 1 rfl ?_
        exact .nil' fun c w ho hs => ⟨(s549, w64 (s553 + 1)), hd, I555, _, _, le559, ho.sub ⟨rfl, rfl, rfl, rfl, rfl, rfl, trivial⟩, hs.pick (.c .z (.c .z (.c .z .n)))⟩
    · have hd := hd.2 hb561
      refine .exit fun c w ho hs => Cod.at (E := [(1, _), (2, _), (3, _), (4, _), (5, _)]) (ho.sub ⟨rfl, rfl, rfl, rfl, rfl, trivial⟩) hs ?_
      refine .region ?_
      refine .skips 1 rfl ?_
      refine .add rfl rfl rfl rfl ?_
      refine .sub (E' := [(1, _), (2, _), (3, _), (4, _), (15, _), (16, _)]) ⟨rfl, rfl, rfl, rfl, rfl, rfl, trivial⟩ ?_
      refine .skips 1 rfl ?_
      exact .nil' fun c w ho hs => ⟨(s549, w64 (s433 + 1)), hd, I555, _, _, le558, ho.sub ⟨rfl, rfl, rfl, rfl, rfl, trivial⟩, hs.pick (.c .z (.c .z (.c .z .n)))⟩
  · have hd := hd.2 hb441
    refine .exit fun c w ho hs => Cod.at (E := [(1, _), (2, _), (4, _)]) (ho.sub ⟨rfl, rfl, rfl, trivial⟩) hs ?_
    refine .seq ?_
    refine .region ?_
    refine .fieldAddr Tryz.underlying29 rfl Tryz.sizeOf3 rfl (o := 1) rfl rfl rfl ?_
    refine .load1 Tryz.isAgg3 rfl .z rfl rfl rfl ?_
    refine .fieldAddr Tryz.underlying29 rfl Tryz.sizeOf3 rfl (o := 0) rfl rfl rfl ?_
    refine .load1 Tryz.isAgg3 rfl .z rfl rfl rfl ?_
    refine .skips 1 rfl ?_
    refine .pub (.s (.s .z)) fun I606 hl607 R608 => ?_
    have le609 := IH.le.trans le438 hl607
    have le610 := IH.le.trans le439 hl607
    replace R52 := R52.mono hl607
    replace R55 := R55.mono hl607
    replace R58 := R58.mono hl607
    have hw626 := W_ref07_built (I := I606) R608 hd
    refine .call Tryz.call44 rfl hw626 rfl rfl fun v615 I612 hl613 hv614 => ?_
    obtain ⟨r611, p617, c618, p620, c621, p623, c624, rfl, R619, R622, R625, hd⟩ := hv614
    have le627 := IH.le.trans le609 hl613
    have le628 := IH.le.trans le610 hl613
    replace R52 := R52.mono hl613
    replace R55 := R55.mono hl613
    replace R58 := R58.mono hl613
    replace R608 := R608.mono hl613
    refine .storeA Tryz.sizeOf29 rfl rfl (.s .z) (.t (.t (.t (.t (.t .nil))))) rfl rfl ?_
    refine .nil' fun c w ho hs => Cod.at (E := [(2, _)]) (ho.sub ⟨rfl, trivial⟩) hs ?_
    refine .drop .z ?_
    exact .ret (pret Tryz.results27 (.w Tryz.isAgg29 Tryz.sizeOf29 rfl .z rfl .n) le627 ⟨r611, _, _, _, _, _, _, rfl, R619, R622, R625, hd⟩)

theorem W_ref07_Cut {I : IH} {a0 : Rows} {a1 : Int × Int} {a2 : Int × Int} {p1 : Option Addr} {c2 : Nat} {p4 : Option Addr} {c5 : Nat} {p7 : Option Addr} {c8 : Nat} {Q : Rows → Prop} (R3 : RepSl eI64 I p1 c2 a0.Start) (R6 : RepSl eI64 I p4 c5 a0.Col) (R9 : RepSl eI64 I p7 c8 a0.Val) (hd : ref07_Cut a0 a1 a2 Q) :
    PFun Tryz.prog 29 [.agg #[.int .i64 a0.Rows, .int .i64 a0.Cols, .slice p1 a0.Start.length c2, .slice p4 a0.Col.length c5, .slice p7 a0.Val.length c8], .agg #[.int .i64 a1.1, .int .i64 a1.2], .agg #[.int .i64 a2.1, .int .i64 a2.2]] I (fun I_ v => ∃ r p10 c11 p13 c14 p16 c17, v = .agg #[.int .i64 r.Rows, .int .i64 r.Cols, .slice p10 r.Start.length c11, .slice p13 r.Col.length c14, .slice p16 r.Val.length c17] ∧ RepSl eI64 I_ p10 c11 r.Start ∧ RepSl eI64 I_ p13 c14 r.Col ∧ RepSl eI64 I_ p16 c17 r.Val ∧ Q r) := by
  refine Fun.enter Tryz.func29 rfl Tryz.ntmps29 rfl (.c (.c (.c .n))) fun w0 M => ?_
  refine .seq ?_
  refine .region ?_
  refine .boxA rfl rfl rfl fun b27 => ?_
  refine .boxA rfl rfl rfl fun b29 => ?_
  refine .boxA rfl rfl rfl fun b31 => ?_
  refine .allocA Tryz.zeroValue29 rfl rfl fun b33 => ?_
  refine .nil' fun c w ho hs => Cod.at (E := [(3, _), (4, _), (5, _), (6, _)]) (ho.sub ⟨rfl, rfl, rfl, rfl, trivial⟩) hs ?_
  refine .seq ?_
  refine .region ?_
  refine .loadW Tryz.isAgg29 Tryz.sizeOf29 rfl (.s (.s (.s .z))) rfl rfl rfl ?_
  have hw67 := W_ref07_Sure (I := I) R3 R6 R9 hd
  refine .call Tryz.call52 rfl hw67 rfl rfl fun v56 I53 hl54 hv55 => ?_
  obtain ⟨r52, p58, c59, p61, c62, p64, c65, rfl, R60, R63, R66, hd⟩ := hv55
  have le68 := IH.le.trans (.refl _) hl54
  replace R3 := R3.mono hl54
  replace R6 := R6.mono hl54
  replace R9 := R9.mono hl54
  refine .storeA Tryz.sizeOf29 rfl rfl (.s (.s (.s .z))) (.t (.t (.t (.t (.t .nil))))) rfl rfl ?_
  refine .nil' fun c w ho hs => Cod.at (E := [(3, _), (4, _), (5, _), (6, _)]) (ho.sub ⟨rfl, rfl, rfl, rfl, trivial⟩) hs ?_
  refine .seq ?_
  refine .draw [some 0, some 1, some 2, some 3, some 4, some 5, some 6] 7 MX (by kernel_rfl) (by kernel_rfl) (by kernel_rfl) (by kernel_rfl) (by kernel_rfl) (by kernel_rfl) (by kernel_rfl) (fun ex => (pto b33 (.cells #[.int .i64 0, .int .i64 0, .slice none 0 0, .slice none 0 0, .slice none 0 0] 29 (0, 0))) :: (pto b31 (.cells #[.int .i64 a2.1, .int .i64 a2.2] 23 (0, 0))) :: (pto b29 (.cells #[.int .i64 a1.1, .int .i64 a1.2] 23 (0, 0))) :: (pto b27 (.cells #[.int .i64 r52.Rows, .int .i64 r52.Cols, .slice p58 r52.Start.length c59, .slice p61 r52.Col.length c62, .slice p64 r52.Val.length c65] 29 (0, 0))) :: ex) (fun _ _ => (.s (.s (.s (.s .z))))) rfl ?_
  refine .f [] rfl (by kernel_rfl) rfl rfl (fun ex => .ixArr (i := 0) Tryz.underlying23 Tryz.sizeOf3 rfl rfl (by decide) (o := 0) rfl rfl rfl .mk) ?_
  refine .f [0] rfl (by kernel_rfl) rfl rfl (fun ex => .load1 Tryz.isAgg3 rfl (.s (.s .z)) rfl rfl rfl .mk) ?_
  refine .f [1] rfl (by kernel_rfl) rfl rfl (fun ex => .maxI rfl rfl rfl rfl .mk) ?_
  refine .f [] rfl (by kernel_rfl) rfl rfl (fun ex => .ixArr (i := 0) Tryz.underlying23 Tryz.sizeOf3 rfl rfl (by decide) (o := 0) rfl rfl rfl .mk) ?_
  refine .f [3] rfl (by kernel_rfl) rfl rfl (fun ex => .load1 Tryz.isAgg3 rfl (.s .z) rfl rfl rfl .mk) ?_
  refine .f [4] rfl (by kernel_rfl) rfl rfl (fun ex => .maxI rfl rfl rfl rfl .mk) ?_
  refine .f [2, 0, 1, 2] rfl (by kernel_rfl) rfl rfl (fun ex => .assign rfl rfl rfl .mk) ?_
  refine .e 7 (by kernel_rfl) (by kernel_rfl) (by kernel_rfl) ?_
  refine .skips 1 rfl ?_
  refine .nil' fun c w ho hs => Cod.at (E := [(3, _), (4, _), (5, _), (6, _), (7, _), (8, _)]) (ho.sub ⟨rfl, rfl, rfl, rfl, rfl, rfl, trivial⟩) hs ?_
  refine .seq ?_
  refine .draw [some 0, some 1, some 2, some 3, some 4, some 5, some 6, some 7, some 8, some 9, some 10] 11 MX (by kernel_rfl) (by kernel_rfl) (by kernel_rfl) (by kernel_rfl) (by kernel_rfl) (by kernel_rfl) (by kernel_rfl) (fun ex => (pto b33 (.cells #[.int .i64 0, .int .i64 0, .slice none 0 0, .slice none 0 0, .slice none 0 0] 29 (0, 0))) :: (pto b31 (.cells #[.int .i64 a2.1, .int .i64 a2.2] 23 (0, 0))) :: (pto b29 (.cells #[.int .i64 a1.1, .int .i64 a1.2] 23 (0, 0))) :: (pto b27 (.cells #[.int .i64 r52.Rows, .int .i64 r52.Cols, .slice p58 r52.Start.length c59, .slice p61 r52.Col.length c62, .slice p64 r52.Val.length c65] 29 (0, 0))) :: ex) (fun _ _ => (.s (.s (.s (.s .z))))) rfl ?_
  refine .f [] rfl (by kernel_rfl) rfl rfl (fun ex => .ixArr (i := 1) Tryz.underlying23 Tryz.sizeOf3 rfl rfl (by decide) (o := 1) rfl rfl rfl .mk) ?_
  refine .f [0] rfl (by kernel_rfl) rfl rfl (fun ex => .load1 Tryz.isAgg3 rfl (.s (.s .z)) rfl rfl rfl .mk) ?_
  refine .f [] rfl (by kernel_rfl) rfl rfl (fun ex => .fieldAddr Tryz.underlying29 rfl Tryz.sizeOf3 rfl (o := 0) rfl rfl rfl .mk) ?_
  refine .f [2] rfl (by kernel_rfl) rfl rfl (fun ex => .load1 Tryz.isAgg3 rfl (.s (.s (.s .z))) rfl rfl rfl .mk) ?_
  refine .f [1, 3] rfl (by kernel_rfl) rfl rfl (fun ex => .minI rfl rfl rfl rfl .mk) ?_
  refine .f [] rfl (by kernel_rfl) rfl rfl (fun ex => .ixArr (i := 1) Tryz.underlying23 Tryz.sizeOf3 rfl rfl (by decide) (o := 1) rfl rfl rfl .mk) ?_
  refine .f [5] rfl (by kernel_rfl) rfl rfl (fun ex => .load1 Tryz.isAgg3 rfl (.s .z) rfl rfl rfl .mk) ?_
  refine .f [] rfl (by kernel_rfl) rfl rfl (fun ex => .fieldAddr Tryz.underlying29 rfl Tryz.sizeOf3 rfl (o := 1) rfl rfl rfl .mk) ?_
  refine .f [7] rfl (by kernel_rfl) rfl rfl (fun ex => .load1 Tryz.isAgg3 rfl (.s (.s (.s .z))) rfl rfl rfl .mk) ?_
  refine .f [6, 8] rfl (by kernel_rfl) rfl rfl (fun ex => .minI rfl rfl rfl rfl .mk) ?_
  refine .f [4, 0, 1, 2, 3, 4] rfl (by kernel_rfl) rfl rfl (fun ex => .assign rfl rfl rfl .mk) ?_
  refine .e 11 (by kernel_rfl) (by kernel_rfl) (by kernel_rfl) ?_
  refine .skips 1 rfl ?_
  refine .nil' fun c w ho hs => Cod.at (E := [(3, _), (6, _), (7, _), (8, _), (9, _), (10, _)]) (ho.sub ⟨rfl, rfl, rfl, rfl, rfl, rfl, trivial⟩) hs ?_
  refine .drop (.s .z) ?_
  refine .drop (.s .z) ?_
  refine .seq ?_
  refine .region ?_
  refine .loadW Tryz.isAgg29 Tryz.sizeOf29 rfl (.s .z) rfl rfl rfl ?_
  have hw89 := W_ref07_Triples (I := I53) R60 R63 R66 hd
  refine .call Tryz.call25 rfl hw89 rfl rfl fun v84 I81 hl82 hv83 => ?_
  obtain ⟨r80, p86, c87, rfl, R88, hd⟩ := hv83
  have le90 := IH.le.trans le68 hl82
  replace R60 := R60.mono hl82
  replace R63 := R63.mono hl82
  replace R66 := R66.mono hl82
  refine .skips 1 rfl ?_
  refine .nil' fun c w ho hs => Cod.at (E := [(6, _), (7, _), (8, _), (9, _), (10, _), (11, _)]) (ho.sub ⟨rfl, rfl, rfl, rfl, rfl, rfl, trivial⟩) hs ?_
  refine .drop (.s .z) ?_
  refine .seq ?_
  refine .region ?_
  refine .skips 1 rfl ?_
  refine .nil' fun c w ho hs => Cod.at (E := [(6, _), (7, _), (8, _), (9, _), (10, _), (11, _), (12, _)]) (ho.sub ⟨rfl, rfl, rfl, rfl, rfl, rfl, rfl, trivial⟩) hs ?_
  refine .seq ?_
  refine .seq ?_
  refine .region ?_
  refine .skips 1 rfl ?_
  refine .nil' fun c w ho hs => Cod.at (E := [(6, _), (7, _), (8, _), (9, _), (10, _), (11, _), (12, _), (13, _)]) (ho.sub ⟨rfl, rfl, rfl, rfl, rfl, rfl, rfl, rfl, trivial⟩) hs ?_
  refine .block ?_
  refine .own0 eTriple 60 ?_
  refine .loop hd (fun (s : (List Triple) × Int) c w => match s with | (s933, s937) => ∃ I_ p934 c935, IH.le I81 I_ ∧ Ok 121 [(6, .pointer (some ⟨b33, 0, none⟩)), (7, .int .i64 (if 0 > a1.1 then 0 else a1.1)), (8, .int .i64 (if 0 > a2.1 then 0 else a2.1)), (9, .int .i64 (if r52.Rows < a1.2 then r52.Rows else a1.2)), (10, .int .i64 (if r52.Cols < a2.2 then r52.Cols else a2.2)), (11, .slice p86 r80.length c87), (12, .slice p934 s933.length c935), (13, .int .i64 s937)] c ∧ Sym w0 M I I_ [pto b33 (.cells #[.int .i64 0, .int .i64 0, .slice none 0 0, .slice none 0 0, .slice none 0 0] 29 (0, 0)), OwnSl eTriple 60 p934 c935 s933] w) (fun c w ho hs => ⟨I81, _, _, (.refl _), ho.sub ⟨rfl, rfl, rfl, rfl, rfl, rfl, rfl, rfl, trivial⟩, hs.pick (.c (.s .z) (.c .z .n))⟩) ?_
  rintro ⟨s933, s937⟩ next939 hd c w hst
  obtain ⟨I940, p934, c935, hl941, hok, hsym⟩ := hst
  have le942 := IH.le.trans le90 hl941
  have le943 := IH.le.trans (.refl _) hl941
  replace R88 := R88.mono hl941
  refine Cod.at hok hsym ?_
  refine .seq ?_
  refine .seq ?_
  refine .region ?_
  refine .skips 2 rfl ?_
  refine .len Tryz.underlying24 rfl rfl rfl rfl ?_
  refine .lt rfl rfl rfl rfl ?_
  refine .nil' fun c w ho hs => Cod.at (E := [(6, _), (7, _), (8, _), (9, _), (10, _), (11, _), (12, _), (13, _), (39, _)]) (ho.sub ⟨rfl, rfl, rfl, rfl, rfl, rfl, rfl, rfl, rfl, trivial⟩) hs ?_
  refine .cond rfl (fun hb945 => ?_) (fun hb945 => ?_)
  · have hd := hd.1 hb945
    refine .skip' fun c w ho hs => Cod.at (E := [(6, _), (7, _), (8, _), (9, _), (10, _), (11, _), (12, _), (13, _)]) (ho.sub ⟨rfl, rfl, rfl, rfl, rfl, rfl, rfl, rfl, trivial⟩) hs ?_
    refine .seq ?_
    refine .block ?_
    refine .seq ?_
    refine Cod.joinQ (σ := Bool) hd (fun (s1024 : Bool) c w => ∃ I_, IH.le I940 I_ ∧ Ok 121 [(6, .pointer (some ⟨b33, 0, none⟩)), (7, .int .i64 (if 0 > a1.1 then 0 else a1.1)), (8, .int .i64 (if 0 > a2.1 then 0 else a2.1)), (9, .int .i64 (if r52.Rows < a1.2 then r52.Rows else a1.2)), (10, .int .i64 (if r52.Cols < a2.2 then r52.Cols else a2.2)), (11, .slice p86 r80.length c87), (12, .slice p934 s933.length c935), (13, .int .i64 s937), (75, .bool s1024)] c ∧ Sym w0 M I I_ [pto b33 (.cells #[.int .i64 0, .int .i64 0, .slice none 0 0, .slice none 0 0, .slice none 0 0] 29 (0, 0)), OwnSl eTriple 60 p934 c935 s933] w) (fun k1025 hd => ?_) ?_
    · skip
      refine .region ?_
      refine .skips 2 rfl ?_
      obtain ⟨h1026, x1027, hx1028, hd⟩ := hd
      obtain ⟨b1029, o1030, cs1031, e1032, hC1033, hr1034⟩ := R88.2 _ _ hx1028
      cases hr1034
      refine .ixa Tryz.underlying24 Tryz.sizeOf60 rfl e1032 rfl h1026 (idx_lt hx1028 h1026) rfl rfl ?_
      refine .fieldAddr Tryz.underlying60 rfl Tryz.sizeOf3 rfl (o := o1030 + s937.toNat * 3) rfl rfl rfl ?_
      refine .ld1 (j := 0) Tryz.isAgg3 hC1033 rfl rfl rfl rfl rfl ?_
      refine .skips 1 rfl ?_
      refine .ge rfl rfl rfl rfl ?_
      refine .skips 1 rfl ?_
      refine split (decide ((if 0 > a1.1 then 0 else a1.1) ≤ x1027.Row)) (fun hb1035 => ?_) (fun hb1035 => ?_)
      · have hd := hd.1 hb1035
        rw [hb1035]
        refine .gyes rfl rfl rfl (.move rfl rfl rfl ?_)
        refine .gyes rfl rfl rfl (.move rfl rfl rfl ?_)
        obtain ⟨h1036, x1037, hx1038, hd⟩ := hd
        obtain ⟨b1039, o1040, cs1041, e1042, hC1043, hr1044⟩ := R88.2 _ _ hx1038
        cases hr1044
        refine .gyes rfl rfl rfl (.ixa Tryz.underlying24 Tryz.sizeOf60 rfl e1042 rfl h1036 (idx_lt hx1038 h1036) rfl rfl ?_)
        refine .gyes rfl rfl rfl (.fieldAddr Tryz.underlying60 rfl Tryz.sizeOf3 rfl (o := o1040 + s937.toNat * 3) rfl rfl rfl ?_)
        refine .gyes rfl rfl rfl (.ld1 (j := 0) Tryz.isAgg3 hC1043 rfl rfl rfl rfl rfl ?_)
        refine .gyes rfl rfl rfl (.move rfl rfl rfl ?_)
        refine .gyes rfl rfl rfl (.lt rfl rfl rfl rfl ?_)
        refine .skips 2 rfl ?_
        refine split (decide (x1037.Row < (if r52.Rows < a1.2 then r52.Rows else a1.2))) (fun hb1045 => ?_) (fun hb1045 => ?_)
        · have hd := hd.1 hb1045
          rw [hb1045]
          refine .gyes rfl rfl rfl (.move rfl rfl rfl ?_)
          refine .gyes rfl rfl rfl (.move rfl rfl rfl ?_)
          obtain ⟨h1046, x1047, hx1048, hd⟩ := hd
          obtain ⟨b1049, o1050, cs1051, e1052, hC1053, hr1054⟩ := R88.2 _ _ hx1048
          cases hr1054
          refine .gyes rfl rfl rfl (.ixa Tryz.underlying24 Tryz.sizeOf60 rfl e1052 rfl h1046 (idx_lt hx1048 h1046) rfl rfl ?_)
          refine .gyes rfl rfl rfl (.fieldAddr Tryz.underlying60 rfl Tryz.sizeOf3 rfl (o := o1050 + s937.toNat * 3 + 1) rfl rfl rfl ?_)
          refine .gyes rfl rfl rfl (.ld1 (j := 1) Tryz.isAgg3 hC1053 rfl rfl rfl rfl rfl ?_)
          refine .gyes rfl rfl rfl (.move rfl rfl rfl ?_)
          refine .gyes rfl rfl rfl (.ge rfl rfl rfl rfl ?_)
          refine .skips 2 rfl ?_
          refine split (decide ((if 0 > a2.1 then 0 else a2.1) ≤ x1047.Col)) (fun hb1055 => ?_) (fun hb1055 => ?_)
          · have hd := hd.1 hb1055
            rw [hb1055]
            refine .gyes rfl rfl rfl (.move rfl rfl rfl ?_)
            refine .gyes rfl rfl rfl (.move rfl rfl rfl ?_)
            obtain ⟨h1056, x1057, hx1058, hd⟩ := hd
            obtain ⟨b1059, o1060, cs1061, e1062, hC1063, hr1064⟩ := R88.2 _ _ hx1058
            cases hr1064
            refine .gyes rfl rfl rfl (.ixa Tryz.underlying24 Tryz.sizeOf60 rfl e1062 rfl h1056 (idx_lt hx1058 h1056) rfl rfl ?_)
            refine .gyes rfl rfl rfl (.fieldAddr Tryz.underlying60 rfl Tryz.sizeOf3 rfl (o := o1060 + s937.toNat * 3 + 1) rfl rfl rfl ?_)
            refine .gyes rfl rfl rfl (.ld1 (j := 1) Tryz.isAgg3 hC1063 rfl rfl rfl rfl rfl ?_)
            refine .gyes rfl rfl rfl (.move rfl rfl rfl ?_)
            refine .gyes rfl rfl rfl (.lt rfl rfl rfl rfl ?_)
            refine .skips 1 rfl ?_
            exact .nil' fun c w ho hs => ⟨(decide (x1057.Col < (if r52.Cols < a2.2 then r52.Cols else a2.2))), hd, I940, (.refl _), ho.sub ⟨rfl, rfl, rfl, rfl, rfl, rfl, rfl, rfl, rfl, trivial⟩, hs.pick (.c .z (.c .z .n))⟩
          · have hd := hd.2 hb1055
            rw [hb1055]
            refine .skips 8 rfl ?_
            exact .nil' fun c w ho hs => ⟨false, hd, I940, (.refl _), ho.sub ⟨rfl, rfl, rfl, rfl, rfl, rfl, rfl, rfl, rfl, trivial⟩, hs.pick (.c .z (.c .z .n))⟩
        · have hd := hd.2 hb1045
          rw [hb1045]
          refine .skips 17 rfl ?_
          exact .nil' fun c w ho hs => ⟨false, hd, I940, (.refl _), ho.sub ⟨rfl, rfl, rfl, rfl, rfl, rfl, rfl, rfl, rfl, trivial⟩, hs.pick (.c .z (.c .z .n))⟩
      · have hd := hd.2 hb1035
        rw [hb1035]
        refine .skips 26 rfl ?_
        exact .nil' fun c w ho hs => ⟨false, hd, I940, (.refl _), ho.sub ⟨rfl, rfl, rfl, rfl, rfl, rfl, rfl, rfl, rfl, trivial⟩, hs.pick (.c .z (.c .z .n))⟩
    · rintro s1024 hd c w hst
      obtain ⟨I1065, hl1066, hok, hsym⟩ := hst
      have le1067 := IH.le.trans le942 hl1066
      have le1068 := IH.le.trans le943 hl1066
      have le1069 := IH.le.trans (.refl _) hl1066
      replace R88 := R88.mono hl1066
      refine Cod.at hok hsym ?_
      refine .cond rfl (fun hb1070 => ?_) (fun hb1070 => ?_)
      · have hd := hd.1 hb1070
        refine .ownF (.s .z) fun hne1071 => ?_
        refine .draw [some 0, some 1, some 2, some 3, some 4, some 5, some 6, some 7, some 8, some 9, some 10, some 11, some 12, some 13, some 14, some 15, some 16, some 17, some 18, some 19, some 20, some 21, some 22] 23 MX (by kernel_rfl) (by kernel_rfl) (by kernel_rfl) (by kernel_rfl) (by kernel_rfl) (by kernel_rfl) (by kernel_rfl) (fun ex => (pto b33 (.cells #[.int .i64 0, .int .i64 0, .slice none 0 0, .slice none 0 0, .slice none 0 0] 29 (0, 0))) :: (OwnSl eTriple 60 p934 c935 s933) :: ex) (fun _ _ => (.s (.s .z))) rfl ?_
        refine .f [] rfl (by kernel_rfl) rfl rfl (fun ex => .move rfl rfl rfl .mk) ?_
        refine .f [] rfl (by kernel_rfl) rfl rfl (fun ex => .move rfl rfl rfl .mk) ?_
        refine .f [] rfl (by kernel_rfl) rfl rfl (fun ex => .move rfl rfl rfl .mk) ?_
        obtain ⟨h1072, x1073, hx1074, hd⟩ := hd
        obtain ⟨b1075, o1076, cs1077, e1078, hC1079, hr1080⟩ := R88.2 _ _ hx1074
        cases hr1080
        refine .f [1, 2] rfl (by kernel_rfl) rfl rfl (fun ex => .ixa Tryz.underlying24 Tryz.sizeOf60 rfl e1078 rfl h1072 (idx_lt hx1074 h1072) rfl rfl .mk) ?_
        refine .f [3] rfl (by kernel_rfl) rfl rfl (fun ex => .fieldAddr Tryz.underlying60 rfl Tryz.sizeOf3 rfl (o := o1076 + s937.toNat * 3) rfl rfl rfl .mk) ?_
        refine .f [4] rfl (by kernel_rfl) rfl rfl (fun ex => .ld1 (j := 0) Tryz.isAgg3 hC1079 rfl rfl rfl rfl rfl .mk) ?_
        refine .f [] rfl (by kernel_rfl) rfl rfl (fun ex => .move rfl rfl rfl .mk) ?_
        refine .f [5, 6] rfl (by kernel_rfl) rfl rfl (fun ex => .sub' rfl rfl rfl rfl .mk) ?_
        refine .f [] rfl (by kernel_rfl) rfl rfl (fun ex => .move rfl rfl rfl .mk) ?_
        refine .f [] rfl (by kernel_rfl) rfl rfl (fun ex => .move rfl rfl rfl .mk) ?_
        obtain ⟨h1081, x1082, hx1083, hd⟩ := hd
        obtain ⟨b1084, o1085, cs1086, e1087, hC1088, hr1089⟩ := R88.2 _ _ hx1083
        cases hr1089
        refine .f [8, 9] rfl (by kernel_rfl) rfl rfl (fun ex => .ixa Tryz.underlying24 Tryz.sizeOf60 rfl e1087 rfl h1081 (idx_lt hx1083 h1081) rfl rfl .mk) ?_
        refine .f [10] rfl (by kernel_rfl) rfl rfl (fun ex => .fieldAddr Tryz.underlying60 rfl Tryz.sizeOf3 rfl (o := o1085 + s937.toNat * 3 + 1) rfl rfl rfl .mk) ?_
        refine .f [11] rfl (by kernel_rfl) rfl rfl (fun ex => .ld1 (j := 1) Tryz.isAgg3 hC1088 rfl rfl rfl rfl rfl .mk) ?_
        refine .f [] rfl (by kernel_rfl) rfl rfl (fun ex => .move rfl rfl rfl .mk) ?_
        refine .f [12, 13] rfl (by kernel_rfl) rfl rfl (fun ex => .sub' rfl rfl rfl rfl .mk) ?_
        refine .f [] rfl (by kernel_rfl) rfl rfl (fun ex => .move rfl rfl rfl .mk) ?_
        refine .f [] rfl (by kernel_rfl) rfl rfl (fun ex => .move rfl rfl rfl .mk) ?_
        obtain ⟨h1090, x1091, hx1092, hd⟩ := hd
        obtain ⟨b1093, o1094, cs1095, e1096, hC1097, hr1098⟩ := R88.2 _ _ hx1092
        cases hr1098
        refine .f [15, 16] rfl (by kernel_rfl) rfl rfl (fun ex => .ixa Tryz.underlying24 Tryz.sizeOf60 rfl e1096 rfl h1090 (idx_lt hx1092 h1090) rfl rfl .mk) ?_
        refine .f [17] rfl (by kernel_rfl) rfl rfl (fun ex => .fieldAddr Tryz.underlying60 rfl Tryz.sizeOf2 rfl (o := o1094 + s937.toNat * 3 + 2) rfl rfl rfl .mk) ?_
        refine .f [18] rfl (by kernel_rfl) rfl rfl (fun ex => .ld1 (j := 2) Tryz.isAgg2 hC1097 rfl rfl rfl rfl rfl .mk) ?_
        refine .f [7, 14, 19] rfl (by kernel_rfl) rfl rfl (fun ex => .build Tryz.zeroValue60 Tryz.underlying60 BI60 (.c rfl rfl rfl (.t .nil) (.c rfl rfl rfl (.s (.t .nil)) (.c rfl rfl rfl (.s (.s (.t .nil))) .n))) (by exact ⟨⟨_, _, rfl, rfl, rfl⟩, ⟨⟨_, _, rfl, rfl, rfl⟩, ⟨⟨_, _, rfl, rfl, rfl⟩, trivial⟩⟩⟩) rfl rfl .mk) ?_
        refine .w [0] [[], [20], [19, 20], [18, 19, 20], [17, 18, 19, 20], [17, 18, 19, 20], [20], [14, 20], [14, 20], [12, 14, 20], [11, 12, 14, 20], [10, 11, 12, 14, 20], [10, 11, 12, 14, 20], [20], [7, 20], [7, 20], [5, 7, 20], [4, 5, 7, 20], [3, 4, 5, 7, 20], [3, 4, 5, 7, 20]] [20] rfl (by kernel_rfl) (by kernel_rfl) (by kernel_rfl) ((dropE_kept rfl rfl)) (.inr (dropE_kept rfl rfl)) fun ex => ?_
        refine .buildSlice 1 Tryz.underlying24 Tryz.sizeOf60 Tryz.zeroValue60 rfl rfl (.c rfl rfl rfl .n) rfl rfl fun b1099 => ?_
        refine .some (fun ex => (pto b1099 (.cells #[.int .i64 (w64 (x1073.Row - (if 0 > a1.1 then 0 else a1.1))), .int .i64 (w64 (x1082.Col - (if 0 > a2.1 then 0 else a2.1))), .int .i64 x1091.Val] 60 (0, 0))) :: (pto b33 (.cells #[.int .i64 0, .int .i64 0, .slice none 0 0, .slice none 0 0, .slice none 0 0] 29 (0, 0))) :: (OwnSl eTriple 60 p934 c935 s933) :: ex) rfl (fun _ _ => (.s (.s (.s .z)))) rfl (.cc [] rfl (by kernel_rfl) rfl rfl rfl (fun ex => .move rfl rfl rfl .mk) trivial) ?_
        refine .w [] [[]] [0, 21] rfl (by kernel_rfl) (by kernel_rfl) (by kernel_rfl) ((dropE_kept rfl rfl)) (.inr (dropE_kept rfl rfl)) fun ex => ?_
        obtain ⟨hl1101, hd⟩ := hd
        refine .append (ys := [({ Row := w64 (x1073.Row - (if 0 > a1.1 then 0 else a1.1)), Col := w64 (x1082.Col - (if 0 > a2.1 then 0 else a2.1)), Val := x1091.Val } : Triple)]) 24 (.s (.s .z)) Tryz.underlying24 Tryz.underlying24 IN60 rfl rfl rfl rfl rfl rfl rfl rfl rfl (.box .z (.one rfl) rfl) hl1101 rfl rfl fun p1102 c1103 => ?_
        refine .some (fun ex => (OwnSl eTriple 60 p1102 c1103 (s933 ++ ([({ Row := w64 (x1073.Row - (if 0 > a1.1 then 0 else a1.1)), Col := w64 (x1082.Col - (if 0 > a2.1 then 0 else a2.1)), Val := x1091.Val } : Triple)]))) :: (pto b1099 (.cells #[.int .i64 (w64 (x1073.Row - (if 0 > a1.1 then 0 else a1.1))), .int .i64 (w64 (x1082.Col - (if 0 > a2.1 then 0 else a2.1))), .int .i64 x1091.Val] 60 (0, 0))) :: (pto b33 (.cells #[.int .i64 0, .int .i64 0, .slice none 0 0, .slice none 0 0, .slice none 0 0] 29 (0, 0))) :: ex) rfl (fun _ _ => (.s (.s (.s .z)))) rfl trivial ?_
        refine .e 23 (by kernel_rfl) (by kernel_rfl) (by kernel_rfl) ?_
        refine .sub (E' := [(6, _), (7, _), (8, _), (9, _), (10, _), (11, _), (13, _), (75, _), (76, _), (77, _), (78, _), (79, _), (80, _), (81, _), (82, _), (83, _), (84, _), (85, _), (86, _), (87, _), (88, _), (89, _), (90, _), (91, _), (92, _), (93, _), (94, _), (95, _), (96, _), (97, _), (98, _)]) ⟨rfl, rfl, rfl, rfl, rfl, rfl, rfl, rfl, rfl, rfl, rfl, rfl, rfl, rfl, rfl, rfl, rfl, rfl, rfl, rfl, rfl, rfl, rfl, rfl, rfl, rfl, rfl, rfl, rfl, rfl, rfl, trivial⟩ ?_
        refine .skips 1 rfl ?_
        refine .nil' fun c w ho hs => Cod.at (E := [(6, _), (7, _), (8, _), (9, _), (10, _), (11, _), (13, _), (12, _)]) (ho.sub ⟨rfl, rfl, rfl, rfl, rfl, rfl, rfl, rfl, trivial⟩) hs ?_
        refine .drop (.s .z) ?_
        refine .region ?_
        refine .skips 1 rfl ?_
        refine .add rfl rfl rfl rfl ?_
        refine .sub (E' := [(6, _), (7, _), (8, _), (9, _), (10, _), (11, _), (12, _), (40, _), (41, _)]) ⟨rfl, rfl, rfl, rfl, rfl, rfl, rfl, rfl, rfl, trivial⟩ ?_
        refine .skips 1 rfl ?_
        exact .nil' fun c w ho hs => ⟨((s933 ++ ([({ Row := w64 (x1073.Row - (if 0 > a1.1 then 0 else a1.1)), Col := w64 (x1082.Col - (if 0 > a2.1 then 0 else a2.1)), Val := x1091.Val } : Triple)])), w64 (s937 + 1)), hd, I1065, _, _, le1068, ho.sub ⟨rfl, rfl, rfl, rfl, rfl, rfl, rfl, rfl, trivial⟩, hs.pick (.c (.s .z) (.c .z .n))⟩
      · have hd := hd.2 hb1070
        refine .skip' fun c w ho hs => Cod.at (E := [(6, _), (7, _), (8, _), (9, _), (10, _), (11, _), (12, _), (13, _)]) (ho.sub ⟨rfl, rfl, rfl, rfl, rfl, rfl, rfl, rfl, trivial⟩) hs ?_
        refine .region ?_
        refine .skips 1 rfl ?_
        refine .add rfl rfl rfl rfl ?_
        refine .sub (E' := [(6, _), (7, _), (8, _), (9, _), (10, _), (11, _), (12, _), (40, _), (41, _)]) ⟨rfl, rfl, rfl, rfl, rfl, rfl, rfl, rfl, rfl, trivial⟩ ?_
        refine .skips 1 rfl ?_
        exact .nil' fun c w ho hs => ⟨(s933, w64 (s937 + 1)), hd, I1065, _, _, le1068, ho.sub ⟨rfl, rfl, rfl, rfl, rfl, rfl, rfl, rfl, trivial⟩, hs.pick (.c .z (.c .z .n))⟩
  · have hd := hd.2 hb945
    refine .exit fun c w ho hs => Cod.at (E := [(6, _), (7, _), (8, _), (9, _), (10, _), (12, _)]) (ho.sub ⟨rfl, rfl, rfl, rfl, rfl, rfl, trivial⟩) hs ?_
    refine .seq ?_
    refine .region ?_
    refine .skips 2 rfl ?_
    refine .nil' fun c w ho hs => Cod.at (E := [(6, _), (7, _), (8, _), (9, _), (10, _), (12, _), (14, _), (15, _)]) (ho.sub ⟨rfl, rfl, rfl, rfl, rfl, rfl, rfl, rfl, trivial⟩) hs ?_
    refine .seq ?_
    refine Cod.joinQ (σ := Int) hd (fun (s1107 : Int) c w => ∃ I_, IH.le I940 I_ ∧ Ok 121 [(6, .pointer (some ⟨b33, 0, none⟩)), (8, .int .i64 (if 0 > a2.1 then 0 else a2.1)), (10, .int .i64 (if r52.Cols < a2.2 then r52.Cols else a2.2)), (12, .slice p934 s933.length c935), (14, .int .i64 s1107), (15, .int .i64 0)] c ∧ Sym w0 M I I_ [pto b33 (.cells #[.int .i64 0, .int .i64 0, .slice none 0 0, .slice none 0 0, .slice none 0 0] 29 (0, 0)), OwnSl eTriple 60 p934 c935 s933] w) (fun k1108 hd => ?_) ?_
    · skip
      refine .seq ?_
      refine .region ?_
      refine .skips 2 rfl ?_
      refine .gt rfl rfl rfl rfl ?_
      refine .nil' fun c w ho hs => Cod.at (E := [(6, _), (7, _), (8, _), (9, _), (10, _), (12, _), (14, _), (15, _), (101, _)]) (ho.sub ⟨rfl, rfl, rfl, rfl, rfl, rfl, rfl, rfl, rfl, trivial⟩) hs ?_
      refine .cond rfl (fun hb1109 => ?_) (fun hb1109 => ?_)
      · have hd := hd.1 hb1109
        refine .region ?_
        refine .skips 2 rfl ?_
        refine .sub' rfl rfl rfl rfl ?_
        refine .sub (E' := [(6, _), (7, _), (8, _), (9, _), (10, _), (12, _), (15, _), (101, _), (102, _), (103, _), (104, _)]) ⟨rfl, rfl, rfl, rfl, rfl, rfl, rfl, rfl, rfl, rfl, rfl, trivial⟩ ?_
        refine .skips 1 rfl ?_
        exact .nil' fun c w ho hs => ⟨(w64 ((if r52.Rows < a1.2 then r52.Rows else a1.2) - (if 0 > a1.1 then 0 else a1.1))), hd, I940, (.refl _), ho.sub ⟨rfl, rfl, rfl, rfl, rfl, rfl, trivial⟩, hs.pick (.c .z (.c .z .n))⟩
      · have hd := hd.2 hb1109
        exact .skip' fun c w ho hs => ⟨0, hd, I940, (.refl _), ho.sub ⟨rfl, rfl, rfl, rfl, rfl, rfl, trivial⟩, hs.pick (.c .z (.c .z .n))⟩
    · rintro s1107 hd c w hst
      obtain ⟨I1110, hl1111, hok, hsym⟩ := hst
      have le1112 := IH.le.trans le942 hl1111
      have le1113 := IH.le.trans le943 hl1111
      have le1114 := IH.le.trans (.refl _) hl1111
      refine Cod.at hok hsym ?_
      refine .seq ?_
      refine Cod.joinQ (σ := Int) hd (fun (s1117 : Int) c w => ∃ I_, IH.le I1110 I_ ∧ Ok 121 [(6, .pointer (some ⟨b33, 0, none⟩)), (12, .slice p934 s933.length c935), (14, .int .i64 s1107), (15, .int .i64 s1117)] c ∧ Sym w0 M I I_ [pto b33 (.cells #[.int .i64 0, .int .i64 0, .slice none 0 0, .slice none 0 0, .slice none 0 0] 29 (0, 0)), OwnSl eTriple 60 p934 c935 s933] w) (fun k1118 hd => ?_) ?_
      · skip
        refine .seq ?_
        refine .region ?_
        refine .skips 2 rfl ?_
        refine .gt rfl rfl rfl rfl ?_
        refine .nil' fun c w ho hs => Cod.at (E := [(6, _), (8, _), (10, _), (12, _), (14, _), (15, _), (107, _)]) (ho.sub ⟨rfl, rfl, rfl, rfl, rfl, rfl, rfl, trivial⟩) hs ?_
        refine .cond rfl (fun hb1119 => ?_) (fun hb1119 => ?_)
        · have hd := hd.1 hb1119
          refine .region ?_
          refine .skips 2 rfl ?_
          refine .sub' rfl rfl rfl rfl ?_
          refine .sub (E' := [(6, _), (8, _), (10, _), (12, _), (14, _), (107, _), (108, _), (109, _), (110, _)]) ⟨rfl, rfl, rfl, rfl, rfl, rfl, rfl, rfl, rfl, trivial⟩ ?_
          refine .skips 1 rfl ?_
          exact .nil' fun c w ho hs => ⟨(w64 ((if r52.Cols < a2.2 then r52.Cols else a2.2) - (if 0 > a2.1 then 0 else a2.1))), hd, I1110, (.refl _), ho.sub ⟨rfl, rfl, rfl, rfl, trivial⟩, hs.pick (.c .z (.c .z .n))⟩
        · have hd := hd.2 hb1119
          exact .skip' fun c w ho hs => ⟨0, hd, I1110, (.refl _), ho.sub ⟨rfl, rfl, rfl, rfl, trivial⟩, hs.pick (.c .z (.c .z .n))⟩
      · rintro s1117 hd c w hst
        obtain ⟨I1120, hl1121, hok, hsym⟩ := hst
        have le1122 := IH.le.trans le1112 hl1121
        have le1123 := IH.le.trans le1113 hl1121
        have le1124 := IH.le.trans le1114 hl1121
        have le1125 := IH.le.trans (.refl _) hl1121
        refine Cod.at hok hsym ?_
        refine .seq ?_
        refine .seq ?_
        refine .region ?_
        refine .skips 1 rfl ?_
        refine .eq rfl rfl rfl rfl ?_
        refine .skips 1 rfl ?_
        refine split (s1107 == 0) (fun hb1126 => ?_) (fun hb1126 => ?_)
        · have hd := hd.1 hb1126
          rw [hb1126]
          refine .skips 3 rfl ?_
          refine .nil' fun c w ho hs => Cod.at (E := [(6, _), (12, _), (14, _), (15, _), (116, _)]) (ho.sub ⟨rfl, rfl, rfl, rfl, rfl, trivial⟩) hs ?_
          refine .condKT rfl rfl ?_
          refine .region ?_
          refine .sub (E' := [(6, _), (14, _), (15, _), (116, _)]) ⟨rfl, rfl, rfl, rfl, trivial⟩ ?_
          refine .skips 1 rfl ?_
          refine .nil' fun c w ho hs => Cod.at (E := [(6, _), (14, _), (15, _), (12, _)]) (ho.sub ⟨rfl, rfl, rfl, rfl, trivial⟩) hs ?_
          refine .drop (.s .z) ?_
          refine .seq ?_
          refine .region ?_
          refine .skips 3 rfl ?_
          have hw1142 := W_ref07_built (I := I1120) (.nil _ none 0) hd
          refine .call Tryz.call44 rfl hw1142 rfl rfl fun v1131 I1128 hl1129 hv1130 => ?_
          obtain ⟨r1127, p1133, c1134, p1136, c1137, p1139, c1140, rfl, R1135, R1138, R1141, hd⟩ := hv1130
          have le1143 := IH.le.trans le1122 hl1129
          have le1144 := IH.le.trans le1123 hl1129
          have le1145 := IH.le.trans le1124 hl1129
          have le1146 := IH.le.trans le1125 hl1129
          refine .storeA Tryz.sizeOf29 rfl rfl .z (.t (.t (.t (.t (.t .nil))))) rfl rfl ?_
          refine .nil' fun c w ho hs => Cod.at (E := [(6, _)]) (ho.sub ⟨rfl, trivial⟩) hs ?_
          exact .ret (pret Tryz.results29 (.w Tryz.isAgg29 Tryz.sizeOf29 rfl .z rfl .n) le1143 ⟨r1127, _, _, _, _, _, _, rfl, R1135, R1138, R1141, hd⟩)
        · have hd := hd.2 hb1126
          rw [hb1126]
          refine .gyes rfl rfl rfl (.move rfl rfl rfl ?_)
          refine .gyes rfl rfl rfl (.eq rfl rfl rfl rfl ?_)
          refine .skips 1 rfl ?_
          refine .nil' fun c w ho hs => Cod.at (E := [(6, _), (12, _), (14, _), (15, _), (116, _)]) (ho.sub ⟨rfl, rfl, rfl, rfl, rfl, trivial⟩) hs ?_
          refine .cond rfl (fun hb1147 => ?_) (fun hb1147 => ?_)
          · have hd := hd.1 hb1147
            refine .region ?_
            refine .sub (E' := [(6, _), (14, _), (15, _), (116, _)]) ⟨rfl, rfl, rfl, rfl, trivial⟩ ?_
            refine .skips 1 rfl ?_
            refine .nil' fun c w ho hs => Cod.at (E := [(6, _), (14, _), (15, _), (12, _)]) (ho.sub ⟨rfl, rfl, rfl, rfl, trivial⟩) hs ?_
            refine .drop (.s .z) ?_
            refine .seq ?_
            refine .region ?_
            refine .skips 3 rfl ?_
            have hw1163 := W_ref07_built (I := I1120) (.nil _ none 0) hd
            refine .call Tryz.call44 rfl hw1163 rfl rfl fun v1152 I1149 hl1150 hv1151 => ?_
            obtain ⟨r1148, p1154, c1155, p1157, c1158, p1160, c1161, rfl, R1156, R1159, R1162, hd⟩ := hv1151
            have le1164 := IH.le.trans le1122 hl1150
            have le1165 := IH.le.trans le1123 hl1150
            have le1166 := IH.le.trans le1124 hl1150
            have le1167 := IH.le.trans le1125 hl1150
            refine .storeA Tryz.sizeOf29 rfl rfl .z (.t (.t (.t (.t (.t .nil))))) rfl rfl ?_
            refine .nil' fun c w ho hs => Cod.at (E := [(6, _)]) (ho.sub ⟨rfl, trivial⟩) hs ?_
            exact .ret (pret Tryz.results29 (.w Tryz.isAgg29 Tryz.sizeOf29 rfl .z rfl .n) le1164 ⟨r1148, _, _, _, _, _, _, rfl, R1156, R1159, R1162, hd⟩)
          · have hd := hd.2 hb1147
            refine .skip' fun c w ho hs => Cod.at (E := [(6, _), (12, _), (14, _), (15, _)]) (ho.sub ⟨rfl, rfl, rfl, rfl, trivial⟩) hs ?_
            refine .seq ?_
            refine .region ?_
            refine .skips 3 rfl ?_
            refine .pub (.s .z) fun I1168 hl1169 R1170 => ?_
            have le1171 := IH.le.trans le1122 hl1169
            have le1172 := IH.le.trans le1123 hl1169
            have le1173 := IH.le.trans le1124 hl1169
            have le1174 := IH.le.trans le1125 hl1169
            have hw1190 := W_ref07_built (I := I1168) R1170 hd
            refine .call Tryz.call44 rfl hw1190 rfl rfl fun v1179 I1176 hl1177 hv1178 => ?_
            obtain ⟨r1175, p1181, c1182, p1184, c1185, p1187, c1188, rfl, R1183, R1186, R1189, hd⟩ := hv1178
            have le1191 := IH.le.trans le1171 hl1177
            have le1192 := IH.le.trans le1172 hl1177
            have le1193 := IH.le.trans le1173 hl1177
            have le1194 := IH.le.trans le1174 hl1177
            replace R1170 := R1170.mono hl1177
            refine .storeA Tryz.sizeOf29 rfl rfl .z (.t (.t (.t (.t (.t .nil))))) rfl rfl ?_
            refine .nil' fun c w ho hs => Cod.at (E := [(6, _)]) (ho.sub ⟨rfl, trivial⟩) hs ?_
            exact .ret (pret Tryz.results29 (.w Tryz.isAgg29 Tryz.sizeOf29 rfl .z rfl .n) le1191 ⟨r1175, _, _, _, _, _, _, rfl, R1183, R1186, R1189, hd⟩)

end Go.Proofs.YtindbiojednfbaaGreat
