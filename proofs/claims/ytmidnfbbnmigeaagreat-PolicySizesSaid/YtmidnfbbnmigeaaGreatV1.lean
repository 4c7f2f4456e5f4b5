/- The walks (printed by a program of ours). -/
import Derived.Test.YtmidnfbbnmigeaaGreatSL
namespace Go.Proofs.YtmidnfbbnmigeaaGreat
open Go Go.Fw
set_option linter.unusedVariables false
set_option linter.unusedSimpArgs false
set_option maxRecDepth 8000
set_option maxHeartbeats 1000000
open Tryz
theorem W_policy_Direction {I : IH} {a0 : Int} {a1 : Int} {a2 : Int}  {Q : Int → Prop}  (hd : policy_Direction a0 a1 a2 Q) :
    PFun Tryz.prog 8 [.int .i64 a0, .int .i64 a1, .int .i64 a2] I (fun I_ v => ∃ r, v = .int .i64 r ∧ Q r) := by
 refine Fun.enter func8 r ntmps8 r (.c (.c (.c .n))) fun w0 M => ?_
 refine .seq (.region (.skips 1 r (.nilS [2, 1, 0] r r (.seq (.seq (.region (.skips 1 r (.nilS [7, 2, 1, 0] r r (.block ?_)))))))))
 refine .seq (.seq (.region (.eq r r r r (.skips 1 r (.nilS [8, 7, 2, 1, 0] r r (.condP r hd (fun hb3 hd => ?_) fun hb3 hd => ?_))))))
 · exact .skipS [8, 2, 1, 0] r r (.condKT r hb3 (.seq (.region (.skips 2 r (.nilS [6] r r (.ret (pret results8 (.t r .n) (.refl _) ⟨a0, r, hd⟩)))))))
 refine .region (.eq r r r r (.sub (E' := [(0, _), (1, _), (2, _), (7, _), (10, _)]) ⟨r, r, r, r, r, trivial⟩ (.skips 1 r (.nilS [8, 2, 1, 0] r r (.condP r hd (fun hb4 hd => ?_) fun hb4 hd => ?_)))))
 · exact .seq (.region (.skips 2 r (.nilS [6] r r (.ret (pret results8 (.t r .n) (.refl _) ⟨a0, r, hd⟩)))))
 refine .skipS [2, 1] r r (.seq (.seq (.region (.skips 2 r (.quo r r (by decide) r r (.gt r r r r (.nilS [15] r r (.condP r hd (fun hb5 hd => ?_) fun hb5 hd => ?_))))))))
 · exact .seq (.region (.skips 1 r (.nilS [6] r r (.ret (pret results8 (.t r .n) (.refl _) ⟨2, r, hd⟩)))))
 exact .skipS [] r r (.seq (.region (.skips 1 r (.nilS [6] r r (.ret (pret results8 (.t r .n) (.refl _) ⟨1, r, hd⟩))))))

theorem W_policy_Shape {I : IH} {a0 : Int} {a1 : Int} {a2 : Int}  {Q : Int → Prop}  (hd : policy_Shape a0 a1 a2 Q) :
    PFun Tryz.prog 10 [.int .i64 a0, .int .i64 a1, .int .i64 a2] I (fun I_ v => ∃ r, v = .int .i64 r ∧ Q r) := by
 refine Fun.enter func10 r ntmps10 r (.c (.c (.c .n))) fun w0 M => ?_
 refine .seq (.region (.skips 1 r (.nilS [2, 1, 0] r r (.seq (.seq (.region (.skips 1 r (.nilS [7, 2, 1, 0] r r (.block ?_)))))))))
 refine .seq (.seq (.region (.eq r r r r (.skips 1 r (.nilS [8, 7, 2, 1, 0] r r (.condP r hd (fun hb3 hd => ?_) fun hb3 hd => ?_))))))
 · exact .skipS [8, 2, 1, 0] r r (.condKT r hb3 (.seq (.region (.skips 2 r (.nilS [6] r r (.ret (pret results10 (.t r .n) (.refl _) ⟨a0, r, hd⟩)))))))
 refine .region (.eq r r r r (.sub (E' := [(0, _), (1, _), (2, _), (7, _), (10, _)]) ⟨r, r, r, r, r, trivial⟩ (.skips 1 r (.nilS [8, 2, 1, 0] r r (.condP r hd (fun hb4 hd => ?_) fun hb4 hd => ?_)))))
 · exact .seq (.region (.skips 2 r (.nilS [6] r r (.ret (pret results10 (.t r .n) (.refl _) ⟨a0, r, hd⟩)))))
 refine .skipS [2, 1] r r (.seq (.seq (.region (.skips 2 r (.quo r r (by decide) r r (.gt r r r r (.nilS [15] r r (.condP r hd (fun hb5 hd => ?_) fun hb5 hd => ?_))))))))
 · exact .seq (.region (.skips 1 r (.nilS [6] r r (.ret (pret results10 (.t r .n) (.refl _) ⟨2, r, hd⟩)))))
 exact .skipS [] r r (.seq (.region (.skips 1 r (.nilS [6] r r (.ret (pret results10 (.t r .n) (.refl _) ⟨1, r, hd⟩))))))

theorem W_spvec_within {I : IH} {a0 : Int} {a1 : Int}  {Q : Bool → Prop}  (hd : spvec_within a0 a1 Q) :
    PFun Tryz.prog 87 [.int .i64 a0, .int .i64 a1] I (fun I_ v => ∃ r, v = .bool r ∧ Q r) := by
 refine Fun.enter func87 r ntmps87 r (.c (.c .n)) fun w0 M => ?_
 refine .seq (.region (.skips 1 r (.nilS [1, 0] r r (.seq (.region (.skips 1 r (.ge r r r r (.skips 1 r ?_))))))))
 refine splitP hd (fun hb1 hd => ?_) fun hb1 hd => ?_
 · rw [hb1]
   exact .gyes r r r (.move r r r (.gyes r r r (.move r r r (.gyes r r r (.le' r r r r (.skips 2 r (.nilS [4] r r (.ret (pret results87 (.t r .n) (.refl _) ⟨(decide (a0 ≤ a1)), r, hd⟩)))))))))
 rw [hb1]
 exact .skips 5 r (.nilS [4] r r (.ret (pret results87 (.t r .n) (.refl _) ⟨false, r, hd⟩)))

theorem W_spvec_Right_1_81a {I : IH} {o0 : Int} {o1 : Vec} {a0 : Item} {b3 : Nat} {b4 : Nat} {p5 : Option Addr} {c6 : Nat} {Q : (Bool × Int) → Prop} (R7 : RepSl eItem I p5 c6 o1.Items) (hd : spvec_Right_1_81a o0 o1 a0 Q) :
    Fun Tryz.prog 89 #[.agg (encItem a0).toArray, .pointer (some ⟨b3, 0, none⟩), .pointer (some ⟨b4, 0, none⟩)] I [pto b3 (.cells #[.int .i64 o0] 3 (0, 0)), pto b4 (.cells #[.int .i64 o1.N, .slice p5 o1.Items.length c6] 42 (0, 0))] (fun I_ v l => ∃ r, v = .bool r.1 ∧ l = [pto b3 (.cells #[.int .i64 r.2] 3 (0, 0)), pto b4 (.cells #[.int .i64 o1.N, .slice p5 o1.Items.length c6] 42 (0, 0))] ∧ Q r) := by
 refine Fun.enter (vs := [.agg (encItem a0).toArray, .pointer (some ⟨b3, 0, none⟩), .pointer (some ⟨b4, 0, none⟩)]) func89 r ntmps89 r (.c (.c (.c .n))) fun w0 M => ?_
 refine .seq (.region (.boxA r r r fun b10 => ?_))
 refine .skips 1 r (.nilS [3, 2, 1] r r (.seq (.region (.fieldAddr underlying80 r sizeOf3 r (o := 0) r r r (.load1 isAgg3 r .z r r r (.load1 isAgg3 r (.s .z) r r r (.le' r r r r (.skips 1 r ?_))))))))
 refine splitP hd (fun hb12 hd => ?_) fun hb12 hd => ?_
 · rw [hb12]
   refine .skips 7 r (.nilS [5, 3, 2, 1] r r (.seq (.region (.fieldAddr underlying80 r sizeOf3 r (o := 0) r r r (.load1 isAgg3 r .z r r r (.store1 sizeOf3 r r (.s .z) (.t .nil) r (.nilS [5, 2, 1] r r (.drop .z (.seq ?_)))))))))
   exact .region (.skips 2 r (.nilS [4, 2, 1] r r (.ret (oret results89 (.t r .n) (.refl _) (.c .z (.c .z .n)) ⟨(true, a0.At), r, r, hd⟩))))
 rw [hb12]
 refine .gyes r r r (.fieldAddr underlying80 r sizeOf3 r (o := 0) r r r (.gyes r r r (.load1 isAgg3 r .z r r r (.gyes r r r (.fieldAddr underlying42 r sizeOf3 r (o := 0) r r r (.gyes r r r (.load1 isAgg3 r (.s (.s .z)) r r r (.gyes r r r (.ge r r r r (.skips 2 r (.nilS [5, 3, 2, 1] r r (.seq (.region (.fieldAddr underlying80 r sizeOf3 r (o := 0) r r r ?_))))))))))))))
 exact .load1 isAgg3 r .z r r r (.store1 sizeOf3 r r (.s .z) (.t .nil) r (.nilS [5, 2, 1] r r (.drop .z (.seq (.region (.skips 2 r (.nilS [4, 2, 1] r r (.ret (oret results89 (.t r .n) (.refl _) (.c .z (.c .z .n)) ⟨(decide (o1.N ≤ a0.At), a0.At), r, r, hd⟩)))))))))

theorem W_slices_IndexFunc_api_Item_api_Item_a3e {I : IH} {o0 : Int} {o1 : Vec} {a0 : List Item} {b3 : Nat} {b4 : Nat} {p5 : Option Addr} {c6 : Nat} {p8 : Option Addr} {c9 : Nat} {Q : (Int × Int) → Prop} (R7 : RepSl eItem I p5 c6 o1.Items) (R10 : RepSl eItem I p8 c9 a0) (hd : slices_IndexFunc_api_Item_api_Item_a3e o0 o1 a0 Q) :
    Fun Tryz.prog 120 #[.slice p8 a0.length c9, .func (.func 89) #[] #[.pointer (some ⟨b3, 0, none⟩), .pointer (some ⟨b4, 0, none⟩)]] I [pto b3 (.cells #[.int .i64 o0] 3 (0, 0)), pto b4 (.cells #[.int .i64 o1.N, .slice p5 o1.Items.length c6] 42 (0, 0))] (fun I_ v l => ∃ r, v = .int .i64 r.1 ∧ l = [pto b3 (.cells #[.int .i64 r.2] 3 (0, 0)), pto b4 (.cells #[.int .i64 o1.N, .slice p5 o1.Items.length c6] 42 (0, 0))] ∧ Q r) := by
 refine Fun.enter (vs := [.slice p8 a0.length c9, .func (.func 89) #[] #[.pointer (some ⟨b3, 0, none⟩), .pointer (some ⟨b4, 0, none⟩)]]) func120 r ntmps120 r (.c (.c .n)) fun w0 M => ?_
 refine .seq (.region (.skips 1 r (.nilS [1, 0] r r (.seq (.seq (.region (.skips 1 r (.len underlying32 r r r r (.skips 1 r ?_)))))))))
 refine .nilS [8, 7, 1, 0] r r (.block (.loop hd (fun (s : Int × Int) c w => match s with | (s61, s62) => ∃ I_, IH.le I I_ ∧ Ok ⟨19, [], none⟩ [(0, .slice p8 a0.length c9), (1, .func (.func 89) #[] #[.pointer (some ⟨b3, 0, none⟩), .pointer (some ⟨b4, 0, none⟩)]), (7, .int .i64 (a0.length : Int)), (8, .int .i64 s62)] c ∧ Sym w0 M I I_ [pto b3 (.cells #[.int .i64 s61] 3 (0, 0)), pto b4 (.cells #[.int .i64 o1.N, .slice p5 o1.Items.length c6] 42 (0, 0))] w) (fun c w ho hs => ⟨I, (.refl _), ho.sub ⟨r, r, r, r, trivial⟩, hs.pick (.c .z (.c .z .n))⟩) ?_))
 rintro ⟨s61, s62⟩ next63 hd c w hst
 obtain ⟨I64, hl65, hok, hsym⟩ := hst
 have le66 := IH.le.trans (.refl _) hl65
 replace R7 := R7.mono hl65
 replace R10 := R10.mono hl65
 refine Cod.at hok hsym (.seq (.region (.lt r r r r (.nilS [9, 8, 7, 1, 0] r r (.seq (.condP r hd (fun hb68 hd => ?_) fun hb68 hd => ?_))))))
 · refine .skipS [8, 7, 1, 0] r r (.seq (.block (.seq (.region (.skips 2 r (.nilS [5, 8, 7, 1, 0] r r (.seq (.region (.skips 3 r ?_)))))))))
   obtain ⟨h69, x70, hx71, hd⟩ := hd
   obtain ⟨b72, o73, cs74, e75, hC76, hr77⟩ := R10.2 _ _ hx71
   cases hr77
   refine .ixa underlying32 sizeOf80 r e75 r h69 (idx_lt hx71 h69) r r (.ldW isAgg80 sizeOf80 hC76 r r r r ?_)
   have hw78 := W_spvec_Right_1_81a (I := I64) (o0 := s61) (o1 := o1) (a0 := x70) (b3 := b3) (b4 := b4) (p5 := p5) (c6 := c6) R7 hd
   refine .callS (.c call89 r r) (.c .z (.c .z .n)) hw78 r r fun v82 I79 l83 hl80 hv81 => ?_
   obtain ⟨r84, rfl, rfl, hd⟩ := hv81
   have le87 := IH.le.trans le66 hl80
   replace R7 := R7.mono hl80
   replace R10 := R10.mono hl80
   replace hC76 := hC76.mono hl80
   refine .re (m' := [pto b3 (.cells #[.int .i64 r84.2] 3 (0, 0)), pto b4 (.cells #[.int .i64 o1.N, .slice p5 o1.Items.length c6] 42 (0, 0))]) r (.nilS [16, 5, 8, 7, 1, 0] r r (.condP r hd (fun hb88 hd => ?_) fun hb88 hd => ?_))
   · exact .seq (.region (.skips 2 r (.nilS [4, 1] r r (.ret (oret results120 (.t r .n) le87 (.c .z (.c .z .n)) ⟨(s62, r84.2), r, r, hd⟩)))))
   exact .skipS [8, 7, 1, 0] r r (.region (.add r r r r (.sub (E' := [(0, _), (1, _), (7, _), (18, _)]) ⟨r, r, r, r, trivial⟩ (.skips 1 r (.nil' fun c w ho hs => ⟨(r84.2, w64 (s62 + 1)), hd, I79, le87, ho.sub ⟨r, r, r, r, trivial⟩, hs.pick (.c .z (.c .z .n))⟩)))))
 exact .exitS [1] r r (.seq (.region (.skips 1 r (.nilS [4, 1] r r (.ret (oret results120 (.t r .n) le66 (.c .z (.c .z .n)) ⟨((-1), s61), r, r, hd⟩))))))

theorem W_slices_ContainsFunc_api_Item_api_Item_cd0 {I : IH} {o0 : Int} {o1 : Vec} {a0 : List Item} {b3 : Nat} {b4 : Nat} {p5 : Option Addr} {c6 : Nat} {p8 : Option Addr} {c9 : Nat} {Q : (Bool × Int) → Prop} (R7 : RepSl eItem I p5 c6 o1.Items) (R10 : RepSl eItem I p8 c9 a0) (hd : slices_ContainsFunc_api_Item_api_Item_cd0 o0 o1 a0 Q) :
    Fun Tryz.prog 88 #[.slice p8 a0.length c9, .func (.func 89) #[] #[.pointer (some ⟨b3, 0, none⟩), .pointer (some ⟨b4, 0, none⟩)]] I [pto b3 (.cells #[.int .i64 o0] 3 (0, 0)), pto b4 (.cells #[.int .i64 o1.N, .slice p5 o1.Items.length c6] 42 (0, 0))] (fun I_ v l => ∃ r, v = .bool r.1 ∧ l = [pto b3 (.cells #[.int .i64 r.2] 3 (0, 0)), pto b4 (.cells #[.int .i64 o1.N, .slice p5 o1.Items.length c6] 42 (0, 0))] ∧ Q r) := by
 refine Fun.enter (vs := [.slice p8 a0.length c9, .func (.func 89) #[] #[.pointer (some ⟨b3, 0, none⟩), .pointer (some ⟨b4, 0, none⟩)]]) func88 r ntmps88 r (.c (.c .n)) fun w0 M => ?_
 refine .seq (.region (.skips 1 r (.nilS [1, 0] r r (.seq (.region (.skips 2 r ?_))))))
 have hw11 := W_slices_IndexFunc_api_Item_api_Item_a3e (I := I) (o0 := o0) (o1 := o1) (a0 := a0) (b3 := b3) (b4 := b4) (p5 := p5) (c6 := c6) R7 R10 hd
 refine .callS (.f call120 r) (.c .z (.c .z .n)) hw11 r r fun v15 I12 l16 hl13 hv14 => ?_
 obtain ⟨r17, rfl, rfl, hd⟩ := hv14
 have le20 := IH.le.trans (.refl _) hl13
 replace R7 := R7.mono hl13
 replace R10 := R10.mono hl13
 exact .re (m' := [pto b3 (.cells #[.int .i64 r17.2] 3 (0, 0)), pto b4 (.cells #[.int .i64 o1.N, .slice p5 o1.Items.length c6] 42 (0, 0))]) r (.ge r r r r (.skips 1 r (.nilS [4, 1] r r (.ret (oret results88 (.t r .n) le20 (.c .z (.c .z .n)) ⟨(decide (0 ≤ r17.1), r17.2), r, r, hd⟩)))))

theorem W_spvec_Right {I : IH} {a0 : Vec} {p1 : Option Addr} {c2 : Nat} {Q : Bool → Prop} (R3 : RepSl eItem I p1 c2 a0.Items) (hd : spvec_Right a0 Q) :
    PFun Tryz.prog 54 [.agg #[.int .i64 a0.N, .slice p1 a0.Items.length c2]] I (fun I_ v => ∃ r, v = .bool r ∧ Q r) := by
 refine Fun.enter func54 r ntmps54 r (.c .n) fun w0 M => ?_
 refine .seq (.region (.boxA r r r fun b6 => ?_))
 refine .skips 1 r (.nilS [1] r r (.seq (.seq (.region (.fieldAddr underlying42 r sizeOf3 r (o := 0) r r r (.load1 isAgg3 r .z r r r ?_))))))
 have hw14 := W_spvec_within (I := I) hd
 refine .callP call87 r hw14 r r fun v15 hv16 => ?_
 obtain ⟨r13, rfl, hd⟩ := hv16
 refine .not r r r (.nilS [7, 1] r r (.condP r hd (fun hb17 hd => ?_) fun hb17 hd => ?_))
 · exact .seq (.region (.skips 1 r (.nilS [2] r r (.drop .z (.ret (pret results54 (.t r .n) (.refl _) ⟨false, r, hd⟩))))))
 refine .skipS [1] r r (.seq (.region (.alloc1 zeroValue3 r r r fun b18 => ?_)))
 refine .store1 sizeOf3 r r .z (.t .nil) r (.nilS [3, 1] r r (.seq (.region (.fieldAddr underlying42 r sizeOf32 r (o := 1) r r r (.load1 isAgg32 r (.s .z) r r r (.mkFn r r r r ?_))))))
 have hw20 := W_slices_ContainsFunc_api_Item_api_Item_cd0 (I := I) (o0 := (-1)) (o1 := a0) (a0 := a0.Items) (b3 := b18) (b4 := b6) (p5 := p1) (c6 := c2) R3 R3 hd
 refine .callS (.f call88 r) (.c .z (.c .z .n)) hw20 r r fun v24 I21 l25 hl22 hv23 => ?_
 obtain ⟨r26, rfl, rfl, hd⟩ := hv23
 have le29 := IH.le.trans (.refl _) hl22
 replace R3 := R3.mono hl22
 exact .re (m' := [pto b18 (.cells #[.int .i64 r26.2] 3 (0, 0)), pto b6 (.cells #[.int .i64 a0.N, .slice p1 a0.Items.length c2] 42 (0, 0))]) r (.not r r r (.skips 1 r (.nilS [2] r r (.drop .z (.drop .z (.ret (pret results54 (.t r .n) le29 ⟨(!r26.1), r, hd⟩)))))))

theorem W_slices_Clone_api_Item_api_Item {I : IH} {a0 : List Item} {p1 : Option Addr} {c2 : Nat} {Q : (List Item) → Prop} (R3 : RepSl eItem I p1 c2 a0) (hd : slices_Clone_api_Item_api_Item a0 Q) :
    PFun Tryz.prog 56 [.slice p1 a0.length c2] I (fun I_ v => ∃ r p4 c5, v = .slice p4 r.length c5 ∧ RepSl eItem I_ p4 c5 r ∧ Q r) := by
 refine Fun.enter func56 r ntmps56 r (.c .n) fun w0 M => ?_
 refine .seq (.region (.skips 1 r (.nilS [0] r r (.seq (.seq (.region (.skips 1 r (.eqNilS underlying32 r r r r (.nilS [4, 0] r r ?_)))))))))
 refine split p1.isNone (fun hb7 => ?_) (fun hb7 => ?_)
 · have hd := hd.1 (RepSl.ofNone R3 hb7)
   exact .condKT r hb7 (.seq (.region (.skips 1 r (.nilS [2] r r (.ret (pret results56 (.t r .n) (.refl _) ⟨([] : List Item), _, _, r, (.nil _ _ _), hd⟩))))))
 have hd := hd.2
 refine .condKF r hb7 (.skipS [0] r r (.seq (.region (.buildSlice 0 underlying32 sizeOf80 zeroValue80 r r .n r r fun b9 => ?_))))
 refine .skips 1 r (.ownB (El := eItem) (ys := ([] : List Item)) .z .nil r ?_)
 obtain ⟨hl12, hd⟩ := hd
 refine .append (ys := a0) 16 .z underlying32 underlying32 IN80 r r r r r r r r r (.imm R3 r) hl12 r r fun p13 c14 => ?_
 refine .skips 1 r (.nilS [2] r r (.pub .z fun I16 hl17 R18 => ?_))
 have le19 := IH.le.trans (.refl _) hl17
 exact .ret (pret results56 (.t r .n) le19 ⟨(([] : List Item) ++ a0), _, _, r, R18, hd⟩)

theorem W_flags_words {I : IH} {a0 : Int}  {Q : Int → Prop}  (hd : flags_words a0 Q) :
    PFun Tryz.prog 147 [.int .i64 a0] I (fun I_ v => ∃ r, v = .int .i64 r ∧ Q r) := by
 refine Fun.enter func147 r ntmps147 r (.c .n) fun w0 M => ?_
 refine .seq (.region (.skips 1 r (.nilS [0] r r (.seq (.region (.skips 1 r (.maxI r r r r (.minI r r r r (.add r r r r ?_)))))))))
 exact .shr' r r (by decide) r r (.skips 1 r (.nilS [2] r r (.ret (pret results147 (.t r .n) (.refl _) ⟨(shr .i64 (w64 ((if 4096 < (if 0 > a0 then 0 else a0) then 4096 else (if 0 > a0 then 0 else a0)) + 63)) 6), r, hd⟩))))

theorem W_flags_New {I : IH} {a0 : Int}  {Q : (List Int) → Prop}  (hd : flags_New a0 Q) :
    OFun Tryz.prog 121 [.int .i64 a0] I (fun I_ v l => ∃ r p1 c2, v = .slice p1 r.length c2 ∧ l = [OwnSl eU64 81 p1 c2 r] ∧ Q r) := by
 refine Fun.enter func121 r ntmps121 r (.c .n) fun w0 M => ?_
 refine .seq (.region (.skips 1 r (.nilS [0] r r (.seq (.region (.skips 1 r ?_))))))
 have hw5 := W_flags_words (I := I) hd
 refine .callP call147 r hw5 r r fun v6 hv7 => ?_
 obtain ⟨r4, rfl, hd⟩ := hv7
 obtain ⟨h8, h9, hd⟩ := hd
 refine .make (El := eU64) (zv := 0) 8 underlying33 IN81 r r r r r r h8 h9 r r r fun b10 => ?_
 exact .skips 1 r (.nilS [2] r r (.ret (oret results121 (.t r .n) (.refl _) (.c .z .n) ⟨(List.replicate r4.toNat 0), _, _, r, r, hd⟩)))

theorem W_devec_New {I : IH} {a0 : Int}  {Q : Dense → Prop}  (hd : devec_New a0 Q) :
    OFun Tryz.prog 90 [.int .i64 a0] I (fun I_ v l => ∃ r p1 c2 p4 c5, v = .agg #[.int .i64 r.N, .slice p1 r.Has.length c2, .slice p4 r.Vals.length c5] ∧ RepSl eU64 I_ p1 c2 r.Has ∧ l = [OwnSl eI64 2 p4 c5 r.Vals] ∧ Q r) := by
 refine Fun.enter func90 r ntmps90 r (.c .n) fun w0 M => ?_
 refine .seq (.region (.allocA zeroValue53 r r fun b9 => ?_))
 refine .nilS [2, 0] r r (.seq (.seq (.region (.skips 1 r (.lt r r r r (.skips 1 r ?_))))))
 refine splitP hd (fun hb11 hd => ?_) fun hb11 hd => ?_
 · rw [hb11]
   refine .skips 3 r (.nilS [8, 2, 0] r r (.condKT r r (.region (.sub (E' := [(2, _), (8, _)]) ⟨r, r, trivial⟩ (.skips 1 r (.nilS [0, 2] r r (.seq (.draw [some 0, some 1, some 3, some 4, some 2, none, some 5] 6 MX (by kernel_rfl) (by kernel_rfl) (by kernel_rfl) (by kernel_rfl) (by kernel_rfl) (by kernel_rfl) (by kernel_rfl) (fun ex => (pto b9 (.cells #[.int .i64 0, .slice none 0 0, .slice none 0 0] 53 (0, 0))) :: ex) (fun _ _ => (.s .z)) r (.fs [[], [], []] r (by kernel_rfl) ?_)))))))))
   obtain ⟨h13, h14, hd⟩ := hd
   refine .a (fun b => .slice (some ⟨b, 0, none⟩) (List.replicate (Int.toNat 0) (0 : Int)).length (Int.toNat 0)) (fun b => OwnSl eI64 2 (some ⟨b, 0, none⟩) (Int.toNat 0) (List.replicate (Int.toNat 0) (0 : Int))) r r r r (fun _ L hL ex => .make (El := eI64) (zv := 0) 8 underlying37 IN2 r r r r r r h13 h14 r r r fun b => .mk (val := fun b => .slice (some ⟨b, 0, none⟩) (List.replicate (Int.toNat 0) (0 : Int)).length (Int.toNat 0)) (atom := fun b => OwnSl eI64 2 (some ⟨b, 0, none⟩) (Int.toNat 0) (List.replicate (Int.toNat 0) (0 : Int))) hL b) (.w [3, 0] [[]] [1] r (by kernel_rfl) (by kernel_rfl) (by kernel_rfl) ((dropE_kept r r)) (.inr (dropE_kept r r)) fun ex => ?_)
   have hw25 := W_flags_New (I := I) hd
   refine .callO call121 r hw25 r r fun v19 I16 l20 hl17 hv18 => ?_
   obtain ⟨r15, p21, c22, rfl, rfl, hd⟩ := hv18
   have le26 := IH.le.trans (.refl _) hl17
   refine .some (fun ex => (OwnSl eU64 81 p21 c22 r15) :: (pto b9 (.cells #[.int .i64 0, .slice none 0 0, .slice none 0 0] 53 (0, 0))) :: ex) r (fun _ _ => (.s (.s .z))) r (.ccs [[], []] r r (by kernel_rfl) trivial) (.b r fun b27 => DrawD.nop (.f [0, 2, 4] r (by kernel_rfl) r r (fun ex => .build zeroValue53 underlying53 BI53 (.c r r r (.t .nil) (.c r r r (.s (.t .nil)) (.c r r r (.s (.s (.t .nil))) .n))) (by exact ⟨⟨_, _, r, r, r⟩, ⟨⟨_, _, r, r, r⟩, ⟨⟨_, _, r, r, r⟩, trivial⟩⟩⟩) r r .mk) (.e 6 (by kernel_rfl) (by kernel_rfl) (by kernel_rfl) (.storeA sizeOf53 r r (.s .z) (.t (.t (.t .nil))) r r (.nilS [2] r r (.pub .z fun I28 hl29 R30 => ?_))))))
   have le31 := IH.le.trans le26 hl29
   exact .ret (oret results90 (.w isAgg53 sizeOf53 r .z r .n) le31 (.c (.s .z) .n) ⟨({ N := 0, Has := r15, Vals := (List.replicate (Int.toNat 0) (0 : Int)) } : Dense), _, _, _, _, r, R30, r, hd⟩)
 rw [hb11]
 refine .gyes r r r (.move r r r (.gyes r r r (.gt r r r r (.skips 1 r (.nilS [8, 2, 0] r r (.condP r hd (fun hb32 hd => ?_) fun hb32 hd => ?_))))))
 · refine .region (.sub (E' := [(2, _), (8, _)]) ⟨r, r, trivial⟩ (.skips 1 r (.nilS [0, 2] r r (.seq (.draw [some 0, some 1, some 3, some 4, some 2, none, some 5] 6 MX (by kernel_rfl) (by kernel_rfl) (by kernel_rfl) (by kernel_rfl) (by kernel_rfl) (by kernel_rfl) (by kernel_rfl) (fun ex => (pto b9 (.cells #[.int .i64 0, .slice none 0 0, .slice none 0 0] 53 (0, 0))) :: ex) (fun _ _ => (.s .z)) r (.fs [[], [], []] r (by kernel_rfl) ?_))))))
   obtain ⟨h34, h35, hd⟩ := hd
   refine .a (fun b => .slice (some ⟨b, 0, none⟩) (List.replicate (Int.toNat 0) (0 : Int)).length (Int.toNat 0)) (fun b => OwnSl eI64 2 (some ⟨b, 0, none⟩) (Int.toNat 0) (List.replicate (Int.toNat 0) (0 : Int))) r r r r (fun _ L hL ex => .make (El := eI64) (zv := 0) 8 underlying37 IN2 r r r r r r h34 h35 r r r fun b => .mk (val := fun b => .slice (some ⟨b, 0, none⟩) (List.replicate (Int.toNat 0) (0 : Int)).length (Int.toNat 0)) (atom := fun b => OwnSl eI64 2 (some ⟨b, 0, none⟩) (Int.toNat 0) (List.replicate (Int.toNat 0) (0 : Int))) hL b) (.w [3, 0] [[]] [1] r (by kernel_rfl) (by kernel_rfl) (by kernel_rfl) ((dropE_kept r r)) (.inr (dropE_kept r r)) fun ex => ?_)
   have hw46 := W_flags_New (I := I) hd
   refine .callO call121 r hw46 r r fun v40 I37 l41 hl38 hv39 => ?_
   obtain ⟨r36, p42, c43, rfl, rfl, hd⟩ := hv39
   have le47 := IH.le.trans (.refl _) hl38
   refine .some (fun ex => (OwnSl eU64 81 p42 c43 r36) :: (pto b9 (.cells #[.int .i64 0, .slice none 0 0, .slice none 0 0] 53 (0, 0))) :: ex) r (fun _ _ => (.s (.s .z))) r (.ccs [[], []] r r (by kernel_rfl) trivial) (.b r fun b48 => DrawD.nop (.f [0, 2, 4] r (by kernel_rfl) r r (fun ex => .build zeroValue53 underlying53 BI53 (.c r r r (.t .nil) (.c r r r (.s (.t .nil)) (.c r r r (.s (.s (.t .nil))) .n))) (by exact ⟨⟨_, _, r, r, r⟩, ⟨⟨_, _, r, r, r⟩, ⟨⟨_, _, r, r, r⟩, trivial⟩⟩⟩) r r .mk) (.e 6 (by kernel_rfl) (by kernel_rfl) (by kernel_rfl) (.storeA sizeOf53 r r (.s .z) (.t (.t (.t .nil))) r r (.nilS [2] r r (.pub .z fun I49 hl50 R51 => ?_))))))
   have le52 := IH.le.trans le47 hl50
   exact .ret (oret results90 (.w isAgg53 sizeOf53 r .z r .n) le52 (.c (.s .z) .n) ⟨({ N := 0, Has := r36, Vals := (List.replicate (Int.toNat 0) (0 : Int)) } : Dense), _, _, _, _, r, R51, r, hd⟩)
 refine .skipS [2, 0] r r (.seq (.draw [some 0, some 1, some 3, some 4, some 2, none, some 5] 6 MX (by kernel_rfl) (by kernel_rfl) (by kernel_rfl) (by kernel_rfl) (by kernel_rfl) (by kernel_rfl) (by kernel_rfl) (fun ex => (pto b9 (.cells #[.int .i64 0, .slice none 0 0, .slice none 0 0] 53 (0, 0))) :: ex) (fun _ _ => (.s .z)) r (.fs [[], [], []] r (by kernel_rfl) ?_)))
 obtain ⟨h54, h55, hd⟩ := hd
 refine .a (fun b => .slice (some ⟨b, 0, none⟩) (List.replicate a0.toNat (0 : Int)).length a0.toNat) (fun b => OwnSl eI64 2 (some ⟨b, 0, none⟩) a0.toNat (List.replicate a0.toNat (0 : Int))) r r r r (fun _ L hL ex => .make (El := eI64) (zv := 0) 8 underlying37 IN2 r r r r r r h54 h55 r r r fun b => .mk (val := fun b => .slice (some ⟨b, 0, none⟩) (List.replicate a0.toNat (0 : Int)).length a0.toNat) (atom := fun b => OwnSl eI64 2 (some ⟨b, 0, none⟩) a0.toNat (List.replicate a0.toNat (0 : Int))) hL b) (.w [3, 0] [[]] [1] r (by kernel_rfl) (by kernel_rfl) (by kernel_rfl) ((dropE_kept r r)) (.inr (dropE_kept r r)) fun ex => ?_)
 have hw66 := W_flags_New (I := I) hd
 refine .callO call121 r hw66 r r fun v60 I57 l61 hl58 hv59 => ?_
 obtain ⟨r56, p62, c63, rfl, rfl, hd⟩ := hv59
 have le67 := IH.le.trans (.refl _) hl58
 refine .some (fun ex => (OwnSl eU64 81 p62 c63 r56) :: (pto b9 (.cells #[.int .i64 0, .slice none 0 0, .slice none 0 0] 53 (0, 0))) :: ex) r (fun _ _ => (.s (.s .z))) r (.ccs [[], []] r r (by kernel_rfl) trivial) (.b r fun b68 => DrawD.nop (.f [0, 2, 4] r (by kernel_rfl) r r (fun ex => .build zeroValue53 underlying53 BI53 (.c r r r (.t .nil) (.c r r r (.s (.t .nil)) (.c r r r (.s (.s (.t .nil))) .n))) (by exact ⟨⟨_, _, r, r, r⟩, ⟨⟨_, _, r, r, r⟩, ⟨⟨_, _, r, r, r⟩, trivial⟩⟩⟩) r r .mk) (.e 6 (by kernel_rfl) (by kernel_rfl) (by kernel_rfl) (.storeA sizeOf53 r r (.s .z) (.t (.t (.t .nil))) r r (.nilS [2] r r (.pub .z fun I69 hl70 R71 => ?_))))))
 have le72 := IH.le.trans le67 hl70
 exact .ret (oret results90 (.w isAgg53 sizeOf53 r .z r .n) le72 (.c (.s .z) .n) ⟨({ N := a0, Has := r56, Vals := (List.replicate a0.toNat (0 : Int)) } : Dense), _, _, _, _, r, R71, r, hd⟩)

theorem W_flags_within {I : IH} {a0 : List Int} {a1 : Int} {p1 : Option Addr} {c2 : Nat} {Q : Bool → Prop} (R3 : RepSl eU64 I p1 c2 a0) (hd : flags_within a0 a1 Q) :
    PFun Tryz.prog 122 [.slice p1 a0.length c2, .int .i64 a1] I (fun I_ v => ∃ r, v = .bool r ∧ Q r) := by
 refine Fun.enter func122 r ntmps122 r (.c (.c .n)) fun w0 M => ?_
 refine .seq (.region (.skips 1 r (.nilS [1, 0] r r (.seq (.region (.skips 1 r (.ge r r r r (.skips 1 r ?_))))))))
 refine splitP hd (fun hb4 hd => ?_) fun hb4 hd => ?_
 · rw [hb4]
   exact .gyes r r r (.move r r r (.gyes r r r (.shr' r r (by decide) r r (.gyes r r r (.move r r r (.gyes r r r (.len underlying33 r r r r (.gyes r r r (.lt r r r r (.skips 2 r (.nilS [4] r r (.ret (pret results122 (.t r .n) (.refl _) ⟨(decide ((shr .i64 a1 6) < (a0.length : Int))), r, hd⟩)))))))))))))
 rw [hb4]
 exact .skips 7 r (.nilS [4] r r (.ret (pret results122 (.t r .n) (.refl _) ⟨false, r, hd⟩)))

theorem W_flags_bit {I : IH} {a0 : Int}  {Q : Int → Prop}  (hd : flags_bit a0 Q) :
    PFun Tryz.prog 123 [.int .i64 a0] I (fun I_ v => ∃ r, v = .int .u64 r ∧ Q r) := by
 refine Fun.enter func123 r ntmps123 r (.c .n) fun w0 M => ?_
 refine .seq (.region (.skips 1 r (.nilS [0] r r (.seq (.region (.skips 1 r (.conv underlying3 underlying125 r r r (.and r r r r ?_))))))))
 obtain ⟨hz1, hd⟩ := hd
 exact .shl' r r hz1 r r (.skips 1 r (.nilS [2] r r (.ret (pret results123 (.t r .n) (.refl _) ⟨(shl .u64 1 (bnd .u64 (IntKind.wrap .u64 (a0)) 63)), r, hd⟩))))

theorem W_flags_Has {I : IH} {a0 : List Int} {a1 : Int} {p1 : Option Addr} {c2 : Nat} {Q : Bool → Prop} (R3 : RepSl eU64 I p1 c2 a0) (hd : flags_Has a0 a1 Q) :
    PFun Tryz.prog 134 [.slice p1 a0.length c2, .int .i64 a1] I (fun I_ v => ∃ r, v = .bool r ∧ Q r) := by
 refine Fun.enter func134 r ntmps134 r (.c (.c .n)) fun w0 M => ?_
 refine .seq (.region (.skips 1 r (.nilS [1, 0] r r (.seq (.draw [some 0, some 1, some 2, some 3, some 4, some 5, some 6, some 7, some 8, some 9, some 10, some 11, some 12, some 13] 14 MX (by kernel_rfl) (by kernel_rfl) (by kernel_rfl) (by kernel_rfl) (by kernel_rfl) (by kernel_rfl) (by kernel_rfl) (fun ex => ex) (fun _ _ => .z) r (.fs [[], []] r (by kernel_rfl) (.w [] [[], []] [0, 1] r (by kernel_rfl) (by kernel_rfl) (by kernel_rfl) ((dropE_kept r r)) (.inr (dropE_kept r r)) fun ex => ?_)))))))
 have hw5 := W_flags_within (I := I) R3 hd
 refine .callP call122 r hw5 r r fun v6 hv7 => ?_
 obtain ⟨r4, rfl, hd⟩ := hv7
 refine .some (fun ex => ex) r (fun _ _ => .z) r trivial (.fs [[2, 2]] r (by kernel_rfl) ?_)
 refine splitP hd (fun hb8 hd => ?_) fun hb8 hd => ?_
 · refine .f [3] r (by kernel_rfl) r r (fun ex => .gyes r r hb8 (.move r r r .mk)) (.f [3] r (by kernel_rfl) r r (fun ex => .gyes r r hb8 (.move r r r .mk)) (.f [5, 3] r (by kernel_rfl) r r (fun ex => .gyes r r hb8 (.shr' r r (by decide) r r .mk)) ?_))
   obtain ⟨h9, x10, hx11, hd⟩ := hd
   obtain ⟨b12, o13, cs14, e15, hC16, hr17⟩ := R3.2 _ _ hx11
   cases hr17
   refine .f [4, 6, 3] r (by kernel_rfl) r r (fun ex => .gyes r r hb8 (.ixa underlying33 sizeOf81 r e15 r h9 (idx_lt hx11 h9) r r .mk)) (.f [7, 3] r (by kernel_rfl) r r (fun ex => .gyes r r hb8 (.ld1 (j := 0) isAgg81 hC16 r r r r r .mk)) (.f [3] r (by kernel_rfl) r r (fun ex => .gyes r r hb8 (.move r r r .mk)) (.w [8, 7, 6, 5, 4] [[], []] [9, 3, 3] r (by kernel_rfl) (by kernel_rfl) (by kernel_rfl) ((dropE_kept r r)) (.inr (dropE_kept r r)) fun ex => ?_)))
   have hw19 := W_flags_bit (I := I) hd
   refine .gyes r r hb8 (.callP call123 r hw19 r r fun v20 hv21 => ?_)
   obtain ⟨r18, rfl, hd⟩ := hv21
   exact .some (fun ex => ex) r (fun _ _ => .z) r (.cc [7, 3] r (by kernel_rfl) r r r (fun ex => .gyes r r hb8 (.ld1 (j := 0) isAgg81 hC16 r r r r r .mk)) (.cc [4, 6, 3] r (by kernel_rfl) r r r (fun ex => .gyes r r hb8 (.ixa underlying33 sizeOf81 r e15 r h9 (idx_lt hx11 h9) r r .mk)) (.cc [5, 3] r (by kernel_rfl) r r r (fun ex => .gyes r r hb8 (.shr' r r (by decide) r r .mk)) (.cc [3] r (by kernel_rfl) r r r (fun ex => .gyes r r hb8 (.move r r r .mk)) (.cc [3] r (by kernel_rfl) r r r (fun ex => .gyes r r hb8 (.move r r r .mk)) trivial))))) (.f [8, 10, 3] r (by kernel_rfl) r r (fun ex => .gyes r r hb8 (.and r r r r .mk)) (.f [11, 3] r (by kernel_rfl) r r (fun ex => .gyes r r hb8 (.ne r r r r .mk)) (.f [3, 12] r (by kernel_rfl) r r (fun ex => .pickT r hb8 r r r .mk) (.e 14 (by kernel_rfl) (by kernel_rfl) (by kernel_rfl) (.skips 1 r (.nilS [4] r r (.ret (pret results134 (.t r .n) (.refl _) ⟨((bnd .u64 x10 r18) != 0), r, hd⟩))))))))
 refine .f [3] r (by kernel_rfl) r r (fun ex => .gno r r hb8 r r .mk) (.f [3] r (by kernel_rfl) r r (fun ex => .gno r r hb8 r r .mk) (.f [5, 3] r (by kernel_rfl) r r (fun ex => .gno r r hb8 r r .mk) (.f [4, 6, 3] r (by kernel_rfl) r r (fun ex => .gno r r hb8 r r .mk) (.f [7, 3] r (by kernel_rfl) r r (fun ex => .gno r r hb8 r r .mk) (.f [3] r (by kernel_rfl) r r (fun ex => .gno r r hb8 r r .mk) (.f [9, 3, 3] r (by kernel_rfl) r r (fun ex => .gno r r hb8 r r .mk) (.f [8, 10, 3] r (by kernel_rfl) r r (fun ex => .gno r r hb8 r r .mk) (.f [11, 3] r (by kernel_rfl) r r (fun ex => .gno r r hb8 r r .mk) (.f [3, 12] r (by kernel_rfl) r r (fun ex => .pickF r hb8 r r r .mk) ?_)))))))))
 exact .e 14 (by kernel_rfl) (by kernel_rfl) (by kernel_rfl) (.skips 1 r (.nilS [4] r r (.ret (pret results134 (.t r .n) (.refl _) ⟨false, r, hd⟩))))

theorem W_flags_each_555 {I : IH} {a0 : List Int} {p1 : Option Addr} {c2 : Nat} {Q : (List Int) → Prop} (R3 : RepSl eU64 I p1 c2 a0) (hd : flags_each_555 a0 Q) :
    Fun Tryz.prog 149 #[.slice p1 a0.length c2] I [] (fun I_ v l => ∃ r b4 p5 c6, v = .func (.func 179) #[] #[.pointer (some ⟨b4, 0, none⟩)] ∧ RepSl eU64 I_ p5 c6 r ∧ l = [pto b4 (.cells #[.slice p5 r.length c6] 33 (0, 0))] ∧ Q r) := by
 refine Fun.enter (vs := [.slice p1 a0.length c2]) func149 r ntmps149 r (.c .n) fun w0 M => ?_
 refine .seq (.region (.box1 r r r r fun b4 => ?_))
 exact .skips 1 r (.nilS [1] r r (.seq (.region (.mkFn r r r r (.skips 1 r (.nilS [2] r r (.ret (oret results149 (.t r .n) (.refl _) (.c .z .n) ⟨a0, _, _, _, r, R3, r, hd⟩))))))))

theorem W_flags_each_1_6c7 {I : IH} {o0 : Nat} {o1 : Int} {o2 : Int} {o3 : List Int} {Y : Nat → Int → Int → Int → ((Bool × Nat × Int) → Prop) → Prop} {b5 : Nat} {b6 : Nat} {b7 : Nat} {p8 : Option Addr} {c9 : Nat} {lr : Nat} {Rr : Nat → HA} {Q : (Nat × Int) → Prop} (hY : ∀ {J_ : IH}, I.le J_ → ∀ {y11 : Nat} {y12 : Int} {y14 : Int} {x16 : Int}  {Qy : (Bool × Nat × Int) → Prop}, Y y11 y12 y14 x16 Qy → RFun Tryz.prog lr [.int .i64 x16] J_ [Rr y11, pto b5 (.cells #[.int .i64 y12] 3 (0, 0)), pto b6 (.cells #[.int .i64 y14] 3 (0, 0))] (fun I_ v l => ∃ r, v = .bool r.1 ∧ l = [Rr r.2.1, pto b5 (.cells #[.int .i64 y12] 3 (0, 0)), pto b6 (.cells #[.int .i64 r.2.2] 3 (0, 0))] ∧ Qy r)) (R10 : RepSl eU64 I p8 c9 o3) (hd : flags_each_1_6c7 o0 o1 o2 o3 Y Q) :
    Fun Tryz.prog 179 #[.func (.yield lr) #[] #[], .pointer (some ⟨b7, 0, none⟩)] I [Rr o0, pto b5 (.cells #[.int .i64 o1] 3 (0, 0)), pto b6 (.cells #[.int .i64 o2] 3 (0, 0)), pto b7 (.cells #[.slice p8 o3.length c9] 33 (0, 0))] (fun I_ v l => ∃ r, v = .tuple #[] ∧ l = [Rr r.1, pto b5 (.cells #[.int .i64 o1] 3 (0, 0)), pto b6 (.cells #[.int .i64 r.2] 3 (0, 0)), pto b7 (.cells #[.slice p8 o3.length c9] 33 (0, 0))] ∧ Q r) := by
 refine Fun.enter (vs := [.func (.yield lr) #[] #[], .pointer (some ⟨b7, 0, none⟩)]) func179 r ntmps179 r (.c (.c .n)) fun w0 M => ?_
 refine .seq (.region (.load1 isAgg33 r (.s (.s (.s .z))) r r r (.len underlying33 r r r r (.skips 1 r (.nilS [8, 7, 6, 1, 0] r r (.block (.loop hd (fun (s : Int × Int × Nat) c w => match s with | (s196, s197, s198) => ∃ I_, IH.le I I_ ∧ Ok ⟨31, [], none⟩ [(0, .func (.yield lr) #[] #[]), (1, .pointer (some ⟨b7, 0, none⟩)), (6, .slice p8 o3.length c9), (7, .int .i64 (o3.length : Int)), (8, .int .i64 s197)] c ∧ Sym w0 M I I_ [pto b5 (.cells #[.int .i64 o1] 3 (0, 0)), pto b6 (.cells #[.int .i64 s196] 3 (0, 0)), pto b7 (.cells #[.slice p8 o3.length c9] 33 (0, 0)), Rr s198] w) (fun c w ho hs => ⟨I, (.refl _), ho.sub ⟨r, r, r, r, r, trivial⟩, hs.pick (.c (.s .z) (.c (.s .z) (.c (.s .z) (.c .z .n))))⟩) ?_)))))))
 rintro ⟨s196, s197, s198⟩ next199 hd c w hst
 obtain ⟨I200, hl201, hok, hsym⟩ := hst
 have le202 := IH.le.trans (.refl _) hl201
 replace R10 := R10.mono hl201
 refine Cod.at hok hsym (.seq (.region (.lt r r r r (.nilS [9, 8, 7, 6, 1, 0] r r (.seq (.condP r hd (fun hb204 hd => ?_) fun hb204 hd => ?_))))))
 · refine .skipS [8, 7, 6, 1, 0] r r (.seq (.block (.seq (.region (.skips 1 r ?_)))))
   obtain ⟨h214, x215, hx216, hd⟩ := hd
   obtain ⟨b217, o218, cs219, e220, hC221, hr222⟩ := R10.2 _ _ hx216
   cases hr222
   refine .ixa underlying33 sizeOf81 r e220 r h214 (idx_lt hx216 h214) r r (.ld1 (j := 0) isAgg81 hC221 r r r r r (.skips 2 r (.nilS [4, 3, 8, 7, 6, 1, 0] r r (.seq (.region (.skips 1 r (.shl' r r (by decide) r r (.skips 1 r (.nilS [5, 4, 8, 7, 6, 1, 0] r r ?_)))))))))
   refine .block (.loop hd (fun (s : Int × Int × Int × Nat) c w => match s with | (s267, s268, s269, s270) => ∃ I_, IH.le I200 I_ ∧ Ok ⟨31, [], none⟩ [(0, .func (.yield lr) #[] #[]), (1, .pointer (some ⟨b7, 0, none⟩)), (4, .int .u64 s268), (5, .int .i64 s269), (6, .slice p8 o3.length c9), (7, .int .i64 (o3.length : Int)), (8, .int .i64 s197)] c ∧ Sym w0 M I I_ [pto b5 (.cells #[.int .i64 o1] 3 (0, 0)), pto b6 (.cells #[.int .i64 s267] 3 (0, 0)), pto b7 (.cells #[.slice p8 o3.length c9] 33 (0, 0)), Rr s270] w) (fun c w ho hs => ⟨I200, (.refl _), ho.sub ⟨r, r, r, r, r, r, r, trivial⟩, hs.pick (.c .z (.c .z (.c .z (.c .z .n))))⟩) ?_)
   rintro ⟨s267, s268, s269, s270⟩ next271 hd c w hst
   obtain ⟨I272, hl273, hok, hsym⟩ := hst
   have le274 := IH.le.trans le202 hl273
   have le275 := IH.le.trans (.refl _) hl273
   replace R10 := R10.mono hl273
   refine Cod.at hok hsym (.seq (.seq (.region (.skips 1 r (.ne r r r r (.nilS [16, 8, 7, 6, 5, 4, 1, 0] r r (.condP r hd (fun hb277 hd => ?_) fun hb277 hd => ?_)))))))
   · refine .skipS [8, 7, 6, 5, 4, 1, 0] r r (.seq (.block (.seq (.region (.skips 1 r (.and r r r r (.eq r r r r (.skips 1 r ?_))))))))
     refine splitP hd (fun hb278 hd => ?_) fun hb278 hd => ?_
     · rw [hb278]
       refine .gyes r r r (.move r r r (.gyes r r r (.move r r r ?_)))
       have hw279 := hY (J_ := I272) le274 (y11 := s270) (y12 := o1) (y14 := s267) (x16 := s269) hd
       refine .gyes r r r (.callY r r (.c (.s (.s (.s .z))) (.c .z (.c .z .n))) hw279 r r fun v283 I280 l284 hl281 hv282 => ?_)
       obtain ⟨r285, rfl, rfl, hd⟩ := hv282
       have le289 := IH.le.trans le274 hl281
       have le290 := IH.le.trans le275 hl281
       replace R10 := R10.mono hl281
       refine .re (m' := [Rr r285.2.1, pto b5 (.cells #[.int .i64 o1] 3 (0, 0)), pto b6 (.cells #[.int .i64 r285.2.2] 3 (0, 0)), pto b7 (.cells #[.slice p8 o3.length c9] 33 (0, 0))]) r (.gyes r r r (.not r r r (.skips 1 r (.nilS [29, 8, 7, 6, 5, 4, 1, 0] r r (.condP r hd (fun hb291 hd => ?_) fun hb291 hd => ?_)))))
       · exact .ret (oret results179 .n le289 (.c .z (.c .z (.c .z (.c .z .n)))) ⟨(r285.2.1, r285.2.2), r, r, hd⟩)
       refine .skipS [8, 7, 6, 5, 4, 1, 0] r r (.region (.skips 1 r (.shr' r r (by decide) r r (.skips 1 r (.add r r r r (.sub (E' := [(0, _), (1, _), (5, _), (6, _), (7, _), (8, _), (17, _), (18, _), (19, _), (20, _)]) ⟨r, r, r, r, r, r, r, r, r, r, trivial⟩ (.skips 1 r (.sub (E' := [(0, _), (1, _), (6, _), (7, _), (8, _), (17, _), (18, _), (19, _), (20, _), (4, _)]) ⟨r, r, r, r, r, r, r, r, r, r, trivial⟩ (.skips 1 r ?_)))))))))
       exact .nil' fun c w ho hs => ⟨(r285.2.2, shr .u64 s268 1, w64 (s269 + 1), r285.2.1), hd, I280, le290, ho.sub ⟨r, r, r, r, r, r, r, trivial⟩, hs.pick (.c (.s .z) (.c (.s .z) (.c (.s .z) (.c .z .n))))⟩
     rw [hb278]
     refine .skips 5 r (.nilS [29, 8, 7, 6, 5, 4, 1, 0] r r (.condKF r r (.skipS [8, 7, 6, 5, 4, 1, 0] r r (.region (.skips 1 r (.shr' r r (by decide) r r (.skips 1 r (.add r r r r (.sub (E' := [(0, _), (1, _), (5, _), (6, _), (7, _), (8, _), (17, _), (18, _), (19, _), (20, _)]) ⟨r, r, r, r, r, r, r, r, r, r, trivial⟩ ?_)))))))))
     exact .skips 1 r (.sub (E' := [(0, _), (1, _), (6, _), (7, _), (8, _), (17, _), (18, _), (19, _), (20, _), (4, _)]) ⟨r, r, r, r, r, r, r, r, r, r, trivial⟩ (.skips 1 r (.nil' fun c w ho hs => ⟨(s267, shr .u64 s268 1, w64 (s269 + 1), s270), hd, I272, le275, ho.sub ⟨r, r, r, r, r, r, r, trivial⟩, hs.pick (.c .z (.c .z (.c .z (.c .z .n))))⟩)))
   exact .exitS [8, 7, 6, 1, 0] r r (.region (.add r r r r (.sub (E' := [(0, _), (1, _), (6, _), (7, _), (30, _)]) ⟨r, r, r, r, r, trivial⟩ (.skips 1 r (.nil' fun c w ho hs => ⟨(s267, w64 (s197 + 1), s270), hd, I272, le274, ho.sub ⟨r, r, r, r, r, trivial⟩, hs.pick (.c .z (.c .z (.c .z (.c .z .n))))⟩)))))
 exact .exit (oretN results179 .n le202 (.c (.s (.s (.s .z))) (.c .z (.c .z (.c .z .n)))) ⟨(s198, s196), r, r, hd⟩)

theorem W_flags_Next {I : IH} {a0 : List Int} {a1 : Int} {p1 : Option Addr} {c2 : Nat} {Q : Int → Prop} (R3 : RepSl eU64 I p1 c2 a0) (hd : flags_Next a0 a1 Q) :
    PFun Tryz.prog 126 [.slice p1 a0.length c2, .int .i64 a1] I (fun I_ v => ∃ r, v = .int .i64 r ∧ Q r) := by
 refine Fun.enter func126 r ntmps126 r (.c (.c .n)) fun w0 M => ?_
 refine .marks0 (.seq (.region (.box1 r r r r fun b8 => ?_)))
 refine .alloc1 zeroValue3 r r r fun b10 => ?_
 refine .nilS [4, 3, 0] r r (.seq (.seq (.region (.skips 1 r ?_))))
 have hw25 := W_flags_each_555 (I := I) (a0 := a0) R3 hd
 refine .callS (.f call149 r) .n hw25 r r fun v29 I26 l30 hl27 hv28 => ?_
 obtain ⟨r31, b33, p34, c35, rfl, R36, rfl, hd⟩ := hv28
 have le37 := IH.le.trans (.refl _) hl27
 replace R3 := R3.mono hl27
 refine .re (m' := [pto b33 (.cells #[.slice p34 r31.length c35] 33 (0, 0)), pto b10 (.cells #[.int .i64 0] 3 (0, 0)), pto b8 (.cells #[.int .i64 a1] 3 (0, 0)), Marks ([])]) r (.nilS [7, 4, 3] r r (.block (.rangeF [.ret] r call179 (.c (.s (.s (.s .z))) (.c (.s (.s .z)) (.c (.s .z) (.c .z .n)))) fun lr D rc hrc => ?_)))
 refine ⟨_, W_flags_each_1_6c7 (I := I26) (lr := lr) (Rr := recA lr [.ret] rc) (o0 := 0) (o1 := a1) (o2 := 0) (o3 := r31) (b5 := b8) (b6 := b10) (b7 := b33) (p8 := p34) (c9 := c35) ?_ R36 hd, ?_⟩
 · skip
   intro I hJ y53 y54 y56 x58 Qy  hd
   replace R36 := R36.mono hJ
   obtain ⟨rfl, hd⟩ := hd
   refine RFun.mk hrc r fun w0 M => ?_
   refine .region (.skips 1 r (.nil' fun c w ho hs => beginR (E' := [(3, _), (4, _), (5, _)]) ho ⟨r, r, r, trivial⟩ hs .z (.block (.seq (.region (.skips 1 r (.load1 isAgg3 r (.s .z) r r r (.ge r r r r (.nilS [11, 5, 4] r r ?_)))))))))
   refine .condP r hd (fun hb59 hd => ?_) fun hb59 hd => ?_
   · refine .seq (.region (.skips 1 r (.store1 sizeOf3 r r (.s (.s .z)) (.t .nil) r (.nilS [] r r ?_))))
     exact .ret fun c w ho hs => endR (js := [.ret]) 1 (.inr rfl) (.refl _) .z (.c .z (.c .z .n)) ⟨(false, 1, x58), rfl, rfl, hd⟩ hs
   exact .skip' fun c w ho hs => endR 0 (.inl rfl) (.refl _) .z (.c .z (.c .z .n)) ⟨(true, 0, y56), rfl, rfl, hd⟩ hs
 intro v63 I60 l' hl61 hv62
 obtain ⟨r64, rfl, rfl, hd⟩ := hv62
 have le68 := IH.le.trans le37 hl61
 replace R36 := R36.mono hl61
 refine ⟨_, _, r, fun hj => ?_, fun i hj => ?_⟩
 · have hd := hd.1 (decide_eq_true hj)
   exact .re (m' := [Marks (D :: []), pto b8 (.cells #[.int .i64 a1] 3 (0, 0)), pto b10 (.cells #[.int .i64 r64.2] 3 (0, 0)), pto b33 (.cells #[.slice p34 r31.length c35] 33 (0, 0))]) r (.mkS [4] r r (.drop (.s .z) (.drop (.s (.s .z)) (.seq (.region (.store1 sizeOf3 r r (.s .z) (.t .nil) r (.nilS [4] r r (.ret (pretM .z results126 (.s isAgg3 r .z .n) le68 ⟨(-1), r, hd⟩)))))))))
 obtain ⟨hz, hd⟩ := hd.2 (decide_eq_false (by omega))
 obtain rfl : i = 0 := by omega
 refine ⟨_, r, ?_⟩
 exact .re (m' := [Marks (D :: []), pto b8 (.cells #[.int .i64 a1] 3 (0, 0)), pto b10 (.cells #[.int .i64 r64.2] 3 (0, 0)), pto b33 (.cells #[.slice p34 r31.length c35] 33 (0, 0))]) r (.ret (pretM .z results126 (.s isAgg3 r (.s .z) .n) le68 ⟨r64.2, r, hd⟩))

theorem W_flags_Right {I : IH} {a0 : List Int} {a1 : Int} {p1 : Option Addr} {c2 : Nat} {Q : Bool → Prop} (R3 : RepSl eU64 I p1 c2 a0) (hd : flags_Right a0 a1 Q) :
    PFun Tryz.prog 148 [.slice p1 a0.length c2, .int .i64 a1] I (fun I_ v => ∃ r, v = .bool r ∧ Q r) := by
 refine Fun.enter func148 r ntmps148 r (.c (.c .n)) fun w0 M => ?_
 refine .seq (.region (.skips 1 r (.nilS [1, 0] r r (.seq (.region (.skips 1 r (.ge r r r r (.skips 1 r ?_))))))))
 refine splitP hd (fun hb4 hd => ?_) fun hb4 hd => ?_
 · rw [hb4]
   refine .gyes r r r (.move r r r (.gyes r r r (.le' r r r r (.skips 2 r ?_))))
   refine splitP hd (fun hb5 hd => ?_) fun hb5 hd => ?_
   · rw [hb5]
     refine .gyes r r r (.move r r r (.gyes r r r (.len underlying33 r r r r (.gyes r r r (.move r r r ?_)))))
     have hw7 := W_flags_words (I := I) hd
     refine .gyes r r r (.callP call147 r hw7 r r fun v8 hv9 => ?_)
     obtain ⟨r6, rfl, hd⟩ := hv9
     refine .gyes r r r (.eq r r r r (.skips 2 r ?_))
     refine splitP hd (fun hb10 hd => ?_) fun hb10 hd => ?_
     · rw [hb10]
       refine .gyes r r r (.move r r r (.gyes r r r (.move r r r ?_)))
       have hw12 := W_flags_Next (I := I) R3 hd
       refine .gyes r r r (.callP call126 r hw12 r r fun v13 hv14 => ?_)
       obtain ⟨r11, rfl, hd⟩ := hv14
       exact .gyes r r r (.lt r r r r (.skips 2 r (.nilS [4] r r (.ret (pret results148 (.t r .n) (.refl _) ⟨(decide (r11 < 0)), r, hd⟩)))))
     rw [hb10]
     exact .skips 6 r (.nilS [4] r r (.ret (pret results148 (.t r .n) (.refl _) ⟨false, r, hd⟩)))
   rw [hb5]
   exact .skips 13 r (.nilS [4] r r (.ret (pret results148 (.t r .n) (.refl _) ⟨false, r, hd⟩)))
 rw [hb4]
 exact .skips 17 r (.nilS [4] r r (.ret (pret results148 (.t r .n) (.refl _) ⟨false, r, hd⟩)))

theorem W_devec_Right {I : IH} {a0 : Dense} {p1 : Option Addr} {c2 : Nat} {p4 : Option Addr} {c5 : Nat} {Q : Bool → Prop} (R3 : RepSl eU64 I p1 c2 a0.Has) (R6 : RepSl eI64 I p4 c5 a0.Vals) (hd : devec_Right a0 Q) :
    PFun Tryz.prog 124 [.agg #[.int .i64 a0.N, .slice p1 a0.Has.length c2, .slice p4 a0.Vals.length c5]] I (fun I_ v => ∃ r, v = .bool r ∧ Q r) := by
 refine Fun.enter func124 r ntmps124 r (.c .n) fun w0 M => ?_
 refine .seq (.region (.boxA r r r fun b9 => ?_))
 refine .skips 1 r (.nilS [1] r r (.seq (.seq (.region (.fieldAddr underlying53 r sizeOf33 r (o := 1) r r r (.load1 isAgg33 r .z r r r (.fieldAddr underlying53 r sizeOf3 r (o := 0) r r r (.load1 isAgg3 r .z r r r ?_))))))))
 have hw18 := W_flags_Right (I := I) R3 hd
 refine .callP call148 r hw18 r r fun v19 hv20 => ?_
 obtain ⟨r17, rfl, hd⟩ := hv20
 refine .not r r r (.skips 1 r ?_)
 refine splitP hd (fun hb21 hd => ?_) fun hb21 hd => ?_
 · rw [hb21]
   exact .skips 7 r (.nilS [18, 1] r r (.condKT r r (.seq (.region (.skips 1 r (.nilS [2] r r (.drop .z (.ret (pret results124 (.t r .n) (.refl _) ⟨false, r, hd⟩)))))))))
 rw [hb21]
 refine .gyes r r r (.fieldAddr underlying53 r sizeOf37 r (o := 2) r r r (.gyes r r r (.load1 isAgg37 r .z r r r (.gyes r r r (.len underlying37 r r r r (.gyes r r r (.fieldAddr underlying53 r sizeOf3 r (o := 0) r r r (.gyes r r r (.load1 isAgg3 r .z r r r (.gyes r r r (.ne r r r r (.skips 1 r (.nilS [18, 1] r r (.condP r hd (fun hb22 hd => ?_) fun hb22 hd => ?_))))))))))))))
 · exact .seq (.region (.skips 1 r (.nilS [2] r r (.drop .z (.ret (pret results124 (.t r .n) (.refl _) ⟨false, r, hd⟩))))))
 refine .skipS [1] r r (.seq (.seq (.region (.fieldAddr underlying53 r sizeOf37 r (o := 2) r r r (.load1 isAgg37 r .z r r r (.len underlying37 r r r r (.skips 1 r (.nilS [22, 21, 20, 1] r r (.block ?_)))))))))
 refine .loop hd (fun (s78 : Int) c w => ∃ I_, IH.le I I_ ∧ Ok ⟨37, [], none⟩ [(1, .pointer (some ⟨b9, 0, none⟩)), (20, .slice p4 a0.Vals.length c5), (21, .int .i64 (a0.Vals.length : Int)), (22, .int .i64 s78)] c ∧ Sym w0 M I I_ [pto b9 (.cells #[.int .i64 a0.N, .slice p1 a0.Has.length c2, .slice p4 a0.Vals.length c5] 53 (0, 0))] w) (fun c w ho hs => ⟨I, (.refl _), ho.sub ⟨r, r, r, r, trivial⟩, hs.pick (.c .z .n)⟩) ?_
 rintro s78 next79 hd c w hst
 obtain ⟨I80, hl81, hok, hsym⟩ := hst
 have le82 := IH.le.trans (.refl _) hl81
 replace R3 := R3.mono hl81
 replace R6 := R6.mono hl81
 refine Cod.at hok hsym (.seq (.region (.lt r r r r (.nilS [23, 22, 21, 20, 1] r r (.seq (.condP r hd (fun hb84 hd => ?_) fun hb84 hd => ?_))))))
 · refine .skipS [22, 21, 20, 1] r r (.seq (.block (.seq (.region (.skips 1 r ?_)))))
   obtain ⟨h94, x95, hx96, hd⟩ := hd
   obtain ⟨b97, o98, cs99, e100, hC101, hr102⟩ := R6.2 _ _ hx96
   cases hr102
   refine .ixa underlying37 sizeOf2 r e100 r h94 (idx_lt hx96 h94) r r (.ld1 (j := 0) isAgg2 hC101 r r r r r (.skips 2 r (.nilS [4, 3, 22, 21, 20, 1] r r (.seq (.region (.skips 1 r (.ne r r r r (.skips 1 r ?_))))))))
   refine splitP hd (fun hb103 hd => ?_) fun hb103 hd => ?_
   · rw [hb103]
     refine .gyes r r r (.fieldAddr underlying53 r sizeOf33 r (o := 1) r r r (.gyes r r r (.load1 isAgg33 r .z r r r (.gyes r r r (.move r r r ?_)))))
     have hw105 := W_flags_Has (I := I80) R3 hd
     refine .gyes r r r (.callP call134 r hw105 r r fun v106 hv107 => ?_)
     obtain ⟨r104, rfl, hd⟩ := hv107
     refine .gyes r r r (.not r r r (.skips 1 r (.nilS [35, 22, 21, 20, 1] r r (.condP r hd (fun hb108 hd => ?_) fun hb108 hd => ?_))))
     · exact .seq (.region (.skips 1 r (.nilS [2] r r (.drop .z (.ret (pret results124 (.t r .n) le82 ⟨false, r, hd⟩))))))
     exact .skipS [22, 21, 20, 1] r r (.region (.add r r r r (.sub (E' := [(1, _), (20, _), (21, _), (36, _)]) ⟨r, r, r, r, trivial⟩ (.skips 1 r (.nil' fun c w ho hs => ⟨(w64 (s78 + 1)), hd, I80, le82, ho.sub ⟨r, r, r, r, trivial⟩, hs.pick (.c .z .n)⟩)))))
   rw [hb103]
   exact .skips 6 r (.nilS [35, 22, 21, 20, 1] r r (.condKF r r (.skipS [22, 21, 20, 1] r r (.region (.add r r r r (.sub (E' := [(1, _), (20, _), (21, _), (36, _)]) ⟨r, r, r, r, trivial⟩ (.skips 1 r (.nil' fun c w ho hs => ⟨(w64 (s78 + 1)), hd, I80, le82, ho.sub ⟨r, r, r, r, trivial⟩, hs.pick (.c .z .n)⟩))))))))
 exact .exitS [] r r (.drop .z (.seq (.region (.skips 1 r (.nilS [2] r r (.ret (pret results124 (.t r .n) le82 ⟨true, r, hd⟩)))))))

theorem W_devec_sure {I : IH} {a0 : Dense} {p1 : Option Addr} {c2 : Nat} {p4 : Option Addr} {c5 : Nat} {Q : Dense → Prop} (R3 : RepSl eU64 I p1 c2 a0.Has) (R6 : RepSl eI64 I p4 c5 a0.Vals) (hd : devec_sure a0 Q) :
    PFun Tryz.prog 92 [.agg #[.int .i64 a0.N, .slice p1 a0.Has.length c2, .slice p4 a0.Vals.length c5]] I (fun I_ v => ∃ r p7 c8 p10 c11, v = .agg #[.int .i64 r.N, .slice p7 r.Has.length c8, .slice p10 r.Vals.length c11] ∧ RepSl eU64 I_ p7 c8 r.Has ∧ RepSl eI64 I_ p10 c11 r.Vals ∧ Q r) := by
 refine Fun.enter func92 r ntmps92 r (.c .n) fun w0 M => ?_
 refine .seq (.region (.boxA r r r fun b17 => ?_))
 refine .allocA zeroValue53 r r fun b19 => ?_
 refine .nilS [2, 1] r r (.seq (.seq (.region (.loadW isAgg53 sizeOf53 r (.s .z) r r r ?_))))
 have hw22 := W_devec_Right (I := I) R3 R6 hd
 refine .callP call124 r hw22 r r fun v23 hv24 => ?_
 obtain ⟨r21, rfl, hd⟩ := hv24
 refine .nilS [4, 2, 1] r r (.condP r hd (fun hb25 hd => ?_) fun hb25 hd => ?_)
 · exact .seq (.region (.loadW isAgg53 sizeOf53 r (.s .z) r r r (.storeA sizeOf53 r r .z (.t (.t (.t .nil))) r r (.nilS [2] r r (.drop (.s .z) (.ret (pret results92 (.w isAgg53 sizeOf53 r .z r .n) (.refl _) ⟨a0, _, _, _, _, r, R3, R6, hd⟩)))))))
 refine .skipS [2] r r (.drop (.s .z) (.seq (.region ?_)))
 have hw39 := W_devec_New (I := I) hd
 refine .callO call90 r hw39 r r fun v30 I27 l31 hl28 hv29 => ?_
 obtain ⟨r26, p32, c33, p35, c36, rfl, R34, rfl, hd⟩ := hv29
 have le40 := IH.le.trans (.refl _) hl28
 refine .storeA sizeOf53 r r (.s .z) (.t (.t (.t .nil))) r r (.nilS [2] r r (.pub .z fun I41 hl42 R43 => ?_))
 have le44 := IH.le.trans le40 hl42
 replace R34 := R34.mono hl42
 exact .ret (pret results92 (.w isAgg53 sizeOf53 r .z r .n) le44 ⟨r26, _, _, _, _, r, R34, R43, hd⟩)

theorem W_devec_all_319 {I : IH} {a0 : Dense} {p1 : Option Addr} {c2 : Nat} {p4 : Option Addr} {c5 : Nat} {Q : Dense → Prop} (R3 : RepSl eU64 I p1 c2 a0.Has) (R6 : RepSl eI64 I p4 c5 a0.Vals) (hd : devec_all_319 a0 Q) :
    Fun Tryz.prog 93 #[.agg #[.int .i64 a0.N, .slice p1 a0.Has.length c2, .slice p4 a0.Vals.length c5]] I [] (fun I_ v l => ∃ r b7 p8 c9 p11 c12, v = .func (.func 125) #[] #[.pointer (some ⟨b7, 0, none⟩)] ∧ RepSl eU64 I_ p8 c9 r.Has ∧ RepSl eI64 I_ p11 c12 r.Vals ∧ l = [pto b7 (.cells #[.int .i64 r.N, .slice p8 r.Has.length c9, .slice p11 r.Vals.length c12] 53 (0, 0))] ∧ Q r) := by
 refine Fun.enter (vs := [.agg #[.int .i64 a0.N, .slice p1 a0.Has.length c2, .slice p4 a0.Vals.length c5]]) func93 r ntmps93 r (.c .n) fun w0 M => ?_
 refine .seq (.region (.boxA r r r fun b7 => ?_))
 exact .skips 1 r (.nilS [1] r r (.seq (.region (.mkFn r r r r (.skips 1 r (.nilS [2] r r (.ret (oret results93 (.t r .n) (.refl _) (.c .z .n) ⟨a0, _, _, _, _, _, r, R3, R6, r, hd⟩))))))))

theorem W_devec_all_1_7f1 {I : IH} {o0 : Nat} {o1 : Vec} {o2 : Dense} {Y : Nat → Vec → Int → Int → ((Bool × Nat × Vec) → Prop) → Prop} {b4 : Nat} {p5 : Option Addr} {c6 : Nat} {b9 : Nat} {p10 : Option Addr} {c11 : Nat} {p13 : Option Addr} {c14 : Nat} {lr : Nat} {Rr : Nat → HA} {Q : (Nat × Vec) → Prop} (hY : ∀ {J_ : IH}, I.le J_ → ∀ {y16 : Nat} {y17 : Vec} {x23 : Int} {x24 : Int} {p19 : Option Addr} {c20 : Nat} {Qy : (Bool × Nat × Vec) → Prop}, Y y16 y17 x23 x24 Qy → RFun Tryz.prog lr [.int .i64 x23, .int .i64 x24] J_ [Rr y16, pto b4 (.cells #[.int .i64 y17.N, .slice p19 y17.Items.length c20] 42 (0, 0)), OwnSl eItem 80 p19 c20 y17.Items] (fun I_ v l => ∃ r p26 c27, v = .bool r.1 ∧ l = [Rr r.2.1, pto b4 (.cells #[.int .i64 r.2.2.N, .slice p26 r.2.2.Items.length c27] 42 (0, 0)), OwnSl eItem 80 p26 c27 r.2.2.Items] ∧ Qy r)) (R12 : RepSl eU64 I p10 c11 o2.Has) (R15 : RepSl eI64 I p13 c14 o2.Vals) (hd : devec_all_1_7f1 o0 o1 o2 Y Q) :
    Fun Tryz.prog 125 #[.func (.yield lr) #[] #[], .pointer (some ⟨b9, 0, none⟩)] I [Rr o0, pto b4 (.cells #[.int .i64 o1.N, .slice p5 o1.Items.length c6] 42 (0, 0)), OwnSl eItem 80 p5 c6 o1.Items, pto b9 (.cells #[.int .i64 o2.N, .slice p10 o2.Has.length c11, .slice p13 o2.Vals.length c14] 53 (0, 0))] (fun I_ v l => ∃ r p17 c18, v = .tuple #[] ∧ l = [Rr r.1, pto b4 (.cells #[.int .i64 r.2.N, .slice p17 r.2.Items.length c18] 42 (0, 0)), OwnSl eItem 80 p17 c18 r.2.Items, pto b9 (.cells #[.int .i64 o2.N, .slice p10 o2.Has.length c11, .slice p13 o2.Vals.length c14] 53 (0, 0))] ∧ Q r) := by
 refine Fun.enter (vs := [.func (.yield lr) #[] #[], .pointer (some ⟨b9, 0, none⟩)]) func125 r ntmps125 r (.c (.c .n)) fun w0 M => ?_
 refine .seq (.region (.fieldAddr underlying53 r sizeOf33 r (o := 1) r r r (.load1 isAgg33 r (.s (.s (.s .z))) r r r ?_)))
 have hw30 := W_flags_Next (I := I) R12 hd
 refine .callP call126 r hw30 r r fun v31 hv32 => ?_
 obtain ⟨r29, rfl, hd⟩ := hv32
 refine .skips 1 r (.nilS [3, 1, 0] r r (.block (.loop hd (fun (s : Int × (List Item) × Int × Nat) c w => match s with | (s116, s117, s121, s122) => ∃ I_ p118 c119, IH.le I I_ ∧ Ok ⟨23, [], none⟩ [(0, .func (.yield lr) #[] #[]), (1, .pointer (some ⟨b9, 0, none⟩)), (3, .int .i64 s121)] c ∧ Sym w0 M I I_ [pto b4 (.cells #[.int .i64 s116, .slice p118 s117.length c119] 42 (0, 0)), OwnSl eItem 80 p118 c119 s117, pto b9 (.cells #[.int .i64 o2.N, .slice p10 o2.Has.length c11, .slice p13 o2.Vals.length c14] 53 (0, 0)), Rr s122] w) (fun c w ho hs => ⟨I, _, _, (.refl _), ho.sub ⟨r, r, r, trivial⟩, hs.pick (.c (.s .z) (.c (.s .z) (.c (.s .z) (.c .z .n))))⟩) ?_)))
 rintro ⟨s116, s117, s121, s122⟩ next123 hd c w hst
 obtain ⟨I124, p118, c119, hl125, hok, hsym⟩ := hst
 have le126 := IH.le.trans (.refl _) hl125
 replace R12 := R12.mono hl125
 replace R15 := R15.mono hl125
 refine Cod.at hok hsym (.seq (.seq (.region (.skips 1 r (.ge r r r r (.nilS [8, 3, 1, 0] r r (.condP r hd (fun hb128 hd => ?_) fun hb128 hd => ?_)))))))
 · refine .skipS [3, 1, 0] r r (.seq (.block (.seq (.region (.skips 2 r (.fieldAddr underlying53 r sizeOf37 r (o := 2) r r r (.load1 isAgg37 r (.s (.s .z)) r r r (.skips 1 r ?_))))))))
   obtain ⟨h129, x130, hx131, hd⟩ := hd
   obtain ⟨b132, o133, cs134, e135, hC136, hr137⟩ := R15.2 _ _ hx131
   cases hr137
   refine .ixa underlying37 sizeOf2 r e135 r h129 (idx_lt hx131 h129) r r (.ld1 (j := 0) isAgg2 hC136 r r r r r ?_)
   have hw138 := hY (J_ := I124) le126 (y16 := s122) (y17 := ({ N := s116, Items := s117 } : Vec)) (x23 := s121) (x24 := x130) (p19 := p118) (c20 := c119) hd
   refine .callY r r (.c (.s (.s (.s .z))) (.c .z (.c .z .n))) hw138 r r fun v142 I139 l143 hl140 hv141 => ?_
   obtain ⟨r144, p148, c149, rfl, rfl, hd⟩ := hv141
   have le152 := IH.le.trans le126 hl140
   replace R12 := R12.mono hl140
   replace R15 := R15.mono hl140
   replace hC136 := hC136.mono hl140
   refine .re (m' := [Rr r144.2.1, pto b4 (.cells #[.int .i64 r144.2.2.N, .slice p148 r144.2.2.Items.length c149] 42 (0, 0)), OwnSl eItem 80 p148 c149 r144.2.2.Items, pto b9 (.cells #[.int .i64 o2.N, .slice p10 o2.Has.length c11, .slice p13 o2.Vals.length c14] 53 (0, 0))]) r (.not r r r (.nilS [22, 3, 1, 0] r r (.condP r hd (fun hb153 hd => ?_) fun hb153 hd => ?_)))
   · exact .ret (oret results125 .n le152 (.c .z (.c .z (.c .z (.c .z .n)))) ⟨(r144.2.1, r144.2.2), _, _, r, r, hd⟩)
   refine .skipS [3, 1, 0] r r (.region (.fieldAddr underlying53 r sizeOf33 r (o := 1) r r r (.load1 isAgg33 r (.s (.s (.s .z))) r r r (.skips 1 r (.add r r r r ?_)))))
   have hw155 := W_flags_Next (I := I139) R12 hd
   refine .callP call126 r hw155 r r fun v156 hv157 => ?_
   obtain ⟨r154, rfl, hd⟩ := hv157
   exact .sub (E' := [(0, _), (1, _), (9, _), (10, _), (11, _), (12, _), (13, _)]) ⟨r, r, r, r, r, r, r, trivial⟩ (.skips 1 r (.nil' fun c w ho hs => ⟨(r144.2.2.N, r144.2.2.Items, r154, r144.2.1), hd, I139, _, _, le152, ho.sub ⟨r, r, r, trivial⟩, hs.pick (.c (.s .z) (.c (.s .z) (.c (.s .z) (.c .z .n))))⟩))
 exact .exit (oretN results125 .n le126 (.c (.s (.s (.s .z))) (.c .z (.c .z (.c .z .n)))) ⟨(s122, ({ N := s116, Items := s117 } : Vec)), _, _, r, r, hd⟩)

theorem W_devec_Back {I : IH} {a0 : Dense} {p1 : Option Addr} {c2 : Nat} {p4 : Option Addr} {c5 : Nat} {Q : Vec → Prop} (R3 : RepSl eU64 I p1 c2 a0.Has) (R6 : RepSl eI64 I p4 c5 a0.Vals) (hd : devec_Back a0 Q) :
    PFun Tryz.prog 58 [.agg #[.int .i64 a0.N, .slice p1 a0.Has.length c2, .slice p4 a0.Vals.length c5]] I (fun I_ v => ∃ r p7 c8, v = .agg #[.int .i64 r.N, .slice p7 r.Items.length c8] ∧ RepSl eItem I_ p7 c8 r.Items ∧ Q r) := by
 refine Fun.enter func58 r ntmps58 r (.c .n) fun w0 M => ?_
 refine .marks0 (.seq (.region (.boxA r r r fun b14 => ?_)))
 refine .allocA zeroValue42 r r fun b16 => ?_
 refine .nilS [2, 1] r r (.seq (.region (.loadW isAgg53 sizeOf53 r (.s .z) r r r ?_)))
 have hw44 := W_devec_sure (I := I) R3 R6 hd
 refine .call call92 r hw44 r r fun v36 I33 hl34 hv35 => ?_
 obtain ⟨r32, p38, c39, p41, c42, rfl, R40, R43, hd⟩ := hv35
 have le45 := IH.le.trans (.refl _) hl34
 replace R3 := R3.mono hl34
 replace R6 := R6.mono hl34
 refine .storeA sizeOf53 r r (.s .z) (.t (.t (.t .nil))) r r (.nilS [2, 1] r r (.seq (.region (.fieldAddr underlying53 r sizeOf3 r (o := 0) r r r (.load1 isAgg3 r (.s .z) r r r (.build zeroValue42 underlying42 BI42 (.c r r r (.t .nil) .n) (by exact ⟨⟨_, _, r, r, r⟩, trivial⟩) r r (.allocA zeroValue42 r r fun b48 => ?_)))))))
 refine .storeA sizeOf42 r r .z (.t (.t .nil)) r r (.nilS [3, 2, 1] r r (.seq (.seq (.region (.loadW isAgg53 sizeOf53 r (.s (.s .z)) r r r ?_)))))
 have hw66 := W_devec_all_319 (I := I33) (a0 := r32) R40 R43 hd
 refine .callS (.f call93 r) .n hw66 r r fun v70 I67 l71 hl68 hv69 => ?_
 obtain ⟨r72, b74, p75, c76, p78, c79, rfl, R77, R80, rfl, hd⟩ := hv69
 have le81 := IH.le.trans le45 hl68
 replace R40 := R40.mono hl68
 replace R43 := R43.mono hl68
 refine .re (m' := [pto b74 (.cells #[.int .i64 r72.N, .slice p75 r72.Has.length c76, .slice p78 r72.Vals.length c79] 53 (0, 0)), pto b48 (.cells #[.int .i64 r32.N, .slice none 0 0] 42 (0, 0)), pto b16 (.cells #[.int .i64 0, .slice none 0 0] 42 (0, 0)), pto b14 (.cells #[.int .i64 r32.N, .slice p38 r32.Has.length c39, .slice p41 r32.Vals.length c42] 53 (0, 0)), Marks ([])]) r (.nilS [12, 3, 2] r r (.drop (.s (.s (.s .z))) (.block (.own0 eItem 80 (.rangeF [] r call125 (.c (.s (.s (.s (.s .z)))) (.c (.s (.s .z)) (.c .z (.c .z .n)))) fun lr D rc hrc => ?_)))))
 refine ⟨_, W_devec_all_1_7f1 (I := I67) (lr := lr) (Rr := recA lr [] rc) (o0 := 0) (o1 := ({ N := r32.N, Items := ([] : List Item) } : Vec)) (o2 := r72) (b4 := b48) (p5 := none) (c6 := 0) (b9 := b74) (p10 := p75) (c11 := c76) (p13 := p78) (c14 := c79) ?_ R77 R80 hd, ?_⟩
 · skip
   intro I hJ y114 y115 x121 x122 p117 c118 Qy  hd
   replace R77 := R77.mono hJ
   replace R80 := R80.mono hJ
   obtain ⟨rfl, hd⟩ := hd
   refine RFun.mk hrc r fun w0 M => ?_
   refine .seq (.region (.skips 1 r (.nilS [4, 14, 3] r r (.region (.skips 1 r (.nil' fun c w ho hs => beginR (E' := [(3, _), (4, _), (5, _)]) ho ⟨r, r, r, trivial⟩ hs .z (.block (.region (.fieldAddr underlying42 r sizeOf32 r (o := 1) r r r ?_)))))))))
   refine .load1 isAgg32 r (.s .z) r r r (.skips 2 r (.build zeroValue80 underlying80 BI80 (.c r r r (.t .nil) (.c r r r (.s (.t .nil)) .n)) (by exact ⟨⟨_, _, r, r, r⟩, ⟨⟨_, _, r, r, r⟩, trivial⟩⟩) r r (.buildSlice 1 underlying32 sizeOf80 zeroValue80 r r (.c r r r .n) r r fun b123 => ?_)))
   obtain ⟨hl125, hd⟩ := hd
   refine .append (ys := [({ At := x121, Val := x122 } : Item)]) 16 (.s (.s (.s .z))) underlying32 underlying32 IN80 r r r r r r r r r (.box .z (.one r) r) hl125 r r fun p126 c127 => ?_
   refine .fieldAddr underlying42 r sizeOf32 r (o := 1) r r r (.store1 sizeOf32 r r (.s (.s (.s .z))) (.s (.t .nil)) r ?_)
   exact .nil' fun c w ho hs => endR 0 (.inl rfl) (.refl _) (.s (.s .z)) (.c (.s (.s .z)) (.c .z .n)) ⟨(true, 0, ({ N := y115.N, Items := (y115.Items ++ ([({ At := x121, Val := x122 } : Item)])) } : Vec)), _, _, rfl, rfl, hd⟩ hs
 intro v132 I129 l' hl130 hv131
 obtain ⟨r133, p137, c138, rfl, rfl, hd⟩ := hv131
 have le141 := IH.le.trans le81 hl130
 replace R77 := R77.mono hl130
 replace R80 := R80.mono hl130
 obtain ⟨hz, hd⟩ := hd
 refine ⟨_, _, r, fun hj => ?_, fun i hj => absurd (hz.symm.trans hj) (by simp)⟩
 refine .re (m' := [Marks (D :: []), pto b48 (.cells #[.int .i64 r133.2.N, .slice p137 r133.2.Items.length c138] 42 (0, 0)), OwnSl eItem 80 p137 c138 r133.2.Items, pto b74 (.cells #[.int .i64 r72.N, .slice p75 r72.Has.length c76, .slice p78 r72.Vals.length c79] 53 (0, 0)), pto b16 (.cells #[.int .i64 0, .slice none 0 0] 42 (0, 0))]) r (.mkS [3, 2] r r (.drop (.s (.s (.s .z))) (.seq (.region (.loadW isAgg42 sizeOf42 r (.s .z) r r r (.storeA sizeOf42 r r (.s (.s (.s .z))) (.t (.t .nil)) r r (.nilS [2] r r (.drop (.s .z) (.pub (.s .z) fun I142 hl143 R144 => ?_)))))))))
 have le145 := IH.le.trans le141 hl143
 exact .ret (pretM .z results58 (.w isAgg42 sizeOf42 r .z r .n) le145 ⟨r133.2, _, _, r, R144, hd⟩)

theorem W_policy_Vec {I : IH} {a0 : Held} {p1 : Option Addr} {c2 : Nat} {p4 : Option Addr} {c5 : Nat} {p7 : Option Addr} {c8 : Nat} {Q : Vec → Prop} (R3 : RepSl eItem I p1 c2 a0.Vec.Items) (R6 : RepSl eU64 I p4 c5 a0.Dense.Has) (R9 : RepSl eI64 I p7 c8 a0.Dense.Vals) (hd : policy_Vec a0 Q) :
    PFun Tryz.prog 23 [.agg #[.int .i64 a0.Form, .int .i64 a0.Vec.N, .slice p1 a0.Vec.Items.length c2, .int .i64 a0.Dense.N, .slice p4 a0.Dense.Has.length c5, .slice p7 a0.Dense.Vals.length c8]] I (fun I_ v => ∃ r p10 c11, v = .agg #[.int .i64 r.N, .slice p10 r.Items.length c11] ∧ RepSl eItem I_ p10 c11 r.Items ∧ Q r) := by
 refine Fun.enter func23 r ntmps23 r (.c .n) fun w0 M => ?_
 refine .seq (.region (.boxA r r r fun b17 => ?_))
 refine .allocA zeroValue42 r r fun b19 => ?_
 refine .nilS [2, 1] r r (.seq (.block (.seq (.region (.fieldAddr underlying55 r sizeOf23 r (o := 0) r r r (.load1 isAgg23 r (.s .z) r r r (.eq r r r r (.skips 1 r (.nilS [3, 2, 1] r r ?_)))))))))
 refine .condP r hd (fun hb21 hd => ?_) fun hb21 hd => ?_
 · refine .seq (.region (.fieldAddr underlying55 r sizeOf53 r (o := 3) r r r (.loadA isAgg53 sizeOf53 r (.s .z) (.s (.s (.s (.t (.t (.t .nil)))))) r r r ?_)))
   have hw31 := W_devec_Back (I := I) R6 R9 hd
   refine .call call58 r hw31 r r fun v26 I23 hl24 hv25 => ?_
   obtain ⟨r22, p28, c29, rfl, R30, hd⟩ := hv25
   have le32 := IH.le.trans (.refl _) hl24
   replace R3 := R3.mono hl24
   replace R6 := R6.mono hl24
   replace R9 := R9.mono hl24
   exact .storeA sizeOf42 r r .z (.t (.t .nil)) r r (.nilS [2] r r (.drop (.s .z) (.ret (pret results23 (.w isAgg42 sizeOf42 r .z r .n) le32 ⟨r22, _, _, r, R30, hd⟩))))
 refine .seq ?_
 refine Cod.joinQ (σ := Bool) hd (fun (s43 : Bool) c w => ∃ I_, IH.le I I_ ∧ Ok ⟨28, [], none⟩ [(1, .pointer (some ⟨b17, 0, none⟩)), (2, .pointer (some ⟨b19, 0, none⟩)), (10, .bool s43)] c ∧ Sym w0 M I I_ [pto b17 (.cells #[.int .i64 a0.Form, .int .i64 a0.Vec.N, .slice p1 a0.Vec.Items.length c2, .int .i64 a0.Dense.N, .slice p4 a0.Dense.Has.length c5, .slice p7 a0.Dense.Vals.length c8] 55 (0, 0)), pto b19 (.cells #[.int .i64 0, .slice none 0 0] 42 (0, 0))] w) (fun k44 hd => ?_) ?_
 · skip
   refine .region (.fieldAddr underlying55 r sizeOf23 r (o := 0) r r r (.load1 isAgg23 r (.s .z) r r r (.eq r r r r (.skips 1 r ?_))))
   refine splitP hd (fun hb45 hd => ?_) fun hb45 hd => ?_
   · rw [hb45]
     refine .gyes r r r (.fieldAddr underlying55 r sizeOf42 r (o := 1) r r r (.gyes r r r (.loadA isAgg42 sizeOf42 r (.s .z) (.s (.t (.t .nil))) r r r ?_)))
     have hw47 := W_spvec_Right (I := I) R3 hd
     refine .gyes r r r (.callP call54 r hw47 r r fun v48 hv49 => ?_)
     obtain ⟨r46, rfl, hd⟩ := hv49
     exact .skips 2 r (.nil' fun c w ho hs => ⟨r46, hd, I, (.refl _), ho.sub ⟨r, r, r, trivial⟩, hs.pick (.c (.s .z) (.c .z .n))⟩)
   rw [hb45]
   exact .skips 5 r (.nil' fun c w ho hs => ⟨false, hd, I, (.refl _), ho.sub ⟨r, r, r, trivial⟩, hs.pick (.c (.s .z) (.c .z .n))⟩)
 rintro s43 hd c w hst
 obtain ⟨I50, hl51, hok, hsym⟩ := hst
 have le52 := IH.le.trans (.refl _) hl51
 replace R3 := R3.mono hl51
 replace R6 := R6.mono hl51
 replace R9 := R9.mono hl51
 refine Cod.at hok hsym (.condP r hd (fun hb53 hd => ?_) fun hb53 hd => ?_)
 · refine .seq (.draw [some 0, some 1, some 2, some 3, some 4, some 5, some 6, some 7] 8 MX (by kernel_rfl) (by kernel_rfl) (by kernel_rfl) (by kernel_rfl) (by kernel_rfl) (by kernel_rfl) (by kernel_rfl) (fun ex => (pto b17 (.cells #[.int .i64 a0.Form, .int .i64 a0.Vec.N, .slice p1 a0.Vec.Items.length c2, .int .i64 a0.Dense.N, .slice p4 a0.Dense.Has.length c5, .slice p7 a0.Dense.Vals.length c8] 55 (0, 0))) :: (pto b19 (.cells #[.int .i64 0, .slice none 0 0] 42 (0, 0))) :: ex) (fun _ _ => (.s (.s .z))) r (.f [] r (by kernel_rfl) r r (fun ex => .fieldAddr underlying55 r sizeOf42 r (o := 1) r r r .mk) (.f [0] r (by kernel_rfl) r r (fun ex => .fieldAddr underlying42 r sizeOf3 r (o := 1) r r r .mk) (.f [1] r (by kernel_rfl) r r (fun ex => .load1 isAgg3 r .z r r r .mk) (.f [] r (by kernel_rfl) r r (fun ex => .fieldAddr underlying55 r sizeOf42 r (o := 1) r r r .mk) (.f [3] r (by kernel_rfl) r r (fun ex => .fieldAddr underlying42 r sizeOf32 r (o := 2) r r r .mk) (.f [4] r (by kernel_rfl) r r (fun ex => .load1 isAgg32 r .z r r r .mk) (.w [2, 1, 0] [[], [5], [4, 5]] [5] r (by kernel_rfl) (by kernel_rfl) (by kernel_rfl) ((dropE_kept r r)) (.inr (dropE_kept r r)) fun ex => ?_))))))))
   have hw63 := W_slices_Clone_api_Item_api_Item (I := I50) R3 hd
   refine .call call56 r hw63 r r fun v58 I55 hl56 hv57 => ?_
   obtain ⟨r54, p60, c61, rfl, R62, hd⟩ := hv57
   have le64 := IH.le.trans le52 hl56
   replace R3 := R3.mono hl56
   replace R6 := R6.mono hl56
   replace R9 := R9.mono hl56
   exact .some (fun ex => (pto b17 (.cells #[.int .i64 a0.Form, .int .i64 a0.Vec.N, .slice p1 a0.Vec.Items.length c2, .int .i64 a0.Dense.N, .slice p4 a0.Dense.Has.length c5, .slice p7 a0.Dense.Vals.length c8] 55 (0, 0))) :: (pto b19 (.cells #[.int .i64 0, .slice none 0 0] 42 (0, 0))) :: ex) r (fun _ _ => (.s (.s .z))) r (.cc [1] r (by kernel_rfl) r r r (fun ex => .load1 isAgg3 r .z r r r .mk) (.cc [0] r (by kernel_rfl) r r r (fun ex => .fieldAddr underlying42 r sizeOf3 r (o := 1) r r r .mk) (.cc [] r (by kernel_rfl) r r r (fun ex => .fieldAddr underlying55 r sizeOf42 r (o := 1) r r r .mk) trivial))) (.f [2, 6] r (by kernel_rfl) r r (fun ex => .build zeroValue42 underlying42 BI42 (.c r r r (.t .nil) (.c r r r (.s (.t .nil)) .n)) (by exact ⟨⟨_, _, r, r, r⟩, ⟨⟨_, _, r, r, r⟩, trivial⟩⟩) r r .mk) (.e 8 (by kernel_rfl) (by kernel_rfl) (by kernel_rfl) (.storeA sizeOf42 r r (.s .z) (.t (.t .nil)) r r (.nilS [2] r r (.drop .z (.ret (pret results23 (.w isAgg42 sizeOf42 r .z r .n) le64 ⟨({ N := a0.Vec.N, Items := r54 } : Vec), _, _, r, R62, hd⟩)))))))
 exact .skipS [2] r r (.drop .z (.seq (.region (.build zeroValue42 underlying42 BI42 .n (by exact trivial) r r (.storeA sizeOf42 r r .z (.t (.t .nil)) r r (.nilS [2] r r (.ret (pret results23 (.w isAgg42 sizeOf42 r .z r .n) le52 ⟨({ N := 0, Items := ([] : List Item) } : Vec), _, _, r, (.nil _ _ _), hd⟩))))))))

theorem W_dcsc_none {I : IH}   {Q : Columns → Prop}  (hd : dcsc_none Q) :
    OFun Tryz.prog 61 [] I (fun I_ v l => ∃ r p1 c2 p4 c5 p7 c8 p10 c11, v = .agg #[.int .i64 r.Rows, .int .i64 r.Cols, .slice p1 r.At.length c2, .slice p4 r.Start.length c5, .slice p7 r.Row.length c8, .slice p10 r.Val.length c11] ∧ l = [OwnSl eI64 3 p1 c2 r.At, OwnSl eI64 3 p4 c5 r.Start, OwnSl eI64 3 p7 c8 r.Row, OwnSl eI64 2 p10 c11 r.Val] ∧ Q r) := by
 refine Fun.enter func61 r ntmps61 r .n fun w0 M => ?_
 refine .seq (.region (.allocA zeroValue50 r r fun b13 => ?_))
 refine .nilS [0] r r (.seq (.region (.buildSlice 1 underlying36 sizeOf3 zeroValue3 r r (.c r r r .n) r r fun b15 => ?_)))
 exact .ownB (El := eI64) (ys := ([0] : List Int)) .z (.one r) r (.build zeroValue50 underlying50 BI50 (.c r r r (.s (.s (.s (.t .nil)))) .n) (by exact ⟨⟨_, _, r, r, r⟩, trivial⟩) r r (.storeA sizeOf50 r r (.s .z) (.t (.t (.t (.t (.t (.t .nil)))))) r r (.nilS [0] r r (.own0 eI64 3 (.own0 eI64 3 (.own0 eI64 2 (.ret (oret results61 (.w isAgg50 sizeOf50 r (.s (.s (.s (.s .z)))) r .n) (.refl _) (.c (.s (.s .z)) (.c (.s (.s .z)) (.c (.s .z) (.c .z .n)))) ⟨({ Rows := 0, Cols := 0, At := ([] : List Int), Start := ([0] : List Int), Row := ([] : List Int), Val := ([] : List Int) } : Columns), _, _, _, _, _, _, _, _, r, r, hd⟩))))))))

theorem W_dcsc_within {I : IH} {a0 : Int} {a1 : Int}  {Q : Bool → Prop}  (hd : dcsc_within a0 a1 Q) :
    PFun Tryz.prog 162 [.int .i64 a0, .int .i64 a1] I (fun I_ v => ∃ r, v = .bool r ∧ Q r) := by
 refine Fun.enter func162 r ntmps162 r (.c (.c .n)) fun w0 M => ?_
 refine .seq (.region (.skips 1 r (.nilS [1, 0] r r (.seq (.region (.skips 1 r (.ge r r r r (.skips 1 r ?_))))))))
 refine splitP hd (fun hb1 hd => ?_) fun hb1 hd => ?_
 · rw [hb1]
   exact .gyes r r r (.move r r r (.gyes r r r (.move r r r (.gyes r r r (.le' r r r r (.skips 2 r (.nilS [4] r r (.ret (pret results162 (.t r .n) (.refl _) ⟨(decide (a0 ≤ a1)), r, hd⟩)))))))))
 rw [hb1]
 exact .skips 5 r (.nilS [4] r r (.ret (pret results162 (.t r .n) (.refl _) ⟨false, r, hd⟩)))

theorem W_dcsc_rising {I : IH} {a0 : List Int} {a1 : Int} {p1 : Option Addr} {c2 : Nat} {Q : Bool → Prop} (R3 : RepSl eI64 I p1 c2 a0) (hd : dcsc_rising a0 a1 Q) :
    PFun Tryz.prog 163 [.slice p1 a0.length c2, .int .i64 a1] I (fun I_ v => ∃ r, v = .bool r ∧ Q r) := by
 refine Fun.enter func163 r ntmps163 r (.c (.c .n)) fun w0 M => ?_
 refine .seq (.region (.skips 1 r (.nilS [1, 0] r r (.seq (.seq (.region (.skips 1 r (.len underlying36 r r r r (.skips 1 r ?_)))))))))
 refine .nilS [9, 8, 7, 1, 0] r r (.block (.loop hd (fun (s68 : Int) c w => ∃ I_, IH.le I I_ ∧ Ok ⟨33, [], none⟩ [(0, .slice p1 a0.length c2), (1, .int .i64 a1), (7, .slice p1 a0.length c2), (8, .int .i64 (a0.length : Int)), (9, .int .i64 s68)] c ∧ Sym w0 M I I_ [] w) (fun c w ho hs => ⟨I, (.refl _), ho.sub ⟨r, r, r, r, r, trivial⟩, hs.pick .n⟩) ?_))
 rintro s68 next69 hd c w hst
 obtain ⟨I70, hl71, hok, hsym⟩ := hst
 have le72 := IH.le.trans (.refl _) hl71
 replace R3 := R3.mono hl71
 refine Cod.at hok hsym (.seq (.region (.lt r r r r (.nilS [10, 9, 8, 7, 1, 0] r r (.seq (.condP r hd (fun hb74 hd => ?_) fun hb74 hd => ?_))))))
 · refine .skipS [9, 8, 7, 1, 0] r r (.seq (.block (.seq (.region (.skips 1 r ?_)))))
   obtain ⟨h84, x85, hx86, hd⟩ := hd
   obtain ⟨b87, o88, cs89, e90, hC91, hr92⟩ := R3.2 _ _ hx86
   cases hr92
   refine .ixa underlying36 sizeOf3 r e90 r h84 (idx_lt hx86 h84) r r (.ld1 (j := 0) isAgg3 hC91 r r r r r (.skips 2 r (.nilS [6, 5, 9, 8, 7, 1, 0] r r (.seq (.region (.skips 2 r (.sub' r r r r ?_)))))))
   have hw94 := W_dcsc_within (I := I70) hd
   refine .callP call162 r hw94 r r fun v95 hv96 => ?_
   obtain ⟨r93, rfl, hd⟩ := hv96
   refine .not r r r (.skips 1 r ?_)
   refine splitP hd (fun hb97 hd => ?_) fun hb97 hd => ?_
   · rw [hb97]
     refine .skips 3 r (.gnoU r r r r (.gnoU r r r r (.gnoU r r r r (.gnoU r r r r (.gnoU r r r r (.gnoU r r r r (.gnoU r r r r (.skips 2 r (.nilS [31, 9, 8, 7, 1, 0] r r ?_)))))))))
     exact .condKT r r (.seq (.region (.skips 1 r (.nilS [4] r r (.ret (pret results163 (.t r .n) le72 ⟨false, r, hd⟩))))))
   rw [hb97]
   refine .gyes r r r (.move r r r (.gyes r r r (.gt r r r r (.gyes r r r (.move r r r ?_)))))
   refine splitP hd (fun hb98 hd => ?_) fun hb98 hd => ?_
   · rw [hb98]
     refine .gyes r r r (.move r r r (.gyes r r r (.move r r r (.gyes r r r (.sub' r r r r ?_)))))
     obtain ⟨h99, x100, hx101, hd⟩ := hd
     obtain ⟨b102, o103, cs104, e105, hC106, hr107⟩ := R3.2 _ _ hx101
     cases hr107
     refine .gyes r r r (.ixa underlying36 sizeOf3 r e105 r h99 (idx_lt hx101 h99) r r (.gyes r r r (.ld1 (j := 0) isAgg3 hC106 r r r r r (.gyes r r r (.move r r r (.gyes r r r (.ge r r r r (.gyes r r r (.pickT r r r r r (.skips 1 r (.nilS [31, 9, 8, 7, 1, 0] r r (.condP r hd (fun hb108 hd => ?_) fun hb108 hd => ?_))))))))))))
     · exact .seq (.region (.skips 1 r (.nilS [4] r r (.ret (pret results163 (.t r .n) le72 ⟨false, r, hd⟩)))))
     exact .skipS [9, 8, 7, 1, 0] r r (.region (.add r r r r (.sub (E' := [(0, _), (1, _), (7, _), (8, _), (32, _)]) ⟨r, r, r, r, r, trivial⟩ (.skips 1 r (.nil' fun c w ho hs => ⟨(w64 (s68 + 1)), hd, I70, le72, ho.sub ⟨r, r, r, r, r, trivial⟩, hs.pick .n⟩)))))
   rw [hb98]
   refine .skips 7 r (.gyes r r r (.pickF r r r r r (.skips 1 r (.nilS [31, 9, 8, 7, 1, 0] r r (.condKF r r (.skipS [9, 8, 7, 1, 0] r r (.region (.add r r r r (.sub (E' := [(0, _), (1, _), (7, _), (8, _), (32, _)]) ⟨r, r, r, r, r, trivial⟩ (.skips 1 r ?_))))))))))
   exact .nil' fun c w ho hs => ⟨(w64 (s68 + 1)), hd, I70, le72, ho.sub ⟨r, r, r, r, r, trivial⟩, hs.pick .n⟩
 exact .exitS [] r r (.seq (.region (.skips 1 r (.nilS [4] r r (.ret (pret results163 (.t r .n) le72 ⟨true, r, hd⟩))))))

theorem W_dcsc_Right {I : IH} {a0 : Columns} {p1 : Option Addr} {c2 : Nat} {p4 : Option Addr} {c5 : Nat} {p7 : Option Addr} {c8 : Nat} {p10 : Option Addr} {c11 : Nat} {Q : Bool → Prop} (R3 : RepSl eI64 I p1 c2 a0.At) (R6 : RepSl eI64 I p4 c5 a0.Start) (R9 : RepSl eI64 I p7 c8 a0.Row) (R12 : RepSl eI64 I p10 c11 a0.Val) (hd : dcsc_Right a0 Q) :
    PFun Tryz.prog 133 [.agg #[.int .i64 a0.Rows, .int .i64 a0.Cols, .slice p1 a0.At.length c2, .slice p4 a0.Start.length c5, .slice p7 a0.Row.length c8, .slice p10 a0.Val.length c11]] I (fun I_ v => ∃ r, v = .bool r ∧ Q r) := by
 refine Fun.enter func133 r ntmps133 r (.c .n) fun w0 M => ?_
 refine .seq (.region (.boxA r r r fun b15 => ?_))
 refine .skips 1 r (.nilS [1] r r (.seq (.region (.fieldAddr underlying50 r sizeOf36 r (o := 4) r r r (.load1 isAgg36 r .z r r r (.len underlying36 r r r r (.skips 1 r (.nilS [3, 1] r r (.seq ?_)))))))))
 refine .seq (.region (.fieldAddr underlying50 r sizeOf3 r (o := 0) r r r (.load1 isAgg3 r .z r r r ?_)))
 have hw31 := W_dcsc_within (I := I) hd
 refine .callP call162 r hw31 r r fun v32 hv33 => ?_
 obtain ⟨r30, rfl, hd⟩ := hv33
 refine .not r r r (.skips 1 r ?_)
 refine splitP hd (fun hb34 hd => ?_) fun hb34 hd => ?_
 · rw [hb34]
   exact .skips 26 r (.nilS [38, 3, 1] r r (.condKT r r (.seq (.region (.skips 1 r (.nilS [2] r r (.drop .z (.ret (pret results133 (.t r .n) (.refl _) ⟨false, r, hd⟩)))))))))
 rw [hb34]
 refine .gyes r r r (.fieldAddr underlying50 r sizeOf3 r (o := 1) r r r (.gyes r r r (.load1 isAgg3 r .z r r r ?_)))
 have hw36 := W_dcsc_within (I := I) hd
 refine .gyes r r r (.callP call162 r hw36 r r fun v37 hv38 => ?_)
 obtain ⟨r35, rfl, hd⟩ := hv38
 refine .gyes r r r (.not r r r (.skips 2 r ?_))
 refine splitP hd (fun hb39 hd => ?_) fun hb39 hd => ?_
 · rw [hb39]
   exact .skips 20 r (.nilS [38, 3, 1] r r (.condKT r r (.seq (.region (.skips 1 r (.nilS [2] r r (.drop .z (.ret (pret results133 (.t r .n) (.refl _) ⟨false, r, hd⟩)))))))))
 rw [hb39]
 refine .gyes r r r (.fieldAddr underlying50 r sizeOf36 r (o := 3) r r r (.gyes r r r (.load1 isAgg36 r .z r r r (.gyes r r r (.len underlying36 r r r r (.gyes r r r (.fieldAddr underlying50 r sizeOf36 r (o := 2) r r r (.gyes r r r (.load1 isAgg36 r .z r r r (.gyes r r r (.len underlying36 r r r r (.gyes r r r (.add r r r r (.gyes r r r (.ne r r r r (.skips 2 r ?_))))))))))))))))
 refine splitP hd (fun hb40 hd => ?_) fun hb40 hd => ?_
 · rw [hb40]
   exact .skips 10 r (.nilS [38, 3, 1] r r (.condKT r r (.seq (.region (.skips 1 r (.nilS [2] r r (.drop .z (.ret (pret results133 (.t r .n) (.refl _) ⟨false, r, hd⟩)))))))))
 rw [hb40]
 refine .gyes r r r (.fieldAddr underlying50 r sizeOf37 r (o := 5) r r r (.gyes r r r (.load1 isAgg37 r .z r r r (.gyes r r r (.len underlying37 r r r r (.gyes r r r (.move r r r (.gyes r r r (.ne r r r r (.skips 2 r ?_))))))))))
 refine splitP hd (fun hb41 hd => ?_) fun hb41 hd => ?_
 · rw [hb41]
   exact .skips 3 r (.nilS [38, 3, 1] r r (.condKT r r (.seq (.region (.skips 1 r (.nilS [2] r r (.drop .z (.ret (pret results133 (.t r .n) (.refl _) ⟨false, r, hd⟩)))))))))
 rw [hb41]
 refine .gyes r r r (.move r r r (.gyes r r r (.gt r r r r (.skips 1 r (.nilS [38, 3, 1] r r (.condP r hd (fun hb42 hd => ?_) fun hb42 hd => ?_))))))
 · exact .seq (.region (.skips 1 r (.nilS [2] r r (.drop .z (.ret (pret results133 (.t r .n) (.refl _) ⟨false, r, hd⟩))))))
 refine .skipS [3, 1] r r (.seq (.seq (.region (.fieldAddr underlying50 r sizeOf36 r (o := 2) r r r (.load1 isAgg36 r .z r r r (.fieldAddr underlying50 r sizeOf3 r (o := 1) r r r (.load1 isAgg3 r .z r r r ?_)))))))
 have hw74 := W_dcsc_rising (I := I) R3 hd
 refine .callP call163 r hw74 r r fun v75 hv76 => ?_
 obtain ⟨r73, rfl, hd⟩ := hv76
 refine .not r r r (.skips 1 r ?_)
 refine splitP hd (fun hb77 hd => ?_) fun hb77 hd => ?_
 · rw [hb77]
   exact .skips 25 r (.nilS [70, 1] r r (.condKT r r (.seq (.region (.skips 1 r (.nilS [2] r r (.drop .z (.ret (pret results133 (.t r .n) (.refl _) ⟨false, r, hd⟩)))))))))
 rw [hb77]
 refine .gyes r r r (.fieldAddr underlying50 r sizeOf36 r (o := 3) r r r (.gyes r r r (.load1 isAgg36 r .z r r r (.gyes r r r (.move r r r (.gyes r r r (.add r r r r ?_)))))))
 have hw79 := W_dcsc_rising (I := I) R6 hd
 refine .gyes r r r (.callP call163 r hw79 r r fun v80 hv81 => ?_)
 obtain ⟨r78, rfl, hd⟩ := hv81
 refine .gyes r r r (.not r r r (.skips 2 r ?_))
 refine splitP hd (fun hb82 hd => ?_) fun hb82 hd => ?_
 · rw [hb82]
   exact .skips 17 r (.nilS [70, 1] r r (.condKT r r (.seq (.region (.skips 1 r (.nilS [2] r r (.drop .z (.ret (pret results133 (.t r .n) (.refl _) ⟨false, r, hd⟩)))))))))
 rw [hb82]
 refine .gyes r r r (.fieldAddr underlying50 r sizeOf36 r (o := 3) r r r (.gyes r r r (.load1 isAgg36 r .z r r r ?_)))
 obtain ⟨h83, x84, hx85, hd⟩ := hd
 obtain ⟨b86, o87, cs88, e89, hC90, hr91⟩ := R6.2 _ _ hx85
 cases hr91
 refine .gyes r r r (.ixa underlying36 sizeOf3 r e89 r h83 (idx_lt hx85 h83) r r (.gyes r r r (.ld1 (j := 0) isAgg3 hC90 r r r r r (.gyes r r r (.ne r r r r (.skips 2 r ?_))))))
 refine splitP hd (fun hb92 hd => ?_) fun hb92 hd => ?_
 · rw [hb92]
   exact .skips 10 r (.nilS [70, 1] r r (.condKT r r (.seq (.region (.skips 1 r (.nilS [2] r r (.drop .z (.ret (pret results133 (.t r .n) (.refl _) ⟨false, r, hd⟩)))))))))
 rw [hb92]
 refine .gyes r r r (.fieldAddr underlying50 r sizeOf36 r (o := 3) r r r (.gyes r r r (.load1 isAgg36 r .z r r r (.gyes r r r (.fieldAddr underlying50 r sizeOf36 r (o := 2) r r r (.gyes r r r (.load1 isAgg36 r .z r r r (.gyes r r r (.len underlying36 r r r r ?_)))))))))
 obtain ⟨h93, x94, hx95, hd⟩ := hd
 obtain ⟨b96, o97, cs98, e99, hC100, hr101⟩ := R6.2 _ _ hx95
 cases hr101
 refine .gyes r r r (.ixa underlying36 sizeOf3 r e99 r h93 (idx_lt hx95 h93) r r (.gyes r r r (.ld1 (j := 0) isAgg3 hC100 r r r r r (.gyes r r r (.move r r r (.gyes r r r (.ne r r r r (.skips 1 r (.nilS [70, 1] r r (.condP r hd (fun hb102 hd => ?_) fun hb102 hd => ?_))))))))))
 · exact .seq (.region (.skips 1 r (.nilS [2] r r (.drop .z (.ret (pret results133 (.t r .n) (.refl _) ⟨false, r, hd⟩))))))
 refine .skipS [1] r r (.seq (.seq (.region (.fieldAddr underlying50 r sizeOf36 r (o := 2) r r r (.load1 isAgg36 r .z r r r (.len underlying36 r r r r (.skips 1 r (.nilS [74, 73, 1] r r (.block ?_)))))))))
 refine .loop hd (fun (s176 : Int) c w => ∃ I_, IH.le I I_ ∧ Ok ⟨96, [], none⟩ [(1, .pointer (some ⟨b15, 0, none⟩)), (73, .int .i64 (a0.At.length : Int)), (74, .int .i64 s176)] c ∧ Sym w0 M I I_ [pto b15 (.cells #[.int .i64 a0.Rows, .int .i64 a0.Cols, .slice p1 a0.At.length c2, .slice p4 a0.Start.length c5, .slice p7 a0.Row.length c8, .slice p10 a0.Val.length c11] 50 (0, 0))] w) (fun c w ho hs => ⟨I, (.refl _), ho.sub ⟨r, r, r, trivial⟩, hs.pick (.c .z .n)⟩) ?_
 rintro s176 next177 hd c w hst
 obtain ⟨I178, hl179, hok, hsym⟩ := hst
 have le180 := IH.le.trans (.refl _) hl179
 replace R3 := R3.mono hl179
 replace R6 := R6.mono hl179
 replace R9 := R9.mono hl179
 replace R12 := R12.mono hl179
 refine Cod.at hok hsym (.seq (.region (.lt r r r r (.nilS [75, 74, 73, 1] r r (.seq (.condP r hd (fun hb182 hd => ?_) fun hb182 hd => ?_))))))
 · refine .skipS [74, 73, 1] r r (.seq (.block (.seq (.region (.skips 2 r (.nilS [4, 74, 73, 1] r r (.seq (.draw [some 0, some 1, some 2, some 3, some 4, some 5, some 6, some 7, some 8, some 9, some 10, some 11, some 12, some 13, some 14, some 15, some 16, some 17] 18 MX (by kernel_rfl) (by kernel_rfl) (by kernel_rfl) (by kernel_rfl) (by kernel_rfl) (by kernel_rfl) (by kernel_rfl) (fun ex => (pto b15 (.cells #[.int .i64 a0.Rows, .int .i64 a0.Cols, .slice p1 a0.At.length c2, .slice p4 a0.Start.length c5, .slice p7 a0.Row.length c8, .slice p10 a0.Val.length c11] 50 (0, 0))) :: ex) (fun _ _ => (.s .z)) r (.f [] r (by kernel_rfl) r r (fun ex => .fieldAddr underlying50 r sizeOf36 r (o := 4) r r r .mk) ?_)))))))))
   refine .f [0] r (by kernel_rfl) r r (fun ex => .load1 isAgg36 r .z r r r .mk) (.f [] r (by kernel_rfl) r r (fun ex => .fieldAddr underlying50 r sizeOf36 r (o := 3) r r r .mk) (.f [2] r (by kernel_rfl) r r (fun ex => .load1 isAgg36 r .z r r r .mk) (.fs [[]] r (by kernel_rfl) ?_)))
   obtain ⟨h183, x184, hx185, hd⟩ := hd
   obtain ⟨b186, o187, cs188, e189, hC190, hr191⟩ := R6.2 _ _ hx185
   cases hr191
   refine .f [3, 4] r (by kernel_rfl) r r (fun ex => .ixa underlying36 sizeOf3 r e189 r h183 (idx_lt hx185 h183) r r .mk) (.f [5] r (by kernel_rfl) r r (fun ex => .ld1 (j := 0) isAgg3 hC190 r r r r r .mk) (.f [] r (by kernel_rfl) r r (fun ex => .fieldAddr underlying50 r sizeOf36 r (o := 3) r r r .mk) (.f [7] r (by kernel_rfl) r r (fun ex => .load1 isAgg36 r .z r r r .mk) (.fs [[]] r (by kernel_rfl) (.f [9] r (by kernel_rfl) r r (fun ex => .add r r r r .mk) ?_)))))
   obtain ⟨h192, x193, hx194, hd⟩ := hd
   obtain ⟨b195, o196, cs197, e198, hC199, hr200⟩ := R6.2 _ _ hx194
   cases hr200
   refine .f [8, 10] r (by kernel_rfl) r r (fun ex => .ixa underlying36 sizeOf3 r e198 r h192 (idx_lt hx194 h192) r r .mk) (.f [11] r (by kernel_rfl) r r (fun ex => .ld1 (j := 0) isAgg3 hC199 r r r r r .mk) ?_)
   obtain ⟨h201, h202, h203, hd⟩ := hd
   have h209 : Int.toNat x184 ≤ Int.toNat x193 := by omega
   have h210 : Int.toNat x193 ≤ a0.Row.length := by omega
   obtain ⟨p204, c205, e207, e208, R206⟩ := RepSl.sliceW R9 (Int.toNat x184) (Int.toNat x193) c8 h209 h210 (.inl rfl)
   refine .f [1, 6, 12] r (by kernel_rfl) r r (fun ex => .sliceW (L := Int.toNat x184) (H := Int.toNat x193) (cm := c8) underlying36 sizeOf3 r r R9.1 r r r (.inr ⟨_, _, r, h201, r⟩) (.inr ⟨_, _, r, (by omega), r⟩) (.inl r) h209 h210 r e207 e208 r r .mk) (.f [] r (by kernel_rfl) r r (fun ex => .fieldAddr underlying50 r sizeOf3 r (o := 0) r r r .mk) (.f [14] r (by kernel_rfl) r r (fun ex => .load1 isAgg3 r .z r r r .mk) (.w [] [[], [15], [], [13], [12, 13], [11, 12, 13], [10, 11, 12, 13], [11, 12, 13], [8, 11, 12, 13], [13], [6, 13], [5, 6, 13], [5, 6, 13], [3, 5, 6, 13], [13], [1, 13]] [13, 15] r (by kernel_rfl) (by kernel_rfl) (by kernel_rfl) ((dropE_kept r r)) (.inr (dropE_kept r r)) fun ex => ?_)))
   have hw212 := W_dcsc_rising (I := I178) R206 hd
   refine .callP call163 r hw212 r r fun v213 hv214 => ?_
   obtain ⟨r211, rfl, hd⟩ := hv214
   refine .some (fun ex => (pto b15 (.cells #[.int .i64 a0.Rows, .int .i64 a0.Cols, .slice p1 a0.At.length c2, .slice p4 a0.Start.length c5, .slice p7 a0.Row.length c8, .slice p10 a0.Val.length c11] 50 (0, 0))) :: ex) r (fun _ _ => (.s .z)) r trivial (.f [16] r (by kernel_rfl) r r (fun ex => .not r r r .mk) (.e 18 (by kernel_rfl) (by kernel_rfl) (by kernel_rfl) (.nilS [94, 74, 73, 1] r r (.condP r hd (fun hb215 hd => ?_) fun hb215 hd => ?_))))
   · exact .seq (.region (.skips 1 r (.nilS [2] r r (.drop .z (.ret (pret results133 (.t r .n) le180 ⟨false, r, hd⟩))))))
   exact .skipS [74, 73, 1] r r (.region (.add r r r r (.sub (E' := [(1, _), (73, _), (95, _)]) ⟨r, r, r, trivial⟩ (.skips 1 r (.nil' fun c w ho hs => ⟨(w64 (s176 + 1)), hd, I178, le180, ho.sub ⟨r, r, r, trivial⟩, hs.pick (.c .z .n)⟩)))))
 exact .exitS [] r r (.drop .z (.seq (.region (.skips 1 r (.nilS [2] r r (.ret (pret results133 (.t r .n) le180 ⟨true, r, hd⟩)))))))

theorem W_dcsc_sure {I : IH} {a0 : Columns} {p1 : Option Addr} {c2 : Nat} {p4 : Option Addr} {c5 : Nat} {p7 : Option Addr} {c8 : Nat} {p10 : Option Addr} {c11 : Nat} {Q : Columns → Prop} (R3 : RepSl eI64 I p1 c2 a0.At) (R6 : RepSl eI64 I p4 c5 a0.Start) (R9 : RepSl eI64 I p7 c8 a0.Row) (R12 : RepSl eI64 I p10 c11 a0.Val) (hd : dcsc_sure a0 Q) :
    PFun Tryz.prog 104 [.agg #[.int .i64 a0.Rows, .int .i64 a0.Cols, .slice p1 a0.At.length c2, .slice p4 a0.Start.length c5, .slice p7 a0.Row.length c8, .slice p10 a0.Val.length c11]] I (fun I_ v => ∃ r p13 c14 p16 c17 p19 c20 p22 c23, v = .agg #[.int .i64 r.Rows, .int .i64 r.Cols, .slice p13 r.At.length c14, .slice p16 r.Start.length c17, .slice p19 r.Row.length c20, .slice p22 r.Val.length c23] ∧ RepSl eI64 I_ p13 c14 r.At ∧ RepSl eI64 I_ p16 c17 r.Start ∧ RepSl eI64 I_ p19 c20 r.Row ∧ RepSl eI64 I_ p22 c23 r.Val ∧ Q r) := by
 refine Fun.enter func104 r ntmps104 r (.c .n) fun w0 M => ?_
 refine .seq (.region (.boxA r r r fun b29 => ?_))
 refine .allocA zeroValue50 r r fun b31 => ?_
 refine .nilS [2, 1] r r (.seq (.seq (.region (.loadW isAgg50 sizeOf50 r (.s .z) r r r ?_))))
 have hw34 := W_dcsc_Right (I := I) R3 R6 R9 R12 hd
 refine .callP call133 r hw34 r r fun v35 hv36 => ?_
 obtain ⟨r33, rfl, hd⟩ := hv36
 refine .nilS [4, 2, 1] r r (.condP r hd (fun hb37 hd => ?_) fun hb37 hd => ?_)
 · exact .seq (.region (.loadW isAgg50 sizeOf50 r (.s .z) r r r (.storeA sizeOf50 r r .z (.t (.t (.t (.t (.t (.t .nil)))))) r r (.nilS [2] r r (.drop (.s .z) (.ret (pret results104 (.w isAgg50 sizeOf50 r .z r .n) (.refl _) ⟨a0, _, _, _, _, _, _, _, _, r, R3, R6, R9, R12, hd⟩)))))))
 refine .skipS [2] r r (.drop (.s .z) (.seq (.region ?_)))
 have hw60 := W_dcsc_none (I := I) hd
 refine .callO call61 r hw60 r r fun v42 I39 l43 hl40 hv41 => ?_
 obtain ⟨r38, p44, c45, p47, c48, p50, c51, p53, c54, rfl, rfl, hd⟩ := hv41
 have le61 := IH.le.trans (.refl _) hl40
 refine .storeA sizeOf50 r r (.s (.s (.s (.s .z)))) (.t (.t (.t (.t (.t (.t .nil)))))) r r (.nilS [2] r r (.pub .z fun I62 hl63 R64 => ?_))
 have le65 := IH.le.trans le61 hl63
 refine .pub .z fun I66 hl67 R68 => ?_
 have le69 := IH.le.trans le65 hl67
 replace R64 := R64.mono hl67
 refine .pub .z fun I70 hl71 R72 => ?_
 have le73 := IH.le.trans le69 hl71
 replace R64 := R64.mono hl71
 replace R68 := R68.mono hl71
 refine .pub .z fun I74 hl75 R76 => ?_
 have le77 := IH.le.trans le73 hl75
 replace R64 := R64.mono hl75
 replace R68 := R68.mono hl75
 replace R72 := R72.mono hl75
 exact .ret (pret results104 (.w isAgg50 sizeOf50 r .z r .n) le77 ⟨r38, _, _, _, _, _, _, _, _, r, R64, R68, R72, R76, hd⟩)

theorem W_dcsc_place {I : IH} {a0 : Columns} {a1 : Int} {p1 : Option Addr} {c2 : Nat} {p4 : Option Addr} {c5 : Nat} {p7 : Option Addr} {c8 : Nat} {p10 : Option Addr} {c11 : Nat} {Q : Int → Prop} (R3 : RepSl eI64 I p1 c2 a0.At) (R6 : RepSl eI64 I p4 c5 a0.Start) (R9 : RepSl eI64 I p7 c8 a0.Row) (R12 : RepSl eI64 I p10 c11 a0.Val) (hd : dcsc_place a0 a1 Q) :
    PFun Tryz.prog 105 [.agg #[.int .i64 a0.Rows, .int .i64 a0.Cols, .slice p1 a0.At.length c2, .slice p4 a0.Start.length c5, .slice p7 a0.Row.length c8, .slice p10 a0.Val.length c11], .int .i64 a1] I (fun I_ v => ∃ r, v = .int .i64 r ∧ Q r) := by
 refine Fun.enter func105 r ntmps105 r (.c (.c .n)) fun w0 M => ?_
 refine .seq (.region (.boxA r r r fun b15 => ?_))
 refine .skips 1 r (.nilS [2, 1] r r (.scope (.seq (.draw [some 0, some 1, some 2, some 3] 4 MX (by kernel_rfl) (by kernel_rfl) (by kernel_rfl) (by kernel_rfl) (by kernel_rfl) (by kernel_rfl) (by kernel_rfl) (fun ex => (pto b15 (.cells #[.int .i64 a0.Rows, .int .i64 a0.Cols, .slice p1 a0.At.length c2, .slice p4 a0.Start.length c5, .slice p7 a0.Row.length c8, .slice p10 a0.Val.length c11] 50 (0, 0))) :: ex) (fun _ _ => (.s .z)) r (.f [] r (by kernel_rfl) r r (fun ex => .fieldAddr underlying50 r sizeOf36 r (o := 2) r r r .mk) (.f [0] r (by kernel_rfl) r r (fun ex => .load1 isAgg36 r .z r r r .mk) (.f [1] r (by kernel_rfl) r r (fun ex => .len underlying36 r r r r .mk) (.fs [[]] r (by kernel_rfl) (.e 4 (by kernel_rfl) (by kernel_rfl) (by kernel_rfl) ?_)))))))))
 refine .skips 1 r (.nilS [6, 5, 2, 1] r r (.seq (.labelS [6, 5, 2, 1] r r (.seq ?_))))
 refine Cod.joinQ (σ := Int × Int) hd (fun (s : Int × Int) c w => match s with | (s227, s228) => ∃ I_, IH.le I I_ ∧ Ok ⟨44, [], none⟩ [(5, .int .i64 s227), (6, .int .i64 s228)] c ∧ Sym w0 M I I_ [] w) (fun k229 hd => ?_) ?_
 · skip
   refine .block (.loop hd (fun (s : Int × Int) c w => match s with | (s298, s299) => ∃ I_, IH.le I I_ ∧ Ok ⟨44, [], none⟩ [(1, .int .i64 a1), (2, .pointer (some ⟨b15, 0, none⟩)), (5, .int .i64 s298), (6, .int .i64 s299)] c ∧ Sym w0 M I I_ [pto b15 (.cells #[.int .i64 a0.Rows, .int .i64 a0.Cols, .slice p1 a0.At.length c2, .slice p4 a0.Start.length c5, .slice p7 a0.Row.length c8, .slice p10 a0.Val.length c11] 50 (0, 0))] w) (fun c w ho hs => ⟨I, (.refl _), ho.sub ⟨r, r, r, r, trivial⟩, hs.pick (.c .z .n)⟩) ?_)
   rintro ⟨s298, s299⟩ next300 hd c w hst
   obtain ⟨I301, hl302, hok, hsym⟩ := hst
   have le303 := IH.le.trans (.refl _) hl302
   replace R3 := R3.mono hl302
   replace R6 := R6.mono hl302
   replace R9 := R9.mono hl302
   replace R12 := R12.mono hl302
   refine Cod.at hok hsym (.seq (.seq (.region (.skips 2 r (.lt r r r r (.nilS [13, 6, 5, 2, 1] r r (.condP r hd (fun hb305 hd => ?_) fun hb305 hd => ?_)))))))
   · refine .skipS [6, 5, 2, 1] r r (.block (.seq (.region (.skips 3 r (.sub' r r r r (.quo r r (by decide) r r (.add r r r r (.skips 1 r (.nilS [7, 6, 5, 2, 1] r r ?_)))))))))
     refine .block (.seq (.region (.fieldAddr underlying50 r sizeOf36 r (o := 2) r r r (.load1 isAgg36 r .z r r r (.skips 1 r ?_)))))
     obtain ⟨h315, x316, hx317, hd⟩ := hd
     obtain ⟨b318, o319, cs320, e321, hC322, hr323⟩ := R3.2 _ _ hx317
     cases hr323
     refine .ixa underlying36 sizeOf3 r e321 r h315 (idx_lt hx317 h315) r r (.ld1 (j := 0) isAgg3 hC322 r r r r r (.skips 1 r (.eq r r r r (.skips 1 r (.nilS [21, 7, 6, 5, 2, 1] r r (.condP r hd (fun hb324 hd => ?_) fun hb324 hd => ?_))))))
     · exact .seq (.region (.skips 1 r (.sub (E' := [(1, _), (2, _), (6, _), (7, _), (21, _), (29, _)]) ⟨r, r, r, r, r, r, trivial⟩ (.skips 1 r (.nilS [5, 6] r r (.drop .z (.exit fun c w ho hs => ⟨(w64 (s298 + (w64 ((w64 (s299 - s298)).tdiv 2))), s299), hd, I301, le303, ho.sub ⟨r, r, trivial⟩, hs.pick .n⟩)))))))
     refine .seq (.region (.fieldAddr underlying50 r sizeOf36 r (o := 2) r r r (.load1 isAgg36 r .z r r r (.skips 1 r ?_))))
     obtain ⟨h325, x326, hx327, hd⟩ := hd
     obtain ⟨b328, o329, cs330, e331, hC332, hr333⟩ := R3.2 _ _ hx327
     cases hr333
     refine .ixa underlying36 sizeOf3 r e331 r h325 (idx_lt hx327 h325) r r (.ld1 (j := 0) isAgg3 hC332 r r r r r (.skips 1 r (.lt r r r r (.skips 1 r (.nilS [30, 7, 6, 5, 2, 1] r r (.condP r hd (fun hb334 hd => ?_) fun hb334 hd => ?_))))))
     · exact .region (.skips 1 r (.add r r r r (.sub (E' := [(1, _), (2, _), (6, _), (7, _), (30, _), (38, _), (39, _)]) ⟨r, r, r, r, r, r, r, trivial⟩ (.skips 1 r (.nil' fun c w ho hs => ⟨(w64 ((w64 (s298 + (w64 ((w64 (s299 - s298)).tdiv 2)))) + 1), s299), hd, I301, le303, ho.sub ⟨r, r, r, r, trivial⟩, hs.pick (.c .z .n)⟩)))))
     exact .region (.skips 1 r (.sub (E' := [(1, _), (2, _), (5, _), (7, _), (30, _), (20, _)]) ⟨r, r, r, r, r, r, trivial⟩ (.skips 1 r (.nil' fun c w ho hs => ⟨(s298, w64 (s298 + (w64 ((w64 (s299 - s298)).tdiv 2)))), hd, I301, le303, ho.sub ⟨r, r, r, r, trivial⟩, hs.pick (.c .z .n)⟩))))
   exact .exit fun c w ho hs => ⟨(s298, s299), hd, I301, le303, ho.sub ⟨r, r, trivial⟩, hs.pick .n⟩
 rintro ⟨s227, s228⟩ hd c w hst
 obtain ⟨I335, hl336, hok, hsym⟩ := hst
 have le337 := IH.le.trans (.refl _) hl336
 refine Cod.at hok hsym (.seq (.seq (.region (.skips 2 r (.lt r r r r (.nilS [42, 5] r r (.condP r hd (fun hb338 hd => ?_) fun hb338 hd => ?_)))))))
 · exact .seq (.region (.skips 2 r (.nilS [4] r r (.ret (pret results105 (.t r .n) le337 ⟨s227, r, hd⟩)))))
 exact .skipS [] r r (.seq (.region (.skips 1 r (.nilS [4] r r (.ret (pret results105 (.t r .n) le337 ⟨(-1), r, hd⟩))))))

theorem W_dcsc_Work {I : IH} {a0 : Columns} {a1 : List Int} {p1 : Option Addr} {c2 : Nat} {p4 : Option Addr} {c5 : Nat} {p7 : Option Addr} {c8 : Nat} {p10 : Option Addr} {c11 : Nat} {p13 : Option Addr} {c14 : Nat} {Q : Int → Prop} (R3 : RepSl eI64 I p1 c2 a0.At) (R6 : RepSl eI64 I p4 c5 a0.Start) (R9 : RepSl eI64 I p7 c8 a0.Row) (R12 : RepSl eI64 I p10 c11 a0.Val) (R15 : RepSl eI64 I p13 c14 a1) (hd : dcsc_Work a0 a1 Q) :
    PFun Tryz.prog 71 [.agg #[.int .i64 a0.Rows, .int .i64 a0.Cols, .slice p1 a0.At.length c2, .slice p4 a0.Start.length c5, .slice p7 a0.Row.length c8, .slice p10 a0.Val.length c11], .slice p13 a1.length c14] I (fun I_ v => ∃ r, v = .int .i64 r ∧ Q r) := by
 refine Fun.enter func71 r ntmps71 r (.c (.c .n)) fun w0 M => ?_
 refine .seq (.region (.boxA r r r fun b18 => ?_))
 refine .skips 1 r (.nilS [2, 1] r r (.seq (.region (.loadW isAgg50 sizeOf50 r .z r r r ?_))))
 have hw58 := W_dcsc_sure (I := I) R3 R6 R9 R12 hd
 refine .call call104 r hw58 r r fun v44 I41 hl42 hv43 => ?_
 obtain ⟨r40, p46, c47, p49, c50, p52, c53, p55, c56, rfl, R48, R51, R54, R57, hd⟩ := hv43
 have le59 := IH.le.trans (.refl _) hl42
 replace R3 := R3.mono hl42
 replace R6 := R6.mono hl42
 replace R9 := R9.mono hl42
 replace R12 := R12.mono hl42
 replace R15 := R15.mono hl42
 refine .storeA sizeOf50 r r .z (.t (.t (.t (.t (.t (.t .nil)))))) r r (.nilS [2, 1] r r (.seq (.region (.skips 1 r (.nilS [5, 2, 1] r r (.seq (.seq (.region (.skips 1 r ?_)))))))))
 refine .len underlying36 r r r r (.skips 1 r (.nilS [13, 12, 11, 5, 2] r r (.block (.loop hd (fun (s : Int × Int) c w => match s with | (s160, s161) => ∃ I_, IH.le I41 I_ ∧ Ok ⟨38, [], none⟩ [(2, .pointer (some ⟨b18, 0, none⟩)), (5, .int .i64 s160), (11, .slice p13 a1.length c14), (12, .int .i64 (a1.length : Int)), (13, .int .i64 s161)] c ∧ Sym w0 M I I_ [pto b18 (.cells #[.int .i64 r40.Rows, .int .i64 r40.Cols, .slice p46 r40.At.length c47, .slice p49 r40.Start.length c50, .slice p52 r40.Row.length c53, .slice p55 r40.Val.length c56] 50 (0, 0))] w) (fun c w ho hs => ⟨I41, (.refl _), ho.sub ⟨r, r, r, r, r, trivial⟩, hs.pick (.c .z .n)⟩) ?_))))
 rintro ⟨s160, s161⟩ next162 hd c w hst
 obtain ⟨I163, hl164, hok, hsym⟩ := hst
 have le165 := IH.le.trans le59 hl164
 have le166 := IH.le.trans (.refl _) hl164
 replace R15 := R15.mono hl164
 replace R48 := R48.mono hl164
 replace R51 := R51.mono hl164
 replace R54 := R54.mono hl164
 replace R57 := R57.mono hl164
 refine Cod.at hok hsym (.seq (.region (.lt r r r r (.nilS [14, 13, 12, 11, 5, 2] r r (.seq (.condP r hd (fun hb168 hd => ?_) fun hb168 hd => ?_))))))
 · refine .skipS [13, 12, 11, 5, 2] r r (.seq (.block (.seq (.region ?_))))
   obtain ⟨h178, x179, hx180, hd⟩ := hd
   obtain ⟨b181, o182, cs183, e184, hC185, hr186⟩ := R15.2 _ _ hx180
   cases hr186
   refine .ixa underlying36 sizeOf3 r e184 r h178 (idx_lt hx180 h178) r r (.ld1 (j := 0) isAgg3 hC185 r r r r r (.skips 1 r (.nilS [7, 13, 12, 11, 5, 2] r r (.seq (.region (.loadW isAgg50 sizeOf50 r .z r r r (.skips 1 r ?_)))))))
   have hw192 := W_dcsc_place (I := I163) R48 R51 R54 R57 hd
   refine .callP call105 r hw192 r r fun v193 hv194 => ?_
   obtain ⟨r191, rfl, hd⟩ := hv194
   refine .skips 1 r (.nilS [8, 13, 12, 11, 5, 2] r r (.seq (.region (.skips 1 r (.ge r r r r (.nilS [21, 8, 13, 12, 11, 5, 2] r r (.condP r hd (fun hb195 hd => ?_) fun hb195 hd => ?_)))))))
   · refine .draw [some 0, some 1, some 2, some 3, some 4, some 5, some 6, some 7, some 8, some 9, some 10, some 11, some 12, some 13] 14 MX (by kernel_rfl) (by kernel_rfl) (by kernel_rfl) (by kernel_rfl) (by kernel_rfl) (by kernel_rfl) (by kernel_rfl) (fun ex => (pto b18 (.cells #[.int .i64 r40.Rows, .int .i64 r40.Cols, .slice p46 r40.At.length c47, .slice p49 r40.Start.length c50, .slice p52 r40.Row.length c53, .slice p55 r40.Val.length c56] 50 (0, 0))) :: ex) (fun _ _ => (.s .z)) r (.fs [[]] r (by kernel_rfl) (.f [] r (by kernel_rfl) r r (fun ex => .fieldAddr underlying50 r sizeOf36 r (o := 3) r r r .mk) (.f [1] r (by kernel_rfl) r r (fun ex => .load1 isAgg36 r .z r r r .mk) (.fs [[]] r (by kernel_rfl) (.f [3] r (by kernel_rfl) r r (fun ex => .add r r r r .mk) ?_)))))
     obtain ⟨h196, x197, hx198, hd⟩ := hd
     obtain ⟨b199, o200, cs201, e202, hC203, hr204⟩ := R51.2 _ _ hx198
     cases hr204
     refine .f [2, 4] r (by kernel_rfl) r r (fun ex => .ixa underlying36 sizeOf3 r e202 r h196 (idx_lt hx198 h196) r r .mk) (.f [5] r (by kernel_rfl) r r (fun ex => .ld1 (j := 0) isAgg3 hC203 r r r r r .mk) (.f [] r (by kernel_rfl) r r (fun ex => .fieldAddr underlying50 r sizeOf36 r (o := 3) r r r .mk) (.f [7] r (by kernel_rfl) r r (fun ex => .load1 isAgg36 r .z r r r .mk) (.fs [[]] r (by kernel_rfl) ?_))))
     obtain ⟨h205, x206, hx207, hd⟩ := hd
     obtain ⟨b208, o209, cs210, e211, hC212, hr213⟩ := R51.2 _ _ hx207
     cases hr213
     refine .f [8, 9] r (by kernel_rfl) r r (fun ex => .ixa underlying36 sizeOf3 r e211 r h205 (idx_lt hx207 h205) r r .mk) (.f [10] r (by kernel_rfl) r r (fun ex => .ld1 (j := 0) isAgg3 hC212 r r r r r .mk) (.f [6, 11] r (by kernel_rfl) r r (fun ex => .sub' r r r r .mk) (.f [0, 12] r (by kernel_rfl) r r (fun ex => .add r r r r .mk) (.e 14 (by kernel_rfl) (by kernel_rfl) (by kernel_rfl) (.sub (E' := [(2, _), (11, _), (12, _), (13, _), (8, _), (21, _), (22, _), (23, _), (24, _), (25, _), (26, _), (27, _), (28, _), (29, _), (30, _), (31, _), (32, _), (33, _), (34, _), (35, _)]) ⟨r, r, r, r, r, r, r, r, r, r, r, r, r, r, r, r, r, r, r, r, trivial⟩ (.skips 1 r (.nilS [5, 13, 12, 11, 2] r r (.region (.add r r r r ?_)))))))))
     exact .sub (E' := [(2, _), (11, _), (12, _), (5, _), (36, _)]) ⟨r, r, r, r, r, trivial⟩ (.skips 1 r (.nil' fun c w ho hs => ⟨(w64 (s160 + (w64 (x197 - x206))), w64 (s161 + 1)), hd, I163, le166, ho.sub ⟨r, r, r, r, r, trivial⟩, hs.pick (.c .z .n)⟩))
   exact .skipS [13, 12, 11, 5, 2] r r (.region (.add r r r r (.sub (E' := [(2, _), (5, _), (11, _), (12, _), (36, _)]) ⟨r, r, r, r, r, trivial⟩ (.skips 1 r (.nil' fun c w ho hs => ⟨(s160, w64 (s161 + 1)), hd, I163, le166, ho.sub ⟨r, r, r, r, r, trivial⟩, hs.pick (.c .z .n)⟩)))))
 exact .exitS [5] r r (.drop .z (.seq (.region (.skips 2 r (.nilS [4] r r (.ret (pret results71 (.t r .n) le165 ⟨s160, r, hd⟩)))))))

theorem W_spvec_sure {I : IH} {a0 : Vec} {p1 : Option Addr} {c2 : Nat} {Q : Vec → Prop} (R3 : RepSl eItem I p1 c2 a0.Items) (hd : spvec_sure a0 Q) :
    PFun Tryz.prog 106 [.agg #[.int .i64 a0.N, .slice p1 a0.Items.length c2]] I (fun I_ v => ∃ r p4 c5, v = .agg #[.int .i64 r.N, .slice p4 r.Items.length c5] ∧ RepSl eItem I_ p4 c5 r.Items ∧ Q r) := by
 refine Fun.enter func106 r ntmps106 r (.c .n) fun w0 M => ?_
 refine .seq (.region (.boxA r r r fun b11 => ?_))
 refine .allocA zeroValue42 r r fun b13 => ?_
 refine .nilS [2, 1] r r (.seq (.seq (.region (.loadW isAgg42 sizeOf42 r (.s .z) r r r ?_))))
 have hw16 := W_spvec_Right (I := I) R3 hd
 refine .callP call54 r hw16 r r fun v17 hv18 => ?_
 obtain ⟨r15, rfl, hd⟩ := hv18
 refine .nilS [4, 2, 1] r r (.condP r hd (fun hb19 hd => ?_) fun hb19 hd => ?_)
 · exact .seq (.region (.loadW isAgg42 sizeOf42 r (.s .z) r r r (.storeA sizeOf42 r r .z (.t (.t .nil)) r r (.nilS [2] r r (.drop (.s .z) (.ret (pret results106 (.w isAgg42 sizeOf42 r .z r .n) (.refl _) ⟨a0, _, _, r, R3, hd⟩)))))))
 exact .skipS [2] r r (.drop (.s .z) (.seq (.region (.build zeroValue42 underlying42 BI42 .n (by exact trivial) r r (.storeA sizeOf42 r r .z (.t (.t .nil)) r r (.nilS [2] r r (.ret (pret results106 (.w isAgg42 sizeOf42 r .z r .n) (.refl _) ⟨({ N := 0, Items := ([] : List Item) } : Vec), _, _, r, (.nil _ _ _), hd⟩))))))))

theorem W_spvec_Places {I : IH} {a0 : Vec} {p1 : Option Addr} {c2 : Nat} {Q : (List Int) → Prop} (R3 : RepSl eItem I p1 c2 a0.Items) (hd : spvec_Places a0 Q) :
    PFun Tryz.prog 72 [.agg #[.int .i64 a0.N, .slice p1 a0.Items.length c2]] I (fun I_ v => ∃ r p4 c5, v = .slice p4 r.length c5 ∧ RepSl eI64 I_ p4 c5 r ∧ Q r) := by
 refine Fun.enter func72 r ntmps72 r (.c .n) fun w0 M => ?_
 refine .seq (.region (.boxA r r r fun b9 => ?_))
 refine .skips 1 r (.nilS [1] r r (.seq (.region (.skips 1 r (.nilS [3, 1] r r (.seq (.seq (.region (.loadW isAgg42 sizeOf42 r .z r r r ?_)))))))))
 have hw31 := W_spvec_sure (I := I) R3 hd
 refine .call call106 r hw31 r r fun v26 I23 hl24 hv25 => ?_
 obtain ⟨r22, p28, c29, rfl, R30, hd⟩ := hv25
 have le32 := IH.le.trans (.refl _) hl24
 replace R3 := R3.mono hl24
 refine .field1 underlying42 r isAgg32 r r r r (.len underlying32 r r r r (.skips 1 r (.nilS [10, 9, 8, 3] r r (.drop .z (.block (.own0 eI64 3 (.loop hd (fun (s : (List Int) × Int) c w => match s with | (s87, s91) => ∃ I_ p88 c89, IH.le I23 I_ ∧ Ok ⟨21, [], none⟩ [(3, .slice p88 s87.length c89), (8, .slice p28 r22.Items.length c29), (9, .int .i64 (r22.Items.length : Int)), (10, .int .i64 s91)] c ∧ Sym w0 M I I_ [OwnSl eI64 3 p88 c89 s87] w) (fun c w ho hs => ⟨I23, _, _, (.refl _), ho.sub ⟨r, r, r, r, trivial⟩, hs.pick (.c .z .n)⟩) ?_)))))))
 rintro ⟨s87, s91⟩ next93 hd c w hst
 obtain ⟨I94, p88, c89, hl95, hok, hsym⟩ := hst
 have le96 := IH.le.trans le32 hl95
 have le97 := IH.le.trans (.refl _) hl95
 replace R30 := R30.mono hl95
 refine Cod.at hok hsym (.seq (.region (.lt r r r r (.nilS [11, 10, 9, 8, 3] r r (.seq (.condP r hd (fun hb99 hd => ?_) fun hb99 hd => ?_))))))
 · refine .skipS [10, 9, 8, 3] r r (.seq (.block (.seq (.region ?_))))
   obtain ⟨h100, x101, hx102, hd⟩ := hd
   obtain ⟨b103, o104, cs105, e106, hC107, hr108⟩ := R30.2 _ _ hx102
   cases hr108
   refine .ixa underlying32 sizeOf80 r e106 r h100 (idx_lt hx102 h100) r r (.ldW isAgg80 sizeOf80 hC107 r r r r (.allocA zeroValue80 r r fun b109 => ?_))
   refine .storeA sizeOf80 r r .z (.t (.t .nil)) r r (.nilS [5, 10, 9, 8, 3] r r (.region (.skips 1 r (.fieldAddr underlying80 r sizeOf3 r (o := 0) r r r (.load1 isAgg3 r .z r r r (.buildSlice 1 underlying36 sizeOf3 zeroValue3 r r (.c r r r .n) r r fun b111 => ?_))))))
   obtain ⟨hl113, hd⟩ := hd
   refine .append (ys := [x101.At]) 8 (.s (.s .z)) underlying36 underlying36 IN3 r r r r r r r r r (.box .z (.one r) r) hl113 r r fun p114 c115 => ?_
   exact .sub (E' := [(8, _), (9, _), (10, _), (5, _), (14, _), (15, _), (16, _), (17, _), (18, _)]) ⟨r, r, r, r, r, r, r, r, r, trivial⟩ (.skips 1 r (.nilS [3, 10, 9, 8] r r (.drop (.s .z) (.drop (.s .z) (.region (.add r r r r (.sub (E' := [(8, _), (9, _), (3, _), (19, _)]) ⟨r, r, r, r, trivial⟩ (.skips 1 r (.nil' fun c w ho hs => ⟨((s87 ++ ([x101.At])), w64 (s91 + 1)), hd, I94, _, _, le97, ho.sub ⟨r, r, r, r, trivial⟩, hs.pick (.c .z .n)⟩)))))))))
 refine .exitS [3] r r (.seq (.region (.skips 2 r (.nilS [2] r r (.pub .z fun I117 hl118 R119 => ?_)))))
 have le120 := IH.le.trans le96 hl118
 have le121 := IH.le.trans le97 hl118
 exact .ret (pret results72 (.t r .n) le120 ⟨s87, _, _, r, R119, hd⟩)

theorem W_push_Work {I : IH} {a0 : Columns} {a1 : Vec} {p1 : Option Addr} {c2 : Nat} {p4 : Option Addr} {c5 : Nat} {p7 : Option Addr} {c8 : Nat} {p10 : Option Addr} {c11 : Nat} {p13 : Option Addr} {c14 : Nat} {Q : Int → Prop} (R3 : RepSl eI64 I p1 c2 a0.At) (R6 : RepSl eI64 I p4 c5 a0.Start) (R9 : RepSl eI64 I p7 c8 a0.Row) (R12 : RepSl eI64 I p10 c11 a0.Val) (R15 : RepSl eItem I p13 c14 a1.Items) (hd : push_Work a0 a1 Q) :
    PFun Tryz.prog 38 [.agg #[.int .i64 a0.Rows, .int .i64 a0.Cols, .slice p1 a0.At.length c2, .slice p4 a0.Start.length c5, .slice p7 a0.Row.length c8, .slice p10 a0.Val.length c11], .agg #[.int .i64 a1.N, .slice p13 a1.Items.length c14]] I (fun I_ v => ∃ r, v = .int .i64 r ∧ Q r) := by
 refine Fun.enter func38 r ntmps38 r (.c (.c .n)) fun w0 M => ?_
 refine .seq (.region (.boxA r r r fun b16 => ?_))
 refine .boxA r r r fun b18 => ?_
 refine .skips 1 r (.nilS [3, 2] r r (.seq (.draw [some 0, some 1, some 2, some 3] 4 MX (by kernel_rfl) (by kernel_rfl) (by kernel_rfl) (by kernel_rfl) (by kernel_rfl) (by kernel_rfl) (by kernel_rfl) (fun ex => (pto b18 (.cells #[.int .i64 a1.N, .slice p13 a1.Items.length c14] 42 (0, 0))) :: (pto b16 (.cells #[.int .i64 a0.Rows, .int .i64 a0.Cols, .slice p1 a0.At.length c2, .slice p4 a0.Start.length c5, .slice p7 a0.Row.length c8, .slice p10 a0.Val.length c11] 50 (0, 0))) :: ex) (fun _ _ => (.s (.s .z))) r (.f [] r (by kernel_rfl) r r (fun ex => .loadW isAgg50 sizeOf50 r (.s .z) r r r .mk) (.f [] r (by kernel_rfl) r r (fun ex => .loadW isAgg42 sizeOf42 r .z r r r .mk) (.w [0] [[]] [1] r (by kernel_rfl) (by kernel_rfl) (by kernel_rfl) ((dropE_kept r r)) (.inr (dropE_kept r r)) fun ex => ?_))))))
 have hw29 := W_spvec_Places (I := I) R15 hd
 refine .call call72 r hw29 r r fun v24 I21 hl22 hv23 => ?_
 obtain ⟨r20, p26, c27, rfl, R28, hd⟩ := hv23
 have le30 := IH.le.trans (.refl _) hl22
 replace R3 := R3.mono hl22
 replace R6 := R6.mono hl22
 replace R9 := R9.mono hl22
 replace R12 := R12.mono hl22
 replace R15 := R15.mono hl22
 refine .some (fun ex => (pto b18 (.cells #[.int .i64 a1.N, .slice p13 a1.Items.length c14] 42 (0, 0))) :: (pto b16 (.cells #[.int .i64 a0.Rows, .int .i64 a0.Cols, .slice p1 a0.At.length c2, .slice p4 a0.Start.length c5, .slice p7 a0.Row.length c8, .slice p10 a0.Val.length c11] 50 (0, 0))) :: ex) r (fun _ _ => (.s (.s .z))) r (.cc [] r (by kernel_rfl) r r r (fun ex => .loadW isAgg50 sizeOf50 r (.s .z) r r r .mk) trivial) (.w [] [[]] [0, 2, 2] r (by kernel_rfl) (by kernel_rfl) (by kernel_rfl) ((dropE_kept r r)) (.inr (dropE_kept r r)) fun ex => ?_)
 have hw32 := W_dcsc_Work (I := I21) R3 R6 R9 R12 R28 hd
 refine .callP call71 r hw32 r r fun v33 hv34 => ?_
 obtain ⟨r31, rfl, hd⟩ := hv34
 exact .some (fun ex => (pto b18 (.cells #[.int .i64 a1.N, .slice p13 a1.Items.length c14] 42 (0, 0))) :: (pto b16 (.cells #[.int .i64 a0.Rows, .int .i64 a0.Cols, .slice p1 a0.At.length c2, .slice p4 a0.Start.length c5, .slice p7 a0.Row.length c8, .slice p10 a0.Val.length c11] 50 (0, 0))) :: ex) r (fun _ _ => (.s (.s .z))) r trivial (.e 4 (by kernel_rfl) (by kernel_rfl) (by kernel_rfl) (.skips 1 r (.nilS [4] r r (.drop .z (.drop .z (.ret (pret results38 (.t r .n) le30 ⟨r31, r, hd⟩)))))))

theorem W_csr_within {I : IH} {a0 : Int} {a1 : Int}  {Q : Bool → Prop}  (hd : csr_within a0 a1 Q) :
    PFun Tryz.prog 94 [.int .i64 a0, .int .i64 a1] I (fun I_ v => ∃ r, v = .bool r ∧ Q r) := by
 refine Fun.enter func94 r ntmps94 r (.c (.c .n)) fun w0 M => ?_
 refine .seq (.region (.skips 1 r (.nilS [1, 0] r r (.seq (.region (.skips 1 r (.ge r r r r (.skips 1 r ?_))))))))
 refine splitP hd (fun hb1 hd => ?_) fun hb1 hd => ?_
 · rw [hb1]
   exact .gyes r r r (.move r r r (.gyes r r r (.move r r r (.gyes r r r (.le' r r r r (.skips 2 r (.nilS [4] r r (.ret (pret results94 (.t r .n) (.refl _) ⟨(decide (a0 ≤ a1)), r, hd⟩)))))))))
 rw [hb1]
 exact .skips 5 r (.nilS [4] r r (.ret (pret results94 (.t r .n) (.refl _) ⟨false, r, hd⟩)))

theorem W_cmp_isNaN_int {I : IH} {a0 : Int}  {Q : Bool → Prop}  (hd : cmp_isNaN_int a0 Q) :
    PFun Tryz.prog 150 [.int .i64 a0] I (fun I_ v => ∃ r, v = .bool r ∧ Q r) := by
 refine Fun.enter func150 r ntmps150 r (.c .n) fun w0 M => ?_
 refine .seq (.region (.skips 1 r (.nilS [0] r r (.seq (.region (.skips 2 r (.ne r r r r (.skips 1 r (.nilS [2] r r ?_)))))))))
 exact .ret (pret results150 (.t r .n) (.refl _) ⟨(a0 != a0), r, hd⟩)

theorem W_cmp_Less_int {I : IH} {a0 : Int} {a1 : Int}  {Q : Bool → Prop}  (hd : cmp_Less_int a0 a1 Q) :
    PFun Tryz.prog 127 [.int .i64 a0, .int .i64 a1] I (fun I_ v => ∃ r, v = .bool r ∧ Q r) := by
 refine Fun.enter func127 r ntmps127 r (.c (.c .n)) fun w0 M => ?_
 refine .seq (.region (.skips 1 r (.nilS [1, 0] r r (.seq (.region (.skips 1 r ?_))))))
 have hw2 := W_cmp_isNaN_int (I := I) hd
 refine .callP call150 r hw2 r r fun v3 hv4 => ?_
 obtain ⟨r1, rfl, hd⟩ := hv4
 refine .skips 1 r ?_
 refine splitP hd (fun hb5 hd => ?_) fun hb5 hd => ?_
 · rw [hb5]
   refine .gyes r r r (.move r r r ?_)
   have hw7 := W_cmp_isNaN_int (I := I) hd
   refine .gyes r r r (.callP call150 r hw7 r r fun v8 hv9 => ?_)
   obtain ⟨r6, rfl, hd⟩ := hv9
   refine .gyes r r r (.not r r r (.skips 2 r ?_))
   refine splitP hd (fun hb10 hd => ?_) fun hb10 hd => ?_
   · rw [hb10]
     exact .skips 5 r (.nilS [4] r r (.ret (pret results127 (.t r .n) (.refl _) ⟨true, r, hd⟩)))
   rw [hb10]
   exact .gyes r r r (.move r r r (.gyes r r r (.move r r r (.gyes r r r (.lt r r r r (.skips 2 r (.nilS [4] r r (.ret (pret results127 (.t r .n) (.refl _) ⟨(decide (a0 < a1)), r, hd⟩)))))))))
 rw [hb5]
 exact .skips 5 r (.gyes r r r (.move r r r (.gyes r r r (.move r r r (.gyes r r r (.lt r r r r (.skips 2 r (.nilS [4] r r (.ret (pret results127 (.t r .n) (.refl _) ⟨(decide (a0 < a1)), r, hd⟩))))))))))

theorem W_slices_IsSorted_int_int {I : IH} {a0 : List Int} {p1 : Option Addr} {c2 : Nat} {Q : Bool → Prop} (R3 : RepSl eI64 I p1 c2 a0) (hd : slices_IsSorted_int_int a0 Q) :
    PFun Tryz.prog 95 [.slice p1 a0.length c2] I (fun I_ v => ∃ r, v = .bool r ∧ Q r) := by
 refine Fun.enter func95 r ntmps95 r (.c .n) fun w0 M => ?_
 refine .seq (.region (.skips 1 r (.nilS [0] r r (.seq (.seq (.region (.skips 1 r (.len underlying36 r r r r (.sub' r r r r ?_)))))))))
 refine .skips 1 r (.nilS [3, 0] r r (.block (.loop hd (fun (s57 : Int) c w => ∃ I_, IH.le I I_ ∧ Ok ⟨21, [], none⟩ [(0, .slice p1 a0.length c2), (3, .int .i64 s57)] c ∧ Sym w0 M I I_ [] w) (fun c w ho hs => ⟨I, (.refl _), ho.sub ⟨r, r, trivial⟩, hs.pick .n⟩) ?_)))
 rintro s57 next58 hd c w hst
 obtain ⟨I59, hl60, hok, hsym⟩ := hst
 have le61 := IH.le.trans (.refl _) hl60
 replace R3 := R3.mono hl60
 refine Cod.at hok hsym (.seq (.seq (.region (.skips 1 r (.gt r r r r (.nilS [8, 3, 0] r r (.condP r hd (fun hb63 hd => ?_) fun hb63 hd => ?_)))))))
 · refine .skipS [3, 0] r r (.seq (.block (.seq (.draw [some 0, some 1, some 2, some 3, some 4, some 5, some 6, some 7, some 8, some 9] 10 MX (by kernel_rfl) (by kernel_rfl) (by kernel_rfl) (by kernel_rfl) (by kernel_rfl) (by kernel_rfl) (by kernel_rfl) (fun ex => ex) (fun _ _ => .z) r (.fs [[], []] r (by kernel_rfl) ?_)))))
   obtain ⟨h64, x65, hx66, hd⟩ := hd
   obtain ⟨b67, o68, cs69, e70, hC71, hr72⟩ := R3.2 _ _ hx66
   cases hr72
   refine .f [0, 1] r (by kernel_rfl) r r (fun ex => .ixa underlying36 sizeOf3 r e70 r h64 (idx_lt hx66 h64) r r .mk) (.f [2] r (by kernel_rfl) r r (fun ex => .ld1 (j := 0) isAgg3 hC71 r r r r r .mk) (.fs [[], []] r (by kernel_rfl) (.f [5] r (by kernel_rfl) r r (fun ex => .sub' r r r r .mk) ?_)))
   obtain ⟨h73, x74, hx75, hd⟩ := hd
   obtain ⟨b76, o77, cs78, e79, hC80, hr81⟩ := R3.2 _ _ hx75
   cases hr81
   refine .f [4, 6] r (by kernel_rfl) r r (fun ex => .ixa underlying36 sizeOf3 r e79 r h73 (idx_lt hx75 h73) r r .mk) (.f [7] r (by kernel_rfl) r r (fun ex => .ld1 (j := 0) isAgg3 hC80 r r r r r .mk) (.w [] [[], [8], [7, 8], [6, 7, 8], [7, 8], [], [3], [2, 3], [2, 3]] [3, 8] r (by kernel_rfl) (by kernel_rfl) (by kernel_rfl) ((dropE_kept r r)) (.inr (dropE_kept r r)) fun ex => ?_))
   have hw83 := W_cmp_Less_int (I := I59) hd
   refine .callP call127 r hw83 r r fun v84 hv85 => ?_
   obtain ⟨r82, rfl, hd⟩ := hv85
   refine .some (fun ex => ex) r (fun _ _ => .z) r trivial (.e 10 (by kernel_rfl) (by kernel_rfl) (by kernel_rfl) (.nilS [20, 3, 0] r r (.condP r hd (fun hb86 hd => ?_) fun hb86 hd => ?_)))
   · exact .seq (.region (.skips 1 r (.nilS [2] r r (.ret (pret results95 (.t r .n) le61 ⟨false, r, hd⟩)))))
   exact .skipS [3, 0] r r (.region (.skips 1 r (.sub' r r r r (.sub (E' := [(0, _), (9, _), (10, _)]) ⟨r, r, r, trivial⟩ (.skips 1 r (.nil' fun c w ho hs => ⟨(w64 (s57 - 1)), hd, I59, le61, ho.sub ⟨r, r, trivial⟩, hs.pick .n⟩))))))
 exact .exitS [] r r (.seq (.region (.skips 1 r (.nilS [2] r r (.ret (pret results95 (.t r .n) le61 ⟨true, r, hd⟩))))))

theorem W_csr_row {I : IH} {a0 : List Int} {a1 : Int} {p1 : Option Addr} {c2 : Nat} {Q : Bool → Prop} (R3 : RepSl eI64 I p1 c2 a0) (hd : csr_row a0 a1 Q) :
    PFun Tryz.prog 96 [.slice p1 a0.length c2, .int .i64 a1] I (fun I_ v => ∃ r, v = .bool r ∧ Q r) := by
 refine Fun.enter func96 r ntmps96 r (.c (.c .n)) fun w0 M => ?_
 refine .seq (.region (.skips 1 r (.nilS [1, 0] r r (.seq (.seq (.region (.skips 1 r (.len underlying36 r r r r (.skips 1 r ?_)))))))))
 refine .nilS [9, 8, 7, 1, 0] r r (.block (.loop hd (fun (s68 : Int) c w => ∃ I_, IH.le I I_ ∧ Ok ⟨33, [], none⟩ [(0, .slice p1 a0.length c2), (1, .int .i64 a1), (7, .slice p1 a0.length c2), (8, .int .i64 (a0.length : Int)), (9, .int .i64 s68)] c ∧ Sym w0 M I I_ [] w) (fun c w ho hs => ⟨I, (.refl _), ho.sub ⟨r, r, r, r, r, trivial⟩, hs.pick .n⟩) ?_))
 rintro s68 next69 hd c w hst
 obtain ⟨I70, hl71, hok, hsym⟩ := hst
 have le72 := IH.le.trans (.refl _) hl71
 replace R3 := R3.mono hl71
 refine Cod.at hok hsym (.seq (.region (.lt r r r r (.nilS [10, 9, 8, 7, 1, 0] r r (.seq (.condP r hd (fun hb74 hd => ?_) fun hb74 hd => ?_))))))
 · refine .skipS [9, 8, 7, 1, 0] r r (.seq (.block (.seq (.region (.skips 1 r ?_)))))
   obtain ⟨h84, x85, hx86, hd⟩ := hd
   obtain ⟨b87, o88, cs89, e90, hC91, hr92⟩ := R3.2 _ _ hx86
   cases hr92
   refine .ixa underlying36 sizeOf3 r e90 r h84 (idx_lt hx86 h84) r r (.ld1 (j := 0) isAgg3 hC91 r r r r r (.skips 2 r (.nilS [6, 5, 9, 8, 7, 1, 0] r r (.seq (.region (.skips 2 r (.sub' r r r r ?_)))))))
   have hw94 := W_csr_within (I := I70) hd
   refine .callP call94 r hw94 r r fun v95 hv96 => ?_
   obtain ⟨r93, rfl, hd⟩ := hv96
   refine .not r r r (.skips 1 r ?_)
   refine splitP hd (fun hb97 hd => ?_) fun hb97 hd => ?_
   · rw [hb97]
     refine .skips 3 r (.gnoU r r r r (.gnoU r r r r (.gnoU r r r r (.gnoU r r r r (.gnoU r r r r (.gnoU r r r r (.gnoU r r r r (.skips 2 r (.nilS [31, 9, 8, 7, 1, 0] r r ?_)))))))))
     exact .condKT r r (.seq (.region (.skips 1 r (.nilS [4] r r (.ret (pret results96 (.t r .n) le72 ⟨false, r, hd⟩))))))
   rw [hb97]
   refine .gyes r r r (.move r r r (.gyes r r r (.gt r r r r (.gyes r r r (.move r r r ?_)))))
   refine splitP hd (fun hb98 hd => ?_) fun hb98 hd => ?_
   · rw [hb98]
     refine .gyes r r r (.move r r r (.gyes r r r (.move r r r (.gyes r r r (.sub' r r r r ?_)))))
     obtain ⟨h99, x100, hx101, hd⟩ := hd
     obtain ⟨b102, o103, cs104, e105, hC106, hr107⟩ := R3.2 _ _ hx101
     cases hr107
     refine .gyes r r r (.ixa underlying36 sizeOf3 r e105 r h99 (idx_lt hx101 h99) r r (.gyes r r r (.ld1 (j := 0) isAgg3 hC106 r r r r r (.gyes r r r (.move r r r (.gyes r r r (.ge r r r r (.gyes r r r (.pickT r r r r r (.skips 1 r (.nilS [31, 9, 8, 7, 1, 0] r r (.condP r hd (fun hb108 hd => ?_) fun hb108 hd => ?_))))))))))))
     · exact .seq (.region (.skips 1 r (.nilS [4] r r (.ret (pret results96 (.t r .n) le72 ⟨false, r, hd⟩)))))
     exact .skipS [9, 8, 7, 1, 0] r r (.region (.add r r r r (.sub (E' := [(0, _), (1, _), (7, _), (8, _), (32, _)]) ⟨r, r, r, r, r, trivial⟩ (.skips 1 r (.nil' fun c w ho hs => ⟨(w64 (s68 + 1)), hd, I70, le72, ho.sub ⟨r, r, r, r, r, trivial⟩, hs.pick .n⟩)))))
   rw [hb98]
   refine .skips 7 r (.gyes r r r (.pickF r r r r r (.skips 1 r (.nilS [31, 9, 8, 7, 1, 0] r r (.condKF r r (.skipS [9, 8, 7, 1, 0] r r (.region (.add r r r r (.sub (E' := [(0, _), (1, _), (7, _), (8, _), (32, _)]) ⟨r, r, r, r, r, trivial⟩ (.skips 1 r ?_))))))))))
   exact .nil' fun c w ho hs => ⟨(w64 (s68 + 1)), hd, I70, le72, ho.sub ⟨r, r, r, r, r, trivial⟩, hs.pick .n⟩
 exact .exitS [] r r (.seq (.region (.skips 1 r (.nilS [4] r r (.ret (pret results96 (.t r .n) le72 ⟨true, r, hd⟩))))))

theorem W_csr_Right {I : IH} {a0 : Rows} {p1 : Option Addr} {c2 : Nat} {p4 : Option Addr} {c5 : Nat} {p7 : Option Addr} {c8 : Nat} {Q : Bool → Prop} (R3 : RepSl eI64 I p1 c2 a0.Start) (R6 : RepSl eI64 I p4 c5 a0.Col) (R9 : RepSl eI64 I p7 c8 a0.Val) (hd : csr_Right a0 Q) :
    PFun Tryz.prog 62 [.agg #[.int .i64 a0.Rows, .int .i64 a0.Cols, .slice p1 a0.Start.length c2, .slice p4 a0.Col.length c5, .slice p7 a0.Val.length c8]] I (fun I_ v => ∃ r, v = .bool r ∧ Q r) := by
 refine Fun.enter func62 r ntmps62 r (.c .n) fun w0 M => ?_
 refine .seq (.region (.boxA r r r fun b12 => ?_))
 refine .skips 1 r (.nilS [1] r r (.seq (.region (.fieldAddr underlying39 r sizeOf36 r (o := 3) r r r (.load1 isAgg36 r .z r r r (.len underlying36 r r r r (.skips 1 r (.nilS [3, 1] r r (.seq ?_)))))))))
 refine .seq (.region (.fieldAddr underlying39 r sizeOf3 r (o := 0) r r r (.load1 isAgg3 r .z r r r ?_)))
 have hw28 := W_csr_within (I := I) hd
 refine .callP call94 r hw28 r r fun v29 hv30 => ?_
 obtain ⟨r27, rfl, hd⟩ := hv30
 refine .not r r r (.skips 1 r ?_)
 refine splitP hd (fun hb31 hd => ?_) fun hb31 hd => ?_
 · rw [hb31]
   exact .skips 25 r (.nilS [37, 3, 1] r r (.condKT r r (.seq (.region (.skips 1 r (.nilS [2] r r (.drop .z (.ret (pret results62 (.t r .n) (.refl _) ⟨false, r, hd⟩)))))))))
 rw [hb31]
 refine .gyes r r r (.fieldAddr underlying39 r sizeOf3 r (o := 1) r r r (.gyes r r r (.load1 isAgg3 r .z r r r ?_)))
 have hw33 := W_csr_within (I := I) hd
 refine .gyes r r r (.callP call94 r hw33 r r fun v34 hv35 => ?_)
 obtain ⟨r32, rfl, hd⟩ := hv35
 refine .gyes r r r (.not r r r (.skips 2 r ?_))
 refine splitP hd (fun hb36 hd => ?_) fun hb36 hd => ?_
 · rw [hb36]
   exact .skips 19 r (.nilS [37, 3, 1] r r (.condKT r r (.seq (.region (.skips 1 r (.nilS [2] r r (.drop .z (.ret (pret results62 (.t r .n) (.refl _) ⟨false, r, hd⟩)))))))))
 rw [hb36]
 refine .gyes r r r (.fieldAddr underlying39 r sizeOf36 r (o := 2) r r r (.gyes r r r (.load1 isAgg36 r .z r r r (.gyes r r r (.len underlying36 r r r r (.gyes r r r (.fieldAddr underlying39 r sizeOf3 r (o := 0) r r r (.gyes r r r (.load1 isAgg3 r .z r r r (.gyes r r r (.add r r r r (.gyes r r r (.ne r r r r (.skips 2 r ?_))))))))))))))
 refine splitP hd (fun hb37 hd => ?_) fun hb37 hd => ?_
 · rw [hb37]
   exact .skips 10 r (.nilS [37, 3, 1] r r (.condKT r r (.seq (.region (.skips 1 r (.nilS [2] r r (.drop .z (.ret (pret results62 (.t r .n) (.refl _) ⟨false, r, hd⟩)))))))))
 rw [hb37]
 refine .gyes r r r (.fieldAddr underlying39 r sizeOf37 r (o := 4) r r r (.gyes r r r (.load1 isAgg37 r .z r r r (.gyes r r r (.len underlying37 r r r r (.gyes r r r (.move r r r (.gyes r r r (.ne r r r r (.skips 2 r ?_))))))))))
 refine splitP hd (fun hb38 hd => ?_) fun hb38 hd => ?_
 · rw [hb38]
   exact .skips 3 r (.nilS [37, 3, 1] r r (.condKT r r (.seq (.region (.skips 1 r (.nilS [2] r r (.drop .z (.ret (pret results62 (.t r .n) (.refl _) ⟨false, r, hd⟩)))))))))
 rw [hb38]
 refine .gyes r r r (.move r r r (.gyes r r r (.gt r r r r (.skips 1 r (.nilS [37, 3, 1] r r (.condP r hd (fun hb39 hd => ?_) fun hb39 hd => ?_))))))
 · exact .seq (.region (.skips 1 r (.nilS [2] r r (.drop .z (.ret (pret results62 (.t r .n) (.refl _) ⟨false, r, hd⟩))))))
 refine .skipS [3, 1] r r (.seq (.seq (.region (.fieldAddr underlying39 r sizeOf36 r (o := 2) r r r (.load1 isAgg36 r .z r r r ?_)))))
 obtain ⟨h65, x66, hx67, hd⟩ := hd
 obtain ⟨b68, o69, cs70, e71, hC72, hr73⟩ := R3.2 _ _ hx67
 cases hr73
 refine .ixa underlying36 sizeOf3 r e71 r h65 (idx_lt hx67 h65) r r (.ld1 (j := 0) isAgg3 hC72 r r r r r (.ne r r r r (.skips 1 r ?_)))
 refine splitP hd (fun hb74 hd => ?_) fun hb74 hd => ?_
 · rw [hb74]
   exact .skips 15 r (.nilS [58, 1] r r (.condKT r r (.seq (.region (.skips 1 r (.nilS [2] r r (.drop .z (.ret (pret results62 (.t r .n) (.refl _) ⟨false, r, hd⟩)))))))))
 rw [hb74]
 refine .gyes r r r (.fieldAddr underlying39 r sizeOf36 r (o := 2) r r r (.gyes r r r (.load1 isAgg36 r .z r r r (.gyes r r r (.fieldAddr underlying39 r sizeOf3 r (o := 0) r r r (.gyes r r r (.load1 isAgg3 r .z r r r ?_)))))))
 obtain ⟨h75, x76, hx77, hd⟩ := hd
 obtain ⟨b78, o79, cs80, e81, hC82, hr83⟩ := R3.2 _ _ hx77
 cases hr83
 refine .gyes r r r (.ixa underlying36 sizeOf3 r e81 r h75 (idx_lt hx77 h75) r r (.gyes r r r (.ld1 (j := 0) isAgg3 hC82 r r r r r (.gyes r r r (.move r r r (.gyes r r r (.ne r r r r (.skips 2 r ?_))))))))
 refine splitP hd (fun hb84 hd => ?_) fun hb84 hd => ?_
 · rw [hb84]
   exact .skips 5 r (.nilS [58, 1] r r (.condKT r r (.seq (.region (.skips 1 r (.nilS [2] r r (.drop .z (.ret (pret results62 (.t r .n) (.refl _) ⟨false, r, hd⟩)))))))))
 rw [hb84]
 refine .gyes r r r (.fieldAddr underlying39 r sizeOf36 r (o := 2) r r r (.gyes r r r (.load1 isAgg36 r .z r r r ?_)))
 have hw86 := W_slices_IsSorted_int_int (I := I) R3 hd
 refine .gyes r r r (.callP call95 r hw86 r r fun v87 hv88 => ?_)
 obtain ⟨r85, rfl, hd⟩ := hv88
 refine .gyes r r r (.not r r r (.skips 1 r (.nilS [58, 1] r r (.condP r hd (fun hb89 hd => ?_) fun hb89 hd => ?_))))
 · exact .seq (.region (.skips 1 r (.nilS [2] r r (.drop .z (.ret (pret results62 (.t r .n) (.refl _) ⟨false, r, hd⟩))))))
 refine .skipS [1] r r (.seq (.seq (.region (.fieldAddr underlying39 r sizeOf3 r (o := 0) r r r (.load1 isAgg3 r .z r r r (.skips 1 r (.nilS [61, 60, 1] r r (.block (.loop hd (fun (s163 : Int) c w => ∃ I_, IH.le I I_ ∧ Ok ⟨83, [], none⟩ [(1, .pointer (some ⟨b12, 0, none⟩)), (60, .int .i64 a0.Rows), (61, .int .i64 s163)] c ∧ Sym w0 M I I_ [pto b12 (.cells #[.int .i64 a0.Rows, .int .i64 a0.Cols, .slice p1 a0.Start.length c2, .slice p4 a0.Col.length c5, .slice p7 a0.Val.length c8] 39 (0, 0))] w) (fun c w ho hs => ⟨I, (.refl _), ho.sub ⟨r, r, r, trivial⟩, hs.pick (.c .z .n)⟩) ?_)))))))))
 rintro s163 next164 hd c w hst
 obtain ⟨I165, hl166, hok, hsym⟩ := hst
 have le167 := IH.le.trans (.refl _) hl166
 replace R3 := R3.mono hl166
 replace R6 := R6.mono hl166
 replace R9 := R9.mono hl166
 refine Cod.at hok hsym (.seq (.region (.lt r r r r (.nilS [62, 61, 60, 1] r r (.seq (.condP r hd (fun hb169 hd => ?_) fun hb169 hd => ?_))))))
 · refine .skipS [61, 60, 1] r r (.seq (.block (.seq (.region (.skips 2 r (.nilS [4, 61, 60, 1] r r (.seq (.draw [some 0, some 1, some 2, some 3, some 4, some 5, some 6, some 7, some 8, some 9, some 10, some 11, some 12, some 13, some 14, some 15, some 16, some 17] 18 MX (by kernel_rfl) (by kernel_rfl) (by kernel_rfl) (by kernel_rfl) (by kernel_rfl) (by kernel_rfl) (by kernel_rfl) (fun ex => (pto b12 (.cells #[.int .i64 a0.Rows, .int .i64 a0.Cols, .slice p1 a0.Start.length c2, .slice p4 a0.Col.length c5, .slice p7 a0.Val.length c8] 39 (0, 0))) :: ex) (fun _ _ => (.s .z)) r (.f [] r (by kernel_rfl) r r (fun ex => .fieldAddr underlying39 r sizeOf36 r (o := 3) r r r .mk) ?_)))))))))
   refine .f [0] r (by kernel_rfl) r r (fun ex => .load1 isAgg36 r .z r r r .mk) (.f [] r (by kernel_rfl) r r (fun ex => .fieldAddr underlying39 r sizeOf36 r (o := 2) r r r .mk) (.f [2] r (by kernel_rfl) r r (fun ex => .load1 isAgg36 r .z r r r .mk) (.fs [[]] r (by kernel_rfl) ?_)))
   obtain ⟨h170, x171, hx172, hd⟩ := hd
   obtain ⟨b173, o174, cs175, e176, hC177, hr178⟩ := R3.2 _ _ hx172
   cases hr178
   refine .f [3, 4] r (by kernel_rfl) r r (fun ex => .ixa underlying36 sizeOf3 r e176 r h170 (idx_lt hx172 h170) r r .mk) (.f [5] r (by kernel_rfl) r r (fun ex => .ld1 (j := 0) isAgg3 hC177 r r r r r .mk) (.f [] r (by kernel_rfl) r r (fun ex => .fieldAddr underlying39 r sizeOf36 r (o := 2) r r r .mk) (.f [7] r (by kernel_rfl) r r (fun ex => .load1 isAgg36 r .z r r r .mk) (.fs [[]] r (by kernel_rfl) (.f [9] r (by kernel_rfl) r r (fun ex => .add r r r r .mk) ?_)))))
   obtain ⟨h179, x180, hx181, hd⟩ := hd
   obtain ⟨b182, o183, cs184, e185, hC186, hr187⟩ := R3.2 _ _ hx181
   cases hr187
   refine .f [8, 10] r (by kernel_rfl) r r (fun ex => .ixa underlying36 sizeOf3 r e185 r h179 (idx_lt hx181 h179) r r .mk) (.f [11] r (by kernel_rfl) r r (fun ex => .ld1 (j := 0) isAgg3 hC186 r r r r r .mk) ?_)
   obtain ⟨h188, h189, h190, hd⟩ := hd
   have h196 : Int.toNat x171 ≤ Int.toNat x180 := by omega
   have h197 : Int.toNat x180 ≤ a0.Col.length := by omega
   obtain ⟨p191, c192, e194, e195, R193⟩ := RepSl.sliceW R6 (Int.toNat x171) (Int.toNat x180) c5 h196 h197 (.inl rfl)
   refine .f [1, 6, 12] r (by kernel_rfl) r r (fun ex => .sliceW (L := Int.toNat x171) (H := Int.toNat x180) (cm := c5) underlying36 sizeOf3 r r R6.1 r r r (.inr ⟨_, _, r, h188, r⟩) (.inr ⟨_, _, r, (by omega), r⟩) (.inl r) h196 h197 r e194 e195 r r .mk) (.f [] r (by kernel_rfl) r r (fun ex => .fieldAddr underlying39 r sizeOf3 r (o := 1) r r r .mk) (.f [14] r (by kernel_rfl) r r (fun ex => .load1 isAgg3 r .z r r r .mk) (.w [] [[], [15], [], [13], [12, 13], [11, 12, 13], [10, 11, 12, 13], [11, 12, 13], [8, 11, 12, 13], [13], [6, 13], [5, 6, 13], [5, 6, 13], [3, 5, 6, 13], [13], [1, 13]] [13, 15] r (by kernel_rfl) (by kernel_rfl) (by kernel_rfl) ((dropE_kept r r)) (.inr (dropE_kept r r)) fun ex => ?_)))
   have hw199 := W_csr_row (I := I165) R193 hd
   refine .callP call96 r hw199 r r fun v200 hv201 => ?_
   obtain ⟨r198, rfl, hd⟩ := hv201
   refine .some (fun ex => (pto b12 (.cells #[.int .i64 a0.Rows, .int .i64 a0.Cols, .slice p1 a0.Start.length c2, .slice p4 a0.Col.length c5, .slice p7 a0.Val.length c8] 39 (0, 0))) :: ex) r (fun _ _ => (.s .z)) r trivial (.f [16] r (by kernel_rfl) r r (fun ex => .not r r r .mk) (.e 18 (by kernel_rfl) (by kernel_rfl) (by kernel_rfl) (.nilS [81, 61, 60, 1] r r (.condP r hd (fun hb202 hd => ?_) fun hb202 hd => ?_))))
   · exact .seq (.region (.skips 1 r (.nilS [2] r r (.drop .z (.ret (pret results62 (.t r .n) le167 ⟨false, r, hd⟩))))))
   exact .skipS [61, 60, 1] r r (.region (.add r r r r (.sub (E' := [(1, _), (60, _), (82, _)]) ⟨r, r, r, trivial⟩ (.skips 1 r (.nil' fun c w ho hs => ⟨(w64 (s163 + 1)), hd, I165, le167, ho.sub ⟨r, r, r, trivial⟩, hs.pick (.c .z .n)⟩)))))
 exact .exitS [] r r (.drop .z (.seq (.region (.skips 1 r (.nilS [2] r r (.ret (pret results62 (.t r .n) le167 ⟨true, r, hd⟩)))))))

theorem W_csr_empty {I : IH} {a0 : Int} {a1 : Int}  {Q : Rows → Prop}  (hd : csr_empty a0 a1 Q) :
    OFun Tryz.prog 107 [.int .i64 a0, .int .i64 a1] I (fun I_ v l => ∃ r p1 c2 p4 c5 p7 c8, v = .agg #[.int .i64 r.Rows, .int .i64 r.Cols, .slice p1 r.Start.length c2, .slice p4 r.Col.length c5, .slice p7 r.Val.length c8] ∧ l = [OwnSl eI64 3 p1 c2 r.Start, OwnSl eI64 3 p4 c5 r.Col, OwnSl eI64 2 p7 c8 r.Val] ∧ Q r) := by
 refine Fun.enter func107 r ntmps107 r (.c (.c .n)) fun w0 M => ?_
 refine .seq (.region (.allocA zeroValue39 r r fun b10 => ?_))
 refine .nilS [4, 1, 0] r r (.seq (.region (.skips 3 r (.add r r r r ?_))))
 obtain ⟨h12, h13, hd⟩ := hd
 refine .make (El := eI64) (zv := 0) 8 underlying36 IN3 r r r r r r h12 h13 r r r fun b14 => ?_
 exact .build zeroValue39 underlying39 BI39 (.c r r r (.t .nil) (.c r r r (.s (.t .nil)) (.c r r r (.s (.s (.t .nil))) .n))) (by exact ⟨⟨_, _, r, r, r⟩, ⟨⟨_, _, r, r, r⟩, ⟨⟨_, _, r, r, r⟩, trivial⟩⟩⟩) r r (.storeA sizeOf39 r r (.s .z) (.t (.t (.t (.t (.t .nil))))) r r (.nilS [4] r r (.own0 eI64 3 (.own0 eI64 2 (.ret (oret results107 (.w isAgg39 sizeOf39 r (.s (.s (.s .z))) r .n) (.refl _) (.c (.s (.s .z)) (.c (.s .z) (.c .z .n))) ⟨({ Rows := a0, Cols := a1, Start := (List.replicate (w64 (a0 + 1)).toNat 0), Col := ([] : List Int), Val := ([] : List Int) } : Rows), _, _, _, _, _, _, r, r, hd⟩))))))

theorem W_csr_sure {I : IH} {a0 : Rows} {p1 : Option Addr} {c2 : Nat} {p4 : Option Addr} {c5 : Nat} {p7 : Option Addr} {c8 : Nat} {Q : Rows → Prop} (R3 : RepSl eI64 I p1 c2 a0.Start) (R6 : RepSl eI64 I p4 c5 a0.Col) (R9 : RepSl eI64 I p7 c8 a0.Val) (hd : csr_sure a0 Q) :
    PFun Tryz.prog 73 [.agg #[.int .i64 a0.Rows, .int .i64 a0.Cols, .slice p1 a0.Start.length c2, .slice p4 a0.Col.length c5, .slice p7 a0.Val.length c8]] I (fun I_ v => ∃ r p10 c11 p13 c14 p16 c17, v = .agg #[.int .i64 r.Rows, .int .i64 r.Cols, .slice p10 r.Start.length c11, .slice p13 r.Col.length c14, .slice p16 r.Val.length c17] ∧ RepSl eI64 I_ p10 c11 r.Start ∧ RepSl eI64 I_ p13 c14 r.Col ∧ RepSl eI64 I_ p16 c17 r.Val ∧ Q r) := by
 refine Fun.enter func73 r ntmps73 r (.c .n) fun w0 M => ?_
 refine .seq (.region (.boxA r r r fun b23 => ?_))
 refine .allocA zeroValue39 r r fun b25 => ?_
 refine .nilS [2, 1] r r (.seq (.seq (.region (.loadW isAgg39 sizeOf39 r (.s .z) r r r ?_))))
 have hw28 := W_csr_Right (I := I) R3 R6 R9 hd
 refine .callP call62 r hw28 r r fun v29 hv30 => ?_
 obtain ⟨r27, rfl, hd⟩ := hv30
 refine .nilS [4, 2, 1] r r (.condP r hd (fun hb31 hd => ?_) fun hb31 hd => ?_)
 · exact .seq (.region (.loadW isAgg39 sizeOf39 r (.s .z) r r r (.storeA sizeOf39 r r .z (.t (.t (.t (.t (.t .nil))))) r r (.nilS [2] r r (.drop (.s .z) (.ret (pret results73 (.w isAgg39 sizeOf39 r .z r .n) (.refl _) ⟨a0, _, _, _, _, _, _, r, R3, R6, R9, hd⟩)))))))
 refine .skipS [2] r r (.drop (.s .z) (.seq (.region ?_)))
 have hw50 := W_csr_empty (I := I) hd
 refine .callO call107 r hw50 r r fun v36 I33 l37 hl34 hv35 => ?_
 obtain ⟨r32, p38, c39, p41, c42, p44, c45, rfl, rfl, hd⟩ := hv35
 have le51 := IH.le.trans (.refl _) hl34
 refine .storeA sizeOf39 r r (.s (.s (.s .z))) (.t (.t (.t (.t (.t .nil))))) r r (.nilS [2] r r (.pub .z fun I52 hl53 R54 => ?_))
 have le55 := IH.le.trans le51 hl53
 refine .pub .z fun I56 hl57 R58 => ?_
 have le59 := IH.le.trans le55 hl57
 replace R54 := R54.mono hl57
 refine .pub .z fun I60 hl61 R62 => ?_
 have le63 := IH.le.trans le59 hl61
 replace R54 := R54.mono hl61
 replace R58 := R58.mono hl61
 exact .ret (pret results73 (.w isAgg39 sizeOf39 r .z r .n) le63 ⟨r32, _, _, _, _, _, _, r, R54, R58, R62, hd⟩)

theorem W_csr_Count {I : IH} {a0 : Rows} {p1 : Option Addr} {c2 : Nat} {p4 : Option Addr} {c5 : Nat} {p7 : Option Addr} {c8 : Nat} {Q : Int → Prop} (R3 : RepSl eI64 I p1 c2 a0.Start) (R6 : RepSl eI64 I p4 c5 a0.Col) (R9 : RepSl eI64 I p7 c8 a0.Val) (hd : csr_Count a0 Q) :
    PFun Tryz.prog 39 [.agg #[.int .i64 a0.Rows, .int .i64 a0.Cols, .slice p1 a0.Start.length c2, .slice p4 a0.Col.length c5, .slice p7 a0.Val.length c8]] I (fun I_ v => ∃ r, v = .int .i64 r ∧ Q r) := by
 refine Fun.enter func39 r ntmps39 r (.c .n) fun w0 M => ?_
 refine .seq (.region (.boxA r r r fun b10 => ?_))
 refine .skips 1 r (.nilS [1] r r (.seq (.region (.loadW isAgg39 sizeOf39 r .z r r r ?_))))
 have hw27 := W_csr_sure (I := I) R3 R6 R9 hd
 refine .call call73 r hw27 r r fun v16 I13 hl14 hv15 => ?_
 obtain ⟨r12, p18, c19, p21, c22, p24, c25, rfl, R20, R23, R26, hd⟩ := hv15
 have le28 := IH.le.trans (.refl _) hl14
 replace R3 := R3.mono hl14
 replace R6 := R6.mono hl14
 replace R9 := R9.mono hl14
 exact .field1 underlying39 r isAgg36 r r r r (.len underlying36 r r r r (.skips 1 r (.nilS [2] r r (.drop .z (.ret (pret results39 (.t r .n) le28 ⟨(r12.Col.length : Int), r, hd⟩))))))

theorem W_ref07_Empty {I : IH} {a0 : Int} {a1 : Int}  {Q : Rows → Prop}  (hd : ref07_Empty a0 a1 Q) :
    OFun Tryz.prog 70 [.int .i64 a0, .int .i64 a1] I (fun I_ v l => ∃ r p1 c2 p4 c5 p7 c8, v = .agg #[.int .i64 r.Rows, .int .i64 r.Cols, .slice p1 r.Start.length c2, .slice p4 r.Col.length c5, .slice p7 r.Val.length c8] ∧ l = [OwnSl eI64 3 p1 c2 r.Start, OwnSl eI64 3 p4 c5 r.Col, OwnSl eI64 2 p7 c8 r.Val] ∧ Q r) := by
 refine Fun.enter func70 r ntmps70 r (.c (.c .n)) fun w0 M => ?_
 refine .seq (.region (.allocA zeroValue39 r r fun b10 => ?_))
 refine .nilS [4, 1, 0] r r (.seq (.region (.skips 3 r (.add r r r r ?_))))
 obtain ⟨h12, h13, hd⟩ := hd
 refine .make (El := eI64) (zv := 0) 8 underlying36 IN3 r r r r r r h12 h13 r r r fun b14 => ?_
 exact .build zeroValue39 underlying39 BI39 (.c r r r (.t .nil) (.c r r r (.s (.t .nil)) (.c r r r (.s (.s (.t .nil))) .n))) (by exact ⟨⟨_, _, r, r, r⟩, ⟨⟨_, _, r, r, r⟩, ⟨⟨_, _, r, r, r⟩, trivial⟩⟩⟩) r r (.storeA sizeOf39 r r (.s .z) (.t (.t (.t (.t (.t .nil))))) r r (.nilS [4] r r (.own0 eI64 3 (.own0 eI64 2 (.ret (oret results70 (.w isAgg39 sizeOf39 r (.s (.s (.s .z))) r .n) (.refl _) (.c (.s (.s .z)) (.c (.s .z) (.c .z .n))) ⟨({ Rows := a0, Cols := a1, Start := (List.replicate (w64 (a0 + 1)).toNat 0), Col := ([] : List Int), Val := ([] : List Int) } : Rows), _, _, _, _, _, _, r, r, hd⟩))))))

theorem W_ref07_Right {I : IH} {a0 : Rows} {p1 : Option Addr} {c2 : Nat} {p4 : Option Addr} {c5 : Nat} {p7 : Option Addr} {c8 : Nat} {Q : Bool → Prop} (R3 : RepSl eI64 I p1 c2 a0.Start) (R6 : RepSl eI64 I p4 c5 a0.Col) (R9 : RepSl eI64 I p7 c8 a0.Val) (hd : ref07_Right a0 Q) :
    PFun Tryz.prog 77 [.agg #[.int .i64 a0.Rows, .int .i64 a0.Cols, .slice p1 a0.Start.length c2, .slice p4 a0.Col.length c5, .slice p7 a0.Val.length c8]] I (fun I_ v => ∃ r, v = .bool r ∧ Q r) := by
 refine Fun.enter func77 r ntmps77 r (.c .n) fun w0 M => ?_
 refine .seq (.region (.boxA r r r fun b12 => ?_))
 refine .skips 1 r (.nilS [1] r r (.seq (.seq (.region (.fieldAddr underlying39 r sizeOf3 r (o := 0) r r r (.load1 isAgg3 r .z r r r (.lt r r r r (.skips 1 r ?_))))))))
 refine splitP hd (fun hb21 hd => ?_) fun hb21 hd => ?_
 · rw [hb21]
   exact .skips 38 r (.nilS [46, 1] r r (.condKT r r (.seq (.region (.skips 1 r (.nilS [2] r r (.drop .z (.ret (pret results77 (.t r .n) (.refl _) ⟨false, r, hd⟩)))))))))
 rw [hb21]
 refine .gyes r r r (.fieldAddr underlying39 r sizeOf3 r (o := 0) r r r (.gyes r r r (.load1 isAgg3 r .z r r r (.gyes r r r (.gt r r r r (.skips 2 r ?_))))))
 refine splitP hd (fun hb22 hd => ?_) fun hb22 hd => ?_
 · rw [hb22]
   exact .skips 33 r (.nilS [46, 1] r r (.condKT r r (.seq (.region (.skips 1 r (.nilS [2] r r (.drop .z (.ret (pret results77 (.t r .n) (.refl _) ⟨false, r, hd⟩)))))))))
 rw [hb22]
 refine .gyes r r r (.fieldAddr underlying39 r sizeOf3 r (o := 1) r r r (.gyes r r r (.load1 isAgg3 r .z r r r (.gyes r r r (.lt r r r r (.skips 2 r ?_))))))
 refine splitP hd (fun hb23 hd => ?_) fun hb23 hd => ?_
 · rw [hb23]
   exact .skips 28 r (.nilS [46, 1] r r (.condKT r r (.seq (.region (.skips 1 r (.nilS [2] r r (.drop .z (.ret (pret results77 (.t r .n) (.refl _) ⟨false, r, hd⟩)))))))))
 rw [hb23]
 refine .gyes r r r (.fieldAddr underlying39 r sizeOf3 r (o := 1) r r r (.gyes r r r (.load1 isAgg3 r .z r r r (.gyes r r r (.gt r r r r (.skips 2 r ?_))))))
 refine splitP hd (fun hb24 hd => ?_) fun hb24 hd => ?_
 · rw [hb24]
   exact .skips 23 r (.nilS [46, 1] r r (.condKT r r (.seq (.region (.skips 1 r (.nilS [2] r r (.drop .z (.ret (pret results77 (.t r .n) (.refl _) ⟨false, r, hd⟩)))))))))
 rw [hb24]
 refine .gyes r r r (.fieldAddr underlying39 r sizeOf36 r (o := 2) r r r (.gyes r r r (.load1 isAgg36 r .z r r r (.gyes r r r (.len underlying36 r r r r (.gyes r r r (.fieldAddr underlying39 r sizeOf3 r (o := 0) r r r (.gyes r r r (.load1 isAgg3 r .z r r r (.gyes r r r (.add r r r r (.gyes r r r (.ne r r r r (.skips 2 r ?_))))))))))))))
 refine splitP hd (fun hb25 hd => ?_) fun hb25 hd => ?_
 · rw [hb25]
   exact .skips 14 r (.nilS [46, 1] r r (.condKT r r (.seq (.region (.skips 1 r (.nilS [2] r r (.drop .z (.ret (pret results77 (.t r .n) (.refl _) ⟨false, r, hd⟩)))))))))
 rw [hb25]
 refine .gyes r r r (.fieldAddr underlying39 r sizeOf36 r (o := 3) r r r (.gyes r r r (.load1 isAgg36 r .z r r r (.gyes r r r (.len underlying36 r r r r (.gyes r r r (.fieldAddr underlying39 r sizeOf37 r (o := 4) r r r (.gyes r r r (.load1 isAgg37 r .z r r r (.gyes r r r (.len underlying37 r r r r (.gyes r r r (.ne r r r r (.skips 2 r ?_))))))))))))))
 refine splitP hd (fun hb26 hd => ?_) fun hb26 hd => ?_
 · rw [hb26]
   exact .skips 5 r (.nilS [46, 1] r r (.condKT r r (.seq (.region (.skips 1 r (.nilS [2] r r (.drop .z (.ret (pret results77 (.t r .n) (.refl _) ⟨false, r, hd⟩)))))))))
 rw [hb26]
 refine .gyes r r r (.fieldAddr underlying39 r sizeOf36 r (o := 3) r r r (.gyes r r r (.load1 isAgg36 r .z r r r (.gyes r r r (.len underlying36 r r r r (.gyes r r r (.gt r r r r (.skips 1 r (.nilS [46, 1] r r (.condP r hd (fun hb27 hd => ?_) fun hb27 hd => ?_))))))))))
 · exact .seq (.region (.skips 1 r (.nilS [2] r r (.drop .z (.ret (pret results77 (.t r .n) (.refl _) ⟨false, r, hd⟩))))))
 refine .skipS [1] r r (.seq (.seq (.draw [some 0, some 1, some 2, some 3, some 4, some 5, some 6, some 7, some 8, some 9, some 10, some 11, some 12, some 13, some 14, some 15, some 16] 17 MX (by kernel_rfl) (by kernel_rfl) (by kernel_rfl) (by kernel_rfl) (by kernel_rfl) (by kernel_rfl) (by kernel_rfl) (fun ex => (pto b12 (.cells #[.int .i64 a0.Rows, .int .i64 a0.Cols, .slice p1 a0.Start.length c2, .slice p4 a0.Col.length c5, .slice p7 a0.Val.length c8] 39 (0, 0))) :: ex) (fun _ _ => (.s .z)) r (.f [] r (by kernel_rfl) r r (fun ex => .fieldAddr underlying39 r sizeOf36 r (o := 2) r r r .mk) (.f [0] r (by kernel_rfl) r r (fun ex => .load1 isAgg36 r .z r r r .mk) ?_)))))
 obtain ⟨h48, x49, hx50, hd⟩ := hd
 obtain ⟨b51, o52, cs53, e54, hC55, hr56⟩ := R3.2 _ _ hx50
 cases hr56
 refine .f [1] r (by kernel_rfl) r r (fun ex => .ixa underlying36 sizeOf3 r e54 r h48 (idx_lt hx50 h48) r r .mk) (.f [2] r (by kernel_rfl) r r (fun ex => .ld1 (j := 0) isAgg3 hC55 r r r r r .mk) (.f [3] r (by kernel_rfl) r r (fun ex => .ne r r r r .mk) (.fs [[4]] r (by kernel_rfl) ?_)))
 refine splitP hd (fun hb57 hd => ?_) fun hb57 hd => ?_
 · rw [hb57]
   exact .fs [[5], [6, 5], [5], [8, 5], [7, 9, 5], [10, 5], [5], [12, 5], [13, 5], [11, 14, 5], [5, 15]] r (by kernel_rfl) (.e 17 (by kernel_rfl) (by kernel_rfl) (by kernel_rfl) (.nilS [63, 1] r r (.condKT r r (.seq (.region (.skips 1 r (.nilS [2] r r (.drop .z (.ret (pret results77 (.t r .n) (.refl _) ⟨false, r, hd⟩))))))))))
 rw [hb57]
 refine .f [5] r (by kernel_rfl) r r (fun ex => .gyes r r r (.fieldAddr underlying39 r sizeOf36 r (o := 2) r r r .mk)) (.f [6, 5] r (by kernel_rfl) r r (fun ex => .gyes r r r (.load1 isAgg36 r .z r r r .mk)) (.f [5] r (by kernel_rfl) r r (fun ex => .gyes r r r (.fieldAddr underlying39 r sizeOf3 r (o := 0) r r r .mk)) (.f [8, 5] r (by kernel_rfl) r r (fun ex => .gyes r r r (.load1 isAgg3 r .z r r r .mk)) ?_)))
 obtain ⟨h58, x59, hx60, hd⟩ := hd
 obtain ⟨b61, o62, cs63, e64, hC65, hr66⟩ := R3.2 _ _ hx60
 cases hr66
 refine .f [7, 9, 5] r (by kernel_rfl) r r (fun ex => .gyes r r r (.ixa underlying36 sizeOf3 r e64 r h58 (idx_lt hx60 h58) r r .mk)) (.f [10, 5] r (by kernel_rfl) r r (fun ex => .gyes r r r (.ld1 (j := 0) isAgg3 hC65 r r r r r .mk)) (.f [5] r (by kernel_rfl) r r (fun ex => .gyes r r r (.fieldAddr underlying39 r sizeOf36 r (o := 3) r r r .mk)) (.f [12, 5] r (by kernel_rfl) r r (fun ex => .gyes r r r (.load1 isAgg36 r .z r r r .mk)) (.f [13, 5] r (by kernel_rfl) r r (fun ex => .gyes r r r (.len underlying36 r r r r .mk)) (.f [11, 14, 5] r (by kernel_rfl) r r (fun ex => .gyes r r r (.ne r r r r .mk)) (.fs [[5, 15]] r (by kernel_rfl) (.e 17 (by kernel_rfl) (by kernel_rfl) (by kernel_rfl) (.nilS [63, 1] r r (.condP r hd (fun hb67 hd => ?_) fun hb67 hd => ?_)))))))))
 · exact .seq (.region (.skips 1 r (.nilS [2] r r (.drop .z (.ret (pret results77 (.t r .n) (.refl _) ⟨false, r, hd⟩))))))
 refine .skipS [1] r r (.seq (.seq (.region (.skips 1 r (.nilS [3, 1] r r (.block (.loop hd (fun (s697 : Int) c w => ∃ I_, IH.le I I_ ∧ Ok ⟨156, [], none⟩ [(1, .pointer (some ⟨b12, 0, none⟩)), (3, .int .i64 s697)] c ∧ Sym w0 M I I_ [pto b12 (.cells #[.int .i64 a0.Rows, .int .i64 a0.Cols, .slice p1 a0.Start.length c2, .slice p4 a0.Col.length c5, .slice p7 a0.Val.length c8] 39 (0, 0))] w) (fun c w ho hs => ⟨I, (.refl _), ho.sub ⟨r, r, trivial⟩, hs.pick (.c .z .n)⟩) ?_)))))))
 rintro s697 next698 hd c w hst
 obtain ⟨I699, hl700, hok, hsym⟩ := hst
 have le701 := IH.le.trans (.refl _) hl700
 replace R3 := R3.mono hl700
 replace R6 := R6.mono hl700
 replace R9 := R9.mono hl700
 refine Cod.at hok hsym (.seq (.seq (.region (.skips 1 r (.fieldAddr underlying39 r sizeOf3 r (o := 0) r r r (.load1 isAgg3 r .z r r r (.lt r r r r (.nilS [67, 3, 1] r r (.condP r hd (fun hb703 hd => ?_) fun hb703 hd => ?_)))))))))
 · refine .skipS [3, 1] r r (.seq (.block (.seq (.seq (.draw [some 0, some 1, some 2, some 3, some 4, some 5, some 6, some 7, some 8, some 9, some 10, some 11, some 12, some 13, some 14, some 15, some 16, some 17, some 18, some 19, some 20, some 21, some 22, some 23, some 24, some 25, some 26, some 27, some 28, some 29, some 30, some 31] 32 MX (by kernel_rfl) (by kernel_rfl) (by kernel_rfl) (by kernel_rfl) (by kernel_rfl) (by kernel_rfl) (by kernel_rfl) (fun ex => (pto b12 (.cells #[.int .i64 a0.Rows, .int .i64 a0.Cols, .slice p1 a0.Start.length c2, .slice p4 a0.Col.length c5, .slice p7 a0.Val.length c8] 39 (0, 0))) :: ex) (fun _ _ => (.s .z)) r (.f [] r (by kernel_rfl) r r (fun ex => .fieldAddr underlying39 r sizeOf36 r (o := 2) r r r .mk) (.f [0] r (by kernel_rfl) r r (fun ex => .load1 isAgg36 r .z r r r .mk) (.fs [[]] r (by kernel_rfl) ?_))))))))
   obtain ⟨h743, x744, hx745, hd⟩ := hd
   obtain ⟨b746, o747, cs748, e749, hC750, hr751⟩ := R3.2 _ _ hx745
   cases hr751
   refine .f [1, 2] r (by kernel_rfl) r r (fun ex => .ixa underlying36 sizeOf3 r e749 r h743 (idx_lt hx745 h743) r r .mk) (.f [3] r (by kernel_rfl) r r (fun ex => .ld1 (j := 0) isAgg3 hC750 r r r r r .mk) (.f [] r (by kernel_rfl) r r (fun ex => .fieldAddr underlying39 r sizeOf36 r (o := 2) r r r .mk) (.f [5] r (by kernel_rfl) r r (fun ex => .load1 isAgg36 r .z r r r .mk) (.fs [[]] r (by kernel_rfl) (.f [7] r (by kernel_rfl) r r (fun ex => .add r r r r .mk) ?_)))))
   obtain ⟨h752, x753, hx754, hd⟩ := hd
   obtain ⟨b755, o756, cs757, e758, hC759, hr760⟩ := R3.2 _ _ hx754
   cases hr760
   refine .f [6, 8] r (by kernel_rfl) r r (fun ex => .ixa underlying36 sizeOf3 r e758 r h752 (idx_lt hx754 h752) r r .mk) (.f [9] r (by kernel_rfl) r r (fun ex => .ld1 (j := 0) isAgg3 hC759 r r r r r .mk) (.f [4, 10] r (by kernel_rfl) r r (fun ex => .gt r r r r .mk) (.fs [[11]] r (by kernel_rfl) ?_)))
   refine splitP hd (fun hb761 hd => ?_) fun hb761 hd => ?_
   · rw [hb761]
     exact .fs [[12], [13, 12], [12], [14, 15, 12], [16, 12], [17, 12], [12, 18], [19, 12], [20], [21, 20], [20], [23, 20], [22, 24, 20], [25, 20], [20], [27, 20], [28, 20], [26, 29, 20], [20, 30]] r (by kernel_rfl) (.e 32 (by kernel_rfl) (by kernel_rfl) (by kernel_rfl) (.nilS [101, 3, 1] r r (.condKT r r (.seq (.region (.skips 1 r (.nilS [2] r r (.drop .z (.ret (pret results77 (.t r .n) le701 ⟨false, r, hd⟩))))))))))
   rw [hb761]
   refine .f [12] r (by kernel_rfl) r r (fun ex => .gyes r r r (.fieldAddr underlying39 r sizeOf36 r (o := 2) r r r .mk)) (.f [13, 12] r (by kernel_rfl) r r (fun ex => .gyes r r r (.load1 isAgg36 r .z r r r .mk)) (.fs [[12]] r (by kernel_rfl) ?_))
   obtain ⟨h762, x763, hx764, hd⟩ := hd
   obtain ⟨b765, o766, cs767, e768, hC769, hr770⟩ := R3.2 _ _ hx764
   cases hr770
   refine .f [14, 15, 12] r (by kernel_rfl) r r (fun ex => .gyes r r r (.ixa underlying36 sizeOf3 r e768 r h762 (idx_lt hx764 h762) r r .mk)) (.f [16, 12] r (by kernel_rfl) r r (fun ex => .gyes r r r (.ld1 (j := 0) isAgg3 hC769 r r r r r .mk)) (.f [17, 12] r (by kernel_rfl) r r (fun ex => .gyes r r r (.lt r r r r .mk)) (.fs [[12, 18], [19, 12]] r (by kernel_rfl) ?_)))
   refine splitP hd (fun hb771 hd => ?_) fun hb771 hd => ?_
   · rw [hb771]
     exact .fs [[20], [21, 20], [20], [23, 20], [22, 24, 20], [25, 20], [20], [27, 20], [28, 20], [26, 29, 20], [20, 30]] r (by kernel_rfl) (.e 32 (by kernel_rfl) (by kernel_rfl) (by kernel_rfl) (.nilS [101, 3, 1] r r (.condKT r r (.seq (.region (.skips 1 r (.nilS [2] r r (.drop .z (.ret (pret results77 (.t r .n) le701 ⟨false, r, hd⟩))))))))))
   rw [hb771]
   refine .f [20] r (by kernel_rfl) r r (fun ex => .gyes r r r (.fieldAddr underlying39 r sizeOf36 r (o := 2) r r r .mk)) (.f [21, 20] r (by kernel_rfl) r r (fun ex => .gyes r r r (.load1 isAgg36 r .z r r r .mk)) (.fs [[20]] r (by kernel_rfl) (.f [23, 20] r (by kernel_rfl) r r (fun ex => .gyes r r r (.add r r r r .mk)) ?_)))
   obtain ⟨h772, x773, hx774, hd⟩ := hd
   obtain ⟨b775, o776, cs777, e778, hC779, hr780⟩ := R3.2 _ _ hx774
   cases hr780
   refine .f [22, 24, 20] r (by kernel_rfl) r r (fun ex => .gyes r r r (.ixa underlying36 sizeOf3 r e778 r h772 (idx_lt hx774 h772) r r .mk)) (.f [25, 20] r (by kernel_rfl) r r (fun ex => .gyes r r r (.ld1 (j := 0) isAgg3 hC779 r r r r r .mk)) (.f [20] r (by kernel_rfl) r r (fun ex => .gyes r r r (.fieldAddr underlying39 r sizeOf36 r (o := 3) r r r .mk)) (.f [27, 20] r (by kernel_rfl) r r (fun ex => .gyes r r r (.load1 isAgg36 r .z r r r .mk)) (.f [28, 20] r (by kernel_rfl) r r (fun ex => .gyes r r r (.len underlying36 r r r r .mk)) (.f [26, 29, 20] r (by kernel_rfl) r r (fun ex => .gyes r r r (.gt r r r r .mk)) (.fs [[20, 30]] r (by kernel_rfl) (.e 32 (by kernel_rfl) (by kernel_rfl) (by kernel_rfl) (.nilS [101, 3, 1] r r (.condP r hd (fun hb781 hd => ?_) fun hb781 hd => ?_)))))))))
   · exact .seq (.region (.skips 1 r (.nilS [2] r r (.drop .z (.ret (pret results77 (.t r .n) le701 ⟨false, r, hd⟩))))))
   refine .skipS [3, 1] r r (.seq (.region (.fieldAddr underlying39 r sizeOf36 r (o := 2) r r r (.load1 isAgg36 r .z r r r (.skips 1 r ?_)))))
   obtain ⟨h791, x792, hx793, hd⟩ := hd
   obtain ⟨b794, o795, cs796, e797, hC798, hr799⟩ := R3.2 _ _ hx793
   cases hr799
   refine .ixa underlying36 sizeOf3 r e797 r h791 (idx_lt hx793 h791) r r (.ld1 (j := 0) isAgg3 hC798 r r r r r (.skips 1 r (.nilS [4, 3, 1] r r (.block (.loop hd (fun (s941 : Int) c w => ∃ I_, IH.le I699 I_ ∧ Ok ⟨156, [], none⟩ [(1, .pointer (some ⟨b12, 0, none⟩)), (3, .int .i64 s697), (4, .int .i64 s941)] c ∧ Sym w0 M I I_ [pto b12 (.cells #[.int .i64 a0.Rows, .int .i64 a0.Cols, .slice p1 a0.Start.length c2, .slice p4 a0.Col.length c5, .slice p7 a0.Val.length c8] 39 (0, 0))] w) (fun c w ho hs => ⟨I699, (.refl _), ho.sub ⟨r, r, r, trivial⟩, hs.pick (.c .z .n)⟩) ?_)))))
   rintro s941 next942 hd c w hst
   obtain ⟨I943, hl944, hok, hsym⟩ := hst
   have le945 := IH.le.trans le701 hl944
   have le946 := IH.le.trans (.refl _) hl944
   replace R3 := R3.mono hl944
   replace R6 := R6.mono hl944
   replace R9 := R9.mono hl944
   refine Cod.at hok hsym (.seq (.seq (.region (.skips 1 r (.fieldAddr underlying39 r sizeOf36 r (o := 2) r r r (.load1 isAgg36 r .z r r r (.skips 1 r (.add r r r r ?_))))))))
   obtain ⟨h957, x958, hx959, hd⟩ := hd
   obtain ⟨b960, o961, cs962, e963, hC964, hr965⟩ := R3.2 _ _ hx959
   cases hr965
   refine .ixa underlying36 sizeOf3 r e963 r h957 (idx_lt hx959 h957) r r (.ld1 (j := 0) isAgg3 hC964 r r r r r (.lt r r r r (.nilS [114, 4, 3, 1] r r (.condP r hd (fun hb966 hd => ?_) fun hb966 hd => ?_))))
   · refine .skipS [4, 3, 1] r r (.seq (.block (.seq (.draw [some 0, some 1, some 2, some 3, some 4, some 5, some 6, some 7, some 8, some 9, some 10, some 11, some 12, some 13, some 14, some 15, some 16, some 17, some 18, some 19, some 20, some 21, some 22, some 23, some 24, some 25, some 26, some 27, some 28, some 29, some 30, some 31, some 32, some 33, some 34, some 35, some 36, some 37, some 38] 39 MX (by kernel_rfl) (by kernel_rfl) (by kernel_rfl) (by kernel_rfl) (by kernel_rfl) (by kernel_rfl) (by kernel_rfl) (fun ex => (pto b12 (.cells #[.int .i64 a0.Rows, .int .i64 a0.Cols, .slice p1 a0.Start.length c2, .slice p4 a0.Col.length c5, .slice p7 a0.Val.length c8] 39 (0, 0))) :: ex) (fun _ _ => (.s .z)) r (.f [] r (by kernel_rfl) r r (fun ex => .fieldAddr underlying39 r sizeOf36 r (o := 3) r r r .mk) (.f [0] r (by kernel_rfl) r r (fun ex => .load1 isAgg36 r .z r r r .mk) (.fs [[]] r (by kernel_rfl) ?_)))))))
     obtain ⟨h967, x968, hx969, hd⟩ := hd
     obtain ⟨b970, o971, cs972, e973, hC974, hr975⟩ := R6.2 _ _ hx969
     cases hr975
     refine .f [1, 2] r (by kernel_rfl) r r (fun ex => .ixa underlying36 sizeOf3 r e973 r h967 (idx_lt hx969 h967) r r .mk) (.f [3] r (by kernel_rfl) r r (fun ex => .ld1 (j := 0) isAgg3 hC974 r r r r r .mk) (.f [4] r (by kernel_rfl) r r (fun ex => .lt r r r r .mk) (.fs [[5]] r (by kernel_rfl) ?_)))
     refine splitP hd (fun hb976 hd => ?_) fun hb976 hd => ?_
     · rw [hb976]
       exact .fs [[6], [7, 6], [6], [8, 9, 6], [10, 6], [6], [12, 6], [11, 13, 6], [6, 14], [15, 6], [16], [16], [18, 16], [16], [19, 20, 16], [21, 16], [17, 22, 16], [23, 16, 16], [24], [25, 24], [24], [26, 27, 24], [28, 24], [24], [30, 24], [24], [32, 24], [31, 33, 24], [34, 24], [29, 35, 24], [24, 36, 16], [16, 37]] r (by kernel_rfl) (.e 39 (by kernel_rfl) (by kernel_rfl) (by kernel_rfl) (.nilS [155, 4, 3, 1] r r (.condKT r r (.seq (.region (.skips 1 r (.nilS [2] r r (.drop .z (.ret (pret results77 (.t r .n) le945 ⟨false, r, hd⟩))))))))))
     rw [hb976]
     refine .f [6] r (by kernel_rfl) r r (fun ex => .gyes r r r (.fieldAddr underlying39 r sizeOf36 r (o := 3) r r r .mk)) (.f [7, 6] r (by kernel_rfl) r r (fun ex => .gyes r r r (.load1 isAgg36 r .z r r r .mk)) (.fs [[6]] r (by kernel_rfl) ?_))
     obtain ⟨h977, x978, hx979, hd⟩ := hd
     obtain ⟨b980, o981, cs982, e983, hC984, hr985⟩ := R6.2 _ _ hx979
     cases hr985
     refine .f [8, 9, 6] r (by kernel_rfl) r r (fun ex => .gyes r r r (.ixa underlying36 sizeOf3 r e983 r h977 (idx_lt hx979 h977) r r .mk)) (.f [10, 6] r (by kernel_rfl) r r (fun ex => .gyes r r r (.ld1 (j := 0) isAgg3 hC984 r r r r r .mk)) (.f [6] r (by kernel_rfl) r r (fun ex => .gyes r r r (.fieldAddr underlying39 r sizeOf3 r (o := 1) r r r .mk)) (.f [12, 6] r (by kernel_rfl) r r (fun ex => .gyes r r r (.load1 isAgg3 r .z r r r .mk)) (.f [11, 13, 6] r (by kernel_rfl) r r (fun ex => .gyes r r r (.ge r r r r .mk)) (.fs [[6, 14], [15, 6]] r (by kernel_rfl) ?_)))))
     refine splitP hd (fun hb986 hd => ?_) fun hb986 hd => ?_
     · rw [hb986]
       exact .fs [[16], [16], [18, 16], [16], [19, 20, 16], [21, 16], [17, 22, 16], [23, 16, 16], [24], [25, 24], [24], [26, 27, 24], [28, 24], [24], [30, 24], [24], [32, 24], [31, 33, 24], [34, 24], [29, 35, 24], [24, 36, 16], [16, 37]] r (by kernel_rfl) (.e 39 (by kernel_rfl) (by kernel_rfl) (by kernel_rfl) (.nilS [155, 4, 3, 1] r r (.condKT r r (.seq (.region (.skips 1 r (.nilS [2] r r (.drop .z (.ret (pret results77 (.t r .n) le945 ⟨false, r, hd⟩))))))))))
     rw [hb986]
     refine .fs [[16]] r (by kernel_rfl) (.f [16] r (by kernel_rfl) r r (fun ex => .gyes r r r (.fieldAddr underlying39 r sizeOf36 r (o := 2) r r r .mk)) (.f [18, 16] r (by kernel_rfl) r r (fun ex => .gyes r r r (.load1 isAgg36 r .z r r r .mk)) (.fs [[16]] r (by kernel_rfl) ?_)))
     obtain ⟨h987, x988, hx989, hd⟩ := hd
     obtain ⟨b990, o991, cs992, e993, hC994, hr995⟩ := R3.2 _ _ hx989
     cases hr995
     refine .f [19, 20, 16] r (by kernel_rfl) r r (fun ex => .gyes r r r (.ixa underlying36 sizeOf3 r e993 r h987 (idx_lt hx989 h987) r r .mk)) (.f [21, 16] r (by kernel_rfl) r r (fun ex => .gyes r r r (.ld1 (j := 0) isAgg3 hC994 r r r r r .mk)) (.f [17, 22, 16] r (by kernel_rfl) r r (fun ex => .gyes r r r (.gt r r r r .mk)) (.fs [[23, 16, 16]] r (by kernel_rfl) ?_)))
     refine splitP hd (fun hb996 hd => ?_) fun hb996 hd => ?_
     · rw [hb996]
       refine .f [24] r (by kernel_rfl) r r (fun ex => .gyes r r r (.fieldAddr underlying39 r sizeOf36 r (o := 3) r r r .mk)) (.f [25, 24] r (by kernel_rfl) r r (fun ex => .gyes r r r (.load1 isAgg36 r .z r r r .mk)) (.fs [[24]] r (by kernel_rfl) ?_))
       obtain ⟨h997, x998, hx999, hd⟩ := hd
       obtain ⟨b1000, o1001, cs1002, e1003, hC1004, hr1005⟩ := R6.2 _ _ hx999
       cases hr1005
       refine .f [26, 27, 24] r (by kernel_rfl) r r (fun ex => .gyes r r r (.ixa underlying36 sizeOf3 r e1003 r h997 (idx_lt hx999 h997) r r .mk)) (.f [28, 24] r (by kernel_rfl) r r (fun ex => .gyes r r r (.ld1 (j := 0) isAgg3 hC1004 r r r r r .mk)) (.f [24] r (by kernel_rfl) r r (fun ex => .gyes r r r (.fieldAddr underlying39 r sizeOf36 r (o := 3) r r r .mk)) (.f [30, 24] r (by kernel_rfl) r r (fun ex => .gyes r r r (.load1 isAgg36 r .z r r r .mk)) (.fs [[24]] r (by kernel_rfl) (.f [32, 24] r (by kernel_rfl) r r (fun ex => .gyes r r r (.sub' r r r r .mk)) ?_)))))
       obtain ⟨h1006, x1007, hx1008, hd⟩ := hd
       obtain ⟨b1009, o1010, cs1011, e1012, hC1013, hr1014⟩ := R6.2 _ _ hx1008
       cases hr1014
       refine .f [31, 33, 24] r (by kernel_rfl) r r (fun ex => .gyes r r r (.ixa underlying36 sizeOf3 r e1012 r h1006 (idx_lt hx1008 h1006) r r .mk)) (.f [34, 24] r (by kernel_rfl) r r (fun ex => .gyes r r r (.ld1 (j := 0) isAgg3 hC1013 r r r r r .mk)) (.f [29, 35, 24] r (by kernel_rfl) r r (fun ex => .gyes r r r (.le' r r r r .mk)) (.fs [[24, 36, 16], [16, 37]] r (by kernel_rfl) (.e 39 (by kernel_rfl) (by kernel_rfl) (by kernel_rfl) (.nilS [155, 4, 3, 1] r r (.condP r hd (fun hb1015 hd => ?_) fun hb1015 hd => ?_))))))
       · exact .seq (.region (.skips 1 r (.nilS [2] r r (.drop .z (.ret (pret results77 (.t r .n) le945 ⟨false, r, hd⟩))))))
       exact .skipS [4, 3, 1] r r (.region (.skips 1 r (.add r r r r (.sub (E' := [(1, _), (3, _), (115, _), (116, _)]) ⟨r, r, r, r, trivial⟩ (.skips 1 r (.nil' fun c w ho hs => ⟨(w64 (s941 + 1)), hd, I943, le946, ho.sub ⟨r, r, r, trivial⟩, hs.pick (.c .z .n)⟩))))))
     rw [hb996]
     refine .fs [[24], [25, 24], [24], [26, 27, 24], [28, 24], [24], [30, 24], [24], [32, 24], [31, 33, 24], [34, 24], [29, 35, 24], [24, 36, 16], [16, 37]] r (by kernel_rfl) (.e 39 (by kernel_rfl) (by kernel_rfl) (by kernel_rfl) (.nilS [155, 4, 3, 1] r r (.condKF r r (.skipS [4, 3, 1] r r (.region (.skips 1 r (.add r r r r (.sub (E' := [(1, _), (3, _), (115, _), (116, _)]) ⟨r, r, r, r, trivial⟩ (.skips 1 r ?_)))))))))
     exact .nil' fun c w ho hs => ⟨(w64 (s941 + 1)), hd, I943, le946, ho.sub ⟨r, r, r, trivial⟩, hs.pick (.c .z .n)⟩
   exact .exitS [3, 1] r r (.region (.skips 1 r (.add r r r r (.sub (E' := [(1, _), (68, _), (69, _)]) ⟨r, r, r, trivial⟩ (.skips 1 r (.nil' fun c w ho hs => ⟨(w64 (s697 + 1)), hd, I943, le945, ho.sub ⟨r, r, trivial⟩, hs.pick (.c .z .n)⟩))))))
 exact .exitS [] r r (.drop .z (.seq (.region (.skips 1 r (.nilS [2] r r (.ret (pret results77 (.t r .n) le701 ⟨true, r, hd⟩)))))))

theorem W_ref07_Sure {I : IH} {a0 : Rows} {p1 : Option Addr} {c2 : Nat} {p4 : Option Addr} {c5 : Nat} {p7 : Option Addr} {c8 : Nat} {Q : Rows → Prop} (R3 : RepSl eI64 I p1 c2 a0.Start) (R6 : RepSl eI64 I p4 c5 a0.Col) (R9 : RepSl eI64 I p7 c8 a0.Val) (hd : ref07_Sure a0 Q) :
    PFun Tryz.prog 44 [.agg #[.int .i64 a0.Rows, .int .i64 a0.Cols, .slice p1 a0.Start.length c2, .slice p4 a0.Col.length c5, .slice p7 a0.Val.length c8]] I (fun I_ v => ∃ r p10 c11 p13 c14 p16 c17, v = .agg #[.int .i64 r.Rows, .int .i64 r.Cols, .slice p10 r.Start.length c11, .slice p13 r.Col.length c14, .slice p16 r.Val.length c17] ∧ RepSl eI64 I_ p10 c11 r.Start ∧ RepSl eI64 I_ p13 c14 r.Col ∧ RepSl eI64 I_ p16 c17 r.Val ∧ Q r) := by
 refine Fun.enter func44 r ntmps44 r (.c .n) fun w0 M => ?_
 refine .seq (.region (.boxA r r r fun b23 => ?_))
 refine .allocA zeroValue39 r r fun b25 => ?_
 refine .nilS [2, 1] r r (.seq (.seq (.region (.loadW isAgg39 sizeOf39 r (.s .z) r r r ?_))))
 have hw28 := W_ref07_Right (I := I) R3 R6 R9 hd
 refine .callP call77 r hw28 r r fun v29 hv30 => ?_
 obtain ⟨r27, rfl, hd⟩ := hv30
 refine .nilS [4, 2, 1] r r (.condP r hd (fun hb31 hd => ?_) fun hb31 hd => ?_)
 · exact .seq (.region (.loadW isAgg39 sizeOf39 r (.s .z) r r r (.storeA sizeOf39 r r .z (.t (.t (.t (.t (.t .nil))))) r r (.nilS [2] r r (.drop (.s .z) (.ret (pret results44 (.w isAgg39 sizeOf39 r .z r .n) (.refl _) ⟨a0, _, _, _, _, _, _, r, R3, R6, R9, hd⟩)))))))
 refine .skipS [2] r r (.drop (.s .z) (.seq (.region ?_)))
 have hw50 := W_ref07_Empty (I := I) hd
 refine .callO call70 r hw50 r r fun v36 I33 l37 hl34 hv35 => ?_
 obtain ⟨r32, p38, c39, p41, c42, p44, c45, rfl, rfl, hd⟩ := hv35
 have le51 := IH.le.trans (.refl _) hl34
 refine .storeA sizeOf39 r r (.s (.s (.s .z))) (.t (.t (.t (.t (.t .nil))))) r r (.nilS [2] r r (.pub .z fun I52 hl53 R54 => ?_))
 have le55 := IH.le.trans le51 hl53
 refine .pub .z fun I56 hl57 R58 => ?_
 have le59 := IH.le.trans le55 hl57
 replace R54 := R54.mono hl57
 refine .pub .z fun I60 hl61 R62 => ?_
 have le63 := IH.le.trans le59 hl61
 replace R54 := R54.mono hl61
 replace R58 := R58.mono hl61
 exact .ret (pret results44 (.w isAgg39 sizeOf39 r .z r .n) le63 ⟨r32, _, _, _, _, _, _, r, R54, R58, R62, hd⟩)

theorem W_ref07_built {I : IH} {a0 : Int} {a1 : Int} {a2 : List Triple} {p1 : Option Addr} {c2 : Nat} {Q : Rows → Prop} (R3 : RepSl eTriple I p1 c2 a2) (hd : ref07_built a0 a1 a2 Q) :
    PFun Tryz.prog 68 [.int .i64 a0, .int .i64 a1, .slice p1 a2.length c2] I (fun I_ v => ∃ r p4 c5 p7 c8 p10 c11, v = .agg #[.int .i64 r.Rows, .int .i64 r.Cols, .slice p4 r.Start.length c5, .slice p7 r.Col.length c8, .slice p10 r.Val.length c11] ∧ RepSl eI64 I_ p4 c5 r.Start ∧ RepSl eI64 I_ p7 c8 r.Col ∧ RepSl eI64 I_ p10 c11 r.Val ∧ Q r) := by
 refine Fun.enter func68 r ntmps68 r (.c (.c (.c .n))) fun w0 M => ?_
 refine .seq (.region (.allocA zeroValue39 r r fun b15 => ?_))
 refine .nilS [6, 2, 1, 0] r r (.seq (.region (.skips 2 r ?_)))
 have hw57 := W_ref07_Empty (I := I) hd
 refine .callO call70 r hw57 r r fun v43 I40 l44 hl41 hv42 => ?_
 obtain ⟨r39, p45, c46, p48, c49, p51, c52, rfl, rfl, hd⟩ := hv42
 have le58 := IH.le.trans (.refl _) hl41
 replace R3 := R3.mono hl41
 refine .allocA zeroValue39 r r fun b59 => ?_
 refine .storeA sizeOf39 r r .z (.t (.t (.t (.t (.t .nil))))) r r (.nilS [7, 6, 2, 0] r r (.seq (.seq (.region (.skips 1 r (.nilS [8, 7, 6, 2, 0] r r (.block (.loop hd (fun (s : (List Int) × (List Int) × (List Int) × Int) c w => match s with | (s394, s398, s402, s406) => ∃ I_ p395 c396 p399 c400 p403 c404, IH.le I40 I_ ∧ Ok ⟨58, [], none⟩ [(0, .int .i64 a0), (2, .slice p1 a2.length c2), (6, .pointer (some ⟨b15, 0, none⟩)), (7, .pointer (some ⟨b59, 0, none⟩)), (8, .int .i64 s406)] c ∧ Sym w0 M I I_ [pto b15 (.cells #[.int .i64 0, .int .i64 0, .slice none 0 0, .slice none 0 0, .slice none 0 0] 39 (0, 0)), pto b59 (.cells #[.int .i64 r39.Rows, .int .i64 r39.Cols, .slice p395 s394.length c396, .slice p399 s398.length c400, .slice p403 s402.length c404] 39 (0, 0)), OwnSl eI64 3 p395 c396 s394, OwnSl eI64 3 p399 c400 s398, OwnSl eI64 2 p403 c404 s402] w) (fun c w ho hs => ⟨I40, _, _, _, _, _, _, (.refl _), ho.sub ⟨r, r, r, r, r, trivial⟩, hs.pick (.c (.s (.s (.s (.s .z)))) (.c .z (.c .z (.c .z (.c .z .n)))))⟩) ?_))))))))
 rintro ⟨s394, s398, s402, s406⟩ next407 hd c w hst
 obtain ⟨I408, p395, c396, p399, c400, p403, c404, hl409, hok, hsym⟩ := hst
 have le410 := IH.le.trans le58 hl409
 have le411 := IH.le.trans (.refl _) hl409
 replace R3 := R3.mono hl409
 refine Cod.at hok hsym (.seq (.seq (.region (.skips 2 r (.len underlying31 r r r r (.lt r r r r (.nilS [16, 8, 7, 6, 2, 0] r r (.condP r hd (fun hb413 hd => ?_) fun hb413 hd => ?_))))))))
 · refine .skipS [8, 7, 6, 2, 0] r r (.seq (.block (.seq (.ownF (.s (.s .z)) fun hne432 => ?_))))
   refine .ownF (.s (.s (.s .z))) fun hne433 => ?_
   refine .ownF (.s (.s (.s (.s .z)))) fun hne434 => ?_
   refine .draw [some 0, some 1, some 2, some 3, some 4, some 5, some 6, some 7, some 8] 9 MX (by kernel_rfl) (by kernel_rfl) (by kernel_rfl) (by kernel_rfl) (by kernel_rfl) (by kernel_rfl) (by kernel_rfl) (fun ex => (pto b15 (.cells #[.int .i64 0, .int .i64 0, .slice none 0 0, .slice none 0 0, .slice none 0 0] 39 (0, 0))) :: (pto b59 (.cells #[.int .i64 r39.Rows, .int .i64 r39.Cols, .slice p395 s394.length c396, .slice p399 s398.length c400, .slice p403 s402.length c404] 39 (0, 0))) :: (OwnSl eI64 3 p395 c396 s394) :: (OwnSl eI64 3 p399 c400 s398) :: (OwnSl eI64 2 p403 c404 s402) :: ex) (fun _ _ => (.s (.s (.s (.s (.s .z)))))) r (.f [] r (by kernel_rfl) r r (fun ex => .fieldAddr underlying39 r sizeOf36 r (o := 3) r r r .mk) (.f [0] r (by kernel_rfl) r r (fun ex => .load1 isAgg36 r (.s .z) r r r .mk) (.fs [[], []] r (by kernel_rfl) ?_)))
   obtain ⟨h435, x436, hx437, hd⟩ := hd
   obtain ⟨b438, o439, cs440, e441, hC442, hr443⟩ := R3.2 _ _ hx437
   cases hr443
   refine .f [2, 3] r (by kernel_rfl) r r (fun ex => .ixa underlying31 sizeOf78 r e441 r h435 (idx_lt hx437 h435) r r .mk) (.f [4] r (by kernel_rfl) r r (fun ex => .fieldAddr underlying78 r sizeOf3 r (o := o439 + s406.toNat * 3 + 1) r r r .mk) (.f [5] r (by kernel_rfl) r r (fun ex => .ld1 (j := 1) isAgg3 hC442 r r r r r .mk) (.w [1, 0] [[], [6], [5, 6], [4, 5, 6], [4, 5, 6]] [6] r (by kernel_rfl) (by kernel_rfl) (by kernel_rfl) ((dropE_kept r r)) (.inr (dropE_kept r r)) fun ex => ?_)))
   refine .buildSlice 1 underlying36 sizeOf3 zeroValue3 r r (.c r r r .n) r r fun b444 => ?_
   refine .some (fun ex => (pto b444 (.cells #[.int .i64 x436.Col] 3 (0, 0))) :: (pto b15 (.cells #[.int .i64 0, .int .i64 0, .slice none 0 0, .slice none 0 0, .slice none 0 0] 39 (0, 0))) :: (pto b59 (.cells #[.int .i64 r39.Rows, .int .i64 r39.Cols, .slice p395 s394.length c396, .slice p399 s398.length c400, .slice p403 s402.length c404] 39 (0, 0))) :: (OwnSl eI64 3 p395 c396 s394) :: (OwnSl eI64 3 p399 c400 s398) :: (OwnSl eI64 2 p403 c404 s402) :: ex) r (fun _ _ => (.s (.s (.s (.s (.s (.s .z))))))) r (.cc [0] r (by kernel_rfl) r r r (fun ex => .load1 isAgg36 r (.s (.s .z)) r r r .mk) (.cc [] r (by kernel_rfl) r r r (fun ex => .fieldAddr underlying39 r sizeOf36 r (o := 3) r r r .mk) trivial)) (.w [] [[], [1]] [1, 7] r (by kernel_rfl) (by kernel_rfl) (by kernel_rfl) ((dropE_kept r r)) (.inr (dropE_kept r r)) fun ex => ?_)
   obtain ⟨hl446, hd⟩ := hd
   refine .append (ys := [x436.Col]) 8 (.s (.s (.s (.s .z)))) underlying36 underlying36 IN3 r r r r r r r r r (.box .z (.one r) r) hl446 r r fun p447 c448 => ?_
   refine .some (fun ex => (OwnSl eI64 3 p447 c448 (s398 ++ ([x436.Col]))) :: (pto b444 (.cells #[.int .i64 x436.Col] 3 (0, 0))) :: (pto b15 (.cells #[.int .i64 0, .int .i64 0, .slice none 0 0, .slice none 0 0, .slice none 0 0] 39 (0, 0))) :: (pto b59 (.cells #[.int .i64 r39.Rows, .int .i64 r39.Cols, .slice p395 s394.length c396, .slice p399 s398.length c400, .slice p403 s402.length c404] 39 (0, 0))) :: (OwnSl eI64 3 p395 c396 s394) :: (OwnSl eI64 2 p403 c404 s402) :: ex) r (fun _ _ => (.s (.s (.s (.s (.s (.s .z))))))) r trivial (.e 9 (by kernel_rfl) (by kernel_rfl) (by kernel_rfl) (.fieldAddr underlying39 r sizeOf36 r (o := 3) r r r (.store1 sizeOf36 r r (.s (.s (.s .z))) (.s (.s (.s (.t .nil)))) r (.nilS [8, 7, 6, 2, 0] r r (.drop (.s .z) (.seq (.ownF .z fun hne468 => ?_)))))))
   refine .ownF (.s (.s (.s .z))) fun hne469 => ?_
   refine .ownF (.s (.s (.s (.s .z)))) fun hne470 => ?_
   refine .draw [some 0, some 1, some 2, some 3, some 4, some 5, some 6, some 7, some 8] 9 MX (by kernel_rfl) (by kernel_rfl) (by kernel_rfl) (by kernel_rfl) (by kernel_rfl) (by kernel_rfl) (by kernel_rfl) (fun ex => (OwnSl eI64 3 p447 c448 (s398 ++ ([x436.Col]))) :: (pto b15 (.cells #[.int .i64 0, .int .i64 0, .slice none 0 0, .slice none 0 0, .slice none 0 0] 39 (0, 0))) :: (pto b59 (.cells #[.int .i64 r39.Rows, .int .i64 r39.Cols, .slice p395 s394.length c396, .slice p447 (s398 ++ ([x436.Col])).length c448, .slice p403 s402.length c404] 39 (0, 0))) :: (OwnSl eI64 3 p395 c396 s394) :: (OwnSl eI64 2 p403 c404 s402) :: ex) (fun _ _ => (.s (.s (.s (.s (.s .z)))))) r (.f [] r (by kernel_rfl) r r (fun ex => .fieldAddr underlying39 r sizeOf37 r (o := 4) r r r .mk) (.f [0] r (by kernel_rfl) r r (fun ex => .load1 isAgg37 r (.s (.s .z)) r r r .mk) (.fs [[], []] r (by kernel_rfl) ?_)))
   obtain ⟨h471, x472, hx473, hd⟩ := hd
   obtain ⟨b474, o475, cs476, e477, hC478, hr479⟩ := R3.2 _ _ hx473
   cases hr479
   refine .f [2, 3] r (by kernel_rfl) r r (fun ex => .ixa underlying31 sizeOf78 r e477 r h471 (idx_lt hx473 h471) r r .mk) (.f [4] r (by kernel_rfl) r r (fun ex => .fieldAddr underlying78 r sizeOf2 r (o := o475 + s406.toNat * 3 + 2) r r r .mk) (.f [5] r (by kernel_rfl) r r (fun ex => .ld1 (j := 2) isAgg2 hC478 r r r r r .mk) (.w [1, 0] [[], [6], [5, 6], [4, 5, 6], [4, 5, 6]] [6] r (by kernel_rfl) (by kernel_rfl) (by kernel_rfl) ((dropE_kept r r)) (.inr (dropE_kept r r)) fun ex => ?_)))
   refine .buildSlice 1 underlying37 sizeOf2 zeroValue2 r r (.c r r r .n) r r fun b480 => ?_
   refine .some (fun ex => (pto b480 (.cells #[.int .i64 x472.Val] 2 (0, 0))) :: (OwnSl eI64 3 p447 c448 (s398 ++ ([x436.Col]))) :: (pto b15 (.cells #[.int .i64 0, .int .i64 0, .slice none 0 0, .slice none 0 0, .slice none 0 0] 39 (0, 0))) :: (pto b59 (.cells #[.int .i64 r39.Rows, .int .i64 r39.Cols, .slice p395 s394.length c396, .slice p447 (s398 ++ ([x436.Col])).length c448, .slice p403 s402.length c404] 39 (0, 0))) :: (OwnSl eI64 3 p395 c396 s394) :: (OwnSl eI64 2 p403 c404 s402) :: ex) r (fun _ _ => (.s (.s (.s (.s (.s (.s .z))))))) r (.cc [0] r (by kernel_rfl) r r r (fun ex => .load1 isAgg37 r (.s (.s (.s .z))) r r r .mk) (.cc [] r (by kernel_rfl) r r r (fun ex => .fieldAddr underlying39 r sizeOf37 r (o := 4) r r r .mk) trivial)) (.w [] [[], [1]] [1, 7] r (by kernel_rfl) (by kernel_rfl) (by kernel_rfl) ((dropE_kept r r)) (.inr (dropE_kept r r)) fun ex => ?_)
   obtain ⟨hl482, hd⟩ := hd
   refine .append (ys := [x472.Val]) 8 (.s (.s (.s (.s (.s .z))))) underlying37 underlying37 IN2 r r r r r r r r r (.box .z (.one r) r) hl482 r r fun p483 c484 => ?_
   refine .some (fun ex => (OwnSl eI64 2 p483 c484 (s402 ++ ([x472.Val]))) :: (pto b480 (.cells #[.int .i64 x472.Val] 2 (0, 0))) :: (OwnSl eI64 3 p447 c448 (s398 ++ ([x436.Col]))) :: (pto b15 (.cells #[.int .i64 0, .int .i64 0, .slice none 0 0, .slice none 0 0, .slice none 0 0] 39 (0, 0))) :: (pto b59 (.cells #[.int .i64 r39.Rows, .int .i64 r39.Cols, .slice p395 s394.length c396, .slice p447 (s398 ++ ([x436.Col])).length c448, .slice p403 s402.length c404] 39 (0, 0))) :: (OwnSl eI64 3 p395 c396 s394) :: ex) r (fun _ _ => (.s (.s (.s (.s (.s (.s .z))))))) r trivial (.e 9 (by kernel_rfl) (by kernel_rfl) (by kernel_rfl) (.fieldAddr underlying39 r sizeOf37 r (o := 4) r r r (.store1 sizeOf37 r r (.s (.s (.s (.s .z)))) (.s (.s (.s (.s (.t .nil))))) r (.nilS [8, 7, 6, 2, 0] r r (.drop (.s .z) (.seq (.region (.skips 2 r ?_))))))))
   obtain ⟨h495, x496, hx497, hd⟩ := hd
   obtain ⟨b498, o499, cs500, e501, hC502, hr503⟩ := R3.2 _ _ hx497
   cases hr503
   refine .ixa underlying31 sizeOf78 r e501 r h495 (idx_lt hx497 h495) r r (.fieldAddr underlying78 r sizeOf3 r (o := o499 + s406.toNat * 3) r r r (.ld1 (j := 0) isAgg3 hC502 r r r r r (.add r r r r (.skips 1 r (.nilS [9, 8, 7, 6, 2, 0] r r (.block (.loop hd (fun (s : (List Int) × Int) c w => match s with | (s539, s543) => ∃ I_ p540 c541, IH.le I408 I_ ∧ Ok ⟨58, [], none⟩ [(0, .int .i64 a0), (2, .slice p1 a2.length c2), (6, .pointer (some ⟨b15, 0, none⟩)), (7, .pointer (some ⟨b59, 0, none⟩)), (8, .int .i64 s406), (9, .int .i64 s543)] c ∧ Sym w0 M I I_ [pto b15 (.cells #[.int .i64 0, .int .i64 0, .slice none 0 0, .slice none 0 0, .slice none 0 0] 39 (0, 0)), pto b59 (.cells #[.int .i64 r39.Rows, .int .i64 r39.Cols, .slice p540 s539.length c541, .slice p447 (s398 ++ ([x436.Col])).length c448, .slice p483 (s402 ++ ([x472.Val])).length c484] 39 (0, 0)), OwnSl eI64 3 p540 c541 s539, OwnSl eI64 3 p447 c448 (s398 ++ ([x436.Col])), OwnSl eI64 2 p483 c484 (s402 ++ ([x472.Val]))] w) (fun c w ho hs => ⟨I408, _, _, (.refl _), ho.sub ⟨r, r, r, r, r, r, trivial⟩, hs.pick (.c (.s (.s .z)) (.c (.s (.s .z)) (.c (.s (.s .z)) (.c (.s .z) (.c .z .n)))))⟩) ?_)))))))
   rintro ⟨s539, s543⟩ next544 hd c w hst
   obtain ⟨I545, p540, c541, hl546, hok, hsym⟩ := hst
   have le547 := IH.le.trans le410 hl546
   have le548 := IH.le.trans le411 hl546
   have le549 := IH.le.trans (.refl _) hl546
   replace R3 := R3.mono hl546
   refine Cod.at hok hsym (.seq (.seq (.region (.skips 2 r (.le' r r r r (.nilS [47, 9, 8, 7, 6, 2, 0] r r (.condP r hd (fun hb551 hd => ?_) fun hb551 hd => ?_)))))))
   · refine .skipS [9, 8, 7, 6, 2, 0] r r (.seq (.block (.region (.fieldAddr underlying39 r sizeOf36 r (o := 2) r r r (.load1 isAgg36 r (.s .z) r r r (.skips 1 r ?_))))))
     obtain ⟨h552, x553, hx554, hd⟩ := hd
     refine .ownNe (.s (.s .z)) (idx_ne hx554) fun b555 e556 => ?_
     cases e556
     refine .ixa0 underlying36 sizeOf3 r r h552 (idx_lt hx554 h552) r r (.lo1 (j := 0) isAgg3 (.s (.s .z)) hx554 r r r r r (.add r r r r ?_))
     obtain ⟨h557, x558, hx559, hd⟩ := hd
     refine .ixa0 underlying36 sizeOf3 r r h557 (idx_lt hx559 h557) r r (.stO1 (j := 0) (v' := (w64 (x553 + 1))) sizeOf3 (.s (.s .z)) hx559 r r r (.t .nil) r (.sub (E' := [(0, _), (2, _), (6, _), (7, _), (8, _), (9, _), (50, _), (51, .slice (some ⟨b555, 0, none⟩) (s539.set s543.toNat (w64 (x553 + 1))).length c541), (52, _), (53, _), (54, _), (55, _), (56, _)]) ⟨r, r, r, r, r, r, r, (by simp only [List.length_set]; rfl), r, r, r, r, r, trivial⟩ (.reat (.s .z) (B := pto b59 (.cells #[.int .i64 r39.Rows, .int .i64 r39.Cols, .slice (some ⟨b555, 0, none⟩) (s539.set s543.toNat (w64 (x553 + 1))).length c541, .slice p447 (s398 ++ ([x436.Col])).length c448, .slice p483 (s402 ++ ([x472.Val])).length c484] 39 (0, 0))) (by simp only [List.length_set]) (.nilS [9, 8, 7, 6, 2, 0] r r (.region (.skips 1 r (.add r r r r (.sub (E' := [(0, _), (2, _), (6, _), (7, _), (8, _), (48, _), (49, _)]) ⟨r, r, r, r, r, r, r, trivial⟩ (.skips 1 r ?_)))))))))
     exact .nil' fun c w ho hs => ⟨((s539.set s543.toNat (w64 (x553 + 1))), w64 (s543 + 1)), hd, I545, _, _, le549, ho.sub ⟨r, r, r, r, r, r, trivial⟩, hs.pick (.c .z (.c .z (.c .z (.c .z (.c .z .n)))))⟩
   exact .exitS [8, 7, 6, 2, 0] r r (.region (.skips 1 r (.add r r r r (.sub (E' := [(0, _), (2, _), (6, _), (7, _), (17, _), (18, _)]) ⟨r, r, r, r, r, r, trivial⟩ (.skips 1 r (.nil' fun c w ho hs => ⟨(s539, (s398 ++ ([x436.Col])), (s402 ++ ([x472.Val])), w64 (s406 + 1)), hd, I545, _, _, _, _, _, _, le548, ho.sub ⟨r, r, r, r, r, trivial⟩, hs.pick (.c .z (.c .z (.c .z (.c .z (.c .z .n)))))⟩))))))
 refine .exitS [7, 6] r r (.seq (.region (.loadW isAgg39 sizeOf39 r (.s .z) r r r (.storeA sizeOf39 r r .z (.t (.t (.t (.t (.t .nil))))) r r (.nilS [6] r r (.drop (.s .z) (.pub (.s .z) fun I560 hl561 R562 => ?_)))))))
 have le563 := IH.le.trans le410 hl561
 have le564 := IH.le.trans le411 hl561
 refine .pub (.s .z) fun I565 hl566 R567 => ?_
 have le568 := IH.le.trans le563 hl566
 have le569 := IH.le.trans le564 hl566
 replace R562 := R562.mono hl566
 refine .pub (.s .z) fun I570 hl571 R572 => ?_
 have le573 := IH.le.trans le568 hl571
 have le574 := IH.le.trans le569 hl571
 replace R562 := R562.mono hl571
 replace R567 := R567.mono hl571
 exact .ret (pret results68 (.w isAgg39 sizeOf39 r .z r .n) le573 ⟨({ Rows := r39.Rows, Cols := r39.Cols, Start := s394, Col := s398, Val := s402 } : Rows), _, _, _, _, _, _, r, R562, R567, R572, hd⟩)

theorem W_ref07_Triples {I : IH} {a0 : Rows} {p1 : Option Addr} {c2 : Nat} {p4 : Option Addr} {c5 : Nat} {p7 : Option Addr} {c8 : Nat} {Q : (List Triple) → Prop} (R3 : RepSl eI64 I p1 c2 a0.Start) (R6 : RepSl eI64 I p4 c5 a0.Col) (R9 : RepSl eI64 I p7 c8 a0.Val) (hd : ref07_Triples a0 Q) :
    PFun Tryz.prog 76 [.agg #[.int .i64 a0.Rows, .int .i64 a0.Cols, .slice p1 a0.Start.length c2, .slice p4 a0.Col.length c5, .slice p7 a0.Val.length c8]] I (fun I_ v => ∃ r p10 c11, v = .slice p10 r.length c11 ∧ RepSl eTriple I_ p10 c11 r ∧ Q r) := by
 refine Fun.enter func76 r ntmps76 r (.c .n) fun w0 M => ?_
 refine .seq (.region (.boxA r r r fun b15 => ?_))
 refine .skips 1 r (.nilS [1] r r (.seq (.region (.loadW isAgg39 sizeOf39 r .z r r r ?_))))
 have hw49 := W_ref07_Sure (I := I) R3 R6 R9 hd
 refine .call call44 r hw49 r r fun v38 I35 hl36 hv37 => ?_
 obtain ⟨r34, p40, c41, p43, c44, p46, c47, rfl, R42, R45, R48, hd⟩ := hv37
 have le50 := IH.le.trans (.refl _) hl36
 replace R3 := R3.mono hl36
 replace R6 := R6.mono hl36
 replace R9 := R9.mono hl36
 refine .storeA sizeOf39 r r .z (.t (.t (.t (.t (.t .nil))))) r r (.nilS [1] r r (.seq (.region (.skips 1 r (.nilS [3, 1] r r (.seq (.seq (.region (.skips 1 r ?_)))))))))
 refine .nilS [4, 3, 1] r r (.block (.own0 eTriple 78 (.loop hd (fun (s : (List Triple) × Int) c w => match s with | (s427, s431) => ∃ I_ p428 c429, IH.le I35 I_ ∧ Ok ⟨45, [], none⟩ [(1, .pointer (some ⟨b15, 0, none⟩)), (3, .slice p428 s427.length c429), (4, .int .i64 s431)] c ∧ Sym w0 M I I_ [pto b15 (.cells #[.int .i64 r34.Rows, .int .i64 r34.Cols, .slice p40 r34.Start.length c41, .slice p43 r34.Col.length c44, .slice p46 r34.Val.length c47] 39 (0, 0)), OwnSl eTriple 78 p428 c429 s427] w) (fun c w ho hs => ⟨I35, _, _, (.refl _), ho.sub ⟨r, r, r, trivial⟩, hs.pick (.c (.s .z) (.c .z .n))⟩) ?_)))
 rintro ⟨s427, s431⟩ next433 hd c w hst
 obtain ⟨I434, p428, c429, hl435, hok, hsym⟩ := hst
 have le436 := IH.le.trans le50 hl435
 have le437 := IH.le.trans (.refl _) hl435
 replace R42 := R42.mono hl435
 replace R45 := R45.mono hl435
 replace R48 := R48.mono hl435
 refine Cod.at hok hsym (.seq (.seq (.region (.skips 1 r (.fieldAddr underlying39 r sizeOf3 r (o := 0) r r r (.load1 isAgg3 r .z r r r (.lt r r r r (.nilS [11, 4, 3, 1] r r (.condP r hd (fun hb439 hd => ?_) fun hb439 hd => ?_)))))))))
 · refine .skipS [4, 3, 1] r r (.seq (.block (.seq (.region (.fieldAddr underlying39 r sizeOf36 r (o := 2) r r r (.load1 isAgg36 r .z r r r (.skips 1 r ?_)))))))
   obtain ⟨h449, x450, hx451, hd⟩ := hd
   obtain ⟨b452, o453, cs454, e455, hC456, hr457⟩ := R42.2 _ _ hx451
   cases hr457
   refine .ixa underlying36 sizeOf3 r e455 r h449 (idx_lt hx451 h449) r r (.ld1 (j := 0) isAgg3 hC456 r r r r r (.skips 1 r (.nilS [5, 4, 3, 1] r r (.block (.loop hd (fun (s : (List Triple) × Int) c w => match s with | (s563, s567) => ∃ I_ p564 c565, IH.le I434 I_ ∧ Ok ⟨45, [], none⟩ [(1, .pointer (some ⟨b15, 0, none⟩)), (3, .slice p564 s563.length c565), (4, .int .i64 s431), (5, .int .i64 s567)] c ∧ Sym w0 M I I_ [pto b15 (.cells #[.int .i64 r34.Rows, .int .i64 r34.Cols, .slice p40 r34.Start.length c41, .slice p43 r34.Col.length c44, .slice p46 r34.Val.length c47] 39 (0, 0)), OwnSl eTriple 78 p564 c565 s563] w) (fun c w ho hs => ⟨I434, _, _, (.refl _), ho.sub ⟨r, r, r, r, trivial⟩, hs.pick (.c .z (.c .z .n))⟩) ?_)))))
   rintro ⟨s563, s567⟩ next568 hd c w hst
   obtain ⟨I569, p564, c565, hl570, hok, hsym⟩ := hst
   have le571 := IH.le.trans le436 hl570
   have le572 := IH.le.trans le437 hl570
   have le573 := IH.le.trans (.refl _) hl570
   replace R42 := R42.mono hl570
   replace R45 := R45.mono hl570
   replace R48 := R48.mono hl570
   refine Cod.at hok hsym (.seq (.seq (.region (.skips 1 r (.fieldAddr underlying39 r sizeOf36 r (o := 2) r r r (.load1 isAgg36 r .z r r r (.skips 1 r (.add r r r r ?_))))))))
   obtain ⟨h584, x585, hx586, hd⟩ := hd
   obtain ⟨b587, o588, cs589, e590, hC591, hr592⟩ := R42.2 _ _ hx586
   cases hr592
   refine .ixa underlying36 sizeOf3 r e590 r h584 (idx_lt hx586 h584) r r (.ld1 (j := 0) isAgg3 hC591 r r r r r (.lt r r r r (.nilS [26, 5, 4, 3, 1] r r (.condP r hd (fun hb593 hd => ?_) fun hb593 hd => ?_))))
   · refine .skipS [5, 4, 3, 1] r r (.seq (.block (.ownF (.s .z) fun hne594 => ?_)))
     refine .draw [some 0, some 1, some 2, some 3, some 4, some 5, some 6, some 7, some 8, some 9, some 10, some 11, some 12, some 13, some 14] 15 MX (by kernel_rfl) (by kernel_rfl) (by kernel_rfl) (by kernel_rfl) (by kernel_rfl) (by kernel_rfl) (by kernel_rfl) (fun ex => (pto b15 (.cells #[.int .i64 r34.Rows, .int .i64 r34.Cols, .slice p40 r34.Start.length c41, .slice p43 r34.Col.length c44, .slice p46 r34.Val.length c47] 39 (0, 0))) :: (OwnSl eTriple 78 p564 c565 s563) :: ex) (fun _ _ => (.s (.s .z))) r (.fs [[], []] r (by kernel_rfl) (.f [] r (by kernel_rfl) r r (fun ex => .fieldAddr underlying39 r sizeOf36 r (o := 3) r r r .mk) (.f [2] r (by kernel_rfl) r r (fun ex => .load1 isAgg36 r .z r r r .mk) (.fs [[]] r (by kernel_rfl) ?_))))
     obtain ⟨h595, x596, hx597, hd⟩ := hd
     obtain ⟨b598, o599, cs600, e601, hC602, hr603⟩ := R45.2 _ _ hx597
     cases hr603
     refine .f [3, 4] r (by kernel_rfl) r r (fun ex => .ixa underlying36 sizeOf3 r e601 r h595 (idx_lt hx597 h595) r r .mk) (.f [5] r (by kernel_rfl) r r (fun ex => .ld1 (j := 0) isAgg3 hC602 r r r r r .mk) (.f [] r (by kernel_rfl) r r (fun ex => .fieldAddr underlying39 r sizeOf37 r (o := 4) r r r .mk) (.f [7] r (by kernel_rfl) r r (fun ex => .load1 isAgg37 r .z r r r .mk) (.fs [[]] r (by kernel_rfl) ?_))))
     obtain ⟨h604, x605, hx606, hd⟩ := hd
     obtain ⟨b607, o608, cs609, e610, hC611, hr612⟩ := R48.2 _ _ hx606
     cases hr612
     refine .f [8, 9] r (by kernel_rfl) r r (fun ex => .ixa underlying37 sizeOf2 r e610 r h604 (idx_lt hx606 h604) r r .mk) (.f [10] r (by kernel_rfl) r r (fun ex => .ld1 (j := 0) isAgg2 hC611 r r r r r .mk) (.f [1, 6, 11] r (by kernel_rfl) r r (fun ex => .build zeroValue78 underlying78 BI78 (.c r r r (.t .nil) (.c r r r (.s (.t .nil)) (.c r r r (.s (.s (.t .nil))) .n))) (by exact ⟨⟨_, _, r, r, r⟩, ⟨⟨_, _, r, r, r⟩, ⟨⟨_, _, r, r, r⟩, trivial⟩⟩⟩) r r .mk) (.w [0] [[], [12], [11, 12], [10, 11, 12], [10, 11, 12], [8, 10, 11, 12], [12], [6, 12], [5, 6, 12], [5, 6, 12], [3, 5, 6, 12], [12]] [12] r (by kernel_rfl) (by kernel_rfl) (by kernel_rfl) ((dropE_kept r r)) (.inr (dropE_kept r r)) fun ex => ?_)))
     refine .buildSlice 1 underlying31 sizeOf78 zeroValue78 r r (.c r r r .n) r r fun b613 => ?_
     refine .some (fun ex => (pto b613 (.cells #[.int .i64 s431, .int .i64 x596, .int .i64 x605] 78 (0, 0))) :: (pto b15 (.cells #[.int .i64 r34.Rows, .int .i64 r34.Cols, .slice p40 r34.Start.length c41, .slice p43 r34.Col.length c44, .slice p46 r34.Val.length c47] 39 (0, 0))) :: (OwnSl eTriple 78 p564 c565 s563) :: ex) r (fun _ _ => (.s (.s (.s .z)))) r (.ccs [[]] r r (by kernel_rfl) trivial) (.w [] [[]] [0, 13] r (by kernel_rfl) (by kernel_rfl) (by kernel_rfl) ((dropE_kept r r)) (.inr (dropE_kept r r)) fun ex => ?_)
     obtain ⟨hl615, hd⟩ := hd
     refine .append (ys := [({ Row := s431, Col := x596, Val := x605 } : Triple)]) 24 (.s (.s .z)) underlying31 underlying31 IN78 r r r r r r r r r (.box .z (.one r) r) hl615 r r fun p616 c617 => ?_
     refine .some (fun ex => (OwnSl eTriple 78 p616 c617 (s563 ++ ([({ Row := s431, Col := x596, Val := x605 } : Triple)]))) :: (pto b613 (.cells #[.int .i64 s431, .int .i64 x596, .int .i64 x605] 78 (0, 0))) :: (pto b15 (.cells #[.int .i64 r34.Rows, .int .i64 r34.Cols, .slice p40 r34.Start.length c41, .slice p43 r34.Col.length c44, .slice p46 r34.Val.length c47] 39 (0, 0))) :: ex) r (fun _ _ => (.s (.s (.s .z)))) r trivial (.e 15 (by kernel_rfl) (by kernel_rfl) (by kernel_rfl) (.sub (E' := [(1, _), (4, _), (5, _), (29, _), (30, _), (31, _), (32, _), (33, _), (34, _), (35, _), (36, _), (37, _), (38, _), (39, _), (40, _), (41, _), (42, _), (43, _)]) ⟨r, r, r, r, r, r, r, r, r, r, r, r, r, r, r, r, r, r, trivial⟩ (.skips 1 r (.nilS [3, 5, 4, 1] r r (.drop (.s .z) (.region (.skips 1 r (.add r r r r (.sub (E' := [(1, _), (4, _), (3, _), (27, _), (28, _)]) ⟨r, r, r, r, r, trivial⟩ ?_)))))))))
     exact .skips 1 r (.nil' fun c w ho hs => ⟨((s563 ++ ([({ Row := s431, Col := x596, Val := x605 } : Triple)])), w64 (s567 + 1)), hd, I569, _, _, le573, ho.sub ⟨r, r, r, r, trivial⟩, hs.pick (.c (.s .z) (.c .z .n))⟩)
   exact .exitS [4, 3, 1] r r (.region (.skips 1 r (.add r r r r (.sub (E' := [(1, _), (3, _), (12, _), (13, _)]) ⟨r, r, r, r, trivial⟩ (.skips 1 r (.nil' fun c w ho hs => ⟨(s563, w64 (s431 + 1)), hd, I569, _, _, le572, ho.sub ⟨r, r, r, trivial⟩, hs.pick (.c .z (.c .z .n))⟩))))))
 refine .exitS [3] r r (.drop .z (.seq (.region (.skips 2 r (.nilS [2] r r (.pub .z fun I619 hl620 R621 => ?_))))))
 have le622 := IH.le.trans le436 hl620
 have le623 := IH.le.trans le437 hl620
 exact .ret (pret results76 (.t r .n) le622 ⟨s427, _, _, r, R621, hd⟩)

theorem W_ref07_Turn {I : IH} {a0 : Rows} {p1 : Option Addr} {c2 : Nat} {p4 : Option Addr} {c5 : Nat} {p7 : Option Addr} {c8 : Nat} {Q : Rows → Prop} (R3 : RepSl eI64 I p1 c2 a0.Start) (R6 : RepSl eI64 I p4 c5 a0.Col) (R9 : RepSl eI64 I p7 c8 a0.Val) (hd : ref07_Turn a0 Q) :
    PFun Tryz.prog 42 [.agg #[.int .i64 a0.Rows, .int .i64 a0.Cols, .slice p1 a0.Start.length c2, .slice p4 a0.Col.length c5, .slice p7 a0.Val.length c8]] I (fun I_ v => ∃ r p10 c11 p13 c14 p16 c17, v = .agg #[.int .i64 r.Rows, .int .i64 r.Cols, .slice p10 r.Start.length c11, .slice p13 r.Col.length c14, .slice p16 r.Val.length c17] ∧ RepSl eI64 I_ p10 c11 r.Start ∧ RepSl eI64 I_ p13 c14 r.Col ∧ RepSl eI64 I_ p16 c17 r.Val ∧ Q r) := by
 refine Fun.enter func42 r ntmps42 r (.c .n) fun w0 M => ?_
 refine .seq (.region (.boxA r r r fun b23 => ?_))
 refine .allocA zeroValue39 r r fun b25 => ?_
 refine .nilS [2, 1] r r (.seq (.region (.loadW isAgg39 sizeOf39 r (.s .z) r r r ?_)))
 have hw59 := W_ref07_Sure (I := I) R3 R6 R9 hd
 refine .call call44 r hw59 r r fun v48 I45 hl46 hv47 => ?_
 obtain ⟨r44, p50, c51, p53, c54, p56, c57, rfl, R52, R55, R58, hd⟩ := hv47
 have le60 := IH.le.trans (.refl _) hl46
 replace R3 := R3.mono hl46
 replace R6 := R6.mono hl46
 replace R9 := R9.mono hl46
 refine .storeA sizeOf39 r r (.s .z) (.t (.t (.t (.t (.t .nil))))) r r (.nilS [2, 1] r r (.seq (.region (.loadW isAgg39 sizeOf39 r (.s .z) r r r ?_))))
 have hw81 := W_ref07_Triples (I := I45) R52 R55 R58 hd
 refine .call call76 r hw81 r r fun v76 I73 hl74 hv75 => ?_
 obtain ⟨r72, p78, c79, rfl, R80, hd⟩ := hv75
 have le82 := IH.le.trans le60 hl74
 replace R52 := R52.mono hl74
 replace R55 := R55.mono hl74
 replace R58 := R58.mono hl74
 refine .skips 1 r (.nilS [3, 2, 1] r r (.seq (.region (.skips 1 r (.nilS [4, 3, 2, 1] r r (.seq (.seq (.region (.skips 1 r ?_)))))))))
 refine .nilS [5, 4, 3, 2, 1] r r (.block (.own0 eTriple 78 (.loop hd (fun (s : (List Triple) × Int) c w => match s with | (s429, s433) => ∃ I_ p430 c431, IH.le I73 I_ ∧ Ok ⟨51, [], none⟩ [(1, .pointer (some ⟨b23, 0, none⟩)), (2, .pointer (some ⟨b25, 0, none⟩)), (3, .slice p78 r72.length c79), (4, .slice p430 s429.length c431), (5, .int .i64 s433)] c ∧ Sym w0 M I I_ [pto b23 (.cells #[.int .i64 r44.Rows, .int .i64 r44.Cols, .slice p50 r44.Start.length c51, .slice p53 r44.Col.length c54, .slice p56 r44.Val.length c57] 39 (0, 0)), pto b25 (.cells #[.int .i64 0, .int .i64 0, .slice none 0 0, .slice none 0 0, .slice none 0 0] 39 (0, 0)), OwnSl eTriple 78 p430 c431 s429] w) (fun c w ho hs => ⟨I73, _, _, (.refl _), ho.sub ⟨r, r, r, r, r, trivial⟩, hs.pick (.c (.s (.s .z)) (.c (.s .z) (.c .z .n)))⟩) ?_)))
 rintro ⟨s429, s433⟩ next435 hd c w hst
 obtain ⟨I436, p430, c431, hl437, hok, hsym⟩ := hst
 have le438 := IH.le.trans le82 hl437
 have le439 := IH.le.trans (.refl _) hl437
 replace R52 := R52.mono hl437
 replace R55 := R55.mono hl437
 replace R58 := R58.mono hl437
 replace R80 := R80.mono hl437
 refine Cod.at hok hsym (.seq (.seq (.region (.skips 1 r (.fieldAddr underlying39 r sizeOf3 r (o := 1) r r r (.load1 isAgg3 r .z r r r (.lt r r r r (.nilS [14, 5, 4, 3, 2, 1] r r (.condP r hd (fun hb441 hd => ?_) fun hb441 hd => ?_)))))))))
 · refine .skipS [5, 4, 3, 2, 1] r r (.seq (.block (.seq (.region (.skips 1 r (.nilS [6, 5, 4, 3, 2, 1] r r (.block (.loop hd (fun (s : (List Triple) × Int) c w => match s with | (s549, s553) => ∃ I_ p550 c551, IH.le I436 I_ ∧ Ok ⟨51, [], none⟩ [(1, .pointer (some ⟨b23, 0, none⟩)), (2, .pointer (some ⟨b25, 0, none⟩)), (3, .slice p78 r72.length c79), (4, .slice p550 s549.length c551), (5, .int .i64 s433), (6, .int .i64 s553)] c ∧ Sym w0 M I I_ [pto b23 (.cells #[.int .i64 r44.Rows, .int .i64 r44.Cols, .slice p50 r44.Start.length c51, .slice p53 r44.Col.length c54, .slice p56 r44.Val.length c57] 39 (0, 0)), pto b25 (.cells #[.int .i64 0, .int .i64 0, .slice none 0 0, .slice none 0 0, .slice none 0 0] 39 (0, 0)), OwnSl eTriple 78 p550 c551 s549] w) (fun c w ho hs => ⟨I436, _, _, (.refl _), ho.sub ⟨r, r, r, r, r, r, trivial⟩, hs.pick (.c .z (.c .z (.c .z .n)))⟩) ?_))))))))
   rintro ⟨s549, s553⟩ next554 hd c w hst
   obtain ⟨I555, p550, c551, hl556, hok, hsym⟩ := hst
   have le557 := IH.le.trans le438 hl556
   have le558 := IH.le.trans le439 hl556
   have le559 := IH.le.trans (.refl _) hl556
   replace R52 := R52.mono hl556
   replace R55 := R55.mono hl556
   replace R58 := R58.mono hl556
   replace R80 := R80.mono hl556
   refine Cod.at hok hsym (.seq (.seq (.region (.skips 2 r (.len underlying31 r r r r (.lt r r r r (.nilS [20, 6, 5, 4, 3, 2, 1] r r (.condP r hd (fun hb561 hd => ?_) fun hb561 hd => ?_))))))))
   · refine .skipS [6, 5, 4, 3, 2, 1] r r (.seq (.block (.seq (.region (.skips 2 r ?_)))))
     obtain ⟨h571, x572, hx573, hd⟩ := hd
     obtain ⟨b574, o575, cs576, e577, hC578, hr579⟩ := R80.2 _ _ hx573
     cases hr579
     refine .ixa underlying31 sizeOf78 r e577 r h571 (idx_lt hx573 h571) r r (.fieldAddr underlying78 r sizeOf3 r (o := o575 + s553.toNat * 3 + 1) r r r (.ld1 (j := 1) isAgg3 hC578 r r r r r (.skips 1 r (.eq r r r r (.nilS [29, 6, 5, 4, 3, 2, 1] r r (.condP r hd (fun hb580 hd => ?_) fun hb580 hd => ?_))))))
     · refine .ownF (.s (.s .z)) fun hne581 => ?_
       refine .draw [some 0, some 1, some 2, some 3, some 4, some 5, some 6, some 7, some 8, some 9, some 10, some 11, some 12, some 13, some 14] 15 MX (by kernel_rfl) (by kernel_rfl) (by kernel_rfl) (by kernel_rfl) (by kernel_rfl) (by kernel_rfl) (by kernel_rfl) (fun ex => (pto b23 (.cells #[.int .i64 r44.Rows, .int .i64 r44.Cols, .slice p50 r44.Start.length c51, .slice p53 r44.Col.length c54, .slice p56 r44.Val.length c57] 39 (0, 0))) :: (pto b25 (.cells #[.int .i64 0, .int .i64 0, .slice none 0 0, .slice none 0 0, .slice none 0 0] 39 (0, 0))) :: (OwnSl eTriple 78 p550 c551 s549) :: ex) (fun _ _ => (.s (.s (.s .z)))) r (.fs [[], [], [], []] r (by kernel_rfl) ?_)
       obtain ⟨h582, x583, hx584, hd⟩ := hd
       obtain ⟨b585, o586, cs587, e588, hC589, hr590⟩ := R80.2 _ _ hx584
       cases hr590
       refine .f [2, 3] r (by kernel_rfl) r r (fun ex => .ixa underlying31 sizeOf78 r e588 r h582 (idx_lt hx584 h582) r r .mk) (.f [4] r (by kernel_rfl) r r (fun ex => .fieldAddr underlying78 r sizeOf3 r (o := o586 + s553.toNat * 3) r r r .mk) (.f [5] r (by kernel_rfl) r r (fun ex => .ld1 (j := 0) isAgg3 hC589 r r r r r .mk) (.fs [[], []] r (by kernel_rfl) ?_)))
       obtain ⟨h591, x592, hx593, hd⟩ := hd
       obtain ⟨b594, o595, cs596, e597, hC598, hr599⟩ := R80.2 _ _ hx593
       cases hr599
       refine .f [7, 8] r (by kernel_rfl) r r (fun ex => .ixa underlying31 sizeOf78 r e597 r h591 (idx_lt hx593 h591) r r .mk) (.f [9] r (by kernel_rfl) r r (fun ex => .fieldAddr underlying78 r sizeOf2 r (o := o595 + s553.toNat * 3 + 2) r r r .mk) (.f [10] r (by kernel_rfl) r r (fun ex => .ld1 (j := 2) isAgg2 hC598 r r r r r .mk) (.f [1, 6, 11] r (by kernel_rfl) r r (fun ex => .build zeroValue78 underlying78 BI78 (.c r r r (.t .nil) (.c r r r (.s (.t .nil)) (.c r r r (.s (.s (.t .nil))) .n))) (by exact ⟨⟨_, _, r, r, r⟩, ⟨⟨_, _, r, r, r⟩, ⟨⟨_, _, r, r, r⟩, trivial⟩⟩⟩) r r .mk) (.w [0] [[], [12], [11, 12], [10, 11, 12], [9, 10, 11, 12], [9, 10, 11, 12], [12], [6, 12], [5, 6, 12], [4, 5, 6, 12], [4, 5, 6, 12], [12]] [12] r (by kernel_rfl) (by kernel_rfl) (by kernel_rfl) ((dropE_kept r r)) (.inr (dropE_kept r r)) fun ex => ?_))))
       refine .buildSlice 1 underlying31 sizeOf78 zeroValue78 r r (.c r r r .n) r r fun b600 => ?_
       refine .some (fun ex => (pto b600 (.cells #[.int .i64 s433, .int .i64 x583.Row, .int .i64 x592.Val] 78 (0, 0))) :: (pto b23 (.cells #[.int .i64 r44.Rows, .int .i64 r44.Cols, .slice p50 r44.Start.length c51, .slice p53 r44.Col.length c54, .slice p56 r44.Val.length c57] 39 (0, 0))) :: (pto b25 (.cells #[.int .i64 0, .int .i64 0, .slice none 0 0, .slice none 0 0, .slice none 0 0] 39 (0, 0))) :: (OwnSl eTriple 78 p550 c551 s549) :: ex) r (fun _ _ => (.s (.s (.s (.s .z))))) r (.ccs [[]] r r (by kernel_rfl) trivial) (.w [] [[]] [0, 13] r (by kernel_rfl) (by kernel_rfl) (by kernel_rfl) ((dropE_kept r r)) (.inr (dropE_kept r r)) fun ex => ?_)
       obtain ⟨hl602, hd⟩ := hd
       refine .append (ys := [({ Row := s433, Col := x583.Row, Val := x592.Val } : Triple)]) 24 (.s (.s (.s .z))) underlying31 underlying31 IN78 r r r r r r r r r (.box .z (.one r) r) hl602 r r fun p603 c604 => ?_
       refine .some (fun ex => (OwnSl eTriple 78 p603 c604 (s549 ++ ([({ Row := s433, Col := x583.Row, Val := x592.Val } : Triple)]))) :: (pto b600 (.cells #[.int .i64 s433, .int .i64 x583.Row, .int .i64 x592.Val] 78 (0, 0))) :: (pto b23 (.cells #[.int .i64 r44.Rows, .int .i64 r44.Cols, .slice p50 r44.Start.length c51, .slice p53 r44.Col.length c54, .slice p56 r44.Val.length c57] 39 (0, 0))) :: (pto b25 (.cells #[.int .i64 0, .int .i64 0, .slice none 0 0, .slice none 0 0, .slice none 0 0] 39 (0, 0))) :: ex) r (fun _ _ => (.s (.s (.s (.s .z))))) r trivial (.e 15 (by kernel_rfl) (by kernel_rfl) (by kernel_rfl) (.sub (E' := [(1, _), (2, _), (3, _), (5, _), (6, _), (29, _), (30, _), (31, _), (32, _), (33, _), (34, _), (35, _), (36, _), (37, _), (38, _), (39, _), (40, _), (41, _), (42, _), (43, _), (44, _)]) ⟨r, r, r, r, r, r, r, r, r, r, r, r, r, r, r, r, r, r, r, r, r, trivial⟩ (.skips 1 r (.nilS [4, 6, 5, 3, 2, 1] r r (.drop (.s .z) (.region (.skips 1 r (.add r r r r (.sub (E' := [(1, _), (2, _), (3, _), (5, _), (4, _), (21, _), (22, _)]) ⟨r, r, r, r, r, r, r, trivial⟩ ?_)))))))))
       exact .skips 1 r (.nil' fun c w ho hs => ⟨((s549 ++ ([({ Row := s433, Col := x583.Row, Val := x592.Val } : Triple)])), w64 (s553 + 1)), hd, I555, _, _, le559, ho.sub ⟨r, r, r, r, r, r, trivial⟩, hs.pick (.c (.s .z) (.c (.s .z) (.c .z .n)))⟩)
     exact .skipS [6, 5, 4, 3, 2, 1] r r (.region (.skips 1 r (.add r r r r (.sub (E' := [(1, _), (2, _), (3, _), (4, _), (5, _), (21, _), (22, _)]) ⟨r, r, r, r, r, r, r, trivial⟩ (.skips 1 r (.nil' fun c w ho hs => ⟨(s549, w64 (s553 + 1)), hd, I555, _, _, le559, ho.sub ⟨r, r, r, r, r, r, trivial⟩, hs.pick (.c .z (.c .z (.c .z .n)))⟩))))))
   exact .exitS [5, 4, 3, 2, 1] r r (.region (.skips 1 r (.add r r r r (.sub (E' := [(1, _), (2, _), (3, _), (4, _), (15, _), (16, _)]) ⟨r, r, r, r, r, r, trivial⟩ (.skips 1 r (.nil' fun c w ho hs => ⟨(s549, w64 (s433 + 1)), hd, I555, _, _, le558, ho.sub ⟨r, r, r, r, r, trivial⟩, hs.pick (.c .z (.c .z (.c .z .n)))⟩))))))
 refine .exitS [4, 2, 1] r r (.seq (.region (.fieldAddr underlying39 r sizeOf3 r (o := 1) r r r (.load1 isAgg3 r .z r r r (.fieldAddr underlying39 r sizeOf3 r (o := 0) r r r (.load1 isAgg3 r .z r r r (.skips 1 r (.pub (.s (.s .z)) fun I606 hl607 R608 => ?_))))))))
 have le609 := IH.le.trans le438 hl607
 have le610 := IH.le.trans le439 hl607
 replace R52 := R52.mono hl607
 replace R55 := R55.mono hl607
 replace R58 := R58.mono hl607
 have hw626 := W_ref07_built (I := I606) R608 hd
 refine .call call68 r hw626 r r fun v615 I612 hl613 hv614 => ?_
 obtain ⟨r611, p617, c618, p620, c621, p623, c624, rfl, R619, R622, R625, hd⟩ := hv614
 have le627 := IH.le.trans le609 hl613
 have le628 := IH.le.trans le610 hl613
 replace R52 := R52.mono hl613
 replace R55 := R55.mono hl613
 replace R58 := R58.mono hl613
 replace R608 := R608.mono hl613
 exact .storeA sizeOf39 r r (.s .z) (.t (.t (.t (.t (.t .nil))))) r r (.nilS [2] r r (.drop .z (.ret (pret results42 (.w isAgg39 sizeOf39 r .z r .n) le627 ⟨r611, _, _, _, _, _, _, r, R619, R622, R625, hd⟩))))

theorem W_ref07_Row {I : IH} {a0 : Rows} {a1 : Int} {p1 : Option Addr} {c2 : Nat} {p4 : Option Addr} {c5 : Nat} {p7 : Option Addr} {c8 : Nat} {Q : (List Item) → Prop} (R3 : RepSl eI64 I p1 c2 a0.Start) (R6 : RepSl eI64 I p4 c5 a0.Col) (R9 : RepSl eI64 I p7 c8 a0.Val) (hd : ref07_Row a0 a1 Q) :
    PFun Tryz.prog 43 [.agg #[.int .i64 a0.Rows, .int .i64 a0.Cols, .slice p1 a0.Start.length c2, .slice p4 a0.Col.length c5, .slice p7 a0.Val.length c8], .int .i64 a1] I (fun I_ v => ∃ r p10 c11, v = .slice p10 r.length c11 ∧ RepSl eItem I_ p10 c11 r ∧ Q r) := by
 refine Fun.enter func43 r ntmps43 r (.c (.c .n)) fun w0 M => ?_
 refine .seq (.region (.boxA r r r fun b15 => ?_))
 refine .skips 1 r (.nilS [2, 1] r r (.seq (.region (.loadW isAgg39 sizeOf39 r .z r r r ?_))))
 have hw49 := W_ref07_Sure (I := I) R3 R6 R9 hd
 refine .call call44 r hw49 r r fun v38 I35 hl36 hv37 => ?_
 obtain ⟨r34, p40, c41, p43, c44, p46, c47, rfl, R42, R45, R48, hd⟩ := hv37
 have le50 := IH.le.trans (.refl _) hl36
 replace R3 := R3.mono hl36
 replace R6 := R6.mono hl36
 replace R9 := R9.mono hl36
 refine .storeA sizeOf39 r r .z (.t (.t (.t (.t (.t .nil))))) r r (.nilS [2, 1] r r (.seq (.region (.skips 1 r (.nilS [5, 2, 1] r r (.seq (.seq (.region (.skips 1 r ?_)))))))))
 refine .lt r r r r (.skips 1 r ?_)
 refine splitP hd (fun hb53 hd => ?_) fun hb53 hd => ?_
 · rw [hb53]
   exact .skips 5 r (.nilS [16, 5, 2, 1] r r (.condKT r r (.seq (.region (.skips 2 r (.nilS [4] r r (.drop .z (.ret (pret results43 (.t r .n) le50 ⟨([] : List Item), _, _, r, (.nil _ _ _), hd⟩)))))))))
 rw [hb53]
 refine .gyes r r r (.move r r r (.gyes r r r (.fieldAddr underlying39 r sizeOf3 r (o := 0) r r r (.gyes r r r (.load1 isAgg3 r .z r r r (.gyes r r r (.ge r r r r (.skips 1 r (.nilS [16, 5, 2, 1] r r (.condP r hd (fun hb54 hd => ?_) fun hb54 hd => ?_))))))))))
 · exact .seq (.region (.skips 2 r (.nilS [4] r r (.drop .z (.ret (pret results43 (.t r .n) le50 ⟨([] : List Item), _, _, r, (.nil _ _ _), hd⟩))))))
 refine .skipS [5, 2, 1] r r (.seq (.seq (.region (.fieldAddr underlying39 r sizeOf36 r (o := 2) r r r (.load1 isAgg36 r .z r r r (.skips 1 r ?_))))))
 obtain ⟨h64, x65, hx66, hd⟩ := hd
 obtain ⟨b67, o68, cs69, e70, hC71, hr72⟩ := R42.2 _ _ hx66
 cases hr72
 refine .ixa underlying36 sizeOf3 r e70 r h64 (idx_lt hx66 h64) r r (.ld1 (j := 0) isAgg3 hC71 r r r r r (.skips 1 r (.nilS [6, 5, 2, 1] r r (.block (.own0 eItem 80 (.loop hd (fun (s : (List Item) × Int) c w => match s with | (s178, s182) => ∃ I_ p179 c180, IH.le I35 I_ ∧ Ok ⟨48, [], none⟩ [(1, .int .i64 a1), (2, .pointer (some ⟨b15, 0, none⟩)), (5, .slice p179 s178.length c180), (6, .int .i64 s182)] c ∧ Sym w0 M I I_ [pto b15 (.cells #[.int .i64 r34.Rows, .int .i64 r34.Cols, .slice p40 r34.Start.length c41, .slice p43 r34.Col.length c44, .slice p46 r34.Val.length c47] 39 (0, 0)), OwnSl eItem 80 p179 c180 s178] w) (fun c w ho hs => ⟨I35, _, _, (.refl _), ho.sub ⟨r, r, r, r, trivial⟩, hs.pick (.c (.s .z) (.c .z .n))⟩) ?_))))))
 rintro ⟨s178, s182⟩ next184 hd c w hst
 obtain ⟨I185, p179, c180, hl186, hok, hsym⟩ := hst
 have le187 := IH.le.trans le50 hl186
 have le188 := IH.le.trans (.refl _) hl186
 replace R42 := R42.mono hl186
 replace R45 := R45.mono hl186
 replace R48 := R48.mono hl186
 refine Cod.at hok hsym (.seq (.seq (.region (.skips 1 r (.fieldAddr underlying39 r sizeOf36 r (o := 2) r r r (.load1 isAgg36 r .z r r r (.skips 1 r (.add r r r r ?_))))))))
 obtain ⟨h199, x200, hx201, hd⟩ := hd
 obtain ⟨b202, o203, cs204, e205, hC206, hr207⟩ := R42.2 _ _ hx201
 cases hr207
 refine .ixa underlying36 sizeOf3 r e205 r h199 (idx_lt hx201 h199) r r (.ld1 (j := 0) isAgg3 hC206 r r r r r (.lt r r r r (.nilS [30, 6, 5, 2, 1] r r (.condP r hd (fun hb208 hd => ?_) fun hb208 hd => ?_))))
 · refine .skipS [6, 5, 2, 1] r r (.seq (.block (.ownF (.s .z) fun hne209 => ?_)))
   refine .draw [some 0, some 1, some 2, some 3, some 4, some 5, some 6, some 7, some 8, some 9, some 10, some 11, some 12, some 13] 14 MX (by kernel_rfl) (by kernel_rfl) (by kernel_rfl) (by kernel_rfl) (by kernel_rfl) (by kernel_rfl) (by kernel_rfl) (fun ex => (pto b15 (.cells #[.int .i64 r34.Rows, .int .i64 r34.Cols, .slice p40 r34.Start.length c41, .slice p43 r34.Col.length c44, .slice p46 r34.Val.length c47] 39 (0, 0))) :: (OwnSl eItem 80 p179 c180 s178) :: ex) (fun _ _ => (.s (.s .z))) r (.fs [[]] r (by kernel_rfl) (.f [] r (by kernel_rfl) r r (fun ex => .fieldAddr underlying39 r sizeOf36 r (o := 3) r r r .mk) (.f [1] r (by kernel_rfl) r r (fun ex => .load1 isAgg36 r .z r r r .mk) (.fs [[]] r (by kernel_rfl) ?_))))
   obtain ⟨h210, x211, hx212, hd⟩ := hd
   obtain ⟨b213, o214, cs215, e216, hC217, hr218⟩ := R45.2 _ _ hx212
   cases hr218
   refine .f [2, 3] r (by kernel_rfl) r r (fun ex => .ixa underlying36 sizeOf3 r e216 r h210 (idx_lt hx212 h210) r r .mk) (.f [4] r (by kernel_rfl) r r (fun ex => .ld1 (j := 0) isAgg3 hC217 r r r r r .mk) (.f [] r (by kernel_rfl) r r (fun ex => .fieldAddr underlying39 r sizeOf37 r (o := 4) r r r .mk) (.f [6] r (by kernel_rfl) r r (fun ex => .load1 isAgg37 r .z r r r .mk) (.fs [[]] r (by kernel_rfl) ?_))))
   obtain ⟨h219, x220, hx221, hd⟩ := hd
   obtain ⟨b222, o223, cs224, e225, hC226, hr227⟩ := R48.2 _ _ hx221
   cases hr227
   refine .f [7, 8] r (by kernel_rfl) r r (fun ex => .ixa underlying37 sizeOf2 r e225 r h219 (idx_lt hx221 h219) r r .mk) (.f [9] r (by kernel_rfl) r r (fun ex => .ld1 (j := 0) isAgg2 hC226 r r r r r .mk) (.f [5, 10] r (by kernel_rfl) r r (fun ex => .build zeroValue80 underlying80 BI80 (.c r r r (.t .nil) (.c r r r (.s (.t .nil)) .n)) (by exact ⟨⟨_, _, r, r, r⟩, ⟨⟨_, _, r, r, r⟩, trivial⟩⟩) r r .mk) (.w [0] [[], [11], [10, 11], [9, 10, 11], [9, 10, 11], [7, 9, 10, 11], [11], [5, 11], [4, 5, 11], [4, 5, 11], [2, 4, 5, 11]] [11] r (by kernel_rfl) (by kernel_rfl) (by kernel_rfl) ((dropE_kept r r)) (.inr (dropE_kept r r)) fun ex => ?_)))
   refine .buildSlice 1 underlying32 sizeOf80 zeroValue80 r r (.c r r r .n) r r fun b228 => ?_
   refine .some (fun ex => (pto b228 (.cells #[.int .i64 x211, .int .i64 x220] 80 (0, 0))) :: (pto b15 (.cells #[.int .i64 r34.Rows, .int .i64 r34.Cols, .slice p40 r34.Start.length c41, .slice p43 r34.Col.length c44, .slice p46 r34.Val.length c47] 39 (0, 0))) :: (OwnSl eItem 80 p179 c180 s178) :: ex) r (fun _ _ => (.s (.s (.s .z)))) r (.ccs [[]] r r (by kernel_rfl) trivial) (.w [] [[]] [0, 12] r (by kernel_rfl) (by kernel_rfl) (by kernel_rfl) ((dropE_kept r r)) (.inr (dropE_kept r r)) fun ex => ?_)
   obtain ⟨hl230, hd⟩ := hd
   refine .append (ys := [({ At := x211, Val := x220 } : Item)]) 16 (.s (.s .z)) underlying32 underlying32 IN80 r r r r r r r r r (.box .z (.one r) r) hl230 r r fun p231 c232 => ?_
   refine .some (fun ex => (OwnSl eItem 80 p231 c232 (s178 ++ ([({ At := x211, Val := x220 } : Item)]))) :: (pto b228 (.cells #[.int .i64 x211, .int .i64 x220] 80 (0, 0))) :: (pto b15 (.cells #[.int .i64 r34.Rows, .int .i64 r34.Cols, .slice p40 r34.Start.length c41, .slice p43 r34.Col.length c44, .slice p46 r34.Val.length c47] 39 (0, 0))) :: ex) r (fun _ _ => (.s (.s (.s .z)))) r trivial (.e 14 (by kernel_rfl) (by kernel_rfl) (by kernel_rfl) (.sub (E' := [(1, _), (2, _), (6, _), (33, _), (34, _), (35, _), (36, _), (37, _), (38, _), (39, _), (40, _), (41, _), (42, _), (43, _), (44, _), (45, _), (46, _)]) ⟨r, r, r, r, r, r, r, r, r, r, r, r, r, r, r, r, r, trivial⟩ (.skips 1 r (.nilS [5, 6, 2, 1] r r (.drop (.s .z) (.region (.skips 1 r (.add r r r r (.sub (E' := [(1, _), (2, _), (5, _), (31, _), (32, _)]) ⟨r, r, r, r, r, trivial⟩ ?_)))))))))
   exact .skips 1 r (.nil' fun c w ho hs => ⟨((s178 ++ ([({ At := x211, Val := x220 } : Item)])), w64 (s182 + 1)), hd, I185, _, _, le188, ho.sub ⟨r, r, r, r, trivial⟩, hs.pick (.c (.s .z) (.c .z .n))⟩)
 refine .exitS [5] r r (.drop .z (.seq (.region (.skips 2 r (.nilS [4] r r (.pub .z fun I234 hl235 R236 => ?_))))))
 have le237 := IH.le.trans le187 hl235
 have le238 := IH.le.trans le188 hl235
 exact .ret (pret results43 (.t r .n) le237 ⟨s178, _, _, r, R236, hd⟩)

theorem W_ref08_Of {I : IH} {a0 : Rows} {p1 : Option Addr} {c2 : Nat} {p4 : Option Addr} {c5 : Nat} {p7 : Option Addr} {c8 : Nat} {Q : Columns → Prop} (R3 : RepSl eI64 I p1 c2 a0.Start) (R6 : RepSl eI64 I p4 c5 a0.Col) (R9 : RepSl eI64 I p7 c8 a0.Val) (hd : ref08_Of a0 Q) :
    PFun Tryz.prog 16 [.agg #[.int .i64 a0.Rows, .int .i64 a0.Cols, .slice p1 a0.Start.length c2, .slice p4 a0.Col.length c5, .slice p7 a0.Val.length c8]] I (fun I_ v => ∃ r p10 c11 p13 c14 p16 c17 p19 c20, v = .agg #[.int .i64 r.Rows, .int .i64 r.Cols, .slice p10 r.At.length c11, .slice p13 r.Start.length c14, .slice p16 r.Row.length c17, .slice p19 r.Val.length c20] ∧ RepSl eI64 I_ p10 c11 r.At ∧ RepSl eI64 I_ p13 c14 r.Start ∧ RepSl eI64 I_ p16 c17 r.Row ∧ RepSl eI64 I_ p19 c20 r.Val ∧ Q r) := by
 refine Fun.enter func16 r ntmps16 r (.c .n) fun w0 M => ?_
 refine .seq (.region (.boxA r r r fun b26 => ?_))
 refine .allocA zeroValue50 r r fun b28 => ?_
 refine .nilS [2, 1] r r (.seq (.region (.loadW isAgg39 sizeOf39 r (.s .z) r r r ?_)))
 have hw64 := W_ref07_Turn (I := I) R3 R6 R9 hd
 refine .call call42 r hw64 r r fun v53 I50 hl51 hv52 => ?_
 obtain ⟨r49, p55, c56, p58, c59, p61, c62, rfl, R57, R60, R63, hd⟩ := hv52
 have le65 := IH.le.trans (.refl _) hl51
 replace R3 := R3.mono hl51
 replace R6 := R6.mono hl51
 replace R9 := R9.mono hl51
 refine .allocA zeroValue39 r r fun b66 => ?_
 refine .storeA sizeOf39 r r .z (.t (.t (.t (.t (.t .nil))))) r r (.nilS [3, 2] r r (.drop (.s (.s .z)) (.seq (.region (.fieldAddr underlying39 r sizeOf3 r (o := 1) r r r (.load1 isAgg3 r .z r r r (.fieldAddr underlying39 r sizeOf3 r (o := 0) r r r (.load1 isAgg3 r .z r r r (.buildSlice 1 underlying36 sizeOf3 zeroValue3 r r (.c r r r .n) r r fun b73 => ?_)))))))))
 refine .ownB (El := eI64) (ys := ([0] : List Int)) .z (.one r) r (.build zeroValue50 underlying50 BI50 (.c r r r (.t .nil) (.c r r r (.s (.t .nil)) (.c r r r (.s (.s (.s (.t .nil)))) .n))) (by exact ⟨⟨_, _, r, r, r⟩, ⟨⟨_, _, r, r, r⟩, ⟨⟨_, _, r, r, r⟩, trivial⟩⟩⟩) r r (.allocA zeroValue50 r r fun b76 => ?_))
 refine .storeA sizeOf50 r r .z (.t (.t (.t (.t (.t (.t .nil)))))) r r (.nilS [4, 3, 2] r r (.seq (.seq (.region (.skips 1 r (.nilS [5, 4, 3, 2] r r (.block (.own0 eI64 3 (.own0 eI64 3 ?_)))))))))
 refine .own0 eI64 2 (.loop hd (fun (s : (List Int) × (List Int) × (List Int) × (List Int) × Int) c w => match s with | (s652, s656, s660, s664, s668) => ∃ I_ p653 c654 p657 c658 p661 c662 p665 c666, IH.le I50 I_ ∧ Ok ⟨69, [], none⟩ [(2, .pointer (some ⟨b28, 0, none⟩)), (3, .pointer (some ⟨b66, 0, none⟩)), (4, .pointer (some ⟨b76, 0, none⟩)), (5, .int .i64 s668)] c ∧ Sym w0 M I I_ [pto b28 (.cells #[.int .i64 0, .int .i64 0, .slice none 0 0, .slice none 0 0, .slice none 0 0, .slice none 0 0] 50 (0, 0)), pto b66 (.cells #[.int .i64 r49.Rows, .int .i64 r49.Cols, .slice p55 r49.Start.length c56, .slice p58 r49.Col.length c59, .slice p61 r49.Val.length c62] 39 (0, 0)), pto b76 (.cells #[.int .i64 r49.Cols, .int .i64 r49.Rows, .slice p653 s652.length c654, .slice p657 s656.length c658, .slice p661 s660.length c662, .slice p665 s664.length c666] 50 (0, 0)), OwnSl eI64 3 p653 c654 s652, OwnSl eI64 3 p657 c658 s656, OwnSl eI64 3 p661 c662 s660, OwnSl eI64 2 p665 c666 s664] w) (fun c w ho hs => ⟨I50, _, _, _, _, _, _, _, _, (.refl _), ho.sub ⟨r, r, r, r, trivial⟩, hs.pick (.c (.s (.s (.s (.s (.s (.s .z)))))) (.c (.s (.s (.s (.s (.s .z))))) (.c (.s (.s (.s .z))) (.c (.s (.s .z)) (.c (.s (.s .z)) (.c (.s .z) (.c .z .n)))))))⟩) ?_)
 rintro ⟨s652, s656, s660, s664, s668⟩ next672 hd c w hst
 obtain ⟨I673, p653, c654, p657, c658, p661, c662, p665, c666, hl674, hok, hsym⟩ := hst
 have le675 := IH.le.trans le65 hl674
 have le676 := IH.le.trans (.refl _) hl674
 replace R57 := R57.mono hl674
 replace R60 := R60.mono hl674
 replace R63 := R63.mono hl674
 refine Cod.at hok hsym (.seq (.seq (.region (.skips 1 r (.fieldAddr underlying39 r sizeOf3 r (o := 0) r r r (.load1 isAgg3 r (.s .z) r r r (.lt r r r r (.nilS [19, 5, 4, 3, 2] r r (.condP r hd (fun hb678 hd => ?_) fun hb678 hd => ?_)))))))))
 · refine .skipS [5, 4, 3, 2] r r (.seq (.block (.seq (.region (.loadW isAgg39 sizeOf39 r (.s .z) r r r (.skips 1 r ?_))))))
   have hw700 := W_ref07_Row (I := I673) R57 R60 R63 hd
   refine .call call43 r hw700 r r fun v695 I692 hl693 hv694 => ?_
   obtain ⟨r691, p697, c698, rfl, R699, hd⟩ := hv694
   have le701 := IH.le.trans le675 hl693
   have le702 := IH.le.trans le676 hl693
   replace R57 := R57.mono hl693
   replace R60 := R60.mono hl693
   replace R63 := R63.mono hl693
   refine .skips 1 r (.nilS [6, 5, 4, 3, 2] r r (.seq (.seq (.region (.skips 1 r (.len underlying32 r r r r (.eq r r r r (.nilS [27, 6, 5, 4, 3, 2] r r (.condP r hd (fun hb704 hd => ?_) fun hb704 hd => ?_)))))))))
   · exact .exitS [5, 4, 3, 2] r r (.region (.skips 1 r (.add r r r r (.sub (E' := [(2, _), (3, _), (4, _), (20, _), (21, _)]) ⟨r, r, r, r, r, trivial⟩ (.skips 1 r (.nil' fun c w ho hs => ⟨(s652, s656, s660, s664, w64 (s668 + 1)), hd, I692, _, _, _, _, _, _, _, _, le702, ho.sub ⟨r, r, r, r, trivial⟩, hs.pick (.c .z (.c .z (.c .z (.c .z (.c .z (.c .z (.c .z .n)))))))⟩))))))
   refine .skipS [6, 5, 4, 3, 2] r r (.seq (.region (.fieldAddr underlying50 r sizeOf36 r (o := 2) r r r (.load1 isAgg36 r (.s (.s .z)) r r r (.skips 1 r (.buildSlice 1 underlying36 sizeOf3 zeroValue3 r r (.c r r r .n) r r fun b711 => ?_))))))
   obtain ⟨hl713, hd⟩ := hd
   refine .append (ys := [s668]) 8 (.s (.s (.s (.s .z)))) underlying36 underlying36 IN3 r r r r r r r r r (.box .z (.one r) r) hl713 r r fun p714 c715 => ?_
   refine .fieldAddr underlying50 r sizeOf36 r (o := 2) r r r (.store1 sizeOf36 r r (.s (.s (.s (.s .z)))) (.s (.s (.t .nil))) r (.nilS [6, 5, 4, 3, 2] r r (.drop (.s .z) (.seq (.seq (.region (.skips 1 r (.nilS [7, 6, 5, 4, 3, 2] r r (.block ?_)))))))))
   refine .loop hd (fun (s : (List Int) × (List Int) × Int) c w => match s with | (s862, s866, s870) => ∃ I_ p863 c864 p867 c868, IH.le I692 I_ ∧ Ok ⟨69, [], none⟩ [(2, .pointer (some ⟨b28, 0, none⟩)), (3, .pointer (some ⟨b66, 0, none⟩)), (4, .pointer (some ⟨b76, 0, none⟩)), (5, .int .i64 s668), (6, .slice p697 r691.length c698), (7, .int .i64 s870)] c ∧ Sym w0 M I I_ [pto b28 (.cells #[.int .i64 0, .int .i64 0, .slice none 0 0, .slice none 0 0, .slice none 0 0, .slice none 0 0] 50 (0, 0)), pto b66 (.cells #[.int .i64 r49.Rows, .int .i64 r49.Cols, .slice p55 r49.Start.length c56, .slice p58 r49.Col.length c59, .slice p61 r49.Val.length c62] 39 (0, 0)), pto b76 (.cells #[.int .i64 r49.Cols, .int .i64 r49.Rows, .slice p714 (s652 ++ ([s668])).length c715, .slice p657 s656.length c658, .slice p863 s862.length c864, .slice p867 s866.length c868] 50 (0, 0)), OwnSl eI64 3 p714 c715 (s652 ++ ([s668])), OwnSl eI64 3 p657 c658 s656, OwnSl eI64 3 p863 c864 s862, OwnSl eI64 2 p867 c868 s866] w) (fun c w ho hs => ⟨I692, _, _, _, _, (.refl _), ho.sub ⟨r, r, r, r, r, r, trivial⟩, hs.pick (.c (.s .z) (.c (.s .z) (.c (.s .z) (.c .z (.c .z (.c .z (.c .z .n)))))))⟩) ?_
   rintro ⟨s862, s866, s870⟩ next871 hd c w hst
   obtain ⟨I872, p863, c864, p867, c868, hl873, hok, hsym⟩ := hst
   have le874 := IH.le.trans le701 hl873
   have le875 := IH.le.trans le702 hl873
   have le876 := IH.le.trans (.refl _) hl873
   replace R57 := R57.mono hl873
   replace R60 := R60.mono hl873
   replace R63 := R63.mono hl873
   replace R699 := R699.mono hl873
   refine Cod.at hok hsym (.seq (.seq (.region (.skips 2 r (.len underlying32 r r r r (.lt r r r r (.nilS [37, 7, 6, 5, 4, 3, 2] r r (.condP r hd (fun hb878 hd => ?_) fun hb878 hd => ?_))))))))
   · refine .skipS [7, 6, 5, 4, 3, 2] r r (.seq (.block (.seq (.ownF (.s (.s (.s .z))) fun hne898 => ?_))))
     refine .ownF (.s (.s (.s (.s .z)))) fun hne899 => ?_
     refine .ownF (.s (.s (.s (.s (.s .z))))) fun hne900 => ?_
     refine .ownF (.s (.s (.s (.s (.s (.s .z)))))) fun hne901 => ?_
     refine .draw [some 0, some 1, some 2, some 3, some 4, some 5, some 6, some 7, some 8] 9 MX (by kernel_rfl) (by kernel_rfl) (by kernel_rfl) (by kernel_rfl) (by kernel_rfl) (by kernel_rfl) (by kernel_rfl) (fun ex => (pto b28 (.cells #[.int .i64 0, .int .i64 0, .slice none 0 0, .slice none 0 0, .slice none 0 0, .slice none 0 0] 50 (0, 0))) :: (pto b66 (.cells #[.int .i64 r49.Rows, .int .i64 r49.Cols, .slice p55 r49.Start.length c56, .slice p58 r49.Col.length c59, .slice p61 r49.Val.length c62] 39 (0, 0))) :: (pto b76 (.cells #[.int .i64 r49.Cols, .int .i64 r49.Rows, .slice p714 (s652 ++ ([s668])).length c715, .slice p657 s656.length c658, .slice p863 s862.length c864, .slice p867 s866.length c868] 50 (0, 0))) :: (OwnSl eI64 3 p714 c715 (s652 ++ ([s668]))) :: (OwnSl eI64 3 p657 c658 s656) :: (OwnSl eI64 3 p863 c864 s862) :: (OwnSl eI64 2 p867 c868 s866) :: ex) (fun _ _ => (.s (.s (.s (.s (.s (.s (.s .z)))))))) r (.f [] r (by kernel_rfl) r r (fun ex => .fieldAddr underlying50 r sizeOf36 r (o := 4) r r r .mk) (.f [0] r (by kernel_rfl) r r (fun ex => .load1 isAgg36 r (.s (.s .z)) r r r .mk) (.fs [[], []] r (by kernel_rfl) ?_)))
     obtain ⟨h902, x903, hx904, hd⟩ := hd
     obtain ⟨b905, o906, cs907, e908, hC909, hr910⟩ := R699.2 _ _ hx904
     cases hr910
     refine .f [2, 3] r (by kernel_rfl) r r (fun ex => .ixa underlying32 sizeOf80 r e908 r h902 (idx_lt hx904 h902) r r .mk) (.f [4] r (by kernel_rfl) r r (fun ex => .fieldAddr underlying80 r sizeOf3 r (o := o906 + s870.toNat * 2) r r r .mk) (.f [5] r (by kernel_rfl) r r (fun ex => .ld1 (j := 0) isAgg3 hC909 r r r r r .mk) (.w [1, 0] [[], [6], [5, 6], [4, 5, 6], [4, 5, 6]] [6] r (by kernel_rfl) (by kernel_rfl) (by kernel_rfl) ((dropE_kept r r)) (.inr (dropE_kept r r)) fun ex => ?_)))
     refine .buildSlice 1 underlying36 sizeOf3 zeroValue3 r r (.c r r r .n) r r fun b911 => ?_
     refine .some (fun ex => (pto b911 (.cells #[.int .i64 x903.At] 3 (0, 0))) :: (pto b28 (.cells #[.int .i64 0, .int .i64 0, .slice none 0 0, .slice none 0 0, .slice none 0 0, .slice none 0 0] 50 (0, 0))) :: (pto b66 (.cells #[.int .i64 r49.Rows, .int .i64 r49.Cols, .slice p55 r49.Start.length c56, .slice p58 r49.Col.length c59, .slice p61 r49.Val.length c62] 39 (0, 0))) :: (pto b76 (.cells #[.int .i64 r49.Cols, .int .i64 r49.Rows, .slice p714 (s652 ++ ([s668])).length c715, .slice p657 s656.length c658, .slice p863 s862.length c864, .slice p867 s866.length c868] 50 (0, 0))) :: (OwnSl eI64 3 p714 c715 (s652 ++ ([s668]))) :: (OwnSl eI64 3 p657 c658 s656) :: (OwnSl eI64 3 p863 c864 s862) :: (OwnSl eI64 2 p867 c868 s866) :: ex) r (fun _ _ => (.s (.s (.s (.s (.s (.s (.s (.s .z))))))))) r (.cc [0] r (by kernel_rfl) r r r (fun ex => .load1 isAgg36 r (.s (.s (.s .z))) r r r .mk) (.cc [] r (by kernel_rfl) r r r (fun ex => .fieldAddr underlying50 r sizeOf36 r (o := 4) r r r .mk) trivial)) (.w [] [[], [1]] [1, 7] r (by kernel_rfl) (by kernel_rfl) (by kernel_rfl) ((dropE_kept r r)) (.inr (dropE_kept r r)) fun ex => ?_)
     obtain ⟨hl913, hd⟩ := hd
     refine .append (ys := [x903.At]) 8 (.s (.s (.s (.s (.s (.s .z)))))) underlying36 underlying36 IN3 r r r r r r r r r (.box .z (.one r) r) hl913 r r fun p914 c915 => ?_
     refine .some (fun ex => (OwnSl eI64 3 p914 c915 (s862 ++ ([x903.At]))) :: (pto b911 (.cells #[.int .i64 x903.At] 3 (0, 0))) :: (pto b28 (.cells #[.int .i64 0, .int .i64 0, .slice none 0 0, .slice none 0 0, .slice none 0 0, .slice none 0 0] 50 (0, 0))) :: (pto b66 (.cells #[.int .i64 r49.Rows, .int .i64 r49.Cols, .slice p55 r49.Start.length c56, .slice p58 r49.Col.length c59, .slice p61 r49.Val.length c62] 39 (0, 0))) :: (pto b76 (.cells #[.int .i64 r49.Cols, .int .i64 r49.Rows, .slice p714 (s652 ++ ([s668])).length c715, .slice p657 s656.length c658, .slice p863 s862.length c864, .slice p867 s866.length c868] 50 (0, 0))) :: (OwnSl eI64 3 p714 c715 (s652 ++ ([s668]))) :: (OwnSl eI64 3 p657 c658 s656) :: (OwnSl eI64 2 p867 c868 s866) :: ex) r (fun _ _ => (.s (.s (.s (.s (.s (.s (.s (.s .z))))))))) r trivial (.e 9 (by kernel_rfl) (by kernel_rfl) (by kernel_rfl) (.fieldAddr underlying50 r sizeOf36 r (o := 4) r r r (.store1 sizeOf36 r r (.s (.s (.s (.s .z)))) (.s (.s (.s (.s (.t .nil))))) r (.nilS [7, 6, 5, 4, 3, 2] r r (.drop (.s .z) (.ownF .z fun hne917 => ?_))))))
     refine .ownF (.s (.s (.s (.s .z)))) fun hne918 => ?_
     refine .ownF (.s (.s (.s (.s (.s .z))))) fun hne919 => ?_
     refine .ownF (.s (.s (.s (.s (.s (.s .z)))))) fun hne920 => ?_
     refine .draw [some 0, some 1, some 2, some 3, some 4, some 5, some 6, some 7, some 8] 9 MX (by kernel_rfl) (by kernel_rfl) (by kernel_rfl) (by kernel_rfl) (by kernel_rfl) (by kernel_rfl) (by kernel_rfl) (fun ex => (OwnSl eI64 3 p914 c915 (s862 ++ ([x903.At]))) :: (pto b28 (.cells #[.int .i64 0, .int .i64 0, .slice none 0 0, .slice none 0 0, .slice none 0 0, .slice none 0 0] 50 (0, 0))) :: (pto b66 (.cells #[.int .i64 r49.Rows, .int .i64 r49.Cols, .slice p55 r49.Start.length c56, .slice p58 r49.Col.length c59, .slice p61 r49.Val.length c62] 39 (0, 0))) :: (pto b76 (.cells #[.int .i64 r49.Cols, .int .i64 r49.Rows, .slice p714 (s652 ++ ([s668])).length c715, .slice p657 s656.length c658, .slice p914 (s862 ++ ([x903.At])).length c915, .slice p867 s866.length c868] 50 (0, 0))) :: (OwnSl eI64 3 p714 c715 (s652 ++ ([s668]))) :: (OwnSl eI64 3 p657 c658 s656) :: (OwnSl eI64 2 p867 c868 s866) :: ex) (fun _ _ => (.s (.s (.s (.s (.s (.s (.s .z)))))))) r (.f [] r (by kernel_rfl) r r (fun ex => .fieldAddr underlying50 r sizeOf37 r (o := 5) r r r .mk) (.f [0] r (by kernel_rfl) r r (fun ex => .load1 isAgg37 r (.s (.s (.s .z))) r r r .mk) (.fs [[], []] r (by kernel_rfl) ?_)))
     obtain ⟨h921, x922, hx923, hd⟩ := hd
     obtain ⟨b924, o925, cs926, e927, hC928, hr929⟩ := R699.2 _ _ hx923
     cases hr929
     refine .f [2, 3] r (by kernel_rfl) r r (fun ex => .ixa underlying32 sizeOf80 r e927 r h921 (idx_lt hx923 h921) r r .mk) (.f [4] r (by kernel_rfl) r r (fun ex => .fieldAddr underlying80 r sizeOf2 r (o := o925 + s870.toNat * 2 + 1) r r r .mk) (.f [5] r (by kernel_rfl) r r (fun ex => .ld1 (j := 1) isAgg2 hC928 r r r r r .mk) (.w [1, 0] [[], [6], [5, 6], [4, 5, 6], [4, 5, 6]] [6] r (by kernel_rfl) (by kernel_rfl) (by kernel_rfl) ((dropE_kept r r)) (.inr (dropE_kept r r)) fun ex => ?_)))
     refine .buildSlice 1 underlying37 sizeOf2 zeroValue2 r r (.c r r r .n) r r fun b930 => ?_
     refine .some (fun ex => (pto b930 (.cells #[.int .i64 x922.Val] 2 (0, 0))) :: (OwnSl eI64 3 p914 c915 (s862 ++ ([x903.At]))) :: (pto b28 (.cells #[.int .i64 0, .int .i64 0, .slice none 0 0, .slice none 0 0, .slice none 0 0, .slice none 0 0] 50 (0, 0))) :: (pto b66 (.cells #[.int .i64 r49.Rows, .int .i64 r49.Cols, .slice p55 r49.Start.length c56, .slice p58 r49.Col.length c59, .slice p61 r49.Val.length c62] 39 (0, 0))) :: (pto b76 (.cells #[.int .i64 r49.Cols, .int .i64 r49.Rows, .slice p714 (s652 ++ ([s668])).length c715, .slice p657 s656.length c658, .slice p914 (s862 ++ ([x903.At])).length c915, .slice p867 s866.length c868] 50 (0, 0))) :: (OwnSl eI64 3 p714 c715 (s652 ++ ([s668]))) :: (OwnSl eI64 3 p657 c658 s656) :: (OwnSl eI64 2 p867 c868 s866) :: ex) r (fun _ _ => (.s (.s (.s (.s (.s (.s (.s (.s .z))))))))) r (.cc [0] r (by kernel_rfl) r r r (fun ex => .load1 isAgg37 r (.s (.s (.s (.s .z)))) r r r .mk) (.cc [] r (by kernel_rfl) r r r (fun ex => .fieldAddr underlying50 r sizeOf37 r (o := 5) r r r .mk) trivial)) (.w [] [[], [1]] [1, 7] r (by kernel_rfl) (by kernel_rfl) (by kernel_rfl) ((dropE_kept r r)) (.inr (dropE_kept r r)) fun ex => ?_)
     obtain ⟨hl932, hd⟩ := hd
     refine .append (ys := [x922.Val]) 8 (.s (.s (.s (.s (.s (.s (.s .z))))))) underlying37 underlying37 IN2 r r r r r r r r r (.box .z (.one r) r) hl932 r r fun p933 c934 => ?_
     refine .some (fun ex => (OwnSl eI64 2 p933 c934 (s866 ++ ([x922.Val]))) :: (pto b930 (.cells #[.int .i64 x922.Val] 2 (0, 0))) :: (OwnSl eI64 3 p914 c915 (s862 ++ ([x903.At]))) :: (pto b28 (.cells #[.int .i64 0, .int .i64 0, .slice none 0 0, .slice none 0 0, .slice none 0 0, .slice none 0 0] 50 (0, 0))) :: (pto b66 (.cells #[.int .i64 r49.Rows, .int .i64 r49.Cols, .slice p55 r49.Start.length c56, .slice p58 r49.Col.length c59, .slice p61 r49.Val.length c62] 39 (0, 0))) :: (pto b76 (.cells #[.int .i64 r49.Cols, .int .i64 r49.Rows, .slice p714 (s652 ++ ([s668])).length c715, .slice p657 s656.length c658, .slice p914 (s862 ++ ([x903.At])).length c915, .slice p867 s866.length c868] 50 (0, 0))) :: (OwnSl eI64 3 p714 c715 (s652 ++ ([s668]))) :: (OwnSl eI64 3 p657 c658 s656) :: ex) r (fun _ _ => (.s (.s (.s (.s (.s (.s (.s (.s .z))))))))) r trivial (.e 9 (by kernel_rfl) (by kernel_rfl) (by kernel_rfl) (.fieldAddr underlying50 r sizeOf37 r (o := 5) r r r (.store1 sizeOf37 r r (.s (.s (.s (.s (.s .z))))) (.s (.s (.s (.s (.s (.t .nil)))))) r (.nilS [7, 6, 5, 4, 3, 2] r r (.drop (.s .z) (.region (.skips 1 r (.add r r r r (.sub (E' := [(2, _), (3, _), (4, _), (5, _), (6, _), (38, _), (39, _)]) ⟨r, r, r, r, r, r, r, trivial⟩ ?_)))))))))
     exact .skips 1 r (.nil' fun c w ho hs => ⟨((s862 ++ ([x903.At])), (s866 ++ ([x922.Val])), w64 (s870 + 1)), hd, I872, _, _, _, _, le876, ho.sub ⟨r, r, r, r, r, r, trivial⟩, hs.pick (.c (.s (.s .z)) (.c (.s (.s .z)) (.c (.s (.s .z)) (.c (.s (.s .z)) (.c (.s (.s .z)) (.c (.s .z) (.c .z .n)))))))⟩)
   refine .exitS [5, 4, 3, 2] r r (.region (.fieldAddr underlying50 r sizeOf36 r (o := 3) r r r (.load1 isAgg36 r (.s (.s .z)) r r r (.fieldAddr underlying50 r sizeOf36 r (o := 4) r r r (.load1 isAgg36 r (.s (.s .z)) r r r (.len underlying36 r r r r (.buildSlice 1 underlying36 sizeOf3 zeroValue3 r r (.c r r r .n) r r fun b936 => ?_)))))))
   obtain ⟨hl938, hd⟩ := hd
   refine .append (ys := [(s862.length : Int)]) 8 (.s (.s (.s (.s (.s .z))))) underlying36 underlying36 IN3 r r r r r r r r r (.box .z (.one r) r) hl938 r r fun p939 c940 => ?_
   exact .fieldAddr underlying50 r sizeOf36 r (o := 3) r r r (.store1 sizeOf36 r r (.s (.s (.s (.s .z)))) (.s (.s (.s (.t .nil)))) r (.nilS [5, 4, 3, 2] r r (.drop (.s .z) (.region (.skips 1 r (.add r r r r (.sub (E' := [(2, _), (3, _), (4, _), (20, _), (21, _)]) ⟨r, r, r, r, r, trivial⟩ (.skips 1 r (.nil' fun c w ho hs => ⟨((s652 ++ ([s668])), (s656 ++ ([(s862.length : Int)])), s862, s866, w64 (s668 + 1)), hd, I872, _, _, _, _, _, _, _, _, le875, ho.sub ⟨r, r, r, r, trivial⟩, hs.pick (.c (.s .z) (.c (.s .z) (.c (.s .z) (.c (.s .z) (.c .z (.c .z (.c .z .n)))))))⟩)))))))))
 refine .exitS [4, 2] r r (.drop (.s .z) (.seq (.region (.loadW isAgg50 sizeOf50 r (.s .z) r r r (.storeA sizeOf50 r r .z (.t (.t (.t (.t (.t (.t .nil)))))) r r (.nilS [2] r r (.drop (.s .z) (.pub (.s .z) fun I942 hl943 R944 => ?_))))))))
 have le945 := IH.le.trans le675 hl943
 have le946 := IH.le.trans le676 hl943
 refine .pub (.s .z) fun I947 hl948 R949 => ?_
 have le950 := IH.le.trans le945 hl948
 have le951 := IH.le.trans le946 hl948
 replace R944 := R944.mono hl948
 refine .pub (.s .z) fun I952 hl953 R954 => ?_
 have le955 := IH.le.trans le950 hl953
 have le956 := IH.le.trans le951 hl953
 replace R944 := R944.mono hl953
 replace R949 := R949.mono hl953
 refine .pub (.s .z) fun I957 hl958 R959 => ?_
 have le960 := IH.le.trans le955 hl958
 have le961 := IH.le.trans le956 hl958
 replace R944 := R944.mono hl958
 replace R949 := R949.mono hl958
 replace R954 := R954.mono hl958
 exact .ret (pret results16 (.w isAgg50 sizeOf50 r .z r .n) le960 ⟨({ Rows := r49.Cols, Cols := r49.Rows, At := s652, Start := s656, Row := s660, Val := s664 } : Columns), _, _, _, _, _, _, _, _, r, R944, R949, R954, R959, hd⟩)

theorem W_flags_Of {I : IH} {a0 : Int} {a1 : List Int} {p1 : Option Addr} {c2 : Nat} {Q : (List Int) → Prop} (R3 : RepSl eI64 I p1 c2 a1) (hd : flags_Of a0 a1 Q) :
    PFun Tryz.prog 91 [.int .i64 a0, .slice p1 a1.length c2] I (fun I_ v => ∃ r p4 c5, v = .slice p4 r.length c5 ∧ RepSl eU64 I_ p4 c5 r ∧ Q r) := by
 refine Fun.enter func91 r ntmps91 r (.c (.c .n)) fun w0 M => ?_
 refine .seq (.region (.skips 1 r (.nilS [1, 0] r r (.seq (.region (.skips 1 r ?_))))))
 have hw29 := W_flags_New (I := I) hd
 refine .callO call121 r hw29 r r fun v23 I20 l24 hl21 hv22 => ?_
 obtain ⟨r19, p25, c26, rfl, rfl, hd⟩ := hv22
 have le30 := IH.le.trans (.refl _) hl21
 replace R3 := R3.mono hl21
 refine .skips 1 r (.nilS [5, 1, 0] r r (.seq (.seq (.region (.skips 1 r (.len underlying36 r r r r (.skips 1 r (.nilS [12, 11, 10, 5, 0] r r (.block ?_)))))))))
 refine .loop hd (fun (s : (List Int) × Int) c w => match s with | (s156, s160) => ∃ I_ p157 c158, IH.le I20 I_ ∧ Ok ⟨35, [], none⟩ [(0, .int .i64 a0), (5, .slice p157 s156.length c158), (10, .slice p1 a1.length c2), (11, .int .i64 (a1.length : Int)), (12, .int .i64 s160)] c ∧ Sym w0 M I I_ [OwnSl eU64 81 p157 c158 s156] w) (fun c w ho hs => ⟨I20, _, _, (.refl _), ho.sub ⟨r, r, r, r, r, trivial⟩, hs.pick (.c .z .n)⟩) ?_
 rintro ⟨s156, s160⟩ next161 hd c w hst
 obtain ⟨I162, p157, c158, hl163, hok, hsym⟩ := hst
 have le164 := IH.le.trans le30 hl163
 have le165 := IH.le.trans (.refl _) hl163
 replace R3 := R3.mono hl163
 refine Cod.at hok hsym (.seq (.region (.lt r r r r (.nilS [13, 12, 11, 10, 5, 0] r r (.seq (.condP r hd (fun hb167 hd => ?_) fun hb167 hd => ?_))))))
 · refine .skipS [12, 11, 10, 5, 0] r r (.seq (.block (.seq (.region ?_))))
   obtain ⟨h177, x178, hx179, hd⟩ := hd
   obtain ⟨b180, o181, cs182, e183, hC184, hr185⟩ := R3.2 _ _ hx179
   cases hr185
   refine .ixa underlying36 sizeOf3 r e183 r h177 (idx_lt hx179 h177) r r (.ld1 (j := 0) isAgg3 hC184 r r r r r (.skips 1 r (.nilS [7, 12, 11, 10, 5, 0] r r (.seq ?_))))
   refine Cod.joinQ (σ := Bool) hd (fun (s196 : Bool) c w => ∃ I_, IH.le I162 I_ ∧ Ok ⟨35, [], none⟩ [(0, .int .i64 a0), (5, .slice p157 s156.length c158), (7, .int .i64 x178), (10, .slice p1 a1.length c2), (11, .int .i64 (a1.length : Int)), (12, .int .i64 s160), (23, .bool s196)] c ∧ Sym w0 M I I_ [OwnSl eU64 81 p157 c158 s156] w) (fun k197 hd => ?_) ?_
   · skip
     refine .region (.skips 2 r (.lt r r r r (.skips 1 r ?_)))
     refine splitP hd (fun hb198 hd => ?_) fun hb198 hd => ?_
     · rw [hb198]
       refine .gyes r r r (.move r r r (.gyes r r r (.move r r r ?_)))
       have hw200 := fun (J : IH) (hJ : IH.le I162 J) (hL : lentAll J [OwnSl eU64 81 p157 c158 s156]) => W_flags_within (I := J) (lent hL.1) hd
       refine .gyes r r r (.callB (.f call122 r) (.c .z .n) hw200 r r fun v201 _ hv202 => ?_)
       obtain ⟨r199, rfl, hd⟩ := hv202
       exact .skips 1 r (.nil' fun c w ho hs => ⟨r199, hd, I162, (.refl _), ho.sub ⟨r, r, r, r, r, r, r, trivial⟩, hs.pick (.c .z .n)⟩)
     rw [hb198]
     exact .skips 4 r (.nil' fun c w ho hs => ⟨false, hd, I162, (.refl _), ho.sub ⟨r, r, r, r, r, r, r, trivial⟩, hs.pick (.c .z .n)⟩)
   rintro s196 hd c w hst
   obtain ⟨I203, hl204, hok, hsym⟩ := hst
   have le205 := IH.le.trans le164 hl204
   have le206 := IH.le.trans le165 hl204
   have le207 := IH.le.trans (.refl _) hl204
   replace R3 := R3.mono hl204
   refine Cod.at hok hsym (.condP r hd (fun hb208 hd => ?_) fun hb208 hd => ?_)
   · refine .ownF .z fun hne209 => ?_
     refine .draw [some 0, some 1, some 2, some 3, some 4, some 5, some 6, some 7] 8 MX (by kernel_rfl) (by kernel_rfl) (by kernel_rfl) (by kernel_rfl) (by kernel_rfl) (by kernel_rfl) (by kernel_rfl) (fun ex => (OwnSl eU64 81 p157 c158 s156) :: ex) (fun _ _ => (.s .z)) r (.fs [[], []] r (by kernel_rfl) (.f [1] r (by kernel_rfl) r r (fun ex => .shr' r r (by decide) r r .mk) ?_))
     obtain ⟨h210, x211, hx212, hd⟩ := hd
     obtain ⟨b213, e214⟩ := hne209 (idx_ne hx212)
     cases e214
     refine .f [0, 2] r (by kernel_rfl) r r (fun ex => .ixa0 underlying33 sizeOf81 r r h210 (idx_lt hx212 h210) r r .mk) (.f [3] r (by kernel_rfl) r r (fun ex => .lo1 (j := 0) isAgg81 .z hx212 r r r r r .mk) (.fs [[]] r (by kernel_rfl) (.w [4, 3, 2, 1, 0] [[]] [5] r (by kernel_rfl) (by kernel_rfl) (by kernel_rfl) ((dropE_kept r r)) (.inr (dropE_kept r r)) fun ex => ?_)))
     have hw216 := W_flags_bit (I := I203) hd
     refine .callP call123 r hw216 r r fun v217 hv218 => ?_
     obtain ⟨r215, rfl, hd⟩ := hv218
     refine .some (fun ex => (OwnSl eU64 81 (some ⟨b213, 0, none⟩) c158 s156) :: ex) r (fun _ _ => (.s .z)) r (.cc [3] r (by kernel_rfl) r r r (fun ex => .lo1 (j := 0) isAgg81 .z hx212 r r r r r .mk) (.cc [0, 2] r (by kernel_rfl) r r r (fun ex => .ixa0 underlying33 sizeOf81 r r h210 (idx_lt hx212 h210) r r .mk) (.cc [1] r (by kernel_rfl) r r r (fun ex => .shr' r r (by decide) r r .mk) (.ccs [[], []] r r (by kernel_rfl) trivial)))) (.f [4, 6] r (by kernel_rfl) r r (fun ex => .or r r r r .mk) (.e 8 (by kernel_rfl) (by kernel_rfl) (by kernel_rfl) ?_))
     obtain ⟨h219, x220, hx221, hd⟩ := hd
     exact .ixa0 underlying33 sizeOf81 r r h219 (idx_lt hx221 h219) r r (.stO1 (j := 0) (v' := (bor .u64 x211 r215)) sizeOf81 .z hx221 r r r (.t .nil) r (.sub (E' := [(0, _), (5, .slice (some ⟨b213, 0, none⟩) (s156.set ((shr .i64 x178 6).toNat) (bor .u64 x211 r215)).length c158), (7, _), (10, _), (11, _), (12, _), (23, _), (24, .slice (some ⟨b213, 0, none⟩) (s156.set ((shr .i64 x178 6).toNat) (bor .u64 x211 r215)).length c158), (25, _), (26, _), (27, _), (28, _), (29, _), (30, _), (31, _), (32, _)]) ⟨r, (by simp only [List.length_set]; rfl), r, r, r, r, r, (by simp only [List.length_set]; rfl), r, r, r, r, r, r, r, r, trivial⟩ (.nilS [12, 11, 10, 5, 0] r r (.region (.add r r r r (.sub (E' := [(0, _), (5, _), (10, _), (11, _), (33, _)]) ⟨r, r, r, r, r, trivial⟩ (.skips 1 r (.nil' fun c w ho hs => ⟨((s156.set ((shr .i64 x178 6).toNat) (bor .u64 x211 r215)), w64 (s160 + 1)), hd, I203, _, _, le206, ho.sub ⟨r, r, r, r, r, trivial⟩, hs.pick (.c .z .n)⟩))))))))
   exact .skipS [12, 11, 10, 5, 0] r r (.region (.add r r r r (.sub (E' := [(0, _), (5, _), (10, _), (11, _), (33, _)]) ⟨r, r, r, r, r, trivial⟩ (.skips 1 r (.nil' fun c w ho hs => ⟨(s156, w64 (s160 + 1)), hd, I203, _, _, le206, ho.sub ⟨r, r, r, r, r, trivial⟩, hs.pick (.c .z .n)⟩)))))
 refine .exitS [5] r r (.seq (.region (.skips 2 r (.nilS [4] r r (.pub .z fun I222 hl223 R224 => ?_)))))
 have le225 := IH.le.trans le164 hl223
 have le226 := IH.le.trans le165 hl223
 exact .ret (pret results91 (.t r .n) le225 ⟨s156, _, _, r, R224, hd⟩)

theorem W_devec_Of {I : IH} {a0 : Vec} {p1 : Option Addr} {c2 : Nat} {Q : Dense → Prop} (R3 : RepSl eItem I p1 c2 a0.Items) (hd : devec_Of a0 Q) :
    PFun Tryz.prog 55 [.agg #[.int .i64 a0.N, .slice p1 a0.Items.length c2]] I (fun I_ v => ∃ r p4 c5 p7 c8, v = .agg #[.int .i64 r.N, .slice p4 r.Has.length c5, .slice p7 r.Vals.length c8] ∧ RepSl eU64 I_ p4 c5 r.Has ∧ RepSl eI64 I_ p7 c8 r.Vals ∧ Q r) := by
 refine Fun.enter func55 r ntmps55 r (.c .n) fun w0 M => ?_
 refine .seq (.region (.boxA r r r fun b14 => ?_))
 refine .allocA zeroValue53 r r fun b16 => ?_
 refine .nilS [2, 1] r r (.seq (.seq (.region (.loadW isAgg42 sizeOf42 r (.s .z) r r r ?_))))
 have hw39 := W_spvec_Right (I := I) R3 hd
 refine .callP call54 r hw39 r r fun v40 hv41 => ?_
 obtain ⟨r38, rfl, hd⟩ := hv41
 refine .not r r r (.nilS [8, 2, 1] r r (.condP r hd (fun hb42 hd => ?_) fun hb42 hd => ?_))
 · refine .seq (.region ?_)
   have hw56 := W_devec_New (I := I) hd
   refine .callO call90 r hw56 r r fun v47 I44 l48 hl45 hv46 => ?_
   obtain ⟨r43, p49, c50, p52, c53, rfl, R51, rfl, hd⟩ := hv46
   have le57 := IH.le.trans (.refl _) hl45
   replace R3 := R3.mono hl45
   refine .storeA sizeOf53 r r (.s .z) (.t (.t (.t .nil))) r r (.nilS [2] r r (.drop (.s (.s .z)) (.pub .z fun I58 hl59 R60 => ?_)))
   have le61 := IH.le.trans le57 hl59
   replace R51 := R51.mono hl59
   exact .ret (pret results55 (.w isAgg53 sizeOf53 r .z r .n) le61 ⟨r43, _, _, _, _, r, R51, R60, hd⟩)
 refine .skipS [2, 1] r r (.seq (.region (.fieldAddr underlying42 r sizeOf3 r (o := 0) r r r (.load1 isAgg3 r (.s .z) r r r ?_))))
 have hw92 := W_devec_New (I := I) hd
 refine .callO call90 r hw92 r r fun v83 I80 l84 hl81 hv82 => ?_
 obtain ⟨r79, p85, c86, p88, c89, rfl, R87, rfl, hd⟩ := hv82
 have le93 := IH.le.trans (.refl _) hl81
 replace R3 := R3.mono hl81
 refine .allocA zeroValue53 r r fun b94 => ?_
 refine .storeA sizeOf53 r r .z (.t (.t (.t .nil))) r r (.nilS [3, 2, 1] r r (.seq (.seq (.region (.fieldAddr underlying42 r sizeOf32 r (o := 1) r r r (.load1 isAgg32 r (.s (.s (.s .z))) r r r (.len underlying32 r r r r (.skips 1 r (.nilS [16, 15, 14, 3, 2, 1] r r ?_)))))))))
 refine .block (.loop hd (fun (s : (List Int) × Int) c w => match s with | (s226, s230) => ∃ I_ p227 c228, IH.le I80 I_ ∧ Ok ⟨35, [], none⟩ [(1, .pointer (some ⟨b14, 0, none⟩)), (2, .pointer (some ⟨b16, 0, none⟩)), (3, .pointer (some ⟨b94, 0, none⟩)), (14, .slice p1 a0.Items.length c2), (15, .int .i64 (a0.Items.length : Int)), (16, .int .i64 s230)] c ∧ Sym w0 M I I_ [pto b14 (.cells #[.int .i64 a0.N, .slice p1 a0.Items.length c2] 42 (0, 0)), pto b16 (.cells #[.int .i64 0, .slice none 0 0, .slice none 0 0] 53 (0, 0)), pto b94 (.cells #[.int .i64 r79.N, .slice p85 r79.Has.length c86, .slice p227 s226.length c228] 53 (0, 0)), OwnSl eI64 2 p227 c228 s226] w) (fun c w ho hs => ⟨I80, _, _, (.refl _), ho.sub ⟨r, r, r, r, r, r, trivial⟩, hs.pick (.c (.s (.s (.s .z))) (.c (.s (.s .z)) (.c .z (.c .z .n))))⟩) ?_)
 rintro ⟨s226, s230⟩ next231 hd c w hst
 obtain ⟨I232, p227, c228, hl233, hok, hsym⟩ := hst
 have le234 := IH.le.trans le93 hl233
 have le235 := IH.le.trans (.refl _) hl233
 replace R3 := R3.mono hl233
 replace R87 := R87.mono hl233
 refine Cod.at hok hsym (.seq (.region (.lt r r r r (.nilS [17, 16, 15, 14, 3, 2, 1] r r (.seq (.condP r hd (fun hb237 hd => ?_) fun hb237 hd => ?_))))))
 · refine .skipS [16, 15, 14, 3, 2, 1] r r (.seq (.block (.seq (.region ?_))))
   obtain ⟨h238, x239, hx240, hd⟩ := hd
   obtain ⟨b241, o242, cs243, e244, hC245, hr246⟩ := R3.2 _ _ hx240
   cases hr246
   refine .ixa underlying32 sizeOf80 r e244 r h238 (idx_lt hx240 h238) r r (.ldW isAgg80 sizeOf80 hC245 r r r r (.allocA zeroValue80 r r fun b247 => ?_))
   refine .storeA sizeOf80 r r .z (.t (.t .nil)) r r (.nilS [5, 16, 15, 14, 3, 2, 1] r r (.region (.fieldAddr underlying53 r sizeOf37 r (o := 2) r r r (.load1 isAgg37 r (.s (.s (.s .z))) r r r (.fieldAddr underlying80 r sizeOf3 r (o := 0) r r r (.load1 isAgg3 r .z r r r (.fieldAddr underlying80 r sizeOf2 r (o := 1) r r r (.load1 isAgg2 r .z r r r ?_))))))))
   obtain ⟨h249, x250, hx251, hd⟩ := hd
   refine .ownNe (.s (.s (.s (.s .z)))) (idx_ne hx251) fun b252 e253 => ?_
   cases e253
   refine .ixa0 underlying37 sizeOf2 r r h249 (idx_lt hx251 h249) r r (.stO1 (j := 0) (v' := x239.Val) sizeOf2 (.s (.s (.s (.s .z)))) hx251 r r r (.t .nil) r (.sub (E' := [(1, _), (2, _), (3, _), (14, _), (15, _), (16, _), (5, _), (20, _), (21, .slice (some ⟨b252, 0, none⟩) (s226.set x239.At.toNat x239.Val).length c228), (22, _), (23, _), (24, _), (25, _), (26, _)]) ⟨r, r, r, r, r, r, r, r, (by simp only [List.length_set]; rfl), r, r, r, r, r, trivial⟩ (.reat (.s (.s (.s .z))) (B := pto b94 (.cells #[.int .i64 r79.N, .slice p85 r79.Has.length c86, .slice (some ⟨b252, 0, none⟩) (s226.set x239.At.toNat x239.Val).length c228] 53 (0, 0))) (by simp only [List.length_set]) (.nilS [16, 15, 14, 3, 2, 1] r r (.drop .z (.region (.add r r r r (.sub (E' := [(1, _), (2, _), (3, _), (14, _), (15, _), (27, _)]) ⟨r, r, r, r, r, r, trivial⟩ (.skips 1 r ?_)))))))))
   exact .nil' fun c w ho hs => ⟨((s226.set x239.At.toNat x239.Val), w64 (s230 + 1)), hd, I232, _, _, le235, ho.sub ⟨r, r, r, r, r, r, trivial⟩, hs.pick (.c .z (.c .z (.c .z (.c .z .n))))⟩
 refine .exitS [3, 2, 1] r r (.seq (.draw [some 0, some 1, some 2, some 3, some 4] 5 MX (by kernel_rfl) (by kernel_rfl) (by kernel_rfl) (by kernel_rfl) (by kernel_rfl) (by kernel_rfl) (by kernel_rfl) (fun ex => (pto b14 (.cells #[.int .i64 a0.N, .slice p1 a0.Items.length c2] 42 (0, 0))) :: (pto b16 (.cells #[.int .i64 0, .slice none 0 0, .slice none 0 0] 53 (0, 0))) :: (pto b94 (.cells #[.int .i64 r79.N, .slice p85 r79.Has.length c86, .slice p227 s226.length c228] 53 (0, 0))) :: (OwnSl eI64 2 p227 c228 s226) :: ex) (fun _ _ => (.s (.s (.s (.s .z))))) r (.f [] r (by kernel_rfl) r r (fun ex => .fieldAddr underlying42 r sizeOf3 r (o := 0) r r r .mk) (.f [0] r (by kernel_rfl) r r (fun ex => .load1 isAgg3 r .z r r r .mk) (.f [] r (by kernel_rfl) r r (fun ex => .loadW isAgg42 sizeOf42 r .z r r r .mk) (.w [1, 0] [[]] [2] r (by kernel_rfl) (by kernel_rfl) (by kernel_rfl) ((dropE_kept r r)) (.inr (dropE_kept r r)) fun ex => ?_))))))
 have hw263 := W_spvec_Places (I := I232) R3 hd
 refine .call call72 r hw263 r r fun v258 I255 hl256 hv257 => ?_
 obtain ⟨r254, p260, c261, rfl, R262, hd⟩ := hv257
 have le264 := IH.le.trans le234 hl256
 have le265 := IH.le.trans le235 hl256
 replace R3 := R3.mono hl256
 replace R87 := R87.mono hl256
 refine .some (fun ex => (pto b14 (.cells #[.int .i64 a0.N, .slice p1 a0.Items.length c2] 42 (0, 0))) :: (pto b16 (.cells #[.int .i64 0, .slice none 0 0, .slice none 0 0] 53 (0, 0))) :: (pto b94 (.cells #[.int .i64 r79.N, .slice p85 r79.Has.length c86, .slice p227 s226.length c228] 53 (0, 0))) :: (OwnSl eI64 2 p227 c228 s226) :: ex) r (fun _ _ => (.s (.s (.s (.s .z))))) r (.cc [0] r (by kernel_rfl) r r r (fun ex => .load1 isAgg3 r .z r r r .mk) (.cc [] r (by kernel_rfl) r r r (fun ex => .fieldAddr underlying42 r sizeOf3 r (o := 0) r r r .mk) trivial)) (.w [] [[], [1]] [1, 3, 3] r (by kernel_rfl) (by kernel_rfl) (by kernel_rfl) ((dropE_kept r r)) (.inr (dropE_kept r r)) fun ex => ?_)
 have hw275 := W_flags_Of (I := I255) R262 hd
 refine .call call91 r hw275 r r fun v270 I267 hl268 hv269 => ?_
 obtain ⟨r266, p272, c273, rfl, R274, hd⟩ := hv269
 have le276 := IH.le.trans le264 hl268
 have le277 := IH.le.trans le265 hl268
 replace R3 := R3.mono hl268
 replace R87 := R87.mono hl268
 replace R262 := R262.mono hl268
 refine .some (fun ex => (pto b14 (.cells #[.int .i64 a0.N, .slice p1 a0.Items.length c2] 42 (0, 0))) :: (pto b16 (.cells #[.int .i64 0, .slice none 0 0, .slice none 0 0] 53 (0, 0))) :: (pto b94 (.cells #[.int .i64 r79.N, .slice p85 r79.Has.length c86, .slice p227 s226.length c228] 53 (0, 0))) :: (OwnSl eI64 2 p227 c228 s226) :: ex) r (fun _ _ => (.s (.s (.s (.s .z))))) r trivial (.e 5 (by kernel_rfl) (by kernel_rfl) (by kernel_rfl) (.fieldAddr underlying53 r sizeOf33 r (o := 1) r r r (.store1 sizeOf33 r r (.s (.s .z)) (.s (.t .nil)) r (.nilS [3, 2] r r (.drop .z (.seq (.region (.loadW isAgg53 sizeOf53 r (.s .z) r r r (.storeA sizeOf53 r r .z (.t (.t (.t .nil))) r r ?_)))))))))
 refine .nilS [2] r r (.drop (.s .z) (.pub (.s .z) fun I278 hl279 R280 => ?_))
 have le281 := IH.le.trans le276 hl279
 have le282 := IH.le.trans le277 hl279
 replace R274 := R274.mono hl279
 exact .ret (pret results55 (.w isAgg53 sizeOf53 r .z r .n) le281 ⟨({ N := r79.N, Has := r266, Vals := s226 } : Dense), _, _, _, _, r, R274, R280, hd⟩)

theorem W_policy_Hold {I : IH} {a0 : Int} {a1 : Vec} {p1 : Option Addr} {c2 : Nat} {Q : Held → Prop} (R3 : RepSl eItem I p1 c2 a1.Items) (hd : policy_Hold a0 a1 Q) :
    PFun Tryz.prog 21 [.int .i64 a0, .agg #[.int .i64 a1.N, .slice p1 a1.Items.length c2]] I (fun I_ v => ∃ r p4 c5 p7 c8 p10 c11, v = .agg #[.int .i64 r.Form, .int .i64 r.Vec.N, .slice p4 r.Vec.Items.length c5, .int .i64 r.Dense.N, .slice p7 r.Dense.Has.length c8, .slice p10 r.Dense.Vals.length c11] ∧ RepSl eItem I_ p4 c5 r.Vec.Items ∧ RepSl eU64 I_ p7 c8 r.Dense.Has ∧ RepSl eI64 I_ p10 c11 r.Dense.Vals ∧ Q r) := by
 refine Fun.enter func21 r ntmps21 r (.c (.c .n)) fun w0 M => ?_
 refine .seq (.region (.boxA r r r fun b17 => ?_))
 refine .allocA zeroValue55 r r fun b19 => ?_
 refine .nilS [4, 3, 0] r r (.seq ?_)
 refine Cod.joinQ (σ := Int × (List Item)) hd (fun (s : Int × (List Item)) c w => match s with | (s31, s32) => ∃ I_ p33 c34, IH.le I I_ ∧ RepSl eItem I_ p33 c34 s32 ∧ Ok ⟨27, [], none⟩ [(0, .int .i64 a0), (3, .pointer (some ⟨b17, 0, none⟩)), (4, .pointer (some ⟨b19, 0, none⟩))] c ∧ Sym w0 M I I_ [pto b17 (.cells #[.int .i64 s31, .slice p33 s32.length c34] 42 (0, 0)), pto b19 (.cells #[.int .i64 0, .int .i64 0, .slice none 0 0, .int .i64 0, .slice none 0 0, .slice none 0 0] 55 (0, 0))] w) (fun k36 hd => ?_) ?_
 · skip
   refine .seq (.region (.loadW isAgg42 sizeOf42 r (.s .z) r r r ?_))
   have hw38 := W_spvec_Right (I := I) R3 hd
   refine .callP call54 r hw38 r r fun v39 hv40 => ?_
   obtain ⟨r37, rfl, hd⟩ := hv40
   refine .not r r r (.nilS [7, 4, 3, 0] r r (.condP r hd (fun hb41 hd => ?_) fun hb41 hd => ?_))
   · exact .region (.build zeroValue42 underlying42 BI42 .n (by exact trivial) r r (.storeA sizeOf42 r r (.s .z) (.t (.t .nil)) r r (.nil' fun c w ho hs => ⟨(0, ([] : List Item)), hd, I, _, _, (.refl _), .nil _ _ _, ho.sub ⟨r, r, r, trivial⟩, hs.pick (.c (.s .z) (.c .z .n))⟩)))
   exact .skip' fun c w ho hs => ⟨(a1.N, a1.Items), hd, I, _, _, (.refl _), R3, ho.sub ⟨r, r, r, trivial⟩, hs.pick (.c (.s .z) (.c .z .n))⟩
 rintro ⟨s31, s32⟩ hd c w hst
 obtain ⟨I42, p33, c34, hl43, R35, hok, hsym⟩ := hst
 have le44 := IH.le.trans (.refl _) hl43
 refine Cod.at hok hsym (.seq (.seq (.region (.skips 1 r (.fieldAddr underlying42 r sizeOf32 r (o := 1) r r r (.load1 isAgg32 r .z r r r (.len underlying32 r r r r (.fieldAddr underlying42 r sizeOf3 r (o := 0) r r r (.load1 isAgg3 r .z r r r ?_)))))))))
 have hw46 := W_policy_Shape (I := I42) hd
 refine .callP call10 r hw46 r r fun v47 hv48 => ?_
 obtain ⟨r45, rfl, hd⟩ := hv48
 refine .eq r r r r (.nilS [16, 4, 3] r r (.condP r hd (fun hb49 hd => ?_) fun hb49 hd => ?_))
 · refine .seq (.region (.loadW isAgg42 sizeOf42 r .z r r r ?_))
   have hw62 := W_devec_Of (I := I42) R35 hd
   refine .call call55 r hw62 r r fun v54 I51 hl52 hv53 => ?_
   obtain ⟨r50, p56, c57, p59, c60, rfl, R58, R61, hd⟩ := hv53
   have le63 := IH.le.trans le44 hl52
   replace R35 := R35.mono hl52
   exact .build zeroValue55 underlying55 BI55 (.c r r r (.t .nil) (.c r r r (.s (.s (.s (.t (.t (.t .nil)))))) .n)) (by exact ⟨⟨_, _, r, r, r⟩, ⟨⟨_, _, r, r, r⟩, trivial⟩⟩) r r (.storeA sizeOf55 r r (.s .z) (.t (.t (.t (.t (.t (.t .nil)))))) r r (.nilS [4] r r (.drop .z (.ret (pret results21 (.w isAgg55 sizeOf55 r .z r .n) le63 ⟨({ Form := 2, Vec := ({ N := 0, Items := ([] : List Item) } : Vec), Dense := r50 } : Held), _, _, _, _, _, _, r, (.nil _ _ _), R58, R61, hd⟩)))))
 refine .skipS [4, 3] r r (.seq (.draw [some 0, some 1, some 2, some 3, some 4, some 5, some 6] 7 MX (by kernel_rfl) (by kernel_rfl) (by kernel_rfl) (by kernel_rfl) (by kernel_rfl) (by kernel_rfl) (by kernel_rfl) (fun ex => (pto b17 (.cells #[.int .i64 s31, .slice p33 s32.length c34] 42 (0, 0))) :: (pto b19 (.cells #[.int .i64 0, .int .i64 0, .slice none 0 0, .int .i64 0, .slice none 0 0, .slice none 0 0] 55 (0, 0))) :: ex) (fun _ _ => (.s (.s .z))) r (.f [] r (by kernel_rfl) r r (fun ex => .fieldAddr underlying42 r sizeOf3 r (o := 0) r r r .mk) (.f [0] r (by kernel_rfl) r r (fun ex => .load1 isAgg3 r .z r r r .mk) (.f [] r (by kernel_rfl) r r (fun ex => .fieldAddr underlying42 r sizeOf32 r (o := 1) r r r .mk) (.f [2] r (by kernel_rfl) r r (fun ex => .load1 isAgg32 r .z r r r .mk) (.w [1, 0] [[], [3]] [3] r (by kernel_rfl) (by kernel_rfl) (by kernel_rfl) ((dropE_kept r r)) (.inr (dropE_kept r r)) fun ex => ?_)))))))
 have hw73 := W_slices_Clone_api_Item_api_Item (I := I42) R35 hd
 refine .call call56 r hw73 r r fun v68 I65 hl66 hv67 => ?_
 obtain ⟨r64, p70, c71, rfl, R72, hd⟩ := hv67
 have le74 := IH.le.trans le44 hl66
 replace R35 := R35.mono hl66
 exact .some (fun ex => (pto b17 (.cells #[.int .i64 s31, .slice p33 s32.length c34] 42 (0, 0))) :: (pto b19 (.cells #[.int .i64 0, .int .i64 0, .slice none 0 0, .int .i64 0, .slice none 0 0, .slice none 0 0] 55 (0, 0))) :: ex) r (fun _ _ => (.s (.s .z))) r (.cc [0] r (by kernel_rfl) r r r (fun ex => .load1 isAgg3 r .z r r r .mk) (.cc [] r (by kernel_rfl) r r r (fun ex => .fieldAddr underlying42 r sizeOf3 r (o := 0) r r r .mk) trivial)) (.f [1, 4] r (by kernel_rfl) r r (fun ex => .build zeroValue42 underlying42 BI42 (.c r r r (.t .nil) (.c r r r (.s (.t .nil)) .n)) (by exact ⟨⟨_, _, r, r, r⟩, ⟨⟨_, _, r, r, r⟩, trivial⟩⟩) r r .mk) (.f [5] r (by kernel_rfl) r r (fun ex => .build zeroValue55 underlying55 BI55 (.c r r r (.t .nil) (.c r r r (.s (.t (.t .nil))) .n)) (by exact ⟨⟨_, _, r, r, r⟩, ⟨⟨_, _, r, r, r⟩, trivial⟩⟩) r r .mk) (.e 7 (by kernel_rfl) (by kernel_rfl) (by kernel_rfl) (.storeA sizeOf55 r r (.s .z) (.t (.t (.t (.t (.t (.t .nil)))))) r r (.nilS [4] r r (.drop .z (.ret (pret results21 (.w isAgg55 sizeOf55 r .z r .n) le74 ⟨({ Form := 1, Vec := ({ N := s31, Items := r64 } : Vec), Dense := ({ N := 0, Has := ([] : List Int), Vals := ([] : List Int) } : Dense) } : Held), _, _, _, _, _, _, r, R72, (.nil _ _ _), (.nil _ _ _), hd⟩))))))))

theorem W_ref07_SameItems {I : IH} {a0 : List Item} {a1 : List Item} {p1 : Option Addr} {c2 : Nat} {p4 : Option Addr} {c5 : Nat} {Q : Bool → Prop} (R3 : RepSl eItem I p1 c2 a0) (R6 : RepSl eItem I p4 c5 a1) (hd : ref07_SameItems a0 a1 Q) :
    PFun Tryz.prog 57 [.slice p1 a0.length c2, .slice p4 a1.length c5] I (fun I_ v => ∃ r, v = .bool r ∧ Q r) := by
 refine Fun.enter func57 r ntmps57 r (.c (.c .n)) fun w0 M => ?_
 refine .seq (.region (.skips 1 r (.nilS [1, 0] r r (.seq (.seq (.region (.skips 1 r (.len underlying32 r r r r (.skips 1 r ?_)))))))))
 refine .len underlying32 r r r r (.ne r r r r (.nilS [10, 1, 0] r r (.condP r hd (fun hb8 hd => ?_) fun hb8 hd => ?_)))
 · exact .seq (.region (.skips 1 r (.nilS [4] r r (.ret (pret results57 (.t r .n) (.refl _) ⟨false, r, hd⟩)))))
 refine .skipS [1, 0] r r (.seq (.seq (.region (.skips 1 r (.nilS [5, 1, 0] r r (.block (.loop hd (fun (s54 : Int) c w => ∃ I_, IH.le I I_ ∧ Ok ⟨26, [], none⟩ [(0, .slice p1 a0.length c2), (1, .slice p4 a1.length c5), (5, .int .i64 s54)] c ∧ Sym w0 M I I_ [] w) (fun c w ho hs => ⟨I, (.refl _), ho.sub ⟨r, r, r, trivial⟩, hs.pick .n⟩) ?_)))))))
 rintro s54 next55 hd c w hst
 obtain ⟨I56, hl57, hok, hsym⟩ := hst
 have le58 := IH.le.trans (.refl _) hl57
 replace R3 := R3.mono hl57
 replace R6 := R6.mono hl57
 refine Cod.at hok hsym (.seq (.seq (.region (.skips 2 r (.len underlying32 r r r r (.lt r r r r (.nilS [14, 5, 1, 0] r r (.condP r hd (fun hb60 hd => ?_) fun hb60 hd => ?_))))))))
 · refine .skipS [5, 1, 0] r r (.seq (.block (.seq (.draw [some 0, some 1, some 2, some 3, some 4, some 5, some 6, some 7, some 8] 9 MX (by kernel_rfl) (by kernel_rfl) (by kernel_rfl) (by kernel_rfl) (by kernel_rfl) (by kernel_rfl) (by kernel_rfl) (fun ex => ex) (fun _ _ => .z) r (.fs [[], []] r (by kernel_rfl) ?_)))))
   obtain ⟨h61, x62, hx63, hd⟩ := hd
   obtain ⟨b64, o65, cs66, e67, hC68, hr69⟩ := R3.2 _ _ hx63
   cases hr69
   refine .f [0, 1] r (by kernel_rfl) r r (fun ex => .ixa underlying32 sizeOf80 r e67 r h61 (idx_lt hx63 h61) r r .mk) (.f [2] r (by kernel_rfl) r r (fun ex => .ldW isAgg80 sizeOf80 hC68 r r r r .mk) (.fs [[], []] r (by kernel_rfl) ?_))
   obtain ⟨h70, x71, hx72, hd⟩ := hd
   obtain ⟨b73, o74, cs75, e76, hC77, hr78⟩ := R6.2 _ _ hx72
   cases hr78
   refine .f [4, 5] r (by kernel_rfl) r r (fun ex => .ixa underlying32 sizeOf80 r e76 r h70 (idx_lt hx72 h70) r r .mk) (.f [6] r (by kernel_rfl) r r (fun ex => .ldW isAgg80 sizeOf80 hC77 r r r r .mk) (.f [3, 7] r (by kernel_rfl) r r (fun ex => .neV r r (EQ80 x62 x71) (EG80 _ _ _ _ _) r r r .mk) (.e 9 (by kernel_rfl) (by kernel_rfl) (by kernel_rfl) (.nilS [25, 5, 1, 0] r r (.condP r hd (fun hb79 hd => ?_) fun hb79 hd => ?_)))))
   · exact .seq (.region (.skips 1 r (.nilS [4] r r (.ret (pret results57 (.t r .n) le58 ⟨false, r, hd⟩)))))
   exact .skipS [5, 1, 0] r r (.region (.skips 1 r (.add r r r r (.sub (E' := [(0, _), (1, _), (15, _), (16, _)]) ⟨r, r, r, r, trivial⟩ (.skips 1 r (.nil' fun c w ho hs => ⟨(w64 (s54 + 1)), hd, I56, le58, ho.sub ⟨r, r, r, trivial⟩, hs.pick .n⟩))))))
 exact .exitS [] r r (.seq (.region (.skips 1 r (.nilS [4] r r (.ret (pret results57 (.t r .n) le58 ⟨true, r, hd⟩))))))

theorem W_ref09_Same {I : IH} {a0 : Vec} {a1 : Vec} {p1 : Option Addr} {c2 : Nat} {p4 : Option Addr} {c5 : Nat} {Q : Bool → Prop} (R3 : RepSl eItem I p1 c2 a0.Items) (R6 : RepSl eItem I p4 c5 a1.Items) (hd : ref09_Same a0 a1 Q) :
    PFun Tryz.prog 22 [.agg #[.int .i64 a0.N, .slice p1 a0.Items.length c2], .agg #[.int .i64 a1.N, .slice p4 a1.Items.length c5]] I (fun I_ v => ∃ r, v = .bool r ∧ Q r) := by
 refine Fun.enter func22 r ntmps22 r (.c (.c .n)) fun w0 M => ?_
 refine .seq (.region (.boxA r r r fun b11 => ?_))
 refine .boxA r r r fun b13 => ?_
 refine .skips 1 r (.nilS [3, 2] r r (.seq (.region (.fieldAddr underlying42 r sizeOf3 r (o := 0) r r r (.load1 isAgg3 r (.s .z) r r r (.fieldAddr underlying42 r sizeOf3 r (o := 0) r r r (.load1 isAgg3 r .z r r r (.eq r r r r (.skips 1 r ?_)))))))))
 refine splitP hd (fun hb15 hd => ?_) fun hb15 hd => ?_
 · rw [hb15]
   refine .gyes r r r (.fieldAddr underlying42 r sizeOf32 r (o := 1) r r r (.gyes r r r (.load1 isAgg32 r (.s .z) r r r (.gyes r r r (.fieldAddr underlying42 r sizeOf32 r (o := 1) r r r (.gyes r r r (.load1 isAgg32 r .z r r r ?_)))))))
   have hw17 := W_ref07_SameItems (I := I) R3 R6 hd
   refine .gyes r r r (.callP call57 r hw17 r r fun v18 hv19 => ?_)
   obtain ⟨r16, rfl, hd⟩ := hv19
   exact .skips 2 r (.nilS [4] r r (.drop .z (.drop .z (.ret (pret results22 (.t r .n) (.refl _) ⟨r16, r, hd⟩)))))
 rw [hb15]
 exact .skips 7 r (.nilS [4] r r (.drop .z (.drop .z (.ret (pret results22 (.t r .n) (.refl _) ⟨false, r, hd⟩)))))

theorem W_policy_Dense {I : IH} {a0 : Held} {p1 : Option Addr} {c2 : Nat} {p4 : Option Addr} {c5 : Nat} {p7 : Option Addr} {c8 : Nat} {Q : Dense → Prop} (R3 : RepSl eItem I p1 c2 a0.Vec.Items) (R6 : RepSl eU64 I p4 c5 a0.Dense.Has) (R9 : RepSl eI64 I p7 c8 a0.Dense.Vals) (hd : policy_Dense a0 Q) :
    PFun Tryz.prog 25 [.agg #[.int .i64 a0.Form, .int .i64 a0.Vec.N, .slice p1 a0.Vec.Items.length c2, .int .i64 a0.Dense.N, .slice p4 a0.Dense.Has.length c5, .slice p7 a0.Dense.Vals.length c8]] I (fun I_ v => ∃ r p10 c11 p13 c14, v = .agg #[.int .i64 r.N, .slice p10 r.Has.length c11, .slice p13 r.Vals.length c14] ∧ RepSl eU64 I_ p10 c11 r.Has ∧ RepSl eI64 I_ p13 c14 r.Vals ∧ Q r) := by
 refine Fun.enter func25 r ntmps25 r (.c .n) fun w0 M => ?_
 refine .seq (.region (.boxA r r r fun b16 => ?_))
 refine .allocA zeroValue53 r r fun b18 => ?_
 refine .nilS [2, 1] r r (.seq (.region (.loadW isAgg55 sizeOf55 r (.s .z) r r r ?_)))
 have hw29 := W_policy_Vec (I := I) R3 R6 R9 hd
 refine .call call23 r hw29 r r fun v24 I21 hl22 hv23 => ?_
 obtain ⟨r20, p26, c27, rfl, R28, hd⟩ := hv23
 have le30 := IH.le.trans (.refl _) hl22
 replace R3 := R3.mono hl22
 replace R6 := R6.mono hl22
 replace R9 := R9.mono hl22
 have hw43 := W_devec_Of (I := I21) R28 hd
 refine .call call55 r hw43 r r fun v35 I32 hl33 hv34 => ?_
 obtain ⟨r31, p37, c38, p40, c41, rfl, R39, R42, hd⟩ := hv34
 have le44 := IH.le.trans le30 hl33
 replace R3 := R3.mono hl33
 replace R6 := R6.mono hl33
 replace R9 := R9.mono hl33
 replace R28 := R28.mono hl33
 exact .storeA sizeOf53 r r .z (.t (.t (.t .nil))) r r (.nilS [2] r r (.drop (.s .z) (.ret (pret results25 (.w isAgg53 sizeOf53 r .z r .n) le44 ⟨r31, _, _, _, _, r, R39, R42, hd⟩))))

theorem W_policy_Size {I : IH} {a0 : Held} {p1 : Option Addr} {c2 : Nat} {p4 : Option Addr} {c5 : Nat} {p7 : Option Addr} {c8 : Nat} {Q : Int → Prop} (R3 : RepSl eItem I p1 c2 a0.Vec.Items) (R6 : RepSl eU64 I p4 c5 a0.Dense.Has) (R9 : RepSl eI64 I p7 c8 a0.Dense.Vals) (hd : policy_Size a0 Q) :
    PFun Tryz.prog 26 [.agg #[.int .i64 a0.Form, .int .i64 a0.Vec.N, .slice p1 a0.Vec.Items.length c2, .int .i64 a0.Dense.N, .slice p4 a0.Dense.Has.length c5, .slice p7 a0.Dense.Vals.length c8]] I (fun I_ v => ∃ r, v = .int .i64 r ∧ Q r) := by
 refine Fun.enter func26 r ntmps26 r (.c .n) fun w0 M => ?_
 refine .seq (.region (.boxA r r r fun b12 => ?_))
 refine .skips 1 r (.nilS [1] r r (.seq (.region (.loadW isAgg55 sizeOf55 r .z r r r ?_))))
 have hw36 := W_policy_Vec (I := I) R3 R6 R9 hd
 refine .call call23 r hw36 r r fun v31 I28 hl29 hv30 => ?_
 obtain ⟨r27, p33, c34, rfl, R35, hd⟩ := hv30
 have le37 := IH.le.trans (.refl _) hl29
 replace R3 := R3.mono hl29
 replace R6 := R6.mono hl29
 replace R9 := R9.mono hl29
 refine .allocA zeroValue42 r r fun b38 => ?_
 refine .storeA sizeOf42 r r .z (.t (.t .nil)) r r (.nilS [3, 1] r r (.seq (.seq (.region (.fieldAddr underlying55 r sizeOf23 r (o := 0) r r r (.load1 isAgg23 r (.s .z) r r r (.eq r r r r (.nilS [8, 3] r r (.drop (.s .z) ?_)))))))))
 refine .condP r hd (fun hb40 hd => ?_) fun hb40 hd => ?_
 · exact .seq (.region (.fieldAddr underlying42 r sizeOf32 r (o := 1) r r r (.load1 isAgg32 r .z r r r (.len underlying32 r r r r (.skips 1 r (.nilS [2] r r (.drop .z (.ret (pret results26 (.t r .n) le37 ⟨(r27.Items.length : Int), r, hd⟩)))))))))
 exact .skipS [3] r r (.seq (.region (.fieldAddr underlying42 r sizeOf3 r (o := 0) r r r (.load1 isAgg3 r .z r r r (.skips 1 r (.nilS [2] r r (.drop .z (.ret (pret results26 (.t r .n) le37 ⟨r27.N, r, hd⟩)))))))))

theorem W_ref02_Is {I : IH} {a0 : Int}  {Q : Bool → Prop}  (hd : ref02_Is a0 Q) :
    PFun Tryz.prog 46 [.int .i64 a0] I (fun I_ v => ∃ r, v = .bool r ∧ Q r) := by
 refine Fun.enter func46 r ntmps46 r (.c .n) fun w0 M => ?_
 refine .seq (.region (.skips 1 r (.nilS [0] r r (.seq (.region (.skips 1 r (.ge r r r r (.skips 1 r ?_))))))))
 refine splitP hd (fun hb1 hd => ?_) fun hb1 hd => ?_
 · rw [hb1]
   exact .gyes r r r (.move r r r (.gyes r r r (.le' r r r r (.skips 2 r (.nilS [2] r r (.ret (pret results46 (.t r .n) (.refl _) ⟨(decide (a0 ≤ 5)), r, hd⟩)))))))
 rw [hb1]
 exact .skips 4 r (.nilS [2] r r (.ret (pret results46 (.t r .n) (.refl _) ⟨false, r, hd⟩)))

theorem W_ref01_Add {I : IH} {a0 : Wide} {a1 : Wide}  {Q : Wide → Prop}  (hd : ref01_Add a0 a1 Q) :
    PFun Tryz.prog 80 [.agg (encWide a0).toArray, .agg (encWide a1).toArray] I (fun I_ v => ∃ r, v = .agg (encWide r).toArray ∧ Q r) := by
 refine Fun.enter func80 r ntmps80 r (.c (.c .n)) fun w0 M => ?_
 refine .seq (.region (.boxA r r r fun b7 => ?_))
 refine .boxA r r r fun b9 => ?_
 refine .allocA zeroValue83 r r fun b11 => ?_
 refine .nilS [4, 3, 2] r r (.seq (.region (.fieldAddr underlying83 r sizeOf81 r (o := 1) r r r (.load1 isAgg81 r (.s (.s .z)) r r r (.fieldAddr underlying83 r sizeOf81 r (o := 1) r r r (.load1 isAgg81 r (.s .z) r r r (.add r r r r (.skips 1 r (.nilS [5, 4, 3, 2] r r ?_)))))))))
 refine .seq (.region (.fieldAddr underlying83 r sizeOf2 r (o := 0) r r r (.load1 isAgg2 r (.s (.s .z)) r r r (.fieldAddr underlying83 r sizeOf2 r (o := 0) r r r (.load1 isAgg2 r (.s .z) r r r (.add r r r r (.skips 1 r (.nilS [6, 5, 4, 2] r r (.drop (.s .z) ?_)))))))))
 refine .seq (.seq (.region (.skips 1 r (.fieldAddr underlying83 r sizeOf81 r (o := 1) r r r (.load1 isAgg81 r (.s .z) r r r (.lt r r r r (.nilS [20, 6, 5, 4] r r (.drop (.s .z) (.condP r hd (fun hb13 hd => ?_) fun hb13 hd => ?_)))))))))
 · refine .region (.skips 1 r (.add r r r r (.sub (E' := [(4, _), (5, _), (20, _), (21, _), (22, _)]) ⟨r, r, r, r, r, trivial⟩ (.skips 1 r (.nilS [6, 5, 4] r r (.seq (.region (.skips 2 r (.build zeroValue83 underlying83 BI83 (.c r r r (.t .nil) (.c r r r (.s (.t .nil)) .n)) (by exact ⟨⟨_, _, r, r, r⟩, ⟨⟨_, _, r, r, r⟩, trivial⟩⟩) r r ?_)))))))))
   exact .storeA sizeOf83 r r .z (.t (.t .nil)) r r (.nilS [4] r r (.ret (pret results80 (.w isAgg83 sizeOf83 r .z r .n) (.refl _) ⟨({ Hi := w64 ((w64 (a0.Hi + a1.Hi)) + 1), Lo := IntKind.wrap .u64 (a0.Lo + a1.Lo) } : Wide), r, hd⟩)))
 exact .skipS [6, 5, 4] r r (.seq (.region (.skips 2 r (.build zeroValue83 underlying83 BI83 (.c r r r (.t .nil) (.c r r r (.s (.t .nil)) .n)) (by exact ⟨⟨_, _, r, r, r⟩, ⟨⟨_, _, r, r, r⟩, trivial⟩⟩) r r (.storeA sizeOf83 r r .z (.t (.t .nil)) r r (.nilS [4] r r (.ret (pret results80 (.w isAgg83 sizeOf83 r .z r .n) (.refl _) ⟨({ Hi := w64 (a0.Hi + a1.Hi), Lo := IntKind.wrap .u64 (a0.Lo + a1.Lo) } : Wide), r, hd⟩))))))))

theorem W_ref01_Compare {I : IH} {a0 : Wide} {a1 : Wide}  {Q : Int → Prop}  (hd : ref01_Compare a0 a1 Q) :
    PFun Tryz.prog 82 [.agg (encWide a0).toArray, .agg (encWide a1).toArray] I (fun I_ v => ∃ r, v = .int .i64 r ∧ Q r) := by
 refine Fun.enter func82 r ntmps82 r (.c (.c .n)) fun w0 M => ?_
 refine .seq (.region (.boxA r r r fun b5 => ?_))
 refine .boxA r r r fun b7 => ?_
 refine .skips 1 r (.nilS [3, 2] r r (.seq ?_))
 refine Cod.joinQ (σ := Unit) hd (fun (_ : Unit) c w => ∃ I_, IH.le I I_ ∧ Ok ⟨27, [], none⟩ [(2, .pointer (some ⟨b5, 0, none⟩)), (3, .pointer (some ⟨b7, 0, none⟩))] c ∧ Sym w0 M I I_ [pto b5 (.cells #[.int .i64 a0.Hi, .int .u64 a0.Lo] 83 (0, 0)), pto b7 (.cells #[.int .i64 a1.Hi, .int .u64 a1.Lo] 83 (0, 0))] w) (fun k15 hd => ?_) ?_
 · skip
   refine .seq (.region (.fieldAddr underlying83 r sizeOf2 r (o := 0) r r r (.load1 isAgg2 r (.s .z) r r r (.fieldAddr underlying83 r sizeOf2 r (o := 0) r r r (.load1 isAgg2 r .z r r r (.lt r r r r (.skips 1 r ?_)))))))
   refine splitP hd (fun hb16 hd => ?_) fun hb16 hd => ?_
   · rw [hb16]
     refine .skips 6 r (.gnoU r r r r (.gnoU r r r r (.gnoU r r r r (.gnoU r r r r (.gnoU r r r r (.skips 2 r (.nilS [23, 3, 2] r r (.condKT r r (.seq ?_)))))))))
     exact .region (.skips 1 r (.nilS [4] r r (.drop .z (.drop .z (.ret (pret results82 (.t r .n) (.refl _) ⟨(-1), r, hd⟩))))))
   rw [hb16]
   refine .gyes r r r (.fieldAddr underlying83 r sizeOf2 r (o := 0) r r r (.gyes r r r (.load1 isAgg2 r (.s .z) r r r (.gyes r r r (.fieldAddr underlying83 r sizeOf2 r (o := 0) r r r (.gyes r r r (.load1 isAgg2 r .z r r r (.gyes r r r (.eq r r r r (.gyes r r r (.move r r r ?_)))))))))))
   refine splitP hd (fun hb17 hd => ?_) fun hb17 hd => ?_
   · rw [hb17]
     refine .gyes r r r (.fieldAddr underlying83 r sizeOf81 r (o := 1) r r r (.gyes r r r (.load1 isAgg81 r (.s .z) r r r (.gyes r r r (.fieldAddr underlying83 r sizeOf81 r (o := 1) r r r (.gyes r r r (.load1 isAgg81 r .z r r r (.gyes r r r (.lt r r r r (.gyes r r r (.pickT r r r r r (.skips 1 r (.nilS [23, 3, 2] r r (.condP r hd (fun hb18 hd => ?_) fun hb18 hd => ?_))))))))))))))
     · exact .seq (.region (.skips 1 r (.nilS [4] r r (.drop .z (.drop .z (.ret (pret results82 (.t r .n) (.refl _) ⟨(-1), r, hd⟩)))))))
     exact .skip' fun c w ho hs => ⟨(), hd, I, (.refl _), ho.sub ⟨r, r, trivial⟩, hs.pick (.c (.s .z) (.c .z .n))⟩
   rw [hb17]
   exact .skips 5 r (.gyes r r r (.pickF r r r r r (.skips 1 r (.nilS [23, 3, 2] r r (.condKF r r (.skip' fun c w ho hs => ⟨(), hd, I, (.refl _), ho.sub ⟨r, r, trivial⟩, hs.pick (.c (.s .z) (.c .z .n))⟩))))))
 rintro ⟨⟩ hd c w hst
 obtain ⟨I19, hl20, hok, hsym⟩ := hst
 have le21 := IH.le.trans (.refl _) hl20
 refine Cod.at hok hsym (.seq (.seq (.region (.loadW isAgg83 sizeOf83 r .z r r r (.loadW isAgg83 sizeOf83 r (.s .z) r r r (.eqV r r (EQ83 a0 a1) (EG83 _ _ _ _ _) r r r (.nilS [26] r r (.drop .z (.drop .z ?_)))))))))
 refine .condP r hd (fun hb22 hd => ?_) fun hb22 hd => ?_
 · exact .seq (.region (.skips 1 r (.nilS [4] r r (.ret (pret results82 (.t r .n) le21 ⟨0, r, hd⟩)))))
 exact .skipS [] r r (.seq (.region (.skips 1 r (.nilS [4] r r (.ret (pret results82 (.t r .n) le21 ⟨1, r, hd⟩))))))

theorem W_ref02_truth {I : IH} {a0 : Bool}  {Q : Wide → Prop}  (hd : ref02_truth a0 Q) :
    PFun Tryz.prog 83 [.bool a0] I (fun I_ v => ∃ r, v = .agg (encWide r).toArray ∧ Q r) := by
 refine Fun.enter func83 r ntmps83 r (.c .n) fun w0 M => ?_
 refine .seq (.region (.allocA zeroValue83 r r fun b3 => ?_))
 refine .nilS [2, 0] r r (.seq (.seq (.region (.skips 1 r (.nilS [3, 2] r r (.condP r hd (fun hb5 hd => ?_) fun hb5 hd => ?_))))))
 · exact .seq (.region (.build zeroValue83 underlying83 BI83 (.c r r r (.s (.t .nil)) .n) (by exact ⟨⟨_, _, r, r, r⟩, trivial⟩) r r (.storeA sizeOf83 r r .z (.t (.t .nil)) r r (.nilS [2] r r (.ret (pret results83 (.w isAgg83 sizeOf83 r .z r .n) (.refl _) ⟨({ Hi := 0, Lo := 1 } : Wide), r, hd⟩))))))
 exact .skipS [2] r r (.seq (.region (.build zeroValue83 underlying83 BI83 .n (by exact trivial) r r (.storeA sizeOf83 r r .z (.t (.t .nil)) r r (.nilS [2] r r (.ret (pret results83 (.w isAgg83 sizeOf83 r .z r .n) (.refl _) ⟨({ Hi := 0, Lo := 0 } : Wide), r, hd⟩)))))))

end Go.Proofs.YtmidnfbbnmigeaaGreat
