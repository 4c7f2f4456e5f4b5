/- The walks (printed by a program of ours). -/
import Derived.Test.YtmidnfbbnmigeaaGreatSL
namespace Go.Proofs.YtmidnfbbnmigeaaGreat
open Go Go.Fw
set_option linter.unusedVariables false
set_option linter.unusedSimpArgs false
set_option maxRecDepth 8000
set_option maxHeartbeats 1000000
open Tryz
theorem W_policy_Direction {I : IH} {a0 : Int} {a1 : Int} {a2 : Int} {Q : Int → Prop}  (hd : policy_Direction a0 a1 a2 Q) :
  PFun prog 8 [.int .i64 a0, .int .i64 a1, .int .i64 a2] I (fun _ => o0_ Q) := by
 refine Fun.enter func8 r ntmps8 r (.c (.c (.c .n))) fun w0 M => ?_
 refine .sr (.ks 1 r (.nilS [2, 1, 0] r r (.seq (.sr (.ks 1 r (.nilS [7, 2, 1, 0] r r (.block (.seq (.sr ?_)))))))))
 refine .ks 2 r (.nilS [8, 7, 2, 1, 0] r r (.condP r hd (fun hb3 hd => ?_) fun hb3 hd => ?_))
 · exact .skipS [8, 2, 1, 0] r r (.condKT r hb3 (.sr (.ks 2 r (.nilS [6] r r (.ret (pret results8 (.t r .n) (.refl _) ⟨a0, r, hd⟩))))))
 refine .region (.ks 2 r (.nilS [8, 2, 1, 0] r r (.condP r hd (fun hb4 hd => ?_) fun hb4 hd => ?_)))
 · exact .sr (.ks 2 r (.nilS [6] r r (.ret (pret results8 (.t r .n) (.refl _) ⟨a0, r, hd⟩))))
 refine .skipS [2, 1] r r (.seq (.sr (.ks 2 r (.quo r r (by decide) r r (.ks 1 r (.nilS [15] r r (.condP r hd (fun hb5 hd => ?_) fun hb5 hd => ?_)))))))
 · exact .sr (.ks 1 r (.nilS [6] r r (.ret (pret results8 (.t r .n) (.refl _) ⟨2, r, hd⟩))))
 exact .skipS [] r r (.sr (.ks 1 r (.nilS [6] r r (.ret (pret results8 (.t r .n) (.refl _) ⟨1, r, hd⟩)))))

theorem W_policy_Shape {I : IH} {a0 : Int} {a1 : Int} {a2 : Int} {Q : Int → Prop}  (hd : policy_Shape a0 a1 a2 Q) :
  PFun prog 10 [.int .i64 a0, .int .i64 a1, .int .i64 a2] I (fun _ => o0_ Q) := by
 refine Fun.enter func10 r ntmps10 r (.c (.c (.c .n))) fun w0 M => ?_
 refine .sr (.ks 1 r (.nilS [2, 1, 0] r r (.seq (.sr (.ks 1 r (.nilS [7, 2, 1, 0] r r (.block (.seq (.sr ?_)))))))))
 refine .ks 2 r (.nilS [8, 7, 2, 1, 0] r r (.condP r hd (fun hb3 hd => ?_) fun hb3 hd => ?_))
 · exact .skipS [8, 2, 1, 0] r r (.condKT r hb3 (.sr (.ks 2 r (.nilS [6] r r (.ret (pret results10 (.t r .n) (.refl _) ⟨a0, r, hd⟩))))))
 refine .region (.ks 2 r (.nilS [8, 2, 1, 0] r r (.condP r hd (fun hb4 hd => ?_) fun hb4 hd => ?_)))
 · exact .sr (.ks 2 r (.nilS [6] r r (.ret (pret results10 (.t r .n) (.refl _) ⟨a0, r, hd⟩))))
 refine .skipS [2, 1] r r (.seq (.sr (.ks 2 r (.quo r r (by decide) r r (.ks 1 r (.nilS [15] r r (.condP r hd (fun hb5 hd => ?_) fun hb5 hd => ?_)))))))
 · exact .sr (.ks 1 r (.nilS [6] r r (.ret (pret results10 (.t r .n) (.refl _) ⟨2, r, hd⟩))))
 exact .skipS [] r r (.sr (.ks 1 r (.nilS [6] r r (.ret (pret results10 (.t r .n) (.refl _) ⟨1, r, hd⟩)))))

theorem W_spvec_within {I : IH} {a0 : Int} {a1 : Int} {Q : Bool → Prop}  (hd : spvec_within a0 a1 Q) :
  PFun prog 87 [.int .i64 a0, .int .i64 a1] I (fun _ => o1_ Q) := by
 refine Fun.enter func87 r ntmps87 r (.c (.c .n)) fun w0 M => ?_
 refine .sr (.ks 1 r (.nilS [1, 0] r r (.sr (.ks 3 r ?_))))
 refine splitP hd (fun hb1 hd => ?_) fun hb1 hd => ?_
 · rw [hb1]
   exact .ks 5 r (.nilS [4] r r (.ret (pret results87 (.t r .n) (.refl _) ⟨(decide (a0 ≤ a1)), r, hd⟩)))
 rw [hb1]
 exact .ks 5 r (.nilS [4] r r (.ret (pret results87 (.t r .n) (.refl _) ⟨false, r, hd⟩)))

theorem W_spvec_Right_1_81a {I : IH} {o0 : Int} {o1 : Vec} {a0 : Item} {b3 : Nat} {b4 : Nat} {p5 : Option Addr} {c6 : Nat} {Q : (Bool × Int) → Prop} (R7 : RepSl eItem I p5 c6 o1.Items) (hd : spvec_Right_1_81a o0 o1 a0 Q) :
  Fun prog 89 #[.agg (encItem a0).toArray, .pointer (some ⟨b3, 0, none⟩), .pointer (some ⟨b4, 0, none⟩)] I [pto b3 (.cells #[.int .i64 o0] 3 (0, 0)), pto b4 (.cells #[.int .i64 o1.N, .slice p5 o1.Items.length c6] 42 (0, 0))] (fun I_ v l => ∃ r, v = .bool r.1 ∧ l = [pto b3 (.cells #[.int .i64 r.2] 3 (0, 0)), pto b4 (.cells #[.int .i64 o1.N, .slice p5 o1.Items.length c6] 42 (0, 0))] ∧ Q r) := by
 refine Fun.enter (vs := [.agg (encItem a0).toArray, .pointer (some ⟨b3, 0, none⟩), .pointer (some ⟨b4, 0, none⟩)]) func89 r ntmps89 r (.c (.c (.c .n))) fun w0 M => ?_
 refine .sr (.boxA r r r fun b10 => ?_)
 refine .ks 1 r (.nilS [3, 2, 1] r r (.sr (.fa un80 r sz3 r (o := 0) r r r (.load1 ia3 r .z r r r (.load1 ia3 r (.s .z) r r r (.ks 2 r ?_))))))
 refine splitP hd (fun hb12 hd => ?_) fun hb12 hd => ?_
 · rw [hb12]
   refine .ks 7 r (.nilS [5, 3, 2, 1] r r (.sr (.fa un80 r sz3 r (o := 0) r r r (.load1 ia3 r .z r r r (.store1 sz3 r r (.s .z) (.t .nil) r (.nilS [5, 2, 1] r r (.drop .z (.sr (.ks 2 r ?_)))))))))
   exact .nilS [4, 2, 1] r r (.ret (oret results89 (.t r .n) (.refl _) (.c .z (.c .z .n)) ⟨(true, a0.At), r, r, hd⟩))
 rw [hb12]
 refine .gyes r r r (.fa un80 r sz3 r (o := 0) r r r (.gyes r r r (.load1 ia3 r .z r r r (.gyes r r r (.fa un42 r sz3 r (o := 0) r r r (.gyes r r r (.load1 ia3 r (.s (.s .z)) r r r (.ks 3 r (.nilS [5, 3, 2, 1] r r (.sr (.fa un80 r sz3 r (o := 0) r r r (.load1 ia3 r .z r r r (.store1 sz3 r r (.s .z) (.t .nil) r ?_)))))))))))))
 exact .nilS [5, 2, 1] r r (.drop .z (.sr (.ks 2 r (.nilS [4, 2, 1] r r (.ret (oret results89 (.t r .n) (.refl _) (.c .z (.c .z .n)) ⟨(decide (o1.N ≤ a0.At), a0.At), r, r, hd⟩))))))

theorem W_slices_IndexFunc_api_Item_api_Item_a3e {I : IH} {o0 : Int} {o1 : Vec} {a0 : List Item} {b3 : Nat} {b4 : Nat} {p5 : Option Addr} {c6 : Nat} {p8 : Option Addr} {c9 : Nat} {Q : (Int × Int) → Prop} (R7 : RepSl eItem I p5 c6 o1.Items) (R10 : RepSl eItem I p8 c9 a0) (hd : slices_IndexFunc_api_Item_api_Item_a3e o0 o1 a0 Q) :
  Fun prog 120 #[.slice p8 a0.length c9, .func (.func 89) #[] #[.pointer (some ⟨b3, 0, none⟩), .pointer (some ⟨b4, 0, none⟩)]] I [pto b3 (.cells #[.int .i64 o0] 3 (0, 0)), pto b4 (.cells #[.int .i64 o1.N, .slice p5 o1.Items.length c6] 42 (0, 0))] (fun I_ v l => ∃ r, v = .int .i64 r.1 ∧ l = [pto b3 (.cells #[.int .i64 r.2] 3 (0, 0)), pto b4 (.cells #[.int .i64 o1.N, .slice p5 o1.Items.length c6] 42 (0, 0))] ∧ Q r) := by
 refine Fun.enter (vs := [.slice p8 a0.length c9, .func (.func 89) #[] #[.pointer (some ⟨b3, 0, none⟩), .pointer (some ⟨b4, 0, none⟩)]]) func120 r ntmps120 r (.c (.c .n)) fun w0 M => ?_
 refine .sr (.ks 1 r (.nilS [1, 0] r r (.seq (.sr (.ks 1 r (.len un32 r r r r (.ks 1 r (.nilS [8, 7, 1, 0] r r (.block ?_)))))))))
 refine .loop hd (fun (s : Int × Int) c w => match s with | (s59, s60) => ∃ I_, IH.le I I_ ∧ Ok ⟨19, [], none⟩ [(0, .slice p8 a0.length c9), (1, .func (.func 89) #[] #[.pointer (some ⟨b3, 0, none⟩), .pointer (some ⟨b4, 0, none⟩)]), (7, .int .i64 (a0.length : Int)), (8, .int .i64 s60)] c ∧ Sym w0 M I I_ [pto b3 (.cells #[.int .i64 s59] 3 (0, 0)), pto b4 (.cells #[.int .i64 o1.N, .slice p5 o1.Items.length c6] 42 (0, 0))] w) (fun c w ho hs => ⟨I, (.refl _), ho.sub ⟨r, r, r, r, trivial⟩, hs.pick (.c .z (.c .z .n))⟩) ?_
 rintro ⟨s59, s60⟩ next61 hd c w hst
 obtain ⟨I62, hl63, hok, hsym⟩ := hst
 replace R7 := R7.mono hl63
 replace R10 := R10.mono hl63
 refine Cod.at hok hsym (.sr (.ks 1 r (.nilS [9, 8, 7, 1, 0] r r (.seq (.condP r hd (fun hb65 hd => ?_) fun hb65 hd => ?_)))))
 · refine .skipS [8, 7, 1, 0] r r (.seq (.block (.sr (.ks 2 r (.nilS [5, 8, 7, 1, 0] r r (.sr (.ks 3 r ?_)))))))
   obtain ⟨h66, x67, hx68, hd⟩ := hd
   obtain ⟨b69, o70, cs71, e72, hC73, hr74⟩ := R10.2 _ _ hx68
   cases hr74
   refine .ixa un32 sz80 r e72 r h66 (idx_lt hx68 h66) r r (.ldW isAgg80 sz80 hC73 r r r r ?_)
   have hw75 := W_spvec_Right_1_81a (I := I62) (o0 := s59) (o1 := o1) (a0 := x67) (b3 := b3) (b4 := b4) (p5 := p5) (c6 := c6) R7 hd
   refine .callS (.c call89 r r) (.c .z (.c .z .n)) hw75 r r fun v79 I76 l80 hl77 hv78 => ?_
   obtain ⟨r81, rfl, rfl, hd⟩ := hv78
   have le84 := IH.le.trans hl63 hl77
   replace R7 := R7.mono hl77
   replace R10 := R10.mono hl77
   replace hC73 := hC73.mono hl77
   refine .re (m' := [pto b3 (.cells #[.int .i64 r81.2] 3 (0, 0)), pto b4 (.cells #[.int .i64 o1.N, .slice p5 o1.Items.length c6] 42 (0, 0))]) r (.nilS [16, 5, 8, 7, 1, 0] r r (.condP r hd (fun hb85 hd => ?_) fun hb85 hd => ?_))
   · exact .sr (.ks 2 r (.nilS [4, 1] r r (.ret (oret results120 (.t r .n) le84 (.c .z (.c .z .n)) ⟨(s60, r81.2), r, r, hd⟩))))
   exact .skipS [8, 7, 1, 0] r r (.region (.ks 2 r (.nil' fun c w ho hs => ⟨(r81.2, w64 (s60 + 1)), hd, I76, le84, ho.sub ⟨r, r, r, r, trivial⟩, hs.pick (.c .z (.c .z .n))⟩)))
 exact .exitS [1] r r (.sr (.ks 1 r (.nilS [4, 1] r r (.ret (oret results120 (.t r .n) hl63 (.c .z (.c .z .n)) ⟨((-1), s59), r, r, hd⟩)))))

theorem W_slices_ContainsFunc_api_Item_api_Item_cd0 {I : IH} {o0 : Int} {o1 : Vec} {a0 : List Item} {b3 : Nat} {b4 : Nat} {p5 : Option Addr} {c6 : Nat} {p8 : Option Addr} {c9 : Nat} {Q : (Bool × Int) → Prop} (R7 : RepSl eItem I p5 c6 o1.Items) (R10 : RepSl eItem I p8 c9 a0) (hd : slices_ContainsFunc_api_Item_api_Item_cd0 o0 o1 a0 Q) :
  Fun prog 88 #[.slice p8 a0.length c9, .func (.func 89) #[] #[.pointer (some ⟨b3, 0, none⟩), .pointer (some ⟨b4, 0, none⟩)]] I [pto b3 (.cells #[.int .i64 o0] 3 (0, 0)), pto b4 (.cells #[.int .i64 o1.N, .slice p5 o1.Items.length c6] 42 (0, 0))] (fun I_ v l => ∃ r, v = .bool r.1 ∧ l = [pto b3 (.cells #[.int .i64 r.2] 3 (0, 0)), pto b4 (.cells #[.int .i64 o1.N, .slice p5 o1.Items.length c6] 42 (0, 0))] ∧ Q r) := by
 refine Fun.enter (vs := [.slice p8 a0.length c9, .func (.func 89) #[] #[.pointer (some ⟨b3, 0, none⟩), .pointer (some ⟨b4, 0, none⟩)]]) func88 r ntmps88 r (.c (.c .n)) fun w0 M => ?_
 refine .sr (.ks 1 r (.nilS [1, 0] r r (.sr (.ks 2 r ?_))))
 have hw11 := W_slices_IndexFunc_api_Item_api_Item_a3e (I := I) (o0 := o0) (o1 := o1) (a0 := a0) (b3 := b3) (b4 := b4) (p5 := p5) (c6 := c6) R7 R10 hd
 refine .callS (.f call120 r) (.c .z (.c .z .n)) hw11 r r fun v15 I12 l16 hl13 hv14 => ?_
 obtain ⟨r17, rfl, rfl, hd⟩ := hv14
 replace R7 := R7.mono hl13
 replace R10 := R10.mono hl13
 exact .re (m' := [pto b3 (.cells #[.int .i64 r17.2] 3 (0, 0)), pto b4 (.cells #[.int .i64 o1.N, .slice p5 o1.Items.length c6] 42 (0, 0))]) r (.ks 2 r (.nilS [4, 1] r r (.ret (oret results88 (.t r .n) hl13 (.c .z (.c .z .n)) ⟨(decide (0 ≤ r17.1), r17.2), r, r, hd⟩))))

theorem W_spvec_Right {I : IH} {a0 : Vec} {p1 : Option Addr} {c2 : Nat} {Q : Bool → Prop} (R3 : RepSl eItem I p1 c2 a0.Items) (hd : spvec_Right a0 Q) :
  PFun prog 54 [.agg #[.int .i64 a0.N, .slice p1 a0.Items.length c2]] I (fun _ => o1_ Q) := by
 refine Fun.enter func54 r ntmps54 r (.c .n) fun w0 M => ?_
 refine .sr (.boxA r r r fun b6 => ?_)
 refine .ks 1 r (.nilS [1] r r (.seq (.sr (.fa un42 r sz3 r (o := 0) r r r (.load1 ia3 r .z r r r ?_)))))
 have hw14 := W_spvec_within (I := I) hd
 refine .callP call87 r hw14 r r fun v15 hv16 => ?_
 obtain ⟨r13, rfl, hd⟩ := hv16
 refine .ks 1 r (.nilS [7, 1] r r (.condP r hd (fun hb17 hd => ?_) fun hb17 hd => ?_))
 · exact .sr (.ks 1 r (.nilS [2] r r (.drop .z (.ret (pret results54 (.t r .n) (.refl _) ⟨false, r, hd⟩)))))
 refine .skipS [1] r r (.sr (.alloc1 zv3 r r r fun b18 => ?_))
 refine .store1 sz3 r r .z (.t .nil) r (.nilS [3, 1] r r (.sr (.fa un42 r sz32 r (o := 1) r r r (.load1 ia32 r (.s .z) r r r (.mkFn r r r r ?_)))))
 have hw20 := W_slices_ContainsFunc_api_Item_api_Item_cd0 (I := I) (o0 := (-1)) (o1 := a0) (a0 := a0.Items) (b3 := b18) (b4 := b6) (p5 := p1) (c6 := c2) R3 R3 hd
 refine .callS (.f call88 r) (.c .z (.c .z .n)) hw20 r r fun v24 I21 l25 hl22 hv23 => ?_
 obtain ⟨r26, rfl, rfl, hd⟩ := hv23
 replace R3 := R3.mono hl22
 exact .re (m' := [pto b18 (.cells #[.int .i64 r26.2] 3 (0, 0)), pto b6 (.cells #[.int .i64 a0.N, .slice p1 a0.Items.length c2] 42 (0, 0))]) r (.ks 2 r (.nilS [2] r r (.drop .z (.drop .z (.ret (pret results54 (.t r .n) hl22 ⟨(!r26.1), r, hd⟩))))))

theorem W_slices_Clone_api_Item_api_Item {I : IH} {a0 : List Item} {p1 : Option Addr} {c2 : Nat} {Q : (List Item) → Prop} (R3 : RepSl eItem I p1 c2 a0) (hd : slices_Clone_api_Item_api_Item a0 Q) :
  PFun prog 56 [.slice p1 a0.length c2] I (fun I_ v => ∃ r p4 c5, v = .slice p4 r.length c5 ∧ RepSl eItem I_ p4 c5 r ∧ Q r) := by
 refine Fun.enter func56 r ntmps56 r (.c .n) fun w0 M => ?_
 refine .sr (.ks 1 r (.nilS [0] r r (.seq (.sr (.ks 1 r (.eqNilS un32 r r r r (.nilS [4, 0] r r ?_)))))))
 refine split p1.isNone (fun hb7 => ?_) (fun hb7 => ?_)
 · have hd := hd.1 (RepSl.ofNone R3 hb7)
   exact .condKT r hb7 (.sr (.ks 1 r (.nilS [2] r r (.ret (pret results56 (.t r .n) (.refl _) ⟨([] : List Item), _, _, r, (.nil _ _ _), hd⟩)))))
 have hd := hd.2
 refine .condKF r hb7 (.skipS [0] r r (.sr (.buildSlice 0 un32 sz80 zv80 r r .n r r fun b9 => ?_)))
 refine .ks 1 r (.ownB (El := eItem) (ys := ([] : List Item)) .z .nil r ?_)
 obtain ⟨hl12, hd⟩ := hd
 refine .append (ys := a0) 16 .z un32 un32 IN80 r r r r r r r r r (.imm R3 r) hl12 r r fun p13 c14 => ?_
 refine .ks 1 r (.nilS [2] r r (.pub .z fun I16 hl17 R18 => ?_))
 exact .ret (pret results56 (.t r .n) hl17 ⟨(([] : List Item) ++ a0), _, _, r, R18, hd⟩)

theorem W_flags_words {I : IH} {a0 : Int} {Q : Int → Prop}  (hd : flags_words a0 Q) :
  PFun prog 147 [.int .i64 a0] I (fun _ => o0_ Q) := by
 refine Fun.enter func147 r ntmps147 r (.c .n) fun w0 M => ?_
 refine .sr (.ks 1 r (.nilS [0] r r (.sr (.ks 1 r (.maxI r r r r (.minI r r r r (.ks 1 r (.shr' r r (by decide) r r (.ks 1 r ?_)))))))))
 exact .nilS [2] r r (.ret (pret results147 (.t r .n) (.refl _) ⟨(shr .i64 (w64 ((if 4096 < (if 0 > a0 then 0 else a0) then 4096 else (if 0 > a0 then 0 else a0)) + 63)) 6), r, hd⟩))

theorem W_flags_New {I : IH} {a0 : Int} {Q : (List Int) → Prop}  (hd : flags_New a0 Q) :
  OFun prog 121 [.int .i64 a0] I (fun I_ v l => ∃ r p1 c2, v = .slice p1 r.length c2 ∧ l = [OwnSl eU64 81 p1 c2 r] ∧ Q r) := by
 refine Fun.enter func121 r ntmps121 r (.c .n) fun w0 M => ?_
 refine .sr (.ks 1 r (.nilS [0] r r (.sr (.ks 1 r ?_))))
 have hw5 := W_flags_words (I := I) hd
 refine .callP call147 r hw5 r r fun v6 hv7 => ?_
 obtain ⟨r4, rfl, hd⟩ := hv7
 obtain ⟨h8, h9, hd⟩ := hd
 refine .make (El := eU64) (zv := 0) 8 un33 IN81 r r r r r r h8 h9 r r r fun b10 => ?_
 exact .ks 1 r (.nilS [2] r r (.ret (oret results121 (.t r .n) (.refl _) (.c .z .n) ⟨(List.replicate r4.toNat 0), _, _, r, r, hd⟩)))

theorem W_devec_New {I : IH} {a0 : Int} {Q : Dense → Prop}  (hd : devec_New a0 Q) :
  OFun prog 90 [.int .i64 a0] I (o2_ Q) := by
 refine Fun.enter func90 r ntmps90 r (.c .n) fun w0 M => ?_
 refine .sr (.allocA zv53 r r fun b9 => ?_)
 refine .nilS [2, 0] r r (.seq (.sr (.ks 3 r ?_)))
 refine splitP hd (fun hb11 hd => ?_) fun hb11 hd => ?_
 · rw [hb11]
   refine .ks 3 r (.nilS [8, 2, 0] r r (.condKT r r (.region (.ks 1 r (.nilS [0, 2] r r (.seq (.dr [0, 1, 3, 4, 2, 999, 5] 6 (.fk 3 r ?_))))))))
   obtain ⟨h13, h14, hd⟩ := hd
   refine .a (fun b => .slice (some ⟨b, 0, none⟩) (List.replicate (Int.toNat 0) (0 : Int)).length (Int.toNat 0)) (fun b => OwnSl eI64 2 (some ⟨b, 0, none⟩) (Int.toNat 0) (List.replicate (Int.toNat 0) (0 : Int))) r r r r (fun _ L hL ex => .make (El := eI64) (zv := 0) 8 un37 IN2 r r r r r r h13 h14 r r r fun b => .mk (val := fun b => .slice (some ⟨b, 0, none⟩) (List.replicate (Int.toNat 0) (0 : Int)).length (Int.toNat 0)) (atom := fun b => OwnSl eI64 2 (some ⟨b, 0, none⟩) (Int.toNat 0) (List.replicate (Int.toNat 0) (0 : Int))) hL b) (.ww r fun ex => ?_)
   have hw25 := W_flags_New (I := I) hd
   refine .callO call121 r hw25 r r fun v19 I16 l20 hl17 hv18 => ?_
   obtain ⟨r15, p21, c22, rfl, rfl, hd⟩ := hv18
   refine .so 2 r r r (.ck 2 r r trivial) (.b r fun b26 => DrawD.nop (.g r r r (fun _ => .build zv53 un53 BI53 (.c r r r (.t .nil) (.c r r r (.s (.t .nil)) (.c r r r (.s (.s (.t .nil))) .n))) (by exact ⟨⟨_, _, r, r, r⟩, ⟨⟨_, _, r, r, r⟩, ⟨⟨_, _, r, r, r⟩, trivial⟩⟩⟩) r r .mk) (.e2 6 (.storeA sz53 r r (.s .z) (.t (.t (.t .nil))) r r (.nilS [2] r r (.pub .z fun I27 hl28 R29 => ?_))))))
   have le30 := IH.le.trans hl17 hl28
   exact .ret (oret results90 (.w ia53 sz53 r .z r .n) le30 (.c (.s .z) .n) ⟨({ N := 0, Has := r15, Vals := (List.replicate (Int.toNat 0) (0 : Int)) } : Dense), _, _, _, _, r, R29, r, hd⟩)
 rw [hb11]
 refine .ks 3 r (.nilS [8, 2, 0] r r (.condP r hd (fun hb31 hd => ?_) fun hb31 hd => ?_))
 · refine .region (.ks 1 r (.nilS [0, 2] r r (.seq (.dr [0, 1, 3, 4, 2, 999, 5] 6 (.fk 3 r ?_)))))
   obtain ⟨h33, h34, hd⟩ := hd
   refine .a (fun b => .slice (some ⟨b, 0, none⟩) (List.replicate (Int.toNat 0) (0 : Int)).length (Int.toNat 0)) (fun b => OwnSl eI64 2 (some ⟨b, 0, none⟩) (Int.toNat 0) (List.replicate (Int.toNat 0) (0 : Int))) r r r r (fun _ L hL ex => .make (El := eI64) (zv := 0) 8 un37 IN2 r r r r r r h33 h34 r r r fun b => .mk (val := fun b => .slice (some ⟨b, 0, none⟩) (List.replicate (Int.toNat 0) (0 : Int)).length (Int.toNat 0)) (atom := fun b => OwnSl eI64 2 (some ⟨b, 0, none⟩) (Int.toNat 0) (List.replicate (Int.toNat 0) (0 : Int))) hL b) (.ww r fun ex => ?_)
   have hw45 := W_flags_New (I := I) hd
   refine .callO call121 r hw45 r r fun v39 I36 l40 hl37 hv38 => ?_
   obtain ⟨r35, p41, c42, rfl, rfl, hd⟩ := hv38
   refine .so 2 r r r (.ck 2 r r trivial) (.b r fun b46 => DrawD.nop (.g r r r (fun _ => .build zv53 un53 BI53 (.c r r r (.t .nil) (.c r r r (.s (.t .nil)) (.c r r r (.s (.s (.t .nil))) .n))) (by exact ⟨⟨_, _, r, r, r⟩, ⟨⟨_, _, r, r, r⟩, ⟨⟨_, _, r, r, r⟩, trivial⟩⟩⟩) r r .mk) (.e2 6 (.storeA sz53 r r (.s .z) (.t (.t (.t .nil))) r r (.nilS [2] r r (.pub .z fun I47 hl48 R49 => ?_))))))
   have le50 := IH.le.trans hl37 hl48
   exact .ret (oret results90 (.w ia53 sz53 r .z r .n) le50 (.c (.s .z) .n) ⟨({ N := 0, Has := r35, Vals := (List.replicate (Int.toNat 0) (0 : Int)) } : Dense), _, _, _, _, r, R49, r, hd⟩)
 refine .skipS [2, 0] r r (.seq (.dr [0, 1, 3, 4, 2, 999, 5] 6 (.fk 3 r ?_)))
 obtain ⟨h52, h53, hd⟩ := hd
 refine .a (fun b => .slice (some ⟨b, 0, none⟩) (List.replicate a0.toNat (0 : Int)).length a0.toNat) (fun b => OwnSl eI64 2 (some ⟨b, 0, none⟩) a0.toNat (List.replicate a0.toNat (0 : Int))) r r r r (fun _ L hL ex => .make (El := eI64) (zv := 0) 8 un37 IN2 r r r r r r h52 h53 r r r fun b => .mk (val := fun b => .slice (some ⟨b, 0, none⟩) (List.replicate a0.toNat (0 : Int)).length a0.toNat) (atom := fun b => OwnSl eI64 2 (some ⟨b, 0, none⟩) a0.toNat (List.replicate a0.toNat (0 : Int))) hL b) (.ww r fun ex => ?_)
 have hw64 := W_flags_New (I := I) hd
 refine .callO call121 r hw64 r r fun v58 I55 l59 hl56 hv57 => ?_
 obtain ⟨r54, p60, c61, rfl, rfl, hd⟩ := hv57
 refine .so 2 r r r (.ck 2 r r trivial) (.b r fun b65 => DrawD.nop (.g r r r (fun _ => .build zv53 un53 BI53 (.c r r r (.t .nil) (.c r r r (.s (.t .nil)) (.c r r r (.s (.s (.t .nil))) .n))) (by exact ⟨⟨_, _, r, r, r⟩, ⟨⟨_, _, r, r, r⟩, ⟨⟨_, _, r, r, r⟩, trivial⟩⟩⟩) r r .mk) (.e2 6 (.storeA sz53 r r (.s .z) (.t (.t (.t .nil))) r r (.nilS [2] r r (.pub .z fun I66 hl67 R68 => ?_))))))
 have le69 := IH.le.trans hl56 hl67
 exact .ret (oret results90 (.w ia53 sz53 r .z r .n) le69 (.c (.s .z) .n) ⟨({ N := a0, Has := r54, Vals := (List.replicate a0.toNat (0 : Int)) } : Dense), _, _, _, _, r, R68, r, hd⟩)

theorem W_flags_within {I : IH} {a0 : List Int} {a1 : Int} {p1 : Option Addr} {c2 : Nat} {Q : Bool → Prop} (R3 : RepSl eU64 I p1 c2 a0) (hd : flags_within a0 a1 Q) :
  PFun prog 122 [.slice p1 a0.length c2, .int .i64 a1] I (fun _ => o1_ Q) := by
 refine Fun.enter func122 r ntmps122 r (.c (.c .n)) fun w0 M => ?_
 refine .sr (.ks 1 r (.nilS [1, 0] r r (.sr (.ks 3 r ?_))))
 refine splitP hd (fun hb4 hd => ?_) fun hb4 hd => ?_
 · rw [hb4]
   exact .ks 1 r (.gyes r r r (.shr' r r (by decide) r r (.ks 1 r (.gyes r r r (.len un33 r r r r (.ks 3 r (.nilS [4] r r (.ret (pret results122 (.t r .n) (.refl _) ⟨(decide ((shr .i64 a1 6) < (a0.length : Int))), r, hd⟩)))))))))
 rw [hb4]
 exact .ks 7 r (.nilS [4] r r (.ret (pret results122 (.t r .n) (.refl _) ⟨false, r, hd⟩)))

theorem W_flags_bit {I : IH} {a0 : Int} {Q : Int → Prop}  (hd : flags_bit a0 Q) :
  PFun prog 123 [.int .i64 a0] I (fun _ => o3_ Q) := by
 refine Fun.enter func123 r ntmps123 r (.c .n) fun w0 M => ?_
 refine .sr (.ks 1 r (.nilS [0] r r (.sr (.ks 1 r (.conv un3 underlying125 r r r (.ks 1 r ?_))))))
 obtain ⟨hz1, hd⟩ := hd
 exact .shl' r r hz1 r r (.ks 1 r (.nilS [2] r r (.ret (pret results123 (.t r .n) (.refl _) ⟨(shl .u64 1 (bnd .u64 (IntKind.wrap .u64 (a0)) 63)), r, hd⟩))))

theorem W_flags_Has {I : IH} {a0 : List Int} {a1 : Int} {p1 : Option Addr} {c2 : Nat} {Q : Bool → Prop} (R3 : RepSl eU64 I p1 c2 a0) (hd : flags_Has a0 a1 Q) :
  PFun prog 134 [.slice p1 a0.length c2, .int .i64 a1] I (fun _ => o1_ Q) := by
 refine Fun.enter func134 r ntmps134 r (.c (.c .n)) fun w0 M => ?_
 refine .sr (.ks 1 r (.nilS [1, 0] r r (.seq (.dr [0, 1, 2, 3, 4, 5, 6, 7, 8, 9, 10, 11, 12, 13] 14 (.fk 2 r (.ww r fun ex => ?_))))))
 have hw5 := W_flags_within (I := I) R3 hd
 refine .callP call122 r hw5 r r fun v6 hv7 => ?_
 obtain ⟨r4, rfl, hd⟩ := hv7
 refine .so 0 r r r trivial (.fk 1 r ?_)
 refine splitP hd (fun hb8 hd => ?_) fun hb8 hd => ?_
 · refine .g r r r (fun _ => .gyes r r hb8 (.move r r r .mk)) (.g r r r (fun _ => .gyes r r hb8 (.move r r r .mk)) (.g r r r (fun _ => .gyes r r hb8 (.shr' r r (by decide) r r .mk)) ?_))
   obtain ⟨h9, x10, hx11, hd⟩ := hd
   obtain ⟨b12, o13, cs14, e15, hC16, hr17⟩ := R3.2 _ _ hx11
   cases hr17
   refine .g r r r (fun _ => .gyes r r hb8 (.ixa un33 sz81 r e15 r h9 (idx_lt hx11 h9) r r .mk)) (.g r r r (fun _ => .gyes r r hb8 (.ld1 (j := 0) ia81 hC16 r r r r r .mk)) (.g r r r (fun _ => .gyes r r hb8 (.move r r r .mk)) (.ww r fun ex => ?_)))
   have hw19 := W_flags_bit (I := I) hd
   refine .gyes r r hb8 (.callP call123 r hw19 r r fun v20 hv21 => ?_)
   obtain ⟨r18, rfl, hd⟩ := hv21
   exact .so 0 r r r (.cg r r r r (fun _ => .gyes r r hb8 (.ld1 (j := 0) ia81 hC16 r r r r r .mk)) (.cg r r r r (fun _ => .gyes r r hb8 (.ixa un33 sz81 r e15 r h9 (idx_lt hx11 h9) r r .mk)) (.cg r r r r (fun _ => .gyes r r hb8 (.shr' r r (by decide) r r .mk)) (.cg r r r r (fun _ => .gyes r r hb8 (.move r r r .mk)) (.cg r r r r (fun _ => .gyes r r hb8 (.move r r r .mk)) trivial))))) (.g r r r (fun _ => .gyes r r hb8 (.and r r r r .mk)) (.g r r r (fun _ => .gyes r r hb8 (.ne r r r r .mk)) (.g r r r (fun _ => .pickT r hb8 r r r .mk) (.e2 14 (.ks 1 r (.nilS [4] r r (.ret (pret results134 (.t r .n) (.refl _) ⟨((bnd .u64 x10 r18) != 0), r, hd⟩))))))))
 refine .g r r r (fun _ => .gno r r hb8 r r .mk) (.g r r r (fun _ => .gno r r hb8 r r .mk) (.g r r r (fun _ => .gno r r hb8 r r .mk) (.g r r r (fun _ => .gno r r hb8 r r .mk) (.g r r r (fun _ => .gno r r hb8 r r .mk) (.g r r r (fun _ => .gno r r hb8 r r .mk) (.g r r r (fun _ => .gno r r hb8 r r .mk) (.g r r r (fun _ => .gno r r hb8 r r .mk) (.g r r r (fun _ => .gno r r hb8 r r .mk) (.g r r r (fun _ => .pickF r hb8 r r r .mk) ?_)))))))))
 exact .e2 14 (.ks 1 r (.nilS [4] r r (.ret (pret results134 (.t r .n) (.refl _) ⟨false, r, hd⟩))))

theorem W_flags_each_555 {I : IH} {a0 : List Int} {p1 : Option Addr} {c2 : Nat} {Q : (List Int) → Prop} (R3 : RepSl eU64 I p1 c2 a0) (hd : flags_each_555 a0 Q) :
  Fun prog 149 #[.slice p1 a0.length c2] I [] (fun I_ v l => ∃ r b4 p5 c6, v = .func (.func 179) #[] #[.pointer (some ⟨b4, 0, none⟩)] ∧ RepSl eU64 I_ p5 c6 r ∧ l = [pto b4 (.cells #[.slice p5 r.length c6] 33 (0, 0))] ∧ Q r) := by
 refine Fun.enter (vs := [.slice p1 a0.length c2]) func149 r ntmps149 r (.c .n) fun w0 M => ?_
 refine .sr (.box1 r r r r fun b4 => ?_)
 exact .ks 1 r (.nilS [1] r r (.sr (.mkFn r r r r (.ks 1 r (.nilS [2] r r (.ret (oret results149 (.t r .n) (.refl _) (.c .z .n) ⟨a0, _, _, _, r, R3, r, hd⟩)))))))

theorem W_flags_each_1_6c7 {I : IH} {o0 : Nat} {o1 : Int} {o2 : Int} {o3 : List Int} {Y : Nat → Int → Int → Int → ((Bool × Nat × Int) → Prop) → Prop} {b5 : Nat} {b6 : Nat} {b7 : Nat} {p8 : Option Addr} {c9 : Nat} {lr : Nat} {Rr : Nat → HA} {Q : (Nat × Int) → Prop} (hY : ∀ {J_ : IH}, I.le J_ → ∀ {y11 : Nat} {y12 : Int} {y14 : Int} {x16 : Int} {Qy : (Bool × Nat × Int) → Prop}, Y y11 y12 y14 x16 Qy → RFun prog lr [.int .i64 x16] J_ [Rr y11, pto b5 (.cells #[.int .i64 y12] 3 (0, 0)), pto b6 (.cells #[.int .i64 y14] 3 (0, 0))] (fun I_ v l => ∃ r, v = .bool r.1 ∧ l = [Rr r.2.1, pto b5 (.cells #[.int .i64 y12] 3 (0, 0)), pto b6 (.cells #[.int .i64 r.2.2] 3 (0, 0))] ∧ Qy r)) (R10 : RepSl eU64 I p8 c9 o3) (hd : flags_each_1_6c7 o0 o1 o2 o3 Y Q) :
  Fun prog 179 #[.func (.yield lr) #[] #[], .pointer (some ⟨b7, 0, none⟩)] I [Rr o0, pto b5 (.cells #[.int .i64 o1] 3 (0, 0)), pto b6 (.cells #[.int .i64 o2] 3 (0, 0)), pto b7 (.cells #[.slice p8 o3.length c9] 33 (0, 0))] (fun I_ v l => ∃ r, v = .tuple #[] ∧ l = [Rr r.1, pto b5 (.cells #[.int .i64 o1] 3 (0, 0)), pto b6 (.cells #[.int .i64 r.2] 3 (0, 0)), pto b7 (.cells #[.slice p8 o3.length c9] 33 (0, 0))] ∧ Q r) := by
 refine Fun.enter (vs := [.func (.yield lr) #[] #[], .pointer (some ⟨b7, 0, none⟩)]) func179 r ntmps179 r (.c (.c .n)) fun w0 M => ?_
 refine .sr (.load1 ia33 r (.s (.s (.s .z))) r r r (.len un33 r r r r (.ks 1 r (.nilS [8, 7, 6, 1, 0] r r (.block (.loop hd (fun (s : Int × Int × Nat) c w => match s with | (s190, s191, s192) => ∃ I_, IH.le I I_ ∧ Ok ⟨31, [], none⟩ [(0, .func (.yield lr) #[] #[]), (1, .pointer (some ⟨b7, 0, none⟩)), (6, .slice p8 o3.length c9), (7, .int .i64 (o3.length : Int)), (8, .int .i64 s191)] c ∧ Sym w0 M I I_ [pto b5 (.cells #[.int .i64 o1] 3 (0, 0)), pto b6 (.cells #[.int .i64 s190] 3 (0, 0)), pto b7 (.cells #[.slice p8 o3.length c9] 33 (0, 0)), Rr s192] w) (fun c w ho hs => ⟨I, (.refl _), ho.sub ⟨r, r, r, r, r, trivial⟩, hs.pick (.c (.s .z) (.c (.s .z) (.c (.s .z) (.c .z .n))))⟩) ?_))))))
 rintro ⟨s190, s191, s192⟩ next193 hd c w hst
 obtain ⟨I194, hl195, hok, hsym⟩ := hst
 replace R10 := R10.mono hl195
 refine Cod.at hok hsym (.sr (.ks 1 r (.nilS [9, 8, 7, 6, 1, 0] r r (.seq (.condP r hd (fun hb197 hd => ?_) fun hb197 hd => ?_)))))
 · refine .skipS [8, 7, 6, 1, 0] r r (.seq (.block (.sr (.ks 1 r ?_))))
   obtain ⟨h207, x208, hx209, hd⟩ := hd
   obtain ⟨b210, o211, cs212, e213, hC214, hr215⟩ := R10.2 _ _ hx209
   cases hr215
   refine .ixa un33 sz81 r e213 r h207 (idx_lt hx209 h207) r r (.ld1 (j := 0) ia81 hC214 r r r r r (.ks 2 r (.nilS [4, 3, 8, 7, 6, 1, 0] r r (.sr (.ks 1 r (.shl' r r (by decide) r r (.ks 1 r (.nilS [5, 4, 8, 7, 6, 1, 0] r r (.block ?_)))))))))
   refine .loop hd (fun (s : Int × Int × Int × Nat) c w => match s with | (s258, s259, s260, s261) => ∃ I_, IH.le I194 I_ ∧ Ok ⟨31, [], none⟩ [(0, .func (.yield lr) #[] #[]), (1, .pointer (some ⟨b7, 0, none⟩)), (4, .int .u64 s259), (5, .int .i64 s260), (6, .slice p8 o3.length c9), (7, .int .i64 (o3.length : Int)), (8, .int .i64 s191)] c ∧ Sym w0 M I I_ [pto b5 (.cells #[.int .i64 o1] 3 (0, 0)), pto b6 (.cells #[.int .i64 s258] 3 (0, 0)), pto b7 (.cells #[.slice p8 o3.length c9] 33 (0, 0)), Rr s261] w) (fun c w ho hs => ⟨I194, (.refl _), ho.sub ⟨r, r, r, r, r, r, r, trivial⟩, hs.pick (.c .z (.c .z (.c .z (.c .z .n))))⟩) ?_
   rintro ⟨s258, s259, s260, s261⟩ next262 hd c w hst
   obtain ⟨I263, hl264, hok, hsym⟩ := hst
   have le265 := IH.le.trans hl195 hl264
   replace R10 := R10.mono hl264
   refine Cod.at hok hsym (.seq (.sr (.ks 2 r (.nilS [16, 8, 7, 6, 5, 4, 1, 0] r r (.condP r hd (fun hb267 hd => ?_) fun hb267 hd => ?_)))))
   · refine .skipS [8, 7, 6, 5, 4, 1, 0] r r (.seq (.block (.sr (.ks 4 r ?_))))
     refine splitP hd (fun hb268 hd => ?_) fun hb268 hd => ?_
     · rw [hb268]
       refine .ks 2 r ?_
       have hw269 := hY (J_ := I263) le265 (y11 := s261) (y12 := o1) (y14 := s258) (x16 := s260) hd
       refine .gyes r r r (.callY r r (.c (.s (.s (.s .z))) (.c .z (.c .z .n))) hw269 r r fun v273 I270 l274 hl271 hv272 => ?_)
       obtain ⟨r275, rfl, rfl, hd⟩ := hv272
       have le279 := IH.le.trans le265 hl271
       have le280 := IH.le.trans hl264 hl271
       replace R10 := R10.mono hl271
       refine .re (m' := [Rr r275.2.1, pto b5 (.cells #[.int .i64 o1] 3 (0, 0)), pto b6 (.cells #[.int .i64 r275.2.2] 3 (0, 0)), pto b7 (.cells #[.slice p8 o3.length c9] 33 (0, 0))]) r (.ks 2 r (.nilS [29, 8, 7, 6, 5, 4, 1, 0] r r (.condP r hd (fun hb281 hd => ?_) fun hb281 hd => ?_)))
       · exact .ret (oret results179 .n le279 (.c .z (.c .z (.c .z (.c .z .n)))) ⟨(r275.2.1, r275.2.2), r, r, hd⟩)
       exact .skipS [8, 7, 6, 5, 4, 1, 0] r r (.region (.ks 1 r (.shr' r r (by decide) r r (.ks 4 r (.nil' fun c w ho hs => ⟨(r275.2.2, shr .u64 s259 1, w64 (s260 + 1), r275.2.1), hd, I270, le280, ho.sub ⟨r, r, r, r, r, r, r, trivial⟩, hs.pick (.c (.s .z) (.c (.s .z) (.c (.s .z) (.c .z .n))))⟩)))))
     rw [hb268]
     exact .ks 5 r (.nilS [29, 8, 7, 6, 5, 4, 1, 0] r r (.condKF r r (.skipS [8, 7, 6, 5, 4, 1, 0] r r (.region (.ks 1 r (.shr' r r (by decide) r r (.ks 4 r (.nil' fun c w ho hs => ⟨(s258, shr .u64 s259 1, w64 (s260 + 1), s261), hd, I263, hl264, ho.sub ⟨r, r, r, r, r, r, r, trivial⟩, hs.pick (.c .z (.c .z (.c .z (.c .z .n))))⟩))))))))
   exact .exitS [8, 7, 6, 1, 0] r r (.region (.ks 2 r (.nil' fun c w ho hs => ⟨(s258, w64 (s191 + 1), s261), hd, I263, le265, ho.sub ⟨r, r, r, r, r, trivial⟩, hs.pick (.c .z (.c .z (.c .z (.c .z .n))))⟩)))
 exact .exit (oretN results179 .n hl195 (.c (.s (.s (.s .z))) (.c .z (.c .z (.c .z .n)))) ⟨(s192, s190), r, r, hd⟩)

theorem W_flags_Next {I : IH} {a0 : List Int} {a1 : Int} {p1 : Option Addr} {c2 : Nat} {Q : Int → Prop} (R3 : RepSl eU64 I p1 c2 a0) (hd : flags_Next a0 a1 Q) :
  PFun prog 126 [.slice p1 a0.length c2, .int .i64 a1] I (fun _ => o0_ Q) := by
 refine Fun.enter func126 r ntmps126 r (.c (.c .n)) fun w0 M => ?_
 refine .marks0 (.sr (.box1 r r r r fun b8 => ?_))
 refine .alloc1 zv3 r r r fun b10 => ?_
 refine .nilS [4, 3, 0] r r (.seq (.sr (.ks 1 r ?_)))
 have hw24 := W_flags_each_555 (I := I) (a0 := a0) R3 hd
 refine .callS (.f call149 r) .n hw24 r r fun v28 I25 l29 hl26 hv27 => ?_
 obtain ⟨r30, b32, p33, c34, rfl, R35, rfl, hd⟩ := hv27
 replace R3 := R3.mono hl26
 refine .re (m' := [pto b32 (.cells #[.slice p33 r30.length c34] 33 (0, 0)), pto b10 (.cells #[.int .i64 0] 3 (0, 0)), pto b8 (.cells #[.int .i64 a1] 3 (0, 0)), Marks ([])]) r (.nilS [7, 4, 3] r r (.block (.rangeF [.ret] r call179 (.c (.s (.s (.s .z))) (.c (.s (.s .z)) (.c (.s .z) (.c .z .n)))) fun lr D rc hrc => ?_)))
 refine ⟨_, W_flags_each_1_6c7 (I := I25) (lr := lr) (Rr := recA lr [.ret] rc) (o0 := 0) (o1 := a1) (o2 := 0) (o3 := r30) (b5 := b8) (b6 := b10) (b7 := b32) (p8 := p33) (c9 := c34) ?_ R35 hd, ?_⟩
 · skip
   intro I hJ y51 y52 y54 x56 Qy  hd
   replace R35 := R35.mono hJ
   obtain ⟨rfl, hd⟩ := hd
   refine RFun.mk hrc r fun w0 M => ?_
   refine .region (.ks 1 r (.nil' fun c w ho hs => beginR (E' := [(3, _), (4, _), (5, _)]) ho ⟨r, r, r, trivial⟩ hs .z (.block (.sr (.ks 1 r (.load1 ia3 r (.s .z) r r r (.ks 1 r (.nilS [11, 5, 4] r r (.condP r hd (fun hb57 hd => ?_) fun hb57 hd => ?_)))))))))
   · refine .sr (.ks 1 r (.store1 sz3 r r (.s (.s .z)) (.t .nil) r (.nilS [] r r ?_)))
     exact .ret fun c w ho hs => endR (js := [.ret]) 1 (.inr rfl) (.refl _) .z (.c .z (.c .z .n)) ⟨(false, 1, x56), rfl, rfl, hd⟩ hs
   exact .skip' fun c w ho hs => endR 0 (.inl rfl) (.refl _) .z (.c .z (.c .z .n)) ⟨(true, 0, y54), rfl, rfl, hd⟩ hs
 intro v61 I58 l' hl59 hv60
 obtain ⟨r62, rfl, rfl, hd⟩ := hv60
 have le66 := IH.le.trans hl26 hl59
 replace R35 := R35.mono hl59
 refine ⟨_, _, r, fun hj => ?_, fun i hj => ?_⟩
 · have hd := hd.1 (decide_eq_true hj)
   exact .re (m' := [Marks (D :: []), pto b8 (.cells #[.int .i64 a1] 3 (0, 0)), pto b10 (.cells #[.int .i64 r62.2] 3 (0, 0)), pto b32 (.cells #[.slice p33 r30.length c34] 33 (0, 0))]) r (.mkS [4] r r (.drop (.s .z) (.drop (.s (.s .z)) (.sr (.store1 sz3 r r (.s .z) (.t .nil) r (.nilS [4] r r (.ret (pretM .z results126 (.s ia3 r .z .n) le66 ⟨(-1), r, hd⟩))))))))
 obtain ⟨hz, hd⟩ := hd.2 (decide_eq_false (by omega))
 obtain rfl : i = 0 := by omega
 refine ⟨_, r, ?_⟩
 exact .re (m' := [Marks (D :: []), pto b8 (.cells #[.int .i64 a1] 3 (0, 0)), pto b10 (.cells #[.int .i64 r62.2] 3 (0, 0)), pto b32 (.cells #[.slice p33 r30.length c34] 33 (0, 0))]) r (.ret (pretM .z results126 (.s ia3 r (.s .z) .n) le66 ⟨r62.2, r, hd⟩))

theorem W_flags_Right {I : IH} {a0 : List Int} {a1 : Int} {p1 : Option Addr} {c2 : Nat} {Q : Bool → Prop} (R3 : RepSl eU64 I p1 c2 a0) (hd : flags_Right a0 a1 Q) :
  PFun prog 148 [.slice p1 a0.length c2, .int .i64 a1] I (fun _ => o1_ Q) := by
 refine Fun.enter func148 r ntmps148 r (.c (.c .n)) fun w0 M => ?_
 refine .sr (.ks 1 r (.nilS [1, 0] r r (.sr (.ks 3 r ?_))))
 refine splitP hd (fun hb4 hd => ?_) fun hb4 hd => ?_
 · rw [hb4]
   refine .ks 4 r ?_
   refine splitP hd (fun hb5 hd => ?_) fun hb5 hd => ?_
   · rw [hb5]
     refine .ks 1 r (.gyes r r r (.len un33 r r r r (.ks 1 r ?_)))
     have hw7 := W_flags_words (I := I) hd
     refine .gyes r r r (.callP call147 r hw7 r r fun v8 hv9 => ?_)
     obtain ⟨r6, rfl, hd⟩ := hv9
     refine .ks 3 r ?_
     refine splitP hd (fun hb10 hd => ?_) fun hb10 hd => ?_
     · rw [hb10]
       refine .ks 2 r ?_
       have hw12 := W_flags_Next (I := I) R3 hd
       refine .gyes r r r (.callP call126 r hw12 r r fun v13 hv14 => ?_)
       obtain ⟨r11, rfl, hd⟩ := hv14
       exact .ks 3 r (.nilS [4] r r (.ret (pret results148 (.t r .n) (.refl _) ⟨(decide (r11 < 0)), r, hd⟩)))
     rw [hb10]
     exact .ks 6 r (.nilS [4] r r (.ret (pret results148 (.t r .n) (.refl _) ⟨false, r, hd⟩)))
   rw [hb5]
   exact .ks 13 r (.nilS [4] r r (.ret (pret results148 (.t r .n) (.refl _) ⟨false, r, hd⟩)))
 rw [hb4]
 exact .ks 17 r (.nilS [4] r r (.ret (pret results148 (.t r .n) (.refl _) ⟨false, r, hd⟩)))

theorem W_devec_Right {I : IH} {a0 : Dense} {p1 : Option Addr} {c2 : Nat} {p4 : Option Addr} {c5 : Nat} {Q : Bool → Prop} (R3 : RepSl eU64 I p1 c2 a0.Has) (R6 : RepSl eI64 I p4 c5 a0.Vals) (hd : devec_Right a0 Q) :
  PFun prog 124 [.agg #[.int .i64 a0.N, .slice p1 a0.Has.length c2, .slice p4 a0.Vals.length c5]] I (fun _ => o1_ Q) := by
 refine Fun.enter func124 r ntmps124 r (.c .n) fun w0 M => ?_
 refine .sr (.boxA r r r fun b9 => ?_)
 refine .ks 1 r (.nilS [1] r r (.seq (.sr (.fa un53 r sz33 r (o := 1) r r r (.load1 ia33 r .z r r r (.fa un53 r sz3 r (o := 0) r r r (.load1 ia3 r .z r r r ?_)))))))
 have hw18 := W_flags_Right (I := I) R3 hd
 refine .callP call148 r hw18 r r fun v19 hv20 => ?_
 obtain ⟨r17, rfl, hd⟩ := hv20
 refine .ks 2 r ?_
 refine splitP hd (fun hb21 hd => ?_) fun hb21 hd => ?_
 · rw [hb21]
   exact .ks 7 r (.nilS [18, 1] r r (.condKT r r (.sr (.ks 1 r (.nilS [2] r r (.drop .z (.ret (pret results124 (.t r .n) (.refl _) ⟨false, r, hd⟩))))))))
 rw [hb21]
 refine .gyes r r r (.fa un53 r sz37 r (o := 2) r r r (.gyes r r r (.load1 ia37 r .z r r r (.gyes r r r (.len un37 r r r r (.gyes r r r (.fa un53 r sz3 r (o := 0) r r r (.gyes r r r (.load1 ia3 r .z r r r (.ks 2 r (.nilS [18, 1] r r (.condP r hd (fun hb22 hd => ?_) fun hb22 hd => ?_))))))))))))
 · exact .sr (.ks 1 r (.nilS [2] r r (.drop .z (.ret (pret results124 (.t r .n) (.refl _) ⟨false, r, hd⟩)))))
 refine .skipS [1] r r (.seq (.sr (.fa un53 r sz37 r (o := 2) r r r (.load1 ia37 r .z r r r (.len un37 r r r r (.ks 1 r (.nilS [22, 21, 20, 1] r r (.block (.loop hd (fun (s78 : Int) c w => ∃ I_, IH.le I I_ ∧ Ok ⟨37, [], none⟩ [(1, .pointer (some ⟨b9, 0, none⟩)), (20, .slice p4 a0.Vals.length c5), (21, .int .i64 (a0.Vals.length : Int)), (22, .int .i64 s78)] c ∧ Sym w0 M I I_ [pto b9 (.cells #[.int .i64 a0.N, .slice p1 a0.Has.length c2, .slice p4 a0.Vals.length c5] 53 (0, 0))] w) (fun c w ho hs => ⟨I, (.refl _), ho.sub ⟨r, r, r, r, trivial⟩, hs.pick (.c .z .n)⟩) ?_)))))))))
 rintro s78 next79 hd c w hst
 obtain ⟨I80, hl81, hok, hsym⟩ := hst
 replace R3 := R3.mono hl81
 replace R6 := R6.mono hl81
 refine Cod.at hok hsym (.sr (.ks 1 r (.nilS [23, 22, 21, 20, 1] r r (.seq (.condP r hd (fun hb83 hd => ?_) fun hb83 hd => ?_)))))
 · refine .skipS [22, 21, 20, 1] r r (.seq (.block (.sr (.ks 1 r ?_))))
   obtain ⟨h93, x94, hx95, hd⟩ := hd
   obtain ⟨b96, o97, cs98, e99, hC100, hr101⟩ := R6.2 _ _ hx95
   cases hr101
   refine .ixa un37 sz2 r e99 r h93 (idx_lt hx95 h93) r r (.ld1 (j := 0) ia2 hC100 r r r r r (.ks 2 r (.nilS [4, 3, 22, 21, 20, 1] r r (.sr (.ks 3 r ?_)))))
   refine splitP hd (fun hb102 hd => ?_) fun hb102 hd => ?_
   · rw [hb102]
     refine .gyes r r r (.fa un53 r sz33 r (o := 1) r r r (.gyes r r r (.load1 ia33 r .z r r r (.ks 1 r ?_))))
     have hw104 := W_flags_Has (I := I80) R3 hd
     refine .gyes r r r (.callP call134 r hw104 r r fun v105 hv106 => ?_)
     obtain ⟨r103, rfl, hd⟩ := hv106
     refine .ks 2 r (.nilS [35, 22, 21, 20, 1] r r (.condP r hd (fun hb107 hd => ?_) fun hb107 hd => ?_))
     · exact .sr (.ks 1 r (.nilS [2] r r (.drop .z (.ret (pret results124 (.t r .n) hl81 ⟨false, r, hd⟩)))))
     exact .skipS [22, 21, 20, 1] r r (.region (.ks 2 r (.nil' fun c w ho hs => ⟨(w64 (s78 + 1)), hd, I80, hl81, ho.sub ⟨r, r, r, r, trivial⟩, hs.pick (.c .z .n)⟩)))
   rw [hb102]
   exact .ks 6 r (.nilS [35, 22, 21, 20, 1] r r (.condKF r r (.skipS [22, 21, 20, 1] r r (.region (.ks 2 r (.nil' fun c w ho hs => ⟨(w64 (s78 + 1)), hd, I80, hl81, ho.sub ⟨r, r, r, r, trivial⟩, hs.pick (.c .z .n)⟩))))))
 exact .exitS [] r r (.drop .z (.sr (.ks 1 r (.nilS [2] r r (.ret (pret results124 (.t r .n) hl81 ⟨true, r, hd⟩))))))

theorem W_devec_sure {I : IH} {a0 : Dense} {p1 : Option Addr} {c2 : Nat} {p4 : Option Addr} {c5 : Nat} {Q : Dense → Prop} (R3 : RepSl eU64 I p1 c2 a0.Has) (R6 : RepSl eI64 I p4 c5 a0.Vals) (hd : devec_sure a0 Q) :
  PFun prog 92 [.agg #[.int .i64 a0.N, .slice p1 a0.Has.length c2, .slice p4 a0.Vals.length c5]] I (fun I_ v => ∃ r p7 c8 p10 c11, v = .agg #[.int .i64 r.N, .slice p7 r.Has.length c8, .slice p10 r.Vals.length c11] ∧ RepSl eU64 I_ p7 c8 r.Has ∧ RepSl eI64 I_ p10 c11 r.Vals ∧ Q r) := by
 refine Fun.enter func92 r ntmps92 r (.c .n) fun w0 M => ?_
 refine .sr (.boxA r r r fun b17 => ?_)
 refine .allocA zv53 r r fun b19 => ?_
 refine .nilS [2, 1] r r (.seq (.sr (.loadW ia53 sz53 r (.s .z) r r r ?_)))
 have hw22 := W_devec_Right (I := I) R3 R6 hd
 refine .callP call124 r hw22 r r fun v23 hv24 => ?_
 obtain ⟨r21, rfl, hd⟩ := hv24
 refine .nilS [4, 2, 1] r r (.condP r hd (fun hb25 hd => ?_) fun hb25 hd => ?_)
 · exact .sr (.loadW ia53 sz53 r (.s .z) r r r (.storeA sz53 r r .z (.t (.t (.t .nil))) r r (.nilS [2] r r (.drop (.s .z) (.ret (pret results92 (.w ia53 sz53 r .z r .n) (.refl _) ⟨a0, _, _, _, _, r, R3, R6, hd⟩))))))
 refine .skipS [2] r r (.drop (.s .z) (.sr ?_))
 have hw39 := W_devec_New (I := I) hd
 refine .callO call90 r hw39 r r fun v30 I27 l31 hl28 hv29 => ?_
 obtain ⟨r26, p32, c33, p35, c36, rfl, R34, rfl, hd⟩ := hv29
 refine .storeA sz53 r r (.s .z) (.t (.t (.t .nil))) r r (.nilS [2] r r (.pub .z fun I40 hl41 R42 => ?_))
 have le43 := IH.le.trans hl28 hl41
 replace R34 := R34.mono hl41
 exact .ret (pret results92 (.w ia53 sz53 r .z r .n) le43 ⟨r26, _, _, _, _, r, R34, R42, hd⟩)

theorem W_devec_all_319 {I : IH} {a0 : Dense} {p1 : Option Addr} {c2 : Nat} {p4 : Option Addr} {c5 : Nat} {Q : Dense → Prop} (R3 : RepSl eU64 I p1 c2 a0.Has) (R6 : RepSl eI64 I p4 c5 a0.Vals) (hd : devec_all_319 a0 Q) :
  Fun prog 93 #[.agg #[.int .i64 a0.N, .slice p1 a0.Has.length c2, .slice p4 a0.Vals.length c5]] I [] (fun I_ v l => ∃ r b7 p8 c9 p11 c12, v = .func (.func 125) #[] #[.pointer (some ⟨b7, 0, none⟩)] ∧ RepSl eU64 I_ p8 c9 r.Has ∧ RepSl eI64 I_ p11 c12 r.Vals ∧ l = [pto b7 (.cells #[.int .i64 r.N, .slice p8 r.Has.length c9, .slice p11 r.Vals.length c12] 53 (0, 0))] ∧ Q r) := by
 refine Fun.enter (vs := [.agg #[.int .i64 a0.N, .slice p1 a0.Has.length c2, .slice p4 a0.Vals.length c5]]) func93 r ntmps93 r (.c .n) fun w0 M => ?_
 refine .sr (.boxA r r r fun b7 => ?_)
 exact .ks 1 r (.nilS [1] r r (.sr (.mkFn r r r r (.ks 1 r (.nilS [2] r r (.ret (oret results93 (.t r .n) (.refl _) (.c .z .n) ⟨a0, _, _, _, _, _, r, R3, R6, r, hd⟩)))))))

theorem W_devec_all_1_7f1 {I : IH} {o0 : Nat} {o1 : Vec} {o2 : Dense} {Y : Nat → Vec → Int → Int → ((Bool × Nat × Vec) → Prop) → Prop} {b4 : Nat} {p5 : Option Addr} {c6 : Nat} {b9 : Nat} {p10 : Option Addr} {c11 : Nat} {p13 : Option Addr} {c14 : Nat} {lr : Nat} {Rr : Nat → HA} {Q : (Nat × Vec) → Prop} (hY : ∀ {J_ : IH}, I.le J_ → ∀ {y16 : Nat} {y17 : Vec} {x23 : Int} {x24 : Int} {p19 : Option Addr} {c20 : Nat} {Qy : (Bool × Nat × Vec) → Prop}, Y y16 y17 x23 x24 Qy → RFun prog lr [.int .i64 x23, .int .i64 x24] J_ [Rr y16, pto b4 (.cells #[.int .i64 y17.N, .slice p19 y17.Items.length c20] 42 (0, 0)), OwnSl eItem 80 p19 c20 y17.Items] (fun I_ v l => ∃ r p26 c27, v = .bool r.1 ∧ l = [Rr r.2.1, pto b4 (.cells #[.int .i64 r.2.2.N, .slice p26 r.2.2.Items.length c27] 42 (0, 0)), OwnSl eItem 80 p26 c27 r.2.2.Items] ∧ Qy r)) (R12 : RepSl eU64 I p10 c11 o2.Has) (R15 : RepSl eI64 I p13 c14 o2.Vals) (hd : devec_all_1_7f1 o0 o1 o2 Y Q) :
  Fun prog 125 #[.func (.yield lr) #[] #[], .pointer (some ⟨b9, 0, none⟩)] I [Rr o0, pto b4 (.cells #[.int .i64 o1.N, .slice p5 o1.Items.length c6] 42 (0, 0)), OwnSl eItem 80 p5 c6 o1.Items, pto b9 (.cells #[.int .i64 o2.N, .slice p10 o2.Has.length c11, .slice p13 o2.Vals.length c14] 53 (0, 0))] (fun I_ v l => ∃ r p17 c18, v = .tuple #[] ∧ l = [Rr r.1, pto b4 (.cells #[.int .i64 r.2.N, .slice p17 r.2.Items.length c18] 42 (0, 0)), OwnSl eItem 80 p17 c18 r.2.Items, pto b9 (.cells #[.int .i64 o2.N, .slice p10 o2.Has.length c11, .slice p13 o2.Vals.length c14] 53 (0, 0))] ∧ Q r) := by
 refine Fun.enter (vs := [.func (.yield lr) #[] #[], .pointer (some ⟨b9, 0, none⟩)]) func125 r ntmps125 r (.c (.c .n)) fun w0 M => ?_
 refine .sr (.fa un53 r sz33 r (o := 1) r r r (.load1 ia33 r (.s (.s (.s .z))) r r r ?_))
 have hw30 := W_flags_Next (I := I) R12 hd
 refine .callP call126 r hw30 r r fun v31 hv32 => ?_
 obtain ⟨r29, rfl, hd⟩ := hv32
 refine .ks 1 r (.nilS [3, 1, 0] r r (.block (.loop hd (fun (s : Int × (List Item) × Int × Nat) c w => match s with | (s114, s115, s119, s120) => ∃ I_ p116 c117, IH.le I I_ ∧ Ok ⟨23, [], none⟩ [(0, .func (.yield lr) #[] #[]), (1, .pointer (some ⟨b9, 0, none⟩)), (3, .int .i64 s119)] c ∧ Sym w0 M I I_ [pto b4 (.cells #[.int .i64 s114, .slice p116 s115.length c117] 42 (0, 0)), OwnSl eItem 80 p116 c117 s115, pto b9 (.cells #[.int .i64 o2.N, .slice p10 o2.Has.length c11, .slice p13 o2.Vals.length c14] 53 (0, 0)), Rr s120] w) (fun c w ho hs => ⟨I, _, _, (.refl _), ho.sub ⟨r, r, r, trivial⟩, hs.pick (.c (.s .z) (.c (.s .z) (.c (.s .z) (.c .z .n))))⟩) ?_)))
 rintro ⟨s114, s115, s119, s120⟩ next121 hd c w hst
 obtain ⟨I122, p116, c117, hl123, hok, hsym⟩ := hst
 replace R12 := R12.mono hl123
 replace R15 := R15.mono hl123
 refine Cod.at hok hsym (.seq (.sr (.ks 2 r (.nilS [8, 3, 1, 0] r r (.condP r hd (fun hb125 hd => ?_) fun hb125 hd => ?_)))))
 · refine .skipS [3, 1, 0] r r (.seq (.block (.sr (.ks 2 r (.fa un53 r sz37 r (o := 2) r r r (.load1 ia37 r (.s (.s .z)) r r r (.ks 1 r ?_)))))))
   obtain ⟨h126, x127, hx128, hd⟩ := hd
   obtain ⟨b129, o130, cs131, e132, hC133, hr134⟩ := R15.2 _ _ hx128
   cases hr134
   refine .ixa un37 sz2 r e132 r h126 (idx_lt hx128 h126) r r (.ld1 (j := 0) ia2 hC133 r r r r r ?_)
   have hw135 := hY (J_ := I122) hl123 (y16 := s120) (y17 := ({ N := s114, Items := s115 } : Vec)) (x23 := s119) (x24 := x127) (p19 := p116) (c20 := c117) hd
   refine .callY r r (.c (.s (.s (.s .z))) (.c .z (.c .z .n))) hw135 r r fun v139 I136 l140 hl137 hv138 => ?_
   obtain ⟨r141, p145, c146, rfl, rfl, hd⟩ := hv138
   have le149 := IH.le.trans hl123 hl137
   replace R12 := R12.mono hl137
   replace R15 := R15.mono hl137
   replace hC133 := hC133.mono hl137
   refine .re (m' := [Rr r141.2.1, pto b4 (.cells #[.int .i64 r141.2.2.N, .slice p145 r141.2.2.Items.length c146] 42 (0, 0)), OwnSl eItem 80 p145 c146 r141.2.2.Items, pto b9 (.cells #[.int .i64 o2.N, .slice p10 o2.Has.length c11, .slice p13 o2.Vals.length c14] 53 (0, 0))]) r (.ks 1 r (.nilS [22, 3, 1, 0] r r (.condP r hd (fun hb150 hd => ?_) fun hb150 hd => ?_)))
   · exact .ret (oret results125 .n le149 (.c .z (.c .z (.c .z (.c .z .n)))) ⟨(r141.2.1, r141.2.2), _, _, r, r, hd⟩)
   refine .skipS [3, 1, 0] r r (.region (.fa un53 r sz33 r (o := 1) r r r (.load1 ia33 r (.s (.s (.s .z))) r r r (.ks 2 r ?_))))
   have hw152 := W_flags_Next (I := I136) R12 hd
   refine .callP call126 r hw152 r r fun v153 hv154 => ?_
   obtain ⟨r151, rfl, hd⟩ := hv154
   exact .ks 1 r (.nil' fun c w ho hs => ⟨(r141.2.2.N, r141.2.2.Items, r151, r141.2.1), hd, I136, _, _, le149, ho.sub ⟨r, r, r, trivial⟩, hs.pick (.c (.s .z) (.c (.s .z) (.c (.s .z) (.c .z .n))))⟩)
 exact .exit (oretN results125 .n hl123 (.c (.s (.s (.s .z))) (.c .z (.c .z (.c .z .n)))) ⟨(s120, ({ N := s114, Items := s115 } : Vec)), _, _, r, r, hd⟩)

theorem W_devec_Back {I : IH} {a0 : Dense} {p1 : Option Addr} {c2 : Nat} {p4 : Option Addr} {c5 : Nat} {Q : Vec → Prop} (R3 : RepSl eU64 I p1 c2 a0.Has) (R6 : RepSl eI64 I p4 c5 a0.Vals) (hd : devec_Back a0 Q) :
  PFun prog 58 [.agg #[.int .i64 a0.N, .slice p1 a0.Has.length c2, .slice p4 a0.Vals.length c5]] I (o4_ Q) := by
 refine Fun.enter func58 r ntmps58 r (.c .n) fun w0 M => ?_
 refine .marks0 (.sr (.boxA r r r fun b14 => ?_))
 refine .allocA zv42 r r fun b16 => ?_
 refine .nilS [2, 1] r r (.sr (.loadW ia53 sz53 r (.s .z) r r r ?_))
 have hw43 := W_devec_sure (I := I) R3 R6 hd
 refine .call call92 r hw43 r r fun v35 I32 hl33 hv34 => ?_
 obtain ⟨r31, p37, c38, p40, c41, rfl, R39, R42, hd⟩ := hv34
 replace R3 := R3.mono hl33
 replace R6 := R6.mono hl33
 refine .storeA sz53 r r (.s .z) (.t (.t (.t .nil))) r r (.nilS [2, 1] r r (.sr (.fa un53 r sz3 r (o := 0) r r r (.load1 ia3 r (.s .z) r r r (.build zv42 un42 BI42 (.c r r r (.t .nil) .n) (by exact ⟨⟨_, _, r, r, r⟩, trivial⟩) r r (.allocA zv42 r r fun b46 => ?_))))))
 refine .storeA sz42 r r .z (.t (.t .nil)) r r (.nilS [3, 2, 1] r r (.seq (.sr (.loadW ia53 sz53 r (.s (.s .z)) r r r ?_))))
 have hw64 := W_devec_all_319 (I := I32) (a0 := r31) R39 R42 hd
 refine .callS (.f call93 r) .n hw64 r r fun v68 I65 l69 hl66 hv67 => ?_
 obtain ⟨r70, b72, p73, c74, p76, c77, rfl, R75, R78, rfl, hd⟩ := hv67
 have le79 := IH.le.trans hl33 hl66
 replace R39 := R39.mono hl66
 replace R42 := R42.mono hl66
 refine .re (m' := [pto b72 (.cells #[.int .i64 r70.N, .slice p73 r70.Has.length c74, .slice p76 r70.Vals.length c77] 53 (0, 0)), pto b46 (.cells #[.int .i64 r31.N, .slice none 0 0] 42 (0, 0)), pto b16 (.cells #[.int .i64 0, .slice none 0 0] 42 (0, 0)), pto b14 (.cells #[.int .i64 r31.N, .slice p37 r31.Has.length c38, .slice p40 r31.Vals.length c41] 53 (0, 0)), Marks ([])]) r (.nilS [12, 3, 2] r r (.drop (.s (.s (.s .z))) (.block (.own0 eItem 80 (.rangeF [] r call125 (.c (.s (.s (.s (.s .z)))) (.c (.s (.s .z)) (.c .z (.c .z .n)))) fun lr D rc hrc => ?_)))))
 refine ⟨_, W_devec_all_1_7f1 (I := I65) (lr := lr) (Rr := recA lr [] rc) (o0 := 0) (o1 := ({ N := r31.N, Items := ([] : List Item) } : Vec)) (o2 := r70) (b4 := b46) (p5 := none) (c6 := 0) (b9 := b72) (p10 := p73) (c11 := c74) (p13 := p76) (c14 := c77) ?_ R75 R78 hd, ?_⟩
 · skip
   intro I hJ y112 y113 x119 x120 p115 c116 Qy  hd
   replace R75 := R75.mono hJ
   replace R78 := R78.mono hJ
   obtain ⟨rfl, hd⟩ := hd
   refine RFun.mk hrc r fun w0 M => ?_
   refine .sr (.ks 1 r (.nilS [4, 14, 3] r r (.region (.ks 1 r (.nil' fun c w ho hs => beginR (E' := [(3, _), (4, _), (5, _)]) ho ⟨r, r, r, trivial⟩ hs .z (.block (.region (.fa un42 r sz32 r (o := 1) r r r (.load1 ia32 r (.s .z) r r r ?_)))))))))
   refine .ks 2 r (.build zv80 un80 BI80 (.c r r r (.t .nil) (.c r r r (.s (.t .nil)) .n)) (by exact ⟨⟨_, _, r, r, r⟩, ⟨⟨_, _, r, r, r⟩, trivial⟩⟩) r r (.buildSlice 1 un32 sz80 zv80 r r (.c r r r .n) r r fun b121 => ?_))
   obtain ⟨hl123, hd⟩ := hd
   refine .append (ys := [({ At := x119, Val := x120 } : Item)]) 16 (.s (.s (.s .z))) un32 un32 IN80 r r r r r r r r r (.box .z (.one r) r) hl123 r r fun p124 c125 => ?_
   refine .fa un42 r sz32 r (o := 1) r r r (.store1 sz32 r r (.s (.s (.s .z))) (.s (.t .nil)) r ?_)
   exact .nil' fun c w ho hs => endR 0 (.inl rfl) (.refl _) (.s (.s .z)) (.c (.s (.s .z)) (.c .z .n)) ⟨(true, 0, ({ N := y113.N, Items := (y113.Items ++ ([({ At := x119, Val := x120 } : Item)])) } : Vec)), _, _, rfl, rfl, hd⟩ hs
 intro v130 I127 l' hl128 hv129
 obtain ⟨r131, p135, c136, rfl, rfl, hd⟩ := hv129
 have le139 := IH.le.trans le79 hl128
 replace R75 := R75.mono hl128
 replace R78 := R78.mono hl128
 obtain ⟨hz, hd⟩ := hd
 refine ⟨_, _, r, fun hj => ?_, fun i hj => absurd (hz.symm.trans hj) (by simp)⟩
 refine .re (m' := [Marks (D :: []), pto b46 (.cells #[.int .i64 r131.2.N, .slice p135 r131.2.Items.length c136] 42 (0, 0)), OwnSl eItem 80 p135 c136 r131.2.Items, pto b72 (.cells #[.int .i64 r70.N, .slice p73 r70.Has.length c74, .slice p76 r70.Vals.length c77] 53 (0, 0)), pto b16 (.cells #[.int .i64 0, .slice none 0 0] 42 (0, 0))]) r (.mkS [3, 2] r r (.drop (.s (.s (.s .z))) (.sr (.loadW ia42 sz42 r (.s .z) r r r (.storeA sz42 r r (.s (.s (.s .z))) (.t (.t .nil)) r r (.nilS [2] r r (.drop (.s .z) (.pub (.s .z) fun I140 hl141 R142 => ?_))))))))
 have le143 := IH.le.trans le139 hl141
 exact .ret (pretM .z results58 (.w ia42 sz42 r .z r .n) le143 ⟨r131.2, _, _, r, R142, hd⟩)

theorem W_policy_Vec {I : IH} {a0 : Held} {p1 : Option Addr} {c2 : Nat} {p4 : Option Addr} {c5 : Nat} {p7 : Option Addr} {c8 : Nat} {Q : Vec → Prop} (R3 : RepSl eItem I p1 c2 a0.Vec.Items) (R6 : RepSl eU64 I p4 c5 a0.Dense.Has) (R9 : RepSl eI64 I p7 c8 a0.Dense.Vals) (hd : policy_Vec a0 Q) :
  PFun prog 23 [.agg #[.int .i64 a0.Form, .int .i64 a0.Vec.N, .slice p1 a0.Vec.Items.length c2, .int .i64 a0.Dense.N, .slice p4 a0.Dense.Has.length c5, .slice p7 a0.Dense.Vals.length c8]] I (fun I_ v => ∃ r p10 c11, v = .agg #[.int .i64 r.N, .slice p10 r.Items.length c11] ∧ RepSl eItem I_ p10 c11 r.Items ∧ Q r) := by
 refine Fun.enter func23 r ntmps23 r (.c .n) fun w0 M => ?_
 refine .sr (.boxA r r r fun b17 => ?_)
 refine .allocA zv42 r r fun b19 => ?_
 refine .nilS [2, 1] r r (.seq (.block (.sr (.fa un55 r sizeOf23 r (o := 0) r r r (.load1 isAgg23 r (.s .z) r r r (.ks 2 r (.nilS [3, 2, 1] r r (.condP r hd (fun hb21 hd => ?_) fun hb21 hd => ?_))))))))
 · refine .sr (.fa un55 r sz53 r (o := 3) r r r (.loadA ia53 sz53 r (.s .z) (.s (.s (.s (.t (.t (.t .nil)))))) r r r ?_))
   have hw31 := W_devec_Back (I := I) R6 R9 hd
   refine .call call58 r hw31 r r fun v26 I23 hl24 hv25 => ?_
   obtain ⟨r22, p28, c29, rfl, R30, hd⟩ := hv25
   replace R3 := R3.mono hl24
   replace R6 := R6.mono hl24
   replace R9 := R9.mono hl24
   exact .storeA sz42 r r .z (.t (.t .nil)) r r (.nilS [2] r r (.drop (.s .z) (.ret (pret results23 (.w ia42 sz42 r .z r .n) hl24 ⟨r22, _, _, r, R30, hd⟩))))
 refine .seq ?_
 refine Cod.joinQ (σ := Bool) hd (fun (s42 : Bool) c w => ∃ I_, IH.le I I_ ∧ Ok ⟨28, [], none⟩ [(1, .pointer (some ⟨b17, 0, none⟩)), (2, .pointer (some ⟨b19, 0, none⟩)), (10, .bool s42)] c ∧ Sym w0 M I I_ [pto b17 (.cells #[.int .i64 a0.Form, .int .i64 a0.Vec.N, .slice p1 a0.Vec.Items.length c2, .int .i64 a0.Dense.N, .slice p4 a0.Dense.Has.length c5, .slice p7 a0.Dense.Vals.length c8] 55 (0, 0)), pto b19 (.cells #[.int .i64 0, .slice none 0 0] 42 (0, 0))] w) (fun k43 hd => ?_) ?_
 · skip
   refine .region (.fa un55 r sizeOf23 r (o := 0) r r r (.load1 isAgg23 r (.s .z) r r r (.ks 2 r ?_)))
   refine splitP hd (fun hb44 hd => ?_) fun hb44 hd => ?_
   · rw [hb44]
     refine .gyes r r r (.fa un55 r sz42 r (o := 1) r r r (.gyes r r r (.loadA ia42 sz42 r (.s .z) (.s (.t (.t .nil))) r r r ?_)))
     have hw46 := W_spvec_Right (I := I) R3 hd
     refine .gyes r r r (.callP call54 r hw46 r r fun v47 hv48 => ?_)
     obtain ⟨r45, rfl, hd⟩ := hv48
     exact .ks 2 r (.nil' fun c w ho hs => ⟨r45, hd, I, (.refl _), ho.sub ⟨r, r, r, trivial⟩, hs.pick (.c (.s .z) (.c .z .n))⟩)
   rw [hb44]
   exact .ks 5 r (.nil' fun c w ho hs => ⟨false, hd, I, (.refl _), ho.sub ⟨r, r, r, trivial⟩, hs.pick (.c (.s .z) (.c .z .n))⟩)
 rintro s42 hd c w hst
 obtain ⟨I49, hl50, hok, hsym⟩ := hst
 replace R3 := R3.mono hl50
 replace R6 := R6.mono hl50
 replace R9 := R9.mono hl50
 refine Cod.at hok hsym (.condP r hd (fun hb51 hd => ?_) fun hb51 hd => ?_)
 · refine .seq (.dr [0, 1, 2, 3, 4, 5, 6, 7] 8 (.g r r r (fun _ => .fa un55 r sz42 r (o := 1) r r r .mk) (.g r r r (fun _ => .fa un42 r sz3 r (o := 1) r r r .mk) (.g r r r (fun _ => .load1 ia3 r .z r r r .mk) (.g r r r (fun _ => .fa un55 r sz42 r (o := 1) r r r .mk) (.g r r r (fun _ => .fa un42 r sz32 r (o := 2) r r r .mk) (.g r r r (fun _ => .load1 ia32 r .z r r r .mk) (.ww r fun ex => ?_))))))))
   have hw61 := W_slices_Clone_api_Item_api_Item (I := I49) R3 hd
   refine .call call56 r hw61 r r fun v56 I53 hl54 hv55 => ?_
   obtain ⟨r52, p58, c59, rfl, R60, hd⟩ := hv55
   have le62 := IH.le.trans hl50 hl54
   replace R3 := R3.mono hl54
   replace R6 := R6.mono hl54
   replace R9 := R9.mono hl54
   exact .so 2 r r r (.cg r r r r (fun _ => .load1 ia3 r .z r r r .mk) (.cg r r r r (fun _ => .fa un42 r sz3 r (o := 1) r r r .mk) (.cg r r r r (fun _ => .fa un55 r sz42 r (o := 1) r r r .mk) trivial))) (.g r r r (fun _ => .build zv42 un42 BI42 (.c r r r (.t .nil) (.c r r r (.s (.t .nil)) .n)) (by exact ⟨⟨_, _, r, r, r⟩, ⟨⟨_, _, r, r, r⟩, trivial⟩⟩) r r .mk) (.e2 8 (.storeA sz42 r r (.s .z) (.t (.t .nil)) r r (.nilS [2] r r (.drop .z (.ret (pret results23 (.w ia42 sz42 r .z r .n) le62 ⟨({ N := a0.Vec.N, Items := r52 } : Vec), _, _, r, R60, hd⟩)))))))
 exact .skipS [2] r r (.drop .z (.sr (.build zv42 un42 BI42 .n (by exact trivial) r r (.storeA sz42 r r .z (.t (.t .nil)) r r (.nilS [2] r r (.ret (pret results23 (.w ia42 sz42 r .z r .n) hl50 ⟨({ N := 0, Items := ([] : List Item) } : Vec), _, _, r, (.nil _ _ _), hd⟩)))))))

theorem W_dcsc_none {I : IH} {Q : Columns → Prop}  (hd : dcsc_none Q) :
  OFun prog 61 [] I (fun I_ v l => ∃ r p1 c2 p4 c5 p7 c8 p10 c11, v = .agg #[.int .i64 r.Rows, .int .i64 r.Cols, .slice p1 r.At.length c2, .slice p4 r.Start.length c5, .slice p7 r.Row.length c8, .slice p10 r.Val.length c11] ∧ l = [OwnSl eI64 3 p1 c2 r.At, OwnSl eI64 3 p4 c5 r.Start, OwnSl eI64 3 p7 c8 r.Row, OwnSl eI64 2 p10 c11 r.Val] ∧ Q r) := by
 refine Fun.enter func61 r ntmps61 r .n fun w0 M => ?_
 refine .sr (.allocA zv50 r r fun b13 => ?_)
 refine .nilS [0] r r (.sr (.buildSlice 1 un36 sz3 zv3 r r (.c r r r .n) r r fun b15 => ?_))
 exact .ownB (El := eI64) (ys := ([0] : List Int)) .z (.one r) r (.build zv50 un50 BI50 (.c r r r (.s (.s (.s (.t .nil)))) .n) (by exact ⟨⟨_, _, r, r, r⟩, trivial⟩) r r (.storeA sz50 r r (.s .z) (.t (.t (.t (.t (.t (.t .nil)))))) r r (.nilS [0] r r (.own0 eI64 3 (.own0 eI64 3 (.own0 eI64 2 (.ret (oret results61 (.w ia50 sz50 r (.s (.s (.s (.s .z)))) r .n) (.refl _) (.c (.s (.s .z)) (.c (.s (.s .z)) (.c (.s .z) (.c .z .n)))) ⟨({ Rows := 0, Cols := 0, At := ([] : List Int), Start := ([0] : List Int), Row := ([] : List Int), Val := ([] : List Int) } : Columns), _, _, _, _, _, _, _, _, r, r, hd⟩))))))))

theorem W_dcsc_within {I : IH} {a0 : Int} {a1 : Int} {Q : Bool → Prop}  (hd : dcsc_within a0 a1 Q) :
  PFun prog 162 [.int .i64 a0, .int .i64 a1] I (fun _ => o1_ Q) := by
 refine Fun.enter func162 r ntmps162 r (.c (.c .n)) fun w0 M => ?_
 refine .sr (.ks 1 r (.nilS [1, 0] r r (.sr (.ks 3 r ?_))))
 refine splitP hd (fun hb1 hd => ?_) fun hb1 hd => ?_
 · rw [hb1]
   exact .ks 5 r (.nilS [4] r r (.ret (pret results162 (.t r .n) (.refl _) ⟨(decide (a0 ≤ a1)), r, hd⟩)))
 rw [hb1]
 exact .ks 5 r (.nilS [4] r r (.ret (pret results162 (.t r .n) (.refl _) ⟨false, r, hd⟩)))

theorem W_dcsc_rising {I : IH} {a0 : List Int} {a1 : Int} {p1 : Option Addr} {c2 : Nat} {Q : Bool → Prop} (R3 : RepSl eI64 I p1 c2 a0) (hd : dcsc_rising a0 a1 Q) :
  PFun prog 163 [.slice p1 a0.length c2, .int .i64 a1] I (fun _ => o1_ Q) := by
 refine Fun.enter func163 r ntmps163 r (.c (.c .n)) fun w0 M => ?_
 refine .sr (.ks 1 r (.nilS [1, 0] r r (.seq (.sr (.ks 1 r (.len un36 r r r r (.ks 1 r (.nilS [9, 8, 7, 1, 0] r r (.block ?_)))))))))
 refine .loop hd (fun (s68 : Int) c w => ∃ I_, IH.le I I_ ∧ Ok ⟨33, [], none⟩ [(0, .slice p1 a0.length c2), (1, .int .i64 a1), (7, .slice p1 a0.length c2), (8, .int .i64 (a0.length : Int)), (9, .int .i64 s68)] c ∧ Sym w0 M I I_ [] w) (fun c w ho hs => ⟨I, (.refl _), ho.sub ⟨r, r, r, r, r, trivial⟩, hs.pick .n⟩) ?_
 rintro s68 next69 hd c w hst
 obtain ⟨I70, hl71, hok, hsym⟩ := hst
 replace R3 := R3.mono hl71
 refine Cod.at hok hsym (.sr (.ks 1 r (.nilS [10, 9, 8, 7, 1, 0] r r (.seq (.condP r hd (fun hb73 hd => ?_) fun hb73 hd => ?_)))))
 · refine .skipS [9, 8, 7, 1, 0] r r (.seq (.block (.sr (.ks 1 r ?_))))
   obtain ⟨h83, x84, hx85, hd⟩ := hd
   obtain ⟨b86, o87, cs88, e89, hC90, hr91⟩ := R3.2 _ _ hx85
   cases hr91
   refine .ixa un36 sz3 r e89 r h83 (idx_lt hx85 h83) r r (.ld1 (j := 0) ia3 hC90 r r r r r (.ks 2 r (.nilS [6, 5, 9, 8, 7, 1, 0] r r (.sr (.ks 3 r ?_)))))
   have hw93 := W_dcsc_within (I := I70) hd
   refine .callP call162 r hw93 r r fun v94 hv95 => ?_
   obtain ⟨r92, rfl, hd⟩ := hv95
   refine .ks 2 r ?_
   refine splitP hd (fun hb96 hd => ?_) fun hb96 hd => ?_
   · rw [hb96]
     exact .ks 12 r (.nilS [31, 9, 8, 7, 1, 0] r r (.condKT r r (.sr (.ks 1 r (.nilS [4] r r (.ret (pret results163 (.t r .n) hl71 ⟨false, r, hd⟩)))))))
   rw [hb96]
   refine .ks 3 r ?_
   refine splitP hd (fun hb97 hd => ?_) fun hb97 hd => ?_
   · rw [hb97]
     refine .ks 3 r ?_
     obtain ⟨h98, x99, hx100, hd⟩ := hd
     obtain ⟨b101, o102, cs103, e104, hC105, hr106⟩ := R3.2 _ _ hx100
     cases hr106
     refine .gyes r r r (.ixa un36 sz3 r e104 r h98 (idx_lt hx100 h98) r r (.gyes r r r (.ld1 (j := 0) ia3 hC105 r r r r r (.ks 4 r (.nilS [31, 9, 8, 7, 1, 0] r r (.condP r hd (fun hb107 hd => ?_) fun hb107 hd => ?_))))))
     · exact .sr (.ks 1 r (.nilS [4] r r (.ret (pret results163 (.t r .n) hl71 ⟨false, r, hd⟩))))
     exact .skipS [9, 8, 7, 1, 0] r r (.region (.ks 2 r (.nil' fun c w ho hs => ⟨(w64 (s68 + 1)), hd, I70, hl71, ho.sub ⟨r, r, r, r, r, trivial⟩, hs.pick .n⟩)))
   rw [hb97]
   exact .ks 9 r (.nilS [31, 9, 8, 7, 1, 0] r r (.condKF r r (.skipS [9, 8, 7, 1, 0] r r (.region (.ks 2 r (.nil' fun c w ho hs => ⟨(w64 (s68 + 1)), hd, I70, hl71, ho.sub ⟨r, r, r, r, r, trivial⟩, hs.pick .n⟩))))))
 exact .exitS [] r r (.sr (.ks 1 r (.nilS [4] r r (.ret (pret results163 (.t r .n) hl71 ⟨true, r, hd⟩)))))

theorem W_dcsc_Right {I : IH} {a0 : Columns} {p1 : Option Addr} {c2 : Nat} {p4 : Option Addr} {c5 : Nat} {p7 : Option Addr} {c8 : Nat} {p10 : Option Addr} {c11 : Nat} {Q : Bool → Prop} (R3 : RepSl eI64 I p1 c2 a0.At) (R6 : RepSl eI64 I p4 c5 a0.Start) (R9 : RepSl eI64 I p7 c8 a0.Row) (R12 : RepSl eI64 I p10 c11 a0.Val) (hd : dcsc_Right a0 Q) :
  PFun prog 133 [.agg #[.int .i64 a0.Rows, .int .i64 a0.Cols, .slice p1 a0.At.length c2, .slice p4 a0.Start.length c5, .slice p7 a0.Row.length c8, .slice p10 a0.Val.length c11]] I (fun _ => o1_ Q) := by
 refine Fun.enter func133 r ntmps133 r (.c .n) fun w0 M => ?_
 refine .sr (.boxA r r r fun b15 => ?_)
 refine .ks 1 r (.nilS [1] r r (.sr (.fa un50 r sz36 r (o := 4) r r r (.load1 ia36 r .z r r r (.len un36 r r r r (.ks 1 r (.nilS [3, 1] r r (.seq (.sr ?_)))))))))
 refine .fa un50 r sz3 r (o := 0) r r r (.load1 ia3 r .z r r r ?_)
 have hw31 := W_dcsc_within (I := I) hd
 refine .callP call162 r hw31 r r fun v32 hv33 => ?_
 obtain ⟨r30, rfl, hd⟩ := hv33
 refine .ks 2 r ?_
 refine splitP hd (fun hb34 hd => ?_) fun hb34 hd => ?_
 · rw [hb34]
   exact .ks 26 r (.nilS [38, 3, 1] r r (.condKT r r (.sr (.ks 1 r (.nilS [2] r r (.drop .z (.ret (pret results133 (.t r .n) (.refl _) ⟨false, r, hd⟩))))))))
 rw [hb34]
 refine .gyes r r r (.fa un50 r sz3 r (o := 1) r r r (.gyes r r r (.load1 ia3 r .z r r r ?_)))
 have hw36 := W_dcsc_within (I := I) hd
 refine .gyes r r r (.callP call162 r hw36 r r fun v37 hv38 => ?_)
 obtain ⟨r35, rfl, hd⟩ := hv38
 refine .ks 3 r ?_
 refine splitP hd (fun hb39 hd => ?_) fun hb39 hd => ?_
 · rw [hb39]
   exact .ks 20 r (.nilS [38, 3, 1] r r (.condKT r r (.sr (.ks 1 r (.nilS [2] r r (.drop .z (.ret (pret results133 (.t r .n) (.refl _) ⟨false, r, hd⟩))))))))
 rw [hb39]
 refine .gyes r r r (.fa un50 r sz36 r (o := 3) r r r (.gyes r r r (.load1 ia36 r .z r r r (.gyes r r r (.len un36 r r r r (.gyes r r r (.fa un50 r sz36 r (o := 2) r r r (.gyes r r r (.load1 ia36 r .z r r r (.gyes r r r (.len un36 r r r r (.ks 4 r ?_))))))))))))
 refine splitP hd (fun hb40 hd => ?_) fun hb40 hd => ?_
 · rw [hb40]
   exact .ks 10 r (.nilS [38, 3, 1] r r (.condKT r r (.sr (.ks 1 r (.nilS [2] r r (.drop .z (.ret (pret results133 (.t r .n) (.refl _) ⟨false, r, hd⟩))))))))
 rw [hb40]
 refine .gyes r r r (.fa un50 r sz37 r (o := 5) r r r (.gyes r r r (.load1 ia37 r .z r r r (.gyes r r r (.len un37 r r r r (.ks 4 r ?_))))))
 refine splitP hd (fun hb41 hd => ?_) fun hb41 hd => ?_
 · rw [hb41]
   exact .ks 3 r (.nilS [38, 3, 1] r r (.condKT r r (.sr (.ks 1 r (.nilS [2] r r (.drop .z (.ret (pret results133 (.t r .n) (.refl _) ⟨false, r, hd⟩))))))))
 rw [hb41]
 refine .ks 3 r (.nilS [38, 3, 1] r r (.condP r hd (fun hb42 hd => ?_) fun hb42 hd => ?_))
 · exact .sr (.ks 1 r (.nilS [2] r r (.drop .z (.ret (pret results133 (.t r .n) (.refl _) ⟨false, r, hd⟩)))))
 refine .skipS [3, 1] r r (.seq (.sr (.fa un50 r sz36 r (o := 2) r r r (.load1 ia36 r .z r r r (.fa un50 r sz3 r (o := 1) r r r (.load1 ia3 r .z r r r ?_))))))
 have hw74 := W_dcsc_rising (I := I) R3 hd
 refine .callP call163 r hw74 r r fun v75 hv76 => ?_
 obtain ⟨r73, rfl, hd⟩ := hv76
 refine .ks 2 r ?_
 refine splitP hd (fun hb77 hd => ?_) fun hb77 hd => ?_
 · rw [hb77]
   exact .ks 25 r (.nilS [70, 1] r r (.condKT r r (.sr (.ks 1 r (.nilS [2] r r (.drop .z (.ret (pret results133 (.t r .n) (.refl _) ⟨false, r, hd⟩))))))))
 rw [hb77]
 refine .gyes r r r (.fa un50 r sz36 r (o := 3) r r r (.gyes r r r (.load1 ia36 r .z r r r (.ks 2 r ?_))))
 have hw79 := W_dcsc_rising (I := I) R6 hd
 refine .gyes r r r (.callP call163 r hw79 r r fun v80 hv81 => ?_)
 obtain ⟨r78, rfl, hd⟩ := hv81
 refine .ks 3 r ?_
 refine splitP hd (fun hb82 hd => ?_) fun hb82 hd => ?_
 · rw [hb82]
   exact .ks 17 r (.nilS [70, 1] r r (.condKT r r (.sr (.ks 1 r (.nilS [2] r r (.drop .z (.ret (pret results133 (.t r .n) (.refl _) ⟨false, r, hd⟩))))))))
 rw [hb82]
 refine .gyes r r r (.fa un50 r sz36 r (o := 3) r r r (.gyes r r r (.load1 ia36 r .z r r r ?_)))
 obtain ⟨h83, x84, hx85, hd⟩ := hd
 obtain ⟨b86, o87, cs88, e89, hC90, hr91⟩ := R6.2 _ _ hx85
 cases hr91
 refine .gyes r r r (.ixa un36 sz3 r e89 r h83 (idx_lt hx85 h83) r r (.gyes r r r (.ld1 (j := 0) ia3 hC90 r r r r r (.ks 3 r ?_))))
 refine splitP hd (fun hb92 hd => ?_) fun hb92 hd => ?_
 · rw [hb92]
   exact .ks 10 r (.nilS [70, 1] r r (.condKT r r (.sr (.ks 1 r (.nilS [2] r r (.drop .z (.ret (pret results133 (.t r .n) (.refl _) ⟨false, r, hd⟩))))))))
 rw [hb92]
 refine .gyes r r r (.fa un50 r sz36 r (o := 3) r r r (.gyes r r r (.load1 ia36 r .z r r r (.gyes r r r (.fa un50 r sz36 r (o := 2) r r r (.gyes r r r (.load1 ia36 r .z r r r (.gyes r r r (.len un36 r r r r ?_)))))))))
 obtain ⟨h93, x94, hx95, hd⟩ := hd
 obtain ⟨b96, o97, cs98, e99, hC100, hr101⟩ := R6.2 _ _ hx95
 cases hr101
 refine .gyes r r r (.ixa un36 sz3 r e99 r h93 (idx_lt hx95 h93) r r (.gyes r r r (.ld1 (j := 0) ia3 hC100 r r r r r (.ks 3 r (.nilS [70, 1] r r (.condP r hd (fun hb102 hd => ?_) fun hb102 hd => ?_))))))
 · exact .sr (.ks 1 r (.nilS [2] r r (.drop .z (.ret (pret results133 (.t r .n) (.refl _) ⟨false, r, hd⟩)))))
 refine .skipS [1] r r (.seq (.sr (.fa un50 r sz36 r (o := 2) r r r (.load1 ia36 r .z r r r (.len un36 r r r r (.ks 1 r (.nilS [74, 73, 1] r r (.block (.loop hd (fun (s176 : Int) c w => ∃ I_, IH.le I I_ ∧ Ok ⟨96, [], none⟩ [(1, .pointer (some ⟨b15, 0, none⟩)), (73, .int .i64 (a0.At.length : Int)), (74, .int .i64 s176)] c ∧ Sym w0 M I I_ [pto b15 (.cells #[.int .i64 a0.Rows, .int .i64 a0.Cols, .slice p1 a0.At.length c2, .slice p4 a0.Start.length c5, .slice p7 a0.Row.length c8, .slice p10 a0.Val.length c11] 50 (0, 0))] w) (fun c w ho hs => ⟨I, (.refl _), ho.sub ⟨r, r, r, trivial⟩, hs.pick (.c .z .n)⟩) ?_)))))))))
 rintro s176 next177 hd c w hst
 obtain ⟨I178, hl179, hok, hsym⟩ := hst
 replace R3 := R3.mono hl179
 replace R6 := R6.mono hl179
 replace R9 := R9.mono hl179
 replace R12 := R12.mono hl179
 refine Cod.at hok hsym (.sr (.ks 1 r (.nilS [75, 74, 73, 1] r r (.seq (.condP r hd (fun hb181 hd => ?_) fun hb181 hd => ?_)))))
 · refine .skipS [74, 73, 1] r r (.seq (.block (.sr (.ks 2 r (.nilS [4, 74, 73, 1] r r (.seq (.dr [0, 1, 2, 3, 4, 5, 6, 7, 8, 9, 10, 11, 12, 13, 14, 15, 16, 17] 18 (.g r r r (fun _ => .fa un50 r sz36 r (o := 4) r r r .mk) (.g r r r (fun _ => .load1 ia36 r .z r r r .mk) ?_)))))))))
   refine .g r r r (fun _ => .fa un50 r sz36 r (o := 3) r r r .mk) (.g r r r (fun _ => .load1 ia36 r .z r r r .mk) (.fk 1 r ?_))
   obtain ⟨h182, x183, hx184, hd⟩ := hd
   obtain ⟨b185, o186, cs187, e188, hC189, hr190⟩ := R6.2 _ _ hx184
   cases hr190
   refine .g r r r (fun _ => .ixa un36 sz3 r e188 r h182 (idx_lt hx184 h182) r r .mk) (.g r r r (fun _ => .ld1 (j := 0) ia3 hC189 r r r r r .mk) (.g r r r (fun _ => .fa un50 r sz36 r (o := 3) r r r .mk) (.g r r r (fun _ => .load1 ia36 r .z r r r .mk) (.fk 2 r ?_))))
   obtain ⟨h191, x192, hx193, hd⟩ := hd
   obtain ⟨b194, o195, cs196, e197, hC198, hr199⟩ := R6.2 _ _ hx193
   cases hr199
   refine .g r r r (fun _ => .ixa un36 sz3 r e197 r h191 (idx_lt hx193 h191) r r .mk) (.g r r r (fun _ => .ld1 (j := 0) ia3 hC198 r r r r r .mk) ?_)
   obtain ⟨h200, h201, h202, hd⟩ := hd
   have h208 : Int.toNat x183 ≤ Int.toNat x192 := by omega
   have h209 : Int.toNat x192 ≤ a0.Row.length := by omega
   obtain ⟨p203, c204, e206, e207, R205⟩ := RepSl.sliceW R9 (Int.toNat x183) (Int.toNat x192) c8 h208 h209 (.inl rfl)
   refine .g r r r (fun _ => .sliceW (L := Int.toNat x183) (H := Int.toNat x192) (cm := c8) un36 sz3 r r R9.1 r r r (.inr ⟨_, _, r, h200, r⟩) (.inr ⟨_, _, r, (by omega), r⟩) (.inl r) h208 h209 r e206 e207 r r .mk) (.g r r r (fun _ => .fa un50 r sz3 r (o := 0) r r r .mk) (.g r r r (fun _ => .load1 ia3 r .z r r r .mk) (.ww r fun ex => ?_)))
   have hw211 := W_dcsc_rising (I := I178) R205 hd
   refine .callP call163 r hw211 r r fun v212 hv213 => ?_
   obtain ⟨r210, rfl, hd⟩ := hv213
   refine .so 1 r r r trivial (.fk 1 r (.e2 18 (.nilS [94, 74, 73, 1] r r (.condP r hd (fun hb214 hd => ?_) fun hb214 hd => ?_))))
   · exact .sr (.ks 1 r (.nilS [2] r r (.drop .z (.ret (pret results133 (.t r .n) hl179 ⟨false, r, hd⟩)))))
   exact .skipS [74, 73, 1] r r (.region (.ks 2 r (.nil' fun c w ho hs => ⟨(w64 (s176 + 1)), hd, I178, hl179, ho.sub ⟨r, r, r, trivial⟩, hs.pick (.c .z .n)⟩)))
 exact .exitS [] r r (.drop .z (.sr (.ks 1 r (.nilS [2] r r (.ret (pret results133 (.t r .n) hl179 ⟨true, r, hd⟩))))))

theorem W_dcsc_sure {I : IH} {a0 : Columns} {p1 : Option Addr} {c2 : Nat} {p4 : Option Addr} {c5 : Nat} {p7 : Option Addr} {c8 : Nat} {p10 : Option Addr} {c11 : Nat} {Q : Columns → Prop} (R3 : RepSl eI64 I p1 c2 a0.At) (R6 : RepSl eI64 I p4 c5 a0.Start) (R9 : RepSl eI64 I p7 c8 a0.Row) (R12 : RepSl eI64 I p10 c11 a0.Val) (hd : dcsc_sure a0 Q) :
  PFun prog 104 [.agg #[.int .i64 a0.Rows, .int .i64 a0.Cols, .slice p1 a0.At.length c2, .slice p4 a0.Start.length c5, .slice p7 a0.Row.length c8, .slice p10 a0.Val.length c11]] I (o5_ Q) := by
 refine Fun.enter func104 r ntmps104 r (.c .n) fun w0 M => ?_
 refine .sr (.boxA r r r fun b29 => ?_)
 refine .allocA zv50 r r fun b31 => ?_
 refine .nilS [2, 1] r r (.seq (.sr (.loadW ia50 sz50 r (.s .z) r r r ?_)))
 have hw34 := W_dcsc_Right (I := I) R3 R6 R9 R12 hd
 refine .callP call133 r hw34 r r fun v35 hv36 => ?_
 obtain ⟨r33, rfl, hd⟩ := hv36
 refine .nilS [4, 2, 1] r r (.condP r hd (fun hb37 hd => ?_) fun hb37 hd => ?_)
 · exact .sr (.loadW ia50 sz50 r (.s .z) r r r (.storeA sz50 r r .z (.t (.t (.t (.t (.t (.t .nil)))))) r r (.nilS [2] r r (.drop (.s .z) (.ret (pret results104 (.w ia50 sz50 r .z r .n) (.refl _) ⟨a0, _, _, _, _, _, _, _, _, r, R3, R6, R9, R12, hd⟩))))))
 refine .skipS [2] r r (.drop (.s .z) (.sr ?_))
 have hw60 := W_dcsc_none (I := I) hd
 refine .callO call61 r hw60 r r fun v42 I39 l43 hl40 hv41 => ?_
 obtain ⟨r38, p44, c45, p47, c48, p50, c51, p53, c54, rfl, rfl, hd⟩ := hv41
 refine .storeA sz50 r r (.s (.s (.s (.s .z)))) (.t (.t (.t (.t (.t (.t .nil)))))) r r (.nilS [2] r r (.pub .z fun I61 hl62 R63 => ?_))
 have le64 := IH.le.trans hl40 hl62
 refine .pub .z fun I65 hl66 R67 => ?_
 have le68 := IH.le.trans le64 hl66
 replace R63 := R63.mono hl66
 refine .pub .z fun I69 hl70 R71 => ?_
 have le72 := IH.le.trans le68 hl70
 replace R63 := R63.mono hl70
 replace R67 := R67.mono hl70
 refine .pub .z fun I73 hl74 R75 => ?_
 have le76 := IH.le.trans le72 hl74
 replace R63 := R63.mono hl74
 replace R67 := R67.mono hl74
 replace R71 := R71.mono hl74
 exact .ret (pret results104 (.w ia50 sz50 r .z r .n) le76 ⟨r38, _, _, _, _, _, _, _, _, r, R63, R67, R71, R75, hd⟩)

theorem W_dcsc_place {I : IH} {a0 : Columns} {a1 : Int} {p1 : Option Addr} {c2 : Nat} {p4 : Option Addr} {c5 : Nat} {p7 : Option Addr} {c8 : Nat} {p10 : Option Addr} {c11 : Nat} {Q : Int → Prop} (R3 : RepSl eI64 I p1 c2 a0.At) (R6 : RepSl eI64 I p4 c5 a0.Start) (R9 : RepSl eI64 I p7 c8 a0.Row) (R12 : RepSl eI64 I p10 c11 a0.Val) (hd : dcsc_place a0 a1 Q) :
  PFun prog 105 [.agg #[.int .i64 a0.Rows, .int .i64 a0.Cols, .slice p1 a0.At.length c2, .slice p4 a0.Start.length c5, .slice p7 a0.Row.length c8, .slice p10 a0.Val.length c11], .int .i64 a1] I (fun _ => o0_ Q) := by
 refine Fun.enter func105 r ntmps105 r (.c (.c .n)) fun w0 M => ?_
 refine .sr (.boxA r r r fun b15 => ?_)
 refine .ks 1 r (.nilS [2, 1] r r (.scope (.seq (.dr [0, 1, 2, 3] 4 (.g r r r (fun _ => .fa un50 r sz36 r (o := 2) r r r .mk) (.g r r r (fun _ => .load1 ia36 r .z r r r .mk) (.g r r r (fun _ => .len un36 r r r r .mk) (.fk 1 r (.e2 4 ?_)))))))))
 refine .ks 1 r (.nilS [6, 5, 2, 1] r r (.seq (.labelS [6, 5, 2, 1] r r (.seq ?_))))
 refine Cod.joinQ (σ := Int × Int) hd (fun (s : Int × Int) c w => match s with | (s225, s226) => ∃ I_, IH.le I I_ ∧ Ok ⟨44, [], none⟩ [(5, .int .i64 s225), (6, .int .i64 s226)] c ∧ Sym w0 M I I_ [] w) (fun k227 hd => ?_) ?_
 · skip
   refine .block (.loop hd (fun (s : Int × Int) c w => match s with | (s296, s297) => ∃ I_, IH.le I I_ ∧ Ok ⟨44, [], none⟩ [(1, .int .i64 a1), (2, .pointer (some ⟨b15, 0, none⟩)), (5, .int .i64 s296), (6, .int .i64 s297)] c ∧ Sym w0 M I I_ [pto b15 (.cells #[.int .i64 a0.Rows, .int .i64 a0.Cols, .slice p1 a0.At.length c2, .slice p4 a0.Start.length c5, .slice p7 a0.Row.length c8, .slice p10 a0.Val.length c11] 50 (0, 0))] w) (fun c w ho hs => ⟨I, (.refl _), ho.sub ⟨r, r, r, r, trivial⟩, hs.pick (.c .z .n)⟩) ?_)
   rintro ⟨s296, s297⟩ next298 hd c w hst
   obtain ⟨I299, hl300, hok, hsym⟩ := hst
   replace R3 := R3.mono hl300
   replace R6 := R6.mono hl300
   replace R9 := R9.mono hl300
   replace R12 := R12.mono hl300
   refine Cod.at hok hsym (.seq (.sr (.ks 3 r (.nilS [13, 6, 5, 2, 1] r r (.condP r hd (fun hb302 hd => ?_) fun hb302 hd => ?_)))))
   · refine .skipS [6, 5, 2, 1] r r (.block (.sr (.ks 4 r (.quo r r (by decide) r r (.ks 2 r (.nilS [7, 6, 5, 2, 1] r r (.block (.sr (.fa un50 r sz36 r (o := 2) r r r ?_)))))))))
     refine .load1 ia36 r .z r r r (.ks 1 r ?_)
     obtain ⟨h312, x313, hx314, hd⟩ := hd
     obtain ⟨b315, o316, cs317, e318, hC319, hr320⟩ := R3.2 _ _ hx314
     cases hr320
     refine .ixa un36 sz3 r e318 r h312 (idx_lt hx314 h312) r r (.ld1 (j := 0) ia3 hC319 r r r r r (.ks 3 r (.nilS [21, 7, 6, 5, 2, 1] r r (.condP r hd (fun hb321 hd => ?_) fun hb321 hd => ?_))))
     · exact .sr (.ks 2 r (.nilS [5, 6] r r (.drop .z (.exit fun c w ho hs => ⟨(w64 (s296 + (w64 ((w64 (s297 - s296)).tdiv 2))), s297), hd, I299, hl300, ho.sub ⟨r, r, trivial⟩, hs.pick .n⟩))))
     refine .sr (.fa un50 r sz36 r (o := 2) r r r (.load1 ia36 r .z r r r (.ks 1 r ?_)))
     obtain ⟨h322, x323, hx324, hd⟩ := hd
     obtain ⟨b325, o326, cs327, e328, hC329, hr330⟩ := R3.2 _ _ hx324
     cases hr330
     refine .ixa un36 sz3 r e328 r h322 (idx_lt hx324 h322) r r (.ld1 (j := 0) ia3 hC329 r r r r r (.ks 3 r (.nilS [30, 7, 6, 5, 2, 1] r r (.condP r hd (fun hb331 hd => ?_) fun hb331 hd => ?_))))
     · exact .region (.ks 3 r (.nil' fun c w ho hs => ⟨(w64 ((w64 (s296 + (w64 ((w64 (s297 - s296)).tdiv 2)))) + 1), s297), hd, I299, hl300, ho.sub ⟨r, r, r, r, trivial⟩, hs.pick (.c .z .n)⟩))
     exact .region (.ks 2 r (.nil' fun c w ho hs => ⟨(s296, w64 (s296 + (w64 ((w64 (s297 - s296)).tdiv 2)))), hd, I299, hl300, ho.sub ⟨r, r, r, r, trivial⟩, hs.pick (.c .z .n)⟩))
   exact .exit fun c w ho hs => ⟨(s296, s297), hd, I299, hl300, ho.sub ⟨r, r, trivial⟩, hs.pick .n⟩
 rintro ⟨s225, s226⟩ hd c w hst
 obtain ⟨I332, hl333, hok, hsym⟩ := hst
 refine Cod.at hok hsym (.seq (.sr (.ks 3 r (.nilS [42, 5] r r (.condP r hd (fun hb334 hd => ?_) fun hb334 hd => ?_)))))
 · exact .sr (.ks 2 r (.nilS [4] r r (.ret (pret results105 (.t r .n) hl333 ⟨s225, r, hd⟩))))
 exact .skipS [] r r (.sr (.ks 1 r (.nilS [4] r r (.ret (pret results105 (.t r .n) hl333 ⟨(-1), r, hd⟩)))))

theorem W_dcsc_Work {I : IH} {a0 : Columns} {a1 : List Int} {p1 : Option Addr} {c2 : Nat} {p4 : Option Addr} {c5 : Nat} {p7 : Option Addr} {c8 : Nat} {p10 : Option Addr} {c11 : Nat} {p13 : Option Addr} {c14 : Nat} {Q : Int → Prop} (R3 : RepSl eI64 I p1 c2 a0.At) (R6 : RepSl eI64 I p4 c5 a0.Start) (R9 : RepSl eI64 I p7 c8 a0.Row) (R12 : RepSl eI64 I p10 c11 a0.Val) (R15 : RepSl eI64 I p13 c14 a1) (hd : dcsc_Work a0 a1 Q) :
  PFun prog 71 [.agg #[.int .i64 a0.Rows, .int .i64 a0.Cols, .slice p1 a0.At.length c2, .slice p4 a0.Start.length c5, .slice p7 a0.Row.length c8, .slice p10 a0.Val.length c11], .slice p13 a1.length c14] I (fun _ => o0_ Q) := by
 refine Fun.enter func71 r ntmps71 r (.c (.c .n)) fun w0 M => ?_
 refine .sr (.boxA r r r fun b18 => ?_)
 refine .ks 1 r (.nilS [2, 1] r r (.sr (.loadW ia50 sz50 r .z r r r ?_)))
 have hw57 := W_dcsc_sure (I := I) R3 R6 R9 R12 hd
 refine .call call104 r hw57 r r fun v43 I40 hl41 hv42 => ?_
 obtain ⟨r39, p45, c46, p48, c49, p51, c52, p54, c55, rfl, R47, R50, R53, R56, hd⟩ := hv42
 replace R3 := R3.mono hl41
 replace R6 := R6.mono hl41
 replace R9 := R9.mono hl41
 replace R12 := R12.mono hl41
 replace R15 := R15.mono hl41
 refine .storeA sz50 r r .z (.t (.t (.t (.t (.t (.t .nil)))))) r r (.nilS [2, 1] r r (.sr (.ks 1 r (.nilS [5, 2, 1] r r (.seq (.sr (.ks 1 r (.len un36 r r r r (.ks 1 r ?_)))))))))
 refine .nilS [13, 12, 11, 5, 2] r r (.block (.loop hd (fun (s : Int × Int) c w => match s with | (s158, s159) => ∃ I_, IH.le I40 I_ ∧ Ok ⟨38, [], none⟩ [(2, .pointer (some ⟨b18, 0, none⟩)), (5, .int .i64 s158), (11, .slice p13 a1.length c14), (12, .int .i64 (a1.length : Int)), (13, .int .i64 s159)] c ∧ Sym w0 M I I_ [pto b18 (.cells #[.int .i64 r39.Rows, .int .i64 r39.Cols, .slice p45 r39.At.length c46, .slice p48 r39.Start.length c49, .slice p51 r39.Row.length c52, .slice p54 r39.Val.length c55] 50 (0, 0))] w) (fun c w ho hs => ⟨I40, (.refl _), ho.sub ⟨r, r, r, r, r, trivial⟩, hs.pick (.c .z .n)⟩) ?_))
 rintro ⟨s158, s159⟩ next160 hd c w hst
 obtain ⟨I161, hl162, hok, hsym⟩ := hst
 have le163 := IH.le.trans hl41 hl162
 replace R15 := R15.mono hl162
 replace R47 := R47.mono hl162
 replace R50 := R50.mono hl162
 replace R53 := R53.mono hl162
 replace R56 := R56.mono hl162
 refine Cod.at hok hsym (.sr (.ks 1 r (.nilS [14, 13, 12, 11, 5, 2] r r (.seq (.condP r hd (fun hb165 hd => ?_) fun hb165 hd => ?_)))))
 · refine .skipS [13, 12, 11, 5, 2] r r (.seq (.block (.sr ?_)))
   obtain ⟨h175, x176, hx177, hd⟩ := hd
   obtain ⟨b178, o179, cs180, e181, hC182, hr183⟩ := R15.2 _ _ hx177
   cases hr183
   refine .ixa un36 sz3 r e181 r h175 (idx_lt hx177 h175) r r (.ld1 (j := 0) ia3 hC182 r r r r r (.ks 1 r (.nilS [7, 13, 12, 11, 5, 2] r r (.sr (.loadW ia50 sz50 r .z r r r (.ks 1 r ?_))))))
   have hw189 := W_dcsc_place (I := I161) R47 R50 R53 R56 hd
   refine .callP call105 r hw189 r r fun v190 hv191 => ?_
   obtain ⟨r188, rfl, hd⟩ := hv191
   refine .ks 1 r (.nilS [8, 13, 12, 11, 5, 2] r r (.sr (.ks 2 r (.nilS [21, 8, 13, 12, 11, 5, 2] r r (.condP r hd (fun hb192 hd => ?_) fun hb192 hd => ?_)))))
   · refine .dr [0, 1, 2, 3, 4, 5, 6, 7, 8, 9, 10, 11, 12, 13] 14 (.fk 1 r (.g r r r (fun _ => .fa un50 r sz36 r (o := 3) r r r .mk) (.g r r r (fun _ => .load1 ia36 r .z r r r .mk) (.fk 2 r ?_))))
     obtain ⟨h193, x194, hx195, hd⟩ := hd
     obtain ⟨b196, o197, cs198, e199, hC200, hr201⟩ := R50.2 _ _ hx195
     cases hr201
     refine .g r r r (fun _ => .ixa un36 sz3 r e199 r h193 (idx_lt hx195 h193) r r .mk) (.g r r r (fun _ => .ld1 (j := 0) ia3 hC200 r r r r r .mk) (.g r r r (fun _ => .fa un50 r sz36 r (o := 3) r r r .mk) (.g r r r (fun _ => .load1 ia36 r .z r r r .mk) (.fk 1 r ?_))))
     obtain ⟨h202, x203, hx204, hd⟩ := hd
     obtain ⟨b205, o206, cs207, e208, hC209, hr210⟩ := R50.2 _ _ hx204
     cases hr210
     exact .g r r r (fun _ => .ixa un36 sz3 r e208 r h202 (idx_lt hx204 h202) r r .mk) (.g r r r (fun _ => .ld1 (j := 0) ia3 hC209 r r r r r .mk) (.fk 2 r (.e2 14 (.ks 1 r (.nilS [5, 13, 12, 11, 2] r r (.region (.ks 2 r (.nil' fun c w ho hs => ⟨(w64 (s158 + (w64 (x194 - x203))), w64 (s159 + 1)), hd, I161, hl162, ho.sub ⟨r, r, r, r, r, trivial⟩, hs.pick (.c .z .n)⟩))))))))
   exact .skipS [13, 12, 11, 5, 2] r r (.region (.ks 2 r (.nil' fun c w ho hs => ⟨(s158, w64 (s159 + 1)), hd, I161, hl162, ho.sub ⟨r, r, r, r, r, trivial⟩, hs.pick (.c .z .n)⟩)))
 exact .exitS [5] r r (.drop .z (.sr (.ks 2 r (.nilS [4] r r (.ret (pret results71 (.t r .n) le163 ⟨s158, r, hd⟩))))))

theorem W_spvec_sure {I : IH} {a0 : Vec} {p1 : Option Addr} {c2 : Nat} {Q : Vec → Prop} (R3 : RepSl eItem I p1 c2 a0.Items) (hd : spvec_sure a0 Q) :
  PFun prog 106 [.agg #[.int .i64 a0.N, .slice p1 a0.Items.length c2]] I (o6_ Q) := by
 refine Fun.enter func106 r ntmps106 r (.c .n) fun w0 M => ?_
 refine .sr (.boxA r r r fun b11 => ?_)
 refine .allocA zv42 r r fun b13 => ?_
 refine .nilS [2, 1] r r (.seq (.sr (.loadW ia42 sz42 r (.s .z) r r r ?_)))
 have hw16 := W_spvec_Right (I := I) R3 hd
 refine .callP call54 r hw16 r r fun v17 hv18 => ?_
 obtain ⟨r15, rfl, hd⟩ := hv18
 refine .nilS [4, 2, 1] r r (.condP r hd (fun hb19 hd => ?_) fun hb19 hd => ?_)
 · exact .sr (.loadW ia42 sz42 r (.s .z) r r r (.storeA sz42 r r .z (.t (.t .nil)) r r (.nilS [2] r r (.drop (.s .z) (.ret (pret results106 (.w ia42 sz42 r .z r .n) (.refl _) ⟨a0, _, _, r, R3, hd⟩))))))
 exact .skipS [2] r r (.drop (.s .z) (.sr (.build zv42 un42 BI42 .n (by exact trivial) r r (.storeA sz42 r r .z (.t (.t .nil)) r r (.nilS [2] r r (.ret (pret results106 (.w ia42 sz42 r .z r .n) (.refl _) ⟨({ N := 0, Items := ([] : List Item) } : Vec), _, _, r, (.nil _ _ _), hd⟩)))))))

theorem W_spvec_Places {I : IH} {a0 : Vec} {p1 : Option Addr} {c2 : Nat} {Q : (List Int) → Prop} (R3 : RepSl eItem I p1 c2 a0.Items) (hd : spvec_Places a0 Q) :
  PFun prog 72 [.agg #[.int .i64 a0.N, .slice p1 a0.Items.length c2]] I (o7_ Q) := by
 refine Fun.enter func72 r ntmps72 r (.c .n) fun w0 M => ?_
 refine .sr (.boxA r r r fun b9 => ?_)
 refine .ks 1 r (.nilS [1] r r (.sr (.ks 1 r (.nilS [3, 1] r r (.seq (.sr (.loadW ia42 sz42 r .z r r r ?_)))))))
 have hw30 := W_spvec_sure (I := I) R3 hd
 refine .call call106 r hw30 r r fun v25 I22 hl23 hv24 => ?_
 obtain ⟨r21, p27, c28, rfl, R29, hd⟩ := hv24
 replace R3 := R3.mono hl23
 refine .field1 un42 r ia32 r r r r (.len un32 r r r r (.ks 1 r (.nilS [10, 9, 8, 3] r r (.drop .z (.block (.own0 eI64 3 (.loop hd (fun (s : (List Int) × Int) c w => match s with | (s85, s89) => ∃ I_ p86 c87, IH.le I22 I_ ∧ Ok ⟨21, [], none⟩ [(3, .slice p86 s85.length c87), (8, .slice p27 r21.Items.length c28), (9, .int .i64 (r21.Items.length : Int)), (10, .int .i64 s89)] c ∧ Sym w0 M I I_ [OwnSl eI64 3 p86 c87 s85] w) (fun c w ho hs => ⟨I22, _, _, (.refl _), ho.sub ⟨r, r, r, r, trivial⟩, hs.pick (.c .z .n)⟩) ?_)))))))
 rintro ⟨s85, s89⟩ next91 hd c w hst
 obtain ⟨I92, p86, c87, hl93, hok, hsym⟩ := hst
 have le94 := IH.le.trans hl23 hl93
 replace R29 := R29.mono hl93
 refine Cod.at hok hsym (.sr (.ks 1 r (.nilS [11, 10, 9, 8, 3] r r (.seq (.condP r hd (fun hb96 hd => ?_) fun hb96 hd => ?_)))))
 · refine .skipS [10, 9, 8, 3] r r (.seq (.block (.sr ?_)))
   obtain ⟨h97, x98, hx99, hd⟩ := hd
   obtain ⟨b100, o101, cs102, e103, hC104, hr105⟩ := R29.2 _ _ hx99
   cases hr105
   refine .ixa un32 sz80 r e103 r h97 (idx_lt hx99 h97) r r (.ldW isAgg80 sz80 hC104 r r r r (.allocA zv80 r r fun b106 => ?_))
   refine .storeA sz80 r r .z (.t (.t .nil)) r r (.nilS [5, 10, 9, 8, 3] r r (.region (.ks 1 r (.fa un80 r sz3 r (o := 0) r r r (.load1 ia3 r .z r r r (.buildSlice 1 un36 sz3 zv3 r r (.c r r r .n) r r fun b108 => ?_))))))
   obtain ⟨hl110, hd⟩ := hd
   refine .append (ys := [x98.At]) 8 (.s (.s .z)) un36 un36 IN3 r r r r r r r r r (.box .z (.one r) r) hl110 r r fun p111 c112 => ?_
   exact .ks 1 r (.nilS [3, 10, 9, 8] r r (.drop (.s .z) (.drop (.s .z) (.region (.ks 2 r (.nil' fun c w ho hs => ⟨((s85 ++ ([x98.At])), w64 (s89 + 1)), hd, I92, _, _, hl93, ho.sub ⟨r, r, r, r, trivial⟩, hs.pick (.c .z .n)⟩))))))
 refine .exitS [3] r r (.sr (.ks 2 r (.nilS [2] r r (.pub .z fun I114 hl115 R116 => ?_))))
 have le117 := IH.le.trans le94 hl115
 have le118 := IH.le.trans hl93 hl115
 exact .ret (pret results72 (.t r .n) le117 ⟨s85, _, _, r, R116, hd⟩)

theorem W_push_Work {I : IH} {a0 : Columns} {a1 : Vec} {p1 : Option Addr} {c2 : Nat} {p4 : Option Addr} {c5 : Nat} {p7 : Option Addr} {c8 : Nat} {p10 : Option Addr} {c11 : Nat} {p13 : Option Addr} {c14 : Nat} {Q : Int → Prop} (R3 : RepSl eI64 I p1 c2 a0.At) (R6 : RepSl eI64 I p4 c5 a0.Start) (R9 : RepSl eI64 I p7 c8 a0.Row) (R12 : RepSl eI64 I p10 c11 a0.Val) (R15 : RepSl eItem I p13 c14 a1.Items) (hd : push_Work a0 a1 Q) :
  PFun prog 38 [.agg #[.int .i64 a0.Rows, .int .i64 a0.Cols, .slice p1 a0.At.length c2, .slice p4 a0.Start.length c5, .slice p7 a0.Row.length c8, .slice p10 a0.Val.length c11], .agg #[.int .i64 a1.N, .slice p13 a1.Items.length c14]] I (fun _ => o0_ Q) := by
 refine Fun.enter func38 r ntmps38 r (.c (.c .n)) fun w0 M => ?_
 refine .sr (.boxA r r r fun b16 => ?_)
 refine .boxA r r r fun b18 => ?_
 refine .ks 1 r (.nilS [3, 2] r r (.seq (.dr [0, 1, 2, 3] 4 (.g r r r (fun _ => .loadW ia50 sz50 r (.s .z) r r r .mk) (.g r r r (fun _ => .loadW ia42 sz42 r .z r r r .mk) (.ww r fun ex => ?_))))))
 have hw29 := W_spvec_Places (I := I) R15 hd
 refine .call call72 r hw29 r r fun v24 I21 hl22 hv23 => ?_
 obtain ⟨r20, p26, c27, rfl, R28, hd⟩ := hv23
 replace R3 := R3.mono hl22
 replace R6 := R6.mono hl22
 replace R9 := R9.mono hl22
 replace R12 := R12.mono hl22
 replace R15 := R15.mono hl22
 refine .so 2 r r r (.cg r r r r (fun _ => .loadW ia50 sz50 r (.s .z) r r r .mk) trivial) (.ww r fun ex => ?_)
 have hw31 := W_dcsc_Work (I := I21) R3 R6 R9 R12 R28 hd
 refine .callP call71 r hw31 r r fun v32 hv33 => ?_
 obtain ⟨r30, rfl, hd⟩ := hv33
 exact .so 2 r r r trivial (.e2 4 (.ks 1 r (.nilS [4] r r (.drop .z (.drop .z (.ret (pret results38 (.t r .n) hl22 ⟨r30, r, hd⟩)))))))

theorem W_csr_within {I : IH} {a0 : Int} {a1 : Int} {Q : Bool → Prop}  (hd : csr_within a0 a1 Q) :
  PFun prog 94 [.int .i64 a0, .int .i64 a1] I (fun _ => o1_ Q) := by
 refine Fun.enter func94 r ntmps94 r (.c (.c .n)) fun w0 M => ?_
 refine .sr (.ks 1 r (.nilS [1, 0] r r (.sr (.ks 3 r ?_))))
 refine splitP hd (fun hb1 hd => ?_) fun hb1 hd => ?_
 · rw [hb1]
   exact .ks 5 r (.nilS [4] r r (.ret (pret results94 (.t r .n) (.refl _) ⟨(decide (a0 ≤ a1)), r, hd⟩)))
 rw [hb1]
 exact .ks 5 r (.nilS [4] r r (.ret (pret results94 (.t r .n) (.refl _) ⟨false, r, hd⟩)))

theorem W_cmp_isNaN_int {I : IH} {a0 : Int} {Q : Bool → Prop}  (hd : cmp_isNaN_int a0 Q) :
  PFun prog 150 [.int .i64 a0] I (fun _ => o1_ Q) := by
 refine Fun.enter func150 r ntmps150 r (.c .n) fun w0 M => ?_
 exact .sr (.ks 1 r (.nilS [0] r r (.sr (.ks 4 r (.nilS [2] r r (.ret (pret results150 (.t r .n) (.refl _) ⟨(a0 != a0), r, hd⟩)))))))

theorem W_cmp_Less_int {I : IH} {a0 : Int} {a1 : Int} {Q : Bool → Prop}  (hd : cmp_Less_int a0 a1 Q) :
  PFun prog 127 [.int .i64 a0, .int .i64 a1] I (fun _ => o1_ Q) := by
 refine Fun.enter func127 r ntmps127 r (.c (.c .n)) fun w0 M => ?_
 refine .sr (.ks 1 r (.nilS [1, 0] r r (.sr (.ks 1 r ?_))))
 have hw2 := W_cmp_isNaN_int (I := I) hd
 refine .callP call150 r hw2 r r fun v3 hv4 => ?_
 obtain ⟨r1, rfl, hd⟩ := hv4
 refine .ks 1 r ?_
 refine splitP hd (fun hb5 hd => ?_) fun hb5 hd => ?_
 · rw [hb5]
   refine .ks 1 r ?_
   have hw7 := W_cmp_isNaN_int (I := I) hd
   refine .gyes r r r (.callP call150 r hw7 r r fun v8 hv9 => ?_)
   obtain ⟨r6, rfl, hd⟩ := hv9
   refine .ks 3 r ?_
   refine splitP hd (fun hb10 hd => ?_) fun hb10 hd => ?_
   · rw [hb10]
     exact .ks 5 r (.nilS [4] r r (.ret (pret results127 (.t r .n) (.refl _) ⟨true, r, hd⟩)))
   rw [hb10]
   exact .ks 5 r (.nilS [4] r r (.ret (pret results127 (.t r .n) (.refl _) ⟨(decide (a0 < a1)), r, hd⟩)))
 rw [hb5]
 exact .ks 10 r (.nilS [4] r r (.ret (pret results127 (.t r .n) (.refl _) ⟨(decide (a0 < a1)), r, hd⟩)))

theorem W_slices_IsSorted_int_int {I : IH} {a0 : List Int} {p1 : Option Addr} {c2 : Nat} {Q : Bool → Prop} (R3 : RepSl eI64 I p1 c2 a0) (hd : slices_IsSorted_int_int a0 Q) :
  PFun prog 95 [.slice p1 a0.length c2] I (fun _ => o1_ Q) := by
 refine Fun.enter func95 r ntmps95 r (.c .n) fun w0 M => ?_
 refine .sr (.ks 1 r (.nilS [0] r r (.seq (.sr (.ks 1 r (.len un36 r r r r (.ks 2 r (.nilS [3, 0] r r (.block ?_)))))))))
 refine .loop hd (fun (s57 : Int) c w => ∃ I_, IH.le I I_ ∧ Ok ⟨21, [], none⟩ [(0, .slice p1 a0.length c2), (3, .int .i64 s57)] c ∧ Sym w0 M I I_ [] w) (fun c w ho hs => ⟨I, (.refl _), ho.sub ⟨r, r, trivial⟩, hs.pick .n⟩) ?_
 rintro s57 next58 hd c w hst
 obtain ⟨I59, hl60, hok, hsym⟩ := hst
 replace R3 := R3.mono hl60
 refine Cod.at hok hsym (.seq (.sr (.ks 2 r (.nilS [8, 3, 0] r r (.condP r hd (fun hb62 hd => ?_) fun hb62 hd => ?_)))))
 · refine .skipS [3, 0] r r (.seq (.block (.seq (.dr [0, 1, 2, 3, 4, 5, 6, 7, 8, 9] 10 (.fk 2 r ?_)))))
   obtain ⟨h63, x64, hx65, hd⟩ := hd
   obtain ⟨b66, o67, cs68, e69, hC70, hr71⟩ := R3.2 _ _ hx65
   cases hr71
   refine .g r r r (fun _ => .ixa un36 sz3 r e69 r h63 (idx_lt hx65 h63) r r .mk) (.g r r r (fun _ => .ld1 (j := 0) ia3 hC70 r r r r r .mk) (.fk 3 r ?_))
   obtain ⟨h72, x73, hx74, hd⟩ := hd
   obtain ⟨b75, o76, cs77, e78, hC79, hr80⟩ := R3.2 _ _ hx74
   cases hr80
   refine .g r r r (fun _ => .ixa un36 sz3 r e78 r h72 (idx_lt hx74 h72) r r .mk) (.g r r r (fun _ => .ld1 (j := 0) ia3 hC79 r r r r r .mk) (.ww r fun ex => ?_))
   have hw82 := W_cmp_Less_int (I := I59) hd
   refine .callP call127 r hw82 r r fun v83 hv84 => ?_
   obtain ⟨r81, rfl, hd⟩ := hv84
   refine .so 0 r r r trivial (.e2 10 (.nilS [20, 3, 0] r r (.condP r hd (fun hb85 hd => ?_) fun hb85 hd => ?_)))
   · exact .sr (.ks 1 r (.nilS [2] r r (.ret (pret results95 (.t r .n) hl60 ⟨false, r, hd⟩))))
   exact .skipS [3, 0] r r (.region (.ks 3 r (.nil' fun c w ho hs => ⟨(w64 (s57 - 1)), hd, I59, hl60, ho.sub ⟨r, r, trivial⟩, hs.pick .n⟩)))
 exact .exitS [] r r (.sr (.ks 1 r (.nilS [2] r r (.ret (pret results95 (.t r .n) hl60 ⟨true, r, hd⟩)))))

theorem W_csr_row {I : IH} {a0 : List Int} {a1 : Int} {p1 : Option Addr} {c2 : Nat} {Q : Bool → Prop} (R3 : RepSl eI64 I p1 c2 a0) (hd : csr_row a0 a1 Q) :
  PFun prog 96 [.slice p1 a0.length c2, .int .i64 a1] I (fun _ => o1_ Q) := by
 refine Fun.enter func96 r ntmps96 r (.c (.c .n)) fun w0 M => ?_
 refine .sr (.ks 1 r (.nilS [1, 0] r r (.seq (.sr (.ks 1 r (.len un36 r r r r (.ks 1 r (.nilS [9, 8, 7, 1, 0] r r (.block ?_)))))))))
 refine .loop hd (fun (s68 : Int) c w => ∃ I_, IH.le I I_ ∧ Ok ⟨33, [], none⟩ [(0, .slice p1 a0.length c2), (1, .int .i64 a1), (7, .slice p1 a0.length c2), (8, .int .i64 (a0.length : Int)), (9, .int .i64 s68)] c ∧ Sym w0 M I I_ [] w) (fun c w ho hs => ⟨I, (.refl _), ho.sub ⟨r, r, r, r, r, trivial⟩, hs.pick .n⟩) ?_
 rintro s68 next69 hd c w hst
 obtain ⟨I70, hl71, hok, hsym⟩ := hst
 replace R3 := R3.mono hl71
 refine Cod.at hok hsym (.sr (.ks 1 r (.nilS [10, 9, 8, 7, 1, 0] r r (.seq (.condP r hd (fun hb73 hd => ?_) fun hb73 hd => ?_)))))
 · refine .skipS [9, 8, 7, 1, 0] r r (.seq (.block (.sr (.ks 1 r ?_))))
   obtain ⟨h83, x84, hx85, hd⟩ := hd
   obtain ⟨b86, o87, cs88, e89, hC90, hr91⟩ := R3.2 _ _ hx85
   cases hr91
   refine .ixa un36 sz3 r e89 r h83 (idx_lt hx85 h83) r r (.ld1 (j := 0) ia3 hC90 r r r r r (.ks 2 r (.nilS [6, 5, 9, 8, 7, 1, 0] r r (.sr (.ks 3 r ?_)))))
   have hw93 := W_csr_within (I := I70) hd
   refine .callP call94 r hw93 r r fun v94 hv95 => ?_
   obtain ⟨r92, rfl, hd⟩ := hv95
   refine .ks 2 r ?_
   refine splitP hd (fun hb96 hd => ?_) fun hb96 hd => ?_
   · rw [hb96]
     exact .ks 12 r (.nilS [31, 9, 8, 7, 1, 0] r r (.condKT r r (.sr (.ks 1 r (.nilS [4] r r (.ret (pret results96 (.t r .n) hl71 ⟨false, r, hd⟩)))))))
   rw [hb96]
   refine .ks 3 r ?_
   refine splitP hd (fun hb97 hd => ?_) fun hb97 hd => ?_
   · rw [hb97]
     refine .ks 3 r ?_
     obtain ⟨h98, x99, hx100, hd⟩ := hd
     obtain ⟨b101, o102, cs103, e104, hC105, hr106⟩ := R3.2 _ _ hx100
     cases hr106
     refine .gyes r r r (.ixa un36 sz3 r e104 r h98 (idx_lt hx100 h98) r r (.gyes r r r (.ld1 (j := 0) ia3 hC105 r r r r r (.ks 4 r (.nilS [31, 9, 8, 7, 1, 0] r r (.condP r hd (fun hb107 hd => ?_) fun hb107 hd => ?_))))))
     · exact .sr (.ks 1 r (.nilS [4] r r (.ret (pret results96 (.t r .n) hl71 ⟨false, r, hd⟩))))
     exact .skipS [9, 8, 7, 1, 0] r r (.region (.ks 2 r (.nil' fun c w ho hs => ⟨(w64 (s68 + 1)), hd, I70, hl71, ho.sub ⟨r, r, r, r, r, trivial⟩, hs.pick .n⟩)))
   rw [hb97]
   exact .ks 9 r (.nilS [31, 9, 8, 7, 1, 0] r r (.condKF r r (.skipS [9, 8, 7, 1, 0] r r (.region (.ks 2 r (.nil' fun c w ho hs => ⟨(w64 (s68 + 1)), hd, I70, hl71, ho.sub ⟨r, r, r, r, r, trivial⟩, hs.pick .n⟩))))))
 exact .exitS [] r r (.sr (.ks 1 r (.nilS [4] r r (.ret (pret results96 (.t r .n) hl71 ⟨true, r, hd⟩)))))

theorem W_csr_Right {I : IH} {a0 : Rows} {p1 : Option Addr} {c2 : Nat} {p4 : Option Addr} {c5 : Nat} {p7 : Option Addr} {c8 : Nat} {Q : Bool → Prop} (R3 : RepSl eI64 I p1 c2 a0.Start) (R6 : RepSl eI64 I p4 c5 a0.Col) (R9 : RepSl eI64 I p7 c8 a0.Val) (hd : csr_Right a0 Q) :
  PFun prog 62 [.agg #[.int .i64 a0.Rows, .int .i64 a0.Cols, .slice p1 a0.Start.length c2, .slice p4 a0.Col.length c5, .slice p7 a0.Val.length c8]] I (fun _ => o1_ Q) := by
 refine Fun.enter func62 r ntmps62 r (.c .n) fun w0 M => ?_
 refine .sr (.boxA r r r fun b12 => ?_)
 refine .ks 1 r (.nilS [1] r r (.sr (.fa un39 r sz36 r (o := 3) r r r (.load1 ia36 r .z r r r (.len un36 r r r r (.ks 1 r (.nilS [3, 1] r r (.seq (.sr ?_)))))))))
 refine .fa un39 r sz3 r (o := 0) r r r (.load1 ia3 r .z r r r ?_)
 have hw28 := W_csr_within (I := I) hd
 refine .callP call94 r hw28 r r fun v29 hv30 => ?_
 obtain ⟨r27, rfl, hd⟩ := hv30
 refine .ks 2 r ?_
 refine splitP hd (fun hb31 hd => ?_) fun hb31 hd => ?_
 · rw [hb31]
   exact .ks 25 r (.nilS [37, 3, 1] r r (.condKT r r (.sr (.ks 1 r (.nilS [2] r r (.drop .z (.ret (pret results62 (.t r .n) (.refl _) ⟨false, r, hd⟩))))))))
 rw [hb31]
 refine .gyes r r r (.fa un39 r sz3 r (o := 1) r r r (.gyes r r r (.load1 ia3 r .z r r r ?_)))
 have hw33 := W_csr_within (I := I) hd
 refine .gyes r r r (.callP call94 r hw33 r r fun v34 hv35 => ?_)
 obtain ⟨r32, rfl, hd⟩ := hv35
 refine .ks 3 r ?_
 refine splitP hd (fun hb36 hd => ?_) fun hb36 hd => ?_
 · rw [hb36]
   exact .ks 19 r (.nilS [37, 3, 1] r r (.condKT r r (.sr (.ks 1 r (.nilS [2] r r (.drop .z (.ret (pret results62 (.t r .n) (.refl _) ⟨false, r, hd⟩))))))))
 rw [hb36]
 refine .gyes r r r (.fa un39 r sz36 r (o := 2) r r r (.gyes r r r (.load1 ia36 r .z r r r (.gyes r r r (.len un36 r r r r (.gyes r r r (.fa un39 r sz3 r (o := 0) r r r (.gyes r r r (.load1 ia3 r .z r r r (.ks 4 r ?_))))))))))
 refine splitP hd (fun hb37 hd => ?_) fun hb37 hd => ?_
 · rw [hb37]
   exact .ks 10 r (.nilS [37, 3, 1] r r (.condKT r r (.sr (.ks 1 r (.nilS [2] r r (.drop .z (.ret (pret results62 (.t r .n) (.refl _) ⟨false, r, hd⟩))))))))
 rw [hb37]
 refine .gyes r r r (.fa un39 r sz37 r (o := 4) r r r (.gyes r r r (.load1 ia37 r .z r r r (.gyes r r r (.len un37 r r r r (.ks 4 r ?_))))))
 refine splitP hd (fun hb38 hd => ?_) fun hb38 hd => ?_
 · rw [hb38]
   exact .ks 3 r (.nilS [37, 3, 1] r r (.condKT r r (.sr (.ks 1 r (.nilS [2] r r (.drop .z (.ret (pret results62 (.t r .n) (.refl _) ⟨false, r, hd⟩))))))))
 rw [hb38]
 refine .ks 3 r (.nilS [37, 3, 1] r r (.condP r hd (fun hb39 hd => ?_) fun hb39 hd => ?_))
 · exact .sr (.ks 1 r (.nilS [2] r r (.drop .z (.ret (pret results62 (.t r .n) (.refl _) ⟨false, r, hd⟩)))))
 refine .skipS [3, 1] r r (.seq (.sr (.fa un39 r sz36 r (o := 2) r r r (.load1 ia36 r .z r r r ?_))))
 obtain ⟨h65, x66, hx67, hd⟩ := hd
 obtain ⟨b68, o69, cs70, e71, hC72, hr73⟩ := R3.2 _ _ hx67
 cases hr73
 refine .ixa un36 sz3 r e71 r h65 (idx_lt hx67 h65) r r (.ld1 (j := 0) ia3 hC72 r r r r r (.ks 2 r ?_))
 refine splitP hd (fun hb74 hd => ?_) fun hb74 hd => ?_
 · rw [hb74]
   exact .ks 15 r (.nilS [58, 1] r r (.condKT r r (.sr (.ks 1 r (.nilS [2] r r (.drop .z (.ret (pret results62 (.t r .n) (.refl _) ⟨false, r, hd⟩))))))))
 rw [hb74]
 refine .gyes r r r (.fa un39 r sz36 r (o := 2) r r r (.gyes r r r (.load1 ia36 r .z r r r (.gyes r r r (.fa un39 r sz3 r (o := 0) r r r (.gyes r r r (.load1 ia3 r .z r r r ?_)))))))
 obtain ⟨h75, x76, hx77, hd⟩ := hd
 obtain ⟨b78, o79, cs80, e81, hC82, hr83⟩ := R3.2 _ _ hx77
 cases hr83
 refine .gyes r r r (.ixa un36 sz3 r e81 r h75 (idx_lt hx77 h75) r r (.gyes r r r (.ld1 (j := 0) ia3 hC82 r r r r r (.ks 4 r ?_))))
 refine splitP hd (fun hb84 hd => ?_) fun hb84 hd => ?_
 · rw [hb84]
   exact .ks 5 r (.nilS [58, 1] r r (.condKT r r (.sr (.ks 1 r (.nilS [2] r r (.drop .z (.ret (pret results62 (.t r .n) (.refl _) ⟨false, r, hd⟩))))))))
 rw [hb84]
 refine .gyes r r r (.fa un39 r sz36 r (o := 2) r r r (.gyes r r r (.load1 ia36 r .z r r r ?_)))
 have hw86 := W_slices_IsSorted_int_int (I := I) R3 hd
 refine .gyes r r r (.callP call95 r hw86 r r fun v87 hv88 => ?_)
 obtain ⟨r85, rfl, hd⟩ := hv88
 refine .ks 2 r (.nilS [58, 1] r r (.condP r hd (fun hb89 hd => ?_) fun hb89 hd => ?_))
 · exact .sr (.ks 1 r (.nilS [2] r r (.drop .z (.ret (pret results62 (.t r .n) (.refl _) ⟨false, r, hd⟩)))))
 refine .skipS [1] r r (.seq (.sr (.fa un39 r sz3 r (o := 0) r r r (.load1 ia3 r .z r r r (.ks 1 r (.nilS [61, 60, 1] r r (.block (.loop hd (fun (s163 : Int) c w => ∃ I_, IH.le I I_ ∧ Ok ⟨83, [], none⟩ [(1, .pointer (some ⟨b12, 0, none⟩)), (60, .int .i64 a0.Rows), (61, .int .i64 s163)] c ∧ Sym w0 M I I_ [pto b12 (.cells #[.int .i64 a0.Rows, .int .i64 a0.Cols, .slice p1 a0.Start.length c2, .slice p4 a0.Col.length c5, .slice p7 a0.Val.length c8] 39 (0, 0))] w) (fun c w ho hs => ⟨I, (.refl _), ho.sub ⟨r, r, r, trivial⟩, hs.pick (.c .z .n)⟩) ?_))))))))
 rintro s163 next164 hd c w hst
 obtain ⟨I165, hl166, hok, hsym⟩ := hst
 replace R3 := R3.mono hl166
 replace R6 := R6.mono hl166
 replace R9 := R9.mono hl166
 refine Cod.at hok hsym (.sr (.ks 1 r (.nilS [62, 61, 60, 1] r r (.seq (.condP r hd (fun hb168 hd => ?_) fun hb168 hd => ?_)))))
 · refine .skipS [61, 60, 1] r r (.seq (.block (.sr (.ks 2 r (.nilS [4, 61, 60, 1] r r (.seq (.dr [0, 1, 2, 3, 4, 5, 6, 7, 8, 9, 10, 11, 12, 13, 14, 15, 16, 17] 18 (.g r r r (fun _ => .fa un39 r sz36 r (o := 3) r r r .mk) (.g r r r (fun _ => .load1 ia36 r .z r r r .mk) ?_)))))))))
   refine .g r r r (fun _ => .fa un39 r sz36 r (o := 2) r r r .mk) (.g r r r (fun _ => .load1 ia36 r .z r r r .mk) (.fk 1 r ?_))
   obtain ⟨h169, x170, hx171, hd⟩ := hd
   obtain ⟨b172, o173, cs174, e175, hC176, hr177⟩ := R3.2 _ _ hx171
   cases hr177
   refine .g r r r (fun _ => .ixa un36 sz3 r e175 r h169 (idx_lt hx171 h169) r r .mk) (.g r r r (fun _ => .ld1 (j := 0) ia3 hC176 r r r r r .mk) (.g r r r (fun _ => .fa un39 r sz36 r (o := 2) r r r .mk) (.g r r r (fun _ => .load1 ia36 r .z r r r .mk) (.fk 2 r ?_))))
   obtain ⟨h178, x179, hx180, hd⟩ := hd
   obtain ⟨b181, o182, cs183, e184, hC185, hr186⟩ := R3.2 _ _ hx180
   cases hr186
   refine .g r r r (fun _ => .ixa un36 sz3 r e184 r h178 (idx_lt hx180 h178) r r .mk) (.g r r r (fun _ => .ld1 (j := 0) ia3 hC185 r r r r r .mk) ?_)
   obtain ⟨h187, h188, h189, hd⟩ := hd
   have h195 : Int.toNat x170 ≤ Int.toNat x179 := by omega
   have h196 : Int.toNat x179 ≤ a0.Col.length := by omega
   obtain ⟨p190, c191, e193, e194, R192⟩ := RepSl.sliceW R6 (Int.toNat x170) (Int.toNat x179) c5 h195 h196 (.inl rfl)
   refine .g r r r (fun _ => .sliceW (L := Int.toNat x170) (H := Int.toNat x179) (cm := c5) un36 sz3 r r R6.1 r r r (.inr ⟨_, _, r, h187, r⟩) (.inr ⟨_, _, r, (by omega), r⟩) (.inl r) h195 h196 r e193 e194 r r .mk) (.g r r r (fun _ => .fa un39 r sz3 r (o := 1) r r r .mk) (.g r r r (fun _ => .load1 ia3 r .z r r r .mk) (.ww r fun ex => ?_)))
   have hw198 := W_csr_row (I := I165) R192 hd
   refine .callP call96 r hw198 r r fun v199 hv200 => ?_
   obtain ⟨r197, rfl, hd⟩ := hv200
   refine .so 1 r r r trivial (.fk 1 r (.e2 18 (.nilS [81, 61, 60, 1] r r (.condP r hd (fun hb201 hd => ?_) fun hb201 hd => ?_))))
   · exact .sr (.ks 1 r (.nilS [2] r r (.drop .z (.ret (pret results62 (.t r .n) hl166 ⟨false, r, hd⟩)))))
   exact .skipS [61, 60, 1] r r (.region (.ks 2 r (.nil' fun c w ho hs => ⟨(w64 (s163 + 1)), hd, I165, hl166, ho.sub ⟨r, r, r, trivial⟩, hs.pick (.c .z .n)⟩)))
 exact .exitS [] r r (.drop .z (.sr (.ks 1 r (.nilS [2] r r (.ret (pret results62 (.t r .n) hl166 ⟨true, r, hd⟩))))))

theorem W_csr_empty {I : IH} {a0 : Int} {a1 : Int} {Q : Rows → Prop}  (hd : csr_empty a0 a1 Q) :
  OFun prog 107 [.int .i64 a0, .int .i64 a1] I (fun _ => o8_ Q) := by
 refine Fun.enter func107 r ntmps107 r (.c (.c .n)) fun w0 M => ?_
 refine .sr (.allocA zv39 r r fun b10 => ?_)
 refine .nilS [4, 1, 0] r r (.sr (.ks 4 r ?_))
 obtain ⟨h12, h13, hd⟩ := hd
 refine .make (El := eI64) (zv := 0) 8 un36 IN3 r r r r r r h12 h13 r r r fun b14 => ?_
 exact .build zv39 un39 BI39 (.c r r r (.t .nil) (.c r r r (.s (.t .nil)) (.c r r r (.s (.s (.t .nil))) .n))) (by exact ⟨⟨_, _, r, r, r⟩, ⟨⟨_, _, r, r, r⟩, ⟨⟨_, _, r, r, r⟩, trivial⟩⟩⟩) r r (.storeA sz39 r r (.s .z) (.t (.t (.t (.t (.t .nil))))) r r (.nilS [4] r r (.own0 eI64 3 (.own0 eI64 2 (.ret (oret results107 (.w ia39 sz39 r (.s (.s (.s .z))) r .n) (.refl _) (.c (.s (.s .z)) (.c (.s .z) (.c .z .n))) ⟨({ Rows := a0, Cols := a1, Start := (List.replicate (w64 (a0 + 1)).toNat 0), Col := ([] : List Int), Val := ([] : List Int) } : Rows), _, _, _, _, _, _, r, r, hd⟩))))))

theorem W_csr_sure {I : IH} {a0 : Rows} {p1 : Option Addr} {c2 : Nat} {p4 : Option Addr} {c5 : Nat} {p7 : Option Addr} {c8 : Nat} {Q : Rows → Prop} (R3 : RepSl eI64 I p1 c2 a0.Start) (R6 : RepSl eI64 I p4 c5 a0.Col) (R9 : RepSl eI64 I p7 c8 a0.Val) (hd : csr_sure a0 Q) :
  PFun prog 73 [.agg #[.int .i64 a0.Rows, .int .i64 a0.Cols, .slice p1 a0.Start.length c2, .slice p4 a0.Col.length c5, .slice p7 a0.Val.length c8]] I (o9_ Q) := by
 refine Fun.enter func73 r ntmps73 r (.c .n) fun w0 M => ?_
 refine .sr (.boxA r r r fun b23 => ?_)
 refine .allocA zv39 r r fun b25 => ?_
 refine .nilS [2, 1] r r (.seq (.sr (.loadW ia39 sz39 r (.s .z) r r r ?_)))
 have hw28 := W_csr_Right (I := I) R3 R6 R9 hd
 refine .callP call62 r hw28 r r fun v29 hv30 => ?_
 obtain ⟨r27, rfl, hd⟩ := hv30
 refine .nilS [4, 2, 1] r r (.condP r hd (fun hb31 hd => ?_) fun hb31 hd => ?_)
 · exact .sr (.loadW ia39 sz39 r (.s .z) r r r (.storeA sz39 r r .z (.t (.t (.t (.t (.t .nil))))) r r (.nilS [2] r r (.drop (.s .z) (.ret (pret results73 (.w ia39 sz39 r .z r .n) (.refl _) ⟨a0, _, _, _, _, _, _, r, R3, R6, R9, hd⟩))))))
 refine .skipS [2] r r (.drop (.s .z) (.sr ?_))
 have hw50 := W_csr_empty (I := I) hd
 refine .callO call107 r hw50 r r fun v36 I33 l37 hl34 hv35 => ?_
 obtain ⟨r32, p38, c39, p41, c42, p44, c45, rfl, rfl, hd⟩ := hv35
 refine .storeA sz39 r r (.s (.s (.s .z))) (.t (.t (.t (.t (.t .nil))))) r r (.nilS [2] r r (.pub .z fun I51 hl52 R53 => ?_))
 have le54 := IH.le.trans hl34 hl52
 refine .pub .z fun I55 hl56 R57 => ?_
 have le58 := IH.le.trans le54 hl56
 replace R53 := R53.mono hl56
 refine .pub .z fun I59 hl60 R61 => ?_
 have le62 := IH.le.trans le58 hl60
 replace R53 := R53.mono hl60
 replace R57 := R57.mono hl60
 exact .ret (pret results73 (.w ia39 sz39 r .z r .n) le62 ⟨r32, _, _, _, _, _, _, r, R53, R57, R61, hd⟩)

theorem W_csr_Count {I : IH} {a0 : Rows} {p1 : Option Addr} {c2 : Nat} {p4 : Option Addr} {c5 : Nat} {p7 : Option Addr} {c8 : Nat} {Q : Int → Prop} (R3 : RepSl eI64 I p1 c2 a0.Start) (R6 : RepSl eI64 I p4 c5 a0.Col) (R9 : RepSl eI64 I p7 c8 a0.Val) (hd : csr_Count a0 Q) :
  PFun prog 39 [.agg #[.int .i64 a0.Rows, .int .i64 a0.Cols, .slice p1 a0.Start.length c2, .slice p4 a0.Col.length c5, .slice p7 a0.Val.length c8]] I (fun _ => o0_ Q) := by
 refine Fun.enter func39 r ntmps39 r (.c .n) fun w0 M => ?_
 refine .sr (.boxA r r r fun b10 => ?_)
 refine .ks 1 r (.nilS [1] r r (.sr (.loadW ia39 sz39 r .z r r r ?_)))
 have hw27 := W_csr_sure (I := I) R3 R6 R9 hd
 refine .call call73 r hw27 r r fun v16 I13 hl14 hv15 => ?_
 obtain ⟨r12, p18, c19, p21, c22, p24, c25, rfl, R20, R23, R26, hd⟩ := hv15
 replace R3 := R3.mono hl14
 replace R6 := R6.mono hl14
 replace R9 := R9.mono hl14
 exact .field1 un39 r ia36 r r r r (.len un36 r r r r (.ks 1 r (.nilS [2] r r (.drop .z (.ret (pret results39 (.t r .n) hl14 ⟨(r12.Col.length : Int), r, hd⟩))))))

theorem W_ref07_Empty {I : IH} {a0 : Int} {a1 : Int} {Q : Rows → Prop}  (hd : ref07_Empty a0 a1 Q) :
  OFun prog 70 [.int .i64 a0, .int .i64 a1] I (fun _ => o8_ Q) := by
 refine Fun.enter func70 r ntmps70 r (.c (.c .n)) fun w0 M => ?_
 refine .sr (.allocA zv39 r r fun b10 => ?_)
 refine .nilS [4, 1, 0] r r (.sr (.ks 4 r ?_))
 obtain ⟨h12, h13, hd⟩ := hd
 refine .make (El := eI64) (zv := 0) 8 un36 IN3 r r r r r r h12 h13 r r r fun b14 => ?_
 exact .build zv39 un39 BI39 (.c r r r (.t .nil) (.c r r r (.s (.t .nil)) (.c r r r (.s (.s (.t .nil))) .n))) (by exact ⟨⟨_, _, r, r, r⟩, ⟨⟨_, _, r, r, r⟩, ⟨⟨_, _, r, r, r⟩, trivial⟩⟩⟩) r r (.storeA sz39 r r (.s .z) (.t (.t (.t (.t (.t .nil))))) r r (.nilS [4] r r (.own0 eI64 3 (.own0 eI64 2 (.ret (oret results70 (.w ia39 sz39 r (.s (.s (.s .z))) r .n) (.refl _) (.c (.s (.s .z)) (.c (.s .z) (.c .z .n))) ⟨({ Rows := a0, Cols := a1, Start := (List.replicate (w64 (a0 + 1)).toNat 0), Col := ([] : List Int), Val := ([] : List Int) } : Rows), _, _, _, _, _, _, r, r, hd⟩))))))

theorem W_ref07_Right {I : IH} {a0 : Rows} {p1 : Option Addr} {c2 : Nat} {p4 : Option Addr} {c5 : Nat} {p7 : Option Addr} {c8 : Nat} {Q : Bool → Prop} (R3 : RepSl eI64 I p1 c2 a0.Start) (R6 : RepSl eI64 I p4 c5 a0.Col) (R9 : RepSl eI64 I p7 c8 a0.Val) (hd : ref07_Right a0 Q) :
  PFun prog 77 [.agg #[.int .i64 a0.Rows, .int .i64 a0.Cols, .slice p1 a0.Start.length c2, .slice p4 a0.Col.length c5, .slice p7 a0.Val.length c8]] I (fun _ => o1_ Q) := by
 refine Fun.enter func77 r ntmps77 r (.c .n) fun w0 M => ?_
 refine .sr (.boxA r r r fun b12 => ?_)
 refine .ks 1 r (.nilS [1] r r (.seq (.sr (.fa un39 r sz3 r (o := 0) r r r (.load1 ia3 r .z r r r (.ks 2 r ?_))))))
 refine splitP hd (fun hb21 hd => ?_) fun hb21 hd => ?_
 · rw [hb21]
   exact .ks 38 r (.nilS [46, 1] r r (.condKT r r (.sr (.ks 1 r (.nilS [2] r r (.drop .z (.ret (pret results77 (.t r .n) (.refl _) ⟨false, r, hd⟩))))))))
 rw [hb21]
 refine .gyes r r r (.fa un39 r sz3 r (o := 0) r r r (.gyes r r r (.load1 ia3 r .z r r r (.ks 3 r ?_))))
 refine splitP hd (fun hb22 hd => ?_) fun hb22 hd => ?_
 · rw [hb22]
   exact .ks 33 r (.nilS [46, 1] r r (.condKT r r (.sr (.ks 1 r (.nilS [2] r r (.drop .z (.ret (pret results77 (.t r .n) (.refl _) ⟨false, r, hd⟩))))))))
 rw [hb22]
 refine .gyes r r r (.fa un39 r sz3 r (o := 1) r r r (.gyes r r r (.load1 ia3 r .z r r r (.ks 3 r ?_))))
 refine splitP hd (fun hb23 hd => ?_) fun hb23 hd => ?_
 · rw [hb23]
   exact .ks 28 r (.nilS [46, 1] r r (.condKT r r (.sr (.ks 1 r (.nilS [2] r r (.drop .z (.ret (pret results77 (.t r .n) (.refl _) ⟨false, r, hd⟩))))))))
 rw [hb23]
 refine .gyes r r r (.fa un39 r sz3 r (o := 1) r r r (.gyes r r r (.load1 ia3 r .z r r r (.ks 3 r ?_))))
 refine splitP hd (fun hb24 hd => ?_) fun hb24 hd => ?_
 · rw [hb24]
   exact .ks 23 r (.nilS [46, 1] r r (.condKT r r (.sr (.ks 1 r (.nilS [2] r r (.drop .z (.ret (pret results77 (.t r .n) (.refl _) ⟨false, r, hd⟩))))))))
 rw [hb24]
 refine .gyes r r r (.fa un39 r sz36 r (o := 2) r r r (.gyes r r r (.load1 ia36 r .z r r r (.gyes r r r (.len un36 r r r r (.gyes r r r (.fa un39 r sz3 r (o := 0) r r r (.gyes r r r (.load1 ia3 r .z r r r (.ks 4 r ?_))))))))))
 refine splitP hd (fun hb25 hd => ?_) fun hb25 hd => ?_
 · rw [hb25]
   exact .ks 14 r (.nilS [46, 1] r r (.condKT r r (.sr (.ks 1 r (.nilS [2] r r (.drop .z (.ret (pret results77 (.t r .n) (.refl _) ⟨false, r, hd⟩))))))))
 rw [hb25]
 refine .gyes r r r (.fa un39 r sz36 r (o := 3) r r r (.gyes r r r (.load1 ia36 r .z r r r (.gyes r r r (.len un36 r r r r (.gyes r r r (.fa un39 r sz37 r (o := 4) r r r (.gyes r r r (.load1 ia37 r .z r r r (.gyes r r r (.len un37 r r r r (.ks 3 r ?_))))))))))))
 refine splitP hd (fun hb26 hd => ?_) fun hb26 hd => ?_
 · rw [hb26]
   exact .ks 5 r (.nilS [46, 1] r r (.condKT r r (.sr (.ks 1 r (.nilS [2] r r (.drop .z (.ret (pret results77 (.t r .n) (.refl _) ⟨false, r, hd⟩))))))))
 rw [hb26]
 refine .gyes r r r (.fa un39 r sz36 r (o := 3) r r r (.gyes r r r (.load1 ia36 r .z r r r (.gyes r r r (.len un36 r r r r (.ks 2 r (.nilS [46, 1] r r (.condP r hd (fun hb27 hd => ?_) fun hb27 hd => ?_))))))))
 · exact .sr (.ks 1 r (.nilS [2] r r (.drop .z (.ret (pret results77 (.t r .n) (.refl _) ⟨false, r, hd⟩)))))
 refine .skipS [1] r r (.seq (.seq (.dr [0, 1, 2, 3, 4, 5, 6, 7, 8, 9, 10, 11, 12, 13, 14, 15, 16] 17 (.g r r r (fun _ => .fa un39 r sz36 r (o := 2) r r r .mk) (.g r r r (fun _ => .load1 ia36 r .z r r r .mk) ?_)))))
 obtain ⟨h48, x49, hx50, hd⟩ := hd
 obtain ⟨b51, o52, cs53, e54, hC55, hr56⟩ := R3.2 _ _ hx50
 cases hr56
 refine .g r r r (fun _ => .ixa un36 sz3 r e54 r h48 (idx_lt hx50 h48) r r .mk) (.g r r r (fun _ => .ld1 (j := 0) ia3 hC55 r r r r r .mk) (.fk 2 r ?_))
 refine splitP hd (fun hb57 hd => ?_) fun hb57 hd => ?_
 · rw [hb57]
   exact .fk 11 r (.e2 17 (.nilS [63, 1] r r (.condKT r r (.sr (.ks 1 r (.nilS [2] r r (.drop .z (.ret (pret results77 (.t r .n) (.refl _) ⟨false, r, hd⟩)))))))))
 rw [hb57]
 refine .g r r r (fun _ => .gyes r r r (.fa un39 r sz36 r (o := 2) r r r .mk)) (.g r r r (fun _ => .gyes r r r (.load1 ia36 r .z r r r .mk)) (.g r r r (fun _ => .gyes r r r (.fa un39 r sz3 r (o := 0) r r r .mk)) (.g r r r (fun _ => .gyes r r r (.load1 ia3 r .z r r r .mk)) ?_)))
 obtain ⟨h58, x59, hx60, hd⟩ := hd
 obtain ⟨b61, o62, cs63, e64, hC65, hr66⟩ := R3.2 _ _ hx60
 cases hr66
 refine .g r r r (fun _ => .gyes r r r (.ixa un36 sz3 r e64 r h58 (idx_lt hx60 h58) r r .mk)) (.g r r r (fun _ => .gyes r r r (.ld1 (j := 0) ia3 hC65 r r r r r .mk)) (.g r r r (fun _ => .gyes r r r (.fa un39 r sz36 r (o := 3) r r r .mk)) (.g r r r (fun _ => .gyes r r r (.load1 ia36 r .z r r r .mk)) (.g r r r (fun _ => .gyes r r r (.len un36 r r r r .mk)) (.fk 2 r (.e2 17 (.nilS [63, 1] r r (.condP r hd (fun hb67 hd => ?_) fun hb67 hd => ?_))))))))
 · exact .sr (.ks 1 r (.nilS [2] r r (.drop .z (.ret (pret results77 (.t r .n) (.refl _) ⟨false, r, hd⟩)))))
 refine .skipS [1] r r (.seq (.sr (.ks 1 r (.nilS [3, 1] r r (.block (.loop hd (fun (s695 : Int) c w => ∃ I_, IH.le I I_ ∧ Ok ⟨156, [], none⟩ [(1, .pointer (some ⟨b12, 0, none⟩)), (3, .int .i64 s695)] c ∧ Sym w0 M I I_ [pto b12 (.cells #[.int .i64 a0.Rows, .int .i64 a0.Cols, .slice p1 a0.Start.length c2, .slice p4 a0.Col.length c5, .slice p7 a0.Val.length c8] 39 (0, 0))] w) (fun c w ho hs => ⟨I, (.refl _), ho.sub ⟨r, r, trivial⟩, hs.pick (.c .z .n)⟩) ?_))))))
 rintro s695 next696 hd c w hst
 obtain ⟨I697, hl698, hok, hsym⟩ := hst
 replace R3 := R3.mono hl698
 replace R6 := R6.mono hl698
 replace R9 := R9.mono hl698
 refine Cod.at hok hsym (.seq (.sr (.ks 1 r (.fa un39 r sz3 r (o := 0) r r r (.load1 ia3 r .z r r r (.ks 1 r (.nilS [67, 3, 1] r r (.condP r hd (fun hb700 hd => ?_) fun hb700 hd => ?_))))))))
 · refine .skipS [3, 1] r r (.seq (.block (.seq (.seq (.dr [0, 1, 2, 3, 4, 5, 6, 7, 8, 9, 10, 11, 12, 13, 14, 15, 16, 17, 18, 19, 20, 21, 22, 23, 24, 25, 26, 27, 28, 29, 30, 31] 32 (.g r r r (fun _ => .fa un39 r sz36 r (o := 2) r r r .mk) (.g r r r (fun _ => .load1 ia36 r .z r r r .mk) (.fk 1 r ?_))))))))
   obtain ⟨h740, x741, hx742, hd⟩ := hd
   obtain ⟨b743, o744, cs745, e746, hC747, hr748⟩ := R3.2 _ _ hx742
   cases hr748
   refine .g r r r (fun _ => .ixa un36 sz3 r e746 r h740 (idx_lt hx742 h740) r r .mk) (.g r r r (fun _ => .ld1 (j := 0) ia3 hC747 r r r r r .mk) (.g r r r (fun _ => .fa un39 r sz36 r (o := 2) r r r .mk) (.g r r r (fun _ => .load1 ia36 r .z r r r .mk) (.fk 2 r ?_))))
   obtain ⟨h749, x750, hx751, hd⟩ := hd
   obtain ⟨b752, o753, cs754, e755, hC756, hr757⟩ := R3.2 _ _ hx751
   cases hr757
   refine .g r r r (fun _ => .ixa un36 sz3 r e755 r h749 (idx_lt hx751 h749) r r .mk) (.g r r r (fun _ => .ld1 (j := 0) ia3 hC756 r r r r r .mk) (.fk 2 r ?_))
   refine splitP hd (fun hb758 hd => ?_) fun hb758 hd => ?_
   · rw [hb758]
     exact .fk 19 r (.e2 32 (.nilS [101, 3, 1] r r (.condKT r r (.sr (.ks 1 r (.nilS [2] r r (.drop .z (.ret (pret results77 (.t r .n) hl698 ⟨false, r, hd⟩)))))))))
   rw [hb758]
   refine .g r r r (fun _ => .gyes r r r (.fa un39 r sz36 r (o := 2) r r r .mk)) (.g r r r (fun _ => .gyes r r r (.load1 ia36 r .z r r r .mk)) (.fk 1 r ?_))
   obtain ⟨h759, x760, hx761, hd⟩ := hd
   obtain ⟨b762, o763, cs764, e765, hC766, hr767⟩ := R3.2 _ _ hx761
   cases hr767
   refine .g r r r (fun _ => .gyes r r r (.ixa un36 sz3 r e765 r h759 (idx_lt hx761 h759) r r .mk)) (.g r r r (fun _ => .gyes r r r (.ld1 (j := 0) ia3 hC766 r r r r r .mk)) (.fk 3 r ?_))
   refine splitP hd (fun hb768 hd => ?_) fun hb768 hd => ?_
   · rw [hb768]
     exact .fk 11 r (.e2 32 (.nilS [101, 3, 1] r r (.condKT r r (.sr (.ks 1 r (.nilS [2] r r (.drop .z (.ret (pret results77 (.t r .n) hl698 ⟨false, r, hd⟩)))))))))
   rw [hb768]
   refine .g r r r (fun _ => .gyes r r r (.fa un39 r sz36 r (o := 2) r r r .mk)) (.g r r r (fun _ => .gyes r r r (.load1 ia36 r .z r r r .mk)) (.fk 2 r ?_))
   obtain ⟨h769, x770, hx771, hd⟩ := hd
   obtain ⟨b772, o773, cs774, e775, hC776, hr777⟩ := R3.2 _ _ hx771
   cases hr777
   refine .g r r r (fun _ => .gyes r r r (.ixa un36 sz3 r e775 r h769 (idx_lt hx771 h769) r r .mk)) (.g r r r (fun _ => .gyes r r r (.ld1 (j := 0) ia3 hC776 r r r r r .mk)) (.g r r r (fun _ => .gyes r r r (.fa un39 r sz36 r (o := 3) r r r .mk)) (.g r r r (fun _ => .gyes r r r (.load1 ia36 r .z r r r .mk)) (.g r r r (fun _ => .gyes r r r (.len un36 r r r r .mk)) (.fk 2 r (.e2 32 (.nilS [101, 3, 1] r r (.condP r hd (fun hb778 hd => ?_) fun hb778 hd => ?_))))))))
   · exact .sr (.ks 1 r (.nilS [2] r r (.drop .z (.ret (pret results77 (.t r .n) hl698 ⟨false, r, hd⟩)))))
   refine .skipS [3, 1] r r (.sr (.fa un39 r sz36 r (o := 2) r r r (.load1 ia36 r .z r r r (.ks 1 r ?_))))
   obtain ⟨h788, x789, hx790, hd⟩ := hd
   obtain ⟨b791, o792, cs793, e794, hC795, hr796⟩ := R3.2 _ _ hx790
   cases hr796
   refine .ixa un36 sz3 r e794 r h788 (idx_lt hx790 h788) r r (.ld1 (j := 0) ia3 hC795 r r r r r (.ks 1 r (.nilS [4, 3, 1] r r (.block (.loop hd (fun (s938 : Int) c w => ∃ I_, IH.le I697 I_ ∧ Ok ⟨156, [], none⟩ [(1, .pointer (some ⟨b12, 0, none⟩)), (3, .int .i64 s695), (4, .int .i64 s938)] c ∧ Sym w0 M I I_ [pto b12 (.cells #[.int .i64 a0.Rows, .int .i64 a0.Cols, .slice p1 a0.Start.length c2, .slice p4 a0.Col.length c5, .slice p7 a0.Val.length c8] 39 (0, 0))] w) (fun c w ho hs => ⟨I697, (.refl _), ho.sub ⟨r, r, r, trivial⟩, hs.pick (.c .z .n)⟩) ?_)))))
   rintro s938 next939 hd c w hst
   obtain ⟨I940, hl941, hok, hsym⟩ := hst
   have le942 := IH.le.trans hl698 hl941
   replace R3 := R3.mono hl941
   replace R6 := R6.mono hl941
   replace R9 := R9.mono hl941
   refine Cod.at hok hsym (.seq (.sr (.ks 1 r (.fa un39 r sz36 r (o := 2) r r r (.load1 ia36 r .z r r r (.ks 2 r ?_))))))
   obtain ⟨h953, x954, hx955, hd⟩ := hd
   obtain ⟨b956, o957, cs958, e959, hC960, hr961⟩ := R3.2 _ _ hx955
   cases hr961
   refine .ixa un36 sz3 r e959 r h953 (idx_lt hx955 h953) r r (.ld1 (j := 0) ia3 hC960 r r r r r (.ks 1 r (.nilS [114, 4, 3, 1] r r (.condP r hd (fun hb962 hd => ?_) fun hb962 hd => ?_))))
   · refine .skipS [4, 3, 1] r r (.seq (.block (.seq (.dr [0, 1, 2, 3, 4, 5, 6, 7, 8, 9, 10, 11, 12, 13, 14, 15, 16, 17, 18, 19, 20, 21, 22, 23, 24, 25, 26, 27, 28, 29, 30, 31, 32, 33, 34, 35, 36, 37, 38] 39 (.g r r r (fun _ => .fa un39 r sz36 r (o := 3) r r r .mk) (.g r r r (fun _ => .load1 ia36 r .z r r r .mk) (.fk 1 r ?_)))))))
     obtain ⟨h963, x964, hx965, hd⟩ := hd
     obtain ⟨b966, o967, cs968, e969, hC970, hr971⟩ := R6.2 _ _ hx965
     cases hr971
     refine .g r r r (fun _ => .ixa un36 sz3 r e969 r h963 (idx_lt hx965 h963) r r .mk) (.g r r r (fun _ => .ld1 (j := 0) ia3 hC970 r r r r r .mk) (.fk 2 r ?_))
     refine splitP hd (fun hb972 hd => ?_) fun hb972 hd => ?_
     · rw [hb972]
       exact .fk 32 r (.e2 39 (.nilS [155, 4, 3, 1] r r (.condKT r r (.sr (.ks 1 r (.nilS [2] r r (.drop .z (.ret (pret results77 (.t r .n) le942 ⟨false, r, hd⟩)))))))))
     rw [hb972]
     refine .g r r r (fun _ => .gyes r r r (.fa un39 r sz36 r (o := 3) r r r .mk)) (.g r r r (fun _ => .gyes r r r (.load1 ia36 r .z r r r .mk)) (.fk 1 r ?_))
     obtain ⟨h973, x974, hx975, hd⟩ := hd
     obtain ⟨b976, o977, cs978, e979, hC980, hr981⟩ := R6.2 _ _ hx975
     cases hr981
     refine .g r r r (fun _ => .gyes r r r (.ixa un36 sz3 r e979 r h973 (idx_lt hx975 h973) r r .mk)) (.g r r r (fun _ => .gyes r r r (.ld1 (j := 0) ia3 hC980 r r r r r .mk)) (.g r r r (fun _ => .gyes r r r (.fa un39 r sz3 r (o := 1) r r r .mk)) (.g r r r (fun _ => .gyes r r r (.load1 ia3 r .z r r r .mk)) (.fk 3 r ?_))))
     refine splitP hd (fun hb982 hd => ?_) fun hb982 hd => ?_
     · rw [hb982]
       exact .fk 22 r (.e2 39 (.nilS [155, 4, 3, 1] r r (.condKT r r (.sr (.ks 1 r (.nilS [2] r r (.drop .z (.ret (pret results77 (.t r .n) le942 ⟨false, r, hd⟩)))))))))
     rw [hb982]
     refine .fk 1 r (.g r r r (fun _ => .gyes r r r (.fa un39 r sz36 r (o := 2) r r r .mk)) (.g r r r (fun _ => .gyes r r r (.load1 ia36 r .z r r r .mk)) (.fk 1 r ?_)))
     obtain ⟨h983, x984, hx985, hd⟩ := hd
     obtain ⟨b986, o987, cs988, e989, hC990, hr991⟩ := R3.2 _ _ hx985
     cases hr991
     refine .g r r r (fun _ => .gyes r r r (.ixa un36 sz3 r e989 r h983 (idx_lt hx985 h983) r r .mk)) (.g r r r (fun _ => .gyes r r r (.ld1 (j := 0) ia3 hC990 r r r r r .mk)) (.fk 2 r ?_))
     refine splitP hd (fun hb992 hd => ?_) fun hb992 hd => ?_
     · rw [hb992]
       refine .g r r r (fun _ => .gyes r r r (.fa un39 r sz36 r (o := 3) r r r .mk)) (.g r r r (fun _ => .gyes r r r (.load1 ia36 r .z r r r .mk)) (.fk 1 r ?_))
       obtain ⟨h993, x994, hx995, hd⟩ := hd
       obtain ⟨b996, o997, cs998, e999, hC1000, hr1001⟩ := R6.2 _ _ hx995
       cases hr1001
       refine .g r r r (fun _ => .gyes r r r (.ixa un36 sz3 r e999 r h993 (idx_lt hx995 h993) r r .mk)) (.g r r r (fun _ => .gyes r r r (.ld1 (j := 0) ia3 hC1000 r r r r r .mk)) (.g r r r (fun _ => .gyes r r r (.fa un39 r sz36 r (o := 3) r r r .mk)) (.g r r r (fun _ => .gyes r r r (.load1 ia36 r .z r r r .mk)) (.fk 2 r ?_))))
       obtain ⟨h1002, x1003, hx1004, hd⟩ := hd
       obtain ⟨b1005, o1006, cs1007, e1008, hC1009, hr1010⟩ := R6.2 _ _ hx1004
       cases hr1010
       refine .g r r r (fun _ => .gyes r r r (.ixa un36 sz3 r e1008 r h1002 (idx_lt hx1004 h1002) r r .mk)) (.g r r r (fun _ => .gyes r r r (.ld1 (j := 0) ia3 hC1009 r r r r r .mk)) (.fk 3 r (.e2 39 (.nilS [155, 4, 3, 1] r r (.condP r hd (fun hb1011 hd => ?_) fun hb1011 hd => ?_)))))
       · exact .sr (.ks 1 r (.nilS [2] r r (.drop .z (.ret (pret results77 (.t r .n) le942 ⟨false, r, hd⟩)))))
       exact .skipS [4, 3, 1] r r (.region (.ks 3 r (.nil' fun c w ho hs => ⟨(w64 (s938 + 1)), hd, I940, hl941, ho.sub ⟨r, r, r, trivial⟩, hs.pick (.c .z .n)⟩)))
     rw [hb992]
     exact .fk 14 r (.e2 39 (.nilS [155, 4, 3, 1] r r (.condKF r r (.skipS [4, 3, 1] r r (.region (.ks 3 r (.nil' fun c w ho hs => ⟨(w64 (s938 + 1)), hd, I940, hl941, ho.sub ⟨r, r, r, trivial⟩, hs.pick (.c .z .n)⟩)))))))
   exact .exitS [3, 1] r r (.region (.ks 3 r (.nil' fun c w ho hs => ⟨(w64 (s695 + 1)), hd, I940, le942, ho.sub ⟨r, r, trivial⟩, hs.pick (.c .z .n)⟩)))
 exact .exitS [] r r (.drop .z (.sr (.ks 1 r (.nilS [2] r r (.ret (pret results77 (.t r .n) hl698 ⟨true, r, hd⟩))))))

theorem W_ref07_Sure {I : IH} {a0 : Rows} {p1 : Option Addr} {c2 : Nat} {p4 : Option Addr} {c5 : Nat} {p7 : Option Addr} {c8 : Nat} {Q : Rows → Prop} (R3 : RepSl eI64 I p1 c2 a0.Start) (R6 : RepSl eI64 I p4 c5 a0.Col) (R9 : RepSl eI64 I p7 c8 a0.Val) (hd : ref07_Sure a0 Q) :
  PFun prog 44 [.agg #[.int .i64 a0.Rows, .int .i64 a0.Cols, .slice p1 a0.Start.length c2, .slice p4 a0.Col.length c5, .slice p7 a0.Val.length c8]] I (o9_ Q) := by
 refine Fun.enter func44 r ntmps44 r (.c .n) fun w0 M => ?_
 refine .sr (.boxA r r r fun b23 => ?_)
 refine .allocA zv39 r r fun b25 => ?_
 refine .nilS [2, 1] r r (.seq (.sr (.loadW ia39 sz39 r (.s .z) r r r ?_)))
 have hw28 := W_ref07_Right (I := I) R3 R6 R9 hd
 refine .callP call77 r hw28 r r fun v29 hv30 => ?_
 obtain ⟨r27, rfl, hd⟩ := hv30
 refine .nilS [4, 2, 1] r r (.condP r hd (fun hb31 hd => ?_) fun hb31 hd => ?_)
 · exact .sr (.loadW ia39 sz39 r (.s .z) r r r (.storeA sz39 r r .z (.t (.t (.t (.t (.t .nil))))) r r (.nilS [2] r r (.drop (.s .z) (.ret (pret results44 (.w ia39 sz39 r .z r .n) (.refl _) ⟨a0, _, _, _, _, _, _, r, R3, R6, R9, hd⟩))))))
 refine .skipS [2] r r (.drop (.s .z) (.sr ?_))
 have hw50 := W_ref07_Empty (I := I) hd
 refine .callO call70 r hw50 r r fun v36 I33 l37 hl34 hv35 => ?_
 obtain ⟨r32, p38, c39, p41, c42, p44, c45, rfl, rfl, hd⟩ := hv35
 refine .storeA sz39 r r (.s (.s (.s .z))) (.t (.t (.t (.t (.t .nil))))) r r (.nilS [2] r r (.pub .z fun I51 hl52 R53 => ?_))
 have le54 := IH.le.trans hl34 hl52
 refine .pub .z fun I55 hl56 R57 => ?_
 have le58 := IH.le.trans le54 hl56
 replace R53 := R53.mono hl56
 refine .pub .z fun I59 hl60 R61 => ?_
 have le62 := IH.le.trans le58 hl60
 replace R53 := R53.mono hl60
 replace R57 := R57.mono hl60
 exact .ret (pret results44 (.w ia39 sz39 r .z r .n) le62 ⟨r32, _, _, _, _, _, _, r, R53, R57, R61, hd⟩)

theorem W_ref07_built {I : IH} {a0 : Int} {a1 : Int} {a2 : List Triple} {p1 : Option Addr} {c2 : Nat} {Q : Rows → Prop} (R3 : RepSl eTriple I p1 c2 a2) (hd : ref07_built a0 a1 a2 Q) :
  PFun prog 68 [.int .i64 a0, .int .i64 a1, .slice p1 a2.length c2] I (o10_ Q) := by
 refine Fun.enter func68 r ntmps68 r (.c (.c (.c .n))) fun w0 M => ?_
 refine .sr (.allocA zv39 r r fun b15 => ?_)
 refine .nilS [6, 2, 1, 0] r r (.sr (.ks 2 r ?_))
 have hw56 := W_ref07_Empty (I := I) hd
 refine .callO call70 r hw56 r r fun v42 I39 l43 hl40 hv41 => ?_
 obtain ⟨r38, p44, c45, p47, c48, p50, c51, rfl, rfl, hd⟩ := hv41
 replace R3 := R3.mono hl40
 refine .allocA zv39 r r fun b57 => ?_
 refine .storeA sz39 r r .z (.t (.t (.t (.t (.t .nil))))) r r (.nilS [7, 6, 2, 0] r r (.seq (.sr (.ks 1 r (.nilS [8, 7, 6, 2, 0] r r (.block (.loop hd (fun (s : (List Int) × (List Int) × (List Int) × Int) c w => match s with | (s390, s394, s398, s402) => ∃ I_ p391 c392 p395 c396 p399 c400, IH.le I39 I_ ∧ Ok ⟨58, [], none⟩ [(0, .int .i64 a0), (2, .slice p1 a2.length c2), (6, .pointer (some ⟨b15, 0, none⟩)), (7, .pointer (some ⟨b57, 0, none⟩)), (8, .int .i64 s402)] c ∧ Sym w0 M I I_ [pto b15 (.cells #[.int .i64 0, .int .i64 0, .slice none 0 0, .slice none 0 0, .slice none 0 0] 39 (0, 0)), pto b57 (.cells #[.int .i64 r38.Rows, .int .i64 r38.Cols, .slice p391 s390.length c392, .slice p395 s394.length c396, .slice p399 s398.length c400] 39 (0, 0)), OwnSl eI64 3 p391 c392 s390, OwnSl eI64 3 p395 c396 s394, OwnSl eI64 2 p399 c400 s398] w) (fun c w ho hs => ⟨I39, _, _, _, _, _, _, (.refl _), ho.sub ⟨r, r, r, r, r, trivial⟩, hs.pick (.c (.s (.s (.s (.s .z)))) (.c .z (.c .z (.c .z (.c .z .n)))))⟩) ?_)))))))
 rintro ⟨s390, s394, s398, s402⟩ next403 hd c w hst
 obtain ⟨I404, p391, c392, p395, c396, p399, c400, hl405, hok, hsym⟩ := hst
 have le406 := IH.le.trans hl40 hl405
 replace R3 := R3.mono hl405
 refine Cod.at hok hsym (.seq (.sr (.ks 2 r (.len un31 r r r r (.ks 1 r (.nilS [16, 8, 7, 6, 2, 0] r r (.condP r hd (fun hb408 hd => ?_) fun hb408 hd => ?_)))))))
 · refine .skipS [8, 7, 6, 2, 0] r r (.seq (.block (.seq (.ownF (.s (.s .z)) fun hne427 => ?_))))
   refine .ownF (.s (.s (.s .z))) fun hne428 => ?_
   refine .ownF (.s (.s (.s (.s .z)))) fun hne429 => ?_
   refine .dr [0, 1, 2, 3, 4, 5, 6, 7, 8] 9 (.g r r r (fun _ => .fa un39 r sz36 r (o := 3) r r r .mk) (.g r r r (fun _ => .load1 ia36 r (.s .z) r r r .mk) (.fk 2 r ?_)))
   obtain ⟨h430, x431, hx432, hd⟩ := hd
   obtain ⟨b433, o434, cs435, e436, hC437, hr438⟩ := R3.2 _ _ hx432
   cases hr438
   refine .g r r r (fun _ => .ixa un31 sz78 r e436 r h430 (idx_lt hx432 h430) r r .mk) (.g r r r (fun _ => .fa un78 r sz3 r (o := o434 + s402.toNat * 3 + 1) r r r .mk) (.g r r r (fun _ => .ld1 (j := 1) ia3 hC437 r r r r r .mk) (.ww r fun ex => ?_)))
   refine .buildSlice 1 un36 sz3 zv3 r r (.c r r r .n) r r fun b439 => ?_
   refine .so 6 r r r (.cg r r r r (fun _ => .load1 ia36 r (.s (.s .z)) r r r .mk) (.cg r r r r (fun _ => .fa un39 r sz36 r (o := 3) r r r .mk) trivial)) (.ww r fun ex => ?_)
   obtain ⟨hl441, hd⟩ := hd
   refine .append (ys := [x431.Col]) 8 (.s (.s (.s (.s .z)))) un36 un36 IN3 r r r r r r r r r (.box .z (.one r) r) hl441 r r fun p442 c443 => ?_
   refine .so 6 r r r trivial (.e2 9 (.fa un39 r sz36 r (o := 3) r r r (.store1 sz36 r r (.s (.s (.s .z))) (.s (.s (.s (.t .nil)))) r (.nilS [8, 7, 6, 2, 0] r r (.drop (.s .z) (.seq (.ownF .z fun hne463 => ?_)))))))
   refine .ownF (.s (.s (.s .z))) fun hne464 => ?_
   refine .ownF (.s (.s (.s (.s .z)))) fun hne465 => ?_
   refine .dr [0, 1, 2, 3, 4, 5, 6, 7, 8] 9 (.g r r r (fun _ => .fa un39 r sz37 r (o := 4) r r r .mk) (.g r r r (fun _ => .load1 ia37 r (.s (.s .z)) r r r .mk) (.fk 2 r ?_)))
   obtain ⟨h466, x467, hx468, hd⟩ := hd
   obtain ⟨b469, o470, cs471, e472, hC473, hr474⟩ := R3.2 _ _ hx468
   cases hr474
   refine .g r r r (fun _ => .ixa un31 sz78 r e472 r h466 (idx_lt hx468 h466) r r .mk) (.g r r r (fun _ => .fa un78 r sz2 r (o := o470 + s402.toNat * 3 + 2) r r r .mk) (.g r r r (fun _ => .ld1 (j := 2) ia2 hC473 r r r r r .mk) (.ww r fun ex => ?_)))
   refine .buildSlice 1 un37 sz2 zeroValue2 r r (.c r r r .n) r r fun b475 => ?_
   refine .so 6 r r r (.cg r r r r (fun _ => .load1 ia37 r (.s (.s (.s .z))) r r r .mk) (.cg r r r r (fun _ => .fa un39 r sz37 r (o := 4) r r r .mk) trivial)) (.ww r fun ex => ?_)
   obtain ⟨hl477, hd⟩ := hd
   refine .append (ys := [x467.Val]) 8 (.s (.s (.s (.s (.s .z))))) un37 un37 IN2 r r r r r r r r r (.box .z (.one r) r) hl477 r r fun p478 c479 => ?_
   refine .so 6 r r r trivial (.e2 9 (.fa un39 r sz37 r (o := 4) r r r (.store1 sz37 r r (.s (.s (.s (.s .z)))) (.s (.s (.s (.s (.t .nil))))) r (.nilS [8, 7, 6, 2, 0] r r (.drop (.s .z) (.sr (.ks 2 r ?_)))))))
   obtain ⟨h490, x491, hx492, hd⟩ := hd
   obtain ⟨b493, o494, cs495, e496, hC497, hr498⟩ := R3.2 _ _ hx492
   cases hr498
   refine .ixa un31 sz78 r e496 r h490 (idx_lt hx492 h490) r r (.fa un78 r sz3 r (o := o494 + s402.toNat * 3) r r r (.ld1 (j := 0) ia3 hC497 r r r r r (.ks 2 r (.nilS [9, 8, 7, 6, 2, 0] r r (.block (.loop hd (fun (s : (List Int) × Int) c w => match s with | (s534, s538) => ∃ I_ p535 c536, IH.le I404 I_ ∧ Ok ⟨58, [], none⟩ [(0, .int .i64 a0), (2, .slice p1 a2.length c2), (6, .pointer (some ⟨b15, 0, none⟩)), (7, .pointer (some ⟨b57, 0, none⟩)), (8, .int .i64 s402), (9, .int .i64 s538)] c ∧ Sym w0 M I I_ [pto b15 (.cells #[.int .i64 0, .int .i64 0, .slice none 0 0, .slice none 0 0, .slice none 0 0] 39 (0, 0)), pto b57 (.cells #[.int .i64 r38.Rows, .int .i64 r38.Cols, .slice p535 s534.length c536, .slice p442 (s394 ++ ([x431.Col])).length c443, .slice p478 (s398 ++ ([x467.Val])).length c479] 39 (0, 0)), OwnSl eI64 3 p535 c536 s534, OwnSl eI64 3 p442 c443 (s394 ++ ([x431.Col])), OwnSl eI64 2 p478 c479 (s398 ++ ([x467.Val]))] w) (fun c w ho hs => ⟨I404, _, _, (.refl _), ho.sub ⟨r, r, r, r, r, r, trivial⟩, hs.pick (.c (.s (.s .z)) (.c (.s (.s .z)) (.c (.s (.s .z)) (.c (.s .z) (.c .z .n)))))⟩) ?_))))))
   rintro ⟨s534, s538⟩ next539 hd c w hst
   obtain ⟨I540, p535, c536, hl541, hok, hsym⟩ := hst
   have le542 := IH.le.trans le406 hl541
   have le543 := IH.le.trans hl405 hl541
   replace R3 := R3.mono hl541
   refine Cod.at hok hsym (.seq (.sr (.ks 3 r (.nilS [47, 9, 8, 7, 6, 2, 0] r r (.condP r hd (fun hb545 hd => ?_) fun hb545 hd => ?_)))))
   · refine .skipS [9, 8, 7, 6, 2, 0] r r (.seq (.block (.region (.fa un39 r sz36 r (o := 2) r r r (.load1 ia36 r (.s .z) r r r (.ks 1 r ?_))))))
     obtain ⟨h546, x547, hx548, hd⟩ := hd
     refine .ownNe (.s (.s .z)) (idx_ne hx548) fun b549 e550 => ?_
     cases e550
     refine .ixa0 un36 sz3 r r h546 (idx_lt hx548 h546) r r (.lo1 (j := 0) ia3 (.s (.s .z)) hx548 r r r r r (.ks 1 r ?_))
     obtain ⟨h551, x552, hx553, hd⟩ := hd
     exact .ixa0 un36 sz3 r r h551 (idx_lt hx553 h551) r r (.stO1 (j := 0) (v' := (w64 (x547 + 1))) sz3 (.s (.s .z)) hx553 r r r (.t .nil) r (.sub (E' := [(0, _), (2, _), (6, _), (7, _), (8, _), (9, _), (50, _), (51, .slice (some ⟨b549, 0, none⟩) (s534.set s538.toNat (w64 (x547 + 1))).length c536), (52, _), (53, _), (54, _), (55, _), (56, _)]) ⟨r, r, r, r, r, r, r, (by simp only [List.length_set]; rfl), r, r, r, r, r, trivial⟩ (.reat (.s .z) (B := pto b57 (.cells #[.int .i64 r38.Rows, .int .i64 r38.Cols, .slice (some ⟨b549, 0, none⟩) (s534.set s538.toNat (w64 (x547 + 1))).length c536, .slice p442 (s394 ++ ([x431.Col])).length c443, .slice p478 (s398 ++ ([x467.Val])).length c479] 39 (0, 0))) (by simp only [List.length_set]) (.nilS [9, 8, 7, 6, 2, 0] r r (.region (.ks 3 r (.nil' fun c w ho hs => ⟨((s534.set s538.toNat (w64 (x547 + 1))), w64 (s538 + 1)), hd, I540, _, _, hl541, ho.sub ⟨r, r, r, r, r, r, trivial⟩, hs.pick (.c .z (.c .z (.c .z (.c .z (.c .z .n)))))⟩)))))))
   exact .exitS [8, 7, 6, 2, 0] r r (.region (.ks 3 r (.nil' fun c w ho hs => ⟨(s534, (s394 ++ ([x431.Col])), (s398 ++ ([x467.Val])), w64 (s402 + 1)), hd, I540, _, _, _, _, _, _, le543, ho.sub ⟨r, r, r, r, r, trivial⟩, hs.pick (.c .z (.c .z (.c .z (.c .z (.c .z .n)))))⟩)))
 refine .exitS [7, 6] r r (.sr (.loadW ia39 sz39 r (.s .z) r r r (.storeA sz39 r r .z (.t (.t (.t (.t (.t .nil))))) r r (.nilS [6] r r (.drop (.s .z) (.pub (.s .z) fun I554 hl555 R556 => ?_))))))
 have le557 := IH.le.trans le406 hl555
 have le558 := IH.le.trans hl405 hl555
 refine .pub (.s .z) fun I559 hl560 R561 => ?_
 have le562 := IH.le.trans le557 hl560
 have le563 := IH.le.trans le558 hl560
 replace R556 := R556.mono hl560
 refine .pub (.s .z) fun I564 hl565 R566 => ?_
 have le567 := IH.le.trans le562 hl565
 have le568 := IH.le.trans le563 hl565
 replace R556 := R556.mono hl565
 replace R561 := R561.mono hl565
 exact .ret (pret results68 (.w ia39 sz39 r .z r .n) le567 ⟨({ Rows := r38.Rows, Cols := r38.Cols, Start := s390, Col := s394, Val := s398 } : Rows), _, _, _, _, _, _, r, R556, R561, R566, hd⟩)

theorem W_ref07_Triples {I : IH} {a0 : Rows} {p1 : Option Addr} {c2 : Nat} {p4 : Option Addr} {c5 : Nat} {p7 : Option Addr} {c8 : Nat} {Q : (List Triple) → Prop} (R3 : RepSl eI64 I p1 c2 a0.Start) (R6 : RepSl eI64 I p4 c5 a0.Col) (R9 : RepSl eI64 I p7 c8 a0.Val) (hd : ref07_Triples a0 Q) :
  PFun prog 76 [.agg #[.int .i64 a0.Rows, .int .i64 a0.Cols, .slice p1 a0.Start.length c2, .slice p4 a0.Col.length c5, .slice p7 a0.Val.length c8]] I (fun I_ v => ∃ r p10 c11, v = .slice p10 r.length c11 ∧ RepSl eTriple I_ p10 c11 r ∧ Q r) := by
 refine Fun.enter func76 r ntmps76 r (.c .n) fun w0 M => ?_
 refine .sr (.boxA r r r fun b15 => ?_)
 refine .ks 1 r (.nilS [1] r r (.sr (.loadW ia39 sz39 r .z r r r ?_)))
 have hw48 := W_ref07_Sure (I := I) R3 R6 R9 hd
 refine .call call44 r hw48 r r fun v37 I34 hl35 hv36 => ?_
 obtain ⟨r33, p39, c40, p42, c43, p45, c46, rfl, R41, R44, R47, hd⟩ := hv36
 replace R3 := R3.mono hl35
 replace R6 := R6.mono hl35
 replace R9 := R9.mono hl35
 refine .storeA sz39 r r .z (.t (.t (.t (.t (.t .nil))))) r r (.nilS [1] r r (.sr (.ks 1 r (.nilS [3, 1] r r (.seq (.sr (.ks 1 r (.nilS [4, 3, 1] r r (.block ?_)))))))))
 refine .own0 eTriple 78 (.loop hd (fun (s : (List Triple) × Int) c w => match s with | (s423, s427) => ∃ I_ p424 c425, IH.le I34 I_ ∧ Ok ⟨45, [], none⟩ [(1, .pointer (some ⟨b15, 0, none⟩)), (3, .slice p424 s423.length c425), (4, .int .i64 s427)] c ∧ Sym w0 M I I_ [pto b15 (.cells #[.int .i64 r33.Rows, .int .i64 r33.Cols, .slice p39 r33.Start.length c40, .slice p42 r33.Col.length c43, .slice p45 r33.Val.length c46] 39 (0, 0)), OwnSl eTriple 78 p424 c425 s423] w) (fun c w ho hs => ⟨I34, _, _, (.refl _), ho.sub ⟨r, r, r, trivial⟩, hs.pick (.c (.s .z) (.c .z .n))⟩) ?_)
 rintro ⟨s423, s427⟩ next429 hd c w hst
 obtain ⟨I430, p424, c425, hl431, hok, hsym⟩ := hst
 have le432 := IH.le.trans hl35 hl431
 replace R41 := R41.mono hl431
 replace R44 := R44.mono hl431
 replace R47 := R47.mono hl431
 refine Cod.at hok hsym (.seq (.sr (.ks 1 r (.fa un39 r sz3 r (o := 0) r r r (.load1 ia3 r .z r r r (.ks 1 r (.nilS [11, 4, 3, 1] r r (.condP r hd (fun hb434 hd => ?_) fun hb434 hd => ?_))))))))
 · refine .skipS [4, 3, 1] r r (.seq (.block (.sr (.fa un39 r sz36 r (o := 2) r r r (.load1 ia36 r .z r r r (.ks 1 r ?_))))))
   obtain ⟨h444, x445, hx446, hd⟩ := hd
   obtain ⟨b447, o448, cs449, e450, hC451, hr452⟩ := R41.2 _ _ hx446
   cases hr452
   refine .ixa un36 sz3 r e450 r h444 (idx_lt hx446 h444) r r (.ld1 (j := 0) ia3 hC451 r r r r r (.ks 1 r (.nilS [5, 4, 3, 1] r r (.block (.loop hd (fun (s : (List Triple) × Int) c w => match s with | (s558, s562) => ∃ I_ p559 c560, IH.le I430 I_ ∧ Ok ⟨45, [], none⟩ [(1, .pointer (some ⟨b15, 0, none⟩)), (3, .slice p559 s558.length c560), (4, .int .i64 s427), (5, .int .i64 s562)] c ∧ Sym w0 M I I_ [pto b15 (.cells #[.int .i64 r33.Rows, .int .i64 r33.Cols, .slice p39 r33.Start.length c40, .slice p42 r33.Col.length c43, .slice p45 r33.Val.length c46] 39 (0, 0)), OwnSl eTriple 78 p559 c560 s558] w) (fun c w ho hs => ⟨I430, _, _, (.refl _), ho.sub ⟨r, r, r, r, trivial⟩, hs.pick (.c .z (.c .z .n))⟩) ?_)))))
   rintro ⟨s558, s562⟩ next563 hd c w hst
   obtain ⟨I564, p559, c560, hl565, hok, hsym⟩ := hst
   have le566 := IH.le.trans le432 hl565
   have le567 := IH.le.trans hl431 hl565
   replace R41 := R41.mono hl565
   replace R44 := R44.mono hl565
   replace R47 := R47.mono hl565
   refine Cod.at hok hsym (.seq (.sr (.ks 1 r (.fa un39 r sz36 r (o := 2) r r r (.load1 ia36 r .z r r r (.ks 2 r ?_))))))
   obtain ⟨h578, x579, hx580, hd⟩ := hd
   obtain ⟨b581, o582, cs583, e584, hC585, hr586⟩ := R41.2 _ _ hx580
   cases hr586
   refine .ixa un36 sz3 r e584 r h578 (idx_lt hx580 h578) r r (.ld1 (j := 0) ia3 hC585 r r r r r (.ks 1 r (.nilS [26, 5, 4, 3, 1] r r (.condP r hd (fun hb587 hd => ?_) fun hb587 hd => ?_))))
   · refine .skipS [5, 4, 3, 1] r r (.seq (.block (.ownF (.s .z) fun hne588 => ?_)))
     refine .dr [0, 1, 2, 3, 4, 5, 6, 7, 8, 9, 10, 11, 12, 13, 14] 15 (.fk 2 r (.g r r r (fun _ => .fa un39 r sz36 r (o := 3) r r r .mk) (.g r r r (fun _ => .load1 ia36 r .z r r r .mk) (.fk 1 r ?_))))
     obtain ⟨h589, x590, hx591, hd⟩ := hd
     obtain ⟨b592, o593, cs594, e595, hC596, hr597⟩ := R44.2 _ _ hx591
     cases hr597
     refine .g r r r (fun _ => .ixa un36 sz3 r e595 r h589 (idx_lt hx591 h589) r r .mk) (.g r r r (fun _ => .ld1 (j := 0) ia3 hC596 r r r r r .mk) (.g r r r (fun _ => .fa un39 r sz37 r (o := 4) r r r .mk) (.g r r r (fun _ => .load1 ia37 r .z r r r .mk) (.fk 1 r ?_))))
     obtain ⟨h598, x599, hx600, hd⟩ := hd
     obtain ⟨b601, o602, cs603, e604, hC605, hr606⟩ := R47.2 _ _ hx600
     cases hr606
     refine .g r r r (fun _ => .ixa un37 sz2 r e604 r h598 (idx_lt hx600 h598) r r .mk) (.g r r r (fun _ => .ld1 (j := 0) ia2 hC605 r r r r r .mk) (.g r r r (fun _ => .build zv78 un78 BI78 (.c r r r (.t .nil) (.c r r r (.s (.t .nil)) (.c r r r (.s (.s (.t .nil))) .n))) (by exact ⟨⟨_, _, r, r, r⟩, ⟨⟨_, _, r, r, r⟩, ⟨⟨_, _, r, r, r⟩, trivial⟩⟩⟩) r r .mk) (.ww r fun ex => ?_)))
     refine .buildSlice 1 un31 sz78 zv78 r r (.c r r r .n) r r fun b607 => ?_
     refine .so 3 r r r (.ck 1 r r trivial) (.ww r fun ex => ?_)
     obtain ⟨hl609, hd⟩ := hd
     refine .append (ys := [({ Row := s427, Col := x590, Val := x599 } : Triple)]) 24 (.s (.s .z)) un31 un31 IN78 r r r r r r r r r (.box .z (.one r) r) hl609 r r fun p610 c611 => ?_
     exact .so 3 r r r trivial (.e2 15 (.ks 1 r (.nilS [3, 5, 4, 1] r r (.drop (.s .z) (.region (.ks 3 r (.nil' fun c w ho hs => ⟨((s558 ++ ([({ Row := s427, Col := x590, Val := x599 } : Triple)])), w64 (s562 + 1)), hd, I564, _, _, hl565, ho.sub ⟨r, r, r, r, trivial⟩, hs.pick (.c (.s .z) (.c .z .n))⟩)))))))
   exact .exitS [4, 3, 1] r r (.region (.ks 3 r (.nil' fun c w ho hs => ⟨(s558, w64 (s427 + 1)), hd, I564, _, _, le567, ho.sub ⟨r, r, r, trivial⟩, hs.pick (.c .z (.c .z .n))⟩)))
 refine .exitS [3] r r (.drop .z (.sr (.ks 2 r (.nilS [2] r r (.pub .z fun I613 hl614 R615 => ?_)))))
 have le616 := IH.le.trans le432 hl614
 have le617 := IH.le.trans hl431 hl614
 exact .ret (pret results76 (.t r .n) le616 ⟨s423, _, _, r, R615, hd⟩)

theorem W_ref07_Turn {I : IH} {a0 : Rows} {p1 : Option Addr} {c2 : Nat} {p4 : Option Addr} {c5 : Nat} {p7 : Option Addr} {c8 : Nat} {Q : Rows → Prop} (R3 : RepSl eI64 I p1 c2 a0.Start) (R6 : RepSl eI64 I p4 c5 a0.Col) (R9 : RepSl eI64 I p7 c8 a0.Val) (hd : ref07_Turn a0 Q) :
  PFun prog 42 [.agg #[.int .i64 a0.Rows, .int .i64 a0.Cols, .slice p1 a0.Start.length c2, .slice p4 a0.Col.length c5, .slice p7 a0.Val.length c8]] I (o9_ Q) := by
 refine Fun.enter func42 r ntmps42 r (.c .n) fun w0 M => ?_
 refine .sr (.boxA r r r fun b23 => ?_)
 refine .allocA zv39 r r fun b25 => ?_
 refine .nilS [2, 1] r r (.sr (.loadW ia39 sz39 r (.s .z) r r r ?_))
 have hw58 := W_ref07_Sure (I := I) R3 R6 R9 hd
 refine .call call44 r hw58 r r fun v47 I44 hl45 hv46 => ?_
 obtain ⟨r43, p49, c50, p52, c53, p55, c56, rfl, R51, R54, R57, hd⟩ := hv46
 replace R3 := R3.mono hl45
 replace R6 := R6.mono hl45
 replace R9 := R9.mono hl45
 refine .storeA sz39 r r (.s .z) (.t (.t (.t (.t (.t .nil))))) r r (.nilS [2, 1] r r (.sr (.loadW ia39 sz39 r (.s .z) r r r ?_)))
 have hw79 := W_ref07_Triples (I := I44) R51 R54 R57 hd
 refine .call call76 r hw79 r r fun v74 I71 hl72 hv73 => ?_
 obtain ⟨r70, p76, c77, rfl, R78, hd⟩ := hv73
 have le80 := IH.le.trans hl45 hl72
 replace R51 := R51.mono hl72
 replace R54 := R54.mono hl72
 replace R57 := R57.mono hl72
 refine .ks 1 r (.nilS [3, 2, 1] r r (.sr (.ks 1 r (.nilS [4, 3, 2, 1] r r (.seq (.sr (.ks 1 r (.nilS [5, 4, 3, 2, 1] r r (.block ?_)))))))))
 refine .own0 eTriple 78 (.loop hd (fun (s : (List Triple) × Int) c w => match s with | (s425, s429) => ∃ I_ p426 c427, IH.le I71 I_ ∧ Ok ⟨51, [], none⟩ [(1, .pointer (some ⟨b23, 0, none⟩)), (2, .pointer (some ⟨b25, 0, none⟩)), (3, .slice p76 r70.length c77), (4, .slice p426 s425.length c427), (5, .int .i64 s429)] c ∧ Sym w0 M I I_ [pto b23 (.cells #[.int .i64 r43.Rows, .int .i64 r43.Cols, .slice p49 r43.Start.length c50, .slice p52 r43.Col.length c53, .slice p55 r43.Val.length c56] 39 (0, 0)), pto b25 (.cells #[.int .i64 0, .int .i64 0, .slice none 0 0, .slice none 0 0, .slice none 0 0] 39 (0, 0)), OwnSl eTriple 78 p426 c427 s425] w) (fun c w ho hs => ⟨I71, _, _, (.refl _), ho.sub ⟨r, r, r, r, r, trivial⟩, hs.pick (.c (.s (.s .z)) (.c (.s .z) (.c .z .n)))⟩) ?_)
 rintro ⟨s425, s429⟩ next431 hd c w hst
 obtain ⟨I432, p426, c427, hl433, hok, hsym⟩ := hst
 have le434 := IH.le.trans le80 hl433
 replace R51 := R51.mono hl433
 replace R54 := R54.mono hl433
 replace R57 := R57.mono hl433
 replace R78 := R78.mono hl433
 refine Cod.at hok hsym (.seq (.sr (.ks 1 r (.fa un39 r sz3 r (o := 1) r r r (.load1 ia3 r .z r r r (.ks 1 r (.nilS [14, 5, 4, 3, 2, 1] r r (.condP r hd (fun hb436 hd => ?_) fun hb436 hd => ?_))))))))
 · refine .skipS [5, 4, 3, 2, 1] r r (.seq (.block (.sr (.ks 1 r (.nilS [6, 5, 4, 3, 2, 1] r r (.block (.loop hd (fun (s : (List Triple) × Int) c w => match s with | (s544, s548) => ∃ I_ p545 c546, IH.le I432 I_ ∧ Ok ⟨51, [], none⟩ [(1, .pointer (some ⟨b23, 0, none⟩)), (2, .pointer (some ⟨b25, 0, none⟩)), (3, .slice p76 r70.length c77), (4, .slice p545 s544.length c546), (5, .int .i64 s429), (6, .int .i64 s548)] c ∧ Sym w0 M I I_ [pto b23 (.cells #[.int .i64 r43.Rows, .int .i64 r43.Cols, .slice p49 r43.Start.length c50, .slice p52 r43.Col.length c53, .slice p55 r43.Val.length c56] 39 (0, 0)), pto b25 (.cells #[.int .i64 0, .int .i64 0, .slice none 0 0, .slice none 0 0, .slice none 0 0] 39 (0, 0)), OwnSl eTriple 78 p545 c546 s544] w) (fun c w ho hs => ⟨I432, _, _, (.refl _), ho.sub ⟨r, r, r, r, r, r, trivial⟩, hs.pick (.c .z (.c .z (.c .z .n)))⟩) ?_)))))))
   rintro ⟨s544, s548⟩ next549 hd c w hst
   obtain ⟨I550, p545, c546, hl551, hok, hsym⟩ := hst
   have le552 := IH.le.trans le434 hl551
   have le553 := IH.le.trans hl433 hl551
   replace R51 := R51.mono hl551
   replace R54 := R54.mono hl551
   replace R57 := R57.mono hl551
   replace R78 := R78.mono hl551
   refine Cod.at hok hsym (.seq (.sr (.ks 2 r (.len un31 r r r r (.ks 1 r (.nilS [20, 6, 5, 4, 3, 2, 1] r r (.condP r hd (fun hb555 hd => ?_) fun hb555 hd => ?_)))))))
   · refine .skipS [6, 5, 4, 3, 2, 1] r r (.seq (.block (.sr (.ks 2 r ?_))))
     obtain ⟨h565, x566, hx567, hd⟩ := hd
     obtain ⟨b568, o569, cs570, e571, hC572, hr573⟩ := R78.2 _ _ hx567
     cases hr573
     refine .ixa un31 sz78 r e571 r h565 (idx_lt hx567 h565) r r (.fa un78 r sz3 r (o := o569 + s548.toNat * 3 + 1) r r r (.ld1 (j := 1) ia3 hC572 r r r r r (.ks 2 r (.nilS [29, 6, 5, 4, 3, 2, 1] r r (.condP r hd (fun hb574 hd => ?_) fun hb574 hd => ?_)))))
     · refine .ownF (.s (.s .z)) fun hne575 => ?_
       refine .dr [0, 1, 2, 3, 4, 5, 6, 7, 8, 9, 10, 11, 12, 13, 14] 15 (.fk 4 r ?_)
       obtain ⟨h576, x577, hx578, hd⟩ := hd
       obtain ⟨b579, o580, cs581, e582, hC583, hr584⟩ := R78.2 _ _ hx578
       cases hr584
       refine .g r r r (fun _ => .ixa un31 sz78 r e582 r h576 (idx_lt hx578 h576) r r .mk) (.g r r r (fun _ => .fa un78 r sz3 r (o := o580 + s548.toNat * 3) r r r .mk) (.g r r r (fun _ => .ld1 (j := 0) ia3 hC583 r r r r r .mk) (.fk 2 r ?_)))
       obtain ⟨h585, x586, hx587, hd⟩ := hd
       obtain ⟨b588, o589, cs590, e591, hC592, hr593⟩ := R78.2 _ _ hx587
       cases hr593
       refine .g r r r (fun _ => .ixa un31 sz78 r e591 r h585 (idx_lt hx587 h585) r r .mk) (.g r r r (fun _ => .fa un78 r sz2 r (o := o589 + s548.toNat * 3 + 2) r r r .mk) (.g r r r (fun _ => .ld1 (j := 2) ia2 hC592 r r r r r .mk) (.g r r r (fun _ => .build zv78 un78 BI78 (.c r r r (.t .nil) (.c r r r (.s (.t .nil)) (.c r r r (.s (.s (.t .nil))) .n))) (by exact ⟨⟨_, _, r, r, r⟩, ⟨⟨_, _, r, r, r⟩, ⟨⟨_, _, r, r, r⟩, trivial⟩⟩⟩) r r .mk) (.ww r fun ex => ?_))))
       refine .buildSlice 1 un31 sz78 zv78 r r (.c r r r .n) r r fun b594 => ?_
       refine .so 4 r r r (.ck 1 r r trivial) (.ww r fun ex => ?_)
       obtain ⟨hl596, hd⟩ := hd
       refine .append (ys := [({ Row := s429, Col := x577.Row, Val := x586.Val } : Triple)]) 24 (.s (.s (.s .z))) un31 un31 IN78 r r r r r r r r r (.box .z (.one r) r) hl596 r r fun p597 c598 => ?_
       exact .so 4 r r r trivial (.e2 15 (.ks 1 r (.nilS [4, 6, 5, 3, 2, 1] r r (.drop (.s .z) (.region (.ks 3 r (.nil' fun c w ho hs => ⟨((s544 ++ ([({ Row := s429, Col := x577.Row, Val := x586.Val } : Triple)])), w64 (s548 + 1)), hd, I550, _, _, hl551, ho.sub ⟨r, r, r, r, r, r, trivial⟩, hs.pick (.c (.s .z) (.c (.s .z) (.c .z .n)))⟩)))))))
     exact .skipS [6, 5, 4, 3, 2, 1] r r (.region (.ks 3 r (.nil' fun c w ho hs => ⟨(s544, w64 (s548 + 1)), hd, I550, _, _, hl551, ho.sub ⟨r, r, r, r, r, r, trivial⟩, hs.pick (.c .z (.c .z (.c .z .n)))⟩)))
   exact .exitS [5, 4, 3, 2, 1] r r (.region (.ks 3 r (.nil' fun c w ho hs => ⟨(s544, w64 (s429 + 1)), hd, I550, _, _, le553, ho.sub ⟨r, r, r, r, r, trivial⟩, hs.pick (.c .z (.c .z (.c .z .n)))⟩)))
 refine .exitS [4, 2, 1] r r (.sr (.fa un39 r sz3 r (o := 1) r r r (.load1 ia3 r .z r r r (.fa un39 r sz3 r (o := 0) r r r (.load1 ia3 r .z r r r (.ks 1 r (.pub (.s (.s .z)) fun I600 hl601 R602 => ?_)))))))
 have le603 := IH.le.trans le434 hl601
 have le604 := IH.le.trans hl433 hl601
 replace R51 := R51.mono hl601
 replace R54 := R54.mono hl601
 replace R57 := R57.mono hl601
 have hw620 := W_ref07_built (I := I600) R602 hd
 refine .call call68 r hw620 r r fun v609 I606 hl607 hv608 => ?_
 obtain ⟨r605, p611, c612, p614, c615, p617, c618, rfl, R613, R616, R619, hd⟩ := hv608
 have le621 := IH.le.trans le603 hl607
 have le622 := IH.le.trans le604 hl607
 replace R51 := R51.mono hl607
 replace R54 := R54.mono hl607
 replace R57 := R57.mono hl607
 replace R602 := R602.mono hl607
 exact .storeA sz39 r r (.s .z) (.t (.t (.t (.t (.t .nil))))) r r (.nilS [2] r r (.drop .z (.ret (pret results42 (.w ia39 sz39 r .z r .n) le621 ⟨r605, _, _, _, _, _, _, r, R613, R616, R619, hd⟩))))

theorem W_ref07_Row {I : IH} {a0 : Rows} {a1 : Int} {p1 : Option Addr} {c2 : Nat} {p4 : Option Addr} {c5 : Nat} {p7 : Option Addr} {c8 : Nat} {Q : (List Item) → Prop} (R3 : RepSl eI64 I p1 c2 a0.Start) (R6 : RepSl eI64 I p4 c5 a0.Col) (R9 : RepSl eI64 I p7 c8 a0.Val) (hd : ref07_Row a0 a1 Q) :
  PFun prog 43 [.agg #[.int .i64 a0.Rows, .int .i64 a0.Cols, .slice p1 a0.Start.length c2, .slice p4 a0.Col.length c5, .slice p7 a0.Val.length c8], .int .i64 a1] I (o11_ Q) := by
 refine Fun.enter func43 r ntmps43 r (.c (.c .n)) fun w0 M => ?_
 refine .sr (.boxA r r r fun b15 => ?_)
 refine .ks 1 r (.nilS [2, 1] r r (.sr (.loadW ia39 sz39 r .z r r r ?_)))
 have hw48 := W_ref07_Sure (I := I) R3 R6 R9 hd
 refine .call call44 r hw48 r r fun v37 I34 hl35 hv36 => ?_
 obtain ⟨r33, p39, c40, p42, c43, p45, c46, rfl, R41, R44, R47, hd⟩ := hv36
 replace R3 := R3.mono hl35
 replace R6 := R6.mono hl35
 replace R9 := R9.mono hl35
 refine .storeA sz39 r r .z (.t (.t (.t (.t (.t .nil))))) r r (.nilS [2, 1] r r (.sr (.ks 1 r (.nilS [5, 2, 1] r r (.seq (.sr (.ks 3 r ?_)))))))
 refine splitP hd (fun hb51 hd => ?_) fun hb51 hd => ?_
 · rw [hb51]
   exact .ks 5 r (.nilS [16, 5, 2, 1] r r (.condKT r r (.sr (.ks 2 r (.nilS [4] r r (.drop .z (.ret (pret results43 (.t r .n) hl35 ⟨([] : List Item), _, _, r, (.nil _ _ _), hd⟩))))))))
 rw [hb51]
 refine .ks 1 r (.gyes r r r (.fa un39 r sz3 r (o := 0) r r r (.gyes r r r (.load1 ia3 r .z r r r (.ks 2 r (.nilS [16, 5, 2, 1] r r (.condP r hd (fun hb52 hd => ?_) fun hb52 hd => ?_)))))))
 · exact .sr (.ks 2 r (.nilS [4] r r (.drop .z (.ret (pret results43 (.t r .n) hl35 ⟨([] : List Item), _, _, r, (.nil _ _ _), hd⟩)))))
 refine .skipS [5, 2, 1] r r (.seq (.sr (.fa un39 r sz36 r (o := 2) r r r (.load1 ia36 r .z r r r (.ks 1 r ?_)))))
 obtain ⟨h62, x63, hx64, hd⟩ := hd
 obtain ⟨b65, o66, cs67, e68, hC69, hr70⟩ := R41.2 _ _ hx64
 cases hr70
 refine .ixa un36 sz3 r e68 r h62 (idx_lt hx64 h62) r r (.ld1 (j := 0) ia3 hC69 r r r r r (.ks 1 r (.nilS [6, 5, 2, 1] r r (.block (.own0 eItem 80 (.loop hd (fun (s : (List Item) × Int) c w => match s with | (s176, s180) => ∃ I_ p177 c178, IH.le I34 I_ ∧ Ok ⟨48, [], none⟩ [(1, .int .i64 a1), (2, .pointer (some ⟨b15, 0, none⟩)), (5, .slice p177 s176.length c178), (6, .int .i64 s180)] c ∧ Sym w0 M I I_ [pto b15 (.cells #[.int .i64 r33.Rows, .int .i64 r33.Cols, .slice p39 r33.Start.length c40, .slice p42 r33.Col.length c43, .slice p45 r33.Val.length c46] 39 (0, 0)), OwnSl eItem 80 p177 c178 s176] w) (fun c w ho hs => ⟨I34, _, _, (.refl _), ho.sub ⟨r, r, r, r, trivial⟩, hs.pick (.c (.s .z) (.c .z .n))⟩) ?_))))))
 rintro ⟨s176, s180⟩ next182 hd c w hst
 obtain ⟨I183, p177, c178, hl184, hok, hsym⟩ := hst
 have le185 := IH.le.trans hl35 hl184
 replace R41 := R41.mono hl184
 replace R44 := R44.mono hl184
 replace R47 := R47.mono hl184
 refine Cod.at hok hsym (.seq (.sr (.ks 1 r (.fa un39 r sz36 r (o := 2) r r r (.load1 ia36 r .z r r r (.ks 2 r ?_))))))
 obtain ⟨h196, x197, hx198, hd⟩ := hd
 obtain ⟨b199, o200, cs201, e202, hC203, hr204⟩ := R41.2 _ _ hx198
 cases hr204
 refine .ixa un36 sz3 r e202 r h196 (idx_lt hx198 h196) r r (.ld1 (j := 0) ia3 hC203 r r r r r (.ks 1 r (.nilS [30, 6, 5, 2, 1] r r (.condP r hd (fun hb205 hd => ?_) fun hb205 hd => ?_))))
 · refine .skipS [6, 5, 2, 1] r r (.seq (.block (.ownF (.s .z) fun hne206 => ?_)))
   refine .dr [0, 1, 2, 3, 4, 5, 6, 7, 8, 9, 10, 11, 12, 13] 14 (.fk 1 r (.g r r r (fun _ => .fa un39 r sz36 r (o := 3) r r r .mk) (.g r r r (fun _ => .load1 ia36 r .z r r r .mk) (.fk 1 r ?_))))
   obtain ⟨h207, x208, hx209, hd⟩ := hd
   obtain ⟨b210, o211, cs212, e213, hC214, hr215⟩ := R44.2 _ _ hx209
   cases hr215
   refine .g r r r (fun _ => .ixa un36 sz3 r e213 r h207 (idx_lt hx209 h207) r r .mk) (.g r r r (fun _ => .ld1 (j := 0) ia3 hC214 r r r r r .mk) (.g r r r (fun _ => .fa un39 r sz37 r (o := 4) r r r .mk) (.g r r r (fun _ => .load1 ia37 r .z r r r .mk) (.fk 1 r ?_))))
   obtain ⟨h216, x217, hx218, hd⟩ := hd
   obtain ⟨b219, o220, cs221, e222, hC223, hr224⟩ := R47.2 _ _ hx218
   cases hr224
   refine .g r r r (fun _ => .ixa un37 sz2 r e222 r h216 (idx_lt hx218 h216) r r .mk) (.g r r r (fun _ => .ld1 (j := 0) ia2 hC223 r r r r r .mk) (.g r r r (fun _ => .build zv80 un80 BI80 (.c r r r (.t .nil) (.c r r r (.s (.t .nil)) .n)) (by exact ⟨⟨_, _, r, r, r⟩, ⟨⟨_, _, r, r, r⟩, trivial⟩⟩) r r .mk) (.ww r fun ex => ?_)))
   refine .buildSlice 1 un32 sz80 zv80 r r (.c r r r .n) r r fun b225 => ?_
   refine .so 3 r r r (.ck 1 r r trivial) (.ww r fun ex => ?_)
   obtain ⟨hl227, hd⟩ := hd
   refine .append (ys := [({ At := x208, Val := x217 } : Item)]) 16 (.s (.s .z)) un32 un32 IN80 r r r r r r r r r (.box .z (.one r) r) hl227 r r fun p228 c229 => ?_
   exact .so 3 r r r trivial (.e2 14 (.ks 1 r (.nilS [5, 6, 2, 1] r r (.drop (.s .z) (.region (.ks 3 r (.nil' fun c w ho hs => ⟨((s176 ++ ([({ At := x208, Val := x217 } : Item)])), w64 (s180 + 1)), hd, I183, _, _, hl184, ho.sub ⟨r, r, r, r, trivial⟩, hs.pick (.c (.s .z) (.c .z .n))⟩)))))))
 refine .exitS [5] r r (.drop .z (.sr (.ks 2 r (.nilS [4] r r (.pub .z fun I231 hl232 R233 => ?_)))))
 have le234 := IH.le.trans le185 hl232
 have le235 := IH.le.trans hl184 hl232
 exact .ret (pret results43 (.t r .n) le234 ⟨s176, _, _, r, R233, hd⟩)

theorem W_ref08_Of {I : IH} {a0 : Rows} {p1 : Option Addr} {c2 : Nat} {p4 : Option Addr} {c5 : Nat} {p7 : Option Addr} {c8 : Nat} {Q : Columns → Prop} (R3 : RepSl eI64 I p1 c2 a0.Start) (R6 : RepSl eI64 I p4 c5 a0.Col) (R9 : RepSl eI64 I p7 c8 a0.Val) (hd : ref08_Of a0 Q) :
  PFun prog 16 [.agg #[.int .i64 a0.Rows, .int .i64 a0.Cols, .slice p1 a0.Start.length c2, .slice p4 a0.Col.length c5, .slice p7 a0.Val.length c8]] I (o12_ Q) := by
 refine Fun.enter func16 r ntmps16 r (.c .n) fun w0 M => ?_
 refine .sr (.boxA r r r fun b26 => ?_)
 refine .allocA zv50 r r fun b28 => ?_
 refine .nilS [2, 1] r r (.sr (.loadW ia39 sz39 r (.s .z) r r r ?_))
 have hw63 := W_ref07_Turn (I := I) R3 R6 R9 hd
 refine .call call42 r hw63 r r fun v52 I49 hl50 hv51 => ?_
 obtain ⟨r48, p54, c55, p57, c58, p60, c61, rfl, R56, R59, R62, hd⟩ := hv51
 replace R3 := R3.mono hl50
 replace R6 := R6.mono hl50
 replace R9 := R9.mono hl50
 refine .allocA zv39 r r fun b64 => ?_
 refine .storeA sz39 r r .z (.t (.t (.t (.t (.t .nil))))) r r (.nilS [3, 2] r r (.drop (.s (.s .z)) (.sr (.fa un39 r sz3 r (o := 1) r r r (.load1 ia3 r .z r r r (.fa un39 r sz3 r (o := 0) r r r (.load1 ia3 r .z r r r (.buildSlice 1 un36 sz3 zv3 r r (.c r r r .n) r r fun b71 => ?_))))))))
 refine .ownB (El := eI64) (ys := ([0] : List Int)) .z (.one r) r (.build zv50 un50 BI50 (.c r r r (.t .nil) (.c r r r (.s (.t .nil)) (.c r r r (.s (.s (.s (.t .nil)))) .n))) (by exact ⟨⟨_, _, r, r, r⟩, ⟨⟨_, _, r, r, r⟩, ⟨⟨_, _, r, r, r⟩, trivial⟩⟩⟩) r r (.allocA zv50 r r fun b74 => ?_))
 refine .storeA sz50 r r .z (.t (.t (.t (.t (.t (.t .nil)))))) r r (.nilS [4, 3, 2] r r (.seq (.sr (.ks 1 r (.nilS [5, 4, 3, 2] r r (.block (.own0 eI64 3 (.own0 eI64 3 (.own0 eI64 2 ?_)))))))))
 refine .loop hd (fun (s : (List Int) × (List Int) × (List Int) × (List Int) × Int) c w => match s with | (s644, s648, s652, s656, s660) => ∃ I_ p645 c646 p649 c650 p653 c654 p657 c658, IH.le I49 I_ ∧ Ok ⟨69, [], none⟩ [(2, .pointer (some ⟨b28, 0, none⟩)), (3, .pointer (some ⟨b64, 0, none⟩)), (4, .pointer (some ⟨b74, 0, none⟩)), (5, .int .i64 s660)] c ∧ Sym w0 M I I_ [pto b28 (.cells #[.int .i64 0, .int .i64 0, .slice none 0 0, .slice none 0 0, .slice none 0 0, .slice none 0 0] 50 (0, 0)), pto b64 (.cells #[.int .i64 r48.Rows, .int .i64 r48.Cols, .slice p54 r48.Start.length c55, .slice p57 r48.Col.length c58, .slice p60 r48.Val.length c61] 39 (0, 0)), pto b74 (.cells #[.int .i64 r48.Cols, .int .i64 r48.Rows, .slice p645 s644.length c646, .slice p649 s648.length c650, .slice p653 s652.length c654, .slice p657 s656.length c658] 50 (0, 0)), OwnSl eI64 3 p645 c646 s644, OwnSl eI64 3 p649 c650 s648, OwnSl eI64 3 p653 c654 s652, OwnSl eI64 2 p657 c658 s656] w) (fun c w ho hs => ⟨I49, _, _, _, _, _, _, _, _, (.refl _), ho.sub ⟨r, r, r, r, trivial⟩, hs.pick (.c (.s (.s (.s (.s (.s (.s .z)))))) (.c (.s (.s (.s (.s (.s .z))))) (.c (.s (.s (.s .z))) (.c (.s (.s .z)) (.c (.s (.s .z)) (.c (.s .z) (.c .z .n)))))))⟩) ?_
 rintro ⟨s644, s648, s652, s656, s660⟩ next664 hd c w hst
 obtain ⟨I665, p645, c646, p649, c650, p653, c654, p657, c658, hl666, hok, hsym⟩ := hst
 have le667 := IH.le.trans hl50 hl666
 replace R56 := R56.mono hl666
 replace R59 := R59.mono hl666
 replace R62 := R62.mono hl666
 refine Cod.at hok hsym (.seq (.sr (.ks 1 r (.fa un39 r sz3 r (o := 0) r r r (.load1 ia3 r (.s .z) r r r (.ks 1 r (.nilS [19, 5, 4, 3, 2] r r (.condP r hd (fun hb669 hd => ?_) fun hb669 hd => ?_))))))))
 · refine .skipS [5, 4, 3, 2] r r (.seq (.block (.sr (.loadW ia39 sz39 r (.s .z) r r r (.ks 1 r ?_)))))
   have hw691 := W_ref07_Row (I := I665) R56 R59 R62 hd
   refine .call call43 r hw691 r r fun v686 I683 hl684 hv685 => ?_
   obtain ⟨r682, p688, c689, rfl, R690, hd⟩ := hv685
   have le692 := IH.le.trans le667 hl684
   have le693 := IH.le.trans hl666 hl684
   replace R56 := R56.mono hl684
   replace R59 := R59.mono hl684
   replace R62 := R62.mono hl684
   refine .ks 1 r (.nilS [6, 5, 4, 3, 2] r r (.seq (.sr (.ks 1 r (.len un32 r r r r (.ks 1 r (.nilS [27, 6, 5, 4, 3, 2] r r (.condP r hd (fun hb695 hd => ?_) fun hb695 hd => ?_))))))))
   · exact .exitS [5, 4, 3, 2] r r (.region (.ks 3 r (.nil' fun c w ho hs => ⟨(s644, s648, s652, s656, w64 (s660 + 1)), hd, I683, _, _, _, _, _, _, _, _, le693, ho.sub ⟨r, r, r, r, trivial⟩, hs.pick (.c .z (.c .z (.c .z (.c .z (.c .z (.c .z (.c .z .n)))))))⟩)))
   refine .skipS [6, 5, 4, 3, 2] r r (.sr (.fa un50 r sz36 r (o := 2) r r r (.load1 ia36 r (.s (.s .z)) r r r (.ks 1 r (.buildSlice 1 un36 sz3 zv3 r r (.c r r r .n) r r fun b702 => ?_)))))
   obtain ⟨hl704, hd⟩ := hd
   refine .append (ys := [s660]) 8 (.s (.s (.s (.s .z)))) un36 un36 IN3 r r r r r r r r r (.box .z (.one r) r) hl704 r r fun p705 c706 => ?_
   refine .fa un50 r sz36 r (o := 2) r r r (.store1 sz36 r r (.s (.s (.s (.s .z)))) (.s (.s (.t .nil))) r (.nilS [6, 5, 4, 3, 2] r r (.drop (.s .z) (.seq (.sr (.ks 1 r (.nilS [7, 6, 5, 4, 3, 2] r r (.block (.loop hd (fun (s : (List Int) × (List Int) × Int) c w => match s with | (s853, s857, s861) => ∃ I_ p854 c855 p858 c859, IH.le I683 I_ ∧ Ok ⟨69, [], none⟩ [(2, .pointer (some ⟨b28, 0, none⟩)), (3, .pointer (some ⟨b64, 0, none⟩)), (4, .pointer (some ⟨b74, 0, none⟩)), (5, .int .i64 s660), (6, .slice p688 r682.length c689), (7, .int .i64 s861)] c ∧ Sym w0 M I I_ [pto b28 (.cells #[.int .i64 0, .int .i64 0, .slice none 0 0, .slice none 0 0, .slice none 0 0, .slice none 0 0] 50 (0, 0)), pto b64 (.cells #[.int .i64 r48.Rows, .int .i64 r48.Cols, .slice p54 r48.Start.length c55, .slice p57 r48.Col.length c58, .slice p60 r48.Val.length c61] 39 (0, 0)), pto b74 (.cells #[.int .i64 r48.Cols, .int .i64 r48.Rows, .slice p705 (s644 ++ ([s660])).length c706, .slice p649 s648.length c650, .slice p854 s853.length c855, .slice p858 s857.length c859] 50 (0, 0)), OwnSl eI64 3 p705 c706 (s644 ++ ([s660])), OwnSl eI64 3 p649 c650 s648, OwnSl eI64 3 p854 c855 s853, OwnSl eI64 2 p858 c859 s857] w) (fun c w ho hs => ⟨I683, _, _, _, _, (.refl _), ho.sub ⟨r, r, r, r, r, r, trivial⟩, hs.pick (.c (.s .z) (.c (.s .z) (.c (.s .z) (.c .z (.c .z (.c .z (.c .z .n)))))))⟩) ?_)))))))))
   rintro ⟨s853, s857, s861⟩ next862 hd c w hst
   obtain ⟨I863, p854, c855, p858, c859, hl864, hok, hsym⟩ := hst
   have le865 := IH.le.trans le692 hl864
   have le866 := IH.le.trans le693 hl864
   replace R56 := R56.mono hl864
   replace R59 := R59.mono hl864
   replace R62 := R62.mono hl864
   replace R690 := R690.mono hl864
   refine Cod.at hok hsym (.seq (.sr (.ks 2 r (.len un32 r r r r (.ks 1 r (.nilS [37, 7, 6, 5, 4, 3, 2] r r (.condP r hd (fun hb868 hd => ?_) fun hb868 hd => ?_)))))))
   · refine .skipS [7, 6, 5, 4, 3, 2] r r (.seq (.block (.seq (.ownF (.s (.s (.s .z))) fun hne888 => ?_))))
     refine .ownF (.s (.s (.s (.s .z)))) fun hne889 => ?_
     refine .ownF (.s (.s (.s (.s (.s .z))))) fun hne890 => ?_
     refine .ownF (.s (.s (.s (.s (.s (.s .z)))))) fun hne891 => ?_
     refine .dr [0, 1, 2, 3, 4, 5, 6, 7, 8] 9 (.g r r r (fun _ => .fa un50 r sz36 r (o := 4) r r r .mk) (.g r r r (fun _ => .load1 ia36 r (.s (.s .z)) r r r .mk) (.fk 2 r ?_)))
     obtain ⟨h892, x893, hx894, hd⟩ := hd
     obtain ⟨b895, o896, cs897, e898, hC899, hr900⟩ := R690.2 _ _ hx894
     cases hr900
     refine .g r r r (fun _ => .ixa un32 sz80 r e898 r h892 (idx_lt hx894 h892) r r .mk) (.g r r r (fun _ => .fa un80 r sz3 r (o := o896 + s861.toNat * 2) r r r .mk) (.g r r r (fun _ => .ld1 (j := 0) ia3 hC899 r r r r r .mk) (.ww r fun ex => ?_)))
     refine .buildSlice 1 un36 sz3 zv3 r r (.c r r r .n) r r fun b901 => ?_
     refine .so 8 r r r (.cg r r r r (fun _ => .load1 ia36 r (.s (.s (.s .z))) r r r .mk) (.cg r r r r (fun _ => .fa un50 r sz36 r (o := 4) r r r .mk) trivial)) (.ww r fun ex => ?_)
     obtain ⟨hl903, hd⟩ := hd
     refine .append (ys := [x893.At]) 8 (.s (.s (.s (.s (.s (.s .z)))))) un36 un36 IN3 r r r r r r r r r (.box .z (.one r) r) hl903 r r fun p904 c905 => ?_
     refine .so 8 r r r trivial (.e2 9 (.fa un50 r sz36 r (o := 4) r r r (.store1 sz36 r r (.s (.s (.s (.s .z)))) (.s (.s (.s (.s (.t .nil))))) r (.nilS [7, 6, 5, 4, 3, 2] r r (.drop (.s .z) (.ownF .z fun hne907 => ?_))))))
     refine .ownF (.s (.s (.s (.s .z)))) fun hne908 => ?_
     refine .ownF (.s (.s (.s (.s (.s .z))))) fun hne909 => ?_
     refine .ownF (.s (.s (.s (.s (.s (.s .z)))))) fun hne910 => ?_
     refine .dr [0, 1, 2, 3, 4, 5, 6, 7, 8] 9 (.g r r r (fun _ => .fa un50 r sz37 r (o := 5) r r r .mk) (.g r r r (fun _ => .load1 ia37 r (.s (.s (.s .z))) r r r .mk) (.fk 2 r ?_)))
     obtain ⟨h911, x912, hx913, hd⟩ := hd
     obtain ⟨b914, o915, cs916, e917, hC918, hr919⟩ := R690.2 _ _ hx913
     cases hr919
     refine .g r r r (fun _ => .ixa un32 sz80 r e917 r h911 (idx_lt hx913 h911) r r .mk) (.g r r r (fun _ => .fa un80 r sz2 r (o := o915 + s861.toNat * 2 + 1) r r r .mk) (.g r r r (fun _ => .ld1 (j := 1) ia2 hC918 r r r r r .mk) (.ww r fun ex => ?_)))
     refine .buildSlice 1 un37 sz2 zeroValue2 r r (.c r r r .n) r r fun b920 => ?_
     refine .so 8 r r r (.cg r r r r (fun _ => .load1 ia37 r (.s (.s (.s (.s .z)))) r r r .mk) (.cg r r r r (fun _ => .fa un50 r sz37 r (o := 5) r r r .mk) trivial)) (.ww r fun ex => ?_)
     obtain ⟨hl922, hd⟩ := hd
     refine .append (ys := [x912.Val]) 8 (.s (.s (.s (.s (.s (.s (.s .z))))))) un37 un37 IN2 r r r r r r r r r (.box .z (.one r) r) hl922 r r fun p923 c924 => ?_
     exact .so 8 r r r trivial (.e2 9 (.fa un50 r sz37 r (o := 5) r r r (.store1 sz37 r r (.s (.s (.s (.s (.s .z))))) (.s (.s (.s (.s (.s (.t .nil)))))) r (.nilS [7, 6, 5, 4, 3, 2] r r (.drop (.s .z) (.region (.ks 3 r (.nil' fun c w ho hs => ⟨((s853 ++ ([x893.At])), (s857 ++ ([x912.Val])), w64 (s861 + 1)), hd, I863, _, _, _, _, hl864, ho.sub ⟨r, r, r, r, r, r, trivial⟩, hs.pick (.c (.s (.s .z)) (.c (.s (.s .z)) (.c (.s (.s .z)) (.c (.s (.s .z)) (.c (.s (.s .z)) (.c (.s .z) (.c .z .n)))))))⟩))))))))
   refine .exitS [5, 4, 3, 2] r r (.region (.fa un50 r sz36 r (o := 3) r r r (.load1 ia36 r (.s (.s .z)) r r r (.fa un50 r sz36 r (o := 4) r r r (.load1 ia36 r (.s (.s .z)) r r r (.len un36 r r r r (.buildSlice 1 un36 sz3 zv3 r r (.c r r r .n) r r fun b926 => ?_)))))))
   obtain ⟨hl928, hd⟩ := hd
   refine .append (ys := [(s853.length : Int)]) 8 (.s (.s (.s (.s (.s .z))))) un36 un36 IN3 r r r r r r r r r (.box .z (.one r) r) hl928 r r fun p929 c930 => ?_
   exact .fa un50 r sz36 r (o := 3) r r r (.store1 sz36 r r (.s (.s (.s (.s .z)))) (.s (.s (.s (.t .nil)))) r (.nilS [5, 4, 3, 2] r r (.drop (.s .z) (.region (.ks 3 r (.nil' fun c w ho hs => ⟨((s644 ++ ([s660])), (s648 ++ ([(s853.length : Int)])), s853, s857, w64 (s660 + 1)), hd, I863, _, _, _, _, _, _, _, _, le866, ho.sub ⟨r, r, r, r, trivial⟩, hs.pick (.c (.s .z) (.c (.s .z) (.c (.s .z) (.c (.s .z) (.c .z (.c .z (.c .z .n)))))))⟩))))))
 refine .exitS [4, 2] r r (.drop (.s .z) (.sr (.loadW ia50 sz50 r (.s .z) r r r (.storeA sz50 r r .z (.t (.t (.t (.t (.t (.t .nil)))))) r r (.nilS [2] r r (.drop (.s .z) (.pub (.s .z) fun I932 hl933 R934 => ?_)))))))
 have le935 := IH.le.trans le667 hl933
 have le936 := IH.le.trans hl666 hl933
 refine .pub (.s .z) fun I937 hl938 R939 => ?_
 have le940 := IH.le.trans le935 hl938
 have le941 := IH.le.trans le936 hl938
 replace R934 := R934.mono hl938
 refine .pub (.s .z) fun I942 hl943 R944 => ?_
 have le945 := IH.le.trans le940 hl943
 have le946 := IH.le.trans le941 hl943
 replace R934 := R934.mono hl943
 replace R939 := R939.mono hl943
 refine .pub (.s .z) fun I947 hl948 R949 => ?_
 have le950 := IH.le.trans le945 hl948
 have le951 := IH.le.trans le946 hl948
 replace R934 := R934.mono hl948
 replace R939 := R939.mono hl948
 replace R944 := R944.mono hl948
 exact .ret (pret results16 (.w ia50 sz50 r .z r .n) le950 ⟨({ Rows := r48.Cols, Cols := r48.Rows, At := s644, Start := s648, Row := s652, Val := s656 } : Columns), _, _, _, _, _, _, _, _, r, R934, R939, R944, R949, hd⟩)

theorem W_flags_Of {I : IH} {a0 : Int} {a1 : List Int} {p1 : Option Addr} {c2 : Nat} {Q : (List Int) → Prop} (R3 : RepSl eI64 I p1 c2 a1) (hd : flags_Of a0 a1 Q) :
  PFun prog 91 [.int .i64 a0, .slice p1 a1.length c2] I (o13_ Q) := by
 refine Fun.enter func91 r ntmps91 r (.c (.c .n)) fun w0 M => ?_
 refine .sr (.ks 1 r (.nilS [1, 0] r r (.sr (.ks 1 r ?_))))
 have hw28 := W_flags_New (I := I) hd
 refine .callO call121 r hw28 r r fun v22 I19 l23 hl20 hv21 => ?_
 obtain ⟨r18, p24, c25, rfl, rfl, hd⟩ := hv21
 replace R3 := R3.mono hl20
 refine .ks 1 r (.nilS [5, 1, 0] r r (.seq (.sr (.ks 1 r (.len un36 r r r r (.ks 1 r (.nilS [12, 11, 10, 5, 0] r r (.block (.loop hd (fun (s : (List Int) × Int) c w => match s with | (s152, s156) => ∃ I_ p153 c154, IH.le I19 I_ ∧ Ok ⟨35, [], none⟩ [(0, .int .i64 a0), (5, .slice p153 s152.length c154), (10, .slice p1 a1.length c2), (11, .int .i64 (a1.length : Int)), (12, .int .i64 s156)] c ∧ Sym w0 M I I_ [OwnSl eU64 81 p153 c154 s152] w) (fun c w ho hs => ⟨I19, _, _, (.refl _), ho.sub ⟨r, r, r, r, r, trivial⟩, hs.pick (.c .z .n)⟩) ?_)))))))))
 rintro ⟨s152, s156⟩ next157 hd c w hst
 obtain ⟨I158, p153, c154, hl159, hok, hsym⟩ := hst
 have le160 := IH.le.trans hl20 hl159
 replace R3 := R3.mono hl159
 refine Cod.at hok hsym (.sr (.ks 1 r (.nilS [13, 12, 11, 10, 5, 0] r r (.seq (.condP r hd (fun hb162 hd => ?_) fun hb162 hd => ?_)))))
 · refine .skipS [12, 11, 10, 5, 0] r r (.seq (.block (.sr ?_)))
   obtain ⟨h172, x173, hx174, hd⟩ := hd
   obtain ⟨b175, o176, cs177, e178, hC179, hr180⟩ := R3.2 _ _ hx174
   cases hr180
   refine .ixa un36 sz3 r e178 r h172 (idx_lt hx174 h172) r r (.ld1 (j := 0) ia3 hC179 r r r r r (.ks 1 r (.nilS [7, 12, 11, 10, 5, 0] r r (.seq ?_))))
   refine Cod.joinQ (σ := Bool) hd (fun (s191 : Bool) c w => ∃ I_, IH.le I158 I_ ∧ Ok ⟨35, [], none⟩ [(0, .int .i64 a0), (5, .slice p153 s152.length c154), (7, .int .i64 x173), (10, .slice p1 a1.length c2), (11, .int .i64 (a1.length : Int)), (12, .int .i64 s156), (23, .bool s191)] c ∧ Sym w0 M I I_ [OwnSl eU64 81 p153 c154 s152] w) (fun k192 hd => ?_) ?_
   · skip
     refine .region (.ks 4 r ?_)
     refine splitP hd (fun hb193 hd => ?_) fun hb193 hd => ?_
     · rw [hb193]
       refine .ks 2 r ?_
       have hw195 := fun (J : IH) (hJ : IH.le I158 J) (hL : lentAll J [OwnSl eU64 81 p153 c154 s152]) => W_flags_within (I := J) (lent hL.1) hd
       refine .gyes r r r (.callB (.f call122 r) (.c .z .n) hw195 r r fun v196 _ hv197 => ?_)
       obtain ⟨r194, rfl, hd⟩ := hv197
       exact .ks 1 r (.nil' fun c w ho hs => ⟨r194, hd, I158, (.refl _), ho.sub ⟨r, r, r, r, r, r, r, trivial⟩, hs.pick (.c .z .n)⟩)
     rw [hb193]
     exact .ks 4 r (.nil' fun c w ho hs => ⟨false, hd, I158, (.refl _), ho.sub ⟨r, r, r, r, r, r, r, trivial⟩, hs.pick (.c .z .n)⟩)
   rintro s191 hd c w hst
   obtain ⟨I198, hl199, hok, hsym⟩ := hst
   have le200 := IH.le.trans le160 hl199
   have le201 := IH.le.trans hl159 hl199
   replace R3 := R3.mono hl199
   refine Cod.at hok hsym (.condP r hd (fun hb202 hd => ?_) fun hb202 hd => ?_)
   · refine .ownF .z fun hne203 => ?_
     refine .dr [0, 1, 2, 3, 4, 5, 6, 7] 8 (.fk 2 r (.g r r r (fun _ => .shr' r r (by decide) r r .mk) ?_))
     obtain ⟨h204, x205, hx206, hd⟩ := hd
     obtain ⟨b207, e208⟩ := hne203 (idx_ne hx206)
     cases e208
     refine .g r r r (fun _ => .ixa0 un33 sz81 r r h204 (idx_lt hx206 h204) r r .mk) (.g r r r (fun _ => .lo1 (j := 0) ia81 .z hx206 r r r r r .mk) (.fk 1 r (.ww r fun ex => ?_)))
     have hw210 := W_flags_bit (I := I198) hd
     refine .callP call123 r hw210 r r fun v211 hv212 => ?_
     obtain ⟨r209, rfl, hd⟩ := hv212
     refine .so 1 r r r (.cg r r r r (fun _ => .lo1 (j := 0) ia81 .z hx206 r r r r r .mk) (.cg r r r r (fun _ => .ixa0 un33 sz81 r r h204 (idx_lt hx206 h204) r r .mk) (.cg r r r r (fun _ => .shr' r r (by decide) r r .mk) (.ck 2 r r trivial)))) (.fk 1 r (.e2 8 ?_))
     obtain ⟨h213, x214, hx215, hd⟩ := hd
     exact .ixa0 un33 sz81 r r h213 (idx_lt hx215 h213) r r (.stO1 (j := 0) (v' := (bor .u64 x205 r209)) sz81 .z hx215 r r r (.t .nil) r (.sub (E' := [(0, _), (5, .slice (some ⟨b207, 0, none⟩) (s152.set ((shr .i64 x173 6).toNat) (bor .u64 x205 r209)).length c154), (7, _), (10, _), (11, _), (12, _), (23, _), (24, .slice (some ⟨b207, 0, none⟩) (s152.set ((shr .i64 x173 6).toNat) (bor .u64 x205 r209)).length c154), (25, _), (26, _), (27, _), (28, _), (29, _), (30, _), (31, _), (32, _)]) ⟨r, (by simp only [List.length_set]; rfl), r, r, r, r, r, (by simp only [List.length_set]; rfl), r, r, r, r, r, r, r, r, trivial⟩ (.nilS [12, 11, 10, 5, 0] r r (.region (.ks 2 r (.nil' fun c w ho hs => ⟨((s152.set ((shr .i64 x173 6).toNat) (bor .u64 x205 r209)), w64 (s156 + 1)), hd, I198, _, _, le201, ho.sub ⟨r, r, r, r, r, trivial⟩, hs.pick (.c .z .n)⟩))))))
   exact .skipS [12, 11, 10, 5, 0] r r (.region (.ks 2 r (.nil' fun c w ho hs => ⟨(s152, w64 (s156 + 1)), hd, I198, _, _, le201, ho.sub ⟨r, r, r, r, r, trivial⟩, hs.pick (.c .z .n)⟩)))
 refine .exitS [5] r r (.sr (.ks 2 r (.nilS [4] r r (.pub .z fun I216 hl217 R218 => ?_))))
 have le219 := IH.le.trans le160 hl217
 have le220 := IH.le.trans hl159 hl217
 exact .ret (pret results91 (.t r .n) le219 ⟨s152, _, _, r, R218, hd⟩)

theorem W_devec_Of {I : IH} {a0 : Vec} {p1 : Option Addr} {c2 : Nat} {Q : Dense → Prop} (R3 : RepSl eItem I p1 c2 a0.Items) (hd : devec_Of a0 Q) :
  PFun prog 55 [.agg #[.int .i64 a0.N, .slice p1 a0.Items.length c2]] I (o14_ Q) := by
 refine Fun.enter func55 r ntmps55 r (.c .n) fun w0 M => ?_
 refine .sr (.boxA r r r fun b14 => ?_)
 refine .allocA zv53 r r fun b16 => ?_
 refine .nilS [2, 1] r r (.seq (.sr (.loadW ia42 sz42 r (.s .z) r r r ?_)))
 have hw38 := W_spvec_Right (I := I) R3 hd
 refine .callP call54 r hw38 r r fun v39 hv40 => ?_
 obtain ⟨r37, rfl, hd⟩ := hv40
 refine .ks 1 r (.nilS [8, 2, 1] r r (.condP r hd (fun hb41 hd => ?_) fun hb41 hd => ?_))
 · refine .sr ?_
   have hw55 := W_devec_New (I := I) hd
   refine .callO call90 r hw55 r r fun v46 I43 l47 hl44 hv45 => ?_
   obtain ⟨r42, p48, c49, p51, c52, rfl, R50, rfl, hd⟩ := hv45
   replace R3 := R3.mono hl44
   refine .storeA sz53 r r (.s .z) (.t (.t (.t .nil))) r r (.nilS [2] r r (.drop (.s (.s .z)) (.pub .z fun I56 hl57 R58 => ?_)))
   have le59 := IH.le.trans hl44 hl57
   replace R50 := R50.mono hl57
   exact .ret (pret results55 (.w ia53 sz53 r .z r .n) le59 ⟨r42, _, _, _, _, r, R50, R58, hd⟩)
 refine .skipS [2, 1] r r (.sr (.fa un42 r sz3 r (o := 0) r r r (.load1 ia3 r (.s .z) r r r ?_)))
 have hw89 := W_devec_New (I := I) hd
 refine .callO call90 r hw89 r r fun v80 I77 l81 hl78 hv79 => ?_
 obtain ⟨r76, p82, c83, p85, c86, rfl, R84, rfl, hd⟩ := hv79
 replace R3 := R3.mono hl78
 refine .allocA zv53 r r fun b90 => ?_
 refine .storeA sz53 r r .z (.t (.t (.t .nil))) r r (.nilS [3, 2, 1] r r (.seq (.sr (.fa un42 r sz32 r (o := 1) r r r (.load1 ia32 r (.s (.s (.s .z))) r r r (.len un32 r r r r (.ks 1 r (.nilS [16, 15, 14, 3, 2, 1] r r (.block ?_)))))))))
 refine .loop hd (fun (s : (List Int) × Int) c w => match s with | (s221, s225) => ∃ I_ p222 c223, IH.le I77 I_ ∧ Ok ⟨35, [], none⟩ [(1, .pointer (some ⟨b14, 0, none⟩)), (2, .pointer (some ⟨b16, 0, none⟩)), (3, .pointer (some ⟨b90, 0, none⟩)), (14, .slice p1 a0.Items.length c2), (15, .int .i64 (a0.Items.length : Int)), (16, .int .i64 s225)] c ∧ Sym w0 M I I_ [pto b14 (.cells #[.int .i64 a0.N, .slice p1 a0.Items.length c2] 42 (0, 0)), pto b16 (.cells #[.int .i64 0, .slice none 0 0, .slice none 0 0] 53 (0, 0)), pto b90 (.cells #[.int .i64 r76.N, .slice p82 r76.Has.length c83, .slice p222 s221.length c223] 53 (0, 0)), OwnSl eI64 2 p222 c223 s221] w) (fun c w ho hs => ⟨I77, _, _, (.refl _), ho.sub ⟨r, r, r, r, r, r, trivial⟩, hs.pick (.c (.s (.s (.s .z))) (.c (.s (.s .z)) (.c .z (.c .z .n))))⟩) ?_
 rintro ⟨s221, s225⟩ next226 hd c w hst
 obtain ⟨I227, p222, c223, hl228, hok, hsym⟩ := hst
 have le229 := IH.le.trans hl78 hl228
 replace R3 := R3.mono hl228
 replace R84 := R84.mono hl228
 refine Cod.at hok hsym (.sr (.ks 1 r (.nilS [17, 16, 15, 14, 3, 2, 1] r r (.seq (.condP r hd (fun hb231 hd => ?_) fun hb231 hd => ?_)))))
 · refine .skipS [16, 15, 14, 3, 2, 1] r r (.seq (.block (.sr ?_)))
   obtain ⟨h232, x233, hx234, hd⟩ := hd
   obtain ⟨b235, o236, cs237, e238, hC239, hr240⟩ := R3.2 _ _ hx234
   cases hr240
   refine .ixa un32 sz80 r e238 r h232 (idx_lt hx234 h232) r r (.ldW isAgg80 sz80 hC239 r r r r (.allocA zv80 r r fun b241 => ?_))
   refine .storeA sz80 r r .z (.t (.t .nil)) r r (.nilS [5, 16, 15, 14, 3, 2, 1] r r (.region (.fa un53 r sz37 r (o := 2) r r r (.load1 ia37 r (.s (.s (.s .z))) r r r (.fa un80 r sz3 r (o := 0) r r r (.load1 ia3 r .z r r r (.fa un80 r sz2 r (o := 1) r r r (.load1 ia2 r .z r r r ?_))))))))
   obtain ⟨h243, x244, hx245, hd⟩ := hd
   refine .ownNe (.s (.s (.s (.s .z)))) (idx_ne hx245) fun b246 e247 => ?_
   cases e247
   exact .ixa0 un37 sz2 r r h243 (idx_lt hx245 h243) r r (.stO1 (j := 0) (v' := x233.Val) sz2 (.s (.s (.s (.s .z)))) hx245 r r r (.t .nil) r (.sub (E' := [(1, _), (2, _), (3, _), (14, _), (15, _), (16, _), (5, _), (20, _), (21, .slice (some ⟨b246, 0, none⟩) (s221.set x233.At.toNat x233.Val).length c223), (22, _), (23, _), (24, _), (25, _), (26, _)]) ⟨r, r, r, r, r, r, r, r, (by simp only [List.length_set]; rfl), r, r, r, r, r, trivial⟩ (.reat (.s (.s (.s .z))) (B := pto b90 (.cells #[.int .i64 r76.N, .slice p82 r76.Has.length c83, .slice (some ⟨b246, 0, none⟩) (s221.set x233.At.toNat x233.Val).length c223] 53 (0, 0))) (by simp only [List.length_set]) (.nilS [16, 15, 14, 3, 2, 1] r r (.drop .z (.region (.ks 2 r (.nil' fun c w ho hs => ⟨((s221.set x233.At.toNat x233.Val), w64 (s225 + 1)), hd, I227, _, _, hl228, ho.sub ⟨r, r, r, r, r, r, trivial⟩, hs.pick (.c .z (.c .z (.c .z (.c .z .n))))⟩))))))))
 refine .exitS [3, 2, 1] r r (.seq (.dr [0, 1, 2, 3, 4] 5 (.g r r r (fun _ => .fa un42 r sz3 r (o := 0) r r r .mk) (.g r r r (fun _ => .load1 ia3 r .z r r r .mk) (.g r r r (fun _ => .loadW ia42 sz42 r .z r r r .mk) (.ww r fun ex => ?_))))))
 have hw257 := W_spvec_Places (I := I227) R3 hd
 refine .call call72 r hw257 r r fun v252 I249 hl250 hv251 => ?_
 obtain ⟨r248, p254, c255, rfl, R256, hd⟩ := hv251
 have le258 := IH.le.trans le229 hl250
 have le259 := IH.le.trans hl228 hl250
 replace R3 := R3.mono hl250
 replace R84 := R84.mono hl250
 refine .so 4 r r r (.cg r r r r (fun _ => .load1 ia3 r .z r r r .mk) (.cg r r r r (fun _ => .fa un42 r sz3 r (o := 0) r r r .mk) trivial)) (.ww r fun ex => ?_)
 have hw269 := W_flags_Of (I := I249) R256 hd
 refine .call call91 r hw269 r r fun v264 I261 hl262 hv263 => ?_
 obtain ⟨r260, p266, c267, rfl, R268, hd⟩ := hv263
 have le270 := IH.le.trans le258 hl262
 have le271 := IH.le.trans le259 hl262
 replace R3 := R3.mono hl262
 replace R84 := R84.mono hl262
 replace R256 := R256.mono hl262
 refine .so 4 r r r trivial (.e2 5 (.fa un53 r sz33 r (o := 1) r r r (.store1 sz33 r r (.s (.s .z)) (.s (.t .nil)) r (.nilS [3, 2] r r (.drop .z (.sr (.loadW ia53 sz53 r (.s .z) r r r (.storeA sz53 r r .z (.t (.t (.t .nil))) r r (.nilS [2] r r ?_)))))))))
 refine .drop (.s .z) (.pub (.s .z) fun I272 hl273 R274 => ?_)
 have le275 := IH.le.trans le270 hl273
 have le276 := IH.le.trans le271 hl273
 replace R268 := R268.mono hl273
 exact .ret (pret results55 (.w ia53 sz53 r .z r .n) le275 ⟨({ N := r76.N, Has := r260, Vals := s221 } : Dense), _, _, _, _, r, R268, R274, hd⟩)

theorem W_policy_Hold {I : IH} {a0 : Int} {a1 : Vec} {p1 : Option Addr} {c2 : Nat} {Q : Held → Prop} (R3 : RepSl eItem I p1 c2 a1.Items) (hd : policy_Hold a0 a1 Q) :
  PFun prog 21 [.int .i64 a0, .agg #[.int .i64 a1.N, .slice p1 a1.Items.length c2]] I (o15_ Q) := by
 refine Fun.enter func21 r ntmps21 r (.c (.c .n)) fun w0 M => ?_
 refine .sr (.boxA r r r fun b17 => ?_)
 refine .allocA zv55 r r fun b19 => ?_
 refine .nilS [4, 3, 0] r r (.seq ?_)
 refine Cod.joinQ (σ := Int × (List Item)) hd (fun (s : Int × (List Item)) c w => match s with | (s31, s32) => ∃ I_ p33 c34, IH.le I I_ ∧ RepSl eItem I_ p33 c34 s32 ∧ Ok ⟨27, [], none⟩ [(0, .int .i64 a0), (3, .pointer (some ⟨b17, 0, none⟩)), (4, .pointer (some ⟨b19, 0, none⟩))] c ∧ Sym w0 M I I_ [pto b17 (.cells #[.int .i64 s31, .slice p33 s32.length c34] 42 (0, 0)), pto b19 (.cells #[.int .i64 0, .int .i64 0, .slice none 0 0, .int .i64 0, .slice none 0 0, .slice none 0 0] 55 (0, 0))] w) (fun k36 hd => ?_) ?_
 · skip
   refine .sr (.loadW ia42 sz42 r (.s .z) r r r ?_)
   have hw38 := W_spvec_Right (I := I) R3 hd
   refine .callP call54 r hw38 r r fun v39 hv40 => ?_
   obtain ⟨r37, rfl, hd⟩ := hv40
   refine .ks 1 r (.nilS [7, 4, 3, 0] r r (.condP r hd (fun hb41 hd => ?_) fun hb41 hd => ?_))
   · exact .region (.build zv42 un42 BI42 .n (by exact trivial) r r (.storeA sz42 r r (.s .z) (.t (.t .nil)) r r (.nil' fun c w ho hs => ⟨(0, ([] : List Item)), hd, I, _, _, (.refl _), .nil _ _ _, ho.sub ⟨r, r, r, trivial⟩, hs.pick (.c (.s .z) (.c .z .n))⟩)))
   exact .skip' fun c w ho hs => ⟨(a1.N, a1.Items), hd, I, _, _, (.refl _), R3, ho.sub ⟨r, r, r, trivial⟩, hs.pick (.c (.s .z) (.c .z .n))⟩
 rintro ⟨s31, s32⟩ hd c w hst
 obtain ⟨I42, p33, c34, hl43, R35, hok, hsym⟩ := hst
 refine Cod.at hok hsym (.seq (.sr (.ks 1 r (.fa un42 r sz32 r (o := 1) r r r (.load1 ia32 r .z r r r (.len un32 r r r r (.fa un42 r sz3 r (o := 0) r r r (.load1 ia3 r .z r r r ?_))))))))
 have hw45 := W_policy_Shape (I := I42) hd
 refine .callP call10 r hw45 r r fun v46 hv47 => ?_
 obtain ⟨r44, rfl, hd⟩ := hv47
 refine .ks 1 r (.nilS [16, 4, 3] r r (.condP r hd (fun hb48 hd => ?_) fun hb48 hd => ?_))
 · refine .sr (.loadW ia42 sz42 r .z r r r ?_)
   have hw61 := W_devec_Of (I := I42) (a0 := ({ N := s31, Items := s32 } : Vec)) R35 hd
   refine .call call55 r hw61 r r fun v53 I50 hl51 hv52 => ?_
   obtain ⟨r49, p55, c56, p58, c59, rfl, R57, R60, hd⟩ := hv52
   have le62 := IH.le.trans hl43 hl51
   replace R35 := R35.mono hl51
   exact .build zv55 un55 BI55 (.c r r r (.t .nil) (.c r r r (.s (.s (.s (.t (.t (.t .nil)))))) .n)) (by exact ⟨⟨_, _, r, r, r⟩, ⟨⟨_, _, r, r, r⟩, trivial⟩⟩) r r (.storeA sz55 r r (.s .z) (.t (.t (.t (.t (.t (.t .nil)))))) r r (.nilS [4] r r (.drop .z (.ret (pret results21 (.w ia55 sz55 r .z r .n) le62 ⟨({ Form := 2, Vec := ({ N := 0, Items := ([] : List Item) } : Vec), Dense := r49 } : Held), _, _, _, _, _, _, r, (.nil _ _ _), R57, R60, hd⟩)))))
 refine .skipS [4, 3] r r (.seq (.dr [0, 1, 2, 3, 4, 5, 6] 7 (.g r r r (fun _ => .fa un42 r sz3 r (o := 0) r r r .mk) (.g r r r (fun _ => .load1 ia3 r .z r r r .mk) (.g r r r (fun _ => .fa un42 r sz32 r (o := 1) r r r .mk) (.g r r r (fun _ => .load1 ia32 r .z r r r .mk) (.ww r fun ex => ?_)))))))
 have hw72 := W_slices_Clone_api_Item_api_Item (I := I42) R35 hd
 refine .call call56 r hw72 r r fun v67 I64 hl65 hv66 => ?_
 obtain ⟨r63, p69, c70, rfl, R71, hd⟩ := hv66
 have le73 := IH.le.trans hl43 hl65
 replace R35 := R35.mono hl65
 exact .so 2 r r r (.cg r r r r (fun _ => .load1 ia3 r .z r r r .mk) (.cg r r r r (fun _ => .fa un42 r sz3 r (o := 0) r r r .mk) trivial)) (.g r r r (fun _ => .build zv42 un42 BI42 (.c r r r (.t .nil) (.c r r r (.s (.t .nil)) .n)) (by exact ⟨⟨_, _, r, r, r⟩, ⟨⟨_, _, r, r, r⟩, trivial⟩⟩) r r .mk) (.g r r r (fun _ => .build zv55 un55 BI55 (.c r r r (.t .nil) (.c r r r (.s (.t (.t .nil))) .n)) (by exact ⟨⟨_, _, r, r, r⟩, ⟨⟨_, _, r, r, r⟩, trivial⟩⟩) r r .mk) (.e2 7 (.storeA sz55 r r (.s .z) (.t (.t (.t (.t (.t (.t .nil)))))) r r (.nilS [4] r r (.drop .z (.ret (pret results21 (.w ia55 sz55 r .z r .n) le73 ⟨({ Form := 1, Vec := ({ N := s31, Items := r63 } : Vec), Dense := ({ N := 0, Has := ([] : List Int), Vals := ([] : List Int) } : Dense) } : Held), _, _, _, _, _, _, r, R71, (.nil _ _ _), (.nil _ _ _), hd⟩))))))))

theorem W_ref07_SameItems {I : IH} {a0 : List Item} {a1 : List Item} {p1 : Option Addr} {c2 : Nat} {p4 : Option Addr} {c5 : Nat} {Q : Bool → Prop} (R3 : RepSl eItem I p1 c2 a0) (R6 : RepSl eItem I p4 c5 a1) (hd : ref07_SameItems a0 a1 Q) :
  PFun prog 57 [.slice p1 a0.length c2, .slice p4 a1.length c5] I (fun _ => o1_ Q) := by
 refine Fun.enter func57 r ntmps57 r (.c (.c .n)) fun w0 M => ?_
 refine .sr (.ks 1 r (.nilS [1, 0] r r (.seq (.sr (.ks 1 r (.len un32 r r r r (.ks 1 r (.len un32 r r r r (.ks 1 r ?_)))))))))
 refine .nilS [10, 1, 0] r r (.condP r hd (fun hb8 hd => ?_) fun hb8 hd => ?_)
 · exact .sr (.ks 1 r (.nilS [4] r r (.ret (pret results57 (.t r .n) (.refl _) ⟨false, r, hd⟩))))
 refine .skipS [1, 0] r r (.seq (.sr (.ks 1 r (.nilS [5, 1, 0] r r (.block (.loop hd (fun (s54 : Int) c w => ∃ I_, IH.le I I_ ∧ Ok ⟨26, [], none⟩ [(0, .slice p1 a0.length c2), (1, .slice p4 a1.length c5), (5, .int .i64 s54)] c ∧ Sym w0 M I I_ [] w) (fun c w ho hs => ⟨I, (.refl _), ho.sub ⟨r, r, r, trivial⟩, hs.pick .n⟩) ?_))))))
 rintro s54 next55 hd c w hst
 obtain ⟨I56, hl57, hok, hsym⟩ := hst
 replace R3 := R3.mono hl57
 replace R6 := R6.mono hl57
 refine Cod.at hok hsym (.seq (.sr (.ks 2 r (.len un32 r r r r (.ks 1 r (.nilS [14, 5, 1, 0] r r (.condP r hd (fun hb59 hd => ?_) fun hb59 hd => ?_)))))))
 · refine .skipS [5, 1, 0] r r (.seq (.block (.seq (.dr [0, 1, 2, 3, 4, 5, 6, 7, 8] 9 (.fk 2 r ?_)))))
   obtain ⟨h60, x61, hx62, hd⟩ := hd
   obtain ⟨b63, o64, cs65, e66, hC67, hr68⟩ := R3.2 _ _ hx62
   cases hr68
   refine .g r r r (fun _ => .ixa un32 sz80 r e66 r h60 (idx_lt hx62 h60) r r .mk) (.g r r r (fun _ => .ldW isAgg80 sz80 hC67 r r r r .mk) (.fk 2 r ?_))
   obtain ⟨h69, x70, hx71, hd⟩ := hd
   obtain ⟨b72, o73, cs74, e75, hC76, hr77⟩ := R6.2 _ _ hx71
   cases hr77
   refine .g r r r (fun _ => .ixa un32 sz80 r e75 r h69 (idx_lt hx71 h69) r r .mk) (.g r r r (fun _ => .ldW isAgg80 sz80 hC76 r r r r .mk) (.g r r r (fun _ => .neV r r (EQ80 x61 x70) (EG80 _ _ _ _ _) r r r .mk) (.e2 9 (.nilS [25, 5, 1, 0] r r (.condP r hd (fun hb78 hd => ?_) fun hb78 hd => ?_)))))
   · exact .sr (.ks 1 r (.nilS [4] r r (.ret (pret results57 (.t r .n) hl57 ⟨false, r, hd⟩))))
   exact .skipS [5, 1, 0] r r (.region (.ks 3 r (.nil' fun c w ho hs => ⟨(w64 (s54 + 1)), hd, I56, hl57, ho.sub ⟨r, r, r, trivial⟩, hs.pick .n⟩)))
 exact .exitS [] r r (.sr (.ks 1 r (.nilS [4] r r (.ret (pret results57 (.t r .n) hl57 ⟨true, r, hd⟩)))))

theorem W_ref09_Same {I : IH} {a0 : Vec} {a1 : Vec} {p1 : Option Addr} {c2 : Nat} {p4 : Option Addr} {c5 : Nat} {Q : Bool → Prop} (R3 : RepSl eItem I p1 c2 a0.Items) (R6 : RepSl eItem I p4 c5 a1.Items) (hd : ref09_Same a0 a1 Q) :
  PFun prog 22 [.agg #[.int .i64 a0.N, .slice p1 a0.Items.length c2], .agg #[.int .i64 a1.N, .slice p4 a1.Items.length c5]] I (fun _ => o1_ Q) := by
 refine Fun.enter func22 r ntmps22 r (.c (.c .n)) fun w0 M => ?_
 refine .sr (.boxA r r r fun b11 => ?_)
 refine .boxA r r r fun b13 => ?_
 refine .ks 1 r (.nilS [3, 2] r r (.sr (.fa un42 r sz3 r (o := 0) r r r (.load1 ia3 r (.s .z) r r r (.fa un42 r sz3 r (o := 0) r r r (.load1 ia3 r .z r r r (.ks 2 r ?_)))))))
 refine splitP hd (fun hb15 hd => ?_) fun hb15 hd => ?_
 · rw [hb15]
   refine .gyes r r r (.fa un42 r sz32 r (o := 1) r r r (.gyes r r r (.load1 ia32 r (.s .z) r r r (.gyes r r r (.fa un42 r sz32 r (o := 1) r r r (.gyes r r r (.load1 ia32 r .z r r r ?_)))))))
   have hw17 := W_ref07_SameItems (I := I) R3 R6 hd
   refine .gyes r r r (.callP call57 r hw17 r r fun v18 hv19 => ?_)
   obtain ⟨r16, rfl, hd⟩ := hv19
   exact .ks 2 r (.nilS [4] r r (.drop .z (.drop .z (.ret (pret results22 (.t r .n) (.refl _) ⟨r16, r, hd⟩)))))
 rw [hb15]
 exact .ks 7 r (.nilS [4] r r (.drop .z (.drop .z (.ret (pret results22 (.t r .n) (.refl _) ⟨false, r, hd⟩)))))

theorem W_policy_Dense {I : IH} {a0 : Held} {p1 : Option Addr} {c2 : Nat} {p4 : Option Addr} {c5 : Nat} {p7 : Option Addr} {c8 : Nat} {Q : Dense → Prop} (R3 : RepSl eItem I p1 c2 a0.Vec.Items) (R6 : RepSl eU64 I p4 c5 a0.Dense.Has) (R9 : RepSl eI64 I p7 c8 a0.Dense.Vals) (hd : policy_Dense a0 Q) :
  PFun prog 25 [.agg #[.int .i64 a0.Form, .int .i64 a0.Vec.N, .slice p1 a0.Vec.Items.length c2, .int .i64 a0.Dense.N, .slice p4 a0.Dense.Has.length c5, .slice p7 a0.Dense.Vals.length c8]] I (fun I_ v => ∃ r p10 c11 p13 c14, v = .agg #[.int .i64 r.N, .slice p10 r.Has.length c11, .slice p13 r.Vals.length c14] ∧ RepSl eU64 I_ p10 c11 r.Has ∧ RepSl eI64 I_ p13 c14 r.Vals ∧ Q r) := by
 refine Fun.enter func25 r ntmps25 r (.c .n) fun w0 M => ?_
 refine .sr (.boxA r r r fun b16 => ?_)
 refine .allocA zv53 r r fun b18 => ?_
 refine .nilS [2, 1] r r (.sr (.loadW ia55 sz55 r (.s .z) r r r ?_))
 have hw29 := W_policy_Vec (I := I) R3 R6 R9 hd
 refine .call call23 r hw29 r r fun v24 I21 hl22 hv23 => ?_
 obtain ⟨r20, p26, c27, rfl, R28, hd⟩ := hv23
 replace R3 := R3.mono hl22
 replace R6 := R6.mono hl22
 replace R9 := R9.mono hl22
 have hw42 := W_devec_Of (I := I21) R28 hd
 refine .call call55 r hw42 r r fun v34 I31 hl32 hv33 => ?_
 obtain ⟨r30, p36, c37, p39, c40, rfl, R38, R41, hd⟩ := hv33
 have le43 := IH.le.trans hl22 hl32
 replace R3 := R3.mono hl32
 replace R6 := R6.mono hl32
 replace R9 := R9.mono hl32
 replace R28 := R28.mono hl32
 exact .storeA sz53 r r .z (.t (.t (.t .nil))) r r (.nilS [2] r r (.drop (.s .z) (.ret (pret results25 (.w ia53 sz53 r .z r .n) le43 ⟨r30, _, _, _, _, r, R38, R41, hd⟩))))

theorem W_policy_Size {I : IH} {a0 : Held} {p1 : Option Addr} {c2 : Nat} {p4 : Option Addr} {c5 : Nat} {p7 : Option Addr} {c8 : Nat} {Q : Int → Prop} (R3 : RepSl eItem I p1 c2 a0.Vec.Items) (R6 : RepSl eU64 I p4 c5 a0.Dense.Has) (R9 : RepSl eI64 I p7 c8 a0.Dense.Vals) (hd : policy_Size a0 Q) :
  PFun prog 26 [.agg #[.int .i64 a0.Form, .int .i64 a0.Vec.N, .slice p1 a0.Vec.Items.length c2, .int .i64 a0.Dense.N, .slice p4 a0.Dense.Has.length c5, .slice p7 a0.Dense.Vals.length c8]] I (fun _ => o0_ Q) := by
 refine Fun.enter func26 r ntmps26 r (.c .n) fun w0 M => ?_
 refine .sr (.boxA r r r fun b12 => ?_)
 refine .ks 1 r (.nilS [1] r r (.sr (.loadW ia55 sz55 r .z r r r ?_)))
 have hw35 := W_policy_Vec (I := I) R3 R6 R9 hd
 refine .call call23 r hw35 r r fun v30 I27 hl28 hv29 => ?_
 obtain ⟨r26, p32, c33, rfl, R34, hd⟩ := hv29
 replace R3 := R3.mono hl28
 replace R6 := R6.mono hl28
 replace R9 := R9.mono hl28
 refine .allocA zv42 r r fun b36 => ?_
 refine .storeA sz42 r r .z (.t (.t .nil)) r r (.nilS [3, 1] r r (.seq (.sr (.fa un55 r sizeOf23 r (o := 0) r r r (.load1 isAgg23 r (.s .z) r r r (.ks 1 r (.nilS [8, 3] r r (.drop (.s .z) (.condP r hd (fun hb38 hd => ?_) fun hb38 hd => ?_)))))))))
 · exact .sr (.fa un42 r sz32 r (o := 1) r r r (.load1 ia32 r .z r r r (.len un32 r r r r (.ks 1 r (.nilS [2] r r (.drop .z (.ret (pret results26 (.t r .n) hl28 ⟨(r26.Items.length : Int), r, hd⟩))))))))
 exact .skipS [3] r r (.sr (.fa un42 r sz3 r (o := 0) r r r (.load1 ia3 r .z r r r (.ks 1 r (.nilS [2] r r (.drop .z (.ret (pret results26 (.t r .n) hl28 ⟨r26.N, r, hd⟩))))))))

theorem W_ref02_Is {I : IH} {a0 : Int} {Q : Bool → Prop}  (hd : ref02_Is a0 Q) :
  PFun prog 46 [.int .i64 a0] I (fun _ => o1_ Q) := by
 refine Fun.enter func46 r ntmps46 r (.c .n) fun w0 M => ?_
 refine .sr (.ks 1 r (.nilS [0] r r (.sr (.ks 3 r ?_))))
 refine splitP hd (fun hb1 hd => ?_) fun hb1 hd => ?_
 · rw [hb1]
   exact .ks 4 r (.nilS [2] r r (.ret (pret results46 (.t r .n) (.refl _) ⟨(decide (a0 ≤ 5)), r, hd⟩)))
 rw [hb1]
 exact .ks 4 r (.nilS [2] r r (.ret (pret results46 (.t r .n) (.refl _) ⟨false, r, hd⟩)))

theorem W_ref01_Add {I : IH} {a0 : Wide} {a1 : Wide} {Q : Wide → Prop}  (hd : ref01_Add a0 a1 Q) :
  PFun prog 80 [.agg (encWide a0).toArray, .agg (encWide a1).toArray] I (fun _ => o16_ Q) := by
 refine Fun.enter func80 r ntmps80 r (.c (.c .n)) fun w0 M => ?_
 refine .sr (.boxA r r r fun b7 => ?_)
 refine .boxA r r r fun b9 => ?_
 refine .allocA zv83 r r fun b11 => ?_
 refine .nilS [4, 3, 2] r r (.sr (.fa un83 r sz81 r (o := 1) r r r (.load1 ia81 r (.s (.s .z)) r r r (.fa un83 r sz81 r (o := 1) r r r (.load1 ia81 r (.s .z) r r r (.ks 2 r (.nilS [5, 4, 3, 2] r r (.sr (.fa un83 r sz2 r (o := 0) r r r ?_)))))))))
 refine .load1 ia2 r (.s (.s .z)) r r r (.fa un83 r sz2 r (o := 0) r r r (.load1 ia2 r (.s .z) r r r (.ks 2 r (.nilS [6, 5, 4, 2] r r (.drop (.s .z) (.seq (.sr (.ks 1 r (.fa un83 r sz81 r (o := 1) r r r ?_)))))))))
 refine .load1 ia81 r (.s .z) r r r (.ks 1 r (.nilS [20, 6, 5, 4] r r (.drop (.s .z) (.condP r hd (fun hb13 hd => ?_) fun hb13 hd => ?_))))
 · exact .region (.ks 3 r (.nilS [6, 5, 4] r r (.sr (.ks 2 r (.build zv83 un83 BI83 (.c r r r (.t .nil) (.c r r r (.s (.t .nil)) .n)) (by exact ⟨⟨_, _, r, r, r⟩, ⟨⟨_, _, r, r, r⟩, trivial⟩⟩) r r (.storeA sz83 r r .z (.t (.t .nil)) r r (.nilS [4] r r (.ret (pret results80 (.w ia83 sz83 r .z r .n) (.refl _) ⟨({ Hi := w64 ((w64 (a0.Hi + a1.Hi)) + 1), Lo := IntKind.wrap .u64 (a0.Lo + a1.Lo) } : Wide), r, hd⟩)))))))))
 exact .skipS [6, 5, 4] r r (.sr (.ks 2 r (.build zv83 un83 BI83 (.c r r r (.t .nil) (.c r r r (.s (.t .nil)) .n)) (by exact ⟨⟨_, _, r, r, r⟩, ⟨⟨_, _, r, r, r⟩, trivial⟩⟩) r r (.storeA sz83 r r .z (.t (.t .nil)) r r (.nilS [4] r r (.ret (pret results80 (.w ia83 sz83 r .z r .n) (.refl _) ⟨({ Hi := w64 (a0.Hi + a1.Hi), Lo := IntKind.wrap .u64 (a0.Lo + a1.Lo) } : Wide), r, hd⟩)))))))

theorem W_ref01_Compare {I : IH} {a0 : Wide} {a1 : Wide} {Q : Int → Prop}  (hd : ref01_Compare a0 a1 Q) :
  PFun prog 82 [.agg (encWide a0).toArray, .agg (encWide a1).toArray] I (fun _ => o0_ Q) := by
 refine Fun.enter func82 r ntmps82 r (.c (.c .n)) fun w0 M => ?_
 refine .sr (.boxA r r r fun b5 => ?_)
 refine .boxA r r r fun b7 => ?_
 refine .ks 1 r (.nilS [3, 2] r r (.seq ?_))
 refine Cod.joinQ (σ := Unit) hd (fun (_ : Unit) c w => ∃ I_, IH.le I I_ ∧ Ok ⟨27, [], none⟩ [(2, .pointer (some ⟨b5, 0, none⟩)), (3, .pointer (some ⟨b7, 0, none⟩))] c ∧ Sym w0 M I I_ [pto b5 (.cells #[.int .i64 a0.Hi, .int .u64 a0.Lo] 83 (0, 0)), pto b7 (.cells #[.int .i64 a1.Hi, .int .u64 a1.Lo] 83 (0, 0))] w) (fun k15 hd => ?_) ?_
 · skip
   refine .sr (.fa un83 r sz2 r (o := 0) r r r (.load1 ia2 r (.s .z) r r r (.fa un83 r sz2 r (o := 0) r r r (.load1 ia2 r .z r r r (.ks 2 r ?_)))))
   refine splitP hd (fun hb16 hd => ?_) fun hb16 hd => ?_
   · rw [hb16]
     exact .ks 13 r (.nilS [23, 3, 2] r r (.condKT r r (.sr (.ks 1 r (.nilS [4] r r (.drop .z (.drop .z (.ret (pret results82 (.t r .n) (.refl _) ⟨(-1), r, hd⟩)))))))))
   rw [hb16]
   refine .gyes r r r (.fa un83 r sz2 r (o := 0) r r r (.gyes r r r (.load1 ia2 r (.s .z) r r r (.gyes r r r (.fa un83 r sz2 r (o := 0) r r r (.gyes r r r (.load1 ia2 r .z r r r (.ks 2 r ?_))))))))
   refine splitP hd (fun hb17 hd => ?_) fun hb17 hd => ?_
   · rw [hb17]
     refine .gyes r r r (.fa un83 r sz81 r (o := 1) r r r (.gyes r r r (.load1 ia81 r (.s .z) r r r (.gyes r r r (.fa un83 r sz81 r (o := 1) r r r (.gyes r r r (.load1 ia81 r .z r r r (.ks 3 r (.nilS [23, 3, 2] r r (.condP r hd (fun hb18 hd => ?_) fun hb18 hd => ?_))))))))))
     · exact .sr (.ks 1 r (.nilS [4] r r (.drop .z (.drop .z (.ret (pret results82 (.t r .n) (.refl _) ⟨(-1), r, hd⟩))))))
     exact .skip' fun c w ho hs => ⟨(), hd, I, (.refl _), ho.sub ⟨r, r, trivial⟩, hs.pick (.c (.s .z) (.c .z .n))⟩
   rw [hb17]
   exact .ks 7 r (.nilS [23, 3, 2] r r (.condKF r r (.skip' fun c w ho hs => ⟨(), hd, I, (.refl _), ho.sub ⟨r, r, trivial⟩, hs.pick (.c (.s .z) (.c .z .n))⟩)))
 rintro ⟨⟩ hd c w hst
 obtain ⟨I19, hl20, hok, hsym⟩ := hst
 refine Cod.at hok hsym (.seq (.sr (.loadW ia83 sz83 r .z r r r (.loadW ia83 sz83 r (.s .z) r r r (.eqV r r (EQ83 a0 a1) (EG83 _ _ _ _ _) r r r (.nilS [26] r r (.drop .z (.drop .z (.condP r hd (fun hb21 hd => ?_) fun hb21 hd => ?_)))))))))
 · exact .sr (.ks 1 r (.nilS [4] r r (.ret (pret results82 (.t r .n) hl20 ⟨0, r, hd⟩))))
 exact .skipS [] r r (.sr (.ks 1 r (.nilS [4] r r (.ret (pret results82 (.t r .n) hl20 ⟨1, r, hd⟩)))))

theorem W_ref02_truth {I : IH} {a0 : Bool} {Q : Wide → Prop}  (hd : ref02_truth a0 Q) :
  PFun prog 83 [.bool a0] I (fun _ => o16_ Q) := by
 refine Fun.enter func83 r ntmps83 r (.c .n) fun w0 M => ?_
 refine .sr (.allocA zv83 r r fun b3 => ?_)
 refine .nilS [2, 0] r r (.seq (.sr (.ks 1 r (.nilS [3, 2] r r (.condP r hd (fun hb5 hd => ?_) fun hb5 hd => ?_)))))
 · exact .sr (.build zv83 un83 BI83 (.c r r r (.s (.t .nil)) .n) (by exact ⟨⟨_, _, r, r, r⟩, trivial⟩) r r (.storeA sz83 r r .z (.t (.t .nil)) r r (.nilS [2] r r (.ret (pret results83 (.w ia83 sz83 r .z r .n) (.refl _) ⟨({ Hi := 0, Lo := 1 } : Wide), r, hd⟩)))))
 exact .skipS [2] r r (.sr (.build zv83 un83 BI83 .n (by exact trivial) r r (.storeA sz83 r r .z (.t (.t .nil)) r r (.nilS [2] r r (.ret (pret results83 (.w ia83 sz83 r .z r .n) (.refl _) ⟨({ Hi := 0, Lo := 0 } : Wide), r, hd⟩))))))

theorem W_ref02_Add {I : IH} {a0 : Int} {a1 : Wide} {a2 : Wide} {Q : Wide → Prop}  (hd : ref02_Add a0 a1 a2 Q) :
  PFun prog 50 [.int .i64 a0, .agg (encWide a1).toArray, .agg (encWide a2).toArray] I (fun _ => o16_ Q) := by
 refine Fun.enter func50 r ntmps50 r (.c (.c (.c .n))) fun w0 M => ?_
 refine .sr (.boxA r r r fun b7 => ?_)
 refine .boxA r r r fun b9 => ?_
 refine .allocA zv83 r r fun b11 => ?_
 refine .nilS [6, 5, 4, 0] r r (.sr (.ks 1 r (.nilS [7, 6, 5, 4] r r (.block (.seq ?_)))))
 refine Cod.joinQ (σ := Bool) hd (fun (s17 : Bool) c w => ∃ I_, IH.le I I_ ∧ Ok ⟨35, [], none⟩ [(4, .pointer (some ⟨b7, 0, none⟩)), (5, .pointer (some ⟨b9, 0, none⟩)), (6, .pointer (some ⟨b11, 0, none⟩)), (7, .int .i64 a0), (9, .bool s17)] c ∧ Sym w0 M I I_ [pto b7 (.cells #[.int .i64 a1.Hi, .int .u64 a1.Lo] 83 (0, 0)), pto b9 (.cells #[.int .i64 a2.Hi, .int .u64 a2.Lo] 83 (0, 0)), pto b11 (.cells #[.int .i64 0, .int .u64 0] 83 (0, 0))] w) (fun k18 hd => ?_) ?_
 · skip
   refine .sr (.ks 2 r (.nilS [9, 7, 6, 5, 4] r r (.condP r hd (fun hb19 hd => ?_) fun hb19 hd => ?_)))
   · exact .skip' fun c w ho hs => ⟨(a0 == 1), hd, I, (.refl _), ho.sub ⟨r, r, r, r, r, trivial⟩, hs.pick (.c (.s (.s .z)) (.c (.s .z) (.c .z .n)))⟩
   refine .sr (.ks 2 r (.nilS [9, 7, 6, 5, 4] r r (.condP r hd (fun hb20 hd => ?_) fun hb20 hd => ?_)))
   · exact .skip' fun c w ho hs => ⟨(a0 == 3), hd, I, (.refl _), ho.sub ⟨r, r, r, r, r, trivial⟩, hs.pick (.c (.s (.s .z)) (.c (.s .z) (.c .z .n)))⟩
   exact .region (.ks 2 r (.nil' fun c w ho hs => ⟨(a0 == 4), hd, I, (.refl _), ho.sub ⟨r, r, r, r, r, trivial⟩, hs.pick (.c (.s (.s .z)) (.c (.s .z) (.c .z .n)))⟩))
 rintro s17 hd c w hst
 obtain ⟨I21, hl22, hok, hsym⟩ := hst
 refine Cod.at hok hsym (.condP r hd (fun hb23 hd => ?_) fun hb23 hd => ?_)
 · refine .seq (.sr (.loadW ia83 sz83 r (.s .z) r r r (.loadW ia83 sz83 r .z r r r ?_)))
   have hw25 := W_ref01_Compare (I := I21) hd
   refine .callP call82 r hw25 r r fun v26 hv27 => ?_
   obtain ⟨r24, rfl, hd⟩ := hv27
   refine .ks 1 r (.nilS [16, 6, 5, 4] r r (.condP r hd (fun hb28 hd => ?_) fun hb28 hd => ?_))
   · exact .sr (.loadW ia83 sz83 r (.s .z) r r r (.storeA sz83 r r (.s (.s .z)) (.t (.t .nil)) r r (.nilS [6] r r (.drop .z (.drop .z (.ret (pret results50 (.w ia83 sz83 r .z r .n) hl22 ⟨a2, r, hd⟩)))))))
   exact .skipS [6, 4] r r (.drop (.s .z) (.sr (.loadW ia83 sz83 r .z r r r (.storeA sz83 r r (.s .z) (.t (.t .nil)) r r (.nilS [6] r r (.drop .z (.ret (pret results50 (.w ia83 sz83 r .z r .n) hl22 ⟨a1, r, hd⟩))))))))
 refine .sr (.ks 2 r (.nilS [19, 7, 6, 5, 4] r r (.condP r hd (fun hb29 hd => ?_) fun hb29 hd => ?_)))
 · refine .sr (.loadW ia83 sz83 r .z r r r (.build zv83 un83 BI83 .n (by exact trivial) r r (.neV r r (EQ83 a1 ({ Hi := 0, Lo := 0 } : Wide)) (EG83 _ _ _ _ _) r r r (.ks 1 r ?_))))
   refine splitP hd (fun hb30 hd => ?_) fun hb30 hd => ?_
   · rw [hb30]
     refine .ks 4 r ?_
     have hw32 := W_ref02_truth (I := I21) hd
     refine .callP call83 r hw32 r r fun v33 hv34 => ?_
     obtain ⟨r31, rfl, hd⟩ := hv34
     exact .storeA sz83 r r (.s (.s .z)) (.t (.t .nil)) r r (.nilS [6] r r (.drop .z (.drop .z (.ret (pret results50 (.w ia83 sz83 r .z r .n) hl22 ⟨r31, r, hd⟩)))))
   rw [hb30]
   refine .gyes r r r (.loadW ia83 sz83 r (.s .z) r r r (.gyes r r r (.build zv83 un83 BI83 .n (by exact trivial) r r (.gyes r r r (.neV r r (EQ83 a2 ({ Hi := 0, Lo := 0 } : Wide)) (EG83 _ _ _ _ _) r r r (.ks 1 r ?_))))))
   have hw36 := W_ref02_truth (I := I21) hd
   refine .callP call83 r hw36 r r fun v37 hv38 => ?_
   obtain ⟨r35, rfl, hd⟩ := hv38
   exact .storeA sz83 r r (.s (.s .z)) (.t (.t .nil)) r r (.nilS [6] r r (.drop .z (.drop .z (.ret (pret results50 (.w ia83 sz83 r .z r .n) hl22 ⟨r35, r, hd⟩)))))
 refine .sr (.ks 2 r (.nilS [30, 6, 5, 4] r r (.condP r hd (fun hb39 hd => ?_) fun hb39 hd => ?_)))
 · refine .sr (.loadW ia83 sz83 r .z r r r (.loadW ia83 sz83 r (.s .z) r r r ?_))
   have hw41 := W_ref01_Add (I := I21) hd
   refine .callP call80 r hw41 r r fun v42 hv43 => ?_
   obtain ⟨r40, rfl, hd⟩ := hv43
   exact .storeA sz83 r r (.s (.s .z)) (.t (.t .nil)) r r (.nilS [6] r r (.drop .z (.drop .z (.ret (pret results50 (.w ia83 sz83 r .z r .n) hl22 ⟨r40, r, hd⟩)))))
 exact .sr (.build zv83 un83 BI83 .n (by exact trivial) r r (.storeA sz83 r r (.s (.s .z)) (.t (.t .nil)) r r (.nilS [6] r r (.drop .z (.drop .z (.ret (pret results50 (.w ia83 sz83 r .z r .n) hl22 ⟨({ Hi := 0, Lo := 0 } : Wide), r, hd⟩)))))))

theorem W_ref01_Of {I : IH} {a0 : Int} {Q : Wide → Prop}  (hd : ref01_Of a0 Q) :
  PFun prog 81 [.int .i64 a0] I (fun _ => o16_ Q) := by
 refine Fun.enter func81 r ntmps81 r (.c .n) fun w0 M => ?_
 refine .sr (.allocA zv83 r r fun b3 => ?_)
 refine .nilS [2, 0] r r (.seq (.sr (.ks 2 r (.nilS [4, 2, 0] r r (.condP r hd (fun hb5 hd => ?_) fun hb5 hd => ?_)))))
 · exact .sr (.ks 1 r (.conv un2 un81 r r r (.build zv83 un83 BI83 (.c r r r (.t .nil) (.c r r r (.s (.t .nil)) .n)) (by exact ⟨⟨_, _, r, r, r⟩, ⟨⟨_, _, r, r, r⟩, trivial⟩⟩) r r (.storeA sz83 r r .z (.t (.t .nil)) r r (.nilS [2] r r (.ret (pret results81 (.w ia83 sz83 r .z r .n) (.refl _) ⟨({ Hi := (-1), Lo := IntKind.wrap .u64 (a0) } : Wide), r, hd⟩)))))))
 exact .skipS [2, 0] r r (.sr (.ks 1 r (.conv un2 un81 r r r (.build zv83 un83 BI83 (.c r r r (.s (.t .nil)) .n) (by exact ⟨⟨_, _, r, r, r⟩, trivial⟩) r r (.storeA sz83 r r .z (.t (.t .nil)) r r (.nilS [2] r r (.ret (pret results81 (.w ia83 sz83 r .z r .n) (.refl _) ⟨({ Hi := 0, Lo := IntKind.wrap .u64 (a0) } : Wide), r, hd⟩))))))))

theorem W_ref05_below {I : IH} {a0 : Edge} {a1 : Edge} {Q : Bool → Prop}  (hd : ref05_below a0 a1 Q) :
  PFun prog 102 [.agg (encEdge a0).toArray, .agg (encEdge a1).toArray] I (fun _ => o1_ Q) := by
 refine Fun.enter func102 r ntmps102 r (.c (.c .n)) fun w0 M => ?_
 refine .sr (.boxA r r r fun b5 => ?_)
 refine .boxA r r r fun b7 => ?_
 refine .ks 1 r (.nilS [3, 2] r r (.sr (.fa un116 r sz3 r (o := 0) r r r (.load1 ia3 r (.s .z) r r r (.fa un116 r sz3 r (o := 0) r r r (.load1 ia3 r .z r r r (.ks 2 r ?_)))))))
 refine splitP hd (fun hb9 hd => ?_) fun hb9 hd => ?_
 · rw [hb9]
   exact .ks 14 r (.nilS [4] r r (.drop .z (.drop .z (.ret (pret results102 (.t r .n) (.refl _) ⟨true, r, hd⟩)))))
 rw [hb9]
 refine .gyes r r r (.fa un116 r sz3 r (o := 0) r r r (.gyes r r r (.load1 ia3 r (.s .z) r r r (.gyes r r r (.fa un116 r sz3 r (o := 0) r r r (.gyes r r r (.load1 ia3 r .z r r r (.ks 2 r ?_))))))))
 refine splitP hd (fun hb10 hd => ?_) fun hb10 hd => ?_
 · rw [hb10]
   exact .gyes r r r (.fa un116 r sz3 r (o := 1) r r r (.gyes r r r (.load1 ia3 r (.s .z) r r r (.gyes r r r (.fa un116 r sz3 r (o := 1) r r r (.gyes r r r (.load1 ia3 r .z r r r (.ks 4 r (.nilS [4] r r (.drop .z (.drop .z (.ret (pret results102 (.t r .n) (.refl _) ⟨(decide (a0.To < a1.To)), r, hd⟩)))))))))))))
 rw [hb10]
 exact .ks 8 r (.nilS [4] r r (.drop .z (.drop .z (.ret (pret results102 (.t r .n) (.refl _) ⟨false, r, hd⟩)))))

theorem W_ref01_Narrow {I : IH} {a0 : Wide} {Q : (Int × Bool) → Prop}  (hd : ref01_Narrow a0 Q) :
  PFun prog 103 [.agg (encWide a0).toArray] I (fun _ => o17_ Q) := by
 refine Fun.enter func103 r ntmps103 r (.c .n) fun w0 M => ?_
 refine .sr (.boxA r r r fun b3 => ?_)
 refine .ks 2 r (.nilS [1] r r (.sr (.fa un83 r sz81 r (o := 1) r r r (.load1 ia81 r .z r r r (.conv un81 un2 r r r (.ks 1 r (.nilS [4, 1] r r (.seq (.sr ?_)))))))))
 refine .fa un83 r sz2 r (o := 0) r r r (.load1 ia2 r .z r r r (.ks 2 r ?_))
 refine splitP hd (fun hb5 hd => ?_) fun hb5 hd => ?_
 · rw [hb5]
   refine .ks 4 r ?_
   refine splitP hd (fun hb6 hd => ?_) fun hb6 hd => ?_
   · rw [hb6]
     exact .ks 8 r (.nilS [23, 4] r r (.drop .z (.condKT r r (.sr (.ks 3 r (.nilS [3, 2] r r (.ret (pret results103 (.t r (.t r .n)) (.refl _) ⟨(w64 (a0.Lo), true), r, hd⟩))))))))
   rw [hb6]
   refine .gyes r r r (.fa un83 r sz2 r (o := 0) r r r (.gyes r r r (.load1 ia2 r .z r r r (.ks 2 r ?_))))
   refine splitP hd (fun hb7 hd => ?_) fun hb7 hd => ?_
   · rw [hb7]
     refine .ks 4 r (.nilS [23, 4] r r (.drop .z (.condP r hd (fun hb8 hd => ?_) fun hb8 hd => ?_)))
     · exact .sr (.ks 3 r (.nilS [3, 2] r r (.ret (pret results103 (.t r (.t r .n)) (.refl _) ⟨(w64 (a0.Lo), true), r, hd⟩))))
     exact .skipS [] r r (.sr (.ks 2 r (.nilS [3, 2] r r (.ret (pret results103 (.t r (.t r .n)) (.refl _) ⟨(0, false), r, hd⟩)))))
   rw [hb7]
   exact .ks 4 r (.nilS [23, 4] r r (.drop .z (.condKF r r (.skipS [] r r (.sr (.ks 2 r (.nilS [3, 2] r r (.ret (pret results103 (.t r (.t r .n)) (.refl _) ⟨(0, false), r, hd⟩)))))))))
 rw [hb5]
 refine .ks 4 r (.gyes r r r (.fa un83 r sz2 r (o := 0) r r r (.gyes r r r (.load1 ia2 r .z r r r (.ks 2 r ?_)))))
 refine splitP hd (fun hb9 hd => ?_) fun hb9 hd => ?_
 · rw [hb9]
   refine .ks 4 r (.nilS [23, 4] r r (.drop .z (.condP r hd (fun hb10 hd => ?_) fun hb10 hd => ?_)))
   · exact .sr (.ks 3 r (.nilS [3, 2] r r (.ret (pret results103 (.t r (.t r .n)) (.refl _) ⟨(w64 (a0.Lo), true), r, hd⟩))))
   exact .skipS [] r r (.sr (.ks 2 r (.nilS [3, 2] r r (.ret (pret results103 (.t r (.t r .n)) (.refl _) ⟨(0, false), r, hd⟩)))))
 rw [hb9]
 exact .ks 4 r (.nilS [23, 4] r r (.drop .z (.condKF r r (.skipS [] r r (.sr (.ks 2 r (.nilS [3, 2] r r (.ret (pret results103 (.t r (.t r .n)) (.refl _) ⟨(0, false), r, hd⟩)))))))))

theorem W_ref05_Combine {I : IH} {a0 : Int} {a1 : List Edge} {p1 : Option Addr} {c2 : Nat} {Q : ((List Edge) × Int) → Prop} (R3 : RepSl eEdge I p1 c2 a1) (hd : ref05_Combine a0 a1 Q) :
  PFun prog 67 [.int .i64 a0, .slice p1 a1.length c2] I (fun I_ v => ∃ r p4 c5, v = .tuple #[.slice p4 r.1.length c5, .int .i64 r.2] ∧ RepSl eEdge I_ p4 c5 r.1 ∧ Q r) := by
 refine Fun.enter func67 r ntmps67 r (.c (.c .n)) fun w0 M => ?_
 refine .sr (.ks 2 r (.nilS [1, 0] r r (.seq (.sr (.ks 1 r ?_)))))
 have hw13 := W_ref02_Is (I := I) hd
 refine .callP call46 r hw13 r r fun v14 hv15 => ?_
 obtain ⟨r12, rfl, hd⟩ := hv15
 refine .ks 1 r (.nilS [17, 1, 0] r r (.condP r hd (fun hb16 hd => ?_) fun hb16 hd => ?_))
 · exact .sr (.ks 2 r (.nilS [5, 4] r r (.ret (pret results67 (.t r (.t r .n)) (.refl _) ⟨(([] : List Edge), 8), _, _, r, (.nil _ _ _), hd⟩))))
 refine .skipS [1, 0] r r (.sr (.ks 1 r (.nilS [6, 1, 0] r r (.sr (.ks 1 r (.nilS [7, 6, 1, 0] r r (.seq (.sr (.ks 1 r ?_)))))))))
 refine .nilS [8, 7, 6, 1, 0] r r (.block (.own0 eEdge 116 (.own0 eWide 83 (.loop hd (fun (s : (List Edge) × (List Wide) × Int) c w => match s with | (s2656, s2660, s2664) => ∃ I_ p2657 c2658 p2661 c2662, IH.le I I_ ∧ Ok ⟨145, [], none⟩ [(0, .int .i64 a0), (1, .slice p1 a1.length c2), (6, .slice p2657 s2656.length c2658), (7, .slice p2661 s2660.length c2662), (8, .int .i64 s2664)] c ∧ Sym w0 M I I_ [OwnSl eEdge 116 p2657 c2658 s2656, OwnSl eWide 83 p2661 c2662 s2660] w) (fun c w ho hs => ⟨I, _, _, _, _, (.refl _), ho.sub ⟨r, r, r, r, r, trivial⟩, hs.pick (.c (.s .z) (.c .z .n))⟩) ?_))))
 rintro ⟨s2656, s2660, s2664⟩ next2667 hd c w hst
 obtain ⟨I2668, p2657, c2658, p2661, c2662, hl2669, hok, hsym⟩ := hst
 replace R3 := R3.mono hl2669
 refine Cod.at hok hsym (.seq (.sr (.ks 2 r (.len un114 r r r r (.ks 1 r (.nilS [21, 8, 7, 6, 1, 0] r r (.condP r hd (fun hb2671 hd => ?_) fun hb2671 hd => ?_)))))))
 · refine .skipS [8, 7, 6, 1, 0] r r (.seq (.block (.sr (.ks 1 r (.nilS [9, 8, 7, 6, 1, 0] r r (.seq ?_))))))
   refine Cod.joinQ (σ := Int) hd (fun (s2820 : Int) c w => ∃ I_, IH.le I2668 I_ ∧ Ok ⟨145, [], none⟩ [(0, .int .i64 a0), (1, .slice p1 a1.length c2), (6, .slice p2657 s2656.length c2658), (7, .slice p2661 s2660.length c2662), (8, .int .i64 s2664), (9, .int .i64 s2820)] c ∧ Sym w0 M I I_ [OwnSl eEdge 116 p2657 c2658 s2656, OwnSl eWide 83 p2661 c2662 s2660] w) (fun k2821 hd => ?_) ?_
   · skip
     refine .block (.loop hd (fun (s2869 : Int) c w => ∃ I_, IH.le I2668 I_ ∧ Ok ⟨145, [], none⟩ [(0, .int .i64 a0), (1, .slice p1 a1.length c2), (6, .slice p2657 s2656.length c2658), (7, .slice p2661 s2660.length c2662), (8, .int .i64 s2664), (9, .int .i64 s2869)] c ∧ Sym w0 M I I_ [OwnSl eEdge 116 p2657 c2658 s2656, OwnSl eWide 83 p2661 c2662 s2660] w) (fun c w ho hs => ⟨I2668, (.refl _), ho.sub ⟨r, r, r, r, r, r, trivial⟩, hs.pick (.c .z (.c .z .n))⟩) ?_)
     rintro s2869 next2870 hd c w hst
     obtain ⟨I2871, hl2872, hok, hsym⟩ := hst
     have le2873 := IH.le.trans hl2669 hl2872
     replace R3 := R3.mono hl2872
     refine Cod.at hok hsym (.seq (.seq (.ownF .z fun hne2874 => ?_)))
     refine .ownF (.s .z) fun hne2875 => ?_
     refine .dr [0, 1, 2, 3, 4, 5, 6, 7, 8, 9, 10, 11, 12, 13, 14] 15 (.fk 2 r (.g r r r (fun _ => .len un114 r r r r .mk) (.fk 2 r ?_)))
     refine splitP hd (fun hb2876 hd => ?_) fun hb2876 hd => ?_
     · refine .g r r r (fun _ => .gyes r r hb2876 (.move r r r .mk)) (.g r r r (fun _ => .gyes r r hb2876 (.move r r r .mk)) ?_)
       obtain ⟨h2877, x2878, hx2879, hd⟩ := hd
       obtain ⟨b2880, e2881⟩ := hne2874 (idx_ne hx2879)
       cases e2881
       refine .g r r r (fun _ => .gyes r r hb2876 (.ixa0 un114 sz116 r r h2877 (idx_lt hx2879 h2877) r r .mk)) (.g r r r (fun _ => .gyes r r hb2876 (.loA (j := 0) isAgg116 sz116 .z hx2879 r r (.t (.t (.t .nil))) r r r .mk)) (.g r r r (fun _ => .gyes r r hb2876 (.move r r r .mk)) (.g r r r (fun _ => .gyes r r hb2876 (.move r r r .mk)) ?_)))
       obtain ⟨h2882, x2883, hx2884, hd⟩ := hd
       obtain ⟨b2885, o2886, cs2887, e2888, hC2889, hr2890⟩ := R3.2 _ _ hx2884
       cases hr2890
       refine .g r r r (fun _ => .gyes r r hb2876 (.ixa un114 sz116 r e2888 r h2882 (idx_lt hx2884 h2882) r r .mk)) (.g r r r (fun _ => .gyes r r hb2876 (.ldW isAgg116 sz116 hC2889 r r r r .mk)) (.ww r fun ex => ?_))
       have hw2892 := W_ref05_below (I := I2871) hd
       refine .gyes r r hb2876 (.callP call102 r hw2892 r r fun v2893 hv2894 => ?_)
       obtain ⟨r2891, rfl, hd⟩ := hv2894
       refine .so 2 r r r trivial (.g r r r (fun _ => .pickT r hb2876 r r r .mk) (.e2 15 (.nilS [38, 9, 8, 7, 6, 1, 0] r r (.condP r hd (fun hb2895 hd => ?_) fun hb2895 hd => ?_))))
       · exact .skipS [9, 8, 7, 6, 1, 0] r r (.block (.region (.ks 3 r (.nil' fun c w ho hs => ⟨(w64 (s2869 + 1)), hd, I2871, hl2872, ho.sub ⟨r, r, r, r, r, r, trivial⟩, hs.pick (.c .z (.c .z .n))⟩))))
       exact .exit fun c w ho hs => ⟨s2869, hd, I2871, hl2872, ho.sub ⟨r, r, r, r, r, r, trivial⟩, hs.pick (.c .z (.c .z .n))⟩
     refine .g r r r (fun _ => .gno r r hb2876 r r .mk) (.g r r r (fun _ => .gno r r hb2876 r r .mk) (.g r r r (fun _ => .gno r r hb2876 r r .mk) (.g r r r (fun _ => .gno r r hb2876 r r .mk) (.g r r r (fun _ => .gno r r hb2876 r r .mk) (.g r r r (fun _ => .gno r r hb2876 r r .mk) (.g r r r (fun _ => .gno r r hb2876 r r .mk) (.g r r r (fun _ => .gno r r hb2876 r r .mk) (.g r r r (fun _ => .gno r r hb2876 r r .mk) (.g r r r (fun _ => .pickF r hb2876 r r r .mk) ?_)))))))))
     exact .e2 15 (.nilS [38, 9, 8, 7, 6, 1, 0] r r (.condKF r r (.exit fun c w ho hs => ⟨s2869, hd, I2871, hl2872, ho.sub ⟨r, r, r, r, r, r, trivial⟩, hs.pick (.c .z (.c .z .n))⟩)))
   rintro s2820 hd c w hst
   obtain ⟨I2896, hl2897, hok, hsym⟩ := hst
   have le2898 := IH.le.trans hl2669 hl2897
   replace R3 := R3.mono hl2897
   refine Cod.at hok hsym (.sr (.ks 2 r ?_))
   obtain ⟨h2914, x2915, hx2916, hd⟩ := hd
   obtain ⟨b2917, o2918, cs2919, e2920, hC2921, hr2922⟩ := R3.2 _ _ hx2916
   cases hr2922
   refine .ixa un114 sz116 r e2920 r h2914 (idx_lt hx2916 h2914) r r (.fa un116 r sz2 r (o := o2918 + s2664.toNat * 3 + 2) r r r (.ld1 (j := 2) ia2 hC2921 r r r r r ?_))
   have hw2924 := W_ref01_Of (I := I2896) hd
   refine .callP call81 r hw2924 r r fun v2925 hv2926 => ?_
   obtain ⟨r2923, rfl, hd⟩ := hv2926
   refine .allocA zv83 r r fun b2927 => ?_
   refine .storeA sz83 r r .z (.t (.t .nil)) r r (.nilS [10, 9, 8, 7, 6, 1, 0] r r (.seq (.seq ?_)))
   refine Cod.joinQ (σ := Bool) hd (fun (s3055 : Bool) c w => ∃ I_, IH.le I2896 I_ ∧ Ok ⟨145, [], none⟩ [(0, .int .i64 a0), (1, .slice p1 a1.length c2), (6, .slice p2657 s2656.length c2658), (7, .slice p2661 s2660.length c2662), (8, .int .i64 s2664), (9, .int .i64 s2820), (10, .pointer (some ⟨b2927, 0, none⟩)), (62, .bool s3055)] c ∧ Sym w0 M I I_ [OwnSl eEdge 116 p2657 c2658 s2656, OwnSl eWide 83 p2661 c2662 s2660, pto b2927 (.cells #[.int .i64 r2923.Hi, .int .u64 r2923.Lo] 83 (0, 0))] w) (fun k3056 hd => ?_) ?_
   · skip
     refine .ownF (.s .z) fun hne3057 => ?_
     refine .ownF (.s (.s .z)) fun hne3058 => ?_
     refine .dr [0, 1, 2, 3, 4, 5, 6, 7, 8, 9, 10, 11, 12, 13, 14, 15] 16 (.fk 2 r (.g r r r (fun _ => .len un114 r r r r .mk) (.fk 2 r ?_)))
     refine splitP hd (fun hb3059 hd => ?_) fun hb3059 hd => ?_
     · refine .g r r r (fun _ => .gyes r r hb3059 (.move r r r .mk)) (.g r r r (fun _ => .gyes r r hb3059 (.move r r r .mk)) ?_)
       obtain ⟨h3060, x3061, hx3062, hd⟩ := hd
       obtain ⟨b3063, o3064, cs3065, e3066, hC3067, hr3068⟩ := R3.2 _ _ hx3062
       cases hr3068
       refine .g r r r (fun _ => .gyes r r hb3059 (.ixa un114 sz116 r e3066 r h3060 (idx_lt hx3062 h3060) r r .mk)) (.g r r r (fun _ => .gyes r r hb3059 (.ldW isAgg116 sz116 hC3067 r r r r .mk)) (.g r r r (fun _ => .gyes r r hb3059 (.move r r r .mk)) (.g r r r (fun _ => .gyes r r hb3059 (.move r r r .mk)) ?_)))
       obtain ⟨h3069, x3070, hx3071, hd⟩ := hd
       obtain ⟨b3072, e3073⟩ := hne3057 (idx_ne hx3071)
       cases e3073
       refine .g r r r (fun _ => .gyes r r hb3059 (.ixa0 un114 sz116 r r h3069 (idx_lt hx3071 h3069) r r .mk)) (.g r r r (fun _ => .gyes r r hb3059 (.loA (j := 0) isAgg116 sz116 (.s .z) hx3071 r r (.t (.t (.t .nil))) r r r .mk)) (.ww r fun ex => ?_))
       have hw3075 := W_ref05_below (I := I2896) hd
       refine .gyes r r hb3059 (.callP call102 r hw3075 r r fun v3076 hv3077 => ?_)
       obtain ⟨r3074, rfl, hd⟩ := hv3077
       exact .so 3 r r r trivial (.g r r r (fun _ => .gyes r r hb3059 (.not r r r .mk)) (.g r r r (fun _ => .pickT r hb3059 r r r .mk) (.e2 16 (.nil' fun c w ho hs => ⟨(!r3074), hd, I2896, (.refl _), ho.sub ⟨r, r, r, r, r, r, r, r, trivial⟩, hs.pick (.c (.s .z) (.c (.s .z) (.c .z .n)))⟩))))
     refine .g r r r (fun _ => .gno r r hb3059 r r .mk) (.g r r r (fun _ => .gno r r hb3059 r r .mk) (.g r r r (fun _ => .gno r r hb3059 r r .mk) (.g r r r (fun _ => .gno r r hb3059 r r .mk) (.g r r r (fun _ => .gno r r hb3059 r r .mk) (.g r r r (fun _ => .gno r r hb3059 r r .mk) (.g r r r (fun _ => .gno r r hb3059 r r .mk) (.g r r r (fun _ => .gno r r hb3059 r r .mk) (.g r r r (fun _ => .gno r r hb3059 r r .mk) (.g r r r (fun _ => .gno r r hb3059 r r .mk) ?_)))))))))
     exact .g r r r (fun _ => .pickF r hb3059 r r r .mk) (.e2 16 (.nil' fun c w ho hs => ⟨false, hd, I2896, (.refl _), ho.sub ⟨r, r, r, r, r, r, r, r, trivial⟩, hs.pick (.c (.s .z) (.c (.s .z) (.c .z .n)))⟩))
   rintro s3055 hd c w hst
   obtain ⟨I3078, hl3079, hok, hsym⟩ := hst
   have le3080 := IH.le.trans le2898 hl3079
   have le3081 := IH.le.trans hl2897 hl3079
   replace R3 := R3.mono hl3079
   refine Cod.at hok hsym (.condP r hd (fun hb3082 hd => ?_) fun hb3082 hd => ?_)
   · refine .seq (.ownF .z fun hne3083 => ?_)
     refine .ownF (.s .z) fun hne3084 => ?_
     refine .dr [0, 1, 2, 3, 4, 5, 6, 7, 8] 9 (.fk 5 r ?_)
     obtain ⟨h3085, x3086, hx3087, hd⟩ := hd
     obtain ⟨b3088, e3089⟩ := hne3084 (idx_ne hx3087)
     cases e3089
     refine .g r r r (fun _ => .ixa0 un148 sz83 r r h3085 (idx_lt hx3087 h3085) r r .mk) (.g r r r (fun _ => .loA (j := 0) ia83 sz83 (.s .z) hx3087 r r (.t (.t .nil)) r r r .mk) (.g r r r (fun _ => .loadW ia83 sz83 r (.s (.s .z)) r r r .mk) (.ww r fun ex => ?_)))
     have hw3091 := W_ref02_Add (I := I3078) hd
     refine .callP call50 r hw3091 r r fun v3092 hv3093 => ?_
     obtain ⟨r3090, rfl, hd⟩ := hv3093
     refine .so 3 r r r (.ck 2 r r trivial) (.e2 9 ?_)
     obtain ⟨h3094, x3095, hx3096, hd⟩ := hd
     exact .ixa0 un148 sz83 r r h3094 (idx_lt hx3096 h3094) r r (.stOA (j := 0) (v' := r3090) sz83 (.s .z) hx3096 r r r (.t (.t .nil)) r r (.sub (E' := [(0, _), (1, _), (6, _), (7, .slice (some ⟨b3088, 0, none⟩) (s2660.set s2820.toNat r3090).length c2662), (8, _), (9, _), (10, _), (62, _), (63, .slice (some ⟨b3088, 0, none⟩) (s2660.set s2820.toNat r3090).length c2662), (64, _), (65, _), (66, .slice (some ⟨b3088, 0, none⟩) (s2660.set s2820.toNat r3090).length c2662), (67, _), (68, _), (69, _), (70, _), (71, _), (72, _)]) ⟨r, r, r, (by simp only [List.length_set]; rfl), r, r, r, r, (by simp only [List.length_set]; rfl), r, r, (by simp only [List.length_set]; rfl), r, r, r, r, r, r, trivial⟩ (.nilS [8, 7, 6, 1, 0] r r (.drop (.s (.s .z)) (.exitS [8, 7, 6, 1, 0] r r (.region (.ks 3 r (.nil' fun c w ho hs => ⟨(s2656, (s2660.set s2820.toNat r3090), w64 (s2664 + 1)), hd, I3078, _, _, _, _, le3080, ho.sub ⟨r, r, r, r, r, trivial⟩, hs.pick (.c .z (.c .z .n))⟩))))))))
   refine .skipS [10, 9, 8, 7, 6, 1, 0] r r (.sr (.ks 1 r (.build zv116 un116 BI116 .n (by exact trivial) r r (.buildSlice 1 un114 sz116 zv116 r r (.c r r r .n) r r fun b3103 => ?_))))
   obtain ⟨hl3105, hd⟩ := hd
   refine .append (ys := [({ From := 0, To := 0, W := 0 } : Edge)]) 24 (.s .z) un114 un114 IN116 r r r r r r r r r (.box .z (.one r) r) hl3105 r r fun p3106 c3107 => ?_
   refine .ks 1 r (.nilS [6, 10, 9, 8, 7, 1, 0] r r (.drop (.s .z) (.sr (.ks 1 r (.build zv83 un83 BI83 .n (by exact trivial) r r (.buildSlice 1 un148 sz83 zv83 r r (.c r r r .n) r r fun b3115 => ?_))))))
   obtain ⟨hl3117, hd⟩ := hd
   refine .append (ys := [({ Hi := 0, Lo := 0 } : Wide)]) 16 (.s (.s .z)) un148 un148 IN83 r r r r r r r r r (.box .z (.one r) r) hl3117 r r fun p3118 c3119 => ?_
   refine .ks 1 r (.nilS [7, 6, 10, 9, 8, 1, 0] r r (.drop (.s .z) (.seq (.sr (.ks 1 r (.len un114 r r r r (.ks 2 r (.nilS [11, 7, 6, 10, 9, 8, 1, 0] r r (.block ?_)))))))))
   refine .loop hd (fun (s : (List Edge) × (List Wide) × Int) c w => match s with | (s3280, s3284, s3288) => ∃ I_ p3281 c3282 p3285 c3286, IH.le I3078 I_ ∧ Ok ⟨145, [], none⟩ [(0, .int .i64 a0), (1, .slice p1 a1.length c2), (6, .slice p3281 s3280.length c3282), (7, .slice p3285 s3284.length c3286), (8, .int .i64 s2664), (9, .int .i64 s2820), (10, .pointer (some ⟨b2927, 0, none⟩)), (11, .int .i64 s3288)] c ∧ Sym w0 M I I_ [OwnSl eEdge 116 p3281 c3282 s3280, OwnSl eWide 83 p3285 c3286 s3284, pto b2927 (.cells #[.int .i64 r2923.Hi, .int .u64 r2923.Lo] 83 (0, 0))] w) (fun c w ho hs => ⟨I3078, _, _, _, _, (.refl _), ho.sub ⟨r, r, r, r, r, r, r, r, trivial⟩, hs.pick (.c (.s .z) (.c .z (.c .z .n)))⟩) ?_
   rintro ⟨s3280, s3284, s3288⟩ next3289 hd c w hst
   obtain ⟨I3290, p3281, c3282, p3285, c3286, hl3291, hok, hsym⟩ := hst
   have le3292 := IH.le.trans le3080 hl3291
   have le3293 := IH.le.trans le3081 hl3291
   have le3294 := IH.le.trans hl3079 hl3291
   replace R3 := R3.mono hl3291
   refine Cod.at hok hsym (.seq (.sr (.ks 3 r (.nilS [86, 11, 10, 9, 8, 7, 6, 1, 0] r r (.condP r hd (fun hb3296 hd => ?_) fun hb3296 hd => ?_)))))
   · refine .skipS [11, 10, 9, 8, 7, 6, 1, 0] r r (.seq (.block (.sr (.ks 5 r ?_))))
     obtain ⟨h3297, x3298, hx3299, hd⟩ := hd
     refine .ownNe .z (idx_ne hx3299) fun b3300 e3301 => ?_
     cases e3301
     refine .ixa0 un114 sz116 r r h3297 (idx_lt hx3299 h3297) r r (.loA (j := 0) isAgg116 sz116 .z hx3299 r r (.t (.t (.t .nil))) r r r ?_)
     obtain ⟨h3302, x3303, hx3304, hd⟩ := hd
     refine .ixa0 un114 sz116 r r h3302 (idx_lt hx3304 h3302) r r (.stOA (j := 0) (v' := x3298) sz116 .z hx3304 r r r (.t (.t (.t .nil))) r r (.sub (E' := [(0, _), (1, _), (6, .slice (some ⟨b3300, 0, none⟩) (s3280.set s3288.toNat x3298).length c3282), (7, _), (8, _), (9, _), (10, _), (11, _), (89, .slice (some ⟨b3300, 0, none⟩) (s3280.set s3288.toNat x3298).length c3282), (90, _), (91, .slice (some ⟨b3300, 0, none⟩) (s3280.set s3288.toNat x3298).length c3282), (92, _), (93, _), (94, _), (95, _), (96, _)]) ⟨r, r, (by simp only [List.length_set]; rfl), r, r, r, r, r, (by simp only [List.length_set]; rfl), r, (by simp only [List.length_set]; rfl), r, r, r, r, r, trivial⟩ (.nilS [11, 10, 9, 8, 7, 6, 1, 0] r r (.region (.ks 5 r ?_)))))
     obtain ⟨h3305, x3306, hx3307, hd⟩ := hd
     refine .ownNe (.s .z) (idx_ne hx3307) fun b3308 e3309 => ?_
     cases e3309
     refine .ixa0 un148 sz83 r r h3305 (idx_lt hx3307 h3305) r r (.loA (j := 0) ia83 sz83 (.s .z) hx3307 r r (.t (.t .nil)) r r r ?_)
     obtain ⟨h3310, x3311, hx3312, hd⟩ := hd
     exact .ixa0 un148 sz83 r r h3310 (idx_lt hx3312 h3310) r r (.stOA (j := 0) (v' := x3306) sz83 (.s .z) hx3312 r r r (.t (.t .nil)) r r (.sub (E' := [(0, _), (1, _), (6, _), (7, .slice (some ⟨b3308, 0, none⟩) (s3284.set s3288.toNat x3306).length c3286), (8, _), (9, _), (10, _), (11, _), (97, .slice (some ⟨b3308, 0, none⟩) (s3284.set s3288.toNat x3306).length c3286), (98, _), (99, .slice (some ⟨b3308, 0, none⟩) (s3284.set s3288.toNat x3306).length c3286), (100, _), (101, _), (102, _), (103, _), (104, _)]) ⟨r, r, r, (by simp only [List.length_set]; rfl), r, r, r, r, (by simp only [List.length_set]; rfl), r, (by simp only [List.length_set]; rfl), r, r, r, r, r, trivial⟩ (.nilS [11, 10, 9, 8, 7, 6, 1, 0] r r (.region (.ks 3 r (.nil' fun c w ho hs => ⟨((s3280.set s3288.toNat x3298), (s3284.set s3288.toNat x3306), w64 (s3288 - 1)), hd, I3290, _, _, _, _, hl3291, ho.sub ⟨r, r, r, r, r, r, r, r, trivial⟩, hs.pick (.c .z (.c .z (.c .z .n)))⟩))))))
   refine .exitS [10, 9, 8, 7, 6, 1, 0] r r (.seq (.ownF .z fun hne3313 => ?_))
   refine .ownF (.s .z) fun hne3314 => ?_
   refine .dr [0, 1, 2, 3, 4, 5, 6, 7, 8, 9, 10, 11, 12] 13 (.fk 4 r ?_)
   obtain ⟨h3315, x3316, hx3317, hd⟩ := hd
   obtain ⟨b3318, o3319, cs3320, e3321, hC3322, hr3323⟩ := R3.2 _ _ hx3317
   cases hr3323
   refine .g r r r (fun _ => .ixa un114 sz116 r e3321 r h3315 (idx_lt hx3317 h3315) r r .mk) (.g r r r (fun _ => .fa un116 r sz3 r (o := o3319 + s2664.toNat * 3) r r r .mk) (.g r r r (fun _ => .ld1 (j := 0) ia3 hC3322 r r r r r .mk) (.fk 2 r ?_)))
   obtain ⟨h3324, x3325, hx3326, hd⟩ := hd
   obtain ⟨b3327, o3328, cs3329, e3330, hC3331, hr3332⟩ := R3.2 _ _ hx3326
   cases hr3332
   refine .g r r r (fun _ => .ixa un114 sz116 r e3330 r h3324 (idx_lt hx3326 h3324) r r .mk) (.g r r r (fun _ => .fa un116 r sz3 r (o := o3328 + s2664.toNat * 3 + 1) r r r .mk) (.g r r r (fun _ => .ld1 (j := 1) ia3 hC3331 r r r r r .mk) (.g r r r (fun _ => .build zv116 un116 BI116 (.c r r r (.t .nil) (.c r r r (.s (.t .nil)) .n)) (by exact ⟨⟨_, _, r, r, r⟩, ⟨⟨_, _, r, r, r⟩, trivial⟩⟩) r r .mk) (.e2 13 ?_))))
   obtain ⟨h3333, x3334, hx3335, hd⟩ := hd
   obtain ⟨b3336, e3337⟩ := hne3313 (idx_ne hx3335)
   cases e3337
   refine .ixa0 un114 sz116 r r h3333 (idx_lt hx3335 h3333) r r (.stOA (j := 0) (v' := ({ From := x3316.From, To := x3325.To, W := 0 } : Edge)) sz116 .z hx3335 r r r (.t (.t (.t .nil))) r r (.sub (E' := [(0, _), (1, _), (6, .slice (some ⟨b3336, 0, none⟩) (s3280.set s2820.toNat ({ From := x3316.From, To := x3325.To, W := 0 } : Edge)).length c3282), (7, _), (8, _), (9, _), (10, _), (105, .slice (some ⟨b3336, 0, none⟩) (s3280.set s2820.toNat ({ From := x3316.From, To := x3325.To, W := 0 } : Edge)).length c3282), (106, _), (107, _), (108, _), (109, _), (110, _), (111, _), (112, _), (113, _), (114, _), (115, _), (116, _), (117, _), (118, _)]) ⟨r, r, (by simp only [List.length_set]; rfl), r, r, r, r, (by simp only [List.length_set]; rfl), r, r, r, r, r, r, r, r, r, r, r, r, r, trivial⟩ (.nilS [10, 9, 8, 7, 6, 1, 0] r r (.region (.ks 2 r (.loadW ia83 sz83 r (.s (.s .z)) r r r ?_))))))
   obtain ⟨h3338, x3339, hx3340, hd⟩ := hd
   obtain ⟨b3341, e3342⟩ := hne3314 (idx_ne hx3340)
   cases e3342
   exact .ixa0 un148 sz83 r r h3338 (idx_lt hx3340 h3338) r r (.stOA (j := 0) (v' := r2923) sz83 (.s .z) hx3340 r r r (.t (.t .nil)) r r (.sub (E' := [(0, _), (1, _), (6, _), (7, .slice (some ⟨b3341, 0, none⟩) (s3284.set s2820.toNat r2923).length c3286), (8, _), (9, _), (10, _), (119, .slice (some ⟨b3341, 0, none⟩) (s3284.set s2820.toNat r2923).length c3286), (120, _), (121, _), (122, _)]) ⟨r, r, r, (by simp only [List.length_set]; rfl), r, r, r, (by simp only [List.length_set]; rfl), r, r, r, trivial⟩ (.nilS [8, 7, 6, 1, 0] r r (.drop (.s (.s .z)) (.region (.ks 3 r (.nil' fun c w ho hs => ⟨((s3280.set s2820.toNat ({ From := x3316.From, To := x3325.To, W := 0 } : Edge)), (s3284.set s2820.toNat r2923), w64 (s2664 + 1)), hd, I3290, _, _, _, _, le3292, ho.sub ⟨r, r, r, r, r, trivial⟩, hs.pick (.c .z (.c .z .n))⟩)))))))
 refine .exitS [7, 6] r r (.seq (.sr (.ks 1 r (.nilS [12, 7, 6] r r (.block (.loop hd (fun (s : (List Edge) × Int) c w => match s with | (s3410, s3414) => ∃ I_ p3411 c3412, IH.le I2668 I_ ∧ Ok ⟨145, [], none⟩ [(6, .slice p3411 s3410.length c3412), (7, .slice p2661 s2660.length c2662), (12, .int .i64 s3414)] c ∧ Sym w0 M I I_ [OwnSl eEdge 116 p3411 c3412 s3410, OwnSl eWide 83 p2661 c2662 s2660] w) (fun c w ho hs => ⟨I2668, _, _, (.refl _), ho.sub ⟨r, r, r, trivial⟩, hs.pick (.c .z (.c .z .n))⟩) ?_))))))
 rintro ⟨s3410, s3414⟩ next3415 hd c w hst
 obtain ⟨I3416, p3411, c3412, hl3417, hok, hsym⟩ := hst
 have le3418 := IH.le.trans hl2669 hl3417
 refine Cod.at hok hsym (.seq (.sr (.ks 2 r (.len un114 r r r r (.ks 1 r (.nilS [126, 12, 7, 6] r r (.condP r hd (fun hb3420 hd => ?_) fun hb3420 hd => ?_)))))))
 · refine .skipS [12, 7, 6] r r (.seq (.block (.sr (.ks 2 r ?_))))
   obtain ⟨h3430, x3431, hx3432, hd⟩ := hd
   refine .ownNe (.s .z) (idx_ne hx3432) fun b3433 e3434 => ?_
   cases e3434
   refine .ixa0 un148 sz83 r r h3430 (idx_lt hx3432 h3430) r r (.loA (j := 0) ia83 sz83 (.s .z) hx3432 r r (.t (.t .nil)) r r r ?_)
   have hw3436 := W_ref01_Narrow (I := I3416) hd
   refine .callP call103 r hw3436 r r fun v3437 hv3438 => ?_
   obtain ⟨r3435, rfl, hd⟩ := hv3438
   refine .ks 5 r (.nilS [14, 13, 12, 7, 6] r r (.seq (.sr (.ks 2 r (.nilS [138, 13, 12, 7, 6] r r (.condP r hd (fun hb3439 hd => ?_) fun hb3439 hd => ?_))))))
   · exact .sr (.ks 2 r (.nilS [5, 4] r r (.drop .z (.drop .z (.ret (pret results67 (.t r (.t r .n)) le3418 ⟨(([] : List Edge), 12), _, _, r, (.nil _ _ _), hd⟩))))))
   refine .skipS [13, 12, 7, 6] r r (.region (.ks 3 r ?_))
   obtain ⟨h3440, x3441, hx3442, hd⟩ := hd
   refine .ownNe .z (idx_ne hx3442) fun b3443 e3444 => ?_
   cases e3444
   exact .ixa0 un114 sz116 r r h3440 (idx_lt hx3442 h3440) r r (.fa un116 r sz2 r (o := s3414.toNat * 3 + 2) r r r (.stO1 (j := 2) (v' := ({ From := x3441.From, To := x3441.To, W := r3435.1 } : Edge)) sz2 .z hx3442 r r r (.s (.s (.t .nil))) r (.sub (E' := [(6, .slice (some ⟨b3443, 0, none⟩) (s3410.set s3414.toNat ({ From := x3441.From, To := x3441.To, W := r3435.1 } : Edge)).length c3412), (7, _), (12, _), (13, _), (139, .slice (some ⟨b3443, 0, none⟩) (s3410.set s3414.toNat ({ From := x3441.From, To := x3441.To, W := r3435.1 } : Edge)).length c3412), (140, _), (141, _), (142, _), (143, _)]) ⟨(by simp only [List.length_set]; rfl), r, r, r, (by simp only [List.length_set]; rfl), r, r, r, r, trivial⟩ (.nilS [12, 7, 6] r r (.region (.ks 3 r (.nil' fun c w ho hs => ⟨((s3410.set s3414.toNat ({ From := x3441.From, To := x3441.To, W := r3435.1 } : Edge)), w64 (s3414 + 1)), hd, I3416, _, _, hl3417, ho.sub ⟨r, r, r, trivial⟩, hs.pick (.c .z (.c .z .n))⟩)))))))
 refine .exitS [6] r r (.drop (.s .z) (.sr (.ks 3 r (.nilS [5, 4] r r (.pub .z fun I3445 hl3446 R3447 => ?_)))))
 have le3448 := IH.le.trans le3418 hl3446
 have le3449 := IH.le.trans hl3417 hl3446
 exact .ret (pret results67 (.t r (.t r .n)) le3448 ⟨(s3410, 0), _, _, r, R3447, hd⟩)

theorem W_ref07_Of {I : IH} {a0 : Int} {a1 : Int} {a2 : Int} {a3 : List Triple} {p1 : Option Addr} {c2 : Nat} {Q : (Rows × Int) → Prop} (R3 : RepSl eTriple I p1 c2 a3) (hd : ref07_Of a0 a1 a2 a3 Q) :
  PFun prog 32 [.int .i64 a0, .int .i64 a1, .int .i64 a2, .slice p1 a3.length c2] I (fun I_ v => ∃ r p4 c5 p7 c8 p10 c11, v = .tuple #[.agg #[.int .i64 r.1.Rows, .int .i64 r.1.Cols, .slice p4 r.1.Start.length c5, .slice p7 r.1.Col.length c8, .slice p10 r.1.Val.length c11], .int .i64 r.2] ∧ RepSl eI64 I_ p4 c5 r.1.Start ∧ RepSl eI64 I_ p7 c8 r.1.Col ∧ RepSl eI64 I_ p10 c11 r.1.Val ∧ Q r) := by
 refine Fun.enter func32 r ntmps32 r (.c (.c (.c (.c .n)))) fun w0 M => ?_
 refine .sr (.allocA zv39 r r fun b15 => ?_)
 refine .ks 1 r (.nilS [8, 3, 2, 1, 0] r r (.seq (.sr (.ks 1 r ?_))))
 have hw23 := W_ref02_Is (I := I) hd
 refine .callP call46 r hw23 r r fun v24 hv25 => ?_
 obtain ⟨r22, rfl, hd⟩ := hv25
 refine .ks 1 r (.nilS [17, 8, 3, 2, 1, 0] r r (.condP r hd (fun hb26 hd => ?_) fun hb26 hd => ?_))
 · exact .sr (.build zv39 un39 BI39 .n (by exact trivial) r r (.storeA sz39 r r .z (.t (.t (.t (.t (.t .nil))))) r r (.ks 1 r (.nilS [9, 8] r r (.ret (pret results32 (.w ia39 sz39 r .z r (.t r .n)) (.refl _) ⟨(({ Rows := 0, Cols := 0, Start := ([] : List Int), Col := ([] : List Int), Val := ([] : List Int) } : Rows), 8), _, _, _, _, _, _, r, (.nil _ _ _), (.nil _ _ _), (.nil _ _ _), hd⟩))))))
 refine .skipS [8, 3, 2, 1, 0] r r (.seq (.sr (.ks 3 r ?_)))
 refine splitP hd (fun hb31 hd => ?_) fun hb31 hd => ?_
 · rw [hb31]
   exact .ks 11 r (.nilS [32, 8, 3, 2, 1, 0] r r (.condKT r r (.sr (.build zv39 un39 BI39 .n (by exact trivial) r r (.storeA sz39 r r .z (.t (.t (.t (.t (.t .nil))))) r r (.ks 1 r (.nilS [9, 8] r r (.ret (pret results32 (.w ia39 sz39 r .z r (.t r .n)) (.refl _) ⟨(({ Rows := 0, Cols := 0, Start := ([] : List Int), Col := ([] : List Int), Val := ([] : List Int) } : Rows), 3), _, _, _, _, _, _, r, (.nil _ _ _), (.nil _ _ _), (.nil _ _ _), hd⟩)))))))))
 rw [hb31]
 refine .ks 4 r ?_
 refine splitP hd (fun hb32 hd => ?_) fun hb32 hd => ?_
 · rw [hb32]
   exact .ks 7 r (.nilS [32, 8, 3, 2, 1, 0] r r (.condKT r r (.sr (.build zv39 un39 BI39 .n (by exact trivial) r r (.storeA sz39 r r .z (.t (.t (.t (.t (.t .nil))))) r r (.ks 1 r (.nilS [9, 8] r r (.ret (pret results32 (.w ia39 sz39 r .z r (.t r .n)) (.refl _) ⟨(({ Rows := 0, Cols := 0, Start := ([] : List Int), Col := ([] : List Int), Val := ([] : List Int) } : Rows), 3), _, _, _, _, _, _, r, (.nil _ _ _), (.nil _ _ _), (.nil _ _ _), hd⟩)))))))))
 rw [hb32]
 refine .ks 4 r ?_
 refine splitP hd (fun hb33 hd => ?_) fun hb33 hd => ?_
 · rw [hb33]
   exact .ks 3 r (.nilS [32, 8, 3, 2, 1, 0] r r (.condKT r r (.sr (.build zv39 un39 BI39 .n (by exact trivial) r r (.storeA sz39 r r .z (.t (.t (.t (.t (.t .nil))))) r r (.ks 1 r (.nilS [9, 8] r r (.ret (pret results32 (.w ia39 sz39 r .z r (.t r .n)) (.refl _) ⟨(({ Rows := 0, Cols := 0, Start := ([] : List Int), Col := ([] : List Int), Val := ([] : List Int) } : Rows), 3), _, _, _, _, _, _, r, (.nil _ _ _), (.nil _ _ _), (.nil _ _ _), hd⟩)))))))))
 rw [hb33]
 refine .ks 3 r (.nilS [32, 8, 3, 2, 1, 0] r r (.condP r hd (fun hb34 hd => ?_) fun hb34 hd => ?_))
 · exact .sr (.build zv39 un39 BI39 .n (by exact trivial) r r (.storeA sz39 r r .z (.t (.t (.t (.t (.t .nil))))) r r (.ks 1 r (.nilS [9, 8] r r (.ret (pret results32 (.w ia39 sz39 r .z r (.t r .n)) (.refl _) ⟨(({ Rows := 0, Cols := 0, Start := ([] : List Int), Col := ([] : List Int), Val := ([] : List Int) } : Rows), 3), _, _, _, _, _, _, r, (.nil _ _ _), (.nil _ _ _), (.nil _ _ _), hd⟩))))))
 refine .skipS [8, 3, 2, 1, 0] r r (.seq (.sr (.ks 1 r (.len un31 r r r r (.ks 1 r (.nilS [36, 8, 3, 2, 1, 0] r r (.condP r hd (fun hb36 hd => ?_) fun hb36 hd => ?_)))))))
 · exact .sr (.build zv39 un39 BI39 .n (by exact trivial) r r (.storeA sz39 r r .z (.t (.t (.t (.t (.t .nil))))) r r (.ks 1 r (.nilS [9, 8] r r (.ret (pret results32 (.w ia39 sz39 r .z r (.t r .n)) (.refl _) ⟨(({ Rows := 0, Cols := 0, Start := ([] : List Int), Col := ([] : List Int), Val := ([] : List Int) } : Rows), 5), _, _, _, _, _, _, r, (.nil _ _ _), (.nil _ _ _), (.nil _ _ _), hd⟩))))))
 refine .skipS [8, 3, 2, 1, 0] r r (.sr (.ks 1 r (.nilS [10, 8, 3, 2, 1, 0] r r (.seq (.sr (.ks 1 r (.nilS [11, 10, 8, 3, 2, 1, 0] r r (.block (.own0 eEdge 116 ?_)))))))))
 refine .loop hd (fun (s : (List Edge) × Int) c w => match s with | (s656, s660) => ∃ I_ p657 c658, IH.le I I_ ∧ Ok ⟨135, [], none⟩ [(0, .int .i64 a0), (1, .int .i64 a1), (2, .int .i64 a2), (3, .slice p1 a3.length c2), (8, .pointer (some ⟨b15, 0, none⟩)), (10, .slice p657 s656.length c658), (11, .int .i64 s660)] c ∧ Sym w0 M I I_ [pto b15 (.cells #[.int .i64 0, .int .i64 0, .slice none 0 0, .slice none 0 0, .slice none 0 0] 39 (0, 0)), OwnSl eEdge 116 p657 c658 s656] w) (fun c w ho hs => ⟨I, _, _, (.refl _), ho.sub ⟨r, r, r, r, r, r, r, trivial⟩, hs.pick (.c (.s .z) (.c .z .n))⟩) ?_
 rintro ⟨s656, s660⟩ next662 hd c w hst
 obtain ⟨I663, p657, c658, hl664, hok, hsym⟩ := hst
 replace R3 := R3.mono hl664
 refine Cod.at hok hsym (.seq (.sr (.ks 2 r (.len un31 r r r r (.ks 1 r (.nilS [41, 11, 10, 8, 3, 2, 1, 0] r r (.condP r hd (fun hb666 hd => ?_) fun hb666 hd => ?_)))))))
 · refine .skipS [11, 10, 8, 3, 2, 1, 0] r r (.seq (.block (.seq (.sr (.ks 2 r ?_)))))
   obtain ⟨h707, x708, hx709, hd⟩ := hd
   obtain ⟨b710, o711, cs712, e713, hC714, hr715⟩ := R3.2 _ _ hx709
   cases hr715
   refine .ixa un31 sz78 r e713 r h707 (idx_lt hx709 h707) r r (.fa un78 r sz3 r (o := o711 + s660.toNat * 3) r r r (.ld1 (j := 0) ia3 hC714 r r r r r (.ks 2 r ?_)))
   refine splitP hd (fun hb716 hd => ?_) fun hb716 hd => ?_
   · rw [hb716]
     exact .ks 25 r (.nilS [75, 11, 10, 8, 3, 2, 1, 0] r r (.condKT r r (.sr (.build zv39 un39 BI39 .n (by exact trivial) r r (.storeA sz39 r r .z (.t (.t (.t (.t (.t .nil))))) r r (.ks 1 r (.nilS [9, 8] r r (.drop (.s .z) (.ret (pret results32 (.w ia39 sz39 r .z r (.t r .n)) hl664 ⟨(({ Rows := 0, Cols := 0, Start := ([] : List Int), Col := ([] : List Int), Val := ([] : List Int) } : Rows), 3), _, _, _, _, _, _, r, (.nil _ _ _), (.nil _ _ _), (.nil _ _ _), hd⟩))))))))))
   rw [hb716]
   refine .ks 2 r ?_
   obtain ⟨h717, x718, hx719, hd⟩ := hd
   obtain ⟨b720, o721, cs722, e723, hC724, hr725⟩ := R3.2 _ _ hx719
   cases hr725
   refine .gyes r r r (.ixa un31 sz78 r e723 r h717 (idx_lt hx719 h717) r r (.gyes r r r (.fa un78 r sz3 r (o := o721 + s660.toNat * 3) r r r (.gyes r r r (.ld1 (j := 0) ia3 hC724 r r r r r (.ks 4 r ?_))))))
   refine splitP hd (fun hb726 hd => ?_) fun hb726 hd => ?_
   · rw [hb726]
     exact .ks 16 r (.nilS [75, 11, 10, 8, 3, 2, 1, 0] r r (.condKT r r (.sr (.build zv39 un39 BI39 .n (by exact trivial) r r (.storeA sz39 r r .z (.t (.t (.t (.t (.t .nil))))) r r (.ks 1 r (.nilS [9, 8] r r (.drop (.s .z) (.ret (pret results32 (.w ia39 sz39 r .z r (.t r .n)) hl664 ⟨(({ Rows := 0, Cols := 0, Start := ([] : List Int), Col := ([] : List Int), Val := ([] : List Int) } : Rows), 3), _, _, _, _, _, _, r, (.nil _ _ _), (.nil _ _ _), (.nil _ _ _), hd⟩))))))))))
   rw [hb726]
   refine .ks 2 r ?_
   obtain ⟨h727, x728, hx729, hd⟩ := hd
   obtain ⟨b730, o731, cs732, e733, hC734, hr735⟩ := R3.2 _ _ hx729
   cases hr735
   refine .gyes r r r (.ixa un31 sz78 r e733 r h727 (idx_lt hx729 h727) r r (.gyes r r r (.fa un78 r sz3 r (o := o731 + s660.toNat * 3 + 1) r r r (.gyes r r r (.ld1 (j := 1) ia3 hC734 r r r r r (.ks 3 r ?_))))))
   refine splitP hd (fun hb736 hd => ?_) fun hb736 hd => ?_
   · rw [hb736]
     exact .ks 8 r (.nilS [75, 11, 10, 8, 3, 2, 1, 0] r r (.condKT r r (.sr (.build zv39 un39 BI39 .n (by exact trivial) r r (.storeA sz39 r r .z (.t (.t (.t (.t (.t .nil))))) r r (.ks 1 r (.nilS [9, 8] r r (.drop (.s .z) (.ret (pret results32 (.w ia39 sz39 r .z r (.t r .n)) hl664 ⟨(({ Rows := 0, Cols := 0, Start := ([] : List Int), Col := ([] : List Int), Val := ([] : List Int) } : Rows), 3), _, _, _, _, _, _, r, (.nil _ _ _), (.nil _ _ _), (.nil _ _ _), hd⟩))))))))))
   rw [hb736]
   refine .ks 2 r ?_
   obtain ⟨h737, x738, hx739, hd⟩ := hd
   obtain ⟨b740, o741, cs742, e743, hC744, hr745⟩ := R3.2 _ _ hx739
   cases hr745
   refine .gyes r r r (.ixa un31 sz78 r e743 r h737 (idx_lt hx739 h737) r r (.gyes r r r (.fa un78 r sz3 r (o := o741 + s660.toNat * 3 + 1) r r r (.gyes r r r (.ld1 (j := 1) ia3 hC744 r r r r r (.ks 3 r (.nilS [75, 11, 10, 8, 3, 2, 1, 0] r r (.condP r hd (fun hb746 hd => ?_) fun hb746 hd => ?_))))))))
   · exact .sr (.build zv39 un39 BI39 .n (by exact trivial) r r (.storeA sz39 r r .z (.t (.t (.t (.t (.t .nil))))) r r (.ks 1 r (.nilS [9, 8] r r (.drop (.s .z) (.ret (pret results32 (.w ia39 sz39 r .z r (.t r .n)) hl664 ⟨(({ Rows := 0, Cols := 0, Start := ([] : List Int), Col := ([] : List Int), Val := ([] : List Int) } : Rows), 3), _, _, _, _, _, _, r, (.nil _ _ _), (.nil _ _ _), (.nil _ _ _), hd⟩)))))))
   refine .skipS [11, 10, 8, 3, 2, 1, 0] r r (.ownF (.s .z) fun hne747 => ?_)
   refine .dr [0, 1, 2, 3, 4, 5, 6, 7, 8, 9, 10, 11, 12, 13, 14, 15, 16, 17, 18] 19 (.fk 3 r ?_)
   obtain ⟨h748, x749, hx750, hd⟩ := hd
   obtain ⟨b751, o752, cs753, e754, hC755, hr756⟩ := R3.2 _ _ hx750
   cases hr756
   refine .g r r r (fun _ => .ixa un31 sz78 r e754 r h748 (idx_lt hx750 h748) r r .mk) (.g r r r (fun _ => .fa un78 r sz3 r (o := o752 + s660.toNat * 3) r r r .mk) (.g r r r (fun _ => .ld1 (j := 0) ia3 hC755 r r r r r .mk) (.fk 2 r ?_)))
   obtain ⟨h757, x758, hx759, hd⟩ := hd
   obtain ⟨b760, o761, cs762, e763, hC764, hr765⟩ := R3.2 _ _ hx759
   cases hr765
   refine .g r r r (fun _ => .ixa un31 sz78 r e763 r h757 (idx_lt hx759 h757) r r .mk) (.g r r r (fun _ => .fa un78 r sz3 r (o := o761 + s660.toNat * 3 + 1) r r r .mk) (.g r r r (fun _ => .ld1 (j := 1) ia3 hC764 r r r r r .mk) (.fk 2 r ?_)))
   obtain ⟨h766, x767, hx768, hd⟩ := hd
   obtain ⟨b769, o770, cs771, e772, hC773, hr774⟩ := R3.2 _ _ hx768
   cases hr774
   refine .g r r r (fun _ => .ixa un31 sz78 r e772 r h766 (idx_lt hx768 h766) r r .mk) (.g r r r (fun _ => .fa un78 r sz2 r (o := o770 + s660.toNat * 3 + 2) r r r .mk) (.g r r r (fun _ => .ld1 (j := 2) ia2 hC773 r r r r r .mk) (.g r r r (fun _ => .build zv116 un116 BI116 (.c r r r (.t .nil) (.c r r r (.s (.t .nil)) (.c r r r (.s (.s (.t .nil))) .n))) (by exact ⟨⟨_, _, r, r, r⟩, ⟨⟨_, _, r, r, r⟩, ⟨⟨_, _, r, r, r⟩, trivial⟩⟩⟩) r r .mk) (.ww r fun ex => ?_))))
   refine .buildSlice 1 un114 sz116 zv116 r r (.c r r r .n) r r fun b775 => ?_
   refine .so 3 r r r (.ck 1 r r trivial) (.ww r fun ex => ?_)
   obtain ⟨hl777, hd⟩ := hd
   refine .append (ys := [({ From := x749.Row, To := x758.Col, W := x767.Val } : Edge)]) 24 (.s (.s .z)) un114 un114 IN116 r r r r r r r r r (.box .z (.one r) r) hl777 r r fun p778 c779 => ?_
   exact .so 3 r r r trivial (.e2 19 (.ks 1 r (.nilS [10, 11, 8, 3, 2, 1, 0] r r (.drop (.s .z) (.region (.ks 3 r (.nil' fun c w ho hs => ⟨((s656 ++ ([({ From := x749.Row, To := x758.Col, W := x767.Val } : Edge)])), w64 (s660 + 1)), hd, I663, _, _, hl664, ho.sub ⟨r, r, r, r, r, r, r, trivial⟩, hs.pick (.c (.s .z) (.c .z .n))⟩)))))))
 refine .exitS [10, 8, 2, 1, 0] r r (.sr (.ks 2 r (.pub (.s .z) fun I796 hl797 R798 => ?_)))
 have le799 := IH.le.trans hl664 hl797
 have hw809 := W_ref05_Combine (I := I796) R798 hd
 refine .call call67 r hw809 r r fun v804 I801 hl802 hv803 => ?_
 obtain ⟨r800, p806, c807, rfl, R808, hd⟩ := hv803
 have le810 := IH.le.trans le799 hl802
 replace R798 := R798.mono hl802
 refine .ks 5 r (.nilS [12, 10, 8, 2, 1] r r (.seq (.sr (.ks 2 r (.nilS [103, 12, 10, 8, 2, 1] r r (.condP r hd (fun hb812 hd => ?_) fun hb812 hd => ?_))))))
 · exact .sr (.build zv39 un39 BI39 .n (by exact trivial) r r (.ks 1 r (.storeA sz39 r r .z (.t (.t (.t (.t (.t .nil))))) r r (.ks 1 r (.nilS [9, 8] r r (.ret (pret results32 (.w ia39 sz39 r .z r (.t r .n)) le810 ⟨(({ Rows := 0, Cols := 0, Start := ([] : List Int), Col := ([] : List Int), Val := ([] : List Int) } : Rows), r800.2), _, _, _, _, _, _, r, (.nil _ _ _), (.nil _ _ _), (.nil _ _ _), hd⟩)))))))
 refine .skipS [10, 8, 2, 1] r r (.sr (.ks 1 r (.nilS [13, 10, 8, 2, 1] r r (.seq (.sr (.ks 1 r (.nilS [14, 13, 10, 8, 2, 1] r r (.block (.own0 eTriple 78 ?_)))))))))
 refine .loop hd (fun (s : (List Triple) × Int) c w => match s with | (s900, s904) => ∃ I_ p901 c902, IH.le I801 I_ ∧ Ok ⟨135, [], none⟩ [(1, .int .i64 a1), (2, .int .i64 a2), (8, .pointer (some ⟨b15, 0, none⟩)), (10, .slice p806 r800.1.length c807), (13, .slice p901 s900.length c902), (14, .int .i64 s904)] c ∧ Sym w0 M I I_ [pto b15 (.cells #[.int .i64 0, .int .i64 0, .slice none 0 0, .slice none 0 0, .slice none 0 0] 39 (0, 0)), OwnSl eTriple 78 p901 c902 s900] w) (fun c w ho hs => ⟨I801, _, _, (.refl _), ho.sub ⟨r, r, r, r, r, r, trivial⟩, hs.pick (.c (.s .z) (.c .z .n))⟩) ?_
 rintro ⟨s900, s904⟩ next906 hd c w hst
 obtain ⟨I907, p901, c902, hl908, hok, hsym⟩ := hst
 have le909 := IH.le.trans le810 hl908
 replace R808 := R808.mono hl908
 refine Cod.at hok hsym (.seq (.sr (.ks 2 r (.len un114 r r r r (.ks 1 r (.nilS [109, 14, 13, 10, 8, 2, 1] r r (.condP r hd (fun hb911 hd => ?_) fun hb911 hd => ?_)))))))
 · refine .skipS [14, 13, 10, 8, 2, 1] r r (.seq (.block (.ownF (.s .z) fun hne912 => ?_)))
   refine .dr [0, 1, 2, 3, 4, 5, 6, 7, 8, 9, 10, 11, 12, 13, 14, 15, 16, 17, 18] 19 (.fk 3 r ?_)
   obtain ⟨h913, x914, hx915, hd⟩ := hd
   obtain ⟨b916, o917, cs918, e919, hC920, hr921⟩ := R808.2 _ _ hx915
   cases hr921
   refine .g r r r (fun _ => .ixa un114 sz116 r e919 r h913 (idx_lt hx915 h913) r r .mk) (.g r r r (fun _ => .fa un116 r sz3 r (o := o917 + s904.toNat * 3) r r r .mk) (.g r r r (fun _ => .ld1 (j := 0) ia3 hC920 r r r r r .mk) (.fk 2 r ?_)))
   obtain ⟨h922, x923, hx924, hd⟩ := hd
   obtain ⟨b925, o926, cs927, e928, hC929, hr930⟩ := R808.2 _ _ hx924
   cases hr930
   refine .g r r r (fun _ => .ixa un114 sz116 r e928 r h922 (idx_lt hx924 h922) r r .mk) (.g r r r (fun _ => .fa un116 r sz3 r (o := o926 + s904.toNat * 3 + 1) r r r .mk) (.g r r r (fun _ => .ld1 (j := 1) ia3 hC929 r r r r r .mk) (.fk 2 r ?_)))
   obtain ⟨h931, x932, hx933, hd⟩ := hd
   obtain ⟨b934, o935, cs936, e937, hC938, hr939⟩ := R808.2 _ _ hx933
   cases hr939
   refine .g r r r (fun _ => .ixa un114 sz116 r e937 r h931 (idx_lt hx933 h931) r r .mk) (.g r r r (fun _ => .fa un116 r sz2 r (o := o935 + s904.toNat * 3 + 2) r r r .mk) (.g r r r (fun _ => .ld1 (j := 2) ia2 hC938 r r r r r .mk) (.g r r r (fun _ => .build zv78 un78 BI78 (.c r r r (.t .nil) (.c r r r (.s (.t .nil)) (.c r r r (.s (.s (.t .nil))) .n))) (by exact ⟨⟨_, _, r, r, r⟩, ⟨⟨_, _, r, r, r⟩, ⟨⟨_, _, r, r, r⟩, trivial⟩⟩⟩) r r .mk) (.ww r fun ex => ?_))))
   refine .buildSlice 1 un31 sz78 zv78 r r (.c r r r .n) r r fun b940 => ?_
   refine .so 3 r r r (.ck 1 r r trivial) (.ww r fun ex => ?_)
   obtain ⟨hl942, hd⟩ := hd
   refine .append (ys := [({ Row := x914.From, Col := x923.To, Val := x932.W } : Triple)]) 24 (.s (.s .z)) un31 un31 IN78 r r r r r r r r r (.box .z (.one r) r) hl942 r r fun p943 c944 => ?_
   exact .so 3 r r r trivial (.e2 19 (.ks 1 r (.nilS [13, 14, 10, 8, 2, 1] r r (.drop (.s .z) (.region (.ks 3 r (.nil' fun c w ho hs => ⟨((s900 ++ ([({ Row := x914.From, Col := x923.To, Val := x932.W } : Triple)])), w64 (s904 + 1)), hd, I907, _, _, hl908, ho.sub ⟨r, r, r, r, r, r, trivial⟩, hs.pick (.c (.s .z) (.c .z .n))⟩)))))))
 refine .exitS [13, 8, 2, 1] r r (.sr (.ks 3 r (.pub (.s .z) fun I946 hl947 R948 => ?_)))
 have le949 := IH.le.trans le909 hl947
 have le950 := IH.le.trans hl908 hl947
 have hw966 := W_ref07_built (I := I946) R948 hd
 refine .call call68 r hw966 r r fun v955 I952 hl953 hv954 => ?_
 obtain ⟨r951, p957, c958, p960, c961, p963, c964, rfl, R959, R962, R965, hd⟩ := hv954
 have le967 := IH.le.trans le949 hl953
 have le968 := IH.le.trans le950 hl953
 replace R948 := R948.mono hl953
 exact .storeA sz39 r r .z (.t (.t (.t (.t (.t .nil))))) r r (.ks 1 r (.nilS [9, 8] r r (.ret (pret results32 (.w ia39 sz39 r .z r (.t r .n)) le967 ⟨(r951, 0), _, _, _, _, _, _, r, R959, R962, R965, hd⟩))))

theorem W_csr_part {I : IH} {a0 : Rows} {a1 : Int} {p1 : Option Addr} {c2 : Nat} {p4 : Option Addr} {c5 : Nat} {p7 : Option Addr} {c8 : Nat} {Q : ((List Int) × (List Int)) → Prop} (R3 : RepSl eI64 I p1 c2 a0.Start) (R6 : RepSl eI64 I p4 c5 a0.Col) (R9 : RepSl eI64 I p7 c8 a0.Val) (hd : csr_part a0 a1 Q) :
  PFun prog 97 [.agg #[.int .i64 a0.Rows, .int .i64 a0.Cols, .slice p1 a0.Start.length c2, .slice p4 a0.Col.length c5, .slice p7 a0.Val.length c8], .int .i64 a1] I (fun I_ v => ∃ r p10 c11 p13 c14, v = .tuple #[.slice p10 r.1.length c11, .slice p13 r.2.length c14] ∧ RepSl eI64 I_ p10 c11 r.1 ∧ RepSl eI64 I_ p13 c14 r.2 ∧ Q r) := by
 refine Fun.enter func97 r ntmps97 r (.c (.c .n)) fun w0 M => ?_
 refine .sr (.boxA r r r fun b18 => ?_)
 refine .ks 2 r (.nilS [2, 1] r r (.seq (.dr [0, 1, 2, 3, 4, 5, 6, 7, 8, 9, 10, 11] 12 (.g r r r (fun _ => .fa un39 r sz36 r (o := 2) r r r .mk) (.g r r r (fun _ => .load1 ia36 r .z r r r .mk) (.fk 1 r ?_))))))
 obtain ⟨h38, x39, hx40, hd⟩ := hd
 obtain ⟨b41, o42, cs43, e44, hC45, hr46⟩ := R3.2 _ _ hx40
 cases hr46
 refine .g r r r (fun _ => .ixa un36 sz3 r e44 r h38 (idx_lt hx40 h38) r r .mk) (.g r r r (fun _ => .ld1 (j := 0) ia3 hC45 r r r r r .mk) (.g r r r (fun _ => .fa un39 r sz36 r (o := 2) r r r .mk) (.g r r r (fun _ => .load1 ia36 r .z r r r .mk) (.fk 2 r ?_))))
 obtain ⟨h47, x48, hx49, hd⟩ := hd
 obtain ⟨b50, o51, cs52, e53, hC54, hr55⟩ := R3.2 _ _ hx49
 cases hr55
 refine .g r r r (fun _ => .ixa un36 sz3 r e53 r h47 (idx_lt hx49 h47) r r .mk) (.g r r r (fun _ => .ld1 (j := 0) ia3 hC54 r r r r r .mk) (.fk 1 r (.e2 12 (.ks 1 r (.nilS [7, 6, 2] r r (.seq (.dr [0, 1, 2, 3, 4, 5, 6, 7, 8, 9, 10, 11, 12] 13 (.g r r r (fun _ => .fa un39 r sz36 r (o := 3) r r r .mk) (.g r r r (fun _ => .load1 ia36 r .z r r r .mk) ?_)))))))))
 refine .fk 3 r ?_
 obtain ⟨h56, h57, h58, hd⟩ := hd
 have h64 : Int.toNat x39 ≤ Int.toNat x48 := by omega
 have h65 : Int.toNat x48 ≤ a0.Col.length := by omega
 obtain ⟨p59, c60, e62, e63, R61⟩ := RepSl.sliceW R6 (Int.toNat x39) (Int.toNat x48) (Int.toNat x48) h64 h65 (.inr rfl)
 refine .g r r r (fun _ => .sliceW (L := Int.toNat x39) (H := Int.toNat x48) (cm := Int.toNat x48) un36 sz3 r r R6.1 r r r (.inr ⟨_, _, r, h56, r⟩) (.inr ⟨_, _, r, (by omega), r⟩) (.inr r) h64 h65 r e62 e63 r r .mk) (.g r r r (fun _ => .fa un39 r sz37 r (o := 4) r r r .mk) (.g r r r (fun _ => .load1 ia37 r .z r r r .mk) (.fk 3 r ?_)))
 obtain ⟨h66, h67, h68, hd⟩ := hd
 have h74 : Int.toNat x39 ≤ Int.toNat x48 := by omega
 have h75 : Int.toNat x48 ≤ a0.Val.length := by omega
 obtain ⟨p69, c70, e72, e73, R71⟩ := RepSl.sliceW R9 (Int.toNat x39) (Int.toNat x48) (Int.toNat x48) h74 h75 (.inr rfl)
 exact .g r r r (fun _ => .sliceW (L := Int.toNat x39) (H := Int.toNat x48) (cm := Int.toNat x48) un37 sz2 r r R9.1 r r r (.inr ⟨_, _, r, h66, r⟩) (.inr ⟨_, _, r, (by omega), r⟩) (.inr r) h74 h75 r e72 e73 r r .mk) (.fk 1 r (.e2 13 (.ks 1 r (.nilS [5, 4] r r (.drop .z (.ret (pret results97 (.t r (.t r .n)) (.refl _) ⟨(((a0.Col.take x48.toNat).drop x39.toNat), ((a0.Val.take x48.toNat).drop x39.toNat)), _, _, _, _, r, R61, R71, hd⟩)))))))

theorem W_cmp_Or_int {I : IH} {a0 : List Int} {p1 : Option Addr} {c2 : Nat} {Q : Int → Prop} (R3 : RepSl eI64 I p1 c2 a0) (hd : cmp_Or_int a0 Q) :
  PFun prog 130 [.slice p1 a0.length c2] I (fun _ => o0_ Q) := by
 refine Fun.enter func130 r ntmps130 r (.c .n) fun w0 M => ?_
 refine .sr (.ks 1 r (.nilS [0] r r (.sr (.ks 1 r (.nilS [3, 0] r r (.seq (.sr (.ks 1 r (.len un36 r r r r ?_)))))))))
 refine .ks 1 r (.nilS [8, 7, 6, 3] r r (.block (.loop hd (fun (s31 : Int) c w => ∃ I_, IH.le I I_ ∧ Ok ⟨18, [], none⟩ [(3, .int .i64 0), (6, .slice p1 a0.length c2), (7, .int .i64 (a0.length : Int)), (8, .int .i64 s31)] c ∧ Sym w0 M I I_ [] w) (fun c w ho hs => ⟨I, (.refl _), ho.sub ⟨r, r, r, r, trivial⟩, hs.pick .n⟩) ?_)))
 rintro s31 next32 hd c w hst
 obtain ⟨I33, hl34, hok, hsym⟩ := hst
 replace R3 := R3.mono hl34
 refine Cod.at hok hsym (.sr (.ks 1 r (.nilS [9, 8, 7, 6, 3] r r (.seq (.condP r hd (fun hb36 hd => ?_) fun hb36 hd => ?_)))))
 · refine .skipS [8, 7, 6, 3] r r (.seq (.block (.sr ?_)))
   obtain ⟨h37, x38, hx39, hd⟩ := hd
   obtain ⟨b40, o41, cs42, e43, hC44, hr45⟩ := R3.2 _ _ hx39
   cases hr45
   refine .ixa un36 sz3 r e43 r h37 (idx_lt hx39 h37) r r (.ld1 (j := 0) ia3 hC44 r r r r r (.ks 1 r (.nilS [5, 8, 7, 6, 3] r r (.sr (.ks 3 r (.nilS [14, 5, 8, 7, 6, 3] r r (.condP r hd (fun hb46 hd => ?_) fun hb46 hd => ?_)))))))
   · exact .sr (.ks 2 r (.nilS [2] r r (.ret (pret results130 (.t r .n) hl34 ⟨x38, r, hd⟩))))
   exact .skipS [8, 7, 6, 3] r r (.region (.ks 2 r (.nil' fun c w ho hs => ⟨(w64 (s31 + 1)), hd, I33, hl34, ho.sub ⟨r, r, r, r, trivial⟩, hs.pick .n⟩)))
 exact .exitS [3] r r (.sr (.ks 2 r (.nilS [2] r r (.ret (pret results130 (.t r .n) hl34 ⟨0, r, hd⟩)))))

theorem W_cmp_Compare_int {I : IH} {a0 : Int} {a1 : Int} {Q : Int → Prop}  (hd : cmp_Compare_int a0 a1 Q) :
  PFun prog 131 [.int .i64 a0, .int .i64 a1] I (fun _ => o0_ Q) := by
 refine Fun.enter func131 r ntmps131 r (.c (.c .n)) fun w0 M => ?_
 refine .sr (.ks 1 r (.nilS [1, 0] r r (.sr (.ks 1 r ?_))))
 have hw6 := W_cmp_isNaN_int (I := I) hd
 refine .callP call150 r hw6 r r fun v7 hv8 => ?_
 obtain ⟨r5, rfl, hd⟩ := hv8
 refine .ks 1 r (.nilS [5, 1, 0] r r (.sr (.ks 1 r ?_)))
 have hw14 := W_cmp_isNaN_int (I := I) hd
 refine .callP call150 r hw14 r r fun v15 hv16 => ?_
 obtain ⟨r13, rfl, hd⟩ := hv16
 refine .ks 1 r (.nilS [6, 5, 1, 0] r r (.seq (.sr (.ks 1 r (.nilS [11, 6, 1, 0] r r (.condP r hd (fun hb19 hd => ?_) fun hb19 hd => ?_))))))
 · refine .seq (.sr (.ks 1 r (.nilS [12] r r (.condP r hd (fun hb20 hd => ?_) fun hb20 hd => ?_))))
   · exact .sr (.ks 1 r (.nilS [4] r r (.ret (pret results131 (.t r .n) (.refl _) ⟨0, r, hd⟩))))
   exact .skipS [] r r (.sr (.ks 1 r (.nilS [4] r r (.ret (pret results131 (.t r .n) (.refl _) ⟨(-1), r, hd⟩)))))
 refine .skipS [6, 1, 0] r r (.seq (.sr (.ks 1 r (.nilS [13, 1, 0] r r (.condP r hd (fun hb22 hd => ?_) fun hb22 hd => ?_)))))
 · exact .sr (.ks 1 r (.nilS [4] r r (.ret (pret results131 (.t r .n) (.refl _) ⟨1, r, hd⟩))))
 refine .skipS [1, 0] r r (.seq (.sr (.ks 3 r (.nilS [16, 1, 0] r r (.condP r hd (fun hb24 hd => ?_) fun hb24 hd => ?_)))))
 · exact .sr (.ks 1 r (.nilS [4] r r (.ret (pret results131 (.t r .n) (.refl _) ⟨(-1), r, hd⟩))))
 refine .skipS [1, 0] r r (.seq (.sr (.ks 3 r (.nilS [19] r r (.condP r hd (fun hb25 hd => ?_) fun hb25 hd => ?_)))))
 · exact .sr (.ks 1 r (.nilS [4] r r (.ret (pret results131 (.t r .n) (.refl _) ⟨1, r, hd⟩))))
 exact .skipS [] r r (.sr (.ks 1 r (.nilS [4] r r (.ret (pret results131 (.t r .n) (.refl _) ⟨0, r, hd⟩)))))

theorem W_csr_built {I : IH} {a0 : Int} {a1 : Int} {a2 : List Triple} {p1 : Option Addr} {c2 : Nat} {Q : Rows → Prop} (R3 : RepSl eTriple I p1 c2 a2) (hd : csr_built a0 a1 a2 Q) :
  PFun prog 100 [.int .i64 a0, .int .i64 a1, .slice p1 a2.length c2] I (o10_ Q) := by
 refine Fun.enter func100 r ntmps100 r (.c (.c (.c .n))) fun w0 M => ?_
 refine .sr (.allocA zv39 r r fun b15 => ?_)
 refine .nilS [6, 2, 1, 0] r r (.sr (.ks 2 r ?_))
 have hw56 := W_csr_empty (I := I) hd
 refine .callO call107 r hw56 r r fun v42 I39 l43 hl40 hv41 => ?_
 obtain ⟨r38, p44, c45, p47, c48, p50, c51, rfl, rfl, hd⟩ := hv41
 replace R3 := R3.mono hl40
 refine .allocA zv39 r r fun b57 => ?_
 refine .storeA sz39 r r .z (.t (.t (.t (.t (.t .nil))))) r r (.nilS [7, 6, 2, 0] r r (.seq (.sr (.ks 1 r (.len un31 r r r r (.ks 1 r (.nilS [16, 15, 14, 7, 6, 0] r r (.block (.loop hd (fun (s : (List Int) × (List Int) × (List Int) × Int) c w => match s with | (s414, s418, s422, s426) => ∃ I_ p415 c416 p419 c420 p423 c424, IH.le I39 I_ ∧ Ok ⟨63, [], none⟩ [(0, .int .i64 a0), (6, .pointer (some ⟨b15, 0, none⟩)), (7, .pointer (some ⟨b57, 0, none⟩)), (14, .slice p1 a2.length c2), (15, .int .i64 (a2.length : Int)), (16, .int .i64 s426)] c ∧ Sym w0 M I I_ [pto b15 (.cells #[.int .i64 0, .int .i64 0, .slice none 0 0, .slice none 0 0, .slice none 0 0] 39 (0, 0)), pto b57 (.cells #[.int .i64 r38.Rows, .int .i64 r38.Cols, .slice p415 s414.length c416, .slice p419 s418.length c420, .slice p423 s422.length c424] 39 (0, 0)), OwnSl eI64 3 p415 c416 s414, OwnSl eI64 3 p419 c420 s418, OwnSl eI64 2 p423 c424 s422] w) (fun c w ho hs => ⟨I39, _, _, _, _, _, _, (.refl _), ho.sub ⟨r, r, r, r, r, r, trivial⟩, hs.pick (.c (.s (.s (.s (.s .z)))) (.c .z (.c .z (.c .z (.c .z .n)))))⟩) ?_)))))))))
 rintro ⟨s414, s418, s422, s426⟩ next427 hd c w hst
 obtain ⟨I428, p415, c416, p419, c420, p423, c424, hl429, hok, hsym⟩ := hst
 have le430 := IH.le.trans hl40 hl429
 replace R3 := R3.mono hl429
 refine Cod.at hok hsym (.sr (.ks 1 r (.nilS [17, 16, 15, 14, 7, 6, 0] r r (.seq (.condP r hd (fun hb432 hd => ?_) fun hb432 hd => ?_)))))
 · refine .skipS [16, 15, 14, 7, 6, 0] r r (.seq (.block (.sr ?_)))
   obtain ⟨h444, x445, hx446, hd⟩ := hd
   obtain ⟨b447, o448, cs449, e450, hC451, hr452⟩ := R3.2 _ _ hx446
   cases hr452
   refine .ixa un31 sz78 r e450 r h444 (idx_lt hx446 h444) r r (.ldW isAgg78 sz78 hC451 r r r r (.allocA zv78 r r fun b453 => ?_))
   refine .storeA sz78 r r .z (.t (.t (.t .nil))) r r (.nilS [9, 16, 15, 14, 7, 6, 0] r r (.sr (.fa un39 r sz36 r (o := 2) r r r (.load1 ia36 r (.s (.s .z)) r r r (.fa un78 r sz3 r (o := 0) r r r (.load1 ia3 r .z r r r (.ks 1 r ?_)))))))
   obtain ⟨h463, x464, hx465, hd⟩ := hd
   refine .ownNe (.s (.s (.s .z))) (idx_ne hx465) fun b466 e467 => ?_
   cases e467
   refine .ixa0 un36 sz3 r r h463 (idx_lt hx465 h463) r r (.lo1 (j := 0) ia3 (.s (.s (.s .z))) hx465 r r r r r (.ks 1 r ?_))
   obtain ⟨h468, x469, hx470, hd⟩ := hd
   refine .ixa0 un36 sz3 r r h468 (idx_lt hx470 h468) r r (.stO1 (j := 0) (v' := (w64 (x464 + 1))) sz3 (.s (.s (.s .z))) hx470 r r r (.t .nil) r (.sub (E' := [(0, _), (6, _), (7, _), (14, _), (15, _), (16, _), (9, _), (20, _), (21, .slice (some ⟨b466, 0, none⟩) (s414.set ((w64 (x445.Row + 1)).toNat) (w64 (x464 + 1))).length c416), (22, _), (23, _), (24, _), (25, _), (26, _), (27, _), (28, _)]) ⟨r, r, r, r, r, r, r, r, (by simp only [List.length_set]; rfl), r, r, r, r, r, r, r, trivial⟩ (.reat (.s (.s .z)) (B := pto b57 (.cells #[.int .i64 r38.Rows, .int .i64 r38.Cols, .slice (some ⟨b466, 0, none⟩) (s414.set ((w64 (x445.Row + 1)).toNat) (w64 (x464 + 1))).length c416, .slice p419 s418.length c420, .slice p423 s422.length c424] 39 (0, 0))) (by simp only [List.length_set]) (.nilS [9, 16, 15, 14, 7, 6, 0] r r (.sr (.fa un39 r sz36 r (o := 3) r r r (.load1 ia36 r (.s (.s .z)) r r r (.fa un78 r sz3 r (o := 1) r r r (.load1 ia3 r .z r r r ?_)))))))))
   refine .buildSlice 1 un36 sz3 zv3 r r (.c r r r .n) r r fun b471 => ?_
   obtain ⟨hl473, hd⟩ := hd
   refine .append (ys := [x445.Col]) 8 (.s (.s (.s (.s (.s .z))))) un36 un36 IN3 r r r r r r r r r (.box .z (.one r) r) hl473 r r fun p474 c475 => ?_
   refine .fa un39 r sz36 r (o := 3) r r r (.store1 sz36 r r (.s (.s (.s (.s .z)))) (.s (.s (.s (.t .nil)))) r (.nilS [9, 16, 15, 14, 7, 6, 0] r r (.drop (.s .z) (.region (.fa un39 r sz37 r (o := 4) r r r (.load1 ia37 r (.s (.s (.s .z))) r r r (.fa un78 r sz2 r (o := 2) r r r (.load1 ia2 r (.s .z) r r r (.buildSlice 1 un37 sz2 zeroValue2 r r (.c r r r .n) r r fun b477 => ?_)))))))))
   obtain ⟨hl479, hd⟩ := hd
   refine .append (ys := [x445.Val]) 8 (.s (.s (.s (.s (.s (.s .z)))))) un37 un37 IN2 r r r r r r r r r (.box .z (.one r) r) hl479 r r fun p480 c481 => ?_
   exact .fa un39 r sz37 r (o := 4) r r r (.store1 sz37 r r (.s (.s (.s (.s (.s .z))))) (.s (.s (.s (.s (.t .nil))))) r (.nilS [16, 15, 14, 7, 6, 0] r r (.drop (.s .z) (.drop (.s (.s .z)) (.region (.ks 2 r (.nil' fun c w ho hs => ⟨((s414.set ((w64 (x445.Row + 1)).toNat) (w64 (x464 + 1))), (s418 ++ ([x445.Col])), (s422 ++ ([x445.Val])), w64 (s426 + 1)), hd, I428, _, _, _, _, _, _, hl429, ho.sub ⟨r, r, r, r, r, r, trivial⟩, hs.pick (.c (.s (.s .z)) (.c (.s (.s .z)) (.c (.s (.s .z)) (.c (.s .z) (.c .z .n)))))⟩)))))))
 refine .exitS [7, 6, 0] r r (.seq (.sr (.ks 2 r (.nilS [45, 44, 7, 6] r r (.block (.loop hd (fun (s : (List Int) × Int) c w => match s with | (s530, s534) => ∃ I_ p531 c532, IH.le I428 I_ ∧ Ok ⟨63, [], none⟩ [(6, .pointer (some ⟨b15, 0, none⟩)), (7, .pointer (some ⟨b57, 0, none⟩)), (44, .int .i64 a0), (45, .int .i64 s534)] c ∧ Sym w0 M I I_ [pto b15 (.cells #[.int .i64 0, .int .i64 0, .slice none 0 0, .slice none 0 0, .slice none 0 0] 39 (0, 0)), pto b57 (.cells #[.int .i64 r38.Rows, .int .i64 r38.Cols, .slice p531 s530.length c532, .slice p419 s418.length c420, .slice p423 s422.length c424] 39 (0, 0)), OwnSl eI64 3 p531 c532 s530, OwnSl eI64 3 p419 c420 s418, OwnSl eI64 2 p423 c424 s422] w) (fun c w ho hs => ⟨I428, _, _, (.refl _), ho.sub ⟨r, r, r, r, trivial⟩, hs.pick (.c .z (.c .z (.c .z (.c .z (.c .z .n)))))⟩) ?_))))))
 rintro ⟨s530, s534⟩ next535 hd c w hst
 obtain ⟨I536, p531, c532, hl537, hok, hsym⟩ := hst
 have le538 := IH.le.trans le430 hl537
 have le539 := IH.le.trans hl429 hl537
 refine Cod.at hok hsym (.sr (.ks 1 r (.nilS [46, 45, 44, 7, 6] r r (.seq (.condP r hd (fun hb541 hd => ?_) fun hb541 hd => ?_)))))
 · refine .skipS [45, 44, 7, 6] r r (.seq (.block (.sr (.ks 2 r (.nilS [10, 45, 44, 7, 6] r r (.ownF (.s (.s .z)) fun hne542 => ?_))))))
   refine .ownF (.s (.s (.s .z))) fun hne543 => ?_
   refine .ownF (.s (.s (.s (.s .z)))) fun hne544 => ?_
   refine .dr [0, 1, 2, 3, 4, 5, 6, 7, 8, 9, 10, 11] 12 (.g r r r (fun _ => .fa un39 r sz36 r (o := 2) r r r .mk) (.g r r r (fun _ => .load1 ia36 r (.s .z) r r r .mk) (.fk 2 r ?_)))
   obtain ⟨h545, x546, hx547, hd⟩ := hd
   obtain ⟨b548, e549⟩ := hne542 (idx_ne hx547)
   cases e549
   refine .g r r r (fun _ => .ixa0 un36 sz3 r r h545 (idx_lt hx547 h545) r r .mk) (.g r r r (fun _ => .lo1 (j := 0) ia3 (.s (.s .z)) hx547 r r r r r .mk) (.g r r r (fun _ => .fa un39 r sz36 r (o := 2) r r r .mk) (.g r r r (fun _ => .load1 ia36 r (.s .z) r r r .mk) (.fk 1 r ?_))))
   obtain ⟨h550, x551, hx552, hd⟩ := hd
   refine .g r r r (fun _ => .ixa0 un36 sz3 r r h550 (idx_lt hx552 h550) r r .mk) (.g r r r (fun _ => .lo1 (j := 0) ia3 (.s (.s .z)) hx552 r r r r r .mk) (.fk 1 r (.e2 12 ?_)))
   obtain ⟨h553, x554, hx555, hd⟩ := hd
   exact .ixa0 un36 sz3 r r h553 (idx_lt hx555 h553) r r (.stO1 (j := 0) (v' := (w64 (x546 + x551))) sz3 (.s (.s .z)) hx555 r r r (.t .nil) r (.sub (E' := [(6, _), (7, _), (44, _), (45, _), (10, _), (48, _), (49, .slice (some ⟨b548, 0, none⟩) (s530.set ((w64 (s534 + 1)).toNat) (w64 (x546 + x551))).length c532), (50, _), (51, _), (52, _), (53, _), (54, _), (55, .slice (some ⟨b548, 0, none⟩) (s530.set ((w64 (s534 + 1)).toNat) (w64 (x546 + x551))).length c532), (56, _), (57, _), (58, _), (59, _), (60, _)]) ⟨r, r, r, r, r, r, (by simp only [List.length_set]; rfl), r, r, r, r, r, (by simp only [List.length_set]; rfl), r, r, r, r, r, trivial⟩ (.reat (.s .z) (B := pto b57 (.cells #[.int .i64 r38.Rows, .int .i64 r38.Cols, .slice (some ⟨b548, 0, none⟩) (s530.set ((w64 (s534 + 1)).toNat) (w64 (x546 + x551))).length c532, .slice p419 s418.length c420, .slice p423 s422.length c424] 39 (0, 0))) (by simp only [List.length_set]) (.nilS [45, 44, 7, 6] r r (.region (.ks 2 r (.nil' fun c w ho hs => ⟨((s530.set ((w64 (s534 + 1)).toNat) (w64 (x546 + x551))), w64 (s534 + 1)), hd, I536, _, _, hl537, ho.sub ⟨r, r, r, r, trivial⟩, hs.pick (.c .z (.c .z (.c .z (.c .z (.c .z .n)))))⟩)))))))
 refine .exitS [7, 6] r r (.sr (.loadW ia39 sz39 r (.s .z) r r r (.storeA sz39 r r .z (.t (.t (.t (.t (.t .nil))))) r r (.nilS [6] r r (.drop (.s .z) (.pub (.s .z) fun I556 hl557 R558 => ?_))))))
 have le559 := IH.le.trans le538 hl557
 have le560 := IH.le.trans le539 hl557
 have le561 := IH.le.trans hl537 hl557
 refine .pub (.s .z) fun I562 hl563 R564 => ?_
 have le565 := IH.le.trans le559 hl563
 have le566 := IH.le.trans le560 hl563
 have le567 := IH.le.trans le561 hl563
 replace R558 := R558.mono hl563
 refine .pub (.s .z) fun I568 hl569 R570 => ?_
 have le571 := IH.le.trans le565 hl569
 have le572 := IH.le.trans le566 hl569
 have le573 := IH.le.trans le567 hl569
 replace R558 := R558.mono hl569
 replace R564 := R564.mono hl569
 exact .ret (pret results100 (.w ia39 sz39 r .z r .n) le571 ⟨({ Rows := r38.Rows, Cols := r38.Cols, Start := s530, Col := s418, Val := s422 } : Rows), _, _, _, _, _, _, r, R558, R564, R570, hd⟩)

end Go.Proofs.YtmidnfbbnmigeaaGreat
