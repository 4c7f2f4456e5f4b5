/- The walks (printed by a program of ours). -/
import Derived.Test.YtggmiaebkplnlaaGreatSL
namespace Go.Proofs.YtggmiaebkplnlaaGreat
open Go Go.Fw
set_option linter.unusedVariables false
set_option linter.unusedSimpArgs false
set_option maxRecDepth 8000
set_option maxHeartbeats 1000000
open Tryz
theorem W_prog_within {I : IH} {a0 : Int} {a1 : Int} {Q : Bool → Prop}  (hd : prog_within a0 a1 Q) :
  PFun prog 48 [.int .i64 a0, .int .i64 a1] I (fun _ => o0_ Q) := by
 refine Fun.enter func48 r ntmps48 r (.c (.c .n)) fun w0 M => ?_
 refine .sr (.ks 1 r (.nilS [1, 0] r r (.sr (.ks 3 r ?_))))
 refine splitP hd (fun hb1 hd => ?_) fun hb1 hd => ?_
 · rw [hb1]
   exact .ks 5 r (.nilS [4] r r (.ret (pret results48 (.t r .n) (.refl _) ⟨(decide (a0 ≤ a1)), r, hd⟩)))
 rw [hb1]
 exact .ks 5 r (.nilS [4] r r (.ret (pret results48 (.t r .n) (.refl _) ⟨false, r, hd⟩)))

theorem W_prog_Right_1_a45 {I : IH} {a0 : Int} {Q : Bool → Prop}  (hd : prog_Right_1_a45 a0 Q) :
  Fun prog 50 #[.int .i64 a0] I [] (fun I_ v l => ∃ r, v = .bool r ∧ l = [] ∧ Q r) := by
 refine Fun.enter (vs := [.int .i64 a0]) func50 r ntmps50 r (.c .n) fun w0 M => ?_
 refine .sr (.ks 1 r (.nilS [0] r r (.sr (.ks 3 r ?_))))
 refine splitP hd (fun hb1 hd => ?_) fun hb1 hd => ?_
 · rw [hb1]
   exact .ks 4 r (.nilS [2] r r (.ret (oret results50 (.t r .n) (.refl _) .n ⟨true, r, r, hd⟩)))
 rw [hb1]
 exact .ks 4 r (.nilS [2] r r (.ret (oret results50 (.t r .n) (.refl _) .n ⟨(decide (2147483647 < a0)), r, r, hd⟩)))

theorem W_slices_IndexFunc_int64_int64_135 {I : IH} {a0 : List Int} {p1 : Option Addr} {c2 : Nat} {Q : Int → Prop} (R3 : RepSl eI64 I p1 c2 a0) (hd : slices_IndexFunc_int64_int64_135 a0 Q) :
  Fun prog 94 #[.slice p1 a0.length c2, .func (.func 50) #[] #[]] I [] (fun I_ v l => ∃ r, v = .int .i64 r ∧ l = [] ∧ Q r) := by
 refine Fun.enter (vs := [.slice p1 a0.length c2, .func (.func 50) #[] #[]]) func94 r ntmps94 r (.c (.c .n)) fun w0 M => ?_
 refine .sr (.ks 1 r (.nilS [1, 0] r r (.seq (.sr (.ks 1 r (.len un23 r r r r (.ks 1 r (.nilS [8, 7, 1, 0] r r (.block ?_)))))))))
 refine .loop hd (fun (s45 : Int) c w => ∃ I_, IH.le I I_ ∧ Ok ⟨19, [], none⟩ [(0, .slice p1 a0.length c2), (1, .func (.func 50) #[] #[]), (7, .int .i64 (a0.length : Int)), (8, .int .i64 s45)] c ∧ Sym w0 M I I_ [] w) (fun c w ho hs => ⟨I, (.refl _), ho.sub ⟨r, r, r, r, trivial⟩, hs.pick .n⟩) ?_
 rintro s45 next46 hd c w hst
 obtain ⟨I47, hl48, hok, hsym⟩ := hst
 replace R3 := R3.mono hl48
 refine Cod.at hok hsym (.sr (.ks 1 r (.nilS [9, 8, 7, 1, 0] r r (.seq (.condP r hd (fun hb50 hd => ?_) fun hb50 hd => ?_)))))
 · refine .skipS [8, 7, 1, 0] r r (.seq (.block (.sr (.ks 2 r (.nilS [5, 8, 7, 1, 0] r r (.sr (.ks 3 r ?_)))))))
   obtain ⟨h51, x52, hx53, hd⟩ := hd
   obtain ⟨b54, o55, cs56, e57, hC58, hr59⟩ := R3.2 _ _ hx53
   cases hr59
   refine .ixa un23 sz2 r e57 r h51 (idx_lt hx53 h51) r r (.ld1 (j := 0) ia2 hC58 r r r r r ?_)
   have hw60 := W_prog_Right_1_a45 (I := I47) (a0 := x52) hd
   refine .callS (.c call50 r r) .n hw60 r r fun v64 I61 l65 hl62 hv63 => ?_
   obtain ⟨r66, rfl, rfl, hd⟩ := hv63
   have le67 := IH.le.trans hl48 hl62
   replace R3 := R3.mono hl62
   replace hC58 := hC58.mono hl62
   refine .re (m' := []) r (.nilS [16, 5, 8, 7, 1, 0] r r (.condP r hd (fun hb68 hd => ?_) fun hb68 hd => ?_))
   · exact .sr (.ks 2 r (.nilS [4, 1] r r (.ret (oret results94 (.t r .n) le67 .n ⟨s45, r, r, hd⟩))))
   exact .skipS [8, 7, 1, 0] r r (.region (.ks 2 r (.nil' fun c w ho hs => ⟨(w64 (s45 + 1)), hd, I61, le67, ho.sub ⟨r, r, r, r, trivial⟩, hs.pick .n⟩)))
 exact .exitS [1] r r (.sr (.ks 1 r (.nilS [4, 1] r r (.ret (oret results94 (.t r .n) hl48 .n ⟨(-1), r, r, hd⟩)))))

theorem W_slices_ContainsFunc_int64_int64_80a {I : IH} {a0 : List Int} {p1 : Option Addr} {c2 : Nat} {Q : Bool → Prop} (R3 : RepSl eI64 I p1 c2 a0) (hd : slices_ContainsFunc_int64_int64_80a a0 Q) :
  Fun prog 49 #[.slice p1 a0.length c2, .func (.func 50) #[] #[]] I [] (fun I_ v l => ∃ r, v = .bool r ∧ l = [] ∧ Q r) := by
 refine Fun.enter (vs := [.slice p1 a0.length c2, .func (.func 50) #[] #[]]) func49 r ntmps49 r (.c (.c .n)) fun w0 M => ?_
 refine .sr (.ks 1 r (.nilS [1, 0] r r (.sr (.ks 2 r ?_))))
 have hw4 := W_slices_IndexFunc_int64_int64_135 (I := I) (a0 := a0) R3 hd
 refine .callS (.f call94 r) .n hw4 r r fun v8 I5 l9 hl6 hv7 => ?_
 obtain ⟨r10, rfl, rfl, hd⟩ := hv7
 replace R3 := R3.mono hl6
 exact .re (m' := []) r (.ks 2 r (.nilS [4, 1] r r (.ret (oret results49 (.t r .n) hl6 .n ⟨(decide (0 ≤ r10)), r, r, hd⟩))))

theorem W_prog_Right {I : IH} {a0 : Plan} {p1 : Option Addr} {c2 : Nat} {Q : Int → Prop} (R3 : RepSl eI64 I p1 c2 a0.Draws) (hd : prog_Right a0 Q) :
  PFun prog 10 [.agg #[.int .i64 a0.Kind, .int .i64 a0.N, .int .i64 a0.Source, .int .i64 a0.Length, .slice p1 a0.Draws.length c2]] I (fun _ => o1_ Q) := by
 refine Fun.enter func10 r ntmps10 r (.c .n) fun w0 M => ?_
 refine .sr (.boxA r r r fun b6 => ?_)
 refine .ks 1 r (.nilS [1] r r (.seq (.sr (.fa un25 r sz22 r (o := 0) r r r (.load1 ia22 r .z r r r (.ks 2 r ?_))))))
 refine splitP hd (fun hb10 hd => ?_) fun hb10 hd => ?_
 · rw [hb10]
   exact .ks 4 r (.nilS [10, 1] r r (.condKT r r (.sr (.ks 1 r (.nilS [2] r r (.drop .z (.ret (pret results10 (.t r .n) (.refl _) ⟨8, r, hd⟩))))))))
 rw [hb10]
 refine .gyes r r r (.fa un25 r sz22 r (o := 0) r r r (.gyes r r r (.load1 ia22 r .z r r r (.ks 2 r (.nilS [10, 1] r r (.condP r hd (fun hb11 hd => ?_) fun hb11 hd => ?_))))))
 · exact .sr (.ks 1 r (.nilS [2] r r (.drop .z (.ret (pret results10 (.t r .n) (.refl _) ⟨8, r, hd⟩)))))
 refine .skipS [1] r r (.seq (.sr (.fa un25 r sz3 r (o := 1) r r r (.load1 ia3 r .z r r r ?_))))
 have hw18 := W_prog_within (I := I) hd
 refine .callP call48 r hw18 r r fun v19 hv20 => ?_
 obtain ⟨r17, rfl, hd⟩ := hv20
 refine .ks 1 r (.nilS [14, 1] r r (.condP r hd (fun hb21 hd => ?_) fun hb21 hd => ?_))
 · exact .sr (.ks 1 r (.nilS [2] r r (.drop .z (.ret (pret results10 (.t r .n) (.refl _) ⟨3, r, hd⟩)))))
 refine .skipS [1] r r (.seq ?_)
 refine Cod.joinQ (σ := Unit) hd (fun (_ : Unit) c w => ∃ I_, IH.le I I_ ∧ Ok ⟨42, [], none⟩ [(1, .pointer (some ⟨b6, 0, none⟩))] c ∧ Sym w0 M I I_ [pto b6 (.cells #[.int .i64 a0.Kind, .int .i64 a0.N, .int .i64 a0.Source, .int .i64 a0.Length, .slice p1 a0.Draws.length c2] 25 (0, 0))] w) (fun k92 hd => ?_) ?_
 · skip
   refine .sr (.fa un25 r sz22 r (o := 0) r r r (.load1 ia22 r .z r r r (.nilS [16, 1] r r (.block (.seq ?_)))))
   refine Cod.joinQ (σ := Unit) hd (fun (_ : Unit) c w => ∃ I_, IH.le I I_ ∧ Ok ⟨42, [], none⟩ [(1, .pointer (some ⟨b6, 0, none⟩))] c ∧ Sym w0 M I I_ [pto b6 (.cells #[.int .i64 a0.Kind, .int .i64 a0.N, .int .i64 a0.Source, .int .i64 a0.Length, .slice p1 a0.Draws.length c2] 25 (0, 0))] w) (fun k111 hd => ?_) ?_
   · skip
     refine .block (.seq (.block (.seq (.seq (.sr (.ks 2 r (.nilS [17, 16, 1] r r (.condP r hd (fun hb113 hd => ?_) fun hb113 hd => ?_))))))))
     · refine .exitS [1] r r (.sr (.fa un25 r sz3 r (o := 3) r r r (.load1 ia3 r .z r r r ?_)))
       have hw115 := W_prog_within (I := I) hd
       refine .callP call48 r hw115 r r fun v116 hv117 => ?_
       obtain ⟨r114, rfl, hd⟩ := hv117
       refine .ks 1 r (.nilS [25, 1] r r (.condP r hd (fun hb118 hd => ?_) fun hb118 hd => ?_))
       · exact .sr (.ks 1 r (.nilS [2] r r (.drop .z (.ret (pret results10 (.t r .n) (.refl _) ⟨3, r, hd⟩)))))
       exact .skip' fun c w ho hs => ⟨(), hd, I, (.refl _), ho.sub ⟨r, trivial⟩, hs.pick (.c .z .n)⟩
     refine .skipS [16, 1] r r (.seq (.sr (.ks 2 r (.nilS [19, 16, 1] r r (.condP r hd (fun hb119 hd => ?_) fun hb119 hd => ?_)))))
     · exact .skipS [19, 1] r r (.condKT r hb119 (.exit fun c w ho hs => ⟨(), hd, I, (.refl _), ho.sub ⟨r, trivial⟩, hs.pick (.c .z .n)⟩))
     refine .region (.ks 2 r (.nilS [19, 1] r r (.condP r hd (fun hb120 hd => ?_) fun hb120 hd => ?_)))
     · exact .exit fun c w ho hs => ⟨(), hd, I, (.refl _), ho.sub ⟨r, trivial⟩, hs.pick (.c .z .n)⟩
     exact .skipS [1] r r (.exit fun c w ho hs => ⟨(), hd, I, (.refl _), ho.sub ⟨r, trivial⟩, hs.pick (.c .z .n)⟩)
   rintro ⟨⟩ hd c w hst
   obtain ⟨I121, hl122, hok, hsym⟩ := hst
   replace R3 := R3.mono hl122
   refine Cod.at hok hsym (.seq (.sr (.fa un25 r sz3 r (o := 2) r r r (.load1 ia3 r .z r r r (.fa un25 r sz3 r (o := 1) r r r (.load1 ia3 r .z r r r (.ks 1 r ?_)))))))
   have hw124 := W_prog_within (I := I121) hd
   refine .callP call48 r hw124 r r fun v125 hv126 => ?_
   obtain ⟨r123, rfl, hd⟩ := hv126
   refine .ks 1 r (.nilS [32, 1] r r (.condP r hd (fun hb127 hd => ?_) fun hb127 hd => ?_))
   · exact .sr (.ks 1 r (.nilS [2] r r (.drop .z (.ret (pret results10 (.t r .n) hl122 ⟨3, r, hd⟩)))))
   exact .skipS [1] r r (.exit fun c w ho hs => ⟨(), hd, I121, hl122, ho.sub ⟨r, trivial⟩, hs.pick (.c .z .n)⟩)
 rintro ⟨⟩ hd c w hst
 obtain ⟨I128, hl129, hok, hsym⟩ := hst
 replace R3 := R3.mono hl129
 refine Cod.at hok hsym (.seq (.block (.sr (.fa un25 r sz23 r (o := 4) r r r (.load1 ia23 r .z r r r (.len un23 r r r r (.ks 2 r (.nilS [33, 1] r r (.condP r hd (fun hb130 hd => ?_) fun hb130 hd => ?_)))))))))
 · exact .sr (.ks 1 r (.nilS [2] r r (.drop .z (.ret (pret results10 (.t r .n) hl129 ⟨5, r, hd⟩)))))
 refine .sr (.fa un25 r sz23 r (o := 4) r r r (.load1 ia23 r .z r r r ?_))
 have hw131 := W_slices_ContainsFunc_int64_int64_80a (I := I128) (a0 := a0.Draws) R3 hd
 refine .callS (.f call49 r) .n hw131 r r fun v135 I132 l136 hl133 hv134 => ?_
 obtain ⟨r137, rfl, rfl, hd⟩ := hv134
 have le138 := IH.le.trans hl129 hl133
 replace R3 := R3.mono hl133
 refine .re (m' := [pto b6 (.cells #[.int .i64 a0.Kind, .int .i64 a0.N, .int .i64 a0.Source, .int .i64 a0.Length, .slice p1 a0.Draws.length c2] 25 (0, 0))]) r (.ks 1 r (.nilS [38] r r (.drop .z (.condP r hd (fun hb139 hd => ?_) fun hb139 hd => ?_))))
 · exact .sr (.ks 1 r (.nilS [2] r r (.ret (pret results10 (.t r .n) le138 ⟨7, r, hd⟩))))
 exact .skipS [] r r (.sr (.ks 1 r (.nilS [2] r r (.ret (pret results10 (.t r .n) le138 ⟨0, r, hd⟩)))))

theorem W_edges_Right_1_b08 {I : IH} {o0 : Graph} {a0 : Int} {b2 : Nat} {p3 : Option Addr} {c4 : Nat} {Q : Bool → Prop} (R5 : RepSl eEdge I p3 c4 o0.Edges) (hd : edges_Right_1_b08 o0 a0 Q) :
  Fun prog 80 #[.int .i64 a0, .pointer (some ⟨b2, 0, none⟩)] I [pto b2 (.cells #[.int .i64 o0.N, .slice p3 o0.Edges.length c4] 28 (0, 0))] (fun I_ v l => ∃ r, v = .bool r ∧ l = [pto b2 (.cells #[.int .i64 o0.N, .slice p3 o0.Edges.length c4] 28 (0, 0))] ∧ Q r) := by
 refine Fun.enter (vs := [.int .i64 a0, .pointer (some ⟨b2, 0, none⟩)]) func80 r ntmps80 r (.c (.c .n)) fun w0 M => ?_
 refine .sr (.ks 1 r (.nilS [1, 0] r r (.sr (.ks 3 r ?_))))
 refine splitP hd (fun hb6 hd => ?_) fun hb6 hd => ?_
 · rw [hb6]
   exact .ks 6 r (.nilS [3, 1] r r (.ret (oret results80 (.t r .n) (.refl _) (.c .z .n) ⟨true, r, r, hd⟩)))
 rw [hb6]
 exact .ks 1 r (.gyes r r r (.fa un28 r sz3 r (o := 0) r r r (.gyes r r r (.load1 ia3 r .z r r r (.ks 3 r (.nilS [3, 1] r r (.ret (oret results80 (.t r .n) (.refl _) (.c .z .n) ⟨(decide (o0.N ≤ a0)), r, r, hd⟩))))))))

theorem W_edges_Right_2_f7d {I : IH} {o1 : Graph} {a0 : Edge} {b3 : Nat} {b4 : Nat} {p5 : Option Addr} {c6 : Nat} {Q : Bool → Prop} (R7 : RepSl eEdge I p5 c6 o1.Edges) (hd : edges_Right_2_f7d o1 a0 Q) :
  Fun prog 82 #[.agg (encEdge a0).toArray, .pointer (some ⟨b3, 0, none⟩)] I [pto b3 (.cells #[.func (.func 80) #[] #[.pointer (some ⟨b4, 0, none⟩)]] 107 (0, 0)), pto b4 (.cells #[.int .i64 o1.N, .slice p5 o1.Edges.length c6] 28 (0, 0))] (fun I_ v l => ∃ r, v = .bool r ∧ l = [pto b3 (.cells #[.func (.func 80) #[] #[.pointer (some ⟨b4, 0, none⟩)]] 107 (0, 0)), pto b4 (.cells #[.int .i64 o1.N, .slice p5 o1.Edges.length c6] 28 (0, 0))] ∧ Q r) := by
 refine Fun.enter (vs := [.agg (encEdge a0).toArray, .pointer (some ⟨b3, 0, none⟩)]) func82 r ntmps82 r (.c (.c .n)) fun w0 M => ?_
 refine .sr (.boxA r r r fun b10 => ?_)
 refine .ks 1 r (.nilS [2, 1] r r (.sr (.load1 isAgg107 r (.s .z) r r r (.fa un73 r sz3 r (o := 0) r r r (.load1 ia3 r .z r r r ?_)))))
 have hw12 := W_edges_Right_1_b08 (I := I) (o0 := o1) (a0 := a0.From) (b2 := b4) (p3 := p5) (c4 := c6) R7 hd
 refine .callS (.c call80 r r) (.c (.s (.s .z)) .n) hw12 r r fun v16 I13 l17 hl14 hv15 => ?_
 obtain ⟨r18, rfl, rfl, hd⟩ := hv15
 replace R7 := R7.mono hl14
 refine .re (m' := [pto b4 (.cells #[.int .i64 o1.N, .slice p5 o1.Edges.length c6] 28 (0, 0)), pto b10 (.cells #[.int .i64 a0.From, .int .i64 a0.To, .int .i64 a0.W] 73 (0, 0)), pto b3 (.cells #[.func (.func 80) #[] #[.pointer (some ⟨b4, 0, none⟩)]] 107 (0, 0))]) r (.ks 1 r ?_)
 refine splitP hd (fun hb19 hd => ?_) fun hb19 hd => ?_
 · rw [hb19]
   exact .ks 6 r (.nilS [3, 1] r r (.drop (.s .z) (.ret (oret results82 (.t r .n) hl14 (.c (.s .z) (.c .z .n)) ⟨true, r, r, hd⟩))))
 rw [hb19]
 refine .gyes r r r (.load1 isAgg107 r (.s (.s .z)) r r r (.gyes r r r (.fa un73 r sz3 r (o := 1) r r r (.gyes r r r (.load1 ia3 r (.s .z) r r r ?_)))))
 have hw20 := W_edges_Right_1_b08 (I := I13) (o0 := o1) (a0 := a0.To) (b2 := b4) (p3 := p5) (c4 := c6) R7 hd
 refine .gyes r r r (.callS (.c call80 r r) (.c .z .n) hw20 r r fun v24 I21 l25 hl22 hv23 => ?_)
 obtain ⟨r26, rfl, rfl, hd⟩ := hv23
 have le27 := IH.le.trans hl14 hl22
 replace R7 := R7.mono hl22
 exact .re (m' := [pto b4 (.cells #[.int .i64 o1.N, .slice p5 o1.Edges.length c6] 28 (0, 0)), pto b10 (.cells #[.int .i64 a0.From, .int .i64 a0.To, .int .i64 a0.W] 73 (0, 0)), pto b3 (.cells #[.func (.func 80) #[] #[.pointer (some ⟨b4, 0, none⟩)]] 107 (0, 0))]) r (.ks 2 r (.nilS [3, 1] r r (.drop (.s .z) (.ret (oret results82 (.t r .n) le27 (.c (.s .z) (.c .z .n)) ⟨r26, r, r, hd⟩)))))

theorem W_slices_IndexFunc_api_Edge_api_Edge_a86 {I : IH} {o1 : Graph} {a0 : List Edge} {b3 : Nat} {b4 : Nat} {p5 : Option Addr} {c6 : Nat} {p8 : Option Addr} {c9 : Nat} {Q : Int → Prop} (R7 : RepSl eEdge I p5 c6 o1.Edges) (R10 : RepSl eEdge I p8 c9 a0) (hd : slices_IndexFunc_api_Edge_api_Edge_a86 o1 a0 Q) :
  Fun prog 111 #[.slice p8 a0.length c9, .func (.func 82) #[] #[.pointer (some ⟨b3, 0, none⟩)]] I [pto b3 (.cells #[.func (.func 80) #[] #[.pointer (some ⟨b4, 0, none⟩)]] 107 (0, 0)), pto b4 (.cells #[.int .i64 o1.N, .slice p5 o1.Edges.length c6] 28 (0, 0))] (fun I_ v l => ∃ r, v = .int .i64 r ∧ l = [pto b3 (.cells #[.func (.func 80) #[] #[.pointer (some ⟨b4, 0, none⟩)]] 107 (0, 0)), pto b4 (.cells #[.int .i64 o1.N, .slice p5 o1.Edges.length c6] 28 (0, 0))] ∧ Q r) := by
 refine Fun.enter (vs := [.slice p8 a0.length c9, .func (.func 82) #[] #[.pointer (some ⟨b3, 0, none⟩)]]) func111 r ntmps111 r (.c (.c .n)) fun w0 M => ?_
 refine .sr (.ks 1 r (.nilS [1, 0] r r (.seq (.sr (.ks 1 r (.len un26 r r r r (.ks 1 r (.nilS [8, 7, 1, 0] r r (.block ?_)))))))))
 refine .loop hd (fun (s52 : Int) c w => ∃ I_, IH.le I I_ ∧ Ok ⟨19, [], none⟩ [(0, .slice p8 a0.length c9), (1, .func (.func 82) #[] #[.pointer (some ⟨b3, 0, none⟩)]), (7, .int .i64 (a0.length : Int)), (8, .int .i64 s52)] c ∧ Sym w0 M I I_ [pto b3 (.cells #[.func (.func 80) #[] #[.pointer (some ⟨b4, 0, none⟩)]] 107 (0, 0)), pto b4 (.cells #[.int .i64 o1.N, .slice p5 o1.Edges.length c6] 28 (0, 0))] w) (fun c w ho hs => ⟨I, (.refl _), ho.sub ⟨r, r, r, r, trivial⟩, hs.pick (.c .z (.c .z .n))⟩) ?_
 rintro s52 next53 hd c w hst
 obtain ⟨I54, hl55, hok, hsym⟩ := hst
 replace R7 := R7.mono hl55
 replace R10 := R10.mono hl55
 refine Cod.at hok hsym (.sr (.ks 1 r (.nilS [9, 8, 7, 1, 0] r r (.seq (.condP r hd (fun hb57 hd => ?_) fun hb57 hd => ?_)))))
 · refine .skipS [8, 7, 1, 0] r r (.seq (.block (.sr (.ks 2 r (.nilS [5, 8, 7, 1, 0] r r (.sr (.ks 3 r ?_)))))))
   obtain ⟨h58, x59, hx60, hd⟩ := hd
   obtain ⟨b61, o62, cs63, e64, hC65, hr66⟩ := R10.2 _ _ hx60
   cases hr66
   refine .ixa un26 sz73 r e64 r h58 (idx_lt hx60 h58) r r (.ldW ia73 sz73 hC65 r r r r ?_)
   have hw67 := W_edges_Right_2_f7d (I := I54) (o1 := o1) (a0 := x59) (b3 := b3) (b4 := b4) (p5 := p5) (c6 := c6) R7 hd
   refine .callS (.c call82 r r) (.c .z (.c .z .n)) hw67 r r fun v71 I68 l72 hl69 hv70 => ?_
   obtain ⟨r73, rfl, rfl, hd⟩ := hv70
   have le74 := IH.le.trans hl55 hl69
   replace R7 := R7.mono hl69
   replace R10 := R10.mono hl69
   replace hC65 := hC65.mono hl69
   refine .re (m' := [pto b3 (.cells #[.func (.func 80) #[] #[.pointer (some ⟨b4, 0, none⟩)]] 107 (0, 0)), pto b4 (.cells #[.int .i64 o1.N, .slice p5 o1.Edges.length c6] 28 (0, 0))]) r (.nilS [16, 5, 8, 7, 1, 0] r r (.condP r hd (fun hb75 hd => ?_) fun hb75 hd => ?_))
   · exact .sr (.ks 2 r (.nilS [4, 1] r r (.ret (oret results111 (.t r .n) le74 (.c .z (.c .z .n)) ⟨s52, r, r, hd⟩))))
   exact .skipS [8, 7, 1, 0] r r (.region (.ks 2 r (.nil' fun c w ho hs => ⟨(w64 (s52 + 1)), hd, I68, le74, ho.sub ⟨r, r, r, r, trivial⟩, hs.pick (.c .z (.c .z .n))⟩)))
 exact .exitS [1] r r (.sr (.ks 1 r (.nilS [4, 1] r r (.ret (oret results111 (.t r .n) hl55 (.c .z (.c .z .n)) ⟨(-1), r, r, hd⟩)))))

theorem W_slices_ContainsFunc_api_Edge_api_Edge_87a {I : IH} {o1 : Graph} {a0 : List Edge} {b3 : Nat} {b4 : Nat} {p5 : Option Addr} {c6 : Nat} {p8 : Option Addr} {c9 : Nat} {Q : Bool → Prop} (R7 : RepSl eEdge I p5 c6 o1.Edges) (R10 : RepSl eEdge I p8 c9 a0) (hd : slices_ContainsFunc_api_Edge_api_Edge_87a o1 a0 Q) :
  Fun prog 81 #[.slice p8 a0.length c9, .func (.func 82) #[] #[.pointer (some ⟨b3, 0, none⟩)]] I [pto b3 (.cells #[.func (.func 80) #[] #[.pointer (some ⟨b4, 0, none⟩)]] 107 (0, 0)), pto b4 (.cells #[.int .i64 o1.N, .slice p5 o1.Edges.length c6] 28 (0, 0))] (fun I_ v l => ∃ r, v = .bool r ∧ l = [pto b3 (.cells #[.func (.func 80) #[] #[.pointer (some ⟨b4, 0, none⟩)]] 107 (0, 0)), pto b4 (.cells #[.int .i64 o1.N, .slice p5 o1.Edges.length c6] 28 (0, 0))] ∧ Q r) := by
 refine Fun.enter (vs := [.slice p8 a0.length c9, .func (.func 82) #[] #[.pointer (some ⟨b3, 0, none⟩)]]) func81 r ntmps81 r (.c (.c .n)) fun w0 M => ?_
 refine .sr (.ks 1 r (.nilS [1, 0] r r (.sr (.ks 2 r ?_))))
 have hw11 := W_slices_IndexFunc_api_Edge_api_Edge_a86 (I := I) (o1 := o1) (a0 := a0) (b3 := b3) (b4 := b4) (p5 := p5) (c6 := c6) R7 R10 hd
 refine .callS (.f call111 r) (.c .z (.c .z .n)) hw11 r r fun v15 I12 l16 hl13 hv14 => ?_
 obtain ⟨r17, rfl, rfl, hd⟩ := hv14
 replace R7 := R7.mono hl13
 replace R10 := R10.mono hl13
 exact .re (m' := [pto b3 (.cells #[.func (.func 80) #[] #[.pointer (some ⟨b4, 0, none⟩)]] 107 (0, 0)), pto b4 (.cells #[.int .i64 o1.N, .slice p5 o1.Edges.length c6] 28 (0, 0))]) r (.ks 2 r (.nilS [4, 1] r r (.ret (oret results81 (.t r .n) hl13 (.c .z (.c .z .n)) ⟨(decide (0 ≤ r17)), r, r, hd⟩))))

theorem W_edges_Right_3_b50 {I : IH} {a0 : Edge} {Q : Bool → Prop}  (hd : edges_Right_3_b50 a0 Q) :
  Fun prog 83 #[.agg (encEdge a0).toArray] I [] (fun I_ v l => ∃ r, v = .bool r ∧ l = [] ∧ Q r) := by
 refine Fun.enter (vs := [.agg (encEdge a0).toArray]) func83 r ntmps83 r (.c .n) fun w0 M => ?_
 refine .sr (.boxA r r r fun b3 => ?_)
 refine .ks 1 r (.nilS [1] r r (.sr (.fa un73 r sz2 r (o := 2) r r r (.load1 ia2 r .z r r r (.ks 2 r ?_)))))
 refine splitP hd (fun hb5 hd => ?_) fun hb5 hd => ?_
 · rw [hb5]
   exact .ks 5 r (.nilS [2] r r (.drop .z (.ret (oret results83 (.t r .n) (.refl _) .n ⟨true, r, r, hd⟩))))
 rw [hb5]
 exact .gyes r r r (.fa un73 r sz2 r (o := 2) r r r (.gyes r r r (.load1 ia2 r .z r r r (.ks 3 r (.nilS [2] r r (.drop .z (.ret (oret results83 (.t r .n) (.refl _) .n ⟨(decide (2147483647 < a0.W)), r, r, hd⟩))))))))

theorem W_slices_IndexFunc_api_Edge_api_Edge_122 {I : IH} {a0 : List Edge} {p1 : Option Addr} {c2 : Nat} {Q : Int → Prop} (R3 : RepSl eEdge I p1 c2 a0) (hd : slices_IndexFunc_api_Edge_api_Edge_122 a0 Q) :
  Fun prog 111 #[.slice p1 a0.length c2, .func (.func 83) #[] #[]] I [] (fun I_ v l => ∃ r, v = .int .i64 r ∧ l = [] ∧ Q r) := by
 refine Fun.enter (vs := [.slice p1 a0.length c2, .func (.func 83) #[] #[]]) func111 r ntmps111 r (.c (.c .n)) fun w0 M => ?_
 refine .sr (.ks 1 r (.nilS [1, 0] r r (.seq (.sr (.ks 1 r (.len un26 r r r r (.ks 1 r (.nilS [8, 7, 1, 0] r r (.block ?_)))))))))
 refine .loop hd (fun (s45 : Int) c w => ∃ I_, IH.le I I_ ∧ Ok ⟨19, [], none⟩ [(0, .slice p1 a0.length c2), (1, .func (.func 83) #[] #[]), (7, .int .i64 (a0.length : Int)), (8, .int .i64 s45)] c ∧ Sym w0 M I I_ [] w) (fun c w ho hs => ⟨I, (.refl _), ho.sub ⟨r, r, r, r, trivial⟩, hs.pick .n⟩) ?_
 rintro s45 next46 hd c w hst
 obtain ⟨I47, hl48, hok, hsym⟩ := hst
 replace R3 := R3.mono hl48
 refine Cod.at hok hsym (.sr (.ks 1 r (.nilS [9, 8, 7, 1, 0] r r (.seq (.condP r hd (fun hb50 hd => ?_) fun hb50 hd => ?_)))))
 · refine .skipS [8, 7, 1, 0] r r (.seq (.block (.sr (.ks 2 r (.nilS [5, 8, 7, 1, 0] r r (.sr (.ks 3 r ?_)))))))
   obtain ⟨h51, x52, hx53, hd⟩ := hd
   obtain ⟨b54, o55, cs56, e57, hC58, hr59⟩ := R3.2 _ _ hx53
   cases hr59
   refine .ixa un26 sz73 r e57 r h51 (idx_lt hx53 h51) r r (.ldW ia73 sz73 hC58 r r r r ?_)
   have hw60 := W_edges_Right_3_b50 (I := I47) (a0 := x52) hd
   refine .callS (.c call83 r r) .n hw60 r r fun v64 I61 l65 hl62 hv63 => ?_
   obtain ⟨r66, rfl, rfl, hd⟩ := hv63
   have le67 := IH.le.trans hl48 hl62
   replace R3 := R3.mono hl62
   replace hC58 := hC58.mono hl62
   refine .re (m' := []) r (.nilS [16, 5, 8, 7, 1, 0] r r (.condP r hd (fun hb68 hd => ?_) fun hb68 hd => ?_))
   · exact .sr (.ks 2 r (.nilS [4, 1] r r (.ret (oret results111 (.t r .n) le67 .n ⟨s45, r, r, hd⟩))))
   exact .skipS [8, 7, 1, 0] r r (.region (.ks 2 r (.nil' fun c w ho hs => ⟨(w64 (s45 + 1)), hd, I61, le67, ho.sub ⟨r, r, r, r, trivial⟩, hs.pick .n⟩)))
 exact .exitS [1] r r (.sr (.ks 1 r (.nilS [4, 1] r r (.ret (oret results111 (.t r .n) hl48 .n ⟨(-1), r, r, hd⟩)))))

theorem W_slices_ContainsFunc_api_Edge_api_Edge_126 {I : IH} {a0 : List Edge} {p1 : Option Addr} {c2 : Nat} {Q : Bool → Prop} (R3 : RepSl eEdge I p1 c2 a0) (hd : slices_ContainsFunc_api_Edge_api_Edge_126 a0 Q) :
  Fun prog 81 #[.slice p1 a0.length c2, .func (.func 83) #[] #[]] I [] (fun I_ v l => ∃ r, v = .bool r ∧ l = [] ∧ Q r) := by
 refine Fun.enter (vs := [.slice p1 a0.length c2, .func (.func 83) #[] #[]]) func81 r ntmps81 r (.c (.c .n)) fun w0 M => ?_
 refine .sr (.ks 1 r (.nilS [1, 0] r r (.sr (.ks 2 r ?_))))
 have hw4 := W_slices_IndexFunc_api_Edge_api_Edge_122 (I := I) (a0 := a0) R3 hd
 refine .callS (.f call111 r) .n hw4 r r fun v8 I5 l9 hl6 hv7 => ?_
 obtain ⟨r10, rfl, rfl, hd⟩ := hv7
 replace R3 := R3.mono hl6
 exact .re (m' := []) r (.ks 2 r (.nilS [4, 1] r r (.ret (oret results81 (.t r .n) hl6 .n ⟨(decide (0 ≤ r10)), r, r, hd⟩))))

theorem W_edges_Right {I : IH} {a0 : Graph} {p1 : Option Addr} {c2 : Nat} {Q : Int → Prop} (R3 : RepSl eEdge I p1 c2 a0.Edges) (hd : edges_Right a0 Q) :
  PFun prog 38 [.agg #[.int .i64 a0.N, .slice p1 a0.Edges.length c2]] I (fun _ => o1_ Q) := by
 refine Fun.enter func38 r ntmps38 r (.c .n) fun w0 M => ?_
 refine .sr (.boxA r r r fun b6 => ?_)
 refine .ks 1 r (.nilS [1] r r (.sr (.mkFn r r r r (.alloc1 zeroValue107 r r r fun b10 => ?_))))
 refine .store1 sizeOf107 r r .z (.t .nil) r (.nilS [3, 1] r r (.seq (.block (.sr (.fa un28 r sz3 r (o := 0) r r r (.load1 ia3 r (.s .z) r r r (.ks 2 r (.nilS [5, 3, 1] r r (.condP r hd (fun hb12 hd => ?_) fun hb12 hd => ?_)))))))))
 · exact .sr (.ks 1 r (.nilS [2] r r (.drop .z (.drop .z (.ret (pret results38 (.t r .n) (.refl _) ⟨3, r, hd⟩))))))
 refine .seq ?_
 refine Cod.joinQ (σ := Bool) hd (fun (s15 : Bool) c w => ∃ I_, IH.le I I_ ∧ Ok ⟨26, [], none⟩ [(1, .pointer (some ⟨b6, 0, none⟩)), (3, .pointer (some ⟨b10, 0, none⟩)), (9, .bool s15)] c ∧ Sym w0 M I I_ [pto b6 (.cells #[.int .i64 a0.N, .slice p1 a0.Edges.length c2] 28 (0, 0)), pto b10 (.cells #[.func (.func 80) #[] #[.pointer (some ⟨b6, 0, none⟩)]] 107 (0, 0))] w) (fun k16 hd => ?_) ?_
 · skip
   refine .sr (.fa un28 r sz3 r (o := 0) r r r (.load1 ia3 r (.s .z) r r r (.ks 2 r (.nilS [9, 3, 1] r r (.condP r hd (fun hb17 hd => ?_) fun hb17 hd => ?_)))))
   · exact .skip' fun c w ho hs => ⟨(decide (4096 < a0.N)), hd, I, (.refl _), ho.sub ⟨r, r, r, trivial⟩, hs.pick (.c (.s .z) (.c .z .n))⟩
   exact .region (.fa un28 r sz26 r (o := 1) r r r (.load1 ia26 r (.s .z) r r r (.len un26 r r r r (.ks 2 r (.nil' fun c w ho hs => ⟨(decide (65536 < (a0.Edges.length : Int))), hd, I, (.refl _), ho.sub ⟨r, r, r, trivial⟩, hs.pick (.c (.s .z) (.c .z .n))⟩)))))
 rintro s15 hd c w hst
 obtain ⟨I18, hl19, hok, hsym⟩ := hst
 replace R3 := R3.mono hl19
 refine Cod.at hok hsym (.condP r hd (fun hb20 hd => ?_) fun hb20 hd => ?_)
 · exact .sr (.ks 1 r (.nilS [2] r r (.drop .z (.drop .z (.ret (pret results38 (.t r .n) hl19 ⟨5, r, hd⟩))))))
 refine .sr (.fa un28 r sz26 r (o := 1) r r r (.load1 ia26 r .z r r r (.mkFn r r r r ?_)))
 have hw29 := W_slices_ContainsFunc_api_Edge_api_Edge_87a (I := I18) (o1 := a0) (a0 := a0.Edges) (b3 := b10) (b4 := b6) (p5 := p1) (c6 := c2) R3 R3 hd
 refine .callS (.f call81 r) (.c (.s .z) (.c .z .n)) hw29 r r fun v33 I30 l34 hl31 hv32 => ?_
 obtain ⟨r35, rfl, rfl, hd⟩ := hv32
 have le36 := IH.le.trans hl19 hl31
 replace R3 := R3.mono hl31
 refine .re (m' := [pto b10 (.cells #[.func (.func 80) #[] #[.pointer (some ⟨b6, 0, none⟩)]] 107 (0, 0)), pto b6 (.cells #[.int .i64 a0.N, .slice p1 a0.Edges.length c2] 28 (0, 0))]) r (.ks 1 r (.nilS [17, 1] r r (.drop .z (.condP r hd (fun hb37 hd => ?_) fun hb37 hd => ?_))))
 · exact .sr (.ks 1 r (.nilS [2] r r (.drop .z (.ret (pret results38 (.t r .n) le36 ⟨3, r, hd⟩)))))
 refine .sr (.fa un28 r sz26 r (o := 1) r r r (.load1 ia26 r .z r r r ?_))
 have hw38 := W_slices_ContainsFunc_api_Edge_api_Edge_126 (I := I30) (a0 := a0.Edges) R3 hd
 refine .callS (.f call81 r) .n hw38 r r fun v42 I39 l43 hl40 hv41 => ?_
 obtain ⟨r44, rfl, rfl, hd⟩ := hv41
 have le45 := IH.le.trans le36 hl40
 replace R3 := R3.mono hl40
 refine .re (m' := [pto b6 (.cells #[.int .i64 a0.N, .slice p1 a0.Edges.length c2] 28 (0, 0))]) r (.ks 1 r (.nilS [22] r r (.drop .z (.condP r hd (fun hb46 hd => ?_) fun hb46 hd => ?_))))
 · exact .sr (.ks 1 r (.nilS [2] r r (.ret (pret results38 (.t r .n) le45 ⟨7, r, hd⟩))))
 exact .skipS [] r r (.sr (.ks 1 r (.nilS [2] r r (.ret (pret results38 (.t r .n) le45 ⟨0, r, hd⟩)))))

theorem W_ring_Is {I : IH} {a0 : Int} {Q : Bool → Prop}  (hd : ring_Is a0 Q) :
  PFun prog 126 [.int .i64 a0] I (fun _ => o0_ Q) := by
 refine Fun.enter func126 r ntmps126 r (.c .n) fun w0 M => ?_
 refine .sr (.ks 1 r (.nilS [0] r r (.sr (.ks 3 r ?_))))
 refine splitP hd (fun hb1 hd => ?_) fun hb1 hd => ?_
 · rw [hb1]
   exact .ks 4 r (.nilS [2] r r (.ret (pret results126 (.t r .n) (.refl _) ⟨(decide (a0 < 6)), r, hd⟩)))
 rw [hb1]
 exact .ks 4 r (.nilS [2] r r (.ret (pret results126 (.t r .n) (.refl _) ⟨false, r, hd⟩)))

theorem W_wide_Of {I : IH} {a0 : Int} {Q : Wide → Prop}  (hd : wide_Of a0 Q) :
  PFun prog 127 [.int .i64 a0] I (fun _ => o2_ Q) := by
 refine Fun.enter func127 r ntmps127 r (.c .n) fun w0 M => ?_
 refine .sr (.allocA zv144 r r fun b1 => ?_)
 exact .nilS [2, 0] r r (.sr (.ks 1 r (.shr' r r (by decide) r r (.ks 1 r (.conv un2 un96 r r r (.build zv144 un144 BI144 (.c r r r (.t .nil) (.c r r r (.s (.t .nil)) .n)) (by exact ⟨⟨_, _, r, r, r⟩, ⟨⟨_, _, r, r, r⟩, trivial⟩⟩) r r (.storeA sz144 r r .z (.t (.t .nil)) r r (.nilS [2] r r (.ret (pret results127 (.w ia144 sz144 r .z r .n) (.refl _) ⟨({ Hi := shr .i64 a0 63, Lo := IntKind.wrap .u64 (a0) } : Wide), r, hd⟩))))))))))

theorem W_cmp_Or_int {I : IH} {a0 : List Int} {p1 : Option Addr} {c2 : Nat} {Q : Int → Prop} (R3 : RepSl eI64 I p1 c2 a0) (hd : cmp_Or_int a0 Q) :
  PFun prog 144 [.slice p1 a0.length c2] I (fun _ => o1_ Q) := by
 refine Fun.enter func144 r ntmps144 r (.c .n) fun w0 M => ?_
 refine .sr (.ks 1 r (.nilS [0] r r (.sr (.ks 1 r (.nilS [3, 0] r r (.seq (.sr (.ks 1 r (.len un30 r r r r ?_)))))))))
 refine .ks 1 r (.nilS [8, 7, 6, 3] r r (.block (.loop hd (fun (s31 : Int) c w => ∃ I_, IH.le I I_ ∧ Ok ⟨18, [], none⟩ [(3, .int .i64 0), (6, .slice p1 a0.length c2), (7, .int .i64 (a0.length : Int)), (8, .int .i64 s31)] c ∧ Sym w0 M I I_ [] w) (fun c w ho hs => ⟨I, (.refl _), ho.sub ⟨r, r, r, r, trivial⟩, hs.pick .n⟩) ?_)))
 rintro s31 next32 hd c w hst
 obtain ⟨I33, hl34, hok, hsym⟩ := hst
 replace R3 := R3.mono hl34
 refine Cod.at hok hsym (.sr (.ks 1 r (.nilS [9, 8, 7, 6, 3] r r (.seq (.condP r hd (fun hb36 hd => ?_) fun hb36 hd => ?_)))))
 · refine .skipS [8, 7, 6, 3] r r (.seq (.block (.sr ?_)))
   obtain ⟨h37, x38, hx39, hd⟩ := hd
   obtain ⟨b40, o41, cs42, e43, hC44, hr45⟩ := R3.2 _ _ hx39
   cases hr45
   refine .ixa un30 sz3 r e43 r h37 (idx_lt hx39 h37) r r (.ld1 (j := 0) ia3 hC44 r r r r r (.ks 1 r (.nilS [5, 8, 7, 6, 3] r r (.sr (.ks 3 r (.nilS [14, 5, 8, 7, 6, 3] r r (.condP r hd (fun hb46 hd => ?_) fun hb46 hd => ?_)))))))
   · exact .sr (.ks 2 r (.nilS [2] r r (.ret (pret results144 (.t r .n) hl34 ⟨x38, r, hd⟩))))
   exact .skipS [8, 7, 6, 3] r r (.region (.ks 2 r (.nil' fun c w ho hs => ⟨(w64 (s31 + 1)), hd, I33, hl34, ho.sub ⟨r, r, r, r, trivial⟩, hs.pick .n⟩)))
 exact .exitS [3] r r (.sr (.ks 2 r (.nilS [2] r r (.ret (pret results144 (.t r .n) hl34 ⟨0, r, hd⟩)))))

theorem W_cmp_isNaN_int64 {I : IH} {a0 : Int} {Q : Bool → Prop}  (hd : cmp_isNaN_int64 a0 Q) :
  PFun prog 164 [.int .i64 a0] I (fun _ => o0_ Q) := by
 refine Fun.enter func164 r ntmps164 r (.c .n) fun w0 M => ?_
 exact .sr (.ks 1 r (.nilS [0] r r (.sr (.ks 4 r (.nilS [2] r r (.ret (pret results164 (.t r .n) (.refl _) ⟨(a0 != a0), r, hd⟩)))))))

theorem W_cmp_Compare_int64 {I : IH} {a0 : Int} {a1 : Int} {Q : Int → Prop}  (hd : cmp_Compare_int64 a0 a1 Q) :
  PFun prog 146 [.int .i64 a0, .int .i64 a1] I (fun _ => o1_ Q) := by
 refine Fun.enter func146 r ntmps146 r (.c (.c .n)) fun w0 M => ?_
 refine .sr (.ks 1 r (.nilS [1, 0] r r (.sr (.ks 1 r ?_))))
 have hw6 := W_cmp_isNaN_int64 (I := I) hd
 refine .callP call164 r hw6 r r fun v7 hv8 => ?_
 obtain ⟨r5, rfl, hd⟩ := hv8
 refine .ks 1 r (.nilS [5, 1, 0] r r (.sr (.ks 1 r ?_)))
 have hw14 := W_cmp_isNaN_int64 (I := I) hd
 refine .callP call164 r hw14 r r fun v15 hv16 => ?_
 obtain ⟨r13, rfl, hd⟩ := hv16
 refine .ks 1 r (.nilS [6, 5, 1, 0] r r (.seq (.sr (.ks 1 r (.nilS [11, 6, 1, 0] r r (.condP r hd (fun hb19 hd => ?_) fun hb19 hd => ?_))))))
 · refine .seq (.sr (.ks 1 r (.nilS [12] r r (.condP r hd (fun hb20 hd => ?_) fun hb20 hd => ?_))))
   · exact .sr (.ks 1 r (.nilS [4] r r (.ret (pret results146 (.t r .n) (.refl _) ⟨0, r, hd⟩))))
   exact .skipS [] r r (.sr (.ks 1 r (.nilS [4] r r (.ret (pret results146 (.t r .n) (.refl _) ⟨(-1), r, hd⟩)))))
 refine .skipS [6, 1, 0] r r (.seq (.sr (.ks 1 r (.nilS [13, 1, 0] r r (.condP r hd (fun hb22 hd => ?_) fun hb22 hd => ?_)))))
 · exact .sr (.ks 1 r (.nilS [4] r r (.ret (pret results146 (.t r .n) (.refl _) ⟨1, r, hd⟩))))
 refine .skipS [1, 0] r r (.seq (.sr (.ks 3 r (.nilS [16, 1, 0] r r (.condP r hd (fun hb24 hd => ?_) fun hb24 hd => ?_)))))
 · exact .sr (.ks 1 r (.nilS [4] r r (.ret (pret results146 (.t r .n) (.refl _) ⟨(-1), r, hd⟩))))
 refine .skipS [1, 0] r r (.seq (.sr (.ks 3 r (.nilS [19] r r (.condP r hd (fun hb25 hd => ?_) fun hb25 hd => ?_)))))
 · exact .sr (.ks 1 r (.nilS [4] r r (.ret (pret results146 (.t r .n) (.refl _) ⟨1, r, hd⟩))))
 exact .skipS [] r r (.sr (.ks 1 r (.nilS [4] r r (.ret (pret results146 (.t r .n) (.refl _) ⟨0, r, hd⟩)))))

theorem W_cmp_isNaN_uint64 {I : IH} {a0 : Int} {Q : Bool → Prop}  (hd : cmp_isNaN_uint64 a0 Q) :
  PFun prog 172 [.int .u64 a0] I (fun _ => o0_ Q) := by
 refine Fun.enter func172 r ntmps172 r (.c .n) fun w0 M => ?_
 exact .sr (.ks 1 r (.nilS [0] r r (.sr (.ks 4 r (.nilS [2] r r (.ret (pret results172 (.t r .n) (.refl _) ⟨(a0 != a0), r, hd⟩)))))))

theorem W_cmp_Compare_uint64 {I : IH} {a0 : Int} {a1 : Int} {Q : Int → Prop}  (hd : cmp_Compare_uint64 a0 a1 Q) :
  PFun prog 166 [.int .u64 a0, .int .u64 a1] I (fun _ => o1_ Q) := by
 refine Fun.enter func166 r ntmps166 r (.c (.c .n)) fun w0 M => ?_
 refine .sr (.ks 1 r (.nilS [1, 0] r r (.sr (.ks 1 r ?_))))
 have hw6 := W_cmp_isNaN_uint64 (I := I) hd
 refine .callP call172 r hw6 r r fun v7 hv8 => ?_
 obtain ⟨r5, rfl, hd⟩ := hv8
 refine .ks 1 r (.nilS [5, 1, 0] r r (.sr (.ks 1 r ?_)))
 have hw14 := W_cmp_isNaN_uint64 (I := I) hd
 refine .callP call172 r hw14 r r fun v15 hv16 => ?_
 obtain ⟨r13, rfl, hd⟩ := hv16
 refine .ks 1 r (.nilS [6, 5, 1, 0] r r (.seq (.sr (.ks 1 r (.nilS [11, 6, 1, 0] r r (.condP r hd (fun hb19 hd => ?_) fun hb19 hd => ?_))))))
 · refine .seq (.sr (.ks 1 r (.nilS [12] r r (.condP r hd (fun hb20 hd => ?_) fun hb20 hd => ?_))))
   · exact .sr (.ks 1 r (.nilS [4] r r (.ret (pret results166 (.t r .n) (.refl _) ⟨0, r, hd⟩))))
   exact .skipS [] r r (.sr (.ks 1 r (.nilS [4] r r (.ret (pret results166 (.t r .n) (.refl _) ⟨(-1), r, hd⟩)))))
 refine .skipS [6, 1, 0] r r (.seq (.sr (.ks 1 r (.nilS [13, 1, 0] r r (.condP r hd (fun hb22 hd => ?_) fun hb22 hd => ?_)))))
 · exact .sr (.ks 1 r (.nilS [4] r r (.ret (pret results166 (.t r .n) (.refl _) ⟨1, r, hd⟩))))
 refine .skipS [1, 0] r r (.seq (.sr (.ks 3 r (.nilS [16, 1, 0] r r (.condP r hd (fun hb24 hd => ?_) fun hb24 hd => ?_)))))
 · exact .sr (.ks 1 r (.nilS [4] r r (.ret (pret results166 (.t r .n) (.refl _) ⟨(-1), r, hd⟩))))
 refine .skipS [1, 0] r r (.seq (.sr (.ks 3 r (.nilS [19] r r (.condP r hd (fun hb25 hd => ?_) fun hb25 hd => ?_)))))
 · exact .sr (.ks 1 r (.nilS [4] r r (.ret (pret results166 (.t r .n) (.refl _) ⟨1, r, hd⟩))))
 exact .skipS [] r r (.sr (.ks 1 r (.nilS [4] r r (.ret (pret results166 (.t r .n) (.refl _) ⟨0, r, hd⟩)))))

theorem W_wide_Compare {I : IH} {a0 : Wide} {a1 : Wide} {Q : Int → Prop}  (hd : wide_Compare a0 a1 Q) :
  PFun prog 152 [.agg (encWide a0).toArray, .agg (encWide a1).toArray] I (fun _ => o1_ Q) := by
 refine Fun.enter func152 r ntmps152 r (.c (.c .n)) fun w0 M => ?_
 refine .sr (.boxA r r r fun b5 => ?_)
 refine .boxA r r r fun b7 => ?_
 refine .ks 1 r (.nilS [3, 2] r r (.seq (.dr [0, 1, 2, 3, 5, 6, 7, 8, 4, 9, 10, 11] 12 (.g r r r (fun _ => .fa un144 r sz2 r (o := 0) r r r .mk) (.g r r r (fun _ => .load1 ia2 r (.s .z) r r r .mk) (.g r r r (fun _ => .fa un144 r sz2 r (o := 0) r r r .mk) (.g r r r (fun _ => .load1 ia2 r .z r r r .mk) (.g r r r (fun _ => .fa un144 r sz96 r (o := 1) r r r .mk) (.g r r r (fun _ => .load1 ia96 r (.s .z) r r r .mk) ?_)))))))))
 refine .g r r r (fun _ => .fa un144 r sz96 r (o := 1) r r r .mk) (.g r r r (fun _ => .load1 ia96 r .z r r r .mk) (.ww r fun ex => ?_))
 have hw10 := W_cmp_Compare_int64 (I := I) hd
 refine .callP call146 r hw10 r r fun v11 hv12 => ?_
 obtain ⟨r9, rfl, hd⟩ := hv12
 refine .so 2 r r r (.cg r r r r (fun _ => .load1 ia96 r .z r r r .mk) (.cg r r r r (fun _ => .fa un144 r sz96 r (o := 1) r r r .mk) (.cg r r r r (fun _ => .load1 ia96 r (.s .z) r r r .mk) (.cg r r r r (fun _ => .fa un144 r sz96 r (o := 1) r r r .mk) trivial)))) (.ww r fun ex => ?_)
 have hw14 := W_cmp_Compare_uint64 (I := I) hd
 refine .callP call166 r hw14 r r fun v15 hv16 => ?_
 obtain ⟨r13, rfl, hd⟩ := hv16
 refine .so 2 r r r trivial (.ww r fun ex => ?_)
 refine .buildSlice 2 un30 sz3 zv3 r r (.c r r r (.c r r r .n)) r r fun b17 => ?_
 refine .so 3 r r r trivial (.ww r fun ex => ?_)
 refine .pubB (El := eI64) (ys := ([r9, r13] : List Int)) (k := 2) .z (RepCs.cons (cs := [.int .i64 r9]) r (RepCs.cons (cs := [.int .i64 r13]) r .nil)) r fun I19 hl20 R21 => ?_
 have hw23 := W_cmp_Or_int (I := I19) R21 hd
 refine .callP call144 r hw23 r r fun v24 hv25 => ?_
 obtain ⟨r22, rfl, hd⟩ := hv25
 exact .so 2 r r r trivial (.e2 12 (.ks 1 r (.nilS [4] r r (.drop .z (.drop .z (.ret (pret results152 (.t r .n) hl20 ⟨r22, r, hd⟩)))))))

theorem W_ring_lesser {I : IH} {a0 : Wide} {a1 : Wide} {Q : Wide → Prop}  (hd : ring_lesser a0 a1 Q) :
  PFun prog 138 [.agg (encWide a0).toArray, .agg (encWide a1).toArray] I (fun _ => o2_ Q) := by
 refine Fun.enter func138 r ntmps138 r (.c (.c .n)) fun w0 M => ?_
 refine .sr (.boxA r r r fun b7 => ?_)
 refine .boxA r r r fun b9 => ?_
 refine .allocA zv144 r r fun b11 => ?_
 refine .nilS [4, 3, 2] r r (.seq (.sr (.loadW ia144 sz144 r (.s (.s .z)) r r r (.loadW ia144 sz144 r (.s .z) r r r ?_))))
 have hw14 := W_wide_Compare (I := I) hd
 refine .callP call152 r hw14 r r fun v15 hv16 => ?_
 obtain ⟨r13, rfl, hd⟩ := hv16
 refine .ks 1 r (.nilS [8, 4, 3, 2] r r (.condP r hd (fun hb17 hd => ?_) fun hb17 hd => ?_))
 · exact .sr (.loadW ia144 sz144 r (.s (.s .z)) r r r (.storeA sz144 r r .z (.t (.t .nil)) r r (.nilS [4] r r (.drop (.s .z) (.drop (.s .z) (.ret (pret results138 (.w ia144 sz144 r .z r .n) (.refl _) ⟨a0, r, hd⟩)))))))
 exact .skipS [4, 3] r r (.drop (.s (.s .z)) (.sr (.loadW ia144 sz144 r (.s .z) r r r (.storeA sz144 r r .z (.t (.t .nil)) r r (.nilS [4] r r (.drop (.s .z) (.ret (pret results138 (.w ia144 sz144 r .z r .n) (.refl _) ⟨a1, r, hd⟩))))))))

theorem W_ring_truth {I : IH} {a0 : Bool} {Q : Wide → Prop}  (hd : ring_truth a0 Q) :
  PFun prog 139 [.bool a0] I (fun _ => o2_ Q) := by
 refine Fun.enter func139 r ntmps139 r (.c .n) fun w0 M => ?_
 refine .sr (.allocA zv144 r r fun b3 => ?_)
 refine .nilS [2, 0] r r (.seq (.sr (.ks 1 r (.nilS [3, 2] r r (.condP r hd (fun hb5 hd => ?_) fun hb5 hd => ?_)))))
 · refine .sr ?_
   have hw7 := W_wide_Of (I := I) hd
   refine .callP call127 r hw7 r r fun v8 hv9 => ?_
   obtain ⟨r6, rfl, hd⟩ := hv9
   exact .storeA sz144 r r .z (.t (.t .nil)) r r (.nilS [2] r r (.ret (pret results139 (.w ia144 sz144 r .z r .n) (.refl _) ⟨r6, r, hd⟩)))
 exact .skipS [2] r r (.sr (.build zv144 un144 BI144 .n (by exact trivial) r r (.storeA sz144 r r .z (.t (.t .nil)) r r (.nilS [2] r r (.ret (pret results139 (.w ia144 sz144 r .z r .n) (.refl _) ⟨({ Hi := 0, Lo := 0 } : Wide), r, hd⟩))))))

theorem W_wide_carry {I : IH} {a0 : Bool} {Q : Int → Prop}  (hd : wide_carry a0 Q) :
  PFun prog 153 [.bool a0] I (fun _ => o3_ Q) := by
 refine Fun.enter func153 r ntmps153 r (.c .n) fun w0 M => ?_
 refine .sr (.ks 1 r (.nilS [0] r r (.seq (.sr (.ks 1 r (.nilS [3] r r (.condP r hd (fun hb1 hd => ?_) fun hb1 hd => ?_)))))))
 · exact .sr (.ks 1 r (.nilS [2] r r (.ret (pret results153 (.t r .n) (.refl _) ⟨1, r, hd⟩))))
 exact .skipS [] r r (.sr (.ks 1 r (.nilS [2] r r (.ret (pret results153 (.t r .n) (.refl _) ⟨0, r, hd⟩)))))

theorem W_wide_Add {I : IH} {a0 : Wide} {a1 : Wide} {Q : Wide → Prop}  (hd : wide_Add a0 a1 Q) :
  PFun prog 140 [.agg (encWide a0).toArray, .agg (encWide a1).toArray] I (fun _ => o2_ Q) := by
 refine Fun.enter func140 r ntmps140 r (.c (.c .n)) fun w0 M => ?_
 refine .sr (.boxA r r r fun b7 => ?_)
 refine .boxA r r r fun b9 => ?_
 refine .allocA zv144 r r fun b11 => ?_
 refine .nilS [4, 3, 2] r r (.sr (.fa un144 r sz96 r (o := 1) r r r (.load1 ia96 r (.s (.s .z)) r r r (.fa un144 r sz96 r (o := 1) r r r (.load1 ia96 r (.s .z) r r r (.ks 2 r (.nilS [5, 4, 3, 2] r r (.seq (.dr [0, 1, 2, 3, 4, 5, 6, 7, 8, 9, 10, 14, 11, 12, 13, 15] 16 ?_)))))))))
 refine .g r r r (fun _ => .fa un144 r sz2 r (o := 0) r r r .mk) (.g r r r (fun _ => .load1 ia2 r (.s (.s .z)) r r r .mk) (.g r r r (fun _ => .conv un2 un96 r r r .mk) (.g r r r (fun _ => .fa un144 r sz2 r (o := 0) r r r .mk) (.g r r r (fun _ => .load1 ia2 r (.s .z) r r r .mk) (.g r r r (fun _ => .conv un2 un96 r r r .mk) (.fk 2 r (.g r r r (fun _ => .fa un144 r sz96 r (o := 1) r r r .mk) (.g r r r (fun _ => .load1 ia96 r (.s .z) r r r .mk) (.fk 2 r ?_)))))))))
 refine .ww r fun ex => ?_
 have hw14 := W_wide_carry (I := I) hd
 refine .callP call153 r hw14 r r fun v15 hv16 => ?_
 obtain ⟨r13, rfl, hd⟩ := hv16
 exact .so 3 r r r (.ck 2 r r (.cg r r r r (fun _ => .conv un2 un96 r r r .mk) (.cg r r r r (fun _ => .load1 ia2 r (.s .z) r r r .mk) (.cg r r r r (fun _ => .fa un144 r sz2 r (o := 0) r r r .mk) (.cg r r r r (fun _ => .conv un2 un96 r r r .mk) (.cg r r r r (fun _ => .load1 ia2 r (.s (.s .z)) r r r .mk) (.cg r r r r (fun _ => .fa un144 r sz2 r (o := 0) r r r .mk) trivial))))))) (.fk 1 r (.g r r r (fun _ => .conv un96 un2 r r r .mk) (.g r r r (fun _ => .build zv144 un144 BI144 (.c r r r (.t .nil) (.c r r r (.s (.t .nil)) .n)) (by exact ⟨⟨_, _, r, r, r⟩, ⟨⟨_, _, r, r, r⟩, trivial⟩⟩) r r .mk) (.e2 16 (.storeA sz144 r r .z (.t (.t .nil)) r r (.nilS [4] r r (.drop (.s .z) (.drop (.s .z) (.ret (pret results140 (.w ia144 sz144 r .z r .n) (.refl _) ⟨({ Hi := w64 (IntKind.wrap .u64 ((IntKind.wrap .u64 ((IntKind.wrap .u64 (a0.Hi)) + (IntKind.wrap .u64 (a1.Hi)))) + r13)), Lo := IntKind.wrap .u64 (a0.Lo + a1.Lo) } : Wide), r, hd⟩))))))))))

theorem W_ring_Add {I : IH} {a0 : Int} {a1 : Wide} {a2 : Wide} {Q : Wide → Prop}  (hd : ring_Add a0 a1 a2 Q) :
  PFun prog 128 [.int .i64 a0, .agg (encWide a1).toArray, .agg (encWide a2).toArray] I (fun _ => o2_ Q) := by
 refine Fun.enter func128 r ntmps128 r (.c (.c (.c .n))) fun w0 M => ?_
 refine .sr (.boxA r r r fun b7 => ?_)
 refine .boxA r r r fun b9 => ?_
 refine .allocA zv144 r r fun b11 => ?_
 refine .nilS [6, 5, 4, 0] r r (.seq (.sr (.ks 1 r (.nilS [7, 6, 5, 4] r r (.block (.seq ?_))))))
 refine Cod.joinQ (σ := Bool) hd (fun (s17 : Bool) c w => ∃ I_, IH.le I I_ ∧ Ok ⟨32, [], none⟩ [(4, .pointer (some ⟨b7, 0, none⟩)), (5, .pointer (some ⟨b9, 0, none⟩)), (6, .pointer (some ⟨b11, 0, none⟩)), (7, .int .i64 a0), (8, .bool s17)] c ∧ Sym w0 M I I_ [pto b7 (.cells #[.int .i64 a1.Hi, .int .u64 a1.Lo] 144 (0, 0)), pto b9 (.cells #[.int .i64 a2.Hi, .int .u64 a2.Lo] 144 (0, 0)), pto b11 (.cells #[.int .i64 0, .int .u64 0] 144 (0, 0))] w) (fun k18 hd => ?_) ?_
 · skip
   refine .sr (.ks 2 r (.nilS [8, 7, 6, 5, 4] r r (.condP r hd (fun hb19 hd => ?_) fun hb19 hd => ?_)))
   · exact .skip' fun c w ho hs => ⟨(a0 == 1), hd, I, (.refl _), ho.sub ⟨r, r, r, r, r, trivial⟩, hs.pick (.c (.s (.s .z)) (.c (.s .z) (.c .z .n)))⟩
   refine .sr (.ks 2 r (.nilS [8, 7, 6, 5, 4] r r (.condP r hd (fun hb20 hd => ?_) fun hb20 hd => ?_)))
   · exact .skip' fun c w ho hs => ⟨(a0 == 3), hd, I, (.refl _), ho.sub ⟨r, r, r, r, r, trivial⟩, hs.pick (.c (.s (.s .z)) (.c (.s .z) (.c .z .n)))⟩
   exact .region (.ks 2 r (.nil' fun c w ho hs => ⟨(a0 == 4), hd, I, (.refl _), ho.sub ⟨r, r, r, r, r, trivial⟩, hs.pick (.c (.s (.s .z)) (.c (.s .z) (.c .z .n)))⟩))
 rintro s17 hd c w hst
 obtain ⟨I21, hl22, hok, hsym⟩ := hst
 refine Cod.at hok hsym (.condP r hd (fun hb23 hd => ?_) fun hb23 hd => ?_)
 · refine .sr (.loadW ia144 sz144 r .z r r r (.loadW ia144 sz144 r (.s .z) r r r ?_))
   have hw25 := W_ring_lesser (I := I21) hd
   refine .callP call138 r hw25 r r fun v26 hv27 => ?_
   obtain ⟨r24, rfl, hd⟩ := hv27
   exact .storeA sz144 r r (.s (.s .z)) (.t (.t .nil)) r r (.nilS [6] r r (.drop .z (.drop .z (.ret (pret results128 (.w ia144 sz144 r .z r .n) hl22 ⟨r24, r, hd⟩)))))
 refine .sr (.ks 2 r (.nilS [15, 7, 6, 5, 4] r r (.condP r hd (fun hb28 hd => ?_) fun hb28 hd => ?_)))
 · refine .sr (.loadW ia144 sz144 r .z r r r (.loadW ia144 sz144 r (.s .z) r r r (.neV r r (EQ144 a1 a2) (EG144 _ _ _ _ _) r r r (.ks 1 r ?_))))
   refine splitP hd (fun hb29 hd => ?_) fun hb29 hd => ?_
   · rw [hb29]
     refine .ks 4 r ?_
     have hw31 := W_ring_truth (I := I21) hd
     refine .callP call139 r hw31 r r fun v32 hv33 => ?_
     obtain ⟨r30, rfl, hd⟩ := hv33
     exact .storeA sz144 r r (.s (.s .z)) (.t (.t .nil)) r r (.nilS [6] r r (.drop .z (.drop .z (.ret (pret results128 (.w ia144 sz144 r .z r .n) hl22 ⟨r30, r, hd⟩)))))
   rw [hb29]
   refine .gyes r r r (.loadW ia144 sz144 r .z r r r (.gyes r r r (.build zv144 un144 BI144 .n (by exact trivial) r r (.gyes r r r (.neV r r (EQ144 a1 ({ Hi := 0, Lo := 0 } : Wide)) (EG144 _ _ _ _ _) r r r (.ks 1 r ?_))))))
   have hw35 := W_ring_truth (I := I21) hd
   refine .callP call139 r hw35 r r fun v36 hv37 => ?_
   obtain ⟨r34, rfl, hd⟩ := hv37
   exact .storeA sz144 r r (.s (.s .z)) (.t (.t .nil)) r r (.nilS [6] r r (.drop .z (.drop .z (.ret (pret results128 (.w ia144 sz144 r .z r .n) hl22 ⟨r34, r, hd⟩)))))
 refine .sr (.ks 2 r (.nilS [26, 6, 5, 4] r r (.condP r hd (fun hb38 hd => ?_) fun hb38 hd => ?_)))
 · refine .sr (.loadW ia144 sz144 r .z r r r (.loadW ia144 sz144 r (.s .z) r r r ?_))
   have hw40 := W_wide_Add (I := I21) hd
   refine .callP call140 r hw40 r r fun v41 hv42 => ?_
   obtain ⟨r39, rfl, hd⟩ := hv42
   exact .storeA sz144 r r (.s (.s .z)) (.t (.t .nil)) r r (.nilS [6] r r (.drop .z (.drop .z (.ret (pret results128 (.w ia144 sz144 r .z r .n) hl22 ⟨r39, r, hd⟩)))))
 exact .skipS [6] r r (.drop .z (.drop .z (.sr (.build zv144 un144 BI144 .n (by exact trivial) r r (.storeA sz144 r r .z (.t (.t .nil)) r r (.nilS [6] r r (.ret (pret results128 (.w ia144 sz144 r .z r .n) hl22 ⟨({ Hi := 0, Lo := 0 } : Wide), r, hd⟩))))))))

theorem W_wide_Narrow {I : IH} {a0 : Wide} {Q : (Int × Bool) → Prop}  (hd : wide_Narrow a0 Q) :
  PFun prog 141 [.agg (encWide a0).toArray] I (fun _ => o4_ Q) := by
 refine Fun.enter func141 r ntmps141 r (.c .n) fun w0 M => ?_
 refine .sr (.boxA r r r fun b3 => ?_)
 refine .ks 2 r (.nilS [1] r r (.sr (.fa un144 r sz96 r (o := 1) r r r (.load1 ia96 r .z r r r (.conv un96 un2 r r r (.ks 1 r (.nilS [4, 1] r r (.seq (.seq ?_)))))))))
 refine .dr [0, 2, 1, 3] 4 (.fk 1 r (.g r r r (fun _ => .loadW ia144 sz144 r .z r r r .mk) (.ww r fun ex => ?_)))
 have hw6 := W_wide_Of (I := I) hd
 refine .callP call127 r hw6 r r fun v7 hv8 => ?_
 obtain ⟨r5, rfl, hd⟩ := hv8
 refine .so 1 r r r (.cg r r r r (fun _ => .loadW ia144 sz144 r .z r r r .mk) trivial) (.g r r r (fun _ => .neV r r (EQ144 r5 a0) (EG144 _ _ _ _ _) r r r .mk) (.e2 4 (.nilS [11, 4] r r (.drop .z (.condP r hd (fun hb9 hd => ?_) fun hb9 hd => ?_)))))
 · exact .sr (.ks 2 r (.nilS [3, 2] r r (.ret (pret results141 (.t r (.t r .n)) (.refl _) ⟨(0, false), r, hd⟩))))
 exact .skipS [4] r r (.sr (.ks 3 r (.nilS [3, 2] r r (.ret (pret results141 (.t r (.t r .n)) (.refl _) ⟨(w64 (a0.Lo), true), r, hd⟩)))))

theorem W_ring_Narrow {I : IH} {a0 : Int} {a1 : Wide} {Q : (Int × Bool) → Prop}  (hd : ring_Narrow a0 a1 Q) :
  PFun prog 129 [.int .i64 a0, .agg (encWide a1).toArray] I (fun _ => o4_ Q) := by
 refine Fun.enter func129 r ntmps129 r (.c (.c .n)) fun w0 M => ?_
 refine .sr (.boxA r r r fun b1 => ?_)
 refine .ks 2 r (.nilS [3] r r (.sr (.loadW ia144 sz144 r .z r r r ?_)))
 have hw4 := W_wide_Narrow (I := I) hd
 refine .callP call141 r hw4 r r fun v5 hv6 => ?_
 obtain ⟨r3, rfl, hd⟩ := hv6
 exact .ks 4 r (.nilS [5, 4] r r (.drop .z (.ret (pret results129 (.t r (.t r .n)) (.refl _) ⟨(r3.1, r3.2), r, hd⟩))))

theorem W_cmp_isNaN_int {I : IH} {a0 : Int} {Q : Bool → Prop}  (hd : cmp_isNaN_int a0 Q) :
  PFun prog 151 [.int .i64 a0] I (fun _ => o0_ Q) := by
 refine Fun.enter func151 r ntmps151 r (.c .n) fun w0 M => ?_
 exact .sr (.ks 1 r (.nilS [0] r r (.sr (.ks 4 r (.nilS [2] r r (.ret (pret results151 (.t r .n) (.refl _) ⟨(a0 != a0), r, hd⟩)))))))

theorem W_cmp_Compare_int {I : IH} {a0 : Int} {a1 : Int} {Q : Int → Prop}  (hd : cmp_Compare_int a0 a1 Q) :
  PFun prog 137 [.int .i64 a0, .int .i64 a1] I (fun _ => o1_ Q) := by
 refine Fun.enter func137 r ntmps137 r (.c (.c .n)) fun w0 M => ?_
 refine .sr (.ks 1 r (.nilS [1, 0] r r (.sr (.ks 1 r ?_))))
 have hw6 := W_cmp_isNaN_int (I := I) hd
 refine .callP call151 r hw6 r r fun v7 hv8 => ?_
 obtain ⟨r5, rfl, hd⟩ := hv8
 refine .ks 1 r (.nilS [5, 1, 0] r r (.sr (.ks 1 r ?_)))
 have hw14 := W_cmp_isNaN_int (I := I) hd
 refine .callP call151 r hw14 r r fun v15 hv16 => ?_
 obtain ⟨r13, rfl, hd⟩ := hv16
 refine .ks 1 r (.nilS [6, 5, 1, 0] r r (.seq (.sr (.ks 1 r (.nilS [11, 6, 1, 0] r r (.condP r hd (fun hb19 hd => ?_) fun hb19 hd => ?_))))))
 · refine .seq (.sr (.ks 1 r (.nilS [12] r r (.condP r hd (fun hb20 hd => ?_) fun hb20 hd => ?_))))
   · exact .sr (.ks 1 r (.nilS [4] r r (.ret (pret results137 (.t r .n) (.refl _) ⟨0, r, hd⟩))))
   exact .skipS [] r r (.sr (.ks 1 r (.nilS [4] r r (.ret (pret results137 (.t r .n) (.refl _) ⟨(-1), r, hd⟩)))))
 refine .skipS [6, 1, 0] r r (.seq (.sr (.ks 1 r (.nilS [13, 1, 0] r r (.condP r hd (fun hb22 hd => ?_) fun hb22 hd => ?_)))))
 · exact .sr (.ks 1 r (.nilS [4] r r (.ret (pret results137 (.t r .n) (.refl _) ⟨1, r, hd⟩))))
 refine .skipS [1, 0] r r (.seq (.sr (.ks 3 r (.nilS [16, 1, 0] r r (.condP r hd (fun hb24 hd => ?_) fun hb24 hd => ?_)))))
 · exact .sr (.ks 1 r (.nilS [4] r r (.ret (pret results137 (.t r .n) (.refl _) ⟨(-1), r, hd⟩))))
 refine .skipS [1, 0] r r (.seq (.sr (.ks 3 r (.nilS [19] r r (.condP r hd (fun hb25 hd => ?_) fun hb25 hd => ?_)))))
 · exact .sr (.ks 1 r (.nilS [4] r r (.ret (pret results137 (.t r .n) (.refl _) ⟨1, r, hd⟩))))
 exact .skipS [] r r (.sr (.ks 1 r (.nilS [4] r r (.ret (pret results137 (.t r .n) (.refl _) ⟨0, r, hd⟩)))))

theorem W_edges_ends {I : IH} {a0 : Edge} {a1 : Edge} {Q : Int → Prop}  (hd : edges_ends a0 a1 Q) :
  PFun prog 145 [.agg (encEdge a0).toArray, .agg (encEdge a1).toArray] I (fun _ => o1_ Q) := by
 refine Fun.enter func145 r ntmps145 r (.c (.c .n)) fun w0 M => ?_
 refine .sr (.boxA r r r fun b5 => ?_)
 refine .boxA r r r fun b7 => ?_
 refine .ks 1 r (.nilS [3, 2] r r (.seq (.dr [0, 1, 2, 3, 5, 6, 7, 8, 4, 9, 10, 11] 12 (.g r r r (fun _ => .fa un73 r sz3 r (o := 0) r r r .mk) (.g r r r (fun _ => .load1 ia3 r (.s .z) r r r .mk) (.g r r r (fun _ => .fa un73 r sz3 r (o := 0) r r r .mk) (.g r r r (fun _ => .load1 ia3 r .z r r r .mk) (.g r r r (fun _ => .fa un73 r sz3 r (o := 1) r r r .mk) (.g r r r (fun _ => .load1 ia3 r (.s .z) r r r .mk) ?_)))))))))
 refine .g r r r (fun _ => .fa un73 r sz3 r (o := 1) r r r .mk) (.g r r r (fun _ => .load1 ia3 r .z r r r .mk) (.ww r fun ex => ?_))
 have hw10 := W_cmp_Compare_int (I := I) hd
 refine .callP call137 r hw10 r r fun v11 hv12 => ?_
 obtain ⟨r9, rfl, hd⟩ := hv12
 refine .so 2 r r r (.cg r r r r (fun _ => .load1 ia3 r .z r r r .mk) (.cg r r r r (fun _ => .fa un73 r sz3 r (o := 1) r r r .mk) (.cg r r r r (fun _ => .load1 ia3 r (.s .z) r r r .mk) (.cg r r r r (fun _ => .fa un73 r sz3 r (o := 1) r r r .mk) trivial)))) (.ww r fun ex => ?_)
 have hw14 := W_cmp_Compare_int (I := I) hd
 refine .callP call137 r hw14 r r fun v15 hv16 => ?_
 obtain ⟨r13, rfl, hd⟩ := hv16
 refine .so 2 r r r trivial (.ww r fun ex => ?_)
 refine .buildSlice 2 un30 sz3 zv3 r r (.c r r r (.c r r r .n)) r r fun b17 => ?_
 refine .so 3 r r r trivial (.ww r fun ex => ?_)
 refine .pubB (El := eI64) (ys := ([r9, r13] : List Int)) (k := 2) .z (RepCs.cons (cs := [.int .i64 r9]) r (RepCs.cons (cs := [.int .i64 r13]) r .nil)) r fun I19 hl20 R21 => ?_
 have hw23 := W_cmp_Or_int (I := I19) R21 hd
 refine .callP call144 r hw23 r r fun v24 hv25 => ?_
 obtain ⟨r22, rfl, hd⟩ := hv25
 exact .so 2 r r r trivial (.e2 12 (.ks 1 r (.nilS [4] r r (.drop .z (.drop .z (.ret (pret results145 (.t r .n) hl20 ⟨r22, r, hd⟩)))))))

theorem W_edges_order {I : IH} {a0 : Edge} {a1 : Edge} {Q : Int → Prop}  (hd : edges_order a0 a1 Q) :
  PFun prog 131 [.agg (encEdge a0).toArray, .agg (encEdge a1).toArray] I (fun _ => o1_ Q) := by
 refine Fun.enter func131 r ntmps131 r (.c (.c .n)) fun w0 M => ?_
 refine .sr (.boxA r r r fun b5 => ?_)
 refine .boxA r r r fun b7 => ?_
 refine .ks 1 r (.nilS [3, 2] r r (.seq (.dr [0, 1, 3, 4, 5, 6, 2, 7, 8, 9] 10 (.g r r r (fun _ => .loadW ia73 sz73 r (.s .z) r r r .mk) (.g r r r (fun _ => .loadW ia73 sz73 r .z r r r .mk) (.g r r r (fun _ => .fa un73 r sz2 r (o := 2) r r r .mk) (.g r r r (fun _ => .load1 ia2 r (.s .z) r r r .mk) (.g r r r (fun _ => .fa un73 r sz2 r (o := 2) r r r .mk) (.g r r r (fun _ => .load1 ia2 r .z r r r .mk) ?_)))))))))
 refine .ww r fun ex => ?_
 have hw10 := W_edges_ends (I := I) hd
 refine .callP call145 r hw10 r r fun v11 hv12 => ?_
 obtain ⟨r9, rfl, hd⟩ := hv12
 refine .so 2 r r r (.cg r r r r (fun _ => .load1 ia2 r .z r r r .mk) (.cg r r r r (fun _ => .fa un73 r sz2 r (o := 2) r r r .mk) (.cg r r r r (fun _ => .load1 ia2 r (.s .z) r r r .mk) (.cg r r r r (fun _ => .fa un73 r sz2 r (o := 2) r r r .mk) trivial)))) (.ww r fun ex => ?_)
 have hw14 := W_cmp_Compare_int64 (I := I) hd
 refine .callP call146 r hw14 r r fun v15 hv16 => ?_
 obtain ⟨r13, rfl, hd⟩ := hv16
 refine .so 2 r r r trivial (.ww r fun ex => ?_)
 refine .buildSlice 2 un30 sz3 zv3 r r (.c r r r (.c r r r .n)) r r fun b17 => ?_
 refine .so 3 r r r trivial (.ww r fun ex => ?_)
 refine .pubB (El := eI64) (ys := ([r9, r13] : List Int)) (k := 2) .z (RepCs.cons (cs := [.int .i64 r9]) r (RepCs.cons (cs := [.int .i64 r13]) r .nil)) r fun I19 hl20 R21 => ?_
 have hw23 := W_cmp_Or_int (I := I19) R21 hd
 refine .callP call144 r hw23 r r fun v24 hv25 => ?_
 obtain ⟨r22, rfl, hd⟩ := hv25
 exact .so 2 r r r trivial (.e2 10 (.ks 1 r (.nilS [4] r r (.drop .z (.drop .z (.ret (pret results131 (.t r .n) hl20 ⟨r22, r, hd⟩)))))))

theorem W_edges_Combine {I : IH} {a0 : Int} {a1 : List Edge} {p1 : Option Addr} {c2 : Nat} {Q : ((List Edge) × Int) → Prop} (R3 : RepSl eEdge I p1 c2 a1) (hd : edges_Combine a0 a1 Q) :
  PFun prog 112 [.int .i64 a0, .slice p1 a1.length c2] I (fun I_ v => ∃ r p4 c5, v = .tuple #[.slice p4 r.1.length c5, .int .i64 r.2] ∧ RepSl eEdge I_ p4 c5 r.1 ∧ Q r) := by
 refine Fun.enter func112 r ntmps112 r (.c (.c .n)) fun w0 M => ?_
 refine .sr (.ks 2 r (.nilS [1, 0] r r (.seq (.sr (.ks 1 r ?_)))))
 have hw13 := W_ring_Is (I := I) hd
 refine .callP call126 r hw13 r r fun v14 hv15 => ?_
 obtain ⟨r12, rfl, hd⟩ := hv15
 refine .ks 1 r (.nilS [20, 1, 0] r r (.condP r hd (fun hb16 hd => ?_) fun hb16 hd => ?_))
 · exact .sr (.ks 2 r (.nilS [5, 4] r r (.ret (pret results112 (.t r (.t r .n)) (.refl _) ⟨(([] : List Edge), 8), _, _, r, (.nil _ _ _), hd⟩))))
 refine .skipS [1, 0] r r (.sr (.mkMap kArr2 eWide true r r fun b19 => ?_))
 refine .ks 1 r (.nilS [6, 1, 0] r r (.seq (.sr (.ks 1 r (.len un26 r r r r (.ks 1 r (.nilS [24, 23, 22, 6, 0] r r (.block (.loop hd (fun (s : (List ((Int × Int) × Wide)) × Int) c w => match s with | (s303, s304) => ∃ I_, IH.le I I_ ∧ Ok ⟨78, [], none⟩ [(0, .int .i64 a0), (6, .map (some b19)), (22, .slice p1 a1.length c2), (23, .int .i64 (a1.length : Int)), (24, .int .i64 s304)] c ∧ Sym w0 M I I_ [OwnMap kArr2 eWide true b19 s303] w) (fun c w ho hs => ⟨I, (.refl _), ho.sub ⟨r, r, r, r, r, trivial⟩, hs.pick (.c .z .n)⟩) ?_)))))))))
 rintro ⟨s303, s304⟩ next305 hd c w hst
 obtain ⟨I306, hl307, hok, hsym⟩ := hst
 replace R3 := R3.mono hl307
 refine Cod.at hok hsym (.sr (.ks 1 r (.nilS [25, 24, 23, 22, 6, 0] r r (.seq (.condP r hd (fun hb309 hd => ?_) fun hb309 hd => ?_)))))
 · refine .skipS [24, 23, 22, 6, 0] r r (.seq (.block (.sr ?_)))
   obtain ⟨h321, x322, hx323, hd⟩ := hd
   obtain ⟨b324, o325, cs326, e327, hC328, hr329⟩ := R3.2 _ _ hx323
   cases hr329
   refine .ixa un26 sz73 r e327 r h321 (idx_lt hx323 h321) r r (.ldW ia73 sz73 hC328 r r r r (.allocA zv73 r r fun b330 => ?_))
   refine .storeA sz73 r r .z (.t (.t (.t .nil))) r r (.nilS [8, 24, 23, 22, 6, 0] r r (.sr (.fa un73 r sz3 r (o := 0) r r r (.load1 ia3 r .z r r r (.fa un73 r sz3 r (o := 1) r r r (.load1 ia3 r .z r r r (.buildArr zeroValue142 underlying142 sz3 (.c r r r (.t .nil) (.c r r r (.s (.t .nil)) .n)) r r (.allocA zeroValue142 r r fun b334 => ?_))))))))
   refine .storeA sizeOf142 r r .z (.t (.t .nil)) r r (.nilS [9, 8, 24, 23, 22, 6, 0] r r (.sr (.fa un73 r sz2 r (o := 2) r r r (.load1 ia2 r (.s .z) r r r ?_))))
   have hw343 := W_wide_Of (I := I306) hd
   refine .callP call127 r hw343 r r fun v344 hv345 => ?_
   obtain ⟨r342, rfl, hd⟩ := hv345
   refine .allocA zv144 r r fun b346 => ?_
   refine .storeA sz144 r r .z (.t (.t .nil)) r r (.nilS [10, 9, 24, 23, 22, 6, 0] r r (.drop (.s (.s .z)) (.seq (.sr (.ks 1 r (.loadW isAgg142 sizeOf142 r (.s .z) r r r (.lookM2 (k := (x322.From, x322.To)) (El := eWide) (ag := true) (zv := .agg #[.int .i64 0, .int .u64 0]) (z := ({ Hi := 0, Lo := 0 } : Wide)) KA142 underlying141 zv144 ⟨[.int .i64 0, .int .u64 0], r, .a⟩ (.s (.s .z)) r r hd r r fun v351 r348 t353 cs352 hd hr349 hv350 => ?_)))))))
   cases hr349
   cases hv350
   refine .ks 3 r (.allocA zv144 r r fun b354 => ?_)
   refine .storeA sz144 r r .z (.t (.t .nil)) r r (.ks 1 r (.nilS [12, 11, 10, 9, 24, 23, 22, 6, 0] r r (.sr (.ks 1 r (.nilS [42, 11, 10, 9, 24, 23, 22, 6, 0] r r (.condP r hd (fun hb356 hd => ?_) fun hb356 hd => ?_))))))
   · refine .region (.ks 1 r (.loadW ia144 sz144 r .z r r r (.loadW ia144 sz144 r (.s .z) r r r ?_)))
     have hw358 := W_ring_Add (I := I306) hd
     refine .callP call128 r hw358 r r fun v359 hv360 => ?_
     obtain ⟨r357, rfl, hd⟩ := hv360
     refine .storeA sz144 r r (.s .z) (.t (.t .nil)) r r (.nilS [10, 9, 24, 23, 22, 6, 0] r r (.drop .z (.region (.ks 1 r (.loadW isAgg142 sizeOf142 r (.s .z) r r r (.loadW ia144 sz144 r .z r r r (.updM (k := (x322.From, x322.To)) (El := eWide) (ag := true) (v := r357) KA142 underlying141 (.s (.s .z)) r r r ⟨[.int .i64 r357.Hi, .int .u64 r357.Lo], r, .a⟩ (.nilS [24, 23, 22, 6, 0] r r (.drop .z ?_)))))))))
     exact .drop .z (.region (.ks 2 r (.nil' fun c w ho hs => ⟨((mput (x322.From, x322.To) r357 s303), w64 (s304 + 1)), hd, I306, hl307, ho.sub ⟨r, r, r, r, r, trivial⟩, hs.pick (.c .z .n)⟩)))
   refine .skipS [10, 9, 24, 23, 22, 6, 0] r r (.drop .z (.region (.ks 1 r (.loadW isAgg142 sizeOf142 r (.s .z) r r r (.loadW ia144 sz144 r .z r r r (.updM (k := (x322.From, x322.To)) (El := eWide) (ag := true) (v := r342) KA142 underlying141 (.s (.s .z)) r r r ⟨[.int .i64 r342.Hi, .int .u64 r342.Lo], r, .a⟩ (.nilS [24, 23, 22, 6, 0] r r (.drop .z (.drop .z ?_)))))))))
   exact .region (.ks 2 r (.nil' fun c w ho hs => ⟨((mput (x322.From, x322.To) r342 s303), w64 (s304 + 1)), hd, I306, hl307, ho.sub ⟨r, r, r, r, r, trivial⟩, hs.pick (.c .z .n)⟩))
 refine .exitS [6, 0] r r (.sr (.ks 1 r (.nilS [13, 6, 0] r r (.seq (.sr (.ks 1 r (.rangeM underlying141 .z r r r fun b362 => ?_)))))))
 refine .nilS [52, 13, 0] r r (.block (.own0 eEdge 73 (.loop hd (fun (s : (List Edge) × (List ((Int × Int) × Wide))) c w => match s with | (s467, s471) => ∃ I_ p468 c469, IH.le I306 I_ ∧ Ok ⟨78, [], none⟩ [(0, .int .i64 a0), (13, .slice p468 s467.length c469), (52, .pointer (some ⟨b362, 0, none⟩))] c ∧ Sym w0 M I I_ [OwnSl eEdge 73 p468 c469 s467, OwnIt kArr2 eWide true b19 b362 s303 s471 none] w) (fun c w ho hs => ⟨I306, _, _, (.refl _), ho.sub ⟨r, r, r, trivial⟩, hs.pick (.c .z (.c .z .n))⟩) ?_)))
 rintro ⟨s467, s471⟩ next473 hd c w hst
 obtain ⟨I474, p468, c469, hl475, hok, hsym⟩ := hst
 have le476 := IH.le.trans hl307 hl475
 refine Cod.at hok hsym (.sr (.nextM (.s .z) r hd r r (fun hd hn497 => ?_) (fun p491 l492 v493 cs494 hd hr495 hv496 hn497 => ?_)))
 · skip
   refine .ks 1 r (.nilS [54, 52, 13, 0] r r (.seq (.condKF r r (.exitS [13] r r (.drop (.s .z) (.sr (.ks 1 r ?_)))))))
   have hw498 := Fun.sort (hk := fun _ => ⟨r, r⟩) SL130 ia73 sz73 (fun x y J Q hq => W_edges_order (I := J) (a0 := x) (a1 := y) (Q := Q) hq) call131 (I := I474) (T := 73) (a := p468) (cap := c469) hd
   refine .callS (.f call130 r) (.c .z .n) hw498 r r fun v499 I500 l501 hl502 hv503 => ?_
   obtain ⟨y504, rfl, hlen505, rfl, hd⟩ := hv503
   have le506 := IH.le.trans le476 hl502
   have le507 := IH.le.trans hl475 hl502
   refine .sub (E' := [(13, .slice p468 y504.length c469), (75, .slice p468 y504.length c469), (76, _)]) ⟨(by rw [hlen505]; rfl), (by rw [hlen505]; rfl), r, trivial⟩ (.nilS [13] r r (.sr (.ks 3 r (.nilS [5, 4] r r (.pub .z fun I508 hl509 R510 => ?_)))))
   have le511 := IH.le.trans le506 hl509
   have le512 := IH.le.trans le507 hl509
   exact .ret (pret results112 (.t r (.t r .n)) le511 ⟨(y504, 0), _, _, r, R510, hd⟩)
 cases hr495
 cases hv496
 refine .ks 1 r (.nilS [54, 52, 13, 0] r r (.seq (.condKT r r (.skipS [52, 13, 0] r r (.block (.sr (.entryM .z r r r (.ks 2 r (.allocA zeroValue142 r r fun b517 => ?_)))))))))
 refine .allocA zv144 r r fun b519 => ?_
 refine .storeA sizeOf142 r r (.s .z) (.t (.t .nil)) r r (.storeA sz144 r r .z (.t (.t .nil)) r r (.nilS [15, 14, 52, 13, 0] r r (.sr (.ks 1 r (.loadW ia144 sz144 r .z r r r ?_)))))
 have hw526 := W_ring_Narrow (I := I474) hd
 refine .callP call129 r hw526 r r fun v527 hv528 => ?_
 obtain ⟨r525, rfl, hd⟩ := hv528
 refine .ks 5 r (.nilS [17, 16, 14, 52, 13, 0] r r (.drop .z (.seq (.sr (.ks 2 r (.nilS [65, 16, 14, 52, 13, 0] r r (.condP r hd (fun hb529 hd => ?_) fun hb529 hd => ?_)))))))
 · exact .sr (.ks 2 r (.nilS [5, 4] r r (.drop .z (.drop .z (.drop .z (.ret (pret results112 (.t r (.t r .n)) le476 ⟨(([] : List Edge), 12), _, _, r, (.nil _ _ _), hd⟩)))))))
 refine .skipS [16, 14, 52, 13, 0] r r (.region (.ks 1 r (.ixArr (i := 0) underlying142 sz3 r r (by decide) (o := 0) r r r (.load1 ia3 r .z r r r (.ixArr (i := 1) underlying142 sz3 r r (by decide) (o := 1) r r r (.load1 ia3 r .z r r r (.ks 1 r (.build zv73 un73 BI73 (.c r r r (.t .nil) (.c r r r (.s (.t .nil)) (.c r r r (.s (.s (.t .nil))) .n))) (by exact ⟨⟨_, _, r, r, r⟩, ⟨⟨_, _, r, r, r⟩, ⟨⟨_, _, r, r, r⟩, trivial⟩⟩⟩) r r (.buildSlice 1 un26 sz73 zv73 r r (.c r r r .n) r r fun b530 => ?_)))))))))
 obtain ⟨hl532, hd⟩ := hd
 refine .append (ys := [({ From := p491.1.1, To := p491.1.2, W := r525.1 } : Edge)]) 24 (.s (.s (.s .z))) un26 un26 IN73 r r r r r r r r r (.box .z (.one r) r) hl532 r r fun p533 c534 => ?_
 exact .ks 1 r (.nil' fun c w ho hs => ⟨((s467 ++ ([({ From := p491.1.1, To := p491.1.2, W := r525.1 } : Edge)])), l492), hd, I474, _, _, hl475, ho.sub ⟨r, r, r, trivial⟩, hs.pick (.c .z (.c (.s (.s .z)) .n))⟩)

theorem W_edges_Canon {I : IH} {a0 : Graph} {p1 : Option Addr} {c2 : Nat} {Q : Graph → Prop} (R3 : RepSl eEdge I p1 c2 a0.Edges) (hd : edges_Canon a0 Q) :
  PFun prog 86 [.agg #[.int .i64 a0.N, .slice p1 a0.Edges.length c2]] I (o5_ Q) := by
 refine Fun.enter func86 r ntmps86 r (.c .n) fun w0 M => ?_
 refine .sr (.boxA r r r fun b11 => ?_)
 refine .allocA zv28 r r fun b13 => ?_
 refine .nilS [2, 1] r r (.sr (.fa un28 r sz26 r (o := 1) r r r (.load1 ia26 r (.s .z) r r r ?_)))
 have hw24 := W_edges_Combine (I := I) R3 hd
 refine .call call112 r hw24 r r fun v19 I16 hl17 hv18 => ?_
 obtain ⟨r15, p21, c22, rfl, R23, hd⟩ := hv18
 replace R3 := R3.mono hl17
 refine .ks 5 r (.nilS [3, 2, 1] r r (.sr (.fa un28 r sz3 r (o := 0) r r r (.load1 ia3 r (.s .z) r r r (.ks 1 r (.build zv28 un28 BI28 (.c r r r (.t .nil) (.c r r r (.s (.t .nil)) .n)) (by exact ⟨⟨_, _, r, r, r⟩, ⟨⟨_, _, r, r, r⟩, trivial⟩⟩) r r (.storeA sz28 r r .z (.t (.t .nil)) r r (.nilS [2] r r (.drop (.s .z) ?_)))))))))
 exact .ret (pret results86 (.w ia28 sz28 r .z r .n) hl17 ⟨({ N := a0.N, Edges := r15.1 } : Graph), _, _, r, R23, hd⟩)

theorem W_edges_Simple_1_100 {I : IH} {a0 : Edge} {Q : (Edge × Bool) → Prop}  (hd : edges_Simple_1_100 a0 Q) :
  Fun prog 85 #[.agg (encEdge a0).toArray] I [] (fun I_ v l => ∃ r, v = .tuple #[.agg (encEdge r.1).toArray, .bool r.2] ∧ l = [] ∧ Q r) := by
 refine Fun.enter (vs := [.agg (encEdge a0).toArray]) func85 r ntmps85 r (.c .n) fun w0 M => ?_
 refine .sr (.boxA r r r fun b1 => ?_)
 refine .allocA zv73 r r fun b3 => ?_
 refine .ks 1 r (.nilS [2, 1] r r (.seq (.dr [0, 1, 2, 3, 4, 5, 6] 7 (.g r r r (fun _ => .loadW ia73 sz73 r (.s .z) r r r .mk) (.g r r r (fun _ => .fa un73 r sz3 r (o := 0) r r r .mk) (.g r r r (fun _ => .load1 ia3 r (.s .z) r r r .mk) (.g r r r (fun _ => .fa un73 r sz3 r (o := 1) r r r .mk) (.g r r r (fun _ => .load1 ia3 r (.s .z) r r r .mk) (.fk 1 r ?_)))))))))
 refine .ww r fun ex => ?_
 exact .storeA sz73 r r .z (.t (.t (.t .nil))) r r (.sn 2 r r r (.ck 1 r r (.cg r r r r (fun _ => .load1 ia3 r (.s .z) r r r .mk) (.cg r r r r (fun _ => .fa un73 r sz3 r (o := 1) r r r .mk) (.cg r r r r (fun _ => .load1 ia3 r (.s .z) r r r .mk) (.cg r r r r (fun _ => .fa un73 r sz3 r (o := 0) r r r .mk) trivial))))) (.e2 7 (.ks 1 r (.nilS [3, 2] r r (.drop (.s .z) (.ret (oret results85 (.w ia73 sz73 r .z r (.t r .n)) (.refl _) .n ⟨(a0, a0.From != a0.To), r, r, hd⟩)))))))

theorem W_edges_made_71c {I : IH} {a0 : Graph} {p1 : Option Addr} {c2 : Nat} {Q : Graph → Prop} (R3 : RepSl eEdge I p1 c2 a0.Edges) (hd : edges_made_71c a0 Q) :
  Fun prog 84 #[.agg #[.int .i64 a0.N, .slice p1 a0.Edges.length c2], .func (.func 85) #[] #[]] I [] (fun I_ v l => ∃ r p4 c5, v = .agg #[.int .i64 r.N, .slice p4 r.Edges.length c5] ∧ RepSl eEdge I_ p4 c5 r.Edges ∧ l = [] ∧ Q r) := by
 refine Fun.enter (vs := [.agg #[.int .i64 a0.N, .slice p1 a0.Edges.length c2], .func (.func 85) #[] #[]]) func84 r ntmps84 r (.c (.c .n)) fun w0 M => ?_
 refine .sr (.boxA r r r fun b8 => ?_)
 refine .allocA zv28 r r fun b10 => ?_
 refine .nilS [4, 2, 1] r r (.sr (.ks 1 r (.nilS [5, 4, 2, 1] r r (.seq (.sr (.fa un28 r sz26 r (o := 1) r r r (.load1 ia26 r (.s .z) r r r (.len un26 r r r r (.ks 1 r ?_)))))))))
 refine .nilS [13, 12, 11, 5, 4, 2, 1] r r (.block (.own0 eEdge 73 (.loop hd (fun (s : (List Edge) × Int) c w => match s with | (s108, s112) => ∃ I_ p109 c110, IH.le I I_ ∧ Ok ⟨34, [], none⟩ [(1, .func (.func 85) #[] #[]), (2, .pointer (some ⟨b8, 0, none⟩)), (4, .pointer (some ⟨b10, 0, none⟩)), (5, .slice p109 s108.length c110), (11, .slice p1 a0.Edges.length c2), (12, .int .i64 (a0.Edges.length : Int)), (13, .int .i64 s112)] c ∧ Sym w0 M I I_ [pto b8 (.cells #[.int .i64 a0.N, .slice p1 a0.Edges.length c2] 28 (0, 0)), pto b10 (.cells #[.int .i64 0, .slice none 0 0] 28 (0, 0)), OwnSl eEdge 73 p109 c110 s108] w) (fun c w ho hs => ⟨I, _, _, (.refl _), ho.sub ⟨r, r, r, r, r, r, r, trivial⟩, hs.pick (.c (.s (.s .z)) (.c (.s .z) (.c .z .n)))⟩) ?_)))
 rintro ⟨s108, s112⟩ next114 hd c w hst
 obtain ⟨I115, p109, c110, hl116, hok, hsym⟩ := hst
 replace R3 := R3.mono hl116
 refine Cod.at hok hsym (.sr (.ks 1 r (.nilS [14, 13, 12, 11, 5, 4, 2, 1] r r (.seq (.condP r hd (fun hb118 hd => ?_) fun hb118 hd => ?_)))))
 · refine .skipS [13, 12, 11, 5, 4, 2, 1] r r (.seq (.block (.sr ?_)))
   obtain ⟨h130, x131, hx132, hd⟩ := hd
   obtain ⟨b133, o134, cs135, e136, hC137, hr138⟩ := R3.2 _ _ hx132
   cases hr138
   refine .ixa un26 sz73 r e136 r h130 (idx_lt hx132 h130) r r (.ldW ia73 sz73 hC137 r r r r (.allocA zv73 r r fun b139 => ?_))
   refine .storeA sz73 r r .z (.t (.t (.t .nil))) r r (.nilS [7, 13, 12, 11, 5, 4, 2, 1] r r (.sr (.ks 1 r (.loadW ia73 sz73 r .z r r r ?_))))
   have hw141 := W_edges_Simple_1_100 (I := I115) (a0 := x131) hd
   refine .callS (.c call85 r r) .n hw141 r r fun v145 I142 l146 hl143 hv144 => ?_
   obtain ⟨r147, rfl, rfl, hd⟩ := hv144
   have le148 := IH.le.trans hl116 hl143
   replace R3 := R3.mono hl143
   refine .re (m' := [pto b139 (.cells #[.int .i64 x131.From, .int .i64 x131.To, .int .i64 x131.W] 73 (0, 0)), pto b8 (.cells #[.int .i64 a0.N, .slice p1 a0.Edges.length c2] 28 (0, 0)), pto b10 (.cells #[.int .i64 0, .slice none 0 0] 28 (0, 0)), OwnSl eEdge 73 p109 c110 s108]) r (.ks 3 r (.allocA zv73 r r fun b149 => ?_))
   refine .storeA sz73 r r .z (.t (.t (.t .nil))) r r (.ks 1 r (.nilS [9, 8, 13, 12, 11, 5, 4, 2, 1] r r (.drop (.s .z) (.sr (.ks 1 r (.nilS [23, 8, 13, 12, 11, 5, 4, 2, 1] r r (.condP r hd (fun hb151 hd => ?_) fun hb151 hd => ?_)))))))
   · refine .region (.ks 1 r (.loadW ia73 sz73 r .z r r r (.buildSlice 1 un26 sz73 zv73 r r (.c r r r .n) r r fun b152 => ?_)))
     obtain ⟨hl154, hd⟩ := hd
     refine .append (ys := [r147.1]) 24 (.s (.s (.s (.s .z)))) un26 un26 IN73 r r r r r r r r r (.box .z (.one r) r) hl154 r r fun p155 c156 => ?_
     exact .ks 1 r (.nilS [5, 13, 12, 11, 4, 2, 1] r r (.drop (.s .z) (.drop (.s .z) (.region (.ks 2 r (.nil' fun c w ho hs => ⟨((s108 ++ ([r147.1])), w64 (s112 + 1)), hd, I142, _, _, le148, ho.sub ⟨r, r, r, r, r, r, r, trivial⟩, hs.pick (.c (.s .z) (.c (.s .z) (.c .z .n)))⟩))))))
   exact .skipS [13, 12, 11, 5, 4, 2, 1] r r (.drop .z (.region (.ks 2 r (.nil' fun c w ho hs => ⟨(s108, w64 (s112 + 1)), hd, I142, _, _, le148, ho.sub ⟨r, r, r, r, r, r, r, trivial⟩, hs.pick (.c .z (.c .z (.c .z .n)))⟩))))
 refine .exitS [5, 4, 2, 1] r r (.sr (.fa un28 r sz3 r (o := 0) r r r (.load1 ia3 r .z r r r (.ks 1 r (.build zv28 un28 BI28 (.c r r r (.t .nil) (.c r r r (.s (.t .nil)) .n)) (by exact ⟨⟨_, _, r, r, r⟩, ⟨⟨_, _, r, r, r⟩, trivial⟩⟩) r r (.pub (.s (.s .z)) fun I158 hl159 R160 => ?_))))))
 have le161 := IH.le.trans hl116 hl159
 replace R3 := R3.mono hl159
 have hw171 := W_edges_Canon (I := I158) (a0 := ({ N := a0.N, Edges := s108 } : Graph)) R160 hd
 refine .call call86 r hw171 r r fun v166 I163 hl164 hv165 => ?_
 obtain ⟨r162, p168, c169, rfl, R170, hd⟩ := hv165
 have le172 := IH.le.trans le161 hl164
 replace R3 := R3.mono hl164
 replace R160 := R160.mono hl164
 exact .storeA sz28 r r (.s .z) (.t (.t .nil)) r r (.nilS [4, 1] r r (.drop .z (.ret (oret results84 (.w ia28 sz28 r .z r .n) le172 .n ⟨r162, _, _, r, R170, r, hd⟩))))

theorem W_edges_Simple {I : IH} {a0 : Graph} {p1 : Option Addr} {c2 : Nat} {Q : Graph → Prop} (R3 : RepSl eEdge I p1 c2 a0.Edges) (hd : edges_Simple a0 Q) :
  PFun prog 39 [.agg #[.int .i64 a0.N, .slice p1 a0.Edges.length c2]] I (o5_ Q) := by
 refine Fun.enter func39 r ntmps39 r (.c .n) fun w0 M => ?_
 refine .sr (.boxA r r r fun b7 => ?_)
 refine .allocA zv28 r r fun b9 => ?_
 refine .nilS [2, 1] r r (.sr (.loadW ia28 sz28 r (.s .z) r r r ?_))
 have hw11 := W_edges_made_71c (I := I) (a0 := a0) R3 hd
 refine .callS (.f call84 r) .n hw11 r r fun v15 I12 l16 hl13 hv14 => ?_
 obtain ⟨r17, p18, c19, rfl, R20, rfl, hd⟩ := hv14
 replace R3 := R3.mono hl13
 exact .re (m' := [pto b9 (.cells #[.int .i64 0, .slice none 0 0] 28 (0, 0)), pto b7 (.cells #[.int .i64 a0.N, .slice p1 a0.Edges.length c2] 28 (0, 0))]) r (.storeA sz28 r r .z (.t (.t .nil)) r r (.nilS [2] r r (.drop (.s .z) (.ret (pret results39 (.w ia28 sz28 r .z r .n) hl13 ⟨r17, _, _, r, R20, hd⟩)))))

theorem W_slices_Grow_api_Edge_api_Edge {I : IH} {a1 : Int} {Q : (List Edge) → Prop}  (hd : slices_Grow_api_Edge_api_Edge a1 Q) :
  OFun prog 113 [.slice none 0 0, .int .i64 a1] I (fun I_ v l => ∃ r p1 c2, v = .slice p1 r.length c2 ∧ l = [OwnSl eEdge 73 p1 c2 r] ∧ Q r) := by
 refine Fun.enter func113 r ntmps113 r (.c (.c .n)) fun w0 M => ?_
 refine .sr (.ks 1 r (.nilS [1, 0] r r (.seq (.sr (.ks 2 r (.nilS [6, 1, 0] r r (.condP r hd (fun hb5 hd => ?_) fun hb5 hd => ?_)))))))
 · refine .region ?_
   exact hd.elim
 refine .skipS [1, 0] r r (.seq (.sr (.ks 2 r (.capOf un26 r r r r (.ks 1 r (.len un26 r r r r (.ks 3 r (.nilS [1, 0] r r (.sr ?_)))))))))
 refine .ks 2 r (.nilS [16, 1, 0] r r (.condP r hd (fun hb6 hd => ?_) fun hb6 hd => ?_))
 · refine .region (.ks 2 r (.capOf un26 r r r r (.slZ un26 sz73 r r (Nat.le_refl _) r r r (.ks 1 r ?_))))
   obtain ⟨h7, h8, hd⟩ := hd
   refine .growN eEdge 24 un26 un3 IN73 r r r r r r r r h7 h8 r r fun b9 c10 h11 => ?_
   exact .ks 1 r (.len un26 r r r r (.slZ un26 sz73 r r h11 map_add0 r r (.ks 1 r (.nilS [0] r r (.sr (.ks 2 r (.nilS [4] r r (.ret (oret results113 (.t r .n) (.refl _) (.c .z .n) ⟨([] : List Edge), _, _, r, r, hd⟩)))))))))
 exact .skipS [0] r r (.sr (.ks 2 r (.nilS [4] r r (.own0 eEdge 73 (.ret (oret results113 (.t r .n) (.refl _) (.c .z .n) ⟨([] : List Edge), _, _, r, r, hd⟩))))))

theorem W_slices_Concat_api_Edge_api_Edge {I : IH} {a0 : List (List Edge)} {p1 : Option Addr} {c2 : Nat} {Q : (List Edge) → Prop} (R3 : RepSl (slEl eEdge) I p1 c2 a0) (hd : slices_Concat_api_Edge_api_Edge a0 Q) :
  PFun prog 87 [.slice p1 a0.length c2] I (fun I_ v => ∃ r p4 c5, v = .slice p4 r.length c5 ∧ RepSl eEdge I_ p4 c5 r ∧ Q r) := by
 refine Fun.enter func87 r ntmps87 r (.c .n) fun w0 M => ?_
 refine .sr (.ks 1 r (.nilS [0] r r (.sr (.ks 1 r (.nilS [3, 0] r r (.seq (.sr (.ks 1 r (.len underlying133 r r r r ?_)))))))))
 refine .ks 1 r (.nilS [11, 10, 9, 3, 0] r r (.block (.loop hd (fun (s : Int × Int) c w => match s with | (s159, s160) => ∃ I_, IH.le I I_ ∧ Ok ⟨36, [], none⟩ [(0, .slice p1 a0.length c2), (3, .int .i64 s159), (9, .slice p1 a0.length c2), (10, .int .i64 (a0.length : Int)), (11, .int .i64 s160)] c ∧ Sym w0 M I I_ [] w) (fun c w ho hs => ⟨I, (.refl _), ho.sub ⟨r, r, r, r, r, trivial⟩, hs.pick .n⟩) ?_)))
 rintro ⟨s159, s160⟩ next161 hd c w hst
 obtain ⟨I162, hl163, hok, hsym⟩ := hst
 replace R3 := R3.mono hl163
 refine Cod.at hok hsym (.sr (.ks 1 r (.nilS [12, 11, 10, 9, 3, 0] r r (.seq (.condP r hd (fun hb165 hd => ?_) fun hb165 hd => ?_)))))
 · refine .skipS [11, 10, 9, 3, 0] r r (.seq (.block (.sr ?_)))
   obtain ⟨h178, x179, hx180, hd⟩ := hd
   obtain ⟨b181, o182, cs183, e184, hC185, hr186⟩ := R3.2 _ _ hx180
   obtain ⟨p187, c188, rfl, R189⟩ := hr186
   refine .ixa underlying133 sz26 r e184 r h178 (idx_lt hx180 h178) r r (.ld1 (j := 0) ia26 hC185 r r r r r (.ks 1 r (.nilS [5, 11, 10, 9, 3, 0] r r (.sr (.ks 2 r (.len un26 r r r r (.ks 2 r (.nilS [3, 11, 10, 9, 0] r r (.sr ?_)))))))))
   refine .ks 2 r (.nilS [20, 3, 11, 10, 9, 0] r r (.condP r hd (fun hb190 hd => ?_) fun hb190 hd => ?_))
   · refine .region ?_
     exact hd.elim
   exact .skipS [3, 11, 10, 9, 0] r r (.region (.ks 2 r (.nil' fun c w ho hs => ⟨(w64 (s159 + (x179.length : Int)), w64 (s160 + 1)), hd, I162, hl163, ho.sub ⟨r, r, r, r, r, trivial⟩, hs.pick .n⟩)))
 refine .exitS [3, 0] r r (.sr (.ks 1 r ?_))
 have hw213 := W_slices_Grow_api_Edge_api_Edge (I := I162) hd
 refine .callO call113 r hw213 r r fun v207 I204 l208 hl205 hv206 => ?_
 obtain ⟨r203, p209, c210, rfl, rfl, hd⟩ := hv206
 have le214 := IH.le.trans hl163 hl205
 replace R3 := R3.mono hl205
 refine .ks 1 r (.nilS [6, 0] r r (.seq (.sr (.ks 1 r (.len underlying133 r r r r (.ks 1 r (.nilS [27, 26, 25, 6] r r (.block (.loop hd (fun (s : (List Edge) × Int) c w => match s with | (s266, s270) => ∃ I_ p267 c268, IH.le I204 I_ ∧ Ok ⟨36, [], none⟩ [(6, .slice p267 s266.length c268), (25, .slice p1 a0.length c2), (26, .int .i64 (a0.length : Int)), (27, .int .i64 s270)] c ∧ Sym w0 M I I_ [OwnSl eEdge 73 p267 c268 s266] w) (fun c w ho hs => ⟨I204, _, _, (.refl _), ho.sub ⟨r, r, r, r, trivial⟩, hs.pick (.c .z .n)⟩) ?_)))))))))
 rintro ⟨s266, s270⟩ next271 hd c w hst
 obtain ⟨I272, p267, c268, hl273, hok, hsym⟩ := hst
 have le274 := IH.le.trans le214 hl273
 replace R3 := R3.mono hl273
 refine Cod.at hok hsym (.sr (.ks 1 r (.nilS [28, 27, 26, 25, 6] r r (.seq (.condP r hd (fun hb276 hd => ?_) fun hb276 hd => ?_)))))
 · refine .skipS [27, 26, 25, 6] r r (.seq (.block (.sr ?_)))
   obtain ⟨h277, x278, hx279, hd⟩ := hd
   obtain ⟨b280, o281, cs282, e283, hC284, hr285⟩ := R3.2 _ _ hx279
   obtain ⟨p286, c287, rfl, R288⟩ := hr285
   refine .ixa underlying133 sz26 r e283 r h277 (idx_lt hx279 h277) r r (.ld1 (j := 0) ia26 hC284 r r r r r (.ks 1 r (.nilS [8, 27, 26, 25, 6] r r (.region (.ks 2 r ?_)))))
   obtain ⟨hl289, hd⟩ := hd
   refine .append (ys := x278) 24 .z un26 un26 IN73 r r r r r r r r r (.imm R288 r) hl289 r r fun p290 c291 => ?_
   exact .ks 1 r (.nilS [6, 27, 26, 25] r r (.region (.ks 2 r (.nil' fun c w ho hs => ⟨((s266 ++ x278), w64 (s270 + 1)), hd, I272, _, _, hl273, ho.sub ⟨r, r, r, r, trivial⟩, hs.pick (.c .z .n)⟩))))
 refine .exitS [6] r r (.sr (.ks 2 r (.nilS [2] r r (.pub .z fun I293 hl294 R295 => ?_))))
 have le296 := IH.le.trans le274 hl294
 have le297 := IH.le.trans hl273 hl294
 exact .ret (pret results87 (.t r .n) le296 ⟨s266, _, _, r, R295, hd⟩)

theorem W_edges_turned_87e {I : IH} {a0 : Edge} {Q : (Edge × Bool) → Prop}  (hd : edges_turned_87e a0 Q) :
  Fun prog 114 #[.agg (encEdge a0).toArray] I [] (fun I_ v l => ∃ r, v = .tuple #[.agg (encEdge r.1).toArray, .bool r.2] ∧ l = [] ∧ Q r) := by
 refine Fun.enter (vs := [.agg (encEdge a0).toArray]) func114 r ntmps114 r (.c .n) fun w0 M => ?_
 refine .sr (.boxA r r r fun b5 => ?_)
 refine .allocA zv73 r r fun b7 => ?_
 refine .ks 1 r (.nilS [2, 1] r r (.sr (.fa un73 r sz3 r (o := 1) r r r (.load1 ia3 r (.s .z) r r r (.fa un73 r sz3 r (o := 0) r r r (.load1 ia3 r (.s .z) r r r (.fa un73 r sz2 r (o := 2) r r r (.load1 ia2 r (.s .z) r r r (.build zv73 un73 BI73 (.c r r r (.t .nil) (.c r r r (.s (.t .nil)) (.c r r r (.s (.s (.t .nil))) .n))) (by exact ⟨⟨_, _, r, r, r⟩, ⟨⟨_, _, r, r, r⟩, ⟨⟨_, _, r, r, r⟩, trivial⟩⟩⟩) r r ?_)))))))))
 exact .storeA sz73 r r .z (.t (.t (.t .nil))) r r (.ks 1 r (.nilS [3, 2] r r (.drop (.s .z) (.ret (oret results114 (.w ia73 sz73 r .z r (.t r .n)) (.refl _) .n ⟨(({ From := a0.To, To := a0.From, W := a0.W } : Edge), true), r, r, hd⟩)))))

theorem W_edges_made_7c5 {I : IH} {a0 : Graph} {p1 : Option Addr} {c2 : Nat} {Q : Graph → Prop} (R3 : RepSl eEdge I p1 c2 a0.Edges) (hd : edges_made_7c5 a0 Q) :
  Fun prog 84 #[.agg #[.int .i64 a0.N, .slice p1 a0.Edges.length c2], .func (.func 114) #[] #[]] I [] (fun I_ v l => ∃ r p4 c5, v = .agg #[.int .i64 r.N, .slice p4 r.Edges.length c5] ∧ RepSl eEdge I_ p4 c5 r.Edges ∧ l = [] ∧ Q r) := by
 refine Fun.enter (vs := [.agg #[.int .i64 a0.N, .slice p1 a0.Edges.length c2], .func (.func 114) #[] #[]]) func84 r ntmps84 r (.c (.c .n)) fun w0 M => ?_
 refine .sr (.boxA r r r fun b8 => ?_)
 refine .allocA zv28 r r fun b10 => ?_
 refine .nilS [4, 2, 1] r r (.sr (.ks 1 r (.nilS [5, 4, 2, 1] r r (.seq (.sr (.fa un28 r sz26 r (o := 1) r r r (.load1 ia26 r (.s .z) r r r (.len un26 r r r r (.ks 1 r ?_)))))))))
 refine .nilS [13, 12, 11, 5, 4, 2, 1] r r (.block (.own0 eEdge 73 (.loop hd (fun (s : (List Edge) × Int) c w => match s with | (s108, s112) => ∃ I_ p109 c110, IH.le I I_ ∧ Ok ⟨34, [], none⟩ [(1, .func (.func 114) #[] #[]), (2, .pointer (some ⟨b8, 0, none⟩)), (4, .pointer (some ⟨b10, 0, none⟩)), (5, .slice p109 s108.length c110), (11, .slice p1 a0.Edges.length c2), (12, .int .i64 (a0.Edges.length : Int)), (13, .int .i64 s112)] c ∧ Sym w0 M I I_ [pto b8 (.cells #[.int .i64 a0.N, .slice p1 a0.Edges.length c2] 28 (0, 0)), pto b10 (.cells #[.int .i64 0, .slice none 0 0] 28 (0, 0)), OwnSl eEdge 73 p109 c110 s108] w) (fun c w ho hs => ⟨I, _, _, (.refl _), ho.sub ⟨r, r, r, r, r, r, r, trivial⟩, hs.pick (.c (.s (.s .z)) (.c (.s .z) (.c .z .n)))⟩) ?_)))
 rintro ⟨s108, s112⟩ next114 hd c w hst
 obtain ⟨I115, p109, c110, hl116, hok, hsym⟩ := hst
 replace R3 := R3.mono hl116
 refine Cod.at hok hsym (.sr (.ks 1 r (.nilS [14, 13, 12, 11, 5, 4, 2, 1] r r (.seq (.condP r hd (fun hb118 hd => ?_) fun hb118 hd => ?_)))))
 · refine .skipS [13, 12, 11, 5, 4, 2, 1] r r (.seq (.block (.sr ?_)))
   obtain ⟨h130, x131, hx132, hd⟩ := hd
   obtain ⟨b133, o134, cs135, e136, hC137, hr138⟩ := R3.2 _ _ hx132
   cases hr138
   refine .ixa un26 sz73 r e136 r h130 (idx_lt hx132 h130) r r (.ldW ia73 sz73 hC137 r r r r (.allocA zv73 r r fun b139 => ?_))
   refine .storeA sz73 r r .z (.t (.t (.t .nil))) r r (.nilS [7, 13, 12, 11, 5, 4, 2, 1] r r (.sr (.ks 1 r (.loadW ia73 sz73 r .z r r r ?_))))
   have hw141 := W_edges_turned_87e (I := I115) (a0 := x131) hd
   refine .callS (.c call114 r r) .n hw141 r r fun v145 I142 l146 hl143 hv144 => ?_
   obtain ⟨r147, rfl, rfl, hd⟩ := hv144
   have le148 := IH.le.trans hl116 hl143
   replace R3 := R3.mono hl143
   refine .re (m' := [pto b139 (.cells #[.int .i64 x131.From, .int .i64 x131.To, .int .i64 x131.W] 73 (0, 0)), pto b8 (.cells #[.int .i64 a0.N, .slice p1 a0.Edges.length c2] 28 (0, 0)), pto b10 (.cells #[.int .i64 0, .slice none 0 0] 28 (0, 0)), OwnSl eEdge 73 p109 c110 s108]) r (.ks 3 r (.allocA zv73 r r fun b149 => ?_))
   refine .storeA sz73 r r .z (.t (.t (.t .nil))) r r (.ks 1 r (.nilS [9, 8, 13, 12, 11, 5, 4, 2, 1] r r (.drop (.s .z) (.sr (.ks 1 r (.nilS [23, 8, 13, 12, 11, 5, 4, 2, 1] r r (.condP r hd (fun hb151 hd => ?_) fun hb151 hd => ?_)))))))
   · refine .region (.ks 1 r (.loadW ia73 sz73 r .z r r r (.buildSlice 1 un26 sz73 zv73 r r (.c r r r .n) r r fun b152 => ?_)))
     obtain ⟨hl154, hd⟩ := hd
     refine .append (ys := [r147.1]) 24 (.s (.s (.s (.s .z)))) un26 un26 IN73 r r r r r r r r r (.box .z (.one r) r) hl154 r r fun p155 c156 => ?_
     exact .ks 1 r (.nilS [5, 13, 12, 11, 4, 2, 1] r r (.drop (.s .z) (.drop (.s .z) (.region (.ks 2 r (.nil' fun c w ho hs => ⟨((s108 ++ ([r147.1])), w64 (s112 + 1)), hd, I142, _, _, le148, ho.sub ⟨r, r, r, r, r, r, r, trivial⟩, hs.pick (.c (.s .z) (.c (.s .z) (.c .z .n)))⟩))))))
   exact .skipS [13, 12, 11, 5, 4, 2, 1] r r (.drop .z (.region (.ks 2 r (.nil' fun c w ho hs => ⟨(s108, w64 (s112 + 1)), hd, I142, _, _, le148, ho.sub ⟨r, r, r, r, r, r, r, trivial⟩, hs.pick (.c .z (.c .z (.c .z .n)))⟩))))
 refine .exitS [5, 4, 2, 1] r r (.sr (.fa un28 r sz3 r (o := 0) r r r (.load1 ia3 r .z r r r (.ks 1 r (.build zv28 un28 BI28 (.c r r r (.t .nil) (.c r r r (.s (.t .nil)) .n)) (by exact ⟨⟨_, _, r, r, r⟩, ⟨⟨_, _, r, r, r⟩, trivial⟩⟩) r r (.pub (.s (.s .z)) fun I158 hl159 R160 => ?_))))))
 have le161 := IH.le.trans hl116 hl159
 replace R3 := R3.mono hl159
 have hw171 := W_edges_Canon (I := I158) (a0 := ({ N := a0.N, Edges := s108 } : Graph)) R160 hd
 refine .call call86 r hw171 r r fun v166 I163 hl164 hv165 => ?_
 obtain ⟨r162, p168, c169, rfl, R170, hd⟩ := hv165
 have le172 := IH.le.trans le161 hl164
 replace R3 := R3.mono hl164
 replace R160 := R160.mono hl164
 exact .storeA sz28 r r (.s .z) (.t (.t .nil)) r r (.nilS [4, 1] r r (.drop .z (.ret (oret results84 (.w ia28 sz28 r .z r .n) le172 .n ⟨r162, _, _, r, R170, r, hd⟩))))

theorem W_edges_Turn {I : IH} {a0 : Graph} {p1 : Option Addr} {c2 : Nat} {Q : Graph → Prop} (R3 : RepSl eEdge I p1 c2 a0.Edges) (hd : edges_Turn a0 Q) :
  PFun prog 88 [.agg #[.int .i64 a0.N, .slice p1 a0.Edges.length c2]] I (o5_ Q) := by
 refine Fun.enter func88 r ntmps88 r (.c .n) fun w0 M => ?_
 refine .sr (.boxA r r r fun b7 => ?_)
 refine .allocA zv28 r r fun b9 => ?_
 refine .nilS [2, 1] r r (.sr (.loadW ia28 sz28 r (.s .z) r r r ?_))
 have hw11 := W_edges_made_7c5 (I := I) (a0 := a0) R3 hd
 refine .callS (.f call84 r) .n hw11 r r fun v15 I12 l16 hl13 hv14 => ?_
 obtain ⟨r17, p18, c19, rfl, R20, rfl, hd⟩ := hv14
 replace R3 := R3.mono hl13
 exact .re (m' := [pto b9 (.cells #[.int .i64 0, .slice none 0 0] 28 (0, 0)), pto b7 (.cells #[.int .i64 a0.N, .slice p1 a0.Edges.length c2] 28 (0, 0))]) r (.storeA sz28 r r .z (.t (.t .nil)) r r (.nilS [2] r r (.drop (.s .z) (.ret (pret results88 (.w ia28 sz28 r .z r .n) hl13 ⟨r17, _, _, r, R20, hd⟩)))))

theorem W_edges_Both {I : IH} {a0 : Graph} {p1 : Option Addr} {c2 : Nat} {Q : Graph → Prop} (R3 : RepSl eEdge I p1 c2 a0.Edges) (hd : edges_Both a0 Q) :
  PFun prog 40 [.agg #[.int .i64 a0.N, .slice p1 a0.Edges.length c2]] I (o5_ Q) := by
 refine Fun.enter func40 r ntmps40 r (.c .n) fun w0 M => ?_
 refine .sr (.boxA r r r fun b11 => ?_)
 refine .allocA zv28 r r fun b13 => ?_
 refine .nilS [2, 1] r r (.seq (.dr [0, 1, 2, 3, 4, 5, 6, 7, 8, 9, 10] 11 (.g r r r (fun _ => .fa un28 r sz3 r (o := 0) r r r .mk) (.g r r r (fun _ => .load1 ia3 r (.s .z) r r r .mk) (.g r r r (fun _ => .fa un28 r sz26 r (o := 1) r r r .mk) (.g r r r (fun _ => .load1 ia26 r (.s .z) r r r .mk) (.g r r r (fun _ => .loadW ia28 sz28 r (.s .z) r r r .mk) (.ww r fun ex => ?_))))))))
 have hw24 := W_edges_Turn (I := I) R3 hd
 refine .call call88 r hw24 r r fun v19 I16 hl17 hv18 => ?_
 obtain ⟨r15, p21, c22, rfl, R23, hd⟩ := hv18
 replace R3 := R3.mono hl17
 refine .so 2 r r r (.cg r r r r (fun _ => .load1 ia26 r (.s .z) r r r .mk) (.cg r r r r (fun _ => .fa un28 r sz26 r (o := 1) r r r .mk) (.cg r r r r (fun _ => .load1 ia3 r (.s .z) r r r .mk) (.cg r r r r (fun _ => .fa un28 r sz3 r (o := 0) r r r .mk) trivial)))) (.g r r r (fun _ => .field1 un28 r ia26 r r r r .mk) (.ww r fun ex => ?_))
 refine .buildSlice 2 underlying133 sz26 zeroValue26 r r (.c r r r (.c r r r .n)) r r fun b25 => ?_
 refine .so 3 r r r (.cg r r r r (fun _ => .load1 ia3 r (.s (.s .z)) r r r .mk) (.cg r r r r (fun _ => .fa un28 r sz3 r (o := 0) r r r .mk) trivial)) (.ww r fun ex => ?_)
 refine .pubB (El := (slEl eEdge)) (ys := ([a0.Edges, r15.Edges] : List (List Edge))) (k := 2) .z (RepCs.cons (cs := [.slice p1 a0.Edges.length c2]) ⟨_, _, r, R3⟩ (RepCs.cons (cs := [.slice p21 r15.Edges.length c22]) ⟨_, _, r, R23⟩ .nil)) r fun I27 hl28 R29 => ?_
 have le30 := IH.le.trans hl17 hl28
 replace R3 := R3.mono hl28
 replace R23 := R23.mono hl28
 have hw40 := W_slices_Concat_api_Edge_api_Edge (I := I27) R29 hd
 refine .call call87 r hw40 r r fun v35 I32 hl33 hv34 => ?_
 obtain ⟨r31, p37, c38, rfl, R39, hd⟩ := hv34
 have le41 := IH.le.trans le30 hl33
 replace R3 := R3.mono hl33
 replace R23 := R23.mono hl33
 replace R29 := R29.mono hl33
 refine .so 2 r r r (.cg r r r r (fun _ => .load1 ia3 r (.s .z) r r r .mk) (.cg r r r r (fun _ => .fa un28 r sz3 r (o := 0) r r r .mk) trivial)) (.g r r r (fun _ => .build zv28 un28 BI28 (.c r r r (.t .nil) (.c r r r (.s (.t .nil)) .n)) (by exact ⟨⟨_, _, r, r, r⟩, ⟨⟨_, _, r, r, r⟩, trivial⟩⟩) r r .mk) (.ww r fun ex => ?_))
 have hw51 := W_edges_Canon (I := I32) (a0 := ({ N := a0.N, Edges := r31 } : Graph)) R39 hd
 refine .call call86 r hw51 r r fun v46 I43 hl44 hv45 => ?_
 obtain ⟨r42, p48, c49, rfl, R50, hd⟩ := hv45
 have le52 := IH.le.trans le41 hl44
 replace R3 := R3.mono hl44
 replace R23 := R23.mono hl44
 replace R29 := R29.mono hl44
 replace R39 := R39.mono hl44
 exact .so 2 r r r trivial (.e2 11 (.storeA sz28 r r .z (.t (.t .nil)) r r (.nilS [2] r r (.drop (.s .z) (.ret (pret results40 (.w ia28 sz28 r .z r .n) le52 ⟨r42, _, _, r, R50, hd⟩))))))

theorem W_edges_Plain_1_3d5 {I : IH} {a0 : Edge} {Q : (Edge × Bool) → Prop}  (hd : edges_Plain_1_3d5 a0 Q) :
  Fun prog 89 #[.agg (encEdge a0).toArray] I [] (fun I_ v l => ∃ r, v = .tuple #[.agg (encEdge r.1).toArray, .bool r.2] ∧ l = [] ∧ Q r) := by
 refine Fun.enter (vs := [.agg (encEdge a0).toArray]) func89 r ntmps89 r (.c .n) fun w0 M => ?_
 refine .sr (.boxA r r r fun b1 => ?_)
 refine .allocA zv73 r r fun b3 => ?_
 refine .ks 1 r (.nilS [2, 1] r r (.sr (.fa un73 r sz2 r (o := 2) r r r (.store1 sz2 r r (.s .z) (.s (.s (.t .nil))) r (.nilS [2, 1] r r (.sr (.loadW ia73 sz73 r (.s .z) r r r (.storeA sz73 r r .z (.t (.t (.t .nil))) r r (.ks 1 r ?_)))))))))
 exact .nilS [3, 2] r r (.drop (.s .z) (.ret (oret results89 (.w ia73 sz73 r .z r (.t r .n)) (.refl _) .n ⟨(({ From := a0.From, To := a0.To, W := 1 } : Edge), true), r, r, hd⟩)))

theorem W_edges_made_56f {I : IH} {a0 : Graph} {p1 : Option Addr} {c2 : Nat} {Q : Graph → Prop} (R3 : RepSl eEdge I p1 c2 a0.Edges) (hd : edges_made_56f a0 Q) :
  Fun prog 84 #[.agg #[.int .i64 a0.N, .slice p1 a0.Edges.length c2], .func (.func 89) #[] #[]] I [] (fun I_ v l => ∃ r p4 c5, v = .agg #[.int .i64 r.N, .slice p4 r.Edges.length c5] ∧ RepSl eEdge I_ p4 c5 r.Edges ∧ l = [] ∧ Q r) := by
 refine Fun.enter (vs := [.agg #[.int .i64 a0.N, .slice p1 a0.Edges.length c2], .func (.func 89) #[] #[]]) func84 r ntmps84 r (.c (.c .n)) fun w0 M => ?_
 refine .sr (.boxA r r r fun b8 => ?_)
 refine .allocA zv28 r r fun b10 => ?_
 refine .nilS [4, 2, 1] r r (.sr (.ks 1 r (.nilS [5, 4, 2, 1] r r (.seq (.sr (.fa un28 r sz26 r (o := 1) r r r (.load1 ia26 r (.s .z) r r r (.len un26 r r r r (.ks 1 r ?_)))))))))
 refine .nilS [13, 12, 11, 5, 4, 2, 1] r r (.block (.own0 eEdge 73 (.loop hd (fun (s : (List Edge) × Int) c w => match s with | (s108, s112) => ∃ I_ p109 c110, IH.le I I_ ∧ Ok ⟨34, [], none⟩ [(1, .func (.func 89) #[] #[]), (2, .pointer (some ⟨b8, 0, none⟩)), (4, .pointer (some ⟨b10, 0, none⟩)), (5, .slice p109 s108.length c110), (11, .slice p1 a0.Edges.length c2), (12, .int .i64 (a0.Edges.length : Int)), (13, .int .i64 s112)] c ∧ Sym w0 M I I_ [pto b8 (.cells #[.int .i64 a0.N, .slice p1 a0.Edges.length c2] 28 (0, 0)), pto b10 (.cells #[.int .i64 0, .slice none 0 0] 28 (0, 0)), OwnSl eEdge 73 p109 c110 s108] w) (fun c w ho hs => ⟨I, _, _, (.refl _), ho.sub ⟨r, r, r, r, r, r, r, trivial⟩, hs.pick (.c (.s (.s .z)) (.c (.s .z) (.c .z .n)))⟩) ?_)))
 rintro ⟨s108, s112⟩ next114 hd c w hst
 obtain ⟨I115, p109, c110, hl116, hok, hsym⟩ := hst
 replace R3 := R3.mono hl116
 refine Cod.at hok hsym (.sr (.ks 1 r (.nilS [14, 13, 12, 11, 5, 4, 2, 1] r r (.seq (.condP r hd (fun hb118 hd => ?_) fun hb118 hd => ?_)))))
 · refine .skipS [13, 12, 11, 5, 4, 2, 1] r r (.seq (.block (.sr ?_)))
   obtain ⟨h130, x131, hx132, hd⟩ := hd
   obtain ⟨b133, o134, cs135, e136, hC137, hr138⟩ := R3.2 _ _ hx132
   cases hr138
   refine .ixa un26 sz73 r e136 r h130 (idx_lt hx132 h130) r r (.ldW ia73 sz73 hC137 r r r r (.allocA zv73 r r fun b139 => ?_))
   refine .storeA sz73 r r .z (.t (.t (.t .nil))) r r (.nilS [7, 13, 12, 11, 5, 4, 2, 1] r r (.sr (.ks 1 r (.loadW ia73 sz73 r .z r r r ?_))))
   have hw141 := W_edges_Plain_1_3d5 (I := I115) (a0 := x131) hd
   refine .callS (.c call89 r r) .n hw141 r r fun v145 I142 l146 hl143 hv144 => ?_
   obtain ⟨r147, rfl, rfl, hd⟩ := hv144
   have le148 := IH.le.trans hl116 hl143
   replace R3 := R3.mono hl143
   refine .re (m' := [pto b139 (.cells #[.int .i64 x131.From, .int .i64 x131.To, .int .i64 x131.W] 73 (0, 0)), pto b8 (.cells #[.int .i64 a0.N, .slice p1 a0.Edges.length c2] 28 (0, 0)), pto b10 (.cells #[.int .i64 0, .slice none 0 0] 28 (0, 0)), OwnSl eEdge 73 p109 c110 s108]) r (.ks 3 r (.allocA zv73 r r fun b149 => ?_))
   refine .storeA sz73 r r .z (.t (.t (.t .nil))) r r (.ks 1 r (.nilS [9, 8, 13, 12, 11, 5, 4, 2, 1] r r (.drop (.s .z) (.sr (.ks 1 r (.nilS [23, 8, 13, 12, 11, 5, 4, 2, 1] r r (.condP r hd (fun hb151 hd => ?_) fun hb151 hd => ?_)))))))
   · refine .region (.ks 1 r (.loadW ia73 sz73 r .z r r r (.buildSlice 1 un26 sz73 zv73 r r (.c r r r .n) r r fun b152 => ?_)))
     obtain ⟨hl154, hd⟩ := hd
     refine .append (ys := [r147.1]) 24 (.s (.s (.s (.s .z)))) un26 un26 IN73 r r r r r r r r r (.box .z (.one r) r) hl154 r r fun p155 c156 => ?_
     exact .ks 1 r (.nilS [5, 13, 12, 11, 4, 2, 1] r r (.drop (.s .z) (.drop (.s .z) (.region (.ks 2 r (.nil' fun c w ho hs => ⟨((s108 ++ ([r147.1])), w64 (s112 + 1)), hd, I142, _, _, le148, ho.sub ⟨r, r, r, r, r, r, r, trivial⟩, hs.pick (.c (.s .z) (.c (.s .z) (.c .z .n)))⟩))))))
   exact .skipS [13, 12, 11, 5, 4, 2, 1] r r (.drop .z (.region (.ks 2 r (.nil' fun c w ho hs => ⟨(s108, w64 (s112 + 1)), hd, I142, _, _, le148, ho.sub ⟨r, r, r, r, r, r, r, trivial⟩, hs.pick (.c .z (.c .z (.c .z .n)))⟩))))
 refine .exitS [5, 4, 2, 1] r r (.sr (.fa un28 r sz3 r (o := 0) r r r (.load1 ia3 r .z r r r (.ks 1 r (.build zv28 un28 BI28 (.c r r r (.t .nil) (.c r r r (.s (.t .nil)) .n)) (by exact ⟨⟨_, _, r, r, r⟩, ⟨⟨_, _, r, r, r⟩, trivial⟩⟩) r r (.pub (.s (.s .z)) fun I158 hl159 R160 => ?_))))))
 have le161 := IH.le.trans hl116 hl159
 replace R3 := R3.mono hl159
 have hw171 := W_edges_Canon (I := I158) (a0 := ({ N := a0.N, Edges := s108 } : Graph)) R160 hd
 refine .call call86 r hw171 r r fun v166 I163 hl164 hv165 => ?_
 obtain ⟨r162, p168, c169, rfl, R170, hd⟩ := hv165
 have le172 := IH.le.trans le161 hl164
 replace R3 := R3.mono hl164
 replace R160 := R160.mono hl164
 exact .storeA sz28 r r (.s .z) (.t (.t .nil)) r r (.nilS [4, 1] r r (.drop .z (.ret (oret results84 (.w ia28 sz28 r .z r .n) le172 .n ⟨r162, _, _, r, R170, r, hd⟩))))

theorem W_edges_Plain {I : IH} {a0 : Graph} {p1 : Option Addr} {c2 : Nat} {Q : Graph → Prop} (R3 : RepSl eEdge I p1 c2 a0.Edges) (hd : edges_Plain a0 Q) :
  PFun prog 41 [.agg #[.int .i64 a0.N, .slice p1 a0.Edges.length c2]] I (o5_ Q) := by
 refine Fun.enter func41 r ntmps41 r (.c .n) fun w0 M => ?_
 refine .sr (.boxA r r r fun b7 => ?_)
 refine .allocA zv28 r r fun b9 => ?_
 refine .nilS [2, 1] r r (.sr (.loadW ia28 sz28 r (.s .z) r r r ?_))
 have hw11 := W_edges_made_56f (I := I) (a0 := a0) R3 hd
 refine .callS (.f call84 r) .n hw11 r r fun v15 I12 l16 hl13 hv14 => ?_
 obtain ⟨r17, p18, c19, rfl, R20, rfl, hd⟩ := hv14
 replace R3 := R3.mono hl13
 exact .re (m' := [pto b9 (.cells #[.int .i64 0, .slice none 0 0] 28 (0, 0)), pto b7 (.cells #[.int .i64 a0.N, .slice p1 a0.Edges.length c2] 28 (0, 0))]) r (.storeA sz28 r r .z (.t (.t .nil)) r r (.nilS [2] r r (.drop (.s .z) (.ret (pret results41 (.w ia28 sz28 r .z r .n) hl13 ⟨r17, _, _, r, R20, hd⟩)))))

theorem W_csr_empty {I : IH} {a0 : Int} {a1 : Int} {Q : Rows → Prop}  (hd : csr_empty a0 a1 Q) :
  OFun prog 115 [.int .i64 a0, .int .i64 a1] I (fun _ => o7_ Q) := by
 refine Fun.enter func115 r ntmps115 r (.c (.c .n)) fun w0 M => ?_
 refine .sr (.allocA zv32 r r fun b10 => ?_)
 refine .nilS [4, 1, 0] r r (.sr (.ks 4 r ?_))
 obtain ⟨h12, h13, hd⟩ := hd
 refine .make (El := eI64) (zv := 0) 8 un30 IN3 r r r r r r h12 h13 r r r fun b14 => ?_
 exact .build zv32 un32 BI32 (.c r r r (.t .nil) (.c r r r (.s (.t .nil)) (.c r r r (.s (.s (.t .nil))) .n))) (by exact ⟨⟨_, _, r, r, r⟩, ⟨⟨_, _, r, r, r⟩, ⟨⟨_, _, r, r, r⟩, trivial⟩⟩⟩) r r (.storeA sz32 r r (.s .z) (.t (.t (.t (.t (.t .nil))))) r r (.nilS [4] r r (.own0 eI64 3 (.own0 eI64 2 (.ret (oret results115 (.w ia32 sz32 r (.s (.s (.s .z))) r .n) (.refl _) (.c (.s (.s .z)) (.c (.s .z) (.c .z .n))) ⟨({ Rows := a0, Cols := a1, Start := (List.replicate (w64 (a0 + 1)).toNat 0), Col := ([] : List Int), Val := ([] : List Int) } : Rows), _, _, _, _, _, _, r, r, hd⟩))))))

theorem W_csr_built {I : IH} {a0 : Int} {a1 : Int} {a2 : List Triple} {p1 : Option Addr} {c2 : Nat} {Q : Rows → Prop} (R3 : RepSl eTriple I p1 c2 a2) (hd : csr_built a0 a1 a2 Q) :
  PFun prog 90 [.int .i64 a0, .int .i64 a1, .slice p1 a2.length c2] I (o8_ Q) := by
 refine Fun.enter func90 r ntmps90 r (.c (.c (.c .n))) fun w0 M => ?_
 refine .sr (.allocA zv32 r r fun b15 => ?_)
 refine .nilS [6, 2, 1, 0] r r (.sr (.ks 2 r ?_))
 have hw56 := W_csr_empty (I := I) hd
 refine .callO call115 r hw56 r r fun v42 I39 l43 hl40 hv41 => ?_
 obtain ⟨r38, p44, c45, p47, c48, p50, c51, rfl, rfl, hd⟩ := hv41
 replace R3 := R3.mono hl40
 refine .allocA zv32 r r fun b57 => ?_
 refine .storeA sz32 r r .z (.t (.t (.t (.t (.t .nil))))) r r (.nilS [7, 6, 2, 0] r r (.seq (.sr (.ks 1 r (.len un113 r r r r (.ks 1 r (.nilS [16, 15, 14, 7, 6, 0] r r (.block (.loop hd (fun (s : (List Int) × (List Int) × (List Int) × Int) c w => match s with | (s414, s418, s422, s426) => ∃ I_ p415 c416 p419 c420 p423 c424, IH.le I39 I_ ∧ Ok ⟨63, [], none⟩ [(0, .int .i64 a0), (6, .pointer (some ⟨b15, 0, none⟩)), (7, .pointer (some ⟨b57, 0, none⟩)), (14, .slice p1 a2.length c2), (15, .int .i64 (a2.length : Int)), (16, .int .i64 s426)] c ∧ Sym w0 M I I_ [pto b15 (.cells #[.int .i64 0, .int .i64 0, .slice none 0 0, .slice none 0 0, .slice none 0 0] 32 (0, 0)), pto b57 (.cells #[.int .i64 r38.Rows, .int .i64 r38.Cols, .slice p415 s414.length c416, .slice p419 s418.length c420, .slice p423 s422.length c424] 32 (0, 0)), OwnSl eI64 3 p415 c416 s414, OwnSl eI64 3 p419 c420 s418, OwnSl eI64 2 p423 c424 s422] w) (fun c w ho hs => ⟨I39, _, _, _, _, _, _, (.refl _), ho.sub ⟨r, r, r, r, r, r, trivial⟩, hs.pick (.c (.s (.s (.s (.s .z)))) (.c .z (.c .z (.c .z (.c .z .n)))))⟩) ?_)))))))))
 rintro ⟨s414, s418, s422, s426⟩ next427 hd c w hst
 obtain ⟨I428, p415, c416, p419, c420, p423, c424, hl429, hok, hsym⟩ := hst
 have le430 := IH.le.trans hl40 hl429
 replace R3 := R3.mono hl429
 refine Cod.at hok hsym (.sr (.ks 1 r (.nilS [17, 16, 15, 14, 7, 6, 0] r r (.seq (.condP r hd (fun hb432 hd => ?_) fun hb432 hd => ?_)))))
 · refine .skipS [16, 15, 14, 7, 6, 0] r r (.seq (.block (.sr ?_)))
   obtain ⟨h444, x445, hx446, hd⟩ := hd
   obtain ⟨b447, o448, cs449, e450, hC451, hr452⟩ := R3.2 _ _ hx446
   cases hr452
   refine .ixa un113 sizeOf115 r e450 r h444 (idx_lt hx446 h444) r r (.ldW isAgg115 sizeOf115 hC451 r r r r (.allocA zeroValue115 r r fun b453 => ?_))
   refine .storeA sizeOf115 r r .z (.t (.t (.t .nil))) r r (.nilS [9, 16, 15, 14, 7, 6, 0] r r (.sr (.fa un32 r sz30 r (o := 2) r r r (.load1 isAgg30 r (.s (.s .z)) r r r (.fa un115 r sz3 r (o := 0) r r r (.load1 ia3 r .z r r r (.ks 1 r ?_)))))))
   obtain ⟨h463, x464, hx465, hd⟩ := hd
   refine .ownNe (.s (.s (.s .z))) (idx_ne hx465) fun b466 e467 => ?_
   cases e467
   refine .ixa0 un30 sz3 r r h463 (idx_lt hx465 h463) r r (.lo1 (j := 0) ia3 (.s (.s (.s .z))) hx465 r r r r r (.ks 1 r ?_))
   obtain ⟨h468, x469, hx470, hd⟩ := hd
   refine .ixa0 un30 sz3 r r h468 (idx_lt hx470 h468) r r (.stO1 (j := 0) (v' := (w64 (x464 + 1))) sz3 (.s (.s (.s .z))) hx470 r r r (.t .nil) r (.sub (E' := [(0, _), (6, _), (7, _), (14, _), (15, _), (16, _), (9, _), (20, _), (21, .slice (some ⟨b466, 0, none⟩) (s414.set ((w64 (x445.Row + 1)).toNat) (w64 (x464 + 1))).length c416), (22, _), (23, _), (24, _), (25, _), (26, _), (27, _), (28, _)]) ⟨r, r, r, r, r, r, r, r, (by simp only [List.length_set]; rfl), r, r, r, r, r, r, r, trivial⟩ (.reat (.s (.s .z)) (B := pto b57 (.cells #[.int .i64 r38.Rows, .int .i64 r38.Cols, .slice (some ⟨b466, 0, none⟩) (s414.set ((w64 (x445.Row + 1)).toNat) (w64 (x464 + 1))).length c416, .slice p419 s418.length c420, .slice p423 s422.length c424] 32 (0, 0))) (by simp only [List.length_set]) (.nilS [9, 16, 15, 14, 7, 6, 0] r r (.sr (.fa un32 r sz30 r (o := 3) r r r (.load1 isAgg30 r (.s (.s .z)) r r r (.fa un115 r sz3 r (o := 1) r r r (.load1 ia3 r .z r r r ?_)))))))))
   refine .buildSlice 1 un30 sz3 zv3 r r (.c r r r .n) r r fun b471 => ?_
   obtain ⟨hl473, hd⟩ := hd
   refine .append (ys := [x445.Col]) 8 (.s (.s (.s (.s (.s .z))))) un30 un30 IN3 r r r r r r r r r (.box .z (.one r) r) hl473 r r fun p474 c475 => ?_
   refine .fa un32 r sz30 r (o := 3) r r r (.store1 sz30 r r (.s (.s (.s (.s .z)))) (.s (.s (.s (.t .nil)))) r (.nilS [9, 16, 15, 14, 7, 6, 0] r r (.drop (.s .z) (.region (.fa un32 r sz23 r (o := 4) r r r (.load1 ia23 r (.s (.s (.s .z))) r r r (.fa un115 r sz2 r (o := 2) r r r (.load1 ia2 r (.s .z) r r r (.buildSlice 1 un23 sz2 zv2 r r (.c r r r .n) r r fun b477 => ?_)))))))))
   obtain ⟨hl479, hd⟩ := hd
   refine .append (ys := [x445.Val]) 8 (.s (.s (.s (.s (.s (.s .z)))))) un23 un23 IN2 r r r r r r r r r (.box .z (.one r) r) hl479 r r fun p480 c481 => ?_
   exact .fa un32 r sz23 r (o := 4) r r r (.store1 sz23 r r (.s (.s (.s (.s (.s .z))))) (.s (.s (.s (.s (.t .nil))))) r (.nilS [16, 15, 14, 7, 6, 0] r r (.drop (.s .z) (.drop (.s (.s .z)) (.region (.ks 2 r (.nil' fun c w ho hs => ⟨((s414.set ((w64 (x445.Row + 1)).toNat) (w64 (x464 + 1))), (s418 ++ ([x445.Col])), (s422 ++ ([x445.Val])), w64 (s426 + 1)), hd, I428, _, _, _, _, _, _, hl429, ho.sub ⟨r, r, r, r, r, r, trivial⟩, hs.pick (.c (.s (.s .z)) (.c (.s (.s .z)) (.c (.s (.s .z)) (.c (.s .z) (.c .z .n)))))⟩)))))))
 refine .exitS [7, 6, 0] r r (.seq (.sr (.ks 2 r (.nilS [45, 44, 7, 6] r r (.block (.loop hd (fun (s : (List Int) × Int) c w => match s with | (s530, s534) => ∃ I_ p531 c532, IH.le I428 I_ ∧ Ok ⟨63, [], none⟩ [(6, .pointer (some ⟨b15, 0, none⟩)), (7, .pointer (some ⟨b57, 0, none⟩)), (44, .int .i64 a0), (45, .int .i64 s534)] c ∧ Sym w0 M I I_ [pto b15 (.cells #[.int .i64 0, .int .i64 0, .slice none 0 0, .slice none 0 0, .slice none 0 0] 32 (0, 0)), pto b57 (.cells #[.int .i64 r38.Rows, .int .i64 r38.Cols, .slice p531 s530.length c532, .slice p419 s418.length c420, .slice p423 s422.length c424] 32 (0, 0)), OwnSl eI64 3 p531 c532 s530, OwnSl eI64 3 p419 c420 s418, OwnSl eI64 2 p423 c424 s422] w) (fun c w ho hs => ⟨I428, _, _, (.refl _), ho.sub ⟨r, r, r, r, trivial⟩, hs.pick (.c .z (.c .z (.c .z (.c .z (.c .z .n)))))⟩) ?_))))))
 rintro ⟨s530, s534⟩ next535 hd c w hst
 obtain ⟨I536, p531, c532, hl537, hok, hsym⟩ := hst
 have le538 := IH.le.trans le430 hl537
 have le539 := IH.le.trans hl429 hl537
 refine Cod.at hok hsym (.sr (.ks 1 r (.nilS [46, 45, 44, 7, 6] r r (.seq (.condP r hd (fun hb541 hd => ?_) fun hb541 hd => ?_)))))
 · refine .skipS [45, 44, 7, 6] r r (.seq (.block (.sr (.ks 2 r (.nilS [10, 45, 44, 7, 6] r r (.ownF (.s (.s .z)) fun hne542 => ?_))))))
   refine .ownF (.s (.s (.s .z))) fun hne543 => ?_
   refine .ownF (.s (.s (.s (.s .z)))) fun hne544 => ?_
   refine .dr [0, 1, 2, 3, 4, 5, 6, 7, 8, 9, 10, 11] 12 (.g r r r (fun _ => .fa un32 r sz30 r (o := 2) r r r .mk) (.g r r r (fun _ => .load1 isAgg30 r (.s .z) r r r .mk) (.fk 2 r ?_)))
   obtain ⟨h545, x546, hx547, hd⟩ := hd
   obtain ⟨b548, e549⟩ := hne542 (idx_ne hx547)
   cases e549
   refine .g r r r (fun _ => .ixa0 un30 sz3 r r h545 (idx_lt hx547 h545) r r .mk) (.g r r r (fun _ => .lo1 (j := 0) ia3 (.s (.s .z)) hx547 r r r r r .mk) (.g r r r (fun _ => .fa un32 r sz30 r (o := 2) r r r .mk) (.g r r r (fun _ => .load1 isAgg30 r (.s .z) r r r .mk) (.fk 1 r ?_))))
   obtain ⟨h550, x551, hx552, hd⟩ := hd
   refine .g r r r (fun _ => .ixa0 un30 sz3 r r h550 (idx_lt hx552 h550) r r .mk) (.g r r r (fun _ => .lo1 (j := 0) ia3 (.s (.s .z)) hx552 r r r r r .mk) (.fk 1 r (.e2 12 ?_)))
   obtain ⟨h553, x554, hx555, hd⟩ := hd
   exact .ixa0 un30 sz3 r r h553 (idx_lt hx555 h553) r r (.stO1 (j := 0) (v' := (w64 (x546 + x551))) sz3 (.s (.s .z)) hx555 r r r (.t .nil) r (.sub (E' := [(6, _), (7, _), (44, _), (45, _), (10, _), (48, _), (49, .slice (some ⟨b548, 0, none⟩) (s530.set ((w64 (s534 + 1)).toNat) (w64 (x546 + x551))).length c532), (50, _), (51, _), (52, _), (53, _), (54, _), (55, .slice (some ⟨b548, 0, none⟩) (s530.set ((w64 (s534 + 1)).toNat) (w64 (x546 + x551))).length c532), (56, _), (57, _), (58, _), (59, _), (60, _)]) ⟨r, r, r, r, r, r, (by simp only [List.length_set]; rfl), r, r, r, r, r, (by simp only [List.length_set]; rfl), r, r, r, r, r, trivial⟩ (.reat (.s .z) (B := pto b57 (.cells #[.int .i64 r38.Rows, .int .i64 r38.Cols, .slice (some ⟨b548, 0, none⟩) (s530.set ((w64 (s534 + 1)).toNat) (w64 (x546 + x551))).length c532, .slice p419 s418.length c420, .slice p423 s422.length c424] 32 (0, 0))) (by simp only [List.length_set]) (.nilS [45, 44, 7, 6] r r (.region (.ks 2 r (.nil' fun c w ho hs => ⟨((s530.set ((w64 (s534 + 1)).toNat) (w64 (x546 + x551))), w64 (s534 + 1)), hd, I536, _, _, hl537, ho.sub ⟨r, r, r, r, trivial⟩, hs.pick (.c .z (.c .z (.c .z (.c .z (.c .z .n)))))⟩)))))))
 refine .exitS [7, 6] r r (.sr (.loadW ia32 sz32 r (.s .z) r r r (.storeA sz32 r r .z (.t (.t (.t (.t (.t .nil))))) r r (.nilS [6] r r (.drop (.s .z) (.pub (.s .z) fun I556 hl557 R558 => ?_))))))
 have le559 := IH.le.trans le538 hl557
 have le560 := IH.le.trans le539 hl557
 have le561 := IH.le.trans hl537 hl557
 refine .pub (.s .z) fun I562 hl563 R564 => ?_
 have le565 := IH.le.trans le559 hl563
 have le566 := IH.le.trans le560 hl563
 have le567 := IH.le.trans le561 hl563
 replace R558 := R558.mono hl563
 refine .pub (.s .z) fun I568 hl569 R570 => ?_
 have le571 := IH.le.trans le565 hl569
 have le572 := IH.le.trans le566 hl569
 have le573 := IH.le.trans le567 hl569
 replace R558 := R558.mono hl569
 replace R564 := R564.mono hl569
 exact .ret (pret results90 (.w ia32 sz32 r .z r .n) le571 ⟨({ Rows := r38.Rows, Cols := r38.Cols, Start := s530, Col := s418, Val := s422 } : Rows), _, _, _, _, _, _, r, R558, R564, R570, hd⟩)

theorem W_csr_Graph {I : IH} {a0 : Graph} {p1 : Option Addr} {c2 : Nat} {Q : (Rows × Int) → Prop} (R3 : RepSl eEdge I p1 c2 a0.Edges) (hd : csr_Graph a0 Q) :
  PFun prog 42 [.agg #[.int .i64 a0.N, .slice p1 a0.Edges.length c2]] I (o9_ Q) := by
 refine Fun.enter func42 r ntmps42 r (.c .n) fun w0 M => ?_
 refine .sr (.boxA r r r fun b17 => ?_)
 refine .allocA zv32 r r fun b19 => ?_
 refine .ks 1 r (.nilS [2, 1] r r (.seq (.sr (.loadW ia28 sz28 r (.s .z) r r r ?_))))
 have hw35 := W_edges_Right (I := I) R3 hd
 refine .callP call38 r hw35 r r fun v36 hv37 => ?_
 obtain ⟨r34, rfl, hd⟩ := hv37
 refine .ks 1 r (.nilS [4, 2, 1] r r (.sr (.ks 2 r (.nilS [11, 4, 2, 1] r r (.condP r hd (fun hb38 hd => ?_) fun hb38 hd => ?_)))))
 · exact .sr (.build zv32 un32 BI32 .n (by exact trivial) r r (.ks 1 r (.storeA sz32 r r .z (.t (.t (.t (.t (.t .nil))))) r r (.ks 1 r (.nilS [3, 2] r r (.drop (.s .z) (.ret (pret results42 (.w ia32 sz32 r .z r (.t r .n)) (.refl _) ⟨(({ Rows := 0, Cols := 0, Start := ([] : List Int), Col := ([] : List Int), Val := ([] : List Int) } : Rows), r34), _, _, _, _, _, _, r, (.nil _ _ _), (.nil _ _ _), (.nil _ _ _), hd⟩))))))))
 refine .skipS [2, 1] r r (.sr (.ks 1 r (.nilS [5, 2, 1] r r (.seq (.sr (.loadW ia28 sz28 r (.s .z) r r r ?_))))))
 have hw58 := W_edges_Turn (I := I) R3 hd
 refine .call call88 r hw58 r r fun v53 I50 hl51 hv52 => ?_
 obtain ⟨r49, p55, c56, rfl, R57, hd⟩ := hv52
 replace R3 := R3.mono hl51
 refine .field1 un28 r ia26 r r r r (.len un26 r r r r (.ks 1 r (.nilS [18, 17, 16, 5, 2, 1] r r (.block (.own0 eTriple 115 (.loop hd (fun (s : (List Triple) × Int) c w => match s with | (s135, s139) => ∃ I_ p136 c137, IH.le I50 I_ ∧ Ok ⟨39, [], none⟩ [(1, .pointer (some ⟨b17, 0, none⟩)), (2, .pointer (some ⟨b19, 0, none⟩)), (5, .slice p136 s135.length c137), (16, .slice p55 r49.Edges.length c56), (17, .int .i64 (r49.Edges.length : Int)), (18, .int .i64 s139)] c ∧ Sym w0 M I I_ [pto b17 (.cells #[.int .i64 a0.N, .slice p1 a0.Edges.length c2] 28 (0, 0)), pto b19 (.cells #[.int .i64 0, .int .i64 0, .slice none 0 0, .slice none 0 0, .slice none 0 0] 32 (0, 0)), OwnSl eTriple 115 p136 c137 s135] w) (fun c w ho hs => ⟨I50, _, _, (.refl _), ho.sub ⟨r, r, r, r, r, r, trivial⟩, hs.pick (.c (.s (.s .z)) (.c (.s .z) (.c .z .n)))⟩) ?_))))))
 rintro ⟨s135, s139⟩ next141 hd c w hst
 obtain ⟨I142, p136, c137, hl143, hok, hsym⟩ := hst
 have le144 := IH.le.trans hl51 hl143
 replace R3 := R3.mono hl143
 replace R57 := R57.mono hl143
 refine Cod.at hok hsym (.sr (.ks 1 r (.nilS [19, 18, 17, 16, 5, 2, 1] r r (.seq (.condP r hd (fun hb146 hd => ?_) fun hb146 hd => ?_)))))
 · refine .skipS [18, 17, 16, 5, 2, 1] r r (.seq (.block (.sr ?_)))
   obtain ⟨h158, x159, hx160, hd⟩ := hd
   obtain ⟨b161, o162, cs163, e164, hC165, hr166⟩ := R57.2 _ _ hx160
   cases hr166
   refine .ixa un26 sz73 r e164 r h158 (idx_lt hx160 h158) r r (.ldW ia73 sz73 hC165 r r r r (.allocA zv73 r r fun b167 => ?_))
   refine .storeA sz73 r r .z (.t (.t (.t .nil))) r r (.nilS [7, 18, 17, 16, 5, 2, 1] r r (.region (.ks 1 r (.fa un73 r sz3 r (o := 0) r r r (.load1 ia3 r .z r r r (.fa un73 r sz3 r (o := 1) r r r (.load1 ia3 r .z r r r (.fa un73 r sz2 r (o := 2) r r r (.load1 ia2 r .z r r r ?_)))))))))
   refine .build zeroValue115 un115 BI115 (.c r r r (.t .nil) (.c r r r (.s (.t .nil)) (.c r r r (.s (.s (.t .nil))) .n))) (by exact ⟨⟨_, _, r, r, r⟩, ⟨⟨_, _, r, r, r⟩, ⟨⟨_, _, r, r, r⟩, trivial⟩⟩⟩) r r (.buildSlice 1 un113 sizeOf115 zeroValue115 r r (.c r r r .n) r r fun b169 => ?_)
   obtain ⟨hl171, hd⟩ := hd
   refine .append (ys := [({ Row := x159.From, Col := x159.To, Val := x159.W } : Triple)]) 24 (.s (.s (.s (.s .z)))) un113 un113 IN115 r r r r r r r r r (.box .z (.one r) r) hl171 r r fun p172 c173 => ?_
   exact .ks 1 r (.nilS [5, 18, 17, 16, 2, 1] r r (.drop (.s .z) (.drop (.s .z) (.region (.ks 2 r (.nil' fun c w ho hs => ⟨((s135 ++ ([({ Row := x159.From, Col := x159.To, Val := x159.W } : Triple)])), w64 (s139 + 1)), hd, I142, _, _, hl143, ho.sub ⟨r, r, r, r, r, r, trivial⟩, hs.pick (.c (.s .z) (.c (.s .z) (.c .z .n)))⟩))))))
 refine .exitS [5, 2, 1] r r (.sr (.fa un28 r sz3 r (o := 0) r r r (.load1 ia3 r .z r r r (.fa un28 r sz3 r (o := 0) r r r (.load1 ia3 r .z r r r (.ks 1 r (.pub (.s (.s .z)) fun I175 hl176 R177 => ?_)))))))
 have le178 := IH.le.trans le144 hl176
 have le179 := IH.le.trans hl143 hl176
 replace R3 := R3.mono hl176
 have hw195 := W_csr_built (I := I175) R177 hd
 refine .call call90 r hw195 r r fun v184 I181 hl182 hv183 => ?_
 obtain ⟨r180, p186, c187, p189, c190, p192, c193, rfl, R188, R191, R194, hd⟩ := hv183
 have le196 := IH.le.trans le178 hl182
 have le197 := IH.le.trans le179 hl182
 replace R3 := R3.mono hl182
 replace R177 := R177.mono hl182
 exact .storeA sz32 r r (.s .z) (.t (.t (.t (.t (.t .nil))))) r r (.ks 1 r (.nilS [3, 2] r r (.drop .z (.ret (pret results42 (.w ia32 sz32 r .z r (.t r .n)) le196 ⟨(r180, 0), _, _, _, _, _, _, r, R188, R191, R194, hd⟩)))))

theorem W_prog_Matrix {I : IH} {a0 : Plan} {a1 : Graph} {p1 : Option Addr} {c2 : Nat} {p4 : Option Addr} {c5 : Nat} {Q : (Rows × Int) → Prop} (R3 : RepSl eI64 I p1 c2 a0.Draws) (R6 : RepSl eEdge I p4 c5 a1.Edges) (hd : prog_Matrix a0 a1 Q) :
  PFun prog 8 [.agg #[.int .i64 a0.Kind, .int .i64 a0.N, .int .i64 a0.Source, .int .i64 a0.Length, .slice p1 a0.Draws.length c2], .agg #[.int .i64 a1.N, .slice p4 a1.Edges.length c5]] I (o10_ Q) := by
 refine Fun.enter func8 r ntmps8 r (.c (.c .n)) fun w0 M => ?_
 refine .sr (.boxA r r r fun b22 => ?_)
 refine .boxA r r r fun b24 => ?_
 refine .allocA zv32 r r fun b26 => ?_
 refine .ks 1 r (.nilS [4, 3, 2] r r (.seq (.sr (.loadW ia25 sz25 r (.s (.s .z)) r r r ?_))))
 have hw42 := W_prog_Right (I := I) R3 hd
 refine .callP call10 r hw42 r r fun v43 hv44 => ?_
 obtain ⟨r41, rfl, hd⟩ := hv44
 refine .ks 1 r (.nilS [6, 4, 3, 2] r r (.sr (.ks 2 r (.nilS [11, 6, 4, 3, 2] r r (.condP r hd (fun hb45 hd => ?_) fun hb45 hd => ?_)))))
 · exact .sr (.build zv32 un32 BI32 .n (by exact trivial) r r (.ks 1 r (.storeA sz32 r r .z (.t (.t (.t (.t (.t .nil))))) r r (.ks 1 r (.nilS [5, 4] r r (.drop (.s .z) (.drop (.s .z) (.ret (pret results8 (.w ia32 sz32 r .z r (.t r .n)) (.refl _) ⟨(({ Rows := 0, Cols := 0, Start := ([] : List Int), Col := ([] : List Int), Val := ([] : List Int) } : Rows), r41), _, _, _, _, _, _, r, (.nil _ _ _), (.nil _ _ _), (.nil _ _ _), hd⟩)))))))))
 refine .skipS [4, 3, 2] r r (.seq (.sr (.fa un28 r sz3 r (o := 0) r r r (.load1 ia3 r (.s .z) r r r (.fa un25 r sz3 r (o := 1) r r r (.load1 ia3 r (.s (.s .z)) r r r (.ks 1 r (.nilS [18, 4, 3, 2] r r (.condP r hd (fun hb47 hd => ?_) fun hb47 hd => ?_)))))))))
 · exact .sr (.build zv32 un32 BI32 .n (by exact trivial) r r (.storeA sz32 r r .z (.t (.t (.t (.t (.t .nil))))) r r (.ks 1 r (.nilS [5, 4] r r (.drop (.s .z) (.drop (.s .z) (.ret (pret results8 (.w ia32 sz32 r .z r (.t r .n)) (.refl _) ⟨(({ Rows := 0, Cols := 0, Start := ([] : List Int), Col := ([] : List Int), Val := ([] : List Int) } : Rows), 4), _, _, _, _, _, _, r, (.nil _ _ _), (.nil _ _ _), (.nil _ _ _), hd⟩))))))))
 refine .skipS [4, 3, 2] r r (.seq (.sr (.loadW ia28 sz28 r (.s .z) r r r ?_)))
 have hw62 := W_edges_Right (I := I) R6 hd
 refine .callP call38 r hw62 r r fun v63 hv64 => ?_
 obtain ⟨r61, rfl, hd⟩ := hv64
 refine .ks 1 r (.nilS [7, 4, 3, 2] r r (.sr (.ks 2 r (.nilS [23, 7, 4, 3, 2] r r (.condP r hd (fun hb65 hd => ?_) fun hb65 hd => ?_)))))
 · exact .sr (.build zv32 un32 BI32 .n (by exact trivial) r r (.ks 1 r (.storeA sz32 r r .z (.t (.t (.t (.t (.t .nil))))) r r (.ks 1 r (.nilS [5, 4] r r (.drop (.s .z) (.drop (.s .z) (.ret (pret results8 (.w ia32 sz32 r .z r (.t r .n)) (.refl _) ⟨(({ Rows := 0, Cols := 0, Start := ([] : List Int), Col := ([] : List Int), Val := ([] : List Int) } : Rows), r61), _, _, _, _, _, _, r, (.nil _ _ _), (.nil _ _ _), (.nil _ _ _), hd⟩)))))))))
 refine .skipS [4, 3, 2] r r (.seq (.sr (.fa un25 r sz22 r (o := 0) r r r (.load1 ia22 r (.s (.s .z)) r r r (.nilS [27, 4, 3] r r (.drop (.s (.s .z)) (.block (.seq (.block ?_)))))))))
 refine .seq (.block (.seq (.block (.seq (.seq (.sr (.ks 2 r (.nilS [28, 27, 4, 3] r r (.condP r hd (fun hb67 hd => ?_) fun hb67 hd => ?_)))))))))
 · refine .exitS [4, 3] r r (.region (.loadW ia28 sz28 r (.s .z) r r r ?_))
   have hw77 := W_edges_Simple (I := I) R6 hd
   refine .call call39 r hw77 r r fun v72 I69 hl70 hv71 => ?_
   obtain ⟨r68, p74, c75, rfl, R76, hd⟩ := hv71
   replace R6 := R6.mono hl70
   refine .storeA sz28 r r (.s .z) (.t (.t .nil)) r r (.nilS [4, 3] r r (.region (.loadW ia28 sz28 r (.s .z) r r r ?_)))
   have hw87 := W_edges_Both (I := I69) R76 hd
   refine .call call40 r hw87 r r fun v82 I79 hl80 hv81 => ?_
   obtain ⟨r78, p84, c85, rfl, R86, hd⟩ := hv81
   have le88 := IH.le.trans hl70 hl80
   replace R76 := R76.mono hl80
   refine .storeA sz28 r r (.s .z) (.t (.t .nil)) r r (.nilS [4, 3] r r (.sr (.loadW ia28 sz28 r (.s .z) r r r ?_)))
   have hw98 := W_edges_Plain (I := I79) R86 hd
   refine .call call41 r hw98 r r fun v93 I90 hl91 hv92 => ?_
   obtain ⟨r89, p95, c96, rfl, R97, hd⟩ := hv92
   have le99 := IH.le.trans le88 hl91
   replace R86 := R86.mono hl91
   refine .storeA sz28 r r (.s .z) (.t (.t .nil)) r r (.nilS [4, 3] r r (.exitS [4, 3] r r (.sr (.loadW ia28 sz28 r (.s .z) r r r ?_))))
   have hw115 := W_csr_Graph (I := I90) R97 hd
   refine .call call42 r hw115 r r fun v104 I101 hl102 hv103 => ?_
   obtain ⟨r100, p106, c107, p109, c110, p112, c113, rfl, R108, R111, R114, hd⟩ := hv103
   have le116 := IH.le.trans le99 hl102
   replace R97 := R97.mono hl102
   exact .ks 2 r (.storeA sz32 r r .z (.t (.t (.t (.t (.t .nil))))) r r (.ks 1 r (.nilS [5, 4] r r (.drop (.s .z) (.ret (pret results8 (.w ia32 sz32 r .z r (.t r .n)) le116 ⟨(r100.1, r100.2), _, _, _, _, _, _, r, R108, R111, R114, hd⟩))))))
 refine .skipS [27, 4, 3] r r (.seq (.sr (.ks 2 r (.nilS [30, 27, 4, 3] r r (.condP r hd (fun hb117 hd => ?_) fun hb117 hd => ?_)))))
 · refine .exitS [4, 3] r r (.region (.loadW ia28 sz28 r (.s .z) r r r ?_))
   have hw127 := W_edges_Both (I := I) R6 hd
   refine .call call40 r hw127 r r fun v122 I119 hl120 hv121 => ?_
   obtain ⟨r118, p124, c125, rfl, R126, hd⟩ := hv121
   replace R6 := R6.mono hl120
   refine .storeA sz28 r r (.s .z) (.t (.t .nil)) r r (.nilS [4, 3] r r (.sr (.loadW ia28 sz28 r (.s .z) r r r ?_)))
   have hw137 := W_edges_Plain (I := I119) R126 hd
   refine .call call41 r hw137 r r fun v132 I129 hl130 hv131 => ?_
   obtain ⟨r128, p134, c135, rfl, R136, hd⟩ := hv131
   have le138 := IH.le.trans hl120 hl130
   replace R126 := R126.mono hl130
   refine .storeA sz28 r r (.s .z) (.t (.t .nil)) r r (.nilS [4, 3] r r (.exitS [4, 3] r r (.sr (.loadW ia28 sz28 r (.s .z) r r r ?_))))
   have hw154 := W_csr_Graph (I := I129) R136 hd
   refine .call call42 r hw154 r r fun v143 I140 hl141 hv142 => ?_
   obtain ⟨r139, p145, c146, p148, c149, p151, c152, rfl, R147, R150, R153, hd⟩ := hv142
   have le155 := IH.le.trans le138 hl141
   replace R136 := R136.mono hl141
   exact .ks 2 r (.storeA sz32 r r .z (.t (.t (.t (.t (.t .nil))))) r r (.ks 1 r (.nilS [5, 4] r r (.drop (.s .z) (.ret (pret results8 (.w ia32 sz32 r .z r (.t r .n)) le155 ⟨(r139.1, r139.2), _, _, _, _, _, _, r, R147, R150, R153, hd⟩))))))
 refine .skipS [27, 4, 3] r r (.sr (.ks 2 r (.nilS [32, 4, 3] r r (.condP r hd (fun hb156 hd => ?_) fun hb156 hd => ?_))))
 · refine .exitS [4, 3] r r (.sr (.loadW ia28 sz28 r (.s .z) r r r ?_))
   have hw166 := W_edges_Plain (I := I) R6 hd
   refine .call call41 r hw166 r r fun v161 I158 hl159 hv160 => ?_
   obtain ⟨r157, p163, c164, rfl, R165, hd⟩ := hv160
   replace R6 := R6.mono hl159
   refine .storeA sz28 r r (.s .z) (.t (.t .nil)) r r (.nilS [4, 3] r r (.exitS [4, 3] r r (.sr (.loadW ia28 sz28 r (.s .z) r r r ?_))))
   have hw182 := W_csr_Graph (I := I158) R165 hd
   refine .call call42 r hw182 r r fun v171 I168 hl169 hv170 => ?_
   obtain ⟨r167, p173, c174, p176, c177, p179, c180, rfl, R175, R178, R181, hd⟩ := hv170
   have le183 := IH.le.trans hl159 hl169
   replace R165 := R165.mono hl169
   exact .ks 2 r (.storeA sz32 r r .z (.t (.t (.t (.t (.t .nil))))) r r (.ks 1 r (.nilS [5, 4] r r (.drop (.s .z) (.ret (pret results8 (.w ia32 sz32 r .z r (.t r .n)) le183 ⟨(r167.1, r167.2), _, _, _, _, _, _, r, R175, R178, R181, hd⟩))))))
 refine .skipS [4, 3] r r (.exitS [4, 3] r r (.sr (.loadW ia28 sz28 r (.s .z) r r r ?_)))
 have hw199 := W_csr_Graph (I := I) R6 hd
 refine .call call42 r hw199 r r fun v188 I185 hl186 hv187 => ?_
 obtain ⟨r184, p190, c191, p193, c194, p196, c197, rfl, R192, R195, R198, hd⟩ := hv187
 replace R6 := R6.mono hl186
 exact .ks 2 r (.storeA sz32 r r .z (.t (.t (.t (.t (.t .nil))))) r r (.ks 1 r (.nilS [5, 4] r r (.drop (.s .z) (.ret (pret results8 (.w ia32 sz32 r .z r (.t r .n)) hl186 ⟨(r184.1, r184.2), _, _, _, _, _, _, r, R192, R195, R198, hd⟩))))))

theorem W_prog_Ring {I : IH} {a0 : Int} {a1 : Int} {Q : Int → Prop}  (hd : prog_Ring a0 a1 Q) :
  PFun prog 12 [.int .i64 a0, .int .i64 a1] I (fun _ => o1_ Q) := by
 refine Fun.enter func12 r ntmps12 r (.c (.c .n)) fun w0 M => ?_
 refine .sr (.ks 1 r (.nilS [1, 0] r r (.seq (.sr (.ks 1 r (.nilS [5, 1] r r (.block (.seq (.block ?_)))))))))
 refine .seq (.block (.seq (.block (.seq (.block (.seq (.seq (.sr (.ks 2 r ?_)))))))))
 refine .nilS [6, 5, 1] r r (.condP r hd (fun hb2 hd => ?_) fun hb2 hd => ?_)
 · exact .exitS [] r r (.seq (.sr (.ks 1 r (.nilS [4] r r (.ret (pret results12 (.t r .n) (.refl _) ⟨1, r, hd⟩))))))
 refine .skipS [5, 1] r r (.seq (.sr (.ks 2 r (.nilS [8, 5, 1] r r (.condP r hd (fun hb4 hd => ?_) fun hb4 hd => ?_)))))
 · exact .exitS [] r r (.seq (.sr (.ks 1 r (.nilS [4] r r (.ret (pret results12 (.t r .n) (.refl _) ⟨5, r, hd⟩))))))
 refine .skipS [5, 1] r r (.seq (.sr (.ks 2 r (.nilS [10, 5, 1] r r (.condP r hd (fun hb6 hd => ?_) fun hb6 hd => ?_)))))
 · refine .exitS [1] r r (.sr (.ks 3 r (.nilS [17] r r (.condP r hd (fun hb7 hd => ?_) fun hb7 hd => ?_))))
   · exact .sr (.ks 1 r (.nilS [4] r r (.ret (pret results12 (.t r .n) (.refl _) ⟨2, r, hd⟩))))
   exact .skipS [] r r (.seq (.sr (.ks 1 r (.nilS [4] r r (.ret (pret results12 (.t r .n) (.refl _) ⟨4, r, hd⟩))))))
 refine .skipS [5] r r (.seq (.sr (.ks 2 r (.nilS [12, 5] r r (.condP r hd (fun hb8 hd => ?_) fun hb8 hd => ?_)))))
 · exact .skipS [12] r r (.condKT r hb8 (.exitS [] r r (.seq (.sr (.ks 1 r (.nilS [4] r r (.ret (pret results12 (.t r .n) (.refl _) ⟨4, r, hd⟩))))))))
 refine .region (.ks 2 r (.nilS [12] r r (.condP r hd (fun hb9 hd => ?_) fun hb9 hd => ?_)))
 · exact .exitS [] r r (.seq (.sr (.ks 1 r (.nilS [4] r r (.ret (pret results12 (.t r .n) (.refl _) ⟨4, r, hd⟩))))))
 exact .skipS [] r r (.exitS [] r r (.sr (.ks 1 r (.nilS [4] r r (.ret (pret results12 (.t r .n) (.refl _) ⟨0, r, hd⟩))))))

theorem W_prog_number {I : IH} {a0 : Plan} {a1 : Int} {a2 : Int} {p1 : Option Addr} {c2 : Nat} {Q : Int → Prop} (R3 : RepSl eI64 I p1 c2 a0.Draws) (hd : prog_number a0 a1 a2 Q) :
  PFun prog 52 [.agg #[.int .i64 a0.Kind, .int .i64 a0.N, .int .i64 a0.Source, .int .i64 a0.Length, .slice p1 a0.Draws.length c2], .int .i64 a1, .int .i64 a2] I (fun _ => o1_ Q) := by
 refine Fun.enter func52 r ntmps52 r (.c (.c (.c .n))) fun w0 M => ?_
 refine .sr (.boxA r r r fun b6 => ?_)
 refine .ks 1 r (.nilS [3, 2, 1] r r (.seq (.sr (.ks 1 r ?_))))
 have hw19 := W_prog_within (I := I) hd
 refine .callP call48 r hw19 r r fun v20 hv21 => ?_
 obtain ⟨r18, rfl, hd⟩ := hv21
 refine .ks 2 r ?_
 refine splitP hd (fun hb22 hd => ?_) fun hb22 hd => ?_
 · rw [hb22]
   exact .ks 7 r (.nilS [19, 3, 2, 1] r r (.condKT r r (.sr (.ks 1 r (.nilS [6] r r (.drop .z (.ret (pret results52 (.t r .n) (.refl _) ⟨0, r, hd⟩))))))))
 rw [hb22]
 refine .ks 1 r (.gyes r r r (.fa un25 r sz3 r (o := 1) r r r (.gyes r r r (.load1 ia3 r .z r r r (.ks 1 r ?_)))))
 have hw24 := W_prog_within (I := I) hd
 refine .gyes r r r (.callP call48 r hw24 r r fun v25 hv26 => ?_)
 obtain ⟨r23, rfl, hd⟩ := hv26
 refine .ks 2 r (.nilS [19, 3, 2, 1] r r (.condP r hd (fun hb27 hd => ?_) fun hb27 hd => ?_))
 · exact .sr (.ks 1 r (.nilS [6] r r (.drop .z (.ret (pret results52 (.t r .n) (.refl _) ⟨0, r, hd⟩)))))
 refine .skipS [3, 2, 1] r r (.sr (.ks 1 r (.nilS [7, 3, 2, 1] r r (.seq (.sr (.fa un25 r sz23 r (o := 4) r r r (.load1 ia23 r .z r r r (.len un23 r r r r (.ks 1 r ?_)))))))))
 refine .nilS [8, 7, 3, 2, 1] r r (.sr (.ks 2 r (.nilS [24, 8, 7, 3, 2, 1] r r (.condP r hd (fun hb28 hd => ?_) fun hb28 hd => ?_))))
 · refine .dr [0, 1, 2, 3, 4, 5, 6, 7, 8, 9, 10, 11] 12 (.g r r r (fun _ => .fa un25 r sz23 r (o := 4) r r r .mk) (.g r r r (fun _ => .load1 ia23 r .z r r r .mk) (.fk 1 r (.g r r r (fun _ => .fa un25 r sz3 r (o := 1) r r r .mk) (.g r r r (fun _ => .load1 ia3 r .z r r r .mk) (.fk 4 r ?_))))))
   obtain ⟨hz29, hd⟩ := hd
   refine .g r r r (fun _ => .rem r r hz29 r r .mk) ?_
   obtain ⟨h30, x31, hx32, hd⟩ := hd
   obtain ⟨b33, o34, cs35, e36, hC37, hr38⟩ := R3.2 _ _ hx32
   cases hr38
   refine .g r r r (fun _ => .ixa un23 sz2 r e36 r h30 (idx_lt hx32 h30) r r .mk) (.g r r r (fun _ => .ld1 (j := 0) ia2 hC37 r r r r r .mk) (.e2 12 (.ks 1 r (.nilS [7, 2] r r (.drop .z (.sr (.ks 1 r (.shl' r r (by decide) r r (.ks 3 r ?_)))))))))
   exact .nilS [6] r r (.ret (pret results52 (.t r .n) (.refl _) ⟨(bor .i64 (shl .i64 x31 12) a2), r, hd⟩))
 exact .skipS [7, 2] r r (.drop .z (.sr (.ks 1 r (.shl' r r (by decide) r r (.ks 3 r (.nilS [6] r r (.ret (pret results52 (.t r .n) (.refl _) ⟨(bor .i64 (shl .i64 0 12) a2), r, hd⟩))))))))

theorem W_prog_Draw {I : IH} {a0 : Plan} {a1 : Int} {a2 : Int} {p1 : Option Addr} {c2 : Nat} {Q : Int → Prop} (R3 : RepSl eI64 I p1 c2 a0.Draws) (hd : prog_Draw a0 a1 a2 Q) :
  PFun prog 14 [.agg #[.int .i64 a0.Kind, .int .i64 a0.N, .int .i64 a0.Source, .int .i64 a0.Length, .slice p1 a0.Draws.length c2], .int .i64 a1, .int .i64 a2] I (fun _ => o1_ Q) := by
 refine Fun.enter func14 r ntmps14 r (.c (.c (.c .n))) fun w0 M => ?_
 refine .sr (.boxA r r r fun b6 => ?_)
 refine .ks 1 r (.nilS [3, 2, 1] r r (.seq (.sr (.loadW ia25 sz25 r .z r r r ?_))))
 have hw9 := W_prog_Right (I := I) R3 hd
 refine .callP call10 r hw9 r r fun v10 hv11 => ?_
 obtain ⟨r8, rfl, hd⟩ := hv11
 refine .ks 1 r (.nilS [9, 3, 2, 1] r r (.condP r hd (fun hb12 hd => ?_) fun hb12 hd => ?_))
 · exact .sr (.ks 1 r (.nilS [6] r r (.drop .z (.ret (pret results14 (.t r .n) (.refl _) ⟨0, r, hd⟩)))))
 refine .skipS [3, 2, 1] r r (.sr (.loadW ia25 sz25 r .z r r r (.ks 2 r ?_)))
 have hw14 := W_prog_number (I := I) R3 hd
 refine .callP call52 r hw14 r r fun v15 hv16 => ?_
 obtain ⟨r13, rfl, hd⟩ := hv16
 exact .ks 1 r (.nilS [6] r r (.drop .z (.ret (pret results14 (.t r .n) (.refl _) ⟨r13, r, hd⟩))))

theorem W_flags_words {I : IH} {a0 : Int} {Q : Int → Prop}  (hd : flags_words a0 Q) :
  PFun prog 125 [.int .i64 a0] I (fun _ => o1_ Q) := by
 refine Fun.enter func125 r ntmps125 r (.c .n) fun w0 M => ?_
 refine .sr (.ks 1 r (.nilS [0] r r (.sr (.ks 1 r (.maxI r r r r (.minI r r r r (.ks 1 r (.shr' r r (by decide) r r (.ks 1 r ?_)))))))))
 exact .nilS [2] r r (.ret (pret results125 (.t r .n) (.refl _) ⟨(shr .i64 (w64 ((if 4096 < (if 0 > a0 then 0 else a0) then 4096 else (if 0 > a0 then 0 else a0)) + 63)) 6), r, hd⟩))

theorem W_flags_New {I : IH} {a0 : Int} {Q : (List Int) → Prop}  (hd : flags_New a0 Q) :
  OFun prog 108 [.int .i64 a0] I (fun I_ v l => ∃ r p1 c2, v = .slice p1 r.length c2 ∧ l = [OwnSl eU64 96 p1 c2 r] ∧ Q r) := by
 refine Fun.enter func108 r ntmps108 r (.c .n) fun w0 M => ?_
 refine .sr (.ks 1 r (.nilS [0] r r (.sr (.ks 1 r ?_))))
 have hw5 := W_flags_words (I := I) hd
 refine .callP call125 r hw5 r r fun v6 hv7 => ?_
 obtain ⟨r4, rfl, hd⟩ := hv7
 obtain ⟨h8, h9, hd⟩ := hd
 refine .make (El := eU64) (zv := 0) 8 un44 IN96 r r r r r r h8 h9 r r r fun b10 => ?_
 exact .ks 1 r (.nilS [2] r r (.ret (oret results108 (.t r .n) (.refl _) (.c .z .n) ⟨(List.replicate r4.toNat 0), _, _, r, r, hd⟩)))

theorem W_flags_within {I : IH} {a0 : List Int} {a1 : Int} {p1 : Option Addr} {c2 : Nat} {Q : Bool → Prop} (R3 : RepSl eU64 I p1 c2 a0) (hd : flags_within a0 a1 Q) :
  PFun prog 109 [.slice p1 a0.length c2, .int .i64 a1] I (fun _ => o0_ Q) := by
 refine Fun.enter func109 r ntmps109 r (.c (.c .n)) fun w0 M => ?_
 refine .sr (.ks 1 r (.nilS [1, 0] r r (.sr (.ks 3 r ?_))))
 refine splitP hd (fun hb4 hd => ?_) fun hb4 hd => ?_
 · rw [hb4]
   exact .ks 1 r (.gyes r r r (.shr' r r (by decide) r r (.ks 1 r (.gyes r r r (.len un44 r r r r (.ks 3 r (.nilS [4] r r (.ret (pret results109 (.t r .n) (.refl _) ⟨(decide ((shr .i64 a1 6) < (a0.length : Int))), r, hd⟩)))))))))
 rw [hb4]
 exact .ks 7 r (.nilS [4] r r (.ret (pret results109 (.t r .n) (.refl _) ⟨false, r, hd⟩)))

theorem W_flags_bit {I : IH} {a0 : Int} {Q : Int → Prop}  (hd : flags_bit a0 Q) :
  PFun prog 110 [.int .i64 a0] I (fun _ => o3_ Q) := by
 refine Fun.enter func110 r ntmps110 r (.c .n) fun w0 M => ?_
 refine .sr (.ks 1 r (.nilS [0] r r (.sr (.ks 1 r (.conv un3 underlying118 r r r (.ks 1 r ?_))))))
 obtain ⟨hz1, hd⟩ := hd
 exact .shl' r r hz1 r r (.ks 1 r (.nilS [2] r r (.ret (pret results110 (.t r .n) (.refl _) ⟨(shl .u64 1 (bnd .u64 (IntKind.wrap .u64 (a0)) 63)), r, hd⟩))))

theorem W_flags_Of {I : IH} {a0 : Int} {a1 : List Int} {p1 : Option Addr} {c2 : Nat} {Q : (List Int) → Prop} (R3 : RepSl eI64 I p1 c2 a1) (hd : flags_Of a0 a1 Q) :
  PFun prog 79 [.int .i64 a0, .slice p1 a1.length c2] I (o11_ Q) := by
 refine Fun.enter func79 r ntmps79 r (.c (.c .n)) fun w0 M => ?_
 refine .sr (.ks 1 r (.nilS [1, 0] r r (.sr (.ks 1 r ?_))))
 have hw28 := W_flags_New (I := I) hd
 refine .callO call108 r hw28 r r fun v22 I19 l23 hl20 hv21 => ?_
 obtain ⟨r18, p24, c25, rfl, rfl, hd⟩ := hv21
 replace R3 := R3.mono hl20
 refine .ks 1 r (.nilS [5, 1, 0] r r (.seq (.sr (.ks 1 r (.len un30 r r r r (.ks 1 r (.nilS [12, 11, 10, 5, 0] r r (.block (.loop hd (fun (s : (List Int) × Int) c w => match s with | (s152, s156) => ∃ I_ p153 c154, IH.le I19 I_ ∧ Ok ⟨35, [], none⟩ [(0, .int .i64 a0), (5, .slice p153 s152.length c154), (10, .slice p1 a1.length c2), (11, .int .i64 (a1.length : Int)), (12, .int .i64 s156)] c ∧ Sym w0 M I I_ [OwnSl eU64 96 p153 c154 s152] w) (fun c w ho hs => ⟨I19, _, _, (.refl _), ho.sub ⟨r, r, r, r, r, trivial⟩, hs.pick (.c .z .n)⟩) ?_)))))))))
 rintro ⟨s152, s156⟩ next157 hd c w hst
 obtain ⟨I158, p153, c154, hl159, hok, hsym⟩ := hst
 have le160 := IH.le.trans hl20 hl159
 replace R3 := R3.mono hl159
 refine Cod.at hok hsym (.sr (.ks 1 r (.nilS [13, 12, 11, 10, 5, 0] r r (.seq (.condP r hd (fun hb162 hd => ?_) fun hb162 hd => ?_)))))
 · refine .skipS [12, 11, 10, 5, 0] r r (.seq (.block (.sr ?_)))
   obtain ⟨h172, x173, hx174, hd⟩ := hd
   obtain ⟨b175, o176, cs177, e178, hC179, hr180⟩ := R3.2 _ _ hx174
   cases hr180
   refine .ixa un30 sz3 r e178 r h172 (idx_lt hx174 h172) r r (.ld1 (j := 0) ia3 hC179 r r r r r (.ks 1 r (.nilS [7, 12, 11, 10, 5, 0] r r (.seq ?_))))
   refine Cod.joinQ (σ := Bool) hd (fun (s191 : Bool) c w => ∃ I_, IH.le I158 I_ ∧ Ok ⟨35, [], none⟩ [(0, .int .i64 a0), (5, .slice p153 s152.length c154), (7, .int .i64 x173), (10, .slice p1 a1.length c2), (11, .int .i64 (a1.length : Int)), (12, .int .i64 s156), (23, .bool s191)] c ∧ Sym w0 M I I_ [OwnSl eU64 96 p153 c154 s152] w) (fun k192 hd => ?_) ?_
   · skip
     refine .region (.ks 4 r ?_)
     refine splitP hd (fun hb193 hd => ?_) fun hb193 hd => ?_
     · rw [hb193]
       refine .ks 2 r ?_
       have hw195 := fun (J : IH) (hJ : IH.le I158 J) (hL : lentAll J [OwnSl eU64 96 p153 c154 s152]) => W_flags_within (I := J) (lent hL.1) hd
       refine .gyes r r r (.callB (.f call109 r) (.c .z .n) hw195 r r fun v196 _ hv197 => ?_)
       obtain ⟨r194, rfl, hd⟩ := hv197
       exact .ks 1 r (.nil' fun c w ho hs => ⟨r194, hd, I158, (.refl _), ho.sub ⟨r, r, r, r, r, r, r, trivial⟩, hs.pick (.c .z .n)⟩)
     rw [hb193]
     exact .ks 4 r (.nil' fun c w ho hs => ⟨false, hd, I158, (.refl _), ho.sub ⟨r, r, r, r, r, r, r, trivial⟩, hs.pick (.c .z .n)⟩)
   rintro s191 hd c w hst
   obtain ⟨I198, hl199, hok, hsym⟩ := hst
   have le200 := IH.le.trans le160 hl199
   have le201 := IH.le.trans hl159 hl199
   replace R3 := R3.mono hl199
   refine Cod.at hok hsym (.condP r hd (fun hb202 hd => ?_) fun hb202 hd => ?_)
   · refine .ownF .z fun hne203 => ?_
     refine .dr [0, 1, 2, 3, 4, 5, 6, 7] 8 (.fk 2 r (.g r r r (fun _ => .shr' r r (by decide) r r .mk) ?_))
     obtain ⟨h204, x205, hx206, hd⟩ := hd
     obtain ⟨b207, e208⟩ := hne203 (idx_ne hx206)
     cases e208
     refine .g r r r (fun _ => .ixa0 un44 sz96 r r h204 (idx_lt hx206 h204) r r .mk) (.g r r r (fun _ => .lo1 (j := 0) ia96 .z hx206 r r r r r .mk) (.fk 1 r (.ww r fun ex => ?_)))
     have hw210 := W_flags_bit (I := I198) hd
     refine .callP call110 r hw210 r r fun v211 hv212 => ?_
     obtain ⟨r209, rfl, hd⟩ := hv212
     refine .so 1 r r r (.cg r r r r (fun _ => .lo1 (j := 0) ia96 .z hx206 r r r r r .mk) (.cg r r r r (fun _ => .ixa0 un44 sz96 r r h204 (idx_lt hx206 h204) r r .mk) (.cg r r r r (fun _ => .shr' r r (by decide) r r .mk) (.ck 2 r r trivial)))) (.fk 1 r (.e2 8 ?_))
     obtain ⟨h213, x214, hx215, hd⟩ := hd
     exact .ixa0 un44 sz96 r r h213 (idx_lt hx215 h213) r r (.stO1 (j := 0) (v' := (bor .u64 x205 r209)) sz96 .z hx215 r r r (.t .nil) r (.sub (E' := [(0, _), (5, .slice (some ⟨b207, 0, none⟩) (s152.set ((shr .i64 x173 6).toNat) (bor .u64 x205 r209)).length c154), (7, _), (10, _), (11, _), (12, _), (23, _), (24, .slice (some ⟨b207, 0, none⟩) (s152.set ((shr .i64 x173 6).toNat) (bor .u64 x205 r209)).length c154), (25, _), (26, _), (27, _), (28, _), (29, _), (30, _), (31, _), (32, _)]) ⟨r, (by simp only [List.length_set]; rfl), r, r, r, r, r, (by simp only [List.length_set]; rfl), r, r, r, r, r, r, r, r, trivial⟩ (.nilS [12, 11, 10, 5, 0] r r (.region (.ks 2 r (.nil' fun c w ho hs => ⟨((s152.set ((shr .i64 x173 6).toNat) (bor .u64 x205 r209)), w64 (s156 + 1)), hd, I198, _, _, le201, ho.sub ⟨r, r, r, r, r, trivial⟩, hs.pick (.c .z .n)⟩))))))
   exact .skipS [12, 11, 10, 5, 0] r r (.region (.ks 2 r (.nil' fun c w ho hs => ⟨(s152, w64 (s156 + 1)), hd, I198, _, _, le201, ho.sub ⟨r, r, r, r, r, trivial⟩, hs.pick (.c .z .n)⟩)))
 refine .exitS [5] r r (.sr (.ks 2 r (.nilS [4] r r (.pub .z fun I216 hl217 R218 => ?_))))
 have le219 := IH.le.trans le160 hl217
 have le220 := IH.le.trans hl159 hl217
 exact .ret (pret results79 (.t r .n) le219 ⟨s152, _, _, r, R218, hd⟩)

theorem W_flags_each_555 {I : IH} {a0 : List Int} {p1 : Option Addr} {c2 : Nat} {Q : (List Int) → Prop} (R3 : RepSl eU64 I p1 c2 a0) (hd : flags_each_555 a0 Q) :
  Fun prog 150 #[.slice p1 a0.length c2] I [] (fun I_ v l => ∃ r b4 p5 c6, v = .func (.func 165) #[] #[.pointer (some ⟨b4, 0, none⟩)] ∧ RepSl eU64 I_ p5 c6 r ∧ l = [pto b4 (.cells #[.slice p5 r.length c6] 44 (0, 0))] ∧ Q r) := by
 refine Fun.enter (vs := [.slice p1 a0.length c2]) func150 r ntmps150 r (.c .n) fun w0 M => ?_
 refine .sr (.box1 r r r r fun b4 => ?_)
 exact .ks 1 r (.nilS [1] r r (.sr (.mkFn r r r r (.ks 1 r (.nilS [2] r r (.ret (oret results150 (.t r .n) (.refl _) (.c .z .n) ⟨a0, _, _, _, r, R3, r, hd⟩)))))))

theorem W_flags_each_1_6c7 {I : IH} {o0 : Nat} {o1 : Int} {o2 : Int} {o3 : List Int} {Y : Nat → Int → Int → Int → ((Bool × Nat × Int) → Prop) → Prop} {b5 : Nat} {b6 : Nat} {b7 : Nat} {p8 : Option Addr} {c9 : Nat} {lr : Nat} {Rr : Nat → HA} {Q : (Nat × Int) → Prop} (hY : ∀ {J_ : IH}, I.le J_ → ∀ {y11 : Nat} {y12 : Int} {y14 : Int} {x16 : Int} {Qy : (Bool × Nat × Int) → Prop}, Y y11 y12 y14 x16 Qy → RFun prog lr [.int .i64 x16] J_ [Rr y11, pto b5 (.cells #[.int .i64 y12] 3 (0, 0)), pto b6 (.cells #[.int .i64 y14] 3 (0, 0))] (fun I_ v l => ∃ r, v = .bool r.1 ∧ l = [Rr r.2.1, pto b5 (.cells #[.int .i64 y12] 3 (0, 0)), pto b6 (.cells #[.int .i64 r.2.2] 3 (0, 0))] ∧ Qy r)) (R10 : RepSl eU64 I p8 c9 o3) (hd : flags_each_1_6c7 o0 o1 o2 o3 Y Q) :
  Fun prog 165 #[.func (.yield lr) #[] #[], .pointer (some ⟨b7, 0, none⟩)] I [Rr o0, pto b5 (.cells #[.int .i64 o1] 3 (0, 0)), pto b6 (.cells #[.int .i64 o2] 3 (0, 0)), pto b7 (.cells #[.slice p8 o3.length c9] 44 (0, 0))] (fun I_ v l => ∃ r, v = .tuple #[] ∧ l = [Rr r.1, pto b5 (.cells #[.int .i64 o1] 3 (0, 0)), pto b6 (.cells #[.int .i64 r.2] 3 (0, 0)), pto b7 (.cells #[.slice p8 o3.length c9] 44 (0, 0))] ∧ Q r) := by
 refine Fun.enter (vs := [.func (.yield lr) #[] #[], .pointer (some ⟨b7, 0, none⟩)]) func165 r ntmps165 r (.c (.c .n)) fun w0 M => ?_
 refine .sr (.load1 ia44 r (.s (.s (.s .z))) r r r (.len un44 r r r r (.ks 1 r (.nilS [8, 7, 6, 1, 0] r r (.block (.loop hd (fun (s : Int × Int × Nat) c w => match s with | (s190, s191, s192) => ∃ I_, IH.le I I_ ∧ Ok ⟨31, [], none⟩ [(0, .func (.yield lr) #[] #[]), (1, .pointer (some ⟨b7, 0, none⟩)), (6, .slice p8 o3.length c9), (7, .int .i64 (o3.length : Int)), (8, .int .i64 s191)] c ∧ Sym w0 M I I_ [pto b5 (.cells #[.int .i64 o1] 3 (0, 0)), pto b6 (.cells #[.int .i64 s190] 3 (0, 0)), pto b7 (.cells #[.slice p8 o3.length c9] 44 (0, 0)), Rr s192] w) (fun c w ho hs => ⟨I, (.refl _), ho.sub ⟨r, r, r, r, r, trivial⟩, hs.pick (.c (.s .z) (.c (.s .z) (.c (.s .z) (.c .z .n))))⟩) ?_))))))
 rintro ⟨s190, s191, s192⟩ next193 hd c w hst
 obtain ⟨I194, hl195, hok, hsym⟩ := hst
 replace R10 := R10.mono hl195
 refine Cod.at hok hsym (.sr (.ks 1 r (.nilS [9, 8, 7, 6, 1, 0] r r (.seq (.condP r hd (fun hb197 hd => ?_) fun hb197 hd => ?_)))))
 · refine .skipS [8, 7, 6, 1, 0] r r (.seq (.block (.sr (.ks 1 r ?_))))
   obtain ⟨h207, x208, hx209, hd⟩ := hd
   obtain ⟨b210, o211, cs212, e213, hC214, hr215⟩ := R10.2 _ _ hx209
   cases hr215
   refine .ixa un44 sz96 r e213 r h207 (idx_lt hx209 h207) r r (.ld1 (j := 0) ia96 hC214 r r r r r (.ks 2 r (.nilS [4, 3, 8, 7, 6, 1, 0] r r (.sr (.ks 1 r (.shl' r r (by decide) r r (.ks 1 r (.nilS [5, 4, 8, 7, 6, 1, 0] r r (.block ?_)))))))))
   refine .loop hd (fun (s : Int × Int × Int × Nat) c w => match s with | (s258, s259, s260, s261) => ∃ I_, IH.le I194 I_ ∧ Ok ⟨31, [], none⟩ [(0, .func (.yield lr) #[] #[]), (1, .pointer (some ⟨b7, 0, none⟩)), (4, .int .u64 s259), (5, .int .i64 s260), (6, .slice p8 o3.length c9), (7, .int .i64 (o3.length : Int)), (8, .int .i64 s191)] c ∧ Sym w0 M I I_ [pto b5 (.cells #[.int .i64 o1] 3 (0, 0)), pto b6 (.cells #[.int .i64 s258] 3 (0, 0)), pto b7 (.cells #[.slice p8 o3.length c9] 44 (0, 0)), Rr s261] w) (fun c w ho hs => ⟨I194, (.refl _), ho.sub ⟨r, r, r, r, r, r, r, trivial⟩, hs.pick (.c .z (.c .z (.c .z (.c .z .n))))⟩) ?_
   rintro ⟨s258, s259, s260, s261⟩ next262 hd c w hst
   obtain ⟨I263, hl264, hok, hsym⟩ := hst
   have le265 := IH.le.trans hl195 hl264
   replace R10 := R10.mono hl264
   refine Cod.at hok hsym (.seq (.sr (.ks 2 r (.nilS [16, 8, 7, 6, 5, 4, 1, 0] r r (.condP r hd (fun hb267 hd => ?_) fun hb267 hd => ?_)))))
   · refine .skipS [8, 7, 6, 5, 4, 1, 0] r r (.seq (.block (.sr (.ks 4 r ?_))))
     refine splitP hd (fun hb268 hd => ?_) fun hb268 hd => ?_
     · rw [hb268]
       refine .ks 2 r ?_
       have hw269 := hY (J_ := I263) le265 (y11 := s261) (y12 := o1) (y14 := s258) (x16 := s260) hd
       refine .gyes r r r (.callY r r (.c (.s (.s (.s .z))) (.c .z (.c .z .n))) hw269 r r fun v273 I270 l274 hl271 hv272 => ?_)
       obtain ⟨r275, rfl, rfl, hd⟩ := hv272
       have le279 := IH.le.trans le265 hl271
       have le280 := IH.le.trans hl264 hl271
       replace R10 := R10.mono hl271
       refine .re (m' := [Rr r275.2.1, pto b5 (.cells #[.int .i64 o1] 3 (0, 0)), pto b6 (.cells #[.int .i64 r275.2.2] 3 (0, 0)), pto b7 (.cells #[.slice p8 o3.length c9] 44 (0, 0))]) r (.ks 2 r (.nilS [29, 8, 7, 6, 5, 4, 1, 0] r r (.condP r hd (fun hb281 hd => ?_) fun hb281 hd => ?_)))
       · exact .ret (oret results165 .n le279 (.c .z (.c .z (.c .z (.c .z .n)))) ⟨(r275.2.1, r275.2.2), r, r, hd⟩)
       exact .skipS [8, 7, 6, 5, 4, 1, 0] r r (.region (.ks 1 r (.shr' r r (by decide) r r (.ks 4 r (.nil' fun c w ho hs => ⟨(r275.2.2, shr .u64 s259 1, w64 (s260 + 1), r275.2.1), hd, I270, le280, ho.sub ⟨r, r, r, r, r, r, r, trivial⟩, hs.pick (.c (.s .z) (.c (.s .z) (.c (.s .z) (.c .z .n))))⟩)))))
     rw [hb268]
     exact .ks 5 r (.nilS [29, 8, 7, 6, 5, 4, 1, 0] r r (.condKF r r (.skipS [8, 7, 6, 5, 4, 1, 0] r r (.region (.ks 1 r (.shr' r r (by decide) r r (.ks 4 r (.nil' fun c w ho hs => ⟨(s258, shr .u64 s259 1, w64 (s260 + 1), s261), hd, I263, hl264, ho.sub ⟨r, r, r, r, r, r, r, trivial⟩, hs.pick (.c .z (.c .z (.c .z (.c .z .n))))⟩))))))))
   exact .exitS [8, 7, 6, 1, 0] r r (.region (.ks 2 r (.nil' fun c w ho hs => ⟨(s258, w64 (s191 + 1), s261), hd, I263, le265, ho.sub ⟨r, r, r, r, r, trivial⟩, hs.pick (.c .z (.c .z (.c .z (.c .z .n))))⟩)))
 exact .exit (oretN results165 .n hl195 (.c (.s (.s (.s .z))) (.c .z (.c .z (.c .z .n)))) ⟨(s192, s190), r, r, hd⟩)

theorem W_flags_Next {I : IH} {a0 : List Int} {a1 : Int} {p1 : Option Addr} {c2 : Nat} {Q : Int → Prop} (R3 : RepSl eU64 I p1 c2 a0) (hd : flags_Next a0 a1 Q) :
  PFun prog 136 [.slice p1 a0.length c2, .int .i64 a1] I (fun _ => o1_ Q) := by
 refine Fun.enter func136 r ntmps136 r (.c (.c .n)) fun w0 M => ?_
 refine .marks0 (.sr (.box1 r r r r fun b8 => ?_))
 refine .alloc1 zv3 r r r fun b10 => ?_
 refine .nilS [4, 3, 0] r r (.seq (.sr (.ks 1 r ?_)))
 have hw24 := W_flags_each_555 (I := I) (a0 := a0) R3 hd
 refine .callS (.f call150 r) .n hw24 r r fun v28 I25 l29 hl26 hv27 => ?_
 obtain ⟨r30, b32, p33, c34, rfl, R35, rfl, hd⟩ := hv27
 replace R3 := R3.mono hl26
 refine .re (m' := [pto b32 (.cells #[.slice p33 r30.length c34] 44 (0, 0)), pto b10 (.cells #[.int .i64 0] 3 (0, 0)), pto b8 (.cells #[.int .i64 a1] 3 (0, 0)), Marks ([])]) r (.nilS [7, 4, 3] r r (.block (.rangeF [.ret] r call165 (.c (.s (.s (.s .z))) (.c (.s (.s .z)) (.c (.s .z) (.c .z .n)))) fun lr D rc hrc => ?_)))
 refine ⟨_, W_flags_each_1_6c7 (I := I25) (lr := lr) (Rr := recA lr [.ret] rc) (o0 := 0) (o1 := a1) (o2 := 0) (o3 := r30) (b5 := b8) (b6 := b10) (b7 := b32) (p8 := p33) (c9 := c34) ?_ R35 hd, ?_⟩
 · skip
   intro I hJ y51 y52 y54 x56 Qy  hd
   replace R35 := R35.mono hJ
   obtain ⟨rfl, hd⟩ := hd
   refine RFun.mk hrc r fun w0 M => ?_
   refine .region (.ks 1 r (.nil' fun c w ho hs => beginR (E' := [(3, _), (4, _), (5, _)]) ho ⟨r, r, r, trivial⟩ hs .z (.block (.sr (.ks 1 r (.load1 ia3 r (.s .z) r r r (.ks 1 r (.nilS [11, 5, 4] r r (.condP r hd (fun hb57 hd => ?_) fun hb57 hd => ?_)))))))))
   · refine .sr (.ks 1 r (.store1 sz3 r r (.s (.s .z)) (.t .nil) r (.nilS [] r r ?_)))
     exact .ret fun c w ho hs => endR (js := [.ret]) 1 (.inr rfl) (.refl _) .z (.c .z (.c .z .n)) ⟨(false, 1, x56), rfl, rfl, hd⟩ hs
   exact .skip' fun c w ho hs => endR 0 (.inl rfl) (.refl _) .z (.c .z (.c .z .n)) ⟨(true, 0, y54), rfl, rfl, hd⟩ hs
 intro v61 I58 l' hl59 hv60
 obtain ⟨r62, rfl, rfl, hd⟩ := hv60
 have le66 := IH.le.trans hl26 hl59
 replace R35 := R35.mono hl59
 refine ⟨_, _, r, fun hj => ?_, fun i hj => ?_⟩
 · have hd := hd.1 (decide_eq_true hj)
   exact .re (m' := [Marks (D :: []), pto b8 (.cells #[.int .i64 a1] 3 (0, 0)), pto b10 (.cells #[.int .i64 r62.2] 3 (0, 0)), pto b32 (.cells #[.slice p33 r30.length c34] 44 (0, 0))]) r (.mkS [4] r r (.drop (.s .z) (.drop (.s (.s .z)) (.sr (.store1 sz3 r r (.s .z) (.t .nil) r (.nilS [4] r r (.ret (pretM .z results136 (.s ia3 r .z .n) le66 ⟨(-1), r, hd⟩))))))))
 obtain ⟨hz, hd⟩ := hd.2 (decide_eq_false (by omega))
 obtain rfl : i = 0 := by omega
 refine ⟨_, r, ?_⟩
 exact .re (m' := [Marks (D :: []), pto b8 (.cells #[.int .i64 a1] 3 (0, 0)), pto b10 (.cells #[.int .i64 r62.2] 3 (0, 0)), pto b32 (.cells #[.slice p33 r30.length c34] 44 (0, 0))]) r (.ret (pretM .z results136 (.s ia3 r (.s .z) .n) le66 ⟨r62.2, r, hd⟩))

theorem W_flags_Right {I : IH} {a0 : List Int} {a1 : Int} {p1 : Option Addr} {c2 : Nat} {Q : Bool → Prop} (R3 : RepSl eU64 I p1 c2 a0) (hd : flags_Right a0 a1 Q) :
  PFun prog 121 [.slice p1 a0.length c2, .int .i64 a1] I (fun _ => o0_ Q) := by
 refine Fun.enter func121 r ntmps121 r (.c (.c .n)) fun w0 M => ?_
 refine .sr (.ks 1 r (.nilS [1, 0] r r (.sr (.ks 3 r ?_))))
 refine splitP hd (fun hb4 hd => ?_) fun hb4 hd => ?_
 · rw [hb4]
   refine .ks 4 r ?_
   refine splitP hd (fun hb5 hd => ?_) fun hb5 hd => ?_
   · rw [hb5]
     refine .ks 1 r (.gyes r r r (.len un44 r r r r (.ks 1 r ?_)))
     have hw7 := W_flags_words (I := I) hd
     refine .gyes r r r (.callP call125 r hw7 r r fun v8 hv9 => ?_)
     obtain ⟨r6, rfl, hd⟩ := hv9
     refine .ks 3 r ?_
     refine splitP hd (fun hb10 hd => ?_) fun hb10 hd => ?_
     · rw [hb10]
       refine .ks 2 r ?_
       have hw12 := W_flags_Next (I := I) R3 hd
       refine .gyes r r r (.callP call136 r hw12 r r fun v13 hv14 => ?_)
       obtain ⟨r11, rfl, hd⟩ := hv14
       exact .ks 3 r (.nilS [4] r r (.ret (pret results121 (.t r .n) (.refl _) ⟨(decide (r11 < 0)), r, hd⟩)))
     rw [hb10]
     exact .ks 6 r (.nilS [4] r r (.ret (pret results121 (.t r .n) (.refl _) ⟨false, r, hd⟩)))
   rw [hb5]
   exact .ks 13 r (.nilS [4] r r (.ret (pret results121 (.t r .n) (.refl _) ⟨false, r, hd⟩)))
 rw [hb4]
 exact .ks 17 r (.nilS [4] r r (.ret (pret results121 (.t r .n) (.refl _) ⟨false, r, hd⟩)))

theorem W_prog_can {I : IH} {a0 : Plan} {a1 : State} {p1 : Option Addr} {c2 : Nat} {p4 : Option Addr} {c5 : Nat} {p7 : Option Addr} {c8 : Nat} {p10 : Option Addr} {c11 : Nat} {Q : Bool → Prop} (R3 : RepSl eI64 I p1 c2 a0.Draws) (R6 : RepSl eI64 I p4 c5 a1.A) (R9 : RepSl eI64 I p7 c8 a1.B) (R12 : RepSl eU64 I p10 c11 a1.On) (hd : prog_can a0 a1 Q) :
  PFun prog 98 [.agg #[.int .i64 a0.Kind, .int .i64 a0.N, .int .i64 a0.Source, .int .i64 a0.Length, .slice p1 a0.Draws.length c2], .agg #[.int .i64 a1.Low, .int .i64 a1.High, .slice p4 a1.A.length c5, .slice p7 a1.B.length c8, .slice p10 a1.On.length c11]] I (fun _ => o0_ Q) := by
 refine Fun.enter func98 r ntmps98 r (.c (.c .n)) fun w0 M => ?_
 refine .sr (.boxA r r r fun b17 => ?_)
 refine .boxA r r r fun b19 => ?_
 refine .ks 1 r (.nilS [3, 2] r r (.seq (.sr (.loadW ia25 sz25 r (.s .z) r r r ?_))))
 have hw30 := W_prog_Right (I := I) R3 hd
 refine .callP call10 r hw30 r r fun v31 hv32 => ?_
 obtain ⟨r29, rfl, hd⟩ := hv32
 refine .ks 2 r ?_
 refine splitP hd (fun hb33 hd => ?_) fun hb33 hd => ?_
 · rw [hb33]
   exact .ks 18 r (.nilS [27, 3] r r (.drop (.s .z) (.condKT r r (.sr (.ks 1 r (.nilS [4] r r (.drop .z (.ret (pret results98 (.t r .n) (.refl _) ⟨false, r, hd⟩)))))))))
 rw [hb33]
 refine .gyes r r r (.fa un46 r sz3 r (o := 0) r r r (.gyes r r r (.load1 ia3 r .z r r r (.ks 3 r ?_))))
 refine splitP hd (fun hb34 hd => ?_) fun hb34 hd => ?_
 · rw [hb34]
   exact .ks 13 r (.nilS [27, 3] r r (.drop (.s .z) (.condKT r r (.sr (.ks 1 r (.nilS [4] r r (.drop .z (.ret (pret results98 (.t r .n) (.refl _) ⟨false, r, hd⟩)))))))))
 rw [hb34]
 refine .gyes r r r (.fa un46 r sz3 r (o := 1) r r r (.gyes r r r (.load1 ia3 r .z r r r (.gyes r r r (.fa un46 r sz3 r (o := 0) r r r (.gyes r r r (.load1 ia3 r .z r r r (.ks 3 r ?_))))))))
 refine splitP hd (fun hb35 hd => ?_) fun hb35 hd => ?_
 · rw [hb35]
   exact .ks 6 r (.nilS [27, 3] r r (.drop (.s .z) (.condKT r r (.sr (.ks 1 r (.nilS [4] r r (.drop .z (.ret (pret results98 (.t r .n) (.refl _) ⟨false, r, hd⟩)))))))))
 rw [hb35]
 refine .gyes r r r (.fa un46 r sz3 r (o := 1) r r r (.gyes r r r (.load1 ia3 r .z r r r (.gyes r r r (.fa un25 r sz3 r (o := 1) r r r (.gyes r r r (.load1 ia3 r (.s .z) r r r (.ks 2 r (.nilS [27, 3] r r (.drop (.s .z) (.condP r hd (fun hb36 hd => ?_) fun hb36 hd => ?_)))))))))))
 · exact .sr (.ks 1 r (.nilS [4] r r (.drop .z (.ret (pret results98 (.t r .n) (.refl _) ⟨false, r, hd⟩)))))
 refine .skipS [3] r r (.sr (.fa un46 r sz3 r (o := 1) r r r (.load1 ia3 r .z r r r (.fa un46 r sz3 r (o := 0) r r r (.load1 ia3 r .z r r r (.ks 2 r (.nilS [5, 3] r r (.sr (.fa un46 r sz23 r (o := 2) r r r ?_)))))))))
 refine .load1 ia23 r .z r r r (.len un23 r r r r (.ks 3 r ?_))
 refine splitP hd (fun hb37 hd => ?_) fun hb37 hd => ?_
 · rw [hb37]
   refine .gyes r r r (.fa un46 r sz23 r (o := 3) r r r (.gyes r r r (.load1 ia23 r .z r r r (.gyes r r r (.len un23 r r r r (.ks 4 r ?_))))))
   refine splitP hd (fun hb38 hd => ?_) fun hb38 hd => ?_
   · rw [hb38]
     refine .gyes r r r (.fa un46 r sz44 r (o := 4) r r r (.gyes r r r (.load1 ia44 r .z r r r (.ks 1 r ?_))))
     have hw40 := W_flags_Right (I := I) R12 hd
     refine .gyes r r r (.callP call121 r hw40 r r fun v41 hv42 => ?_)
     obtain ⟨r39, rfl, hd⟩ := hv42
     exact .ks 2 r (.nilS [4] r r (.drop .z (.ret (pret results98 (.t r .n) (.refl _) ⟨r39, r, hd⟩))))
   rw [hb38]
   exact .ks 6 r (.nilS [4] r r (.drop .z (.ret (pret results98 (.t r .n) (.refl _) ⟨false, r, hd⟩))))
 rw [hb37]
 exact .ks 13 r (.nilS [4] r r (.drop .z (.ret (pret results98 (.t r .n) (.refl _) ⟨false, r, hd⟩))))

theorem W_prog_sure {I : IH} {a0 : Plan} {a1 : State} {p1 : Option Addr} {c2 : Nat} {p4 : Option Addr} {c5 : Nat} {p7 : Option Addr} {c8 : Nat} {p10 : Option Addr} {c11 : Nat} {Q : State → Prop} (R3 : RepSl eI64 I p1 c2 a0.Draws) (R6 : RepSl eI64 I p4 c5 a1.A) (R9 : RepSl eI64 I p7 c8 a1.B) (R12 : RepSl eU64 I p10 c11 a1.On) (hd : prog_sure a0 a1 Q) :
  PFun prog 60 [.agg #[.int .i64 a0.Kind, .int .i64 a0.N, .int .i64 a0.Source, .int .i64 a0.Length, .slice p1 a0.Draws.length c2], .agg #[.int .i64 a1.Low, .int .i64 a1.High, .slice p4 a1.A.length c5, .slice p7 a1.B.length c8, .slice p10 a1.On.length c11]] I (o12_ Q) := by
 refine Fun.enter func60 r ntmps60 r (.c (.c .n)) fun w0 M => ?_
 refine .sr (.boxA r r r fun b28 => ?_)
 refine .boxA r r r fun b30 => ?_
 refine .allocA zv46 r r fun b32 => ?_
 refine .nilS [4, 3, 2] r r (.seq (.sr (.loadW ia25 sz25 r (.s (.s .z)) r r r (.loadW ia46 sz46 r (.s .z) r r r ?_))))
 have hw35 := W_prog_can (I := I) R3 R6 R9 R12 hd
 refine .callP call98 r hw35 r r fun v36 hv37 => ?_
 obtain ⟨r34, rfl, hd⟩ := hv37
 refine .nilS [7, 4, 3] r r (.drop (.s (.s .z)) (.condP r hd (fun hb38 hd => ?_) fun hb38 hd => ?_))
 · exact .sr (.loadW ia46 sz46 r (.s .z) r r r (.storeA sz46 r r .z (.t (.t (.t (.t (.t .nil))))) r r (.nilS [4] r r (.drop (.s .z) (.ret (pret results60 (.w ia46 sz46 r .z r .n) (.refl _) ⟨a1, _, _, _, _, _, _, r, R6, R9, R12, hd⟩))))))
 exact .skipS [4] r r (.drop (.s .z) (.sr (.build zv46 un46 BI46 .n (by exact trivial) r r (.storeA sz46 r r .z (.t (.t (.t (.t (.t .nil))))) r r (.nilS [4] r r (.ret (pret results60 (.w ia46 sz46 r .z r .n) (.refl _) ⟨({ Low := 0, High := 0, A := ([] : List Int), B := ([] : List Int), On := ([] : List Int) } : State), _, _, _, _, _, _, r, (.nil _ _ _), (.nil _ _ _), (.nil _ _ _), hd⟩)))))))

theorem W_spvec_within {I : IH} {a0 : Int} {a1 : Int} {Q : Bool → Prop}  (hd : spvec_within a0 a1 Q) :
  PFun prog 99 [.int .i64 a0, .int .i64 a1] I (fun _ => o0_ Q) := by
 refine Fun.enter func99 r ntmps99 r (.c (.c .n)) fun w0 M => ?_
 refine .sr (.ks 1 r (.nilS [1, 0] r r (.sr (.ks 3 r ?_))))
 refine splitP hd (fun hb1 hd => ?_) fun hb1 hd => ?_
 · rw [hb1]
   exact .ks 5 r (.nilS [4] r r (.ret (pret results99 (.t r .n) (.refl _) ⟨(decide (a0 ≤ a1)), r, hd⟩)))
 rw [hb1]
 exact .ks 5 r (.nilS [4] r r (.ret (pret results99 (.t r .n) (.refl _) ⟨false, r, hd⟩)))

theorem W_spvec_Right_1_81a {I : IH} {o0 : Int} {o1 : Vec} {a0 : Item} {b3 : Nat} {b4 : Nat} {p5 : Option Addr} {c6 : Nat} {Q : (Bool × Int) → Prop} (R7 : RepSl eItem I p5 c6 o1.Items) (hd : spvec_Right_1_81a o0 o1 a0 Q) :
  Fun prog 101 #[.agg (encItem a0).toArray, .pointer (some ⟨b3, 0, none⟩), .pointer (some ⟨b4, 0, none⟩)] I [pto b3 (.cells #[.int .i64 o0] 3 (0, 0)), pto b4 (.cells #[.int .i64 o1.N, .slice p5 o1.Items.length c6] 51 (0, 0))] (fun I_ v l => ∃ r, v = .bool r.1 ∧ l = [pto b3 (.cells #[.int .i64 r.2] 3 (0, 0)), pto b4 (.cells #[.int .i64 o1.N, .slice p5 o1.Items.length c6] 51 (0, 0))] ∧ Q r) := by
 refine Fun.enter (vs := [.agg (encItem a0).toArray, .pointer (some ⟨b3, 0, none⟩), .pointer (some ⟨b4, 0, none⟩)]) func101 r ntmps101 r (.c (.c (.c .n))) fun w0 M => ?_
 refine .sr (.boxA r r r fun b10 => ?_)
 refine .ks 1 r (.nilS [3, 2, 1] r r (.sr (.fa un71 r sz3 r (o := 0) r r r (.load1 ia3 r .z r r r (.load1 ia3 r (.s .z) r r r (.ks 2 r ?_))))))
 refine splitP hd (fun hb12 hd => ?_) fun hb12 hd => ?_
 · rw [hb12]
   refine .ks 7 r (.nilS [5, 3, 2, 1] r r (.sr (.fa un71 r sz3 r (o := 0) r r r (.load1 ia3 r .z r r r (.store1 sz3 r r (.s .z) (.t .nil) r (.nilS [5, 2, 1] r r (.drop .z (.sr (.ks 2 r ?_)))))))))
   exact .nilS [4, 2, 1] r r (.ret (oret results101 (.t r .n) (.refl _) (.c .z (.c .z .n)) ⟨(true, a0.At), r, r, hd⟩))
 rw [hb12]
 refine .gyes r r r (.fa un71 r sz3 r (o := 0) r r r (.gyes r r r (.load1 ia3 r .z r r r (.gyes r r r (.fa un51 r sz3 r (o := 0) r r r (.gyes r r r (.load1 ia3 r (.s (.s .z)) r r r (.ks 3 r (.nilS [5, 3, 2, 1] r r (.sr (.fa un71 r sz3 r (o := 0) r r r (.load1 ia3 r .z r r r (.store1 sz3 r r (.s .z) (.t .nil) r ?_)))))))))))))
 exact .nilS [5, 2, 1] r r (.drop .z (.sr (.ks 2 r (.nilS [4, 2, 1] r r (.ret (oret results101 (.t r .n) (.refl _) (.c .z (.c .z .n)) ⟨(decide (o1.N ≤ a0.At), a0.At), r, r, hd⟩))))))

theorem W_slices_IndexFunc_api_Item_api_Item_a3e {I : IH} {o0 : Int} {o1 : Vec} {a0 : List Item} {b3 : Nat} {b4 : Nat} {p5 : Option Addr} {c6 : Nat} {p8 : Option Addr} {c9 : Nat} {Q : (Int × Int) → Prop} (R7 : RepSl eItem I p5 c6 o1.Items) (R10 : RepSl eItem I p8 c9 a0) (hd : slices_IndexFunc_api_Item_api_Item_a3e o0 o1 a0 Q) :
  Fun prog 122 #[.slice p8 a0.length c9, .func (.func 101) #[] #[.pointer (some ⟨b3, 0, none⟩), .pointer (some ⟨b4, 0, none⟩)]] I [pto b3 (.cells #[.int .i64 o0] 3 (0, 0)), pto b4 (.cells #[.int .i64 o1.N, .slice p5 o1.Items.length c6] 51 (0, 0))] (fun I_ v l => ∃ r, v = .int .i64 r.1 ∧ l = [pto b3 (.cells #[.int .i64 r.2] 3 (0, 0)), pto b4 (.cells #[.int .i64 o1.N, .slice p5 o1.Items.length c6] 51 (0, 0))] ∧ Q r) := by
 refine Fun.enter (vs := [.slice p8 a0.length c9, .func (.func 101) #[] #[.pointer (some ⟨b3, 0, none⟩), .pointer (some ⟨b4, 0, none⟩)]]) func122 r ntmps122 r (.c (.c .n)) fun w0 M => ?_
 refine .sr (.ks 1 r (.nilS [1, 0] r r (.seq (.sr (.ks 1 r (.len un49 r r r r (.ks 1 r (.nilS [8, 7, 1, 0] r r (.block ?_)))))))))
 refine .loop hd (fun (s : Int × Int) c w => match s with | (s59, s60) => ∃ I_, IH.le I I_ ∧ Ok ⟨19, [], none⟩ [(0, .slice p8 a0.length c9), (1, .func (.func 101) #[] #[.pointer (some ⟨b3, 0, none⟩), .pointer (some ⟨b4, 0, none⟩)]), (7, .int .i64 (a0.length : Int)), (8, .int .i64 s60)] c ∧ Sym w0 M I I_ [pto b3 (.cells #[.int .i64 s59] 3 (0, 0)), pto b4 (.cells #[.int .i64 o1.N, .slice p5 o1.Items.length c6] 51 (0, 0))] w) (fun c w ho hs => ⟨I, (.refl _), ho.sub ⟨r, r, r, r, trivial⟩, hs.pick (.c .z (.c .z .n))⟩) ?_
 rintro ⟨s59, s60⟩ next61 hd c w hst
 obtain ⟨I62, hl63, hok, hsym⟩ := hst
 replace R7 := R7.mono hl63
 replace R10 := R10.mono hl63
 refine Cod.at hok hsym (.sr (.ks 1 r (.nilS [9, 8, 7, 1, 0] r r (.seq (.condP r hd (fun hb65 hd => ?_) fun hb65 hd => ?_)))))
 · refine .skipS [8, 7, 1, 0] r r (.seq (.block (.sr (.ks 2 r (.nilS [5, 8, 7, 1, 0] r r (.sr (.ks 3 r ?_)))))))
   obtain ⟨h66, x67, hx68, hd⟩ := hd
   obtain ⟨b69, o70, cs71, e72, hC73, hr74⟩ := R10.2 _ _ hx68
   cases hr74
   refine .ixa un49 sz71 r e72 r h66 (idx_lt hx68 h66) r r (.ldW isAgg71 sz71 hC73 r r r r ?_)
   have hw75 := W_spvec_Right_1_81a (I := I62) (o0 := s59) (o1 := o1) (a0 := x67) (b3 := b3) (b4 := b4) (p5 := p5) (c6 := c6) R7 hd
   refine .callS (.c call101 r r) (.c .z (.c .z .n)) hw75 r r fun v79 I76 l80 hl77 hv78 => ?_
   obtain ⟨r81, rfl, rfl, hd⟩ := hv78
   have le84 := IH.le.trans hl63 hl77
   replace R7 := R7.mono hl77
   replace R10 := R10.mono hl77
   replace hC73 := hC73.mono hl77
   refine .re (m' := [pto b3 (.cells #[.int .i64 r81.2] 3 (0, 0)), pto b4 (.cells #[.int .i64 o1.N, .slice p5 o1.Items.length c6] 51 (0, 0))]) r (.nilS [16, 5, 8, 7, 1, 0] r r (.condP r hd (fun hb85 hd => ?_) fun hb85 hd => ?_))
   · exact .sr (.ks 2 r (.nilS [4, 1] r r (.ret (oret results122 (.t r .n) le84 (.c .z (.c .z .n)) ⟨(s60, r81.2), r, r, hd⟩))))
   exact .skipS [8, 7, 1, 0] r r (.region (.ks 2 r (.nil' fun c w ho hs => ⟨(r81.2, w64 (s60 + 1)), hd, I76, le84, ho.sub ⟨r, r, r, r, trivial⟩, hs.pick (.c .z (.c .z .n))⟩)))
 exact .exitS [1] r r (.sr (.ks 1 r (.nilS [4, 1] r r (.ret (oret results122 (.t r .n) hl63 (.c .z (.c .z .n)) ⟨((-1), s59), r, r, hd⟩)))))

theorem W_slices_ContainsFunc_api_Item_api_Item_cd0 {I : IH} {o0 : Int} {o1 : Vec} {a0 : List Item} {b3 : Nat} {b4 : Nat} {p5 : Option Addr} {c6 : Nat} {p8 : Option Addr} {c9 : Nat} {Q : (Bool × Int) → Prop} (R7 : RepSl eItem I p5 c6 o1.Items) (R10 : RepSl eItem I p8 c9 a0) (hd : slices_ContainsFunc_api_Item_api_Item_cd0 o0 o1 a0 Q) :
  Fun prog 100 #[.slice p8 a0.length c9, .func (.func 101) #[] #[.pointer (some ⟨b3, 0, none⟩), .pointer (some ⟨b4, 0, none⟩)]] I [pto b3 (.cells #[.int .i64 o0] 3 (0, 0)), pto b4 (.cells #[.int .i64 o1.N, .slice p5 o1.Items.length c6] 51 (0, 0))] (fun I_ v l => ∃ r, v = .bool r.1 ∧ l = [pto b3 (.cells #[.int .i64 r.2] 3 (0, 0)), pto b4 (.cells #[.int .i64 o1.N, .slice p5 o1.Items.length c6] 51 (0, 0))] ∧ Q r) := by
 refine Fun.enter (vs := [.slice p8 a0.length c9, .func (.func 101) #[] #[.pointer (some ⟨b3, 0, none⟩), .pointer (some ⟨b4, 0, none⟩)]]) func100 r ntmps100 r (.c (.c .n)) fun w0 M => ?_
 refine .sr (.ks 1 r (.nilS [1, 0] r r (.sr (.ks 2 r ?_))))
 have hw11 := W_slices_IndexFunc_api_Item_api_Item_a3e (I := I) (o0 := o0) (o1 := o1) (a0 := a0) (b3 := b3) (b4 := b4) (p5 := p5) (c6 := c6) R7 R10 hd
 refine .callS (.f call122 r) (.c .z (.c .z .n)) hw11 r r fun v15 I12 l16 hl13 hv14 => ?_
 obtain ⟨r17, rfl, rfl, hd⟩ := hv14
 replace R7 := R7.mono hl13
 replace R10 := R10.mono hl13
 exact .re (m' := [pto b3 (.cells #[.int .i64 r17.2] 3 (0, 0)), pto b4 (.cells #[.int .i64 o1.N, .slice p5 o1.Items.length c6] 51 (0, 0))]) r (.ks 2 r (.nilS [4, 1] r r (.ret (oret results100 (.t r .n) hl13 (.c .z (.c .z .n)) ⟨(decide (0 ≤ r17.1), r17.2), r, r, hd⟩))))

theorem W_spvec_Right {I : IH} {a0 : Vec} {p1 : Option Addr} {c2 : Nat} {Q : Bool → Prop} (R3 : RepSl eItem I p1 c2 a0.Items) (hd : spvec_Right a0 Q) :
  PFun prog 61 [.agg #[.int .i64 a0.N, .slice p1 a0.Items.length c2]] I (fun _ => o0_ Q) := by
 refine Fun.enter func61 r ntmps61 r (.c .n) fun w0 M => ?_
 refine .sr (.boxA r r r fun b6 => ?_)
 refine .ks 1 r (.nilS [1] r r (.seq (.sr (.fa un51 r sz3 r (o := 0) r r r (.load1 ia3 r .z r r r ?_)))))
 have hw14 := W_spvec_within (I := I) hd
 refine .callP call99 r hw14 r r fun v15 hv16 => ?_
 obtain ⟨r13, rfl, hd⟩ := hv16
 refine .ks 1 r (.nilS [7, 1] r r (.condP r hd (fun hb17 hd => ?_) fun hb17 hd => ?_))
 · exact .sr (.ks 1 r (.nilS [2] r r (.drop .z (.ret (pret results61 (.t r .n) (.refl _) ⟨false, r, hd⟩)))))
 refine .skipS [1] r r (.sr (.alloc1 zv3 r r r fun b18 => ?_))
 refine .store1 sz3 r r .z (.t .nil) r (.nilS [3, 1] r r (.sr (.fa un51 r sz49 r (o := 1) r r r (.load1 ia49 r (.s .z) r r r (.mkFn r r r r ?_)))))
 have hw20 := W_slices_ContainsFunc_api_Item_api_Item_cd0 (I := I) (o0 := (-1)) (o1 := a0) (a0 := a0.Items) (b3 := b18) (b4 := b6) (p5 := p1) (c6 := c2) R3 R3 hd
 refine .callS (.f call100 r) (.c .z (.c .z .n)) hw20 r r fun v24 I21 l25 hl22 hv23 => ?_
 obtain ⟨r26, rfl, rfl, hd⟩ := hv23
 replace R3 := R3.mono hl22
 exact .re (m' := [pto b18 (.cells #[.int .i64 r26.2] 3 (0, 0)), pto b6 (.cells #[.int .i64 a0.N, .slice p1 a0.Items.length c2] 51 (0, 0))]) r (.ks 2 r (.nilS [2] r r (.drop .z (.drop .z (.ret (pret results61 (.t r .n) hl22 ⟨(!r26.1), r, hd⟩))))))

theorem W_slices_Clone_int64_int64 {I : IH} {a0 : List Int} {p1 : Option Addr} {c2 : Nat} {Q : (List Int) → Prop} (R3 : RepSl eI64 I p1 c2 a0) (hd : slices_Clone_int64_int64 a0 Q) :
  PFun prog 62 [.slice p1 a0.length c2] I (o13_ Q) := by
 refine Fun.enter func62 r ntmps62 r (.c .n) fun w0 M => ?_
 refine .sr (.ks 1 r (.nilS [0] r r (.seq (.sr (.ks 1 r (.eqNilS un23 r r r r (.nilS [4, 0] r r ?_)))))))
 refine split p1.isNone (fun hb7 => ?_) (fun hb7 => ?_)
 · have hd := hd.1 (RepSl.ofNone R3 hb7)
   exact .condKT r hb7 (.sr (.ks 1 r (.nilS [2] r r (.ret (pret results62 (.t r .n) (.refl _) ⟨([] : List Int), _, _, r, (.nil _ _ _), hd⟩)))))
 have hd := hd.2
 refine .condKF r hb7 (.skipS [0] r r (.sr (.buildSlice 0 un23 sz2 zv2 r r .n r r fun b9 => ?_)))
 refine .ks 1 r (.ownB (El := eI64) (ys := ([] : List Int)) .z .nil r ?_)
 obtain ⟨hl12, hd⟩ := hd
 refine .append (ys := a0) 8 .z un23 un23 IN2 r r r r r r r r r (.imm R3 r) hl12 r r fun p13 c14 => ?_
 refine .ks 1 r (.nilS [2] r r (.pub .z fun I16 hl17 R18 => ?_))
 exact .ret (pret results62 (.t r .n) hl17 ⟨(([] : List Int) ++ a0), _, _, r, R18, hd⟩)

theorem W_slices_Clone_uint64_uint64 {I : IH} {a0 : List Int} {p1 : Option Addr} {c2 : Nat} {Q : (List Int) → Prop} (R3 : RepSl eU64 I p1 c2 a0) (hd : slices_Clone_uint64_uint64 a0 Q) :
  PFun prog 63 [.slice p1 a0.length c2] I (o11_ Q) := by
 refine Fun.enter func63 r ntmps63 r (.c .n) fun w0 M => ?_
 refine .sr (.ks 1 r (.nilS [0] r r (.seq (.sr (.ks 1 r (.eqNilS un44 r r r r (.nilS [4, 0] r r ?_)))))))
 refine split p1.isNone (fun hb7 => ?_) (fun hb7 => ?_)
 · have hd := hd.1 (RepSl.ofNone R3 hb7)
   exact .condKT r hb7 (.sr (.ks 1 r (.nilS [2] r r (.ret (pret results63 (.t r .n) (.refl _) ⟨([] : List Int), _, _, r, (.nil _ _ _), hd⟩)))))
 have hd := hd.2
 refine .condKF r hb7 (.skipS [0] r r (.sr (.buildSlice 0 un44 sz96 zeroValue96 r r .n r r fun b9 => ?_)))
 refine .ks 1 r (.ownB (El := eU64) (ys := ([] : List Int)) .z .nil r ?_)
 obtain ⟨hl12, hd⟩ := hd
 refine .append (ys := a0) 8 .z un44 un44 IN96 r r r r r r r r r (.imm R3 r) hl12 r r fun p13 c14 => ?_
 refine .ks 1 r (.nilS [2] r r (.pub .z fun I16 hl17 R18 => ?_))
 exact .ret (pret results63 (.t r .n) hl17 ⟨(([] : List Int) ++ a0), _, _, r, R18, hd⟩)

theorem W_prog_draw {I : IH} {a0 : Int} {Q : Int → Prop}  (hd : prog_draw a0 Q) :
  PFun prog 104 [.int .i64 a0] I (fun _ => o1_ Q) := by
 refine Fun.enter func104 r ntmps104 r (.c .n) fun w0 M => ?_
 exact .sr (.ks 1 r (.nilS [0] r r (.sr (.ks 2 r (.shr' r r (by decide) r r (.ks 1 r (.nilS [2] r r (.ret (pret results104 (.t r .n) (.refl _) ⟨(shr .i64 (w64 (a0 - 1)) 1), r, hd⟩)))))))))

theorem W_flags_Has {I : IH} {a0 : List Int} {a1 : Int} {p1 : Option Addr} {c2 : Nat} {Q : Bool → Prop} (R3 : RepSl eU64 I p1 c2 a0) (hd : flags_Has a0 a1 Q) :
  PFun prog 105 [.slice p1 a0.length c2, .int .i64 a1] I (fun _ => o0_ Q) := by
 refine Fun.enter func105 r ntmps105 r (.c (.c .n)) fun w0 M => ?_
 refine .sr (.ks 1 r (.nilS [1, 0] r r (.seq (.dr [0, 1, 2, 3, 4, 5, 6, 7, 8, 9, 10, 11, 12, 13] 14 (.fk 2 r (.ww r fun ex => ?_))))))
 have hw5 := W_flags_within (I := I) R3 hd
 refine .callP call109 r hw5 r r fun v6 hv7 => ?_
 obtain ⟨r4, rfl, hd⟩ := hv7
 refine .so 0 r r r trivial (.fk 1 r ?_)
 refine splitP hd (fun hb8 hd => ?_) fun hb8 hd => ?_
 · refine .g r r r (fun _ => .gyes r r hb8 (.move r r r .mk)) (.g r r r (fun _ => .gyes r r hb8 (.move r r r .mk)) (.g r r r (fun _ => .gyes r r hb8 (.shr' r r (by decide) r r .mk)) ?_))
   obtain ⟨h9, x10, hx11, hd⟩ := hd
   obtain ⟨b12, o13, cs14, e15, hC16, hr17⟩ := R3.2 _ _ hx11
   cases hr17
   refine .g r r r (fun _ => .gyes r r hb8 (.ixa un44 sz96 r e15 r h9 (idx_lt hx11 h9) r r .mk)) (.g r r r (fun _ => .gyes r r hb8 (.ld1 (j := 0) ia96 hC16 r r r r r .mk)) (.g r r r (fun _ => .gyes r r hb8 (.move r r r .mk)) (.ww r fun ex => ?_)))
   have hw19 := W_flags_bit (I := I) hd
   refine .gyes r r hb8 (.callP call110 r hw19 r r fun v20 hv21 => ?_)
   obtain ⟨r18, rfl, hd⟩ := hv21
   exact .so 0 r r r (.cg r r r r (fun _ => .gyes r r hb8 (.ld1 (j := 0) ia96 hC16 r r r r r .mk)) (.cg r r r r (fun _ => .gyes r r hb8 (.ixa un44 sz96 r e15 r h9 (idx_lt hx11 h9) r r .mk)) (.cg r r r r (fun _ => .gyes r r hb8 (.shr' r r (by decide) r r .mk)) (.cg r r r r (fun _ => .gyes r r hb8 (.move r r r .mk)) (.cg r r r r (fun _ => .gyes r r hb8 (.move r r r .mk)) trivial))))) (.g r r r (fun _ => .gyes r r hb8 (.and r r r r .mk)) (.g r r r (fun _ => .gyes r r hb8 (.ne r r r r .mk)) (.g r r r (fun _ => .pickT r hb8 r r r .mk) (.e2 14 (.ks 1 r (.nilS [4] r r (.ret (pret results105 (.t r .n) (.refl _) ⟨((bnd .u64 x10 r18) != 0), r, hd⟩))))))))
 refine .g r r r (fun _ => .gno r r hb8 r r .mk) (.g r r r (fun _ => .gno r r hb8 r r .mk) (.g r r r (fun _ => .gno r r hb8 r r .mk) (.g r r r (fun _ => .gno r r hb8 r r .mk) (.g r r r (fun _ => .gno r r hb8 r r .mk) (.g r r r (fun _ => .gno r r hb8 r r .mk) (.g r r r (fun _ => .gno r r hb8 r r .mk) (.g r r r (fun _ => .gno r r hb8 r r .mk) (.g r r r (fun _ => .gno r r hb8 r r .mk) (.g r r r (fun _ => .pickF r hb8 r r r .mk) ?_)))))))))
 exact .e2 14 (.ks 1 r (.nilS [4] r r (.ret (pret results105 (.t r .n) (.refl _) ⟨false, r, hd⟩))))

theorem W_prog_tells {I : IH} {a0 : Plan} {a1 : State} {a2 : Int} {a3 : Int} {p1 : Option Addr} {c2 : Nat} {p4 : Option Addr} {c5 : Nat} {p7 : Option Addr} {c8 : Nat} {p10 : Option Addr} {c11 : Nat} {Q : (Int × Bool) → Prop} (R3 : RepSl eI64 I p1 c2 a0.Draws) (R6 : RepSl eI64 I p4 c5 a1.A) (R9 : RepSl eI64 I p7 c8 a1.B) (R12 : RepSl eU64 I p10 c11 a1.On) (hd : prog_tells a0 a1 a2 a3 Q) :
  PFun prog 68 [.agg #[.int .i64 a0.Kind, .int .i64 a0.N, .int .i64 a0.Source, .int .i64 a0.Length, .slice p1 a0.Draws.length c2], .agg #[.int .i64 a1.Low, .int .i64 a1.High, .slice p4 a1.A.length c5, .slice p7 a1.B.length c8, .slice p10 a1.On.length c11], .int .i64 a2, .int .i64 a3] I (fun _ => o4_ Q) := by
 refine Fun.enter func68 r ntmps68 r (.c (.c (.c (.c .n)))) fun w0 M => ?_
 refine .sr (.boxA r r r fun b17 => ?_)
 refine .boxA r r r fun b19 => ?_
 refine .ks 2 r (.nilS [5, 4, 3, 2] r r (.sr (.fa un46 r sz44 r (o := 4) r r r (.load1 ia44 r .z r r r (.ks 1 r ?_)))))
 have hw26 := W_flags_Has (I := I) R12 hd
 refine .callP call105 r hw26 r r fun v27 hv28 => ?_
 obtain ⟨r25, rfl, hd⟩ := hv28
 refine .ks 1 r (.nilS [10, 5, 4, 3, 2] r r (.seq (.sr (.fa un25 r sz22 r (o := 0) r r r (.load1 ia22 r (.s .z) r r r (.nilS [16, 10, 5, 4, 3, 2] r r (.block (.sr (.ks 2 r ?_)))))))))
 refine .nilS [17, 16, 10, 5, 4, 3, 2] r r (.condP r hd (fun hb29 hd => ?_) fun hb29 hd => ?_)
 · exact .sr (.fa un46 r sz3 r (o := 0) r r r (.load1 ia3 r .z r r r (.ks 5 r (.nilS [9, 8] r r (.drop .z (.drop .z (.ret (pret results68 (.t r (.t r .n)) (.refl _) ⟨(w64 (a1.Low + a3), r25), r, hd⟩))))))))
 refine .sr (.ks 2 r (.nilS [24, 10, 5, 4, 3, 2] r r (.condP r hd (fun hb30 hd => ?_) fun hb30 hd => ?_)))
 · refine .seq (.sr (.ks 3 r (.nilS [28, 10, 5, 4, 3, 2] r r (.condP r hd (fun hb32 hd => ?_) fun hb32 hd => ?_))))
   · exact .sr (.ks 3 r (.nilS [9, 8] r r (.drop .z (.drop .z (.ret (pret results68 (.t r (.t r .n)) (.refl _) ⟨(1, r25), r, hd⟩))))))
   refine .skipS [5, 4, 3, 2] r r (.seq (.dr [0, 1, 3, 4, 5, 6, 8, 9, 10, 11, 12, 13, 2, 7, 14] 15 (.g r r r (fun _ => .loadW ia25 sz25 r (.s .z) r r r .mk) (.fk 1 r (.g r r r (fun _ => .fa un46 r sz3 r (o := 0) r r r .mk) (.g r r r (fun _ => .load1 ia3 r .z r r r .mk) (.fk 2 r (.g r r r (fun _ => .fa un46 r sz23 r (o := 2) r r r .mk) (.g r r r (fun _ => .load1 ia23 r .z r r r .mk) ?_)))))))))
   refine .fk 1 r ?_
   obtain ⟨h33, x34, hx35, hd⟩ := hd
   obtain ⟨b36, o37, cs38, e39, hC40, hr41⟩ := R6.2 _ _ hx35
   cases hr41
   refine .g r r r (fun _ => .ixa un23 sz2 r e39 r h33 (idx_lt hx35 h33) r r .mk) (.g r r r (fun _ => .ld1 (j := 0) ia2 hC40 r r r r r .mk) (.fk 1 r (.ww r fun ex => ?_)))
   have hw43 := W_prog_draw (I := I) hd
   refine .callP call104 r hw43 r r fun v44 hv45 => ?_
   obtain ⟨r42, rfl, hd⟩ := hv45
   refine .so 2 r r r (.ck 1 r r (.cg r r r r (fun _ => .ld1 (j := 0) ia2 hC40 r r r r r .mk) (.cg r r r r (fun _ => .ixa un23 sz2 r e39 r h33 (idx_lt hx35 h33) r r .mk) (.ck 1 r r (.cg r r r r (fun _ => .load1 ia23 r .z r r r .mk) (.cg r r r r (fun _ => .fa un46 r sz23 r (o := 2) r r r .mk) (.ck 2 r r (.cg r r r r (fun _ => .load1 ia3 r .z r r r .mk) (.cg r r r r (fun _ => .fa un46 r sz3 r (o := 0) r r r .mk) (.cg r r r r (fun _ => .loadW ia25 sz25 r (.s .z) r r r .mk) trivial)))))))))) (.ww r fun ex => ?_)
   have hw47 := W_prog_number (I := I) R3 hd
   refine .callP call52 r hw47 r r fun v48 hv49 => ?_
   obtain ⟨r46, rfl, hd⟩ := hv49
   exact .so 2 r r r (.ck 1 r r (.cg r r r r (fun _ => .ld1 (j := 0) ia2 hC40 r r r r r .mk) (.cg r r r r (fun _ => .ixa un23 sz2 r e39 r h33 (idx_lt hx35 h33) r r .mk) (.ck 1 r r (.cg r r r r (fun _ => .load1 ia23 r .z r r r .mk) (.cg r r r r (fun _ => .fa un46 r sz23 r (o := 2) r r r .mk) trivial)))))) (.fk 1 r (.e2 15 (.ks 1 r (.nilS [9, 8] r r (.drop .z (.drop .z (.ret (pret results68 (.t r (.t r .n)) (.refl _) ⟨(r46, x34 == 0), r, hd⟩))))))))
 refine .skipS [10, 5, 3] r r (.drop (.s .z) (.sr (.fa un46 r sz23 r (o := 2) r r r (.load1 ia23 r .z r r r (.ks 1 r ?_)))))
 obtain ⟨h50, x51, hx52, hd⟩ := hd
 obtain ⟨b53, o54, cs55, e56, hC57, hr58⟩ := R6.2 _ _ hx52
 cases hr58
 exact .ixa un23 sz2 r e56 r h50 (idx_lt hx52 h50) r r (.ld1 (j := 0) ia2 hC57 r r r r r (.ks 3 r (.nilS [9, 8] r r (.drop .z (.ret (pret results68 (.t r (.t r .n)) (.refl _) ⟨(x51, r25), r, hd⟩))))))

theorem W_prog_Out {I : IH} {a0 : Plan} {a1 : State} {a2 : Int} {p1 : Option Addr} {c2 : Nat} {p4 : Option Addr} {c5 : Nat} {p7 : Option Addr} {c8 : Nat} {p10 : Option Addr} {c11 : Nat} {Q : Vec → Prop} (R3 : RepSl eI64 I p1 c2 a0.Draws) (R6 : RepSl eI64 I p4 c5 a1.A) (R9 : RepSl eI64 I p7 c8 a1.B) (R12 : RepSl eU64 I p10 c11 a1.On) (hd : prog_Out a0 a1 a2 Q) :
  PFun prog 24 [.agg #[.int .i64 a0.Kind, .int .i64 a0.N, .int .i64 a0.Source, .int .i64 a0.Length, .slice p1 a0.Draws.length c2], .agg #[.int .i64 a1.Low, .int .i64 a1.High, .slice p4 a1.A.length c5, .slice p7 a1.B.length c8, .slice p10 a1.On.length c11], .int .i64 a2] I (o14_ Q) := by
 refine Fun.enter func24 r ntmps24 r (.c (.c (.c .n))) fun w0 M => ?_
 refine .sr (.boxA r r r fun b22 => ?_)
 refine .boxA r r r fun b24 => ?_
 refine .allocA zv51 r r fun b26 => ?_
 refine .nilS [6, 4, 3, 2] r r (.sr (.loadW ia25 sz25 r (.s (.s .z)) r r r (.loadW ia46 sz46 r (.s .z) r r r ?_)))
 have hw59 := W_prog_sure (I := I) R3 R6 R9 R12 hd
 refine .call call60 r hw59 r r fun v48 I45 hl46 hv47 => ?_
 obtain ⟨r44, p50, c51, p53, c54, p56, c57, rfl, R52, R55, R58, hd⟩ := hv47
 replace R3 := R3.mono hl46
 replace R6 := R6.mono hl46
 replace R9 := R9.mono hl46
 replace R12 := R12.mono hl46
 refine .storeA sz46 r r (.s .z) (.t (.t (.t (.t (.t .nil))))) r r (.nilS [6, 4, 3, 2] r r (.sr (.fa un46 r sz3 r (o := 1) r r r (.load1 ia3 r (.s .z) r r r (.fa un46 r sz3 r (o := 0) r r r (.load1 ia3 r (.s .z) r r r (.ks 1 r (.build zv51 un51 BI51 (.c r r r (.t .nil) .n) (by exact ⟨⟨_, _, r, r, r⟩, trivial⟩) r r (.allocA zv51 r r fun b62 => ?_)))))))))
 refine .storeA sz51 r r .z (.t (.t .nil)) r r (.nilS [7, 6, 4, 3, 2] r r (.seq (.sr (.fa un51 r sz3 r (o := 0) r r r (.load1 ia3 r .z r r r (.ks 1 r (.nilS [22, 21, 7, 6, 4, 3, 2] r r (.block (.own0 eItem 71 ?_)))))))))
 refine .loop hd (fun (s : (List Item) × Int) c w => match s with | (s114, s118) => ∃ I_ p115 c116, IH.le I45 I_ ∧ Ok ⟨44, [], none⟩ [(2, .int .i64 a2), (3, .pointer (some ⟨b22, 0, none⟩)), (4, .pointer (some ⟨b24, 0, none⟩)), (6, .pointer (some ⟨b26, 0, none⟩)), (7, .pointer (some ⟨b62, 0, none⟩)), (21, .int .i64 (w64 (r44.High - r44.Low))), (22, .int .i64 s118)] c ∧ Sym w0 M I I_ [pto b22 (.cells #[.int .i64 a0.Kind, .int .i64 a0.N, .int .i64 a0.Source, .int .i64 a0.Length, .slice p1 a0.Draws.length c2] 25 (0, 0)), pto b24 (.cells #[.int .i64 r44.Low, .int .i64 r44.High, .slice p50 r44.A.length c51, .slice p53 r44.B.length c54, .slice p56 r44.On.length c57] 46 (0, 0)), pto b26 (.cells #[.int .i64 0, .slice none 0 0] 51 (0, 0)), pto b62 (.cells #[.int .i64 (w64 (r44.High - r44.Low)), .slice p115 s114.length c116] 51 (0, 0)), OwnSl eItem 71 p115 c116 s114] w) (fun c w ho hs => ⟨I45, _, _, (.refl _), ho.sub ⟨r, r, r, r, r, r, r, trivial⟩, hs.pick (.c (.s (.s (.s (.s .z)))) (.c (.s (.s (.s .z))) (.c (.s (.s .z)) (.c (.s .z) (.c .z .n)))))⟩) ?_
 rintro ⟨s114, s118⟩ next120 hd c w hst
 obtain ⟨I121, p115, c116, hl122, hok, hsym⟩ := hst
 have le123 := IH.le.trans hl46 hl122
 replace R3 := R3.mono hl122
 replace R52 := R52.mono hl122
 replace R55 := R55.mono hl122
 replace R58 := R58.mono hl122
 refine Cod.at hok hsym (.sr (.ks 1 r (.nilS [23, 22, 21, 7, 6, 4, 3, 2] r r (.seq (.condP r hd (fun hb125 hd => ?_) fun hb125 hd => ?_)))))
 · refine .skipS [22, 21, 7, 6, 4, 3, 2] r r (.seq (.block (.sr (.ks 2 r (.nilS [8, 22, 21, 7, 6, 4, 3, 2] r r (.sr (.loadW ia25 sz25 r .z r r r (.loadW ia46 sz46 r (.s .z) r r r (.ks 2 r ?_)))))))))
   have hw131 := W_prog_tells (I := I121) R3 R52 R55 R58 hd
   refine .callP call68 r hw131 r r fun v132 hv133 => ?_
   obtain ⟨r130, rfl, hd⟩ := hv133
   refine .ks 5 r (.nilS [10, 9, 8, 22, 21, 7, 6, 4, 3, 2] r r (.sr (.ks 1 r (.nilS [33, 9, 8, 22, 21, 7, 6, 4, 3, 2] r r (.condP r hd (fun hb134 hd => ?_) fun hb134 hd => ?_)))))
   · refine .region (.fa un51 r sz49 r (o := 1) r r r (.load1 ia49 r (.s (.s (.s .z))) r r r (.ks 2 r (.build zv71 un71 BI71 (.c r r r (.t .nil) (.c r r r (.s (.t .nil)) .n)) (by exact ⟨⟨_, _, r, r, r⟩, ⟨⟨_, _, r, r, r⟩, trivial⟩⟩) r r (.buildSlice 1 un49 sz71 zv71 r r (.c r r r .n) r r fun b135 => ?_)))))
     obtain ⟨hl137, hd⟩ := hd
     refine .append (ys := [({ At := s118, Val := r130.1 } : Item)]) 16 (.s (.s (.s (.s (.s .z))))) un49 un49 IN71 r r r r r r r r r (.box .z (.one r) r) hl137 r r fun p138 c139 => ?_
     exact .fa un51 r sz49 r (o := 1) r r r (.store1 sz49 r r (.s (.s (.s (.s (.s .z))))) (.s (.t .nil)) r (.nilS [22, 21, 7, 6, 4, 3, 2] r r (.drop (.s .z) (.region (.ks 2 r (.nil' fun c w ho hs => ⟨((s114 ++ ([({ At := s118, Val := r130.1 } : Item)])), w64 (s118 + 1)), hd, I121, _, _, hl122, ho.sub ⟨r, r, r, r, r, r, r, trivial⟩, hs.pick (.c (.s .z) (.c (.s .z) (.c (.s .z) (.c (.s .z) (.c .z .n)))))⟩))))))
   exact .skipS [22, 21, 7, 6, 4, 3, 2] r r (.region (.ks 2 r (.nil' fun c w ho hs => ⟨(s114, w64 (s118 + 1)), hd, I121, _, _, hl122, ho.sub ⟨r, r, r, r, r, r, r, trivial⟩, hs.pick (.c .z (.c .z (.c .z (.c .z (.c .z .n)))))⟩)))
 refine .exitS [7, 6] r r (.drop .z (.drop .z (.sr (.loadW ia51 sz51 r (.s .z) r r r (.storeA sz51 r r .z (.t (.t .nil)) r r (.nilS [6] r r (.drop (.s .z) (.pub (.s .z) fun I141 hl142 R143 => ?_))))))))
 have le144 := IH.le.trans le123 hl142
 have le145 := IH.le.trans hl122 hl142
 exact .ret (pret results24 (.w ia51 sz51 r .z r .n) le144 ⟨({ N := w64 (r44.High - r44.Low), Items := s114 } : Vec), _, _, r, R143, hd⟩)

theorem W_flags_ones {I : IH} {a0 : Int} {Q : Int → Prop}  (hd : flags_ones a0 Q) :
  PFun prog 107 [.int .u64 a0] I (fun _ => o1_ Q) := by
 refine Fun.enter func107 r ntmps107 r (.c .n) fun w0 M => ?_
 refine .sr (.ks 1 r (.nilS [0] r r (.scope (.sr (.ks 1 r (.nilS [3, 0] r r (.seq (.labelS [3, 0] r r (.seq ?_)))))))))
 refine .block (.loop hd (fun (s : Int × Int) c w => match s with | (s9, s10) => ∃ I_, IH.le I I_ ∧ Ok ⟨13, [], none⟩ [(0, .int .u64 s9), (3, .int .i64 s10)] c ∧ Sym w0 M I I_ [] w) (fun c w ho hs => ⟨I, (.refl _), ho.sub ⟨r, r, trivial⟩, hs.pick .n⟩) ?_)
 rintro ⟨s9, s10⟩ next11 hd c w hst
 obtain ⟨I12, hl13, hok, hsym⟩ := hst
 refine Cod.at hok hsym (.block (.seq (.sr (.ks 2 r (.nilS [5, 3, 0] r r (.condP r hd (fun hb14 hd => ?_) fun hb14 hd => ?_))))))
 · exact .exitS [3] r r (.sr (.ks 2 r (.nilS [2] r r (.ret (pret results107 (.t r .n) hl13 ⟨s10, r, hd⟩)))))
 exact .skipS [3, 0] r r (.sr (.ks 5 r (.nilS [0, 3] r r (.region (.ks 3 r (.nil' fun c w ho hs => ⟨(bnd .u64 s9 (IntKind.wrap .u64 (s9 - 1)), w64 (s10 + 1)), hd, I12, hl13, ho.sub ⟨r, r, trivial⟩, hs.pick .n⟩))))))

theorem W_flags_Count {I : IH} {a0 : List Int} {p1 : Option Addr} {c2 : Nat} {Q : Int → Prop} (R3 : RepSl eU64 I p1 c2 a0) (hd : flags_Count a0 Q) :
  PFun prog 74 [.slice p1 a0.length c2] I (fun _ => o1_ Q) := by
 refine Fun.enter func74 r ntmps74 r (.c .n) fun w0 M => ?_
 refine .sr (.ks 1 r (.nilS [0] r r (.sr (.ks 1 r (.nilS [3, 0] r r (.seq (.sr (.ks 1 r (.len un44 r r r r ?_)))))))))
 refine .ks 1 r (.nilS [8, 7, 6, 3] r r (.block (.loop hd (fun (s : Int × Int) c w => match s with | (s40, s41) => ∃ I_, IH.le I I_ ∧ Ok ⟨18, [], none⟩ [(3, .int .i64 s40), (6, .slice p1 a0.length c2), (7, .int .i64 (a0.length : Int)), (8, .int .i64 s41)] c ∧ Sym w0 M I I_ [] w) (fun c w ho hs => ⟨I, (.refl _), ho.sub ⟨r, r, r, r, trivial⟩, hs.pick .n⟩) ?_)))
 rintro ⟨s40, s41⟩ next42 hd c w hst
 obtain ⟨I43, hl44, hok, hsym⟩ := hst
 replace R3 := R3.mono hl44
 refine Cod.at hok hsym (.sr (.ks 1 r (.nilS [9, 8, 7, 6, 3] r r (.seq (.condP r hd (fun hb46 hd => ?_) fun hb46 hd => ?_)))))
 · refine .skipS [8, 7, 6, 3] r r (.seq (.block (.sr ?_)))
   obtain ⟨h47, x48, hx49, hd⟩ := hd
   obtain ⟨b50, o51, cs52, e53, hC54, hr55⟩ := R3.2 _ _ hx49
   cases hr55
   refine .ixa un44 sz96 r e53 r h47 (idx_lt hx49 h47) r r (.ld1 (j := 0) ia96 hC54 r r r r r (.ks 1 r (.nilS [5, 8, 7, 6, 3] r r (.region (.ks 2 r ?_)))))
   have hw57 := W_flags_ones (I := I43) hd
   refine .callP call107 r hw57 r r fun v58 hv59 => ?_
   obtain ⟨r56, rfl, hd⟩ := hv59
   exact .ks 2 r (.nilS [3, 8, 7, 6] r r (.region (.ks 2 r (.nil' fun c w ho hs => ⟨(w64 (s40 + r56), w64 (s41 + 1)), hd, I43, hl44, ho.sub ⟨r, r, r, r, trivial⟩, hs.pick .n⟩))))
 exact .exitS [3] r r (.sr (.ks 2 r (.nilS [2] r r (.ret (pret results74 (.t r .n) hl44 ⟨s40, r, hd⟩)))))

theorem W_prog_Live {I : IH} {a0 : Plan} {a1 : State} {a2 : Int} {p1 : Option Addr} {c2 : Nat} {p4 : Option Addr} {c5 : Nat} {p7 : Option Addr} {c8 : Nat} {p10 : Option Addr} {c11 : Nat} {Q : Int → Prop} (R3 : RepSl eI64 I p1 c2 a0.Draws) (R6 : RepSl eI64 I p4 c5 a1.A) (R9 : RepSl eI64 I p7 c8 a1.B) (R12 : RepSl eU64 I p10 c11 a1.On) (hd : prog_Live a0 a1 a2 Q) :
  PFun prog 27 [.agg #[.int .i64 a0.Kind, .int .i64 a0.N, .int .i64 a0.Source, .int .i64 a0.Length, .slice p1 a0.Draws.length c2], .agg #[.int .i64 a1.Low, .int .i64 a1.High, .slice p4 a1.A.length c5, .slice p7 a1.B.length c8, .slice p10 a1.On.length c11], .int .i64 a2] I (fun _ => o1_ Q) := by
 refine Fun.enter func27 r ntmps27 r (.c (.c (.c .n))) fun w0 M => ?_
 refine .sr (.boxA r r r fun b17 => ?_)
 refine .boxA r r r fun b19 => ?_
 refine .ks 1 r (.nilS [4, 3, 2] r r (.sr (.loadW ia25 sz25 r (.s .z) r r r (.loadW ia46 sz46 r .z r r r ?_))))
 have hw52 := W_prog_sure (I := I) R3 R6 R9 R12 hd
 refine .call call60 r hw52 r r fun v41 I38 hl39 hv40 => ?_
 obtain ⟨r37, p43, c44, p46, c47, p49, c50, rfl, R45, R48, R51, hd⟩ := hv40
 replace R3 := R3.mono hl39
 replace R6 := R6.mono hl39
 replace R9 := R9.mono hl39
 replace R12 := R12.mono hl39
 refine .storeA sz46 r r .z (.t (.t (.t (.t (.t .nil))))) r r (.nilS [4, 3, 2] r r (.seq (.sr (.fa un25 r sz22 r (o := 0) r r r (.load1 ia22 r (.s .z) r r r (.nilS [14, 4, 3, 2] r r (.block (.sr (.ks 2 r ?_)))))))))
 refine .nilS [15, 14, 4, 3, 2] r r (.condP r hd (fun hb53 hd => ?_) fun hb53 hd => ?_)
 · refine .sr (.ks 1 r (.fa un25 r sz3 r (o := 3) r r r (.load1 ia3 r (.s .z) r r r (.ks 1 r (.nilS [20, 4] r r (.drop (.s .z) (.condP r hd (fun hb54 hd => ?_) fun hb54 hd => ?_)))))))
   · exact .sr (.ks 1 r (.nilS [6] r r (.drop .z (.ret (pret results27 (.t r .n) hl39 ⟨0, r, hd⟩)))))
   refine .skipS [4] r r (.sr (.fa un46 r sz44 r (o := 4) r r r (.load1 ia44 r .z r r r ?_)))
   have hw56 := W_flags_Count (I := I38) R51 hd
   refine .callP call74 r hw56 r r fun v57 hv58 => ?_
   obtain ⟨r55, rfl, hd⟩ := hv58
   exact .ks 1 r (.nilS [6] r r (.drop .z (.ret (pret results27 (.t r .n) hl39 ⟨r55, r, hd⟩))))
 refine .sr (.ks 2 r (.nilS [21, 4] r r (.drop (.s .z) (.condP r hd (fun hb59 hd => ?_) fun hb59 hd => ?_))))
 · refine .sr (.ks 1 r (.nilS [7, 4] r r (.seq (.sr (.fa un46 r sz23 r (o := 2) r r r (.load1 ia23 r .z r r r (.len un23 r r r r (.ks 1 r (.nilS [26, 25, 24, 7] r r ?_)))))))))
   refine .drop .z (.block (.loop hd (fun (s : Int × Int) c w => match s with | (s90, s91) => ∃ I_, IH.le I38 I_ ∧ Ok ⟨39, [], none⟩ [(7, .int .i64 s90), (24, .slice p43 r37.A.length c44), (25, .int .i64 (r37.A.length : Int)), (26, .int .i64 s91)] c ∧ Sym w0 M I I_ [] w) (fun c w ho hs => ⟨I38, (.refl _), ho.sub ⟨r, r, r, r, trivial⟩, hs.pick .n⟩) ?_))
   rintro ⟨s90, s91⟩ next92 hd c w hst
   obtain ⟨I93, hl94, hok, hsym⟩ := hst
   have le95 := IH.le.trans hl39 hl94
   replace R45 := R45.mono hl94
   refine Cod.at hok hsym (.sr (.ks 1 r (.nilS [27, 26, 25, 24, 7] r r (.seq (.condP r hd (fun hb97 hd => ?_) fun hb97 hd => ?_)))))
   · refine .skipS [26, 25, 24, 7] r r (.seq (.block (.sr ?_)))
     obtain ⟨h98, x99, hx100, hd⟩ := hd
     obtain ⟨b101, o102, cs103, e104, hC105, hr106⟩ := R45.2 _ _ hx100
     cases hr106
     refine .ixa un23 sz2 r e104 r h98 (idx_lt hx100 h98) r r (.ld1 (j := 0) ia2 hC105 r r r r r (.ks 1 r (.nilS [9, 26, 25, 24, 7] r r (.sr (.ks 2 r (.nilS [31, 26, 25, 24, 7] r r (.condP r hd (fun hb107 hd => ?_) fun hb107 hd => ?_)))))))
     · exact .region (.ks 3 r (.nilS [7, 26, 25, 24] r r (.region (.ks 2 r (.nil' fun c w ho hs => ⟨(w64 (s90 + 1), w64 (s91 + 1)), hd, I93, hl94, ho.sub ⟨r, r, r, r, trivial⟩, hs.pick .n⟩)))))
     exact .skipS [26, 25, 24, 7] r r (.region (.ks 2 r (.nil' fun c w ho hs => ⟨(s90, w64 (s91 + 1)), hd, I93, hl94, ho.sub ⟨r, r, r, r, trivial⟩, hs.pick .n⟩)))
   exact .exitS [7] r r (.sr (.ks 2 r (.nilS [6] r r (.ret (pret results27 (.t r .n) le95 ⟨s90, r, hd⟩)))))
 refine .skipS [4] r r (.sr (.fa un46 r sz44 r (o := 4) r r r (.load1 ia44 r .z r r r ?_)))
 have hw109 := W_flags_Count (I := I38) R51 hd
 refine .callP call74 r hw109 r r fun v110 hv111 => ?_
 obtain ⟨r108, rfl, hd⟩ := hv111
 exact .ks 1 r (.nilS [6] r r (.drop .z (.ret (pret results27 (.t r .n) hl39 ⟨r108, r, hd⟩))))

theorem W_slices_Equal_int64_int64 {I : IH} {a0 : List Int} {a1 : List Int} {p1 : Option Addr} {c2 : Nat} {p4 : Option Addr} {c5 : Nat} {Q : Bool → Prop} (R3 : RepSl eI64 I p1 c2 a0) (R6 : RepSl eI64 I p4 c5 a1) (hd : slices_Equal_int64_int64 a0 a1 Q) :
  PFun prog 77 [.slice p1 a0.length c2, .slice p4 a1.length c5] I (fun _ => o0_ Q) := by
 refine Fun.enter func77 r ntmps77 r (.c (.c .n)) fun w0 M => ?_
 refine .sr (.ks 1 r (.nilS [1, 0] r r (.seq (.sr (.ks 1 r (.len un23 r r r r (.ks 1 r (.len un23 r r r r (.ks 1 r ?_)))))))))
 refine .nilS [10, 1, 0] r r (.condP r hd (fun hb8 hd => ?_) fun hb8 hd => ?_)
 · exact .sr (.ks 1 r (.nilS [4] r r (.ret (pret results77 (.t r .n) (.refl _) ⟨false, r, hd⟩))))
 refine .skipS [1, 0] r r (.seq (.sr (.ks 1 r (.len un23 r r r r (.ks 1 r (.nilS [13, 12, 1, 0] r r (.block (.loop hd (fun (s54 : Int) c w => ∃ I_, IH.le I I_ ∧ Ok ⟨26, [], none⟩ [(0, .slice p1 a0.length c2), (1, .slice p4 a1.length c5), (12, .int .i64 (a0.length : Int)), (13, .int .i64 s54)] c ∧ Sym w0 M I I_ [] w) (fun c w ho hs => ⟨I, (.refl _), ho.sub ⟨r, r, r, r, trivial⟩, hs.pick .n⟩) ?_))))))))
 rintro s54 next55 hd c w hst
 obtain ⟨I56, hl57, hok, hsym⟩ := hst
 replace R3 := R3.mono hl57
 replace R6 := R6.mono hl57
 refine Cod.at hok hsym (.sr (.ks 1 r (.nilS [14, 13, 12, 1, 0] r r (.seq (.condP r hd (fun hb59 hd => ?_) fun hb59 hd => ?_)))))
 · refine .skipS [13, 12, 1, 0] r r (.seq (.block (.sr (.ks 2 r (.nilS [5, 13, 12, 1, 0] r r (.seq (.dr [0, 1, 2, 3, 4, 5, 6, 7, 8] 9 (.fk 2 r ?_))))))))
   obtain ⟨h60, x61, hx62, hd⟩ := hd
   obtain ⟨b63, o64, cs65, e66, hC67, hr68⟩ := R3.2 _ _ hx62
   cases hr68
   refine .g r r r (fun _ => .ixa un23 sz2 r e66 r h60 (idx_lt hx62 h60) r r .mk) (.g r r r (fun _ => .ld1 (j := 0) ia2 hC67 r r r r r .mk) (.fk 2 r ?_))
   obtain ⟨h69, x70, hx71, hd⟩ := hd
   obtain ⟨b72, o73, cs74, e75, hC76, hr77⟩ := R6.2 _ _ hx71
   cases hr77
   refine .g r r r (fun _ => .ixa un23 sz2 r e75 r h69 (idx_lt hx71 h69) r r .mk) (.g r r r (fun _ => .ld1 (j := 0) ia2 hC76 r r r r r .mk) (.fk 1 r (.e2 9 (.nilS [24, 13, 12, 1, 0] r r (.condP r hd (fun hb78 hd => ?_) fun hb78 hd => ?_)))))
   · exact .sr (.ks 1 r (.nilS [4] r r (.ret (pret results77 (.t r .n) hl57 ⟨false, r, hd⟩))))
   exact .skipS [13, 12, 1, 0] r r (.region (.ks 2 r (.nil' fun c w ho hs => ⟨(w64 (s54 + 1)), hd, I56, hl57, ho.sub ⟨r, r, r, r, trivial⟩, hs.pick .n⟩)))
 exact .exitS [] r r (.sr (.ks 1 r (.nilS [4] r r (.ret (pret results77 (.t r .n) hl57 ⟨true, r, hd⟩)))))

theorem W_slices_Equal_uint64_uint64 {I : IH} {a0 : List Int} {a1 : List Int} {p1 : Option Addr} {c2 : Nat} {p4 : Option Addr} {c5 : Nat} {Q : Bool → Prop} (R3 : RepSl eU64 I p1 c2 a0) (R6 : RepSl eU64 I p4 c5 a1) (hd : slices_Equal_uint64_uint64 a0 a1 Q) :
  PFun prog 78 [.slice p1 a0.length c2, .slice p4 a1.length c5] I (fun _ => o0_ Q) := by
 refine Fun.enter func78 r ntmps78 r (.c (.c .n)) fun w0 M => ?_
 refine .sr (.ks 1 r (.nilS [1, 0] r r (.seq (.sr (.ks 1 r (.len un44 r r r r (.ks 1 r (.len un44 r r r r (.ks 1 r ?_)))))))))
 refine .nilS [10, 1, 0] r r (.condP r hd (fun hb8 hd => ?_) fun hb8 hd => ?_)
 · exact .sr (.ks 1 r (.nilS [4] r r (.ret (pret results78 (.t r .n) (.refl _) ⟨false, r, hd⟩))))
 refine .skipS [1, 0] r r (.seq (.sr (.ks 1 r (.len un44 r r r r (.ks 1 r (.nilS [13, 12, 1, 0] r r (.block (.loop hd (fun (s54 : Int) c w => ∃ I_, IH.le I I_ ∧ Ok ⟨26, [], none⟩ [(0, .slice p1 a0.length c2), (1, .slice p4 a1.length c5), (12, .int .i64 (a0.length : Int)), (13, .int .i64 s54)] c ∧ Sym w0 M I I_ [] w) (fun c w ho hs => ⟨I, (.refl _), ho.sub ⟨r, r, r, r, trivial⟩, hs.pick .n⟩) ?_))))))))
 rintro s54 next55 hd c w hst
 obtain ⟨I56, hl57, hok, hsym⟩ := hst
 replace R3 := R3.mono hl57
 replace R6 := R6.mono hl57
 refine Cod.at hok hsym (.sr (.ks 1 r (.nilS [14, 13, 12, 1, 0] r r (.seq (.condP r hd (fun hb59 hd => ?_) fun hb59 hd => ?_)))))
 · refine .skipS [13, 12, 1, 0] r r (.seq (.block (.sr (.ks 2 r (.nilS [5, 13, 12, 1, 0] r r (.seq (.dr [0, 1, 2, 3, 4, 5, 6, 7, 8] 9 (.fk 2 r ?_))))))))
   obtain ⟨h60, x61, hx62, hd⟩ := hd
   obtain ⟨b63, o64, cs65, e66, hC67, hr68⟩ := R3.2 _ _ hx62
   cases hr68
   refine .g r r r (fun _ => .ixa un44 sz96 r e66 r h60 (idx_lt hx62 h60) r r .mk) (.g r r r (fun _ => .ld1 (j := 0) ia96 hC67 r r r r r .mk) (.fk 2 r ?_))
   obtain ⟨h69, x70, hx71, hd⟩ := hd
   obtain ⟨b72, o73, cs74, e75, hC76, hr77⟩ := R6.2 _ _ hx71
   cases hr77
   refine .g r r r (fun _ => .ixa un44 sz96 r e75 r h69 (idx_lt hx71 h69) r r .mk) (.g r r r (fun _ => .ld1 (j := 0) ia96 hC76 r r r r r .mk) (.fk 1 r (.e2 9 (.nilS [24, 13, 12, 1, 0] r r (.condP r hd (fun hb78 hd => ?_) fun hb78 hd => ?_)))))
   · exact .sr (.ks 1 r (.nilS [4] r r (.ret (pret results78 (.t r .n) hl57 ⟨false, r, hd⟩))))
   exact .skipS [13, 12, 1, 0] r r (.region (.ks 2 r (.nil' fun c w ho hs => ⟨(w64 (s54 + 1)), hd, I56, hl57, ho.sub ⟨r, r, r, r, trivial⟩, hs.pick .n⟩)))
 exact .exitS [] r r (.sr (.ks 1 r (.nilS [4] r r (.ret (pret results78 (.t r .n) hl57 ⟨true, r, hd⟩)))))

theorem W_prog_Same {I : IH} {a0 : State} {a1 : State} {p1 : Option Addr} {c2 : Nat} {p4 : Option Addr} {c5 : Nat} {p7 : Option Addr} {c8 : Nat} {p10 : Option Addr} {c11 : Nat} {p13 : Option Addr} {c14 : Nat} {p16 : Option Addr} {c17 : Nat} {Q : Bool → Prop} (R3 : RepSl eI64 I p1 c2 a0.A) (R6 : RepSl eI64 I p4 c5 a0.B) (R9 : RepSl eU64 I p7 c8 a0.On) (R12 : RepSl eI64 I p10 c11 a1.A) (R15 : RepSl eI64 I p13 c14 a1.B) (R18 : RepSl eU64 I p16 c17 a1.On) (hd : prog_Same a0 a1 Q) :
  PFun prog 32 [.agg #[.int .i64 a0.Low, .int .i64 a0.High, .slice p1 a0.A.length c2, .slice p4 a0.B.length c5, .slice p7 a0.On.length c8], .agg #[.int .i64 a1.Low, .int .i64 a1.High, .slice p10 a1.A.length c11, .slice p13 a1.B.length c14, .slice p16 a1.On.length c17]] I (fun _ => o0_ Q) := by
 refine Fun.enter func32 r ntmps32 r (.c (.c .n)) fun w0 M => ?_
 refine .sr (.boxA r r r fun b23 => ?_)
 refine .boxA r r r fun b25 => ?_
 refine .ks 1 r (.nilS [3, 2] r r (.sr (.fa un46 r sz3 r (o := 0) r r r (.load1 ia3 r (.s .z) r r r (.fa un46 r sz3 r (o := 0) r r r (.load1 ia3 r .z r r r (.ks 2 r ?_)))))))
 refine splitP hd (fun hb27 hd => ?_) fun hb27 hd => ?_
 · rw [hb27]
   refine .gyes r r r (.fa un46 r sz3 r (o := 1) r r r (.gyes r r r (.load1 ia3 r (.s .z) r r r (.gyes r r r (.fa un46 r sz3 r (o := 1) r r r (.gyes r r r (.load1 ia3 r .z r r r (.ks 3 r ?_))))))))
   refine splitP hd (fun hb28 hd => ?_) fun hb28 hd => ?_
   · rw [hb28]
     refine .gyes r r r (.fa un46 r sz23 r (o := 2) r r r (.gyes r r r (.load1 ia23 r (.s .z) r r r (.gyes r r r (.fa un46 r sz23 r (o := 2) r r r (.gyes r r r (.load1 ia23 r .z r r r ?_)))))))
     have hw30 := W_slices_Equal_int64_int64 (I := I) R3 R12 hd
     refine .gyes r r r (.callP call77 r hw30 r r fun v31 hv32 => ?_)
     obtain ⟨r29, rfl, hd⟩ := hv32
     refine .ks 2 r ?_
     refine splitP hd (fun hb33 hd => ?_) fun hb33 hd => ?_
     · rw [hb33]
       refine .gyes r r r (.fa un46 r sz23 r (o := 3) r r r (.gyes r r r (.load1 ia23 r (.s .z) r r r (.gyes r r r (.fa un46 r sz23 r (o := 3) r r r (.gyes r r r (.load1 ia23 r .z r r r ?_)))))))
       have hw35 := W_slices_Equal_int64_int64 (I := I) R6 R15 hd
       refine .gyes r r r (.callP call77 r hw35 r r fun v36 hv37 => ?_)
       obtain ⟨r34, rfl, hd⟩ := hv37
       refine .ks 2 r ?_
       refine splitP hd (fun hb38 hd => ?_) fun hb38 hd => ?_
       · rw [hb38]
         refine .gyes r r r (.fa un46 r sz44 r (o := 4) r r r (.gyes r r r (.load1 ia44 r (.s .z) r r r (.gyes r r r (.fa un46 r sz44 r (o := 4) r r r (.gyes r r r (.load1 ia44 r .z r r r ?_)))))))
         have hw40 := W_slices_Equal_uint64_uint64 (I := I) R9 R18 hd
         refine .gyes r r r (.callP call78 r hw40 r r fun v41 hv42 => ?_)
         obtain ⟨r39, rfl, hd⟩ := hv42
         exact .ks 2 r (.nilS [4] r r (.drop .z (.drop .z (.ret (pret results32 (.t r .n) (.refl _) ⟨r39, r, hd⟩)))))
       rw [hb38]
       exact .ks 7 r (.nilS [4] r r (.drop .z (.drop .z (.ret (pret results32 (.t r .n) (.refl _) ⟨false, r, hd⟩)))))
     rw [hb33]
     exact .ks 14 r (.nilS [4] r r (.drop .z (.drop .z (.ret (pret results32 (.t r .n) (.refl _) ⟨false, r, hd⟩)))))
   rw [hb28]
   exact .ks 21 r (.nilS [4] r r (.drop .z (.drop .z (.ret (pret results32 (.t r .n) (.refl _) ⟨false, r, hd⟩)))))
 rw [hb27]
 exact .ks 28 r (.nilS [4] r r (.drop .z (.drop .z (.ret (pret results32 (.t r .n) (.refl _) ⟨false, r, hd⟩)))))

theorem W_prog_Asked {I : IH} {a0 : Plan} {a1 : State} {a2 : Int} {p1 : Option Addr} {c2 : Nat} {p4 : Option Addr} {c5 : Nat} {p7 : Option Addr} {c8 : Nat} {p10 : Option Addr} {c11 : Nat} {Q : ((List Int) × Bool) → Prop} (R3 : RepSl eI64 I p1 c2 a0.Draws) (R6 : RepSl eI64 I p4 c5 a1.A) (R9 : RepSl eI64 I p7 c8 a1.B) (R12 : RepSl eU64 I p10 c11 a1.On) (hd : prog_Asked a0 a1 a2 Q) :
  PFun prog 34 [.agg #[.int .i64 a0.Kind, .int .i64 a0.N, .int .i64 a0.Source, .int .i64 a0.Length, .slice p1 a0.Draws.length c2], .agg #[.int .i64 a1.Low, .int .i64 a1.High, .slice p4 a1.A.length c5, .slice p7 a1.B.length c8, .slice p10 a1.On.length c11], .int .i64 a2] I (fun I_ v => ∃ r p13 c14, v = .tuple #[.slice p13 r.1.length c14, .bool r.2] ∧ RepSl eU64 I_ p13 c14 r.1 ∧ Q r) := by
 refine Fun.enter func34 r ntmps34 r (.c (.c (.c .n))) fun w0 M => ?_
 refine .sr (.boxA r r r fun b20 => ?_)
 refine .boxA r r r fun b22 => ?_
 refine .ks 2 r (.nilS [4, 3] r r (.sr (.loadW ia25 sz25 r (.s .z) r r r (.loadW ia46 sz46 r .z r r r ?_))))
 have hw55 := W_prog_sure (I := I) R3 R6 R9 R12 hd
 refine .call call60 r hw55 r r fun v44 I41 hl42 hv43 => ?_
 obtain ⟨r40, p46, c47, p49, c50, p52, c53, rfl, R48, R51, R54, hd⟩ := hv43
 replace R3 := R3.mono hl42
 replace R6 := R6.mono hl42
 replace R9 := R9.mono hl42
 replace R12 := R12.mono hl42
 refine .storeA sz46 r r .z (.t (.t (.t (.t (.t .nil))))) r r (.nilS [4, 3] r r (.sr (.ks 1 r (.nilS [8, 4, 3] r r (.seq ?_)))))
 refine Cod.joinQ (σ := Int) hd (fun (s60 : Int) c w => ∃ I_, IH.le I41 I_ ∧ Ok ⟨44, [], none⟩ [(4, .pointer (some ⟨b22, 0, none⟩)), (8, .int .i64 s60)] c ∧ Sym w0 M I I_ [pto b22 (.cells #[.int .i64 r40.Low, .int .i64 r40.High, .slice p46 r40.A.length c47, .slice p49 r40.B.length c50, .slice p52 r40.On.length c53] 46 (0, 0))] w) (fun k61 hd => ?_) ?_
 · skip
   refine .sr (.fa un25 r sz22 r (o := 0) r r r (.load1 ia22 r (.s .z) r r r (.nilS [16, 8, 4] r r (.drop (.s .z) (.block (.sr (.ks 2 r (.nilS [17, 16, 8, 4] r r (.condP r hd (fun hb62 hd => ?_) fun hb62 hd => ?_)))))))))
   · exact .region (.ks 1 r (.nil' fun c w ho hs => ⟨(-1), hd, I41, (.refl _), ho.sub ⟨r, r, trivial⟩, hs.pick (.c .z .n)⟩))
   refine .sr (.ks 2 r (.nilS [19, 8, 4] r r (.condP r hd (fun hb63 hd => ?_) fun hb63 hd => ?_)))
   · exact .skip' fun c w ho hs => ⟨0, hd, I41, (.refl _), ho.sub ⟨r, r, trivial⟩, hs.pick (.c .z .n)⟩
   exact .sr (.ks 2 r (.nilS [7, 6] r r (.drop .z (.ret (pret results34 (.t r (.t r .n)) hl42 ⟨(([] : List Int), true), _, _, r, (.nil _ _ _), hd⟩)))))
 rintro s60 hd c w hst
 obtain ⟨I64, hl65, hok, hsym⟩ := hst
 have le66 := IH.le.trans hl42 hl65
 replace R48 := R48.mono hl65
 replace R51 := R51.mono hl65
 replace R54 := R54.mono hl65
 refine Cod.at hok hsym (.sr (.ks 1 r (.nilS [9, 8, 4] r r (.seq (.sr (.fa un46 r sz23 r (o := 2) r r r (.load1 ia23 r .z r r r (.len un23 r r r r (.ks 1 r ?_)))))))))
 refine .nilS [24, 23, 22, 9, 8, 4] r r (.block (.own0 eI64 3 (.loop hd (fun (s : (List Int) × Int) c w => match s with | (s245, s249) => ∃ I_ p246 c247, IH.le I64 I_ ∧ Ok ⟨44, [], none⟩ [(4, .pointer (some ⟨b22, 0, none⟩)), (8, .int .i64 s60), (9, .slice p246 s245.length c247), (22, .slice p46 r40.A.length c47), (23, .int .i64 (r40.A.length : Int)), (24, .int .i64 s249)] c ∧ Sym w0 M I I_ [pto b22 (.cells #[.int .i64 r40.Low, .int .i64 r40.High, .slice p46 r40.A.length c47, .slice p49 r40.B.length c50, .slice p52 r40.On.length c53] 46 (0, 0)), OwnSl eI64 3 p246 c247 s245] w) (fun c w ho hs => ⟨I64, _, _, (.refl _), ho.sub ⟨r, r, r, r, r, r, trivial⟩, hs.pick (.c (.s .z) (.c .z .n))⟩) ?_)))
 rintro ⟨s245, s249⟩ next251 hd c w hst
 obtain ⟨I252, p246, c247, hl253, hok, hsym⟩ := hst
 have le254 := IH.le.trans le66 hl253
 have le255 := IH.le.trans hl65 hl253
 replace R48 := R48.mono hl253
 replace R51 := R51.mono hl253
 replace R54 := R54.mono hl253
 refine Cod.at hok hsym (.sr (.ks 1 r (.nilS [25, 24, 23, 22, 9, 8, 4] r r (.seq (.condP r hd (fun hb257 hd => ?_) fun hb257 hd => ?_)))))
 · refine .skipS [24, 23, 22, 9, 8, 4] r r (.seq (.block (.sr (.ks 1 r ?_))))
   obtain ⟨h267, x268, hx269, hd⟩ := hd
   obtain ⟨b270, o271, cs272, e273, hC274, hr275⟩ := R48.2 _ _ hx269
   cases hr275
   refine .ixa un23 sz2 r e273 r h267 (idx_lt hx269 h267) r r (.ld1 (j := 0) ia2 hC274 r r r r r (.ks 2 r (.nilS [11, 10, 24, 23, 22, 9, 8, 4] r r (.sr (.ks 3 r (.nilS [31, 10, 24, 23, 22, 9, 8, 4] r r (.condP r hd (fun hb276 hd => ?_) fun hb276 hd => ?_)))))))
   · refine .region (.ks 2 r (.buildSlice 1 un30 sz3 zv3 r r (.c r r r .n) r r fun b277 => ?_))
     obtain ⟨hl279, hd⟩ := hd
     refine .append (ys := [s249]) 8 (.s (.s .z)) un30 un30 IN3 r r r r r r r r r (.box .z (.one r) r) hl279 r r fun p280 c281 => ?_
     exact .ks 1 r (.nilS [9, 24, 23, 22, 8, 4] r r (.drop (.s .z) (.region (.ks 2 r (.nil' fun c w ho hs => ⟨((s245 ++ ([s249])), w64 (s249 + 1)), hd, I252, _, _, hl253, ho.sub ⟨r, r, r, r, r, r, trivial⟩, hs.pick (.c (.s .z) (.c .z .n))⟩)))))
   exact .skipS [24, 23, 22, 9, 8, 4] r r (.region (.ks 2 r (.nil' fun c w ho hs => ⟨(s245, w64 (s249 + 1)), hd, I252, _, _, hl253, ho.sub ⟨r, r, r, r, r, r, trivial⟩, hs.pick (.c .z (.c .z .n))⟩)))
 refine .exitS [9, 4] r r (.sr (.fa un46 r sz3 r (o := 1) r r r (.load1 ia3 r .z r r r (.fa un46 r sz3 r (o := 0) r r r (.load1 ia3 r .z r r r (.ks 2 r (.pub (.s .z) fun I283 hl284 R285 => ?_)))))))
 have le286 := IH.le.trans le254 hl284
 have le287 := IH.le.trans le255 hl284
 have le288 := IH.le.trans hl253 hl284
 replace R48 := R48.mono hl284
 replace R51 := R51.mono hl284
 replace R54 := R54.mono hl284
 have hw298 := W_flags_Of (I := I283) R285 hd
 refine .call call79 r hw298 r r fun v293 I290 hl291 hv292 => ?_
 obtain ⟨r289, p295, c296, rfl, R297, hd⟩ := hv292
 have le299 := IH.le.trans le286 hl291
 have le300 := IH.le.trans le287 hl291
 have le301 := IH.le.trans le288 hl291
 replace R48 := R48.mono hl291
 replace R51 := R51.mono hl291
 replace R54 := R54.mono hl291
 replace R285 := R285.mono hl291
 exact .ks 2 r (.nilS [7, 6] r r (.drop .z (.ret (pret results34 (.t r (.t r .n)) le299 ⟨(r289, false), _, _, r, R297, hd⟩))))

theorem W_ref07_SameVals {I : IH} {a0 : List Int} {a1 : List Int} {p1 : Option Addr} {c2 : Nat} {p4 : Option Addr} {c5 : Nat} {Q : Bool → Prop} (R3 : RepSl eI64 I p1 c2 a0) (R6 : RepSl eI64 I p4 c5 a1) (hd : ref07_SameVals a0 a1 Q) :
  PFun prog 35 [.slice p1 a0.length c2, .slice p4 a1.length c5] I (fun _ => o0_ Q) := by
 refine Fun.enter func35 r ntmps35 r (.c (.c .n)) fun w0 M => ?_
 refine .sr (.ks 1 r (.nilS [1, 0] r r (.seq (.sr (.ks 1 r (.len un23 r r r r (.ks 1 r (.len un23 r r r r (.ks 1 r ?_)))))))))
 refine .nilS [10, 1, 0] r r (.condP r hd (fun hb8 hd => ?_) fun hb8 hd => ?_)
 · exact .sr (.ks 1 r (.nilS [4] r r (.ret (pret results35 (.t r .n) (.refl _) ⟨false, r, hd⟩))))
 refine .skipS [1, 0] r r (.seq (.sr (.ks 1 r (.nilS [5, 1, 0] r r (.block (.loop hd (fun (s54 : Int) c w => ∃ I_, IH.le I I_ ∧ Ok ⟨26, [], none⟩ [(0, .slice p1 a0.length c2), (1, .slice p4 a1.length c5), (5, .int .i64 s54)] c ∧ Sym w0 M I I_ [] w) (fun c w ho hs => ⟨I, (.refl _), ho.sub ⟨r, r, r, trivial⟩, hs.pick .n⟩) ?_))))))
 rintro s54 next55 hd c w hst
 obtain ⟨I56, hl57, hok, hsym⟩ := hst
 replace R3 := R3.mono hl57
 replace R6 := R6.mono hl57
 refine Cod.at hok hsym (.seq (.sr (.ks 2 r (.len un23 r r r r (.ks 1 r (.nilS [14, 5, 1, 0] r r (.condP r hd (fun hb59 hd => ?_) fun hb59 hd => ?_)))))))
 · refine .skipS [5, 1, 0] r r (.seq (.block (.seq (.dr [0, 1, 2, 3, 4, 5, 6, 7, 8] 9 (.fk 2 r ?_)))))
   obtain ⟨h60, x61, hx62, hd⟩ := hd
   obtain ⟨b63, o64, cs65, e66, hC67, hr68⟩ := R3.2 _ _ hx62
   cases hr68
   refine .g r r r (fun _ => .ixa un23 sz2 r e66 r h60 (idx_lt hx62 h60) r r .mk) (.g r r r (fun _ => .ld1 (j := 0) ia2 hC67 r r r r r .mk) (.fk 2 r ?_))
   obtain ⟨h69, x70, hx71, hd⟩ := hd
   obtain ⟨b72, o73, cs74, e75, hC76, hr77⟩ := R6.2 _ _ hx71
   cases hr77
   refine .g r r r (fun _ => .ixa un23 sz2 r e75 r h69 (idx_lt hx71 h69) r r .mk) (.g r r r (fun _ => .ld1 (j := 0) ia2 hC76 r r r r r .mk) (.fk 1 r (.e2 9 (.nilS [25, 5, 1, 0] r r (.condP r hd (fun hb78 hd => ?_) fun hb78 hd => ?_)))))
   · exact .sr (.ks 1 r (.nilS [4] r r (.ret (pret results35 (.t r .n) hl57 ⟨false, r, hd⟩))))
   exact .skipS [5, 1, 0] r r (.region (.ks 3 r (.nil' fun c w ho hs => ⟨(w64 (s54 + 1)), hd, I56, hl57, ho.sub ⟨r, r, r, trivial⟩, hs.pick .n⟩)))
 exact .exitS [] r r (.sr (.ks 1 r (.nilS [4] r r (.ret (pret results35 (.t r .n) hl57 ⟨true, r, hd⟩)))))

theorem W_ref03_SameInts {I : IH} {a0 : List Int} {a1 : List Int} {p1 : Option Addr} {c2 : Nat} {p4 : Option Addr} {c5 : Nat} {Q : Bool → Prop} (R3 : RepSl eI64 I p1 c2 a0) (R6 : RepSl eI64 I p4 c5 a1) (hd : ref03_SameInts a0 a1 Q) :
  PFun prog 36 [.slice p1 a0.length c2, .slice p4 a1.length c5] I (fun _ => o0_ Q) := by
 refine Fun.enter func36 r ntmps36 r (.c (.c .n)) fun w0 M => ?_
 refine .sr (.ks 1 r (.nilS [1, 0] r r (.seq (.sr (.ks 1 r (.len un30 r r r r (.ks 1 r (.len un30 r r r r (.ks 1 r ?_)))))))))
 refine .nilS [10, 1, 0] r r (.condP r hd (fun hb8 hd => ?_) fun hb8 hd => ?_)
 · exact .sr (.ks 1 r (.nilS [4] r r (.ret (pret results36 (.t r .n) (.refl _) ⟨false, r, hd⟩))))
 refine .skipS [1, 0] r r (.seq (.sr (.ks 1 r (.nilS [5, 1, 0] r r (.block (.loop hd (fun (s54 : Int) c w => ∃ I_, IH.le I I_ ∧ Ok ⟨26, [], none⟩ [(0, .slice p1 a0.length c2), (1, .slice p4 a1.length c5), (5, .int .i64 s54)] c ∧ Sym w0 M I I_ [] w) (fun c w ho hs => ⟨I, (.refl _), ho.sub ⟨r, r, r, trivial⟩, hs.pick .n⟩) ?_))))))
 rintro s54 next55 hd c w hst
 obtain ⟨I56, hl57, hok, hsym⟩ := hst
 replace R3 := R3.mono hl57
 replace R6 := R6.mono hl57
 refine Cod.at hok hsym (.seq (.sr (.ks 2 r (.len un30 r r r r (.ks 1 r (.nilS [14, 5, 1, 0] r r (.condP r hd (fun hb59 hd => ?_) fun hb59 hd => ?_)))))))
 · refine .skipS [5, 1, 0] r r (.seq (.block (.seq (.dr [0, 1, 2, 3, 4, 5, 6, 7, 8] 9 (.fk 2 r ?_)))))
   obtain ⟨h60, x61, hx62, hd⟩ := hd
   obtain ⟨b63, o64, cs65, e66, hC67, hr68⟩ := R3.2 _ _ hx62
   cases hr68
   refine .g r r r (fun _ => .ixa un30 sz3 r e66 r h60 (idx_lt hx62 h60) r r .mk) (.g r r r (fun _ => .ld1 (j := 0) ia3 hC67 r r r r r .mk) (.fk 2 r ?_))
   obtain ⟨h69, x70, hx71, hd⟩ := hd
   obtain ⟨b72, o73, cs74, e75, hC76, hr77⟩ := R6.2 _ _ hx71
   cases hr77
   refine .g r r r (fun _ => .ixa un30 sz3 r e75 r h69 (idx_lt hx71 h69) r r .mk) (.g r r r (fun _ => .ld1 (j := 0) ia3 hC76 r r r r r .mk) (.fk 1 r (.e2 9 (.nilS [25, 5, 1, 0] r r (.condP r hd (fun hb78 hd => ?_) fun hb78 hd => ?_)))))
   · exact .sr (.ks 1 r (.nilS [4] r r (.ret (pret results36 (.t r .n) hl57 ⟨false, r, hd⟩))))
   exact .skipS [5, 1, 0] r r (.region (.ks 3 r (.nil' fun c w ho hs => ⟨(w64 (s54 + 1)), hd, I56, hl57, ho.sub ⟨r, r, r, trivial⟩, hs.pick .n⟩)))
 exact .exitS [] r r (.sr (.ks 1 r (.nilS [4] r r (.ret (pret results36 (.t r .n) hl57 ⟨true, r, hd⟩)))))

theorem W_ref03_Has {I : IH} {a0 : List Int} {a1 : Int} {p1 : Option Addr} {c2 : Nat} {Q : Bool → Prop} (R3 : RepSl eU64 I p1 c2 a0) (hd : ref03_Has a0 a1 Q) :
  PFun prog 75 [.slice p1 a0.length c2, .int .i64 a1] I (fun _ => o0_ Q) := by
 refine Fun.enter func75 r ntmps75 r (.c (.c .n)) fun w0 M => ?_
 refine .sr (.ks 1 r (.nilS [1, 0] r r (.sr (.ks 3 r ?_))))
 refine splitP hd (fun hb4 hd => ?_) fun hb4 hd => ?_
 · rw [hb4]
   refine .ks 1 r (.gyes r r r (.quo r r (by decide) r r (.ks 1 r (.gyes r r r (.len un44 r r r r (.ks 3 r ?_))))))
   refine splitP hd (fun hb5 hd => ?_) fun hb5 hd => ?_
   · rw [hb5]
     refine .ks 2 r (.gyes r r r (.quo r r (by decide) r r ?_))
     obtain ⟨h6, x7, hx8, hd⟩ := hd
     obtain ⟨b9, o10, cs11, e12, hC13, hr14⟩ := R3.2 _ _ hx8
     cases hr14
     refine .gyes r r r (.ixa un44 sz96 r e12 r h6 (idx_lt hx8 h6) r r (.gyes r r r (.ld1 (j := 0) ia96 hC13 r r r r r (.ks 1 r (.gyes r r r (.rem r r (by decide) r r (.gyes r r r (.conv un3 underlying118 r r r ?_))))))))
     obtain ⟨hz15, hd⟩ := hd
     exact .gyes r r r (.shr' r r hz15 r r (.ks 4 r (.nilS [4] r r (.ret (pret results75 (.t r .n) (.refl _) ⟨((bnd .u64 (shr .u64 x7 (IntKind.wrap .u64 (a1.tmod 64))) 1) == 1), r, hd⟩)))))
   rw [hb5]
   exact .ks 13 r (.nilS [4] r r (.ret (pret results75 (.t r .n) (.refl _) ⟨false, r, hd⟩)))
 rw [hb4]
 exact .ks 20 r (.nilS [4] r r (.ret (pret results75 (.t r .n) (.refl _) ⟨false, r, hd⟩)))

theorem W_ref03_List {I : IH} {a0 : List Int} {p1 : Option Addr} {c2 : Nat} {Q : (List Int) → Prop} (R3 : RepSl eU64 I p1 c2 a0) (hd : ref03_List a0 Q) :
  PFun prog 37 [.slice p1 a0.length c2] I (o13_ Q) := by
 refine Fun.enter func37 r ntmps37 r (.c .n) fun w0 M => ?_
 refine .sr (.ks 1 r (.nilS [0] r r (.sr (.ks 1 r (.nilS [3, 0] r r (.seq (.sr (.ks 1 r (.nilS [4, 3, 0] r r ?_)))))))))
 refine .block (.own0 eI64 3 (.loop hd (fun (s : (List Int) × Int) c w => match s with | (s49, s53) => ∃ I_ p50 c51, IH.le I I_ ∧ Ok ⟨20, [], none⟩ [(0, .slice p1 a0.length c2), (3, .slice p50 s49.length c51), (4, .int .i64 s53)] c ∧ Sym w0 M I I_ [OwnSl eI64 3 p50 c51 s49] w) (fun c w ho hs => ⟨I, _, _, (.refl _), ho.sub ⟨r, r, r, trivial⟩, hs.pick (.c .z .n)⟩) ?_))
 rintro ⟨s49, s53⟩ next55 hd c w hst
 obtain ⟨I56, p50, c51, hl57, hok, hsym⟩ := hst
 replace R3 := R3.mono hl57
 refine Cod.at hok hsym (.seq (.sr (.ks 2 r (.len un44 r r r r (.ks 2 r (.nilS [9, 4, 3, 0] r r (.condP r hd (fun hb59 hd => ?_) fun hb59 hd => ?_)))))))
 · refine .skipS [4, 3, 0] r r (.seq (.block (.sr (.ks 2 r ?_))))
   have hw61 := W_ref03_Has (I := I56) R3 hd
   refine .callP call75 r hw61 r r fun v62 hv63 => ?_
   obtain ⟨r60, rfl, hd⟩ := hv63
   refine .nilS [14, 4, 3, 0] r r (.condP r hd (fun hb64 hd => ?_) fun hb64 hd => ?_)
   · refine .region (.ks 2 r (.buildSlice 1 un30 sz3 zv3 r r (.c r r r .n) r r fun b65 => ?_))
     obtain ⟨hl67, hd⟩ := hd
     refine .append (ys := [s53]) 8 (.s .z) un30 un30 IN3 r r r r r r r r r (.box .z (.one r) r) hl67 r r fun p68 c69 => ?_
     exact .ks 1 r (.nilS [3, 4, 0] r r (.drop (.s .z) (.region (.ks 3 r (.nil' fun c w ho hs => ⟨((s49 ++ ([s53])), w64 (s53 + 1)), hd, I56, _, _, hl57, ho.sub ⟨r, r, r, trivial⟩, hs.pick (.c .z .n)⟩)))))
   exact .skipS [4, 3, 0] r r (.region (.ks 3 r (.nil' fun c w ho hs => ⟨(s49, w64 (s53 + 1)), hd, I56, _, _, hl57, ho.sub ⟨r, r, r, trivial⟩, hs.pick (.c .z .n)⟩)))
 refine .exitS [3] r r (.sr (.ks 2 r (.nilS [2] r r (.pub .z fun I71 hl72 R73 => ?_))))
 have le74 := IH.le.trans hl57 hl72
 exact .ret (pret results37 (.t r .n) le74 ⟨s49, _, _, r, R73, hd⟩)

theorem W_prog_first {I : IH} {a0 : Plan} {a1 : Int} {p1 : Option Addr} {c2 : Nat} {Q : (Int × Bool) → Prop} (R3 : RepSl eI64 I p1 c2 a0.Draws) (hd : prog_first a0 a1 Q) :
  PFun prog 55 [.agg #[.int .i64 a0.Kind, .int .i64 a0.N, .int .i64 a0.Source, .int .i64 a0.Length, .slice p1 a0.Draws.length c2], .int .i64 a1] I (fun _ => o4_ Q) := by
 refine Fun.enter func55 r ntmps55 r (.c (.c .n)) fun w0 M => ?_
 refine .sr (.boxA r r r fun b6 => ?_)
 refine .ks 2 r (.nilS [2, 1] r r (.sr (.ks 1 r (.fa un25 r sz3 r (o := 2) r r r (.load1 ia3 r .z r r r (.ks 2 r (.nilS [6, 2, 1] r r (.seq (.block ?_)))))))))
 refine .sr (.fa un25 r sz22 r (o := 0) r r r (.load1 ia22 r .z r r r (.ks 2 r (.nilS [11, 6, 2, 1] r r (.condP r hd (fun hb8 hd => ?_) fun hb8 hd => ?_)))))
 · exact .sr (.ks 3 r (.nilS [5, 4] r r (.drop .z (.ret (pret results55 (.t r (.t r .n)) (.refl _) ⟨(a1, true), r, hd⟩)))))
 refine .sr (.fa un25 r sz22 r (o := 0) r r r (.load1 ia22 r .z r r r (.ks 2 r (.nilS [16, 6, 2] r r (.condP r hd (fun hb9 hd => ?_) fun hb9 hd => ?_)))))
 · exact .sr (.ks 2 r (.nilS [5, 4] r r (.drop .z (.ret (pret results55 (.t r (.t r .n)) (.refl _) ⟨(0, false), r, hd⟩)))))
 refine .seq ?_
 refine Cod.joinQ (σ := Bool) hd (fun (s12 : Bool) c w => ∃ I_, IH.le I I_ ∧ Ok ⟨39, [], none⟩ [(2, .pointer (some ⟨b6, 0, none⟩)), (6, .bool (a1 == a0.Source)), (20, .bool s12)] c ∧ Sym w0 M I I_ [pto b6 (.cells #[.int .i64 a0.Kind, .int .i64 a0.N, .int .i64 a0.Source, .int .i64 a0.Length, .slice p1 a0.Draws.length c2] 25 (0, 0))] w) (fun k13 hd => ?_) ?_
 · skip
   refine .region (.fa un25 r sz22 r (o := 0) r r r (.load1 ia22 r .z r r r (.ks 2 r ?_)))
   refine splitP hd (fun hb14 hd => ?_) fun hb14 hd => ?_
   · rw [hb14]
     exact .ks 3 r (.nil' fun c w ho hs => ⟨(a1 == a0.Source), hd, I, (.refl _), ho.sub ⟨r, r, r, trivial⟩, hs.pick (.c .z .n)⟩)
   rw [hb14]
   exact .ks 3 r (.nil' fun c w ho hs => ⟨false, hd, I, (.refl _), ho.sub ⟨r, r, r, trivial⟩, hs.pick (.c .z .n)⟩)
 rintro s12 hd c w hst
 obtain ⟨I15, hl16, hok, hsym⟩ := hst
 replace R3 := R3.mono hl16
 refine Cod.at hok hsym (.condP r hd (fun hb17 hd => ?_) fun hb17 hd => ?_)
 · exact .sr (.ks 2 r (.nilS [5, 4] r r (.drop .z (.ret (pret results55 (.t r (.t r .n)) hl16 ⟨(1, true), r, hd⟩)))))
 refine .seq ?_
 refine Cod.joinQ (σ := Bool × Bool) hd (fun (s : Bool × Bool) c w => match s with | (s20, s21) => ∃ I_, IH.le I15 I_ ∧ Ok ⟨39, [], none⟩ [(2, .pointer (some ⟨b6, 0, none⟩)), (6, .bool s20), (27, .bool s21)] c ∧ Sym w0 M I I_ [pto b6 (.cells #[.int .i64 a0.Kind, .int .i64 a0.N, .int .i64 a0.Source, .int .i64 a0.Length, .slice p1 a0.Draws.length c2] 25 (0, 0))] w) (fun k22 hd => ?_) ?_
 · skip
   refine .region (.ks 2 r ?_)
   refine splitP hd (fun hb23 hd => ?_) fun hb23 hd => ?_
   · rw [hb23]
     exact .ks 5 r (.nil' fun c w ho hs => ⟨(true, true), hd, I15, (.refl _), ho.sub ⟨r, r, r, trivial⟩, hs.pick (.c .z .n)⟩)
   rw [hb23]
   exact .gyes r r r (.fa un25 r sz22 r (o := 0) r r r (.gyes r r r (.load1 ia22 r .z r r r (.ks 3 r (.nil' fun c w ho hs => ⟨(false, a0.Kind == 4), hd, I15, (.refl _), ho.sub ⟨r, r, r, trivial⟩, hs.pick (.c .z .n)⟩)))))
 rintro ⟨s20, s21⟩ hd c w hst
 obtain ⟨I24, hl25, hok, hsym⟩ := hst
 have le26 := IH.le.trans hl16 hl25
 replace R3 := R3.mono hl25
 refine Cod.at hok hsym (.condP r hd (fun hb27 hd => ?_) fun hb27 hd => ?_)
 · exact .sr (.ks 3 r (.nilS [5, 4] r r (.drop .z (.ret (pret results55 (.t r (.t r .n)) le26 ⟨(0, s20), r, hd⟩)))))
 refine .sr (.fa un25 r sz22 r (o := 0) r r r (.load1 ia22 r .z r r r (.ks 2 r (.nilS [35] r r (.drop .z (.condP r hd (fun hb28 hd => ?_) fun hb28 hd => ?_))))))
 · exact .sr (.ks 2 r (.nilS [5, 4] r r (.ret (pret results55 (.t r (.t r .n)) le26 ⟨((-1), false), r, hd⟩))))
 exact .skipS [] r r (.sr (.ks 2 r (.nilS [5, 4] r r (.ret (pret results55 (.t r (.t r .n)) le26 ⟨(4611686018427387904, false), r, hd⟩)))))

theorem W_spvec_sure {I : IH} {a0 : Vec} {p1 : Option Addr} {c2 : Nat} {Q : Vec → Prop} (R3 : RepSl eItem I p1 c2 a0.Items) (hd : spvec_sure a0 Q) :
  PFun prog 102 [.agg #[.int .i64 a0.N, .slice p1 a0.Items.length c2]] I (o18_ Q) := by
 refine Fun.enter func102 r ntmps102 r (.c .n) fun w0 M => ?_
 refine .sr (.boxA r r r fun b11 => ?_)
 refine .allocA zv51 r r fun b13 => ?_
 refine .nilS [2, 1] r r (.seq (.sr (.loadW ia51 sz51 r (.s .z) r r r ?_)))
 have hw16 := W_spvec_Right (I := I) R3 hd
 refine .callP call61 r hw16 r r fun v17 hv18 => ?_
 obtain ⟨r15, rfl, hd⟩ := hv18
 refine .nilS [4, 2, 1] r r (.condP r hd (fun hb19 hd => ?_) fun hb19 hd => ?_)
 · exact .sr (.loadW ia51 sz51 r (.s .z) r r r (.storeA sz51 r r .z (.t (.t .nil)) r r (.nilS [2] r r (.drop (.s .z) (.ret (pret results102 (.w ia51 sz51 r .z r .n) (.refl _) ⟨a0, _, _, r, R3, hd⟩))))))
 exact .skipS [2] r r (.drop (.s .z) (.sr (.build zv51 un51 BI51 .n (by exact trivial) r r (.storeA sz51 r r .z (.t (.t .nil)) r r (.nilS [2] r r (.ret (pret results102 (.w ia51 sz51 r .z r .n) (.refl _) ⟨({ N := 0, Items := ([] : List Item) } : Vec), _, _, r, (.nil _ _ _), hd⟩)))))))

theorem W_spvec_order_7ac {I : IH} {a0 : Item} {a1 : Int} {Q : Int → Prop}  (hd : spvec_order_7ac a0 a1 Q) :
  Fun prog 124 #[.agg (encItem a0).toArray, .int .i64 a1] I [] (fun I_ v l => ∃ r, v = .int .i64 r ∧ l = [] ∧ Q r) := by
 refine Fun.enter (vs := [.agg (encItem a0).toArray, .int .i64 a1]) func124 r ntmps124 r (.c (.c .n)) fun w0 M => ?_
 refine .sr (.boxA r r r fun b1 => ?_)
 refine .ks 1 r (.nilS [2, 1] r r (.sr (.fa un71 r sz3 r (o := 0) r r r (.load1 ia3 r .z r r r (.ks 1 r ?_)))))
 have hw4 := W_cmp_Compare_int (I := I) hd
 refine .callP call137 r hw4 r r fun v5 hv6 => ?_
 obtain ⟨r3, rfl, hd⟩ := hv6
 exact .ks 1 r (.nilS [4] r r (.drop .z (.ret (oret results124 (.t r .n) (.refl _) .n ⟨r3, r, r, hd⟩))))

theorem W_slices_BinarySearchFunc_api_Item_api_Item_int_8a3 {I : IH} {a0 : List Item} {a1 : Int} {p1 : Option Addr} {c2 : Nat} {Q : (Int × Bool) → Prop} (R3 : RepSl eItem I p1 c2 a0) (hd : slices_BinarySearchFunc_api_Item_api_Item_int_8a3 a0 a1 Q) :
  Fun prog 123 #[.slice p1 a0.length c2, .int .i64 a1, .func (.func 124) #[] #[]] I [] (fun I_ v l => ∃ r, v = .tuple #[.int .i64 r.1, .bool r.2] ∧ l = [] ∧ Q r) := by
 refine Fun.enter (vs := [.slice p1 a0.length c2, .int .i64 a1, .func (.func 124) #[] #[]]) func123 r ntmps123 r (.c (.c (.c .n))) fun w0 M => ?_
 refine .sr (.ks 2 r (.nilS [2, 1, 0] r r (.sr (.ks 1 r (.len un49 r r r r (.ks 1 r (.nilS [8, 2, 1, 0] r r (.sr (.ks 3 r ?_)))))))))
 refine .nilS [10, 9, 8, 2, 1, 0] r r (.seq (.block (.loop hd (fun (s : Int × Int) c w => match s with | (s117, s118) => ∃ I_, IH.le I I_ ∧ Ok ⟨49, [], none⟩ [(0, .slice p1 a0.length c2), (1, .int .i64 a1), (2, .func (.func 124) #[] #[]), (8, .int .i64 (a0.length : Int)), (9, .int .i64 s117), (10, .int .i64 s118)] c ∧ Sym w0 M I I_ [] w) (fun c w ho hs => ⟨I, (.refl _), ho.sub ⟨r, r, r, r, r, r, trivial⟩, hs.pick .n⟩) ?_)))
 rintro ⟨s117, s118⟩ next119 hd c w hst
 obtain ⟨I120, hl121, hok, hsym⟩ := hst
 replace R3 := R3.mono hl121
 refine Cod.at hok hsym (.seq (.sr (.ks 3 r (.nilS [17, 10, 9, 8, 2, 1, 0] r r (.condP r hd (fun hb123 hd => ?_) fun hb123 hd => ?_)))))
 · refine .skipS [10, 9, 8, 2, 1, 0] r r (.block (.sr (.ks 3 r (.conv un3 underlying118 r r r (.shr' r r (by decide) r r (.conv underlying118 un3 r r r (.ks 1 r (.nilS [11, 10, 9, 8, 2, 1, 0] r r (.sr ?_)))))))))
   refine .ks 3 r ?_
   obtain ⟨h124, x125, hx126, hd⟩ := hd
   obtain ⟨b127, o128, cs129, e130, hC131, hr132⟩ := R3.2 _ _ hx126
   cases hr132
   refine .ixa un49 sz71 r e130 r h124 (idx_lt hx126 h124) r r (.ldW isAgg71 sz71 hC131 r r r r (.ks 1 r ?_))
   have hw133 := W_spvec_order_7ac (I := I120) (a0 := x125) (a1 := a1) hd
   refine .callS (.c call124 r r) .n hw133 r r fun v137 I134 l138 hl135 hv136 => ?_
   obtain ⟨r139, rfl, rfl, hd⟩ := hv136
   have le140 := IH.le.trans hl121 hl135
   replace R3 := R3.mono hl135
   replace hC131 := hC131.mono hl135
   refine .re (m' := []) r (.ks 1 r (.nilS [31, 11, 10, 9, 8, 2, 1, 0] r r (.condP r hd (fun hb141 hd => ?_) fun hb141 hd => ?_)))
   · exact .region (.ks 3 r (.nil' fun c w ho hs => ⟨(w64 ((w64 (shr .u64 (IntKind.wrap .u64 (w64 (s117 + s118))) 1)) + 1), s118), hd, I134, le140, ho.sub ⟨r, r, r, r, r, r, trivial⟩, hs.pick .n⟩))
   exact .region (.ks 2 r (.nil' fun c w ho hs => ⟨(s117, w64 (shr .u64 (IntKind.wrap .u64 (w64 (s117 + s118))) 1)), hd, I134, le140, ho.sub ⟨r, r, r, r, r, r, trivial⟩, hs.pick .n⟩))
 refine .exitS [9, 8, 2, 1, 0] r r (.sr (.ks 5 r ?_))
 refine splitP hd (fun hb142 hd => ?_) fun hb142 hd => ?_
 · rw [hb142]
   refine .ks 3 r ?_
   obtain ⟨h143, x144, hx145, hd⟩ := hd
   obtain ⟨b146, o147, cs148, e149, hC150, hr151⟩ := R3.2 _ _ hx145
   cases hr151
   refine .gyes r r r (.ixa un49 sz71 r e149 r h143 (idx_lt hx145 h143) r r (.gyes r r r (.ldW isAgg71 sz71 hC150 r r r r (.ks 1 r ?_))))
   have hw152 := W_spvec_order_7ac (I := I120) (a0 := x144) (a1 := a1) hd
   refine .gyes r r r (.callS (.c call124 r r) .n hw152 r r fun v156 I153 l157 hl154 hv155 => ?_)
   obtain ⟨r158, rfl, rfl, hd⟩ := hv155
   have le159 := IH.le.trans hl121 hl154
   replace R3 := R3.mono hl154
   replace hC150 := hC150.mono hl154
   exact .re (m' := []) r (.ks 4 r (.nilS [7, 6, 2] r r (.ret (oret results123 (.t r (.t r .n)) le159 .n ⟨(s117, r158 == 0), r, r, hd⟩))))
 rw [hb142]
 exact .ks 11 r (.nilS [7, 6, 2] r r (.ret (oret results123 (.t r (.t r .n)) hl121 .n ⟨(s117, false), r, r, hd⟩)))

theorem W_spvec_find {I : IH} {a0 : Vec} {a1 : Int} {p1 : Option Addr} {c2 : Nat} {Q : (Int × Bool) → Prop} (R3 : RepSl eItem I p1 c2 a0.Items) (hd : spvec_find a0 a1 Q) :
  PFun prog 103 [.agg #[.int .i64 a0.N, .slice p1 a0.Items.length c2], .int .i64 a1] I (fun _ => o4_ Q) := by
 refine Fun.enter func103 r ntmps103 r (.c (.c .n)) fun w0 M => ?_
 refine .sr (.boxA r r r fun b4 => ?_)
 refine .ks 2 r (.nilS [2, 1] r r (.sr (.fa un51 r sz49 r (o := 1) r r r (.load1 ia49 r .z r r r (.ks 1 r ?_)))))
 have hw6 := W_slices_BinarySearchFunc_api_Item_api_Item_int_8a3 (I := I) (a0 := a0.Items) (a1 := a1) R3 hd
 refine .callS (.f call123 r) .n hw6 r r fun v10 I7 l11 hl8 hv9 => ?_
 obtain ⟨r12, rfl, rfl, hd⟩ := hv9
 replace R3 := R3.mono hl8
 exact .re (m' := [pto b4 (.cells #[.int .i64 a0.N, .slice p1 a0.Items.length c2] 51 (0, 0))]) r (.ks 4 r (.nilS [5, 4] r r (.drop .z (.ret (pret results103 (.t r (.t r .n)) hl8 ⟨(r12.1, r12.2), r, hd⟩)))))

theorem W_spvec_Get {I : IH} {a0 : Vec} {a1 : Int} {p1 : Option Addr} {c2 : Nat} {Q : (Int × Bool) → Prop} (R3 : RepSl eItem I p1 c2 a0.Items) (hd : spvec_Get a0 a1 Q) :
  PFun prog 65 [.agg #[.int .i64 a0.N, .slice p1 a0.Items.length c2], .int .i64 a1] I (fun _ => o4_ Q) := by
 refine Fun.enter func65 r ntmps65 r (.c (.c .n)) fun w0 M => ?_
 refine .sr (.boxA r r r fun b6 => ?_)
 refine .ks 2 r (.nilS [2, 1] r r (.sr (.loadW ia51 sz51 r .z r r r ?_)))
 have hw27 := W_spvec_sure (I := I) R3 hd
 refine .call call102 r hw27 r r fun v22 I19 hl20 hv21 => ?_
 obtain ⟨r18, p24, c25, rfl, R26, hd⟩ := hv21
 replace R3 := R3.mono hl20
 refine .storeA sz51 r r .z (.t (.t .nil)) r r (.nilS [2, 1] r r (.sr (.loadW ia51 sz51 r .z r r r (.ks 1 r ?_))))
 have hw33 := W_spvec_find (I := I19) R26 hd
 refine .callP call103 r hw33 r r fun v34 hv35 => ?_
 obtain ⟨r32, rfl, hd⟩ := hv35
 refine .ks 5 r (.nilS [7, 6, 2] r r (.seq (.sr (.ks 2 r (.nilS [17, 6, 2] r r (.condP r hd (fun hb36 hd => ?_) fun hb36 hd => ?_))))))
 · exact .sr (.ks 2 r (.nilS [5, 4] r r (.drop .z (.ret (pret results65 (.t r (.t r .n)) hl20 ⟨(0, false), r, hd⟩)))))
 refine .skipS [6, 2] r r (.sr (.fa un51 r sz49 r (o := 1) r r r (.load1 ia49 r .z r r r (.ks 1 r ?_))))
 obtain ⟨h37, x38, hx39, hd⟩ := hd
 obtain ⟨b40, o41, cs42, e43, hC44, hr45⟩ := R26.2 _ _ hx39
 cases hr45
 exact .ixa un49 sz71 r e43 r h37 (idx_lt hx39 h37) r r (.fa un71 r sz2 r (o := o41 + r32.1.toNat * 2 + 1) r r r (.ld1 (j := 1) ia2 hC44 r r r r r (.ks 2 r (.nilS [5, 4] r r (.drop .z (.ret (pret results65 (.t r (.t r .n)) hl20 ⟨(x38.Val, true), r, hd⟩)))))))

theorem W_prog_behind {I : IH} {a0 : Plan} {a1 : State} {a2 : Int} {a3 : Int} {a4 : Int} {a5 : Bool} {p1 : Option Addr} {c2 : Nat} {p4 : Option Addr} {c5 : Nat} {p7 : Option Addr} {c8 : Nat} {p10 : Option Addr} {c11 : Nat} {Q : (Int × Int × Bool) → Prop} (R3 : RepSl eI64 I p1 c2 a0.Draws) (R6 : RepSl eI64 I p4 c5 a1.A) (R9 : RepSl eI64 I p7 c8 a1.B) (R12 : RepSl eU64 I p10 c11 a1.On) (hd : prog_behind a0 a1 a2 a3 a4 a5 Q) :
  PFun prog 66 [.agg #[.int .i64 a0.Kind, .int .i64 a0.N, .int .i64 a0.Source, .int .i64 a0.Length, .slice p1 a0.Draws.length c2], .agg #[.int .i64 a1.Low, .int .i64 a1.High, .slice p4 a1.A.length c5, .slice p7 a1.B.length c8, .slice p10 a1.On.length c11], .int .i64 a2, .int .i64 a3, .int .i64 a4, .bool a5] I (fun I_ v => ∃ r, v = .tuple #[.int .i64 r.1, .int .i64 r.2.1, .bool r.2.2] ∧ Q r) := by
 refine Fun.enter func66 r ntmps66 r (.c (.c (.c (.c (.c (.c .n)))))) fun w0 M => ?_
 refine .sr (.boxA r r r fun b17 => ?_)
 refine .boxA r r r fun b19 => ?_
 refine .ks 3 r (.nilS [7, 6, 5, 4, 3, 2] r r (.seq (.dr [0, 1, 2, 3, 4, 5, 6, 7, 8, 9, 10] 11 (.g r r r (fun _ => .fa un46 r sz23 r (o := 2) r r r .mk) (.g r r r (fun _ => .load1 ia23 r .z r r r .mk) (.fk 1 r ?_))))))
 obtain ⟨h39, x40, hx41, hd⟩ := hd
 obtain ⟨b42, o43, cs44, e45, hC46, hr47⟩ := R6.2 _ _ hx41
 cases hr47
 refine .g r r r (fun _ => .ixa un23 sz2 r e45 r h39 (idx_lt hx41 h39) r r .mk) (.g r r r (fun _ => .ld1 (j := 0) ia2 hC46 r r r r r .mk) (.g r r r (fun _ => .fa un46 r sz23 r (o := 3) r r r .mk) (.g r r r (fun _ => .load1 ia23 r .z r r r .mk) (.fk 1 r ?_))))
 obtain ⟨h48, x49, hx50, hd⟩ := hd
 obtain ⟨b51, o52, cs53, e54, hC55, hr56⟩ := R9.2 _ _ hx50
 cases hr56
 refine .g r r r (fun _ => .ixa un23 sz2 r e54 r h48 (idx_lt hx50 h48) r r .mk) (.g r r r (fun _ => .ld1 (j := 0) ia2 hC55 r r r r r .mk) (.fk 1 r (.e2 11 (.ks 1 r (.nilS [16, 15, 7, 6, 5, 4, 3, 2] r r (.seq (.sr (.fa un25 r sz22 r (o := 0) r r r (.load1 ia22 r (.s .z) r r r ?_)))))))))
 refine .nilS [28, 16, 15, 7, 6, 5, 4, 3, 2] r r (.block (.sr (.ks 2 r (.nilS [29, 28, 16, 15, 7, 6, 5, 4, 3, 2] r r (.condP r hd (fun hb57 hd => ?_) fun hb57 hd => ?_)))))
 · refine .sr (.ks 2 r ?_)
   refine splitP hd (fun hb58 hd => ?_) fun hb58 hd => ?_
   · rw [hb58]
     refine .ks 3 r (.nilS [35, 16, 15, 4, 2] r r (.drop .z (.drop .z (.condP r hd (fun hb59 hd => ?_) fun hb59 hd => ?_))))
     · exact .sr (.ks 5 r (.nilS [14, 13, 12] r r (.ret (pret results66 (.t r (.t r (.t r .n))) (.refl _) ⟨(a2, a4, true), r, hd⟩))))
     exact .skipS [16, 15] r r (.sr (.ks 5 r (.nilS [14, 13, 12] r r (.ret (pret results66 (.t r (.t r (.t r .n))) (.refl _) ⟨(x40, x49, false), r, hd⟩)))))
   rw [hb58]
   exact .ks 3 r (.nilS [35, 16, 15, 4, 2] r r (.drop .z (.drop .z (.condKF r r (.skipS [16, 15] r r (.sr (.ks 5 r (.nilS [14, 13, 12] r r (.ret (pret results66 (.t r (.t r (.t r .n))) (.refl _) ⟨(x40, x49, false), r, hd⟩))))))))))
 refine .seq ?_
 refine Cod.joinQ (σ := Bool) hd (fun (s62 : Bool) c w => ∃ I_, IH.le I I_ ∧ Ok ⟨91, [], none⟩ [(2, .int .i64 a2), (3, .int .i64 a3), (4, .int .i64 a4), (5, .bool a5), (6, .pointer (some ⟨b17, 0, none⟩)), (7, .pointer (some ⟨b19, 0, none⟩)), (15, .int .i64 x40), (16, .int .i64 x49), (28, .int .i64 a0.Kind), (38, .bool s62)] c ∧ Sym w0 M I I_ [pto b17 (.cells #[.int .i64 a0.Kind, .int .i64 a0.N, .int .i64 a0.Source, .int .i64 a0.Length, .slice p1 a0.Draws.length c2] 25 (0, 0)), pto b19 (.cells #[.int .i64 a1.Low, .int .i64 a1.High, .slice p4 a1.A.length c5, .slice p7 a1.B.length c8, .slice p10 a1.On.length c11] 46 (0, 0))] w) (fun k63 hd => ?_) ?_
 · skip
   refine .sr (.ks 2 r (.nilS [38, 28, 16, 15, 7, 6, 5, 4, 3, 2] r r (.condP r hd (fun hb64 hd => ?_) fun hb64 hd => ?_)))
   · exact .skip' fun c w ho hs => ⟨(a0.Kind == 2), hd, I, (.refl _), ho.sub ⟨r, r, r, r, r, r, r, r, r, r, trivial⟩, hs.pick (.c (.s .z) (.c .z .n))⟩
   exact .region (.ks 2 r (.nil' fun c w ho hs => ⟨(a0.Kind == 3), hd, I, (.refl _), ho.sub ⟨r, r, r, r, r, r, r, r, r, r, trivial⟩, hs.pick (.c (.s .z) (.c .z .n))⟩))
 rintro s62 hd c w hst
 obtain ⟨I65, hl66, hok, hsym⟩ := hst
 replace R3 := R3.mono hl66
 replace R6 := R6.mono hl66
 replace R9 := R9.mono hl66
 replace R12 := R12.mono hl66
 refine Cod.at hok hsym (.condP r hd (fun hb67 hd => ?_) fun hb67 hd => ?_)
 · refine .sr (.ks 2 r ?_)
   refine splitP hd (fun hb68 hd => ?_) fun hb68 hd => ?_
   · rw [hb68]
     refine .ks 4 r (.nilS [46, 16, 15, 4] r r (.drop .z (.drop .z (.condP r hd (fun hb69 hd => ?_) fun hb69 hd => ?_))))
     · exact .sr (.ks 5 r (.nilS [14, 13, 12] r r (.ret (pret results66 (.t r (.t r (.t r .n))) hl66 ⟨(a4, x49, true), r, hd⟩))))
     exact .skipS [16, 15] r r (.sr (.ks 5 r (.nilS [14, 13, 12] r r (.ret (pret results66 (.t r (.t r (.t r .n))) hl66 ⟨(x40, x49, false), r, hd⟩)))))
   rw [hb68]
   exact .ks 4 r (.nilS [46, 16, 15, 4] r r (.drop .z (.drop .z (.condKF r r (.skipS [16, 15] r r (.sr (.ks 5 r (.nilS [14, 13, 12] r r (.ret (pret results66 (.t r (.t r (.t r .n))) hl66 ⟨(x40, x49, false), r, hd⟩))))))))))
 refine .sr (.ks 2 r (.nilS [49, 28, 16, 15, 7, 6, 5, 4, 3, 2] r r (.condP r hd (fun hb70 hd => ?_) fun hb70 hd => ?_)))
 · exact .sr (.ks 7 r (.nilS [14, 13, 12] r r (.drop .z (.drop .z (.ret (pret results66 (.t r (.t r (.t r .n))) hl66 ⟨(a4, x49, a4 != 0), r, hd⟩))))))
 refine .sr (.ks 2 r (.nilS [55, 16, 15, 7, 6, 5, 4, 3, 2] r r (.condP r hd (fun hb71 hd => ?_) fun hb71 hd => ?_)))
 · refine .block (.sr (.ks 3 r (.nilS [57, 16, 15, 7, 6, 5, 4, 3, 2] r r (.condP r hd (fun hb72 hd => ?_) fun hb72 hd => ?_))))
   · exact .skipS [16, 15] r r (.drop .z (.drop .z (.sr (.ks 5 r (.nilS [14, 13, 12] r r (.ret (pret results66 (.t r (.t r (.t r .n))) hl66 ⟨(x40, x49, false), r, hd⟩)))))))
   refine .seq ?_
   refine Cod.joinQ (σ := Bool) hd (fun (s75 : Bool) c w => ∃ I_, IH.le I65 I_ ∧ Ok ⟨91, [], none⟩ [(2, .int .i64 a2), (3, .int .i64 a3), (4, .int .i64 a4), (5, .bool a5), (6, .pointer (some ⟨b17, 0, none⟩)), (7, .pointer (some ⟨b19, 0, none⟩)), (15, .int .i64 x40), (16, .int .i64 x49), (60, .bool s75)] c ∧ Sym w0 M I I_ [pto b17 (.cells #[.int .i64 a0.Kind, .int .i64 a0.N, .int .i64 a0.Source, .int .i64 a0.Length, .slice p1 a0.Draws.length c2] 25 (0, 0)), pto b19 (.cells #[.int .i64 a1.Low, .int .i64 a1.High, .slice p4 a1.A.length c5, .slice p7 a1.B.length c8, .slice p10 a1.On.length c11] 46 (0, 0))] w) (fun k76 hd => ?_) ?_
   · skip
     refine .region (.ks 4 r ?_)
     refine splitP hd (fun hb77 hd => ?_) fun hb77 hd => ?_
     · rw [hb77]
       exact .ks 3 r (.nil' fun c w ho hs => ⟨a5, hd, I65, (.refl _), ho.sub ⟨r, r, r, r, r, r, r, r, r, trivial⟩, hs.pick (.c .z (.c .z .n))⟩)
     rw [hb77]
     exact .ks 3 r (.nil' fun c w ho hs => ⟨false, hd, I65, (.refl _), ho.sub ⟨r, r, r, r, r, r, r, r, r, trivial⟩, hs.pick (.c .z (.c .z .n))⟩)
   rintro s75 hd c w hst
   obtain ⟨I78, hl79, hok, hsym⟩ := hst
   have le80 := IH.le.trans hl66 hl79
   replace R3 := R3.mono hl79
   replace R6 := R6.mono hl79
   replace R9 := R9.mono hl79
   replace R12 := R12.mono hl79
   refine Cod.at hok hsym (.condP r hd (fun hb81 hd => ?_) fun hb81 hd => ?_)
   · exact .sr (.ks 4 r (.nilS [14, 13, 12] r r (.drop .z (.drop .z (.ret (pret results66 (.t r (.t r (.t r .n))) le80 ⟨(2, x49, false), r, hd⟩))))))
   refine .seq (.dr [0, 1, 2, 3, 4, 5, 6, 7, 8, 9, 11, 12, 13, 14, 10, 15, 16, 17, 18, 19] 20 (.fk 4 r ?_))
   refine splitP hd (fun hb82 hd => ?_) fun hb82 hd => ?_
   · refine .g r r r (fun _ => .gyes r r hb82 (.move r r r .mk)) (.g r r r (fun _ => .gyes r r hb82 (.not r r r .mk)) (.g r r r (fun _ => .gyes r r hb82 (.move r r r .mk)) ?_))
     refine splitP hd (fun hb83 hd => ?_) fun hb83 hd => ?_
     · refine .g r r r (fun _ => .gno r r hb83 r r .mk) (.g r r r (fun _ => .gno r r hb83 r r .mk) (.g r r r (fun _ => .gno r r hb83 r r .mk) (.g r r r (fun _ => .gno r r hb83 r r .mk) (.g r r r (fun _ => .gno r r hb83 r r .mk) (.g r r r (fun _ => .gno r r hb83 r r .mk) (.g r r r (fun _ => .gno r r hb83 r r .mk) (.g r r r (fun _ => .gno r r hb83 r r .mk) (.g r r r (fun _ => .gno r r hb83 r r .mk) (.g r r r (fun _ => .gno r r hb83 r r .mk) ?_)))))))))
       refine .g r r r (fun _ => .gyes r r hb82 (.pickT r hb83 r r r .mk)) (.g r r r (fun _ => .pickT r hb82 r r r .mk) (.fk 1 r (.e2 20 (.nilS [68, 16, 15] r r (.drop .z (.drop .z (.condKT r r (.sr (.ks 4 r ?_)))))))))
       exact .nilS [14, 13, 12] r r (.ret (pret results66 (.t r (.t r (.t r .n))) le80 ⟨(1, x49, true), r, hd⟩))
     refine .g r r r (fun _ => .gyes r r hb83 (.move r r r .mk)) (.g r r r (fun _ => .gyes r r hb83 (.loadW ia25 sz25 r .z r r r .mk)) (.g r r r (fun _ => .gyes r r hb83 (.move r r r .mk)) (.g r r r (fun _ => .gyes r r hb83 (.fa un46 r sz3 r (o := 0) r r r .mk)) (.g r r r (fun _ => .gyes r r hb83 (.load1 ia3 r (.s .z) r r r .mk)) (.g r r r (fun _ => .gyes r r hb83 (.move r r r .mk)) (.g r r r (fun _ => .gyes r r hb83 (.add r r r r .mk)) (.ww r fun ex => ?_)))))))
     have hw85 := W_prog_draw (I := I78) hd
     refine .gyes r r hb83 (.callP call104 r hw85 r r fun v86 hv87 => ?_)
     obtain ⟨r84, rfl, hd⟩ := hv87
     refine .so 2 r r r (.cg r r r r (fun _ => .gyes r r hb83 (.add r r r r .mk)) (.cg r r r r (fun _ => .gyes r r hb83 (.move r r r .mk)) (.cg r r r r (fun _ => .gyes r r hb83 (.load1 ia3 r (.s .z) r r r .mk)) (.cg r r r r (fun _ => .gyes r r hb83 (.fa un46 r sz3 r (o := 0) r r r .mk)) (.cg r r r r (fun _ => .gyes r r hb83 (.loadW ia25 sz25 r .z r r r .mk)) (.cg r r r r (fun _ => .gyes r r hb83 (.move r r r .mk)) trivial)))))) (.ww r fun ex => ?_)
     have hw89 := W_prog_number (I := I78) R3 hd
     refine .gyes r r hb83 (.callP call52 r hw89 r r fun v90 hv91 => ?_)
     obtain ⟨r88, rfl, hd⟩ := hv91
     refine .so 2 r r r (.cg r r r r (fun _ => .gyes r r hb83 (.move r r r .mk)) trivial) (.g r r r (fun _ => .gyes r r hb83 (.gt r r r r .mk)) (.g r r r (fun _ => .gyes r r hb82 (.pickF r hb83 r r r .mk)) (.g r r r (fun _ => .pickT r hb82 r r r .mk) (.fk 1 r (.e2 20 (.nilS [68, 16, 15] r r (.drop .z (.drop .z (.condP r hd (fun hb92 hd => ?_) fun hb92 hd => ?_)))))))))
     · exact .sr (.ks 4 r (.nilS [14, 13, 12] r r (.ret (pret results66 (.t r (.t r (.t r .n))) le80 ⟨(1, x49, true), r, hd⟩))))
     exact .skipS [16, 15] r r (.sr (.ks 5 r (.nilS [14, 13, 12] r r (.ret (pret results66 (.t r (.t r (.t r .n))) le80 ⟨(x40, x49, false), r, hd⟩)))))
   refine .g r r r (fun _ => .gno r r hb82 r r .mk) (.g r r r (fun _ => .gno r r hb82 r r .mk) (.g r r r (fun _ => .gno r r hb82 r r .mk) (.fk 10 r (.g r r r (fun _ => .gno r r hb82 r r .mk) (.g r r r (fun _ => .pickF r hb82 r r r .mk) (.fk 1 r (.e2 20 (.nilS [68, 16, 15] r r (.drop .z ?_)))))))))
   exact .drop .z (.condKF r r (.skipS [16, 15] r r (.sr (.ks 5 r (.nilS [14, 13, 12] r r (.ret (pret results66 (.t r (.t r (.t r .n))) le80 ⟨(x40, x49, false), r, hd⟩)))))))
 exact .skipS [16, 15] r r (.drop .z (.drop .z (.sr (.ks 5 r (.nilS [14, 13, 12] r r (.ret (pret results66 (.t r (.t r (.t r .n))) hl66 ⟨(x40, x49, false), r, hd⟩)))))))

theorem W_prog_Begin_1_d27 {I : IH} {o0 : Plan} {o1 : Int} {a0 : Int} {b3 : Nat} {p4 : Option Addr} {c5 : Nat} {b7 : Nat} {Q : (Int × Int × Bool) → Prop} (R6 : RepSl eI64 I p4 c5 o0.Draws) (hd : prog_Begin_1_d27 o0 o1 a0 Q) :
  Fun prog 54 #[.int .i64 a0, .pointer (some ⟨b3, 0, none⟩), .pointer (some ⟨b7, 0, none⟩)] I [pto b3 (.cells #[.int .i64 o0.Kind, .int .i64 o0.N, .int .i64 o0.Source, .int .i64 o0.Length, .slice p4 o0.Draws.length c5] 25 (0, 0)), pto b7 (.cells #[.int .i64 o1] 3 (0, 0))] (fun I_ v l => ∃ r, v = .tuple #[.int .i64 r.1, .int .i64 r.2.1, .bool r.2.2] ∧ l = [pto b3 (.cells #[.int .i64 o0.Kind, .int .i64 o0.N, .int .i64 o0.Source, .int .i64 o0.Length, .slice p4 o0.Draws.length c5] 25 (0, 0)), pto b7 (.cells #[.int .i64 o1] 3 (0, 0))] ∧ Q r) := by
 refine Fun.enter (vs := [.int .i64 a0, .pointer (some ⟨b3, 0, none⟩), .pointer (some ⟨b7, 0, none⟩)]) func54 r ntmps54 r (.c (.c (.c .n))) fun w0 M => ?_
 refine .sr (.ks 3 r (.nilS [2, 1, 0] r r (.sr (.loadW ia25 sz25 r .z r r r (.load1 ia3 r (.s .z) r r r (.ks 2 r ?_))))))
 have hw9 := W_prog_first (I := I) R6 hd
 refine .callP call55 r hw9 r r fun v10 hv11 => ?_
 obtain ⟨r8, rfl, hd⟩ := hv11
 exact .ks 5 r (.nilS [8, 7, 2, 1] r r (.sr (.ks 5 r (.nilS [6, 5, 4, 2, 1] r r (.ret (oret results54 (.t r (.t r (.t r .n))) (.refl _) (.c .z (.c .z .n)) ⟨(r8.1, (-1), r8.2), r, r, hd⟩))))))

theorem W_prog_changed_b13 {I : IH} {o0 : Plan} {o1 : Int} {a0 : State} {a1 : Int} {b3 : Nat} {p4 : Option Addr} {c5 : Nat} {b7 : Nat} {p8 : Option Addr} {c9 : Nat} {p11 : Option Addr} {c12 : Nat} {p14 : Option Addr} {c15 : Nat} {Q : State → Prop} (R6 : RepSl eI64 I p4 c5 o0.Draws) (R10 : RepSl eI64 I p8 c9 a0.A) (R13 : RepSl eI64 I p11 c12 a0.B) (R16 : RepSl eU64 I p14 c15 a0.On) (hd : prog_changed_b13 o0 o1 a0 a1 Q) :
  Fun prog 53 #[.agg #[.int .i64 a0.Low, .int .i64 a0.High, .slice p8 a0.A.length c9, .slice p11 a0.B.length c12, .slice p14 a0.On.length c15], .int .i64 a1, .func (.func 54) #[] #[.pointer (some ⟨b3, 0, none⟩), .pointer (some ⟨b7, 0, none⟩)]] I [pto b3 (.cells #[.int .i64 o0.Kind, .int .i64 o0.N, .int .i64 o0.Source, .int .i64 o0.Length, .slice p4 o0.Draws.length c5] 25 (0, 0)), pto b7 (.cells #[.int .i64 o1] 3 (0, 0))] (fun I_ v l => ∃ r p17 c18 p20 c21 p23 c24, v = .agg #[.int .i64 r.Low, .int .i64 r.High, .slice p17 r.A.length c18, .slice p20 r.B.length c21, .slice p23 r.On.length c24] ∧ RepSl eI64 I_ p17 c18 r.A ∧ RepSl eI64 I_ p20 c21 r.B ∧ RepSl eU64 I_ p23 c24 r.On ∧ l = [pto b3 (.cells #[.int .i64 o0.Kind, .int .i64 o0.N, .int .i64 o0.Source, .int .i64 o0.Length, .slice p4 o0.Draws.length c5] 25 (0, 0)), pto b7 (.cells #[.int .i64 o1] 3 (0, 0))] ∧ Q r) := by
 refine Fun.enter (vs := [.agg #[.int .i64 a0.Low, .int .i64 a0.High, .slice p8 a0.A.length c9, .slice p11 a0.B.length c12, .slice p14 a0.On.length c15], .int .i64 a1, .func (.func 54) #[] #[.pointer (some ⟨b3, 0, none⟩), .pointer (some ⟨b7, 0, none⟩)]]) func53 r ntmps53 r (.c (.c (.c .n))) fun w0 M => ?_
 refine .sr (.boxA r r r fun b21 => ?_)
 refine .allocA zv46 r r fun b23 => ?_
 refine .nilS [6, 3, 2, 1] r r (.sr (.fa un46 r sz3 r (o := 0) r r r (.load1 ia3 r (.s .z) r r r (.fa un46 r sz3 r (o := 1) r r r (.load1 ia3 r (.s .z) r r r (.build zv46 un46 BI46 (.c r r r (.t .nil) (.c r r r (.s (.t .nil)) .n)) (by exact ⟨⟨_, _, r, r, r⟩, ⟨⟨_, _, r, r, r⟩, trivial⟩⟩) r r (.allocA zv46 r r fun b27 => ?_)))))))
 refine .storeA sz46 r r .z (.t (.t (.t (.t (.t .nil))))) r r (.nilS [7, 6, 2, 1] r r (.drop (.s (.s .z)) (.sr (.ks 1 r (.nilS [8, 7, 6, 2, 1] r r (.seq (.sr (.ks 2 r (.nilS [19, 18, 8, 7, 6, 2, 1] r r ?_)))))))))
 refine .block (.own0 eI64 2 (.own0 eI64 2 (.own0 eI64 3 (.loop hd (fun (s : (List Int) × (List Int) × (List Int) × Int) c w => match s with | (s141, s145, s149, s153) => ∃ I_ p142 c143 p146 c147 p150 c151, IH.le I I_ ∧ Ok ⟨52, [], none⟩ [(1, .int .i64 a1), (2, .func (.func 54) #[] #[.pointer (some ⟨b3, 0, none⟩), .pointer (some ⟨b7, 0, none⟩)]), (6, .pointer (some ⟨b23, 0, none⟩)), (7, .pointer (some ⟨b27, 0, none⟩)), (8, .slice p150 s149.length c151), (18, .int .i64 a1), (19, .int .i64 s153)] c ∧ Sym w0 M I I_ [pto b3 (.cells #[.int .i64 o0.Kind, .int .i64 o0.N, .int .i64 o0.Source, .int .i64 o0.Length, .slice p4 o0.Draws.length c5] 25 (0, 0)), pto b7 (.cells #[.int .i64 o1] 3 (0, 0)), pto b23 (.cells #[.int .i64 0, .int .i64 0, .slice none 0 0, .slice none 0 0, .slice none 0 0] 46 (0, 0)), pto b27 (.cells #[.int .i64 a0.Low, .int .i64 a0.High, .slice p142 s141.length c143, .slice p146 s145.length c147, .slice none 0 0] 46 (0, 0)), OwnSl eI64 2 p142 c143 s141, OwnSl eI64 2 p146 c147 s145, OwnSl eI64 3 p150 c151 s149] w) (fun c w ho hs => ⟨I, _, _, _, _, _, _, (.refl _), ho.sub ⟨r, r, r, r, r, r, r, trivial⟩, hs.pick (.c (.s (.s (.s (.s (.s .z))))) (.c (.s (.s (.s (.s (.s .z))))) (.c (.s (.s (.s (.s .z)))) (.c (.s (.s (.s .z))) (.c (.s (.s .z)) (.c (.s .z) (.c .z .n)))))))⟩) ?_))))
 rintro ⟨s141, s145, s149, s153⟩ next157 hd c w hst
 obtain ⟨I158, p142, c143, p146, c147, p150, c151, hl159, hok, hsym⟩ := hst
 replace R6 := R6.mono hl159
 refine Cod.at hok hsym (.sr (.ks 1 r (.nilS [20, 19, 18, 8, 7, 6, 2, 1] r r (.seq (.condP r hd (fun hb161 hd => ?_) fun hb161 hd => ?_)))))
 · refine .skipS [19, 18, 8, 7, 6, 2, 1] r r (.seq (.block (.sr (.ks 2 r (.nilS [9, 19, 18, 8, 7, 6, 2, 1] r r (.sr (.ks 2 r ?_)))))))
   have hw170 := W_prog_Begin_1_d27 (I := I158) (o0 := o0) (o1 := o1) (a0 := s153) (b3 := b3) (p4 := p4) (c5 := c5) (b7 := b7) R6 hd
   refine .callS (.c call54 r r) (.c .z (.c .z .n)) hw170 r r fun v174 I171 l175 hl172 hv173 => ?_
   obtain ⟨r176, rfl, rfl, hd⟩ := hv173
   have le177 := IH.le.trans hl159 hl172
   replace R6 := R6.mono hl172
   refine .re (m' := [pto b3 (.cells #[.int .i64 o0.Kind, .int .i64 o0.N, .int .i64 o0.Source, .int .i64 o0.Length, .slice p4 o0.Draws.length c5] 25 (0, 0)), pto b7 (.cells #[.int .i64 o1] 3 (0, 0)), pto b23 (.cells #[.int .i64 0, .int .i64 0, .slice none 0 0, .slice none 0 0, .slice none 0 0] 46 (0, 0)), pto b27 (.cells #[.int .i64 a0.Low, .int .i64 a0.High, .slice p142 s141.length c143, .slice p146 s145.length c147, .slice none 0 0] 46 (0, 0)), OwnSl eI64 2 p142 c143 s141, OwnSl eI64 2 p146 c147 s145, OwnSl eI64 3 p150 c151 s149]) r (.ks 7 r (.nilS [12, 11, 10, 9, 19, 18, 8, 7, 6, 2, 1] r r (.seq (.dr [0, 1, 2, 5, 6, 7, 8, 3, 4, 10, 999, 9, 11] 12 (.g r r r (fun _ => .fa un46 r sz23 r (o := 2) r r r .mk) (.g r r r (fun _ => .load1 ia23 r (.s (.s (.s .z))) r r r .mk) (.fk 1 r (.g r r r (fun _ => .fa un46 r sz23 r (o := 3) r r r .mk) (.g r r r (fun _ => .load1 ia23 r (.s (.s (.s .z))) r r r .mk) ?_)))))))))
   refine .fk 1 r (.a (fun b => .slice (some ⟨b, 0, none⟩) 1 1) (fun b => pto b (.cells #[.int .i64 r176.2.1] 2 (0, 0))) r r r r (fun _ L hL ex => .buildSlice 1 un23 sz2 zv2 r r (.c r r r .n) r r fun b => .mk (val := fun b => .slice (some ⟨b, 0, none⟩) 1 1) (atom := fun b => pto b (.cells #[.int .i64 r176.2.1] 2 (0, 0))) hL b) (.ww r fun ex => ?_))
   refine .buildSlice 1 un23 sz2 zv2 r r (.c r r r .n) r r fun b179 => ?_
   refine .so 8 r r r (.ck 1 r r (.cg r r r r (fun _ => .load1 ia23 r (.s (.s (.s (.s .z)))) r r r .mk) (.cg r r r r (fun _ => .fa un46 r sz23 r (o := 3) r r r .mk) (.cg r r r r (fun _ => .load1 ia23 r (.s (.s (.s (.s .z)))) r r r .mk) (.cg r r r r (fun _ => .fa un46 r sz23 r (o := 2) r r r .mk) trivial))))) (.ww r fun ex => ?_)
   obtain ⟨hl181, hd⟩ := hd
   refine .append (ys := [r176.1]) 8 (.s (.s (.s (.s (.s .z))))) un23 un23 IN2 r r r r r r r r r (.box .z (.one r) r) hl181 r r fun p182 c183 => ?_
   refine .so 8 r r r (.ck 1 r r (.cg r r r r (fun _ => .load1 ia23 r (.s (.s (.s (.s (.s .z))))) r r r .mk) (.cg r r r r (fun _ => .fa un46 r sz23 r (o := 3) r r r .mk) trivial))) (.g r r r (fun _ => .fa un46 r sz23 r (o := 2) r r r .mk) (.b r fun b185 => DrawD.nop (.ww r fun ex => ?_)))
   obtain ⟨hl186, hd⟩ := hd
   refine .append (ys := [r176.2.1]) 8 (.s (.s (.s (.s (.s (.s .z)))))) un23 un23 IN2 r r r r r r r r r (.box (.s (.s (.s (.s (.s (.s (.s (.s .z)))))))) (.one r) r) hl186 r r fun p187 c188 => ?_
   refine .so 9 r r r (.cg r r r r (fun _ => .fa un46 r sz23 r (o := 2) r r r .mk) trivial) (.ww r fun ex => ?_)
   refine .store1 sz23 r r (.s (.s (.s (.s (.s (.s .z)))))) (.s (.s (.t .nil))) r (.sn 9 r r r trivial (.e2 12 (.fa un46 r sz23 r (o := 3) r r r (.store1 sz23 r r (.s (.s (.s (.s (.s (.s .z)))))) (.s (.s (.s (.t .nil)))) r (.nilS [12, 9, 19, 18, 8, 7, 6, 2, 1] r r (.drop (.s (.s .z)) (.drop (.s (.s (.s (.s (.s (.s (.s .z))))))) (.sr (.ks 1 r ?_)))))))))
   refine .nilS [41, 9, 19, 18, 8, 7, 6, 2, 1] r r (.condP r hd (fun hb190 hd => ?_) fun hb190 hd => ?_)
   · refine .region (.ks 2 r (.buildSlice 1 un30 sz3 zv3 r r (.c r r r .n) r r fun b191 => ?_))
     obtain ⟨hl193, hd⟩ := hd
     refine .append (ys := [s153]) 8 (.s (.s (.s (.s (.s (.s (.s .z))))))) un30 un30 IN3 r r r r r r r r r (.box .z (.one r) r) hl193 r r fun p194 c195 => ?_
     exact .ks 1 r (.nilS [8, 19, 18, 7, 6, 2, 1] r r (.drop (.s .z) (.region (.ks 2 r (.nil' fun c w ho hs => ⟨((s141 ++ ([r176.1])), (s145 ++ ([r176.2.1])), (s149 ++ ([s153])), w64 (s153 + 1)), hd, I171, _, _, _, _, _, _, le177, ho.sub ⟨r, r, r, r, r, r, r, trivial⟩, hs.pick (.c (.s (.s (.s .z))) (.c (.s (.s (.s .z))) (.c (.s (.s (.s .z))) (.c (.s (.s (.s .z))) (.c (.s (.s .z)) (.c (.s .z) (.c .z .n)))))))⟩)))))
   exact .skipS [19, 18, 8, 7, 6, 2, 1] r r (.region (.ks 2 r (.nil' fun c w ho hs => ⟨((s141 ++ ([r176.1])), (s145 ++ ([r176.2.1])), s149, w64 (s153 + 1)), hd, I171, _, _, _, _, _, _, le177, ho.sub ⟨r, r, r, r, r, r, r, trivial⟩, hs.pick (.c (.s (.s .z)) (.c (.s (.s .z)) (.c (.s (.s .z)) (.c (.s (.s .z)) (.c (.s .z) (.c .z (.c .z .n)))))))⟩)))
 refine .exitS [8, 7, 6, 2, 1] r r (.sr (.ks 2 r (.pub (.s (.s (.s (.s (.s (.s .z)))))) fun I197 hl198 R199 => ?_)))
 have le200 := IH.le.trans hl159 hl198
 replace R6 := R6.mono hl198
 have hw210 := W_flags_Of (I := I197) R199 hd
 refine .call call79 r hw210 r r fun v205 I202 hl203 hv204 => ?_
 obtain ⟨r201, p207, c208, rfl, R209, hd⟩ := hv204
 have le211 := IH.le.trans le200 hl203
 replace R6 := R6.mono hl203
 replace R199 := R199.mono hl203
 refine .fa un46 r sz44 r (o := 4) r r r (.store1 sz44 r r (.s (.s (.s .z))) (.s (.s (.s (.s (.t .nil))))) r (.nilS [7, 6, 2] r r (.sr (.loadW ia46 sz46 r (.s (.s (.s .z))) r r r (.storeA sz46 r r (.s (.s .z)) (.t (.t (.t (.t (.t .nil))))) r r (.nilS [6, 2] r r (.drop (.s (.s (.s .z))) (.pub (.s (.s (.s (.s .z)))) fun I212 hl213 R214 => ?_))))))))
 have le215 := IH.le.trans le211 hl213
 replace R6 := R6.mono hl213
 replace R209 := R209.mono hl213
 refine .pub (.s (.s (.s .z))) fun I216 hl217 R218 => ?_
 have le219 := IH.le.trans le215 hl217
 replace R6 := R6.mono hl217
 replace R209 := R209.mono hl217
 replace R214 := R214.mono hl217
 exact .ret (oret results53 (.w ia46 sz46 r (.s (.s .z)) r .n) le219 (.c .z (.c .z .n)) ⟨({ Low := a0.Low, High := a0.High, A := s141, B := s145, On := r201 } : State), _, _, _, _, _, _, r, R218, R214, R209, r, hd⟩)

theorem W_prog_Begin {I : IH} {a0 : Plan} {a1 : Int} {a2 : Int} {p1 : Option Addr} {c2 : Nat} {Q : State → Prop} (R3 : RepSl eI64 I p1 c2 a0.Draws) (hd : prog_Begin a0 a1 a2 Q) :
  PFun prog 18 [.agg #[.int .i64 a0.Kind, .int .i64 a0.N, .int .i64 a0.Source, .int .i64 a0.Length, .slice p1 a0.Draws.length c2], .int .i64 a1, .int .i64 a2] I (o16_ Q) := by
 refine Fun.enter func18 r ntmps18 r (.c (.c (.c .n))) fun w0 M => ?_
 refine .sr (.boxA r r r fun b19 => ?_)
 refine .box1 r r r r fun b21 => ?_
 refine .allocA zv46 r r fun b23 => ?_
 refine .nilS [6, 4, 3, 2] r r (.seq (.sr (.loadW ia25 sz25 r (.s (.s .z)) r r r ?_)))
 have hw34 := W_prog_Right (I := I) R3 hd
 refine .callP call10 r hw34 r r fun v35 hv36 => ?_
 obtain ⟨r33, rfl, hd⟩ := hv36
 refine .ks 2 r ?_
 refine splitP hd (fun hb37 hd => ?_) fun hb37 hd => ?_
 · rw [hb37]
   exact .ks 14 r (.nilS [25, 6, 4, 3, 2] r r (.condKT r r (.sr (.build zv46 un46 BI46 .n (by exact trivial) r r (.storeA sz46 r r .z (.t (.t (.t (.t (.t .nil))))) r r (.nilS [6] r r (.drop (.s .z) (.drop (.s .z) (.ret (pret results18 (.w ia46 sz46 r .z r .n) (.refl _) ⟨({ Low := 0, High := 0, A := ([] : List Int), B := ([] : List Int), On := ([] : List Int) } : State), _, _, _, _, _, _, r, (.nil _ _ _), (.nil _ _ _), (.nil _ _ _), hd⟩))))))))))
 rw [hb37]
 refine .gyes r r r (.load1 ia3 r (.s .z) r r r (.ks 3 r ?_))
 refine splitP hd (fun hb38 hd => ?_) fun hb38 hd => ?_
 · rw [hb38]
   exact .ks 10 r (.nilS [25, 6, 4, 3, 2] r r (.condKT r r (.sr (.build zv46 un46 BI46 .n (by exact trivial) r r (.storeA sz46 r r .z (.t (.t (.t (.t (.t .nil))))) r r (.nilS [6] r r (.drop (.s .z) (.drop (.s .z) (.ret (pret results18 (.w ia46 sz46 r .z r .n) (.refl _) ⟨({ Low := 0, High := 0, A := ([] : List Int), B := ([] : List Int), On := ([] : List Int) } : State), _, _, _, _, _, _, r, (.nil _ _ _), (.nil _ _ _), (.nil _ _ _), hd⟩))))))))))
 rw [hb38]
 refine .ks 1 r (.gyes r r r (.load1 ia3 r (.s .z) r r r (.ks 3 r ?_)))
 refine splitP hd (fun hb39 hd => ?_) fun hb39 hd => ?_
 · rw [hb39]
   exact .ks 5 r (.nilS [25, 6, 4, 3, 2] r r (.condKT r r (.sr (.build zv46 un46 BI46 .n (by exact trivial) r r (.storeA sz46 r r .z (.t (.t (.t (.t (.t .nil))))) r r (.nilS [6] r r (.drop (.s .z) (.drop (.s .z) (.ret (pret results18 (.w ia46 sz46 r .z r .n) (.refl _) ⟨({ Low := 0, High := 0, A := ([] : List Int), B := ([] : List Int), On := ([] : List Int) } : State), _, _, _, _, _, _, r, (.nil _ _ _), (.nil _ _ _), (.nil _ _ _), hd⟩))))))))))
 rw [hb39]
 refine .ks 1 r (.gyes r r r (.fa un25 r sz3 r (o := 1) r r r (.gyes r r r (.load1 ia3 r (.s (.s .z)) r r r (.ks 2 r (.nilS [25, 6, 4, 3, 2] r r (.condP r hd (fun hb40 hd => ?_) fun hb40 hd => ?_)))))))
 · exact .sr (.build zv46 un46 BI46 .n (by exact trivial) r r (.storeA sz46 r r .z (.t (.t (.t (.t (.t .nil))))) r r (.nilS [6] r r (.drop (.s .z) (.drop (.s .z) (.ret (pret results18 (.w ia46 sz46 r .z r .n) (.refl _) ⟨({ Low := 0, High := 0, A := ([] : List Int), B := ([] : List Int), On := ([] : List Int) } : State), _, _, _, _, _, _, r, (.nil _ _ _), (.nil _ _ _), (.nil _ _ _), hd⟩)))))))
 refine .skipS [6, 4, 3, 2] r r (.sr (.load1 ia3 r (.s .z) r r r (.ks 1 r (.build zv46 un46 BI46 (.c r r r (.t .nil) (.c r r r (.s (.t .nil)) .n)) (by exact ⟨⟨_, _, r, r, r⟩, ⟨⟨_, _, r, r, r⟩, trivial⟩⟩) r r (.allocA zv46 r r fun b41 => ?_)))))
 refine .storeA sz46 r r .z (.t (.t (.t (.t (.t .nil))))) r r (.nilS [7, 6, 4, 3, 2] r r (.sr (.loadW ia46 sz46 r .z r r r (.ks 1 r (.load1 ia3 r (.s (.s .z)) r r r (.ks 1 r (.mkFn r r r r ?_)))))))
 have hw43 := W_prog_changed_b13 (I := I) (o0 := a0) (o1 := a1) (a0 := ({ Low := a1, High := a2, A := ([] : List Int), B := ([] : List Int), On := ([] : List Int) } : State)) (a1 := (w64 (a2 - a1))) (b3 := b19) (p4 := p1) (c5 := c2) (b7 := b21) R3 (.nil _ none 0) (.nil _ none 0) (.nil _ none 0) hd
 refine .callS (.f call53 r) (.c (.s (.s (.s .z))) (.c (.s (.s .z)) .n)) hw43 r r fun v47 I44 l48 hl45 hv46 => ?_
 obtain ⟨r49, p50, c51, p53, c54, p56, c57, rfl, R52, R55, R58, rfl, hd⟩ := hv46
 replace R3 := R3.mono hl45
 exact .re (m' := [pto b19 (.cells #[.int .i64 a0.Kind, .int .i64 a0.N, .int .i64 a0.Source, .int .i64 a0.Length, .slice p1 a0.Draws.length c2] 25 (0, 0)), pto b21 (.cells #[.int .i64 a1] 3 (0, 0)), pto b41 (.cells #[.int .i64 a1, .int .i64 a2, .slice none 0 0, .slice none 0 0, .slice none 0 0] 46 (0, 0)), pto b23 (.cells #[.int .i64 0, .int .i64 0, .slice none 0 0, .slice none 0 0, .slice none 0 0] 46 (0, 0))]) r (.storeA sz46 r r (.s (.s (.s .z))) (.t (.t (.t (.t (.t .nil))))) r r (.nilS [6] r r (.drop .z (.drop .z (.drop .z (.ret (pret results18 (.w ia46 sz46 r .z r .n) hl45 ⟨r49, _, _, _, _, _, _, r, R52, R55, R58, hd⟩)))))))

theorem W_prog_Update_1_24a {I : IH} {o0 : Vec} {o1 : Plan} {o2 : State} {o3 : Int} {a0 : Int} {b5 : Nat} {p6 : Option Addr} {c7 : Nat} {b9 : Nat} {p10 : Option Addr} {c11 : Nat} {b13 : Nat} {p14 : Option Addr} {c15 : Nat} {p17 : Option Addr} {c18 : Nat} {p20 : Option Addr} {c21 : Nat} {b23 : Nat} {Q : (Int × Int × Bool) → Prop} (R8 : RepSl eItem I p6 c7 o0.Items) (R12 : RepSl eI64 I p10 c11 o1.Draws) (R16 : RepSl eI64 I p14 c15 o2.A) (R19 : RepSl eI64 I p17 c18 o2.B) (R22 : RepSl eU64 I p20 c21 o2.On) (hd : prog_Update_1_24a o0 o1 o2 o3 a0 Q) :
  Fun prog 64 #[.int .i64 a0, .pointer (some ⟨b5, 0, none⟩), .pointer (some ⟨b9, 0, none⟩), .pointer (some ⟨b13, 0, none⟩), .pointer (some ⟨b23, 0, none⟩)] I [pto b5 (.cells #[.int .i64 o0.N, .slice p6 o0.Items.length c7] 51 (0, 0)), pto b9 (.cells #[.int .i64 o1.Kind, .int .i64 o1.N, .int .i64 o1.Source, .int .i64 o1.Length, .slice p10 o1.Draws.length c11] 25 (0, 0)), pto b13 (.cells #[.int .i64 o2.Low, .int .i64 o2.High, .slice p14 o2.A.length c15, .slice p17 o2.B.length c18, .slice p20 o2.On.length c21] 46 (0, 0)), pto b23 (.cells #[.int .i64 o3] 3 (0, 0))] (fun I_ v l => ∃ r, v = .tuple #[.int .i64 r.1, .int .i64 r.2.1, .bool r.2.2] ∧ l = [pto b5 (.cells #[.int .i64 o0.N, .slice p6 o0.Items.length c7] 51 (0, 0)), pto b9 (.cells #[.int .i64 o1.Kind, .int .i64 o1.N, .int .i64 o1.Source, .int .i64 o1.Length, .slice p10 o1.Draws.length c11] 25 (0, 0)), pto b13 (.cells #[.int .i64 o2.Low, .int .i64 o2.High, .slice p14 o2.A.length c15, .slice p17 o2.B.length c18, .slice p20 o2.On.length c21] 46 (0, 0)), pto b23 (.cells #[.int .i64 o3] 3 (0, 0))] ∧ Q r) := by
 refine Fun.enter (vs := [.int .i64 a0, .pointer (some ⟨b5, 0, none⟩), .pointer (some ⟨b9, 0, none⟩), .pointer (some ⟨b13, 0, none⟩), .pointer (some ⟨b23, 0, none⟩)]) func64 r ntmps64 r (.c (.c (.c (.c (.c .n))))) fun w0 M => ?_
 refine .sr (.ks 3 r (.nilS [4, 3, 2, 1, 0] r r (.sr (.loadW ia51 sz51 r .z r r r (.ks 1 r ?_)))))
 have hw29 := W_spvec_Get (I := I) R8 hd
 refine .callP call65 r hw29 r r fun v30 hv31 => ?_
 obtain ⟨r28, rfl, hd⟩ := hv31
 refine .ks 5 r (.nilS [10, 9, 4, 3, 2, 1, 0] r r (.sr (.loadW ia25 sz25 r (.s .z) r r r (.loadW ia46 sz46 r (.s (.s .z)) r r r (.load1 ia3 r (.s (.s (.s .z))) r r r (.ks 3 r ?_))))))
 have hw33 := W_prog_behind (I := I) R12 R16 R19 R22 hd
 refine .callP call66 r hw33 r r fun v34 hv35 => ?_
 obtain ⟨r32, rfl, hd⟩ := hv35
 exact .ks 6 r (.nilS [8, 7, 6, 4, 3, 2, 1] r r (.ret (oret results64 (.t r (.t r (.t r .n))) (.refl _) (.c .z (.c .z (.c .z (.c .z .n)))) ⟨(r32.1, r32.2.1, r32.2.2), r, r, hd⟩)))

end Go.Proofs.YtggmiaebkplnlaaGreat
