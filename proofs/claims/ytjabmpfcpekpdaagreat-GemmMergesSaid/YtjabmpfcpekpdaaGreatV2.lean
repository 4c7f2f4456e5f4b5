/- The walks (printed by a program of ours). -/
import Derived.Test.YtjabmpfcpekpdaaGreatV1
namespace Go.Proofs.YtjabmpfcpekpdaaGreat
open Go Go.Fw
set_option linter.unusedVariables false
set_option linter.unusedSimpArgs false
set_option maxRecDepth 8000
set_option maxHeartbeats 1000000
open Tryz
theorem W_slices_Concat_api_Cell_api_Cell {I : IH} {a0 : List (List Cell)} {p1 : Option Addr} {c2 : Nat} {Q : (List Cell) → Prop} (R3 : RepSl (slEl eCell) I p1 c2 a0) (hd : slices_Concat_api_Cell_api_Cell a0 Q) :
  OFun prog 57 [.slice p1 a0.length c2] I (fun I_ v l => ∃ r p4 c5, v = .slice p4 r.length c5 ∧ l = [OwnSl eCell 59 p4 c5 r] ∧ Q r) := by
 refine Fun.enter func57 r ntmps57 r (.c .n) fun w0 M => ?_
 refine .sr (.ks 1 r (.nilS [0] r r (.sr (.ks 1 r (.nilS [3, 0] r r (.seq (.sr (.ks 1 r (.len un45 r r r r ?_)))))))))
 refine .ks 1 r (.nilS [11, 10, 9, 3, 0] r r (.block (.loop hd (fun (s : Int × Int) c w => match s with | (s159, s160) => ∃ I_, IH.le I I_ ∧ Ok ⟨36, [], none⟩ [(0, .slice p1 a0.length c2), (3, .int .i64 s159), (9, .slice p1 a0.length c2), (10, .int .i64 (a0.length : Int)), (11, .int .i64 s160)] c ∧ Sym w0 M I I_ [] w) (fun c w ho hs => ⟨I, (.refl _), ho.sub ⟨r, r, r, r, r, trivial⟩, hs.pick .n⟩) ?_)))
 rintro ⟨s159, s160⟩ next161 hd c w hst
 obtain ⟨I162, hl163, hok, hsym⟩ := hst
 replace R3 := R3.mono hl163
 refine Cod.at hok hsym (.sr (.ks 1 r (.nilS [12, 11, 10, 9, 3, 0] r r (.seq (.condP r hd (fun hb165 hd => ?_) fun hb165 hd => ?_)))))
 · refine .skipS [11, 10, 9, 3, 0] r r (.seq (.block (.sr ?_)))
   obtain ⟨h178, x179, hx180, hd⟩ := hd
   obtain ⟨b181, o182, cs183, e184, hC185, hr186⟩ := R3.2 _ _ hx180
   obtain ⟨p187, c188, rfl, R189⟩ := hr186
   refine .ixa un45 sz33 r e184 r h178 (idx_lt hx180 h178) r r (.ld1 (j := 0) isAgg33 hC185 r r r r r (.ks 1 r (.nilS [5, 11, 10, 9, 3, 0] r r (.sr (.ks 2 r (.len un33 r r r r (.ks 2 r (.nilS [3, 11, 10, 9, 0] r r (.sr ?_)))))))))
   refine .ks 2 r (.nilS [20, 3, 11, 10, 9, 0] r r (.condP r hd (fun hb190 hd => ?_) fun hb190 hd => ?_))
   · refine .region ?_
     exact hd.elim
   exact .skipS [3, 11, 10, 9, 0] r r (.region (.ks 2 r (.nil' fun c w ho hs => ⟨(w64 (s159 + (x179.length : Int)), w64 (s160 + 1)), hd, I162, hl163, ho.sub ⟨r, r, r, r, r, trivial⟩, hs.pick .n⟩)))
 refine .exitS [3, 0] r r (.sr (.ks 1 r ?_))
 have hw213 := W_slices_Grow_api_Cell_api_Cell (I := I162) hd
 refine .callO call97 r hw213 r r fun v207 I204 l208 hl205 hv206 => ?_
 obtain ⟨r203, p209, c210, rfl, rfl, hd⟩ := hv206
 have le214 := IH.le.trans hl163 hl205
 replace R3 := R3.mono hl205
 refine .ks 1 r (.nilS [6, 0] r r (.seq (.sr (.ks 1 r (.len un45 r r r r (.ks 1 r (.nilS [27, 26, 25, 6] r r (.block (.loop hd (fun (s : (List Cell) × Int) c w => match s with | (s266, s270) => ∃ I_ p267 c268, IH.le I204 I_ ∧ Ok ⟨36, [], none⟩ [(6, .slice p267 s266.length c268), (25, .slice p1 a0.length c2), (26, .int .i64 (a0.length : Int)), (27, .int .i64 s270)] c ∧ Sym w0 M I I_ [OwnSl eCell 59 p267 c268 s266] w) (fun c w ho hs => ⟨I204, _, _, (.refl _), ho.sub ⟨r, r, r, r, trivial⟩, hs.pick (.c .z .n)⟩) ?_)))))))))
 rintro ⟨s266, s270⟩ next271 hd c w hst
 obtain ⟨I272, p267, c268, hl273, hok, hsym⟩ := hst
 have le274 := IH.le.trans le214 hl273
 replace R3 := R3.mono hl273
 refine Cod.at hok hsym (.sr (.ks 1 r (.nilS [28, 27, 26, 25, 6] r r (.seq (.condP r hd (fun hb276 hd => ?_) fun hb276 hd => ?_)))))
 · refine .skipS [27, 26, 25, 6] r r (.seq (.block (.sr ?_)))
   obtain ⟨h277, x278, hx279, hd⟩ := hd
   obtain ⟨b280, o281, cs282, e283, hC284, hr285⟩ := R3.2 _ _ hx279
   obtain ⟨p286, c287, rfl, R288⟩ := hr285
   refine .ixa un45 sz33 r e283 r h277 (idx_lt hx279 h277) r r (.ld1 (j := 0) isAgg33 hC284 r r r r r (.ks 1 r (.nilS [8, 27, 26, 25, 6] r r (.region (.ks 2 r ?_)))))
   obtain ⟨hl289, hd⟩ := hd
   refine .append (ys := x278) 32 .z un33 un33 IN59 r r r r r r r r r (.imm R288 r) hl289 r r fun p290 c291 => ?_
   exact .ks 1 r (.nilS [6, 27, 26, 25] r r (.region (.ks 2 r (.nil' fun c w ho hs => ⟨((s266 ++ x278), w64 (s270 + 1)), hd, I272, _, _, hl273, ho.sub ⟨r, r, r, r, trivial⟩, hs.pick (.c .z .n)⟩))))
 exact .exitS [6] r r (.sr (.ks 2 r (.nilS [2] r r (.ret (oret results57 (.t r .n) le274 (.c .z .n) ⟨s266, _, _, r, r, hd⟩)))))

theorem W_gemm_Merge_1_823 {I : IH} {a0 : List Cell} {p1 : Option Addr} {c2 : Nat} {Q : Bool → Prop} (R3 : RepSl eCell I p1 c2 a0) (hd : gemm_Merge_1_823 a0 Q) :
  Fun prog 55 #[.slice p1 a0.length c2] I [] (fun I_ v l => ∃ r, v = .bool r ∧ l = [] ∧ Q r) := by
 refine Fun.enter (vs := [.slice p1 a0.length c2]) func55 r ntmps55 r (.c .n) fun w0 M => ?_
 refine .sr (.ks 1 r (.nilS [0] r r (.sr (.ks 1 r ?_))))
 have hw5 := W_gemm_rises (I := I) R3 hd
 refine .callP call56 r hw5 r r fun v6 hv7 => ?_
 obtain ⟨r4, rfl, hd⟩ := hv7
 exact .ks 2 r (.nilS [2] r r (.ret (oret results55 (.t r .n) (.refl _) .n ⟨(!r4), r, r, hd⟩)))

theorem W_slices_IndexFunc_api_Cell_api_Cell_95a {I : IH} {a0 : List (List Cell)} {p1 : Option Addr} {c2 : Nat} {Q : Int → Prop} (R3 : RepSl (slEl eCell) I p1 c2 a0) (hd : slices_IndexFunc_api_Cell_api_Cell_95a a0 Q) :
  Fun prog 96 #[.slice p1 a0.length c2, .func (.func 55) #[] #[]] I [] (fun I_ v l => ∃ r, v = .int .i64 r ∧ l = [] ∧ Q r) := by
 refine Fun.enter (vs := [.slice p1 a0.length c2, .func (.func 55) #[] #[]]) func96 r ntmps96 r (.c (.c .n)) fun w0 M => ?_
 refine .sr (.ks 1 r (.nilS [1, 0] r r (.seq (.sr (.ks 1 r (.len un45 r r r r (.ks 1 r (.nilS [8, 7, 1, 0] r r (.block ?_)))))))))
 refine .loop hd (fun (s51 : Int) c w => ∃ I_, IH.le I I_ ∧ Ok ⟨19, [], none⟩ [(0, .slice p1 a0.length c2), (1, .func (.func 55) #[] #[]), (7, .int .i64 (a0.length : Int)), (8, .int .i64 s51)] c ∧ Sym w0 M I I_ [] w) (fun c w ho hs => ⟨I, (.refl _), ho.sub ⟨r, r, r, r, trivial⟩, hs.pick .n⟩) ?_
 rintro s51 next52 hd c w hst
 obtain ⟨I53, hl54, hok, hsym⟩ := hst
 replace R3 := R3.mono hl54
 refine Cod.at hok hsym (.sr (.ks 1 r (.nilS [9, 8, 7, 1, 0] r r (.seq (.condP r hd (fun hb56 hd => ?_) fun hb56 hd => ?_)))))
 · refine .skipS [8, 7, 1, 0] r r (.seq (.block (.sr (.ks 2 r (.nilS [5, 8, 7, 1, 0] r r (.sr (.ks 3 r ?_)))))))
   obtain ⟨h57, x58, hx59, hd⟩ := hd
   obtain ⟨b60, o61, cs62, e63, hC64, hr65⟩ := R3.2 _ _ hx59
   obtain ⟨p66, c67, rfl, R68⟩ := hr65
   refine .ixa un45 sz33 r e63 r h57 (idx_lt hx59 h57) r r (.ld1 (j := 0) isAgg33 hC64 r r r r r ?_)
   have hw69 := W_gemm_Merge_1_823 (I := I53) (a0 := x58) R68 hd
   refine .callS (.c call55 r r) .n hw69 r r fun v73 I70 l74 hl71 hv72 => ?_
   obtain ⟨r75, rfl, rfl, hd⟩ := hv72
   have le76 := IH.le.trans hl54 hl71
   replace R3 := R3.mono hl71
   replace R68 := R68.mono hl71
   replace hC64 := hC64.mono hl71
   refine .re (m' := []) r (.nilS [16, 5, 8, 7, 1, 0] r r (.condP r hd (fun hb77 hd => ?_) fun hb77 hd => ?_))
   · exact .sr (.ks 2 r (.nilS [4, 1] r r (.ret (oret results96 (.t r .n) le76 .n ⟨s51, r, r, hd⟩))))
   exact .skipS [8, 7, 1, 0] r r (.region (.ks 2 r (.nil' fun c w ho hs => ⟨(w64 (s51 + 1)), hd, I70, le76, ho.sub ⟨r, r, r, r, trivial⟩, hs.pick .n⟩)))
 exact .exitS [1] r r (.sr (.ks 1 r (.nilS [4, 1] r r (.ret (oret results96 (.t r .n) hl54 .n ⟨(-1), r, r, hd⟩)))))

theorem W_slices_ContainsFunc_api_Cell_api_Cell_85a {I : IH} {a0 : List (List Cell)} {p1 : Option Addr} {c2 : Nat} {Q : Bool → Prop} (R3 : RepSl (slEl eCell) I p1 c2 a0) (hd : slices_ContainsFunc_api_Cell_api_Cell_85a a0 Q) :
  Fun prog 54 #[.slice p1 a0.length c2, .func (.func 55) #[] #[]] I [] (fun I_ v l => ∃ r, v = .bool r ∧ l = [] ∧ Q r) := by
 refine Fun.enter (vs := [.slice p1 a0.length c2, .func (.func 55) #[] #[]]) func54 r ntmps54 r (.c (.c .n)) fun w0 M => ?_
 refine .sr (.ks 1 r (.nilS [1, 0] r r (.sr (.ks 2 r ?_))))
 have hw4 := W_slices_IndexFunc_api_Cell_api_Cell_95a (I := I) (a0 := a0) R3 hd
 refine .callS (.f call96 r) .n hw4 r r fun v8 I5 l9 hl6 hv7 => ?_
 obtain ⟨r10, rfl, rfl, hd⟩ := hv7
 replace R3 := R3.mono hl6
 exact .re (m' := []) r (.ks 2 r (.nilS [4, 1] r r (.ret (oret results54 (.t r .n) hl6 .n ⟨(decide (0 ≤ r10)), r, r, hd⟩))))

theorem W_gemm_order_1ec {I : IH} {a0 : Cell} {a1 : Cell} {Q : Int → Prop}  (hd : gemm_order_1ec a0 a1 Q) :
  Fun prog 59 #[.agg (encCell a0).toArray, .agg (encCell a1).toArray] I [] (fun I_ v l => ∃ r, v = .int .i64 r ∧ l = [] ∧ Q r) := by
 refine Fun.enter (vs := [.agg (encCell a0).toArray, .agg (encCell a1).toArray]) func59 r ntmps59 r (.c (.c .n)) fun w0 M => ?_
 refine .sr (.boxA r r r fun b5 => ?_)
 refine .boxA r r r fun b7 => ?_
 refine .ks 1 r (.nilS [3, 2] r r (.seq (.dr [0, 1, 2, 3, 5, 6, 7, 8, 4, 9, 10, 11] 12 (.g r r r (fun _ => .fa un59 r sz3 r (o := 0) r r r .mk) (.g r r r (fun _ => .load1 ia3 r (.s .z) r r r .mk) (.g r r r (fun _ => .fa un59 r sz3 r (o := 0) r r r .mk) (.g r r r (fun _ => .load1 ia3 r .z r r r .mk) (.g r r r (fun _ => .fa un59 r sz3 r (o := 1) r r r .mk) (.g r r r (fun _ => .load1 ia3 r (.s .z) r r r .mk) ?_)))))))))
 refine .g r r r (fun _ => .fa un59 r sz3 r (o := 1) r r r .mk) (.g r r r (fun _ => .load1 ia3 r .z r r r .mk) (.ww r fun ex => ?_))
 have hw10 := W_cmp_Compare_int (I := I) hd
 refine .callP call100 r hw10 r r fun v11 hv12 => ?_
 obtain ⟨r9, rfl, hd⟩ := hv12
 refine .so 2 r r r (.cg r r r r (fun _ => .load1 ia3 r .z r r r .mk) (.cg r r r r (fun _ => .fa un59 r sz3 r (o := 1) r r r .mk) (.cg r r r r (fun _ => .load1 ia3 r (.s .z) r r r .mk) (.cg r r r r (fun _ => .fa un59 r sz3 r (o := 1) r r r .mk) trivial)))) (.ww r fun ex => ?_)
 have hw14 := W_cmp_Compare_int (I := I) hd
 refine .callP call100 r hw14 r r fun v15 hv16 => ?_
 obtain ⟨r13, rfl, hd⟩ := hv16
 refine .so 2 r r r trivial (.ww r fun ex => ?_)
 refine .buildSlice 2 un27 sz3 zv3 r r (.c r r r (.c r r r .n)) r r fun b17 => ?_
 refine .so 3 r r r trivial (.ww r fun ex => ?_)
 refine .pubB (El := eI64) (ys := ([r9, r13] : List Int)) (k := 2) .z (RepCs.cons (cs := [.int .i64 r9]) r (RepCs.cons (cs := [.int .i64 r13]) r .nil)) r fun I19 hl20 R21 => ?_
 have hw23 := W_cmp_Or_int (I := I19) R21 hd
 refine .callP call99 r hw23 r r fun v24 hv25 => ?_
 obtain ⟨r22, rfl, hd⟩ := hv25
 exact .so 2 r r r trivial (.e2 12 (.ks 1 r (.nilS [4] r r (.drop .z (.drop .z (.ret (oret results59 (.t r .n) hl20 .n ⟨r22, r, r, hd⟩)))))))

theorem W_slices_insertionSortCmpFunc_api_Cell_116 {I : IH} {o0 : List Cell} {a0 : Int} {a1 : Int} {p2 : Option Addr} {c3 : Nat} {Q : (List Cell) → Prop}  (hd : slices_insertionSortCmpFunc_api_Cell_116 o0 a0 a1 Q) :
  Fun prog 127 #[.slice p2 o0.length c3, .int .i64 a0, .int .i64 a1, .func (.func 59) #[] #[]] I [OwnSl eCell 59 p2 c3 o0] (fun I_ v l => ∃ r, v = .tuple #[] ∧ r.length = o0.length ∧ l = [OwnSl eCell 59 p2 c3 r] ∧ Q r) := by
 refine Fun.enter (vs := [.slice p2 o0.length c3, .int .i64 a0, .int .i64 a1, .func (.func 59) #[] #[]]) func127 r ntmps127 r (.c (.c (.c (.c .n)))) fun w0 M => ?_
 refine .sr (.ks 3 r (.nilS [8, 3, 2, 1, 0] r r (.block (.loop hd (fun (s : (List Cell) × Int) c w => match s with | (s330, s331) => ∃ I_, IH.le I I_ ∧ s330.length = o0.length ∧ Ok ⟨53, [], none⟩ [(0, .slice p2 s330.length c3), (1, .int .i64 a0), (2, .int .i64 a1), (3, .func (.func 59) #[] #[]), (8, .int .i64 s331)] c ∧ Sym w0 M I I_ [OwnSl eCell 59 p2 c3 s330] w) (fun c w ho hs => ⟨I, (.refl _), (by first | exact r | assumption | omega | (simp only [List.length_set]; omega) | (simp only [List.length_set] at *; omega)), ho.sub ⟨r, r, r, r, r, trivial⟩, hs.pick (.c .z .n)⟩) ?_))))
 rintro ⟨s330, s331⟩ next332 hd c w hst
 obtain ⟨I333, hl334, hlen335, hok, hsym⟩ := hst
 refine Cod.at hok hsym (.seq (.sr (.ks 3 r (.nilS [14, 8, 3, 2, 1, 0] r r (.condP r hd (fun hb337 hd => ?_) fun hb337 hd => ?_)))))
 · refine .skipS [8, 3, 2, 1, 0] r r (.seq (.block (.sr (.ks 2 r (.nilS [9, 8, 3, 2, 1, 0] r r (.block (.loop hd (fun (s : (List Cell) × Int) c w => match s with | (s444, s445) => ∃ I_, IH.le I333 I_ ∧ s444.length = s330.length ∧ Ok ⟨53, [], none⟩ [(0, .slice p2 s444.length c3), (1, .int .i64 a0), (2, .int .i64 a1), (3, .func (.func 59) #[] #[]), (8, .int .i64 s331), (9, .int .i64 s445)] c ∧ Sym w0 M I I_ [OwnSl eCell 59 p2 c3 s444] w) (fun c w ho hs => ⟨I333, (.refl _), (by first | exact r | assumption | omega | (simp only [List.length_set]; omega) | (simp only [List.length_set] at *; omega)), ho.sub ⟨r, r, r, r, r, r, trivial⟩, hs.pick (.c .z .n)⟩) ?_)))))))
   rintro ⟨s444, s445⟩ next446 hd c w hst
   obtain ⟨I447, hl448, hlen449, hok, hsym⟩ := hst
   have le450 := IH.le.trans hl334 hl448
   refine Cod.at hok hsym (.seq (.seq (.ownF .z fun hne471 => ?_)))
   refine .dr [0, 1, 2, 3, 4, 5, 6, 7, 8, 9, 10, 11, 12, 13, 14, 15, 16] 17 (.fk 4 r ?_)
   refine splitP hd (fun hb472 hd => ?_) fun hb472 hd => ?_
   · refine .g r r r (fun _ => .gyes r r hb472 (.move r r r .mk)) (.g r r r (fun _ => .gyes r r hb472 (.move r r r .mk)) (.g r r r (fun _ => .gyes r r hb472 (.move r r r .mk)) ?_))
     obtain ⟨h473, x474, hx475, hd⟩ := hd
     obtain ⟨b476, e477⟩ := hne471 (idx_ne hx475)
     cases e477
     refine .g r r r (fun _ => .gyes r r hb472 (.ixa0 un33 sz59 r r h473 (idx_lt hx475 h473) r r .mk)) (.g r r r (fun _ => .gyes r r hb472 (.loA (j := 0) ia59 sz59 .z hx475 r r (.t (.t (.t (.t .nil)))) r r r .mk)) (.g r r r (fun _ => .gyes r r hb472 (.move r r r .mk)) (.g r r r (fun _ => .gyes r r hb472 (.move r r r .mk)) (.g r r r (fun _ => .gyes r r hb472 (.sub' r r r r .mk)) ?_))))
     obtain ⟨h478, x479, hx480, hd⟩ := hd
     refine .g r r r (fun _ => .gyes r r hb472 (.ixa0 un33 sz59 r r h478 (idx_lt hx480 h478) r r .mk)) (.g r r r (fun _ => .gyes r r hb472 (.loA (j := 0) ia59 sz59 .z hx480 r r (.t (.t (.t (.t .nil)))) r r r .mk)) (.ww r fun ex => ?_))
     have hw481 := W_gemm_order_1ec (I := I447) (a0 := x474) (a1 := x479) hd
     refine .gyes r r hb472 (.callS (.c call59 r r) .n hw481 r r fun v485 I482 l486 hl483 hv484 => ?_)
     obtain ⟨r487, rfl, rfl, hd⟩ := hv484
     have le488 := IH.le.trans le450 hl483
     have le489 := IH.le.trans hl448 hl483
     refine .re (m' := (OwnSl eCell 59 (some ⟨b476, 0, none⟩) c3 s444) :: ex) r (.so 1 r r r trivial (.g r r r (fun _ => .gyes r r hb472 (.lt r r r r .mk)) (.g r r r (fun _ => .pickT r hb472 r r r .mk) (.e2 17 (.nilS [34, 9, 8, 3, 2, 1, 0] r r (.condP r hd (fun hb490 hd => ?_) fun hb490 hd => ?_))))))
     · refine .skipS [9, 8, 3, 2, 1, 0] r r (.seq (.block (.dr [0, 1, 2, 3, 4, 5, 6, 7, 8, 9, 10, 11, 12, 13, 14, 15] 16 (.fk 8 r ?_))))
       obtain ⟨h491, x492, hx493, hd⟩ := hd
       refine .g r r r (fun _ => .ixa0 un33 sz59 r r h491 (idx_lt hx493 h491) r r .mk) (.g r r r (fun _ => .loA (j := 0) ia59 sz59 .z hx493 r r (.t (.t (.t (.t .nil)))) r r r .mk) (.fk 2 r ?_))
       obtain ⟨h494, x495, hx496, hd⟩ := hd
       refine .g r r r (fun _ => .ixa0 un33 sz59 r r h494 (idx_lt hx496 h494) r r .mk) (.g r r r (fun _ => .loA (j := 0) ia59 sz59 .z hx496 r r (.t (.t (.t (.t .nil)))) r r r .mk) ?_)
       obtain ⟨h497, x498, hx499, hd⟩ := hd
       refine .g r r r (fun _ => .ixa0 un33 sz59 r r h497 (idx_lt hx499 h497) r r .mk) (.ww r fun ex => ?_)
       refine .stOA (j := 0) (v' := x492) sz59 .z hx499 r r r (.t (.t (.t (.t .nil)))) r r (.sn 1 r r r (.ck 3 r r trivial) (.e2 16 (.sub (E' := [(0, .slice (some ⟨b476, 0, none⟩) (s444.set s445.toNat x492).length c3), (1, _), (2, _), (3, _), (8, _), (9, _), (37, .slice (some ⟨b476, 0, none⟩) (s444.set s445.toNat x492).length c3), (38, _), (39, .slice (some ⟨b476, 0, none⟩) (s444.set s445.toNat x492).length c3), (40, _), (41, _), (42, .slice (some ⟨b476, 0, none⟩) (s444.set s445.toNat x492).length c3), (43, _), (44, _), (45, _), (46, _), (47, .slice (some ⟨b476, 0, none⟩) (s444.set s445.toNat x492).length c3), (48, _), (49, _), (50, _), (51, _)]) ⟨(by simp only [List.length_set]; rfl), r, r, r, r, r, (by simp only [List.length_set]; rfl), r, (by simp only [List.length_set]; rfl), r, r, (by simp only [List.length_set]; rfl), r, r, r, r, (by simp only [List.length_set]; rfl), r, r, r, r, trivial⟩ ?_)))
       obtain ⟨h500, x501, hx502, hd⟩ := hd
       exact .ixa0 un33 sz59 r r h500 (idx_lt hx502 h500) r r (.stOA (j := 0) (v' := x495) sz59 .z hx502 r r r (.t (.t (.t (.t .nil)))) r r (.sub (E' := [(0, .slice (some ⟨b476, 0, none⟩) ((s444.set s445.toNat x492).set ((w64 (s445 - 1)).toNat) x495).length c3), (1, _), (2, _), (3, _), (8, _), (9, _), (37, .slice (some ⟨b476, 0, none⟩) ((s444.set s445.toNat x492).set ((w64 (s445 - 1)).toNat) x495).length c3), (38, _), (39, .slice (some ⟨b476, 0, none⟩) ((s444.set s445.toNat x492).set ((w64 (s445 - 1)).toNat) x495).length c3), (40, _), (41, _), (42, .slice (some ⟨b476, 0, none⟩) ((s444.set s445.toNat x492).set ((w64 (s445 - 1)).toNat) x495).length c3), (43, _), (44, _), (45, _), (46, _), (47, .slice (some ⟨b476, 0, none⟩) ((s444.set s445.toNat x492).set ((w64 (s445 - 1)).toNat) x495).length c3), (48, _), (49, _), (50, _), (51, _), (52, _)]) ⟨(by simp only [List.length_set]; rfl), r, r, r, r, r, (by simp only [List.length_set]; rfl), r, (by simp only [List.length_set]; rfl), r, r, (by simp only [List.length_set]; rfl), r, r, r, r, (by simp only [List.length_set]; rfl), r, r, r, r, r, trivial⟩ (.nilS [9, 8, 3, 2, 1, 0] r r (.region (.ks 3 r (.nil' fun c w ho hs => ⟨(((s444.set s445.toNat x492).set ((w64 (s445 - 1)).toNat) x495), w64 (s445 - 1)), hd, I482, le489, (by first | exact r | assumption | omega | (simp only [List.length_set]; omega) | (simp only [List.length_set] at *; omega)), ho.sub ⟨r, r, r, r, r, r, trivial⟩, hs.pick (.c .z .n)⟩))))))
     exact .exitS [8, 3, 2, 1, 0] r r (.region (.ks 3 r (.nil' fun c w ho hs => ⟨(s444, w64 (s331 + 1)), hd, I482, le488, (by first | exact r | assumption | omega | (simp only [List.length_set]; omega) | (simp only [List.length_set] at *; omega)), ho.sub ⟨r, r, r, r, r, trivial⟩, hs.pick (.c .z .n)⟩)))
   refine .g r r r (fun _ => .gno r r hb472 r r .mk) (.g r r r (fun _ => .gno r r hb472 r r .mk) (.g r r r (fun _ => .gno r r hb472 r r .mk) (.g r r r (fun _ => .gno r r hb472 r r .mk) (.g r r r (fun _ => .gno r r hb472 r r .mk) (.g r r r (fun _ => .gno r r hb472 r r .mk) (.g r r r (fun _ => .gno r r hb472 r r .mk) (.g r r r (fun _ => .gno r r hb472 r r .mk) (.g r r r (fun _ => .gno r r hb472 r r .mk) (.g r r r (fun _ => .gno r r hb472 r r .mk) ?_)))))))))
   exact .g r r r (fun _ => .gno r r hb472 r r .mk) (.g r r r (fun _ => .gno r r hb472 r r .mk) (.g r r r (fun _ => .pickF r hb472 r r r .mk) (.e2 17 (.nilS [34, 9, 8, 3, 2, 1, 0] r r (.condKF r r (.exitS [8, 3, 2, 1, 0] r r (.region (.ks 3 r (.nil' fun c w ho hs => ⟨(s444, w64 (s331 + 1)), hd, I447, le450, (by first | exact r | assumption | omega | (simp only [List.length_set]; omega) | (simp only [List.length_set] at *; omega)), ho.sub ⟨r, r, r, r, r, trivial⟩, hs.pick (.c .z .n)⟩)))))))))
 exact .exit (oretN results127 .n hl334 (.c .z .n) ⟨s330, r, (by first | exact r | assumption | omega | (simp only [List.length_set]; omega) | (simp only [List.length_set] at *; omega)), r, hd⟩)

theorem W_slices_swapRangeCmpFunc_api_Cell_ba0 {I : IH} {o0 : List Cell} {a0 : Int} {a1 : Int} {a2 : Int} {p2 : Option Addr} {c3 : Nat} {Q : (List Cell) → Prop}  (hd : slices_swapRangeCmpFunc_api_Cell_ba0 o0 a0 a1 a2 Q) :
  Fun prog 166 #[.slice p2 o0.length c3, .int .i64 a0, .int .i64 a1, .int .i64 a2, .func (.func 59) #[] #[]] I [OwnSl eCell 59 p2 c3 o0] (fun I_ v l => ∃ r, v = .tuple #[] ∧ r.length = o0.length ∧ l = [OwnSl eCell 59 p2 c3 r] ∧ Q r) := by
 refine Fun.enter (vs := [.slice p2 o0.length c3, .int .i64 a0, .int .i64 a1, .int .i64 a2, .func (.func 59) #[] #[]]) func166 r ntmps166 r (.c (.c (.c (.c (.c .n))))) fun w0 M => ?_
 refine .sr (.ks 1 r (.nilS [10, 3, 2, 1, 0] r r (.block (.loop hd (fun (s : (List Cell) × Int) c w => match s with | (s44, s45) => ∃ I_, IH.le I I_ ∧ s44.length = o0.length ∧ Ok ⟨38, [], none⟩ [(0, .slice p2 s44.length c3), (1, .int .i64 a0), (2, .int .i64 a1), (3, .int .i64 a2), (10, .int .i64 s45)] c ∧ Sym w0 M I I_ [OwnSl eCell 59 p2 c3 s44] w) (fun c w ho hs => ⟨I, (.refl _), (by first | exact r | assumption | omega | (simp only [List.length_set]; omega) | (simp only [List.length_set] at *; omega)), ho.sub ⟨r, r, r, r, r, trivial⟩, hs.pick (.c .z .n)⟩) ?_))))
 rintro ⟨s44, s45⟩ next46 hd c w hst
 obtain ⟨I47, hl48, hlen49, hok, hsym⟩ := hst
 refine Cod.at hok hsym (.seq (.sr (.ks 3 r (.nilS [13, 10, 3, 2, 1, 0] r r (.condP r hd (fun hb51 hd => ?_) fun hb51 hd => ?_)))))
 · refine .skipS [10, 3, 2, 1, 0] r r (.seq (.block (.ownF .z fun hne52 => ?_)))
   refine .dr [0, 1, 2, 3, 4, 5, 6, 7, 8, 9, 10, 11, 12, 13, 14, 15, 16, 17, 18, 19, 20, 21] 22 (.fk 12 r ?_)
   obtain ⟨h53, x54, hx55, hd⟩ := hd
   obtain ⟨b56, e57⟩ := hne52 (idx_ne hx55)
   cases e57
   refine .g r r r (fun _ => .ixa0 un33 sz59 r r h53 (idx_lt hx55 h53) r r .mk) (.g r r r (fun _ => .loA (j := 0) ia59 sz59 .z hx55 r r (.t (.t (.t (.t .nil)))) r r r .mk) (.fk 4 r ?_))
   obtain ⟨h58, x59, hx60, hd⟩ := hd
   refine .g r r r (fun _ => .ixa0 un33 sz59 r r h58 (idx_lt hx60 h58) r r .mk) (.g r r r (fun _ => .loA (j := 0) ia59 sz59 .z hx60 r r (.t (.t (.t (.t .nil)))) r r r .mk) ?_)
   obtain ⟨h61, x62, hx63, hd⟩ := hd
   refine .g r r r (fun _ => .ixa0 un33 sz59 r r h61 (idx_lt hx63 h61) r r .mk) (.ww r fun ex => ?_)
   refine .stOA (j := 0) (v' := x54) sz59 .z hx63 r r r (.t (.t (.t (.t .nil)))) r r (.sn 1 r r r (.ck 4 r r trivial) (.e2 22 (.sub (E' := [(0, .slice (some ⟨b56, 0, none⟩) (s44.set ((w64 (a0 + s45)).toNat) x54).length c3), (1, _), (2, _), (3, _), (10, _), (16, .slice (some ⟨b56, 0, none⟩) (s44.set ((w64 (a0 + s45)).toNat) x54).length c3), (17, _), (18, _), (19, _), (20, .slice (some ⟨b56, 0, none⟩) (s44.set ((w64 (a0 + s45)).toNat) x54).length c3), (21, _), (22, _), (23, _), (24, .slice (some ⟨b56, 0, none⟩) (s44.set ((w64 (a0 + s45)).toNat) x54).length c3), (25, _), (26, _), (27, _), (28, _), (29, _), (30, .slice (some ⟨b56, 0, none⟩) (s44.set ((w64 (a0 + s45)).toNat) x54).length c3), (31, _), (32, _), (33, _), (34, _), (35, _), (36, _)]) ⟨(by simp only [List.length_set]; rfl), r, r, r, r, (by simp only [List.length_set]; rfl), r, r, r, (by simp only [List.length_set]; rfl), r, r, r, (by simp only [List.length_set]; rfl), r, r, r, r, r, (by simp only [List.length_set]; rfl), r, r, r, r, r, r, trivial⟩ ?_)))
   obtain ⟨h64, x65, hx66, hd⟩ := hd
   exact .ixa0 un33 sz59 r r h64 (idx_lt hx66 h64) r r (.stOA (j := 0) (v' := x59) sz59 .z hx66 r r r (.t (.t (.t (.t .nil)))) r r (.sub (E' := [(0, .slice (some ⟨b56, 0, none⟩) ((s44.set ((w64 (a0 + s45)).toNat) x54).set ((w64 (a1 + s45)).toNat) x59).length c3), (1, _), (2, _), (3, _), (10, _), (16, .slice (some ⟨b56, 0, none⟩) ((s44.set ((w64 (a0 + s45)).toNat) x54).set ((w64 (a1 + s45)).toNat) x59).length c3), (17, _), (18, _), (19, _), (20, .slice (some ⟨b56, 0, none⟩) ((s44.set ((w64 (a0 + s45)).toNat) x54).set ((w64 (a1 + s45)).toNat) x59).length c3), (21, _), (22, _), (23, _), (24, .slice (some ⟨b56, 0, none⟩) ((s44.set ((w64 (a0 + s45)).toNat) x54).set ((w64 (a1 + s45)).toNat) x59).length c3), (25, _), (26, _), (27, _), (28, _), (29, _), (30, .slice (some ⟨b56, 0, none⟩) ((s44.set ((w64 (a0 + s45)).toNat) x54).set ((w64 (a1 + s45)).toNat) x59).length c3), (31, _), (32, _), (33, _), (34, _), (35, _), (36, _), (37, _)]) ⟨(by simp only [List.length_set]; rfl), r, r, r, r, (by simp only [List.length_set]; rfl), r, r, r, (by simp only [List.length_set]; rfl), r, r, r, (by simp only [List.length_set]; rfl), r, r, r, r, r, (by simp only [List.length_set]; rfl), r, r, r, r, r, r, r, trivial⟩ (.nilS [10, 3, 2, 1, 0] r r (.region (.ks 3 r (.nil' fun c w ho hs => ⟨(((s44.set ((w64 (a0 + s45)).toNat) x54).set ((w64 (a1 + s45)).toNat) x59), w64 (s45 + 1)), hd, I47, hl48, (by first | exact r | assumption | omega | (simp only [List.length_set]; omega) | (simp only [List.length_set] at *; omega)), ho.sub ⟨r, r, r, r, r, trivial⟩, hs.pick (.c .z .n)⟩))))))
 exact .exit (oretN results166 .n hl48 (.c .z .n) ⟨s44, r, (by first | exact r | assumption | omega | (simp only [List.length_set]; omega) | (simp only [List.length_set] at *; omega)), r, hd⟩)

theorem W_slices_rotateCmpFunc_api_Cell_7d1 {I : IH} {o0 : List Cell} {a0 : Int} {a1 : Int} {a2 : Int} {p2 : Option Addr} {c3 : Nat} {Q : (List Cell) → Prop}  (hd : slices_rotateCmpFunc_api_Cell_7d1 o0 a0 a1 a2 Q) :
  Fun prog 155 #[.slice p2 o0.length c3, .int .i64 a0, .int .i64 a1, .int .i64 a2, .func (.func 59) #[] #[]] I [OwnSl eCell 59 p2 c3 o0] (fun I_ v l => ∃ r, v = .tuple #[] ∧ r.length = o0.length ∧ l = [OwnSl eCell 59 p2 c3 r] ∧ Q r) := by
 refine Fun.enter (vs := [.slice p2 o0.length c3, .int .i64 a0, .int .i64 a1, .int .i64 a2, .func (.func 59) #[] #[]]) func155 r ntmps155 r (.c (.c (.c (.c (.c .n))))) fun w0 M => ?_
 refine .sr (.ks 4 r (.nilS [10, 4, 3, 2, 0] r r (.sr (.ks 4 r (.nilS [11, 10, 4, 2, 0] r r (.seq (.block (.loop hd (fun (s : (List Cell) × Int × Int) c w => match s with | (s63, s64, s65) => ∃ I_, IH.le I I_ ∧ s63.length = o0.length ∧ Ok ⟨58, [], none⟩ [(0, .slice p2 s63.length c3), (2, .int .i64 a1), (4, .func (.func 59) #[] #[]), (10, .int .i64 s64), (11, .int .i64 s65)] c ∧ Sym w0 M I I_ [OwnSl eCell 59 p2 c3 s63] w) (fun c w ho hs => ⟨I, (.refl _), (by first | exact r | assumption | omega | (simp only [List.length_set]; omega) | (simp only [List.length_set] at *; omega)), ho.sub ⟨r, r, r, r, r, trivial⟩, hs.pick (.c .z .n)⟩) ?_))))))))
 rintro ⟨s63, s64, s65⟩ next66 hd c w hst
 obtain ⟨I67, hl68, hlen69, hok, hsym⟩ := hst
 refine Cod.at hok hsym (.seq (.sr (.ks 3 r (.nilS [20, 11, 10, 4, 2, 0] r r (.condP r hd (fun hb71 hd => ?_) fun hb71 hd => ?_)))))
 · refine .skipS [11, 10, 4, 2, 0] r r (.block (.sr (.ks 3 r (.nilS [23, 11, 10, 4, 2, 0] r r (.condP r hd (fun hb72 hd => ?_) fun hb72 hd => ?_)))))
   · refine .sr (.ks 7 r ?_)
     have hw73 := W_slices_swapRangeCmpFunc_api_Cell_ba0 (I := I67) (o0 := s63) (a0 := (w64 (a1 - s64))) (a1 := a1) (a2 := s65) (p2 := p2) (c3 := c3) hd
     refine .callS (.f call166 r) (.c .z .n) hw73 r r fun v77 I74 l78 hl75 hv76 => ?_
     obtain ⟨r79, rfl, hlen83, rfl, hd⟩ := hv76
     have le84 := IH.le.trans hl68 hl75
     exact .sub (E' := [(0, .slice p2 r79.length c3), (2, _), (4, _), (10, _), (11, _), (23, _), (24, .slice p2 r79.length c3), (25, _), (26, _), (27, _), (28, _), (29, _), (30, _), (31, _)]) ⟨(by rw [hlen83]; rfl), r, r, r, r, r, (by rw [hlen83]; rfl), r, r, r, r, r, r, r, trivial⟩ (.nilS [11, 10, 4, 2, 0] r r (.region (.ks 4 r (.nil' fun c w ho hs => ⟨(r79, w64 (s64 - s65), s65), hd, I74, le84, (by first | exact r | assumption | omega | (simp only [List.length_set]; omega) | (simp only [List.length_set] at *; omega)), ho.sub ⟨r, r, r, r, r, trivial⟩, hs.pick (.c .z .n)⟩))))
   refine .sr (.ks 11 r ?_)
   have hw85 := W_slices_swapRangeCmpFunc_api_Cell_ba0 (I := I67) (o0 := s63) (a0 := (w64 (a1 - s64))) (a1 := (w64 ((w64 (a1 + s65)) - s64))) (a2 := s64) (p2 := p2) (c3 := c3) hd
   refine .callS (.f call166 r) (.c .z .n) hw85 r r fun v89 I86 l90 hl87 hv88 => ?_
   obtain ⟨r91, rfl, hlen95, rfl, hd⟩ := hv88
   have le96 := IH.le.trans hl68 hl87
   exact .sub (E' := [(0, .slice p2 r91.length c3), (2, _), (4, _), (10, _), (11, _), (23, _), (35, .slice p2 r91.length c3), (36, _), (37, _), (38, _), (39, _), (40, _), (41, _), (42, _), (43, _), (44, _), (45, _), (46, _)]) ⟨(by rw [hlen95]; rfl), r, r, r, r, r, (by rw [hlen95]; rfl), r, r, r, r, r, r, r, r, r, r, r, trivial⟩ (.nilS [11, 10, 4, 2, 0] r r (.region (.ks 4 r (.nil' fun c w ho hs => ⟨(r91, s64, w64 (s65 - s64)), hd, I86, le96, (by first | exact r | assumption | omega | (simp only [List.length_set]; omega) | (simp only [List.length_set] at *; omega)), ho.sub ⟨r, r, r, r, r, trivial⟩, hs.pick (.c .z .n)⟩))))
 refine .exitS [10, 4, 2, 0] r r (.region (.ks 7 r ?_))
 have hw97 := W_slices_swapRangeCmpFunc_api_Cell_ba0 (I := I67) (o0 := s63) (a0 := (w64 (a1 - s64))) (a1 := a1) (a2 := s64) (p2 := p2) (c3 := c3) hd
 refine .callS (.f call166 r) (.c .z .n) hw97 r r fun v101 I98 l102 hl99 hv100 => ?_
 obtain ⟨r103, rfl, hlen107, rfl, hd⟩ := hv100
 have le108 := IH.le.trans hl68 hl99
 exact .sub (E' := [(0, .slice p2 r103.length c3), (2, _), (4, _), (10, _), (50, .slice p2 r103.length c3), (51, _), (52, _), (53, _), (54, _), (55, _), (56, _), (57, _)]) ⟨(by rw [hlen107]; rfl), r, r, r, (by rw [hlen107]; rfl), r, r, r, r, r, r, r, trivial⟩ (.nil' (oretN results155 .n le108 (.c .z .n) ⟨r103, r, (by first | exact r | assumption | omega | (simp only [List.length_set]; omega) | (simp only [List.length_set] at *; omega)), r, hd⟩))

theorem W_slices_symMergeCmpFunc_api_Cell_404_rec {rc : (List Cell) → Int → Int → Int → ((List Cell) → Prop) → Prop} (ih : ∀ {I : IH} {o0 : List Cell} {a0 : Int} {a1 : Int} {a2 : Int} {p2 : Option Addr} {c3 : Nat} {Q : (List Cell) → Prop} , rc o0 a0 a1 a2 Q → Fun prog 128 #[.slice p2 o0.length c3, .int .i64 a0, .int .i64 a1, .int .i64 a2, .func (.func 59) #[] #[]] I [OwnSl eCell 59 p2 c3 o0] (fun I_ v l => ∃ r, v = .tuple #[] ∧ r.length = o0.length ∧ l = [OwnSl eCell 59 p2 c3 r] ∧ Q r)) {I : IH} {o0 : List Cell} {a0 : Int} {a1 : Int} {a2 : Int} {p2 : Option Addr} {c3 : Nat} {Q : (List Cell) → Prop}  (hd : slices_symMergeCmpFunc_api_Cell_404_body rc o0 a0 a1 a2 Q) :
  Fun prog 128 #[.slice p2 o0.length c3, .int .i64 a0, .int .i64 a1, .int .i64 a2, .func (.func 59) #[] #[]] I [OwnSl eCell 59 p2 c3 o0] (fun I_ v l => ∃ r, v = .tuple #[] ∧ r.length = o0.length ∧ l = [OwnSl eCell 59 p2 c3 r] ∧ Q r) := by
 refine Fun.enter (vs := [.slice p2 o0.length c3, .int .i64 a0, .int .i64 a1, .int .i64 a2, .func (.func 59) #[] #[]]) func128 r ntmps128 r (.c (.c (.c (.c (.c .n))))) fun w0 M => ?_
 refine .seq (.sr (.ks 4 r (.nilS [28, 4, 3, 2, 1, 0] r r (.condP r hd (fun hb207 hd => ?_) fun hb207 hd => ?_))))
 · refine .sr (.ks 2 r (.nilS [10, 4, 3, 1, 0] r r (.sr (.ks 2 r (.nilS [11, 10, 4, 1, 0] r r (.seq (.block (.loop hd (fun (s : Int × Int) c w => match s with | (s321, s322) => ∃ I_, IH.le I I_ ∧ Ok ⟨220, [], none⟩ [(0, .slice p2 o0.length c3), (1, .int .i64 a0), (4, .func (.func 59) #[] #[]), (10, .int .i64 s321), (11, .int .i64 s322)] c ∧ Sym w0 M I I_ [OwnSl eCell 59 p2 c3 o0] w) (fun c w ho hs => ⟨I, (.refl _), ho.sub ⟨r, r, r, r, r, trivial⟩, hs.pick (.c .z .n)⟩) ?_))))))))
   rintro ⟨s321, s322⟩ next323 hd c w hst
   obtain ⟨I324, hl325, hok, hsym⟩ := hst
   refine Cod.at hok hsym (.seq (.sr (.ks 3 r (.nilS [33, 11, 10, 4, 1, 0] r r (.condP r hd (fun hb327 hd => ?_) fun hb327 hd => ?_)))))
   · refine .skipS [11, 10, 4, 1, 0] r r (.block (.sr (.ks 3 r (.conv un3 un135 r r r (.shr' r r (by decide) r r (.conv un135 un3 r r r (.ks 1 r (.nilS [12, 11, 10, 4, 1, 0] r r (.seq ?_)))))))))
     refine .ownF .z fun hne328 => ?_
     refine .dr [0, 1, 2, 3, 4, 5, 6, 7, 8, 9, 10] 11 (.fk 3 r ?_)
     obtain ⟨h329, x330, hx331, hd⟩ := hd
     obtain ⟨b332, e333⟩ := hne328 (idx_ne hx331)
     cases e333
     refine .g r r r (fun _ => .ixa0 un33 sz59 r r h329 (idx_lt hx331 h329) r r .mk) (.g r r r (fun _ => .loA (j := 0) ia59 sz59 .z hx331 r r (.t (.t (.t (.t .nil)))) r r r .mk) (.fk 2 r ?_))
     obtain ⟨h334, x335, hx336, hd⟩ := hd
     refine .g r r r (fun _ => .ixa0 un33 sz59 r r h334 (idx_lt hx336 h334) r r .mk) (.g r r r (fun _ => .loA (j := 0) ia59 sz59 .z hx336 r r (.t (.t (.t (.t .nil)))) r r r .mk) (.ww r fun ex => ?_))
     have hw337 := W_gemm_order_1ec (I := I324) (a0 := x330) (a1 := x335) hd
     refine .callS (.c call59 r r) .n hw337 r r fun v341 I338 l342 hl339 hv340 => ?_
     obtain ⟨r343, rfl, rfl, hd⟩ := hv340
     have le344 := IH.le.trans hl325 hl339
     refine .re (m' := (OwnSl eCell 59 (some ⟨b332, 0, none⟩) c3 o0) :: ex) r (.so 1 r r r trivial (.fk 1 r (.e2 11 (.nilS [50, 12, 11, 10, 4, 1, 0] r r (.condP r hd (fun hb345 hd => ?_) fun hb345 hd => ?_)))))
     · exact .region (.ks 3 r (.nil' fun c w ho hs => ⟨(w64 ((w64 (shr .u64 (IntKind.wrap .u64 (w64 (s321 + s322))) 1)) + 1), s322), hd, I338, le344, ho.sub ⟨r, r, r, r, r, trivial⟩, hs.pick (.c .z .n)⟩))
     exact .region (.ks 2 r (.nil' fun c w ho hs => ⟨(s321, w64 (shr .u64 (IntKind.wrap .u64 (w64 (s321 + s322))) 1)), hd, I338, le344, ho.sub ⟨r, r, r, r, r, trivial⟩, hs.pick (.c .z .n)⟩))
   refine .exitS [10, 4, 1, 0] r r (.seq (.sr (.ks 2 r (.nilS [13, 10, 4, 0] r r (.block (.loop hd (fun (s : (List Cell) × Int) c w => match s with | (s386, s387) => ∃ I_, IH.le I324 I_ ∧ s386.length = o0.length ∧ Ok ⟨220, [], none⟩ [(0, .slice p2 s386.length c3), (4, .func (.func 59) #[] #[]), (10, .int .i64 s321), (13, .int .i64 s387)] c ∧ Sym w0 M I I_ [OwnSl eCell 59 p2 c3 s386] w) (fun c w ho hs => ⟨I324, (.refl _), (by first | exact r | assumption | omega | (simp only [List.length_set]; omega) | (simp only [List.length_set] at *; omega)), ho.sub ⟨r, r, r, r, trivial⟩, hs.pick (.c .z .n)⟩) ?_))))))
   rintro ⟨s386, s387⟩ next388 hd c w hst
   obtain ⟨I389, hl390, hlen391, hok, hsym⟩ := hst
   have le392 := IH.le.trans hl325 hl390
   refine Cod.at hok hsym (.seq (.sr (.ks 4 r (.nilS [58, 13, 10, 4, 0] r r (.condP r hd (fun hb394 hd => ?_) fun hb394 hd => ?_)))))
   · refine .skipS [13, 10, 4, 0] r r (.seq (.block (.ownF .z fun hne395 => ?_)))
     refine .dr [0, 1, 2, 3, 4, 5, 6, 7, 8, 9, 10, 11, 12, 13, 14, 15] 16 (.fk 8 r ?_)
     obtain ⟨h396, x397, hx398, hd⟩ := hd
     obtain ⟨b399, e400⟩ := hne395 (idx_ne hx398)
     cases e400
     refine .g r r r (fun _ => .ixa0 un33 sz59 r r h396 (idx_lt hx398 h396) r r .mk) (.g r r r (fun _ => .loA (j := 0) ia59 sz59 .z hx398 r r (.t (.t (.t (.t .nil)))) r r r .mk) (.fk 2 r ?_))
     obtain ⟨h401, x402, hx403, hd⟩ := hd
     refine .g r r r (fun _ => .ixa0 un33 sz59 r r h401 (idx_lt hx403 h401) r r .mk) (.g r r r (fun _ => .loA (j := 0) ia59 sz59 .z hx403 r r (.t (.t (.t (.t .nil)))) r r r .mk) ?_)
     obtain ⟨h404, x405, hx406, hd⟩ := hd
     refine .g r r r (fun _ => .ixa0 un33 sz59 r r h404 (idx_lt hx406 h404) r r .mk) (.ww r fun ex => ?_)
     refine .stOA (j := 0) (v' := x397) sz59 .z hx406 r r r (.t (.t (.t (.t .nil)))) r r (.sn 1 r r r (.ck 3 r r trivial) (.e2 16 (.sub (E' := [(0, .slice (some ⟨b399, 0, none⟩) (s386.set s387.toNat x397).length c3), (4, _), (10, _), (13, _), (61, .slice (some ⟨b399, 0, none⟩) (s386.set s387.toNat x397).length c3), (62, _), (63, .slice (some ⟨b399, 0, none⟩) (s386.set s387.toNat x397).length c3), (64, _), (65, _), (66, .slice (some ⟨b399, 0, none⟩) (s386.set s387.toNat x397).length c3), (67, _), (68, _), (69, _), (70, _), (71, .slice (some ⟨b399, 0, none⟩) (s386.set s387.toNat x397).length c3), (72, _), (73, _), (74, _), (75, _)]) ⟨(by simp only [List.length_set]; rfl), r, r, r, (by simp only [List.length_set]; rfl), r, (by simp only [List.length_set]; rfl), r, r, (by simp only [List.length_set]; rfl), r, r, r, r, (by simp only [List.length_set]; rfl), r, r, r, r, trivial⟩ ?_)))
     obtain ⟨h407, x408, hx409, hd⟩ := hd
     exact .ixa0 un33 sz59 r r h407 (idx_lt hx409 h407) r r (.stOA (j := 0) (v' := x402) sz59 .z hx409 r r r (.t (.t (.t (.t .nil)))) r r (.sub (E' := [(0, .slice (some ⟨b399, 0, none⟩) ((s386.set s387.toNat x397).set ((w64 (s387 + 1)).toNat) x402).length c3), (4, _), (10, _), (13, _), (61, .slice (some ⟨b399, 0, none⟩) ((s386.set s387.toNat x397).set ((w64 (s387 + 1)).toNat) x402).length c3), (62, _), (63, .slice (some ⟨b399, 0, none⟩) ((s386.set s387.toNat x397).set ((w64 (s387 + 1)).toNat) x402).length c3), (64, _), (65, _), (66, .slice (some ⟨b399, 0, none⟩) ((s386.set s387.toNat x397).set ((w64 (s387 + 1)).toNat) x402).length c3), (67, _), (68, _), (69, _), (70, _), (71, .slice (some ⟨b399, 0, none⟩) ((s386.set s387.toNat x397).set ((w64 (s387 + 1)).toNat) x402).length c3), (72, _), (73, _), (74, _), (75, _), (76, _)]) ⟨(by simp only [List.length_set]; rfl), r, r, r, (by simp only [List.length_set]; rfl), r, (by simp only [List.length_set]; rfl), r, r, (by simp only [List.length_set]; rfl), r, r, r, r, (by simp only [List.length_set]; rfl), r, r, r, r, r, trivial⟩ (.nilS [13, 10, 4, 0] r r (.region (.ks 3 r (.nil' fun c w ho hs => ⟨(((s386.set s387.toNat x397).set ((w64 (s387 + 1)).toNat) x402), w64 (s387 + 1)), hd, I389, hl390, (by first | exact r | assumption | omega | (simp only [List.length_set]; omega) | (simp only [List.length_set] at *; omega)), ho.sub ⟨r, r, r, r, trivial⟩, hs.pick (.c .z .n)⟩))))))
   exact .exitS [4, 0] r r (.ret (oret results128 .n le392 (.c .z .n) ⟨s386, r, (by first | exact r | assumption | omega | (simp only [List.length_set]; omega) | (simp only [List.length_set] at *; omega)), r, hd⟩))
 refine .skipS [4, 3, 2, 1, 0] r r (.seq (.sr (.ks 4 r (.nilS [80, 4, 3, 2, 1, 0] r r (.condP r hd (fun hb613 hd => ?_) fun hb613 hd => ?_)))))
 · refine .sr (.ks 2 r (.nilS [14, 4, 2, 0] r r (.sr (.ks 2 r (.nilS [15, 14, 4, 2, 0] r r (.seq (.block (.loop hd (fun (s : Int × Int) c w => match s with | (s727, s728) => ∃ I_, IH.le I I_ ∧ Ok ⟨220, [], none⟩ [(0, .slice p2 o0.length c3), (2, .int .i64 a1), (4, .func (.func 59) #[] #[]), (14, .int .i64 s727), (15, .int .i64 s728)] c ∧ Sym w0 M I I_ [OwnSl eCell 59 p2 c3 o0] w) (fun c w ho hs => ⟨I, (.refl _), ho.sub ⟨r, r, r, r, r, trivial⟩, hs.pick (.c .z .n)⟩) ?_))))))))
   rintro ⟨s727, s728⟩ next729 hd c w hst
   obtain ⟨I730, hl731, hok, hsym⟩ := hst
   refine Cod.at hok hsym (.seq (.sr (.ks 3 r (.nilS [85, 15, 14, 4, 2, 0] r r (.condP r hd (fun hb733 hd => ?_) fun hb733 hd => ?_)))))
   · refine .skipS [15, 14, 4, 2, 0] r r (.block (.sr (.ks 3 r (.conv un3 un135 r r r (.shr' r r (by decide) r r (.conv un135 un3 r r r (.ks 1 r (.nilS [16, 15, 14, 4, 2, 0] r r (.seq ?_)))))))))
     refine .ownF .z fun hne734 => ?_
     refine .dr [0, 1, 2, 3, 4, 5, 6, 7, 8, 9, 10, 11] 12 (.fk 3 r ?_)
     obtain ⟨h735, x736, hx737, hd⟩ := hd
     obtain ⟨b738, e739⟩ := hne734 (idx_ne hx737)
     cases e739
     refine .g r r r (fun _ => .ixa0 un33 sz59 r r h735 (idx_lt hx737 h735) r r .mk) (.g r r r (fun _ => .loA (j := 0) ia59 sz59 .z hx737 r r (.t (.t (.t (.t .nil)))) r r r .mk) (.fk 2 r ?_))
     obtain ⟨h740, x741, hx742, hd⟩ := hd
     refine .g r r r (fun _ => .ixa0 un33 sz59 r r h740 (idx_lt hx742 h740) r r .mk) (.g r r r (fun _ => .loA (j := 0) ia59 sz59 .z hx742 r r (.t (.t (.t (.t .nil)))) r r r .mk) (.ww r fun ex => ?_))
     have hw743 := W_gemm_order_1ec (I := I730) (a0 := x736) (a1 := x741) hd
     refine .callS (.c call59 r r) .n hw743 r r fun v747 I744 l748 hl745 hv746 => ?_
     obtain ⟨r749, rfl, rfl, hd⟩ := hv746
     have le750 := IH.le.trans hl731 hl745
     refine .re (m' := (OwnSl eCell 59 (some ⟨b738, 0, none⟩) c3 o0) :: ex) r (.so 1 r r r trivial (.fk 2 r (.e2 12 (.nilS [103, 16, 15, 14, 4, 2, 0] r r (.condP r hd (fun hb751 hd => ?_) fun hb751 hd => ?_)))))
     · exact .region (.ks 3 r (.nil' fun c w ho hs => ⟨(w64 ((w64 (shr .u64 (IntKind.wrap .u64 (w64 (s727 + s728))) 1)) + 1), s728), hd, I744, le750, ho.sub ⟨r, r, r, r, r, trivial⟩, hs.pick (.c .z .n)⟩))
     exact .region (.ks 2 r (.nil' fun c w ho hs => ⟨(s727, w64 (shr .u64 (IntKind.wrap .u64 (w64 (s727 + s728))) 1)), hd, I744, le750, ho.sub ⟨r, r, r, r, r, trivial⟩, hs.pick (.c .z .n)⟩))
   refine .exitS [14, 4, 2, 0] r r (.seq (.sr (.ks 2 r (.nilS [17, 14, 4, 0] r r (.block (.loop hd (fun (s : (List Cell) × Int) c w => match s with | (s792, s793) => ∃ I_, IH.le I730 I_ ∧ s792.length = o0.length ∧ Ok ⟨220, [], none⟩ [(0, .slice p2 s792.length c3), (4, .func (.func 59) #[] #[]), (14, .int .i64 s727), (17, .int .i64 s793)] c ∧ Sym w0 M I I_ [OwnSl eCell 59 p2 c3 s792] w) (fun c w ho hs => ⟨I730, (.refl _), (by first | exact r | assumption | omega | (simp only [List.length_set]; omega) | (simp only [List.length_set] at *; omega)), ho.sub ⟨r, r, r, r, trivial⟩, hs.pick (.c .z .n)⟩) ?_))))))
   rintro ⟨s792, s793⟩ next794 hd c w hst
   obtain ⟨I795, hl796, hlen797, hok, hsym⟩ := hst
   have le798 := IH.le.trans hl731 hl796
   refine Cod.at hok hsym (.seq (.sr (.ks 3 r (.nilS [110, 17, 14, 4, 0] r r (.condP r hd (fun hb800 hd => ?_) fun hb800 hd => ?_)))))
   · refine .skipS [17, 14, 4, 0] r r (.seq (.block (.ownF .z fun hne801 => ?_)))
     refine .dr [0, 1, 2, 3, 4, 5, 6, 7, 8, 9, 10, 11, 12, 13, 14, 15] 16 (.fk 8 r ?_)
     obtain ⟨h802, x803, hx804, hd⟩ := hd
     obtain ⟨b805, e806⟩ := hne801 (idx_ne hx804)
     cases e806
     refine .g r r r (fun _ => .ixa0 un33 sz59 r r h802 (idx_lt hx804 h802) r r .mk) (.g r r r (fun _ => .loA (j := 0) ia59 sz59 .z hx804 r r (.t (.t (.t (.t .nil)))) r r r .mk) (.fk 2 r ?_))
     obtain ⟨h807, x808, hx809, hd⟩ := hd
     refine .g r r r (fun _ => .ixa0 un33 sz59 r r h807 (idx_lt hx809 h807) r r .mk) (.g r r r (fun _ => .loA (j := 0) ia59 sz59 .z hx809 r r (.t (.t (.t (.t .nil)))) r r r .mk) ?_)
     obtain ⟨h810, x811, hx812, hd⟩ := hd
     refine .g r r r (fun _ => .ixa0 un33 sz59 r r h810 (idx_lt hx812 h810) r r .mk) (.ww r fun ex => ?_)
     refine .stOA (j := 0) (v' := x803) sz59 .z hx812 r r r (.t (.t (.t (.t .nil)))) r r (.sn 1 r r r (.ck 3 r r trivial) (.e2 16 (.sub (E' := [(0, .slice (some ⟨b805, 0, none⟩) (s792.set s793.toNat x803).length c3), (4, _), (14, _), (17, _), (113, .slice (some ⟨b805, 0, none⟩) (s792.set s793.toNat x803).length c3), (114, _), (115, .slice (some ⟨b805, 0, none⟩) (s792.set s793.toNat x803).length c3), (116, _), (117, _), (118, .slice (some ⟨b805, 0, none⟩) (s792.set s793.toNat x803).length c3), (119, _), (120, _), (121, _), (122, _), (123, .slice (some ⟨b805, 0, none⟩) (s792.set s793.toNat x803).length c3), (124, _), (125, _), (126, _), (127, _)]) ⟨(by simp only [List.length_set]; rfl), r, r, r, (by simp only [List.length_set]; rfl), r, (by simp only [List.length_set]; rfl), r, r, (by simp only [List.length_set]; rfl), r, r, r, r, (by simp only [List.length_set]; rfl), r, r, r, r, trivial⟩ ?_)))
     obtain ⟨h813, x814, hx815, hd⟩ := hd
     exact .ixa0 un33 sz59 r r h813 (idx_lt hx815 h813) r r (.stOA (j := 0) (v' := x808) sz59 .z hx815 r r r (.t (.t (.t (.t .nil)))) r r (.sub (E' := [(0, .slice (some ⟨b805, 0, none⟩) ((s792.set s793.toNat x803).set ((w64 (s793 - 1)).toNat) x808).length c3), (4, _), (14, _), (17, _), (113, .slice (some ⟨b805, 0, none⟩) ((s792.set s793.toNat x803).set ((w64 (s793 - 1)).toNat) x808).length c3), (114, _), (115, .slice (some ⟨b805, 0, none⟩) ((s792.set s793.toNat x803).set ((w64 (s793 - 1)).toNat) x808).length c3), (116, _), (117, _), (118, .slice (some ⟨b805, 0, none⟩) ((s792.set s793.toNat x803).set ((w64 (s793 - 1)).toNat) x808).length c3), (119, _), (120, _), (121, _), (122, _), (123, .slice (some ⟨b805, 0, none⟩) ((s792.set s793.toNat x803).set ((w64 (s793 - 1)).toNat) x808).length c3), (124, _), (125, _), (126, _), (127, _), (128, _)]) ⟨(by simp only [List.length_set]; rfl), r, r, r, (by simp only [List.length_set]; rfl), r, (by simp only [List.length_set]; rfl), r, r, (by simp only [List.length_set]; rfl), r, r, r, r, (by simp only [List.length_set]; rfl), r, r, r, r, r, trivial⟩ (.nilS [17, 14, 4, 0] r r (.region (.ks 3 r (.nil' fun c w ho hs => ⟨(((s792.set s793.toNat x803).set ((w64 (s793 - 1)).toNat) x808), w64 (s793 - 1)), hd, I795, hl796, (by first | exact r | assumption | omega | (simp only [List.length_set]; omega) | (simp only [List.length_set] at *; omega)), ho.sub ⟨r, r, r, r, trivial⟩, hs.pick (.c .z .n)⟩))))))
   exact .exitS [4, 0] r r (.ret (oret results128 .n le798 (.c .z .n) ⟨s792, r, (by first | exact r | assumption | omega | (simp only [List.length_set]; omega) | (simp only [List.length_set] at *; omega)), r, hd⟩))
 refine .skipS [4, 3, 2, 1, 0] r r (.sr (.ks 3 r (.conv un3 un135 r r r (.shr' r r (by decide) r r (.conv un135 un3 r r r (.ks 1 r (.nilS [18, 4, 3, 2, 1, 0] r r (.sr (.ks 4 r ?_)))))))))
 refine .nilS [19, 18, 4, 3, 2, 1, 0] r r (.sr (.ks 2 r (.nilS [19, 18, 4, 3, 2, 1, 0] r r (.seq ?_))))
 refine Cod.joinQ (σ := Int × Int) hd (fun (s : Int × Int) c w => match s with | (s818, s819) => ∃ I_, IH.le I I_ ∧ Ok ⟨220, [], none⟩ [(0, .slice p2 o0.length c3), (1, .int .i64 a0), (2, .int .i64 a1), (3, .int .i64 a2), (4, .func (.func 59) #[] #[]), (18, .int .i64 (w64 (shr .u64 (IntKind.wrap .u64 (w64 (a0 + a2))) 1))), (19, .int .i64 (w64 ((w64 (shr .u64 (IntKind.wrap .u64 (w64 (a0 + a2))) 1)) + a1))), (20, .int .i64 s818), (21, .int .i64 s819)] c ∧ Sym w0 M I I_ [OwnSl eCell 59 p2 c3 o0] w) (fun k820 hd => ?_) ?_
 · skip
   refine .sr (.ks 3 r (.nilS [140, 19, 18, 4, 3, 2, 1, 0] r r (.condP r hd (fun hb821 hd => ?_) fun hb821 hd => ?_)))
   · exact .sr (.ks 4 r (.nilS [20, 19, 18, 4, 3, 2, 1, 0] r r (.region (.ks 2 r (.nil' fun c w ho hs => ⟨(w64 ((w64 ((w64 (shr .u64 (IntKind.wrap .u64 (w64 (a0 + a2))) 1)) + a1)) - a2), w64 (shr .u64 (IntKind.wrap .u64 (w64 (a0 + a2))) 1)), hd, I, (.refl _), ho.sub ⟨r, r, r, r, r, r, r, r, r, trivial⟩, hs.pick (.c .z .n)⟩)))))
   exact .sr (.ks 2 r (.nilS [20, 19, 18, 4, 3, 2, 1, 0] r r (.region (.ks 2 r (.nil' fun c w ho hs => ⟨(a0, a1), hd, I, (.refl _), ho.sub ⟨r, r, r, r, r, r, r, r, r, trivial⟩, hs.pick (.c .z .n)⟩)))))
 rintro ⟨s818, s819⟩ hd c w hst
 obtain ⟨I822, hl823, hok, hsym⟩ := hst
 refine Cod.at hok hsym (.sr (.ks 3 r (.nilS [22, 21, 20, 19, 18, 4, 3, 2, 1, 0] r r (.seq (.block (.loop hd (fun (s : Int × Int) c w => match s with | (s943, s944) => ∃ I_, IH.le I822 I_ ∧ Ok ⟨220, [], none⟩ [(0, .slice p2 o0.length c3), (1, .int .i64 a0), (2, .int .i64 a1), (3, .int .i64 a2), (4, .func (.func 59) #[] #[]), (18, .int .i64 (w64 (shr .u64 (IntKind.wrap .u64 (w64 (a0 + a2))) 1))), (19, .int .i64 (w64 ((w64 (shr .u64 (IntKind.wrap .u64 (w64 (a0 + a2))) 1)) + a1))), (20, .int .i64 s943), (21, .int .i64 s944), (22, .int .i64 (w64 ((w64 ((w64 (shr .u64 (IntKind.wrap .u64 (w64 (a0 + a2))) 1)) + a1)) - 1)))] c ∧ Sym w0 M I I_ [OwnSl eCell 59 p2 c3 o0] w) (fun c w ho hs => ⟨I822, (.refl _), ho.sub ⟨r, r, r, r, r, r, r, r, r, r, trivial⟩, hs.pick (.c .z .n)⟩) ?_))))))
 rintro ⟨s943, s944⟩ next945 hd c w hst
 obtain ⟨I946, hl947, hok, hsym⟩ := hst
 have le948 := IH.le.trans hl823 hl947
 refine Cod.at hok hsym (.seq (.sr (.ks 3 r (.nilS [151, 22, 21, 20, 19, 18, 4, 3, 2, 1, 0] r r (.condP r hd (fun hb950 hd => ?_) fun hb950 hd => ?_)))))
 · refine .skipS [22, 21, 20, 19, 18, 4, 3, 2, 1, 0] r r (.block (.sr (.ks 3 r (.conv un3 un135 r r r (.shr' r r (by decide) r r (.conv un135 un3 r r r (.ks 1 r (.nilS [23, 22, 21, 20, 19, 18, 4, 3, 2, 1, 0] r r (.seq ?_)))))))))
   refine .ownF .z fun hne951 => ?_
   refine .dr [0, 1, 2, 3, 4, 5, 6, 7, 8, 9, 10, 11, 12, 13] 14 (.fk 5 r ?_)
   obtain ⟨h952, x953, hx954, hd⟩ := hd
   obtain ⟨b955, e956⟩ := hne951 (idx_ne hx954)
   cases e956
   refine .g r r r (fun _ => .ixa0 un33 sz59 r r h952 (idx_lt hx954 h952) r r .mk) (.g r r r (fun _ => .loA (j := 0) ia59 sz59 .z hx954 r r (.t (.t (.t (.t .nil)))) r r r .mk) (.fk 2 r ?_))
   obtain ⟨h957, x958, hx959, hd⟩ := hd
   refine .g r r r (fun _ => .ixa0 un33 sz59 r r h957 (idx_lt hx959 h957) r r .mk) (.g r r r (fun _ => .loA (j := 0) ia59 sz59 .z hx959 r r (.t (.t (.t (.t .nil)))) r r r .mk) (.ww r fun ex => ?_))
   have hw960 := W_gemm_order_1ec (I := I946) (a0 := x953) (a1 := x958) hd
   refine .callS (.c call59 r r) .n hw960 r r fun v964 I961 l965 hl962 hv963 => ?_
   obtain ⟨r966, rfl, rfl, hd⟩ := hv963
   have le967 := IH.le.trans le948 hl962
   have le968 := IH.le.trans hl947 hl962
   refine .re (m' := (OwnSl eCell 59 (some ⟨b955, 0, none⟩) c3 o0) :: ex) r (.so 1 r r r trivial (.fk 2 r (.e2 14 (.nilS [171, 23, 22, 21, 20, 19, 18, 4, 3, 2, 1, 0] r r (.condP r hd (fun hb969 hd => ?_) fun hb969 hd => ?_)))))
   · exact .region (.ks 3 r (.nil' fun c w ho hs => ⟨(w64 ((w64 (shr .u64 (IntKind.wrap .u64 (w64 (s943 + s944))) 1)) + 1), s944), hd, I961, le968, ho.sub ⟨r, r, r, r, r, r, r, r, r, r, trivial⟩, hs.pick (.c .z .n)⟩))
   exact .region (.ks 2 r (.nil' fun c w ho hs => ⟨(s943, w64 (shr .u64 (IntKind.wrap .u64 (w64 (s943 + s944))) 1)), hd, I961, le968, ho.sub ⟨r, r, r, r, r, r, r, r, r, r, trivial⟩, hs.pick (.c .z .n)⟩))
 refine .exitS [20, 19, 18, 4, 3, 2, 1, 0] r r (.sr (.ks 4 r (.nilS [24, 20, 18, 4, 3, 2, 1, 0] r r (.seq ?_))))
 refine Cod.joinQ (σ := (List Cell)) hd (fun (s1000 : (List Cell)) c w => ∃ I_, IH.le I946 I_ ∧ s1000.length = o0.length ∧ Ok ⟨220, [], none⟩ [(0, .slice p2 s1000.length c3), (1, .int .i64 a0), (3, .int .i64 a2), (4, .func (.func 59) #[] #[]), (18, .int .i64 (w64 (shr .u64 (IntKind.wrap .u64 (w64 (a0 + a2))) 1))), (20, .int .i64 s943), (24, .int .i64 (w64 ((w64 ((w64 (shr .u64 (IntKind.wrap .u64 (w64 (a0 + a2))) 1)) + a1)) - s943)))] c ∧ Sym w0 M I I_ [OwnSl eCell 59 p2 c3 s1000] w) (fun k1001 hd => ?_) ?_
 · skip
   refine .sr (.ks 4 r ?_)
   refine splitP hd (fun hb1002 hd => ?_) fun hb1002 hd => ?_
   · rw [hb1002]
     refine .ks 4 r (.nilS [185, 24, 20, 18, 4, 3, 2, 1, 0] r r (.condP r hd (fun hb1003 hd => ?_) fun hb1003 hd => ?_))
     · refine .region (.ks 5 r ?_)
       have hw1004 := W_slices_rotateCmpFunc_api_Cell_7d1 (I := I946) (o0 := o0) (a0 := s943) (a1 := a1) (a2 := (w64 ((w64 ((w64 (shr .u64 (IntKind.wrap .u64 (w64 (a0 + a2))) 1)) + a1)) - s943))) (p2 := p2) (c3 := c3) hd
       refine .callS (.f call155 r) (.c .z .n) hw1004 r r fun v1008 I1005 l1009 hl1006 hv1007 => ?_
       obtain ⟨r1010, rfl, hlen1014, rfl, hd⟩ := hv1007
       have le1015 := IH.le.trans le948 hl1006
       have le1016 := IH.le.trans hl947 hl1006
       exact .sub (E' := [(0, .slice p2 r1010.length c3), (1, _), (2, _), (3, _), (4, _), (18, _), (20, _), (24, _), (185, _), (186, .slice p2 r1010.length c3), (187, _), (188, _), (189, _), (190, _), (191, _)]) ⟨(by rw [hlen1014]; rfl), r, r, r, r, r, r, r, r, (by rw [hlen1014]; rfl), r, r, r, r, r, trivial⟩ (.nil' fun c w ho hs => ⟨r1010, hd, I1005, hl1006, (by first | exact r | assumption | omega | (simp only [List.length_set]; omega) | (simp only [List.length_set] at *; omega)), ho.sub ⟨r, r, r, r, r, r, r, trivial⟩, hs.pick (.c .z .n)⟩)
     exact .skip' fun c w ho hs => ⟨o0, hd, I946, (.refl _), (by first | exact r | assumption | omega | (simp only [List.length_set]; omega) | (simp only [List.length_set] at *; omega)), ho.sub ⟨r, r, r, r, r, r, r, trivial⟩, hs.pick (.c .z .n)⟩
   rw [hb1002]
   exact .ks 4 r (.nilS [185, 24, 20, 18, 4, 3, 2, 1, 0] r r (.condKF r r (.skip' fun c w ho hs => ⟨o0, hd, I946, (.refl _), (by first | exact r | assumption | omega | (simp only [List.length_set]; omega) | (simp only [List.length_set] at *; omega)), ho.sub ⟨r, r, r, r, r, r, r, trivial⟩, hs.pick (.c .z .n)⟩)))
 rintro s1000 hd c w hst
 obtain ⟨I1017, hl1018, hlen1019, hok, hsym⟩ := hst
 have le1020 := IH.le.trans le948 hl1018
 have le1021 := IH.le.trans hl947 hl1018
 refine Cod.at hok hsym (.seq ?_)
 refine Cod.joinQ (σ := (List Cell)) hd (fun (s1054 : (List Cell)) c w => ∃ I_, IH.le I1017 I_ ∧ s1054.length = s1000.length ∧ Ok ⟨220, [], none⟩ [(0, .slice p2 s1054.length c3), (3, .int .i64 a2), (4, .func (.func 59) #[] #[]), (18, .int .i64 (w64 (shr .u64 (IntKind.wrap .u64 (w64 (a0 + a2))) 1))), (24, .int .i64 (w64 ((w64 ((w64 (shr .u64 (IntKind.wrap .u64 (w64 (a0 + a2))) 1)) + a1)) - s943)))] c ∧ Sym w0 M I I_ [OwnSl eCell 59 p2 c3 s1054] w) (fun k1055 hd => ?_) ?_
 · skip
   refine .sr (.ks 4 r ?_)
   refine splitP hd (fun hb1056 hd => ?_) fun hb1056 hd => ?_
   · rw [hb1056]
     refine .ks 4 r (.nilS [199, 24, 20, 18, 4, 3, 1, 0] r r (.condP r hd (fun hb1057 hd => ?_) fun hb1057 hd => ?_))
     · refine .region (.ks 5 r ?_)
       have hw1058 := ih (I := I1017) (o0 := s1000) (a0 := a0) (a1 := s943) (a2 := (w64 (shr .u64 (IntKind.wrap .u64 (w64 (a0 + a2))) 1))) (p2 := p2) (c3 := c3) hd
       refine .callS (.f call128 r) (.c .z .n) hw1058 r r fun v1062 I1059 l1063 hl1060 hv1061 => ?_
       obtain ⟨r1064, rfl, hlen1068, rfl, hd⟩ := hv1061
       have le1069 := IH.le.trans le1020 hl1060
       have le1070 := IH.le.trans le1021 hl1060
       have le1071 := IH.le.trans hl1018 hl1060
       exact .sub (E' := [(0, .slice p2 r1064.length c3), (1, _), (3, _), (4, _), (18, _), (20, _), (24, _), (199, _), (200, .slice p2 r1064.length c3), (201, _), (202, _), (203, _), (204, _), (205, _)]) ⟨(by rw [hlen1068]; rfl), r, r, r, r, r, r, r, (by rw [hlen1068]; rfl), r, r, r, r, r, trivial⟩ (.nil' fun c w ho hs => ⟨r1064, hd, I1059, hl1060, (by first | exact r | assumption | omega | (simp only [List.length_set]; omega) | (simp only [List.length_set] at *; omega)), ho.sub ⟨r, r, r, r, r, trivial⟩, hs.pick (.c .z .n)⟩)
     exact .skip' fun c w ho hs => ⟨s1000, hd, I1017, (.refl _), (by first | exact r | assumption | omega | (simp only [List.length_set]; omega) | (simp only [List.length_set] at *; omega)), ho.sub ⟨r, r, r, r, r, trivial⟩, hs.pick (.c .z .n)⟩
   rw [hb1056]
   exact .ks 4 r (.nilS [199, 24, 20, 18, 4, 3, 1, 0] r r (.condKF r r (.skip' fun c w ho hs => ⟨s1000, hd, I1017, (.refl _), (by first | exact r | assumption | omega | (simp only [List.length_set]; omega) | (simp only [List.length_set] at *; omega)), ho.sub ⟨r, r, r, r, r, trivial⟩, hs.pick (.c .z .n)⟩)))
 rintro s1054 hd c w hst
 obtain ⟨I1072, hl1073, hlen1074, hok, hsym⟩ := hst
 have le1075 := IH.le.trans le1020 hl1073
 have le1076 := IH.le.trans le1021 hl1073
 have le1077 := IH.le.trans hl1018 hl1073
 refine Cod.at hok hsym (.sr (.ks 4 r ?_))
 refine splitP hd (fun hb1078 hd => ?_) fun hb1078 hd => ?_
 · rw [hb1078]
   refine .ks 4 r (.nilS [213, 24, 18, 4, 3, 0] r r (.condP r hd (fun hb1079 hd => ?_) fun hb1079 hd => ?_))
   · refine .region (.ks 5 r ?_)
     have hw1080 := ih (I := I1072) (o0 := s1054) (a0 := (w64 (shr .u64 (IntKind.wrap .u64 (w64 (a0 + a2))) 1))) (a1 := (w64 ((w64 ((w64 (shr .u64 (IntKind.wrap .u64 (w64 (a0 + a2))) 1)) + a1)) - s943))) (a2 := a2) (p2 := p2) (c3 := c3) hd
     refine .callS (.f call128 r) (.c .z .n) hw1080 r r fun v1084 I1081 l1085 hl1082 hv1083 => ?_
     obtain ⟨r1086, rfl, hlen1090, rfl, hd⟩ := hv1083
     have le1091 := IH.le.trans le1075 hl1082
     have le1092 := IH.le.trans le1076 hl1082
     have le1093 := IH.le.trans le1077 hl1082
     have le1094 := IH.le.trans hl1073 hl1082
     exact .sub (E' := [(0, .slice p2 r1086.length c3), (3, _), (4, _), (18, _), (24, _), (213, _), (214, .slice p2 r1086.length c3), (215, _), (216, _), (217, _), (218, _), (219, _)]) ⟨(by rw [hlen1090]; rfl), r, r, r, r, r, (by rw [hlen1090]; rfl), r, r, r, r, r, trivial⟩ (.nil' (oretN results128 .n le1091 (.c .z .n) ⟨r1086, r, (by first | exact r | assumption | omega | (simp only [List.length_set]; omega) | (simp only [List.length_set] at *; omega)), r, hd⟩))
   exact .skip' (oretN results128 .n le1075 (.c .z .n) ⟨s1054, r, (by first | exact r | assumption | omega | (simp only [List.length_set]; omega) | (simp only [List.length_set] at *; omega)), r, hd⟩)
 rw [hb1078]
 exact .ks 4 r (.nilS [213, 24, 18, 4, 3, 0] r r (.condKF r r (.skip' (oretN results128 .n le1075 (.c .z .n) ⟨s1054, r, (by first | exact r | assumption | omega | (simp only [List.length_set]; omega) | (simp only [List.length_set] at *; omega)), r, hd⟩))))

theorem W_slices_symMergeCmpFunc_api_Cell_404 {I : IH} {o0 : List Cell} {a0 : Int} {a1 : Int} {a2 : Int} {p2 : Option Addr} {c3 : Nat} {Q : (List Cell) → Prop}  (hd : slices_symMergeCmpFunc_api_Cell_404 o0 a0 a1 a2 Q) :
  Fun prog 128 #[.slice p2 o0.length c3, .int .i64 a0, .int .i64 a1, .int .i64 a2, .func (.func 59) #[] #[]] I [OwnSl eCell 59 p2 c3 o0] (fun I_ v l => ∃ r, v = .tuple #[] ∧ r.length = o0.length ∧ l = [OwnSl eCell 59 p2 c3 r] ∧ Q r) := by
 obtain ⟨k, hd⟩ := hd
 induction k generalizing I o0 a0 a1 a2 p2 c3 Q with | zero => exact hd.elim | succ k ih => exact W_slices_symMergeCmpFunc_api_Cell_404_rec (rc := slices_symMergeCmpFunc_api_Cell_404_it k) (@ih)  hd

theorem W_slices_stableCmpFunc_api_Cell_076 {I : IH} {o0 : List Cell} {a0 : Int} {p2 : Option Addr} {c3 : Nat} {Q : (List Cell) → Prop}  (hd : slices_stableCmpFunc_api_Cell_076 o0 a0 Q) :
  Fun prog 98 #[.slice p2 o0.length c3, .int .i64 a0, .func (.func 59) #[] #[]] I [OwnSl eCell 59 p2 c3 o0] (fun I_ v l => ∃ r, v = .tuple #[] ∧ r.length = o0.length ∧ l = [OwnSl eCell 59 p2 c3 r] ∧ Q r) := by
 refine Fun.enter (vs := [.slice p2 o0.length c3, .int .i64 a0, .func (.func 59) #[] #[]]) func98 r ntmps98 r (.c (.c (.c .n))) fun w0 M => ?_
 refine .sr (.ks 1 r (.nilS [6, 2, 1, 0] r r (.sr (.ks 3 r (.nilS [8, 7, 6, 2, 1, 0] r r (.seq (.block (.loop hd (fun (s : (List Cell) × Int × Int) c w => match s with | (s95, s96, s97) => ∃ I_, IH.le I I_ ∧ s95.length = o0.length ∧ Ok ⟨63, [], none⟩ [(0, .slice p2 s95.length c3), (1, .int .i64 a0), (2, .func (.func 59) #[] #[]), (6, .int .i64 20), (7, .int .i64 s96), (8, .int .i64 s97)] c ∧ Sym w0 M I I_ [OwnSl eCell 59 p2 c3 s95] w) (fun c w ho hs => ⟨I, (.refl _), (by first | exact r | assumption | omega | (simp only [List.length_set]; omega) | (simp only [List.length_set] at *; omega)), ho.sub ⟨r, r, r, r, r, r, trivial⟩, hs.pick (.c .z .n)⟩) ?_))))))))
 rintro ⟨s95, s96, s97⟩ next98 hd c w hst
 obtain ⟨I99, hl100, hlen101, hok, hsym⟩ := hst
 refine Cod.at hok hsym (.seq (.sr (.ks 3 r (.nilS [13, 8, 7, 6, 2, 1, 0] r r (.condP r hd (fun hb103 hd => ?_) fun hb103 hd => ?_)))))
 · refine .skipS [8, 7, 6, 2, 1, 0] r r (.block (.sr (.ks 4 r ?_)))
   have hw104 := W_slices_insertionSortCmpFunc_api_Cell_116 (I := I99) (o0 := s95) (a0 := s96) (a1 := s97) (p2 := p2) (c3 := c3) hd
   refine .callS (.f call127 r) (.c .z .n) hw104 r r fun v108 I105 l109 hl106 hv107 => ?_
   obtain ⟨r110, rfl, hlen114, rfl, hd⟩ := hv107
   have le115 := IH.le.trans hl100 hl106
   exact .sub (E' := [(0, .slice p2 r110.length c3), (1, _), (2, _), (6, _), (7, _), (8, _), (14, .slice p2 r110.length c3), (15, _), (16, _), (17, _), (18, _)]) ⟨(by rw [hlen114]; rfl), r, r, r, r, r, (by rw [hlen114]; rfl), r, r, r, r, trivial⟩ (.nilS [8, 6, 2, 1, 0] r r (.sr (.ks 2 r (.nilS [7, 8, 6, 2, 1, 0] r r (.region (.ks 4 r (.nil' fun c w ho hs => ⟨(r110, s97, w64 (s97 + 20)), hd, I105, le115, (by first | exact r | assumption | omega | (simp only [List.length_set]; omega) | (simp only [List.length_set] at *; omega)), ho.sub ⟨r, r, r, r, r, r, trivial⟩, hs.pick (.c .z .n)⟩)))))))
 refine .exitS [7, 6, 2, 1, 0] r r (.sr (.ks 4 r ?_))
 have hw128 := W_slices_insertionSortCmpFunc_api_Cell_116 (I := I99) (o0 := s95) (a0 := s96) (a1 := a0) (p2 := p2) (c3 := c3) hd
 refine .callS (.f call127 r) (.c .z .n) hw128 r r fun v132 I129 l133 hl130 hv131 => ?_
 obtain ⟨r134, rfl, hlen138, rfl, hd⟩ := hv131
 have le139 := IH.le.trans hl100 hl130
 refine .sub (E' := [(0, .slice p2 r134.length c3), (1, _), (2, _), (6, _), (7, _), (23, .slice p2 r134.length c3), (24, _), (25, _), (26, _), (27, _)]) ⟨(by rw [hlen138]; rfl), r, r, r, r, (by rw [hlen138]; rfl), r, r, r, r, trivial⟩ (.nilS [6, 2, 1, 0] r r (.block (.loop hd (fun (s : (List Cell) × Int) c w => match s with | (s418, s419) => ∃ I_, IH.le I129 I_ ∧ s418.length = r134.length ∧ Ok ⟨63, [], none⟩ [(0, .slice p2 s418.length c3), (1, .int .i64 a0), (2, .func (.func 59) #[] #[]), (6, .int .i64 s419)] c ∧ Sym w0 M I I_ [OwnSl eCell 59 p2 c3 s418] w) (fun c w ho hs => ⟨I129, (.refl _), (by first | exact r | assumption | omega | (simp only [List.length_set]; omega) | (simp only [List.length_set] at *; omega)), ho.sub ⟨r, r, r, r, trivial⟩, hs.pick (.c .z .n)⟩) ?_)))
 rintro ⟨s418, s419⟩ next420 hd c w hst
 obtain ⟨I421, hl422, hlen423, hok, hsym⟩ := hst
 have le424 := IH.le.trans le139 hl422
 refine Cod.at hok hsym (.seq (.sr (.ks 3 r (.nilS [30, 6, 2, 1, 0] r r (.condP r hd (fun hb426 hd => ?_) fun hb426 hd => ?_)))))
 · refine .skipS [6, 2, 1, 0] r r (.block (.sr (.ks 4 r (.nilS [8, 7, 6, 2, 1, 0] r r (.seq (.block (.loop hd (fun (s : (List Cell) × Int × Int) c w => match s with | (s530, s531, s532) => ∃ I_, IH.le I421 I_ ∧ s530.length = s418.length ∧ Ok ⟨63, [], none⟩ [(0, .slice p2 s530.length c3), (1, .int .i64 a0), (2, .func (.func 59) #[] #[]), (6, .int .i64 s419), (7, .int .i64 s531), (8, .int .i64 s532)] c ∧ Sym w0 M I I_ [OwnSl eCell 59 p2 c3 s530] w) (fun c w ho hs => ⟨I421, (.refl _), (by first | exact r | assumption | omega | (simp only [List.length_set]; omega) | (simp only [List.length_set] at *; omega)), ho.sub ⟨r, r, r, r, r, r, trivial⟩, hs.pick (.c .z .n)⟩) ?_)))))))
   rintro ⟨s530, s531, s532⟩ next533 hd c w hst
   obtain ⟨I534, hl535, hlen536, hok, hsym⟩ := hst
   have le537 := IH.le.trans le424 hl535
   have le538 := IH.le.trans hl422 hl535
   refine Cod.at hok hsym (.seq (.sr (.ks 3 r (.nilS [35, 8, 7, 6, 2, 1, 0] r r (.condP r hd (fun hb540 hd => ?_) fun hb540 hd => ?_)))))
   · refine .skipS [8, 7, 6, 2, 1, 0] r r (.block (.sr (.ks 7 r ?_)))
     have hw541 := W_slices_symMergeCmpFunc_api_Cell_404 (I := I534) (o0 := s530) (a0 := s531) (a1 := (w64 (s531 + s419))) (a2 := s532) (p2 := p2) (c3 := c3) hd
     refine .callS (.f call128 r) (.c .z .n) hw541 r r fun v545 I542 l546 hl543 hv544 => ?_
     obtain ⟨r547, rfl, hlen551, rfl, hd⟩ := hv544
     have le552 := IH.le.trans le537 hl543
     have le553 := IH.le.trans le538 hl543
     have le554 := IH.le.trans hl535 hl543
     exact .sub (E' := [(0, .slice p2 r547.length c3), (1, _), (2, _), (6, _), (7, _), (8, _), (36, .slice p2 r547.length c3), (37, _), (38, _), (39, _), (40, _), (41, _), (42, _), (43, _)]) ⟨(by rw [hlen551]; rfl), r, r, r, r, r, (by rw [hlen551]; rfl), r, r, r, r, r, r, r, trivial⟩ (.nilS [8, 6, 2, 1, 0] r r (.sr (.ks 2 r (.nilS [7, 8, 6, 2, 1, 0] r r (.region (.ks 5 r (.nil' fun c w ho hs => ⟨(r547, s532, w64 (s532 + (w64 (2 * s419)))), hd, I542, le554, (by first | exact r | assumption | omega | (simp only [List.length_set]; omega) | (simp only [List.length_set] at *; omega)), ho.sub ⟨r, r, r, r, r, r, trivial⟩, hs.pick (.c .z .n)⟩)))))))
   refine .exitS [7, 6, 2, 1, 0] r r (.seq (.sr (.ks 4 r (.nilS [9, 7, 6, 2, 1, 0] r r (.sr (.ks 3 r (.nilS [54, 9, 7, 6, 2, 1, 0] r r (.condP r hd (fun hb555 hd => ?_) fun hb555 hd => ?_))))))))
   · refine .region (.ks 5 r ?_)
     have hw556 := W_slices_symMergeCmpFunc_api_Cell_404 (I := I534) (o0 := s530) (a0 := s531) (a1 := (w64 (s531 + s419))) (a2 := a0) (p2 := p2) (c3 := c3) hd
     refine .callS (.f call128 r) (.c .z .n) hw556 r r fun v560 I557 l561 hl558 hv559 => ?_
     obtain ⟨r562, rfl, hlen566, rfl, hd⟩ := hv559
     have le567 := IH.le.trans le537 hl558
     have le568 := IH.le.trans le538 hl558
     have le569 := IH.le.trans hl535 hl558
     exact .sub (E' := [(0, .slice p2 r562.length c3), (1, _), (2, _), (6, _), (7, _), (9, _), (54, _), (55, .slice p2 r562.length c3), (56, _), (57, _), (58, _), (59, _), (60, _)]) ⟨(by rw [hlen566]; rfl), r, r, r, r, r, r, (by rw [hlen566]; rfl), r, r, r, r, r, trivial⟩ (.nilS [6, 2, 1, 0] r r (.region (.ks 3 r (.nil' fun c w ho hs => ⟨(r562, w64 (s419 * 2)), hd, I557, le568, (by first | exact r | assumption | omega | (simp only [List.length_set]; omega) | (simp only [List.length_set] at *; omega)), ho.sub ⟨r, r, r, r, trivial⟩, hs.pick (.c .z .n)⟩))))
   exact .skipS [6, 2, 1, 0] r r (.region (.ks 3 r (.nil' fun c w ho hs => ⟨(s530, w64 (s419 * 2)), hd, I534, le538, (by first | exact r | assumption | omega | (simp only [List.length_set]; omega) | (simp only [List.length_set] at *; omega)), ho.sub ⟨r, r, r, r, trivial⟩, hs.pick (.c .z .n)⟩)))
 exact .exit (oretN results98 .n le424 (.c .z .n) ⟨s418, r, (by first | exact r | assumption | omega | (simp only [List.length_set]; omega) | (simp only [List.length_set] at *; omega)), r, hd⟩)

theorem W_slices_SortStableFunc_api_Cell_api_Cell_90a {I : IH} {o0 : List Cell} {p2 : Option Addr} {c3 : Nat} {Q : (List Cell) → Prop}  (hd : slices_SortStableFunc_api_Cell_api_Cell_90a o0 Q) :
  Fun prog 58 #[.slice p2 o0.length c3, .func (.func 59) #[] #[]] I [OwnSl eCell 59 p2 c3 o0] (fun I_ v l => ∃ r, v = .tuple #[] ∧ r.length = o0.length ∧ l = [OwnSl eCell 59 p2 c3 r] ∧ Q r) := by
 refine Fun.enter (vs := [.slice p2 o0.length c3, .func (.func 59) #[] #[]]) func58 r ntmps58 r (.c (.c .n)) fun w0 M => ?_
 refine .region (.ks 2 r (.len un33 r r r r (.ks 1 r ?_)))
 have hw4 := W_slices_stableCmpFunc_api_Cell_076 (I := I) (o0 := o0) (a0 := (o0.length : Int)) (p2 := p2) (c3 := c3) hd
 refine .callS (.f call98 r) (.c .z .n) hw4 r r fun v8 I5 l9 hl6 hv7 => ?_
 obtain ⟨r10, rfl, hlen14, rfl, hd⟩ := hv7
 exact .sub (E' := [(0, .slice p2 r10.length c3), (1, _), (4, .slice p2 r10.length c3), (5, .slice p2 r10.length c3), (6, _), (7, _), (8, _)]) ⟨(by rw [hlen14]; rfl), r, (by rw [hlen14]; rfl), (by rw [hlen14]; rfl), r, r, r, trivial⟩ (.nil' (oretN results58 .n hl6 (.c .z .n) ⟨r10, r, (by first | exact r | assumption | omega | (simp only [List.length_set]; omega) | (simp only [List.length_set] at *; omega)), r, hd⟩))

theorem W_gemm_Merge {I : IH} {a0 : Int} {a1 : List (List Cell)} {p1 : Option Addr} {c2 : Nat} {Q : ((List Cell) × Int) → Prop} (R3 : RepSl (slEl eCell) I p1 c2 a1) (hd : gemm_Merge a0 a1 Q) :
  PFun prog 18 [.int .i64 a0, .slice p1 a1.length c2] I (o14_ Q) := by
 refine Fun.enter func18 r ntmps18 r (.c (.c .n)) fun w0 M => ?_
 refine .sr (.ks 2 r (.nilS [1, 0] r r (.seq (.sr (.ks 1 r ?_)))))
 have hw13 := W_ring_Is (I := I) hd
 refine .callP call34 r hw13 r r fun v14 hv15 => ?_
 obtain ⟨r12, rfl, hd⟩ := hv15
 refine .ks 1 r (.nilS [13, 1, 0] r r (.condP r hd (fun hb16 hd => ?_) fun hb16 hd => ?_))
 · exact .sr (.ks 2 r (.nilS [5, 4] r r (.ret (pret results18 (.t r (.t r .n)) (.refl _) ⟨(([] : List Cell), 8), _, _, r, (.nil _ _ _), hd⟩))))
 refine .skipS [1, 0] r r (.seq (.sr (.ks 1 r ?_)))
 have hw25 := W_slices_ContainsFunc_api_Cell_api_Cell_85a (I := I) (a0 := a1) R3 hd
 refine .callS (.f call54 r) .n hw25 r r fun v29 I26 l30 hl27 hv28 => ?_
 obtain ⟨r31, rfl, rfl, hd⟩ := hv28
 replace R3 := R3.mono hl27
 refine .re (m' := []) r (.nilS [15, 1, 0] r r (.condP r hd (fun hb32 hd => ?_) fun hb32 hd => ?_))
 · exact .sr (.ks 2 r (.nilS [5, 4] r r (.ret (pret results18 (.t r (.t r .n)) hl27 ⟨(([] : List Cell), 6), _, _, r, (.nil _ _ _), hd⟩))))
 refine .skipS [1, 0] r r (.sr (.ks 1 r ?_))
 have hw55 := W_slices_Concat_api_Cell_api_Cell (I := I26) R3 hd
 refine .callO call57 r hw55 r r fun v49 I46 l50 hl47 hv48 => ?_
 obtain ⟨r45, p51, c52, rfl, rfl, hd⟩ := hv48
 have le56 := IH.le.trans hl27 hl47
 replace R3 := R3.mono hl47
 refine .ks 1 r (.nilS [6, 0] r r (.sr (.ks 1 r ?_)))
 have hw69 := W_slices_SortStableFunc_api_Cell_api_Cell_90a (I := I46) (o0 := r45) (p2 := p51) (c3 := c52) hd
 refine .callS (.f call58 r) (.c .z .n) hw69 r r fun v73 I70 l74 hl71 hv72 => ?_
 obtain ⟨r75, rfl, hlen79, rfl, hd⟩ := hv72
 have le80 := IH.le.trans le56 hl71
 refine .sub (E' := [(0, _), (6, .slice p51 r75.length c52), (18, .slice p51 r75.length c52), (19, _)]) ⟨r, (by rw [hlen79]; rfl), (by rw [hlen79]; rfl), r, trivial⟩ (.nilS [6, 0] r r (.sr (.ks 1 r (.nilS [7, 6, 0] r r (.seq (.sr (.ks 1 r (.len un33 r r r r (.ks 1 r ?_)))))))))
 refine .nilS [22, 21, 20, 7, 0] r r (.block (.own0 eCell 59 (.loop hd (fun (s : (List Cell) × Int) c w => match s with | (s193, s197) => ∃ I_ p194 c195, IH.le I70 I_ ∧ Ok ⟨61, [], none⟩ [(0, .int .i64 a0), (7, .slice p194 s193.length c195), (20, .slice p51 r75.length c52), (21, .int .i64 (r75.length : Int)), (22, .int .i64 s197)] c ∧ Sym w0 M I I_ [OwnSl eCell 59 p194 c195 s193, OwnSl eCell 59 p51 c52 r75] w) (fun c w ho hs => ⟨I70, _, _, (.refl _), ho.sub ⟨r, r, r, r, r, trivial⟩, hs.pick (.c .z (.c .z .n))⟩) ?_)))
 rintro ⟨s193, s197⟩ next199 hd c w hst
 obtain ⟨I200, p194, c195, hl201, hok, hsym⟩ := hst
 have le202 := IH.le.trans le80 hl201
 refine Cod.at hok hsym (.sr (.ks 1 r (.nilS [23, 22, 21, 20, 7, 0] r r (.seq (.condP r hd (fun hb204 hd => ?_) fun hb204 hd => ?_)))))
 · refine .skipS [22, 21, 20, 7, 0] r r (.seq (.block (.sr ?_)))
   obtain ⟨h212, x213, hx214, hd⟩ := hd
   refine .ownNe (.s .z) (idx_ne hx214) fun b215 e216 => ?_
   cases e216
   refine .ixa0 un33 sz59 r r h212 (idx_lt hx214 h212) r r (.loA (j := 0) ia59 sz59 (.s .z) hx214 r r (.t (.t (.t (.t .nil)))) r r r (.allocA zv59 r r fun b217 => ?_))
   refine .storeA sz59 r r .z (.t (.t (.t (.t .nil)))) r r (.nilS [9, 22, 21, 20, 7, 0] r r (.seq (.sr (.ks 1 r (.len un33 r r r r (.ks 1 r (.nilS [10, 9, 22, 21, 20, 7, 0] r r (.seq ?_))))))))
   refine Cod.joinQ (σ := Bool) hd (fun (s241 : Bool) c w => ∃ I_, IH.le I200 I_ ∧ Ok ⟨61, [], none⟩ [(0, .int .i64 a0), (7, .slice p194 s193.length c195), (9, .pointer (some ⟨b217, 0, none⟩)), (10, .int .i64 (s193.length : Int)), (20, .slice (some ⟨b215, 0, none⟩) r75.length c52), (21, .int .i64 (r75.length : Int)), (22, .int .i64 s197), (39, .bool s241)] c ∧ Sym w0 M I I_ [OwnSl eCell 59 p194 c195 s193, pto b217 (.cells #[.int .i64 x213.Row, .int .i64 x213.Col, .int .i64 x213.Val.Hi, .int .u64 x213.Val.Lo] 59 (0, 0)), OwnSl eCell 59 (some ⟨b215, 0, none⟩) c52 r75] w) (fun k242 hd => ?_) ?_
   · skip
     refine .ownF (.s .z) fun hne243 => ?_
     refine .dr [0, 1, 2, 3, 4, 5, 6, 7, 8, 9, 10, 11] 12 (.fk 3 r ?_)
     refine splitP hd (fun hb244 hd => ?_) fun hb244 hd => ?_
     · refine .g r r r (fun _ => .gyes r r hb244 (.move r r r .mk)) (.g r r r (fun _ => .gyes r r hb244 (.move r r r .mk)) (.g r r r (fun _ => .gyes r r hb244 (.sub' r r r r .mk)) ?_))
       obtain ⟨h245, x246, hx247, hd⟩ := hd
       obtain ⟨b248, e249⟩ := hne243 (idx_ne hx247)
       cases e249
       refine .g r r r (fun _ => .gyes r r hb244 (.ixa0 un33 sz59 r r h245 (idx_lt hx247 h245) r r .mk)) (.g r r r (fun _ => .gyes r r hb244 (.loA (j := 0) ia59 sz59 (.s .z) hx247 r r (.t (.t (.t (.t .nil)))) r r r .mk)) (.g r r r (fun _ => .gyes r r hb244 (.loadW ia59 sz59 r .z r r r .mk)) (.ww r fun ex => ?_)))
       have hw251 := W_gemm_order (I := I200) hd
       refine .gyes r r hb244 (.callP call59 r hw251 r r fun v252 hv253 => ?_)
       obtain ⟨r250, rfl, hd⟩ := hv253
       exact .so 3 r r r trivial (.g r r r (fun _ => .gyes r r hb244 (.eq r r r r .mk)) (.g r r r (fun _ => .pickT r hb244 r r r .mk) (.e2 12 (.nil' fun c w ho hs => ⟨(r250 == 0), hd, I200, (.refl _), ho.sub ⟨r, r, r, r, r, r, r, r, trivial⟩, hs.pick (.c (.s .z) (.c .z (.c .z .n)))⟩))))
     refine .g r r r (fun _ => .gno r r hb244 r r .mk) (.g r r r (fun _ => .gno r r hb244 r r .mk) (.g r r r (fun _ => .gno r r hb244 r r .mk) (.g r r r (fun _ => .gno r r hb244 r r .mk) (.g r r r (fun _ => .gno r r hb244 r r .mk) (.g r r r (fun _ => .gno r r hb244 r r .mk) (.g r r r (fun _ => .gno r r hb244 r r .mk) (.g r r r (fun _ => .gno r r hb244 r r .mk) (.g r r r (fun _ => .pickF r hb244 r r r .mk) (.e2 12 ?_)))))))))
     exact .nil' fun c w ho hs => ⟨false, hd, I200, (.refl _), ho.sub ⟨r, r, r, r, r, r, r, r, trivial⟩, hs.pick (.c (.s .z) (.c .z (.c .z .n)))⟩
   rintro s241 hd c w hst
   obtain ⟨I254, hl255, hok, hsym⟩ := hst
   have le256 := IH.le.trans le202 hl255
   have le257 := IH.le.trans hl201 hl255
   refine Cod.at hok hsym (.condP r hd (fun hb258 hd => ?_) fun hb258 hd => ?_)
   · refine .seq (.ownF .z fun hne259 => ?_)
     refine .dr [0, 1, 2, 3, 4, 5, 6, 7, 8, 9, 10, 11, 12, 13, 14, 15] 16 (.fk 7 r ?_)
     obtain ⟨h260, x261, hx262, hd⟩ := hd
     obtain ⟨b263, e264⟩ := hne259 (idx_ne hx262)
     cases e264
     refine .g r r r (fun _ => .ixa0 un33 sz59 r r h260 (idx_lt hx262 h260) r r .mk) (.g r r r (fun _ => .fa un59 r sz57 r (o := ((w64 ((s193.length : Int) - 1)).toNat) * 4 + 2) r r r .mk) (.g r r r (fun _ => .loA (j := 2) ia57 sz57 .z hx262 r r (.s (.s (.t (.t .nil)))) r r r .mk) (.g r r r (fun _ => .fa un59 r sz57 r (o := 2) r r r .mk) (.g r r r (fun _ => .loadA ia57 sz57 r (.s .z) (.s (.s (.t (.t .nil)))) r r r .mk) (.ww r fun ex => ?_)))))
     have hw266 := W_ring_Add (I := I254) hd
     refine .callP call46 r hw266 r r fun v267 hv268 => ?_
     obtain ⟨r265, rfl, hd⟩ := hv268
     refine .so 3 r r r (.ck 3 r r trivial) ?_
     obtain ⟨h269, x270, hx271, hd⟩ := hd
     refine .g r r r (fun _ => .ixa0 un33 sz59 r r h269 (idx_lt hx271 h269) r r .mk) (.g r r r (fun _ => .fa un59 r sz57 r (o := ((w64 ((s193.length : Int) - 1)).toNat) * 4 + 2) r r r .mk) (.ww r fun ex => ?_))
     exact .stOA (j := 2) (v' := ({ Row := x270.Row, Col := x270.Col, Val := r265 } : Cell)) sz57 .z hx271 r r r (.s (.s (.t (.t .nil)))) r r (.sn 3 r r r trivial (.e2 16 (.sub (E' := [(0, _), (7, .slice (some ⟨b263, 0, none⟩) (s193.set ((w64 ((s193.length : Int) - 1)).toNat) ({ Row := x270.Row, Col := x270.Col, Val := r265 } : Cell)).length c195), (9, _), (10, _), (20, _), (21, _), (22, _), (39, _), (40, .slice (some ⟨b263, 0, none⟩) (s193.set ((w64 ((s193.length : Int) - 1)).toNat) ({ Row := x270.Row, Col := x270.Col, Val := r265 } : Cell)).length c195), (41, _), (42, _), (43, _), (44, .slice (some ⟨b263, 0, none⟩) (s193.set ((w64 ((s193.length : Int) - 1)).toNat) ({ Row := x270.Row, Col := x270.Col, Val := r265 } : Cell)).length c195), (45, _), (46, _), (47, _), (48, _), (49, _), (50, _), (51, _), (52, _), (53, _), (54, _)]) ⟨r, (by simp only [List.length_set]; rfl), r, r, r, r, r, r, (by simp only [List.length_set]; rfl), r, r, r, (by simp only [List.length_set]; rfl), r, r, r, r, r, r, r, r, r, r, trivial⟩ (.nilS [22, 21, 20, 7, 0] r r (.drop (.s .z) (.exitS [22, 21, 20, 7, 0] r r (.region (.ks 2 r (.nil' fun c w ho hs => ⟨((s193.set ((w64 ((s193.length : Int) - 1)).toNat) ({ Row := x270.Row, Col := x270.Col, Val := r265 } : Cell)), w64 (s197 + 1)), hd, I254, _, _, le257, ho.sub ⟨r, r, r, r, r, trivial⟩, hs.pick (.c .z (.c .z .n))⟩)))))))))
   refine .skipS [22, 21, 20, 9, 7, 0] r r (.region (.ks 1 r (.loadW ia59 sz59 r (.s .z) r r r (.buildSlice 1 un33 sz59 zv59 r r (.c r r r .n) r r fun b272 => ?_))))
   obtain ⟨hl274, hd⟩ := hd
   refine .append (ys := [x213]) 32 (.s .z) un33 un33 IN59 r r r r r r r r r (.box .z (.one r) r) hl274 r r fun p275 c276 => ?_
   exact .ks 1 r (.nilS [7, 22, 21, 20, 0] r r (.drop (.s .z) (.drop (.s .z) (.region (.ks 2 r (.nil' fun c w ho hs => ⟨((s193 ++ ([x213])), w64 (s197 + 1)), hd, I254, _, _, le257, ho.sub ⟨r, r, r, r, r, trivial⟩, hs.pick (.c .z (.c .z .n))⟩))))))
 refine .exitS [7] r r (.drop (.s .z) (.sr (.ks 3 r (.nilS [5, 4] r r (.pub .z fun I278 hl279 R280 => ?_)))))
 have le281 := IH.le.trans le202 hl279
 have le282 := IH.le.trans hl201 hl279
 exact .ret (pret results18 (.t r (.t r .n)) le281 ⟨(s193, 0), _, _, r, R280, hd⟩)

theorem W_law15_live {I : IH} {Q : Bool → Prop}  (hd : law15_live Q) :
  PFun prog 15 [] I (fun _ => o1_ Q) := by
 refine Fun.enter func15 r ntmps15 r .n fun w0 M => ?_
 refine .sr (.ks 1 r (.nilS [] r r (.sr (.build zv91 un91 BI91 (.c r r r (.t .nil) (.c r r r (.s (.t .nil)) (.c r r r (.s (.s (.t .nil))) .n))) (by exact ⟨⟨_, _, r, r, r⟩, ⟨⟨_, _, r, r, r⟩, ⟨⟨_, _, r, r, r⟩, trivial⟩⟩⟩) r r (.build zv91 un91 BI91 (.c r r r (.t .nil) (.c r r r (.s (.t .nil)) (.c r r r (.s (.s (.t .nil))) .n))) (by exact ⟨⟨_, _, r, r, r⟩, ⟨⟨_, _, r, r, r⟩, ⟨⟨_, _, r, r, r⟩, trivial⟩⟩⟩) r r (.build zv91 un91 BI91 (.c r r r (.t .nil) (.c r r r (.s (.t .nil)) (.c r r r (.s (.s (.t .nil))) .n))) (by exact ⟨⟨_, _, r, r, r⟩, ⟨⟨_, _, r, r, r⟩, ⟨⟨_, _, r, r, r⟩, trivial⟩⟩⟩) r r (.buildSlice 3 un24 sz91 zv91 r r (.c r r r (.c r r r (.c r r r .n))) r r fun b25 => ?_)))))))
 refine .pubB (El := eTriple) (ys := ([({ Row := 1, Col := 0, Val := 1 } : Triple), ({ Row := 2, Col := 1, Val := 1 } : Triple), ({ Row := 2, Col := 0, Val := 1 } : Triple)] : List Triple)) (k := 3) .z (RepCs.cons (cs := [.int .i64 1, .int .i64 0, .int .i64 1]) r (RepCs.cons (cs := [.int .i64 2, .int .i64 1, .int .i64 1]) r (RepCs.cons (cs := [.int .i64 2, .int .i64 0, .int .i64 1]) r .nil))) r fun I27 hl28 R29 => ?_
 have hw45 := W_ref07_Of (I := I27) R29 hd
 refine .call call51 r hw45 r r fun v34 I31 hl32 hv33 => ?_
 obtain ⟨r30, p36, c37, p39, c40, p42, c43, rfl, R38, R41, R44, hd⟩ := hv33
 have le46 := IH.le.trans hl28 hl32
 replace R29 := R29.mono hl32
 refine .ks 3 r (.allocA zv30 r r fun b47 => ?_)
 refine .storeA sz30 r r .z (.t (.t (.t (.t (.t .nil))))) r r (.ks 1 r (.nilS [1] r r (.sr (.loadW ia30 sz30 r .z r r r (.loadW ia30 sz30 r .z r r r (.loadW ia30 sz30 r .z r r r ?_))))))
 have hw69 := W_gemm_Cells (I := I31) R38 R41 R44 R38 R41 R44 R38 R41 R44 hd
 refine .call call9 r hw69 r r fun v64 I61 hl62 hv63 => ?_
 obtain ⟨r60, p66, c67, rfl, R68, hd⟩ := hv63
 have le70 := IH.le.trans le46 hl62
 replace R38 := R38.mono hl62
 replace R41 := R41.mono hl62
 replace R44 := R44.mono hl62
 refine .ks 5 r (.nilS [4, 3, 1] r r (.sr (.loadW ia30 sz30 r .z r r r (.loadW ia30 sz30 r .z r r r (.loadW ia30 sz30 r .z r r r ?_)))))
 have hw105 := W_gemm_Times (I := I61) R38 R41 R44 R38 R41 R44 R38 R41 R44 hd
 refine .call call11 r hw105 r r fun v94 I91 hl92 hv93 => ?_
 obtain ⟨r90, p96, c97, p99, c100, p102, c103, rfl, R98, R101, R104, hd⟩ := hv93
 have le106 := IH.le.trans le70 hl92
 replace R38 := R38.mono hl92
 replace R41 := R41.mono hl92
 replace R44 := R44.mono hl92
 replace R68 := R68.mono hl92
 refine .ks 3 r (.allocA zv30 r r fun b107 => ?_)
 refine .storeA sz30 r r .z (.t (.t (.t (.t (.t .nil))))) r r (.ks 1 r (.nilS [6, 5, 4, 3] r r (.drop (.s .z) (.sr (.loadW ia30 sz30 r .z r r r ?_)))))
 have hw114 := W_gemm_Total (I := I91) R98 R101 R104 hd
 refine .callP call13 r hw114 r r fun v115 hv116 => ?_
 obtain ⟨r113, rfl, hd⟩ := hv116
 refine .ks 5 r (.nilS [8, 7, 6, 5, 4, 3] r r (.sr (.ks 2 r (.buildSlice 2 un45 sz33 zeroValue33 r r (.c r r r (.c r r r .n)) r r fun b134 => ?_))))
 refine .pubB (El := (slEl eCell)) (ys := ([r60.1, r60.1] : List (List Cell))) (k := 2) .z (RepCs.cons (cs := [.slice p66 r60.1.length c67]) ⟨_, _, r, R68⟩ (RepCs.cons (cs := [.slice p66 r60.1.length c67]) ⟨_, _, r, R68⟩ .nil)) r fun I136 hl137 R138 => ?_
 have le139 := IH.le.trans le106 hl137
 replace R68 := R68.mono hl137
 replace R98 := R98.mono hl137
 replace R101 := R101.mono hl137
 replace R104 := R104.mono hl137
 have hw149 := W_gemm_Merge (I := I136) R138 hd
 refine .call call18 r hw149 r r fun v144 I141 hl142 hv143 => ?_
 obtain ⟨r140, p146, c147, rfl, R148, hd⟩ := hv143
 have le150 := IH.le.trans le139 hl142
 replace R68 := R68.mono hl142
 replace R98 := R98.mono hl142
 replace R101 := R101.mono hl142
 replace R104 := R104.mono hl142
 replace R138 := R138.mono hl142
 refine .ks 5 r (.nilS [10, 9, 8, 7, 6, 5, 4, 3] r r (.sr (.build zv59 un59 BI59 (.c r r r (.t .nil) .n) (by exact ⟨⟨_, _, r, r, r⟩, trivial⟩) r r (.buildSlice 1 un33 sz59 zv59 r r (.c r r r .n) r r fun b176 => ?_))))
 refine .pubB (El := eCell) (ys := ([({ Row := 1, Col := 0, Val := ({ Hi := 0, Lo := 0 } : Wide) } : Cell)] : List Cell)) (k := 1) .z (.one r) r fun I178 hl179 R180 => ?_
 have le181 := IH.le.trans le150 hl179
 replace R68 := R68.mono hl179
 replace R98 := R98.mono hl179
 replace R101 := R101.mono hl179
 replace R104 := R104.mono hl179
 replace R148 := R148.mono hl179
 have hw197 := W_gemm_Done (I := I178) R180 hd
 refine .call call20 r hw197 r r fun v186 I183 hl184 hv185 => ?_
 obtain ⟨r182, p188, c189, p191, c192, p194, c195, rfl, R190, R193, R196, hd⟩ := hv185
 have le198 := IH.le.trans le181 hl184
 replace R68 := R68.mono hl184
 replace R98 := R98.mono hl184
 replace R101 := R101.mono hl184
 replace R104 := R104.mono hl184
 replace R148 := R148.mono hl184
 replace R180 := R180.mono hl184
 refine .ks 3 r (.allocA zv30 r r fun b199 => ?_)
 refine .storeA sz30 r r .z (.t (.t (.t (.t (.t .nil))))) r r (.ks 1 r (.nilS [12, 10, 9, 8, 7, 6, 5, 4, 3] r r (.drop .z (.sr (.ks 3 r ?_)))))
 refine splitP hd (fun hb201 hd => ?_) fun hb201 hd => ?_
 · rw [hb201]
   refine .ks 1 r (.gyes r r r (.len un33 r r r r (.ks 3 r ?_)))
   refine splitP hd (fun hb202 hd => ?_) fun hb202 hd => ?_
   · rw [hb202]
     refine .ks 1 r ?_
     obtain ⟨h203, x204, hx205, hd⟩ := hd
     obtain ⟨b206, o207, cs208, e209, hC210, hr211⟩ := R68.2 _ _ hx205
     cases hr211
     refine .gyes r r r (.ixa un33 sz59 r e209 r h203 (idx_lt hx205 h203) r r (.gyes r r r (.ldW ia59 sz59 hC210 r r r r (.gyes r r r (.build zv57 un57 BI57 (.c r r r (.s (.t .nil)) .n) (by exact ⟨⟨_, _, r, r, r⟩, trivial⟩) r r (.gyes r r r (.build zv59 un59 BI59 (.c r r r (.t .nil) (.c r r r (.s (.s (.t (.t .nil)))) .n)) (by exact ⟨⟨_, _, r, r, r⟩, ⟨⟨_, _, r, r, r⟩, trivial⟩⟩) r r (.gyes r r r (.eqV r r (EQ59 x204 ({ Row := 2, Col := 0, Val := ({ Hi := 0, Lo := 1 } : Wide) } : Cell)) (EG59 _ _ _ _ _) r r r (.ks 2 r ?_))))))))))
     refine splitP hd (fun hb212 hd => ?_) fun hb212 hd => ?_
     · rw [hb212]
       refine .ks 4 r ?_
       refine splitP hd (fun hb213 hd => ?_) fun hb213 hd => ?_
       · rw [hb213]
         refine .gyes r r r (.fa un30 r sz3 r (o := 0) r r r (.gyes r r r (.load1 ia3 r .z r r r (.ks 3 r ?_))))
         refine splitP hd (fun hb214 hd => ?_) fun hb214 hd => ?_
         · rw [hb214]
           refine .ks 4 r ?_
           refine splitP hd (fun hb215 hd => ?_) fun hb215 hd => ?_
           · rw [hb215]
             refine .ks 4 r ?_
             refine splitP hd (fun hb216 hd => ?_) fun hb216 hd => ?_
             · rw [hb216]
               refine .ks 4 r ?_
               refine splitP hd (fun hb217 hd => ?_) fun hb217 hd => ?_
               · rw [hb217]
                 refine .ks 1 r (.gyes r r r (.len un33 r r r r (.ks 3 r ?_)))
                 refine splitP hd (fun hb218 hd => ?_) fun hb218 hd => ?_
                 · rw [hb218]
                   refine .ks 1 r ?_
                   obtain ⟨h219, x220, hx221, hd⟩ := hd
                   obtain ⟨b222, o223, cs224, e225, hC226, hr227⟩ := R148.2 _ _ hx221
                   cases hr227
                   refine .gyes r r r (.ixa un33 sz59 r e225 r h219 (idx_lt hx221 h219) r r (.gyes r r r (.fa un59 r sz57 r (o := o223 + (Int.toNat 0) * 4 + 2) r r r (.gyes r r r (.ldA (j := 2) ia57 sz57 hC226 r r (.s (.s (.t (.t .nil)))) r r r (.gyes r r r (.build zv57 un57 BI57 (.c r r r (.s (.t .nil)) .n) (by exact ⟨⟨_, _, r, r, r⟩, trivial⟩) r r (.gyes r r r (.eqV r r (EQ57 x220.Val ({ Hi := 0, Lo := 2 } : Wide)) (EG57 _ _ _ _ _) r r r (.ks 2 r ?_))))))))))
                   refine splitP hd (fun hb228 hd => ?_) fun hb228 hd => ?_
                   · rw [hb228]
                     exact .ks 4 r (.nilS [0] r r (.drop .z (.ret (pret results15 (.t r .n) le198 ⟨(r182.2 == 3), r, hd⟩))))
                   rw [hb228]
                   exact .ks 4 r (.nilS [0] r r (.drop .z (.ret (pret results15 (.t r .n) le198 ⟨false, r, hd⟩))))
                 rw [hb218]
                 exact .ks 12 r (.nilS [0] r r (.drop .z (.ret (pret results15 (.t r .n) le198 ⟨false, r, hd⟩))))
               rw [hb217]
               exact .ks 17 r (.nilS [0] r r (.drop .z (.ret (pret results15 (.t r .n) le198 ⟨false, r, hd⟩))))
             rw [hb216]
             exact .ks 21 r (.nilS [0] r r (.drop .z (.ret (pret results15 (.t r .n) le198 ⟨false, r, hd⟩))))
           rw [hb215]
           exact .ks 25 r (.nilS [0] r r (.drop .z (.ret (pret results15 (.t r .n) le198 ⟨false, r, hd⟩))))
         rw [hb214]
         exact .ks 29 r (.nilS [0] r r (.drop .z (.ret (pret results15 (.t r .n) le198 ⟨false, r, hd⟩))))
       rw [hb213]
       exact .ks 34 r (.nilS [0] r r (.drop .z (.ret (pret results15 (.t r .n) le198 ⟨false, r, hd⟩))))
     rw [hb212]
     exact .ks 38 r (.nilS [0] r r (.drop .z (.ret (pret results15 (.t r .n) le198 ⟨false, r, hd⟩))))
   rw [hb202]
   exact .ks 46 r (.nilS [0] r r (.drop .z (.ret (pret results15 (.t r .n) le198 ⟨false, r, hd⟩))))
 rw [hb201]
 exact .ks 51 r (.nilS [0] r r (.drop .z (.ret (pret results15 (.t r .n) le198 ⟨false, r, hd⟩))))

end Go.Proofs.YtjabmpfcpekpdaaGreat
