/- The walks (printed by a program of ours). -/
import Derived.Test.YtjabmpfcpekpdaaGreatV2
namespace Go.Proofs.YtjabmpfcpekpdaaGreat
open Go Go.Fw
set_option linter.unusedVariables false
set_option linter.unusedSimpArgs false
set_option maxRecDepth 8000
set_option maxHeartbeats 1000000
open Tryz
theorem W_ref02_least {I : IH} {a0 : Int} {Q : Bool → Prop}  (hd : ref02_least a0 Q) :
  PFun prog 94 [.int .i64 a0] I (fun _ => o1_ Q) := by
 refine Fun.enter func94 r ntmps94 r (.c .n) fun w0 M => ?_
 refine .sr (.ks 1 r (.nilS [0] r r (.sr (.ks 3 r ?_))))
 refine splitP hd (fun hb1 hd => ?_) fun hb1 hd => ?_
 · rw [hb1]
   exact .ks 8 r (.nilS [2] r r (.ret (pret results94 (.t r .n) (.refl _) ⟨true, r, hd⟩)))
 rw [hb1]
 refine .ks 4 r ?_
 refine splitP hd (fun hb2 hd => ?_) fun hb2 hd => ?_
 · rw [hb2]
   exact .ks 4 r (.nilS [2] r r (.ret (pret results94 (.t r .n) (.refl _) ⟨true, r, hd⟩)))
 rw [hb2]
 exact .ks 4 r (.nilS [2] r r (.ret (pret results94 (.t r .n) (.refl _) ⟨(a0 == 4), r, hd⟩)))

theorem W_ref02_Zero {I : IH} {a0 : Int} {Q : Int → Prop}  (hd : ref02_Zero a0 Q) :
  PFun prog 49 [.int .i64 a0] I (fun _ => o0_ Q) := by
 refine Fun.enter func49 r ntmps49 r (.c .n) fun w0 M => ?_
 refine .sr (.ks 1 r (.nilS [0] r r (.seq (.sr (.ks 1 r ?_)))))
 have hw2 := W_ref02_least (I := I) hd
 refine .callP call94 r hw2 r r fun v3 hv4 => ?_
 obtain ⟨r1, rfl, hd⟩ := hv4
 refine .nilS [4] r r (.condP r hd (fun hb5 hd => ?_) fun hb5 hd => ?_)
 · exact .sr (.ks 1 r (.nilS [2] r r (.ret (pret results49 (.t r .n) (.refl _) ⟨4611686018427387904, r, hd⟩))))
 exact .skipS [] r r (.sr (.ks 1 r (.nilS [2] r r (.ret (pret results49 (.t r .n) (.refl _) ⟨0, r, hd⟩)))))

theorem W_ref15_ahead {I : IH} {a0 : Cell} {a1 : Cell} {Q : Bool → Prop}  (hd : ref15_ahead a0 a1 Q) :
  PFun prog 61 [.agg (encCell a0).toArray, .agg (encCell a1).toArray] I (fun _ => o1_ Q) := by
 refine Fun.enter func61 r ntmps61 r (.c (.c .n)) fun w0 M => ?_
 refine .sr (.boxA r r r fun b5 => ?_)
 refine .boxA r r r fun b7 => ?_
 refine .ks 1 r (.nilS [3, 2] r r (.sr (.fa un59 r sz3 r (o := 0) r r r (.load1 ia3 r (.s .z) r r r (.fa un59 r sz3 r (o := 0) r r r (.load1 ia3 r .z r r r (.ks 2 r ?_)))))))
 refine splitP hd (fun hb9 hd => ?_) fun hb9 hd => ?_
 · rw [hb9]
   exact .ks 14 r (.nilS [4] r r (.drop .z (.drop .z (.ret (pret results61 (.t r .n) (.refl _) ⟨true, r, hd⟩)))))
 rw [hb9]
 refine .gyes r r r (.fa un59 r sz3 r (o := 0) r r r (.gyes r r r (.load1 ia3 r (.s .z) r r r (.gyes r r r (.fa un59 r sz3 r (o := 0) r r r (.gyes r r r (.load1 ia3 r .z r r r (.ks 2 r ?_))))))))
 refine splitP hd (fun hb10 hd => ?_) fun hb10 hd => ?_
 · rw [hb10]
   exact .gyes r r r (.fa un59 r sz3 r (o := 1) r r r (.gyes r r r (.load1 ia3 r (.s .z) r r r (.gyes r r r (.fa un59 r sz3 r (o := 1) r r r (.gyes r r r (.load1 ia3 r .z r r r (.ks 4 r (.nilS [4] r r (.drop .z (.drop .z (.ret (pret results61 (.t r .n) (.refl _) ⟨(decide (a0.Col < a1.Col)), r, hd⟩)))))))))))))
 rw [hb10]
 exact .ks 8 r (.nilS [4] r r (.drop .z (.drop .z (.ret (pret results61 (.t r .n) (.refl _) ⟨false, r, hd⟩)))))

theorem W_ref15_rises {I : IH} {a0 : List Cell} {p1 : Option Addr} {c2 : Nat} {Q : Bool → Prop} (R3 : RepSl eCell I p1 c2 a0) (hd : ref15_rises a0 Q) :
  PFun prog 60 [.slice p1 a0.length c2] I (fun _ => o1_ Q) := by
 refine Fun.enter func60 r ntmps60 r (.c .n) fun w0 M => ?_
 refine .sr (.ks 1 r (.nilS [0] r r (.seq (.sr (.ks 1 r (.nilS [3, 0] r r (.block (.loop hd (fun (s57 : Int) c w => ∃ I_, IH.le I I_ ∧ Ok ⟨21, [], none⟩ [(0, .slice p1 a0.length c2), (3, .int .i64 s57)] c ∧ Sym w0 M I I_ [] w) (fun c w ho hs => ⟨I, (.refl _), ho.sub ⟨r, r, trivial⟩, hs.pick .n⟩) ?_))))))))
 rintro s57 next58 hd c w hst
 obtain ⟨I59, hl60, hok, hsym⟩ := hst
 replace R3 := R3.mono hl60
 refine Cod.at hok hsym (.seq (.sr (.ks 2 r (.len un33 r r r r (.ks 1 r (.nilS [7, 3, 0] r r (.condP r hd (fun hb62 hd => ?_) fun hb62 hd => ?_)))))))
 · refine .skipS [3, 0] r r (.seq (.block (.seq (.dr [0, 1, 2, 3, 4, 5, 6, 7, 8, 9, 10] 11 (.fk 3 r ?_)))))
   obtain ⟨h63, x64, hx65, hd⟩ := hd
   obtain ⟨b66, o67, cs68, e69, hC70, hr71⟩ := R3.2 _ _ hx65
   cases hr71
   refine .g r r r (fun _ => .ixa un33 sz59 r e69 r h63 (idx_lt hx65 h63) r r .mk) (.g r r r (fun _ => .ldW ia59 sz59 hC70 r r r r .mk) (.fk 2 r ?_))
   obtain ⟨h72, x73, hx74, hd⟩ := hd
   obtain ⟨b75, o76, cs77, e78, hC79, hr80⟩ := R3.2 _ _ hx74
   cases hr80
   refine .g r r r (fun _ => .ixa un33 sz59 r e78 r h72 (idx_lt hx74 h72) r r .mk) (.g r r r (fun _ => .ldW ia59 sz59 hC79 r r r r .mk) (.ww r fun ex => ?_))
   have hw82 := W_ref15_ahead (I := I59) hd
   refine .callP call61 r hw82 r r fun v83 hv84 => ?_
   obtain ⟨r81, rfl, hd⟩ := hv84
   refine .so 0 r r r trivial (.fk 1 r (.e2 11 (.nilS [20, 3, 0] r r (.condP r hd (fun hb85 hd => ?_) fun hb85 hd => ?_))))
   · exact .sr (.ks 1 r (.nilS [2] r r (.ret (pret results60 (.t r .n) hl60 ⟨false, r, hd⟩))))
   exact .skipS [3, 0] r r (.region (.ks 3 r (.nil' fun c w ho hs => ⟨(w64 (s57 + 1)), hd, I59, hl60, ho.sub ⟨r, r, trivial⟩, hs.pick .n⟩)))
 exact .exitS [] r r (.sr (.ks 1 r (.nilS [2] r r (.ret (pret results60 (.t r .n) hl60 ⟨true, r, hd⟩)))))

theorem W_ref15_Done {I : IH} {a0 : Int} {a1 : Int} {a2 : Int} {a3 : List Cell} {p1 : Option Addr} {c2 : Nat} {Q : (Rows × Int) → Prop} (R3 : RepSl eCell I p1 c2 a3) (hd : ref15_Done a0 a1 a2 a3 Q) :
  PFun prog 21 [.int .i64 a0, .int .i64 a1, .int .i64 a2, .slice p1 a3.length c2] I (o6_ Q) := by
 refine Fun.enter func21 r ntmps21 r (.c (.c (.c (.c .n)))) fun w0 M => ?_
 refine .sr (.allocA zv30 r r fun b15 => ?_)
 refine .ks 1 r (.nilS [8, 3, 2, 1, 0] r r (.seq (.sr (.ks 1 r ?_))))
 have hw23 := W_ref02_Is (I := I) hd
 refine .callP call38 r hw23 r r fun v24 hv25 => ?_
 obtain ⟨r22, rfl, hd⟩ := hv25
 refine .ks 1 r (.nilS [17, 8, 3, 2, 1, 0] r r (.condP r hd (fun hb26 hd => ?_) fun hb26 hd => ?_))
 · exact .sr (.build zv30 un30 BI30 .n (by exact trivial) r r (.storeA sz30 r r .z (.t (.t (.t (.t (.t .nil))))) r r (.ks 1 r (.nilS [9, 8] r r (.ret (pret results21 (.w ia30 sz30 r .z r (.t r .n)) (.refl _) ⟨(({ Rows := 0, Cols := 0, Start := ([] : List Int), Col := ([] : List Int), Val := ([] : List Int) } : Rows), 8), _, _, _, _, _, _, r, (.nil _ _ _), (.nil _ _ _), (.nil _ _ _), hd⟩))))))
 refine .skipS [8, 3, 2, 1, 0] r r (.seq (.sr (.ks 3 r ?_)))
 refine splitP hd (fun hb31 hd => ?_) fun hb31 hd => ?_
 · rw [hb31]
   exact .ks 11 r (.nilS [32, 8, 3, 2, 1, 0] r r (.condKT r r (.sr (.build zv30 un30 BI30 .n (by exact trivial) r r (.storeA sz30 r r .z (.t (.t (.t (.t (.t .nil))))) r r (.ks 1 r (.nilS [9, 8] r r (.ret (pret results21 (.w ia30 sz30 r .z r (.t r .n)) (.refl _) ⟨(({ Rows := 0, Cols := 0, Start := ([] : List Int), Col := ([] : List Int), Val := ([] : List Int) } : Rows), 3), _, _, _, _, _, _, r, (.nil _ _ _), (.nil _ _ _), (.nil _ _ _), hd⟩)))))))))
 rw [hb31]
 refine .ks 4 r ?_
 refine splitP hd (fun hb32 hd => ?_) fun hb32 hd => ?_
 · rw [hb32]
   exact .ks 7 r (.nilS [32, 8, 3, 2, 1, 0] r r (.condKT r r (.sr (.build zv30 un30 BI30 .n (by exact trivial) r r (.storeA sz30 r r .z (.t (.t (.t (.t (.t .nil))))) r r (.ks 1 r (.nilS [9, 8] r r (.ret (pret results21 (.w ia30 sz30 r .z r (.t r .n)) (.refl _) ⟨(({ Rows := 0, Cols := 0, Start := ([] : List Int), Col := ([] : List Int), Val := ([] : List Int) } : Rows), 3), _, _, _, _, _, _, r, (.nil _ _ _), (.nil _ _ _), (.nil _ _ _), hd⟩)))))))))
 rw [hb32]
 refine .ks 4 r ?_
 refine splitP hd (fun hb33 hd => ?_) fun hb33 hd => ?_
 · rw [hb33]
   exact .ks 3 r (.nilS [32, 8, 3, 2, 1, 0] r r (.condKT r r (.sr (.build zv30 un30 BI30 .n (by exact trivial) r r (.storeA sz30 r r .z (.t (.t (.t (.t (.t .nil))))) r r (.ks 1 r (.nilS [9, 8] r r (.ret (pret results21 (.w ia30 sz30 r .z r (.t r .n)) (.refl _) ⟨(({ Rows := 0, Cols := 0, Start := ([] : List Int), Col := ([] : List Int), Val := ([] : List Int) } : Rows), 3), _, _, _, _, _, _, r, (.nil _ _ _), (.nil _ _ _), (.nil _ _ _), hd⟩)))))))))
 rw [hb33]
 refine .ks 3 r (.nilS [32, 8, 3, 2, 1, 0] r r (.condP r hd (fun hb34 hd => ?_) fun hb34 hd => ?_))
 · exact .sr (.build zv30 un30 BI30 .n (by exact trivial) r r (.storeA sz30 r r .z (.t (.t (.t (.t (.t .nil))))) r r (.ks 1 r (.nilS [9, 8] r r (.ret (pret results21 (.w ia30 sz30 r .z r (.t r .n)) (.refl _) ⟨(({ Rows := 0, Cols := 0, Start := ([] : List Int), Col := ([] : List Int), Val := ([] : List Int) } : Rows), 3), _, _, _, _, _, _, r, (.nil _ _ _), (.nil _ _ _), (.nil _ _ _), hd⟩))))))
 refine .skipS [8, 3, 2, 1, 0] r r (.seq (.sr (.ks 1 r (.nilS [10, 8, 3, 2, 1, 0] r r (.block (.loop hd (fun (s255 : Int) c w => ∃ I_, IH.le I I_ ∧ Ok ⟨125, [], none⟩ [(0, .int .i64 a0), (1, .int .i64 a1), (2, .int .i64 a2), (3, .slice p1 a3.length c2), (8, .pointer (some ⟨b15, 0, none⟩)), (10, .int .i64 s255)] c ∧ Sym w0 M I I_ [pto b15 (.cells #[.int .i64 0, .int .i64 0, .slice none 0 0, .slice none 0 0, .slice none 0 0] 30 (0, 0))] w) (fun c w ho hs => ⟨I, (.refl _), ho.sub ⟨r, r, r, r, r, r, trivial⟩, hs.pick (.c .z .n)⟩) ?_))))))
 rintro s255 next256 hd c w hst
 obtain ⟨I257, hl258, hok, hsym⟩ := hst
 replace R3 := R3.mono hl258
 refine Cod.at hok hsym (.seq (.sr (.ks 2 r (.len un33 r r r r (.ks 1 r (.nilS [37, 10, 8, 3, 2, 1, 0] r r (.condP r hd (fun hb260 hd => ?_) fun hb260 hd => ?_)))))))
 · refine .skipS [10, 8, 3, 2, 1, 0] r r (.seq (.block (.sr (.ks 2 r ?_))))
   obtain ⟨h261, x262, hx263, hd⟩ := hd
   obtain ⟨b264, o265, cs266, e267, hC268, hr269⟩ := R3.2 _ _ hx263
   cases hr269
   refine .ixa un33 sz59 r e267 r h261 (idx_lt hx263 h261) r r (.fa un59 r sz3 r (o := o265 + s255.toNat * 4) r r r (.ld1 (j := 0) ia3 hC268 r r r r r (.ks 2 r ?_)))
   refine splitP hd (fun hb270 hd => ?_) fun hb270 hd => ?_
   · rw [hb270]
     exact .ks 25 r (.nilS [71, 10, 8, 3, 2, 1, 0] r r (.condKT r r (.sr (.build zv30 un30 BI30 .n (by exact trivial) r r (.storeA sz30 r r .z (.t (.t (.t (.t (.t .nil))))) r r (.ks 1 r (.nilS [9, 8] r r (.ret (pret results21 (.w ia30 sz30 r .z r (.t r .n)) hl258 ⟨(({ Rows := 0, Cols := 0, Start := ([] : List Int), Col := ([] : List Int), Val := ([] : List Int) } : Rows), 3), _, _, _, _, _, _, r, (.nil _ _ _), (.nil _ _ _), (.nil _ _ _), hd⟩)))))))))
   rw [hb270]
   refine .ks 2 r ?_
   obtain ⟨h271, x272, hx273, hd⟩ := hd
   obtain ⟨b274, o275, cs276, e277, hC278, hr279⟩ := R3.2 _ _ hx273
   cases hr279
   refine .gyes r r r (.ixa un33 sz59 r e277 r h271 (idx_lt hx273 h271) r r (.gyes r r r (.fa un59 r sz3 r (o := o275 + s255.toNat * 4) r r r (.gyes r r r (.ld1 (j := 0) ia3 hC278 r r r r r (.ks 4 r ?_))))))
   refine splitP hd (fun hb280 hd => ?_) fun hb280 hd => ?_
   · rw [hb280]
     exact .ks 16 r (.nilS [71, 10, 8, 3, 2, 1, 0] r r (.condKT r r (.sr (.build zv30 un30 BI30 .n (by exact trivial) r r (.storeA sz30 r r .z (.t (.t (.t (.t (.t .nil))))) r r (.ks 1 r (.nilS [9, 8] r r (.ret (pret results21 (.w ia30 sz30 r .z r (.t r .n)) hl258 ⟨(({ Rows := 0, Cols := 0, Start := ([] : List Int), Col := ([] : List Int), Val := ([] : List Int) } : Rows), 3), _, _, _, _, _, _, r, (.nil _ _ _), (.nil _ _ _), (.nil _ _ _), hd⟩)))))))))
   rw [hb280]
   refine .ks 2 r ?_
   obtain ⟨h281, x282, hx283, hd⟩ := hd
   obtain ⟨b284, o285, cs286, e287, hC288, hr289⟩ := R3.2 _ _ hx283
   cases hr289
   refine .gyes r r r (.ixa un33 sz59 r e287 r h281 (idx_lt hx283 h281) r r (.gyes r r r (.fa un59 r sz3 r (o := o285 + s255.toNat * 4 + 1) r r r (.gyes r r r (.ld1 (j := 1) ia3 hC288 r r r r r (.ks 3 r ?_))))))
   refine splitP hd (fun hb290 hd => ?_) fun hb290 hd => ?_
   · rw [hb290]
     exact .ks 8 r (.nilS [71, 10, 8, 3, 2, 1, 0] r r (.condKT r r (.sr (.build zv30 un30 BI30 .n (by exact trivial) r r (.storeA sz30 r r .z (.t (.t (.t (.t (.t .nil))))) r r (.ks 1 r (.nilS [9, 8] r r (.ret (pret results21 (.w ia30 sz30 r .z r (.t r .n)) hl258 ⟨(({ Rows := 0, Cols := 0, Start := ([] : List Int), Col := ([] : List Int), Val := ([] : List Int) } : Rows), 3), _, _, _, _, _, _, r, (.nil _ _ _), (.nil _ _ _), (.nil _ _ _), hd⟩)))))))))
   rw [hb290]
   refine .ks 2 r ?_
   obtain ⟨h291, x292, hx293, hd⟩ := hd
   obtain ⟨b294, o295, cs296, e297, hC298, hr299⟩ := R3.2 _ _ hx293
   cases hr299
   refine .gyes r r r (.ixa un33 sz59 r e297 r h291 (idx_lt hx293 h291) r r (.gyes r r r (.fa un59 r sz3 r (o := o295 + s255.toNat * 4 + 1) r r r (.gyes r r r (.ld1 (j := 1) ia3 hC298 r r r r r (.ks 3 r (.nilS [71, 10, 8, 3, 2, 1, 0] r r (.condP r hd (fun hb300 hd => ?_) fun hb300 hd => ?_))))))))
   · exact .sr (.build zv30 un30 BI30 .n (by exact trivial) r r (.storeA sz30 r r .z (.t (.t (.t (.t (.t .nil))))) r r (.ks 1 r (.nilS [9, 8] r r (.ret (pret results21 (.w ia30 sz30 r .z r (.t r .n)) hl258 ⟨(({ Rows := 0, Cols := 0, Start := ([] : List Int), Col := ([] : List Int), Val := ([] : List Int) } : Rows), 3), _, _, _, _, _, _, r, (.nil _ _ _), (.nil _ _ _), (.nil _ _ _), hd⟩))))))
   exact .skipS [10, 8, 3, 2, 1, 0] r r (.region (.ks 3 r (.nil' fun c w ho hs => ⟨(w64 (s255 + 1)), hd, I257, hl258, ho.sub ⟨r, r, r, r, r, r, trivial⟩, hs.pick (.c .z .n)⟩)))
 refine .exitS [8, 3, 2, 1, 0] r r (.seq (.sr (.ks 1 r ?_)))
 have hw307 := W_ref15_rises (I := I257) R3 hd
 refine .callP call60 r hw307 r r fun v308 hv309 => ?_
 obtain ⟨r306, rfl, hd⟩ := hv309
 refine .ks 1 r (.nilS [75, 8, 3, 2, 1, 0] r r (.condP r hd (fun hb310 hd => ?_) fun hb310 hd => ?_))
 · exact .sr (.build zv30 un30 BI30 .n (by exact trivial) r r (.storeA sz30 r r .z (.t (.t (.t (.t (.t .nil))))) r r (.ks 1 r (.nilS [9, 8] r r (.ret (pret results21 (.w ia30 sz30 r .z r (.t r .n)) hl258 ⟨(({ Rows := 0, Cols := 0, Start := ([] : List Int), Col := ([] : List Int), Val := ([] : List Int) } : Rows), 6), _, _, _, _, _, _, r, (.nil _ _ _), (.nil _ _ _), (.nil _ _ _), hd⟩))))))
 refine .skipS [8, 3, 2, 1, 0] r r (.seq (.sr (.ks 1 r (.len un33 r r r r (.ks 1 r (.nilS [79, 8, 3, 2, 1, 0] r r (.condP r hd (fun hb312 hd => ?_) fun hb312 hd => ?_)))))))
 · exact .sr (.build zv30 un30 BI30 .n (by exact trivial) r r (.storeA sz30 r r .z (.t (.t (.t (.t (.t .nil))))) r r (.ks 1 r (.nilS [9, 8] r r (.ret (pret results21 (.w ia30 sz30 r .z r (.t r .n)) hl258 ⟨(({ Rows := 0, Cols := 0, Start := ([] : List Int), Col := ([] : List Int), Val := ([] : List Int) } : Rows), 5), _, _, _, _, _, _, r, (.nil _ _ _), (.nil _ _ _), (.nil _ _ _), hd⟩))))))
 refine .skipS [8, 3, 2, 1, 0] r r (.sr (.ks 1 r (.nilS [11, 8, 3, 2, 1, 0] r r (.seq (.sr (.ks 1 r (.nilS [12, 11, 8, 3, 2, 1, 0] r r (.block (.own0 eTriple 91 ?_)))))))))
 refine .loop hd (fun (s : (List Triple) × Int) c w => match s with | (s673, s677) => ∃ I_ p674 c675, IH.le I257 I_ ∧ Ok ⟨125, [], none⟩ [(0, .int .i64 a0), (1, .int .i64 a1), (2, .int .i64 a2), (3, .slice p1 a3.length c2), (8, .pointer (some ⟨b15, 0, none⟩)), (11, .slice p674 s673.length c675), (12, .int .i64 s677)] c ∧ Sym w0 M I I_ [pto b15 (.cells #[.int .i64 0, .int .i64 0, .slice none 0 0, .slice none 0 0, .slice none 0 0] 30 (0, 0)), OwnSl eTriple 91 p674 c675 s673] w) (fun c w ho hs => ⟨I257, _, _, (.refl _), ho.sub ⟨r, r, r, r, r, r, r, trivial⟩, hs.pick (.c (.s .z) (.c .z .n))⟩) ?_
 rintro ⟨s673, s677⟩ next679 hd c w hst
 obtain ⟨I680, p674, c675, hl681, hok, hsym⟩ := hst
 have le682 := IH.le.trans hl258 hl681
 replace R3 := R3.mono hl681
 refine Cod.at hok hsym (.seq (.sr (.ks 2 r (.len un33 r r r r (.ks 1 r (.nilS [84, 12, 11, 8, 3, 2, 1, 0] r r (.condP r hd (fun hb684 hd => ?_) fun hb684 hd => ?_)))))))
 · refine .skipS [12, 11, 8, 3, 2, 1, 0] r r (.seq (.block (.sr (.ks 2 r ?_))))
   obtain ⟨h698, x699, hx700, hd⟩ := hd
   obtain ⟨b701, o702, cs703, e704, hC705, hr706⟩ := R3.2 _ _ hx700
   cases hr706
   refine .ixa un33 sz59 r e704 r h698 (idx_lt hx700 h698) r r (.fa un59 r sz57 r (o := o702 + s677.toNat * 4 + 2) r r r (.ldA (j := 2) ia57 sz57 hC705 r r (.s (.s (.t (.t .nil)))) r r r ?_))
   have hw708 := W_ref01_Narrow (I := I680) hd
   refine .callP call50 r hw708 r r fun v709 hv710 => ?_
   obtain ⟨r707, rfl, hd⟩ := hv710
   refine .ks 5 r (.nilS [14, 13, 12, 11, 8, 3, 2, 1, 0] r r (.seq (.sr (.ks 2 r (.nilS [97, 13, 12, 11, 8, 3, 2, 1, 0] r r (.condP r hd (fun hb712 hd => ?_) fun hb712 hd => ?_))))))
   · exact .sr (.build zv30 un30 BI30 .n (by exact trivial) r r (.storeA sz30 r r .z (.t (.t (.t (.t (.t .nil))))) r r (.ks 1 r (.nilS [9, 8] r r (.drop (.s .z) (.ret (pret results21 (.w ia30 sz30 r .z r (.t r .n)) le682 ⟨(({ Rows := 0, Cols := 0, Start := ([] : List Int), Col := ([] : List Int), Val := ([] : List Int) } : Rows), 12), _, _, _, _, _, _, r, (.nil _ _ _), (.nil _ _ _), (.nil _ _ _), hd⟩)))))))
   refine .skipS [13, 12, 11, 8, 3, 2, 1, 0] r r (.sr (.ks 2 r ?_))
   have hw718 := W_ref02_Zero (I := I680) hd
   refine .callP call49 r hw718 r r fun v719 hv720 => ?_
   obtain ⟨r717, rfl, hd⟩ := hv720
   refine .ks 1 r (.nilS [102, 13, 12, 11, 8, 3, 2, 1, 0] r r (.condP r hd (fun hb721 hd => ?_) fun hb721 hd => ?_))
   · refine .ownF (.s .z) fun hne722 => ?_
     refine .dr [0, 1, 2, 3, 4, 5, 6, 7, 8, 9, 10, 11, 12, 13, 14] 15 (.fk 3 r ?_)
     obtain ⟨h723, x724, hx725, hd⟩ := hd
     obtain ⟨b726, o727, cs728, e729, hC730, hr731⟩ := R3.2 _ _ hx725
     cases hr731
     refine .g r r r (fun _ => .ixa un33 sz59 r e729 r h723 (idx_lt hx725 h723) r r .mk) (.g r r r (fun _ => .fa un59 r sz3 r (o := o727 + s677.toNat * 4) r r r .mk) (.g r r r (fun _ => .ld1 (j := 0) ia3 hC730 r r r r r .mk) (.fk 2 r ?_)))
     obtain ⟨h732, x733, hx734, hd⟩ := hd
     obtain ⟨b735, o736, cs737, e738, hC739, hr740⟩ := R3.2 _ _ hx734
     cases hr740
     refine .g r r r (fun _ => .ixa un33 sz59 r e738 r h732 (idx_lt hx734 h732) r r .mk) (.g r r r (fun _ => .fa un59 r sz3 r (o := o736 + s677.toNat * 4 + 1) r r r .mk) (.g r r r (fun _ => .ld1 (j := 1) ia3 hC739 r r r r r .mk) (.fk 1 r (.g r r r (fun _ => .build zv91 un91 BI91 (.c r r r (.t .nil) (.c r r r (.s (.t .nil)) (.c r r r (.s (.s (.t .nil))) .n))) (by exact ⟨⟨_, _, r, r, r⟩, ⟨⟨_, _, r, r, r⟩, ⟨⟨_, _, r, r, r⟩, trivial⟩⟩⟩) r r .mk) (.ww r fun ex => ?_)))))
     refine .buildSlice 1 un24 sz91 zv91 r r (.c r r r .n) r r fun b741 => ?_
     refine .so 3 r r r (.ck 1 r r trivial) (.ww r fun ex => ?_)
     obtain ⟨hl743, hd⟩ := hd
     refine .append (ys := [({ Row := x724.Row, Col := x733.Col, Val := r707.1 } : Triple)]) 24 (.s (.s .z)) un24 un24 IN91 r r r r r r r r r (.box .z (.one r) r) hl743 r r fun p744 c745 => ?_
     exact .so 3 r r r trivial (.e2 15 (.ks 1 r (.nilS [11, 12, 8, 3, 2, 1, 0] r r (.drop (.s .z) (.region (.ks 3 r (.nil' fun c w ho hs => ⟨((s673 ++ ([({ Row := x724.Row, Col := x733.Col, Val := r707.1 } : Triple)])), w64 (s677 + 1)), hd, I680, _, _, hl681, ho.sub ⟨r, r, r, r, r, r, r, trivial⟩, hs.pick (.c (.s .z) (.c .z .n))⟩)))))))
   exact .skipS [12, 11, 8, 3, 2, 1, 0] r r (.region (.ks 3 r (.nil' fun c w ho hs => ⟨(s673, w64 (s677 + 1)), hd, I680, _, _, hl681, ho.sub ⟨r, r, r, r, r, r, r, trivial⟩, hs.pick (.c .z (.c .z .n))⟩)))
 refine .exitS [11, 8, 2, 1, 0] r r (.sr (.ks 4 r (.pub (.s .z) fun I747 hl748 R749 => ?_)))
 have le750 := IH.le.trans le682 hl748
 have le751 := IH.le.trans hl681 hl748
 have hw767 := W_ref07_Of (I := I747) R749 hd
 refine .call call51 r hw767 r r fun v756 I753 hl754 hv755 => ?_
 obtain ⟨r752, p758, c759, p761, c762, p764, c765, rfl, R760, R763, R766, hd⟩ := hv755
 have le768 := IH.le.trans le750 hl754
 have le769 := IH.le.trans le751 hl754
 replace R749 := R749.mono hl754
 exact .ks 2 r (.storeA sz30 r r .z (.t (.t (.t (.t (.t .nil))))) r r (.ks 1 r (.nilS [9, 8] r r (.ret (pret results21 (.w ia30 sz30 r .z r (.t r .n)) le768 ⟨(r752.1, r752.2), _, _, _, _, _, _, r, R760, R763, R766, hd⟩)))))

theorem W_ref15_SameCells {I : IH} {a0 : List Cell} {a1 : List Cell} {p1 : Option Addr} {c2 : Nat} {p4 : Option Addr} {c5 : Nat} {Q : Bool → Prop} (R3 : RepSl eCell I p1 c2 a0) (R6 : RepSl eCell I p4 c5 a1) (hd : ref15_SameCells a0 a1 Q) :
  PFun prog 16 [.slice p1 a0.length c2, .slice p4 a1.length c5] I (fun _ => o1_ Q) := by
 refine Fun.enter func16 r ntmps16 r (.c (.c .n)) fun w0 M => ?_
 refine .sr (.ks 1 r (.nilS [1, 0] r r (.seq (.sr (.ks 1 r (.len un33 r r r r (.ks 1 r (.len un33 r r r r (.ks 1 r ?_)))))))))
 refine .nilS [10, 1, 0] r r (.condP r hd (fun hb8 hd => ?_) fun hb8 hd => ?_)
 · exact .sr (.ks 1 r (.nilS [4] r r (.ret (pret results16 (.t r .n) (.refl _) ⟨false, r, hd⟩))))
 refine .skipS [1, 0] r r (.seq (.sr (.ks 1 r (.nilS [5, 1, 0] r r (.block (.loop hd (fun (s54 : Int) c w => ∃ I_, IH.le I I_ ∧ Ok ⟨26, [], none⟩ [(0, .slice p1 a0.length c2), (1, .slice p4 a1.length c5), (5, .int .i64 s54)] c ∧ Sym w0 M I I_ [] w) (fun c w ho hs => ⟨I, (.refl _), ho.sub ⟨r, r, r, trivial⟩, hs.pick .n⟩) ?_))))))
 rintro s54 next55 hd c w hst
 obtain ⟨I56, hl57, hok, hsym⟩ := hst
 replace R3 := R3.mono hl57
 replace R6 := R6.mono hl57
 refine Cod.at hok hsym (.seq (.sr (.ks 2 r (.len un33 r r r r (.ks 1 r (.nilS [14, 5, 1, 0] r r (.condP r hd (fun hb59 hd => ?_) fun hb59 hd => ?_)))))))
 · refine .skipS [5, 1, 0] r r (.seq (.block (.seq (.dr [0, 1, 2, 3, 4, 5, 6, 7, 8] 9 (.fk 2 r ?_)))))
   obtain ⟨h60, x61, hx62, hd⟩ := hd
   obtain ⟨b63, o64, cs65, e66, hC67, hr68⟩ := R3.2 _ _ hx62
   cases hr68
   refine .g r r r (fun _ => .ixa un33 sz59 r e66 r h60 (idx_lt hx62 h60) r r .mk) (.g r r r (fun _ => .ldW ia59 sz59 hC67 r r r r .mk) (.fk 2 r ?_))
   obtain ⟨h69, x70, hx71, hd⟩ := hd
   obtain ⟨b72, o73, cs74, e75, hC76, hr77⟩ := R6.2 _ _ hx71
   cases hr77
   refine .g r r r (fun _ => .ixa un33 sz59 r e75 r h69 (idx_lt hx71 h69) r r .mk) (.g r r r (fun _ => .ldW ia59 sz59 hC76 r r r r .mk) (.g r r r (fun _ => .neV r r (EQ59 x61 x70) (EG59 _ _ _ _ _) r r r .mk) (.e2 9 (.nilS [25, 5, 1, 0] r r (.condP r hd (fun hb78 hd => ?_) fun hb78 hd => ?_)))))
   · exact .sr (.ks 1 r (.nilS [4] r r (.ret (pret results16 (.t r .n) hl57 ⟨false, r, hd⟩))))
   exact .skipS [5, 1, 0] r r (.region (.ks 3 r (.nil' fun c w ho hs => ⟨(w64 (s54 + 1)), hd, I56, hl57, ho.sub ⟨r, r, r, trivial⟩, hs.pick .n⟩)))
 exact .exitS [] r r (.sr (.ks 1 r (.nilS [4] r r (.ret (pret results16 (.t r .n) hl57 ⟨true, r, hd⟩)))))

theorem W_ref03_SameInts {I : IH} {a0 : List Int} {a1 : List Int} {p1 : Option Addr} {c2 : Nat} {p4 : Option Addr} {c5 : Nat} {Q : Bool → Prop} (R3 : RepSl eI64 I p1 c2 a0) (R6 : RepSl eI64 I p4 c5 a1) (hd : ref03_SameInts a0 a1 Q) :
  PFun prog 52 [.slice p1 a0.length c2, .slice p4 a1.length c5] I (fun _ => o1_ Q) := by
 refine Fun.enter func52 r ntmps52 r (.c (.c .n)) fun w0 M => ?_
 refine .sr (.ks 1 r (.nilS [1, 0] r r (.seq (.sr (.ks 1 r (.len un27 r r r r (.ks 1 r (.len un27 r r r r (.ks 1 r ?_)))))))))
 refine .nilS [10, 1, 0] r r (.condP r hd (fun hb8 hd => ?_) fun hb8 hd => ?_)
 · exact .sr (.ks 1 r (.nilS [4] r r (.ret (pret results52 (.t r .n) (.refl _) ⟨false, r, hd⟩))))
 refine .skipS [1, 0] r r (.seq (.sr (.ks 1 r (.nilS [5, 1, 0] r r (.block (.loop hd (fun (s54 : Int) c w => ∃ I_, IH.le I I_ ∧ Ok ⟨26, [], none⟩ [(0, .slice p1 a0.length c2), (1, .slice p4 a1.length c5), (5, .int .i64 s54)] c ∧ Sym w0 M I I_ [] w) (fun c w ho hs => ⟨I, (.refl _), ho.sub ⟨r, r, r, trivial⟩, hs.pick .n⟩) ?_))))))
 rintro s54 next55 hd c w hst
 obtain ⟨I56, hl57, hok, hsym⟩ := hst
 replace R3 := R3.mono hl57
 replace R6 := R6.mono hl57
 refine Cod.at hok hsym (.seq (.sr (.ks 2 r (.len un27 r r r r (.ks 1 r (.nilS [14, 5, 1, 0] r r (.condP r hd (fun hb59 hd => ?_) fun hb59 hd => ?_)))))))
 · refine .skipS [5, 1, 0] r r (.seq (.block (.seq (.dr [0, 1, 2, 3, 4, 5, 6, 7, 8] 9 (.fk 2 r ?_)))))
   obtain ⟨h60, x61, hx62, hd⟩ := hd
   obtain ⟨b63, o64, cs65, e66, hC67, hr68⟩ := R3.2 _ _ hx62
   cases hr68
   refine .g r r r (fun _ => .ixa un27 sz3 r e66 r h60 (idx_lt hx62 h60) r r .mk) (.g r r r (fun _ => .ld1 (j := 0) ia3 hC67 r r r r r .mk) (.fk 2 r ?_))
   obtain ⟨h69, x70, hx71, hd⟩ := hd
   obtain ⟨b72, o73, cs74, e75, hC76, hr77⟩ := R6.2 _ _ hx71
   cases hr77
   refine .g r r r (fun _ => .ixa un27 sz3 r e75 r h69 (idx_lt hx71 h69) r r .mk) (.g r r r (fun _ => .ld1 (j := 0) ia3 hC76 r r r r r .mk) (.fk 1 r (.e2 9 (.nilS [25, 5, 1, 0] r r (.condP r hd (fun hb78 hd => ?_) fun hb78 hd => ?_)))))
   · exact .sr (.ks 1 r (.nilS [4] r r (.ret (pret results52 (.t r .n) hl57 ⟨false, r, hd⟩))))
   exact .skipS [5, 1, 0] r r (.region (.ks 3 r (.nil' fun c w ho hs => ⟨(w64 (s54 + 1)), hd, I56, hl57, ho.sub ⟨r, r, r, trivial⟩, hs.pick .n⟩)))
 exact .exitS [] r r (.sr (.ks 1 r (.nilS [4] r r (.ret (pret results52 (.t r .n) hl57 ⟨true, r, hd⟩)))))

theorem W_ref07_SameVals {I : IH} {a0 : List Int} {a1 : List Int} {p1 : Option Addr} {c2 : Nat} {p4 : Option Addr} {c5 : Nat} {Q : Bool → Prop} (R3 : RepSl eI64 I p1 c2 a0) (R6 : RepSl eI64 I p4 c5 a1) (hd : ref07_SameVals a0 a1 Q) :
  PFun prog 53 [.slice p1 a0.length c2, .slice p4 a1.length c5] I (fun _ => o1_ Q) := by
 refine Fun.enter func53 r ntmps53 r (.c (.c .n)) fun w0 M => ?_
 refine .sr (.ks 1 r (.nilS [1, 0] r r (.seq (.sr (.ks 1 r (.len un28 r r r r (.ks 1 r (.len un28 r r r r (.ks 1 r ?_)))))))))
 refine .nilS [10, 1, 0] r r (.condP r hd (fun hb8 hd => ?_) fun hb8 hd => ?_)
 · exact .sr (.ks 1 r (.nilS [4] r r (.ret (pret results53 (.t r .n) (.refl _) ⟨false, r, hd⟩))))
 refine .skipS [1, 0] r r (.seq (.sr (.ks 1 r (.nilS [5, 1, 0] r r (.block (.loop hd (fun (s54 : Int) c w => ∃ I_, IH.le I I_ ∧ Ok ⟨26, [], none⟩ [(0, .slice p1 a0.length c2), (1, .slice p4 a1.length c5), (5, .int .i64 s54)] c ∧ Sym w0 M I I_ [] w) (fun c w ho hs => ⟨I, (.refl _), ho.sub ⟨r, r, r, trivial⟩, hs.pick .n⟩) ?_))))))
 rintro s54 next55 hd c w hst
 obtain ⟨I56, hl57, hok, hsym⟩ := hst
 replace R3 := R3.mono hl57
 replace R6 := R6.mono hl57
 refine Cod.at hok hsym (.seq (.sr (.ks 2 r (.len un28 r r r r (.ks 1 r (.nilS [14, 5, 1, 0] r r (.condP r hd (fun hb59 hd => ?_) fun hb59 hd => ?_)))))))
 · refine .skipS [5, 1, 0] r r (.seq (.block (.seq (.dr [0, 1, 2, 3, 4, 5, 6, 7, 8] 9 (.fk 2 r ?_)))))
   obtain ⟨h60, x61, hx62, hd⟩ := hd
   obtain ⟨b63, o64, cs65, e66, hC67, hr68⟩ := R3.2 _ _ hx62
   cases hr68
   refine .g r r r (fun _ => .ixa un28 sz2 r e66 r h60 (idx_lt hx62 h60) r r .mk) (.g r r r (fun _ => .ld1 (j := 0) ia2 hC67 r r r r r .mk) (.fk 2 r ?_))
   obtain ⟨h69, x70, hx71, hd⟩ := hd
   obtain ⟨b72, o73, cs74, e75, hC76, hr77⟩ := R6.2 _ _ hx71
   cases hr77
   refine .g r r r (fun _ => .ixa un28 sz2 r e75 r h69 (idx_lt hx71 h69) r r .mk) (.g r r r (fun _ => .ld1 (j := 0) ia2 hC76 r r r r r .mk) (.fk 1 r (.e2 9 (.nilS [25, 5, 1, 0] r r (.condP r hd (fun hb78 hd => ?_) fun hb78 hd => ?_)))))
   · exact .sr (.ks 1 r (.nilS [4] r r (.ret (pret results53 (.t r .n) hl57 ⟨false, r, hd⟩))))
   exact .skipS [5, 1, 0] r r (.region (.ks 3 r (.nil' fun c w ho hs => ⟨(w64 (s54 + 1)), hd, I56, hl57, ho.sub ⟨r, r, r, trivial⟩, hs.pick .n⟩)))
 exact .exitS [] r r (.sr (.ks 1 r (.nilS [4] r r (.ret (pret results53 (.t r .n) hl57 ⟨true, r, hd⟩)))))

theorem W_ref07_Same {I : IH} {a0 : Rows} {a1 : Rows} {p1 : Option Addr} {c2 : Nat} {p4 : Option Addr} {c5 : Nat} {p7 : Option Addr} {c8 : Nat} {p10 : Option Addr} {c11 : Nat} {p13 : Option Addr} {c14 : Nat} {p16 : Option Addr} {c17 : Nat} {Q : Bool → Prop} (R3 : RepSl eI64 I p1 c2 a0.Start) (R6 : RepSl eI64 I p4 c5 a0.Col) (R9 : RepSl eI64 I p7 c8 a0.Val) (R12 : RepSl eI64 I p10 c11 a1.Start) (R15 : RepSl eI64 I p13 c14 a1.Col) (R18 : RepSl eI64 I p16 c17 a1.Val) (hd : ref07_Same a0 a1 Q) :
  PFun prog 17 [.agg #[.int .i64 a0.Rows, .int .i64 a0.Cols, .slice p1 a0.Start.length c2, .slice p4 a0.Col.length c5, .slice p7 a0.Val.length c8], .agg #[.int .i64 a1.Rows, .int .i64 a1.Cols, .slice p10 a1.Start.length c11, .slice p13 a1.Col.length c14, .slice p16 a1.Val.length c17]] I (fun _ => o1_ Q) := by
 refine Fun.enter func17 r ntmps17 r (.c (.c .n)) fun w0 M => ?_
 refine .sr (.boxA r r r fun b23 => ?_)
 refine .boxA r r r fun b25 => ?_
 refine .ks 1 r (.nilS [3, 2] r r (.sr (.fa un30 r sz3 r (o := 0) r r r (.load1 ia3 r (.s .z) r r r (.fa un30 r sz3 r (o := 0) r r r (.load1 ia3 r .z r r r (.ks 2 r ?_)))))))
 refine splitP hd (fun hb27 hd => ?_) fun hb27 hd => ?_
 · rw [hb27]
   refine .gyes r r r (.fa un30 r sz3 r (o := 1) r r r (.gyes r r r (.load1 ia3 r (.s .z) r r r (.gyes r r r (.fa un30 r sz3 r (o := 1) r r r (.gyes r r r (.load1 ia3 r .z r r r (.ks 3 r ?_))))))))
   refine splitP hd (fun hb28 hd => ?_) fun hb28 hd => ?_
   · rw [hb28]
     refine .gyes r r r (.fa un30 r sz27 r (o := 2) r r r (.gyes r r r (.load1 ia27 r (.s .z) r r r (.gyes r r r (.fa un30 r sz27 r (o := 2) r r r (.gyes r r r (.load1 ia27 r .z r r r ?_)))))))
     have hw30 := W_ref03_SameInts (I := I) R3 R12 hd
     refine .gyes r r r (.callP call52 r hw30 r r fun v31 hv32 => ?_)
     obtain ⟨r29, rfl, hd⟩ := hv32
     refine .ks 2 r ?_
     refine splitP hd (fun hb33 hd => ?_) fun hb33 hd => ?_
     · rw [hb33]
       refine .gyes r r r (.fa un30 r sz27 r (o := 3) r r r (.gyes r r r (.load1 ia27 r (.s .z) r r r (.gyes r r r (.fa un30 r sz27 r (o := 3) r r r (.gyes r r r (.load1 ia27 r .z r r r ?_)))))))
       have hw35 := W_ref03_SameInts (I := I) R6 R15 hd
       refine .gyes r r r (.callP call52 r hw35 r r fun v36 hv37 => ?_)
       obtain ⟨r34, rfl, hd⟩ := hv37
       refine .ks 2 r ?_
       refine splitP hd (fun hb38 hd => ?_) fun hb38 hd => ?_
       · rw [hb38]
         refine .gyes r r r (.fa un30 r sz28 r (o := 4) r r r (.gyes r r r (.load1 ia28 r (.s .z) r r r (.gyes r r r (.fa un30 r sz28 r (o := 4) r r r (.gyes r r r (.load1 ia28 r .z r r r ?_)))))))
         have hw40 := W_ref07_SameVals (I := I) R9 R18 hd
         refine .gyes r r r (.callP call53 r hw40 r r fun v41 hv42 => ?_)
         obtain ⟨r39, rfl, hd⟩ := hv42
         exact .ks 2 r (.nilS [4] r r (.drop .z (.drop .z (.ret (pret results17 (.t r .n) (.refl _) ⟨r39, r, hd⟩)))))
       rw [hb38]
       exact .ks 7 r (.nilS [4] r r (.drop .z (.drop .z (.ret (pret results17 (.t r .n) (.refl _) ⟨false, r, hd⟩)))))
     rw [hb33]
     exact .ks 14 r (.nilS [4] r r (.drop .z (.drop .z (.ret (pret results17 (.t r .n) (.refl _) ⟨false, r, hd⟩)))))
   rw [hb28]
   exact .ks 21 r (.nilS [4] r r (.drop .z (.drop .z (.ret (pret results17 (.t r .n) (.refl _) ⟨false, r, hd⟩)))))
 rw [hb27]
 exact .ks 28 r (.nilS [4] r r (.drop .z (.drop .z (.ret (pret results17 (.t r .n) (.refl _) ⟨false, r, hd⟩)))))

theorem W_ref15_Merge {I : IH} {a0 : Int} {a1 : List (List Cell)} {p1 : Option Addr} {c2 : Nat} {Q : ((List Cell) × Int) → Prop} (R3 : RepSl (slEl eCell) I p1 c2 a1) (hd : ref15_Merge a0 a1 Q) :
  PFun prog 19 [.int .i64 a0, .slice p1 a1.length c2] I (o14_ Q) := by
 refine Fun.enter func19 r ntmps19 r (.c (.c .n)) fun w0 M => ?_
 refine .sr (.ks 2 r (.nilS [1, 0] r r (.seq (.sr (.ks 1 r ?_)))))
 have hw13 := W_ref02_Is (I := I) hd
 refine .callP call38 r hw13 r r fun v14 hv15 => ?_
 obtain ⟨r12, rfl, hd⟩ := hv15
 refine .ks 1 r (.nilS [15, 1, 0] r r (.condP r hd (fun hb16 hd => ?_) fun hb16 hd => ?_))
 · exact .sr (.ks 2 r (.nilS [5, 4] r r (.ret (pret results19 (.t r (.t r .n)) (.refl _) ⟨(([] : List Cell), 8), _, _, r, (.nil _ _ _), hd⟩))))
 refine .skipS [1, 0] r r (.seq (.sr (.ks 1 r (.nilS [6, 1, 0] r r (.block (.loop hd (fun (s122 : Int) c w => ∃ I_, IH.le I I_ ∧ Ok ⟨115, [], none⟩ [(0, .int .i64 a0), (1, .slice p1 a1.length c2), (6, .int .i64 s122)] c ∧ Sym w0 M I I_ [] w) (fun c w ho hs => ⟨I, (.refl _), ho.sub ⟨r, r, r, trivial⟩, hs.pick .n⟩) ?_))))))
 rintro s122 next123 hd c w hst
 obtain ⟨I124, hl125, hok, hsym⟩ := hst
 replace R3 := R3.mono hl125
 refine Cod.at hok hsym (.seq (.sr (.ks 2 r (.len un45 r r r r (.ks 1 r (.nilS [19, 6, 1, 0] r r (.condP r hd (fun hb127 hd => ?_) fun hb127 hd => ?_)))))))
 · refine .skipS [6, 1, 0] r r (.seq (.block (.sr (.ks 2 r ?_))))
   obtain ⟨h128, x129, hx130, hd⟩ := hd
   obtain ⟨b131, o132, cs133, e134, hC135, hr136⟩ := R3.2 _ _ hx130
   obtain ⟨p137, c138, rfl, R139⟩ := hr136
   refine .ixa un45 sz33 r e134 r h128 (idx_lt hx130 h128) r r (.ld1 (j := 0) isAgg33 hC135 r r r r r ?_)
   have hw141 := W_ref15_rises (I := I124) R139 hd
   refine .callP call60 r hw141 r r fun v142 hv143 => ?_
   obtain ⟨r140, rfl, hd⟩ := hv143
   refine .ks 1 r (.nilS [27, 6, 1, 0] r r (.condP r hd (fun hb144 hd => ?_) fun hb144 hd => ?_))
   · exact .sr (.ks 2 r (.nilS [5, 4] r r (.ret (pret results19 (.t r (.t r .n)) hl125 ⟨(([] : List Cell), 6), _, _, r, (.nil _ _ _), hd⟩))))
   exact .skipS [6, 1, 0] r r (.region (.ks 3 r (.nil' fun c w ho hs => ⟨(w64 (s122 + 1)), hd, I124, hl125, ho.sub ⟨r, r, r, trivial⟩, hs.pick .n⟩)))
 refine .exitS [1, 0] r r (.sr (.ks 1 r (.nilS [7, 1, 0] r r (.seq (.sr (.ks 1 r (.nilS [8, 7, 1, 0] r r (.block (.own0 eCell 59 ?_)))))))))
 refine .loop hd (fun (s : (List Cell) × Int) c w => match s with | (s2321, s2325) => ∃ I_ p2322 c2323, IH.le I124 I_ ∧ Ok ⟨115, [], none⟩ [(0, .int .i64 a0), (1, .slice p1 a1.length c2), (7, .slice p2322 s2321.length c2323), (8, .int .i64 s2325)] c ∧ Sym w0 M I I_ [OwnSl eCell 59 p2322 c2323 s2321] w) (fun c w ho hs => ⟨I124, _, _, (.refl _), ho.sub ⟨r, r, r, r, trivial⟩, hs.pick (.c .z .n)⟩) ?_
 rintro ⟨s2321, s2325⟩ next2327 hd c w hst
 obtain ⟨I2328, p2322, c2323, hl2329, hok, hsym⟩ := hst
 have le2330 := IH.le.trans hl125 hl2329
 replace R3 := R3.mono hl2329
 refine Cod.at hok hsym (.seq (.sr (.ks 2 r (.len un45 r r r r (.ks 1 r (.nilS [31, 8, 7, 1, 0] r r (.condP r hd (fun hb2332 hd => ?_) fun hb2332 hd => ?_)))))))
 · refine .skipS [8, 7, 1, 0] r r (.seq (.block (.sr (.ks 1 r (.nilS [9, 8, 7, 1, 0] r r (.block (.loop hd (fun (s : (List Cell) × Int) c w => match s with | (s3138, s3142) => ∃ I_ p3139 c3140, IH.le I2328 I_ ∧ Ok ⟨115, [], none⟩ [(0, .int .i64 a0), (1, .slice p1 a1.length c2), (7, .slice p3139 s3138.length c3140), (8, .int .i64 s2325), (9, .int .i64 s3142)] c ∧ Sym w0 M I I_ [OwnSl eCell 59 p3139 c3140 s3138] w) (fun c w ho hs => ⟨I2328, _, _, (.refl _), ho.sub ⟨r, r, r, r, r, trivial⟩, hs.pick (.c .z .n)⟩) ?_)))))))
   rintro ⟨s3138, s3142⟩ next3143 hd c w hst
   obtain ⟨I3144, p3139, c3140, hl3145, hok, hsym⟩ := hst
   have le3146 := IH.le.trans le2330 hl3145
   have le3147 := IH.le.trans hl2329 hl3145
   replace R3 := R3.mono hl3145
   refine Cod.at hok hsym (.seq (.sr (.ks 3 r ?_)))
   obtain ⟨h3161, x3162, hx3163, hd⟩ := hd
   obtain ⟨b3164, o3165, cs3166, e3167, hC3168, hr3169⟩ := R3.2 _ _ hx3163
   obtain ⟨p3170, c3171, rfl, R3172⟩ := hr3169
   refine .ixa un45 sz33 r e3167 r h3161 (idx_lt hx3163 h3161) r r (.ld1 (j := 0) isAgg33 hC3168 r r r r r (.len un33 r r r r (.ks 1 r (.nilS [40, 9, 8, 7, 1, 0] r r (.condP r hd (fun hb3173 hd => ?_) fun hb3173 hd => ?_)))))
   · refine .skipS [9, 8, 7, 1, 0] r r (.seq (.block (.sr (.ks 2 r ?_))))
     obtain ⟨h3197, x3198, hx3199, hd⟩ := hd
     obtain ⟨b3200, o3201, cs3202, e3203, hC3204, hr3205⟩ := R3.2 _ _ hx3199
     obtain ⟨p3206, c3207, rfl, R3208⟩ := hr3205
     refine .ixa un45 sz33 r e3203 r h3197 (idx_lt hx3199 h3197) r r (.ld1 (j := 0) isAgg33 hC3204 r r r r r (.ks 1 r ?_))
     obtain ⟨h3209, x3210, hx3211, hd⟩ := hd
     obtain ⟨b3212, o3213, cs3214, e3215, hC3216, hr3217⟩ := R3208.2 _ _ hx3211
     cases hr3217
     refine .ixa un33 sz59 r e3215 r h3209 (idx_lt hx3211 h3209) r r (.ldW ia59 sz59 hC3216 r r r r (.allocA zv59 r r fun b3218 => ?_))
     refine .storeA sz59 r r .z (.t (.t (.t (.t .nil)))) r r (.nilS [10, 9, 8, 7, 1, 0] r r (.sr (.ks 1 r (.nilS [11, 10, 9, 8, 7, 1, 0] r r (.seq ?_)))))
     refine Cod.joinQ (σ := Int) hd (fun (s3312 : Int) c w => ∃ I_, IH.le I3144 I_ ∧ Ok ⟨115, [], none⟩ [(0, .int .i64 a0), (1, .slice p1 a1.length c2), (7, .slice p3139 s3138.length c3140), (8, .int .i64 s2325), (9, .int .i64 s3142), (10, .pointer (some ⟨b3218, 0, none⟩)), (11, .int .i64 s3312)] c ∧ Sym w0 M I I_ [OwnSl eCell 59 p3139 c3140 s3138, pto b3218 (.cells #[.int .i64 x3210.Row, .int .i64 x3210.Col, .int .i64 x3210.Val.Hi, .int .u64 x3210.Val.Lo] 59 (0, 0))] w) (fun k3313 hd => ?_) ?_
     · skip
       refine .block (.loop hd (fun (s3341 : Int) c w => ∃ I_, IH.le I3144 I_ ∧ Ok ⟨115, [], none⟩ [(0, .int .i64 a0), (1, .slice p1 a1.length c2), (7, .slice p3139 s3138.length c3140), (8, .int .i64 s2325), (9, .int .i64 s3142), (10, .pointer (some ⟨b3218, 0, none⟩)), (11, .int .i64 s3341)] c ∧ Sym w0 M I I_ [OwnSl eCell 59 p3139 c3140 s3138, pto b3218 (.cells #[.int .i64 x3210.Row, .int .i64 x3210.Col, .int .i64 x3210.Val.Hi, .int .u64 x3210.Val.Lo] 59 (0, 0))] w) (fun c w ho hs => ⟨I3144, (.refl _), ho.sub ⟨r, r, r, r, r, r, r, trivial⟩, hs.pick (.c (.s .z) (.c .z .n))⟩) ?_)
       rintro s3341 next3342 hd c w hst
       obtain ⟨I3343, hl3344, hok, hsym⟩ := hst
       have le3345 := IH.le.trans le3146 hl3344
       have le3346 := IH.le.trans le3147 hl3344
       have le3347 := IH.le.trans hl3145 hl3344
       replace R3 := R3.mono hl3344
       refine Cod.at hok hsym (.seq (.seq (.ownF .z fun hne3348 => ?_)))
       refine .dr [0, 1, 2, 3, 4, 5, 6, 7, 8, 9, 10, 11] 12 (.fk 2 r (.g r r r (fun _ => .len un33 r r r r .mk) (.fk 2 r ?_)))
       refine splitP hd (fun hb3349 hd => ?_) fun hb3349 hd => ?_
       · refine .g r r r (fun _ => .gyes r r hb3349 (.move r r r .mk)) (.g r r r (fun _ => .gyes r r hb3349 (.move r r r .mk)) ?_)
         obtain ⟨h3350, x3351, hx3352, hd⟩ := hd
         obtain ⟨b3353, e3354⟩ := hne3348 (idx_ne hx3352)
         cases e3354
         refine .g r r r (fun _ => .gyes r r hb3349 (.ixa0 un33 sz59 r r h3350 (idx_lt hx3352 h3350) r r .mk)) (.g r r r (fun _ => .gyes r r hb3349 (.loA (j := 0) ia59 sz59 .z hx3352 r r (.t (.t (.t (.t .nil)))) r r r .mk)) (.g r r r (fun _ => .gyes r r hb3349 (.loadW ia59 sz59 r (.s .z) r r r .mk)) (.ww r fun ex => ?_)))
         have hw3356 := W_ref15_ahead (I := I3343) hd
         refine .gyes r r hb3349 (.callP call61 r hw3356 r r fun v3357 hv3358 => ?_)
         obtain ⟨r3355, rfl, hd⟩ := hv3358
         refine .so 2 r r r trivial (.g r r r (fun _ => .pickT r hb3349 r r r .mk) (.e2 12 (.nilS [61, 11, 10, 9, 8, 7, 1, 0] r r (.condP r hd (fun hb3359 hd => ?_) fun hb3359 hd => ?_))))
         · exact .skipS [11, 10, 9, 8, 7, 1, 0] r r (.block (.region (.ks 3 r (.nil' fun c w ho hs => ⟨(w64 (s3341 + 1)), hd, I3343, hl3344, ho.sub ⟨r, r, r, r, r, r, r, trivial⟩, hs.pick (.c .z (.c .z .n))⟩))))
         exact .exit fun c w ho hs => ⟨s3341, hd, I3343, hl3344, ho.sub ⟨r, r, r, r, r, r, r, trivial⟩, hs.pick (.c .z (.c .z .n))⟩
       refine .g r r r (fun _ => .gno r r hb3349 r r .mk) (.g r r r (fun _ => .gno r r hb3349 r r .mk) (.g r r r (fun _ => .gno r r hb3349 r r .mk) (.g r r r (fun _ => .gno r r hb3349 r r .mk) (.g r r r (fun _ => .gno r r hb3349 r r .mk) (.g r r r (fun _ => .gno r r hb3349 r r .mk) (.g r r r (fun _ => .pickF r hb3349 r r r .mk) (.e2 12 (.nilS [61, 11, 10, 9, 8, 7, 1, 0] r r (.condKF r r ?_)))))))))
       exact .exit fun c w ho hs => ⟨s3341, hd, I3343, hl3344, ho.sub ⟨r, r, r, r, r, r, r, trivial⟩, hs.pick (.c .z (.c .z .n))⟩
     rintro s3312 hd c w hst
     obtain ⟨I3360, hl3361, hok, hsym⟩ := hst
     have le3362 := IH.le.trans le3146 hl3361
     have le3363 := IH.le.trans le3147 hl3361
     have le3364 := IH.le.trans hl3145 hl3361
     replace R3 := R3.mono hl3361
     refine Cod.at hok hsym (.seq (.seq ?_))
     refine Cod.joinQ (σ := Bool) hd (fun (s3442 : Bool) c w => ∃ I_, IH.le I3360 I_ ∧ Ok ⟨115, [], none⟩ [(0, .int .i64 a0), (1, .slice p1 a1.length c2), (7, .slice p3139 s3138.length c3140), (8, .int .i64 s2325), (9, .int .i64 s3142), (10, .pointer (some ⟨b3218, 0, none⟩)), (11, .int .i64 s3312), (76, .bool s3442)] c ∧ Sym w0 M I I_ [OwnSl eCell 59 p3139 c3140 s3138, pto b3218 (.cells #[.int .i64 x3210.Row, .int .i64 x3210.Col, .int .i64 x3210.Val.Hi, .int .u64 x3210.Val.Lo] 59 (0, 0))] w) (fun k3443 hd => ?_) ?_
     · skip
       refine .ownF .z fun hne3444 => ?_
       refine .dr [0, 1, 2, 3, 4, 5, 6, 7, 8, 9, 10, 11, 12] 13 (.fk 2 r (.g r r r (fun _ => .len un33 r r r r .mk) (.fk 2 r ?_)))
       refine splitP hd (fun hb3445 hd => ?_) fun hb3445 hd => ?_
       · refine .g r r r (fun _ => .gyes r r hb3445 (.loadW ia59 sz59 r (.s .z) r r r .mk)) (.g r r r (fun _ => .gyes r r hb3445 (.move r r r .mk)) (.g r r r (fun _ => .gyes r r hb3445 (.move r r r .mk)) ?_))
         obtain ⟨h3446, x3447, hx3448, hd⟩ := hd
         obtain ⟨b3449, e3450⟩ := hne3444 (idx_ne hx3448)
         cases e3450
         refine .g r r r (fun _ => .gyes r r hb3445 (.ixa0 un33 sz59 r r h3446 (idx_lt hx3448 h3446) r r .mk)) (.g r r r (fun _ => .gyes r r hb3445 (.loA (j := 0) ia59 sz59 .z hx3448 r r (.t (.t (.t (.t .nil)))) r r r .mk)) (.ww r fun ex => ?_))
         have hw3452 := W_ref15_ahead (I := I3360) hd
         refine .gyes r r hb3445 (.callP call61 r hw3452 r r fun v3453 hv3454 => ?_)
         obtain ⟨r3451, rfl, hd⟩ := hv3454
         exact .so 2 r r r trivial (.g r r r (fun _ => .gyes r r hb3445 (.not r r r .mk)) (.g r r r (fun _ => .pickT r hb3445 r r r .mk) (.e2 13 (.nil' fun c w ho hs => ⟨(!r3451), hd, I3360, (.refl _), ho.sub ⟨r, r, r, r, r, r, r, r, trivial⟩, hs.pick (.c .z (.c .z .n))⟩))))
       exact .g r r r (fun _ => .gno r r hb3445 r r .mk) (.g r r r (fun _ => .gno r r hb3445 r r .mk) (.g r r r (fun _ => .gno r r hb3445 r r .mk) (.g r r r (fun _ => .gno r r hb3445 r r .mk) (.g r r r (fun _ => .gno r r hb3445 r r .mk) (.g r r r (fun _ => .gno r r hb3445 r r .mk) (.g r r r (fun _ => .gno r r hb3445 r r .mk) (.g r r r (fun _ => .pickF r hb3445 r r r .mk) (.e2 13 (.nil' fun c w ho hs => ⟨false, hd, I3360, (.refl _), ho.sub ⟨r, r, r, r, r, r, r, r, trivial⟩, hs.pick (.c .z (.c .z .n))⟩)))))))))
     rintro s3442 hd c w hst
     obtain ⟨I3455, hl3456, hok, hsym⟩ := hst
     have le3457 := IH.le.trans le3362 hl3456
     have le3458 := IH.le.trans le3363 hl3456
     have le3459 := IH.le.trans le3364 hl3456
     have le3460 := IH.le.trans hl3361 hl3456
     replace R3 := R3.mono hl3456
     refine Cod.at hok hsym (.condP r hd (fun hb3461 hd => ?_) fun hb3461 hd => ?_)
     · refine .seq (.ownF .z fun hne3462 => ?_)
       refine .dr [0, 1, 2, 3, 4, 5, 6, 7, 8, 9, 10, 11, 12, 13] 14 (.fk 5 r ?_)
       obtain ⟨h3463, x3464, hx3465, hd⟩ := hd
       obtain ⟨b3466, e3467⟩ := hne3462 (idx_ne hx3465)
       cases e3467
       refine .g r r r (fun _ => .ixa0 un33 sz59 r r h3463 (idx_lt hx3465 h3463) r r .mk) (.g r r r (fun _ => .fa un59 r sz57 r (o := s3312.toNat * 4 + 2) r r r .mk) (.g r r r (fun _ => .loA (j := 2) ia57 sz57 .z hx3465 r r (.s (.s (.t (.t .nil)))) r r r .mk) (.g r r r (fun _ => .fa un59 r sz57 r (o := 2) r r r .mk) (.g r r r (fun _ => .loadA ia57 sz57 r (.s .z) (.s (.s (.t (.t .nil)))) r r r .mk) (.ww r fun ex => ?_)))))
       have hw3469 := W_ref02_Add (I := I3455) hd
       refine .callP call42 r hw3469 r r fun v3470 hv3471 => ?_
       obtain ⟨r3468, rfl, hd⟩ := hv3471
       refine .so 2 r r r (.ck 2 r r trivial) ?_
       obtain ⟨h3472, x3473, hx3474, hd⟩ := hd
       refine .g r r r (fun _ => .ixa0 un33 sz59 r r h3472 (idx_lt hx3474 h3472) r r .mk) (.g r r r (fun _ => .fa un59 r sz57 r (o := s3312.toNat * 4 + 2) r r r .mk) (.ww r fun ex => ?_))
       exact .stOA (j := 2) (v' := ({ Row := x3473.Row, Col := x3473.Col, Val := r3468 } : Cell)) sz57 .z hx3474 r r r (.s (.s (.t (.t .nil)))) r r (.sn 2 r r r trivial (.e2 14 (.sub (E' := [(0, _), (1, _), (7, .slice (some ⟨b3466, 0, none⟩) (s3138.set s3312.toNat ({ Row := x3473.Row, Col := x3473.Col, Val := r3468 } : Cell)).length c3140), (8, _), (9, _), (10, _), (11, _), (76, _), (77, .slice (some ⟨b3466, 0, none⟩) (s3138.set s3312.toNat ({ Row := x3473.Row, Col := x3473.Col, Val := r3468 } : Cell)).length c3140), (78, _), (79, _), (80, .slice (some ⟨b3466, 0, none⟩) (s3138.set s3312.toNat ({ Row := x3473.Row, Col := x3473.Col, Val := r3468 } : Cell)).length c3140), (81, _), (82, _), (83, _), (84, _), (85, _), (86, _), (87, _), (88, _), (89, _)]) ⟨r, r, (by simp only [List.length_set]; rfl), r, r, r, r, r, (by simp only [List.length_set]; rfl), r, r, (by simp only [List.length_set]; rfl), r, r, r, r, r, r, r, r, r, trivial⟩ (.nilS [9, 8, 7, 1, 0] r r (.drop (.s .z) (.exitS [9, 8, 7, 1, 0] r r (.region (.ks 3 r (.nil' fun c w ho hs => ⟨((s3138.set s3312.toNat ({ Row := x3473.Row, Col := x3473.Col, Val := r3468 } : Cell)), w64 (s3142 + 1)), hd, I3455, _, _, le3459, ho.sub ⟨r, r, r, r, r, trivial⟩, hs.pick (.c .z .n)⟩)))))))))
     refine .skipS [11, 10, 9, 8, 7, 1, 0] r r (.sr (.ks 1 r (.build zv59 un59 BI59 .n (by exact trivial) r r (.buildSlice 1 un33 sz59 zv59 r r (.c r r r .n) r r fun b3481 => ?_))))
     obtain ⟨hl3483, hd⟩ := hd
     refine .append (ys := [({ Row := 0, Col := 0, Val := ({ Hi := 0, Lo := 0 } : Wide) } : Cell)]) 32 (.s .z) un33 un33 IN59 r r r r r r r r r (.box .z (.one r) r) hl3483 r r fun p3484 c3485 => ?_
     refine .ks 1 r (.nilS [7, 11, 10, 9, 8, 1, 0] r r (.drop (.s .z) (.seq (.sr (.ks 1 r (.len un33 r r r r (.ks 2 r (.nilS [12, 7, 11, 10, 9, 8, 1, 0] r r (.block ?_)))))))))
     refine .loop hd (fun (s : (List Cell) × Int) c w => match s with | (s3522, s3526) => ∃ I_ p3523 c3524, IH.le I3455 I_ ∧ Ok ⟨115, [], none⟩ [(0, .int .i64 a0), (1, .slice p1 a1.length c2), (7, .slice p3523 s3522.length c3524), (8, .int .i64 s2325), (9, .int .i64 s3142), (10, .pointer (some ⟨b3218, 0, none⟩)), (11, .int .i64 s3312), (12, .int .i64 s3526)] c ∧ Sym w0 M I I_ [OwnSl eCell 59 p3523 c3524 s3522, pto b3218 (.cells #[.int .i64 x3210.Row, .int .i64 x3210.Col, .int .i64 x3210.Val.Hi, .int .u64 x3210.Val.Lo] 59 (0, 0))] w) (fun c w ho hs => ⟨I3455, _, _, (.refl _), ho.sub ⟨r, r, r, r, r, r, r, r, trivial⟩, hs.pick (.c .z (.c .z .n))⟩) ?_
     rintro ⟨s3522, s3526⟩ next3527 hd c w hst
     obtain ⟨I3528, p3523, c3524, hl3529, hok, hsym⟩ := hst
     have le3530 := IH.le.trans le3457 hl3529
     have le3531 := IH.le.trans le3458 hl3529
     have le3532 := IH.le.trans le3459 hl3529
     have le3533 := IH.le.trans le3460 hl3529
     have le3534 := IH.le.trans hl3456 hl3529
     replace R3 := R3.mono hl3529
     refine Cod.at hok hsym (.seq (.sr (.ks 3 r (.nilS [99, 12, 11, 10, 9, 8, 7, 1, 0] r r (.condP r hd (fun hb3536 hd => ?_) fun hb3536 hd => ?_)))))
     · refine .skipS [12, 11, 10, 9, 8, 7, 1, 0] r r (.seq (.block (.region (.ks 5 r ?_))))
       obtain ⟨h3537, x3538, hx3539, hd⟩ := hd
       refine .ownNe .z (idx_ne hx3539) fun b3540 e3541 => ?_
       cases e3541
       refine .ixa0 un33 sz59 r r h3537 (idx_lt hx3539 h3537) r r (.loA (j := 0) ia59 sz59 .z hx3539 r r (.t (.t (.t (.t .nil)))) r r r ?_)
       obtain ⟨h3542, x3543, hx3544, hd⟩ := hd
       exact .ixa0 un33 sz59 r r h3542 (idx_lt hx3544 h3542) r r (.stOA (j := 0) (v' := x3538) sz59 .z hx3544 r r r (.t (.t (.t (.t .nil)))) r r (.sub (E' := [(0, _), (1, _), (7, .slice (some ⟨b3540, 0, none⟩) (s3522.set s3526.toNat x3538).length c3524), (8, _), (9, _), (10, _), (11, _), (12, _), (102, .slice (some ⟨b3540, 0, none⟩) (s3522.set s3526.toNat x3538).length c3524), (103, _), (104, .slice (some ⟨b3540, 0, none⟩) (s3522.set s3526.toNat x3538).length c3524), (105, _), (106, _), (107, _), (108, _), (109, _)]) ⟨r, r, (by simp only [List.length_set]; rfl), r, r, r, r, r, (by simp only [List.length_set]; rfl), r, (by simp only [List.length_set]; rfl), r, r, r, r, r, trivial⟩ (.nilS [12, 11, 10, 9, 8, 7, 1, 0] r r (.region (.ks 3 r (.nil' fun c w ho hs => ⟨((s3522.set s3526.toNat x3538), w64 (s3526 - 1)), hd, I3528, _, _, hl3529, ho.sub ⟨r, r, r, r, r, r, r, r, trivial⟩, hs.pick (.c .z (.c .z .n))⟩))))))
     refine .exitS [11, 10, 9, 8, 7, 1, 0] r r (.region (.ks 2 r (.loadW ia59 sz59 r (.s .z) r r r ?_)))
     obtain ⟨h3545, x3546, hx3547, hd⟩ := hd
     refine .ownNe .z (idx_ne hx3547) fun b3548 e3549 => ?_
     cases e3549
     exact .ixa0 un33 sz59 r r h3545 (idx_lt hx3547 h3545) r r (.stOA (j := 0) (v' := x3210) sz59 .z hx3547 r r r (.t (.t (.t (.t .nil)))) r r (.sub (E' := [(0, _), (1, _), (7, .slice (some ⟨b3548, 0, none⟩) (s3522.set s3312.toNat x3210).length c3524), (8, _), (9, _), (10, _), (11, _), (110, .slice (some ⟨b3548, 0, none⟩) (s3522.set s3312.toNat x3210).length c3524), (111, _), (112, _), (113, _)]) ⟨r, r, (by simp only [List.length_set]; rfl), r, r, r, r, (by simp only [List.length_set]; rfl), r, r, r, trivial⟩ (.nilS [9, 8, 7, 1, 0] r r (.drop (.s .z) (.region (.ks 3 r (.nil' fun c w ho hs => ⟨((s3522.set s3312.toNat x3210), w64 (s3142 + 1)), hd, I3528, _, _, le3532, ho.sub ⟨r, r, r, r, r, trivial⟩, hs.pick (.c .z .n)⟩)))))))
   exact .exitS [8, 7, 1, 0] r r (.region (.ks 3 r (.nil' fun c w ho hs => ⟨(s3138, w64 (s2325 + 1)), hd, I3144, _, _, le3147, ho.sub ⟨r, r, r, r, trivial⟩, hs.pick (.c .z .n)⟩)))
 refine .exitS [7] r r (.sr (.ks 3 r (.nilS [5, 4] r r (.pub .z fun I3550 hl3551 R3552 => ?_))))
 have le3553 := IH.le.trans le2330 hl3551
 have le3554 := IH.le.trans hl2329 hl3551
 exact .ret (pret results19 (.t r (.t r .n)) le3553 ⟨(s2321, 0), _, _, r, R3552, hd⟩)

theorem W_law15_GemmMerges {I : IH} {a0 : Int} {a1 : List (List Cell)} {a2 : Int × Int} {p1 : Option Addr} {c2 : Nat} {Q : Bool → Prop} (R3 : RepSl (slEl eCell) I p1 c2 a1) (hd : law15_GemmMerges a0 a1 a2 Q) :
  PFun prog 4 [.int .i64 a0, .slice p1 a1.length c2, .agg #[.int .i64 a2.1, .int .i64 a2.2]] I (fun _ => o1_ Q) := by
 refine Fun.enter func4 r ntmps4 r (.c (.c (.c .n))) fun w0 M => ?_
 refine .sr (.boxA r r r fun b6 => ?_)
 refine .ks 1 r (.nilS [5, 1, 0] r r (.seq ?_))
 refine Cod.joinQ (σ := (List (List Cell))) hd (fun (s30 : (List (List Cell))) c w => ∃ I_ p31 c32, IH.le I I_ ∧ RepSl (slEl eCell) I_ p31 c32 s30 ∧ Ok ⟨109, [], none⟩ [(0, .int .i64 a0), (1, .slice p31 s30.length c32), (5, .pointer (some ⟨b6, 0, none⟩))] c ∧ Sym w0 M I I_ [pto b6 (.cells #[.int .i64 a2.1, .int .i64 a2.2] 46 (0, 0))] w) (fun k34 hd => ?_) ?_
 · skip
   refine .sr (.ks 1 r (.len un45 r r r r (.ks 1 r (.nilS [21, 5, 1, 0] r r (.condP r hd (fun hb35 hd => ?_) fun hb35 hd => ?_)))))
   · refine .region (.ks 1 r ?_)
     obtain ⟨h36, h37, h38, hd⟩ := hd
     have h44 : Int.toNat 0 ≤ Int.toNat 6 := by omega
     have h45 : Int.toNat 6 ≤ a1.length := by omega
     obtain ⟨p39, c40, e42, e43, R41⟩ := RepSl.sliceW R3 (Int.toNat 0) (Int.toNat 6) c2 h44 h45 (.inl rfl)
     exact .sliceW (L := Int.toNat 0) (H := Int.toNat 6) (cm := c2) un45 sz33 r r R3.1 r r r (.inl ⟨r, r⟩) (.inr ⟨_, _, r, (by omega), r⟩) (.inl r) h44 h45 r e42 e43 r r (.ks 1 r (.nil' fun c w ho hs => ⟨((a1.take (Int.toNat 6)).drop (Int.toNat 0)), hd, I, _, _, (.refl _), R41, ho.sub ⟨r, r, r, trivial⟩, hs.pick (.c .z .n)⟩))
   exact .skip' fun c w ho hs => ⟨a1, hd, I, _, _, (.refl _), R3, ho.sub ⟨r, r, r, trivial⟩, hs.pick (.c .z .n)⟩
 rintro s30 hd c w hst
 obtain ⟨I46, p31, c32, hl47, R33, hok, hsym⟩ := hst
 refine Cod.at hok hsym (.sr (.ks 1 r (.nilS [7, 5, 1, 0] r r (.seq (.sr (.ks 1 r (.nilS [8, 7, 5, 1, 0] r r (.block (.own0 (slEl eCell) 33 ?_)))))))))
 refine .loop hd (fun (s : (List (List Cell)) × Int) c w => match s with | (s337, s341) => ∃ I_ p338 c339, IH.le I46 I_ ∧ Ok ⟨109, [], none⟩ [(0, .int .i64 a0), (1, .slice p31 s30.length c32), (5, .pointer (some ⟨b6, 0, none⟩)), (7, .slice p338 s337.length c339), (8, .int .i64 s341)] c ∧ Sym w0 M I I_ [pto b6 (.cells #[.int .i64 a2.1, .int .i64 a2.2] 46 (0, 0)), OwnSl (slEl eCell) 33 p338 c339 s337] w) (fun c w ho hs => ⟨I46, _, _, (.refl _), ho.sub ⟨r, r, r, r, r, trivial⟩, hs.pick (.c (.s .z) (.c .z .n))⟩) ?_
 rintro ⟨s337, s341⟩ next343 hd c w hst
 obtain ⟨I344, p338, c339, hl345, hok, hsym⟩ := hst
 have le346 := IH.le.trans hl47 hl345
 replace R33 := R33.mono hl345
 refine Cod.at hok hsym (.seq (.sr (.ks 2 r (.len un45 r r r r (.ks 1 r (.nilS [27, 8, 7, 5, 1, 0] r r (.condP r hd (fun hb348 hd => ?_) fun hb348 hd => ?_)))))))
 · refine .skipS [8, 7, 5, 1, 0] r r (.seq (.block (.sr (.ks 2 r ?_))))
   obtain ⟨h361, x362, hx363, hd⟩ := hd
   obtain ⟨b364, o365, cs366, e367, hC368, hr369⟩ := R33.2 _ _ hx363
   obtain ⟨p370, c371, rfl, R372⟩ := hr369
   refine .ixa un45 sz33 r e367 r h361 (idx_lt hx363 h361) r r (.ld1 (j := 0) isAgg33 hC368 r r r r r (.ks 1 r (.nilS [9, 8, 7, 5, 1, 0] r r (.seq (.sr (.ks 1 r (.len un33 r r r r (.ks 1 r (.nilS [36, 9, 8, 7, 5, 1, 0] r r ?_)))))))))
   refine .condP r hd (fun hb373 hd => ?_) fun hb373 hd => ?_
   · refine .region (.ks 1 r ?_)
     obtain ⟨h374, h375, h376, hd⟩ := hd
     have h382 : Int.toNat 0 ≤ Int.toNat 25 := by omega
     have h383 : Int.toNat 25 ≤ x362.length := by omega
     obtain ⟨p377, c378, e380, e381, R379⟩ := RepSl.sliceW R372 (Int.toNat 0) (Int.toNat 25) c371 h382 h383 (.inl rfl)
     refine .sliceW (L := Int.toNat 0) (H := Int.toNat 25) (cm := c371) un33 sz59 r r R372.1 r r r (.inl ⟨r, r⟩) (.inr ⟨_, _, r, (by omega), r⟩) (.inl r) h382 h383 r e380 e381 r r (.ks 1 r (.nilS [9, 8, 7, 5, 1, 0] r r (.region (.ks 2 r (.buildSlice 1 un45 sz33 zeroValue33 r r (.c r r r .n) r r fun b384 => ?_)))))
     obtain ⟨hl386, hd⟩ := hd
     refine .append (ys := [((x362.take (Int.toNat 25)).drop (Int.toNat 0))]) 24 (.s (.s .z)) un45 un45 IN33 r r r r r r r r r (.box .z (.one ⟨_, _, r, R379⟩) r) hl386 r r fun p387 c388 => ?_
     exact .ks 1 r (.nilS [7, 8, 5, 1, 0] r r (.drop (.s .z) (.region (.ks 3 r (.nil' fun c w ho hs => ⟨((s337 ++ ([((x362.take (Int.toNat 25)).drop (Int.toNat 0))])), w64 (s341 + 1)), hd, I344, _, _, hl345, ho.sub ⟨r, r, r, r, r, trivial⟩, hs.pick (.c (.s .z) (.c .z .n))⟩)))))
   refine .skipS [9, 8, 7, 5, 1, 0] r r (.region (.ks 2 r (.buildSlice 1 un45 sz33 zeroValue33 r r (.c r r r .n) r r fun b390 => ?_)))
   obtain ⟨hl392, hd⟩ := hd
   refine .append (ys := [x362]) 24 (.s (.s .z)) un45 un45 IN33 r r r r r r r r r (.box .z (.one ⟨_, _, r, R372⟩) r) hl392 r r fun p393 c394 => ?_
   exact .ks 1 r (.nilS [7, 8, 5, 1, 0] r r (.drop (.s .z) (.region (.ks 3 r (.nil' fun c w ho hs => ⟨((s337 ++ ([x362])), w64 (s341 + 1)), hd, I344, _, _, hl345, ho.sub ⟨r, r, r, r, r, trivial⟩, hs.pick (.c (.s .z) (.c .z .n))⟩)))))
 refine .exitS [7, 5, 0] r r (.sr (.ks 2 r (.pub (.s .z) fun I413 hl414 R415 => ?_)))
 have le416 := IH.le.trans le346 hl414
 have le417 := IH.le.trans hl345 hl414
 have hw427 := W_gemm_Merge (I := I413) R415 hd
 refine .call call18 r hw427 r r fun v422 I419 hl420 hv421 => ?_
 obtain ⟨r418, p424, c425, rfl, R426, hd⟩ := hv421
 have le428 := IH.le.trans le416 hl420
 have le429 := IH.le.trans le417 hl420
 replace R415 := R415.mono hl420
 refine .ks 5 r (.nilS [11, 10, 7, 5, 0] r r (.sr (.ks 2 r ?_)))
 have hw451 := W_ref15_Merge (I := I419) R415 hd
 refine .call call19 r hw451 r r fun v446 I443 hl444 hv445 => ?_
 obtain ⟨r442, p448, c449, rfl, R450, hd⟩ := hv445
 have le452 := IH.le.trans le428 hl444
 have le453 := IH.le.trans le429 hl444
 replace R415 := R415.mono hl444
 replace R426 := R426.mono hl444
 refine .ks 5 r (.nilS [13, 12, 11, 10, 7, 5, 0] r r (.seq (.sr ?_)))
 have hw466 := W_law15_live (I := I443) hd
 refine .callP call15 r hw466 r r fun v467 hv468 => ?_
 obtain ⟨r465, rfl, hd⟩ := hv468
 refine .ks 2 r ?_
 refine splitP hd (fun hb469 hd => ?_) fun hb469 hd => ?_
 · rw [hb469]
   exact .ks 10 r (.nilS [67, 7, 5, 0] r r (.condKT r r (.sr (.ks 1 r (.nilS [6] r r (.drop .z (.ret (pret results4 (.t r .n) le452 ⟨false, r, hd⟩))))))))
 rw [hb469]
 refine .ks 2 r ?_
 have hw471 := W_ref15_SameCells (I := I443) R426 R450 hd
 refine .gyes r r r (.callP call16 r hw471 r r fun v472 hv473 => ?_)
 obtain ⟨r470, rfl, hd⟩ := hv473
 refine .ks 3 r ?_
 refine splitP hd (fun hb474 hd => ?_) fun hb474 hd => ?_
 · rw [hb474]
   exact .ks 4 r (.nilS [67, 7, 5, 0] r r (.condKT r r (.sr (.ks 1 r (.nilS [6] r r (.drop .z (.ret (pret results4 (.t r .n) le452 ⟨false, r, hd⟩))))))))
 rw [hb474]
 refine .ks 4 r (.nilS [67, 7, 5, 0] r r (.condP r hd (fun hb475 hd => ?_) fun hb475 hd => ?_))
 · exact .sr (.ks 1 r (.nilS [6] r r (.drop .z (.ret (pret results4 (.t r .n) le452 ⟨false, r, hd⟩)))))
 refine .skipS [7, 5, 0] r r (.seq (.sr (.ks 1 r (.nilS [14, 7, 5, 0] r r (.block (.loop hd (fun (s755 : Int) c w => ∃ I_, IH.le I443 I_ ∧ Ok ⟨109, [], none⟩ [(0, .int .i64 a0), (5, .pointer (some ⟨b6, 0, none⟩)), (7, .slice p338 s337.length c339), (14, .int .i64 s755)] c ∧ Sym w0 M I I_ [pto b6 (.cells #[.int .i64 a2.1, .int .i64 a2.2] 46 (0, 0))] w) (fun c w ho hs => ⟨I443, (.refl _), ho.sub ⟨r, r, r, r, trivial⟩, hs.pick (.c .z .n)⟩) ?_))))))
 rintro s755 next756 hd c w hst
 obtain ⟨I757, hl758, hok, hsym⟩ := hst
 have le759 := IH.le.trans le452 hl758
 have le760 := IH.le.trans le453 hl758
 replace R415 := R415.mono hl758
 refine Cod.at hok hsym (.seq (.sr (.ks 2 r (.len un45 r r r r (.ks 1 r (.nilS [71, 14, 7, 5, 0] r r (.condP r hd (fun hb762 hd => ?_) fun hb762 hd => ?_)))))))
 · refine .skipS [14, 7, 5, 0] r r (.seq (.block (.seq (.dr [0, 1, 2, 3, 4, 5, 6, 7, 8, 13, 9, 10, 11, 12, 999, 14] 15 (.fk 1 r (.g r r r (fun _ => .ixArr (i := 0) un46 sz3 r r (by decide) (o := 0) r r r .mk) (.g r r r (fun _ => .load1 ia3 r .z r r r .mk) (.g r r r (fun _ => .ixArr (i := 1) un46 sz3 r r (by decide) (o := 1) r r r .mk) (.g r r r (fun _ => .load1 ia3 r .z r r r .mk) ?_)))))))))
   refine .fk 2 r ?_
   obtain ⟨h796, x797, hx798, hd⟩ := hd
   obtain ⟨b799, o800, cs801, e802, hC803, hr804⟩ := R415.2 _ _ hx798
   obtain ⟨p805, c806, rfl, R807⟩ := hr804
   refine .g r r r (fun _ => .ixa un45 sz33 r e802 r h796 (idx_lt hx798 h796) r r .mk) (.g r r r (fun _ => .ld1 (j := 0) isAgg33 hC803 r r r r r .mk) (.a (fun b => .pointer (some ⟨b, 0, none⟩)) (fun b => pto b (.cells #[.int .i64 0, .int .i64 0, .slice none 0 0, .slice none 0 0, .slice none 0 0] 30 (0, 0))) r r r r (fun _ L hL ex => .allocA zv30 r r fun b => .mk (val := fun b => .pointer (some ⟨b, 0, none⟩)) (atom := fun b => pto b (.cells #[.int .i64 0, .int .i64 0, .slice none 0 0, .slice none 0 0, .slice none 0 0] 30 (0, 0))) hL b) (.ww r fun ex => ?_)))
   have hw824 := W_gemm_Done (I := I757) R807 hd
   refine .call call20 r hw824 r r fun v813 I810 hl811 hv812 => ?_
   obtain ⟨r809, p815, c816, p818, c819, p821, c822, rfl, R817, R820, R823, hd⟩ := hv812
   have le825 := IH.le.trans le759 hl811
   have le826 := IH.le.trans le760 hl811
   have le827 := IH.le.trans hl758 hl811
   replace R415 := R415.mono hl811
   replace R807 := R807.mono hl811
   replace hC803 := hC803.mono hl811
   refine .so 1 r r r trivial (.fk 3 r (.b r fun b828 => DrawD.nop (.ww r fun ex => ?_)))
   refine .storeA sz30 r r (.s .z) (.t (.t (.t (.t (.t .nil))))) r r (.sn 2 r r r (.ck 1 r r trivial) (.e2 15 (.ks 1 r (.nilS [16, 15, 14, 7, 5, 0] r r (.seq (.dr [0, 1, 2, 3, 4, 5, 6, 7, 8, 13, 9, 10, 11, 12, 999, 14] 15 (.fk 1 r (.g r r r (fun _ => .ixArr (i := 0) un46 sz3 r r (by decide) (o := 0) r r r .mk) (.g r r r (fun _ => .load1 ia3 r .z r r r .mk) ?_)))))))))
   refine .g r r r (fun _ => .ixArr (i := 1) un46 sz3 r r (by decide) (o := 1) r r r .mk) (.g r r r (fun _ => .load1 ia3 r .z r r r .mk) (.fk 2 r ?_))
   obtain ⟨h862, x863, hx864, hd⟩ := hd
   obtain ⟨b865, o866, cs867, e868, hC869, hr870⟩ := R415.2 _ _ hx864
   obtain ⟨p871, c872, rfl, R873⟩ := hr870
   refine .g r r r (fun _ => .ixa un45 sz33 r e868 r h862 (idx_lt hx864 h862) r r .mk) (.g r r r (fun _ => .ld1 (j := 0) isAgg33 hC869 r r r r r .mk) (.a (fun b => .pointer (some ⟨b, 0, none⟩)) (fun b => pto b (.cells #[.int .i64 0, .int .i64 0, .slice none 0 0, .slice none 0 0, .slice none 0 0] 30 (0, 0))) r r r r (fun _ L hL ex => .allocA zv30 r r fun b => .mk (val := fun b => .pointer (some ⟨b, 0, none⟩)) (atom := fun b => pto b (.cells #[.int .i64 0, .int .i64 0, .slice none 0 0, .slice none 0 0, .slice none 0 0] 30 (0, 0))) hL b) (.ww r fun ex => ?_)))
   have hw890 := W_ref15_Done (I := I810) R873 hd
   refine .call call21 r hw890 r r fun v879 I876 hl877 hv878 => ?_
   obtain ⟨r875, p881, c882, p884, c885, p887, c888, rfl, R883, R886, R889, hd⟩ := hv878
   have le891 := IH.le.trans le825 hl877
   have le892 := IH.le.trans le826 hl877
   have le893 := IH.le.trans le827 hl877
   replace R415 := R415.mono hl877
   replace R817 := R817.mono hl877
   replace R820 := R820.mono hl877
   replace R823 := R823.mono hl877
   replace R873 := R873.mono hl877
   replace hC869 := hC869.mono hl877
   refine .so 2 r r r trivial (.fk 3 r (.b r fun b894 => DrawD.nop (.ww r fun ex => ?_)))
   refine .storeA sz30 r r (.s (.s .z)) (.t (.t (.t (.t (.t .nil))))) r r (.sn 3 r r r (.ck 1 r r trivial) (.e2 15 (.ks 1 r (.nilS [18, 17, 16, 15, 14, 7, 5, 0] r r (.sr (.loadW ia30 sz30 r (.s .z) r r r (.loadW ia30 sz30 r (.s (.s .z)) r r r ?_)))))))
   have hw896 := W_ref07_Same (I := I876) R817 R820 R823 R883 R886 R889 hd
   refine .callP call17 r hw896 r r fun v897 hv898 => ?_
   obtain ⟨r895, rfl, hd⟩ := hv898
   refine .ks 2 r ?_
   refine splitP hd (fun hb899 hd => ?_) fun hb899 hd => ?_
   · rw [hb899]
     exact .ks 4 r (.nilS [108, 14, 7, 5, 0] r r (.drop (.s .z) (.drop (.s .z) (.condKT r r (.sr (.ks 1 r (.nilS [6] r r (.drop .z (.ret (pret results4 (.t r .n) le891 ⟨false, r, hd⟩))))))))))
   rw [hb899]
   refine .ks 4 r (.nilS [108, 14, 7, 5, 0] r r (.drop (.s .z) (.drop (.s .z) (.condP r hd (fun hb900 hd => ?_) fun hb900 hd => ?_))))
   · exact .sr (.ks 1 r (.nilS [6] r r (.drop .z (.ret (pret results4 (.t r .n) le891 ⟨false, r, hd⟩)))))
   exact .skipS [14, 7, 5, 0] r r (.region (.ks 3 r (.nil' fun c w ho hs => ⟨(w64 (s755 + 1)), hd, I876, le893, ho.sub ⟨r, r, r, r, trivial⟩, hs.pick (.c .z .n)⟩)))
 exact .exitS [] r r (.drop .z (.sr (.ks 1 r (.nilS [6] r r (.ret (pret results4 (.t r .n) le759 ⟨true, r, hd⟩))))))

end Go.Proofs.YtjabmpfcpekpdaaGreat
